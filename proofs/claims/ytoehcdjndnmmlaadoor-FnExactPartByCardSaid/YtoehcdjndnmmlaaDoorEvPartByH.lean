/- Parts of letters: they are compared and held; what both functions hand out. -/
import Derived.Test.YtoehcdjndnmmlaaDoorEvPartBy
set_option linter.unusedVariables false
set_option linter.unusedSimpArgs false
namespace Go.Proofs.YtoehcdjndnmmlaaDoor.Ev
/-- A row that stands without memory. -/
structure Flat (R : AV) : Prop where
  one : R.one = true
  cells : R.cells = [R]
  ids : ∀ d, ids d R = []
  rnm : ∀ f d, rnm f (d + 1) R = some R
  fz : ∀ H d, fz H (d + 1) R = some (R, [])
theorem flat_nil : Flat (.v (.slice none 0 0)) := ⟨rfl, rfl, fun d => by cases d <;> rfl, fun _ _ => rfl, fun _ _ => rfl⟩
theorem flat_lst (k : Nat) (xs : List AV) : Flat (.lst k xs) := ⟨rfl, rfl, fun d => by cases d <;> rfl, fun _ _ => rfl, fun _ _ => rfl⟩
theorem flat_fv (l : List Nat) : Flat (fv l) := by cases l <;> first | exact flat_nil | exact flat_lst _ _
theorem eq3 (R S T R' S' T' : AV) (r : Flat R) (s : Flat S) (t : Flat T) (r' : Flat R') (s' : Flat S') (t' : Flat T') (h1 : ev E0 23 [R, R'] [] = some (bl true, [])) (h2 : ev E0 23 [S, S'] [] = some (bl true, [])) (h3 : ev E0 23 [T, T'] [] = some (bl true, [])) :
    ev E0 44 [.agg [R, S, T], .agg [R', S', T']] [] = some (bl true, []) := by
  rw [e44]
  unfold runF
  have hw1 : IntKind.i64.wrap 1 = 1 := by decide
  have hw2 : IntKind.i64.wrap 2 = 2 := by decide
  have hw3 : IntKind.i64.wrap 3 = 3 := by decide
  have s0 : bd E0 (ev E0) loopW 0 [2, 3, 5] L44b0 ⟨[(2, .ptr 0 0 0), (3, .ptr 1 0 0), (5, i64 0)], [some ⟨51, 3, 0, false, [.agg [R, S, T]]⟩, some ⟨51, 3, 0, false, [.agg [R', S', T']]⟩]⟩ = some (.nrm, ⟨[(2, .ptr 0 0 0), (3, .ptr 1 0 0), (5, i64 1)], [some ⟨51, 3, 0, false, [.agg [R, S, T]]⟩, some ⟨51, 3, 0, false, [.agg [R', S', T']]⟩]⟩) := by
    simp -implicitDefEqProofs [bd, L44b0, hw1, h1, r.ids, s.ids, t.ids, r'.ids, s'.ids, t'.ids, r.rnm, s.rnm, t.rnm, r'.rnm, s'.rnm, t'.rnm, r.fz, r'.fz]
  have s1 : bd E0 (ev E0) loopW 0 [2, 3, 5] L44b0 ⟨[(2, .ptr 0 0 0), (3, .ptr 1 0 0), (5, i64 1)], [some ⟨51, 3, 0, false, [.agg [R, S, T]]⟩, some ⟨51, 3, 0, false, [.agg [R', S', T']]⟩]⟩ = some (.nrm, ⟨[(2, .ptr 0 0 0), (3, .ptr 1 0 0), (5, i64 2)], [some ⟨51, 3, 0, false, [.agg [R, S, T]]⟩, some ⟨51, 3, 0, false, [.agg [R', S', T']]⟩]⟩) := by
    simp -implicitDefEqProofs [bd, L44b0, hw2, h2, r.ids, s.ids, t.ids, r'.ids, s'.ids, t'.ids, r.rnm, s.rnm, t.rnm, r'.rnm, s'.rnm, t'.rnm, s.fz, s'.fz]
  have s2 : bd E0 (ev E0) loopW 0 [2, 3, 5] L44b0 ⟨[(2, .ptr 0 0 0), (3, .ptr 1 0 0), (5, i64 2)], [some ⟨51, 3, 0, false, [.agg [R, S, T]]⟩, some ⟨51, 3, 0, false, [.agg [R', S', T']]⟩]⟩ = some (.nrm, ⟨[(2, .ptr 0 0 0), (3, .ptr 1 0 0), (5, i64 3)], [some ⟨51, 3, 0, false, [.agg [R, S, T]]⟩, some ⟨51, 3, 0, false, [.agg [R', S', T']]⟩]⟩) := by
    simp -implicitDefEqProofs [bd, L44b0, hw3, h3, r.ids, s.ids, t.ids, r'.ids, s'.ids, t'.ids, r.rnm, s.rnm, t.rnm, r'.rnm, s'.rnm, t'.rnm, t.fz, t'.fz]
  have hl : packX 0 [4] (loopW (bd E0 (ev E0) loopW 0 [2, 3, 5] L44b0) ⟨[(2, .ptr 0 0 0), (3, .ptr 1 0 0), (5, i64 0)], [some ⟨51, 3, 0, false, [.agg [R, S, T]]⟩, some ⟨51, 3, 0, false, [.agg [R', S', T']]⟩]⟩) = some (.ext 0, ⟨[], []⟩) := by
    rw [loopW_eq, s0]
    show packX _ _ (loopW _ _) = _
    rw [loopW_eq, s1]
    show packX _ _ (loopW _ _) = _
    rw [loopW_eq, s2]
    show packX _ _ (loopW _ _) = _
    rw [loopW_eq]
    generalize loopW (bd E0 (ev E0) loopW 0 [2, 3, 5] L44b0) = K
    simp -implicitDefEqProofs [bd, L44b0]
  simp -implicitDefEqProofs [L44, hl, -elemOk, elem3 r.one s.one t.one, elem3 r'.one s'.one t'.one, r.ids, s.ids, t.ids, r'.ids, s'.ids, t'.ids, r.rnm, s.rnm, t.rnm, r'.rnm, s'.rnm, t'.rnm]
theorem held3 (R S T : AV) (c0' c1 c2 c3 : Int) (r : Flat R) (s : Flat S) (t : Flat T) (h1 : ev E0 30 [R, i64 c0'] [] = some (i64 c1, [])) (h2 : ev E0 30 [S, i64 c1] [] = some (i64 c2, [])) (h3 : ev E0 30 [T, i64 c2] [] = some (i64 c3, [])) (n1 : ¬ c1 < 0) (n2 : ¬ c2 < 0) (n3 : ¬ c3 < 0) :
    ev E0 46 [.agg [R, S, T], i64 c0'] [] = some (i64 c3, []) := by
  rw [e46]
  unfold runF
  have hw1 : IntKind.i64.wrap 1 = 1 := by decide
  have hw2 : IntKind.i64.wrap 2 = 2 := by decide
  have hw3 : IntKind.i64.wrap 3 = 3 := by decide
  have s0 : bd E0 (ev E0) loopW 0 [1, 2, 5] L46b0 ⟨[(1, i64 c0'), (2, .ptr 0 0 0), (5, i64 0)], [some ⟨51, 3, 0, false, [.agg [R, S, T]]⟩]⟩ = some (.nrm, ⟨[(1, i64 c1), (2, .ptr 0 0 0), (5, i64 1)], [some ⟨51, 3, 0, false, [.agg [R, S, T]]⟩]⟩) := by
    simp -implicitDefEqProofs [bd, L46b0, hw1, h1, n1, r.ids, s.ids, t.ids, r.rnm, s.rnm, t.rnm, r.fz]
  have s1 : bd E0 (ev E0) loopW 0 [1, 2, 5] L46b0 ⟨[(1, i64 c1), (2, .ptr 0 0 0), (5, i64 1)], [some ⟨51, 3, 0, false, [.agg [R, S, T]]⟩]⟩ = some (.nrm, ⟨[(1, i64 c2), (2, .ptr 0 0 0), (5, i64 2)], [some ⟨51, 3, 0, false, [.agg [R, S, T]]⟩]⟩) := by
    simp -implicitDefEqProofs [bd, L46b0, hw2, h2, n2, r.ids, s.ids, t.ids, r.rnm, s.rnm, t.rnm, s.fz]
  have s2 : bd E0 (ev E0) loopW 0 [1, 2, 5] L46b0 ⟨[(1, i64 c2), (2, .ptr 0 0 0), (5, i64 2)], [some ⟨51, 3, 0, false, [.agg [R, S, T]]⟩]⟩ = some (.nrm, ⟨[(1, i64 c3), (2, .ptr 0 0 0), (5, i64 3)], [some ⟨51, 3, 0, false, [.agg [R, S, T]]⟩]⟩) := by
    simp -implicitDefEqProofs [bd, L46b0, hw3, h3, n3, r.ids, s.ids, t.ids, r.rnm, s.rnm, t.rnm, t.fz]
  have hl : packX 0 [1, 4] (loopW (bd E0 (ev E0) loopW 0 [1, 2, 5] L46b0) ⟨[(1, i64 c0'), (2, .ptr 0 0 0), (5, i64 0)], [some ⟨51, 3, 0, false, [.agg [R, S, T]]⟩]⟩) = some (.ext 0, ⟨[(1, i64 c3)], []⟩) := by
    rw [loopW_eq, s0]
    show packX _ _ (loopW _ _) = _
    rw [loopW_eq, s1]
    show packX _ _ (loopW _ _) = _
    rw [loopW_eq, s2]
    show packX _ _ (loopW _ _) = _
    rw [loopW_eq]
    generalize loopW (bd E0 (ev E0) loopW 0 [1, 2, 5] L46b0) = K
    simp -implicitDefEqProofs [bd, L46b0]
  simp -implicitDefEqProofs [L46, hl, -elemOk, elem3 r.one s.one t.one, r.ids, s.ids, t.ids, r.rnm, s.rnm, t.rnm]
theorem held_nilc (c : Int) : ev E0 30 [.v (.slice none 0 0), i64 c] [] = some (i64 c, []) := by
  rw [e30]
  unfold runF
  simp -implicitDefEqProofs [L30]
  rw [loopW_eq]
  simp -implicitDefEqProofs [bd, L30b0]
theorem eq_nils : ev E0 23 [.v (.slice none 0 0), .v (.slice none 0 0)] [] = some (bl true, []) := by
  rw [e23]
  unfold runF
  simp -implicitDefEqProofs [L23]
  rw [loopW_eq]
  simp -implicitDefEqProofs [bd, L23b0]
/-- A row that was marked. -/
def hv (c : Int) (l : List Nat) : AV := if l = [] then .v (.slice none 0 0) else .lst 1 (i64s (seqI c l.length))
theorem hv_nil (c : Int) : hv c [] = .v (.slice none 0 0) := rfl
theorem hv_ne (c : Int) {l : List Nat} (h : ¬ l = []) : hv c l = .lst 1 (i64s (seqI c l.length)) := if_neg h
theorem flat_hv (c : Int) (l : List Nat) : Flat (hv c l) := by
  unfold hv
  split
  · exact flat_nil
  · exact flat_lst _ _
theorem held_hv (c : Int) (l : List Nat) (h0 : 0 ≤ c) (h1 : c + l.length ≤ 140737488355328) : ev E0 30 [hv c l, i64 c] [] = some (i64 (c + l.length), []) := by
  unfold hv
  split
  · rename_i h
    subst h
    rw [held_nilc]
    simp
  · exact held_ints c l.length h0 h1
theorem fv_nil : fv [] = .v (.slice none 0 0) := rfl
theorem fv_ne {l : List Nat} (h : ¬ l = []) : fv l = .lst 1 (i64n l) := by
  cases l with
  | nil => exact absurd rfl h
  | cons x r => rfl
theorem rv_nil (id : Nat) : rv id [] = .v (.slice none 0 0) := rfl
theorem rv_ne (id : Nat) {l : List Nat} (h : ¬ l = []) : rv id l = .sl id 0 l.length := by
  cases l with
  | nil => exact absurd rfl h
  | cons x r => rfl
theorem rb_nil : rb [] = [] := rfl
theorem rb_ne {l : List Nat} (h : ¬ l = []) : rb l = [some ⟨3, 1, 1, false, i64n l⟩] := by
  cases l with
  | nil => exact absurd rfl h
  | cons x r => rfl
theorem i64n_nil : i64n [] = [] := rfl
theorem eq_fv (l : List Nat) (hl : l.length ≤ 140737488355328) : ev E0 23 [fv l, .lst 1 (i64n l)] [] = some (bl true, []) := by
  by_cases h : l = []
  · subst h
    exact eq_nil
  · rw [fv_ne h, i64n_s]
    exact eq_ints _ (by simpa using hl)
def rowOk (H : Hp) (A : AV) (l : List Nat) : Prop :=
  match A with
  | .sl id off n => off = 0 ∧ n = l.length ∧ hget H id = some ⟨3, 1, 1, false, i64n l⟩
  | .v (.slice none 0 0) => l = []
  | _ => False
theorem rowOk.at {H : Hp} {A : AV} {l : List Nat} (h : rowOk H A l) : RowAt H A l := by
  unfold rowOk at h
  split at h
  · obtain ⟨rfl, rfl, h⟩ := h
    exact .inr ⟨_, rfl, h⟩
  · exact .inl ⟨rfl, h⟩
  · exact h.elim
theorem rowOk_nil (H : Hp) : rowOk H (.v (.slice none 0 0)) [] := rfl
theorem rowOk_sl {H : Hp} {id : Nat} {l : List Nat} (h : hget H id = some ⟨3, 1, 1, false, i64n l⟩) : rowOk H (.sl id 0 l.length) l := ⟨rfl, rfl, h⟩
theorem mrk_nil (H : Hp) (c : Int) (n : Nat) : mrk H (.v (.slice none 0 0)) c n = H := rfl
theorem mrk_sl (H : Hp) (id off m : Nat) (c : Int) (n : Nat) : mrk H (.sl id off m) c n = H.set id (some ⟨3, 1, 1, false, i64s (seqI c n)⟩) := rfl
theorem mark3' (a b c : List Nat) (la : a.length ≤ 1073741824) (lb : b.length ≤ 1073741824) (lc : c.length ≤ 1073741824) (H : Hp) (A B C : AV) (hA : rowOk H A a) (hB0 : rowOk H B b) (hC0 : rowOk H C c) (hB : rowOk (mrk H A 1 a.length) B b) (hC : rowOk (mrk (mrk H A 1 a.length) B (1 + a.length) b.length) C c)
    (s1 : (oldIds H).all (fun q => decide (q < H.length)) = true) (s2 : rnmH (newId H.length []) H = some H) :
    ev E0 45 [.agg [A, B, C], i64 1] H = some (i64 (1 + a.length + b.length + c.length), mrk (mrk (mrk H A 1 a.length) B (1 + a.length) b.length) C (1 + a.length + b.length) c.length) := mark3 H A B C a b c hA.at hB.at hB0.at hC0.at hC.at (stable_of s1 s2) la lb lc
theorem place_i (q : Int) : ev E0 58 [i64 q] [] = some (bl (decide (0 ≤ q) && decide (q ≤ 4)), []) := by
  rw [e58]
  unfold runF
  simp -implicitDefEqProofs [L58, in_i]
def okPlace (q : Int) : Bool := decide (0 ≤ q) && decide (q ≤ 4)
theorem partBy_no (ms : List ByteArray) (hm : ms.length ≤ 8796093022208) (hs : ∀ x ∈ ms, x.size ≤ 140737488355328) (l : List Int) (hl : l.length ≤ 1073741824) (q : Int) (h : ((okTable ms && okLetters ms l) && okPlace q) = false) :
    ev E0 42 [.agg [.lst 1 (ms.map st)], .lst 1 (i64s l), i64 q] [] = some (.tup [.agg [.v (.slice none 0 0), .v (.slice none 0 0), .v (.slice none 0 0)], bl false], []) ∧
    ev E0 43 [.agg [.lst 1 (ms.map st)], .lst 1 (i64s l), i64 q] [] = some (.tup [.agg [.v (.slice none 0 0), .v (.slice none 0 0), .v (.slice none 0 0)], bl false], []) := by
  have t3 := asked_i ms (by omega) hs l (by omega)
  have t4 := place_i q
  have t5 := in_s q 0 4
  have hp : (decide (0 ≤ q) && decide (q ≤ 4)) = okPlace q := rfl
  rw [hp] at t4 t5
  rw [e42, e43]
  unfold runF
  constructor
  · rcases valid_s ms hm hs l hl with ⟨h1, t1⟩ | ⟨h1, t1, t2⟩
    · simp -implicitDefEqProofs [L42, t1]
    · rw [h1, Bool.true_and] at h
      cases h2 : okLetters ms l with
      | false =>
        rw [h2] at t2
        simp -implicitDefEqProofs [L42, t1, t2]
      | true =>
        rw [h2, Bool.true_and] at h
        rw [h2] at t2
        rw [h] at t5
        simp -implicitDefEqProofs [L42, t1, t2, t5]
  · cases h2 : (okTable ms && okLetters ms l) with
    | false =>
      rw [h2] at t3
      simp -implicitDefEqProofs [L43, t3]
    | true =>
      rw [h2, Bool.true_and] at h
      rw [h2] at t3
      rw [h] at t4
      simp -implicitDefEqProofs [L43, t3, t4]
theorem partBy_yes (ms : List ByteArray) (hm : ms.length ≤ 8796093022208) (hs : ∀ x ∈ ms, x.size ≤ 140737488355328) (l : List Int) (hl : l.length ≤ 1073741824) (q : Int) (h1 : okTable ms = true) (h2 : okLetters ms l = true) (h3 : okPlace q = true) : ∃ a b c : List Nat, a.length ≤ l.length ∧ b.length ≤ l.length ∧ c.length ≤ l.length ∧
    ev E0 42 [.agg [.lst 1 (ms.map st)], .lst 1 (i64s l), i64 q] [] = some (.tup [.agg [.sl 0 0 a.length, .sl 1 0 b.length, .sl 2 0 c.length], bl true], [some ⟨3, 1, 1, false, i64n a⟩, some ⟨3, 1, 1, false, i64n b⟩, some ⟨3, 1, 1, false, i64n c⟩]) ∧
    ev E0 43 [.agg [.lst 1 (ms.map st)], .lst 1 (i64s l), i64 q] [] = some (.tup [rows3 0 a b c, bl true], rb a ++ (rb b ++ rb c)) := by
  obtain ⟨b1, b2⟩ := okTable_len h1
  have t1 := table_s ms (by omega) hs
  have t2 := letters_s ms b1 b2 l (by omega)
  have t3 := asked_i ms (by omega) hs l (by omega)
  have t4 := place_i q
  have t5 := in_s q 0 4
  have hp : (decide (0 ≤ q) && decide (q ≤ 4)) = okPlace q := rfl
  rw [hp, h3] at t4 t5
  rw [h1] at t1
  rw [h2] at t2
  rw [h1, h2] at t3
  obtain ⟨n, rfl⟩ : ∃ n : Nat, q = n := ⟨q.toNat, by
    unfold okPlace at h3
    simp only [Bool.and_eq_true, decide_eq_true_eq] at h3
    omega⟩
  obtain ⟨ln, e, hne, hv, hln, _⟩ := okLetters_nat h2
  rw [e] at t2 t3 ⊢
  have p1 := part_s ms n ln (by omega) hv
  have p2 := part_i ms n ln (by omega) hv
  have k0 : (partN ms n 0 ln).length ≤ l.length := by rw [← hln]; exact List.length_filter_le _ _
  have k1 : (partN ms n 1 ln).length ≤ l.length := by rw [← hln]; exact List.length_filter_le _ _
  have k2 : (partN ms n 2 ln).length ≤ l.length := by rw [← hln]; exact List.length_filter_le _ _
  generalize partN ms n 0 ln = a at *
  generalize partN ms n 1 ln = b at *
  generalize partN ms n 2 ln = c at *
  refine ⟨a, b, c, k0, k1, k2, ?_, ?_⟩
  · rw [e42]
    unfold runF
    simp -implicitDefEqProofs [L42, t1, t2, t5, p1]
  · rw [e43]
    unfold runF
    cases a <;> cases b <;> cases c <;> simp only [rows3, rv, rb, List.nil_append, List.cons_append, List.append_nil, List.length_nil, List.length_cons, Nat.zero_add, Nat.add_zero] at p2 <;> simp -implicitDefEqProofs [L43, t3, t4, p2, rows3, rv, rb, i64n_len]
end Go.Proofs.YtoehcdjndnmmlaaDoor.Ev
