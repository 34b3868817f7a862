/- Parts of letters: they are compared and held; what both functions hand out. -/
import Derived.Test.YtkajcafnfdlgpaaDoorEvPartBy
set_option linter.unusedVariables false
set_option linter.unusedSimpArgs false
namespace Go.Proofs.YtkajcafnfdlgpaaDoor.Ev
/-- A row that stands without memory. -/
structure Flat (R : AV) : Prop where
  one : R.one = true
  cells : R.cells = [R]
  ids : ∀ d, ids d R = []
  rnm : ∀ f d, rnm f (d + 1) R = some R
  fz : ∀ H d, fz H (d + 1) R = some (R, [])
theorem flat_nil : Flat (.v (.slice none 0 0)) := ⟨rfl, rfl, fun d => by cases d <;> rfl, fun _ _ => rfl, fun _ _ => rfl⟩
theorem flat_lst (k : Nat) (xs : List AV) : Flat (.lst k xs) := ⟨rfl, rfl, fun d => by cases d <;> rfl, fun _ _ => rfl, fun _ _ => rfl⟩
theorem flat_fv (l : List Nat) : Flat (fv l) := by cases l <;> first | exact flat_nil | exact flat_lst _ _
/-- A row that was marked. -/
def hv (c : Int) (l : List Nat) : AV := if l = [] then .v (.slice none 0 0) else .lst 1 (i64s (seqI c l.length))
theorem hv_nil (c : Int) : hv c [] = .v (.slice none 0 0) := rfl
theorem hv_ne (c : Int) {l : List Nat} (h : ¬ l = []) : hv c l = .lst 1 (i64s (seqI c l.length)) := if_neg h
theorem flat_hv (c : Int) (l : List Nat) : Flat (hv c l) := by
  unfold hv
  split
  · exact flat_nil
  · exact flat_lst _ _
theorem fv_nil : fv [] = .v (.slice none 0 0) := rfl
theorem fv_ne {l : List Nat} (h : ¬ l = []) : fv l = .lst 1 (i64n l) := by
  cases l with
  | nil => exact absurd rfl h
  | cons x r => rfl
theorem rv_nil (id : Nat) : rv id [] = .v (.slice none 0 0) := rfl
theorem rv_ne (id : Nat) {l : List Nat} (h : ¬ l = []) : rv id l = .sl id 0 l.length := by
  cases l with
  | nil => exact absurd rfl h
  | cons x r => rfl
theorem rb_nil : rb [] = [] := rfl
theorem rb_ne {l : List Nat} (h : ¬ l = []) : rb l = [some ⟨3, 1, 1, false, i64n l⟩] := by
  cases l with
  | nil => exact absurd rfl h
  | cons x r => rfl
theorem i64n_nil : i64n [] = [] := rfl
def rowOk (H : Hp) (A : AV) (l : List Nat) : Prop :=
  match A with
  | .sl id off n => off = 0 ∧ n = l.length ∧ hget H id = some ⟨3, 1, 1, false, i64n l⟩
  | .v (.slice none 0 0) => l = []
  | _ => False
theorem rowOk.at {H : Hp} {A : AV} {l : List Nat} (h : rowOk H A l) : RowAt H A l := by
  unfold rowOk at h
  split at h
  · obtain ⟨rfl, rfl, h⟩ := h
    exact .inr ⟨_, rfl, h⟩
  · exact .inl ⟨rfl, h⟩
  · exact h.elim
theorem rowOk_nil (H : Hp) : rowOk H (.v (.slice none 0 0)) [] := rfl
theorem rowOk_sl {H : Hp} {id : Nat} {l : List Nat} (h : hget H id = some ⟨3, 1, 1, false, i64n l⟩) : rowOk H (.sl id 0 l.length) l := ⟨rfl, rfl, h⟩
theorem mrk_nil (H : Hp) (c : Int) (n : Nat) : mrk H (.v (.slice none 0 0)) c n = H := rfl
theorem mrk_sl (H : Hp) (id off m : Nat) (c : Int) (n : Nat) : mrk H (.sl id off m) c n = H.set id (some ⟨3, 1, 1, false, i64s (seqI c n)⟩) := rfl
theorem place_i (q : Int) : ev E0 63 [i64 q] [] = some (bl (decide (0 ≤ q) && decide (q ≤ 4)), []) := by
  rw [e63]
  unfold runF
  simp -implicitDefEqProofs [L63, in_i]
def okPlace (q : Int) : Bool := decide (0 ≤ q) && decide (q ≤ 4)
theorem partBy_no (ms : List ByteArray) (hm : ms.length ≤ 8796093022208) (hs : ∀ x ∈ ms, x.size ≤ 140737488355328) (l : List Int) (hl : l.length ≤ 1073741824) (q : Int) (h : ((okTable ms && okLetters ms l) && okPlace q) = false) :
    ev E0 20 [.agg [.lst 1 (ms.map st)], .lst 1 (i64s l), i64 q] [] = some (.tup [.agg [.v (.slice none 0 0), .v (.slice none 0 0), .v (.slice none 0 0)], bl false], []) ∧
    ev E0 19 [.agg [.lst 1 (ms.map st)], .lst 1 (i64s l), i64 q] [] = some (.tup [.agg [.v (.slice none 0 0), .v (.slice none 0 0), .v (.slice none 0 0)], bl false], []) := by
  have t3 := asked_i ms (by omega) hs l (by omega)
  have t4 := place_i q
  have t5 := in_s q 0 4
  have hp : (decide (0 ≤ q) && decide (q ≤ 4)) = okPlace q := rfl
  rw [hp] at t4 t5
  rw [e20, e19]
  unfold runF
  constructor
  · rcases valid_s ms hm hs l hl with ⟨h1, t1⟩ | ⟨h1, t1, t2⟩
    · simp -implicitDefEqProofs [L20, t1]
    · rw [h1, Bool.true_and] at h
      cases h2 : okLetters ms l with
      | false =>
        rw [h2] at t2
        simp -implicitDefEqProofs [L20, t1, t2]
      | true =>
        rw [h2, Bool.true_and] at h
        rw [h2] at t2
        rw [h] at t5
        simp -implicitDefEqProofs [L20, t1, t2, t5]
  · cases h2 : (okTable ms && okLetters ms l) with
    | false =>
      rw [h2] at t3
      simp -implicitDefEqProofs [L19, t3]
    | true =>
      rw [h2, Bool.true_and] at h
      rw [h2] at t3
      rw [h] at t4
      simp -implicitDefEqProofs [L19, t3, t4]
theorem partBy_yes (ms : List ByteArray) (hm : ms.length ≤ 8796093022208) (hs : ∀ x ∈ ms, x.size ≤ 140737488355328) (l : List Int) (hl : l.length ≤ 1073741824) (q : Int) (h1 : okTable ms = true) (h2 : okLetters ms l = true) (h3 : okPlace q = true) : ∃ a b c : List Nat, a.length ≤ l.length ∧ b.length ≤ l.length ∧ c.length ≤ l.length ∧
    ev E0 20 [.agg [.lst 1 (ms.map st)], .lst 1 (i64s l), i64 q] [] = some (.tup [.agg [.sl 0 0 a.length, .sl 1 0 b.length, .sl 2 0 c.length], bl true], [some ⟨3, 1, 1, false, i64n a⟩, some ⟨3, 1, 1, false, i64n b⟩, some ⟨3, 1, 1, false, i64n c⟩]) ∧
    ev E0 19 [.agg [.lst 1 (ms.map st)], .lst 1 (i64s l), i64 q] [] = some (.tup [rows3 0 a b c, bl true], rb a ++ (rb b ++ rb c)) := by
  obtain ⟨b1, b2⟩ := okTable_len h1
  have t1 := table_s ms (by omega) hs
  have t2 := letters_s ms b1 b2 l (by omega)
  have t3 := asked_i ms (by omega) hs l (by omega)
  have t4 := place_i q
  have t5 := in_s q 0 4
  have hp : (decide (0 ≤ q) && decide (q ≤ 4)) = okPlace q := rfl
  rw [hp, h3] at t4 t5
  rw [h1] at t1
  rw [h2] at t2
  rw [h1, h2] at t3
  obtain ⟨n, rfl⟩ : ∃ n : Nat, q = n := ⟨q.toNat, by
    unfold okPlace at h3
    simp only [Bool.and_eq_true, decide_eq_true_eq] at h3
    omega⟩
  obtain ⟨ln, e, hne, hv, hln, _⟩ := okLetters_nat h2
  rw [e] at t2 t3 ⊢
  have p1 := part_s ms n ln (by omega) hv
  have p2 := part_i ms n ln (by omega) hv
  have k0 : (partN ms n 0 ln).length ≤ l.length := by rw [← hln]; exact List.length_filter_le _ _
  have k1 : (partN ms n 1 ln).length ≤ l.length := by rw [← hln]; exact List.length_filter_le _ _
  have k2 : (partN ms n 2 ln).length ≤ l.length := by rw [← hln]; exact List.length_filter_le _ _
  generalize partN ms n 0 ln = a at *
  generalize partN ms n 1 ln = b at *
  generalize partN ms n 2 ln = c at *
  refine ⟨a, b, c, k0, k1, k2, ?_, ?_⟩
  · rw [e20]
    unfold runF
    simp -implicitDefEqProofs [L20, t1, t2, t5, p1]
  · rw [e19]
    unfold runF
    cases a <;> cases b <;> cases c <;> simp only [rows3, rv, rb, List.nil_append, List.cons_append, List.append_nil, List.length_nil, List.length_cons, Nat.zero_add, Nat.add_zero] at p2 <;> simp -implicitDefEqProofs [L19, t3, t4, p2, rows3, rv, rb, i64n_len]
end Go.Proofs.YtkajcafnfdlgpaaDoor.Ev
