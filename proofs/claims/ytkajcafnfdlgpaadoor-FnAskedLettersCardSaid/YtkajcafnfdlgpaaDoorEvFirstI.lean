/- Does who is to ask win? The program's function. -/
import Derived.Test.YtkajcafnfdlgpaaDoorEvFirst
set_option linter.unusedVariables false
set_option linter.unusedSimpArgs false
namespace Go.Proofs.YtkajcafnfdlgpaaDoor.Ev
/-- A row as it stands without memory. -/
def fv : List Nat → AV
  | [] => .v (.slice none 0 0)
  | x :: r => .lst 1 (i64 x :: i64n r)
@[simp] theorem fv_one (l : List Nat) : (fv l).one = true := by cases l <;> rfl
@[simp] theorem fv_cells (l : List Nat) : (fv l).cells = [fv l] := by cases l <;> rfl
@[simp] theorem fv_ids (d : Nat) (l : List Nat) : ids d (fv l) = [] := by cases d <;> cases l <;> rfl
@[simp] theorem fv_rnm (f : Nat → Option Nat) (d : Nat) (l : List Nat) : rnm f (d + 1) (fv l) = some (fv l) := by cases l <;> rfl
@[simp] theorem fv_fz (H : Hp) (d : Nat) (l : List Nat) : fz H (d + 1) (fv l) = some (fv l, []) := by cases l <;> rfl
theorem fv_loadE (l : List Nat) : loadE 1 false (fv l) 0 = some (fv l) := by cases l <;> rfl
theorem one_i (ms : List ByteArray) (F : List Nat → Bool) (p : List Nat) (h : KnowsB 74 ms F p) : ev E0 95 [fv p, .el (.agg [.lst 1 (ms.map st)]) 0] [] = some (bl (!ok1 F p), []) := by
  rw [e95]
  unfold runF
  by_cases h1 : p.length < 2
  · rw [ok1_lt h1]
    cases p with
    | nil => simp -implicitDefEqProofs [L95, fv]
    | cons x r =>
      have h2 : ¬ (1 : Int) < (r.length : Int) + 1 := by simp at h1; omega
      have h3 : r.length = 0 := by simp at h1; omega
      simp -implicitDefEqProofs [L95, fv, i64n_len, h2, h3]
  · rw [ok1_ge h1]
    have he := h (by omega)
    cases p with
    | nil => simp at h1
    | cons x r =>
      have h2 : (1 : Int) < (r.length : Int) + 1 := by simp at h1; omega
      have h3 : 0 < r.length := by simp at h1; omega
      rw [i64n_cons] at he
      simp -implicitDefEqProofs [L95, fv, i64n_len, h2, h3, he]
theorem index3 (ms : List ByteArray) (F : List Nat → Bool) (a b c : List Nat) (hA : KnowsB 74 ms F a) (hB : KnowsB 74 ms F b) (hC : KnowsB 74 ms F c) :
    ∃ r : Int, ev E0 107 [.lst 1 [fv a, fv b, fv c], .fn (.func 95) [] [.el (.agg [.lst 1 (ms.map st)]) 0]] [] = some (i64 r, []) ∧ decide (0 ≤ r) = !(ok1 F a && (ok1 F b && ok1 F c)) := by
  rw [e107]
  unfold runF
  have hw1 : IntKind.i64.wrap 1 = 1 := by decide
  have hw2 : IntKind.i64.wrap 2 = 2 := by decide
  have hw3 : IntKind.i64.wrap 3 = 3 := by decide
  have h1 := one_i ms F a hA
  have h2 := one_i ms F b hB
  have h3 := one_i ms F c hC
  have s0 : ok1 F a = true → bd E0 (ev E0) loopW 0 [0, 1, 7, 8] L107b0 ⟨[(0, .lst 1 [fv a, fv b, fv c]), (1, .fn (.func 95) [] [.el (.agg [.lst 1 (ms.map st)]) 0]), (7, i64 3), (8, i64 0)], []⟩ = some (.nrm, ⟨[(0, .lst 1 [fv a, fv b, fv c]), (1, .fn (.func 95) [] [.el (.agg [.lst 1 (ms.map st)]) 0]), (7, i64 3), (8, i64 1)], []⟩) := by
    intro k
    rw [k] at h1
    simp -implicitDefEqProofs [-loadE, fv_loadE, bd, L107b0, hw1, h1]
  have s1 : ok1 F b = true → bd E0 (ev E0) loopW 0 [0, 1, 7, 8] L107b0 ⟨[(0, .lst 1 [fv a, fv b, fv c]), (1, .fn (.func 95) [] [.el (.agg [.lst 1 (ms.map st)]) 0]), (7, i64 3), (8, i64 1)], []⟩ = some (.nrm, ⟨[(0, .lst 1 [fv a, fv b, fv c]), (1, .fn (.func 95) [] [.el (.agg [.lst 1 (ms.map st)]) 0]), (7, i64 3), (8, i64 2)], []⟩) := by
    intro k
    rw [k] at h2
    simp -implicitDefEqProofs [-loadE, fv_loadE, bd, L107b0, hw2, h2]
  have s2 : ok1 F c = true → bd E0 (ev E0) loopW 0 [0, 1, 7, 8] L107b0 ⟨[(0, .lst 1 [fv a, fv b, fv c]), (1, .fn (.func 95) [] [.el (.agg [.lst 1 (ms.map st)]) 0]), (7, i64 3), (8, i64 2)], []⟩ = some (.nrm, ⟨[(0, .lst 1 [fv a, fv b, fv c]), (1, .fn (.func 95) [] [.el (.agg [.lst 1 (ms.map st)]) 0]), (7, i64 3), (8, i64 3)], []⟩) := by
    intro k
    rw [k] at h3
    simp -implicitDefEqProofs [-loadE, fv_loadE, bd, L107b0, hw3, h3]
  suffices key : ∃ r : Int, (packX 0 [4] (loopW (bd E0 (ev E0) loopW 0 [0, 1, 7, 8] L107b0) ⟨[(0, .lst 1 [fv a, fv b, fv c]), (1, .fn (.func 95) [] [.el (.agg [.lst 1 (ms.map st)]) 0]), (7, i64 3), (8, i64 0)], []⟩) = some (.ret, ⟨[(4, i64 r)], []⟩) ∧ 0 ≤ r ∧ (ok1 F a && (ok1 F b && ok1 F c)) = false) ∨ (packX 0 [4] (loopW (bd E0 (ev E0) loopW 0 [0, 1, 7, 8] L107b0) ⟨[(0, .lst 1 [fv a, fv b, fv c]), (1, .fn (.func 95) [] [.el (.agg [.lst 1 (ms.map st)]) 0]), (7, i64 3), (8, i64 0)], []⟩) = some (.ext 0, ⟨[], []⟩) ∧ r = -1 ∧ (ok1 F a && (ok1 F b && ok1 F c)) = true) by
    obtain ⟨r, ⟨e, hr, hb⟩ | ⟨e, rfl, hb⟩⟩ := key
    · refine ⟨r, ?_, by rw [hb]; simpa using hr⟩
      simp -implicitDefEqProofs [L107, e]
    · refine ⟨-1, ?_, by rw [hb]; decide⟩
      simp -implicitDefEqProofs [L107, e]
  rw [loopW_eq]
  cases k0 : ok1 F a with
  | false =>
    refine ⟨0, .inl ⟨?_, by omega, rfl⟩⟩
    rw [k0] at h1
    generalize loopW (bd E0 (ev E0) loopW 0 [0, 1, 7, 8] L107b0) = K
    simp -implicitDefEqProofs [-loadE, fv_loadE, bd, L107b0, h1]
  | true =>
    rw [s0 k0]
    simp only [Rr.thn]
    rw [loopW_eq]
    cases k1 : ok1 F b with
    | false =>
      refine ⟨1, .inl ⟨?_, by omega, rfl⟩⟩
      rw [k1] at h2
      generalize loopW (bd E0 (ev E0) loopW 0 [0, 1, 7, 8] L107b0) = K
      simp -implicitDefEqProofs [-loadE, fv_loadE, bd, L107b0, h2]
    | true =>
      rw [s1 k1]
      simp only [Rr.thn]
      rw [loopW_eq]
      cases k2 : ok1 F c with
      | false =>
        refine ⟨2, .inl ⟨?_, by omega, rfl⟩⟩
        rw [k2] at h3
        generalize loopW (bd E0 (ev E0) loopW 0 [0, 1, 7, 8] L107b0) = K
        simp -implicitDefEqProofs [-loadE, fv_loadE, bd, L107b0, h3]
      | true =>
        refine ⟨-1, .inr ⟨?_, rfl, rfl⟩⟩
        rw [s2 k2]
        simp only [Rr.thn]
        rw [loopW_eq]
        generalize loopW (bd E0 (ev E0) loopW 0 [0, 1, 7, 8] L107b0) = K
        simp -implicitDefEqProofs [-loadE, fv_loadE, bd, L107b0]
theorem contains3 (ms : List ByteArray) (F : List Nat → Bool) (a b c : List Nat) (hA : KnowsB 74 ms F a) (hB : KnowsB 74 ms F b) (hC : KnowsB 74 ms F c) :
    ev E0 94 [.lst 1 [fv a, fv b, fv c], .fn (.func 95) [] [.el (.agg [.lst 1 (ms.map st)]) 0]] [] = some (bl (!(ok1 F a && (ok1 F b && ok1 F c))), []) := by
  obtain ⟨r, e, h⟩ := index3 ms F a b c hA hB hC
  rw [e94]
  unfold runF
  rw [← h]
  simp -implicitDefEqProofs [L94, e]
theorem firstI_loop (ms : List ByteArray) (F : List Nat → Bool) (l : List Nat) (hl : l.length ≤ 1073741824) (hv : ∀ n ∈ l, n < ms.length) (hne : l ≠ []) (hk : ∀ q a, vainB ms q l = false → KnowsB 74 ms F (partN ms q a l)) : ∀ (k q : Nat), q + k = 5 →
    packX 0 [4] (loopW (bd E0 (ev E0) loopW 0 [1, 2, 7] L74b0) ⟨[(1, .lst 1 (i64n l)), (2, .ptr 0 0 0), (7, i64 q)], [some ⟨26, 1, 0, false, [.agg [.lst 1 (ms.map st)]]⟩]⟩) = if firS ms F l k q = true then some (.ret, ⟨[(4, bl true)], []⟩) else some (.ext 0, ⟨[], []⟩) := by
  intro k
  induction k with
  | zero =>
    intro q h
    obtain rfl : q = 5 := by omega
    rw [loopW_eq]
    generalize loopW (bd E0 (ev E0) loopW 0 [1, 2, 7] L74b0) = K
    simp -implicitDefEqProofs [bd, L74b0, firS]
  | succ k ih =>
    intro q h
    have hw : IntKind.i64.wrap ((q : Int) + 1) = (q : Int) + 1 := wr64 (by omega) (by omega)
    have hq : (q : Int) < 5 := by omega
    have hva := parts_i2 ms q l hne hl hv
    have hih := ih (q + 1) (by omega)
    rw [cs1] at hih
    cases hp : vainB ms q l with
    | true =>
      rw [hp] at hva
      have h5 : firS ms F l (k + 1) q = firS ms F l k (q + 1) := by simp [firS, hp]
      rw [h5, loopW_eq]
      generalize firS ms F l k (q + 1) = o' at hih ⊢
      generalize loopW (bd E0 (ev E0) loopW 0 [1, 2, 7] L74b0) = K at hih ⊢
      simpa -implicitDefEqProofs [bd, L74b0, hq, hw, hva] using hih
    | false =>
      rw [hp] at hva
      have hin := contains3 ms F _ _ _ (hk q 0 hp) (hk q 1 hp) (hk q 2 hp)
      have hps := part_i ms q l hl hv
      have hmx : (ok1 F (partN ms q 0 l) && (ok1 F (partN ms q 1 l) && ok1 F (partN ms q 2 l))) = winQ ms F l q := rfl
      have h5 : firS ms F l (k + 1) q = (winQ ms F l q || firS ms F l k (q + 1)) := by simp [firS, hp]
      rw [hmx] at hin
      rw [h5, loopW_eq]
      generalize firS ms F l k (q + 1) = o' at hih ⊢
      generalize winQ ms F l q = w at *
      generalize loopW (bd E0 (ev E0) loopW 0 [1, 2, 7] L74b0) = K at hih ⊢
      generalize partN ms q 0 l = a at *
      generalize partN ms q 1 l = b at *
      generalize partN ms q 2 l = c at *
      cases w with
      | true =>
        cases a <;> cases b <;> cases c <;> simp only [rows3, rv, rb, fv, Bool.not_true, List.nil_append, List.cons_append, List.append_nil, List.length_nil, List.length_cons, Nat.zero_add, Nat.add_zero] at hps hin <;> simp -implicitDefEqProofs [bd, L74b0, hq, hw, hva, hps, hin, i64n_len]
      | false =>
        cases a <;> cases b <;> cases c <;> simp only [rows3, rv, rb, fv, Bool.not_false, List.nil_append, List.cons_append, List.append_nil, List.length_nil, List.length_cons, Nat.zero_add, Nat.add_zero] at hps hin <;> simpa -implicitDefEqProofs [bd, L74b0, hq, hw, hva, hps, hin, i64n_len] using hih
theorem first_i (ms : List ByteArray) : ∀ (n : Nat) (l : List Nat), l.length ≤ n → n ≤ 1073741824 → l ≠ [] → (∀ x ∈ l, x < ms.length) → ev E0 74 [.agg [.lst 1 (ms.map st)], .lst 1 (i64n l)] [] = some (bl (firN ms n l), [])
  | 0, l, h, _, hne, _ => absurd (List.length_eq_zero_iff.1 (by omega)) hne
  | n + 1, l, h, hn, hne, hv => by
    rw [e74]
    unfold runF
    have hlp := firstI_loop ms (firN ms n) l (by omega) hv hne
      (fun q a hq hp => first_i ms n _ (by have := part_lt (a := a) hq; omega) (by omega) (by intro e; rw [e] at hp; simp at hp) (fun x hx => hv x (List.mem_filter.1 hx).1)) 5 0 rfl
    have hd : firN ms (n + 1) l = firS ms (firN ms n) l 5 0 := rfl
    rw [hd]
    rw [c0] at hlp
    cases hf : firS ms (firN ms n) l 5 0 with
    | true => rw [hf] at hlp; simp only [if_true] at hlp; simp -implicitDefEqProofs [L74, hlp]
    | false => rw [hf] at hlp; simp only [Bool.false_eq_true, if_false] at hlp; simp -implicitDefEqProofs [L74, hlp]
theorem asksFirst (ms : List ByteArray) (hm : ms.length ≤ 8796093022208) (hs : ∀ x ∈ ms, x.size ≤ 140737488355328) (l : List Int) (hl : l.length ≤ 1073741824) : ∃ v ok,
    ev E0 31 [.agg [.lst 1 (ms.map st)], .lst 1 (i64s l)] [] = some (.tup [bl v, bl ok], []) ∧
    ev E0 30 [.agg [.lst 1 (ms.map st)], .lst 1 (i64s l)] [] = some (.tup [bl v, bl ok], []) := by
  rw [e31, e30]
  unfold runF
  have t3 := asked_i ms (by omega) hs l (by omega)
  rcases valid_s ms hm hs l hl with ⟨h1, t1⟩ | ⟨h1, t1, t2⟩
  · rw [h1, Bool.false_and] at t3
    refine ⟨false, false, ?_, ?_⟩
    · simp -implicitDefEqProofs [L31, t1]
    · simp -implicitDefEqProofs [L30, t3]
  · rw [h1, Bool.true_and] at t3
    cases h2 : okLetters ms l with
    | false =>
      rw [h2] at t2 t3
      refine ⟨false, false, ?_, ?_⟩
      · simp -implicitDefEqProofs [L31, t1, t2]
      · simp -implicitDefEqProofs [L30, t3]
    | true =>
      rw [h2] at t2 t3
      by_cases hone : l.length = 1
      · have hone2 : (l.length : Int) = 1 := by omega
        refine ⟨false, false, ?_, ?_⟩
        · simp -implicitDefEqProofs [L31, t1, t2, i64s_len, hone, hone2]
        · simp -implicitDefEqProofs [L30, t3, i64s_len, hone, hone2]
      · obtain ⟨ln, e, hne, hv, hln, _, ha⟩ := okLetters_apart h1 h2
        have hone2 : ¬ (ln.length : Int) = 1 := by omega
        have hone3 : ¬ ln.length = 1 := by omega
        rw [e] at t2 t3 ⊢
        have d1 := first_s ms ln.length ln (Nat.le_refl _) (by omega) hne hv
        have d2 := first_i ms ln.length ln (Nat.le_refl _) (by omega) hne hv
        refine ⟨firN ms ln.length ln, true, ?_, ?_⟩
        · simp -implicitDefEqProofs [L31, t1, t2, d1, i64n_len, hone2, hone3]
        · simp -implicitDefEqProofs [L30, t3, d2, i64n_len, hone2, hone3]
end Go.Proofs.YtkajcafnfdlgpaaDoor.Ev
