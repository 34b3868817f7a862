/- What the law on traces asks: its loops, in its own environment. -/
import Derived.Test.YtkdfgjijmnaljaaEvE1
import Derived.Test.YtkdfgjijmnaljaaEvDrawX
set_option linter.unusedVariables false
set_option linter.unusedSimpArgs false
namespace Go.Proofs.Ytkdfgjijmnaljaa.Ev
open Ky Dr
def odE (n : Int) : Bool → List Int → Bool
  | _, [] => true
  | e, x :: t => (!e || decide (n ≤ x)) && odE n (!e) t
theorem odE_odds (n : Int) : ∀ (k : Nat) (t : List Int), t.length ≤ k → odds n t = true → odE n false t = true := by
  intro k
  induction k with
  | zero =>
    intro t h _
    obtain rfl := List.length_eq_zero_iff.1 (Nat.le_zero.1 h)
    rfl
  | succ k ih =>
    intro t h ho
    match t, h, ho with
    | [], _, _ => rfl
    | [a], _, _ => rfl
    | a :: b :: r, h, ho =>
      simp only [List.length_cons] at h
      rw [odds, Bool.and_eq_true] at ho
      have := ih r (by omega) ho.2
      simp only [odE, Bool.not_false, Bool.true_or, Bool.true_and, Bool.not_true, Bool.false_or, ho.1, this]
theorem sum_nn : ∀ (t : List Int), (∀ x ∈ t, 1 ≤ x ∧ x ≤ 999) → 0 ≤ sum t ∧ sum t ≤ 999 * t.length
  | [], _ => by simp [sum]
  | x :: t, h => by
    have h1 := h x (by simp)
    have h2 := sum_nn t fun y hy => h y (by simp [hy])
    rw [sum, List.length_cons]
    omega
theorem sum_loop (l : List Int) (hl : l.length ≤ 143) (hb : ∀ x ∈ l, 1 ≤ x ∧ x ≤ 999) (n q6 q7 q8 q34 : Int) (f1 f2 f3 : Bool) (a5 a9 a13 a17 a19 a20 a24 a27 : List AV) : ∀ (t : List Int) (i : Nat) (c : Int), l.drop i = t → 0 ≤ c → c ≤ 999 * i →
    packX 0 [4, 5, 9, 10, 13, 17, 18, 19, 20, 21, 24, 25, 26, 27, 28, 33, 34] (loopW (bd E1 (ev E1) loopW 0 [3, 4, 5, 9, 10, 13, 17, 18, 19, 20, 21, 24, 25, 26, 27, 28, 33, 34, 35] L3b0) ⟨[(3, .lst 1 (i64s l)), (4, i64 n), (5, .lst 1 a5), (9, .lst 1 a9), (10, bl f1), (13, .lst 1 a13), (17, .lst 1 a17), (18, i64 q6), (19, .lst 1 a19), (20, .lst 1 a20), (21, bl f2), (24, .lst 1 a24), (25, i64 q7), (26, i64 q8), (27, .lst 1 a27), (28, bl f3), (33, i64 c), (34, i64 q34), (35, i64 i)], []⟩) =
      some (.ext 0, ⟨[(4, i64 n), (5, .lst 1 a5), (9, .lst 1 a9), (10, bl f1), (13, .lst 1 a13), (17, .lst 1 a17), (18, i64 q6), (19, .lst 1 a19), (20, .lst 1 a20), (21, bl f2), (24, .lst 1 a24), (25, i64 q7), (26, i64 q8), (27, .lst 1 a27), (28, bl f3), (33, i64 (c + sum t)), (34, i64 q34)], []⟩) := by
  intro t
  induction t with
  | nil =>
    intro i c h h0 h1
    have hi := not_drop h
    have hi2 : ¬ (i : Int) < (l.length : Int) := by omega
    rw [loopW_eq, sum, Int.add_zero]
    generalize loopW (bd E1 (ev E1) loopW 0 [3, 4, 5, 9, 10, 13, 17, 18, 19, 20, 21, 24, 25, 26, 27, 28, 33, 34, 35] L3b0) = K
    simp -implicitDefEqProofs [bd, L3b0, i64s_len, hi, hi2]
  | cons x t ih =>
    intro i c h h0 h1
    obtain ⟨hi, hx, hd, hmem⟩ := at_drop h
    have hbx := hb x hmem
    have hih := ih (i + 1) (c + x) hd (by omega) (by omega)
    have hi2 : (i : Int) < (l.length : Int) := by omega
    have hw : IntKind.i64.wrap ((i : Int) + 1) = (i : Int) + 1 := wr64 (by omega) (by omega)
    have hw2 : IntKind.i64.wrap (c + x) = c + x := wr64 (by omega) (by omega)
    have g1 := i64s_at hi hx
    have hs : c + sum (x :: t) = c + x + sum t := by rw [sum]; omega
    rw [cs1] at hih
    rw [hs, loopW_eq]
    generalize loopW (bd E1 (ev E1) loopW 0 [3, 4, 5, 9, 10, 13, 17, 18, 19, 20, 21, 24, 25, 26, 27, 28, 33, 34, 35] L3b0) = K at hih ⊢
    simpa -implicitDefEqProofs [bd, L3b0, i64s_len, hi, hi2, g1, hw, hw2] using hih
theorem own_loop (l : List Int) (hl : l.length ≤ 143) (hb : ∀ x ∈ l, 1 ≤ x ∧ x ≤ 999) (n q6 q7 q8 q33 : Int) (f1 f2 f3 : Bool) (a9 a13 a17 a19 a20 a24 a27 : List AV) : ∀ (t : List Int) (i : Nat) (c : Int), l.drop i = t → odE n (decide (i % 2 = 1)) t = true → 0 ≤ c → c ≤ 999 * i →
    packX 0 [2, 4, 5, 9, 10, 13, 17, 18, 19, 20, 21, 24, 25, 26, 27, 28, 33, 34] (loopW (bd E1 (ev E1) loopW 0 [4, 5, 9, 10, 13, 17, 18, 19, 20, 21, 24, 25, 26, 27, 28, 33, 34, 36] L3b1) ⟨[(4, i64 n), (5, .lst 1 (i64s l)), (9, .lst 1 a9), (10, bl f1), (13, .lst 1 a13), (17, .lst 1 a17), (18, i64 q6), (19, .lst 1 a19), (20, .lst 1 a20), (21, bl f2), (24, .lst 1 a24), (25, i64 q7), (26, i64 q8), (27, .lst 1 a27), (28, bl f3), (33, i64 q33), (34, i64 c), (36, i64 i)], []⟩) =
      some (.ext 2, ⟨[(4, i64 n), (5, .lst 1 (i64s l)), (9, .lst 1 a9), (10, bl f1), (13, .lst 1 a13), (17, .lst 1 a17), (18, i64 q6), (19, .lst 1 a19), (20, .lst 1 a20), (21, bl f2), (24, .lst 1 a24), (25, i64 q7), (26, i64 q8), (27, .lst 1 a27), (28, bl f3), (33, i64 q33), (34, i64 (c + sum t))], []⟩) := by
  intro t
  induction t with
  | nil =>
    intro i c h _ h0 h1
    have hi := not_drop h
    have hi2 : ¬ (i : Int) < (l.length : Int) := by omega
    rw [loopW_eq, sum, Int.add_zero]
    generalize loopW (bd E1 (ev E1) loopW 0 [4, 5, 9, 10, 13, 17, 18, 19, 20, 21, 24, 25, 26, 27, 28, 33, 34, 36] L3b1) = K
    simp -implicitDefEqProofs [bd, L3b1, i64s_len, hi, hi2]
  | cons x t ih =>
    intro i c h ho h0 h1
    obtain ⟨hi, hx, hd, hmem⟩ := at_drop h
    have hbx := hb x hmem
    rw [odE, Bool.and_eq_true] at ho
    have ho2 := ho.2
    rw [odd_next] at ho2
    have hih := ih (i + 1) (c + x) hd ho2 (by omega) (by omega)
    have hi2 : (i : Int) < (l.length : Int) := by omega
    have hw : IntKind.i64.wrap ((i : Int) + 1) = (i : Int) + 1 := wr64 (by omega) (by omega)
    have hw2 : IntKind.i64.wrap (c + x) = c + x := wr64 (by omega) (by omega)
    have g1 := i64s_at hi hx
    have hs : c + sum (x :: t) = c + x + sum t := by rw [sum]; omega
    have htm := tmod2 i
    rw [cs1] at hih
    rw [hs, loopW_eq]
    generalize loopW (bd E1 (ev E1) loopW 0 [4, 5, 9, 10, 13, 17, 18, 19, 20, 21, 24, 25, 26, 27, 28, 33, 34, 36] L3b1) = K at hih ⊢
    by_cases h2i : i % 2 = 1
    · have h2' : ((i % 2 : Nat) : Int) = 1 := by omega
      have hnx : n ≤ x := by
        have h3 := ho.1
        rw [decide_eq_true h2i] at h3
        simpa using h3
      have hnx2 : ¬ x < n := by omega
      simpa -implicitDefEqProofs [-Int.natCast_emod, bd, L3b1, i64s_len, hi, hi2, g1, hw, hw2, htm, h2i, h2', hnx, hnx2] using hih
    · have h2' : ¬ ((i % 2 : Nat) : Int) = 1 := by omega
      simpa -implicitDefEqProofs [-Int.natCast_emod, bd, L3b1, i64s_len, hi, hi2, g1, hw, hw2, htm, h2i, h2'] using hih
theorem even_loop (l : List Int) (hl : l.length ≤ 143) (n q6 q7 q8 : Int) (f2 f3 : Bool) (a17 a19 a20 a24 a27 : List AV) : ∀ (k : Nat) (t : List Int) (i : Nat), t.length ≤ k → l.drop i = t → evens n t = true →
    packX 0 [2, 4, 9, 17, 18, 19, 20, 21, 24, 25, 26, 27, 28] (loopW (bd E1 (ev E1) loopW 0 [4, 9, 17, 18, 19, 20, 21, 24, 25, 26, 27, 28, 41] L3b2) ⟨[(4, i64 n), (9, .lst 1 (i64s l)), (17, .lst 1 a17), (18, i64 q6), (19, .lst 1 a19), (20, .lst 1 a20), (21, bl f2), (24, .lst 1 a24), (25, i64 q7), (26, i64 q8), (27, .lst 1 a27), (28, bl f3), (41, i64 i)], []⟩) =
      some (.ext 4, ⟨[(4, i64 n), (9, .lst 1 (i64s l)), (17, .lst 1 a17), (18, i64 q6), (19, .lst 1 a19), (20, .lst 1 a20), (21, bl f2), (24, .lst 1 a24), (25, i64 q7), (26, i64 q8), (27, .lst 1 a27), (28, bl f3)], []⟩) := by
  have fin : ∀ i : Nat, ¬ i < l.length → packX 0 [2, 4, 9, 17, 18, 19, 20, 21, 24, 25, 26, 27, 28] (loopW (bd E1 (ev E1) loopW 0 [4, 9, 17, 18, 19, 20, 21, 24, 25, 26, 27, 28, 41] L3b2) ⟨[(4, i64 n), (9, .lst 1 (i64s l)), (17, .lst 1 a17), (18, i64 q6), (19, .lst 1 a19), (20, .lst 1 a20), (21, bl f2), (24, .lst 1 a24), (25, i64 q7), (26, i64 q8), (27, .lst 1 a27), (28, bl f3), (41, i64 i)], []⟩) =
      some (.ext 4, ⟨[(4, i64 n), (9, .lst 1 (i64s l)), (17, .lst 1 a17), (18, i64 q6), (19, .lst 1 a19), (20, .lst 1 a20), (21, bl f2), (24, .lst 1 a24), (25, i64 q7), (26, i64 q8), (27, .lst 1 a27), (28, bl f3)], []⟩) := by
    intro i hi
    have hi2 : ¬ (i : Int) < (l.length : Int) := by omega
    rw [loopW_eq]
    generalize loopW (bd E1 (ev E1) loopW 0 [4, 9, 17, 18, 19, 20, 21, 24, 25, 26, 27, 28, 41] L3b2) = K
    simp -implicitDefEqProofs [bd, L3b2, i64s_len, hi, hi2]
  intro k
  induction k with
  | zero =>
    intro t i hk h _
    obtain rfl := List.length_eq_zero_iff.1 (Nat.le_zero.1 hk)
    exact fin i (not_drop h)
  | succ k ih =>
    intro t i hk h he
    match t, hk, h, he with
    | [], hk, h, he => exact fin i (not_drop h)
    | a :: t, hk, h, he =>
      obtain ⟨hi, hx, hd, hmem⟩ := at_drop h
      have hna : n ≤ a := by
        cases t with
        | nil => simpa [evens] using he
        | cons b r => rw [evens, Bool.and_eq_true] at he; exact of_decide_eq_true he.1
      have hnx : ¬ a < n := by omega
      have hih : packX 0 [2, 4, 9, 17, 18, 19, 20, 21, 24, 25, 26, 27, 28] (loopW (bd E1 (ev E1) loopW 0 [4, 9, 17, 18, 19, 20, 21, 24, 25, 26, 27, 28, 41] L3b2) ⟨[(4, i64 n), (9, .lst 1 (i64s l)), (17, .lst 1 a17), (18, i64 q6), (19, .lst 1 a19), (20, .lst 1 a20), (21, bl f2), (24, .lst 1 a24), (25, i64 q7), (26, i64 q8), (27, .lst 1 a27), (28, bl f3), (41, i64 ((i + 2 : Nat) : Int))], []⟩) = some (.ext 4, ⟨[(4, i64 n), (9, .lst 1 (i64s l)), (17, .lst 1 a17), (18, i64 q6), (19, .lst 1 a19), (20, .lst 1 a20), (21, bl f2), (24, .lst 1 a24), (25, i64 q7), (26, i64 q8), (27, .lst 1 a27), (28, bl f3)], []⟩) := by
        cases t with
        | nil => exact fin (i + 2) (by have := not_drop hd; omega)
        | cons b r =>
          rw [evens, Bool.and_eq_true] at he
          simp only [List.length_cons] at hk
          exact ih r (i + 2) (by omega) (at_drop hd).2.2.1 he.2
      have hi2 : (i : Int) < (l.length : Int) := by omega
      have hw : IntKind.i64.wrap ((i : Int) + 2) = ((i + 2 : Nat) : Int) := by rw [wr64 (by omega) (by omega)]; omega
      have g1 := i64s_at hi hx
      rw [loopW_eq]
      generalize ((i + 2 : Nat) : Int) = m at hw hih
      generalize loopW (bd E1 (ev E1) loopW 0 [4, 9, 17, 18, 19, 20, 21, 24, 25, 26, 27, 28, 41] L3b2) = K at hih ⊢
      simpa -implicitDefEqProofs [bd, L3b2, i64s_len, hi, hi2, g1, hw, hnx] using hih
theorem tdiv_fl {y q : Int} (hy : 0 ≤ y) (hq : 1 ≤ q) : y.tdiv q * q ≤ y ∧ y < (y.tdiv q + 1) * q := by
  rw [Int.tdiv_eq_ediv_of_nonneg hy]
  have h1 := Int.mul_ediv_add_emod y q
  have h2 := Int.emod_nonneg y (show q ≠ 0 by omega)
  have h3 := Int.emod_lt_of_pos y (show 0 < q by omega)
  have h4 : (y / q + 1) * q = q * (y / q) + q := by rw [Int.add_mul, Int.mul_comm, Int.one_mul]
  have h5 : y / q * q = q * (y / q) := Int.mul_comm _ _
  omega
theorem out_loop (u : List Int) (hl : u.length ≤ 143) (hb : ∀ x ∈ u, 1 ≤ x ∧ x ≤ 999) (p q : Int) (hp : 1 ≤ p ∧ p ≤ 99) (hq : 1 ≤ q ∧ q ≤ 99) : ∀ (t : List Int) (i : Nat), u.drop i = t →
    packX 0 [2, 24, 27] (loopW (bd E1 (ev E1) loopW 0 [24, 25, 26, 27, 44] L3b3) ⟨[(24, .lst 1 (i64s u)), (25, i64 p), (26, i64 q), (27, .lst 1 (i64s (u.map (strF p q)))), (44, i64 i)], []⟩) = some (.ext 6, ⟨[(24, .lst 1 (i64s u)), (27, .lst 1 (i64s (u.map (strF p q))))], []⟩) := by
  have hlm : (u.map (strF p q)).length = u.length := List.length_map _
  intro t
  induction t with
  | nil =>
    intro i h
    have hi := not_drop h
    have hi2 : ¬ (i : Int) < (u.length : Int) := by omega
    rw [loopW_eq]
    generalize u.map (strF p q) = V at *
    generalize loopW (bd E1 (ev E1) loopW 0 [24, 25, 26, 27, 44] L3b3) = K
    simp -implicitDefEqProofs [bd, L3b3, i64s_len, hlm, hi, hi2]
  | cons x t ih =>
    intro i h
    obtain ⟨hi, hx, hd, hmem⟩ := at_drop h
    have hbx := strF_b hp hq (hb x hmem)
    have hih := ih (i + 1) hd
    have hi2 : (i : Int) < (u.length : Int) := by omega
    have hiv : i < (u.map (strF p q)).length := by omega
    have g1 := i64s_at hi hx
    have g2 := i64s_at (x := strF p q x) hiv (by rw [List.getElem_map, hx])
    obtain ⟨f1, f2⟩ := tdiv_fl (y := x * p) (q := q) (by omega) (by omega)
    have e1 : strF p q x = (x * p).tdiv q := rfl
    rw [← e1] at f1 f2
    have hvq : strF p q x * q ≤ 98901 * 99 := Int.mul_le_mul (by omega) (by omega) (by omega) (by omega)
    have hvq0 : 0 ≤ strF p q x * q := Int.mul_nonneg (by omega) (by omega)
    have hvq1 : (strF p q x + 1) * q = strF p q x * q + q := by rw [Int.add_mul, Int.one_mul]
    have hw : IntKind.i64.wrap ((i : Int) + 1) = (i : Int) + 1 := wr64 (by omega) (by omega)
    have hw1 : IntKind.i64.wrap (x * p) = x * p := wr64 (by omega) (by omega)
    have hw2 : IntKind.i64.wrap (strF p q x * q) = strF p q x * q := wr64 (by omega) (by omega)
    have hw3 : IntKind.i64.wrap (strF p q x + 1) = strF p q x + 1 := wr64 (by omega) (by omega)
    have hw4 : IntKind.i64.wrap ((strF p q x + 1) * q) = (strF p q x + 1) * q := wr64 (by omega) (by omega)
    have c1 : ¬ x * p < strF p q x * q := by omega
    have c2 : ¬ (strF p q x + 1) * q ≤ x * p := by omega
    rw [cs1] at hih
    rw [loopW_eq]
    generalize strF p q x = v at *
    generalize u.map (strF p q) = V at *
    generalize loopW (bd E1 (ev E1) loopW 0 [24, 25, 26, 27, 44] L3b3) = K at hih ⊢
    simpa -implicitDefEqProofs [bd, L3b3, i64s_len, hlm, hi, hi2, g1, g2, hw, hw1, hw2, hw3, hw4, c1, c2] using hih
end Go.Proofs.Ytkdfgjijmnaljaa.Ev
