/- Lists of letters, ascending: the reference's l11Letters and the program's areLetters, in the evaluator's words. Answers to questions for a place. -/
import Derived.Test.YtkajcafnfdlgpaaDoorEvMark
set_option linter.unusedVariables false
set_option linter.unusedSimpArgs false
namespace Go.Proofs.YtkajcafnfdlgpaaDoor.Ev
def asc (ms : List ByteArray) : Int → List Int → Bool
  | _, [] => true
  | lo, c :: t => okLetter ms c && (decide (lo < c) && asc ms c t)
/-- Letters of a table, ascending, one at least. -/
def okLetters (ms : List ByteArray) (l : List Int) : Bool := asc ms (-1) l && decide (0 < l.length)
def prv (l : List Int) : Nat → Int
  | 0 => -1
  | j + 1 => l.getD j 0
theorem prv_succ {l : List Int} {i : Nat} {c : Int} (hi : i < l.length) (hx : l[i] = c) : prv l (i + 1) = c := by
  show l.getD i 0 = c
  rw [List.getD_eq_getElem?_getD, List.getElem?_eq_getElem hi, hx]
  rfl
theorem lettersI_loop (ms : List ByteArray) (hm : ms.length ≤ 140737488355328) (l : List Int) (hl : l.length ≤ 140737488355328) : ∀ (t : List Int) (i : Nat), l.drop i = t →
    (packX 0 [1, 4] (loopW (bd E0 (ev E0) loopW 0 [1, 2, 7, 8, 9] L71b0) ⟨[(1, .lst 1 (i64s l)), (2, .ptr 0 0 0), (7, .lst 1 (i64s l)), (8, i64 l.length), (9, i64 i)], [some ⟨26, 1, 0, false, [.agg [.lst 1 (ms.map st)]]⟩]⟩) = some (.ret, ⟨[(1, .lst 1 (i64s l)), (4, bl false)], []⟩) ∧ asc ms (prv l i) t = false) ∨
    (packX 0 [1, 4] (loopW (bd E0 (ev E0) loopW 0 [1, 2, 7, 8, 9] L71b0) ⟨[(1, .lst 1 (i64s l)), (2, .ptr 0 0 0), (7, .lst 1 (i64s l)), (8, i64 l.length), (9, i64 i)], [some ⟨26, 1, 0, false, [.agg [.lst 1 (ms.map st)]]⟩]⟩) = some (.ext 0, ⟨[(1, .lst 1 (i64s l))], []⟩) ∧ asc ms (prv l i) t = true) := by
  intro t
  induction t with
  | nil =>
    intro i h
    have hi := not_drop h
    rw [loopW_eq]
    generalize loopW (bd E0 (ev E0) loopW 0 [1, 2, 7, 8, 9] L71b0) = K
    simp -implicitDefEqProofs [bd, L71b0, hi, asc]
  | cons c t ih =>
    intro i h
    obtain ⟨hi, hx, hd, hmem⟩ := at_drop h
    have hih := ih (i + 1) hd
    rw [cs1, prv_succ hi hx] at hih
    have hw : IntKind.i64.wrap ((i : Int) + 1) = (i : Int) + 1 := wr64 (by omega) (by omega)
    have hlt := letter_i ms hm c
    rw [loopW_eq]
    generalize loopW (bd E0 (ev E0) loopW 0 [1, 2, 7, 8, 9] L71b0) = K at hih ⊢
    cases h1 : okLetter ms c with
    | false =>
      rw [h1] at hlt
      simp -implicitDefEqProofs [bd, L71b0, i64s, hi, hx, hlt, asc, h1]
    | true =>
      rw [h1] at hlt
      have hb := okLetter_bounds h1
      cases i with
      | zero =>
        have h2 : (-1 : Int) < c := by omega
        have hw1 : IntKind.i64.wrap 1 = 1 := by decide
        simpa -implicitDefEqProofs [bd, L71b0, i64s, hi, hx, hw1, hlt, asc, h1, prv, h2] using hih
      | succ j =>
        have hj : j < l.length := by omega
        have hw0 : IntKind.i64.wrap (j : Int) = (j : Int) := wr64 (by omega) (by omega)
        have hp : prv l (j + 1) = l[j] := prv_succ hj rfl
        have hw2 : IntKind.i64.wrap ((j : Int) + 1 + 1) = (j : Int) + 1 + 1 := wr64 (by omega) (by omega)
        have hj1 : (j : Int) + 1 < (l.length : Int) := by omega
        have hj0 : (0 : Int) ≤ (j : Int) + 1 := by omega
        rw [hp]
        generalize hv : l[j] = v at *
        by_cases h2 : v < c
        · have h3 : ¬ c ≤ v := by omega
          simpa -implicitDefEqProofs [bd, L71b0, i64s, hi, hx, hw2, hw0, hj, hj1, hj0, hv, hlt, asc, h1, h2, h3] using hih
        · have h3 : c ≤ v := by omega
          simp -implicitDefEqProofs [bd, L71b0, i64s, hi, hx, hw2, hw0, hj, hj1, hj0, hv, hlt, asc, h1, h2, h3]
theorem letters_i (ms : List ByteArray) (hm : ms.length ≤ 140737488355328) (l : List Int) (hl : l.length ≤ 140737488355328) : ev E0 71 [.agg [.lst 1 (ms.map st)], .lst 1 (i64s l)] [] = some (bl (okLetters ms l), []) := by
  rw [e71]
  unfold runF
  have hlp := lettersI_loop ms hm l hl l 0 rfl
  rw [c0] at hlp
  have hp : prv l 0 = -1 := rfl
  rw [hp] at hlp
  rcases hlp with ⟨e, h⟩ | ⟨e, h⟩
  · simp -implicitDefEqProofs [L71, i64s_len, e, okLetters, h]
  · simp -implicitDefEqProofs [L71, i64s_len, e, okLetters, h]
theorem lettersS_loop (ms : List ByteArray) (hm : ms.length ≤ 10) (l : List Int) (hl : l.length ≤ 140737488355328) : ∀ (t : List Int) (i : Nat), l.drop i = t → (i : Int) - 1 ≤ prv l i → prv l i ≤ (ms.length : Int) - 1 → i ≤ l.length →
    (packX 0 [1, 4] (loopW (bd E0 (ev E0) loopW 0 [1, 2, 5] L65b0) ⟨[(1, .lst 1 (i64s l)), (2, .ptr 0 0 0), (5, i64 i)], [some ⟨26, 1, 0, false, [.agg [.lst 1 (ms.map st)]]⟩]⟩) = some (.ret, ⟨[(1, .lst 1 (i64s l)), (4, bl false)], []⟩) ∧ asc ms (prv l i) t = false) ∨
    (packX 0 [1, 4] (loopW (bd E0 (ev E0) loopW 0 [1, 2, 5] L65b0) ⟨[(1, .lst 1 (i64s l)), (2, .ptr 0 0 0), (5, i64 i)], [some ⟨26, 1, 0, false, [.agg [.lst 1 (ms.map st)]]⟩]⟩) = some (.ext 0, ⟨[(1, .lst 1 (i64s l))], []⟩) ∧ asc ms (prv l i) t = true ∧ l.length ≤ 10) := by
  intro t
  induction t with
  | nil =>
    intro i h hp1 hp2 hil
    have hi := not_drop h
    have h10 : l.length ≤ 10 := by omega
    rw [loopW_eq]
    generalize loopW (bd E0 (ev E0) loopW 0 [1, 2, 5] L65b0) = K
    simp -implicitDefEqProofs [bd, L65b0, i64s, hi, asc, h10]
  | cons c t ih =>
    intro i h hp1 hp2 hil
    obtain ⟨hi, hx, hd, hmem⟩ := at_drop h
    have hih := ih (i + 1) hd
    rw [cs1, prv_succ hi hx] at hih
    have hw : IntKind.i64.wrap ((i : Int) + 1) = (i : Int) + 1 := wr64 (by omega) (by omega)
    have hwm : IntKind.i64.wrap ((ms.length : Int) - 1) = (ms.length : Int) - 1 := wr64 (by omega) (by omega)
    have h10 : i ≤ 10 := by omega
    have h10' : (i : Int) ≤ 10 := by omega
    have hin := in_s c 0 ((ms.length : Int) - 1)
    have hok : (decide ((0 : Int) ≤ c) && decide (c ≤ (ms.length : Int) - 1)) = okLetter ms c := rfl
    rw [hok] at hin
    rw [loopW_eq]
    generalize loopW (bd E0 (ev E0) loopW 0 [1, 2, 5] L65b0) = K at hih ⊢
    cases h1 : okLetter ms c with
    | false =>
      rw [h1] at hin
      simp -implicitDefEqProofs [bd, L65b0, i64s, hi, hx, h10, h10', hwm, hin, asc, h1]
    | true =>
      rw [h1] at hin
      have hb := okLetter_bounds h1
      cases i with
      | zero =>
        have h2 : (-1 : Int) < c := by omega
        have hw1 : IntKind.i64.wrap 1 = 1 := by decide
        have hih := hih (by omega) (by omega) (by omega)
        simpa -implicitDefEqProofs [bd, L65b0, i64s, hi, hx, hw1, hwm, hin, asc, h1, prv, h2] using hih
      | succ j =>
        have hj : j < l.length := by omega
        have hw0 : IntKind.i64.wrap (j : Int) = (j : Int) := wr64 (by omega) (by omega)
        have hp : prv l (j + 1) = l[j] := prv_succ hj rfl
        have hw2 : IntKind.i64.wrap ((j : Int) + 1 + 1) = (j : Int) + 1 + 1 := wr64 (by omega) (by omega)
        have hj1 : (j : Int) + 1 < (l.length : Int) := by omega
        have hj0 : (0 : Int) ≤ (j : Int) + 1 := by omega
        have hj10 : (j : Int) + 1 ≤ 10 := by omega
        rw [hp] at hp1 hp2 ⊢
        generalize hv : l[j] = v at *
        by_cases h2 : v < c
        · have h3 : ¬ c ≤ v := by omega
          have hih := hih (by omega) (by omega) (by omega)
          simpa -implicitDefEqProofs [bd, L65b0, i64s, hi, hx, hw2, hwm, hw0, hj, hj1, hj0, hj10, hv, hin, asc, h1, h2, h3] using hih
        · have h3 : c ≤ v := by omega
          simp -implicitDefEqProofs [bd, L65b0, i64s, hi, hx, hw2, hwm, hw0, hj, hj1, hj0, hj10, hv, hin, asc, h1, h2, h3]
theorem letters_s (ms : List ByteArray) (hm1 : 1 ≤ ms.length) (hm : ms.length ≤ 10) (l : List Int) (hl : l.length ≤ 140737488355328) : ev E0 65 [.agg [.lst 1 (ms.map st)], .lst 1 (i64s l)] [] = some (bl (okLetters ms l), []) := by
  rw [e65]
  unfold runF
  have hlp := lettersS_loop ms hm l hl l 0 rfl (by show (0 : Int) - 1 ≤ -1; omega) (by show (-1 : Int) ≤ _; omega) (by omega)
  rw [c0] at hlp
  have hp : prv l 0 = -1 := rfl
  rw [hp] at hlp
  rcases hlp with ⟨e, h⟩ | ⟨e, h, h10⟩
  · simp -implicitDefEqProofs [L65, i64s_len, e, okLetters, h]
  · have h10' : (l.length : Int) ≤ 10 := by omega
    have h1 : decide ((1 : Int) ≤ (l.length : Int)) = decide (0 < l.length) := decide_eq_decide.2 (by omega)
    simp -implicitDefEqProofs [L65, i64s_len, e, okLetters, h, in_s, h10, h10', h1]
-- ---------------------------------------------------------------- answers
def ans (m : ByteArray) (q : Nat) : Nat := if m.size ≤ q then 2 else if (m.data.toList.getD q 0).toNat = 45 then 1 else 0
theorem answer_s (ms : List ByteArray) (i : Nat) (hi : i < ms.length) (m : ByteArray) (hx : ms[i] = m) (q : Nat) : ev E0 77 [.agg [.lst 1 (ms.map st)], i64 i, i64 q] [] = some (i64 (ans m q), []) := by
  rw [e77]
  unfold runF
  by_cases h1 : m.size ≤ q
  · simp -implicitDefEqProofs [L77, hi, hx, h1, ans]
  · have h1' : q < m.size := by omega
    by_cases h2 : (m.data.toList.getD q 0).toNat = 45
    · have h2' : ((m.data.toList.getD q 0).toNat : Int) = 45 := by omega
      simp -implicitDefEqProofs [L77, hi, hx, h1, h1', ans, -List.getD_eq_getElem?_getD, h2, h2']
    · have h2' : ¬ ((m.data.toList.getD q 0).toNat : Int) = 45 := by omega
      simp -implicitDefEqProofs [L77, hi, hx, h1, h1', ans, -List.getD_eq_getElem?_getD, h2, h2']
theorem answer_i (ms : List ByteArray) (i : Nat) (hi : i < ms.length) (m : ByteArray) (hx : ms[i] = m) (q : Nat) : ev E0 76 [.agg [.lst 1 (ms.map st)], i64 i, i64 q] [] = some (i64 (ans m q), []) := by
  rw [e76]
  unfold runF
  by_cases h1 : m.size ≤ q
  · simp -implicitDefEqProofs [L76, hi, hx, h1, ans]
  · have h1' : q < m.size := by omega
    by_cases h2 : (m.data.toList.getD q 0).toNat = 45
    · have h2' : ((m.data.toList.getD q 0).toNat : Int) = 45 := by omega
      simp -implicitDefEqProofs [L76, hi, hx, h1, h1', ans, -List.getD_eq_getElem?_getD, h2, h2']
    · have h2' : ¬ ((m.data.toList.getD q 0).toNat : Int) = 45 := by omega
      simp -implicitDefEqProofs [L76, hi, hx, h1, h1', ans, -List.getD_eq_getElem?_getD, h2, h2']
end Go.Proofs.YtkajcafnfdlgpaaDoor.Ev
