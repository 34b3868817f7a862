/- Stations: their tables' texts read, what is said, whether they are valid; new consoles, tables of stations. -/
import Derived.Test.YtgecnbafmlecjaaGreatDoorEvParts
set_option linter.unusedVariables false
set_option linter.unusedSimpArgs false
namespace Go.Proofs.YtgecnbafmlecjaaGreatDoor.Ev
theorem lensT_mem : ∀ {t : List ByteArray} {x : ByteArray}, x ∈ t → x.size + 1 ≤ lensT t
  | [], x, h => by cases h
  | m :: t, x, h => by
    rw [lensT]
    rcases List.mem_cons.1 h with rfl | h
    · omega
    · have := lensT_mem h
      omega
theorem lensT_len : ∀ (t : List ByteArray), t.length ≤ lensT t
  | [] => by simp
  | m :: t => by
    have := lensT_len t
    rw [lensT, List.length_cons]
    omega
theorem partsB_lens (b : UInt8) (s : ByteArray) : lensT (partsB b s) = s.size + 1 := by
  unfold partsB
  rw [parts_lens, B_len]
theorem chk_five : ∀ (t seen : List ByteArray), chk seen t = true → ∀ m ∈ t, m.size ≤ 5
  | [], seen, _, m, hm => by cases hm
  | c :: t, seen, h, m, hm => by
    unfold chk at h
    simp only [Bool.and_eq_true] at h
    rcases List.mem_cons.1 hm with rfl | hm
    · have h1 := h.1
      unfold okMarks at h1
      simp only [Bool.and_eq_true, decide_eq_true_eq] at h1
      omega
    · exact chk_five t (seen ++ [c]) h.2.2 m hm
/-- Is a text one of a valid table? -/
def okCode (s : ByteArray) : Bool := okTable (partsB 44 s)
theorem okCode_len {s : ByteArray} (h : okCode s = true) : s.size ≤ 59 := by
  have h2 := h
  unfold okCode okTable at h2
  simp only [Bool.and_eq_true, decide_eq_true_eq] at h2
  have h3 := lensT_le (partsB 44 s) (chk_five _ _ h2.2)
  have h4 := partsB_lens 44 s
  have h5 : (partsB 44 s).length * (5 + 1) ≤ 10 * 6 := Nat.mul_le_mul_right 6 (by omega)
  omega
def spOk (s : ByteArray) (i : Nat) : Bool := !(decide (i = 0) || (decide ((i : Int) = (s.size : Int) - 1) || decide ((s.data.toList.getD (i - 1) 0).toNat = 32)))
def chOk (n : Nat) (s : ByteArray) (c : UInt8) (i : Nat) : Bool := if c.toNat = 32 then spOk s i else (decide (0 ≤ (c.toNat : Int) - 97) && decide ((c.toNat : Int) - 97 ≤ (n : Int) - 1))
def msgL (n : Nat) (s : ByteArray) : List UInt8 → Nat → Bool
  | [], _ => true
  | c :: t, i => chOk n s c i && msgL n s t (i + 1)
/-- Is a text a message in a table of n letters? -/
def okMsg (n : Nat) (s : ByteArray) : Bool := msgL n s (B s) 0 && decide (s.size ≤ 12)
theorem msgS_loop (ms : List ByteArray) (hm : ms.length ≤ 140737488355328) (s : ByteArray) (hs : s.size ≤ 1073741824) : ∀ (t : List UInt8) (i : Nat), (B s).drop i = t →
    (packX 0 [4] (loopW (bd E0 (ev E0) loopW 0 [1, 2, 5] L32b0) ⟨[(1, st s), (2, .ptr 0 0 0), (5, i64 i)], [some ⟨26, 1, 0, false, [.agg [.lst 1 (ms.map st)]]⟩]⟩) = some (.ret, ⟨[(4, bl false)], []⟩) ∧ msgL ms.length s t i = false) ∨
    (packX 0 [4] (loopW (bd E0 (ev E0) loopW 0 [1, 2, 5] L32b0) ⟨[(1, st s), (2, .ptr 0 0 0), (5, i64 i)], [some ⟨26, 1, 0, false, [.agg [.lst 1 (ms.map st)]]⟩]⟩) = some (.ext 0, ⟨[], []⟩) ∧ msgL ms.length s t i = true) := by
  intro t
  induction t with
  | nil =>
    intro i h
    have hi := byte_end h
    rw [loopW_eq]
    generalize loopW (bd E0 (ev E0) loopW 0 [1, 2, 5] L32b0) = K
    simp -implicitDefEqProofs [bd, L32b0, hi, msgL]
  | cons c t ih =>
    intro i h
    obtain ⟨hi, hx, hd⟩ := byte_at h
    have hih := ih (i + 1) hd
    rw [cs1] at hih
    have hw : IntKind.i64.wrap ((i : Int) + 1) = (i : Int) + 1 := wr64 (by omega) (by omega)
    have hc256 := UInt8.toNat_lt c
    have hwc : IntKind.i64.wrap (c.toNat : Int) = (c.toNat : Int) := wr64 (by omega) (by omega)
    have hwd : IntKind.i64.wrap ((c.toNat : Int) - 97) = (c.toNat : Int) - 97 := wr64 (by omega) (by omega)
    have hwn : IntKind.i64.wrap ((ms.length : Int) - 1) = (ms.length : Int) - 1 := wr64 (by omega) (by omega)
    have hwz : IntKind.i64.wrap ((s.size : Int) - 1) = (s.size : Int) - 1 := wr64 (by omega) (by omega)
    rw [loopW_eq]
    generalize loopW (bd E0 (ev E0) loopW 0 [1, 2, 5] L32b0) = K at hih ⊢
    by_cases h32 : c.toNat = 32
    · have h32' : (c.toNat : Int) = 32 := by omega
      cases i with
      | zero =>
        have hk : chOk ms.length s c 0 = false := by simp [chOk, h32, spOk]
        simp -implicitDefEqProofs [bd, L32b0, hi, -List.getD_eq_getElem?_getD, hx, h32, h32', msgL, hk]
      | succ j =>
        have hw0 : IntKind.i64.wrap (j : Int) = (j : Int) := wr64 (by omega) (by omega)
        have hj : j < s.size := by omega
        have hj0 : ¬ (j : Int) + 1 = 0 := by omega
        have hi1 : (j : Int) + 1 < (s.size : Int) := by omega
        have hi2 : (0 : Int) ≤ (j : Int) + 1 := by omega
        have hw1 : IntKind.i64.wrap ((j : Int) + 1 + 1) = (j : Int) + 1 + 1 := wr64 (by omega) (by omega)
        by_cases he : (j : Int) + 1 = (s.size : Int) - 1
        · have hk : chOk ms.length s c (j + 1) = false := by simp [chOk, h32, spOk, he]
          have hdec : decide ((j : Int) + 1 = (s.size : Int) - 1) = true := decide_eq_true he
          simp -implicitDefEqProofs [bd, L32b0, hi, -List.getD_eq_getElem?_getD, hx, h32, h32', msgL, hk, hwz, hdec, hj0, hi1, hi2]
        · have hj1 : (0 : Int) ≤ (j : Int) + 1 - 1 := by omega
          by_cases hp : (s.data.toList.getD j 0).toNat = 32
          · have hp' : ((s.data.toList.getD j 0).toNat : Int) = 32 := by omega
            have hk : chOk ms.length s c (j + 1) = false := by unfold chOk spOk; rw [if_pos h32, Nat.add_sub_cancel, hp]; simp
            simp -implicitDefEqProofs [bd, L32b0, hi, -List.getD_eq_getElem?_getD, hx, h32, h32', msgL, hk, hwz, he, hj0, hi1, hi2, hw0, hj, hp, hp']
          · have hp' : ¬ ((s.data.toList.getD j 0).toNat : Int) = 32 := by omega
            have hk : chOk ms.length s c (j + 1) = true := by unfold chOk spOk; rw [if_pos h32, Nat.add_sub_cancel, cs1]; simp only [hp, he]; simp
            simpa -implicitDefEqProofs [bd, L32b0, hi, -List.getD_eq_getElem?_getD, hx, h32, h32', msgL, hk, hwz, he, hj0, hi1, hi2, hw0, hj, hp, hp', hw1] using hih
    · have h32' : ¬ (c.toNat : Int) = 32 := by omega
      have hin := in_s ((c.toNat : Int) - 97) 0 ((ms.length : Int) - 1)
      have hk : chOk ms.length s c i = (decide (0 ≤ (c.toNat : Int) - 97) && decide ((c.toNat : Int) - 97 ≤ (ms.length : Int) - 1)) := by unfold chOk; rw [if_neg h32]
      rw [← hk] at hin
      cases hb : chOk ms.length s c i with
      | false =>
        rw [hb] at hin
        simp -implicitDefEqProofs [bd, L32b0, hi, -List.getD_eq_getElem?_getD, hx, h32, h32', msgL, hb, hwc, hwd, hwn, hin]
      | true =>
        rw [hb] at hin
        simpa -implicitDefEqProofs [bd, L32b0, hi, -List.getD_eq_getElem?_getD, hx, h32, h32', msgL, hb, hwc, hwd, hwn, hin, hw] using hih
theorem msg_s (ms : List ByteArray) (hm : ms.length ≤ 140737488355328) (s : ByteArray) (hs : s.size ≤ 1073741824) : ev E0 32 [.agg [.lst 1 (ms.map st)], st s] [] = some (bl (okMsg ms.length s), []) := by
  rw [e32]
  unfold runF
  by_cases h12 : s.size ≤ 12
  · have h1 : ¬ 12 < s.size := by omega
    have h1' : ¬ (12 : Int) < (s.size : Int) := by omega
    have hl := msgS_loop ms hm s hs (B s) 0 rfl
    rw [c0] at hl
    have hk : okMsg ms.length s = msgL ms.length s (B s) 0 := by simp [okMsg, h12]
    rw [hk]
    rcases hl with ⟨e, h⟩ | ⟨e, h⟩
    · simp -implicitDefEqProofs [L32, h1, h1', e, h]
    · simp -implicitDefEqProofs [L32, h1, h1', e, h]
  · have h1 : 12 < s.size := by omega
    have h1' : (12 : Int) < (s.size : Int) := by omega
    have hk : okMsg ms.length s = false := by simp [okMsg, h12]
    rw [hk]
    simp -implicitDefEqProofs [L32, h1, h1']
theorem msgI_loop (ms : List ByteArray) (hm : ms.length ≤ 140737488355328) (s : ByteArray) (hs : s.size ≤ 1073741824) : ∀ (t : List UInt8) (i : Nat), (B s).drop i = t →
    (packX 0 [1, 4] (loopW (bd E0 (ev E0) loopW 0 [1, 2, 7, 8] L26b0) ⟨[(1, st s), (2, .ptr 0 0 0), (7, i64 s.size), (8, i64 i)], [some ⟨26, 1, 0, false, [.agg [.lst 1 (ms.map st)]]⟩]⟩) = some (.ret, ⟨[(1, st s), (4, bl false)], []⟩) ∧ msgL ms.length s t i = false) ∨
    (packX 0 [1, 4] (loopW (bd E0 (ev E0) loopW 0 [1, 2, 7, 8] L26b0) ⟨[(1, st s), (2, .ptr 0 0 0), (7, i64 s.size), (8, i64 i)], [some ⟨26, 1, 0, false, [.agg [.lst 1 (ms.map st)]]⟩]⟩) = some (.ext 0, ⟨[(1, st s)], []⟩) ∧ msgL ms.length s t i = true) := by
  intro t
  induction t with
  | nil =>
    intro i h
    have hi := byte_end h
    rw [loopW_eq]
    generalize loopW (bd E0 (ev E0) loopW 0 [1, 2, 7, 8] L26b0) = K
    simp -implicitDefEqProofs [bd, L26b0, hi, msgL]
  | cons c t ih =>
    intro i h
    obtain ⟨hi, hx, hd⟩ := byte_at h
    have hih := ih (i + 1) hd
    rw [cs1] at hih
    have hw : IntKind.i64.wrap ((i : Int) + 1) = (i : Int) + 1 := wr64 (by omega) (by omega)
    have hc256 := UInt8.toNat_lt c
    have hwc : IntKind.i64.wrap (c.toNat : Int) = (c.toNat : Int) := wr64 (by omega) (by omega)
    have hwd : IntKind.i64.wrap ((c.toNat : Int) - 97) = (c.toNat : Int) - 97 := wr64 (by omega) (by omega)
    have hwn : IntKind.i64.wrap ((ms.length : Int) - 1) = (ms.length : Int) - 1 := wr64 (by omega) (by omega)
    have hwz : IntKind.i64.wrap ((s.size : Int) - 1) = (s.size : Int) - 1 := wr64 (by omega) (by omega)
    rw [loopW_eq]
    generalize loopW (bd E0 (ev E0) loopW 0 [1, 2, 7, 8] L26b0) = K at hih ⊢
    by_cases h32 : c.toNat = 32
    · have h32' : (c.toNat : Int) = 32 := by omega
      cases i with
      | zero =>
        have hk : chOk ms.length s c 0 = false := by simp [chOk, h32, spOk]
        simp -implicitDefEqProofs [bd, L26b0, hi, -List.getD_eq_getElem?_getD, hx, h32, h32', msgL, hk]
      | succ j =>
        have hw0 : IntKind.i64.wrap (j : Int) = (j : Int) := wr64 (by omega) (by omega)
        have hj : j < s.size := by omega
        have hj0 : ¬ (j : Int) + 1 = 0 := by omega
        have hi1 : (j : Int) + 1 < (s.size : Int) := by omega
        have hi2 : (0 : Int) ≤ (j : Int) + 1 := by omega
        have hw1 : IntKind.i64.wrap ((j : Int) + 1 + 1) = (j : Int) + 1 + 1 := wr64 (by omega) (by omega)
        by_cases he : (j : Int) + 1 = (s.size : Int) - 1
        · have hk : chOk ms.length s c (j + 1) = false := by simp [chOk, h32, spOk, he]
          have hdec : decide ((j : Int) + 1 = (s.size : Int) - 1) = true := decide_eq_true he
          simp -implicitDefEqProofs [bd, L26b0, hi, -List.getD_eq_getElem?_getD, hx, h32, h32', msgL, hk, hwz, hdec, hj0, hi1, hi2]
        · by_cases hp : (s.data.toList.getD j 0).toNat = 32
          · have hp' : ((s.data.toList.getD j 0).toNat : Int) = 32 := by omega
            have hk : chOk ms.length s c (j + 1) = false := by unfold chOk spOk; rw [if_pos h32, Nat.add_sub_cancel, hp]; simp
            simp -implicitDefEqProofs [bd, L26b0, hi, -List.getD_eq_getElem?_getD, hx, h32, h32', msgL, hk, hwz, he, hj0, hi1, hi2, hw0, hj, hp, hp']
          · have hp' : ¬ ((s.data.toList.getD j 0).toNat : Int) = 32 := by omega
            have hk : chOk ms.length s c (j + 1) = true := by unfold chOk spOk; rw [if_pos h32, Nat.add_sub_cancel, cs1]; simp only [hp, he]; simp
            simpa -implicitDefEqProofs [bd, L26b0, hi, -List.getD_eq_getElem?_getD, hx, h32, h32', msgL, hk, hwz, he, hj0, hi1, hi2, hw0, hj, hp, hp', hw1] using hih
    · have h32' : ¬ (c.toNat : Int) = 32 := by omega
      have hin := in_i ((c.toNat : Int) - 97) 0 ((ms.length : Int) - 1)
      have hk : chOk ms.length s c i = (decide (0 ≤ (c.toNat : Int) - 97) && decide ((c.toNat : Int) - 97 ≤ (ms.length : Int) - 1)) := by unfold chOk; rw [if_neg h32]
      rw [← hk] at hin
      cases hb : chOk ms.length s c i with
      | false =>
        rw [hb] at hin
        simp -implicitDefEqProofs [bd, L26b0, hi, -List.getD_eq_getElem?_getD, hx, h32, h32', msgL, hb, hwc, hwd, hwn, hin]
      | true =>
        rw [hb] at hin
        simpa -implicitDefEqProofs [bd, L26b0, hi, -List.getD_eq_getElem?_getD, hx, h32, h32', msgL, hb, hwc, hwd, hwn, hin, hw] using hih
theorem msg_i (ms : List ByteArray) (hm : ms.length ≤ 140737488355328) (s : ByteArray) (hs : s.size ≤ 1073741824) : ev E0 26 [.agg [.lst 1 (ms.map st)], st s] [] = some (bl (okMsg ms.length s), []) := by
  rw [e26]
  unfold runF
  have hl := msgI_loop ms hm s hs (B s) 0 rfl
  rw [c0] at hl
  unfold okMsg
  have h12 : decide ((s.size : Int) ≤ 12) = decide (s.size ≤ 12) := decide_eq_decide.2 (by omega)
  rcases hl with ⟨e, h⟩ | ⟨e, h⟩
  · simp -implicitDefEqProofs [L26, e, h]
  · simp -implicitDefEqProofs [L26, e, h, h12]
-- ---------------------------------------------------------------- stations
/-- Is a station valid? -/
def okSt (a b : ByteArray) (n : Int) : Bool := okCode a && (okMsg (partsB 44 a).length b && (decide (0 ≤ n) && decide (n ≤ 1000)))
end Go.Proofs.YtgecnbafmlecjaaGreatDoor.Ev
