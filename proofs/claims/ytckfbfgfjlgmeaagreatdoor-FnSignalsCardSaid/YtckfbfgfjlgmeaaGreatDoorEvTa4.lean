/- Times of marks; texts of tables. -/
import Derived.Test.YtckfbfgfjlgmeaaGreatDoorEvTa3
import Derived.Test.YtckfbfgfjlgmeaaGreatDoorEvTextOf
set_option linter.unusedVariables false
set_option linter.unusedSimpArgs false
namespace Go.Proofs.YtckfbfgfjlgmeaaGreatDoor.Ev
def dash (s : ByteArray) : Nat := Lib.countByte (B s) 45
theorem timeI (s : ByteArray) (hs : s.size ≤ 100000) : ev E0 111 [st s] [] = some (i64 (2 * (s.size : Int) - 1 + 2 * (dash s : Int)), []) := by
  have hd : Lib.countByte (B s) 45 ≤ s.size := by
    unfold Lib.countByte
    exact Nat.le_trans (List.count_le_length ..) (Nat.le_of_eq (B_len s))
  have w1 : IntKind.i64.wrap (2 * (s.size : Int)) = 2 * (s.size : Int) := wr64 (by omega) (by omega)
  have w2 : IntKind.i64.wrap (2 * (s.size : Int) - 1) = 2 * (s.size : Int) - 1 := wr64 (by omega) (by omega)
  have w3 : IntKind.i64.wrap (2 * (dash s : Int)) = 2 * (dash s : Int) := wr64 (by unfold dash; omega) (by unfold dash; omega)
  have w4 : IntKind.i64.wrap (2 * (s.size : Int) - 1 + 2 * (dash s : Int)) = 2 * (s.size : Int) - 1 + 2 * (dash s : Int) := wr64 (by unfold dash; omega) (by unfold dash; omega)
  have hc : ev E0 86 [st s, st ⟨#[45]⟩] [] = some (i64 (dash s : Int), []) := by
    rw [e86, countP, if_pos (by rfl)]
    rfl
  rw [e111]
  unfold runF
  generalize dash s = d at *
  simp -implicitDefEqProofs [L111, hc, w1, w2, w3, w4]
theorem timeS_loop (s : ByteArray) (hs : s.size ≤ 100000) : ∀ (t : List UInt8) (i : Nat) (c : Int), (B s).drop i = t → 0 ≤ c → c + 3 * t.length ≤ 1000000 →
    packX 0 [3] (loopW (bd E0 (ev E0) loopW 0 [0, 3, 4] L112b0) ⟨[(0, st s), (3, i64 c), (4, i64 i)], []⟩) = some (.ext 0, ⟨[(3, i64 (c + t.length + 2 * (Lib.countByte t 45 : Nat)))], []⟩) := by
  intro t
  induction t with
  | nil =>
    intro i c h _ _
    have hi := byte_end h
    rw [show c + (([] : List UInt8).length : Int) + 2 * ((Lib.countByte [] 45 : Nat) : Int) = c by simp [Lib.countByte], loopW_eq]
    generalize loopW (bd E0 (ev E0) loopW 0 [0, 3, 4] L112b0) = K
    simp -implicitDefEqProofs [bd, L112b0, hi]
  | cons b t ih =>
    intro i c h h0 h1
    obtain ⟨hi, hx, hd⟩ := byte_at h
    rw [List.length_cons] at h1
    have hg : ∀ h, s.data[i]'h = b := by
      intro _
      have hi2 : i < s.data.toList.length := by simpa using hi
      rw [List.getD_eq_getElem?_getD, List.getElem?_eq_getElem hi2, Option.getD_some] at hx
      exact hx
    have hw : IntKind.i64.wrap ((i : Int) + 1) = (i : Int) + 1 := wr64 (by omega) (by omega)
    have w1 : IntKind.i64.wrap (c + 1) = c + 1 := wr64 (by omega) (by omega)
    by_cases hb : b = 45
    · subst hb
      have hih := ih (i + 1) (c + 3) hd (by omega) (by omega)
      have w2 : IntKind.i64.wrap (c + 1 + 2) = c + 3 := by rw [wr64 (by omega) (by omega)]; omega
      rw [cs1, show c + 3 + (t.length : Int) + 2 * ((Lib.countByte t 45 : Nat) : Int) = c + ((45 :: t).length : Int) + 2 * ((Lib.countByte (45 :: t) 45 : Nat) : Int) by simp [Lib.countByte]; omega] at hih
      rw [loopW_eq]
      clear ih
      generalize c + ((45 :: t).length : Int) + 2 * ((Lib.countByte (45 :: t) 45 : Nat) : Int) = R at hih ⊢
      generalize loopW (bd E0 (ev E0) loopW 0 [0, 3, 4] L112b0) = K at hih ⊢
      simpa -implicitDefEqProofs [bd, L112b0, hi, hx, hg, hw, w1, w2] using hih
    · have hih := ih (i + 1) (c + 1) hd (by omega) (by omega)
      have hbn : decide ((b.toNat : Int) = 45) = false := decide_eq_false (fun h => hb (UInt8.toNat_inj.1 (by simpa using (by omega : b.toNat = 45))))
      rw [cs1, show c + 1 + (t.length : Int) + 2 * ((Lib.countByte t 45 : Nat) : Int) = c + ((b :: t).length : Int) + 2 * ((Lib.countByte (b :: t) 45 : Nat) : Int) by simp [Lib.countByte, List.count_cons, hb]; omega] at hih
      rw [loopW_eq]
      clear ih
      generalize c + ((b :: t).length : Int) + 2 * ((Lib.countByte (b :: t) 45 : Nat) : Int) = R at hih ⊢
      generalize loopW (bd E0 (ev E0) loopW 0 [0, 3, 4] L112b0) = K at hih ⊢
      simpa -implicitDefEqProofs [bd, L112b0, hi, hx, hg, hw, w1, hbn] using hih
theorem timeS (s : ByteArray) (h0 : 0 < s.size) (hs : s.size ≤ 100000) : ev E0 112 [st s] [] = some (i64 (2 * (s.size : Int) - 1 + 2 * (dash s : Int)), []) := by
  have hl : (B s).length = s.size := B_len s
  have h := timeS_loop s hs (B s) 0 ((s.size : Int) - 1) rfl (by omega) (by omega)
  rw [c0, hl, show (s.size : Int) - 1 + (s.size : Int) + 2 * ((Lib.countByte (B s) 45 : Nat) : Int) = 2 * (s.size : Int) - 1 + 2 * (dash s : Int) by unfold dash; omega] at h
  have w1 : IntKind.i64.wrap ((s.size : Int) - 1) = (s.size : Int) - 1 := wr64 (by omega) (by omega)
  have h4 := Dr.most_d 0 ((s.size : Int) - 1)
  rw [show (if (s.size : Int) - 1 < 0 then (0 : Int) else (s.size : Int) - 1) = (s.size : Int) - 1 from if_neg (by omega)] at h4
  rw [e112]
  unfold runF
  generalize 2 * (s.size : Int) - 1 + 2 * (dash s : Int) = R at *
  simp -implicitDefEqProofs [L112, h, h4, w1]
def tmOf (s : ByteArray) : AV := .tup [i64 (if okMarks s 1 5 = true then 2 * (s.size : Int) - 1 + 2 * (dash s : Int) else 0), bl (okMarks s 1 5)]
theorem timeOfM_i (s : ByteArray) (hs : s.size ≤ 100000) : ev E0 48 [st s] [] = some (tmOf s, []) := by
  have h1 := letterMarks s (by omega)
  have h2 := timeI s hs
  unfold tmOf
  rw [e48]
  unfold runF
  generalize 2 * (s.size : Int) - 1 + 2 * (dash s : Int) = R at *
  cases ho : okMarks s 1 5 with
  | false => rw [ho] at h1; simp -implicitDefEqProofs [L48, h1]
  | true => rw [ho] at h1; simp -implicitDefEqProofs [L48, h1, h2]
theorem timeOfM_s (s : ByteArray) (hs : s.size ≤ 100000) : ev E0 49 [st s] [] = some (tmOf s, []) := by
  have h1 := marks_s s (by omega) 1 5
  unfold tmOf
  rw [e49]
  unfold runF
  cases ho : okMarks s 1 5 with
  | false => rw [ho] at h1; simp -implicitDefEqProofs [L49, h1]
  | true =>
    have h0 : 0 < s.size := by
      unfold okMarks at ho
      simp only [Bool.and_eq_true, decide_eq_true_eq] at ho
      omega
    have h2 := timeS s h0 hs
    generalize 2 * (s.size : Int) - 1 + 2 * (dash s : Int) = R at *
    rw [ho] at h1; simp -implicitDefEqProofs [L49, h1, h2]
end Go.Proofs.YtckfbfgfjlgmeaaGreatDoor.Ev
