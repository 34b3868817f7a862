/- Traces with short lengths down dropped; the reference's function and the program's. -/
import Derived.Test.YtkdfgjijmnaljaaEvKeyed2
set_option linter.unusedVariables false
set_option linter.unusedSimpArgs false
namespace Go.Proofs.Ytkdfgjijmnaljaa.Ev
open Ky
theorem odd_next (i : Nat) : (!decide (i % 2 = 1)) = decide ((i + 1) % 2 = 1) := by
  by_cases h : i % 2 = 1
  · have h2 : ¬ (i + 1) % 2 = 1 := by omega
    simp [h, h2]
  · have h2 : (i + 1) % 2 = 1 := by omega
    simp [h, h2]

theorem drop_loopS (l : List Int) (hl : l.length ≤ 143) (hb : ∀ x ∈ l, 1 ≤ x ∧ x ≤ 999) (n : Int) : ∀ (t : List Int) (i : Nat) (o : List Int) (up : Int), l.drop i = t → o.length ≤ 2 * i → 0 ≤ up → up ≤ 999 * i →
    packX 0 [6] (loopW (bd E0 (ev E0) loopW 0 [0, 1, 6, 7, 8] L9b0) ⟨[(0, .lst 1 (i64s l)), (1, i64 n), (6, .sl 0 0 o.length), (7, i64 up), (8, i64 i)], [some ⟨3, 1, 1, false, i64s o⟩]⟩) = some (.ext 0, ⟨[(6, .sl 0 0 (dr n o up (decide (i % 2 = 1)) t).length)], [some ⟨3, 1, 1, false, i64s (dr n o up (decide (i % 2 = 1)) t)⟩]⟩) := by
  intro t
  induction t with
  | nil =>
    intro i o up h1 h2 h3 h4
    have hi := not_drop h1
    have hi2 : ¬ (i : Int) < (l.length : Int) := by omega
    rw [dr, loopW_eq]
    generalize i64s o = A
    generalize loopW (bd E0 (ev E0) loopW 0 [0, 1, 6, 7, 8] L9b0) = K
    simp -implicitDefEqProofs [bd, L9b0, i64s_len, hi, hi2]
  | cons x t ih =>
    intro i o up h1 h2 h3 h4
    obtain ⟨hi, hx, hd, hmem⟩ := at_drop h1
    have ha := hb x hmem
    have hi2 : (i : Int) < (l.length : Int) := by omega
    have g1 := i64s_at hi hx
    have hw : IntKind.i64.wrap ((i : Int) + 1) = ((i + 1 : Nat) : Int) := by rw [wr64 (by omega) (by omega)]; omega
    have ht := tmod2 i
    have hw3 : IntKind.i64.wrap (up + x) = up + x := wr64 (by omega) (by omega)
    rw [dr, odd_next, loopW_eq]
    generalize hm : ((i + 1 : Nat) : Int) = m at hw
    by_cases h2i : i % 2 = 1
    · have h2' : ((i % 2 : Nat) : Int) = 1 := by omega
      have hih := ih (i + 1) o (up + x) hd (by omega) (by omega) (by omega)
      rw [hm] at hih
      rw [if_pos (by simp [h2i])]
      generalize dr n o (up + x) (decide ((i + 1) % 2 = 1)) t = R at hih ⊢
      generalize i64s o = A at hih ⊢
      generalize loopW (bd E0 (ev E0) loopW 0 [0, 1, 6, 7, 8] L9b0) = K at hih ⊢
      simpa -implicitDefEqProofs [-Int.natCast_emod, bd, L9b0, i64s_len, hi, hi2, hw, hw3, g1, ht, h2i, h2'] using hih
    · have h2' : ¬ ((i % 2 : Nat) : Int) = 1 := by omega
      by_cases hn : x < n
      · have hih := ih (i + 1) o (up + x) hd (by omega) (by omega) (by omega)
        rw [hm] at hih
        rw [if_pos (by simp [hn])]
        generalize dr n o (up + x) (decide ((i + 1) % 2 = 1)) t = R at hih ⊢
        generalize i64s o = A at hih ⊢
        generalize loopW (bd E0 (ev E0) loopW 0 [0, 1, 6, 7, 8] L9b0) = K at hih ⊢
        simpa -implicitDefEqProofs [-Int.natCast_emod, bd, L9b0, i64s_len, hi, hi2, hw, hw3, g1, ht, h2i, h2', hn] using hih
      · rw [if_neg (by simp [h2i, hn])]
        by_cases ho : o = []
        · subst ho
          have hih := ih (i + 1) [x] 0 hd (by simp; omega) (by omega) (by omega)
          rw [hm] at hih
          have e1 : i64s [] = [] := rfl
          have e2 : i64s [x] = [i64 x] := rfl
          rw [e2] at hih
          rw [if_pos rfl, e1]
          generalize dr n [x] 0 (decide ((i + 1) % 2 = 1)) t = R at hih ⊢
          generalize loopW (bd E0 (ev E0) loopW 0 [0, 1, 6, 7, 8] L9b0) = K at hih ⊢
          simpa -implicitDefEqProofs [-Int.natCast_emod, bd, L9b0, i64s_len, hi, hi2, hw, g1, ht, h2i, h2', hn] using hih
        · have hih := ih (i + 1) (o ++ [up, x]) 0 hd (by simp; omega) (by omega) (by omega)
          rw [hm] at hih
          rw [if_neg ho]
          have hop : 0 < o.length := List.length_pos_iff.2 ho
          have hop2 : ¬ o.length = 0 := by omega
          have hop3 : (0 : Int) < (o.length : Int) := by omega
          have hop4 : ¬ (o.length : Int) = 0 := by omega
          have hl1 : (o.length + 1 + 1) * 8 ≤ 140737488355328 := by omega
          have hl2 : o.length + 1 + 1 ≤ 140737488355328 := by omega
          have hl3 : (o.length + 1) * 8 ≤ 140737488355328 := by omega
          have hl4 : o.length + 1 ≤ 140737488355328 := by omega
          have htk := i64s_take o
          have htk2 : ∀ a, List.take (o.length + 1) (i64s o ++ [a]) = i64s o ++ [a] := fun a => List.take_of_length_le (by rw [List.length_append, i64s_len]; simp)
          have hap : i64s (o ++ [up, x]) = i64s o ++ [i64 up, i64 x] := i64s_app o [up, x]
          have hpl : (o ++ [up, x]).length = o.length + 2 := by simp
          have hol := i64s_len o
          rw [hap, hpl] at hih
          generalize dr n (o ++ [up, x]) 0 (decide ((i + 1) % 2 = 1)) t = R at hih ⊢
          generalize i64s o = A at hih htk htk2 hol ⊢
          have hol2 : o.length ≤ A.length := by omega
          generalize loopW (bd E0 (ev E0) loopW 0 [0, 1, 6, 7, 8] L9b0) = K at hih ⊢
          simpa -implicitDefEqProofs [-Int.natCast_emod, bd, L9b0, i64s_len, hi, hi2, hw, g1, ht, h2i, h2', hn, hop, hop2, hop3, hop4, hl1, hl2, hl3, hl4, htk, htk2, hol] using hih

theorem dropS (l : List Int) (hl : l.length ≤ 140737488355328) (n : Int) : ev E0 9 [.lst 1 (i64s l), i64 n] [] = some (if (okTr l && okLen n) = true then mdS (dr n [] 0 false l) else (.tup [.sl 0 0 0, bl false], [some ⟨3, 1, 1, false, []⟩])) := by
  have h1 := trace_s l hl
  have h2 := in_s n 1 999
  change ev E0 _ _ _ = some (bl (okLen n), []) at h2
  rw [e9]
  unfold runF
  cases ho : okTr l with
  | false =>
    rw [ho] at h1
    simp -implicitDefEqProofs [L9, h1]
  | true =>
    rw [ho] at h1
    cases hn : okLen n with
    | false =>
      rw [hn] at h2
      simp -implicitDefEqProofs [L9, h1, h2]
    | true =>
      rw [hn] at h2
      obtain ⟨b1, b2, b3⟩ := okTr_b ho
      have hlp := drop_loopS l b3 b1 n l 0 [] 0 rfl (by simp) (by omega) (by omega)
      have hz := dr_len n l [] 0 false
      rw [List.length_nil, Nat.zero_add] at hz
      have hm := made_s (dr n [] 0 false l) (by omega)
      have hd0 : decide (0 % 2 = 1) = false := by decide
      rw [hd0, c0, List.length_nil, show i64s [] = [] from rfl] at hlp
      have htk := i64s_take (dr n [] 0 false l)
      have hfl := i64s_len (dr n [] 0 false l)
      have gl := i64s_len l
      unfold mdS at hm ⊢
      generalize dr n [] 0 false l = R at *
      generalize i64s l = A at *
      cases hr : okTr R with
      | false =>
        rw [hr] at hm
        simp only [Bool.false_eq_true, if_false] at hm
        simp -implicitDefEqProofs [L9, h1, h2, hlp, htk, hfl, hm, gl]
      | true =>
        rw [hr] at hm
        simp only [if_true] at hm
        simp -implicitDefEqProofs [L9, h1, h2, hlp, htk, hfl, hm, gl]

theorem drop_loopI (l : List Int) (hl : l.length ≤ 143) (hb : ∀ x ∈ l, 1 ≤ x ∧ x ≤ 999) (n : Int) : ∀ (t : List Int) (i : Nat) (o : List Int) (up : Int), l.drop i = t → o.length ≤ 2 * i → 0 ≤ up → up ≤ 999 * i →
    packX 0 [6] (loopW (bd E0 (ev E0) loopW 0 [1, 6, 7, 19, 20, 21] L8b0) ⟨[(1, i64 n), (6, .sl 0 0 o.length), (7, i64 up), (19, .lst 1 (i64s l)), (20, i64 l.length), (21, i64 i)], [some ⟨3, 1, 1, false, i64s o⟩]⟩) = some (.ext 0, ⟨[(6, .sl 0 0 (dr n o up (decide (i % 2 = 1)) t).length)], [some ⟨3, 1, 1, false, i64s (dr n o up (decide (i % 2 = 1)) t)⟩]⟩) := by
  intro t
  induction t with
  | nil =>
    intro i o up h1 h2 h3 h4
    have hi := not_drop h1
    have hi2 : ¬ (i : Int) < (l.length : Int) := by omega
    rw [dr, loopW_eq]
    generalize i64s o = A
    generalize loopW (bd E0 (ev E0) loopW 0 [1, 6, 7, 19, 20, 21] L8b0) = K
    simp -implicitDefEqProofs [bd, L8b0, i64s_len, hi, hi2]
  | cons x t ih =>
    intro i o up h1 h2 h3 h4
    obtain ⟨hi, hx, hd, hmem⟩ := at_drop h1
    have ha := hb x hmem
    have hi2 : (i : Int) < (l.length : Int) := by omega
    have g1 := i64s_at hi hx
    have hw : IntKind.i64.wrap ((i : Int) + 1) = ((i + 1 : Nat) : Int) := by rw [wr64 (by omega) (by omega)]; omega
    have ht := tmod2 i
    have hw3 : IntKind.i64.wrap (up + x) = up + x := wr64 (by omega) (by omega)
    rw [dr, odd_next, loopW_eq]
    generalize hm : ((i + 1 : Nat) : Int) = m at hw
    by_cases h2i : i % 2 = 1
    · have h2' : ((i % 2 : Nat) : Int) = 1 := by omega
      have hih := ih (i + 1) o (up + x) hd (by omega) (by omega) (by omega)
      rw [hm] at hih
      rw [if_pos (by simp [h2i])]
      generalize dr n o (up + x) (decide ((i + 1) % 2 = 1)) t = R at hih ⊢
      generalize i64s o = A at hih ⊢
      generalize loopW (bd E0 (ev E0) loopW 0 [1, 6, 7, 19, 20, 21] L8b0) = K at hih ⊢
      simpa -implicitDefEqProofs [-Int.natCast_emod, bd, L8b0, i64s_len, hi, hi2, hw, hw3, g1, ht, h2i, h2'] using hih
    · have h2' : ¬ ((i % 2 : Nat) : Int) = 1 := by omega
      by_cases hn : x < n
      · have hih := ih (i + 1) o (up + x) hd (by omega) (by omega) (by omega)
        rw [hm] at hih
        rw [if_pos (by simp [hn])]
        generalize dr n o (up + x) (decide ((i + 1) % 2 = 1)) t = R at hih ⊢
        generalize i64s o = A at hih ⊢
        generalize loopW (bd E0 (ev E0) loopW 0 [1, 6, 7, 19, 20, 21] L8b0) = K at hih ⊢
        simpa -implicitDefEqProofs [-Int.natCast_emod, bd, L8b0, i64s_len, hi, hi2, hw, hw3, g1, ht, h2i, h2', hn] using hih
      · rw [if_neg (by simp [h2i, hn])]
        by_cases ho : o = []
        · subst ho
          have hih := ih (i + 1) [x] 0 hd (by simp; omega) (by omega) (by omega)
          rw [hm] at hih
          have e1 : i64s [] = [] := rfl
          have e2 : i64s [x] = [i64 x] := rfl
          rw [e2] at hih
          rw [if_pos rfl, e1]
          generalize dr n [x] 0 (decide ((i + 1) % 2 = 1)) t = R at hih ⊢
          generalize loopW (bd E0 (ev E0) loopW 0 [1, 6, 7, 19, 20, 21] L8b0) = K at hih ⊢
          simpa -implicitDefEqProofs [-Int.natCast_emod, bd, L8b0, i64s_len, hi, hi2, hw, g1, ht, h2i, h2', hn] using hih
        · have hih := ih (i + 1) (o ++ [up, x]) 0 hd (by simp; omega) (by omega) (by omega)
          rw [hm] at hih
          rw [if_neg ho]
          have hop : 0 < o.length := List.length_pos_iff.2 ho
          have hop2 : ¬ o.length = 0 := by omega
          have hop3 : (0 : Int) < (o.length : Int) := by omega
          have hop4 : ¬ (o.length : Int) = 0 := by omega
          have hl1 : (o.length + 1 + 1) * 8 ≤ 140737488355328 := by omega
          have hl2 : o.length + 1 + 1 ≤ 140737488355328 := by omega
          have hl3 : (o.length + 1) * 8 ≤ 140737488355328 := by omega
          have hl4 : o.length + 1 ≤ 140737488355328 := by omega
          have htk := i64s_take o
          have htk2 : ∀ a, List.take (o.length + 1) (i64s o ++ [a]) = i64s o ++ [a] := fun a => List.take_of_length_le (by rw [List.length_append, i64s_len]; simp)
          have hap : i64s (o ++ [up, x]) = i64s o ++ [i64 up, i64 x] := i64s_app o [up, x]
          have hpl : (o ++ [up, x]).length = o.length + 2 := by simp
          have hol := i64s_len o
          rw [hap, hpl] at hih
          generalize dr n (o ++ [up, x]) 0 (decide ((i + 1) % 2 = 1)) t = R at hih ⊢
          generalize i64s o = A at hih htk htk2 hol ⊢
          have hol2 : o.length ≤ A.length := by omega
          generalize loopW (bd E0 (ev E0) loopW 0 [1, 6, 7, 19, 20, 21] L8b0) = K at hih ⊢
          simpa -implicitDefEqProofs [-Int.natCast_emod, bd, L8b0, i64s_len, hi, hi2, hw, g1, ht, h2i, h2', hn, hop, hop2, hop3, hop4, hl1, hl2, hl3, hl4, htk, htk2, hol] using hih

theorem dropI (l : List Int) (hl : l.length ≤ 140737488355328) (n : Int) : ev E0 8 [.lst 1 (i64s l), i64 n] [] = some (if (okTr l && okLen n) = true then mdI (dr n [] 0 false l) else (.tup [.v (.slice none 0 0), bl false], [])) := by
  have h1 := trace_i l hl
  have h2 := in_i n 1 999
  change ev E0 _ _ _ = some (bl (okLen n), []) at h2
  rw [e8]
  unfold runF
  cases ho : okTr l with
  | false =>
    rw [ho] at h1
    simp -implicitDefEqProofs [L8, h1]
  | true =>
    rw [ho] at h1
    cases hn : okLen n with
    | false =>
      rw [hn] at h2
      simp -implicitDefEqProofs [L8, h1, h2]
    | true =>
      rw [hn] at h2
      obtain ⟨b1, b2, b3⟩ := okTr_b ho
      have hlp := drop_loopI l b3 b1 n l 0 [] 0 rfl (by simp) (by omega) (by omega)
      have hz := dr_len n l [] 0 false
      rw [List.length_nil, Nat.zero_add] at hz
      have hm := made_i (dr n [] 0 false l) (by omega)
      have hd0 : decide (0 % 2 = 1) = false := by decide
      rw [hd0, c0, List.length_nil, show i64s [] = [] from rfl] at hlp
      have htk := i64s_take (dr n [] 0 false l)
      have hfl := i64s_len (dr n [] 0 false l)
      have gl := i64s_len l
      unfold mdI at hm ⊢
      generalize dr n [] 0 false l = R at *
      generalize i64s l = A at *
      cases hr : okTr R with
      | false =>
        rw [hr] at hm
        simp only [Bool.false_eq_true, if_false] at hm
        simp -implicitDefEqProofs [L8, h1, h2, hlp, htk, hfl, hm, gl]
      | true =>
        rw [hr] at hm
        simp only [if_true] at hm
        simp -implicitDefEqProofs [L8, h1, h2, hlp, htk, hfl, hm, gl]

end Go.Proofs.Ytkdfgjijmnaljaa.Ev
