/- Keys: what a key makes of a station, the reference. -/
import Derived.Test.YtjagdiilcphhfaaGreatDoorEvKe2
set_option linter.unusedVariables false
set_option linter.unusedSimpArgs false
namespace Go.Proofs.YtjagdiilcphhfaaGreatDoor.Ev
theorem getD_ext (b : ByteArray) (j i : Nat) (h : i < j) : (B (b.extract 0 j)).getD i 0 = (B b).getD i 0 := by
  rw [B_extract, List.drop_zero, List.getD_eq_getElem?_getD, List.getD_eq_getElem?_getD, List.getElem?_take, if_pos h]
theorem ext_ext (b : ByteArray) (i j : Nat) (h : i ≤ j) : (b.extract 0 j).extract 0 i = b.extract 0 i := by
  apply B_inj
  rw [B_extract, B_extract, B_extract, List.drop_zero, List.drop_zero, List.drop_zero, List.take_take, Nat.min_eq_left h]
theorem cutE_one {b : ByteArray} (h : b.size = 1) : cutE b = b.extract 0 0 := by
  unfold cutE trimSp
  rw [h, if_neg]
  intro hc
  have := hc.1
  rw [ByteArray.size_extract] at this
  omega
theorem cutE_two {b : ByteArray} {q : Nat} (h : b.size = q + 2) : cutE b = if (B b).getD q 0 = 32 then b.extract 0 q else b.extract 0 (q + 1) := by
  unfold cutE trimSp
  have hs : (b.extract 0 (b.size - 1)).size = q + 1 := by rw [ByteArray.size_extract]; omega
  rw [hs, Nat.add_sub_cancel, show b.size - 1 = q + 1 by omega, getD_ext b (q + 1) q (by omega), ext_ext b q (q + 1) (by omega)]
  by_cases hc : (B b).getD q 0 = 32
  · rw [if_pos ⟨by omega, hc⟩, if_pos hc]
  · rw [if_neg (fun e => hc e.2), if_neg hc]
theorem say_s (a b : ByteArray) (n k x y : Int) (m : ByteArray) (hb : b.size ≤ 1073741824) (hk : k = 1 ∨ k = 2 ∨ k = 3) (P : List ByteArray) (hP : P.length ≤ 100) (hQ : partsB 44 a = P) : ∃ v, ev E0 73 [sA a b n, .agg [.lst 1 (P.map st)], kA k x y m] [] = some (v, []) ∧ prV n (pr a b k x y m) v := by
  obtain ⟨hwr, hlet⟩ := letter_in P (by omega) x
  have e0 : ev E0 73 [sA a b n, .agg [.lst 1 (P.map st)], kA k x y m] [] = runF E0 (ev E0) loopW L73 [sA a b n, .agg [.lst 1 (P.map st)], kA k x y m] [] := e73 _ _
  rw [e0]
  unfold pr
  rw [hQ]
  have hPl : (P.map st).length = P.length := List.length_map _
  rcases hk with rfl | rfl | rfl
  · rw [if_pos rfl]
    cases ho : okLetter P x with
    | false =>
      rw [ho] at hlet
      refine ⟨_, ?_, a, b, n, rfl⟩
      unfold runF sA kA at *
      simp -implicitDefEqProofs [L73, hwr, hlet]
    | true =>
      rw [ho] at hlet
      rw [if_pos rfl]
      obtain ⟨q, rfl, hq, -⟩ := at_letter ho
      rw [Int.toNat_natCast]
      have hlt := letterText_s q (by omega)
      have z1 : (lt1 q).size = 1 := rfl
      have z2 : b.size + (lt1 q).size ≤ 9223372036854775807 := by omega
      refine ⟨_, ?_, rfl⟩
      unfold runF sA kA at *
      generalize lt1 q = L at *
      simp -implicitDefEqProofs [L73, hwr, hlet, hlt, z2]
  · rw [if_neg (by decide), if_pos rfl]
    cases ho : okLetter P x with
    | false =>
      rw [ho] at hlet
      refine ⟨_, ?_, a, b, n, rfl⟩
      unfold runF sA kA at *
      simp -implicitDefEqProofs [L73, hwr, hlet]
    | true =>
      rw [ho] at hlet
      by_cases hbe : b = ⟨#[]⟩
      · subst hbe
        rw [if_neg (by simp)]
        refine ⟨_, ?_, a, ⟨#[]⟩, n, rfl⟩
        unfold runF sA kA at *
        simp -implicitDefEqProofs [L73, hwr, hlet]
      · rw [if_pos ⟨rfl, hbe⟩]
        obtain ⟨q, rfl, hq, -⟩ := at_letter ho
        rw [Int.toNat_natCast]
        have hlt := letterText_s q (by omega)
        have z1 : (lt1 q).size = 1 := rfl
        have z3 : (⟨#[32]⟩ : ByteArray).size = 1 := rfl
        have z4 : b.size + (⟨#[32]⟩ : ByteArray).size ≤ 9223372036854775807 := by omega
        have z5 : b.size + 1 ≤ 9223372036854775807 := by omega
        have z2 : b.size + 1 + (lt1 q).size ≤ 9223372036854775807 := by omega
        have z6 : (b ++ (⟨#[32]⟩ : ByteArray)).size + (lt1 q).size ≤ 9223372036854775807 := by rw [ByteArray.size_append]; omega
        refine ⟨_, ?_, rfl⟩
        unfold runF sA kA at *
        generalize lt1 q = L at *
        simp -implicitDefEqProofs [L73, hwr, hlet, hlt, z2, z3, z4, z5, z6, hbe]
  · rw [if_neg (by decide), if_neg (by decide), if_pos rfl]
    by_cases hbe : b = ⟨#[]⟩
    · subst hbe
      rw [if_neg (by simp)]
      refine ⟨_, ?_, a, ⟨#[]⟩, n, rfl⟩
      have w : IntKind.i64.wrap (-1) = -1 := by decide
      have h0 : (⟨#[]⟩ : ByteArray).size = 0 := rfl
      unfold runF sA kA at *
      simp -implicitDefEqProofs [L73, w, h0]
    · rw [if_pos hbe]
      have hb0 : b.size ≠ 0 := fun e => hbe (by
        apply B_inj
        have : (B b).length = 0 := by rw [B_len, e]
        rw [List.eq_nil_of_length_eq_zero this]
        rfl)
      by_cases h1 : b.size = 1
      · rw [cutE_one h1]
        have w : IntKind.i64.wrap 0 = 0 := by decide
        refine ⟨_, ?_, rfl⟩
        unfold runF sA kA at *
        simp -implicitDefEqProofs [L73, h1, w]
      · obtain ⟨q, hq⟩ : ∃ q, b.size = q + 2 := ⟨b.size - 2, by omega⟩
        rw [cutE_two hq]
        have w1 : IntKind.i64.wrap ((q : Int) + 2 - 1) = (q : Int) + 1 := by rw [show (q : Int) + 2 - 1 = (q : Int) + 1 by omega]; exact wr64 (by omega) (by omega)
        have w2 : IntKind.i64.wrap ((q : Int) + 1) = (q : Int) + 1 := wr64 (by omega) (by omega)
        have w3 : IntKind.i64.wrap (q : Int) = (q : Int) := wr64 (by omega) (by omega)
        have w4 : IntKind.i64.wrap ((q : Int) + 1 - 1) = (q : Int) := by rw [show (q : Int) + 1 - 1 = (q : Int) by omega]; exact w3
        have g1 : (0 : Int) < (q : Int) + 1 := by omega
        have g2 : (q : Int) < (q : Int) + 2 := by omega
        have g3 : q < q + 2 := by omega
        have g4 : ¬ (q : Int) + 1 < 0 := by omega
        have g5 : ¬ (q : Int) < 0 := by omega
        have g6 : (0 : Int) ≤ (q : Int) + 1 := by omega
        have g7 : (q : Int) + 1 ≤ (q : Int) + 2 := by omega
        have g8 : (q : Int) ≤ (q : Int) + 2 := by omega
        have g9 : ((q : Int) + 1).toNat = q + 1 := by omega
        have hg : b.data.toList.getD q 0 = (B b).getD q 0 := rfl
        have hgg : ∀ h, b.data[q]'h = (B b).getD q 0 := by
          intro h
          have h2 : q < b.data.toList.length := by simpa using h
          show _ = b.data.toList.getD q 0
          rw [List.getD_eq_getElem?_getD, List.getElem?_eq_getElem h2]
          rfl
        by_cases hc : (B b).getD q 0 = 32
        · rw [if_pos hc]
          rw [hc] at hg hgg
          refine ⟨_, ?_, rfl⟩
          unfold runF sA kA at *
          simp -implicitDefEqProofs [-List.getD_eq_getElem?_getD, L73, hq, w1, w2, w3, w4, g1, g2, g3, g4, g5, g6, g7, g8, g9, hg, hgg]
        · rw [if_neg hc]
          have hc2 : ¬ ((B b).getD q 0).toNat = 32 := fun e => hc (UInt8.toNat_inj.1 e)
          have hc3 : ¬ (((B b).getD q 0).toNat : Int) = 32 := by omega
          refine ⟨_, ?_, rfl⟩
          unfold runF sA kA at *
          generalize (B b).getD q 0 = z at *
          simp -implicitDefEqProofs [-List.getD_eq_getElem?_getD, L73, hq, w1, w2, w3, w4, g1, g2, g3, g4, g5, g6, g7, g8, g9, hg, hgg, hc, hc2, hc3]
end Go.Proofs.YtjagdiilcphhfaaGreatDoor.Ev
