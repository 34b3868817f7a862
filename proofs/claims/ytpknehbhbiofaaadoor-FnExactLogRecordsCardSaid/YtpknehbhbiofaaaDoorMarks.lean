/- The marks that a law writes into memory to see whether it is shared: markText as a whole function. -/
import Derived.Test.YtpknehbhbiofaaaDoorPAg9
import Derived.Test.YtpknehbhbiofaaaDoorLib
set_option linter.unusedVariables false
set_option linter.unusedSimpArgs false
namespace Go.Proofs.YtpknehbhbiofaaaDoor.Marks
open Go.RowKit Go.Proofs.YtpknehbhbiofaaaDoor.PA Go.Proofs.YtpknehbhbiofaaaDoorW.PrintWords Go.Proofs.YtpknehbhbiofaaaDoor.U
theorem one_size (v : Int) : (strOfNums [v]).size = 1 := by rw [strOfNums_size]; rfl
theorem markText_l0 : ∀ (d x : Nat) (acc : ByteArray), x ≤ 9223372036854775807 → x < 10 ^ d → acc.size + d ≤ 1000000 → ∃ t, ∀ k, d < k → laws_markText.l0 k (x : Int) acc = some t := by
  intro d
  induction d with
  | zero =>
    intro x acc hx0 hx ha
    refine ⟨(⟨#[109]⟩ : ByteArray) ++ acc, fun k hk => ?_⟩
    obtain ⟨k, rfl⟩ := pred_of_lt hk
    simp only [laws_markText.l0]
    rw [if_neg (by omega), if_pos (by omega)]
  | succ d ih =>
    intro x acc hx0 hx ha
    by_cases h0 : x = 0
    · refine ⟨(⟨#[109]⟩ : ByteArray) ++ acc, fun k hk => ?_⟩
      obtain ⟨k, rfl⟩ := pred_of_lt hk
      simp only [laws_markText.l0]
      rw [if_neg (by omega), if_pos (by omega)]
    · have h1 := one_size (wrap64 (48 + Int.tmod (x : Int) 10) % 256)
      have e1 : Int.tdiv (x : Int) 10 = ((x / 10 : Nat) : Int) := by
        rw [Int.tdiv_eq_ediv_of_nonneg (by omega)]
        omega
      have hp : (10 : Nat) ^ (d + 1) = 10 * 10 ^ d := by rw [Nat.pow_succ, Nat.mul_comm]
      obtain ⟨t, ht⟩ := ih (x / 10) (strOfNums [wrap64 (48 + Int.tmod (x : Int) 10) % 256] ++ acc) (by omega) (by omega) (by rw [ByteArray.size_append, h1]; omega)
      refine ⟨t, fun k hk => ?_⟩
      obtain ⟨k, rfl⟩ := pred_of_lt hk
      simp only [laws_markText.l0]
      rw [if_pos (by omega), Option.bind_some, h1, if_pos (by omega), e1]
      rw [wrap_id (by omega), ht k (by omega)]
/-- A mark's text. -/
def mt (x : Nat) : ByteArray := (laws_markText.f 100 (x : Int)).getD ByteArray.empty
theorem markText (x : Nat) (hx : x < 1000000000000) (k : Nat) (hk : 99 < k) : laws_markText.f k (x : Int) = some (mt x) := by
  have h : ∃ t, ∀ k, 99 < k → laws_markText.f k (x : Int) = some t := by
    unfold laws_markText.f
    by_cases h0 : (x : Int) ≤ 0
    · exact ⟨_, fun k _ => by rw [if_pos h0]⟩
    · obtain ⟨t, ht⟩ := markText_l0 18 x ⟨#[]⟩ (by omega) (by omega) (by rw [show (⟨#[]⟩ : ByteArray).size = 0 from rfl]; omega)
      exact ⟨t, fun k hk => by rw [if_neg h0]; exact ht k (by omega)⟩
  obtain ⟨t, ht⟩ := h
  unfold mt
  rw [ht k hk, ht 100 (by omega)]
  rfl
end Go.Proofs.YtpknehbhbiofaaaDoor.Marks
