/- FnExactRecoverLog: what the printed law comes to, over texts alone, answers true. -/
import Derived.Test.YtpknehbhbiofaaaDoorPAg4
import Derived.Test.YtpknehbhbiofaaaDoorPAg19
import Derived.Test.YtpknehbhbiofaaaDoorParse
set_option linter.unusedVariables false
set_option linter.unusedSimpArgs false
namespace Go.Proofs.YtpknehbhbiofaaaDoor.Pure
open Go.RowKit Go.Proofs.YtpknehbhbiofaaaDoor.PA Go.Proofs.YtpknehbhbiofaaaDoorW.PrintWords Go.Proofs.YtpknehbhbiofaaaDoorW.PrintLast Go.Proofs.YtpknehbhbiofaaaDoor.U Go.Proofs.YtpknehbhbiofaaaDoor.Parse

theorem recover_eq (s : ByteArray) (k : Nat) (hk : 5300000 < k) : impl_RecoverLog.f k s = spec_RecoverLog.f k s ∧ ∃ x, spec_RecoverLog.f k s = some x := by
  unfold impl_RecoverLog.f spec_RecoverLog.f
  by_cases h0 : (s.size : Int) > 30000
  · rw [if_pos h0, if_pos h0]
    exact ⟨rfl, _, rfl⟩
  · rw [if_neg h0, if_neg h0, l12Open s (by omega) k hk, readRecords s (by omega) k hk, Option.bind_some, Option.bind_some]
    have he := ends_len (run 60 0 (B s)) 0
    have hr := rd_last (run 60 0 (B s)) 0
    have ht := tot_le 60 0 (B s)
    rw [B_len] at ht
    rw [Nat.zero_add] at hr
    rw [show ((0 : Nat) : Int) = (0 : Int) from rfl] at hr
    simp only [List.length_map]
    rw [hr]
    rw [if_pos (by omega), if_pos (by rw [List.length_cons, he]; omega), if_pos (by omega), if_pos (by omega)]
    exact ⟨rfl, _, rfl⟩
theorem FnExactRecoverLog : ∀ (a0 : ByteArray), a0.size ≤ maxLen → ∃ k, laws_FnExactRecoverLog.f k a0 = some true := by
  intro s hs
  refine ⟨5300001, ?_⟩
  unfold laws_FnExactRecoverLog.f
  by_cases h1 : (s.size : Int) > 1048576
  · rw [if_pos h1]
  · rw [if_neg h1]
    obtain ⟨h3, x, h4⟩ := recover_eq s 5300001 (by omega)
    rw [h3, h4, Option.bind_some, Option.bind_some]
    unfold laws_eqLog.f
    rw [if_pos rfl, if_pos rfl, if_pos rfl, Option.bind_some, if_pos rfl, if_pos rfl, if_neg (by simp)]
end Go.Proofs.YtpknehbhbiofaaaDoor.Pure
