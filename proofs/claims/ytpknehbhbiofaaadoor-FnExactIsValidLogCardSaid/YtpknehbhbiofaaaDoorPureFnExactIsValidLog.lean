/- FnExactIsValidLog: what the printed law comes to, over numbers and texts alone, answers true. -/
import Derived.Test.YtpknehbhbiofaaaDoorPAg5
import Derived.Test.YtpknehbhbiofaaaDoorPAg20
import Derived.Test.YtpknehbhbiofaaaDoorLog
set_option linter.unusedVariables false
set_option linter.unusedSimpArgs false
namespace Go.Proofs.YtpknehbhbiofaaaDoor.Pure
open Go.RowKit Go.Proofs.YtpknehbhbiofaaaDoor.PA Go.Proofs.YtpknehbhbiofaaaDoorW.PrintWords Go.Proofs.YtpknehbhbiofaaaDoorW.PrintLast Go.Proofs.YtpknehbhbiofaaaDoor.U Go.Proofs.YtpknehbhbiofaaaDoor.Parse Go.Proofs.YtpknehbhbiofaaaDoor.Log

theorem FnExactIsValidLog : ∀ (a0_0 : ByteArray) (a0_1 : ByteArray) (a0_2 : Int), a0_0.size ≤ maxLen → a0_1.size ≤ maxLen → (Lit.int .i64 a0_2).wf = true → ∃ k, laws_FnExactIsValidLog.f k a0_0 a0_1 a0_2 = some true := by
  intro c r n hc hr hn
  unfold maxLen at hc hr
  refine ⟨5300001, ?_⟩
  unfold laws_FnExactIsValidLog.f laws_szLog.f
  rw [wrap_id (x := (1048576 : Int) - (c.size : Int)) (by omega)]
  by_cases h1 : (1048576 : Int) - (c.size : Int) < 0
  · rw [if_pos h1, Option.bind_some, if_pos (by omega)]
  · rw [if_neg h1, wrap_id (x := (1048576 : Int) - (c.size : Int) - (r.size : Int)) (by omega)]
    by_cases h2 : (1048576 : Int) - (c.size : Int) - (r.size : Int) < 0
    · rw [if_pos h2, Option.bind_some, if_pos (by omega)]
    · rw [if_neg h2, Option.bind_some, if_neg h2]
      unfold laws_toLog.f
      rw [Option.bind_some, specIsValidLog c r n (by omega) (by omega) _ (by omega), Option.bind_some, Option.bind_some, implIsValidLog c r n (by omega) (by omega) _ (by omega), Option.bind_some, if_neg (by simp)]
end Go.Proofs.YtpknehbhbiofaaaDoor.Pure
