/- FnExactEncodeRecord: what the printed law comes to, over numbers and texts alone, answers true: the program and the reference encode alike. -/
import Derived.Test.YtpknehbhbiofaaaDoorPAg3
import Derived.Test.YtpknehbhbiofaaaDoorPAg13
import Derived.Test.YtpknehbhbiofaaaDoorLine
set_option linter.unusedVariables false
set_option linter.unusedSimpArgs false
namespace Go.Proofs.YtpknehbhbiofaaaDoor.Pure
open Go.RowKit Go.Proofs.YtpknehbhbiofaaaDoor.PA Go.Proofs.YtpknehbhbiofaaaDoorW.PrintWords Go.Proofs.YtpknehbhbiofaaaDoorW.PrintLast Go.Proofs.YtpknehbhbiofaaaDoor.U

theorem FnExactEncodeRecord : ∀ (a0 : Int) (a1_0 : ByteArray) (a1_1 : ByteArray), (Lit.int .i64 a0).wf = true → a1_0.size ≤ maxLen → a1_1.size ≤ maxLen → ∃ k, laws_FnExactEncodeRecord.f k a0 a1_0 a1_1 = some true := by
  intro n c r hn hc hr
  unfold maxLen at hc hr
  refine ⟨3000000 + c.size + r.size + 1, ?_⟩
  unfold laws_FnExactEncodeRecord.f laws_szLogRecord.f
  rw [wrap_id (x := (1048576 : Int) - (c.size : Int)) (by omega)]
  by_cases h1 : (1048576 : Int) - (c.size : Int) < 0
  · rw [if_pos h1, Option.bind_some, if_pos (by omega)]
  · rw [if_neg h1, wrap_id (x := (1048576 : Int) - (c.size : Int) - (r.size : Int)) (by omega)]
    by_cases h2 : (1048576 : Int) - (c.size : Int) - (r.size : Int) < 0
    · rw [if_pos h2, Option.bind_some, if_pos (by omega)]
    · rw [if_neg h2, Option.bind_some, if_neg h2]
      unfold laws_toLogRecord.f
      rw [Option.bind_some, Line.specEncode n c r (by omega) (by omega) _ (by omega), Option.bind_some, Option.bind_some, Line.implEncode n c r (by omega) (by omega) _ (by omega), Option.bind_some, if_pos rfl, if_neg (by simp)]
end Go.Proofs.YtpknehbhbiofaaaDoor.Pure
