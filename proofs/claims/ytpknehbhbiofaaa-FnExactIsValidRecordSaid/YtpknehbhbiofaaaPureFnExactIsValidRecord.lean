/- FnExactIsValidRecord: what the printed law comes to, over texts alone, answers true: the program and the reference say the same of every record. -/
import Derived.Test.YtpknehbhbiofaaaPAx1
import Derived.Test.YtpknehbhbiofaaaPAx2
import Derived.Test.YtpknehbhbiofaaaRec
set_option linter.unusedVariables false
set_option linter.unusedSimpArgs false
namespace Go.Proofs.Ytpknehbhbiofaaa.Pure
open Go.RowKit Go.Proofs.Ytpknehbhbiofaaa.PA Go.Proofs.YtpknehbhbiofaaaW.PrintWords Go.Proofs.YtpknehbhbiofaaaW.PrintLast Go.Proofs.Ytpknehbhbiofaaa.U

theorem FnExactIsValidRecord : ∀ (a0_0 : ByteArray) (a0_1 : ByteArray), a0_0.size ≤ maxLen → a0_1.size ≤ maxLen → ∃ k, laws_FnExactIsValidRecord.f k a0_0 a0_1 = some true := by
  intro c r hc hr
  unfold maxLen at hc hr
  refine ⟨c.size + r.size + 1, ?_⟩
  unfold laws_FnExactIsValidRecord.f
  cases h : laws_szLogRecord.f c r 1048576 with
  | none => unfold laws_szLogRecord.f at h; split at h <;> (try split at h) <;> cases h
  | some l =>
    simp only [Option.bind_some]
    by_cases hl : l < 0
    · rw [if_pos hl]
    · rw [if_neg hl]
      simp only [laws_toLogRecord.f, Option.bind_some, spec_IsValidRecord.f]
      rw [Rec.l12Record c r hc hr _ (by omega) (by omega), Rec.isValidRecord c r hc hr _ (by omega) (by omega)]
      simp
end Go.Proofs.Ytpknehbhbiofaaa.Pure
