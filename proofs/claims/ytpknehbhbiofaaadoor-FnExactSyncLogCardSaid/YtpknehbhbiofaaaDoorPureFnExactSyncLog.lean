/- FnExactSyncLog: what the printed law comes to, over numbers and texts alone, answers true. -/
import Derived.Test.YtpknehbhbiofaaaDoorPAg7
import Derived.Test.YtpknehbhbiofaaaDoorPAg19
import Derived.Test.YtpknehbhbiofaaaDoorPAg20
import Derived.Test.YtpknehbhbiofaaaDoorPAg26
import Derived.Test.YtpknehbhbiofaaaDoorLog
set_option linter.unusedVariables false
set_option linter.unusedSimpArgs false
namespace Go.Proofs.YtpknehbhbiofaaaDoor.Pure
open Go.RowKit Go.Proofs.YtpknehbhbiofaaaDoor.PA Go.Proofs.YtpknehbhbiofaaaDoorW.PrintWords Go.Proofs.YtpknehbhbiofaaaDoorW.PrintLast Go.Proofs.YtpknehbhbiofaaaDoor.U Go.Proofs.YtpknehbhbiofaaaDoor.Parse Go.Proofs.YtpknehbhbiofaaaDoor.Log

theorem sync_eq (d p : ByteArray) (n : Int) (hd : d.size ≤ 1073741824) (hp : p.size ≤ 1073741824) (k : Nat) (hk : 5300000 < k) : impl_SyncLog.f k d p n = spec_SyncLog.f k d p n ∧ ∃ x, spec_SyncLog.f k d p n = some x := by
  unfold impl_SyncLog.f spec_SyncLog.f
  rw [implIsValidLog d p n hd hp k hk, l12Valid d p n hd hp k hk, Option.bind_some]
  refine ⟨rfl, ?_⟩
  cases h : okLog d p n with
  | true => rw [if_pos rfl, if_pos (by omega)]; exact ⟨_, rfl⟩
  | false => rw [if_neg (by simp)]; exact ⟨_, rfl⟩
theorem FnExactSyncLog : ∀ (a0_0 : ByteArray) (a0_1 : ByteArray) (a0_2 : Int), a0_0.size ≤ maxLen → a0_1.size ≤ maxLen → (Lit.int .i64 a0_2).wf = true → ∃ k, laws_FnExactSyncLog.f k a0_0 a0_1 a0_2 = some true := by
  intro c r n hc hr hn
  unfold maxLen at hc hr
  refine ⟨5300001, ?_⟩
  unfold laws_FnExactSyncLog.f laws_szLog.f
  rw [wrap_id (x := (1048576 : Int) - (c.size : Int)) (by omega)]
  by_cases h1 : (1048576 : Int) - (c.size : Int) < 0
  · rw [if_pos h1, Option.bind_some, if_pos (by omega)]
  · rw [if_neg h1, wrap_id (x := (1048576 : Int) - (c.size : Int) - (r.size : Int)) (by omega)]
    by_cases h2 : (1048576 : Int) - (c.size : Int) - (r.size : Int) < 0
    · rw [if_pos h2, Option.bind_some, if_pos (by omega)]
    · rw [if_neg h2, Option.bind_some, if_neg h2]
      unfold laws_toLog.f
      obtain ⟨h3, x, h4⟩ := sync_eq c r n (by omega) (by omega) 5300001 (by omega)
      rw [Option.bind_some, h4, Option.bind_some, Option.bind_some, h3, h4, Option.bind_some]
      unfold laws_eqLog.f
      rw [if_pos rfl, if_pos rfl, if_pos rfl, Option.bind_some, if_pos rfl, if_neg (by simp)]
end Go.Proofs.YtpknehbhbiofaaaDoor.Pure
