/- FnExactLogRecords: what the printed law comes to, over numbers and texts alone, answers true. -/
import Derived.Test.YtpknehbhbiofaaaDoorPAg9
import Derived.Test.YtpknehbhbiofaaaDoorPAg20
import Derived.Test.YtpknehbhbiofaaaDoorPAg30
import Derived.Test.YtpknehbhbiofaaaDoorLog
import Derived.Test.YtpknehbhbiofaaaDoorMarkRec
set_option linter.unusedVariables false
set_option linter.unusedSimpArgs false
namespace Go.Proofs.YtpknehbhbiofaaaDoor.Pure
open Go.RowKit Go.Proofs.YtpknehbhbiofaaaDoor.PA Go.Proofs.YtpknehbhbiofaaaDoorW.PrintWords Go.Proofs.YtpknehbhbiofaaaDoorW.PrintLast Go.Proofs.YtpknehbhbiofaaaDoor.U Go.Proofs.YtpknehbhbiofaaaDoor.Parse Go.Proofs.YtpknehbhbiofaaaDoor.Log

theorem records_eq (d p : ByteArray) (n : Int) (hd : d.size ≤ 1073741824) (hp : p.size ≤ 1073741824) : ∃ xs b, xs.length ≤ 60 ∧ ∀ k, 5300000 < k → impl_LogRecords.f k d p n = some (xs, b) ∧ spec_LogRecords.f k d p n = some (xs, b) := by
  have hl := run_len 60 0 (B d ++ B p)
  cases h : okLog d p n with
  | true =>
    refine ⟨(run 60 0 (B d ++ B p)).map (·.1), true, by rw [List.length_map]; exact hl, fun k hk => ?_⟩
    have hz := okLog_sizes h
    unfold impl_LogRecords.f spec_LogRecords.f
    rw [implRecords d p n hd hp k hk, l12Valid d p n hd hp k hk, h, if_pos rfl, Option.bind_some, Option.bind_some, if_pos rfl, if_pos (by omega), l12Open (d ++ p) (by rw [ByteArray.size_append]; omega) k hk, Option.bind_some, B_append]
    exact ⟨rfl, rfl⟩
  | false =>
    refine ⟨[], false, Nat.zero_le _, fun k hk => ?_⟩
    unfold impl_LogRecords.f spec_LogRecords.f
    rw [implRecords d p n hd hp k hk, l12Valid d p n hd hp k hk, h, if_neg (by simp), Option.bind_some, Option.bind_some, if_neg (by simp)]
    exact ⟨rfl, rfl⟩
theorem FnExactLogRecords : ∀ (a0_0 : ByteArray) (a0_1 : ByteArray) (a0_2 : Int), a0_0.size ≤ maxLen → a0_1.size ≤ maxLen → (Lit.int .i64 a0_2).wf = true → ∃ k, laws_FnExactLogRecords.f k a0_0 a0_1 a0_2 = some true := by
  intro c r n hc hr hn
  unfold maxLen at hc hr
  refine ⟨5300003, ?_⟩
  unfold laws_FnExactLogRecords.f laws_szLog.f
  rw [wrap_id (x := (1048576 : Int) - (c.size : Int)) (by omega)]
  by_cases h1 : (1048576 : Int) - (c.size : Int) < 0
  · rw [if_pos h1, Option.bind_some, if_pos (by omega)]
  · rw [if_neg h1, wrap_id (x := (1048576 : Int) - (c.size : Int) - (r.size : Int)) (by omega)]
    by_cases h2 : (1048576 : Int) - (c.size : Int) - (r.size : Int) < 0
    · rw [if_pos h2, Option.bind_some, if_pos (by omega)]
    · rw [if_neg h2, Option.bind_some, if_neg h2]
      obtain ⟨xs, b, hx, he⟩ := records_eq c r n (by omega) (by omega)
      unfold laws_toLog.f
      rw [Option.bind_some, (he 5300003 (by omega)).2, Option.bind_some, Option.bind_some, (he 5300003 (by omega)).1, Option.bind_some, MarkRec.eqS xs (by omega) _ (by omega), Option.bind_some, if_pos rfl]
      simp only [laws_FnExactLogRecords.j0]
      obtain ⟨ys, m1, m2, m3⟩ := MarkRec.mark xs (by omega) 5300002 (by omega)
      unfold laws_toLog.f
      rw [if_neg (by simp), m1, Option.bind_some, MarkRec.held ys (by omega) m3 _ (by omega), Option.bind_some, if_neg (by omega), if_pos (by rw [m2]), Option.bind_some, (he 5300002 (by omega)).1, Option.bind_some,
        MarkRec.eqS xs (by omega) _ (by omega), Option.bind_some, if_pos rfl]
      simp only [laws_FnExactLogRecords.j1]
      rw [if_neg (by simp), MarkRec.held ys (by omega) m3 _ (by omega), Option.bind_some, if_neg (by omega), if_pos (by rw [m2])]
end Go.Proofs.YtpknehbhbiofaaaDoor.Pure
