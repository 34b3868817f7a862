/- FnExactAppendRecord: what the printed law comes to, over numbers and texts alone, answers true. -/
import Derived.Test.YtpknehbhbiofaaaDoorPAg8
import Derived.Test.YtpknehbhbiofaaaDoorPAg13
import Derived.Test.YtpknehbhbiofaaaDoorPAg19
import Derived.Test.YtpknehbhbiofaaaDoorPAg20
import Derived.Test.YtpknehbhbiofaaaDoorPAg28
import Derived.Test.YtpknehbhbiofaaaDoorLog
set_option linter.unusedVariables false
set_option linter.unusedSimpArgs false
namespace Go.Proofs.YtpknehbhbiofaaaDoor.Pure
open Go.RowKit Go.Proofs.YtpknehbhbiofaaaDoor.PA Go.Proofs.YtpknehbhbiofaaaDoorW.PrintWords Go.Proofs.YtpknehbhbiofaaaDoorW.PrintLast Go.Proofs.YtpknehbhbiofaaaDoor.U Go.Proofs.YtpknehbhbiofaaaDoor.Rec Go.Proofs.YtpknehbhbiofaaaDoor.Split Go.Proofs.YtpknehbhbiofaaaDoor.Line Go.Proofs.YtpknehbhbiofaaaDoor.Parse Go.Proofs.YtpknehbhbiofaaaDoor.Log

theorem append_eq (d p : ByteArray) (n : Int) (c r : ByteArray) (hd : d.size ≤ 1073741824) (hp : p.size ≤ 1073741824) (hc : c.size ≤ 1048576) (hr : r.size ≤ 1048576) (k : Nat) (hk : 5400000 < k) :
    impl_AppendRecord.f k d p n c r = spec_AppendRecord.f k d p n c r ∧ ∃ x, spec_AppendRecord.f k d p n c r = some x := by
  unfold impl_AppendRecord.f spec_AppendRecord.f
  rw [implIsValidLog d p n hd hp k (by omega), l12Valid d p n hd hp k (by omega), Option.bind_some]
  simp only [Option.bind_some]
  obtain ⟨k, rfl⟩ := pred_of_lt hk
  cases h : okLog d p n with
  | false =>
    rw [if_neg (by simp), if_neg (by simp)]
    simp only [impl_AppendRecord.j0, spec_AppendRecord.j0]
    rw [if_pos trivial, if_pos trivial]
    exact ⟨rfl, _, rfl⟩
  | true =>
    rw [if_pos rfl, if_pos rfl, isValidRecord c r (by omega) (by omega) _ (by omega) (by omega), l12Record c r (by omega) (by omega) _ (by omega) (by omega)]
    simp only [Option.bind_some]
    simp only [impl_AppendRecord.j0, spec_AppendRecord.j0]
    cases h2 : okRec c r with
    | false =>
      rw [Bool.not_false, if_pos rfl, if_pos rfl]
      exact ⟨rfl, _, rfl⟩
    | true =>
      obtain ⟨h5, h6⟩ := okLog_sizes h
      rw [Bool.not_true, if_neg Bool.false_ne_true, if_neg Bool.false_ne_true]
      by_cases h3 : n = 60
      · rw [if_pos h3, if_pos h3]
        exact ⟨rfl, _, rfl⟩
      · rw [if_neg h3, if_neg h3, implEncode n c r (by omega) (by omega) _ (by omega), l12Line n (by omega) c r (by omega) (by omega) _ (by omega), Option.bind_some, Option.bind_some]
        unfold encoded
        have h4 : (0 ≤ n ∧ n ≤ 59) ∧ okRec c r = true := ⟨by omega, h2⟩
        have h7 := body_len (n := n) (by omega) h2
        have h8 := seal_len (body n (B c) (B r))
        have h9 : (enc n (B c) (B r)).length ≤ 500 := by
          unfold enc
          rw [List.length_append, List.length_singleton]
          omega
        rw [if_pos h4]
        simp only []
        rw [if_pos (by rw [mk_size]; omega)]
        exact ⟨trivial, _, rfl⟩
theorem FnExactAppendRecord : ∀ (a0_0 : ByteArray) (a0_1 : ByteArray) (a0_2 : Int) (a1_0 : ByteArray) (a1_1 : ByteArray), a0_0.size ≤ maxLen → a0_1.size ≤ maxLen → (Lit.int .i64 a0_2).wf = true → a1_0.size ≤ maxLen → a1_1.size ≤ maxLen → ∃ k, laws_FnExactAppendRecord.f k a0_0 a0_1 a0_2 a1_0 a1_1 = some true := by
  intro c r n a b hc hr hn ha hb
  unfold maxLen at hc hr ha hb
  refine ⟨5400003, ?_⟩
  unfold laws_FnExactAppendRecord.f laws_szLog.f
  rw [wrap_id (x := (1048576 : Int) - (c.size : Int)) (by omega)]
  by_cases h1 : (1048576 : Int) - (c.size : Int) < 0
  · rw [if_pos h1, Option.bind_some, if_pos (by omega)]
  · rw [if_neg h1, wrap_id (x := (1048576 : Int) - (c.size : Int) - (r.size : Int)) (by omega)]
    by_cases h2 : (1048576 : Int) - (c.size : Int) - (r.size : Int) < 0
    · rw [if_pos h2, Option.bind_some, if_pos (by omega)]
    · rw [if_neg h2, Option.bind_some, if_neg h2]
      simp only [laws_FnExactAppendRecord.j0]
      unfold laws_szLogRecord.f
      generalize hL : (1048576 : Int) - (c.size : Int) - (r.size : Int) = L at h2 ⊢
      rw [wrap_id (x := L - (a.size : Int)) (by omega)]
      by_cases h3 : L - (a.size : Int) < 0
      · rw [if_pos h3, Option.bind_some, if_pos (by omega)]
      · rw [if_neg h3, wrap_id (x := L - (a.size : Int) - (b.size : Int)) (by omega)]
        by_cases h4 : L - (a.size : Int) - (b.size : Int) < 0
        · rw [if_pos h4, Option.bind_some, if_pos (by omega)]
        · rw [if_neg h4, Option.bind_some, if_neg h4]
          simp only [laws_FnExactAppendRecord.j1]
          unfold laws_toLog.f laws_toLogRecord.f
          obtain ⟨h5, x, h6⟩ := append_eq c r n a b (by omega) (by omega) (by omega) (by omega) 5400001 (by omega)
          rw [Option.bind_some, Option.bind_some, h6, Option.bind_some, Option.bind_some, Option.bind_some, h5, h6, Option.bind_some]
          unfold laws_eqLog.f
          rw [if_pos rfl, if_pos rfl, if_pos rfl, Option.bind_some, if_pos rfl, if_pos rfl]
end Go.Proofs.YtpknehbhbiofaaaDoor.Pure
