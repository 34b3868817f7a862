/- Logs: what the reference and the program say of a valid one, and of what they make of it. -/
import Derived.Test.YtpknehbhbiofaaaDoorPAg21
import Derived.Test.YtpknehbhbiofaaaDoorPAg23
import Derived.Test.YtpknehbhbiofaaaDoorPAg64
import Derived.Test.YtpknehbhbiofaaaDoorParse
set_option linter.unusedVariables false
set_option linter.unusedSimpArgs false
namespace Go.Proofs.YtpknehbhbiofaaaDoor.Log
open Go.RowKit Go.Proofs.YtpknehbhbiofaaaDoor.PA Go.Proofs.YtpknehbhbiofaaaDoorW.PrintWords Go.Proofs.YtpknehbhbiofaaaDoor.U Go.Proofs.YtpknehbhbiofaaaDoor.Split Go.Proofs.YtpknehbhbiofaaaDoor.Rec Go.Proofs.YtpknehbhbiofaaaDoor.Line Go.Proofs.YtpknehbhbiofaaaDoor.Parse
theorem okLog_sizes {d p : ByteArray} {n : Int} (h : okLog d p n = true) : d.size + p.size ≤ 30000 ∧ 0 ≤ n ∧ n ≤ 60 := by
  unfold okLog at h
  simp only [Bool.and_eq_true, decide_eq_true_eq] at h
  have := run_len 60 0 (B d ++ B p)
  omega
theorem l12Valid (d p : ByteArray) (n : Int) (hd : d.size ≤ 1073741824) (hp : p.size ≤ 1073741824) (k : Nat) (hk : 5300000 < k) : spec_l12Valid.f k d p n = some (okLog d p n) := by
  unfold spec_l12Valid.f okLog
  rw [wrap_id (by omega)]
  by_cases h0 : d.size + p.size ≤ 30000
  · rw [if_neg (by omega), if_pos (by omega), l12Open (d ++ p) (by rw [ByteArray.size_append]; omega) k hk, Option.bind_some, l12Open d (by omega) k hk, Option.bind_some, B_append, decide_eq_true h0]
    by_cases h1 : tot (run 60 0 (B d ++ B p)) = d.size + p.size
    · rw [if_pos (by simp only; omega), decide_eq_true h1]
      by_cases h2 : tot (run 60 0 (B d)) = d.size
      · rw [if_pos (by simp only; omega), decide_eq_true h2]
        simp only [List.length_map, Bool.true_and]
        rfl
      · rw [if_neg (by simp only; omega), decide_eq_false h2]
        rfl
    · rw [if_neg (by simp only; omega), decide_eq_false h1]
      rfl
  · rw [if_pos (by omega), decide_eq_false h0]
    rfl
theorem rd_at {es : List Int} {i : Nat} {c : Int} {t : List Int} (h : es.drop i = c :: t) : i < es.length ∧ rd es (i : Int) = c ∧ es.drop (i + 1) = t := by
  have hi : i < es.length := by
    apply Nat.lt_of_not_le
    intro hle
    rw [List.drop_eq_nil_of_le hle] at h
    cases h
  rw [List.drop_eq_getElem_cons hi] at h
  injection h with h1 h2
  refine ⟨hi, ?_, h2⟩
  unfold rd
  rw [Int.toNat_natCast, List.getD_eq_getElem?_getD, List.getElem?_eq_getElem hi]
  exact h1
theorem records_l0 (x : List R) (es : List Int) (hes : es.length ≤ 1000) (d p : ByteArray) (n : Int) : ∀ (t : List Int) (i k : Nat), es.drop i = t → t.length < k →
    impl_Log_records.l0 k x es (es.length : Int) (i : Int) d p n = some (if (d.size : Int) ∈ t then (x, true) else ([], false)) := by
  intro t
  induction t with
  | nil =>
    intro i k h hk
    obtain ⟨k, rfl⟩ := pred_of_lt hk
    have := List.drop_eq_nil_iff.1 h
    simp only [impl_Log_records.l0]
    rw [if_neg (by omega), if_neg (by simp)]
  | cons c t ih =>
    intro i k h hk
    obtain ⟨k, rfl⟩ := pred_of_lt hk
    obtain ⟨hi, hr, hd⟩ := rd_at h
    simp only [impl_Log_records.l0]
    rw [if_pos (by omega), if_pos (by omega), if_pos (by omega), hr]
    by_cases h1 : c = (d.size : Int)
    · rw [if_pos h1, if_pos (by rw [h1]; simp)]
    · rw [if_neg h1, wrap_id (by omega)]
      have e : (i : Int) + 1 = ((i + 1 : Nat) : Int) := by omega
      rw [e, ih (i + 1) k hd (by simpa using hk)]
      have e2 : ((d.size : Int) ∈ c :: t) ↔ ((d.size : Int) ∈ t) := by
        rw [List.mem_cons]
        constructor
        · rintro (h | h)
          · exact absurd h.symm h1
          · exact h
        · exact Or.inr
      simp only [e2]
theorem implRecords (d p : ByteArray) (n : Int) (hd : d.size ≤ 1073741824) (hp : p.size ≤ 1073741824) (k : Nat) (hk : 5300000 < k) :
    impl_Log_records.f k d p n = some (if okLog d p n = true then ((run 60 0 (B d ++ B p)).map (·.1), true) else ([], false)) := by
  unfold impl_Log_records.f
  rw [if_pos (by omega), Option.bind_some, ByteArray.size_append]
  by_cases h0 : d.size + p.size ≤ 30000
  · have hl := run_len 60 0 (B d ++ B p)
    have he := ends_len (run 60 0 (B d ++ B p)) 0
    rw [if_neg (by omega), readRecords (d ++ p) (by rw [ByteArray.size_append]; omega) k hk, Option.bind_some, B_append]
    simp only []
    rw [if_pos (by omega), if_pos (by rw [List.length_map, List.length_cons, he]; omega), List.length_map]
    have hr := rd_last (run 60 0 (B d ++ B p)) 0
    rw [Nat.zero_add] at hr
    rw [show (0 : Int) = ((0 : Nat) : Int) from rfl, hr]
    obtain ⟨k, rfl⟩ := pred_of_lt hk
    by_cases h1 : tot (run 60 0 (B d ++ B p)) = d.size + p.size
    · rw [if_pos (by omega)]
      simp only [impl_Log_records.j0]
      by_cases h3 : ((run 60 0 (B d ++ B p)).length : Int) = n
      · rw [if_neg (by simpa using h3)]
        have hL : ((((0 : Nat) : Int) :: ends 0 (run 60 0 (B d ++ B p)))).length ≤ 1000 := by rw [List.length_cons, he]; omega
        have := records_l0 ((run 60 0 (B d ++ B p)).map (·.1)) _ hL d p n _ 0 k rfl (by simp only [List.drop_zero]; omega)
        refine Eq.trans this ?_
        rw [List.drop_zero]
        have e := ends_iff d p h1
        have e2 : (okLog d p n = true) ↔ ((d.size : Int) ∈ ((0 : Nat) : Int) :: ends 0 (run 60 0 (B d ++ B p))) := by
          refine Iff.trans ?_ e.symm
          unfold okLog
          rw [decide_eq_true h0, decide_eq_true h1, decide_eq_true h3]
          simp
        simp only [e2]
      · rw [if_pos (by simpa using h3)]
        have : ¬ okLog d p n = true := by
          unfold okLog
          rw [decide_eq_false h3]
          simp
        rw [if_neg this]
    · rw [if_neg (by omega)]
      simp only [impl_Log_records.j0]
      have : ¬ okLog d p n = true := by
        unfold okLog
        rw [decide_eq_false h1]
        simp
      rw [if_pos trivial, if_neg this]
  · rw [if_pos (by omega)]
    have : ¬ okLog d p n = true := by
      unfold okLog
      rw [decide_eq_false h0]
      simp
    rw [if_neg this]
theorem specIsValidLog (d p : ByteArray) (n : Int) (hd : d.size ≤ 1073741824) (hp : p.size ≤ 1073741824) (k : Nat) (hk : 5300000 < k) : spec_IsValidLog.f k d p n = some (okLog d p n) := by
  unfold spec_IsValidLog.f
  rw [l12Valid d p n hd hp k hk, Option.bind_some]
theorem implIsValidLog (d p : ByteArray) (n : Int) (hd : d.size ≤ 1073741824) (hp : p.size ≤ 1073741824) (k : Nat) (hk : 5300000 < k) : impl_IsValidLog.f k d p n = some (okLog d p n) := by
  unfold impl_IsValidLog.f
  rw [implRecords d p n hd hp k hk, Option.bind_some]
  cases okLog d p n <;> rfl
end Go.Proofs.YtpknehbhbiofaaaDoor.Log
