/- What the reference and the program say of a record: the same words on lists of bytes. -/
import Derived.Test.YtpknehbhbiofaaaDoorPAg16
import Derived.Test.YtpknehbhbiofaaaDoorLib
import Derived.Lib.Bytealg
set_option linter.unusedVariables false
set_option linter.unusedSimpArgs false
namespace Go.Proofs.YtpknehbhbiofaaaDoor.Rec
open Go.RowKit Go.Proofs.YtpknehbhbiofaaaDoor.PA Go.Proofs.YtpknehbhbiofaaaDoorW.PrintWords Go.Proofs.YtpknehbhbiofaaaDoor.U
/-- A byte that a text of a record may have. -/
def okB (c : UInt8) : Bool := decide (32 ≤ c.toNat) && decide (c.toNat ≤ 126)
def okC (c : UInt8) : Bool := okB c && !(c == 35)
theorem l12Bytes_l0 (s : ByteArray) (hs : s.size ≤ 9223372036854775807) (m : Int) : ∀ (t : List UInt8) (n k : Nat), (B s).drop n = t → t.length < k →
    spec_l12Bytes.l0 k s m n = some (t.all okC && decide ((s.size : Int) ≤ m)) := by
  intro t
  induction t with
  | nil =>
    intro n k h hk
    obtain ⟨k, rfl⟩ := pred_of_lt hk
    simp only [spec_l12Bytes.l0]
    rw [if_neg (scan_nil h)]
    simp
  | cons c t ih =>
    intro n k h hk
    obtain ⟨k, rfl⟩ := pred_of_lt hk
    obtain ⟨hn, hb, hd⟩ := scan_cons h
    have hc := c.toNat_lt
    simp only [spec_l12Bytes.l0]
    rw [if_pos (by omega), if_pos (by omega), hb, wrap_id (by omega)]
    simp only [spec_l1In.f]
    by_cases h1 : 32 ≤ (c.toNat : Int) ∧ (c.toNat : Int) ≤ 126
    · rw [if_pos h1.1]
      simp only [Option.bind_some, decide_eq_true_eq]
      rw [if_pos h1.2]
      by_cases h2 : (c.toNat : Int) = 35
      · rw [if_pos h2]
        have : c = 35 := byte_eq.1 (show (c.toNat : Int) = ((35 : UInt8).toNat : Int) from h2)
        subst this
        simp [okC, okB]
      · rw [if_neg h2, wrap_succ hn hs, ih (n + 1) k hd (by simpa using hk)]
        have h3 : okC c = true := by
          have : ¬ c = 35 := fun e => h2 (by rw [e]; rfl)
          simp [okC, okB, this]; omega
        simp [h3]
    · have h3 : okC c = false := by
        simp only [okC, okB]
        have : (decide (32 ≤ c.toNat) && decide (c.toNat ≤ 126)) = false := by
          simp only [Bool.and_eq_false_iff, decide_eq_false_iff_not]; omega
        rw [this]; rfl
      by_cases h2 : 32 ≤ (c.toNat : Int)
      · rw [if_pos h2]
        simp only [Option.bind_some, decide_eq_true_eq]
        rw [if_neg (by omega)]
        simp [h3]
      · rw [if_neg h2]
        simp [h3]
theorem l12Bytes (s : ByteArray) (hs : s.size ≤ 9223372036854775807) (m : Int) (k : Nat) (hk : s.size < k) : spec_l12Bytes.f k s m = some ((B s).all okC && decide ((s.size : Int) ≤ m)) := by
  have := l12Bytes_l0 s hs m (B s) 0 k rfl (by rw [B_len]; exact hk)
  simpa [spec_l12Bytes.f] using this
theorem l1Stands_l0 (s : ByteArray) (hs : s.size ≤ 9223372036854775807) (b : UInt8) : ∀ (t : List UInt8) (n k : Nat), (B s).drop n = t → t.length < k →
    spec_l1Stands.l0 k s b.toNat n = some (t.contains b) := by
  intro t
  induction t with
  | nil =>
    intro n k h hk
    obtain ⟨k, rfl⟩ := pred_of_lt hk
    simp only [spec_l1Stands.l0]
    rw [if_neg (scan_nil h)]
    simp
  | cons c t ih =>
    intro n k h hk
    obtain ⟨k, rfl⟩ := pred_of_lt hk
    obtain ⟨hn, hb, hd⟩ := scan_cons h
    simp only [spec_l1Stands.l0]
    rw [if_pos (by omega), if_pos (by omega), hb]
    by_cases h2 : c = b
    · subst h2; rw [if_pos rfl]; simp
    · rw [if_neg (by rw [byte_eq]; exact h2), wrap_succ hn hs, ih (n + 1) k hd (by simpa using hk)]
      simp [Ne.symm h2]
theorem l1Stands (s : ByteArray) (hs : s.size ≤ 9223372036854775807) (b : UInt8) (k : Nat) (hk : s.size < k) : spec_l1Stands.f k s b.toNat = some ((B s).contains b) := by
  have := l1Stands_l0 s hs b (B s) 0 k rfl (by rw [B_len]; exact hk)
  simpa [spec_l1Stands.f] using this
/-- A record that is valid. -/
def okRec (c r : ByteArray) : Bool := !(B c == []) && ((B c).all okC && decide ((c.size : Int) ≤ 160)) && !(B c).contains 64 && ((B r).all okC && decide ((r.size : Int) ≤ 250))
theorem l12Record (c r : ByteArray) (hc : c.size ≤ 9223372036854775807) (hr : r.size ≤ 9223372036854775807) (k : Nat) (h1 : c.size < k) (h2 : r.size < k) : spec_l12Record.f k c r = some (okRec c r) := by
  unfold spec_l12Record.f okRec
  rw [toList_B]
  by_cases h : B c = []
  · rw [if_pos h]; simp [h]
  · rw [if_neg h, l12Bytes c hc _ k h1]
    have e : (!(B c == [])) = true := by simpa using h
    rw [e]
    simp only [Option.bind_some, Bool.true_and]
    cases h3 : ((B c).all okC && decide ((c.size : Int) ≤ 160)) with
    | false => simp
    | true =>
      rw [if_pos rfl]
      have h4 := l1Stands c hc 64 k h1
      rw [show ((64 : UInt8).toNat : Int) = 64 from rfl] at h4
      rw [h4]
      simp only [Option.bind_some]
      cases h5 : (B c).contains 64 with
      | true => simp
      | false =>
        rw [if_neg (by simp), l12Bytes r hr _ k h2]
        simp
theorem isText_l0 (s but : ByteArray) (hs : s.size ≤ 9223372036854775807) (lo up : Int) : ∀ (t : List UInt8) (n k : Nat), (B s).drop n = t → t.length < k →
    impl_isText.l0 k s lo up but (s.size : Int) n = some (t.all (fun c => okB c && !(B but).contains c) && (decide (lo ≤ (s.size : Int)) && decide ((s.size : Int) ≤ up))) := by
  intro t
  induction t with
  | nil =>
    intro n k h hk
    obtain ⟨k, rfl⟩ := pred_of_lt hk
    simp only [impl_isText.l0]
    rw [if_neg (scan_nil h)]
    simp only [impl_in.f]
    by_cases h1 : (s.size : Int) ≥ lo
    · rw [if_pos h1]; simp [show lo ≤ (s.size : Int) from h1]
    · rw [if_neg h1]; simp [show ¬ lo ≤ (s.size : Int) from h1]
  | cons c t ih =>
    intro n k h hk
    obtain ⟨k, rfl⟩ := pred_of_lt hk
    obtain ⟨hn, hb, hd⟩ := scan_cons h
    simp only [impl_isText.l0]
    rw [if_pos (by omega), if_pos (by omega), if_pos (by omega), hb]
    by_cases h1 : (c.toNat : Int) < 32
    · rw [if_pos h1]
      have : okB c = false := by simp only [okB, Bool.and_eq_false_iff, decide_eq_false_iff_not]; omega
      simp [this]
    · rw [if_neg h1]
      by_cases h2 : (c.toNat : Int) > 126
      · rw [if_pos h2]
        have : okB c = false := by simp only [okB, Bool.and_eq_false_iff, decide_eq_false_iff_not]; omega
        simp [this]
      · rw [if_neg h2]
        have h0 : okB c = true := by simp only [okB, Bool.and_eq_true, decide_eq_true_eq]; omega
        simp only [strings_IndexByte.f, Option.bind_some, toUInt8_cast]
        have hi : Lib.indexByte but.data.toList c ≥ 0 ↔ c ∈ B but := idx_neg (B but) c
        by_cases h3 : c ∈ B but
        · rw [if_pos (hi.2 h3)]
          simp [h0, h3]
        · rw [if_neg (fun hh => h3 (hi.1 hh)), wrap_succ hn hs, ih (n + 1) k hd (by simpa using hk)]
          simp [h0, h3]
theorem isText (s but : ByteArray) (hs : s.size ≤ 9223372036854775807) (lo hi : Int) (k : Nat) (hk : s.size < k) :
    impl_isText.f k s lo hi but = some ((B s).all (fun c => okB c && !(B but).contains c) && (decide (lo ≤ (s.size : Int)) && decide ((s.size : Int) ≤ hi))) := by
  have := isText_l0 s but hs lo hi (B s) 0 k rfl (by rw [B_len]; exact hk)
  simpa [impl_isText.f] using this
theorem all_and (p q : UInt8 → Bool) (l : List UInt8) : (l.all p && l.all q) = l.all fun x => p x && q x := by
  induction l with
  | nil => rfl
  | cons c l ih =>
    simp only [List.all_cons, ← ih]
    cases p c <;> cases q c <;> cases l.all p <;> cases l.all q <;> rfl
theorem all_not (l : List UInt8) (b : UInt8) : l.all (fun c => !(c == b)) = !l.contains b := by
  induction l with
  | nil => rfl
  | cons c l ih =>
    simp only [List.all_cons, List.contains_cons, ih]
    rw [Bool.not_or]
    congr 1
    rw [Bool.beq_comm]
theorem isValidRecord (c r : ByteArray) (hc : c.size ≤ 9223372036854775807) (hr : r.size ≤ 9223372036854775807) (k : Nat) (h1 : c.size < k) (h2 : r.size < k) : impl_IsValidRecord.f k c r = some (okRec c r) := by
  unfold impl_IsValidRecord.f okRec
  rw [isText c _ hc _ _ k h1]
  simp only [Option.bind_some]
  have e1 : (B c).all (fun x => okB x && !(B ⟨#[35, 64]⟩).contains x) = ((B c).all okC && !(B c).contains 64) := by
    rw [← all_not, all_and]
    congr 1
    funext x
    simp only [B_lit, okC, List.contains_cons, List.contains_nil, Bool.or_false, Bool.not_or]
    rw [Bool.and_assoc]
  have e2 : (B r).all (fun x => okB x && !(B ⟨#[35]⟩).contains x) = (B r).all okC := by
    congr 1
    funext x
    simp only [B_lit, okC, List.contains_cons, List.contains_nil, Bool.or_false]
  have e3 : decide ((1 : Int) ≤ (c.size : Int)) = !(B c == []) := by
    have := B_len c
    cases hB : B c with
    | nil => rw [hB] at this; simp at this; simp [← this]
    | cons x l => rw [hB] at this; simp at this; simp; omega
  rw [e1, e3]
  cases hA : (((B c).all okC && !(B c).contains 64) && (!(B c == []) && decide ((c.size : Int) ≤ 160))) with
  | true =>
    rw [if_pos rfl, isText r _ hr _ _ k h2, e2]
    simp only [Bool.and_eq_true] at hA
    obtain ⟨⟨a1, a2⟩, a3, a4⟩ := hA
    have h0 : decide ((0 : Int) ≤ (r.size : Int)) = true := decide_eq_true (by omega)
    simp only [Option.bind_some, a1, a2, a3, a4, h0, Bool.true_and]
  | false =>
    rw [if_neg (by simp)]
    have : (!(B c == []) && ((B c).all okC && decide ((c.size : Int) ≤ 160)) && !(B c).contains 64) = false := by
      rw [← hA]
      cases (B c).all okC <;> cases (B c).contains 64 <;> cases (B c == []) <;> cases decide ((c.size : Int) ≤ 160) <;> rfl
    rw [this]; rfl
end Go.Proofs.YtpknehbhbiofaaaDoor.Rec
