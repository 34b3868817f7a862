/- The reference's numerals and the checksums, as lists of bytes: l1Num is the library's itoa; both checksums are one sum. -/
import Derived.Test.YtpknehbhbiofaaaDoorPAg16
import Derived.Test.YtpknehbhbiofaaaDoorLib
import Derived.Lib.ItoaNum
set_option linter.unusedVariables false
set_option linter.unusedSimpArgs false
namespace Go.Proofs.YtpknehbhbiofaaaDoor.Num
open Go.RowKit Go.Proofs.YtpknehbhbiofaaaDoor.PA Go.Proofs.YtpknehbhbiofaaaDoorW.PrintWords Go.Proofs.YtpknehbhbiofaaaDoor.U
theorem dec_len : ∀ (k u : Nat), u < 10 ^ (k + 1) → (Lib.decDigits u).length ≤ k + 1 := by
  intro k
  induction k with
  | zero =>
    intro u h
    rw [Lib.decDigits, dif_pos (by simpa using h)]
    simp
  | succ k ih =>
    intro u h
    by_cases h1 : u < 10
    · rw [Lib.decDigits, dif_pos h1]
      simp
    · rw [Lib.decDigits, dif_neg h1]
      have h2 : u / 10 < 10 ^ (k + 1) := by
        rw [Nat.pow_succ] at h
        exact Nat.div_lt_of_lt_mul (by rw [Nat.mul_comm]; exact h)
      have := ih _ h2
      simp only [List.length_append, List.length_cons, List.length_nil]
      omega
theorem dec_len20 {u : Nat} (h : u ≤ 9223372036854775808) : (Lib.decDigits u).length ≤ 19 := dec_len 18 u (Nat.lt_of_le_of_lt h (by decide))
theorem itoa_len {n : Int} (h : -9223372036854775808 ≤ n ∧ n ≤ 9223372036854775807) : (Lib.itoa n).length ≤ 20 := by
  unfold Lib.itoa
  split
  · have := dec_len20 (u := n.natAbs) (by omega)
    simp only [List.length_cons]
    omega
  · have := dec_len20 (u := n.toNat) (by omega)
    omega
theorem digit_piece {i : Nat} (h : i < 10) : (⟨#[48, 49, 50, 51, 52, 53, 54, 55, 56, 57]⟩ : ByteArray).extract i (i + 1) = ⟨[UInt8.ofNat (48 + i)].toArray⟩ := by
  match i, h with
  | 0, _ | 1, _ | 2, _ | 3, _ | 4, _ | 5, _ | 6, _ | 7, _ | 8, _ | 9, _ => decide +kernel
theorem app_mk (a b : List UInt8) : (⟨a.toArray⟩ : ByteArray) ++ ⟨b.toArray⟩ = ⟨(a ++ b).toArray⟩ := by
  apply B_inj
  rw [B_append, B_mk, B_mk, B_mk]
theorem num_pos : ∀ (m n : Nat), n ≤ m → n ≤ 9223372036854775807 → ∀ k, m < k → spec_l1Num.f k (n : Int) = some ⟨(Lib.decDigits n).toArray⟩ := by
  intro m
  induction m with
  | zero =>
    intro n hn hb k hk
    obtain ⟨k, rfl⟩ := pred_of_lt hk
    have h : n < 10 := by omega
    simp only [spec_l1Num.f]
    have e1 : ((n : Int)).toNat = n := by omega
    have e2 : ((n : Int) + 1).toNat = n + 1 := by omega
    rw [if_neg (by omega), if_pos (by omega), if_pos (by omega), wrap_id (by omega), if_pos (by omega), if_pos (by omega), Lib.decDigits, dif_pos h, e1, e2, digit_piece h]
  | succ m ih =>
    intro n hn hb k hk
    obtain ⟨k, rfl⟩ := pred_of_lt hk
    simp only [spec_l1Num.f]
    rw [if_neg (by omega)]
    by_cases h : n < 10
    · rw [if_pos (by omega), if_pos (by omega), wrap_id (by omega), if_pos (by omega), if_pos (by omega), Lib.decDigits, dif_pos h]
      have e1 : ((n : Int)).toNat = n := by omega
      have e2 : ((n : Int) + 1).toNat = n + 1 := by omega
      rw [e1, e2, digit_piece h]
    · have t1 : Int.tdiv (n : Int) 10 = ((n / 10 : Nat) : Int) := by rw [Int.tdiv_eq_ediv_of_nonneg (by omega)]; omega
      have t2 : Int.tmod (n : Int) 10 = ((n % 10 : Nat) : Int) := by rw [Int.tmod_eq_emod_of_nonneg (by omega)]; omega
      rw [if_neg (by omega), t1, t2, wrap_id (by omega), ih (n / 10) (by omega) (by omega) k (by omega)]
      rw [Option.bind_some, if_pos (by omega), wrap_id (by omega), if_pos (by omega), if_pos (by omega), Option.bind_some]
      have e1 : (((n % 10 : Nat) : Int)).toNat = n % 10 := by omega
      have e2 : (((n % 10 : Nat) : Int) + 1).toNat = n % 10 + 1 := by omega
      rw [e1, e2, digit_piece (by omega), size_list, size_list]
      have := dec_len20 (u := n / 10) (by omega)
      rw [if_pos (by simp; omega), app_mk]
      conv => rhs; rw [Lib.decDigits, dif_neg h]
theorem num (n : Int) (h : -9223372036854775808 ≤ n ∧ n ≤ 9223372036854775807) (k : Nat) (hk : n.natAbs + 1 < k) : spec_l1Num.f k n = some ⟨(Lib.itoa n).toArray⟩ := by
  have neg : ∀ (m : Nat) (n : Int), n.natAbs ≤ m → n < 0 → -9223372036854775808 ≤ n → ∀ k, m + 1 < k → spec_l1Num.f k n = some ⟨(45 :: Lib.decDigits n.natAbs).toArray⟩ := by
    intro m
    induction m with
    | zero => intro n hn h0; omega
    | succ m ih =>
      intro n hn h0 hb k hk
      obtain ⟨k, rfl⟩ := pred_of_lt hk
      simp only [spec_l1Num.f]
      rw [if_pos h0]
      by_cases h1 : n > -10
      · rw [if_pos h1, wrap_id (by omega)]
        have e : -n = ((n.natAbs : Nat) : Int) := by omega
        rw [e, num_pos (m + 1) n.natAbs (by omega) (by omega) k (by omega)]
        rw [Option.bind_some]
        have := dec_len20 (u := n.natAbs) (by omega)
        rw [size_list, if_pos (by omega)]
        exact congrArg some (app_mk [45] (Lib.decDigits n.natAbs))
      · have t1 : Int.tdiv n 10 = -((n.natAbs / 10 : Nat) : Int) := by
          have : n = -((n.natAbs : Nat) : Int) := by omega
          rw [this, Int.neg_tdiv, Int.tdiv_eq_ediv_of_nonneg (by omega)]
          omega
        have t2 : Int.tmod n 10 = -((n.natAbs % 10 : Nat) : Int) := by
          have : n = -((n.natAbs : Nat) : Int) := by omega
          rw [this, Int.neg_tmod, Int.tmod_eq_emod_of_nonneg (by omega)]
          omega
        rw [if_neg h1, t1, t2, wrap_id (by omega), ih (-((n.natAbs / 10 : Nat) : Int)) (by omega) (by omega) (by omega) k (by omega)]
        rw [Option.bind_some, wrap_id (by omega)]
        have e : - -((n.natAbs % 10 : Nat) : Int) = ((n.natAbs % 10 : Nat) : Int) := by omega
        rw [e, num_pos m (n.natAbs % 10) (by omega) (by omega) k (by omega)]
        rw [Option.bind_some]
        have e2 : (-((n.natAbs / 10 : Nat) : Int)).natAbs = n.natAbs / 10 := by omega
        have l1 := dec_len20 (u := n.natAbs / 10) (by omega)
        have l2 := dec_len20 (u := n.natAbs % 10) (by omega)
        rw [size_list, size_list, e2, if_pos (by simp only [List.length_cons]; omega), app_mk]
        have d1 : Lib.decDigits n.natAbs = Lib.decDigits (n.natAbs / 10) ++ Lib.decDigits (n.natAbs % 10) := by
          rw [Lib.decDigits, dif_neg (by omega), Lib.decDigits_one (i := n.natAbs % 10) (by omega)]
        rw [d1, List.cons_append]
  unfold Lib.itoa
  by_cases h0 : n < 0
  · rw [if_pos h0]
    exact neg n.natAbs n (Nat.le_refl _) h0 h.1 k hk
  · rw [if_neg h0]
    have e : n = ((n.toNat : Nat) : Int) := by omega
    have := num_pos n.toNat n.toNat (Nat.le_refl _) (by omega) k (by omega)
    rw [← e] at this
    exact this
/-- The checksum of a text. -/
def sum (l : List UInt8) (h : Nat) : Nat := l.foldl (fun h c => (41 * h + c.toNat + 1) % 999979) h
theorem sum_lt (l : List UInt8) (h : Nat) (hh : h < 999979) : sum l h < 999979 := by
  induction l generalizing h with
  | nil => exact hh
  | cons c l ih => exact ih _ (Nat.mod_lt _ (by decide))
theorem sum_step (h : Nat) (hh : h < 999979) (c : UInt8) : Int.tmod (wrap64 ((wrap64 ((wrap64 (41 * (h : Int))) + (wrap64 ((c.toNat : Nat) : Int)))) + 1)) 999979 = (((41 * h + c.toNat + 1) % 999979 : Nat) : Int) := by
  have hc := c.toNat_lt
  rw [wrap_id (x := 41 * (h : Int)) (by omega), wrap_id (x := ((c.toNat : Nat) : Int)) (by omega), wrap_id (x := 41 * (h : Int) + ((c.toNat : Nat) : Int)) (by omega), wrap_id (by omega), Int.tmod_eq_emod_of_nonneg (by omega)]
  omega
theorem l1Sum_l0 (s : ByteArray) (hs : s.size ≤ 9223372036854775807) : ∀ (t : List UInt8) (n h k : Nat), (B s).drop n = t → h < 999979 → t.length < k → spec_l1Sum.l0 k s (h : Int) n = some ((sum t h : Nat) : Int) := by
  intro t
  induction t with
  | nil =>
    intro n h k hd hh hk
    obtain ⟨k, rfl⟩ := pred_of_lt hk
    simp only [spec_l1Sum.l0]
    rw [if_neg (scan_nil hd)]
    rfl
  | cons c t ih =>
    intro n h k hd hh hk
    obtain ⟨k, rfl⟩ := pred_of_lt hk
    obtain ⟨hn, hb, hd⟩ := scan_cons hd
    simp only [spec_l1Sum.l0]
    rw [if_pos (by omega), if_pos (by omega), hb, sum_step h hh c, wrap_succ hn hs, ih (n + 1) _ k hd (Nat.mod_lt _ (by decide)) (by simpa using hk)]
    rfl
theorem l1Sum (s : ByteArray) (hs : s.size ≤ 9223372036854775807) (k : Nat) (hk : s.size < k) : spec_l1Sum.f k s = some ((sum (B s) 7 : Nat) : Int) := by
  have := l1Sum_l0 s hs (B s) 0 7 k rfl (by decide) (by rw [B_len]; exact hk)
  simpa [spec_l1Sum.f] using this
theorem checksum_l0 (s : ByteArray) (hs : s.size ≤ 9223372036854775807) : ∀ (t : List UInt8) (n h k : Nat), (B s).drop n = t → h < 999979 → t.length < k → impl_checksum.l0 k s (h : Int) (s.size : Int) n = some ((sum t h : Nat) : Int) := by
  intro t
  induction t with
  | nil =>
    intro n h k hd hh hk
    obtain ⟨k, rfl⟩ := pred_of_lt hk
    simp only [impl_checksum.l0]
    rw [if_neg (scan_nil hd)]
    rfl
  | cons c t ih =>
    intro n h k hd hh hk
    obtain ⟨k, rfl⟩ := pred_of_lt hk
    obtain ⟨hn, hb, hd⟩ := scan_cons hd
    simp only [impl_checksum.l0]
    rw [if_pos (by omega), if_pos (by omega), if_pos (by omega), hb, sum_step h hh c, wrap_succ hn hs, ih (n + 1) _ k hd (Nat.mod_lt _ (by decide)) (by simpa using hk)]
    rfl
theorem checksum (s : ByteArray) (hs : s.size ≤ 9223372036854775807) (k : Nat) (hk : s.size < k) : impl_checksum.f k s = some ((sum (B s) 7 : Nat) : Int) := by
  have := checksum_l0 s hs (B s) 0 7 k rfl (by decide) (by rw [B_len]; exact hk)
  simpa [impl_checksum.f] using this
/-- No numeral holds a byte below 45 or above 57. -/
theorem dec_bytes : ∀ (m u : Nat), u ≤ m → ∀ c ∈ Lib.decDigits u, 48 ≤ c.toNat ∧ c.toNat ≤ 57 := by
  intro m
  induction m with
  | zero =>
    intro u hu c hc
    rw [Lib.decDigits, dif_pos (by omega)] at hc
    obtain rfl := List.mem_singleton.1 hc
    obtain rfl : u = 0 := by omega
    decide
  | succ m ih =>
    intro u hu c hc
    by_cases h : u < 10
    · rw [Lib.decDigits, dif_pos h] at hc
      obtain rfl := List.mem_singleton.1 hc
      simp only [UInt8.toNat_ofNat']
      omega
    · rw [Lib.decDigits, dif_neg h] at hc
      rcases List.mem_append.1 hc with hc | hc
      · exact ih (u / 10) (by omega) c hc
      · obtain rfl := List.mem_singleton.1 hc
        simp only [UInt8.toNat_ofNat']
        omega
theorem itoa_bytes (n : Int) : ∀ c ∈ Lib.itoa n, 45 ≤ c.toNat ∧ c.toNat ≤ 57 := by
  intro c hc
  unfold Lib.itoa at hc
  split at hc
  · rcases List.mem_cons.1 hc with rfl | hc
    · decide
    · have := dec_bytes _ _ (Nat.le_refl _) c hc
      omega
  · have := dec_bytes _ _ (Nat.le_refl _) c hc
    omega
end Go.Proofs.YtpknehbhbiofaaaDoor.Num
