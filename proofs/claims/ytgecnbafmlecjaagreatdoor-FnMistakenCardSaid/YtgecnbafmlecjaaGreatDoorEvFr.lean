/- Fractions in lowest terms, their sums. -/
set_option linter.unusedVariables false
namespace Go.Proofs.YtgecnbafmlecjaaGreatDoor.Ev.Fr
-- ---------------------------------------------------------------- fractions in lowest terms
def cut (a b : Nat) : Nat × Nat := (a / Nat.gcd a b, b / Nat.gcd a b)
theorem cut_mul (a b k : Nat) (hk : 0 < k) : cut (a * k) (b * k) = cut a b := by
  unfold cut
  rw [Nat.gcd_mul_right, Nat.mul_div_mul_right _ _ hk, Nat.mul_div_mul_right _ _ hk]
theorem cut_eq {p q a n : Nat} (hq : 0 < q) (hn : 0 < n) (h : p * n = a * q) : cut p q = cut a n := by
  rw [← cut_mul p q n hn, ← cut_mul a n q hq, h, Nat.mul_comm q n]
theorem gcd_pos {a b : Nat} (hb : 0 < b) : 0 < Nat.gcd a b := Nat.pos_of_ne_zero fun h => by
  have := Nat.eq_zero_of_gcd_eq_zero_right h
  omega
/-- What a fraction in lowest terms is of. -/
theorem cut_of (a n : Nat) (hn : 0 < n) : ∃ g, 0 < g ∧ a = (cut a n).1 * g ∧ n = (cut a n).2 * g := by
  refine ⟨Nat.gcd a n, gcd_pos hn, ?_, ?_⟩
  · exact (Nat.div_mul_cancel (Nat.gcd_dvd_left a n)).symm
  · exact (Nat.div_mul_cancel (Nat.gcd_dvd_right a n)).symm
theorem cut_pos (a n : Nat) (hn : 0 < n) : 0 < (cut a n).2 := by
  obtain ⟨g, h0, _, h2⟩ := cut_of a n hn
  apply Nat.pos_of_ne_zero
  intro h
  rw [h, Nat.zero_mul] at h2
  omega
theorem cut_le (a n : Nat) (hn : 0 < n) : (cut a n).2 ≤ n := Nat.div_le_self _ _
theorem cut_le1 (a n : Nat) (hn : 0 < n) (h : a ≤ n) : (cut a n).1 ≤ (cut a n).2 := Nat.div_le_div_right h
theorem cut_cross (a n : Nat) (hn : 0 < n) : (cut a n).1 * n = a * (cut a n).2 := by
  obtain ⟨g, h0, h1, h2⟩ := cut_of a n hn
  have e1 : (cut a n).1 * n = (cut a n).1 * ((cut a n).2 * g) := by rw [← h2]
  have e2 : a * (cut a n).2 = (cut a n).1 * g * (cut a n).2 := by rw [← h1]
  rw [e1, e2, Nat.mul_assoc, Nat.mul_comm g]
theorem cut_self (n : Nat) (hn : 0 < n) : cut n n = (1, 1) := by
  unfold cut
  rw [Nat.gcd_self, Nat.div_self hn]
theorem cut_zero (n : Nat) (hn : 0 < n) : cut 0 n = (0, 1) := by
  unfold cut
  rw [Nat.gcd_zero_left, Nat.zero_div, Nat.div_self hn]
theorem cut_inj {a b n : Nat} (hn : 0 < n) (h : cut a n = cut b n) : a = b := by
  have h1 := cut_cross a n hn
  have h2 := cut_cross b n hn
  rw [h] at h1
  have := cut_pos b n hn
  exact Nat.eq_of_mul_eq_mul_right this (by rw [← h1, h2])
def plus (x y : Nat × Nat) : Nat × Nat := cut (x.1 * (y.2 / Nat.gcd x.2 y.2) + y.1 * (x.2 / Nat.gcd x.2 y.2)) (x.2 / Nat.gcd x.2 y.2 * y.2)
/-- Two numbers by their greatest common divisor. -/
theorem by_gcd (p q : Nat) (hq : 0 < q) : ∃ g u v, 0 < g ∧ p = u * g ∧ q = v * g ∧ p / Nat.gcd p q = u ∧ q / Nat.gcd p q = v ∧ 0 < v := by
  have hg := gcd_pos (a := p) hq
  refine ⟨Nat.gcd p q, p / Nat.gcd p q, q / Nat.gcd p q, hg, (Nat.div_mul_cancel (Nat.gcd_dvd_left p q)).symm, (Nat.div_mul_cancel (Nat.gcd_dvd_right p q)).symm, rfl, rfl, ?_⟩
  exact Nat.div_pos (Nat.le_of_dvd hq (Nat.gcd_dvd_right p q)) hg
theorem plus_cut (a b n : Nat) (hn : 0 < n) : plus (cut a n) (cut b n) = cut (a + b) n := by
  have ha := cut_cross a n hn
  have hb := cut_cross b n hn
  have pa := cut_pos a n hn
  have pb := cut_pos b n hn
  unfold plus
  generalize cut a n = x at *
  generalize cut b n = y at *
  obtain ⟨x1, x2⟩ := x
  obtain ⟨y1, y2⟩ := y
  simp only at *
  obtain ⟨g, u, v, hg, e1, e2, e3, e4, hv⟩ := by_gcd x2 y2 pb
  rw [e3, e4]
  have hu : 0 < u := Nat.pos_of_ne_zero fun h => by rw [h, Nat.zero_mul] at e1; omega
  refine cut_eq (Nat.mul_pos hu pb) hn ?_
  rw [Nat.add_mul, Nat.add_mul]
  have s1 : x1 * v * n = a * (u * y2) := by
    rw [Nat.mul_right_comm, ha, e1, e2, Nat.mul_assoc, Nat.mul_assoc, Nat.mul_comm g v]
  have s2 : y1 * u * n = b * (u * y2) := by
    rw [Nat.mul_right_comm, hb, Nat.mul_assoc, Nat.mul_comm u]
  rw [s1, s2]
theorem less_cut (a b n : Nat) (hn : 0 < n) : ((cut a n).1 * ((cut b n).2 / Nat.gcd (cut a n).2 (cut b n).2) < (cut b n).1 * ((cut a n).2 / Nat.gcd (cut a n).2 (cut b n).2)) ↔ a < b := by
  have ha := cut_cross a n hn
  have hb := cut_cross b n hn
  have pa := cut_pos a n hn
  have pb := cut_pos b n hn
  generalize cut a n = x at *
  generalize cut b n = y at *
  obtain ⟨x1, x2⟩ := x
  obtain ⟨y1, y2⟩ := y
  simp only at *
  obtain ⟨g, u, v, hg, e1, e2, e3, e4, hv⟩ := by_gcd x2 y2 pb
  rw [e3, e4]
  have hu : 0 < u := Nat.pos_of_ne_zero fun h => by rw [h, Nat.zero_mul] at e1; omega
  have s1 : x1 * v * n = a * (u * y2) := by
    rw [Nat.mul_right_comm, ha, e1, e2, Nat.mul_assoc, Nat.mul_assoc, Nat.mul_comm g v]
  have s2 : y1 * u * n = b * (u * y2) := by
    rw [Nat.mul_right_comm, hb, Nat.mul_assoc, Nat.mul_comm u]
  have hw : 0 < u * y2 := Nat.mul_pos hu pb
  constructor
  · intro h
    have h2 : x1 * v * n < y1 * u * n := Nat.mul_lt_mul_of_pos_right h hn
    rw [s1, s2] at h2
    exact Nat.lt_of_mul_lt_mul_right h2
  · intro h
    have h2 : a * (u * y2) < b * (u * y2) := Nat.mul_lt_mul_of_pos_right h hw
    rw [← s1, ← s2] at h2
    exact Nat.lt_of_mul_lt_mul_right h2
/-- The sizes in a sum of two parts of a number. -/
theorem plus_b (a b n : Nat) (hn : 0 < n) (ha : a ≤ n) (hb : b ≤ n) : let x := cut a n; let y := cut b n
    x.1 ≤ n ∧ x.2 ≤ n ∧ y.1 ≤ n ∧ y.2 ≤ n ∧ x.2 / Nat.gcd x.2 y.2 * y.2 ≤ n ∧ x.1 * (y.2 / Nat.gcd x.2 y.2) ≤ n ∧ y.1 * (x.2 / Nat.gcd x.2 y.2) ≤ n := by
  intro x y
  have h1 := cut_le a n hn
  have h2 := cut_le b n hn
  have h3 := cut_le1 a n hn ha
  have h4 := cut_le1 b n hn hb
  have pb := cut_pos b n hn
  obtain ⟨g1, k1, _, d1⟩ := cut_of a n hn
  obtain ⟨g2, k2, _, d2⟩ := cut_of b n hn
  have hl : Nat.lcm x.2 y.2 ∣ n := Nat.lcm_dvd ⟨g1, d1⟩ ⟨g2, d2⟩
  have hl2 := Nat.le_of_dvd hn hl
  have hl3 : x.2 / Nat.gcd x.2 y.2 * y.2 = Nat.lcm x.2 y.2 := by
    unfold Nat.lcm
    rw [Nat.mul_comm, Nat.mul_comm x.2, Nat.mul_div_assoc _ (Nat.gcd_dvd_left _ _)]
  have hl4 : x.2 * (y.2 / Nat.gcd x.2 y.2) = Nat.lcm x.2 y.2 := by
    unfold Nat.lcm
    rw [Nat.mul_div_assoc _ (Nat.gcd_dvd_right _ _)]
  refine ⟨Nat.le_trans h3 h1, h1, Nat.le_trans h4 h2, h2, by rw [hl3]; exact hl2, ?_, ?_⟩
  · exact Nat.le_trans (Nat.mul_le_mul_right _ h3) (by rw [hl4]; exact hl2)
  · refine Nat.le_trans (Nat.mul_le_mul_right _ h4) ?_
    rw [Nat.mul_comm, hl3]
    exact hl2
end Go.Proofs.YtgecnbafmlecjaaGreatDoor.Ev.Fr
