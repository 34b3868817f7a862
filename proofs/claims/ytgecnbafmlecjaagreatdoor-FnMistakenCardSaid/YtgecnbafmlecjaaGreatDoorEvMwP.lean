/- What the law on mistaken letters asks, in plain words: sums of parts, means, pairs that are close. -/
import Derived.Test.YtgecnbafmlecjaaGreatDoorEvFr
import Derived.Test.YtgecnbafmlecjaaGreatDoorEvNz
set_option linter.unusedVariables false
namespace Go.Proofs.YtgecnbafmlecjaaGreatDoor.Ev.Mw
open Fr Nz
theorem cut_flip (a n : Nat) (hn : 0 < n) (h : a ≤ n) : ((cut a n).2 - (cut a n).1, (cut a n).2) = cut (n - a) n := by
  have e : Nat.gcd (n - a) n = Nat.gcd a n := by
    apply Nat.dvd_antisymm
    · refine Nat.dvd_gcd ?_ (Nat.gcd_dvd_right _ _)
      have h1 := Nat.gcd_dvd_left (n - a) n
      have h2 := Nat.gcd_dvd_right (n - a) n
      have h3 := Nat.dvd_sub h2 h1
      rwa [show n - (n - a) = a by omega] at h3
    · exact Nat.dvd_gcd (Nat.dvd_sub (Nat.gcd_dvd_right _ _) (Nat.gcd_dvd_left _ _)) (Nat.gcd_dvd_right _ _)
  unfold cut
  simp only
  rw [e]
  have hg : Nat.gcd a n ∣ a := Nat.gcd_dvd_left _ _
  have hg2 : Nat.gcd a n ∣ n := Nat.gcd_dvd_right _ _
  have hp := gcd_pos (a := a) hn
  obtain ⟨u, hu⟩ := hg
  obtain ⟨v, hv⟩ := hg2
  generalize Nat.gcd a n = g at *
  subst hu
  subst hv
  rw [← Nat.mul_sub, Nat.mul_div_cancel_left _ hp, Nat.mul_div_cancel_left _ hp, Nat.mul_div_cancel_left _ hp]
theorem plus_bK (a b n : Nat) (hn : 0 < n) : let x := cut a n; let y := cut b n
    x.2 ≤ n ∧ y.2 ≤ n ∧ x.2 / Nat.gcd x.2 y.2 * y.2 ≤ n ∧ x.1 * (y.2 / Nat.gcd x.2 y.2) ≤ a ∧ y.1 * (x.2 / Nat.gcd x.2 y.2) ≤ b := by
  intro x y
  have h1 := cut_le a n hn
  have h2 := cut_le b n hn
  have ha := cut_cross a n hn
  have hb := cut_cross b n hn
  have pa := cut_pos a n hn
  have pb := cut_pos b n hn
  obtain ⟨g1, k1, _, d1⟩ := cut_of a n hn
  obtain ⟨g2, k2, _, d2⟩ := cut_of b n hn
  have hl : Nat.lcm x.2 y.2 ∣ n := Nat.lcm_dvd ⟨g1, d1⟩ ⟨g2, d2⟩
  have hl2 := Nat.le_of_dvd hn hl
  have hl3 : x.2 / Nat.gcd x.2 y.2 * y.2 = Nat.lcm x.2 y.2 := by
    unfold Nat.lcm
    rw [Nat.mul_comm, Nat.mul_comm x.2, Nat.mul_div_assoc _ (Nat.gcd_dvd_left _ _)]
  have hl4 : x.2 * (y.2 / Nat.gcd x.2 y.2) = Nat.lcm x.2 y.2 := by
    unfold Nat.lcm
    rw [Nat.mul_div_assoc _ (Nat.gcd_dvd_right _ _)]
  refine ⟨h1, h2, by rw [hl3]; exact hl2, ?_, ?_⟩
  · refine Nat.le_of_mul_le_mul_right (c := n) ?_ hn
    have e : x.1 * (y.2 / Nat.gcd x.2 y.2) * n = a * Nat.lcm x.2 y.2 := by
      rw [Nat.mul_right_comm, ha, Nat.mul_assoc, hl4]
    rw [e]
    exact Nat.mul_le_mul_left _ hl2
  · refine Nat.le_of_mul_le_mul_right (c := n) ?_ hn
    have e : y.1 * (x.2 / Nat.gcd x.2 y.2) * n = b * Nat.lcm x.2 y.2 := by
      rw [Nat.mul_right_comm, hb, Nat.mul_assoc, Nat.mul_comm y.2, hl3]
    rw [e]
    exact Nat.mul_le_mul_left _ hl2
theorem plus01 (p q : Nat) : plus (0, 1) (p, q) = cut p q := by
  unfold plus
  simp
theorem cut_parts (s n : Nat) (hn : 0 < n) : (cut s n).1 * (n / (cut s n).2) = s := by
  obtain ⟨g, hg, h1, h2⟩ := cut_of s n hn
  have hp := cut_pos s n hn
  generalize cut s n = x at *
  have : n / x.2 = g := by rw [h2, Nat.mul_div_cancel_left _ hp]
  rw [this, ← h1]
/-- The parts of a product by one of its factors. -/
theorem cut_partsM (s n m : Nat) (hn : 0 < n) : (cut s n).1 * ((n * m) / (cut s n).2) = s * m := by
  obtain ⟨g, hg, h1, h2⟩ := cut_of s n hn
  have hp := cut_pos s n hn
  generalize cut s n = x at *
  have : (n * m) / x.2 = g * m := by rw [h2, Nat.mul_assoc, Nat.mul_div_cancel_left _ hp]
  rw [this, ← Nat.mul_assoc, ← h1]
/-- Not being read is no more probable than marks are flipped. -/
theorem bern (n d : Nat) (hn : n ≤ d) : ∀ k : Nat, k ≤ 5 → d ^ 5 ≤ (d - n) ^ k * d ^ (5 - k) + k * n * d ^ 4
  | 0, _ => by simp
  | k + 1, hk => by
    have ih := bern n d hn k (by omega)
    have e1 : d ^ (5 - k) = d ^ (5 - (k + 1)) * d := by rw [← Nat.pow_succ]; congr 1; omega
    have e2 : d = (d - n) + n := by omega
    have b1 : (d - n) ^ k ≤ d ^ k := Nat.pow_le_pow_left (Nat.sub_le _ _) k
    have b2 : (d - n) ^ k * d ^ (5 - (k + 1)) ≤ d ^ 4 := by
      refine Nat.le_trans (Nat.mul_le_mul_right _ b1) ?_
      rw [← Nat.pow_add, show k + (5 - (k + 1)) = 4 by omega]
      exact Nat.le_refl _
    have e3 : (d - n) ^ k * d ^ (5 - k) = (d - n) ^ (k + 1) * d ^ (5 - (k + 1)) + (d - n) ^ k * d ^ (5 - (k + 1)) * n := by
      rw [e1, ← Nat.mul_assoc, Nat.pow_succ]
      have : (d - n) ^ k * d ^ (5 - (k + 1)) * d = (d - n) ^ k * d ^ (5 - (k + 1)) * ((d - n) + n) := by congr 1
      rw [this, Nat.mul_add]
      congr 1
      rw [Nat.mul_right_comm]
    have e4 : (d - n) ^ k * d ^ (5 - (k + 1)) * n ≤ d ^ 4 * n := Nat.mul_le_mul_right _ b2
    have e5 : (k + 1) * n * d ^ 4 = k * n * d ^ 4 + d ^ 4 * n := by rw [Nat.add_mul, Nat.add_mul, Nat.one_mul, Nat.mul_comm n]
    omega
-- ---------------------------------------------------------------- pairs that are close
def cpJ (d : Int) (i : Nat) (a : ByteArray) : List ByteArray → Nat → List (Nat × Nat)
  | [], _ => []
  | b :: t, j => (if a.size = b.size ∧ ((ap a.data.toList b.data.toList : Nat) : Int) ≤ d then [(i, j)] else []) ++ cpJ d i a t (j + 1)
def cpI (d : Int) : List ByteArray → Nat → List (Nat × Nat)
  | [], _ => []
  | a :: t, i => cpJ d i a t (i + 1) ++ cpI d t (i + 1)
def cp (ms : List ByteArray) (d : Int) : List (Nat × Nat) := cpI d ms 0
theorem cpJ_mem (d : Int) (i : Nat) (a : ByteArray) : ∀ (t : List ByteArray) (j : Nat) (p : Nat × Nat), p ∈ cpJ d i a t j → p.1 = i ∧ j ≤ p.2 ∧ ∃ b, t[p.2 - j]? = some b ∧ a.size = b.size ∧ ((ap a.data.toList b.data.toList : Nat) : Int) ≤ d ∧ ∀ d' : Int, ((ap a.data.toList b.data.toList : Nat) : Int) ≤ d' → p ∈ cpJ d' i a t j
  | [], j, p, h => by simp [cpJ] at h
  | b :: t, j, p, h => by
    rw [cpJ, List.mem_append] at h
    rcases h with h | h
    · by_cases hc : a.size = b.size ∧ ((ap a.data.toList b.data.toList : Nat) : Int) ≤ d
      · rw [if_pos hc, List.mem_singleton] at h
        subst h
        refine ⟨rfl, Nat.le_refl _, b, by simp, hc.1, hc.2, fun d' hd => ?_⟩
        rw [cpJ, if_pos ⟨hc.1, hd⟩]
        simp
      · rw [if_neg hc] at h; simp at h
    · obtain ⟨h1, h2, b', h3, h4, h5, h6⟩ := cpJ_mem d i a t (j + 1) p h
      refine ⟨h1, by omega, b', ?_, h4, h5, fun d' hd => ?_⟩
      · rw [show p.2 - j = (p.2 - (j + 1)) + 1 by omega, List.getElem?_cons_succ]; exact h3
      · rw [cpJ, List.mem_append]; exact .inr (h6 d' hd)
theorem cpI_mem (d : Int) : ∀ (t : List ByteArray) (i : Nat) (p : Nat × Nat), p ∈ cpI d t i → i ≤ p.1 ∧ p.1 < p.2 ∧ ∃ a b, t[p.1 - i]? = some a ∧ t[p.2 - i]? = some b ∧ a.size = b.size ∧ ((ap a.data.toList b.data.toList : Nat) : Int) ≤ d ∧ ∀ d' : Int, ((ap a.data.toList b.data.toList : Nat) : Int) ≤ d' → p ∈ cpI d' t i
  | [], i, p, h => by simp [cpI] at h
  | a :: t, i, p, h => by
    rw [cpI, List.mem_append] at h
    rcases h with h | h
    · obtain ⟨h1, h2, b, h3, h4, h5, h6⟩ := cpJ_mem d i a t (i + 1) p h
      refine ⟨by omega, by omega, a, b, by rw [h1]; simp, ?_, h4, h5, fun d' hd => ?_⟩
      · rw [show p.2 - i = (p.2 - (i + 1)) + 1 by omega, List.getElem?_cons_succ]; exact h3
      · rw [cpI, List.mem_append]; exact .inl (h6 d' hd)
    · obtain ⟨h1, h2, a', b', h3, h4, h5, h6, h7⟩ := cpI_mem d t (i + 1) p h
      refine ⟨by omega, h2, a', b', ?_, ?_, h5, h6, fun d' hd => ?_⟩
      · rw [show p.1 - i = (p.1 - (i + 1)) + 1 by omega, List.getElem?_cons_succ]; exact h3
      · rw [show p.2 - i = (p.2 - (i + 1)) + 1 by omega, List.getElem?_cons_succ]; exact h4
      · rw [cpI, List.mem_append]; exact .inr (h7 d' hd)
theorem cp_mono (ms : List ByteArray) (d e : Int) (h : d ≤ e) (hp : cp ms d ≠ []) : cp ms e ≠ [] := by
  obtain ⟨p, t, ht⟩ := List.exists_cons_of_ne_nil hp
  have hm : p ∈ cpI d ms 0 := by unfold cp at ht; rw [ht]; exact List.mem_cons_self
  obtain ⟨_, _, a, b, _, _, _, h6, h7⟩ := cpI_mem d ms 0 p hm
  exact List.ne_nil_of_mem (h7 e (by omega))
/-- The least distance of a pair. -/
def lea (ms : List ByteArray) : Nat → Nat → Option Nat
  | _, 0 => none
  | d, k + 1 => if cp ms (d : Int) ≠ [] then some d else lea ms (d + 1) k
theorem lea_some (ms : List ByteArray) : ∀ (k d e : Nat), lea ms d k = some e → d ≤ e ∧ e < d + k ∧ cp ms (e : Int) ≠ [] ∧ ∀ q : Nat, d ≤ q → q < e → cp ms (q : Int) = []
  | 0, d, e, h => by simp [lea] at h
  | k + 1, d, e, h => by
    rw [lea] at h
    by_cases hc : cp ms (d : Int) ≠ []
    · rw [if_pos hc] at h
      cases h
      exact ⟨Nat.le_refl _, by omega, hc, fun q h1 h2 => by omega⟩
    · rw [if_neg hc] at h
      obtain ⟨h1, h2, h3, h4⟩ := lea_some ms k (d + 1) e h
      refine ⟨by omega, by omega, h3, fun q q1 q2 => ?_⟩
      by_cases hq : q = d
      · subst hq; exact Classical.not_not.1 hc
      · exact h4 q (by omega) q2
theorem lea_none (ms : List ByteArray) : ∀ (k d : Nat), lea ms d k = none → ∀ q : Nat, d ≤ q → q < d + k → cp ms (q : Int) = []
  | 0, d, h, q, h1, h2 => by omega
  | k + 1, d, h, q, h1, h2 => by
    rw [lea] at h
    by_cases hc : cp ms (d : Int) ≠ []
    · rw [if_pos hc] at h; cases h
    · rw [if_neg hc] at h
      by_cases hq : q = d
      · subst hq; exact Classical.not_not.1 hc
      · exact lea_none ms k (d + 1) h q (by omega) (by omega)
/-- Two texts of as many bytes that differ nowhere are one. -/
theorem ap_zero : ∀ (a b : List UInt8), a.length = b.length → ap a b = 0 → a = b
  | [], [], _, _ => rfl
  | [], _ :: _, h, _ => by simp at h
  | _ :: _, [], h, _ => by simp at h
  | x :: a, y :: b, h, h0 => by
    rw [ap] at h0
    by_cases hxy : x = y
    · subst hxy
      rw [ap_zero a b (by simpa using h) (by simpa using h0)]
    · simp [hxy] at h0
/-- What the law asks of pairs. -/
theorem cp_law (ms : List ByteArray) (hnd : ms.Nodup) (d : Nat) (h1 : 1 ≤ d) (h5 : d ≤ 5) : (cp ms (d : Int) ≠ [] ↔ ∃ e, lea ms 1 5 = some e ∧ e ≤ d) ∧
    ∀ p ∈ cp ms (d : Int), ∃ (e : Nat) (a b : ByteArray), lea ms 1 5 = some e ∧ p.1 < ms.length ∧ p.2 < ms.length ∧ ms[p.1]? = some a ∧ ms[p.2]? = some b ∧ a.size = b.size ∧ e ≤ ap a.data.toList b.data.toList ∧ ap a.data.toList b.data.toList ≤ d := by
  have key : cp ms (d : Int) ≠ [] → ∃ e, lea ms 1 5 = some e ∧ e ≤ d := by
    intro h
    cases hl : lea ms 1 5 with
    | none => exact absurd (lea_none ms 5 1 hl d h1 (by omega)) h
    | some e =>
      refine ⟨e, rfl, ?_⟩
      obtain ⟨q1, q2, q3, q4⟩ := lea_some ms 5 1 e hl
      by_cases hd : e ≤ d
      · exact hd
      · exact absurd (q4 d h1 (by omega)) h
  refine ⟨⟨key, fun ⟨e, he, hed⟩ => ?_⟩, fun p hp => ?_⟩
  · obtain ⟨q1, q2, q3, q4⟩ := lea_some ms 5 1 e he
    exact cp_mono ms e d (by omega) q3
  · obtain ⟨e, he, hed⟩ := key (List.ne_nil_of_mem hp)
    obtain ⟨q1, q2, q3, q4⟩ := lea_some ms 5 1 e he
    obtain ⟨_, r2, a, b, r3, r4, r5, r6, r7⟩ := cpI_mem _ ms 0 p hp
    rw [Nat.sub_zero] at r3 r4
    have l1 := (List.getElem?_eq_some_iff.1 r3).1
    have l2 := (List.getElem?_eq_some_iff.1 r4).1
    refine ⟨e, a, b, he, l1, l2, r3, r4, r5, ?_, by omega⟩
    by_cases hz : e ≤ ap a.data.toList b.data.toList
    · exact hz
    · exfalso
      have hm := r7 ((ap a.data.toList b.data.toList : Nat) : Int) (by omega)
      by_cases h0 : ap a.data.toList b.data.toList = 0
      · have hab : a = b := by
          apply ByteArray.ext
          apply Array.ext'
          exact ap_zero _ _ (by simpa using r5) h0
        subst hab
        have e1 := (List.getElem?_eq_some_iff.1 r3).2
        have e2 := (List.getElem?_eq_some_iff.1 r4).2
        exact (List.pairwise_iff_getElem.1 hnd) p.1 p.2 l1 l2 r2 (by rw [e1, e2])
      · have := q4 (ap a.data.toList b.data.toList) (by omega) (by omega)
        rw [show cp ms _ = cpI _ ms 0 from rfl] at this
        rw [this] at hm
        simp at hm
end Go.Proofs.YtgecnbafmlecjaaGreatDoor.Ev.Mw
