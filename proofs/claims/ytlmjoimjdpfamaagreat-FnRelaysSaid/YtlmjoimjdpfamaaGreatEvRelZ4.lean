/- Streams of jobs: when they end. -/
import Derived.Test.YtlmjoimjdpfamaaGreatEvRelZ3
import Derived.Test.YtlmjoimjdpfamaaGreatEvRelX
set_option linter.unusedVariables false
set_option linter.unusedSimpArgs false
namespace Go.Proofs.YtlmjoimjdpfamaaGreat.Ev
/-- Jobs whose places are those of a stream: N steps, one after another. -/
def Stm (js : List J) (N : Nat) (s : Int) : Prop := ∀ k, k < js.length → jat js (k : Nat) = ((0 : Int), (N : Int), s, (0 : Int))
def Str (W N : Nat) (s : Int) (i j : Nat) (pl : List Hh) : Prop := ∀ x : Hh, x ∈ pl ↔ ∃ a b : Nat, ((a < i ∧ b < N) ∨ (a = i ∧ b < j)) ∧ x = ((a : Int), (b : Int), ((W * a + b : Nat) : Int) * s)
theorem way_st {N : Nat} (hN : 1 ≤ N) (s : Int) : way ((0 : Int), (N : Int), s, (0 : Int)) = 1 := by unfold way; rw [if_pos (by dsimp only; omega)]
theorem many_st {N : Nat} (hN : 1 ≤ N) (s : Int) : many ((0 : Int), (N : Int), s, (0 : Int)) = N := by unfold many; rw [if_pos (by dsimp only; omega)]; dsimp only; omega
theorem clash_st {js : List J} {N : Nat} {s : Int} (hN : 1 ≤ N) (h : Stm js N s) {a i : Nat} (ha : a < js.length) (hi : i < js.length) (b j : Nat) (p c : Int) : clash js ((a : Int), (b : Int), p) ((i : Int), (j : Int), c) = (!(decide (p + s ≤ c) || decide (c + s ≤ p)) && decide (b = j ∨ b = j + 1 ∨ b + 1 = j)) := by
  unfold clash nxt
  dsimp only
  rw [h a ha, h i hi, way_st hN]
  dsimp only
  congr 1
  rw [Bool.eq_iff_iff]
  simp only [Bool.or_eq_true, decide_eq_true_eq]
  omega
theorem mul_le {s : Int} (hs : 1 ≤ s) {u v : Nat} (h : u ≤ v) : (u : Int) * s ≤ (v : Int) * s := Int.mul_le_mul_of_nonneg_right (by omega) (by omega)
theorem lf_st {js : List J} {W N : Nat} {s : Int} (hW : (W = 2 ∧ 2 ≤ N) ∨ (W = 1 ∧ N = 1)) (hs : 1 ≤ s) (hs2 : s ≤ 60) (h : Stm js N s) (hl : js.length ≤ 5) {i : Nat} (hi : i < js.length) {j : Nat} (hj : j < N) (hN5 : N ≤ 5) {pl : List Hh} (hP : Str W N s i j pl) : lfree js pl i j (if j = 0 then 0 else ((W * i + j : Nat) : Int) * s) = ((W * i + j : Nat) : Int) * s := by
  have hN : 1 ≤ N := by omega
  have hWi : W * i ≤ 8 := by rcases hW with ⟨rfl, _⟩ | ⟨rfl, _⟩ <;> omega
  have hup : ((W * i + j : Nat) : Int) * s ≤ 13 * 60 := by
    have h1 : ((W * i + j : Nat) : Int) * s ≤ (13 : Int) * s := Int.mul_le_mul_of_nonneg_right (by omega) (by omega)
    omega
  have hnn : 0 ≤ ((W * i + j : Nat) : Int) * s := Int.mul_nonneg (by omega) (by omega)
  have hfree : blk js pl i j (((W * i + j : Nat) : Int) * s) = false := by
    unfold blk
    rw [List.any_eq_false]
    intro x hx
    obtain ⟨a, b, hab, rfl⟩ := (hP x).1 hx
    have ha : a < js.length := by omega
    rw [clash_st hN h ha hi]
    by_cases hst : b = j ∨ b = j + 1 ∨ b + 1 = j
    · have hle : W * a + b + 1 ≤ W * i + j := by
        rcases hab with ⟨h1, h2⟩ | ⟨h1, h2⟩
        · rcases hW with ⟨rfl, _⟩ | ⟨rfl, _⟩ <;> omega
        · subst h1; omega
      have := mul_le hs hle
      have e : ((W * a + b + 1 : Nat) : Int) * s = ((W * a + b : Nat) : Int) * s + s := by rw [Int.natCast_add (W * a + b) 1, Int.add_mul, Int.natCast_one, Int.one_mul]
      rw [e] at this
      rw [decide_eq_true this]
      simp
    · rw [decide_eq_false hst]
      simp
  unfold lfree
  refine lf_eq 100000 _ _ ?_ ?_ ?_ hfree
  · split <;> omega
  · split <;> omega
  · intro c h1 h2
    by_cases hj0 : j = 0
    · subst hj0
      rw [if_pos rfl] at h1
      rw [Nat.add_zero] at h2
      have hdm := Int.emod_add_mul_ediv c s
      have hm0 := Int.emod_nonneg c (show s ≠ 0 by omega)
      have hm1 := Int.emod_lt_of_pos c (show 0 < s by omega)
      have ht0 : 0 ≤ c / s := Int.ediv_nonneg h1 (by omega)
      obtain ⟨t, ht⟩ := Int.eq_ofNat_of_zero_le ht0
      rw [ht] at hdm
      rw [Int.mul_comm] at hdm
      have htl : t < W * i := by
        rcases Nat.lt_or_ge t (W * i) with h | h
        · exact h
        · have := mul_le hs h
          omega
      have hab : ∃ a b : Nat, a < i ∧ b < N ∧ b ≤ 1 ∧ W * a + b = t := by
        rcases hW with ⟨rfl, h2⟩ | ⟨rfl, h2⟩
        · exact ⟨t / 2, t % 2, by omega, by omega, by omega, by omega⟩
        · exact ⟨t, 0, by omega, by omega, by omega, by omega⟩
      obtain ⟨a, b, a1, a2, a3, a4⟩ := hab
      unfold blk
      rw [List.any_eq_true]
      refine ⟨((a : Int), (b : Int), ((W * a + b : Nat) : Int) * s), (hP _).2 ⟨a, b, .inl ⟨a1, a2⟩, rfl⟩, ?_⟩
      rw [show ((0 : Nat) : Int) = ((0 : Nat) : Int) from rfl, clash_st hN h (by omega) hi, a4, decide_eq_false (by omega), decide_eq_false (by omega), decide_eq_true (by omega)]
      rfl
    · rw [if_neg hj0] at h1
      omega
theorem str_ins {W N : Nat} {s : Int} {i j : Nat} {pl : List Hh} (h : Str W N s i j pl) : Str W N s i (j + 1) (insH ((i : Int), (j : Int), ((W * i + j : Nat) : Int) * s) pl) := by
  intro x
  rw [(insH_perm _ pl).mem_iff, List.mem_cons, h x]
  constructor
  · rintro (rfl | ⟨a, b, hab, rfl⟩)
    · exact ⟨i, j, .inr ⟨rfl, by omega⟩, rfl⟩
    · exact ⟨a, b, by omega, rfl⟩
  · rintro ⟨a, b, hab, rfl⟩
    by_cases e : a = i ∧ b = j
    · obtain ⟨rfl, rfl⟩ := e
      exact .inl rfl
    · exact .inr ⟨a, b, by omega, rfl⟩
theorem hops_st {js : List J} {W N : Nat} {s : Int} (hW : (W = 2 ∧ 2 ≤ N) ∨ (W = 1 ∧ N = 1)) (hs : 1 ≤ s) (hs2 : s ≤ 60) (h : Stm js N s) (hl : js.length ≤ 5) (hN5 : N ≤ 5) {i : Nat} (hi : i < js.length) : ∀ (c j : Nat) (pl : List Hh), j + c = N → Str W N s i j pl → Str W N s i N (hopsF js i c j (if j = 0 then 0 else ((W * i + j : Nat) : Int) * s) pl)
  | 0, j, pl, e, hP => by
    have : j = N := by omega
    subst this
    exact hP
  | c + 1, j, pl, e, hP => by
    have hlf := lf_st hW hs hs2 h hl hi (by omega) hN5 hP
    have ih := hops_st hW hs hs2 h hl hN5 hi c (j + 1) _ (by omega) (str_ins hP)
    rw [hopsF, hlf, h i hi, way_st (by omega)]
    dsimp only
    rw [if_neg (by omega)] at ih
    have e1 : ((W * i + (j + 1) : Nat) : Int) * s = ((W * i + j : Nat) : Int) * s + s := by rw [← Nat.add_assoc, Int.natCast_add (W * i + j) 1, Int.add_mul, Int.natCast_one, Int.one_mul]
    rw [e1, Int.natCast_add, Int.natCast_one] at ih
    exact ih
theorem plan_st {js : List J} {W N : Nat} {s : Int} (hW : (W = 2 ∧ 2 ≤ N) ∨ (W = 1 ∧ N = 1)) (hs : 1 ≤ s) (hs2 : s ≤ 60) (h : Stm js N s) (hl : js.length ≤ 5) (hN5 : N ≤ 5) : ∀ (c i : Nat) (pl : List Hh), i + c = js.length → Str W N s i 0 pl → Str W N s js.length 0 (planF js (List.range' i c) pl)
  | 0, i, pl, e, hP => by
    have : i = js.length := by omega
    subst this
    exact hP
  | c + 1, i, pl, e, hP => by
    have hi : i < js.length := by omega
    rw [List.range'_succ, planF, h i hi, many_st (by omega)]
    dsimp only
    have hh := hops_st hW hs hs2 h hl hN5 hi N 0 pl (by omega) hP
    rw [if_pos rfl] at hh
    refine plan_st hW hs hs2 h hl hN5 c (i + 1) _ (by omega) ?_
    intro x
    have := hh x
    rw [Int.natCast_zero] at this
    rw [Int.toNat_natCast, this]
    constructor
    · rintro ⟨a, b, hab, hx⟩
      refine ⟨a, b, ?_, hx⟩
      clear hx
      omega
    · rintro ⟨a, b, hab, hx⟩
      refine ⟨a, b, ?_, hx⟩
      clear hx
      omega
theorem endF_in (js : List J) : ∀ (pl : List Hh) (e : Int), endF js pl e = e ∨ ∃ h ∈ pl, endF js pl e = endP js h
  | [], e => .inl rfl
  | x :: t, e => by
    rw [endF]
    rcases endF_in js t (if e < endP js x then endP js x else e) with h | ⟨y, hy, h⟩
    · rw [h]
      by_cases hc : e < endP js x
      · rw [if_pos hc]; exact .inr ⟨x, List.mem_cons_self .., rfl⟩
      · rw [if_neg hc]; exact .inl rfl
    · exact .inr ⟨y, List.mem_cons_of_mem _ hy, h⟩
/-- When a stream ends. -/
theorem stream_val (n s k : Int) (h : okStream n s k = true) : streamV n s k = (n - 1) * s + (if n = 2 then s * (k - 1) else 2 * s * (k - 1)) := by
  unfold streamV
  rw [if_pos h]
  unfold okStream btw at h
  simp only [Bool.and_eq_true, decide_eq_true_eq] at h
  obtain ⟨⟨⟨n1, n2⟩, s1, s2⟩, k1, k2⟩ := h
  obtain ⟨K, rfl⟩ := Int.eq_ofNat_of_zero_le (show 0 ≤ k by omega)
  obtain ⟨N, hN⟩ := Int.eq_ofNat_of_zero_le (show 0 ≤ n - 1 by omega)
  rw [Int.toNat_natCast]
  have hjl : (List.replicate K (sj n s)).length = K := List.length_replicate
  have hst : Stm (List.replicate K (sj n s)) N s := by
    intro q hq
    rw [jat_get hq, List.getElem_replicate]
    unfold sj
    rw [hN]
  obtain ⟨W, hW⟩ : ∃ W, (W = 2 ∧ 2 ≤ N) ∨ (W = 1 ∧ N = 1) := by
    by_cases h2 : N = 1
    · exact ⟨1, .inr ⟨rfl, h2⟩⟩
    · exact ⟨2, .inl ⟨rfl, by omega⟩⟩
  have hP := plan_st hW s1 s2 hst (by omega) (by omega) K 0 [] (by omega) (fun x => ⟨(fun h => by cases h), (fun ⟨a, b, hab, _⟩ => by omega)⟩)
  rw [← List.range_eq_range', hjl] at hP
  generalize planF (List.replicate K (sj n s)) (List.range K) [] = P at *
  obtain ⟨e1, e2⟩ := endF_all (List.replicate K (sj n s)) P 0
  have hval : ∀ a b : Nat, a < K → endP (List.replicate K (sj n s)) ((a : Int), (b : Int), ((W * a + b : Nat) : Int) * s) = ((W * a + b + 1 : Nat) : Int) * s := by
    intro a b ha
    unfold endP
    dsimp only
    rw [hst a (by omega), Int.natCast_add (W * a + b) 1, Int.add_mul, Int.natCast_one, Int.one_mul]
  have hlast := e2 _ ((hP _).2 ⟨K - 1, N - 1, .inl ⟨by omega, by omega⟩, rfl⟩)
  rw [hval _ _ (by omega)] at hlast
  have hge : endF (List.replicate K (sj n s)) P 0 ≤ ((W * (K - 1) + (N - 1) + 1 : Nat) : Int) * s := by
    rcases endF_in (List.replicate K (sj n s)) P 0 with h | ⟨x, hx, h⟩
    · rw [h]; exact Int.mul_nonneg (by omega) (by omega)
    · obtain ⟨a, b, hab, rfl⟩ := (hP x).1 hx
      rw [h, hval _ _ (by omega)]
      refine mul_le s1 ?_
      have : W * a ≤ W * (K - 1) := Nat.mul_le_mul_left _ (by omega)
      omega
  have heq : endF (List.replicate K (sj n s)) P 0 = ((W * (K - 1) + (N - 1) + 1 : Nat) : Int) * s := by omega
  rw [heq]
  obtain ⟨M, rfl⟩ : ∃ M, K = M + 1 := ⟨K - 1, by omega⟩
  have eN : n = (N : Int) + 1 := by omega
  subst eN
  rcases hW with ⟨rfl, h2⟩ | ⟨rfl, h2⟩
  · rw [if_neg (by omega)]
    have e3 : ((2 * (M + 1 - 1) + (N - 1) + 1 : Nat) : Int) = 2 * (M : Int) + N := by omega
    rw [e3, Int.add_mul]
    have e4 : ((M + 1 : Nat) : Int) - 1 = M := by omega
    have e5 : (N : Int) + 1 - 1 = N := by omega
    rw [e4, e5, Int.mul_assoc 2 s, Int.mul_comm s, Int.mul_assoc]
    omega
  · subst h2
    rw [if_pos (by omega)]
    have e3 : ((1 * (M + 1 - 1) + (1 - 1) + 1 : Nat) : Int) = (M : Int) + 1 := by omega
    rw [e3, Int.add_mul]
    have e4 : ((M + 1 : Nat) : Int) - 1 = M := by omega
    rw [e4, Int.mul_comm s]
    omega
end Go.Proofs.YtlmjoimjdpfamaaGreat.Ev
