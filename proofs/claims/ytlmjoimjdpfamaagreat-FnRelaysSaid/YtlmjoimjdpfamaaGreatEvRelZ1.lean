/- A plan made in order is a plan. -/
import Derived.Test.YtlmjoimjdpfamaaGreatEvRelW
set_option linter.unusedVariables false
set_option linter.unusedSimpArgs false
namespace Go.Proofs.YtlmjoimjdpfamaaGreat.Ev
theorem clash_symm (js : List J) (a b : Hh) : clash js a b = clash js b a := by
  unfold clash
  generalize nxt js a = x
  generalize nxt js b = y
  generalize (jat js a.1).2.2.1 = s
  generalize (jat js b.1).2.2.1 = t
  rw [Bool.eq_iff_iff]
  simp only [Bool.and_eq_true, Bool.not_eq_true', Bool.or_eq_false_iff, Bool.or_eq_true, decide_eq_true_eq, decide_eq_false_iff_not]
  omega
def NC (js : List J) (l : List Hh) : Prop := l.Pairwise fun x y => clash js x y = false
theorem nc_snoc {js : List J} {pl : List Hh} (h : NC js pl) {k f b : Int} (hb : blk js pl k f b = false) : NC js (pl ++ [(k, f, b)]) := by
  unfold NC
  rw [List.pairwise_append]
  refine ⟨h, List.pairwise_singleton _ _, fun x hx y hy => ?_⟩
  rw [List.mem_singleton] at hy
  subst hy
  unfold blk at hb
  rw [List.any_eq_false] at hb
  simpa using hb x hx
theorem runK_skip {j : J} {k : Nat} : ∀ (l : List Hh) (r : Int) (c : Nat), (∀ h ∈ l, h.1 ≠ (k : Int)) → runK j k l r c = some (r, c)
  | [], r, c, _ => rfl
  | h :: t, r, c, hs => by
    rw [runK, if_neg (hs h (List.mem_cons_self ..))]
    exact runK_skip t r c fun x hx => hs x (List.mem_cons_of_mem _ hx)
theorem runK_filter {j : J} {k : Nat} : ∀ (l : List Hh) (r : Int) (c : Nat), runK j k (l.filter fun h => decide (h.1 = (k : Int))) r c = runK j k l r c
  | [], r, c => rfl
  | h :: t, r, c => by
    by_cases hk : h.1 = (k : Int)
    · rw [List.filter_cons_of_pos (by simpa using hk), runK, runK, if_pos hk, if_pos hk]
      cases stepK j h r c with
      | none => rfl
      | some q => exact runK_filter t q.1 q.2
    · rw [List.filter_cons_of_neg (by simpa using hk), runK, if_neg hk]
      exact runK_filter t r c
/-- The hops that are put behind those that are there. -/
def newA (js : List J) (k : Nat) : Nat → Int → Int → List Hh → List Hh
  | 0, _, _, _ => []
  | c + 1, f, r, pl => ((k : Int), f, lfree js pl k f r) :: newA js k c (f + way (jat js k)) (lfree js pl k f r + (jat js k).2.2.1) (pl ++ [((k : Int), f, lfree js pl k f r)])
theorem hopsA_new (js : List J) (k : Nat) : ∀ (c : Nat) (f r : Int) (pl : List Hh), hopsA js k c f r pl = pl ++ newA js k c f r pl
  | 0, f, r, pl => by rw [hopsA, newA, List.append_nil]
  | c + 1, f, r, pl => by rw [hopsA, newA, hopsA_new js k c, List.append_assoc]; rfl
theorem newA_ok (js : List J) (hj : ∀ j ∈ js, JB j) (k : Nat) (hk : k < js.length) : ∀ (c i : Nat) (r : Int) (pl : List Hh), (i : Int) + c = many js[k] → PB js pl → pl.length + c ≤ 100 → 0 ≤ r → r ≤ 1000 + 60 * pl.length → NC js pl →
    NC js (pl ++ newA js k c (js[k].1 + way js[k] * i) r pl) ∧ PB js (pl ++ newA js k c (js[k].1 + way js[k] * i) r pl) ∧ (newA js k c (js[k].1 + way js[k] * i) r pl).length = c ∧
    (newA js k c (js[k].1 + way js[k] * i) r pl).map (fun h => (h.1, h.2.1)) = (List.range' i c).map (fun d : Nat => ((k : Int), js[k].1 + way js[k] * (d : Int))) ∧
    ∃ q : Int, runK js[k] k (newA js k c (js[k].1 + way js[k] * i) r pl) r i = some (q, i + c) ∧ r + js[k].2.2.1 * c ≤ q ∧ (0 < c → ∃ h ∈ newA js k c (js[k].1 + way js[k] * i) r pl, endP js h = q) := by
  intro c
  have hJ := hj _ (List.getElem_mem hk)
  have f0 := hJ.f0
  have f1 := hJ.f1
  have t0 := hJ.t0
  have t1 := hJ.t1
  have s0 := hJ.s0
  have s1 := hJ.s1
  have hmp := hJ.many_pos
  have hjat := jat_get hk
  induction c with
  | zero =>
    intro i r pl h hP hl h0 h1 hN
    rw [newA, List.append_nil]
    exact ⟨hN, hP, rfl, rfl, r, rfl, by simp, fun h => absurd h (by omega)⟩
  | succ c ih =>
    intro i r pl h hP hl h0 h1 hN
    have hway : way js[k] = 1 ∨ way js[k] = -1 := by unfold way; split <;> simp
    have hmany : many js[k] ≤ 5 := by unfold many; split <;> omega
    have hf : js[k].1 + way js[k] * (i : Int) + way js[k] = js[k].1 + way js[k] * ((i + 1 : Nat) : Int) := by rw [Int.natCast_add, Int.mul_add, Int.natCast_one, Int.mul_one]; omega
    have hfb : -10 ≤ js[k].1 + way js[k] * (i : Int) ∧ js[k].1 + way js[k] * (i : Int) ≤ 20 := by
      rcases hway with w | w <;> rw [w] <;> omega
    obtain ⟨g1, g2, g3, g4, _⟩ := place_s js hj pl hP (by omega) k hk _ hfb.1 hfb.2 r h0 h1
    have hHB : HB js ((k : Int), js[k].1 + way js[k] * (i : Int), lfree js pl k (js[k].1 + way js[k] * (i : Int)) r) := ⟨by omega, by omega, hfb.1, hfb.2, by dsimp only; omega, by dsimp only; omega⟩
    have hPB := app_PB hP hHB (by unfold endH; dsimp only; rw [hjat]; omega)
    have hNC := nc_snoc hN g4
    rw [newA, hjat, hf]
    generalize hb : lfree js pl k (js[k].1 + way js[k] * (i : Int)) r = b at *
    obtain ⟨i1, i2, i3, i4, q, i5, i6, i7⟩ := ih (i + 1) (b + js[k].2.2.1) (pl ++ [((k : Int), js[k].1 + way js[k] * (i : Int), b)]) (by omega) hPB (by simp; omega) (by omega) (by simp; omega) hNC
    generalize newA js k c (js[k].1 + way js[k] * ((i + 1 : Nat) : Int)) (b + js[k].2.2.1) (pl ++ [((k : Int), js[k].1 + way js[k] * (i : Int), b)]) = L at *
    rw [List.append_assoc] at i1 i2
    refine ⟨i1, i2, by simp [i3], ?_, q, ?_, ?_, fun _ => ?_⟩
    · rw [List.map_cons, i4, List.range'_succ, List.map_cons]
    · rw [runK, if_pos rfl]
      have hst : stepK js[k] ((k : Int), js[k].1 + way js[k] * (i : Int), b) r i = some (b + js[k].2.2.1, i + 1) := by
        unfold stepK
        rw [if_pos ⟨by omega, rfl, g1, by dsimp only; omega⟩]
      rw [hst, Option.bind_some, i5]
      rw [show i + 1 + c = i + (c + 1) by omega]
    · rw [Int.natCast_add, Int.mul_add, Int.natCast_one, Int.mul_one]
      omega
    · by_cases hc : 0 < c
      · obtain ⟨x, hx, e⟩ := i7 hc
        exact ⟨x, List.mem_cons_of_mem _ hx, e⟩
      · have : c = 0 := by omega
        subst this
        have hL : L = [] := List.eq_nil_of_length_eq_zero i3
        subst hL
        simp only [runK, Option.some.injEq, Prod.mk.injEq] at i5
        refine ⟨_, List.mem_cons_self .., ?_⟩
        unfold endP
        dsimp only
        rw [hjat]
        exact i5.1
end Go.Proofs.YtlmjoimjdpfamaaGreat.Ev
