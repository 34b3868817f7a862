/- Plans: the reference's test, walked. -/
import Derived.Test.YtlmjoimjdpfamaaGreatEvRelC
set_option linter.unusedVariables false
set_option linter.unusedSimpArgs false
namespace Go.Proofs.YtlmjoimjdpfamaaGreat.Ev
theorem runK_hops {j : J} {k : Nat} (hJ : JB j) : ∀ (pl : List Hh) (r : Int) (c : Nat) (q : Int × Nat), runK j k pl r c = some q → 0 ≤ r → ∀ h ∈ pl, h.1 = (k : Int) → 0 ≤ h.2.1 ∧ h.2.1 ≤ 5 ∧ 0 ≤ h.2.2 ∧ h.2.2 ≤ 9999
  | [], r, c, q, _, _, h, hm, _ => by cases hm
  | h0 :: t, r, c, q, hr, h0r, h, hm, hk => by
    unfold runK at hr
    split at hr
    · cases hs : stepK j h0 r c with
      | none => rw [hs] at hr; cases hr
      | some s =>
        rw [hs] at hr
        have hr2 : runK j k t s.1 s.2 = some q := hr
        unfold stepK at hs
        split at hs
        · rename_i hc
          cases hs
          obtain ⟨c1, c2, c3, c4⟩ := hc
          have hto := hJ.to_eq
          have m1 := hJ.f0
          have m2 := hJ.f1
          have m3 := hJ.t0
          have m4 := hJ.t1
          have m5 := hJ.s0
          rcases List.mem_cons.1 hm with rfl | hm
          · rcases JB.way_cases (j := j) with w | w <;> rw [w] at c2 hto <;> refine ⟨by omega, by omega, by omega, c4⟩
          · exact runK_hops hJ t _ _ q hr2 (by dsimp only; omega) h hm hk
        · cases hs
    · rename_i hne
      rcases List.mem_cons.1 hm with rfl | hm
      · exact absurd hk hne
      · exact runK_hops hJ t r c q hr h0r h hm hk
/-- Hops that fit their jobs are bounded. -/
theorem runs_hb {js : List J} (hj : ∀ j ∈ js, JB j) {pl : List Hh} (h1 : ∀ h ∈ pl, inR js.length h = true) (h2 : ∀ i (hi : i < js.length), ∃ q, runK js[i] i pl js[i].2.2.2 0 = some q ∧ (q.2 : Int) = many js[i]) : ∀ h ∈ pl, HB js h := by
  intro h hm
  have hr := h1 h hm
  unfold inR at hr
  simp only [Bool.and_eq_true, decide_eq_true_eq] at hr
  obtain ⟨q, hq, _⟩ := h2 h.1.toNat (by omega)
  have hJ := hj _ (List.getElem_mem (show h.1.toNat < js.length by omega))
  obtain ⟨a1, a2, a3, a4⟩ := runK_hops hJ pl _ _ q hq hJ.b0 h hm (by omega)
  exact ⟨hr.1, hr.2, by omega, by omega, by omega, by omega⟩
theorem last_take {pl : List Hh} {i : Nat} (hi : i + 1 ≤ pl.length) : (pl.take (i + 1)).getLast? = some pl[i] := by
  rw [List.getLast?_eq_getElem?, List.length_take, Nat.min_eq_left hi, Nat.add_sub_cancel, List.getElem?_take]
  simp
end Go.Proofs.YtlmjoimjdpfamaaGreat.Ev
