/- Plans: the program's test, walked. -/
import Derived.Test.YtlmjoimjdpfamaaEvRelD
set_option linter.unusedVariables false
set_option linter.unusedSimpArgs false
namespace Go.Proofs.Ytlmjoimjdpfamaa.Ev
def i64s (l : List Int) : List AV := l.map i64
theorem i64s_len (l : List Int) : (i64s l).length = l.length := by simp [i64s]
theorem walk_step {js : List J} (hj : ∀ j ∈ js, JB j) {p : List Hh} {ats rds : List Int} {cs : List Nat} {h : Hh} (hW : Walk js ats rds cs) (ho : okHop js p ats rds h = true) : HB js h ∧ (∃ cs', Walk js (ats.set h.1.toNat (nxt js h)) (rds.set h.1.toNat (h.2.2 + (jat js h.1).2.2.1)) cs') ∧ h.2.1 = ats.getD h.1.toNat 0 ∧ h.2.2 ≤ 9999 := by
  unfold okHop btw at ho
  simp only [Bool.and_eq_true, Bool.not_eq_true', Bool.or_eq_false_iff, decide_eq_true_eq, decide_eq_false_iff_not] at ho
  obtain ⟨⟨⟨h1, h2⟩, ⟨h3, h4⟩, h5⟩, ⟨h6, h7, h8⟩, h9⟩ := ho
  have h7' : h.2.1 = ats.getD h.1.toNat 0 := by
    cases hd : decide (h.2.1 = ats.getD h.1.toNat 0) with
    | true => exact of_decide_eq_true hd
    | false => rw [hd] at h7; cases h7
  obtain ⟨a, b, c⟩ := h
  obtain ⟨k, rfl⟩ : ∃ k : Nat, a = k := ⟨a.toNat, by simp at h1; omega⟩
  dsimp only at *
  have hk : k < js.length := by omega
  have hJ := hj _ (List.getElem_mem hk)
  have hjat := jat_get hk
  rw [Int.toNat_natCast] at *
  rw [hjat] at h6
  obtain ⟨a1, a2, a3⟩ := hW.at_ k hk
  have hc : ((cs.getD k 0 : Nat) : Int) < many js[k] := by
    have := at_to hJ (cs.getD k 0)
    rw [← a1] at this
    rcases Int.lt_or_lt_of_ne (fun e => h6 (this.2 e)) with hl | hl <;> omega
  have f0 := hJ.f0
  have f1 := hJ.f1
  have t0 := hJ.t0
  have t1 := hJ.t1
  have s0 := hJ.s0
  have hto := hJ.to_eq
  have hwc := JB.way_cases (j := js[k])
  have hb : 0 ≤ b ∧ b ≤ 5 := by
    rw [h7', a1]
    rcases hwc with w | w <;> rw [w] at hto ⊢ <;> omega
  refine ⟨⟨by dsimp only; omega, by dsimp only; omega, by dsimp only; omega, by dsimp only; omega, by dsimp only; omega, by dsimp only; omega⟩, ⟨cs.set k (cs.getD k 0 + 1), by simp [hW.la], by simp [hW.lr], by simp [hW.lc], fun i hi => ?_⟩, h7', h4⟩
  rw [hjat]
  rw [getD_set _ _ _ _ _ (by rw [hW.la]; exact hk), getD_set _ _ _ _ _ (by rw [hW.lc]; exact hk), getD_set _ _ _ _ _ (by rw [hW.lr]; exact hk)]
  by_cases hik : i = k
  · subst hik
    simp only [if_true]
    refine ⟨?_, by omega, by omega⟩
    unfold nxt
    simp only [hjat, h7', a1]
    rcases hwc with w | w <;> rw [w] <;> push_cast <;> (try omega)
  · simp only [if_neg hik]
    exact hW.at_ i hi
def ri (l : List Int) : Option Blk := some ⟨3, 1, 1, false, i64s l⟩
end Go.Proofs.Ytlmjoimjdpfamaa.Ev
