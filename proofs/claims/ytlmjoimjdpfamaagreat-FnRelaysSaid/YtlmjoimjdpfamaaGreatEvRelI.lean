/- Plans: their text, whole; copies and sizes of jobs and hops. -/
import Derived.Test.YtlmjoimjdpfamaaGreatEvRelH
set_option linter.unusedVariables false
set_option linter.unusedSimpArgs false
namespace Go.Proofs.YtlmjoimjdpfamaaGreat.Ev
theorem textL_size : ∀ (t : List ByteArray) (i : Nat) (s : ByteArray), (∀ x ∈ t, x.size ≤ 82) → (textL i s t).size ≤ s.size + 100 * t.length
  | [], i, s, _ => by simp [textL]
  | m :: t, i, s, h => by
    have h1 := textL_size t (i + 1) (stepT i s m) (fun x hx => h x (by simp [hx]))
    have h2 : (stepT i s m).size ≤ s.size + 83 := by
      have o1 : (⟨#[32]⟩ : ByteArray).size = 1 := rfl
      have := h m (by simp)
      unfold stepT
      split <;> simp only [ByteArray.size_append, o1] <;> omega
    rw [textL, List.length_cons]
    omega
theorem plan_tb {js : List J} (hj : ∀ j ∈ js, JB j) {pl : List Hh} (h : planS js pl = true) : ∀ h ∈ pl, TB js h := by
  obtain ⟨h1, h2, _⟩ := (planS_iff js pl).1 h
  have hb := runs_hb hj h1 h2
  intro x hx
  have hB := hb x hx
  refine ⟨hB, ?_⟩
  have hk : x.1.toNat < js.length := by
    have q1 := hB.1
    have q2 := hB.2.1
    omega
  obtain ⟨q, e1, _⟩ := h2 _ hk
  have hJ := hj _ (List.getElem_mem hk)
  have := runK_hops hJ pl _ _ q e1 hJ.b0 x hx (by have q1 := hB.1; omega)
  exact ⟨this.1, this.2.1⟩
def planT (n : Int) (js : List J) (pl : List Hh) : Bool := okJobs n js && planS js pl
def planTx (n : Int) (js : List J) (pl : List Hh) : ByteArray := if planT n js pl = true then textL 0 ⟨#[]⟩ (pl.map (word js)) else ⟨#[]⟩
theorem okJobs_jb {n : Int} {js : List J} (h : okJobs n js = true) : js.length ≤ 5 ∧ ∀ j ∈ js, JB j := by
  unfold okJobs at h
  rw [Bool.and_eq_true, Bool.and_eq_true, decide_eq_true_eq, List.all_eq_true] at h
  exact ⟨h.2.1, fun j hj => okJob_jb h.1 (h.2.2 j hj)⟩
theorem arePlanned_i (n : Int) (js : List J) (pl : List Hh) (hpl : pl.length ≤ 1099511627776) : ev E0 49 [i64 n, .lst 4 (js.map jb), .lst 3 (pl.map hp)] [] = some (bl (planT n js pl), []) := by
  rw [e49]
  unfold runF planT
  have hg := areJobs_i n js
  cases h1 : okJobs n js with
  | false =>
    rw [h1] at hg
    simp -implicitDefEqProofs [L49, hg]
  | true =>
    rw [h1] at hg
    obtain ⟨hl, hj⟩ := okJobs_jb h1
    have hp := isPlan_i js hj hl pl hpl
    rw [plan_eq hj] at hp
    simp -implicitDefEqProofs [L49, hg, hp]
end Go.Proofs.YtlmjoimjdpfamaaGreat.Ev
