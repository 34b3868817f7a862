/- FnExactPlanText: the law, run by the evaluator, answers true. -/
import Derived.Test.YtlakldjpnpailaaDoorEvRelI
set_option linter.unusedVariables false
set_option linter.unusedSimpArgs false
namespace Go.Proofs.YtlakldjpnpailaaDoor.Ev
theorem FnExactPlanText (x0 : Int) (b0 : (Lit.int .i64 x0).wf = true) (x1 : List (Int × Int × Int × Int)) (b1 : x1.length ≤ maxLen ∧ ∀ y ∈ x1, ((Lit.int .i64 y.1).wf = true) ∧ ((Lit.int .i64 y.2.1).wf = true) ∧ ((Lit.int .i64 y.2.2.1).wf = true) ∧ (Lit.int .i64 y.2.2.2).wf = true) (x2 : List (Int × Int × Int)) (b2 : x2.length ≤ maxLen ∧ ∀ y ∈ x2, ((Lit.int .i64 y.1).wf = true) ∧ ((Lit.int .i64 y.2.1).wf = true) ∧ (Lit.int .i64 y.2.2).wf = true) : ev E0 3 [(i64 x0), (AV.lst 4 (x1.map (fun q : Int × Int × Int × Int => (AV.agg [(i64 q.1), (i64 q.2.1), (i64 q.2.2.1), (i64 q.2.2.2)])))), (AV.lst 3 (x2.map (fun q : Int × Int × Int => (AV.agg [(i64 q.1), (i64 q.2.1), (i64 q.2.2)]))))] [] = some (bl true, []) := by
  obtain ⟨hm1, _⟩ := b1
  obtain ⟨hm2, _⟩ := b2
  unfold maxLen at hm1 hm2
  show ev E0 3 [i64 x0, .lst 4 (x1.map jb), .lst 3 (x2.map hp)] [] = _
  obtain ⟨r, e, h⟩ := sz_jobs x1 (by omega) 1048576 (by omega) (by omega)
  rw [e3]
  unfold runF
  by_cases hr : r < 0
  · simp -implicitDefEqProofs [L3, e, hr]
  · obtain ⟨h1, h2, h3⟩ := h.resolve_left hr
    obtain ⟨r2, e2, h'⟩ := sz_hops x2 (by omega) r h1 (by omega)
    by_cases hr2 : r2 < 0
    · simp -implicitDefEqProofs [L3, e, hr, e2, hr2]
    · obtain ⟨h4, h5, h6⟩ := h'.resolve_left hr2
      have p1 := planText_s x0 x1 x2 (by omega)
      have p2 := planText_i x0 x1 x2 (by omega)
      have q1 := copy_jobs x1 (by omega)
      have q2 := copy_hops x2 (by omega)
      have q3 := eq_jobs x1 (by omega)
      have q4 := eq_hops x2 (by omega)
      have t1 : List.take x1.length (x1.map jb) = x1.map jb := List.take_of_length_le (by simp)
      have t2 : List.take x2.length (x2.map hp) = x2.map hp := List.take_of_length_le (by simp)
      simp -implicitDefEqProofs [L3, t1, t2, e, hr, e2, hr2, p1, p2, q1, q2, q3, q4]
end Go.Proofs.YtlakldjpnpailaaDoor.Ev
