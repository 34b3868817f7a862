/- FnExactPlanInOrder: the law, run by the evaluator, answers true. -/
import Derived.Test.YtlmjoimjdpfamaaEvRelY
import Derived.Test.YtlmjoimjdpfamaaEvMarkH
set_option linter.unusedVariables false
set_option linter.unusedSimpArgs false
namespace Go.Proofs.Ytlmjoimjdpfamaa.Ev
theorem free_ints (l : List Int) : okL (free 5) (l.map i64) = true := okL_map (fun _ => rfl) l
theorem free_jobs (l : List J) : okL (free 5) (l.map jb) = true := okL_map (fun _ => rfl) l
theorem free_hops (l : List Hh) : okL (free 5) (l.map hp) = true := okL_map (fun _ => rfl) l
theorem FnExactPlanInOrder (x0 : Int) (b0 : (Lit.int .i64 x0).wf = true) (x1 : List (Int × Int × Int × Int)) (b1 : x1.length ≤ maxLen ∧ ∀ y ∈ x1, ((Lit.int .i64 y.1).wf = true) ∧ ((Lit.int .i64 y.2.1).wf = true) ∧ ((Lit.int .i64 y.2.2.1).wf = true) ∧ (Lit.int .i64 y.2.2.2).wf = true) (x2 : List Int) (b2 : x2.length ≤ maxLen ∧ ∀ y ∈ x2, (Lit.int .i64 y).wf = true) : ev E0 5 [(i64 x0), (AV.lst 4 (x1.map (fun q : Int × Int × Int × Int => (AV.agg [(i64 q.1), (i64 q.2.1), (i64 q.2.2.1), (i64 q.2.2.2)])))), (AV.lst 1 (x2.map i64))] [] = some (bl true, []) := by
  obtain ⟨hm1, _⟩ := b1
  obtain ⟨hm2, _⟩ := b2
  unfold maxLen at hm1 hm2
  show ev E0 5 [i64 x0, .lst 4 (x1.map jb), .lst 1 (x2.map i64)] [] = _
  rw [e5]
  unfold runF
  by_cases hbig : 1048576 < (x2.length : Int)
  · simp -implicitDefEqProofs [L5, hbig]
  · obtain ⟨r, e, h⟩ := sz_jobs x1 (by omega) 1048576 (by omega) (by omega)
    by_cases hr : r < 0
    · simp -implicitDefEqProofs [L5, hbig, e, hr]
    · obtain ⟨h1, h2, h3⟩ := h.resolve_left hr
      have q1 := copy_jobs x1 (by omega)
      have q2 := Mk.copy_ints x2 (by omega)
      have q3 := eq_jobs x1 (by omega)
      have q4 := Mk.eq_ints x2 (by omega)
      have p1 := pio_s x0 x1 x2 (by omega)
      have p2 := pio_i x0 x1 x2 (by omega)
      have hpl := pioV_len x0 x1 x2
      have t1 : List.take x1.length (x1.map jb) = x1.map jb := List.take_of_length_le (by simp)
      have t2 : List.take x2.length (x2.map i64) = x2.map i64 := List.take_of_length_le (by simp)
      have hl1 : x1.length ≤ 1099511627776 := by omega
      have hl2 : x2.length ≤ 1099511627776 := by omega
      have z1 : (0 : Int) ≤ 1 + 4 * (x1.length : Int) := by omega
      have z2 : 1 + 4 * (x1.length : Int) ≤ 1099511627776 := by omega
      have z3 : ¬ 1 + 4 * (x1.length : Int) + (x2.length : Int) < 0 := by omega
      unfold i64s at q4
      cases hv : pioT x0 x1 x2 with
      | false =>
        have hq : pioV x0 x1 x2 = [] := by unfold pioV; rw [hv]; rfl
        rw [hv, hq] at p1
        rw [hv] at p2
        unfold rh at p1
        simp only [List.map_nil, List.length_nil] at p1
        simp only [Bool.false_eq_true, if_false] at p2
        simp -implicitDefEqProofs [free_ints, free_jobs, L5, hbig, e, hr, p1, p2, q1, q2, q3, q4, t1, t2, hl1, hl2, z1, z2, z3, Mk.eq_hnil, Mk.mark_jobs1, Mk.mark_intsc, Mk.mark_hnil1, Mk.held_hnil, -Int.natCast_add]
      | true =>
        rw [hv] at p1
        rw [hv] at p2
        simp only [if_true] at p2
        generalize pioV x0 x1 x2 = Q at *
        have q5 := eq_hops Q (by omega)
        have t3 : List.take Q.length (Q.map hp) = Q.map hp := List.take_of_length_le (by simp)
        have t4 : List.take Q.length ((Mk.seq_hops 1 Q.length).map hp) = (Mk.seq_hops 1 Q.length).map hp := List.take_of_length_le (by simp [Mk.seq_hops_len])
        have z4 : Q.length ≤ 1099511627776 := by omega
        have z5 : Q.length ≤ 1073741824 := by omega
        have z6 : ¬ 1 + 3 * (Q.length : Int) < 0 := by omega
        unfold rh at p1 p2
        simp -implicitDefEqProofs [free_ints, free_jobs, free_hops, L5, hbig, e, hr, p1, p2, q1, q2, q3, q4, q5, t1, t2, t3, t4, hl1, hl2, z1, z2, z3, z4, z5, z6, Mk.mark_jobs1, Mk.mark_intsc, Mk.mark_hops1, Mk.held_hops1, Mk.seq_hops_len, -Int.natCast_add]
end Go.Proofs.Ytlmjoimjdpfamaa.Ev
