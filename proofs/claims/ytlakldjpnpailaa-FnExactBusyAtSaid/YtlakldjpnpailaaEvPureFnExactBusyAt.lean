/- FnExactBusyAt: the law, run by the evaluator, answers true. -/
import Derived.Test.YtlakldjpnpailaaEvRelJ
import Derived.Test.YtlakldjpnpailaaEvMarkI
set_option linter.unusedVariables false
set_option linter.unusedSimpArgs false
namespace Go.Proofs.Ytlakldjpnpailaa.Ev
theorem free_ints (l : List Int) : okL (free 5) (i64s l) = true := free_i64 l
theorem free_jobs (l : List J) : okL (free 5) (l.map jb) = true := okL_map (fun _ => rfl) l
theorem free_hops (l : List Hh) : okL (free 5) (l.map hp) = true := okL_map (fun _ => rfl) l
theorem FnExactBusyAt (x0 : Int) (b0 : (Lit.int .i64 x0).wf = true) (x1 : List (Int × Int × Int × Int)) (b1 : x1.length ≤ maxLen ∧ ∀ y ∈ x1, ((Lit.int .i64 y.1).wf = true) ∧ ((Lit.int .i64 y.2.1).wf = true) ∧ ((Lit.int .i64 y.2.2.1).wf = true) ∧ (Lit.int .i64 y.2.2.2).wf = true) (x2 : List (Int × Int × Int)) (b2 : x2.length ≤ maxLen ∧ ∀ y ∈ x2, ((Lit.int .i64 y.1).wf = true) ∧ ((Lit.int .i64 y.2.1).wf = true) ∧ (Lit.int .i64 y.2.2).wf = true) (x3 : Int) (b3 : (Lit.int .i64 x3).wf = true) : ev E0 5 [(i64 x0), (AV.lst 4 (x1.map (fun q : Int × Int × Int × Int => (AV.agg [(i64 q.1), (i64 q.2.1), (i64 q.2.2.1), (i64 q.2.2.2)])))), (AV.lst 3 (x2.map (fun q : Int × Int × Int => (AV.agg [(i64 q.1), (i64 q.2.1), (i64 q.2.2)])))), (i64 x3)] [] = some (bl true, []) := by
  obtain ⟨hm1, _⟩ := b1
  obtain ⟨hm2, _⟩ := b2
  unfold maxLen at hm1 hm2
  show ev E0 5 [i64 x0, .lst 4 (x1.map jb), .lst 3 (x2.map hp), i64 x3] [] = _
  obtain ⟨r, e, h⟩ := sz_jobs x1 (by omega) 1048576 (by omega) (by omega)
  rw [e5]
  unfold runF
  by_cases hr : r < 0
  · simp -implicitDefEqProofs [L5, e, hr]
  · obtain ⟨h1, h2, h3⟩ := h.resolve_left hr
    obtain ⟨r2, e2, h'⟩ := sz_hops x2 (by omega) r h1 (by omega)
    by_cases hr2 : r2 < 0
    · simp -implicitDefEqProofs [L5, e, hr, e2, hr2]
    · obtain ⟨h4, h5, h6⟩ := h'.resolve_left hr2
      have q1 := copy_jobs x1 (by omega)
      have q2 := copy_hops x2 (by omega)
      have q3 := eq_jobs x1 (by omega)
      have q4 := eq_hops x2 (by omega)
      have t1 : List.take x1.length (x1.map jb) = x1.map jb := List.take_of_length_le (by simp)
      have t2 : List.take x2.length (x2.map hp) = x2.map hp := List.take_of_length_le (by simp)
      have hl1 : x1.length ≤ 1099511627776 := by omega
      have hl2 : x2.length ≤ 1099511627776 := by omega
      have z1 : (0 : Int) ≤ 1 + 4 * (x1.length : Int) := by omega
      have z2 : 1 + 4 * (x1.length : Int) ≤ 10995116277760 := by omega
      have z3 : ¬ 1 + 4 * (x1.length : Int) + 3 * (x2.length : Int) < 0 := by omega
      cases hv : busyT x0 x1 x2 x3 with
      | false =>
        obtain ⟨p1, p2⟩ := busyAt_no x0 x1 x2 x3 hl2 hv
        unfold ri i64s at p1
        simp only [List.map_nil] at p1
        simp -implicitDefEqProofs [free_ints, free_jobs, free_hops, L5, e, hr, e2, hr2, p1, p2, q1, q2, q3, q4, t1, t2, hl1, hl2, z1, z2, z3, Mk.eq_nil, Mk.mark_jobs1, Mk.mark_hops1, Mk.mark_nil1, Mk.held_nil, -Int.natCast_add]
      | true =>
        obtain ⟨l, hl, p1, p2⟩ := busyAt_yes x0 x1 x2 x3 hl2 hv
        have q5 := Mk.eq_ints l (by omega)
        have hb4 : l.length ≤ 1073741824 := by omega
        have hn2 : ¬ (1 + (l.length : Int)) < 0 := by omega
        unfold ri at p1 p2
        simp -implicitDefEqProofs [free_ints, free_jobs, free_hops, L5, e, hr, e2, hr2, p1, p2, q1, q2, q3, q4, q5, t1, t2, hl1, hl2, z1, z2, z3, hb4, hn2, Mk.mark_jobs1, Mk.mark_hops1, Mk.mark_ints1, Mk.held_ints1, i64s_len, Mk.seqI_len]
end Go.Proofs.Ytlakldjpnpailaa.Ev
