/- FnExactBestOrder: the law, run by the evaluator, answers true. -/
import Derived.Test.YtlmjoimjdpfamaaEvRelO7
import Derived.Test.YtlmjoimjdpfamaaEvMarkH
set_option linter.unusedVariables false
set_option linter.unusedSimpArgs false
namespace Go.Proofs.Ytlmjoimjdpfamaa.Ev
theorem free_ints2 (l : List Int) : okL (free 5) (l.map i64) = true := okL_map (fun _ => rfl) l
theorem free_jobs2 (l : List J) : okL (free 5) (l.map jb) = true := okL_map (fun _ => rfl) l
theorem iN_map (l : List Nat) : l.map iN = (l.map fun k : Nat => (k : Int)).map i64 := by rw [List.map_map]; rfl
theorem boV_len (n : Int) (js : List J) (h : okJobs n js = true) : (boV n js).1.length = js.length := by
  obtain ⟨hl, hj⟩ := okJobs_jb h
  have hok := perms_ok js.length
  have key : ∀ (t : List (List Nat)) (b : List Nat) (e : Int), b.length = js.length → (∀ q ∈ t, q.length = js.length) → (t.foldl (stepB js) (b, e)).1.length = js.length := by
    intro t
    induction t with
    | nil => intro b e hb _; exact hb
    | cons q t ih =>
      intro b e hb ht
      rw [List.foldl_cons]
      have h2 : stepB js (b, e) q = if endO js q < e then (q, endO js q) else (b, e) := rfl
      rw [h2]
      by_cases hc : endO js q < e
      · rw [if_pos hc]; exact ih q _ (ht q (List.mem_cons_self ..)) fun r hr => ht r (List.mem_cons_of_mem _ hr)
      · rw [if_neg hc]; exact ih b e hb fun r hr => ht r (List.mem_cons_of_mem _ hr)
  unfold boV
  cases hP : permsS js.length (List.range js.length) with
  | nil => exact absurd hP (perms_ne hl)
  | cons r t =>
    rw [hP] at hok
    exact key t r _ (hok r (List.mem_cons_self ..)).1 fun q h => (hok q (List.mem_cons_of_mem _ h)).1
theorem boV_nil (n : Int) : boV n [] = ([], 0) := rfl
theorem FnExactBestOrder (x0 : Int) (b0 : (Lit.int .i64 x0).wf = true) (x1 : List (Int × Int × Int × Int)) (b1 : x1.length ≤ maxLen ∧ ∀ y ∈ x1, ((Lit.int .i64 y.1).wf = true) ∧ ((Lit.int .i64 y.2.1).wf = true) ∧ ((Lit.int .i64 y.2.2.1).wf = true) ∧ (Lit.int .i64 y.2.2.2).wf = true) : ev E0 4 [(i64 x0), (AV.lst 4 (x1.map (fun q : Int × Int × Int × Int => (AV.agg [(i64 q.1), (i64 q.2.1), (i64 q.2.2.1), (i64 q.2.2.2)]))))] [] = some (bl true, []) := by
  obtain ⟨hm1, _⟩ := b1
  unfold maxLen at hm1
  show ev E0 4 [i64 x0, .lst 4 (x1.map jb)] [] = _
  rw [e4]
  unfold runF
  obtain ⟨r, e, h⟩ := sz_jobs x1 (by omega) 1048576 (by omega) (by omega)
  by_cases hr : r < 0
  · simp -implicitDefEqProofs [L4, e, hr]
  · obtain ⟨h1, h2, h3⟩ := h.resolve_left hr
    have q1 := copy_jobs x1 (by omega)
    have q3 := eq_jobs x1 (by omega)
    have t1 : List.take x1.length (x1.map jb) = x1.map jb := List.take_of_length_le (by simp)
    have hl1 : x1.length ≤ 1099511627776 := by omega
    have z1 : (0 : Int) ≤ 1 + 4 * (x1.length : Int) := by omega
    have z2 : 1 + 4 * (x1.length : Int) ≤ 1099511627776 := by omega
    have z3 : ¬ 1 + 4 * (x1.length : Int) < 0 := by omega
    cases hv : okJobs x0 x1 with
    | false =>
      have p1 := best_s_no x0 x1 hv
      have p2 := best_i_no x0 x1 hv
      unfold ri0 at p1
      simp -implicitDefEqProofs [free_ints2, free_jobs2, L4, e, hr, p1, p2, q1, q3, t1, hl1, z1, z2, z3, Mk.eq_nil, Mk.mark_jobs1, Mk.mark_nil1, Mk.held_nil, -Int.natCast_add]
    | true =>
      have p1 := best_s_yes x0 x1 hv
      have hln := boV_len x0 x1 hv
      by_cases hne : x1 = []
      · have p1' : ev E0 9 [i64 x0, .lst 4 (x1.map jb)] [] = some (.tup [.lst 1 [], i64 0, bl true], []) := by subst hne; exact p1
        have p2 : ev E0 11 [i64 x0, .lst 4 (x1.map jb)] [] = some (.tup [nilS, i64 0, bl true], []) := by subst hne; exact best_i_nil x0 hv
        simp -implicitDefEqProofs [free_ints2, free_jobs2, L4, e, hr, p1', p2, q1, q3, t1, hl1, z1, z2, z3, Mk.eq_nil, Mk.mark_jobs1, Mk.mark_nil1, Mk.held_nil, -Int.natCast_add]
      · have p2 := best_i_yes x0 x1 hv hne
        have hll : ((boV x0 x1).1.map fun k : Nat => (k : Int)).length = (boV x0 x1).1.length := List.length_map _
        unfold rwN at p1
        unfold rI at p2
        rw [iN_map] at p1 p2
        rw [← hll] at p2 hln
        have hjl := (okJobs_jb hv).1
        have hp0 := List.length_pos_iff.2 hne
        generalize (boV x0 x1).1.map (fun k : Nat => (k : Int)) = Q at *
        generalize (boV x0 x1).2 = EE at *
        have hQ : ¬ Q = [] := fun e => by rw [e] at hln; simp at hln; omega
        have q4 := Mk.eq_ints Q (by omega)
        have q5 := Mk.held_ints1 Q.length (by omega)
        have t2 : List.take Q.length (Q.map i64) = Q.map i64 := List.take_of_length_le (by simp)
        have z4 : Q.length ≤ 1099511627776 := by omega
        have z5 : ¬ 1 + (Q.length : Int) < 0 := by omega
        unfold i64s at q4 q5
        have t3 : List.take Q.length ((Mk.seqI 1 Q.length).map i64) = (Mk.seqI 1 Q.length).map i64 := List.take_of_length_le (by simp [Mk.seqI_len])
        simp -implicitDefEqProofs [free_ints2, free_jobs2, L4, e, hr, p1, p2, q1, q3, q4, q5, t1, t2, t3, hl1, z1, z2, z3, z4, z5, hQ, Mk.mark_jobs1, Mk.mark_intsc, Mk.seqI_len, -Int.natCast_add]
end Go.Proofs.Ytlmjoimjdpfamaa.Ev
