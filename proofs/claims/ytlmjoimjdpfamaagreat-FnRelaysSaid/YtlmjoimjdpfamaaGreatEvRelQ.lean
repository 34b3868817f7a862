/- Draws of jobs with an order. -/
import Derived.Test.YtlmjoimjdpfamaaGreatEvRelP
set_option linter.unusedVariables false
set_option linter.unusedSimpArgs false
namespace Go.Proofs.YtlmjoimjdpfamaaGreat.Ev.Dr
theorem own_s (o : List Int) (h : o.length ≤ 1000) : ev E0 24 [.lst 1 (o.map i64)] [] = some (.sl 0 0 o.length, [some (ib o)]) := by
  rw [e24]
  unfold runF ib
  have l1 : o.length * 8 ≤ 140737488355328 := by omega
  have l2 : o.length ≤ 140737488355328 := by omega
  cases o with
  | nil => simp -implicitDefEqProofs [L24]
  | cons y o =>
    simp only [List.length_cons] at l1 l2
    simp -implicitDefEqProofs [L24, l1, l2]
theorem order_loop (x : List Int) (hx : okC x) (n : Int) (l : List J) (hl : l.length ≤ 12) : ∀ (c i : Nat) (a s : Int) (o : List Int), i + c = l.length → o.length = i → 0 ≤ a → a + 2 * c ≤ 100000000000 →
    ∃ (a' s' : Int) (o' : List Int), a ≤ a' ∧ a' ≤ a + 2 * c ∧ o'.length = l.length ∧
    packX 0 [5, 6, 7, 8] (loopW (bd E0 (ev E0) loopW 0 [5, 6, 7, 8, 9] L5b0) ⟨[(5, .ptr 0 0 0), (6, i64 n), (7, .sl 1 0 l.length), (8, .sl 2 0 o.length), (9, i64 i)], [some (cu x a s), some (rj l), some (ib o)]⟩) = some (.ext 0, ⟨[(5, .ptr 0 0 0), (6, i64 n), (7, .sl 1 0 l.length), (8, .sl 2 0 o'.length)], [some (cu x a' s'), some (rj l), some (ib o')]⟩) := by
  intro c
  induction c with
  | zero =>
    intro i a s o hi ho h0 h1
    refine ⟨a, s, o, by omega, by omega, by omega, ?_⟩
    have h2 : ¬ (i : Int) < (l.length : Int) := by omega
    have h3 : ¬ i < l.length := by omega
    have h4 : l.length ≤ i := by omega
    rw [loopW_eq]
    generalize loopW (bd E0 (ev E0) loopW 0 [5, 6, 7, 8, 9] L5b0) = K
    unfold cu rj ib
    simp -implicitDefEqProofs [bd, L5b0, h2, h3, h4]
  | succ c ih =>
    intro i a s o hi ho h0 h1
    obtain ⟨a1, s1, r1, p1, q1, r10, r11, e1⟩ := pick_c x hx [rj l, ib o] (by
      intro b h
      rcases List.mem_cons.1 h with h | h
      · rw [h]; exact leaf_rj l
      · rw [List.mem_singleton.1 h]; exact leaf_ib _) a s h0 (by omega) ((i : Int) + 1)
    obtain ⟨k, rfl⟩ : ∃ k : Nat, r1 = k := ⟨r1.toNat, by omega⟩
    have hk : k ≤ o.length := by omega
    have hTl : (o.take k).length = k := by rw [List.length_take]; omega
    have hDl : (o.drop k).length = o.length - k := by rw [List.length_drop]
    obtain ⟨a', s', o', k1, k2, k3, k4⟩ := ih (i + 1) a1 s1 (o.take k ++ (i : Int) :: o.drop k) (by omega) (by simp; omega) (by omega) (by omega)
    refine ⟨a', s', o', by omega, by omega, k3, ?_⟩
    have hown := own_s (o.take k) (by omega)
    rw [hTl] at hown
    have hw : IntKind.i64.wrap ((i : Int) + 1) = (i : Int) + 1 := wr64 (by omega) (by omega)
    have h2 : (i : Int) < (l.length : Int) := by omega
    have h3 : i < l.length := by omega
    have g1 : (0 : Int) ≤ (k : Int) := by omega
    have g2 : (k : Int) ≤ (o.length : Int) := by omega
    have hol : (o.map i64).length = o.length := by simp
    have tk : List.take k (o.map i64) = (o.take k).map i64 := (List.map_take ..).symm
    have dk : List.take (o.length - k) (List.drop k (o.map i64)) = (o.drop k).map i64 := by
      rw [← List.map_drop]
      exact List.take_of_length_le (by simp)
    have hnl : (o.take k ++ (i : Int) :: o.drop k).length = o.length + 1 := by simp; omega
    rw [cs1, hnl] at k4
    have hib : ib (o.take k ++ (i : Int) :: o.drop k) = ⟨3, 1, 1, false, (o.take k).map i64 ++ i64 i :: (o.drop k).map i64⟩ := by
      unfold ib
      rw [List.map_append, List.map_cons]
    rw [hib] at k4
    have l1 : (k + 1) * 8 ≤ 140737488355328 := by omega
    have l2 : k + 1 ≤ 140737488355328 := by omega
    have hTm : ((o.take k).map i64).length = k := by rw [List.length_map]; exact hTl
    have tT : List.take k ((o.take k).map i64) = (o.take k).map i64 := List.take_of_length_le (by omega)
    have fT : okL (free 5) ((o.take k).map i64) = true := free_i64 _
    rw [loopW_eq]
    generalize loopW (bd E0 (ev E0) loopW 0 [5, 6, 7, 8, 9] L5b0) = K at k4 ⊢
    unfold cu rj ib at *
    simp only [List.map_cons, List.map_nil] at e1
    cases hD : o.drop k with
    | nil =>
      rw [hD] at k4 dk hDl
      have hke : k = o.length := by simp at hDl; omega
      rw [List.map_nil] at k4 dk
      generalize (o.take k).map i64 = T at *
      generalize o.map i64 = O at *
      subst hke
      simpa -implicitDefEqProofs [bd, L5b0, e1, hown, hw, h2, h3, g1, g2, hol, tk, dk, l1, l2, hTm, tT, fT, hk] using k4
    | cons d D =>
      rw [hD] at k4 dk hDl
      have hkl : D.length + 1 = o.length - k := by simpa using hDl
      have hkl2 : k + 1 + (D.length + 1) = o.length + 1 := by omega
      have hkl3 : ¬ o.length - k = 0 := by omega
      have hkl4 : k + 1 + (o.length - k) = o.length + 1 := by omega
      have l3 : (k + 1 + (D.length + 1)) * 8 ≤ 140737488355328 := by omega
      have l4 : (o.length + 1) * 8 ≤ 140737488355328 := by omega
      have l5 : o.length + 1 ≤ 140737488355328 := by omega
      rw [List.map_cons] at k4 dk
      generalize (o.take k).map i64 = T at *
      have tT2 : ∀ y : AV, List.take (k + 1) (T ++ [y]) = T ++ [y] := fun y => List.take_of_length_le (by simp; omega)
      generalize o.map i64 = O at *
      simpa -implicitDefEqProofs [bd, L5b0, e1, hown, hw, h2, h3, g1, g2, hol, tk, dk, l1, l2, l3, l4, l5, hTm, tT, tT2, hkl, hkl2, hkl3, hkl4, fT, hk] using k4
/-- The draw of a row, jobs and an order of them (one number of it may be spoilt). -/
theorem draw_order (x : List Int) (hx : okC x) : ∃ (n : Int) (l : List J) (o : List Int), l.length ≤ 12 ∧ o.length = l.length ∧ ev E0 5 [.lst 1 (cd x)] [] = some (.tup [i64 n, .sl 0 0 l.length, .sl 1 0 o.length], [some (rj l), some (ib o)]) := by
  obtain ⟨a1, s1, n, p1, q1, _, _, ye1⟩ := row_c x hx 0 0 (by omega) (by omega)
  obtain ⟨a2, s2, l, p2, q2, hl, ye2⟩ := jobs_c x hx a1 s1 (by omega) (by omega) n
  obtain ⟨a3, s3, o, p3, q3, ho, ye3⟩ := order_loop x hx n l hl l.length 0 a2 s2 [] (by omega) rfl (by omega) (by omega)
  rw [List.length_nil, c0] at ye3
  have hlf : ∀ (o : List Int), ∀ b ∈ [rj l, ib o], leafB b := by
    intro o b h
    rcases List.mem_cons.1 h with h | h
    · rw [h]; exact leaf_rj l
    · rw [List.mem_singleton.1 h]; exact leaf_ib _
  by_cases hz : l.length = 0
  · obtain rfl := List.eq_nil_of_length_eq_zero hz
    obtain rfl := List.eq_nil_of_length_eq_zero (ho.trans hz)
    refine ⟨n, [], [], by simp, rfl, ?_⟩
    rw [e5]
    unfold runF
    unfold cu rj ib at *
    simp only [List.map_nil, List.length_nil] at ye1 ye2 ye3 ⊢
    simp -implicitDefEqProofs [L5, ye1, ye2, ye3]
  · obtain ⟨a4, s4, q, p4, q4, ye4⟩ := one_c x hx [rj l, ib o] (hlf o) a3 s3 (by omega) (by omega) 20
    have hpos : (0 : Int) < (o.length : Int) := by omega
    have hpos2 : 0 < o.length := by omega
    cases q with
    | false =>
      refine ⟨n, l, o, hl, ho, ?_⟩
      rw [e5]
      unfold runF
      unfold cu rj ib at *
      simp only [List.map_cons, List.map_nil] at ye1 ye2 ye3 ye4 ⊢
      simp -implicitDefEqProofs [L5, ye1, ye2, ye3, ye4, hpos, hpos2]
    | true =>
      obtain ⟨a5, s5, r5, p5, q5, r50, r51, ye5⟩ := pick_c x hx [rj l, ib o] (hlf o) a4 s4 (by omega) (by omega) (o.length : Int)
      obtain ⟨k, rfl⟩ : ∃ k : Nat, r5 = k := ⟨r5.toNat, by omega⟩
      have hk : k < o.length := by omega
      obtain ⟨a6, s6, t6, p6, q6, _, ye6⟩ := among_c x hx [rj l, ib o] (hlf o) a5 s5 (by omega) (by omega) [-1, 0, 5] 3 rfl (by decide)
      refine ⟨n, l, o.set k t6, hl, by simp; omega, ?_⟩
      have hk2 : (k : Int) < (o.length : Int) := by omega
      have hk3 : (0 : Int) ≤ (k : Int) := by omega
      have hset : (o.map i64).set k (i64 t6) = (o.set k t6).map i64 := (List.map_set ..).symm
      have hom : (o.map i64).length = o.length := by simp
      have hOk : ∀ h, (o.map i64)[k]'h = i64 o[k] := fun h => by simp
      rw [e5]
      unfold runF
      unfold cu rj ib at *
      rw [List.length_set, ← hset]
      simp only [List.map_cons, List.map_nil, List.cons_append, List.nil_append, List.length_cons, List.length_nil, Nat.zero_add] at ye1 ye2 ye3 ye4 ye5 ye6 ⊢
      generalize o.map i64 = O at *
      simp -implicitDefEqProofs [L5, ye1, ye2, ye3, ye4, ye5, ye6, hpos, hpos2, hk, hk2, hk3, hom, hOk]
end Go.Proofs.YtlmjoimjdpfamaaGreat.Ev.Dr
