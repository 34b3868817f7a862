/- The draws of weights for a table. -/
import Derived.Test.YtkajcafnfdlgpaaDoorEvDrawV
set_option linter.unusedVariables false
set_option linter.unusedSimpArgs false
namespace Go.Proofs.YtkajcafnfdlgpaaDoor.Ev.Dr
theorem weights_loop (x : List Int) (hx : okC x) (H : Hp) (id : Nat) (a0 s0 : Int) (h : hget H id = some (cu x a0 s0)) (hs : Stable H) : ∀ (k : Nat) (a s : Int) (r : List Int), 0 ≤ a → a + 2 * k ≤ 200000000000 → r.length + k ≤ 1000 → (∀ y ∈ r, -1 ≤ y ∧ y ≤ 100) →
    ∃ (a' s' : Int) (r' : List Int), a ≤ a' ∧ a' ≤ a + 2 * k ∧ r'.length = r.length + k ∧ (∀ y ∈ r', -1 ≤ y ∧ y ≤ 100) ∧
    packX H.length [0, 5] (loopW (bd E0 (ev E0) loopW H.length [0, 1, 5] L89b0) ⟨[(0, .ptr id 0 0), (1, i64 k), (5, .sl H.length 0 r.length)], H.set id (some (cu x a s)) ++ [some (ib r)]⟩) =
      some (.ext 0, ⟨[(0, .ptr id 0 0), (5, .sl H.length 0 r'.length)], H.set id (some (cu x a' s')) ++ [some (ib r')]⟩) := by
  have hid := id_lt h
  have hP := pe_cu h hs
  have hP0 := pe_cu0 h hs
  intro k
  induction k with
  | zero =>
    intro a s r h1 h2 h3 h4
    refine ⟨a, s, r, by omega, by omega, by omega, h4, ?_⟩
    rw [loopW_eq]
    generalize loopW (bd E0 (ev E0) loopW H.length [0, 1, 5] L89b0) = K
    simp -implicitDefEqProofs [ib, bd, L89b0, -packH, hP, hP0, hid, nlt_add, List.idxOf?, List.findIdx?_cons]
  | succ k ih =>
    intro a s r h1 h2 h3 h4
    have hsa := stable_cu hs h a s
    have hga : hget (H.set id (some (cu x a s))) id = some (cu x a s) := hget_cu hid
    have hsM : Stable (H.set id (some (cu x a s)) ++ [some (ib r), some (ib [0, 1, 2, 3, 5, 1, 2, 99])]) :=
      stable_leaves hsa [ib r, ib [0, 1, 2, 3, 5, 1, 2, 99]] (by intro b hb; simp at hb; rcases hb with rfl | rfl <;> exact ⟨rfl, fun _ => rfl⟩)
    obtain ⟨a1, s1, t, p1, q1, ht, e1⟩ := among_fx x hx _ _ id a s hga hsM (by omega) (by omega) 1 [0, 1, 2, 3, 5, 1, 2, 99] 8 rfl (by decide) rfl
    rw [List.set_set, List.length_set] at e1
    have ht2 : -1 ≤ t ∧ t ≤ 100 := by
      simp only [List.mem_cons, List.not_mem_nil, or_false] at ht
      omega
    obtain ⟨a', s', r', k1, k2, k3, k4, k5⟩ := ih a1 s1 (r ++ [t]) (by omega) (by omega) (by simp; omega) (by
      intro y hy
      rcases List.mem_append.1 hy with hy | hy
      · exact h4 y hy
      · rw [List.mem_singleton.1 hy]; exact ht2)
    refine ⟨a', s', r', by omega, by omega, by simp at k3; omega, k4, ?_⟩
    have hl1 : (r.length + 1) * 8 ≤ 140737488355328 := by omega
    have hl2 : r.length + 1 ≤ 140737488355328 := by omega
    have hw : IntKind.i64.wrap (k : Int) = (k : Int) := wr64 (by omega) (by omega)
    have hk : (0 : Int) < (k : Int) + 1 := by omega
    have htk : List.take r.length (r.map i64) = r.map i64 := List.take_of_length_le (by simp)
    unfold ib at e1 k5 ⊢
    simp only [List.map_cons, List.map_nil] at e1
    rw [cs1, loopW_eq]
    generalize loopW (bd E0 (ev E0) loopW H.length [0, 1, 5] L89b0) = K at k5 ⊢
    simpa -implicitDefEqProofs [bd, L89b0, hk, hw, e1, hl1, hl2, htk, -packH, hP, hP0, hid, nlt_add, List.idxOf?, List.findIdx?_cons] using k5
theorem weights_ok (x : List Int) (hx : okC x) (H : Hp) (id : Nat) (a s : Int) (h : hget H id = some (cu x a s)) (hs : Stable H) (h0 : 0 ≤ a) (h1 : a ≤ 100000000000) (n : Nat) (hn : n ≤ 500) :
    ∃ (a' s' : Int) (r : List Int), a ≤ a' ∧ a' ≤ a + 2000 ∧ r.length = n ∧ (∀ y ∈ r, -1 ≤ y ∧ y ≤ 100) ∧ ev E0 89 [.ptr id 0 0, i64 n] H = some (.sl H.length 0 r.length, H.set id (some (cu x a' s')) ++ [some (ib r)]) := by
  have hid := id_lt h
  have hP := pe_cu h hs
  have hP0 := pe_cu0 h hs
  have hse : H.set id (some (cu x a s)) = H := set_same h
  have pkH : ∀ ex roots, packH H.length (H ++ ex) roots = packE H.length H ex roots := fun ex roots => packH_E rfl hs roots
  obtain ⟨a1, s1, r, p1, q1, zr, hr, e1⟩ := weights_loop x hx H id a s h hs n a s [] (by omega) (by omega) (by simp; omega) (by simp)
  rw [hse] at e1
  simp only [List.length_nil, Nat.zero_add] at zr
  have hs1 := stable_cu hs h a1 s1
  have hg1 : hget (H.set id (some (cu x a1 s1))) id = some (cu x a1 s1) := hget_cu hid
  unfold ib at e1
  simp only [List.map_nil, List.length_nil] at e1
  by_cases hn0 : n = 0
  · subst hn0
    have hr0 : r = [] := List.eq_nil_of_length_eq_zero zr
    subst hr0
    refine ⟨a1, s1, [], by omega, by omega, rfl, hr, ?_⟩
    rw [c0] at e1 ⊢
    rw [e89]
    unfold runF
    simp only [List.map_nil, List.length_nil] at e1
    simp -implicitDefEqProofs [ib, L89, e1, -packH, pkH, hP, hP0, hid, nlt_add, List.idxOf?, List.findIdx?_cons]
  · have hpos : 0 < r.length := by omega
    have hpi : (0 : Int) < (r.length : Int) := by omega
    obtain ⟨a2, s2, q, p2, q2, e2⟩ := one_fx x hx _ [some (ib r)] id a1 s1 hg1 (stable_leaf hs1 ⟨rfl, fun _ => rfl⟩) (by omega) (by omega) 24
    rw [List.set_set] at e2
    have hs2 := stable_cu hs h a2 s2
    have hg2 : hget (H.set id (some (cu x a2 s2))) id = some (cu x a2 s2) := hget_cu hid
    unfold ib at e2
    cases q with
    | false =>
      refine ⟨a2, s2, r, by omega, by omega, zr, hr, ?_⟩
      rw [e89]
      unfold runF
      simp -implicitDefEqProofs [ib, L89, e1, e2, hpos, hpi, -packH, pkH, hP, hP0, hid, nlt_add, List.idxOf?, List.findIdx?_cons]
    | true =>
      obtain ⟨a3, s3, j, p3, q3, j0, j1, e3⟩ := pick_fx x hx _ [some (ib r)] id a2 s2 hg2 (stable_leaf hs2 ⟨rfl, fun _ => rfl⟩) (by omega) (by omega) r.length
      rw [List.set_set] at e3
      have hs3 := stable_cu hs h a3 s3
      have hg3 : hget (H.set id (some (cu x a3 s3))) id = some (cu x a3 s3) := hget_cu hid
      have hsM : Stable (H.set id (some (cu x a3 s3)) ++ [some (ib r), some (ib [-1, 100])]) :=
        stable_leaves hs3 [ib r, ib [-1, 100]] (by intro b hb; simp at hb; rcases hb with rfl | rfl <;> exact ⟨rfl, fun _ => rfl⟩)
      obtain ⟨a4, s4, t, p4, q4, ht, e4⟩ := among_fx x hx _ _ id a3 s3 hg3 hsM (by omega) (by omega) 1 [-1, 100] 2 rfl (by decide) rfl
      rw [List.set_set, List.length_set] at e4
      obtain ⟨m, rfl⟩ : ∃ m : Nat, j = m := ⟨j.toNat, by omega⟩
      have hm : m < r.length := by omega
      have ht2 : -1 ≤ t ∧ t ≤ 100 := by
        simp only [List.mem_cons, List.not_mem_nil, or_false] at ht
        omega
      refine ⟨a4, s4, r.set m t, by omega, by omega, by simp [zr], ?_, ?_⟩
      · intro y hy
        rcases List.mem_or_eq_of_mem_set hy with hy | rfl
        · exact hr y hy
        · exact ht2
      unfold ib at e3 e4
      simp only [List.map_cons, List.map_nil] at e4
      have hmap : (r.set m t).map i64 = (r.map i64).set m (i64 t) := by rw [List.map_set]
      rw [e89]
      unfold runF
      simp -implicitDefEqProofs [ib, L89, e1, e2, e3, e4, hpos, hpi, hm, hmap, -packH, pkH, hP, hP0, hid, nlt_add, List.idxOf?, List.findIdx?_cons]
theorem drawCost (x : List Int) (hx : okC x) : ∃ (T L : AV) (H : Hp) (r : List Int), TabL T L H r ∧ r.length ≤ 60 ∧ ev E0 54 [.lst 1 (cd x)] [] = some (.tup [T, L], H) := by
  obtain ⟨a, s, p1, p2, h⟩ := pre_tab x hx 0 0 (by omega) (by omega)
  rcases h with h | ⟨ms, z1, z2, h⟩
  · obtain ⟨a1, s1, q, q1, q2, e1⟩ := one_ok x hx [some t0, some (cu x a s), some t0] 1 a s rfl (st2 x a s) (by omega) (by omega) 16
    cases q with
    | false =>
      obtain ⟨a2, s2, r, u1, u2, u3, u4, e2⟩ := weights_ok x hx [some t0, some (cu x a1 s1), some t0] 1 a1 s1 rfl (st2 x a1 s1) (by omega) (by omega) 0 (by omega)
      refine ⟨_, _, _, r, .inl ⟨rfl, rfl, rfl⟩, by omega, ?_⟩
      rw [e54]
      unfold runF
      rw [c0] at e2
      simp only [List.set_cons_succ, List.set_cons_zero, List.cons_append, List.nil_append, List.length_cons, List.length_nil, Nat.zero_add, Nat.reduceAdd, t0, cu, ib] at h e1 e2 ⊢
      simp -implicitDefEqProofs [L54, h, e1, e2]
    | true =>
      obtain ⟨a2, s2, r, u1, u2, u3, u4, e2⟩ := weights_ok x hx [some t0, some (cu x a1 s1), some t0] 1 a1 s1 rfl (st2 x a1 s1) (by omega) (by omega) 1 (by omega)
      refine ⟨_, _, _, r, .inl ⟨rfl, rfl, rfl⟩, by omega, ?_⟩
      rw [e54]
      unfold runF
      have hw : IntKind.i64.wrap 1 = 1 := wr64 (by omega) (by omega)
      rw [show ((1 : Nat) : Int) = 1 from rfl] at e2
      simp only [List.set_cons_succ, List.set_cons_zero, List.cons_append, List.nil_append, List.length_cons, List.length_nil, Nat.zero_add, Nat.reduceAdd, t0, cu, ib] at h e1 e2 ⊢
      simp -implicitDefEqProofs [L54, h, e1, e2, hw]
  · obtain ⟨a1, s1, q, q1, q2, e1⟩ := one_ok x hx [some t0, some (cu x a s), some (tr ms), some (tc 2 ms.length)] 1 a s rfl (st3 x a s ms ms.length) (by omega) (by omega) 16
    cases q with
    | false =>
      obtain ⟨a2, s2, r, u1, u2, u3, u4, e2⟩ := weights_ok x hx [some t0, some (cu x a1 s1), some (tr ms), some (tc 2 ms.length)] 1 a1 s1 rfl (st3 x a1 s1 ms ms.length) (by omega) (by omega) ms.length (by omega)
      refine ⟨_, _, _, r, .inr ⟨ms, z1, z2, rfl, rfl, rfl⟩, by omega, ?_⟩
      rw [e54]
      unfold runF
      simp only [List.set_cons_succ, List.set_cons_zero, List.cons_append, List.nil_append, List.length_cons, List.length_nil, Nat.zero_add, Nat.reduceAdd, t0, cu, tr, tc, ib] at h e1 e2 ⊢
      simp -implicitDefEqProofs [L54, h, e1, e2]
    | true =>
      obtain ⟨a2, s2, r, u1, u2, u3, u4, e2⟩ := weights_ok x hx [some t0, some (cu x a1 s1), some (tr ms), some (tc 2 ms.length)] 1 a1 s1 rfl (st3 x a1 s1 ms ms.length) (by omega) (by omega) (ms.length + 1) (by omega)
      refine ⟨_, _, _, r, .inr ⟨ms, z1, z2, rfl, rfl, rfl⟩, by omega, ?_⟩
      rw [e54]
      unfold runF
      have hw : IntKind.i64.wrap ((ms.length : Int) + 1) = (ms.length : Int) + 1 := wr64 (by omega) (by omega)
      rw [cs1] at e2
      simp only [List.set_cons_succ, List.set_cons_zero, List.cons_append, List.nil_append, List.length_cons, List.length_nil, Nat.zero_add, Nat.reduceAdd, t0, cu, tr, tc, ib] at h e1 e2 ⊢
      simp -implicitDefEqProofs [L54, h, e1, e2, hw]
theorem drawMeanH (x : List Int) (hx : okC x) : ∃ (T L : AV) (H : Hp) (r : List Int), TabL T L H r ∧ r.length ≤ 60 ∧ ev E0 13 [.lst 1 (cd x)] [] = some (.tup [T, L], H) := by
  obtain ⟨T, L, H, r, hT, b, e⟩ := drawCost x hx
  rcases hT with ⟨rfl, rfl, rfl⟩ | ⟨ms, z1, z2, rfl, rfl, rfl⟩
  · have hs : Stable [some t0, some (ib r), some t0, some (cu x 0 0)] := ⟨by simp [oldIds, t0, cu, ib], rfl⟩
    obtain ⟨a1, s1, q, q1, q2, e1⟩ := one_ok x hx [some t0, some (ib r), some t0, some (cu x 0 0)] 3 0 0 rfl hs (by omega) (by omega) 24
    simp only [List.set_cons_succ, List.set_cons_zero, t0, cu, ib] at e e1
    cases q with
    | false =>
      refine ⟨_, _, _, r, .inl ⟨rfl, rfl, rfl⟩, b, ?_⟩
      rw [e13]
      unfold runF
      unfold ib
      simp -implicitDefEqProofs [L13, e, e1]
    | true =>
      refine ⟨_, _, _, [], .inl ⟨rfl, rfl, rfl⟩, by simp, ?_⟩
      rw [e13]
      unfold runF
      unfold ib
      simp -implicitDefEqProofs [L13, e, e1]
  · have hs : Stable [some t0, some (tr ms), some (ib r), some (tc 1 ms.length), some (cu x 0 0)] := ⟨by simp [oldIds, t0, cu, ib, tr, tc], rfl⟩
    obtain ⟨a1, s1, q, q1, q2, e1⟩ := one_ok x hx [some t0, some (tr ms), some (ib r), some (tc 1 ms.length), some (cu x 0 0)] 4 0 0 rfl hs (by omega) (by omega) 24
    simp only [List.set_cons_succ, List.set_cons_zero, t0, cu, ib, tr, tc] at e e1
    cases q with
    | false =>
      refine ⟨_, _, _, r, .inr ⟨ms, z1, z2, rfl, rfl, rfl⟩, b, ?_⟩
      rw [e13]
      unfold runF
      unfold ib tr
      simp -implicitDefEqProofs [L13, e, e1]
    | true =>
      refine ⟨_, _, _, List.replicate ms.length 0, .inr ⟨ms, z1, z2, rfl, rfl, rfl⟩, by simp; omega, ?_⟩
      rw [e13]
      unfold runF
      unfold ib tr
      have l1 : (ms.length : Int) * 8 ≤ 140737488355328 := by omega
      have l2 : (ms.length : Int) ≤ 140737488355328 := by omega
      simp -implicitDefEqProofs [L13, e, e1, l1, l2]
end Go.Proofs.YtkajcafnfdlgpaaDoor.Ev.Dr
