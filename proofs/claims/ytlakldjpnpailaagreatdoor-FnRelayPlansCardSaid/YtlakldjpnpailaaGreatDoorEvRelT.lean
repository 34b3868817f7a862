/- Draws of one job, and of a plan with a unit. -/
import Derived.Test.YtlakldjpnpailaaGreatDoorEvRelS
set_option linter.unusedVariables false
set_option linter.unusedSimpArgs false
namespace Go.Proofs.YtlakldjpnpailaaGreatDoor.Ev.Dr
def jc (j : J) : Blk := ⟨39, 4, 0, false, [jb j]⟩
theorem st_j (j : J) (x : List Int) (a s : Int) : Stable [some (jc j), some (cu x a s)] := ⟨by simp [oldIds, cu, jc, jb], rfl⟩
theorem leaf_jc (j : J) : leafB (jc j) := ⟨rfl, fun _ => rfl⟩
theorem pick_j (z : J) (x : List Int) (hx : okC x) (bs : List Blk) (hb : ∀ b ∈ bs, leafB b) (a s : Int) (h0 : 0 ≤ a) (h1 : a ≤ 549755813888) (n : Int) :
    ∃ a' s' r : Int, a ≤ a' ∧ a' ≤ a + 2 ∧ 0 ≤ r ∧ (r < n ∨ r = 0) ∧ ev E0 28 [.ptr 1 0 0, i64 n] (some (jc z) :: some (cu x a s) :: bs.map some) = some (i64 r, some (jc z) :: some (cu x a' s') :: bs.map some) :=
  pick_fr x hx [some (jc z), some (cu x a s)] bs 1 a s rfl (st_j z x a s) hb h0 h1 n
theorem among_j (z : J) (x : List Int) (hx : okC x) (bs : List Blk) (hb : ∀ b ∈ bs, leafB b) (a s : Int) (h0 : 0 ≤ a) (h1 : a ≤ 549755813888) (l : List Int) (n : Nat) (hn : l.length = n) (hp : 0 < n) :
    ∃ (a' s' t : Int), a ≤ a' ∧ a' ≤ a + 2 ∧ t ∈ l ∧ ev E0 30 [.ptr 1 0 0, .sl (bs.length + 2) 0 n] (some (jc z) :: some (cu x a s) :: (bs ++ [ib l]).map some) = some (i64 t, some (jc z) :: some (cu x a' s') :: (bs ++ [ib l]).map some) := by
  have hs := stable_leaves (st_j z x a s) (bs ++ [ib l]) (by
    intro b h
    rcases List.mem_append.1 h with h | h
    · exact hb b h
    · rw [List.mem_singleton.1 h]; exact leaf_ib l)
  obtain ⟨a', s', t, k1, k2, k3, e⟩ := among_fx x hx [some (jc z), some (cu x a s)] ((bs ++ [ib l]).map some) 1 a s rfl hs h0 h1 bs.length l n hn hp (by simp [ib])
  refine ⟨a', s', t, k1, k2, k3, ?_⟩
  rw [show [some (jc z), some (cu x a s)].length + bs.length = bs.length + 2 by simp; omega] at e
  exact e
theorem row_j (z : J) (x : List Int) (hx : okC x) (a s : Int) (h0 : 0 ≤ a) (h1 : a ≤ 100000000000) :
    ∃ a' s' n : Int, a ≤ a' ∧ a' ≤ a + 2 ∧ 1 ≤ n ∧ n ≤ 7 ∧ ev E0 44 [.ptr 1 0 0] [some (jc z), some (cu x a s)] = some (i64 n, [some (jc z), some (cu x a' s')]) := by
  obtain ⟨a', s', t, k1, k2, k3, e⟩ := among_j z x hx [] (by simp) a s h0 (by omega) [3, 4, 2, 5, 6, 3, 4, 1, 7, 3, 4, 2, 5, 6] 14 rfl (by decide)
  have ht : 1 ≤ t ∧ t ≤ 7 := by
    simp only [List.mem_cons, List.not_mem_nil, or_false] at k3
    omega
  refine ⟨a', s', t, k1, k2, ht.1, ht.2, ?_⟩
  unfold cu ib jc jb at *
  simp only [List.nil_append, List.map_cons, List.map_nil, List.length_nil, Nat.zero_add] at e
  rw [e44]
  unfold runF
  simp -implicitDefEqProofs [L44, e]
theorem leafs (l : List Blk) (h : ∀ b ∈ l, (∃ q, b = ib q) ∨ ∃ j, b = jc j) : ∀ b ∈ l, leafB b := by
  intro b hb
  rcases h b hb with ⟨q, e⟩ | ⟨j, e⟩
  · rw [e]; exact leaf_ib q
  · rw [e]; exact leaf_jc j
theorem draw_job (x : List Int) (hx : okC x) : ∃ (n : Int) (j : J), ev E0 15 [.lst 1 (cd x)] [] = some (.tup [i64 n, jb j], []) := by
  obtain ⟨a1, s1, n, p1, q1, n0, n1, e1⟩ := row_j (0, 0, 0, 0) x hx 0 0 (by omega) (by omega)
  have m1 := most_s 1 n
  generalize (if (1 : Int) < n then n else 1) = m at m1
  obtain ⟨a2, s2, r2, p2, q2, _, _, e2⟩ := pick_j (0, 0, 0, 0) x hx [] (by simp) a1 s1 (by omega) (by omega) m
  obtain ⟨a3, s3, r3, p3, q3, _, _, e3⟩ := pick_j (0, 0, 0, 0) x hx [] (by simp) a2 s2 (by omega) (by omega) m
  obtain ⟨a4, s4, t4, p4, q4, _, e4⟩ := among_j (0, 0, 0, 0) x hx [] (by simp) a3 s3 (by omega) (by omega) [1, 60, 5] 3 rfl (by decide)
  obtain ⟨a5, s5, t5, p5, q5, _, e5⟩ := among_j (0, 0, 0, 0) x hx [ib [1, 60, 5]] (leafs _ (by intro b h; rw [List.mem_singleton.1 h]; exact .inl ⟨_, rfl⟩)) a4 s4 (by omega) (by omega) [0, 999, 7] 3 rfl (by decide)
  have lf3 : ∀ b ∈ [ib [1, 60, 5], ib [0, 999, 7], jc (r2, r3, t4, t5)], leafB b := leafs _ (by
    intro b h
    simp only [List.mem_cons, List.not_mem_nil, or_false] at h
    rcases h with h | h | h
    · exact .inl ⟨_, h⟩
    · exact .inl ⟨_, h⟩
    · exact .inr ⟨_, h⟩)
  obtain ⟨a6, s6, r6, p6, q6, _, _, e6⟩ := pick_j (0, 0, 0, 0) x hx [ib [1, 60, 5], ib [0, 999, 7], jc (r2, r3, t4, t5)] lf3 a5 s5 (by omega) (by omega) 8
  obtain ⟨a7, s7, t7, p7, q7, _, e7⟩ := among_j (0, 0, 0, 0) x hx [ib [1, 60, 5], ib [0, 999, 7], jc (r2, r3, t4, t5)] lf3 a6 s6 (by omega) (by omega) [0, 61, -1] 3 rfl (by decide)
  obtain ⟨a8, s8, t8, p8, q8, _, e8⟩ := among_j (0, 0, 0, 0) x hx [ib [1, 60, 5], ib [0, 999, 7], jc (r2, r3, t4, t5)] lf3 a6 s6 (by omega) (by omega) [-1, 1000] 2 rfl (by decide)
  obtain ⟨a9, s9, t9, p9, q9, _, e9⟩ := among_j (0, 0, 0, 0) x hx [ib [1, 60, 5], ib [0, 999, 7], jc (r2, r3, t4, t5)] lf3 a6 s6 (by omega) (by omega) [-1, n, 6] 3 rfl (by decide)
  unfold cu ib jc jb at *
  simp only [List.nil_append, List.cons_append, List.map_cons, List.map_nil, List.length_nil, List.length_cons, Nat.zero_add] at *
  rw [e15]
  unfold runF
  by_cases h0 : r6 = 0
  · subst h0
    refine ⟨n, (r2, r3, t7, t5), ?_⟩
    simp (maxSteps := 1000000) -implicitDefEqProofs [L15, e1, m1, e2, e3, e4, e5, e6, e7]
  · by_cases h1 : r6 = 1
    · subst h1
      refine ⟨n, (r2, r3, t4, t8), ?_⟩
      simp (maxSteps := 1000000) -implicitDefEqProofs [L15, e1, m1, e2, e3, e4, e5, e6, e8]
    · by_cases h2 : r6 = 2
      · subst h2
        refine ⟨n, (r2, t9, t4, t5), ?_⟩
        simp (maxSteps := 1000000) -implicitDefEqProofs [L15, e1, m1, e2, e3, e4, e5, e6, e9]
      · refine ⟨n, (r2, r3, t4, t5), ?_⟩
        simp (maxSteps := 1000000) -implicitDefEqProofs [L15, e1, m1, e2, e3, e4, e5, e6, h0, h1, h2]
theorem draw_busy (x : List Int) (hx : okC x) : ∃ (n : Int) (l : List J) (pl : List Hh) (u : Int), l.length ≤ 12 ∧ pl.length ≤ 25 ∧ ev E0 20 [.lst 1 (cd x)] [] = some (.tup [i64 n, .sl 0 0 l.length, .sl 1 0 pl.length, i64 u], [some (rj l), some (hb pl)]) := by
  obtain ⟨a1, s1, t, p1, q1, _, e1⟩ := among_c x hx [] (by simp) 0 0 (by omega) (by omega) [0, 1, 2, 3, 5, 8, 12, -1, 4611686018427387904] 9 rfl (by decide)
  obtain ⟨n, l, pl, h1, h2, e2⟩ := draw_plan x hx
  refine ⟨n, l, pl, t, h1, h2, ?_⟩
  unfold cu ib rj hb at *
  simp only [List.nil_append, List.cons_append, List.map_cons, List.map_nil, List.length_nil, List.length_cons, Nat.zero_add] at *
  rw [e20]
  unfold runF
  simp (maxSteps := 1000000) -implicitDefEqProofs [L20, e1, e2]
end Go.Proofs.YtlakldjpnpailaaGreatDoor.Ev.Dr
