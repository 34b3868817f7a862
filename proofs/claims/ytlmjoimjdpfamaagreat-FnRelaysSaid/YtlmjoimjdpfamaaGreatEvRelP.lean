/- Draws of rows and of jobs. -/
import Derived.Test.YtlmjoimjdpfamaaGreatEvRelO
import Derived.Test.YtlmjoimjdpfamaaGreatEvDrawQR
set_option linter.unusedVariables false
set_option linter.unusedSimpArgs false
namespace Go.Proofs.YtlmjoimjdpfamaaGreat.Ev.Dr
theorem st_c (x : List Int) (a s : Int) : Stable [some (cu x a s)] := ⟨by simp [oldIds, cu], rfl⟩
def ib (l : List Int) : Blk := ⟨3, 1, 1, false, l.map i64⟩
def rj (l : List J) : Blk := ⟨63, 4, 1, false, l.map jb⟩
theorem leaf_ib (l : List Int) : leafB (ib l) := ⟨rfl, fun _ => rfl⟩
theorem leaf_rj (l : List J) : leafB (rj l) := ⟨rfl, fun _ => rfl⟩
theorem leaf_rh (l : List Hh) : leafB ⟨32, 3, 1, false, l.map hp⟩ := ⟨rfl, fun _ => rfl⟩
theorem pick_c (x : List Int) (hx : okC x) (bs : List Blk) (hb : ∀ b ∈ bs, leafB b) (a s : Int) (h0 : 0 ≤ a) (h1 : a ≤ 549755813888) (n : Int) :
    ∃ a' s' r : Int, a ≤ a' ∧ a' ≤ a + 2 ∧ 0 ≤ r ∧ (r < n ∨ r = 0) ∧ ev E0 23 [.ptr 0 0 0, i64 n] (some (cu x a s) :: bs.map some) = some (i64 r, some (cu x a' s') :: bs.map some) :=
  pick_fr x hx [some (cu x a s)] bs 0 a s rfl (st_c x a s) hb h0 h1 n
theorem one_c (x : List Int) (hx : okC x) (bs : List Blk) (hb : ∀ b ∈ bs, leafB b) (a s : Int) (h0 : 0 ≤ a) (h1 : a ≤ 549755813888) (n : Int) :
    ∃ (a' s' : Int) (q : Bool), a ≤ a' ∧ a' ≤ a + 2 ∧ ev E0 25 [.ptr 0 0 0, i64 n] (some (cu x a s) :: bs.map some) = some (bl q, some (cu x a' s') :: bs.map some) :=
  one_fr x hx [some (cu x a s)] bs 0 a s rfl (st_c x a s) hb h0 h1 n
theorem among_c (x : List Int) (hx : okC x) (bs : List Blk) (hb : ∀ b ∈ bs, leafB b) (a s : Int) (h0 : 0 ≤ a) (h1 : a ≤ 549755813888) (l : List Int) (n : Nat) (hn : l.length = n) (hp : 0 < n) :
    ∃ (a' s' t : Int), a ≤ a' ∧ a' ≤ a + 2 ∧ t ∈ l ∧ ev E0 26 [.ptr 0 0 0, .sl (bs.length + 1) 0 n] (some (cu x a s) :: (bs ++ [ib l]).map some) = some (i64 t, some (cu x a' s') :: (bs ++ [ib l]).map some) := by
  have hs := stable_leaves (st_c x a s) (bs ++ [ib l]) (by
    intro b h
    rcases List.mem_append.1 h with h | h
    · exact hb b h
    · rw [List.mem_singleton.1 h]; exact leaf_ib l)
  obtain ⟨a', s', t, k1, k2, k3, e⟩ := among_fx x hx [some (cu x a s)] ((bs ++ [ib l]).map some) 0 a s rfl hs h0 h1 bs.length l n hn hp (by simp [ib])
  refine ⟨a', s', t, k1, k2, k3, ?_⟩
  rw [show [some (cu x a s)].length + bs.length = bs.length + 1 by simp; omega] at e
  exact e
theorem row_c (x : List Int) (hx : okC x) (a s : Int) (h0 : 0 ≤ a) (h1 : a ≤ 100000000000) :
    ∃ a' s' n : Int, a ≤ a' ∧ a' ≤ a + 2 ∧ 1 ≤ n ∧ n ≤ 7 ∧ ev E0 21 [.ptr 0 0 0] [some (cu x a s)] = some (i64 n, [some (cu x a' s')]) := by
  obtain ⟨a', s', t, k1, k2, k3, e⟩ := among_c x hx [] (by simp) a s h0 (by omega) [3, 4, 2, 5, 6, 3, 4, 1, 7, 3, 4, 2, 5, 6] 14 rfl (by decide)
  have ht : 1 ≤ t ∧ t ≤ 7 := by
    simp only [List.mem_cons, List.not_mem_nil, or_false] at k3
    omega
  refine ⟨a', s', t, k1, k2, ht.1, ht.2, ?_⟩
  unfold cu ib at *
  simp only [List.nil_append, List.map_cons, List.map_nil, List.length_nil, Nat.zero_add] at e
  rw [e21]
  unfold runF
  simp -implicitDefEqProofs [L21, e]
theorem jobs_loop (x : List Int) (hx : okC x) (m : Int) (hm : 2 ≤ m ∧ m ≤ 6) : ∀ (k : Nat) (a s : Int) (l : List J), 0 ≤ a → a + 8 * k ≤ 100000000000 → l.length + k ≤ 100 →
    ∃ (a' s' : Int) (l' : List J), a ≤ a' ∧ a' ≤ a + 8 * k ∧ l'.length = l.length + k ∧
    packX 1 [0, 5] (loopW (bd E0 (ev E0) loopW 1 [0, 5, 6, 7] L22b0) ⟨[(0, .ptr 0 0 0), (5, .sl 1 0 l.length), (6, i64 m), (7, i64 k)], [some (cu x a s), some (rj l)]⟩) = some (.ext 0, ⟨[(0, .ptr 0 0 0), (5, .sl 1 0 l'.length)], [some (cu x a' s'), some (rj l')]⟩) := by
  intro k
  induction k with
  | zero =>
    intro a s l h0 h1 h2
    refine ⟨a, s, l, by omega, by omega, rfl, ?_⟩
    rw [loopW_eq]
    generalize loopW (bd E0 (ev E0) loopW 1 [0, 5, 6, 7] L22b0) = K
    unfold cu rj
    simp -implicitDefEqProofs [bd, L22b0]
  | succ k ih =>
    intro a s l h0 h1 h2
    obtain ⟨a1, s1, r1, p1, q1, r10, r11, e1⟩ := pick_c x hx [rj l] (by intro b h; rw [List.mem_singleton.1 h]; exact leaf_rj l) a s h0 (by omega) m
    obtain ⟨a2, s2, r2, p2, q2, r20, r21, e2⟩ := pick_c x hx [rj l] (by intro b h; rw [List.mem_singleton.1 h]; exact leaf_rj l) a1 s1 (by omega) (by omega) (m - 1)
    obtain ⟨a3, s3, t3, p3, q3, _, e3⟩ := among_c x hx [rj l] (by intro b h; rw [List.mem_singleton.1 h]; exact leaf_rj l) a2 s2 (by omega) (by omega) [2, 3, 1, 5, 4, 60] 6 rfl (by decide)
    obtain ⟨a4, s4, t4, p4, q4, _, e4⟩ := among_c x hx [rj l, ib [2, 3, 1, 5, 4, 60]] (by
      intro b h
      rcases List.mem_cons.1 h with h | h
      · rw [h]; exact leaf_rj l
      · rw [List.mem_singleton.1 h]; exact leaf_ib _) a3 s3 (by omega) (by omega) [0, 1, 0, 4, 10, 999] 6 rfl (by decide)
    obtain ⟨a', s', l', k1, k2, k3, k4⟩ := ih a4 s4 (l ++ [(r1, (r1 + 1 + r2).tmod m, t3, t4)]) (by omega) (by omega) (by simp; omega)
    refine ⟨a', s', l', by omega, by omega, by rw [k3]; simp; omega, ?_⟩
    have hw : IntKind.i64.wrap ((k : Int) + 1 - 1) = (k : Int) := by rw [show (k : Int) + 1 - 1 = (k : Int) by omega]; exact wr64 (by omega) (by omega)
    have hw' : IntKind.i64.wrap (k : Int) = (k : Int) := wr64 (by omega) (by omega)
    have w1 : IntKind.i64.wrap (m - 1) = m - 1 := wr64 (by omega) (by omega)
    have w2 : IntKind.i64.wrap (r1 + 1) = r1 + 1 := wr64 (by omega) (by omega)
    have w3 : IntKind.i64.wrap (r1 + 1 + r2) = r1 + 1 + r2 := wr64 (by omega) (by omega)
    have w4 : IntKind.i64.wrap ((r1 + 1 + r2).tmod m) = (r1 + 1 + r2).tmod m := by
      have h3 := Int.tmod_nonneg m (show 0 ≤ r1 + 1 + r2 by omega)
      have h4 := Int.tmod_lt_of_pos (r1 + 1 + r2) (show 0 < m by omega)
      exact wr64 (by omega) (by omega)
    have mz : ¬ m = 0 := by omega
    have hp1 : (0 : Int) < (k : Int) + 1 := by omega
    have l1 : (l.length + 1) * 32 ≤ 140737488355328 := by omega
    have l2 : l.length + 1 ≤ 140737488355328 := by omega
    have htk : List.take l.length (l.map jb) = l.map jb := List.take_of_length_le (by simp)
    rw [loopW_eq]
    generalize loopW (bd E0 (ev E0) loopW 1 [0, 5, 6, 7] L22b0) = K at k4 ⊢
    have hjq : jb (r1, (r1 + 1 + r2).tmod m, t3, t4) = .agg [i64 r1, i64 ((r1 + 1 + r2).tmod m), i64 t3, i64 t4] := rfl
    unfold cu rj ib at *
    simp only [List.nil_append, List.cons_append, List.map_cons, List.map_nil, List.length_nil, List.length_cons, Nat.zero_add, List.map_append, List.length_append, hjq] at e1 e2 e3 e4 k4 ⊢
    have hLl : l.length ≤ (l.map jb).length := by simp
    generalize l.map jb = L at *
    simpa -implicitDefEqProofs [bd, L22b0, e1, e2, e3, e4, hw, hw', w1, w2, w3, w4, mz, hp1, l1, l2, htk, hLl] using k4
theorem least_s (a b : Int) : ev E0 50 [i64 a, i64 b] [] = some (i64 (if a < b then a else b), []) := by
  rw [e50]
  unfold runF
  by_cases h : a < b
  · simp -implicitDefEqProofs [L50, h]
  · simp -implicitDefEqProofs [L50, h]
theorem fill_loop (x : List Int) (a s : Int) : ∀ (k : Nat) (l : List J), 6 ≤ l.length + k → l.length ≤ 100 →
    ∃ l' : List J, l'.length ≤ l.length + k ∧ packX 1 [5] (loopW (bd E0 (ev E0) loopW 1 [5] L22b1) ⟨[(5, .sl 1 0 l.length)], [some (cu x a s), some (rj l)]⟩) = some (.ext 3, ⟨[(5, .sl 1 0 l'.length)], [some (cu x a s), some (rj l')]⟩) := by
  intro k
  induction k with
  | zero =>
    intro l h _
    refine ⟨l, by omega, ?_⟩
    have h1 : ¬ (l.length : Int) < 6 := by omega
    have h2 : ¬ l.length < 6 := by omega
    rw [loopW_eq]
    generalize loopW (bd E0 (ev E0) loopW 1 [5] L22b1) = K
    unfold cu rj
    simp -implicitDefEqProofs [bd, L22b1, h1, h2]
  | succ k ih =>
    intro l h hlen
    by_cases h1 : (l.length : Int) < 6
    · have h2 : l.length < 6 := by omega
      obtain ⟨l', k1, k2⟩ := ih (l ++ [(0, 1, 1, 0)]) (by simp; omega) (by simp; omega)
      refine ⟨l', by simp at k1; omega, ?_⟩
      have l1 : (l.length + 1) * 32 ≤ 140737488355328 := by omega
      have l2 : l.length + 1 ≤ 140737488355328 := by omega
      have htk : List.take l.length (l.map jb) = l.map jb := List.take_of_length_le (by simp)
      have hLl : l.length ≤ (l.map jb).length := by simp
      have hjq : jb (0, 1, 1, 0) = .agg [i64 0, i64 1, i64 1, i64 0] := rfl
      rw [loopW_eq]
      generalize loopW (bd E0 (ev E0) loopW 1 [5] L22b1) = K at k2 ⊢
      unfold cu rj at *
      simp only [List.map_append, List.length_append, List.map_cons, List.map_nil, List.length_cons, List.length_nil, Nat.zero_add, hjq] at k2
      generalize l.map jb = L at *
      simpa -implicitDefEqProofs [bd, L22b1, h1, h2, l1, l2, htk, hLl] using k2
    · refine ⟨l, by omega, ?_⟩
      have h2 : ¬ l.length < 6 := by omega
      rw [loopW_eq]
      generalize loopW (bd E0 (ev E0) loopW 1 [5] L22b1) = K
      unfold cu rj
      simp -implicitDefEqProofs [bd, L22b1, h1, h2]
theorem jobs_c (x : List Int) (hx : okC x) (a s : Int) (h0 : 0 ≤ a) (h1 : a ≤ 10000000000) (n : Int) :
    ∃ (a' s' : Int) (l : List J), a ≤ a' ∧ a' ≤ a + 100 ∧ l.length ≤ 12 ∧ ev E0 22 [.ptr 0 0 0, i64 n] [some (cu x a s)] = some (.sl 1 0 l.length, [some (cu x a' s'), some (rj l)]) := by
  have m1 := most_s 2 n
  generalize hm : (if (2 : Int) < n then n else 2) = m at m1
  have m2 := least_s 6 m
  generalize hm' : (if (6 : Int) < m then 6 else m) = m' at m2
  have hmb : 2 ≤ m' ∧ m' ≤ 6 := by
    have : 2 ≤ m := by rw [← hm]; split <;> omega
    rw [← hm']
    split <;> omega
  obtain ⟨a1, s1, t1, p1, q1, ht1, e1⟩ := among_c x hx [rj []] (by intro b h; rw [List.mem_singleton.1 h]; exact leaf_rj _) a s h0 (by omega) [2, 3, 1, 4, 0, 5, 3, 2] 8 rfl (by decide)
  obtain ⟨k, rfl⟩ : ∃ k : Nat, t1 = k := ⟨t1.toNat, by simp only [List.mem_cons, List.not_mem_nil, or_false] at ht1; omega⟩
  have hk : k ≤ 5 := by simp only [List.mem_cons, List.not_mem_nil, or_false] at ht1; omega
  obtain ⟨a2, s2, l, p2, q2, hl, e2⟩ := jobs_loop x hx m' hmb k a1 s1 [] (by omega) (by omega) (by simp; omega)
  obtain ⟨a3, s3, r3, p3, q3, _, _, e3⟩ := pick_c x hx [rj l] (by intro b h; rw [List.mem_singleton.1 h]; exact leaf_rj _) a2 s2 (by omega) (by omega) 40
  rw [List.length_nil] at e2 hl
  by_cases hr0 : r3 = 0
  · subst hr0
    obtain ⟨a4, s4, r4, p4, q4, _, _, e4⟩ := pick_c x hx [rj l] (by intro b h; rw [List.mem_singleton.1 h]; exact leaf_rj _) a3 s3 (by omega) (by omega) 7
    obtain ⟨a5, s5, r5, p5, q5, _, _, e5⟩ := pick_c x hx [rj l] (by intro b h; rw [List.mem_singleton.1 h]; exact leaf_rj _) a4 s4 (by omega) (by omega) 7
    obtain ⟨a6, s6, t6, p6, q6, _, e6⟩ := among_c x hx [rj l] (by intro b h; rw [List.mem_singleton.1 h]; exact leaf_rj l) a5 s5 (by omega) (by omega) [0, 61, 1] 3 rfl (by decide)
    obtain ⟨a7, s7, t7, p7, q7, _, e7⟩ := among_c x hx [rj l, ib [0, 61, 1]] (by
      intro b h
      rcases List.mem_cons.1 h with h | h
      · rw [h]; exact leaf_rj l
      · rw [List.mem_singleton.1 h]; exact leaf_ib _) a6 s6 (by omega) (by omega) [-1, 1000, 0] 3 rfl (by decide)
    refine ⟨a7, s7, l ++ [(r4, r5, t6, t7)], by omega, by omega, by simp; omega, ?_⟩
    have l1 : (l.length + 1) * 32 ≤ 140737488355328 := by omega
    have l2 : l.length + 1 ≤ 140737488355328 := by omega
    have htk : List.take l.length (l.map jb) = l.map jb := List.take_of_length_le (by simp)
    have hLl : l.length ≤ (l.map jb).length := by simp
    have hjq : jb (r4, r5, t6, t7) = .agg [i64 r4, i64 r5, i64 t6, i64 t7] := rfl
    rw [e22]
    unfold runF
    unfold cu rj ib at *
    simp only [List.nil_append, List.cons_append, List.map_cons, List.map_nil, List.length_nil, List.length_cons, Nat.zero_add, List.map_append, List.length_append, hjq] at e1 e2 e3 e4 e5 e6 e7 ⊢
    generalize l.map jb = L at *
    simp -implicitDefEqProofs [L22, m1, m2, e1, e2, e3, e4, e5, e6, e7, l1, l2, htk, hLl]
  · by_cases hr1 : r3 = 1
    · subst hr1
      obtain ⟨l', k1, k2⟩ := fill_loop x a3 s3 6 l (by omega) (by omega)
      refine ⟨a3, s3, l', by omega, by omega, by omega, ?_⟩
      rw [e22]
      unfold runF
      unfold cu rj ib at *
      simp only [List.nil_append, List.cons_append, List.map_cons, List.map_nil, List.length_nil, List.length_cons, Nat.zero_add] at e1 e2 e3 k2 ⊢
      simp -implicitDefEqProofs [L22, m1, m2, e1, e2, e3, k2]
    · refine ⟨a3, s3, l, by omega, by omega, by omega, ?_⟩
      rw [e22]
      unfold runF
      unfold cu rj ib at *
      simp only [List.nil_append, List.cons_append, List.map_cons, List.map_nil, List.length_nil, List.length_cons, Nat.zero_add] at e1 e2 e3 ⊢
      simp -implicitDefEqProofs [L22, m1, m2, e1, e2, e3, hr0, hr1]
end Go.Proofs.YtlmjoimjdpfamaaGreat.Ev.Dr
