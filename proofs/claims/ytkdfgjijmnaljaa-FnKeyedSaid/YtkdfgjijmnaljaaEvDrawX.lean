/- The draws of the laws on traces. -/
import Derived.Test.YtkdfgjijmnaljaaEvDrawK
import Derived.Test.YtkdfgjijmnaljaaEvKeyed5
set_option linter.unusedVariables false
set_option linter.unusedSimpArgs false
namespace Go.Proofs.Ytkdfgjijmnaljaa.Ev.Dr
theorem okC_of {x : List Int} (hl : x.length ≤ 140737488355328) (hw : ∀ y ∈ x, (Lit.int .u8 y).wf = true) : okC x := by
  refine ⟨hl, fun y hy => ?_⟩
  have h := hw y hy
  unfold Lit.wf at h
  rw [Bool.and_eq_true, decide_eq_true_eq, decide_eq_true_eq] at h
  exact h
theorem vbig (x : List Int) : ev E0 4 [.lst 1 (cd x)] [] = some (bl (decide (65536 < (x.length : Int))), []) := by
  rw [e4]
  unfold runF
  simp -implicitDefEqProofs [L4, cd_len]
def cutD (x : List Int) (n : Nat) : List Int := x.drop (min n x.length) ++ [((min n x.length : Nat) : Int)]
theorem cutD_ok {x : List Int} (hx : okC x) (hl : x.length ≤ 65536) (n : Nat) (hn : n ≤ 200) : okC (cutD x n) := by
  unfold cutD
  refine ⟨by simp; omega, fun y hy => ?_⟩
  rcases List.mem_append.1 hy with h | h
  · exact hx.2 y (List.mem_of_mem_drop h)
  · rw [List.mem_singleton] at h
    omega
theorem vcut (x : List Int) (hx : okC x) (hl : x.length ≤ 65536) (n : Nat) (hn : n ≤ 200) : ev E0 13 [.lst 1 (cd x), i64 n] [] = some (.sl 0 0 (cutD x n).length, [some ⟨5, 1, 1, false, cd (cutD x n)⟩]) := by
  rw [e13]
  unfold runF
  have hd : ∀ k, (cd x).drop k = cd (x.drop k) := fun k => by simp [cd, List.map_drop]
  have hw : ∀ k : Nat, k ≤ 200 → IntKind.u8.wrap (k : Int) = k := by
    intro k hk
    simp only [IntKind.wrap, IntKind.bits, IntKind.signed, Bool.false_and, Bool.false_eq_true, if_false]
    omega
  have ht : ∀ k : Nat, List.take (x.length - k) (cd (x.drop k)) = cd (x.drop k) := fun k => List.take_of_length_le (by simp [cd])
  have hc : ∀ (y : List Int) (k : Int), cd y ++ [AV.v (.int .u8 k)] = cd (y ++ [k]) := fun y k => by simp [cd]
  have hy : ∀ k : Nat, (cd (x.drop k)).length = x.length - k := fun k => by simp [cd]
  by_cases h : (x.length : Int) < (n : Int)
  · have hm : min n x.length = x.length := by omega
    have h1 := hw x.length (by omega)
    unfold cutD
    rw [hm]
    have hz := hd x.length
    have hz2 := hc (x.drop x.length) x.length
    simp -implicitDefEqProofs [L13, cd_len, h, h1, hz, ht]
    rfl
  · have hm : min n x.length = n := by omega
    have h1 := hw n (by omega)
    have h2 : (n : Int) ≤ (x.length : Int) := by omega
    have h3 : n ≤ x.length := by omega
    unfold cutD
    rw [hm]
    have hz := hd n
    have hz2 := hc (x.drop n) n
    simp -implicitDefEqProofs [L13, cd_len, h, h1, h2, h3, hz, ht]
    have l1 : x.length ≤ 140737488355328 + n := by omega
    have l2 : x.length ≤ 140737488355327 + n := by omega
    rw [if_pos l1, if_pos l2, ← hz2]
    by_cases he : cd (x.drop n) = []
    · have he2 : x.length - n = 0 := by rw [← hy n, he]; rfl
      rw [if_pos he, he, he2]
      rfl
    · rw [if_neg he]
/-- One of the first numbers of a row behind the memory. -/
theorem among_lo (x : List Int) (hx : okC x) (H ex : Hp) (id : Nat) (a s : Int) (h : hget H id = some (cu x a s)) (hs : Stable (H ++ ex)) (h0 : 0 ≤ a) (h1 : a ≤ 549755813888) (j : Nat) (l : List Int) (n : Nat) (hn : n ≤ l.length) (hp : 0 < n) (hg : ex[j]? = some (some ⟨3, 1, 1, false, l.map i64⟩)) :
    ∃ (a' s' : Int) (t : Int), a ≤ a' ∧ a' ≤ a + 2 ∧ t ∈ l ∧ ev E0 21 [.ptr id 0 0, .sl (H.length + j) 0 n] (H ++ ex) = some (i64 t, H.set id (some (cu x a' s')) ++ ex) := by
  have hid0 := id_lt h
  have h' := hget_app (ex := ex) h
  have hg' : hget (H ++ ex) (H.length + j) = some ⟨3, 1, 1, false, l.map i64⟩ := by
    unfold hget
    rw [List.getElem?_append_right (by omega), Nat.add_sub_cancel_left, hg]
  have hne : id ≠ H.length + j := by omega
  suffices hh : ∃ (a' s' : Int) (t : Int), a ≤ a' ∧ a' ≤ a + 2 ∧ t ∈ l ∧ ev E0 21 [.ptr id 0 0, .sl (H.length + j) 0 n] (H ++ ex) = some (i64 t, (H ++ ex).set id (some (cu x a' s'))) by
    obtain ⟨a', s', t, k1, k2, k3, e⟩ := hh
    exact ⟨a', s', t, k1, k2, k3, by rw [e, set_app h]⟩
  generalize H.length + j = id2 at *
  generalize H ++ ex = G at *
  obtain ⟨a', s', r, k1, k2, r0, r1, e⟩ := pick_ok x hx G id a s h' hs h0 h1 n
  obtain ⟨k, rfl⟩ : ∃ k : Nat, r = k := ⟨r.toNat, by omega⟩
  have hkn : k < n := by omega
  have hk : k < l.length := by omega
  refine ⟨a', s', l[k], k1, k2, List.getElem_mem hk, ?_⟩
  have hx2 : l[k]? = some l[k] := List.getElem?_eq_getElem hk
  generalize l[k] = t at *
  have hg2 : (G.set id (some (cu x a' s')))[id2]? = some (some ⟨3, 1, 1, false, l.map i64⟩) := by rw [List.getElem?_set_ne hne]; exact hget_some hg'
  have pk2 := pk_cu h' hs
  have hki : (k : Int) < (n : Int) := by omega
  have hg0 := hget_some hg'
  have hx3 : ∀ h, l[k]'h = t := fun h => (List.getElem?_eq_some_iff.1 hx2).2
  rw [e21]
  unfold runF
  simp -implicitDefEqProofs [L21, e, hx2, hx3, hg2, hk, hkn, hn, hki, hg0, -List.getElem?_set_ne, -pack, -packH, pk2]
theorem quo_b (r d q : Int) (hr : 0 ≤ r) (hd : 0 < d) (h : r < d * (q + 1)) (hq : 0 ≤ q) : 0 ≤ r.tdiv d ∧ r.tdiv d ≤ q := by
  rw [Int.tdiv_eq_ediv_of_nonneg hr]
  refine ⟨Int.ediv_nonneg hr (by omega), ?_⟩
  have := Int.ediv_lt_of_lt_mul hd (by rw [Int.mul_comm]; exact h)
  omega
theorem drawFill (x : List Int) (hx : okC x) : ∃ (l : List Int) (n : Int), l.length ≤ 200 ∧ ev E0 5 [.lst 1 (cd x)] [] = some (.tup [.sl 0 0 l.length, i64 n], [some (ib l)]) := by
  have hst : ∀ a s : Int, Stable [some (cu x a s)] := fun a s => ⟨by simp [oldIds, cu], rfl⟩
  obtain ⟨a1, s1, l, p1, q1, zl, e1⟩ := trace5_ok x hx [some (cu x 0 0)] 0 0 0 rfl (hst 0 0) (by omega) (by omega)
  have hst2 : ∀ (a s : Int) (r : List Int), Stable ([some (cu x a s)] ++ [some (ib l), some (ib r)]) := fun a s r => by
    have := stable_ib (stable_ib (hst a s) l) r
    rwa [List.append_assoc] at this
  obtain ⟨a2, s2, r, p2, q2, r0, r1, e2⟩ := pick_fx x hx [some (cu x a1 s1)] [some (ib l), some (ib [5, 8, 12, 2, 30, 1, 999, 0, 1000])] 0 a1 s1 rfl (hst2 a1 s1 _) (by omega) (by omega) 24
  obtain ⟨k0, k1⟩ := quo_b r 11 2 r0 (by omega) (by omega) (by omega)
  obtain ⟨m, hm⟩ : ∃ m : Nat, r.tdiv 11 = m := ⟨(r.tdiv 11).toNat, by omega⟩
  have hw1 : IntKind.i64.wrap (m : Int) = m := wr64 (by omega) (by omega)
  have hw2 : IntKind.i64.wrap (7 + (m : Int)) = ((7 + m : Nat) : Int) := by rw [wr64 (by omega) (by omega)]; omega
  obtain ⟨a3, s3, t, p3, q3, ht, e3⟩ := among_lo x hx [some (cu x a2 s2)] [some (ib l), some (ib [5, 8, 12, 2, 30, 1, 999, 0, 1000])] 0 a2 s2 rfl (hst2 a2 s2 _) (by omega) (by omega) 1 [5, 8, 12, 2, 30, 1, 999, 0, 1000] (7 + m) (by simp; omega) (by omega) rfl
  refine ⟨l, t, zl, ?_⟩
  have c1 : 7 + m ≤ 9 := by omega
  have c2 : (0 : Int) ≤ ((7 + m : Nat) : Int) ∧ ((7 + m : Nat) : Int) ≤ 9 := by omega
  simp only [List.set_cons_zero, List.length_cons, List.length_nil, List.cons_append, List.nil_append, cu, ib, Nat.zero_add, Nat.reduceAdd, List.map_cons, List.map_nil] at e1 e2 e3
  rw [e5]
  unfold runF ib
  simp -implicitDefEqProofs [-Int.natCast_add, L5, e1, e2, e3, hm, hw1, hw2, c1, c2.1, c2.2]
theorem drawJoin (x : List Int) (hx : okC x) : ∃ (l : List Int) (n : Int) (l2 : List Int), l.length ≤ 200 ∧ l2.length ≤ 200 ∧ ev E0 12 [.lst 1 (cd x)] [] = some (.tup [.sl 0 0 l.length, i64 n, .sl 1 0 l2.length], [some (ib l), some (ib l2)]) := by
  have hst : ∀ a s : Int, Stable [some (cu x a s)] := fun a s => ⟨by simp [oldIds, cu], rfl⟩
  obtain ⟨a1, s1, l, p1, q1, zl, e1⟩ := trace5_ok x hx [some (cu x 0 0)] 0 0 0 rfl (hst 0 0) (by omega) (by omega)
  have hst2 : ∀ (a s : Int) (r : List Int), Stable ([some (cu x a s)] ++ [some (ib l), some (ib r)]) := fun a s r => by
    have := stable_ib (stable_ib (hst a s) l) r
    rwa [List.append_assoc] at this
  obtain ⟨a2, s2, r, p2, q2, r0, r1, e2⟩ := pick_fx x hx [some (cu x a1 s1)] [some (ib l), some (ib [70, 30, 10, 1, 999, 0, 1000])] 0 a1 s1 rfl (hst2 a1 s1 _) (by omega) (by omega) 24
  obtain ⟨k0, k1⟩ := quo_b r 11 2 r0 (by omega) (by omega) (by omega)
  obtain ⟨m, hm⟩ : ∃ m : Nat, r.tdiv 11 = m := ⟨(r.tdiv 11).toNat, by omega⟩
  have hw1 : IntKind.i64.wrap (m : Int) = m := wr64 (by omega) (by omega)
  have hw2 : IntKind.i64.wrap (5 + (m : Int)) = ((5 + m : Nat) : Int) := by rw [wr64 (by omega) (by omega)]; omega
  obtain ⟨a3, s3, t, p3, q3, ht, e3⟩ := among_lo x hx [some (cu x a2 s2)] [some (ib l), some (ib [70, 30, 10, 1, 999, 0, 1000])] 0 a2 s2 rfl (hst2 a2 s2 _) (by omega) (by omega) 1 [70, 30, 10, 1, 999, 0, 1000] (5 + m) (by simp; omega) (by omega) rfl
  obtain ⟨a4, s4, l2, p4, q4, zl2, e4⟩ := trace5_ok x hx ([some (cu x a3 s3)] ++ [some (ib l), some (ib [70, 30, 10, 1, 999, 0, 1000])]) 0 a3 s3 rfl (hst2 a3 s3 _) (by omega) (by omega)
  refine ⟨l, t, l2, zl, zl2, ?_⟩
  have c1 : 5 + m ≤ 7 := by omega
  have c2 : (0 : Int) ≤ ((5 + m : Nat) : Int) ∧ ((5 + m : Nat) : Int) ≤ 7 := by omega
  simp only [List.set_cons_zero, List.length_cons, List.length_nil, List.cons_append, List.nil_append, cu, ib, Nat.zero_add, Nat.reduceAdd, List.map_cons, List.map_nil] at e1 e2 e3 e4
  rw [e12]
  unfold runF ib
  simp -implicitDefEqProofs [-Int.natCast_add, L12, e1, e2, e3, e4, hm, hw1, hw2, c1, c2.1, c2.2]
theorem drawStretch (x : List Int) (hx : okC x) : ∃ (l : List Int) (p q : Int), l.length ≤ 200 ∧ ev E0 16 [.lst 1 (cd x)] [] = some (.tup [.sl 0 0 l.length, i64 p, i64 q], [some (ib l)]) := by
  have hst : ∀ a s : Int, Stable [some (cu x a s)] := fun a s => ⟨by simp [oldIds, cu], rfl⟩
  obtain ⟨a1, s1, l, p1, q1, zl, e1⟩ := trace5_ok x hx [some (cu x 0 0)] 0 0 0 rfl (hst 0 0) (by omega) (by omega)
  have hst2 : ∀ (a s : Int) (r : List Int), Stable ([some (cu x a s)] ++ [some (ib l), some (ib r)]) := fun a s r => by
    have := stable_ib (stable_ib (hst a s) l) r
    rwa [List.append_assoc] at this
  have hst3 : ∀ (a s : Int) (r u : List Int), Stable ([some (cu x a s)] ++ [some (ib l), some (ib r), some (ib u)]) := fun a s r u => by
    have := stable_ib (hst2 a s r) u
    rwa [List.append_assoc] at this
  obtain ⟨a2, s2, r, p2, q2, r0, r1, e2⟩ := pick_fx x hx [some (cu x a1 s1)] [some (ib l), some (ib [2, 3, 1, 10, 99, 0])] 0 a1 s1 rfl (hst2 a1 s1 _) (by omega) (by omega) 24
  obtain ⟨k0, k1⟩ := quo_b r 22 1 r0 (by omega) (by omega) (by omega)
  obtain ⟨m, hm⟩ : ∃ m : Nat, r.tdiv 22 = m := ⟨(r.tdiv 22).toNat, by omega⟩
  have hw1 : IntKind.i64.wrap (m : Int) = m := wr64 (by omega) (by omega)
  have hw2 : IntKind.i64.wrap (5 + (m : Int)) = ((5 + m : Nat) : Int) := by rw [wr64 (by omega) (by omega)]; omega
  obtain ⟨a3, s3, t, p3, q3, ht, e3⟩ := among_lo x hx [some (cu x a2 s2)] [some (ib l), some (ib [2, 3, 1, 10, 99, 0])] 0 a2 s2 rfl (hst2 a2 s2 _) (by omega) (by omega) 1 [2, 3, 1, 10, 99, 0] (5 + m) (by simp; omega) (by omega) rfl
  obtain ⟨a4, s4, u, p4, q4, u0, u1, e4⟩ := pick_fx x hx [some (cu x a3 s3)] [some (ib l), some (ib [2, 3, 1, 10, 99, 0]), some (ib [1, 2, 3, 10, 99, 100])] 0 a3 s3 rfl (hst3 a3 s3 _ _) (by omega) (by omega) 24
  obtain ⟨j0, j1⟩ := quo_b u 22 1 u0 (by omega) (by omega) (by omega)
  obtain ⟨v, hv⟩ : ∃ m : Nat, u.tdiv 22 = m := ⟨(u.tdiv 22).toNat, by omega⟩
  have hw3 : IntKind.i64.wrap (v : Int) = v := wr64 (by omega) (by omega)
  have hw4 : IntKind.i64.wrap (5 + (v : Int)) = ((5 + v : Nat) : Int) := by rw [wr64 (by omega) (by omega)]; omega
  obtain ⟨a5, s5, w, p5, q5, hw, e5⟩ := among_lo x hx [some (cu x a4 s4)] [some (ib l), some (ib [2, 3, 1, 10, 99, 0]), some (ib [1, 2, 3, 10, 99, 100])] 0 a4 s4 rfl (hst3 a4 s4 _ _) (by omega) (by omega) 2 [1, 2, 3, 10, 99, 100] (5 + v) (by simp; omega) (by omega) rfl
  refine ⟨l, t, w, zl, ?_⟩
  have c1 : 5 + m ≤ 6 := by omega
  have c2 : (0 : Int) ≤ ((5 + m : Nat) : Int) ∧ ((5 + m : Nat) : Int) ≤ 6 := by omega
  have c3 : 5 + v ≤ 6 := by omega
  have c4 : (0 : Int) ≤ ((5 + v : Nat) : Int) ∧ ((5 + v : Nat) : Int) ≤ 6 := by omega
  simp only [List.set_cons_zero, List.length_cons, List.length_nil, List.cons_append, List.nil_append, cu, ib, Nat.zero_add, Nat.reduceAdd, List.map_cons, List.map_nil] at e1 e2 e3 e4 e5
  rw [e16]
  unfold runF ib
  simp -implicitDefEqProofs [-Int.natCast_add, L16, e1, e2, e3, e4, e5, hm, hv, hw1, hw2, hw3, hw4, c1, c2.1, c2.2, c3, c4.1, c4.2]
end Go.Proofs.Ytkdfgjijmnaljaa.Ev.Dr
