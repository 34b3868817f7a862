/- The draws of the law on mistaken letters. -/
import Derived.Test.YtgecnbafmlecjaaGreatDoorEvDrawN2
import Derived.Test.YtgecnbafmlecjaaGreatDoorEvDrawM
set_option linter.unusedVariables false
set_option linter.unusedSimpArgs false
set_option maxHeartbeats 2000000
namespace Go.Proofs.YtgecnbafmlecjaaGreatDoor.Ev.Dr
/-- One of the first numbers of a row behind the memory. -/
theorem among_lo (x : List Int) (hx : okC x) (H ex : Hp) (id : Nat) (a s : Int) (h : hget H id = some (cu x a s)) (hs : Stable (H ++ ex)) (h0 : 0 ≤ a) (h1 : a ≤ 549755813888) (j : Nat) (l : List Int) (n : Nat) (hn : n ≤ l.length) (hp : 0 < n) (hg : ex[j]? = some (some ⟨3, 1, 1, false, l.map i64⟩)) :
    ∃ (a' s' : Int) (t : Int), a ≤ a' ∧ a' ≤ a + 2 ∧ t ∈ l ∧ ev E0 39 [.ptr id 0 0, .sl (H.length + j) 0 n] (H ++ ex) = some (i64 t, H.set id (some (cu x a' s')) ++ ex) := by
  have hid0 := id_lt h
  have h' := hget_app (ex := ex) h
  have hg' : hget (H ++ ex) (H.length + j) = some ⟨3, 1, 1, false, l.map i64⟩ := by
    unfold hget
    rw [List.getElem?_append_right (by omega), Nat.add_sub_cancel_left, hg]
  have hne : id ≠ H.length + j := by omega
  suffices hh : ∃ (a' s' : Int) (t : Int), a ≤ a' ∧ a' ≤ a + 2 ∧ t ∈ l ∧ ev E0 39 [.ptr id 0 0, .sl (H.length + j) 0 n] (H ++ ex) = some (i64 t, (H ++ ex).set id (some (cu x a' s'))) by
    obtain ⟨a', s', t, k1, k2, k3, e⟩ := hh
    exact ⟨a', s', t, k1, k2, k3, by rw [e, set_app h]⟩
  generalize H.length + j = id2 at *
  generalize H ++ ex = G at *
  obtain ⟨a', s', r, k1, k2, r0, r1, e⟩ := pick_ok x hx G id a s h' hs h0 h1 n
  obtain ⟨k, rfl⟩ : ∃ k : Nat, r = k := ⟨r.toNat, by omega⟩
  have hkn : k < n := by omega
  have hk : k < l.length := by omega
  refine ⟨a', s', l[k], k1, k2, List.getElem_mem hk, ?_⟩
  have hx2 : l[k]? = some l[k] := List.getElem?_eq_getElem hk
  generalize l[k] = t at *
  have hg2 : (G.set id (some (cu x a' s')))[id2]? = some (some ⟨3, 1, 1, false, l.map i64⟩) := by rw [List.getElem?_set_ne hne]; exact hget_some hg'
  have pk2 := pk_cu h' hs
  have hki : (k : Int) < (n : Int) := by omega
  have hg0 := hget_some hg'
  have hx3 : ∀ h, l[k]'h = t := fun h => (List.getElem?_eq_some_iff.1 hx2).2
  rw [e39]
  unfold runF
  simp -implicitDefEqProofs [L39, e, hx2, hx3, hg2, hk, hkn, hn, hki, hg0, -List.getElem?_set_ne, -pack, -packH, pk2]
def TabQ (T : AV) (H : Hp) (ms : List ByteArray) : Prop := (T = .v (.slice none 0 0) ∧ ms = [] ∧ H = []) ∨ (T = .sl 0 0 ms.length ∧ H = [some (tr ms)])
theorem st30 (x : List Int) (a s : Int) : Stable [some t0, some (nb 0 0), some (cu x a s)] := ⟨by simp [oldIds, t0, nb, cu], rfl⟩
/-- A table drawn by the cursor behind a table's and a noise's place. -/
theorem pre_tab3 (x : List Int) (hx : okC x) : ∃ (a s : Int) (ms : List ByteArray) (T : AV) (ex : Hp), 0 ≤ a ∧ a ≤ 2000 ∧ ms.length ≤ 30 ∧ (∀ t ∈ ms, t.size ≤ 20) ∧ ((T = .v (.slice none 0 0) ∧ ms = [] ∧ ex = []) ∨ (T = .sl 3 0 ms.length ∧ ex = [some (tr ms)])) ∧
    ev E0 22 [.ptr 2 0 0] [some t0, some (nb 0 0), some (cu x 0 0)] = some (.agg [T], [some t0, some (nb 0 0), some (cu x a s)] ++ ex) ∧ (∀ a' s' : Int, Stable ([some t0, some (nb 0 0), some (cu x a' s')] ++ (ex ++ [some (tv T)]))) ∧ (∀ a' s' : Int, TabM ([some t0, some (nb 0 0), some (cu x a' s')] ++ (ex ++ [some (tv T)])) 2 ms T) := by
  obtain ⟨a, s, ms, T, ex, p1, q1, zl, zt, hT, e⟩ := table_tab x hx [some t0, some (nb 0 0), some (cu x 0 0)] 2 0 0 rfl (st30 x 0 0) (by omega) (by omega)
  refine ⟨a, s, ms, T, ex, by omega, by omega, zl, zt, hT, e, ?_, ?_⟩
  · intro a' s'
    rcases hT with ⟨rfl, rfl, rfl⟩ | ⟨rfl, rfl⟩
    · exact stable_tv (id := 2) (st30 x a' s') (.inl ⟨rfl, rfl⟩)
    · have h1 := stable_leaf (st30 x a' s') (b := tr ms) ⟨rfl, fun _ => rfl⟩
      have h2 := stable_tv (id := 2) (ms := ms) (T := .sl 3 0 ms.length) h1 (.inr ⟨3, false, rfl, by decide, rfl⟩)
      rwa [List.append_assoc] at h2
  · intro a' s'
    rcases hT with ⟨rfl, rfl, rfl⟩ | ⟨rfl, rfl⟩
    · exact .inl ⟨rfl, rfl⟩
    · exact .inr ⟨3, false, rfl, by decide, rfl⟩
theorem drawMW (x : List Int) (hx : okC x) : ∃ (T : AV) (H : Hp) (ms : List ByteArray) (u v : Int) (m : ByteArray), ms.length ≤ 30 ∧ (∀ t ∈ ms, t.size ≤ 20) ∧ m.size ≤ 30 ∧ TabQ T H ms ∧ ev E0 5 [.lst 1 (cd x)] [] = some (.tup [.agg [T], .agg [i64 u, i64 v], st m], H) := by
  obtain ⟨a, s, ms, T, ex, p1, q1, zl, zt, hT, e1, hst, htm⟩ := pre_tab3 x hx
  obtain ⟨a2, s2, u, v, p2, q2, e2⟩ := noise7_ok x hx _ 2 a s rfl (hst a s) (by omega) (by omega)
  obtain ⟨a3, s3, m, p3, q3, zm, e3⟩ := message_ok x hx _ 2 a2 s2 rfl (hst a2 s2) (by omega) (by omega) ms (by omega) T (htm a2 s2)
  have sc : ∀ (a' s' a'' s'' : Int) (R : Hp), ([some t0, some (nb 0 0), some (cu x a' s')] ++ R).set 2 (some (cu x a'' s'')) = [some t0, some (nb 0 0), some (cu x a'' s'')] ++ R := fun _ _ _ _ _ => rfl
  rw [sc] at e2 e3
  rcases hT with ⟨rfl, rfl, rfl⟩ | ⟨rfl, rfl⟩
  · refine ⟨_, _, [], u, v, m, zl, zt, zm, .inl ⟨rfl, rfl, rfl⟩, ?_⟩
    simp only [tv, t0, nb, cu, tr, List.nil_append, List.cons_append] at e1 e2 e3
    rw [e5]
    unfold runF
    simp (maxSteps := 1000000) -implicitDefEqProofs [L5, e1, e2, e3]
  · refine ⟨_, _, ms, u, v, m, zl, zt, zm, .inr ⟨rfl, rfl⟩, ?_⟩
    unfold tr
    simp only [tv, t0, nb, cu, tr, List.nil_append, List.cons_append] at e1 e2 e3
    rw [e5]
    unfold runF
    simp (maxSteps := 1000000) -implicitDefEqProofs [L5, e1, e2, e3]
theorem stT1 (x : List Int) (a s : Int) : Stable [some t0, some (cu x a s)] := ⟨by simp [oldIds, t0, cu], rfl⟩
def l6 : List Int := [1, 2, 3, 5, 0, 6]
theorem drawCP (x : List Int) (hx : okC x) : ∃ (T : AV) (H : Hp) (ms : List ByteArray) (d : Int), ms.length ≤ 30 ∧ (∀ t ∈ ms, t.size ≤ 20) ∧ TabQ T H ms ∧ -10 ≤ d ∧ d ≤ 10 ∧ ev E0 12 [.lst 1 (cd x)] [] = some (.tup [.agg [T], i64 d], H) := by
  obtain ⟨a, s, ms, T, ex, p1, q1, zl, zt, hT, e1⟩ := table_tab x hx [some t0, some (cu x 0 0)] 1 0 0 rfl (stT1 x 0 0) (by omega) (by omega)
  have hS : ∀ a s : Int, Stable ([some t0, some (cu x a s)] ++ (ex ++ [some (ib l6)])) := by
    intro a s
    rcases hT with ⟨rfl, rfl, rfl⟩ | ⟨rfl, rfl⟩
    · exact stable_leaf (stT1 x a s) (leaf_ib l6)
    · exact stable_leaf (stable_leaf (stT1 x a s) (b := tr ms) ⟨rfl, fun _ => rfl⟩) (leaf_ib l6)
  obtain ⟨a2, s2, r, p2, q2, r0, r1, e2⟩ := pick_fx x hx [some t0, some (cu x a s)] (ex ++ [some (ib l6)]) 1 a s rfl (hS a s) (by omega) (by omega) 24
  obtain ⟨k, rfl⟩ : ∃ k : Nat, r = k := ⟨r.toNat, by omega⟩
  obtain ⟨q, hq⟩ : ∃ q : Nat, k / 11 = q := ⟨_, rfl⟩
  have hqd : IntKind.i64.wrap (Int.tdiv (k : Int) 11) = (q : Int) := by
    rw [show Int.tdiv (k : Int) 11 = ((k / 11 : Nat) : Int) from rfl, hq]
    exact wr64 (by omega) (by omega)
  obtain ⟨a3, s3, d, p3, q3, hd, e3⟩ := among_lo x hx [some t0, some (cu x a2 s2)] (ex ++ [some (ib l6)]) 1 a2 s2 rfl (hS a2 s2) (by omega) (by omega) ex.length l6 (4 + q) (by show 4 + q ≤ 6; omega) (by omega) (by simp [ib])
  have hdb : -10 ≤ d ∧ d ≤ 10 := by
    simp only [l6, List.mem_cons, List.not_mem_nil, or_false] at hd
    omega
  have hq2 : q = 0 ∨ q = 1 ∨ q = 2 := by omega
  rcases hT with ⟨rfl, rfl, rfl⟩ | ⟨rfl, rfl⟩ <;> rcases hq2 with rfl | rfl | rfl
  · have hqd2 : IntKind.i64.wrap ((k : Int) / 11) = 0 := by rw [wr64 (by omega) (by omega)]; omega
    have w4 : IntKind.i64.wrap (4 + 0) = 4 := rfl
    have w5 : IntKind.i64.wrap 4 = 4 := rfl
    refine ⟨_, _, [], d, zl, zt, .inl ⟨rfl, rfl, rfl⟩, hdb.1, hdb.2, ?_⟩
    simp only [t0, cu, tr, ib, l6, List.map_cons, List.map_nil, List.set_cons_succ, List.set_cons_zero, List.nil_append, List.cons_append, List.length_cons, List.length_nil, Nat.zero_add, Nat.reduceAdd, Nat.add_zero] at e1 e2 e3
    rw [e12]
    unfold runF
    simp (maxSteps := 1000000) -implicitDefEqProofs [L12, e1, e2, e3, hqd2, w4, w5]
  · have hqd2 : IntKind.i64.wrap ((k : Int) / 11) = 1 := by rw [wr64 (by omega) (by omega)]; omega
    have w4 : IntKind.i64.wrap (4 + 1) = 5 := rfl
    have w5 : IntKind.i64.wrap 5 = 5 := rfl
    refine ⟨_, _, [], d, zl, zt, .inl ⟨rfl, rfl, rfl⟩, hdb.1, hdb.2, ?_⟩
    simp only [t0, cu, tr, ib, l6, List.map_cons, List.map_nil, List.set_cons_succ, List.set_cons_zero, List.nil_append, List.cons_append, List.length_cons, List.length_nil, Nat.zero_add, Nat.reduceAdd, Nat.add_zero] at e1 e2 e3
    rw [e12]
    unfold runF
    simp (maxSteps := 1000000) -implicitDefEqProofs [L12, e1, e2, e3, hqd2, w4, w5]
  · have hqd2 : IntKind.i64.wrap ((k : Int) / 11) = 2 := by rw [wr64 (by omega) (by omega)]; omega
    have w4 : IntKind.i64.wrap (4 + 2) = 6 := rfl
    have w5 : IntKind.i64.wrap 6 = 6 := rfl
    refine ⟨_, _, [], d, zl, zt, .inl ⟨rfl, rfl, rfl⟩, hdb.1, hdb.2, ?_⟩
    simp only [t0, cu, tr, ib, l6, List.map_cons, List.map_nil, List.set_cons_succ, List.set_cons_zero, List.nil_append, List.cons_append, List.length_cons, List.length_nil, Nat.zero_add, Nat.reduceAdd, Nat.add_zero] at e1 e2 e3
    rw [e12]
    unfold runF
    simp (maxSteps := 1000000) -implicitDefEqProofs [L12, e1, e2, e3, hqd2, w4, w5]
  · have hqd2 : IntKind.i64.wrap ((k : Int) / 11) = 0 := by rw [wr64 (by omega) (by omega)]; omega
    have w4 : IntKind.i64.wrap (4 + 0) = 4 := rfl
    have w5 : IntKind.i64.wrap 4 = 4 := rfl
    refine ⟨_, _, ms, d, zl, zt, .inr ⟨rfl, rfl⟩, hdb.1, hdb.2, ?_⟩
    simp only [t0, cu, tr, ib, l6, List.map_cons, List.map_nil, List.set_cons_succ, List.set_cons_zero, List.nil_append, List.cons_append, List.length_cons, List.length_nil, Nat.zero_add, Nat.reduceAdd, Nat.add_zero] at e1 e2 e3
    unfold tr
    rw [e12]
    unfold runF
    simp (maxSteps := 1000000) -implicitDefEqProofs [L12, e1, e2, e3, hqd2, w4, w5]
  · have hqd2 : IntKind.i64.wrap ((k : Int) / 11) = 1 := by rw [wr64 (by omega) (by omega)]; omega
    have w4 : IntKind.i64.wrap (4 + 1) = 5 := rfl
    have w5 : IntKind.i64.wrap 5 = 5 := rfl
    refine ⟨_, _, ms, d, zl, zt, .inr ⟨rfl, rfl⟩, hdb.1, hdb.2, ?_⟩
    simp only [t0, cu, tr, ib, l6, List.map_cons, List.map_nil, List.set_cons_succ, List.set_cons_zero, List.nil_append, List.cons_append, List.length_cons, List.length_nil, Nat.zero_add, Nat.reduceAdd, Nat.add_zero] at e1 e2 e3
    unfold tr
    rw [e12]
    unfold runF
    simp (maxSteps := 1000000) -implicitDefEqProofs [L12, e1, e2, e3, hqd2, w4, w5]
  · have hqd2 : IntKind.i64.wrap ((k : Int) / 11) = 2 := by rw [wr64 (by omega) (by omega)]; omega
    have w4 : IntKind.i64.wrap (4 + 2) = 6 := rfl
    have w5 : IntKind.i64.wrap 6 = 6 := rfl
    refine ⟨_, _, ms, d, zl, zt, .inr ⟨rfl, rfl⟩, hdb.1, hdb.2, ?_⟩
    simp only [t0, cu, tr, ib, l6, List.map_cons, List.map_nil, List.set_cons_succ, List.set_cons_zero, List.nil_append, List.cons_append, List.length_cons, List.length_nil, Nat.zero_add, Nat.reduceAdd, Nat.add_zero] at e1 e2 e3
    unfold tr
    rw [e12]
    unfold runF
    simp (maxSteps := 1000000) -implicitDefEqProofs [L12, e1, e2, e3, hqd2, w4, w5]
end Go.Proofs.YtgecnbafmlecjaaGreatDoor.Ev.Dr
