/- The draws of tables with a letter, with letters, with marks, with weights. -/
import Derived.Test.YtkajcafnfdlgpaaDoorEvDrawU
set_option linter.unusedVariables false
set_option linter.unusedSimpArgs false
namespace Go.Proofs.YtkajcafnfdlgpaaDoor.Ev.Dr
theorem st1 (x : List Int) (a s : Int) : Stable [some t0, some (cu x a s)] := ⟨by simp [oldIds, t0, cu], rfl⟩
theorem st2 (x : List Int) (a s : Int) : Stable [some t0, some (cu x a s), some t0] := ⟨by simp [oldIds, t0, cu], rfl⟩
theorem st3 (x : List Int) (a s : Int) (ms : List ByteArray) (n : Nat) : Stable [some t0, some (cu x a s), some (tr ms), some (tc 2 n)] := ⟨by simp [oldIds, t0, cu, tr, tc], rfl⟩
/-- A table drawn by the first cursor: none, or one. -/
theorem pre_tab (x : List Int) (hx : okC x) (a0 s0 : Int) (h0 : 0 ≤ a0) (h1 : a0 ≤ 100000000000) : ∃ a s : Int, a0 ≤ a ∧ a ≤ a0 + 2000 ∧ (ev E0 45 [.ptr 1 0 0] [some t0, some (cu x a0 s0)] = some (.agg [.v (.slice none 0 0)], [some t0, some (cu x a s)]) ∨
    ∃ ms : List ByteArray, ms.length ≤ 30 ∧ (∀ t ∈ ms, t.size ≤ 20) ∧ ev E0 45 [.ptr 1 0 0] [some t0, some (cu x a0 s0)] = some (.agg [.sl 2 0 ms.length], [some t0, some (cu x a s), some (tr ms)])) := by
  obtain ⟨a, s, p1, p2, h⟩ := table_ok x hx [some t0, some (cu x a0 s0)] 1 a0 s0 rfl (st1 x a0 s0) h0 h1
  exact ⟨a, s, p1, p2, h⟩
theorem pick_at (x : List Int) (hx : okC x) (H : Hp) (a s : Int) (h : hget H 1 = some (cu x a s)) (hs : Stable H) (h0 : 0 ≤ a) (h1 : a ≤ 100000000000) (n : Int) :
    ∃ a' s' r : Int, a ≤ a' ∧ a' ≤ a + 2 ∧ 0 ≤ r ∧ (r < n ∨ r = 0) ∧ ev E0 47 [.ptr 1 0 0, i64 n] H = some (i64 r, H.set 1 (some (cu x a' s'))) := by
  obtain ⟨a', s', r, k⟩ := pick_ok x hx H 1 a s h hs h0 (by omega) n
  exact ⟨a', s', r, k⟩
theorem most_d (a b : Int) : ev E0 78 [i64 a, i64 b] [] = some (i64 (if b < a then a else b), []) := by
  rw [e78]
  unfold runF
  by_cases h : b < a
  · simp -implicitDefEqProofs [L78, h]
  · simp -implicitDefEqProofs [L78, h]
/-- What a table is, behind a draw. -/
def TabR (T : AV) (H : Hp) : Prop := (T = .agg [.v (.slice none 0 0)] ∧ H = []) ∨ ∃ ms : List ByteArray, ms.length ≤ 30 ∧ (∀ t ∈ ms, t.size ≤ 20) ∧ T = .agg [.sl 0 0 ms.length] ∧ H = [some (tr ms)]
theorem drawMarks (x : List Int) (hx : okC x) : ∃ (T : AV) (H : Hp) (k : Int), TabR T H ∧ -10 ≤ k ∧ k ≤ 100 ∧ ev E0 39 [.lst 1 (cd x)] [] = some (.tup [T, i64 k], H) := by
  obtain ⟨a, s, p1, p2, h⟩ := pre_tab x hx 0 0 (by omega) (by omega)
  have tail : ∀ (H : Hp) (n : Int), hget H 1 = some (cu x a s) → (∀ a' s' : Int, Stable (H.set 1 (some (cu x a' s')))) → H.set 1 (some (cu x a s)) = H → 0 ≤ n → n ≤ 30 → ∃ a3 s3 r1 r2 r3, ∃ a1 s1 a2 s2 : Int, 0 ≤ r1 ∧ r1 ≤ 30 ∧ 0 ≤ r2 ∧ r2 < 24 ∧ 0 ≤ r3 ∧ r3 < 24 ∧
      ev E0 47 [.ptr 1 0 0, i64 (if n < 1 then 1 else n)] H = some (i64 r1, H.set 1 (some (cu x a1 s1))) ∧
      ev E0 47 [.ptr 1 0 0, i64 24] (H.set 1 (some (cu x a1 s1))) = some (i64 r2, H.set 1 (some (cu x a2 s2))) ∧
      ev E0 47 [.ptr 1 0 0, i64 24] (H.set 1 (some (cu x a2 s2))) = some (i64 r3, H.set 1 (some (cu x a3 s3))) := by
    intro H n hg hS hH hn0 hn
    have hid := id_lt hg
    obtain ⟨a1, s1, r1, q1, q2, q3, q4, e1⟩ := pick_at x hx H a s hg (by have := hS a s; rwa [hH] at this) (by omega) (by omega) (if n < 1 then 1 else n)
    obtain ⟨a2, s2, r2, u1, u2, u3, u4, e2⟩ := pick_at x hx (H.set 1 (some (cu x a1 s1))) a1 s1 (hget_cu hid) (hS _ _) (by omega) (by omega) 24
    obtain ⟨a3, s3, r3, v1, v2, v3, v4, e3⟩ := pick_at x hx (H.set 1 (some (cu x a2 s2))) a2 s2 (hget_cu (by simpa using hid)) (hS _ _) (by omega) (by omega) 24
    rw [List.set_set] at e2 e3
    refine ⟨a3, s3, r1, r2, r3, a1, s1, a2, s2, q3, ?_, u3, by omega, v3, by omega, e1, e2, e3⟩
    split at q4 <;> omega
  have hq : ∀ r : Int, 0 ≤ r → r < 24 → IntKind.i64.wrap (r.tdiv 23) = r / 23 := by
    intro r r0 r1
    rw [Int.tdiv_eq_ediv_of_nonneg r0]
    exact wr64 (by omega) (by omega)
  have hw1 : ∀ r1 r2 : Int, 0 ≤ r1 → r1 ≤ 30 → 0 ≤ r2 → r2 < 24 → IntKind.i64.wrap (r1 + r2 / 23) = r1 + r2 / 23 := fun r1 r2 _ _ _ _ => wr64 (by omega) (by omega)
  have hw2 : ∀ r1 r2 r3 : Int, 0 ≤ r1 → r1 ≤ 30 → 0 ≤ r2 → r2 < 24 → 0 ≤ r3 → r3 < 24 → IntKind.i64.wrap (r1 + r2 / 23 - r3 / 23) = r1 + r2 / 23 - r3 / 23 := fun r1 r2 r3 _ _ _ _ _ _ => wr64 (by omega) (by omega)
  rcases h with h | ⟨ms, z1, z2, h⟩
  · obtain ⟨a3, s3, r1, r2, r3, a1, s1, a2, s2, b1, b2, b3, b4, b5, b6, e1, e2, e3⟩ := tail [some t0, some (cu x a s), some t0] 0 rfl (fun a' s' => st2 x a' s') rfl (by omega) (by omega)
    refine ⟨.agg [.v (.slice none 0 0)], [], r1 + r2 / 23 - r3 / 23, .inl ⟨rfl, rfl⟩, by omega, by omega, ?_⟩
    rw [e39]
    unfold runF
    simp only [List.set_cons_succ, List.set_cons_zero, t0, cu] at h e1 e2 e3
    have m1 := most_d 1 0
    rw [show (if (0 : Int) < 1 then (1 : Int) else 0) = 1 from rfl] at m1 e1
    have k2 := hq r2 b3 b4
    have k3 := hq r3 b5 b6
    have k4 := hw1 r1 r2 b1 b2 b3 b4
    have k5 := hw2 r1 r2 r3 b1 b2 b3 b4 b5 b6
    simp -implicitDefEqProofs [L39, h, m1, e1, e2, e3, k2, k3, k4, k5]
  · obtain ⟨a3, s3, r1, r2, r3, a1, s1, a2, s2, b1, b2, b3, b4, b5, b6, e1, e2, e3⟩ := tail [some t0, some (cu x a s), some (tr ms), some (tc 2 ms.length)] ms.length rfl (fun a' s' => st3 x a' s' ms ms.length) rfl (by omega) (by omega)
    refine ⟨.agg [.sl 0 0 ms.length], [some (tr ms)], r1 + r2 / 23 - r3 / 23, .inr ⟨ms, z1, z2, rfl, rfl⟩, by omega, by omega, ?_⟩
    rw [e39]
    unfold runF
    simp only [List.set_cons_succ, List.set_cons_zero, t0, cu, tr, tc] at h e1 e2 e3 ⊢
    have m1 := most_d 1 ms.length
    have k2 := hq r2 b3 b4
    have k3 := hq r3 b5 b6
    have k4 := hw1 r1 r2 b1 b2 b3 b4
    have k5 := hw2 r1 r2 r3 b1 b2 b3 b4 b5 b6
    generalize hM : (if (ms.length : Int) < 1 then (1 : Int) else (ms.length : Int)) = mm at m1 e1
    simp -implicitDefEqProofs [L39, h, m1, e1, e2, e3, k2, k3, k4, k5]
theorem drawHeard (x : List Int) (hx : okC x) : ∃ (T : AV) (H : Hp) (k : Int), TabR T H ∧ -10 ≤ k ∧ k ≤ 100 ∧ ev E0 6 [.lst 1 (cd x)] [] = some (.tup [T, i64 k], H) := by
  obtain ⟨T, H, k, hT, b1, b2, e⟩ := drawMarks x hx
  refine ⟨T, H, k, hT, b1, b2, ?_⟩
  rw [e6]
  unfold runF
  rcases hT with ⟨rfl, rfl⟩ | ⟨ms, z1, z2, rfl, rfl⟩
  · simp -implicitDefEqProofs [L6, e]
  · unfold tr at e ⊢
    simp -implicitDefEqProofs [L6, e]
theorem drawAskedFor (x : List Int) (hx : okC x) : ∃ (T : AV) (H : Hp) (k : Int), TabR T H ∧ -10 ≤ k ∧ k ≤ 100 ∧ ev E0 32 [.lst 1 (cd x)] [] = some (.tup [T, i64 k], H) := by
  obtain ⟨T, H, k, hT, b1, b2, e⟩ := drawMarks x hx
  refine ⟨T, H, k, hT, b1, b2, ?_⟩
  rw [e32]
  unfold runF
  rcases hT with ⟨rfl, rfl⟩ | ⟨ms, z1, z2, rfl, rfl⟩
  · simp -implicitDefEqProofs [L32, e]
  · unfold tr at e ⊢
    simp -implicitDefEqProofs [L32, e]
theorem drawAnswer (x : List Int) (hx : okC x) : ∃ (T : AV) (H : Hp) (k q : Int), TabR T H ∧ -10 ≤ k ∧ k ≤ 100 ∧ -1 ≤ q ∧ q ≤ 5 ∧ ev E0 35 [.lst 1 (cd x)] [] = some (.tup [T, i64 k, i64 q], H) := by
  obtain ⟨T, H, k, hT, b1, b2, e⟩ := drawMarks x hx
  obtain ⟨a1, s1, r, p1, p2, p3, p4, e1⟩ := pick_at x hx [some t0, some (cu x 0 0)] 0 0 rfl (st1 x 0 0) (by omega) (by omega) 7
  have hw : IntKind.i64.wrap (r - 1) = r - 1 := wr64 (by omega) (by omega)
  refine ⟨T, H, k, r - 1, hT, b1, b2, by omega, by omega, ?_⟩
  rw [e35]
  unfold runF
  simp only [List.set_cons_succ, List.set_cons_zero, t0, cu] at e1
  rcases hT with ⟨rfl, rfl⟩ | ⟨ms, z1, z2, rfl, rfl⟩
  · simp -implicitDefEqProofs [L35, e, e1, hw]
  · unfold tr at e ⊢
    simp -implicitDefEqProofs [L35, e, e1, hw]
/-- What a table and numbers are, behind a draw. -/
def TabL (T L : AV) (H : Hp) (r : List Int) : Prop := (T = .agg [.v (.slice none 0 0)] ∧ L = .sl 0 0 r.length ∧ H = [some (ib r)]) ∨ ∃ ms : List ByteArray, ms.length ≤ 30 ∧ (∀ t ∈ ms, t.size ≤ 20) ∧ T = .agg [.sl 0 0 ms.length] ∧ L = .sl 1 0 r.length ∧ H = [some (tr ms), some (ib r)]
theorem drawLetters (x : List Int) (hx : okC x) : ∃ (T L : AV) (H : Hp) (r : List Int), TabL T L H r ∧ r.length ≤ 60 ∧ ev E0 68 [.lst 1 (cd x)] [] = some (.tup [T, L], H) := by
  obtain ⟨a, s, p1, p2, h⟩ := pre_tab x hx 0 0 (by omega) (by omega)
  rcases h with h | ⟨ms, z1, z2, h⟩
  · obtain ⟨a1, s1, r, q1, q2, q3, q4, e1⟩ := letters_ok x hx [some t0, some (cu x a s), some t0] 1 a s rfl (st2 x a s) (by omega) (by omega) 0 (by omega) (.v (.slice none 0 0)) (.inl ⟨rfl, rfl⟩)
    refine ⟨_, _, _, r, .inl ⟨rfl, rfl, rfl⟩, by omega, ?_⟩
    rw [e68]
    unfold runF
    simp only [List.set_cons_succ, List.set_cons_zero, List.cons_append, List.nil_append, List.length_cons, List.length_nil, Nat.zero_add, Nat.reduceAdd, t0, cu, ib] at h e1 ⊢
    simp -implicitDefEqProofs [L68, h, e1]
  · obtain ⟨a1, s1, r, q1, q2, q3, q4, e1⟩ := letters_ok x hx [some t0, some (cu x a s), some (tr ms), some (tc 2 ms.length)] 1 a s rfl (st3 x a s ms ms.length) (by omega) (by omega) ms.length (by omega) (.sl 2 0 ms.length) (.inr ⟨2, tr ms, rfl, by decide, rfl⟩)
    refine ⟨_, _, _, r, .inr ⟨ms, z1, z2, rfl, rfl, rfl⟩, by omega, ?_⟩
    rw [e68]
    unfold runF
    simp only [List.set_cons_succ, List.set_cons_zero, List.cons_append, List.nil_append, List.length_cons, List.length_nil, Nat.zero_add, Nat.reduceAdd, t0, cu, tr, tc, ib] at h e1 ⊢
    simp -implicitDefEqProofs [L68, h, e1]
theorem drawDepth (x : List Int) (hx : okC x) : ∃ (T L : AV) (H : Hp) (r : List Int), TabL T L H r ∧ r.length ≤ 60 ∧ ev E0 21 [.lst 1 (cd x)] [] = some (.tup [T, L], H) := by
  obtain ⟨T, L, H, r, hT, b, e⟩ := drawLetters x hx
  refine ⟨T, L, H, r, hT, b, ?_⟩
  rw [e21]
  unfold runF
  rcases hT with ⟨rfl, rfl, rfl⟩ | ⟨ms, z1, z2, rfl, rfl, rfl⟩
  · unfold ib at e ⊢
    simp -implicitDefEqProofs [L21, e]
  · unfold tr ib at e ⊢
    simp -implicitDefEqProofs [L21, e]
theorem drawPart (x : List Int) (hx : okC x) : ∃ (T L : AV) (H : Hp) (r : List Int) (q : Int), TabL T L H r ∧ r.length ≤ 60 ∧ -1 ≤ q ∧ q ≤ 5 ∧ ev E0 18 [.lst 1 (cd x)] [] = some (.tup [T, L, i64 q], H) := by
  obtain ⟨a0, s0, r0, o1, o2, o3, o4, e0⟩ := pick_at x hx [some t0, some (cu x 0 0)] 0 0 rfl (st1 x 0 0) (by omega) (by omega) 7
  have hw : IntKind.i64.wrap (r0 - 1) = r0 - 1 := wr64 (by omega) (by omega)
  obtain ⟨a, s, p1, p2, h⟩ := pre_tab x hx a0 s0 (by omega) (by omega)
  rcases h with h | ⟨ms, z1, z2, h⟩
  · obtain ⟨a1, s1, r, q1, q2, q3, q4, e1⟩ := letters_ok x hx [some t0, some (cu x a s), some t0] 1 a s rfl (st2 x a s) (by omega) (by omega) 0 (by omega) (.v (.slice none 0 0)) (.inl ⟨rfl, rfl⟩)
    refine ⟨_, _, _, r, r0 - 1, .inl ⟨rfl, rfl, rfl⟩, by omega, by omega, by omega, ?_⟩
    rw [e18]
    unfold runF
    simp only [List.set_cons_succ, List.set_cons_zero, List.cons_append, List.nil_append, List.length_cons, List.length_nil, Nat.zero_add, Nat.reduceAdd, t0, cu, ib] at h e0 e1 ⊢
    simp -implicitDefEqProofs [L18, h, e0, e1, hw]
  · obtain ⟨a1, s1, r, q1, q2, q3, q4, e1⟩ := letters_ok x hx [some t0, some (cu x a s), some (tr ms), some (tc 2 ms.length)] 1 a s rfl (st3 x a s ms ms.length) (by omega) (by omega) ms.length (by omega) (.sl 2 0 ms.length) (.inr ⟨2, tr ms, rfl, by decide, rfl⟩)
    refine ⟨_, _, _, r, r0 - 1, .inr ⟨ms, z1, z2, rfl, rfl, rfl⟩, by omega, by omega, by omega, ?_⟩
    rw [e18]
    unfold runF
    simp only [List.set_cons_succ, List.set_cons_zero, List.cons_append, List.nil_append, List.length_cons, List.length_nil, Nat.zero_add, Nat.reduceAdd, t0, cu, tr, tc, ib] at h e0 e1 ⊢
    simp -implicitDefEqProofs [L18, h, e0, e1, hw]
theorem drawBehind (x : List Int) (hx : okC x) : ∃ (T : AV) (H : Hp) (m : ByteArray), TabR T H ∧ m.size ≤ 20 ∧ ev E0 9 [.lst 1 (cd x)] [] = some (.tup [T, st m], H) := by
  obtain ⟨a, s, p1, p2, h⟩ := pre_tab x hx 0 0 (by omega) (by omega)
  rcases h with h | ⟨ms, z1, z2, h⟩
  · obtain ⟨a1, s1, m, q1, q2, q3, e1⟩ := marks_ok x hx [some t0, some (cu x a s), some t0] 1 a s rfl (st2 x a s) (by omega) (by omega) 5 (by omega)
    refine ⟨_, _, m, .inl ⟨rfl, rfl⟩, q3, ?_⟩
    rw [e9]
    unfold runF
    simp only [List.set_cons_succ, List.set_cons_zero, t0, cu] at h e1 ⊢
    simp -implicitDefEqProofs [L9, h, e1]
  · by_cases hn : 0 < ms.length
    · obtain ⟨a1, s1, q, q1, q2, e1⟩ := one_ok x hx [some t0, some (cu x a s), some (tr ms), some (tc 2 ms.length)] 1 a s rfl (st3 x a s ms ms.length) (by omega) (by omega) 3
      cases q with
      | true =>
        obtain ⟨a2, s2, m, u1, u2, u3, e2⟩ := marks_ok x hx [some t0, some (cu x a1 s1), some (tr ms), some (tc 2 ms.length)] 1 a1 s1 rfl (st3 x a1 s1 ms ms.length) (by omega) (by omega) 5 (by omega)
        refine ⟨_, _, m, .inr ⟨ms, z1, z2, rfl, rfl⟩, u3, ?_⟩
        rw [e9]
        unfold runF
        simp only [List.set_cons_succ, List.set_cons_zero, t0, cu, tr, tc] at h e1 e2 ⊢
        simp -implicitDefEqProofs [L9, h, e1, e2, hn]
      | false =>
        obtain ⟨a2, s2, r, u1, u2, u3, u4, e2⟩ := pick_at x hx [some t0, some (cu x a1 s1), some (tr ms), some (tc 2 ms.length)] a1 s1 rfl (st3 x a1 s1 ms ms.length) (by omega) (by omega) ms.length
        obtain ⟨i, rfl⟩ : ∃ i : Nat, r = i := ⟨r.toNat, by omega⟩
        have hi : i < ms.length := by omega
        have hsz : ms[i].size ≤ 20 := z2 _ (List.getElem_mem hi)
        obtain ⟨a3, s3, r, v1, v2, v3, v4, e3⟩ := pick_at x hx [some t0, some (cu x a2 s2), some (tr ms), some (tc 2 ms.length)] a2 s2 rfl (st3 x a2 s2 ms ms.length) (by omega) (by omega) ((ms[i].size : Int) + 1)
        obtain ⟨j, rfl⟩ : ∃ j : Nat, r = j := ⟨r.toNat, by omega⟩
        have hj : j ≤ ms[i].size := by omega
        have hw : IntKind.i64.wrap ((ms[i].size : Int) + 1) = (ms[i].size : Int) + 1 := wr64 (by omega) (by omega)
        refine ⟨_, _, ms[i].extract 0 j, .inr ⟨ms, z1, z2, rfl, rfl⟩, by simp; omega, ?_⟩
        rw [e9]
        unfold runF
        simp only [List.set_cons_succ, List.set_cons_zero, t0, cu, tr, tc] at h e1 e2 e3 ⊢
        simp -implicitDefEqProofs [L9, h, e1, e2, e3, hn, hi, hj, hw]
    · have hn0 : ms = [] := List.eq_nil_of_length_eq_zero (by omega)
      subst hn0
      obtain ⟨a1, s1, m, q1, q2, q3, e1⟩ := marks_ok x hx [some t0, some (cu x a s), some (tr []), some (tc 2 0)] 1 a s rfl (st3 x a s [] 0) (by omega) (by omega) 5 (by omega)
      refine ⟨_, _, m, .inr ⟨[], z1, z2, rfl, rfl⟩, q3, ?_⟩
      rw [e9]
      unfold runF
      simp only [List.set_cons_succ, List.set_cons_zero, t0, cu, tr, tc, List.map_nil, List.length_nil] at h e1 ⊢
      simp -implicitDefEqProofs [L9, h, e1]
end Go.Proofs.YtkajcafnfdlgpaaDoor.Ev.Dr
