/- The draws of the laws on mistakes. -/
import Derived.Test.YtodcochnciadjaaDoorEvDrawV
set_option linter.unusedVariables false
set_option linter.unusedSimpArgs false
namespace Go.Proofs.YtodcochnciadjaaDoor.Ev.Dr
def apt : List ByteArray := [⟨#[46, 46, 46]⟩, ⟨#[45, 45, 45]⟩, ⟨#[46, 46, 46, 46, 46]⟩, ⟨#[45, 45, 45, 45, 45]⟩, ⟨#[46]⟩, ⟨#[45, 46, 45, 46, 45]⟩, ⟨#[46, 46, 45, 45]⟩, ⟨#[45, 45, 46, 46]⟩]
theorem stA (x : List Int) (a s : Int) (n : Nat) (ms l : List ByteArray) : Stable [some t0, some (cu x a s), some t0, some (tc 4 n), some (tr ms), some (tr l)] := ⟨by simp [oldIds, t0, cu, tc, tr], rfl⟩
theorem apt_loop (x : List Int) (hx : okC x) : ∀ (m : Nat) (a s : Int) (ms : List ByteArray), 0 ≤ a → a + 30 * m ≤ 200000000 → ms.length + m ≤ 20 → (∀ t ∈ ms, t.size ≤ 20) →
    ∃ (a' s' : Int) (ms' : List ByteArray), ms'.length ≤ ms.length + m ∧ (∀ t ∈ ms', t.size ≤ 20) ∧
    packX 2 [2, 3] (loopW (bd E0 (ev E0) loopW 2 [0, 2, 3, 4] L48b0) ⟨[(0, .ptr 1 0 0), (2, .ptr 2 0 0), (3, .ptr 3 0 0), (4, i64 m)], [some t0, some (cu x a s), some t0, some (tc 4 ms.length), some (tr ms)]⟩) =
      some (.ext 0, ⟨[(2, .ptr 2 0 0), (3, .ptr 3 0 0)], [some t0, some (cu x a' s'), some t0, some (tc 4 ms'.length), some (tr ms')]⟩) := by
  intro m
  induction m with
  | zero =>
    intro a s ms h0 h1 h2 h3
    refine ⟨a, s, ms, by omega, h3, ?_⟩
    unfold t0 tc tr cu
    rw [loopW_eq]
    generalize loopW (bd E0 (ev E0) loopW 2 [0, 2, 3, 4] L48b0) = K
    simp -implicitDefEqProofs [bd, L48b0]
  | succ m ih =>
    intro a s ms h0 h1 h2 h3
    obtain ⟨a1, s1, t, p1, q1, ht, e1⟩ := of_ok x hx [some t0, some (cu x a s), some t0, some (tc 4 ms.length), some (tr ms), some (tr apt)] 1 a s rfl (stA x a s _ ms apt) h0 (by omega) 5 (by decide) apt 8 rfl (by decide) rfl
    have zt : t.size ≤ 20 := by
      simp only [apt, List.mem_cons, List.not_mem_nil, or_false] at ht
      rcases ht with h | h | h | h | h | h | h | h <;> subst h <;> decide
    have e2 := place_s ms (by omega) t
    have hw : IntKind.i64.wrap (m : Int) = m := wr64 (by omega) (by omega)
    have hp0 : (0 : Int) < (m : Int) + 1 := by omega
    have hp1 : 0 < m + 1 := by omega
    have htk : List.take ms.length (ms.map st) = ms.map st := List.take_of_length_le (by simp)
    by_cases hpl : place t ms 0 < 0
    · obtain ⟨a', s', ms', k3, k4, k6⟩ := ih a1 s1 (ms ++ [t]) (by omega) (by omega) (by simp; omega) (by
        intro u hu
        rcases List.mem_append.1 hu with hu | hu
        · exact h3 u hu
        · rw [List.mem_singleton.1 hu]; exact zt)
      rw [List.length_append, List.length_singleton] at k3
      refine ⟨a', s', ms', by omega, k4, ?_⟩
      have hl1 : (ms.length + 1) * 16 ≤ 140737488355328 := by omega
      have hl2 : ms.length + 1 ≤ 140737488355328 := by omega
      rw [List.length_append, List.length_singleton] at k6
      simp only [t0, tr, tc, cu, apt, List.map_cons, List.map_nil, List.map_append, List.set_cons_succ, List.set_cons_zero] at e1 k6 ⊢
      rw [cs1, loopW_eq]
      generalize loopW (bd E0 (ev E0) loopW 2 [0, 2, 3, 4] L48b0) = K at k6 ⊢
      simpa -implicitDefEqProofs [bd, L48b0, e1, e2, hpl, hw, hp0, hp1, htk, hl1, hl2] using k6
    · obtain ⟨a', s', ms', k3, k4, k6⟩ := ih a1 s1 ms (by omega) (by omega) (by omega) h3
      refine ⟨a', s', ms', by omega, k4, ?_⟩
      simp only [t0, tr, tc, cu, apt, List.map_cons, List.map_nil, List.map_append, List.set_cons_succ, List.set_cons_zero] at e1 k6 ⊢
      rw [cs1, loopW_eq]
      generalize loopW (bd E0 (ev E0) loopW 2 [0, 2, 3, 4] L48b0) = K at k6 ⊢
      simpa -implicitDefEqProofs [bd, L48b0, e1, e2, hpl, hw, hp0, hp1, htk] using k6
def am4 : List Int := [2, 3, 2, 4]
theorem stA2 (x : List Int) (a s : Int) (l : List Int) : Stable [some t0, some (cu x a s), some t0, some (tr []), some (tc 3 0), some (⟨3, 1, 1, false, l.map i64⟩ : Blk)] := ⟨by simp [oldIds, t0, cu, tc, tr], rfl⟩
theorem apart_ok (x : List Int) (hx : okC x) : ∃ (a s : Int), (ev E0 48 [.ptr 1 0 0] [some t0, some (cu x 0 0)] = some (.agg [.v (.slice none 0 0)], [some t0, some (cu x a s)]) ∨
    ∃ ms : List ByteArray, ms.length ≤ 30 ∧ (∀ t ∈ ms, t.size ≤ 20) ∧ ev E0 48 [.ptr 1 0 0] [some t0, some (cu x 0 0)] = some (.agg [.sl 2 0 ms.length], [some t0, some (cu x a s), some (tr ms)])) := by
  obtain ⟨a1, s1, b, p1, q1, e1⟩ := one_ok x hx [some t0, some (cu x 0 0), some t0] 1 0 0 rfl (st2 x 0 0) (by omega) (by omega) 3
  cases b with
  | true =>
    obtain ⟨a2, s2, p2, q2, e2⟩ := table_ok x hx [some t0, some (cu x a1 s1), some t0] 1 a1 s1 rfl (st2 x a1 s1) (by omega) (by omega)
    refine ⟨a2, s2, ?_⟩
    rcases e2 with e2 | ⟨ms, m1, m2, e2⟩
    · left
      simp only [t0, tr, tc, cu, List.set_cons_succ, List.set_cons_zero, List.length_cons, List.length_nil] at e1 e2 ⊢
      rw [e48]
      unfold runF
      simp -implicitDefEqProofs [L48, e1, e2]
    · refine .inr ⟨ms, m1, m2, ?_⟩
      simp only [t0, tr, tc, cu, List.set_cons_succ, List.set_cons_zero, List.length_cons, List.length_nil, List.cons_append, List.nil_append, Nat.zero_add, Nat.reduceAdd] at e1 e2 ⊢
      rw [e48]
      unfold runF
      simp -implicitDefEqProofs [L48, e1, e2]
  | false =>
    obtain ⟨a2, s2, k, p2, q2, hk, e2⟩ := among_ok x hx [some t0, some (cu x a1 s1), some t0, some (tr []), some (tc 3 0), some (⟨3, 1, 1, false, am4.map i64⟩ : Blk)] 1 a1 s1 rfl (stA2 x a1 s1 am4) (by omega) (by omega) 5 (by decide) am4 4 rfl (by decide) rfl
    obtain ⟨n, rfl⟩ : ∃ n : Nat, k = n := ⟨k.toNat, by simp only [am4, List.mem_cons, List.not_mem_nil, or_false] at hk; omega⟩
    have hn : n ≤ 4 := by simp only [am4, List.mem_cons, List.not_mem_nil, or_false] at hk; omega
    obtain ⟨a3, s3, ms, z1, z2, e3⟩ := apt_loop x hx n a2 s2 [] (by omega) (by omega) (by simp; omega) (by simp)
    refine ⟨a3, s3, .inr ⟨ms, by simp at z1; omega, z2, ?_⟩⟩
    simp only [t0, tr, tc, cu, am4, List.map_cons, List.map_nil, List.set_cons_succ, List.set_cons_zero, List.length_nil] at e1 e2 e3 ⊢
    rw [e48]
    unfold runF
    simp -implicitDefEqProofs [L48, e1, e2, e3]
theorem drawSafe (x : List Int) (hx : okC x) : ∃ (T : AV) (H : Hp), TabR T H ∧ ev E0 6 [.lst 1 (cd x)] [] = some (T, H) := by
  obtain ⟨a, s, e⟩ := apart_ok x hx
  rcases e with e | ⟨ms, m1, m2, e⟩
  · refine ⟨_, _, .inl ⟨rfl, rfl⟩, ?_⟩
    simp only [t0, cu] at e
    rw [e6]
    unfold runF
    simp -implicitDefEqProofs [L6, e]
  · refine ⟨_, _, .inr ⟨ms, m1, m2, rfl, rfl⟩, ?_⟩
    simp only [t0, cu, tr] at e ⊢
    rw [e6]
    unfold runF
    simp -implicitDefEqProofs [L6, e]
theorem drawTable (x : List Int) (hx : okC x) : ∃ (T : AV) (H : Hp), TabR T H ∧ ev E0 62 [.lst 1 (cd x)] [] = some (T, H) := by
  obtain ⟨a, s, p1, p2, h⟩ := pre_tab x hx 0 0 (by omega) (by omega)
  rcases h with e | ⟨ms, m1, m2, e⟩
  · refine ⟨_, _, .inl ⟨rfl, rfl⟩, ?_⟩
    simp only [t0, cu] at e
    rw [e62]
    unfold runF
    simp -implicitDefEqProofs [L62, e]
  · refine ⟨_, _, .inr ⟨ms, m1, m2, rfl, rfl⟩, ?_⟩
    simp only [t0, cu, tr] at e ⊢
    rw [e62]
    unfold runF
    simp -implicitDefEqProofs [L62, e]
theorem drawJoined (x : List Int) (hx : okC x) : ∃ (T : AV) (H : Hp), TabR T H ∧ ev E0 21 [.lst 1 (cd x)] [] = some (T, H) := by
  obtain ⟨T, H, hT, e⟩ := drawTable x hx
  refine ⟨T, H, hT, ?_⟩
  rw [e21]
  unfold runF
  rcases hT with ⟨rfl, rfl⟩ | ⟨ms, z1, z2, rfl, rfl⟩
  · simp -implicitDefEqProofs [L21, e]
  · unfold tr at e ⊢
    simp -implicitDefEqProofs [L21, e]
theorem drawSubset (x : List Int) (hx : okC x) : ∃ (T : AV) (H : Hp), TabR T H ∧ ev E0 27 [.lst 1 (cd x)] [] = some (T, H) := by
  obtain ⟨T, H, hT, e⟩ := drawTable x hx
  refine ⟨T, H, hT, ?_⟩
  rw [e27]
  unfold runF
  rcases hT with ⟨rfl, rfl⟩ | ⟨ms, z1, z2, rfl, rfl⟩
  · simp -implicitDefEqProofs [L27, e]
  · unfold tr at e ⊢
    simp -implicitDefEqProofs [L27, e]
theorem drawEven (x : List Int) (hx : okC x) : ∃ (T : AV) (H : Hp), TabR T H ∧ ev E0 39 [.lst 1 (cd x)] [] = some (T, H) := by
  obtain ⟨T, H, hT, e⟩ := drawTable x hx
  refine ⟨T, H, hT, ?_⟩
  rw [e39]
  unfold runF
  rcases hT with ⟨rfl, rfl⟩ | ⟨ms, z1, z2, rfl, rfl⟩
  · simp -implicitDefEqProofs [L39, e]
  · unfold tr at e ⊢
    simp -implicitDefEqProofs [L39, e]
theorem drawSplit (x : List Int) (hx : okC x) : ∃ (T : AV) (H : Hp) (k : Int), TabR T H ∧ ev E0 24 [.lst 1 (cd x)] [] = some (.tup [T, i64 k], H) := by
  obtain ⟨T, H, k, hT, b1, b2, e⟩ := drawMarks x hx
  refine ⟨T, H, k, hT, ?_⟩
  rw [e24]
  unfold runF
  rcases hT with ⟨rfl, rfl⟩ | ⟨ms, z1, z2, rfl, rfl⟩
  · simp -implicitDefEqProofs [L24, e]
  · unfold tr at e ⊢
    simp -implicitDefEqProofs [L24, e]
def am11 : List Int := [0, 1, 2, 0, 1, 2, 3, -1, 0, 1, 2]
theorem drawBy (x : List Int) (hx : okC x) : ∃ (T : AV) (H : Hp) (k q : Int), TabR T H ∧ ev E0 17 [.lst 1 (cd x)] [] = some (.tup [T, i64 k, i64 q], H) := by
  obtain ⟨T, H, k, hT, b1, b2, e⟩ := drawMarks x hx
  obtain ⟨a2, s2, q, p2, q2, hq, e2⟩ := among_ok x hx [some t0, some (cu x 0 0), some (⟨3, 1, 1, false, am11.map i64⟩ : Blk)] 1 0 0 rfl ⟨by simp [oldIds, t0, cu], rfl⟩ (by omega) (by omega) 2 (by decide) am11 11 rfl (by decide) rfl
  refine ⟨T, H, k, q, hT, ?_⟩
  simp only [t0, cu, am11, List.map_cons, List.map_nil, List.set_cons_succ, List.set_cons_zero] at e2
  rw [e17]
  unfold runF
  rcases hT with ⟨rfl, rfl⟩ | ⟨ms, z1, z2, rfl, rfl⟩
  · simp -implicitDefEqProofs [L17, e, e2]
  · unfold tr at e ⊢
    simp -implicitDefEqProofs [L17, e, e2]
theorem drawSwap (x : List Int) (hx : okC x) : ∃ (T : AV) (H : Hp) (k q : Int), TabR T H ∧ ev E0 67 [.lst 1 (cd x)] [] = some (.tup [T, i64 k, i64 q], H) := by
  obtain ⟨a, s, p1, p2, h⟩ := pre_tab x hx 0 0 (by omega) (by omega)
  have hq : ∀ r : Int, 0 ≤ r → r < 24 → IntKind.i64.wrap (r.tdiv 23) = r / 23 := by
    intro r r0 r1
    rw [Int.tdiv_eq_ediv_of_nonneg r0]
    exact wr64 (by omega) (by omega)
  have tail : ∀ (H : Hp) (n : Int), hget H 1 = some (cu x a s) → (∀ a' s' : Int, Stable (H.set 1 (some (cu x a' s')))) → H.set 1 (some (cu x a s)) = H → 0 ≤ n → n ≤ 30 → ∃ r1 r2 r3 r4 a1 s1 a2 s2 a3 s3 a4 s4 : Int, 0 ≤ r1 ∧ r1 ≤ 30 ∧ 0 ≤ r2 ∧ r2 < 24 ∧ 0 ≤ r3 ∧ r3 ≤ 30 ∧ 0 ≤ r4 ∧ r4 < 24 ∧
      ev E0 95 [.ptr 1 0 0, i64 (if n < 1 then 1 else n)] H = some (i64 r1, H.set 1 (some (cu x a1 s1))) ∧
      ev E0 95 [.ptr 1 0 0, i64 24] (H.set 1 (some (cu x a1 s1))) = some (i64 r2, H.set 1 (some (cu x a2 s2))) ∧
      ev E0 95 [.ptr 1 0 0, i64 (if n < 1 then 1 else n)] (H.set 1 (some (cu x a2 s2))) = some (i64 r3, H.set 1 (some (cu x a3 s3))) ∧
      ev E0 95 [.ptr 1 0 0, i64 24] (H.set 1 (some (cu x a3 s3))) = some (i64 r4, H.set 1 (some (cu x a4 s4))) := by
    intro H n hg hS hH hn0 hn
    have hid := id_lt hg
    obtain ⟨a1, s1, r1, q1, q2, q3, q4, e1⟩ := pick_at x hx H a s hg (by have := hS a s; rwa [hH] at this) (by omega) (by omega) (if n < 1 then 1 else n)
    obtain ⟨a2, s2, r2, u1, u2, u3, u4, e2⟩ := pick_at x hx (H.set 1 (some (cu x a1 s1))) a1 s1 (hget_cu hid) (hS _ _) (by omega) (by omega) 24
    obtain ⟨a3, s3, r3, v1, v2, v3, v4, e3⟩ := pick_at x hx (H.set 1 (some (cu x a2 s2))) a2 s2 (hget_cu (by simpa using hid)) (hS _ _) (by omega) (by omega) (if n < 1 then 1 else n)
    obtain ⟨a4, s4, r4, w1, w2, w3, w4, e4⟩ := pick_at x hx (H.set 1 (some (cu x a3 s3))) a3 s3 (hget_cu (by simpa using hid)) (hS _ _) (by omega) (by omega) 24
    rw [List.set_set] at e2 e3 e4
    refine ⟨r1, r2, r3, r4, a1, s1, a2, s2, a3, s3, a4, s4, q3, ?_, u3, by omega, v3, ?_, w3, by omega, e1, e2, e3, e4⟩
    · split at q4 <;> omega
    · split at v4 <;> omega
  rcases h with h | ⟨ms, z1, z2, h⟩
  · obtain ⟨r1, r2, r3, r4, a1, s1, a2, s2, a3, s3, a4, s4, b1, b2, b3, b4, b5, b6, b7, b8, e1, e2, e3, e4⟩ := tail [some t0, some (cu x a s), some t0] 0 rfl (fun a' s' => st2 x a' s') rfl (by omega) (by omega)
    refine ⟨.agg [.v (.slice none 0 0)], [], r1 - r2 / 23, r3 + r4 / 23, .inl ⟨rfl, rfl⟩, ?_⟩
    rw [e67]
    unfold runF
    simp only [List.set_cons_succ, List.set_cons_zero, t0, cu] at h e1 e2 e3 e4
    have m1 := most_d 1 0
    rw [show (if (0 : Int) < 1 then (1 : Int) else 0) = 1 from rfl] at m1 e1 e3
    have k2 := hq r2 b3 b4
    have k4 := hq r4 b7 b8
    have k5 : IntKind.i64.wrap (r1 - r2 / 23) = r1 - r2 / 23 := wr64 (by omega) (by omega)
    have k6 : IntKind.i64.wrap (r3 + r4 / 23) = r3 + r4 / 23 := wr64 (by omega) (by omega)
    simp (maxSteps := 1000000) -implicitDefEqProofs [L67, h, m1, e1, e2, e3, e4, k2, k4, k5, k6]
  · obtain ⟨r1, r2, r3, r4, a1, s1, a2, s2, a3, s3, a4, s4, b1, b2, b3, b4, b5, b6, b7, b8, e1, e2, e3, e4⟩ := tail [some t0, some (cu x a s), some (tr ms), some (tc 2 ms.length)] ms.length rfl (fun a' s' => st3 x a' s' ms ms.length) rfl (by omega) (by omega)
    refine ⟨.agg [.sl 0 0 ms.length], [some (tr ms)], r1 - r2 / 23, r3 + r4 / 23, .inr ⟨ms, z1, z2, rfl, rfl⟩, ?_⟩
    rw [e67]
    unfold runF
    simp only [List.set_cons_succ, List.set_cons_zero, t0, cu, tr, tc] at h e1 e2 e3 e4 ⊢
    have m1 := most_d 1 ms.length
    have k2 := hq r2 b3 b4
    have k4 := hq r4 b7 b8
    have k5 : IntKind.i64.wrap (r1 - r2 / 23) = r1 - r2 / 23 := wr64 (by omega) (by omega)
    have k6 : IntKind.i64.wrap (r3 + r4 / 23) = r3 + r4 / 23 := wr64 (by omega) (by omega)
    generalize hM : (if (ms.length : Int) < 1 then (1 : Int) else (ms.length : Int)) = mm at m1 e1 e3
    simp (maxSteps := 1000000) -implicitDefEqProofs [L67, h, m1, e1, e2, e3, e4, k2, k4, k5, k6]
theorem drawChain (x : List Int) (hx : okC x) : ∃ (T : AV) (H : Hp) (k q : Int), TabR T H ∧ ev E0 30 [.lst 1 (cd x)] [] = some (.tup [T, i64 k, i64 q], H) := by
  obtain ⟨T, H, k, q, hT, e⟩ := drawSwap x hx
  refine ⟨T, H, k, q, hT, ?_⟩
  rw [e30]
  unfold runF
  rcases hT with ⟨rfl, rfl⟩ | ⟨ms, z1, z2, rfl, rfl⟩
  · simp -implicitDefEqProofs [L30, e]
  · unfold tr at e ⊢
    simp -implicitDefEqProofs [L30, e]
end Go.Proofs.YtodcochnciadjaaDoor.Ev.Dr
