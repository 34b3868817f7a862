/- The draw of a reading, for its rank. -/
import Derived.Test.YtkdfgjijmnaljaaDoorEvDrawB3
set_option linter.unusedVariables false
set_option linter.unusedSimpArgs false
namespace Go.Proofs.YtkdfgjijmnaljaaDoor.Ev.Dr
theorem of_ls (x : List Int) (hx : okC x) (H : Hp) (id : Nat) (a s : Int) (h : hget H id = some (cu x a s)) (hs : Stable H) (h0 : 0 ≤ a) (h1 : a ≤ 549755813888) (l : List ByteArray) (hp : 0 < l.length) :
    ∃ (a' s' : Int) (t : ByteArray), a ≤ a' ∧ a' ≤ a + 2 ∧ t ∈ l ∧ ev E0 55 [.ptr id 0 0, .lst 1 (l.map st)] H = some (st t, H.set id (some (cu x a' s'))) := by
  obtain ⟨a', s', r, k1, k2, r0, r1, e⟩ := pick_ok x hx H id a s h hs h0 h1 l.length
  obtain ⟨k, rfl⟩ : ∃ k : Nat, r = k := ⟨r.toNat, by omega⟩
  have hk : k < l.length := by omega
  refine ⟨a', s', l[k], k1, k2, List.getElem_mem hk, ?_⟩
  have hx2 : l[k]? = some l[k] := List.getElem?_eq_getElem hk
  generalize l[k] = t at *
  have hx3 : ∀ h, l[k]'h = t := fun h => (List.getElem?_eq_some_iff.1 hx2).2
  have hki : (k : Int) < (l.length : Int) := by omega
  have pk2 := pk_cu h hs
  rw [e55]
  unfold runF
  simp -implicitDefEqProofs [L55, e, hx3, hk, hki, -pack, -packH, pk2]
theorem most_d (a b : Int) : ev E0 54 [i64 a, i64 b] [] = some (i64 (if b < a then a else b), []) := by
  rw [e54]
  unfold runF
  by_cases h : b < a
  · simp -implicitDefEqProofs [L54, h]
  · simp -implicitDefEqProofs [L54, h]
theorem stable_B (x : List Int) (ms : List ByteArray) (a s : Int) : Stable ([some t0, some (cu x a s)] ++ [some (tc 3 ms.length), some (tr ms)]) := by
  have hs : Stable [some t0, some (cu x a s)] := stable_leaves (H := []) ⟨by simp [oldIds], rfl⟩ [t0, cu x a s] (by
    intro q hq
    simp at hq
    rcases hq with rfl | rfl <;> exact ⟨rfl, fun _ => rfl⟩)
  refine stable_ex hs (fun q hq => ?_) ?_
  · have h : oldIds [some (tc 3 ms.length), some (tr ms)] = [3] := rfl
    rw [h, List.mem_singleton] at hq
    subst hq
    simp
  · have h3 : newId ([some t0, some (cu x a s)].length + [some (tc 3 ms.length), some (tr ms)].length) [] 3 = some 3 := by
      unfold newId
      rw [if_pos (by simp)]
    generalize newId ([some t0, some (cu x a s)].length + [some (tc 3 ms.length), some (tr ms)].length) [] = f at h3
    simp -implicitDefEqProofs [tc, tr, h3]
theorem stable_A (x : List Int) (a s : Int) : Stable ([some t0, some (cu x a s)] ++ [some t0]) := stable_leaves (H := []) ⟨by simp [oldIds], rfl⟩ [t0, cu x a s, t0] (by
  intro q hq
  simp at hq
  rcases hq with rfl | rfl | rfl <;> exact ⟨rfl, fun _ => rfl⟩)
def odd3s : List ByteArray := [⟨#[32]⟩, ⟨#[65]⟩, ⟨#[97, 97, 97, 97, 97, 97, 97, 97, 97, 97, 97, 97, 97, 97, 97, 97, 97, 97, 97, 97, 97, 97, 97, 97, 97, 97, 97, 97, 97, 97, 97, 97, 97, 97, 97, 97, 97, 97, 97, 97, 97]⟩]
theorem wordA_loop (x : List Int) (hx : okC x)  : ∀ (k : Nat) (a s : Int) (m : ByteArray), 0 ≤ a → a + 2 * k ≤ 500000 → m.size + k ≤ 100 →
    ∃ (a' s' : Int) (m' : ByteArray), a ≤ a' ∧ a' ≤ a + 2 * k ∧ m'.size ≤ m.size + k ∧
    packX 0 [2, 4, 5, 6] (loopW (bd E0 (ev E0) loopW 0 [2, 4, 5, 6, 7] L23b0) ⟨[(2, .ptr 0 0 0), (4, .ptr 1 0 0), (5, .ptr 2 0 0), (6, st m), (7, i64 k)], [some t0, some (cu x a s)] ++ [some t0]⟩) = some (.ext 0, ⟨[(2, .ptr 0 0 0), (4, .ptr 1 0 0), (5, .ptr 2 0 0), (6, st m')], [some t0, some (cu x a' s')] ++ [some t0]⟩) := by
  have hsm := most_d 1 0
  obtain ⟨many, hmq, hb1, hb2⟩ : ∃ many : Int, (if (0 : Int) < 1 then (1 : Int) else 0) = many ∧ 1 ≤ many ∧ many ≤ 50 := ⟨_, rfl, by split <;> omega, by split <;> omega⟩
  rw [hmq] at hsm
  intro k
  induction k with
  | zero =>
    intro a s m h0 h1 h2
    refine ⟨a, s, m, by omega, by omega, by omega, ?_⟩
    rw [loopW_eq]
    generalize loopW (bd E0 (ev E0) loopW 0 [2, 4, 5, 6, 7] L23b0) = K
    simp (maxSteps := 1000000) -implicitDefEqProofs [bd, L23b0, t0, tc, tr, cu]
  | succ k ih =>
    intro a s m h0 h1 h2
    obtain ⟨a1, s1, r, p1, q1, r0, r1, e1⟩ := pick_ok x hx ([some t0, some (cu x a s)] ++ [some t0]) 1 a s rfl (stable_A x a s) h0 (by omega) many
    obtain ⟨rn, rfl⟩ : ∃ rn : Nat, r = rn := ⟨r.toNat, by omega⟩
    have hl := letterText_s rn (by omega)
    have z1 : (lt1 rn).size = 1 := rfl
    obtain ⟨a', s', m', k1, k2, k3, k4⟩ := ih a1 s1 (m ++ lt1 rn) (by omega) (by omega) (by rw [ByteArray.size_append]; omega)
    rw [ByteArray.size_append] at k3
    refine ⟨a', s', m', by omega, by omega, by omega, ?_⟩
    have hsz : m.size + (lt1 rn).size ≤ 9223372036854775807 := by omega
    have hw : IntKind.i64.wrap ((k : Int) + 1 - 1) = k := by rw [wr64 (by omega) (by omega)]; omega
    have hw2 : IntKind.i64.wrap (k : Int) = k := wr64 (by omega) (by omega)
    have hp0 : (0 : Int) < (k : Int) + 1 := by omega
    have hp1 : 0 < k + 1 := by omega
    rw [cs1, loopW_eq]
    generalize loopW (bd E0 (ev E0) loopW 0 [2, 4, 5, 6, 7] L23b0) = K at k4 ⊢
    generalize lt1 rn = u at *
    simp only [List.cons_append, List.nil_append, List.set_cons_succ, List.set_cons_zero, t0, tc, tr, cu] at e1 k4 ⊢
    simpa (maxSteps := 1000000) -implicitDefEqProofs [bd, L23b0, hsm, e1, hl, hsz, hp0, hp1, hw, hw2, -ByteArray.size_append] using k4
theorem wordB_loop (x : List Int) (hx : okC x) (ms : List ByteArray) (hm : ms.length ≤ 40) : ∀ (k : Nat) (a s : Int) (m : ByteArray), 0 ≤ a → a + 2 * k ≤ 500000 → m.size + k ≤ 100 →
    ∃ (a' s' : Int) (m' : ByteArray), a ≤ a' ∧ a' ≤ a + 2 * k ∧ m'.size ≤ m.size + k ∧
    packX 0 [2, 4, 5, 6] (loopW (bd E0 (ev E0) loopW 0 [2, 4, 5, 6, 7] L23b0) ⟨[(2, .ptr 0 0 0), (4, .ptr 1 0 0), (5, .ptr 2 0 0), (6, st m), (7, i64 k)], [some t0, some (cu x a s)] ++ [some (tc 3 ms.length), some (tr ms)]⟩) = some (.ext 0, ⟨[(2, .ptr 0 0 0), (4, .ptr 1 0 0), (5, .ptr 2 0 0), (6, st m')], [some t0, some (cu x a' s')] ++ [some (tc 3 ms.length), some (tr ms)]⟩) := by
  have hsm := most_d 1 (ms.length : Int)
  obtain ⟨many, hmq, hb1, hb2⟩ : ∃ many : Int, (if ((ms.length : Int) : Int) < 1 then (1 : Int) else (ms.length : Int)) = many ∧ 1 ≤ many ∧ many ≤ 50 := ⟨_, rfl, by split <;> omega, by split <;> omega⟩
  rw [hmq] at hsm
  intro k
  induction k with
  | zero =>
    intro a s m h0 h1 h2
    refine ⟨a, s, m, by omega, by omega, by omega, ?_⟩
    rw [loopW_eq]
    generalize loopW (bd E0 (ev E0) loopW 0 [2, 4, 5, 6, 7] L23b0) = K
    simp (maxSteps := 1000000) -implicitDefEqProofs [bd, L23b0, t0, tc, tr, cu]
  | succ k ih =>
    intro a s m h0 h1 h2
    obtain ⟨a1, s1, r, p1, q1, r0, r1, e1⟩ := pick_ok x hx ([some t0, some (cu x a s)] ++ [some (tc 3 ms.length), some (tr ms)]) 1 a s rfl (stable_B x ms a s) h0 (by omega) many
    obtain ⟨rn, rfl⟩ : ∃ rn : Nat, r = rn := ⟨r.toNat, by omega⟩
    have hl := letterText_s rn (by omega)
    have z1 : (lt1 rn).size = 1 := rfl
    obtain ⟨a', s', m', k1, k2, k3, k4⟩ := ih a1 s1 (m ++ lt1 rn) (by omega) (by omega) (by rw [ByteArray.size_append]; omega)
    rw [ByteArray.size_append] at k3
    refine ⟨a', s', m', by omega, by omega, by omega, ?_⟩
    have hsz : m.size + (lt1 rn).size ≤ 9223372036854775807 := by omega
    have hw : IntKind.i64.wrap ((k : Int) + 1 - 1) = k := by rw [wr64 (by omega) (by omega)]; omega
    have hw2 : IntKind.i64.wrap (k : Int) = k := wr64 (by omega) (by omega)
    have hp0 : (0 : Int) < (k : Int) + 1 := by omega
    have hp1 : 0 < k + 1 := by omega
    rw [cs1, loopW_eq]
    generalize loopW (bd E0 (ev E0) loopW 0 [2, 4, 5, 6, 7] L23b0) = K at k4 ⊢
    generalize lt1 rn = u at *
    simp only [List.cons_append, List.nil_append, List.set_cons_succ, List.set_cons_zero, t0, tc, tr, cu] at e1 k4 ⊢
    simpa (maxSteps := 1000000) -implicitDefEqProofs [bd, L23b0, hsm, e1, hl, hsz, hp0, hp1, hw, hw2, -ByteArray.size_append] using k4
theorem drawRR (x : List Int) (hx : okC x) : ∃ (m : ByteArray), m.size ≤ 100 ∧ (ev E0 23 [.lst 1 (cd x)] [] = some (.tup [.agg [.v (.slice none 0 0)], st m], []) ∨
    ∃ ms : List ByteArray, ms.length ≤ 30 ∧ (∀ t ∈ ms, t.size ≤ 20) ∧ ev E0 23 [.lst 1 (cd x)] [] = some (.tup [.agg [.sl 0 0 ms.length], st m], [some (tr ms)])) := by
  obtain ⟨a1, s1, p1, q1, e1⟩ := free_ok x hx 0 0 (by omega) (by omega)
  have hz : (⟨#[]⟩ : ByteArray).size = 0 := rfl
  rcases e1 with e1 | ⟨ms, m1, m2, e1⟩
  · obtain ⟨a2, s2, k, p2, q2, hk, e2⟩ := among_ok x hx ([some t0, some (cu x a1 s1)] ++ [some t0] ++ [some (⟨3, 1, 1, false, ([3, 5, 2, 1, 8, 0, 12] : List Int).map i64⟩ : Blk)]) 1 a1 s1 rfl (stable_leaf (stable_A x a1 s1) ⟨rfl, fun _ => rfl⟩) (by omega) (by omega) 3 (by decide) [3, 5, 2, 1, 8, 0, 12] 7 rfl (by decide) rfl
    obtain ⟨n, rfl⟩ : ∃ n : Nat, k = n := ⟨k.toNat, by simp only [List.mem_cons, List.not_mem_nil, or_false] at hk; omega⟩
    have hn : n ≤ 12 := by simp only [List.mem_cons, List.not_mem_nil, or_false] at hk; omega
    obtain ⟨a3, s3, m, p3, q3, zm, e3⟩ := wordA_loop x hx  n a2 s2 ⟨#[]⟩ (by omega) (by omega) (by omega)
    obtain ⟨a4, s4, r, p4, q4, r0, r1, e4⟩ := pick_ok x hx ([some t0, some (cu x a3 s3)] ++ [some t0]) 1 a3 s3 rfl (stable_A x a3 s3) (by omega) (by omega) 40
    obtain ⟨a5, s5, u, p5, q5, hu, e5⟩ := of_ls x hx ([some t0, some (cu x a4 s4)] ++ [some t0]) 1 a4 s4 rfl (stable_A x a4 s4) (by omega) (by omega) odd3s (by decide)
    have hu41 : u.size ≤ 41 := by
      simp only [odd3s, List.mem_cons, List.not_mem_nil, or_false] at hu
      rcases hu with h | h | h <;> subst h <;> decide
    have hl := letterText_s 0 (by omega)
    have zl : (lt1 0).size = 1 := rfl
    have z1 : m.size + (lt1 0).size ≤ 9223372036854775807 := by omega
    have z2 : m.size + u.size ≤ 9223372036854775807 := by omega
    simp only [List.cons_append, List.nil_append, List.set_cons_succ, List.set_cons_zero, t0, tc, tr, cu, odd3s, List.map_cons, List.map_nil, tv] at e1 e2 e3 e4 e5
    rw [c0] at hl
    generalize lt1 0 = lu at *
    by_cases hr0 : r = 0
    · refine ⟨m ++ lu, by rw [ByteArray.size_append]; omega, .inl ?_⟩
      rw [e23]
      unfold runF
      simp (maxSteps := 1000000) -implicitDefEqProofs [L23, tr, e1, e2, e3, e4, hr0, hl, z1, -ByteArray.size_append]
    · by_cases hr1 : r = 1
      · refine ⟨m ++ u, by rw [ByteArray.size_append]; omega, .inl ?_⟩
        rw [e23]
        unfold runF
        simp (maxSteps := 1000000) -implicitDefEqProofs [L23, tr, e1, e2, e3, e4, e5, hr0, hr1, z2, -ByteArray.size_append]
      · refine ⟨m, by omega, .inl ?_⟩
        rw [e23]
        unfold runF
        simp (maxSteps := 1000000) -implicitDefEqProofs [L23, tr, e1, e2, e3, e4, hr0, hr1]
  · obtain ⟨a2, s2, k, p2, q2, hk, e2⟩ := among_ok x hx ([some t0, some (cu x a1 s1)] ++ [some (tr ms), some (tv (.sl 2 0 ms.length))] ++ [some (⟨3, 1, 1, false, ([3, 5, 2, 1, 8, 0, 12] : List Int).map i64⟩ : Blk)]) 1 a1 s1 rfl (stable_leaf (show Stable ([some t0, some (cu x a1 s1), some (tr ms)] ++ [some (tv (.sl 2 0 ms.length))]) from stable_tv (id := 1) (ms := ms) (stable_leaves (H := []) ⟨by simp [oldIds], rfl⟩ [t0, cu x a1 s1, tr ms] (by intro q hq; simp at hq; rcases hq with rfl | rfl | rfl <;> exact ⟨rfl, fun _ => rfl⟩)) (.inr ⟨2, rfl, by decide, rfl⟩)) ⟨rfl, fun _ => rfl⟩) (by omega) (by omega) 4 (by decide) [3, 5, 2, 1, 8, 0, 12] 7 rfl (by decide) rfl
    obtain ⟨n, rfl⟩ : ∃ n : Nat, k = n := ⟨k.toNat, by simp only [List.mem_cons, List.not_mem_nil, or_false] at hk; omega⟩
    have hn : n ≤ 12 := by simp only [List.mem_cons, List.not_mem_nil, or_false] at hk; omega
    obtain ⟨a3, s3, m, p3, q3, zm, e3⟩ := wordB_loop x hx ms (by omega) n a2 s2 ⟨#[]⟩ (by omega) (by omega) (by omega)
    obtain ⟨a4, s4, r, p4, q4, r0, r1, e4⟩ := pick_ok x hx ([some t0, some (cu x a3 s3)] ++ [some (tc 3 ms.length), some (tr ms)]) 1 a3 s3 rfl (stable_B x ms a3 s3) (by omega) (by omega) 40
    obtain ⟨a5, s5, u, p5, q5, hu, e5⟩ := of_ls x hx ([some t0, some (cu x a4 s4)] ++ [some (tc 3 ms.length), some (tr ms)]) 1 a4 s4 rfl (stable_B x ms a4 s4) (by omega) (by omega) odd3s (by decide)
    have hu41 : u.size ≤ 41 := by
      simp only [odd3s, List.mem_cons, List.not_mem_nil, or_false] at hu
      rcases hu with h | h | h <;> subst h <;> decide
    have hl := letterText_s ms.length (by omega)
    have zl : (lt1 ms.length).size = 1 := rfl
    have z1 : m.size + (lt1 ms.length).size ≤ 9223372036854775807 := by omega
    have z2 : m.size + u.size ≤ 9223372036854775807 := by omega
    simp only [List.cons_append, List.nil_append, List.set_cons_succ, List.set_cons_zero, t0, tc, tr, cu, odd3s, List.map_cons, List.map_nil, tv] at e1 e2 e3 e4 e5
    generalize lt1 ms.length = lu at *
    by_cases hr0 : r = 0
    · refine ⟨m ++ lu, by rw [ByteArray.size_append]; omega, .inr ⟨ms, m1, m2, ?_⟩⟩
      rw [e23]
      unfold runF
      simp (maxSteps := 1000000) -implicitDefEqProofs [L23, tr, e1, e2, e3, e4, hr0, hl, z1, -ByteArray.size_append]
    · by_cases hr1 : r = 1
      · refine ⟨m ++ u, by rw [ByteArray.size_append]; omega, .inr ⟨ms, m1, m2, ?_⟩⟩
        rw [e23]
        unfold runF
        simp (maxSteps := 1000000) -implicitDefEqProofs [L23, tr, e1, e2, e3, e4, e5, hr0, hr1, z2, -ByteArray.size_append]
      · refine ⟨m, by omega, .inr ⟨ms, m1, m2, ?_⟩⟩
        rw [e23]
        unfold runF
        simp (maxSteps := 1000000) -implicitDefEqProofs [L23, tr, e1, e2, e3, e4, hr0, hr1]
end Go.Proofs.YtkdfgjijmnaljaaDoor.Ev.Dr
