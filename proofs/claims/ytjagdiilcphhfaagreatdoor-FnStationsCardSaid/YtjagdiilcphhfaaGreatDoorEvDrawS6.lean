/- The draws of the law on stations. -/
import Derived.Test.YtjagdiilcphhfaaGreatDoorEvDrawS5
import Derived.Test.YtjagdiilcphhfaaGreatDoorEvCut
import Derived.Test.YtjagdiilcphhfaaGreatDoorEvKe7
set_option linter.unusedVariables false
set_option linter.unusedSimpArgs false
set_option maxHeartbeats 2000000
namespace Go.Proofs.YtjagdiilcphhfaaGreatDoor.Ev.Dr
theorem drawNew (x : List Int) (hx : okC x) : ∃ (T : AV) (H : Hp), TabR T H ∧ ev E0 19 [.lst 1 (cd x)] [] = some (T, H) := by
  obtain ⟨a, s, p1, p2, h⟩ := pre_tab x hx 0 0 (by omega) (by omega)
  rcases h with e | ⟨ms, m1, m2, e⟩
  · refine ⟨_, _, .inl ⟨rfl, rfl⟩, ?_⟩
    simp only [t0, cu] at e
    rw [e19]
    unfold runF
    simp -implicitDefEqProofs [L19, e]
  · refine ⟨_, _, .inr ⟨ms, m1, m2, rfl, rfl⟩, ?_⟩
    simp only [t0, cu, tr] at e ⊢
    rw [e19]
    unfold runF
    simp -implicitDefEqProofs [L19, e]
theorem drawKey (x : List Int) (hx : okC x) : ∃ (c d : ByteArray) (n k u v : Int) (m : ByteArray), c.size ≤ 2000000 ∧ d.size ≤ 30 ∧ -10 ≤ n ∧ n ≤ 1001 ∧ m.size ≤ 20 ∧ ev E0 22 [.lst 1 (cd x)] [] = some (.tup [sA c d n, kA k u v m], []) := by
  have S0 : ∀ a s : Int, Stable [some (sQ ⟨#[]⟩ ⟨#[]⟩ 0), some (kQ 0 0 0 ⟨#[]⟩), some (cu x a s)] := fun a s => ⟨by simp [oldIds, sQ, kQ, cu], rfl⟩
  obtain ⟨a1, s1, c, d, n, p1, q1, z1, z2, z3, z4, e1⟩ := station_ok x hx [some (sQ ⟨#[]⟩ ⟨#[]⟩ 0), some (kQ 0 0 0 ⟨#[]⟩), some (cu x 0 0)] 2 0 0 rfl (S0 0 0) (by omega) (by omega)
  obtain ⟨a2, s2, k, u, v, m, p2, q2, zm, e2⟩ := key12_u x hx a1 s1 (by omega) (by omega) c d n (by omega)
  have g2 := e2 [some (sQ ⟨#[]⟩ ⟨#[]⟩ 0), some (kQ 0 0 0 ⟨#[]⟩), some (cu x a1 s1), some (sQ c d n)] 2 rfl (by
    have := stable_leaf (S0 a1 s1) (b := sQ c d n) ⟨rfl, fun _ => rfl⟩
    exact this)
  refine ⟨c, d, n, k, u, v, m, z1, z2, z3, z4, zm, ?_⟩
  simp only [sQ, kQ, cu, sA, kA, List.set_cons_succ, List.set_cons_zero] at e1 g2 ⊢
  rw [e22]
  unfold runF
  simp (maxSteps := 1000000) -implicitDefEqProofs [L22, e1, g2]
def kR (l : List K) : Blk := ⟨32, 4, 1, false, l.map kb⟩
theorem leaf_kR (l : List K) : leafB (kR l) := ⟨by simp [blkIds, kR], fun _ => by simp [rnmB, kR]⟩
theorem keys_loop (x : List Int) (hx : okC x) : ∀ (k : Nat) (a s : Int) (c d : ByteArray) (n : Int) (c0 d0 : ByteArray) (n0 : Int) (l : List K), 0 ≤ a → a + 400 * k ≤ 10000000 → c.size ≤ 2000000 → d.size ≤ 30 → l.length + k ≤ 100 → (∀ q ∈ l, q.2.2.2.size ≤ 20) →
    ∃ l' : List K, l'.length ≤ l.length + k ∧ (∀ q ∈ l', q.2.2.2.size ≤ 20) ∧ packX 0 [2, 5, 6] (loopW (bd E0 (ev E0) loopW 0 [2, 4, 5, 6, 7, 8] L24b0) ⟨[(2, .ptr 0 0 0), (4, .ptr 1 0 0), (5, .ptr 2 0 0), (6, .sl 3 0 l.length), (7, .ptr 4 0 0), (8, i64 k)], [some (sQ ⟨#[]⟩ ⟨#[]⟩ 0), some (cu x a s), some (sQ c0 d0 n0), some (kR l), some (sQ c d n)]⟩) =
      some (.ext 0, ⟨[(2, .ptr 0 0 0), (5, .ptr 1 0 0), (6, .sl 2 0 l'.length)], [some (sQ ⟨#[]⟩ ⟨#[]⟩ 0), some (sQ c0 d0 n0), some (kR l')]⟩) := by
  intro k
  induction k with
  | zero =>
    intro a s c d n c0 d0 n0 l h0 h1 y1 y2 hl hz
    refine ⟨l, by omega, hz, ?_⟩
    have hfr := free_kb l
    have hQ : (l.map kb).length = l.length := List.length_map _
    have hlf := leaf_kR l
    unfold kR sQ cu at *
    rw [loopW_eq]
    generalize loopW (bd E0 (ev E0) loopW 0 [2, 4, 5, 6, 7, 8] L24b0) = K
    simp -implicitDefEqProofs [bd, L24b0, hfr, hQ, hlf.1, hlf.2]
  | succ k ih =>
    intro a s c d n c0 d0 n0 l h0 h1 y1 y2 hl hz
    have hst := station_s c d n (by omega) (by omega)
    have hw : IntKind.i64.wrap (((k + 1 : Nat) : Int) - 1) = k := by rw [wr64 (by omega) (by omega)]; omega
    rw [cs1] at hw
    have hp0 : (0 : Int) < (k : Int) + 1 := by omega
    have hp1 : 0 < k + 1 := by omega
    have hw2 : IntKind.i64.wrap (k : Int) = k := wr64 (by omega) (by omega)
    have hQ : (l.map kb).length = l.length := List.length_map _
    cases ho : okSt c d n with
    | false =>
      rw [ho] at hst
      refine ⟨l, by omega, hz, ?_⟩
      unfold kR sQ cu at *
      rw [loopW_eq, cs1]
      generalize loopW (bd E0 (ev E0) loopW 0 [2, 4, 5, 6, 7, 8] L24b0) = K
      simp -implicitDefEqProofs [bd, L24b0, hst, hp0, hp1, hQ]
    | true =>
      rw [ho] at hst
      obtain ⟨a1, s1, kk, u, v, m, p1, q1, zm, e1⟩ := key12_u x hx a s h0 (by omega) c d n (by omega)
      have S5 : Stable [some (sQ ⟨#[]⟩ ⟨#[]⟩ 0), some (cu x a s), some (sQ c0 d0 n0), some (kR l), some (sQ c d n)] := by
        have := stable_leaves (H := []) ⟨by simp [oldIds], rfl⟩ [sQ ⟨#[]⟩ ⟨#[]⟩ 0, cu x a s, sQ c0 d0 n0, kR l, sQ c d n] (by
          intro q hq
          simp at hq
          rcases hq with rfl | rfl | rfl | rfl | rfl <;> first | exact leaf_kR l | exact ⟨rfl, fun _ => rfl⟩)
        exact this
      have f1 := e1 _ 1 rfl S5
      have hdo := do_s c d n kk u v m (by omega) ho
      have hm : (l ++ [(kk, u, v, m)]).map kb = l.map kb ++ [.agg [i64 kk, i64 u, i64 v, st m]] := by rw [List.map_append]; rfl
      have hll : (l ++ [(kk, u, v, m)]).length = l.length + 1 := by simp
      have l1 : l.length + 1 ≤ 140737488355328 := by omega
      have l2 : (l.length + 1) * 40 ≤ 140737488355328 := by omega
      have htk : List.take l.length (l.map kb) = l.map kb := List.take_of_length_le (by simp)
      have hz2 : ∀ q ∈ l ++ [(kk, u, v, m)], q.2.2.2.size ≤ 20 := fun q hq => by
        rcases List.mem_append.1 hq with hq | hq
        · exact hz q hq
        · rw [List.mem_singleton.1 hq]; exact zm
      cases hdk : dk c d n kk u v m with
      | none =>
        rw [hdk] at hdo
        obtain ⟨l', k1, k2, k3⟩ := ih a1 s1 c d n c0 d0 n0 (l ++ [(kk, u, v, m)]) (by omega) (by omega) y1 y2 (by rw [hll]; omega) hz2
        refine ⟨l', by rw [hll] at k1; omega, k2, ?_⟩
        unfold kR at k3 f1 ⊢
        rw [hm, hll] at k3
        unfold sQ cu dkV sA kA at *
        simp only [List.set_cons_succ, List.set_cons_zero] at f1
        rw [loopW_eq, cs1]
        clear ih
        generalize l'.map kb = Q' at *
        generalize hqq : l.map kb = Q at *
        generalize loopW (bd E0 (ev E0) loopW 0 [2, 4, 5, 6, 7, 8] L24b0) = K at k3 ⊢
        simpa (maxSteps := 1000000) -implicitDefEqProofs [bd, L24b0, hst, f1, hdo, hw, hw2, hp0, hp1, hQ, l1, l2, htk] using k3
      | some p =>
        obtain ⟨c2, d2⟩ := p
        rw [hdk] at hdo
        obtain ⟨_, w1, w2, _, _⟩ := okSt_small (dk_ok hdk)
        obtain ⟨l', k1, k2, k3⟩ := ih a1 s1 c2 d2 (n + 1) c0 d0 n0 (l ++ [(kk, u, v, m)]) (by omega) (by omega) (by omega) (by omega) (by rw [hll]; omega) hz2
        refine ⟨l', by rw [hll] at k1; omega, k2, ?_⟩
        unfold kR at k3 f1 ⊢
        rw [hm, hll] at k3
        unfold sQ cu dkV sA kA at *
        simp only [List.set_cons_succ, List.set_cons_zero] at f1
        rw [loopW_eq, cs1]
        clear ih
        generalize l'.map kb = Q' at *
        generalize hqq : l.map kb = Q at *
        generalize loopW (bd E0 (ev E0) loopW 0 [2, 4, 5, 6, 7, 8] L24b0) = K at k3 ⊢
        simpa (maxSteps := 1000000) -implicitDefEqProofs [bd, L24b0, hst, f1, hdo, hw, hw2, hp0, hp1, hQ, l1, l2, htk] using k3
end Go.Proofs.YtjagdiilcphhfaaGreatDoor.Ev.Dr
