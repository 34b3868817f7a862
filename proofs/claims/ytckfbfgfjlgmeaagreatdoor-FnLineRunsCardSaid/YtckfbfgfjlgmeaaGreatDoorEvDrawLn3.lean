/- The draws of the law on lines of beats. -/
import Derived.Test.YtckfbfgfjlgmeaaGreatDoorEvDrawLn2
set_option linter.unusedVariables false
set_option linter.unusedSimpArgs false
set_option maxHeartbeats 1000000
namespace Go.Proofs.YtckfbfgfjlgmeaaGreatDoor.Ev.Dr
theorem stK (x : List Int) (a s : Int) : Stable [some (cu x a s)] := ⟨by simp [oldIds, cu], rfl⟩
theorem leaf_pB (l : List P) : leafB (pB l) := ⟨by simp [blkIds, pB], fun _ => by simp [rnmB, pB]⟩
theorem leaf_sB (l : List ByteArray) : leafB (tr l) := ⟨by simp [blkIds, tr], fun _ => by simp [rnmB, tr]⟩
theorem leaf_ib (l : List Int) : leafB (⟨3, 1, 1, false, l.map i64⟩ : Blk) := ⟨by simp [blkIds], fun _ => by simp [rnmB]⟩
theorem drawIsLine (x : List Int) (hx : okC x) : ∃ l : ByteArray, l.size ≤ 10000 ∧ ev E0 73 [.lst 1 (cd x)] [] = some (st l, []) := by
  obtain ⟨a, s, l, p, q, z, e⟩ := line_ok x hx [some (cu x 0 0)] 0 0 0 rfl (stK x 0 0) (by omega) (by omega)
  refine ⟨l, z, ?_⟩
  simp only [cu, List.set_cons_zero] at e
  rw [e73]
  unfold runF
  simp -implicitDefEqProofs [L73, e]
theorem drawRuns (x : List Int) (hx : okC x) : ∃ l : ByteArray, l.size ≤ 10000 ∧ ev E0 7 [.lst 1 (cd x)] [] = some (st l, []) := by
  obtain ⟨l, z, e⟩ := drawIsLine x hx
  refine ⟨l, z, ?_⟩
  rw [e7]
  unfold runF
  simp -implicitDefEqProofs [L7, e]
theorem drawJoin (x : List Int) (hx : okC x) : ∃ l m : ByteArray, l.size ≤ 10000 ∧ m.size ≤ 10000 ∧ ev E0 17 [.lst 1 (cd x)] [] = some (.tup [st l, st m], []) := by
  obtain ⟨a, s, l, p, q, z, e⟩ := line_ok x hx [some (cu x 0 0)] 0 0 0 rfl (stK x 0 0) (by omega) (by omega)
  obtain ⟨a2, s2, m, p2, q2, z2, e2⟩ := line_ok x hx [some (cu x a s)] 0 a s rfl (stK x a s) (by omega) (by omega)
  refine ⟨l, m, z, z2, ?_⟩
  simp only [cu, List.set_cons_zero] at e e2
  rw [e17]
  unfold runF
  simp -implicitDefEqProofs [L17, e, e2]
theorem once_loop (x : List Int) (hx : okC x) : ∀ (k : Nat) (a s : Int) (l : List ByteArray), 0 ≤ a → a + 3000 * k ≤ 10000000 → l.length + k ≤ 100 → (∀ t ∈ l, t.size ≤ 10000) →
    ∃ l' : List ByteArray, l'.length ≤ l.length + k ∧ (∀ t ∈ l', t.size ≤ 10000) ∧ packX 0 [4] (loopW (bd E0 (ev E0) loopW 0 [3, 4, 5] L24b0) ⟨[(3, .ptr 0 0 0), (4, .sl 1 0 l.length), (5, i64 k)], [some (cu x a s), some (tr l)]⟩) = some (.ext 0, ⟨[(4, .sl 0 0 l'.length)], [some (tr l')]⟩) := by
  intro k
  induction k with
  | zero =>
    intro a s l h0 h1 hl hz
    refine ⟨l, by omega, hz, ?_⟩
    have hlf := leaf_sB l
    have hQ : (l.map st).length = l.length := List.length_map _
    unfold tr cu at *
    rw [loopW_eq]
    generalize loopW (bd E0 (ev E0) loopW 0 [3, 4, 5] L24b0) = K
    simp -implicitDefEqProofs [bd, L24b0, hQ, hlf.1, hlf.2]
  | succ k ih =>
    intro a s l h0 h1 hl hz
    have hw : IntKind.i64.wrap (((k + 1 : Nat) : Int) - 1) = k := by rw [wr64 (by omega) (by omega)]; omega
    rw [cs1] at hw
    have hp0 : (0 : Int) < (k : Int) + 1 := by omega
    have hp1 : 0 < k + 1 := by omega
    have hw2 : IntKind.i64.wrap (k : Int) = k := wr64 (by omega) (by omega)
    have hQ : (l.map st).length = l.length := List.length_map _
    have S2 : Stable [some (cu x a s), some (tr l)] := stable_leaf (stK x a s) (leaf_sB l)
    obtain ⟨a1, s1, m, p1, q1, zm, e1⟩ := line_ok x hx [some (cu x a s), some (tr l)] 0 a s rfl S2 (by omega) (by omega)
    have hm : (l ++ [m]).map st = l.map st ++ [st m] := by rw [List.map_append]; rfl
    have hll : (l ++ [m]).length = l.length + 1 := by simp
    have l1 : l.length + 1 ≤ 140737488355328 := by omega
    have l2 : (l.length + 1) * 16 ≤ 140737488355328 := by omega
    have htk : List.take l.length (l.map st) = l.map st := List.take_of_length_le (by simp)
    have hfr := leaf_sB l
    have hz2 : ∀ q ∈ l ++ [m], q.size ≤ 10000 := fun q hq => by
      rcases List.mem_append.1 hq with hq | hq
      · exact hz q hq
      · rw [List.mem_singleton.1 hq]; exact zm
    obtain ⟨l', k1, k2, k3⟩ := ih a1 s1 (l ++ [m]) (by omega) (by omega) (by rw [hll]; omega) hz2
    refine ⟨l', by rw [hll] at k1; omega, k2, ?_⟩
    clear ih
    rw [loopW_eq, cs1]
    have hfr := free_st l
    unfold tr cu at *
    rw [hm, hll] at k3
    simp only [List.set_cons_zero] at e1
    generalize l.map st = Q at *
    generalize loopW (bd E0 (ev E0) loopW 0 [3, 4, 5] L24b0) = K at k3 ⊢
    simpa -implicitDefEqProofs [bd, L24b0, hp0, hp1, hw, hw2, e1, hQ, l1, l2, htk, hfr] using k3
theorem drawOnce (x : List Int) (hx : okC x) : ∃ l : List ByteArray, l.length ≤ 100 ∧ (∀ t ∈ l, t.size ≤ 10000) ∧ ev E0 24 [.lst 1 (cd x)] [] = some (.sl 0 0 l.length, [some (tr l)]) := by
  have S2 : Stable [some (cu x 0 0), some (tr []), some (⟨3, 1, 1, false, [2, 3, 1, 0, 4, 9].map i64⟩ : Blk)] := stable_leaf (stable_leaf (stK x 0 0) (leaf_sB [])) (leaf_ib _)
  obtain ⟨a1, s1, t, p1, q1, ht, e1⟩ := among_fx x hx [some (cu x 0 0)] [some (tr []), some (⟨3, 1, 1, false, [2, 3, 1, 0, 4, 9].map i64⟩ : Blk)] 0 0 0 rfl S2 (by omega) (by omega) 1 [2, 3, 1, 0, 4, 9] 6 rfl (by decide) rfl
  simp only [List.mem_cons, List.not_mem_nil, or_false] at ht
  obtain ⟨k, rfl⟩ : ∃ k : Nat, t = k := ⟨t.toNat, by omega⟩
  obtain ⟨l, k1, k2, k3⟩ := once_loop x hx k a1 s1 [] (by omega) (by omega) (by show 0 + k ≤ 100; omega) (by simp)
  rw [List.length_nil] at k1 k3
  refine ⟨l, by omega, k2, ?_⟩
  have hlf := leaf_sB l
  have hfr := free_st l
  have hQ : (l.map st).length = l.length := List.length_map _
  unfold tr cu at *
  simp only [List.set_cons_zero, List.map_nil, List.map_cons, List.cons_append, List.nil_append, List.length_cons, List.length_nil, Nat.zero_add, Nat.reduceAdd] at e1 k3
  rw [e24]
  unfold runF
  generalize l.map st = Q at *
  simp -implicitDefEqProofs [L24, e1, k3, hlf.1, hlf.2, hfr, hQ]
theorem drawLor (x : List Int) (hx : okC x) : ∃ l : List P, l.length ≤ 10000 ∧ ev E0 12 [.lst 1 (cd x)] [] = some (.sl 0 0 l.length, [some (pB l)]) := by
  obtain ⟨a1, s1, t, p1, q1, z1, e1⟩ := line_ok x hx [some (cu x 0 0)] 0 0 0 rfl (stK x 0 0) (by omega) (by omega)
  obtain ⟨D, zD, e2⟩ := runs_g t (by omega)
  have hfr := free_pn D
  have hQ : (D.map pn).length = D.length := List.length_map _
  by_cases h0 : D.length = 0
  · have hD : D = [] := List.length_eq_zero_iff.1 h0
    subst hD
    refine ⟨[], by simp, ?_⟩
    unfold pB cu at *
    simp only [List.set_cons_zero, List.map_nil, List.length_nil] at e1 e2 ⊢
    rw [e12]
    unfold runF
    simp -implicitDefEqProofs [L12, e1, e2]
  · have hp : 0 < D.length := by omega
    have hp2 : (0 : Int) < (D.length : Int) := by omega
    have S3 : ∀ a s : Int, Stable [some (cu x a s), some (pB D)] := fun a s => stable_leaf (stK x a s) (leaf_pB D)
    obtain ⟨a2, s2, b, p2, q2, e3⟩ := one_ok x hx [some (cu x a1 s1), some (pB D)] 0 a1 s1 rfl (S3 a1 s1) (by omega) (by omega) 6
    cases b with
    | false =>
      refine ⟨D, by omega, ?_⟩
      unfold pB cu at *
      simp only [List.set_cons_zero] at e1 e2 e3
      rw [e12]
      unfold runF
      generalize D.map pn = Q at *
      simp -implicitDefEqProofs [L12, e1, e2, e3, hp, hp2, hfr, hQ]
    | true =>
      obtain ⟨a4, s4, r, p4, q4, r0, r1, e4⟩ := pick_ok x hx [some (cu x a2 s2), some (pB D)] 0 a2 s2 rfl (S3 a2 s2) (by omega) (by omega) D.length
      obtain ⟨n, rfl⟩ : ∃ k : Nat, r = k := ⟨r.toNat, by omega⟩
      have hn : n < D.length := by omega
      have hn2 : (n : Int) < (D.length : Int) := by omega
      have S4 : ∀ a s : Int, ∀ q : List Int, Stable [some (cu x a s), some (pB D), some (⟨3, 1, 1, false, q.map i64⟩ : Blk)] := fun a s q => stable_leaf (S3 a s) (leaf_ib q)
      obtain ⟨a5, s5, v, p5, q5, hv, e5⟩ := among_fx x hx [some (cu x a4 s4)] [some (pB D), some (⟨3, 1, 1, false, [0, 1, 2, -1].map i64⟩ : Blk)] 0 a4 s4 rfl (S4 a4 s4 _) (by omega) (by omega) 1 [0, 1, 2, -1] 4 rfl (by decide) rfl
      obtain ⟨a6, s6, c, p6, q6, hc, e6⟩ := among_fx x hx [some (cu x a5 s5)] [some (pB D), some (⟨3, 1, 1, false, [0, 1, 2, -1].map i64⟩ : Blk), some (⟨3, 1, 1, false, [1, 0, -1, 200, 201, 4611686018427387904].map i64⟩ : Blk)] 0 a5 s5 rfl (stable_leaf (S4 a5 s5 _) (leaf_ib _)) (by omega) (by omega) 2 [1, 0, -1, 200, 201, 4611686018427387904] 6 rfl (by decide) rfl
      refine ⟨D.set n (v, c), by rw [List.length_set]; omega, ?_⟩
      have hms : (D.set n (v, c)).map pn = (D.map pn).set n (.agg [i64 v, i64 c]) := by rw [List.map_set]; rfl
      have hfr2 := free_pn (D.set n (v, c))
      have hQ2 : ((D.map pn).set n (.agg [i64 v, i64 c])).length = D.length := by rw [List.length_set, List.length_map]
      have hnQ : n < (D.map pn).length := by rw [hQ]; exact hn
      obtain ⟨u0, hu0⟩ : ∃ u : P, D[n]? = some u := ⟨D[n], List.getElem?_eq_getElem hn⟩
      have hgt : (D.map pn)[n]? = some (pn u0) := by rw [List.getElem?_map, hu0]; rfl
      rw [hms] at hfr2
      rw [List.length_set]
      unfold pB cu at *
      rw [hms]
      simp only [List.set_cons_zero, List.map_nil, List.map_cons, List.cons_append, List.nil_append, List.length_cons, List.length_nil, Nat.zero_add, Nat.reduceAdd] at e1 e2 e3 e4 e5 e6
      rw [e12]
      unfold runF
      have hgx : ∀ h, (D.map pn)[n]'h = pn u0 := fun h => (List.getElem?_eq_some_iff.1 hgt).2
      have hpu : pn u0 = .agg [i64 u0.1, i64 u0.2] := rfl
      rw [hpu] at hgt hgx
      generalize D.map pn = Q at *
      simp -implicitDefEqProofs [L12, e1, e2, e3, e4, e5, e6, hp, hp2, hfr, hfr2, hQ, hQ2, hn, hn2, hgt, hgx, hnQ]
end Go.Proofs.YtckfbfgfjlgmeaaGreatDoor.Ev.Dr
