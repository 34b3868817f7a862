/- Chains of single mistakes: the program's and the reference's. -/
import Derived.Test.YtodcochnciadjaaDoorEvMi8
set_option linter.unusedVariables false
set_option linter.unusedSimpArgs false
namespace Go.Proofs.YtodcochnciadjaaDoor.Ev
open Bf
theorem ns_get {q : List Nat} {i : Nat} (h : i < q.length) : (ns q)[i]? = some (i64 (Q q i : Int)) := get_ns h (Q_at h).symm
theorem ns_get' {q : List Nat} {i : Nat} (h : i < q.length) : ∀ k, (ns q)[i]'k = i64 (Q q i : Int) := fun k => (List.getElem?_eq_some_iff.1 (ns_get h)).2
theorem inv_le {adj : Nat → Nat → Bool} {n tg : Nat} {f : List Int} {q : List Nat} {i k : Nat} (h : Inv adj n tg f q i k) (v : Nat) : G f v ≤ n := by
  have hlen := h.len
  by_cases hv : v < n
  · apply Decidable.byContradiction
    intro hc
    have hj : ∀ (m : Nat) (v : Nat), v < n → G f v = (m : Int) → ∀ j : Nat, j ≤ m → (j : Int) ∈ f := by
      intro m
      induction m with
      | zero =>
        intro v hv e j hj
        obtain rfl : j = 0 := by omega
        rw [G_at (by omega)] at e
        show (0 : Int) ∈ f
        rw [← show f[v]'(by omega) = 0 from e]
        exact List.getElem_mem _
      | succ m ihm =>
        intro v hv e j hj
        by_cases hjn : j = m + 1
        · subst hjn
          rw [G_at (by omega)] at e
          rw [← e]
          exact List.getElem_mem _
        · have hvt : v ≠ tg := by rintro rfl; rw [h.zero] at e; omega
          obtain ⟨u, hu, _, h5, h6⟩ := h.pred v hv hvt (by omega)
          exact ihm u hu (by omega) j (by omega)
    have := pig ((G f v).toNat + 1) f (fun j hj2 => hj (G f v).toNat v hv (by omega) j (by omega))
    omega
  · rw [G_out (by omega)]
    omega
theorem bfs0 (ms : List ByteArray) (hm : ms.length ≤ 1000) (hz : ∀ m ∈ ms, m.size ≤ 400) (fr tg i : Nat) : ∀ (c k : Nat) (f : List Int) (q : List Nat), k + c = ms.length → i < q.length → Inv (adjM ms) ms.length tg f q i k →
    ∃ f' q', Inv (adjM ms) ms.length tg f' q' i ms.length ∧ i < q'.length ∧ packX 0 [1, 2, 3, 8, 9, 10] (loopW (bd E0 (ev E0) loopW 0 [1, 2, 3, 8, 9, 10, 48, 49, 50] L31b0) ⟨[(1, i64 fr), (2, i64 tg), (3, .ptr 0 0 0), (8, .sl 1 0 ms.length), (9, .sl 2 0 q.length), (10, i64 i), (48, .lst 1 (ms.map st)), (49, i64 ms.length), (50, i64 k)], [some (tb ms), some (fb6 f), some (ib q)]⟩) =
      some (.ext 2, ⟨[(1, i64 fr), (2, i64 tg), (3, .ptr 0 0 0), (8, .sl 1 0 ms.length), (9, .sl 2 0 q'.length), (10, i64 i)], [some (tb ms), some (fb6 f'), some (ib q')]⟩) := by
  unfold tb fb6 ib
  intro c
  induction c with
  | zero =>
    intro k f q h hiq hR
    obtain rfl : k = ms.length := by omega
    refine ⟨f, q, hR, hiq, ?_⟩
    rw [loopW_eq]
    generalize loopW (bd E0 (ev E0) loopW 0 [1, 2, 3, 8, 9, 10, 48, 49, 50] L31b0) = K
    simp -implicitDefEqProofs [bd, L31b0]
  | succ c ih =>
    intro k f q h hiq hR
    have hk : k < ms.length := by omega
    have hkk : (k : Int) < (ms.length : Int) := by omega
    have hlen := hR.len
    have hsh := hR.short
    have hQ := hR.lt _ (Q_mem hiq)
    have hQi : (Q q i : Int) < (ms.length : Int) := by omega
    have hiqi : (i : Int) < (q.length : Int) := by omega
    have hpos := hR.pos hiq
    have hmono := hR.mono i i (Nat.le_refl _) hiq
    have g1 := fi_at (f := f) (v := Q q i) (by omega)
    have g1' := fi_at' (f := f) (v := Q q i) (by omega)
    have g2 := fi_at (f := f) (v := k) (by omega)
    have g2' := fi_at' (f := f) (v := k) (by omega)
    have g3 := ns_get hiq
    have g3' := ns_get' hiq
    have hl := fi_len f
    have hnl := ns_len q
    have m1 := get_mk hQ
    have m1' := mk_at hQ
    have m2 := get_mk hk
    have m2' := mk_at hk
    have hds := ds_i (mk_ ms k) (mk_ ms (Q q i)) (mk_sz hz k) (mk_sz hz (Q q i))
    rw [ds_symm] at hds
    have hw : IntKind.i64.wrap ((k : Int) + 1) = (k : Int) + 1 := wr64 (by omega) (by omega)
    have hfq := inv_le hR (Q q i)
    have hw2 : IntKind.i64.wrap (G f (Q q i) + 1) = G f (Q q i) + 1 := wr64 (by omega) (by omega)
    have hset := fi_set f k (G f (Q q i) + 1)
    have l1 : q.length + 1 ≤ 140737488355328 := by omega
    have l2 : (q.length + 1) * 8 ≤ 140737488355328 := by omega
    have ht : List.take q.length (ns q) = ns q := List.take_of_length_le (by omega)
    have ha := ns_app q k
    have hadj : adjM ms (Q q i) k = decide ((ds (mk_ ms (Q q i)) (mk_ ms k) : Int) = 1) := by unfold adjM; rw [decide_eq_decide]; omega
    have hhit : hit (adjM ms) f q i k = (decide (G f k < 0) && adjM ms (Q q i) k) := rfl
    rw [hlen] at hl
    cases hh : hit (adjM ms) f q i k with
    | true =>
      have hR' := hR.hit hiq hk hh
      obtain ⟨f', q', h1, h1', h2⟩ := ih (k + 1) (f.set k (G f (Q q i) + 1)) (q ++ [k]) (by omega) (by simp; omega) hR'
      refine ⟨f', q', h1, h1', ?_⟩
      rw [hh] at hhit
      have hhit := hhit.symm
      rw [Bool.and_eq_true, decide_eq_true_eq, hadj, decide_eq_true_eq] at hhit
      obtain ⟨q1, q3⟩ := hhit
      rw [cs1, ← hset, ← ha, List.length_append, List.length_singleton] at h2
      rw [loopW_eq]
      clear ih hR h1 hh hadj hset hR'
      generalize loopW (bd E0 (ev E0) loopW 0 [1, 2, 3, 8, 9, 10, 48, 49, 50] L31b0) = K at h2 ⊢
      generalize G f (Q q i) = x at *
      generalize G f k = y at *
      generalize ds (mk_ ms (Q q i)) (mk_ ms k) = d at *
      have q4 : d = 1 := by omega
      generalize mk_ ms (Q q i) = a at *
      generalize mk_ ms k = b at *
      generalize Q q i = qi at *
      generalize fi f = nf at *
      generalize ns q = nq at *
      simpa -implicitDefEqProofs [bd, L31b0, hQ, hQi, hk, hkk, hiq, hiqi, g1, g1', g2, g2', g3, g3', hl, hnl, m1, m1', m2, m2', hds, hw, hw2, q1, q3, q4, l1, l2, ht] using h2
    | false =>
      obtain ⟨f', q', h1, h1', h2⟩ := ih (k + 1) f q (by omega) hiq (hR.miss hk hh)
      refine ⟨f', q', h1, h1', ?_⟩
      rw [hh, hadj] at hhit
      rw [cs1] at h2
      rw [loopW_eq]
      clear ih hR h1 hh hadj hset ha
      generalize loopW (bd E0 (ev E0) loopW 0 [1, 2, 3, 8, 9, 10, 48, 49, 50] L31b0) = K at h2 ⊢
      generalize G f (Q q i) = x at *
      generalize G f k = y at *
      generalize ds (mk_ ms (Q q i)) (mk_ ms k) = d at *
      generalize mk_ ms (Q q i) = a at *
      generalize mk_ ms k = b at *
      generalize Q q i = qi at *
      generalize fi f = nf at *
      generalize ns q = nq at *
      by_cases q1 : y < 0
      · have q3 : ¬ (d : Int) = 1 := by
          intro q3
          rw [decide_eq_true q1, decide_eq_true q3] at hhit
          cases hhit
        have q4 : ¬ d = 1 := by omega
        simpa -implicitDefEqProofs [bd, L31b0, hQ, hQi, hk, hkk, hiq, hiqi, g1, g1', g2, g2', g3, g3', hl, hnl, m1, m1', m2, m2', hds, hw, hw2, q1, q3, q4, l1, l2, ht] using h2
      · simpa -implicitDefEqProofs [bd, L31b0, hQ, hQi, hk, hkk, hiq, hiqi, g1, g1', g2, g2', g3, g3', hl, hnl, m1, m1', m2, m2', hds, hw, hw2, q1, l1, l2, ht] using h2
theorem bfs1 (ms : List ByteArray) (hm : ms.length ≤ 1000) (hz : ∀ m ∈ ms, m.size ≤ 400) (fr tg : Nat) : ∀ (c i : Nat) (f : List Int) (q : List Nat), i + c = ms.length → Inv (adjM ms) ms.length tg f q i 0 →
    ∃ f', Lv (adjM ms) ms.length tg f' ∧ packX 0 [1, 2, 3, 8] (loopW (bd E0 (ev E0) loopW 0 [1, 2, 3, 8, 9, 10] L31b1) ⟨[(1, i64 fr), (2, i64 tg), (3, .ptr 0 0 0), (8, .sl 1 0 ms.length), (9, .sl 2 0 q.length), (10, i64 i)], [some (tb ms), some (fb6 f), some (ib q)]⟩) =
      some (.ext 0, ⟨[(1, i64 fr), (2, i64 tg), (3, .ptr 0 0 0), (8, .sl 1 0 ms.length)], [some (tb ms), some (fb6 f')]⟩) := by
  have stop : ∀ (i : Nat) (f : List Int) (q : List Nat), ¬ i < q.length → packX 0 [1, 2, 3, 8] (loopW (bd E0 (ev E0) loopW 0 [1, 2, 3, 8, 9, 10] L31b1) ⟨[(1, i64 fr), (2, i64 tg), (3, .ptr 0 0 0), (8, .sl 1 0 ms.length), (9, .sl 2 0 q.length), (10, i64 i)], [some (tb ms), some (fb6 f), some (ib q)]⟩) =
      some (.ext 0, ⟨[(1, i64 fr), (2, i64 tg), (3, .ptr 0 0 0), (8, .sl 1 0 ms.length)], [some (tb ms), some (fb6 f)]⟩) := by
    intro i f q hq
    have hqi : ¬ (i : Int) < (q.length : Int) := by omega
    unfold tb fb6 ib
    rw [loopW_eq]
    generalize loopW (bd E0 (ev E0) loopW 0 [1, 2, 3, 8, 9, 10] L31b1) = K
    unfold bd
    simp -implicitDefEqProofs [L31b1, hq, hqi]
  intro c
  induction c with
  | zero =>
    intro i f q h hR
    have := hR.short
    exact ⟨f, hR.fin (by omega), stop i f q (by omega)⟩
  | succ c ih =>
    intro i f q h hR
    by_cases hq : i < q.length
    · obtain ⟨f1, q1, r1, hq1, hin⟩ := bfs0 ms hm hz fr tg i ms.length 0 f q (by omega) hq hR
      obtain ⟨f', h1, h2⟩ := ih (i + 1) f1 q1 (by omega) (r1.next hq1)
      refine ⟨f', h1, ?_⟩
      have hqi : (i : Int) < (q.length : Int) := by omega
      have hw : IntKind.i64.wrap ((i : Int) + 1) = (i : Int) + 1 := wr64 (by omega) (by omega)
      rw [cs1] at h2
      rw [c0] at hin
      unfold tb fb6 ib at hin h2 ⊢
      rw [loopW_eq]
      clear stop ih
      generalize loopW (bd E0 (ev E0) loopW 0 [1, 2, 3, 8, 9, 10] L31b1) = K at h2 ⊢
      unfold bd
      simpa -implicitDefEqProofs [L31b1, hq, hqi, hin, hw] using h2
    · exact ⟨f, hR.fin hq, stop i f q hq⟩
theorem nxt0 (ms : List ByteArray) (hm : ms.length ≤ 1000) (hz : ∀ m ∈ ms, m.size ≤ 400) (f : List Int) (hf : f.length = ms.length) (tg a : Nat) (ha : a < ms.length) (hfa : -1 ≤ G f a ∧ G f a ≤ 2000) (l : List Nat) (x : Nat) (hx : x < ms.length) (hok : okn (adjM ms) f a x = true) (hno : ∀ j, j < x → okn (adjM ms) f a j = false) : ∀ (c k : Nat), k + c = x →
    packX 0 [2, 3, 8, 13, 15] (loopW (bd E0 (ev E0) loopW 0 [2, 3, 8, 13, 14, 15] L31b2) ⟨[(2, i64 tg), (3, .ptr 0 0 0), (8, .sl 1 0 ms.length), (13, .sl 2 0 l.length), (14, i64 a), (15, i64 k)], [some (tb ms), some (fb6 f), some (ib l)]⟩) =
      some (.ext 6, ⟨[(2, i64 tg), (3, .ptr 0 0 0), (8, .sl 1 0 ms.length), (13, .sl 2 0 l.length), (15, i64 x)], [some (tb ms), some (fb6 f), some (ib l)]⟩) := by
  unfold tb fb6 ib
  have hl := fi_len f
  rw [hf] at hl
  have g1 := fi_at (f := f) (v := a) (by omega)
  have g1' := fi_at' (f := f) (v := a) (by omega)
  have m1 := get_mk ha
  have m1' := mk_at ha
  have haa : (a : Int) < (ms.length : Int) := by omega
  have hw2 : IntKind.i64.wrap (G f a - 1) = G f a - 1 := wr64 (by omega) (by omega)
  have fact : ∀ k, k < ms.length → (fi f)[k]? = some (i64 (G f k)) ∧ (∀ q, (fi f)[k]'q = i64 (G f k)) ∧ ev E0 58 [st (mk_ ms k), st (mk_ ms a)] [] = some (i64 (ds (mk_ ms k) (mk_ ms a) : Int), []) ∧ okn (adjM ms) f a k = (decide (G f k = G f a - 1) && decide ((ds (mk_ ms k) (mk_ ms a) : Int) = 1)) := by
    intro k hk
    refine ⟨fi_at (by omega), fi_at' (by omega), ds_i _ _ (mk_sz hz k) (mk_sz hz a), ?_⟩
    unfold okn adjM
    congr 1
    rw [decide_eq_decide]
    omega
  intro c
  induction c with
  | zero =>
    intro k h
    obtain rfl : k = x := by omega
    obtain ⟨g2, g2', hds, hq⟩ := fact k hx
    have m2 := get_mk hx
    have m2' := mk_at hx
    have hkk : (k : Int) < (ms.length : Int) := by omega
    rw [hok] at hq
    have hq := hq.symm
    rw [Bool.and_eq_true, decide_eq_true_eq, decide_eq_true_eq] at hq
    obtain ⟨q1, q2⟩ := hq
    rw [loopW_eq]
    generalize loopW (bd E0 (ev E0) loopW 0 [2, 3, 8, 13, 14, 15] L31b2) = K
    clear fact hok hno
    generalize ds (mk_ ms k) (mk_ ms a) = d at *
    have q3 : d = 1 := by omega
    generalize mk_ ms k = b at *
    generalize mk_ ms a = e at *
    rw [q1] at g2 g2'
    generalize G f a = y at *
    generalize fi f = nf at *
    simp -implicitDefEqProofs [bd, L31b2, ha, haa, hx, hkk, g1, g1', g2, g2', hl, m1, m1', m2, m2', hds, hw2, q2, q3]
  | succ c ih =>
    intro k h
    have hih := ih (k + 1) (by omega)
    have hk : k < ms.length := by omega
    obtain ⟨g2, g2', hds, hq⟩ := fact k hk
    have m2 := get_mk hk
    have m2' := mk_at hk
    have hkk : (k : Int) < (ms.length : Int) := by omega
    have hw : IntKind.i64.wrap ((k : Int) + 1) = (k : Int) + 1 := wr64 (by omega) (by omega)
    rw [hno k (by omega)] at hq
    rw [cs1] at hih
    rw [loopW_eq]
    generalize loopW (bd E0 (ev E0) loopW 0 [2, 3, 8, 13, 14, 15] L31b2) = K at hih ⊢
    clear fact hok hno ih
    generalize ds (mk_ ms k) (mk_ ms a) = d at *
    generalize mk_ ms k = b at *
    generalize mk_ ms a = e at *
    generalize G f a = y at *
    generalize G f k = z at *
    generalize fi f = nf at *
    by_cases q1 : z = y - 1
    · have q2 : ¬ (d : Int) = 1 := by
        intro q2
        rw [decide_eq_true q1, decide_eq_true q2] at hq
        cases hq
      have q3 : ¬ d = 1 := by omega
      simpa -implicitDefEqProofs [bd, L31b2, ha, haa, hk, hkk, g1, g1', g2, g2', hl, m1, m1', m2, m2', hds, hw, hw2, q1, q2, q3] using hih
    · simpa -implicitDefEqProofs [bd, L31b2, ha, haa, hk, hkk, g1, g1', g2, g2', hl, m1, m1', m2, m2', hds, hw, hw2, q1] using hih
theorem lv_le {adj : Nat → Nat → Bool} {n tg : Nat} {f : List Int} (h : Lv adj n tg f) (v : Nat) : G f v ≤ n := by
  have hlen := h.len
  by_cases hv : v < n
  · apply Decidable.byContradiction
    intro hc
    have hj : ∀ (m : Nat) (v : Nat), v < n → G f v = (m : Int) → ∀ j : Nat, j ≤ m → (j : Int) ∈ f := by
      intro m
      induction m with
      | zero =>
        intro v hv e j hj
        obtain rfl : j = 0 := by omega
        rw [G_at (by omega)] at e
        show (0 : Int) ∈ f
        rw [← show f[v]'(by omega) = 0 from e]
        exact List.getElem_mem _
      | succ m ihm =>
        intro v hv e j hj
        by_cases hjn : j = m + 1
        · subst hjn
          rw [G_at (by omega)] at e
          rw [← e]
          exact List.getElem_mem _
        · have hvt : v ≠ tg := by rintro rfl; rw [h.zero] at e; omega
          obtain ⟨u, hu, _, h5, h6⟩ := h.pred v hv hvt (by omega)
          exact ihm u hu (by omega) j (by omega)
    have := pig ((G f v).toNat + 1) f (fun j hj2 => hj (G f v).toNat v hv (by omega) j (by omega))
    omega
  · rw [G_out (by omega)]
    omega
theorem cha3 (ms : List ByteArray) (hm : ms.length ≤ 1000) (hz : ∀ m ∈ ms, m.size ≤ 400) (f : List Int) (tg : Nat) (hL : Lv (adjM ms) ms.length tg f) : ∀ (m a : Nat) (l : List Nat), a < ms.length → G f a = (m : Int) → l.length + m ≤ 100000 →
    packX 0 [13] (loopW (bd E0 (ev E0) loopW 0 [2, 3, 8, 13, 14] L31b3) ⟨[(2, i64 tg), (3, .ptr 0 0 0), (8, .sl 1 0 ms.length), (13, .sl 2 0 l.length), (14, i64 a)], [some (tb ms), some (fb6 f), some (ib l)]⟩) =
      some (.ext 4, ⟨[(13, .sl 0 0 (l ++ way (adjM ms) ms.length f m a).length)], [some (ib (l ++ way (adjM ms) ms.length f m a))]⟩) := by
  intro m
  induction m with
  | zero =>
    intro a l ha h0 hl
    obtain rfl := at_to hL ha h0
    unfold tb fb6 ib
    rw [loopW_eq]
    generalize loopW (bd E0 (ev E0) loopW 0 [2, 3, 8, 13, 14] L31b3) = K
    unfold bd
    simp -implicitDefEqProofs [L31b3, way]
  | succ m ih =>
    intro a l ha h0 hl
    obtain ⟨hne, hx, h1, hadj⟩ := nx_next hL ha h0
    obtain ⟨_, hok, hno⟩ := nx_ok hL ha hne (by omega)
    have hle := lv_le hL a
    have hin := nxt0 ms hm hz f hL.len tg a ha ⟨by omega, by omega⟩ l _ hx hok hno _ 0 (Nat.zero_add _)
    have hih := ih (nx (adjM ms) ms.length f a) (l ++ [nx (adjM ms) ms.length f a]) hx h1 (by simp; omega)
    rw [way, List.append_cons l]
    clear ih hok hno
    generalize (l ++ [nx (adjM ms) ms.length f a]) ++ way _ _ _ _ _ = R at hih ⊢
    generalize nx (adjM ms) ms.length f a = x at *
    have ha' := ns_app l x
    have hnl := ns_len l
    have ht : List.take l.length (ns l) = ns l := List.take_of_length_le (by omega)
    have l1 : l.length + 1 ≤ 140737488355328 := by omega
    have l2 : (l.length + 1) * 8 ≤ 140737488355328 := by omega
    have hnei : ¬ (a : Int) = (tg : Int) := by omega
    unfold tb fb6 ib at hin hih ⊢
    rw [← ha', List.length_append, List.length_singleton] at hih
    rw [c0] at hin
    rw [loopW_eq]
    generalize loopW (bd E0 (ev E0) loopW 0 [2, 3, 8, 13, 14] L31b3) = K at hih ⊢
    generalize ns l = nl at *
    generalize fi f = nf at *
    unfold bd
    simpa -implicitDefEqProofs [L31b3, hne, hnei, hin, hnl, ht, l1, l2] using hih
end Go.Proofs.YtodcochnciadjaaDoor.Ev
