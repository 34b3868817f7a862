/- The draws of traces. -/
import Derived.Test.YtkdfgjijmnaljaaEvDrawM
set_option linter.unusedVariables false
set_option linter.unusedSimpArgs false
namespace Go.Proofs.Ytkdfgjijmnaljaa.Ev.Dr
theorem stable_ib {H : Hp} (hs : Stable H) (l : List Int) : Stable (H ++ [some (ib l)]) := stable_leaf hs ⟨rfl, fun _ => rfl⟩
theorem drift_loop (x : List Int) (hx : okC x) (H : Hp) (id : Nat) (a0 s0 : Int) (h : hget H id = some (cu x a0 s0)) (hs : Stable H) : ∀ (k i : Nat) (a s : Int) (l : List Int), i + k = l.length → l.length ≤ 1000000 → 0 ≤ a → a + 4 * k ≤ 500000000000 →
    ∃ (a' s' : Int) (l' : List Int), a ≤ a' ∧ a' ≤ a + 4 * k ∧ l'.length = l.length ∧
    packX H.length [0, 3] (loopW (bd E0 (ev E0) loopW H.length [0, 3, 6] L20b0) ⟨[(0, .ptr id 0 0), (3, .sl H.length 0 l.length), (6, i64 i)], H.set id (some (cu x a s)) ++ [some (ib l)]⟩) = some (.ext 0, ⟨[(0, .ptr id 0 0), (3, .sl H.length 0 l'.length)], H.set id (some (cu x a' s')) ++ [some (ib l')]⟩) := by
  have hid := id_lt h
  have hP := pe_cu h hs
  have hP0 := pe_cu0 h hs
  intro k
  induction k with
  | zero =>
    intro i a s l hi hl h0 h1
    refine ⟨a, s, l, by omega, by omega, rfl, ?_⟩
    have hi1 : ¬ i < l.length := by omega
    have hi2 : ¬ (i : Int) < (l.length : Int) := by omega
    rw [loopW_eq]
    generalize loopW (bd E0 (ev E0) loopW H.length [0, 3, 6] L20b0) = K
    unfold ib
    simp -implicitDefEqProofs [bd, L20b0, hi1, hi2, -packH, hP0, hP, hid, nlt_add, List.idxOf?, List.findIdx?_cons]
  | succ k ih =>
    intro i a s l hi hl h0 h1
    have hi1 : i < l.length := by omega
    have hi2 : (i : Int) < (l.length : Int) := by omega
    have hw : IntKind.i64.wrap ((i : Int) + 1) = (i : Int) + 1 := wr64 (by omega) (by omega)
    have hsa := stable_cu hs h a s
    have hga : hget (H.set id (some (cu x a s))) id = some (cu x a s) := hget_cu hid
    have hsI := stable_ib hsa l
    obtain ⟨a1, s1, r, p1, q1, r0, r1, e1⟩ := pick_fx x hx _ [some (ib l)] id a s hga hsI h0 (by omega) 4
    rw [List.set_set] at e1
    have hs1 := stable_cu hs h a1 s1
    have hg1 : hget (H.set id (some (cu x a1 s1))) id = some (cu x a1 s1) := hget_cu hid
    obtain ⟨y, hy⟩ : ∃ y, l[i] = y := ⟨_, rfl⟩
    have hyg : ∀ h, l[i]'h = y := fun _ => hy
    obtain ⟨a2, s2, v, p2, q2, v0, v1, e2⟩ := pick_fx x hx _ [some (ib l)] id a1 s1 hg1 (stable_ib hs1 l) (by omega) (by omega) (IntKind.i64.wrap (1 + IntKind.i64.wrap (y.tdiv 3)))
    rw [List.set_set] at e2
    have hsl : ∀ u : Int, (l.set i u).length = l.length := fun u => List.length_set
    have hset : ∀ u : Int, (l.set i u).map i64 = (l.map i64).set i (i64 u) := fun u => by rw [List.map_set]
    obtain ⟨u, hu⟩ : ∃ u : Int, (if IntKind.i64.wrap (y - v) < 1 then (1 : Int) else IntKind.i64.wrap (y - v)) = u := ⟨_, rfl⟩
    have hmo := most_d 1 (IntKind.i64.wrap (y - v))
    rw [hu] at hmo
    unfold ib at e1 e2
    rw [loopW_eq]
    by_cases hr0 : r = 0
    · obtain ⟨a', s', l', k1, k2, k3, k4⟩ := ih (i + 1) a2 s2 (l.set i (IntKind.i64.wrap (y + v))) (by rw [hsl]; omega) (by rw [hsl]; exact hl) (by omega) (by omega)
      rw [hsl] at k3 k4
      unfold ib at k4 ⊢
      rw [hset, cs1] at k4
      refine ⟨a', s', l', by omega, by omega, k3, ?_⟩
      generalize loopW (bd E0 (ev E0) loopW H.length [0, 3, 6] L20b0) = K at k4 ⊢
      simpa -implicitDefEqProofs [bd, L20b0, hi1, hi2, hw, e1, e2, hr0, hyg, -packH, hP0, hP, hid, nlt_add, List.idxOf?, List.findIdx?_cons] using k4
    · by_cases hr1 : r = 1
      · obtain ⟨a', s', l', k1, k2, k3, k4⟩ := ih (i + 1) a2 s2 (l.set i u) (by rw [hsl]; omega) (by rw [hsl]; exact hl) (by omega) (by omega)
        rw [hsl] at k3 k4
        unfold ib at k4 ⊢
        rw [hset, cs1] at k4
        refine ⟨a', s', l', by omega, by omega, k3, ?_⟩
        generalize loopW (bd E0 (ev E0) loopW H.length [0, 3, 6] L20b0) = K at k4 ⊢
        simpa -implicitDefEqProofs [bd, L20b0, hi1, hi2, hw, e1, e2, hr0, hr1, hyg, hmo, -packH, hP0, hP, hid, nlt_add, List.idxOf?, List.findIdx?_cons] using k4
      · obtain ⟨a', s', l', k1, k2, k3, k4⟩ := ih (i + 1) a1 s1 l (by omega) hl (by omega) (by omega)
        unfold ib at k4 ⊢
        rw [cs1] at k4
        refine ⟨a', s', l', by omega, by omega, k3, ?_⟩
        generalize loopW (bd E0 (ev E0) loopW H.length [0, 3, 6] L20b0) = K at k4 ⊢
        simpa -implicitDefEqProofs [bd, L20b0, hi1, hi2, hw, e1, hr0, hr1, -packH, hP0, hP, hid, nlt_add, List.idxOf?, List.findIdx?_cons] using k4
theorem any_loop (x : List Int) (hx : okC x) (H : Hp) (id : Nat) (a0 s0 : Int) (h : hget H id = some (cu x a0 s0)) (hs : Stable H) : ∀ (k : Nat) (a s : Int) (l : List Int), l.length + k ≤ 1000000 → 0 ≤ a → a + 2 * k ≤ 500000000000 →
    ∃ (a' s' : Int) (l' : List Int), a ≤ a' ∧ a' ≤ a + 2 * k ∧ l'.length = l.length + k ∧
    packX H.length [0, 3] (loopW (bd E0 (ev E0) loopW H.length [0, 3, 7] L20b1) ⟨[(0, .ptr id 0 0), (3, .sl H.length 0 l.length), (7, i64 k)], H.set id (some (cu x a s)) ++ [some (ib l)]⟩) = some (.ext 3, ⟨[(0, .ptr id 0 0), (3, .sl H.length 0 l'.length)], H.set id (some (cu x a' s')) ++ [some (ib l')]⟩) := by
  have hid := id_lt h
  have hP := pe_cu h hs
  have hP0 := pe_cu0 h hs
  intro k
  induction k with
  | zero =>
    intro a s l hl h0 h1
    refine ⟨a, s, l, by omega, by omega, rfl, ?_⟩
    rw [loopW_eq]
    generalize loopW (bd E0 (ev E0) loopW H.length [0, 3, 7] L20b1) = K
    unfold ib
    simp -implicitDefEqProofs [bd, L20b1, -packH, hP0, hP, hid, nlt_add, List.idxOf?, List.findIdx?_cons]
  | succ k ih =>
    intro a s l hl h0 h1
    have hw : IntKind.i64.wrap (((k + 1 : Nat) : Int) - 1) = k := by rw [wr64 (by omega) (by omega)]; omega
    rw [cs1] at hw
    have hp0 : (0 : Int) < (k : Int) + 1 := by omega
    have hp1 : 0 < k + 1 := by omega
    have hw2 : IntKind.i64.wrap (k : Int) = k := wr64 (by omega) (by omega)
    have hsa := stable_cu hs h a s
    have hga : hget (H.set id (some (cu x a s))) id = some (cu x a s) := hget_cu hid
    have hsI : Stable (H.set id (some (cu x a s)) ++ [some (ib l), some (ib [1, 2, 5, 10, 30, 70, 3, 999, 12, 8])]) := by
      have h1 := stable_ib (stable_ib hsa l) [1, 2, 5, 10, 30, 70, 3, 999, 12, 8]
      rwa [List.append_assoc] at h1
    obtain ⟨a1, s1, y, p1, q1, hy, e1⟩ := among_fx x hx _ _ id a s hga hsI h0 (by omega) 1 [1, 2, 5, 10, 30, 70, 3, 999, 12, 8] 10 rfl (by decide) rfl
    rw [List.set_set, List.length_set] at e1
    obtain ⟨a', s', l', k1, k2, k3, k4⟩ := ih a1 s1 (l ++ [y]) (by simp; omega) (by omega) (by omega)
    rw [List.length_append, List.length_singleton] at k3
    refine ⟨a', s', l', by omega, by omega, by omega, ?_⟩
    have hl1 : (l.length + 1) * 8 ≤ 140737488355328 := by omega
    have hl2 : l.length + 1 ≤ 140737488355328 := by omega
    have htk : List.take l.length (l.map i64) = l.map i64 := List.take_of_length_le (by simp)
    unfold ib at e1 k4 ⊢
    rw [List.map_append, List.length_append, List.length_singleton] at k4
    simp only [List.map_cons, List.map_nil] at e1 k4
    rw [loopW_eq, cs1]
    generalize loopW (bd E0 (ev E0) loopW H.length [0, 3, 7] L20b1) = K at k4 ⊢
    simpa -implicitDefEqProofs [bd, L20b1, e1, hw, hw2, hp0, hp1, hl1, hl2, htk, -packH, hP0, hP, hid, nlt_add, List.idxOf?, List.findIdx?_cons] using k4
theorem long_loop (x : List Int) (hx : okC x) (H : Hp) (id : Nat) (a0 s0 : Int) (h : hget H id = some (cu x a0 s0)) (hs : Stable H) : ∀ (k : Nat) (a s : Int) (l : List Int), 160 ≤ l.length + k → l.length ≤ 1000 → 0 ≤ a → a + 2 * k ≤ 500000000000 →
    ∃ (a' s' : Int) (l' : List Int), a ≤ a' ∧ a' ≤ a + 2 * k + 2 ∧ (l'.length ≤ l.length ∨ l'.length ≤ 160) ∧ 0 < l'.length + 1 ∧ l.length ≤ l'.length ∧
    packX H.length [3] (loopW (bd E0 (ev E0) loopW H.length [0, 3] L20b2) ⟨[(0, .ptr id 0 0), (3, .sl H.length 0 l.length)], H.set id (some (cu x a s)) ++ [some (ib l)]⟩) = some (.ext 6, ⟨[(3, .sl H.length 0 l'.length)], H.set id (some (cu x a' s')) ++ [some (ib l')]⟩) := by
  have hid := id_lt h
  have hP := pe_cu h hs
  have hP0 := pe_cu0 h hs
  intro k
  induction k with
  | zero =>
    intro a s l hl hl2 h0 h1
    have hsa := stable_cu hs h a s
    have hga : hget (H.set id (some (cu x a s))) id = some (cu x a s) := hget_cu hid
    obtain ⟨a1, s1, r, p1, q1, r0, r1, e1⟩ := pick_fx x hx _ [some (ib l)] id a s hga (stable_ib hsa l) h0 (by omega) 2
    rw [List.set_set] at e1
    refine ⟨a1, s1, l, by omega, by omega, .inl (Nat.le_refl _), by omega, Nat.le_refl _, ?_⟩
    have hw1 : IntKind.i64.wrap (2 * r) = 2 * r := wr64 (by omega) (by omega)
    have hw2 : IntKind.i64.wrap (143 + 2 * r) = 143 + 2 * r := wr64 (by omega) (by omega)
    have hc : ¬ (l.length : Int) < 143 + 2 * r := by omega
    rw [loopW_eq]
    generalize loopW (bd E0 (ev E0) loopW H.length [0, 3] L20b2) = K
    unfold ib at e1 ⊢
    simp -implicitDefEqProofs [bd, L20b2, e1, hw1, hw2, hc, -packH, hP0, hP, hid, nlt_add, List.idxOf?, List.findIdx?_cons]
  | succ k ih =>
    intro a s l hl hl2 h0 h1
    have hsa := stable_cu hs h a s
    have hga : hget (H.set id (some (cu x a s))) id = some (cu x a s) := hget_cu hid
    obtain ⟨a1, s1, r, p1, q1, r0, r1, e1⟩ := pick_fx x hx _ [some (ib l)] id a s hga (stable_ib hsa l) h0 (by omega) 2
    rw [List.set_set] at e1
    have hw1 : IntKind.i64.wrap (2 * r) = 2 * r := wr64 (by omega) (by omega)
    have hw2 : IntKind.i64.wrap (143 + 2 * r) = 143 + 2 * r := wr64 (by omega) (by omega)
    by_cases hc : (l.length : Int) < 143 + 2 * r
    · obtain ⟨a', s', l', k1, k2, k3, k5, k6, k4⟩ := ih a1 s1 (l ++ [10, 10]) (by simp; omega) (by simp; omega) (by omega) (by omega)
      have hll : (l ++ [10, 10]).length = l.length + 1 + 1 := by simp
      rw [hll] at k3 k6 k4
      refine ⟨a', s', l', by omega, by omega, by omega, by omega, by omega, ?_⟩
      have hl1 : (l.length + 1 + 1) * 8 ≤ 140737488355328 := by omega
      have hl2 : l.length + 1 + 1 ≤ 140737488355328 := by omega
      have htk : List.take l.length (l.map i64) = l.map i64 := List.take_of_length_le (by simp)
      unfold ib at e1 k4 ⊢
      rw [List.map_append] at k4
      simp only [List.map_cons, List.map_nil] at k4
      rw [loopW_eq]
      generalize loopW (bd E0 (ev E0) loopW H.length [0, 3] L20b2) = K at k4 ⊢
      simpa -implicitDefEqProofs [bd, L20b2, e1, hw1, hw2, hc, hl1, hl2, htk, -packH, hP0, hP, hid, nlt_add, List.idxOf?, List.findIdx?_cons] using k4
    · refine ⟨a1, s1, l, by omega, by omega, .inl (Nat.le_refl _), by omega, Nat.le_refl _, ?_⟩
      rw [loopW_eq]
      generalize loopW (bd E0 (ev E0) loopW H.length [0, 3] L20b2) = K
      unfold ib at e1 ⊢
      simp -implicitDefEqProofs [bd, L20b2, e1, hw1, hw2, hc, -packH, hP0, hP, hid, nlt_add, List.idxOf?, List.findIdx?_cons]
theorem get_ib {H : Hp} {id : Nat} {b : Blk} (h : hget H id = some b) (l : List Int) : hget (H ++ [some (ib l)]) id = some b := hget_app h
/-- A trace drawn, whatever it is. -/
theorem trace5_ok (x : List Int) (hx : okC x) (H : Hp) (id : Nat) (a s : Int) (h : hget H id = some (cu x a s)) (hs : Stable H) (h0 : 0 ≤ a) (h1 : a ≤ 50000000000) :
    ∃ (a' s' : Int) (l : List Int), a ≤ a' ∧ a' ≤ a + 10000 ∧ l.length ≤ 200 ∧ ev E0 20 [.ptr id 0 0] H = some (.sl H.length 0 l.length, H.set id (some (cu x a' s')) ++ [some (ib l)]) := by
  have hid := id_lt h
  have hP := pe_cu h hs
  have hP0 := pe_cu0 h hs
  -- the table
  obtain ⟨a1, s1, ms, T, ex, p1, q1, hml, hmz, hT, hst1, hex, e1⟩ : ∃ (a1 s1 : Int) (ms : List ByteArray) (T : AV) (ex : Hp), a ≤ a1 ∧ a1 ≤ a + 2000 ∧ ms.length ≤ 30 ∧ (∀ t ∈ ms, t.size ≤ 20) ∧ TabM (H.set id (some (cu x a1 s1)) ++ (some (ib []) :: ex)) id ms T ∧ (∀ a' s' : Int, Stable (H.set id (some (cu x a' s')) ++ (some (ib []) :: ex))) ∧ (ex = [] ∨ ex = [some (tr ms)]) ∧ ev E0 37 [.ptr id 0 0] (H ++ [some (ib [])]) = some (.agg [T], H.set id (some (cu x a1 s1)) ++ (some (ib []) :: ex)) := by
    obtain ⟨a1, s1, p1, q1, hh⟩ := table_ok x hx (H ++ [some (ib [])]) id a s (hget_app h) (stable_ib hs []) h0 (by omega)
    rcases hh with hh | ⟨ms, z1, z2, hh⟩
    · rw [set_app h] at hh
      exact ⟨a1, s1, [], .v (.slice none 0 0), [], p1, q1, by simp, by simp, .inl ⟨rfl, rfl⟩, fun a' s' => stable_ib (stable_cu hs h a' s') [], .inl rfl, hh⟩
    · rw [set_app h, List.append_assoc] at hh
      have hne : H.length + 1 ≠ id := by omega
      refine ⟨a1, s1, ms, .sl (H.length + 1) 0 ms.length, [some (tr ms)], p1, q1, z1, z2, .inr ⟨H.length + 1, false, rfl, hne, ?_⟩, fun a' s' => ?_, .inr rfl, ?_⟩
      · unfold hget
        rw [List.getElem?_append_right (by rw [List.length_set]; omega), List.length_set]
        simp [tr]
      · have := stable_leaf (stable_ib (stable_cu hs h a' s') []) (b := tr ms) ⟨rfl, fun _ => rfl⟩
        rwa [List.append_assoc] at this
      · rw [hh, List.length_append]; rfl
  have hg1 : ∀ a' s' : Int, hget (H.set id (some (cu x a' s')) ++ (some (ib []) :: ex)) id = some (cu x a' s') := fun a' s' => hget_app (hget_cu hid)
  have hset : ∀ a' s' a'' s'' : Int, (H.set id (some (cu x a' s')) ++ (some (ib []) :: ex)).set id (some (cu x a'' s'')) = H.set id (some (cu x a'' s'')) ++ (some (ib []) :: ex) := fun a' s' a'' s'' => by rw [set_app (hget_cu hid), List.set_set]
  obtain ⟨a2, s2, t, p2, q2, zt, e2⟩ := signal_ok x hx _ id a1 s1 (hg1 a1 s1) (hst1 a1 s1) (by omega) (by omega) ms (by omega) hmz T hT
  rw [hset] at e2
  have hst3 : ∀ (a' s' : Int) (l : List Int), Stable (H.set id (some (cu x a' s')) ++ (some (ib []) :: (ex ++ [some (ib l)]))) := fun a' s' l => by
    have := stable_ib (hst1 a' s') l
    rwa [List.append_assoc, List.cons_append] at this
  obtain ⟨a3, s3, u, p3, q3, hu, e3⟩ := among_fx x hx (H.set id (some (cu x a2 s2))) (some (ib []) :: (ex ++ [some (ib [10, 5, 20, 3, 1, 60])])) id a2 s2 (hget_cu hid) (hst3 a2 s2 _) (by omega) (by omega) (ex.length + 1) [10, 5, 20, 3, 1, 60] 6 rfl (by decide) (by simp [ib])
  rw [List.set_set, List.length_set] at e3
  have e4 := traceOf_s t (by omega) u
  have hbl := exL_b t (B t) 0
  -- what is behind the first part
  have hst5 : ∀ (a' s' : Int) (l r : List Int), Stable (H.set id (some (cu x a' s')) ++ (some (ib []) :: (ex ++ [some (ib r), some (ib l)]))) := fun a' s' l r => by
    have := stable_ib (hst3 a' s' r) l
    rwa [List.append_assoc, List.cons_append, List.append_assoc] at this
  have tailP : ∀ (a5 s5 : Int) (l : List Int), a ≤ a5 → a5 ≤ a + 6000 → 1 ≤ l.length → l.length ≤ 150 → ∃ (a6 s6 k a7 s7 v a8 s8 y a9 s9 : Int) (l9 : List Int), a ≤ a6 ∧ a6 ≤ a + 10000 ∧ a ≤ a8 ∧ a8 ≤ a + 10000 ∧ a ≤ a9 ∧ a9 ≤ a + 10000 ∧ 0 ≤ v ∧ v < l.length ∧ l9.length ≤ 200 ∧
      ev E0 22 [.ptr id 0 0, i64 40] (H.set id (some (cu x a5 s5)) ++ [some (ib l)]) = some (i64 k, H.set id (some (cu x a6 s6)) ++ [some (ib l)]) ∧
      ev E0 22 [.ptr id 0 0, i64 l.length] (H.set id (some (cu x a6 s6)) ++ [some (ib l)]) = some (i64 v, H.set id (some (cu x a7 s7)) ++ [some (ib l)]) ∧
      ev E0 21 [.ptr id 0 0, .sl (H.length + 1) 0 4] (H.set id (some (cu x a7 s7)) ++ [some (ib l), some (ib [0, -1, 1000, 4611686018427387904])]) = some (i64 y, H.set id (some (cu x a8 s8)) ++ [some (ib l), some (ib [0, -1, 1000, 4611686018427387904])]) ∧
      packX H.length [3] (loopW (bd E0 (ev E0) loopW H.length [0, 3] L20b2) ⟨[(0, .ptr id 0 0), (3, .sl H.length 0 l.length)], H.set id (some (cu x a6 s6)) ++ [some (ib l)]⟩) = some (.ext 6, ⟨[(3, .sl H.length 0 l9.length)], H.set id (some (cu x a9 s9)) ++ [some (ib l9)]⟩) := by
    intro a5 s5 l b1 b2 b3 b4
    obtain ⟨a6, s6, k, p6, q6, k0, k1, e6⟩ := pick_fx x hx _ [some (ib l)] id a5 s5 (hget_cu hid) (stable_ib (stable_cu hs h a5 s5) l) (by omega) (by omega) 40
    rw [List.set_set] at e6
    obtain ⟨a7, s7, v, p7, q7, v0, v1, e7⟩ := pick_fx x hx _ [some (ib l)] id a6 s6 (hget_cu hid) (stable_ib (stable_cu hs h a6 s6) l) (by omega) (by omega) l.length
    rw [List.set_set] at e7
    obtain ⟨a8, s8, y, p8, q8, hy, e8⟩ := among_fx x hx (H.set id (some (cu x a7 s7))) [some (ib l), some (ib [0, -1, 1000, 4611686018427387904])] id a7 s7 (hget_cu hid) (by
      have := stable_ib (stable_ib (stable_cu hs h a7 s7) l) [0, -1, 1000, 4611686018427387904]
      rwa [List.append_assoc] at this) (by omega) (by omega) 1 [0, -1, 1000, 4611686018427387904] 4 rfl (by decide) rfl
    rw [List.set_set, List.length_set] at e8
    obtain ⟨a9, s9, l9, p9, q9, z9, _, _, e9⟩ := long_loop x hx H id a s h hs 160 a6 s6 l (by omega) (by omega) (by omega) (by omega)
    exact ⟨a6, s6, k, a7, s7, v, a8, s8, y, a9, s9, l9, by omega, by omega, by omega, by omega, by omega, by omega, v0, by omega, by omega, e6, e7, e8, e9⟩
  have hw13 : ∀ r : Int, 0 ≤ r → r < 5 → IntKind.i64.wrap (2 * r) = 2 * r ∧ IntKind.i64.wrap (1 + 2 * r) = 1 + 2 * r := fun r _ _ => ⟨wr64 (by omega) (by omega), wr64 (by omega) (by omega)⟩
  obtain ⟨a4, s4, q, p4, q4, e5⟩ := one_fx x hx (H.set id (some (cu x a3 s3))) (some (ib []) :: (ex ++ [some (ib [10, 5, 20, 3, 1, 60]), some (ib ((exT t).map (· * u)))])) id a3 s3 (hget_cu hid) (hst5 a3 s3 _ _) (by omega) (by omega) 6
  rw [List.set_set] at e5
  obtain ⟨a4', s4', r', p4', q4', r0', r1', e5'⟩ := pick_fx x hx (H.set id (some (cu x a4 s4))) (some (ib []) :: (ex ++ [some (ib [10, 5, 20, 3, 1, 60]), some (ib ((exT t).map (· * u)))])) id a4 s4 (hget_cu hid) (hst5 a4 s4 _ _) (by omega) (by omega) 5
  rw [List.set_set] at e5'
  obtain ⟨a4'', s4'', r'', p4'', q4'', r0'', r1'', e5''⟩ := pick_fx x hx (H.set id (some (cu x a3 s3))) (some (ib []) :: (ex ++ [some (ib [10, 5, 20, 3, 1, 60]), some (ib [])])) id a3 s3 (hget_cu hid) (hst5 a3 s3 _ _) (by omega) (by omega) 5
  rw [List.set_set] at e5''
  rw [e20]
  unfold runF

  cases ho : okTrOf t u with
  | true =>
    rw [ho, if_pos rfl] at e4
    have hne : 1 ≤ (exT t).length := by
      have h2 : t ≠ ⟨#[]⟩ := by
        intro e
        subst e
        unfold okTrOf at ho
        simp at ho
      have h3 : 1 ≤ t.size := by
        apply Nat.pos_of_ne_zero
        intro h4
        exact h2 (ByteArray.ext (Array.eq_empty_of_size_eq_zero h4))
      have h5 := hbl.2.2
      rw [B_len] at h5
      unfold exT
      omega
    have hsz := okSig_sz (s := t) (by unfold okTrOf at ho; rw [Bool.and_eq_true] at ho; exact ho.1)
    have hle : (exT t).length ≤ 144 := by
      have h5 := hbl.2.1
      rw [B_len] at h5
      unfold exT
      omega
    have hlm : ((exT t).map (· * u)).length = (exT t).length := List.length_map _
    cases q with
    | false =>
      obtain ⟨a5, s5, l, p5, q5, zl, e6⟩ := drift_loop x hx H id a s h hs (exT t).length 0 a4 s4 ((exT t).map (· * u)) (by omega) (by omega) (by omega) (by omega)
      rw [hlm, c0] at e6
      rw [hlm] at zl
      generalize hE : (exT t).map (· * u) = E at *
      generalize (exT t).length = En at *
      obtain ⟨a6, s6, k, a7, s7, v, a8, s8, y, a9, s9, l9, b1, b2, b3, b4, b5, b6, v0, v1, z9, f1, f2, f3, f4⟩ := tailP a5 s5 l (by omega) (by omega) (by omega) (by omega)
      obtain ⟨v, rfl⟩ : ∃ n : Nat, v = n := ⟨v.toNat, by omega⟩
      have hv : v < l.length := by omega
      have hl1 : (l.length + 1) * 8 ≤ 140737488355328 := by omega
      have hl2 : l.length + 1 ≤ 140737488355328 := by omega
      have htk : List.take l.length (l.map i64) = l.map i64 := List.take_of_length_le (by simp)
      have hls : (l.set v y).length = l.length := List.length_set
      have hms : (l.set v y).map i64 = (l.map i64).set v (i64 y) := by rw [List.map_set]
      unfold ib at *
      unfold ibk at e4
      unfold tr at hex
      simp only [List.map_cons, List.map_nil] at e1 e2 e3 e4 e5 e5' e5'' e6 f3
      by_cases k0 : k = 0
      · refine ⟨a6, s6, l ++ [10], by omega, by omega, by simp; omega, ?_⟩
        rw [List.length_append, List.length_singleton, List.map_append, List.map_cons, List.map_nil]
        rcases hex with rfl | rfl <;> simp only [List.length_nil, List.length_cons, List.nil_append, List.cons_append, Nat.zero_add, Nat.reduceAdd] at e1 e2 e3 e5 e5' e5'' <;> simp (maxSteps := 1000000) -implicitDefEqProofs [L20, e1, e2, e3, e4, e5, e6, f1, f2, f3, f4, k0, hl1, hl2, htk, -packH, hP, hP0, hid, nlt_add, List.idxOf?, List.findIdx?_cons]
      · by_cases k1 : k = 1
        · refine ⟨a8, s8, l.set v y, by omega, by omega, by rw [hls]; omega, ?_⟩
          rw [hls, hms]
          rcases hex with rfl | rfl <;> simp only [List.length_nil, List.length_cons, List.nil_append, List.cons_append, Nat.zero_add, Nat.reduceAdd] at e1 e2 e3 e5 e5' e5'' <;> simp (maxSteps := 1000000) -implicitDefEqProofs [L20, e1, e2, e3, e4, e5, e6, f1, f2, f3, f4, k0, k1, hv, -packH, hP, hP0, hid, nlt_add, List.idxOf?, List.findIdx?_cons]
        · by_cases k2 : k = 2
          · refine ⟨a9, s9, l9, by omega, by omega, by omega, ?_⟩
            rcases hex with rfl | rfl <;> simp only [List.length_nil, List.length_cons, List.nil_append, List.cons_append, Nat.zero_add, Nat.reduceAdd] at e1 e2 e3 e5 e5' e5'' <;> simp (maxSteps := 1000000) -implicitDefEqProofs [L20, e1, e2, e3, e4, e5, e6, f1, f2, f3, f4, k0, k1, k2, -packH, hP, hP0, hid, nlt_add, List.idxOf?, List.findIdx?_cons]
          · refine ⟨a6, s6, l, by omega, by omega, by omega, ?_⟩
            rcases hex with rfl | rfl <;> simp only [List.length_nil, List.length_cons, List.nil_append, List.cons_append, Nat.zero_add, Nat.reduceAdd] at e1 e2 e3 e5 e5' e5'' <;> simp (maxSteps := 1000000) -implicitDefEqProofs [L20, e1, e2, e3, e4, e5, e6, f1, f2, f3, f4, k0, k1, k2, -packH, hP, hP0, hid, nlt_add, List.idxOf?, List.findIdx?_cons]
    | true =>
      obtain ⟨r', rfl⟩ : ∃ n : Nat, r' = n := ⟨r'.toNat, by omega⟩
      obtain ⟨w1, w2⟩ := hw13 r' (by omega) (by omega)
      obtain ⟨a5, s5, l, p5, q5, zl, e6⟩ := any_loop x hx H id a s h hs (1 + 2 * r') a4' s4' [] (by simp; omega) (by omega) (by omega)
      have hc : ((1 + 2 * r' : Nat) : Int) = 1 + 2 * (r' : Int) := by omega
      rw [List.length_nil, hc] at e6
      rw [List.length_nil] at zl
      generalize hE : (exT t).map (· * u) = E at *
      generalize (exT t).length = En at *
      obtain ⟨a6, s6, k, a7, s7, v, a8, s8, y, a9, s9, l9, b1, b2, b3, b4, b5, b6, v0, v1, z9, f1, f2, f3, f4⟩ := tailP a5 s5 l (by omega) (by omega) (by omega) (by omega)
      obtain ⟨v, rfl⟩ : ∃ n : Nat, v = n := ⟨v.toNat, by omega⟩
      have hv : v < l.length := by omega
      have hl1 : (l.length + 1) * 8 ≤ 140737488355328 := by omega
      have hl2 : l.length + 1 ≤ 140737488355328 := by omega
      have htk : List.take l.length (l.map i64) = l.map i64 := List.take_of_length_le (by simp)
      have hls : (l.set v y).length = l.length := List.length_set
      have hms : (l.set v y).map i64 = (l.map i64).set v (i64 y) := by rw [List.map_set]
      unfold ib at *
      unfold ibk at e4
      unfold tr at hex
      simp only [List.map_cons, List.map_nil] at e1 e2 e3 e4 e5 e5' e5'' e6 f3
      by_cases k0 : k = 0
      · refine ⟨a6, s6, l ++ [10], by omega, by omega, by simp; omega, ?_⟩
        rw [List.length_append, List.length_singleton, List.map_append, List.map_cons, List.map_nil]
        rcases hex with rfl | rfl <;> simp only [List.length_nil, List.length_cons, List.nil_append, List.cons_append, Nat.zero_add, Nat.reduceAdd] at e1 e2 e3 e5 e5' e5'' <;> simp (maxSteps := 1000000) -implicitDefEqProofs [L20, e1, e2, e3, e4, e5, e5', w1, w2, e6, f1, f2, f3, f4, k0, hl1, hl2, htk, -packH, hP, hP0, hid, nlt_add, List.idxOf?, List.findIdx?_cons]
      · by_cases k1 : k = 1
        · refine ⟨a8, s8, l.set v y, by omega, by omega, by rw [hls]; omega, ?_⟩
          rw [hls, hms]
          rcases hex with rfl | rfl <;> simp only [List.length_nil, List.length_cons, List.nil_append, List.cons_append, Nat.zero_add, Nat.reduceAdd] at e1 e2 e3 e5 e5' e5'' <;> simp (maxSteps := 1000000) -implicitDefEqProofs [L20, e1, e2, e3, e4, e5, e5', w1, w2, e6, f1, f2, f3, f4, k0, k1, hv, -packH, hP, hP0, hid, nlt_add, List.idxOf?, List.findIdx?_cons]
        · by_cases k2 : k = 2
          · refine ⟨a9, s9, l9, by omega, by omega, by omega, ?_⟩
            rcases hex with rfl | rfl <;> simp only [List.length_nil, List.length_cons, List.nil_append, List.cons_append, Nat.zero_add, Nat.reduceAdd] at e1 e2 e3 e5 e5' e5'' <;> simp (maxSteps := 1000000) -implicitDefEqProofs [L20, e1, e2, e3, e4, e5, e5', w1, w2, e6, f1, f2, f3, f4, k0, k1, k2, -packH, hP, hP0, hid, nlt_add, List.idxOf?, List.findIdx?_cons]
          · refine ⟨a6, s6, l, by omega, by omega, by omega, ?_⟩
            rcases hex with rfl | rfl <;> simp only [List.length_nil, List.length_cons, List.nil_append, List.cons_append, Nat.zero_add, Nat.reduceAdd] at e1 e2 e3 e5 e5' e5'' <;> simp (maxSteps := 1000000) -implicitDefEqProofs [L20, e1, e2, e3, e4, e5, e5', w1, w2, e6, f1, f2, f3, f4, k0, k1, k2, -packH, hP, hP0, hid, nlt_add, List.idxOf?, List.findIdx?_cons]
  | false =>
    rw [ho, if_neg (by simp)] at e4
    obtain ⟨r', rfl⟩ : ∃ n : Nat, r'' = n := ⟨r''.toNat, by omega⟩
    obtain ⟨w1, w2⟩ := hw13 r' (by omega) (by omega)
    obtain ⟨a5, s5, l, p5, q5, zl, e6⟩ := any_loop x hx H id a s h hs (1 + 2 * r') a4'' s4'' [] (by simp; omega) (by omega) (by omega)
    have hc : ((1 + 2 * r' : Nat) : Int) = 1 + 2 * (r' : Int) := by omega
    rw [List.length_nil, hc] at e6
    rw [List.length_nil] at zl
    obtain ⟨a6, s6, k, a7, s7, v, a8, s8, y, a9, s9, l9, b1, b2, b3, b4, b5, b6, v0, v1, z9, f1, f2, f3, f4⟩ := tailP a5 s5 l (by omega) (by omega) (by omega) (by omega)
    obtain ⟨v, rfl⟩ : ∃ n : Nat, v = n := ⟨v.toNat, by omega⟩
    have hv : v < l.length := by omega
    have hl1 : (l.length + 1) * 8 ≤ 140737488355328 := by omega
    have hl2 : l.length + 1 ≤ 140737488355328 := by omega
    have htk : List.take l.length (l.map i64) = l.map i64 := List.take_of_length_le (by simp)
    have hls : (l.set v y).length = l.length := List.length_set
    have hms : (l.set v y).map i64 = (l.map i64).set v (i64 y) := by rw [List.map_set]
    unfold ib at *
    unfold ibk at e4
    unfold tr at hex
    simp only [List.map_cons, List.map_nil] at e1 e2 e3 e4 e5 e5' e5'' e6 f3
    by_cases k0 : k = 0
    · refine ⟨a6, s6, l ++ [10], by omega, by omega, by simp; omega, ?_⟩
      rw [List.length_append, List.length_singleton, List.map_append, List.map_cons, List.map_nil]
      rcases hex with rfl | rfl <;> simp only [List.length_nil, List.length_cons, List.nil_append, List.cons_append, Nat.zero_add, Nat.reduceAdd] at e1 e2 e3 e5 e5' e5'' <;> simp (maxSteps := 1000000) -implicitDefEqProofs [L20, e1, e2, e3, e4, e5'', w1, w2, e6, f1, f2, f3, f4, k0, hl1, hl2, htk, -packH, hP, hP0, hid, nlt_add, List.idxOf?, List.findIdx?_cons]
    · by_cases k1 : k = 1
      · refine ⟨a8, s8, l.set v y, by omega, by omega, by rw [hls]; omega, ?_⟩
        rw [hls, hms]
        rcases hex with rfl | rfl <;> simp only [List.length_nil, List.length_cons, List.nil_append, List.cons_append, Nat.zero_add, Nat.reduceAdd] at e1 e2 e3 e5 e5' e5'' <;> simp (maxSteps := 1000000) -implicitDefEqProofs [L20, e1, e2, e3, e4, e5'', w1, w2, e6, f1, f2, f3, f4, k0, k1, hv, -packH, hP, hP0, hid, nlt_add, List.idxOf?, List.findIdx?_cons]
      · by_cases k2 : k = 2
        · refine ⟨a9, s9, l9, by omega, by omega, by omega, ?_⟩
          rcases hex with rfl | rfl <;> simp only [List.length_nil, List.length_cons, List.nil_append, List.cons_append, Nat.zero_add, Nat.reduceAdd] at e1 e2 e3 e5 e5' e5'' <;> simp (maxSteps := 1000000) -implicitDefEqProofs [L20, e1, e2, e3, e4, e5'', w1, w2, e6, f1, f2, f3, f4, k0, k1, k2, -packH, hP, hP0, hid, nlt_add, List.idxOf?, List.findIdx?_cons]
        · refine ⟨a6, s6, l, by omega, by omega, by omega, ?_⟩
          rcases hex with rfl | rfl <;> simp only [List.length_nil, List.length_cons, List.nil_append, List.cons_append, Nat.zero_add, Nat.reduceAdd] at e1 e2 e3 e5 e5' e5'' <;> simp (maxSteps := 1000000) -implicitDefEqProofs [L20, e1, e2, e3, e4, e5'', w1, w2, e6, f1, f2, f3, f4, k0, k1, k2, -packH, hP, hP0, hid, nlt_add, List.idxOf?, List.findIdx?_cons]
end Go.Proofs.Ytkdfgjijmnaljaa.Ev.Dr
