/- The draws of marks and tables. -/
import Derived.Test.YtckfbfgfjlgmeaaGreatDoorEvDrawP
import Derived.Test.YtckfbfgfjlgmeaaGreatDoorEvParts
set_option linter.unusedVariables false
set_option linter.unusedSimpArgs false
namespace Go.Proofs.YtckfbfgfjlgmeaaGreatDoor.Ev.Dr
theorem marks_loop (x : List Int) (hx : okC x) (H : Hp) (id : Nat) (a0 s0 : Int) (h : hget H id = some (cu x a0 s0)) (hs : Stable H) : ∀ (m : Nat) (a s : Int) (t : ByteArray), 0 ≤ a → a + 2 * m ≤ 500000000000 → t.size + m ≤ 1000 →
    ∃ (a' s' : Int) (t' : ByteArray), a ≤ a' ∧ a' ≤ a + 2 * m ∧ t'.size ≤ t.size + m ∧
    packX H.length [0, 5] (loopW (bd E0 (ev E0) loopW H.length [0, 5, 6] L104b0) ⟨[(0, .ptr id 0 0), (5, st t), (6, i64 m)], H.set id (some (cu x a s))⟩) = some (.ext 0, ⟨[(0, .ptr id 0 0), (5, st t')], H.set id (some (cu x a' s'))⟩) := by
  have hid := id_lt h
  have hP := pe_cu h hs
  have hP0 := pe_cu0 h hs
  intro m
  induction m with
  | zero =>
    intro a s t h0 h1 h2
    refine ⟨a, s, t, by omega, by omega, by omega, ?_⟩
    rw [loopW_eq]
    generalize loopW (bd E0 (ev E0) loopW H.length [0, 5, 6] L104b0) = K
    simp -implicitDefEqProofs [bd, L104b0, -packH, hP0, hP, hid]
  | succ m ih =>
    intro a s t h0 h1 h2
    have hsa := stable_cu hs h a s
    have hga : hget (H.set id (some (cu x a s))) id = some (cu x a s) := hget_cu hid
    obtain ⟨a1, s1, c, p1, q1, hc, e1⟩ := of_fr x hx _ [] id a s hga hsa (by simp) h0 (by omega) [⟨#[46]⟩, ⟨#[45]⟩] (by decide)
    rw [List.set_set, List.length_set] at e1
    simp only [List.map_cons, List.map_nil, List.length_cons, List.length_nil, List.nil_append, Nat.zero_add, Nat.add_zero, Nat.reduceAdd] at e1
    have hcz : c.size = 1 := by
      simp only [List.mem_cons, List.not_mem_nil, or_false] at hc
      rcases hc with rfl | rfl <;> rfl
    obtain ⟨a', s', t', k1, k2, k3, k4⟩ := ih a1 s1 (t ++ c) (by omega) (by omega) (by rw [ByteArray.size_append]; omega)
    refine ⟨a', s', t', by omega, by omega, by rw [ByteArray.size_append] at k3; omega, ?_⟩
    have hw : IntKind.i64.wrap (((m + 1 : Nat) : Int) - 1) = m := by rw [wr64 (by omega) (by omega)]; omega
    rw [cs1] at hw
    have hp0 : (0 : Int) < (m : Int) + 1 := by omega
    have hp1 : 0 < m + 1 := by omega
    have hw2 : IntKind.i64.wrap (m : Int) = m := wr64 (by omega) (by omega)
    have hsz : t.size + c.size ≤ 9223372036854775807 := by omega
    rw [loopW_eq, cs1]
    generalize loopW (bd E0 (ev E0) loopW H.length [0, 5, 6] L104b0) = K at k4 ⊢
    simpa -implicitDefEqProofs [bd, L104b0, e1, hw, hw2, hp0, hp1, hsz, -packH, hP0, hP, hid] using k4
theorem marks_ok (x : List Int) (hx : okC x) (H : Hp) (id : Nat) (a s : Int) (h : hget H id = some (cu x a s)) (hs : Stable H) (h0 : 0 ≤ a) (h1 : a ≤ 250000000000) (n : Int) (hn : 1 ≤ n ∧ n ≤ 10) :
    ∃ (a' s' : Int) (t : ByteArray), a ≤ a' ∧ a' ≤ a + 30 ∧ t.size ≤ 20 ∧ ev E0 104 [.ptr id 0 0, i64 n] H = some (st t, H.set id (some (cu x a' s'))) := by
  have hid := id_lt h
  have hP := pe_cu h hs
  have hP0 := pe_cu0 h hs
  obtain ⟨a1, s1, r, p1, q1, r0, r1, e1⟩ := pick_ok x hx H id a s h hs h0 (by omega) n
  obtain ⟨m, rfl⟩ : ∃ m : Nat, r = m := ⟨r.toNat, by omega⟩
  obtain ⟨a2, s2, t, p2, q2, zt, e2⟩ := marks_loop x hx H id a s h hs (1 + m) a1 s1 ⟨#[]⟩ (by omega) (by omega) (by show 0 + _ ≤ _; omega)
  have hz : (⟨#[]⟩ : ByteArray).size = 0 := rfl
  rw [hz] at zt
  have hs2 := stable_cu hs h a2 s2
  have hg2 : hget (H.set id (some (cu x a2 s2))) id = some (cu x a2 s2) := hget_cu hid
  obtain ⟨a3, s3, k, p3, q3, k0, k1, e3⟩ := pick_ok x hx _ id a2 s2 hg2 hs2 (by omega) (by omega) 60
  rw [List.set_set] at e3
  have hs3 := stable_cu hs h a3 s3
  have hg3 : hget (H.set id (some (cu x a3 s3))) id = some (cu x a3 s3) := hget_cu hid
  obtain ⟨a4, s4, c, p4, q4, hc, e4⟩ := of_fr x hx _ [] id a3 s3 hg3 hs3 (by simp) (by omega) (by omega) [⟨#[120]⟩, ⟨#[32]⟩, ⟨#[47]⟩] (by decide)
  rw [List.set_set, List.length_set] at e4
  simp only [List.map_cons, List.map_nil, List.length_cons, List.length_nil, List.nil_append, Nat.zero_add, Nat.add_zero, Nat.reduceAdd] at e4
  have hcz : c.size = 1 := by
    simp only [List.mem_cons, List.not_mem_nil, or_false] at hc
    rcases hc with rfl | rfl | rfl <;> rfl
  have hw : IntKind.i64.wrap (1 + (m : Int)) = ((1 + m : Nat) : Int) := by rw [wr64 (by omega) (by omega)]; omega
  have hsz : t.size + c.size ≤ 9223372036854775807 := by omega
  have h6 : (⟨#[46, 46, 46, 46, 46, 46]⟩ : ByteArray).size = 6 := rfl
  have hsz6 : t.size + (⟨#[46, 46, 46, 46, 46, 46]⟩ : ByteArray).size ≤ 9223372036854775807 := by rw [h6]; omega
  rw [e104]
  unfold runF
  by_cases hk0 : k = 0
  · refine ⟨a3, s3, ⟨#[]⟩, by omega, by omega, by decide, ?_⟩
    simp -implicitDefEqProofs [-Int.natCast_add, L104, e1, e2, e3, hw, hk0, -packH, hP, hP0, hid]
  · by_cases hk1 : k = 1
    · refine ⟨a3, s3, t ++ ⟨#[46, 46, 46, 46, 46, 46]⟩, by omega, by omega, by rw [ByteArray.size_append, h6]; omega, ?_⟩
      simp -implicitDefEqProofs [-Int.natCast_add, L104, e1, e2, e3, hw, hk0, hk1, hsz6, -packH, hP, hP0, hid]
    · by_cases hk2 : k = 2
      · refine ⟨a4, s4, t ++ c, by omega, by omega, by rw [ByteArray.size_append]; omega, ?_⟩
        simp -implicitDefEqProofs [-Int.natCast_add, L104, e1, e2, e3, e4, hw, hk0, hk1, hk2, hsz, -packH, hP, hP0, hid]
      · refine ⟨a3, s3, t, by omega, by omega, by omega, ?_⟩
        simp -implicitDefEqProofs [-Int.natCast_add, L104, e1, e2, e3, hw, hk0, hk1, hk2, -packH, hP, hP0, hid]
theorem rnmH_app (f : Nat → Option Nat) : ∀ (H ex : Hp), rnmH f H = some H → rnmH f ex = some ex → rnmH f (H ++ ex) = some (H ++ ex)
  | [], ex, _, h => h
  | o :: r, ex, h, h2 => by
    simp only [rnmH] at h
    cases h1 : rnmO f o with
    | none => rw [h1] at h; cases h
    | some p =>
      rw [h1] at h
      cases h3 : rnmH f r with
      | none => rw [h3] at h; cases h
      | some q =>
        rw [h3] at h
        simp at h
        rw [h.2] at h3
        rw [List.cons_append, rnmH, h1, rnmH_app f r ex h3 h2, h.1]
        rfl
theorem stable_ex {H ex : Hp} (hs : Stable H) (h1 : ∀ q ∈ oldIds ex, q < H.length + ex.length) (h2 : rnmH (newId (H.length + ex.length) []) ex = some ex) : Stable (H ++ ex) := by
  unfold Stable
  rw [List.length_append]
  refine ⟨fun q hq => ?_, rnmH_app _ _ _ (rnmH_le (fun i j hi => ?_) _ _ hs.2) h2⟩
  · rw [oldIds_append] at hq
    rcases List.mem_append.1 hq with h | h
    · have := hs.1 q h; omega
    · exact h1 q h
  · unfold newId at hi ⊢
    by_cases hlt : i < H.length
    · rw [if_pos hlt] at hi
      rw [if_pos (by omega)]
      exact hi
    · rw [if_neg hlt] at hi; simp at hi
theorem marks_fr (x : List Int) (hx : okC x) (H ex : Hp) (id : Nat) (a s : Int) (h : hget H id = some (cu x a s)) (hs : Stable (H ++ ex)) (h0 : 0 ≤ a) (h1 : a ≤ 250000000000) (n : Int) (hn : 1 ≤ n ∧ n ≤ 10) :
    ∃ (a' s' : Int) (t : ByteArray), a ≤ a' ∧ a' ≤ a + 30 ∧ t.size ≤ 20 ∧ ev E0 104 [.ptr id 0 0, i64 n] (H ++ ex) = some (st t, H.set id (some (cu x a' s')) ++ ex) := by
  obtain ⟨a', s', t, k1, k2, k3, e⟩ := marks_ok x hx (H ++ ex) id a s (hget_app h) hs h0 h1 n hn
  exact ⟨a', s', t, k1, k2, k3, by rw [e, set_app h]⟩
theorem nlt_add (n k : Nat) : (n + k < n) = False := by simp
def tc (o : Nat) (n : Nat) : Blk := ⟨48, 1, 0, false, [.agg [.sl o 0 n]]⟩
def t0 : Blk := ⟨48, 1, 0, false, [.agg [.v (.slice none 0 0)]]⟩
def tr (ms : List ByteArray) : Blk := ⟨9, 1, 1, false, ms.map st⟩
theorem stable_T {H : Hp} (hs : Stable H) (ms : List ByteArray) : Stable (H ++ [some t0, some (tc (H.length + 2) ms.length), some (tr ms)]) := by
  refine stable_ex hs (fun q hq => ?_) ?_
  · have h : oldIds [some t0, some (tc (H.length + 2) ms.length), some (tr ms)] = [H.length + 2] := rfl
    rw [h, List.mem_singleton] at hq
    subst hq
    simp
  · have h3 : newId (H.length + [some t0, some (tc (H.length + 2) ms.length), some (tr ms)].length) [] (H.length + 2) = some (H.length + 2) := by
      unfold newId
      rw [if_pos (by simp)]
    generalize newId (H.length + [some t0, some (tc (H.length + 2) ms.length), some (tr ms)].length) [] = f at h3
    simp -implicitDefEqProofs [t0, tc, tr, h3]
theorem table_loop (x : List Int) (hx : okC x) (H : Hp) (id : Nat) (a0 s0 : Int) (h : hget H id = some (cu x a0 s0)) (hs : Stable H) (most : Int) (hmo : 1 ≤ most ∧ most ≤ 10) : ∀ (m : Nat) (a s : Int) (ms : List ByteArray), 0 ≤ a → a + 30 * m ≤ 200000000000 → ms.length + m ≤ 1000 → (∀ t ∈ ms, t.size ≤ 20) →
    ∃ (a' s' : Int) (ms' : List ByteArray), a ≤ a' ∧ a' ≤ a + 30 * m ∧ ms'.length ≤ ms.length + m ∧ (∀ t ∈ ms', t.size ≤ 20) ∧ (1 ≤ ms.length + m → 1 ≤ ms'.length) ∧
    packX H.length [0, 2, 3] (loopW (bd E0 (ev E0) loopW H.length [0, 2, 3, 4, 5] L102b0) ⟨[(0, .ptr id 0 0), (2, .ptr H.length 0 0), (3, .ptr (H.length + 1) 0 0), (4, i64 most), (5, i64 m)], H.set id (some (cu x a s)) ++ [some t0, some (tc (H.length + 2) ms.length), some (tr ms)]⟩) =
      some (.ext 0, ⟨[(0, .ptr id 0 0), (2, .ptr H.length 0 0), (3, .ptr (H.length + 1) 0 0)], H.set id (some (cu x a' s')) ++ [some t0, some (tc (H.length + 2) ms'.length), some (tr ms')]⟩) := by
  have hid := id_lt h
  have hP := pe_cu h hs
  have hP0 := pe_cu0 h hs
  unfold t0 tc tr
  intro m
  induction m with
  | zero =>
    intro a s ms h0 h1 h2 h3
    refine ⟨a, s, ms, by omega, by omega, by omega, h3, by omega, ?_⟩
    rw [loopW_eq]
    generalize loopW (bd E0 (ev E0) loopW H.length [0, 2, 3, 4, 5] L102b0) = K
    simp -implicitDefEqProofs [bd, L102b0, -packH, hP, hP0, hid, nlt_add, List.idxOf?, List.findIdx?_cons]
  | succ m ih =>
    intro a s ms h0 h1 h2 h3
    have hsa := stable_cu hs h a s
    have hga : hget (H.set id (some (cu x a s))) id = some (cu x a s) := hget_cu hid
    have hsT := stable_T hsa ms
    rw [List.length_set] at hsT
    obtain ⟨a1, s1, t, p1, q1, zt, e1⟩ := marks_fr x hx _ _ id a s hga hsT h0 (by omega) most hmo
    rw [List.set_set] at e1
    have e2 := place_s ms (by omega) t
    have hw : IntKind.i64.wrap (((m + 1 : Nat) : Int) - 1) = m := by rw [wr64 (by omega) (by omega)]; omega
    rw [cs1] at hw
    have hp0 : (0 : Int) < (m : Int) + 1 := by omega
    have hp1 : 0 < m + 1 := by omega
    have hw2 : IntKind.i64.wrap (m : Int) = m := wr64 (by omega) (by omega)
    have htk : List.take ms.length (ms.map st) = ms.map st := List.take_of_length_le (by simp)
    unfold t0 tc tr at e1
    by_cases hpl : place t ms 0 < 0
    · obtain ⟨a', s', ms', k1, k2, k3, k4, k5, k6⟩ := ih a1 s1 (ms ++ [t]) (by omega) (by omega) (by simp; omega) (by
        intro u hu
        rcases List.mem_append.1 hu with hu | hu
        · exact h3 u hu
        · rw [List.mem_singleton.1 hu]; exact zt)
      rw [List.length_append, List.length_singleton] at k3 k5
      refine ⟨a', s', ms', by omega, by omega, by omega, k4, fun _ => k5 (by omega), ?_⟩
      have hl1 : (ms.length + 1) * 16 ≤ 140737488355328 := by omega
      have hl2 : ms.length + 1 ≤ 140737488355328 := by omega
      rw [List.map_append, List.length_append, List.length_singleton] at k6
      rw [loopW_eq, cs1]
      generalize loopW (bd E0 (ev E0) loopW H.length [0, 2, 3, 4, 5] L102b0) = K at k6 ⊢
      simpa -implicitDefEqProofs [bd, L102b0, e1, e2, hpl, hw, hw2, hp0, hp1, htk, hl1, hl2, -packH, hP, hP0, hid, nlt_add, List.idxOf?, List.findIdx?_cons] using k6
    · obtain ⟨a', s', ms', k1, k2, k3, k4, k5, k6⟩ := ih a1 s1 ms (by omega) (by omega) (by omega) h3
      have hms : 1 ≤ ms.length := by
        cases ms with
        | nil => exact absurd (show (-1 : Int) < 0 by decide) hpl
        | cons u v => simp
      refine ⟨a', s', ms', by omega, by omega, by omega, k4, fun _ => k5 (by omega), ?_⟩
      rw [loopW_eq, cs1]
      generalize loopW (bd E0 (ev E0) loopW H.length [0, 2, 3, 4, 5] L102b0) = K at k6 ⊢
      simpa -implicitDefEqProofs [bd, L102b0, e1, e2, hpl, hw, hw2, hp0, hp1, htk, -packH, hP, hP0, hid, nlt_add, List.idxOf?, List.findIdx?_cons] using k6
theorem pick_fx (x : List Int) (hx : okC x) (H ex : Hp) (id : Nat) (a s : Int) (h : hget H id = some (cu x a s)) (hs : Stable (H ++ ex)) (h0 : 0 ≤ a) (h1 : a ≤ 549755813888) (n : Int) :
    ∃ a' s' r : Int, a ≤ a' ∧ a' ≤ a + 2 ∧ 0 ≤ r ∧ (r < n ∨ r = 0) ∧ ev E0 81 [.ptr id 0 0, i64 n] (H ++ ex) = some (i64 r, H.set id (some (cu x a' s')) ++ ex) := by
  obtain ⟨a', s', r, k1, k2, k3, k4, e⟩ := pick_ok x hx (H ++ ex) id a s (hget_app h) hs h0 h1 n
  exact ⟨a', s', r, k1, k2, k3, k4, by rw [e, set_app h]⟩
theorem one_fx (x : List Int) (hx : okC x) (H ex : Hp) (id : Nat) (a s : Int) (h : hget H id = some (cu x a s)) (hs : Stable (H ++ ex)) (h0 : 0 ≤ a) (h1 : a ≤ 549755813888) (n : Int) :
    ∃ (a' s' : Int) (q : Bool), a ≤ a' ∧ a' ≤ a + 2 ∧ ev E0 79 [.ptr id 0 0, i64 n] (H ++ ex) = some (bl q, H.set id (some (cu x a' s')) ++ ex) := by
  obtain ⟨a', s', q, k1, k2, e⟩ := one_ok x hx (H ++ ex) id a s (hget_app h) hs h0 h1 n
  exact ⟨a', s', q, k1, k2, by rw [e, set_app h]⟩
/-- A row of numbers behind the memory, one of them taken. -/
theorem among_fx (x : List Int) (hx : okC x) (H ex : Hp) (id : Nat) (a s : Int) (h : hget H id = some (cu x a s)) (hs : Stable (H ++ ex)) (h0 : 0 ≤ a) (h1 : a ≤ 549755813888) (j : Nat) (l : List Int) (n : Nat) (hn : l.length = n) (hp : 0 < n) (hg : ex[j]? = some (some ⟨3, 1, 1, false, l.map i64⟩)) :
    ∃ (a' s' : Int) (t : Int), a ≤ a' ∧ a' ≤ a + 2 ∧ t ∈ l ∧ ev E0 80 [.ptr id 0 0, .sl (H.length + j) 0 n] (H ++ ex) = some (i64 t, H.set id (some (cu x a' s')) ++ ex) := by
  have hid := id_lt h
  obtain ⟨a', s', t, k1, k2, k3, e⟩ := among_ok x hx (H ++ ex) id a s (hget_app h) hs h0 h1 (H.length + j) (by omega) l n hn hp (by
    unfold hget
    rw [List.getElem?_append_right (by omega), Nat.add_sub_cancel_left, hg])
  exact ⟨a', s', t, k1, k2, k3, by rw [e, set_app h]⟩
def alph : ByteArray := ⟨#[46, 44, 45, 44, 46, 46, 44, 46, 45, 44, 45, 46, 44, 45, 45, 44, 46, 46, 46, 44, 46, 46, 45, 44, 46, 45, 46, 44, 46, 45, 45, 44, 45, 46, 46]⟩
theorem alph_parts : (partsB 44 alph).length = 11 ∧ ∀ t ∈ partsB 44 alph, t.size ≤ 20 := by
  have h := parts_lens 44 (B alph)
  refine ⟨by decide, by decide⟩
theorem table_ok (x : List Int) (hx : okC x) (H : Hp) (id : Nat) (a s : Int) (h : hget H id = some (cu x a s)) (hs : Stable H) (h0 : 0 ≤ a) (h1 : a ≤ 100000000000) :
    ∃ (a' s' : Int), a ≤ a' ∧ a' ≤ a + 2000 ∧ (ev E0 102 [.ptr id 0 0] H = some (.agg [.v (.slice none 0 0)], H.set id (some (cu x a' s'))) ∨
      ∃ ms : List ByteArray, ms.length ≤ 30 ∧ (∀ t ∈ ms, t.size ≤ 20) ∧ ev E0 102 [.ptr id 0 0] H = some (.agg [.sl H.length 0 ms.length], H.set id (some (cu x a' s')) ++ [some (tr ms)])) := by
  have hid := id_lt h
  have hP := pe_cu h hs
  have hP0 := pe_cu0 h hs
  have lf : ∀ (bs : List Blk) (H : Hp), Stable H → (∀ b ∈ bs, leafB b) → Stable (H ++ bs.map some) := fun bs H hs hb => stable_leaves hs bs hb
  have hb1 : ∀ b ∈ [t0, tr [], (⟨3, 1, 1, false, ([2, 3, 4, 5, 3] : List Int).map i64⟩ : Blk)], leafB b := by
    intro b hb
    simp at hb
    rcases hb with rfl | rfl | rfl <;> exact ⟨rfl, fun _ => rfl⟩
  obtain ⟨a1, s1, most, p1, q1, hmo, e1⟩ := among_fx x hx H _ id a s h (lf _ H hs hb1) h0 (by omega) 2 [2, 3, 4, 5, 3] 5 rfl (by decide) rfl
  have hs1 := stable_cu hs h a1 s1
  have hg1 : hget (H.set id (some (cu x a1 s1))) id = some (cu x a1 s1) := hget_cu hid
  have hs5 : Stable (H.set id (some (cu x a1 s1)) ++ [some t0, some (tr []), some (⟨3, 1, 1, false, ([2, 3, 4, 5, 3] : List Int).map i64⟩ : Blk), some (tc (H.length + 1) 0), some (⟨3, 1, 1, false, ([3, 4, 2, 5, 6, 8, 1, 10] : List Int).map i64⟩ : Blk)]) := by
    refine stable_ex hs1 (fun q hq => ?_) ?_
    · rw [List.mem_singleton.1 (show q ∈ [H.length + 1] from hq), List.length_set]
      simp
    · rw [List.length_set]
      have h3 : newId (H.length + [some t0, some (tr []), some (⟨3, 1, 1, false, ([2, 3, 4, 5, 3] : List Int).map i64⟩ : Blk), some (tc (H.length + 1) 0), some (⟨3, 1, 1, false, ([3, 4, 2, 5, 6, 8, 1, 10] : List Int).map i64⟩ : Blk)].length) [] (H.length + 1) = some (H.length + 1) := by
        unfold newId
        rw [if_pos (by simp)]
      generalize newId (H.length + [some t0, some (tr []), some (⟨3, 1, 1, false, ([2, 3, 4, 5, 3] : List Int).map i64⟩ : Blk), some (tc (H.length + 1) 0), some (⟨3, 1, 1, false, ([3, 4, 2, 5, 6, 8, 1, 10] : List Int).map i64⟩ : Blk)].length) [] = f at h3
      simp -implicitDefEqProofs [t0, tc, tr, h3]
  obtain ⟨a2, s2, n, p2, q2, hn, e2⟩ := among_fx x hx _ _ id a1 s1 hg1 hs5 (by omega) (by omega) 4 [3, 4, 2, 5, 6, 8, 1, 10] 8 rfl (by decide) rfl
  rw [List.set_set, List.length_set] at e2
  have hmo2 : 1 ≤ most ∧ most ≤ 10 := by
    simp only [List.mem_cons, List.not_mem_nil, or_false] at hmo
    omega
  obtain ⟨m, rfl⟩ : ∃ m : Nat, n = m := ⟨n.toNat, by simp only [List.mem_cons, List.not_mem_nil, or_false] at hn; omega⟩
  have hm2 : 1 ≤ m ∧ m ≤ 10 := by
    simp only [List.mem_cons, List.not_mem_nil, or_false] at hn
    omega
  obtain ⟨a3, s3, ms, p3, q3, zl, zt, zne, e3⟩ := table_loop x hx H id a s h hs most hmo2 m a2 s2 [] (by omega) (by omega) (by simp; omega) (by simp)
  have hs3 := stable_cu hs h a3 s3
  have hg3 : hget (H.set id (some (cu x a3 s3))) id = some (cu x a3 s3) := hget_cu hid
  have hsT := stable_T hs3 ms
  rw [List.length_set] at hsT
  obtain ⟨a4, s4, k, p4, q4, k0, k1, e4⟩ := pick_fx x hx _ _ id a3 s3 hg3 hsT (by omega) (by omega) 60
  rw [List.set_set] at e4
  rw [List.length_nil] at zl zne
  have hne : 1 ≤ ms.length := zne (by omega)
  unfold t0 tr at e1
  unfold t0 tr tc at e2 e3 e4
  simp only [List.map_cons, List.map_nil, List.length_nil] at e1 e2 e3
  have htk : List.take ms.length (ms.map st) = ms.map st := List.take_of_length_le (by simp)
  refine ⟨a4, s4, by omega, by omega, ?_⟩
  rw [e102]
  unfold runF
  by_cases hk0 : k = 0
  · left
    simp -implicitDefEqProofs [L102, e1, e2, e3, e4, hk0, -packH, hP, hP0, hid, nlt_add, List.idxOf?, List.findIdx?_cons]
  · right
    by_cases hk1 : k = 1
    · obtain ⟨u, v, rfl⟩ : ∃ u v, ms = u :: v := by
        cases ms with
        | nil => simp at hne
        | cons u v => exact ⟨u, v, rfl⟩
      refine ⟨u :: v ++ [u], by simp at zl ⊢; omega, fun t ht => ?_, ?_⟩
      · rcases List.mem_append.1 ht with ht | ht
        · exact zt t ht
        · rw [List.mem_singleton.1 ht]; exact zt u (by simp)
      · have hl1 : (v.length + 1 + 1) * 16 ≤ 140737488355328 := by simp at zl; omega
        have hl2 : v.length + 1 + 1 ≤ 140737488355328 := by simp at zl; omega
        have htv : List.take v.length (v.map st) = v.map st := List.take_of_length_le (by simp)
        simp only [List.map_cons, List.length_cons] at e3 e4
        simp -implicitDefEqProofs [L102, e1, e2, e3, e4, hk0, hk1, hl1, hl2, htk, htv, tr, -packH, hP, hP0, hid, nlt_add, List.idxOf?, List.findIdx?_cons]
    · by_cases hk2 : k = 2
      · obtain ⟨c1, c2⟩ := alph_parts
        have hsp := split_s alph (by decide) 44
        rw [show ((44 : UInt8).toNat : Int) = 44 from rfl, c1] at hsp
        unfold alph at hsp
        refine ⟨partsB 44 alph, by omega, c2, ?_⟩
        rw [c1]
        unfold alph tr
        simp -implicitDefEqProofs [L102, e1, e2, e3, e4, hk0, hk1, hk2, hsp, -packH, hP, hP0, hid, nlt_add, List.idxOf?, List.findIdx?_cons]
      · refine ⟨ms, by omega, zt, ?_⟩
        simp -implicitDefEqProofs [L102, e1, e2, e3, e4, hk0, hk1, hk2, tr, -packH, hP, hP0, hid, nlt_add, List.idxOf?, List.findIdx?_cons]
end Go.Proofs.YtckfbfgfjlgmeaaGreatDoor.Ev.Dr
