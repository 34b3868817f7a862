/- The draws, with values that hang on the cursor alone and not on the memory around it. -/
import Derived.Test.YtjagdiilcphhfaaGreatDoorEvDrawM
import Derived.Test.YtjagdiilcphhfaaGreatDoorEvDrawV
set_option linter.unusedVariables false
set_option linter.unusedSimpArgs false
namespace Go.Proofs.YtjagdiilcphhfaaGreatDoor.Ev.Dr
theorem next_u (x : List Int) (hx : okC x) (a s : Int) (h0 : 0 ≤ a) (h1 : a ≤ 1099511627776) :
    ∃ s' r : Int, 0 ≤ r ∧ r ≤ 255 ∧ ∀ (H : Hp) (id : Nat), hget H id = some (cu x a s) → Stable H → ev E0 71 [.ptr id 0 0] H = some (i64 r, H.set id (some (cu x (a + 1) s'))) := by
  have hw : IntKind.i64.wrap (a + 1) = a + 1 := wr64 (by omega) (by omega)
  have hwx : ∀ r : Int, 0 ≤ r → r ≤ 255 → IntKind.i64.wrap r = r := fun r h1 h2 => wr64 (by omega) (by omega)
  by_cases hlt : a < (x.length : Int)
  · obtain ⟨n, rfl⟩ : ∃ n : Nat, a = n := ⟨a.toNat, by omega⟩
    have hn : n < x.length := by omega
    have hb := hx.2 _ (List.getElem_mem hn)
    have hgn : (cd x)[n]? = some (.v (.int .u8 x[n])) := by simp [cd, hn]
    have hle : (n : Int) + 1 ≤ (x.length : Int) := by omega
    generalize x[n] = y at hb hgn
    have hwy := hwx y hb.1 hb.2
    refine ⟨?s, y, hb.1, hb.2, ?g⟩
    case g =>
      intro H id h hs
      have hid := id_lt h
      have hls : ∀ b, (H.set id (some (b : Blk))).length = H.length := fun b => List.length_set
      have hg : ∀ b, (H.set id (some (b : Blk)))[id]? = some (some b) := fun b => List.getElem?_set_self hid
      have hg0 := hget_some h
      have pk2 : ∀ (s' : Int) roots, (∀ q ∈ roots, q < H.length) → packH H.length (H.set id (some ⟨66, 3, 0, false, [.agg [.lst 1 (cd x), i64 ((n : Int) + 1), .v (.int .u64 s')]]⟩)) roots = some ([], H.set id (some ⟨66, 3, 0, false, [.agg [.lst 1 (cd x), i64 ((n : Int) + 1), .v (.int .u64 s')]]⟩)) := fun s' roots hr => packH_lo0 (hls _) (stable_cu hs h ((n : Int) + 1) s') hr
      unfold cu at hg0 ⊢
      rw [e71]
      unfold runF
      simp -implicitDefEqProofs [L71, hg0, hg, hls, hw, hlt, hle, cd_len, hgn, hwy, -pack, -packH, pk2]; rfl
  · have hle : ¬ a + 1 ≤ (x.length : Int) := by omega
    refine ⟨?s2, ?r2, ?a2, ?b2, ?g2⟩
    case g2 =>
      intro H id h hs
      have hid := id_lt h
      have hls : ∀ b, (H.set id (some (b : Blk))).length = H.length := fun b => List.length_set
      have hg : ∀ b, (H.set id (some (b : Blk)))[id]? = some (some b) := fun b => List.getElem?_set_self hid
      have hg0 := hget_some h
      have pk2 : ∀ (s' : Int) roots, (∀ q ∈ roots, q < H.length) → packH H.length (H.set id (some ⟨66, 3, 0, false, [.agg [.lst 1 (cd x), i64 (a + 1), .v (.int .u64 s')]]⟩)) roots = some ([], H.set id (some ⟨66, 3, 0, false, [.agg [.lst 1 (cd x), i64 (a + 1), .v (.int .u64 s')]]⟩)) := fun s' roots hr => packH_lo0 (hls _) (stable_cu hs h (a + 1) s') hr
      unfold cu at hg0 ⊢
      rw [e71]
      unfold runF
      simp -implicitDefEqProofs [L71, hg0, hg, hls, hw, hlt, hle, cd_len, -pack, -packH, pk2]
      refine And.intro ?_ ?_
      · rfl
      · rfl
    case a2 => exact (low8 _).1
    case b2 => exact (low8 _).2
def PickU (x : List Int) (a s n a' s' r : Int) : Prop := ∀ (H : Hp) (id : Nat), hget H id = some (cu x a s) → Stable H → ev E0 42 [.ptr id 0 0, i64 n] H = some (i64 r, H.set id (some (cu x a' s')))
theorem pick_u (x : List Int) (hx : okC x) (a s : Int) (h0 : 0 ≤ a) (h1 : a ≤ 549755813888) (n : Int) :
    ∃ a' s' r : Int, a ≤ a' ∧ a' ≤ a + 2 ∧ 0 ≤ r ∧ (r < n ∨ r = 0) ∧ PickU x a s n a' s' r := by
  by_cases hn : n ≤ 1
  · refine ⟨a, s, 0, by omega, by omega, by omega, .inr rfl, fun H id h hs => ?_⟩
    have pk0 : ∀ roots, (∀ q ∈ roots, q < H.length) → packH H.length H roots = some ([], H) := fun roots hr => packH_lo0 rfl hs hr
    rw [set_same h, e42]
    unfold runF
    simp -implicitDefEqProofs [L42, hn, -pack, -packH, pk0]
  · obtain ⟨s1, r1, r10, r11, e1⟩ := next_u x hx a s h0 (by omega)
    obtain ⟨s2, r2, r20, r21, e2⟩ := next_u x hx (a + 1) s1 (by omega) (by omega)
    have hnz : ¬ n = 0 := by omega
    by_cases hb : 200 < n
    · have w1 : IntKind.i64.wrap (r1 * 256) = r1 * 256 := wr64 (by omega) (by omega)
      have w2 : IntKind.i64.wrap (r1 * 256 + r2) = r1 * 256 + r2 := wr64 (by omega) (by omega)
      refine ⟨a + 1 + 1, s2, (r1 * 256 + r2).tmod n, by omega, by omega, Int.tmod_nonneg _ (by omega), .inl (Int.tmod_lt_of_pos _ (by omega)), fun H id h hs => ?_⟩
      have hid := id_lt h
      have pk2 := pk_cu h hs
      have e1 := e1 H id h hs
      have e2 := e2 _ id (hget_cu hid) (stable_cu hs h (a + 1) s1)
      rw [List.set_set] at e2
      rw [e42]
      unfold runF
      simp -implicitDefEqProofs [L42, hn, hb, hnz, e1, e2, w1, w2, -pack, -packH, pk2]
    · refine ⟨a + 1, s1, r1.tmod n, by omega, by omega, Int.tmod_nonneg _ (by omega), .inl (Int.tmod_lt_of_pos _ (by omega)), fun H id h hs => ?_⟩
      have hid := id_lt h
      have pk2 := pk_cu h hs
      have e1 := e1 H id h hs
      rw [e42]
      unfold runF
      simp -implicitDefEqProofs [L42, hn, hb, hnz, e1, -pack, -packH, pk2]
def OneU (x : List Int) (a s n a' s' : Int) (b : Bool) : Prop := ∀ (H : Hp) (id : Nat), hget H id = some (cu x a s) → Stable H → ev E0 89 [.ptr id 0 0, i64 n] H = some (bl b, H.set id (some (cu x a' s')))
theorem one_u (x : List Int) (hx : okC x) (a s : Int) (h0 : 0 ≤ a) (h1 : a ≤ 549755813888) (n : Int) :
    ∃ (a' s' : Int) (b : Bool), a ≤ a' ∧ a' ≤ a + 2 ∧ OneU x a s n a' s' b := by
  obtain ⟨a', s', r, k1, k2, _, _, e⟩ := pick_u x hx a s h0 h1 n
  refine ⟨a', s', decide (r = 0), k1, k2, fun H id h hs => ?_⟩
  have pk2 := pk_cu h hs
  have e := e H id h hs
  rw [e89]
  unfold runF
  simp -implicitDefEqProofs [L89, e, -pack, -packH, pk2]
/-- A row of texts laid behind the memory, one of them taken. -/
def OfU (x : List Int) (a s : Int) (l : List ByteArray) (a' s' : Int) (t : ByteArray) : Prop := ∀ (H : Hp) (id : Nat), hget H id = some (cu x a s) → Stable H → ev E0 69 [.ptr id 0 0, .sl H.length 0 l.length] (H ++ [some (tr l)]) = some (st t, H.set id (some (cu x a' s')) ++ [some (tr l)])
theorem leaf_tr (l : List ByteArray) : leafB (tr l) := ⟨by simp [blkIds, tr], fun _ => by simp [rnmB, tr]⟩
theorem of_u (x : List Int) (hx : okC x) (a s : Int) (h0 : 0 ≤ a) (h1 : a ≤ 549755813888) (l : List ByteArray) (hp : 0 < l.length) :
    ∃ (a' s' : Int) (t : ByteArray), a ≤ a' ∧ a' ≤ a + 2 ∧ t ∈ l ∧ OfU x a s l a' s' t := by
  obtain ⟨a', s', r, k1, k2, r0, r1, e⟩ := pick_u x hx a s h0 h1 l.length
  obtain ⟨k, rfl⟩ : ∃ k : Nat, r = k := ⟨r.toNat, by omega⟩
  have hk : k < l.length := by omega
  refine ⟨a', s', l[k], k1, k2, List.getElem_mem hk, fun H0 id h hs0 => ?_⟩
  have hx2 : l[k]? = some l[k] := List.getElem?_eq_getElem hk
  generalize l[k] = t at *
  have hs : Stable (H0 ++ [some (tr l)]) := stable_leaf hs0 (leaf_tr l)
  have h' : hget (H0 ++ [some (tr l)]) id = some (cu x a s) := hget_app h
  have hne : id ≠ H0.length := by have := id_lt h; omega
  have hg : hget (H0 ++ [some (tr l)]) H0.length = some ⟨9, 1, 1, false, l.map st⟩ := by
    unfold hget
    rw [List.getElem?_append_right (Nat.le_refl _), Nat.sub_self]
    rfl
  rw [← set_app h]
  have e := e _ id h' hs
  generalize H0.length = id2 at *
  generalize H0 ++ [some (tr l)] = H at *
  have hg2 : (H.set id (some (cu x a' s')))[id2]? = some (some ⟨9, 1, 1, false, l.map st⟩) := by rw [List.getElem?_set_ne hne]; exact hget_some hg
  have pk2 := pk_cu h' hs
  have hki : (k : Int) < (l.length : Int) := by omega
  have hg0 := hget_some hg
  have hx3 : ∀ h, l[k]'h = t := fun h => (List.getElem?_eq_some_iff.1 hx2).2
  rw [e69]
  unfold runF
  simp -implicitDefEqProofs [L69, e, hx2, hx3, hg2, hk, hki, hg0, -List.getElem?_set_ne, -pack, -packH, pk2]
def AmongU (x : List Int) (a s : Int) (l : List Int) (a' s' t : Int) : Prop := ∀ (H : Hp) (id : Nat), hget H id = some (cu x a s) → Stable H → ev E0 61 [.ptr id 0 0, .sl H.length 0 l.length] (H ++ [some (ib l)]) = some (i64 t, H.set id (some (cu x a' s')) ++ [some (ib l)])
theorem among_u (x : List Int) (hx : okC x) (a s : Int) (h0 : 0 ≤ a) (h1 : a ≤ 549755813888) (l : List Int) (hp : 0 < l.length) :
    ∃ (a' s' : Int) (t : Int), a ≤ a' ∧ a' ≤ a + 2 ∧ t ∈ l ∧ AmongU x a s l a' s' t := by
  obtain ⟨a', s', r, k1, k2, r0, r1, e⟩ := pick_u x hx a s h0 h1 l.length
  obtain ⟨k, rfl⟩ : ∃ k : Nat, r = k := ⟨r.toNat, by omega⟩
  have hk : k < l.length := by omega
  refine ⟨a', s', l[k], k1, k2, List.getElem_mem hk, fun H0 id h hs0 => ?_⟩
  have hx2 : l[k]? = some l[k] := List.getElem?_eq_getElem hk
  generalize l[k] = t at *
  have hs : Stable (H0 ++ [some (ib l)]) := stable_leaf hs0 (b := ib l) ⟨by simp [blkIds, ib], fun _ => by simp [rnmB, ib]⟩
  have h' : hget (H0 ++ [some (ib l)]) id = some (cu x a s) := hget_app h
  have hne : id ≠ H0.length := by have := id_lt h; omega
  have hg : hget (H0 ++ [some (ib l)]) H0.length = some ⟨3, 1, 1, false, l.map i64⟩ := by
    unfold hget
    rw [List.getElem?_append_right (Nat.le_refl _), Nat.sub_self]
    rfl
  rw [← set_app h]
  have e := e _ id h' hs
  generalize H0.length = id2 at *
  generalize H0 ++ [some (ib l)] = H at *
  have hg2 : (H.set id (some (cu x a' s')))[id2]? = some (some ⟨3, 1, 1, false, l.map i64⟩) := by rw [List.getElem?_set_ne hne]; exact hget_some hg
  have pk2 := pk_cu h' hs
  have hki : (k : Int) < (l.length : Int) := by omega
  have hg0 := hget_some hg
  have hx3 : ∀ h, l[k]'h = t := fun h => (List.getElem?_eq_some_iff.1 hx2).2
  rw [e61]
  unfold runF
  simp -implicitDefEqProofs [L61, e, hx2, hx3, hg2, hk, hki, hg0, -List.getElem?_set_ne, -pack, -packH, pk2]
theorem marks_loop_u (x : List Int) (hx : okC x) : ∀ (m : Nat) (a s : Int) (t : ByteArray), 0 ≤ a → a + 2 * m ≤ 500000000000 → t.size + m ≤ 1000 →
    ∃ (a' s' : Int) (t' : ByteArray), a ≤ a' ∧ a' ≤ a + 2 * m ∧ t'.size ≤ t.size + m ∧ ∀ (H : Hp) (id : Nat) (a0 s0 : Int), hget H id = some (cu x a0 s0) → Stable H →
    packX H.length [0, 5] (loopW (bd E0 (ev E0) loopW H.length [0, 5, 6] L62b0) ⟨[(0, .ptr id 0 0), (5, st t), (6, i64 m)], H.set id (some (cu x a s))⟩) = some (.ext 0, ⟨[(0, .ptr id 0 0), (5, st t')], H.set id (some (cu x a' s'))⟩) := by
  intro m
  induction m with
  | zero =>
    intro a s t h0 h1 h2
    refine ⟨a, s, t, by omega, by omega, by omega, fun H id a0 s0 h hs => ?_⟩
    have hid := id_lt h
    have hP := pe_cu h hs
    have hP0 := pe_cu0 h hs
    rw [loopW_eq]
    generalize loopW (bd E0 (ev E0) loopW H.length [0, 5, 6] L62b0) = K
    simp -implicitDefEqProofs [bd, L62b0, -packH, hP0, hP, hid]
  | succ m ih =>
    intro a s t h0 h1 h2
    obtain ⟨a1, s1, c, p1, q1, hc, e1⟩ := of_u x hx a s h0 (by omega) [⟨#[46]⟩, ⟨#[45]⟩] (by decide)
    have hcz : c.size = 1 := by
      simp only [List.mem_cons, List.not_mem_nil, or_false] at hc
      rcases hc with rfl | rfl <;> rfl
    obtain ⟨a', s', t', k1, k2, k3, k4⟩ := ih a1 s1 (t ++ c) (by omega) (by omega) (by rw [ByteArray.size_append]; omega)
    refine ⟨a', s', t', by omega, by omega, by rw [ByteArray.size_append] at k3; omega, fun H id a0 s0 h hs => ?_⟩
    have hid := id_lt h
    have hP := pe_cu h hs
    have hP0 := pe_cu0 h hs
    have e1 := e1 _ id (hget_cu hid) (stable_cu hs h a s)
    have k4 := k4 H id a0 s0 h hs
    rw [List.set_set, List.length_set] at e1
    unfold tr at e1
    simp only [List.map_cons, List.map_nil, List.length_cons, List.length_nil, List.nil_append, Nat.zero_add, Nat.add_zero, Nat.reduceAdd] at e1
    have hw : IntKind.i64.wrap (((m + 1 : Nat) : Int) - 1) = m := by rw [wr64 (by omega) (by omega)]; omega
    rw [cs1] at hw
    have hp0 : (0 : Int) < (m : Int) + 1 := by omega
    have hp1 : 0 < m + 1 := by omega
    have hw2 : IntKind.i64.wrap (m : Int) = m := wr64 (by omega) (by omega)
    have hsz : t.size + c.size ≤ 9223372036854775807 := by omega
    rw [loopW_eq, cs1]
    generalize loopW (bd E0 (ev E0) loopW H.length [0, 5, 6] L62b0) = K at k4 ⊢
    simpa -implicitDefEqProofs [bd, L62b0, e1, hw, hw2, hp0, hp1, hsz, -packH, hP0, hP, hid] using k4
def MarksU (x : List Int) (a s n a' s' : Int) (t : ByteArray) : Prop := ∀ (H : Hp) (id : Nat), hget H id = some (cu x a s) → Stable H → ev E0 62 [.ptr id 0 0, i64 n] H = some (st t, H.set id (some (cu x a' s')))
theorem marks_u (x : List Int) (hx : okC x) (a s : Int) (h0 : 0 ≤ a) (h1 : a ≤ 250000000000) (n : Int) (hn : 1 ≤ n ∧ n ≤ 10) :
    ∃ (a' s' : Int) (t : ByteArray), a ≤ a' ∧ a' ≤ a + 30 ∧ t.size ≤ 20 ∧ MarksU x a s n a' s' t := by
  obtain ⟨a1, s1, r, p1, q1, r0, r1, e1⟩ := pick_u x hx a s h0 (by omega) n
  obtain ⟨m, rfl⟩ : ∃ m : Nat, r = m := ⟨r.toNat, by omega⟩
  obtain ⟨a2, s2, t, p2, q2, zt, e2⟩ := marks_loop_u x hx (1 + m) a1 s1 ⟨#[]⟩ (by omega) (by omega) (by show 0 + _ ≤ _; omega)
  have hz : (⟨#[]⟩ : ByteArray).size = 0 := rfl
  rw [hz] at zt
  obtain ⟨a3, s3, k, p3, q3, k0, k1, e3⟩ := pick_u x hx a2 s2 (by omega) (by omega) 60
  obtain ⟨a4, s4, c, p4, q4, hc, e4⟩ := of_u x hx a3 s3 (by omega) (by omega) [⟨#[120]⟩, ⟨#[32]⟩, ⟨#[47]⟩] (by decide)
  have hcz : c.size = 1 := by
    simp only [List.mem_cons, List.not_mem_nil, or_false] at hc
    rcases hc with rfl | rfl | rfl <;> rfl
  have hw : IntKind.i64.wrap (1 + (m : Int)) = ((1 + m : Nat) : Int) := by rw [wr64 (by omega) (by omega)]; omega
  have hsz : t.size + c.size ≤ 9223372036854775807 := by omega
  have h6 : (⟨#[46, 46, 46, 46, 46, 46]⟩ : ByteArray).size = 6 := rfl
  have hsz6 : t.size + (⟨#[46, 46, 46, 46, 46, 46]⟩ : ByteArray).size ≤ 9223372036854775807 := by rw [h6]; omega
  have run : ∀ (a' s' : Int) (t' : ByteArray), (∀ (H : Hp) (id : Nat), hget H id = some (cu x a s) → Stable H →
      ev E0 42 [.ptr id 0 0, i64 n] H = some (i64 m, H.set id (some (cu x a1 s1))) →
      packX H.length [0, 5] (loopW (bd E0 (ev E0) loopW H.length [0, 5, 6] L62b0) ⟨[(0, .ptr id 0 0), (5, st ⟨#[]⟩), (6, i64 ((1 + m : Nat) : Int))], H.set id (some (cu x a1 s1))⟩) = some (.ext 0, ⟨[(0, .ptr id 0 0), (5, st t)], H.set id (some (cu x a2 s2))⟩) →
      ev E0 42 [.ptr id 0 0, i64 60] (H.set id (some (cu x a2 s2))) = some (i64 k, H.set id (some (cu x a3 s3))) →
      ev E0 69 [.ptr id 0 0, .sl H.length 0 3] (H.set id (some (cu x a3 s3)) ++ [some ⟨9, 1, 1, false, [st ⟨#[120]⟩, st ⟨#[32]⟩, st ⟨#[47]⟩]⟩]) = some (st c, H.set id (some (cu x a4 s4)) ++ [some ⟨9, 1, 1, false, [st ⟨#[120]⟩, st ⟨#[32]⟩, st ⟨#[47]⟩]⟩]) →
      ev E0 62 [.ptr id 0 0, i64 n] H = some (st t', H.set id (some (cu x a' s')))) → MarksU x a s n a' s' t' := by
    intro a' s' t' hh H id h hs
    have hid := id_lt h
    have e3 := e3 _ id (hget_cu hid) (stable_cu hs h a2 s2)
    rw [List.set_set] at e3
    have e4 := e4 _ id (hget_cu hid) (stable_cu hs h a3 s3)
    rw [List.set_set, List.length_set] at e4
    exact hh H id h hs (e1 H id h hs) (e2 H id a s h hs) e3 e4
  by_cases hk0 : k = 0
  · refine ⟨a3, s3, ⟨#[]⟩, by omega, by omega, by decide, run _ _ _ fun H id h hs e1 e2 e3 e4 => ?_⟩
    have hid := id_lt h
    have hP := pe_cu h hs
    have hP0 := pe_cu0 h hs
    rw [e62]
    unfold runF
    simp -implicitDefEqProofs [-Int.natCast_add, L62, e1, e2, e3, hw, hk0, -packH, hP, hP0, hid]
  · by_cases hk1 : k = 1
    · refine ⟨a3, s3, t ++ ⟨#[46, 46, 46, 46, 46, 46]⟩, by omega, by omega, by rw [ByteArray.size_append, h6]; omega, run _ _ _ fun H id h hs e1 e2 e3 e4 => ?_⟩
      have hid := id_lt h
      have hP := pe_cu h hs
      have hP0 := pe_cu0 h hs
      rw [e62]
      unfold runF
      simp -implicitDefEqProofs [-Int.natCast_add, L62, e1, e2, e3, hw, hk0, hk1, hsz6, -packH, hP, hP0, hid]
    · by_cases hk2 : k = 2
      · refine ⟨a4, s4, t ++ c, by omega, by omega, by rw [ByteArray.size_append]; omega, run _ _ _ fun H id h hs e1 e2 e3 e4 => ?_⟩
        have hid := id_lt h
        have hP := pe_cu h hs
        have hP0 := pe_cu0 h hs
        rw [e62]
        unfold runF
        simp -implicitDefEqProofs [-Int.natCast_add, L62, e1, e2, e3, e4, hw, hk0, hk1, hk2, hsz, -packH, hP, hP0, hid]
      · refine ⟨a3, s3, t, by omega, by omega, by omega, run _ _ _ fun H id h hs e1 e2 e3 e4 => ?_⟩
        have hid := id_lt h
        have hP := pe_cu h hs
        have hP0 := pe_cu0 h hs
        rw [e62]
        unfold runF
        simp -implicitDefEqProofs [-Int.natCast_add, L62, e1, e2, e3, hw, hk0, hk1, hk2, -packH, hP, hP0, hid]
def Let7U (x : List Int) (a s : Int) (ms : List ByteArray) (a' s' k : Int) : Prop := ∀ (H : Hp) (id : Nat) (T : AV), hget H id = some (cu x a s) → Stable H → TabM H id ms T → ev E0 70 [.ptr id 0 0, .agg [T]] H = some (i64 k, H.set id (some (cu x a' s')))
theorem letter7_u (x : List Int) (hx : okC x) (a s : Int) (h0 : 0 ≤ a) (h1 : a ≤ 200000000000) (ms : List ByteArray) (hm : ms.length ≤ 500) :
    ∃ (a' s' k : Int), a ≤ a' ∧ a' ≤ a + 20 ∧ Let7U x a s ms a' s' k := by
  have hsm := most_d 1 (ms.length : Int)
  obtain ⟨a1, s1, q, p1, q1, e1⟩ := one_u x hx a s h0 (by omega) 30
  obtain ⟨a2, s2, k, p2, q2, hk, e2⟩ := among_u x hx a1 s1 (by omega) (by omega) [-1, (ms.length : Int), 4611686018427387904] (Nat.succ_pos _)
  obtain ⟨many, hmq⟩ : ∃ many : Int, (if (ms.length : Int) < 1 then (1 : Int) else (ms.length : Int)) = many := ⟨_, rfl⟩
  rw [hmq] at hsm
  obtain ⟨a3, s3, k3, p3, q3, _, _, e3⟩ := pick_u x hx a1 s1 (by omega) (by omega) many
  have run : ∀ (a' s' k' : Int), (∀ (H : Hp) (id : Nat) (T : AV), hget H id = some (cu x a s) → Stable H → TabM H id ms T →
      ev E0 89 [.ptr id 0 0, i64 30] (H ++ [some (tv T)]) = some (bl q, H.set id (some (cu x a1 s1)) ++ [some (tv T)]) →
      ev E0 61 [.ptr id 0 0, .sl (H.length + 1) 0 3] (H.set id (some (cu x a1 s1)) ++ [some (tv T), some (ib [-1, (ms.length : Int), 4611686018427387904])]) = some (i64 k, H.set id (some (cu x a2 s2)) ++ [some (tv T), some (ib [-1, (ms.length : Int), 4611686018427387904])]) →
      ev E0 42 [.ptr id 0 0, i64 many] (H.set id (some (cu x a1 s1)) ++ [some (tv T)]) = some (i64 k3, H.set id (some (cu x a3 s3)) ++ [some (tv T)]) →
      ev E0 70 [.ptr id 0 0, .agg [T]] H = some (i64 k', H.set id (some (cu x a' s')))) → Let7U x a s ms a' s' k' := by
    intro a' s' k' hh H id T h hs hT
    have hid := id_lt h
    have hs1 := stable_cu hs h a1 s1
    have hg1 : hget (H.set id (some (cu x a1 s1))) id = some (cu x a1 s1) := hget_cu hid
    have hsT1 := stable_tv hs1 (hT.set (some (cu x a1 s1)))
    have f1 := e1 (H ++ [some (tv T)]) id (hget_app h) (stable_tv hs hT)
    rw [set_app h] at f1
    have f2 := e2 (H.set id (some (cu x a1 s1)) ++ [some (tv T)]) id (hget_app hg1) hsT1
    rw [set_app hg1, List.set_set, List.append_assoc, List.append_assoc, List.length_append, List.length_set] at f2
    have f3 := e3 (H.set id (some (cu x a1 s1)) ++ [some (tv T)]) id (hget_app hg1) hsT1
    rw [set_app hg1, List.set_set] at f3
    exact hh H id T h hs hT f1 f2 f3
  cases q with
  | true =>
    refine ⟨a2, s2, k, by omega, by omega, run _ _ _ fun H id T h hs hT e1 e2 e3 => ?_⟩
    have hid := id_lt h
    have hP := pe_cu h hs
    have hP0 := pe_cu0 h hs
    unfold tv at e1 e2 e3
    unfold ib at e2
    simp only [List.map_cons, List.map_nil] at e2
    rw [e70]
    unfold runF
    rcases hT with ⟨rfl, rfl⟩ | ⟨j, ro, rfl, hjn, hjb⟩
    · simp only [List.length_nil] at e2
      rw [c0] at e2
      simp -implicitDefEqProofs [L70, e1, e2, -packH, hP, hP0, hid, nlt_add, List.idxOf?, List.findIdx?_cons]
    · have hj := id_lt hjb
      have hlv := tab_live hjn hjb
      simp -implicitDefEqProofs [L70, e1, e2, hlv, -packH, hP, hP0, hid, hj, nlt_add, List.idxOf?, List.findIdx?_cons]
  | false =>
    refine ⟨a3, s3, k3, by omega, by omega, run _ _ _ fun H id T h hs hT e1 e2 e3 => ?_⟩
    have hid := id_lt h
    have hP := pe_cu h hs
    have hP0 := pe_cu0 h hs
    unfold tv at e1 e2 e3
    rw [e70]
    unfold runF
    rcases hT with ⟨rfl, rfl⟩ | ⟨j, ro, rfl, hjn, hjb⟩
    · simp only [List.length_nil] at hsm
      rw [c0] at hsm
      simp -implicitDefEqProofs [L70, e1, e3, hsm, -packH, hP, hP0, hid, nlt_add, List.idxOf?, List.findIdx?_cons]
    · have hj := id_lt hjb
      have hlv := tab_live hjn hjb
      simp -implicitDefEqProofs [L70, e1, e3, hsm, hlv, -packH, hP, hP0, hid, hj, nlt_add, List.idxOf?, List.findIdx?_cons]
end Go.Proofs.YtjagdiilcphhfaaGreatDoor.Ev.Dr
