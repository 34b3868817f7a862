/- The reference's draws: numbers, choices, spoilt texts, read from a list of bytes by a pointer that moves on. -/
import Derived.Test.YtlmjoimjdpfamaaGreatEvRelA
import Derived.Test.YtlmjoimjdpfamaaGreatEvBD
set_option linter.unusedVariables false
set_option linter.unusedSimpArgs false
namespace Go.Proofs.YtlmjoimjdpfamaaGreat.Ev.Dr
/-- The bytes of a code. -/
def cd (x : List Int) : List AV := x.map fun q => AV.v (.int .u8 q)
def cu (x : List Int) (a s : Int) : Blk := ⟨50, 3, 0, false, [.agg [.lst 1 (cd x), i64 a, .v (.int .u64 s)]]⟩
def okC (x : List Int) : Prop := x.length ≤ 140737488355328 ∧ ∀ y ∈ x, 0 ≤ y ∧ y ≤ 255
theorem cd_len (x : List Int) : (cd x).length = x.length := by simp [cd]
theorem stable_cu {H : Hp} {id : Nat} {x : List Int} {a s : Int} (hs : Stable H) (h : hget H id = some (cu x a s)) (a' s' : Int) : Stable (H.set id (some (cu x a' s'))) := by
  have hg := hget_some h
  unfold Stable
  rw [List.length_set]
  refine ⟨?_, rnmH_set _ H id (cu x a s) (cu x a' s') hg rfl hs.2⟩
  rw [oldIds_set H id (cu x a s) (cu x a' s') hg rfl]
  exact hs.1
theorem hget_cu {H : Hp} {id : Nat} {b : Blk} (hid : id < H.length) : hget (H.set id (some b)) id = some b := by
  unfold hget
  rw [List.getElem?_set_self hid]
theorem hget_ne {H : Hp} {id id' : Nat} {o : Option Blk} (h : id ≠ id') : hget (H.set id o) id' = hget H id' := by
  unfold hget
  rw [List.getElem?_set_ne h]
theorem id_lt {H : Hp} {id : Nat} {b : Blk} (h : hget H id = some b) : id < H.length := (List.getElem?_eq_some_iff.1 (hget_some h)).1
theorem low8 (m : Nat) : 0 ≤ IntKind.i64.wrap (IntKind.u64.wrap ((m &&& 255 % 2 ^ IntKind.u64.bits : Nat) : Int)) ∧ IntKind.i64.wrap (IntKind.u64.wrap ((m &&& 255 % 2 ^ IntKind.u64.bits : Nat) : Int)) ≤ 255 := by
  have h : (m &&& 255 % 2 ^ IntKind.u64.bits) ≤ 255 := Nat.le_trans Nat.and_le_right (by decide)
  generalize (m &&& 255 % 2 ^ IntKind.u64.bits) = n at h
  have hu : IntKind.u64.wrap (n : Int) = n := by
    simp only [IntKind.wrap, IntKind.bits, IntKind.signed, Bool.false_and, Bool.false_eq_true, if_false]
    omega
  rw [hu, wr64 (by omega) (by omega)]
  omega
theorem next_ok (x : List Int) (hx : okC x) (H : Hp) (id : Nat) (a s : Int) (h : hget H id = some (cu x a s)) (hs : Stable H) (h0 : 0 ≤ a) (h1 : a ≤ 1099511627776) :
    ∃ s' r : Int, 0 ≤ r ∧ r ≤ 255 ∧ ev E0 51 [.ptr id 0 0] H = some (i64 r, H.set id (some (cu x (a + 1) s'))) := by
  have hid := id_lt h
  have hw : IntKind.i64.wrap (a + 1) = a + 1 := wr64 (by omega) (by omega)
  have hls : ∀ b, (H.set id (some (b : Blk))).length = H.length := fun b => List.length_set
  have hg : ∀ b, (H.set id (some (b : Blk)))[id]? = some (some b) := fun b => List.getElem?_set_self hid
  have hg0 := hget_some h
  have pk2 : ∀ (s' : Int) roots, (∀ q ∈ roots, q < H.length) → packH H.length (H.set id (some ⟨50, 3, 0, false, [.agg [.lst 1 (cd x), i64 (a + 1), .v (.int .u64 s')]]⟩)) roots = some ([], H.set id (some ⟨50, 3, 0, false, [.agg [.lst 1 (cd x), i64 (a + 1), .v (.int .u64 s')]]⟩)) := fun s' roots hr => packH_lo0 (hls _) (stable_cu hs h (a + 1) s') hr
  unfold cu at hg0 ⊢
  rw [e51]
  unfold runF
  have hwx : ∀ r : Int, 0 ≤ r → r ≤ 255 → IntKind.i64.wrap r = r := fun r h1 h2 => wr64 (by omega) (by omega)
  by_cases hlt : a < (x.length : Int)
  · obtain ⟨n, rfl⟩ : ∃ n : Nat, a = n := ⟨a.toNat, by omega⟩
    have hn : n < x.length := by omega
    have hb := hx.2 _ (List.getElem_mem hn)
    have hgn : (cd x)[n]? = some (.v (.int .u8 x[n])) := by simp [cd, hn]
    have hle : (n : Int) + 1 ≤ (x.length : Int) := by omega
    generalize x[n] = y at hb hgn
    have hwy := hwx y hb.1 hb.2
    refine ⟨?s, y, hb.1, hb.2, ?g⟩
    case g => simp -implicitDefEqProofs [L51, hg0, hg, hls, hw, hlt, hle, cd_len, hgn, hwy, -pack, -packH, pk2]; rfl
  · have hle : ¬ a + 1 ≤ (x.length : Int) := by omega
    refine ⟨?s2, ?r2, ?a2, ?b2, ?g2⟩
    case g2 =>
      simp -implicitDefEqProofs [L51, hg0, hg, hls, hw, hlt, hle, cd_len, -pack, -packH, pk2]
      refine And.intro ?_ ?_
      · rfl
      · rfl
    case a2 => exact (low8 _).1
    case b2 => exact (low8 _).2
theorem set_same {H : Hp} {id : Nat} {b : Blk} (h : hget H id = some b) : H.set id (some b) = H := by
  have h1 := hget_some h
  obtain ⟨hi, h2⟩ := List.getElem?_eq_some_iff.1 h1
  rw [← h2]
  exact List.set_getElem_self hi
/-- What packing is while the pointer's block alone has changed. -/
theorem pk_cu {H : Hp} {id : Nat} {x : List Int} {a s : Int} (h : hget H id = some (cu x a s)) (hs : Stable H) : ∀ (a' s' : Int) roots, (∀ q ∈ roots, q < H.length) → packH H.length (H.set id (some (cu x a' s'))) roots = some ([], H.set id (some (cu x a' s'))) :=
  fun a' s' roots hr => packH_lo0 List.length_set (stable_cu hs h a' s') hr
theorem pk_cu2 {H : Hp} {id : Nat} {x : List Int} {a s : Int} (h : hget H id = some (cu x a s)) (hs : Stable H) : ∀ (a' s' : Int) (ex : Hp) roots, (∀ q ∈ roots, q < H.length) → packH H.length (H.set id (some (cu x a' s')) ++ ex) roots = some ([], H.set id (some (cu x a' s'))) :=
  fun a' s' ex roots hr => packH_lo List.length_set (stable_cu hs h a' s') hr
theorem pick_ok (x : List Int) (hx : okC x) (H : Hp) (id : Nat) (a s : Int) (h : hget H id = some (cu x a s)) (hs : Stable H) (h0 : 0 ≤ a) (h1 : a ≤ 549755813888) (n : Int) :
    ∃ a' s' r : Int, a ≤ a' ∧ a' ≤ a + 2 ∧ 0 ≤ r ∧ (r < n ∨ r = 0) ∧ ev E0 23 [.ptr id 0 0, i64 n] H = some (i64 r, H.set id (some (cu x a' s'))) := by
  have hid := id_lt h
  have pk0 : ∀ roots, (∀ q ∈ roots, q < H.length) → packH H.length H roots = some ([], H) := fun roots hr => packH_lo0 rfl hs hr
  have pk2 := pk_cu h hs
  by_cases hn : n ≤ 1
  · refine ⟨a, s, 0, by omega, by omega, by omega, .inr rfl, ?_⟩
    rw [set_same h, e23]
    unfold runF
    simp -implicitDefEqProofs [L23, hn, -pack, -packH, pk0]
  · obtain ⟨s1, r1, r10, r11, e1⟩ := next_ok x hx H id a s h hs h0 (by omega)
    have hs1 := stable_cu hs h (a + 1) s1
    obtain ⟨s2, r2, r20, r21, e2⟩ := next_ok x hx _ id (a + 1) s1 (hget_cu hid) hs1 (by omega) (by omega)
    rw [List.set_set] at e2
    have hnz : ¬ n = 0 := by omega
    by_cases hb : 200 < n
    · have w1 : IntKind.i64.wrap (r1 * 256) = r1 * 256 := wr64 (by omega) (by omega)
      have w2 : IntKind.i64.wrap (r1 * 256 + r2) = r1 * 256 + r2 := wr64 (by omega) (by omega)
      refine ⟨a + 1 + 1, s2, (r1 * 256 + r2).tmod n, by omega, by omega, Int.tmod_nonneg _ (by omega), .inl (Int.tmod_lt_of_pos _ (by omega)), ?_⟩
      rw [e23]
      unfold runF
      simp -implicitDefEqProofs [L23, hn, hb, hnz, e1, e2, w1, w2, -pack, -packH, pk2]
    · refine ⟨a + 1, s1, r1.tmod n, by omega, by omega, Int.tmod_nonneg _ (by omega), .inl (Int.tmod_lt_of_pos _ (by omega)), ?_⟩
      rw [e23]
      unfold runF
      simp -implicitDefEqProofs [L23, hn, hb, hnz, e1, -pack, -packH, pk2]
theorem one_ok (x : List Int) (hx : okC x) (H : Hp) (id : Nat) (a s : Int) (h : hget H id = some (cu x a s)) (hs : Stable H) (h0 : 0 ≤ a) (h1 : a ≤ 549755813888) (n : Int) :
    ∃ (a' s' : Int) (b : Bool), a ≤ a' ∧ a' ≤ a + 2 ∧ ev E0 25 [.ptr id 0 0, i64 n] H = some (bl b, H.set id (some (cu x a' s'))) := by
  obtain ⟨a', s', r, k1, k2, _, _, e⟩ := pick_ok x hx H id a s h hs h0 h1 n
  refine ⟨a', s', decide (r = 0), k1, k2, ?_⟩
  have pk2 := pk_cu h hs
  rw [e25]
  unfold runF
  simp -implicitDefEqProofs [L25, e, -pack, -packH, pk2]
theorem among_ok (x : List Int) (hx : okC x) (H : Hp) (id : Nat) (a s : Int) (h : hget H id = some (cu x a s)) (hs : Stable H) (h0 : 0 ≤ a) (h1 : a ≤ 549755813888) (id2 : Nat) (hne : id ≠ id2) (l : List Int) (n : Nat) (hn : l.length = n) (hp : 0 < n) (hg : hget H id2 = some ⟨3, 1, 1, false, l.map i64⟩) :
    ∃ (a' s' : Int) (t : Int), a ≤ a' ∧ a' ≤ a + 2 ∧ t ∈ l ∧ ev E0 26 [.ptr id 0 0, .sl id2 0 n] H = some (i64 t, H.set id (some (cu x a' s'))) := by
  subst hn
  obtain ⟨a', s', r, k1, k2, r0, r1, e⟩ := pick_ok x hx H id a s h hs h0 h1 l.length
  obtain ⟨k, rfl⟩ : ∃ k : Nat, r = k := ⟨r.toNat, by omega⟩
  have hk : k < l.length := by omega
  refine ⟨a', s', l[k], k1, k2, List.getElem_mem hk, ?_⟩
  have hx2 : l[k]? = some l[k] := List.getElem?_eq_getElem hk
  generalize l[k] = t at *
  have hg2 : (H.set id (some (cu x a' s')))[id2]? = some (some ⟨3, 1, 1, false, l.map i64⟩) := by rw [List.getElem?_set_ne hne]; exact hget_some hg
  have pk2 := pk_cu h hs
  have hki : (k : Int) < (l.length : Int) := by omega
  have hg0 := hget_some hg
  have hx3 : ∀ h, l[k]'h = t := fun h => (List.getElem?_eq_some_iff.1 hx2).2
  rw [e26]
  unfold runF
  simp -implicitDefEqProofs [L26, e, hx2, hx3, hg2, hk, hki, hg0, -List.getElem?_set_ne, -pack, -packH, pk2]
theorem hget_app {H ex : Hp} {id : Nat} {b : Blk} (h : hget H id = some b) : hget (H ++ ex) id = some b := by
  unfold hget at h ⊢
  rw [List.getElem?_append_left (id_lt (by unfold hget; exact h))]
  exact h
theorem set_app {H ex : Hp} {id : Nat} {b : Blk} (h : hget H id = some b) (c : Option Blk) : (H ++ ex).set id c = H.set id c ++ ex := List.set_append_left _ _ (id_lt h)
def leafB (b : Blk) : Prop := blkIds b = [] ∧ ∀ f, rnmB f b = some b
theorem stable_leaf {H : Hp} (hs : Stable H) {b : Blk} (hb : leafB b) : Stable (H ++ [some b]) := hs.snoc (by rw [hb.1]; simp) (hb.2 _)
theorem stable_leaves {H : Hp} (hs : Stable H) : ∀ (bs : List Blk), (∀ b ∈ bs, leafB b) → Stable (H ++ bs.map some) := by
  intro bs
  induction bs generalizing H with
  | nil => intro _; simpa using hs
  | cons b bs ih =>
    intro h
    have h1 := ih (stable_leaf hs (h b (by simp))) fun c hc => h c (by simp [hc])
    rw [List.append_assoc] at h1
    exact h1
theorem pick_fr (x : List Int) (hx : okC x) (H : Hp) (bs : List Blk) (id : Nat) (a s : Int) (h : hget H id = some (cu x a s)) (hs : Stable H) (hb : ∀ b ∈ bs, leafB b) (h0 : 0 ≤ a) (h1 : a ≤ 549755813888) (n : Int) :
    ∃ a' s' r : Int, a ≤ a' ∧ a' ≤ a + 2 ∧ 0 ≤ r ∧ (r < n ∨ r = 0) ∧ ev E0 23 [.ptr id 0 0, i64 n] (H ++ bs.map some) = some (i64 r, H.set id (some (cu x a' s')) ++ bs.map some) := by
  obtain ⟨a', s', r, k1, k2, k3, k4, e⟩ := pick_ok x hx (H ++ bs.map some) id a s (hget_app h) (stable_leaves hs bs hb) h0 h1 n
  exact ⟨a', s', r, k1, k2, k3, k4, by rw [e, set_app h]⟩
theorem one_fr (x : List Int) (hx : okC x) (H : Hp) (bs : List Blk) (id : Nat) (a s : Int) (h : hget H id = some (cu x a s)) (hs : Stable H) (hb : ∀ b ∈ bs, leafB b) (h0 : 0 ≤ a) (h1 : a ≤ 549755813888) (n : Int) :
    ∃ (a' s' : Int) (q : Bool), a ≤ a' ∧ a' ≤ a + 2 ∧ ev E0 25 [.ptr id 0 0, i64 n] (H ++ bs.map some) = some (bl q, H.set id (some (cu x a' s')) ++ bs.map some) := by
  obtain ⟨a', s', r, k1, k2, e⟩ := one_ok x hx (H ++ bs.map some) id a s (hget_app h) (stable_leaves hs bs hb) h0 h1 n
  exact ⟨a', s', r, k1, k2, by rw [e, set_app h]⟩
end Go.Proofs.YtlmjoimjdpfamaaGreat.Ev.Dr
