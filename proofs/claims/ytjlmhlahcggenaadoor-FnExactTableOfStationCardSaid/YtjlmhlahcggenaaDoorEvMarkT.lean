/- The marks that the laws write into tables, and read back. -/
import Derived.Test.YtjlmhlahcggenaaDoorEvStation
import Derived.Test.YtjlmhlahcggenaaDoorEvOpn
set_option linter.unusedVariables false
set_option linter.unusedSimpArgs false
namespace Go.Proofs.YtjlmhlahcggenaaDoor.Ev
theorem hget_set {H : Hp} {id : Nat} {b : Blk} (h : id < H.length) : hget (H.set id (some b)) id = some b := by
  unfold hget
  rw [List.getElem?_set_self h]
theorem set_same {H : Hp} {id : Nat} {b : Blk} (h : hget H id = some b) : H.set id (some b) = H := by
  have h1 := hget_some h
  obtain ⟨hi, h2⟩ := List.getElem?_eq_some_iff.1 h1
  rw [← h2]
  exact List.set_getElem_self hi
theorem stable_set {H : Hp} {id : Nat} {b : Blk} (hs : Stable H) (h : hget H id = some b) (hk : b.kd ≠ 0) (ty k kd : Nat) (ro : Bool) (hk2 : kd ≠ 0) : ∀ es, Stable (H.set id (some ⟨ty, k, kd, ro, es⟩)) := fun es => hs.set (hget_some h) hk hk2
-- ---------------------------------------------------------------- texts
def digB (n : Nat) : UInt8 := UInt8.ofNat (IntKind.u8.wrap (48 + ((n % 10 : Nat) : Int))).toNat
def dig : Nat → Nat → ByteArray → ByteArray
  | 0, _, s => s
  | k + 1, n, s => if n = 0 then s else dig k (n / 10) (⟨#[digB n]⟩ ++ s)
theorem dig_loop : ∀ (k n : Nat) (s : ByteArray), n ≤ k → k ≤ 1099511627776 → s.size + n ≤ 1099511627776 →
    packX 0 [3] (loopW (bd E0 (ev E0) loopW 0 [0, 3] L56b0) ⟨[(0, i64 n), (3, st s)], []⟩) = some (.ext 0, ⟨[(3, st (dig k n s))], []⟩) := by
  intro k
  induction k with
  | zero =>
    intro n s h _ _
    obtain rfl : n = 0 := by omega
    rw [loopW_eq]
    generalize loopW (bd E0 (ev E0) loopW 0 [0, 3] L56b0) = K
    simp -implicitDefEqProofs [bd, L56b0, dig]
  | succ k ih =>
    intro n s h hk hs
    by_cases hn : n = 0
    · subst hn
      rw [loopW_eq]
      generalize loopW (bd E0 (ev E0) loopW 0 [0, 3] L56b0) = K
      simp -implicitDefEqProofs [bd, L56b0, dig]
    · have hih := ih (n / 10) (⟨#[digB n]⟩ ++ s) (by omega) (by omega) (by
        rw [ByteArray.size_append]
        have : (⟨#[digB n]⟩ : ByteArray).size = 1 := rfl
        omega)
      have h1 : Int.tmod (n : Int) 10 = ((n % 10 : Nat) : Int) := rfl
      have h2 : Int.tdiv (n : Int) 10 = ((n / 10 : Nat) : Int) := rfl
      have hw1 : IntKind.i64.wrap (48 + ((n % 10 : Nat) : Int)) = 48 + ((n % 10 : Nat) : Int) := wr64 (by omega) (by omega)
      have hw2 : IntKind.i64.wrap ((n / 10 : Nat) : Int) = ((n / 10 : Nat) : Int) := wr64 (by omega) (by omega)
      have hsz : (⟨#[digB n]⟩ : ByteArray).size + s.size ≤ 9223372036854775807 := by
        have : (⟨#[digB n]⟩ : ByteArray).size = 1 := rfl
        omega
      have hdg : dig (k + 1) n s = dig k (n / 10) (⟨#[digB n]⟩ ++ s) := by rw [dig, if_neg hn]
      have hpos : (0 : Int) < (n : Int) := by omega
      have hpos2 : 0 < n := by omega
      rw [hdg, loopW_eq]
      generalize loopW (bd E0 (ev E0) loopW 0 [0, 3] L56b0) = K at hih ⊢
      unfold digB at hih hsz ⊢
      simpa -implicitDefEqProofs [bd, L56b0, hpos, hpos2, h1, h2, hw1, hw2, hsz, b2sR, b2sL, bytesOf, -Int.natCast_emod, -Int.natCast_ediv] using hih
theorem dig_size : ∀ (k n : Nat) (s : ByteArray), (dig k n s).size ≤ s.size + k
  | 0, n, s => by simp [dig]
  | k + 1, n, s => by
    unfold dig
    split
    · omega
    · have := dig_size k (n / 10) (⟨#[digB n]⟩ ++ s)
      rw [ByteArray.size_append] at this
      have h1 : (⟨#[digB n]⟩ : ByteArray).size = 1 := rfl
      omega
def markT (c : Nat) : ByteArray := ⟨#[109]⟩ ++ dig c c ⟨#[]⟩
theorem mark_text (c : Nat) (h : 0 < c) (hc : c ≤ 549755813888) : ev E0 56 [i64 c] [] = some (st (markT c), []) := by
  rw [e56]
  unfold runF
  have hl := dig_loop c c ⟨#[]⟩ (Nat.le_refl _) (by omega) (by
    have : (⟨#[]⟩ : ByteArray).size = 0 := rfl
    omega)
  have hc1 : ¬ (c : Int) ≤ 0 := by omega
  have hc2 : ¬ c = 0 := by omega
  have hsz : (⟨#[109]⟩ : ByteArray).size + (dig c c ⟨#[]⟩).size ≤ 9223372036854775807 := by
    have h1 := dig_size c c ⟨#[]⟩
    have h2 : (⟨#[]⟩ : ByteArray).size = 0 := rfl
    have h3 : (⟨#[109]⟩ : ByteArray).size = 1 := rfl
    omega
  simp -implicitDefEqProofs [L56, hl, hc1, hc2, hsz, markT]
def seqT : Nat → Nat → List ByteArray
  | _, 0 => []
  | c, n + 1 => markT c :: seqT (c + 1) n
theorem seqT_len : ∀ (n c : Nat), (seqT c n).length = n
  | 0, c => rfl
  | n + 1, c => by rw [seqT, List.length_cons, seqT_len n]
theorem markT_loop (H : Hp) (id n : Nat) (hid : id < H.length) (hst : ∀ es, Stable (H.set id (some ⟨9, 1, 1, false, es⟩))) (hn : n ≤ 140737488355328) : ∀ (rest : List ByteArray) (dn : List AV) (c : Nat), dn.length + rest.length = n → 0 < c → c + rest.length ≤ 549755813888 →
    packX H.length [1] (loopW (bd E0 (ev E0) loopW H.length [0, 1, 5] L40b0) ⟨[(0, .sl id 0 n), (1, i64 c), (5, i64 dn.length)], H.set id (some ⟨9, 1, 1, false, dn ++ rest.map st⟩)⟩) = some (.ext 0, ⟨[(1, i64 ((c + rest.length : Nat) : Int))], H.set id (some ⟨9, 1, 1, false, dn ++ (seqT c rest.length).map st⟩)⟩) := by
  intro rest
  have hls : ∀ es, (H.set id (some (⟨9, 1, 1, false, es⟩ : Blk))).length = H.length := fun es => List.length_set
  have pk : ∀ (s : List (Nat × AV)) (li : List Nat) (es : List AV), (∀ q ∈ slotIds (keep s li), q < H.length) → pack H.length li ⟨s, H.set id (some ⟨9, 1, 1, false, es⟩)⟩ = some ⟨renS H.length [] (keep s li), H.set id (some ⟨9, 1, 1, false, es⟩)⟩ := fun s li es h => pack_lo0 (hls es) (hst es) h
  have hg : ∀ es, (H.set id (some (⟨9, 1, 1, false, es⟩ : Blk)))[id]? = some (some ⟨9, 1, 1, false, es⟩) := fun es => List.getElem?_set_self hid
  induction rest with
  | nil =>
    intro dn c h _ _
    have hd : ¬ dn.length < n := by simp at h; omega
    rw [loopW_eq]
    generalize loopW (bd E0 (ev E0) loopW H.length [0, 1, 5] L40b0) = K
    simp -implicitDefEqProofs [bd, L40b0, seqT, hd, -pack, pk, hid, hg]
  | cons y rest ih =>
    intro dn c h h0 h1
    rw [List.length_cons] at h h1
    have hd : dn.length < n := by omega
    have hih := ih (dn ++ [st (markT c)]) (c + 1) (by simp; omega) (by omega) (by omega)
    rw [List.length_append, List.length_singleton, cs1, cs1, List.append_assoc, List.singleton_append, List.append_assoc, List.singleton_append] at hih
    have hw : IntKind.i64.wrap ((dn.length : Int) + 1) = (dn.length : Int) + 1 := wr64 (by omega) (by omega)
    have hw2 : IntKind.i64.wrap ((c : Int) + 1) = (c : Int) + 1 := wr64 (by omega) (by omega)
    have hc : c + (rest.length + 1) = c + 1 + rest.length := by omega
    have hsq : (seqT c (rest.length + 1)).map st = st (markT c) :: (seqT (c + 1) rest.length).map st := rfl
    have hget : (dn ++ st y :: rest.map st)[dn.length]? = some (st y) := app_get rfl
    have hset : (dn ++ st y :: rest.map st).set dn.length (st (markT c)) = dn ++ st (markT c) :: rest.map st := app_set rfl
    rw [List.length_cons, hc, hsq, List.map_cons, loopW_eq]
    generalize loopW (bd E0 (ev E0) loopW H.length [0, 1, 5] L40b0) = K at hih ⊢
    simpa -implicitDefEqProofs [bd, L40b0, hd, -pack, pk, hid, hg, hget, hset, hw, hw2, mark_text c h0 (by omega)] using hih
theorem mark_texts (H : Hp) (id : Nat) (l : List ByteArray) (c : Nat) (h : hget H id = some ⟨9, 1, 1, false, l.map st⟩) (hs : Stable H) (hl : l.length ≤ 1073741824) (h0 : 0 < c) (h1 : c ≤ 1073741824) :
    ev E0 40 [.sl id 0 l.length, i64 c] H = some (i64 ((c + l.length : Nat) : Int), H.set id (some ⟨9, 1, 1, false, (seqT c l.length).map st⟩)) := by
  have hid : id < H.length := (List.getElem?_eq_some_iff.1 (hget_some h)).1
  have hst := stable_set hs h (by simp) 9 1 1 false (by simp)
  have hl := markT_loop H id l.length hid hst (by omega) l [] c (by simp) h0 (by omega)
  rw [List.nil_append, List.nil_append, set_same h, List.length_nil, c0] at hl
  have hls : (H.set id (some (⟨9, 1, 1, false, (seqT c l.length).map st⟩ : Blk))).length = H.length := List.length_set
  have pk : ∀ (s : List (Nat × AV)) (li : List Nat), (∀ q ∈ slotIds (keep s li), q < H.length) → pack H.length li ⟨s, H⟩ = some ⟨renS H.length [] (keep s li), H⟩ := fun s li h => pack_lo0 rfl hs h
  have pk2 : ∀ roots, (∀ q ∈ roots, q < H.length) → packH H.length (H.set id (some ⟨9, 1, 1, false, (seqT c l.length).map st⟩)) roots = some ([], H.set id (some ⟨9, 1, 1, false, (seqT c l.length).map st⟩)) := fun roots h => packH_lo0 hls (hst _) h
  rw [e40]
  unfold runF
  simp -implicitDefEqProofs [L40, hl, -pack, -packH, pk, pk2, hid]
/-- A table is marked: its row of texts is. -/
theorem mark_table (H : Hp) (id : Nat) (l : List ByteArray) (c : Nat) (h : hget H id = some ⟨9, 1, 1, false, l.map st⟩) (hs : Stable H) (hl : l.length ≤ 1073741824) (h0 : 0 < c) (h1 : c ≤ 1073741824) :
    ev E0 23 [.agg [.sl id 0 l.length], i64 c] H = some (i64 ((c + l.length : Nat) : Int), H.set id (some ⟨9, 1, 1, false, (seqT c l.length).map st⟩)) := by
  have hid : id < H.length := (List.getElem?_eq_some_iff.1 (hget_some h)).1
  have hst := stable_set hs h (by simp) 9 1 1 false (by simp)
  have hls : (H.set id (some (⟨9, 1, 1, false, (seqT c l.length).map st⟩ : Blk))).length = H.length := List.length_set
  have hid2 : id < H.length + 1 := by omega
  have hs2 : Stable (H ++ [some ⟨30, 1, 0, false, [.agg [.sl id 0 l.length]]⟩]) := hs.snoc (by simp; exact hid2) (by simp [hid2])
  have hg2 : hget (H ++ [some ⟨30, 1, 0, false, [.agg [.sl id 0 l.length]]⟩]) id = some ⟨9, 1, 1, false, l.map st⟩ := by
    have := hget_some h
    unfold hget
    rw [List.getElem?_append_left hid, this]
  have hm := mark_texts _ id l c hg2 hs2 hl h0 h1
  rw [List.set_append_left _ _ hid] at hm
  have hg3 : (H ++ [some ⟨30, 1, 0, false, [.agg [.sl id 0 l.length]]⟩] : Hp)[H.length]? = some (some ⟨30, 1, 0, false, [.agg [.sl id 0 l.length]]⟩) := by simp
  have pk2 : ∀ roots ex, (∀ q ∈ roots, q < H.length) → packH H.length (H.set id (some ⟨9, 1, 1, false, (seqT c l.length).map st⟩) ++ ex) roots = some ([], H.set id (some ⟨9, 1, 1, false, (seqT c l.length).map st⟩)) := fun roots ex h => packH_lo hls (hst _) h
  rw [e23]
  unfold runF
  simp -implicitDefEqProofs [L23, hm, -pack, -packH, pk2, hid, hg3]
theorem stable_of {H : Hp} (h1 : (oldIds H).all (fun q => decide (q < H.length)) = true) (h2 : rnmH (newId H.length []) H = some H) : Stable H := ⟨fun q hq => by simpa using List.all_eq_true.1 h1 q hq, h2⟩
theorem mark_table1 (H : Hp) (id : Nat) (l : List ByteArray) (h : hget H id = some ⟨9, 1, 1, false, l.map st⟩) (s1 : (oldIds H).all (fun q => decide (q < H.length)) = true) (s2 : rnmH (newId H.length []) H = some H) (hl : l.length ≤ 1073741824) :
    ev E0 23 [.agg [.sl id 0 l.length], i64 1] H = some (i64 (1 + (l.length : Int)), H.set id (some ⟨9, 1, 1, false, (seqT 1 l.length).map st⟩)) := mark_table H id l 1 h (stable_of s1 s2) hl (by omega) (by omega)

@[simp] theorem take_seqT (c n : Nat) : List.take n ((seqT c n).map st) = (seqT c n).map st := List.take_of_length_le (by rw [List.length_map, seqT_len]; exact Nat.le_refl _)
theorem heldT_loop (l : List ByteArray) (hm : l.length ≤ 1073741824) : ∀ (t : List ByteArray) (i c : Nat), l.drop i = t → t = seqT c t.length → 0 < c → c + t.length ≤ 549755813888 →
    packX 0 [1, 4] (loopW (bd E0 (ev E0) loopW 0 [0, 1, 5] L41b0) ⟨[(0, .lst 1 (l.map st)), (1, i64 c), (5, i64 i)], []⟩) = some (.ext 0, ⟨[(1, i64 ((c + t.length : Nat) : Int))], []⟩) := by
  intro t
  induction t with
  | nil =>
    intro i c h _ _ _
    have hi := not_drop h
    rw [loopW_eq]
    generalize loopW (bd E0 (ev E0) loopW 0 [0, 1, 5] L41b0) = K
    simp -implicitDefEqProofs [bd, L41b0, hi]
  | cons y t ih =>
    intro i c h hs h0 h1
    obtain ⟨hi, hx, hd, hmem⟩ := at_drop h
    rw [List.length_cons, seqT] at hs
    obtain ⟨rfl, hs2⟩ := List.cons.inj hs
    rw [List.length_cons] at h1
    have hih := ih (i + 1) (c + 1) hd hs2 (by omega) (by omega)
    rw [cs1, cs1] at hih
    have hw : IntKind.i64.wrap ((i : Int) + 1) = (i : Int) + 1 := wr64 (by omega) (by omega)
    have hw2 : IntKind.i64.wrap ((c : Int) + 1) = (c : Int) + 1 := wr64 (by omega) (by omega)
    have hn : c + (t.length + 1) = c + 1 + t.length := by omega
    rw [List.length_cons, hn, loopW_eq]
    generalize loopW (bd E0 (ev E0) loopW 0 [0, 1, 5] L41b0) = K at hih ⊢
    simpa -implicitDefEqProofs [bd, L41b0, hi, hx, hw, hw2, mark_text c h0 (by omega)] using hih
theorem held_table1 (n : Nat) (hn : n ≤ 1073741824) : ev E0 24 [.agg [.lst 1 ((seqT 1 n).map st)], i64 1] [] = some (i64 (1 + (n : Int)), []) := by
  have ht : ev E0 41 [.lst 1 ((seqT 1 n).map st), i64 1] [] = some (i64 (1 + (n : Int)), []) := by
    rw [e41]
    unfold runF
    have hl := heldT_loop (seqT 1 n) (by rw [seqT_len]; omega) (seqT 1 n) 0 1 rfl (by rw [seqT_len]) (by omega) (by rw [seqT_len]; omega)
    rw [c0, seqT_len] at hl
    have hc : ((1 + n : Nat) : Int) = 1 + (n : Int) := rfl
    rw [hc, show ((1 : Nat) : Int) = 1 from rfl] at hl
    simp -implicitDefEqProofs [L41, hl]
  rw [e24]
  unfold runF
  have h1 : ¬ (1 + (n : Int)) < 0 := by omega
  simp -implicitDefEqProofs [L24, ht, h1]
theorem held_nilT : ev E0 24 [.agg [.v (.slice none 0 0)], i64 1] [] = some (i64 1, []) := by
  have ht : ev E0 41 [.v (.slice none 0 0), i64 1] [] = some (i64 1, []) := by
    rw [e41]
    unfold runF
    simp -implicitDefEqProofs [L41]
    rw [loopW_eq]
    simp -implicitDefEqProofs [bd, L41b0]
  rw [e24]
  unfold runF
  simp -implicitDefEqProofs [L24, ht]
theorem eq_nilT : ev E0 13 [.agg [.v (.slice none 0 0)], .agg [.v (.slice none 0 0)]] [] = some (bl true, []) := by
  have ht : ev E0 34 [.v (.slice none 0 0), .v (.slice none 0 0)] [] = some (bl true, []) := by
    rw [e34]
    unfold runF
    simp -implicitDefEqProofs [L34]
    rw [loopW_eq]
    simp -implicitDefEqProofs [bd, L34b0]
  rw [e13]
  unfold runF
  simp -implicitDefEqProofs [L13, ht]
theorem mark_nilS1 (H : Hp) (s1 : (oldIds H).all (fun q => decide (q < H.length)) = true) (s2 : rnmH (newId H.length []) H = some H) : ev E0 23 [.agg [.v (.slice none 0 0)], i64 1] H = some (i64 1, H) := by
  have hs := stable_of s1 s2
  have hs2 : Stable (H ++ [some ⟨30, 1, 0, false, [.agg [.v (.slice none 0 0)]]⟩]) := hs.snoc (by simp) (by simp)
  have hm : ev E0 40 [.v (.slice none 0 0), i64 1] (H ++ [some ⟨30, 1, 0, false, [.agg [.v (.slice none 0 0)]]⟩]) = some (i64 1, H ++ [some ⟨30, 1, 0, false, [.agg [.v (.slice none 0 0)]]⟩]) := by
    generalize hH : H ++ [some ⟨30, 1, 0, false, [.agg [.v (.slice none 0 0)]]⟩] = H2 at hs2 ⊢
    have pk : ∀ (s : List (Nat × AV)) (li : List Nat), (∀ q ∈ slotIds (keep s li), q < H2.length) → pack H2.length li ⟨s, H2⟩ = some ⟨renS H2.length [] (keep s li), H2⟩ := fun s li h => pack_lo0 rfl hs2 h
    have pk2 : ∀ roots, (∀ q ∈ roots, q < H2.length) → packH H2.length H2 roots = some ([], H2) := fun roots h => packH_lo0 rfl hs2 h
    rw [e40]
    unfold runF
    simp -implicitDefEqProofs [L40, -pack, -packH, pk, pk2]
    rw [loopW_eq]
    simp -implicitDefEqProofs [bd, L40b0, -pack, -packH, pk, pk2]
  have hg3 : (H ++ [some ⟨30, 1, 0, false, [.agg [.v (.slice none 0 0)]]⟩] : Hp)[H.length]? = some (some ⟨30, 1, 0, false, [.agg [.v (.slice none 0 0)]]⟩) := by simp
  have pk2 : ∀ roots ex, (∀ q ∈ roots, q < H.length) → packH H.length (H ++ ex) roots = some ([], H) := fun roots ex h => packH_lo rfl hs h
  rw [e23]
  unfold runF
  simp -implicitDefEqProofs [L23, hm, -pack, -packH, pk2, hg3]
theorem tableOf_yes (a b : ByteArray) (n : Int) (ha : a.size ≤ 1073741824) (hb : b.size ≤ 1073741824) (h : okSt a b n = true) :
    ev E0 21 [.agg [st a, st b, i64 n]] [] = some (.tup [.agg [.sl 0 0 (partsB 44 a).length], bl true], [some ⟨9, 1, 1, false, (partsB 44 a).map st⟩]) ∧
    ev E0 22 [.agg [st a, st b, i64 n]] [] = some (.tup [.agg [.sl 0 0 (partsB 44 a).length], bl true], [some ⟨9, 1, 1, false, (partsB 44 a).map st⟩]) := by
  have h1 := station_s a b n ha hb
  have h2 := station_i a b n ha hb
  rw [h] at h1 h2
  have hc : okCode a = true := by
    unfold okSt at h
    rw [Bool.and_eq_true] at h
    exact h.1
  have p1 := (parse_s a ha).2 hc
  have p2 := (parse_i a ha).2 hc
  generalize partsB 44 a = P at *
  have h38 : ev E0 38 [.agg [st a, st b, i64 n]] [] = some (.tup [.agg [.sl 0 0 P.length], bl true], [some ⟨9, 1, 1, false, P.map st⟩]) := by
    rw [e38]
    unfold runF
    simp -implicitDefEqProofs [L38, p1]
  have h39 : ev E0 39 [.agg [st a, st b, i64 n]] [] = some (.agg [.sl 0 0 P.length], [some ⟨9, 1, 1, false, P.map st⟩]) := by
    rw [e39]
    unfold runF
    simp -implicitDefEqProofs [L39, p2]
  rw [e21, e22]
  unfold runF
  constructor
  · simp -implicitDefEqProofs [L21, h1, h38]
  · simp -implicitDefEqProofs [L22, h2, h39]
theorem tableOf_no (a b : ByteArray) (n : Int) (ha : a.size ≤ 1073741824) (hb : b.size ≤ 1073741824) (h : okSt a b n = false) :
    ev E0 21 [.agg [st a, st b, i64 n]] [] = some (.tup [.agg [.v (.slice none 0 0)], bl false], []) ∧
    ev E0 22 [.agg [st a, st b, i64 n]] [] = some (.tup [.agg [.v (.slice none 0 0)], bl false], []) := by
  have h1 := station_s a b n ha hb
  have h2 := station_i a b n ha hb
  rw [h] at h1 h2
  rw [e21, e22]
  unfold runF
  constructor
  · simp -implicitDefEqProofs [L21, h1]
  · simp -implicitDefEqProofs [L22, h2]
end Go.Proofs.YtjlmhlahcggenaaDoor.Ev
