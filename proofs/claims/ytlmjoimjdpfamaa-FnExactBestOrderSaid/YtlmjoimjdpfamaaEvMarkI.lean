/- Lists of whole numbers, jobs and hops: marks laid into them, marks held by them. -/
import Derived.Test.YtlmjoimjdpfamaaEvRelG
import Derived.Test.YtlmjoimjdpfamaaEvBD
set_option linter.unusedVariables false
set_option linter.unusedSimpArgs false
namespace Go.Proofs.Ytlmjoimjdpfamaa.Ev.Mk
theorem eqI_loop (l : List Int) (hm : l.length ≤ 140737488355328) : ∀ (t : List Int) (i : Nat), l.drop i = t →
    packX 0 [4] (loopW (bd E0 (ev E0) loopW 0 [0, 1, 5] L12b0) ⟨[(0, .lst 1 (i64s l)), (1, .lst 1 (i64s l)), (5, i64 i)], []⟩) = some (.ext 0, ⟨[], []⟩) := by
  intro t
  induction t with
  | nil =>
    intro i h
    have hi := not_drop h
    rw [loopW_eq]
    generalize loopW (bd E0 (ev E0) loopW 0 [0, 1, 5] L12b0) = K
    simp -implicitDefEqProofs [bd, L12b0, i64s, hi]
  | cons c t ih =>
    intro i h
    obtain ⟨hi, hx, hd, hmem⟩ := at_drop h
    have hih := ih (i + 1) hd
    rw [cs1] at hih
    have hw : IntKind.i64.wrap ((i : Int) + 1) = (i : Int) + 1 := wr64 (by omega) (by omega)
    rw [loopW_eq]
    generalize loopW (bd E0 (ev E0) loopW 0 [0, 1, 5] L12b0) = K at hih ⊢
    simpa -implicitDefEqProofs [bd, L12b0, i64s, hi, hx, hw] using hih
theorem eq_ints (l : List Int) (hm : l.length ≤ 140737488355328) : ev E0 12 [.lst 1 (i64s l), .lst 1 (i64s l)] [] = some (bl true, []) := by
  rw [e12]
  unfold runF
  have hl := eqI_loop l hm l 0 rfl
  rw [c0] at hl
  simp -implicitDefEqProofs [L12, hl, i64s_len]
def seqI : Int → Nat → List Int
  | _, 0 => []
  | c, n + 1 => c :: seqI (c + 1) n
theorem seqI_len : ∀ (n : Nat) (c : Int), (seqI c n).length = n
  | 0, c => rfl
  | n + 1, c => by rw [seqI, List.length_cons, seqI_len n]
theorem held_loop (l : List Int) (hm : l.length ≤ 140737488355328) : ∀ (t : List Int) (i : Nat) (c : Int), l.drop i = t → t = seqI c t.length → 0 ≤ c → c + t.length ≤ 281474976710656 →
    packX 0 [1, 4] (loopW (bd E0 (ev E0) loopW 0 [0, 1, 5] L16b0) ⟨[(0, .lst 1 (i64s l)), (1, i64 c), (5, i64 i)], []⟩) = some (.ext 0, ⟨[(1, i64 (c + t.length))], []⟩) := by
  intro t
  induction t with
  | nil =>
    intro i c h _ _ _
    have hi := not_drop h
    rw [loopW_eq]
    generalize loopW (bd E0 (ev E0) loopW 0 [0, 1, 5] L16b0) = K
    simp -implicitDefEqProofs [bd, L16b0, i64s, hi]
  | cons y t ih =>
    intro i c h hs h0 h1
    obtain ⟨hi, hx, hd, hmem⟩ := at_drop h
    rw [List.length_cons, seqI] at hs
    obtain ⟨rfl, hs2⟩ := List.cons.inj hs
    rw [List.length_cons] at h1
    have hih := ih (i + 1) (y + 1) hd hs2 (by omega) (by omega)
    rw [cs1] at hih
    have hw : IntKind.i64.wrap ((i : Int) + 1) = (i : Int) + 1 := wr64 (by omega) (by omega)
    have hw2 : IntKind.i64.wrap (y + 1) = y + 1 := wr64 (by omega) (by omega)
    have hn : y + ((t.length + 1 : Nat) : Int) = y + 1 + (t.length : Int) := by omega
    rw [List.length_cons, hn, loopW_eq]
    generalize loopW (bd E0 (ev E0) loopW 0 [0, 1, 5] L16b0) = K at hih ⊢
    simpa -implicitDefEqProofs [bd, L16b0, i64s, hi, hx, hw, hw2] using hih
theorem held_ints (c : Int) (n : Nat) (h0 : 0 ≤ c) (h1 : c + n ≤ 140737488355328) : ev E0 16 [.lst 1 (i64s (seqI c n)), i64 c] [] = some (i64 (c + n), []) := by
  rw [e16]
  unfold runF
  have hl := held_loop (seqI c n) (by rw [seqI_len]; omega) (seqI c n) 0 c rfl (by rw [seqI_len]) h0 (by rw [seqI_len]; omega)
  rw [c0, seqI_len] at hl
  simp -implicitDefEqProofs [L16, hl]
theorem hget_set {H : Hp} {id : Nat} {b : Blk} (h : id < H.length) : hget (H.set id (some b)) id = some b := by
  unfold hget
  rw [List.getElem?_set_self h]
theorem i64s_cons (x : Int) (l : List Int) : i64s (x :: l) = i64 x :: i64s l := rfl
theorem markI_loop (H : Hp) (id n : Nat) (hid : id < H.length) (hst : ∀ es, Stable (H.set id (some ⟨3, 1, 1, false, es⟩))) (hn : n ≤ 140737488355328) : ∀ (rest : List Int) (dn : List AV) (c : Int), dn.length + rest.length = n → 0 ≤ c → c + rest.length ≤ 281474976710656 →
    packX H.length [1] (loopW (bd E0 (ev E0) loopW H.length [0, 1, 5] L15b0) ⟨[(0, .sl id 0 n), (1, i64 c), (5, i64 dn.length)], H.set id (some ⟨3, 1, 1, false, dn ++ i64s rest⟩)⟩) = some (.ext 0, ⟨[(1, i64 (c + rest.length))], H.set id (some ⟨3, 1, 1, false, dn ++ i64s (seqI c rest.length)⟩)⟩) := by
  intro rest
  have hls : ∀ es, (H.set id (some (⟨3, 1, 1, false, es⟩ : Blk))).length = H.length := fun es => List.length_set
  have pk : ∀ (s : List (Nat × AV)) (li : List Nat) (es : List AV), (∀ q ∈ slotIds (keep s li), q < H.length) → pack H.length li ⟨s, H.set id (some ⟨3, 1, 1, false, es⟩)⟩ = some ⟨renS H.length [] (keep s li), H.set id (some ⟨3, 1, 1, false, es⟩)⟩ := fun s li es h => pack_lo0 (hls es) (hst es) h
  have hg : ∀ es, (H.set id (some (⟨3, 1, 1, false, es⟩ : Blk)))[id]? = some (some ⟨3, 1, 1, false, es⟩) := fun es => List.getElem?_set_self hid
  induction rest with
  | nil =>
    intro dn c h _ _
    have hd : ¬ dn.length < n := by simp at h; omega
    rw [loopW_eq]
    generalize loopW (bd E0 (ev E0) loopW H.length [0, 1, 5] L15b0) = K
    simp -implicitDefEqProofs [bd, L15b0, i64s, seqI, hd, -pack, pk, hid, hg]
  | cons y rest ih =>
    intro dn c h h0 h1
    rw [List.length_cons] at h h1
    have hd : dn.length < n := by omega
    have hih := ih (dn ++ [i64 c]) (c + 1) (by simp; omega) (by omega) (by omega)
    rw [List.length_append, List.length_singleton, cs1, List.append_assoc, List.singleton_append, List.append_assoc, List.singleton_append] at hih
    have hw : IntKind.i64.wrap ((dn.length : Int) + 1) = (dn.length : Int) + 1 := wr64 (by omega) (by omega)
    have hw2 : IntKind.i64.wrap (c + 1) = c + 1 := wr64 (by omega) (by omega)
    have hc : c + ((rest.length + 1 : Nat) : Int) = c + 1 + (rest.length : Int) := by omega
    have hsq : i64s (seqI c (rest.length + 1)) = i64 c :: i64s (seqI (c + 1) rest.length) := rfl
    have hget : (dn ++ i64 y :: i64s rest)[dn.length]? = some (i64 y) := app_get rfl
    have hset : (dn ++ i64 y :: i64s rest).set dn.length (i64 c) = dn ++ i64 c :: i64s rest := app_set rfl
    rw [List.length_cons, hc, hsq, i64s_cons, loopW_eq]
    generalize loopW (bd E0 (ev E0) loopW H.length [0, 1, 5] L15b0) = K at hih ⊢
    simpa -implicitDefEqProofs [bd, L15b0, hd, -pack, pk, hid, hg, hget, hset, hw, hw2] using hih
theorem set_same {H : Hp} {id : Nat} {b : Blk} (h : hget H id = some b) : H.set id (some b) = H := by
  have h1 := hget_some h
  obtain ⟨hi, h2⟩ := List.getElem?_eq_some_iff.1 h1
  rw [← h2]
  exact List.set_getElem_self hi
theorem stable_set {H : Hp} {id : Nat} {b : Blk} (hs : Stable H) (h : hget H id = some b) (hk : b.kd ≠ 0) (ty k kd : Nat) (ro : Bool) (hk2 : kd ≠ 0) : ∀ es, Stable (H.set id (some ⟨ty, k, kd, ro, es⟩)) := fun es => hs.set (hget_some h) hk hk2
/-- A row of numbers is marked. -/
theorem mark_ints (H : Hp) (id : Nat) (l : List Int) (c : Int) (h : hget H id = some ⟨3, 1, 1, false, i64s l⟩) (hs : Stable H) (hl : l.length ≤ 1099511627776) (h0 : 0 ≤ c) (h1 : c ≤ 1099511627776) :
    ev E0 15 [.sl id 0 l.length, i64 c] H = some (i64 (c + l.length), H.set id (some ⟨3, 1, 1, false, i64s (seqI c l.length)⟩)) := by
  have hid : id < H.length := (List.getElem?_eq_some_iff.1 (hget_some h)).1
  have hst := stable_set hs h (by simp) 3 1 1 false (by simp)
  have hl := markI_loop H id l.length hid hst (by omega) l [] c (by simp) h0 (by omega)
  rw [List.nil_append, List.nil_append, set_same h, List.length_nil, c0] at hl
  have hls : (H.set id (some (⟨3, 1, 1, false, i64s (seqI c l.length)⟩ : Blk))).length = H.length := List.length_set
  have pk : ∀ (s : List (Nat × AV)) (li : List Nat), (∀ q ∈ slotIds (keep s li), q < H.length) → pack H.length li ⟨s, H⟩ = some ⟨renS H.length [] (keep s li), H⟩ := fun s li h => pack_lo0 rfl hs h
  have pk2 : ∀ roots, (∀ q ∈ roots, q < H.length) → packH H.length (H.set id (some ⟨3, 1, 1, false, i64s (seqI c l.length)⟩)) roots = some ([], H.set id (some ⟨3, 1, 1, false, i64s (seqI c l.length)⟩)) := fun roots h => packH_lo0 hls (hst _) h
  rw [e15]
  unfold runF
  simp -implicitDefEqProofs [L15, hl, -pack, -packH, pk, pk2, hid]
theorem mark_nil (H : Hp) (c : Int) (hs : Stable H) : ev E0 15 [.v (.slice none 0 0), i64 c] H = some (i64 c, H) := by
  have pk : ∀ (s : List (Nat × AV)) (li : List Nat), (∀ q ∈ slotIds (keep s li), q < H.length) → pack H.length li ⟨s, H⟩ = some ⟨renS H.length [] (keep s li), H⟩ := fun s li h => pack_lo0 rfl hs h
  have pk2 : ∀ roots, (∀ q ∈ roots, q < H.length) → packH H.length H roots = some ([], H) := fun roots h => packH_lo0 rfl hs h
  rw [e15]
  unfold runF
  simp -implicitDefEqProofs [L15, -pack, -packH, pk, pk2]
  rw [loopW_eq]
  simp -implicitDefEqProofs [bd, L15b0, -pack, -packH, pk, pk2]
-- ---------------------------------------------------------------- texts
@[simp] theorem take_i64s (l : List Int) : List.take l.length (i64s l) = i64s l := List.take_of_length_le (by rw [i64s_len]; exact Nat.le_refl _)
@[simp] theorem take_seqI (c : Int) (n : Nat) : List.take n (i64s (seqI c n)) = i64s (seqI c n) := List.take_of_length_le (by rw [i64s_len, seqI_len]; exact Nat.le_refl _)
theorem stable_of {H : Hp} (h1 : (oldIds H).all (fun q => decide (q < H.length)) = true) (h2 : rnmH (newId H.length []) H = some H) : Stable H := ⟨fun q hq => by simpa using List.all_eq_true.1 h1 q hq, h2⟩
theorem mark_ints1 (H : Hp) (id : Nat) (l : List Int) (h : hget H id = some ⟨3, 1, 1, false, i64s l⟩) (s1 : (oldIds H).all (fun q => decide (q < H.length)) = true) (s2 : rnmH (newId H.length []) H = some H) (hl : l.length ≤ 1073741824) :
    ev E0 15 [.sl id 0 l.length, i64 1] H = some (i64 (1 + (l.length : Int)), H.set id (some ⟨3, 1, 1, false, i64s (seqI 1 l.length)⟩)) := mark_ints H id l 1 h (stable_of s1 s2) (by omega) (by omega) (by omega)
theorem mark_nil1 (H : Hp) (s1 : (oldIds H).all (fun q => decide (q < H.length)) = true) (s2 : rnmH (newId H.length []) H = some H) : ev E0 15 [.v (.slice none 0 0), i64 1] H = some (i64 1, H) := mark_nil H 1 (stable_of s1 s2)
theorem held_ints1 (n : Nat) (hn : n ≤ 1073741824) : ev E0 16 [.lst 1 (i64s (seqI 1 n)), i64 1] [] = some (i64 (1 + (n : Int)), []) := held_ints 1 n (by omega) (by omega)
theorem held_nil : ev E0 16 [.v (.slice none 0 0), i64 1] [] = some (i64 1, []) := by
  rw [e16]
  unfold runF
  simp -implicitDefEqProofs [L16]
  rw [loopW_eq]
  simp -implicitDefEqProofs [bd, L16b0]
theorem eq_nil : ev E0 12 [.v (.slice none 0 0), .lst 1 []] [] = some (bl true, []) := by
  rw [e12]
  unfold runF
  simp -implicitDefEqProofs [L12]
  rw [loopW_eq]
  simp -implicitDefEqProofs [bd, L12b0]
def seq_jobs : Int → Nat → List J
  | _, 0 => []
  | c, n + 1 => (c, c + 1, c + 2, c + 3) :: seq_jobs (c + 4) n
theorem mark_jobs_loop (H : Hp) (id n : Nat) (hid : id < H.length) (hst : ∀ es, Stable (H.set id (some ⟨46, 4, 1, false, es⟩))) (hn : n ≤ 1099511627776) : ∀ (rest : List J) (dn : List AV) (c : Int), dn.length + rest.length = n → 0 ≤ c → c + 4 * rest.length ≤ 281474976710656 →
    packX H.length [1] (loopW (bd E0 (ev E0) loopW H.length [0, 1, 5] L14b0) ⟨[(0, .sl id 0 n), (1, i64 c), (5, i64 dn.length)], H.set id (some ⟨46, 4, 1, false, dn ++ rest.map jb⟩)⟩) = some (.ext 0, ⟨[(1, i64 (c + 4 * rest.length))], H.set id (some ⟨46, 4, 1, false, dn ++ (seq_jobs c rest.length).map jb⟩)⟩) := by
  intro rest
  have hls : ∀ es, (H.set id (some (⟨46, 4, 1, false, es⟩ : Blk))).length = H.length := fun es => List.length_set
  have pk : ∀ (s : List (Nat × AV)) (li : List Nat) (es : List AV), (∀ q ∈ slotIds (keep s li), q < H.length) → pack H.length li ⟨s, H.set id (some ⟨46, 4, 1, false, es⟩)⟩ = some ⟨renS H.length [] (keep s li), H.set id (some ⟨46, 4, 1, false, es⟩)⟩ := fun s li es h => pack_lo0 (hls es) (hst es) h
  have hg : ∀ es, (H.set id (some (⟨46, 4, 1, false, es⟩ : Blk)))[id]? = some (some ⟨46, 4, 1, false, es⟩) := fun es => List.getElem?_set_self hid
  induction rest with
  | nil =>
    intro dn c h _ _
    have hd : ¬ dn.length < n := by simp at h; omega
    rw [loopW_eq]
    generalize loopW (bd E0 (ev E0) loopW H.length [0, 1, 5] L14b0) = K
    simp -implicitDefEqProofs [bd, L14b0, seq_jobs, hd, -pack, pk, hid, hg]
  | cons y rest ih =>
    intro dn c h h0 h1
    rw [List.length_cons] at h h1
    have hd : dn.length < n := by omega
    have hih := ih (dn ++ [jb (c, c + 1, c + 2, c + 3)]) (c + 4) (by simp; omega) (by omega) (by omega)
    rw [List.length_append, List.length_singleton, cs1, List.append_assoc, List.singleton_append, List.append_assoc, List.singleton_append] at hih
    have hw : IntKind.i64.wrap ((dn.length : Int) + 1) = (dn.length : Int) + 1 := wr64 (by omega) (by omega)
    have w1 : IntKind.i64.wrap (c + 1) = c + 1 := wr64 (by omega) (by omega)
    have w2 : IntKind.i64.wrap (c + 2) = c + 2 := wr64 (by omega) (by omega)
    have w3 : IntKind.i64.wrap (c + 3) = c + 3 := wr64 (by omega) (by omega)
    have w4 : IntKind.i64.wrap (c + 4) = c + 4 := wr64 (by omega) (by omega)
    have v1 : IntKind.i64.wrap (c + 1 + 1) = c + 2 := by rw [show c + 1 + 1 = c + 2 by omega]; exact w2
    have v2 : IntKind.i64.wrap (c + 2 + 1) = c + 3 := by rw [show c + 2 + 1 = c + 3 by omega]; exact w3
    have v3 : IntKind.i64.wrap (c + 3 + 1) = c + 4 := by rw [show c + 3 + 1 = c + 4 by omega]; exact w4
    have hc : c + 4 * ((rest.length + 1 : Nat) : Int) = c + 4 + 4 * (rest.length : Int) := by omega
    have hsq : (seq_jobs c (rest.length + 1)).map jb = jb (c, c + 1, c + 2, c + 3) :: (seq_jobs (c + 4) rest.length).map jb := rfl
    have hget : ∀ (v : AV) (r : List AV), (dn ++ v :: r)[dn.length]? = some v := fun v r => app_get rfl
    have hset : ∀ (v w : AV) (r : List AV), (dn ++ v :: r).set dn.length w = dn ++ w :: r := fun v w r => app_set rfl
    rw [List.length_cons, hc, hsq, List.map_cons, loopW_eq]
    generalize loopW (bd E0 (ev E0) loopW H.length [0, 1, 5] L14b0) = K at hih ⊢
    have hy : jb y = .agg [i64 y.1, i64 y.2.1, i64 y.2.2.1, i64 y.2.2.2] := rfl
    have ht : jb (c, c + 1, c + 2, c + 3) = .agg [i64 (c), i64 (c + 1), i64 (c + 2), i64 (c + 3)] := rfl
    rw [ht] at hih ⊢
    rw [hy]
    generalize rest.map jb = r1 at *
    generalize (seq_jobs (c + 4) rest.length).map jb = r2 at *
    simpa (maxSteps := 1000000) -implicitDefEqProofs [bd, L14b0, hd, -pack, pk, hid, hg, hget, hset, hw, w1, w2, w3, w4, v1, v2, v3] using hih
theorem mark_jobs (H : Hp) (id : Nat) (l : List J) (c : Int) (h : hget H id = some ⟨46, 4, 1, false, l.map jb⟩) (hs : Stable H) (hl : l.length ≤ 1099511627776) (h0 : 0 ≤ c) (h1 : c ≤ 10995116277760) :
    ev E0 14 [.sl id 0 l.length, i64 c] H = some (i64 (c + 4 * l.length), H.set id (some ⟨46, 4, 1, false, (seq_jobs c l.length).map jb⟩)) := by
  have hid : id < H.length := (List.getElem?_eq_some_iff.1 (hget_some h)).1
  have hst := stable_set hs h (by simp) 46 4 1 false (by simp)
  have hl := mark_jobs_loop H id l.length hid hst (by omega) l [] c (by simp) h0 (by omega)
  rw [List.nil_append, List.nil_append, set_same h, List.length_nil, c0] at hl
  have hls : (H.set id (some (⟨46, 4, 1, false, (seq_jobs c l.length).map jb⟩ : Blk))).length = H.length := List.length_set
  have pk : ∀ (s : List (Nat × AV)) (li : List Nat), (∀ q ∈ slotIds (keep s li), q < H.length) → pack H.length li ⟨s, H⟩ = some ⟨renS H.length [] (keep s li), H⟩ := fun s li h => pack_lo0 rfl hs h
  have pk2 : ∀ roots, (∀ q ∈ roots, q < H.length) → packH H.length (H.set id (some ⟨46, 4, 1, false, (seq_jobs c l.length).map jb⟩)) roots = some ([], H.set id (some ⟨46, 4, 1, false, (seq_jobs c l.length).map jb⟩)) := fun roots h => packH_lo0 hls (hst _) h
  generalize (seq_jobs c l.length).map jb = r at *
  rw [e14]
  unfold runF
  simp -implicitDefEqProofs [L14, hl, -pack, -packH, pk, pk2, hid]
theorem mark_jobs1 (H : Hp) (id : Nat) (l : List J) (c : Int) (h : hget H id = some ⟨46, 4, 1, false, l.map jb⟩) (s1 : (oldIds H).all (fun q => decide (q < H.length)) = true) (s2 : rnmH (newId H.length []) H = some H) (hl : l.length ≤ 1099511627776) (h0 : 0 ≤ c) (h1 : c ≤ 10995116277760) :
    ev E0 14 [.sl id 0 l.length, i64 c] H = some (i64 (c + 4 * l.length), H.set id (some ⟨46, 4, 1, false, (seq_jobs c l.length).map jb⟩)) := mark_jobs H id l c h (stable_of s1 s2) hl h0 h1
def seq_hops : Int → Nat → List Hh
  | _, 0 => []
  | c, n + 1 => (c, c + 1, c + 2) :: seq_hops (c + 3) n
theorem mark_hops_loop (H : Hp) (id n : Nat) (hid : id < H.length) (hst : ∀ es, Stable (H.set id (some ⟨61, 3, 1, false, es⟩))) (hn : n ≤ 1099511627776) : ∀ (rest : List Hh) (dn : List AV) (c : Int), dn.length + rest.length = n → 0 ≤ c → c + 3 * rest.length ≤ 281474976710656 →
    packX H.length [1] (loopW (bd E0 (ev E0) loopW H.length [0, 1, 5] L21b0) ⟨[(0, .sl id 0 n), (1, i64 c), (5, i64 dn.length)], H.set id (some ⟨61, 3, 1, false, dn ++ rest.map hp⟩)⟩) = some (.ext 0, ⟨[(1, i64 (c + 3 * rest.length))], H.set id (some ⟨61, 3, 1, false, dn ++ (seq_hops c rest.length).map hp⟩)⟩) := by
  intro rest
  have hls : ∀ es, (H.set id (some (⟨61, 3, 1, false, es⟩ : Blk))).length = H.length := fun es => List.length_set
  have pk : ∀ (s : List (Nat × AV)) (li : List Nat) (es : List AV), (∀ q ∈ slotIds (keep s li), q < H.length) → pack H.length li ⟨s, H.set id (some ⟨61, 3, 1, false, es⟩)⟩ = some ⟨renS H.length [] (keep s li), H.set id (some ⟨61, 3, 1, false, es⟩)⟩ := fun s li es h => pack_lo0 (hls es) (hst es) h
  have hg : ∀ es, (H.set id (some (⟨61, 3, 1, false, es⟩ : Blk)))[id]? = some (some ⟨61, 3, 1, false, es⟩) := fun es => List.getElem?_set_self hid
  induction rest with
  | nil =>
    intro dn c h _ _
    have hd : ¬ dn.length < n := by simp at h; omega
    rw [loopW_eq]
    generalize loopW (bd E0 (ev E0) loopW H.length [0, 1, 5] L21b0) = K
    simp -implicitDefEqProofs [bd, L21b0, seq_hops, hd, -pack, pk, hid, hg]
  | cons y rest ih =>
    intro dn c h h0 h1
    rw [List.length_cons] at h h1
    have hd : dn.length < n := by omega
    have hih := ih (dn ++ [hp (c, c + 1, c + 2)]) (c + 3) (by simp; omega) (by omega) (by omega)
    rw [List.length_append, List.length_singleton, cs1, List.append_assoc, List.singleton_append, List.append_assoc, List.singleton_append] at hih
    have hw : IntKind.i64.wrap ((dn.length : Int) + 1) = (dn.length : Int) + 1 := wr64 (by omega) (by omega)
    have w1 : IntKind.i64.wrap (c + 1) = c + 1 := wr64 (by omega) (by omega)
    have w2 : IntKind.i64.wrap (c + 2) = c + 2 := wr64 (by omega) (by omega)
    have w3 : IntKind.i64.wrap (c + 3) = c + 3 := wr64 (by omega) (by omega)
    have v1 : IntKind.i64.wrap (c + 1 + 1) = c + 2 := by rw [show c + 1 + 1 = c + 2 by omega]; exact w2
    have v2 : IntKind.i64.wrap (c + 2 + 1) = c + 3 := by rw [show c + 2 + 1 = c + 3 by omega]; exact w3
    have hc : c + 3 * ((rest.length + 1 : Nat) : Int) = c + 3 + 3 * (rest.length : Int) := by omega
    have hsq : (seq_hops c (rest.length + 1)).map hp = hp (c, c + 1, c + 2) :: (seq_hops (c + 3) rest.length).map hp := rfl
    have hget : ∀ (v : AV) (r : List AV), (dn ++ v :: r)[dn.length]? = some v := fun v r => app_get rfl
    have hset : ∀ (v w : AV) (r : List AV), (dn ++ v :: r).set dn.length w = dn ++ w :: r := fun v w r => app_set rfl
    rw [List.length_cons, hc, hsq, List.map_cons, loopW_eq]
    generalize loopW (bd E0 (ev E0) loopW H.length [0, 1, 5] L21b0) = K at hih ⊢
    have hy : hp y = .agg [i64 y.1, i64 y.2.1, i64 y.2.2] := rfl
    have ht : hp (c, c + 1, c + 2) = .agg [i64 (c), i64 (c + 1), i64 (c + 2)] := rfl
    rw [ht] at hih ⊢
    rw [hy]
    generalize rest.map hp = r1 at *
    generalize (seq_hops (c + 3) rest.length).map hp = r2 at *
    simpa (maxSteps := 1000000) -implicitDefEqProofs [bd, L21b0, hd, -pack, pk, hid, hg, hget, hset, hw, w1, w2, w3, v1, v2] using hih
theorem mark_hops (H : Hp) (id : Nat) (l : List Hh) (c : Int) (h : hget H id = some ⟨61, 3, 1, false, l.map hp⟩) (hs : Stable H) (hl : l.length ≤ 1099511627776) (h0 : 0 ≤ c) (h1 : c ≤ 10995116277760) :
    ev E0 21 [.sl id 0 l.length, i64 c] H = some (i64 (c + 3 * l.length), H.set id (some ⟨61, 3, 1, false, (seq_hops c l.length).map hp⟩)) := by
  have hid : id < H.length := (List.getElem?_eq_some_iff.1 (hget_some h)).1
  have hst := stable_set hs h (by simp) 61 3 1 false (by simp)
  have hl := mark_hops_loop H id l.length hid hst (by omega) l [] c (by simp) h0 (by omega)
  rw [List.nil_append, List.nil_append, set_same h, List.length_nil, c0] at hl
  have hls : (H.set id (some (⟨61, 3, 1, false, (seq_hops c l.length).map hp⟩ : Blk))).length = H.length := List.length_set
  have pk : ∀ (s : List (Nat × AV)) (li : List Nat), (∀ q ∈ slotIds (keep s li), q < H.length) → pack H.length li ⟨s, H⟩ = some ⟨renS H.length [] (keep s li), H⟩ := fun s li h => pack_lo0 rfl hs h
  have pk2 : ∀ roots, (∀ q ∈ roots, q < H.length) → packH H.length (H.set id (some ⟨61, 3, 1, false, (seq_hops c l.length).map hp⟩)) roots = some ([], H.set id (some ⟨61, 3, 1, false, (seq_hops c l.length).map hp⟩)) := fun roots h => packH_lo0 hls (hst _) h
  generalize (seq_hops c l.length).map hp = r at *
  rw [e21]
  unfold runF
  simp -implicitDefEqProofs [L21, hl, -pack, -packH, pk, pk2, hid]
theorem mark_hops1 (H : Hp) (id : Nat) (l : List Hh) (c : Int) (h : hget H id = some ⟨61, 3, 1, false, l.map hp⟩) (s1 : (oldIds H).all (fun q => decide (q < H.length)) = true) (s2 : rnmH (newId H.length []) H = some H) (hl : l.length ≤ 1099511627776) (h0 : 0 ≤ c) (h1 : c ≤ 10995116277760) :
    ev E0 21 [.sl id 0 l.length, i64 c] H = some (i64 (c + 3 * l.length), H.set id (some ⟨61, 3, 1, false, (seq_hops c l.length).map hp⟩)) := mark_hops H id l c h (stable_of s1 s2) hl h0 h1
end Go.Proofs.Ytlmjoimjdpfamaa.Ev.Mk
