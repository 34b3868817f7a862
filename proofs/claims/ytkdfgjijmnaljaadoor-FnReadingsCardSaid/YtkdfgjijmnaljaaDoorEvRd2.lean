/- How many readings: marks that stand at a place, the ways of the program and of the reference. -/
import Derived.Test.YtkdfgjijmnaljaaDoorEvTab
import Derived.Test.YtkdfgjijmnaljaaDoorEvRd
set_option linter.unusedVariables false
set_option linter.unusedSimpArgs false
namespace Go.Proofs.YtkdfgjijmnaljaaDoor.Ev
theorem B_eq {a b : ByteArray} (h : B a = B b) : a = b := by
  obtain ⟨⟨x⟩⟩ := a
  obtain ⟨⟨y⟩⟩ := b
  simp only [B] at h
  rw [h]
theorem B_ext (s : ByteArray) (i j : Nat) : B (s.extract i j) = ((B s).take j).drop i := by
  unfold B
  rw [ByteArray.data_extract, Array.toList_extract, List.extract_eq_take_drop, List.drop_take]
theorem pre_eq (m l : ByteArray) (i : Nat) (h : i + m.size ≤ l.size) : Rd.pre (B m) ((B l).drop i) = decide (l.extract i (i + m.size) = m) := by
  rw [Bool.eq_iff_iff, decide_eq_true_eq, Rd.pre_iff]
  have hm := B_len m
  constructor
  · intro e
    refine B_eq ?_
    rw [B_ext, List.drop_take, show i + m.size - i = (B m).length by omega, e, List.take_left]
  · intro e
    have e2 := congrArg B e
    rw [B_ext, List.drop_take, show i + m.size - i = m.size by omega] at e2
    conv => lhs; rw [← List.take_append_drop m.size ((B l).drop i)]
    rw [e2, hm]
theorem has_i (a m : ByteArray) (ha : a.size ≤ 140737488355328) (hm : m.size ≤ 140737488355328) : ev E0 38 [st a, st m] [] = some (bl (Rd.pre (B m) (B a)), []) := by
  have hz : ev E0 64 [st a, st m] [] = some (bl (Rd.pre (B m) (B a)), []) := by
    by_cases h : m.size ≤ a.size
    · have hp := pre_eq m a 0 (by omega)
      rw [List.drop_zero, Nat.zero_add] at hp
      have h1 : (m.size : Int) ≤ (a.size : Int) := by omega
      rw [hp, e64]
      unfold runF
      simp -implicitDefEqProofs [L64, h, h1]
    · have hp : Rd.pre (B m) (B a) = false := by
        rw [Bool.eq_false_iff]
        intro e
        have := Rd.pre_len e
        rw [B_len, B_len] at this
        exact h this
      have h1 : ¬ (m.size : Int) ≤ (a.size : Int) := by omega
      rw [hp, e64]
      unfold runF
      simp -implicitDefEqProofs [L64, h, h1]
  rw [e38]
  unfold runF
  simp -implicitDefEqProofs [L38, hz]
theorem stands_s (s m : ByteArray) (at_ : Nat) (hs : s.size ≤ 1000000) (hm : m.size ≤ 1000000) (h : at_ ≤ s.size) : ev E0 48 [st s, st m, i64 at_] [] = some (bl (Rd.pre (B m) ((B s).drop at_)), []) := by
  have hw : IntKind.i64.wrap ((at_ : Int) + (m.size : Int)) = ((at_ + m.size : Nat) : Int) := by rw [wr64 (by omega) (by omega)]; omega
  by_cases h1 : at_ + m.size ≤ s.size
  · have hp := pre_eq m s at_ h1
    have h2 : ((at_ + m.size : Nat) : Int) ≤ (s.size : Int) := by omega
    rw [hp, e48]
    unfold runF
    simp -implicitDefEqProofs [L48, hw, h1, h2, -Int.natCast_add]
  · have hp : Rd.pre (B m) ((B s).drop at_) = false := by
      rw [Bool.eq_false_iff]
      intro e
      have := Rd.pre_len e
      rw [List.length_drop, B_len, B_len] at this
      omega
    have h2 : ¬ ((at_ + m.size : Nat) : Int) ≤ (s.size : Int) := by omega
    rw [hp, e48]
    unfold runF
    simp -implicitDefEqProofs [L48, hw, h1, h2, -Int.natCast_add]
/-- Numbers in a row. -/
def ns (l : List Nat) : List AV := l.map fun x : Nat => i64 (x : Int)
def ib (l : List Nat) : Blk := ⟨3, 1, 1, false, ns l⟩
def tb (ms : List ByteArray) : Blk := ⟨26, 1, 0, false, [.agg [.lst 1 (ms.map st)]]⟩
def arr (k acc : Nat) (vs : List Nat) : List Nat := List.replicate k 0 ++ acc :: vs
theorem ns_len (l : List Nat) : (ns l).length = l.length := by simp [ns]
theorem arr_len (k acc : Nat) (vs : List Nat) : (arr k acc vs).length = k + vs.length + 1 := by simp [arr]; omega
theorem arr_at (k acc : Nat) (vs : List Nat) : (ns (arr k acc vs))[k]? = some (i64 (acc : Int)) := by
  unfold ns arr
  rw [List.getElem?_map, List.getElem?_append_right (by simp)]
  simp
theorem arr_past (k acc : Nat) (vs : List Nat) (j : Nat) (h1 : 1 ≤ j) (h2 : j ≤ vs.length) : (ns (arr k acc vs))[k + j]? = some (i64 ((vs.getD (j - 1) 0 : Nat) : Int)) := by
  unfold ns arr
  rw [List.getElem?_map, List.getElem?_append_right (by simp), List.length_replicate, Nat.add_sub_cancel_left]
  obtain ⟨i, rfl⟩ : ∃ i, j = i + 1 := ⟨j - 1, by omega⟩
  rw [List.getElem?_cons_succ, Nat.add_sub_cancel, List.getD_eq_getElem?_getD, List.getElem?_eq_getElem (by omega)]
  rfl
theorem arr_set (k acc acc' : Nat) (vs : List Nat) : (ns (arr k acc vs)).set k (i64 (acc' : Int)) = ns (arr k acc' vs) := by
  unfold ns arr
  rw [← List.map_set, List.set_append_right _ _ (by simp)]
  simp
/-- What a letter adds. -/
def tm (s : ByteArray) (k : Nat) (vs : List Nat) (m : ByteArray) : Nat := if Rd.pre (B m) ((B s).drop k) then vs.getD (m.size - 1) 0 else 0
theorem waysI_loop (s : ByteArray) (hs : s.size ≤ 1000) (ms : List ByteArray) (hm : ms.length ≤ 1000) (hz : ∀ m ∈ ms, 1 ≤ m.size ∧ m.size ≤ 1000) (k : Nat) (hk : k < s.size) (vs : List Nat) (hv : k + vs.length = s.size) : ∀ (t : List ByteArray) (j acc : Nat), ms.drop j = t → acc + Rd.sm (tm s k vs) t ≤ 1099511627776 →
    packX 0 [1, 2, 5, 6] (loopW (bd E0 (ev E0) loopW 0 [1, 2, 5, 6, 25, 26, 27] L36b0) ⟨[(1, st s), (2, .ptr 0 0 0), (5, .sl 1 0 (s.size + 1)), (6, i64 k), (25, .lst 1 (ms.map st)), (26, i64 ms.length), (27, i64 j)], [some (tb ms), some (ib (arr k acc vs))]⟩) =
      some (.ext 2, ⟨[(1, st s), (2, .ptr 0 0 0), (5, .sl 1 0 (s.size + 1)), (6, i64 k)], [some (tb ms), some (ib (arr k (acc + Rd.sm (tm s k vs) t) vs))]⟩) := by
  unfold tb ib
  intro t
  induction t with
  | nil =>
    intro j acc hj hb
    have hi := not_drop hj
    rw [loopW_eq]
    generalize loopW (bd E0 (ev E0) loopW 0 [1, 2, 5, 6, 25, 26, 27] L36b0) = K
    simp -implicitDefEqProofs [bd, L36b0, hi, Rd.sm]
  | cons m t ih =>
    intro j acc hj hb
    obtain ⟨hi, hx, hd, hmem⟩ := at_drop hj
    obtain ⟨hm1, hm2⟩ := hz m hmem
    rw [Rd.sm] at hb
    have hih := ih (j + 1) (acc + tm s k vs m) hd (by omega)
    have hw : IntKind.i64.wrap ((j : Int) + 1) = (j : Int) + 1 := wr64 (by omega) (by omega)
    rw [cs1] at hih
    have hks : (k : Int) ≤ (s.size : Int) := by omega
    have hp := has_i (s.extract k s.size) m (by rw [ByteArray.size_extract]; omega) (by omega)
    have hBs : B (s.extract k s.size) = (B s).drop k := by rw [B_ext, ← B_len, List.take_length]
    rw [hBs] at hp
    have e1 : acc + Rd.sm (tm s k vs) (m :: t) = acc + tm s k vs m + Rd.sm (tm s k vs) t := by rw [Rd.sm]; omega
    rw [e1, loopW_eq]
    generalize loopW (bd E0 (ev E0) loopW 0 [1, 2, 5, 6, 25, 26, 27] L36b0) = K at hih ⊢
    have hx2 : (ms.map st)[j]? = some (st m) := by rw [List.getElem?_map, List.getElem?_eq_getElem hi, hx]; rfl
    by_cases h : Rd.pre (B m) ((B s).drop k) = true
    · rw [h] at hp
      have hle := Rd.pre_len h
      rw [List.length_drop, B_len, B_len] at hle
      have ht : tm s k vs m = vs.getD (m.size - 1) 0 := by unfold tm; rw [if_pos h]
      rw [ht] at hih hb ⊢
      have g1 := arr_at k acc vs
      have g2 := arr_past k acc vs m.size hm1 (by omega)
      have g3 := arr_set k acc (acc + vs.getD (m.size - 1) 0) vs
      have hl := arr_len k acc vs
      have hl2 := ns_len (arr k acc vs)
      generalize vs.getD (m.size - 1) 0 = y at *
      have w1 : IntKind.i64.wrap ((k : Int) + (m.size : Int)) = ((k + m.size : Nat) : Int) := by rw [wr64 (by omega) (by omega)]; omega
      have w2 : IntKind.i64.wrap ((acc : Int) + (y : Int)) = ((acc + y : Nat) : Int) := by rw [wr64 (by omega) (by omega)]; omega
      have q1 : k < s.size + 1 := by omega
      have q2 : k + m.size < s.size + 1 := by omega
      have q3 : (k : Int) < (s.size : Int) + 1 := by omega
      have q4 : ((k + m.size : Nat) : Int) < (s.size : Int) + 1 := by omega
      have g4 : ∀ h, (ns (arr k acc vs))[k]'h = i64 (acc : Int) := fun h => (List.getElem?_eq_some_iff.1 g1).2
      have g5 : ∀ h, (ns (arr k acc vs))[k + m.size]'h = i64 (y : Int) := fun h => (List.getElem?_eq_some_iff.1 g2).2
      simpa -implicitDefEqProofs [bd, L36b0, hi, hx, hx2, hks, hp, hw, w1, w2, q1, q2, q3, q4, g1, g2, g3, g4, g5, hl, hl2, -Int.natCast_add] using hih
    · have h' : Rd.pre (B m) ((B s).drop k) = false := by simpa using h
      rw [h'] at hp
      have ht : tm s k vs m = 0 := by unfold tm; rw [if_neg h]
      rw [ht, Nat.add_zero] at hih
      rw [ht, Nat.add_zero]
      simpa -implicitDefEqProofs [bd, L36b0, hi, hx, hx2, hks, hp, hw] using hih
theorem waysS_loop (s : ByteArray) (hs : s.size ≤ 1000) (ms : List ByteArray) (hm : ms.length ≤ 1000) (hz : ∀ m ∈ ms, 1 ≤ m.size ∧ m.size ≤ 1000) (k : Nat) (hk : k < s.size) (vs : List Nat) (hv : k + vs.length = s.size) : ∀ (t : List ByteArray) (j acc : Nat), ms.drop j = t → acc + Rd.sm (tm s k vs) t ≤ 1099511627776 →
    packX 0 [1, 2, 5, 6] (loopW (bd E0 (ev E0) loopW 0 [1, 2, 5, 6, 7] L46b0) ⟨[(1, st s), (2, .ptr 0 0 0), (5, .sl 1 0 (s.size + 1)), (6, i64 k), (7, i64 j)], [some (tb ms), some (ib (arr k acc vs))]⟩) =
      some (.ext 2, ⟨[(1, st s), (2, .ptr 0 0 0), (5, .sl 1 0 (s.size + 1)), (6, i64 k)], [some (tb ms), some (ib (arr k (acc + Rd.sm (tm s k vs) t) vs))]⟩) := by
  unfold tb ib
  intro t
  induction t with
  | nil =>
    intro j acc hj hb
    have hi := not_drop hj
    rw [loopW_eq]
    generalize loopW (bd E0 (ev E0) loopW 0 [1, 2, 5, 6, 7] L46b0) = K
    simp -implicitDefEqProofs [bd, L46b0, hi, Rd.sm]
  | cons m t ih =>
    intro j acc hj hb
    obtain ⟨hi, hx, hd, hmem⟩ := at_drop hj
    obtain ⟨hm1, hm2⟩ := hz m hmem
    rw [Rd.sm] at hb
    have hih := ih (j + 1) (acc + tm s k vs m) hd (by omega)
    have hw : IntKind.i64.wrap ((j : Int) + 1) = (j : Int) + 1 := wr64 (by omega) (by omega)
    rw [cs1] at hih
    have hp := stands_s s m k (by omega) (by omega) (by omega)
    have e1 : acc + Rd.sm (tm s k vs) (m :: t) = acc + tm s k vs m + Rd.sm (tm s k vs) t := by rw [Rd.sm]; omega
    rw [e1, loopW_eq]
    generalize loopW (bd E0 (ev E0) loopW 0 [1, 2, 5, 6, 7] L46b0) = K at hih ⊢
    have hx2 : (ms.map st)[j]? = some (st m) := by rw [List.getElem?_map, List.getElem?_eq_getElem hi, hx]; rfl
    by_cases h : Rd.pre (B m) ((B s).drop k) = true
    · rw [h] at hp
      have hle := Rd.pre_len h
      rw [List.length_drop, B_len, B_len] at hle
      have ht : tm s k vs m = vs.getD (m.size - 1) 0 := by unfold tm; rw [if_pos h]
      rw [ht] at hih hb ⊢
      have g1 := arr_at k acc vs
      have g2 := arr_past k acc vs m.size hm1 (by omega)
      have g3 := arr_set k acc (acc + vs.getD (m.size - 1) 0) vs
      have hl := arr_len k acc vs
      have hl2 := ns_len (arr k acc vs)
      generalize vs.getD (m.size - 1) 0 = y at *
      have w1 : IntKind.i64.wrap ((k : Int) + (m.size : Int)) = ((k + m.size : Nat) : Int) := by rw [wr64 (by omega) (by omega)]; omega
      have w2 : IntKind.i64.wrap ((acc : Int) + (y : Int)) = ((acc + y : Nat) : Int) := by rw [wr64 (by omega) (by omega)]; omega
      have q1 : k < s.size + 1 := by omega
      have q2 : k + m.size < s.size + 1 := by omega
      have q3 : (k : Int) < (s.size : Int) + 1 := by omega
      have q4 : ((k + m.size : Nat) : Int) < (s.size : Int) + 1 := by omega
      have g4 : ∀ h, (ns (arr k acc vs))[k]'h = i64 (acc : Int) := fun h => (List.getElem?_eq_some_iff.1 g1).2
      have g5 : ∀ h, (ns (arr k acc vs))[k + m.size]'h = i64 (y : Int) := fun h => (List.getElem?_eq_some_iff.1 g2).2
      simpa -implicitDefEqProofs [bd, L46b0, hi, hx, hx2, hp, hw, w1, w2, q1, q2, q3, q4, g1, g2, g3, g4, g5, hl, hl2, -Int.natCast_add] using hih
    · have h' : Rd.pre (B m) ((B s).drop k) = false := by simpa using h
      rw [h'] at hp
      have ht : tm s k vs m = 0 := by unfold tm; rw [if_neg h]
      rw [ht, Nat.add_zero] at hih
      rw [ht, Nat.add_zero]
      simpa -implicitDefEqProofs [bd, L46b0, hi, hx, hx2, hp, hw] using hih
/-- A table whose marks serve. -/
structure VT (ms : List ByteArray) : Prop where
  len : ms.length ≤ 10
  sz : ∀ m ∈ ms, 1 ≤ m.size ∧ m.size ≤ 5
  ne : [] ∉ ms.map B
  nd : (ms.map B).Nodup
theorem sm_map (f : List UInt8 → Nat) : ∀ ms : List ByteArray, Rd.sm f (ms.map B) = Rd.sm (fun m => f (B m)) ms
  | [] => rfl
  | m :: ms => by rw [List.map_cons, Rd.sm, Rd.sm, sm_map f ms]
theorem vals_at (ms : List ByteArray) (s : ByteArray) (k : Nat) (hk : k < s.size) : Rd.vals (ms.map B) ((B s).drop k) = Rd.sm (tm s k (Rd.vals (ms.map B) ((B s).drop (k + 1)))) ms :: Rd.vals (ms.map B) ((B s).drop (k + 1)) := by
  have h : k < (B s).length := by rw [B_len]; exact hk
  rw [List.drop_eq_getElem_cons h, Rd.vals, sm_map]
  congr 1
  refine Rd.sm_congr fun m hm => ?_
  unfold tm
  rw [List.drop_eq_getElem_cons h, B_len]
theorem wy_bound {ms : List ByteArray} (hv : VT ms) (l : List UInt8) (hl : l.length ≤ 40) : Rd.wy (ms.map B) l ≤ 1099511627776 := by
  have h1 := Rd.wy_le hv.ne hv.nd l.length l (Nat.le_refl _)
  have h2 : 2 ^ l.length ≤ 2 ^ 40 := Nat.pow_le_pow_right (by decide) hl
  omega
theorem sm_bound {ms : List ByteArray} (hv : VT ms) (s : ByteArray) (hs : s.size ≤ 40) (k : Nat) (hk : k < s.size) : Rd.sm (tm s k (Rd.vals (ms.map B) ((B s).drop (k + 1)))) ms ≤ 1099511627776 := by
  have h := wy_bound hv ((B s).drop k) (by rw [List.length_drop, B_len]; omega)
  unfold Rd.wy at h
  rw [vals_at ms s k hk] at h
  exact h
theorem rep_one (k : Nat) (vs : List Nat) : List.replicate (k + 1) 0 ++ vs = arr k 0 vs := by
  unfold arr
  rw [List.replicate_succ', List.append_assoc]
  rfl
theorem waysI_outer (s : ByteArray) (hs : s.size ≤ 40) (ms : List ByteArray) (hv : VT ms) : ∀ k : Nat, k ≤ s.size →
    packX 0 [5] (loopW (bd E0 (ev E0) loopW 0 [1, 2, 5, 6] L36b1) ⟨[(1, st s), (2, .ptr 0 0 0), (5, .sl 1 0 (s.size + 1)), (6, i64 ((k : Int) - 1))], [some (tb ms), some (ib (List.replicate k 0 ++ Rd.vals (ms.map B) ((B s).drop k)))]⟩) =
      some (.ext 0, ⟨[(5, .sl 0 0 (s.size + 1))], [some (ib (Rd.vals (ms.map B) (B s)))]⟩) := by
  intro k
  induction k with
  | zero =>
    intro _
    rw [loopW_eq]
    generalize loopW (bd E0 (ev E0) loopW 0 [1, 2, 5, 6] L36b1) = K
    unfold bd
    simp -implicitDefEqProofs [L36b1, ib, tb]
  | succ k ih =>
    intro hk
    have hih := ih (by omega)
    have hvl : k + (Rd.vals (ms.map B) ((B s).drop (k + 1))).length = s.size := by rw [Rd.vals_len, List.length_drop, B_len]; omega
    have hin := waysI_loop s (by omega) ms (by have := hv.len; omega) (fun m hm => by have := hv.sz m hm; omega) k (by omega) _ hvl ms 0 0 rfl (by have := sm_bound hv s hs k (by omega); omega)
    rw [Nat.zero_add, c0] at hin
    have he : arr k (Rd.sm (tm s k (Rd.vals (ms.map B) ((B s).drop (k + 1)))) ms) (Rd.vals (ms.map B) ((B s).drop (k + 1))) = List.replicate k 0 ++ Rd.vals (ms.map B) ((B s).drop k) := by
      rw [vals_at ms s k (by omega)]
      rfl
    rw [he] at hin
    rw [rep_one, show (((k + 1 : Nat) : Int) - 1) = (k : Int) by omega, loopW_eq]
    generalize arr k 0 (Rd.vals (ms.map B) ((B s).drop (k + 1))) = A at *
    generalize List.replicate k 0 ++ Rd.vals (ms.map B) ((B s).drop k) = A2 at *
    have hw : IntKind.i64.wrap ((k : Int) - 1) = (k : Int) - 1 := wr64 (by omega) (by omega)
    have hk0 : (0 : Int) ≤ (k : Int) := by omega
    generalize loopW (bd E0 (ev E0) loopW 0 [1, 2, 5, 6] L36b1) = K at hih ⊢
    unfold bd
    simp only [ib, tb] at hin hih ⊢
    simpa -implicitDefEqProofs [L36b1, hin, hw, hk0] using hih
theorem ways_i (s : ByteArray) (hs : s.size ≤ 40) (ms : List ByteArray) (hv : VT ms) : ev E0 36 [.agg [.lst 1 (ms.map st)], st s] [] = some (.sl 0 0 (s.size + 1), [some (ib (Rd.vals (ms.map B) (B s)))]) := by
  have ho := waysI_outer s hs ms hv s.size (Nat.le_refl _)
  have hd : (B s).drop s.size = [] := List.drop_of_length_le (by rw [B_len]; exact Nat.le_refl _)
  rw [hd, show Rd.vals (ms.map B) [] = [1] from rfl] at ho
  have w1 : IntKind.i64.wrap ((s.size : Int) + 1) = ((s.size + 1 : Nat) : Int) := by rw [wr64 (by omega) (by omega)]; omega
  have w2 : IntKind.i64.wrap ((s.size : Int) - 1) = (s.size : Int) - 1 := wr64 (by omega) (by omega)
  have hset : (List.replicate (s.size + 1) (i64 0)).set s.size (i64 1) = ns (List.replicate s.size 0 ++ [1]) := by
    unfold ns
    rw [List.replicate_succ', List.set_append_right _ _ (by simp), List.map_append, List.map_replicate]
    simp
  have q1 : ((s.size + 1 : Nat) : Int) * 8 ≤ 140737488355328 := by omega
  have q2 : ((s.size + 1 : Nat) : Int) ≤ 140737488355328 := by omega
  have q3 : (0 : Int) ≤ ((s.size + 1 : Nat) : Int) := by omega
  rw [e36]
  unfold runF
  simp only [ib, tb] at ho ⊢
  simp -implicitDefEqProofs [L36, w1, w2, q1, q2, q3, hset, ho, -Int.natCast_add]
theorem waysS_outer (s : ByteArray) (hs : s.size ≤ 40) (ms : List ByteArray) (hv : VT ms) : ∀ k : Nat, k ≤ s.size →
    packX 0 [5] (loopW (bd E0 (ev E0) loopW 0 [1, 2, 5, 6] L46b1) ⟨[(1, st s), (2, .ptr 0 0 0), (5, .sl 1 0 (s.size + 1)), (6, i64 ((k : Int) - 1))], [some (tb ms), some (ib (List.replicate k 0 ++ Rd.vals (ms.map B) ((B s).drop k)))]⟩) =
      some (.ext 0, ⟨[(5, .sl 0 0 (s.size + 1))], [some (ib (Rd.vals (ms.map B) (B s)))]⟩) := by
  intro k
  induction k with
  | zero =>
    intro _
    rw [loopW_eq]
    generalize loopW (bd E0 (ev E0) loopW 0 [1, 2, 5, 6] L46b1) = K
    unfold bd
    simp -implicitDefEqProofs [L46b1, ib, tb]
  | succ k ih =>
    intro hk
    have hih := ih (by omega)
    have hvl : k + (Rd.vals (ms.map B) ((B s).drop (k + 1))).length = s.size := by rw [Rd.vals_len, List.length_drop, B_len]; omega
    have hin := waysS_loop s (by omega) ms (by have := hv.len; omega) (fun m hm => by have := hv.sz m hm; omega) k (by omega) _ hvl ms 0 0 rfl (by have := sm_bound hv s hs k (by omega); omega)
    rw [Nat.zero_add, c0] at hin
    have he : arr k (Rd.sm (tm s k (Rd.vals (ms.map B) ((B s).drop (k + 1)))) ms) (Rd.vals (ms.map B) ((B s).drop (k + 1))) = List.replicate k 0 ++ Rd.vals (ms.map B) ((B s).drop k) := by
      rw [vals_at ms s k (by omega)]
      rfl
    rw [he] at hin
    rw [rep_one, show (((k + 1 : Nat) : Int) - 1) = (k : Int) by omega, loopW_eq]
    generalize arr k 0 (Rd.vals (ms.map B) ((B s).drop (k + 1))) = A at *
    generalize List.replicate k 0 ++ Rd.vals (ms.map B) ((B s).drop k) = A2 at *
    have hw : IntKind.i64.wrap ((k : Int) - 1) = (k : Int) - 1 := wr64 (by omega) (by omega)
    have hk0 : (0 : Int) ≤ (k : Int) := by omega
    generalize loopW (bd E0 (ev E0) loopW 0 [1, 2, 5, 6] L46b1) = K at hih ⊢
    unfold bd
    simp only [ib, tb] at hin hih ⊢
    simpa -implicitDefEqProofs [L46b1, hin, hw, hk0] using hih
theorem ways_s (s : ByteArray) (hs : s.size ≤ 40) (ms : List ByteArray) (hv : VT ms) : ev E0 46 [.agg [.lst 1 (ms.map st)], st s] [] = some (.sl 0 0 (s.size + 1), [some (ib (Rd.vals (ms.map B) (B s)))]) := by
  have ho := waysS_outer s hs ms hv s.size (Nat.le_refl _)
  have hd : (B s).drop s.size = [] := List.drop_of_length_le (by rw [B_len]; exact Nat.le_refl _)
  rw [hd, show Rd.vals (ms.map B) [] = [1] from rfl] at ho
  have w1 : IntKind.i64.wrap ((s.size : Int) + 1) = ((s.size + 1 : Nat) : Int) := by rw [wr64 (by omega) (by omega)]; omega
  have w2 : IntKind.i64.wrap ((s.size : Int) - 1) = (s.size : Int) - 1 := wr64 (by omega) (by omega)
  have hset : (List.replicate (s.size + 1) (i64 0)).set s.size (i64 1) = ns (List.replicate s.size 0 ++ [1]) := by
    unfold ns
    rw [List.replicate_succ', List.set_append_right _ _ (by simp), List.map_append, List.map_replicate]
    simp
  have q1 : ((s.size + 1 : Nat) : Int) * 8 ≤ 140737488355328 := by omega
  have q2 : ((s.size + 1 : Nat) : Int) ≤ 140737488355328 := by omega
  have q3 : (0 : Int) ≤ ((s.size + 1 : Nat) : Int) := by omega
  rw [e46]
  unfold runF
  simp only [ib, tb] at ho ⊢
  simp -implicitDefEqProofs [L46, w1, w2, q1, q2, q3, hset, ho, -Int.natCast_add]
end Go.Proofs.YtkdfgjijmnaljaaDoor.Ev
