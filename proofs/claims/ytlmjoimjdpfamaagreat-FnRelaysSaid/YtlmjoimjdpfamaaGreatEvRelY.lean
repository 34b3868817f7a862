/- Orders of jobs, and plans made in them. -/
import Derived.Test.YtlmjoimjdpfamaaGreatEvRelW
import Derived.Test.YtlmjoimjdpfamaaGreatEvMarkI
import Derived.Test.YtlmjoimjdpfamaaGreatEvVs
set_option linter.unusedVariables false
set_option linter.unusedSimpArgs false
namespace Go.Proofs.YtlmjoimjdpfamaaGreat.Ev
-- ---------------------------------------------------------------- plain lists
def inRow (n : Nat) (x : Int) : Bool := btw x 0 ((n : Int) - 1)
def ordGo (n : Nat) : List Int → List Int → Bool
  | _, [] => true
  | p, x :: t => (inRow n x && !(p.any fun y => decide (y = x))) && ordGo n (p ++ [x]) t
def okOrd (n : Nat) (l : List Int) : Bool := decide (l.length = n) && ordGo n [] l
def idxGo : Nat → List Int → Bool
  | _, [] => true
  | i, x :: t => decide ((i : Int) = x) && idxGo (i + 1) t
theorem inRow_iff (n : Nat) (x : Int) : inRow n x = true ↔ 0 ≤ x ∧ x < n := by
  unfold inRow btw
  simp only [Bool.and_eq_true, decide_eq_true_eq]
  omega
theorem ordGo_iff (n : Nat) : ∀ (t p : List Int), p.Nodup → (ordGo n p t = true ↔ (∀ x ∈ t, 0 ≤ x ∧ x < n) ∧ (p ++ t).Nodup)
  | [], p, hp => by simp [ordGo, hp]
  | x :: t, p, hp => by
    unfold ordGo
    rw [Bool.and_eq_true, Bool.and_eq_true, inRow_iff]
    have hany : ((!(p.any fun y => decide (y = x))) = true) ↔ x ∉ p := by
      rw [Bool.not_eq_true', List.any_eq_false]
      constructor
      · intro h hx
        have := h x hx
        simp at this
      · intro h y hy
        simp only [decide_eq_true_eq]
        rintro rfl
        exact h hy
    rw [hany]
    constructor
    · rintro ⟨⟨h1, h2⟩, h3⟩
      have hp2 : (p ++ [x]).Nodup := by
        rw [List.nodup_append]
        refine ⟨hp, by simp, fun a ha b hb => ?_⟩
        rw [List.mem_singleton] at hb
        subst hb
        rintro rfl
        exact h2 ha
      have := (ordGo_iff n t (p ++ [x]) hp2).1 h3
      refine ⟨fun y hy => ?_, by rw [List.append_assoc] at this; exact this.2⟩
      rcases List.mem_cons.1 hy with rfl | hy
      · exact h1
      · exact this.1 y hy
    · rintro ⟨h1, h2⟩
      have h3 : (p ++ [x] ++ t).Nodup := by rw [List.append_assoc]; exact h2
      have hp2 : (p ++ [x]).Nodup := (List.nodup_append.1 h3).1
      refine ⟨⟨h1 x (List.mem_cons_self ..), fun hx => ?_⟩, (ordGo_iff n t (p ++ [x]) hp2).2 ⟨fun y hy => h1 y (List.mem_cons_of_mem _ hy), h3⟩⟩
      exact (List.nodup_append.1 h2).2.2 x hx x (List.mem_cons_self ..) rfl
theorem idxGo_iff : ∀ (s : List Int) (i : Nat), idxGo i s = true ↔ s = (List.range' i s.length).map (fun k : Nat => (k : Int))
  | [], i => by simp [idxGo]
  | x :: t, i => by
    unfold idxGo
    rw [Bool.and_eq_true, decide_eq_true_eq, idxGo_iff t (i + 1), List.length_cons, List.range'_succ, List.map_cons, List.cons.injEq]
    constructor
    · rintro ⟨h1, h2⟩; exact ⟨h1.symm, h2⟩
    · rintro ⟨h1, h2⟩; exact ⟨h1.symm, h2⟩
theorem asc_fits : ∀ (s : List Int) (lo hi : Int), s.Pairwise (· < ·) → (∀ x ∈ s, lo ≤ x ∧ x ≤ hi) → lo ≤ hi + 1 → (s.length : Int) ≤ hi - lo + 1
  | [], lo, hi, _, _, h => by simp; omega
  | x :: t, lo, hi, hp, hb, h => by
    rw [List.pairwise_cons] at hp
    have hx := hb x (List.mem_cons_self ..)
    have := asc_fits t (x + 1) hi hp.2 (fun y hy => ⟨by have := hp.1 y hy; omega, (hb y (List.mem_cons_of_mem _ hy)).2⟩) (by omega)
    rw [List.length_cons]
    omega
theorem asc_range : ∀ (s : List Int) (i n : Nat), s.Pairwise (· < ·) → (∀ x ∈ s, (i : Int) ≤ x ∧ x < n) → i + s.length = n → s = (List.range' i s.length).map (fun k : Nat => (k : Int))
  | [], i, n, _, _, _ => by simp
  | x :: t, i, n, hp, hb, hn => by
    rw [List.pairwise_cons] at hp
    have hx := hb x (List.mem_cons_self ..)
    rw [List.length_cons] at hn
    have hf := asc_fits t (x + 1) ((n : Int) - 1) hp.2 (fun y hy => ⟨by have := hp.1 y hy; omega, by have := (hb y (List.mem_cons_of_mem _ hy)).2; omega⟩) (by omega)
    have hxi : x = (i : Int) := by omega
    have ih := asc_range t (i + 1) n hp.2 (fun y hy => ⟨by have := hp.1 y hy; push_cast; omega, (hb y (List.mem_cons_of_mem _ hy)).2⟩) (by omega)
    rw [List.length_cons, List.range'_succ, List.map_cons, hxi, ← ih]
def implOrd (n : Nat) (l : List Int) : Bool := idxGo 0 (l.mergeSort fun x y => decide (x ≤ y)) && decide (l.length = n)
theorem ord_eq (n : Nat) (l : List Int) : implOrd n l = okOrd n l := by
  unfold implOrd okOrd
  by_cases hl : l.length = n
  · rw [decide_eq_true hl, Bool.and_true, Bool.true_and]
    have hperm := List.mergeSort_perm l (fun x y => decide (x ≤ y))
    have hlen : (l.mergeSort fun x y => decide (x ≤ y)).length = l.length := hperm.length_eq
    rw [Bool.eq_iff_iff, idxGo_iff, ordGo_iff n l [] List.nodup_nil, hlen, hl, List.nil_append]
    constructor
    · intro h
      have hnd : (l.mergeSort fun x y => decide (x ≤ y)).Nodup := by
        rw [h]
        exact List.Pairwise.map _ (fun a b hab => by simp only [ne_eq]; omega) (List.nodup_range' (step := 1))
      refine ⟨fun x hx => ?_, hperm.nodup_iff.1 hnd⟩
      have hx' := hperm.mem_iff.2 hx
      rw [h, List.mem_map] at hx'
      obtain ⟨k, hk, rfl⟩ := hx'
      rw [List.mem_range'_1] at hk
      omega
    · rintro ⟨h1, h2⟩
      have hnd := hperm.nodup_iff.2 h2
      have hs : (l.mergeSort fun x y => decide (x ≤ y)).Pairwise fun x y => (decide (x ≤ y)) = true := List.pairwise_mergeSort (fun a b c h1 h2 => by simp only [decide_eq_true_eq] at *; omega) (fun a b => by simp only [Bool.or_eq_true, decide_eq_true_eq]; omega) l
      have hlt : (l.mergeSort fun x y => decide (x ≤ y)).Pairwise (· < ·) := by
        refine (hs.and hnd).imp fun {a b} h => ?_
        have := h.1
        simp only [decide_eq_true_eq] at this
        have := h.2
        omega
      have := asc_range (l.mergeSort fun x y => decide (x ≤ y)) 0 n hlt (fun x hx => by have := h1 x (hperm.mem_iff.1 hx); omega) (by omega)
      rw [hlen, hl] at this
      exact this
  · rw [decide_eq_false hl, Bool.and_false, Bool.false_and]
theorem okOrd_iff {n : Nat} {l : List Int} (h : okOrd n l = true) : l.length = n ∧ (∀ x ∈ l, 0 ≤ x ∧ x < n) ∧ l.Nodup := by
  unfold okOrd at h
  rw [Bool.and_eq_true, decide_eq_true_eq, ordGo_iff n l [] List.nodup_nil] at h
  exact ⟨h.1, h.2.1, h.2.2⟩
theorem nat_list (l : List Int) (h : ∀ x ∈ l, 0 ≤ x) : l.map i64 = (l.map Int.toNat).map fun k : Nat => i64 (k : Int) := by
  rw [List.map_map]
  refine List.map_congr_left fun x hx => ?_
  show i64 x = i64 ((x.toNat : Nat) : Int)
  rw [Int.toNat_of_nonneg (h x hx)]
theorem nat_nodup (l : List Int) (h : ∀ x ∈ l, 0 ≤ x) (hn : l.Nodup) : (l.map Int.toNat).Nodup := by
  unfold List.Nodup at *
  rw [List.pairwise_map]
  rw [List.pairwise_iff_getElem] at *
  intro i j hi hj hij
  have := hn i j hi hj hij
  have h1 := h _ (List.getElem_mem hi)
  have h2 := h _ (List.getElem_mem hj)
  omega
-- ---------------------------------------------------------------- the reference's test
theorem has_loop (l : List Int) (hm : l.length ≤ 140737488355328) (c : Int) : ∀ (t : List Int) (i : Nat), l.drop i = t →
    ((t.any fun y => decide (y = c)) = true → packX 0 [4] (loopW (bd E0 (ev E0) loopW 0 [0, 1, 5] L64b0) ⟨[(0, .lst 1 (l.map i64)), (1, i64 c), (5, i64 i)], []⟩) = some (.ret, ⟨[(4, bl true)], []⟩)) ∧
    ((t.any fun y => decide (y = c)) = false → packX 0 [4] (loopW (bd E0 (ev E0) loopW 0 [0, 1, 5] L64b0) ⟨[(0, .lst 1 (l.map i64)), (1, i64 c), (5, i64 i)], []⟩) = some (.ext 0, ⟨[], []⟩)) := by
  intro t
  induction t with
  | nil =>
    intro i h
    have hi := not_drop h
    rw [loopW_eq]
    generalize loopW (bd E0 (ev E0) loopW 0 [0, 1, 5] L64b0) = K
    refine ⟨fun h => (by simp at h), fun _ => ?_⟩
    simp -implicitDefEqProofs [bd, L64b0, hi]
  | cons y t ih =>
    intro i h
    obtain ⟨hi, hx, hd, hmem⟩ := at_drop h
    obtain ⟨ih1, ih2⟩ := ih (i + 1) hd
    have hw : IntKind.i64.wrap ((i : Int) + 1) = (i : Int) + 1 := wr64 (by omega) (by omega)
    rw [cs1] at ih1 ih2
    rw [loopW_eq, List.any_cons]
    generalize loopW (bd E0 (ev E0) loopW 0 [0, 1, 5] L64b0) = K at ih1 ih2 ⊢
    by_cases hy : y = c
    · refine ⟨fun _ => ?_, fun h => (by simp [hy] at h)⟩
      simp -implicitDefEqProofs [bd, L64b0, hi, hx, hy]
    · refine ⟨fun h => ?_, fun h => ?_⟩
      · simpa -implicitDefEqProofs [bd, L64b0, hi, hx, hy, hw] using ih1 (by simpa [hy] using h)
      · simpa -implicitDefEqProofs [bd, L64b0, hi, hx, hy, hw] using ih2 (by simpa [hy] using h)
theorem has_s (l : List Int) (hm : l.length ≤ 140737488355328) (c : Int) : ev E0 64 [.lst 1 (l.map i64), i64 c] [] = some (bl (l.any fun y => decide (y = c)), []) := by
  rw [e64]
  unfold runF
  obtain ⟨h1, h2⟩ := has_loop l hm c l 0 rfl
  rw [c0] at h1 h2
  cases h : l.any fun y => decide (y = c) with
  | true => simp -implicitDefEqProofs [L64, h1 h]
  | false => simp -implicitDefEqProofs [L64, h2 h]
theorem orderS_loop (n : Nat) (l : List Int) (hl : l.length = n) (hm : n ≤ 140737488355328) : ∀ (t : List Int) (i : Nat), l.drop i = t →
    (ordGo n (l.take i) t = false → packX 0 [4] (loopW (bd E0 (ev E0) loopW 0 [0, 1, 5] L31b0) ⟨[(0, .lst 1 (l.map i64)), (1, i64 n), (5, i64 i)], []⟩) = some (.ret, ⟨[(4, bl false)], []⟩)) ∧
    (ordGo n (l.take i) t = true → packX 0 [4] (loopW (bd E0 (ev E0) loopW 0 [0, 1, 5] L31b0) ⟨[(0, .lst 1 (l.map i64)), (1, i64 n), (5, i64 i)], []⟩) = some (.ext 0, ⟨[], []⟩)) := by
  intro t
  induction t with
  | nil =>
    intro i h
    have hi := not_drop h
    have hi2 : ¬ (i : Int) < (n : Int) := by omega
    rw [loopW_eq]
    generalize loopW (bd E0 (ev E0) loopW 0 [0, 1, 5] L31b0) = K
    refine ⟨fun h => (by simp [ordGo] at h), fun _ => ?_⟩
    simp -implicitDefEqProofs [bd, L31b0, hi2]
  | cons x t ih =>
    intro i h
    obtain ⟨hi, hx, hd, hmem⟩ := at_drop h
    have hi2 : (i : Int) < (n : Int) := by omega
    have hi3 : (i : Int) ≤ (l.length : Int) := by omega
    obtain ⟨ih1, ih2⟩ := ih (i + 1) hd
    have hw : IntKind.i64.wrap ((i : Int) + 1) = (i : Int) + 1 := wr64 (by omega) (by omega)
    have hwn : IntKind.i64.wrap ((n : Int) - 1) = (n : Int) - 1 := wr64 (by omega) (by omega)
    have e1 : l.take (i + 1) = l.take i ++ [x] := by rw [List.take_succ_eq_append_getElem hi, hx]
    have hin := in_s x 0 ((n : Int) - 1)
    have hha := has_s (l.take i) (by rw [List.length_take]; omega) x
    rw [List.map_take] at hha
    have hgo : ordGo n (l.take i) (x :: t) = ((inRow n x && !((l.take i).any fun y => decide (y = x))) && ordGo n (l.take i ++ [x]) t) := rfl
    rw [cs1, e1] at ih1 ih2
    rw [hgo, loopW_eq]
    unfold inRow
    generalize loopW (bd E0 (ev E0) loopW 0 [0, 1, 5] L31b0) = K at ih1 ih2 ⊢
    cases h1 : btw x 0 ((n : Int) - 1) with
    | false =>
      rw [h1] at hin
      refine ⟨fun _ => ?_, fun h => (by simp at h)⟩
      simp -implicitDefEqProofs [bd, L31b0, hi, hi2, hx, hwn, hin]
    | true =>
      rw [h1] at hin
      cases h2 : ((l.take i).any fun y => decide (y = x)) with
      | true =>
        rw [h2] at hha
        refine ⟨fun _ => ?_, fun h => (by simp at h)⟩
        simp -implicitDefEqProofs [-List.map_take, bd, L31b0, hi, hi2, hi3, hx, hwn, hin, hha, List.length_map, Nat.le_of_lt hi]
      | false =>
        rw [h2] at hha
        refine ⟨fun h => ?_, fun h => ?_⟩
        · simpa -implicitDefEqProofs [-List.map_take, bd, L31b0, hi, hi2, hi3, hx, hwn, hin, hha, hw] using ih1 (by simpa using h)
        · simpa -implicitDefEqProofs [-List.map_take, bd, L31b0, hi, hi2, hi3, hx, hwn, hin, hha, hw] using ih2 (by simpa using h)
theorem order_ss (n : Nat) (l : List Int) (hm : l.length ≤ 140737488355328) : ev E0 31 [.lst 1 (l.map i64), i64 n] [] = some (bl (okOrd n l), []) := by
  rw [e31]
  unfold runF okOrd
  by_cases hl : l.length = n
  · obtain ⟨h1, h2⟩ := orderS_loop n l hl (by omega) l 0 rfl
    rw [c0, List.take_zero] at h1 h2
    have hl2 : (l.length : Int) = (n : Int) := by omega
    rw [decide_eq_true hl, Bool.true_and]
    cases h : ordGo n [] l with
    | true => simp -implicitDefEqProofs [L31, hl2, h2 h]
    | false => simp -implicitDefEqProofs [L31, hl2, h1 h]
  · have hl2 : ¬ (l.length : Int) = (n : Int) := by omega
    rw [decide_eq_false hl, Bool.false_and]
    simp -implicitDefEqProofs [L31, hl2]
-- ---------------------------------------------------------------- the program's test
theorem values_i (X : List AV) : ev E0 56 [.lst 1 X] [] = some (.fn (.func 71) [] [.ptr 0 0 0], [some ⟨25, 1, 0, false, [.lst 1 X]⟩]) := by
  rw [e56]
  unfold runF
  simp -implicitDefEqProofs [L56]
def srtI (l : List Int) : List Int := l.mergeSort fun x y => decide (x ≤ y)
theorem srtI_len (l : List Int) : (srtI l).length = l.length := List.length_mergeSort _
def rwI (l : List Int) : Option Blk := some ⟨3, 1, 1, false, l.map i64⟩
theorem sorted_i (l : List Int) (hne : l ≠ []) (h : l.length * 8 ≤ 140737488351232) : ev E0 55 [.fn (.func 71) [] [.el (.agg [.lst 1 (l.map i64)]) 0]] [] = some (.sl 0 0 l.length, [rwI (srtI l)]) := by
  have happ : ev E0 80 [nilS, .fn (.func 71) [] [.el (.agg [.lst 1 (l.map i64)]) 0]] [] = some (.sl 0 0 l.length, [rwI l]) := by
    rw [e80]
    have ha : appZ l = (.sl 0 0 l.length, [rwI l]) := if_neg hne
    unfold appP
    simp -implicitDefEqProofs [h, ha]
  have hcol : ev E0 69 [.fn (.func 71) [] [.el (.agg [.lst 1 (l.map i64)]) 0]] [] = some (.sl 0 0 l.length, [rwI l]) := by
    rw [e69]
    unfold runF
    have hfr : okL (free 5) (l.map i64) = true := okL_map (fun _ => rfl) l
    unfold rwI at *
    generalize l.map i64 = X at *
    simp -implicitDefEqProofs [L69, happ, hfr]
  have hsort : ev E0 70 [.sl 0 0 l.length] [rwI l] = some (.tup [], [rwI (srtI l)]) := by
    rw [e70]
    unfold sortIP rwI srtI
    have htk : List.take l.length (l.map i64) = l.map i64 := List.take_of_length_le (by simp)
    have hdr : List.drop l.length (l.map i64) = [] := List.drop_of_length_le (by simp)
    have hle : l.length ≤ (l.map i64).length := by simp
    have hlt : l.length < 4611686018427387904 := by omega
    have hio := intsOf_map l
    generalize l.map i64 = X at *
    simp -implicitDefEqProofs [htk, hdr, hle, hlt, hio]
  rw [e55]
  unfold runF
  have hfr : okL (free 5) (l.map i64) = true := okL_map (fun _ => rfl) l
  unfold rwI at *
  generalize (srtI l).map i64 = Y at *
  generalize l.map i64 = X at *
  simp -implicitDefEqProofs [L55, hcol, hsort, hfr]
theorem sorted_nil : ev E0 55 [.fn (.func 71) [] [.el (.agg [.lst 1 []]) 0]] [] = some (nilS, []) := by
  have happ : ev E0 80 [nilS, .fn (.func 71) [] [.el (.agg [.lst 1 []]) 0]] [] = some (nilS, []) := by
    rw [e80]
    unfold appP
    simp -implicitDefEqProofs [intsOf, appZ]
  have hcol : ev E0 69 [.fn (.func 71) [] [.el (.agg [.lst 1 []]) 0]] [] = some (nilS, []) := by
    rw [e69]
    unfold runF
    simp -implicitDefEqProofs [L69, happ]
  have hsort : ev E0 70 [nilS] [] = some (.tup [], []) := by
    rw [e70]
    rfl
  rw [e55]
  unfold runF
  simp -implicitDefEqProofs [L55, hcol, hsort]
theorem isOrder_loop (js : List AV) (od : List AV) (s : List Int) (hm : s.length ≤ 140737488355328) : ∀ (t : List Int) (i : Nat), s.drop i = t →
    (idxGo i t = false → packX 0 [0, 1, 4] (loopW (bd E0 (ev E0) loopW 0 [0, 1, 11, 12, 13] L28b0) ⟨[(0, .lst 4 js), (1, .lst 1 od), (11, .sl 0 0 s.length), (12, i64 s.length), (13, i64 i)], [rwI s]⟩) = some (.ret, ⟨[(0, .lst 4 js), (1, .lst 1 od), (4, bl false)], []⟩)) ∧
    (idxGo i t = true → packX 0 [0, 1, 4] (loopW (bd E0 (ev E0) loopW 0 [0, 1, 11, 12, 13] L28b0) ⟨[(0, .lst 4 js), (1, .lst 1 od), (11, .sl 0 0 s.length), (12, i64 s.length), (13, i64 i)], [rwI s]⟩) = some (.ext 0, ⟨[(0, .lst 4 js), (1, .lst 1 od)], []⟩)) := by
  intro t
  induction t with
  | nil =>
    intro i h
    have hi := not_drop h
    have hi2 : ¬ (i : Int) < (s.length : Int) := by omega
    rw [loopW_eq]
    generalize loopW (bd E0 (ev E0) loopW 0 [0, 1, 11, 12, 13] L28b0) = K
    refine ⟨fun h => (by simp [idxGo] at h), fun _ => ?_⟩
    unfold rwI
    simp -implicitDefEqProofs [bd, L28b0, hi2]
  | cons x t ih =>
    intro i h
    obtain ⟨hi, hx, hd, hmem⟩ := at_drop h
    have hi2 : (i : Int) < (s.length : Int) := by omega
    obtain ⟨ih1, ih2⟩ := ih (i + 1) hd
    have hw : IntKind.i64.wrap ((i : Int) + 1) = (i : Int) + 1 := wr64 (by omega) (by omega)
    have hgo : idxGo i (x :: t) = (decide ((i : Int) = x) && idxGo (i + 1) t) := rfl
    rw [cs1] at ih1 ih2
    rw [hgo, loopW_eq]
    generalize loopW (bd E0 (ev E0) loopW 0 [0, 1, 11, 12, 13] L28b0) = K at ih1 ih2 ⊢
    unfold rwI at *
    by_cases hxi : (i : Int) = x
    · rw [decide_eq_true hxi, Bool.true_and]
      subst hxi
      refine ⟨fun h => ?_, fun h => ?_⟩
      · simpa -implicitDefEqProofs [bd, L28b0, hi, hi2, hx, hw] using ih1 h
      · simpa -implicitDefEqProofs [bd, L28b0, hi, hi2, hx, hw] using ih2 h
    · rw [decide_eq_false hxi, Bool.false_and]
      refine ⟨fun _ => ?_, fun h => (by cases h)⟩
      simp -implicitDefEqProofs [bd, L28b0, hi, hi2, hx, hxi]
theorem isOrder_i (js : List AV) (l : List Int) (hm : l.length ≤ 1099511627776) : ev E0 28 [.lst 4 js, .lst 1 (l.map i64)] [] = some (bl (okOrd js.length l), []) := by
  rw [← ord_eq]
  rw [e28]
  unfold runF implOrd
  have hv := values_i (l.map i64)
  by_cases hne : l = []
  · subst hne
    have hs := sorted_nil
    have hms : (([] : List Int).mergeSort fun x y => decide (x ≤ y)) = [] := by simp
    rw [hms]
    simp only [List.map_nil] at hv ⊢
    have hl : packX 0 [0, 1, 4] (loopW (bd E0 (ev E0) loopW 0 [0, 1, 11, 12, 13] L28b0) ⟨[(0, .lst 4 js), (1, .lst 1 []), (11, nilS), (12, i64 0), (13, i64 0)], []⟩) = some (.ext 0, ⟨[(0, .lst 4 js), (1, .lst 1 [])], []⟩) := by
      rw [loopW_eq]
      generalize loopW (bd E0 (ev E0) loopW 0 [0, 1, 11, 12, 13] L28b0) = K
      simp -implicitDefEqProofs [bd, L28b0]
    by_cases hj : js.length = 0
    · have hj2 : js = [] := List.eq_nil_of_length_eq_zero hj
      subst hj2
      simp -implicitDefEqProofs [L28, hv, hs, hl, idxGo]
    · have hj2 : ¬ (0 : Int) = (js.length : Int) := by omega
      have hj3 : ¬ 0 = js.length := fun h => hj h.symm
      simp -implicitDefEqProofs [L28, hv, hs, hl, idxGo, hj2, hj3]
  · have hs := sorted_i l hne (by omega)
    obtain ⟨h1, h2⟩ := isOrder_loop js (l.map i64) (srtI l) (by rw [srtI_len]; omega) (srtI l) 0 rfl
    rw [c0] at h1 h2
    rw [srtI_len] at h1 h2
    rw [show (l.mergeSort fun x y => decide (x ≤ y)) = srtI l from rfl]
    have hll : ((l.map i64).length : Int) = (l.length : Int) := by simp
    have hfr : okL (free 5) ((srtI l).map i64) = true := okL_map (fun _ => rfl) _
    have hl3 : (l.map i64).length = l.length := by simp
    unfold rwI at *
    generalize (srtI l).map i64 = Y at *
    cases hgo : idxGo 0 (srtI l) with
    | false =>
      have h1' := h1 hgo
      generalize l.map i64 = X at *
      simp -implicitDefEqProofs [L28, hv, hs, h1', hfr]
    | true =>
      have h2' := h2 hgo
      by_cases hj : l.length = js.length
      · have hj2 : decide ((l.length : Int) = (js.length : Int)) = true := decide_eq_true (by omega)
        rw [decide_eq_true hj]
        clear hj
        generalize l.map i64 = X at *
        simp -implicitDefEqProofs [-decide_eq_true_eq, L28, hv, hs, h2', hfr, hl3, hj2]
      · have hj2 : ¬ (l.length : Int) = (js.length : Int) := by omega
        rw [decide_eq_false hj]
        generalize l.map i64 = X at *
        simp -implicitDefEqProofs [L28, hv, hs, h2', hfr, hl3, hj2]
-- ---------------------------------------------------------------- plans in order
def pioT (n : Int) (js : List J) (l : List Int) : Bool := okJobs n js && okOrd js.length l
def pioV (n : Int) (js : List J) (l : List Int) : List Hh := if pioT n js l = true then planF js (l.map Int.toNat) [] else []
theorem pioV_len (n : Int) (js : List J) (l : List Int) : (pioV n js l).length ≤ 25 := by
  unfold pioV
  by_cases h : pioT n js l = true
  · rw [if_pos h]
    unfold pioT at h
    rw [Bool.and_eq_true] at h
    obtain ⟨h1, h2⟩ := okJobs_jb h.1
    obtain ⟨o1, o2, o3⟩ := okOrd_iff h.2
    have := (plan_s js h2 (l.map Int.toNat) (fun k hk => by
      rw [List.mem_map] at hk
      obtain ⟨x, hx, rfl⟩ := hk
      have := o2 x hx
      omega) (by rw [List.length_map]; omega)).2.1
    rw [List.length_map] at this
    omega
  · rw [if_neg h]; simp
theorem pio_s (n : Int) (js : List J) (l : List Int) (hm : l.length ≤ 1099511627776) : ev E0 7 [i64 n, .lst 4 (js.map jb), .lst 1 (l.map i64)] [] = some (.tup [.sl 0 0 (pioV n js l).length, bl (pioT n js l)], [rh (pioV n js l)]) := by
  rw [e7]
  unfold runF pioV pioT
  have hg := good_s n js
  have ho := order_ss js.length l (by omega)
  cases h1 : okJobs n js with
  | false =>
    rw [h1] at hg
    unfold rh
    simp -implicitDefEqProofs [L7, hg]
  | true =>
    rw [h1] at hg
    cases h2 : okOrd js.length l with
    | false =>
      rw [h2] at ho
      unfold rh
      simp -implicitDefEqProofs [L7, hg, ho]
    | true =>
      rw [h2] at ho
      obtain ⟨j1, j2⟩ := okJobs_jb h1
      obtain ⟨o1, o2, o3⟩ := okOrd_iff h2
      have hp := (plan_s js j2 (l.map Int.toNat) (fun k hk => by
        rw [List.mem_map] at hk
        obtain ⟨x, hx, rfl⟩ := hk
        have := o2 x hx
        omega) (by rw [List.length_map]; omega)).2.2
      rw [List.map_map, show (i64 ∘ fun k : Nat => (k : Int)) = (fun k : Nat => i64 (k : Int)) from rfl, ← nat_list l (fun x hx => (o2 x hx).1)] at hp
      have fI : okL (free 5) ((planF js (l.map Int.toNat) []).map Ev.hp) = true := okL_map (fun _ => rfl) _
      have tk : List.take (planF js (l.map Int.toNat) []).length ((planF js (l.map Int.toNat) []).map Ev.hp) = (planF js (l.map Int.toNat) []).map Ev.hp := List.take_of_length_le (by simp)
      simp only [Bool.and_self, ↓reduceIte]
      unfold rh at *
      generalize planF js (l.map Int.toNat) [] = Q at *
      generalize Q.map Ev.hp = Z at *
      simp -implicitDefEqProofs [L7, hg, ho, hp, fI, tk]
theorem pio_i (n : Int) (js : List J) (l : List Int) (hm : l.length ≤ 1099511627776) : ev E0 6 [i64 n, .lst 4 (js.map jb), .lst 1 (l.map i64)] [] = (if pioT n js l = true then some (.tup [.sl 0 0 (pioV n js l).length, bl true], [rh (pioV n js l)]) else some (.tup [nilS, bl false], [])) := by
  rw [e6]
  unfold runF pioV pioT
  have hg := areJobs_i n js
  have ho := isOrder_i (js.map jb) l hm
  rw [List.length_map] at ho
  cases h1 : okJobs n js with
  | false =>
    rw [h1] at hg
    simp -implicitDefEqProofs [L6, hg]
  | true =>
    rw [h1] at hg
    cases h2 : okOrd js.length l with
    | false =>
      rw [h2] at ho
      simp -implicitDefEqProofs [L6, hg, ho]
    | true =>
      rw [h2] at ho
      obtain ⟨j1, j2⟩ := okJobs_jb h1
      obtain ⟨o1, o2, o3⟩ := okOrd_iff h2
      have hp := plannedF_i js j2 (l.map Int.toNat) (fun k hk => by
        rw [List.mem_map] at hk
        obtain ⟨x, hx, rfl⟩ := hk
        have := o2 x hx
        omega) (by rw [List.length_map]; omega) (nat_nodup l (fun x hx => (o2 x hx).1) o3)
      rw [← nat_list l (fun x hx => (o2 x hx).1)] at hp
      have fI : okL (free 5) ((planF js (l.map Int.toNat) []).map Ev.hp) = true := okL_map (fun _ => rfl) _
      simp only [Bool.and_self, ↓reduceIte]
      unfold rh at *
      generalize planF js (l.map Int.toNat) [] = Q at *
      generalize Q.map Ev.hp = Z at *
      simp -implicitDefEqProofs [L6, hg, ho, hp, fI]
end Go.Proofs.YtlmjoimjdpfamaaGreat.Ev
