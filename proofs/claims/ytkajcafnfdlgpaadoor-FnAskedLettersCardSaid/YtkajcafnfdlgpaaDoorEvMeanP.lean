/- Means over all letters: the reference's function and the program's. -/
import Derived.Test.YtkajcafnfdlgpaaDoorEvMean
set_option linter.unusedVariables false
set_option linter.unusedSimpArgs false
namespace Go.Proofs.YtkajcafnfdlgpaaDoor.Ev
def numF (f : Nat → Nat) : Nat → Nat → List Nat
  | 0, _ => []
  | k + 1, i => f i :: numF f k (i + 1)
theorem numF_len (f : Nat → Nat) : ∀ (k i : Nat), (numF f k i).length = k
  | 0, i => rfl
  | k + 1, i => by rw [numF, List.length_cons, numF_len f k]
theorem numF_get (f : Nat → Nat) : ∀ (k i j : Nat), j < k → (numF f k i)[j]? = some (f (i + j))
  | 0, i, j, h => by omega
  | k + 1, i, 0, h => rfl
  | k + 1, i, j + 1, h => by
    rw [numF, List.getElem?_cons_succ, numF_get f k (i + 1) j (by omega)]
    congr 2
    omega
/-- The mean, and whether it is there. -/
def meanA (f : Nat → Nat) (W : List Nat) : Nat := if allW W = 0 then 0 else sumW f W 0 / Nat.gcd (sumW f W 0) (allW W)
def meanB (f : Nat → Nat) (W : List Nat) : Nat := if allW W = 0 then 0 else allW W / Nat.gcd (sumW f W 0) (allW W)
def meanO (W : List Nat) : Bool := !decide (allW W = 0)
theorem sumS_loop (f : Nat → Nat) (W : List Nat) (hW : W.length ≤ 10) : ∀ (t : List Nat) (i s a : Nat), W.drop i = t → s + sumW f t i ≤ 1152921504606846976 → a + allW t ≤ 1152921504606846976 →
    packX 0 [4, 6, 7] (loopW (bd E0 (ev E0) loopW 0 [0, 1, 4, 6, 7, 8] L57b0) ⟨[(0, .lst 1 (i64n (numF f W.length 0))), (1, .lst 1 (i64n W)), (4, .ptr 0 0 0), (6, i64 s), (7, i64 a), (8, i64 i)], [some ⟨39, 2, 0, false, [.agg [i64 0, i64 0]]⟩]⟩) = some (.ext 0, ⟨[(4, .ptr 0 0 0), (6, i64 ((s + sumW f t i : Nat) : Int)), (7, i64 ((a + allW t : Nat) : Int))], [some ⟨39, 2, 0, false, [.agg [i64 0, i64 0]]⟩]⟩) := by
  intro t
  induction t with
  | nil =>
    intro i s a h _ _
    have hi := not_drop h
    rw [loopW_eq]
    generalize loopW (bd E0 (ev E0) loopW 0 [0, 1, 4, 6, 7, 8] L57b0) = K
    simp -implicitDefEqProofs [bd, L57b0, i64n_len, numF_len, hi, sumW, allW]
  | cons w t ih =>
    intro i s a h hs ha
    obtain ⟨hi, hx, hd, hmem⟩ := at_drop h
    rw [sumW] at hs
    rw [allW] at ha
    have hih := ih (i + 1) (s + f i * w) (a + w) hd (by omega) (by omega)
    rw [cs1] at hih
    have e1 : s + sumW f (w :: t) i = s + f i * w + sumW f t (i + 1) := by rw [sumW]; omega
    have e2 : a + allW (w :: t) = a + w + allW t := by rw [allW]; omega
    have hg0 : (i64n (numF f W.length 0))[i]? = some (i64 (f i)) := by
      unfold i64n
      rw [List.getElem?_map, numF_get f W.length 0 i hi, Nat.zero_add]
      rfl
    have hg : ∀ h, (i64n (numF f W.length 0))[i]'h = i64 (f i) := fun h => by
      rw [List.getElem?_eq_getElem h] at hg0
      exact Option.some.inj hg0
    have hg3 : (i64n W)[i]? = some (i64 w) := by
      unfold i64n
      rw [List.getElem?_map, List.getElem?_eq_getElem hi, hx]
      rfl
    have hg2 : ∀ h, (i64n W)[i]'h = i64 w := fun h => by
      rw [List.getElem?_eq_getElem h] at hg3
      exact Option.some.inj hg3
    have hw : IntKind.i64.wrap ((i : Int) + 1) = (i : Int) + 1 := wr64 (by omega) (by omega)
    have hp : (f i : Int) * (w : Int) = ((f i * w : Nat) : Int) := rfl
    generalize hm : f i * w = m at *
    have hw1 : IntKind.i64.wrap (m : Int) = (m : Int) := wr64 (by omega) (by omega)
    have hw2 : IntKind.i64.wrap ((s : Int) + (m : Int)) = (s : Int) + (m : Int) := wr64 (by omega) (by omega)
    have hw3 : IntKind.i64.wrap ((a : Int) + (w : Int)) = (a : Int) + (w : Int) := wr64 (by omega) (by omega)
    rw [e1, e2, loopW_eq]
    generalize s + m + sumW f t (i + 1) = S at hih ⊢
    generalize a + w + allW t = A at hih ⊢
    generalize loopW (bd E0 (ev E0) loopW 0 [0, 1, 4, 6, 7, 8] L57b0) = K at hih ⊢
    simpa -implicitDefEqProofs [bd, L57b0, i64n_len, numF_len, hi, hg, hg2, hw, hp, hw1, hw2, hw3] using hih
theorem mean_s (f : Nat → Nat) (F : Nat) (hF : F ≤ 8796093022208) (hf : ∀ i, f i ≤ F) (n : Nat) (l : List Int) (hl : l.length ≤ 140737488355328) (hn : n ≤ 10) :
    ((okW l && decide ((l.length : Int) = (n : Int))) = false ∧ ev E0 57 [.lst 1 (i64n (numF f n 0)), .lst 1 (i64s l)] [] = some (.tup [.agg [i64 0, i64 0], bl false], [])) ∨
    ((okW l && decide ((l.length : Int) = (n : Int))) = true ∧ ∃ W : List Nat, i64s l = i64n W ∧ (∀ x ∈ W, x ≤ 99) ∧ W.length = n ∧ ev E0 57 [.lst 1 (i64n (numF f n 0)), .lst 1 (i64s l)] [] = some (.tup [.agg [i64 (meanA f W), i64 (meanB f W)], bl (meanO W)], [])) := by
  rw [e57]
  unfold runF
  have t1 := weights_s l hl
  cases h1 : okW l with
  | false =>
    rw [h1] at t1
    refine .inl ⟨rfl, ?_⟩
    simp -implicitDefEqProofs [L57, t1]
  | true =>
    rw [h1] at t1
    by_cases h2 : (l.length : Int) = (n : Int)
    · have h3 : l.length = n := by omega
      obtain ⟨W, e, hW, hlen, hpos, hten⟩ := okW_nat h1
      refine .inr ⟨by simp [h2], W, e, hW, by omega, ?_⟩
      obtain rfl : W.length = n := by omega
      rw [e] at t1 ⊢
      have b1 := sumW_le hf W 0 hW
      have b2 := allW_le W hW
      have b3 : W.length * (F * 99) ≤ 10 * (8796093022208 * 99) := Nat.mul_le_mul hten (Nat.mul_le_mul_right 99 hF)
      have hlp := sumS_loop f W hten W 0 0 0 rfl (by omega) (by omega)
      rw [Nat.zero_add, Nat.zero_add, c0] at hlp
      unfold meanA meanB meanO
      generalize sumW f W 0 = S at *
      generalize allW W = A at *
      by_cases h0 : A = 0
      · have h0' : (A : Int) = 0 := by omega
        rw [if_pos h0, if_pos h0]
        simp -implicitDefEqProofs [L57, t1, i64n_len, numF_len, hlp, h0, h0']
      · have h0' : ¬ (A : Int) = 0 := by omega
        have hdv := divS_loop (S : Int) (A : Int) A A S (Nat.le_refl _) (by omega) (by omega)
        have hg : 0 < Nat.gcd S A := Nat.gcd_pos_of_pos_right S (by omega)
        rw [if_neg h0, if_neg h0]
        generalize Nat.gcd S A = g at *
        have g1 : ¬ (g : Int) = 0 := by omega
        have g2 : ¬ g = 0 := by omega
        have q1 : Int.tdiv (S : Int) (g : Int) = ((S / g : Nat) : Int) := rfl
        have q2 : Int.tdiv (A : Int) (g : Int) = ((A / g : Nat) : Int) := rfl
        have l1 := Nat.div_le_self S g
        have l2 := Nat.div_le_self A g
        generalize S / g = x at *
        generalize A / g = y at *
        have w1 : IntKind.i64.wrap (x : Int) = (x : Int) := wr64 (by omega) (by omega)
        have w2 : IntKind.i64.wrap (y : Int) = (y : Int) := wr64 (by omega) (by omega)
        simp -implicitDefEqProofs [L57, t1, i64n_len, numF_len, hlp, h0, h0', hdv, g1, g2, q1, q2, w1, w2]
    · have h3 : ¬ l.length = n := by omega
      refine .inl ⟨by simp [h2, h3], ?_⟩
      simp -implicitDefEqProofs [L57, t1, i64s_len, i64n_len, numF_len, h2, h3]
theorem sumI_loop (ms : List ByteArray) (g : Nat) (ho : E0.opn g = false) (f : Nat → Nat) (hf : ∀ i, i < ms.length → ev E0 g [i64 i, .el (.agg [.lst 1 (ms.map st)]) 0] [] = some (i64 (f i), [])) (W : List Nat) (hW : W.length ≤ 10) (hWm : W.length = ms.length) : ∀ (t : List Nat) (i s a : Nat), W.drop i = t → s + sumW f t i ≤ 1152921504606846976 → a + allW t ≤ 1152921504606846976 →
    packX 0 [6, 8, 9] (loopW (bd E0 (ev E0) loopW 0 [2, 6, 8, 9, 17, 18, 19] L55b0) ⟨[(2, .fn (.func g) [] [.el (.agg [.lst 1 (ms.map st)]) 0]), (6, .ptr 0 0 0), (8, i64 s), (9, i64 a), (17, .lst 1 (i64n W)), (18, i64 W.length), (19, i64 i)], [some ⟨39, 2, 0, false, [.agg [i64 0, i64 0]]⟩]⟩) = some (.ext 0, ⟨[(6, .ptr 0 0 0), (8, i64 ((s + sumW f t i : Nat) : Int)), (9, i64 ((a + allW t : Nat) : Int))], [some ⟨39, 2, 0, false, [.agg [i64 0, i64 0]]⟩]⟩) := by
  intro t
  induction t with
  | nil =>
    intro i s a h _ _
    have hi := not_drop h
    rw [loopW_eq]
    generalize loopW (bd E0 (ev E0) loopW 0 [2, 6, 8, 9, 17, 18, 19] L55b0) = K
    simp -implicitDefEqProofs [bd, L55b0, i64n_len, hi, sumW, allW]
  | cons w t ih =>
    intro i s a h hs ha
    obtain ⟨hi, hx, hd, hmem⟩ := at_drop h
    rw [sumW] at hs
    rw [allW] at ha
    have hih := ih (i + 1) (s + f i * w) (a + w) hd (by omega) (by omega)
    rw [cs1] at hih
    have e1 : s + sumW f (w :: t) i = s + f i * w + sumW f t (i + 1) := by rw [sumW]; omega
    have e2 : a + allW (w :: t) = a + w + allW t := by rw [allW]; omega
    have hg3 : (i64n W)[i]? = some (i64 w) := by
      unfold i64n
      rw [List.getElem?_map, List.getElem?_eq_getElem hi, hx]
      rfl
    have hg2 : ∀ h, (i64n W)[i]'h = i64 w := fun h => by
      rw [List.getElem?_eq_getElem h] at hg3
      exact Option.some.inj hg3
    have hcall := hf i (by omega)
    have hw : IntKind.i64.wrap ((i : Int) + 1) = (i : Int) + 1 := wr64 (by omega) (by omega)
    have hp : (w : Int) * (f i : Int) = ((f i * w : Nat) : Int) := by rw [Nat.mul_comm]; rfl
    generalize hm : f i * w = m at *
    have hw1 : IntKind.i64.wrap (m : Int) = (m : Int) := wr64 (by omega) (by omega)
    have hw2 : IntKind.i64.wrap ((s : Int) + (m : Int)) = (s : Int) + (m : Int) := wr64 (by omega) (by omega)
    have hw3 : IntKind.i64.wrap ((a : Int) + (w : Int)) = (a : Int) + (w : Int) := wr64 (by omega) (by omega)
    rw [e1, e2, loopW_eq]
    generalize s + m + sumW f t (i + 1) = S at hih ⊢
    generalize a + w + allW t = A at hih ⊢
    generalize loopW (bd E0 (ev E0) loopW 0 [2, 6, 8, 9, 17, 18, 19] L55b0) = K at hih ⊢
    simpa -implicitDefEqProofs [bd, L55b0, i64n_len, hi, hg2, hcall, ho, hw, hp, hw1, hw2, hw3] using hih
theorem mean_i (ms : List ByteArray) (hm : ms.length ≤ 140737488355328) (hs : ∀ x ∈ ms, x.size ≤ 140737488355328) (g : Nat) (ho : E0.opn g = false) (f : Nat → Nat) (F : Nat) (hF : F ≤ 8796093022208) (hfF : ∀ i, f i ≤ F) (hf : okTable ms = true → ∀ i, i < ms.length → ev E0 g [i64 i, .el (.agg [.lst 1 (ms.map st)]) 0] [] = some (i64 (f i), [])) (l : List Int) (hl : l.length ≤ 140737488355328) :
    ((okTable ms && (okW l && decide ((l.length : Int) = (ms.length : Int)))) = false → ev E0 55 [.agg [.lst 1 (ms.map st)], .lst 1 (i64s l), .fn (.func g) [] [.el (.agg [.lst 1 (ms.map st)]) 0]] [] = some (.tup [.agg [i64 0, i64 0], bl false], [])) ∧
    (∀ W : List Nat, (okTable ms && (okW l && decide ((l.length : Int) = (ms.length : Int)))) = true → i64s l = i64n W → (∀ x ∈ W, x ≤ 99) → W.length = ms.length → ev E0 55 [.agg [.lst 1 (ms.map st)], .lst 1 (i64s l), .fn (.func g) [] [.el (.agg [.lst 1 (ms.map st)]) 0]] [] = some (.tup [.agg [i64 (meanA f W), i64 (meanB f W)], bl (meanO W)], [])) := by
  rw [e55]
  unfold runF
  have t1 := weighed_i ms hm hs l hl
  constructor
  · intro h
    rw [h] at t1
    simp -implicitDefEqProofs [L55, t1]
  · intro W h e hW hlen
    rw [h] at t1
    have hT : okTable ms = true := by
      cases hk : okTable ms with
      | false => rw [hk] at h; simp at h
      | true => rfl
    have hten := (okTable_len hT).2
    rw [e] at t1 ⊢
    have b1 := sumW_le hfF W 0 hW
    have b2 := allW_le W hW
    have b3 : W.length * (F * 99) ≤ 10 * (8796093022208 * 99) := Nat.mul_le_mul (by omega) (Nat.mul_le_mul_right 99 hF)
    have hlp := sumI_loop ms g ho f (hf hT) W (by omega) hlen W 0 0 0 rfl (by omega) (by omega)
    rw [Nat.zero_add, Nat.zero_add, c0] at hlp
    unfold meanA meanB meanO
    generalize sumW f W 0 = S at *
    generalize allW W = A at *
    by_cases h0 : A = 0
    · have h0' : (A : Int) = 0 := by omega
      rw [if_pos h0, if_pos h0]
      simp -implicitDefEqProofs [L55, t1, i64n_len, hlp, h0, h0']
    · have h0' : ¬ (A : Int) = 0 := by omega
      have hfr := fraction_i S A (by omega) (by omega) (by omega)
      rw [if_neg h0, if_neg h0]
      generalize S / Nat.gcd S A = x at *
      generalize A / Nat.gcd S A = y at *
      simp -implicitDefEqProofs [L55, t1, i64n_len, hlp, h0, h0', hfr]
-- ---------------------------------------------------------------- heard
def fH (ms : List ByteArray) (i : Nat) : Nat := heardN ms (ms.getD i ⟨#[]⟩) ((ms.getD i ⟨#[]⟩).size + 1) 0
theorem fH_le {ms : List ByteArray} {c : Nat} (hs : ∀ x ∈ ms, x.size ≤ c) (i : Nat) : fH ms i ≤ c + 1 := by
  have h := heardN_le ms (ms.getD i ⟨#[]⟩) ((ms.getD i ⟨#[]⟩).size + 1) 0
  unfold fH
  have h2 : (ms.getD i ⟨#[]⟩).size ≤ c := by
    rw [List.getD_eq_getElem?_getD]
    cases hg : ms[i]? with
    | none => exact Nat.zero_le c
    | some x => exact hs x (List.mem_of_getElem? hg)
  omega
theorem heardNum_loop (ms : List ByteArray) (hm : ms.length ≤ 8796093022208) (hs : ∀ x ∈ ms, x.size ≤ 140737488355328) (W : List AV) : ∀ (k i : Nat) (r : List AV), i + k = ms.length → r.length ≤ i →
    packX 0 [1, 4, 6] (loopW (bd E0 (ev E0) loopW 0 [1, 2, 4, 6, 7] L15b0) ⟨[(1, .lst 1 W), (2, .ptr 0 0 0), (4, .ptr 1 0 0), (6, .sl 2 0 r.length), (7, i64 i)], [some ⟨26, 1, 0, false, [.agg [.lst 1 (ms.map st)]]⟩, some ⟨39, 2, 0, false, [.agg [i64 0, i64 0]]⟩, some ⟨3, 1, 1, false, r⟩]⟩) = some (.ext 0, ⟨[(1, .lst 1 W), (4, .ptr 0 0 0), (6, .sl 1 0 (r.length + (numF (fH ms) k i).length))], [some ⟨39, 2, 0, false, [.agg [i64 0, i64 0]]⟩, some ⟨3, 1, 1, false, r ++ i64n (numF (fH ms) k i)⟩]⟩) := by
  intro k
  induction k with
  | zero =>
    intro i r h hr
    have hi : ¬ i < ms.length := by omega
    rw [loopW_eq]
    generalize loopW (bd E0 (ev E0) loopW 0 [1, 2, 4, 6, 7] L15b0) = K
    simp -implicitDefEqProofs [bd, L15b0, hi, numF, i64n]
  | succ k ih =>
    intro i r h hr
    have hi : i < ms.length := by omega
    have hw : IntKind.i64.wrap ((i : Int) + 1) = (i : Int) + 1 := wr64 (by omega) (by omega)
    have hcall : ev E0 44 [.agg [.lst 1 (ms.map st)], i64 i] [] = some (i64 (fH ms i), []) := by
      have := heard_s ms hm i hi _ rfl (hs _ (List.getElem_mem hi))
      rw [getD_at hi] at this
      exact this
    have hih := ih (i + 1) (r ++ [i64 (fH ms i)]) (by omega) (by simp; omega)
    rw [cs1] at hih
    have h3 : (r.length + 1) * 8 ≤ 140737488355328 := by omega
    have h4 : r.length + 1 ≤ 140737488355328 := by omega
    have h5 : r.length + (numF (fH ms) (k + 1) i).length = (r ++ [i64 (fH ms i)]).length + (numF (fH ms) k (i + 1)).length := by simp [numF]; omega
    have h6 : r ++ i64n (numF (fH ms) (k + 1) i) = (r ++ [i64 (fH ms i)]) ++ i64n (numF (fH ms) k (i + 1)) := by simp [numF, i64n]
    rw [h5, h6, loopW_eq]
    generalize numF (fH ms) k (i + 1) = q at hih ⊢
    generalize fH ms i = v at hih hcall ⊢
    generalize loopW (bd E0 (ev E0) loopW 0 [1, 2, 4, 6, 7] L15b0) = K at hih ⊢
    simpa -implicitDefEqProofs [bd, L15b0, hi, hw, hcall, h3, h4] using hih
/-- A mean, told of what it is. -/
def MeanOf (ms : List ByteArray) (l : List Int) (f : Nat → Nat) (x y : Int) (ok : Bool) : Prop := ((okTable ms && (okW l && decide ((l.length : Int) = (ms.length : Int)))) = false ∧ x = 0 ∧ y = 0 ∧ ok = false) ∨ ((okTable ms && (okW l && decide ((l.length : Int) = (ms.length : Int)))) = true ∧ ∃ W : List Nat, i64s l = i64n W ∧ W.length = ms.length ∧ x = meanA f W ∧ y = meanB f W ∧ ok = meanO W)
theorem meanHeard' (ms : List ByteArray) (hm : ms.length ≤ 8796093022208) (hs : ∀ x ∈ ms, x.size ≤ 1073741824) (l : List Int) (hl : l.length ≤ 140737488355328) : ∃ x y ok,
    ev E0 15 [.agg [.lst 1 (ms.map st)], .lst 1 (i64s l)] [] = some (.tup [.agg [i64 x, i64 y], bl ok], []) ∧
    ev E0 14 [.agg [.lst 1 (ms.map st)], .lst 1 (i64s l)] [] = some (.tup [.agg [i64 x, i64 y], bl ok], []) ∧ MeanOf ms l (fH ms) x y ok := by
  have hs2 : ∀ x ∈ ms, x.size ≤ 140737488355328 := fun x hx => by have := hs x hx; omega
  rw [e15, e14]
  unfold runF
  have t1 := table_s ms (by omega) hs2
  have hi := mean_i ms (by omega) hs2 56 rfl (fH ms) 1073741825 (by omega) (fun i => fH_le hs i) (fun hT i hi => by
    rw [e56]
    unfold runF
    have := heard_i ms hm i hi _ rfl (hs2 _ (List.getElem_mem hi))
    rw [getD_at hi] at this
    have hcall : ev E0 42 [.agg [.lst 1 (ms.map st)], i64 i] [] = some (i64 (fH ms i), []) := this
    simp -implicitDefEqProofs [L56, hcall]) l hl
  cases hT : okTable ms with
  | false =>
    rw [hT] at t1 hi
    have hi1 := hi.1 rfl
    refine ⟨0, 0, false, ?_, ?_, .inl ⟨by simp [*], rfl, rfl, rfl⟩⟩
    · simp -implicitDefEqProofs [L15, t1]
    · simp -implicitDefEqProofs [L14, hi1]
  | true =>
    rw [hT] at t1 hi
    rw [Bool.true_and] at hi
    have hten := okTable_len hT
    have hnum := heardNum_loop ms hm hs2 (i64s l) ms.length 0 [] (by omega) (by simp)
    rw [c0, List.nil_append, List.length_nil, Nat.zero_add] at hnum
    rcases mean_s (fH ms) 1073741825 (by omega) (fun i => fH_le hs i) ms.length l hl hten.2 with ⟨h1, h2⟩ | ⟨h1, W, e, hW, hlen, h2⟩
    · have hi1 := hi.1 h1
      refine ⟨0, 0, false, ?_, ?_, .inl ⟨by simp [*], rfl, rfl, rfl⟩⟩
      · simp -implicitDefEqProofs [L15, t1, hnum, i64n_len, h2]
      · simp -implicitDefEqProofs [L14, hi1]
    · have hi2 := hi.2 W h1 e hW hlen
      refine ⟨meanA (fH ms) W, meanB (fH ms) W, meanO W, ?_, ?_, .inr ⟨by rw [hT, h1]; rfl, W, e, hlen, rfl, rfl, rfl⟩⟩
      · simp -implicitDefEqProofs [L15, t1, hnum, i64n_len, h2]
      · simp -implicitDefEqProofs [L14, hi2]
theorem meanHeard (ms : List ByteArray) (hm : ms.length ≤ 8796093022208) (hs : ∀ x ∈ ms, x.size ≤ 1073741824) (l : List Int) (hl : l.length ≤ 140737488355328) : ∃ x y ok,
    ev E0 15 [.agg [.lst 1 (ms.map st)], .lst 1 (i64s l)] [] = some (.tup [.agg [i64 x, i64 y], bl ok], []) ∧
    ev E0 14 [.agg [.lst 1 (ms.map st)], .lst 1 (i64s l)] [] = some (.tup [.agg [i64 x, i64 y], bl ok], []) := by
  obtain ⟨x, y, ok, h1, h2, _⟩ := meanHeard' ms hm hs l hl
  exact ⟨x, y, ok, h1, h2⟩
end Go.Proofs.YtkajcafnfdlgpaaDoor.Ev
