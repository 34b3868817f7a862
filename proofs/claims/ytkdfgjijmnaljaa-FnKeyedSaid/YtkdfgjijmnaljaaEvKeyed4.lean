/- Traces turned back, joined, stretched; the reference's functions and the program's. -/
import Derived.Test.YtkdfgjijmnaljaaEvKeyed3
set_option linter.unusedVariables false
set_option linter.unusedSimpArgs false
namespace Go.Proofs.Ytkdfgjijmnaljaa.Ev
open Ky
-- ---------------------------------------------------------------- turned back
theorem backS_loop (l : List Int) (hl : l.length ≤ 143) : ∀ (k : Nat) (acc : List Int), k ≤ l.length → acc = (l.drop k).reverse →
    packX 0 [4] (loopW (bd E0 (ev E0) loopW 0 [0, 4, 5] L11b0) ⟨[(0, .lst 1 (i64s l)), (4, .sl 0 0 acc.length), (5, i64 ((k : Int) - 1))], [some ⟨3, 1, 1, false, i64s acc⟩]⟩) = some (.ext 0, ⟨[(4, .sl 0 0 l.reverse.length)], [some ⟨3, 1, 1, false, i64s l.reverse⟩]⟩) := by
  intro k
  induction k with
  | zero =>
    intro acc _ ha
    rw [List.drop_zero] at ha
    subst ha
    rw [loopW_eq]
    generalize i64s l.reverse = A
    generalize loopW (bd E0 (ev E0) loopW 0 [0, 4, 5] L11b0) = K
    simp -implicitDefEqProofs [-List.length_reverse, bd, L11b0]
  | succ k ih =>
    intro acc hk ha
    have hkl : k < l.length := by omega
    have hdk : l.drop k = l[k] :: l.drop (k + 1) := List.drop_eq_getElem_cons hkl
    have hih := ih (acc ++ [l[k]]) (by omega) (by rw [hdk, List.reverse_cons, ha])
    have g1 := i64s_at hkl rfl
    generalize l[k] = x at hih g1
    have hi : ((k + 1 : Nat) : Int) - 1 = (k : Int) := by omega
    have hk0 : (0 : Int) ≤ (k : Int) := by omega
    have hk2 : (k : Int) < (l.length : Int) := by omega
    have hw : IntKind.i64.wrap ((k : Int) - 1) = (k : Int) - 1 := wr64 (by omega) (by omega)
    have hal : acc.length ≤ 143 := by rw [ha, List.length_reverse, List.length_drop]; omega
    have hl1 : (acc.length + 1) * 8 ≤ 140737488355328 := by omega
    have hl2 : acc.length + 1 ≤ 140737488355328 := by omega
    have htk := i64s_take acc
    have hol := i64s_len acc
    have hap : i64s (acc ++ [x]) = i64s acc ++ [i64 x] := i64s_app acc [x]
    have hpl : (acc ++ [x]).length = acc.length + 1 := by simp
    rw [hap, hpl] at hih
    rw [hi, loopW_eq]
    generalize hm : (k : Int) - 1 = m at hw hih
    generalize i64s l.reverse = R at hih ⊢
    generalize l.reverse.length = Rn at hih ⊢
    clear ha hap
    generalize i64s acc = A at hih htk hol ⊢
    have hol2 : acc.length ≤ A.length := by omega
    generalize loopW (bd E0 (ev E0) loopW 0 [0, 4, 5] L11b0) = K at hih ⊢
    simpa -implicitDefEqProofs [bd, L11b0, i64s_len, hk0, hk2, hkl, g1, hw, hm, hl1, hl2, htk, hol, hol2] using hih
theorem backS (l : List Int) (hl : l.length ≤ 140737488355328) : ev E0 11 [.lst 1 (i64s l)] [] = some (if okTr l = true then (.tup [.sl 0 0 l.reverse.length, bl true], [some (bi l.reverse)]) else (.tup [.sl 0 0 0, bl false], [some ⟨3, 1, 1, false, []⟩])) := by
  have h1 := trace_s l hl
  rw [e11]
  unfold runF bi
  cases ho : okTr l with
  | false => rw [ho] at h1; simp -implicitDefEqProofs [L11, h1]
  | true =>
    rw [ho] at h1
    obtain ⟨b1, b2, b3⟩ := okTr_b ho
    have hlp := backS_loop l b3 l.length [] (Nat.le_refl _) (by simp)
    have hw : IntKind.i64.wrap ((l.length : Int) - 1) = (l.length : Int) - 1 := wr64 (by omega) (by omega)
    rw [List.length_nil, show i64s [] = [] from rfl] at hlp
    generalize hm : (l.length : Int) - 1 = m at hw hlp
    simp -implicitDefEqProofs [-List.length_reverse, L11, h1, i64s_len, hm, hw, hlp]
theorem clone_i (x : Int) (t : List Int) (hl : t.length ≤ 1073741824) : ev E0 29 [.lst 1 (i64s (x :: t))] [] = some (.sl 0 0 (t.length + 1), [some (bi (x :: t))]) := by
  have e1 : i64s (x :: t) = i64 x :: i64s t := rfl
  have hl1 : (t.length + 1) * 8 ≤ 140737488355328 := by omega
  have hl2 : t.length + 1 ≤ 140737488355328 := by omega
  have hz := i64s_len t
  rw [e29]
  unfold runF bi
  rw [e1]
  simp -implicitDefEqProofs [L29, hz, hl1, hl2]
theorem rev_loop : ∀ (k : Nat) (P M Q : List Int) (n : Nat), M.length ≤ k → n = P.length + M.length + Q.length → n ≤ 1073741824 →
    packX 1 [] (loopW (bd E0 (ev E0) loopW 1 [0, 2, 3] L30b0) ⟨[(0, .sl 0 0 n), (2, i64 P.length), (3, i64 ((P.length : Int) + M.length - 1))], [some ⟨3, 1, 1, false, i64s (P ++ M ++ Q)⟩]⟩) = some (.ext 0, ⟨[], [some ⟨3, 1, 1, false, i64s (P ++ M.reverse ++ Q)⟩]⟩) := by
  intro k
  induction k with
  | zero =>
    intro P M Q n hk hn hb
    obtain rfl := List.length_eq_zero_iff.1 (Nat.le_zero.1 hk)
    have hc : ¬ (P.length : Int) < (P.length : Int) + ((0 : Nat) : Int) - 1 := by omega
    rw [List.length_nil, loopW_eq, List.reverse_nil]
    generalize (P.length : Int) + ((0 : Nat) : Int) - 1 = j at hc
    generalize i64s (P ++ [] ++ Q) = A
    generalize loopW (bd E0 (ev E0) loopW 1 [0, 2, 3] L30b0) = K
    simp -implicitDefEqProofs [bd, L30b0, hc]
  | succ k ih =>
    intro P M Q n hk hn hb
    match M, hk, hn with
    | [], hk, hn => exact ih P [] Q n (by simp) hn hb
    | [x], hk, hn =>
      have hc : ¬ (P.length : Int) < (P.length : Int) + (([x].length : Nat) : Int) - 1 := by simp
      rw [List.reverse_singleton, loopW_eq]
      generalize (P.length : Int) + (([x].length : Nat) : Int) - 1 = j at hc
      generalize i64s (P ++ [x] ++ Q) = A
      generalize loopW (bd E0 (ev E0) loopW 1 [0, 2, 3] L30b0) = K
      simp -implicitDefEqProofs [bd, L30b0, hc]
    | x :: z :: T, hk, hn =>
      obtain ⟨M', y, hM⟩ : ∃ M' y, z :: T = M' ++ [y] := by
        rcases List.eq_nil_or_concat (z :: T) with h | ⟨M', y, h⟩
        · cases h
        · exact ⟨M', y, by rw [h, List.concat_eq_append]⟩
      rw [hM] at hk hn ⊢
      simp only [List.length_cons, List.length_append, List.length_nil] at hk hn
      have hih := ih (P ++ [y]) M' ([x] ++ Q) n (by omega) (by simp; omega) hb
      have hj : (P.length : Int) + ((x :: (M' ++ [y])).length : Nat) - 1 = ((P.length + M'.length + 1 : Nat) : Int) := by simp; omega
      have hj2 : ((P ++ [y]).length : Int) + (M'.length : Int) - 1 = ((P.length + M'.length : Nat) : Int) := by simp; omega
      have hpl : ((P ++ [y]).length : Int) = ((P.length + 1 : Nat) : Int) := by simp
      have hrev : P ++ (x :: (M' ++ [y])).reverse ++ Q = P ++ [y] ++ M'.reverse ++ ([x] ++ Q) := by simp
      rw [hj2, hpl] at hih
      rw [hj, hrev, loopW_eq]
      have hlen : (i64s (P ++ (x :: (M' ++ [y])) ++ Q)).length = n := by rw [i64s_len]; simp; omega
      have hg1 : ∀ h, (i64s (P ++ (x :: (M' ++ [y])) ++ Q))[P.length]'h = i64 x := i64s_at (by simp) (by simp)
      have hg2 : ∀ h, (i64s (P ++ (x :: (M' ++ [y])) ++ Q))[P.length + M'.length + 1]'h = i64 y := i64s_at (by simp; omega) (by
        have e1 : P ++ (x :: (M' ++ [y])) ++ Q = (P ++ x :: M') ++ y :: Q := by simp
        simp only [e1]
        rw [List.getElem_append_right (by simp; omega)]
        simp [Nat.add_assoc])
      have hset : ((i64s (P ++ (x :: (M' ++ [y])) ++ Q)).set P.length (i64 y)).set (P.length + M'.length + 1) (i64 x) = i64s (P ++ [y] ++ M' ++ ([x] ++ Q)) := by
        have a1 : i64s (P ++ (x :: (M' ++ [y])) ++ Q) = i64s P ++ i64 x :: (i64s M' ++ i64 y :: i64s Q) := by simp [i64s]
        have a2 : i64s (P ++ [y] ++ M' ++ ([x] ++ Q)) = (i64s P ++ i64 y :: i64s M') ++ i64 x :: i64s Q := by simp [i64s]
        rw [a1, a2]
        have b1 : ∀ (A B : List AV) (u v : AV), (A ++ u :: B).set A.length v = A ++ v :: B := by
          intro A B u v
          induction A with
          | nil => rfl
          | cons c A ih => rw [List.cons_append, List.length_cons, List.set_cons_succ, ih]; rfl
        have b2 := b1 (i64s P) (i64s M' ++ i64 y :: i64s Q) (i64 x) (i64 y)
        rw [i64s_len] at b2
        have b3 := b1 (i64s P ++ i64 y :: i64s M') (i64s Q) (i64 y) (i64 x)
        have b4 : (i64s P ++ i64 y :: i64s M').length = P.length + M'.length + 1 := by simp [i64s_len]; omega
        rw [b4, List.append_assoc, List.cons_append] at b3
        rw [b2, b3]
      have hg3 : ∀ h, ((i64s (P ++ (x :: (M' ++ [y])) ++ Q)).set P.length (i64 y))[P.length + M'.length + 1]'h = i64 y := fun h => by
        rw [List.getElem_set_ne (by omega)]
        exact hg2 _
      have c1 : P.length < n := by omega
      have c2 : P.length + M'.length + 1 < n := by omega
      have c3 : (P.length : Int) < (n : Int) := by omega
      have c4 : ((P.length + M'.length + 1 : Nat) : Int) < (n : Int) := by omega
      have c5 : (P.length : Int) < ((P.length + M'.length + 1 : Nat) : Int) := by omega
      have w1 : IntKind.i64.wrap ((P.length : Int) + 1) = ((P.length + 1 : Nat) : Int) := by rw [wr64 (by omega) (by omega)]; omega
      have w2 : IntKind.i64.wrap (((P.length + M'.length + 1 : Nat) : Int) - 1) = ((P.length + M'.length : Nat) : Int) := by rw [wr64 (by omega) (by omega)]; omega
      have c6 : (0 : Int) ≤ ((P.length + M'.length + 1 : Nat) : Int) := by omega
      have c7 : ((P.length + M'.length + 1 : Nat) : Int).toNat = P.length + M'.length + 1 := Int.toNat_natCast _
      generalize i64s (P ++ [y] ++ M'.reverse ++ ([x] ++ Q)) = R at hih ⊢
      generalize i64s (P ++ [y] ++ M' ++ ([x] ++ Q)) = A2 at hih hset
      generalize i64s (P ++ (x :: (M' ++ [y])) ++ Q) = A at hlen hg1 hg2 hg3 hset ⊢
      generalize ((P.length + M'.length : Nat) : Int) = jp at w2 hih
      generalize ((P.length + 1 : Nat) : Int) = ip at w1 hih
      subst hset
      generalize hq : P.length + M'.length + 1 = q at *
      generalize loopW (bd E0 (ev E0) loopW 1 [0, 2, 3] L30b0) = K at hih ⊢
      simpa -implicitDefEqProofs [bd, L30b0, hlen, hg1, hg2, hg3, c1, c2, c3, c4, c5, c6, w1, w2] using hih
theorem reverse_i (l : List Int) (hl : l.length ≤ 1073741824) : ev E0 30 [.sl 0 0 l.length] [some (bi l)] = some (.tup [], [some (bi l.reverse)]) := by
  have h := rev_loop l.length [] l [] l.length (Nat.le_refl _) (by simp) hl
  have hw : IntKind.i64.wrap ((l.length : Int) - 1) = (l.length : Int) - 1 := wr64 (by omega) (by omega)
  have e0 : (([] : List Int).length : Int) + (l.length : Int) - 1 = (l.length : Int) - 1 := by simp
  have e1 : (([] : List Int).length : Int) = 0 := rfl
  rw [e0, e1, List.nil_append, List.nil_append, List.append_nil, List.append_nil] at h
  rw [e30]
  unfold runF bi
  generalize hm : (l.length : Int) - 1 = m at hw h
  simp -implicitDefEqProofs [-List.length_reverse, L30, hm, hw, h]
theorem backI (l : List Int) (hl : l.length ≤ 140737488355328) : ev E0 10 [.lst 1 (i64s l)] [] = some (if okTr l = true then (.tup [.sl 0 0 l.reverse.length, bl true], [some (bi l.reverse)]) else (.tup [.v (.slice none 0 0), bl false], [])) := by
  have h1 := trace_i l hl
  rw [e10]
  unfold runF
  cases ho : okTr l with
  | false => rw [ho] at h1; simp -implicitDefEqProofs [L10, h1]
  | true =>
    rw [ho] at h1
    obtain ⟨b1, b2, b3⟩ := okTr_b ho
    match l, b2, b3, h1 with
    | x :: t, b2, b3, h1 =>
      simp only [List.length_cons] at b2 b3
      have h2 := clone_i x t (by omega)
      have h3 := reverse_i (x :: t) (by simp; omega)
      rw [List.length_cons] at h3
      have hr : (x :: t).reverse.length = t.length + 1 := by simp
      rw [if_pos rfl, hr]
      unfold bi at h2 h3 ⊢
      generalize i64s (x :: t) = A at *
      generalize i64s (x :: t).reverse = R at *
      simp -implicitDefEqProofs [L10, h1, h2, h3]
-- ---------------------------------------------------------------- joined
theorem own_s (l : List Int) (hl : l.length ≤ 1073741824) : ev E0 32 [.lst 1 (i64s l)] [] = some (.sl 0 0 l.length, [some (bi l)]) := by
  have hl1 : l.length * 8 ≤ 140737488355328 := by omega
  have hl2 : l.length ≤ 140737488355328 := by omega
  have hz := i64s_len l
  rw [e32]
  unfold runF bi
  by_cases h : l = []
  · subst h
    have e0 : i64s [] = [] := rfl
    rw [e0]
    simp -implicitDefEqProofs [L32]
  · have h0 : ¬ i64s l = [] := fun e => h (List.eq_nil_of_length_eq_zero (by rw [← hz, e]; rfl))
    generalize i64s l = A at *
    simp -implicitDefEqProofs [L32, hz, h0, hl1, hl2]
theorem grow_i (n : Nat) (h0 : 0 < n) (hn : n ≤ 1073741824) : ev E0 43 [.v (.slice none 0 0), i64 n] [] = some (.sl 0 0 0, [some ⟨3, 1, 1, false, List.replicate n (i64 0)⟩]) := by
  have h1 : ¬ (n : Int) < 0 := by omega
  have h2 : (0 : Int) < (n : Int) := by omega
  have hw : IntKind.i64.wrap (n : Int) = n := wr64 (by omega) (by omega)
  have hw0 : IntKind.i64.wrap 0 = 0 := by decide
  have h3 : (n : Int) * 8 ≤ 140737488355328 := by omega
  have h4 : (n : Int) ≤ 140737488355328 := by omega
  rw [e43]
  unfold runF
  simp -implicitDefEqProofs [L43, h0, h1, h2, h3, h4, hw, hw0]
/-- Rows of numbers, as elements of a row. -/
def wi (l : List Int) : AV := .lst 1 (i64s l)
def cat : List (List Int) → List Int
  | [] => []
  | l :: r => l ++ cat r
theorem size_loop (W : List (List Int)) (hW : W.length ≤ 1000) (hz : ∀ l ∈ W, l.length ≤ 1000000) : ∀ (t : List (List Int)) (i c : Nat), W.drop i = t → c ≤ i * 1000000 →
    packX 0 [0, 3] (loopW (bd E0 (ev E0) loopW 0 [0, 3, 9, 10, 11] L31b0) ⟨[(0, .lst 1 (W.map wi)), (3, i64 c), (9, .lst 1 (W.map wi)), (10, i64 W.length), (11, i64 i)], []⟩) = some (.ext 0, ⟨[(0, .lst 1 (W.map wi)), (3, i64 ((c + (cat t).length : Nat) : Int))], []⟩) := by
  intro t
  induction t with
  | nil =>
    intro i c h hc
    have hi := not_drop h
    have hi2 : ¬ (i : Int) < (W.length : Int) := by omega
    rw [loopW_eq]
    generalize loopW (bd E0 (ev E0) loopW 0 [0, 3, 9, 10, 11] L31b0) = K
    simp -implicitDefEqProofs [bd, L31b0, hi, hi2, cat]
  | cons x t ih =>
    intro i c h hc
    obtain ⟨hi, hx, hd, hmem⟩ := at_drop h
    have hxz := hz x hmem
    have hih := ih (i + 1) (c + x.length) hd (by omega)
    have hi2 : (i : Int) < (W.length : Int) := by omega
    have hbig : i * 1000000 ≤ 1000 * 1000000 := Nat.mul_le_mul_right _ (by omega)
    have hw : IntKind.i64.wrap ((i : Int) + 1) = (i : Int) + 1 := wr64 (by omega) (by omega)
    have hw2 : IntKind.i64.wrap ((c : Int) + (x.length : Int)) = ((c + x.length : Nat) : Int) := by rw [wr64 (by omega) (by omega)]; omega
    have hneg : ¬ ((c + x.length : Nat) : Int) < 0 := by omega
    have hg : ∀ h, wi (W[i]'h) = .lst 1 (i64s x) := fun h => by rw [hx]; rfl
    have hcat : c + (cat (x :: t)).length = c + x.length + (cat t).length := by rw [cat, List.length_append]; omega
    rw [cs1] at hih
    rw [hcat, loopW_eq]
    generalize ((c + x.length + (cat t).length : Nat) : Int) = q at hih ⊢
    generalize ((c + x.length : Nat) : Int) = m at hih hw2 hneg
    generalize loopW (bd E0 (ev E0) loopW 0 [0, 3, 9, 10, 11] L31b0) = K at hih ⊢
    simpa -implicitDefEqProofs [bd, L31b0, hi, hi2, hg, hw, hw2, hneg, i64s_len] using hih
theorem cat_loop (W : List (List Int)) (hW : W.length ≤ 1000) (hz : ∀ l ∈ W, l.length ≤ 1000000 ∧ l ≠ []) : ∀ (t : List (List Int)) (i : Nat) (acc : List Int) (es : List AV), W.drop i = t → acc.length ≤ i * 1000000 → es.take acc.length = i64s acc → acc.length ≤ es.length → (t = [] → es = i64s acc) →
    packX 0 [6] (loopW (bd E0 (ev E0) loopW 0 [6, 25, 26, 27] L31b1) ⟨[(6, .sl 0 0 acc.length), (25, .lst 1 (W.map wi)), (26, i64 W.length), (27, i64 i)], [some ⟨3, 1, 1, false, es⟩]⟩) = some (.ext 2, ⟨[(6, .sl 0 0 (acc ++ cat t).length)], [some ⟨3, 1, 1, false, i64s (acc ++ cat t)⟩]⟩) := by
  intro t
  induction t with
  | nil =>
    intro i acc es h hc h1 h2 h3
    have hi := not_drop h
    have hi2 : ¬ (i : Int) < (W.length : Int) := by omega
    rw [loopW_eq, h3 rfl]
    generalize loopW (bd E0 (ev E0) loopW 0 [6, 25, 26, 27] L31b1) = K
    simp -implicitDefEqProofs [bd, L31b1, hi, hi2, cat]
  | cons x t ih =>
    intro i acc es h hc h1 h2 h3
    obtain ⟨hi, hx, hd, hmem⟩ := at_drop h
    obtain ⟨hxz, hxn⟩ := hz x hmem
    have hih := ih (i + 1) (acc ++ x) (i64s (acc ++ x)) hd (by rw [List.length_append]; omega) (i64s_take _) (by rw [i64s_len]; exact Nat.le_refl _) (fun _ => rfl)
    have hi2 : (i : Int) < (W.length : Int) := by omega
    have hbig : i * 1000000 ≤ 1000 * 1000000 := Nat.mul_le_mul_right _ (by omega)
    have hw : IntKind.i64.wrap ((i : Int) + 1) = (i : Int) + 1 := wr64 (by omega) (by omega)
    have hg : ∀ h, wi (W[i]'h) = .lst 1 (i64s x) := fun h => by rw [hx]; rfl
    have hl1 : (acc.length + x.length) * 8 ≤ 140737488355328 := by omega
    have hl2 : acc.length + x.length ≤ 140737488355328 := by omega
    have hxl := i64s_len x
    have hxn2 : ¬ i64s x = [] := fun e => hxn (List.eq_nil_of_length_eq_zero (by rw [← hxl, e]; rfl))
    have hcat : acc ++ cat (x :: t) = acc ++ x ++ cat t := by rw [cat, List.append_assoc]
    have hap : i64s (acc ++ x) = i64s acc ++ i64s x := i64s_app acc x
    rw [cs1, hap, List.length_append] at hih
    rw [hcat, loopW_eq]
    generalize i64s (acc ++ x ++ cat t) = R at hih ⊢
    generalize (acc ++ x ++ cat t).length = Rn at hih ⊢
    generalize i64s x = X at *
    generalize i64s acc = A at *
    subst h1
    generalize loopW (bd E0 (ev E0) loopW 0 [6, 25, 26, 27] L31b1) = K at hih ⊢
    simpa -implicitDefEqProofs [bd, L31b1, hi, hi2, hg, hw, hxl, hxn2, hl1, hl2, h2] using hih
theorem concat_i (a b : List Int) (u : Int) (ha : a.length ≤ 143) (hb : b.length ≤ 143) (ha0 : a ≠ []) (hb0 : b ≠ []) : ev E0 31 [.lst 1 [.lst 1 (i64s a), .lst 1 [i64 u], .lst 1 (i64s b)]] [] = some (.sl 0 0 (a ++ u :: b).length, [some (bi (a ++ u :: b))]) := by
  have hmem : ∀ l ∈ [a, [u], b], l.length ≤ 1000000 ∧ l ≠ [] := by
    intro l hl
    simp only [List.mem_cons, List.not_mem_nil, or_false] at hl
    rcases hl with rfl | rfl | rfl
    · exact ⟨by omega, ha0⟩
    · simp
    · exact ⟨by omega, hb0⟩
  have hs := size_loop [a, [u], b] (by simp) (fun l hl => (hmem l hl).1) [a, [u], b] 0 0 rfl (by omega)
  have hcat : cat [a, [u], b] = a ++ u :: b := by simp [cat]
  have hn0 : 0 < (a ++ u :: b).length := by rw [List.length_append, List.length_cons]; omega
  have hnb : (a ++ u :: b).length ≤ 1073741824 := by simp; omega
  have hg := grow_i (a ++ u :: b).length hn0 hnb
  have hc := cat_loop [a, [u], b] (by simp) hmem [a, [u], b] 0 [] (List.replicate (a ++ u :: b).length (i64 0)) rfl (by simp) rfl (by simp) (fun h => by simp at h)
  rw [hcat, List.nil_append, List.length_nil, c0] at hc
  rw [hcat, Nat.zero_add, c0] at hs
  have hW : [a, [u], b].map wi = [.lst 1 (i64s a), .lst 1 [i64 u], .lst 1 (i64s b)] := rfl
  have hWl : (([a, [u], b] : List (List Int)).length : Int) = 3 := rfl
  have hw3 : IntKind.i64.wrap 3 = 3 := by decide
  rw [hW, hWl] at hs hc
  rw [e31]
  unfold runF bi
  generalize (a ++ u :: b).length = n at *
  generalize i64s (a ++ u :: b) = R at *
  generalize i64s a = A at *
  generalize i64s b = B at *
  generalize List.replicate n (i64 0) = Z at *
  simp -implicitDefEqProofs [L31, hs, hg, hc]
end Go.Proofs.Ytkdfgjijmnaljaa.Ev
