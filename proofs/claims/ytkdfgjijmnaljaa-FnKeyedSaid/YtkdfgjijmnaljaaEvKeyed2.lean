/- Traces with short lengths filled or dropped, turned back, joined, stretched; the reference's functions and the program's. -/
import Derived.Test.YtkdfgjijmnaljaaEvKeyed
set_option linter.unusedVariables false
set_option linter.unusedSimpArgs false
namespace Go.Proofs.Ytkdfgjijmnaljaa.Ev
open Ky
def bi (l : List Int) : Blk := ⟨3, 1, 1, false, i64s l⟩
theorem i64s_app (a b : List Int) : i64s (a ++ b) = i64s a ++ i64s b := List.map_append
theorem i64s_take (l : List Int) : List.take l.length (i64s l) = i64s l := List.take_of_length_le (by rw [i64s_len]; exact Nat.le_refl _)
theorem i64s_at {l : List Int} {i : Nat} {x : Int} (hi : i < l.length) (h : l[i] = x) : ∀ h, (i64s l)[i]'h = i64 x := fun h2 => by
  have h3 : (i64s l)[i]? = some (i64 x) := by unfold i64s; rw [List.getElem?_map, List.getElem?_eq_getElem hi, h]; rfl
  exact (List.getElem?_eq_some_iff.1 h3).2

theorem fill_loopS (l : List Int) (hl : l.length ≤ 143) (hb : ∀ x ∈ l, 1 ≤ x ∧ x ≤ 999) (n : Int) : ∀ (k : Nat) (t : List Int) (i : Nat) (pre : List Int) (c : Int), t.length = 2 * k → l.drop i = t → pre.length ≤ i → 0 ≤ c → c ≤ 999 * i →
    packX 0 [6] (loopW (bd E0 (ev E0) loopW 0 [0, 1, 6, 7] L7b0) ⟨[(0, .lst 1 (i64s l)), (1, i64 n), (6, .sl 0 0 (pre.length + 1)), (7, i64 i)], [some ⟨3, 1, 1, false, i64s (pre ++ [c])⟩]⟩) = some (.ext 0, ⟨[(6, .sl 0 0 (pre ++ fill n c t).length)], [some ⟨3, 1, 1, false, i64s (pre ++ fill n c t)⟩]⟩) := by
  intro k
  induction k with
  | zero =>
    intro t i pre c h1 h2 h3 h4 h5
    obtain rfl := List.length_eq_zero_iff.1 h1
    have hi := not_drop h2
    have hi2 : ¬ (i : Int) < (l.length : Int) := by omega
    have hf : pre ++ fill n c [] = pre ++ [c] := rfl
    have hfl : (pre ++ [c]).length = pre.length + 1 := by simp
    rw [hf, hfl, loopW_eq]
    generalize i64s (pre ++ [c]) = A
    generalize loopW (bd E0 (ev E0) loopW 0 [0, 1, 6, 7] L7b0) = K
    simp -implicitDefEqProofs [bd, L7b0, i64s_len, hi, hi2]
  | succ k ih =>
    intro t i pre c h1 h2 h3 h4 h5
    match t, h1, h2 with
    | a :: b :: t, h1, h2 =>
      simp only [List.length_cons] at h1
      obtain ⟨hi, hx, hd, hmem⟩ := at_drop h2
      obtain ⟨hj, hy, hd2, hmem2⟩ := at_drop hd
      have ha := hb a hmem
      have hbb := hb b hmem2
      have hi2 : (i : Int) < (l.length : Int) := by omega
      have hj2 : (i : Int) + 1 < (l.length : Int) := by omega
      have hw1 : IntKind.i64.wrap ((i : Int) + 1) = ((i + 1 : Nat) : Int) := by rw [wr64 (by omega) (by omega)]; omega
      have hw2 : IntKind.i64.wrap ((i : Int) + 2) = ((i + 1 + 1 : Nat) : Int) := by rw [wr64 (by omega) (by omega)]; omega
      have g1 := i64s_at hi hx
      have g2 := i64s_at hj hy
      have hp : IntKind.i64.wrap (pre.length : Int) = pre.length := wr64 (by omega) (by omega)
      have hq1 : (pre.length : Int) < (pre.length : Int) + 1 := by omega
      have hq2 : (0 : Int) ≤ (i : Int) + 1 := by omega
      have hA : (i64s (pre ++ [c])).length = pre.length + 1 := by rw [i64s_len]; simp
      have hget : ∀ h, (i64s (pre ++ [c]))[pre.length]'h = i64 c := i64s_at (by simp) (by simp)
      have htk : List.take (pre.length + 1) (i64s (pre ++ [c])) = i64s (pre ++ [c]) := List.take_of_length_le (by rw [hA]; exact Nat.le_refl _)
      rw [loopW_eq]
      by_cases hn : a < n
      · have hih := ih t (i + 1 + 1) pre (c + a + b) (by omega) hd2 (by omega) (by omega) (by omega)
        have hf : fill n c (a :: b :: t) = fill n (c + a + b) t := by rw [fill, if_pos hn]
        have hset : (i64s (pre ++ [c])).set pre.length (i64 (c + a + b)) = i64s (pre ++ [c + a + b]) := by unfold i64s; simp
        have hw3 : IntKind.i64.wrap (c + a) = c + a := wr64 (by omega) (by omega)
        have hw4 : IntKind.i64.wrap (c + a + b) = c + a + b := wr64 (by omega) (by omega)
        rw [hf]
        generalize i64s (pre ++ fill n (c + a + b) t) = R at hih ⊢
        generalize (pre ++ fill n (c + a + b) t).length = Rn at hih ⊢
        generalize i64s (pre ++ [c + a + b]) = A2 at hih hset
        generalize i64s (pre ++ [c]) = A at hset hget hA htk ⊢
        subst hset
        generalize hm : ((i + 1 + 1 : Nat) : Int) = m at hw2 hih
        generalize loopW (bd E0 (ev E0) loopW 0 [0, 1, 6, 7] L7b0) = K at hih ⊢
        simpa -implicitDefEqProofs [bd, L7b0, i64s_len, hi, hi2, hj, hj2, hw1, hw2, hw3, hw4, g1, g2, hn, hp, hA, hget, hq1, hq2] using hih
      · have hih := ih t (i + 1 + 1) (pre ++ [c, a]) b (by omega) hd2 (by simp; omega) (by omega) (by omega)
        have hf : pre ++ fill n c (a :: b :: t) = pre ++ [c, a] ++ fill n b t := by rw [fill, if_neg hn]; simp
        have hap : i64s (pre ++ [c]) ++ [i64 a, i64 b] = i64s (pre ++ [c, a] ++ [b]) := by unfold i64s; simp
        have hl1 : (pre.length + 1 + 1 + 1) * 8 ≤ 140737488355328 := by omega
        have hl2 : pre.length + 1 + 1 + 1 ≤ 140737488355328 := by omega
        have hpl : (pre ++ [c, a]).length + 1 = pre.length + 1 + 2 := by simp
        have hA2 : pre.length + 1 ≤ (i64s (pre ++ [c])).length := by omega
        rw [hpl] at hih
        rw [hf]
        generalize i64s (pre ++ [c, a] ++ fill n b t) = R at hih ⊢
        generalize (pre ++ [c, a] ++ fill n b t).length = Rn at hih ⊢
        generalize i64s (pre ++ [c, a] ++ [b]) = A2 at hih hap
        generalize i64s (pre ++ [c]) = A at hap hget hA htk hA2 ⊢
        clear hA
        generalize hm : ((i + 1 + 1 : Nat) : Int) = m at hw2 hih
        generalize loopW (bd E0 (ev E0) loopW 0 [0, 1, 6, 7] L7b0) = K at hih ⊢
        simpa -implicitDefEqProofs [bd, L7b0, i64s_len, hi, hi2, hj, hj2, hw1, hw2, g1, g2, hn, hl1, hl2, htk, hap, hA2, hq2] using hih

theorem fillS (l : List Int) (hl : l.length ≤ 140737488355328) (n : Int) : ev E0 7 [.lst 1 (i64s l), i64 n] [] = some (if (okTr l && okLen n) = true then mdS (fillT n l) else (.tup [.sl 0 0 0, bl false], [some ⟨3, 1, 1, false, []⟩])) := by
  have h1 := trace_s l hl
  have h2 := in_s n 1 999
  change ev E0 _ _ _ = some (bl (okLen n), []) at h2
  rw [e7]
  unfold runF
  cases ho : okTr l with
  | false =>
    rw [ho] at h1
    simp -implicitDefEqProofs [L7, h1]
  | true =>
    rw [ho] at h1
    cases hn : okLen n with
    | false =>
      rw [hn] at h2
      simp -implicitDefEqProofs [L7, h1, h2]
    | true =>
      rw [hn] at h2
      obtain ⟨b1, b2, b3⟩ := okTr_b ho
      match l, b1, b2, b3, h1 with
      | c :: t, b1, b2, b3, h1 =>
        simp only [List.length_cons] at b2 b3
        have hc := b1 c (by simp)
        have hlp := fill_loopS (c :: t) (by simp; omega) b1 n (t.length / 2) t 1 [] c (by omega) rfl (by simp) (by omega) (by omega)
        have hz := fill_len n t.length c t (Nat.le_refl _)
        have hm := made_s (fill n c t) (by omega)
        rw [List.nil_append, List.nil_append] at hlp
        have e1 : i64s [c] = [i64 c] := rfl
        have c1 : ((1 : Nat) : Int) = 1 := rfl
        rw [e1, c1] at hlp
        have htk := i64s_take (fill n c t)
        have hfl := i64s_len (fill n c t)
        have hft : fillT n (c :: t) = fill n c t := rfl
        rw [hft]
        have g0 : ∀ h, (i64s (c :: t))[0]'h = i64 c := i64s_at (by simp) rfl
        have gl : (i64s (c :: t)).length = t.length + 1 := by rw [i64s_len]; rfl
        simp only [List.length_nil, Nat.zero_add] at hlp
        unfold mdS at hm ⊢
        generalize fill n c t = R at *
        generalize i64s (c :: t) = A at *
        cases hr : okTr R with
        | false =>
          rw [hr] at hm
          simp only [Bool.false_eq_true, if_false] at hm
          simp -implicitDefEqProofs [L7, h1, h2, hlp, htk, hfl, hm, g0, gl]
        | true =>
          rw [hr] at hm
          simp only [if_true] at hm
          simp -implicitDefEqProofs [L7, h1, h2, hlp, htk, hfl, hm, g0, gl]

theorem fill_loopI (l : List Int) (hl : l.length ≤ 143) (hb : ∀ x ∈ l, 1 ≤ x ∧ x ≤ 999) (n : Int) : ∀ (k : Nat) (t : List Int) (i : Nat) (pre : List Int) (c : Int), t.length = 2 * k → l.drop i = t → pre.length ≤ i → 0 ≤ c → c ≤ 999 * i →
    packX 0 [6] (loopW (bd E0 (ev E0) loopW 0 [0, 1, 6, 7] L6b0) ⟨[(0, .lst 1 (i64s l)), (1, i64 n), (6, .sl 0 0 (pre.length + 1)), (7, i64 i)], [some ⟨3, 1, 1, false, i64s (pre ++ [c])⟩]⟩) = some (.ext 0, ⟨[(6, .sl 0 0 (pre ++ fill n c t).length)], [some ⟨3, 1, 1, false, i64s (pre ++ fill n c t)⟩]⟩) := by
  intro k
  induction k with
  | zero =>
    intro t i pre c h1 h2 h3 h4 h5
    obtain rfl := List.length_eq_zero_iff.1 h1
    have hi := not_drop h2
    have hi2 : ¬ (i : Int) < (l.length : Int) := by omega
    have hf : pre ++ fill n c [] = pre ++ [c] := rfl
    have hfl : (pre ++ [c]).length = pre.length + 1 := by simp
    rw [hf, hfl, loopW_eq]
    generalize i64s (pre ++ [c]) = A
    generalize loopW (bd E0 (ev E0) loopW 0 [0, 1, 6, 7] L6b0) = K
    simp -implicitDefEqProofs [bd, L6b0, i64s_len, hi, hi2]
  | succ k ih =>
    intro t i pre c h1 h2 h3 h4 h5
    match t, h1, h2 with
    | a :: b :: t, h1, h2 =>
      simp only [List.length_cons] at h1
      obtain ⟨hi, hx, hd, hmem⟩ := at_drop h2
      obtain ⟨hj, hy, hd2, hmem2⟩ := at_drop hd
      have ha := hb a hmem
      have hbb := hb b hmem2
      have hi2 : (i : Int) < (l.length : Int) := by omega
      have hj2 : (i : Int) + 1 < (l.length : Int) := by omega
      have hw1 : IntKind.i64.wrap ((i : Int) + 1) = ((i + 1 : Nat) : Int) := by rw [wr64 (by omega) (by omega)]; omega
      have hw2 : IntKind.i64.wrap ((i : Int) + 2) = ((i + 1 + 1 : Nat) : Int) := by rw [wr64 (by omega) (by omega)]; omega
      have g1 := i64s_at hi hx
      have g2 := i64s_at hj hy
      have hp : IntKind.i64.wrap (pre.length : Int) = pre.length := wr64 (by omega) (by omega)
      have hq1 : (pre.length : Int) < (pre.length : Int) + 1 := by omega
      have hq2 : (0 : Int) ≤ (i : Int) + 1 := by omega
      have hA : (i64s (pre ++ [c])).length = pre.length + 1 := by rw [i64s_len]; simp
      have hget : ∀ h, (i64s (pre ++ [c]))[pre.length]'h = i64 c := i64s_at (by simp) (by simp)
      have htk : List.take (pre.length + 1) (i64s (pre ++ [c])) = i64s (pre ++ [c]) := List.take_of_length_le (by rw [hA]; exact Nat.le_refl _)
      rw [loopW_eq]
      by_cases hn : a < n
      · have hih := ih t (i + 1 + 1) pre (c + a + b) (by omega) hd2 (by omega) (by omega) (by omega)
        have hf : fill n c (a :: b :: t) = fill n (c + a + b) t := by rw [fill, if_pos hn]
        have hset : (i64s (pre ++ [c])).set pre.length (i64 (c + a + b)) = i64s (pre ++ [c + a + b]) := by unfold i64s; simp
        have hw3 : IntKind.i64.wrap (a + b) = a + b := wr64 (by omega) (by omega)
        have hw4 : IntKind.i64.wrap (c + (a + b)) = c + a + b := by rw [wr64 (by omega) (by omega)]; omega
        rw [hf]
        generalize i64s (pre ++ fill n (c + a + b) t) = R at hih ⊢
        generalize (pre ++ fill n (c + a + b) t).length = Rn at hih ⊢
        generalize i64s (pre ++ [c + a + b]) = A2 at hih hset
        generalize i64s (pre ++ [c]) = A at hset hget hA htk ⊢
        subst hset
        generalize hm : ((i + 1 + 1 : Nat) : Int) = m at hw2 hih
        generalize loopW (bd E0 (ev E0) loopW 0 [0, 1, 6, 7] L6b0) = K at hih ⊢
        simpa -implicitDefEqProofs [bd, L6b0, i64s_len, hi, hi2, hj, hj2, hw1, hw2, hw3, hw4, g1, g2, hn, hp, hA, hget, hq1, hq2] using hih
      · have hih := ih t (i + 1 + 1) (pre ++ [c, a]) b (by omega) hd2 (by simp; omega) (by omega) (by omega)
        have hf : pre ++ fill n c (a :: b :: t) = pre ++ [c, a] ++ fill n b t := by rw [fill, if_neg hn]; simp
        have hap : i64s (pre ++ [c]) ++ [i64 a, i64 b] = i64s (pre ++ [c, a] ++ [b]) := by unfold i64s; simp
        have hl1 : (pre.length + 1 + 1 + 1) * 8 ≤ 140737488355328 := by omega
        have hl2 : pre.length + 1 + 1 + 1 ≤ 140737488355328 := by omega
        have hpl : (pre ++ [c, a]).length + 1 = pre.length + 1 + 2 := by simp
        have hA2 : pre.length + 1 ≤ (i64s (pre ++ [c])).length := by omega
        rw [hpl] at hih
        rw [hf]
        generalize i64s (pre ++ [c, a] ++ fill n b t) = R at hih ⊢
        generalize (pre ++ [c, a] ++ fill n b t).length = Rn at hih ⊢
        generalize i64s (pre ++ [c, a] ++ [b]) = A2 at hih hap
        generalize i64s (pre ++ [c]) = A at hap hget hA htk hA2 ⊢
        clear hA
        generalize hm : ((i + 1 + 1 : Nat) : Int) = m at hw2 hih
        generalize loopW (bd E0 (ev E0) loopW 0 [0, 1, 6, 7] L6b0) = K at hih ⊢
        simpa -implicitDefEqProofs [bd, L6b0, i64s_len, hi, hi2, hj, hj2, hw1, hw2, g1, g2, hn, hl1, hl2, htk, hap, hA2, hq2] using hih

theorem fillI (l : List Int) (hl : l.length ≤ 140737488355328) (n : Int) : ev E0 6 [.lst 1 (i64s l), i64 n] [] = some (if (okTr l && okLen n) = true then mdI (fillT n l) else (.tup [.v (.slice none 0 0), bl false], [])) := by
  have h1 := trace_i l hl
  have h2 := in_i n 1 999
  change ev E0 _ _ _ = some (bl (okLen n), []) at h2
  rw [e6]
  unfold runF
  cases ho : okTr l with
  | false =>
    rw [ho] at h1
    simp -implicitDefEqProofs [L6, h1]
  | true =>
    rw [ho] at h1
    cases hn : okLen n with
    | false =>
      rw [hn] at h2
      simp -implicitDefEqProofs [L6, h1, h2]
    | true =>
      rw [hn] at h2
      obtain ⟨b1, b2, b3⟩ := okTr_b ho
      match l, b1, b2, b3, h1 with
      | c :: t, b1, b2, b3, h1 =>
        simp only [List.length_cons] at b2 b3
        have hc := b1 c (by simp)
        have hlp := fill_loopI (c :: t) (by simp; omega) b1 n (t.length / 2) t 1 [] c (by omega) rfl (by simp) (by omega) (by omega)
        have hz := fill_len n t.length c t (Nat.le_refl _)
        have hm := made_i (fill n c t) (by omega)
        rw [List.nil_append, List.nil_append] at hlp
        have e1 : i64s [c] = [i64 c] := rfl
        have c1 : ((1 : Nat) : Int) = 1 := rfl
        rw [e1, c1] at hlp
        have htk := i64s_take (fill n c t)
        have hfl := i64s_len (fill n c t)
        have hft : fillT n (c :: t) = fill n c t := rfl
        rw [hft]
        have g0 : ∀ h, (i64s (c :: t))[0]'h = i64 c := i64s_at (by simp) rfl
        have gl : (i64s (c :: t)).length = t.length + 1 := by rw [i64s_len]; rfl
        simp only [List.length_nil, Nat.zero_add] at hlp
        unfold mdI at hm ⊢
        generalize fill n c t = R at *
        generalize i64s (c :: t) = A at *
        cases hr : okTr R with
        | false =>
          rw [hr] at hm
          simp only [Bool.false_eq_true, if_false] at hm
          simp -implicitDefEqProofs [L6, h1, h2, hlp, htk, hfl, hm, g0, gl]
        | true =>
          rw [hr] at hm
          simp only [if_true] at hm
          simp -implicitDefEqProofs [L6, h1, h2, hlp, htk, hfl, hm, g0, gl]

end Go.Proofs.Ytkdfgjijmnaljaa.Ev
