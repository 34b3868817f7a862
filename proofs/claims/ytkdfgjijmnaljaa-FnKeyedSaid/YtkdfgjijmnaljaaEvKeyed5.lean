/- Traces joined and stretched; rows of numbers held against each other. -/
import Derived.Test.YtkdfgjijmnaljaaEvKeyed4
set_option linter.unusedVariables false
set_option linter.unusedSimpArgs false
namespace Go.Proofs.Ytkdfgjijmnaljaa.Ev
open Ky
theorem joinS (a b : List Int) (ha : a.length ≤ 140737488355328) (hb : b.length ≤ 140737488355328) (u : Int) : ev E0 15 [.lst 1 (i64s a), i64 u, .lst 1 (i64s b)] [] = some (if (okTr a && (okTr b && okLen u)) = true then mdS (a ++ u :: b) else (.tup [.sl 0 0 0, bl false], [some ⟨3, 1, 1, false, []⟩])) := by
  have h1 := trace_s a ha
  have h2 := trace_s b hb
  have h3 := in_s u 1 999
  change ev E0 _ _ _ = some (bl (okLen u), []) at h3
  rw [e15]
  unfold runF
  cases oa : okTr a with
  | false => rw [oa] at h1; simp -implicitDefEqProofs [L15, h1]
  | true =>
    rw [oa] at h1
    cases ob : okTr b with
    | false => rw [ob] at h2; simp -implicitDefEqProofs [L15, h1, h2]
    | true =>
      rw [ob] at h2
      cases ou : okLen u with
      | false => rw [ou] at h3; simp -implicitDefEqProofs [L15, h1, h2, h3]
      | true =>
        rw [ou] at h3
        obtain ⟨a1, a2, a3⟩ := okTr_b oa
        obtain ⟨b1, b2, b3⟩ := okTr_b ob
        have ho := own_s a (by omega)
        have hm := made_s (a ++ u :: b) (by rw [List.length_append, List.length_cons]; omega)
        have hbn : ¬ i64s b = [] := fun e => by have := i64s_len b; rw [e] at this; simp at this; omega
        have hl1 : (a.length + 1) * 8 ≤ 140737488355328 := by omega
        have hl2 : a.length + 1 ≤ 140737488355328 := by omega
        have hl3 : (a.length + 1 + b.length) * 8 ≤ 140737488355328 := by omega
        have hl4 : a.length + 1 + b.length ≤ 140737488355328 := by omega
        have hap : i64s a ++ i64 u :: i64s b = i64s (a ++ u :: b) := (i64s_app a (u :: b)).symm
        have htk := i64s_take a
        have hla := i64s_len a
        have hlb := i64s_len b
        have hlab := i64s_len (a ++ u :: b)
        have hlen : (a ++ u :: b).length = a.length + 1 + b.length := by rw [List.length_append, List.length_cons]; omega
        rw [hlen] at hlab
        have htk2 : List.take (a.length + 1 + b.length) (i64s (a ++ u :: b)) = i64s (a ++ u :: b) := List.take_of_length_le (by omega)
        have htk3 : List.take (a.length + 1) (i64s a ++ [i64 u]) = i64s a ++ [i64 u] := List.take_of_length_le (by rw [List.length_append, hla]; simp)
        unfold bi at ho
        unfold mdS at hm ⊢
        generalize i64s (a ++ u :: b) = R at *
        generalize i64s a = A at *
        generalize i64s b = B at *
        cases hr : okTr (a ++ u :: b) with
        | false =>
          rw [hr] at hm
          simp only [Bool.false_eq_true, if_false] at hm
          simp -implicitDefEqProofs [L15, h1, h2, h3, ho, hm, hbn, hl1, hl2, hl3, hl4, hla, hlb, hlab, htk, htk2, htk3, hap]
        | true =>
          rw [hr] at hm
          simp only [if_true] at hm
          simp -implicitDefEqProofs [L15, h1, h2, h3, ho, hm, hbn, hl1, hl2, hl3, hl4, hla, hlb, hlab, htk, htk2, htk3, hap]
theorem joinI (a b : List Int) (ha : a.length ≤ 140737488355328) (hb : b.length ≤ 140737488355328) (u : Int) : ev E0 14 [.lst 1 (i64s a), i64 u, .lst 1 (i64s b)] [] = some (if (okTr a && (okTr b && okLen u)) = true then mdI (a ++ u :: b) else (.tup [.v (.slice none 0 0), bl false], [])) := by
  have h1 := trace_i a ha
  have h2 := trace_i b hb
  have h3 := in_i u 1 999
  change ev E0 _ _ _ = some (bl (okLen u), []) at h3
  rw [e14]
  unfold runF
  cases oa : okTr a with
  | false => rw [oa] at h1; simp -implicitDefEqProofs [L14, h1]
  | true =>
    rw [oa] at h1
    cases ob : okTr b with
    | false => rw [ob] at h2; simp -implicitDefEqProofs [L14, h1, h2]
    | true =>
      rw [ob] at h2
      cases ou : okLen u with
      | false => rw [ou] at h3; simp -implicitDefEqProofs [L14, h1, h2, h3]
      | true =>
        rw [ou] at h3
        obtain ⟨a1, a2, a3⟩ := okTr_b oa
        obtain ⟨b1, b2, b3⟩ := okTr_b ob
        have hc := concat_i a b u a3 b3 (fun e => by subst e; simp at a2) (fun e => by subst e; simp at b2)
        have hm := made_i (a ++ u :: b) (by rw [List.length_append, List.length_cons]; omega)
        have htk := i64s_take (a ++ u :: b)
        have hlab := i64s_len (a ++ u :: b)
        have hfr : okL (free 5) (i64s (a ++ u :: b)) = true := free_i64 _
        unfold bi at hc
        unfold mdI at hm ⊢
        generalize i64s (a ++ u :: b) = R at *
        generalize (a ++ u :: b).length = n at *
        generalize i64s a = A at *
        generalize i64s b = B at *
        cases hr : okTr (a ++ u :: b) with
        | false =>
          rw [hr] at hm
          simp only [Bool.false_eq_true, if_false] at hm
          simp -implicitDefEqProofs [L14, h1, h2, h3, hc, hm, htk, hlab, hfr]
        | true =>
          rw [hr] at hm
          simp only [if_true] at hm
          simp -implicitDefEqProofs [L14, h1, h2, h3, hc, hm, htk, hlab, hfr]
theorem unit_i (u : Int) : ev E0 33 [i64 u] [] = some (bl (okUnit u), []) := by
  rw [e33]
  unfold runF okUnit
  simp -implicitDefEqProofs [L33, in_i]
def strF (p q x : Int) : Int := (x * p).tdiv q
theorem strF_b {p q x : Int} (hp : 1 ≤ p ∧ p ≤ 99) (hq : 1 ≤ q ∧ q ≤ 99) (hx : 1 ≤ x ∧ x ≤ 999) : 0 ≤ strF p q x ∧ strF p q x ≤ 98901 ∧ 0 ≤ x * p ∧ x * p ≤ 98901 := by
  have h0 : 0 ≤ x * p := Int.mul_nonneg (by omega) (by omega)
  have h1 : x * p ≤ 999 * 99 := Int.mul_le_mul hx.2 hp.2 (by omega) (by omega)
  have h2 : strF p q x ≤ x * p := Int.tdiv_le_self _ h0
  exact ⟨Int.tdiv_nonneg h0 (by omega), by omega, h0, by omega⟩

theorem stretch_loopS (l : List Int) (hl : l.length ≤ 143) (hb : ∀ x ∈ l, 1 ≤ x ∧ x ≤ 999) (p q : Int) (hp : 1 ≤ p ∧ p ≤ 99) (hq : 1 ≤ q ∧ q ≤ 99) : ∀ (t : List Int) (i : Nat) (acc : List Int), l.drop i = t → acc.length = i →
    packX 0 [8] (loopW (bd E0 (ev E0) loopW 0 [0, 1, 2, 8, 9] L18b0) ⟨[(0, .lst 1 (i64s l)), (1, i64 p), (2, i64 q), (8, .sl 0 0 acc.length), (9, i64 i)], [some ⟨3, 1, 1, false, i64s acc⟩]⟩) = some (.ext 0, ⟨[(8, .sl 0 0 (acc ++ t.map (strF p q)).length)], [some ⟨3, 1, 1, false, i64s (acc ++ t.map (strF p q))⟩]⟩) := by
  intro t
  induction t with
  | nil =>
    intro i acc h ha
    have hi := not_drop h
    have hi2 : ¬ (i : Int) < (l.length : Int) := by omega
    rw [List.map_nil, List.append_nil, loopW_eq]
    generalize i64s acc = A
    generalize loopW (bd E0 (ev E0) loopW 0 [0, 1, 2, 8, 9] L18b0) = K
    simp -implicitDefEqProofs [bd, L18b0, i64s_len, hi, hi2]
  | cons x t ih =>
    intro i acc h ha
    obtain ⟨hi, hx, hd, hmem⟩ := at_drop h
    have hbx := strF_b hp hq (hb x hmem)
    have hih := ih (i + 1) (acc ++ [strF p q x]) hd (by rw [List.length_append, ha]; rfl)
    have hi2 : (i : Int) < (l.length : Int) := by omega
    have g1 := i64s_at hi hx
    have hw : IntKind.i64.wrap ((i : Int) + 1) = (i : Int) + 1 := wr64 (by omega) (by omega)
    have hw1 : IntKind.i64.wrap (x * p) = x * p := wr64 (by omega) (by omega)
    have hw2 : IntKind.i64.wrap ((x * p).tdiv q) = strF p q x := wr64 (by unfold strF at hbx; omega) (by unfold strF at hbx; omega)
    have hq0 : ¬ q = 0 := by omega
    have hl1 : (acc.length + 1) * 8 ≤ 140737488355328 := by omega
    have hl2 : acc.length + 1 ≤ 140737488355328 := by omega
    have htk := i64s_take acc
    have hol := i64s_len acc
    have hap : i64s (acc ++ [strF p q x]) = i64s acc ++ [i64 (strF p q x)] := i64s_app acc _
    have hcat : acc ++ (x :: t).map (strF p q) = acc ++ [strF p q x] ++ t.map (strF p q) := by simp
    have hpl : (acc ++ [strF p q x]).length = acc.length + 1 := by simp
    rw [cs1, hap, hpl] at hih
    rw [hcat, loopW_eq]
    generalize i64s (acc ++ [strF p q x] ++ t.map (strF p q)) = R at hih ⊢
    generalize (acc ++ [strF p q x] ++ t.map (strF p q)).length = Rn at hih ⊢
    generalize i64s acc = A at hih htk hol ⊢
    have hol2 : acc.length ≤ A.length := by omega
    generalize strF p q x = v at *
    generalize loopW (bd E0 (ev E0) loopW 0 [0, 1, 2, 8, 9] L18b0) = K at hih ⊢
    simpa -implicitDefEqProofs [bd, L18b0, i64s_len, hi, hi2, g1, hw, hw1, hw2, hq0, hl1, hl2, htk, hol, hol2] using hih
theorem stretchS (l : List Int) (hl : l.length ≤ 140737488355328) (p q : Int) : ev E0 18 [.lst 1 (i64s l), i64 p, i64 q] [] = some (if (okTr l && (okUnit p && okUnit q)) = true then mdS (l.map (strF p q)) else (.tup [.sl 0 0 0, bl false], [some ⟨3, 1, 1, false, []⟩])) := by
  have h1 := trace_s l hl
  have h2 := unit_s p
  have h3 := unit_s q
  rw [e18]
  unfold runF
  cases ho : okTr l with
  | false => rw [ho] at h1; simp -implicitDefEqProofs [L18, h1]
  | true =>
    rw [ho] at h1
    cases op : okUnit p with
    | false => rw [op] at h2; simp -implicitDefEqProofs [L18, h1, h2]
    | true =>
      rw [op] at h2
      cases oq : okUnit q with
      | false => rw [oq] at h3; simp -implicitDefEqProofs [L18, h1, h2, h3]
      | true =>
        rw [oq] at h3
        obtain ⟨b1, b2, b3⟩ := okTr_b ho
        have hpb : 1 ≤ p ∧ p ≤ 99 := by unfold okUnit at op; rwa [Bool.and_eq_true, decide_eq_true_eq, decide_eq_true_eq] at op
        have hqb : 1 ≤ q ∧ q ≤ 99 := by unfold okUnit at oq; rwa [Bool.and_eq_true, decide_eq_true_eq, decide_eq_true_eq] at oq
        have hlp := stretch_loopS l b3 b1 p q hpb hqb l 0 [] rfl rfl
        have hm := made_s (l.map (strF p q)) (by rw [List.length_map]; omega)
        rw [List.nil_append, List.length_nil, c0, show i64s [] = [] from rfl] at hlp
        have htk := i64s_take (l.map (strF p q))
        have hfl := i64s_len (l.map (strF p q))
        have gl := i64s_len l
        unfold mdS at hm ⊢
        generalize l.map (strF p q) = R at *
        generalize i64s l = A at *
        cases hr : okTr R with
        | false =>
          rw [hr] at hm
          simp only [Bool.false_eq_true, if_false] at hm
          simp -implicitDefEqProofs [L18, h1, h2, h3, hlp, htk, hfl, hm, gl]
        | true =>
          rw [hr] at hm
          simp only [if_true] at hm
          simp -implicitDefEqProofs [L18, h1, h2, h3, hlp, htk, hfl, hm, gl]

theorem stretch_loopI (l : List Int) (hl : l.length ≤ 143) (hb : ∀ x ∈ l, 1 ≤ x ∧ x ≤ 999) (p q : Int) (hp : 1 ≤ p ∧ p ≤ 99) (hq : 1 ≤ q ∧ q ≤ 99) : ∀ (t : List Int) (i : Nat) (acc : List Int), l.drop i = t → acc.length = i →
    packX 0 [8] (loopW (bd E0 (ev E0) loopW 0 [1, 2, 8, 25, 26, 27] L17b0) ⟨[(1, i64 p), (2, i64 q), (8, .sl 0 0 acc.length), (25, .lst 1 (i64s l)), (26, i64 l.length), (27, i64 i)], [some ⟨3, 1, 1, false, i64s acc⟩]⟩) = some (.ext 0, ⟨[(8, .sl 0 0 (acc ++ t.map (strF p q)).length)], [some ⟨3, 1, 1, false, i64s (acc ++ t.map (strF p q))⟩]⟩) := by
  intro t
  induction t with
  | nil =>
    intro i acc h ha
    have hi := not_drop h
    have hi2 : ¬ (i : Int) < (l.length : Int) := by omega
    rw [List.map_nil, List.append_nil, loopW_eq]
    generalize i64s acc = A
    generalize loopW (bd E0 (ev E0) loopW 0 [1, 2, 8, 25, 26, 27] L17b0) = K
    simp -implicitDefEqProofs [bd, L17b0, i64s_len, hi, hi2]
  | cons x t ih =>
    intro i acc h ha
    obtain ⟨hi, hx, hd, hmem⟩ := at_drop h
    have hbx := strF_b hp hq (hb x hmem)
    have hih := ih (i + 1) (acc ++ [strF p q x]) hd (by rw [List.length_append, ha]; rfl)
    have hi2 : (i : Int) < (l.length : Int) := by omega
    have g1 := i64s_at hi hx
    have hw : IntKind.i64.wrap ((i : Int) + 1) = (i : Int) + 1 := wr64 (by omega) (by omega)
    have hw1 : IntKind.i64.wrap (x * p) = x * p := wr64 (by omega) (by omega)
    have hw2 : IntKind.i64.wrap ((x * p).tdiv q) = strF p q x := wr64 (by unfold strF at hbx; omega) (by unfold strF at hbx; omega)
    have hq0 : ¬ q = 0 := by omega
    have hl1 : (acc.length + 1) * 8 ≤ 140737488355328 := by omega
    have hl2 : acc.length + 1 ≤ 140737488355328 := by omega
    have htk := i64s_take acc
    have hol := i64s_len acc
    have hap : i64s (acc ++ [strF p q x]) = i64s acc ++ [i64 (strF p q x)] := i64s_app acc _
    have hcat : acc ++ (x :: t).map (strF p q) = acc ++ [strF p q x] ++ t.map (strF p q) := by simp
    have hpl : (acc ++ [strF p q x]).length = acc.length + 1 := by simp
    rw [cs1, hap, hpl] at hih
    rw [hcat, loopW_eq]
    generalize i64s (acc ++ [strF p q x] ++ t.map (strF p q)) = R at hih ⊢
    generalize (acc ++ [strF p q x] ++ t.map (strF p q)).length = Rn at hih ⊢
    generalize i64s acc = A at hih htk hol ⊢
    have hol2 : acc.length ≤ A.length := by omega
    generalize strF p q x = v at *
    generalize loopW (bd E0 (ev E0) loopW 0 [1, 2, 8, 25, 26, 27] L17b0) = K at hih ⊢
    simpa -implicitDefEqProofs [bd, L17b0, i64s_len, hi, hi2, g1, hw, hw1, hw2, hq0, hl1, hl2, htk, hol, hol2] using hih
theorem stretchI (l : List Int) (hl : l.length ≤ 140737488355328) (p q : Int) : ev E0 17 [.lst 1 (i64s l), i64 p, i64 q] [] = some (if (okTr l && (okUnit p && okUnit q)) = true then mdI (l.map (strF p q)) else (.tup [.v (.slice none 0 0), bl false], [])) := by
  have h1 := trace_i l hl
  have h2 := unit_i p
  have h3 := unit_i q
  rw [e17]
  unfold runF
  cases ho : okTr l with
  | false => rw [ho] at h1; simp -implicitDefEqProofs [L17, h1]
  | true =>
    rw [ho] at h1
    cases op : okUnit p with
    | false => rw [op] at h2; simp -implicitDefEqProofs [L17, h1, h2]
    | true =>
      rw [op] at h2
      cases oq : okUnit q with
      | false => rw [oq] at h3; simp -implicitDefEqProofs [L17, h1, h2, h3]
      | true =>
        rw [oq] at h3
        obtain ⟨b1, b2, b3⟩ := okTr_b ho
        have hpb : 1 ≤ p ∧ p ≤ 99 := by unfold okUnit at op; rwa [Bool.and_eq_true, decide_eq_true_eq, decide_eq_true_eq] at op
        have hqb : 1 ≤ q ∧ q ≤ 99 := by unfold okUnit at oq; rwa [Bool.and_eq_true, decide_eq_true_eq, decide_eq_true_eq] at oq
        have hlp := stretch_loopI l b3 b1 p q hpb hqb l 0 [] rfl rfl
        have hm := made_i (l.map (strF p q)) (by rw [List.length_map]; omega)
        rw [List.nil_append, List.length_nil, c0, show i64s [] = [] from rfl] at hlp
        have htk := i64s_take (l.map (strF p q))
        have hfl := i64s_len (l.map (strF p q))
        have gl := i64s_len l
        unfold mdI at hm ⊢
        generalize l.map (strF p q) = R at *
        generalize i64s l = A at *
        cases hr : okTr R with
        | false =>
          rw [hr] at hm
          simp only [Bool.false_eq_true, if_false] at hm
          simp -implicitDefEqProofs [L17, h1, h2, h3, hlp, htk, hfl, hm, gl]
        | true =>
          rw [hr] at hm
          simp only [if_true] at hm
          simp -implicitDefEqProofs [L17, h1, h2, h3, hlp, htk, hfl, hm, gl]

theorem vints_loop (a b : List Int) (hl : a.length = b.length) (hm : a.length ≤ 140737488355328) : ∀ (t u : List Int) (i : Nat), a.drop i = t → b.drop i = u →
    (t = u → packX 0 [4] (loopW (bd E0 (ev E0) loopW 0 [0, 1, 5] L19b0) ⟨[(0, .lst 1 (i64s a)), (1, .lst 1 (i64s b)), (5, i64 i)], []⟩) = some (.ext 0, ⟨[], []⟩)) ∧
    (t ≠ u → packX 0 [4] (loopW (bd E0 (ev E0) loopW 0 [0, 1, 5] L19b0) ⟨[(0, .lst 1 (i64s a)), (1, .lst 1 (i64s b)), (5, i64 i)], []⟩) = some (.ret, ⟨[(4, bl false)], []⟩)) := by
  intro t
  induction t with
  | nil =>
    intro u i h1 h2
    have hi := not_drop h1
    have hi2 : ¬ (i : Int) < (a.length : Int) := by omega
    have hu : u = [] := by rw [← h2]; exact List.drop_eq_nil_iff.2 (by omega)
    subst hu
    rw [loopW_eq]
    generalize loopW (bd E0 (ev E0) loopW 0 [0, 1, 5] L19b0) = K
    refine ⟨fun _ => ?_, fun h => absurd rfl h⟩
    simp -implicitDefEqProofs [bd, L19b0, i64s_len, hi, hi2]
  | cons c t ih =>
    intro u i h1 h2
    obtain ⟨hi, hx, hd, hmem⟩ := at_drop h1
    match u, h2 with
    | [], h2 => have := not_drop h2; omega
    | d :: u, h2 =>
      obtain ⟨hj, hy, hd2, hmem2⟩ := at_drop h2
      obtain ⟨ih1, ih2⟩ := ih u (i + 1) hd hd2
      rw [cs1] at ih1 ih2
      have hi2 : (i : Int) < (a.length : Int) := by omega
      have hj2 : (i : Int) < (b.length : Int) := by omega
      have hw : IntKind.i64.wrap ((i : Int) + 1) = (i : Int) + 1 := wr64 (by omega) (by omega)
      have g1 := i64s_at hi hx
      have g2 := i64s_at hj hy
      rw [loopW_eq]
      generalize loopW (bd E0 (ev E0) loopW 0 [0, 1, 5] L19b0) = K at ih1 ih2 ⊢
      by_cases hcd : c = d
      · subst hcd
        refine ⟨fun h => ?_, fun h => ?_⟩
        · simpa -implicitDefEqProofs [bd, L19b0, i64s_len, hi, hi2, hj, hj2, g1, g2, hw] using ih1 (List.cons.inj h).2
        · simpa -implicitDefEqProofs [bd, L19b0, i64s_len, hi, hi2, hj, hj2, g1, g2, hw] using ih2 (fun e => h (by rw [e]))
      · refine ⟨fun h => absurd (List.cons.inj h).1 hcd, fun _ => ?_⟩
        simp -implicitDefEqProofs [bd, L19b0, i64s_len, hi, hi2, hj, hj2, g1, g2, hcd]
theorem vints (a b : List Int) (hm : a.length ≤ 140737488355328) (hb : b.length ≤ 140737488355328) : ev E0 19 [.lst 1 (i64s a), .lst 1 (i64s b)] [] = some (bl (decide (a = b)), []) := by
  rw [e19]
  unfold runF
  by_cases hl : a.length = b.length
  · have hl2 : (a.length : Int) = (b.length : Int) := by omega
    obtain ⟨k1, k2⟩ := vints_loop a b hl hm a b 0 rfl rfl
    rw [c0] at k1 k2
    have ga := i64s_len a
    have gb := i64s_len b
    by_cases h : a = b
    · have k := k1 h
      rw [decide_eq_true h]
      generalize i64s a = A at *
      generalize i64s b = B at *
      simp -implicitDefEqProofs [L19, ga, gb, hl, k]
    · have k := k2 h
      rw [decide_eq_false h]
      generalize i64s a = A at *
      generalize i64s b = B at *
      simp -implicitDefEqProofs [L19, ga, gb, hl, k]
  · have hl2 : ¬ (a.length : Int) = (b.length : Int) := by omega
    have h : ¬ a = b := fun e => hl (by rw [e])
    have ga := i64s_len a
    have gb := i64s_len b
    rw [decide_eq_false h]
    generalize i64s a = A at *
    generalize i64s b = B at *
    simp -implicitDefEqProofs [L19, ga, gb, hl, hl2]
end Go.Proofs.Ytkdfgjijmnaljaa.Ev
