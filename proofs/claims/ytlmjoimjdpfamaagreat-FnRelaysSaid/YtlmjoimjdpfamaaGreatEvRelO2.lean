/- The best order, as the reference finds it. -/
import Derived.Test.YtlmjoimjdpfamaaGreatEvRelO1
set_option linter.unusedVariables false
set_option linter.unusedSimpArgs false
namespace Go.Proofs.YtlmjoimjdpfamaaGreat.Ev
theorem orders_s : ∀ (n : Nat), n ≤ 5 → ∀ (l : List Nat), l.length = n → ev E0 42 [.lst 1 (l.map iN)] [] = some (.sl 0 0 (permsS n l).length, [rb (permsS n l)])
  | 0, _, l, h => by
    have : l = [] := List.eq_nil_of_length_eq_zero h
    subst this
    rw [e42]
    unfold runF permsS rb rwN
    simp -implicitDefEqProofs [L42]
  | n + 1, hn, l, h => by
    have hl := ordS_out n (by omega) (fun q hq => orders_s n (by omega) q hq) l h (List.range l.length) 0 [] rfl (by rw [List.length_range, h]; simp; omega)
    rw [e42]
    unfold runF
    rw [c0, List.nil_append] at hl
    have hp : (List.range l.length).flatMap (fun i => (permsS n (l.take i ++ l.drop (i + 1))).map fun r => l.getD i 0 :: r) = permsS (n + 1) l := rfl
    rw [hp] at hl
    have hne : ¬ (l.length : Int) = 0 := by omega
    have hne2 : ¬ l = [] := fun e => by rw [e] at h; cases h
    have hll : (l.map iN).length = l.length := by simp
    generalize hP : permsS (n + 1) l = P at *
    clear hP hp
    unfold rb at *
    simp only [List.map_nil, List.length_nil] at hl
    generalize l.map iN = X at *
    generalize P.map rwN = Z at *
    simp -implicitDefEqProofs [L42, hl, hll, hne, hne2]
theorem perms_perm : ∀ (n : Nat) (l : List Nat), l.length = n → ∀ r ∈ permsS n l, r.Perm l
  | 0, l, h, r, hr => by
    have : l = [] := List.eq_nil_of_length_eq_zero h
    subst this
    simp [permsS] at hr
    subst hr
    exact List.Perm.refl _
  | n + 1, l, h, r, hr => by
    unfold permsS at hr
    rw [List.mem_flatMap] at hr
    obtain ⟨i, hi, hr⟩ := hr
    rw [List.mem_range] at hi
    rw [List.mem_map] at hr
    obtain ⟨q, hq, rfl⟩ := hr
    have hp := perms_perm n (l.take i ++ l.drop (i + 1)) (by simp only [List.length_append, List.length_take, List.length_drop]; omega) q hq
    have hl : l = l.take i ++ l.getD i 0 :: l.drop (i + 1) := by
      rw [List.getD_eq_getElem?_getD, List.getElem?_eq_getElem hi, Option.getD_some, List.getElem_cons_drop, List.take_append_drop]
    have h2 : (l.getD i 0 :: q).Perm (l.take i ++ l.getD i 0 :: l.drop (i + 1)) := (List.Perm.cons _ hp).trans List.perm_middle.symm
    rw [← hl] at h2
    exact h2
def endO (js : List J) (od : List Nat) : Int := endF js (planF js od []) 0
def stepB (js : List J) (a : List Nat × Int) (od : List Nat) : List Nat × Int := if endO js od < a.2 then (od, endO js od) else a
def bestB (js : List J) : List (List Nat) → List Nat × Int
  | [] => ([], 0)
  | od :: t => t.foldl (stepB js) (od, endO js od)
theorem endF_ge0 (js : List J) : ∀ (pl : List Hh) (e : Int), e ≤ endF js pl e
  | [], e => Int.le_refl _
  | h :: t, e => by
    rw [endF]
    by_cases hc : e < endP js h
    · rw [if_pos hc]
      have := endF_ge0 js t (endP js h)
      omega
    · rw [if_neg hc]
      exact endF_ge0 js t e
theorem endO_nn (js : List J) (od : List Nat) : 0 ≤ endO js od := endF_ge0 js _ 0
/-- One order tried. -/
theorem plan_end_s (js : List J) (hj : ∀ j ∈ js, JB j) (od : List Nat) (ho : ∀ k ∈ od, k < js.length) (hol : od.length ≤ 100) : ev E0 32 [.lst 4 (js.map jb), .lst 1 (od.map iN)] [] = some (.sl 0 0 (planF js od []).length, [rh (planF js od [])]) ∧ ev E0 43 [.lst 4 (js.map jb), .lst 3 ((planF js od []).map hp)] [] = some (i64 (endO js od), []) := by
  obtain ⟨p1, p2, p3⟩ := plan_s js hj od ho hol
  rw [List.map_map, show (i64 ∘ fun k : Nat => (k : Int)) = iN from rfl] at p3
  exact ⟨p3, end_s js hj _ (fun x hx => (p1 x hx).1) (by omega)⟩
theorem bestS_loop (js : List J) (hj : ∀ j ∈ js, JB j) (ods : List (List Nat)) (ho : ∀ r ∈ ods, r.length ≤ 100 ∧ ∀ k ∈ r, k < js.length) (hm : ods.length ≤ 1000) : ∀ (t : List (List Nat)) (i : Nat) (b : List Nat) (e : Int), ods.drop i = t → 0 ≤ e →
    packX 0 [9, 10] (loopW (bd E0 (ev E0) loopW 0 [1, 9, 10, 11, 12] L11b1) ⟨[(1, .lst 4 (js.map jb)), (9, rwN b), (10, i64 e), (11, .sl 0 0 ods.length), (12, i64 i)], [rb ods]⟩) = some (.ext 2, ⟨[(9, rwN (t.foldl (stepB js) (b, e)).1), (10, i64 (t.foldl (stepB js) (b, e)).2)], []⟩) := by
  intro t
  induction t with
  | nil =>
    intro i b e h _
    have hi := not_drop h
    have hi2 : ¬ (i : Int) < (ods.length : Int) := by omega
    rw [loopW_eq, List.foldl_nil]
    generalize loopW (bd E0 (ev E0) loopW 0 [1, 9, 10, 11, 12] L11b1) = K
    unfold rb rwN
    simp -implicitDefEqProofs [bd, L11b1, hi]
  | cons r t ih =>
    intro i b e h he
    obtain ⟨hi, hx, hd, hmem⟩ := at_drop h
    obtain ⟨o1, o2⟩ := ho r hmem
    obtain ⟨p1, p2⟩ := plan_end_s js hj r o2 o1
    have hnn := endO_nn js r
    have hw : IntKind.i64.wrap ((i : Int) + 1) = (i : Int) + 1 := wr64 (by omega) (by omega)
    have hg : (ods.map rwN)[i]? = some (.lst 1 (r.map iN)) := by rw [List.getElem?_map, List.getElem?_eq_getElem hi, hx]; rfl
    have fI : okL (free 5) ((planF js r []).map hp) = true := okL_map (fun _ => rfl) _
    have tk : List.take (planF js r []).length ((planF js r []).map hp) = (planF js r []).map hp := List.take_of_length_le (by simp)
    have ql : (planF js r []).length ≤ ((planF js r []).map hp).length := by simp
    have he0 : ¬ e < 0 := by omega
    have hol : ods.length = (ods.map rwN).length := by simp
    rw [List.foldl_cons]
    have hst : stepB js (b, e) r = if endO js r < e then (r, endO js r) else (b, e) := rfl
    rw [hst]
    by_cases hlt : endO js r < e
    · have hih := ih (i + 1) r (endO js r) hd hnn
      rw [cs1] at hih
      rw [if_pos hlt, loopW_eq]
      generalize loopW (bd E0 (ev E0) loopW 0 [1, 9, 10, 11, 12] L11b1) = K at hih ⊢
      generalize List.foldl (stepB js) (r, endO js r) t = R at *
      unfold rb rwN rh at *
      generalize planF js r [] = Q at *
      generalize Q.map hp = Z at *
      generalize js.map jb = JL at *
      generalize ods.map (fun l => AV.lst 1 (l.map iN)) = OD at *
      simpa -implicitDefEqProofs [bd, L11b1, hi, hg, p1, p2, hw, fI, tk, ql, he0, hlt] using hih
    · have hih := ih (i + 1) b e hd he
      rw [cs1] at hih
      rw [if_neg hlt, loopW_eq]
      generalize loopW (bd E0 (ev E0) loopW 0 [1, 9, 10, 11, 12] L11b1) = K at hih ⊢
      generalize List.foldl (stepB js) (b, e) t = R at *
      unfold rb rwN rh at *
      generalize planF js r [] = Q at *
      generalize Q.map hp = Z at *
      generalize js.map jb = JL at *
      generalize ods.map (fun l => AV.lst 1 (l.map iN)) = OD at *
      simpa -implicitDefEqProofs [bd, L11b1, hi, hg, p1, p2, hw, fI, tk, ql, he0, hlt] using hih
def ri0 : Option Blk := some ⟨3, 1, 1, false, []⟩
theorem bestS_first (js : List J) (hj : ∀ j ∈ js, JB j) (r : List Nat) (t : List (List Nat)) (ho : ∀ q ∈ r :: t, q.length ≤ 100 ∧ ∀ k ∈ q, k < js.length) (hm : (r :: t).length ≤ 1000) :
    packX 0 [9, 10] (loopW (bd E0 (ev E0) loopW 0 [1, 9, 10, 11, 12] L11b1) ⟨[(1, .lst 4 (js.map jb)), (9, .sl 0 0 0), (10, i64 (-1)), (11, .sl 1 0 (r :: t).length), (12, i64 0)], [ri0, rb (r :: t)]⟩) = some (.ext 2, ⟨[(9, rwN (bestB js (r :: t)).1), (10, i64 (bestB js (r :: t)).2)], []⟩) := by
  obtain ⟨o1, o2⟩ := ho r (List.mem_cons_self ..)
  obtain ⟨p1, p2⟩ := plan_end_s js hj r o2 o1
  have hnn := endO_nn js r
  have hih := bestS_loop js hj (r :: t) ho hm t 1 r (endO js r) rfl hnn
  have hw : IntKind.i64.wrap 1 = 1 := wr64 (by omega) (by omega)
  have hg : ((r :: t).map rwN)[0]? = some (.lst 1 (r.map iN)) := rfl
  have fI : okL (free 5) ((planF js r []).map hp) = true := okL_map (fun _ => rfl) _
  have tk : List.take (planF js r []).length ((planF js r []).map hp) = (planF js r []).map hp := List.take_of_length_le (by simp)
  have ql : (planF js r []).length ≤ ((planF js r []).map hp).length := by simp
  have hpos : 0 < (r :: t).length := by simp
  have hpos2 : (0 : Int) < ((r :: t).length : Int) := by omega
  show _ = some (Ex.ext 2, (⟨[(9, rwN (t.foldl (stepB js) (r, endO js r)).1), (10, i64 (t.foldl (stepB js) (r, endO js r)).2)], []⟩ : St))
  rw [loopW_eq]
  generalize loopW (bd E0 (ev E0) loopW 0 [1, 9, 10, 11, 12] L11b1) = K at hih ⊢
  generalize List.foldl (stepB js) (r, endO js r) t = R at *
  rw [show ((1 : Nat) : Int) = 1 from rfl] at hih
  unfold rb rwN rh ri0 at *
  generalize planF js r [] = Q at *
  generalize Q.map hp = Z at *
  generalize js.map jb = JL at *
  generalize (r :: t).map (fun l => AV.lst 1 (l.map iN)) = OD at *
  generalize (r :: t).length = N at *
  simpa -implicitDefEqProofs [bd, L11b1, hg, p1, p2, hw, fI, tk, ql, hpos, hpos2] using hih
theorem placesS_loop (js : List AV) (hm : js.length ≤ 1000) : ∀ (c i : Nat), i + c = js.length →
    packX 0 [1, 7] (loopW (bd E0 (ev E0) loopW 0 [1, 7, 8] L11b0) ⟨[(1, .lst 4 js), (7, .sl 0 0 i), (8, i64 i)], [some ⟨3, 1, 1, false, (List.range i).map iN⟩]⟩) = some (.ext 0, ⟨[(1, .lst 4 js), (7, .sl 0 0 js.length)], [some ⟨3, 1, 1, false, (List.range js.length).map iN⟩]⟩) := by
  intro c
  induction c with
  | zero =>
    intro i h
    have h1 : ¬ (i : Int) < (js.length : Int) := by omega
    have h2 : ¬ i < js.length := by omega
    have : i = js.length := by omega
    subst this
    rw [loopW_eq]
    generalize loopW (bd E0 (ev E0) loopW 0 [1, 7, 8] L11b0) = K
    simp -implicitDefEqProofs [bd, L11b0]
  | succ c ih =>
    intro i h
    have h1 : (i : Int) < (js.length : Int) := by omega
    have h2 : i < js.length := by omega
    have hih := ih (i + 1) (by omega)
    have hw : IntKind.i64.wrap ((i : Int) + 1) = (i : Int) + 1 := wr64 (by omega) (by omega)
    have e2 : (List.range (i + 1)).map iN = (List.range i).map iN ++ [i64 i] := by rw [List.range_succ, List.map_append]; rfl
    have l2 : ((List.range i).map iN).length = i := by simp
    rw [cs1, e2] at hih
    rw [loopW_eq]
    generalize loopW (bd E0 (ev E0) loopW 0 [1, 7, 8] L11b0) = K at hih ⊢
    generalize (List.range js.length).map iN = Y2 at *
    generalize (List.range i).map iN = Y at *
    have t2 : List.take i Y = Y := List.take_of_length_le (by omega)
    have c2 : i ≤ Y.length := by omega
    have m2 : (i + 1) * 8 ≤ 140737488355328 := by omega
    have m3 : i + 1 ≤ 140737488355328 := by omega
    simpa -implicitDefEqProofs [bd, L11b0, h1, h2, hw, t2, c2, m2, m3] using hih
def boV (n : Int) (js : List J) : List Nat × Int := bestB js (permsS js.length (List.range js.length))
theorem perms_ok (n : Nat) : ∀ q ∈ permsS n (List.range n), q.length = n ∧ (∀ k ∈ q, k < n) ∧ q.Nodup := by
  intro q hq
  have h := perms_perm n (List.range n) List.length_range q hq
  refine ⟨by rw [h.length_eq, List.length_range], fun k hk => ?_, h.nodup_iff.2 List.nodup_range⟩
  have := h.mem_iff.1 hk
  rwa [List.mem_range] at this
theorem best_s_no (n : Int) (js : List J) (h : okJobs n js = false) : ev E0 11 [i64 n, .lst 4 (js.map jb)] [] = some (.tup [.sl 0 0 0, i64 0, bl false], [ri0]) := by
  rw [e11]
  unfold runF ri0
  have hg := good_s n js
  rw [h] at hg
  simp -implicitDefEqProofs [L11, hg]
theorem best_s_yes (n : Int) (js : List J) (h : okJobs n js = true) : ev E0 11 [i64 n, .lst 4 (js.map jb)] [] = some (.tup [rwN (boV n js).1, i64 (boV n js).2, bl true], []) := by
  rw [e11]
  unfold runF boV
  have hg := good_s n js
  rw [h] at hg
  obtain ⟨hl, hj⟩ := okJobs_jb h
  have hp := placesS_loop (js.map jb) (by simp; omega) js.length 0 (by simp)
  have ho := orders_s js.length hl (List.range js.length) List.length_range
  have hpl := (perms_len js.length (List.range js.length) List.length_range).1
  have hfl := fact_le hl
  have hok := perms_ok js.length
  have hfr : okL (free 5) ((List.range js.length).map iN) = true := okL_map (fun _ => rfl) _
  rw [List.length_map, c0] at hp
  have tk : List.take js.length ((List.range js.length).map iN) = (List.range js.length).map iN := List.take_of_length_le (by simp)
  have hrl : ((List.range js.length).map iN).length = js.length := by simp
  cases hP : permsS js.length (List.range js.length) with
  | nil =>
    rw [hP] at hpl
    have : 0 < factN js.length := by
      match js.length, hl with
      | 0, _ | 1, _ | 2, _ | 3, _ | 4, _ | 5, _ => decide
    simp at hpl
    omega
  | cons r t =>
    rw [hP] at ho hpl hok
    have hb := bestS_first js hj r t (fun q hq => ⟨by rw [(hok q hq).1]; omega, (hok q hq).2.1⟩) (by omega)
    have hfr2 : okL (free 5) ((r :: t).map rwN) = true ∨ okL (free 5) ((r :: t).map rwN) = false := by cases okL (free 5) ((r :: t).map rwN) <;> simp
    generalize bestB js (r :: t) = B at *
    unfold rb ri0 rwN at *
    simp only [List.range_zero, List.map_nil] at hp
    generalize (List.range js.length).map iN = Y at *
    generalize (r :: t).map (fun l => AV.lst 1 (l.map iN)) = OD at *
    generalize (r :: t).length = N at *
    generalize js.map jb = JL at *
    rcases hfr2 with hfr2 | hfr2 <;> simp -implicitDefEqProofs [L11, hg, hp, ho, hb, hfr, hfr2, tk, hrl]
end Go.Proofs.YtlmjoimjdpfamaaGreat.Ev
