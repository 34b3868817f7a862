/- FnLineRuns: the law, run by the evaluator, answers true. -/
import Derived.Test.YtckfbfgfjlgmeaaGreatDoorEvLnH
set_option linter.unusedVariables false
set_option linter.unusedSimpArgs false
set_option maxRecDepth 8000
set_option maxHeartbeats 8000000
namespace Go.Proofs.YtckfbfgfjlgmeaaGreatDoor.Ev
open Dr
theorem f_line (l : ByteArray) (hl : l.size ≤ 10000) : ∃ (rs : List P) (ok : Bool) (on : Int), rs.length ≤ 10000 ∧
    ev E1 8 [st l] [] = some (.tup [.lst 2 (rs.map pn), bl ok], []) ∧ ev E1 9 [st l] [] = some (.tup [.lst 2 (rs.map pn), bl ok], []) ∧ ev E1 10 [st l] [] = some (bl ok, []) ∧
    ev E1 15 [st l] [] = some (.tup [i64 on, bl ok], []) ∧ ev E1 16 [st l] [] = some (.tup [i64 on, bl ok], []) ∧
    (ok = true → ev E1 13 [.lst 2 (rs.map pn)] [] = some (.tup [st l, bl true], []) ∧
      ∀ (list : List P) (lines : List ByteArray) (at' : List Nat) (made a b both : ByteArray) (one three six : Bool) (clash least : Int), packX 0 [3, 8, 9, 10, 13, 17, 18, 19, 20, 23, 27, 31, 32, 33, 36, 37, 38] (loopW (bd E1 (ev E1) loopW 0 [3, 4, 8, 9, 10, 13, 17, 18, 19, 20, 23, 27, 31, 32, 33, 36, 37, 38, 39] L3b0) ⟨[(3, st l), (4, .lst 2 (rs.map pn)), (8, .lst 2 (list.map pn)), (9, st made), (10, bl one), (13, i64 on), (17, st a), (18, st b), (19, st both), (20, bl three), (23, i64 clash), (27, i64 least), (31, .lst 1 (lines.map st)), (32, .lst 1 (ns at')), (33, bl six), (36, st l), (37, bl true), (38, i64 0), (39, i64 0)], []⟩) = some (.ext 0, ⟨[(3, st l), (8, .lst 2 (list.map pn)), (9, st made), (10, bl one), (13, i64 on), (17, st a), (18, st b), (19, st both), (20, bl three), (23, i64 clash), (27, i64 least), (31, .lst 1 (lines.map st)), (32, .lst 1 (ns at')), (33, bl six), (36, st l), (37, bl true), (38, i64 on)], []⟩)) := by
  have hlen : (rnV l).length ≤ 10000 := by
    unfold rnV
    split
    · unfold pr; rw [List.length_map]; have := runs_len2 (B l); rw [B_len] at this; omega
    · simp
  refine ⟨rnV l, okLine l, cnV l, hlen, two_runs_i l hl, two_runs_s l hl, two_isLine l hl, two_cnt_i l hl, two_cnt_s l hl, fun ho => ?_⟩
  obtain ⟨h1, h2, h3⟩ := runs_back l ho
  have hr : rnV l = pr l := by unfold rnV; rw [ho, if_pos rfl]
  have hc : cnV l = sumP (pr l) := by unfold cnV; rw [ho, if_pos rfl, h3]
  rw [hr] at hlen ⊢
  rw [hc]
  refine ⟨?_, fun list lines at' made a b both one three six clash least => ?_⟩
  · rw [two_lor_i _ hlen, h1]
    unfold lorT
    rw [h1, if_pos rfl, h2]
  · have := sum_loop (pr l) hlen list lines at' l made a b both l one three six true (sumP (pr l)) clash least (pr l) 0 0 rfl (okRs_small h1).1 (by omega) (by omega)
    rw [c0, Int.zero_add] at this
    exact this
theorem f_lor (list : List P) (hl : list.length ≤ 10000) : ∃ (made : ByteArray) (one : Bool), ev E1 13 [.lst 2 (list.map pn)] [] = some (.tup [st made, bl one], []) ∧ ev E1 14 [.lst 2 (list.map pn)] [] = some (.tup [st made, bl one], []) ∧
    (one = true → ev E1 8 [st made] [] = some (.tup [.lst 2 (list.map pn), bl true], [])) := by
  refine ⟨_, _, two_lor_i list hl, two_lor_s list hl, fun ho => ?_⟩
  obtain ⟨h1, h2⟩ := line_back list ho
  have hz := (okLine_iff h1).1
  have hm : lorT list = mkB (lineL list) := by unfold lorT; rw [ho, if_pos rfl]
  rw [hm, two_runs_i _ (by omega)]
  unfold rnV
  rw [h1, if_pos rfl, h2]
theorem f_join (a b : ByteArray) (ha : a.size ≤ 10000) (hb : b.size ≤ 10000) : ∃ (both : ByteArray) (three : Bool) (clash least : Int),
    ev E1 18 [st a, st b] [] = some (.tup [st both, bl three], []) ∧ ev E1 19 [st a, st b] [] = some (.tup [st both, bl three], []) ∧
    ev E1 20 [st a, st b] [] = some (.tup [i64 clash, bl three], []) ∧ ev E1 21 [st a, st b] [] = some (.tup [i64 clash, bl three], []) ∧
    ev E1 22 [st a, st b] [] = some (.tup [i64 least, bl three], []) ∧ ev E1 23 [st a, st b] [] = some (.tup [i64 least, bl three], []) ∧
    (three = true → ∃ (x y z : Int), ev E1 15 [st a] [] = some (.tup [i64 x, bl true], []) ∧ ev E1 15 [st b] [] = some (.tup [i64 y, bl true], []) ∧ ev E1 15 [st both] [] = some (.tup [i64 z, bl true], []) ∧
      IntKind.i64.wrap (x + y) = z + clash ∧ IntKind.i64.wrap (z + clash) = z + clash ∧ (least = 0 ↔ clash = 0) ∧ ¬ (a.size : Int) < least ∧
      ((∃ w : ByteArray, ev E1 28 [st b, i64 least] [] = some (.tup [st w, bl false], [])) ∨ ∃ late : ByteArray, ev E1 28 [st b, i64 least] [] = some (.tup [st late, bl true], []) ∧ ev E1 20 [st a, st late] [] = some (.tup [i64 0, bl true], []))) := by
  refine ⟨_, _, _, _, two_jo_i a b ha hb, two_jo_s a b ha hb, two_cl_i a b ha hb, two_cl_s a b ha hb, two_ld_i a b ha hb, two_ld_s a b ha hb, fun ho => ?_⟩
  have ho2 := ho
  rw [Bool.and_eq_true] at ho2
  obtain ⟨oa, ob⟩ := ho2
  obtain ⟨za, _⟩ := okLine_iff oa
  obtain ⟨zb, _⟩ := okLine_iff ob
  have oj := jo_ok a b oa ob
  obtain ⟨zj, _⟩ := okLine_iff oj
  have hs := jo_cnt a b oa ob
  obtain ⟨l1, l2, l3⟩ := ld_facts a b
  have cle : ∀ l : ByteArray, cnt l ≤ l.size := fun l => S_le (fun j => onB l j) l.size
  have c1 := cle a
  have c2 := cle b
  have c3 := cle (joV a b)
  have e1 := two_cnt_i a ha
  have e2 := two_cnt_i b hb
  have e3 := two_cnt_i (joV a b) (by omega)
  have hcl : clV a b = (cl a b 0 : Int) := by unfold clV; rw [ho, if_pos rfl]
  have hld : ldV a b = (ld a b : Int) := by unfold ldV; rw [ho, if_pos rfl]
  unfold cnV at e1 e2 e3
  rw [oa, if_pos rfl] at e1
  rw [ob, if_pos rfl] at e2
  rw [oj, if_pos rfl] at e3
  rw [hcl, hld]
  refine ⟨_, _, _, e1, e2, e3, ?_, wr64 (by omega) (by omega), ?_, by omega, ?_⟩
  · rw [wr64 (by omega) (by omega)]; omega
  · constructor <;> intro h <;> omega
  · by_cases hd : okLine b = true ∧ ld a b + b.size ≤ 200
    · right
      have ol := dl_ok b (ld a b) ob hd.2
      have hc := two_cl_i a (dlV b (ld a b)) ha (by rw [dl_size]; omega)
      have hv : clV a (dlV b (ld a b)) = 0 := by unfold clV; rw [dl_cl, l2, oa, ol]; rfl
      rw [hv, oa, ol] at hc
      exact ⟨_, two_dl_yes b hb (ld a b) (by omega) hd, hc⟩
    · left
      exact ⟨_, two_dl_no b hb (ld a b) (by omega) hd⟩
theorem f_once (lines : List ByteArray) (hL : lines.length ≤ 100) (hz : ∀ l ∈ lines, l.size ≤ 10000) : ∃ (at' : List Nat) (six : Bool) (T : Int), at'.length ≤ 10000 ∧
    ev E1 25 [.lst 1 (lines.map st)] [] = some (.tup [.lst 1 (ns at'), bl six], []) ∧ ev E1 26 [.lst 1 (lines.map st)] [] = some (.tup [.lst 1 (ns at'), bl six], []) ∧
    (six = true → ∀ (a b both : ByteArray) (three : Bool) (clash least : Int), packX 0 [17, 18, 19, 20, 23, 27, 31, 42, 43] (loopW (bd E1 (ev E1) loopW 0 [17, 18, 19, 20, 23, 27, 31, 32, 42, 43, 44] L3b1) ⟨[(17, st a), (18, st b), (19, st both), (20, bl three), (23, i64 clash), (27, i64 least), (31, .lst 1 (lines.map st)), (32, .lst 1 (ns at')), (42, i64 0), (43, i64 0), (44, i64 0)], []⟩) = some (.ext 2, ⟨[(17, st a), (18, st b), (19, st both), (20, bl three), (23, i64 clash), (27, i64 least), (31, .lst 1 (lines.map st)), (42, i64 T), (43, i64 0)], []⟩) ∧
      packX 0 [2, 17, 18, 19, 20, 23, 27, 42, 43] (loopW (bd E1 (ev E1) loopW 0 [17, 18, 19, 20, 23, 27, 31, 42, 43, 45] L3b2) ⟨[(17, st a), (18, st b), (19, st both), (20, bl three), (23, i64 clash), (27, i64 least), (31, .lst 1 (lines.map st)), (42, i64 T), (43, i64 0), (45, i64 0)], []⟩) = some (.ext 4, ⟨[(17, st a), (18, st b), (19, st both), (20, bl three), (23, i64 clash), (27, i64 least), (42, i64 T), (43, i64 T)], []⟩)) := by
  have hlen : (atV lines).length ≤ 10000 := by
    unfold atV
    split
    · rw [ocs_len]; exact mxA_le lines 0 10000 (by omega) hz
    · simp
  refine ⟨atV lines, okLns lines, ((sumN (lines.map cnt) : Nat) : Int), hlen, two_oa_i lines hL hz, two_oa_s lines hL hz, fun ho a b both three clash least => ?_⟩
  have hr : atV lines = ocs lines (mxA 0 lines) := by unfold atV; rw [ho, if_pos rfl]
  have hs := once_sum lines
  unfold okLns at ho
  rw [Bool.and_eq_true, List.all_eq_true, decide_eq_true_eq] at ho
  obtain ⟨h8, hok⟩ := ho
  constructor
  · have := at_loop (atV lines) hlen lines a b both three clash least 0 (atV lines) 0 0 rfl (fun p hp => by
      rw [hr] at hp
      unfold ocs at hp
      obtain ⟨j, _, rfl⟩ := List.mem_map.1 hp
      have := oc_le lines j
      omega) (by omega)
    rw [Nat.zero_add, hr, hs, c0, ← hr] at this
    exact this
  · have := own_loop lines hL a b both three clash least ((sumN (lines.map cnt) : Nat) : Int) lines 0 0 rfl hok (by omega)
    rw [Nat.zero_add, c0] at this
    exact this
theorem FnLineRuns (x0 : List Int) (b0 : x0.length ≤ maxLen ∧ ∀ y ∈ x0, (Lit.int .u8 y).wf = true) : ev E1 3 [(AV.lst 1 (x0.map (fun q : Int => (AV.v (.int .u8 q)))))] [] = some (bl true, []) := by
  obtain ⟨hl, hw⟩ := b0
  show ev E1 3 [.lst 1 (cd x0)] [] = _
  have hb := two_rbig x0
  by_cases h0 : (65536 : Int) < (x0.length : Int)
  · rw [decide_eq_true h0] at hb
    rw [g3]
    unfold runF
    simp -implicitDefEqProofs [L3, hb]
  · rw [decide_eq_false h0] at hb
    have hx : okC x0 := by
      refine ⟨by omega, fun y hy => ?_⟩
      have h := hw y hy
      unfold Lit.wf at h
      rw [Bool.and_eq_true, decide_eq_true_eq, decide_eq_true_eq] at h
      exact h
    obtain ⟨l, zl, d1⟩ := two_dRuns x0 hx
    obtain ⟨list, zlist, d2⟩ := two_dLor x0 hx
    obtain ⟨a, b, za, zb, d3⟩ := two_dJoin x0 hx
    obtain ⟨lines, zn, zs, d4⟩ := two_dOnce x0 hx
    obtain ⟨rs, ok, on, zrs, a1, a2, a3, a4, a5, a6⟩ := f_line l zl
    obtain ⟨made, one, b1, b2, b3⟩ := f_lor list zlist
    obtain ⟨both, three, clash, least, c1, c2, c3, c4, c5, c6, c7⟩ := f_join a b za zb
    obtain ⟨at', six, T, zat, e1, e2, e3⟩ := f_once lines zn zs
    have q1 := two_rPr rs (by omega)
    have q2 := two_rPr list (by omega)
    have q3 := two_rIn at' (by omega)
    have e3 := fun h => e3 h a b both three clash least
    have a6 : ok = true → _ ∧ _ := fun h => ⟨(a6 h).1, (a6 h).2 list lines at' made a b both one three six clash least⟩
    have hf1 := free_ns' at'
    have hf2 := free_st lines
    have hf3 := free_pn list
    have hf4 := free_pn rs
    clear zl zlist za zb zn zs zrs zat hw hl h0
    generalize lines.map st = lines at *
    generalize list.map pn = list at *
    generalize rs.map pn = rs at *
    generalize ns at' = at' at *
    rw [g3]
    unfold runF
    cases three with
    | false =>
      cases ok with
      | false =>
        cases one with
        | false =>
          cases six with
          | false =>
            simp (maxSteps := 4000000) -implicitDefEqProofs [L3, hb, d1, d2, d3, d4, a1, a2, a3, a4, a5, b1, b2, c1, c2, c3, c4, c5, c6, e1, e2, q1, q2, q3, hf1, hf2, hf3, hf4]
          | true =>
            obtain ⟨e3, e4⟩ := e3 rfl
            simp (maxSteps := 4000000) -implicitDefEqProofs [L3, hb, d1, d2, d3, d4, a1, a2, a3, a4, a5, b1, b2, c1, c2, c3, c4, c5, c6, e1, e2, q1, q2, q3, hf1, hf2, hf3, hf4, e3, e4]
        | true =>
          have b3 := b3 rfl
          cases six with
          | false =>
            simp (maxSteps := 4000000) -implicitDefEqProofs [L3, hb, d1, d2, d3, d4, a1, a2, a3, a4, a5, b1, b2, c1, c2, c3, c4, c5, c6, e1, e2, q1, q2, q3, hf1, hf2, hf3, hf4, b3]
          | true =>
            obtain ⟨e3, e4⟩ := e3 rfl
            simp (maxSteps := 4000000) -implicitDefEqProofs [L3, hb, d1, d2, d3, d4, a1, a2, a3, a4, a5, b1, b2, c1, c2, c3, c4, c5, c6, e1, e2, q1, q2, q3, hf1, hf2, hf3, hf4, b3, e3, e4]
      | true =>
        obtain ⟨a6, a7⟩ := a6 rfl
        cases one with
        | false =>
          cases six with
          | false =>
            simp (maxSteps := 4000000) -implicitDefEqProofs [L3, hb, d1, d2, d3, d4, a1, a2, a3, a4, a5, b1, b2, c1, c2, c3, c4, c5, c6, e1, e2, q1, q2, q3, hf1, hf2, hf3, hf4, a6, a7]
          | true =>
            obtain ⟨e3, e4⟩ := e3 rfl
            simp (maxSteps := 4000000) -implicitDefEqProofs [L3, hb, d1, d2, d3, d4, a1, a2, a3, a4, a5, b1, b2, c1, c2, c3, c4, c5, c6, e1, e2, q1, q2, q3, hf1, hf2, hf3, hf4, a6, a7, e3, e4]
        | true =>
          have b3 := b3 rfl
          cases six with
          | false =>
            simp (maxSteps := 4000000) -implicitDefEqProofs [L3, hb, d1, d2, d3, d4, a1, a2, a3, a4, a5, b1, b2, c1, c2, c3, c4, c5, c6, e1, e2, q1, q2, q3, hf1, hf2, hf3, hf4, a6, a7, b3]
          | true =>
            obtain ⟨e3, e4⟩ := e3 rfl
            simp (maxSteps := 4000000) -implicitDefEqProofs [L3, hb, d1, d2, d3, d4, a1, a2, a3, a4, a5, b1, b2, c1, c2, c3, c4, c5, c6, e1, e2, q1, q2, q3, hf1, hf2, hf3, hf4, a6, a7, b3, e3, e4]
    | true =>
      obtain ⟨x, y, z, p1, p2, p3, p4, p5, p6, p7, p8⟩ := c7 rfl
      rcases p8 with ⟨w, p8⟩ | ⟨late, p8, p9⟩
      · cases ok with
        | false =>
          cases one with
          | false =>
            cases six with
            | false =>
              simp (maxSteps := 4000000) -implicitDefEqProofs [L3, hb, d1, d2, d3, d4, a1, a2, a3, a4, a5, b1, b2, c1, c2, c3, c4, c5, c6, e1, e2, q1, q2, q3, hf1, hf2, hf3, hf4, p1, p2, p3, p4, p5, p6, p7, p8]
            | true =>
              obtain ⟨e3, e4⟩ := e3 rfl
              simp (maxSteps := 4000000) -implicitDefEqProofs [L3, hb, d1, d2, d3, d4, a1, a2, a3, a4, a5, b1, b2, c1, c2, c3, c4, c5, c6, e1, e2, q1, q2, q3, hf1, hf2, hf3, hf4, p1, p2, p3, p4, p5, p6, p7, p8, e3, e4]
          | true =>
            have b3 := b3 rfl
            cases six with
            | false =>
              simp (maxSteps := 4000000) -implicitDefEqProofs [L3, hb, d1, d2, d3, d4, a1, a2, a3, a4, a5, b1, b2, c1, c2, c3, c4, c5, c6, e1, e2, q1, q2, q3, hf1, hf2, hf3, hf4, p1, p2, p3, p4, p5, p6, p7, p8, b3]
            | true =>
              obtain ⟨e3, e4⟩ := e3 rfl
              simp (maxSteps := 4000000) -implicitDefEqProofs [L3, hb, d1, d2, d3, d4, a1, a2, a3, a4, a5, b1, b2, c1, c2, c3, c4, c5, c6, e1, e2, q1, q2, q3, hf1, hf2, hf3, hf4, p1, p2, p3, p4, p5, p6, p7, p8, b3, e3, e4]
        | true =>
          obtain ⟨a6, a7⟩ := a6 rfl
          cases one with
          | false =>
            cases six with
            | false =>
              simp (maxSteps := 4000000) -implicitDefEqProofs [L3, hb, d1, d2, d3, d4, a1, a2, a3, a4, a5, b1, b2, c1, c2, c3, c4, c5, c6, e1, e2, q1, q2, q3, hf1, hf2, hf3, hf4, p1, p2, p3, p4, p5, p6, p7, p8, a6, a7]
            | true =>
              obtain ⟨e3, e4⟩ := e3 rfl
              simp (maxSteps := 4000000) -implicitDefEqProofs [L3, hb, d1, d2, d3, d4, a1, a2, a3, a4, a5, b1, b2, c1, c2, c3, c4, c5, c6, e1, e2, q1, q2, q3, hf1, hf2, hf3, hf4, p1, p2, p3, p4, p5, p6, p7, p8, a6, a7, e3, e4]
          | true =>
            have b3 := b3 rfl
            cases six with
            | false =>
              simp (maxSteps := 4000000) -implicitDefEqProofs [L3, hb, d1, d2, d3, d4, a1, a2, a3, a4, a5, b1, b2, c1, c2, c3, c4, c5, c6, e1, e2, q1, q2, q3, hf1, hf2, hf3, hf4, p1, p2, p3, p4, p5, p6, p7, p8, a6, a7, b3]
            | true =>
              obtain ⟨e3, e4⟩ := e3 rfl
              simp (maxSteps := 4000000) -implicitDefEqProofs [L3, hb, d1, d2, d3, d4, a1, a2, a3, a4, a5, b1, b2, c1, c2, c3, c4, c5, c6, e1, e2, q1, q2, q3, hf1, hf2, hf3, hf4, p1, p2, p3, p4, p5, p6, p7, p8, a6, a7, b3, e3, e4]
      · cases ok with
        | false =>
          cases one with
          | false =>
            cases six with
            | false =>
              simp (maxSteps := 4000000) -implicitDefEqProofs [L3, hb, d1, d2, d3, d4, a1, a2, a3, a4, a5, b1, b2, c1, c2, c3, c4, c5, c6, e1, e2, q1, q2, q3, hf1, hf2, hf3, hf4, p1, p2, p3, p4, p5, p6, p7, p8, p9]
            | true =>
              obtain ⟨e3, e4⟩ := e3 rfl
              simp (maxSteps := 4000000) -implicitDefEqProofs [L3, hb, d1, d2, d3, d4, a1, a2, a3, a4, a5, b1, b2, c1, c2, c3, c4, c5, c6, e1, e2, q1, q2, q3, hf1, hf2, hf3, hf4, p1, p2, p3, p4, p5, p6, p7, p8, p9, e3, e4]
          | true =>
            have b3 := b3 rfl
            cases six with
            | false =>
              simp (maxSteps := 4000000) -implicitDefEqProofs [L3, hb, d1, d2, d3, d4, a1, a2, a3, a4, a5, b1, b2, c1, c2, c3, c4, c5, c6, e1, e2, q1, q2, q3, hf1, hf2, hf3, hf4, p1, p2, p3, p4, p5, p6, p7, p8, p9, b3]
            | true =>
              obtain ⟨e3, e4⟩ := e3 rfl
              simp (maxSteps := 4000000) -implicitDefEqProofs [L3, hb, d1, d2, d3, d4, a1, a2, a3, a4, a5, b1, b2, c1, c2, c3, c4, c5, c6, e1, e2, q1, q2, q3, hf1, hf2, hf3, hf4, p1, p2, p3, p4, p5, p6, p7, p8, p9, b3, e3, e4]
        | true =>
          obtain ⟨a6, a7⟩ := a6 rfl
          cases one with
          | false =>
            cases six with
            | false =>
              simp (maxSteps := 4000000) -implicitDefEqProofs [L3, hb, d1, d2, d3, d4, a1, a2, a3, a4, a5, b1, b2, c1, c2, c3, c4, c5, c6, e1, e2, q1, q2, q3, hf1, hf2, hf3, hf4, p1, p2, p3, p4, p5, p6, p7, p8, p9, a6, a7]
            | true =>
              obtain ⟨e3, e4⟩ := e3 rfl
              simp (maxSteps := 4000000) -implicitDefEqProofs [L3, hb, d1, d2, d3, d4, a1, a2, a3, a4, a5, b1, b2, c1, c2, c3, c4, c5, c6, e1, e2, q1, q2, q3, hf1, hf2, hf3, hf4, p1, p2, p3, p4, p5, p6, p7, p8, p9, a6, a7, e3, e4]
          | true =>
            have b3 := b3 rfl
            cases six with
            | false =>
              simp (maxSteps := 4000000) -implicitDefEqProofs [L3, hb, d1, d2, d3, d4, a1, a2, a3, a4, a5, b1, b2, c1, c2, c3, c4, c5, c6, e1, e2, q1, q2, q3, hf1, hf2, hf3, hf4, p1, p2, p3, p4, p5, p6, p7, p8, p9, a6, a7, b3]
            | true =>
              obtain ⟨e3, e4⟩ := e3 rfl
              simp (maxSteps := 4000000) -implicitDefEqProofs [L3, hb, d1, d2, d3, d4, a1, a2, a3, a4, a5, b1, b2, c1, c2, c3, c4, c5, c6, e1, e2, q1, q2, q3, hf1, hf2, hf3, hf4, p1, p2, p3, p4, p5, p6, p7, p8, p9, a6, a7, b3, e3, e4]
end Go.Proofs.YtckfbfgfjlgmeaaGreatDoor.Ev
