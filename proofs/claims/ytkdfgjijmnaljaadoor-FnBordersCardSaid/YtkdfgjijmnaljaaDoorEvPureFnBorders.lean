/- FnBorders: the law, run by the evaluator, answers true. -/
import Derived.Test.YtkdfgjijmnaljaaDoorEvRdT
set_option linter.unusedVariables false
set_option linter.unusedSimpArgs false
namespace Go.Proofs.YtkdfgjijmnaljaaDoor.Ev
open Dr
theorem sure_loop (ms : List ByteArray) (s : ByteArray) (LB LC : List Nat) (hb : LB.length ≤ 1000) (hc : LC.length ≤ 1000) (many : Int) : ∀ (t : List Nat) (i : Nat), LC.drop i = t → (∀ x ∈ t, x ∈ LB) →
    packX 0 [2, 3, 4, 5, 9, 13] (loopW (bd E1 (ev E1) loopW 0 [3, 4, 5, 9, 13, 15] L3b0) ⟨[(3, .ptr 0 0 0), (4, st s), (5, .lst 1 (ns LB)), (9, .lst 1 (ns LC)), (13, i64 many), (15, i64 i)], [some (tb ms)]⟩) =
      some (.ext 0, ⟨[(3, .ptr 0 0 0), (4, st s), (5, .lst 1 (ns LB)), (9, .lst 1 (ns LC)), (13, i64 many)], [some (tb ms)]⟩) := by
  unfold tb
  intro t
  induction t with
  | nil =>
    intro i h _
    have hi := not_drop h
    have hl := ns_len LC
    have hii : ¬ (i : Int) < (LC.length : Int) := by omega
    rw [loopW_eq]
    generalize loopW (bd E1 (ev E1) loopW 0 [3, 4, 5, 9, 13, 15] L3b0) = K
    simp -implicitDefEqProofs [bd, L3b0, hl, hi, hii]
  | cons c t ih =>
    intro i h hm
    obtain ⟨hi, hx, hd, hmem⟩ := at_drop h
    have hih := ih (i + 1) hd (fun x hx => hm x (List.mem_cons_of_mem _ hx))
    rw [cs1] at hih
    have hw : IntKind.i64.wrap ((i : Int) + 1) = (i : Int) + 1 := wr64 (by omega) (by omega)
    have hl := ns_len LC
    have hii : (i : Int) < (LC.length : Int) := by omega
    have g1 : (ns LC)[i]? = some (i64 (c : Int)) := by unfold ns; rw [List.getElem?_map, List.getElem?_eq_getElem hi, hx]; rfl
    have g2 : ∀ h, (ns LC)[i]'h = i64 (c : Int) := fun h => (List.getElem?_eq_some_iff.1 g1).2
    have hh := two_has LB (by omega) c (hm c (List.mem_cons_self ..))
    rw [loopW_eq]
    generalize loopW (bd E1 (ev E1) loopW 0 [3, 4, 5, 9, 13, 15] L3b0) = K at hih ⊢
    simpa -implicitDefEqProofs [bd, L3b0, hl, hi, hii, g1, g2, hh, hw] using hih
/-- The borders of a reading up to a letter. -/
def seen (ms : List ByteArray) (w : List Nat) (j : Nat) : List Nat := (List.range (j + 1)).map fun i => (flat ms (w.take i)).length
theorem seen_len (ms : List ByteArray) (w : List Nat) (j : Nat) : (seen ms w j).length = j + 1 := by simp [seen]
theorem seen_succ (ms : List ByteArray) (w : List Nat) (j : Nat) : seen ms w (j + 1) = seen ms w j ++ [(flat ms (w.take (j + 1))).length] := by
  unfold seen
  rw [List.range_succ, List.map_append]
  rfl
theorem seen_mem (ms : List ByteArray) (w : List Nat) (j i : Nat) (h : i ≤ j) : (flat ms (w.take i)).length ∈ seen ms w j := List.mem_map.2 ⟨i, List.mem_range.2 (by omega), rfl⟩
theorem own_loop (ms : List ByteArray) (hm : ms.length ≤ 1000) (hz : ∀ m ∈ ms, m.size ≤ 1000) (ho : okTable ms = true) (s : ByteArray) (LB LC : List Nat) (hb : LB.length ≤ 1000) (many k : Int) (w : List Nat) (hw : ∀ i ∈ w, i < ms.length) (hwl : w.length ≤ 100) (hin : ∀ i, (flat ms (w.take i)).length ∈ LB) : ∀ (d j : Nat), j + d = w.length →
    packX 0 [2, 3, 4, 5, 9, 13, 16, 19] (loopW (bd E1 (ev E1) loopW 0 [3, 4, 5, 9, 13, 16, 17, 19, 20] L3b1) ⟨[(3, .ptr 0 0 0), (4, st s), (5, .lst 1 (ns LB)), (9, .lst 1 (ns LC)), (13, i64 many), (16, i64 k), (17, st (ltx w)), (19, .sl 1 0 (j + 1)), (20, i64 ((j : Int) + 1))], [some (tb ms), some (ib (seen ms w j))]⟩) =
      some (.ext 4, ⟨[(3, .ptr 0 0 0), (4, st s), (5, .lst 1 (ns LB)), (9, .lst 1 (ns LC)), (13, i64 many), (16, i64 k), (19, .sl 1 0 (w.length + 1))], [some (tb ms), some (ib (seen ms w w.length))]⟩) := by
  unfold tb ib
  have hls := ltx_size w
  intro d
  induction d with
  | zero =>
    intro j h
    obtain rfl : j = w.length := by omega
    have hii : ¬ (w.length : Int) + 1 ≤ (w.length : Int) := by omega
    rw [loopW_eq]
    generalize loopW (bd E1 (ev E1) loopW 0 [3, 4, 5, 9, 13, 16, 17, 19, 20] L3b1) = K
    simp -implicitDefEqProofs [bd, L3b1, hls, hii]
  | succ d ih =>
    intro j h
    have hih := ih (j + 1) (by omega)
    rw [cs1, seen_succ, ns_app, show ns [(flat ms (w.take (j + 1))).length] = [i64 (((flat ms (w.take (j + 1))).length : Nat) : Int)] from rfl] at hih
    have hjj : (j : Int) + 1 = ((j + 1 : Nat) : Int) := by omega
    have hj2 : (j : Int) + 1 + 1 = ((j + 1 + 1 : Nat) : Int) := by omega
    have hwr : IntKind.i64.wrap (((j + 1 : Nat) : Int) + 1) = ((j + 1 + 1 : Nat) : Int) := by rw [wr64 (by omega) (by omega)]; omega
    have hii : ((j + 1 : Nat) : Int) ≤ (w.length : Int) := by omega
    have hii2 : j + 1 ≤ w.length := by omega
    have htk := ltx_take w (j + 1)
    have hbr := two_bare ms hm hz ho (w.take (j + 1)) (fun i hi => hw i (List.mem_of_mem_take hi)) (by rw [List.length_take]; omega)
    have hfs := fb_size ms (w.take (j + 1))
    have hh := two_has LB (by omega) _ (hin (j + 1))
    have l3 := ns_len (seen ms w j)
    rw [seen_len] at l3
    have l5 : j + 1 + 1 ≤ 140737488355328 := by omega
    have l6 : (j + 1 + 1) * 8 ≤ 140737488355328 := by omega
    have l7 : List.take (j + 1) (ns (seen ms w j)) = ns (seen ms w j) := List.take_of_length_le (by omega)
    unfold tA at hbr
    rw [hj2] at hih
    rw [hjj, loopW_eq]
    generalize loopW (bd E1 (ev E1) loopW 0 [3, 4, 5, 9, 13, 16, 17, 19, 20] L3b1) = K at hih ⊢
    generalize (flat ms (w.take (j + 1))).length = z at *
    simpa -implicitDefEqProofs [bd, L3b1, hls, hii, hii2, htk, hbr, hfs, hh, l3, l5, l6, l7, hwr, -Int.natCast_add] using hih
theorem all_loop (ms : List ByteArray) (s : ByteArray) (LB LC : List Nat) (hb : LB.length ≤ 1000) (hc : LC.length ≤ 1000) (many k : Int) (S : List Nat) (hS : S.length ≤ 1000) : ∀ (t : List Nat) (i : Nat), LC.drop i = t → (∀ x ∈ t, x ∈ S) →
    packX 0 [2, 3, 4, 5, 9, 13, 16] (loopW (bd E1 (ev E1) loopW 0 [3, 4, 5, 9, 13, 16, 19, 22] L3b2) ⟨[(3, .ptr 0 0 0), (4, st s), (5, .lst 1 (ns LB)), (9, .lst 1 (ns LC)), (13, i64 many), (16, i64 k), (19, .sl 1 0 S.length), (22, i64 i)], [some (tb ms), some (ib S)]⟩) =
      some (.ext 6, ⟨[(3, .ptr 0 0 0), (4, st s), (5, .lst 1 (ns LB)), (9, .lst 1 (ns LC)), (13, i64 many), (16, i64 k)], [some (tb ms)]⟩) := by
  unfold tb ib
  intro t
  induction t with
  | nil =>
    intro i h _
    have hi := not_drop h
    have hl := ns_len LC
    have hii : ¬ (i : Int) < (LC.length : Int) := by omega
    rw [loopW_eq]
    generalize loopW (bd E1 (ev E1) loopW 0 [3, 4, 5, 9, 13, 16, 19, 22] L3b2) = K
    simp -implicitDefEqProofs [bd, L3b2, hl, hi, hii]
  | cons c t ih =>
    intro i h hm
    obtain ⟨hi, hx, hd, hmem⟩ := at_drop h
    have hih := ih (i + 1) hd (fun x hx => hm x (List.mem_cons_of_mem _ hx))
    rw [cs1] at hih
    have hw : IntKind.i64.wrap ((i : Int) + 1) = (i : Int) + 1 := wr64 (by omega) (by omega)
    have hl := ns_len LC
    have hii : (i : Int) < (LC.length : Int) := by omega
    have g1 : (ns LC)[i]? = some (i64 (c : Int)) := by unfold ns; rw [List.getElem?_map, List.getElem?_eq_getElem hi, hx]; rfl
    have g2 : ∀ h, (ns LC)[i]'h = i64 (c : Int) := fun h => (List.getElem?_eq_some_iff.1 g1).2
    have hh := two_has S (by omega) c (hm c (List.mem_cons_self ..))
    have l3 := ns_len S
    have l7 : List.take S.length (ns S) = ns S := List.take_of_length_le (by omega)
    rw [loopW_eq]
    generalize loopW (bd E1 (ev E1) loopW 0 [3, 4, 5, 9, 13, 16, 19, 22] L3b2) = K at hih ⊢
    simpa -implicitDefEqProofs [bd, L3b2, hl, hi, hii, g1, g2, hh, l3, l7, hw] using hih
theorem some_loop (ms : List ByteArray) (hm : ms.length ≤ 1000) (hz : ∀ m ∈ ms, m.size ≤ 1000) (s : ByteArray) (hs : s.size ≤ 1000000) (h : okRead ms s = true) : ∀ (d k : Nat), 6 ≤ k + d → k ≤ 6 → k ≤ rds ms s →
    packX 0 [2] (loopW (bd E1 (ev E1) loopW 0 [3, 4, 5, 9, 13, 16] L3b3) ⟨[(3, .ptr 0 0 0), (4, st s), (5, .lst 1 (ns (bo ms s false (s.size + 1)))), (9, .lst 1 (ns (bo ms s true (s.size + 1)))), (13, i64 ((rds ms s : Nat) : Int)), (16, i64 k)], [some (tb ms)]⟩) = some (.ext 2, ⟨[], []⟩) := by
  obtain ⟨hv, hs2⟩ := read_size h
  have ho : okTable ms = true := by unfold okRead at h; rw [Bool.and_eq_true] at h; exact h.1
  have hb1 := bo_len ms s false (s.size + 1)
  have hb2 := bo_len ms s true (s.size + 1)
  have hend : ∀ k : Nat, k = 6 ∨ k = rds ms s → k ≤ 6 → k ≤ rds ms s → packX 0 [2] (loopW (bd E1 (ev E1) loopW 0 [3, 4, 5, 9, 13, 16] L3b3) ⟨[(3, .ptr 0 0 0), (4, st s), (5, .lst 1 (ns (bo ms s false (s.size + 1)))), (9, .lst 1 (ns (bo ms s true (s.size + 1)))), (13, i64 ((rds ms s : Nat) : Int)), (16, i64 k)], [some (tb ms)]⟩) = some (.ext 2, ⟨[], []⟩) := by
    intro k he h6 hr
    rw [loopW_eq]
    generalize loopW (bd E1 (ev E1) loopW 0 [3, 4, 5, 9, 13, 16] L3b3) = K
    generalize rds ms s = R at *
    unfold bd tb
    by_cases h1 : k < R
    · have h2 : (k : Int) < (R : Int) := by omega
      have h3 : ¬ (k : Int) < 6 := by omega
      have h4 : ¬ k < 6 := by omega
      simp -implicitDefEqProofs [L3b3, h1, h2, h3, h4]
    · have h2 : ¬ (k : Int) < (R : Int) := by omega
      simp -implicitDefEqProofs [L3b3, h1, h2]
  intro d
  induction d with
  | zero => intro k h1 h2 h3; exact hend k (by omega) h2 h3
  | succ d ih =>
    intro k h1 h2 h3
    by_cases hk : k = 6 ∨ k = rds ms s
    · exact hend k hk h2 h3
    · have hih := ih (k + 1) (by omega) (by omega) (by omega)
      rw [cs1] at hih
      obtain ⟨w, w1, w2, w3, w4⟩ := two_at ms hm hz s hs h k (by omega)
      have l1 := own_loop ms hm hz ho s (bo ms s false (s.size + 1)) (bo ms s true (s.size + 1)) (by omega) ((rds ms s : Nat) : Int) k w w1 (by omega) (fun i => cut_mem hv w1 w2 i) w.length 0 (by omega)
      have l2 := all_loop ms s (bo ms s false (s.size + 1)) (bo ms s true (s.size + 1)) (by omega) (by omega) ((rds ms s : Nat) : Int) k (seen ms w w.length) (by rw [seen_len]; omega) (bo ms s true (s.size + 1)) 0 rfl (fun x hx => by
        obtain ⟨j, j1, j2⟩ := sure_cut hv w1 w2 hx
        rw [j2]
        exact seen_mem ms w _ j j1)
      rw [c0, seen_len] at l2
      rw [c0] at l1
      have e0 : seen ms w 0 = [0] := by simp [seen, flat]
      rw [e0, Nat.zero_add, Int.zero_add] at l1
      have q1 : k < rds ms s := by omega
      have q2 : (k : Int) < ((rds ms s : Nat) : Int) := by omega
      have q3 : k < 6 := by omega
      have q4 : (k : Int) < 6 := by omega
      have hw : IntKind.i64.wrap ((k : Int) + 1) = (k : Int) + 1 := wr64 (by omega) (by omega)
      rw [loopW_eq]
      generalize bo ms s false (s.size + 1) = LB at *
      generalize bo ms s true (s.size + 1) = LC at *
      generalize loopW (bd E1 (ev E1) loopW 0 [3, 4, 5, 9, 13, 16] L3b3) = K at hih ⊢
      generalize rds ms s = R at *
      generalize seen ms w w.length = S at *
      have n0 : ns [0] = [i64 0] := rfl
      unfold bd
      simp only [tb, ib, tA, n0] at l1 l2 w4 hih ⊢
      simpa -implicitDefEqProofs [L3b3, q1, q2, q3, q4, w4, l1, l2, hw] using hih
theorem FnBorders (x0 : List Int) (b0 : x0.length ≤ maxLen ∧ ∀ y ∈ x0, (Lit.int .u8 y).wf = true) : ev E1 3 [(AV.lst 1 (x0.map (fun q : Int => (AV.v (.int .u8 q)))))] [] = some (bl true, []) := by
  obtain ⟨hl, hw⟩ := b0
  show ev E1 3 [.lst 1 (cd x0)] [] = _
  have hb := two_big x0
  by_cases h0 : (65536 : Int) < (x0.length : Int)
  · rw [decide_eq_true h0] at hb
    rw [g3]
    unfold runF
    simp -implicitDefEqProofs [L3, hb]
  · rw [decide_eq_false h0] at hb
    have hx : okC x0 := by
      refine ⟨by omega, fun y hy => ?_⟩
      have h := hw y hy
      unfold Lit.wf at h
      rw [Bool.and_eq_true, decide_eq_true_eq, decide_eq_true_eq] at h
      exact h
    obtain ⟨s, ms, zs, zm, zz, eD⟩ := two_drawB x0 hx
    have hm : ms.length ≤ 1000 := by omega
    have hz : ∀ m ∈ ms, m.size ≤ 1000 := fun m hm => by have := zz m hm; omega
    have e1 := two_bi ms hm hz s (by omega)
    have e2 := two_bs ms hm hz s (by omega)
    have e3 := two_ci ms hm hz s (by omega)
    have e4 := two_cs ms hm hz s (by omega)
    have e5 := two_count ms hm hz s (by omega)
    have lb1 : (boV ms s false).length ≤ 1000 := by unfold boV; split; (have := bo_len ms s false (s.size + 1); omega); simp
    have lb2 : (boV ms s true).length ≤ 1000 := by unfold boV; split; (have := bo_len ms s true (s.size + 1); omega); simp
    have i1 := two_ints (boV ms s false) (by omega)
    have i2 := two_ints (boV ms s true) (by omega)
    rw [g3]
    unfold runF
    cases hc : okRead ms s with
    | false =>
      rw [hc] at e1 e2 e3 e4
      unfold tA at eD e1 e2 e3 e4
      simp -implicitDefEqProofs [L3, hb, eD, e1, e2, e3, e4, i1, i2]
    | true =>
      obtain ⟨hv, hs2⟩ := read_size hc
      have v1 : boV ms s false = bo ms s false (s.size + 1) := by unfold boV; rw [if_pos hc]
      have v2 : boV ms s true = bo ms s true (s.size + 1) := by unfold boV; rw [if_pos hc]
      rw [hc] at e1 e2 e3 e4 e5
      rw [if_pos rfl] at e5
      rw [v1] at e1 e2 i1 lb1
      rw [v2] at e3 e4 i2 lb2
      have hsl := sure_loop ms s (bo ms s false (s.size + 1)) (bo ms s true (s.size + 1)) lb1 lb2 ((rds ms s : Nat) : Int) _ 0 rfl (fun x hx => bo_sub hx)
      have hso := some_loop ms hm hz s (by omega) hc 6 0 (by omega) (by omega) (Nat.zero_le _)
      rw [c0] at hsl hso
      have n1 := ns_len (bo ms s false (s.size + 1))
      have n2 := ns_len (bo ms s true (s.size + 1))
      by_cases hr : rds ms s = 0
      · have y1 := bo_none hv hr false (s.size + 1)
        have y2 := bo_none hv hr true (s.size + 1)
        rw [y1] at e1 e2 i1 hsl
        rw [y2] at e3 e4 i2 hsl
        rw [hr, c0] at e5 hsl
        simp only [tA, tb, ns, List.map_nil] at eD e1 e2 e3 e4 e5 i1 i2 hsl
        simp -implicitDefEqProofs [L3, hb, eD, e1, e2, e3, e4, e5, i1, i2, hsl]
      · have hrp : 0 < rds ms s := by omega
        have y1 := bo_ends hrp false
        have y2 := bo_ends hrp true
        have c1 := two_has (bo ms s true (s.size + 1)) (by omega) 0 y2.1
        have c2 := two_has (bo ms s true (s.size + 1)) (by omega) s.size y2.2
        rw [c0] at c1
        have k1 : (bo ms s false (s.size + 1)).length ≠ 0 := fun e => by rw [List.eq_nil_of_length_eq_zero e] at y1; simp at y1
        have k2 : (bo ms s true (s.size + 1)).length ≠ 0 := fun e => by rw [List.eq_nil_of_length_eq_zero e] at y2; simp at y2
        have hone : rds ms s = 1 → (bo ms s true (s.size + 1)).length = (bo ms s false (s.size + 1)).length := fun e => by rw [bo_one hv e]
        have k3 : ¬ (((bo ms s false (s.size + 1)).length : Nat) : Int) = 0 := by omega
        have k4 : ¬ (((bo ms s true (s.size + 1)).length : Nat) : Int) = 0 := by omega
        have k5 : ¬ ((rds ms s : Nat) : Int) = 0 := by omega
        simp only [tA, tb] at eD e1 e2 e3 e4 e5 hsl hso
        generalize bo ms s false (s.size + 1) = LB at *
        generalize bo ms s true (s.size + 1) = LC at *
        generalize hZ1 : LB.length = z1 at *
        generalize hZ2 : LC.length = z2 at *
        generalize rds ms s = R at *
        by_cases h1 : R = 1
        · have hz12 := hone h1
          subst h1
          subst hz12
          rw [show ((1 : Nat) : Int) = 1 from rfl] at e5 hsl hso
          simp -implicitDefEqProofs [L3, hb, eD, e1, e2, e3, e4, e5, i1, i2, hsl, hso, n1, n2, c1, c2, k1, k2, k3, k4]
        · have h1i : ¬ (R : Int) = 1 := by omega
          simp -implicitDefEqProofs [L3, hb, eD, e1, e2, e3, e4, e5, i1, i2, hsl, hso, n1, n2, c1, c2, k1, k2, k3, k4, k5, hr, h1, h1i]
end Go.Proofs.YtkdfgjijmnaljaaDoor.Ev
