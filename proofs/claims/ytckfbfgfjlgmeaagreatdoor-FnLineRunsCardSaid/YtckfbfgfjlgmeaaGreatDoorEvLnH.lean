/- What the calls of the law on lines answer, told by themselves, and the law's own loops. -/
import Derived.Test.YtckfbfgfjlgmeaaGreatDoorEvLnA
import Derived.Test.YtckfbfgfjlgmeaaGreatDoorEvDrawLn3
import Derived.Test.YtckfbfgfjlgmeaaGreatDoorEvE1
set_option linter.unusedVariables false
set_option linter.unusedSimpArgs false
set_option maxHeartbeats 1000000
namespace Go.Proofs.YtckfbfgfjlgmeaaGreatDoor.Ev
open Dr
theorem rbig (x : List Int) : ev E0 6 [.lst 1 (cd x)] [] = some (bl (decide (65536 < (x.length : Int))), []) := by
  rw [e6]
  unfold runF
  simp -implicitDefEqProofs [L6, cd_len]
theorem two_rbig (x : List Int) : ev E1 6 [.lst 1 (cd x)] [] = some (bl (decide (65536 < (x.length : Int))), []) := by
  rw [g6]
  exact frz_to rfl (rbig x) (by simp) (by simp)
theorem rP_loop (l : List P) (hl : l.length ≤ 1000000) : ∀ (t : List P) (i : Nat), l.drop i = t →
    packX 0 [4] (loopW (bd E0 (ev E0) loopW 0 [0, 1, 5] L11b0) ⟨[(0, .lst 2 (l.map pn)), (1, .lst 2 (l.map pn)), (5, i64 i)], []⟩) = some (.ext 0, ⟨[], []⟩) := by
  intro t
  induction t with
  | nil =>
    intro i h
    have hi := not_drop h
    have hii : ¬ (i : Int) < (l.length : Int) := by omega
    rw [loopW_eq]
    generalize loopW (bd E0 (ev E0) loopW 0 [0, 1, 5] L11b0) = K
    simp -implicitDefEqProofs [bd, L11b0, hi, hii]
  | cons c t ih =>
    intro i h
    obtain ⟨hi, hx, hd, hmem⟩ := at_drop h
    have hih := ih (i + 1) hd
    have hii : (i : Int) < (l.length : Int) := by omega
    have g1 : (l.map pn)[i]? = some (.agg [i64 c.1, i64 c.2]) := by rw [List.getElem?_map, List.getElem?_eq_getElem hi, hx]; rfl
    have g2 : ∀ h, (l.map pn)[i]'h = .agg [i64 c.1, i64 c.2] := fun h => (List.getElem?_eq_some_iff.1 g1).2
    have hw : IntKind.i64.wrap ((i : Int) + 1) = (i : Int) + 1 := wr64 (by omega) (by omega)
    have hQ : (l.map pn).length = l.length := List.length_map _
    rw [cs1] at hih
    rw [loopW_eq]
    clear ih
    generalize l.map pn = Q at *
    generalize loopW (bd E0 (ev E0) loopW 0 [0, 1, 5] L11b0) = K at hih ⊢
    simpa -implicitDefEqProofs [bd, L11b0, hi, hii, g1, g2, hw, hQ] using hih
theorem rPr (l : List P) (hl : l.length ≤ 1000000) : ev E0 11 [.lst 2 (l.map pn), .lst 2 (l.map pn)] [] = some (bl true, []) := by
  have h := rP_loop l hl l 0 rfl
  rw [c0] at h
  rw [e11]
  unfold runF
  simp -implicitDefEqProofs [L11, h]
theorem two_rPr (l : List P) (hl : l.length ≤ 1000000) : ev E1 11 [.lst 2 (l.map pn), .lst 2 (l.map pn)] [] = some (bl true, []) := by
  rw [g11]
  exact frz_to rfl (rPr l hl) (by simp) (by simp)
theorem rI_loop (l : List Nat) (hl : l.length ≤ 1000000) : ∀ (t : List Nat) (i : Nat), l.drop i = t →
    packX 0 [4] (loopW (bd E0 (ev E0) loopW 0 [0, 1, 5] L27b0) ⟨[(0, .lst 1 (ns l)), (1, .lst 1 (ns l)), (5, i64 i)], []⟩) = some (.ext 0, ⟨[], []⟩) := by
  have hn : ∀ l : List Nat, (ns l).length = l.length := fun l => List.length_map _
  intro t
  induction t with
  | nil =>
    intro i h
    have hi := not_drop h
    have hii : ¬ (i : Int) < (l.length : Int) := by omega
    rw [loopW_eq]
    generalize loopW (bd E0 (ev E0) loopW 0 [0, 1, 5] L27b0) = K
    simp -implicitDefEqProofs [bd, L27b0, hi, hii, hn]
  | cons c t ih =>
    intro i h
    obtain ⟨hi, hx, hd, hmem⟩ := at_drop h
    have hih := ih (i + 1) hd
    have hii : (i : Int) < (l.length : Int) := by omega
    have g1 : (ns l)[i]? = some (i64 (c : Int)) := by unfold ns; rw [List.getElem?_map, List.getElem?_eq_getElem hi, hx]; rfl
    have g2 : ∀ h, (ns l)[i]'h = i64 (c : Int) := fun h => (List.getElem?_eq_some_iff.1 g1).2
    have hw : IntKind.i64.wrap ((i : Int) + 1) = (i : Int) + 1 := wr64 (by omega) (by omega)
    have hQ := hn l
    rw [cs1] at hih
    rw [loopW_eq]
    clear ih
    generalize ns l = Q at *
    generalize loopW (bd E0 (ev E0) loopW 0 [0, 1, 5] L27b0) = K at hih ⊢
    simpa -implicitDefEqProofs [bd, L27b0, hi, hii, g1, g2, hw, hQ] using hih
theorem rIn (l : List Nat) (hl : l.length ≤ 1000000) : ev E0 27 [.lst 1 (ns l), .lst 1 (ns l)] [] = some (bl true, []) := by
  have h := rI_loop l hl l 0 rfl
  rw [c0] at h
  rw [e27]
  unfold runF
  simp -implicitDefEqProofs [L27, h]
theorem free_ns' (l : List Nat) : okL (free 5) (ns l) = true := okL_map (fun _ => rfl) l
theorem two_rIn (l : List Nat) (hl : l.length ≤ 1000000) : ev E1 27 [.lst 1 (ns l), .lst 1 (ns l)] [] = some (bl true, []) := by
  rw [g27]
  exact frz_to rfl (rIn l hl) (by simp [free_ns']) (by simp)
theorem two_dRuns (x : List Int) (hx : okC x) : ∃ l : ByteArray, l.size ≤ 10000 ∧ ev E1 7 [.lst 1 (cd x)] [] = some (st l, []) := by
  obtain ⟨l, z, e⟩ := drawRuns x hx
  refine ⟨l, z, ?_⟩
  rw [g7]
  exact frz_to rfl e (by simp) (by simp)
theorem two_dJoin (x : List Int) (hx : okC x) : ∃ l m : ByteArray, l.size ≤ 10000 ∧ m.size ≤ 10000 ∧ ev E1 17 [.lst 1 (cd x)] [] = some (.tup [st l, st m], []) := by
  obtain ⟨l, m, z, z2, e⟩ := drawJoin x hx
  refine ⟨l, m, z, z2, ?_⟩
  rw [g17]
  exact frz_to rfl e (by simp) (by simp)
theorem two_dOnce (x : List Int) (hx : okC x) : ∃ l : List ByteArray, l.length ≤ 100 ∧ (∀ t ∈ l, t.size ≤ 10000) ∧ ev E1 24 [.lst 1 (cd x)] [] = some (.lst 1 (l.map st), []) := by
  obtain ⟨l, z1, z2, e⟩ := drawOnce x hx
  refine ⟨l, z1, z2, ?_⟩
  have e2 : List.take l.length (l.map st) = l.map st := List.take_of_length_le (by simp)
  unfold tr at e
  rw [g24]
  exact frz_to rfl e (by simp) (by simp [e2])
theorem two_dLor (x : List Int) (hx : okC x) : ∃ l : List P, l.length ≤ 10000 ∧ ev E1 12 [.lst 1 (cd x)] [] = some (.lst 2 (l.map pn), []) := by
  obtain ⟨l, z1, e⟩ := drawLor x hx
  refine ⟨l, z1, ?_⟩
  have e2 : List.take l.length (l.map pn) = l.map pn := List.take_of_length_le (by simp)
  unfold pB at e
  rw [g12]
  exact frz_to rfl e (by simp) (by simp [e2])
def rnV (l : ByteArray) : List P := if okLine l = true then pr l else []
theorem two_runs_i (l : ByteArray) (hl : l.size ≤ 10000) : ev E1 8 [st l] [] = some (.tup [.lst 2 ((rnV l).map pn), bl (okLine l)], []) := by
  obtain ⟨h1, h2⟩ := runsOf_i l (by omega)
  rw [g8]
  unfold rnV
  cases ho : okLine l with
  | false => exact frz_to rfl (h1 ho) (by simp) (by simp)
  | true =>
    have e := h2 ho
    unfold rB at e
    rw [rn_pn, show (runs (B l)).length = (pr l).length by unfold pr; rw [List.length_map]] at e
    change ev E0 8 [st l] [] = some (.tup [.sl 0 0 (pr l).length, bl true], [some ⟨45, 2, 1, false, (pr l).map pn⟩]) at e
    have e2 : List.take (pr l).length ((pr l).map pn) = (pr l).map pn := List.take_of_length_le (by simp)
    exact frz_to rfl e (by simp) (by simp [e2])
theorem two_runs_s (l : ByteArray) (hl : l.size ≤ 10000) : ev E1 9 [st l] [] = some (.tup [.lst 2 ((rnV l).map pn), bl (okLine l)], []) := by
  obtain ⟨h1, h2⟩ := runsOf_s l (by omega)
  rw [g9]
  unfold rnV
  cases ho : okLine l with
  | false =>
    have e := h1 ho
    unfold rB at e
    exact frz_to rfl e (by simp) (by simp)
  | true =>
    have e := h2 ho
    unfold rB at e
    rw [rn_pn, show (runs (B l)).length = (pr l).length by unfold pr; rw [List.length_map]] at e
    change ev E0 9 [st l] [] = some (.tup [.sl 0 0 (pr l).length, bl true], [some ⟨45, 2, 1, false, (pr l).map pn⟩]) at e
    have e2 : List.take (pr l).length ((pr l).map pn) = (pr l).map pn := List.take_of_length_le (by simp)
    exact frz_to rfl e (by simp) (by simp [e2])
theorem two_isLine (l : ByteArray) (hl : l.size ≤ 10000) : ev E1 10 [st l] [] = some (bl (okLine l), []) := by
  rw [g10]
  exact frz_to rfl (isLine_i l (by omega)) (by simp) (by simp)
theorem two_lor_i (l : List P) (hl : l.length ≤ 10000) : ev E1 13 [.lst 2 (l.map pn)] [] = some (.tup [st (lorT l), bl (okRs none 0 l)], []) := by
  rw [g13]
  exact frz_to rfl (lor_i l (by omega)) (by simp) (by simp)
theorem two_lor_s (l : List P) (hl : l.length ≤ 10000) : ev E1 14 [.lst 2 (l.map pn)] [] = some (.tup [st (lorT l), bl (okRs none 0 l)], []) := by
  rw [g14]
  exact frz_to rfl (lor_s l (by omega)) (by simp) (by simp)
theorem two_cnt_i (l : ByteArray) (hl : l.size ≤ 10000) : ev E1 15 [st l] [] = some (.tup [i64 (cnV l), bl (okLine l)], []) := by
  rw [g15]
  exact frz_to rfl (count_i l (by omega)) (by simp) (by simp)
theorem two_cnt_s (l : ByteArray) (hl : l.size ≤ 10000) : ev E1 16 [st l] [] = some (.tup [i64 (cnV l), bl (okLine l)], []) := by
  rw [g16]
  exact frz_to rfl (count_s l (by omega)) (by simp) (by simp)
theorem two_jo_i (a b : ByteArray) (ha : a.size ≤ 10000) (hb : b.size ≤ 10000) : ev E1 18 [st a, st b] [] = some (.tup [st (joV a b), bl (okLine a && okLine b)], []) := by
  rw [g18]
  exact frz_to rfl (jo_i a b ha hb) (by simp) (by simp)
theorem two_jo_s (a b : ByteArray) (ha : a.size ≤ 10000) (hb : b.size ≤ 10000) : ev E1 19 [st a, st b] [] = some (.tup [st (joV a b), bl (okLine a && okLine b)], []) := by
  rw [g19]
  exact frz_to rfl (jo_s a b ha hb) (by simp) (by simp)
def clV (a b : ByteArray) : Int := if (okLine a && okLine b) = true then (cl a b 0 : Int) else 0
def ldV (a b : ByteArray) : Int := if (okLine a && okLine b) = true then (ld a b : Int) else 0
theorem two_cl_i (a b : ByteArray) (ha : a.size ≤ 10000) (hb : b.size ≤ 10000) : ev E1 20 [st a, st b] [] = some (.tup [i64 (clV a b), bl (okLine a && okLine b)], []) := by
  rw [g20]
  exact frz_to rfl (clashOf_i a b (by omega) (by omega)) (by simp) (by simp [clV])
theorem two_cl_s (a b : ByteArray) (ha : a.size ≤ 10000) (hb : b.size ≤ 10000) : ev E1 21 [st a, st b] [] = some (.tup [i64 (clV a b), bl (okLine a && okLine b)], []) := by
  rw [g21]
  exact frz_to rfl (clashOf_s a b (by omega) (by omega)) (by simp) (by simp [clV])
theorem two_ld_i (a b : ByteArray) (ha : a.size ≤ 10000) (hb : b.size ≤ 10000) : ev E1 22 [st a, st b] [] = some (.tup [i64 (ldV a b), bl (okLine a && okLine b)], []) := by
  rw [g22]
  exact frz_to rfl (least_i a b ha hb) (by simp) (by simp [ldV])
theorem two_ld_s (a b : ByteArray) (ha : a.size ≤ 10000) (hb : b.size ≤ 10000) : ev E1 23 [st a, st b] [] = some (.tup [i64 (ldV a b), bl (okLine a && okLine b)], []) := by
  rw [g23]
  exact frz_to rfl (least_s a b ha hb) (by simp) (by simp [ldV])
def atV (Ls : List ByteArray) : List Nat := if okLns Ls = true then ocs Ls (mxA 0 Ls) else []
theorem two_oa_i (Ls : List ByteArray) (hL : Ls.length ≤ 100) (hz : ∀ l ∈ Ls, l.size ≤ 10000) : ev E1 25 [.lst 1 (Ls.map st)] [] = some (.tup [.lst 1 (ns (atV Ls)), bl (okLns Ls)], []) := by
  obtain ⟨h1, h2⟩ := oa_i Ls hL hz
  rw [g25]
  unfold atV
  cases ho : okLns Ls with
  | false => exact frz_to rfl (h1 ho) (by simp) (by simp [ns])
  | true =>
    have e := h2 ho
    unfold Go.Proofs.YtckfbfgfjlgmeaaGreatDoor.Ev.ib at e
    rw [if_pos rfl]
    have e2 : List.take (ocs Ls (mxA 0 Ls)).length (ns (ocs Ls (mxA 0 Ls))) = ns (ocs Ls (mxA 0 Ls)) := List.take_of_length_le (by simp [ns])
    have hn : (ns (ocs Ls (mxA 0 Ls))).length = (ocs Ls (mxA 0 Ls)).length := List.length_map _
    have hf := free_ns' (ocs Ls (mxA 0 Ls))
    generalize ocs Ls (mxA 0 Ls) = O at *
    generalize ns O = Q at *
    exact frz_to rfl e (by simp) (by simp [e2, hn, hf])
theorem two_oa_s (Ls : List ByteArray) (hL : Ls.length ≤ 100) (hz : ∀ l ∈ Ls, l.size ≤ 10000) : ev E1 26 [.lst 1 (Ls.map st)] [] = some (.tup [.lst 1 (ns (atV Ls)), bl (okLns Ls)], []) := by
  obtain ⟨h1, h2⟩ := oa_s Ls hL hz
  rw [g26]
  unfold atV
  cases ho : okLns Ls with
  | false =>
    have e := h1 ho
    unfold Go.Proofs.YtckfbfgfjlgmeaaGreatDoor.Ev.ib at e
    exact frz_to rfl e (by simp) (by simp [ns])
  | true =>
    have e := h2 ho
    unfold Go.Proofs.YtckfbfgfjlgmeaaGreatDoor.Ev.ib at e
    rw [if_pos rfl]
    have e2 : List.take (ocs Ls (mxA 0 Ls)).length (ns (ocs Ls (mxA 0 Ls))) = ns (ocs Ls (mxA 0 Ls)) := List.take_of_length_le (by simp [ns])
    have hn : (ns (ocs Ls (mxA 0 Ls))).length = (ocs Ls (mxA 0 Ls)).length := List.length_map _
    have hf := free_ns' (ocs Ls (mxA 0 Ls))
    generalize ocs Ls (mxA 0 Ls) = O at *
    generalize ns O = Q at *
    exact frz_to rfl e (by simp) (by simp [e2, hn, hf])
theorem two_dl_yes (l : ByteArray) (hl : l.size ≤ 10000) (n : Nat) (hn : n ≤ 10000) (h : okLine l = true ∧ n + l.size ≤ 200) : ev E1 28 [st l, i64 n] [] = some (.tup [st (dlV l n), bl true], []) := by
  rw [g28]
  exact frz_to rfl ((delay_i l hl n hn).1 h) (by simp) (by simp)
theorem two_dl_no (l : ByteArray) (hl : l.size ≤ 10000) (n : Nat) (hn : n ≤ 10000) (h : ¬ (okLine l = true ∧ n + l.size ≤ 200)) : ev E1 28 [st l, i64 n] [] = some (.tup [st ⟨#[]⟩, bl false], []) := by
  rw [g28]
  exact frz_to rfl ((delay_i l hl n hn).2 h) (by simp) (by simp)
-- ---------------------------------------------------------------- the law's own loops
theorem sum_loop (L : List P) (hL : L.length ≤ 10000) (list : List P) (lines : List ByteArray) (at' : List Nat) (l made a b both back : ByteArray) (one three six seven : Bool) (on clash least : Int) : ∀ (t : List P) (i : Nat) (s : Int), L.drop i = t → (∀ p ∈ t, (p.1 = 0 ∨ p.1 = 1) ∧ 0 ≤ p.2 ∧ p.2 ≤ 200) → 0 ≤ s → s ≤ 200 * i →
    packX 0 [3, 8, 9, 10, 13, 17, 18, 19, 20, 23, 27, 31, 32, 33, 36, 37, 38] (loopW (bd E1 (ev E1) loopW 0 [3, 4, 8, 9, 10, 13, 17, 18, 19, 20, 23, 27, 31, 32, 33, 36, 37, 38, 39] L3b0) ⟨[(3, st l), (4, .lst 2 (L.map pn)), (8, .lst 2 (list.map pn)), (9, st made), (10, bl one), (13, i64 on), (17, st a), (18, st b), (19, st both), (20, bl three), (23, i64 clash), (27, i64 least), (31, .lst 1 (lines.map st)), (32, .lst 1 (ns at')), (33, bl six), (36, st back), (37, bl seven), (38, i64 s), (39, i64 i)], []⟩) =
      some (.ext 0, ⟨[(3, st l), (8, .lst 2 (list.map pn)), (9, st made), (10, bl one), (13, i64 on), (17, st a), (18, st b), (19, st both), (20, bl three), (23, i64 clash), (27, i64 least), (31, .lst 1 (lines.map st)), (32, .lst 1 (ns at')), (33, bl six), (36, st back), (37, bl seven), (38, i64 (s + sumP t))], []⟩) := by
  have hf1 := free_ns' at'
  have hf2 := free_st lines
  have hf3 := free_pn list
  have hf4 := free_pn L
  have hQ : (L.map pn).length = L.length := List.length_map _
  intro t
  induction t with
  | nil =>
    intro i s h hp h0 h1
    have hi := not_drop h
    have hii : ¬ (i : Int) < (L.length : Int) := by omega
    rw [show s + sumP [] = s by rw [sumP]; omega, loopW_eq]
    clear h hp
    generalize ns at' = Q1 at *
    generalize lines.map st = Q2 at *
    generalize list.map pn = Q3 at *
    generalize L.map pn = Q4 at *
    generalize loopW (bd E1 (ev E1) loopW 0 [3, 4, 8, 9, 10, 13, 17, 18, 19, 20, 23, 27, 31, 32, 33, 36, 37, 38, 39] L3b0) = K
    simp -implicitDefEqProofs [bd, L3b0, hi, hii, hf1, hf2, hf3, hf4, hQ]
  | cons c t ih =>
    intro i s h hp h0 h1
    obtain ⟨hi, hx, hd, hmem⟩ := at_drop h
    obtain ⟨v, n⟩ := c
    obtain ⟨k1, k2, k3⟩ := hp _ List.mem_cons_self
    dsimp only at k1 k2 k3
    have hm0 : 0 ≤ v * n ∧ v * n ≤ 200 := by rcases k1 with rfl | rfl <;> omega
    have hih := ih (i + 1) (s + v * n) hd (fun q hq => hp q (List.mem_cons_of_mem _ hq)) (by omega) (by omega)
    rw [show s + v * n + sumP t = s + sumP ((v, n) :: t) by rw [sumP]; show s + v * n + sumP t = s + (v * n + sumP t); omega] at hih
    have hii : (i : Int) < (L.length : Int) := by omega
    have g1 : (L.map pn)[i]? = some (.agg [i64 v, i64 n]) := by rw [List.getElem?_map, List.getElem?_eq_getElem hi, hx]; rfl
    have g2 : ∀ h, (L.map pn)[i]'h = .agg [i64 v, i64 n] := fun h => (List.getElem?_eq_some_iff.1 g1).2
    have hw : IntKind.i64.wrap ((i : Int) + 1) = (i : Int) + 1 := wr64 (by omega) (by omega)
    have hwm : IntKind.i64.wrap (v * n) = v * n := wr64 (by omega) (by omega)
    have hws : IntKind.i64.wrap (s + v * n) = s + v * n := wr64 (by omega) (by omega)
    generalize sumP ((v, n) :: t) = Z at *
    rw [cs1] at hih
    rw [loopW_eq]
    clear ih h hp hd hmem hx
    generalize ns at' = Q1 at *
    generalize lines.map st = Q2 at *
    generalize list.map pn = Q3 at *
    generalize L.map pn = Q4 at *
    generalize loopW (bd E1 (ev E1) loopW 0 [3, 4, 8, 9, 10, 13, 17, 18, 19, 20, 23, 27, 31, 32, 33, 36, 37, 38, 39] L3b0) = K at hih ⊢
    simpa -implicitDefEqProofs [bd, L3b0, hi, hii, hf1, hf2, hf3, hf4, hQ, g1, g2, hw, hwm, hws] using hih
theorem at_loop (A : List Nat) (hA : A.length ≤ 10000) (lines : List ByteArray) (a b both : ByteArray) (three : Bool) (clash least all : Int) : ∀ (t : List Nat) (i s : Nat), A.drop i = t → (∀ p ∈ t, p ≤ 200) → s ≤ 200 * i →
    packX 0 [17, 18, 19, 20, 23, 27, 31, 42, 43] (loopW (bd E1 (ev E1) loopW 0 [17, 18, 19, 20, 23, 27, 31, 32, 42, 43, 44] L3b1) ⟨[(17, st a), (18, st b), (19, st both), (20, bl three), (23, i64 clash), (27, i64 least), (31, .lst 1 (lines.map st)), (32, .lst 1 (ns A)), (42, i64 s), (43, i64 all), (44, i64 i)], []⟩) =
      some (.ext 2, ⟨[(17, st a), (18, st b), (19, st both), (20, bl three), (23, i64 clash), (27, i64 least), (31, .lst 1 (lines.map st)), (42, i64 ((s + sumN t : Nat) : Int)), (43, i64 all)], []⟩) := by
  have hf1 := free_ns' A
  have hf2 := free_st lines
  have hQ : (ns A).length = A.length := List.length_map _
  intro t
  induction t with
  | nil =>
    intro i s h hp h1
    have hi := not_drop h
    have hii : ¬ (i : Int) < (A.length : Int) := by omega
    rw [show s + sumN [] = s by rw [sumN]; omega, loopW_eq]
    clear h hp
    generalize lines.map st = Q2 at *
    generalize ns A = Q4 at *
    generalize loopW (bd E1 (ev E1) loopW 0 [17, 18, 19, 20, 23, 27, 31, 32, 42, 43, 44] L3b1) = K
    simp -implicitDefEqProofs [bd, L3b1, hi, hii, hf1, hf2, hQ]
  | cons c t ih =>
    intro i s h hp h1
    obtain ⟨hi, hx, hd, hmem⟩ := at_drop h
    have k1 := hp _ List.mem_cons_self
    have hih := ih (i + 1) (s + c) hd (fun q hq => hp q (List.mem_cons_of_mem _ hq)) (by omega)
    rw [show s + c + sumN t = s + sumN (c :: t) by rw [sumN]; omega] at hih
    have hii : (i : Int) < (A.length : Int) := by omega
    have g1 : (ns A)[i]? = some (i64 (c : Int)) := by unfold ns; rw [List.getElem?_map, List.getElem?_eq_getElem hi, hx]; rfl
    have g2 : ∀ h, (ns A)[i]'h = i64 (c : Int) := fun h => (List.getElem?_eq_some_iff.1 g1).2
    have hw : IntKind.i64.wrap ((i : Int) + 1) = (i : Int) + 1 := wr64 (by omega) (by omega)
    have hws : IntKind.i64.wrap ((s : Int) + (c : Int)) = (s : Int) + (c : Int) := wr64 (by omega) (by omega)
    have tc : ((s + c : Nat) : Int) = (s : Int) + (c : Int) := by omega
    generalize s + sumN (c :: t) = Z at *
    rw [cs1, tc] at hih
    rw [loopW_eq]
    clear ih h hp hd hmem hx
    generalize lines.map st = Q2 at *
    generalize ns A = Q4 at *
    generalize loopW (bd E1 (ev E1) loopW 0 [17, 18, 19, 20, 23, 27, 31, 32, 42, 43, 44] L3b1) = K at hih ⊢
    simpa -implicitDefEqProofs [bd, L3b1, hi, hii, hf1, hf2, hQ, g1, g2, hw, hws] using hih
theorem own_loop (Ls : List ByteArray) (hL : Ls.length ≤ 100) (a b both : ByteArray) (three : Bool) (clash least sum : Int) : ∀ (t : List ByteArray) (i s : Nat), Ls.drop i = t → (∀ l ∈ t, okLine l = true) → s ≤ 200 * i →
    packX 0 [2, 17, 18, 19, 20, 23, 27, 42, 43] (loopW (bd E1 (ev E1) loopW 0 [17, 18, 19, 20, 23, 27, 31, 42, 43, 45] L3b2) ⟨[(17, st a), (18, st b), (19, st both), (20, bl three), (23, i64 clash), (27, i64 least), (31, .lst 1 (Ls.map st)), (42, i64 sum), (43, i64 s), (45, i64 i)], []⟩) =
      some (.ext 4, ⟨[(17, st a), (18, st b), (19, st both), (20, bl three), (23, i64 clash), (27, i64 least), (42, i64 sum), (43, i64 ((s + sumN (t.map cnt) : Nat) : Int))], []⟩) := by
  have hf2 := free_st Ls
  have hQ : (Ls.map st).length = Ls.length := List.length_map _
  intro t
  induction t with
  | nil =>
    intro i s h hp h1
    have hi := not_drop h
    have hii : ¬ (i : Int) < (Ls.length : Int) := by omega
    rw [show s + sumN (([] : List ByteArray).map cnt) = s by rw [List.map_nil, sumN]; omega, loopW_eq]
    clear h hp
    generalize Ls.map st = Q2 at *
    generalize loopW (bd E1 (ev E1) loopW 0 [17, 18, 19, 20, 23, 27, 31, 42, 43, 45] L3b2) = K
    simp -implicitDefEqProofs [bd, L3b2, hi, hii, hf2, hQ]
  | cons c t ih =>
    intro i s h hp h1
    obtain ⟨hi, hx, hd, hmem⟩ := at_drop h
    have k1 := hp _ List.mem_cons_self
    obtain ⟨z1, _⟩ := okLine_iff k1
    have hc : cnt c ≤ 200 := by have := S_le (fun j => onB c j) c.size; unfold cnt; omega
    have hih := ih (i + 1) (s + cnt c) hd (fun q hq => hp q (List.mem_cons_of_mem _ hq)) (by omega)
    rw [show s + cnt c + sumN (t.map cnt) = s + sumN ((c :: t).map cnt) by rw [List.map_cons, sumN]; omega] at hih
    have hii : (i : Int) < (Ls.length : Int) := by omega
    have g1 : (Ls.map st)[i]? = some (st c) := by rw [List.getElem?_map, List.getElem?_eq_getElem hi, hx]; rfl
    have g2 : ∀ h, (Ls.map st)[i]'h = st c := fun h => (List.getElem?_eq_some_iff.1 g1).2
    have hw : IntKind.i64.wrap ((i : Int) + 1) = (i : Int) + 1 := wr64 (by omega) (by omega)
    have hws : IntKind.i64.wrap ((s : Int) + (cnt c : Int)) = (s : Int) + (cnt c : Int) := wr64 (by omega) (by omega)
    have tc : ((s + cnt c : Nat) : Int) = (s : Int) + (cnt c : Int) := by omega
    have e := two_cnt_i c (by omega)
    unfold cnV at e
    rw [k1, if_pos rfl] at e
    generalize s + sumN ((c :: t).map cnt) = Z at *
    rw [cs1, tc] at hih
    rw [loopW_eq]
    clear ih h hp hd hmem hx
    generalize cnt c = C at *
    generalize Ls.map st = Q2 at *
    generalize loopW (bd E1 (ev E1) loopW 0 [17, 18, 19, 20, 23, 27, 31, 42, 43, 45] L3b2) = K at hih ⊢
    simpa -implicitDefEqProofs [bd, L3b2, hi, hii, hf2, hQ, g1, g2, hw, hws, e] using hih
end Go.Proofs.YtckfbfgfjlgmeaaGreatDoor.Ev
