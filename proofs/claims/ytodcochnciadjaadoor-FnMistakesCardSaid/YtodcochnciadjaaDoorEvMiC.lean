/- Signals read with mistakes, and without: what the functions answer. -/
import Derived.Test.YtodcochnciadjaaDoorEvMiB
set_option linter.unusedVariables false
set_option linter.unusedSimpArgs false
namespace Go.Proofs.YtodcochnciadjaaDoor.Ev
theorem join_sp (l : List ByteArray) (h1 : l.length ≤ 1000000) (h2 : (joinB l ⟨#[32]⟩).length ≤ 1000000) : ev E0 85 [.lst 1 (l.map st), st ⟨#[32]⟩] [] = some (st (mkB (joinB l ⟨#[32]⟩)), []) := by
  rw [e85]
  show joinQ ⟨#[32]⟩ [] (strsOf (l.map st)) = _
  rw [strsOf_map]
  show (if _ then _ else _) = _
  rw [if_pos ⟨by omega, by omega⟩]
  rfl
theorem joinB_rws (f : ByteArray → Nat) (W : List (List ByteArray)) : joinB (rws f W) ⟨#[32]⟩ = tlW 0 (bws f W) := by
  unfold joinB rws bws tlW
  rw [if_pos rfl, List.map_map]
  rfl
theorem join_len : ∀ (ws : List (List UInt8)) (i : Nat), (tlW i ws).length ≤ (ws.map (fun w => w.length + 1)).sum
  | [], i => by rw [tlW_nil]; exact Nat.zero_le _
  | w :: r, 0 => by
    have := join_len r 1
    rw [tlW_zero, List.length_append, List.map_cons, List.sum_cons]
    omega
  | w :: r, i + 1 => by
    have := join_len r (i + 2)
    rw [tlW_succ, List.length_append, List.length_append, List.map_cons, List.sum_cons, List.length_singleton]
    omega
theorem bws_sum (f : ByteArray → Nat) : ∀ W : List (List ByteArray), ((bws f W).map (fun w => w.length + 1)).sum = cntW W
  | [] => rfl
  | w :: r => by
    have := bws_sum f r
    show ((lby (w.map f)).length + 1) + ((bws f r).map (fun w => w.length + 1)).sum = _
    rw [this, cntW]
    simp [lby]
theorem lw_cnt {s : ByteArray} (h : okSig s = true) : cntW (lw s) ≤ 13 ∧ (lw s).all okLs = true := by
  unfold okSig at h
  unfold lw
  by_cases he : s = ⟨#[]⟩
  · rw [if_pos he]
    exact ⟨by decide, rfl⟩
  · rw [if_neg he]
    rw [decide_eq_false he, Bool.false_or, Bool.and_eq_true, Bool.and_eq_true, decide_eq_true_eq] at h
    have := of_decide_eq_true h.2
    exact ⟨by omega, h.1.2⟩
theorem cntW_mem : ∀ {W : List (List ByteArray)} {w : List ByteArray}, w ∈ W → w.length + 1 ≤ cntW W
  | x :: W, w, h => by
    rcases List.mem_cons.1 h with rfl | h
    · rw [cntW]; omega
    · have := cntW_mem h
      rw [cntW]
      omega
theorem all_ls {W : List (List ByteArray)} (h : W.all okLs = true) {w : List ByteArray} (hw : w ∈ W) {x : ByteArray} (hx : x ∈ w) : okMarks x 1 5 = true := by
  have h1 := List.all_eq_true.1 h w hw
  unfold okLs at h1
  exact List.all_eq_true.1 h1 x hx
theorem okM_sz {x : ByteArray} {a b : Int} (h : okMarks x a b = true) : a ≤ x.size ∧ (x.size : Int) ≤ b := by
  unfold okMarks at h
  rw [Bool.and_eq_true, Bool.and_eq_true, decide_eq_true_eq, decide_eq_true_eq] at h
  exact h.2
theorem lw_b {s : ByteArray} (h : okSig s = true) : (lw s).length ≤ 13 ∧ (∀ w ∈ lw s, w.length ≤ 12) ∧ ∀ w ∈ lw s, ∀ x ∈ w, x.size ≤ 5 := by
  obtain ⟨h1, h2⟩ := lw_cnt h
  have h3 := cntW_L (lw s)
  refine ⟨by omega, fun w hw => by have := cntW_mem hw; omega, fun w hw x hx => by have := okM_sz (all_ls h2 hw hx); omega⟩
/-- The message of the nearest letters of a signal. -/
def rdM (ms : List ByteArray) (s : ByteArray) : ByteArray := mkB (tlW 0 (bws (nf ms) (lw s)))
def rdS (ms : List ByteArray) (s : ByteArray) : Nat := sumW (nd ms) (lw s)
def okRS (ms : List ByteArray) (s : ByteArray) : Bool := okTable ms && okSig s
theorem read_i (ms : List ByteArray) (hm : ms.length ≤ 100) (hz : ∀ m ∈ ms, m.size ≤ 400) (s : ByteArray) (hs : s.size ≤ 1048576) : ev E0 44 [.agg [.lst 1 (ms.map st)], st s] [] = some (if okRS ms s = true then .tup [st (rdM ms s), i64 (rdS ms s : Int), bl true] else .tup [st ⟨#[]⟩, i64 0, bl false], []) := by
  have h1 := table_i ms (by omega) (fun x hx => by have := hz x hx; omega)
  have h2 := isSignal_i s hs
  cases ho : okTable ms with
  | false =>
    rw [ho] at h1
    have hb : okRS ms s = false := by unfold okRS; rw [ho]; rfl
    rw [e44]
    unfold runF
    simp -implicitDefEqProofs [L44, h1, hb]
  | true =>
    rw [ho] at h1
    have hb : okRS ms s = okSig s := by unfold okRS; rw [ho]; rfl
    cases hc : okSig s with
    | false =>
      rw [hc] at h2 hb
      rw [e44]
      unfold runF
      simp -implicitDefEqProofs [L44, h1, h2, hb]
    | true =>
      rw [hc] at h2 hb
      obtain ⟨b1, b2, b3⟩ := lw_b hc
      have hl := lettersOf_i s hs
      have hlen := okTable_len ho
      have hr := read1 ms hm hlen.1 hz (lw s) (by omega) (fun w hw => by have := b2 w hw; omega) (fun w hw x hx => by have := b3 w hw x hx; omega) (lw s) 0 [] 0 rfl (by simp) (by omega)
      rw [c0, List.nil_append, List.length_nil, Nat.zero_add] at hr
      have hjl := join_len (bws (nf ms) (lw s)) 0
      rw [bws_sum] at hjl
      have hcn := (lw_cnt hc).1
      have hj := join_sp (rws (nf ms) (lw s)) (by unfold rws; rw [List.length_map]; omega) (by rw [joinB_rws]; omega)
      rw [joinB_rws] at hj
      change ev E0 _ _ _ = some (st (rdM ms s), []) at hj
      rw [show sumW (nd ms) (lw s) = rdS ms s from rfl] at hr
      generalize rdM ms s = M at *
      generalize rdS ms s = S at *
      generalize rws (nf ms) (lw s) = O at *
      generalize lw s = W at *
      unfold tb sb wb at *
      rw [show List.map st [] = [] from rfl] at hr
      have htO : List.take O.length (O.map st) = O.map st := List.take_of_length_le (by simp)
      rw [e44]
      unfold runF
      simp -implicitDefEqProofs [L44, h1, h2, hb, hl, hr, hj, htO]
theorem read_s (ms : List ByteArray) (hm : ms.length ≤ 100) (hz : ∀ m ∈ ms, m.size ≤ 400) (s : ByteArray) (hs : s.size ≤ 1048576) : ev E0 45 [.agg [.lst 1 (ms.map st)], st s] [] = some (if okRS ms s = true then .tup [st (rdM ms s), i64 (rdS ms s : Int), bl true] else .tup [st ⟨#[]⟩, i64 0, bl false], []) := by
  have h1 := table_s ms (by omega) (fun x hx => by have := hz x hx; omega)
  have h2 := signal_s s (by omega)
  cases ho : okTable ms with
  | false =>
    rw [ho] at h1
    have hb : okRS ms s = false := by unfold okRS; rw [ho]; rfl
    rw [e45]
    unfold runF
    simp -implicitDefEqProofs [L45, h1, hb]
  | true =>
    rw [ho] at h1
    have hb : okRS ms s = okSig s := by unfold okRS; rw [ho]; rfl
    cases hc : okSig s with
    | false =>
      rw [hc] at h2 hb
      rw [e45]
      unfold runF
      simp -implicitDefEqProofs [L45, h1, h2, hb]
    | true =>
      rw [hc] at h2 hb
      by_cases he : s = ⟨#[]⟩
      · have hM : rdM ms s = ⟨#[]⟩ := by unfold rdM lw; rw [if_pos he]; rfl
        have hS : rdS ms s = 0 := by unfold rdS lw; rw [if_pos he]; rfl
        rw [hM, hS]
        subst he
        rw [e45]
        unfold runF
        simp -implicitDefEqProofs [L45, h1, h2, hb]
      · obtain ⟨b1, b2, b3⟩ := lw_b hc
        have hlw : lw s = wordsOf s := if_neg he
        have hl := words_s s hs
        rw [← hlw] at hl
        have hlen := okTable_len ho
        have h0 : (⟨#[]⟩ : ByteArray).size = 0 := rfl
        have hr := readS1 ms hm hlen.1 hz (lw s) (by omega) (fun w hw => by have := b2 w hw; omega) (fun w hw x hx => by have := b3 w hw x hx; omega) (lw s) 0 ⟨#[]⟩ 0 rfl (by omega) (by omega)
        have he2 : ⟨#[]⟩ ++ mkB (tlW 0 (bws (nf ms) (lw s))) = rdM ms s := B_inj (by rw [B_append]; rfl)
        rw [c0, Nat.zero_add, he2, show sumW (nd ms) (lw s) = rdS ms s from rfl] at hr
        generalize rdM ms s = M at *
        generalize rdS ms s = S at *
        generalize lw s = W at *
        unfold tb wb at *
        rw [e45]
        unfold runF
        simp -implicitDefEqProofs [L45, h1, h2, hb, hl, hr, he]
-- ---------------------------------------------------------------- decoding
def pl (ms : List ByteArray) (m : ByteArray) : Nat := (place m ms 0).toNat
def inM (ms : List ByteArray) (w : List ByteArray) : Bool := w.all fun m => decide (0 ≤ place m ms 0)
theorem place_b (x : ByteArray) : ∀ (t : List ByteArray) (o : Nat), place x t o < (o + t.length : Int) ∨ place x t o = -1
  | [], o => .inr rfl
  | y :: t, o => by
    unfold place
    split
    · left; rw [List.length_cons]; omega
    · rcases place_b x t (o + 1) with h | h
      · left; rw [List.length_cons]; omega
      · right; exact h
theorem dec0 (ms : List ByteArray) (hm : ms.length ≤ 100) (O : List ByteArray) (W : List (List ByteArray)) (i : Nat) (w : List ByteArray) (hwl : w.length ≤ 10000) : ∀ (t : List ByteArray) (k : Nat) (p : ByteArray), w.drop k = t → p.size + t.length ≤ 100000 →
    (inM ms t = true → packX 0 [2, 4, 5, 6, 9, 15, 16, 17] (loopW (bd E0 (ev E0) loopW 0 [2, 6, 9, 15, 16, 17, 21, 22, 23] L89b0) ⟨[(2, .ptr 0 0 0), (6, .sl 1 0 O.length), (9, st p), (15, .sl 2 0 W.length), (16, i64 W.length), (17, i64 i), (21, .lst 1 (w.map st)), (22, i64 w.length), (23, i64 k)], [some (tb ms), some (sb O), some (wb W)]⟩) =
      some (.ext 2, ⟨[(2, .ptr 0 0 0), (6, .sl 1 0 O.length), (9, st (p ++ mkB (lby (t.map (pl ms))))), (15, .sl 2 0 W.length), (16, i64 W.length), (17, i64 i)], [some (tb ms), some (sb O), some (wb W)]⟩)) ∧
    (inM ms t = false → ∃ q, packX 0 [2, 4, 5, 6, 9, 15, 16, 17] (loopW (bd E0 (ev E0) loopW 0 [2, 6, 9, 15, 16, 17, 21, 22, 23] L89b0) ⟨[(2, .ptr 0 0 0), (6, .sl 1 0 O.length), (9, st p), (15, .sl 2 0 W.length), (16, i64 W.length), (17, i64 i), (21, .lst 1 (w.map st)), (22, i64 w.length), (23, i64 k)], [some (tb ms), some (sb O), some (wb W)]⟩) =
      some (.ret, ⟨[(2, .ptr 0 0 0), (4, st ⟨#[]⟩), (5, bl false), (6, .sl 1 0 O.length), (9, st q), (15, .sl 2 0 W.length), (16, i64 W.length), (17, i64 i)], [some (tb ms), some (sb O), some (wb W)]⟩)) := by
  unfold tb sb wb
  intro t
  induction t with
  | nil =>
    intro k p h _
    have hk := not_drop h
    have hk2 : ¬ (k : Int) < (w.length : Int) := by omega
    refine ⟨fun _ => ?_, fun h => by simp [inM] at h⟩
    rw [List.map_nil, lby_nil, loopW_eq]
    generalize loopW (bd E0 (ev E0) loopW 0 [2, 6, 9, 15, 16, 17, 21, 22, 23] L89b0) = K
    simp -implicitDefEqProofs [bd, L89b0, hk, hk2]
  | cons m t ih =>
    intro k p h hp
    obtain ⟨hk, hx, hd, hmem⟩ := at_drop h
    rw [List.length_cons] at hp
    have hpl := index_s ms (by omega) m
    have hk2 : (k : Int) < (w.length : Int) := by omega
    have hg := get_mk0 hk hx
    have hg2 : ∀ h, (w.map st)[k]'h = st m := fun h => (List.getElem?_eq_some_iff.1 hg).2
    have hww : IntKind.i64.wrap ((k : Int) + 1) = (k : Int) + 1 := wr64 (by omega) (by omega)
    have hc : inM ms (m :: t) = (decide (0 ≤ place m ms 0) && inM ms t) := by unfold inM; rw [List.all_cons]
    rw [hc, loopW_eq]
    by_cases h0 : 0 ≤ place m ms 0
    · have hpn : place m ms 0 = (pl ms m : Int) := by unfold pl; omega
      have hpb := place_b m ms 0
      have z1 : (lt1 (pl ms m)).size = 1 := rfl
      obtain ⟨ih1, ih2⟩ := ih (k + 1) (p ++ lt1 (pl ms m)) hd (by rw [ByteArray.size_append]; omega)
      rw [cs1, lby_cons, ← List.map_cons] at ih1
      rw [cs1] at ih2
      have hlt1 := letterText_i (pl ms m) (by omega)
      have hsz : p.size + (lt1 (pl ms m)).size ≤ 9223372036854775807 := by omega
      rw [decide_eq_true h0, Bool.true_and]
      rw [hpn] at hpl
      clear ih hpn hpb h0
      have hk0 : ¬ (pl ms m : Int) < 0 := by omega
      refine ⟨fun hq => ?_, fun hq => ?_⟩
      · have hh := ih1 hq
        generalize loopW (bd E0 (ev E0) loopW 0 [2, 6, 9, 15, 16, 17, 21, 22, 23] L89b0) = K at hh ⊢
        generalize p ++ mkB (lby (List.map (pl ms) (m :: t))) = R at hh ⊢
        generalize lt1 (pl ms m) = lm1 at *
        generalize pl ms m = k0 at *
        simpa -implicitDefEqProofs [bd, L89b0, -ByteArray.size_append, hk, hk2, hg, hg2, hpl, hlt1, hww, hsz, hk0] using hh
      · obtain ⟨q, hh⟩ := ih2 hq
        refine ⟨q, ?_⟩
        generalize loopW (bd E0 (ev E0) loopW 0 [2, 6, 9, 15, 16, 17, 21, 22, 23] L89b0) = K at hh ⊢
        generalize lt1 (pl ms m) = lm1 at *
        generalize pl ms m = k0 at *
        simpa -implicitDefEqProofs [bd, L89b0, -ByteArray.size_append, hk, hk2, hg, hg2, hpl, hlt1, hww, hsz, hk0] using hh
    · rw [decide_eq_false h0, Bool.false_and]
      refine ⟨fun h => by simp at h, fun _ => ⟨p, ?_⟩⟩
      have h0' : place m ms 0 < 0 := by omega
      generalize place m ms 0 = z at *
      generalize loopW (bd E0 (ev E0) loopW 0 [2, 6, 9, 15, 16, 17, 21, 22, 23] L89b0) = K
      simp -implicitDefEqProofs [bd, L89b0, hk, hk2, hg, hg2, hpl, h0']
theorem dec1 (ms : List ByteArray) (hm : ms.length ≤ 100) (W : List (List ByteArray)) (hW : W.length ≤ 1000) (hwl : ∀ w ∈ W, w.length ≤ 100) : ∀ (t : List (List ByteArray)) (i : Nat) (O : List ByteArray), W.drop i = t → O.length ≤ i →
    (t.all (inM ms) = true → packX 0 [4, 5, 6] (loopW (bd E0 (ev E0) loopW 0 [2, 6, 15, 16, 17] L89b1) ⟨[(2, .ptr 0 0 0), (6, .sl 1 0 O.length), (15, .sl 2 0 W.length), (16, i64 W.length), (17, i64 i)], [some (tb ms), some (sb O), some (wb W)]⟩) =
      some (.ext 0, ⟨[(6, .sl 0 0 (O ++ rws (pl ms) t).length)], [some (sb (O ++ rws (pl ms) t))]⟩)) ∧
    (t.all (inM ms) = false → ∃ O', packX 0 [4, 5, 6] (loopW (bd E0 (ev E0) loopW 0 [2, 6, 15, 16, 17] L89b1) ⟨[(2, .ptr 0 0 0), (6, .sl 1 0 O.length), (15, .sl 2 0 W.length), (16, i64 W.length), (17, i64 i)], [some (tb ms), some (sb O), some (wb W)]⟩) =
      some (.ret, ⟨[(4, st ⟨#[]⟩), (5, bl false), (6, .sl 0 0 O'.length)], [some (sb O')]⟩)) := by
  intro t
  induction t with
  | nil =>
    intro i O h _
    have hi := not_drop h
    have hi2 : ¬ (i : Int) < (W.length : Int) := by omega
    refine ⟨fun _ => ?_, fun h => by simp at h⟩
    rw [show rws (pl ms) [] = [] from rfl, List.append_nil, loopW_eq]
    unfold tb sb wb
    generalize loopW (bd E0 (ev E0) loopW 0 [2, 6, 15, 16, 17] L89b1) = K
    unfold bd
    simp -implicitDefEqProofs [L89b1, hi, hi2]
  | cons w t ih =>
    intro i O h hO
    obtain ⟨hi, hx, hd, hmem⟩ := at_drop h
    have hl := hwl w hmem
    have h0 : (⟨#[]⟩ : ByteArray).size = 0 := rfl
    obtain ⟨in1, in2⟩ := dec0 ms hm O W i w (by omega) w 0 ⟨#[]⟩ rfl (by omega)
    have he : ⟨#[]⟩ ++ mkB (lby (w.map (pl ms))) = mkB (lby (w.map (pl ms))) := B_inj (by rw [B_append]; rfl)
    rw [c0] at in1 in2
    rw [he] at in1
    obtain ⟨ih1, ih2⟩ := ih (i + 1) (O ++ [mkB (lby (w.map (pl ms)))]) hd (by simp; omega)
    rw [cs1, List.append_assoc, List.singleton_append, show mkB (lby (w.map (pl ms))) :: rws (pl ms) t = rws (pl ms) (w :: t) from rfl] at ih1
    rw [cs1] at ih2
    have hi2 : (i : Int) < (W.length : Int) := by omega
    have hg := wb_at hi hx
    have hg2 : ∀ h, (W.map wd)[i]'h = .lst 1 (w.map st) := fun h => (List.getElem?_eq_some_iff.1 hg).2
    have hww : IntKind.i64.wrap ((i : Int) + 1) = (i : Int) + 1 := wr64 (by omega) (by omega)
    have l1 : O.length + 1 ≤ 140737488355328 := by omega
    have l2 : (O.length + 1) * 16 ≤ 140737488355328 := by omega
    have ht : List.take O.length (O.map st) = O.map st := List.take_of_length_le (by simp)
    rw [List.length_append, List.length_singleton] at ih1 ih2
    unfold tb sb wb at in1 in2 ih1 ih2 ⊢
    rw [List.map_append, List.map_singleton] at ih1 ih2
    rw [List.all_cons, loopW_eq]
    clear ih
    cases hq : inM ms w with
    | false =>
      obtain ⟨q, in2⟩ := in2 hq
      refine ⟨fun h => by simp at h, fun _ => ⟨O, ?_⟩⟩
      generalize loopW (bd E0 (ev E0) loopW 0 [2, 6, 15, 16, 17] L89b1) = K
      unfold bd
      simp -implicitDefEqProofs [L89b1, hi, hi2, hg, hg2, in2]
    | true =>
      have in1 := in1 hq
      rw [Bool.true_and]
      refine ⟨fun hr => ?_, fun hr => ?_⟩
      · have hh := ih1 hr
        generalize loopW (bd E0 (ev E0) loopW 0 [2, 6, 15, 16, 17] L89b1) = K at hh ⊢
        generalize O ++ rws (pl ms) (w :: t) = R at hh ⊢
        generalize mkB (lby (w.map (pl ms))) = R1 at *
        unfold bd
        simpa -implicitDefEqProofs [L89b1, hi, hi2, hg, hg2, in1, hww, l1, l2, ht] using hh
      · obtain ⟨O', hh⟩ := ih2 hr
        refine ⟨O', ?_⟩
        generalize loopW (bd E0 (ev E0) loopW 0 [2, 6, 15, 16, 17] L89b1) = K at hh ⊢
        generalize mkB (lby (w.map (pl ms))) = R1 at *
        unfold bd
        simpa -implicitDefEqProofs [L89b1, hi, hi2, hg, hg2, in1, hww, l1, l2, ht] using hh
def dcM (ms : List ByteArray) (s : ByteArray) : ByteArray := mkB (tlW 0 (bws (pl ms) (lw s)))
def okDc (ms : List ByteArray) (s : ByteArray) : Bool := okRS ms s && (lw s).all (inM ms)
theorem decode_i (ms : List ByteArray) (hm : ms.length ≤ 100) (hz : ∀ m ∈ ms, m.size ≤ 400) (s : ByteArray) (hs : s.size ≤ 1048576) (hc : okSig s = true) : ev E0 89 [.agg [.lst 1 (ms.map st)], st s] [] = some (if (lw s).all (inM ms) = true then .tup [st (dcM ms s), bl true] else .tup [st ⟨#[]⟩, bl false], []) := by
  obtain ⟨b1, b2, b3⟩ := lw_b hc
  have hl := lettersOf_i s hs
  obtain ⟨d1, d2⟩ := dec1 ms hm (lw s) (by omega) (fun w hw => by have := b2 w hw; omega) (lw s) 0 [] rfl (by simp)
  rw [c0, List.length_nil] at d1 d2
  rw [List.nil_append] at d1
  have hjl := join_len (bws (pl ms) (lw s)) 0
  rw [bws_sum] at hjl
  have hcn := (lw_cnt hc).1
  have hj := join_sp (rws (pl ms) (lw s)) (by unfold rws; rw [List.length_map]; omega) (by rw [joinB_rws]; omega)
  rw [joinB_rws] at hj
  change ev E0 _ _ _ = some (st (dcM ms s), []) at hj
  generalize dcM ms s = M at *
  generalize rws (pl ms) (lw s) = O at *
  have htO : List.take O.length (O.map st) = O.map st := List.take_of_length_le (by simp)
  cases hq : (lw s).all (inM ms) with
  | true =>
    have d1 := d1 hq
    generalize lw s = W at *
    unfold tb sb wb at *
    rw [show List.map st [] = [] from rfl] at d1
    rw [e89]
    unfold runF
    simp -implicitDefEqProofs [L89, hl, d1, hj, htO]
  | false =>
    obtain ⟨O', d2⟩ := d2 hq
    generalize lw s = W at *
    unfold tb sb wb at *
    rw [show List.map st [] = [] from rfl] at d2
    rw [e89]
    unfold runF
    simp -implicitDefEqProofs [L89, hl, d2]
theorem decodeS_i (ms : List ByteArray) (hm : ms.length ≤ 100) (hz : ∀ m ∈ ms, m.size ≤ 400) (s : ByteArray) (hs : s.size ≤ 1048576) : ev E0 46 [.agg [.lst 1 (ms.map st)], st s] [] = some (if okDc ms s = true then .tup [st (dcM ms s), bl true] else .tup [st ⟨#[]⟩, bl false], []) := by
  have h1 := table_i ms (by omega) (fun x hx => by have := hz x hx; omega)
  have h2 := isSignal_i s hs
  unfold okDc okRS
  cases ho : okTable ms with
  | false =>
    rw [ho] at h1
    rw [e46]
    unfold runF
    simp -implicitDefEqProofs [L46, h1]
  | true =>
    rw [ho] at h1
    cases hc : okSig s with
    | false =>
      rw [hc] at h2
      rw [e46]
      unfold runF
      simp -implicitDefEqProofs [L46, h1, h2]
    | true =>
      rw [hc] at h2
      have h3 := decode_i ms hm hz s hs hc
      cases hq : (lw s).all (inM ms) <;> rw [hq] at h3 <;> rw [e46] <;> unfold runF <;> simp -implicitDefEqProofs [L46, h1, h2, h3]
-- ---------------------------------------------------------------- read without mistakes
theorem place_get6 (x : ByteArray) (ms : List ByteArray) (n : Nat) (h : place x ms 0 = (n : Int)) : mk_ ms n = x := by
  have key : ∀ (t : List ByteArray) (o : Nat), ms.drop o = t → place x t o = (n : Int) → mk_ ms n = x := by
    intro t
    induction t with
    | nil => intro o _ h; unfold place at h; omega
    | cons y t ih =>
      intro o ho h
      obtain ⟨hi, hx, hd, _⟩ := at_drop ho
      unfold place at h
      split at h
      · rename_i e
        have : o = n := by omega
        subst this
        rw [← mk_at hi, hx, e]
      · exact ih (o + 1) hd h
  exact key ms 0 rfl h
theorem nd_zero {ms : List ByteArray} (hv : VT ms) (hne : 1 ≤ ms.length) (m : ByteArray) : (nd ms m = 0 ↔ 0 ≤ place m ms 0) ∧ (0 ≤ place m ms 0 → pl ms m = nf ms m) := by
  obtain ⟨l, hn, hlt, hds, hle⟩ := nr_eq ms hne m
  have hb := place_b m ms 0
  have hiff : nd ms m = 0 ↔ 0 ≤ place m ms 0 := by
    constructor
    · intro h
      have he := ds_zero.1 (hds.trans h)
      rcases place_nat m ms 0 with ⟨q1, q2⟩ | ⟨q1, q2⟩
      · exact absurd (by rw [← he, ← mk_at hlt]; exact List.getElem_mem hlt) q2
      · omega
    · intro h
      obtain ⟨n, hp⟩ : ∃ n : Nat, place m ms 0 = n := ⟨(place m ms 0).toNat, by omega⟩
      have hn2 := place_get6 m ms n hp
      have := hle n (by omega)
      have := ds_zero.2 hn2
      omega
  refine ⟨hiff, fun h => ?_⟩
  have h0 := hiff.2 h
  have he := ds_zero.1 (hds.trans h0)
  obtain ⟨n, hp⟩ : ∃ n : Nat, place m ms 0 = n := ⟨(place m ms 0).toNat, by omega⟩
  have hn2 := place_get6 m ms n hp
  unfold pl
  rw [hp, Int.toNat_natCast]
  exact mk_inj hv (by omega) hlt (hn2.trans he.symm)
theorem sum_zero {ms : List ByteArray} (hv : VT ms) (hne : 1 ≤ ms.length) : ∀ W : List (List ByteArray), (sumW (nd ms) W = 0 ↔ W.all (inM ms) = true) ∧ (W.all (inM ms) = true → bws (pl ms) W = bws (nf ms) W)
  | [] => ⟨by simp [sumW], fun _ => rfl⟩
  | w :: r => by
    obtain ⟨i1, i2⟩ := sum_zero hv hne r
    have key : ∀ w : List ByteArray, (sumN (nd ms) w = 0 ↔ inM ms w = true) ∧ (inM ms w = true → w.map (pl ms) = w.map (nf ms)) := by
      intro w
      induction w with
      | nil => exact ⟨by simp [sumN, inM], fun _ => rfl⟩
      | cons m t ih =>
        obtain ⟨j1, j2⟩ := ih
        obtain ⟨n1, n2⟩ := nd_zero hv hne m
        have hc : inM ms (m :: t) = (decide (0 ≤ place m ms 0) && inM ms t) := by unfold inM; rw [List.all_cons]
        rw [hc, Bool.and_eq_true, decide_eq_true_eq, sumN]
        refine ⟨⟨fun h => ⟨n1.1 (by omega), j1.1 (by omega)⟩, fun h => by have := n1.2 h.1; have := j1.2 h.2; omega⟩, fun h => ?_⟩
        rw [List.map_cons, List.map_cons, n2 h.1, j2 h.2]
    obtain ⟨k1, k2⟩ := key w
    rw [List.all_cons, Bool.and_eq_true, sumW]
    refine ⟨⟨fun h => ⟨k1.1 (by omega), i1.1 (by omega)⟩, fun h => by have := k1.2 h.1; have := i1.2 h.2; omega⟩, fun h => ?_⟩
    show lby (w.map (pl ms)) :: bws (pl ms) r = lby (w.map (nf ms)) :: bws (nf ms) r
    rw [k2 h.1, i2 h.2]
theorem dec_read {ms : List ByteArray} {s : ByteArray} (h : okRS ms s = true) : okDc ms s = decide (rdS ms s = 0) ∧ (okDc ms s = true → dcM ms s = rdM ms s) := by
  have ho : okTable ms = true := by unfold okRS at h; rw [Bool.and_eq_true] at h; exact h.1
  obtain ⟨h1, h2⟩ := sum_zero (vt_of ho) (okTable_len ho).1 (lw s)
  unfold okDc
  rw [h, Bool.true_and]
  refine ⟨?_, fun hq => ?_⟩
  · unfold rdS
    rw [Bool.eq_iff_iff, decide_eq_true_eq, h1]
  · unfold dcM rdM
    rw [h2 hq]
end Go.Proofs.YtodcochnciadjaaDoor.Ev
