/- Signals, the program's functions: the words of a text, whether it is a signal. -/
import Derived.Test.YtckfbfgfjlgmeaaGreatDoorEvSig
import Derived.Test.YtckfbfgfjlgmeaaGreatDoorEvTm
set_option linter.unusedVariables false
set_option linter.unusedSimpArgs false
namespace Go.Proofs.YtckfbfgfjlgmeaaGreatDoor.Ev
/-- The words of a text; none of the empty one. -/
def lw (s : ByteArray) : List (List ByteArray) := if s = ⟨#[]⟩ then [] else wordsOf s
def wb (W : List (List ByteArray)) : Blk := ⟨39, 1, 1, false, W.map wd⟩
theorem lets_loop (ws : List ByteArray) (hz : ∀ w ∈ ws, w.size ≤ 1048576) (hm : ws.length ≤ 1048577) : ∀ (t : List ByteArray) (i : Nat) (acc : List (List ByteArray)), ws.drop i = t → acc.length = i →
    packX 0 [3] (loopW (bd E0 (ev E0) loopW 0 [3, 11, 12, 13] L162b0) ⟨[(3, .sl 0 0 acc.length), (11, .sl 1 0 ws.length), (12, i64 ws.length), (13, i64 i)], [some (wb acc), some ⟨9, 1, 1, false, ws.map st⟩]⟩) = some (.ext 0, ⟨[(3, .sl 0 0 (acc ++ t.map (partsB 32)).length)], [some (wb (acc ++ t.map (partsB 32)))]⟩) := by
  unfold wb
  intro t
  induction t with
  | nil =>
    intro i acc h ha
    have hi := not_drop h
    have hi2 : ¬ (i : Int) < (ws.length : Int) := by omega
    rw [loopW_eq]
    generalize loopW (bd E0 (ev E0) loopW 0 [3, 11, 12, 13] L162b0) = K
    simp -implicitDefEqProofs [bd, L162b0, hi, hi2]
  | cons x t ih =>
    intro i acc h ha
    obtain ⟨hi, hx, hd, hmem⟩ := at_drop h
    have hih := ih (i + 1) (acc ++ [partsB 32 x]) hd (by rw [List.length_append, ha]; rfl)
    rw [cs1, List.append_assoc, List.singleton_append, ← List.map_cons, List.length_append, List.length_singleton] at hih
    have hw : IntKind.i64.wrap ((i : Int) + 1) = (i : Int) + 1 := wr64 (by omega) (by omega)
    have hi2 : (i : Int) < (ws.length : Int) := by omega
    have hsp := split_i 32 x (by have := hz x hmem; omega)
    have hl1 : (acc.length + 1) * 24 ≤ 140737488355328 := by omega
    have hl2 : acc.length + 1 ≤ 140737488355328 := by omega
    have ht : List.take acc.length (acc.map wd) = acc.map wd := List.take_of_length_le (by simp)
    have hmw : (acc ++ [partsB 32 x]).map wd = acc.map wd ++ [.lst 1 ((partsB 32 x).map st)] := by simp [wd]
    rw [hmw] at hih
    have hg : (ws.map st)[i]? = some (st x) := by rw [List.getElem?_map, List.getElem?_eq_getElem hi, hx]; rfl
    have hg2 : ∀ h, (ws.map st)[i]'h = st x := fun h => (List.getElem?_eq_some_iff.1 hg).2
    rw [loopW_eq]
    clear ih
    generalize (acc ++ (x :: t).map (partsB 32)).map wd = R at hih ⊢
    generalize (acc ++ (x :: t).map (partsB 32)).length = Rn at hih ⊢
    generalize loopW (bd E0 (ev E0) loopW 0 [3, 11, 12, 13] L162b0) = K at hih ⊢
    simpa -implicitDefEqProofs [bd, L162b0, hi, hi2, hx, hw, hsp, hl1, hl2, ht, hg, hg2] using hih
theorem lettersOf_i (s : ByteArray) (hs : s.size ≤ 1048576) : ev E0 162 [st s] [] = some (.sl 0 0 (lw s).length, [some (wb (lw s))]) := by
  unfold lw
  by_cases he : s = ⟨#[]⟩
  · rw [if_pos he]
    unfold wb
    rw [e162]
    unfold runF
    simp -implicitDefEqProofs [L162, he]
  · rw [if_neg he]
    obtain ⟨h1, h2⟩ := partsB_sz 47 s
    have hl := lets_loop (partsB 47 s) (fun w hw => by have := h2 w hw; omega) (by omega) (partsB 47 s) 0 [] rfl rfl
    have hsp := split_i 47 s (by omega)
    rw [c0, List.nil_append, List.length_nil] at hl
    change _ = some (Ex.ext 0, (⟨[(3, .sl 0 0 (wordsOf s).length)], [some (wb (wordsOf s))]⟩ : St)) at hl
    generalize wordsOf s = W at *
    generalize partsB 47 s = Q at *
    unfold wb at *
    rw [List.map_nil] at hl
    rw [e162]
    unfold runF
    simp -implicitDefEqProofs [L162, he, hsp, hl]
theorem get_mk0 {ms : List ByteArray} {i : Nat} {m : ByteArray} (hi : i < ms.length) (hx : ms[i] = m) : (ms.map st)[i]? = some (st m) := by
  rw [List.getElem?_map, List.getElem?_eq_getElem hi, hx]
  rfl
theorem wb_at {W : List (List ByteArray)} {i : Nat} {w : List ByteArray} (hi : i < W.length) (hx : W[i] = w) : (W.map wd)[i]? = some (.lst 1 (w.map st)) := by
  rw [List.getElem?_map, List.getElem?_eq_getElem hi, hx]
  rfl
theorem sg0 (W : List (List ByteArray)) (i : Nat) (w : List ByteArray) (hw : w.length ≤ 1048577) (hz : ∀ x ∈ w, x.size ≤ 1048576) (c : Int) : ∀ (t : List ByteArray) (k : Nat), w.drop k = t →
    (okLs t = true → packX 0 [2, 4, 14, 15, 16] (loopW (bd E0 (ev E0) loopW 0 [4, 14, 15, 16, 24, 25, 26] L129b0) ⟨[(4, i64 c), (14, .sl 0 0 W.length), (15, i64 W.length), (16, i64 i), (24, .lst 1 (w.map st)), (25, i64 w.length), (26, i64 k)], [some (wb W)]⟩) = some (.ext 2, ⟨[(4, i64 c), (14, .sl 0 0 W.length), (15, i64 W.length), (16, i64 i)], [some (wb W)]⟩)) ∧
    (okLs t = false → packX 0 [2, 4, 14, 15, 16] (loopW (bd E0 (ev E0) loopW 0 [4, 14, 15, 16, 24, 25, 26] L129b0) ⟨[(4, i64 c), (14, .sl 0 0 W.length), (15, i64 W.length), (16, i64 i), (24, .lst 1 (w.map st)), (25, i64 w.length), (26, i64 k)], [some (wb W)]⟩) = some (.ret, ⟨[(2, bl false), (4, i64 c), (14, .sl 0 0 W.length), (15, i64 W.length), (16, i64 i)], [some (wb W)]⟩)) := by
  unfold wb
  have htW : List.take W.length (W.map wd) = W.map wd := List.take_of_length_le (by simp)
  intro t
  induction t with
  | nil =>
    intro k h
    have hk := not_drop h
    have hk2 : ¬ (k : Int) < (w.length : Int) := by omega
    refine ⟨fun _ => ?_, fun h => by simp [okLs] at h⟩
    rw [loopW_eq]
    generalize loopW (bd E0 (ev E0) loopW 0 [4, 14, 15, 16, 24, 25, 26] L129b0) = K
    simp -implicitDefEqProofs [bd, L129b0, hk, hk2]
  | cons m t ih =>
    intro k h
    obtain ⟨hk, hx, hd, hmem⟩ := at_drop h
    obtain ⟨ih1, ih2⟩ := ih (k + 1) hd
    have hk2 : (k : Int) < (w.length : Int) := by omega
    have hg := get_mk0 hk hx
    have hg2 : ∀ h, (w.map st)[k]'h = st m := fun h => (List.getElem?_eq_some_iff.1 hg).2
    have hlm := letterMarks m (by have := hz m hmem; omega)
    have hww : IntKind.i64.wrap ((k : Int) + 1) = (k : Int) + 1 := wr64 (by omega) (by omega)
    have hcons : okLs (m :: t) = (okMarks m 1 5 && okLs t) := by unfold okLs; rw [List.all_cons]
    rw [hcons]
    rw [cs1] at ih1 ih2
    rw [loopW_eq]
    clear ih
    cases hm : okMarks m 1 5 with
    | false =>
      rw [hm] at hlm
      refine ⟨fun h => by simp at h, fun _ => ?_⟩
      generalize loopW (bd E0 (ev E0) loopW 0 [4, 14, 15, 16, 24, 25, 26] L129b0) = K
      simp -implicitDefEqProofs [bd, L129b0, hk, hk2, hg, hg2, hlm]
    | true =>
      rw [hm] at hlm
      rw [Bool.true_and]
      refine ⟨fun h => ?_, fun h => ?_⟩
      · have hh := ih1 h
        generalize loopW (bd E0 (ev E0) loopW 0 [4, 14, 15, 16, 24, 25, 26] L129b0) = K at hh ⊢
        simpa -implicitDefEqProofs [bd, L129b0, hk, hk2, hg, hg2, hlm, hww] using hh
      · have hh := ih2 h
        generalize loopW (bd E0 (ev E0) loopW 0 [4, 14, 15, 16, 24, 25, 26] L129b0) = K at hh ⊢
        simpa -implicitDefEqProofs [bd, L129b0, hk, hk2, hg, hg2, hlm, hww] using hh
/-- How many letters some words have. -/
def cntL : List (List ByteArray) → Nat
  | [] => 0
  | w :: r => w.length + cntL r
theorem cntW_L : ∀ W : List (List ByteArray), cntW W = W.length + cntL W
  | [] => rfl
  | w :: r => by rw [cntW, cntL, cntW_L r, List.length_cons]; omega
theorem sg1 (W : List (List ByteArray)) (hW : W.length ≤ 1048577) (hw : ∀ w ∈ W, w.length ≤ 1048577) (hz : ∀ w ∈ W, ∀ x ∈ w, x.size ≤ 1048576) : ∀ (t : List (List ByteArray)) (i : Nat) (c : Int), W.drop i = t → -1 ≤ c → c ≤ 1048576 + i * 1048577 →
    (t.all okLs = true → packX 0 [2, 4] (loopW (bd E0 (ev E0) loopW 0 [4, 14, 15, 16] L129b1) ⟨[(4, i64 c), (14, .sl 0 0 W.length), (15, i64 W.length), (16, i64 i)], [some (wb W)]⟩) = some (.ext 0, ⟨[(4, i64 (c + cntL t))], []⟩)) ∧
    (t.all okLs = false → ∃ q, packX 0 [2, 4] (loopW (bd E0 (ev E0) loopW 0 [4, 14, 15, 16] L129b1) ⟨[(4, i64 c), (14, .sl 0 0 W.length), (15, i64 W.length), (16, i64 i)], [some (wb W)]⟩) = some (.ret, ⟨[(2, bl false), (4, i64 q)], []⟩)) := by
  have htW : List.take W.length (W.map wd) = W.map wd := List.take_of_length_le (by simp)
  intro t
  induction t with
  | nil =>
    intro i c h _ _
    have hi := not_drop h
    have hi2 : ¬ (i : Int) < (W.length : Int) := by omega
    refine ⟨fun _ => ?_, fun h => by simp at h⟩
    rw [show c + (cntL [] : Int) = c from Int.add_zero c, loopW_eq]
    unfold wb
    generalize loopW (bd E0 (ev E0) loopW 0 [4, 14, 15, 16] L129b1) = K
    unfold bd
    simp -implicitDefEqProofs [L129b1, hi, hi2]
  | cons w t ih =>
    intro i c h h0 h1
    obtain ⟨hi, hx, hd, hmem⟩ := at_drop h
    have hi2 : (i : Int) < (W.length : Int) := by omega
    have hlw := hw w hmem
    have hmul : ((i : Int) + 1) * 1048577 = i * 1048577 + 1048577 := by rw [Int.add_mul]; omega
    have hib : (i : Int) * 1048577 ≤ 1048577 * 1048577 := by omega
    have hg := wb_at hi hx
    have hg2 : ∀ h, (W.map wd)[i]'h = .lst 1 (w.map st) := fun h => (List.getElem?_eq_some_iff.1 hg).2
    obtain ⟨s1, s2⟩ := sg0 W i w hlw (hz w hmem) (c + w.length) w 0 rfl
    obtain ⟨ih1, ih2⟩ := ih (i + 1) (c + w.length) hd (by omega) (by rw [cs1, hmul]; omega)
    have hww : IntKind.i64.wrap ((i : Int) + 1) = (i : Int) + 1 := wr64 (by omega) (by omega)
    have hwc : IntKind.i64.wrap (c + (w.length : Int)) = c + w.length := wr64 (by omega) (by omega)
    rw [c0] at s1 s2
    rw [cs1] at ih1 ih2
    have hce : c + (w.length : Int) + (cntL t : Int) = c + (cntL (w :: t) : Int) := by rw [cntL]; omega
    rw [hce] at ih1
    unfold wb at s1 s2 ih1 ih2 ⊢
    rw [List.all_cons, loopW_eq]
    clear ih
    cases hq : okLs w with
    | false =>
      have s2 := s2 hq
      refine ⟨fun h => by simp at h, fun _ => ⟨c + w.length, ?_⟩⟩
      generalize loopW (bd E0 (ev E0) loopW 0 [4, 14, 15, 16] L129b1) = K
      unfold bd
      simp -implicitDefEqProofs [L129b1, hi, hi2, hg, hg2, hwc, s2]
    | true =>
      have s1 := s1 hq
      rw [Bool.true_and]
      refine ⟨fun h => ?_, fun h => ?_⟩
      · have hh := ih1 h
        generalize loopW (bd E0 (ev E0) loopW 0 [4, 14, 15, 16] L129b1) = K at hh ⊢
        unfold bd
        simpa -implicitDefEqProofs [L129b1, hi, hi2, hg, hg2, hwc, hww, s1] using hh
      · obtain ⟨q, hh⟩ := ih2 h
        refine ⟨q, ?_⟩
        generalize loopW (bd E0 (ev E0) loopW 0 [4, 14, 15, 16] L129b1) = K at hh ⊢
        unfold bd
        simpa -implicitDefEqProofs [L129b1, hi, hi2, hg, hg2, hwc, hww, s1] using hh
/-- A text is as long as its letters and the signs between them. -/
theorem lens_words : ∀ (ps : List ByteArray), lensT ps ≤ 6 * cntL (ps.map (partsB 32)) ∨ ¬ ((ps.map (partsB 32)).all okLs = true)
  | [] => .inl (Nat.zero_le _)
  | p :: ps => by
    by_cases h : ((p :: ps).map (partsB 32)).all okLs = true
    · left
      rw [List.map_cons, List.all_cons, Bool.and_eq_true] at h
      have h1 := (lens_words ps).resolve_right (fun e => e h.2)
      have h2 := partsB_lens 32 p
      have h3 : lensT (partsB 32 p) ≤ 6 * (partsB 32 p).length := by
        have key : ∀ l : List ByteArray, okLs l = true → lensT l ≤ 6 * l.length := by
          intro l
          induction l with
          | nil => intro _; exact Nat.zero_le _
          | cons m l ih =>
            intro hl
            have hc : (okMarks m 1 5 && okLs l) = true := by rw [← hl]; unfold okLs; rw [List.all_cons]
            rw [Bool.and_eq_true] at hc
            have hm := hc.1
            unfold okMarks at hm
            rw [Bool.and_eq_true, Bool.and_eq_true, decide_eq_true_eq, decide_eq_true_eq] at hm
            have := ih hc.2
            rw [lensT, List.length_cons]
            omega
        exact key _ h.1
      rw [List.map_cons, cntL, lensT]
      omega
    · right; exact h
theorem sig_short {s : ByteArray} (h : (wordsOf s).all okLs = true) (h2 : (cntW (wordsOf s) : Int) - 1 ≤ 12) : s.size ≤ 72 := by
  have h1 := (lens_words (partsB 47 s)).resolve_right (fun e => e h)
  have h3 := partsB_lens 47 s
  have h4 := cntW_L (wordsOf s)
  have h5 : cntL ((partsB 47 s).map (partsB 32)) = cntL (wordsOf s) := rfl
  have h6 : 1 ≤ (wordsOf s).length := by
    unfold wordsOf
    rw [List.length_map]
    apply Decidable.byContradiction
    intro hn
    have : partsB 47 s = [] := List.eq_nil_of_length_eq_zero (by omega)
    rw [this] at h3
    simp [lensT] at h3
  omega
theorem isSignal_i (s : ByteArray) (hs : s.size ≤ 1048576) : ev E0 129 [st s] [] = some (bl (okSig s), []) := by
  have hl := lettersOf_i s hs
  have hsz : (lw s).length ≤ 1048577 ∧ (∀ w ∈ lw s, w.length ≤ 1048577) ∧ ∀ w ∈ lw s, ∀ x ∈ w, x.size ≤ 1048576 := by
    obtain ⟨q1, q2, q3⟩ := wordsOf_sz s
    unfold lw
    split
    · exact ⟨by simp, by simp, by simp⟩
    · exact ⟨by omega, fun w hw => by have := q2 w hw; omega, fun w hw x hx => by have := q3 w hw x hx; omega⟩
  obtain ⟨z1, z2, z3⟩ := hsz
  obtain ⟨s1, s2⟩ := sg1 (lw s) z1 z2 z3 (lw s) 0 (((lw s).length : Int) - 1) rfl (by omega) (by omega)
  have hcw := cntW_L (lw s)
  have hok : okSig s = ((lw s).all okLs && decide ((cntW (lw s) : Int) - 1 ≤ 12)) := by
    unfold okSig lw
    by_cases he : s = ⟨#[]⟩
    · rw [if_pos he, decide_eq_true he]; rfl
    · rw [if_neg he, decide_eq_false he, Bool.false_or]
      cases h1 : (wordsOf s).all okLs with
      | false => simp
      | true =>
        by_cases h2 : (cntW (wordsOf s) : Int) - 1 ≤ 12
        · rw [decide_eq_true (sig_short h1 h2)]; simp
        · rw [decide_eq_false h2]; simp
  rw [hok]
  have hw1 : IntKind.i64.wrap (((lw s).length : Int) - 1) = ((lw s).length : Int) - 1 := wr64 (by omega) (by omega)
  rw [c0] at s1 s2
  generalize lw s = W at *
  unfold wb at *
  rw [e129]
  unfold runF
  cases hq : W.all okLs with
  | true =>
    have s1 := s1 hq
    have e1 : (W.length : Int) - 1 + (cntL W : Int) = (cntW W : Int) - 1 := by omega
    rw [e1] at s1
    simp -implicitDefEqProofs [L129, hl, hw1, s1]
  | false =>
    obtain ⟨q, s2⟩ := s2 hq
    simp -implicitDefEqProofs [L129, hl, hw1, s2]
end Go.Proofs.YtckfbfgfjlgmeaaGreatDoor.Ev
