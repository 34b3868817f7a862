/- The time of a signal, the program's. -/
import Derived.Test.YtckfbfgfjlgmeaaGreatDoorEvMC
import Derived.Test.YtckfbfgfjlgmeaaGreatDoorEvSigI
set_option linter.unusedVariables false
set_option linter.unusedSimpArgs false
namespace Go.Proofs.YtckfbfgfjlgmeaaGreatDoor.Ev
def tM (m : ByteArray) : Int := 2 * (m.size : Int) - 1 + 2 * (dash m : Int)
/-- The time of a word's letters from the k-th on. -/
def tW : Nat → List ByteArray → Int
  | _, [] => 0
  | k, m :: t => tM m + (if 0 < k then 3 else 0) + tW (k + 1) t
def tSg : Nat → List (List ByteArray) → Int
  | _, [] => 0
  | i, w :: t => (if 0 < i then 7 else 0) + tW 0 w + tSg (i + 1) t
theorem st0 (W : List (List ByteArray)) (i : Nat) (w : List ByteArray) (hw : w.length ≤ 1000) (hz : ∀ x ∈ w, 1 ≤ x.size ∧ x.size ≤ 1000) : ∀ (t : List ByteArray) (k : Nat) (c : Int), w.drop k = t → 0 ≤ c → c ≤ 1000000000000 + 10000 * k → k + t.length = w.length →
    packX 0 [3, 9, 10, 11] (loopW (bd E0 (ev E0) loopW 0 [3, 9, 10, 11, 20, 21, 22] L124b0) ⟨[(3, i64 c), (9, .sl 0 0 W.length), (10, i64 W.length), (11, i64 i), (20, .lst 1 (w.map st)), (21, i64 w.length), (22, i64 k)], [some (wb W)]⟩) = some (.ext 2, ⟨[(3, i64 (c + tW k t)), (9, .sl 0 0 W.length), (10, i64 W.length), (11, i64 i)], [some (wb W)]⟩) := by
  unfold wb
  intro t
  induction t with
  | nil =>
    intro k c h _ _ hl
    have hi := not_drop h
    have hi2 : ¬ (k : Int) < (w.length : Int) := by omega
    have htk : List.take W.length (W.map wd) = W.map wd := List.take_of_length_le (by simp)
    rw [show c + tW k [] = c from Int.add_zero c, loopW_eq]
    generalize W.map wd = Q at *
    generalize loopW (bd E0 (ev E0) loopW 0 [3, 9, 10, 11, 20, 21, 22] L124b0) = K
    simp -implicitDefEqProofs [bd, L124b0, hi, hi2]
  | cons m t ih =>
    intro k c h h0 h1 hl
    obtain ⟨hi, hx, hd, hmem⟩ := at_drop h
    rw [List.length_cons] at hl
    obtain ⟨z1, z2⟩ := hz m hmem
    have hdm : dash m ≤ m.size := by
      unfold dash Lib.countByte
      exact Nat.le_trans (List.count_le_length ..) (Nat.le_of_eq (B_len m))
    have ht0 : 0 ≤ tM m := by unfold tM; omega
    have ht1 : tM m ≤ 4000 := by unfold tM; omega
    have hT := timeI m (by omega)
    rw [show 2 * (m.size : Int) - 1 + 2 * (dash m : Int) = tM m from rfl] at hT
    have hi2 : (k : Int) < (w.length : Int) := by omega
    have hg := get_mk0 hi hx
    have hg2 : ∀ h, (w.map st)[k]'h = st m := fun h => (List.getElem?_eq_some_iff.1 hg).2
    have hw' : IntKind.i64.wrap ((k : Int) + 1) = (k : Int) + 1 := wr64 (by omega) (by omega)
    have w1 : IntKind.i64.wrap (c + tM m) = c + tM m := wr64 (by omega) (by omega)
    have w2 : IntKind.i64.wrap (c + tM m + 3) = c + tM m + 3 := wr64 (by omega) (by omega)
    by_cases hk : 0 < k
    · have hih := ih (k + 1) (c + tM m + 3) hd (by omega) (by omega) (by omega)
      have hkz : (0 : Int) < (k : Int) := by omega
      rw [cs1, show c + tM m + 3 + tW (k + 1) t = c + tW k (m :: t) by rw [tW, if_pos hk]; omega] at hih
      rw [loopW_eq]
      clear ih
      generalize c + tW k (m :: t) = R at hih ⊢
      generalize tM m = tm at *
      generalize W.map wd = Q at *
      generalize loopW (bd E0 (ev E0) loopW 0 [3, 9, 10, 11, 20, 21, 22] L124b0) = K at hih ⊢
      simpa -implicitDefEqProofs [bd, L124b0, hi, hi2, hg, hg2, hT, hw', w1, w2, hk, hkz] using hih
    · obtain rfl : k = 0 := by omega
      have hih := ih (0 + 1) (c + tM m) hd (by omega) (by omega) (by omega)
      rw [cs1, show c + tM m + tW (0 + 1) t = c + tW 0 (m :: t) by rw [tW, if_neg (by omega)]; omega] at hih
      rw [loopW_eq]
      clear ih
      generalize c + tW 0 (m :: t) = R at hih ⊢
      generalize tM m = tm at *
      generalize W.map wd = Q at *
      rw [c0] at *
      have hw1 : IntKind.i64.wrap 1 = 1 := rfl
      generalize loopW (bd E0 (ev E0) loopW 0 [3, 9, 10, 11, 20, 21, 22] L124b0) = K at hih ⊢
      simpa -implicitDefEqProofs [bd, L124b0, hi, hi2, hg, hg2, hT, hw1, w1, w2] using hih
theorem tM_b {m : ByteArray} (h : 1 ≤ m.size ∧ m.size ≤ 1000) : 0 ≤ tM m ∧ tM m ≤ 4000 := by
  have hdm : dash m ≤ m.size := by
    unfold dash Lib.countByte
    exact Nat.le_trans (List.count_le_length ..) (Nat.le_of_eq (B_len m))
  unfold tM
  omega
theorem tW_b : ∀ (t : List ByteArray) (k : Nat), (∀ x ∈ t, 1 ≤ x.size ∧ x.size ≤ 1000) → 0 ≤ tW k t ∧ tW k t ≤ 4003 * t.length
  | [], _, _ => by simp [tW]
  | m :: t, k, h => by
    have ih := tW_b t (k + 1) (fun x hx => h x (List.mem_cons_of_mem _ hx))
    have hm := tM_b (h m (List.mem_cons_self ..))
    rw [tW, List.length_cons]
    split <;> omega
theorem st1' (W : List (List ByteArray)) (hW : W.length ≤ 100) (hw : ∀ w ∈ W, w.length ≤ 1000 ∧ ∀ x ∈ w, 1 ≤ x.size ∧ x.size ≤ 1000) : ∀ (t : List (List ByteArray)) (i : Nat) (c : Int), W.drop i = t → 0 ≤ c → c ≤ 5000000 * i →
    packX 0 [3] (loopW (bd E0 (ev E0) loopW 0 [3, 9, 10, 11] L124b1) ⟨[(3, i64 c), (9, .sl 0 0 W.length), (10, i64 W.length), (11, i64 i)], [some (wb W)]⟩) = some (.ext 0, ⟨[(3, i64 (c + tSg i t))], []⟩) := by
  have htW : List.take W.length (W.map wd) = W.map wd := List.take_of_length_le (by simp)
  intro t
  induction t with
  | nil =>
    intro i c h _ _
    have hi := not_drop h
    have hi2 : ¬ (i : Int) < (W.length : Int) := by omega
    rw [show c + tSg i [] = c from Int.add_zero c, loopW_eq]
    unfold wb
    generalize loopW (bd E0 (ev E0) loopW 0 [3, 9, 10, 11] L124b1) = K
    unfold bd
    simp -implicitDefEqProofs [L124b1, hi, hi2]
  | cons w t ih =>
    intro i c h h0 h1
    obtain ⟨hi, hx, hd, hmem⟩ := at_drop h
    have hi2 : (i : Int) < (W.length : Int) := by omega
    obtain ⟨hl, hz⟩ := hw w hmem
    have hb := tW_b w 0 hz
    have hg := wb_at hi hx
    have hg2 : ∀ h, (W.map wd)[i]'h = .lst 1 (w.map st) := fun h => (List.getElem?_eq_some_iff.1 hg).2
    have hww : IntKind.i64.wrap ((i : Int) + 1) = (i : Int) + 1 := wr64 (by omega) (by omega)
    by_cases hk : 0 < i
    · have s1 := st0 W i w hl hz w 0 (c + 7) rfl (by omega) (by omega) (by simp)
      have hih := ih (i + 1) (c + 7 + tW 0 w) hd (by omega) (by omega)
      have hkz : (0 : Int) < (i : Int) := by omega
      have w7 : IntKind.i64.wrap (c + 7) = c + 7 := wr64 (by omega) (by omega)
      rw [c0] at s1
      rw [cs1, show c + 7 + tW 0 w + tSg (i + 1) t = c + tSg i (w :: t) by rw [tSg, if_pos hk]; omega] at hih
      unfold wb at s1 hih ⊢
      rw [loopW_eq]
      clear ih
      generalize c + tSg i (w :: t) = R at hih ⊢
      generalize loopW (bd E0 (ev E0) loopW 0 [3, 9, 10, 11] L124b1) = K at hih ⊢
      unfold bd
      simpa -implicitDefEqProofs [L124b1, hi, hi2, hg, hg2, hk, hkz, w7, hww, s1] using hih
    · obtain rfl : i = 0 := by omega
      have s1 := st0 W 0 w hl hz w 0 c rfl (by omega) (by omega) (by simp)
      have hih := ih (0 + 1) (c + tW 0 w) hd (by omega) (by omega)
      have hw1 : IntKind.i64.wrap 1 = 1 := rfl
      rw [cs1, show c + tW 0 w + tSg (0 + 1) t = c + tSg 0 (w :: t) by rw [tSg, if_neg (by omega)]; omega] at hih
      unfold wb at s1 hih ⊢
      rw [loopW_eq]
      clear ih
      generalize c + tSg 0 (w :: t) = R at hih ⊢
      rw [c0] at *
      generalize loopW (bd E0 (ev E0) loopW 0 [3, 9, 10, 11] L124b1) = K at hih ⊢
      unfold bd
      simpa -implicitDefEqProofs [L124b1, hi, hi2, hg, hg2, hw1, s1] using hih
end Go.Proofs.YtckfbfgfjlgmeaaGreatDoor.Ev

namespace Go.Proofs.YtckfbfgfjlgmeaaGreatDoor.Ev
theorem ss0 (W : List (List ByteArray)) (i : Nat) (hiW : i < W.length) (w : List ByteArray) (hxW : W[i] = w) (hw : w.length ≤ 1000) (hz : ∀ x ∈ w, 1 ≤ x.size ∧ x.size ≤ 1000) : ∀ (t : List ByteArray) (k : Nat) (c : Int), w.drop k = t → 0 ≤ c → c ≤ 1000000000000 + 10000 * k → k + t.length = w.length →
    packX 0 [3, 4, 5] (loopW (bd E0 (ev E0) loopW 0 [3, 4, 5, 6] L125b0) ⟨[(3, i64 c), (4, .sl 0 0 W.length), (5, i64 i), (6, i64 k)], [some (wb W)]⟩) = some (.ext 2, ⟨[(3, i64 (c + tW k t)), (4, .sl 0 0 W.length), (5, i64 i)], [some (wb W)]⟩) := by
  have hgw := wb_at hiW hxW
  have hgw2 : ∀ h, (W.map wd)[i]'h = .lst 1 (w.map st) := fun h => (List.getElem?_eq_some_iff.1 hgw).2
  have hiW2 : (i : Int) < (W.length : Int) := by omega
  have hwl : (W.map wd).length = W.length := List.length_map _
  unfold wb
  intro t
  induction t with
  | nil =>
    intro k c h _ _ hl
    have hi := not_drop h
    have hi2 : ¬ (k : Int) < (w.length : Int) := by omega
    rw [show c + tW k [] = c from Int.add_zero c, loopW_eq]
    generalize W.map wd = Q at *
    generalize loopW (bd E0 (ev E0) loopW 0 [3, 4, 5, 6] L125b0) = K
    simp -implicitDefEqProofs [bd, L125b0, hi, hi2, hgw, hgw2, hiW, hiW2, hwl]
  | cons m t ih =>
    intro k c h h0 h1 hl
    obtain ⟨hi, hx, hd, hmem⟩ := at_drop h
    rw [List.length_cons] at hl
    have htm := tM_b (hz m hmem)
    have hT := timeS m (by have := (hz m hmem).1; omega) (by have := (hz m hmem).2; omega)
    rw [show 2 * (m.size : Int) - 1 + 2 * (dash m : Int) = tM m from rfl] at hT
    have hi2 : (k : Int) < (w.length : Int) := by omega
    have hg := get_mk0 hi hx
    have hg2 : ∀ h, (w.map st)[k]'h = st m := fun h => (List.getElem?_eq_some_iff.1 hg).2
    have hw' : IntKind.i64.wrap ((k : Int) + 1) = (k : Int) + 1 := wr64 (by omega) (by omega)
    by_cases hk : 0 < k
    · have hih := ih (k + 1) (c + 3 + tM m) hd (by omega) (by omega) (by omega)
      have w1 : IntKind.i64.wrap (c + 3) = c + 3 := wr64 (by omega) (by omega)
      have w2 : IntKind.i64.wrap (c + 3 + tM m) = c + 3 + tM m := wr64 (by omega) (by omega)
      have hkz : (0 : Int) < (k : Int) := by omega
      rw [cs1, show c + 3 + tM m + tW (k + 1) t = c + tW k (m :: t) by rw [tW, if_pos hk]; omega] at hih
      rw [loopW_eq]
      clear ih
      generalize c + tW k (m :: t) = R at hih ⊢
      generalize tM m = tm at *
      generalize W.map wd = Q at *
      generalize loopW (bd E0 (ev E0) loopW 0 [3, 4, 5, 6] L125b0) = K at hih ⊢
      simpa -implicitDefEqProofs [bd, L125b0, hi, hi2, hg, hg2, hT, hw', w1, w2, hk, hkz, hgw, hgw2, hiW, hiW2, hwl] using hih
    · obtain rfl : k = 0 := by omega
      have hih := ih (0 + 1) (c + tM m) hd (by omega) (by omega) (by omega)
      have w2 : IntKind.i64.wrap (c + tM m) = c + tM m := wr64 (by omega) (by omega)
      have hw1 : IntKind.i64.wrap 1 = 1 := rfl
      rw [cs1, show c + tM m + tW (0 + 1) t = c + tW 0 (m :: t) by rw [tW, if_neg (by omega)]; omega] at hih
      rw [loopW_eq]
      clear ih
      generalize c + tW 0 (m :: t) = R at hih ⊢
      generalize tM m = tm at *
      generalize W.map wd = Q at *
      rw [c0] at *
      generalize loopW (bd E0 (ev E0) loopW 0 [3, 4, 5, 6] L125b0) = K at hih ⊢
      simpa -implicitDefEqProofs [bd, L125b0, hi, hi2, hg, hg2, hT, hw1, w2, hgw, hgw2, hiW, hiW2, hwl] using hih
theorem ss1 (W : List (List ByteArray)) (hW : W.length ≤ 100) (hw : ∀ w ∈ W, w.length ≤ 1000 ∧ ∀ x ∈ w, 1 ≤ x.size ∧ x.size ≤ 1000) : ∀ (t : List (List ByteArray)) (i : Nat) (c : Int), W.drop i = t → 0 ≤ c → c ≤ 5000000 * i →
    packX 0 [3] (loopW (bd E0 (ev E0) loopW 0 [3, 4, 5] L125b1) ⟨[(3, i64 c), (4, .sl 0 0 W.length), (5, i64 i)], [some (wb W)]⟩) = some (.ext 0, ⟨[(3, i64 (c + tSg i t))], []⟩) := by
  intro t
  induction t with
  | nil =>
    intro i c h _ _
    have hi := not_drop h
    have hi2 : ¬ (i : Int) < (W.length : Int) := by omega
    have hwl : (W.map wd).length = W.length := List.length_map _
    rw [show c + tSg i [] = c from Int.add_zero c, loopW_eq]
    unfold wb
    generalize loopW (bd E0 (ev E0) loopW 0 [3, 4, 5] L125b1) = K
    unfold bd
    simp -implicitDefEqProofs [L125b1, hi, hi2, hwl]
  | cons w t ih =>
    intro i c h h0 h1
    obtain ⟨hi, hx, hd, hmem⟩ := at_drop h
    have hi2 : (i : Int) < (W.length : Int) := by omega
    have hwl : (W.map wd).length = W.length := List.length_map _
    obtain ⟨hl, hz⟩ := hw w hmem
    have hb := tW_b w 0 hz
    have hww : IntKind.i64.wrap ((i : Int) + 1) = (i : Int) + 1 := wr64 (by omega) (by omega)
    by_cases hk : 0 < i
    · have s1 := ss0 W i hi w hx hl hz w 0 (c + 7) rfl (by omega) (by omega) (by simp)
      have hih := ih (i + 1) (c + 7 + tW 0 w) hd (by omega) (by omega)
      have hkz : (0 : Int) < (i : Int) := by omega
      have w7 : IntKind.i64.wrap (c + 7) = c + 7 := wr64 (by omega) (by omega)
      rw [c0] at s1
      rw [cs1, show c + 7 + tW 0 w + tSg (i + 1) t = c + tSg i (w :: t) by rw [tSg, if_pos hk]; omega] at hih
      unfold wb at s1 hih ⊢
      rw [loopW_eq]
      clear ih
      generalize c + tSg i (w :: t) = R at hih ⊢
      generalize loopW (bd E0 (ev E0) loopW 0 [3, 4, 5] L125b1) = K at hih ⊢
      unfold bd
      simpa -implicitDefEqProofs [L125b1, hi, hi2, hwl, hk, hkz, w7, hww, s1] using hih
    · obtain rfl : i = 0 := by omega
      have s1 := ss0 W 0 hi w hx hl hz w 0 c rfl (by omega) (by omega) (by simp)
      have hih := ih (0 + 1) (c + tW 0 w) hd (by omega) (by omega)
      have hw1 : IntKind.i64.wrap 1 = 1 := rfl
      rw [cs1, show c + tW 0 w + tSg (0 + 1) t = c + tSg 0 (w :: t) by rw [tSg, if_neg (by omega)]; omega] at hih
      unfold wb at s1 hih ⊢
      rw [loopW_eq]
      clear ih
      generalize c + tSg 0 (w :: t) = R at hih ⊢
      rw [c0] at *
      generalize loopW (bd E0 (ev E0) loopW 0 [3, 4, 5] L125b1) = K at hih ⊢
      unfold bd
      simpa -implicitDefEqProofs [L125b1, hi, hi2, hwl, hw1, s1] using hih
end Go.Proofs.YtckfbfgfjlgmeaaGreatDoor.Ev

namespace Go.Proofs.YtckfbfgfjlgmeaaGreatDoor.Ev
theorem cntW_mem : ∀ (W : List (List ByteArray)), W.length ≤ cntW W ∧ ∀ w ∈ W, w.length ≤ cntW W
  | [] => by simp [cntW]
  | w :: r => by
    obtain ⟨h1, h2⟩ := cntW_mem r
    rw [cntW, List.length_cons]
    refine ⟨by omega, fun x hx => ?_⟩
    rcases List.mem_cons.1 hx with rfl | hx
    · omega
    · have := h2 x hx; omega
theorem sig_words {s : ByteArray} (h : okSig s = true) : (lw s).length ≤ 100 ∧ ∀ w ∈ lw s, w.length ≤ 1000 ∧ ∀ x ∈ w, 1 ≤ x.size ∧ x.size ≤ 1000 := by
  unfold lw
  by_cases he : s = ⟨#[]⟩
  · rw [if_pos he]; exact ⟨by simp, by simp⟩
  · rw [if_neg he]
    unfold okSig at h
    rw [Bool.or_eq_true, Bool.and_eq_true, Bool.and_eq_true, decide_eq_true_eq, decide_eq_true_eq, decide_eq_true_eq] at h
    rcases h with h | ⟨⟨_, h2⟩, h3⟩
    · exact absurd h he
    · obtain ⟨q1, q2⟩ := cntW_mem (wordsOf s)
      refine ⟨by omega, fun w hw => ⟨by have := q2 w hw; omega, fun x hx => ?_⟩⟩
      have h4 := List.all_eq_true.1 h2 w hw
      unfold okLs at h4
      have h5 := List.all_eq_true.1 h4 x hx
      unfold okMarks at h5
      simp only [Bool.and_eq_true, decide_eq_true_eq] at h5
      omega
def sgT (s : ByteArray) : Int := tSg 0 (lw s)
theorem sigTime_i (s : ByteArray) (hs : s.size ≤ 1000) (h : okSig s = true) : ev E0 124 [st s] [] = some (i64 (sgT s), []) := by
  obtain ⟨w1, w2⟩ := sig_words h
  have h1 := lettersOf_i s (by omega)
  have h2 := st1' (lw s) w1 w2 (lw s) 0 0 rfl (Int.le_refl _) (by omega)
  rw [c0, Int.zero_add] at h2
  unfold sgT
  rw [e124]
  unfold runF
  generalize tSg 0 (lw s) = T at *
  unfold wb at h1 h2
  have ht : List.take (lw s).length ((lw s).map wd) = (lw s).map wd := List.take_of_length_le (by simp)
  have hl : ((lw s).map wd).length = (lw s).length := List.length_map _
  simp -implicitDefEqProofs [L124, h1, h2, ht, hl]
theorem sigTime_s (s : ByteArray) (hs : s.size ≤ 1000) (h : okSig s = true) : ev E0 125 [st s] [] = some (i64 (sgT s), []) := by
  obtain ⟨w1, w2⟩ := sig_words h
  rw [e125]
  unfold runF
  by_cases he : s = ⟨#[]⟩
  · subst he
    have : sgT ⟨#[]⟩ = 0 := rfl
    rw [this]
    simp -implicitDefEqProofs [L125]
  · have h1 := words_s s (by omega)
    have hlw : lw s = wordsOf s := if_neg he
    have h2 := ss1 (lw s) w1 w2 (lw s) 0 0 rfl (Int.le_refl _) (by omega)
    rw [c0, Int.zero_add] at h2
    unfold sgT
    rw [hlw] at h2 ⊢
    unfold wb at h2
    generalize tSg 0 (wordsOf s) = T at *
    simp -implicitDefEqProofs [L125, h1, h2, he]
def tsV (s : ByteArray) : AV := if okSig s = true then .tup [i64 (sgT s), bl true] else .tup [i64 0, bl false]
theorem timeSig_i (s : ByteArray) (hs : s.size ≤ 1000) : ev E0 70 [st s] [] = some (tsV s, []) := by
  have h1 := isSignal_i s (by omega)
  unfold tsV
  rw [e70]
  unfold runF
  cases ho : okSig s with
  | false => rw [ho] at h1; simp -implicitDefEqProofs [L70, h1]
  | true =>
    have h2 := sigTime_i s hs ho
    rw [ho] at h1
    generalize sgT s = T at *
    simp -implicitDefEqProofs [L70, h1, h2]
theorem timeSig_s (s : ByteArray) (hs : s.size ≤ 1000) : ev E0 71 [st s] [] = some (tsV s, []) := by
  have h1 := signal_s s (by omega)
  unfold tsV
  rw [e71]
  unfold runF
  cases ho : okSig s with
  | false => rw [ho] at h1; simp -implicitDefEqProofs [L71, h1]
  | true =>
    have h2 := sigTime_s s hs ho
    rw [ho] at h1
    generalize sgT s = T at *
    simp -implicitDefEqProofs [L71, h1, h2]
end Go.Proofs.YtckfbfgfjlgmeaaGreatDoor.Ev

namespace Go.Proofs.YtckfbfgfjlgmeaaGreatDoor.Ev
/-- The words of a message, as letters' marks. -/
def msgW (ms : List ByteArray) (s : ByteArray) : List (List ByteArray) := (Lib.fields (B s)).map fun w => w.map (mB ms)
theorem parts_join (b : UInt8) : ∀ (ws : List (List UInt8)), ws ≠ [] → (∀ w ∈ ws, b ∉ w) → parts b (Lib.join ws [b]) = ws
  | [], h, _ => absurd rfl h
  | w :: r, _, h => by
    rw [Lib.join_cons]
    exact parts_tail b r w (h w (List.mem_cons_self ..)) (fun x hx => h x (List.mem_cons_of_mem _ hx))
theorem join_notin (b c : UInt8) (hbc : b ≠ c) : ∀ (ws : List (List UInt8)), (∀ w ∈ ws, b ∉ w) → b ∉ Lib.join ws [c]
  | [], _ => by simp [Lib.join_nil]
  | w :: r, h => by
    have key : ∀ r : List (List UInt8), (∀ w ∈ r, b ∉ w) → b ∉ Lib.joinTail [c] r := by
      intro r
      induction r with
      | nil => intro _ hb; cases hb
      | cons x r ih =>
        intro h hb
        have e : Lib.joinTail [c] (x :: r) = c :: (x ++ Lib.joinTail [c] r) := by simp [Lib.joinTail]
        rw [e] at hb
        rcases List.mem_cons.1 hb with hb | hb
        · exact hbc hb
        · rcases List.mem_append.1 hb with hb | hb
          · exact h x (List.mem_cons_self ..) hb
          · exact ih (fun y hy => h y (List.mem_cons_of_mem _ hy)) hb
    rw [Lib.join_cons]
    intro hb
    rcases List.mem_append.1 hb with hb | hb
    · exact h w (List.mem_cons_self ..) hb
    · exact key r (fun y hy => h y (List.mem_cons_of_mem _ hy)) hb
theorem go_ne : ∀ (t cur w : List UInt8), w ∈ Lib.fieldsGo cur t → w ≠ []
  | [], cur, w, h => by
    rw [Lib.fieldsGo] at h
    split at h
    · cases h
    · rename_i hc
      rw [List.mem_singleton.1 h]
      intro e
      rw [e] at hc
      exact hc rfl
  | c :: t, cur, w, h => by
    rw [Lib.fieldsGo] at h
    split at h
    · split at h
      · exact go_ne t [] w h
      · rename_i hc
        rcases List.mem_cons.1 h with e | h
        · rw [e]
          intro e
          rw [e] at hc
          exact hc rfl
        · exact go_ne t [] w h
    · exact go_ne t (cur ++ [c]) w h
def tot : List (List UInt8) → Nat
  | [] => 0
  | w :: r => w.length + 1 + tot r
theorem tot_eq (n : Nat) (hn : n ≤ 20) : ∀ (t : List UInt8), (∀ cur, cur ≠ [] → vM n true t → tot (Lib.fieldsGo cur t) = cur.length + t.length + 1) ∧ (vM n false t → tot (Lib.fieldsGo [] t) = t.length + 1)
  | [] => by
    refine ⟨fun cur hc _ => ?_, fun h => by simp [vM] at h⟩
    have hce : cur.isEmpty = false := by cases cur <;> simp_all
    rw [Lib.fieldsGo, hce]
    simp [tot]
  | c :: t => by
    obtain ⟨ihA, ihB⟩ := tot_eq n hn t
    refine ⟨fun cur hc hv => ?_, fun hv => ?_⟩
    · have hce : cur.isEmpty = false := by cases cur <;> simp_all
      rw [vM] at hv
      rcases hv with ⟨rfl, -, hv⟩ | ⟨h32, hok, hv⟩
      · rw [Lib.fieldsGo, show Lib.isSp 32 = true from rfl, hce]
        simp only [if_true, Bool.false_eq_true, if_false]
        rw [tot, ihB hv, List.length_cons]
        omega
      · have hs := sp_letter hn hok
        rw [Lib.fieldsGo, hs]
        simp only [Bool.false_eq_true, if_false]
        rw [ihA (cur ++ [c]) (by simp) hv]
        simp
        omega
    · rw [vM] at hv
      rcases hv with ⟨_, h, _⟩ | ⟨h32, hok, hv⟩
      · cases h
      · have hs := sp_letter hn hok
        rw [Lib.fieldsGo, hs]
        simp only [Bool.false_eq_true, if_false, List.nil_append]
        rw [ihA [c] (by simp) hv]
        simp
        omega
theorem tot_cnt (f : List UInt8 → List ByteArray) (hf : ∀ w, (f w).length = w.length) : ∀ W : List (List UInt8), cntW (W.map f) = tot W
  | [] => rfl
  | w :: r => by rw [List.map_cons, cntW, tot, tot_cnt f hf r, hf]
theorem enc_words {ms : List ByteArray} (ho : okTable ms = true) (s : ByteArray) (hs : okMsg ms.length s = true) (he : B s ≠ []) : wordsOf (enc ms s) = msgW ms s ∧ tot (Lib.fields (B s)) = s.size + 1 ∧ ∀ w ∈ Lib.fields (B s), w ≠ [] ∧ ∀ b ∈ w, okB ms.length b := by
  obtain ⟨h1, h2⟩ := okMsg_msgL hs
  have hn := (tab_sizes ho).1
  have hv := msg_vM ms.length s (B s) 0 rfl h1 (fun e => absurd e he)
  have hp : pA s 0 = false := rfl
  rw [hp] at hv
  have hne := ((sJ_eq ms ms.length hn (B s)).2 hv).2
  have htot := (tot_eq ms.length hn (B s)).2 hv
  rw [B_len] at htot
  have hw : ∀ w ∈ Lib.fields (B s), w ≠ [] ∧ ∀ b ∈ w, okB ms.length b := fun w hw => by
    refine ⟨go_ne (B s) [] w hw, fun b hb => ?_⟩
    rcases (go_mem (B s) [] w hw).2 b hb with h | ⟨h, hsp⟩
    · cases h
    · rcases vM_mem ms.length (B s) _ hv b h with rfl | h
      · exact absurd hsp (by decide)
      · exact h
  have hmk : ∀ b, okB ms.length b → ∀ x ∈ mrk ms b, x = 46 ∨ x = 45 := fun b ⟨q1, q2⟩ x hx => by
    have hlt : b.toNat - 97 < ms.length := by omega
    have hk := tab_marks ho _ (by rw [← mk_at hlt]; exact List.getElem_mem _ : mk_ ms (b.toNat - 97) ∈ ms)
    exact (marks_def.1 hk).1 x hx
  have no : ∀ (y : UInt8), y ≠ 46 → y ≠ 45 → ∀ b, okB ms.length b → y ∉ mrk ms b := fun y y1 y2 b hb hx => by
    rcases hmk b hb y hx with e | e
    · exact y1 e
    · exact y2 e
  refine ⟨?_, htot, hw⟩
  unfold wordsOf msgW partsB
  have hB : B (enc ms s) = Lib.join ((Lib.fields (B s)).map (wJ ms)) [47] := by
    rw [← encI_enc ms hn s hs, B_encI]
    rfl
  have hne2 : Lib.fields (B s) ≠ [] := hne
  rw [hB, parts_join 47 _ (by simpa using hne2) (fun x hx => by
    obtain ⟨w, hw', rfl⟩ := List.mem_map.1 hx
    exact join_notin 47 32 (by decide) _ (fun y hy => by
      obtain ⟨b, hb, rfl⟩ := List.mem_map.1 hy
      exact no 47 (by decide) (by decide) b ((hw w hw').2 b hb)))]
  rw [List.map_map, List.map_map]
  refine List.map_congr_left fun w hw' => ?_
  show (parts 32 (B (mkB (wJ ms w)))).map mkB = w.map (mB ms)
  rw [B_mkB]
  unfold wJ
  rw [parts_join 32 _ (by simpa using (hw w hw').1) (fun y hy => by
    obtain ⟨b, hb, rfl⟩ := List.mem_map.1 hy
    exact no 32 (by decide) (by decide) b ((hw w hw').2 b hb)), List.map_map]
  exact List.map_congr_left fun b _ => mkB_B _
theorem enc_sig {ms : List ByteArray} (ho : okTable ms = true) (s : ByteArray) (hs : okMsg ms.length s = true) : okSig (enc ms s) = true := by
  by_cases he : B s = []
  · have e : enc ms s = ⟨#[]⟩ := by unfold enc; rw [he]; rfl
    rw [e]
    rfl
  · obtain ⟨h1, h2⟩ := okMsg_msgL hs
    obtain ⟨e1, e2, e3⟩ := enc_words ho s hs he
    unfold okSig
    rw [Bool.or_eq_true, Bool.and_eq_true, Bool.and_eq_true, decide_eq_true_eq, decide_eq_true_eq, decide_eq_true_eq, e1]
    refine .inr ⟨⟨?_, ?_⟩, ?_⟩
    · have := encL_sz (fun m hm => ((vt_of ho).sz m hm).2) s (B s) 0 ⟨#[]⟩
      have h0 : (⟨#[]⟩ : ByteArray).size = 0 := rfl
      rw [B_len] at this
      have h3 : s.size * (5 + 1) ≤ 12 * 6 := Nat.mul_le_mul_right 6 h2
      unfold enc
      omega
    · unfold msgW
      rw [List.all_eq_true]
      intro x hx
      obtain ⟨w, hw', rfl⟩ := List.mem_map.1 hx
      unfold okLs
      rw [List.all_eq_true]
      intro y hy
      obtain ⟨b, hb, rfl⟩ := List.mem_map.1 hy
      obtain ⟨q1, q2⟩ := (e3 w hw').2 b hb
      have hlt : b.toNat - 97 < ms.length := by omega
      exact tab_marks ho _ (by rw [← mk_at hlt]; exact List.getElem_mem _ : mk_ ms (b.toNat - 97) ∈ ms)
    · unfold msgW
      rw [tot_cnt _ (fun w => List.length_map _), e2]
      omega
end Go.Proofs.YtckfbfgfjlgmeaaGreatDoor.Ev

namespace Go.Proofs.YtckfbfgfjlgmeaaGreatDoor.Ev
def tmV (ms : List ByteArray) (s : ByteArray) : AV := if okTM ms s = true then .tup [i64 (sgT (enc ms s)), bl true] else .tup [i64 0, bl false]
theorem timeMsg_i (ms : List ByteArray) (hn : ms.length ≤ 1000) (hz : ∀ m ∈ ms, m.size ≤ 1000) (s : ByteArray) (hs : s.size ≤ 1000) : ev E0 60 [.agg [.lst 1 (ms.map st)], st s] [] = some (tmV ms s, []) := by
  have h1 := areValid_i ms hn hz s hs
  unfold tmV
  rw [e60]
  unfold runF
  cases ho : okTM ms s with
  | false => rw [ho] at h1; simp -implicitDefEqProofs [L60, h1]
  | true =>
    rw [ho] at h1
    unfold okTM at ho
    rw [Bool.and_eq_true] at ho
    have h3 := tab_sizes ho.1
    have h2 := encodeI ms h3.1 h3.2 s ho.2
    have h4 := sigTime_i (enc ms s) (by have := enc_small ho.1 ho.2; omega) (enc_sig ho.1 s ho.2)
    generalize enc ms s = e at *
    generalize sgT e = T at *
    simp -implicitDefEqProofs [L60, h1, h2, h4]
theorem timeMsg_s (ms : List ByteArray) (hn : ms.length ≤ 1000) (hz : ∀ m ∈ ms, m.size ≤ 1000) (s : ByteArray) (hs : s.size ≤ 1000) : ev E0 61 [.agg [.lst 1 (ms.map st)], st s] [] = some (tmV ms s, []) := by
  have h1 := table_s ms (by omega) (fun m hm => by have := hz m hm; omega)
  have h2 := msg_s ms (by omega) s (by omega)
  unfold tmV okTM
  rw [e61]
  unfold runF
  cases ho : okTable ms with
  | false => rw [ho] at h1; simp -implicitDefEqProofs [L61, h1]
  | true =>
    rw [ho] at h1
    cases hm : okMsg ms.length s with
    | false => rw [hm] at h2; simp -implicitDefEqProofs [L61, h1, h2]
    | true =>
      rw [hm] at h2
      have h3 := encode_s ms (by omega) (fun m hm => by have := hz m hm; omega) s hm
      have h4 := sigTime_s (enc ms s) (by have := enc_small ho hm; omega) (enc_sig ho s hm)
      generalize enc ms s = e at *
      generalize sgT e = T at *
      simp -implicitDefEqProofs [L61, h1, h2, h3, h4]
end Go.Proofs.YtckfbfgfjlgmeaaGreatDoor.Ev

