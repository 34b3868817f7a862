/- The time of a signal, the reference's alone. -/
import Derived.Test.YtckfbfgfjlgmeaaGreatDoorEvSig
import Derived.Test.YtckfbfgfjlgmeaaGreatDoorEvTm
import Derived.Test.YtckfbfgfjlgmeaaGreatDoorEvDrawBs
set_option linter.unusedVariables false
set_option linter.unusedSimpArgs false
namespace Go.Proofs.YtckfbfgfjlgmeaaGreatDoor.Ev
def dash (s : ByteArray) : Nat := Lib.countByte (B s) 45
theorem timeS_loop (s : ByteArray) (hs : s.size ≤ 100000) : ∀ (t : List UInt8) (i : Nat) (c : Int), (B s).drop i = t → 0 ≤ c → c + 3 * t.length ≤ 1000000 →
    packX 0 [3] (loopW (bd E0 (ev E0) loopW 0 [0, 3, 4] L112b0) ⟨[(0, st s), (3, i64 c), (4, i64 i)], []⟩) = some (.ext 0, ⟨[(3, i64 (c + t.length + 2 * (Lib.countByte t 45 : Nat)))], []⟩) := by
  intro t
  induction t with
  | nil =>
    intro i c h _ _
    have hi := byte_end h
    rw [show c + (([] : List UInt8).length : Int) + 2 * ((Lib.countByte [] 45 : Nat) : Int) = c by simp [Lib.countByte], loopW_eq]
    generalize loopW (bd E0 (ev E0) loopW 0 [0, 3, 4] L112b0) = K
    simp -implicitDefEqProofs [bd, L112b0, hi]
  | cons b t ih =>
    intro i c h h0 h1
    obtain ⟨hi, hx, hd⟩ := byte_at h
    rw [List.length_cons] at h1
    have hg : ∀ h, s.data[i]'h = b := by
      intro _
      have hi2 : i < s.data.toList.length := by simpa using hi
      rw [List.getD_eq_getElem?_getD, List.getElem?_eq_getElem hi2, Option.getD_some] at hx
      exact hx
    have hw : IntKind.i64.wrap ((i : Int) + 1) = (i : Int) + 1 := wr64 (by omega) (by omega)
    have w1 : IntKind.i64.wrap (c + 1) = c + 1 := wr64 (by omega) (by omega)
    by_cases hb : b = 45
    · subst hb
      have hih := ih (i + 1) (c + 3) hd (by omega) (by omega)
      have w2 : IntKind.i64.wrap (c + 1 + 2) = c + 3 := by rw [wr64 (by omega) (by omega)]; omega
      rw [cs1, show c + 3 + (t.length : Int) + 2 * ((Lib.countByte t 45 : Nat) : Int) = c + ((45 :: t).length : Int) + 2 * ((Lib.countByte (45 :: t) 45 : Nat) : Int) by simp [Lib.countByte]; omega] at hih
      rw [loopW_eq]
      clear ih
      generalize c + ((45 :: t).length : Int) + 2 * ((Lib.countByte (45 :: t) 45 : Nat) : Int) = R at hih ⊢
      generalize loopW (bd E0 (ev E0) loopW 0 [0, 3, 4] L112b0) = K at hih ⊢
      simpa -implicitDefEqProofs [bd, L112b0, hi, hx, hg, hw, w1, w2] using hih
    · have hih := ih (i + 1) (c + 1) hd (by omega) (by omega)
      have hbn : decide ((b.toNat : Int) = 45) = false := decide_eq_false (fun h => hb (UInt8.toNat_inj.1 (by simpa using (by omega : b.toNat = 45))))
      rw [cs1, show c + 1 + (t.length : Int) + 2 * ((Lib.countByte t 45 : Nat) : Int) = c + ((b :: t).length : Int) + 2 * ((Lib.countByte (b :: t) 45 : Nat) : Int) by simp [Lib.countByte, List.count_cons, hb]; omega] at hih
      rw [loopW_eq]
      clear ih
      generalize c + ((b :: t).length : Int) + 2 * ((Lib.countByte (b :: t) 45 : Nat) : Int) = R at hih ⊢
      generalize loopW (bd E0 (ev E0) loopW 0 [0, 3, 4] L112b0) = K at hih ⊢
      simpa -implicitDefEqProofs [bd, L112b0, hi, hx, hg, hw, w1, hbn] using hih
theorem timeS (s : ByteArray) (h0 : 0 < s.size) (hs : s.size ≤ 100000) : ev E0 112 [st s] [] = some (i64 (2 * (s.size : Int) - 1 + 2 * (dash s : Int)), []) := by
  have hl : (B s).length = s.size := B_len s
  have h := timeS_loop s hs (B s) 0 ((s.size : Int) - 1) rfl (by omega) (by omega)
  rw [c0, hl, show (s.size : Int) - 1 + (s.size : Int) + 2 * ((Lib.countByte (B s) 45 : Nat) : Int) = 2 * (s.size : Int) - 1 + 2 * (dash s : Int) by unfold dash; omega] at h
  have w1 : IntKind.i64.wrap ((s.size : Int) - 1) = (s.size : Int) - 1 := wr64 (by omega) (by omega)
  have h4 := Dr.most_d 0 ((s.size : Int) - 1)
  rw [show (if (s.size : Int) - 1 < 0 then (0 : Int) else (s.size : Int) - 1) = (s.size : Int) - 1 from if_neg (by omega)] at h4
  rw [e112]
  unfold runF
  generalize 2 * (s.size : Int) - 1 + 2 * (dash s : Int) = R at *
  simp -implicitDefEqProofs [L112, h, h4, w1]
def wb (W : List (List ByteArray)) : Blk := ⟨39, 1, 1, false, W.map wd⟩
theorem get_mk0 {ms : List ByteArray} {i : Nat} {m : ByteArray} (hi : i < ms.length) (hx : ms[i] = m) : (ms.map st)[i]? = some (st m) := by
  rw [List.getElem?_map, List.getElem?_eq_getElem hi, hx]
  rfl
theorem wb_at {W : List (List ByteArray)} {i : Nat} {w : List ByteArray} (hi : i < W.length) (hx : W[i] = w) : (W.map wd)[i]? = some (.lst 1 (w.map st)) := by
  rw [List.getElem?_map, List.getElem?_eq_getElem hi, hx]
  rfl
def tM (m : ByteArray) : Int := 2 * (m.size : Int) - 1 + 2 * (dash m : Int)
/-- The time of a word's letters from the k-th on. -/
def tW : Nat → List ByteArray → Int
  | _, [] => 0
  | k, m :: t => tM m + (if 0 < k then 3 else 0) + tW (k + 1) t
def tSg : Nat → List (List ByteArray) → Int
  | _, [] => 0
  | i, w :: t => (if 0 < i then 7 else 0) + tW 0 w + tSg (i + 1) t
theorem tM_b {m : ByteArray} (h : 1 ≤ m.size ∧ m.size ≤ 1000) : 0 ≤ tM m ∧ tM m ≤ 4000 := by
  have hdm : dash m ≤ m.size := by
    unfold dash Lib.countByte
    exact Nat.le_trans (List.count_le_length ..) (Nat.le_of_eq (B_len m))
  unfold tM
  omega
theorem tW_b : ∀ (t : List ByteArray) (k : Nat), (∀ x ∈ t, 1 ≤ x.size ∧ x.size ≤ 1000) → 0 ≤ tW k t ∧ tW k t ≤ 4003 * t.length
  | [], _, _ => by simp [tW]
  | m :: t, k, h => by
    have ih := tW_b t (k + 1) (fun x hx => h x (List.mem_cons_of_mem _ hx))
    have hm := tM_b (h m (List.mem_cons_self ..))
    rw [tW, List.length_cons]
    split <;> omega
theorem ss0 (W : List (List ByteArray)) (i : Nat) (hiW : i < W.length) (w : List ByteArray) (hxW : W[i] = w) (hw : w.length ≤ 1000) (hz : ∀ x ∈ w, 1 ≤ x.size ∧ x.size ≤ 1000) : ∀ (t : List ByteArray) (k : Nat) (c : Int), w.drop k = t → 0 ≤ c → c ≤ 1000000000000 + 10000 * k → k + t.length = w.length →
    packX 0 [3, 4, 5] (loopW (bd E0 (ev E0) loopW 0 [3, 4, 5, 6] L125b0) ⟨[(3, i64 c), (4, .sl 0 0 W.length), (5, i64 i), (6, i64 k)], [some (wb W)]⟩) = some (.ext 2, ⟨[(3, i64 (c + tW k t)), (4, .sl 0 0 W.length), (5, i64 i)], [some (wb W)]⟩) := by
  have hgw := wb_at hiW hxW
  have hgw2 : ∀ h, (W.map wd)[i]'h = .lst 1 (w.map st) := fun h => (List.getElem?_eq_some_iff.1 hgw).2
  have hiW2 : (i : Int) < (W.length : Int) := by omega
  have hwl : (W.map wd).length = W.length := List.length_map _
  unfold wb
  intro t
  induction t with
  | nil =>
    intro k c h _ _ hl
    have hi := not_drop h
    have hi2 : ¬ (k : Int) < (w.length : Int) := by omega
    rw [show c + tW k [] = c from Int.add_zero c, loopW_eq]
    generalize W.map wd = Q at *
    generalize loopW (bd E0 (ev E0) loopW 0 [3, 4, 5, 6] L125b0) = K
    simp -implicitDefEqProofs [bd, L125b0, hi, hi2, hgw, hgw2, hiW, hiW2, hwl]
  | cons m t ih =>
    intro k c h h0 h1 hl
    obtain ⟨hi, hx, hd, hmem⟩ := at_drop h
    rw [List.length_cons] at hl
    have htm := tM_b (hz m hmem)
    have hT := timeS m (by have := (hz m hmem).1; omega) (by have := (hz m hmem).2; omega)
    rw [show 2 * (m.size : Int) - 1 + 2 * (dash m : Int) = tM m from rfl] at hT
    have hi2 : (k : Int) < (w.length : Int) := by omega
    have hg := get_mk0 hi hx
    have hg2 : ∀ h, (w.map st)[k]'h = st m := fun h => (List.getElem?_eq_some_iff.1 hg).2
    have hw' : IntKind.i64.wrap ((k : Int) + 1) = (k : Int) + 1 := wr64 (by omega) (by omega)
    by_cases hk : 0 < k
    · have hih := ih (k + 1) (c + 3 + tM m) hd (by omega) (by omega) (by omega)
      have w1 : IntKind.i64.wrap (c + 3) = c + 3 := wr64 (by omega) (by omega)
      have w2 : IntKind.i64.wrap (c + 3 + tM m) = c + 3 + tM m := wr64 (by omega) (by omega)
      have hkz : (0 : Int) < (k : Int) := by omega
      rw [cs1, show c + 3 + tM m + tW (k + 1) t = c + tW k (m :: t) by rw [tW, if_pos hk]; omega] at hih
      rw [loopW_eq]
      clear ih
      generalize c + tW k (m :: t) = R at hih ⊢
      generalize tM m = tm at *
      generalize W.map wd = Q at *
      generalize loopW (bd E0 (ev E0) loopW 0 [3, 4, 5, 6] L125b0) = K at hih ⊢
      simpa -implicitDefEqProofs [bd, L125b0, hi, hi2, hg, hg2, hT, hw', w1, w2, hk, hkz, hgw, hgw2, hiW, hiW2, hwl] using hih
    · obtain rfl : k = 0 := by omega
      have hih := ih (0 + 1) (c + tM m) hd (by omega) (by omega) (by omega)
      have w2 : IntKind.i64.wrap (c + tM m) = c + tM m := wr64 (by omega) (by omega)
      have hw1 : IntKind.i64.wrap 1 = 1 := rfl
      rw [cs1, show c + tM m + tW (0 + 1) t = c + tW 0 (m :: t) by rw [tW, if_neg (by omega)]; omega] at hih
      rw [loopW_eq]
      clear ih
      generalize c + tW 0 (m :: t) = R at hih ⊢
      generalize tM m = tm at *
      generalize W.map wd = Q at *
      rw [c0] at *
      generalize loopW (bd E0 (ev E0) loopW 0 [3, 4, 5, 6] L125b0) = K at hih ⊢
      simpa -implicitDefEqProofs [bd, L125b0, hi, hi2, hg, hg2, hT, hw1, w2, hgw, hgw2, hiW, hiW2, hwl] using hih
theorem ss1 (W : List (List ByteArray)) (hW : W.length ≤ 100) (hw : ∀ w ∈ W, w.length ≤ 1000 ∧ ∀ x ∈ w, 1 ≤ x.size ∧ x.size ≤ 1000) : ∀ (t : List (List ByteArray)) (i : Nat) (c : Int), W.drop i = t → 0 ≤ c → c ≤ 5000000 * i →
    packX 0 [3] (loopW (bd E0 (ev E0) loopW 0 [3, 4, 5] L125b1) ⟨[(3, i64 c), (4, .sl 0 0 W.length), (5, i64 i)], [some (wb W)]⟩) = some (.ext 0, ⟨[(3, i64 (c + tSg i t))], []⟩) := by
  intro t
  induction t with
  | nil =>
    intro i c h _ _
    have hi := not_drop h
    have hi2 : ¬ (i : Int) < (W.length : Int) := by omega
    have hwl : (W.map wd).length = W.length := List.length_map _
    rw [show c + tSg i [] = c from Int.add_zero c, loopW_eq]
    unfold wb
    generalize loopW (bd E0 (ev E0) loopW 0 [3, 4, 5] L125b1) = K
    unfold bd
    simp -implicitDefEqProofs [L125b1, hi, hi2, hwl]
  | cons w t ih =>
    intro i c h h0 h1
    obtain ⟨hi, hx, hd, hmem⟩ := at_drop h
    have hi2 : (i : Int) < (W.length : Int) := by omega
    have hwl : (W.map wd).length = W.length := List.length_map _
    obtain ⟨hl, hz⟩ := hw w hmem
    have hb := tW_b w 0 hz
    have hww : IntKind.i64.wrap ((i : Int) + 1) = (i : Int) + 1 := wr64 (by omega) (by omega)
    by_cases hk : 0 < i
    · have s1 := ss0 W i hi w hx hl hz w 0 (c + 7) rfl (by omega) (by omega) (by simp)
      have hih := ih (i + 1) (c + 7 + tW 0 w) hd (by omega) (by omega)
      have hkz : (0 : Int) < (i : Int) := by omega
      have w7 : IntKind.i64.wrap (c + 7) = c + 7 := wr64 (by omega) (by omega)
      rw [c0] at s1
      rw [cs1, show c + 7 + tW 0 w + tSg (i + 1) t = c + tSg i (w :: t) by rw [tSg, if_pos hk]; omega] at hih
      unfold wb at s1 hih ⊢
      rw [loopW_eq]
      clear ih
      generalize c + tSg i (w :: t) = R at hih ⊢
      generalize loopW (bd E0 (ev E0) loopW 0 [3, 4, 5] L125b1) = K at hih ⊢
      unfold bd
      simpa -implicitDefEqProofs [L125b1, hi, hi2, hwl, hk, hkz, w7, hww, s1] using hih
    · obtain rfl : i = 0 := by omega
      have s1 := ss0 W 0 hi w hx hl hz w 0 c rfl (by omega) (by omega) (by simp)
      have hih := ih (0 + 1) (c + tW 0 w) hd (by omega) (by omega)
      have hw1 : IntKind.i64.wrap 1 = 1 := rfl
      rw [cs1, show c + tW 0 w + tSg (0 + 1) t = c + tSg 0 (w :: t) by rw [tSg, if_neg (by omega)]; omega] at hih
      unfold wb at s1 hih ⊢
      rw [loopW_eq]
      clear ih
      generalize c + tSg 0 (w :: t) = R at hih ⊢
      rw [c0] at *
      generalize loopW (bd E0 (ev E0) loopW 0 [3, 4, 5] L125b1) = K at hih ⊢
      unfold bd
      simpa -implicitDefEqProofs [L125b1, hi, hi2, hwl, hw1, s1] using hih
theorem cntW_mem : ∀ (W : List (List ByteArray)), W.length ≤ cntW W ∧ ∀ w ∈ W, w.length ≤ cntW W
  | [] => by simp [cntW]
  | w :: r => by
    obtain ⟨h1, h2⟩ := cntW_mem r
    rw [cntW, List.length_cons]
    refine ⟨by omega, fun x hx => ?_⟩
    rcases List.mem_cons.1 hx with rfl | hx
    · omega
    · have := h2 x hx; omega
theorem sigWords {s : ByteArray} (h : okSig s = true) (he : s ≠ ⟨#[]⟩) : (wordsOf s).length ≤ 100 ∧ ∀ w ∈ wordsOf s, w.length ≤ 1000 ∧ ∀ x ∈ w, 1 ≤ x.size ∧ x.size ≤ 1000 := by
  unfold okSig at h
  rw [Bool.or_eq_true, Bool.and_eq_true, Bool.and_eq_true, decide_eq_true_eq, decide_eq_true_eq, decide_eq_true_eq] at h
  rcases h with h | ⟨⟨_, h2⟩, h3⟩
  · exact absurd h he
  · obtain ⟨q1, q2⟩ := cntW_mem (wordsOf s)
    refine ⟨by omega, fun w hw => ⟨by have := q2 w hw; omega, fun x hx => ?_⟩⟩
    have h4 := List.all_eq_true.1 h2 w hw
    unfold okLs at h4
    have h5 := List.all_eq_true.1 h4 x hx
    unfold okMarks at h5
    simp only [Bool.and_eq_true, decide_eq_true_eq] at h5
    omega
theorem time_ex (s : ByteArray) (hs : s.size ≤ 1000) (h : okSig s = true) : ∃ v : Int, ev E0 125 [st s] [] = some (i64 v, []) := by
  rw [e125]
  unfold runF
  by_cases he : s = ⟨#[]⟩
  · subst he
    refine ⟨0, ?_⟩
    simp -implicitDefEqProofs [L125]
  · obtain ⟨w1, w2⟩ := sigWords h he
    have h1 := words_s s (by omega)
    have h2 := ss1 (wordsOf s) w1 w2 (wordsOf s) 0 0 rfl (Int.le_refl _) (by omega)
    rw [c0, Int.zero_add] at h2
    unfold wb at h2
    refine ⟨tSg 0 (wordsOf s), ?_⟩
    generalize tSg 0 (wordsOf s) = T at *
    simp -implicitDefEqProofs [L125, h1, h2, he]
theorem i1_ : IntKind.i64.wrap 1 = 1 := rfl
/-- The line of a text that may be a signal: there is one, of no great length. -/
theorem of_loop (s : ByteArray) (hs : s.size ≤ 1000) : ∀ (t : List UInt8) (i : Nat) (a : ByteArray), (B s).drop i = t → a.size ≤ 10000 + 8 * i →
    ∃ r : ByteArray, r.size ≤ a.size + 8 * t.length ∧ packX 0 [3] (loopW (bd E0 (ev E0) loopW 0 [0, 3, 4] L141b0) ⟨[(0, st s), (3, st a), (4, i64 i)], []⟩) = some (.ext 0, ⟨[(3, st r)], []⟩) := by
  intro t
  induction t with
  | nil =>
    intro i a h _
    have hi := byte_end h
    have hii : ¬ (i : Int) < (s.size : Int) := by omega
    refine ⟨a, by simp, ?_⟩
    rw [loopW_eq]
    generalize loopW (bd E0 (ev E0) loopW 0 [0, 3, 4] L141b0) = K
    simp -implicitDefEqProofs [bd, L141b0, hi, hii]
  | cons c t ih =>
    intro i a h ha
    obtain ⟨hi, hx, hd⟩ := byte_at h
    have hii : (i : Int) < (s.size : Int) := by omega
    have hg : ∀ h, s.data[i]'h = c := by
      intro h
      have hi2 : i < s.data.toList.length := by simpa using hi
      rw [List.getD_eq_getElem?_getD, List.getElem?_eq_getElem hi2, Option.getD_some] at hx
      exact hx
    have hw : IntKind.i64.wrap ((i : Int) + 1) = (i : Int) + 1 := wr64 (by omega) (by omega)
    have z1 : (⟨#[48]⟩ : ByteArray).size = 1 := rfl
    have z2 : (⟨#[49]⟩ : ByteArray).size = 1 := rfl
    have z3 : (⟨#[48, 48, 48]⟩ : ByteArray).size = 3 := rfl
    have z4 : (⟨#[49, 49, 49]⟩ : ByteArray).size = 3 := rfl
    have z5 : (⟨#[48, 48, 48, 48, 48, 48, 48]⟩ : ByteArray).size = 7 := rfl
    have next : ∀ a' : ByteArray, a'.size ≤ a.size + 8 → ∃ r : ByteArray, r.size ≤ a.size + 8 * (c :: t).length ∧ packX 0 [3] (loopW (bd E0 (ev E0) loopW 0 [0, 3, 4] L141b0) ⟨[(0, st s), (3, st a'), (4, i64 ((i : Int) + 1))], []⟩) = some (.ext 0, ⟨[(3, st r)], []⟩) := by
      intro a' h'
      obtain ⟨r, k1, k2⟩ := ih (i + 1) a' hd (by omega)
      rw [cs1] at k2
      exact ⟨r, by rw [List.length_cons]; omega, k2⟩
    have mk : ∀ a' : ByteArray, a'.size ≤ a.size + 8 → (∀ r : ByteArray, packX 0 [3] (loopW (bd E0 (ev E0) loopW 0 [0, 3, 4] L141b0) ⟨[(0, st s), (3, st a'), (4, i64 ((i : Int) + 1))], []⟩) = some (.ext 0, ⟨[(3, st r)], []⟩) → packX 0 [3] (loopW (bd E0 (ev E0) loopW 0 [0, 3, 4] L141b0) ⟨[(0, st s), (3, st a), (4, i64 i)], []⟩) = some (.ext 0, ⟨[(3, st r)], []⟩)) → ∃ r : ByteArray, r.size ≤ a.size + 8 * (c :: t).length ∧ packX 0 [3] (loopW (bd E0 (ev E0) loopW 0 [0, 3, 4] L141b0) ⟨[(0, st s), (3, st a), (4, i64 i)], []⟩) = some (.ext 0, ⟨[(3, st r)], []⟩) := by
      intro a' h' hh
      obtain ⟨r, k1, k2⟩ := next a' h'
      exact ⟨r, k1, hh r k2⟩
    clear ih next
    by_cases c32 : c = 32
    · subst c32
      refine mk (a ++ ⟨#[48, 48, 48]⟩) (by rw [ByteArray.size_append, z3]; omega) fun r hr => ?_
      have q : a.size + 3 ≤ 9223372036854775807 := by omega
      rw [loopW_eq]
      generalize loopW (bd E0 (ev E0) loopW 0 [0, 3, 4] L141b0) = K at hr ⊢
      simpa -implicitDefEqProofs [bd, L141b0, hi, hii, hx, hg, hw, z3, q] using hr
    · have n32 : ¬ c.toNat = 32 := fun e => c32 (UInt8.toNat_inj.1 e)
      have n32' : ¬ (c.toNat : Int) = 32 := by omega
      by_cases c47 : c = 47
      · subst c47
        refine mk (a ++ ⟨#[48, 48, 48, 48, 48, 48, 48]⟩) (by rw [ByteArray.size_append, z5]; omega) fun r hr => ?_
        have q : a.size + 7 ≤ 9223372036854775807 := by omega
        rw [loopW_eq]
        generalize loopW (bd E0 (ev E0) loopW 0 [0, 3, 4] L141b0) = K at hr ⊢
        simpa -implicitDefEqProofs [bd, L141b0, hi, hii, hx, hg, hw, z5, q] using hr
      · have n47 : ¬ c.toNat = 47 := fun e => c47 (UInt8.toNat_inj.1 e)
        have n47' : ¬ (c.toNat : Int) = 47 := by omega
        -- the sign of a mark, behind a text
        have tail : ∀ (a2 : ByteArray), a2.size ≤ a.size + 1 → ((c = 46 → ∀ r : ByteArray, packX 0 [3] (loopW (bd E0 (ev E0) loopW 0 [0, 3, 4] L141b0) ⟨[(0, st s), (3, st (a2 ++ ⟨#[49]⟩)), (4, i64 ((i : Int) + 1))], []⟩) = some (.ext 0, ⟨[(3, st r)], []⟩) → packX 0 [3] (loopW (bd E0 (ev E0) loopW 0 [0, 3, 4] L141b0) ⟨[(0, st s), (3, st a), (4, i64 i)], []⟩) = some (.ext 0, ⟨[(3, st r)], []⟩)) ∧
            (c ≠ 46 → ∀ r : ByteArray, packX 0 [3] (loopW (bd E0 (ev E0) loopW 0 [0, 3, 4] L141b0) ⟨[(0, st s), (3, st (a2 ++ ⟨#[49, 49, 49]⟩)), (4, i64 ((i : Int) + 1))], []⟩) = some (.ext 0, ⟨[(3, st r)], []⟩) → packX 0 [3] (loopW (bd E0 (ev E0) loopW 0 [0, 3, 4] L141b0) ⟨[(0, st s), (3, st a), (4, i64 i)], []⟩) = some (.ext 0, ⟨[(3, st r)], []⟩))) →
            ∃ r : ByteArray, r.size ≤ a.size + 8 * (c :: t).length ∧ packX 0 [3] (loopW (bd E0 (ev E0) loopW 0 [0, 3, 4] L141b0) ⟨[(0, st s), (3, st a), (4, i64 i)], []⟩) = some (.ext 0, ⟨[(3, st r)], []⟩) := by
          intro a2 h2 hh
          by_cases c46 : c = 46
          · exact mk (a2 ++ ⟨#[49]⟩) (by rw [ByteArray.size_append, z2]; omega) (hh.1 c46)
          · exact mk (a2 ++ ⟨#[49, 49, 49]⟩) (by rw [ByteArray.size_append, z4]; omega) (hh.2 c46)
        clear mk
        have q1 : a.size + 1 ≤ 9223372036854775807 := by omega
        have q3 : a.size + 3 ≤ 9223372036854775807 := by omega
        have q11 : a.size + 1 + 1 ≤ 9223372036854775807 := by omega
        have q13 : a.size + 1 + 3 ≤ 9223372036854775807 := by omega
        rcases Nat.eq_zero_or_pos i with rfl | hpos
        · refine tail a (by omega) ⟨fun c46 r hr => ?_, fun c46 r hr => ?_⟩
          · subst c46
            rw [c0] at *
            rw [loopW_eq]
            generalize loopW (bd E0 (ev E0) loopW 0 [0, 3, 4] L141b0) = K at hr ⊢
            simpa -implicitDefEqProofs [bd, L141b0, hi, hii, hx, hg, hw, i1_, z2, q1] using hr
          · have n46 : ¬ c.toNat = 46 := fun e => c46 (UInt8.toNat_inj.1 e)
            have n46' : ¬ (c.toNat : Int) = 46 := by omega
            rw [c0] at *
            rw [loopW_eq]
            generalize loopW (bd E0 (ev E0) loopW 0 [0, 3, 4] L141b0) = K at hr ⊢
            simpa -implicitDefEqProofs [bd, L141b0, hi, hii, hx, hg, hw, i1_, n32, n32', n47, n47', n46, n46', z4, q3] using hr
        · obtain ⟨j, rfl⟩ : ∃ j, i = j + 1 := ⟨i - 1, by omega⟩
          have hj : j < s.size := by omega
          have hjj : (j : Int) < (s.size : Int) := by omega
          have hwj : IntKind.i64.wrap (j : Int) = (j : Int) := wr64 (by omega) (by omega)
          have hp0 : (0 : Int) < (j : Int) + 1 := by omega
          have hp1 : (0 : Int) ≤ (j : Int) + 1 := by omega
          obtain ⟨p, hp⟩ : ∃ p, s.data.toList.getD j 0 = p := ⟨_, rfl⟩
          have hpg : ∀ h, s.data[j]'h = p := by
            intro h
            have hi2 : j < s.data.toList.length := by simpa using hj
            rw [List.getD_eq_getElem?_getD, List.getElem?_eq_getElem hi2, Option.getD_some] at hp
            exact hp
          rw [cs1] at hii hw tail ⊢
          by_cases hgap : p = 32 ∨ p = 47
          · refine tail a (by omega) ⟨fun c46 r hr => ?_, fun c46 r hr => ?_⟩
            · subst c46
              rw [loopW_eq]
              generalize loopW (bd E0 (ev E0) loopW 0 [0, 3, 4] L141b0) = K at hr ⊢
              rcases hgap with rfl | rfl <;> simpa -implicitDefEqProofs [bd, L141b0, hi, hii, hj, hjj, hx, hg, hp, hpg, hw, hwj, hp0, hp1, z2, q1] using hr
            · have n46 : ¬ c.toNat = 46 := fun e => c46 (UInt8.toNat_inj.1 e)
              have n46' : ¬ (c.toNat : Int) = 46 := by omega
              rw [loopW_eq]
              generalize loopW (bd E0 (ev E0) loopW 0 [0, 3, 4] L141b0) = K at hr ⊢
              rcases hgap with rfl | rfl <;> simpa -implicitDefEqProofs [bd, L141b0, hi, hii, hj, hjj, hx, hg, hp, hpg, hw, hwj, hp0, hp1, n32, n32', n47, n47', n46, n46', z4, q3] using hr
          · have p32 : ¬ p.toNat = 32 := fun e => hgap (.inl (UInt8.toNat_inj.1 e))
            have p47 : ¬ p.toNat = 47 := fun e => hgap (.inr (UInt8.toNat_inj.1 e))
            have p32' : ¬ (p.toNat : Int) = 32 := by omega
            have p47' : ¬ (p.toNat : Int) = 47 := by omega
            refine tail (a ++ ⟨#[48]⟩) (by rw [ByteArray.size_append, z1]; omega) ⟨fun c46 r hr => ?_, fun c46 r hr => ?_⟩
            · subst c46
              rw [loopW_eq]
              generalize loopW (bd E0 (ev E0) loopW 0 [0, 3, 4] L141b0) = K at hr ⊢
              simpa -implicitDefEqProofs [bd, L141b0, hi, hii, hj, hjj, hx, hg, hp, hpg, hw, hwj, hp0, hp1, p32, p32', p47, p47', z1, z2, q1, q11] using hr
            · have n46 : ¬ c.toNat = 46 := fun e => c46 (UInt8.toNat_inj.1 e)
              have n46' : ¬ (c.toNat : Int) = 46 := by omega
              rw [loopW_eq]
              generalize loopW (bd E0 (ev E0) loopW 0 [0, 3, 4] L141b0) = K at hr ⊢
              simpa -implicitDefEqProofs [bd, L141b0, hi, hii, hj, hjj, hx, hg, hp, hpg, hw, hwj, hp0, hp1, n32, n32', n47, n47', n46, n46', p32, p32', p47, p47', z1, z4, q1, q13] using hr
theorem of_ex (s : ByteArray) (hs : s.size ≤ 1000) : ∃ r : ByteArray, r.size ≤ 8000 ∧ ev E0 141 [st s] [] = some (st r, []) := by
  obtain ⟨r, h1, h2⟩ := of_loop s hs (B s) 0 ⟨#[]⟩ rfl (by decide)
  rw [c0] at h2
  have h0 : (⟨#[]⟩ : ByteArray).size = 0 := rfl
  rw [B_len] at h1
  refine ⟨r, by omega, ?_⟩
  rw [e141]
  unfold runF
  simp -implicitDefEqProofs [L141, h2]
end Go.Proofs.YtckfbfgfjlgmeaaGreatDoor.Ev
