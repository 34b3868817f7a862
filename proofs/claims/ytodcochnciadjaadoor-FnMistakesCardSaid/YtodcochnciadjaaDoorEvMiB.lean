/- Signals read with mistakes, and without: the program's and the reference's. -/
import Derived.Test.YtodcochnciadjaaDoorEvMiA
import Derived.Test.YtodcochnciadjaaDoorEvSigI
set_option linter.unusedVariables false
set_option linter.unusedSimpArgs false
namespace Go.Proofs.YtodcochnciadjaaDoor.Ev
/-- The first nearest letter, and how near. -/
def nf (ms : List ByteArray) (m : ByteArray) : Nat := (nrst ms m).1.headD 0
def nd (ms : List ByteArray) (m : ByteArray) : Nat := (nrst ms m).2.toNat
theorem nr_ok (ms : List ByteArray) (hne : 1 ≤ ms.length) (m : ByteArray) : Bst (fun j => ds (mk_ ms j) m) (List.range ms.length) (nrst ms m) :=
  best_of (by intro e; rw [List.range_eq_nil] at e; omega)
theorem nr_eq (ms : List ByteArray) (hne : 1 ≤ ms.length) (m : ByteArray) : ∃ l, nrst ms m = (nf ms m :: l, (nd ms m : Int)) ∧ nf ms m < ms.length ∧ ds (mk_ ms (nf ms m)) m = nd ms m ∧ ∀ j, j < ms.length → nd ms m ≤ ds (mk_ ms j) m := by
  have h := nr_ok ms hne m
  have hg := h.ge
  have hd : (nrst ms m).2 = (nd ms m : Int) := by unfold nd; omega
  have hl : (nrst ms m).1 ≠ [] := by
    obtain ⟨a, ha, e⟩ := h.at_
    rw [h.eq]
    refine List.ne_nil_of_mem (a := a) ?_
    rw [List.mem_filter]
    exact ⟨ha, decide_eq_true e⟩
  obtain ⟨k, l, hkl⟩ := List.exists_cons_of_ne_nil hl
  have hk : nf ms m = k := by unfold nf; rw [hkl]; rfl
  have hmem : k ∈ (nrst ms m).1 := by rw [hkl]; exact List.mem_cons_self ..
  rw [h.eq, List.mem_filter, List.mem_range, decide_eq_true_eq] at hmem
  refine ⟨l, ?_, by rw [hk]; exact hmem.1, ?_, fun j hj => ?_⟩
  · rw [hk, ← hkl, ← hd]
  · rw [hk]; have := hmem.2; omega
  · have := h.le j (List.mem_range.2 hj)
    omega
/-- Letters as bytes. -/
def lby (w : List Nat) : List UInt8 := w.map fun k => UInt8.ofNat (97 + k)
theorem lby_cons (k : Nat) (w : List Nat) (p : ByteArray) : (p ++ lt1 k) ++ mkB (lby w) = p ++ mkB (lby (k :: w)) := by
  apply B_inj
  rw [B_append, B_append, B_append, B_mkB, B_mkB, List.append_assoc]
  rfl
theorem lby_nil (p : ByteArray) : p ++ mkB (lby []) = p := by
  apply B_inj
  rw [B_append, B_mkB]
  exact List.append_nil _
def sb (l : List ByteArray) : Blk := ⟨9, 1, 1, false, l.map st⟩
def sumN (f : ByteArray → Nat) : List ByteArray → Nat
  | [] => 0
  | m :: t => f m + sumN f t
theorem read0 (ms : List ByteArray) (hm : ms.length ≤ 100) (hne : 1 ≤ ms.length) (hz : ∀ m ∈ ms, m.size ≤ 400) (O : List ByteArray) (W : List (List ByteArray)) (i : Nat) (w : List ByteArray) (hw : ∀ x ∈ w, x.size ≤ 400) (hwl : w.length ≤ 10000) : ∀ (t : List ByteArray) (k : Nat) (p : ByteArray) (s : Nat), w.drop k = t → p.size + t.length ≤ 100000 → s + 2000 * t.length ≤ 1000000000 →
    packX 0 [2, 7, 8, 11, 26, 27, 28] (loopW (bd E0 (ev E0) loopW 0 [2, 7, 8, 11, 26, 27, 28, 32, 33, 34] L44b0) ⟨[(2, .ptr 0 0 0), (7, .sl 1 0 O.length), (8, i64 s), (11, st p), (26, .sl 2 0 W.length), (27, i64 W.length), (28, i64 i), (32, .lst 1 (w.map st)), (33, i64 w.length), (34, i64 k)], [some (tb ms), some (sb O), some (wb W)]⟩) =
      some (.ext 2, ⟨[(2, .ptr 0 0 0), (7, .sl 1 0 O.length), (8, i64 ((s + sumN (nd ms) t : Nat) : Int)), (11, st (p ++ mkB (lby (t.map (nf ms))))), (26, .sl 2 0 W.length), (27, i64 W.length), (28, i64 i)], [some (tb ms), some (sb O), some (wb W)]⟩) := by
  unfold tb sb wb
  intro t
  induction t with
  | nil =>
    intro k p s h _ _
    have hk := not_drop h
    have hk2 : ¬ (k : Int) < (w.length : Int) := by omega
    rw [List.map_nil, lby_nil, show s + sumN (nd ms) [] = s from rfl, loopW_eq]
    generalize loopW (bd E0 (ev E0) loopW 0 [2, 7, 8, 11, 26, 27, 28, 32, 33, 34] L44b0) = K
    simp -implicitDefEqProofs [bd, L44b0, hk, hk2]
  | cons m t ih =>
    intro k p s h hp hs
    obtain ⟨hk, hx, hd, hmem⟩ := at_drop h
    rw [List.length_cons] at hp hs
    have hzm := hw m hmem
    obtain ⟨l, hn, hlt, hds, _⟩ := nr_eq ms hne m
    have hb := ds_b (a := mk_ ms (nf ms m)) (b := m) (by have := mk_sz hz (nf ms m); omega) (by omega)
    have z1 : (lt1 (nf ms m)).size = 1 := rfl
    have hih := ih (k + 1) (p ++ lt1 (nf ms m)) (s + nd ms m) hd (by rw [ByteArray.size_append]; omega) (by omega)
    rw [cs1, lby_cons, show s + nd ms m + sumN (nd ms) t = s + sumN (nd ms) (m :: t) by rw [sumN]; omega, ← List.map_cons] at hih
    have hnr := near_i ms (by omega) hz m hzm
    rw [hn] at hnr
    unfold ib at hnr
    dsimp only at hnr
    have hnc : ns (nf ms m :: l) = i64 (nf ms m : Int) :: ns l := rfl
    rw [hnc, List.length_cons] at hnr
    have hlt1 := letterText_i (nf ms m) (by omega)
    have hk2 : (k : Int) < (w.length : Int) := by omega
    have hg := get_mk0 hk hx
    have hg2 : ∀ h, (w.map st)[k]'h = st m := fun h => (List.getElem?_eq_some_iff.1 hg).2
    have hww : IntKind.i64.wrap ((k : Int) + 1) = (k : Int) + 1 := wr64 (by omega) (by omega)
    have hws : IntKind.i64.wrap ((s : Int) + (nd ms m : Int)) = ((s + nd ms m : Nat) : Int) := by rw [wr64 (by omega) (by omega)]; omega
    have hsz : p.size + (lt1 (nf ms m)).size ≤ 9223372036854775807 := by omega
    rw [loopW_eq]
    clear ih hn hds
    generalize loopW (bd E0 (ev E0) loopW 0 [2, 7, 8, 11, 26, 27, 28, 32, 33, 34] L44b0) = K at hih ⊢
    generalize p ++ mkB (lby (List.map (nf ms) (m :: t))) = R at hih ⊢
    generalize s + sumN (nd ms) (m :: t) = Q at hih ⊢
    generalize nd ms m = dm at *
    generalize lt1 (nf ms m) = lm1 at *
    generalize nf ms m = k0 at *
    simpa -implicitDefEqProofs [bd, L44b0, -Int.natCast_add, -ByteArray.size_append, hk, hk2, hg, hg2, hnr, hlt1, hww, hws, hsz] using hih
/-- Words of letters, one a row. -/
def rws (f : ByteArray → Nat) (W : List (List ByteArray)) : List ByteArray := W.map fun w => mkB (lby (w.map f))
def sumW (f : ByteArray → Nat) : List (List ByteArray) → Nat
  | [] => 0
  | w :: t => sumN f w + sumW f t
theorem sumN_le {f : ByteArray → Nat} {c : Nat} : ∀ {t : List ByteArray}, (∀ m ∈ t, f m ≤ c) → sumN f t ≤ c * t.length
  | [], _ => Nat.zero_le _
  | m :: t, h => by
    have h1 := sumN_le (t := t) (fun x hx => h x (List.mem_cons_of_mem _ hx))
    have h2 := h m (List.mem_cons_self ..)
    rw [sumN, List.length_cons, Nat.mul_add, Nat.mul_one]
    omega
theorem nd_le (ms : List ByteArray) (hne : 1 ≤ ms.length) (hz : ∀ m ∈ ms, m.size ≤ 400) (m : ByteArray) (hm : m.size ≤ 400) : nd ms m ≤ 2000 := by
  obtain ⟨l, hn, hlt, hds, _⟩ := nr_eq ms hne m
  rw [← hds]
  exact ds_b (by have := mk_sz hz (nf ms m); omega) (by omega)
theorem read1 (ms : List ByteArray) (hm : ms.length ≤ 100) (hne : 1 ≤ ms.length) (hz : ∀ m ∈ ms, m.size ≤ 400) (W : List (List ByteArray)) (hW : W.length ≤ 1000) (hwl : ∀ w ∈ W, w.length ≤ 100) (hw : ∀ w ∈ W, ∀ x ∈ w, x.size ≤ 400) : ∀ (t : List (List ByteArray)) (i : Nat) (O : List ByteArray) (s : Nat), W.drop i = t → O.length ≤ i → s ≤ i * 200000 →
    packX 0 [7, 8] (loopW (bd E0 (ev E0) loopW 0 [2, 7, 8, 26, 27, 28] L44b1) ⟨[(2, .ptr 0 0 0), (7, .sl 1 0 O.length), (8, i64 s), (26, .sl 2 0 W.length), (27, i64 W.length), (28, i64 i)], [some (tb ms), some (sb O), some (wb W)]⟩) =
      some (.ext 0, ⟨[(7, .sl 0 0 (O ++ rws (nf ms) t).length), (8, i64 ((s + sumW (nd ms) t : Nat) : Int))], [some (sb (O ++ rws (nf ms) t))]⟩) := by
  intro t
  induction t with
  | nil =>
    intro i O s h _ _
    have hi := not_drop h
    have hi2 : ¬ (i : Int) < (W.length : Int) := by omega
    rw [show s + sumW (nd ms) [] = s from rfl, show rws (nf ms) [] = [] from rfl, List.append_nil, loopW_eq]
    unfold tb sb wb
    generalize loopW (bd E0 (ev E0) loopW 0 [2, 7, 8, 26, 27, 28] L44b1) = K
    unfold bd
    simp -implicitDefEqProofs [L44b1, hi, hi2]
  | cons w t ih =>
    intro i O s h hO hs
    obtain ⟨hi, hx, hd, hmem⟩ := at_drop h
    have hl := hwl w hmem
    have hxs := hw w hmem
    have hsl := sumN_le (f := nd ms) (t := w) (fun m hm' => nd_le ms hne hz m (hxs m hm'))
    have h0 : (⟨#[]⟩ : ByteArray).size = 0 := rfl
    have hin := read0 ms hm hne hz O W i w hxs (by omega) w 0 ⟨#[]⟩ s rfl (by omega) (by omega)
    have he : ⟨#[]⟩ ++ mkB (lby (w.map (nf ms))) = mkB (lby (w.map (nf ms))) := B_inj (by rw [B_append]; rfl)
    rw [c0, he] at hin
    have hih := ih (i + 1) (O ++ [mkB (lby (w.map (nf ms)))]) (s + sumN (nd ms) w) hd (by simp; omega) (by rw [Nat.add_mul]; omega)
    rw [cs1, List.append_assoc, List.singleton_append, show mkB (lby (w.map (nf ms))) :: rws (nf ms) t = rws (nf ms) (w :: t) from rfl, show s + sumN (nd ms) w + sumW (nd ms) t = s + sumW (nd ms) (w :: t) by rw [sumW]; omega] at hih
    have hi2 : (i : Int) < (W.length : Int) := by omega
    have hg := wb_at hi hx
    have hg2 : ∀ h, (W.map wd)[i]'h = .lst 1 (w.map st) := fun h => (List.getElem?_eq_some_iff.1 hg).2
    have hww : IntKind.i64.wrap ((i : Int) + 1) = (i : Int) + 1 := wr64 (by omega) (by omega)
    have l1 : O.length + 1 ≤ 140737488355328 := by omega
    have l2 : (O.length + 1) * 16 ≤ 140737488355328 := by omega
    have ht : List.take O.length (O.map st) = O.map st := List.take_of_length_le (by simp)
    rw [List.length_append, List.length_singleton] at hih
    unfold tb sb wb at hin hih ⊢
    rw [List.map_append, List.map_singleton] at hih
    rw [loopW_eq]
    clear ih
    generalize loopW (bd E0 (ev E0) loopW 0 [2, 7, 8, 26, 27, 28] L44b1) = K at hih ⊢
    generalize O ++ rws (nf ms) (w :: t) = R at hih ⊢
    generalize s + sumW (nd ms) (w :: t) = Q at hih ⊢
    generalize s + sumN (nd ms) w = Q1 at *
    generalize mkB (lby (w.map (nf ms))) = R1 at *
    unfold bd
    simpa -implicitDefEqProofs [L44b1, hi, hi2, hg, hg2, hin, hww, l1, l2, ht] using hih
-- ---------------------------------------------------------------- the reference
theorem readS0 (ms : List ByteArray) (hm : ms.length ≤ 100) (hne : 1 ≤ ms.length) (hz : ∀ m ∈ ms, m.size ≤ 400) (W : List (List ByteArray)) (i : Nat) (w : List ByteArray) (hi : i < W.length) (hiw : W[i] = w) (hw : ∀ x ∈ w, x.size ≤ 400) (hwl : w.length ≤ 10000) : ∀ (t : List ByteArray) (k : Nat) (p : ByteArray) (s : Nat), w.drop k = t → p.size + t.length ≤ 10000000 → s + 2000 * t.length ≤ 1000000000 →
    packX 0 [2, 7, 8, 9, 10] (loopW (bd E0 (ev E0) loopW 0 [2, 7, 8, 9, 10, 11] L45b0) ⟨[(2, .ptr 0 0 0), (7, st p), (8, i64 s), (9, .sl 1 0 W.length), (10, i64 i), (11, i64 k)], [some (tb ms), some (wb W)]⟩) =
      some (.ext 2, ⟨[(2, .ptr 0 0 0), (7, st (p ++ mkB (lby (t.map (nf ms))))), (8, i64 ((s + sumN (nd ms) t : Nat) : Int)), (9, .sl 1 0 W.length), (10, i64 i)], [some (tb ms), some (wb W)]⟩) := by
  have hg := wb_at hi hiw
  have hg2 : ∀ h, (W.map wd)[i]'h = .lst 1 (w.map st) := fun h => (List.getElem?_eq_some_iff.1 hg).2
  have hi2 : (i : Int) < (W.length : Int) := by omega
  unfold tb wb
  intro t
  induction t with
  | nil =>
    intro k p s h _ _
    have hk := not_drop h
    have hk2 : ¬ (k : Int) < (w.length : Int) := by omega
    rw [List.map_nil, lby_nil, show s + sumN (nd ms) [] = s from rfl, loopW_eq]
    generalize loopW (bd E0 (ev E0) loopW 0 [2, 7, 8, 9, 10, 11] L45b0) = K
    simp -implicitDefEqProofs [bd, L45b0, hk, hk2, hi, hi2, hg, hg2]
  | cons m t ih =>
    intro k p s h hp hs
    obtain ⟨hk, hx, hd, hmem⟩ := at_drop h
    rw [List.length_cons] at hp hs
    have hzm := hw m hmem
    obtain ⟨l, hn, hlt, hds, _⟩ := nr_eq ms hne m
    have hb := ds_b (a := mk_ ms (nf ms m)) (b := m) (by have := mk_sz hz (nf ms m); omega) (by omega)
    have z1 : (lt1 (nf ms m)).size = 1 := rfl
    have hih := ih (k + 1) (p ++ lt1 (nf ms m)) (s + nd ms m) hd (by rw [ByteArray.size_append]; omega) (by omega)
    rw [cs1, lby_cons, show s + nd ms m + sumN (nd ms) t = s + sumN (nd ms) (m :: t) by rw [sumN]; omega, ← List.map_cons] at hih
    have hnr := near_s ms (by omega) hz m hzm
    rw [hn] at hnr
    unfold ib at hnr
    dsimp only at hnr
    have hnc : ns (nf ms m :: l) = i64 (nf ms m : Int) :: ns l := rfl
    rw [hnc, List.length_cons] at hnr
    have hlt1 := letterText_s (nf ms m) (by omega)
    have hnll := ns_len l
    have htl : List.take l.length (ns l) = ns l := List.take_of_length_le (by omega)
    have hk2 : (k : Int) < (w.length : Int) := by omega
    have hgk := get_mk0 hk hx
    have hgk2 : ∀ h, (w.map st)[k]'h = st m := fun h => (List.getElem?_eq_some_iff.1 hgk).2
    have hww : IntKind.i64.wrap ((k : Int) + 1) = (k : Int) + 1 := wr64 (by omega) (by omega)
    have hws : IntKind.i64.wrap ((s : Int) + (nd ms m : Int)) = ((s + nd ms m : Nat) : Int) := by rw [wr64 (by omega) (by omega)]; omega
    have hsz : p.size + (lt1 (nf ms m)).size ≤ 9223372036854775807 := by omega
    rw [loopW_eq]
    clear ih hn hds
    generalize loopW (bd E0 (ev E0) loopW 0 [2, 7, 8, 9, 10, 11] L45b0) = K at hih ⊢
    generalize p ++ mkB (lby (List.map (nf ms) (m :: t))) = R at hih ⊢
    generalize s + sumN (nd ms) (m :: t) = Q at hih ⊢
    generalize nd ms m = dm at *
    generalize lt1 (nf ms m) = lm1 at *
    generalize nf ms m = k0 at *
    simpa -implicitDefEqProofs [bd, L45b0, -Int.natCast_add, -ByteArray.size_append, hk, hk2, hi, hi2, hg, hg2, hgk, hgk2, hnr, hnll, htl, hlt1, hww, hws, hsz] using hih
/-- The words behind a text: the first one with nothing ahead of it. -/
def tlW (i : Nat) (ws : List (List UInt8)) : List UInt8 := if i = 0 then Lib.join ws [32] else Lib.joinTail [32] ws
def bws (f : ByteArray → Nat) (W : List (List ByteArray)) : List (List UInt8) := W.map fun w => lby (w.map f)
theorem tlW_nil (i : Nat) : tlW i [] = [] := by unfold tlW; split <;> rfl
theorem tlW_zero (w : List UInt8) (r : List (List UInt8)) : tlW 0 (w :: r) = w ++ tlW 1 r := by
  unfold tlW
  rw [if_pos rfl, if_neg (by decide), Lib.join_cons]
theorem tlW_succ (i : Nat) (w : List UInt8) (r : List (List UInt8)) : tlW (i + 1) (w :: r) = [32] ++ w ++ tlW (i + 2) r := by
  unfold tlW
  rw [if_neg (by omega), if_neg (by omega)]
  simp [Lib.joinTail]
theorem readS1 (ms : List ByteArray) (hm : ms.length ≤ 100) (hne : 1 ≤ ms.length) (hz : ∀ m ∈ ms, m.size ≤ 400) (W : List (List ByteArray)) (hW : W.length ≤ 1000) (hwl : ∀ w ∈ W, w.length ≤ 100) (hw : ∀ w ∈ W, ∀ x ∈ w, x.size ≤ 400) : ∀ (t : List (List ByteArray)) (i : Nat) (p : ByteArray) (s : Nat), W.drop i = t → p.size ≤ i * 101 → s ≤ i * 200000 →
    packX 0 [7, 8] (loopW (bd E0 (ev E0) loopW 0 [2, 7, 8, 9, 10] L45b1) ⟨[(2, .ptr 0 0 0), (7, st p), (8, i64 s), (9, .sl 1 0 W.length), (10, i64 i)], [some (tb ms), some (wb W)]⟩) =
      some (.ext 0, ⟨[(7, st (p ++ mkB (tlW i (bws (nf ms) t)))), (8, i64 ((s + sumW (nd ms) t : Nat) : Int))], []⟩) := by
  intro t
  induction t with
  | nil =>
    intro i p s h _ _
    have hi := not_drop h
    have hi2 : ¬ (i : Int) < (W.length : Int) := by omega
    have he : p ++ mkB (tlW i (bws (nf ms) [])) = p := B_inj (by rw [B_append, B_mkB, show bws (nf ms) [] = [] from rfl, tlW_nil, List.append_nil])
    rw [show s + sumW (nd ms) [] = s from rfl, he, loopW_eq]
    unfold tb wb
    generalize loopW (bd E0 (ev E0) loopW 0 [2, 7, 8, 9, 10] L45b1) = K
    unfold bd
    simp -implicitDefEqProofs [L45b1, hi, hi2]
  | cons w t ih =>
    intro i p s h hp hs
    obtain ⟨hi, hx, hd, hmem⟩ := at_drop h
    have hl := hwl w hmem
    have hxs := hw w hmem
    have hsl := sumN_le (f := nd ms) (t := w) (fun m hm' => nd_le ms hne hz m (hxs m hm'))
    have hi2 : (i : Int) < (W.length : Int) := by omega
    have hww : IntKind.i64.wrap ((i : Int) + 1) = (i : Int) + 1 := wr64 (by omega) (by omega)
    have hib : i * 101 ≤ 101000 := by omega
    have o1 : (⟨#[32]⟩ : ByteArray).size = 1 := rfl
    have hlb : (mkB (lby (w.map (nf ms)))).size = w.length := by rw [mkB_size]; simp [lby]
    have hsum : s + sumN (nd ms) w + sumW (nd ms) t = s + sumW (nd ms) (w :: t) := by rw [sumW]; omega
    have hmul : (i + 1) * 101 = i * 101 + 101 := by omega
    rw [loopW_eq]
    by_cases h0 : i = 0
    · subst h0
      have hin := readS0 ms hm hne hz W 0 w hi hx hxs (by omega) w 0 p s rfl (by omega) (by omega)
      have hih := ih 1 (p ++ mkB (lby (w.map (nf ms)))) (s + sumN (nd ms) w) hd (by rw [ByteArray.size_append]; omega) (by omega)
      have he : p ++ mkB (lby (w.map (nf ms))) ++ mkB (tlW 1 (bws (nf ms) t)) = p ++ mkB (tlW 0 (bws (nf ms) (w :: t))) := B_inj (by
        rw [B_append, B_append, B_append, B_mkB, B_mkB, B_mkB, show bws (nf ms) (w :: t) = lby (w.map (nf ms)) :: bws (nf ms) t from rfl, tlW_zero, List.append_assoc])
      rw [he, hsum] at hih
      rw [c0] at hin ⊢
      rw [show ((1 : Nat) : Int) = 1 from rfl] at hih
      clear ih
      generalize loopW (bd E0 (ev E0) loopW 0 [2, 7, 8, 9, 10] L45b1) = K at hih ⊢
      generalize p ++ mkB (tlW 0 (bws (nf ms) (w :: t))) = R at hih ⊢
      generalize s + sumW (nd ms) (w :: t) = Q at hih ⊢
      generalize s + sumN (nd ms) w = Q1 at *
      generalize p ++ mkB (lby (w.map (nf ms))) = R1 at *
      unfold tb wb at hin hih ⊢
      have hw0 : IntKind.i64.wrap 1 = 1 := rfl
      have hi3 : (0 : Int) < (W.length : Int) := by omega
      unfold bd
      simpa -implicitDefEqProofs [L45b1, hi, hi3, hin, hw0] using hih
    · obtain ⟨j, rfl⟩ : ∃ j, i = j + 1 := ⟨i - 1, by omega⟩
      have hin := readS0 ms hm hne hz W (j + 1) w hi hx hxs (by omega) w 0 (p ++ ⟨#[32]⟩) s rfl (by rw [ByteArray.size_append]; omega) (by omega)
      have hih := ih (j + 1 + 1) (p ++ ⟨#[32]⟩ ++ mkB (lby (w.map (nf ms)))) (s + sumN (nd ms) w) hd (by rw [ByteArray.size_append, ByteArray.size_append]; omega) (by omega)
      have he : p ++ ⟨#[32]⟩ ++ mkB (lby (w.map (nf ms))) ++ mkB (tlW (j + 1 + 1) (bws (nf ms) t)) = p ++ mkB (tlW (j + 1) (bws (nf ms) (w :: t))) := B_inj (by
        rw [B_append, B_append, B_append, B_append, B_mkB, B_mkB, B_mkB, show bws (nf ms) (w :: t) = lby (w.map (nf ms)) :: bws (nf ms) t from rfl, tlW_succ, show B (⟨#[32]⟩ : ByteArray) = [32] from rfl]
        simp only [List.append_assoc])
      rw [he, hsum, cs1 (j + 1)] at hih
      rw [c0] at hin
      have hp0 : (0 : Int) < ((j + 1 : Nat) : Int) := by omega
      have hp1 : p.size + (⟨#[32]⟩ : ByteArray).size ≤ 9223372036854775807 := by omega
      clear ih
      generalize loopW (bd E0 (ev E0) loopW 0 [2, 7, 8, 9, 10] L45b1) = K at hih ⊢
      generalize p ++ mkB (tlW (j + 1) (bws (nf ms) (w :: t))) = R at hih ⊢
      generalize s + sumW (nd ms) (w :: t) = Q at hih ⊢
      generalize s + sumN (nd ms) w = Q1 at *
      generalize p ++ ⟨#[32]⟩ ++ mkB (lby (w.map (nf ms))) = R1 at *
      generalize hjj : j + 1 = jj at *
      unfold tb wb at hin hih ⊢
      have hp2 : 0 < jj := by omega
      unfold bd
      simpa -implicitDefEqProofs [L45b1, -ByteArray.size_append, hi, hi2, hp0, hp1, hp2, hin, hww] using hih
end Go.Proofs.YtodcochnciadjaaDoor.Ev
