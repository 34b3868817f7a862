/- The loops of the law on mistaken letters. -/
import Derived.Test.YtgecnbafmlecjaaGreatDoorEvMMa
import Derived.Test.YtgecnbafmlecjaaGreatDoorEvMwD
import Derived.Test.YtgecnbafmlecjaaGreatDoorEvCut
import Derived.Test.YtgecnbafmlecjaaGreatDoorEvE1
set_option linter.unusedVariables false
set_option linter.unusedSimpArgs false
set_option maxHeartbeats 2000000
namespace Go.Proofs.YtgecnbafmlecjaaGreatDoor.Ev
open Fr Nz Mw Dr
theorem two_vp (a b n : Nat) (hn : 0 < n) (hnb : n ≤ 1000000000000) (ha : a ≤ 10000000000000) (hb : b ≤ 10000000000000) : ev E1 21 [pr (cut a n), pr (cut b n)] [] = some (pr (cut (a + b) n), []) := by
  rw [g21]
  exact frz_to rfl (vplusK a b n hn hnb ha hb) (by simp [pr]) (by simp [pr])
theorem two_vp01 (p q : Nat) (hq : 0 < q) (hp : p ≤ 10000000000000) (hqb : q ≤ 10000000000000) : ev E1 21 [pr (0, 1), pr (p, q)] [] = some (pr (cut p q), []) := by
  rw [g21]
  exact frz_to rfl (vplus01 p q hq hp hqb) (by simp [pr]) (by simp [pr])
theorem two_cr (ms : List ByteArray) (hm : ms.length ≤ 100) (hs : ∀ x ∈ ms, x.size ≤ 1000) (n d : Nat) (k : Nat) (h1 : okNy ms n d = true) (h2 : k < ms.length) : ev E1 20 [.agg [.lst 1 (ms.map st)], .agg [i64 (n : Int), i64 (d : Int)], i64 (k : Int), i64 (k : Int)] [] = some (.tup [pr (cut (wh n d (B (mk_ ms k)) (B (mk_ ms k))) (d ^ 5)), bl true], []) := by
  have e := chanceRead_i ms hm hs n d k k
  have hr : inR ms.length (k : Int) = true := by unfold inR; rw [decide_eq_true (by omega), decide_eq_true (by omega)]; rfl
  rw [h1, hr] at e
  rw [g20]
  exact frz_to rfl e (by simp [nzA]) (by simp [pr, rowF, nz1, jth, mk_])
theorem two_mo (ms : List ByteArray) (hm : ms.length ≤ 100) (hs : ∀ x ∈ ms, x.size ≤ 1000) (k : Nat) (h1 : okTable ms = true) (h2 : k < ms.length) : ev E1 19 [.agg [.lst 1 (ms.map st)], i64 (k : Int)] [] = some (.tup [st (mk_ ms k), bl true], []) := by
  have e := marksOf_n ms hm hs k
  have hr : inR ms.length (k : Int) = true := by unfold inR; rw [decide_eq_true (by omega), decide_eq_true (by omega)]; rfl
  rw [h1, hr] at e
  rw [g19]
  exact frz_to rfl e (by simp) (by simp [jth, mk_])
theorem all_loop (ms : List ByteArray) (n d : Nat) (hd : d ≤ 100) (w f r s : Nat × Nat) (th : Bool) : ∀ (k i : Nat), i + k = 5 →
    packX 0 [3, 4, 6, 10, 14, 15, 35, 39] (loopW (bd E1 (ev E1) loopW 0 [3, 4, 6, 10, 14, 15, 35, 39, 40] L3b3) ⟨[(3, .ptr 0 0 0), (4, .ptr 1 0 0), (6, .ptr 2 0 0), (10, .ptr 3 0 0), (14, .ptr 4 0 0), (15, bl th), (35, .ptr 5 0 0), (39, i64 ((d ^ i : Nat) : Int)), (40, i64 i)], [some ⟨26, 1, 0, false, [.agg [.lst 1 (ms.map st)]]⟩, some ⟨28, 2, 0, false, [.agg [i64 (n : Int), i64 (d : Int)]]⟩, some ⟨31, 2, 0, false, [pr w]⟩, some ⟨31, 2, 0, false, [pr f]⟩, some ⟨31, 2, 0, false, [pr r]⟩, some ⟨31, 2, 0, false, [pr s]⟩]⟩) = some (.ext 6, ⟨[(3, .ptr 0 0 0), (4, .ptr 1 0 0), (6, .ptr 2 0 0), (10, .ptr 3 0 0), (14, .ptr 4 0 0), (15, bl th), (35, .ptr 5 0 0), (39, i64 ((d ^ 5 : Nat) : Int))], [some ⟨26, 1, 0, false, [.agg [.lst 1 (ms.map st)]]⟩, some ⟨28, 2, 0, false, [.agg [i64 (n : Int), i64 (d : Int)]]⟩, some ⟨31, 2, 0, false, [pr w]⟩, some ⟨31, 2, 0, false, [pr f]⟩, some ⟨31, 2, 0, false, [pr r]⟩, some ⟨31, 2, 0, false, [pr s]⟩]⟩) := by
  have hfr := free_st ms
  intro k
  induction k with
  | zero =>
    intro i h
    obtain rfl : i = 5 := by omega
    rw [loopW_eq]
    unfold pr
    generalize ms.map st = Q at *
    generalize loopW (bd E1 (ev E1) loopW 0 [3, 4, 6, 10, 14, 15, 35, 39, 40] L3b3) = K
    simp -implicitDefEqProofs [bd, L3b3, hfr]
  | succ k ih =>
    intro i h
    have hih := ih (i + 1) (by omega)
    have hi : (i : Int) < 5 := by omega
    have hi2 : i < 5 := by omega
    have hw : IntKind.i64.wrap ((i : Int) + 1) = (i : Int) + 1 := wr64 (by omega) (by omega)
    have hb := pow_b (x := d) (i := i + 1) hd (by omega)
    have hm : IntKind.i64.wrap (((d ^ i : Nat) : Int) * (d : Int)) = ((d ^ (i + 1) : Nat) : Int) := by
      rw [show ((d ^ i : Nat) : Int) * (d : Int) = ((d ^ (i + 1) : Nat) : Int) from rfl]
      exact wrN (by omega)
    rw [cs1] at hih
    rw [loopW_eq]
    unfold pr at *
    clear ih
    generalize ((d ^ (i + 1) : Nat) : Int) = D1 at *
    generalize ((d ^ i : Nat) : Int) = D0 at *
    generalize ((d ^ 5 : Nat) : Int) = D5 at *
    generalize ms.map st = Q at *
    generalize loopW (bd E1 (ev E1) loopW 0 [3, 4, 6, 10, 14, 15, 35, 39, 40] L3b3) = K at hih ⊢
    simpa -implicitDefEqProofs [bd, L3b3, hi, hi2, hw, hm, hfr] using hih
theorem right_loop (ms : List ByteArray) (hm : ms.length ≤ 100) (n d : Nat) (hn : n ≤ d) (hd : d ≤ 100) (hd0 : 1 ≤ d) (ho : okNy ms n d = true) (hz : ∀ m ∈ ms, m.size ≤ 5) (r : Nat × Nat) : ∀ (t : List ByteArray) (i s : Nat), ms.drop i = t → s ≤ i * 10000000000 →
    packX 0 [2, 3, 14, 41] (loopW (bd E1 (ev E1) loopW 0 [3, 4, 14, 41, 42] L3b4) ⟨[(3, .ptr 0 0 0), (4, .ptr 1 0 0), (14, .ptr 2 0 0), (41, .ptr 3 0 0), (42, i64 i)], [some ⟨26, 1, 0, false, [.agg [.lst 1 (ms.map st)]]⟩, some ⟨28, 2, 0, false, [.agg [i64 (n : Int), i64 (d : Int)]]⟩, some ⟨31, 2, 0, false, [pr r]⟩, some ⟨31, 2, 0, false, [pr (cut s (d ^ 5))]⟩]⟩) = some (.ext 8, ⟨[(3, .ptr 0 0 0), (14, .ptr 1 0 0), (41, .ptr 2 0 0)], [some ⟨26, 1, 0, false, [.agg [.lst 1 (ms.map st)]]⟩, some ⟨31, 2, 0, false, [pr r]⟩, some ⟨31, 2, 0, false, [pr (cut (s + rgL n d t) (d ^ 5))]⟩]⟩) := by
  have hN : d ^ 5 ≤ 10000000000 := pow_b hd (Nat.le_refl _)
  have hN0 : 0 < d ^ 5 := Nat.pow_pos (by omega)
  have hfr := free_st ms
  have hQ : (ms.map st).length = ms.length := List.length_map _
  intro t
  induction t with
  | nil =>
    intro i s h _
    have hi := not_drop h
    have hii : ¬ (i : Int) < (ms.length : Int) := by omega
    rw [show s + rgL n d [] = s from Nat.add_zero _, loopW_eq]
    unfold pr
    generalize ms.map st = Q at *
    generalize loopW (bd E1 (ev E1) loopW 0 [3, 4, 14, 41, 42] L3b4) = K
    simp -implicitDefEqProofs [bd, L3b4, hi, hii, hQ, hfr]
  | cons c t ih =>
    intro i s h hs
    obtain ⟨hi, hx, hdr, hmem⟩ := at_drop h
    have hii : (i : Int) < (ms.length : Int) := by omega
    have hmk : c.size ≤ 5 := hz c hmem
    have hwh := wh_le n d hn (B c) (B c) (by rw [B_len]; exact hmk)
    have hw : IntKind.i64.wrap ((i : Int) + 1) = (i : Int) + 1 := wr64 (by omega) (by omega)
    have hih := ih (i + 1) (s + wh n d (B c) (B c)) hdr (by omega)
    have e1 := two_cr ms hm (fun x hx => Nat.le_trans (hz x hx) (by decide)) n d i ho hi
    rw [show mk_ ms i = c by rw [← mk_at hi]; exact hx] at e1
    have e2 := two_vp s (wh n d (B c) (B c)) (d ^ 5) hN0 (by omega) (by omega) (by omega)
    rw [show s + rgL n d (c :: t) = s + wh n d (B c) (B c) + rgL n d t by rw [rgL, Nat.add_assoc], loopW_eq]
    rw [cs1] at hih
    clear ih h hdr hmk hwh hs hx hmem
    generalize cut (s + wh n d (B c) (B c) + rgL n d t) (d ^ 5) = c3 at *
    generalize cut (s + wh n d (B c) (B c)) (d ^ 5) = c2 at *
    generalize cut (wh n d (B c) (B c)) (d ^ 5) = c1 at *
    generalize cut s (d ^ 5) = c0 at *
    unfold pr at *
    generalize ms.map st = Q at *
    generalize loopW (bd E1 (ev E1) loopW 0 [3, 4, 14, 41, 42] L3b4) = K at hih ⊢
    simpa -implicitDefEqProofs [bd, L3b4, hi, hii, hw, e1, e2, hQ, hfr] using hih
theorem wrong_loop (ms : List ByteArray) (hm : ms.length ≤ 100) (n d : Nat) (hn : n ≤ d) (hd : d ≤ 100) (hd0 : 1 ≤ d) (ho : okNy ms n d = true) (hz : ∀ m ∈ ms, m.size ≤ 5) (m : ByteArray) (hms : m.size ≤ 100) (w f r : Nat × Nat) (th : Bool) : ∀ (t : List UInt8) (i s : Nat), (B m).drop i = t → msgL ms.length m t i = true → s ≤ i * 10000000000 →
    packX 0 [2, 3, 4, 6, 10, 14, 15, 35] (loopW (bd E1 (ev E1) loopW 0 [3, 4, 5, 6, 10, 14, 15, 35, 36] L3b2) ⟨[(3, .ptr 0 0 0), (4, .ptr 1 0 0), (5, st m), (6, .ptr 2 0 0), (10, .ptr 3 0 0), (14, .ptr 4 0 0), (15, bl th), (35, .ptr 5 0 0), (36, i64 i)], [some ⟨26, 1, 0, false, [.agg [.lst 1 (ms.map st)]]⟩, some ⟨28, 2, 0, false, [.agg [i64 (n : Int), i64 (d : Int)]]⟩, some ⟨31, 2, 0, false, [pr w]⟩, some ⟨31, 2, 0, false, [pr f]⟩, some ⟨31, 2, 0, false, [pr r]⟩, some ⟨31, 2, 0, false, [pr (cut s (d ^ 5))]⟩]⟩) = some (.ext 4, ⟨[(3, .ptr 0 0 0), (4, .ptr 1 0 0), (6, .ptr 2 0 0), (10, .ptr 3 0 0), (14, .ptr 4 0 0), (15, bl th), (35, .ptr 5 0 0)], [some ⟨26, 1, 0, false, [.agg [.lst 1 (ms.map st)]]⟩, some ⟨28, 2, 0, false, [.agg [i64 (n : Int), i64 (d : Int)]]⟩, some ⟨31, 2, 0, false, [pr w]⟩, some ⟨31, 2, 0, false, [pr f]⟩, some ⟨31, 2, 0, false, [pr r]⟩, some ⟨31, 2, 0, false, [pr (cut (s + wrL n d ms t) (d ^ 5))]⟩]⟩) := by
  have hN : d ^ 5 ≤ 10000000000 := pow_b hd (Nat.le_refl _)
  have hN0 : 0 < d ^ 5 := Nat.pow_pos (by omega)
  have hfr := free_st ms
  have hQ : (ms.map st).length = ms.length := List.length_map _
  intro t
  induction t with
  | nil =>
    intro i s h _ _
    have hi := byte_end h
    rw [show s + wrL n d ms [] = s from Nat.add_zero _, loopW_eq]
    have hi4 : ¬ (i : Int) < (m.size : Int) := by omega
    unfold pr
    generalize ms.map st = Q at *
    generalize loopW (bd E1 (ev E1) loopW 0 [3, 4, 5, 6, 10, 14, 15, 35, 36] L3b2) = K
    simp -implicitDefEqProofs [bd, L3b2, hi, hi4, hQ, hfr]
  | cons c t ih =>
    intro i s h hv hz2
    obtain ⟨hi, hx, hdr⟩ := byte_at h
    rw [msgL, Bool.and_eq_true] at hv
    have hi2 : (i : Int) < (m.size : Int) := by omega
    have hg0 : ∀ h, m.data[i]'h = c := by
      intro _
      have hi2 : i < m.data.toList.length := by simpa using hi
      rw [List.getD_eq_getElem?_getD, List.getElem?_eq_getElem hi2, Option.getD_some] at hx
      exact hx
    have hw : IntKind.i64.wrap ((i : Int) + 1) = (i : Int) + 1 := wr64 (by omega) (by omega)
    by_cases hc : c.toNat = 32
    · have hih := ih (i + 1) s hdr hv.2 (Nat.le_trans hz2 (Nat.mul_le_mul_right _ (Nat.le_succ i)))
      have hci : (c.toNat : Int) = 32 := by omega
      rw [show s + wrL n d ms (c :: t) = s + wrL n d ms t by rw [wrL, if_pos hc, Nat.zero_add], loopW_eq]
      rw [cs1] at hih
      clear ih
      generalize cut (s + wrL n d ms t) (d ^ 5) = c3 at *
      generalize cut s (d ^ 5) = c0 at *
      unfold pr at *
      generalize ms.map st = Q at *
      generalize loopW (bd E1 (ev E1) loopW 0 [3, 4, 5, 6, 10, 14, 15, 35, 36] L3b2) = K at hih ⊢
      simpa -implicitDefEqProofs [bd, L3b2, hi, hi2, hx, hg0, hw, hc, hci, hQ, hfr] using hih
    · have hch := hv.1
      unfold chOk at hch
      rw [if_neg hc] at hch
      simp only [Bool.and_eq_true, decide_eq_true_eq] at hch
      have hnn : c.toNat - 97 < ms.length := by omega
      have hmk : (mB ms c).size ≤ 5 := by unfold mB mk_; exact getD_sz hz _
      have hwh := wh_le n d hn (B (mB ms c)) (B (mB ms c)) (by rw [B_len]; exact hmk)
      have hih := ih (i + 1) (s + (d ^ 5 - wh n d (B (mB ms c)) (B (mB ms c)))) hdr hv.2 (by omega)
      have hci : ¬ (c.toNat : Int) = 32 := by omega
      have hwc : IntKind.i64.wrap (c.toNat : Int) = (c.toNat : Int) := wr64 (by omega) (by have := UInt8.toNat_lt c; omega)
      have hwd : IntKind.i64.wrap ((c.toNat : Int) - 97) = ((c.toNat - 97 : Nat) : Int) := by rw [wr64 (by omega) (by have := UInt8.toNat_lt c; omega)]; omega
      have e1 := two_cr ms hm (fun x hx => Nat.le_trans (hz x hx) (by decide)) n d (c.toNat - 97) ho hnn
      rw [show mk_ ms (c.toNat - 97) = mB ms c from rfl] at e1
      have e2 := two_vp s (d ^ 5 - wh n d (B (mB ms c)) (B (mB ms c))) (d ^ 5) hN0 (by omega) (by omega) (by omega)
      have hfl := cut_flip (wh n d (B (mB ms c)) (B (mB ms c))) (d ^ 5) hN0 hwh
      have hq1 := cut_le1 (wh n d (B (mB ms c)) (B (mB ms c))) (d ^ 5) hN0 hwh
      have hq2 := cut_le (wh n d (B (mB ms c)) (B (mB ms c))) (d ^ 5) hN0
      rw [← hfl] at e2
      rw [show s + wrL n d ms (c :: t) = s + (d ^ 5 - wh n d (B (mB ms c)) (B (mB ms c))) + wrL n d ms t by rw [wrL, if_neg hc, Nat.add_assoc], loopW_eq]
      rw [cs1] at hih
      clear ih h hdr hv hmk hwh hz2 hfl
      generalize cut (s + (d ^ 5 - wh n d (B (mB ms c)) (B (mB ms c))) + wrL n d ms t) (d ^ 5) = c3 at *
      generalize cut (s + (d ^ 5 - wh n d (B (mB ms c)) (B (mB ms c)))) (d ^ 5) = c2 at *
      generalize cut (wh n d (B (mB ms c)) (B (mB ms c))) (d ^ 5) = c1 at *
      generalize cut s (d ^ 5) = c0 at *
      have hsb : IntKind.i64.wrap ((c1.2 : Int) - (c1.1 : Int)) = ((c1.2 - c1.1 : Nat) : Int) := by rw [wr64 (by omega) (by omega)]; omega
      unfold pr at *
      simp only at e2
      generalize ((c1.2 - c1.1 : Nat) : Int) = u at *
      generalize ms.map st = Q at *
      generalize loopW (bd E1 (ev E1) loopW 0 [3, 4, 5, 6, 10, 14, 15, 35, 36] L3b2) = K at hih ⊢
      simpa -implicitDefEqProofs [bd, L3b2, hi, hi2, hx, hg0, hw, hc, hci, hwc, hwd, e1, e2, hsb, hQ, hfr] using hih
end Go.Proofs.YtgecnbafmlecjaaGreatDoor.Ev

namespace Go.Proofs.YtgecnbafmlecjaaGreatDoor.Ev
open Fr Nz Mw Dr
theorem diff_loop (ms us : List ByteArray) (x y : Int) (w f r : Nat × Nat) (ok th : Bool) (m : ByteArray) (D L : Nat) (C : List (Nat × Nat)) (i : Nat) (a b : ByteArray) (hl : a.size = b.size) (hs : a.size ≤ 1000) : ∀ (t u : List UInt8) (k d : Nat), (B a).drop k = t → (B b).drop k = u → d ≤ k →
    packX 0 [3, 4, 5, 6, 7, 10, 14, 15, 18, 19, 20, 24, 28, 33] (loopW (bd E1 (ev E1) loopW 0 [3, 4, 5, 6, 7, 10, 14, 15, 18, 19, 20, 24, 28, 29, 31, 33, 34] L3b0) ⟨[(3, .ptr 0 0 0), (4, .ptr 1 0 0), (5, st m), (6, .ptr 2 0 0), (7, bl ok), (10, .ptr 3 0 0), (14, .ptr 4 0 0), (15, bl th), (18, .ptr 5 0 0), (19, i64 (D : Int)), (20, .lst 2 (C.map pr)), (24, i64 (L : Int)), (28, i64 i), (29, st a), (31, st b), (33, i64 d), (34, i64 k)], [some ⟨26, 1, 0, false, [.agg [.lst 1 (ms.map st)]]⟩, some ⟨28, 2, 0, false, [.agg [i64 x, i64 y]]⟩, some ⟨31, 2, 0, false, [pr w]⟩, some ⟨31, 2, 0, false, [pr f]⟩, some ⟨31, 2, 0, false, [pr r]⟩, some ⟨26, 1, 0, false, [.agg [.lst 1 (us.map st)]]⟩]⟩) = some (.ext 2, ⟨[(3, .ptr 0 0 0), (4, .ptr 1 0 0), (5, st m), (6, .ptr 2 0 0), (7, bl ok), (10, .ptr 3 0 0), (14, .ptr 4 0 0), (15, bl th), (18, .ptr 5 0 0), (19, i64 (D : Int)), (20, .lst 2 (C.map pr)), (24, i64 (L : Int)), (28, i64 i), (33, i64 ((d + ap t u : Nat) : Int))], [some ⟨26, 1, 0, false, [.agg [.lst 1 (ms.map st)]]⟩, some ⟨28, 2, 0, false, [.agg [i64 x, i64 y]]⟩, some ⟨31, 2, 0, false, [pr w]⟩, some ⟨31, 2, 0, false, [pr f]⟩, some ⟨31, 2, 0, false, [pr r]⟩, some ⟨26, 1, 0, false, [.agg [.lst 1 (us.map st)]]⟩]⟩) := by
  have hf1 := free_st ms
  have hf2 := free_st us
  have hf3 := free_pr C
  intro t
  induction t with
  | nil =>
    intro u k d h1 h2 hd
    have hi := byte_end h1
    have hi2 : ¬ (k : Int) < (a.size : Int) := by omega
    have e : d + ap [] u = d := by cases u <;> rfl
    rw [e, loopW_eq]
    clear h1 h2
    generalize ms.map st = Q1 at *
    generalize us.map st = Q2 at *
    generalize C.map pr = Q3 at *
    unfold pr at *
    generalize loopW (bd E1 (ev E1) loopW 0 [3, 4, 5, 6, 7, 10, 14, 15, 18, 19, 20, 24, 28, 29, 31, 33, 34] L3b0) = K
    simp -implicitDefEqProofs [bd, L3b0, hi, hi2, hf1, hf2, hf3]
  | cons z t ih =>
    intro u k d h1 h2 hd
    obtain ⟨hi, hx, ht⟩ := byte_at h1
    match u, h2 with
    | [], h2 => have := byte_end h2; omega
    | v :: u, h2 =>
      obtain ⟨hj, hy, hu⟩ := byte_at h2
      have hi2 : (k : Int) < (a.size : Int) := by omega
      have hj2 : (k : Int) < (b.size : Int) := by omega
      have hw : IntKind.i64.wrap ((k : Int) + 1) = (k : Int) + 1 := wr64 (by omega) (by omega)
      have hwd : IntKind.i64.wrap ((d : Int) + 1) = (d : Int) + 1 := wr64 (by omega) (by omega)
      rw [ap, loopW_eq]
      by_cases hxy : z = v
      · subst hxy
        have hih := ih u (k + 1) d ht hu (by omega)
        rw [cs1] at hih
        rw [if_pos rfl, Nat.zero_add]
        clear ih h1 h2
        generalize ((d + ap t u : Nat) : Int) = R at hih ⊢
        generalize ms.map st = Q1 at *
        generalize us.map st = Q2 at *
        generalize C.map pr = Q3 at *
        unfold pr at *
        generalize loopW (bd E1 (ev E1) loopW 0 [3, 4, 5, 6, 7, 10, 14, 15, 18, 19, 20, 24, 28, 29, 31, 33, 34] L3b0) = K at hih ⊢
        simpa -implicitDefEqProofs [bd, L3b0, hi, hi2, hj, hj2, -List.getD_eq_getElem?_getD, hx, hy, hw, hf1, hf2, hf3] using hih
      · have hih := ih u (k + 1) (d + 1) ht hu (by omega)
        have hne : ¬ (z.toNat : Int) = (v.toNat : Int) := fun e => hxy (UInt8.toNat_inj.1 (by omega))
        have hne2 : ¬ z.toNat = v.toNat := fun e => hxy (UInt8.toNat_inj.1 e)
        rw [cs1, cs1] at hih
        rw [if_neg hxy, ← Nat.add_assoc]
        clear ih h1 h2
        generalize ((d + 1 + ap t u : Nat) : Int) = R at hih ⊢
        generalize ms.map st = Q1 at *
        generalize us.map st = Q2 at *
        generalize C.map pr = Q3 at *
        unfold pr at *
        generalize loopW (bd E1 (ev E1) loopW 0 [3, 4, 5, 6, 7, 10, 14, 15, 18, 19, 20, 24, 28, 29, 31, 33, 34] L3b0) = K at hih ⊢
        simpa -implicitDefEqProofs [bd, L3b0, hi, hi2, hj, hj2, -List.getD_eq_getElem?_getD, hx, hy, hw, hwd, hne, hne2, hf1, hf2, hf3] using hih
theorem pairs_loop (ms us : List ByteArray) (x y : Int) (w f r : Nat × Nat) (ok th : Bool) (m : ByteArray) (D L : Nat) (C : List (Nat × Nat)) (hC : C.length ≤ 100000) (hm : us.length ≤ 100) (hz : ∀ m ∈ us, m.size ≤ 1000) (ho : okTable us = true) : ∀ (t : List (Nat × Nat)) (i : Nat), C.drop i = t → (∀ p ∈ t, p.1 < us.length ∧ p.2 < us.length ∧ (mk_ us p.1).size = (mk_ us p.2).size ∧ L ≤ ap (B (mk_ us p.1)) (B (mk_ us p.2)) ∧ ap (B (mk_ us p.1)) (B (mk_ us p.2)) ≤ D) →
    packX 0 [2, 3, 4, 5, 6, 7, 10, 14, 15] (loopW (bd E1 (ev E1) loopW 0 [3, 4, 5, 6, 7, 10, 14, 15, 18, 19, 20, 24, 28] L3b1) ⟨[(3, .ptr 0 0 0), (4, .ptr 1 0 0), (5, st m), (6, .ptr 2 0 0), (7, bl ok), (10, .ptr 3 0 0), (14, .ptr 4 0 0), (15, bl th), (18, .ptr 5 0 0), (19, i64 (D : Int)), (20, .lst 2 (C.map pr)), (24, i64 (L : Int)), (28, i64 i)], [some ⟨26, 1, 0, false, [.agg [.lst 1 (ms.map st)]]⟩, some ⟨28, 2, 0, false, [.agg [i64 x, i64 y]]⟩, some ⟨31, 2, 0, false, [pr w]⟩, some ⟨31, 2, 0, false, [pr f]⟩, some ⟨31, 2, 0, false, [pr r]⟩, some ⟨26, 1, 0, false, [.agg [.lst 1 (us.map st)]]⟩]⟩) = some (.ext 0, ⟨[(3, .ptr 0 0 0), (4, .ptr 1 0 0), (5, st m), (6, .ptr 2 0 0), (7, bl ok), (10, .ptr 3 0 0), (14, .ptr 4 0 0), (15, bl th)], [some ⟨26, 1, 0, false, [.agg [.lst 1 (ms.map st)]]⟩, some ⟨28, 2, 0, false, [.agg [i64 x, i64 y]]⟩, some ⟨31, 2, 0, false, [pr w]⟩, some ⟨31, 2, 0, false, [pr f]⟩, some ⟨31, 2, 0, false, [pr r]⟩]⟩) := by
  have hf1 := free_st ms
  have hf2 := free_st us
  have hf3 := free_pr C
  have hQ3 : (C.map pr).length = C.length := List.length_map _
  intro t
  induction t with
  | nil =>
    intro i h _
    have hi := not_drop h
    have hii : ¬ (i : Int) < (C.length : Int) := by omega
    rw [loopW_eq]
    clear h
    generalize ms.map st = Q1 at *
    generalize us.map st = Q2 at *
    generalize C.map pr = Q3 at *
    unfold pr at *
    generalize loopW (bd E1 (ev E1) loopW 0 [3, 4, 5, 6, 7, 10, 14, 15, 18, 19, 20, 24, 28] L3b1) = K
    unfold bd
    simp -implicitDefEqProofs [L3b1, hi, hii, hf1, hf2, hf3, hQ3]
  | cons p t ih =>
    intro i h hp
    obtain ⟨hi, hx, hdr, hmem⟩ := at_drop h
    obtain ⟨k1, k2, k3, k4, k5⟩ := hp p List.mem_cons_self
    have hih := ih (i + 1) hdr (fun q hq => hp q (List.mem_cons_of_mem _ hq))
    have hii : (i : Int) < (C.length : Int) := by omega
    have hw : IntKind.i64.wrap ((i : Int) + 1) = (i : Int) + 1 := wr64 (by omega) (by omega)
    have g1 : (C.map pr)[i]? = some (.agg [i64 ((p.1 : Nat) : Int), i64 ((p.2 : Nat) : Int)]) := by rw [List.getElem?_map, List.getElem?_eq_getElem hi, hx]; rfl
    have g2 : ∀ h, (C.map pr)[i]'h = .agg [i64 ((p.1 : Nat) : Int), i64 ((p.2 : Nat) : Int)] := fun h => (List.getElem?_eq_some_iff.1 g1).2
    have e1 := two_mo us hm hz p.1 ho k1
    have e2 := two_mo us hm hz p.2 ho k2
    have hza : (mk_ us p.1).size ≤ 1000 := by unfold mk_; exact getD_sz hz _
    have hd := diff_loop ms us x y w f r ok th m D L C i (mk_ us p.1) (mk_ us p.2) k3 hza _ _ 0 0 rfl rfl (Nat.le_refl _)
    rw [Nat.zero_add, c0, List.drop_zero, List.drop_zero] at hd
    have n1 : ¬ ((ap (B (mk_ us p.1)) (B (mk_ us p.2)) : Nat) : Int) < (L : Int) := by omega
    have n2 : ¬ (D : Int) < ((ap (B (mk_ us p.1)) (B (mk_ us p.2)) : Nat) : Int) := by omega
    have s1 : decide ((mk_ us p.1).size = (mk_ us p.2).size) = true := decide_eq_true k3
    rw [cs1] at hih
    rw [loopW_eq]
    clear ih h hp hx hdr hmem k4 k5 hza
    generalize ((ap (B (mk_ us p.1)) (B (mk_ us p.2)) : Nat) : Int) = q at *
    generalize mk_ us p.1 = ma at *
    generalize mk_ us p.2 = mb at *
    generalize ms.map st = Q1 at *
    generalize us.map st = Q2 at *
    generalize C.map pr = Q3 at *
    unfold pr at *
    generalize loopW (bd E1 (ev E1) loopW 0 [3, 4, 5, 6, 7, 10, 14, 15, 18, 19, 20, 24, 28] L3b1) = K at hih ⊢
    unfold bd
    simpa -implicitDefEqProofs [L3b1, hi, hii, hw, g1, g2, e1, e2, hd, n1, n2, k3, hf1, hf2, hf3, hQ3] using hih
theorem two_vcut (x : List Int) (hx : okC x) (hl : x.length ≤ 65536) (n : Nat) (hn : n ≤ 200) : ev E1 13 [.lst 1 (cd x), i64 n] [] = some (.lst 1 (cd (cutD x n)), []) := by
  rw [g13]
  have e1 : List.take (cutD x n).length (cd (cutD x n)) = cd (cutD x n) := List.take_of_length_le (by rw [cd_len]; exact Nat.le_refl _)
  exact frz_to rfl (vcut x hx hl n hn) (by simp) (by simp [e1, cd_len])
theorem two_big (x : List Int) : ev E1 4 [.lst 1 (cd x)] [] = some (bl (decide (65536 < (x.length : Int))), []) := by
  rw [g4]
  exact frz_to rfl (vbig x) (by simp) (by simp)
theorem two_vps (l : List (Nat × Nat)) (hl : l.length ≤ 1000) : ev E1 18 [.lst 2 (l.map pr), .lst 2 (l.map pr)] [] = some (bl true, []) := by
  rw [g18]
  exact frz_to rfl (vpairs l hl) (by simp) (by simp)
theorem two_dMW (x : List Int) (hx : okC x) : ∃ (ms : List ByteArray) (u v : Int) (m : ByteArray), ms.length ≤ 30 ∧ (∀ t ∈ ms, t.size ≤ 20) ∧ m.size ≤ 30 ∧ ev E1 5 [.lst 1 (cd x)] [] = some (.tup [.agg [.lst 1 (ms.map st)], .agg [i64 u, i64 v], st m], []) := by
  obtain ⟨T, H, ms, u, v, m, z1, z2, z3, hT, e⟩ := drawMW x hx
  refine ⟨ms, u, v, m, z1, z2, z3, ?_⟩
  rcases hT with ⟨rfl, rfl, rfl⟩ | ⟨rfl, rfl⟩
  · rw [g5]
    exact frz_to rfl e (by simp) (by simp)
  · have e2 : List.take ms.length (ms.map st) = ms.map st := List.take_of_length_le (by simp)
    unfold tr at e
    rw [g5]
    exact frz_to rfl e (by simp) (by simp [e2])
theorem two_dCP (x : List Int) (hx : okC x) : ∃ (ms : List ByteArray) (d : Int), ms.length ≤ 30 ∧ (∀ t ∈ ms, t.size ≤ 20) ∧ ev E1 12 [.lst 1 (cd x)] [] = some (.tup [.agg [.lst 1 (ms.map st)], i64 d], []) := by
  obtain ⟨T, H, ms, d, z1, z2, hT, _, _, e⟩ := drawCP x hx
  refine ⟨ms, d, z1, z2, ?_⟩
  rcases hT with ⟨rfl, rfl, rfl⟩ | ⟨rfl, rfl⟩
  · rw [g12]
    exact frz_to rfl e (by simp) (by simp)
  · have e2 : List.take ms.length (ms.map st) = ms.map st := List.take_of_length_le (by simp)
    unfold tr at e
    rw [g12]
    exact frz_to rfl e (by simp) (by simp [e2])
theorem two_mw_i (ms : List ByteArray) (hm : ms.length ≤ 100) (hs : ∀ x ∈ ms, x.size ≤ 1000) (a b : Int) (m : ByteArray) (hz : m.size ≤ 1000) : ev E1 6 [.agg [.lst 1 (ms.map st)], .agg [i64 a, i64 b], st m] [] = some (.tup [pr (if okMW ms a b m = true then cut (wrL (nz1 a) (nz1 b) ms (B m)) (nz1 b ^ 5) else (0, 0)), bl (okMW ms a b m)], []) := by
  have e := meanWrong_i ms hm hs a b m hz
  unfold mwV at e
  rw [g6]
  cases ho : okMW ms a b m with
  | false => rw [ho, if_neg (by decide)] at e; exact frz_to rfl e (by simp [nzA]) (by simp [pr])
  | true => rw [ho, if_pos rfl] at e; exact frz_to rfl e (by simp [nzA]) (by simp [pr])
theorem two_mw_s (ms : List ByteArray) (hm : ms.length ≤ 100) (hs : ∀ x ∈ ms, x.size ≤ 1000) (a b : Int) (m : ByteArray) (hz : m.size ≤ 1000) : ev E1 7 [.agg [.lst 1 (ms.map st)], .agg [i64 a, i64 b], st m] [] = some (.tup [pr (if okMW ms a b m = true then cut (wrL (nz1 a) (nz1 b) ms (B m)) (nz1 b ^ 5) else (0, 0)), bl (okMW ms a b m)], []) := by
  have e := meanWrong_s ms hm hs a b m hz
  unfold mwV at e
  rw [g7]
  cases ho : okMW ms a b m with
  | false => rw [ho, if_neg (by decide)] at e; exact frz_to rfl e (by simp [nzA]) (by simp [pr])
  | true => rw [ho, if_pos rfl] at e; exact frz_to rfl e (by simp [nzA]) (by simp [pr])
theorem two_mf_i (ms : List ByteArray) (hm : ms.length ≤ 100) (hs : ∀ x ∈ ms, x.size ≤ 1000) (a b : Int) (m : ByteArray) (hz : m.size ≤ 1000) : ev E1 8 [.agg [.lst 1 (ms.map st)], .agg [i64 a, i64 b], st m] [] = some (.tup [pr (if okMW ms a b m = true then cut ((bareM ms m).size * nz1 a) (nz1 b) else (0, 0)), bl (okMW ms a b m)], []) := by
  have e := meanFlips_i ms hm hs a b m hz
  unfold mfV at e
  rw [g8]
  cases ho : okMW ms a b m with
  | false => rw [ho, if_neg (by decide)] at e; exact frz_to rfl e (by simp [nzA]) (by simp [pr])
  | true => rw [ho, if_pos rfl] at e; exact frz_to rfl e (by simp [nzA]) (by simp [pr])
theorem two_mf_s (ms : List ByteArray) (hm : ms.length ≤ 100) (hs : ∀ x ∈ ms, x.size ≤ 1000) (a b : Int) (m : ByteArray) (hz : m.size ≤ 1000) : ev E1 9 [.agg [.lst 1 (ms.map st)], .agg [i64 a, i64 b], st m] [] = some (.tup [pr (if okMW ms a b m = true then cut ((bareM ms m).size * nz1 a) (nz1 b) else (0, 0)), bl (okMW ms a b m)], []) := by
  have e := meanFlips_s ms hm hs a b m hz
  unfold mfV at e
  rw [g9]
  cases ho : okMW ms a b m with
  | false => rw [ho, if_neg (by decide)] at e; exact frz_to rfl e (by simp [nzA]) (by simp [pr])
  | true => rw [ho, if_pos rfl] at e; exact frz_to rfl e (by simp [nzA]) (by simp [pr])
theorem two_ri_i (ms : List ByteArray) (hm : ms.length ≤ 100) (hs : ∀ x ∈ ms, x.size ≤ 1000) (a b : Int) : ev E1 10 [.agg [.lst 1 (ms.map st)], .agg [i64 a, i64 b]] [] = some (.tup [pr (if okNy ms a b = true then cut (rgL (nz1 a) (nz1 b) ms) (nz1 b ^ 5 * ms.length) else (0, 0)), bl (okNy ms a b)], []) := by
  have e := chanceRight_i ms hm hs a b
  unfold crV at e
  rw [g10]
  cases ho : okNy ms a b with
  | false => rw [ho, if_neg (by decide)] at e; exact frz_to rfl e (by simp [nzA]) (by simp [pr])
  | true => rw [ho, if_pos rfl] at e; exact frz_to rfl e (by simp [nzA]) (by simp [pr])
theorem two_ri_s (ms : List ByteArray) (hm : ms.length ≤ 100) (hs : ∀ x ∈ ms, x.size ≤ 1000) (a b : Int) : ev E1 11 [.agg [.lst 1 (ms.map st)], .agg [i64 a, i64 b]] [] = some (.tup [pr (if okNy ms a b = true then cut (rgL (nz1 a) (nz1 b) ms) (nz1 b ^ 5 * ms.length) else (0, 0)), bl (okNy ms a b)], []) := by
  have e := chanceRight_s ms hm hs a b
  unfold crV at e
  rw [g11]
  cases ho : okNy ms a b with
  | false => rw [ho, if_neg (by decide)] at e; exact frz_to rfl e (by simp [nzA]) (by simp [pr])
  | true => rw [ho, if_pos rfl] at e; exact frz_to rfl e (by simp [nzA]) (by simp [pr])
theorem two_cp_i (ms : List ByteArray) (hm : ms.length ≤ 100) (hs : ∀ x ∈ ms, x.size ≤ 1000) (d : Int) : ev E1 14 [.agg [.lst 1 (ms.map st)], i64 d] [] = some (.tup [.lst 2 ((if okCP ms d = true then cp ms d else []).map pr), bl (okCP ms d)], []) := by
  obtain ⟨h1, h2⟩ := closeP_i d ms hm hs
  rw [g14]
  cases ho : okCP ms d with
  | false =>
    have e := h1 ho
    try unfold pb at e
    exact frz_to rfl e (by simp) (by simp)
  | true =>
    have e := h2 ho
    unfold pb at e
    rw [if_pos rfl]
    have e2 : List.take (cp ms d).length ((cp ms d).map pr) = (cp ms d).map pr := List.take_of_length_le (by simp)
    exact frz_to rfl e (by simp) (by simp [e2])
theorem two_la_i (ms : List ByteArray) (hm : ms.length ≤ 100) (hs : ∀ x ∈ ms, x.size ≤ 1000) : ev E1 16 [.agg [.lst 1 (ms.map st)]] [] = some (match (if okTable ms = true then lea ms 1 5 else none) with | some e => .tup [i64 (e : Int), bl true] | none => .tup [i64 0, bl false], []) := by
  have e := least_i ms hm hs
  rw [g16]
  generalize (if okTable ms = true then lea ms 1 5 else none) = q at *
  cases q with
  | none => exact frz_to rfl e (by simp) (by simp)
  | some k => exact frz_to rfl e (by simp) (by simp)
theorem two_cp_s (ms : List ByteArray) (hm : ms.length ≤ 100) (hs : ∀ x ∈ ms, x.size ≤ 1000) (d : Int) : ev E1 15 [.agg [.lst 1 (ms.map st)], i64 d] [] = some (.tup [.lst 2 ((if okCP ms d = true then cp ms d else []).map pr), bl (okCP ms d)], []) := by
  obtain ⟨h1, h2⟩ := closeP_s d ms hm hs
  rw [g15]
  cases ho : okCP ms d with
  | false =>
    have e := h1 ho
    try unfold pb at e
    exact frz_to rfl e (by simp) (by simp)
  | true =>
    have e := h2 ho
    unfold pb at e
    rw [if_pos rfl]
    have e2 : List.take (cp ms d).length ((cp ms d).map pr) = (cp ms d).map pr := List.take_of_length_le (by simp)
    exact frz_to rfl e (by simp) (by simp [e2])
theorem two_la_s (ms : List ByteArray) (hm : ms.length ≤ 100) (hs : ∀ x ∈ ms, x.size ≤ 1000) : ev E1 17 [.agg [.lst 1 (ms.map st)]] [] = some (match (if okTable ms = true then lea ms 1 5 else none) with | some e => .tup [i64 (e : Int), bl true] | none => .tup [i64 0, bl false], []) := by
  have e := least_s ms hm hs
  rw [g17]
  generalize (if okTable ms = true then lea ms 1 5 else none) = q at *
  cases q with
  | none => exact frz_to rfl e (by simp) (by simp)
  | some k => exact frz_to rfl e (by simp) (by simp)
end Go.Proofs.YtgecnbafmlecjaaGreatDoor.Ev

