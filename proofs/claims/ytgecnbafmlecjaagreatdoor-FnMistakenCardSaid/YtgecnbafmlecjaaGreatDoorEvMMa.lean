/- Sums of any two fractions; the means of the law on mistaken letters, in plain words. -/
import Derived.Test.YtgecnbafmlecjaaGreatDoorEvMNz
import Derived.Test.YtgecnbafmlecjaaGreatDoorEvSg8
import Derived.Test.YtgecnbafmlecjaaGreatDoorEvMwP
set_option linter.unusedVariables false
set_option linter.unusedSimpArgs false
set_option maxHeartbeats 1000000
namespace Go.Proofs.YtgecnbafmlecjaaGreatDoor.Ev
open Fr Nz Mw
set_option maxHeartbeats 4000000 in
theorem vplusG (x1 x2 y1 y2 : Nat) (pa : 0 < x2) (pb' : 0 < y2) (q2 : x2 ≤ 10000000000000) (q4 : y2 ≤ 10000000000000) (q5 : x2 / Nat.gcd x2 y2 * y2 ≤ 10000000000000) (q6 : x1 * (y2 / Nat.gcd x2 y2) ≤ 10000000000000) (q7 : y1 * (x2 / Nat.gcd x2 y2) ≤ 10000000000000) : ev E0 21 [pr (x1, x2), pr (y1, y2)] [] = some (pr (plus (x1, x2) (y1, y2)), []) := by
  have l0 := plus_loop0 x1 x2 y1 y2 y2 x2 y2 (Nat.le_refl _)
  rw [Nat.gcd_comm] at l0
  have hg := gcd_pos (a := x2) pb'
  have d1 := tdivN y2 (Nat.gcd x2 y2)
  have d2 := tdivN x2 (Nat.gcd x2 y2)
  have hpos : 0 < x2 / Nat.gcd x2 y2 * y2 := Nat.mul_pos (Nat.div_pos (Nat.le_of_dvd pa (Nat.gcd_dvd_left _ _)) hg) pb'
  have e1 : y2 / Nat.gcd x2 y2 ≤ y2 := Nat.div_le_self _ _
  have e2 : x2 / Nat.gcd x2 y2 ≤ x2 := Nat.div_le_self _ _
  unfold plus pr cut
  simp only
  generalize Nat.gcd x2 y2 = g at *
  generalize y2 / g = v at *
  generalize x2 / g = u at *
  have w1 : IntKind.i64.wrap (v : Int) = v := wrN (by omega)
  have w2 : IntKind.i64.wrap (u : Int) = u := wrN (by omega)
  have m1 : (x1 : Int) * (v : Int) = ((x1 * v : Nat) : Int) := rfl
  have m2 : (y1 : Int) * (u : Int) = ((y1 * u : Nat) : Int) := rfl
  have m3 : (u : Int) * (y2 : Int) = ((u * y2 : Nat) : Int) := rfl
  have w3 : IntKind.i64.wrap ((x1 : Int) * (v : Int)) = ((x1 * v : Nat) : Int) := by rw [m1]; exact wrN (by omega)
  have w4 : IntKind.i64.wrap ((y1 : Int) * (u : Int)) = ((y1 * u : Nat) : Int) := by rw [m2]; exact wrN (by omega)
  have w5 : IntKind.i64.wrap ((u : Int) * (y2 : Int)) = ((u * y2 : Nat) : Int) := by rw [m3]; exact wrN (by omega)
  generalize x1 * v = t1 at *
  generalize y1 * u = t2 at *
  generalize u * y2 = bt at *
  have w6 : IntKind.i64.wrap ((t1 : Int) + (t2 : Int)) = ((t1 + t2 : Nat) : Int) := by
    rw [show (t1 : Int) + (t2 : Int) = ((t1 + t2 : Nat) : Int) from rfl]
    exact wrN (by omega)
  have hg0 : ¬ (g : Int) = 0 := by omega
  have hg1 : ¬ g = 0 := by omega
  obtain ⟨tp, htp⟩ : ∃ tp, t1 + t2 = tp := ⟨_, rfl⟩
  rw [htp] at w6 ⊢
  have l1 := plus_loop1 (tp : Int) (bt : Int) bt tp bt (Nat.le_refl _)
  rw [Nat.gcd_comm] at l1
  have hg2 := gcd_pos (a := tp) hpos
  have f1 : tp / Nat.gcd tp bt ≤ tp := Nat.div_le_self _ _
  have f2 : bt / Nat.gcd tp bt ≤ bt := Nat.div_le_self _ _
  have d3 := tdivN tp (Nat.gcd tp bt)
  have d4 := tdivN bt (Nat.gcd tp bt)
  have w7 : IntKind.i64.wrap ((tp / Nat.gcd tp bt : Nat) : Int) = ((tp / Nat.gcd tp bt : Nat) : Int) := wrN (by omega)
  have w8 : IntKind.i64.wrap ((bt / Nat.gcd tp bt : Nat) : Int) = ((bt / Nat.gcd tp bt : Nat) : Int) := wrN (by omega)
  have hg3 : ¬ ((Nat.gcd tp bt : Nat) : Int) = 0 := by omega
  have hg4 : ¬ Nat.gcd tp bt = 0 := by omega
  rw [e21]
  unfold runF
  generalize ((tp / Nat.gcd tp bt : Nat) : Int) = o1 at *
  generalize ((bt / Nat.gcd tp bt : Nat) : Int) = o2 at *
  generalize ((Nat.gcd tp bt : Nat) : Int) = g2 at *
  simp (maxSteps := 1000000) -implicitDefEqProofs [L21, l0, l1, d1, d2, d3, d4, w1, w2, w3, w4, w5, w6, w7, w8, hg0, hg1, hg3, hg4]
theorem vplusK (a b n : Nat) (hn : 0 < n) (hnb : n ≤ 1000000000000) (ha : a ≤ 10000000000000) (hb : b ≤ 10000000000000) : ev E0 21 [pr (cut a n), pr (cut b n)] [] = some (pr (cut (a + b) n), []) := by
  have hpc := plus_cut a b n hn
  obtain ⟨q2, q4, q5, q6, q7⟩ := plus_bK a b n hn
  have pa := cut_pos a n hn
  have pb' := cut_pos b n hn
  rw [← hpc]
  generalize cut a n = x at *
  generalize cut b n = y at *
  obtain ⟨x1, x2⟩ := x
  obtain ⟨y1, y2⟩ := y
  simp only at q2 q4 q5 q6 q7 pa pb'
  exact vplusG x1 x2 y1 y2 pa pb' (by omega) (by omega) (by omega) (by omega) (by omega)
theorem vplus01 (p q : Nat) (hq : 0 < q) (hp : p ≤ 10000000000000) (hqb : q ≤ 10000000000000) : ev E0 21 [pr (0, 1), pr (p, q)] [] = some (pr (cut p q), []) := by
  have := vplusG 0 1 p q (by omega) hq (by omega) (by omega) (by simp; omega) (by simp) (by simp; omega)
  rwa [plus01] at this
-- ---------------------------------------------------------------- means
theorem wh_own (n d : Nat) (s : List UInt8) : wh n d s s = (d - n) ^ s.length * d ^ (5 - s.length) := by
  unfold wh
  rw [if_pos rfl, ap_self, Nat.pow_zero, Nat.one_mul, Nat.sub_zero]
/-- How wrong a message is read, in parts. -/
def wrL (n d : Nat) (ms : List ByteArray) : List UInt8 → Nat
  | [] => 0
  | c :: t => (if c.toNat = 32 then 0 else d ^ 5 - wh n d (B (mB ms c)) (B (mB ms c))) + wrL n d ms t
theorem wr_le (n d : Nat) (hn : n ≤ d) (ms : List ByteArray) : ∀ t : List UInt8, (∀ c ∈ t, c.toNat ≠ 32 → (mB ms c).size ≤ 5) → wrL n d ms t ≤ (mAll ms t).length * n * d ^ 4
  | [], _ => Nat.zero_le _
  | c :: t, h => by
    have ih := wr_le n d hn ms t (fun x hx => h x (List.mem_cons_of_mem _ hx))
    rw [wrL, mAll]
    by_cases hc : c.toNat = 32
    · rw [if_pos hc, if_pos hc]; omega
    · rw [if_neg hc, if_neg hc, List.length_append, wh_own]
      have hl : (B (mB ms c)).length ≤ 5 := by rw [B_len]; exact h c List.mem_cons_self hc
      have hb := bern n d hn (B (mB ms c)).length hl
      have he : ((mrk ms c).length + (mAll ms t).length) * n * d ^ 4 = (B (mB ms c)).length * n * d ^ 4 + (mAll ms t).length * n * d ^ 4 := by
        rw [show (mrk ms c).length = (B (mB ms c)).length from rfl, Nat.add_mul, Nat.add_mul]
      rw [he]
      omega
theorem wr_zero (d : Nat) (ms : List ByteArray) : ∀ t : List UInt8, (∀ c ∈ t, c.toNat ≠ 32 → (mB ms c).size ≤ 5) → wrL 0 d ms t = 0
  | [], _ => rfl
  | c :: t, h => by
    rw [wrL, wr_zero d ms t (fun x hx => h x (List.mem_cons_of_mem _ hx))]
    by_cases hc : c.toNat = 32
    · rw [if_pos hc]
    · rw [if_neg hc, wh_self d _ (by rw [B_len]; exact h c List.mem_cons_self hc)]
      omega
theorem wr_big (n d : Nat) (ms : List ByteArray) : ∀ t : List UInt8, wrL n d ms t ≤ t.length * d ^ 5
  | [] => Nat.zero_le _
  | c :: t => by
    have ih := wr_big n d ms t
    rw [wrL, List.length_cons, Nat.succ_mul]
    split <;> omega
/-- How rightly letters are read, in parts. -/
def rgL (n d : Nat) : List ByteArray → Nat
  | [] => 0
  | m :: t => wh n d (B m) (B m) + rgL n d t
theorem rg_big (n d : Nat) (hn : n ≤ d) : ∀ t : List ByteArray, (∀ m ∈ t, m.size ≤ 5) → rgL n d t ≤ t.length * d ^ 5
  | [], _ => Nat.zero_le _
  | m :: t, h => by
    have ih := rg_big n d hn t (fun x hx => h x (List.mem_cons_of_mem _ hx))
    have := wh_le n d hn (B m) (B m) (by rw [B_len]; exact h m List.mem_cons_self)
    rw [rgL, List.length_cons, Nat.succ_mul]
    omega
end Go.Proofs.YtgecnbafmlecjaaGreatDoor.Ev

namespace Go.Proofs.YtgecnbafmlecjaaGreatDoor.Ev
open Fr Nz Mw
theorem wr_loop_i (n d : Nat) (hn : n ≤ d) (hd : d ≤ 100) (ms : List ByteArray) (hm : ms.length ≤ 1000) (hz : ∀ m ∈ ms, m.size ≤ 5) (m : ByteArray) (hs : m.size ≤ 1000) : ∀ (t : List UInt8) (i s : Nat), (B m).drop i = t → msgL ms.length m t i = true → s ≤ i * 10000000000 →
    packX 0 [4, 6, 8] (loopW (bd E0 (ev E0) loopW 0 [2, 3, 4, 6, 8, 23, 24] L6b0) ⟨[(2, st m), (3, .ptr 0 0 0), (4, .ptr 1 0 0), (6, .ptr 2 0 0), (8, i64 (s : Int)), (23, i64 m.size), (24, i64 i)], [some ⟨26, 1, 0, false, [.agg [.lst 1 (ms.map st)]]⟩, some ⟨28, 2, 0, false, [.agg [i64 ((n : Nat) : Int), i64 ((d : Nat) : Int)]]⟩, some ⟨31, 2, 0, false, [.agg [i64 0, i64 0]]⟩]⟩) = some (.ext 0, ⟨[(4, .ptr 0 0 0), (6, .ptr 1 0 0), (8, i64 ((s + wrL n d ms t : Nat) : Int))], [some ⟨28, 2, 0, false, [.agg [i64 ((n : Nat) : Int), i64 ((d : Nat) : Int)]]⟩, some ⟨31, 2, 0, false, [.agg [i64 0, i64 0]]⟩]⟩) := by
  have hN : d ^ 5 ≤ 10000000000 := pow_b hd (Nat.le_refl _)
  intro t
  induction t with
  | nil =>
    intro i s h _ _
    have hi := byte_end h
    rw [show s + wrL n d ms [] = s from Nat.add_zero _, loopW_eq]
    have hi3 : ¬ i < m.size := by omega
    have hi4 : ¬ (i : Int) < (m.size : Int) := by omega
    generalize loopW (bd E0 (ev E0) loopW 0 [2, 3, 4, 6, 8, 23, 24] L6b0) = K
    simp -implicitDefEqProofs [bd, L6b0, hi, hi3, hi4]
  | cons c t ih =>
    intro i s h hv hz2
    obtain ⟨hi, hx, hdr⟩ := byte_at h
    rw [msgL, Bool.and_eq_true] at hv
    have hi2 : (i : Int) < (m.size : Int) := by omega
    have hg0 : ∀ h, m.data[i]'h = c := by
      intro _
      have hi2 : i < m.data.toList.length := by simpa using hi
      rw [List.getD_eq_getElem?_getD, List.getElem?_eq_getElem hi2, Option.getD_some] at hx
      exact hx
    have hw : IntKind.i64.wrap ((i : Int) + 1) = (i : Int) + 1 := wr64 (by omega) (by omega)
    by_cases hc : c.toNat = 32
    · have hih := ih (i + 1) s hdr hv.2 (Nat.le_trans hz2 (Nat.mul_le_mul_right _ (Nat.le_succ i)))
      have hci : (c.toNat : Int) = 32 := by omega
      rw [show s + wrL n d ms (c :: t) = s + wrL n d ms t by rw [wrL, if_pos hc, Nat.zero_add], loopW_eq]
      rw [cs1] at hih
      clear ih
      generalize s + wrL n d ms t = R at hih ⊢
      generalize loopW (bd E0 (ev E0) loopW 0 [2, 3, 4, 6, 8, 23, 24] L6b0) = K at hih ⊢
      simpa -implicitDefEqProofs [bd, L6b0, hi, hi2, hx, hg0, hw, hc, hci] using hih
    · have hch := hv.1
      unfold chOk at hch
      rw [if_neg hc] at hch
      simp only [Bool.and_eq_true, decide_eq_true_eq] at hch
      have hnn : c.toNat - 97 < ms.length := by omega
      have hn2 : ((c.toNat - 97 : Nat) : Int) < (ms.length : Int) := by omega
      have hmk : (mB ms c).size ≤ 5 := by unfold mB mk_; exact getD_sz hz _
      have hwh := wh_le n d hn (B (mB ms c)) (B (mB ms c)) (by rw [B_len]; exact hmk)
      have hih := ih (i + 1) (s + (d ^ 5 - wh n d (B (mB ms c)) (B (mB ms c)))) hdr hv.2 (by omega)
      have hci : ¬ (c.toNat : Int) = 32 := by omega
      have hwc : IntKind.i64.wrap (c.toNat : Int) = (c.toNat : Int) := wr64 (by omega) (by have := UInt8.toNat_lt c; omega)
      have hwd : IntKind.u8.wrap ((c.toNat : Int) - 97) = ((c.toNat - 97 : Nat) : Int) := by
        have := UInt8.toNat_lt c
        rw [IntKind.wrap_u8]
        omega
      have hg : (ms.map st)[c.toNat - 97]? = some (st (mB ms c)) := by rw [List.getElem?_map, List.getElem?_eq_getElem hnn, mk_at hnn]; rfl
      have hg2 : ∀ h, (ms.map st)[c.toNat - 97]'h = st (mB ms c) := fun h => (List.getElem?_eq_some_iff.1 hg).2
      have ha := all_i (n : Int) d hd
      have hq := whole_i n d hn hd (mB ms c) (mB ms c) hmk
      have hA : IntKind.i64.wrap (((d ^ 5 : Nat) : Int) - ((wh n d (B (mB ms c)) (B (mB ms c)) : Nat) : Int)) = ((d ^ 5 - wh n d (B (mB ms c)) (B (mB ms c)) : Nat) : Int) := by rw [wr64 (by omega) (by omega)]; omega
      have hB : IntKind.i64.wrap ((s : Int) + ((d ^ 5 - wh n d (B (mB ms c)) (B (mB ms c)) : Nat) : Int)) = ((s + (d ^ 5 - wh n d (B (mB ms c)) (B (mB ms c))) : Nat) : Int) := by rw [wr64 (by omega) (by omega)]; omega
      unfold nzA at ha hq
      rw [show s + wrL n d ms (c :: t) = s + (d ^ 5 - wh n d (B (mB ms c)) (B (mB ms c))) + wrL n d ms t by rw [wrL, if_neg hc, Nat.add_assoc], loopW_eq]
      rw [cs1] at hih
      clear ih h hdr hv hmk hwh hz2
      generalize s + (d ^ 5 - wh n d (B (mB ms c)) (B (mB ms c))) + wrL n d ms t = R at hih ⊢
      generalize s + (d ^ 5 - wh n d (B (mB ms c)) (B (mB ms c))) = V at *
      generalize d ^ 5 - wh n d (B (mB ms c)) (B (mB ms c)) = U at *
      generalize wh n d (B (mB ms c)) (B (mB ms c)) = W at *
      generalize d ^ 5 = D5 at *
      generalize mB ms c = fm at *
      have hQ : (ms.map st).length = ms.length := List.length_map _
      generalize ms.map st = Q at *
      generalize c.toNat - 97 = q at *
      generalize loopW (bd E0 (ev E0) loopW 0 [2, 3, 4, 6, 8, 23, 24] L6b0) = K at hih ⊢
      simpa -implicitDefEqProofs [bd, L6b0, hi, hi2, hx, hg0, hw, hc, hci, hwc, hwd, hnn, hn2, hg, hg2, ha, hq, hA, hB, hQ] using hih
theorem wr_loop_s (n d : Nat) (hn : n ≤ d) (hd : d ≤ 100) (ms : List ByteArray) (hm : ms.length ≤ 1000) (hz : ∀ m ∈ ms, m.size ≤ 5) (m : ByteArray) (hs : m.size ≤ 1000) : ∀ (t : List UInt8) (i s : Nat), (B m).drop i = t → msgL ms.length m t i = true → s ≤ i * 10000000000 →
    packX 0 [4, 6, 8] (loopW (bd E0 (ev E0) loopW 0 [2, 3, 4, 6, 8, 9] L7b0) ⟨[(2, st m), (3, .ptr 0 0 0), (4, .ptr 1 0 0), (6, .ptr 2 0 0), (8, i64 (s : Int)), (9, i64 i)], [some ⟨26, 1, 0, false, [.agg [.lst 1 (ms.map st)]]⟩, some ⟨28, 2, 0, false, [.agg [i64 ((n : Nat) : Int), i64 ((d : Nat) : Int)]]⟩, some ⟨31, 2, 0, false, [.agg [i64 0, i64 0]]⟩]⟩) = some (.ext 0, ⟨[(4, .ptr 0 0 0), (6, .ptr 1 0 0), (8, i64 ((s + wrL n d ms t : Nat) : Int))], [some ⟨28, 2, 0, false, [.agg [i64 ((n : Nat) : Int), i64 ((d : Nat) : Int)]]⟩, some ⟨31, 2, 0, false, [.agg [i64 0, i64 0]]⟩]⟩) := by
  have hN : d ^ 5 ≤ 10000000000 := pow_b hd (Nat.le_refl _)
  intro t
  induction t with
  | nil =>
    intro i s h _ _
    have hi := byte_end h
    rw [show s + wrL n d ms [] = s from Nat.add_zero _, loopW_eq]
    have hi3 : ¬ i < m.size := by omega
    have hi4 : ¬ (i : Int) < (m.size : Int) := by omega
    generalize loopW (bd E0 (ev E0) loopW 0 [2, 3, 4, 6, 8, 9] L7b0) = K
    simp -implicitDefEqProofs [bd, L7b0, hi, hi3, hi4]
  | cons c t ih =>
    intro i s h hv hz2
    obtain ⟨hi, hx, hdr⟩ := byte_at h
    rw [msgL, Bool.and_eq_true] at hv
    have hi2 : (i : Int) < (m.size : Int) := by omega
    have hg0 : ∀ h, m.data[i]'h = c := by
      intro _
      have hi2 : i < m.data.toList.length := by simpa using hi
      rw [List.getD_eq_getElem?_getD, List.getElem?_eq_getElem hi2, Option.getD_some] at hx
      exact hx
    have hw : IntKind.i64.wrap ((i : Int) + 1) = (i : Int) + 1 := wr64 (by omega) (by omega)
    by_cases hc : c.toNat = 32
    · have hih := ih (i + 1) s hdr hv.2 (Nat.le_trans hz2 (Nat.mul_le_mul_right _ (Nat.le_succ i)))
      have hci : (c.toNat : Int) = 32 := by omega
      rw [show s + wrL n d ms (c :: t) = s + wrL n d ms t by rw [wrL, if_pos hc, Nat.zero_add], loopW_eq]
      rw [cs1] at hih
      clear ih
      generalize s + wrL n d ms t = R at hih ⊢
      generalize loopW (bd E0 (ev E0) loopW 0 [2, 3, 4, 6, 8, 9] L7b0) = K at hih ⊢
      simpa -implicitDefEqProofs [bd, L7b0, hi, hi2, hx, hg0, hw, hc, hci] using hih
    · have hch := hv.1
      unfold chOk at hch
      rw [if_neg hc] at hch
      simp only [Bool.and_eq_true, decide_eq_true_eq] at hch
      have hnn : c.toNat - 97 < ms.length := by omega
      have hn2 : ((c.toNat - 97 : Nat) : Int) < (ms.length : Int) := by omega
      have hmk : (mB ms c).size ≤ 5 := by unfold mB mk_; exact getD_sz hz _
      have hwh := wh_le n d hn (B (mB ms c)) (B (mB ms c)) (by rw [B_len]; exact hmk)
      have hih := ih (i + 1) (s + (d ^ 5 - wh n d (B (mB ms c)) (B (mB ms c)))) hdr hv.2 (by omega)
      have hci : ¬ (c.toNat : Int) = 32 := by omega
      have hwc : IntKind.i64.wrap (c.toNat : Int) = (c.toNat : Int) := wr64 (by omega) (by have := UInt8.toNat_lt c; omega)
      have hwd : IntKind.i64.wrap ((c.toNat : Int) - 97) = ((c.toNat - 97 : Nat) : Int) := by rw [wr64 (by omega) (by have := UInt8.toNat_lt c; omega)]; omega
      have hg : (ms.map st)[c.toNat - 97]? = some (st (mB ms c)) := by rw [List.getElem?_map, List.getElem?_eq_getElem hnn, mk_at hnn]; rfl
      have hg2 : ∀ h, (ms.map st)[c.toNat - 97]'h = st (mB ms c) := fun h => (List.getElem?_eq_some_iff.1 hg).2
      have ha := all_s (n : Int) d hd
      have hq := whole_s n d hn hd (mB ms c) (mB ms c) hmk
      have hA : IntKind.i64.wrap ((s : Int) + ((d ^ 5 : Nat) : Int)) = (s : Int) + ((d ^ 5 : Nat) : Int) := wr64 (by omega) (by omega)
      have hB : IntKind.i64.wrap ((s : Int) + ((d ^ 5 : Nat) : Int) - ((wh n d (B (mB ms c)) (B (mB ms c)) : Nat) : Int)) = ((s + (d ^ 5 - wh n d (B (mB ms c)) (B (mB ms c))) : Nat) : Int) := by rw [wr64 (by omega) (by omega)]; omega
      unfold nzA at ha hq
      rw [show s + wrL n d ms (c :: t) = s + (d ^ 5 - wh n d (B (mB ms c)) (B (mB ms c))) + wrL n d ms t by rw [wrL, if_neg hc, Nat.add_assoc], loopW_eq]
      rw [cs1] at hih
      clear ih h hdr hv hmk hwh hz2
      generalize s + (d ^ 5 - wh n d (B (mB ms c)) (B (mB ms c))) + wrL n d ms t = R at hih ⊢
      generalize s + (d ^ 5 - wh n d (B (mB ms c)) (B (mB ms c))) = V at *
      generalize d ^ 5 - wh n d (B (mB ms c)) (B (mB ms c)) = U at *
      generalize wh n d (B (mB ms c)) (B (mB ms c)) = W at *
      generalize d ^ 5 = D5 at *
      generalize mB ms c = fm at *
      have hQ : (ms.map st).length = ms.length := List.length_map _
      generalize ms.map st = Q at *
      generalize c.toNat - 97 = q at *
      generalize loopW (bd E0 (ev E0) loopW 0 [2, 3, 4, 6, 8, 9] L7b0) = K at hih ⊢
      simpa -implicitDefEqProofs [bd, L7b0, hi, hi2, hx, hg0, hw, hc, hci, hwc, hwd, hnn, hn2, hg, hg2, ha, hq, hA, hB, hQ] using hih
def okMW (ms : List ByteArray) (a b : Int) (m : ByteArray) : Bool := okNy ms a b && okMsg ms.length m
theorem okMW_b {ms : List ByteArray} {a b : Int} {m : ByteArray} (h : okMW ms a b m = true) : okTable ms = true ∧ (∃ n d : Nat, a = n ∧ b = d ∧ 1 ≤ d ∧ d ≤ 100 ∧ n ≤ d) ∧ okMsg ms.length m = true := by
  unfold okMW okNy at h
  rw [Bool.and_eq_true, Bool.and_eq_true] at h
  exact ⟨h.1.1, okNz_b h.1.2, h.2⟩
def mwV (ms : List ByteArray) (a b : Int) (m : ByteArray) : AV := if okMW ms a b m = true then .tup [pr (cut (wrL (nz1 a) (nz1 b) ms (B m)) (nz1 b ^ 5)), bl true] else .tup [.agg [i64 0, i64 0], bl false]
theorem meanWrong_i (ms : List ByteArray) (hm : ms.length ≤ 100) (hs : ∀ x ∈ ms, x.size ≤ 1000) (a b : Int) (m : ByteArray) (hz : m.size ≤ 1000) : ev E0 6 [.agg [.lst 1 (ms.map st)], nzA a b, st m] [] = some (mwV ms a b m, []) := by
  have hfr := free_st ms
  have h1 := noisy_none ms (by omega) hs a b
  have h2 := msg_i ms (by omega) m (by omega)
  unfold mwV
  cases ho : okMW ms a b m with
  | false =>
    unfold okMW okNy at ho
    unfold nzA at *
    try unfold okNy at h1
    rw [if_neg (by decide), e6]
    unfold runF
    cases k1 : okTable ms <;> cases k2 : okNz a b <;> cases k3 : okMsg ms.length m <;> rw [k1, k2, k3] at ho <;> first | (exact absurd ho (by decide)) | (simp only [k1, k2, k3] at *; simp -implicitDefEqProofs [L6, *])
  | true =>
    obtain ⟨g1, ⟨n, d, rfl, rfl, d1, d2, d3⟩, g3⟩ := okMW_b ho
    obtain ⟨t1, t2, t3⟩ := okTable_b g1
    have hz5 : ∀ x ∈ ms, x.size ≤ 5 := fun x hx => (okMarks_b (t3 x hx)).2.1
    have g4 := g3
    unfold okMsg at g4
    rw [Bool.and_eq_true, decide_eq_true_eq] at g4
    have hN : d ^ 5 ≤ 10000000000 := pow_b d2 (Nat.le_refl _)
    have hN0 : 0 < d ^ 5 := Nat.pow_pos (by omega)
    have hb := wr_big n d ms (B m)
    rw [B_len] at hb
    have hb2 : m.size * d ^ 5 ≤ 12 * d ^ 5 := Nat.mul_le_mul_right _ g4.2
    have hl := wr_loop_i n d d3 d2 ms (by omega) hz5 m hz (B m) 0 0 rfl g4.1 (by omega)
    rw [Nat.zero_add, c0] at hl
    have hf := fraction_i (wrL n d ms (B m)) (d ^ 5) hN0 (by omega) (by omega)
    have ha := all_i (n : Int) d d2
    rw [if_pos rfl, e6]
    unfold runF
    have ho2 : okNy ms (n : Int) (d : Int) = true := by unfold okMW at ho; rw [Bool.and_eq_true] at ho; exact ho.1
    have ho3 : okNz (n : Int) (d : Int) = true := by unfold okNy at ho2; rw [Bool.and_eq_true] at ho2; exact ho2.2
    simp only [g1, g3, ho2, ho3, nz1, Int.toNat_natCast] at *
    unfold nzA pr at *
    generalize ((wrL n d ms (B m) : Nat) : Int) = WR at *
    generalize ((d ^ 5 : Nat) : Int) = D5 at *
    generalize cut (wrL n d ms (B m)) (d ^ 5) = cc at *
    simp -implicitDefEqProofs [L6, h1, h2, hl, hf, ha]
theorem meanWrong_s (ms : List ByteArray) (hm : ms.length ≤ 100) (hs : ∀ x ∈ ms, x.size ≤ 1000) (a b : Int) (m : ByteArray) (hz : m.size ≤ 1000) : ev E0 7 [.agg [.lst 1 (ms.map st)], nzA a b, st m] [] = some (mwV ms a b m, []) := by
  have hfr := free_st ms
  have h1 := table_s ms (by omega) (fun x hx => Nat.le_trans (hs x hx) (by decide))
  have h3 := noise_s a b
  have h2 := msg_s ms (by omega) m (by omega)
  unfold mwV
  cases ho : okMW ms a b m with
  | false =>
    unfold okMW okNy at ho
    unfold nzA at *
    try unfold okNy at h1
    rw [if_neg (by decide), e7]
    unfold runF
    cases k1 : okTable ms <;> cases k2 : okNz a b <;> cases k3 : okMsg ms.length m <;> rw [k1, k2, k3] at ho <;> first | (exact absurd ho (by decide)) | (simp only [k1, k2, k3] at *; simp -implicitDefEqProofs [L7, *])
  | true =>
    obtain ⟨g1, ⟨n, d, rfl, rfl, d1, d2, d3⟩, g3⟩ := okMW_b ho
    obtain ⟨t1, t2, t3⟩ := okTable_b g1
    have hz5 : ∀ x ∈ ms, x.size ≤ 5 := fun x hx => (okMarks_b (t3 x hx)).2.1
    have g4 := g3
    unfold okMsg at g4
    rw [Bool.and_eq_true, decide_eq_true_eq] at g4
    have hN : d ^ 5 ≤ 10000000000 := pow_b d2 (Nat.le_refl _)
    have hN0 : 0 < d ^ 5 := Nat.pow_pos (by omega)
    have hb := wr_big n d ms (B m)
    rw [B_len] at hb
    have hb2 : m.size * d ^ 5 ≤ 12 * d ^ 5 := Nat.mul_le_mul_right _ g4.2
    have hl := wr_loop_s n d d3 d2 ms (by omega) hz5 m hz (B m) 0 0 rfl g4.1 (by omega)
    rw [Nat.zero_add, c0] at hl
    have hf := cut_s (wrL n d ms (B m)) (d ^ 5) hN0 (by omega) (by omega)
    have ha := all_s (n : Int) d d2
    rw [if_pos rfl, e7]
    unfold runF
    have ho2 : okNy ms (n : Int) (d : Int) = true := by unfold okMW at ho; rw [Bool.and_eq_true] at ho; exact ho.1
    have ho3 : okNz (n : Int) (d : Int) = true := by unfold okNy at ho2; rw [Bool.and_eq_true] at ho2; exact ho2.2
    simp only [g1, g3, ho2, ho3, nz1, Int.toNat_natCast] at *
    unfold nzA pr at *
    generalize ((wrL n d ms (B m) : Nat) : Int) = WR at *
    generalize ((d ^ 5 : Nat) : Int) = D5 at *
    generalize cut (wrL n d ms (B m)) (d ^ 5) = cc at *
    simp -implicitDefEqProofs [L7, h1, h2, h3, hl, hf, ha]
end Go.Proofs.YtgecnbafmlecjaaGreatDoor.Ev

namespace Go.Proofs.YtgecnbafmlecjaaGreatDoor.Ev
open Fr Nz Mw
theorem rg_loop_i (n d : Nat) (hn : n ≤ d) (hd : d ≤ 100) (ms : List ByteArray) (hm : ms.length ≤ 1000) (hz : ∀ m ∈ ms, m.size ≤ 5) : ∀ (t : List ByteArray) (i s : Nat), ms.drop i = t → s ≤ i * 10000000000 →
    packX 0 [2, 3, 4, 6] (loopW (bd E0 (ev E0) loopW 0 [2, 3, 4, 6, 15, 16, 17] L10b0) ⟨[(2, .ptr 0 0 0), (3, .ptr 1 0 0), (4, .ptr 2 0 0), (6, i64 (s : Int)), (15, .lst 1 (ms.map st)), (16, i64 ms.length), (17, i64 i)], [some ⟨26, 1, 0, false, [.agg [.lst 1 (ms.map st)]]⟩, some ⟨28, 2, 0, false, [.agg [i64 ((n : Nat) : Int), i64 ((d : Nat) : Int)]]⟩, some ⟨31, 2, 0, false, [.agg [i64 0, i64 0]]⟩]⟩) = some (.ext 0, ⟨[(2, .ptr 0 0 0), (3, .ptr 1 0 0), (4, .ptr 2 0 0), (6, i64 ((s + rgL n d t : Nat) : Int))], [some ⟨26, 1, 0, false, [.agg [.lst 1 (ms.map st)]]⟩, some ⟨28, 2, 0, false, [.agg [i64 ((n : Nat) : Int), i64 ((d : Nat) : Int)]]⟩, some ⟨31, 2, 0, false, [.agg [i64 0, i64 0]]⟩]⟩) := by
  have hN : d ^ 5 ≤ 10000000000 := pow_b hd (Nat.le_refl _)
  have hfr := free_st ms
  have hQ : (ms.map st).length = ms.length := List.length_map _
  intro t
  induction t with
  | nil =>
    intro i s h _
    have hi := not_drop h
    have hii : ¬ (i : Int) < (ms.length : Int) := by omega
    rw [show s + rgL n d [] = s from Nat.add_zero _, loopW_eq]
    generalize ms.map st = Q at *
    generalize loopW (bd E0 (ev E0) loopW 0 [2, 3, 4, 6, 15, 16, 17] L10b0) = K
    simp -implicitDefEqProofs [bd, L10b0, hi, hii, hQ, hfr]
  | cons c t ih =>
    intro i s h hs
    obtain ⟨hi, hx, hdr, hmem⟩ := at_drop h
    have hii : (i : Int) < (ms.length : Int) := by omega
    have hmk : c.size ≤ 5 := hz c hmem
    have hwh := wh_le n d hn (B c) (B c) (by rw [B_len]; exact hmk)
    have hw : IntKind.i64.wrap ((i : Int) + 1) = (i : Int) + 1 := wr64 (by omega) (by omega)
    have hih := ih (i + 1) (s + wh n d (B c) (B c)) hdr (by omega)
    have hg : (ms.map st)[i]? = some (st c) := by rw [List.getElem?_map, List.getElem?_eq_getElem hi, hx]; rfl
    have hg2 : ∀ h, (ms.map st)[i]'h = st c := fun h => (List.getElem?_eq_some_iff.1 hg).2
    have hq := whole_i n d hn hd c c hmk
    have hB : IntKind.i64.wrap ((s : Int) + ((wh n d (B c) (B c) : Nat) : Int)) = ((s + wh n d (B c) (B c) : Nat) : Int) := by rw [wr64 (by omega) (by omega)]; omega
    unfold nzA at hq
    rw [show s + rgL n d (c :: t) = s + wh n d (B c) (B c) + rgL n d t by rw [rgL, Nat.add_assoc], loopW_eq]
    rw [cs1] at hih
    clear ih h hdr hmk hwh hs hx hmem
    generalize s + wh n d (B c) (B c) + rgL n d t = R at hih ⊢
    generalize s + wh n d (B c) (B c) = V at *
    generalize wh n d (B c) (B c) = W at *
    generalize ms.map st = Q at *
    generalize loopW (bd E0 (ev E0) loopW 0 [2, 3, 4, 6, 15, 16, 17] L10b0) = K at hih ⊢
    simpa -implicitDefEqProofs [bd, L10b0, hi, hii, hw, hg, hg2, hq, hB, hQ, hfr] using hih
theorem rg_loop_s (n d : Nat) (hn : n ≤ d) (hd : d ≤ 100) (ms : List ByteArray) (hm : ms.length ≤ 1000) (hz : ∀ m ∈ ms, m.size ≤ 5) : ∀ (t : List ByteArray) (i s : Nat), ms.drop i = t → s ≤ i * 10000000000 →
    packX 0 [2, 3, 4, 6] (loopW (bd E0 (ev E0) loopW 0 [2, 3, 4, 6, 7] L11b0) ⟨[(2, .ptr 0 0 0), (3, .ptr 1 0 0), (4, .ptr 2 0 0), (6, i64 (s : Int)), (7, i64 i)], [some ⟨26, 1, 0, false, [.agg [.lst 1 (ms.map st)]]⟩, some ⟨28, 2, 0, false, [.agg [i64 ((n : Nat) : Int), i64 ((d : Nat) : Int)]]⟩, some ⟨31, 2, 0, false, [.agg [i64 0, i64 0]]⟩]⟩) = some (.ext 0, ⟨[(2, .ptr 0 0 0), (3, .ptr 1 0 0), (4, .ptr 2 0 0), (6, i64 ((s + rgL n d t : Nat) : Int))], [some ⟨26, 1, 0, false, [.agg [.lst 1 (ms.map st)]]⟩, some ⟨28, 2, 0, false, [.agg [i64 ((n : Nat) : Int), i64 ((d : Nat) : Int)]]⟩, some ⟨31, 2, 0, false, [.agg [i64 0, i64 0]]⟩]⟩) := by
  have hN : d ^ 5 ≤ 10000000000 := pow_b hd (Nat.le_refl _)
  have hfr := free_st ms
  have hQ : (ms.map st).length = ms.length := List.length_map _
  intro t
  induction t with
  | nil =>
    intro i s h _
    have hi := not_drop h
    have hii : ¬ (i : Int) < (ms.length : Int) := by omega
    rw [show s + rgL n d [] = s from Nat.add_zero _, loopW_eq]
    generalize ms.map st = Q at *
    generalize loopW (bd E0 (ev E0) loopW 0 [2, 3, 4, 6, 7] L11b0) = K
    simp -implicitDefEqProofs [bd, L11b0, hi, hii, hQ, hfr]
  | cons c t ih =>
    intro i s h hs
    obtain ⟨hi, hx, hdr, hmem⟩ := at_drop h
    have hii : (i : Int) < (ms.length : Int) := by omega
    have hmk : c.size ≤ 5 := hz c hmem
    have hwh := wh_le n d hn (B c) (B c) (by rw [B_len]; exact hmk)
    have hw : IntKind.i64.wrap ((i : Int) + 1) = (i : Int) + 1 := wr64 (by omega) (by omega)
    have hih := ih (i + 1) (s + wh n d (B c) (B c)) hdr (by omega)
    have hg : (ms.map st)[i]? = some (st c) := by rw [List.getElem?_map, List.getElem?_eq_getElem hi, hx]; rfl
    have hg2 : ∀ h, (ms.map st)[i]'h = st c := fun h => (List.getElem?_eq_some_iff.1 hg).2
    have hq := whole_s n d hn hd c c hmk
    have hB : IntKind.i64.wrap ((s : Int) + ((wh n d (B c) (B c) : Nat) : Int)) = ((s + wh n d (B c) (B c) : Nat) : Int) := by rw [wr64 (by omega) (by omega)]; omega
    unfold nzA at hq
    rw [show s + rgL n d (c :: t) = s + wh n d (B c) (B c) + rgL n d t by rw [rgL, Nat.add_assoc], loopW_eq]
    rw [cs1] at hih
    clear ih h hdr hmk hwh hs hx hmem
    generalize s + wh n d (B c) (B c) + rgL n d t = R at hih ⊢
    generalize s + wh n d (B c) (B c) = V at *
    generalize wh n d (B c) (B c) = W at *
    generalize ms.map st = Q at *
    generalize loopW (bd E0 (ev E0) loopW 0 [2, 3, 4, 6, 7] L11b0) = K at hih ⊢
    simpa -implicitDefEqProofs [bd, L11b0, hi, hii, hw, hg, hg2, hq, hB, hQ, hfr] using hih
def crV (ms : List ByteArray) (a b : Int) : AV := if okNy ms a b = true then .tup [pr (cut (rgL (nz1 a) (nz1 b) ms) (nz1 b ^ 5 * ms.length)), bl true] else .tup [.agg [i64 0, i64 0], bl false]
theorem okNy_b {ms : List ByteArray} {a b : Int} (h : okNy ms a b = true) : okTable ms = true ∧ ∃ n d : Nat, a = n ∧ b = d ∧ 1 ≤ d ∧ d ≤ 100 ∧ n ≤ d := by
  unfold okNy at h
  rw [Bool.and_eq_true] at h
  exact ⟨h.1, okNz_b h.2⟩
theorem bare_sm {ms : List ByteArray} (ho : okTable ms = true) {s : ByteArray} (hs : okMsg ms.length s = true) : (bareM ms s).size ≤ 300 := by
  have h := bare_enc ho s hs
  have h2 := enc_small ho hs
  have h3 : (B (bareM ms s)).length ≤ (B (enc ms s)).length := by
    rw [← h, show B (⟨(kept (enc ms s) (enc ms s).size).toArray⟩ : ByteArray) = kept (enc ms s) (enc ms s).size from B_mk _, kept_B]
    exact List.length_filter_le _ _
  rw [B_len, B_len] at h3
  omega
theorem chanceRight_i (ms : List ByteArray) (hm : ms.length ≤ 100) (hs : ∀ x ∈ ms, x.size ≤ 1000) (a b : Int) : ev E0 10 [.agg [.lst 1 (ms.map st)], nzA a b] [] = some (crV ms a b, []) := by
  have hfr := free_st ms
  have hQ : (ms.map st).length = ms.length := List.length_map _
  have h1 := noisy_none ms (by omega) hs a b
  unfold crV
  cases ho : okNy ms a b with
  | false =>
    unfold okNy at ho
    unfold nzA at *
    try unfold okNy at h1
    rw [if_neg (by decide), e10]
    unfold runF
    cases k1 : okTable ms <;> cases k2 : okNz a b <;> rw [k1, k2] at ho <;> first | (exact absurd ho (by decide)) | (simp only [k1, k2] at *; simp -implicitDefEqProofs [L10, *])
  | true =>
    obtain ⟨g1, n, d, rfl, rfl, d1, d2, d3⟩ := okNy_b ho
    obtain ⟨t1, t2, t3⟩ := okTable_b g1
    have hz5 : ∀ x ∈ ms, x.size ≤ 5 := fun x hx => (okMarks_b (t3 x hx)).2.1
    have hN : d ^ 5 ≤ 10000000000 := pow_b d2 (Nat.le_refl _)
    have hN0 : 0 < d ^ 5 := Nat.pow_pos (by omega)
    have hb := rg_big n d d3 ms hz5
    have hb2 : ms.length * d ^ 5 ≤ 10 * d ^ 5 := Nat.mul_le_mul_right _ t2
    have hc2 : d ^ 5 * ms.length ≤ d ^ 5 * 10 := Nat.mul_le_mul_left _ t2
    have hl := rg_loop_i n d d3 d2 ms (by omega) hz5 ms 0 0 rfl (by omega)
    rw [Nat.zero_add, c0] at hl
    have hf := fraction_i (rgL n d ms) (d ^ 5 * ms.length) (Nat.mul_pos hN0 (by omega)) (by omega) (by omega)
    have ha := all_i (n : Int) d d2
    have hM : IntKind.i64.wrap (((d ^ 5 : Nat) : Int) * (ms.length : Int)) = ((d ^ 5 * ms.length : Nat) : Int) := by rw [show ((d ^ 5 : Nat) : Int) * (ms.length : Int) = ((d ^ 5 * ms.length : Nat) : Int) from rfl]; exact wrN (by omega)
    rw [if_pos rfl, e10]
    unfold runF
    have ho3 : okNz (n : Int) (d : Int) = true := by unfold okNy at ho; rw [Bool.and_eq_true] at ho; exact ho.2
    simp only [g1, ho, ho3, nz1, Int.toNat_natCast] at *
    unfold nzA pr at *
    generalize ((rgL n d ms : Nat) : Int) = WR at *
    generalize cut (rgL n d ms) (d ^ 5 * ms.length) = cc at *
    generalize ((d ^ 5 * ms.length : Nat) : Int) = DL at *
    generalize ((d ^ 5 : Nat) : Int) = D5 at *
    generalize ms.map st = Q at *
    simp -implicitDefEqProofs [L10, h1, hl, hf, ha, hM, hQ, hfr]
theorem chanceRight_s (ms : List ByteArray) (hm : ms.length ≤ 100) (hs : ∀ x ∈ ms, x.size ≤ 1000) (a b : Int) : ev E0 11 [.agg [.lst 1 (ms.map st)], nzA a b] [] = some (crV ms a b, []) := by
  have hfr := free_st ms
  have hQ : (ms.map st).length = ms.length := List.length_map _
  have h1 := table_s ms (by omega) (fun x hx => Nat.le_trans (hs x hx) (by decide))
  have h3 := noise_s a b
  unfold crV
  cases ho : okNy ms a b with
  | false =>
    unfold okNy at ho
    unfold nzA at *
    try unfold okNy at h1
    rw [if_neg (by decide), e11]
    unfold runF
    cases k1 : okTable ms <;> cases k2 : okNz a b <;> rw [k1, k2] at ho <;> first | (exact absurd ho (by decide)) | (simp only [k1, k2] at *; simp -implicitDefEqProofs [L11, *])
  | true =>
    obtain ⟨g1, n, d, rfl, rfl, d1, d2, d3⟩ := okNy_b ho
    obtain ⟨t1, t2, t3⟩ := okTable_b g1
    have hz5 : ∀ x ∈ ms, x.size ≤ 5 := fun x hx => (okMarks_b (t3 x hx)).2.1
    have hN : d ^ 5 ≤ 10000000000 := pow_b d2 (Nat.le_refl _)
    have hN0 : 0 < d ^ 5 := Nat.pow_pos (by omega)
    have hb := rg_big n d d3 ms hz5
    have hb2 : ms.length * d ^ 5 ≤ 10 * d ^ 5 := Nat.mul_le_mul_right _ t2
    have hc2 : d ^ 5 * ms.length ≤ d ^ 5 * 10 := Nat.mul_le_mul_left _ t2
    have hl := rg_loop_s n d d3 d2 ms (by omega) hz5 ms 0 0 rfl (by omega)
    rw [Nat.zero_add, c0] at hl
    have hf := cut_s (rgL n d ms) (d ^ 5 * ms.length) (Nat.mul_pos hN0 (by omega)) (by omega) (by omega)
    have ha := all_s (n : Int) d d2
    have hM : IntKind.i64.wrap (((d ^ 5 : Nat) : Int) * (ms.length : Int)) = ((d ^ 5 * ms.length : Nat) : Int) := by rw [show ((d ^ 5 : Nat) : Int) * (ms.length : Int) = ((d ^ 5 * ms.length : Nat) : Int) from rfl]; exact wrN (by omega)
    rw [if_pos rfl, e11]
    unfold runF
    have ho3 : okNz (n : Int) (d : Int) = true := by unfold okNy at ho; rw [Bool.and_eq_true] at ho; exact ho.2
    simp only [g1, ho, ho3, nz1, Int.toNat_natCast] at *
    unfold nzA pr at *
    generalize ((rgL n d ms : Nat) : Int) = WR at *
    generalize cut (rgL n d ms) (d ^ 5 * ms.length) = cc at *
    generalize ((d ^ 5 * ms.length : Nat) : Int) = DL at *
    generalize ((d ^ 5 : Nat) : Int) = D5 at *
    generalize ms.map st = Q at *
    simp -implicitDefEqProofs [L11, h1, h3, hl, hf, ha, hM, hQ, hfr]
def mfV (ms : List ByteArray) (a b : Int) (m : ByteArray) : AV := if okMW ms a b m = true then .tup [pr (cut ((bareM ms m).size * nz1 a) (nz1 b)), bl true] else .tup [.agg [i64 0, i64 0], bl false]
theorem meanFlips_i (ms : List ByteArray) (hm : ms.length ≤ 100) (hs : ∀ x ∈ ms, x.size ≤ 1000) (a b : Int) (m : ByteArray) (hz : m.size ≤ 1000) : ev E0 8 [.agg [.lst 1 (ms.map st)], nzA a b, st m] [] = some (mfV ms a b m, []) := by
  have hfr := free_st ms
  have h1 := noisy_none ms (by omega) hs a b
  have h2 := msg_i ms (by omega) m (by omega)
  unfold mfV
  cases ho : okMW ms a b m with
  | false =>
    unfold okMW okNy at ho
    unfold nzA at *
    try unfold okNy at h1
    rw [if_neg (by decide), e8]
    unfold runF
    cases k1 : okTable ms <;> cases k2 : okNz a b <;> cases k3 : okMsg ms.length m <;> rw [k1, k2, k3] at ho <;> first | (exact absurd ho (by decide)) | (simp only [k1, k2, k3] at *; simp -implicitDefEqProofs [L8, *])
  | true =>
    obtain ⟨g1, ⟨n, d, rfl, rfl, d1, d2, d3⟩, g3⟩ := okMW_b ho
    have hbs := bare_sm g1 g3
    have k3 := tab_sizes g1
    have k2 := encodeI ms k3.1 k3.2 m g3
    have k4 : ev E0 36 [st (enc ms m)] [] = some (st (bareM ms m), []) := by
      have := enc_small g1 g3
      rw [e36, bareP, if_pos (by omega), bare_enc g1 m g3]
    have hp : (bareM ms m).size * n ≤ 300 * 100 := Nat.mul_le_mul hbs (by omega)
    have hf := fraction_i ((bareM ms m).size * n) d (by omega) (by omega) (by omega)
    have hM : IntKind.i64.wrap (((bareM ms m).size : Int) * (n : Int)) = (((bareM ms m).size * n : Nat) : Int) := by rw [show ((bareM ms m).size : Int) * (n : Int) = (((bareM ms m).size * n : Nat) : Int) from rfl]; exact wrN (by omega)
    rw [if_pos rfl, e8]
    unfold runF
    have ho2 : okNy ms (n : Int) (d : Int) = true := by unfold okMW at ho; rw [Bool.and_eq_true] at ho; exact ho.1
    have ho3 : okNz (n : Int) (d : Int) = true := by unfold okNy at ho2; rw [Bool.and_eq_true] at ho2; exact ho2.2
    simp only [g1, g3, ho2, ho3, nz1, Int.toNat_natCast] at *
    unfold nzA pr at *
    generalize cut ((bareM ms m).size * n) d = cc at *
    generalize (((bareM ms m).size * n : Nat) : Int) = DL at *
    generalize enc ms m = ee at *
    generalize bareM ms m = bb at *
    simp -implicitDefEqProofs [L8, h1, h2, k4, k2, hf, hM]
theorem meanFlips_s (ms : List ByteArray) (hm : ms.length ≤ 100) (hs : ∀ x ∈ ms, x.size ≤ 1000) (a b : Int) (m : ByteArray) (hz : m.size ≤ 1000) : ev E0 9 [.agg [.lst 1 (ms.map st)], nzA a b, st m] [] = some (mfV ms a b m, []) := by
  have hfr := free_st ms
  have h1 := table_s ms (by omega) (fun x hx => Nat.le_trans (hs x hx) (by decide))
  have h3 := noise_s a b
  have h2 := msg_s ms (by omega) m (by omega)
  unfold mfV
  cases ho : okMW ms a b m with
  | false =>
    unfold okMW okNy at ho
    unfold nzA at *
    try unfold okNy at h1
    rw [if_neg (by decide), e9]
    unfold runF
    cases k1 : okTable ms <;> cases k2 : okNz a b <;> cases k3 : okMsg ms.length m <;> rw [k1, k2, k3] at ho <;> first | (exact absurd ho (by decide)) | (simp only [k1, k2, k3] at *; simp -implicitDefEqProofs [L9, *])
  | true =>
    obtain ⟨g1, ⟨n, d, rfl, rfl, d1, d2, d3⟩, g3⟩ := okMW_b ho
    have hbs := bare_sm g1 g3
    have k2 := bareS ms (by omega) hs m g3
    have hp : (bareM ms m).size * n ≤ 300 * 100 := Nat.mul_le_mul hbs (by omega)
    have hf := cut_s ((bareM ms m).size * n) d (by omega) (by omega) (by omega)
    have hM : IntKind.i64.wrap (((bareM ms m).size : Int) * (n : Int)) = (((bareM ms m).size * n : Nat) : Int) := by rw [show ((bareM ms m).size : Int) * (n : Int) = (((bareM ms m).size * n : Nat) : Int) from rfl]; exact wrN (by omega)
    rw [if_pos rfl, e9]
    unfold runF
    have ho2 : okNy ms (n : Int) (d : Int) = true := by unfold okMW at ho; rw [Bool.and_eq_true] at ho; exact ho.1
    have ho3 : okNz (n : Int) (d : Int) = true := by unfold okNy at ho2; rw [Bool.and_eq_true] at ho2; exact ho2.2
    simp only [g1, g3, ho2, ho3, nz1, Int.toNat_natCast] at *
    unfold nzA pr at *
    generalize cut ((bareM ms m).size * n) d = cc at *
    generalize (((bareM ms m).size * n : Nat) : Int) = DL at *
    generalize bareM ms m = bb at *
    simp -implicitDefEqProofs [L9, h1, h2, h3, k2, hf, hM]
end Go.Proofs.YtgecnbafmlecjaaGreatDoor.Ev

namespace Go.Proofs.YtgecnbafmlecjaaGreatDoor.Ev
open Fr Nz Mw
@[simp] theorem free_pr (l : List (Nat × Nat)) : okL (free 5) (l.map pr) = true := okL_map (fun _ => rfl) l
theorem cpJ_len (d : Int) (i : Nat) (a : ByteArray) : ∀ (t : List ByteArray) (j : Nat), (cpJ d i a t j).length ≤ t.length
  | [], _ => Nat.le_refl _
  | b :: t, j => by
    have := cpJ_len d i a t (j + 1)
    rw [cpJ, List.length_append, List.length_cons]
    split <;> simp <;> omega
theorem cpI_len (d : Int) : ∀ (t : List ByteArray) (i : Nat), (cpI d t i).length ≤ t.length * t.length
  | [], _ => Nat.le_refl _
  | a :: t, i => by
    have h1 := cpI_len d t (i + 1)
    have h2 := cpJ_len d i a t (i + 1)
    rw [cpI, List.length_append, List.length_cons, Nat.mul_add, Nat.add_mul]
    omega
theorem cpJ_loop_i (d : Int) (ms : List ByteArray) (hm : ms.length ≤ 100) (hz : ∀ m ∈ ms, m.size ≤ 1000) (i : Nat) (hi : i < ms.length) (a : ByteArray) (ha : ms[i]? = some a) : ∀ (t : List ByteArray) (j : Nat) (A : List (Nat × Nat)), ms.drop j = t → A.length + t.length ≤ 1000000 →
    packX 0 [1, 2, 5, 12, 13, 14] (loopW (bd E0 (ev E0) loopW 0 [1, 2, 5, 6, 7, 8, 12, 13, 14] L43b0) ⟨[(1, i64 d), (2, .ptr 0 0 0), (5, .sl 1 0 A.length), (6, i64 i), (7, st a), (8, i64 j), (12, .lst 1 (ms.map st)), (13, i64 ms.length), (14, i64 i)], [some ⟨26, 1, 0, false, [.agg [.lst 1 (ms.map st)]]⟩, some (pb A)]⟩) = some (.ext 2, ⟨[(1, i64 d), (2, .ptr 0 0 0), (5, .sl 1 0 (A ++ cpJ d i a t j).length), (12, .lst 1 (ms.map st)), (13, i64 ms.length), (14, i64 i)], [some ⟨26, 1, 0, false, [.agg [.lst 1 (ms.map st)]]⟩, some (pb (A ++ cpJ d i a t j))]⟩) := by
  have hfr := free_st ms
  have hQ : (ms.map st).length = ms.length := List.length_map _
  have hii : (i : Int) < (ms.length : Int) := by omega
  have hgi : (ms.map st)[i]? = some (st a) := by rw [List.getElem?_map, ha]; rfl
  have hgi2 : ∀ h, (ms.map st)[i]'h = st a := fun h => (List.getElem?_eq_some_iff.1 hgi).2
  have haz : a.size ≤ 1000 := hz a (List.mem_of_getElem? ha)
  intro t
  induction t with
  | nil =>
    intro j A h hA
    have hj := not_drop h
    have hjj : ¬ (j : Int) < (ms.length : Int) := by omega
    have hP := free_pr A
    have hPl : (A.map pr).length = A.length := List.length_map _
    rw [cpJ, List.append_nil, loopW_eq]
    unfold pb
    generalize ms.map st = Q at *
    generalize A.map pr = P at *
    generalize loopW (bd E0 (ev E0) loopW 0 [1, 2, 5, 6, 7, 8, 12, 13, 14] L43b0) = K
    simp -implicitDefEqProofs [bd, L43b0, hj, hjj, hQ, hfr, hP, hPl]
  | cons c t ih =>
    intro j A h hA
    rw [List.length_cons] at hA
    obtain ⟨hj, hx, hdr, hmem⟩ := at_drop h
    have hjj : (j : Int) < (ms.length : Int) := by omega
    have hg : (ms.map st)[j]? = some (st c) := by rw [List.getElem?_map, List.getElem?_eq_getElem hj, hx]; rfl
    have hg2 : ∀ h, (ms.map st)[j]'h = st c := fun h => (List.getElem?_eq_some_iff.1 hg).2
    have hw : IntKind.i64.wrap ((j : Int) + 1) = (j : Int) + 1 := wr64 (by omega) (by omega)
    have hP := free_pr A
    have hPl : (A.map pr).length = A.length := List.length_map _
    have stay : cpJ d i a (c :: t) j = cpJ d i a t (j + 1) → (a.size ≠ c.size ∨ (a.size = c.size ∧ d < ((ap (B a) (B c) : Nat) : Int))) →
        packX 0 [1, 2, 5, 12, 13, 14] (loopW (bd E0 (ev E0) loopW 0 [1, 2, 5, 6, 7, 8, 12, 13, 14] L43b0) ⟨[(1, i64 d), (2, .ptr 0 0 0), (5, .sl 1 0 A.length), (6, i64 i), (7, st a), (8, i64 j), (12, .lst 1 (ms.map st)), (13, i64 ms.length), (14, i64 i)], [some ⟨26, 1, 0, false, [.agg [.lst 1 (ms.map st)]]⟩, some (pb A)]⟩) = some (.ext 2, ⟨[(1, i64 d), (2, .ptr 0 0 0), (5, .sl 1 0 (A ++ cpJ d i a (c :: t) j).length), (12, .lst 1 (ms.map st)), (13, i64 ms.length), (14, i64 i)], [some ⟨26, 1, 0, false, [.agg [.lst 1 (ms.map st)]]⟩, some (pb (A ++ cpJ d i a (c :: t) j))]⟩) := by
      intro he hno
      have hih := ih (j + 1) A hdr (by omega)
      rw [he]
      rw [cs1] at hih
      rw [loopW_eq]
      clear ih he
      generalize A ++ cpJ d i a t (j + 1) = R at *
      unfold pb at *
      rcases hno with hno | ⟨hs1, hno⟩
      · have hno2 : ¬ (a.size : Int) = (c.size : Int) := by omega
        generalize ms.map st = Q at *
        generalize A.map pr = P at *
        generalize loopW (bd E0 (ev E0) loopW 0 [1, 2, 5, 6, 7, 8, 12, 13, 14] L43b0) = K at hih ⊢
        simpa -implicitDefEqProofs [bd, L43b0, hi, hii, hj, hjj, hQ, hfr, hP, hPl, hg, hg2, hgi, hgi2, hw, hno, hno2] using hih
      · have e := apart_i a c hs1 haz
        have hd1 : decide (a.size = c.size) = true := decide_eq_true hs1
        have hd2 : decide ((a.size : Int) = (c.size : Int)) = true := decide_eq_true (by omega)
        have hd3 : ¬ ((ap (B a) (B c) : Nat) : Int) ≤ d := by omega
        generalize ((ap (B a) (B c) : Nat) : Int) = q at *
        generalize ms.map st = Q at *
        generalize A.map pr = P at *
        generalize loopW (bd E0 (ev E0) loopW 0 [1, 2, 5, 6, 7, 8, 12, 13, 14] L43b0) = K at hih ⊢
        simpa -implicitDefEqProofs [bd, L43b0, hi, hii, hj, hjj, hQ, hfr, hP, hPl, hg, hg2, hgi, hgi2, hw, hs1, e, hd3] using hih
    by_cases hs1 : a.size = c.size
    · by_cases hle : ((ap (B a) (B c) : Nat) : Int) ≤ d
      · have hcp : cpJ d i a (c :: t) j = (i, j) :: cpJ d i a t (j + 1) := by
          rw [cpJ, if_pos ⟨hs1, hle⟩]; rfl
        have hih := ih (j + 1) (A ++ [(i, j)]) hdr (by simp; omega)
        rw [List.append_assoc, List.singleton_append, ← hcp, cs1] at hih
        have e := apart_i a c hs1 haz
        have hap : (A ++ [(i, j)]).map pr = A.map pr ++ [.agg [i64 (i : Int), i64 (j : Int)]] := by rw [List.map_append]; rfl
        have hpl : (A ++ [(i, j)]).length = A.length + 1 := by simp
        have hl1 : (A.length + 1) * 16 ≤ 140737488355328 := by omega
        have hl2 : A.length + 1 ≤ 140737488355328 := by omega
        have htk : List.take A.length (A.map pr) = A.map pr := List.take_of_length_le (by simp)
        rw [loopW_eq]
        clear ih stay hcp
        generalize A ++ cpJ d i a (c :: t) j = R at *
        unfold pb at *
        rw [hap, hpl] at hih
        clear hap hpl
        generalize ((ap (B a) (B c) : Nat) : Int) = q at *
        generalize ms.map st = Q at *
        generalize A.map pr = P at *
        generalize loopW (bd E0 (ev E0) loopW 0 [1, 2, 5, 6, 7, 8, 12, 13, 14] L43b0) = K at hih ⊢
        simpa -implicitDefEqProofs [bd, L43b0, hi, hii, hj, hjj, hQ, hfr, hP, hPl, hg, hg2, hgi, hgi2, hw, hs1, e, hle, hl1, hl2, htk] using hih
      · exact stay (by rw [cpJ, if_neg (fun e => hle e.2)]; rfl) (.inr ⟨hs1, by omega⟩)
    · exact stay (by rw [cpJ, if_neg (fun e => hs1 e.1)]; rfl) (.inl hs1)
theorem cpI_loop_i (d : Int) (ms : List ByteArray) (hm : ms.length ≤ 100) (hz : ∀ m ∈ ms, m.size ≤ 1000) : ∀ (t : List ByteArray) (i : Nat) (A : List (Nat × Nat)), ms.drop i = t → A.length ≤ i * 100 → t.length ≤ 100 →
    packX 0 [5] (loopW (bd E0 (ev E0) loopW 0 [1, 2, 5, 12, 13, 14] L43b1) ⟨[(1, i64 d), (2, .ptr 0 0 0), (5, .sl 1 0 A.length), (12, .lst 1 (ms.map st)), (13, i64 ms.length), (14, i64 i)], [some ⟨26, 1, 0, false, [.agg [.lst 1 (ms.map st)]]⟩, some (pb A)]⟩) = some (.ext 0, ⟨[(5, .sl 0 0 (A ++ cpI d t i).length)], [some (pb (A ++ cpI d t i))]⟩) := by
  have hfr := free_st ms
  have hQ : (ms.map st).length = ms.length := List.length_map _
  intro t
  induction t with
  | nil =>
    intro i A h hA _
    have hj := not_drop h
    have hjj : ¬ (i : Int) < (ms.length : Int) := by omega
    have hP := free_pr A
    have hPl : (A.map pr).length = A.length := List.length_map _
    rw [cpI, List.append_nil, loopW_eq]
    unfold pb
    generalize ms.map st = Q at *
    generalize A.map pr = P at *
    generalize loopW (bd E0 (ev E0) loopW 0 [1, 2, 5, 12, 13, 14] L43b1) = K
    unfold bd
    simp -implicitDefEqProofs [L43b1, hj, hjj, hQ, hfr, hP, hPl]
  | cons c t ih =>
    intro i A h hA ht
    rw [List.length_cons] at ht
    obtain ⟨hi, hx, hdr, hmem⟩ := at_drop h
    have hii : (i : Int) < (ms.length : Int) := by omega
    have hg : (ms.map st)[i]? = some (st c) := by rw [List.getElem?_map, List.getElem?_eq_getElem hi, hx]; rfl
    have hg2 : ∀ h, (ms.map st)[i]'h = st c := fun h => (List.getElem?_eq_some_iff.1 hg).2
    have hw : IntKind.i64.wrap ((i : Int) + 1) = (i : Int) + 1 := wr64 (by omega) (by omega)
    have h0 := cpJ_loop_i d ms hm hz i hi c (by rw [List.getElem?_eq_getElem hi, hx]) t (i + 1) A hdr (by omega)
    have hlen := cpJ_len d i c t (i + 1)
    have hih := ih (i + 1) (A ++ cpJ d i c t (i + 1)) hdr (by rw [List.length_append]; omega) (by omega)
    rw [List.append_assoc, show cpJ d i c t (i + 1) ++ cpI d t (i + 1) = cpI d (c :: t) i from rfl, cs1] at hih
    rw [cs1] at h0
    have hP := free_pr A
    have hPl : (A.map pr).length = A.length := List.length_map _
    have hP3 := free_pr (A ++ cpJ d i c t (i + 1))
    have hPl3 : ((A ++ cpJ d i c t (i + 1)).map pr).length = (A ++ cpJ d i c t (i + 1)).length := List.length_map _
    rw [loopW_eq]
    clear ih
    generalize A ++ cpI d (c :: t) i = R at *
    generalize A ++ cpJ d i c t (i + 1) = A2 at *
    unfold pb at *
    generalize A.map pr = P at *
    generalize A2.map pr = P2 at *
    generalize ms.map st = Q at *
    generalize loopW (bd E0 (ev E0) loopW 0 [1, 2, 5, 12, 13, 14] L43b1) = K at hih ⊢
    unfold bd
    simpa -implicitDefEqProofs [L43b1, hi, hii, hQ, hfr, hP, hPl, hP3, hPl3, hg, hg2, hw, h0] using hih
theorem close_i (d : Int) (ms : List ByteArray) (hm : ms.length ≤ 100) (hz : ∀ m ∈ ms, m.size ≤ 1000) : ev E0 43 [.agg [.lst 1 (ms.map st)], i64 d] [] = some (.sl 0 0 (cp ms d).length, [some (pb (cp ms d))]) := by
  have h := cpI_loop_i d ms hm hz ms 0 [] rfl (Nat.zero_le _) hm
  rw [List.nil_append, show cpI d ms 0 = cp ms d from rfl, c0] at h
  have hfr := free_st ms
  have hQ : (ms.map st).length = ms.length := List.length_map _
  have hP := free_pr (cp ms d)
  have hPl : ((cp ms d).map pr).length = (cp ms d).length := List.length_map _
  rw [e43]
  unfold runF
  unfold pb at *
  rw [List.length_nil, List.map_nil] at h
  generalize cp ms d = C at *
  generalize C.map pr = P at *
  generalize ms.map st = Q at *
  simp -implicitDefEqProofs [L43, h, hP, hPl, hQ, hfr]
theorem cpJ_loop_s (d : Int) (ms : List ByteArray) (hm : ms.length ≤ 100) (hz : ∀ m ∈ ms, m.size ≤ 1000) (i : Nat) (hi : i < ms.length) (a : ByteArray) (ha : ms[i]? = some a) : ∀ (t : List ByteArray) (j : Nat) (A : List (Nat × Nat)), ms.drop j = t → A.length + t.length ≤ 1000000 →
    packX 0 [1, 2, 5, 6] (loopW (bd E0 (ev E0) loopW 0 [1, 2, 5, 6, 7] L45b0) ⟨[(1, i64 d), (2, .ptr 0 0 0), (5, .sl 1 0 A.length), (6, i64 i), (7, i64 j)], [some ⟨26, 1, 0, false, [.agg [.lst 1 (ms.map st)]]⟩, some (pb A)]⟩) = some (.ext 2, ⟨[(1, i64 d), (2, .ptr 0 0 0), (5, .sl 1 0 (A ++ cpJ d i a t j).length), (6, i64 i)], [some ⟨26, 1, 0, false, [.agg [.lst 1 (ms.map st)]]⟩, some (pb (A ++ cpJ d i a t j))]⟩) := by
  have hfr := free_st ms
  have hQ : (ms.map st).length = ms.length := List.length_map _
  have hii : (i : Int) < (ms.length : Int) := by omega
  have hgi : (ms.map st)[i]? = some (st a) := by rw [List.getElem?_map, ha]; rfl
  have hgi2 : ∀ h, (ms.map st)[i]'h = st a := fun h => (List.getElem?_eq_some_iff.1 hgi).2
  have haz : a.size ≤ 1000 := hz a (List.mem_of_getElem? ha)
  intro t
  induction t with
  | nil =>
    intro j A h hA
    have hj := not_drop h
    have hjj : ¬ (j : Int) < (ms.length : Int) := by omega
    have hP := free_pr A
    have hPl : (A.map pr).length = A.length := List.length_map _
    rw [cpJ, List.append_nil, loopW_eq]
    unfold pb
    generalize ms.map st = Q at *
    generalize A.map pr = P at *
    generalize loopW (bd E0 (ev E0) loopW 0 [1, 2, 5, 6, 7] L45b0) = K
    simp -implicitDefEqProofs [bd, L45b0, hj, hjj, hQ, hfr, hP, hPl]
  | cons c t ih =>
    intro j A h hA
    rw [List.length_cons] at hA
    obtain ⟨hj, hx, hdr, hmem⟩ := at_drop h
    have hjj : (j : Int) < (ms.length : Int) := by omega
    have hg : (ms.map st)[j]? = some (st c) := by rw [List.getElem?_map, List.getElem?_eq_getElem hj, hx]; rfl
    have hg2 : ∀ h, (ms.map st)[j]'h = st c := fun h => (List.getElem?_eq_some_iff.1 hg).2
    have hw : IntKind.i64.wrap ((j : Int) + 1) = (j : Int) + 1 := wr64 (by omega) (by omega)
    have hP := free_pr A
    have hPl : (A.map pr).length = A.length := List.length_map _
    have stay : cpJ d i a (c :: t) j = cpJ d i a t (j + 1) → (a.size ≠ c.size ∨ (a.size = c.size ∧ d < ((ap (B a) (B c) : Nat) : Int))) →
        packX 0 [1, 2, 5, 6] (loopW (bd E0 (ev E0) loopW 0 [1, 2, 5, 6, 7] L45b0) ⟨[(1, i64 d), (2, .ptr 0 0 0), (5, .sl 1 0 A.length), (6, i64 i), (7, i64 j)], [some ⟨26, 1, 0, false, [.agg [.lst 1 (ms.map st)]]⟩, some (pb A)]⟩) = some (.ext 2, ⟨[(1, i64 d), (2, .ptr 0 0 0), (5, .sl 1 0 (A ++ cpJ d i a (c :: t) j).length), (6, i64 i)], [some ⟨26, 1, 0, false, [.agg [.lst 1 (ms.map st)]]⟩, some (pb (A ++ cpJ d i a (c :: t) j))]⟩) := by
      intro he hno
      have hih := ih (j + 1) A hdr (by omega)
      rw [he]
      rw [cs1] at hih
      rw [loopW_eq]
      clear ih he
      generalize A ++ cpJ d i a t (j + 1) = R at *
      unfold pb at *
      rcases hno with hno | ⟨hs1, hno⟩
      · have hno2 : ¬ (a.size : Int) = (c.size : Int) := by omega
        generalize ms.map st = Q at *
        generalize A.map pr = P at *
        generalize loopW (bd E0 (ev E0) loopW 0 [1, 2, 5, 6, 7] L45b0) = K at hih ⊢
        simpa -implicitDefEqProofs [bd, L45b0, hi, hii, hj, hjj, hQ, hfr, hP, hPl, hg, hg2, hgi, hgi2, hw, hno, hno2] using hih
      · have e := apart_s a c hs1 haz
        have hd1 : decide (a.size = c.size) = true := decide_eq_true hs1
        have hd2 : decide ((a.size : Int) = (c.size : Int)) = true := decide_eq_true (by omega)
        have hd3 : ¬ ((ap (B a) (B c) : Nat) : Int) ≤ d := by omega
        generalize ((ap (B a) (B c) : Nat) : Int) = q at *
        generalize ms.map st = Q at *
        generalize A.map pr = P at *
        generalize loopW (bd E0 (ev E0) loopW 0 [1, 2, 5, 6, 7] L45b0) = K at hih ⊢
        simpa -implicitDefEqProofs [bd, L45b0, hi, hii, hj, hjj, hQ, hfr, hP, hPl, hg, hg2, hgi, hgi2, hw, hs1, e, hd3] using hih
    by_cases hs1 : a.size = c.size
    · by_cases hle : ((ap (B a) (B c) : Nat) : Int) ≤ d
      · have hcp : cpJ d i a (c :: t) j = (i, j) :: cpJ d i a t (j + 1) := by
          rw [cpJ, if_pos ⟨hs1, hle⟩]; rfl
        have hih := ih (j + 1) (A ++ [(i, j)]) hdr (by simp; omega)
        rw [List.append_assoc, List.singleton_append, ← hcp, cs1] at hih
        have e := apart_s a c hs1 haz
        have hap : (A ++ [(i, j)]).map pr = A.map pr ++ [.agg [i64 (i : Int), i64 (j : Int)]] := by rw [List.map_append]; rfl
        have hpl : (A ++ [(i, j)]).length = A.length + 1 := by simp
        have hl1 : (A.length + 1) * 16 ≤ 140737488355328 := by omega
        have hl2 : A.length + 1 ≤ 140737488355328 := by omega
        have htk : List.take A.length (A.map pr) = A.map pr := List.take_of_length_le (by simp)
        rw [loopW_eq]
        clear ih stay hcp
        generalize A ++ cpJ d i a (c :: t) j = R at *
        unfold pb at *
        rw [hap, hpl] at hih
        clear hap hpl
        generalize ((ap (B a) (B c) : Nat) : Int) = q at *
        generalize ms.map st = Q at *
        generalize A.map pr = P at *
        generalize loopW (bd E0 (ev E0) loopW 0 [1, 2, 5, 6, 7] L45b0) = K at hih ⊢
        simpa -implicitDefEqProofs [bd, L45b0, hi, hii, hj, hjj, hQ, hfr, hP, hPl, hg, hg2, hgi, hgi2, hw, hs1, e, hle, hl1, hl2, htk] using hih
      · exact stay (by rw [cpJ, if_neg (fun e => hle e.2)]; rfl) (.inr ⟨hs1, by omega⟩)
    · exact stay (by rw [cpJ, if_neg (fun e => hs1 e.1)]; rfl) (.inl hs1)
theorem cpI_loop_s (d : Int) (ms : List ByteArray) (hm : ms.length ≤ 100) (hz : ∀ m ∈ ms, m.size ≤ 1000) : ∀ (t : List ByteArray) (i : Nat) (A : List (Nat × Nat)), ms.drop i = t → A.length ≤ i * 100 → t.length ≤ 100 →
    packX 0 [5] (loopW (bd E0 (ev E0) loopW 0 [1, 2, 5, 6] L45b1) ⟨[(1, i64 d), (2, .ptr 0 0 0), (5, .sl 1 0 A.length), (6, i64 i)], [some ⟨26, 1, 0, false, [.agg [.lst 1 (ms.map st)]]⟩, some (pb A)]⟩) = some (.ext 0, ⟨[(5, .sl 0 0 (A ++ cpI d t i).length)], [some (pb (A ++ cpI d t i))]⟩) := by
  have hfr := free_st ms
  have hQ : (ms.map st).length = ms.length := List.length_map _
  intro t
  induction t with
  | nil =>
    intro i A h hA _
    have hj := not_drop h
    have hjj : ¬ (i : Int) < (ms.length : Int) := by omega
    have hP := free_pr A
    have hPl : (A.map pr).length = A.length := List.length_map _
    rw [cpI, List.append_nil, loopW_eq]
    unfold pb
    generalize ms.map st = Q at *
    generalize A.map pr = P at *
    generalize loopW (bd E0 (ev E0) loopW 0 [1, 2, 5, 6] L45b1) = K
    unfold bd
    simp -implicitDefEqProofs [L45b1, hj, hjj, hQ, hfr, hP, hPl]
  | cons c t ih =>
    intro i A h hA ht
    rw [List.length_cons] at ht
    obtain ⟨hi, hx, hdr, hmem⟩ := at_drop h
    have hii : (i : Int) < (ms.length : Int) := by omega
    have hg : (ms.map st)[i]? = some (st c) := by rw [List.getElem?_map, List.getElem?_eq_getElem hi, hx]; rfl
    have hg2 : ∀ h, (ms.map st)[i]'h = st c := fun h => (List.getElem?_eq_some_iff.1 hg).2
    have hw : IntKind.i64.wrap ((i : Int) + 1) = (i : Int) + 1 := wr64 (by omega) (by omega)
    have h0 := cpJ_loop_s d ms hm hz i hi c (by rw [List.getElem?_eq_getElem hi, hx]) t (i + 1) A hdr (by omega)
    have hlen := cpJ_len d i c t (i + 1)
    have hih := ih (i + 1) (A ++ cpJ d i c t (i + 1)) hdr (by rw [List.length_append]; omega) (by omega)
    rw [List.append_assoc, show cpJ d i c t (i + 1) ++ cpI d t (i + 1) = cpI d (c :: t) i from rfl, cs1] at hih
    rw [cs1] at h0
    have hP := free_pr A
    have hPl : (A.map pr).length = A.length := List.length_map _
    have hP3 := free_pr (A ++ cpJ d i c t (i + 1))
    have hPl3 : ((A ++ cpJ d i c t (i + 1)).map pr).length = (A ++ cpJ d i c t (i + 1)).length := List.length_map _
    rw [loopW_eq]
    clear ih
    generalize A ++ cpI d (c :: t) i = R at *
    generalize A ++ cpJ d i c t (i + 1) = A2 at *
    unfold pb at *
    generalize A.map pr = P at *
    generalize A2.map pr = P2 at *
    generalize ms.map st = Q at *
    generalize loopW (bd E0 (ev E0) loopW 0 [1, 2, 5, 6] L45b1) = K at hih ⊢
    unfold bd
    simpa -implicitDefEqProofs [L45b1, hi, hii, hQ, hfr, hP, hPl, hP3, hPl3, hg, hg2, hw, h0] using hih
theorem close_s (d : Int) (ms : List ByteArray) (hm : ms.length ≤ 100) (hz : ∀ m ∈ ms, m.size ≤ 1000) : ev E0 45 [.agg [.lst 1 (ms.map st)], i64 d] [] = some (.sl 0 0 (cp ms d).length, [some (pb (cp ms d))]) := by
  have h := cpI_loop_s d ms hm hz ms 0 [] rfl (Nat.zero_le _) hm
  rw [List.nil_append, show cpI d ms 0 = cp ms d from rfl, c0] at h
  have hfr := free_st ms
  have hQ : (ms.map st).length = ms.length := List.length_map _
  have hP := free_pr (cp ms d)
  have hPl : ((cp ms d).map pr).length = (cp ms d).length := List.length_map _
  rw [e45]
  unfold runF
  unfold pb at *
  rw [List.length_nil, List.map_nil] at h
  generalize cp ms d = C at *
  generalize C.map pr = P at *
  generalize ms.map st = Q at *
  simp -implicitDefEqProofs [L45, h, hP, hPl, hQ, hfr]
end Go.Proofs.YtgecnbafmlecjaaGreatDoor.Ev

namespace Go.Proofs.YtgecnbafmlecjaaGreatDoor.Ev
open Fr Nz Mw
theorem lea_loop_i (ms : List ByteArray) (hm : ms.length ≤ 100) (hz : ∀ m ∈ ms, m.size ≤ 1000) : ∀ (k d : Nat), d + k = 6 →
    packX 0 [2, 3] (loopW (bd E0 (ev E0) loopW 0 [1, 4] L16b0) ⟨[(1, .ptr 0 0 0), (4, i64 d)], [some ⟨26, 1, 0, false, [.agg [.lst 1 (ms.map st)]]⟩]⟩) = (match lea ms d k with | some e => some (.ret, ⟨[(2, i64 (e : Int)), (3, bl true)], []⟩) | none => some (.ext 0, ⟨[], []⟩)) := by
  have hfr := free_st ms
  have hQ : (ms.map st).length = ms.length := List.length_map _
  intro k
  induction k with
  | zero =>
    intro d h
    have hd : ¬ (d : Int) ≤ 5 := by omega
    have hd2 : ¬ d ≤ 5 := by omega
    rw [lea, loopW_eq]
    generalize loopW (bd E0 (ev E0) loopW 0 [1, 4] L16b0) = K
    simp -implicitDefEqProofs [bd, L16b0, hd, hd2]
  | succ k ih =>
    intro d h
    have hih := ih (d + 1) (by omega)
    have hd : (d : Int) ≤ 5 := by omega
    have hd2 : d ≤ 5 := by omega
    have hw : IntKind.i64.wrap ((d : Int) + 1) = (d : Int) + 1 := wr64 (by omega) (by omega)
    have e := close_i (d : Int) ms hm hz
    rw [lea]
    by_cases hc : cp ms (d : Int) ≠ []
    · rw [if_pos hc]
      have hl : 0 < (cp ms (d : Int)).length := List.length_pos_iff.2 hc
      have hl2 : (0 : Int) < ((cp ms (d : Int)).length : Int) := by omega
      unfold pb at e
      rw [loopW_eq]
      clear ih hih hc
      generalize cp ms (d : Int) = C at *
      generalize C.map pr = P at *
      generalize ms.map st = Q at *
      generalize loopW (bd E0 (ev E0) loopW 0 [1, 4] L16b0) = K
      simp -implicitDefEqProofs [bd, L16b0, hd, hd2, e, hl, hl2, hfr]
    · rw [if_neg hc]
      have hc2 : cp ms (d : Int) = [] := Classical.not_not.1 hc
      rw [hc2] at e
      unfold pb at e
      rw [List.map_nil, List.length_nil] at e
      rw [cs1] at hih
      rw [loopW_eq]
      clear ih hc hc2
      generalize lea ms (d + 1) k = LL at *
      generalize ms.map st = Q at *
      generalize loopW (bd E0 (ev E0) loopW 0 [1, 4] L16b0) = K at hih ⊢
      simpa -implicitDefEqProofs [bd, L16b0, hd, hd2, e, hw, hfr] using hih
theorem least_i (ms : List ByteArray) (hm : ms.length ≤ 100) (hz : ∀ m ∈ ms, m.size ≤ 1000) : ev E0 16 [.agg [.lst 1 (ms.map st)]] [] = some (match (if okTable ms = true then lea ms 1 5 else none) with | some e => .tup [i64 (e : Int), bl true] | none => .tup [i64 0, bl false], []) := by
  have hl := lea_loop_i ms hm hz 5 1 rfl
  have h1 := table_i ms (by omega) (fun x hx => Nat.le_trans (hz x hx) (by decide))
  have hfr := free_st ms
  rw [e16]
  unfold runF
  generalize ms.map st = Q at *
  cases ho : okTable ms with
  | false =>
    rw [ho] at h1
    rw [if_neg (show ¬ (false = true) by decide)]
    simp -implicitDefEqProofs [L16, h1, hfr]
  | true =>
    rw [ho] at h1
    rw [if_pos (show true = true from rfl)]
    rw [show ((1 : Nat) : Int) = 1 from rfl] at hl
    cases hle : lea ms 1 5 with
    | none =>
      rw [hle] at hl
      simp only [] at hl
      simp -implicitDefEqProofs [L16, h1, hl, hfr]
    | some e =>
      rw [hle] at hl
      simp only [] at hl
      simp -implicitDefEqProofs [L16, h1, hl, hfr]
theorem lea_loop_s (ms : List ByteArray) (hm : ms.length ≤ 100) (hz : ∀ m ∈ ms, m.size ≤ 1000) : ∀ (k d : Nat), d + k = 6 →
    packX 0 [2, 3] (loopW (bd E0 (ev E0) loopW 0 [1, 4] L17b0) ⟨[(1, .ptr 0 0 0), (4, i64 d)], [some ⟨26, 1, 0, false, [.agg [.lst 1 (ms.map st)]]⟩]⟩) = (match lea ms d k with | some e => some (.ret, ⟨[(2, i64 (e : Int)), (3, bl true)], []⟩) | none => some (.ext 0, ⟨[], []⟩)) := by
  have hfr := free_st ms
  have hQ : (ms.map st).length = ms.length := List.length_map _
  intro k
  induction k with
  | zero =>
    intro d h
    have hd : ¬ (d : Int) ≤ 5 := by omega
    have hd2 : ¬ d ≤ 5 := by omega
    rw [lea, loopW_eq]
    generalize loopW (bd E0 (ev E0) loopW 0 [1, 4] L17b0) = K
    simp -implicitDefEqProofs [bd, L17b0, hd, hd2]
  | succ k ih =>
    intro d h
    have hih := ih (d + 1) (by omega)
    have hd : (d : Int) ≤ 5 := by omega
    have hd2 : d ≤ 5 := by omega
    have hw : IntKind.i64.wrap ((d : Int) + 1) = (d : Int) + 1 := wr64 (by omega) (by omega)
    have e := close_s (d : Int) ms hm hz
    rw [lea]
    by_cases hc : cp ms (d : Int) ≠ []
    · rw [if_pos hc]
      have hl : 0 < (cp ms (d : Int)).length := List.length_pos_iff.2 hc
      have hl2 : (0 : Int) < ((cp ms (d : Int)).length : Int) := by omega
      unfold pb at e
      rw [loopW_eq]
      clear ih hih hc
      generalize cp ms (d : Int) = C at *
      generalize C.map pr = P at *
      generalize ms.map st = Q at *
      generalize loopW (bd E0 (ev E0) loopW 0 [1, 4] L17b0) = K
      simp -implicitDefEqProofs [bd, L17b0, hd, hd2, e, hl, hl2, hfr]
    · rw [if_neg hc]
      have hc2 : cp ms (d : Int) = [] := Classical.not_not.1 hc
      rw [hc2] at e
      unfold pb at e
      rw [List.map_nil, List.length_nil] at e
      rw [cs1] at hih
      rw [loopW_eq]
      clear ih hc hc2
      generalize lea ms (d + 1) k = LL at *
      generalize ms.map st = Q at *
      generalize loopW (bd E0 (ev E0) loopW 0 [1, 4] L17b0) = K at hih ⊢
      simpa -implicitDefEqProofs [bd, L17b0, hd, hd2, e, hw, hfr] using hih
theorem least_s (ms : List ByteArray) (hm : ms.length ≤ 100) (hz : ∀ m ∈ ms, m.size ≤ 1000) : ev E0 17 [.agg [.lst 1 (ms.map st)]] [] = some (match (if okTable ms = true then lea ms 1 5 else none) with | some e => .tup [i64 (e : Int), bl true] | none => .tup [i64 0, bl false], []) := by
  have hl := lea_loop_s ms hm hz 5 1 rfl
  have h1 := table_s ms (by omega) (fun x hx => Nat.le_trans (hz x hx) (by decide))
  have hfr := free_st ms
  rw [e17]
  unfold runF
  generalize ms.map st = Q at *
  cases ho : okTable ms with
  | false =>
    rw [ho] at h1
    rw [if_neg (show ¬ (false = true) by decide)]
    simp -implicitDefEqProofs [L17, h1, hfr]
  | true =>
    rw [ho] at h1
    rw [if_pos (show true = true from rfl)]
    rw [show ((1 : Nat) : Int) = 1 from rfl] at hl
    cases hle : lea ms 1 5 with
    | none =>
      rw [hle] at hl
      simp only [] at hl
      simp -implicitDefEqProofs [L17, h1, hl, hfr]
    | some e =>
      rw [hle] at hl
      simp only [] at hl
      simp -implicitDefEqProofs [L17, h1, hl, hfr]
def okCP (ms : List ByteArray) (d : Int) : Bool := okTable ms && (decide (1 ≤ d) && decide (d ≤ 5))
theorem closeP_i (d : Int) (ms : List ByteArray) (hm : ms.length ≤ 100) (hz : ∀ m ∈ ms, m.size ≤ 1000) : (okCP ms d = false → ev E0 14 [.agg [.lst 1 (ms.map st)], i64 d] [] = some (.tup [.v (.slice none 0 0), bl false], [])) ∧
    (okCP ms d = true → ev E0 14 [.agg [.lst 1 (ms.map st)], i64 d] [] = some (.tup [.sl 0 0 (cp ms d).length, bl true], [some (pb (cp ms d))])) := by
  have h1 := table_i ms (by omega) (fun x hx => Nat.le_trans (hz x hx) (by decide))
  have h2 := in_i d 1 5
  have h3 := close_i d ms hm hz
  have hfr := free_st ms
  have hP := free_pr (cp ms d)
  have hPl : ((cp ms d).map pr).length = (cp ms d).length := List.length_map _
  unfold okCP
  rw [e14]
  unfold runF
  unfold pb at *
  try rw [List.map_nil]
  generalize cp ms d = C at *
  generalize C.map pr = P at *
  generalize ms.map st = Q at *
  cases ho : okTable ms <;> cases hi : (decide (1 ≤ d) && decide (d ≤ 5)) <;> rw [ho] at h1 <;> rw [hi] at h2 <;> refine ⟨fun h => ?_, fun h => ?_⟩ <;> first | (exact absurd h (by decide)) | simp -implicitDefEqProofs [L14, h1, h2, h3, hP, hPl, hfr]
theorem closeP_s (d : Int) (ms : List ByteArray) (hm : ms.length ≤ 100) (hz : ∀ m ∈ ms, m.size ≤ 1000) : (okCP ms d = false → ev E0 15 [.agg [.lst 1 (ms.map st)], i64 d] [] = some (.tup [.sl 0 0 0, bl false], [some (pb [])])) ∧
    (okCP ms d = true → ev E0 15 [.agg [.lst 1 (ms.map st)], i64 d] [] = some (.tup [.sl 0 0 (cp ms d).length, bl true], [some (pb (cp ms d))])) := by
  have h1 := table_s ms (by omega) (fun x hx => Nat.le_trans (hz x hx) (by decide))
  have h2 := in_s d 1 5
  have h3 := close_s d ms hm hz
  have hfr := free_st ms
  have hP := free_pr (cp ms d)
  have hPl : ((cp ms d).map pr).length = (cp ms d).length := List.length_map _
  unfold okCP
  rw [e15]
  unfold runF
  unfold pb at *
  try rw [List.map_nil]
  generalize cp ms d = C at *
  generalize C.map pr = P at *
  generalize ms.map st = Q at *
  cases ho : okTable ms <;> cases hi : (decide (1 ≤ d) && decide (d ≤ 5)) <;> rw [ho] at h1 <;> rw [hi] at h2 <;> refine ⟨fun h => ?_, fun h => ?_⟩ <;> first | (exact absurd h (by decide)) | simp -implicitDefEqProofs [L15, h1, h2, h3, hP, hPl, hfr]
end Go.Proofs.YtgecnbafmlecjaaGreatDoor.Ev

