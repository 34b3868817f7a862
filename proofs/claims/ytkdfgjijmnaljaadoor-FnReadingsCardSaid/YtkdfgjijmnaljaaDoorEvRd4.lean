/- Borders of readings: what the reference answers. -/
import Derived.Test.YtkdfgjijmnaljaaDoorEvRd3
set_option linter.unusedVariables false
set_option linter.unusedSimpArgs false
namespace Go.Proofs.YtkdfgjijmnaljaaDoor.Ev
/-- A row told by what stands at each place. -/
def tab (n : Nat) (g : Nat → Nat) : List Nat := (List.range (n + 1)).map g
theorem tab_len (n : Nat) (g : Nat → Nat) : (tab n g).length = n + 1 := by simp [tab]
theorem tab_congr {n : Nat} {f g : Nat → Nat} (h : ∀ p, p ≤ n → f p = g p) : tab n f = tab n g := List.map_congr_left fun p hp => h p (by have := List.mem_range.1 hp; omega)
theorem tab_at (n : Nat) (g : Nat → Nat) (k : Nat) (hk : k ≤ n) : (ns (tab n g))[k]? = some (i64 ((g k : Nat) : Int)) := by
  unfold ns tab
  rw [List.getElem?_map, List.getElem?_map, List.getElem?_range (by omega)]
  rfl
theorem tab_set (n : Nat) (g : Nat → Nat) (k v : Nat) : (ns (tab n g)).set k (i64 (v : Int)) = ns (tab n fun p => if p = k then v else g p) := by
  unfold ns
  rw [← List.map_set]
  congr 1
  apply List.ext_getElem?
  intro i
  rw [List.getElem?_set]
  by_cases hi : i < n + 1
  · have h1 : (tab n g)[i]? = some (g i) := by unfold tab; rw [List.getElem?_map, List.getElem?_range hi]; rfl
    have h2 : (tab n fun p => if p = k then v else g p)[i]? = some (if i = k then v else g i) := by unfold tab; rw [List.getElem?_map, List.getElem?_range hi]; rfl
    rw [h1, h2, tab_len]
    by_cases hk : k = i
    · rw [if_pos hk, if_pos hk.symm, if_pos (by omega)]
    · rw [if_neg hk, if_neg (fun e => hk e.symm)]
  · have h1 : (tab n g)[i]? = none := List.getElem?_eq_none (by rw [tab_len]; omega)
    have h2 : (tab n fun p => if p = k then v else g p)[i]? = none := List.getElem?_eq_none (by rw [tab_len]; omega)
    rw [h1, h2, tab_len]
    by_cases hk : k = i
    · rw [if_pos hk, if_neg (by omega)]
    · rw [if_neg hk]
/-- What the letters that stand at k add. -/
def ad (s : ByteArray) (k a : Nat) (t : List ByteArray) (g : Nat → Nat) : Nat → Nat := fun p => g p + Rd.sm (fun m => if Rd.pre (B m) ((B s).drop k) = true ∧ k + m.size = p then a else 0) t
theorem ad_cons (s : ByteArray) (k a : Nat) (m : ByteArray) (t : List ByteArray) (g : Nat → Nat) : ad s k a (m :: t) g = ad s k a t (fun p => g p + if Rd.pre (B m) ((B s).drop k) = true ∧ k + m.size = p then a else 0) := by
  funext p
  unfold ad
  rw [Rd.sm]
  dsimp only
  omega
theorem fwd_loop (s : ByteArray) (hs : s.size ≤ 1000) (ms : List ByteArray) (hm : ms.length ≤ 1000) (hz : ∀ m ∈ ms, 1 ≤ m.size ∧ m.size ≤ 1000) (V : List Nat) (k : Nat) (hk : k < s.size) (a : Nat) (ha : a ≤ 1099511627776) : ∀ (t : List ByteArray) (j : Nat) (g : Nat → Nat), ms.drop j = t → g k = a → (∀ p, p ≤ s.size → ad s k a t g p ≤ 1099511627776) →
    packX 0 [1, 2, 6, 7, 8] (loopW (bd E0 (ev E0) loopW 0 [1, 2, 6, 7, 8, 9] L63b1) ⟨[(1, st s), (2, .ptr 0 0 0), (6, .lst 1 (ns V)), (7, .sl 1 0 (s.size + 1)), (8, i64 k), (9, i64 j)], [some (tb ms), some (ib (tab s.size g))]⟩) =
      some (.ext 2, ⟨[(1, st s), (2, .ptr 0 0 0), (6, .lst 1 (ns V)), (7, .sl 1 0 (s.size + 1)), (8, i64 k)], [some (tb ms), some (ib (tab s.size (ad s k a t g)))]⟩) := by
  unfold tb ib
  intro t
  induction t with
  | nil =>
    intro j g hj hg hb
    have hi := not_drop hj
    have e1 : ad s k a [] g = g := rfl
    rw [e1, loopW_eq]
    generalize loopW (bd E0 (ev E0) loopW 0 [1, 2, 6, 7, 8, 9] L63b1) = K
    simp -implicitDefEqProofs [bd, L63b1, hi]
  | cons m t ih =>
    intro j g hj hg hb
    obtain ⟨hi, hx, hd, hmem⟩ := at_drop hj
    obtain ⟨hm1, hm2⟩ := hz m hmem
    have hw : IntKind.i64.wrap ((j : Int) + 1) = (j : Int) + 1 := wr64 (by omega) (by omega)
    have hp := stands_s s m k (by omega) (by omega) (by omega)
    have hx2 : (ms.map st)[j]? = some (st m) := by rw [List.getElem?_map, List.getElem?_eq_getElem hi, hx]; rfl
    by_cases h : Rd.pre (B m) ((B s).drop k) = true
    · have hle := Rd.pre_len h
      rw [List.length_drop, B_len, B_len] at hle
      have hih := ih (j + 1) (fun p => if p = k + m.size then g (k + m.size) + a else g p) hd (by show (if _ then _ else _) = a; rw [if_neg (by omega)]; exact hg) (fun p hp2 => by
        have h1 := hb p hp2
        rw [ad_cons] at h1
        unfold ad at h1 ⊢
        dsimp only at h1 ⊢
        by_cases e : p = k + m.size
        · subst e
          rw [if_pos ⟨h, rfl⟩] at h1
          rw [if_pos rfl]
          exact h1
        · rw [if_neg (fun hh => e hh.2.symm), Nat.add_zero] at h1
          rw [if_neg e]
          exact h1)
      rw [cs1] at hih
      have e1 : ad s k a (m :: t) g = ad s k a t (fun p => if p = k + m.size then g (k + m.size) + a else g p) := by
        rw [ad_cons]
        congr 1
        funext p
        by_cases e : p = k + m.size
        · subst e
          rw [if_pos ⟨h, rfl⟩, if_pos rfl]
        · rw [if_neg (fun hh => e hh.2.symm), if_neg e, Nat.add_zero]
      have hbq := hb (k + m.size) (by omega)
      rw [ad_cons] at hbq
      unfold ad at hbq
      dsimp only at hbq
      rw [if_pos ⟨h, rfl⟩] at hbq
      rw [h] at hp
      have g1 := tab_at s.size g k (by omega)
      rw [hg] at g1
      have g2 := tab_at s.size g (k + m.size) (by omega)
      have g3 := tab_set s.size g (k + m.size) (g (k + m.size) + a)
      have hl := ns_len (tab s.size g)
      rw [tab_len] at hl
      rw [e1, loopW_eq]
      generalize loopW (bd E0 (ev E0) loopW 0 [1, 2, 6, 7, 8, 9] L63b1) = K at hih ⊢
      generalize g (k + m.size) = y at *
      have w1 : IntKind.i64.wrap ((k : Int) + (m.size : Int)) = ((k + m.size : Nat) : Int) := by rw [wr64 (by omega) (by omega)]; omega
      have w2 : IntKind.i64.wrap ((y : Int) + (a : Int)) = ((y + a : Nat) : Int) := by rw [wr64 (by omega) (by omega)]; omega
      have q1 : k < s.size + 1 := by omega
      have q2 : k + m.size < s.size + 1 := by omega
      have q3 : (k : Int) < (s.size : Int) + 1 := by omega
      have q4 : ((k + m.size : Nat) : Int) < (s.size : Int) + 1 := by omega
      have g4 : ∀ h, (ns (tab s.size g))[k]'h = i64 (a : Int) := fun h => (List.getElem?_eq_some_iff.1 g1).2
      have g5 : ∀ h, (ns (tab s.size g))[k + m.size]'h = i64 (y : Int) := fun h => (List.getElem?_eq_some_iff.1 g2).2
      simpa -implicitDefEqProofs [bd, L63b1, hi, hx, hx2, hp, hw, w1, w2, q1, q2, q3, q4, g1, g2, g3, g4, g5, hl, -Int.natCast_add] using hih
    · have hih := ih (j + 1) g hd hg (fun p hp2 => by
        have h1 := hb p hp2
        rw [ad_cons] at h1
        unfold ad at h1 ⊢
        dsimp only at h1 ⊢
        rw [if_neg (fun hh => h hh.1)] at h1
        exact h1)
      rw [cs1] at hih
      have e1 : ad s k a (m :: t) g = ad s k a t g := by
        rw [ad_cons]
        congr 1
        funext p
        rw [if_neg (fun hh => h hh.1), Nat.add_zero]
      have h' : Rd.pre (B m) ((B s).drop k) = false := by simpa using h
      rw [h'] at hp
      rw [e1, loopW_eq]
      generalize loopW (bd E0 (ev E0) loopW 0 [1, 2, 6, 7, 8, 9] L63b1) = K at hih ⊢
      simpa -implicitDefEqProofs [bd, L63b1, hi, hx, hx2, hp, hw] using hih
/-- The readings of the text ahead whose last letter begins before k. -/
def part (ms : List ByteArray) (s : ByteArray) (k p : Nat) : Nat := if p = 0 then 1 else Rd.sm (fun m => if Rd.suf (B m) ((B s).take p) = true ∧ p - m.size < k then Rd.wy (ms.map B) ((B s).take (p - m.size)) else 0) ms
theorem stand_iff {m S : List UInt8} {k p : Nat} (hk : k ≤ S.length) (hp : p ≤ S.length) : (Rd.pre m (S.drop k) = true ∧ k + m.length = p) ↔ (Rd.suf m (S.take p) = true ∧ p - m.length = k) := by
  rw [Rd.pre_iff, Rd.suf_iff, List.length_take, Nat.min_eq_left hp]
  constructor
  · rintro ⟨h1, h2⟩
    subst h2
    refine ⟨⟨?_, by omega⟩, by omega⟩
    have hS : S = S.take k ++ (m ++ (S.drop k).drop m.length) := by rw [← h1, List.take_append_drop]
    have hlk : (S.take k).length = k := by rw [List.length_take]; omega
    have e : S.take (k + m.length) = S.take k ++ m := by
      conv => lhs; rw [hS]
      rw [← List.append_assoc, List.take_left' (by rw [List.length_append, hlk])]
    rw [e, Nat.add_sub_cancel, List.take_left' hlk]
  · rintro ⟨⟨h1, h2⟩, h3⟩
    have hpk : p = k + m.length := by omega
    refine ⟨?_, by omega⟩
    rw [List.take_take, h3, Nat.min_eq_left (by omega)] at h1
    have hlk : (S.take k).length = k := by rw [List.length_take]; omega
    have hS : S = S.take k ++ m ++ S.drop p := by rw [← h1, List.take_append_drop]
    have e : S.drop k = m ++ S.drop p := by
      conv => lhs; rw [hS]
      rw [List.append_assoc, List.drop_left' hlk]
    rw [e, List.drop_left]
theorem part_full {ms : List ByteArray} (hv : VT ms) (s : ByteArray) (k p : Nat) (hk : p ≤ k) (hp : p ≤ s.size) : part ms s k p = Rd.wy (ms.map B) ((B s).take p) := by
  have hl := B_len s
  unfold part
  by_cases h0 : p = 0
  · subst h0
    rw [if_pos rfl]
    rfl
  · have hl2 : ((B s).take p).length = p := by rw [List.length_take]; omega
    have hne : (B s).take p ≠ [] := fun e => by rw [e] at hl2; exact h0 hl2.symm
    rw [if_neg h0, Rd.wy_last hv.ne _ _ (Nat.le_refl _) hne, sm_map]
    refine Rd.sm_congr fun m hm => ?_
    have hm1 := hv.sz m hm
    rw [hl2, B_len, List.take_take, Nat.min_eq_left (by omega)]
    by_cases h : Rd.suf (B m) ((B s).take p) = true
    · rw [if_pos ⟨h, by omega⟩, if_pos h]
    · rw [if_neg (fun hh => h hh.1), if_neg h]
theorem part_step {ms : List ByteArray} (hv : VT ms) (s : ByteArray) (k p : Nat) (hk : k < s.size) (hp : p ≤ s.size) : ad s k (part ms s k k) ms (part ms s k) p = part ms s (k + 1) p := by
  have hl := B_len s
  rw [part_full hv s k k (Nat.le_refl _) (by omega)]
  unfold ad
  by_cases h0 : p = 0
  · subst h0
    have hz : Rd.sm (fun m => if Rd.pre (B m) ((B s).drop k) = true ∧ k + m.size = 0 then Rd.wy (ms.map B) ((B s).take k) else 0) ms = 0 := by
      refine (Rd.sm_congr (g := fun _ => 0) fun m hm => ?_).trans (Rd.sm_zero ms)
      have hm1 := hv.sz m hm
      rw [if_neg (by omega)]
    rw [hz]
    unfold part
    rw [if_pos rfl, if_pos rfl]
  · unfold part
    rw [if_neg h0, if_neg h0, ← Rd.sm_add]
    refine Rd.sm_congr fun m hm => ?_
    have hm1 := hv.sz m hm
    have hst := stand_iff (m := B m) (S := B s) (k := k) (p := p) (by omega) (by omega)
    rw [B_len] at hst
    by_cases hq : Rd.suf (B m) ((B s).take p) = true
    · by_cases e : p - m.size = k
      · rw [if_neg (by omega), if_pos (hst.2 ⟨hq, e⟩), if_pos ⟨hq, by omega⟩, e, Nat.zero_add]
      · rw [if_neg (c := Rd.pre (B m) ((B s).drop k) = true ∧ k + m.size = p) (fun hh => e (hst.1 hh).2), Nat.add_zero]
        by_cases e2 : p - m.size < k
        · rw [if_pos ⟨hq, e2⟩, if_pos ⟨hq, by omega⟩]
        · rw [if_neg (fun hh => e2 hh.2), if_neg (fun hh => by omega)]
    · rw [if_neg (fun hh => hq hh.1), if_neg (fun hh => hq (hst.1 hh).1), if_neg (fun hh => hq hh.1)]
theorem part_le {ms : List ByteArray} (hv : VT ms) (s : ByteArray) (hs : s.size ≤ 40) (k p : Nat) (hp : p ≤ s.size) : part ms s k p ≤ 1099511627776 := by
  have h := wy_bound hv ((B s).take p) (by rw [List.length_take, B_len]; omega)
  rw [← part_full hv s p p (Nat.le_refl _) hp] at h
  refine Nat.le_trans ?_ h
  unfold part
  split
  · exact Nat.le_refl _
  · refine Rd.sm_le fun m hm => ?_
    have hm1 := hv.sz m hm
    by_cases hq : Rd.suf (B m) ((B s).take p) = true ∧ p - m.size < k
    · rw [if_pos hq, if_pos ⟨hq.1, by omega⟩]
      exact Nat.le_refl _
    · rw [if_neg hq]
      exact Nat.zero_le _
theorem fwd_outer (s : ByteArray) (hs : s.size ≤ 40) (ms : List ByteArray) (hv : VT ms) (V : List Nat) : ∀ (d k : Nat), k + d = s.size →
    packX 0 [1, 6, 7] (loopW (bd E0 (ev E0) loopW 0 [1, 2, 6, 7, 8] L63b2) ⟨[(1, st s), (2, .ptr 0 0 0), (6, .lst 1 (ns V)), (7, .sl 1 0 (s.size + 1)), (8, i64 k)], [some (tb ms), some (ib (tab s.size (part ms s k)))]⟩) =
      some (.ext 0, ⟨[(1, st s), (6, .lst 1 (ns V)), (7, .sl 0 0 (s.size + 1))], [some (ib (tab s.size (part ms s s.size)))]⟩) := by
  intro d
  induction d with
  | zero =>
    intro k hk
    obtain rfl : k = s.size := by omega
    have hi : ¬ (s.size : Int) < (s.size : Int) := by omega
    rw [loopW_eq]
    generalize loopW (bd E0 (ev E0) loopW 0 [1, 2, 6, 7, 8] L63b2) = K
    unfold bd
    simp -implicitDefEqProofs [L63b2, ib, tb, hi]
  | succ d ih =>
    intro k hk
    have hih := ih (k + 1) (by omega)
    rw [cs1] at hih
    have hin := fwd_loop s (by omega) ms (by have := hv.len; omega) (fun m hm => by have := hv.sz m hm; omega) V k (by omega) (part ms s k k) (part_le hv s hs k k (by omega)) ms 0 (part ms s k) rfl rfl (fun p hp => by rw [part_step hv s k p (by omega) hp]; exact part_le hv s hs _ p hp)
    rw [c0, tab_congr (f := ad s k (part ms s k k) ms (part ms s k)) (g := part ms s (k + 1)) (fun p hp => part_step hv s k p (by omega) hp)] at hin
    have hki : (k : Int) < (s.size : Int) := by omega
    have hw : IntKind.i64.wrap ((k : Int) + 1) = (k : Int) + 1 := wr64 (by omega) (by omega)
    rw [loopW_eq]
    generalize tab s.size (part ms s k) = A at *
    generalize tab s.size (part ms s (k + 1)) = A2 at *
    generalize loopW (bd E0 (ev E0) loopW 0 [1, 2, 6, 7, 8] L63b2) = K at hih ⊢
    unfold bd
    simp only [ib, tb] at hin hih ⊢
    simpa -implicitDefEqProofs [L63b2, hin, hw, hki] using hih
/-- The products, up to a place. -/
def pr (ms : List ByteArray) (s : ByteArray) (k p : Nat) : Nat := if p < k then nb ms s p else Rd.wy (ms.map B) ((B s).take p)
theorem mul_loop (s : ByteArray) (hs : s.size ≤ 40) (ms : List ByteArray) (hv : VT ms) : ∀ (d k : Nat), k + d = s.size + 1 →
    packX 0 [6, 7] (loopW (bd E0 (ev E0) loopW 0 [1, 6, 7, 10] L63b3) ⟨[(1, st s), (6, .lst 1 (ns (Rd.vals (ms.map B) (B s)))), (7, .sl 0 0 (s.size + 1)), (10, i64 k)], [some (ib (tab s.size (pr ms s k)))]⟩) =
      some (.ext 4, ⟨[(6, .lst 1 (ns (Rd.vals (ms.map B) (B s)))), (7, .sl 0 0 (s.size + 1))], [some (ib (tab s.size (nb ms s)))]⟩) := by
  unfold ib
  intro d
  induction d with
  | zero =>
    intro k hk
    obtain rfl : k = s.size + 1 := by omega
    have hi : ¬ ((s.size + 1 : Nat) : Int) ≤ (s.size : Int) := by omega
    have e1 : tab s.size (pr ms s (s.size + 1)) = tab s.size (nb ms s) := tab_congr fun p hp => by unfold pr; rw [if_pos (by omega)]
    rw [e1, loopW_eq]
    generalize loopW (bd E0 (ev E0) loopW 0 [1, 6, 7, 10] L63b3) = K
    simp -implicitDefEqProofs [bd, L63b3, hi, -Int.natCast_add]
  | succ d ih =>
    intro k hk
    have hih := ih (k + 1) (by omega)
    have hks : k ≤ s.size := by omega
    have hi : (k : Int) ≤ (s.size : Int) := by omega
    have hw : IntKind.i64.wrap ((k : Int) + 1) = ((k + 1 : Nat) : Int) := by rw [wr64 (by omega) (by omega)]; omega
    have z2 := vals_k ms (B s) k (by rw [B_len]; exact hks)
    have l2 := ns_len (Rd.vals (ms.map B) (B s))
    rw [Rd.vals_len, B_len] at l2
    have z1 := tab_at s.size (pr ms s k) k hks
    have hpk : pr ms s k k = Rd.wy (ms.map B) ((B s).take k) := by unfold pr; rw [if_neg (by omega)]
    rw [hpk] at z1
    have l1 := ns_len (tab s.size (pr ms s k))
    rw [tab_len] at l1
    have hnb := nb_le hv s k
    have hbd := wy_bound hv (B s) (by rw [B_len]; exact hs)
    have hst := tab_set s.size (pr ms s k) k (nb ms s k)
    have e1 : tab s.size (fun p => if p = k then nb ms s k else pr ms s k p) = tab s.size (pr ms s (k + 1)) := tab_congr fun p hp => by
      unfold pr
      by_cases e : p = k
      · subst e
        rw [if_pos rfl, if_pos (by omega)]
      · rw [if_neg e]
        by_cases e2 : p < k
        · rw [if_pos e2, if_pos (by omega)]
        · rw [if_neg e2, if_neg (by omega)]
    rw [e1] at hst
    unfold rds at hnb
    have hnbe : nb ms s k = Rd.wy (ms.map B) ((B s).take k) * Rd.wy (ms.map B) ((B s).drop k) := rfl
    rw [hnbe] at hst hnb
    rw [loopW_eq]
    generalize loopW (bd E0 (ev E0) loopW 0 [1, 6, 7, 10] L63b3) = K at hih ⊢
    generalize Rd.wy (ms.map B) ((B s).take k) = a at *
    generalize Rd.wy (ms.map B) ((B s).drop k) = b at *
    have w2 : IntKind.i64.wrap ((a : Int) * (b : Int)) = ((a * b : Nat) : Int) := by rw [← Int.natCast_mul]; exact wr64 (by omega) (by omega)
    have q1 : k < s.size + 1 := by omega
    have q2 : (k : Int) < (s.size : Int) + 1 := by omega
    have q3 : (k : Int) < ((s.size + 1 : Nat) : Int) := by omega
    have g4 : ∀ h, (ns (tab s.size (pr ms s k)))[k]'h = i64 (a : Int) := fun h => (List.getElem?_eq_some_iff.1 z1).2
    have g5 : ∀ h, (ns (Rd.vals (ms.map B) (B s)))[k]'h = i64 (b : Int) := fun h => (List.getElem?_eq_some_iff.1 z2).2
    simpa -implicitDefEqProofs [bd, L63b3, hi, hks, hw, w2, z1, z2, l1, l2, q1, q2, q3, g4, g5, hst, -Int.natCast_add, -Int.natCast_mul] using hih
theorem borders_reg (s : ByteArray) (hs : s.size ≤ 40) (ms : List ByteArray) (hv : VT ms) :
    evC E0 (ev E0) loopW 0 L63b0 ⟨[(5, i64 0), (4, .v (.slice none 0 0)), (2, .ptr 0 0 0), (0, .agg [.lst 1 (ms.map st)]), (1, st s)], [some (tb ms)]⟩ =
      some (.nrm, ⟨[(1, st s), (2, .ptr 0 0 0), (6, .lst 1 (ns (Rd.vals (ms.map B) (B s)))), (7, .sl 1 0 (s.size + 1))], [some (tb ms), some (ib (List.replicate (s.size + 1) 0))]⟩) := by
  have h2 := ways_s s hs ms hv
  have w1 : IntKind.i64.wrap ((s.size : Int) + 1) = ((s.size + 1 : Nat) : Int) := by rw [wr64 (by omega) (by omega)]; omega
  have q1 : ((s.size + 1 : Nat) : Int) * 8 ≤ 140737488355328 := by omega
  have q2 : ((s.size + 1 : Nat) : Int) ≤ 140737488355328 := by omega
  have q3 : (0 : Int) ≤ ((s.size + 1 : Nat) : Int) := by omega
  have hr : ns (List.replicate (s.size + 1) 0) = List.replicate (s.size + 1) (i64 0) := by unfold ns; rw [List.map_replicate]; rfl
  have l2 := ns_len (Rd.vals (ms.map B) (B s))
  rw [Rd.vals_len, B_len] at l2
  have l3 : List.take (s.size + 1) (ns (Rd.vals (ms.map B) (B s))) = ns (Rd.vals (ms.map B) (B s)) := List.take_of_length_le (by rw [l2]; exact Nat.le_refl _)
  simp only [ib, tb, hr] at h2 ⊢
  generalize ns (Rd.vals (ms.map B) (B s)) = V at *
  simp (maxSteps := 1000000) -implicitDefEqProofs [L63b0, h2, l2, l3, w1, q1, q2, q3, -Int.natCast_add]
theorem borders_s (s : ByteArray) (hs : s.size ≤ 40) (ms : List ByteArray) (hv : VT ms) : ev E0 63 [.agg [.lst 1 (ms.map st)], st s] [] = some (.tup [.sl 0 0 (s.size + 1), i64 ((rds ms s : Nat) : Int)], [some (ib (tab s.size (nb ms s)))]) := by
  have h0 := borders_reg s hs ms hv
  have h1 := fwd_outer s hs ms hv (Rd.vals (ms.map B) (B s)) s.size 0 (by omega)
  have h2 := mul_loop s hs ms hv (s.size + 1) 0 (by omega)
  have e1 : tab s.size (part ms s s.size) = tab s.size (pr ms s 0) := tab_congr fun p hp => by
    rw [part_full hv s _ p hp hp]
    unfold pr
    rw [if_neg (by omega)]
  have e2 : (ns (List.replicate (s.size + 1) 0)).set 0 (i64 1) = ns (tab s.size (part ms s 0)) := by
    have h3 := tab_set s.size (fun _ => 0) 0 1
    have h4 : tab s.size (fun _ => 0) = List.replicate (s.size + 1) 0 := by
      unfold tab
      rw [List.map_const', List.length_range]
    rw [h4] at h3
    have h5 : tab s.size (fun p => if p = 0 then 1 else (fun _ => 0) p) = tab s.size (part ms s 0) := tab_congr fun p hp => by
      unfold part
      by_cases e : p = 0
      · rw [if_pos e, if_pos e]
      · rw [if_neg e, if_neg e]
        refine ((Rd.sm_congr (g := fun _ => 0) fun m hm => ?_).trans (Rd.sm_zero ms)).symm
        rw [if_neg (by omega)]
    rw [h5] at h3
    exact h3
  rw [e1, c0] at h1
  rw [c0] at h2
  have l1 : (ns (List.replicate (s.size + 1) 0)).length = s.size + 1 := by rw [ns_len, List.length_replicate]
  have z0 : ∀ h, (ns (List.replicate (s.size + 1) 0))[0]'h = i64 0 := fun h => by unfold ns; simp
  have z3 := vals_zero ms (B s)
  have z4 : ∀ h, (ns (Rd.vals (ms.map B) (B s)))[0]'h = _ := fun h => (List.getElem?_eq_some_iff.1 z3).2
  have l2 := ns_len (Rd.vals (ms.map B) (B s))
  rw [Rd.vals_len, B_len] at l2
  rw [e63]
  unfold runF rds
  simp only [ib, tb] at h0 h1 h2 ⊢
  generalize ns (List.replicate (s.size + 1) 0) = Z at *
  generalize ns (Rd.vals (ms.map B) (B s)) = V at *
  generalize ns (tab s.size (part ms s 0)) = P at *
  generalize ns (tab s.size (pr ms s 0)) = Q at *
  generalize ns (tab s.size (nb ms s)) = R at *
  simp -implicitDefEqProofs [L63, h0, h1, h2, e2, l1, l2, z0, z3, z4]
end Go.Proofs.YtkdfgjijmnaljaaDoor.Ev
