/- The best numbers of letters: what the reference reckons. -/
import Derived.Test.YtkdfgjijmnaljaaDoorEvRd8
set_option linter.unusedVariables false
set_option linter.unusedSimpArgs false
namespace Go.Proofs.YtkdfgjijmnaljaaDoor.Ev
def bt (most : Bool) (n acc : Int) : Bool := if most = true then decide (acc < n) else decide (n < acc)
def stp (most : Bool) (v acc : Int) : Int := if v < 0 then acc else if acc < 0 ∨ bt most (v + 1) acc = true then v + 1 else acc
def fs (most : Bool) (l : List UInt8) (vs : List Int) (acc : Int) (m : ByteArray) : Int := if Rd.pre (B m) l = true then stp most (vs.getD (m.size - 1) (-1)) acc else acc
/-- The best number of letters behind each place, or -1. -/
def cva (most : Bool) (ms : List ByteArray) : List UInt8 → List Int
  | [] => [0]
  | c :: t => ms.foldl (fs most (c :: t) (cva most ms t)) (-1) :: cva most ms t
def cw (most : Bool) (ms : List ByteArray) (l : List UInt8) : Int := (cva most ms l).getD 0 (-1)
theorem cva_len (most : Bool) (ms : List ByteArray) : ∀ l : List UInt8, (cva most ms l).length = l.length + 1
  | [] => rfl
  | c :: t => by rw [cva, List.length_cons, cva_len most ms t, List.length_cons]
theorem cva_drop (most : Bool) (ms : List ByteArray) : ∀ (k : Nat) (l : List UInt8), k ≤ l.length → (cva most ms l).drop k = cva most ms (l.drop k)
  | 0, l, _ => rfl
  | k + 1, [], h => by simp at h
  | k + 1, c :: t, h => by
    rw [cva, List.drop_succ_cons, List.drop_succ_cons]
    exact cva_drop most ms k t (by simpa using h)
theorem cva_get (most : Bool) (ms : List ByteArray) (k : Nat) (l : List UInt8) (h : k ≤ l.length) : (cva most ms l).getD k (-1) = cw most ms (l.drop k) := by
  unfold cw
  rw [← cva_drop most ms k l h, List.getD_eq_getElem?_getD, List.getD_eq_getElem?_getD, List.getElem?_drop]
  rfl
theorem stp_b {most : Bool} {v acc N : Int} (h1 : -1 ≤ v) (h2 : v < N) (h3 : -1 ≤ acc) (h4 : acc ≤ N) : -1 ≤ stp most v acc ∧ stp most v acc ≤ N := by
  unfold stp
  split
  · exact ⟨h3, h4⟩
  · split <;> omega
theorem fold_b (most : Bool) (l : List UInt8) (vs : List Int) (N : Int) (hv : ∀ i, -1 ≤ vs.getD i (-1) ∧ vs.getD i (-1) < N) : ∀ (t : List ByteArray) (acc : Int), -1 ≤ acc → acc ≤ N → -1 ≤ t.foldl (fs most l vs) acc ∧ t.foldl (fs most l vs) acc ≤ N := by
  intro t
  induction t with
  | nil => intro acc h1 h2; exact ⟨h1, h2⟩
  | cons m t ih =>
    intro acc h1 h2
    have h := hv (m.size - 1)
    have hb : -1 ≤ fs most l vs acc m ∧ fs most l vs acc m ≤ N := by
      unfold fs
      split
      · exact stp_b h.1 h.2 h1 h2
      · exact ⟨h1, h2⟩
    exact ih _ hb.1 hb.2
theorem cva_b (most : Bool) (ms : List ByteArray) : ∀ (l : List UInt8) (i : Nat), -1 ≤ (cva most ms l).getD i (-1) ∧ (cva most ms l).getD i (-1) ≤ l.length
  | [], 0 => ⟨by show (-1 : Int) ≤ 0; omega, by show (0 : Int) ≤ 0; omega⟩
  | [], i + 1 => by constructor <;> simp [cva]
  | c :: t, 0 => by
    have h := fold_b most (c :: t) (cva most ms t) ((t.length : Int) + 1) (fun i => by have := cva_b most ms t i; omega) ms (-1) (by omega) (by omega)
    show -1 ≤ ms.foldl _ (-1) ∧ ms.foldl _ (-1) ≤ ((c :: t).length : Int)
    rw [List.length_cons]
    omega
  | c :: t, i + 1 => by
    have h := cva_b most ms t i
    show -1 ≤ (cva most ms t).getD i (-1) ∧ (cva most ms t).getD i (-1) ≤ ((c :: t).length : Int)
    rw [List.length_cons]
    omega
theorem cw_b (most : Bool) (ms : List ByteArray) (l : List UInt8) : -1 ≤ cw most ms l ∧ cw most ms l ≤ l.length := cva_b most ms l 0
def js (l : List Int) : List AV := l.map i64
def jb (l : List Int) : Blk := ⟨3, 1, 1, false, js l⟩
def arj (z : Int) (k : Nat) (acc : Int) (vs : List Int) : List Int := List.replicate k z ++ acc :: vs
theorem js_len (l : List Int) : (js l).length = l.length := by simp [js]
theorem arj_len (z : Int) (k : Nat) (acc : Int) (vs : List Int) : (arj z k acc vs).length = k + vs.length + 1 := by simp [arj]; omega
theorem arj_at (z : Int) (k : Nat) (acc : Int) (vs : List Int) : (js (arj z k acc vs))[k]? = some (i64 acc) := by
  unfold js arj
  rw [List.getElem?_map, List.getElem?_append_right (by simp)]
  simp
theorem arj_past (z : Int) (k : Nat) (acc : Int) (vs : List Int) (j : Nat) (h1 : 1 ≤ j) (h2 : j ≤ vs.length) : (js (arj z k acc vs))[k + j]? = some (i64 (vs.getD (j - 1) (-1))) := by
  unfold js arj
  rw [List.getElem?_map, List.getElem?_append_right (by simp), List.length_replicate, Nat.add_sub_cancel_left]
  obtain ⟨i, rfl⟩ : ∃ i, j = i + 1 := ⟨j - 1, by omega⟩
  rw [List.getElem?_cons_succ, Nat.add_sub_cancel, List.getD_eq_getElem?_getD, List.getElem?_eq_getElem (by omega)]
  rfl
theorem arj_set (z : Int) (k : Nat) (acc acc' : Int) (vs : List Int) : (js (arj z k acc vs)).set k (i64 acc') = js (arj z k acc' vs) := by
  unfold js arj
  rw [← List.map_set, List.set_append_right _ _ (by simp)]
  simp
theorem cva_at (most : Bool) (ms : List ByteArray) (s : ByteArray) (k : Nat) (hk : k < s.size) : cva most ms ((B s).drop k) = ms.foldl (fs most ((B s).drop k) (cva most ms ((B s).drop (k + 1)))) (-1) :: cva most ms ((B s).drop (k + 1)) := by
  have h : k < (B s).length := by rw [B_len]; exact hk
  rw [List.drop_eq_getElem_cons h, cva]
theorem js_at (most : Bool) (ms : List ByteArray) (l : List UInt8) (k : Nat) (hk : k ≤ l.length) : (js (cva most ms l))[k]? = some (i64 (cw most ms (l.drop k))) := by
  have h := cva_len most ms l
  rw [← cva_get most ms k l hk]
  unfold js
  rw [List.getElem?_map, List.getElem?_eq_getElem (by omega), List.getD_eq_getElem?_getD, List.getElem?_eq_getElem (by omega)]
  rfl
set_option maxHeartbeats 1600000 in
theorem cntS_loop (most : Bool) (s : ByteArray) (hs : s.size ≤ 1000) (ms : List ByteArray) (hm : ms.length ≤ 1000) (hz : ∀ m ∈ ms, 1 ≤ m.size ∧ m.size ≤ 1000) (k : Nat) (hk : k < s.size) (vs : List Int) (hv : k + vs.length = s.size) (hb : ∀ i, -1 ≤ vs.getD i (-1) ∧ vs.getD i (-1) < 1000) : ∀ (t : List ByteArray) (j : Nat) (acc : Int), ms.drop j = t → -1 ≤ acc → acc ≤ 1000 →
    packX 0 [1, 2, 3, 7, 8] (loopW (bd E0 (ev E0) loopW 0 [1, 2, 3, 7, 8, 9] L71b0) ⟨[(1, st s), (2, bl most), (3, .ptr 0 0 0), (7, .sl 1 0 (s.size + 1)), (8, i64 k), (9, i64 j)], [some (tb ms), some (jb (arj 0 k acc vs))]⟩) =
      some (.ext 2, ⟨[(1, st s), (2, bl most), (3, .ptr 0 0 0), (7, .sl 1 0 (s.size + 1)), (8, i64 k)], [some (tb ms), some (jb (arj 0 k (t.foldl (fs most ((B s).drop k) vs) acc) vs))]⟩) := by
  unfold tb jb
  intro t
  induction t with
  | nil =>
    intro j acc hj _ _
    have hi := not_drop hj
    rw [loopW_eq]
    generalize loopW (bd E0 (ev E0) loopW 0 [1, 2, 3, 7, 8, 9] L71b0) = K
    simp -implicitDefEqProofs [bd, L71b0, hi]
  | cons m t ih =>
    intro j acc hj h1 h2
    obtain ⟨hi, hx, hd, hmem⟩ := at_drop hj
    obtain ⟨hm1, hm2⟩ := hz m hmem
    have hbm := hb (m.size - 1)
    have hfb : -1 ≤ fs most ((B s).drop k) vs acc m ∧ fs most ((B s).drop k) vs acc m ≤ 1000 := by
      unfold fs
      split
      · exact stp_b hbm.1 hbm.2 h1 h2
      · exact ⟨h1, h2⟩
    have hih := ih (j + 1) (fs most ((B s).drop k) vs acc m) hd hfb.1 hfb.2
    have hw : IntKind.i64.wrap ((j : Int) + 1) = (j : Int) + 1 := wr64 (by omega) (by omega)
    rw [cs1] at hih
    have hp := stands_s s m k (by omega) (by omega) (by omega)
    rw [List.foldl_cons, loopW_eq]
    generalize loopW (bd E0 (ev E0) loopW 0 [1, 2, 3, 7, 8, 9] L71b0) = K at hih ⊢
    have hx2 : (ms.map st)[j]? = some (st m) := by rw [List.getElem?_map, List.getElem?_eq_getElem hi, hx]; rfl
    by_cases h : Rd.pre (B m) ((B s).drop k) = true
    · rw [h] at hp
      have hle := Rd.pre_len h
      rw [List.length_drop, B_len, B_len] at hle
      have ht : fs most ((B s).drop k) vs acc m = stp most (vs.getD (m.size - 1) (-1)) acc := by unfold fs; rw [if_pos h]
      rw [ht] at hih ⊢
      have g1 := arj_at 0 k acc vs
      have g2 := arj_past 0 k acc vs m.size hm1 (by omega)
      have hl := arj_len 0 k acc vs
      have hl2 := js_len (arj 0 k acc vs)
      have w1 : IntKind.i64.wrap ((k : Int) + (m.size : Int)) = ((k + m.size : Nat) : Int) := by rw [wr64 (by omega) (by omega)]; omega
      have q1 : k < s.size + 1 := by omega
      have q2 : k + m.size < s.size + 1 := by omega
      have q3 : (k : Int) < (s.size : Int) + 1 := by omega
      have q4 : ((k + m.size : Nat) : Int) < (s.size : Int) + 1 := by omega
      have g4 : ∀ h, (js (arj 0 k acc vs))[k]'h = i64 acc := fun h => (List.getElem?_eq_some_iff.1 g1).2
      have g5 : ∀ h, (js (arj 0 k acc vs))[k + m.size]'h = i64 (vs.getD (m.size - 1) (-1)) := fun h => (List.getElem?_eq_some_iff.1 g2).2
      generalize vs.getD (m.size - 1) (-1) = y at *
      by_cases hy : y < 0
      · have e1 : stp most y acc = acc := by unfold stp; rw [if_pos hy]
        rw [e1] at hih ⊢
        simpa -implicitDefEqProofs [bd, L71b0, hi, hx, hx2, hp, hw, w1, q1, q2, q3, q4, g1, g2, g4, g5, hl, hl2, hy, -Int.natCast_add] using hih
      · have w2 : IntKind.i64.wrap (y + 1) = y + 1 := wr64 (by omega) (by omega)
        have g3 := arj_set 0 k acc (y + 1) vs
        by_cases ha : acc < 0
        · have e1 : stp most y acc = y + 1 := by unfold stp; rw [if_neg hy, if_pos (.inl ha)]
          rw [e1] at hih ⊢
          simpa -implicitDefEqProofs [bd, L71b0, hi, hx, hx2, hp, hw, w1, w2, q1, q2, q3, q4, g1, g2, g3, g4, g5, hl, hl2, hy, ha, -Int.natCast_add] using hih
        · cases most with
          | true =>
            by_cases hc : acc < y + 1
            · have e1 : stp true y acc = y + 1 := by unfold stp bt; rw [if_neg hy, if_pos (.inr (by simpa using hc))]
              rw [e1] at hih ⊢
              simpa -implicitDefEqProofs [bd, L71b0, hi, hx, hx2, hp, hw, w1, w2, q1, q2, q3, q4, g1, g2, g3, g4, g5, hl, hl2, hy, ha, hc, -Int.natCast_add] using hih
            · have e1 : stp true y acc = acc := by unfold stp bt; rw [if_neg hy, if_neg (by rintro (e | e); exact ha e; exact hc (by simpa using e))]
              rw [e1] at hih ⊢
              simpa -implicitDefEqProofs [bd, L71b0, hi, hx, hx2, hp, hw, w1, w2, q1, q2, q3, q4, g1, g2, g3, g4, g5, hl, hl2, hy, ha, hc, -Int.natCast_add] using hih
          | false =>
            by_cases hc : y + 1 < acc
            · have e1 : stp false y acc = y + 1 := by unfold stp bt; rw [if_neg hy, if_pos (.inr (by simpa using hc))]
              rw [e1] at hih ⊢
              simpa -implicitDefEqProofs [bd, L71b0, hi, hx, hx2, hp, hw, w1, w2, q1, q2, q3, q4, g1, g2, g3, g4, g5, hl, hl2, hy, ha, hc, -Int.natCast_add] using hih
            · have e1 : stp false y acc = acc := by unfold stp bt; rw [if_neg hy, if_neg (by rintro (e | e); exact ha e; exact hc (by simpa using e))]
              rw [e1] at hih ⊢
              simpa -implicitDefEqProofs [bd, L71b0, hi, hx, hx2, hp, hw, w1, w2, q1, q2, q3, q4, g1, g2, g3, g4, g5, hl, hl2, hy, ha, hc, -Int.natCast_add] using hih
    · have h' : Rd.pre (B m) ((B s).drop k) = false := by simpa using h
      rw [h'] at hp
      have ht : fs most ((B s).drop k) vs acc m = acc := by unfold fs; rw [if_neg h]
      rw [ht] at hih ⊢
      simpa -implicitDefEqProofs [bd, L71b0, hi, hx, hx2, hp, hw] using hih
end Go.Proofs.YtkdfgjijmnaljaaDoor.Ev
