/- Signals decoded, both programs. -/
import Derived.Test.YtckfbfgfjlgmeaaGreatDoorEvMD
import Derived.Test.YtckfbfgfjlgmeaaGreatDoorEvMA
set_option linter.unusedVariables false
set_option linter.unusedSimpArgs false
namespace Go.Proofs.YtckfbfgfjlgmeaaGreatDoor.Ev
/-- A word's letters as a text; none where marks are not in the table. -/
def dW (ms : List ByteArray) : List ByteArray → ByteArray → Option ByteArray
  | [], a => some a
  | m :: t, a => if place m ms 0 < 0 then none else dW ms t (a ++ lt1 (place m ms 0).toNat)
theorem dW_sz (ms : List ByteArray) : ∀ (t : List ByteArray) (a r : ByteArray), dW ms t a = some r → r.size = a.size + t.length
  | [], a, r, h => by cases h; simp
  | m :: t, a, r, h => by
    rw [dW] at h
    split at h
    · cases h
    · rw [dW_sz ms t _ r h, ByteArray.size_append, List.length_cons]
      show a.size + 1 + t.length = _
      omega
theorem place_ub (x : ByteArray) : ∀ (t : List ByteArray) (i : Nat), place x t i ≤ (i : Int) + t.length
  | [], i => by rw [place]; simp
  | c :: t, i => by
    have ih := place_ub x t (i + 1)
    rw [place, List.length_cons]
    split <;> omega
theorem dI0 (ms : List ByteArray) (hm : ms.length ≤ 100) (out : List ByteArray) (W : List (List ByteArray)) (i on : Nat) (w : List ByteArray) (hw : w.length ≤ 1000) : ∀ (t : List ByteArray) (k : Nat) (a : ByteArray), w.drop k = t → a.size ≤ k → k + t.length = w.length →
    (∀ r, dW ms t a = some r → packX 0 [2, 4, 5, 6, 9, 15, 16, 17] (loopW (bd E0 (ev E0) loopW 0 [2, 6, 9, 15, 16, 17, 21, 22, 23] L130b0) ⟨[(2, .ptr 0 0 0), (6, .sl 1 0 on), (9, st a), (15, .sl 2 0 W.length), (16, i64 W.length), (17, i64 i), (21, .lst 1 (w.map st)), (22, i64 w.length), (23, i64 k)], [some (tL1 ms), some (sB1 out), some (wb W)]⟩) =
      some (.ext 2, ⟨[(2, .ptr 0 0 0), (6, .sl 1 0 on), (9, st r), (15, .sl 2 0 W.length), (16, i64 W.length), (17, i64 i)], [some (tL1 ms), some (sB1 out), some (wb W)]⟩)) ∧
    (dW ms t a = none → ∃ b : ByteArray, packX 0 [2, 4, 5, 6, 9, 15, 16, 17] (loopW (bd E0 (ev E0) loopW 0 [2, 6, 9, 15, 16, 17, 21, 22, 23] L130b0) ⟨[(2, .ptr 0 0 0), (6, .sl 1 0 on), (9, st a), (15, .sl 2 0 W.length), (16, i64 W.length), (17, i64 i), (21, .lst 1 (w.map st)), (22, i64 w.length), (23, i64 k)], [some (tL1 ms), some (sB1 out), some (wb W)]⟩) =
      some (.ret, ⟨[(2, .ptr 0 0 0), (4, st ⟨#[]⟩), (5, bl false), (6, .sl 1 0 on), (9, st b), (15, .sl 2 0 W.length), (16, i64 W.length), (17, i64 i)], [some (tL1 ms), some (sB1 out), some (wb W)]⟩)) := by
  unfold tL1 sB1 wb
  intro t
  induction t with
  | nil =>
    intro k a h _ _
    have hi := not_drop h
    have hi2 : ¬ (k : Int) < (w.length : Int) := by omega
    refine ⟨fun r hr => ?_, fun h => by cases h⟩
    cases hr
    rw [loopW_eq]
    generalize W.map wd = Q
    generalize out.map st = O
    generalize loopW (bd E0 (ev E0) loopW 0 [2, 6, 9, 15, 16, 17, 21, 22, 23] L130b0) = K
    simp -implicitDefEqProofs [bd, L130b0, hi, hi2]
  | cons m t ih =>
    intro k a h hsz hl
    obtain ⟨hi, hx, hd, hmem⟩ := at_drop h
    rw [List.length_cons] at hl
    have hi2 : (k : Int) < (w.length : Int) := by omega
    have hg := get_mk0 hi hx
    have hg2 : ∀ h, (w.map st)[k]'h = st m := fun h => (List.getElem?_eq_some_iff.1 hg).2
    have hw' : IntKind.i64.wrap ((k : Int) + 1) = (k : Int) + 1 := wr64 (by omega) (by omega)
    have hp := index_s ms (by omega) m
    rw [dW]
    by_cases hneg : place m ms 0 < 0
    · rw [if_pos hneg]
      refine ⟨fun r hr => (by cases hr), fun _ => ⟨a, ?_⟩⟩
      rw [loopW_eq]
      clear ih
      generalize place m ms 0 = p at *
      generalize W.map wd = Q
      generalize out.map st = O
      generalize loopW (bd E0 (ev E0) loopW 0 [2, 6, 9, 15, 16, 17, 21, 22, 23] L130b0) = K
      simp -implicitDefEqProofs [bd, L130b0, hi, hi2, hg, hg2, hp, hneg]
    · rw [if_neg hneg]
      have hub := place_ub m ms 0
      have hlt := letterText_i (place m ms 0).toNat (by omega)
      have hpn : ((place m ms 0).toNat : Int) = place m ms 0 := Int.toNat_of_nonneg (by omega)
      rw [hpn] at hlt
      have hz1 : (lt1 (place m ms 0).toNat).size = 1 := rfl
      obtain ⟨ih1, ih2⟩ := ih (k + 1) (a ++ lt1 (place m ms 0).toNat) hd (by rw [ByteArray.size_append, hz1]; omega) (by omega)
      have hsz2 : a.size + (lt1 (place m ms 0).toNat).size ≤ 9223372036854775807 := by rw [hz1]; omega
      rw [cs1] at ih1 ih2
      generalize lt1 (place m ms 0).toNat = L at *
      generalize place m ms 0 = p at *
      rw [loopW_eq]
      clear ih hub hpn
      generalize W.map wd = Q at *
      generalize out.map st = O at *
      refine ⟨fun r hr => ?_, fun hr => ?_⟩
      · have hh := ih1 r hr
        generalize loopW (bd E0 (ev E0) loopW 0 [2, 6, 9, 15, 16, 17, 21, 22, 23] L130b0) = K at hh ⊢
        simpa -implicitDefEqProofs [bd, L130b0, hi, hi2, hg, hg2, hp, hneg, hlt, hw', hsz2] using hh
      · obtain ⟨b, hh⟩ := ih2 hr
        refine ⟨b, ?_⟩
        generalize loopW (bd E0 (ev E0) loopW 0 [2, 6, 9, 15, 16, 17, 21, 22, 23] L130b0) = K at hh ⊢
        simpa -implicitDefEqProofs [bd, L130b0, hi, hi2, hg, hg2, hp, hneg, hlt, hw', hsz2] using hh
def dAll (ms : List ByteArray) : List (List ByteArray) → List ByteArray → Option (List ByteArray)
  | [], acc => some acc
  | w :: t, acc => match dW ms w ⟨#[]⟩ with
    | none => none
    | some r => dAll ms t (acc ++ [r])
theorem dI1 (ms : List ByteArray) (hm : ms.length ≤ 100) (W : List (List ByteArray)) (hW : W.length ≤ 1000) (hwl : ∀ w ∈ W, w.length ≤ 1000) : ∀ (t : List (List ByteArray)) (i : Nat) (acc : List ByteArray), W.drop i = t → acc.length = i → i + t.length = W.length →
    (∀ R, dAll ms t acc = some R → packX 0 [4, 5, 6] (loopW (bd E0 (ev E0) loopW 0 [2, 6, 15, 16, 17] L130b1) ⟨[(2, .ptr 0 0 0), (6, .sl 1 0 i), (15, .sl 2 0 W.length), (16, i64 W.length), (17, i64 i)], [some (tL1 ms), some (sB1 acc), some (wb W)]⟩) =
      some (.ext 0, ⟨[(6, .sl 0 0 W.length)], [some (sB1 R)]⟩)) ∧
    (dAll ms t acc = none → ∃ (n : Nat) (o : List ByteArray), packX 0 [4, 5, 6] (loopW (bd E0 (ev E0) loopW 0 [2, 6, 15, 16, 17] L130b1) ⟨[(2, .ptr 0 0 0), (6, .sl 1 0 i), (15, .sl 2 0 W.length), (16, i64 W.length), (17, i64 i)], [some (tL1 ms), some (sB1 acc), some (wb W)]⟩) =
      some (.ret, ⟨[(4, st ⟨#[]⟩), (5, bl false), (6, .sl 0 0 n)], [some (sB1 o)]⟩)) := by
  intro t
  induction t with
  | nil =>
    intro i acc h ha hl
    have hi := not_drop h
    rw [List.length_nil] at hl
    obtain rfl : i = W.length := by omega
    have hi2 : ¬ (W.length : Int) < (W.length : Int) := by omega
    refine ⟨fun R hR => ?_, fun h => by cases h⟩
    cases hR
    rw [loopW_eq]
    unfold sB1 tL1 wb
    generalize W.map wd = Q
    generalize acc.map st = A
    generalize loopW (bd E0 (ev E0) loopW 0 [2, 6, 15, 16, 17] L130b1) = K
    unfold bd
    simp -implicitDefEqProofs [L130b1, hi, hi2]
  | cons w t ih =>
    intro i acc h ha hl
    rw [List.length_cons] at hl
    obtain ⟨hi, hx, hd, hmem⟩ := at_drop h
    have hi2 : (i : Int) < (W.length : Int) := by omega
    have hg := wb_at hi hx
    have hg2 : ∀ h, (W.map wd)[i]'h = .lst 1 (w.map st) := fun h => (List.getElem?_eq_some_iff.1 hg).2
    obtain ⟨d1, d2⟩ := dI0 ms hm acc W i i w (hwl w hmem) w 0 ⟨#[]⟩ rfl (by decide) (by omega)
    rw [c0] at d1 d2
    rw [dAll]
    have hww : IntKind.i64.wrap ((i : Int) + 1) = (i : Int) + 1 := wr64 (by omega) (by omega)
    have l1 : i + 1 ≤ 140737488355328 := by omega
    have l2 : (i + 1) * 16 ≤ 140737488355328 := by omega
    have hal : (acc.map st).length = i := by rw [List.length_map, ha]
    have ht : List.take i (acc.map st) = acc.map st := List.take_of_length_le (by omega)
    cases hw : dW ms w ⟨#[]⟩ with
    | none =>
      obtain ⟨b, d2⟩ := d2 hw
      refine ⟨fun R hR => (by cases hR), fun _ => ⟨i, acc, ?_⟩⟩
      rw [loopW_eq]
      unfold sB1 tL1 wb at *
      clear ih
      generalize W.map wd = Q at *
      generalize acc.map st = A at *
      generalize loopW (bd E0 (ev E0) loopW 0 [2, 6, 15, 16, 17] L130b1) = K
      unfold bd
      simp -implicitDefEqProofs [L130b1, hi, hi2, hg, hg2, d2]
    | some r =>
      have d1 := d1 r hw
      obtain ⟨ih1, ih2⟩ := ih (i + 1) (acc ++ [r]) hd (by simp; omega) (by omega)
      rw [cs1] at ih1 ih2
      refine ⟨fun R hR => ?_, fun hR => ?_⟩
      · have hh := ih1 R hR
        unfold sB1 tL1 wb at *
        rw [List.map_append, List.map_singleton] at hh
        rw [loopW_eq]
        clear ih ih1 ih2
        generalize W.map wd = Q at *
        generalize acc.map st = A at *
        generalize loopW (bd E0 (ev E0) loopW 0 [2, 6, 15, 16, 17] L130b1) = K at hh ⊢
        unfold bd
        simpa -implicitDefEqProofs [L130b1, hi, hi2, hg, hg2, d1, hww, l1, l2, hal, ht, ha] using hh
      · obtain ⟨n, o, hh⟩ := ih2 hR
        refine ⟨n, o, ?_⟩
        unfold sB1 tL1 wb at *
        rw [List.map_append, List.map_singleton] at hh
        rw [loopW_eq]
        clear ih ih1 ih2
        generalize W.map wd = Q at *
        generalize acc.map st = A at *
        generalize loopW (bd E0 (ev E0) loopW 0 [2, 6, 15, 16, 17] L130b1) = K at hh ⊢
        unfold bd
        simpa -implicitDefEqProofs [L130b1, hi, hi2, hg, hg2, d1, hww, l1, l2, hal, ht, ha] using hh
end Go.Proofs.YtckfbfgfjlgmeaaGreatDoor.Ev

namespace Go.Proofs.YtckfbfgfjlgmeaaGreatDoor.Ev
/-- The letter that has some marks. -/
def lB (ms : List ByteArray) (m : ByteArray) : UInt8 := UInt8.ofNat (97 + (place m ms 0).toNat)
def okW (ms : List ByteArray) (w : List ByteArray) : Bool := w.all fun m => decide (0 ≤ place m ms 0)
def okD (ms : List ByteArray) (W : List (List ByteArray)) : Bool := W.all (okW ms)
def dWd (ms : List ByteArray) (w : List ByteArray) : ByteArray := mkB (w.map (lB ms))
def msgD (ms : List ByteArray) (W : List (List ByteArray)) : ByteArray := mkB (Lib.join (W.map fun w => w.map (lB ms)) [32])
theorem dW_eq (ms : List ByteArray) : ∀ (t : List ByteArray) (a : ByteArray), dW ms t a = if okW ms t = true then some (a ++ dWd ms t) else none
  | [], a => by
    rw [dW, if_pos (by rfl)]
    congr 1
    exact B_inj (by rw [B_append]; unfold dWd; rw [B_mkB]; simp)
  | m :: t, a => by
    have ih := dW_eq ms t (a ++ lt1 (place m ms 0).toNat)
    rw [dW, ih]
    unfold okW
    rw [List.all_cons]
    by_cases h : place m ms 0 < 0
    · rw [if_pos h, decide_eq_false (by omega)]
      rfl
    · rw [if_neg h, decide_eq_true (by omega), Bool.true_and]
      congr 2
      refine B_inj ?_
      unfold dWd
      rw [B_append, B_append, B_append, B_mkB, B_mkB, List.map_cons, List.append_assoc]
      rfl
theorem dAll_eq (ms : List ByteArray) : ∀ (W : List (List ByteArray)) (acc : List ByteArray), dAll ms W acc = if okD ms W = true then some (acc ++ W.map (dWd ms)) else none
  | [], acc => by rw [dAll, if_pos (by rfl), List.map_nil, List.append_nil]
  | w :: W, acc => by
    rw [dAll, dW_eq]
    unfold okD
    rw [List.all_cons]
    cases h : okW ms w with
    | false => rfl
    | true =>
      rw [if_pos rfl, Bool.true_and]
      show dAll ms W (acc ++ [(⟨#[]⟩ : ByteArray) ++ dWd ms w]) = _
      have e : (⟨#[]⟩ : ByteArray) ++ dWd ms w = dWd ms w := B_inj (by rw [B_append]; rfl)
      rw [e, dAll_eq, List.map_cons, List.append_assoc, List.singleton_append]
      rfl
theorem dWd_sz (ms w : List ByteArray) : (dWd ms w).size = w.length := by unfold dWd; rw [mkB_size, List.length_map]
theorem decode_i (ms : List ByteArray) (hm : ms.length ≤ 100) (s : ByteArray) (hs : s.size ≤ 1000) (ho : okSig s = true) :
    ev E0 130 [.agg [.lst 1 (ms.map st)], st s] [] = some (.tup [st (if okD ms (lw s) = true then msgD ms (lw s) else ⟨#[]⟩), bl (okD ms (lw s))], []) := by
  obtain ⟨w1, w2⟩ := sig_words ho
  have h1 := lettersOf_i s (by omega)
  obtain ⟨l1, l2⟩ := dI1 ms hm (lw s) (by omega) (fun w hw => (w2 w hw).1) (lw s) 0 [] rfl rfl (by simp)
  rw [c0] at l1 l2
  have ht : List.take (lw s).length ((lw s).map wd) = (lw s).map wd := List.take_of_length_le (by simp)
  have hl : ((lw s).map wd).length = (lw s).length := List.length_map _
  rw [e130]
  unfold runF
  cases hk : okD ms (lw s) with
  | true =>
    rw [dAll_eq, hk, if_pos rfl, List.nil_append] at l1
    have l1 := l1 _ rfl
    have hsz : (joinB ((lw s).map (dWd ms)) ⟨#[32]⟩).length ≤ 200000 := by
      have := join_len 32 1000 (((lw s).map (dWd ms)).map B) (fun x hx => by
        obtain ⟨y, hy, rfl⟩ := List.mem_map.1 hx
        obtain ⟨w, hw, rfl⟩ := List.mem_map.1 hy
        rw [B_len, dWd_sz]
        exact (w2 w hw).1)
      rw [List.length_map, List.length_map] at this
      have h3 : (lw s).length * (1000 + 1) ≤ 100 * 1001 := Nat.mul_le_mul_right 1001 w1
      unfold joinB
      refine Nat.le_trans this ?_
      omega
    have hj := join_e ((lw s).map (dWd ms)) ⟨#[32]⟩ (by rw [List.length_map]; omega) (by omega)
    have e : (⟨(joinB ((lw s).map (dWd ms)) ⟨#[32]⟩).toArray⟩ : ByteArray) = msgD ms (lw s) := by
      unfold msgD mkB joinB
      rw [List.map_map]
      have e2 : (lw s).map ((fun x => x.data.toList) ∘ dWd ms) = (lw s).map fun w => w.map (lB ms) := List.map_congr_left fun w _ => B_mkB _
      rw [e2]
    rw [e] at hj
    have htj : List.take (lw s).length (((lw s).map (dWd ms)).map st) = ((lw s).map (dWd ms)).map st := List.take_of_length_le (by simp)
    have htl : (((lw s).map (dWd ms)).map st).length = (lw s).length := by simp
    generalize msgD ms (lw s) = M at *
    generalize (lw s).map (dWd ms) = R at *
    generalize lw s = W at *
    unfold sB1 tL1 wb at *
    rw [List.map_nil] at l1
    simp -implicitDefEqProofs [L130, h1, l1, hj, ht, hl, htj, htl]
  | false =>
    rw [dAll_eq, hk] at l2
    obtain ⟨n, o, l2⟩ := l2 rfl
    generalize lw s = W at *
    unfold sB1 tL1 wb at *
    rw [List.map_nil] at l2
    simp -implicitDefEqProofs [L130, h1, l2, ht, hl]
def okDS (ms : List ByteArray) (s : ByteArray) : Bool := okTable ms && (okSig s && okD ms (lw s))
def dcV (ms : List ByteArray) (s : ByteArray) : AV := .tup [st (if okDS ms s = true then msgD ms (lw s) else ⟨#[]⟩), bl (okDS ms s)]
theorem decSig_i (ms : List ByteArray) (hn : ms.length ≤ 1000) (hz : ∀ m ∈ ms, m.size ≤ 1000) (s : ByteArray) (hs : s.size ≤ 1000) : ev E0 67 [.agg [.lst 1 (ms.map st)], st s] [] = some (dcV ms s, []) := by
  have h1 := table_i ms (by omega) (fun m hm => by have := hz m hm; omega)
  have h2 := isSignal_i s (by omega)
  unfold dcV okDS
  rw [e67]
  unfold runF
  cases ho : okTable ms with
  | false => rw [ho] at h1; simp -implicitDefEqProofs [L67, h1]
  | true =>
    rw [ho] at h1
    cases hg : okSig s with
    | false => rw [hg] at h2; simp -implicitDefEqProofs [L67, h1, h2]
    | true =>
      rw [hg] at h2
      have h3 := decode_i ms (by have := (tab_sizes ho).1; omega) s hs hg
      generalize msgD ms (lw s) = M at *
      generalize okD ms (lw s) = k at *
      simp -implicitDefEqProofs [L67, h1, h2, h3]
end Go.Proofs.YtckfbfgfjlgmeaaGreatDoor.Ev

namespace Go.Proofs.YtckfbfgfjlgmeaaGreatDoor.Ev
theorem dWd_cons (ms : List ByteArray) (m : ByteArray) (t : List ByteArray) (a : ByteArray) : (a ++ lt1 (place m ms 0).toNat) ++ dWd ms t = a ++ dWd ms (m :: t) := by
  apply B_inj
  unfold dWd
  rw [B_append, B_append, B_append, B_mkB, B_mkB, List.map_cons, List.append_assoc]
  rfl
theorem dWd_nil (ms : List ByteArray) (a : ByteArray) : a ++ dWd ms [] = a := by
  apply B_inj
  unfold dWd
  rw [B_append, B_mkB, List.map_nil, List.append_nil]
theorem dS0 (ms : List ByteArray) (hm : ms.length ≤ 100) (W : List (List ByteArray)) (i : Nat) (hiW : i < W.length) (w : List ByteArray) (hxW : W[i] = w) (hw : w.length ≤ 1000) : ∀ (t : List ByteArray) (k : Nat) (a : ByteArray), w.drop k = t → a.size ≤ 1000000 + k → k + t.length = w.length →
    (okW ms t = true → packX 0 [2, 4, 5, 6, 7, 8] (loopW (bd E0 (ev E0) loopW 0 [2, 6, 7, 8, 9] L131b0) ⟨[(2, .ptr 0 0 0), (6, st a), (7, .sl 1 0 W.length), (8, i64 i), (9, i64 k)], [some (tL1 ms), some (wb W)]⟩) =
      some (.ext 2, ⟨[(2, .ptr 0 0 0), (6, st (a ++ dWd ms t)), (7, .sl 1 0 W.length), (8, i64 i)], [some (tL1 ms), some (wb W)]⟩)) ∧
    (okW ms t = false → ∃ b : ByteArray, packX 0 [2, 4, 5, 6, 7, 8] (loopW (bd E0 (ev E0) loopW 0 [2, 6, 7, 8, 9] L131b0) ⟨[(2, .ptr 0 0 0), (6, st a), (7, .sl 1 0 W.length), (8, i64 i), (9, i64 k)], [some (tL1 ms), some (wb W)]⟩) =
      some (.ret, ⟨[(2, .ptr 0 0 0), (4, st ⟨#[]⟩), (5, bl false), (6, st b), (7, .sl 1 0 W.length), (8, i64 i)], [some (tL1 ms), some (wb W)]⟩)) := by
  have hgw := wb_at hiW hxW
  have hgw2 : ∀ h, (W.map wd)[i]'h = .lst 1 (w.map st) := fun h => (List.getElem?_eq_some_iff.1 hgw).2
  have hiW2 : (i : Int) < (W.length : Int) := by omega
  have hwl : (W.map wd).length = W.length := List.length_map _
  unfold tL1 wb
  intro t
  induction t with
  | nil =>
    intro k a h _ _
    have hi := not_drop h
    have hi2 : ¬ (k : Int) < (w.length : Int) := by omega
    refine ⟨fun _ => ?_, fun h => (by cases h)⟩
    rw [dWd_nil, loopW_eq]
    generalize W.map wd = Q at *
    generalize loopW (bd E0 (ev E0) loopW 0 [2, 6, 7, 8, 9] L131b0) = K
    simp -implicitDefEqProofs [bd, L131b0, hi, hi2, hgw, hgw2, hiW, hiW2, hwl]
  | cons m t ih =>
    intro k a h hsz hl
    obtain ⟨hi, hx, hd, hmem⟩ := at_drop h
    rw [List.length_cons] at hl
    have hi2 : (k : Int) < (w.length : Int) := by omega
    have hg := get_mk0 hi hx
    have hg2 : ∀ h, (w.map st)[k]'h = st m := fun h => (List.getElem?_eq_some_iff.1 hg).2
    have hw' : IntKind.i64.wrap ((k : Int) + 1) = (k : Int) + 1 := wr64 (by omega) (by omega)
    have hp := place_s ms (by omega) m
    unfold okW
    rw [List.all_cons]
    by_cases hneg : place m ms 0 < 0
    · rw [decide_eq_false (by omega), Bool.false_and]
      refine ⟨fun hr => (by cases hr), fun _ => ⟨a, ?_⟩⟩
      rw [loopW_eq]
      clear ih
      generalize place m ms 0 = p at *
      generalize W.map wd = Q at *
      generalize loopW (bd E0 (ev E0) loopW 0 [2, 6, 7, 8, 9] L131b0) = K
      simp -implicitDefEqProofs [bd, L131b0, hi, hi2, hg, hg2, hp, hneg, hgw, hgw2, hiW, hiW2, hwl]
    · rw [decide_eq_true (by omega : 0 ≤ place m ms 0), Bool.true_and]
      have hub := place_ub m ms 0
      have hlt := letterText_s (place m ms 0).toNat (by omega)
      have hpn : ((place m ms 0).toNat : Int) = place m ms 0 := Int.toNat_of_nonneg (by omega)
      rw [hpn] at hlt
      have hz1 : (lt1 (place m ms 0).toNat).size = 1 := rfl
      obtain ⟨ih1, ih2⟩ := ih (k + 1) (a ++ lt1 (place m ms 0).toNat) hd (by rw [ByteArray.size_append, hz1]; omega) (by omega)
      have hsz2 : a.size + (lt1 (place m ms 0).toNat).size ≤ 9223372036854775807 := by rw [hz1]; omega
      rw [dWd_cons] at ih1
      rw [cs1] at ih1 ih2
      unfold okW at ih1 ih2
      generalize a ++ dWd ms (m :: t) = R at *
      generalize lt1 (place m ms 0).toNat = L at *
      generalize place m ms 0 = p at *
      rw [loopW_eq]
      clear ih hub hpn
      generalize W.map wd = Q at *
      refine ⟨fun hr => ?_, fun hr => ?_⟩
      · have hh := ih1 hr
        generalize loopW (bd E0 (ev E0) loopW 0 [2, 6, 7, 8, 9] L131b0) = K at hh ⊢
        simpa -implicitDefEqProofs [bd, L131b0, hi, hi2, hg, hg2, hp, hneg, hlt, hw', hsz2, hgw, hgw2, hiW, hiW2, hwl] using hh
      · obtain ⟨b, hh⟩ := ih2 hr
        refine ⟨b, ?_⟩
        generalize loopW (bd E0 (ev E0) loopW 0 [2, 6, 7, 8, 9] L131b0) = K at hh ⊢
        simpa -implicitDefEqProofs [bd, L131b0, hi, hi2, hg, hg2, hp, hneg, hlt, hw', hsz2, hgw, hgw2, hiW, hiW2, hwl] using hh
def dS (ms : List ByteArray) : Nat → List (List ByteArray) → ByteArray → ByteArray
  | _, [], a => a
  | i, w :: t, a => dS ms (i + 1) t ((if 0 < i then a ++ ⟨#[32]⟩ else a) ++ dWd ms w)
theorem dS1 (ms : List ByteArray) (hm : ms.length ≤ 100) (W : List (List ByteArray)) (hW : W.length ≤ 100) (hwl : ∀ w ∈ W, w.length ≤ 1000) : ∀ (t : List (List ByteArray)) (i : Nat) (a : ByteArray), W.drop i = t → a.size ≤ i * 2000 →
    (okD ms t = true → packX 0 [4, 5, 6] (loopW (bd E0 (ev E0) loopW 0 [2, 6, 7, 8] L131b1) ⟨[(2, .ptr 0 0 0), (6, st a), (7, .sl 1 0 W.length), (8, i64 i)], [some (tL1 ms), some (wb W)]⟩) = some (.ext 0, ⟨[(6, st (dS ms i t a))], []⟩)) ∧
    (okD ms t = false → ∃ b : ByteArray, packX 0 [4, 5, 6] (loopW (bd E0 (ev E0) loopW 0 [2, 6, 7, 8] L131b1) ⟨[(2, .ptr 0 0 0), (6, st a), (7, .sl 1 0 W.length), (8, i64 i)], [some (tL1 ms), some (wb W)]⟩) = some (.ret, ⟨[(4, st ⟨#[]⟩), (5, bl false), (6, st b)], []⟩)) := by
  intro t
  induction t with
  | nil =>
    intro i a h _
    have hi := not_drop h
    have hi2 : ¬ (i : Int) < (W.length : Int) := by omega
    refine ⟨fun _ => ?_, fun h => (by cases h)⟩
    rw [dS, loopW_eq]
    unfold tL1 wb
    have hwl2 : (W.map wd).length = W.length := List.length_map _
    generalize W.map wd = Q at *
    generalize loopW (bd E0 (ev E0) loopW 0 [2, 6, 7, 8] L131b1) = K
    unfold bd
    simp -implicitDefEqProofs [L131b1, hi, hi2, hwl2]
  | cons w t ih =>
    intro i a h hsz
    obtain ⟨hi, hx, hd, hmem⟩ := at_drop h
    have hi2 : (i : Int) < (W.length : Int) := by omega
    have hlw := hwl w hmem
    have hwl2 : (W.map wd).length = W.length := List.length_map _
    have hww : IntKind.i64.wrap ((i : Int) + 1) = (i : Int) + 1 := wr64 (by omega) (by omega)
    have hcons : okD ms (w :: t) = (okW ms w && okD ms t) := by unfold okD; rw [List.all_cons]
    have hdz : (dWd ms w).size = w.length := dWd_sz ms w
    rw [hcons]
    by_cases hk : 0 < i
    · have hkz : (0 : Int) < (i : Int) := by omega
      have h32 : (⟨#[32]⟩ : ByteArray).size = 1 := rfl
      have hs2 : a.size + (⟨#[32]⟩ : ByteArray).size ≤ 9223372036854775807 := by rw [h32]; omega
      have ha2 : (a ++ (⟨#[32]⟩ : ByteArray)).size ≤ 1000000 + 0 := by rw [ByteArray.size_append, h32]; omega
      obtain ⟨d1, d2⟩ := dS0 ms hm W i hi w hx hlw w 0 (a ++ ⟨#[32]⟩) rfl ha2 (by omega)
      have ha3 : (a ++ (⟨#[32]⟩ : ByteArray) ++ dWd ms w).size ≤ (i + 1) * 2000 := by rw [ByteArray.size_append, ByteArray.size_append, h32, hdz]; omega
      obtain ⟨ih1, ih2⟩ := ih (i + 1) (a ++ (⟨#[32]⟩ : ByteArray) ++ dWd ms w) hd ha3
      rw [dS, if_pos hk]
      rw [c0] at d1 d2
      rw [cs1] at ih1 ih2
      unfold wb tL1 at *
      rw [loopW_eq]
      clear ih
      generalize dS ms (i + 1) t (a ++ (⟨#[32]⟩ : ByteArray) ++ dWd ms w) = R at *
      generalize a ++ (⟨#[32]⟩ : ByteArray) ++ dWd ms w = X at *
      generalize hA : a ++ (⟨#[32]⟩ : ByteArray) = Y at *
      have hs3 : a.size + 1 ≤ 9223372036854775807 := by omega
      cases ho : okW ms w with
      | false =>
        obtain ⟨b, d2⟩ := d2 ho
        refine ⟨fun h => (by cases h), fun _ => ⟨b, ?_⟩⟩
        generalize loopW (bd E0 (ev E0) loopW 0 [2, 6, 7, 8] L131b1) = K
        unfold bd
        simp -implicitDefEqProofs [L131b1, hi, hi2, hk, hkz, d2, hwl2, hs2, hs3, hA]
      | true =>
        have d1 := d1 ho
        rw [Bool.true_and]
        refine ⟨fun h => ?_, fun h => ?_⟩
        · have hh := ih1 h
          generalize loopW (bd E0 (ev E0) loopW 0 [2, 6, 7, 8] L131b1) = K at hh ⊢
          unfold bd
          simpa -implicitDefEqProofs [L131b1, hi, hi2, hk, hkz, d1, hwl2, hs2, hs3, hA, hww] using hh
        · obtain ⟨b, hh⟩ := ih2 h
          refine ⟨b, ?_⟩
          generalize loopW (bd E0 (ev E0) loopW 0 [2, 6, 7, 8] L131b1) = K at hh ⊢
          unfold bd
          simpa -implicitDefEqProofs [L131b1, hi, hi2, hk, hkz, d1, hwl2, hs2, hs3, hA, hww] using hh
    · obtain rfl : i = 0 := by omega
      obtain ⟨d1, d2⟩ := dS0 ms hm W 0 hi w hx hlw w 0 a rfl (by omega) (by omega)
      have ha3 : (a ++ dWd ms w).size ≤ (0 + 1) * 2000 := by rw [ByteArray.size_append, hdz]; omega
      obtain ⟨ih1, ih2⟩ := ih (0 + 1) (a ++ dWd ms w) hd ha3
      rw [dS, if_neg (by omega)]
      have hw1 : IntKind.i64.wrap 1 = 1 := rfl
      rw [cs1] at ih1 ih2
      rw [c0] at *
      unfold wb tL1 at *
      rw [loopW_eq]
      clear ih
      generalize dS ms (0 + 1) t (a ++ dWd ms w) = R at *
      generalize a ++ dWd ms w = X at *
      cases ho : okW ms w with
      | false =>
        obtain ⟨b, d2⟩ := d2 ho
        refine ⟨fun h => (by cases h), fun _ => ⟨b, ?_⟩⟩
        generalize loopW (bd E0 (ev E0) loopW 0 [2, 6, 7, 8] L131b1) = K
        unfold bd
        simp -implicitDefEqProofs [L131b1, hi, hi2, d2, hwl2]
      | true =>
        have d1 := d1 ho
        rw [Bool.true_and]
        refine ⟨fun h => ?_, fun h => ?_⟩
        · have hh := ih1 h
          generalize loopW (bd E0 (ev E0) loopW 0 [2, 6, 7, 8] L131b1) = K at hh ⊢
          unfold bd
          simpa -implicitDefEqProofs [L131b1, hi, hi2, d1, hwl2, hw1] using hh
        · obtain ⟨b, hh⟩ := ih2 h
          refine ⟨b, ?_⟩
          generalize loopW (bd E0 (ev E0) loopW 0 [2, 6, 7, 8] L131b1) = K at hh ⊢
          unfold bd
          simpa -implicitDefEqProofs [L131b1, hi, hi2, d1, hwl2, hw1] using hh
theorem dS_tail (ms : List ByteArray) : ∀ (t : List (List ByteArray)) (i : Nat) (a : ByteArray), 0 < i → B (dS ms i t a) = B a ++ Lib.joinTail [32] (t.map fun w => w.map (lB ms))
  | [], i, a, _ => by rw [dS, show Lib.joinTail [32] (([] : List (List ByteArray)).map fun w => w.map (lB ms)) = [] from rfl, List.append_nil]
  | w :: t, i, a, h => by
    rw [dS, if_pos h, dS_tail ms t _ _ (by omega), List.map_cons]
    have e : Lib.joinTail [32] (w.map (lB ms) :: t.map fun w => w.map (lB ms)) = 32 :: (w.map (lB ms) ++ Lib.joinTail [32] (t.map fun w => w.map (lB ms))) := by simp [Lib.joinTail]
    rw [e]
    unfold dWd
    rw [B_append, B_append, B_mkB, List.append_assoc, List.append_assoc]
    rfl
theorem dS_msg (ms : List ByteArray) (W : List (List ByteArray)) : dS ms 0 W ⟨#[]⟩ = msgD ms W := by
  apply B_inj
  unfold msgD
  rw [B_mkB]
  cases W with
  | nil => rfl
  | cons w t =>
    rw [dS, if_neg (by omega), dS_tail ms t _ _ (by omega), List.map_cons, Lib.join_cons]
    unfold dWd
    rw [B_append, B_mkB]
    rfl
theorem decode_s (ms : List ByteArray) (hm : ms.length ≤ 100) (s : ByteArray) (hs : s.size ≤ 1000) : ev E0 131 [.agg [.lst 1 (ms.map st)], st s] [] = some (.tup [st (if (okSig s && okD ms (lw s)) = true then msgD ms (lw s) else ⟨#[]⟩), bl (okSig s && okD ms (lw s))], []) := by
  have hg := signal_s s (by omega)
  rw [e131]
  unfold runF
  cases ho : okSig s with
  | false => rw [ho] at hg; simp -implicitDefEqProofs [L131, hg]
  | true =>
    rw [ho] at hg
    rw [Bool.true_and]
    by_cases he : s = ⟨#[]⟩
    · subst he
      rw [show okD ms (lw ⟨#[]⟩) = true from rfl, show msgD ms (lw ⟨#[]⟩) = ⟨#[]⟩ from rfl]
      simp -implicitDefEqProofs [L131, hg]
    · have h1 := words_s s (by omega)
      obtain ⟨w1, w2⟩ := sig_words ho
      have hlw : lw s = wordsOf s := if_neg he
      rw [hlw] at w1 w2 ⊢
      obtain ⟨l1, l2⟩ := dS1 ms hm (wordsOf s) w1 (fun w hw => (w2 w hw).1) (wordsOf s) 0 ⟨#[]⟩ rfl (by decide)
      rw [dS_msg] at l1
      rw [c0] at l1 l2
      unfold wb tL1 at *
      cases hk : okD ms (wordsOf s) with
      | false =>
        obtain ⟨b, l2⟩ := l2 hk
        simp -implicitDefEqProofs [L131, hg, he, h1, l2]
      | true =>
        have l1 := l1 hk
        generalize msgD ms (wordsOf s) = M at *
        simp -implicitDefEqProofs [L131, hg, he, h1, l1]
theorem decSig_s (ms : List ByteArray) (hn : ms.length ≤ 1000) (hz : ∀ m ∈ ms, m.size ≤ 1000) (s : ByteArray) (hs : s.size ≤ 1000) : ev E0 68 [.agg [.lst 1 (ms.map st)], st s] [] = some (dcV ms s, []) := by
  have h1 := table_s ms (by omega) (fun m hm => by have := hz m hm; omega)
  unfold dcV okDS
  rw [e68]
  unfold runF
  cases ho : okTable ms with
  | false => rw [ho] at h1; simp -implicitDefEqProofs [L68, h1]
  | true =>
    rw [ho] at h1
    have h3 := decode_s ms (by have := (tab_sizes ho).1; omega) s hs
    rw [Bool.true_and]
    generalize msgD ms (lw s) = M at *
    generalize (okSig s && okD ms (lw s)) = k at *
    simp -implicitDefEqProofs [L68, h1, h3]
end Go.Proofs.YtckfbfgfjlgmeaaGreatDoor.Ev

namespace Go.Proofs.YtckfbfgfjlgmeaaGreatDoor.Ev
theorem place_at7 (x : ByteArray) : ∀ (t : List ByteArray) (o : Nat), 0 ≤ place x t o → ∃ k, place x t o = ((o + k : Nat) : Int) ∧ t[k]? = some x
  | [], _, h => by rw [place] at h; omega
  | y :: t, o, h => by
    rw [place] at h ⊢
    by_cases e : y = x
    · rw [if_pos e]
      exact ⟨0, rfl, by rw [← e]; rfl⟩
    · rw [if_neg e] at h ⊢
      obtain ⟨k, h1, h2⟩ := place_at7 x t (o + 1) h
      exact ⟨k + 1, by rw [h1]; congr 1; omega, h2⟩
theorem u8n (k : Nat) (h : k ≤ 100) : (UInt8.ofNat (97 + k)).toNat = 97 + k := by
  rw [UInt8.toNat_ofNat']
  omega
theorem lB_in {ms : List ByteArray} (ho : okTable ms = true) {m : ByteArray} (h : 0 ≤ place m ms 0) : okB ms.length (lB ms m) ∧ mB ms (lB ms m) = m := by
  obtain ⟨k, h1, h2⟩ := place_at7 m ms 0 h
  rw [Nat.zero_add] at h1
  have hn := (tab_sizes ho).1
  obtain ⟨hk, h3⟩ := List.getElem?_eq_some_iff.1 h2
  have e : (place m ms 0).toNat = k := by omega
  have e2 : (lB ms m).toNat = 97 + k := by
    unfold lB
    rw [e]
    exact u8n k (by omega)
  refine ⟨⟨by omega, by omega⟩, ?_⟩
  unfold mB
  rw [e2, Nat.add_sub_cancel_left, ← mk_at hk, h3]
theorem lB_mB {ms : List ByteArray} (ho : okTable ms = true) {b : UInt8} (h : okB ms.length b) : 0 ≤ place (mB ms b) ms 0 ∧ lB ms (mB ms b) = b := by
  obtain ⟨h1, h2⟩ := h
  have hp := place_nd ((tab_iff ms).1 ho).2.2 (k := b.toNat - 97) (by omega)
  unfold lB mB
  rw [hp]
  refine ⟨by omega, ?_⟩
  apply UInt8.toNat_inj.1
  have hn := (tab_sizes ho).1
  rw [Int.toNat_natCast, u8n _ (by omega)]
  omega
theorem join_fields (n : Nat) (hn : n ≤ 20) : ∀ (t : List UInt8), (∀ cur, cur ≠ [] → vM n true t → Lib.join (Lib.fieldsGo cur t) [32] = cur ++ t) ∧ (vM n false t → Lib.join (Lib.fieldsGo [] t) [32] = t)
  | [] => by
    refine ⟨fun cur hc _ => ?_, fun h => by simp [vM] at h⟩
    have hce : cur.isEmpty = false := by cases cur <;> simp_all
    rw [Lib.fieldsGo, hce, List.append_nil]
    simp [Lib.join_one]
  | c :: t => by
    obtain ⟨ihA, ihB⟩ := join_fields n hn t
    refine ⟨fun cur hc hv => ?_, fun hv => ?_⟩
    · have hce : cur.isEmpty = false := by cases cur <;> simp_all
      rw [vM] at hv
      rcases hv with ⟨rfl, -, hv⟩ | ⟨h32, hok, hv⟩
      · have e2 := ((sJ_eq [] n hn t).2 hv).2
        have e1 := ihB hv
        rw [Lib.fieldsGo, show Lib.isSp 32 = true from rfl, hce]
        simp only [if_true, Bool.false_eq_true, if_false]
        conv => rhs; rw [← e1]
        obtain ⟨x, r, hx⟩ : ∃ x r, Lib.fieldsGo [] t = x :: r := by
          cases hq : Lib.fieldsGo [] t with
          | nil => exact absurd hq e2
          | cons x r => exact ⟨x, r, rfl⟩
        rw [hx, Lib.join_cons, Lib.join_cons]
        simp [Lib.joinTail]
      · have hs := sp_letter hn hok
        rw [Lib.fieldsGo, hs]
        simp only [Bool.false_eq_true, if_false]
        rw [ihA (cur ++ [c]) (by simp) hv]
        simp
    · rw [vM] at hv
      rcases hv with ⟨_, h, _⟩ | ⟨h32, hok, hv⟩
      · cases h
      · have hs := sp_letter hn hok
        rw [Lib.fieldsGo, hs]
        simp only [Bool.false_eq_true, if_false, List.nil_append]
        rw [ihA [c] (by simp) hv]
        rfl
theorem fields_word (t : List UInt8) : ∀ (w cur : List UInt8), (∀ b ∈ w, Lib.isSp b = false) → Lib.fieldsGo cur (w ++ t) = Lib.fieldsGo (cur ++ w) t
  | [], cur, _ => by rw [List.nil_append, List.append_nil]
  | c :: w, cur, h => by
    rw [List.cons_append, Lib.fieldsGo, h c (List.mem_cons_self ..), if_neg (by decide), fields_word t w _ (fun b hb => h b (List.mem_cons_of_mem _ hb)), List.append_assoc, List.singleton_append]
theorem fields_tail : ∀ (r : List (List UInt8)) (cur : List UInt8), cur ≠ [] → (∀ x ∈ r, x ≠ [] ∧ ∀ b ∈ x, Lib.isSp b = false) → Lib.fieldsGo cur (Lib.joinTail [32] r) = cur :: r
  | [], cur, hc, _ => by
    have hce : cur.isEmpty = false := by cases cur <;> simp_all
    rw [show Lib.joinTail [32] [] = [] from rfl, Lib.fieldsGo, hce]
    rfl
  | x :: r, cur, hc, h => by
    have hce : cur.isEmpty = false := by cases cur <;> simp_all
    obtain ⟨h1, h2⟩ := h x (List.mem_cons_self ..)
    have e : Lib.joinTail [32] (x :: r) = 32 :: (x ++ Lib.joinTail [32] r) := by simp [Lib.joinTail]
    rw [e, Lib.fieldsGo, show Lib.isSp 32 = true from rfl, hce, if_pos rfl, if_neg (by decide), fields_word _ x [] h2, List.nil_append, fields_tail r x h1 (fun y hy => h y (List.mem_cons_of_mem _ hy))]
theorem fields_join (ws : List (List UInt8)) (h : ∀ x ∈ ws, x ≠ [] ∧ ∀ b ∈ x, Lib.isSp b = false) : Lib.fields (Lib.join ws [32]) = ws := by
  cases ws with
  | nil => rfl
  | cons x r =>
    obtain ⟨h1, h2⟩ := h x (List.mem_cons_self ..)
    unfold Lib.fields
    rw [Lib.join_cons, fields_word _ x [] h2, List.nil_append, fields_tail r x h1 (fun y hy => h y (List.mem_cons_of_mem _ hy))]
theorem vM_word (n : Nat) (t : List UInt8) (ht : vM n true t) : ∀ (w : List UInt8) (p : Bool), w ≠ [] → (∀ b ∈ w, b ≠ 32 ∧ okB n b) → vM n p (w ++ t)
  | [], _, h, _ => absurd rfl h
  | c :: w, p, _, h => by
    obtain ⟨h1, h2⟩ := h c (List.mem_cons_self ..)
    rw [List.cons_append, vM]
    refine .inr ⟨h1, h2, ?_⟩
    by_cases hw : w = []
    · rw [hw]; exact ht
    · exact vM_word n t ht w true hw (fun b hb => h b (List.mem_cons_of_mem _ hb))
theorem vM_tail (n : Nat) : ∀ (r : List (List UInt8)), (∀ x ∈ r, x ≠ [] ∧ ∀ b ∈ x, b ≠ 32 ∧ okB n b) → vM n true (Lib.joinTail [32] r)
  | [], _ => by rw [show Lib.joinTail [32] [] = [] from rfl, vM]
  | x :: r, h => by
    obtain ⟨h1, h2⟩ := h x (List.mem_cons_self ..)
    have e : Lib.joinTail [32] (x :: r) = 32 :: (x ++ Lib.joinTail [32] r) := by simp [Lib.joinTail]
    rw [e, vM]
    exact .inl ⟨rfl, rfl, vM_word n _ (vM_tail n r (fun y hy => h y (List.mem_cons_of_mem _ hy))) x false h1 h2⟩
theorem vM_msg (n : Nat) (s : ByteArray) : ∀ (t : List UInt8) (i : Nat), (B s).drop i = t → vM n (pA s i) t → msgL n s t i = true
  | [], i, _, _ => rfl
  | c :: t, i, h, hv => by
    obtain ⟨hi, hx, hd⟩ := byte_at h
    have hp := pA_succ h
    have ih := vM_msg n s t (i + 1) hd
    rw [hp] at ih
    rw [vM] at hv
    rw [msgL, Bool.and_eq_true]
    unfold chOk
    rcases hv with ⟨rfl, h2, h3⟩ | ⟨h1, h2, h3⟩
    · rw [if_pos (show UInt8.toNat 32 = 32 from rfl)]
      refine ⟨?_, ih h3⟩
      unfold pA at h2
      have h2 := of_decide_eq_true h2
      have ht : t ≠ [] := fun e => by
        rw [e, vM] at h3
        cases h3
      have hl : i + 1 < s.size := by
        apply Decidable.byContradiction
        intro hn
        apply ht
        rw [← hd]
        exact List.drop_of_length_le (by rw [B_len]; omega)
      unfold spOk
      rw [Bool.not_eq_true', Bool.or_eq_false_iff, Bool.or_eq_false_iff, decide_eq_false_iff_not, decide_eq_false_iff_not, decide_eq_false_iff_not]
      exact ⟨by omega, by omega, h2.2⟩
    · have h4 : ¬ c.toNat = 32 := fun e => h1 ((b32 c).2 e)
      rw [if_neg h4, Bool.and_eq_true, decide_eq_true_eq, decide_eq_true_eq]
      obtain ⟨q1, q2⟩ := h2
      refine ⟨⟨by omega, by omega⟩, ih ?_⟩
      rw [decide_eq_true h4]
      exact h3
theorem parts_ne (b : UInt8) (l : List UInt8) : parts b l ≠ [] := by
  cases l with
  | nil => simp [parts]
  | cons c t =>
    rw [parts]
    split
    · simp
    · split <;> simp
theorem join_parts (b : UInt8) : ∀ l : List UInt8, Lib.join (parts b l) [b] = l
  | [] => by rw [parts, Lib.join_one]
  | c :: t => by
    have ih := join_parts b t
    have hne := parts_ne b t
    rw [parts]
    cases hq : parts b t with
    | nil => exact absurd hq hne
    | cons h r =>
      rw [hq, Lib.join_cons] at ih
      by_cases hc : c = b
      · rw [if_pos hc, Lib.join_cons]
        have e : Lib.joinTail [b] (h :: r) = b :: (h ++ Lib.joinTail [b] r) := by simp [Lib.joinTail]
        rw [e, ih, hc]
        rfl
      · rw [if_neg hc]
        show Lib.join ((c :: h) :: r) [b] = _
        rw [Lib.join_cons, List.cons_append, ih]
theorem tot_join : ∀ (r : List (List UInt8)), (Lib.joinTail [32] r).length = tot r
  | [] => rfl
  | x :: r => by
    have e : Lib.joinTail [32] (x :: r) = 32 :: (x ++ Lib.joinTail [32] r) := by simp [Lib.joinTail]
    rw [e, List.length_cons, List.length_append, tot_join r, tot]
    omega
theorem tot_map (f : List ByteArray → List UInt8) (hf : ∀ w, (f w).length = w.length) : ∀ W : List (List ByteArray), tot (W.map f) = cntW W
  | [] => rfl
  | w :: r => by rw [List.map_cons, cntW, tot, tot_map f hf r, hf]
theorem enc_nil (ms : List ByteArray) : enc ms ⟨#[]⟩ = ⟨#[]⟩ := rfl
theorem dec_enc {ms : List ByteArray} (ho : okTable ms = true) {x : ByteArray} (hs : okSig x = true) (hd : okD ms (lw x) = true) : okMsg ms.length (msgD ms (lw x)) = true ∧ enc ms (msgD ms (lw x)) = x := by
  by_cases he : x = ⟨#[]⟩
  · subst he
    exact ⟨rfl, rfl⟩
  · have hlw : lw x = wordsOf x := if_neg he
    have hn := (tab_sizes ho).1
    rw [hlw] at hd ⊢
    have hb : ∀ w ∈ wordsOf x, ∀ m ∈ w, 0 ≤ place m ms 0 := fun w hw m hm => by
      have h1 := List.all_eq_true.1 hd w hw
      exact of_decide_eq_true (List.all_eq_true.1 h1 m hm)
    have hne : ∀ w ∈ wordsOf x, w ≠ [] := fun w hw => by
      unfold wordsOf at hw
      obtain ⟨p, _, rfl⟩ := List.mem_map.1 hw
      unfold partsB
      intro e
      exact parts_ne 32 (B p) (List.map_eq_nil_iff.1 e)
    have hW : ∀ y ∈ (wordsOf x).map (fun w => w.map (lB ms)), y ≠ [] ∧ ∀ b ∈ y, b ≠ 32 ∧ okB ms.length b := fun y hy => by
      obtain ⟨w, hw, rfl⟩ := List.mem_map.1 hy
      refine ⟨fun e => hne w hw (List.map_eq_nil_iff.1 e), fun b hb' => ?_⟩
      obtain ⟨m, hm, rfl⟩ := List.mem_map.1 hb'
      have h1 := (lB_in ho (hb w hw m hm)).1
      exact ⟨fun e => by have := h1.1; rw [e] at this; exact absurd this (by decide), h1⟩
    have hsp : ∀ y ∈ (wordsOf x).map (fun w => w.map (lB ms)), y ≠ [] ∧ ∀ b ∈ y, Lib.isSp b = false := fun y hy => ⟨(hW y hy).1, fun b hb' => sp_letter hn ((hW y hy).2 b hb').2⟩
    have hWne : wordsOf x ≠ [] := by
      unfold wordsOf partsB
      intro e
      exact parts_ne 47 (B x) (List.map_eq_nil_iff.1 (List.map_eq_nil_iff.1 e))
    obtain ⟨w0, r0, hwr⟩ : ∃ w0 r0, wordsOf x = w0 :: r0 := by
      cases hq : wordsOf x with
      | nil => exact absurd hq hWne
      | cons a b => exact ⟨a, b, rfl⟩
    have hB : B (msgD ms (wordsOf x)) = Lib.join ((wordsOf x).map fun w => w.map (lB ms)) [32] := B_mkB _
    have hv : vM ms.length false (B (msgD ms (wordsOf x))) := by
      rw [hB, hwr, List.map_cons, Lib.join_cons]
      rw [hwr] at hW
      refine vM_word ms.length _ (vM_tail ms.length _ fun y hy => hW y (by rw [List.map_cons]; exact List.mem_cons_of_mem _ hy)) _ false ?_ ?_
      · exact (hW _ (by rw [List.map_cons]; exact List.mem_cons_self ..)).1
      · exact (hW _ (by rw [List.map_cons]; exact List.mem_cons_self ..)).2
    have hok : okMsg ms.length (msgD ms (wordsOf x)) = true := by
      unfold okMsg
      rw [Bool.and_eq_true, decide_eq_true_eq]
      refine ⟨vM_msg ms.length _ _ 0 rfl hv, ?_⟩
      rw [← B_len, hB]
      have h1 : (Lib.join ((wordsOf x).map fun w => w.map (lB ms)) [32]).length + 1 = cntW (wordsOf x) := by
        rw [← tot_map (fun w => w.map (lB ms)) (fun w => List.length_map _), hwr, List.map_cons, Lib.join_cons, List.length_append, tot_join, tot]
        omega
      unfold okSig at hs
      rw [Bool.or_eq_true, Bool.and_eq_true, Bool.and_eq_true, decide_eq_true_eq, decide_eq_true_eq, decide_eq_true_eq] at hs
      rcases hs with hs | ⟨_, hs⟩
      · exact absurd hs he
      · omega
    refine ⟨hok, ?_⟩
    rw [← encI_enc ms hn _ hok]
    apply B_inj
    rw [B_encI, hB, fields_join _ hsp]
    unfold sJ
    rw [List.map_map]
    have e1 : (wordsOf x).map (wJ ms ∘ fun w => w.map (lB ms)) = (partsB 47 x).map B := by
      unfold wordsOf at hb ⊢
      rw [List.map_map]
      refine List.map_congr_left fun p hp => ?_
      show wJ ms ((partsB 32 p).map (lB ms)) = B p
      unfold wJ
      rw [List.map_map]
      have e2 : (partsB 32 p).map (mrk ms ∘ lB ms) = (partsB 32 p).map B := List.map_congr_left fun m hm => by
        show B (mB ms (lB ms m)) = B m
        rw [(lB_in ho (hb _ (List.mem_map.2 ⟨p, hp, rfl⟩) m hm)).2]
      rw [e2]
      unfold partsB
      rw [List.map_map]
      have e3 : (parts 32 (B p)).map (B ∘ mkB) = parts 32 (B p) := by
        conv => rhs; rw [← List.map_id (parts 32 (B p))]
        exact List.map_congr_left fun y _ => B_mkB y
      rw [e3, join_parts]
    rw [e1]
    unfold partsB
    rw [List.map_map]
    have e3 : (parts 47 (B x)).map (B ∘ mkB) = parts 47 (B x) := by
      conv => rhs; rw [← List.map_id (parts 47 (B x))]
      exact List.map_congr_left fun y _ => B_mkB y
    rw [e3, join_parts]
theorem enc_lw {ms : List ByteArray} (ho : okTable ms = true) {s : ByteArray} (hs : okMsg ms.length s = true) : lw (enc ms s) = msgW ms s := by
  by_cases he : B s = []
  · have : s = ⟨#[]⟩ := B_inj (by rw [he]; rfl)
    subst this
    rfl
  · have h1 := (enc_words ho s hs he).1
    unfold lw
    rw [if_neg, h1]
    intro e
    rw [e] at h1
    have h2 : wordsOf ⟨#[]⟩ = [[⟨#[]⟩]] := rfl
    rw [h2] at h1
    have h3 : (⟨#[]⟩ : ByteArray) ∈ [(⟨#[]⟩ : ByteArray)] := List.mem_singleton.2 rfl
    have h4 : [(⟨#[]⟩ : ByteArray)] ∈ msgW ms s := by rw [← h1]; exact List.mem_singleton.2 rfl
    unfold msgW at h4
    obtain ⟨w, hw, hw2⟩ := List.mem_map.1 h4
    rw [← hw2] at h3
    obtain ⟨b, hb, hb2⟩ := List.mem_map.1 h3
    have h5 := ((enc_words ho s hs he).2.2 w hw).2 b hb
    have h6 : mB ms b ∈ ms := by
      have hlt : b.toNat - 97 < ms.length := by have := h5.1; have := h5.2; omega
      unfold mB
      rw [← mk_at hlt]
      exact List.getElem_mem _
    have h7 := ((vt_of ho).sz _ h6).1
    rw [hb2] at h7
    exact absurd h7 (by decide)
theorem enc_dec {ms : List ByteArray} (ho : okTable ms = true) {s : ByteArray} (hs : okMsg ms.length s = true) : okD ms (lw (enc ms s)) = true ∧ msgD ms (lw (enc ms s)) = s := by
  rw [enc_lw ho hs]
  by_cases he : B s = []
  · have : s = ⟨#[]⟩ := B_inj (by rw [he]; rfl)
    subst this
    exact ⟨rfl, rfl⟩
  · obtain ⟨h1, h2, h3⟩ := enc_words ho s hs he
    obtain ⟨q1, q2⟩ := okMsg_msgL hs
    have hv := msg_vM ms.length s (B s) 0 rfl q1 (fun e => absurd e he)
    have hp : pA s 0 = false := rfl
    rw [hp] at hv
    unfold msgW
    refine ⟨?_, ?_⟩
    · unfold okD
      rw [List.all_eq_true]
      intro y hy
      obtain ⟨w, hw, rfl⟩ := List.mem_map.1 hy
      unfold okW
      rw [List.all_eq_true]
      intro m hm
      obtain ⟨b, hb, rfl⟩ := List.mem_map.1 hm
      exact decide_eq_true (lB_mB ho ((h3 w hw).2 b hb)).1
    · unfold msgD
      rw [List.map_map]
      have e1 : (Lib.fields (B s)).map ((fun w => w.map (lB ms)) ∘ fun w => w.map (mB ms)) = Lib.fields (B s) := by
        conv => rhs; rw [← List.map_id (Lib.fields (B s))]
        refine List.map_congr_left fun w hw => ?_
        show (w.map (mB ms)).map (lB ms) = w
        rw [List.map_map]
        conv => rhs; rw [← List.map_id w]
        exact List.map_congr_left fun b hb => (lB_mB ho ((h3 w hw).2 b hb)).2
      rw [e1]
      have h4 := (join_fields ms.length (tab_sizes ho).1 (B s)).2 hv
      unfold Lib.fields
      rw [h4, mkB_B]
-- ---------------------------------------------------------------- times
def val (l : List UInt8) : Int := (l.count 46 : Nat) + 3 * (l.count 45 : Nat)
theorem val_app (a b : List UInt8) : val (a ++ b) = val a + val b := by
  unfold val
  rw [List.count_append, List.count_append]
  omega
def vW : List ByteArray → Int
  | [] => 0
  | m :: t => val (B m) + vW t
def vS : List (List ByteArray) → Int
  | [] => 0
  | w :: t => vW w + vS t
theorem vW_app (a b : List ByteArray) : vW (a ++ b) = vW a + vW b := by
  induction a with
  | nil => rw [List.nil_append, vW]; omega
  | cons m a ih => rw [List.cons_append, vW, vW, ih]; omega
theorem val_tM {m : ByteArray} (h : okMarks m 1 5 = true) : val (B m) ≤ tM m := by
  have h1 := (marks_def.1 h).1
  have h2 := cnt_sum (B m) h1
  unfold okMarks at h
  rw [Bool.and_eq_true, Bool.and_eq_true, decide_eq_true_eq, decide_eq_true_eq] at h
  rw [B_len] at h2
  unfold val tM dash Lib.countByte
  omega
theorem vW_tW : ∀ (w : List ByteArray) (k : Nat), (∀ m ∈ w, okMarks m 1 5 = true) → vW w ≤ tW k w
  | [], _, _ => Int.le_refl _
  | m :: w, k, h => by
    have h1 := val_tM (h m (List.mem_cons_self ..))
    have h2 := vW_tW w (k + 1) (fun x hx => h x (List.mem_cons_of_mem _ hx))
    rw [vW, tW]
    split <;> omega
theorem vS_tSg : ∀ (W : List (List ByteArray)) (i : Nat), (∀ w ∈ W, ∀ m ∈ w, okMarks m 1 5 = true) → vS W ≤ tSg i W
  | [], _, _ => Int.le_refl _
  | w :: W, i, h => by
    have h1 := vW_tW w 0 (h w (List.mem_cons_self ..))
    have h2 := vS_tSg W (i + 1) (fun x hx => h x (List.mem_cons_of_mem _ hx))
    rw [vS, tSg]
    split <;> omega
theorem vS_fields (ms : List ByteArray) (n : Nat) (hn : n ≤ 20) : ∀ (t cur : List UInt8), (∀ c ∈ t, c = 32 ∨ okB n c) → vS ((Lib.fieldsGo cur t).map fun w => w.map (mB ms)) = vW (cur.map (mB ms)) + val (mAll ms t)
  | [], cur, _ => by
    rw [Lib.fieldsGo, mAll]
    cases cur with
    | nil => rfl
    | cons a b =>
      show vS [(a :: b).map (mB ms)] = _
      rw [vS, vS]
      rfl
  | c :: t, cur, h => by
    have ih := fun cur => vS_fields ms n hn t cur (fun x hx => h x (List.mem_cons_of_mem _ hx))
    rcases h c (List.mem_cons_self ..) with rfl | hc
    · rw [Lib.fieldsGo, show Lib.isSp 32 = true from rfl, if_pos rfl, mAll, if_pos (show UInt8.toNat 32 = 32 from rfl)]
      cases cur with
      | nil => exact ih []
      | cons a b =>
        show vS (((a :: b) :: Lib.fieldsGo [] t).map fun w => w.map (mB ms)) = _
        rw [List.map_cons, vS, ih []]
        rw [show vW (([] : List UInt8).map (mB ms)) = 0 from rfl]
        omega
    · have hs := sp_letter hn hc
      have h32 : ¬ c.toNat = 32 := by have := hc.1; omega
      rw [Lib.fieldsGo, hs, if_neg (by decide), mAll, if_neg h32, ih, List.map_append, vW_app, val_app]
      have e : vW ([c].map (mB ms)) = val (mrk ms c) := by
        show val (B (mB ms c)) + 0 = val (mrk ms c)
        rw [Int.add_zero]
        rfl
      omega
theorem time_val {ms : List ByteArray} (ho : okTable ms = true) {s : ByteArray} (hs : okMsg ms.length s = true) : (dots ms s : Int) + 3 * (dashs ms s : Int) ≤ sgT (enc ms s) := by
  unfold sgT
  have hn := (tab_sizes ho).1
  obtain ⟨h1, h2⟩ := okMsg_msgL hs
  have hv : ∀ c ∈ B s, c = 32 ∨ okB ms.length c := by
    by_cases he : B s = []
    · intro c hc; rw [he] at hc; cases hc
    · exact vM_mem ms.length (B s) _ (msg_vM ms.length s (B s) 0 rfl h1 (fun e => absurd e he))
  have h3 : vS (msgW ms s) = val (mAll ms (B s)) := by
    have := vS_fields ms ms.length hn (B s) [] hv
    rw [show vW (([] : List UInt8).map (mB ms)) = 0 from rfl, Int.zero_add] at this
    exact this
  have h4 : (dots ms s : Int) + 3 * (dashs ms s : Int) = vS (msgW ms s) := by
    rw [h3]
    unfold dots dashs val
    rw [show B (bareM ms s) = mAll ms (B s) from B_mk _]
  rw [h4, enc_lw ho hs]
  refine vS_tSg _ 0 fun w hw m hm => ?_
  unfold msgW at hw
  obtain ⟨u, hu, rfl⟩ := List.mem_map.1 hw
  obtain ⟨b, hb, rfl⟩ := List.mem_map.1 hm
  rcases (go_mem (B s) [] u hu).2 b hb with h | ⟨h, hsp⟩
  · cases h
  · rcases hv b h with rfl | h
    · exact absurd hsp (by decide)
    · have hlt : b.toNat - 97 < ms.length := by have := h.1; have := h.2; omega
      refine tab_marks ho _ ?_
      unfold mB
      rw [← mk_at hlt]
      exact List.getElem_mem _
theorem bare_cnt {ms : List ByteArray} (ho : okTable ms = true) {s : ByteArray} (hs : okMsg ms.length s = true) : ((bareM ms s).size : Int) = (dots ms s : Int) + (dashs ms s : Int) := by
  have h := cnt_sum (B (bareM ms s)) (bare_marks ho s hs)
  rw [B_len] at h
  unfold dots dashs
  omega
end Go.Proofs.YtckfbfgfjlgmeaaGreatDoor.Ev

