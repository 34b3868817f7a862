/- The rank of a reading: the program's. -/
import Derived.Test.YtkdfgjijmnaljaaDoorEvRdD
set_option linter.unusedVariables false
set_option linter.unusedSimpArgs false
namespace Go.Proofs.YtkdfgjijmnaljaaDoor.Ev
/-- The letters of a text, if it has letters of the table alone. -/
def lets (ms : List ByteArray) : List UInt8 → Option (List Nat)
  | [] => some []
  | c :: t => if 97 ≤ c.toNat ∧ c.toNat - 97 < ms.length then (lets ms t).map (fun v => (c.toNat - 97) :: v) else none
theorem lets_lt {ms : List ByteArray} : ∀ {t : List UInt8} {w : List Nat}, lets ms t = some w → ∀ i ∈ w, i < ms.length
  | [], w, h, i, hi => by cases h; simp at hi
  | c :: t, w, h, i, hi => by
    rw [lets] at h
    split at h
    · rename_i hc
      obtain ⟨v, hv, rfl⟩ := Option.map_eq_some_iff.1 h
      rcases List.mem_cons.1 hi with rfl | hi
      · exact hc.2
      · exact lets_lt hv i hi
    · cases h
theorem lets_len {ms : List ByteArray} : ∀ {t : List UInt8} {w : List Nat}, lets ms t = some w → w.length = t.length
  | [], w, h => by cases h; rfl
  | c :: t, w, h => by
    rw [lets] at h
    split at h
    · obtain ⟨v, hv, rfl⟩ := Option.map_eq_some_iff.1 h
      rw [List.length_cons, List.length_cons, lets_len hv]
    · cases h
theorem lets_ltx {ms : List ByteArray} (hm : ms.length ≤ 100) : ∀ {w : List Nat}, (∀ i ∈ w, i < ms.length) → lets ms (B (ltx w)) = some w
  | [], _ => rfl
  | i :: w, h => by
    have hi := h i (List.mem_cons_self ..)
    have ih := lets_ltx hm (w := w) (fun x hx => h x (List.mem_cons_of_mem _ hx))
    have hB : B (ltx (i :: w)) = UInt8.ofNat (97 + i) :: B (ltx w) := by unfold B ltx; simp
    have hc : (UInt8.ofNat (97 + i)).toNat = 97 + i := by rw [UInt8.toNat_ofNat']; omega
    rw [hB, lets, hc, if_pos (by omega), ih, show 97 + i - 97 = i by omega]
    rfl
theorem ltx_lets {ms : List ByteArray} : ∀ {t : List UInt8} {w : List Nat}, lets ms t = some w → B (ltx w) = t
  | [], w, h => by cases h; rfl
  | c :: t, w, h => by
    rw [lets] at h
    split at h
    · rename_i hc
      obtain ⟨v, hv, rfl⟩ := Option.map_eq_some_iff.1 h
      have ih := ltx_lets hv
      have hB : B (ltx ((c.toNat - 97) :: v)) = UInt8.ofNat (97 + (c.toNat - 97)) :: B (ltx v) := by unfold B ltx; simp
      have hcc : UInt8.ofNat (97 + (c.toNat - 97)) = c := by
        apply UInt8.toNat_inj.1
        have := UInt8.toNat_lt c
        rw [UInt8.toNat_ofNat']
        omega
      rw [hB, ih, hcc]
    · cases h
theorem fb_cons {ms : List ByteArray} (a : ByteArray) (i : Nat) (w : List Nat) : (a ++ mk_ ms i) ++ fb ms w = a ++ fb ms (i :: w) := B_eq (by unfold B fb; simp [flat, B])
theorem nm_loop (ms : List ByteArray) (hv : VT ms) (m : ByteArray) (hs : m.size ≤ 40) : ∀ (t : List UInt8) (i : Nat) (a : ByteArray), (B m).drop i = t → a.size ≤ 5 * i →
    (∀ w, lets ms t = some w → packX 0 [1, 2, 4, 5, 6] (loopW (bd E0 (ev E0) loopW 0 [1, 2, 6, 25, 26] L25b0) ⟨[(1, st m), (2, .ptr 0 0 0), (6, st a), (25, i64 m.size), (26, i64 i)], [some (tb ms)]⟩) = some (.ext 0, ⟨[(1, st m), (2, .ptr 0 0 0), (6, st (a ++ fb ms w))], [some (tb ms)]⟩)) ∧
    (lets ms t = none → ∃ b : ByteArray, packX 0 [1, 2, 4, 5, 6] (loopW (bd E0 (ev E0) loopW 0 [1, 2, 6, 25, 26] L25b0) ⟨[(1, st m), (2, .ptr 0 0 0), (6, st a), (25, i64 m.size), (26, i64 i)], [some (tb ms)]⟩) = some (.ret, ⟨[(1, st m), (2, .ptr 0 0 0), (4, i64 0), (5, bl false), (6, st b)], [some (tb ms)]⟩)) := by
  have hlen := hv.len
  unfold tb
  intro t
  induction t with
  | nil =>
    intro i a h _
    have hi := byte_end h
    have hii : ¬ (i : Int) < (m.size : Int) := by omega
    refine ⟨fun w hw => ?_, fun h => by cases h⟩
    cases hw
    have he : a ++ fb ms [] = a := B_eq (by unfold B fb; simp [flat])
    rw [he, loopW_eq]
    generalize loopW (bd E0 (ev E0) loopW 0 [1, 2, 6, 25, 26] L25b0) = K
    simp -implicitDefEqProofs [bd, L25b0, hii]
  | cons c t ih =>
    intro i a hd0 ha
    obtain ⟨hi, hx, hd⟩ := byte_at hd0
    have hii : (i : Int) < (m.size : Int) := by omega
    have hc256 := UInt8.toNat_lt c
    have w0 : IntKind.i64.wrap (c.toNat : Int) = (c.toNat : Int) := wr64 (by omega) (by omega)
    have w1 : IntKind.i64.wrap ((c.toNat : Int) - 97) = (c.toNat : Int) - 97 := wr64 (by omega) (by omega)
    have hlt := letter_i ms (by omega) ((c.toNat : Int) - 97)
    have hw : IntKind.i64.wrap ((i : Int) + 1) = (i : Int) + 1 := wr64 (by omega) (by omega)
    by_cases hc : 97 ≤ c.toNat ∧ c.toNat - 97 < ms.length
    · obtain ⟨k, hk⟩ : ∃ k, k = c.toNat - 97 := ⟨_, rfl⟩
      have hki : (c.toNat : Int) - 97 = (k : Int) := by omega
      have hok : okLetter ms ((c.toNat : Int) - 97) = true := by unfold okLetter; rw [Bool.and_eq_true, decide_eq_true_eq, decide_eq_true_eq]; omega
      rw [hok, hki] at hlt
      rw [hki] at w1
      have hkl : k < ms.length := by omega
      have hki2 : (k : Int) < (ms.length : Int) := by omega
      have hx2 : (ms.map st)[k]? = some (st (mk_ ms k)) := by rw [List.getElem?_map, List.getElem?_eq_getElem hkl, mk_at hkl]; rfl
      have hx3 : ∀ h, ms[k]'h = mk_ ms k := fun h => mk_at h
      have hz := hv.sz (mk_ ms k) (by rw [← mk_at hkl]; exact List.getElem_mem hkl)
      have hsz : a.size + (mk_ ms k).size ≤ 9223372036854775807 := by omega
      obtain ⟨ih1, ih2⟩ := ih (i + 1) (a ++ mk_ ms k) hd (by rw [ByteArray.size_append]; omega)
      rw [cs1] at ih1 ih2
      have hl : lets ms (c :: t) = (lets ms t).map (fun v => k :: v) := by rw [lets, if_pos hc, hk]
      rw [hl, loopW_eq]
      generalize loopW (bd E0 (ev E0) loopW 0 [1, 2, 6, 25, 26] L25b0) = K at ih1 ih2 ⊢
      refine ⟨fun w hw2 => ?_, fun h => ?_⟩
      · obtain ⟨v, hv2, rfl⟩ := Option.map_eq_some_iff.1 hw2
        have h1 := ih1 v hv2
        rw [fb_cons] at h1
        simpa -implicitDefEqProofs [bd, L25b0, hii, hi, -List.getD_eq_getElem?_getD, hx, w0, w1, hki, hlt, hkl, hki2, hx2, hx3, hsz, hw, -ByteArray.size_append] using h1
      · obtain ⟨b, h2⟩ := ih2 (by cases hq : lets ms t with | none => rfl | some v => rw [hq] at h; cases h)
        refine ⟨b, ?_⟩
        simpa -implicitDefEqProofs [bd, L25b0, hii, hi, -List.getD_eq_getElem?_getD, hx, w0, w1, hki, hlt, hkl, hki2, hx2, hx3, hsz, hw, -ByteArray.size_append] using h2
    · have hok : okLetter ms ((c.toNat : Int) - 97) = false := by
        rw [Bool.eq_false_iff]
        intro e
        unfold okLetter at e
        rw [Bool.and_eq_true, decide_eq_true_eq, decide_eq_true_eq] at e
        exact hc ⟨by omega, by omega⟩
      rw [hok] at hlt
      have hl : lets ms (c :: t) = none := by rw [lets, if_neg hc]
      rw [hl]
      refine ⟨fun w h => (by cases h), fun _ => ⟨a, ?_⟩⟩
      rw [loopW_eq]
      generalize loopW (bd E0 (ev E0) loopW 0 [1, 2, 6, 25, 26] L25b0) = K
      simp -implicitDefEqProofs [bd, L25b0, hii, hi, -List.getD_eq_getElem?_getD, hx, w0, w1, hlt]
/-- The letters before one, counted. -/
theorem rkI_in (s : ByteArray) (hs : s.size ≤ 40) (ms : List ByteArray) (hv : VT ms) (m : ByteArray) (mz k nn : Int) (at_ : Nat) (ha : at_ ≤ s.size) (i : Nat) (hi : i ≤ ms.length) : ∀ (t : List ByteArray) (j acc : Nat), (ms.take i).drop j = t → acc + Rd.sm (fl ms ((B s).drop at_)) t ≤ 140737488355328 →
    packX 0 [1, 2, 6, 9, 10, 11, 13, 53, 54] (loopW (bd E0 (ev E0) loopW 0 [1, 2, 6, 9, 10, 11, 13, 53, 54, 65, 66, 67] L25b1) ⟨[(1, st m), (2, .ptr 0 0 0), (6, st s), (9, .sl 1 0 (s.size + 1)), (10, i64 at_), (11, i64 acc), (13, i64 i), (53, i64 mz), (54, i64 nn), (65, .lst 1 ((ms.take i).map st)), (66, i64 i), (67, i64 j)], [some (tb ms), some (ib (Rd.vals (ms.map B) (B s)))]⟩) =
      some (.ext 4, ⟨[(1, st m), (2, .ptr 0 0 0), (6, st s), (9, .sl 1 0 (s.size + 1)), (10, i64 at_), (11, i64 ((acc + Rd.sm (fl ms ((B s).drop at_)) t : Nat) : Int)), (13, i64 i), (53, i64 mz), (54, i64 nn)], [some (tb ms), some (ib (Rd.vals (ms.map B) (B s)))]⟩) := by
  have hlen := hv.len
  have hil : (ms.take i).length = i := by rw [List.length_take]; omega
  unfold tb ib
  intro t
  induction t with
  | nil =>
    intro j acc hj _
    have hjn := not_drop hj
    rw [hil] at hjn
    have hji : ¬ (j : Int) < (i : Int) := by omega
    rw [loopW_eq]
    generalize loopW (bd E0 (ev E0) loopW 0 [1, 2, 6, 9, 10, 11, 13, 53, 54, 65, 66, 67] L25b1) = K
    simp -implicitDefEqProofs [bd, L25b1, hji, Rd.sm]
  | cons u t ih =>
    intro j acc hj hb
    obtain ⟨hjl, hx, hd, hmem⟩ := at_drop hj
    have hx2 : ((ms.take i).map st)[j]? = some (st u) := by rw [List.getElem?_map, List.getElem?_eq_getElem hjl, hx]; rfl
    have hx3 : ∀ h, ((ms.take i).map st)[j]'h = st u := fun h => (List.getElem?_eq_some_iff.1 hx2).2
    have hml : ((ms.take i).map st).length = i := by rw [List.length_map, hil]
    rw [hil] at hjl
    have hji : (j : Int) < (i : Int) := by omega
    obtain ⟨hm1, hm2⟩ := hv.sz u (List.mem_of_mem_take hmem)
    rw [Rd.sm] at hb
    have hih := ih (j + 1) (acc + fl ms ((B s).drop at_) u) hd (by omega)
    rw [cs1, Nat.add_assoc] at hih
    have hw : IntKind.i64.wrap ((j : Int) + 1) = (j : Int) + 1 := wr64 (by omega) (by omega)
    have hks : (at_ : Int) ≤ (s.size : Int) := by omega
    have hp := has_i (s.extract at_ s.size) u (by rw [ByteArray.size_extract]; omega) (by omega)
    have hBs : B (s.extract at_ s.size) = (B s).drop at_ := by rw [B_ext, ← B_len, List.take_length]
    rw [hBs] at hp
    have hl2 := ns_len (Rd.vals (ms.map B) (B s))
    rw [Rd.vals_len, B_len] at hl2
    rw [Rd.sm, loopW_eq]
    generalize loopW (bd E0 (ev E0) loopW 0 [1, 2, 6, 9, 10, 11, 13, 53, 54, 65, 66, 67] L25b1) = K at hih ⊢
    generalize (ms.take i).map st = TT at *
    by_cases h : Rd.pre (B u) ((B s).drop at_) = true
    · have hle := Rd.pre_len h
      rw [List.length_drop, B_len, B_len] at hle
      have hf : fl ms ((B s).drop at_) u = Rd.wy (ms.map B) ((B s).drop (at_ + u.size)) := by
        unfold fl
        rw [if_pos h, List.drop_drop]
      have z1 := vals_k ms (B s) (at_ + u.size) (by rw [B_len]; omega)
      rw [← hf] at z1
      have z2 : ∀ h, (ns (Rd.vals (ms.map B) (B s)))[at_ + u.size]'h = _ := fun h => (List.getElem?_eq_some_iff.1 z1).2
      have w1 : IntKind.i64.wrap ((at_ : Int) + (u.size : Int)) = ((at_ + u.size : Nat) : Int) := by rw [wr64 (by omega) (by omega)]; omega
      have q1 : at_ + u.size < s.size + 1 := by omega
      have q2 : ((at_ + u.size : Nat) : Int) < (s.size : Int) + 1 := by omega
      rw [h] at hp
      generalize fl ms ((B s).drop at_) u = y at *
      have w2 : IntKind.i64.wrap ((acc : Int) + (y : Int)) = ((acc + y : Nat) : Int) := by rw [wr64 (by omega) (by omega)]; omega
      simpa -implicitDefEqProofs [bd, L25b1, hji, hjl, hx2, hx3, hml, hks, hp, hw, w1, w2, q1, q2, z1, z2, hl2, -Int.natCast_add] using hih
    · have h' : Rd.pre (B u) ((B s).drop at_) = false := by simpa using h
      have hf : fl ms ((B s).drop at_) u = 0 := by unfold fl; rw [if_neg h]
      rw [hf] at hih ⊢
      rw [Nat.add_zero] at hih
      rw [h'] at hp
      simpa -implicitDefEqProofs [bd, L25b1, hji, hjl, hx2, hx3, hml, hks, hp, hw, -Int.natCast_add] using hih
set_option maxRecDepth 10000 in
theorem rkI_out (s : ByteArray) (hs : s.size ≤ 40) (ms : List ByteArray) (hv : VT ms) (w : List Nat) (hw : ∀ i ∈ w, i < ms.length) (hwl : w.length ≤ 40) : ∀ (t : List Nat) (j at_ acc : Nat), w.drop j = t → at_ ≤ s.size → flat ms t = (B s).drop at_ → acc ≤ 1099511627776 * j →
    packX 0 [11] (loopW (bd E0 (ev E0) loopW 0 [1, 2, 6, 9, 10, 11, 53, 54] L25b2) ⟨[(1, st (ltx w)), (2, .ptr 0 0 0), (6, st s), (9, .sl 1 0 (s.size + 1)), (10, i64 at_), (11, i64 acc), (53, i64 w.length), (54, i64 j)], [some (tb ms), some (ib (Rd.vals (ms.map B) (B s)))]⟩) =
      some (.ext 2, ⟨[(11, i64 ((acc + rk ms t ((B s).drop at_) : Nat) : Int))], []⟩) := by
  have hlen := hv.len
  have hsz := ltx_size w
  intro t
  induction t with
  | nil =>
    intro j at_ acc hj ha hf _
    have hjn := not_drop hj
    have hji : ¬ (j : Int) < (w.length : Int) := by omega
    rw [loopW_eq]
    generalize loopW (bd E0 (ev E0) loopW 0 [1, 2, 6, 9, 10, 11, 53, 54] L25b2) = K
    unfold bd
    simp -implicitDefEqProofs [L25b2, ib, tb, hji, rk]
  | cons i t ih =>
    intro j at_ acc hj ha hf hb
    obtain ⟨hjl, hx, hd, hmem⟩ := at_drop hj
    have hi := hw i hmem
    have hji : (j : Int) < (w.length : Int) := by omega
    have hbt := ltx_at w j i (by rw [List.getElem?_eq_getElem hjl, hx]) (by omega)
    obtain ⟨f1, f2⟩ := flat_head (ms := ms) i t
    rw [hf] at f1 f2
    have hz := hv.sz (mk_ ms i) (by rw [← mk_at hi]; exact List.getElem_mem hi)
    have hle := Rd.pre_len f1
    rw [List.length_drop, B_len, B_len] at hle
    have hne : (B s).drop at_ ≠ [] := fun e => by have := congrArg List.length e; rw [List.length_drop, B_len] at this; simp at this; omega
    have hwy := wy_bound hv ((B s).drop at_) (by rw [List.length_drop, B_len]; omega)
    have hsm := sm_take_le (fl ms ((B s).drop at_)) ms i ms.length (by omega)
    rw [List.take_length, ← wy_fl hv hne] at hsm
    have hin := rkI_in s hs ms hv (ltx w) (w.length : Int) 0 (j : Int) at_ ha i (by omega) (ms.take i) 0 acc rfl (by omega)
    rw [c0] at hin
    have hih := ih (j + 1) (at_ + (mk_ ms i).size) (acc + Rd.sm (fl ms ((B s).drop at_)) (ms.take i)) hd (by omega) (by rw [← List.drop_drop, f2]) (by omega)
    rw [cs1] at hih
    have hrk : acc + rk ms (i :: t) ((B s).drop at_) = acc + Rd.sm (fl ms ((B s).drop at_)) (ms.take i) + rk ms t ((B s).drop (at_ + (mk_ ms i).size)) := by
      rw [← List.drop_drop]
      show acc + (Rd.sm _ (ms.take i) + rk ms t _) = _
      omega
    have hc8 : (UInt8.ofNat (97 + i)).toNat = 97 + i := by rw [UInt8.toNat_ofNat']; omega
    have hq : ((UInt8.ofNat (97 + i)).toNat : Int) - 97 = (i : Int) := by omega
    have u1 : IntKind.u8.wrap (((UInt8.ofNat (97 + i)).toNat : Int) - 97) = (i : Int) := by rw [hq]; unfold IntKind.wrap; simp [IntKind.bits, IntKind.signed]; omega
    have u2 : IntKind.i64.wrap (i : Int) = (i : Int) := wr64 (by omega) (by omega)
    have hkl : (i : Int) ≤ (ms.length : Int) := by omega
    have hkl2 : i ≤ ms.length := by omega
    have hkl3 : (i : Int) < (ms.length : Int) := by omega
    rw [List.map_take] at hin
    have hml : (List.take i (ms.map st)).length = i := by rw [List.length_take, List.length_map]; omega
    have hml2 : min i ms.length = i := by omega
    have hx2 : (ms.map st)[i]? = some (st (mk_ ms i)) := by rw [List.getElem?_map, List.getElem?_eq_getElem hi, mk_at hi]; rfl
    have hx3 : ∀ h, ms[i]'h = mk_ ms i := fun h => mk_at h
    have w1 : IntKind.i64.wrap ((at_ : Int) + ((mk_ ms i).size : Int)) = ((at_ + (mk_ ms i).size : Nat) : Int) := by rw [wr64 (by omega) (by omega)]; omega
    have hwj : IntKind.i64.wrap ((j : Int) + 1) = (j : Int) + 1 := wr64 (by omega) (by omega)
    rw [hrk, loopW_eq]
    generalize UInt8.ofNat (97 + i) = y at *
    generalize mk_ ms i = m at *
    generalize loopW (bd E0 (ev E0) loopW 0 [1, 2, 6, 9, 10, 11, 53, 54] L25b2) = K at hih ⊢
    unfold bd
    simp only [ib, tb] at hin hih ⊢
    simpa -implicitDefEqProofs [L25b2, hji, hsz, hjl, -List.getD_eq_getElem?_getD, hbt, u1, u2, hkl, hkl2, hkl3, hml, hml2, hin, hi, hx2, hx3, w1, hwj, -Int.natCast_add] using hih
end Go.Proofs.YtkdfgjijmnaljaaDoor.Ev
