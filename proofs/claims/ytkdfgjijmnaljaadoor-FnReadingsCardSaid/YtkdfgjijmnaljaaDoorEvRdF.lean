/- The rank of a reading: both. -/
import Derived.Test.YtkdfgjijmnaljaaDoorEvRdE
set_option linter.unusedVariables false
set_option linter.unusedSimpArgs false
namespace Go.Proofs.YtkdfgjijmnaljaaDoor.Ev
def noR : AV := .tup [i64 0, bl false]
def rnkW (ms : List ByteArray) : Option (List Nat) → AV
  | none => noR
  | some w => if okMarks (fb ms w) 0 40 = true then .tup [i64 ((rk ms w (flat ms w) : Nat) : Int), bl true] else noR
/-- What both answer. -/
def rnk (ms : List ByteArray) (m : ByteArray) : AV := if okTable ms = true ∧ m.size ≤ 40 then rnkW ms (lets ms (B m)) else noR
theorem B_fb (ms : List ByteArray) (w : List Nat) : B (fb ms w) = flat ms w := rfl
theorem marks_size {s : ByteArray} (h : okMarks s 0 40 = true) : s.size ≤ 40 := by
  unfold okMarks at h
  rw [Bool.and_eq_true, Bool.and_eq_true, decide_eq_true_eq, decide_eq_true_eq] at h
  omega
theorem m_ltx {ms : List ByteArray} {m : ByteArray} {w : List Nat} (h : lets ms (B m) = some w) : m = ltx w := (B_eq (ltx_lets h)).symm
theorem rank_i (ms : List ByteArray) (hm : ms.length ≤ 1000) (hz : ∀ m ∈ ms, m.size ≤ 1000) (m : ByteArray) (hmz : m.size ≤ 1000000) : ev E0 25 [.agg [.lst 1 (ms.map st)], st m] [] = some (rnk ms m, []) := by
  have h1 := table_i ms (by omega) (fun x hx => by have := hz x hx; omega)
  unfold rnk
  cases ho : okTable ms with
  | false =>
    rw [ho] at h1
    rw [if_neg (by simp)]
    rw [e25]
    unfold runF noR
    simp -implicitDefEqProofs [L25, h1]
  | true =>
    have hv := vt_of ho
    rw [ho] at h1
    by_cases h4 : m.size ≤ 40
    · have h4i : ¬ (40 : Int) < (m.size : Int) := by omega
      rw [if_pos ⟨rfl, h4⟩]
      obtain ⟨n1, n2⟩ := nm_loop ms hv m h4 (B m) 0 ⟨#[]⟩ rfl (by decide)
      rw [c0] at n1 n2
      cases hL : lets ms (B m) with
      | none =>
        obtain ⟨b, hb⟩ := n2 hL
        unfold rnkW noR
        rw [e25]
        unfold runF
        simp only [tb] at hb
        simp -implicitDefEqProofs [L25, h1, h4i, hb]
      | some w =>
        have hw := lets_lt hL
        have hwl := lets_len hL
        rw [B_len] at hwl
        have hb := n1 w hL
        rw [show (⟨#[]⟩ : ByteArray) ++ fb ms w = fb ms w from B_eq (by unfold B fb; simp)] at hb
        have hfz := fb_size ms w
        have hff := flat_five hv w hw
        have h5 := bare_i (fb ms w) (by omega)
        unfold rnkW
        dsimp only
        cases hok : okMarks (fb ms w) 0 40 with
        | false =>
          rw [hok] at h5
          rw [if_neg (by simp)]
          rw [e25]
          unfold runF noR
          simp only [tb] at hb
          generalize fb ms w = s at *
          simp -implicitDefEqProofs [L25, h1, h4i, hb, h5]
        | true =>
          rw [hok] at h5
          rw [if_pos rfl]
          have hsz := marks_size hok
          have h6 := ways_i (fb ms w) hsz ms hv
          have h7 := rkI_out (fb ms w) hsz ms hv w hw (by omega) w 0 0 0 rfl (Nat.zero_le _) rfl (Nat.zero_le _)
          rw [c0, Nat.zero_add, List.drop_zero, ← m_ltx hL, show rk ms w (B (fb ms w)) = rk ms w (flat ms w) from rfl] at h7
          have hml : (m.size : Int) = (w.length : Int) := by omega
          rw [e25]
          unfold runF
          simp only [tb, ib] at hb h6 h7
          rw [hwl] at h7
          generalize rk ms w (flat ms w) = R at *
          generalize fb ms w = s at *
          generalize ns (Rd.vals (ms.map B) (B s)) = V at *
          simp -implicitDefEqProofs [L25, h1, h4i, hb, h5, h6, h7]
    · have h4i : (40 : Int) < (m.size : Int) := by omega
      rw [if_neg (fun h => h4 h.2)]
      rw [e25]
      unfold runF noR
      simp -implicitDefEqProofs [L25, h1, h4i]
-- ---------------------------------------------------------------- the reference
theorem ltrs_loop (ms : List ByteArray) (hl : ms.length ≤ 1000) (m : ByteArray) (hs : m.size ≤ 1000) : ∀ (t : List UInt8) (i : Nat), (B m).drop i = t →
    ((lets ms t).isSome = true → packX 0 [4] (loopW (bd E0 (ev E0) loopW 0 [1, 2, 5] L59b0) ⟨[(1, st m), (2, .ptr 0 0 0), (5, i64 i)], [some (tb ms)]⟩) = some (.ext 0, ⟨[], []⟩)) ∧
    ((lets ms t).isSome = false → packX 0 [4] (loopW (bd E0 (ev E0) loopW 0 [1, 2, 5] L59b0) ⟨[(1, st m), (2, .ptr 0 0 0), (5, i64 i)], [some (tb ms)]⟩) = some (.ret, ⟨[(4, bl false)], []⟩)) := by
  unfold tb
  intro t
  induction t with
  | nil =>
    intro i h
    have hi := byte_end h
    have hii : ¬ (i : Int) < (m.size : Int) := by omega
    refine ⟨fun _ => ?_, fun h => by simp [lets] at h⟩
    rw [loopW_eq]
    generalize loopW (bd E0 (ev E0) loopW 0 [1, 2, 5] L59b0) = K
    simp -implicitDefEqProofs [bd, L59b0, hii]
  | cons c t ih =>
    intro i hd0
    obtain ⟨hi, hx, hd⟩ := byte_at hd0
    obtain ⟨ih1, ih2⟩ := ih (i + 1) hd
    rw [cs1] at ih1 ih2
    have hii : (i : Int) < (m.size : Int) := by omega
    have hc256 := UInt8.toNat_lt c
    have w0 : IntKind.i64.wrap (c.toNat : Int) = (c.toNat : Int) := wr64 (by omega) (by omega)
    have w1 : IntKind.i64.wrap ((c.toNat : Int) - 97) = (c.toNat : Int) - 97 := wr64 (by omega) (by omega)
    have w2 : IntKind.i64.wrap ((ms.length : Int) - 1) = (ms.length : Int) - 1 := wr64 (by omega) (by omega)
    have hlt := in_s ((c.toNat : Int) - 97) 0 ((ms.length : Int) - 1)
    have hw : IntKind.i64.wrap ((i : Int) + 1) = (i : Int) + 1 := wr64 (by omega) (by omega)
    rw [loopW_eq]
    generalize loopW (bd E0 (ev E0) loopW 0 [1, 2, 5] L59b0) = K at ih1 ih2 ⊢
    by_cases hc : 97 ≤ c.toNat ∧ c.toNat - 97 < ms.length
    · have hl : (lets ms (c :: t)).isSome = (lets ms t).isSome := by rw [lets, if_pos hc]; cases lets ms t <;> rfl
      have d1 : decide ((0 : Int) ≤ (c.toNat : Int) - 97) = true := decide_eq_true (by omega)
      have d2 : decide ((c.toNat : Int) - 97 ≤ (ms.length : Int) - 1) = true := decide_eq_true (by omega)
      rw [d1, d2] at hlt
      rw [hl]
      refine ⟨fun h => ?_, fun h => ?_⟩
      · simpa -implicitDefEqProofs [bd, L59b0, hii, hi, -List.getD_eq_getElem?_getD, hx, w0, w1, w2, hlt, hw] using ih1 h
      · simpa -implicitDefEqProofs [bd, L59b0, hii, hi, -List.getD_eq_getElem?_getD, hx, w0, w1, w2, hlt, hw] using ih2 h
    · have hl : (lets ms (c :: t)).isSome = false := by rw [lets, if_neg hc]; rfl
      have d1 : (decide ((0 : Int) ≤ (c.toNat : Int) - 97) && decide ((c.toNat : Int) - 97 ≤ (ms.length : Int) - 1)) = false := by
        rw [Bool.eq_false_iff]
        intro e
        rw [Bool.and_eq_true, decide_eq_true_eq, decide_eq_true_eq] at e
        exact hc ⟨by omega, by omega⟩
      rw [d1] at hlt
      rw [hl]
      refine ⟨fun h => (by cases h), fun _ => ?_⟩
      simp -implicitDefEqProofs [bd, L59b0, hii, hi, -List.getD_eq_getElem?_getD, hx, w0, w1, w2, hlt]
theorem ltrs_s (ms : List ByteArray) (hl : ms.length ≤ 1000) (m : ByteArray) (hs : m.size ≤ 1000) : ev E0 59 [.agg [.lst 1 (ms.map st)], st m] [] = some (bl (lets ms (B m)).isSome, []) := by
  obtain ⟨h1, h2⟩ := ltrs_loop ms hl m hs (B m) 0 rfl
  rw [c0] at h1 h2
  simp only [tb] at h1 h2
  rw [e59]
  unfold runF
  cases h : (lets ms (B m)).isSome with
  | true => have h3 := h1 h; simp -implicitDefEqProofs [L59, h3]
  | false => have h3 := h2 h; simp -implicitDefEqProofs [L59, h3]
theorem bareS_loop (ms : List ByteArray) (hv : VT ms) (w : List Nat) (hw : ∀ i ∈ w, i < ms.length) (hl : w.length ≤ 1000) : ∀ (t : List Nat) (i : Nat), w.drop i = t →
    packX 0 [5] (loopW (bd E0 (ev E0) loopW 0 [1, 2, 5, 6] L60b0) ⟨[(1, st (ltx w)), (2, .ptr 0 0 0), (5, st (fb ms (w.take i))), (6, i64 i)], [some (tb ms)]⟩) = some (.ext 0, ⟨[(5, st (fb ms w))], []⟩) := by
  unfold tb
  intro t
  induction t with
  | nil =>
    intro i h
    have hi := not_drop h
    have hs := ltx_size w
    have e1 : w.take i = w := List.take_of_length_le (by omega)
    have hii : ¬ (i : Int) < (w.length : Int) := by omega
    rw [e1, loopW_eq]
    generalize loopW (bd E0 (ev E0) loopW 0 [1, 2, 5, 6] L60b0) = K
    simp -implicitDefEqProofs [bd, L60b0, hs, hi, hii]
  | cons k t ih =>
    intro i h
    obtain ⟨hi, hx, hd, hmem⟩ := at_drop h
    have hih := ih (i + 1) hd
    have hk := hw k hmem
    have hlen := hv.len
    have hs := ltx_size w
    have hb := ltx_at w i k (by rw [List.getElem?_eq_getElem hi, hx]) (by omega)
    have hii : (i : Int) < (w.length : Int) := by omega
    have hq : ((UInt8.ofNat (97 + k)).toNat : Int) = 97 + (k : Int) := by rw [UInt8.toNat_ofNat']; omega
    have hq3 : ¬ (97 + (k : Int)) = 32 := by omega
    have w0 : IntKind.i64.wrap (97 + (k : Int)) = 97 + (k : Int) := wr64 (by omega) (by omega)
    have w1 : IntKind.i64.wrap (97 + (k : Int) - 97) = (k : Int) := by rw [wr64 (by omega) (by omega)]; omega
    have hw1 : IntKind.i64.wrap ((i : Int) + 1) = (i : Int) + 1 := wr64 (by omega) (by omega)
    have ht : w.take (i + 1) = w.take i ++ [k] := by rw [List.take_add_one, List.getElem?_eq_getElem hi, hx]; rfl
    have hcat : fb ms (w.take i) ++ mk_ ms k = fb ms (w.take i ++ [k]) := B_eq (by
      show B (fb ms (w.take i) ++ mk_ ms k) = flat ms (w.take i ++ [k])
      rw [flat_app]
      unfold B
      rw [ByteArray.data_append, Array.toList_append]
      show flat ms (w.take i) ++ (mk_ ms k).data.toList = flat ms (w.take i) ++ ((B (mk_ ms k)) ++ [])
      rw [List.append_nil]
      rfl)
    have hfl := flat_five hv (w.take i) (fun x hx => hw x (List.mem_of_mem_take hx))
    have hsz : (fb ms (w.take i)).size + (mk_ ms k).size ≤ 9223372036854775807 := by
      have := hv.sz (mk_ ms k) (by rw [← mk_at hk]; exact List.getElem_mem hk)
      rw [fb_size]
      rw [List.length_take] at hfl
      omega
    have hki : (k : Int) < (ms.length : Int) := by omega
    have hx2 : (ms.map st)[k]? = some (st (mk_ ms k)) := by rw [List.getElem?_map, List.getElem?_eq_getElem hk, mk_at hk]; rfl
    have hx3 : ∀ h, ms[k]'h = mk_ ms k := fun h => mk_at h
    rw [ht, cs1] at hih
    rw [loopW_eq]
    generalize loopW (bd E0 (ev E0) loopW 0 [1, 2, 5, 6] L60b0) = K at hih ⊢
    generalize UInt8.ofNat (97 + k) = y at *
    simpa -implicitDefEqProofs [bd, L60b0, hs, hi, hii, -List.getD_eq_getElem?_getD, hb, hq, hq3, w0, w1, hk, hki, hx2, hx3, hsz, hcat, hw1] using hih
theorem bareS (ms : List ByteArray) (hv : VT ms) (w : List Nat) (hw : ∀ i ∈ w, i < ms.length) (hl : w.length ≤ 1000) : ev E0 60 [.agg [.lst 1 (ms.map st)], st (ltx w)] [] = some (st (fb ms w), []) := by
  have h := bareS_loop ms hv w hw hl w 0 rfl
  rw [c0, List.take_zero, show fb ms [] = ⟨#[]⟩ from rfl] at h
  rw [e60]
  unfold runF
  simp only [tb] at h
  simp -implicitDefEqProofs [L60, h]
theorem rkS_in (s : ByteArray) (hs : s.size ≤ 40) (ms : List ByteArray) (hv : VT ms) (m : ByteArray) (jj : Int) (at_ : Nat) (ha : at_ ≤ s.size) (i : Nat) (hi : i < ms.length) : ∀ (t : List ByteArray) (k acc : Nat), (ms.take i).drop k = t → acc + Rd.sm (fl ms ((B s).drop at_)) t ≤ 140737488355328 →
    packX 0 [1, 2, 6, 7, 8, 9, 10, 11] (loopW (bd E0 (ev E0) loopW 0 [1, 2, 6, 7, 8, 9, 10, 11, 12] L26b0) ⟨[(1, st m), (2, .ptr 0 0 0), (6, st s), (7, i64 acc), (8, i64 at_), (9, .sl 1 0 (s.size + 1)), (10, i64 jj), (11, i64 i), (12, i64 k)], [some (tb ms), some (ib (Rd.vals (ms.map B) (B s)))]⟩) =
      some (.ext 2, ⟨[(1, st m), (2, .ptr 0 0 0), (6, st s), (7, i64 ((acc + Rd.sm (fl ms ((B s).drop at_)) t : Nat) : Int)), (8, i64 at_), (9, .sl 1 0 (s.size + 1)), (10, i64 jj), (11, i64 i)], [some (tb ms), some (ib (Rd.vals (ms.map B) (B s)))]⟩) := by
  have hlen := hv.len
  have hil : (ms.take i).length = i := by rw [List.length_take]; omega
  unfold tb ib
  intro t
  induction t with
  | nil =>
    intro k acc hj _
    have hjn := not_drop hj
    rw [hil] at hjn
    have hji : ¬ (k : Int) < (i : Int) := by omega
    rw [loopW_eq]
    generalize loopW (bd E0 (ev E0) loopW 0 [1, 2, 6, 7, 8, 9, 10, 11, 12] L26b0) = K
    simp -implicitDefEqProofs [bd, L26b0, hji, hjn, Rd.sm]
  | cons u t ih =>
    intro k acc hj hb
    obtain ⟨hjl, hx, hd, hmem⟩ := at_drop hj
    rw [hil] at hjl
    have hkl : k < ms.length := by omega
    have hu : ms[k]'hkl = u := by rw [← hx, List.getElem_take]
    have hx2 : (ms.map st)[k]? = some (st u) := by rw [List.getElem?_map, List.getElem?_eq_getElem hkl, hu]; rfl
    have hx3 : ∀ h, ms[k]'h = u := fun h => hu
    have hji : (k : Int) < (i : Int) := by omega
    have hki : (k : Int) < (ms.length : Int) := by omega
    obtain ⟨hm1, hm2⟩ := hv.sz u (List.mem_of_mem_take hmem)
    rw [Rd.sm] at hb
    have hih := ih (k + 1) (acc + fl ms ((B s).drop at_) u) hd (by omega)
    rw [cs1, Nat.add_assoc] at hih
    have hw : IntKind.i64.wrap ((k : Int) + 1) = (k : Int) + 1 := wr64 (by omega) (by omega)
    have hp := stands_s s u at_ (by omega) (by omega) ha
    have hl2 := ns_len (Rd.vals (ms.map B) (B s))
    rw [Rd.vals_len, B_len] at hl2
    rw [Rd.sm, loopW_eq]
    generalize loopW (bd E0 (ev E0) loopW 0 [1, 2, 6, 7, 8, 9, 10, 11, 12] L26b0) = K at hih ⊢
    by_cases h : Rd.pre (B u) ((B s).drop at_) = true
    · have hle := Rd.pre_len h
      rw [List.length_drop, B_len, B_len] at hle
      have hf : fl ms ((B s).drop at_) u = Rd.wy (ms.map B) ((B s).drop (at_ + u.size)) := by
        unfold fl
        rw [if_pos h, List.drop_drop]
      have z1 := vals_k ms (B s) (at_ + u.size) (by rw [B_len]; omega)
      rw [← hf] at z1
      have z2 : ∀ h, (ns (Rd.vals (ms.map B) (B s)))[at_ + u.size]'h = _ := fun h => (List.getElem?_eq_some_iff.1 z1).2
      have w1 : IntKind.i64.wrap ((at_ : Int) + (u.size : Int)) = ((at_ + u.size : Nat) : Int) := by rw [wr64 (by omega) (by omega)]; omega
      have q1 : at_ + u.size < s.size + 1 := by omega
      have q2 : ((at_ + u.size : Nat) : Int) < (s.size : Int) + 1 := by omega
      rw [h] at hp
      generalize fl ms ((B s).drop at_) u = y at *
      have w2 : IntKind.i64.wrap ((acc : Int) + (y : Int)) = ((acc + y : Nat) : Int) := by rw [wr64 (by omega) (by omega)]; omega
      simpa -implicitDefEqProofs [bd, L26b0, hji, hjl, hkl, hki, hx2, hx3, hp, hw, w1, w2, q1, q2, z1, z2, hl2, -Int.natCast_add] using hih
    · have h' : Rd.pre (B u) ((B s).drop at_) = false := by simpa using h
      have hf : fl ms ((B s).drop at_) u = 0 := by unfold fl; rw [if_neg h]
      rw [hf] at hih ⊢
      rw [Nat.add_zero] at hih
      rw [h'] at hp
      simpa -implicitDefEqProofs [bd, L26b0, hji, hjl, hkl, hki, hx2, hx3, hp, hw, -Int.natCast_add] using hih
set_option maxRecDepth 10000 in
theorem rkS_out (s : ByteArray) (hs : s.size ≤ 40) (ms : List ByteArray) (hv : VT ms) (w : List Nat) (hw : ∀ i ∈ w, i < ms.length) (hwl : w.length ≤ 40) : ∀ (t : List Nat) (j at_ acc : Nat), w.drop j = t → at_ ≤ s.size → flat ms t = (B s).drop at_ → acc ≤ 1099511627776 * j →
    packX 0 [7] (loopW (bd E0 (ev E0) loopW 0 [1, 2, 6, 7, 8, 9, 10] L26b1) ⟨[(1, st (ltx w)), (2, .ptr 0 0 0), (6, st s), (7, i64 acc), (8, i64 at_), (9, .sl 1 0 (s.size + 1)), (10, i64 j)], [some (tb ms), some (ib (Rd.vals (ms.map B) (B s)))]⟩) =
      some (.ext 0, ⟨[(7, i64 ((acc + rk ms t ((B s).drop at_) : Nat) : Int))], []⟩) := by
  have hlen := hv.len
  have hsz := ltx_size w
  intro t
  induction t with
  | nil =>
    intro j at_ acc hj ha hf _
    have hjn := not_drop hj
    have hji : ¬ (j : Int) < (w.length : Int) := by omega
    rw [loopW_eq]
    generalize loopW (bd E0 (ev E0) loopW 0 [1, 2, 6, 7, 8, 9, 10] L26b1) = K
    unfold bd
    simp -implicitDefEqProofs [L26b1, ib, tb, hji, hsz, rk]
  | cons i t ih =>
    intro j at_ acc hj ha hf hb
    obtain ⟨hjl, hx, hd, hmem⟩ := at_drop hj
    have hi := hw i hmem
    have hji : (j : Int) < (w.length : Int) := by omega
    have hbt := ltx_at w j i (by rw [List.getElem?_eq_getElem hjl, hx]) (by omega)
    obtain ⟨f1, f2⟩ := flat_head (ms := ms) i t
    rw [hf] at f1 f2
    have hz := hv.sz (mk_ ms i) (by rw [← mk_at hi]; exact List.getElem_mem hi)
    have hle := Rd.pre_len f1
    rw [List.length_drop, B_len, B_len] at hle
    have hne : (B s).drop at_ ≠ [] := fun e => by have := congrArg List.length e; rw [List.length_drop, B_len] at this; simp at this; omega
    have hwy := wy_bound hv ((B s).drop at_) (by rw [List.length_drop, B_len]; omega)
    have hsm := sm_take_le (fl ms ((B s).drop at_)) ms i ms.length (by omega)
    rw [List.take_length, ← wy_fl hv hne] at hsm
    have hin := rkS_in s hs ms hv (ltx w) (j : Int) at_ ha i hi (ms.take i) 0 acc rfl (by omega)
    rw [c0] at hin
    have hih := ih (j + 1) (at_ + (mk_ ms i).size) (acc + Rd.sm (fl ms ((B s).drop at_)) (ms.take i)) hd (by omega) (by rw [← List.drop_drop, f2]) (by omega)
    rw [cs1] at hih
    have hrk : acc + rk ms (i :: t) ((B s).drop at_) = acc + Rd.sm (fl ms ((B s).drop at_)) (ms.take i) + rk ms t ((B s).drop (at_ + (mk_ ms i).size)) := by
      rw [← List.drop_drop]
      show acc + (Rd.sm _ (ms.take i) + rk ms t _) = _
      omega
    have hq : ((UInt8.ofNat (97 + i)).toNat : Int) = 97 + (i : Int) := by rw [UInt8.toNat_ofNat']; omega
    have u1 : IntKind.i64.wrap (97 + (i : Int)) = 97 + (i : Int) := wr64 (by omega) (by omega)
    have u2 : IntKind.i64.wrap (97 + (i : Int) - 97) = (i : Int) := by rw [wr64 (by omega) (by omega)]; omega
    have hkl3 : (i : Int) < (ms.length : Int) := by omega
    have hx2 : (ms.map st)[i]? = some (st (mk_ ms i)) := by rw [List.getElem?_map, List.getElem?_eq_getElem hi, mk_at hi]; rfl
    have hx3 : ∀ h, ms[i]'h = mk_ ms i := fun h => mk_at h
    have w1 : IntKind.i64.wrap ((at_ : Int) + ((mk_ ms i).size : Int)) = ((at_ + (mk_ ms i).size : Nat) : Int) := by rw [wr64 (by omega) (by omega)]; omega
    have hwj : IntKind.i64.wrap ((j : Int) + 1) = (j : Int) + 1 := wr64 (by omega) (by omega)
    rw [hrk, loopW_eq]
    generalize UInt8.ofNat (97 + i) = y at *
    generalize mk_ ms i = m at *
    generalize loopW (bd E0 (ev E0) loopW 0 [1, 2, 6, 7, 8, 9, 10] L26b1) = K at hih ⊢
    generalize acc + Rd.sm (fl ms ((B s).drop at_)) (ms.take i) = A at *
    unfold bd
    simp only [ib, tb] at hin hih ⊢
    simpa -implicitDefEqProofs [L26b1, hji, hsz, hjl, -List.getD_eq_getElem?_getD, hbt, hq, u1, u2, hkl3, hin, hi, hx2, hx3, w1, hwj, -Int.natCast_add] using hih
theorem rank_s (ms : List ByteArray) (hm : ms.length ≤ 1000) (hz : ∀ m ∈ ms, m.size ≤ 1000) (m : ByteArray) (hmz : m.size ≤ 1000) : ev E0 26 [.agg [.lst 1 (ms.map st)], st m] [] = some (rnk ms m, []) := by
  have h1 := table_s ms (by omega) (fun x hx => by have := hz x hx; omega)
  have h3 := ltrs_s ms hm m hmz
  unfold rnk
  cases ho : okTable ms with
  | false =>
    rw [ho] at h1
    rw [if_neg (by simp)]
    rw [e26]
    unfold runF noR
    simp -implicitDefEqProofs [L26, h1]
  | true =>
    have hv := vt_of ho
    rw [ho] at h1
    by_cases h4 : m.size ≤ 40
    · have h4i : ¬ (40 : Int) < (m.size : Int) := by omega
      rw [if_pos ⟨rfl, h4⟩]
      cases hL : lets ms (B m) with
      | none =>
        rw [hL] at h3
        unfold rnkW noR
        rw [e26]
        unfold runF
        simp -implicitDefEqProofs [L26, h1, h4i, h3]
      | some w =>
        rw [hL] at h3
        have hw := lets_lt hL
        have hwl := lets_len hL
        rw [B_len] at hwl
        have hb := bareS ms hv w hw (by omega)
        rw [← m_ltx hL] at hb
        have hfz := fb_size ms w
        have hff := flat_five hv w hw
        have h5 := bare_s (fb ms w) (by omega)
        unfold rnkW
        dsimp only
        cases hok : okMarks (fb ms w) 0 40 with
        | false =>
          rw [hok] at h5
          rw [if_neg (by simp)]
          rw [e26]
          unfold runF noR
          generalize fb ms w = s at *
          simp -implicitDefEqProofs [L26, h1, h4i, h3, hb, h5]
        | true =>
          rw [hok] at h5
          rw [if_pos rfl]
          have hsz := marks_size hok
          have h6 := ways_s (fb ms w) hsz ms hv
          have h7 := rkS_out (fb ms w) hsz ms hv w hw (by omega) w 0 0 0 rfl (Nat.zero_le _) rfl (Nat.zero_le _)
          rw [c0, Nat.zero_add, List.drop_zero, ← m_ltx hL, show rk ms w (B (fb ms w)) = rk ms w (flat ms w) from rfl] at h7
          rw [e26]
          unfold runF
          simp only [tb, ib] at h6 h7
          generalize rk ms w (flat ms w) = R at *
          generalize fb ms w = s at *
          generalize ns (Rd.vals (ms.map B) (B s)) = V at *
          simp -implicitDefEqProofs [L26, h1, h4i, h3, hb, h5, h6, h7]
    · have h4i : (40 : Int) < (m.size : Int) := by omega
      rw [if_neg (fun h => h4 h.2)]
      rw [e26]
      unfold runF noR
      simp -implicitDefEqProofs [L26, h1, h4i]
end Go.Proofs.YtkdfgjijmnaljaaDoor.Ev
