/- The signal of a message, the exact lengths of a signal, its trace (the reference's functions). -/
import Derived.Test.YtkdfgjijmnaljaaEvSig
set_option linter.unusedVariables false
set_option linter.unusedSimpArgs false
namespace Go.Proofs.Ytkdfgjijmnaljaa.Ev
def prvC (s : ByteArray) (i : Nat) : Nat := (s.data.toList.getD (i - 1) 0).toNat
def encStep (ms : List ByteArray) (s : ByteArray) (c : UInt8) (i : Nat) (a : ByteArray) : ByteArray :=
  if c.toNat = 32 then a ++ ⟨#[47]⟩ else (if 0 < i ∧ prvC s i ≠ 32 then a ++ ⟨#[32]⟩ else a) ++ ms.getD (c.toNat - 97) ⟨#[]⟩
def encL (ms : List ByteArray) (s : ByteArray) : List UInt8 → Nat → ByteArray → ByteArray
  | [], _, a => a
  | c :: t, i, a => encL ms s t (i + 1) (encStep ms s c i a)
def enc (ms : List ByteArray) (s : ByteArray) : ByteArray := encL ms s (B s) 0 ⟨#[]⟩
theorem getD_sz {ms : List ByteArray} {z : Nat} (hz : ∀ m ∈ ms, m.size ≤ z) (k : Nat) : (ms.getD k ⟨#[]⟩).size ≤ z := by
  rw [List.getD_eq_getElem?_getD]
  cases h : ms[k]? with
  | none => exact Nat.zero_le _
  | some m => exact hz m (List.mem_of_getElem? h)
theorem encStep_sz {ms : List ByteArray} {z : Nat} (hz : ∀ m ∈ ms, m.size ≤ z) (s : ByteArray) (c : UInt8) (i : Nat) (a : ByteArray) : (encStep ms s c i a).size ≤ a.size + (z + 1) := by
  have h1 : (⟨#[47]⟩ : ByteArray).size = 1 := rfl
  have h2 : (⟨#[32]⟩ : ByteArray).size = 1 := rfl
  have h3 := getD_sz hz (c.toNat - 97)
  unfold encStep
  split
  · rw [ByteArray.size_append]; omega
  · rw [ByteArray.size_append]
    split
    · rw [ByteArray.size_append]; omega
    · omega
theorem encL_sz {ms : List ByteArray} {z : Nat} (hz : ∀ m ∈ ms, m.size ≤ z) (s : ByteArray) : ∀ (t : List UInt8) (i : Nat) (a : ByteArray), (encL ms s t i a).size ≤ a.size + t.length * (z + 1)
  | [], i, a => by simp [encL]
  | c :: t, i, a => by
    have h1 := encL_sz hz s t (i + 1) (encStep ms s c i a)
    have h2 := encStep_sz hz s c i a
    rw [encL, List.length_cons, Nat.succ_mul]
    omega
theorem enc_loop (ms : List ByteArray) (hm : ms.length ≤ 1000) (hz : ∀ m ∈ ms, m.size ≤ 1048576) (s : ByteArray) (hs : s.size ≤ 1024) : ∀ (t : List UInt8) (i : Nat) (a : ByteArray), (B s).drop i = t → msgL ms.length s t i = true → a.size ≤ i * 1048577 →
    packX 0 [5] (loopW (bd E0 (ev E0) loopW 0 [1, 2, 5, 6] L49b0) ⟨[(1, st s), (2, .ptr 0 0 0), (5, st a), (6, i64 i)], [some ⟨55, 1, 0, false, [.agg [.lst 1 (ms.map st)]]⟩]⟩) = some (.ext 0, ⟨[(5, st (encL ms s t i a))], []⟩) := by
  intro t
  induction t with
  | nil =>
    intro i a h _ _
    have hi := byte_end h
    rw [loopW_eq]
    generalize loopW (bd E0 (ev E0) loopW 0 [1, 2, 5, 6] L49b0) = K
    simp -implicitDefEqProofs [bd, L49b0, hi, encL]
  | cons c t ih =>
    intro i a h hv ha
    obtain ⟨hi, hx, hd⟩ := byte_at h
    rw [msgL, Bool.and_eq_true] at hv
    have hsz := encStep_sz hz s c i a
    have hih := ih (i + 1) (encStep ms s c i a) hd hv.2 (by omega)
    rw [cs1] at hih
    have hw : IntKind.i64.wrap ((i : Int) + 1) = (i : Int) + 1 := wr64 (by omega) (by omega)
    have hc256 := UInt8.toNat_lt c
    have hwc : IntKind.i64.wrap (c.toNat : Int) = (c.toNat : Int) := wr64 (by omega) (by omega)
    have hwd : IntKind.i64.wrap ((c.toNat : Int) - 97) = (c.toNat : Int) - 97 := wr64 (by omega) (by omega)
    have hbig : i * 1048577 ≤ 1024 * 1048577 := Nat.mul_le_mul_right _ (by omega)
    have o1 : (⟨#[47]⟩ : ByteArray).size = 1 := rfl
    have o2 : (⟨#[32]⟩ : ByteArray).size = 1 := rfl
    have z1 : a.size + (⟨#[47]⟩ : ByteArray).size ≤ 9223372036854775807 := by omega
    have z2 : a.size + (⟨#[32]⟩ : ByteArray).size ≤ 9223372036854775807 := by omega
    rw [encL, loopW_eq]
    generalize hR : encL ms s t (i + 1) (encStep ms s c i a) = R at hih ⊢
    clear hR
    generalize loopW (bd E0 (ev E0) loopW 0 [1, 2, 5, 6] L49b0) = K at hih ⊢
    by_cases h32 : c.toNat = 32
    · have h32' : (c.toNat : Int) = 32 := by omega
      unfold encStep at hih
      rw [if_pos h32] at hih
      simpa -implicitDefEqProofs [bd, L49b0, hi, -List.getD_eq_getElem?_getD, hx, h32, h32', z1, hw] using hih
    · have h32' : ¬ (c.toNat : Int) = 32 := by omega
      have hk := hv.1
      unfold chOk at hk
      rw [if_neg h32, Bool.and_eq_true, decide_eq_true_eq, decide_eq_true_eq] at hk
      obtain ⟨k, hkk⟩ : ∃ k : Nat, c.toNat = k + 97 := ⟨c.toNat - 97, by omega⟩
      have hkl : k < ms.length := by omega
      have hkd : (c.toNat : Int) - 97 = (k : Int) := by omega
      rw [hkd] at hwd
      have hget : ms.getD (c.toNat - 97) ⟨#[]⟩ = ms[k] := by rw [hkk, Nat.add_sub_cancel, List.getD_eq_getElem?_getD, List.getElem?_eq_getElem hkl]; rfl
      have hmz := hz _ (List.getElem_mem hkl)
      unfold encStep at hih
      rw [if_neg h32, hget] at hih
      generalize hmk : ms[k] = m at hih hmz
      have z3 : a.size + m.size ≤ 9223372036854775807 := by omega
      have z4 : (a ++ ⟨#[32]⟩).size + m.size ≤ 9223372036854775807 := by rw [ByteArray.size_append]; omega
      have hg : ∀ h, ms[k]'h = m := fun _ => hmk
      cases i with
      | zero =>
        rw [if_neg (by omega)] at hih
        have hw : IntKind.i64.wrap 1 = 1 := by decide
        simpa -implicitDefEqProofs [bd, L49b0, hi, -List.getD_eq_getElem?_getD, hx, h32, h32', z3, hw, hwc, hkd, hwd, hkl, hg] using hih
      | succ j =>
        have hw0 : IntKind.i64.wrap (j : Int) = (j : Int) := wr64 (by omega) (by omega)
        have hj : j < s.size := by omega
        have hi1 : (j : Int) + 1 < (s.size : Int) := by omega
        have hi2 : (0 : Int) < (j : Int) + 1 := by omega
        have hi3 : (0 : Int) ≤ (j : Int) + 1 := by omega
        have hw1 : IntKind.i64.wrap ((j : Int) + 1 + 1) = (j : Int) + 1 + 1 := wr64 (by omega) (by omega)
        have hp0 : prvC s (j + 1) = (s.data.toList.getD j 0).toNat := rfl
        rw [hp0] at hih
        by_cases hp : (s.data.toList.getD j 0).toNat = 32
        · have hp' : ((s.data.toList.getD j 0).toNat : Int) = 32 := by omega
          rw [if_neg (fun h => h.2 hp)] at hih
          simpa -implicitDefEqProofs [bd, L49b0, hi, -List.getD_eq_getElem?_getD, hx, h32, h32', z3, hw0, hw1, hwc, hkd, hwd, hkl, hg, hj, hi1, hi2, hi3, hp, hp'] using hih
        · have hp' : ¬ ((s.data.toList.getD j 0).toNat : Int) = 32 := by omega
          rw [if_pos ⟨by omega, hp⟩] at hih
          simpa -implicitDefEqProofs [-ByteArray.size_append, bd, L49b0, hi, -List.getD_eq_getElem?_getD, hx, h32, h32', z2, z4, hw0, hw1, hwc, hkd, hwd, hkl, hg, hj, hi1, hi2, hi3, hp, hp'] using hih
theorem okMsg_msgL {n : Nat} {s : ByteArray} (h : okMsg n s = true) : msgL n s (B s) 0 = true ∧ s.size ≤ 12 := by
  unfold okMsg at h
  rw [Bool.and_eq_true, decide_eq_true_eq] at h
  exact h
theorem encode_s (ms : List ByteArray) (hm : ms.length ≤ 1000) (hz : ∀ m ∈ ms, m.size ≤ 1048576) (s : ByteArray) (hs : okMsg ms.length s = true) : ev E0 49 [.agg [.lst 1 (ms.map st)], st s] [] = some (st (enc ms s), []) := by
  obtain ⟨h1, h2⟩ := okMsg_msgL hs
  have hl := enc_loop ms hm hz s (by omega) (B s) 0 ⟨#[]⟩ rfl h1 (by decide)
  rw [c0] at hl
  rw [e49]
  unfold runF enc
  simp -implicitDefEqProofs [L49, hl]
-- ---------------------------------------------------------------- exact lengths
def isMk (n : Nat) : Bool := decide (n = 46) || decide (n = 45)
def exStep (s : ByteArray) (c : UInt8) (i : Nat) : List Int :=
  if isMk c.toNat then (if 0 < i ∧ isMk (prvC s i) = true then [1] else []) ++ [if c.toNat = 45 then 3 else 1] else if c.toNat = 32 then [3] else [7]
def exL (s : ByteArray) : List UInt8 → Nat → List Int
  | [], _ => []
  | c :: t, i => exStep s c i ++ exL s t (i + 1)
def exT (s : ByteArray) : List Int := exL s (B s) 0
theorem exStep_b (s : ByteArray) (c : UInt8) (i : Nat) : (∀ x ∈ exStep s c i, 1 ≤ x ∧ x ≤ 7) ∧ (exStep s c i).length ≤ 2 ∧ 1 ≤ (exStep s c i).length := by
  unfold exStep
  split
  · split <;> split <;> simp
  · split <;> simp
theorem exL_b (s : ByteArray) : ∀ (t : List UInt8) (i : Nat), (∀ x ∈ exL s t i, 1 ≤ x ∧ x ≤ 7) ∧ (exL s t i).length ≤ 2 * t.length ∧ t.length ≤ (exL s t i).length
  | [], i => by simp [exL]
  | c :: t, i => by
    obtain ⟨h1, h2, h3⟩ := exL_b s t (i + 1)
    obtain ⟨k1, k2, k3⟩ := exStep_b s c i
    rw [exL]
    refine ⟨fun x hx => ?_, by rw [List.length_append, List.length_cons]; omega, by rw [List.length_append, List.length_cons]; omega⟩
    rcases List.mem_append.1 hx with h | h
    · exact k1 x h
    · exact h1 x h
def ibk (l : List Int) : Blk := ⟨3, 1, 1, false, l.map i64⟩
theorem exact_loop (s : ByteArray) (hs : s.size ≤ 1024) : ∀ (t : List UInt8) (i : Nat) (acc : List Int), (B s).drop i = t → acc.length ≤ 2 * i →
    packX 0 [3] (loopW (bd E0 (ev E0) loopW 0 [0, 3, 4] L45b0) ⟨[(0, st s), (3, .sl 0 0 acc.length), (4, i64 i)], [some ⟨3, 1, 1, false, acc.map i64⟩]⟩) = some (.ext 0, ⟨[(3, .sl 0 0 (acc ++ exL s t i).length)], [some ⟨3, 1, 1, false, (acc ++ exL s t i).map i64⟩]⟩) := by
  intro t
  induction t with
  | nil =>
    intro i acc h _
    have hi := byte_end h
    rw [loopW_eq]
    generalize loopW (bd E0 (ev E0) loopW 0 [0, 3, 4] L45b0) = K
    simp -implicitDefEqProofs [bd, L45b0, hi, exL]
  | cons c t ih =>
    intro i acc h ha
    obtain ⟨hi, hx, hd⟩ := byte_at h
    have hb := (exStep_b s c i).2.1
    have hih := ih (i + 1) (acc ++ exStep s c i) hd (by rw [List.length_append]; omega)
    rw [cs1, List.append_assoc] at hih
    have hw : IntKind.i64.wrap ((i : Int) + 1) = (i : Int) + 1 := wr64 (by omega) (by omega)
    have hc256 := UInt8.toNat_lt c
    have l1 : (acc.length + 1) * 8 ≤ 140737488355328 := by omega
    have l2 : acc.length + 1 ≤ 140737488355328 := by omega
    have l3 : (acc.length + 1 + 1) * 8 ≤ 140737488355328 := by omega
    have l4 : acc.length + 1 + 1 ≤ 140737488355328 := by omega
    have ht : List.take acc.length (acc.map i64) = acc.map i64 := List.take_of_length_le (by simp)
    have ht2 : ∀ a, List.take (acc.length + 1) (acc.map i64 ++ [a]) = acc.map i64 ++ [a] := fun a => List.take_of_length_le (by simp)
    rw [exL, loopW_eq]
    generalize (acc ++ (exStep s c i ++ exL s t (i + 1))).length = Rn at hih ⊢
    generalize (acc ++ (exStep s c i ++ exL s t (i + 1))).map i64 = R at hih ⊢
    generalize loopW (bd E0 (ev E0) loopW 0 [0, 3, 4] L45b0) = K at hih ⊢
    have hmap : ∀ l : List Int, (acc ++ l).map i64 = acc.map i64 ++ l.map i64 := fun l => List.map_append
    rw [hmap, List.length_append] at hih
    unfold exStep at hih
    by_cases hm : isMk c.toNat = true
    · rw [if_pos hm] at hih
      have pre : ∀ (b : Bool), (decide (0 < i) && isMk (prvC s i)) = b → (if 0 < i ∧ isMk (prvC s i) = true then [(1 : Int)] else []) = if b = true then [1] else [] := by
        intro b hb
        subst hb
        simp
      have h46 : (c.toNat = 46) ∨ (c.toNat = 45 ∧ ¬ c.toNat = 46) := by
        unfold isMk at hm
        rw [Bool.or_eq_true, decide_eq_true_eq, decide_eq_true_eq] at hm
        omega
      cases i with
      | zero =>
        rw [if_neg (by omega)] at hih
        have hw : IntKind.i64.wrap 1 = 1 := by decide
        rcases h46 with h4 | ⟨h4, h5⟩
        · have h4' : (c.toNat : Int) = 46 := by omega
          rw [if_neg (by omega)] at hih
          simpa -implicitDefEqProofs [bd, L45b0, hi, -List.getD_eq_getElem?_getD, hx, h4, h4', hw, l1, l2, ht] using hih
        · have h4' : (c.toNat : Int) = 45 := by omega
          rw [if_pos h4] at hih
          simpa -implicitDefEqProofs [bd, L45b0, hi, -List.getD_eq_getElem?_getD, hx, h4, h4', hw, l1, l2, ht] using hih
      | succ j =>
        have hw0 : IntKind.i64.wrap (j : Int) = (j : Int) := wr64 (by omega) (by omega)
        have hj : j < s.size := by omega
        have hi1 : (j : Int) + 1 < (s.size : Int) := by omega
        have hi2 : (0 : Int) < (j : Int) + 1 := by omega
        have hi3 : (0 : Int) ≤ (j : Int) + 1 := by omega
        have hw1 : IntKind.i64.wrap ((j : Int) + 1 + 1) = (j : Int) + 1 + 1 := wr64 (by omega) (by omega)
        have hp0 : prvC s (j + 1) = (s.data.toList.getD j 0).toNat := rfl
        rw [hp0] at hih
        generalize hy : s.data.toList.getD j 0 = y at hih
        by_cases hp1 : y.toNat = 46
        · have hp1' : (y.toNat : Int) = 46 := by omega
          rw [if_pos ⟨by omega, by simp [isMk, hp1]⟩] at hih
          rcases h46 with h4 | ⟨h4, h5⟩
          · have h4' : (c.toNat : Int) = 46 := by omega
            rw [if_neg (by omega)] at hih
            simpa -implicitDefEqProofs [bd, L45b0, hi, -List.getD_eq_getElem?_getD, hx, h4, h4', hw0, hw1, hj, hi1, hi2, hi3, hy, hp1, hp1', l1, l2, l3, l4, ht, ht2] using hih
          · have h4' : (c.toNat : Int) = 45 := by omega
            rw [if_pos h4] at hih
            simpa -implicitDefEqProofs [bd, L45b0, hi, -List.getD_eq_getElem?_getD, hx, h4, h4', hw0, hw1, hj, hi1, hi2, hi3, hy, hp1, hp1', l1, l2, l3, l4, ht, ht2] using hih
        · have hp1' : ¬ (y.toNat : Int) = 46 := by omega
          by_cases hp2 : y.toNat = 45
          · have hp2' : (y.toNat : Int) = 45 := by omega
            rw [if_pos ⟨by omega, by simp [isMk, hp2]⟩] at hih
            rcases h46 with h4 | ⟨h4, h5⟩
            · have h4' : (c.toNat : Int) = 46 := by omega
              rw [if_neg (by omega)] at hih
              simpa -implicitDefEqProofs [bd, L45b0, hi, -List.getD_eq_getElem?_getD, hx, h4, h4', hw0, hw1, hj, hi1, hi2, hi3, hy, hp1, hp1', hp2, hp2', l1, l2, l3, l4, ht, ht2] using hih
            · have h4' : (c.toNat : Int) = 45 := by omega
              rw [if_pos h4] at hih
              simpa -implicitDefEqProofs [bd, L45b0, hi, -List.getD_eq_getElem?_getD, hx, h4, h4', hw0, hw1, hj, hi1, hi2, hi3, hy, hp1, hp1', hp2, hp2', l1, l2, l3, l4, ht, ht2] using hih
          · have hp2' : ¬ (y.toNat : Int) = 45 := by omega
            rw [if_neg (by simp [isMk, hp1, hp2])] at hih
            rcases h46 with h4 | ⟨h4, h5⟩
            · have h4' : (c.toNat : Int) = 46 := by omega
              rw [if_neg (by omega)] at hih
              simpa -implicitDefEqProofs [bd, L45b0, hi, -List.getD_eq_getElem?_getD, hx, h4, h4', hw0, hw1, hj, hi1, hi2, hi3, hy, hp1, hp1', hp2, hp2', l1, l2, ht] using hih
            · have h4' : (c.toNat : Int) = 45 := by omega
              rw [if_pos h4] at hih
              simpa -implicitDefEqProofs [bd, L45b0, hi, -List.getD_eq_getElem?_getD, hx, h4, h4', hw0, hw1, hj, hi1, hi2, hi3, hy, hp1, hp1', hp2, hp2', l1, l2, ht] using hih
    · rw [if_neg hm] at hih
      have h46 : ¬ (c.toNat = 46) ∧ ¬ c.toNat = 45 := by
        unfold isMk at hm
        rw [Bool.or_eq_true, decide_eq_true_eq, decide_eq_true_eq] at hm
        omega
      obtain ⟨h4, h5⟩ := h46
      have h4' : ¬ (c.toNat : Int) = 46 := by omega
      have h5' : ¬ (c.toNat : Int) = 45 := by omega
      by_cases h32 : c.toNat = 32
      · have h32' : (c.toNat : Int) = 32 := by omega
        rw [if_pos h32] at hih
        simpa -implicitDefEqProofs [bd, L45b0, hi, -List.getD_eq_getElem?_getD, hx, h4, h4', h5, h5', h32, h32', hw, l1, l2, ht] using hih
      · have h32' : ¬ (c.toNat : Int) = 32 := by omega
        rw [if_neg h32] at hih
        simpa -implicitDefEqProofs [bd, L45b0, hi, -List.getD_eq_getElem?_getD, hx, h4, h4', h5, h5', h32, h32', hw, l1, l2, ht] using hih
theorem exact_s (s : ByteArray) (hs : s.size ≤ 1024) : ev E0 45 [st s] [] = some (.sl 0 0 (exT s).length, [some (ibk (exT s))]) := by
  have hl := exact_loop s hs (B s) 0 [] rfl (by simp)
  rw [c0, List.nil_append] at hl
  rw [e45]
  unfold runF exT ibk
  simp only [List.map_nil, List.length_nil] at hl
  simp -implicitDefEqProofs [L45, hl]
def okUnit (u : Int) : Bool := decide (1 ≤ u) && decide (u ≤ 99)
theorem unit_s (u : Int) : ev E0 34 [i64 u] [] = some (bl (okUnit u), []) := by
  rw [e34]
  unfold runF okUnit
  simp -implicitDefEqProofs [L34, in_s]
def okTrOf (s : ByteArray) (u : Int) : Bool := okSig s && (!decide (s = ⟨#[]⟩) && okUnit u)
theorem okSig_sz {s : ByteArray} (h : okSig s = true) : s.size ≤ 72 := by
  unfold okSig at h
  simp only [Bool.or_eq_true, Bool.and_eq_true, decide_eq_true_eq] at h
  rcases h with h | h
  · subst h; decide
  · exact h.1.1
theorem times_loop (u : Int) (hu : 1 ≤ u ∧ u ≤ 99) (n : Nat) (hn : n ≤ 1000) : ∀ (rest dn : List Int), dn.length + rest.length = n → (∀ x ∈ rest, 1 ≤ x ∧ x ≤ 7) →
    packX 0 [6] (loopW (bd E0 (ev E0) loopW 0 [1, 6, 7] L35b0) ⟨[(1, i64 u), (6, .sl 0 0 n), (7, i64 dn.length)], [some ⟨3, 1, 1, false, (dn ++ rest).map i64⟩]⟩) = some (.ext 0, ⟨[(6, .sl 0 0 n)], [some ⟨3, 1, 1, false, (dn ++ rest.map (· * u)).map i64⟩]⟩) := by
  intro rest
  induction rest with
  | nil =>
    intro dn h _
    have hd : ¬ dn.length < n := by simp at h; omega
    have hd2 : ¬ (dn.length : Int) < (n : Int) := by omega
    rw [loopW_eq]
    generalize loopW (bd E0 (ev E0) loopW 0 [1, 6, 7] L35b0) = K
    simp -implicitDefEqProofs [bd, L35b0, hd, hd2]
  | cons y rest ih =>
    intro dn h hr
    rw [List.length_cons] at h
    have hd : dn.length < n := by omega
    have hd2 : (dn.length : Int) < (n : Int) := by omega
    have hy := hr y (by simp)
    have hih := ih (dn ++ [y * u]) (by simp; omega) fun x hx => hr x (by simp [hx])
    rw [List.length_append, List.length_singleton, cs1] at hih
    have hw : IntKind.i64.wrap ((dn.length : Int) + 1) = (dn.length : Int) + 1 := wr64 (by omega) (by omega)
    have hyu : 0 ≤ y * u ∧ y * u ≤ 693 := by
      refine ⟨Int.mul_nonneg (by omega) (by omega), ?_⟩
      have : y * u ≤ 7 * 99 := Int.mul_le_mul hy.2 hu.2 (by omega) (by omega)
      omega
    have hw2 : IntKind.i64.wrap (y * u) = y * u := wr64 (by omega) (by omega)
    have hget : ∀ h, ((dn ++ y :: rest).map i64)[dn.length]'h = i64 y := by simp
    have hset : ((dn ++ y :: rest).map i64).set dn.length (i64 (y * u)) = (dn ++ [y * u] ++ rest).map i64 := by simp
    have hR : (dn ++ (y :: rest).map (· * u)).map i64 = (dn ++ [y * u] ++ rest.map (· * u)).map i64 := by simp
    rw [hR, loopW_eq]
    have hlen : ((dn ++ y :: rest).map i64).length = n := by simp; omega
    generalize hA : (dn ++ y :: rest).map i64 = A at hget hset hlen ⊢
    generalize (dn ++ [y * u] ++ rest).map i64 = A2 at hset hih
    generalize (dn ++ [y * u] ++ rest.map (· * u)).map i64 = A3 at hih ⊢
    clear hA
    subst hset
    generalize loopW (bd E0 (ev E0) loopW 0 [1, 6, 7] L35b0) = K at hih ⊢
    simpa -implicitDefEqProofs [bd, L35b0, hd, hd2, hget, hw, hw2, hlen] using hih
theorem traceOf_s (s : ByteArray) (hs : s.size ≤ 1073741824) (u : Int) : ev E0 35 [st s, i64 u] [] = some (if okTrOf s u = true then (.tup [.sl 0 0 (exT s).length, bl true], [some (ibk ((exT s).map (· * u)))]) else (.tup [.sl 0 0 0, bl false], [some (ibk [])])) := by
  have h1 := signal_s s hs
  have h2 := unit_s u
  rw [e35]
  unfold runF okTrOf ibk
  cases k1 : okSig s with
  | false =>
    rw [k1] at h1
    simp -implicitDefEqProofs [L35, h1]
  | true =>
    rw [k1] at h1
    by_cases k2 : s = ⟨#[]⟩
    · subst k2
      simp -implicitDefEqProofs [L35, h1]
    · cases k3 : okUnit u with
      | false =>
        rw [k3] at h2
        simp -implicitDefEqProofs [L35, h1, h2, k2]
      | true =>
        rw [k3] at h2
        have hz := okSig_sz k1
        have hu : 1 ≤ u ∧ u ≤ 99 := by
          unfold okUnit at k3
          rwa [Bool.and_eq_true, decide_eq_true_eq, decide_eq_true_eq] at k3
        have hx := exact_s s (by omega)
        obtain ⟨b1, b2, b3⟩ := exL_b s (B s) 0
        rw [B_len] at b2
        have hl := times_loop u hu (exT s).length (by unfold exT; omega) (exT s) [] (by simp) b1
        rw [List.length_nil, c0, List.nil_append, List.nil_append] at hl
        unfold ibk at hx
        simp -implicitDefEqProofs [L35, h1, h2, k2, hx, hl]
end Go.Proofs.Ytkdfgjijmnaljaa.Ev
