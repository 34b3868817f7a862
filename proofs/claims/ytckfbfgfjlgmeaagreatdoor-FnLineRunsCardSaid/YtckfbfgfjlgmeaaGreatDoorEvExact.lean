/- The signal of a message, the exact lengths of a signal, its trace (the reference's functions). -/
import Derived.Test.YtckfbfgfjlgmeaaGreatDoorEvSig
set_option linter.unusedVariables false
set_option linter.unusedSimpArgs false
namespace Go.Proofs.YtckfbfgfjlgmeaaGreatDoor.Ev
def prvC (s : ByteArray) (i : Nat) : Nat := (s.data.toList.getD (i - 1) 0).toNat
def encStep (ms : List ByteArray) (s : ByteArray) (c : UInt8) (i : Nat) (a : ByteArray) : ByteArray :=
  if c.toNat = 32 then a ++ ⟨#[47]⟩ else (if 0 < i ∧ prvC s i ≠ 32 then a ++ ⟨#[32]⟩ else a) ++ ms.getD (c.toNat - 97) ⟨#[]⟩
def encL (ms : List ByteArray) (s : ByteArray) : List UInt8 → Nat → ByteArray → ByteArray
  | [], _, a => a
  | c :: t, i, a => encL ms s t (i + 1) (encStep ms s c i a)
def enc (ms : List ByteArray) (s : ByteArray) : ByteArray := encL ms s (B s) 0 ⟨#[]⟩
theorem getD_sz {ms : List ByteArray} {z : Nat} (hz : ∀ m ∈ ms, m.size ≤ z) (k : Nat) : (ms.getD k ⟨#[]⟩).size ≤ z := by
  rw [List.getD_eq_getElem?_getD]
  cases h : ms[k]? with
  | none => exact Nat.zero_le _
  | some m => exact hz m (List.mem_of_getElem? h)
theorem encStep_sz {ms : List ByteArray} {z : Nat} (hz : ∀ m ∈ ms, m.size ≤ z) (s : ByteArray) (c : UInt8) (i : Nat) (a : ByteArray) : (encStep ms s c i a).size ≤ a.size + (z + 1) := by
  have h1 : (⟨#[47]⟩ : ByteArray).size = 1 := rfl
  have h2 : (⟨#[32]⟩ : ByteArray).size = 1 := rfl
  have h3 := getD_sz hz (c.toNat - 97)
  unfold encStep
  split
  · rw [ByteArray.size_append]; omega
  · rw [ByteArray.size_append]
    split
    · rw [ByteArray.size_append]; omega
    · omega
theorem encL_sz {ms : List ByteArray} {z : Nat} (hz : ∀ m ∈ ms, m.size ≤ z) (s : ByteArray) : ∀ (t : List UInt8) (i : Nat) (a : ByteArray), (encL ms s t i a).size ≤ a.size + t.length * (z + 1)
  | [], i, a => by simp [encL]
  | c :: t, i, a => by
    have h1 := encL_sz hz s t (i + 1) (encStep ms s c i a)
    have h2 := encStep_sz hz s c i a
    rw [encL, List.length_cons, Nat.succ_mul]
    omega
theorem enc_loop (ms : List ByteArray) (hm : ms.length ≤ 1000) (hz : ∀ m ∈ ms, m.size ≤ 1048576) (s : ByteArray) (hs : s.size ≤ 1024) : ∀ (t : List UInt8) (i : Nat) (a : ByteArray), (B s).drop i = t → msgL ms.length s t i = true → a.size ≤ i * 1048577 →
    packX 0 [5] (loopW (bd E0 (ev E0) loopW 0 [1, 2, 5, 6] L122b0) ⟨[(1, st s), (2, .ptr 0 0 0), (5, st a), (6, i64 i)], [some ⟨48, 1, 0, false, [.agg [.lst 1 (ms.map st)]]⟩]⟩) = some (.ext 0, ⟨[(5, st (encL ms s t i a))], []⟩) := by
  intro t
  induction t with
  | nil =>
    intro i a h _ _
    have hi := byte_end h
    rw [loopW_eq]
    generalize loopW (bd E0 (ev E0) loopW 0 [1, 2, 5, 6] L122b0) = K
    simp -implicitDefEqProofs [bd, L122b0, hi, encL]
  | cons c t ih =>
    intro i a h hv ha
    obtain ⟨hi, hx, hd⟩ := byte_at h
    rw [msgL, Bool.and_eq_true] at hv
    have hsz := encStep_sz hz s c i a
    have hih := ih (i + 1) (encStep ms s c i a) hd hv.2 (by omega)
    rw [cs1] at hih
    have hw : IntKind.i64.wrap ((i : Int) + 1) = (i : Int) + 1 := wr64 (by omega) (by omega)
    have hc256 := UInt8.toNat_lt c
    have hwc : IntKind.i64.wrap (c.toNat : Int) = (c.toNat : Int) := wr64 (by omega) (by omega)
    have hwd : IntKind.i64.wrap ((c.toNat : Int) - 97) = (c.toNat : Int) - 97 := wr64 (by omega) (by omega)
    have hbig : i * 1048577 ≤ 1024 * 1048577 := Nat.mul_le_mul_right _ (by omega)
    have o1 : (⟨#[47]⟩ : ByteArray).size = 1 := rfl
    have o2 : (⟨#[32]⟩ : ByteArray).size = 1 := rfl
    have z1 : a.size + (⟨#[47]⟩ : ByteArray).size ≤ 9223372036854775807 := by omega
    have z2 : a.size + (⟨#[32]⟩ : ByteArray).size ≤ 9223372036854775807 := by omega
    rw [encL, loopW_eq]
    generalize hR : encL ms s t (i + 1) (encStep ms s c i a) = R at hih ⊢
    clear hR
    generalize loopW (bd E0 (ev E0) loopW 0 [1, 2, 5, 6] L122b0) = K at hih ⊢
    by_cases h32 : c.toNat = 32
    · have h32' : (c.toNat : Int) = 32 := by omega
      unfold encStep at hih
      rw [if_pos h32] at hih
      simpa -implicitDefEqProofs [bd, L122b0, hi, -List.getD_eq_getElem?_getD, hx, h32, h32', z1, hw] using hih
    · have h32' : ¬ (c.toNat : Int) = 32 := by omega
      have hk := hv.1
      unfold chOk at hk
      rw [if_neg h32, Bool.and_eq_true, decide_eq_true_eq, decide_eq_true_eq] at hk
      obtain ⟨k, hkk⟩ : ∃ k : Nat, c.toNat = k + 97 := ⟨c.toNat - 97, by omega⟩
      have hkl : k < ms.length := by omega
      have hkd : (c.toNat : Int) - 97 = (k : Int) := by omega
      rw [hkd] at hwd
      have hget : ms.getD (c.toNat - 97) ⟨#[]⟩ = ms[k] := by rw [hkk, Nat.add_sub_cancel, List.getD_eq_getElem?_getD, List.getElem?_eq_getElem hkl]; rfl
      have hmz := hz _ (List.getElem_mem hkl)
      unfold encStep at hih
      rw [if_neg h32, hget] at hih
      generalize hmk : ms[k] = m at hih hmz
      have z3 : a.size + m.size ≤ 9223372036854775807 := by omega
      have z4 : (a ++ ⟨#[32]⟩).size + m.size ≤ 9223372036854775807 := by rw [ByteArray.size_append]; omega
      have hg : ∀ h, ms[k]'h = m := fun _ => hmk
      cases i with
      | zero =>
        rw [if_neg (by omega)] at hih
        have hw : IntKind.i64.wrap 1 = 1 := by decide
        simpa -implicitDefEqProofs [bd, L122b0, hi, -List.getD_eq_getElem?_getD, hx, h32, h32', z3, hw, hwc, hkd, hwd, hkl, hg] using hih
      | succ j =>
        have hw0 : IntKind.i64.wrap (j : Int) = (j : Int) := wr64 (by omega) (by omega)
        have hj : j < s.size := by omega
        have hi1 : (j : Int) + 1 < (s.size : Int) := by omega
        have hi2 : (0 : Int) < (j : Int) + 1 := by omega
        have hi3 : (0 : Int) ≤ (j : Int) + 1 := by omega
        have hw1 : IntKind.i64.wrap ((j : Int) + 1 + 1) = (j : Int) + 1 + 1 := wr64 (by omega) (by omega)
        have hp0 : prvC s (j + 1) = (s.data.toList.getD j 0).toNat := rfl
        rw [hp0] at hih
        by_cases hp : (s.data.toList.getD j 0).toNat = 32
        · have hp' : ((s.data.toList.getD j 0).toNat : Int) = 32 := by omega
          rw [if_neg (fun h => h.2 hp)] at hih
          simpa -implicitDefEqProofs [bd, L122b0, hi, -List.getD_eq_getElem?_getD, hx, h32, h32', z3, hw0, hw1, hwc, hkd, hwd, hkl, hg, hj, hi1, hi2, hi3, hp, hp'] using hih
        · have hp' : ¬ ((s.data.toList.getD j 0).toNat : Int) = 32 := by omega
          rw [if_pos ⟨by omega, hp⟩] at hih
          simpa -implicitDefEqProofs [-ByteArray.size_append, bd, L122b0, hi, -List.getD_eq_getElem?_getD, hx, h32, h32', z2, z4, hw0, hw1, hwc, hkd, hwd, hkl, hg, hj, hi1, hi2, hi3, hp, hp'] using hih
theorem okMsg_msgL {n : Nat} {s : ByteArray} (h : okMsg n s = true) : msgL n s (B s) 0 = true ∧ s.size ≤ 12 := by
  unfold okMsg at h
  rw [Bool.and_eq_true, decide_eq_true_eq] at h
  exact h
theorem encode_s (ms : List ByteArray) (hm : ms.length ≤ 1000) (hz : ∀ m ∈ ms, m.size ≤ 1048576) (s : ByteArray) (hs : okMsg ms.length s = true) : ev E0 122 [.agg [.lst 1 (ms.map st)], st s] [] = some (st (enc ms s), []) := by
  obtain ⟨h1, h2⟩ := okMsg_msgL hs
  have hl := enc_loop ms hm hz s (by omega) (B s) 0 ⟨#[]⟩ rfl h1 (by decide)
  rw [c0] at hl
  rw [e122]
  unfold runF enc
  simp -implicitDefEqProofs [L122, hl]
-- ---------------------------------------------------------------- exact lengths
def isMk (n : Nat) : Bool := decide (n = 46) || decide (n = 45)
def exStep (s : ByteArray) (c : UInt8) (i : Nat) : List Int :=
  if isMk c.toNat then (if 0 < i ∧ isMk (prvC s i) = true then [1] else []) ++ [if c.toNat = 45 then 3 else 1] else if c.toNat = 32 then [3] else [7]
def exL (s : ByteArray) : List UInt8 → Nat → List Int
  | [], _ => []
  | c :: t, i => exStep s c i ++ exL s t (i + 1)
def exT (s : ByteArray) : List Int := exL s (B s) 0
theorem exStep_b (s : ByteArray) (c : UInt8) (i : Nat) : (∀ x ∈ exStep s c i, 1 ≤ x ∧ x ≤ 7) ∧ (exStep s c i).length ≤ 2 ∧ 1 ≤ (exStep s c i).length := by
  unfold exStep
  split
  · split <;> split <;> simp
  · split <;> simp
theorem exL_b (s : ByteArray) : ∀ (t : List UInt8) (i : Nat), (∀ x ∈ exL s t i, 1 ≤ x ∧ x ≤ 7) ∧ (exL s t i).length ≤ 2 * t.length ∧ t.length ≤ (exL s t i).length
  | [], i => by simp [exL]
  | c :: t, i => by
    obtain ⟨h1, h2, h3⟩ := exL_b s t (i + 1)
    obtain ⟨k1, k2, k3⟩ := exStep_b s c i
    rw [exL]
    refine ⟨fun x hx => ?_, by rw [List.length_append, List.length_cons]; omega, by rw [List.length_append, List.length_cons]; omega⟩
    rcases List.mem_append.1 hx with h | h
    · exact k1 x h
    · exact h1 x h
def ibk (l : List Int) : Blk := ⟨3, 1, 1, false, l.map i64⟩
def okUnit (u : Int) : Bool := decide (1 ≤ u) && decide (u ≤ 99)
def okTrOf (s : ByteArray) (u : Int) : Bool := okSig s && (!decide (s = ⟨#[]⟩) && okUnit u)
theorem okSig_sz {s : ByteArray} (h : okSig s = true) : s.size ≤ 72 := by
  unfold okSig at h
  simp only [Bool.or_eq_true, Bool.and_eq_true, decide_eq_true_eq] at h
  rcases h with h | h
  · subst h; decide
  · exact h.1.1
end Go.Proofs.YtckfbfgfjlgmeaaGreatDoor.Ev
