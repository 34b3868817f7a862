/- The signal of a message, the exact lengths of a signal, its trace (the reference's functions). -/
import Derived.Test.YtgecnbafmlecjaaGreatDoorEvSig
set_option linter.unusedVariables false
set_option linter.unusedSimpArgs false
namespace Go.Proofs.YtgecnbafmlecjaaGreatDoor.Ev
def prvC (s : ByteArray) (i : Nat) : Nat := (s.data.toList.getD (i - 1) 0).toNat
def encStep (ms : List ByteArray) (s : ByteArray) (c : UInt8) (i : Nat) (a : ByteArray) : ByteArray :=
  if c.toNat = 32 then a ++ ⟨#[47]⟩ else (if 0 < i ∧ prvC s i ≠ 32 then a ++ ⟨#[32]⟩ else a) ++ ms.getD (c.toNat - 97) ⟨#[]⟩
def encL (ms : List ByteArray) (s : ByteArray) : List UInt8 → Nat → ByteArray → ByteArray
  | [], _, a => a
  | c :: t, i, a => encL ms s t (i + 1) (encStep ms s c i a)
def enc (ms : List ByteArray) (s : ByteArray) : ByteArray := encL ms s (B s) 0 ⟨#[]⟩
theorem getD_sz {ms : List ByteArray} {z : Nat} (hz : ∀ m ∈ ms, m.size ≤ z) (k : Nat) : (ms.getD k ⟨#[]⟩).size ≤ z := by
  rw [List.getD_eq_getElem?_getD]
  cases h : ms[k]? with
  | none => exact Nat.zero_le _
  | some m => exact hz m (List.mem_of_getElem? h)
theorem encStep_sz {ms : List ByteArray} {z : Nat} (hz : ∀ m ∈ ms, m.size ≤ z) (s : ByteArray) (c : UInt8) (i : Nat) (a : ByteArray) : (encStep ms s c i a).size ≤ a.size + (z + 1) := by
  have h1 : (⟨#[47]⟩ : ByteArray).size = 1 := rfl
  have h2 : (⟨#[32]⟩ : ByteArray).size = 1 := rfl
  have h3 := getD_sz hz (c.toNat - 97)
  unfold encStep
  split
  · rw [ByteArray.size_append]; omega
  · rw [ByteArray.size_append]
    split
    · rw [ByteArray.size_append]; omega
    · omega
theorem encL_sz {ms : List ByteArray} {z : Nat} (hz : ∀ m ∈ ms, m.size ≤ z) (s : ByteArray) : ∀ (t : List UInt8) (i : Nat) (a : ByteArray), (encL ms s t i a).size ≤ a.size + t.length * (z + 1)
  | [], i, a => by simp [encL]
  | c :: t, i, a => by
    have h1 := encL_sz hz s t (i + 1) (encStep ms s c i a)
    have h2 := encStep_sz hz s c i a
    rw [encL, List.length_cons, Nat.succ_mul]
    omega
theorem okMsg_msgL {n : Nat} {s : ByteArray} (h : okMsg n s = true) : msgL n s (B s) 0 = true ∧ s.size ≤ 12 := by
  unfold okMsg at h
  rw [Bool.and_eq_true, decide_eq_true_eq] at h
  exact h
def isMk (n : Nat) : Bool := decide (n = 46) || decide (n = 45)
def exStep (s : ByteArray) (c : UInt8) (i : Nat) : List Int :=
  if isMk c.toNat then (if 0 < i ∧ isMk (prvC s i) = true then [1] else []) ++ [if c.toNat = 45 then 3 else 1] else if c.toNat = 32 then [3] else [7]
def exL (s : ByteArray) : List UInt8 → Nat → List Int
  | [], _ => []
  | c :: t, i => exStep s c i ++ exL s t (i + 1)
def exT (s : ByteArray) : List Int := exL s (B s) 0
theorem exStep_b (s : ByteArray) (c : UInt8) (i : Nat) : (∀ x ∈ exStep s c i, 1 ≤ x ∧ x ≤ 7) ∧ (exStep s c i).length ≤ 2 ∧ 1 ≤ (exStep s c i).length := by
  unfold exStep
  split
  · split <;> split <;> simp
  · split <;> simp
theorem exL_b (s : ByteArray) : ∀ (t : List UInt8) (i : Nat), (∀ x ∈ exL s t i, 1 ≤ x ∧ x ≤ 7) ∧ (exL s t i).length ≤ 2 * t.length ∧ t.length ≤ (exL s t i).length
  | [], i => by simp [exL]
  | c :: t, i => by
    obtain ⟨h1, h2, h3⟩ := exL_b s t (i + 1)
    obtain ⟨k1, k2, k3⟩ := exStep_b s c i
    rw [exL]
    refine ⟨fun x hx => ?_, by rw [List.length_append, List.length_cons]; omega, by rw [List.length_append, List.length_cons]; omega⟩
    rcases List.mem_append.1 hx with h | h
    · exact k1 x h
    · exact h1 x h
def ibk (l : List Int) : Blk := ⟨3, 1, 1, false, l.map i64⟩
def okUnit (u : Int) : Bool := decide (1 ≤ u) && decide (u ≤ 99)
def okTrOf (s : ByteArray) (u : Int) : Bool := okSig s && (!decide (s = ⟨#[]⟩) && okUnit u)
theorem okSig_sz {s : ByteArray} (h : okSig s = true) : s.size ≤ 72 := by
  unfold okSig at h
  simp only [Bool.or_eq_true, Bool.and_eq_true, decide_eq_true_eq] at h
  rcases h with h | h
  · subst h; decide
  · exact h.1.1
end Go.Proofs.YtgecnbafmlecjaaGreatDoor.Ev
