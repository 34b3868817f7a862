/- Plans: their text; copies and sizes of jobs and hops. -/
import Derived.Test.YtlmjoimjdpfamaaGreatEvRelG
import Derived.Lib.ItoaNum
set_option linter.unusedVariables false
set_option linter.unusedSimpArgs false
namespace Go.Proofs.YtlmjoimjdpfamaaGreat.Ev
def B (s : ByteArray) : List UInt8 := s.data.toList
theorem B_len (s : ByteArray) : (B s).length = s.size := by unfold B; simp
theorem B_append (s t : ByteArray) : B (s ++ t) = B s ++ B t := by unfold B; simp
theorem B_inj {s t : ByteArray} (h : B s = B t) : s = t := ByteArray.ext (Array.ext' h)
theorem B_mk (l : List UInt8) : B ⟨l.toArray⟩ = l := by unfold B; simp
def mkB (l : List UInt8) : ByteArray := ⟨l.toArray⟩
theorem mkB_size (l : List UInt8) : (mkB l).size = l.length := by rw [← B_len]; exact congrArg List.length (B_mk l)
theorem dec_len : ∀ (k u : Nat), u < 10 ^ (k + 1) → (Lib.decDigits u).length ≤ k + 1 := by
  intro k
  induction k with
  | zero =>
    intro u h
    rw [Lib.decDigits, dif_pos (by simpa using h)]
    simp
  | succ k ih =>
    intro u h
    by_cases h1 : u < 10
    · rw [Lib.decDigits, dif_pos h1]
      simp
    · rw [Lib.decDigits, dif_neg h1]
      have h2 : u / 10 < 10 ^ (k + 1) := by
        rw [Nat.pow_succ] at h
        exact Nat.div_lt_of_lt_mul (by rw [Nat.mul_comm]; exact h)
      have := ih _ h2
      simp only [List.length_append, List.length_cons, List.length_nil]
      omega
theorem dec_len20 {u : Nat} (h : u ≤ 9223372036854775808) : (Lib.decDigits u).length ≤ 19 := dec_len 18 u (Nat.lt_of_le_of_lt h (by decide))
theorem itoa_len {n : Int} (h : -9223372036854775808 ≤ n ∧ n ≤ 9223372036854775807) : (Lib.itoa n).length ≤ 20 := by
  unfold Lib.itoa
  split
  · have := dec_len20 (u := n.natAbs) (by omega)
    simp only [List.length_cons]
    omega
  · have := dec_len20 (u := n.toNat) (by omega)
    omega
theorem digit_piece {i : Nat} (h : i < 10) : (⟨#[48, 49, 50, 51, 52, 53, 54, 55, 56, 57]⟩ : ByteArray).extract i (i + 1) = ⟨[UInt8.ofNat (48 + i)].toArray⟩ := by
  match i, h with
  | 0, _ | 1, _ | 2, _ | 3, _ | 4, _ | 5, _ | 6, _ | 7, _ | 8, _ | 9, _ => decide +kernel
theorem app_mk (a b : List UInt8) : (⟨a.toArray⟩ : ByteArray) ++ ⟨b.toArray⟩ = ⟨(a ++ b).toArray⟩ := by
  apply B_inj
  rw [B_append, B_mk, B_mk, B_mk]
def nm (n : Int) : ByteArray := mkB (Lib.itoa n)
def word (js : List J) (h : Hh) : ByteArray := ((((nm h.1 ++ nm h.2.1) ++ ⟨#[62]⟩) ++ nm (nxt js h)) ++ ⟨#[64]⟩) ++ nm h.2.2
def stepT (i : Nat) (s m : ByteArray) : ByteArray := if i = 0 then s ++ m else (s ++ ⟨#[32]⟩) ++ m
def textL : Nat → ByteArray → List ByteArray → ByteArray
  | _, s, [] => s
  | i, s, m :: t => textL (i + 1) (stepT i s m) t
/-- What the text of a hop needs. -/
def TB (js : List J) (h : Hh) : Prop := HB js h ∧ 0 ≤ h.2.1 ∧ h.2.1 ≤ 5
theorem way_le (j : J) : -1 ≤ way j ∧ way j ≤ 1 := by unfold way; split <;> omega
theorem nm_size {n : Int} (h1 : -100000 ≤ n) (h2 : n ≤ 100000) : (nm n).size ≤ 20 := by
  unfold nm
  rw [mkB_size]
  exact itoa_len (by omega)
theorem word_size {js : List J} (hl : js.length ≤ 5) {h : Hh} (hb : TB js h) : (nm h.1).size ≤ 20 ∧ (nm h.2.1).size ≤ 20 ∧ (nm (nxt js h)).size ≤ 20 ∧ (nm h.2.2).size ≤ 20 ∧ (word js h).size ≤ 82 := by
  obtain ⟨⟨b1, b2, b3, b4, b5, b6⟩, b7, b8⟩ := hb
  have hw := way_le (jat js h.1)
  have s1 := nm_size (n := h.1) (by omega) (by omega)
  have s2 := nm_size (n := h.2.1) (by omega) (by omega)
  have s3 := nm_size (n := nxt js h) (by unfold nxt; omega) (by unfold nxt; omega)
  have s4 := nm_size (n := h.2.2) (by omega) (by omega)
  refine ⟨s1, s2, s3, s4, ?_⟩
  have o1 : (⟨#[62]⟩ : ByteArray).size = 1 := rfl
  have o2 : (⟨#[64]⟩ : ByteArray).size = 1 := rfl
  unfold word
  simp only [ByteArray.size_append, o1, o2]
  omega
def rs (l : List ByteArray) : Option Blk := some ⟨9, 1, 1, false, l.map st⟩
end Go.Proofs.YtlmjoimjdpfamaaGreat.Ev
