/- Stations: their tables' texts read, what is said, whether they are valid; new consoles, tables of stations. -/
import Derived.Test.YtpoifmkgdfjhbaaDoorEvParts
set_option linter.unusedVariables false
set_option linter.unusedSimpArgs false
namespace Go.Proofs.YtpoifmkgdfjhbaaDoor.Ev
theorem lensT_mem : ∀ {t : List ByteArray} {x : ByteArray}, x ∈ t → x.size + 1 ≤ lensT t
  | [], x, h => by cases h
  | m :: t, x, h => by
    rw [lensT]
    rcases List.mem_cons.1 h with rfl | h
    · omega
    · have := lensT_mem h
      omega
theorem lensT_len : ∀ (t : List ByteArray), t.length ≤ lensT t
  | [] => by simp
  | m :: t => by
    have := lensT_len t
    rw [lensT, List.length_cons]
    omega
theorem partsB_lens (b : UInt8) (s : ByteArray) : lensT (partsB b s) = s.size + 1 := by
  unfold partsB
  rw [parts_lens, B_len]
theorem chk_five : ∀ (t seen : List ByteArray), chk seen t = true → ∀ m ∈ t, m.size ≤ 5
  | [], seen, _, m, hm => by cases hm
  | c :: t, seen, h, m, hm => by
    unfold chk at h
    simp only [Bool.and_eq_true] at h
    rcases List.mem_cons.1 hm with rfl | hm
    · have h1 := h.1
      unfold okMarks at h1
      simp only [Bool.and_eq_true, decide_eq_true_eq] at h1
      omega
    · exact chk_five t (seen ++ [c]) h.2.2 m hm
/-- Is a text one of a valid table? -/
def okCode (s : ByteArray) : Bool := okTable (partsB 44 s)
theorem okCode_len {s : ByteArray} (h : okCode s = true) : s.size ≤ 59 := by
  have h2 := h
  unfold okCode okTable at h2
  simp only [Bool.and_eq_true, decide_eq_true_eq] at h2
  have h3 := lensT_le (partsB 44 s) (chk_five _ _ h2.2)
  have h4 := partsB_lens 44 s
  have h5 : (partsB 44 s).length * (5 + 1) ≤ 10 * 6 := Nat.mul_le_mul_right 6 (by omega)
  omega
def spOk (s : ByteArray) (i : Nat) : Bool := !(decide (i = 0) || (decide ((i : Int) = (s.size : Int) - 1) || decide ((s.data.toList.getD (i - 1) 0).toNat = 32)))
def chOk (n : Nat) (s : ByteArray) (c : UInt8) (i : Nat) : Bool := if c.toNat = 32 then spOk s i else (decide (0 ≤ (c.toNat : Int) - 97) && decide ((c.toNat : Int) - 97 ≤ (n : Int) - 1))
def msgL (n : Nat) (s : ByteArray) : List UInt8 → Nat → Bool
  | [], _ => true
  | c :: t, i => chOk n s c i && msgL n s t (i + 1)
/-- Is a text a message in a table of n letters? -/
def okMsg (n : Nat) (s : ByteArray) : Bool := msgL n s (B s) 0 && decide (s.size ≤ 12)
/-- Is a station valid? -/
def okSt (a b : ByteArray) (n : Int) : Bool := okCode a && (okMsg (partsB 44 a).length b && (decide (0 ≤ n) && decide (n ≤ 1000)))
end Go.Proofs.YtpoifmkgdfjhbaaDoor.Ev
