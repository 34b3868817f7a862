/- Tables of texts in the evaluator's words: their size, whether they are valid; the reference's functions and the program's. -/
import Derived.Test.YtpoifmkgdfjhbaaDoorEvE
import Derived.Test.YtpoifmkgdfjhbaaDoorEvBC
set_option linter.unusedVariables false
set_option linter.unusedSimpArgs false
namespace Go.Proofs.YtpoifmkgdfjhbaaDoor.Ev
def B (s : ByteArray) : List UInt8 := s.data.toList
theorem B_len (s : ByteArray) : (B s).length = s.size := by unfold B; simp
theorem at_drop {α : Type} {l t : List α} {x : α} {i : Nat} (h : l.drop i = x :: t) : ∃ hi : i < l.length, l[i] = x ∧ l.drop (i + 1) = t ∧ x ∈ l := by
  have h1 : l[i]? = some x := by
    have := congrArg (fun l => l[0]?) h
    simpa using this
  obtain ⟨hi, hx⟩ := List.getElem?_eq_some_iff.1 h1
  refine ⟨hi, hx, ?_, List.mem_of_getElem? h1⟩
  have := congrArg List.tail h
  simpa using this
theorem not_drop {α : Type} {l : List α} {i : Nat} (h : l.drop i = []) : ¬ i < l.length := by
  have := List.drop_eq_nil_iff.1 h
  omega
theorem byte_at {s : ByteArray} {i : Nat} {x : UInt8} {t : List UInt8} (h : (B s).drop i = x :: t) : i < s.size ∧ s.data.toList.getD i 0 = x ∧ (B s).drop (i + 1) = t := by
  obtain ⟨hi, hx, hd, _⟩ := at_drop h
  rw [B_len] at hi
  refine ⟨hi, ?_, hd⟩
  unfold B at hx
  have h1 : s.data.toList[i]? = some x := by rw [← hx]; exact List.getElem?_eq_getElem _
  rw [List.getD_eq_getElem?_getD, h1]
  rfl
theorem byte_end {s : ByteArray} {i : Nat} (h : (B s).drop i = []) : ¬ i < s.size := by
  have := not_drop h
  rwa [B_len] at this
theorem cs1 (i : Nat) : ((i + 1 : Nat) : Int) = (i : Int) + 1 := rfl
theorem c0 : ((0 : Nat) : Int) = 0 := rfl
@[simp] theorem take_map_all {α β : Type} (f : α → β) (l : List α) : List.take l.length (List.map f l) = List.map f l := List.take_of_length_le (by simp)
theorem in_s (a b c : Int) : ev E0 20 [i64 a, i64 b, i64 c] [] = some (bl (decide (b ≤ a) && decide (a ≤ c)), []) := by
  rw [e20]
  unfold runF
  by_cases h : b ≤ a <;> simp -implicitDefEqProofs [L20, h]
theorem in_i (a b c : Int) : ev E0 18 [i64 a, i64 b, i64 c] [] = some (bl (decide (b ≤ a) && decide (a ≤ c)), []) := by
  rw [e18]
  unfold runF
  by_cases h : b ≤ a <;> simp -implicitDefEqProofs [L18, h]
def okM (c : UInt8) : Bool := c == 46 || c == 45
/-- Marks, as many as told. -/
def okMarks (s : ByteArray) (lo up : Int) : Bool := (B s).all okM && (decide (lo ≤ (s.size : Int)) && decide ((s.size : Int) ≤ up))
theorem all_dropWhile (p : UInt8 → Bool) : ∀ l : List UInt8, (l.dropWhile p = []) ↔ l.all p = true := by
  intro l
  induction l with
  | nil => simp
  | cons c t ih =>
    rw [List.dropWhile_cons, List.all_cons]
    cases h : p c with
    | true => rw [if_pos rfl, ih]; simp
    | false => rw [if_neg (by simp)]; simp
theorem all_rev (p : UInt8 → Bool) (l : List UInt8) : l.reverse.all p = l.all p := by rw [List.all_reverse]
def place (x : ByteArray) : List ByteArray → Nat → Int
  | [], _ => -1
  | y :: t, i => if y = x then (i : Int) else place x t (i + 1)
theorem place_nat (x : ByteArray) : ∀ (t : List ByteArray) (i : Nat), (place x t i = -1 ∧ x ∉ t) ∨ ((i : Int) ≤ place x t i ∧ x ∈ t) := by
  intro t
  induction t with
  | nil => intro i; exact Or.inl ⟨rfl, by simp⟩
  | cons c t ih =>
    intro i
    unfold place
    by_cases h : c = x
    · rw [if_pos h]
      exact Or.inr ⟨Int.le_refl _, by simp [h]⟩
    · rw [if_neg h]
      rcases ih (i + 1) with ⟨h1, h2⟩ | ⟨h1, h2⟩
      · exact Or.inl ⟨h1, by simp [h2, Ne.symm h]⟩
      · exact Or.inr ⟨by omega, List.mem_cons_of_mem _ h2⟩
/-- The first place of what stands at a place. -/
theorem place_at (x : ByteArray) : ∀ (pre t : List ByteArray) (o : Nat), (place x (pre ++ x :: t) o = ((o + pre.length : Nat) : Int)) ↔ x ∉ pre := by
  intro pre
  induction pre with
  | nil => intro t o; simp [place]
  | cons c p ih =>
    intro t o
    rw [List.cons_append]
    unfold place
    by_cases h : c = x
    · rw [if_pos h]
      constructor
      · intro e; simp only [List.length_cons] at e; omega
      · intro e; exact absurd (by simp [h]) e
    · rw [if_neg h]
      have := ih t (o + 1)
      have e : o + 1 + p.length = o + (c :: p).length := by simp only [List.length_cons]; omega
      rw [e] at this
      rw [this]
      simp [Ne.symm h]
def chk : List ByteArray → List ByteArray → Bool
  | _, [] => true
  | seen, m :: t => okMarks m 1 5 && (!decide (0 ≤ place m seen 0) && chk (seen ++ [m]) t)
/-- A valid table. -/
def okTable (ms : List ByteArray) : Bool := (decide (1 ≤ (ms.length : Int)) && decide ((ms.length : Int) ≤ 10)) && chk [] ms
/-- A letter of a table. -/
def okLetter (ms : List ByteArray) (k : Int) : Bool := decide (0 ≤ k) && decide (k ≤ (ms.length : Int) - 1)
theorem okLetter_bounds {ms : List ByteArray} {a : Int} (h : okLetter ms a = true) : 0 ≤ a ∧ a < (ms.length : Int) := by
  unfold okLetter at h
  simp only [Bool.and_eq_true, decide_eq_true_eq] at h
  omega
theorem okTable_len {ms : List ByteArray} (h : okTable ms = true) : 1 ≤ ms.length ∧ ms.length ≤ 10 := by
  unfold okTable at h
  simp only [Bool.and_eq_true, decide_eq_true_eq] at h
  omega
-- ---------------------------------------------------------------- copies, comparisons
theorem app_get {α : Type} {l r : List α} {y : α} {i : Nat} (h : l.length = i) : (l ++ y :: r)[i]? = some y := by
  rw [List.getElem?_append_right (by omega), h]
  simp
theorem app_set {α : Type} {l r : List α} {y z : α} {i : Nat} (h : l.length = i) : (l ++ y :: r).set i z = l ++ z :: r := by
  subst h
  simp
end Go.Proofs.YtpoifmkgdfjhbaaDoor.Ev
