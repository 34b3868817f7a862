/- Letters parted by their answers at a place; places in vain. Letters are natural numbers here. -/
import Derived.Test.YtkajcafnfdlgpaaDoorEvLetters
set_option linter.unusedVariables false
set_option linter.unusedSimpArgs false
namespace Go.Proofs.YtkajcafnfdlgpaaDoor.Ev
def i64n (l : List Nat) : List AV := l.map fun n : Nat => i64 (n : Int)
def ansN (ms : List ByteArray) (q n : Nat) : Nat := ans (ms.getD n ⟨#[]⟩) q
theorem getD_at {ms : List ByteArray} {n : Nat} (h : n < ms.length) : ms[n] = ms.getD n ⟨#[]⟩ := by
  rw [List.getD_eq_getElem?_getD, List.getElem?_eq_getElem h]
  rfl
theorem answerN_s (ms : List ByteArray) (n : Nat) (h : n < ms.length) (q : Nat) : ev E0 77 [.agg [.lst 1 (ms.map st)], i64 n, i64 q] [] = some (i64 (ansN ms q n), []) := answer_s ms n h _ (getD_at h) q
theorem answerN_i (ms : List ByteArray) (n : Nat) (h : n < ms.length) (q : Nat) : ev E0 76 [.agg [.lst 1 (ms.map st)], i64 n, i64 q] [] = some (i64 (ansN ms q n), []) := answer_i ms n h _ (getD_at h) q
theorem vain_loop (ms : List ByteArray) (q : Nat) (l : List Nat) (hl : l.length ≤ 140737488355328) (hv : ∀ n ∈ l, n < ms.length) (k0 : Nat) (h0 : l.head? = some k0) : ∀ (t : List Nat) (i : Nat), l.drop i = t →
    (packX 0 [6] (loopW (bd E0 (ev E0) loopW 0 [1, 2, 3, 7] L73b0) ⟨[(1, .lst 1 (i64n l)), (2, i64 q), (3, .ptr 0 0 0), (7, i64 i)], [some ⟨26, 1, 0, false, [.agg [.lst 1 (ms.map st)]]⟩]⟩) = some (.ret, ⟨[(6, bl false)], []⟩) ∧ (t.all fun n => ansN ms q n == ansN ms q k0) = false) ∨
    (packX 0 [6] (loopW (bd E0 (ev E0) loopW 0 [1, 2, 3, 7] L73b0) ⟨[(1, .lst 1 (i64n l)), (2, i64 q), (3, .ptr 0 0 0), (7, i64 i)], [some ⟨26, 1, 0, false, [.agg [.lst 1 (ms.map st)]]⟩]⟩) = some (.ext 0, ⟨[], []⟩) ∧ (t.all fun n => ansN ms q n == ansN ms q k0) = true) := by
  intro t
  induction t with
  | nil =>
    intro i h
    have hi := not_drop h
    rw [loopW_eq]
    generalize loopW (bd E0 (ev E0) loopW 0 [1, 2, 3, 7] L73b0) = K
    simp -implicitDefEqProofs [bd, L73b0, i64n, hi]
  | cons c t ih =>
    intro i h
    obtain ⟨hi, hx, hd, hmem⟩ := at_drop h
    have hih := ih (i + 1) hd
    rw [cs1] at hih
    have hw : IntKind.i64.wrap ((i : Int) + 1) = (i : Int) + 1 := wr64 (by omega) (by omega)
    have hpos : 0 < l.length := by omega
    have hk : l[0] = k0 := by
      rw [List.head?_eq_getElem?, List.getElem?_eq_getElem hpos] at h0
      exact Option.some.inj h0
    have ha := answerN_s ms c (hv c hmem) q
    have hb := answerN_s ms k0 (hv k0 (by rw [← hk]; exact List.getElem_mem hpos)) q
    have hpos2 : (0 : Int) < (l.length : Int) := by omega
    have hne : l ≠ [] := by intro e; rw [e] at hpos; simp at hpos
    rw [loopW_eq]
    generalize loopW (bd E0 (ev E0) loopW 0 [1, 2, 3, 7] L73b0) = K at hih ⊢
    by_cases h1 : ansN ms q c = ansN ms q k0
    · simpa -implicitDefEqProofs [bd, L73b0, i64n, hi, hx, hw, hpos, hpos2, hk, ha, hb, h1, hne] using hih
    · have h2 : ¬ (ansN ms q c : Int) = (ansN ms q k0 : Int) := by omega
      simp -implicitDefEqProofs [bd, L73b0, i64n, hi, hx, hw, hpos, hpos2, hk, ha, hb, h1, h2, hne]
/-- Do all have the first one's answer? -/
def vainB (ms : List ByteArray) (q : Nat) : List Nat → Bool
  | [] => true
  | k0 :: t => t.all fun n => ansN ms q n == ansN ms q k0
theorem vain_s (ms : List ByteArray) (q : Nat) (l : List Nat) (hl : l.length ≤ 140737488355328) (hv : ∀ n ∈ l, n < ms.length) (hne : l ≠ []) : ev E0 73 [.agg [.lst 1 (ms.map st)], .lst 1 (i64n l), i64 q] [] = some (bl (vainB ms q l), []) := by
  rw [e73]
  unfold runF
  cases l with
  | nil => exact absurd rfl hne
  | cons k0 t =>
    have hlp := vain_loop ms q (k0 :: t) hl hv k0 rfl t 1 rfl
    rw [show ((1 : Nat) : Int) = 1 from rfl] at hlp
    rcases hlp with ⟨e, h⟩ | ⟨e, h⟩
    · simp -implicitDefEqProofs [L73, e, vainB, h]
    · simp -implicitDefEqProofs [L73, e, vainB, h]
-- ---------------------------------------------------------------- parts
def partN (ms : List ByteArray) (q a : Nat) (l : List Nat) : List Nat := l.filter fun n => ansN ms q n == a
theorem i64n_len (l : List Nat) : (i64n l).length = l.length := by simp [i64n]
theorem ansN_cases (ms : List ByteArray) (q n : Nat) : ansN ms q n = 0 ∨ ansN ms q n = 1 ∨ ansN ms q n = 2 := by
  unfold ansN ans
  split
  · exact .inr (.inr rfl)
  · split
    · exact .inr (.inl rfl)
    · exact .inl rfl
theorem partS_loop (ms : List ByteArray) (q : Nat) (l : List Nat) (hl : l.length ≤ 1073741824) (hv : ∀ n ∈ l, n < ms.length) : ∀ (t : List Nat) (i : Nat) (a b c : List AV), l.drop i = t → a.length ≤ i → b.length ≤ i → c.length ≤ i →
    packX 0 [6, 7] (loopW (bd E0 (ev E0) loopW 0 [1, 2, 3, 6, 7, 8] L67b0) ⟨[(1, .lst 1 (i64n l)), (2, i64 q), (3, .ptr 0 0 0), (6, .ptr 1 0 0), (7, .ptr 2 0 0), (8, i64 i)], [some ⟨26, 1, 0, false, [.agg [.lst 1 (ms.map st)]]⟩, some ⟨44, 3, 0, false, [.agg [.v (.slice none 0 0), .v (.slice none 0 0), .v (.slice none 0 0)]]⟩, some ⟨44, 3, 0, false, [.agg [.sl 3 0 a.length, .sl 4 0 b.length, .sl 5 0 c.length]]⟩, some ⟨3, 1, 1, false, a⟩, some ⟨3, 1, 1, false, b⟩, some ⟨3, 1, 1, false, c⟩]⟩) =
      some (.ext 0, ⟨[(6, .ptr 0 0 0), (7, .ptr 1 0 0)], [some ⟨44, 3, 0, false, [.agg [.v (.slice none 0 0), .v (.slice none 0 0), .v (.slice none 0 0)]]⟩, some ⟨44, 3, 0, false, [.agg [.sl 2 0 (a.length + (partN ms q 0 t).length), .sl 3 0 (b.length + (partN ms q 1 t).length), .sl 4 0 (c.length + (partN ms q 2 t).length)]]⟩, some ⟨3, 1, 1, false, a ++ i64n (partN ms q 0 t)⟩, some ⟨3, 1, 1, false, b ++ i64n (partN ms q 1 t)⟩, some ⟨3, 1, 1, false, c ++ i64n (partN ms q 2 t)⟩]⟩) := by
  intro t
  induction t with
  | nil =>
    intro i a b c h _ _ _
    have hi := not_drop h
    rw [loopW_eq]
    generalize loopW (bd E0 (ev E0) loopW 0 [1, 2, 3, 6, 7, 8] L67b0) = K
    simp -implicitDefEqProofs [bd, L67b0, i64n, hi, partN]
  | cons x t ih =>
    intro i a b c h ha hb hc
    obtain ⟨hi, hx, hd, hmem⟩ := at_drop h
    have hw : IntKind.i64.wrap ((i : Int) + 1) = (i : Int) + 1 := wr64 (by omega) (by omega)
    have hans := answerN_s ms x (hv x hmem) q
    rcases ansN_cases ms q x with h1 | h1 | h1
    · have hih := ih (i + 1) (a ++ [i64 x]) b c hd (by simp; omega) (by omega) (by omega)
      rw [cs1, List.length_append, List.length_singleton, List.append_assoc, List.singleton_append] at hih
      rw [h1] at hans
      have p0 : partN ms q 0 (x :: t) = x :: partN ms q 0 t := by simp [partN, h1]
      have p1 : partN ms q 1 (x :: t) = partN ms q 1 t := by simp [partN, h1]
      have p2 : partN ms q 2 (x :: t) = partN ms q 2 t := by simp [partN, h1]
      have hL : a.length + (x :: partN ms q 0 t).length = a.length + 1 + (partN ms q 0 t).length := by rw [List.length_cons]; omega
      have hI : i64n (x :: partN ms q 0 t) = i64 x :: i64n (partN ms q 0 t) := rfl
      have b1 : (a.length + 1) * 8 ≤ 140737488355328 := by omega
      have b2 : a.length + 1 ≤ 140737488355328 := by omega
      rw [p0, p1, p2, hL, hI, loopW_eq]
      generalize partN ms q 0 t = r0 at hih ⊢
      generalize partN ms q 1 t = r1 at hih ⊢
      generalize partN ms q 2 t = r2 at hih ⊢
      generalize loopW (bd E0 (ev E0) loopW 0 [1, 2, 3, 6, 7, 8] L67b0) = K at hih ⊢
      simpa -implicitDefEqProofs [bd, L67b0, i64n, hi, hx, hw, hans, b1, b2] using hih
    · have hih := ih (i + 1) a (b ++ [i64 x]) c hd (by omega) (by simp; omega) (by omega)
      rw [cs1, List.length_append, List.length_singleton, List.append_assoc, List.singleton_append] at hih
      rw [h1] at hans
      have p0 : partN ms q 0 (x :: t) = partN ms q 0 t := by simp [partN, h1]
      have p1 : partN ms q 1 (x :: t) = x :: partN ms q 1 t := by simp [partN, h1]
      have p2 : partN ms q 2 (x :: t) = partN ms q 2 t := by simp [partN, h1]
      have hL : b.length + (x :: partN ms q 1 t).length = b.length + 1 + (partN ms q 1 t).length := by rw [List.length_cons]; omega
      have hI : i64n (x :: partN ms q 1 t) = i64 x :: i64n (partN ms q 1 t) := rfl
      have b1 : (b.length + 1) * 8 ≤ 140737488355328 := by omega
      have b2 : b.length + 1 ≤ 140737488355328 := by omega
      rw [p0, p1, p2, hL, hI, loopW_eq]
      generalize partN ms q 0 t = r0 at hih ⊢
      generalize partN ms q 1 t = r1 at hih ⊢
      generalize partN ms q 2 t = r2 at hih ⊢
      generalize loopW (bd E0 (ev E0) loopW 0 [1, 2, 3, 6, 7, 8] L67b0) = K at hih ⊢
      simpa -implicitDefEqProofs [bd, L67b0, i64n, hi, hx, hw, hans, b1, b2] using hih
    · have hih := ih (i + 1) a b (c ++ [i64 x]) hd (by omega) (by omega) (by simp; omega)
      rw [cs1, List.length_append, List.length_singleton, List.append_assoc, List.singleton_append] at hih
      rw [h1] at hans
      have p0 : partN ms q 0 (x :: t) = partN ms q 0 t := by simp [partN, h1]
      have p1 : partN ms q 1 (x :: t) = partN ms q 1 t := by simp [partN, h1]
      have p2 : partN ms q 2 (x :: t) = x :: partN ms q 2 t := by simp [partN, h1]
      have hL : c.length + (x :: partN ms q 2 t).length = c.length + 1 + (partN ms q 2 t).length := by rw [List.length_cons]; omega
      have hI : i64n (x :: partN ms q 2 t) = i64 x :: i64n (partN ms q 2 t) := rfl
      have b1 : (c.length + 1) * 8 ≤ 140737488355328 := by omega
      have b2 : c.length + 1 ≤ 140737488355328 := by omega
      rw [p0, p1, p2, hL, hI, loopW_eq]
      generalize partN ms q 0 t = r0 at hih ⊢
      generalize partN ms q 1 t = r1 at hih ⊢
      generalize partN ms q 2 t = r2 at hih ⊢
      generalize loopW (bd E0 (ev E0) loopW 0 [1, 2, 3, 6, 7, 8] L67b0) = K at hih ⊢
      simpa -implicitDefEqProofs [bd, L67b0, i64n, hi, hx, hw, hans, b1, b2] using hih
theorem part_s (ms : List ByteArray) (q : Nat) (l : List Nat) (hl : l.length ≤ 1073741824) (hv : ∀ n ∈ l, n < ms.length) : ev E0 67 [.agg [.lst 1 (ms.map st)], .lst 1 (i64n l), i64 q] [] =
    some (.agg [.sl 0 0 (partN ms q 0 l).length, .sl 1 0 (partN ms q 1 l).length, .sl 2 0 (partN ms q 2 l).length], [some ⟨3, 1, 1, false, i64n (partN ms q 0 l)⟩, some ⟨3, 1, 1, false, i64n (partN ms q 1 l)⟩, some ⟨3, 1, 1, false, i64n (partN ms q 2 l)⟩]) := by
  rw [e67]
  unfold runF
  have hlp := partS_loop ms q l hl hv l 0 [] [] [] rfl (by simp) (by simp) (by simp)
  simp only [c0, List.length_nil, Nat.zero_add, List.nil_append] at hlp
  simp -implicitDefEqProofs [L67, hlp]
end Go.Proofs.YtkajcafnfdlgpaaDoor.Ev
