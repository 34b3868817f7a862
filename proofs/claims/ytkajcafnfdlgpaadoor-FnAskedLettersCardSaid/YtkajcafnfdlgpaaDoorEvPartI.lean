/- The program's parts: rows are nil until a letter is put in. -/
import Derived.Test.YtkajcafnfdlgpaaDoorEvPart
set_option linter.unusedVariables false
set_option linter.unusedSimpArgs false
namespace Go.Proofs.YtkajcafnfdlgpaaDoor.Ev
def rv (id : Nat) : List Nat → AV
  | [] => .v (.slice none 0 0)
  | x :: r => .sl id 0 (r.length + 1)
def rb : List Nat → Hp
  | [] => []
  | x :: r => [some ⟨3, 1, 1, false, i64 x :: i64n r⟩]
def rows3 (o : Nat) (a b c : List Nat) : AV := .agg [rv o a, rv (o + (rb a).length) b, rv (o + (rb a).length + (rb b).length) c]
def partI_st (ms : List ByteArray) (q : Nat) (l : List Nat) (i : Nat) (a b c : List Nat) : St :=
  ⟨[(2, i64 q), (3, .ptr 0 0 0), (6, .ptr 1 0 0), (7, .ptr 2 0 0), (12, .lst 1 (i64n l)), (13, i64 l.length), (14, i64 i)], [some ⟨26, 1, 0, false, [.agg [.lst 1 (ms.map st)]]⟩, some ⟨44, 3, 0, false, [.agg [.v (.slice none 0 0), .v (.slice none 0 0), .v (.slice none 0 0)]]⟩, some ⟨44, 3, 0, false, [rows3 3 a b c]⟩] ++ (rb a ++ (rb b ++ rb c))⟩
theorem partI_loop (ms : List ByteArray) (q : Nat) (l : List Nat) (hl : l.length ≤ 1073741824) (hv : ∀ n ∈ l, n < ms.length) : ∀ (t : List Nat) (i : Nat) (a b c : List Nat), l.drop i = t → a.length ≤ i → b.length ≤ i → c.length ≤ i →
    packX 0 [6, 7] (loopW (bd E0 (ev E0) loopW 0 [2, 3, 6, 7, 12, 13, 14] L64b0) (partI_st ms q l i a b c)) =
      some (.ext 0, ⟨[(6, .ptr 0 0 0), (7, .ptr 1 0 0)], [some ⟨44, 3, 0, false, [.agg [.v (.slice none 0 0), .v (.slice none 0 0), .v (.slice none 0 0)]]⟩, some ⟨44, 3, 0, false, [rows3 2 (a ++ partN ms q 0 t) (b ++ partN ms q 1 t) (c ++ partN ms q 2 t)]⟩] ++ (rb (a ++ partN ms q 0 t) ++ (rb (b ++ partN ms q 1 t) ++ rb (c ++ partN ms q 2 t)))⟩) := by
  intro t
  induction t with
  | nil =>
    intro i a b c h _ _ _
    have hi := not_drop h
    rw [loopW_eq]
    generalize loopW (bd E0 (ev E0) loopW 0 [2, 3, 6, 7, 12, 13, 14] L64b0) = K
    cases a <;> cases b <;> cases c <;> simp -implicitDefEqProofs [bd, L64b0, i64n, hi, partN, partI_st, rows3, rv, rb]
  | cons x t ih =>
    intro i a b c h ha hb hc
    obtain ⟨hi, hx, hd, hmem⟩ := at_drop h
    have hw : IntKind.i64.wrap ((i : Int) + 1) = (i : Int) + 1 := wr64 (by omega) (by omega)
    have hans := answerN_i ms x (hv x hmem) q
    rcases ansN_cases ms q x with h1 | h1 | h1
    · have hih := ih (i + 1) (a ++ [x]) b c hd (by simp; omega) (by omega) (by omega)
      rw [h1] at hans
      have p0 : partN ms q 0 (x :: t) = x :: partN ms q 0 t := by simp [partN, h1]
      have p1 : partN ms q 1 (x :: t) = partN ms q 1 t := by simp [partN, h1]
      have p2 : partN ms q 2 (x :: t) = partN ms q 2 t := by simp [partN, h1]
      have hA : a ++ x :: partN ms q 0 t = (a ++ [x]) ++ partN ms q 0 t := by simp
      rw [p0, p1, p2, hA, loopW_eq]
      generalize hR : some (Ex.ext 0, (⟨[(6, AV.ptr 0 0 0), (7, AV.ptr 1 0 0)], _⟩ : St)) = R at hih ⊢
      clear hR
      generalize loopW (bd E0 (ev E0) loopW 0 [2, 3, 6, 7, 12, 13, 14] L64b0) = K at hih ⊢
      rw [← hih]
      clear hih ih
      cases a <;> cases b <;> cases c <;> simp at ha hb hc <;> simp -implicitDefEqProofs [bd, L64b0, partI_st, rows3, rv, rb, i64n, hi, hx, hw, hans] <;> omega
    · have hih := ih (i + 1) a (b ++ [x]) c hd (by omega) (by simp; omega) (by omega)
      rw [h1] at hans
      have p0 : partN ms q 0 (x :: t) = partN ms q 0 t := by simp [partN, h1]
      have p1 : partN ms q 1 (x :: t) = x :: partN ms q 1 t := by simp [partN, h1]
      have p2 : partN ms q 2 (x :: t) = partN ms q 2 t := by simp [partN, h1]
      have hA : b ++ x :: partN ms q 1 t = (b ++ [x]) ++ partN ms q 1 t := by simp
      rw [p0, p1, p2, hA, loopW_eq]
      generalize hR : some (Ex.ext 0, (⟨[(6, AV.ptr 0 0 0), (7, AV.ptr 1 0 0)], _⟩ : St)) = R at hih ⊢
      clear hR
      generalize loopW (bd E0 (ev E0) loopW 0 [2, 3, 6, 7, 12, 13, 14] L64b0) = K at hih ⊢
      rw [← hih]
      clear hih ih
      cases a <;> cases b <;> cases c <;> simp at ha hb hc <;> simp -implicitDefEqProofs [bd, L64b0, partI_st, rows3, rv, rb, i64n, hi, hx, hw, hans] <;> omega
    · have hih := ih (i + 1) a b (c ++ [x]) hd (by omega) (by omega) (by simp; omega)
      rw [h1] at hans
      have p0 : partN ms q 0 (x :: t) = partN ms q 0 t := by simp [partN, h1]
      have p1 : partN ms q 1 (x :: t) = partN ms q 1 t := by simp [partN, h1]
      have p2 : partN ms q 2 (x :: t) = x :: partN ms q 2 t := by simp [partN, h1]
      have hA : c ++ x :: partN ms q 2 t = (c ++ [x]) ++ partN ms q 2 t := by simp
      rw [p0, p1, p2, hA, loopW_eq]
      generalize hR : some (Ex.ext 0, (⟨[(6, AV.ptr 0 0 0), (7, AV.ptr 1 0 0)], _⟩ : St)) = R at hih ⊢
      clear hR
      generalize loopW (bd E0 (ev E0) loopW 0 [2, 3, 6, 7, 12, 13, 14] L64b0) = K at hih ⊢
      rw [← hih]
      clear hih ih
      cases a <;> cases b <;> cases c <;> simp at ha hb hc <;> simp -implicitDefEqProofs [bd, L64b0, partI_st, rows3, rv, rb, i64n, hi, hx, hw, hans] <;> omega
end Go.Proofs.YtkajcafnfdlgpaaDoor.Ev
