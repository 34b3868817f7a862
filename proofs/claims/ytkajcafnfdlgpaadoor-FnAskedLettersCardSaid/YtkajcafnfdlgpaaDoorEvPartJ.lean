/- The program's parts, whole. -/
import Derived.Test.YtkajcafnfdlgpaaDoorEvPartI
set_option linter.unusedVariables false
set_option linter.unusedSimpArgs false
namespace Go.Proofs.YtkajcafnfdlgpaaDoor.Ev
theorem part_i (ms : List ByteArray) (q : Nat) (l : List Nat) (hl : l.length ≤ 1073741824) (hv : ∀ n ∈ l, n < ms.length) : ev E0 64 [.agg [.lst 1 (ms.map st)], .lst 1 (i64n l), i64 q] [] =
    some (rows3 0 (partN ms q 0 l) (partN ms q 1 l) (partN ms q 2 l), rb (partN ms q 0 l) ++ (rb (partN ms q 1 l) ++ rb (partN ms q 2 l))) := by
  rw [e64]
  unfold runF
  have hlp := partI_loop ms q l hl hv l 0 [] [] [] rfl (by simp) (by simp) (by simp)
  simp only [c0, List.nil_append] at hlp
  generalize partN ms q 0 l = a at hlp ⊢
  generalize partN ms q 1 l = b at hlp ⊢
  generalize partN ms q 2 l = c at hlp ⊢
  simp only [partI_st, rows3, rv, rb, List.append_nil, c0] at hlp
  cases a <;> cases b <;> cases c <;> simp only [rv, rb, List.append_nil, List.nil_append, List.cons_append, List.length_nil, List.length_cons] at hlp <;> simp -implicitDefEqProofs [L64, i64n_len, hlp, rows3, rv, rb]
end Go.Proofs.YtkajcafnfdlgpaaDoor.Ev
