/- FnExactHeardUntil: the law, run by the evaluator, answers true. -/
import Derived.Test.YtoehcdjndnmmlaaDoorEvHeard
set_option linter.unusedVariables false
set_option linter.unusedSimpArgs false
namespace Go.Proofs.YtoehcdjndnmmlaaDoor.Ev
theorem FnExactHeardUntil (ms : List ByteArray) (hm : ms.length ≤ maxLen ∧ ∀ x ∈ ms, x.size ≤ maxLen) (k : Int) (hk : (Lit.int .i64 k).wf = true) : ev E0 5 [.agg [.lst 1 (ms.map st)], i64 k] [] = some (bl true, []) := by
  obtain ⟨hm1, hm2⟩ := hm
  unfold maxLen at hm1 hm2
  obtain ⟨r, e, h⟩ := sz_table ms (by omega) (fun x hx => by have := hm2 x hx; omega) 1048576 (by omega) (by omega)
  rw [e5]
  unfold runF
  by_cases hr : r < 0
  · simp -implicitDefEqProofs [L5, e, hr]
  · rcases h with h | ⟨h1, h2, h3, h4⟩
    · exact absurd h hr
    have hl : ms.length ≤ 8796093022208 := by omega
    have hm3 : ∀ x ∈ ms, x.size ≤ 140737488355328 := fun x hx => by have := h4 x hx; omega
    have hl2 : ms.length ≤ 140737488355328 := by omega
    obtain ⟨v, ok, e1, e2⟩ := heardUntil ms hl hm3 k
    simp -implicitDefEqProofs [L5, e, hr, copy_table ms hl, e1, e2, eq_table ms hl2]
end Go.Proofs.YtoehcdjndnmmlaaDoor.Ev
