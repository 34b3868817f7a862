/- FnExactNewStation: the law, run by the evaluator, answers true. -/
import Derived.Test.YtjlmhlahcggenaaDoorEvTextOf
set_option linter.unusedVariables false
set_option linter.unusedSimpArgs false
namespace Go.Proofs.YtjlmhlahcggenaaDoor.Ev
theorem FnExactNewStation (ms : List ByteArray) (hm : ms.length ≤ maxLen ∧ ∀ x ∈ ms, x.size ≤ maxLen) : ev E0 3 [.agg [.lst 1 (ms.map st)]] [] = some (bl true, []) := by
  obtain ⟨hm1, hm2⟩ := hm
  unfold maxLen at hm1 hm2
  obtain ⟨r, e, h⟩ := sz_table ms (by omega) (fun x hx => by have := hm2 x hx; omega) 1048576 (by omega) (by omega)
  rw [e3]
  unfold runF
  by_cases hr : r < 0
  · simp -implicitDefEqProofs [L3, e, hr]
  · rcases h with h | ⟨h1, h2, h3, h4⟩
    · exact absurd h hr
    have hl : ms.length ≤ 8796093022208 := by omega
    have hm3 : ∀ x ∈ ms, x.size ≤ 1048576 := fun x hx => by have := h4 x hx; omega
    have hl2 : ms.length ≤ 140737488355328 := by omega
    have hL := lensT_le ms hm3
    have hL2 : ms.length * (1048576 + 1) ≤ 1048576 * (1048576 + 1) := Nat.mul_le_mul_right _ (by omega)
    obtain ⟨s, ok, e1, e2⟩ := newStation ms hl2 (fun x hx => by have := hm3 x hx; omega) (by omega)
    simp -implicitDefEqProofs [L3, e, hr, copy_table ms hl, e1, e2, eq_table ms hl2, eq_station]
end Go.Proofs.YtjlmhlahcggenaaDoor.Ev
