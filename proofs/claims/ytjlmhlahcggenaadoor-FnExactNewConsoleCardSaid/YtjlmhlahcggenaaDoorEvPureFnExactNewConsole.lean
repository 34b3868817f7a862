/- FnExactNewConsole: the law, run by the evaluator, answers true. -/
import Derived.Test.YtjlmhlahcggenaaDoorEvConsoles
set_option linter.unusedVariables false
set_option linter.unusedSimpArgs false
namespace Go.Proofs.YtjlmhlahcggenaaDoor.Ev
theorem FnExactNewConsole (x : ByteArray × ByteArray × Int) (hx : (x.1.size ≤ maxLen) ∧ (x.2.1.size ≤ maxLen) ∧ (Lit.int .i64 x.2.2).wf = true) : ev E0 5 [.agg [st x.1, st x.2.1, i64 x.2.2]] [] = some (bl true, []) := by
  obtain ⟨a, b, n⟩ := x
  obtain ⟨ha, hb, _⟩ := hx
  simp only at ha hb ⊢
  unfold maxLen at ha hb
  obtain ⟨r, e, h⟩ := sz_station a b n (by omega) (by omega)
  rw [e5]
  unfold runF
  by_cases hr : r < 0
  · simp -implicitDefEqProofs [L5, e, hr]
  · rcases h with h | ⟨h0, h1, h2⟩
    · exact absurd h hr
    obtain ⟨c, ok, e1, e2⟩ := newConsole a b n (by omega) (by omega)
    simp -implicitDefEqProofs [L5, e, hr, to_station, e1, e2, eq_console]
end Go.Proofs.YtjlmhlahcggenaaDoor.Ev
