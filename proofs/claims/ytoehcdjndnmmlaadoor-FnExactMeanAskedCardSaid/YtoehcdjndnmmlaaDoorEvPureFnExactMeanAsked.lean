/- FnExactMeanAsked: the law, run by the evaluator, answers true. -/
import Derived.Test.YtoehcdjndnmmlaaDoorEvMeanQ
set_option linter.unusedVariables false
set_option linter.unusedSimpArgs false
namespace Go.Proofs.YtoehcdjndnmmlaaDoor.Ev
theorem FnExactMeanAsked (ms : List ByteArray) (hm : ms.length ≤ maxLen ∧ ∀ x ∈ ms, x.size ≤ maxLen) (l : List Int) (hl0 : l.length ≤ maxLen ∧ ∀ y ∈ l, (Lit.int .i64 y).wf = true) : ev E0 14 [.agg [.lst 1 (ms.map st)], .lst 1 (i64s l)] [] = some (bl true, []) := by
  obtain ⟨hm1, hm2⟩ := hm
  have hl1 := hl0.1
  unfold maxLen at hm1 hm2 hl1
  obtain ⟨r, e, h⟩ := sz_table ms (by omega) (fun x hx => by have := hm2 x hx; omega) 1048576 (by omega) (by omega)
  rw [e14]
  unfold runF
  by_cases hps : (l.length : Int) > 1048576
  · have hps2 : 1048576 < l.length := by omega
    have hps3 : (1048576 : Int) < (l.length : Int) := hps
    simp -implicitDefEqProofs [L14, hps2, hps3, i64s_len]
  · have hps2 : ¬ 1048576 < l.length := by omega
    have hps3 : ¬ (1048576 : Int) < (l.length : Int) := hps
    by_cases hr : r < 0
    · simp -implicitDefEqProofs [L14, e, hr, hps2, hps3, i64s_len]
    · rcases h with h | ⟨h1, h2, h3, h4⟩
      · exact absurd h hr
      have hm3 : ms.length ≤ 8796093022208 := by omega
      have hs3 : ∀ x ∈ ms, x.size ≤ 1073741824 := fun x hx => by have := h4 x hx; omega
      have hm5 : ms.length ≤ 140737488355328 := by omega
      have hl3 : l.length ≤ 8796093022208 := by omega
      have hl5 : l.length ≤ 140737488355328 := by omega
      obtain ⟨x, y, ok, e1, e2⟩ := meanAsked ms hm3 hs3 l hl5
      simp -implicitDefEqProofs [L14, e, hr, hps2, hps3, i64s_len, copy_table ms hm3, copy_ints l hl3, e1, e2, eq_table ms hm5, eq_ints l hl5, eqA2]
end Go.Proofs.YtoehcdjndnmmlaaDoor.Ev
