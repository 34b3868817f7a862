/- FnExactTableOfStation: the law, run by the evaluator, answers true. -/
import Derived.Test.YtjlmhlahcggenaaDoorEvMarkT
set_option linter.unusedVariables false
set_option linter.unusedSimpArgs false
namespace Go.Proofs.YtjlmhlahcggenaaDoor.Ev
theorem FnExactTableOfStation (x : ByteArray × ByteArray × Int) (hx : (x.1.size ≤ maxLen) ∧ (x.2.1.size ≤ maxLen) ∧ (Lit.int .i64 x.2.2).wf = true) : ev E0 6 [.agg [st x.1, st x.2.1, i64 x.2.2]] [] = some (bl true, []) := by
  obtain ⟨a, b, n⟩ := x
  obtain ⟨ha, hb, _⟩ := hx
  simp only at ha hb ⊢
  unfold maxLen at ha hb
  obtain ⟨r, e, h⟩ := sz_station a b n (by omega) (by omega)
  rw [e6]
  unfold runF
  by_cases hr : r < 0
  · simp -implicitDefEqProofs [L6, e, hr]
  · rcases h with h | ⟨h0, h1, h2⟩
    · exact absurd h hr
    cases hk : okSt a b n with
    | false =>
      obtain ⟨e1, e2⟩ := tableOf_no a b n (by omega) (by omega) hk
      simp -implicitDefEqProofs [L6, e, hr, to_station, e1, e2, eq_nilT, mark_nilS1, held_nilT]
    | true =>
      obtain ⟨e1, e2⟩ := tableOf_yes a b n (by omega) (by omega) hk
      have hl := partsB_lens 44 a
      have hl2 := lensT_len (partsB 44 a)
      generalize partsB 44 a = P at *
      have hp1 : P.length ≤ 140737488355328 := by omega
      have hp2 : P.length ≤ 1073741824 := by omega
      have hn1 : ¬ (1 + (P.length : Int)) < 0 := by omega
      simp -implicitDefEqProofs [L6, e, hr, to_station, e1, e2, eq_table P hp1, mark_table1, held_table1, hp2, hn1, seqT_len]
end Go.Proofs.YtjlmhlahcggenaaDoor.Ev
