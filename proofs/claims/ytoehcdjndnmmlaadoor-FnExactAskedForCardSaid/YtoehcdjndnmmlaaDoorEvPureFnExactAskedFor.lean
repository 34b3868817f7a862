/- FnExactAskedFor: the law, run by the evaluator, answers true. -/
import Derived.Test.YtoehcdjndnmmlaaDoorEvAsked
set_option linter.unusedVariables false
set_option linter.unusedSimpArgs false
namespace Go.Proofs.YtoehcdjndnmmlaaDoor.Ev
theorem FnExactAskedFor (ms : List ByteArray) (hm : ms.length ≤ maxLen ∧ ∀ x ∈ ms, x.size ≤ maxLen) (k : Int) (hk : (Lit.int .i64 k).wf = true) : ev E0 13 [.agg [.lst 1 (ms.map st)], i64 k] [] = some (bl true, []) := by
  obtain ⟨hm1, hm2⟩ := hm
  unfold maxLen at hm1 hm2
  obtain ⟨r, e, h⟩ := sz_table ms (by omega) (fun x hx => by have := hm2 x hx; omega) 1048576 (by omega) (by omega)
  rw [e13]
  unfold runF
  by_cases hr : r < 0
  · simp -implicitDefEqProofs [L13, e, hr]
  · rcases h with h | ⟨h1, h2, h3, h4⟩
    · exact absurd h hr
    have hl : ms.length ≤ 8796093022208 := by omega
    have hm3 : ∀ x ∈ ms, x.size ≤ 140737488355328 := fun x hx => by have := h4 x hx; omega
    have hl2 : ms.length ≤ 140737488355328 := by omega
    have hl4 : ms.length ≤ 1073741824 := by omega
    have hn1 : ¬ (1 + (ms.length : Int)) < 0 := by omega
    cases hv : (okTable ms && okLetter ms k) with
    | false =>
      obtain ⟨e1, e2⟩ := askedFor_no ms hl hm3 k hv
      simp -implicitDefEqProofs [L13, e, hr, copy_table ms hl, e1, e2, eq_table ms hl2, eq_nil, mark_table1, mark_nil1, held_nil, hl4, hn1, -Int.natCast_add]
    | true =>
      rw [Bool.and_eq_true] at hv
      obtain ⟨l, hb, e1, e2⟩ := askedFor_yes ms hl hm3 k hv.1 hv.2
      have hb4 : l.length ≤ 1073741824 := by omega
      have hb5 : l.length ≤ 140737488355328 := by omega
      have hn2 : ¬ (1 + (l.length : Int)) < 0 := by omega
      simp -implicitDefEqProofs [L13, e, hr, copy_table ms hl, e1, e2, eq_table ms hl2, eq_ints l hb5, mark_table1, mark_ints1, held_ints1, hl4, hb4, hn1, hn2, i64s_len, seqI_len]
end Go.Proofs.YtoehcdjndnmmlaaDoor.Ev
