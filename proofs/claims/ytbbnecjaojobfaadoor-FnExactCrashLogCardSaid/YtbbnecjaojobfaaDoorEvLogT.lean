/- Logs handed over by a law: their size, their turning. -/
import Derived.Test.YtbbnecjaojobfaaDoorEvLogV
set_option linter.unusedVariables false
set_option linter.unusedSimpArgs false
namespace Go.Proofs.YtbbnecjaojobfaaDoor.Ev.Lg
theorem sz_log (a b : ByteArray) (n c : Int) (h0 : 0 ≤ c) (hc : c ≤ 1048576) (ha : a.size ≤ 9223372036854775807) (hb : b.size ≤ 9223372036854775807) : ∃ r, ev E0 7 [.agg [st a, st b, i64 n], i64 c] [] = some (i64 r, []) ∧ (r < 0 ∨ (0 ≤ r ∧ a.size ≤ 1048576 ∧ b.size ≤ 1048576)) := by
  rw [e7]
  unfold runF
  have w1 : IntKind.i64.wrap (c - (a.size : Int)) = c - (a.size : Int) := wr64 (by omega) (by omega)
  by_cases h1 : c - (a.size : Int) < 0
  · refine ⟨-1, ?_, .inl (by omega)⟩
    simp -implicitDefEqProofs [L7, w1, h1]
  · have w2 : IntKind.i64.wrap (c - (a.size : Int) - (b.size : Int)) = c - (a.size : Int) - (b.size : Int) := wr64 (by omega) (by omega)
    by_cases h2 : c - (a.size : Int) - (b.size : Int) < 0
    · refine ⟨-1, ?_, .inl (by omega)⟩
      simp -implicitDefEqProofs [L7, w1, h1, w2, h2]
    · refine ⟨c - (a.size : Int) - (b.size : Int), ?_, .inr ⟨by omega, by omega, by omega⟩⟩
      simp -implicitDefEqProofs [L7, w1, h1, w2, h2]
theorem to_log (a b : ByteArray) (n : Int) : ev E0 9 [.agg [st a, st b, i64 n]] [] = some (.agg [st a, st b, i64 n], []) := by
  rw [e9]
  unfold runF
  simp -implicitDefEqProofs [L9]
end Go.Proofs.YtbbnecjaojobfaaDoor.Ev.Lg
