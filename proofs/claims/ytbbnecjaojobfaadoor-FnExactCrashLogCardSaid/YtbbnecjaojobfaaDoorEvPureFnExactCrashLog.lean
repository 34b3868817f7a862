/- FnExactCrashLog: the law, run by the evaluator, answers true. -/
import Derived.Test.YtbbnecjaojobfaaDoorEvCrash
import Derived.Test.YtbbnecjaojobfaaDoorEvLogT
set_option linter.unusedVariables false
set_option linter.unusedSimpArgs false
namespace Go.Proofs.YtbbnecjaojobfaaDoor.Ev
theorem FnExactCrashLog (x0 : ByteArray × ByteArray × Int) (b0 : (x0.1.size ≤ maxLen) ∧ (x0.2.1.size ≤ maxLen) ∧ (Lit.int .i64 x0.2.2).wf = true) (x1 : Int) (b1 : (Lit.int .i64 x1).wf = true) (x2 : Bool) (b2 : True) : ev E0 3 [(AV.agg [(st x0.1), (st x0.2.1), (i64 x0.2.2)]), (i64 x1), (bl x2)] [] = some (bl true, []) := by
  obtain ⟨d, p, n⟩ := x0
  obtain ⟨hd, hp, _⟩ := b0
  simp only at hd hp ⊢
  unfold maxLen at hd hp
  rw [e3]
  unfold runF
  obtain ⟨r, e, h⟩ := Lg.sz_log d p n 1048576 (by omega) (by omega) (by omega) (by omega)
  by_cases hr : r < 0
  · simp -implicitDefEqProofs [L3, e, hr]
  · rcases h with h | ⟨_, h1, h2⟩
    · exact absurd h hr
    have ht := Lg.to_log d p n
    obtain ⟨s1, s0⟩ := Lg.crash_s d p n x1 x2 (by omega) (by omega)
    obtain ⟨i1, i0⟩ := Lg.crash_i d p n x1 x2 (by omega) (by omega)
    cases hk : Lg.okCrash d p n x1 with
    | false =>
      have k1 := s0 hk
      have k2 := i0 hk
      simp -implicitDefEqProofs [L3, e, hr, ht, k1, k2]
    | true =>
      have k1 := s1 hk
      have k2 := i1 hk
      generalize Lg.mk (Lg.crashed (B d) (B p) x1.toNat x2) = v at *
      simp -implicitDefEqProofs [L3, e, hr, ht, k1, k2]
end Go.Proofs.YtbbnecjaojobfaaDoor.Ev
