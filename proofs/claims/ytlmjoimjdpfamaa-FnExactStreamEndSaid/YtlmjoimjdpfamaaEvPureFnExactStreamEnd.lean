/- StreamEnd: the program's answer is the reference's, for all arguments. -/
import Derived.Test.YtlmjoimjdpfamaaEvRelX
set_option linter.unusedVariables false
set_option linter.unusedSimpArgs false
namespace Go.Proofs.Ytlmjoimjdpfamaa.Ev
theorem FnExactStreamEnd (x0 : Int) (b0 : (Lit.int .i64 x0).wf = true) (x1 : Int) (b1 : (Lit.int .i64 x1).wf = true) (x2 : Int) (b2 : (Lit.int .i64 x2).wf = true) : ev E0 3 [(i64 x0), (i64 x1), (i64 x2)] [] = some (bl true, []) := by
  rw [e3]
  unfold runF
  simp -implicitDefEqProofs [L3, stream_s, stream_i]
end Go.Proofs.Ytlmjoimjdpfamaa.Ev
