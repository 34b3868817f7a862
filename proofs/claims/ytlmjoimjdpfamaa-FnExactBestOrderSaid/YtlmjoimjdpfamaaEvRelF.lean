/- Plans: the program's walk over the hops. -/
import Derived.Test.YtlmjoimjdpfamaaEvRelE
set_option linter.unusedVariables false
set_option linter.unusedSimpArgs false
namespace Go.Proofs.Ytlmjoimjdpfamaa.Ev
end Go.Proofs.Ytlmjoimjdpfamaa.Ev
