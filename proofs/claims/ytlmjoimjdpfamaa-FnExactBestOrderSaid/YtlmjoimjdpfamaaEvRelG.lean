/- Plans: the program's walk over the hops, whole. -/
import Derived.Test.YtlmjoimjdpfamaaEvRelF
set_option linter.unusedVariables false
set_option linter.unusedSimpArgs false
namespace Go.Proofs.Ytlmjoimjdpfamaa.Ev
theorem runI_some {js : List J} : ∀ (t p : List Hh) (ats rds ats' : List Int), runI js p ats rds t = some ats' → ats'.length = ats.length
  | [], p, ats, rds, ats', h => by simp only [runI, Option.some.injEq] at h; rw [h]
  | h :: t, p, ats, rds, ats', e => by
    unfold runI at e
    split at e
    · have := runI_some t _ _ _ _ e
      rw [this]; simp
    · cases e
end Go.Proofs.Ytlmjoimjdpfamaa.Ev
