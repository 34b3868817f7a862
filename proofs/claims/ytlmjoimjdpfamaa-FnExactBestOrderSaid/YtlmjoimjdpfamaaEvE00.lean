/- Some functions of the program, ahead of the givens that lean on them. -/
import Derived.Test.YtlmjoimjdpfamaaEvL0
import Derived.Test.YtlmjoimjdpfamaaEvBD
import Derived.Test.YtlmjoimjdpfamaaEvPrim
set_option linter.unusedVariables false
namespace Go.Proofs.Ytlmjoimjdpfamaa.Ev
def fn00 : Nat → Option LFunc := fun n => match n with | 50 => some L50 | 66 => some L66 | 67 => some L67 | 84 => some L84 | _ => none
def prim00 : Nat → Option (List AV → Hp → Option (AV × Hp)) := fun n => match n with  | _ => none
def E00 : Env := ⟨fun _ => false, fn00, prim00⟩
@[simp] theorem o00 (f : Nat) : E00.opn f = false := rfl
theorem d50 (xs : List AV) (H : Hp) : ev E00 50 xs H = runF E00 (ev E00) loopW L50 xs H := ev_eq E00 50 xs H
theorem d66 (xs : List AV) (H : Hp) : ev E00 66 xs H = runF E00 (ev E00) loopW L66 xs H := ev_eq E00 66 xs H
theorem d67 (xs : List AV) (H : Hp) : ev E00 67 xs H = runF E00 (ev E00) loopW L67 xs H := ev_eq E00 67 xs H
theorem d84 (xs : List AV) (H : Hp) : ev E00 84 xs H = runF E00 (ev E00) loopW L84 xs H := ev_eq E00 84 xs H
theorem mixed00 : Go.Proofs.Try.prog.follows .mixedOrders = true := by kernel_rfl
theorem fn00_ok : ∀ f lf, fn00 f = some lf → ∃ fn lv, Go.Proofs.Try.prog.funcs[f]? = some fn ∧ compF Go.Proofs.Try.prog lv fn = some lf := by
  intro f lf h
  unfold fn00 at h
  split at h
  · cases h; exact ⟨_, _, Go.Proofs.Try.func50, c50⟩
  · cases h; exact ⟨_, _, Go.Proofs.Try.func66, c66⟩
  · cases h; exact ⟨_, _, Go.Proofs.Try.func67, c67⟩
  · cases h; exact ⟨_, _, Go.Proofs.Try.func84, c84⟩
  · cases h
theorem sound00 : CS Go.Proofs.Try.prog gw0 GW (ev E00) := by
  refine ev_sound gw_low mixed00 ⟨fn00_ok, fun f p h => ?_⟩
  change prim00 f = some p at h
  unfold prim00 at h
  cases h
end Go.Proofs.Ytlmjoimjdpfamaa.Ev
