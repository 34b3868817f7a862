/- Some functions of the program, ahead of the givens that lean on them. -/
import Derived.Test.YtlmjoimjdpfamaaGreatEvL0
import Derived.Test.YtlmjoimjdpfamaaGreatEvBD
import Derived.Test.YtlmjoimjdpfamaaGreatEvPrim
set_option linter.unusedVariables false
namespace Go.Proofs.YtlmjoimjdpfamaaGreat.Ev
def fn00 : Nat → Option LFunc := fun n => match n with | 62 => some L62 | 75 => some L75 | 76 => some L76 | 92 => some L92 | _ => none
def prim00 : Nat → Option (List AV → Hp → Option (AV × Hp)) := fun n => match n with  | _ => none
def E00 : Env := ⟨fun _ => false, fn00, prim00⟩
@[simp] theorem o00 (f : Nat) : E00.opn f = false := rfl
theorem d62 (xs : List AV) (H : Hp) : ev E00 62 xs H = runF E00 (ev E00) loopW L62 xs H := ev_eq E00 62 xs H
theorem d75 (xs : List AV) (H : Hp) : ev E00 75 xs H = runF E00 (ev E00) loopW L75 xs H := ev_eq E00 75 xs H
theorem d76 (xs : List AV) (H : Hp) : ev E00 76 xs H = runF E00 (ev E00) loopW L76 xs H := ev_eq E00 76 xs H
theorem d92 (xs : List AV) (H : Hp) : ev E00 92 xs H = runF E00 (ev E00) loopW L92 xs H := ev_eq E00 92 xs H
theorem mixed00 : Go.Proofs.Tryz.prog.follows .mixedOrders = true := by kernel_rfl
theorem fn00_ok : ∀ f lf, fn00 f = some lf → ∃ fn lv, Go.Proofs.Tryz.prog.funcs[f]? = some fn ∧ compF Go.Proofs.Tryz.prog lv fn = some lf := by
  intro f lf h
  unfold fn00 at h
  split at h
  · cases h; exact ⟨_, _, Go.Proofs.Tryz.func62, c62⟩
  · cases h; exact ⟨_, _, Go.Proofs.Tryz.func75, c75⟩
  · cases h; exact ⟨_, _, Go.Proofs.Tryz.func76, c76⟩
  · cases h; exact ⟨_, _, Go.Proofs.Tryz.func92, c92⟩
  · cases h
theorem sound00 : CS Go.Proofs.Tryz.prog gw0 GW (ev E00) := by
  refine ev_sound gw_low mixed00 ⟨fn00_ok, fun f p h => ?_⟩
  change prim00 f = some p at h
  unfold prim00 at h
  cases h
end Go.Proofs.YtlmjoimjdpfamaaGreat.Ev
