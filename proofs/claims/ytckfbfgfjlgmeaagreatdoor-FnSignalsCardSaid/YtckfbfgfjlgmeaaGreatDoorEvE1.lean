/- The laws' own environment: what they call answers as it does in the environment below, told by itself. -/
import Derived.Test.YtckfbfgfjlgmeaaGreatDoorEvE
import Derived.Test.YtckfbfgfjlgmeaaGreatDoorEvBD
set_option linter.unusedVariables false
namespace Go.Proofs.YtckfbfgfjlgmeaaGreatDoor.Ev
def fn1 : Nat → Option LFunc := fun n => match n with | 5 => some L5 | _ => none
def sh1 : Nat → Option Sh := fun n => match n with | 6 => some (.res (.one none)) | 55 => some (.tup [(.agg [some 1]), (.one none)]) | 56 => some (.tup [(.one none), (.one none)]) | 57 => some (.tup [(.one none), (.one none)]) | 58 => some (.tup [(.one none), (.one none)]) | 59 => some (.tup [(.one none), (.one none)]) | 60 => some (.tup [(.one none), (.one none)]) | 61 => some (.tup [(.one none), (.one none)]) | 62 => some (.tup [(.agg [none, none]), (.one none)]) | 63 => some (.tup [(.agg [none, none]), (.one none)]) | 64 => some (.tup [(.one none), (.one none)]) | 65 => some (.tup [(.one none), (.one none)]) | 66 => some (.tup [(.agg [some 1]), (.one none)]) | 67 => some (.tup [(.one none), (.one none)]) | 68 => some (.tup [(.one none), (.one none)]) | 69 => some (.res (.one none)) | 70 => some (.tup [(.one none), (.one none)]) | 71 => some (.tup [(.one none), (.one none)]) | 72 => some (.res (.one none)) | _ => none
noncomputable def E1 : Env := ⟨fun _ => false, fn1, fun n => (sh1 n).map fun s => frzP E0 n s⟩
@[simp] theorem opn1 (f : Nat) : E1.opn f = false := rfl
theorem g5 (xs : List AV) (H : Hp) : ev E1 5 xs H = runF E1 (ev E1) loopW L5 xs H := ev_eq E1 5 xs H
theorem g6 (xs : List AV) (H : Hp) : ev E1 6 xs H = frzP E0 6 (.res (.one none)) xs H := ev_eq E1 6 xs H
theorem g55 (xs : List AV) (H : Hp) : ev E1 55 xs H = frzP E0 55 (.tup [(.agg [some 1]), (.one none)]) xs H := ev_eq E1 55 xs H
theorem g56 (xs : List AV) (H : Hp) : ev E1 56 xs H = frzP E0 56 (.tup [(.one none), (.one none)]) xs H := ev_eq E1 56 xs H
theorem g57 (xs : List AV) (H : Hp) : ev E1 57 xs H = frzP E0 57 (.tup [(.one none), (.one none)]) xs H := ev_eq E1 57 xs H
theorem g58 (xs : List AV) (H : Hp) : ev E1 58 xs H = frzP E0 58 (.tup [(.one none), (.one none)]) xs H := ev_eq E1 58 xs H
theorem g59 (xs : List AV) (H : Hp) : ev E1 59 xs H = frzP E0 59 (.tup [(.one none), (.one none)]) xs H := ev_eq E1 59 xs H
theorem g60 (xs : List AV) (H : Hp) : ev E1 60 xs H = frzP E0 60 (.tup [(.one none), (.one none)]) xs H := ev_eq E1 60 xs H
theorem g61 (xs : List AV) (H : Hp) : ev E1 61 xs H = frzP E0 61 (.tup [(.one none), (.one none)]) xs H := ev_eq E1 61 xs H
theorem g62 (xs : List AV) (H : Hp) : ev E1 62 xs H = frzP E0 62 (.tup [(.agg [none, none]), (.one none)]) xs H := ev_eq E1 62 xs H
theorem g63 (xs : List AV) (H : Hp) : ev E1 63 xs H = frzP E0 63 (.tup [(.agg [none, none]), (.one none)]) xs H := ev_eq E1 63 xs H
theorem g64 (xs : List AV) (H : Hp) : ev E1 64 xs H = frzP E0 64 (.tup [(.one none), (.one none)]) xs H := ev_eq E1 64 xs H
theorem g65 (xs : List AV) (H : Hp) : ev E1 65 xs H = frzP E0 65 (.tup [(.one none), (.one none)]) xs H := ev_eq E1 65 xs H
theorem g66 (xs : List AV) (H : Hp) : ev E1 66 xs H = frzP E0 66 (.tup [(.agg [some 1]), (.one none)]) xs H := ev_eq E1 66 xs H
theorem g67 (xs : List AV) (H : Hp) : ev E1 67 xs H = frzP E0 67 (.tup [(.one none), (.one none)]) xs H := ev_eq E1 67 xs H
theorem g68 (xs : List AV) (H : Hp) : ev E1 68 xs H = frzP E0 68 (.tup [(.one none), (.one none)]) xs H := ev_eq E1 68 xs H
theorem g69 (xs : List AV) (H : Hp) : ev E1 69 xs H = frzP E0 69 (.res (.one none)) xs H := ev_eq E1 69 xs H
theorem g70 (xs : List AV) (H : Hp) : ev E1 70 xs H = frzP E0 70 (.tup [(.one none), (.one none)]) xs H := ev_eq E1 70 xs H
theorem g71 (xs : List AV) (H : Hp) : ev E1 71 xs H = frzP E0 71 (.tup [(.one none), (.one none)]) xs H := ev_eq E1 71 xs H
theorem g72 (xs : List AV) (H : Hp) : ev E1 72 xs H = frzP E0 72 (.res (.one none)) xs H := ev_eq E1 72 xs H
theorem fn1_ok : ∀ f lf, fn1 f = some lf → ∃ fn lv, Go.Proofs.Tryz.prog.funcs[f]? = some fn ∧ compF Go.Proofs.Tryz.prog lv fn = some lf := by
  intro f lf h
  unfold fn1 at h
  split at h
  · cases h; exact ⟨_, _, Go.Proofs.Tryz.func5, c5⟩
  · cases h
theorem sound1 : CS Go.Proofs.Tryz.prog gw0 GW (ev E1) := by
  refine ev_sound gw_low mixed ⟨fn1_ok, fun f p h => ?_⟩
  change (sh1 f).map (fun s => frzP E0 f s) = some p at h
  cases hs : sh1 f with
  | none => rw [hs] at h; cases h
  | some s => rw [hs] at h; cases h; exact frz_ok sound f s
end Go.Proofs.YtckfbfgfjlgmeaaGreatDoor.Ev
