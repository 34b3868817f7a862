/- The laws' own environment: what they call answers as it does in the environment below, told by itself. -/
import Derived.Test.YtckfbfgfjlgmeaaGreatDoorEvE
import Derived.Test.YtckfbfgfjlgmeaaGreatDoorEvBD
set_option linter.unusedVariables false
namespace Go.Proofs.YtckfbfgfjlgmeaaGreatDoor.Ev
def fn1 : Nat → Option LFunc := fun n => match n with | 4 => some L4 | _ => none
def sh1 : Nat → Option Sh := fun n => match n with | 6 => some (.res (.one none)) | 29 => some (.res (.agg [some 1])) | 30 => some (.tup [(.agg [some 1]), (.one none)]) | 31 => some (.tup [(.agg [some 1]), (.one none)]) | 32 => some (.res (.one none)) | 33 => some (.res (.one none)) | 34 => some (.tup [(.agg [some 1]), (.one none)]) | 35 => some (.tup [(.agg [some 1]), (.one none)]) | 36 => some (.tup [(.agg [some 1]), (.one none)]) | 37 => some (.tup [(.one none), (.one none)]) | 38 => some (.tup [(.one none), (.one none)]) | 39 => some (.tup [(.agg [some 1]), (.one none)]) | 40 => some (.tup [(.one none), (.one none)]) | 41 => some (.tup [(.one none), (.one none)]) | 42 => some (.tup [(.agg [some 1]), (.one none)]) | 43 => some (.tup [(.agg [some 1]), (.one none)]) | 44 => some (.tup [(.agg [some 1]), (.one none), (.one none)]) | 45 => some (.tup [(.agg [some 1]), (.one none)]) | 46 => some (.tup [(.agg [some 1]), (.one none)]) | 47 => some (.res (.one none)) | 48 => some (.tup [(.one none), (.one none)]) | 49 => some (.tup [(.one none), (.one none)]) | 50 => some (.tup [(.one none), (.one none)]) | 51 => some (.tup [(.one none), (.one none)]) | 52 => some (.res (.one none)) | 53 => some (.tup [(.agg [some 1]), (.one none)]) | 54 => some (.tup [(.agg [some 1]), (.one none)]) | _ => none
noncomputable def E1 : Env := ⟨fun _ => false, fn1, fun n => (sh1 n).map fun s => frzP E0 n s⟩
@[simp] theorem opn1 (f : Nat) : E1.opn f = false := rfl
theorem g4 (xs : List AV) (H : Hp) : ev E1 4 xs H = runF E1 (ev E1) loopW L4 xs H := ev_eq E1 4 xs H
theorem g6 (xs : List AV) (H : Hp) : ev E1 6 xs H = frzP E0 6 (.res (.one none)) xs H := ev_eq E1 6 xs H
theorem g29 (xs : List AV) (H : Hp) : ev E1 29 xs H = frzP E0 29 (.res (.agg [some 1])) xs H := ev_eq E1 29 xs H
theorem g30 (xs : List AV) (H : Hp) : ev E1 30 xs H = frzP E0 30 (.tup [(.agg [some 1]), (.one none)]) xs H := ev_eq E1 30 xs H
theorem g31 (xs : List AV) (H : Hp) : ev E1 31 xs H = frzP E0 31 (.tup [(.agg [some 1]), (.one none)]) xs H := ev_eq E1 31 xs H
theorem g32 (xs : List AV) (H : Hp) : ev E1 32 xs H = frzP E0 32 (.res (.one none)) xs H := ev_eq E1 32 xs H
theorem g33 (xs : List AV) (H : Hp) : ev E1 33 xs H = frzP E0 33 (.res (.one none)) xs H := ev_eq E1 33 xs H
theorem g34 (xs : List AV) (H : Hp) : ev E1 34 xs H = frzP E0 34 (.tup [(.agg [some 1]), (.one none)]) xs H := ev_eq E1 34 xs H
theorem g35 (xs : List AV) (H : Hp) : ev E1 35 xs H = frzP E0 35 (.tup [(.agg [some 1]), (.one none)]) xs H := ev_eq E1 35 xs H
theorem g36 (xs : List AV) (H : Hp) : ev E1 36 xs H = frzP E0 36 (.tup [(.agg [some 1]), (.one none)]) xs H := ev_eq E1 36 xs H
theorem g37 (xs : List AV) (H : Hp) : ev E1 37 xs H = frzP E0 37 (.tup [(.one none), (.one none)]) xs H := ev_eq E1 37 xs H
theorem g38 (xs : List AV) (H : Hp) : ev E1 38 xs H = frzP E0 38 (.tup [(.one none), (.one none)]) xs H := ev_eq E1 38 xs H
theorem g39 (xs : List AV) (H : Hp) : ev E1 39 xs H = frzP E0 39 (.tup [(.agg [some 1]), (.one none)]) xs H := ev_eq E1 39 xs H
theorem g40 (xs : List AV) (H : Hp) : ev E1 40 xs H = frzP E0 40 (.tup [(.one none), (.one none)]) xs H := ev_eq E1 40 xs H
theorem g41 (xs : List AV) (H : Hp) : ev E1 41 xs H = frzP E0 41 (.tup [(.one none), (.one none)]) xs H := ev_eq E1 41 xs H
theorem g42 (xs : List AV) (H : Hp) : ev E1 42 xs H = frzP E0 42 (.tup [(.agg [some 1]), (.one none)]) xs H := ev_eq E1 42 xs H
theorem g43 (xs : List AV) (H : Hp) : ev E1 43 xs H = frzP E0 43 (.tup [(.agg [some 1]), (.one none)]) xs H := ev_eq E1 43 xs H
theorem g44 (xs : List AV) (H : Hp) : ev E1 44 xs H = frzP E0 44 (.tup [(.agg [some 1]), (.one none), (.one none)]) xs H := ev_eq E1 44 xs H
theorem g45 (xs : List AV) (H : Hp) : ev E1 45 xs H = frzP E0 45 (.tup [(.agg [some 1]), (.one none)]) xs H := ev_eq E1 45 xs H
theorem g46 (xs : List AV) (H : Hp) : ev E1 46 xs H = frzP E0 46 (.tup [(.agg [some 1]), (.one none)]) xs H := ev_eq E1 46 xs H
theorem g47 (xs : List AV) (H : Hp) : ev E1 47 xs H = frzP E0 47 (.res (.one none)) xs H := ev_eq E1 47 xs H
theorem g48 (xs : List AV) (H : Hp) : ev E1 48 xs H = frzP E0 48 (.tup [(.one none), (.one none)]) xs H := ev_eq E1 48 xs H
theorem g49 (xs : List AV) (H : Hp) : ev E1 49 xs H = frzP E0 49 (.tup [(.one none), (.one none)]) xs H := ev_eq E1 49 xs H
theorem g50 (xs : List AV) (H : Hp) : ev E1 50 xs H = frzP E0 50 (.tup [(.one none), (.one none)]) xs H := ev_eq E1 50 xs H
theorem g51 (xs : List AV) (H : Hp) : ev E1 51 xs H = frzP E0 51 (.tup [(.one none), (.one none)]) xs H := ev_eq E1 51 xs H
theorem g52 (xs : List AV) (H : Hp) : ev E1 52 xs H = frzP E0 52 (.res (.one none)) xs H := ev_eq E1 52 xs H
theorem g53 (xs : List AV) (H : Hp) : ev E1 53 xs H = frzP E0 53 (.tup [(.agg [some 1]), (.one none)]) xs H := ev_eq E1 53 xs H
theorem g54 (xs : List AV) (H : Hp) : ev E1 54 xs H = frzP E0 54 (.tup [(.agg [some 1]), (.one none)]) xs H := ev_eq E1 54 xs H
theorem fn1_ok : ∀ f lf, fn1 f = some lf → ∃ fn lv, Go.Proofs.Tryz.prog.funcs[f]? = some fn ∧ compF Go.Proofs.Tryz.prog lv fn = some lf := by
  intro f lf h
  unfold fn1 at h
  split at h
  · cases h; exact ⟨_, _, Go.Proofs.Tryz.func4, c4⟩
  · cases h
theorem sound1 : CS Go.Proofs.Tryz.prog gw0 GW (ev E1) := by
  refine ev_sound gw_low mixed ⟨fn1_ok, fun f p h => ?_⟩
  change (sh1 f).map (fun s => frzP E0 f s) = some p at h
  cases hs : sh1 f with
  | none => rw [hs] at h; cases h
  | some s => rw [hs] at h; cases h; exact frz_ok sound f s
end Go.Proofs.YtckfbfgfjlgmeaaGreatDoor.Ev
