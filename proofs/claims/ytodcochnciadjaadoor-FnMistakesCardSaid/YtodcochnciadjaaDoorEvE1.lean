/- The laws' own environment: what they call answers as it does in the environment below, told by itself. -/
import Derived.Test.YtodcochnciadjaaDoorEvE
import Derived.Test.YtodcochnciadjaaDoorEvBD
set_option linter.unusedVariables false
namespace Go.Proofs.YtodcochnciadjaaDoor.Ev
def fn1 : Nat → Option LFunc := fun n => match n with | 3 => some L3 | 4 => some L4 | _ => none
def sh1 : Nat → Option Sh := fun n => match n with | 5 => some (.res (.one none)) | 6 => some (.res (.agg [some 1])) | 7 => some (.tup [(.one none), (.one none)]) | 8 => some (.tup [(.one none), (.one none)]) | 9 => some (.res (.one none)) | 10 => some (.tup [(.one none), (.one none)]) | 11 => some (.tup [(.one none), (.one none)]) | 12 => some (.tup [(.one (some 2)), (.one none)]) | 13 => some (.tup [(.one (some 2)), (.one none)]) | 14 => some (.res (.one none)) | 15 => some (.tup [(.one none), (.one none)]) | 16 => some (.tup [(.one none), (.one none)]) | 17 => some (.tup [(.agg [some 1]), (.one none), (.one none)]) | 18 => some (.tup [(.one (some 1)), (.one none)]) | 19 => some (.tup [(.one (some 1)), (.one none)]) | 20 => some (.res (.one none)) | 21 => some (.res (.agg [some 1])) | 22 => some (.tup [(.one (some 3)), (.one none)]) | 23 => some (.tup [(.one (some 3)), (.one none)]) | 24 => some (.tup [(.agg [some 1]), (.one none)]) | 25 => some (.tup [(.one (some 2)), (.one none)]) | 26 => some (.tup [(.one (some 2)), (.one none)]) | 27 => some (.res (.agg [some 1])) | 28 => some (.tup [(.one (some 1)), (.one none)]) | 29 => some (.tup [(.one (some 1)), (.one none)]) | 30 => some (.tup [(.agg [some 1]), (.one none), (.one none)]) | 31 => some (.tup [(.one (some 1)), (.one none)]) | 32 => some (.tup [(.one (some 1)), (.one none)]) | 33 => some (.tup [(.one none), (.one none)]) | 34 => some (.tup [(.one none), (.one none)]) | 35 => some (.tup [(.one none), (.one none)]) | 36 => some (.tup [(.agg [some 1]), (.one none)]) | 37 => some (.tup [(.one (some 1)), (.one none), (.one none)]) | 38 => some (.tup [(.one (some 1)), (.one none), (.one none)]) | 39 => some (.res (.agg [some 1])) | 40 => some (.tup [(.agg [some 1]), (.one none)]) | 41 => some (.tup [(.agg [some 1]), (.one none)]) | 42 => some (.res (.one none)) | 43 => some (.tup [(.agg [some 1]), (.one none)]) | 44 => some (.tup [(.one none), (.one none), (.one none)]) | 45 => some (.tup [(.one none), (.one none), (.one none)]) | 46 => some (.tup [(.one none), (.one none)]) | 47 => some (.res (.one none)) | _ => none
noncomputable def E1 : Env := ⟨fun _ => false, fn1, fun n => (sh1 n).map fun s => frzP E0 n s⟩
@[simp] theorem opn1 (f : Nat) : E1.opn f = false := rfl
theorem g3 (xs : List AV) (H : Hp) : ev E1 3 xs H = runF E1 (ev E1) loopW L3 xs H := ev_eq E1 3 xs H
theorem g4 (xs : List AV) (H : Hp) : ev E1 4 xs H = runF E1 (ev E1) loopW L4 xs H := ev_eq E1 4 xs H
theorem g5 (xs : List AV) (H : Hp) : ev E1 5 xs H = frzP E0 5 (.res (.one none)) xs H := ev_eq E1 5 xs H
theorem g6 (xs : List AV) (H : Hp) : ev E1 6 xs H = frzP E0 6 (.res (.agg [some 1])) xs H := ev_eq E1 6 xs H
theorem g7 (xs : List AV) (H : Hp) : ev E1 7 xs H = frzP E0 7 (.tup [(.one none), (.one none)]) xs H := ev_eq E1 7 xs H
theorem g8 (xs : List AV) (H : Hp) : ev E1 8 xs H = frzP E0 8 (.tup [(.one none), (.one none)]) xs H := ev_eq E1 8 xs H
theorem g9 (xs : List AV) (H : Hp) : ev E1 9 xs H = frzP E0 9 (.res (.one none)) xs H := ev_eq E1 9 xs H
theorem g10 (xs : List AV) (H : Hp) : ev E1 10 xs H = frzP E0 10 (.tup [(.one none), (.one none)]) xs H := ev_eq E1 10 xs H
theorem g11 (xs : List AV) (H : Hp) : ev E1 11 xs H = frzP E0 11 (.tup [(.one none), (.one none)]) xs H := ev_eq E1 11 xs H
theorem g12 (xs : List AV) (H : Hp) : ev E1 12 xs H = frzP E0 12 (.tup [(.one (some 2)), (.one none)]) xs H := ev_eq E1 12 xs H
theorem g13 (xs : List AV) (H : Hp) : ev E1 13 xs H = frzP E0 13 (.tup [(.one (some 2)), (.one none)]) xs H := ev_eq E1 13 xs H
theorem g14 (xs : List AV) (H : Hp) : ev E1 14 xs H = frzP E0 14 (.res (.one none)) xs H := ev_eq E1 14 xs H
theorem g15 (xs : List AV) (H : Hp) : ev E1 15 xs H = frzP E0 15 (.tup [(.one none), (.one none)]) xs H := ev_eq E1 15 xs H
theorem g16 (xs : List AV) (H : Hp) : ev E1 16 xs H = frzP E0 16 (.tup [(.one none), (.one none)]) xs H := ev_eq E1 16 xs H
theorem g17 (xs : List AV) (H : Hp) : ev E1 17 xs H = frzP E0 17 (.tup [(.agg [some 1]), (.one none), (.one none)]) xs H := ev_eq E1 17 xs H
theorem g18 (xs : List AV) (H : Hp) : ev E1 18 xs H = frzP E0 18 (.tup [(.one (some 1)), (.one none)]) xs H := ev_eq E1 18 xs H
theorem g19 (xs : List AV) (H : Hp) : ev E1 19 xs H = frzP E0 19 (.tup [(.one (some 1)), (.one none)]) xs H := ev_eq E1 19 xs H
theorem g20 (xs : List AV) (H : Hp) : ev E1 20 xs H = frzP E0 20 (.res (.one none)) xs H := ev_eq E1 20 xs H
theorem g21 (xs : List AV) (H : Hp) : ev E1 21 xs H = frzP E0 21 (.res (.agg [some 1])) xs H := ev_eq E1 21 xs H
theorem g22 (xs : List AV) (H : Hp) : ev E1 22 xs H = frzP E0 22 (.tup [(.one (some 3)), (.one none)]) xs H := ev_eq E1 22 xs H
theorem g23 (xs : List AV) (H : Hp) : ev E1 23 xs H = frzP E0 23 (.tup [(.one (some 3)), (.one none)]) xs H := ev_eq E1 23 xs H
theorem g24 (xs : List AV) (H : Hp) : ev E1 24 xs H = frzP E0 24 (.tup [(.agg [some 1]), (.one none)]) xs H := ev_eq E1 24 xs H
theorem g25 (xs : List AV) (H : Hp) : ev E1 25 xs H = frzP E0 25 (.tup [(.one (some 2)), (.one none)]) xs H := ev_eq E1 25 xs H
theorem g26 (xs : List AV) (H : Hp) : ev E1 26 xs H = frzP E0 26 (.tup [(.one (some 2)), (.one none)]) xs H := ev_eq E1 26 xs H
theorem g27 (xs : List AV) (H : Hp) : ev E1 27 xs H = frzP E0 27 (.res (.agg [some 1])) xs H := ev_eq E1 27 xs H
theorem g28 (xs : List AV) (H : Hp) : ev E1 28 xs H = frzP E0 28 (.tup [(.one (some 1)), (.one none)]) xs H := ev_eq E1 28 xs H
theorem g29 (xs : List AV) (H : Hp) : ev E1 29 xs H = frzP E0 29 (.tup [(.one (some 1)), (.one none)]) xs H := ev_eq E1 29 xs H
theorem g30 (xs : List AV) (H : Hp) : ev E1 30 xs H = frzP E0 30 (.tup [(.agg [some 1]), (.one none), (.one none)]) xs H := ev_eq E1 30 xs H
theorem g31 (xs : List AV) (H : Hp) : ev E1 31 xs H = frzP E0 31 (.tup [(.one (some 1)), (.one none)]) xs H := ev_eq E1 31 xs H
theorem g32 (xs : List AV) (H : Hp) : ev E1 32 xs H = frzP E0 32 (.tup [(.one (some 1)), (.one none)]) xs H := ev_eq E1 32 xs H
theorem g33 (xs : List AV) (H : Hp) : ev E1 33 xs H = frzP E0 33 (.tup [(.one none), (.one none)]) xs H := ev_eq E1 33 xs H
theorem g34 (xs : List AV) (H : Hp) : ev E1 34 xs H = frzP E0 34 (.tup [(.one none), (.one none)]) xs H := ev_eq E1 34 xs H
theorem g35 (xs : List AV) (H : Hp) : ev E1 35 xs H = frzP E0 35 (.tup [(.one none), (.one none)]) xs H := ev_eq E1 35 xs H
theorem g36 (xs : List AV) (H : Hp) : ev E1 36 xs H = frzP E0 36 (.tup [(.agg [some 1]), (.one none)]) xs H := ev_eq E1 36 xs H
theorem g37 (xs : List AV) (H : Hp) : ev E1 37 xs H = frzP E0 37 (.tup [(.one (some 1)), (.one none), (.one none)]) xs H := ev_eq E1 37 xs H
theorem g38 (xs : List AV) (H : Hp) : ev E1 38 xs H = frzP E0 38 (.tup [(.one (some 1)), (.one none), (.one none)]) xs H := ev_eq E1 38 xs H
theorem g39 (xs : List AV) (H : Hp) : ev E1 39 xs H = frzP E0 39 (.res (.agg [some 1])) xs H := ev_eq E1 39 xs H
theorem g40 (xs : List AV) (H : Hp) : ev E1 40 xs H = frzP E0 40 (.tup [(.agg [some 1]), (.one none)]) xs H := ev_eq E1 40 xs H
theorem g41 (xs : List AV) (H : Hp) : ev E1 41 xs H = frzP E0 41 (.tup [(.agg [some 1]), (.one none)]) xs H := ev_eq E1 41 xs H
theorem g42 (xs : List AV) (H : Hp) : ev E1 42 xs H = frzP E0 42 (.res (.one none)) xs H := ev_eq E1 42 xs H
theorem g43 (xs : List AV) (H : Hp) : ev E1 43 xs H = frzP E0 43 (.tup [(.agg [some 1]), (.one none)]) xs H := ev_eq E1 43 xs H
theorem g44 (xs : List AV) (H : Hp) : ev E1 44 xs H = frzP E0 44 (.tup [(.one none), (.one none), (.one none)]) xs H := ev_eq E1 44 xs H
theorem g45 (xs : List AV) (H : Hp) : ev E1 45 xs H = frzP E0 45 (.tup [(.one none), (.one none), (.one none)]) xs H := ev_eq E1 45 xs H
theorem g46 (xs : List AV) (H : Hp) : ev E1 46 xs H = frzP E0 46 (.tup [(.one none), (.one none)]) xs H := ev_eq E1 46 xs H
theorem g47 (xs : List AV) (H : Hp) : ev E1 47 xs H = frzP E0 47 (.res (.one none)) xs H := ev_eq E1 47 xs H
theorem fn1_ok : ∀ f lf, fn1 f = some lf → ∃ fn lv, Go.Proofs.Tryd.prog.funcs[f]? = some fn ∧ compF Go.Proofs.Tryd.prog lv fn = some lf := by
  intro f lf h
  unfold fn1 at h
  split at h
  · cases h; exact ⟨_, _, Go.Proofs.Tryd.func3, c3⟩
  · cases h; exact ⟨_, _, Go.Proofs.Tryd.func4, c4⟩
  · cases h
theorem sound1 : CS Go.Proofs.Tryd.prog gw0 GW (ev E1) := by
  refine ev_sound gw_low mixed ⟨fn1_ok, fun f p h => ?_⟩
  change (sh1 f).map (fun s => frzP E0 f s) = some p at h
  cases hs : sh1 f with
  | none => rw [hs] at h; cases h
  | some s => rw [hs] at h; cases h; exact frz_ok sound f s
end Go.Proofs.YtodcochnciadjaaDoor.Ev
