/- The laws' own environment: what they call answers as it does in the environment below, told by itself. -/
import Derived.Test.YtlmjoimjdpfamaaGreatEvE
import Derived.Test.YtlmjoimjdpfamaaGreatEvBD
set_option linter.unusedVariables false
namespace Go.Proofs.YtlmjoimjdpfamaaGreat.Ev
def fn1 : Nat → Option LFunc := fun n => match n with | 3 => some L3 | _ => none
def sh1 : Nat → Option Sh := fun n => match n with | 4 => some (.res (.one none)) | 5 => some (.tup [(.one none), (.one (some 4)), (.one (some 1))]) | 6 => some (.tup [(.one (some 3)), (.one none)]) | 7 => some (.tup [(.one (some 3)), (.one none)]) | 8 => some (.tup [(.one none), (.one none)]) | 9 => some (.tup [(.one none), (.one none)]) | 10 => some (.tup [(.one (some 1)), (.one none), (.one none)]) | 11 => some (.tup [(.one (some 1)), (.one none), (.one none)]) | 12 => some (.res (.one none)) | 13 => some (.tup [(.one (some 1)), (.one none)]) | 14 => some (.tup [(.one (some 1)), (.one none)]) | 15 => some (.tup [(.one none), (.one none), (.one none)]) | 16 => some (.tup [(.one none), (.one none)]) | 17 => some (.tup [(.one none), (.one none)]) | 18 => some (.tup [(.one none), (.one none)]) | 19 => some (.tup [(.one none), (.one none)]) | 20 => some (.tup [(.one (some 1)), (.one none)]) | _ => none
noncomputable def E1 : Env := ⟨fun _ => false, fn1, fun n => (sh1 n).map fun s => frzP E0 n s⟩
@[simp] theorem opn1 (f : Nat) : E1.opn f = false := rfl
theorem g3 (xs : List AV) (H : Hp) : ev E1 3 xs H = runF E1 (ev E1) loopW L3 xs H := ev_eq E1 3 xs H
theorem g4 (xs : List AV) (H : Hp) : ev E1 4 xs H = frzP E0 4 (.res (.one none)) xs H := ev_eq E1 4 xs H
theorem g5 (xs : List AV) (H : Hp) : ev E1 5 xs H = frzP E0 5 (.tup [(.one none), (.one (some 4)), (.one (some 1))]) xs H := ev_eq E1 5 xs H
theorem g6 (xs : List AV) (H : Hp) : ev E1 6 xs H = frzP E0 6 (.tup [(.one (some 3)), (.one none)]) xs H := ev_eq E1 6 xs H
theorem g7 (xs : List AV) (H : Hp) : ev E1 7 xs H = frzP E0 7 (.tup [(.one (some 3)), (.one none)]) xs H := ev_eq E1 7 xs H
theorem g8 (xs : List AV) (H : Hp) : ev E1 8 xs H = frzP E0 8 (.tup [(.one none), (.one none)]) xs H := ev_eq E1 8 xs H
theorem g9 (xs : List AV) (H : Hp) : ev E1 9 xs H = frzP E0 9 (.tup [(.one none), (.one none)]) xs H := ev_eq E1 9 xs H
theorem g10 (xs : List AV) (H : Hp) : ev E1 10 xs H = frzP E0 10 (.tup [(.one (some 1)), (.one none), (.one none)]) xs H := ev_eq E1 10 xs H
theorem g11 (xs : List AV) (H : Hp) : ev E1 11 xs H = frzP E0 11 (.tup [(.one (some 1)), (.one none), (.one none)]) xs H := ev_eq E1 11 xs H
theorem g12 (xs : List AV) (H : Hp) : ev E1 12 xs H = frzP E0 12 (.res (.one none)) xs H := ev_eq E1 12 xs H
theorem g13 (xs : List AV) (H : Hp) : ev E1 13 xs H = frzP E0 13 (.tup [(.one (some 1)), (.one none)]) xs H := ev_eq E1 13 xs H
theorem g14 (xs : List AV) (H : Hp) : ev E1 14 xs H = frzP E0 14 (.tup [(.one (some 1)), (.one none)]) xs H := ev_eq E1 14 xs H
theorem g15 (xs : List AV) (H : Hp) : ev E1 15 xs H = frzP E0 15 (.tup [(.one none), (.one none), (.one none)]) xs H := ev_eq E1 15 xs H
theorem g16 (xs : List AV) (H : Hp) : ev E1 16 xs H = frzP E0 16 (.tup [(.one none), (.one none)]) xs H := ev_eq E1 16 xs H
theorem g17 (xs : List AV) (H : Hp) : ev E1 17 xs H = frzP E0 17 (.tup [(.one none), (.one none)]) xs H := ev_eq E1 17 xs H
theorem g18 (xs : List AV) (H : Hp) : ev E1 18 xs H = frzP E0 18 (.tup [(.one none), (.one none)]) xs H := ev_eq E1 18 xs H
theorem g19 (xs : List AV) (H : Hp) : ev E1 19 xs H = frzP E0 19 (.tup [(.one none), (.one none)]) xs H := ev_eq E1 19 xs H
theorem g20 (xs : List AV) (H : Hp) : ev E1 20 xs H = frzP E0 20 (.tup [(.one (some 1)), (.one none)]) xs H := ev_eq E1 20 xs H
theorem fn1_ok : ∀ f lf, fn1 f = some lf → ∃ fn lv, Go.Proofs.Tryz.prog.funcs[f]? = some fn ∧ compF Go.Proofs.Tryz.prog lv fn = some lf := by
  intro f lf h
  unfold fn1 at h
  split at h
  · cases h; exact ⟨_, _, Go.Proofs.Tryz.func3, c3⟩
  · cases h
theorem sound1 : CS Go.Proofs.Tryz.prog gw0 GW (ev E1) := by
  refine ev_sound gw_low mixed ⟨fn1_ok, fun f p h => ?_⟩
  change (sh1 f).map (fun s => frzP E0 f s) = some p at h
  cases hs : sh1 f with
  | none => rw [hs] at h; cases h
  | some s => rw [hs] at h; cases h; exact frz_ok sound f s
end Go.Proofs.YtlmjoimjdpfamaaGreat.Ev
