/- The functions of the program as an environment of the evaluator. -/
import Derived.Test.YtckfbfgfjlgmeaaGreatDoorEvL0
import Derived.Test.YtckfbfgfjlgmeaaGreatDoorEvBD
import Derived.Test.YtckfbfgfjlgmeaaGreatDoorEvPrim
set_option linter.unusedVariables false
namespace Go.Proofs.YtckfbfgfjlgmeaaGreatDoor.Ev
def opnOf : Nat → Bool := fun n => [142, 81, 80, 157, 104, 102, 115, 79, 160, 128, 78, 166, 137, 138, 174, 175, 148, 149, 150, 151, 198, 190, 213, 218, 225, 216, 206, 199, 227, 219, 207, 200, 208, 201, 191, 176, 211, 192, 177, 153, 155, 193].contains n
def fnOf : Nat → Option LFunc := fun n => match n with | 6 => some L6 | 142 => some L142 | 81 => some L81 | 85 => some L85 | 80 => some L80 | 157 => some L157 | 104 => some L104 | 108 => some L108 | 156 => some L156 | 102 => some L102 | 115 => some L115 | 89 => some L89 | 112 => some L112 | 163 => some L163 | 125 => some L125 | 79 => some L79 | 84 => some L84 | 107 => some L107 | 96 => some L96 | 121 => some L121 | 122 => some L122 | 165 => some L165 | 160 => some L160 | 128 => some L128 | 133 => some L133 | 141 => some L141 | 78 => some L78 | 73 => some L73 | 7 => some L7 | 10 => some L10 | 74 => some L74 | 8 => some L8 | 75 => some L75 | 76 => some L76 | 9 => some L9 | 11 => some L11 | 12 => some L12 | 82 => some L82 | 83 => some L83 | 13 => some L13 | 14 => some L14 | 15 => some L15 | 87 => some L87 | 16 => some L16 | 17 => some L17 | 88 => some L88 | 18 => some L18 | 19 => some L19 | 90 => some L90 | 20 => some L20 | 91 => some L91 | 21 => some L21 | 22 => some L22 | 23 => some L23 | 24 => some L24 | 25 => some L25 | 26 => some L26 | 27 => some L27 | 28 => some L28 | 3 => some L3 | _ => none
def primOf : Nat → Option (List AV → Hp → Option (AV × Hp)) := fun n => match n with | 77 => some trimP | 116 => some splitP | 113 => some joinP | 86 => some countP | 92 => some repeatP | _ => none
def E0 : Env := ⟨opnOf, fnOf, primOf⟩
theorem e6 (xs : List AV) (H : Hp) : ev E0 6 xs H = runF E0 (ev E0) loopW L6 xs H := ev_eq E0 6 xs H
@[simp] theorem o6 : E0.opn 6 = false := rfl
theorem e142 (xs : List AV) (H : Hp) : ev E0 142 xs H = runF E0 (ev E0) loopW L142 xs H := ev_eq E0 142 xs H
@[simp] theorem o142 : E0.opn 142 = true := rfl
theorem e81 (xs : List AV) (H : Hp) : ev E0 81 xs H = runF E0 (ev E0) loopW L81 xs H := ev_eq E0 81 xs H
@[simp] theorem o81 : E0.opn 81 = true := rfl
theorem e85 (xs : List AV) (H : Hp) : ev E0 85 xs H = runF E0 (ev E0) loopW L85 xs H := ev_eq E0 85 xs H
@[simp] theorem o85 : E0.opn 85 = false := rfl
theorem e80 (xs : List AV) (H : Hp) : ev E0 80 xs H = runF E0 (ev E0) loopW L80 xs H := ev_eq E0 80 xs H
@[simp] theorem o80 : E0.opn 80 = true := rfl
theorem e157 (xs : List AV) (H : Hp) : ev E0 157 xs H = runF E0 (ev E0) loopW L157 xs H := ev_eq E0 157 xs H
@[simp] theorem o157 : E0.opn 157 = true := rfl
theorem e104 (xs : List AV) (H : Hp) : ev E0 104 xs H = runF E0 (ev E0) loopW L104 xs H := ev_eq E0 104 xs H
@[simp] theorem o104 : E0.opn 104 = true := rfl
theorem e108 (xs : List AV) (H : Hp) : ev E0 108 xs H = runF E0 (ev E0) loopW L108 xs H := ev_eq E0 108 xs H
@[simp] theorem o108 : E0.opn 108 = false := rfl
theorem e156 (xs : List AV) (H : Hp) : ev E0 156 xs H = runF E0 (ev E0) loopW L156 xs H := ev_eq E0 156 xs H
@[simp] theorem o156 : E0.opn 156 = false := rfl
theorem e102 (xs : List AV) (H : Hp) : ev E0 102 xs H = runF E0 (ev E0) loopW L102 xs H := ev_eq E0 102 xs H
@[simp] theorem o102 : E0.opn 102 = true := rfl
theorem e115 (xs : List AV) (H : Hp) : ev E0 115 xs H = runF E0 (ev E0) loopW L115 xs H := ev_eq E0 115 xs H
@[simp] theorem o115 : E0.opn 115 = true := rfl
theorem e89 (xs : List AV) (H : Hp) : ev E0 89 xs H = runF E0 (ev E0) loopW L89 xs H := ev_eq E0 89 xs H
@[simp] theorem o89 : E0.opn 89 = false := rfl
theorem e112 (xs : List AV) (H : Hp) : ev E0 112 xs H = runF E0 (ev E0) loopW L112 xs H := ev_eq E0 112 xs H
@[simp] theorem o112 : E0.opn 112 = false := rfl
theorem e163 (xs : List AV) (H : Hp) : ev E0 163 xs H = runF E0 (ev E0) loopW L163 xs H := ev_eq E0 163 xs H
@[simp] theorem o163 : E0.opn 163 = false := rfl
theorem e125 (xs : List AV) (H : Hp) : ev E0 125 xs H = runF E0 (ev E0) loopW L125 xs H := ev_eq E0 125 xs H
@[simp] theorem o125 : E0.opn 125 = false := rfl
theorem e79 (xs : List AV) (H : Hp) : ev E0 79 xs H = runF E0 (ev E0) loopW L79 xs H := ev_eq E0 79 xs H
@[simp] theorem o79 : E0.opn 79 = true := rfl
theorem e84 (xs : List AV) (H : Hp) : ev E0 84 xs H = runF E0 (ev E0) loopW L84 xs H := ev_eq E0 84 xs H
@[simp] theorem o84 : E0.opn 84 = false := rfl
theorem e107 (xs : List AV) (H : Hp) : ev E0 107 xs H = runF E0 (ev E0) loopW L107 xs H := ev_eq E0 107 xs H
@[simp] theorem o107 : E0.opn 107 = false := rfl
theorem e96 (xs : List AV) (H : Hp) : ev E0 96 xs H = runF E0 (ev E0) loopW L96 xs H := ev_eq E0 96 xs H
@[simp] theorem o96 : E0.opn 96 = false := rfl
theorem e121 (xs : List AV) (H : Hp) : ev E0 121 xs H = runF E0 (ev E0) loopW L121 xs H := ev_eq E0 121 xs H
@[simp] theorem o121 : E0.opn 121 = false := rfl
theorem e122 (xs : List AV) (H : Hp) : ev E0 122 xs H = runF E0 (ev E0) loopW L122 xs H := ev_eq E0 122 xs H
@[simp] theorem o122 : E0.opn 122 = false := rfl
theorem e165 (xs : List AV) (H : Hp) : ev E0 165 xs H = runF E0 (ev E0) loopW L165 xs H := ev_eq E0 165 xs H
@[simp] theorem o165 : E0.opn 165 = false := rfl
theorem e160 (xs : List AV) (H : Hp) : ev E0 160 xs H = runF E0 (ev E0) loopW L160 xs H := ev_eq E0 160 xs H
@[simp] theorem o160 : E0.opn 160 = true := rfl
theorem e128 (xs : List AV) (H : Hp) : ev E0 128 xs H = runF E0 (ev E0) loopW L128 xs H := ev_eq E0 128 xs H
@[simp] theorem o128 : E0.opn 128 = true := rfl
theorem e133 (xs : List AV) (H : Hp) : ev E0 133 xs H = runF E0 (ev E0) loopW L133 xs H := ev_eq E0 133 xs H
@[simp] theorem o133 : E0.opn 133 = false := rfl
theorem e141 (xs : List AV) (H : Hp) : ev E0 141 xs H = runF E0 (ev E0) loopW L141 xs H := ev_eq E0 141 xs H
@[simp] theorem o141 : E0.opn 141 = false := rfl
theorem e78 (xs : List AV) (H : Hp) : ev E0 78 xs H = runF E0 (ev E0) loopW L78 xs H := ev_eq E0 78 xs H
@[simp] theorem o78 : E0.opn 78 = true := rfl
theorem e73 (xs : List AV) (H : Hp) : ev E0 73 xs H = runF E0 (ev E0) loopW L73 xs H := ev_eq E0 73 xs H
@[simp] theorem o73 : E0.opn 73 = false := rfl
theorem e7 (xs : List AV) (H : Hp) : ev E0 7 xs H = runF E0 (ev E0) loopW L7 xs H := ev_eq E0 7 xs H
@[simp] theorem o7 : E0.opn 7 = false := rfl
theorem e10 (xs : List AV) (H : Hp) : ev E0 10 xs H = runF E0 (ev E0) loopW L10 xs H := ev_eq E0 10 xs H
@[simp] theorem o10 : E0.opn 10 = false := rfl
theorem e74 (xs : List AV) (H : Hp) : ev E0 74 xs H = runF E0 (ev E0) loopW L74 xs H := ev_eq E0 74 xs H
@[simp] theorem o74 : E0.opn 74 = false := rfl
theorem e8 (xs : List AV) (H : Hp) : ev E0 8 xs H = runF E0 (ev E0) loopW L8 xs H := ev_eq E0 8 xs H
@[simp] theorem o8 : E0.opn 8 = false := rfl
theorem e75 (xs : List AV) (H : Hp) : ev E0 75 xs H = runF E0 (ev E0) loopW L75 xs H := ev_eq E0 75 xs H
@[simp] theorem o75 : E0.opn 75 = false := rfl
theorem e76 (xs : List AV) (H : Hp) : ev E0 76 xs H = runF E0 (ev E0) loopW L76 xs H := ev_eq E0 76 xs H
@[simp] theorem o76 : E0.opn 76 = false := rfl
theorem e9 (xs : List AV) (H : Hp) : ev E0 9 xs H = runF E0 (ev E0) loopW L9 xs H := ev_eq E0 9 xs H
@[simp] theorem o9 : E0.opn 9 = false := rfl
theorem e11 (xs : List AV) (H : Hp) : ev E0 11 xs H = runF E0 (ev E0) loopW L11 xs H := ev_eq E0 11 xs H
@[simp] theorem o11 : E0.opn 11 = false := rfl
theorem e12 (xs : List AV) (H : Hp) : ev E0 12 xs H = runF E0 (ev E0) loopW L12 xs H := ev_eq E0 12 xs H
@[simp] theorem o12 : E0.opn 12 = false := rfl
theorem e82 (xs : List AV) (H : Hp) : ev E0 82 xs H = runF E0 (ev E0) loopW L82 xs H := ev_eq E0 82 xs H
@[simp] theorem o82 : E0.opn 82 = false := rfl
theorem e83 (xs : List AV) (H : Hp) : ev E0 83 xs H = runF E0 (ev E0) loopW L83 xs H := ev_eq E0 83 xs H
@[simp] theorem o83 : E0.opn 83 = false := rfl
theorem e13 (xs : List AV) (H : Hp) : ev E0 13 xs H = runF E0 (ev E0) loopW L13 xs H := ev_eq E0 13 xs H
@[simp] theorem o13 : E0.opn 13 = false := rfl
theorem e14 (xs : List AV) (H : Hp) : ev E0 14 xs H = runF E0 (ev E0) loopW L14 xs H := ev_eq E0 14 xs H
@[simp] theorem o14 : E0.opn 14 = false := rfl
theorem e15 (xs : List AV) (H : Hp) : ev E0 15 xs H = runF E0 (ev E0) loopW L15 xs H := ev_eq E0 15 xs H
@[simp] theorem o15 : E0.opn 15 = false := rfl
theorem e87 (xs : List AV) (H : Hp) : ev E0 87 xs H = runF E0 (ev E0) loopW L87 xs H := ev_eq E0 87 xs H
@[simp] theorem o87 : E0.opn 87 = false := rfl
theorem e16 (xs : List AV) (H : Hp) : ev E0 16 xs H = runF E0 (ev E0) loopW L16 xs H := ev_eq E0 16 xs H
@[simp] theorem o16 : E0.opn 16 = false := rfl
theorem e17 (xs : List AV) (H : Hp) : ev E0 17 xs H = runF E0 (ev E0) loopW L17 xs H := ev_eq E0 17 xs H
@[simp] theorem o17 : E0.opn 17 = false := rfl
theorem e88 (xs : List AV) (H : Hp) : ev E0 88 xs H = runF E0 (ev E0) loopW L88 xs H := ev_eq E0 88 xs H
@[simp] theorem o88 : E0.opn 88 = false := rfl
theorem e18 (xs : List AV) (H : Hp) : ev E0 18 xs H = runF E0 (ev E0) loopW L18 xs H := ev_eq E0 18 xs H
@[simp] theorem o18 : E0.opn 18 = false := rfl
theorem e19 (xs : List AV) (H : Hp) : ev E0 19 xs H = runF E0 (ev E0) loopW L19 xs H := ev_eq E0 19 xs H
@[simp] theorem o19 : E0.opn 19 = false := rfl
theorem e90 (xs : List AV) (H : Hp) : ev E0 90 xs H = runF E0 (ev E0) loopW L90 xs H := ev_eq E0 90 xs H
@[simp] theorem o90 : E0.opn 90 = false := rfl
theorem e20 (xs : List AV) (H : Hp) : ev E0 20 xs H = runF E0 (ev E0) loopW L20 xs H := ev_eq E0 20 xs H
@[simp] theorem o20 : E0.opn 20 = false := rfl
theorem e91 (xs : List AV) (H : Hp) : ev E0 91 xs H = runF E0 (ev E0) loopW L91 xs H := ev_eq E0 91 xs H
@[simp] theorem o91 : E0.opn 91 = false := rfl
theorem e21 (xs : List AV) (H : Hp) : ev E0 21 xs H = runF E0 (ev E0) loopW L21 xs H := ev_eq E0 21 xs H
@[simp] theorem o21 : E0.opn 21 = false := rfl
theorem e22 (xs : List AV) (H : Hp) : ev E0 22 xs H = runF E0 (ev E0) loopW L22 xs H := ev_eq E0 22 xs H
@[simp] theorem o22 : E0.opn 22 = false := rfl
theorem e23 (xs : List AV) (H : Hp) : ev E0 23 xs H = runF E0 (ev E0) loopW L23 xs H := ev_eq E0 23 xs H
@[simp] theorem o23 : E0.opn 23 = false := rfl
theorem e24 (xs : List AV) (H : Hp) : ev E0 24 xs H = runF E0 (ev E0) loopW L24 xs H := ev_eq E0 24 xs H
@[simp] theorem o24 : E0.opn 24 = false := rfl
theorem e25 (xs : List AV) (H : Hp) : ev E0 25 xs H = runF E0 (ev E0) loopW L25 xs H := ev_eq E0 25 xs H
@[simp] theorem o25 : E0.opn 25 = false := rfl
theorem e26 (xs : List AV) (H : Hp) : ev E0 26 xs H = runF E0 (ev E0) loopW L26 xs H := ev_eq E0 26 xs H
@[simp] theorem o26 : E0.opn 26 = false := rfl
theorem e27 (xs : List AV) (H : Hp) : ev E0 27 xs H = runF E0 (ev E0) loopW L27 xs H := ev_eq E0 27 xs H
@[simp] theorem o27 : E0.opn 27 = false := rfl
theorem e28 (xs : List AV) (H : Hp) : ev E0 28 xs H = runF E0 (ev E0) loopW L28 xs H := ev_eq E0 28 xs H
@[simp] theorem o28 : E0.opn 28 = false := rfl
theorem e3 (xs : List AV) (H : Hp) : ev E0 3 xs H = runF E0 (ev E0) loopW L3 xs H := ev_eq E0 3 xs H
@[simp] theorem o3 : E0.opn 3 = false := rfl
theorem e77 (xs : List AV) (H : Hp) : ev E0 77 xs H = trimP xs H := ev_eq E0 77 xs H
@[simp] theorem o77 : E0.opn 77 = false := rfl
theorem e116 (xs : List AV) (H : Hp) : ev E0 116 xs H = splitP xs H := ev_eq E0 116 xs H
@[simp] theorem o116 : E0.opn 116 = false := rfl
theorem e113 (xs : List AV) (H : Hp) : ev E0 113 xs H = joinP xs H := ev_eq E0 113 xs H
@[simp] theorem o113 : E0.opn 113 = false := rfl
theorem e86 (xs : List AV) (H : Hp) : ev E0 86 xs H = countP xs H := ev_eq E0 86 xs H
@[simp] theorem o86 : E0.opn 86 = false := rfl
theorem e92 (xs : List AV) (H : Hp) : ev E0 92 xs H = repeatP xs H := ev_eq E0 92 xs H
@[simp] theorem o92 : E0.opn 92 = false := rfl
theorem mixed : Go.Proofs.Tryz.prog.follows .mixedOrders = true := by kernel_rfl
set_option maxHeartbeats 8000000 in
theorem envFn : ∀ f lf, fnOf f = some lf → ∃ fn lv, Go.Proofs.Tryz.prog.funcs[f]? = some fn ∧ compF Go.Proofs.Tryz.prog lv fn = some lf := by
  intro f lf h
  unfold fnOf at h
  split at h
  · cases h; exact ⟨_, _, Go.Proofs.Tryz.func6, c6⟩
  · cases h; exact ⟨_, _, Go.Proofs.Tryz.func142, c142⟩
  · cases h; exact ⟨_, _, Go.Proofs.Tryz.func81, c81⟩
  · cases h; exact ⟨_, _, Go.Proofs.Tryz.func85, c85⟩
  · cases h; exact ⟨_, _, Go.Proofs.Tryz.func80, c80⟩
  · cases h; exact ⟨_, _, Go.Proofs.Tryz.func157, c157⟩
  · cases h; exact ⟨_, _, Go.Proofs.Tryz.func104, c104⟩
  · cases h; exact ⟨_, _, Go.Proofs.Tryz.func108, c108⟩
  · cases h; exact ⟨_, _, Go.Proofs.Tryz.func156, c156⟩
  · cases h; exact ⟨_, _, Go.Proofs.Tryz.func102, c102⟩
  · cases h; exact ⟨_, _, Go.Proofs.Tryz.func115, c115⟩
  · cases h; exact ⟨_, _, Go.Proofs.Tryz.func89, c89⟩
  · cases h; exact ⟨_, _, Go.Proofs.Tryz.func112, c112⟩
  · cases h; exact ⟨_, _, Go.Proofs.Tryz.func163, c163⟩
  · cases h; exact ⟨_, _, Go.Proofs.Tryz.func125, c125⟩
  · cases h; exact ⟨_, _, Go.Proofs.Tryz.func79, c79⟩
  · cases h; exact ⟨_, _, Go.Proofs.Tryz.func84, c84⟩
  · cases h; exact ⟨_, _, Go.Proofs.Tryz.func107, c107⟩
  · cases h; exact ⟨_, _, Go.Proofs.Tryz.func96, c96⟩
  · cases h; exact ⟨_, _, Go.Proofs.Tryz.func121, c121⟩
  · cases h; exact ⟨_, _, Go.Proofs.Tryz.func122, c122⟩
  · cases h; exact ⟨_, _, Go.Proofs.Tryz.func165, c165⟩
  · cases h; exact ⟨_, _, Go.Proofs.Tryz.func160, c160⟩
  · cases h; exact ⟨_, _, Go.Proofs.Tryz.func128, c128⟩
  · cases h; exact ⟨_, _, Go.Proofs.Tryz.func133, c133⟩
  · cases h; exact ⟨_, _, Go.Proofs.Tryz.func141, c141⟩
  · cases h; exact ⟨_, _, Go.Proofs.Tryz.func78, c78⟩
  · cases h; exact ⟨_, _, Go.Proofs.Tryz.func73, c73⟩
  · cases h; exact ⟨_, _, Go.Proofs.Tryz.func7, c7⟩
  · cases h; exact ⟨_, _, Go.Proofs.Tryz.func10, c10⟩
  · cases h; exact ⟨_, _, Go.Proofs.Tryz.func74, c74⟩
  · cases h; exact ⟨_, _, Go.Proofs.Tryz.func8, c8⟩
  · cases h; exact ⟨_, _, Go.Proofs.Tryz.func75, c75⟩
  · cases h; exact ⟨_, _, Go.Proofs.Tryz.func76, c76⟩
  · cases h; exact ⟨_, _, Go.Proofs.Tryz.func9, c9⟩
  · cases h; exact ⟨_, _, Go.Proofs.Tryz.func11, c11⟩
  · cases h; exact ⟨_, _, Go.Proofs.Tryz.func12, c12⟩
  · cases h; exact ⟨_, _, Go.Proofs.Tryz.func82, c82⟩
  · cases h; exact ⟨_, _, Go.Proofs.Tryz.func83, c83⟩
  · cases h; exact ⟨_, _, Go.Proofs.Tryz.func13, c13⟩
  · cases h; exact ⟨_, _, Go.Proofs.Tryz.func14, c14⟩
  · cases h; exact ⟨_, _, Go.Proofs.Tryz.func15, c15⟩
  · cases h; exact ⟨_, _, Go.Proofs.Tryz.func87, c87⟩
  · cases h; exact ⟨_, _, Go.Proofs.Tryz.func16, c16⟩
  · cases h; exact ⟨_, _, Go.Proofs.Tryz.func17, c17⟩
  · cases h; exact ⟨_, _, Go.Proofs.Tryz.func88, c88⟩
  · cases h; exact ⟨_, _, Go.Proofs.Tryz.func18, c18⟩
  · cases h; exact ⟨_, _, Go.Proofs.Tryz.func19, c19⟩
  · cases h; exact ⟨_, _, Go.Proofs.Tryz.func90, c90⟩
  · cases h; exact ⟨_, _, Go.Proofs.Tryz.func20, c20⟩
  · cases h; exact ⟨_, _, Go.Proofs.Tryz.func91, c91⟩
  · cases h; exact ⟨_, _, Go.Proofs.Tryz.func21, c21⟩
  · cases h; exact ⟨_, _, Go.Proofs.Tryz.func22, c22⟩
  · cases h; exact ⟨_, _, Go.Proofs.Tryz.func23, c23⟩
  · cases h; exact ⟨_, _, Go.Proofs.Tryz.func24, c24⟩
  · cases h; exact ⟨_, _, Go.Proofs.Tryz.func25, c25⟩
  · cases h; exact ⟨_, _, Go.Proofs.Tryz.func26, c26⟩
  · cases h; exact ⟨_, _, Go.Proofs.Tryz.func27, c27⟩
  · cases h; exact ⟨_, _, Go.Proofs.Tryz.func28, c28⟩
  · cases h; exact ⟨_, _, Go.Proofs.Tryz.func3, c3⟩
  · cases h
set_option maxHeartbeats 8000000 in
theorem sound : CS Go.Proofs.Tryz.prog gw0 GW (ev E0) := by
  refine ev_sound gw_low mixed ⟨envFn, fun f p h => ?_⟩
  change primOf f = some p at h
  unfold primOf at h
  split at h
  · cases h; exact trim_ok
  · cases h; exact split_ok
  · cases h; exact join_ok
  · cases h; exact count_ok
  · cases h; exact repeat_ok
  · cases h
end Go.Proofs.YtckfbfgfjlgmeaaGreatDoor.Ev
