/- The functions of the program as an environment of the evaluator. -/
import Derived.Test.YtlmjoimjdpfamaaGreatEvL0
import Derived.Test.YtlmjoimjdpfamaaGreatEvBD
import Derived.Test.YtlmjoimjdpfamaaGreatEvPrim
import Derived.Test.YtlmjoimjdpfamaaGreatEvSrtH
import Derived.Test.YtlmjoimjdpfamaaGreatEvVs
set_option linter.unusedVariables false
namespace Go.Proofs.YtlmjoimjdpfamaaGreat.Ev
def opnOf : Nat → Bool := fun n => [51, 23, 26, 21, 22, 25, 94, 105, 112, 110, 109, 81, 70, 82, 111, 107, 106, 73, 61, 39, 40].contains n
def fnOf : Nat → Option LFunc := fun n => match n with | 4 => some L4 | 51 => some L51 | 23 => some L23 | 26 => some L26 | 21 => some L21 | 37 => some L37 | 50 => some L50 | 22 => some L22 | 24 => some L24 | 25 => some L25 | 5 => some L5 | 45 => some L45 | 44 => some L44 | 68 => some L68 | 52 => some L52 | 27 => some L27 | 69 => some L69 | 92 => some L92 | 55 => some L55 | 56 => some L56 | 28 => some L28 | 35 => some L35 | 72 => some L72 | 57 => some L57 | 60 => some L60 | 75 => some L75 | 76 => some L76 | 62 => some L62 | 29 => some L29 | 6 => some L6 | 47 => some L47 | 46 => some L46 | 63 => some L63 | 30 => some L30 | 64 => some L64 | 31 => some L31 | 38 => some L38 | 93 => some L93 | 77 => some L77 | 78 => some L78 | 65 => some L65 | 32 => some L32 | 7 => some L7 | 33 => some L33 | 34 => some L34 | 8 => some L8 | 36 => some L36 | 9 => some L9 | 79 => some L79 | 66 => some L66 | 67 => some L67 | 39 => some L39 | 10 => some L10 | 42 => some L42 | 43 => some L43 | 11 => some L11 | 12 => some L12 | 13 => some L13 | 14 => some L14 | 15 => some L15 | 41 => some L41 | 16 => some L16 | 17 => some L17 | 59 => some L59 | 48 => some L48 | 18 => some L18 | 49 => some L49 | 19 => some L19 | 20 => some L20 | 3 => some L3 | 40 => some L40 | 53 => some L53 | 58 => some L58 | 71 => some L71 | 54 => some L54 | _ => none
def primOf : Nat → Option (List AV → Hp → Option (AV × Hp)) := fun n => match n with | 61 => some sortHP | 70 => some sortIP | 80 => some appP | _ => none
def E0 : Env := ⟨opnOf, fnOf, primOf⟩
theorem e4 (xs : List AV) (H : Hp) : ev E0 4 xs H = runF E0 (ev E0) loopW L4 xs H := ev_eq E0 4 xs H
@[simp] theorem o4 : E0.opn 4 = false := rfl
theorem e51 (xs : List AV) (H : Hp) : ev E0 51 xs H = runF E0 (ev E0) loopW L51 xs H := ev_eq E0 51 xs H
@[simp] theorem o51 : E0.opn 51 = true := rfl
theorem e23 (xs : List AV) (H : Hp) : ev E0 23 xs H = runF E0 (ev E0) loopW L23 xs H := ev_eq E0 23 xs H
@[simp] theorem o23 : E0.opn 23 = true := rfl
theorem e26 (xs : List AV) (H : Hp) : ev E0 26 xs H = runF E0 (ev E0) loopW L26 xs H := ev_eq E0 26 xs H
@[simp] theorem o26 : E0.opn 26 = true := rfl
theorem e21 (xs : List AV) (H : Hp) : ev E0 21 xs H = runF E0 (ev E0) loopW L21 xs H := ev_eq E0 21 xs H
@[simp] theorem o21 : E0.opn 21 = true := rfl
theorem e37 (xs : List AV) (H : Hp) : ev E0 37 xs H = runF E0 (ev E0) loopW L37 xs H := ev_eq E0 37 xs H
@[simp] theorem o37 : E0.opn 37 = false := rfl
theorem e50 (xs : List AV) (H : Hp) : ev E0 50 xs H = runF E0 (ev E0) loopW L50 xs H := ev_eq E0 50 xs H
@[simp] theorem o50 : E0.opn 50 = false := rfl
theorem e22 (xs : List AV) (H : Hp) : ev E0 22 xs H = runF E0 (ev E0) loopW L22 xs H := ev_eq E0 22 xs H
@[simp] theorem o22 : E0.opn 22 = true := rfl
theorem e24 (xs : List AV) (H : Hp) : ev E0 24 xs H = runF E0 (ev E0) loopW L24 xs H := ev_eq E0 24 xs H
@[simp] theorem o24 : E0.opn 24 = false := rfl
theorem e25 (xs : List AV) (H : Hp) : ev E0 25 xs H = runF E0 (ev E0) loopW L25 xs H := ev_eq E0 25 xs H
@[simp] theorem o25 : E0.opn 25 = true := rfl
theorem e5 (xs : List AV) (H : Hp) : ev E0 5 xs H = runF E0 (ev E0) loopW L5 xs H := ev_eq E0 5 xs H
@[simp] theorem o5 : E0.opn 5 = false := rfl
theorem e45 (xs : List AV) (H : Hp) : ev E0 45 xs H = runF E0 (ev E0) loopW L45 xs H := ev_eq E0 45 xs H
@[simp] theorem o45 : E0.opn 45 = false := rfl
theorem e44 (xs : List AV) (H : Hp) : ev E0 44 xs H = runF E0 (ev E0) loopW L44 xs H := ev_eq E0 44 xs H
@[simp] theorem o44 : E0.opn 44 = false := rfl
theorem e68 (xs : List AV) (H : Hp) : ev E0 68 xs H = runF E0 (ev E0) loopW L68 xs H := ev_eq E0 68 xs H
@[simp] theorem o68 : E0.opn 68 = false := rfl
theorem e52 (xs : List AV) (H : Hp) : ev E0 52 xs H = runF E0 (ev E0) loopW L52 xs H := ev_eq E0 52 xs H
@[simp] theorem o52 : E0.opn 52 = false := rfl
theorem e27 (xs : List AV) (H : Hp) : ev E0 27 xs H = runF E0 (ev E0) loopW L27 xs H := ev_eq E0 27 xs H
@[simp] theorem o27 : E0.opn 27 = false := rfl
theorem e69 (xs : List AV) (H : Hp) : ev E0 69 xs H = runF E0 (ev E0) loopW L69 xs H := ev_eq E0 69 xs H
@[simp] theorem o69 : E0.opn 69 = false := rfl
theorem e92 (xs : List AV) (H : Hp) : ev E0 92 xs H = runF E0 (ev E0) loopW L92 xs H := ev_eq E0 92 xs H
@[simp] theorem o92 : E0.opn 92 = false := rfl
theorem e55 (xs : List AV) (H : Hp) : ev E0 55 xs H = runF E0 (ev E0) loopW L55 xs H := ev_eq E0 55 xs H
@[simp] theorem o55 : E0.opn 55 = false := rfl
theorem e56 (xs : List AV) (H : Hp) : ev E0 56 xs H = runF E0 (ev E0) loopW L56 xs H := ev_eq E0 56 xs H
@[simp] theorem o56 : E0.opn 56 = false := rfl
theorem e28 (xs : List AV) (H : Hp) : ev E0 28 xs H = runF E0 (ev E0) loopW L28 xs H := ev_eq E0 28 xs H
@[simp] theorem o28 : E0.opn 28 = false := rfl
theorem e35 (xs : List AV) (H : Hp) : ev E0 35 xs H = runF E0 (ev E0) loopW L35 xs H := ev_eq E0 35 xs H
@[simp] theorem o35 : E0.opn 35 = false := rfl
theorem e72 (xs : List AV) (H : Hp) : ev E0 72 xs H = runF E0 (ev E0) loopW L72 xs H := ev_eq E0 72 xs H
@[simp] theorem o72 : E0.opn 72 = false := rfl
theorem e57 (xs : List AV) (H : Hp) : ev E0 57 xs H = runF E0 (ev E0) loopW L57 xs H := ev_eq E0 57 xs H
@[simp] theorem o57 : E0.opn 57 = false := rfl
theorem e60 (xs : List AV) (H : Hp) : ev E0 60 xs H = runF E0 (ev E0) loopW L60 xs H := ev_eq E0 60 xs H
@[simp] theorem o60 : E0.opn 60 = false := rfl
theorem e75 (xs : List AV) (H : Hp) : ev E0 75 xs H = runF E0 (ev E0) loopW L75 xs H := ev_eq E0 75 xs H
@[simp] theorem o75 : E0.opn 75 = false := rfl
theorem e76 (xs : List AV) (H : Hp) : ev E0 76 xs H = runF E0 (ev E0) loopW L76 xs H := ev_eq E0 76 xs H
@[simp] theorem o76 : E0.opn 76 = false := rfl
theorem e62 (xs : List AV) (H : Hp) : ev E0 62 xs H = runF E0 (ev E0) loopW L62 xs H := ev_eq E0 62 xs H
@[simp] theorem o62 : E0.opn 62 = false := rfl
theorem e29 (xs : List AV) (H : Hp) : ev E0 29 xs H = runF E0 (ev E0) loopW L29 xs H := ev_eq E0 29 xs H
@[simp] theorem o29 : E0.opn 29 = false := rfl
theorem e6 (xs : List AV) (H : Hp) : ev E0 6 xs H = runF E0 (ev E0) loopW L6 xs H := ev_eq E0 6 xs H
@[simp] theorem o6 : E0.opn 6 = false := rfl
theorem e47 (xs : List AV) (H : Hp) : ev E0 47 xs H = runF E0 (ev E0) loopW L47 xs H := ev_eq E0 47 xs H
@[simp] theorem o47 : E0.opn 47 = false := rfl
theorem e46 (xs : List AV) (H : Hp) : ev E0 46 xs H = runF E0 (ev E0) loopW L46 xs H := ev_eq E0 46 xs H
@[simp] theorem o46 : E0.opn 46 = false := rfl
theorem e63 (xs : List AV) (H : Hp) : ev E0 63 xs H = runF E0 (ev E0) loopW L63 xs H := ev_eq E0 63 xs H
@[simp] theorem o63 : E0.opn 63 = false := rfl
theorem e30 (xs : List AV) (H : Hp) : ev E0 30 xs H = runF E0 (ev E0) loopW L30 xs H := ev_eq E0 30 xs H
@[simp] theorem o30 : E0.opn 30 = false := rfl
theorem e64 (xs : List AV) (H : Hp) : ev E0 64 xs H = runF E0 (ev E0) loopW L64 xs H := ev_eq E0 64 xs H
@[simp] theorem o64 : E0.opn 64 = false := rfl
theorem e31 (xs : List AV) (H : Hp) : ev E0 31 xs H = runF E0 (ev E0) loopW L31 xs H := ev_eq E0 31 xs H
@[simp] theorem o31 : E0.opn 31 = false := rfl
theorem e38 (xs : List AV) (H : Hp) : ev E0 38 xs H = runF E0 (ev E0) loopW L38 xs H := ev_eq E0 38 xs H
@[simp] theorem o38 : E0.opn 38 = false := rfl
theorem e93 (xs : List AV) (H : Hp) : ev E0 93 xs H = runF E0 (ev E0) loopW L93 xs H := ev_eq E0 93 xs H
@[simp] theorem o93 : E0.opn 93 = false := rfl
theorem e77 (xs : List AV) (H : Hp) : ev E0 77 xs H = runF E0 (ev E0) loopW L77 xs H := ev_eq E0 77 xs H
@[simp] theorem o77 : E0.opn 77 = false := rfl
theorem e78 (xs : List AV) (H : Hp) : ev E0 78 xs H = runF E0 (ev E0) loopW L78 xs H := ev_eq E0 78 xs H
@[simp] theorem o78 : E0.opn 78 = false := rfl
theorem e65 (xs : List AV) (H : Hp) : ev E0 65 xs H = runF E0 (ev E0) loopW L65 xs H := ev_eq E0 65 xs H
@[simp] theorem o65 : E0.opn 65 = false := rfl
theorem e32 (xs : List AV) (H : Hp) : ev E0 32 xs H = runF E0 (ev E0) loopW L32 xs H := ev_eq E0 32 xs H
@[simp] theorem o32 : E0.opn 32 = false := rfl
theorem e7 (xs : List AV) (H : Hp) : ev E0 7 xs H = runF E0 (ev E0) loopW L7 xs H := ev_eq E0 7 xs H
@[simp] theorem o7 : E0.opn 7 = false := rfl
theorem e33 (xs : List AV) (H : Hp) : ev E0 33 xs H = runF E0 (ev E0) loopW L33 xs H := ev_eq E0 33 xs H
@[simp] theorem o33 : E0.opn 33 = false := rfl
theorem e34 (xs : List AV) (H : Hp) : ev E0 34 xs H = runF E0 (ev E0) loopW L34 xs H := ev_eq E0 34 xs H
@[simp] theorem o34 : E0.opn 34 = false := rfl
theorem e8 (xs : List AV) (H : Hp) : ev E0 8 xs H = runF E0 (ev E0) loopW L8 xs H := ev_eq E0 8 xs H
@[simp] theorem o8 : E0.opn 8 = false := rfl
theorem e36 (xs : List AV) (H : Hp) : ev E0 36 xs H = runF E0 (ev E0) loopW L36 xs H := ev_eq E0 36 xs H
@[simp] theorem o36 : E0.opn 36 = false := rfl
theorem e9 (xs : List AV) (H : Hp) : ev E0 9 xs H = runF E0 (ev E0) loopW L9 xs H := ev_eq E0 9 xs H
@[simp] theorem o9 : E0.opn 9 = false := rfl
theorem e79 (xs : List AV) (H : Hp) : ev E0 79 xs H = runF E0 (ev E0) loopW L79 xs H := ev_eq E0 79 xs H
@[simp] theorem o79 : E0.opn 79 = false := rfl
theorem e66 (xs : List AV) (H : Hp) : ev E0 66 xs H = runF E0 (ev E0) loopW L66 xs H := ev_eq E0 66 xs H
@[simp] theorem o66 : E0.opn 66 = false := rfl
theorem e67 (xs : List AV) (H : Hp) : ev E0 67 xs H = runF E0 (ev E0) loopW L67 xs H := ev_eq E0 67 xs H
@[simp] theorem o67 : E0.opn 67 = false := rfl
theorem e39 (xs : List AV) (H : Hp) : ev E0 39 xs H = runF E0 (ev E0) loopW L39 xs H := ev_eq E0 39 xs H
@[simp] theorem o39 : E0.opn 39 = true := rfl
theorem e10 (xs : List AV) (H : Hp) : ev E0 10 xs H = runF E0 (ev E0) loopW L10 xs H := ev_eq E0 10 xs H
@[simp] theorem o10 : E0.opn 10 = false := rfl
theorem e42 (xs : List AV) (H : Hp) : ev E0 42 xs H = runF E0 (ev E0) loopW L42 xs H := ev_eq E0 42 xs H
@[simp] theorem o42 : E0.opn 42 = false := rfl
theorem e43 (xs : List AV) (H : Hp) : ev E0 43 xs H = runF E0 (ev E0) loopW L43 xs H := ev_eq E0 43 xs H
@[simp] theorem o43 : E0.opn 43 = false := rfl
theorem e11 (xs : List AV) (H : Hp) : ev E0 11 xs H = runF E0 (ev E0) loopW L11 xs H := ev_eq E0 11 xs H
@[simp] theorem o11 : E0.opn 11 = false := rfl
theorem e12 (xs : List AV) (H : Hp) : ev E0 12 xs H = runF E0 (ev E0) loopW L12 xs H := ev_eq E0 12 xs H
@[simp] theorem o12 : E0.opn 12 = false := rfl
theorem e13 (xs : List AV) (H : Hp) : ev E0 13 xs H = runF E0 (ev E0) loopW L13 xs H := ev_eq E0 13 xs H
@[simp] theorem o13 : E0.opn 13 = false := rfl
theorem e14 (xs : List AV) (H : Hp) : ev E0 14 xs H = runF E0 (ev E0) loopW L14 xs H := ev_eq E0 14 xs H
@[simp] theorem o14 : E0.opn 14 = false := rfl
theorem e15 (xs : List AV) (H : Hp) : ev E0 15 xs H = runF E0 (ev E0) loopW L15 xs H := ev_eq E0 15 xs H
@[simp] theorem o15 : E0.opn 15 = false := rfl
theorem e41 (xs : List AV) (H : Hp) : ev E0 41 xs H = runF E0 (ev E0) loopW L41 xs H := ev_eq E0 41 xs H
@[simp] theorem o41 : E0.opn 41 = false := rfl
theorem e16 (xs : List AV) (H : Hp) : ev E0 16 xs H = runF E0 (ev E0) loopW L16 xs H := ev_eq E0 16 xs H
@[simp] theorem o16 : E0.opn 16 = false := rfl
theorem e17 (xs : List AV) (H : Hp) : ev E0 17 xs H = runF E0 (ev E0) loopW L17 xs H := ev_eq E0 17 xs H
@[simp] theorem o17 : E0.opn 17 = false := rfl
theorem e59 (xs : List AV) (H : Hp) : ev E0 59 xs H = runF E0 (ev E0) loopW L59 xs H := ev_eq E0 59 xs H
@[simp] theorem o59 : E0.opn 59 = false := rfl
theorem e48 (xs : List AV) (H : Hp) : ev E0 48 xs H = runF E0 (ev E0) loopW L48 xs H := ev_eq E0 48 xs H
@[simp] theorem o48 : E0.opn 48 = false := rfl
theorem e18 (xs : List AV) (H : Hp) : ev E0 18 xs H = runF E0 (ev E0) loopW L18 xs H := ev_eq E0 18 xs H
@[simp] theorem o18 : E0.opn 18 = false := rfl
theorem e49 (xs : List AV) (H : Hp) : ev E0 49 xs H = runF E0 (ev E0) loopW L49 xs H := ev_eq E0 49 xs H
@[simp] theorem o49 : E0.opn 49 = false := rfl
theorem e19 (xs : List AV) (H : Hp) : ev E0 19 xs H = runF E0 (ev E0) loopW L19 xs H := ev_eq E0 19 xs H
@[simp] theorem o19 : E0.opn 19 = false := rfl
theorem e20 (xs : List AV) (H : Hp) : ev E0 20 xs H = runF E0 (ev E0) loopW L20 xs H := ev_eq E0 20 xs H
@[simp] theorem o20 : E0.opn 20 = false := rfl
theorem e3 (xs : List AV) (H : Hp) : ev E0 3 xs H = runF E0 (ev E0) loopW L3 xs H := ev_eq E0 3 xs H
@[simp] theorem o3 : E0.opn 3 = false := rfl
theorem e40 (xs : List AV) (H : Hp) : ev E0 40 xs H = runF E0 (ev E0) loopW L40 xs H := ev_eq E0 40 xs H
@[simp] theorem o40 : E0.opn 40 = true := rfl
theorem e53 (xs : List AV) (H : Hp) : ev E0 53 xs H = runF E0 (ev E0) loopW L53 xs H := ev_eq E0 53 xs H
@[simp] theorem o53 : E0.opn 53 = false := rfl
theorem e58 (xs : List AV) (H : Hp) : ev E0 58 xs H = runF E0 (ev E0) loopW L58 xs H := ev_eq E0 58 xs H
@[simp] theorem o58 : E0.opn 58 = false := rfl
theorem e71 (xs : List AV) (H : Hp) : ev E0 71 xs H = runF E0 (ev E0) loopW L71 xs H := ev_eq E0 71 xs H
@[simp] theorem o71 : E0.opn 71 = false := rfl
theorem e54 (xs : List AV) (H : Hp) : ev E0 54 xs H = runF E0 (ev E0) loopW L54 xs H := ev_eq E0 54 xs H
@[simp] theorem o54 : E0.opn 54 = false := rfl
theorem e61 (xs : List AV) (H : Hp) : ev E0 61 xs H = sortHP xs H := ev_eq E0 61 xs H
@[simp] theorem o61 : E0.opn 61 = true := rfl
theorem e70 (xs : List AV) (H : Hp) : ev E0 70 xs H = sortIP xs H := ev_eq E0 70 xs H
@[simp] theorem o70 : E0.opn 70 = true := rfl
theorem e80 (xs : List AV) (H : Hp) : ev E0 80 xs H = appP xs H := ev_eq E0 80 xs H
@[simp] theorem o80 : E0.opn 80 = false := rfl
theorem mixed : Go.Proofs.Tryz.prog.follows .mixedOrders = true := by kernel_rfl
set_option maxHeartbeats 8000000 in
theorem envFn : ∀ f lf, fnOf f = some lf → ∃ fn lv, Go.Proofs.Tryz.prog.funcs[f]? = some fn ∧ compF Go.Proofs.Tryz.prog lv fn = some lf := by
  intro f lf h
  unfold fnOf at h
  split at h
  · cases h; exact ⟨_, _, Go.Proofs.Tryz.func4, c4⟩
  · cases h; exact ⟨_, _, Go.Proofs.Tryz.func51, c51⟩
  · cases h; exact ⟨_, _, Go.Proofs.Tryz.func23, c23⟩
  · cases h; exact ⟨_, _, Go.Proofs.Tryz.func26, c26⟩
  · cases h; exact ⟨_, _, Go.Proofs.Tryz.func21, c21⟩
  · cases h; exact ⟨_, _, Go.Proofs.Tryz.func37, c37⟩
  · cases h; exact ⟨_, _, Go.Proofs.Tryz.func50, c50⟩
  · cases h; exact ⟨_, _, Go.Proofs.Tryz.func22, c22⟩
  · cases h; exact ⟨_, _, Go.Proofs.Tryz.func24, c24⟩
  · cases h; exact ⟨_, _, Go.Proofs.Tryz.func25, c25⟩
  · cases h; exact ⟨_, _, Go.Proofs.Tryz.func5, c5⟩
  · cases h; exact ⟨_, _, Go.Proofs.Tryz.func45, c45⟩
  · cases h; exact ⟨_, _, Go.Proofs.Tryz.func44, c44⟩
  · cases h; exact ⟨_, _, Go.Proofs.Tryz.func68, c68⟩
  · cases h; exact ⟨_, _, Go.Proofs.Tryz.func52, c52⟩
  · cases h; exact ⟨_, _, Go.Proofs.Tryz.func27, c27⟩
  · cases h; exact ⟨_, _, Go.Proofs.Tryz.func69, c69⟩
  · cases h; exact ⟨_, _, Go.Proofs.Tryz.func92, c92⟩
  · cases h; exact ⟨_, _, Go.Proofs.Tryz.func55, c55⟩
  · cases h; exact ⟨_, _, Go.Proofs.Tryz.func56, c56⟩
  · cases h; exact ⟨_, _, Go.Proofs.Tryz.func28, c28⟩
  · cases h; exact ⟨_, _, Go.Proofs.Tryz.func35, c35⟩
  · cases h; exact ⟨_, _, Go.Proofs.Tryz.func72, c72⟩
  · cases h; exact ⟨_, _, Go.Proofs.Tryz.func57, c57⟩
  · cases h; exact ⟨_, _, Go.Proofs.Tryz.func60, c60⟩
  · cases h; exact ⟨_, _, Go.Proofs.Tryz.func75, c75⟩
  · cases h; exact ⟨_, _, Go.Proofs.Tryz.func76, c76⟩
  · cases h; exact ⟨_, _, Go.Proofs.Tryz.func62, c62⟩
  · cases h; exact ⟨_, _, Go.Proofs.Tryz.func29, c29⟩
  · cases h; exact ⟨_, _, Go.Proofs.Tryz.func6, c6⟩
  · cases h; exact ⟨_, _, Go.Proofs.Tryz.func47, c47⟩
  · cases h; exact ⟨_, _, Go.Proofs.Tryz.func46, c46⟩
  · cases h; exact ⟨_, _, Go.Proofs.Tryz.func63, c63⟩
  · cases h; exact ⟨_, _, Go.Proofs.Tryz.func30, c30⟩
  · cases h; exact ⟨_, _, Go.Proofs.Tryz.func64, c64⟩
  · cases h; exact ⟨_, _, Go.Proofs.Tryz.func31, c31⟩
  · cases h; exact ⟨_, _, Go.Proofs.Tryz.func38, c38⟩
  · cases h; exact ⟨_, _, Go.Proofs.Tryz.func93, c93⟩
  · cases h; exact ⟨_, _, Go.Proofs.Tryz.func77, c77⟩
  · cases h; exact ⟨_, _, Go.Proofs.Tryz.func78, c78⟩
  · cases h; exact ⟨_, _, Go.Proofs.Tryz.func65, c65⟩
  · cases h; exact ⟨_, _, Go.Proofs.Tryz.func32, c32⟩
  · cases h; exact ⟨_, _, Go.Proofs.Tryz.func7, c7⟩
  · cases h; exact ⟨_, _, Go.Proofs.Tryz.func33, c33⟩
  · cases h; exact ⟨_, _, Go.Proofs.Tryz.func34, c34⟩
  · cases h; exact ⟨_, _, Go.Proofs.Tryz.func8, c8⟩
  · cases h; exact ⟨_, _, Go.Proofs.Tryz.func36, c36⟩
  · cases h; exact ⟨_, _, Go.Proofs.Tryz.func9, c9⟩
  · cases h; exact ⟨_, _, Go.Proofs.Tryz.func79, c79⟩
  · cases h; exact ⟨_, _, Go.Proofs.Tryz.func66, c66⟩
  · cases h; exact ⟨_, _, Go.Proofs.Tryz.func67, c67⟩
  · cases h; exact ⟨_, _, Go.Proofs.Tryz.func39, c39⟩
  · cases h; exact ⟨_, _, Go.Proofs.Tryz.func10, c10⟩
  · cases h; exact ⟨_, _, Go.Proofs.Tryz.func42, c42⟩
  · cases h; exact ⟨_, _, Go.Proofs.Tryz.func43, c43⟩
  · cases h; exact ⟨_, _, Go.Proofs.Tryz.func11, c11⟩
  · cases h; exact ⟨_, _, Go.Proofs.Tryz.func12, c12⟩
  · cases h; exact ⟨_, _, Go.Proofs.Tryz.func13, c13⟩
  · cases h; exact ⟨_, _, Go.Proofs.Tryz.func14, c14⟩
  · cases h; exact ⟨_, _, Go.Proofs.Tryz.func15, c15⟩
  · cases h; exact ⟨_, _, Go.Proofs.Tryz.func41, c41⟩
  · cases h; exact ⟨_, _, Go.Proofs.Tryz.func16, c16⟩
  · cases h; exact ⟨_, _, Go.Proofs.Tryz.func17, c17⟩
  · cases h; exact ⟨_, _, Go.Proofs.Tryz.func59, c59⟩
  · cases h; exact ⟨_, _, Go.Proofs.Tryz.func48, c48⟩
  · cases h; exact ⟨_, _, Go.Proofs.Tryz.func18, c18⟩
  · cases h; exact ⟨_, _, Go.Proofs.Tryz.func49, c49⟩
  · cases h; exact ⟨_, _, Go.Proofs.Tryz.func19, c19⟩
  · cases h; exact ⟨_, _, Go.Proofs.Tryz.func20, c20⟩
  · cases h; exact ⟨_, _, Go.Proofs.Tryz.func3, c3⟩
  · cases h; exact ⟨_, _, Go.Proofs.Tryz.func40, c40⟩
  · cases h; exact ⟨_, _, Go.Proofs.Tryz.func53, c53⟩
  · cases h; exact ⟨_, _, Go.Proofs.Tryz.func58, c58⟩
  · cases h; exact ⟨_, _, Go.Proofs.Tryz.func71, c71⟩
  · cases h; exact ⟨_, _, Go.Proofs.Tryz.func54, c54⟩
  · cases h
set_option maxHeartbeats 8000000 in
theorem sound : CS Go.Proofs.Tryz.prog gw0 GW (ev E0) := by
  refine ev_sound gw_low mixed ⟨envFn, fun f p h => ?_⟩
  change primOf f = some p at h
  unfold primOf at h
  split at h
  · cases h; exact sortH_ok
  · cases h; exact sortI_ok
  · cases h; exact app_ok
  · cases h
end Go.Proofs.YtlmjoimjdpfamaaGreat.Ev
