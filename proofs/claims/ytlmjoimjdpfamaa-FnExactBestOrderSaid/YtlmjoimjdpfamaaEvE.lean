/- The functions of the program as an environment of the evaluator. -/
import Derived.Test.YtlmjoimjdpfamaaEvL0
import Derived.Test.YtlmjoimjdpfamaaEvBD
import Derived.Test.YtlmjoimjdpfamaaEvPrim
import Derived.Test.YtlmjoimjdpfamaaEvSrtH
import Derived.Test.YtlmjoimjdpfamaaEvVs
set_option linter.unusedVariables false
namespace Go.Proofs.Ytlmjoimjdpfamaa.Ev
def opnOf : Nat → Bool := fun n => [74, 89, 101, 91, 90, 64, 49, 35, 14, 15, 92, 105, 104, 103, 86, 71, 21, 36].contains n
def fnOf : Nat → Option LFunc := fun n => match n with | 24 => some L24 | 23 => some L23 | 41 => some L41 | 25 => some L25 | 42 => some L42 | 73 => some L73 | 61 => some L61 | 62 => some L62 | 43 => some L43 | 26 => some L26 | 6 => some L6 | 28 => some L28 | 27 => some L27 | 29 => some L29 | 44 => some L44 | 63 => some L63 | 45 => some L45 | 48 => some L48 | 66 => some L66 | 84 => some L84 | 67 => some L67 | 50 => some L50 | 30 => some L30 | 7 => some L7 | 3 => some L3 | 8 => some L8 | 51 => some L51 | 31 => some L31 | 52 => some L52 | 32 => some L32 | 9 => some L9 | 33 => some L33 | 10 => some L10 | 68 => some L68 | 53 => some L53 | 34 => some L34 | 69 => some L69 | 56 => some L56 | 57 => some L57 | 35 => some L35 | 11 => some L11 | 12 => some L12 | 37 => some L37 | 13 => some L13 | 14 => some L14 | 15 => some L15 | 16 => some L16 | 4 => some L4 | 58 => some L58 | 38 => some L38 | 17 => some L17 | 18 => some L18 | 70 => some L70 | 59 => some L59 | 60 => some L60 | 39 => some L39 | 19 => some L19 | 40 => some L40 | 20 => some L20 | 21 => some L21 | 22 => some L22 | 5 => some L5 | 36 => some L36 | 46 => some L46 | 54 => some L54 | 72 => some L72 | 47 => some L47 | 55 => some L55 | _ => none
def primOf : Nat → Option (List AV → Hp → Option (AV × Hp)) := fun n => match n with | 49 => some sortHP | 71 => some sortIP | 85 => some appP | _ => none
def E0 : Env := ⟨opnOf, fnOf, primOf⟩
theorem e24 (xs : List AV) (H : Hp) : ev E0 24 xs H = runF E0 (ev E0) loopW L24 xs H := ev_eq E0 24 xs H
@[simp] theorem o24 : E0.opn 24 = false := rfl
theorem e23 (xs : List AV) (H : Hp) : ev E0 23 xs H = runF E0 (ev E0) loopW L23 xs H := ev_eq E0 23 xs H
@[simp] theorem o23 : E0.opn 23 = false := rfl
theorem e41 (xs : List AV) (H : Hp) : ev E0 41 xs H = runF E0 (ev E0) loopW L41 xs H := ev_eq E0 41 xs H
@[simp] theorem o41 : E0.opn 41 = false := rfl
theorem e25 (xs : List AV) (H : Hp) : ev E0 25 xs H = runF E0 (ev E0) loopW L25 xs H := ev_eq E0 25 xs H
@[simp] theorem o25 : E0.opn 25 = false := rfl
theorem e42 (xs : List AV) (H : Hp) : ev E0 42 xs H = runF E0 (ev E0) loopW L42 xs H := ev_eq E0 42 xs H
@[simp] theorem o42 : E0.opn 42 = false := rfl
theorem e73 (xs : List AV) (H : Hp) : ev E0 73 xs H = runF E0 (ev E0) loopW L73 xs H := ev_eq E0 73 xs H
@[simp] theorem o73 : E0.opn 73 = false := rfl
theorem e61 (xs : List AV) (H : Hp) : ev E0 61 xs H = runF E0 (ev E0) loopW L61 xs H := ev_eq E0 61 xs H
@[simp] theorem o61 : E0.opn 61 = false := rfl
theorem e62 (xs : List AV) (H : Hp) : ev E0 62 xs H = runF E0 (ev E0) loopW L62 xs H := ev_eq E0 62 xs H
@[simp] theorem o62 : E0.opn 62 = false := rfl
theorem e43 (xs : List AV) (H : Hp) : ev E0 43 xs H = runF E0 (ev E0) loopW L43 xs H := ev_eq E0 43 xs H
@[simp] theorem o43 : E0.opn 43 = false := rfl
theorem e26 (xs : List AV) (H : Hp) : ev E0 26 xs H = runF E0 (ev E0) loopW L26 xs H := ev_eq E0 26 xs H
@[simp] theorem o26 : E0.opn 26 = false := rfl
theorem e6 (xs : List AV) (H : Hp) : ev E0 6 xs H = runF E0 (ev E0) loopW L6 xs H := ev_eq E0 6 xs H
@[simp] theorem o6 : E0.opn 6 = false := rfl
theorem e28 (xs : List AV) (H : Hp) : ev E0 28 xs H = runF E0 (ev E0) loopW L28 xs H := ev_eq E0 28 xs H
@[simp] theorem o28 : E0.opn 28 = false := rfl
theorem e27 (xs : List AV) (H : Hp) : ev E0 27 xs H = runF E0 (ev E0) loopW L27 xs H := ev_eq E0 27 xs H
@[simp] theorem o27 : E0.opn 27 = false := rfl
theorem e29 (xs : List AV) (H : Hp) : ev E0 29 xs H = runF E0 (ev E0) loopW L29 xs H := ev_eq E0 29 xs H
@[simp] theorem o29 : E0.opn 29 = false := rfl
theorem e44 (xs : List AV) (H : Hp) : ev E0 44 xs H = runF E0 (ev E0) loopW L44 xs H := ev_eq E0 44 xs H
@[simp] theorem o44 : E0.opn 44 = false := rfl
theorem e63 (xs : List AV) (H : Hp) : ev E0 63 xs H = runF E0 (ev E0) loopW L63 xs H := ev_eq E0 63 xs H
@[simp] theorem o63 : E0.opn 63 = false := rfl
theorem e45 (xs : List AV) (H : Hp) : ev E0 45 xs H = runF E0 (ev E0) loopW L45 xs H := ev_eq E0 45 xs H
@[simp] theorem o45 : E0.opn 45 = false := rfl
theorem e48 (xs : List AV) (H : Hp) : ev E0 48 xs H = runF E0 (ev E0) loopW L48 xs H := ev_eq E0 48 xs H
@[simp] theorem o48 : E0.opn 48 = false := rfl
theorem e66 (xs : List AV) (H : Hp) : ev E0 66 xs H = runF E0 (ev E0) loopW L66 xs H := ev_eq E0 66 xs H
@[simp] theorem o66 : E0.opn 66 = false := rfl
theorem e84 (xs : List AV) (H : Hp) : ev E0 84 xs H = runF E0 (ev E0) loopW L84 xs H := ev_eq E0 84 xs H
@[simp] theorem o84 : E0.opn 84 = false := rfl
theorem e67 (xs : List AV) (H : Hp) : ev E0 67 xs H = runF E0 (ev E0) loopW L67 xs H := ev_eq E0 67 xs H
@[simp] theorem o67 : E0.opn 67 = false := rfl
theorem e50 (xs : List AV) (H : Hp) : ev E0 50 xs H = runF E0 (ev E0) loopW L50 xs H := ev_eq E0 50 xs H
@[simp] theorem o50 : E0.opn 50 = false := rfl
theorem e30 (xs : List AV) (H : Hp) : ev E0 30 xs H = runF E0 (ev E0) loopW L30 xs H := ev_eq E0 30 xs H
@[simp] theorem o30 : E0.opn 30 = false := rfl
theorem e7 (xs : List AV) (H : Hp) : ev E0 7 xs H = runF E0 (ev E0) loopW L7 xs H := ev_eq E0 7 xs H
@[simp] theorem o7 : E0.opn 7 = false := rfl
theorem e3 (xs : List AV) (H : Hp) : ev E0 3 xs H = runF E0 (ev E0) loopW L3 xs H := ev_eq E0 3 xs H
@[simp] theorem o3 : E0.opn 3 = false := rfl
theorem e8 (xs : List AV) (H : Hp) : ev E0 8 xs H = runF E0 (ev E0) loopW L8 xs H := ev_eq E0 8 xs H
@[simp] theorem o8 : E0.opn 8 = false := rfl
theorem e51 (xs : List AV) (H : Hp) : ev E0 51 xs H = runF E0 (ev E0) loopW L51 xs H := ev_eq E0 51 xs H
@[simp] theorem o51 : E0.opn 51 = false := rfl
theorem e31 (xs : List AV) (H : Hp) : ev E0 31 xs H = runF E0 (ev E0) loopW L31 xs H := ev_eq E0 31 xs H
@[simp] theorem o31 : E0.opn 31 = false := rfl
theorem e52 (xs : List AV) (H : Hp) : ev E0 52 xs H = runF E0 (ev E0) loopW L52 xs H := ev_eq E0 52 xs H
@[simp] theorem o52 : E0.opn 52 = false := rfl
theorem e32 (xs : List AV) (H : Hp) : ev E0 32 xs H = runF E0 (ev E0) loopW L32 xs H := ev_eq E0 32 xs H
@[simp] theorem o32 : E0.opn 32 = false := rfl
theorem e9 (xs : List AV) (H : Hp) : ev E0 9 xs H = runF E0 (ev E0) loopW L9 xs H := ev_eq E0 9 xs H
@[simp] theorem o9 : E0.opn 9 = false := rfl
theorem e33 (xs : List AV) (H : Hp) : ev E0 33 xs H = runF E0 (ev E0) loopW L33 xs H := ev_eq E0 33 xs H
@[simp] theorem o33 : E0.opn 33 = false := rfl
theorem e10 (xs : List AV) (H : Hp) : ev E0 10 xs H = runF E0 (ev E0) loopW L10 xs H := ev_eq E0 10 xs H
@[simp] theorem o10 : E0.opn 10 = false := rfl
theorem e68 (xs : List AV) (H : Hp) : ev E0 68 xs H = runF E0 (ev E0) loopW L68 xs H := ev_eq E0 68 xs H
@[simp] theorem o68 : E0.opn 68 = false := rfl
theorem e53 (xs : List AV) (H : Hp) : ev E0 53 xs H = runF E0 (ev E0) loopW L53 xs H := ev_eq E0 53 xs H
@[simp] theorem o53 : E0.opn 53 = false := rfl
theorem e34 (xs : List AV) (H : Hp) : ev E0 34 xs H = runF E0 (ev E0) loopW L34 xs H := ev_eq E0 34 xs H
@[simp] theorem o34 : E0.opn 34 = false := rfl
theorem e69 (xs : List AV) (H : Hp) : ev E0 69 xs H = runF E0 (ev E0) loopW L69 xs H := ev_eq E0 69 xs H
@[simp] theorem o69 : E0.opn 69 = false := rfl
theorem e56 (xs : List AV) (H : Hp) : ev E0 56 xs H = runF E0 (ev E0) loopW L56 xs H := ev_eq E0 56 xs H
@[simp] theorem o56 : E0.opn 56 = false := rfl
theorem e57 (xs : List AV) (H : Hp) : ev E0 57 xs H = runF E0 (ev E0) loopW L57 xs H := ev_eq E0 57 xs H
@[simp] theorem o57 : E0.opn 57 = false := rfl
theorem e35 (xs : List AV) (H : Hp) : ev E0 35 xs H = runF E0 (ev E0) loopW L35 xs H := ev_eq E0 35 xs H
@[simp] theorem o35 : E0.opn 35 = true := rfl
theorem e11 (xs : List AV) (H : Hp) : ev E0 11 xs H = runF E0 (ev E0) loopW L11 xs H := ev_eq E0 11 xs H
@[simp] theorem o11 : E0.opn 11 = false := rfl
theorem e12 (xs : List AV) (H : Hp) : ev E0 12 xs H = runF E0 (ev E0) loopW L12 xs H := ev_eq E0 12 xs H
@[simp] theorem o12 : E0.opn 12 = false := rfl
theorem e37 (xs : List AV) (H : Hp) : ev E0 37 xs H = runF E0 (ev E0) loopW L37 xs H := ev_eq E0 37 xs H
@[simp] theorem o37 : E0.opn 37 = false := rfl
theorem e13 (xs : List AV) (H : Hp) : ev E0 13 xs H = runF E0 (ev E0) loopW L13 xs H := ev_eq E0 13 xs H
@[simp] theorem o13 : E0.opn 13 = false := rfl
theorem e14 (xs : List AV) (H : Hp) : ev E0 14 xs H = runF E0 (ev E0) loopW L14 xs H := ev_eq E0 14 xs H
@[simp] theorem o14 : E0.opn 14 = true := rfl
theorem e15 (xs : List AV) (H : Hp) : ev E0 15 xs H = runF E0 (ev E0) loopW L15 xs H := ev_eq E0 15 xs H
@[simp] theorem o15 : E0.opn 15 = true := rfl
theorem e16 (xs : List AV) (H : Hp) : ev E0 16 xs H = runF E0 (ev E0) loopW L16 xs H := ev_eq E0 16 xs H
@[simp] theorem o16 : E0.opn 16 = false := rfl
theorem e4 (xs : List AV) (H : Hp) : ev E0 4 xs H = runF E0 (ev E0) loopW L4 xs H := ev_eq E0 4 xs H
@[simp] theorem o4 : E0.opn 4 = false := rfl
theorem e58 (xs : List AV) (H : Hp) : ev E0 58 xs H = runF E0 (ev E0) loopW L58 xs H := ev_eq E0 58 xs H
@[simp] theorem o58 : E0.opn 58 = false := rfl
theorem e38 (xs : List AV) (H : Hp) : ev E0 38 xs H = runF E0 (ev E0) loopW L38 xs H := ev_eq E0 38 xs H
@[simp] theorem o38 : E0.opn 38 = false := rfl
theorem e17 (xs : List AV) (H : Hp) : ev E0 17 xs H = runF E0 (ev E0) loopW L17 xs H := ev_eq E0 17 xs H
@[simp] theorem o17 : E0.opn 17 = false := rfl
theorem e18 (xs : List AV) (H : Hp) : ev E0 18 xs H = runF E0 (ev E0) loopW L18 xs H := ev_eq E0 18 xs H
@[simp] theorem o18 : E0.opn 18 = false := rfl
theorem e70 (xs : List AV) (H : Hp) : ev E0 70 xs H = runF E0 (ev E0) loopW L70 xs H := ev_eq E0 70 xs H
@[simp] theorem o70 : E0.opn 70 = false := rfl
theorem e59 (xs : List AV) (H : Hp) : ev E0 59 xs H = runF E0 (ev E0) loopW L59 xs H := ev_eq E0 59 xs H
@[simp] theorem o59 : E0.opn 59 = false := rfl
theorem e60 (xs : List AV) (H : Hp) : ev E0 60 xs H = runF E0 (ev E0) loopW L60 xs H := ev_eq E0 60 xs H
@[simp] theorem o60 : E0.opn 60 = false := rfl
theorem e39 (xs : List AV) (H : Hp) : ev E0 39 xs H = runF E0 (ev E0) loopW L39 xs H := ev_eq E0 39 xs H
@[simp] theorem o39 : E0.opn 39 = false := rfl
theorem e19 (xs : List AV) (H : Hp) : ev E0 19 xs H = runF E0 (ev E0) loopW L19 xs H := ev_eq E0 19 xs H
@[simp] theorem o19 : E0.opn 19 = false := rfl
theorem e40 (xs : List AV) (H : Hp) : ev E0 40 xs H = runF E0 (ev E0) loopW L40 xs H := ev_eq E0 40 xs H
@[simp] theorem o40 : E0.opn 40 = false := rfl
theorem e20 (xs : List AV) (H : Hp) : ev E0 20 xs H = runF E0 (ev E0) loopW L20 xs H := ev_eq E0 20 xs H
@[simp] theorem o20 : E0.opn 20 = false := rfl
theorem e21 (xs : List AV) (H : Hp) : ev E0 21 xs H = runF E0 (ev E0) loopW L21 xs H := ev_eq E0 21 xs H
@[simp] theorem o21 : E0.opn 21 = true := rfl
theorem e22 (xs : List AV) (H : Hp) : ev E0 22 xs H = runF E0 (ev E0) loopW L22 xs H := ev_eq E0 22 xs H
@[simp] theorem o22 : E0.opn 22 = false := rfl
theorem e5 (xs : List AV) (H : Hp) : ev E0 5 xs H = runF E0 (ev E0) loopW L5 xs H := ev_eq E0 5 xs H
@[simp] theorem o5 : E0.opn 5 = false := rfl
theorem e36 (xs : List AV) (H : Hp) : ev E0 36 xs H = runF E0 (ev E0) loopW L36 xs H := ev_eq E0 36 xs H
@[simp] theorem o36 : E0.opn 36 = true := rfl
theorem e46 (xs : List AV) (H : Hp) : ev E0 46 xs H = runF E0 (ev E0) loopW L46 xs H := ev_eq E0 46 xs H
@[simp] theorem o46 : E0.opn 46 = false := rfl
theorem e54 (xs : List AV) (H : Hp) : ev E0 54 xs H = runF E0 (ev E0) loopW L54 xs H := ev_eq E0 54 xs H
@[simp] theorem o54 : E0.opn 54 = false := rfl
theorem e72 (xs : List AV) (H : Hp) : ev E0 72 xs H = runF E0 (ev E0) loopW L72 xs H := ev_eq E0 72 xs H
@[simp] theorem o72 : E0.opn 72 = false := rfl
theorem e47 (xs : List AV) (H : Hp) : ev E0 47 xs H = runF E0 (ev E0) loopW L47 xs H := ev_eq E0 47 xs H
@[simp] theorem o47 : E0.opn 47 = false := rfl
theorem e55 (xs : List AV) (H : Hp) : ev E0 55 xs H = runF E0 (ev E0) loopW L55 xs H := ev_eq E0 55 xs H
@[simp] theorem o55 : E0.opn 55 = false := rfl
theorem e49 (xs : List AV) (H : Hp) : ev E0 49 xs H = sortHP xs H := ev_eq E0 49 xs H
@[simp] theorem o49 : E0.opn 49 = true := rfl
theorem e71 (xs : List AV) (H : Hp) : ev E0 71 xs H = sortIP xs H := ev_eq E0 71 xs H
@[simp] theorem o71 : E0.opn 71 = true := rfl
theorem e85 (xs : List AV) (H : Hp) : ev E0 85 xs H = appP xs H := ev_eq E0 85 xs H
@[simp] theorem o85 : E0.opn 85 = false := rfl
theorem mixed : Go.Proofs.Try.prog.follows .mixedOrders = true := by kernel_rfl
set_option maxHeartbeats 8000000 in
theorem envFn : ∀ f lf, fnOf f = some lf → ∃ fn lv, Go.Proofs.Try.prog.funcs[f]? = some fn ∧ compF Go.Proofs.Try.prog lv fn = some lf := by
  intro f lf h
  unfold fnOf at h
  split at h
  · cases h; exact ⟨_, _, Go.Proofs.Try.func24, c24⟩
  · cases h; exact ⟨_, _, Go.Proofs.Try.func23, c23⟩
  · cases h; exact ⟨_, _, Go.Proofs.Try.func41, c41⟩
  · cases h; exact ⟨_, _, Go.Proofs.Try.func25, c25⟩
  · cases h; exact ⟨_, _, Go.Proofs.Try.func42, c42⟩
  · cases h; exact ⟨_, _, Go.Proofs.Try.func73, c73⟩
  · cases h; exact ⟨_, _, Go.Proofs.Try.func61, c61⟩
  · cases h; exact ⟨_, _, Go.Proofs.Try.func62, c62⟩
  · cases h; exact ⟨_, _, Go.Proofs.Try.func43, c43⟩
  · cases h; exact ⟨_, _, Go.Proofs.Try.func26, c26⟩
  · cases h; exact ⟨_, _, Go.Proofs.Try.func6, c6⟩
  · cases h; exact ⟨_, _, Go.Proofs.Try.func28, c28⟩
  · cases h; exact ⟨_, _, Go.Proofs.Try.func27, c27⟩
  · cases h; exact ⟨_, _, Go.Proofs.Try.func29, c29⟩
  · cases h; exact ⟨_, _, Go.Proofs.Try.func44, c44⟩
  · cases h; exact ⟨_, _, Go.Proofs.Try.func63, c63⟩
  · cases h; exact ⟨_, _, Go.Proofs.Try.func45, c45⟩
  · cases h; exact ⟨_, _, Go.Proofs.Try.func48, c48⟩
  · cases h; exact ⟨_, _, Go.Proofs.Try.func66, c66⟩
  · cases h; exact ⟨_, _, Go.Proofs.Try.func84, c84⟩
  · cases h; exact ⟨_, _, Go.Proofs.Try.func67, c67⟩
  · cases h; exact ⟨_, _, Go.Proofs.Try.func50, c50⟩
  · cases h; exact ⟨_, _, Go.Proofs.Try.func30, c30⟩
  · cases h; exact ⟨_, _, Go.Proofs.Try.func7, c7⟩
  · cases h; exact ⟨_, _, Go.Proofs.Try.func3, c3⟩
  · cases h; exact ⟨_, _, Go.Proofs.Try.func8, c8⟩
  · cases h; exact ⟨_, _, Go.Proofs.Try.func51, c51⟩
  · cases h; exact ⟨_, _, Go.Proofs.Try.func31, c31⟩
  · cases h; exact ⟨_, _, Go.Proofs.Try.func52, c52⟩
  · cases h; exact ⟨_, _, Go.Proofs.Try.func32, c32⟩
  · cases h; exact ⟨_, _, Go.Proofs.Try.func9, c9⟩
  · cases h; exact ⟨_, _, Go.Proofs.Try.func33, c33⟩
  · cases h; exact ⟨_, _, Go.Proofs.Try.func10, c10⟩
  · cases h; exact ⟨_, _, Go.Proofs.Try.func68, c68⟩
  · cases h; exact ⟨_, _, Go.Proofs.Try.func53, c53⟩
  · cases h; exact ⟨_, _, Go.Proofs.Try.func34, c34⟩
  · cases h; exact ⟨_, _, Go.Proofs.Try.func69, c69⟩
  · cases h; exact ⟨_, _, Go.Proofs.Try.func56, c56⟩
  · cases h; exact ⟨_, _, Go.Proofs.Try.func57, c57⟩
  · cases h; exact ⟨_, _, Go.Proofs.Try.func35, c35⟩
  · cases h; exact ⟨_, _, Go.Proofs.Try.func11, c11⟩
  · cases h; exact ⟨_, _, Go.Proofs.Try.func12, c12⟩
  · cases h; exact ⟨_, _, Go.Proofs.Try.func37, c37⟩
  · cases h; exact ⟨_, _, Go.Proofs.Try.func13, c13⟩
  · cases h; exact ⟨_, _, Go.Proofs.Try.func14, c14⟩
  · cases h; exact ⟨_, _, Go.Proofs.Try.func15, c15⟩
  · cases h; exact ⟨_, _, Go.Proofs.Try.func16, c16⟩
  · cases h; exact ⟨_, _, Go.Proofs.Try.func4, c4⟩
  · cases h; exact ⟨_, _, Go.Proofs.Try.func58, c58⟩
  · cases h; exact ⟨_, _, Go.Proofs.Try.func38, c38⟩
  · cases h; exact ⟨_, _, Go.Proofs.Try.func17, c17⟩
  · cases h; exact ⟨_, _, Go.Proofs.Try.func18, c18⟩
  · cases h; exact ⟨_, _, Go.Proofs.Try.func70, c70⟩
  · cases h; exact ⟨_, _, Go.Proofs.Try.func59, c59⟩
  · cases h; exact ⟨_, _, Go.Proofs.Try.func60, c60⟩
  · cases h; exact ⟨_, _, Go.Proofs.Try.func39, c39⟩
  · cases h; exact ⟨_, _, Go.Proofs.Try.func19, c19⟩
  · cases h; exact ⟨_, _, Go.Proofs.Try.func40, c40⟩
  · cases h; exact ⟨_, _, Go.Proofs.Try.func20, c20⟩
  · cases h; exact ⟨_, _, Go.Proofs.Try.func21, c21⟩
  · cases h; exact ⟨_, _, Go.Proofs.Try.func22, c22⟩
  · cases h; exact ⟨_, _, Go.Proofs.Try.func5, c5⟩
  · cases h; exact ⟨_, _, Go.Proofs.Try.func36, c36⟩
  · cases h; exact ⟨_, _, Go.Proofs.Try.func46, c46⟩
  · cases h; exact ⟨_, _, Go.Proofs.Try.func54, c54⟩
  · cases h; exact ⟨_, _, Go.Proofs.Try.func72, c72⟩
  · cases h; exact ⟨_, _, Go.Proofs.Try.func47, c47⟩
  · cases h; exact ⟨_, _, Go.Proofs.Try.func55, c55⟩
  · cases h
set_option maxHeartbeats 8000000 in
theorem sound : CS Go.Proofs.Try.prog gw0 GW (ev E0) := by
  refine ev_sound gw_low mixed ⟨envFn, fun f p h => ?_⟩
  change primOf f = some p at h
  unfold primOf at h
  split at h
  · cases h; exact sortH_ok
  · cases h; exact sortI_ok
  · cases h; exact app_ok
  · cases h
end Go.Proofs.Ytlmjoimjdpfamaa.Ev
