/- The functions of the program as an environment of the evaluator. -/
import Derived.Test.YtodcochnciadjaaDoorEvL0
import Derived.Test.YtodcochnciadjaaDoorEvL1
import Derived.Test.YtodcochnciadjaaDoorEvBD
import Derived.Test.YtodcochnciadjaaDoorEvPrim
set_option linter.unusedVariables false
namespace Go.Proofs.YtodcochnciadjaaDoor.Ev
def opnOf : Nat → Bool := fun n => [112, 95, 54, 72, 90, 71, 74, 48, 126, 118, 119, 104, 107, 81, 124, 125, 109, 110, 111].contains n
def fnOf : Nat → Option LFunc := fun n => match n with | 5 => some L5 | 112 => some L112 | 95 => some L95 | 54 => some L54 | 72 => some L72 | 90 => some L90 | 71 => some L71 | 91 => some L91 | 100 => some L100 | 74 => some L74 | 48 => some L48 | 6 => some L6 | 57 => some L57 | 115 => some L115 | 116 => some L116 | 117 => some L117 | 126 => some L126 | 118 => some L118 | 119 => some L119 | 137 => some L137 | 127 => some L127 | 132 => some L132 | 130 => some L130 | 142 => some L142 | 143 => some L143 | 128 => some L128 | 120 => some L120 | 139 => some L139 | 129 => some L129 | 121 => some L121 | 70 => some L70 | 92 => some L92 | 63 => some L63 | 93 => some L93 | 49 => some L49 | 58 => some L58 | 50 => some L50 | 7 => some L7 | 60 => some L60 | 73 => some L73 | 51 => some L51 | 94 => some L94 | 53 => some L53 | 52 => some L52 | 8 => some L8 | 9 => some L9 | 10 => some L10 | 11 => some L11 | 12 => some L12 | 13 => some L13 | 14 => some L14 | 15 => some L15 | 16 => some L16 | 96 => some L96 | 55 => some L55 | 17 => some L17 | 56 => some L56 | 18 => some L18 | 59 => some L59 | 61 => some L61 | 19 => some L19 | 20 => some L20 | 62 => some L62 | 21 => some L21 | 22 => some L22 | 64 => some L64 | 23 => some L23 | 24 => some L24 | 25 => some L25 | 26 => some L26 | 27 => some L27 | 97 => some L97 | 65 => some L65 | 28 => some L28 | 29 => some L29 | 67 => some L67 | 30 => some L30 | 113 => some L113 | 114 => some L114 | 98 => some L98 | 68 => some L68 | 31 => some L31 | 69 => some L69 | 32 => some L32 | 33 => some L33 | 3 => some L3 | 34 => some L34 | 35 => some L35 | 36 => some L36 | 75 => some L75 | 37 => some L37 | 76 => some L76 | 38 => some L38 | 39 => some L39 | 77 => some L77 | 40 => some L40 | 41 => some L41 | 80 => some L80 | 42 => some L42 | 88 => some L88 | 104 => some L104 | 105 => some L105 | 106 => some L106 | 107 => some L107 | 81 => some L81 | 43 => some L43 | 101 => some L101 | 141 => some L141 | 133 => some L133 | 122 => some L122 | 103 => some L103 | 134 => some L134 | 123 => some L123 | 83 => some L83 | 82 => some L82 | 84 => some L84 | 125 => some L125 | 109 => some L109 | 110 => some L110 | 111 => some L111 | 44 => some L44 | 87 => some L87 | 86 => some L86 | 45 => some L45 | 89 => some L89 | 46 => some L46 | 47 => some L47 | 4 => some L4 | 66 => some L66 | 78 => some L78 | _ => none
def primOf : Nat → Option (List AV → Hp → Option (AV × Hp)) := fun n => match n with | 99 => some trimP | 108 => some splitP | 85 => some joinP | 79 => some countP | _ => none
def E0 : Env := ⟨opnOf, fnOf, primOf⟩
theorem e5 (xs : List AV) (H : Hp) : ev E0 5 xs H = runF E0 (ev E0) loopW L5 xs H := ev_eq E0 5 xs H
@[simp] theorem o5 : E0.opn 5 = false := rfl
theorem e112 (xs : List AV) (H : Hp) : ev E0 112 xs H = runF E0 (ev E0) loopW L112 xs H := ev_eq E0 112 xs H
@[simp] theorem o112 : E0.opn 112 = true := rfl
theorem e95 (xs : List AV) (H : Hp) : ev E0 95 xs H = runF E0 (ev E0) loopW L95 xs H := ev_eq E0 95 xs H
@[simp] theorem o95 : E0.opn 95 = true := rfl
theorem e54 (xs : List AV) (H : Hp) : ev E0 54 xs H = runF E0 (ev E0) loopW L54 xs H := ev_eq E0 54 xs H
@[simp] theorem o54 : E0.opn 54 = true := rfl
theorem e72 (xs : List AV) (H : Hp) : ev E0 72 xs H = runF E0 (ev E0) loopW L72 xs H := ev_eq E0 72 xs H
@[simp] theorem o72 : E0.opn 72 = true := rfl
theorem e90 (xs : List AV) (H : Hp) : ev E0 90 xs H = runF E0 (ev E0) loopW L90 xs H := ev_eq E0 90 xs H
@[simp] theorem o90 : E0.opn 90 = true := rfl
theorem e71 (xs : List AV) (H : Hp) : ev E0 71 xs H = runF E0 (ev E0) loopW L71 xs H := ev_eq E0 71 xs H
@[simp] theorem o71 : E0.opn 71 = true := rfl
theorem e91 (xs : List AV) (H : Hp) : ev E0 91 xs H = runF E0 (ev E0) loopW L91 xs H := ev_eq E0 91 xs H
@[simp] theorem o91 : E0.opn 91 = false := rfl
theorem e100 (xs : List AV) (H : Hp) : ev E0 100 xs H = runF E0 (ev E0) loopW L100 xs H := ev_eq E0 100 xs H
@[simp] theorem o100 : E0.opn 100 = false := rfl
theorem e74 (xs : List AV) (H : Hp) : ev E0 74 xs H = runF E0 (ev E0) loopW L74 xs H := ev_eq E0 74 xs H
@[simp] theorem o74 : E0.opn 74 = true := rfl
theorem e48 (xs : List AV) (H : Hp) : ev E0 48 xs H = runF E0 (ev E0) loopW L48 xs H := ev_eq E0 48 xs H
@[simp] theorem o48 : E0.opn 48 = true := rfl
theorem e6 (xs : List AV) (H : Hp) : ev E0 6 xs H = runF E0 (ev E0) loopW L6 xs H := ev_eq E0 6 xs H
@[simp] theorem o6 : E0.opn 6 = false := rfl
theorem e57 (xs : List AV) (H : Hp) : ev E0 57 xs H = runF E0 (ev E0) loopW L57 xs H := ev_eq E0 57 xs H
@[simp] theorem o57 : E0.opn 57 = false := rfl
theorem e115 (xs : List AV) (H : Hp) : ev E0 115 xs H = runF E0 (ev E0) loopW L115 xs H := ev_eq E0 115 xs H
@[simp] theorem o115 : E0.opn 115 = false := rfl
theorem e116 (xs : List AV) (H : Hp) : ev E0 116 xs H = runF E0 (ev E0) loopW L116 xs H := ev_eq E0 116 xs H
@[simp] theorem o116 : E0.opn 116 = false := rfl
theorem e117 (xs : List AV) (H : Hp) : ev E0 117 xs H = runF E0 (ev E0) loopW L117 xs H := ev_eq E0 117 xs H
@[simp] theorem o117 : E0.opn 117 = false := rfl
theorem e126 (xs : List AV) (H : Hp) : ev E0 126 xs H = runF E0 (ev E0) loopW L126 xs H := ev_eq E0 126 xs H
@[simp] theorem o126 : E0.opn 126 = true := rfl
theorem e118 (xs : List AV) (H : Hp) : ev E0 118 xs H = runF E0 (ev E0) loopW L118 xs H := ev_eq E0 118 xs H
@[simp] theorem o118 : E0.opn 118 = true := rfl
theorem e119 (xs : List AV) (H : Hp) : ev E0 119 xs H = runF E0 (ev E0) loopW L119 xs H := ev_eq E0 119 xs H
@[simp] theorem o119 : E0.opn 119 = true := rfl
theorem e137 (xs : List AV) (H : Hp) : ev E0 137 xs H = runF E0 (ev E0) loopW L137 xs H := ev_eq E0 137 xs H
@[simp] theorem o137 : E0.opn 137 = false := rfl
theorem e127 (xs : List AV) (H : Hp) : ev E0 127 xs H = runF E0 (ev E0) loopW L127 xs H := ev_eq E0 127 xs H
@[simp] theorem o127 : E0.opn 127 = false := rfl
theorem e132 (xs : List AV) (H : Hp) : ev E0 132 xs H = runF E0 (ev E0) loopW L132 xs H := ev_eq E0 132 xs H
@[simp] theorem o132 : E0.opn 132 = false := rfl
theorem e130 (xs : List AV) (H : Hp) : ev E0 130 xs H = runF E0 (ev E0) loopW L130 xs H := ev_eq E0 130 xs H
@[simp] theorem o130 : E0.opn 130 = false := rfl
theorem e142 (xs : List AV) (H : Hp) : ev E0 142 xs H = runF E0 (ev E0) loopW L142 xs H := ev_eq E0 142 xs H
@[simp] theorem o142 : E0.opn 142 = false := rfl
theorem e143 (xs : List AV) (H : Hp) : ev E0 143 xs H = runF E0 (ev E0) loopW L143 xs H := ev_eq E0 143 xs H
@[simp] theorem o143 : E0.opn 143 = false := rfl
theorem e128 (xs : List AV) (H : Hp) : ev E0 128 xs H = runF E0 (ev E0) loopW L128 xs H := ev_eq E0 128 xs H
@[simp] theorem o128 : E0.opn 128 = false := rfl
theorem e120 (xs : List AV) (H : Hp) : ev E0 120 xs H = runF E0 (ev E0) loopW L120 xs H := ev_eq E0 120 xs H
@[simp] theorem o120 : E0.opn 120 = false := rfl
theorem e139 (xs : List AV) (H : Hp) : ev E0 139 xs H = runF E0 (ev E0) loopW L139 xs H := ev_eq E0 139 xs H
@[simp] theorem o139 : E0.opn 139 = false := rfl
theorem e129 (xs : List AV) (H : Hp) : ev E0 129 xs H = runF E0 (ev E0) loopW L129 xs H := ev_eq E0 129 xs H
@[simp] theorem o129 : E0.opn 129 = false := rfl
theorem e121 (xs : List AV) (H : Hp) : ev E0 121 xs H = runF E0 (ev E0) loopW L121 xs H := ev_eq E0 121 xs H
@[simp] theorem o121 : E0.opn 121 = false := rfl
theorem e70 (xs : List AV) (H : Hp) : ev E0 70 xs H = runF E0 (ev E0) loopW L70 xs H := ev_eq E0 70 xs H
@[simp] theorem o70 : E0.opn 70 = false := rfl
theorem e92 (xs : List AV) (H : Hp) : ev E0 92 xs H = runF E0 (ev E0) loopW L92 xs H := ev_eq E0 92 xs H
@[simp] theorem o92 : E0.opn 92 = false := rfl
theorem e63 (xs : List AV) (H : Hp) : ev E0 63 xs H = runF E0 (ev E0) loopW L63 xs H := ev_eq E0 63 xs H
@[simp] theorem o63 : E0.opn 63 = false := rfl
theorem e93 (xs : List AV) (H : Hp) : ev E0 93 xs H = runF E0 (ev E0) loopW L93 xs H := ev_eq E0 93 xs H
@[simp] theorem o93 : E0.opn 93 = false := rfl
theorem e49 (xs : List AV) (H : Hp) : ev E0 49 xs H = runF E0 (ev E0) loopW L49 xs H := ev_eq E0 49 xs H
@[simp] theorem o49 : E0.opn 49 = false := rfl
theorem e58 (xs : List AV) (H : Hp) : ev E0 58 xs H = runF E0 (ev E0) loopW L58 xs H := ev_eq E0 58 xs H
@[simp] theorem o58 : E0.opn 58 = false := rfl
theorem e50 (xs : List AV) (H : Hp) : ev E0 50 xs H = runF E0 (ev E0) loopW L50 xs H := ev_eq E0 50 xs H
@[simp] theorem o50 : E0.opn 50 = false := rfl
theorem e7 (xs : List AV) (H : Hp) : ev E0 7 xs H = runF E0 (ev E0) loopW L7 xs H := ev_eq E0 7 xs H
@[simp] theorem o7 : E0.opn 7 = false := rfl
theorem e60 (xs : List AV) (H : Hp) : ev E0 60 xs H = runF E0 (ev E0) loopW L60 xs H := ev_eq E0 60 xs H
@[simp] theorem o60 : E0.opn 60 = false := rfl
theorem e73 (xs : List AV) (H : Hp) : ev E0 73 xs H = runF E0 (ev E0) loopW L73 xs H := ev_eq E0 73 xs H
@[simp] theorem o73 : E0.opn 73 = false := rfl
theorem e51 (xs : List AV) (H : Hp) : ev E0 51 xs H = runF E0 (ev E0) loopW L51 xs H := ev_eq E0 51 xs H
@[simp] theorem o51 : E0.opn 51 = false := rfl
theorem e94 (xs : List AV) (H : Hp) : ev E0 94 xs H = runF E0 (ev E0) loopW L94 xs H := ev_eq E0 94 xs H
@[simp] theorem o94 : E0.opn 94 = false := rfl
theorem e53 (xs : List AV) (H : Hp) : ev E0 53 xs H = runF E0 (ev E0) loopW L53 xs H := ev_eq E0 53 xs H
@[simp] theorem o53 : E0.opn 53 = false := rfl
theorem e52 (xs : List AV) (H : Hp) : ev E0 52 xs H = runF E0 (ev E0) loopW L52 xs H := ev_eq E0 52 xs H
@[simp] theorem o52 : E0.opn 52 = false := rfl
theorem e8 (xs : List AV) (H : Hp) : ev E0 8 xs H = runF E0 (ev E0) loopW L8 xs H := ev_eq E0 8 xs H
@[simp] theorem o8 : E0.opn 8 = false := rfl
theorem e9 (xs : List AV) (H : Hp) : ev E0 9 xs H = runF E0 (ev E0) loopW L9 xs H := ev_eq E0 9 xs H
@[simp] theorem o9 : E0.opn 9 = false := rfl
theorem e10 (xs : List AV) (H : Hp) : ev E0 10 xs H = runF E0 (ev E0) loopW L10 xs H := ev_eq E0 10 xs H
@[simp] theorem o10 : E0.opn 10 = false := rfl
theorem e11 (xs : List AV) (H : Hp) : ev E0 11 xs H = runF E0 (ev E0) loopW L11 xs H := ev_eq E0 11 xs H
@[simp] theorem o11 : E0.opn 11 = false := rfl
theorem e12 (xs : List AV) (H : Hp) : ev E0 12 xs H = runF E0 (ev E0) loopW L12 xs H := ev_eq E0 12 xs H
@[simp] theorem o12 : E0.opn 12 = false := rfl
theorem e13 (xs : List AV) (H : Hp) : ev E0 13 xs H = runF E0 (ev E0) loopW L13 xs H := ev_eq E0 13 xs H
@[simp] theorem o13 : E0.opn 13 = false := rfl
theorem e14 (xs : List AV) (H : Hp) : ev E0 14 xs H = runF E0 (ev E0) loopW L14 xs H := ev_eq E0 14 xs H
@[simp] theorem o14 : E0.opn 14 = false := rfl
theorem e15 (xs : List AV) (H : Hp) : ev E0 15 xs H = runF E0 (ev E0) loopW L15 xs H := ev_eq E0 15 xs H
@[simp] theorem o15 : E0.opn 15 = false := rfl
theorem e16 (xs : List AV) (H : Hp) : ev E0 16 xs H = runF E0 (ev E0) loopW L16 xs H := ev_eq E0 16 xs H
@[simp] theorem o16 : E0.opn 16 = false := rfl
theorem e96 (xs : List AV) (H : Hp) : ev E0 96 xs H = runF E0 (ev E0) loopW L96 xs H := ev_eq E0 96 xs H
@[simp] theorem o96 : E0.opn 96 = false := rfl
theorem e55 (xs : List AV) (H : Hp) : ev E0 55 xs H = runF E0 (ev E0) loopW L55 xs H := ev_eq E0 55 xs H
@[simp] theorem o55 : E0.opn 55 = false := rfl
theorem e17 (xs : List AV) (H : Hp) : ev E0 17 xs H = runF E0 (ev E0) loopW L17 xs H := ev_eq E0 17 xs H
@[simp] theorem o17 : E0.opn 17 = false := rfl
theorem e56 (xs : List AV) (H : Hp) : ev E0 56 xs H = runF E0 (ev E0) loopW L56 xs H := ev_eq E0 56 xs H
@[simp] theorem o56 : E0.opn 56 = false := rfl
theorem e18 (xs : List AV) (H : Hp) : ev E0 18 xs H = runF E0 (ev E0) loopW L18 xs H := ev_eq E0 18 xs H
@[simp] theorem o18 : E0.opn 18 = false := rfl
theorem e59 (xs : List AV) (H : Hp) : ev E0 59 xs H = runF E0 (ev E0) loopW L59 xs H := ev_eq E0 59 xs H
@[simp] theorem o59 : E0.opn 59 = false := rfl
theorem e61 (xs : List AV) (H : Hp) : ev E0 61 xs H = runF E0 (ev E0) loopW L61 xs H := ev_eq E0 61 xs H
@[simp] theorem o61 : E0.opn 61 = false := rfl
theorem e19 (xs : List AV) (H : Hp) : ev E0 19 xs H = runF E0 (ev E0) loopW L19 xs H := ev_eq E0 19 xs H
@[simp] theorem o19 : E0.opn 19 = false := rfl
theorem e20 (xs : List AV) (H : Hp) : ev E0 20 xs H = runF E0 (ev E0) loopW L20 xs H := ev_eq E0 20 xs H
@[simp] theorem o20 : E0.opn 20 = false := rfl
theorem e62 (xs : List AV) (H : Hp) : ev E0 62 xs H = runF E0 (ev E0) loopW L62 xs H := ev_eq E0 62 xs H
@[simp] theorem o62 : E0.opn 62 = false := rfl
theorem e21 (xs : List AV) (H : Hp) : ev E0 21 xs H = runF E0 (ev E0) loopW L21 xs H := ev_eq E0 21 xs H
@[simp] theorem o21 : E0.opn 21 = false := rfl
theorem e22 (xs : List AV) (H : Hp) : ev E0 22 xs H = runF E0 (ev E0) loopW L22 xs H := ev_eq E0 22 xs H
@[simp] theorem o22 : E0.opn 22 = false := rfl
theorem e64 (xs : List AV) (H : Hp) : ev E0 64 xs H = runF E0 (ev E0) loopW L64 xs H := ev_eq E0 64 xs H
@[simp] theorem o64 : E0.opn 64 = false := rfl
theorem e23 (xs : List AV) (H : Hp) : ev E0 23 xs H = runF E0 (ev E0) loopW L23 xs H := ev_eq E0 23 xs H
@[simp] theorem o23 : E0.opn 23 = false := rfl
theorem e24 (xs : List AV) (H : Hp) : ev E0 24 xs H = runF E0 (ev E0) loopW L24 xs H := ev_eq E0 24 xs H
@[simp] theorem o24 : E0.opn 24 = false := rfl
theorem e25 (xs : List AV) (H : Hp) : ev E0 25 xs H = runF E0 (ev E0) loopW L25 xs H := ev_eq E0 25 xs H
@[simp] theorem o25 : E0.opn 25 = false := rfl
theorem e26 (xs : List AV) (H : Hp) : ev E0 26 xs H = runF E0 (ev E0) loopW L26 xs H := ev_eq E0 26 xs H
@[simp] theorem o26 : E0.opn 26 = false := rfl
theorem e27 (xs : List AV) (H : Hp) : ev E0 27 xs H = runF E0 (ev E0) loopW L27 xs H := ev_eq E0 27 xs H
@[simp] theorem o27 : E0.opn 27 = false := rfl
theorem e97 (xs : List AV) (H : Hp) : ev E0 97 xs H = runF E0 (ev E0) loopW L97 xs H := ev_eq E0 97 xs H
@[simp] theorem o97 : E0.opn 97 = false := rfl
theorem e65 (xs : List AV) (H : Hp) : ev E0 65 xs H = runF E0 (ev E0) loopW L65 xs H := ev_eq E0 65 xs H
@[simp] theorem o65 : E0.opn 65 = false := rfl
theorem e28 (xs : List AV) (H : Hp) : ev E0 28 xs H = runF E0 (ev E0) loopW L28 xs H := ev_eq E0 28 xs H
@[simp] theorem o28 : E0.opn 28 = false := rfl
theorem e29 (xs : List AV) (H : Hp) : ev E0 29 xs H = runF E0 (ev E0) loopW L29 xs H := ev_eq E0 29 xs H
@[simp] theorem o29 : E0.opn 29 = false := rfl
theorem e67 (xs : List AV) (H : Hp) : ev E0 67 xs H = runF E0 (ev E0) loopW L67 xs H := ev_eq E0 67 xs H
@[simp] theorem o67 : E0.opn 67 = false := rfl
theorem e30 (xs : List AV) (H : Hp) : ev E0 30 xs H = runF E0 (ev E0) loopW L30 xs H := ev_eq E0 30 xs H
@[simp] theorem o30 : E0.opn 30 = false := rfl
theorem e113 (xs : List AV) (H : Hp) : ev E0 113 xs H = runF E0 (ev E0) loopW L113 xs H := ev_eq E0 113 xs H
@[simp] theorem o113 : E0.opn 113 = false := rfl
theorem e114 (xs : List AV) (H : Hp) : ev E0 114 xs H = runF E0 (ev E0) loopW L114 xs H := ev_eq E0 114 xs H
@[simp] theorem o114 : E0.opn 114 = false := rfl
theorem e98 (xs : List AV) (H : Hp) : ev E0 98 xs H = runF E0 (ev E0) loopW L98 xs H := ev_eq E0 98 xs H
@[simp] theorem o98 : E0.opn 98 = false := rfl
theorem e68 (xs : List AV) (H : Hp) : ev E0 68 xs H = runF E0 (ev E0) loopW L68 xs H := ev_eq E0 68 xs H
@[simp] theorem o68 : E0.opn 68 = false := rfl
theorem e31 (xs : List AV) (H : Hp) : ev E0 31 xs H = runF E0 (ev E0) loopW L31 xs H := ev_eq E0 31 xs H
@[simp] theorem o31 : E0.opn 31 = false := rfl
theorem e69 (xs : List AV) (H : Hp) : ev E0 69 xs H = runF E0 (ev E0) loopW L69 xs H := ev_eq E0 69 xs H
@[simp] theorem o69 : E0.opn 69 = false := rfl
theorem e32 (xs : List AV) (H : Hp) : ev E0 32 xs H = runF E0 (ev E0) loopW L32 xs H := ev_eq E0 32 xs H
@[simp] theorem o32 : E0.opn 32 = false := rfl
theorem e33 (xs : List AV) (H : Hp) : ev E0 33 xs H = runF E0 (ev E0) loopW L33 xs H := ev_eq E0 33 xs H
@[simp] theorem o33 : E0.opn 33 = false := rfl
theorem e3 (xs : List AV) (H : Hp) : ev E0 3 xs H = runF E0 (ev E0) loopW L3 xs H := ev_eq E0 3 xs H
@[simp] theorem o3 : E0.opn 3 = false := rfl
theorem e34 (xs : List AV) (H : Hp) : ev E0 34 xs H = runF E0 (ev E0) loopW L34 xs H := ev_eq E0 34 xs H
@[simp] theorem o34 : E0.opn 34 = false := rfl
theorem e35 (xs : List AV) (H : Hp) : ev E0 35 xs H = runF E0 (ev E0) loopW L35 xs H := ev_eq E0 35 xs H
@[simp] theorem o35 : E0.opn 35 = false := rfl
theorem e36 (xs : List AV) (H : Hp) : ev E0 36 xs H = runF E0 (ev E0) loopW L36 xs H := ev_eq E0 36 xs H
@[simp] theorem o36 : E0.opn 36 = false := rfl
theorem e75 (xs : List AV) (H : Hp) : ev E0 75 xs H = runF E0 (ev E0) loopW L75 xs H := ev_eq E0 75 xs H
@[simp] theorem o75 : E0.opn 75 = false := rfl
theorem e37 (xs : List AV) (H : Hp) : ev E0 37 xs H = runF E0 (ev E0) loopW L37 xs H := ev_eq E0 37 xs H
@[simp] theorem o37 : E0.opn 37 = false := rfl
theorem e76 (xs : List AV) (H : Hp) : ev E0 76 xs H = runF E0 (ev E0) loopW L76 xs H := ev_eq E0 76 xs H
@[simp] theorem o76 : E0.opn 76 = false := rfl
theorem e38 (xs : List AV) (H : Hp) : ev E0 38 xs H = runF E0 (ev E0) loopW L38 xs H := ev_eq E0 38 xs H
@[simp] theorem o38 : E0.opn 38 = false := rfl
theorem e39 (xs : List AV) (H : Hp) : ev E0 39 xs H = runF E0 (ev E0) loopW L39 xs H := ev_eq E0 39 xs H
@[simp] theorem o39 : E0.opn 39 = false := rfl
theorem e77 (xs : List AV) (H : Hp) : ev E0 77 xs H = runF E0 (ev E0) loopW L77 xs H := ev_eq E0 77 xs H
@[simp] theorem o77 : E0.opn 77 = false := rfl
theorem e40 (xs : List AV) (H : Hp) : ev E0 40 xs H = runF E0 (ev E0) loopW L40 xs H := ev_eq E0 40 xs H
@[simp] theorem o40 : E0.opn 40 = false := rfl
theorem e41 (xs : List AV) (H : Hp) : ev E0 41 xs H = runF E0 (ev E0) loopW L41 xs H := ev_eq E0 41 xs H
@[simp] theorem o41 : E0.opn 41 = false := rfl
theorem e80 (xs : List AV) (H : Hp) : ev E0 80 xs H = runF E0 (ev E0) loopW L80 xs H := ev_eq E0 80 xs H
@[simp] theorem o80 : E0.opn 80 = false := rfl
theorem e42 (xs : List AV) (H : Hp) : ev E0 42 xs H = runF E0 (ev E0) loopW L42 xs H := ev_eq E0 42 xs H
@[simp] theorem o42 : E0.opn 42 = false := rfl
theorem e88 (xs : List AV) (H : Hp) : ev E0 88 xs H = runF E0 (ev E0) loopW L88 xs H := ev_eq E0 88 xs H
@[simp] theorem o88 : E0.opn 88 = false := rfl
theorem e104 (xs : List AV) (H : Hp) : ev E0 104 xs H = runF E0 (ev E0) loopW L104 xs H := ev_eq E0 104 xs H
@[simp] theorem o104 : E0.opn 104 = true := rfl
theorem e105 (xs : List AV) (H : Hp) : ev E0 105 xs H = runF E0 (ev E0) loopW L105 xs H := ev_eq E0 105 xs H
@[simp] theorem o105 : E0.opn 105 = false := rfl
theorem e106 (xs : List AV) (H : Hp) : ev E0 106 xs H = runF E0 (ev E0) loopW L106 xs H := ev_eq E0 106 xs H
@[simp] theorem o106 : E0.opn 106 = false := rfl
theorem e107 (xs : List AV) (H : Hp) : ev E0 107 xs H = runF E0 (ev E0) loopW L107 xs H := ev_eq E0 107 xs H
@[simp] theorem o107 : E0.opn 107 = true := rfl
theorem e81 (xs : List AV) (H : Hp) : ev E0 81 xs H = runF E0 (ev E0) loopW L81 xs H := ev_eq E0 81 xs H
@[simp] theorem o81 : E0.opn 81 = true := rfl
theorem e43 (xs : List AV) (H : Hp) : ev E0 43 xs H = runF E0 (ev E0) loopW L43 xs H := ev_eq E0 43 xs H
@[simp] theorem o43 : E0.opn 43 = false := rfl
theorem e101 (xs : List AV) (H : Hp) : ev E0 101 xs H = runF E0 (ev E0) loopW L101 xs H := ev_eq E0 101 xs H
@[simp] theorem o101 : E0.opn 101 = false := rfl
theorem e141 (xs : List AV) (H : Hp) : ev E0 141 xs H = runF E0 (ev E0) loopW L141 xs H := ev_eq E0 141 xs H
@[simp] theorem o141 : E0.opn 141 = false := rfl
theorem e133 (xs : List AV) (H : Hp) : ev E0 133 xs H = runF E0 (ev E0) loopW L133 xs H := ev_eq E0 133 xs H
@[simp] theorem o133 : E0.opn 133 = false := rfl
theorem e122 (xs : List AV) (H : Hp) : ev E0 122 xs H = runF E0 (ev E0) loopW L122 xs H := ev_eq E0 122 xs H
@[simp] theorem o122 : E0.opn 122 = false := rfl
theorem e103 (xs : List AV) (H : Hp) : ev E0 103 xs H = runF E0 (ev E0) loopW L103 xs H := ev_eq E0 103 xs H
@[simp] theorem o103 : E0.opn 103 = false := rfl
theorem e134 (xs : List AV) (H : Hp) : ev E0 134 xs H = runF E0 (ev E0) loopW L134 xs H := ev_eq E0 134 xs H
@[simp] theorem o134 : E0.opn 134 = false := rfl
theorem e123 (xs : List AV) (H : Hp) : ev E0 123 xs H = runF E0 (ev E0) loopW L123 xs H := ev_eq E0 123 xs H
@[simp] theorem o123 : E0.opn 123 = false := rfl
theorem e83 (xs : List AV) (H : Hp) : ev E0 83 xs H = runF E0 (ev E0) loopW L83 xs H := ev_eq E0 83 xs H
@[simp] theorem o83 : E0.opn 83 = false := rfl
theorem e82 (xs : List AV) (H : Hp) : ev E0 82 xs H = runF E0 (ev E0) loopW L82 xs H := ev_eq E0 82 xs H
@[simp] theorem o82 : E0.opn 82 = false := rfl
theorem e84 (xs : List AV) (H : Hp) : ev E0 84 xs H = runF E0 (ev E0) loopW L84 xs H := ev_eq E0 84 xs H
@[simp] theorem o84 : E0.opn 84 = false := rfl
theorem e125 (xs : List AV) (H : Hp) : ev E0 125 xs H = runF E0 (ev E0) loopW L125 xs H := ev_eq E0 125 xs H
@[simp] theorem o125 : E0.opn 125 = true := rfl
theorem e109 (xs : List AV) (H : Hp) : ev E0 109 xs H = runF E0 (ev E0) loopW L109 xs H := ev_eq E0 109 xs H
@[simp] theorem o109 : E0.opn 109 = true := rfl
theorem e110 (xs : List AV) (H : Hp) : ev E0 110 xs H = runF E0 (ev E0) loopW L110 xs H := ev_eq E0 110 xs H
@[simp] theorem o110 : E0.opn 110 = true := rfl
theorem e111 (xs : List AV) (H : Hp) : ev E0 111 xs H = runF E0 (ev E0) loopW L111 xs H := ev_eq E0 111 xs H
@[simp] theorem o111 : E0.opn 111 = true := rfl
theorem e44 (xs : List AV) (H : Hp) : ev E0 44 xs H = runF E0 (ev E0) loopW L44 xs H := ev_eq E0 44 xs H
@[simp] theorem o44 : E0.opn 44 = false := rfl
theorem e87 (xs : List AV) (H : Hp) : ev E0 87 xs H = runF E0 (ev E0) loopW L87 xs H := ev_eq E0 87 xs H
@[simp] theorem o87 : E0.opn 87 = false := rfl
theorem e86 (xs : List AV) (H : Hp) : ev E0 86 xs H = runF E0 (ev E0) loopW L86 xs H := ev_eq E0 86 xs H
@[simp] theorem o86 : E0.opn 86 = false := rfl
theorem e45 (xs : List AV) (H : Hp) : ev E0 45 xs H = runF E0 (ev E0) loopW L45 xs H := ev_eq E0 45 xs H
@[simp] theorem o45 : E0.opn 45 = false := rfl
theorem e89 (xs : List AV) (H : Hp) : ev E0 89 xs H = runF E0 (ev E0) loopW L89 xs H := ev_eq E0 89 xs H
@[simp] theorem o89 : E0.opn 89 = false := rfl
theorem e46 (xs : List AV) (H : Hp) : ev E0 46 xs H = runF E0 (ev E0) loopW L46 xs H := ev_eq E0 46 xs H
@[simp] theorem o46 : E0.opn 46 = false := rfl
theorem e47 (xs : List AV) (H : Hp) : ev E0 47 xs H = runF E0 (ev E0) loopW L47 xs H := ev_eq E0 47 xs H
@[simp] theorem o47 : E0.opn 47 = false := rfl
theorem e4 (xs : List AV) (H : Hp) : ev E0 4 xs H = runF E0 (ev E0) loopW L4 xs H := ev_eq E0 4 xs H
@[simp] theorem o4 : E0.opn 4 = false := rfl
theorem e66 (xs : List AV) (H : Hp) : ev E0 66 xs H = runF E0 (ev E0) loopW L66 xs H := ev_eq E0 66 xs H
@[simp] theorem o66 : E0.opn 66 = false := rfl
theorem e78 (xs : List AV) (H : Hp) : ev E0 78 xs H = runF E0 (ev E0) loopW L78 xs H := ev_eq E0 78 xs H
@[simp] theorem o78 : E0.opn 78 = false := rfl
theorem e99 (xs : List AV) (H : Hp) : ev E0 99 xs H = trimP xs H := ev_eq E0 99 xs H
@[simp] theorem o99 : E0.opn 99 = false := rfl
theorem e108 (xs : List AV) (H : Hp) : ev E0 108 xs H = splitP xs H := ev_eq E0 108 xs H
@[simp] theorem o108 : E0.opn 108 = false := rfl
theorem e85 (xs : List AV) (H : Hp) : ev E0 85 xs H = joinP xs H := ev_eq E0 85 xs H
@[simp] theorem o85 : E0.opn 85 = false := rfl
theorem e79 (xs : List AV) (H : Hp) : ev E0 79 xs H = countP xs H := ev_eq E0 79 xs H
@[simp] theorem o79 : E0.opn 79 = false := rfl
theorem mixed : Go.Proofs.Tryd.prog.follows .mixedOrders = true := by kernel_rfl
theorem envFn : ∀ f lf, fnOf f = some lf → ∃ fn lv, Go.Proofs.Tryd.prog.funcs[f]? = some fn ∧ compF Go.Proofs.Tryd.prog lv fn = some lf := by
  intro f lf h
  unfold fnOf at h
  split at h
  · cases h; exact ⟨_, _, Go.Proofs.Tryd.func5, c5⟩
  · cases h; exact ⟨_, _, Go.Proofs.Tryd.func112, c112⟩
  · cases h; exact ⟨_, _, Go.Proofs.Tryd.func95, c95⟩
  · cases h; exact ⟨_, _, Go.Proofs.Tryd.func54, c54⟩
  · cases h; exact ⟨_, _, Go.Proofs.Tryd.func72, c72⟩
  · cases h; exact ⟨_, _, Go.Proofs.Tryd.func90, c90⟩
  · cases h; exact ⟨_, _, Go.Proofs.Tryd.func71, c71⟩
  · cases h; exact ⟨_, _, Go.Proofs.Tryd.func91, c91⟩
  · cases h; exact ⟨_, _, Go.Proofs.Tryd.func100, c100⟩
  · cases h; exact ⟨_, _, Go.Proofs.Tryd.func74, c74⟩
  · cases h; exact ⟨_, _, Go.Proofs.Tryd.func48, c48⟩
  · cases h; exact ⟨_, _, Go.Proofs.Tryd.func6, c6⟩
  · cases h; exact ⟨_, _, Go.Proofs.Tryd.func57, c57⟩
  · cases h; exact ⟨_, _, Go.Proofs.Tryd.func115, c115⟩
  · cases h; exact ⟨_, _, Go.Proofs.Tryd.func116, c116⟩
  · cases h; exact ⟨_, _, Go.Proofs.Tryd.func117, c117⟩
  · cases h; exact ⟨_, _, Go.Proofs.Tryd.func126, c126⟩
  · cases h; exact ⟨_, _, Go.Proofs.Tryd.func118, c118⟩
  · cases h; exact ⟨_, _, Go.Proofs.Tryd.func119, c119⟩
  · cases h; exact ⟨_, _, Go.Proofs.Tryd.func137, c137⟩
  · cases h; exact ⟨_, _, Go.Proofs.Tryd.func127, c127⟩
  · cases h; exact ⟨_, _, Go.Proofs.Tryd.func132, c132⟩
  · cases h; exact ⟨_, _, Go.Proofs.Tryd.func130, c130⟩
  · cases h; exact ⟨_, _, Go.Proofs.Tryd.func142, c142⟩
  · cases h; exact ⟨_, _, Go.Proofs.Tryd.func143, c143⟩
  · cases h; exact ⟨_, _, Go.Proofs.Tryd.func128, c128⟩
  · cases h; exact ⟨_, _, Go.Proofs.Tryd.func120, c120⟩
  · cases h; exact ⟨_, _, Go.Proofs.Tryd.func139, c139⟩
  · cases h; exact ⟨_, _, Go.Proofs.Tryd.func129, c129⟩
  · cases h; exact ⟨_, _, Go.Proofs.Tryd.func121, c121⟩
  · cases h; exact ⟨_, _, Go.Proofs.Tryd.func70, c70⟩
  · cases h; exact ⟨_, _, Go.Proofs.Tryd.func92, c92⟩
  · cases h; exact ⟨_, _, Go.Proofs.Tryd.func63, c63⟩
  · cases h; exact ⟨_, _, Go.Proofs.Tryd.func93, c93⟩
  · cases h; exact ⟨_, _, Go.Proofs.Tryd.func49, c49⟩
  · cases h; exact ⟨_, _, Go.Proofs.Tryd.func58, c58⟩
  · cases h; exact ⟨_, _, Go.Proofs.Tryd.func50, c50⟩
  · cases h; exact ⟨_, _, Go.Proofs.Tryd.func7, c7⟩
  · cases h; exact ⟨_, _, Go.Proofs.Tryd.func60, c60⟩
  · cases h; exact ⟨_, _, Go.Proofs.Tryd.func73, c73⟩
  · cases h; exact ⟨_, _, Go.Proofs.Tryd.func51, c51⟩
  · cases h; exact ⟨_, _, Go.Proofs.Tryd.func94, c94⟩
  · cases h; exact ⟨_, _, Go.Proofs.Tryd.func53, c53⟩
  · cases h; exact ⟨_, _, Go.Proofs.Tryd.func52, c52⟩
  · cases h; exact ⟨_, _, Go.Proofs.Tryd.func8, c8⟩
  · cases h; exact ⟨_, _, Go.Proofs.Tryd.func9, c9⟩
  · cases h; exact ⟨_, _, Go.Proofs.Tryd.func10, c10⟩
  · cases h; exact ⟨_, _, Go.Proofs.Tryd.func11, c11⟩
  · cases h; exact ⟨_, _, Go.Proofs.Tryd.func12, c12⟩
  · cases h; exact ⟨_, _, Go.Proofs.Tryd.func13, c13⟩
  · cases h; exact ⟨_, _, Go.Proofs.Tryd.func14, c14⟩
  · cases h; exact ⟨_, _, Go.Proofs.Tryd.func15, c15⟩
  · cases h; exact ⟨_, _, Go.Proofs.Tryd.func16, c16⟩
  · cases h; exact ⟨_, _, Go.Proofs.Tryd.func96, c96⟩
  · cases h; exact ⟨_, _, Go.Proofs.Tryd.func55, c55⟩
  · cases h; exact ⟨_, _, Go.Proofs.Tryd.func17, c17⟩
  · cases h; exact ⟨_, _, Go.Proofs.Tryd.func56, c56⟩
  · cases h; exact ⟨_, _, Go.Proofs.Tryd.func18, c18⟩
  · cases h; exact ⟨_, _, Go.Proofs.Tryd.func59, c59⟩
  · cases h; exact ⟨_, _, Go.Proofs.Tryd.func61, c61⟩
  · cases h; exact ⟨_, _, Go.Proofs.Tryd.func19, c19⟩
  · cases h; exact ⟨_, _, Go.Proofs.Tryd.func20, c20⟩
  · cases h; exact ⟨_, _, Go.Proofs.Tryd.func62, c62⟩
  · cases h; exact ⟨_, _, Go.Proofs.Tryd.func21, c21⟩
  · cases h; exact ⟨_, _, Go.Proofs.Tryd.func22, c22⟩
  · cases h; exact ⟨_, _, Go.Proofs.Tryd.func64, c64⟩
  · cases h; exact ⟨_, _, Go.Proofs.Tryd.func23, c23⟩
  · cases h; exact ⟨_, _, Go.Proofs.Tryd.func24, c24⟩
  · cases h; exact ⟨_, _, Go.Proofs.Tryd.func25, c25⟩
  · cases h; exact ⟨_, _, Go.Proofs.Tryd.func26, c26⟩
  · cases h; exact ⟨_, _, Go.Proofs.Tryd.func27, c27⟩
  · cases h; exact ⟨_, _, Go.Proofs.Tryd.func97, c97⟩
  · cases h; exact ⟨_, _, Go.Proofs.Tryd.func65, c65⟩
  · cases h; exact ⟨_, _, Go.Proofs.Tryd.func28, c28⟩
  · cases h; exact ⟨_, _, Go.Proofs.Tryd.func29, c29⟩
  · cases h; exact ⟨_, _, Go.Proofs.Tryd.func67, c67⟩
  · cases h; exact ⟨_, _, Go.Proofs.Tryd.func30, c30⟩
  · cases h; exact ⟨_, _, Go.Proofs.Tryd.func113, c113⟩
  · cases h; exact ⟨_, _, Go.Proofs.Tryd.func114, c114⟩
  · cases h; exact ⟨_, _, Go.Proofs.Tryd.func98, c98⟩
  · cases h; exact ⟨_, _, Go.Proofs.Tryd.func68, c68⟩
  · cases h; exact ⟨_, _, Go.Proofs.Tryd.func31, c31⟩
  · cases h; exact ⟨_, _, Go.Proofs.Tryd.func69, c69⟩
  · cases h; exact ⟨_, _, Go.Proofs.Tryd.func32, c32⟩
  · cases h; exact ⟨_, _, Go.Proofs.Tryd.func33, c33⟩
  · cases h; exact ⟨_, _, Go.Proofs.Tryd.func3, c3⟩
  · cases h; exact ⟨_, _, Go.Proofs.Tryd.func34, c34⟩
  · cases h; exact ⟨_, _, Go.Proofs.Tryd.func35, c35⟩
  · cases h; exact ⟨_, _, Go.Proofs.Tryd.func36, c36⟩
  · cases h; exact ⟨_, _, Go.Proofs.Tryd.func75, c75⟩
  · cases h; exact ⟨_, _, Go.Proofs.Tryd.func37, c37⟩
  · cases h; exact ⟨_, _, Go.Proofs.Tryd.func76, c76⟩
  · cases h; exact ⟨_, _, Go.Proofs.Tryd.func38, c38⟩
  · cases h; exact ⟨_, _, Go.Proofs.Tryd.func39, c39⟩
  · cases h; exact ⟨_, _, Go.Proofs.Tryd.func77, c77⟩
  · cases h; exact ⟨_, _, Go.Proofs.Tryd.func40, c40⟩
  · cases h; exact ⟨_, _, Go.Proofs.Tryd.func41, c41⟩
  · cases h; exact ⟨_, _, Go.Proofs.Tryd.func80, c80⟩
  · cases h; exact ⟨_, _, Go.Proofs.Tryd.func42, c42⟩
  · cases h; exact ⟨_, _, Go.Proofs.Tryd.func88, c88⟩
  · cases h; exact ⟨_, _, Go.Proofs.Tryd.func104, c104⟩
  · cases h; exact ⟨_, _, Go.Proofs.Tryd.func105, c105⟩
  · cases h; exact ⟨_, _, Go.Proofs.Tryd.func106, c106⟩
  · cases h; exact ⟨_, _, Go.Proofs.Tryd.func107, c107⟩
  · cases h; exact ⟨_, _, Go.Proofs.Tryd.func81, c81⟩
  · cases h; exact ⟨_, _, Go.Proofs.Tryd.func43, c43⟩
  · cases h; exact ⟨_, _, Go.Proofs.Tryd.func101, c101⟩
  · cases h; exact ⟨_, _, Go.Proofs.Tryd.func141, c141⟩
  · cases h; exact ⟨_, _, Go.Proofs.Tryd.func133, c133⟩
  · cases h; exact ⟨_, _, Go.Proofs.Tryd.func122, c122⟩
  · cases h; exact ⟨_, _, Go.Proofs.Tryd.func103, c103⟩
  · cases h; exact ⟨_, _, Go.Proofs.Tryd.func134, c134⟩
  · cases h; exact ⟨_, _, Go.Proofs.Tryd.func123, c123⟩
  · cases h; exact ⟨_, _, Go.Proofs.Tryd.func83, c83⟩
  · cases h; exact ⟨_, _, Go.Proofs.Tryd.func82, c82⟩
  · cases h; exact ⟨_, _, Go.Proofs.Tryd.func84, c84⟩
  · cases h; exact ⟨_, _, Go.Proofs.Tryd.func125, c125⟩
  · cases h; exact ⟨_, _, Go.Proofs.Tryd.func109, c109⟩
  · cases h; exact ⟨_, _, Go.Proofs.Tryd.func110, c110⟩
  · cases h; exact ⟨_, _, Go.Proofs.Tryd.func111, c111⟩
  · cases h; exact ⟨_, _, Go.Proofs.Tryd.func44, c44⟩
  · cases h; exact ⟨_, _, Go.Proofs.Tryd.func87, c87⟩
  · cases h; exact ⟨_, _, Go.Proofs.Tryd.func86, c86⟩
  · cases h; exact ⟨_, _, Go.Proofs.Tryd.func45, c45⟩
  · cases h; exact ⟨_, _, Go.Proofs.Tryd.func89, c89⟩
  · cases h; exact ⟨_, _, Go.Proofs.Tryd.func46, c46⟩
  · cases h; exact ⟨_, _, Go.Proofs.Tryd.func47, c47⟩
  · cases h; exact ⟨_, _, Go.Proofs.Tryd.func4, c4⟩
  · cases h; exact ⟨_, _, Go.Proofs.Tryd.func66, c66⟩
  · cases h; exact ⟨_, _, Go.Proofs.Tryd.func78, c78⟩
  · cases h
theorem sound : CS Go.Proofs.Tryd.prog gw0 GW (ev E0) := by
  refine ev_sound gw_low mixed ⟨envFn, fun f p h => ?_⟩
  change primOf f = some p at h
  unfold primOf at h
  split at h
  · cases h; exact trim_ok
  · cases h; exact split_ok
  · cases h; exact join_ok
  · cases h; exact count_ok
  · cases h
end Go.Proofs.YtodcochnciadjaaDoor.Ev
