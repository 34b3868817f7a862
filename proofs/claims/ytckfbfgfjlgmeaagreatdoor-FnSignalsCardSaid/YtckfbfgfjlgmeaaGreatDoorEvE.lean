/- The functions of the program as an environment of the evaluator. -/
import Derived.Test.YtckfbfgfjlgmeaaGreatDoorEvL0
import Derived.Test.YtckfbfgfjlgmeaaGreatDoorEvL1
import Derived.Test.YtckfbfgfjlgmeaaGreatDoorEvBD
import Derived.Test.YtckfbfgfjlgmeaaGreatDoorEvPrim
set_option linter.unusedVariables false
namespace Go.Proofs.YtckfbfgfjlgmeaaGreatDoor.Ev
def opnOf : Nat → Bool := fun n => [142, 81, 80, 157, 104, 102, 115, 79, 160, 128, 78, 166, 137, 138, 174, 175, 148, 149, 150, 151, 198, 190, 213, 218, 225, 216, 206, 199, 227, 219, 207, 200, 208, 201, 191, 176, 211, 192, 177, 153, 155, 193].contains n
def fnOf : Nat → Option LFunc := fun n => match n with | 6 => some L6 | 142 => some L142 | 81 => some L81 | 85 => some L85 | 80 => some L80 | 157 => some L157 | 104 => some L104 | 108 => some L108 | 156 => some L156 | 102 => some L102 | 115 => some L115 | 89 => some L89 | 112 => some L112 | 163 => some L163 | 125 => some L125 | 79 => some L79 | 84 => some L84 | 107 => some L107 | 96 => some L96 | 121 => some L121 | 122 => some L122 | 165 => some L165 | 160 => some L160 | 128 => some L128 | 133 => some L133 | 141 => some L141 | 78 => some L78 | 73 => some L73 | 7 => some L7 | 10 => some L10 | 74 => some L74 | 8 => some L8 | 75 => some L75 | 76 => some L76 | 9 => some L9 | 11 => some L11 | 12 => some L12 | 82 => some L82 | 171 => some L171 | 172 => some L172 | 146 => some L146 | 173 => some L173 | 147 => some L147 | 175 => some L175 | 148 => some L148 | 149 => some L149 | 150 => some L150 | 151 => some L151 | 92 => some L92 | 83 => some L83 | 13 => some L13 | 14 => some L14 | 15 => some L15 | 87 => some L87 | 16 => some L16 | 17 => some L17 | 88 => some L88 | 18 => some L18 | 19 => some L19 | 90 => some L90 | 20 => some L20 | 91 => some L91 | 21 => some L21 | 22 => some L22 | 23 => some L23 | 24 => some L24 | 25 => some L25 | 26 => some L26 | 27 => some L27 | 28 => some L28 | 3 => some L3 | 93 => some L93 | 29 => some L29 | 158 => some L158 | 105 => some L105 | 106 => some L106 | 154 => some L154 | 98 => some L98 | 94 => some L94 | 30 => some L30 | 97 => some L97 | 31 => some L31 | 32 => some L32 | 99 => some L99 | 33 => some L33 | 155 => some L155 | 100 => some L100 | 34 => some L34 | 101 => some L101 | 35 => some L35 | 36 => some L36 | 103 => some L103 | 37 => some L37 | 38 => some L38 | 39 => some L39 | 40 => some L40 | 41 => some L41 | 109 => some L109 | 42 => some L42 | 110 => some L110 | 43 => some L43 | 44 => some L44 | 45 => some L45 | 46 => some L46 | 47 => some L47 | 111 => some L111 | 48 => some L48 | 49 => some L49 | 50 => some L50 | 114 => some L114 | 51 => some L51 | 52 => some L52 | 53 => some L53 | 117 => some L117 | 54 => some L54 | 4 => some L4 | 118 => some L118 | 55 => some L55 | 123 => some L123 | 119 => some L119 | 120 => some L120 | 56 => some L56 | 57 => some L57 | 58 => some L58 | 59 => some L59 | 162 => some L162 | 124 => some L124 | 60 => some L60 | 61 => some L61 | 62 => some L62 | 126 => some L126 | 63 => some L63 | 64 => some L64 | 65 => some L65 | 66 => some L66 | 129 => some L129 | 164 => some L164 | 130 => some L130 | 67 => some L67 | 131 => some L131 | 68 => some L68 | 132 => some L132 | 69 => some L69 | 70 => some L70 | 71 => some L71 | 72 => some L72 | 5 => some L5 | _ => none
def primOf : Nat → Option (List AV → Hp → Option (AV × Hp)) := fun n => match n with | 77 => some trimP | 116 => some splitP | 113 => some joinP | 86 => some countP | 161 => some fieldsP | 95 => some oppositeP | 127 => some bareP | _ => none
def E0 : Env := ⟨opnOf, fnOf, primOf⟩
theorem e6 (xs : List AV) (H : Hp) : ev E0 6 xs H = runF E0 (ev E0) loopW L6 xs H := ev_eq E0 6 xs H
@[simp] theorem o6 : E0.opn 6 = false := rfl
theorem e142 (xs : List AV) (H : Hp) : ev E0 142 xs H = runF E0 (ev E0) loopW L142 xs H := ev_eq E0 142 xs H
@[simp] theorem o142 : E0.opn 142 = true := rfl
theorem e81 (xs : List AV) (H : Hp) : ev E0 81 xs H = runF E0 (ev E0) loopW L81 xs H := ev_eq E0 81 xs H
@[simp] theorem o81 : E0.opn 81 = true := rfl
theorem e85 (xs : List AV) (H : Hp) : ev E0 85 xs H = runF E0 (ev E0) loopW L85 xs H := ev_eq E0 85 xs H
@[simp] theorem o85 : E0.opn 85 = false := rfl
theorem e80 (xs : List AV) (H : Hp) : ev E0 80 xs H = runF E0 (ev E0) loopW L80 xs H := ev_eq E0 80 xs H
@[simp] theorem o80 : E0.opn 80 = true := rfl
theorem e157 (xs : List AV) (H : Hp) : ev E0 157 xs H = runF E0 (ev E0) loopW L157 xs H := ev_eq E0 157 xs H
@[simp] theorem o157 : E0.opn 157 = true := rfl
theorem e104 (xs : List AV) (H : Hp) : ev E0 104 xs H = runF E0 (ev E0) loopW L104 xs H := ev_eq E0 104 xs H
@[simp] theorem o104 : E0.opn 104 = true := rfl
theorem e108 (xs : List AV) (H : Hp) : ev E0 108 xs H = runF E0 (ev E0) loopW L108 xs H := ev_eq E0 108 xs H
@[simp] theorem o108 : E0.opn 108 = false := rfl
theorem e156 (xs : List AV) (H : Hp) : ev E0 156 xs H = runF E0 (ev E0) loopW L156 xs H := ev_eq E0 156 xs H
@[simp] theorem o156 : E0.opn 156 = false := rfl
theorem e102 (xs : List AV) (H : Hp) : ev E0 102 xs H = runF E0 (ev E0) loopW L102 xs H := ev_eq E0 102 xs H
@[simp] theorem o102 : E0.opn 102 = true := rfl
theorem e115 (xs : List AV) (H : Hp) : ev E0 115 xs H = runF E0 (ev E0) loopW L115 xs H := ev_eq E0 115 xs H
@[simp] theorem o115 : E0.opn 115 = true := rfl
theorem e89 (xs : List AV) (H : Hp) : ev E0 89 xs H = runF E0 (ev E0) loopW L89 xs H := ev_eq E0 89 xs H
@[simp] theorem o89 : E0.opn 89 = false := rfl
theorem e112 (xs : List AV) (H : Hp) : ev E0 112 xs H = runF E0 (ev E0) loopW L112 xs H := ev_eq E0 112 xs H
@[simp] theorem o112 : E0.opn 112 = false := rfl
theorem e163 (xs : List AV) (H : Hp) : ev E0 163 xs H = runF E0 (ev E0) loopW L163 xs H := ev_eq E0 163 xs H
@[simp] theorem o163 : E0.opn 163 = false := rfl
theorem e125 (xs : List AV) (H : Hp) : ev E0 125 xs H = runF E0 (ev E0) loopW L125 xs H := ev_eq E0 125 xs H
@[simp] theorem o125 : E0.opn 125 = false := rfl
theorem e79 (xs : List AV) (H : Hp) : ev E0 79 xs H = runF E0 (ev E0) loopW L79 xs H := ev_eq E0 79 xs H
@[simp] theorem o79 : E0.opn 79 = true := rfl
theorem e84 (xs : List AV) (H : Hp) : ev E0 84 xs H = runF E0 (ev E0) loopW L84 xs H := ev_eq E0 84 xs H
@[simp] theorem o84 : E0.opn 84 = false := rfl
theorem e107 (xs : List AV) (H : Hp) : ev E0 107 xs H = runF E0 (ev E0) loopW L107 xs H := ev_eq E0 107 xs H
@[simp] theorem o107 : E0.opn 107 = false := rfl
theorem e96 (xs : List AV) (H : Hp) : ev E0 96 xs H = runF E0 (ev E0) loopW L96 xs H := ev_eq E0 96 xs H
@[simp] theorem o96 : E0.opn 96 = false := rfl
theorem e121 (xs : List AV) (H : Hp) : ev E0 121 xs H = runF E0 (ev E0) loopW L121 xs H := ev_eq E0 121 xs H
@[simp] theorem o121 : E0.opn 121 = false := rfl
theorem e122 (xs : List AV) (H : Hp) : ev E0 122 xs H = runF E0 (ev E0) loopW L122 xs H := ev_eq E0 122 xs H
@[simp] theorem o122 : E0.opn 122 = false := rfl
theorem e165 (xs : List AV) (H : Hp) : ev E0 165 xs H = runF E0 (ev E0) loopW L165 xs H := ev_eq E0 165 xs H
@[simp] theorem o165 : E0.opn 165 = false := rfl
theorem e160 (xs : List AV) (H : Hp) : ev E0 160 xs H = runF E0 (ev E0) loopW L160 xs H := ev_eq E0 160 xs H
@[simp] theorem o160 : E0.opn 160 = true := rfl
theorem e128 (xs : List AV) (H : Hp) : ev E0 128 xs H = runF E0 (ev E0) loopW L128 xs H := ev_eq E0 128 xs H
@[simp] theorem o128 : E0.opn 128 = true := rfl
theorem e133 (xs : List AV) (H : Hp) : ev E0 133 xs H = runF E0 (ev E0) loopW L133 xs H := ev_eq E0 133 xs H
@[simp] theorem o133 : E0.opn 133 = false := rfl
theorem e141 (xs : List AV) (H : Hp) : ev E0 141 xs H = runF E0 (ev E0) loopW L141 xs H := ev_eq E0 141 xs H
@[simp] theorem o141 : E0.opn 141 = false := rfl
theorem e78 (xs : List AV) (H : Hp) : ev E0 78 xs H = runF E0 (ev E0) loopW L78 xs H := ev_eq E0 78 xs H
@[simp] theorem o78 : E0.opn 78 = true := rfl
theorem e73 (xs : List AV) (H : Hp) : ev E0 73 xs H = runF E0 (ev E0) loopW L73 xs H := ev_eq E0 73 xs H
@[simp] theorem o73 : E0.opn 73 = false := rfl
theorem e7 (xs : List AV) (H : Hp) : ev E0 7 xs H = runF E0 (ev E0) loopW L7 xs H := ev_eq E0 7 xs H
@[simp] theorem o7 : E0.opn 7 = false := rfl
theorem e10 (xs : List AV) (H : Hp) : ev E0 10 xs H = runF E0 (ev E0) loopW L10 xs H := ev_eq E0 10 xs H
@[simp] theorem o10 : E0.opn 10 = false := rfl
theorem e74 (xs : List AV) (H : Hp) : ev E0 74 xs H = runF E0 (ev E0) loopW L74 xs H := ev_eq E0 74 xs H
@[simp] theorem o74 : E0.opn 74 = false := rfl
theorem e8 (xs : List AV) (H : Hp) : ev E0 8 xs H = runF E0 (ev E0) loopW L8 xs H := ev_eq E0 8 xs H
@[simp] theorem o8 : E0.opn 8 = false := rfl
theorem e75 (xs : List AV) (H : Hp) : ev E0 75 xs H = runF E0 (ev E0) loopW L75 xs H := ev_eq E0 75 xs H
@[simp] theorem o75 : E0.opn 75 = false := rfl
theorem e76 (xs : List AV) (H : Hp) : ev E0 76 xs H = runF E0 (ev E0) loopW L76 xs H := ev_eq E0 76 xs H
@[simp] theorem o76 : E0.opn 76 = false := rfl
theorem e9 (xs : List AV) (H : Hp) : ev E0 9 xs H = runF E0 (ev E0) loopW L9 xs H := ev_eq E0 9 xs H
@[simp] theorem o9 : E0.opn 9 = false := rfl
theorem e11 (xs : List AV) (H : Hp) : ev E0 11 xs H = runF E0 (ev E0) loopW L11 xs H := ev_eq E0 11 xs H
@[simp] theorem o11 : E0.opn 11 = false := rfl
theorem e12 (xs : List AV) (H : Hp) : ev E0 12 xs H = runF E0 (ev E0) loopW L12 xs H := ev_eq E0 12 xs H
@[simp] theorem o12 : E0.opn 12 = false := rfl
theorem e82 (xs : List AV) (H : Hp) : ev E0 82 xs H = runF E0 (ev E0) loopW L82 xs H := ev_eq E0 82 xs H
@[simp] theorem o82 : E0.opn 82 = false := rfl
theorem e171 (xs : List AV) (H : Hp) : ev E0 171 xs H = runF E0 (ev E0) loopW L171 xs H := ev_eq E0 171 xs H
@[simp] theorem o171 : E0.opn 171 = false := rfl
theorem e172 (xs : List AV) (H : Hp) : ev E0 172 xs H = runF E0 (ev E0) loopW L172 xs H := ev_eq E0 172 xs H
@[simp] theorem o172 : E0.opn 172 = false := rfl
theorem e146 (xs : List AV) (H : Hp) : ev E0 146 xs H = runF E0 (ev E0) loopW L146 xs H := ev_eq E0 146 xs H
@[simp] theorem o146 : E0.opn 146 = false := rfl
theorem e173 (xs : List AV) (H : Hp) : ev E0 173 xs H = runF E0 (ev E0) loopW L173 xs H := ev_eq E0 173 xs H
@[simp] theorem o173 : E0.opn 173 = false := rfl
theorem e147 (xs : List AV) (H : Hp) : ev E0 147 xs H = runF E0 (ev E0) loopW L147 xs H := ev_eq E0 147 xs H
@[simp] theorem o147 : E0.opn 147 = false := rfl
theorem e175 (xs : List AV) (H : Hp) : ev E0 175 xs H = runF E0 (ev E0) loopW L175 xs H := ev_eq E0 175 xs H
@[simp] theorem o175 : E0.opn 175 = true := rfl
theorem e148 (xs : List AV) (H : Hp) : ev E0 148 xs H = runF E0 (ev E0) loopW L148 xs H := ev_eq E0 148 xs H
@[simp] theorem o148 : E0.opn 148 = true := rfl
theorem e149 (xs : List AV) (H : Hp) : ev E0 149 xs H = runF E0 (ev E0) loopW L149 xs H := ev_eq E0 149 xs H
@[simp] theorem o149 : E0.opn 149 = true := rfl
theorem e150 (xs : List AV) (H : Hp) : ev E0 150 xs H = runF E0 (ev E0) loopW L150 xs H := ev_eq E0 150 xs H
@[simp] theorem o150 : E0.opn 150 = true := rfl
theorem e151 (xs : List AV) (H : Hp) : ev E0 151 xs H = runF E0 (ev E0) loopW L151 xs H := ev_eq E0 151 xs H
@[simp] theorem o151 : E0.opn 151 = true := rfl
theorem e92 (xs : List AV) (H : Hp) : ev E0 92 xs H = runF E0 (ev E0) loopW L92 xs H := ev_eq E0 92 xs H
@[simp] theorem o92 : E0.opn 92 = false := rfl
theorem e83 (xs : List AV) (H : Hp) : ev E0 83 xs H = runF E0 (ev E0) loopW L83 xs H := ev_eq E0 83 xs H
@[simp] theorem o83 : E0.opn 83 = false := rfl
theorem e13 (xs : List AV) (H : Hp) : ev E0 13 xs H = runF E0 (ev E0) loopW L13 xs H := ev_eq E0 13 xs H
@[simp] theorem o13 : E0.opn 13 = false := rfl
theorem e14 (xs : List AV) (H : Hp) : ev E0 14 xs H = runF E0 (ev E0) loopW L14 xs H := ev_eq E0 14 xs H
@[simp] theorem o14 : E0.opn 14 = false := rfl
theorem e15 (xs : List AV) (H : Hp) : ev E0 15 xs H = runF E0 (ev E0) loopW L15 xs H := ev_eq E0 15 xs H
@[simp] theorem o15 : E0.opn 15 = false := rfl
theorem e87 (xs : List AV) (H : Hp) : ev E0 87 xs H = runF E0 (ev E0) loopW L87 xs H := ev_eq E0 87 xs H
@[simp] theorem o87 : E0.opn 87 = false := rfl
theorem e16 (xs : List AV) (H : Hp) : ev E0 16 xs H = runF E0 (ev E0) loopW L16 xs H := ev_eq E0 16 xs H
@[simp] theorem o16 : E0.opn 16 = false := rfl
theorem e17 (xs : List AV) (H : Hp) : ev E0 17 xs H = runF E0 (ev E0) loopW L17 xs H := ev_eq E0 17 xs H
@[simp] theorem o17 : E0.opn 17 = false := rfl
theorem e88 (xs : List AV) (H : Hp) : ev E0 88 xs H = runF E0 (ev E0) loopW L88 xs H := ev_eq E0 88 xs H
@[simp] theorem o88 : E0.opn 88 = false := rfl
theorem e18 (xs : List AV) (H : Hp) : ev E0 18 xs H = runF E0 (ev E0) loopW L18 xs H := ev_eq E0 18 xs H
@[simp] theorem o18 : E0.opn 18 = false := rfl
theorem e19 (xs : List AV) (H : Hp) : ev E0 19 xs H = runF E0 (ev E0) loopW L19 xs H := ev_eq E0 19 xs H
@[simp] theorem o19 : E0.opn 19 = false := rfl
theorem e90 (xs : List AV) (H : Hp) : ev E0 90 xs H = runF E0 (ev E0) loopW L90 xs H := ev_eq E0 90 xs H
@[simp] theorem o90 : E0.opn 90 = false := rfl
theorem e20 (xs : List AV) (H : Hp) : ev E0 20 xs H = runF E0 (ev E0) loopW L20 xs H := ev_eq E0 20 xs H
@[simp] theorem o20 : E0.opn 20 = false := rfl
theorem e91 (xs : List AV) (H : Hp) : ev E0 91 xs H = runF E0 (ev E0) loopW L91 xs H := ev_eq E0 91 xs H
@[simp] theorem o91 : E0.opn 91 = false := rfl
theorem e21 (xs : List AV) (H : Hp) : ev E0 21 xs H = runF E0 (ev E0) loopW L21 xs H := ev_eq E0 21 xs H
@[simp] theorem o21 : E0.opn 21 = false := rfl
theorem e22 (xs : List AV) (H : Hp) : ev E0 22 xs H = runF E0 (ev E0) loopW L22 xs H := ev_eq E0 22 xs H
@[simp] theorem o22 : E0.opn 22 = false := rfl
theorem e23 (xs : List AV) (H : Hp) : ev E0 23 xs H = runF E0 (ev E0) loopW L23 xs H := ev_eq E0 23 xs H
@[simp] theorem o23 : E0.opn 23 = false := rfl
theorem e24 (xs : List AV) (H : Hp) : ev E0 24 xs H = runF E0 (ev E0) loopW L24 xs H := ev_eq E0 24 xs H
@[simp] theorem o24 : E0.opn 24 = false := rfl
theorem e25 (xs : List AV) (H : Hp) : ev E0 25 xs H = runF E0 (ev E0) loopW L25 xs H := ev_eq E0 25 xs H
@[simp] theorem o25 : E0.opn 25 = false := rfl
theorem e26 (xs : List AV) (H : Hp) : ev E0 26 xs H = runF E0 (ev E0) loopW L26 xs H := ev_eq E0 26 xs H
@[simp] theorem o26 : E0.opn 26 = false := rfl
theorem e27 (xs : List AV) (H : Hp) : ev E0 27 xs H = runF E0 (ev E0) loopW L27 xs H := ev_eq E0 27 xs H
@[simp] theorem o27 : E0.opn 27 = false := rfl
theorem e28 (xs : List AV) (H : Hp) : ev E0 28 xs H = runF E0 (ev E0) loopW L28 xs H := ev_eq E0 28 xs H
@[simp] theorem o28 : E0.opn 28 = false := rfl
theorem e3 (xs : List AV) (H : Hp) : ev E0 3 xs H = runF E0 (ev E0) loopW L3 xs H := ev_eq E0 3 xs H
@[simp] theorem o3 : E0.opn 3 = false := rfl
theorem e93 (xs : List AV) (H : Hp) : ev E0 93 xs H = runF E0 (ev E0) loopW L93 xs H := ev_eq E0 93 xs H
@[simp] theorem o93 : E0.opn 93 = false := rfl
theorem e29 (xs : List AV) (H : Hp) : ev E0 29 xs H = runF E0 (ev E0) loopW L29 xs H := ev_eq E0 29 xs H
@[simp] theorem o29 : E0.opn 29 = false := rfl
theorem e158 (xs : List AV) (H : Hp) : ev E0 158 xs H = runF E0 (ev E0) loopW L158 xs H := ev_eq E0 158 xs H
@[simp] theorem o158 : E0.opn 158 = false := rfl
theorem e105 (xs : List AV) (H : Hp) : ev E0 105 xs H = runF E0 (ev E0) loopW L105 xs H := ev_eq E0 105 xs H
@[simp] theorem o105 : E0.opn 105 = false := rfl
theorem e106 (xs : List AV) (H : Hp) : ev E0 106 xs H = runF E0 (ev E0) loopW L106 xs H := ev_eq E0 106 xs H
@[simp] theorem o106 : E0.opn 106 = false := rfl
theorem e154 (xs : List AV) (H : Hp) : ev E0 154 xs H = runF E0 (ev E0) loopW L154 xs H := ev_eq E0 154 xs H
@[simp] theorem o154 : E0.opn 154 = false := rfl
theorem e98 (xs : List AV) (H : Hp) : ev E0 98 xs H = runF E0 (ev E0) loopW L98 xs H := ev_eq E0 98 xs H
@[simp] theorem o98 : E0.opn 98 = false := rfl
theorem e94 (xs : List AV) (H : Hp) : ev E0 94 xs H = runF E0 (ev E0) loopW L94 xs H := ev_eq E0 94 xs H
@[simp] theorem o94 : E0.opn 94 = false := rfl
theorem e30 (xs : List AV) (H : Hp) : ev E0 30 xs H = runF E0 (ev E0) loopW L30 xs H := ev_eq E0 30 xs H
@[simp] theorem o30 : E0.opn 30 = false := rfl
theorem e97 (xs : List AV) (H : Hp) : ev E0 97 xs H = runF E0 (ev E0) loopW L97 xs H := ev_eq E0 97 xs H
@[simp] theorem o97 : E0.opn 97 = false := rfl
theorem e31 (xs : List AV) (H : Hp) : ev E0 31 xs H = runF E0 (ev E0) loopW L31 xs H := ev_eq E0 31 xs H
@[simp] theorem o31 : E0.opn 31 = false := rfl
theorem e32 (xs : List AV) (H : Hp) : ev E0 32 xs H = runF E0 (ev E0) loopW L32 xs H := ev_eq E0 32 xs H
@[simp] theorem o32 : E0.opn 32 = false := rfl
theorem e99 (xs : List AV) (H : Hp) : ev E0 99 xs H = runF E0 (ev E0) loopW L99 xs H := ev_eq E0 99 xs H
@[simp] theorem o99 : E0.opn 99 = false := rfl
theorem e33 (xs : List AV) (H : Hp) : ev E0 33 xs H = runF E0 (ev E0) loopW L33 xs H := ev_eq E0 33 xs H
@[simp] theorem o33 : E0.opn 33 = false := rfl
theorem e155 (xs : List AV) (H : Hp) : ev E0 155 xs H = runF E0 (ev E0) loopW L155 xs H := ev_eq E0 155 xs H
@[simp] theorem o155 : E0.opn 155 = true := rfl
theorem e100 (xs : List AV) (H : Hp) : ev E0 100 xs H = runF E0 (ev E0) loopW L100 xs H := ev_eq E0 100 xs H
@[simp] theorem o100 : E0.opn 100 = false := rfl
theorem e34 (xs : List AV) (H : Hp) : ev E0 34 xs H = runF E0 (ev E0) loopW L34 xs H := ev_eq E0 34 xs H
@[simp] theorem o34 : E0.opn 34 = false := rfl
theorem e101 (xs : List AV) (H : Hp) : ev E0 101 xs H = runF E0 (ev E0) loopW L101 xs H := ev_eq E0 101 xs H
@[simp] theorem o101 : E0.opn 101 = false := rfl
theorem e35 (xs : List AV) (H : Hp) : ev E0 35 xs H = runF E0 (ev E0) loopW L35 xs H := ev_eq E0 35 xs H
@[simp] theorem o35 : E0.opn 35 = false := rfl
theorem e36 (xs : List AV) (H : Hp) : ev E0 36 xs H = runF E0 (ev E0) loopW L36 xs H := ev_eq E0 36 xs H
@[simp] theorem o36 : E0.opn 36 = false := rfl
theorem e103 (xs : List AV) (H : Hp) : ev E0 103 xs H = runF E0 (ev E0) loopW L103 xs H := ev_eq E0 103 xs H
@[simp] theorem o103 : E0.opn 103 = false := rfl
theorem e37 (xs : List AV) (H : Hp) : ev E0 37 xs H = runF E0 (ev E0) loopW L37 xs H := ev_eq E0 37 xs H
@[simp] theorem o37 : E0.opn 37 = false := rfl
theorem e38 (xs : List AV) (H : Hp) : ev E0 38 xs H = runF E0 (ev E0) loopW L38 xs H := ev_eq E0 38 xs H
@[simp] theorem o38 : E0.opn 38 = false := rfl
theorem e39 (xs : List AV) (H : Hp) : ev E0 39 xs H = runF E0 (ev E0) loopW L39 xs H := ev_eq E0 39 xs H
@[simp] theorem o39 : E0.opn 39 = false := rfl
theorem e40 (xs : List AV) (H : Hp) : ev E0 40 xs H = runF E0 (ev E0) loopW L40 xs H := ev_eq E0 40 xs H
@[simp] theorem o40 : E0.opn 40 = false := rfl
theorem e41 (xs : List AV) (H : Hp) : ev E0 41 xs H = runF E0 (ev E0) loopW L41 xs H := ev_eq E0 41 xs H
@[simp] theorem o41 : E0.opn 41 = false := rfl
theorem e109 (xs : List AV) (H : Hp) : ev E0 109 xs H = runF E0 (ev E0) loopW L109 xs H := ev_eq E0 109 xs H
@[simp] theorem o109 : E0.opn 109 = false := rfl
theorem e42 (xs : List AV) (H : Hp) : ev E0 42 xs H = runF E0 (ev E0) loopW L42 xs H := ev_eq E0 42 xs H
@[simp] theorem o42 : E0.opn 42 = false := rfl
theorem e110 (xs : List AV) (H : Hp) : ev E0 110 xs H = runF E0 (ev E0) loopW L110 xs H := ev_eq E0 110 xs H
@[simp] theorem o110 : E0.opn 110 = false := rfl
theorem e43 (xs : List AV) (H : Hp) : ev E0 43 xs H = runF E0 (ev E0) loopW L43 xs H := ev_eq E0 43 xs H
@[simp] theorem o43 : E0.opn 43 = false := rfl
theorem e44 (xs : List AV) (H : Hp) : ev E0 44 xs H = runF E0 (ev E0) loopW L44 xs H := ev_eq E0 44 xs H
@[simp] theorem o44 : E0.opn 44 = false := rfl
theorem e45 (xs : List AV) (H : Hp) : ev E0 45 xs H = runF E0 (ev E0) loopW L45 xs H := ev_eq E0 45 xs H
@[simp] theorem o45 : E0.opn 45 = false := rfl
theorem e46 (xs : List AV) (H : Hp) : ev E0 46 xs H = runF E0 (ev E0) loopW L46 xs H := ev_eq E0 46 xs H
@[simp] theorem o46 : E0.opn 46 = false := rfl
theorem e47 (xs : List AV) (H : Hp) : ev E0 47 xs H = runF E0 (ev E0) loopW L47 xs H := ev_eq E0 47 xs H
@[simp] theorem o47 : E0.opn 47 = false := rfl
theorem e111 (xs : List AV) (H : Hp) : ev E0 111 xs H = runF E0 (ev E0) loopW L111 xs H := ev_eq E0 111 xs H
@[simp] theorem o111 : E0.opn 111 = false := rfl
theorem e48 (xs : List AV) (H : Hp) : ev E0 48 xs H = runF E0 (ev E0) loopW L48 xs H := ev_eq E0 48 xs H
@[simp] theorem o48 : E0.opn 48 = false := rfl
theorem e49 (xs : List AV) (H : Hp) : ev E0 49 xs H = runF E0 (ev E0) loopW L49 xs H := ev_eq E0 49 xs H
@[simp] theorem o49 : E0.opn 49 = false := rfl
theorem e50 (xs : List AV) (H : Hp) : ev E0 50 xs H = runF E0 (ev E0) loopW L50 xs H := ev_eq E0 50 xs H
@[simp] theorem o50 : E0.opn 50 = false := rfl
theorem e114 (xs : List AV) (H : Hp) : ev E0 114 xs H = runF E0 (ev E0) loopW L114 xs H := ev_eq E0 114 xs H
@[simp] theorem o114 : E0.opn 114 = false := rfl
theorem e51 (xs : List AV) (H : Hp) : ev E0 51 xs H = runF E0 (ev E0) loopW L51 xs H := ev_eq E0 51 xs H
@[simp] theorem o51 : E0.opn 51 = false := rfl
theorem e52 (xs : List AV) (H : Hp) : ev E0 52 xs H = runF E0 (ev E0) loopW L52 xs H := ev_eq E0 52 xs H
@[simp] theorem o52 : E0.opn 52 = false := rfl
theorem e53 (xs : List AV) (H : Hp) : ev E0 53 xs H = runF E0 (ev E0) loopW L53 xs H := ev_eq E0 53 xs H
@[simp] theorem o53 : E0.opn 53 = false := rfl
theorem e117 (xs : List AV) (H : Hp) : ev E0 117 xs H = runF E0 (ev E0) loopW L117 xs H := ev_eq E0 117 xs H
@[simp] theorem o117 : E0.opn 117 = false := rfl
theorem e54 (xs : List AV) (H : Hp) : ev E0 54 xs H = runF E0 (ev E0) loopW L54 xs H := ev_eq E0 54 xs H
@[simp] theorem o54 : E0.opn 54 = false := rfl
theorem e4 (xs : List AV) (H : Hp) : ev E0 4 xs H = runF E0 (ev E0) loopW L4 xs H := ev_eq E0 4 xs H
@[simp] theorem o4 : E0.opn 4 = false := rfl
theorem e118 (xs : List AV) (H : Hp) : ev E0 118 xs H = runF E0 (ev E0) loopW L118 xs H := ev_eq E0 118 xs H
@[simp] theorem o118 : E0.opn 118 = false := rfl
theorem e55 (xs : List AV) (H : Hp) : ev E0 55 xs H = runF E0 (ev E0) loopW L55 xs H := ev_eq E0 55 xs H
@[simp] theorem o55 : E0.opn 55 = false := rfl
theorem e123 (xs : List AV) (H : Hp) : ev E0 123 xs H = runF E0 (ev E0) loopW L123 xs H := ev_eq E0 123 xs H
@[simp] theorem o123 : E0.opn 123 = false := rfl
theorem e119 (xs : List AV) (H : Hp) : ev E0 119 xs H = runF E0 (ev E0) loopW L119 xs H := ev_eq E0 119 xs H
@[simp] theorem o119 : E0.opn 119 = false := rfl
theorem e120 (xs : List AV) (H : Hp) : ev E0 120 xs H = runF E0 (ev E0) loopW L120 xs H := ev_eq E0 120 xs H
@[simp] theorem o120 : E0.opn 120 = false := rfl
theorem e56 (xs : List AV) (H : Hp) : ev E0 56 xs H = runF E0 (ev E0) loopW L56 xs H := ev_eq E0 56 xs H
@[simp] theorem o56 : E0.opn 56 = false := rfl
theorem e57 (xs : List AV) (H : Hp) : ev E0 57 xs H = runF E0 (ev E0) loopW L57 xs H := ev_eq E0 57 xs H
@[simp] theorem o57 : E0.opn 57 = false := rfl
theorem e58 (xs : List AV) (H : Hp) : ev E0 58 xs H = runF E0 (ev E0) loopW L58 xs H := ev_eq E0 58 xs H
@[simp] theorem o58 : E0.opn 58 = false := rfl
theorem e59 (xs : List AV) (H : Hp) : ev E0 59 xs H = runF E0 (ev E0) loopW L59 xs H := ev_eq E0 59 xs H
@[simp] theorem o59 : E0.opn 59 = false := rfl
theorem e162 (xs : List AV) (H : Hp) : ev E0 162 xs H = runF E0 (ev E0) loopW L162 xs H := ev_eq E0 162 xs H
@[simp] theorem o162 : E0.opn 162 = false := rfl
theorem e124 (xs : List AV) (H : Hp) : ev E0 124 xs H = runF E0 (ev E0) loopW L124 xs H := ev_eq E0 124 xs H
@[simp] theorem o124 : E0.opn 124 = false := rfl
theorem e60 (xs : List AV) (H : Hp) : ev E0 60 xs H = runF E0 (ev E0) loopW L60 xs H := ev_eq E0 60 xs H
@[simp] theorem o60 : E0.opn 60 = false := rfl
theorem e61 (xs : List AV) (H : Hp) : ev E0 61 xs H = runF E0 (ev E0) loopW L61 xs H := ev_eq E0 61 xs H
@[simp] theorem o61 : E0.opn 61 = false := rfl
theorem e62 (xs : List AV) (H : Hp) : ev E0 62 xs H = runF E0 (ev E0) loopW L62 xs H := ev_eq E0 62 xs H
@[simp] theorem o62 : E0.opn 62 = false := rfl
theorem e126 (xs : List AV) (H : Hp) : ev E0 126 xs H = runF E0 (ev E0) loopW L126 xs H := ev_eq E0 126 xs H
@[simp] theorem o126 : E0.opn 126 = false := rfl
theorem e63 (xs : List AV) (H : Hp) : ev E0 63 xs H = runF E0 (ev E0) loopW L63 xs H := ev_eq E0 63 xs H
@[simp] theorem o63 : E0.opn 63 = false := rfl
theorem e64 (xs : List AV) (H : Hp) : ev E0 64 xs H = runF E0 (ev E0) loopW L64 xs H := ev_eq E0 64 xs H
@[simp] theorem o64 : E0.opn 64 = false := rfl
theorem e65 (xs : List AV) (H : Hp) : ev E0 65 xs H = runF E0 (ev E0) loopW L65 xs H := ev_eq E0 65 xs H
@[simp] theorem o65 : E0.opn 65 = false := rfl
theorem e66 (xs : List AV) (H : Hp) : ev E0 66 xs H = runF E0 (ev E0) loopW L66 xs H := ev_eq E0 66 xs H
@[simp] theorem o66 : E0.opn 66 = false := rfl
theorem e129 (xs : List AV) (H : Hp) : ev E0 129 xs H = runF E0 (ev E0) loopW L129 xs H := ev_eq E0 129 xs H
@[simp] theorem o129 : E0.opn 129 = false := rfl
theorem e164 (xs : List AV) (H : Hp) : ev E0 164 xs H = runF E0 (ev E0) loopW L164 xs H := ev_eq E0 164 xs H
@[simp] theorem o164 : E0.opn 164 = false := rfl
theorem e130 (xs : List AV) (H : Hp) : ev E0 130 xs H = runF E0 (ev E0) loopW L130 xs H := ev_eq E0 130 xs H
@[simp] theorem o130 : E0.opn 130 = false := rfl
theorem e67 (xs : List AV) (H : Hp) : ev E0 67 xs H = runF E0 (ev E0) loopW L67 xs H := ev_eq E0 67 xs H
@[simp] theorem o67 : E0.opn 67 = false := rfl
theorem e131 (xs : List AV) (H : Hp) : ev E0 131 xs H = runF E0 (ev E0) loopW L131 xs H := ev_eq E0 131 xs H
@[simp] theorem o131 : E0.opn 131 = false := rfl
theorem e68 (xs : List AV) (H : Hp) : ev E0 68 xs H = runF E0 (ev E0) loopW L68 xs H := ev_eq E0 68 xs H
@[simp] theorem o68 : E0.opn 68 = false := rfl
theorem e132 (xs : List AV) (H : Hp) : ev E0 132 xs H = runF E0 (ev E0) loopW L132 xs H := ev_eq E0 132 xs H
@[simp] theorem o132 : E0.opn 132 = false := rfl
theorem e69 (xs : List AV) (H : Hp) : ev E0 69 xs H = runF E0 (ev E0) loopW L69 xs H := ev_eq E0 69 xs H
@[simp] theorem o69 : E0.opn 69 = false := rfl
theorem e70 (xs : List AV) (H : Hp) : ev E0 70 xs H = runF E0 (ev E0) loopW L70 xs H := ev_eq E0 70 xs H
@[simp] theorem o70 : E0.opn 70 = false := rfl
theorem e71 (xs : List AV) (H : Hp) : ev E0 71 xs H = runF E0 (ev E0) loopW L71 xs H := ev_eq E0 71 xs H
@[simp] theorem o71 : E0.opn 71 = false := rfl
theorem e72 (xs : List AV) (H : Hp) : ev E0 72 xs H = runF E0 (ev E0) loopW L72 xs H := ev_eq E0 72 xs H
@[simp] theorem o72 : E0.opn 72 = false := rfl
theorem e5 (xs : List AV) (H : Hp) : ev E0 5 xs H = runF E0 (ev E0) loopW L5 xs H := ev_eq E0 5 xs H
@[simp] theorem o5 : E0.opn 5 = false := rfl
theorem e77 (xs : List AV) (H : Hp) : ev E0 77 xs H = trimP xs H := ev_eq E0 77 xs H
@[simp] theorem o77 : E0.opn 77 = false := rfl
theorem e116 (xs : List AV) (H : Hp) : ev E0 116 xs H = splitP xs H := ev_eq E0 116 xs H
@[simp] theorem o116 : E0.opn 116 = false := rfl
theorem e113 (xs : List AV) (H : Hp) : ev E0 113 xs H = joinP xs H := ev_eq E0 113 xs H
@[simp] theorem o113 : E0.opn 113 = false := rfl
theorem e86 (xs : List AV) (H : Hp) : ev E0 86 xs H = countP xs H := ev_eq E0 86 xs H
@[simp] theorem o86 : E0.opn 86 = false := rfl
theorem e161 (xs : List AV) (H : Hp) : ev E0 161 xs H = fieldsP xs H := ev_eq E0 161 xs H
@[simp] theorem o161 : E0.opn 161 = false := rfl
theorem e95 (xs : List AV) (H : Hp) : ev E0 95 xs H = oppositeP xs H := ev_eq E0 95 xs H
@[simp] theorem o95 : E0.opn 95 = false := rfl
theorem e127 (xs : List AV) (H : Hp) : ev E0 127 xs H = bareP xs H := ev_eq E0 127 xs H
@[simp] theorem o127 : E0.opn 127 = false := rfl
theorem mixed : Go.Proofs.Tryz.prog.follows .mixedOrders = true := by kernel_rfl
set_option maxHeartbeats 8000000 in
theorem envFn : ∀ f lf, fnOf f = some lf → ∃ fn lv, Go.Proofs.Tryz.prog.funcs[f]? = some fn ∧ compF Go.Proofs.Tryz.prog lv fn = some lf := by
  intro f lf h
  unfold fnOf at h
  split at h
  · cases h; exact ⟨_, _, Go.Proofs.Tryz.func6, c6⟩
  · cases h; exact ⟨_, _, Go.Proofs.Tryz.func142, c142⟩
  · cases h; exact ⟨_, _, Go.Proofs.Tryz.func81, c81⟩
  · cases h; exact ⟨_, _, Go.Proofs.Tryz.func85, c85⟩
  · cases h; exact ⟨_, _, Go.Proofs.Tryz.func80, c80⟩
  · cases h; exact ⟨_, _, Go.Proofs.Tryz.func157, c157⟩
  · cases h; exact ⟨_, _, Go.Proofs.Tryz.func104, c104⟩
  · cases h; exact ⟨_, _, Go.Proofs.Tryz.func108, c108⟩
  · cases h; exact ⟨_, _, Go.Proofs.Tryz.func156, c156⟩
  · cases h; exact ⟨_, _, Go.Proofs.Tryz.func102, c102⟩
  · cases h; exact ⟨_, _, Go.Proofs.Tryz.func115, c115⟩
  · cases h; exact ⟨_, _, Go.Proofs.Tryz.func89, c89⟩
  · cases h; exact ⟨_, _, Go.Proofs.Tryz.func112, c112⟩
  · cases h; exact ⟨_, _, Go.Proofs.Tryz.func163, c163⟩
  · cases h; exact ⟨_, _, Go.Proofs.Tryz.func125, c125⟩
  · cases h; exact ⟨_, _, Go.Proofs.Tryz.func79, c79⟩
  · cases h; exact ⟨_, _, Go.Proofs.Tryz.func84, c84⟩
  · cases h; exact ⟨_, _, Go.Proofs.Tryz.func107, c107⟩
  · cases h; exact ⟨_, _, Go.Proofs.Tryz.func96, c96⟩
  · cases h; exact ⟨_, _, Go.Proofs.Tryz.func121, c121⟩
  · cases h; exact ⟨_, _, Go.Proofs.Tryz.func122, c122⟩
  · cases h; exact ⟨_, _, Go.Proofs.Tryz.func165, c165⟩
  · cases h; exact ⟨_, _, Go.Proofs.Tryz.func160, c160⟩
  · cases h; exact ⟨_, _, Go.Proofs.Tryz.func128, c128⟩
  · cases h; exact ⟨_, _, Go.Proofs.Tryz.func133, c133⟩
  · cases h; exact ⟨_, _, Go.Proofs.Tryz.func141, c141⟩
  · cases h; exact ⟨_, _, Go.Proofs.Tryz.func78, c78⟩
  · cases h; exact ⟨_, _, Go.Proofs.Tryz.func73, c73⟩
  · cases h; exact ⟨_, _, Go.Proofs.Tryz.func7, c7⟩
  · cases h; exact ⟨_, _, Go.Proofs.Tryz.func10, c10⟩
  · cases h; exact ⟨_, _, Go.Proofs.Tryz.func74, c74⟩
  · cases h; exact ⟨_, _, Go.Proofs.Tryz.func8, c8⟩
  · cases h; exact ⟨_, _, Go.Proofs.Tryz.func75, c75⟩
  · cases h; exact ⟨_, _, Go.Proofs.Tryz.func76, c76⟩
  · cases h; exact ⟨_, _, Go.Proofs.Tryz.func9, c9⟩
  · cases h; exact ⟨_, _, Go.Proofs.Tryz.func11, c11⟩
  · cases h; exact ⟨_, _, Go.Proofs.Tryz.func12, c12⟩
  · cases h; exact ⟨_, _, Go.Proofs.Tryz.func82, c82⟩
  · cases h; exact ⟨_, _, Go.Proofs.Tryz.func171, c171⟩
  · cases h; exact ⟨_, _, Go.Proofs.Tryz.func172, c172⟩
  · cases h; exact ⟨_, _, Go.Proofs.Tryz.func146, c146⟩
  · cases h; exact ⟨_, _, Go.Proofs.Tryz.func173, c173⟩
  · cases h; exact ⟨_, _, Go.Proofs.Tryz.func147, c147⟩
  · cases h; exact ⟨_, _, Go.Proofs.Tryz.func175, c175⟩
  · cases h; exact ⟨_, _, Go.Proofs.Tryz.func148, c148⟩
  · cases h; exact ⟨_, _, Go.Proofs.Tryz.func149, c149⟩
  · cases h; exact ⟨_, _, Go.Proofs.Tryz.func150, c150⟩
  · cases h; exact ⟨_, _, Go.Proofs.Tryz.func151, c151⟩
  · cases h; exact ⟨_, _, Go.Proofs.Tryz.func92, c92⟩
  · cases h; exact ⟨_, _, Go.Proofs.Tryz.func83, c83⟩
  · cases h; exact ⟨_, _, Go.Proofs.Tryz.func13, c13⟩
  · cases h; exact ⟨_, _, Go.Proofs.Tryz.func14, c14⟩
  · cases h; exact ⟨_, _, Go.Proofs.Tryz.func15, c15⟩
  · cases h; exact ⟨_, _, Go.Proofs.Tryz.func87, c87⟩
  · cases h; exact ⟨_, _, Go.Proofs.Tryz.func16, c16⟩
  · cases h; exact ⟨_, _, Go.Proofs.Tryz.func17, c17⟩
  · cases h; exact ⟨_, _, Go.Proofs.Tryz.func88, c88⟩
  · cases h; exact ⟨_, _, Go.Proofs.Tryz.func18, c18⟩
  · cases h; exact ⟨_, _, Go.Proofs.Tryz.func19, c19⟩
  · cases h; exact ⟨_, _, Go.Proofs.Tryz.func90, c90⟩
  · cases h; exact ⟨_, _, Go.Proofs.Tryz.func20, c20⟩
  · cases h; exact ⟨_, _, Go.Proofs.Tryz.func91, c91⟩
  · cases h; exact ⟨_, _, Go.Proofs.Tryz.func21, c21⟩
  · cases h; exact ⟨_, _, Go.Proofs.Tryz.func22, c22⟩
  · cases h; exact ⟨_, _, Go.Proofs.Tryz.func23, c23⟩
  · cases h; exact ⟨_, _, Go.Proofs.Tryz.func24, c24⟩
  · cases h; exact ⟨_, _, Go.Proofs.Tryz.func25, c25⟩
  · cases h; exact ⟨_, _, Go.Proofs.Tryz.func26, c26⟩
  · cases h; exact ⟨_, _, Go.Proofs.Tryz.func27, c27⟩
  · cases h; exact ⟨_, _, Go.Proofs.Tryz.func28, c28⟩
  · cases h; exact ⟨_, _, Go.Proofs.Tryz.func3, c3⟩
  · cases h; exact ⟨_, _, Go.Proofs.Tryz.func93, c93⟩
  · cases h; exact ⟨_, _, Go.Proofs.Tryz.func29, c29⟩
  · cases h; exact ⟨_, _, Go.Proofs.Tryz.func158, c158⟩
  · cases h; exact ⟨_, _, Go.Proofs.Tryz.func105, c105⟩
  · cases h; exact ⟨_, _, Go.Proofs.Tryz.func106, c106⟩
  · cases h; exact ⟨_, _, Go.Proofs.Tryz.func154, c154⟩
  · cases h; exact ⟨_, _, Go.Proofs.Tryz.func98, c98⟩
  · cases h; exact ⟨_, _, Go.Proofs.Tryz.func94, c94⟩
  · cases h; exact ⟨_, _, Go.Proofs.Tryz.func30, c30⟩
  · cases h; exact ⟨_, _, Go.Proofs.Tryz.func97, c97⟩
  · cases h; exact ⟨_, _, Go.Proofs.Tryz.func31, c31⟩
  · cases h; exact ⟨_, _, Go.Proofs.Tryz.func32, c32⟩
  · cases h; exact ⟨_, _, Go.Proofs.Tryz.func99, c99⟩
  · cases h; exact ⟨_, _, Go.Proofs.Tryz.func33, c33⟩
  · cases h; exact ⟨_, _, Go.Proofs.Tryz.func155, c155⟩
  · cases h; exact ⟨_, _, Go.Proofs.Tryz.func100, c100⟩
  · cases h; exact ⟨_, _, Go.Proofs.Tryz.func34, c34⟩
  · cases h; exact ⟨_, _, Go.Proofs.Tryz.func101, c101⟩
  · cases h; exact ⟨_, _, Go.Proofs.Tryz.func35, c35⟩
  · cases h; exact ⟨_, _, Go.Proofs.Tryz.func36, c36⟩
  · cases h; exact ⟨_, _, Go.Proofs.Tryz.func103, c103⟩
  · cases h; exact ⟨_, _, Go.Proofs.Tryz.func37, c37⟩
  · cases h; exact ⟨_, _, Go.Proofs.Tryz.func38, c38⟩
  · cases h; exact ⟨_, _, Go.Proofs.Tryz.func39, c39⟩
  · cases h; exact ⟨_, _, Go.Proofs.Tryz.func40, c40⟩
  · cases h; exact ⟨_, _, Go.Proofs.Tryz.func41, c41⟩
  · cases h; exact ⟨_, _, Go.Proofs.Tryz.func109, c109⟩
  · cases h; exact ⟨_, _, Go.Proofs.Tryz.func42, c42⟩
  · cases h; exact ⟨_, _, Go.Proofs.Tryz.func110, c110⟩
  · cases h; exact ⟨_, _, Go.Proofs.Tryz.func43, c43⟩
  · cases h; exact ⟨_, _, Go.Proofs.Tryz.func44, c44⟩
  · cases h; exact ⟨_, _, Go.Proofs.Tryz.func45, c45⟩
  · cases h; exact ⟨_, _, Go.Proofs.Tryz.func46, c46⟩
  · cases h; exact ⟨_, _, Go.Proofs.Tryz.func47, c47⟩
  · cases h; exact ⟨_, _, Go.Proofs.Tryz.func111, c111⟩
  · cases h; exact ⟨_, _, Go.Proofs.Tryz.func48, c48⟩
  · cases h; exact ⟨_, _, Go.Proofs.Tryz.func49, c49⟩
  · cases h; exact ⟨_, _, Go.Proofs.Tryz.func50, c50⟩
  · cases h; exact ⟨_, _, Go.Proofs.Tryz.func114, c114⟩
  · cases h; exact ⟨_, _, Go.Proofs.Tryz.func51, c51⟩
  · cases h; exact ⟨_, _, Go.Proofs.Tryz.func52, c52⟩
  · cases h; exact ⟨_, _, Go.Proofs.Tryz.func53, c53⟩
  · cases h; exact ⟨_, _, Go.Proofs.Tryz.func117, c117⟩
  · cases h; exact ⟨_, _, Go.Proofs.Tryz.func54, c54⟩
  · cases h; exact ⟨_, _, Go.Proofs.Tryz.func4, c4⟩
  · cases h; exact ⟨_, _, Go.Proofs.Tryz.func118, c118⟩
  · cases h; exact ⟨_, _, Go.Proofs.Tryz.func55, c55⟩
  · cases h; exact ⟨_, _, Go.Proofs.Tryz.func123, c123⟩
  · cases h; exact ⟨_, _, Go.Proofs.Tryz.func119, c119⟩
  · cases h; exact ⟨_, _, Go.Proofs.Tryz.func120, c120⟩
  · cases h; exact ⟨_, _, Go.Proofs.Tryz.func56, c56⟩
  · cases h; exact ⟨_, _, Go.Proofs.Tryz.func57, c57⟩
  · cases h; exact ⟨_, _, Go.Proofs.Tryz.func58, c58⟩
  · cases h; exact ⟨_, _, Go.Proofs.Tryz.func59, c59⟩
  · cases h; exact ⟨_, _, Go.Proofs.Tryz.func162, c162⟩
  · cases h; exact ⟨_, _, Go.Proofs.Tryz.func124, c124⟩
  · cases h; exact ⟨_, _, Go.Proofs.Tryz.func60, c60⟩
  · cases h; exact ⟨_, _, Go.Proofs.Tryz.func61, c61⟩
  · cases h; exact ⟨_, _, Go.Proofs.Tryz.func62, c62⟩
  · cases h; exact ⟨_, _, Go.Proofs.Tryz.func126, c126⟩
  · cases h; exact ⟨_, _, Go.Proofs.Tryz.func63, c63⟩
  · cases h; exact ⟨_, _, Go.Proofs.Tryz.func64, c64⟩
  · cases h; exact ⟨_, _, Go.Proofs.Tryz.func65, c65⟩
  · cases h; exact ⟨_, _, Go.Proofs.Tryz.func66, c66⟩
  · cases h; exact ⟨_, _, Go.Proofs.Tryz.func129, c129⟩
  · cases h; exact ⟨_, _, Go.Proofs.Tryz.func164, c164⟩
  · cases h; exact ⟨_, _, Go.Proofs.Tryz.func130, c130⟩
  · cases h; exact ⟨_, _, Go.Proofs.Tryz.func67, c67⟩
  · cases h; exact ⟨_, _, Go.Proofs.Tryz.func131, c131⟩
  · cases h; exact ⟨_, _, Go.Proofs.Tryz.func68, c68⟩
  · cases h; exact ⟨_, _, Go.Proofs.Tryz.func132, c132⟩
  · cases h; exact ⟨_, _, Go.Proofs.Tryz.func69, c69⟩
  · cases h; exact ⟨_, _, Go.Proofs.Tryz.func70, c70⟩
  · cases h; exact ⟨_, _, Go.Proofs.Tryz.func71, c71⟩
  · cases h; exact ⟨_, _, Go.Proofs.Tryz.func72, c72⟩
  · cases h; exact ⟨_, _, Go.Proofs.Tryz.func5, c5⟩
  · cases h
set_option maxHeartbeats 8000000 in
theorem sound : CS Go.Proofs.Tryz.prog gw0 GW (ev E0) := by
  refine ev_sound gw_low mixed ⟨envFn, fun f p h => ?_⟩
  change primOf f = some p at h
  unfold primOf at h
  split at h
  · cases h; exact trim_ok
  · cases h; exact split_ok
  · cases h; exact join_ok
  · cases h; exact count_ok
  · cases h; exact fields_ok
  · cases h; exact opposite_ok
  · cases h; exact bare_ok
  · cases h
end Go.Proofs.YtckfbfgfjlgmeaaGreatDoor.Ev
