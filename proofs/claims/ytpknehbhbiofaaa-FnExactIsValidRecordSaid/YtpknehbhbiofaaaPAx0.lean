-- written by mkprint.py (a program of this session, over the kit print of the translation): Lean checks it
import Derived.Test.YtpknehbhbiofaaaProg
import Derived.Below
import Derived.Deep.Draws
import Derived.Deep.AppendLies
import Derived.Maps.AppendAt
import Derived.OwnWalk
import Derived.Laws.BytesArg
import Derived.Laws.MakeOwn
import Derived.Laws.OwnMore
import Derived.Deep.OwnRows
import Derived.Tactics
import Derived.Lib.ConvBytes
import Derived.Laws.Slices
import Derived.WalkKit
import Derived.KernelRfl
import Derived.RowKit3
import Derived.Deep.LoopGhost
import Derived.Deep.QuietTactic
import Derived.BigQuiet
import Derived.WideLaws
import Derived.Deep.DeepCutAuto
import Derived.Deep.CutBlock
import Derived.Deep.RegionHeld3
import Derived.Laws.Rows
import Derived.Lib.AppendStr
import Derived.ArgAppend
import Derived.Laws.IdiomCopy
import Derived.OrdersHeld
import Derived.Laws.BitsLemmas
import Derived.RowKit
import Derived.Test.YtpknehbhbiofaaaGlob
import Derived.Test.YtpknehbhbiofaaaWWords
import Derived.Test.YtpknehbhbiofaaaWLast
import Derived.Test.YtpknehbhbiofaaaWTab
import Derived.Test.YtpknehbhbiofaaaWFour
import Derived.Test.YtpknehbhbiofaaaWQPut
import Derived.Test.YtpknehbhbiofaaaWApart
import Derived.Test.YtpknehbhbiofaaaWArr
import Derived.Test.YtpknehbhbiofaaaWZeros
import Derived.Test.YtpknehbhbiofaaaWFoot
import Derived.Test.YtpknehbhbiofaaaWKept
import Derived.Test.YtpknehbhbiofaaaWShare
import Derived.Test.YtpknehbhbiofaaaWN
import Derived.Test.YtpknehbhbiofaaaWFootNe
import Derived.Test.YtpknehbhbiofaaaWAt
import Derived.Test.YtpknehbhbiofaaaWEqStruct
import Derived.Test.YtpknehbhbiofaaaWRepsOne
import Derived.Test.YtpknehbhbiofaaaWInv
import Derived.Test.YtpknehbhbiofaaaWInvWords
import Derived.Test.YtpknehbhbiofaaaWGuard
import Derived.Test.YtpknehbhbiofaaaWNEv
import Derived.Test.YtpknehbhbiofaaaWMore
namespace Go.Proofs.Ytpknehbhbiofaaa.PA
open Go.RowKit Go.Proofs.YtpknehbhbiofaaaW.PrintWords Go.Proofs.YtpknehbhbiofaaaW.PrintLast Go.Proofs.YtpknehbhbiofaaaW.PrintMore
attribute [local go_sem] max2_int min2_int max_two min_two max_three min_three max_four min_four   -- for this text's walks alone
set_option linter.unusedVariables false
set_option linter.unusedSimpArgs false



def errW : Option Int → Value
  | none => .nilIface
  | some c => .iface 0 (.int .i64 c)
theorem errW_none : errW none = .nilIface := rfl
theorem errW_some (c : Int) : errW (some c) = .iface 0 (.int .i64 c) := rfl

-- the values' own types

end Go.Proofs.Ytpknehbhbiofaaa.PA
