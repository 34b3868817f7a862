-- written by mkprint.py (a program of this session, over the kit print of the translation): Lean checks it
import Derived.Test.YtoehcdjndnmmlaaDoorProg
import Derived.Below
import Derived.Deep.Draws
import Derived.Deep.AppendLies
import Derived.Maps.AppendAt
import Derived.OwnWalk
import Derived.Laws.BytesArg
import Derived.Laws.MakeOwn
import Derived.Laws.OwnMore
import Derived.Deep.OwnRows
import Derived.Tactics
import Derived.Lib.ConvBytes
import Derived.Laws.Slices
import Derived.WalkKit
import Derived.KernelRfl
import Derived.RowKit3
import Derived.Deep.LoopGhost
import Derived.Deep.QuietTactic
import Derived.BigQuiet
import Derived.WideLaws
import Derived.Deep.DeepCutAuto
import Derived.Deep.CutBlock
import Derived.Deep.RegionHeld3
import Derived.Laws.Rows
import Derived.Lib.AppendStr
import Derived.ArgAppend
import Derived.Laws.IdiomCopy
import Derived.OrdersHeld
import Derived.Laws.BitsLemmas
import Derived.RowKit
import Derived.Test.YtoehcdjndnmmlaaDoorGlob
import Derived.Test.YtoehcdjndnmmlaaDoorLib
import Derived.Shelf.Strings.SlTrimAscii
import Derived.Test.YtoehcdjndnmmlaaDoorWWords
import Derived.Test.YtoehcdjndnmmlaaDoorWLast
import Derived.Test.YtoehcdjndnmmlaaDoorWTab
import Derived.Test.YtoehcdjndnmmlaaDoorWFour
import Derived.Test.YtoehcdjndnmmlaaDoorWQPut
import Derived.Test.YtoehcdjndnmmlaaDoorWApart
import Derived.Test.YtoehcdjndnmmlaaDoorWArr
import Derived.Test.YtoehcdjndnmmlaaDoorWZeros
import Derived.Test.YtoehcdjndnmmlaaDoorWFoot
import Derived.Test.YtoehcdjndnmmlaaDoorWKept
import Derived.Test.YtoehcdjndnmmlaaDoorWShare
import Derived.Test.YtoehcdjndnmmlaaDoorWN
import Derived.Test.YtoehcdjndnmmlaaDoorWFootNe
import Derived.Test.YtoehcdjndnmmlaaDoorWAt
import Derived.Test.YtoehcdjndnmmlaaDoorWEqStruct
import Derived.Test.YtoehcdjndnmmlaaDoorWRepsOne
import Derived.Test.YtoehcdjndnmmlaaDoorWInv
import Derived.Test.YtoehcdjndnmmlaaDoorWInvWords
import Derived.Test.YtoehcdjndnmmlaaDoorWGuard
import Derived.Test.YtoehcdjndnmmlaaDoorWNEv
import Derived.Test.YtoehcdjndnmmlaaDoorWMore
namespace Go.Proofs.YtoehcdjndnmmlaaDoor.PA
open Go.RowKit Go.Proofs.YtoehcdjndnmmlaaDoorW.PrintWords Go.Proofs.YtoehcdjndnmmlaaDoorW.PrintLast Go.Proofs.YtoehcdjndnmmlaaDoorW.PrintMore
attribute [local go_sem] max2_int min2_int max_two min_two max_three min_three max_four min_four   -- for this text's walks alone
set_option linter.unusedVariables false
set_option linter.unusedSimpArgs false



def errW : Option Int → Value
  | none => .nilIface
  | some c => .iface 0 (.int .i64 c)
theorem errW_none : errW none = .nilIface := rfl
theorem errW_some (c : Int) : errW (some c) = .iface 0 (.int .i64 c) := rfl

theorem info3 : (Tryd.prog.info? 3).map (fun i => (i.zero, i.size, i.bytes)) = some (some (.int .i64 0), 1, 8) := by kernel_rfl
theorem info5 : (Tryd.prog.info? 5).map (fun i => (i.zero, i.size, i.bytes)) = some (some (.int .u8 0), 1, 1) := by kernel_rfl
theorem info9 : (Tryd.prog.info? 9).map (fun i => (i.zero, i.size, i.bytes)) = some (some (.string ⟨#[]⟩), 1, 16) := by kernel_rfl
-- the values' own types

end Go.Proofs.YtoehcdjndnmmlaaDoor.PA
