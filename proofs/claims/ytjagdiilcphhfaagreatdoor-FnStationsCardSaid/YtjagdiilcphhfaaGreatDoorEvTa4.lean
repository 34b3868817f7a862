/- Times of marks; texts of tables. -/
import Derived.Test.YtjagdiilcphhfaaGreatDoorEvTa3
import Derived.Test.YtjagdiilcphhfaaGreatDoorEvTextOf
set_option linter.unusedVariables false
set_option linter.unusedSimpArgs false
namespace Go.Proofs.YtjagdiilcphhfaaGreatDoor.Ev
def dash (s : ByteArray) : Nat := Lib.countByte (B s) 45
def tmOf (s : ByteArray) : AV := .tup [i64 (if okMarks s 1 5 = true then 2 * (s.size : Int) - 1 + 2 * (dash s : Int) else 0), bl (okMarks s 1 5)]
end Go.Proofs.YtjagdiilcphhfaaGreatDoor.Ev
