/- Tables whose marks are changed by a function. -/
import Derived.Test.YtgecnbafmlecjaaGreatDoorEvTm
set_option linter.unusedVariables false
set_option linter.unusedSimpArgs false
namespace Go.Proofs.YtgecnbafmlecjaaGreatDoor.Ev
def tN : Blk := ⟨26, 1, 0, false, [.agg [.v (.slice none 0 0)]]⟩
def tS (o n : Nat) : Blk := ⟨26, 1, 0, false, [.agg [.sl o 0 n]]⟩
def sB (l : List ByteArray) : Blk := ⟨9, 1, 1, false, l.map st⟩
end Go.Proofs.YtgecnbafmlecjaaGreatDoor.Ev
