/-
  DERIVED. GIVEN WITH THE SEED: THE CARDS: each row of YtkajcafnfdlgpaaDoorRows.lean that lists a variable, with what it lists TIED to the program's text (the seventh form; the later family's looks); each row that meets fmt, with fmt's text TOLD by the authors' own Lean function (tested against real Go, not proved from fmt's source: count such statements apart). THE CARD IS WHAT COUNTS. Prove the row's statement (the work); the ties are given (YtkajcafnfdlgpaaDoorTie.lean); close each card by the builder's one call (the guide's Derived/Test/ToyasCard.lean, 'card_holds'). Laid BY PROGRAM, IN A SANDBOX (cutbox-door.mjs). By AI agents, Wed Nov 11 2026. No macro, syntax, notation, axiom, sorry.
-/
import Derived.Test.YtkajcafnfdlgpaaDoorRows
import GoSem.ClaimSeven
namespace Go.Proofs.YtkajcafnfdlgpaaDoor
namespace Rows

/-- THE TIED CARD OF 'laws.FnHeardLetters'. -/
def fnHeardLettersCard : Claim7 := { stood := { row := fnHeardLettersRow, standIns := [], harness := (true, "d3d367066724f1548606d20f9cc17469c9c97eaa93b14904bc98daf816e59a77"), looks := false }, kinds := [], alts := [], laidByText := true, laidKinds := [.data, .pinned], laidTests := true, laidLooks := .later }
def FnHeardLettersCardSaid : Prop := Claim7.holds Tryd.pinned (.plain (OpenSpec.ofChange fnHeardLettersSpec)) fnHeardLettersCard

/-- THE TIED CARD OF 'laws.FnAskedLetters'. -/
def fnAskedLettersCard : Claim7 := { stood := { row := fnAskedLettersRow, standIns := [], harness := (true, "d3d367066724f1548606d20f9cc17469c9c97eaa93b14904bc98daf816e59a77"), looks := false }, kinds := [], alts := [], laidByText := true, laidKinds := [.data, .pinned], laidTests := true, laidLooks := .later }
def FnAskedLettersCardSaid : Prop := Claim7.holds Tryd.pinned (.plain (OpenSpec.ofChange fnAskedLettersSpec)) fnAskedLettersCard

/-- THE SECOND FORM's CARD OF 'laws.FnHeardLetters'. -/
def fnHeardLettersUptoCard : Claim7 := { stood := { row := fnHeardLettersUptoRow, standIns := [], harness := (true, "d3d367066724f1548606d20f9cc17469c9c97eaa93b14904bc98daf816e59a77"), looks := false }, kinds := [], alts := [], laidByText := true, laidKinds := [.data, .pinned], laidTests := true, laidLooks := .later }
def FnHeardLettersUptoCardSaid : Prop := Claim7.holds Tryd.pinned (.plain (OpenSpec.upto fnHeardLettersSpec)) fnHeardLettersUptoCard

/-- THE SECOND FORM's CARD OF 'laws.FnAskedLetters'. -/
def fnAskedLettersUptoCard : Claim7 := { stood := { row := fnAskedLettersUptoRow, standIns := [], harness := (true, "d3d367066724f1548606d20f9cc17469c9c97eaa93b14904bc98daf816e59a77"), looks := false }, kinds := [], alts := [], laidByText := true, laidKinds := [.data, .pinned], laidTests := true, laidLooks := .later }
def FnAskedLettersUptoCardSaid : Prop := Claim7.holds Tryd.pinned (.plain (OpenSpec.upto fnAskedLettersSpec)) fnAskedLettersUptoCard
end Rows
end Go.Proofs.YtkajcafnfdlgpaaDoor
