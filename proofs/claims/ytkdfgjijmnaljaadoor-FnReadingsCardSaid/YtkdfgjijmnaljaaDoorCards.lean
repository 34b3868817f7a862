/-
  DERIVED. GIVEN WITH THE SEED: THE CARDS: each row of YtkdfgjijmnaljaaDoorRows.lean that lists a variable, with what it lists TIED to the program's text (the seventh form; the later family's looks); each row that meets fmt, with fmt's text TOLD by the authors' own Lean function (tested against real Go, not proved from fmt's source: count such statements apart). THE CARD IS WHAT COUNTS. Prove the row's statement (the work); the ties are given (YtkdfgjijmnaljaaDoorTie.lean); close each card by the builder's one call (the guide's Derived/Test/ToyasCard.lean, 'card_holds'). Laid BY PROGRAM, IN A SANDBOX (cutbox-door.mjs). By AI agents, Wed Nov 11 2026. No macro, syntax, notation, axiom, sorry.
-/
import Derived.Test.YtkdfgjijmnaljaaDoorRows
import GoSem.ClaimSeven
namespace Go.Proofs.YtkdfgjijmnaljaaDoor
namespace Rows

/-- THE TIED CARD OF 'laws.FnBorders'. -/
def fnBordersCard : Claim7 := { stood := { row := fnBordersRow, standIns := [], harness := (true, "d518c673ead2893e83ae199618fcbd1276b9c58fc2ad3bf0a6cb6ab1299162cc"), looks := false }, kinds := [], alts := [], laidByText := true, laidKinds := [.data, .pinned], laidTests := true, laidLooks := .later }
def FnBordersCardSaid : Prop := Claim7.holds Tryd.pinned (.plain (OpenSpec.ofChange fnBordersSpec)) fnBordersCard

/-- THE TIED CARD OF 'laws.FnReadings'. -/
def fnReadingsCard : Claim7 := { stood := { row := fnReadingsRow, standIns := [], harness := (true, "d518c673ead2893e83ae199618fcbd1276b9c58fc2ad3bf0a6cb6ab1299162cc"), looks := false }, kinds := [], alts := [], laidByText := true, laidKinds := [.data, .pinned], laidTests := true, laidLooks := .later }
def FnReadingsCardSaid : Prop := Claim7.holds Tryd.pinned (.plain (OpenSpec.ofChange fnReadingsSpec)) fnReadingsCard

/-- THE SECOND FORM's CARD OF 'laws.FnBorders'. -/
def fnBordersUptoCard : Claim7 := { stood := { row := fnBordersUptoRow, standIns := [], harness := (true, "d518c673ead2893e83ae199618fcbd1276b9c58fc2ad3bf0a6cb6ab1299162cc"), looks := false }, kinds := [], alts := [], laidByText := true, laidKinds := [.data, .pinned], laidTests := true, laidLooks := .later }
def FnBordersUptoCardSaid : Prop := Claim7.holds Tryd.pinned (.plain (OpenSpec.upto fnBordersSpec)) fnBordersUptoCard

/-- THE SECOND FORM's CARD OF 'laws.FnReadings'. -/
def fnReadingsUptoCard : Claim7 := { stood := { row := fnReadingsUptoRow, standIns := [], harness := (true, "d518c673ead2893e83ae199618fcbd1276b9c58fc2ad3bf0a6cb6ab1299162cc"), looks := false }, kinds := [], alts := [], laidByText := true, laidKinds := [.data, .pinned], laidTests := true, laidLooks := .later }
def FnReadingsUptoCardSaid : Prop := Claim7.holds Tryd.pinned (.plain (OpenSpec.upto fnReadingsSpec)) fnReadingsUptoCard
end Rows
end Go.Proofs.YtkdfgjijmnaljaaDoor
