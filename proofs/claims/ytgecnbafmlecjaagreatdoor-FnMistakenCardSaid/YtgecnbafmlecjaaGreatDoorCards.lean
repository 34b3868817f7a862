/-
  DERIVED. GIVEN WITH THE SEED: THE CARDS: each row of YtgecnbafmlecjaaGreatDoorRows.lean that lists a variable, with what it lists TIED to the program's text (the seventh form; the later family's looks); each row that meets fmt, with fmt's text TOLD by the authors' own Lean function (tested against real Go, not proved from fmt's source: count such statements apart). THE CARD IS WHAT COUNTS. Prove the row's statement (the work); the ties are given (YtgecnbafmlecjaaGreatDoorTie.lean); close each card by the builder's one call (the guide's Derived/Test/ToyasCard.lean, 'card_holds'). Laid BY PROGRAM, IN A SANDBOX (cutbox-door.mjs). By AI agents, Wed Nov 11 2026. No macro, syntax, notation, axiom, sorry.
-/
import Derived.Test.YtgecnbafmlecjaaGreatDoorRows
import GoSem.ClaimSeven
namespace Go.Proofs.YtgecnbafmlecjaaGreatDoor
namespace Rows

/-- THE TIED CARD OF 'laws.FnMistaken'. -/
def fnMistakenCard : Claim7 := { stood := { row := fnMistakenRow, standIns := [], harness := (true, "2264d4c5c54bcee0bd8cd9f48d9f8d6f00b60041045126eb820c73e5b2f1be00"), looks := true }, kinds := [], alts := [], laidByText := true, laidKinds := [.data, .listed, .data, .pinned], laidTests := true, laidLooks := .later }
def FnMistakenCardSaid : Prop := Claim7.holds Tryz.pinned (.plain (OpenSpec.ofChange fnMistakenSpec)) fnMistakenCard

/-- THE SECOND FORM's CARD OF 'laws.FnMistaken'. -/
def fnMistakenUptoCard : Claim7 := { stood := { row := fnMistakenUptoRow, standIns := [], harness := (true, "2264d4c5c54bcee0bd8cd9f48d9f8d6f00b60041045126eb820c73e5b2f1be00"), looks := true }, kinds := [], alts := [], laidByText := true, laidKinds := [.data, .listed, .data, .pinned], laidTests := true, laidLooks := .later }
def FnMistakenUptoCardSaid : Prop := Claim7.holds Tryz.pinned (.plain (OpenSpec.upto fnMistakenSpec)) fnMistakenUptoCard
end Rows
end Go.Proofs.YtgecnbafmlecjaaGreatDoor
