/-
  DERIVED. GIVEN WITH THE SEED: THE CARDS: each row of YtjagdiilcphhfaaGreatDoorRows.lean that lists a variable, with what it lists TIED to the program's text (the seventh form; the later family's looks); each row that meets fmt, with fmt's text TOLD by the authors' own Lean function (tested against real Go, not proved from fmt's source: count such statements apart). THE CARD IS WHAT COUNTS. Prove the row's statement (the work); the ties are given (YtjagdiilcphhfaaGreatDoorTie.lean); close each card by the builder's one call (the guide's Derived/Test/ToyasCard.lean, 'card_holds'). Laid BY PROGRAM, IN A SANDBOX (cutbox-door.mjs). By AI agents, Wed Nov 11 2026. No macro, syntax, notation, axiom, sorry.
-/
import Derived.Test.YtjagdiilcphhfaaGreatDoorRows
import GoSem.ClaimSeven
namespace Go.Proofs.YtjagdiilcphhfaaGreatDoor
namespace Rows

/-- THE TIED CARD OF 'laws.FnExactDoKey'. -/
def fnExactDoKeyCard : Claim7 := { stood := { row := fnExactDoKeyRow, standIns := [], harness := (true, "3d0abf50df2f27a5bdade86c04239f14142cea42545b03ab790185c53a1dd4ae"), looks := true }, kinds := [], alts := [], laidByText := true, laidKinds := [.data, .pinned], laidTests := true, laidLooks := .later }
def FnExactDoKeyCardSaid : Prop := Claim7.holds Tryz.pinned (.plain (OpenSpec.ofChange fnExactDoKeySpec)) fnExactDoKeyCard

/-- THE TIED CARD OF 'laws.FnExactDoKeys'. -/
def fnExactDoKeysCard : Claim7 := { stood := { row := fnExactDoKeysRow, standIns := [], harness := (true, "3d0abf50df2f27a5bdade86c04239f14142cea42545b03ab790185c53a1dd4ae"), looks := true }, kinds := [], alts := [], laidByText := true, laidKinds := [.data, .pinned], laidTests := true, laidLooks := .later }
def FnExactDoKeysCardSaid : Prop := Claim7.holds Tryz.pinned (.plain (OpenSpec.ofChange fnExactDoKeysSpec)) fnExactDoKeysCard

/-- THE TIED CARD OF 'laws.FnStations'. -/
def fnStationsCard : Claim7 := { stood := { row := fnStationsRow, standIns := [], harness := (true, "3d0abf50df2f27a5bdade86c04239f14142cea42545b03ab790185c53a1dd4ae"), looks := true }, kinds := [], alts := [], laidByText := true, laidKinds := [.data, .pinned], laidTests := true, laidLooks := .later }
def FnStationsCardSaid : Prop := Claim7.holds Tryz.pinned (.plain (OpenSpec.ofChange fnStationsSpec)) fnStationsCard

/-- THE SECOND FORM's CARD OF 'laws.FnExactDoKey'. -/
def fnExactDoKeyUptoCard : Claim7 := { stood := { row := fnExactDoKeyUptoRow, standIns := [], harness := (true, "3d0abf50df2f27a5bdade86c04239f14142cea42545b03ab790185c53a1dd4ae"), looks := true }, kinds := [], alts := [], laidByText := true, laidKinds := [.data, .pinned], laidTests := true, laidLooks := .later }
def FnExactDoKeyUptoCardSaid : Prop := Claim7.holds Tryz.pinned (.plain (OpenSpec.upto fnExactDoKeySpec)) fnExactDoKeyUptoCard

/-- THE SECOND FORM's CARD OF 'laws.FnExactDoKeys'. -/
def fnExactDoKeysUptoCard : Claim7 := { stood := { row := fnExactDoKeysUptoRow, standIns := [], harness := (true, "3d0abf50df2f27a5bdade86c04239f14142cea42545b03ab790185c53a1dd4ae"), looks := true }, kinds := [], alts := [], laidByText := true, laidKinds := [.data, .pinned], laidTests := true, laidLooks := .later }
def FnExactDoKeysUptoCardSaid : Prop := Claim7.holds Tryz.pinned (.plain (OpenSpec.upto fnExactDoKeysSpec)) fnExactDoKeysUptoCard

/-- THE SECOND FORM's CARD OF 'laws.FnStations'. -/
def fnStationsUptoCard : Claim7 := { stood := { row := fnStationsUptoRow, standIns := [], harness := (true, "3d0abf50df2f27a5bdade86c04239f14142cea42545b03ab790185c53a1dd4ae"), looks := true }, kinds := [], alts := [], laidByText := true, laidKinds := [.data, .pinned], laidTests := true, laidLooks := .later }
def FnStationsUptoCardSaid : Prop := Claim7.holds Tryz.pinned (.plain (OpenSpec.upto fnStationsSpec)) fnStationsUptoCard
end Rows
end Go.Proofs.YtjagdiilcphhfaaGreatDoor
