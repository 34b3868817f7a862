/-
  DERIVED. GIVEN WITH THE SEED: THE CARDS: each row of YtjlmhlahcggenaaDoorRows.lean that lists a variable, with what it lists TIED to the program's text (the seventh form; the later family's looks); each row that meets fmt, with fmt's text TOLD by the authors' own Lean function (tested against real Go, not proved from fmt's source: count such statements apart). THE CARD IS WHAT COUNTS. Prove the row's statement (the work); the ties are given (YtjlmhlahcggenaaDoorTie.lean); close each card by the builder's one call (the guide's Derived/Test/ToyasCard.lean, 'card_holds'). Laid BY PROGRAM, IN A SANDBOX (cutbox-door.mjs). By AI agents, Wed Nov 11 2026. No macro, syntax, notation, axiom, sorry.
-/
import Derived.Test.YtjlmhlahcggenaaDoorRows
import GoSem.ClaimSeven
namespace Go.Proofs.YtjlmhlahcggenaaDoor
namespace Rows

/-- THE TIED CARD OF 'laws.FnExactNewStation'. -/
def fnExactNewStationCard : Claim7 := { stood := { row := fnExactNewStationRow, standIns := [], harness := (true, "cb7ebc743cbb293b75897a4e79f59003e2df725c0ef96a4538d3423663f7d39f"), looks := false }, kinds := [], alts := [], laidByText := true, laidKinds := [.data, .pinned], laidTests := true, laidLooks := .later }
def FnExactNewStationCardSaid : Prop := Claim7.holds Tryd.pinned (.plain (OpenSpec.ofChange fnExactNewStationSpec)) fnExactNewStationCard

/-- THE TIED CARD OF 'laws.FnExactIsStation'. -/
def fnExactIsStationCard : Claim7 := { stood := { row := fnExactIsStationRow, standIns := [], harness := (true, "cb7ebc743cbb293b75897a4e79f59003e2df725c0ef96a4538d3423663f7d39f"), looks := false }, kinds := [], alts := [], laidByText := true, laidKinds := [.data, .pinned], laidTests := true, laidLooks := .later }
def FnExactIsStationCardSaid : Prop := Claim7.holds Tryd.pinned (.plain (OpenSpec.ofChange fnExactIsStationSpec)) fnExactIsStationCard

/-- THE TIED CARD OF 'laws.FnExactNewConsole'. -/
def fnExactNewConsoleCard : Claim7 := { stood := { row := fnExactNewConsoleRow, standIns := [], harness := (true, "cb7ebc743cbb293b75897a4e79f59003e2df725c0ef96a4538d3423663f7d39f"), looks := false }, kinds := [], alts := [], laidByText := true, laidKinds := [.data, .pinned], laidTests := true, laidLooks := .later }
def FnExactNewConsoleCardSaid : Prop := Claim7.holds Tryd.pinned (.plain (OpenSpec.ofChange fnExactNewConsoleSpec)) fnExactNewConsoleCard

/-- THE TIED CARD OF 'laws.FnExactTableOfStation'. -/
def fnExactTableOfStationCard : Claim7 := { stood := { row := fnExactTableOfStationRow, standIns := [], harness := (true, "cb7ebc743cbb293b75897a4e79f59003e2df725c0ef96a4538d3423663f7d39f"), looks := false }, kinds := [], alts := [], laidByText := true, laidKinds := [.data, .pinned], laidTests := true, laidLooks := .later }
def FnExactTableOfStationCardSaid : Prop := Claim7.holds Tryd.pinned (.plain (OpenSpec.ofChange fnExactTableOfStationSpec)) fnExactTableOfStationCard

/-- THE TIED CARD OF 'laws.FnExactIsValidConsole'. -/
def fnExactIsValidConsoleCard : Claim7 := { stood := { row := fnExactIsValidConsoleRow, standIns := [], harness := (true, "cb7ebc743cbb293b75897a4e79f59003e2df725c0ef96a4538d3423663f7d39f"), looks := false }, kinds := [], alts := [], laidByText := true, laidKinds := [.data, .data, .data, .data, .pinned], laidTests := true, laidLooks := .later }
def FnExactIsValidConsoleCardSaid : Prop := Claim7.holds Tryd.pinned (.plain (OpenSpec.ofChange fnExactIsValidConsoleSpec)) fnExactIsValidConsoleCard

/-- THE SECOND FORM's CARD OF 'laws.FnExactNewStation'. -/
def fnExactNewStationUptoCard : Claim7 := { stood := { row := fnExactNewStationUptoRow, standIns := [], harness := (true, "cb7ebc743cbb293b75897a4e79f59003e2df725c0ef96a4538d3423663f7d39f"), looks := false }, kinds := [], alts := [], laidByText := true, laidKinds := [.data, .pinned], laidTests := true, laidLooks := .later }
def FnExactNewStationUptoCardSaid : Prop := Claim7.holds Tryd.pinned (.plain (OpenSpec.upto fnExactNewStationSpec)) fnExactNewStationUptoCard

/-- THE SECOND FORM's CARD OF 'laws.FnExactIsStation'. -/
def fnExactIsStationUptoCard : Claim7 := { stood := { row := fnExactIsStationUptoRow, standIns := [], harness := (true, "cb7ebc743cbb293b75897a4e79f59003e2df725c0ef96a4538d3423663f7d39f"), looks := false }, kinds := [], alts := [], laidByText := true, laidKinds := [.data, .pinned], laidTests := true, laidLooks := .later }
def FnExactIsStationUptoCardSaid : Prop := Claim7.holds Tryd.pinned (.plain (OpenSpec.upto fnExactIsStationSpec)) fnExactIsStationUptoCard

/-- THE SECOND FORM's CARD OF 'laws.FnExactNewConsole'. -/
def fnExactNewConsoleUptoCard : Claim7 := { stood := { row := fnExactNewConsoleUptoRow, standIns := [], harness := (true, "cb7ebc743cbb293b75897a4e79f59003e2df725c0ef96a4538d3423663f7d39f"), looks := false }, kinds := [], alts := [], laidByText := true, laidKinds := [.data, .pinned], laidTests := true, laidLooks := .later }
def FnExactNewConsoleUptoCardSaid : Prop := Claim7.holds Tryd.pinned (.plain (OpenSpec.upto fnExactNewConsoleSpec)) fnExactNewConsoleUptoCard

/-- THE SECOND FORM's CARD OF 'laws.FnExactTableOfStation'. -/
def fnExactTableOfStationUptoCard : Claim7 := { stood := { row := fnExactTableOfStationUptoRow, standIns := [], harness := (true, "cb7ebc743cbb293b75897a4e79f59003e2df725c0ef96a4538d3423663f7d39f"), looks := false }, kinds := [], alts := [], laidByText := true, laidKinds := [.data, .pinned], laidTests := true, laidLooks := .later }
def FnExactTableOfStationUptoCardSaid : Prop := Claim7.holds Tryd.pinned (.plain (OpenSpec.upto fnExactTableOfStationSpec)) fnExactTableOfStationUptoCard

/-- THE SECOND FORM's CARD OF 'laws.FnExactIsValidConsole'. -/
def fnExactIsValidConsoleUptoCard : Claim7 := { stood := { row := fnExactIsValidConsoleUptoRow, standIns := [], harness := (true, "cb7ebc743cbb293b75897a4e79f59003e2df725c0ef96a4538d3423663f7d39f"), looks := false }, kinds := [], alts := [], laidByText := true, laidKinds := [.data, .data, .data, .data, .pinned], laidTests := true, laidLooks := .later }
def FnExactIsValidConsoleUptoCardSaid : Prop := Claim7.holds Tryd.pinned (.plain (OpenSpec.upto fnExactIsValidConsoleSpec)) fnExactIsValidConsoleUptoCard
end Rows
end Go.Proofs.YtjlmhlahcggenaaDoor
