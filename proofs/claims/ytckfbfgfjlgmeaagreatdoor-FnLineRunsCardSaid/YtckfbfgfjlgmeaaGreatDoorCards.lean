/-
  DERIVED. GIVEN WITH THE SEED: THE CARDS: each row of YtckfbfgfjlgmeaaGreatDoorRows.lean that lists a variable, with what it lists TIED to the program's text (the seventh form; the later family's looks); each row that meets fmt, with fmt's text TOLD by the authors' own Lean function (tested against real Go, not proved from fmt's source: count such statements apart). THE CARD IS WHAT COUNTS. Prove the row's statement (the work); the ties are given (YtckfbfgfjlgmeaaGreatDoorTie.lean); close each card by the builder's one call (the guide's Derived/Test/ToyasCard.lean, 'card_holds'). Laid BY PROGRAM, IN A SANDBOX (cutbox-door.mjs). By AI agents, Wed Nov 11 2026. No macro, syntax, notation, axiom, sorry.
-/
import Derived.Test.YtckfbfgfjlgmeaaGreatDoorRows
import GoSem.ClaimSeven
namespace Go.Proofs.YtckfbfgfjlgmeaaGreatDoor
namespace Rows

/-- THE TIED CARD OF 'laws.FnLineRuns'. -/
def fnLineRunsCard : Claim7 := { stood := { row := fnLineRunsRow, standIns := [], harness := (true, "4d3c8000c62888cfa7254bc262e570a7353659bd7d72f04969833d91b879ba9e"), looks := true }, kinds := [], alts := [], laidByText := true, laidKinds := [.data, .pinned], laidTests := true, laidLooks := .later }
def FnLineRunsCardSaid : Prop := Claim7.holds Tryz.pinned (.plain (OpenSpec.ofChange fnLineRunsSpec)) fnLineRunsCard

/-- THE TIED CARD OF 'laws.FnTables'. -/
def fnTablesCard : Claim7 := { stood := { row := fnTablesRow, standIns := [], harness := (true, "4d3c8000c62888cfa7254bc262e570a7353659bd7d72f04969833d91b879ba9e"), looks := true }, kinds := [], alts := [], laidByText := true, laidKinds := [.data, .pinned], laidTests := true, laidLooks := .later }
def FnTablesCardSaid : Prop := Claim7.holds Tryz.pinned (.plain (OpenSpec.ofChange fnTablesSpec)) fnTablesCard

/-- THE TIED CARD OF 'laws.FnSignals'. -/
def fnSignalsCard : Claim7 := { stood := { row := fnSignalsRow, standIns := [], harness := (true, "4d3c8000c62888cfa7254bc262e570a7353659bd7d72f04969833d91b879ba9e"), looks := true }, kinds := [], alts := [], laidByText := true, laidKinds := [.data, .listed, .data, .pinned], laidTests := true, laidLooks := .later }
def FnSignalsCardSaid : Prop := Claim7.holds Tryz.pinned (.plain (OpenSpec.ofChange fnSignalsSpec)) fnSignalsCard

/-- THE SECOND FORM's CARD OF 'laws.FnLineRuns'. -/
def fnLineRunsUptoCard : Claim7 := { stood := { row := fnLineRunsUptoRow, standIns := [], harness := (true, "4d3c8000c62888cfa7254bc262e570a7353659bd7d72f04969833d91b879ba9e"), looks := true }, kinds := [], alts := [], laidByText := true, laidKinds := [.data, .pinned], laidTests := true, laidLooks := .later }
def FnLineRunsUptoCardSaid : Prop := Claim7.holds Tryz.pinned (.plain (OpenSpec.upto fnLineRunsSpec)) fnLineRunsUptoCard

/-- THE SECOND FORM's CARD OF 'laws.FnTables'. -/
def fnTablesUptoCard : Claim7 := { stood := { row := fnTablesUptoRow, standIns := [], harness := (true, "4d3c8000c62888cfa7254bc262e570a7353659bd7d72f04969833d91b879ba9e"), looks := true }, kinds := [], alts := [], laidByText := true, laidKinds := [.data, .pinned], laidTests := true, laidLooks := .later }
def FnTablesUptoCardSaid : Prop := Claim7.holds Tryz.pinned (.plain (OpenSpec.upto fnTablesSpec)) fnTablesUptoCard

/-- THE SECOND FORM's CARD OF 'laws.FnSignals'. -/
def fnSignalsUptoCard : Claim7 := { stood := { row := fnSignalsUptoRow, standIns := [], harness := (true, "4d3c8000c62888cfa7254bc262e570a7353659bd7d72f04969833d91b879ba9e"), looks := true }, kinds := [], alts := [], laidByText := true, laidKinds := [.data, .listed, .data, .pinned], laidTests := true, laidLooks := .later }
def FnSignalsUptoCardSaid : Prop := Claim7.holds Tryz.pinned (.plain (OpenSpec.upto fnSignalsSpec)) fnSignalsUptoCard
end Rows
end Go.Proofs.YtckfbfgfjlgmeaaGreatDoor
