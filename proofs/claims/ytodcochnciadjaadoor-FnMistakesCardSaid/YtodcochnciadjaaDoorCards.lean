/-
  DERIVED. GIVEN WITH THE SEED: THE CARDS: each row of YtodcochnciadjaaDoorRows.lean that lists a variable, with what it lists TIED to the program's text (the seventh form; the later family's looks); each row that meets fmt, with fmt's text TOLD by the authors' own Lean function (tested against real Go, not proved from fmt's source: count such statements apart). THE CARD IS WHAT COUNTS. Prove the row's statement (the work); the ties are given (YtodcochnciadjaaDoorTie.lean); close each card by the builder's one call (the guide's Derived/Test/ToyasCard.lean, 'card_holds'). Laid BY PROGRAM, IN A SANDBOX (cutbox-door.mjs). By AI agents, Wed Nov 11 2026. No macro, syntax, notation, axiom, sorry.
-/
import Derived.Test.YtodcochnciadjaaDoorRows
import GoSem.ClaimSeven
namespace Go.Proofs.YtodcochnciadjaaDoor
namespace Rows

/-- THE TIED CARD OF 'laws.FnMistakeWays'. -/
def fnMistakeWaysCard : Claim7 := { stood := { row := fnMistakeWaysRow, standIns := [], harness := (true, "39f8851e09e8a38103acf515122b50f3e88efe6198b00577d30b3305be9edcfc"), looks := false }, kinds := [], alts := [], laidByText := true, laidKinds := [.data, .pinned], laidTests := true, laidLooks := .later }
def FnMistakeWaysCardSaid : Prop := Claim7.holds Tryd.pinned (.plain (OpenSpec.ofChange fnMistakeWaysSpec)) fnMistakeWaysCard

/-- THE TIED CARD OF 'laws.FnMistakes'. -/
def fnMistakesCard : Claim7 := { stood := { row := fnMistakesRow, standIns := [], harness := (true, "39f8851e09e8a38103acf515122b50f3e88efe6198b00577d30b3305be9edcfc"), looks := false }, kinds := [], alts := [], laidByText := true, laidKinds := [.data, .pinned], laidTests := true, laidLooks := .later }
def FnMistakesCardSaid : Prop := Claim7.holds Tryd.pinned (.plain (OpenSpec.ofChange fnMistakesSpec)) fnMistakesCard

/-- THE SECOND FORM's CARD OF 'laws.FnMistakeWays'. -/
def fnMistakeWaysUptoCard : Claim7 := { stood := { row := fnMistakeWaysUptoRow, standIns := [], harness := (true, "39f8851e09e8a38103acf515122b50f3e88efe6198b00577d30b3305be9edcfc"), looks := false }, kinds := [], alts := [], laidByText := true, laidKinds := [.data, .pinned], laidTests := true, laidLooks := .later }
def FnMistakeWaysUptoCardSaid : Prop := Claim7.holds Tryd.pinned (.plain (OpenSpec.upto fnMistakeWaysSpec)) fnMistakeWaysUptoCard

/-- THE SECOND FORM's CARD OF 'laws.FnMistakes'. -/
def fnMistakesUptoCard : Claim7 := { stood := { row := fnMistakesUptoRow, standIns := [], harness := (true, "39f8851e09e8a38103acf515122b50f3e88efe6198b00577d30b3305be9edcfc"), looks := false }, kinds := [], alts := [], laidByText := true, laidKinds := [.data, .pinned], laidTests := true, laidLooks := .later }
def FnMistakesUptoCardSaid : Prop := Claim7.holds Tryd.pinned (.plain (OpenSpec.upto fnMistakesSpec)) fnMistakesUptoCard
end Rows
end Go.Proofs.YtodcochnciadjaaDoor
