/-
  DERIVED. GIVEN WITH THE SEED: THE CARDS: each row of YtoehcdjndnmmlaaDoorRows.lean that lists a variable, with what it lists TIED to the program's text (the seventh form; the later family's looks); each row that meets fmt, with fmt's text TOLD by the authors' own Lean function (tested against real Go, not proved from fmt's source: count such statements apart). THE CARD IS WHAT COUNTS. Prove the row's statement (the work); the ties are given (YtoehcdjndnmmlaaDoorTie.lean); close each card by the builder's one call (the guide's Derived/Test/ToyasCard.lean, 'card_holds'). Laid BY PROGRAM, IN A SANDBOX (cutbox-door.mjs). By AI agents, Wed Nov 11 2026. No macro, syntax, notation, axiom, sorry.
-/
import Derived.Test.YtoehcdjndnmmlaaDoorRows
import GoSem.ClaimSeven
namespace Go.Proofs.YtoehcdjndnmmlaaDoor
namespace Rows

/-- THE TIED CARD OF 'laws.FnExactAnswerTo'. -/
def fnExactAnswerToCard : Claim7 := { stood := { row := fnExactAnswerToRow, standIns := [], harness := (true, "7f6cd45b825d58e8e450c93e296ca85c5ccfc5df72056ea019b1f3dcc2d3d8c4"), looks := false }, kinds := [], alts := [], laidByText := true, laidKinds := [.data, .pinned], laidTests := true, laidLooks := .later }
def FnExactAnswerToCardSaid : Prop := Claim7.holds Tryd.pinned (.plain (OpenSpec.ofChange fnExactAnswerToSpec)) fnExactAnswerToCard

/-- THE TIED CARD OF 'laws.FnExactAreLetters'. -/
def fnExactAreLettersCard : Claim7 := { stood := { row := fnExactAreLettersRow, standIns := [], harness := (true, "7f6cd45b825d58e8e450c93e296ca85c5ccfc5df72056ea019b1f3dcc2d3d8c4"), looks := false }, kinds := [], alts := [], laidByText := true, laidKinds := [.data, .pinned], laidTests := true, laidLooks := .later }
def FnExactAreLettersCardSaid : Prop := Claim7.holds Tryd.pinned (.plain (OpenSpec.ofChange fnExactAreLettersSpec)) fnExactAreLettersCard

/-- THE TIED CARD OF 'laws.FnExactHeardUntil'. -/
def fnExactHeardUntilCard : Claim7 := { stood := { row := fnExactHeardUntilRow, standIns := [], harness := (true, "7f6cd45b825d58e8e450c93e296ca85c5ccfc5df72056ea019b1f3dcc2d3d8c4"), looks := false }, kinds := [], alts := [], laidByText := true, laidKinds := [.data, .pinned], laidTests := true, laidLooks := .later }
def FnExactHeardUntilCardSaid : Prop := Claim7.holds Tryd.pinned (.plain (OpenSpec.ofChange fnExactHeardUntilSpec)) fnExactHeardUntilCard

/-- THE TIED CARD OF 'laws.FnExactLettersBehind'. -/
def fnExactLettersBehindCard : Claim7 := { stood := { row := fnExactLettersBehindRow, standIns := [], harness := (true, "7f6cd45b825d58e8e450c93e296ca85c5ccfc5df72056ea019b1f3dcc2d3d8c4"), looks := false }, kinds := [], alts := [], laidByText := true, laidKinds := [.data, .pinned], laidTests := true, laidLooks := .later }
def FnExactLettersBehindCardSaid : Prop := Claim7.holds Tryd.pinned (.plain (OpenSpec.ofChange fnExactLettersBehindSpec)) fnExactLettersBehindCard

/-- THE TIED CARD OF 'laws.FnExactAsksFirst'. -/
def fnExactAsksFirstCard : Claim7 := { stood := { row := fnExactAsksFirstRow, standIns := [], harness := (true, "7f6cd45b825d58e8e450c93e296ca85c5ccfc5df72056ea019b1f3dcc2d3d8c4"), looks := false }, kinds := [], alts := [], laidByText := true, laidKinds := [.data, .pinned], laidTests := true, laidLooks := .later }
def FnExactAsksFirstCardSaid : Prop := Claim7.holds Tryd.pinned (.plain (OpenSpec.ofChange fnExactAsksFirstSpec)) fnExactAsksFirstCard

/-- THE TIED CARD OF 'laws.FnExactVainPlaces'. -/
def fnExactVainPlacesCard : Claim7 := { stood := { row := fnExactVainPlacesRow, standIns := [], harness := (true, "7f6cd45b825d58e8e450c93e296ca85c5ccfc5df72056ea019b1f3dcc2d3d8c4"), looks := false }, kinds := [], alts := [], laidByText := true, laidKinds := [.data, .pinned], laidTests := true, laidLooks := .later }
def FnExactVainPlacesCardSaid : Prop := Claim7.holds Tryd.pinned (.plain (OpenSpec.ofChange fnExactVainPlacesSpec)) fnExactVainPlacesCard

/-- THE TIED CARD OF 'laws.FnExactMeanHeard'. -/
def fnExactMeanHeardCard : Claim7 := { stood := { row := fnExactMeanHeardRow, standIns := [], harness := (true, "7f6cd45b825d58e8e450c93e296ca85c5ccfc5df72056ea019b1f3dcc2d3d8c4"), looks := false }, kinds := [], alts := [], laidByText := true, laidKinds := [.data, .pinned], laidTests := true, laidLooks := .later }
def FnExactMeanHeardCardSaid : Prop := Claim7.holds Tryd.pinned (.plain (OpenSpec.ofChange fnExactMeanHeardSpec)) fnExactMeanHeardCard

/-- THE TIED CARD OF 'laws.FnExactBestAsk'. -/
def fnExactBestAskCard : Claim7 := { stood := { row := fnExactBestAskRow, standIns := [], harness := (true, "7f6cd45b825d58e8e450c93e296ca85c5ccfc5df72056ea019b1f3dcc2d3d8c4"), looks := false }, kinds := [], alts := [], laidByText := true, laidKinds := [.data, .pinned], laidTests := true, laidLooks := .later }
def FnExactBestAskCardSaid : Prop := Claim7.holds Tryd.pinned (.plain (OpenSpec.ofChange fnExactBestAskSpec)) fnExactBestAskCard

/-- THE TIED CARD OF 'laws.FnExactDepthOf'. -/
def fnExactDepthOfCard : Claim7 := { stood := { row := fnExactDepthOfRow, standIns := [], harness := (true, "7f6cd45b825d58e8e450c93e296ca85c5ccfc5df72056ea019b1f3dcc2d3d8c4"), looks := false }, kinds := [], alts := [], laidByText := true, laidKinds := [.data, .pinned], laidTests := true, laidLooks := .later }
def FnExactDepthOfCardSaid : Prop := Claim7.holds Tryd.pinned (.plain (OpenSpec.ofChange fnExactDepthOfSpec)) fnExactDepthOfCard

/-- THE TIED CARD OF 'laws.FnExactPartBy'. -/
def fnExactPartByCard : Claim7 := { stood := { row := fnExactPartByRow, standIns := [], harness := (true, "7f6cd45b825d58e8e450c93e296ca85c5ccfc5df72056ea019b1f3dcc2d3d8c4"), looks := false }, kinds := [], alts := [], laidByText := true, laidKinds := [.data, .pinned], laidTests := true, laidLooks := .later }
def FnExactPartByCardSaid : Prop := Claim7.holds Tryd.pinned (.plain (OpenSpec.ofChange fnExactPartBySpec)) fnExactPartByCard

/-- THE TIED CARD OF 'laws.FnExactAskedFor'. -/
def fnExactAskedForCard : Claim7 := { stood := { row := fnExactAskedForRow, standIns := [], harness := (true, "7f6cd45b825d58e8e450c93e296ca85c5ccfc5df72056ea019b1f3dcc2d3d8c4"), looks := false }, kinds := [], alts := [], laidByText := true, laidKinds := [.data, .pinned], laidTests := true, laidLooks := .later }
def FnExactAskedForCardSaid : Prop := Claim7.holds Tryd.pinned (.plain (OpenSpec.ofChange fnExactAskedForSpec)) fnExactAskedForCard

/-- THE TIED CARD OF 'laws.FnExactMeanAsked'. -/
def fnExactMeanAskedCard : Claim7 := { stood := { row := fnExactMeanAskedRow, standIns := [], harness := (true, "7f6cd45b825d58e8e450c93e296ca85c5ccfc5df72056ea019b1f3dcc2d3d8c4"), looks := false }, kinds := [], alts := [], laidByText := true, laidKinds := [.data, .pinned], laidTests := true, laidLooks := .later }
def FnExactMeanAskedCardSaid : Prop := Claim7.holds Tryd.pinned (.plain (OpenSpec.ofChange fnExactMeanAskedSpec)) fnExactMeanAskedCard

/-- THE SECOND FORM's CARD OF 'laws.FnExactAnswerTo'. -/
def fnExactAnswerToUptoCard : Claim7 := { stood := { row := fnExactAnswerToUptoRow, standIns := [], harness := (true, "7f6cd45b825d58e8e450c93e296ca85c5ccfc5df72056ea019b1f3dcc2d3d8c4"), looks := false }, kinds := [], alts := [], laidByText := true, laidKinds := [.data, .pinned], laidTests := true, laidLooks := .later }
def FnExactAnswerToUptoCardSaid : Prop := Claim7.holds Tryd.pinned (.plain (OpenSpec.upto fnExactAnswerToSpec)) fnExactAnswerToUptoCard

/-- THE SECOND FORM's CARD OF 'laws.FnExactAreLetters'. -/
def fnExactAreLettersUptoCard : Claim7 := { stood := { row := fnExactAreLettersUptoRow, standIns := [], harness := (true, "7f6cd45b825d58e8e450c93e296ca85c5ccfc5df72056ea019b1f3dcc2d3d8c4"), looks := false }, kinds := [], alts := [], laidByText := true, laidKinds := [.data, .pinned], laidTests := true, laidLooks := .later }
def FnExactAreLettersUptoCardSaid : Prop := Claim7.holds Tryd.pinned (.plain (OpenSpec.upto fnExactAreLettersSpec)) fnExactAreLettersUptoCard

/-- THE SECOND FORM's CARD OF 'laws.FnExactHeardUntil'. -/
def fnExactHeardUntilUptoCard : Claim7 := { stood := { row := fnExactHeardUntilUptoRow, standIns := [], harness := (true, "7f6cd45b825d58e8e450c93e296ca85c5ccfc5df72056ea019b1f3dcc2d3d8c4"), looks := false }, kinds := [], alts := [], laidByText := true, laidKinds := [.data, .pinned], laidTests := true, laidLooks := .later }
def FnExactHeardUntilUptoCardSaid : Prop := Claim7.holds Tryd.pinned (.plain (OpenSpec.upto fnExactHeardUntilSpec)) fnExactHeardUntilUptoCard

/-- THE SECOND FORM's CARD OF 'laws.FnExactLettersBehind'. -/
def fnExactLettersBehindUptoCard : Claim7 := { stood := { row := fnExactLettersBehindUptoRow, standIns := [], harness := (true, "7f6cd45b825d58e8e450c93e296ca85c5ccfc5df72056ea019b1f3dcc2d3d8c4"), looks := false }, kinds := [], alts := [], laidByText := true, laidKinds := [.data, .pinned], laidTests := true, laidLooks := .later }
def FnExactLettersBehindUptoCardSaid : Prop := Claim7.holds Tryd.pinned (.plain (OpenSpec.upto fnExactLettersBehindSpec)) fnExactLettersBehindUptoCard

/-- THE SECOND FORM's CARD OF 'laws.FnExactAsksFirst'. -/
def fnExactAsksFirstUptoCard : Claim7 := { stood := { row := fnExactAsksFirstUptoRow, standIns := [], harness := (true, "7f6cd45b825d58e8e450c93e296ca85c5ccfc5df72056ea019b1f3dcc2d3d8c4"), looks := false }, kinds := [], alts := [], laidByText := true, laidKinds := [.data, .pinned], laidTests := true, laidLooks := .later }
def FnExactAsksFirstUptoCardSaid : Prop := Claim7.holds Tryd.pinned (.plain (OpenSpec.upto fnExactAsksFirstSpec)) fnExactAsksFirstUptoCard

/-- THE SECOND FORM's CARD OF 'laws.FnExactVainPlaces'. -/
def fnExactVainPlacesUptoCard : Claim7 := { stood := { row := fnExactVainPlacesUptoRow, standIns := [], harness := (true, "7f6cd45b825d58e8e450c93e296ca85c5ccfc5df72056ea019b1f3dcc2d3d8c4"), looks := false }, kinds := [], alts := [], laidByText := true, laidKinds := [.data, .pinned], laidTests := true, laidLooks := .later }
def FnExactVainPlacesUptoCardSaid : Prop := Claim7.holds Tryd.pinned (.plain (OpenSpec.upto fnExactVainPlacesSpec)) fnExactVainPlacesUptoCard

/-- THE SECOND FORM's CARD OF 'laws.FnExactMeanHeard'. -/
def fnExactMeanHeardUptoCard : Claim7 := { stood := { row := fnExactMeanHeardUptoRow, standIns := [], harness := (true, "7f6cd45b825d58e8e450c93e296ca85c5ccfc5df72056ea019b1f3dcc2d3d8c4"), looks := false }, kinds := [], alts := [], laidByText := true, laidKinds := [.data, .pinned], laidTests := true, laidLooks := .later }
def FnExactMeanHeardUptoCardSaid : Prop := Claim7.holds Tryd.pinned (.plain (OpenSpec.upto fnExactMeanHeardSpec)) fnExactMeanHeardUptoCard

/-- THE SECOND FORM's CARD OF 'laws.FnExactBestAsk'. -/
def fnExactBestAskUptoCard : Claim7 := { stood := { row := fnExactBestAskUptoRow, standIns := [], harness := (true, "7f6cd45b825d58e8e450c93e296ca85c5ccfc5df72056ea019b1f3dcc2d3d8c4"), looks := false }, kinds := [], alts := [], laidByText := true, laidKinds := [.data, .pinned], laidTests := true, laidLooks := .later }
def FnExactBestAskUptoCardSaid : Prop := Claim7.holds Tryd.pinned (.plain (OpenSpec.upto fnExactBestAskSpec)) fnExactBestAskUptoCard

/-- THE SECOND FORM's CARD OF 'laws.FnExactDepthOf'. -/
def fnExactDepthOfUptoCard : Claim7 := { stood := { row := fnExactDepthOfUptoRow, standIns := [], harness := (true, "7f6cd45b825d58e8e450c93e296ca85c5ccfc5df72056ea019b1f3dcc2d3d8c4"), looks := false }, kinds := [], alts := [], laidByText := true, laidKinds := [.data, .pinned], laidTests := true, laidLooks := .later }
def FnExactDepthOfUptoCardSaid : Prop := Claim7.holds Tryd.pinned (.plain (OpenSpec.upto fnExactDepthOfSpec)) fnExactDepthOfUptoCard

/-- THE SECOND FORM's CARD OF 'laws.FnExactPartBy'. -/
def fnExactPartByUptoCard : Claim7 := { stood := { row := fnExactPartByUptoRow, standIns := [], harness := (true, "7f6cd45b825d58e8e450c93e296ca85c5ccfc5df72056ea019b1f3dcc2d3d8c4"), looks := false }, kinds := [], alts := [], laidByText := true, laidKinds := [.data, .pinned], laidTests := true, laidLooks := .later }
def FnExactPartByUptoCardSaid : Prop := Claim7.holds Tryd.pinned (.plain (OpenSpec.upto fnExactPartBySpec)) fnExactPartByUptoCard

/-- THE SECOND FORM's CARD OF 'laws.FnExactAskedFor'. -/
def fnExactAskedForUptoCard : Claim7 := { stood := { row := fnExactAskedForUptoRow, standIns := [], harness := (true, "7f6cd45b825d58e8e450c93e296ca85c5ccfc5df72056ea019b1f3dcc2d3d8c4"), looks := false }, kinds := [], alts := [], laidByText := true, laidKinds := [.data, .pinned], laidTests := true, laidLooks := .later }
def FnExactAskedForUptoCardSaid : Prop := Claim7.holds Tryd.pinned (.plain (OpenSpec.upto fnExactAskedForSpec)) fnExactAskedForUptoCard

/-- THE SECOND FORM's CARD OF 'laws.FnExactMeanAsked'. -/
def fnExactMeanAskedUptoCard : Claim7 := { stood := { row := fnExactMeanAskedUptoRow, standIns := [], harness := (true, "7f6cd45b825d58e8e450c93e296ca85c5ccfc5df72056ea019b1f3dcc2d3d8c4"), looks := false }, kinds := [], alts := [], laidByText := true, laidKinds := [.data, .pinned], laidTests := true, laidLooks := .later }
def FnExactMeanAskedUptoCardSaid : Prop := Claim7.holds Tryd.pinned (.plain (OpenSpec.upto fnExactMeanAskedSpec)) fnExactMeanAskedUptoCard
end Rows
end Go.Proofs.YtoehcdjndnmmlaaDoor
