/-
  DERIVED. GIVEN WITH THE SEED: THE CARDS: each row of YtlakldjpnpailaaGreatDoorRows.lean that lists a variable, with what it lists TIED to the program's text (the seventh form; the later family's looks); each row that meets fmt, with fmt's text TOLD by the authors' own Lean function (tested against real Go, not proved from fmt's source: count such statements apart). THE CARD IS WHAT COUNTS. Prove the row's statement (the work); the ties are given (YtlakldjpnpailaaGreatDoorTie.lean); close each card by the builder's one call (the guide's Derived/Test/ToyasCard.lean, 'card_holds'). Laid BY PROGRAM, IN A SANDBOX (cutbox-door.mjs). By AI agents, Wed Nov 11 2026. No macro, syntax, notation, axiom, sorry.
-/
import Derived.Test.YtlakldjpnpailaaGreatDoorRows
import GoSem.ClaimSeven
namespace Go.Proofs.YtlakldjpnpailaaGreatDoor
namespace Rows

/-- THE TIED CARD OF 'laws.FnRelayPlans'. -/
def fnRelayPlansCard : Claim7 := { stood := { row := fnRelayPlansRow, standIns := [], harness := (true, "86eccb8d9b8789553cfad5500197ea057550684b946ef4aee852398b17bbafa3"), looks := false }, kinds := [], alts := [], laidByText := true, laidKinds := [.data, .data, .data], laidTests := true, laidLooks := .later }
def FnRelayPlansCardSaid : Prop := Claim7.holds Tryz.pinned (.plain (OpenSpec.ofChange fnRelayPlansSpec)) fnRelayPlansCard

/-- THE SECOND FORM's CARD OF 'laws.FnRelayPlans'. -/
def fnRelayPlansUptoCard : Claim7 := { stood := { row := fnRelayPlansUptoRow, standIns := [], harness := (true, "86eccb8d9b8789553cfad5500197ea057550684b946ef4aee852398b17bbafa3"), looks := false }, kinds := [], alts := [], laidByText := true, laidKinds := [.data, .data, .data], laidTests := true, laidLooks := .later }
def FnRelayPlansUptoCardSaid : Prop := Claim7.holds Tryz.pinned (.plain (OpenSpec.upto fnRelayPlansSpec)) fnRelayPlansUptoCard
end Rows
end Go.Proofs.YtlakldjpnpailaaGreatDoor
