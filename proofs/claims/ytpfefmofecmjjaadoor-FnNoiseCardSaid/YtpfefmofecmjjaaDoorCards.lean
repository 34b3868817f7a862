/-
  DERIVED. GIVEN WITH THE SEED: THE CARDS: each row of YtpfefmofecmjjaaDoorRows.lean that lists a variable, with what it lists TIED to the program's text (the seventh form; the later family's looks); each row that meets fmt, with fmt's text TOLD by the authors' own Lean function (tested against real Go, not proved from fmt's source: count such statements apart). THE CARD IS WHAT COUNTS. Prove the row's statement (the work); the ties are given (YtpfefmofecmjjaaDoorTie.lean); close each card by the builder's one call (the guide's Derived/Test/ToyasCard.lean, 'card_holds'). Laid BY PROGRAM, IN A SANDBOX (cutbox-door.mjs). By AI agents, Wed Nov 11 2026. No macro, syntax, notation, axiom, sorry.
-/
import Derived.Test.YtpfefmofecmjjaaDoorRows
import GoSem.ClaimSeven
namespace Go.Proofs.YtpfefmofecmjjaaDoor
namespace Rows

/-- THE TIED CARD OF 'laws.FnNoise'. -/
def fnNoiseCard : Claim7 := { stood := { row := fnNoiseRow, standIns := [], harness := (true, "97f475532cd87dbfccd29ad747c1b5b2b8e9ff887c89ae2bff1ad741b9d28a69"), looks := false }, kinds := [], alts := [], laidByText := true, laidKinds := [.data, .pinned], laidTests := true, laidLooks := .later }
def FnNoiseCardSaid : Prop := Claim7.holds Tryd.pinned (.plain (OpenSpec.ofChange fnNoiseSpec)) fnNoiseCard

/-- THE SECOND FORM's CARD OF 'laws.FnNoise'. -/
def fnNoiseUptoCard : Claim7 := { stood := { row := fnNoiseUptoRow, standIns := [], harness := (true, "97f475532cd87dbfccd29ad747c1b5b2b8e9ff887c89ae2bff1ad741b9d28a69"), looks := false }, kinds := [], alts := [], laidByText := true, laidKinds := [.data, .pinned], laidTests := true, laidLooks := .later }
def FnNoiseUptoCardSaid : Prop := Claim7.holds Tryd.pinned (.plain (OpenSpec.upto fnNoiseSpec)) fnNoiseUptoCard
end Rows
end Go.Proofs.YtpfefmofecmjjaaDoor
