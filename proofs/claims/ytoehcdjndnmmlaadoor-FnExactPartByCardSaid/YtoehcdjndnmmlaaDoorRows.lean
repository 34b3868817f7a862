/-
  NARROWER THAN 'FOR EVERY INPUT', by the rows' own cells (each row's printed sentence says how): FnExactAnswerTo: laid · FnExactAreLetters: laid · FnExactHeardUntil: laid · FnExactLettersBehind: laid · FnExactAsksFirst: laid · FnExactVainPlaces: laid · FnExactMeanHeard: laid · FnExactBestAsk: laid · FnExactDepthOf: laid · FnExactPartBy: laid · FnExactAskedFor: laid · FnExactMeanAsked: laid.
  DERIVED. THE GIVEN ROWS OF THIS SEAT. 12 by the template 'for every input the law returns true; each argument reads behind the call as it read before'; 0 by the template 'total and deterministic' (their statements: YtoehcdjndnmmlaaDoorTotals.lean).
  GIVEN WITH THE SEED: the statements are not yours to turn. If you find one false, say at which input.
  Laid BY PROGRAM, IN A SANDBOX (cutbox-rows.mjs): the forced cells as the released guide's own fill.sh prints them over the translation 136b8fa24d8480c3… (all of the seat's roots in one cut). By AI agents, Wed Nov 11 2026. No macro, syntax, notation, axiom, sorry.
-/
import Derived.Test.YtoehcdjndnmmlaaDoorChecked
import GoSem.PinnedTables
import GoSem.Claim
import GoSem.ClaimJoined
import GoSem.ClaimMapViews
import Derived.JoinedTies
import Derived.KernelRfl
namespace Go.Proofs.YtoehcdjndnmmlaaDoor
/- THE CELL 'sum', in the pinned program and in every row, IS THE sha256 OF THE DUMP (.gsa) THAT YtoehcdjndnmmlaaDoorProg.lean LOADS. Nothing in Lean hashes anything: it is a label: what it is worth is what the hold of that sum in a sandbox is worth. -/
noncomputable def Tryd.pinned : Pinned := { name := "ytoehcdjndnmmlaadoor", sum := "136b8fa24d8480c38389b92d4c9269f0c6dee089f88434678ca0af8283db0a81", checked := Tryd.checked }
namespace Rows
def none {H : Type} : Left H := { results := [], args := [] }

/- WHAT THE LISTED PACKAGE-LEVEL VARIABLES READ AS WHEN THE CALL BEGINS. Each datum BY PROGRAM (the guide's laid-datum.mjs) off the statement by which the dump's own 'gosem.cut.vars' lays the variable. In a bare row this is a premise. The card (YtoehcdjndnmmlaaDoorCards.lean) ties it to the program's text. -/
def laid_unicode_utf8_acceptRanges {H : Type} : DataW H := .agg [.agg [.lit (.int .u8 128), .lit (.int .u8 191)], .agg [.lit (.int .u8 160), .lit (.int .u8 191)], .agg [.lit (.int .u8 128), .lit (.int .u8 159)], .agg [.lit (.int .u8 144), .lit (.int .u8 191)], .agg [.lit (.int .u8 128), .lit (.int .u8 143)], .agg [.lit (.int .u8 0), .lit (.int .u8 0)], .agg [.lit (.int .u8 0), .lit (.int .u8 0)], .agg [.lit (.int .u8 0), .lit (.int .u8 0)], .agg [.lit (.int .u8 0), .lit (.int .u8 0)], .agg [.lit (.int .u8 0), .lit (.int .u8 0)], .agg [.lit (.int .u8 0), .lit (.int .u8 0)], .agg [.lit (.int .u8 0), .lit (.int .u8 0)], .agg [.lit (.int .u8 0), .lit (.int .u8 0)], .agg [.lit (.int .u8 0), .lit (.int .u8 0)], .agg [.lit (.int .u8 0), .lit (.int .u8 0)], .agg [.lit (.int .u8 0), .lit (.int .u8 0)]]
/-- One of Go's own tables, pinned by name: the form's constant. -/
def laid_unicode_utf8_first : DataW Unit := Go.Pinned.utf8First

/-- 'laws.FnExactAnswerTo': WHATEVER THE INPUT: true; the input reads as it did. -/
def fnExactAnswerToSpec : ChangeSpec := { name := "fnExactAnswerTo", fn := fun _ => fun
  | [d1, d2, d3] => { results := [.lit (.bool true)], args := [d1, d2, d3] }
  | _ => none }
def fnExactAnswerToRow : OpenClaim := { program := "ytoehcdjndnmmlaadoor", sum := "136b8fa24d8480c38389b92d4c9269f0c6dee089f88434678ca0af8283db0a81", func := "loop.example/g01248/laws.FnExactAnswerTo", spec := "fnExactAnswerTo", inPlace := ["internal/bytealg.IndexByteString", "internal/bytealg.IndexString"], named := ["unicode/utf8.first", "unicode/utf8.acceptRanges", "internal/bytealg.MaxLen"], apart := false, laid := [("unicode/utf8.acceptRanges", laid_unicode_utf8_acceptRanges), ("unicode/utf8.first", laid_unicode_utf8_first)] }
def FnExactAnswerToSaid : Prop := fnExactAnswerToRow.holds Tryd.pinned (OpenSpec.ofChange fnExactAnswerToSpec)

/-- ITS FALSE NEIGHBOUR: 'it returns false'. Refute it at one input. -/
def fnExactAnswerToWrong : ChangeSpec := { name := "fnExactAnswerTo", fn := fun _ => fun
  | [d1, d2, d3] => { results := [.lit (.bool false)], args := [d1, d2, d3] }
  | _ => none }
def FnExactAnswerToWrongFalsely : Prop := fnExactAnswerToRow.holds Tryd.pinned (OpenSpec.ofChange fnExactAnswerToWrong)

/-- 'laws.FnExactAreLetters': WHATEVER THE INPUT: true; the input reads as it did. -/
def fnExactAreLettersSpec : ChangeSpec := { name := "fnExactAreLetters", fn := fun _ => fun
  | [d1, d2] => { results := [.lit (.bool true)], args := [d1, d2] }
  | _ => none }
def fnExactAreLettersRow : OpenClaim := { program := "ytoehcdjndnmmlaadoor", sum := "136b8fa24d8480c38389b92d4c9269f0c6dee089f88434678ca0af8283db0a81", func := "loop.example/g01248/laws.FnExactAreLetters", spec := "fnExactAreLetters", inPlace := ["internal/bytealg.IndexByteString", "internal/bytealg.IndexString"], named := ["unicode/utf8.first", "unicode/utf8.acceptRanges", "internal/bytealg.MaxLen"], apart := false, laid := [("unicode/utf8.acceptRanges", laid_unicode_utf8_acceptRanges), ("unicode/utf8.first", laid_unicode_utf8_first)] }
def FnExactAreLettersSaid : Prop := fnExactAreLettersRow.holds Tryd.pinned (OpenSpec.ofChange fnExactAreLettersSpec)

/-- ITS FALSE NEIGHBOUR: 'it returns false'. Refute it at one input. -/
def fnExactAreLettersWrong : ChangeSpec := { name := "fnExactAreLetters", fn := fun _ => fun
  | [d1, d2] => { results := [.lit (.bool false)], args := [d1, d2] }
  | _ => none }
def FnExactAreLettersWrongFalsely : Prop := fnExactAreLettersRow.holds Tryd.pinned (OpenSpec.ofChange fnExactAreLettersWrong)

/-- 'laws.FnExactHeardUntil': WHATEVER THE INPUT: true; the input reads as it did. -/
def fnExactHeardUntilSpec : ChangeSpec := { name := "fnExactHeardUntil", fn := fun _ => fun
  | [d1, d2] => { results := [.lit (.bool true)], args := [d1, d2] }
  | _ => none }
def fnExactHeardUntilRow : OpenClaim := { program := "ytoehcdjndnmmlaadoor", sum := "136b8fa24d8480c38389b92d4c9269f0c6dee089f88434678ca0af8283db0a81", func := "loop.example/g01248/laws.FnExactHeardUntil", spec := "fnExactHeardUntil", inPlace := ["internal/bytealg.IndexByteString", "internal/bytealg.IndexString"], named := ["unicode/utf8.first", "unicode/utf8.acceptRanges", "internal/bytealg.MaxLen"], apart := false, laid := [("unicode/utf8.acceptRanges", laid_unicode_utf8_acceptRanges), ("unicode/utf8.first", laid_unicode_utf8_first)] }
def FnExactHeardUntilSaid : Prop := fnExactHeardUntilRow.holds Tryd.pinned (OpenSpec.ofChange fnExactHeardUntilSpec)

/-- ITS FALSE NEIGHBOUR: 'it returns false'. Refute it at one input. -/
def fnExactHeardUntilWrong : ChangeSpec := { name := "fnExactHeardUntil", fn := fun _ => fun
  | [d1, d2] => { results := [.lit (.bool false)], args := [d1, d2] }
  | _ => none }
def FnExactHeardUntilWrongFalsely : Prop := fnExactHeardUntilRow.holds Tryd.pinned (OpenSpec.ofChange fnExactHeardUntilWrong)

/-- 'laws.FnExactLettersBehind': WHATEVER THE INPUT: true; the input reads as it did. -/
def fnExactLettersBehindSpec : ChangeSpec := { name := "fnExactLettersBehind", fn := fun _ => fun
  | [d1, d2] => { results := [.lit (.bool true)], args := [d1, d2] }
  | _ => none }
def fnExactLettersBehindRow : OpenClaim := { program := "ytoehcdjndnmmlaadoor", sum := "136b8fa24d8480c38389b92d4c9269f0c6dee089f88434678ca0af8283db0a81", func := "loop.example/g01248/laws.FnExactLettersBehind", spec := "fnExactLettersBehind", inPlace := ["internal/bytealg.IndexByteString", "internal/bytealg.IndexString"], named := ["unicode/utf8.first", "unicode/utf8.acceptRanges", "internal/bytealg.MaxLen"], apart := false, laid := [("unicode/utf8.acceptRanges", laid_unicode_utf8_acceptRanges), ("unicode/utf8.first", laid_unicode_utf8_first)] }
def FnExactLettersBehindSaid : Prop := fnExactLettersBehindRow.holds Tryd.pinned (OpenSpec.ofChange fnExactLettersBehindSpec)

/-- ITS FALSE NEIGHBOUR: 'it returns false'. Refute it at one input. -/
def fnExactLettersBehindWrong : ChangeSpec := { name := "fnExactLettersBehind", fn := fun _ => fun
  | [d1, d2] => { results := [.lit (.bool false)], args := [d1, d2] }
  | _ => none }
def FnExactLettersBehindWrongFalsely : Prop := fnExactLettersBehindRow.holds Tryd.pinned (OpenSpec.ofChange fnExactLettersBehindWrong)

/-- 'laws.FnExactAsksFirst': WHATEVER THE INPUT: true; the input reads as it did. -/
def fnExactAsksFirstSpec : ChangeSpec := { name := "fnExactAsksFirst", fn := fun _ => fun
  | [d1, d2] => { results := [.lit (.bool true)], args := [d1, d2] }
  | _ => none }
def fnExactAsksFirstRow : OpenClaim := { program := "ytoehcdjndnmmlaadoor", sum := "136b8fa24d8480c38389b92d4c9269f0c6dee089f88434678ca0af8283db0a81", func := "loop.example/g01248/laws.FnExactAsksFirst", spec := "fnExactAsksFirst", inPlace := ["internal/bytealg.IndexByteString", "internal/bytealg.IndexString"], unfollowed := true, recurses := true, named := ["unicode/utf8.first", "unicode/utf8.acceptRanges", "internal/bytealg.MaxLen"], apart := false, laid := [("unicode/utf8.acceptRanges", laid_unicode_utf8_acceptRanges), ("unicode/utf8.first", laid_unicode_utf8_first)] }
def FnExactAsksFirstSaid : Prop := fnExactAsksFirstRow.holds Tryd.pinned (OpenSpec.ofChange fnExactAsksFirstSpec)

/-- ITS FALSE NEIGHBOUR: 'it returns false'. Refute it at one input. -/
def fnExactAsksFirstWrong : ChangeSpec := { name := "fnExactAsksFirst", fn := fun _ => fun
  | [d1, d2] => { results := [.lit (.bool false)], args := [d1, d2] }
  | _ => none }
def FnExactAsksFirstWrongFalsely : Prop := fnExactAsksFirstRow.holds Tryd.pinned (OpenSpec.ofChange fnExactAsksFirstWrong)

/-- 'laws.FnExactVainPlaces': WHATEVER THE INPUT: true; the input reads as it did. -/
def fnExactVainPlacesSpec : ChangeSpec := { name := "fnExactVainPlaces", fn := fun _ => fun
  | [d1, d2] => { results := [.lit (.bool true)], args := [d1, d2] }
  | _ => none }
def fnExactVainPlacesRow : OpenClaim := { program := "ytoehcdjndnmmlaadoor", sum := "136b8fa24d8480c38389b92d4c9269f0c6dee089f88434678ca0af8283db0a81", func := "loop.example/g01248/laws.FnExactVainPlaces", spec := "fnExactVainPlaces", inPlace := ["internal/bytealg.IndexByteString", "internal/bytealg.IndexString"], named := ["unicode/utf8.first", "unicode/utf8.acceptRanges", "internal/bytealg.MaxLen"], apart := false, laid := [("unicode/utf8.acceptRanges", laid_unicode_utf8_acceptRanges), ("unicode/utf8.first", laid_unicode_utf8_first)] }
def FnExactVainPlacesSaid : Prop := fnExactVainPlacesRow.holds Tryd.pinned (OpenSpec.ofChange fnExactVainPlacesSpec)

/-- ITS FALSE NEIGHBOUR: 'it returns false'. Refute it at one input. -/
def fnExactVainPlacesWrong : ChangeSpec := { name := "fnExactVainPlaces", fn := fun _ => fun
  | [d1, d2] => { results := [.lit (.bool false)], args := [d1, d2] }
  | _ => none }
def FnExactVainPlacesWrongFalsely : Prop := fnExactVainPlacesRow.holds Tryd.pinned (OpenSpec.ofChange fnExactVainPlacesWrong)

/-- 'laws.FnExactMeanHeard': WHATEVER THE INPUT: true; the input reads as it did. -/
def fnExactMeanHeardSpec : ChangeSpec := { name := "fnExactMeanHeard", fn := fun _ => fun
  | [d1, d2] => { results := [.lit (.bool true)], args := [d1, d2] }
  | _ => none }
def fnExactMeanHeardRow : OpenClaim := { program := "ytoehcdjndnmmlaadoor", sum := "136b8fa24d8480c38389b92d4c9269f0c6dee089f88434678ca0af8283db0a81", func := "loop.example/g01248/laws.FnExactMeanHeard", spec := "fnExactMeanHeard", inPlace := ["internal/bytealg.IndexByteString", "internal/bytealg.IndexString"], unfollowed := true, recurses := true, named := ["unicode/utf8.first", "unicode/utf8.acceptRanges", "internal/bytealg.MaxLen"], apart := false, laid := [("unicode/utf8.acceptRanges", laid_unicode_utf8_acceptRanges), ("unicode/utf8.first", laid_unicode_utf8_first)] }
def FnExactMeanHeardSaid : Prop := fnExactMeanHeardRow.holds Tryd.pinned (OpenSpec.ofChange fnExactMeanHeardSpec)

/-- ITS FALSE NEIGHBOUR: 'it returns false'. Refute it at one input. -/
def fnExactMeanHeardWrong : ChangeSpec := { name := "fnExactMeanHeard", fn := fun _ => fun
  | [d1, d2] => { results := [.lit (.bool false)], args := [d1, d2] }
  | _ => none }
def FnExactMeanHeardWrongFalsely : Prop := fnExactMeanHeardRow.holds Tryd.pinned (OpenSpec.ofChange fnExactMeanHeardWrong)

/-- 'laws.FnExactBestAsk': WHATEVER THE INPUT: true; the input reads as it did. -/
def fnExactBestAskSpec : ChangeSpec := { name := "fnExactBestAsk", fn := fun _ => fun
  | [d1, d2] => { results := [.lit (.bool true)], args := [d1, d2] }
  | _ => none }
def fnExactBestAskRow : OpenClaim := { program := "ytoehcdjndnmmlaadoor", sum := "136b8fa24d8480c38389b92d4c9269f0c6dee089f88434678ca0af8283db0a81", func := "loop.example/g01248/laws.FnExactBestAsk", spec := "fnExactBestAsk", inPlace := ["internal/bytealg.IndexByteString", "internal/bytealg.IndexString"], recurses := true, named := ["unicode/utf8.first", "unicode/utf8.acceptRanges", "internal/bytealg.MaxLen"], apart := false, laid := [("unicode/utf8.acceptRanges", laid_unicode_utf8_acceptRanges), ("unicode/utf8.first", laid_unicode_utf8_first)] }
def FnExactBestAskSaid : Prop := fnExactBestAskRow.holds Tryd.pinned (OpenSpec.ofChange fnExactBestAskSpec)

/-- ITS FALSE NEIGHBOUR: 'it returns false'. Refute it at one input. -/
def fnExactBestAskWrong : ChangeSpec := { name := "fnExactBestAsk", fn := fun _ => fun
  | [d1, d2] => { results := [.lit (.bool false)], args := [d1, d2] }
  | _ => none }
def FnExactBestAskWrongFalsely : Prop := fnExactBestAskRow.holds Tryd.pinned (OpenSpec.ofChange fnExactBestAskWrong)

/-- 'laws.FnExactDepthOf': WHATEVER THE INPUT: true; the input reads as it did. -/
def fnExactDepthOfSpec : ChangeSpec := { name := "fnExactDepthOf", fn := fun _ => fun
  | [d1, d2] => { results := [.lit (.bool true)], args := [d1, d2] }
  | _ => none }
def fnExactDepthOfRow : OpenClaim := { program := "ytoehcdjndnmmlaadoor", sum := "136b8fa24d8480c38389b92d4c9269f0c6dee089f88434678ca0af8283db0a81", func := "loop.example/g01248/laws.FnExactDepthOf", spec := "fnExactDepthOf", inPlace := ["internal/bytealg.IndexByteString", "internal/bytealg.IndexString"], recurses := true, named := ["unicode/utf8.first", "unicode/utf8.acceptRanges", "internal/bytealg.MaxLen"], apart := false, laid := [("unicode/utf8.acceptRanges", laid_unicode_utf8_acceptRanges), ("unicode/utf8.first", laid_unicode_utf8_first)] }
def FnExactDepthOfSaid : Prop := fnExactDepthOfRow.holds Tryd.pinned (OpenSpec.ofChange fnExactDepthOfSpec)

/-- ITS FALSE NEIGHBOUR: 'it returns false'. Refute it at one input. -/
def fnExactDepthOfWrong : ChangeSpec := { name := "fnExactDepthOf", fn := fun _ => fun
  | [d1, d2] => { results := [.lit (.bool false)], args := [d1, d2] }
  | _ => none }
def FnExactDepthOfWrongFalsely : Prop := fnExactDepthOfRow.holds Tryd.pinned (OpenSpec.ofChange fnExactDepthOfWrong)

/-- 'laws.FnExactPartBy': WHATEVER THE INPUT: true; the input reads as it did. -/
def fnExactPartBySpec : ChangeSpec := { name := "fnExactPartBy", fn := fun _ => fun
  | [d1, d2, d3] => { results := [.lit (.bool true)], args := [d1, d2, d3] }
  | _ => none }
def fnExactPartByRow : OpenClaim := { program := "ytoehcdjndnmmlaadoor", sum := "136b8fa24d8480c38389b92d4c9269f0c6dee089f88434678ca0af8283db0a81", func := "loop.example/g01248/laws.FnExactPartBy", spec := "fnExactPartBy", inPlace := ["internal/bytealg.IndexByteString", "internal/bytealg.IndexString"], named := ["unicode/utf8.first", "unicode/utf8.acceptRanges", "internal/bytealg.MaxLen"], apart := false, laid := [("unicode/utf8.acceptRanges", laid_unicode_utf8_acceptRanges), ("unicode/utf8.first", laid_unicode_utf8_first)] }
def FnExactPartBySaid : Prop := fnExactPartByRow.holds Tryd.pinned (OpenSpec.ofChange fnExactPartBySpec)

/-- ITS FALSE NEIGHBOUR: 'it returns false'. Refute it at one input. -/
def fnExactPartByWrong : ChangeSpec := { name := "fnExactPartBy", fn := fun _ => fun
  | [d1, d2, d3] => { results := [.lit (.bool false)], args := [d1, d2, d3] }
  | _ => none }
def FnExactPartByWrongFalsely : Prop := fnExactPartByRow.holds Tryd.pinned (OpenSpec.ofChange fnExactPartByWrong)

/-- 'laws.FnExactAskedFor': WHATEVER THE INPUT: true; the input reads as it did. -/
def fnExactAskedForSpec : ChangeSpec := { name := "fnExactAskedFor", fn := fun _ => fun
  | [d1, d2] => { results := [.lit (.bool true)], args := [d1, d2] }
  | _ => none }
def fnExactAskedForRow : OpenClaim := { program := "ytoehcdjndnmmlaadoor", sum := "136b8fa24d8480c38389b92d4c9269f0c6dee089f88434678ca0af8283db0a81", func := "loop.example/g01248/laws.FnExactAskedFor", spec := "fnExactAskedFor", inPlace := ["internal/bytealg.IndexByteString", "internal/bytealg.IndexString"], recurses := true, named := ["unicode/utf8.first", "unicode/utf8.acceptRanges", "internal/bytealg.MaxLen"], apart := false, laid := [("unicode/utf8.acceptRanges", laid_unicode_utf8_acceptRanges), ("unicode/utf8.first", laid_unicode_utf8_first)] }
def FnExactAskedForSaid : Prop := fnExactAskedForRow.holds Tryd.pinned (OpenSpec.ofChange fnExactAskedForSpec)

/-- ITS FALSE NEIGHBOUR: 'it returns false'. Refute it at one input. -/
def fnExactAskedForWrong : ChangeSpec := { name := "fnExactAskedFor", fn := fun _ => fun
  | [d1, d2] => { results := [.lit (.bool false)], args := [d1, d2] }
  | _ => none }
def FnExactAskedForWrongFalsely : Prop := fnExactAskedForRow.holds Tryd.pinned (OpenSpec.ofChange fnExactAskedForWrong)

/-- 'laws.FnExactMeanAsked': WHATEVER THE INPUT: true; the input reads as it did. -/
def fnExactMeanAskedSpec : ChangeSpec := { name := "fnExactMeanAsked", fn := fun _ => fun
  | [d1, d2] => { results := [.lit (.bool true)], args := [d1, d2] }
  | _ => none }
def fnExactMeanAskedRow : OpenClaim := { program := "ytoehcdjndnmmlaadoor", sum := "136b8fa24d8480c38389b92d4c9269f0c6dee089f88434678ca0af8283db0a81", func := "loop.example/g01248/laws.FnExactMeanAsked", spec := "fnExactMeanAsked", inPlace := ["internal/bytealg.IndexByteString", "internal/bytealg.IndexString"], unfollowed := true, recurses := true, named := ["unicode/utf8.first", "unicode/utf8.acceptRanges", "internal/bytealg.MaxLen"], apart := false, laid := [("unicode/utf8.acceptRanges", laid_unicode_utf8_acceptRanges), ("unicode/utf8.first", laid_unicode_utf8_first)] }
def FnExactMeanAskedSaid : Prop := fnExactMeanAskedRow.holds Tryd.pinned (OpenSpec.ofChange fnExactMeanAskedSpec)

/-- ITS FALSE NEIGHBOUR: 'it returns false'. Refute it at one input. -/
def fnExactMeanAskedWrong : ChangeSpec := { name := "fnExactMeanAsked", fn := fun _ => fun
  | [d1, d2] => { results := [.lit (.bool false)], args := [d1, d2] }
  | _ => none }
def FnExactMeanAskedWrongFalsely : Prop := fnExactMeanAskedRow.holds Tryd.pinned (OpenSpec.ofChange fnExactMeanAskedWrong)

/- THE SECOND FORM. 'bulk': how many values and letters a reading holds, each counted each time it is reached (what is shared counts as often as it is met; a slice's spare places count too). A statement '..UptoSaid' is the law's where the arguments, and the package variables that the reading takes, are together of bulk at most 1048576: NARROWER than '..Said'. Prove '..Said' where nothing that the law and all that it calls make is longer than what came in: it says more and counts as full. Else prove '..UptoSaid'. A law counts once. -/
mutual
def uptoBulk {H : Type} : DataW H → Nat
  | .lit (.string bytes) => bytes.length + 1
  | .lit _ => 1
  | .nil => 1
  | .ptr d => uptoBulk d + 1
  | .slice elems spare => uptoBulkAll elems + uptoBulkAll spare + 1
  | .agg parts => uptoBulkAll parts + 1
  | .iface _ d => uptoBulk d + 1
  | .map entries => uptoBulkEntries entries + 1
  | .held _ => 1
def uptoBulkAll {H : Type} : List (DataW H) → Nat
  | [] => 0
  | d :: r => uptoBulk d + uptoBulkAll r
def uptoBulkEntries {H : Type} : List (Lit × DataW H) → Nat
  | [] => 0
  | x :: r => uptoBulkEntry x + uptoBulkEntries r
def uptoBulkEntry {H : Type} : Lit × DataW H → Nat
  | (.string bytes, d) => bytes.length + uptoBulk d + 1
  | (_, d) => uptoBulk d + 1
 end
def uptoSmall : (H : Type) → List (DataW H) → Bool := fun _ ds => decide (uptoBulkAll ds ≤ 1048576)
def OpenSpec.upto (s : _root_.Go.ChangeSpec) : _root_.Go.OpenSpec := { _root_.Go.OpenSpec.ofChange s with cond := some uptoSmall }

/-- 'laws.FnExactAnswerTo', WHERE WHAT IT READS IS OF BULK AT MOST 1048576: true; the input reads as it did. -/
def fnExactAnswerToUptoRow : OpenClaim := { program := "ytoehcdjndnmmlaadoor", sum := "136b8fa24d8480c38389b92d4c9269f0c6dee089f88434678ca0af8283db0a81", func := "loop.example/g01248/laws.FnExactAnswerTo", spec := "fnExactAnswerTo", inPlace := ["internal/bytealg.IndexByteString", "internal/bytealg.IndexString"], named := ["unicode/utf8.first", "unicode/utf8.acceptRanges", "internal/bytealg.MaxLen"], apart := false, laid := [("unicode/utf8.acceptRanges", laid_unicode_utf8_acceptRanges), ("unicode/utf8.first", laid_unicode_utf8_first)], narrowed := true }
def FnExactAnswerToUptoSaid : Prop := fnExactAnswerToUptoRow.holds Tryd.pinned (OpenSpec.upto fnExactAnswerToSpec)

/-- 'laws.FnExactAreLetters', WHERE WHAT IT READS IS OF BULK AT MOST 1048576: true; the input reads as it did. -/
def fnExactAreLettersUptoRow : OpenClaim := { program := "ytoehcdjndnmmlaadoor", sum := "136b8fa24d8480c38389b92d4c9269f0c6dee089f88434678ca0af8283db0a81", func := "loop.example/g01248/laws.FnExactAreLetters", spec := "fnExactAreLetters", inPlace := ["internal/bytealg.IndexByteString", "internal/bytealg.IndexString"], named := ["unicode/utf8.first", "unicode/utf8.acceptRanges", "internal/bytealg.MaxLen"], apart := false, laid := [("unicode/utf8.acceptRanges", laid_unicode_utf8_acceptRanges), ("unicode/utf8.first", laid_unicode_utf8_first)], narrowed := true }
def FnExactAreLettersUptoSaid : Prop := fnExactAreLettersUptoRow.holds Tryd.pinned (OpenSpec.upto fnExactAreLettersSpec)

/-- 'laws.FnExactHeardUntil', WHERE WHAT IT READS IS OF BULK AT MOST 1048576: true; the input reads as it did. -/
def fnExactHeardUntilUptoRow : OpenClaim := { program := "ytoehcdjndnmmlaadoor", sum := "136b8fa24d8480c38389b92d4c9269f0c6dee089f88434678ca0af8283db0a81", func := "loop.example/g01248/laws.FnExactHeardUntil", spec := "fnExactHeardUntil", inPlace := ["internal/bytealg.IndexByteString", "internal/bytealg.IndexString"], named := ["unicode/utf8.first", "unicode/utf8.acceptRanges", "internal/bytealg.MaxLen"], apart := false, laid := [("unicode/utf8.acceptRanges", laid_unicode_utf8_acceptRanges), ("unicode/utf8.first", laid_unicode_utf8_first)], narrowed := true }
def FnExactHeardUntilUptoSaid : Prop := fnExactHeardUntilUptoRow.holds Tryd.pinned (OpenSpec.upto fnExactHeardUntilSpec)

/-- 'laws.FnExactLettersBehind', WHERE WHAT IT READS IS OF BULK AT MOST 1048576: true; the input reads as it did. -/
def fnExactLettersBehindUptoRow : OpenClaim := { program := "ytoehcdjndnmmlaadoor", sum := "136b8fa24d8480c38389b92d4c9269f0c6dee089f88434678ca0af8283db0a81", func := "loop.example/g01248/laws.FnExactLettersBehind", spec := "fnExactLettersBehind", inPlace := ["internal/bytealg.IndexByteString", "internal/bytealg.IndexString"], named := ["unicode/utf8.first", "unicode/utf8.acceptRanges", "internal/bytealg.MaxLen"], apart := false, laid := [("unicode/utf8.acceptRanges", laid_unicode_utf8_acceptRanges), ("unicode/utf8.first", laid_unicode_utf8_first)], narrowed := true }
def FnExactLettersBehindUptoSaid : Prop := fnExactLettersBehindUptoRow.holds Tryd.pinned (OpenSpec.upto fnExactLettersBehindSpec)

/-- 'laws.FnExactAsksFirst', WHERE WHAT IT READS IS OF BULK AT MOST 1048576: true; the input reads as it did. -/
def fnExactAsksFirstUptoRow : OpenClaim := { program := "ytoehcdjndnmmlaadoor", sum := "136b8fa24d8480c38389b92d4c9269f0c6dee089f88434678ca0af8283db0a81", func := "loop.example/g01248/laws.FnExactAsksFirst", spec := "fnExactAsksFirst", inPlace := ["internal/bytealg.IndexByteString", "internal/bytealg.IndexString"], unfollowed := true, recurses := true, named := ["unicode/utf8.first", "unicode/utf8.acceptRanges", "internal/bytealg.MaxLen"], apart := false, laid := [("unicode/utf8.acceptRanges", laid_unicode_utf8_acceptRanges), ("unicode/utf8.first", laid_unicode_utf8_first)], narrowed := true }
def FnExactAsksFirstUptoSaid : Prop := fnExactAsksFirstUptoRow.holds Tryd.pinned (OpenSpec.upto fnExactAsksFirstSpec)

/-- 'laws.FnExactVainPlaces', WHERE WHAT IT READS IS OF BULK AT MOST 1048576: true; the input reads as it did. -/
def fnExactVainPlacesUptoRow : OpenClaim := { program := "ytoehcdjndnmmlaadoor", sum := "136b8fa24d8480c38389b92d4c9269f0c6dee089f88434678ca0af8283db0a81", func := "loop.example/g01248/laws.FnExactVainPlaces", spec := "fnExactVainPlaces", inPlace := ["internal/bytealg.IndexByteString", "internal/bytealg.IndexString"], named := ["unicode/utf8.first", "unicode/utf8.acceptRanges", "internal/bytealg.MaxLen"], apart := false, laid := [("unicode/utf8.acceptRanges", laid_unicode_utf8_acceptRanges), ("unicode/utf8.first", laid_unicode_utf8_first)], narrowed := true }
def FnExactVainPlacesUptoSaid : Prop := fnExactVainPlacesUptoRow.holds Tryd.pinned (OpenSpec.upto fnExactVainPlacesSpec)

/-- 'laws.FnExactMeanHeard', WHERE WHAT IT READS IS OF BULK AT MOST 1048576: true; the input reads as it did. -/
def fnExactMeanHeardUptoRow : OpenClaim := { program := "ytoehcdjndnmmlaadoor", sum := "136b8fa24d8480c38389b92d4c9269f0c6dee089f88434678ca0af8283db0a81", func := "loop.example/g01248/laws.FnExactMeanHeard", spec := "fnExactMeanHeard", inPlace := ["internal/bytealg.IndexByteString", "internal/bytealg.IndexString"], unfollowed := true, recurses := true, named := ["unicode/utf8.first", "unicode/utf8.acceptRanges", "internal/bytealg.MaxLen"], apart := false, laid := [("unicode/utf8.acceptRanges", laid_unicode_utf8_acceptRanges), ("unicode/utf8.first", laid_unicode_utf8_first)], narrowed := true }
def FnExactMeanHeardUptoSaid : Prop := fnExactMeanHeardUptoRow.holds Tryd.pinned (OpenSpec.upto fnExactMeanHeardSpec)

/-- 'laws.FnExactBestAsk', WHERE WHAT IT READS IS OF BULK AT MOST 1048576: true; the input reads as it did. -/
def fnExactBestAskUptoRow : OpenClaim := { program := "ytoehcdjndnmmlaadoor", sum := "136b8fa24d8480c38389b92d4c9269f0c6dee089f88434678ca0af8283db0a81", func := "loop.example/g01248/laws.FnExactBestAsk", spec := "fnExactBestAsk", inPlace := ["internal/bytealg.IndexByteString", "internal/bytealg.IndexString"], recurses := true, named := ["unicode/utf8.first", "unicode/utf8.acceptRanges", "internal/bytealg.MaxLen"], apart := false, laid := [("unicode/utf8.acceptRanges", laid_unicode_utf8_acceptRanges), ("unicode/utf8.first", laid_unicode_utf8_first)], narrowed := true }
def FnExactBestAskUptoSaid : Prop := fnExactBestAskUptoRow.holds Tryd.pinned (OpenSpec.upto fnExactBestAskSpec)

/-- 'laws.FnExactDepthOf', WHERE WHAT IT READS IS OF BULK AT MOST 1048576: true; the input reads as it did. -/
def fnExactDepthOfUptoRow : OpenClaim := { program := "ytoehcdjndnmmlaadoor", sum := "136b8fa24d8480c38389b92d4c9269f0c6dee089f88434678ca0af8283db0a81", func := "loop.example/g01248/laws.FnExactDepthOf", spec := "fnExactDepthOf", inPlace := ["internal/bytealg.IndexByteString", "internal/bytealg.IndexString"], recurses := true, named := ["unicode/utf8.first", "unicode/utf8.acceptRanges", "internal/bytealg.MaxLen"], apart := false, laid := [("unicode/utf8.acceptRanges", laid_unicode_utf8_acceptRanges), ("unicode/utf8.first", laid_unicode_utf8_first)], narrowed := true }
def FnExactDepthOfUptoSaid : Prop := fnExactDepthOfUptoRow.holds Tryd.pinned (OpenSpec.upto fnExactDepthOfSpec)

/-- 'laws.FnExactPartBy', WHERE WHAT IT READS IS OF BULK AT MOST 1048576: true; the input reads as it did. -/
def fnExactPartByUptoRow : OpenClaim := { program := "ytoehcdjndnmmlaadoor", sum := "136b8fa24d8480c38389b92d4c9269f0c6dee089f88434678ca0af8283db0a81", func := "loop.example/g01248/laws.FnExactPartBy", spec := "fnExactPartBy", inPlace := ["internal/bytealg.IndexByteString", "internal/bytealg.IndexString"], named := ["unicode/utf8.first", "unicode/utf8.acceptRanges", "internal/bytealg.MaxLen"], apart := false, laid := [("unicode/utf8.acceptRanges", laid_unicode_utf8_acceptRanges), ("unicode/utf8.first", laid_unicode_utf8_first)], narrowed := true }
def FnExactPartByUptoSaid : Prop := fnExactPartByUptoRow.holds Tryd.pinned (OpenSpec.upto fnExactPartBySpec)

/-- 'laws.FnExactAskedFor', WHERE WHAT IT READS IS OF BULK AT MOST 1048576: true; the input reads as it did. -/
def fnExactAskedForUptoRow : OpenClaim := { program := "ytoehcdjndnmmlaadoor", sum := "136b8fa24d8480c38389b92d4c9269f0c6dee089f88434678ca0af8283db0a81", func := "loop.example/g01248/laws.FnExactAskedFor", spec := "fnExactAskedFor", inPlace := ["internal/bytealg.IndexByteString", "internal/bytealg.IndexString"], recurses := true, named := ["unicode/utf8.first", "unicode/utf8.acceptRanges", "internal/bytealg.MaxLen"], apart := false, laid := [("unicode/utf8.acceptRanges", laid_unicode_utf8_acceptRanges), ("unicode/utf8.first", laid_unicode_utf8_first)], narrowed := true }
def FnExactAskedForUptoSaid : Prop := fnExactAskedForUptoRow.holds Tryd.pinned (OpenSpec.upto fnExactAskedForSpec)

/-- 'laws.FnExactMeanAsked', WHERE WHAT IT READS IS OF BULK AT MOST 1048576: true; the input reads as it did. -/
def fnExactMeanAskedUptoRow : OpenClaim := { program := "ytoehcdjndnmmlaadoor", sum := "136b8fa24d8480c38389b92d4c9269f0c6dee089f88434678ca0af8283db0a81", func := "loop.example/g01248/laws.FnExactMeanAsked", spec := "fnExactMeanAsked", inPlace := ["internal/bytealg.IndexByteString", "internal/bytealg.IndexString"], unfollowed := true, recurses := true, named := ["unicode/utf8.first", "unicode/utf8.acceptRanges", "internal/bytealg.MaxLen"], apart := false, laid := [("unicode/utf8.acceptRanges", laid_unicode_utf8_acceptRanges), ("unicode/utf8.first", laid_unicode_utf8_first)], narrowed := true }
def FnExactMeanAskedUptoSaid : Prop := fnExactMeanAskedUptoRow.holds Tryd.pinned (OpenSpec.upto fnExactMeanAskedSpec)

end Rows
end Go.Proofs.YtoehcdjndnmmlaaDoor
