/- The row of the law FnExactIsValidRecord: the printed contract, read through the row's form; the law itself is YtpknehbhbiofaaaPureFnExactIsValidRecord's. Conditions: those of the given statement alone. -/
import Derived.Test.YtpknehbhbiofaaaRows
import Derived.Test.YtpknehbhbiofaaaPAx2
import Derived.Test.YtpknehbhbiofaaaPureFnExactIsValidRecord
import Derived.Test.YtpknehbhbiofaaaOpen
import Derived.Test.YtpknehbhbiofaaaGlob
import Derived.WalkKit
import Derived.ProofKit
import Derived.OpenShut
import Derived.ShutString
import Derived.ChangeOld
import Derived.Below
import Derived.SizedLaws
import Derived.Deep.DeepHandedRow
import Derived.Lib.LaidTab
import Derived.Shelf.Vars
import Derived.LaidMore
import Derived.Stop.LaidErr
set_option linter.unusedVariables false
set_option linter.unusedSimpArgs false
namespace Go.Proofs.Ytpknehbhbiofaaa.fnExactIsValidRecord
open Go.ChangeShapes Go.WideShapes Go.ChangeAt Go.RowKit Go.Proofs.Ytpknehbhbiofaaa.PA Go.Proofs.YtpknehbhbiofaaaW.PrintWords Go.Proofs.Ytpknehbhbiofaaa.Open
open Go.ChangeMaps (open_string shut_string)
theorem own : ownKnob Try.prog.godebug = none := by kernel_rfl
theorem laidOut : laidOutB Try.prog = true := by kernel_rfl
theorem contract (H : Type) (enc : TypeId × Value → H) (W : World) (base : Nat) (args : Array Value) (ds gs : List (DataW H)) (before : List MemPlace)
    (hval : ∀ (j : Nat) t v, Try.f3.params[j]? = some t → args[j]? = some v → Value.okWide Try.prog W .any base t v)
    (hW : DataW.Whole enc Try.prog Try.f3.params.toList Rows.fnExactIsValidRecordSpec.vars false W args.toList ds gs before) :
    Calls Try.prog 3 args W fun e W' => ∃ v, e = .returned v ∧ Rows.fnExactIsValidRecordSpec.post enc Try.prog Try.f3 false true false false W args v W' := by
  have hW' := hW
  obtain ⟨p, q, hA0, hV, rfl, hfz, hnd⟩ := hW
  have hA : DataW.TrodAll enc Try.prog W 0 (fun _ => true) true Try.f3.params.toList args.toList ds p := hA0
  rw [Try.params3] at hA hval
  obtain ⟨v0, vs0, d0, ds0, p0, q0, hargs, rfl, rfl, h0, r0⟩ := trodAll_cons hA
  obtain ⟨rfl, rfl, rfl⟩ := trodAll_nil r0
  obtain rfl : args = #[v0] := by cases args; simp_all
  obtain ⟨rfl, rfl⟩ := trodVars_none hV
  have k0_ := h0
  have lt0 : ∀ x ∈ p0, x.block < W.heap.size := by obtain ⟨m, hm⟩ := k0_; exact DataW.trod_lt m _ _ _ hm
  obtain ⟨cs0, rfl, _⟩ := okWide_struct Try.underlying23 (hval 0 23 v0 rfl rfl)
  obtain ⟨n0, t0⟩ := h0
  have t0' : DataW.trod enc Try.prog W 0 (fun _ => true) true n0 23 cs0.toList = some (d0, p0) := t0
  obtain ⟨hl0, m0, f0⟩ := fields_of Try.underlying23 t0'
  obtain ⟨z0_0, g0_0⟩ := f0 0 _ rfl
  have g0_0' : DataW.trod enc Try.prog W 0 (fun _ => true) true m0 9 ((cs0.toList.drop 0).take 1) = some z0_0 := by first | exact g0_0 | (simpa using g0_0)
  obtain ⟨a0_0, K0_0, B0_0⟩ := (opens_string Try.underlying9) _ _ _ g0_0'
  have e0_0 : ((cs0.toList.drop 0).take 1) = [.string a0_0] := K0_0
  obtain ⟨z0_1, g0_1⟩ := f0 1 _ rfl
  have g0_1' : DataW.trod enc Try.prog W 0 (fun _ => true) true m0 9 ((cs0.toList.drop 1).take 1) = some z0_1 := by first | exact g0_1 | (simpa using g0_1)
  obtain ⟨a0_1, K0_1, B0_1⟩ := (opens_string Try.underlying9) _ _ _ g0_1'
  have e0_1 : ((cs0.toList.drop 1).take 1) = [.string a0_1] := K0_1
  have hl0' : cs0.toList.length = 1 + 1 := hl0.trans (by kernel_rfl)
  have s0 := split2 hl0'
  rw [e0_0, e0_1] at s0
  have e0 : cs0.toList = [.string a0_0, .string a0_1] := s0
  obtain rfl : cs0 = #[.string a0_0, .string a0_1] := by apply Array.toList_inj.1; exact e0
  clear hA0
  obtain ⟨k, hk⟩ := Pure.FnExactIsValidRecord a0_0 a0_1 B0_0 B0_1
  refine (PA.laws_FnExactIsValidRecord.calls k a0_0 a0_1 true W hk).mono ?_
  rintro e W' ⟨rfl, bel0⟩
  have bel : Below W.heap.size W W' := bel0
  exact ⟨_, rfl, _, _, _, [], _, [], hW', trodAll_mk1 (shut_bool Try.underlying4 _), (trodAll_cons_mk (Below.trod laidOut (by kernel_rfl) (of_decide_eq_true (by kernel_rfl)) k0_ bel lt0) trodAll_mk0), rfl, bel.frame _, fun h => by cases h⟩
/-- A world for the witness: the settled one, the listed tables laid. -/
noncomputable def laidWorld (os : Os) : World :=
  World.holding Try.prog os ⟨#[], #[], []⟩
theorem laid_met (os : Os) : laidMet Try.prog Rows.fnExactIsValidRecordRow.laid ((laidWorld os).forCall (fun _ _ => 0) ⟨#[], #[.agg #[.string ByteArray.empty, .string ByteArray.empty]], []⟩).memory :=
  laidMet_of_run' 8 (by kernel_rfl) (by kernel_rfl)
theorem reads (os : Os) {H : Type} (enc : TypeId × Value → H) : ∃ places, DataW.whole enc Try.prog ((laidWorld os).forCall (fun _ _ => 0) ⟨#[], #[.agg #[.string ByteArray.empty, .string ByteArray.empty]], []⟩).memory Try.f3.params.toList Rows.fnExactIsValidRecordSpec.vars false (#[.agg #[.string ByteArray.empty, .string ByteArray.empty]] : Array Value).toList 8 = some ([.agg [.lit (.string []), .lit (.string [])]], [], places) :=
  ⟨[], by kernel_rfl⟩
set_option maxRecDepth 100000 in
theorem lifted (os : Os) (started : os.Started) (H : Type) (enc : TypeId × Value → H) (F : Stop.Interp) :
    ReturnsInHanded {} Try.checked os 3 .any ((OpenSpec.ofChange Rows.fnExactIsValidRecordSpec).preRow enc Try.prog Try.f3 Rows.fnExactIsValidRecordRow.domain false Rows.fnExactIsValidRecordRow.laid) (((OpenSpec.ofChange Rows.fnExactIsValidRecordSpec).at F).post enc Try.prog Try.f3 false true false false) := by
  obtain ⟨places, hx⟩ := reads os enc
  refine returnsInHanded_of_row (C := Try.checked) (s := OpenSpec.ofChange Rows.fnExactIsValidRecordSpec) own started (by kernel_rfl) Try.func3
    (witness_row_at (enc := enc) (C := Try.checked) false (laidWorld os) #[.agg #[.string ByteArray.empty, .string ByteArray.empty]] rfl (by kernel_rfl) (by kernel_rfl) (by kernel_rfl)
      (OpenSpec.preRow_of_cond 8 hx (by kernel_rfl) (fun k hk => by cases hk) (by kernel_rfl) (laid_met os))) ?_
  intro W base args ds gs before hval hW _ _ _ hL hsh _
  exact contract H enc W base args ds gs before hval hW
theorem said : Rows.FnExactIsValidRecordSaid :=
  OpenClaim.holds_of_cond 3 Try.f3 rfl rfl rfl rfl rfl rfl rfl ⟨rfl, rfl, rfl, rfl, rfl⟩ rfl rfl rfl rfl rfl (by kernel_rfl) Try.func3 (by kernel_rfl)
    (of_decide_eq_true (by kernel_rfl)) (by unfold Func.isWrapper; first | (rw [if_pos (by decide +kernel)]; kernel_rfl) | (rw [if_neg (by decide +kernel)]; exact ⟨rfl, rfl⟩))
    (fun os started H enc _ F => by rw [OpenClaim.pre_eq_preRow]; exact lifted os started H enc F)
end Go.Proofs.Ytpknehbhbiofaaa.fnExactIsValidRecord
namespace Go.Proofs.Ytpknehbhbiofaaa
/-- The row, under a short name, for the claim. -/
theorem fnExactIsValidRecord_holds : Rows.FnExactIsValidRecordSaid := fnExactIsValidRecord.said
#print axioms fnExactIsValidRecord_holds
end Go.Proofs.Ytpknehbhbiofaaa
