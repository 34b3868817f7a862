/- The row of the law FnMistaken and its tied card: the evaluator's answer, read through the row's form; the law itself is YtgecnbafmlecjaaGreatDoorEvPureFnMistaken's. Conditions: those of the given statement alone. -/
import Derived.Test.YtgecnbafmlecjaaGreatDoorCards
import Derived.Test.YtgecnbafmlecjaaGreatDoorTie
import Derived.Test.YtgecnbafmlecjaaGreatDoorEvPureFnMistaken
import Derived.Test.YtgecnbafmlecjaaGreatDoorEvBD
import Derived.WalkKit
import Derived.ProofKit
import Derived.OpenShut
import Derived.ShutString
import Derived.ChangeOld
import Derived.Below
import Derived.SizedLaws
import Derived.Deep.DeepHandedRow
import Derived.Lib.LaidTab
import Derived.Shelf.Vars
import Derived.LaidMore
import Derived.Stop.LaidErr
import Derived.Lay
import Derived.Deep.DeepWitnessRowRef
set_option linter.unusedVariables false
set_option linter.unusedSimpArgs false
namespace Go.Proofs.YtgecnbafmlecjaaGreatDoor.fnMistaken
open Go.ChangeShapes Go.WideShapes Go.ChangeAt Go.RowKit Go.Proofs.YtgecnbafmlecjaaGreatDoor.Ev
open Go.ChangeMaps (open_string shut_string)
theorem own : ownKnob Tryz.prog.godebug = none := by kernel_rfl
theorem laidOut : laidOutB Tryz.prog = true := by kernel_rfl
set_option maxRecDepth 100000 in
theorem tab_of_spc {W : World} {g' t' : Nat} {cs : Array Value} {f : Nat} {p : List MemPlace} (hg : Tryz.prog.globalNamed "strings.asciiSpace" = some g') (ht : (Tryz.prog.globals[g']?).map (·.type) = some t') (hv : W.var? Tryz.prog "strings.asciiSpace" = some cs)
    (hd : DataW.trod (H := Unit) (fun _ => ()) Tryz.prog W 0 (fun _ => true) false f t' cs.toList = some (Rows.laid_strings_asciiSpace, p)) : Lib.TabIs Tryz.prog W "strings.asciiSpace" .u8 Lib.asciiSpaceTab := by
  obtain rfl := Option.some.inj ((show Tryz.prog.globalNamed "strings.asciiSpace" = some 0 by kernel_rfl).symm.trans hg)
  obtain rfl := Option.some.inj ((show (Tryz.prog.globals[0]?).map (·.type) = some 102 by kernel_rfl).symm.trans ht)
  unfold Lib.TabIs
  rw [hv]
  have hd' : DataW.trod (H := Unit) (fun _ => ()) Tryz.prog W 0 (fun _ => true) false f 102 cs.toList = some (Lib.tabData .u8 Lib.asciiSpaceTab, p) := hd
  have hc := Lib.cells_of_tab Tryz.underlying102 Tryz.underlying5 (by kernel_rfl) (by kernel_rfl) hd'
  rw [← hc]
theorem glob_of {W : World} (hL : laidMetH Tryz.prog Rows.fnMistakenRow.laid W) (hsh : W.ShapedOpen Tryz.prog) : GW W := by
  have hL' : laidMet Tryz.prog Rows.fnMistakenRow.laid W := hL
  have hL'' := hL'
  obtain ⟨ps, ⟨g0, t0, cs0, f0, p0, q0, hg0, ht0, hv0, hd0, ⟨g1, t1, cs1, f1, p1, q1, hg1, ht1, hv1, hd1, ⟨g2, t2, cs2, f2, p2, q2, hg2, ht2, hv2, hd2, ⟨g3, t3, cs3, f3, p3, q3, hg3, ht3, hv3, hd3, _, _⟩, _⟩, _⟩, _⟩, _, hokw⟩ := hL'
  exact { spc := tab_of_spc hg2 ht2 hv2 hd2 }
theorem glob_lt {W : World} (h : GW W) : gw0 ≤ W.heap.size := by
  have ht := h.spc
  unfold Lib.TabIs World.var? at ht
  rw [show Tryz.prog.globalNamed "strings.asciiSpace" = some 0 by kernel_rfl] at ht
  simp only [Option.bind_some] at ht
  by_cases hl : 0 < W.heap.size
  · unfold gw0; exact hl
  · rw [Array.getElem?_eq_none (by omega)] at ht; simp at ht
set_option maxRecDepth 100000 in
theorem contract (H : Type) (enc : TypeId × Value → H) (W : World) (base : Nat) (args : Array Value) (ds gs : List (DataW H)) (before : List MemPlace)
    (hval : ∀ (j : Nat) t v, Tryz.f3.params[j]? = some t → args[j]? = some v → Value.okWide Tryz.prog W .any base t v)
    (hW : DataW.Whole enc Tryz.prog Tryz.f3.params.toList Rows.fnMistakenSpec.vars false W args.toList ds gs before) (hGW : GW W) (hn0 : gw0 ≤ W.heap.size) :
    Calls Tryz.prog 3 args W fun e W' => ∃ v, e = .returned v ∧ Rows.fnMistakenSpec.post enc Tryz.prog Tryz.f3 false true false false W args v W' := by
  have hW' := hW
  obtain ⟨p, q, hA0, hV, rfl, hfz, hnd⟩ := hW
  have hA : DataW.TrodAll enc Tryz.prog W 0 (fun _ => true) true Tryz.f3.params.toList args.toList ds p := hA0
  rw [Tryz.params3] at hA hval
  obtain ⟨v0, vs0, d0, ds0, p0, q0, hargs, rfl, rfl, h0, r0⟩ := trodAll_cons hA
  obtain ⟨rfl, rfl, rfl⟩ := trodAll_nil r0
  obtain rfl : args = #[v0] := by cases args; simp_all
  obtain ⟨rfl, rfl⟩ := trodVars_none hV
  have k0_ := h0
  have lt0 : ∀ x ∈ p0, x.block < W.heap.size := by obtain ⟨m, hm⟩ := k0_; exact DataW.trod_lt m _ _ _ hm
  obtain ⟨x0, b0, V0⟩ := par_slice Tryz.underlying22 (hval 0 22 v0 rfl rfl) h0 (ov_slice 1 (by decide) Tryz.underlying22 (by kernel_rfl) (ov_int Tryz.underlying5))
  clear hA0
  have hk := Ev.FnMistaken x0 b0
  refine (law_calls Ev.sound1 hk (W := W) (vs := #[v0]) hGW hn0 (args_cons V0 args_nil)).mono ?_
  rintro e W' ⟨rfl, bel⟩
  exact ⟨_, rfl, _, _, _, [], _, [], hW', trodAll_mk1 (shut_bool Tryz.underlying4 _), (trodAll_cons_mk (Below.trod laidOut (by kernel_rfl) (of_decide_eq_true (by kernel_rfl)) k0_ bel lt0) trodAll_mk0), rfl, bel.frame _, fun h => by cases h⟩
/-- A world for the witness: the settled one, the listed tables laid. -/
noncomputable def laidWorld (os : Os) : World :=
  World.laidAll Tryz.prog os Rows.fnMistakenRow.laid
theorem laid_met (os : Os) : laidMet Tryz.prog Rows.fnMistakenRow.laid ((laidWorld os).forCall (fun _ _ => 0) ⟨#[], #[.slice none 0 0], []⟩).memory :=
  laidMet_laidAll _ (by kernel_rfl) (by kernel_rfl)
theorem reads (os : Os) {H : Type} (enc : TypeId × Value → H) : ∃ places, DataW.whole enc Tryz.prog ((laidWorld os).forCall (fun _ _ => 0) ⟨#[], #[.slice none 0 0], []⟩).memory Tryz.f3.params.toList Rows.fnMistakenSpec.vars false (#[.slice none 0 0] : Array Value).toList 8 = some ([.nil], [], places) :=
  ⟨[], by kernel_rfl⟩
set_option maxRecDepth 100000 in
theorem lifted (os : Os) (started : os.Started) (H : Type) (enc : TypeId × Value → H) (F : Stop.Interp) :
    ReturnsInHanded {} Tryz.checked os 3 .any ((OpenSpec.ofChange Rows.fnMistakenSpec).preRow enc Tryz.prog Tryz.f3 Rows.fnMistakenRow.domain false Rows.fnMistakenRow.laid) (((OpenSpec.ofChange Rows.fnMistakenSpec).at F).post enc Tryz.prog Tryz.f3 false true false false) := by
  obtain ⟨places, hx⟩ := reads os enc
  refine returnsInHanded_of_row (C := Tryz.checked) (s := OpenSpec.ofChange Rows.fnMistakenSpec) own started (by kernel_rfl) Tryz.func3
    (witness_row_atRef (enc := enc) (C := Tryz.checked) false (laidWorld os) #[.slice none 0 0] (World.laidAll_os _ _ _) (by kernel_rfl) (by kernel_rfl) (by kernel_rfl)
      (OpenSpec.preRow_of_cond 8 hx (by kernel_rfl) (fun k hk => by cases hk) (by kernel_rfl) (laid_met os))) ?_
  intro W base args ds gs before hval hW _ _ _ hL hsh _
  exact contract H enc W base args ds gs before hval hW (glob_of hL hsh) (glob_lt (glob_of hL hsh))
theorem said : Rows.FnMistakenSaid :=
  OpenClaim.holds_of_cond 3 Tryz.f3 rfl rfl rfl rfl rfl rfl rfl ⟨rfl, rfl, rfl, rfl, rfl⟩ rfl rfl rfl rfl rfl (by kernel_rfl) Tryz.func3 (by kernel_rfl)
    (of_decide_eq_true (by kernel_rfl)) (by unfold Func.isWrapper; first | (rw [if_pos (by decide +kernel)]; kernel_rfl) | (rw [if_neg (by decide +kernel)]; exact ⟨rfl, rfl⟩))
    (fun os started H enc _ F => by rw [OpenClaim.pre_eq_preRow]; exact lifted os started H enc F)
theorem plain (f : FuncId) (fn : Func) (hf : Tryz.pinned.checked.prog.funcNamed "loop.example/g01248/laws.FnMistaken" = some f) (hfn : Tryz.pinned.checked.prog.funcs[f]? = some fn) :
    true = Tryz.pinned.checked.prog.looks [] ∧ ∀ (j : Nat) t, fn.params[j]? = some t → Tryz.pinned.checked.prog.wantsStandIn t = false := by
  obtain rfl : f = 3 := Option.some.inj ((show Tryz.prog.funcNamed "loop.example/g01248/laws.FnMistaken" = some 3 by kernel_rfl).symm.trans hf) |>.symm
  obtain rfl : fn = Tryz.f3 := (Option.some.inj (Tryz.func3.symm.trans hfn)).symm
  refine ⟨by kernel_rfl, fun j t ht => ?_⟩
  rw [Tryz.params3] at ht
  have hm : t ∈ [22] := by simpa using Array.mem_of_getElem? ht
  have hall : ([22].all fun u => !Tryz.prog.wantsStandIn u) = true := by kernel_rfl
  exact (show Tryz.prog.wantsStandIn t = false by simpa using List.all_eq_true.1 hall t hm)
theorem card : Rows.FnMistakenCardSaid :=
  Claim7.holds_tied_plain_at .later [] _ _ _ _ said (fun _ h => by cases h) (by kernel_rfl) (fun _ h => by cases h) fnMistaken_row_tie rfl ⟨rfl, rfl⟩ (by kernel_rfl) rfl plain (by kernel_rfl)
end Go.Proofs.YtgecnbafmlecjaaGreatDoor.fnMistaken
namespace Go.Proofs.YtgecnbafmlecjaaGreatDoor
/-- The row, under a short name, for the claim. -/
theorem fnMistaken_holds : Rows.FnMistakenCardSaid := fnMistaken.card
#print axioms fnMistaken_holds
end Go.Proofs.YtgecnbafmlecjaaGreatDoor
