/- The evaluator's equations as rewriting rules. -/
import Derived.Test.YtbbnecjaojobfaaDoorEvLim
set_option linter.unusedVariables false
set_option linter.unusedSimpArgs false
set_option linter.constructorNameAsVariable false
namespace Go.Proofs.YtbbnecjaojobfaaDoor.Ev
attribute [simp] evX.eq_1 evX.eq_2 evX.eq_3 ckOk.eq_1 ckOk.eq_2 leafEq.eq_1 leafEq.eq_2 leafEq.eq_3 leavesEq.eq_1 leavesEq.eq_2 eqOp.eq_1 eqOp.eq_2 binf.eq_1 oneFW.eq_1 oneFW.eq_2 oneSW.eq_1 oneSW.eq_2 wants.eq_1 wants.eq_2 asB'.eq_1 asB'.eq_2 undef putS.eq_1 putS.eq_2 LO.ev.eq_1 LO.ev.eq_2 Rr.thn.eq_1 Rr.thn.eq_2 Rr.thn.eq_3 Rr.thn.eq_4 nrmR.eq_1 nrmR.eq_2 condR.eq_1 outB.eq_1 outB.eq_2 outB.eq_3 outB.eq_4 exR.eq_1 exR.eq_2 packN.eq_1 packN.eq_2 packN.eq_3 packN.eq_4 packX.eq_1 packX.eq_2 lpR.eq_1 lpR.eq_2 finL.eq_1 finL.eq_2 finR.eq_1 finR.eq_2 finR.eq_3 finR.eq_4 bin.eq_1 bin.eq_2 binb.eq_1 un.eq_1 un.eq_2 asI.eq_1 asB.eq_1 resOne.eq_1 resOne.eq_2 loadO.eq_1 loadO.eq_2 loadB.eq_1 loadB.eq_2 loadA.eq_1 loadA.eq_2 withH.eq_1 withH.eq_2 putR.eq_1 putR.eq_2 putA.eq_1 putA.eq_2 pickA.eq_1 nilckA.eq_1 nilckA.eq_2 nilckA.eq_3 faddrA.eq_1 faddrA.eq_2 fieldA.eq_1 iaddrB.eq_1 iaddrB.eq_2 iaddrA.eq_1 iaddrA.eq_2 iaddrA.eq_3 iaddrA.eq_4 elO.eq_1 elO.eq_2 indexA.eq_1 indexA.eq_2 extractA.eq_1 lenA.eq_1 lenA.eq_2 lenA.eq_3 lenA.eq_4 lenA.eq_5 convA.eq_1 s2sA.eq_1 callVF.eq_1 callVS.eq_1 bsliceA.eq_1 bsliceA.eq_2 bsliceS.eq_1 bsliceS.eq_2 storeR.eq_1 storeR.eq_2 s2bA.eq_1 mksliceA.eq_1 callH.eq_1 callH.eq_2 callG.eq_1 callG.eq_2 callSH.eq_1 callSH.eq_2 callSG.eq_1 callSG.eq_2 optO.eq_1 optO.eq_2 intO.eq_1 intO.eq_2 sliceStr.eq_1 sliceLst.eq_1 sliceSl.eq_1 sliceB.eq_1 sliceB.eq_2 sliceNil.eq_1 sliceA.eq_1 sliceA.eq_2 sliceA.eq_3 sliceA.eq_4 rowB.eq_1 rowB.eq_2 rowElems.eq_1 rowElems.eq_2 rowElems.eq_3 partsOf.eq_1 partsOf.eq_2 appendN.eq_1 appendN.eq_2 appendO.eq_1 appendO.eq_2 appendM.eq_1 appendM.eq_2 appendL.eq_1 appendL.eq_2 storeV.eq_1 storeV.eq_2 storeQ.eq_1 storeQ.eq_2 storeE.eq_1 storeE.eq_2 storeB.eq_1 storeB.eq_2 storeA.eq_1 fzC.eq_1 fzC.eq_2 fzK.eq_1 fzK.eq_2 fzS.eq_1 fzS.eq_2 fzW.eq_1 fzW.eq_2 fzE.eq_1 fzE.eq_2 fzB.eq_1 fzB.eq_2 fzF.eq_1 fzF.eq_2 b2sL.eq_1 b2sL.eq_2 b2sR.eq_1 b2sR.eq_2 aggO.eq_1 aggO.eq_2 packP.eq_1 packQ.eq_1 packQ.eq_2 evOps.eq_1 evOps.eq_2 evOps.eq_3 putE.eq_1
attribute [simp] asliceA.eq_1
attribute [simp] liv.eq_1 liv.eq_2 liv2.eq_1 liv2.eq_2
attribute [simp] oneFull oneSoft fullOp softOp pureOp sget intBin strBin boolBin isShift shiftBin params resOf resAll evs loadE mk hget AV.cells elAt boxA callS callF finA putE
attribute [simp] packH reach oldIds ids idsL rnmH rnmL rnm picked newId addId pack keep slotIds renS fzd elemOk allOne AV.one okL fz fzL leafR leaf blkIds rnmO rnmB markRo free freeH callR.eq_1 appendA fillP foldI foldI.go
attribute [simp] evC.eq_1 evC.eq_2 evC.eq_3 evC.eq_4 evC.eq_5 evC.eq_6 evC.eq_7 evC.eq_9
@[simp] theorem evC_loop (E : Env) (C : Clo) (L : Lp) (h0 : Nat) (li lo : List Nat) (c : LCode) (z : St) : evC E C L h0 (.loop li lo c) z = packX h0 lo (lpR L (bd E C L h0 li c) (pack h0 li z)) := rfl
@[simp] theorem idx_cons (a b : Nat) (l : List Nat) : List.idxOf? a (b :: l) = if b = a then some 0 else (List.idxOf? a l).map (· + 1) := by
  rw [List.idxOf?_cons]
  by_cases h : b = a <;> simp [h]
theorem okL_map {α : Type} {f : AV → Bool} {g : α → AV} (h : ∀ a, f (g a) = true) : ∀ l : List α, okL f (l.map g) = true
  | [] => rfl
  | a :: l => by rw [List.map_cons, okL, h a, okL_map h l]; rfl
@[simp] theorem free_st (l : List ByteArray) : okL (free 5) (l.map st) = true := okL_map (fun _ => rfl) l
@[simp] theorem free_i64 (l : List Int) : okL (free 5) (l.map i64) = true := okL_map (fun _ => rfl) l
@[simp] theorem free_bl (l : List Bool) : okL (free 5) (l.map bl) = true := okL_map (fun _ => rfl) l
@[simp] theorem free_u8s (l : List UInt8) : okL (free 5) (u8s l) = true := okL_map (fun _ => rfl) l
@[simp] theorem okL_append {f : AV → Bool} : ∀ l r : List AV, okL f (l ++ r) = (okL f l && okL f r)
  | [], r => by simp [okL]
  | a :: l, r => by rw [List.cons_append, okL, okL, okL_append l r, Bool.and_assoc]
section
variable {p : Prop} [Decidable p]
@[simp] theorem ite_bind {α β : Type} (a b : Option α) (k : α → Option β) : (if p then a else b).bind k = if p then a.bind k else b.bind k := by split <;> rfl
@[simp] theorem ite_thn (a b : Rr) (k : St → Rr) : Rr.thn (if p then a else b) k = if p then a.thn k else b.thn k := by split <;> rfl
@[simp] theorem ite_nrmR (a b : Option St) : nrmR (if p then a else b) = if p then nrmR a else nrmR b := by split <;> rfl
@[simp] theorem ite_outB (id : Nat) (a b : Rr) : outB id (if p then a else b) = if p then outB id a else outB id b := by split <;> rfl
@[simp] theorem ite_packN (h0 : Nat) (l : List Nat) (a b : Rr) : packN h0 l (if p then a else b) = if p then packN h0 l a else packN h0 l b := by split <;> rfl
@[simp] theorem ite_packX (h0 : Nat) (l : List Nat) (a b : Rr) : packX h0 l (if p then a else b) = if p then packX h0 l a else packX h0 l b := by split <;> rfl
@[simp] theorem ite_finR (h0 : Nat) (l : List LRes) (a b : Rr) : finR h0 l (if p then a else b) = if p then finR h0 l a else finR h0 l b := by split <;> rfl
@[simp] theorem ite_putR (s : List (Nat × AV)) (d : Option Nat) (a b : Option (AV × Hp)) : putR s d (if p then a else b) = if p then putR s d a else putR s d b := by split <;> rfl
@[simp] theorem ite_putA (z : St) (d : Option Nat) (a b : Option AV) : putA z d (if p then a else b) = if p then putA z d a else putA z d b := by split <;> rfl
@[simp] theorem ite_withH (H : Hp) (a b : Option AV) : withH H (if p then a else b) = if p then withH H a else withH H b := by split <;> rfl
@[simp] theorem ite_callH (H : Hp) (l : List Nat) (a b : Option (AV × Hp)) : callH H l (if p then a else b) = if p then callH H l a else callH H l b := by split <;> rfl
@[simp] theorem ite_callSH (l : List Nat) (a b : Option (AV × Hp)) : callSH l (if p then a else b) = if p then callSH l a else callSH l b := by split <;> rfl
@[simp] theorem ite_AVbool (a b : Bool) : (if p then bl a else bl b) = bl (if p then a else b) := by split <;> rfl
end
end Go.Proofs.YtbbnecjaojobfaaDoor.Ev
