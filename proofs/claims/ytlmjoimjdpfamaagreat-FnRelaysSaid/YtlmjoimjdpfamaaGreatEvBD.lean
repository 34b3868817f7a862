/- The evaluator's equations as rewriting rules. -/
import Derived.Test.YtlmjoimjdpfamaaGreatEvBA
import Derived.Test.YtlmjoimjdpfamaaGreatEvBC
set_option linter.unusedVariables false
set_option linter.unusedSimpArgs false
set_option linter.constructorNameAsVariable false
set_option linter.unnecessarySimpa false
namespace Go.Proofs.YtlmjoimjdpfamaaGreat.Ev
attribute [simp] evX.eq_1 evX.eq_2 evX.eq_3 ckOk.eq_1 ckOk.eq_2 leafEq.eq_1 leafEq.eq_2 leafEq.eq_3 leavesEq.eq_1 leavesEq.eq_2 eqOp.eq_1 eqOp.eq_2 binf.eq_1 isnilA.eq_1 isnilA.eq_2 oneFW.eq_1 oneFW.eq_2 oneSW.eq_1 oneSW.eq_2 wants.eq_1 wants.eq_2 asB'.eq_1 asB'.eq_2 undef putS.eq_1 putS.eq_2 LO.ev.eq_1 LO.ev.eq_2 Rr.thn.eq_1 Rr.thn.eq_2 Rr.thn.eq_3 Rr.thn.eq_4 nrmR.eq_1 nrmR.eq_2 condR.eq_1 outB.eq_1 outB.eq_2 outB.eq_3 outB.eq_4 exR.eq_1 exR.eq_2 packN.eq_1 packN.eq_2 packN.eq_3 packN.eq_4 packX.eq_1 packX.eq_2 lpR.eq_1 lpR.eq_2 finL.eq_1 finL.eq_2 finR.eq_1 finR.eq_2 finR.eq_3 finR.eq_4 bin.eq_1 bin.eq_2 binb.eq_1 un.eq_1 un.eq_2 asI.eq_1 asB.eq_1 resOne.eq_1 resOne.eq_2 loadO.eq_1 loadO.eq_2 loadB.eq_1 loadB.eq_2 loadA.eq_1 loadA.eq_2 withH.eq_1 withH.eq_2 putR.eq_1 putR.eq_2 putA.eq_1 putA.eq_2 pickA.eq_1 nilckA.eq_1 nilckA.eq_2 nilckA.eq_3 faddrA.eq_1 faddrA.eq_2 fieldA.eq_1 iaddrB.eq_1 iaddrB.eq_2 iaddrA.eq_1 iaddrA.eq_2 iaddrA.eq_3 iaddrA.eq_4 elO.eq_1 elO.eq_2 indexA.eq_1 indexA.eq_2 extractA.eq_1 capA.eq_1 lenA.eq_1 lenA.eq_2 lenA.eq_3 lenA.eq_4 lenA.eq_5 convA.eq_1 s2sA.eq_1 callVF.eq_1 callVS.eq_1 bsliceA.eq_1 bsliceA.eq_2 bsliceS.eq_1 bsliceS.eq_2 storeR.eq_1 storeR.eq_2 s2bA.eq_1 mksliceA.eq_1 mkappA.eq_1 allV.eq_1 allV.eq_2 copyB.eq_1 copyA.eq_1 callH.eq_1 callH.eq_2 callG.eq_1 callG.eq_2 callSH.eq_1 callSH.eq_2 callSG.eq_1 callSG.eq_2 optO.eq_1 optO.eq_2 intO.eq_1 intO.eq_2 sliceStr.eq_1 sliceLst.eq_1 sliceSl.eq_1 sliceB.eq_1 sliceB.eq_2 sliceNil.eq_1 sliceA.eq_1 sliceA.eq_2 sliceA.eq_3 sliceA.eq_4 rowB.eq_1 rowB.eq_2 rowElems.eq_1 rowElems.eq_2 rowElems.eq_3 partsOf.eq_1 partsOf.eq_2 appendN.eq_1 appendN.eq_2 appendO.eq_1 appendO.eq_2 appendM.eq_1 appendM.eq_2 appendL.eq_1 appendL.eq_2 storeV.eq_1 storeV.eq_2 storeQ.eq_1 storeQ.eq_2 storeE.eq_1 storeE.eq_2 storeB.eq_1 storeB.eq_2 storeA.eq_1 fzC.eq_1 fzC.eq_2 fzK.eq_1 fzK.eq_2 fzS.eq_1 fzS.eq_2 fzW.eq_1 fzW.eq_2 fzE.eq_1 fzE.eq_2 fzB.eq_1 fzB.eq_2 fzF.eq_1 fzF.eq_2 b2sL.eq_1 b2sL.eq_2 b2sR.eq_1 b2sR.eq_2 aggO.eq_1 aggO.eq_2 packP.eq_1 packQ.eq_1 packQ.eq_2 evOps.eq_1 evOps.eq_2 evOps.eq_3 putE.eq_1
attribute [simp] asliceA.eq_1
attribute [simp] liv.eq_1 liv.eq_2 liv2.eq_1 liv2.eq_2
attribute [simp] oneFull oneSoft fullOp softOp pureOp sget intBin strBin boolBin isShift shiftBin params resOf resAll evs loadE mk hget AV.cells elAt boxA callS callF finA putE
attribute [simp] packH reach oldIds ids idsL rnmH rnmL rnm picked newId addId pack keep slotIds renS fzd elemOk allOne AV.one okL fz fzL leafR leaf blkIds rnmO rnmB markRo free freeH callR.eq_1 appendA fillP foldI foldI.go
attribute [simp] evC.eq_1 evC.eq_2 evC.eq_3 evC.eq_4 evC.eq_5 evC.eq_6 evC.eq_7 evC.eq_9 evC.eq_10 packO.eq_1 packO.eq_2 altR_same
@[simp] theorem evC_loop (E : Env) (C : Clo) (L : Lp) (h0 : Nat) (li lo : List Nat) (c : LCode) (z : St) : evC E C L h0 (.loop li lo c) z = packX h0 lo (lpR L (bd E C L h0 li c) (pack h0 li z)) := rfl
@[simp] theorem idx_cons (a b : Nat) (l : List Nat) : List.idxOf? a (b :: l) = if b = a then some 0 else (List.idxOf? a l).map (· + 1) := by
  rw [List.idxOf?_cons]
  by_cases h : b = a <;> simp [h]
theorem okL_map {α : Type} {f : AV → Bool} {g : α → AV} (h : ∀ a, f (g a) = true) : ∀ l : List α, okL f (l.map g) = true
  | [] => rfl
  | a :: l => by rw [List.map_cons, okL, h a, okL_map h l]; rfl
@[simp] theorem free_st (l : List ByteArray) : okL (free 5) (l.map st) = true := okL_map (fun _ => rfl) l
@[simp] theorem free_i64 (l : List Int) : okL (free 5) (l.map i64) = true := okL_map (fun _ => rfl) l
@[simp] theorem free_bl (l : List Bool) : okL (free 5) (l.map bl) = true := okL_map (fun _ => rfl) l
@[simp] theorem free_u8s (l : List UInt8) : okL (free 5) (u8s l) = true := okL_map (fun _ => rfl) l
@[simp] theorem okL_append {f : AV → Bool} : ∀ l r : List AV, okL f (l ++ r) = (okL f l && okL f r)
  | [], r => by simp [okL]
  | a :: l, r => by rw [List.cons_append, okL, okL, okL_append l r, Bool.and_assoc]
section
variable {p : Prop} [Decidable p]
@[simp] theorem ite_bind {α β : Type} (a b : Option α) (k : α → Option β) : (if p then a else b).bind k = if p then a.bind k else b.bind k := by split <;> rfl
@[simp] theorem ite_thn (a b : Rr) (k : St → Rr) : Rr.thn (if p then a else b) k = if p then a.thn k else b.thn k := by split <;> rfl
@[simp] theorem ite_nrmR (a b : Option St) : nrmR (if p then a else b) = if p then nrmR a else nrmR b := by split <;> rfl
@[simp] theorem ite_outB (id : Nat) (a b : Rr) : outB id (if p then a else b) = if p then outB id a else outB id b := by split <;> rfl
@[simp] theorem ite_packN (h0 : Nat) (l : List Nat) (a b : Rr) : packN h0 l (if p then a else b) = if p then packN h0 l a else packN h0 l b := by split <;> rfl
@[simp] theorem ite_packX (h0 : Nat) (l : List Nat) (a b : Rr) : packX h0 l (if p then a else b) = if p then packX h0 l a else packX h0 l b := by split <;> rfl
@[simp] theorem ite_finR (h0 : Nat) (l : List LRes) (a b : Rr) : finR h0 l (if p then a else b) = if p then finR h0 l a else finR h0 l b := by split <;> rfl
@[simp] theorem ite_putR (s : List (Nat × AV)) (d : Option Nat) (a b : Option (AV × Hp)) : putR s d (if p then a else b) = if p then putR s d a else putR s d b := by split <;> rfl
@[simp] theorem ite_putA (z : St) (d : Option Nat) (a b : Option AV) : putA z d (if p then a else b) = if p then putA z d a else putA z d b := by split <;> rfl
@[simp] theorem ite_withH (H : Hp) (a b : Option AV) : withH H (if p then a else b) = if p then withH H a else withH H b := by split <;> rfl
@[simp] theorem ite_callH (H : Hp) (l : List Nat) (a b : Option (AV × Hp)) : callH H l (if p then a else b) = if p then callH H l a else callH H l b := by split <;> rfl
@[simp] theorem ite_callSH (l : List Nat) (a b : Option (AV × Hp)) : callSH l (if p then a else b) = if p then callSH l a else callSH l b := by split <;> rfl
@[simp] theorem ite_AVbool (a b : Bool) : (if p then bl a else bl b) = bl (if p then a else b) := by split <;> rfl
end
end Go.Proofs.YtlmjoimjdpfamaaGreat.Ev
namespace Go.Proofs.YtlmjoimjdpfamaaGreat.Ev
theorem reach_low (H : Hp) (h0 : Nat) : ∀ (d : Nat) (l : List Nat), (∀ x ∈ l, x < h0) → reach H h0 d l [] = []
  | 0, l, h => rfl
  | d + 1, [], h => rfl
  | d + 1, id :: r, h => by
    have h1 := h id (by simp)
    simp only [reach, h1, decide_true, Bool.true_or, if_true]
    exact reach_low H h0 d r fun x hx => h x (by simp [hx])
/-- Memory whose blocks name only what is in it. -/
def Stable (H : Hp) : Prop := (∀ x ∈ oldIds H, x < H.length) ∧ rnmH (newId H.length []) H = some H
theorem packH_low {H : Hp} (hs : Stable H) {roots : List Nat} (hr : ∀ x ∈ roots, x < H.length) : packH H.length H roots = some ([], H) := by
  unfold packH
  have h1 : H.take H.length = H := List.take_of_length_le (Nat.le_refl _)
  have h2 : reach H H.length 64 (roots ++ oldIds (H.take H.length)) [] = [] := by
    rw [h1]
    refine reach_low _ _ _ _ fun x hx => ?_
    rcases List.mem_append.1 hx with h | h
    · exact hr x h
    · exact hs.1 x h
  simp only [h2]
  rw [h1, hs.2]
  simp [picked, rnmH, packP]
theorem oldIds_set : ∀ (H : Hp) (id : Nat) (b b' : Blk), H[id]? = some (some b) → blkIds b' = blkIds b → oldIds (H.set id (some b')) = oldIds H
  | [], id, b, b', h, _ => by simp at h
  | o :: r, 0, b, b', h, hb => by
    simp at h
    subst h
    rw [List.set_cons_zero, oldIds, oldIds, hb]
  | o :: r, id + 1, b, b', h, hb => by
    have := oldIds_set r id b b' (by simpa using h) hb
    cases o <;> simp [oldIds, this]
theorem rnmH_set (f : Nat → Option Nat) : ∀ (H : Hp) (id : Nat) (b b' : Blk), H[id]? = some (some b) → rnmB f b' = some b' → rnmH f H = some H → rnmH f (H.set id (some b')) = some (H.set id (some b'))
  | [], id, b, b', h, _, _ => by simp at h
  | o :: r, 0, b, b', h, hb, hr => by
    simp only [rnmH] at hr
    cases h1 : rnmO f o with
    | none => rw [h1] at hr; cases hr
    | some o2 =>
      rw [h1] at hr
      cases h2 : rnmH f r with
      | none => rw [h2] at hr; cases hr
      | some r2 =>
        rw [h2] at hr
        simp at hr
        rw [List.set_cons_zero, rnmH, rnmO, hb, h2, hr.2]
        rfl
  | o :: r, id + 1, b, b', h, hb, hr => by
    simp only [rnmH] at hr
    cases h1 : rnmO f o with
    | none => rw [h1] at hr; cases hr
    | some o2 =>
      rw [h1] at hr
      cases h2 : rnmH f r with
      | none => rw [h2] at hr; cases hr
      | some r2 =>
        rw [h2] at hr
        simp at hr
        have := rnmH_set f r id b b' (by simpa using h) hb (by rw [h2, hr.2])
        rw [List.set_cons_succ, rnmH, h1, this, hr.1]
        rfl
theorem Stable.set {H : Hp} (hs : Stable H) {id : Nat} {b b' : Blk} (h : H[id]? = some (some b)) (hk : b.kd ≠ 0) (hk' : b'.kd ≠ 0) : Stable (H.set id (some b')) := by
  unfold Stable
  rw [List.length_set]
  refine ⟨?_, rnmH_set _ H id b b' h (by unfold rnmB; rw [if_neg hk']) hs.2⟩
  rw [oldIds_set H id b b' h (by unfold blkIds; rw [if_neg hk, if_neg hk'])]
  exact hs.1
/-- What was made behind the first blocks, and is named by nothing, goes. -/
theorem packH_lo {H ex : Hp} {h0 : Nat} (hh : H.length = h0) (hs : Stable H) {roots : List Nat} (hr : ∀ x ∈ roots, x < h0) : packH h0 (H ++ ex) roots = some ([], H) := by
  subst hh
  unfold packH
  have h1 : (H ++ ex).take H.length = H := by simp
  have h2 : reach (H ++ ex) H.length 64 (roots ++ oldIds ((H ++ ex).take H.length)) [] = [] := by
    rw [h1]
    refine reach_low _ _ _ _ fun x hx => ?_
    rcases List.mem_append.1 hx with h | h
    · exact hr x h
    · exact hs.1 x h
  simp only [h2]
  rw [h1, hs.2]
  simp [picked, rnmH, packP]
theorem packH_lo0 {H : Hp} {h0 : Nat} (hh : H.length = h0) (hs : Stable H) {roots : List Nat} (hr : ∀ x ∈ roots, x < h0) : packH h0 H roots = some ([], H) := by
  have := packH_lo (ex := []) hh hs hr
  rwa [List.append_nil] at this
theorem pack_lo0 {H : Hp} {h0 : Nat} (hh : H.length = h0) (hs : Stable H) {s : List (Nat × AV)} {li : List Nat} (hr : ∀ x ∈ slotIds (keep s li), x < h0) : pack h0 li ⟨s, H⟩ = some ⟨renS h0 [] (keep s li), H⟩ := by
  unfold pack
  rw [packH_lo0 hh hs hr]
  rfl
theorem pack_lo {H ex : Hp} {h0 : Nat} (hh : H.length = h0) (hs : Stable H) {s : List (Nat × AV)} {li : List Nat} (hr : ∀ x ∈ slotIds (keep s li), x < h0) : pack h0 li ⟨s, H ++ ex⟩ = some ⟨renS h0 [] (keep s li), H⟩ := by
  unfold pack
  rw [packH_lo hh hs hr]
  rfl
theorem oldIds_append : ∀ (H ex : Hp), oldIds (H ++ ex) = oldIds H ++ oldIds ex
  | [], ex => rfl
  | none :: r, ex => by rw [List.cons_append, oldIds, oldIds, oldIds_append r ex]
  | some b :: r, ex => by rw [List.cons_append, oldIds, oldIds, oldIds_append r ex, List.append_assoc]
theorem rnmL_le {f g : Nat → Option Nat} (hfg : ∀ i j, f i = some j → g i = some j) : ∀ (d : Nat) (a b : AV), rnm f d a = some b → rnm g d a = some b
  | 0, a, b, h => by cases h
  | d + 1, a, b, h => by
    have ih := rnmL_le hfg d
    have lst : ∀ (l r : List AV), rnmL (rnm f d) l = some r → rnmL (rnm g d) l = some r := by
      intro l
      induction l with
      | nil => intro r h; exact h
      | cons x l ihl =>
        intro r h
        simp only [rnmL] at h ⊢
        cases h1 : rnm f d x with
        | none => rw [h1] at h; cases h
        | some y =>
          rw [h1] at h
          cases h2 : rnmL (rnm f d) l with
          | none => rw [h2] at h; cases h
          | some q => rw [h2] at h; rw [ih x y h1, ihl q h2]; exact h
    cases a with
    | x => exact h
    | v c => exact h
    | lst k xs => exact h
    | el e j => exact h
    | sl id off n =>
      simp only [rnm] at h ⊢
      cases h1 : f id with
      | none => rw [h1] at h; cases h
      | some j => rw [h1] at h; rw [hfg id j h1]; exact h
    | ptr id i j =>
      simp only [rnm] at h ⊢
      cases h1 : f id with
      | none => rw [h1] at h; cases h
      | some j => rw [h1] at h; rw [hfg id j h1]; exact h
    | agg cs =>
      simp only [rnm] at h ⊢
      cases h1 : rnmL (rnm f d) cs with
      | none => rw [h1] at h; cases h
      | some q => rw [h1] at h; rw [lst cs q h1]; exact h
    | tup cs =>
      simp only [rnm] at h ⊢
      cases h1 : rnmL (rnm f d) cs with
      | none => rw [h1] at h; cases h
      | some q => rw [h1] at h; rw [lst cs q h1]; exact h
    | fn g' p q =>
      simp only [rnm] at h ⊢
      cases h1 : rnmL (rnm f d) p with
      | none => rw [h1] at h; cases h
      | some p' =>
        cases h2 : rnmL (rnm f d) q with
        | none => rw [h1, h2] at h; cases h
        | some q' => rw [h1, h2] at h; rw [lst p p' h1, lst q q' h2]; exact h
theorem rnmLL_le {f g : Nat → Option Nat} (hfg : ∀ i j, f i = some j → g i = some j) (d : Nat) : ∀ (l r : List AV), rnmL (rnm f d) l = some r → rnmL (rnm g d) l = some r
  | [], r, h => h
  | x :: l, r, h => by
    simp only [rnmL] at h ⊢
    cases h1 : rnm f d x with
    | none => rw [h1] at h; cases h
    | some y =>
      rw [h1] at h
      cases h2 : rnmL (rnm f d) l with
      | none => rw [h2] at h; cases h
      | some q => rw [h2] at h; rw [rnmL_le hfg d x y h1, rnmLL_le hfg d l q h2]; exact h
theorem rnmH_le {f g : Nat → Option Nat} (hfg : ∀ i j, f i = some j → g i = some j) : ∀ (H R : Hp), rnmH f H = some R → rnmH g H = some R
  | [], R, h => h
  | o :: r, R, h => by
    have one : ∀ o', rnmO f o = some o' → rnmO g o = some o' := by
      intro o' h
      cases o with
      | none => exact h
      | some b =>
        simp only [rnmO, rnmB] at h ⊢
        split
        · rename_i hk
          rw [if_pos hk] at h
          cases h1 : rnmL (rnm f fzd) b.es with
          | none => rw [h1] at h; cases h
          | some q => rw [h1] at h; rw [rnmLL_le hfg _ _ _ h1]; exact h
        · rename_i hk
          rw [if_neg hk] at h
          exact h
    simp only [rnmH] at h ⊢
    cases h1 : rnmO f o with
    | none => rw [h1] at h; cases h
    | some o2 =>
      rw [h1] at h
      cases h2 : rnmH f r with
      | none => rw [h2] at h; cases h
      | some q => rw [h2] at h; rw [one o2 h1, rnmH_le hfg r q h2]; exact h
theorem newId_le {n m : Nat} (h : n ≤ m) : ∀ i j, newId n [] i = some j → newId m [] i = some j := by
  intro i j hi
  unfold newId at hi ⊢
  by_cases h1 : i < n
  · rw [if_pos h1] at hi
    rw [if_pos (by omega)]
    exact hi
  · rw [if_neg h1] at hi
    simp at hi
theorem rnmH_append {f : Nat → Option Nat} : ∀ {H ex R S : Hp}, rnmH f H = some R → rnmH f ex = some S → rnmH f (H ++ ex) = some (R ++ S)
  | [], ex, R, S, h, k => by cases h; exact k
  | o :: r, ex, R, S, h, k => by
    simp only [rnmH] at h
    cases h1 : rnmO f o with
    | none => rw [h1] at h; cases h
    | some o2 =>
      rw [h1] at h
      cases h2 : rnmH f r with
      | none => rw [h2] at h; cases h
      | some q =>
        rw [h2] at h
        cases h
        rw [List.cons_append, rnmH, h1, rnmH_append h2 k]
        rfl
/-- A block more, that names only what was there. -/
theorem Stable.snoc {H : Hp} (hs : Stable H) {b : Blk} (h1 : ∀ x ∈ blkIds b, x < H.length + 1) (h2 : rnmB (newId (H.length + 1) []) b = some b) : Stable (H ++ [some b]) := by
  unfold Stable
  have hl : (H ++ [some b]).length = H.length + 1 := by simp
  rw [hl]
  refine ⟨fun x hx => ?_, ?_⟩
  · rw [oldIds_append] at hx
    rcases List.mem_append.1 hx with h | h
    · have := hs.1 x h; omega
    · rw [oldIds, oldIds, List.append_nil] at h
      exact h1 x h
  · refine rnmH_append (rnmH_le (newId_le (by omega)) _ _ hs.2) ?_
    rw [rnmH, rnmO, h2]
    rfl
end Go.Proofs.YtlmjoimjdpfamaaGreat.Ev
namespace Go.Proofs.YtlmjoimjdpfamaaGreat.Ev
variable {P : Program} {base : Nat} {M : Nat → Prop} {ρ : Rho} {w : World}
/-- Where a result has rows: nothing there is told as a row of no elements. -/
inductive Sh2 where
  | one (s : Option Nat)
  | agg (l : List (Option Nat))
inductive Sh where
  | res (s : Sh2)
  | tup (l : List Sh2)
def cn1 : Option Nat → AV → AV
  | some k, .v (.slice none 0 0) => .lst k []
  | _, a => a
def cnL : List (Option Nat) → List AV → List AV
  | s :: r, a :: t => cn1 s a :: cnL r t
  | _, t => t
def cn2 : Sh2 → AV → AV
  | .one s, a => cn1 s a
  | .agg l, .agg cs => .agg (cnL l cs)
  | .agg _, a => a
def cnT : List Sh2 → List AV → List AV
  | s :: r, a :: t => cn2 s a :: cnT r t
  | _, t => t
def cn : Sh → AV → AV
  | .res s, a => cn2 s a
  | .tup l, .tup cs => .tup (cnT l cs)
  | .tup _, a => a
theorem cn1_vr {s : Option Nat} {a : AV} {v : Value} (h : VR M w ρ a v) : VR M w ρ (cn1 s a) v := by
  unfold cn1
  split
  · obtain rfl := vr_v h
    refine @VR.lst M w ρ _ [] none 0 (fun _ _ => undef) (Nat.le_refl _) ?_ ?_ ?_ ?_
    · intro h; exact absurd rfl h
    · intro i e he; simp at he
    · intro a ha; cases ha
    · intro i e j c he; simp at he
  · exact h
theorem cnL_len : ∀ (l : List (Option Nat)) (t : List AV), (cnL l t).length = t.length
  | [], t => by simp [cnL]
  | s :: r, [] => by simp [cnL]
  | s :: r, a :: t => by simp [cnL, cnL_len r t]
theorem cnL_at : ∀ (l : List (Option Nat)) (t : List AV) (i : Nat) (c : AV), (cnL l t)[i]? = some c → ∃ s a, t[i]? = some a ∧ c = cn1 s a
  | [], t, i, c, h => ⟨none, c, by simpa [cnL] using h, by simp [cn1]⟩
  | s :: r, [], i, c, h => by simp [cnL] at h
  | s :: r, a :: t, i, c, h => by
    cases i with
    | zero => simp [cnL] at h; exact ⟨s, a, by simp, h.symm⟩
    | succ i => simp [cnL] at h; obtain ⟨s', a', h1, h2⟩ := cnL_at r t i c h; exact ⟨s', a', by simpa using h1, h2⟩
theorem cn2_vr {s : Sh2} {a : AV} {v : Value} (h : VR M w ρ a v) : VR M w ρ (cn2 s a) v := by
  unfold cn2
  split
  · exact cn1_vr h
  · rename_i l cs
    cases h with
    | agg hl ho hr =>
      refine .agg (by rw [cnL_len]; exact hl) ho fun i c u h1 h2 => ?_
      obtain ⟨s', a', h3, rfl⟩ := cnL_at l cs i c h1
      exact cn1_vr (hr i a' u h3 h2)
  · exact h
theorem cnT_len : ∀ (l : List Sh2) (t : List AV), (cnT l t).length = t.length
  | [], t => by simp [cnT]
  | s :: r, [] => by simp [cnT]
  | s :: r, a :: t => by simp [cnT, cnT_len r t]
theorem cnT_at : ∀ (l : List Sh2) (t : List AV) (i : Nat) (c : AV), (cnT l t)[i]? = some c → ∃ s a, t[i]? = some a ∧ c = cn2 s a
  | [], t, i, c, h => ⟨.one none, c, by simpa [cnT] using h, by simp [cn2, cn1]⟩
  | s :: r, [], i, c, h => by simp [cnT] at h
  | s :: r, a :: t, i, c, h => by
    cases i with
    | zero => simp [cnT] at h; exact ⟨s, a, by simp, h.symm⟩
    | succ i => simp [cnT] at h; obtain ⟨s', a', h1, h2⟩ := cnT_at r t i c h; exact ⟨s', a', by simpa using h1, h2⟩
theorem cn_vr {s : Sh} {a : AV} {v : Value} (h : VR M w ρ a v) : VR M w ρ (cn s a) v := by
  unfold cn
  split
  · exact cn2_vr h
  · rename_i l cs
    cases h with
    | tup hl hr =>
      refine .tup (by rw [cnT_len]; exact hl) fun i c u h1 h2 => ?_
      obtain ⟨s', a', h3, rfl⟩ := cnT_at l cs i c h1
      exact cn2_vr (hr i a' u h3 h2)
  · exact h
noncomputable def frzP (E : Env) (f : Nat) (sh : Sh) (as : List AV) (H : Hp) : Option (AV × Hp) := (callS E (ev E) f as H).map fun a => (cn sh a, H)
theorem frz_ok {E : Env} {n0 : Nat} {G : World → Prop} (hC : CS P n0 G (ev E)) (f : Nat) (sh : Sh) (as : List AV) (H : Hp) (res : AV) (H' : Hp) (h : frzP E f sh as H = some (res, H')) : Callable P f ∧
    ∀ (base : Nat) (M : Nat → Prop) (ρ : Rho) (w : World) (vs : Array Value), G w → n0 ≤ base → base ≤ w.heap.size → HR base M ρ H w → Args M ρ w as vs → Calls P f vs w (Ans base M ρ H w res H') := by
  unfold frzP at h
  cases hc : callS E (ev E) f as H with
  | none => rw [hc] at h; cases h
  | some a =>
    rw [hc] at h
    cases h
    obtain ⟨k1, k2⟩ := callS_sound hC hc
    refine ⟨k1, fun base M ρ w vs hG hn hB hH hA => (k2 base M ρ w vs hG hn hB hH hA).mono ?_⟩
    rintro e w' ⟨v, M', rfl, hs, hlt, hv⟩
    exact ⟨v, M', ρ, rfl, hs.hr hH hlt, hs.ext hH, cn_vr hv⟩
/-- What the environment below answers, told by itself. -/
theorem frz_eq {E : Env} {f : Nat} {sh : Sh} {as as' : List AV} {r a : AV} {h : Hp} (ho : E.opn f = false) (ha : fzL (fz [] fzd) as = some (as', [])) (he : ev E f as' [] = some (r, h)) (hr : callSH [] (some (r, h)) = some a) : frzP E f sh as [] = some (cn sh a, []) := by
  unfold frzP callS
  rw [ho]
  simp only [Bool.false_eq_true, if_false, ha, callSG, he, hr, Option.map_some]
theorem frz_to {E : Env} {f : Nat} {sh : Sh} {as as' : List AV} {r res : AV} {h : Hp} (ho : E.opn f = false) (he : ev E f as' [] = some (r, h)) (ha : fzL (fz [] fzd) as = some (as', [])) (hr : (callSH [] (some (r, h))).map (cn sh) = some res) : frzP E f sh as [] = some (res, []) := by
  cases hc : callSH [] (some (r, h)) with
  | none => rw [hc] at hr; cases hr
  | some a =>
    rw [hc] at hr
    cases hr
    exact frz_eq ho ha he hc
attribute [simp] cn cnT cn2 cnL cn1
end Go.Proofs.YtlmjoimjdpfamaaGreat.Ev
