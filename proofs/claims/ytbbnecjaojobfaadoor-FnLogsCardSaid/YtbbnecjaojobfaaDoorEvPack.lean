/- Renaming the state's blocks: nothing is lost of what is kept. -/
import Derived.Test.YtbbnecjaojobfaaDoorEvFull4
set_option linter.unusedVariables false
set_option linter.unusedSimpArgs false
set_option linter.constructorNameAsVariable false
namespace Go.Proofs.YtbbnecjaojobfaaDoor.Ev
variable {P : Program} {base : Nat} {M : Nat → Prop} {ρ : Rho} {w : World}
theorem rnmL_some {g : AV → Option AV} : ∀ {cs ds : List AV}, rnmL g cs = some ds → ds.length = cs.length ∧ ∀ (i : Nat) (c d : AV), cs[i]? = some c → ds[i]? = some d → g c = some d
  | [], ds, h => by cases h; exact ⟨rfl, fun i c d h1 _ => by simp at h1⟩
  | a :: r, ds, h => by
    simp only [rnmL] at h
    obtain ⟨b, hb, h2⟩ := bind_iff.1 h
    obtain ⟨s, hs, h3⟩ := bind_iff.1 h2
    cases h3
    obtain ⟨h4, h5⟩ := rnmL_some hs
    refine ⟨by simp [h4], fun i c d h6 h7 => ?_⟩
    cases i with
    | zero => simp at h6 h7; subst h6; subst h7; exact hb
    | succ i => exact h5 i c d (by simpa using h6) (by simpa using h7)
/-- A map of names that keeps what they mean. -/
def Maps (f : Nat → Option Nat) (ρ ρ' : Rho) : Prop := ∀ (id i : Nat) (o : Option Loc), f id = some i → ρ[id]? = some o → ρ'[i]? = some o
theorem rnm_ok {f : Nat → Option Nat} {ρ' : Rho} (hf : Maps f ρ ρ') : ∀ (d : Nat) (a b : AV) (v : Value), rnm f d a = some b → VR M w ρ a v → VR M w ρ' b v
  | 0, a, b, v, h, _ => by cases h
  | d + 1, a, b, v, h, hv => by
    have ih := rnm_ok hf d
    cases a with
    | x => cases h
    | v c => cases h; obtain rfl := vr_v hv; exact .v
    | lst k xs =>
      cases h
      cases hv with
      | lst U hc ha hk hm hr => exact .lst U hc ha hk hm hr
    | el e j =>
      cases h
      cases hv with
      | el U hs hM hm hr => exact .el U hs hM hm hr
    | sl id off n =>
      obtain ⟨i, hi, h2⟩ := bind_iff.1 h
      cases h2
      cases hv with
      | sl L hL h1 h2 hA => exact .sl L (hf _ _ _ hi hL) h1 h2 hA
      | dsl h0 ho => exact .dsl (hf _ _ _ hi h0) ho
    | ptr id i j =>
      obtain ⟨n, hn, h2⟩ := bind_iff.1 h
      cases h2
      cases hv with
      | ptr L hL => exact .ptr L (hf _ _ _ hn hL)
      | dptr h0 ho => exact .dptr (hf _ _ _ hn h0) ho
    | agg cs =>
      obtain ⟨r, hr, h2⟩ := bind_iff.1 h
      cases h2
      obtain ⟨hl, hall⟩ := rnmL_some hr
      cases hv with
      | agg hl' ho hall' =>
        refine .agg (hl.trans hl') ho fun i c u h1 h2 => ?_
        obtain ⟨c0, hc0⟩ := get_of_len hl.symm h1
        exact ih c0 c u (hall i c0 c hc0 h1) (hall' i c0 u hc0 h2)
    | tup cs =>
      obtain ⟨r, hr, h2⟩ := bind_iff.1 h
      cases h2
      obtain ⟨hl, hall⟩ := rnmL_some hr
      cases hv with
      | tup hl' hall' =>
        refine .tup (hl.trans hl') fun i c u h1 h2 => ?_
        obtain ⟨c0, hc0⟩ := get_of_len hl.symm h1
        exact ih c0 c u (hall i c0 c hc0 h1) (hall' i c0 u hc0 h2)
    | fn g a b =>
      obtain ⟨p, hp, h2⟩ := bind_iff.1 h
      obtain ⟨q, hq, h3⟩ := bind_iff.1 h2
      cases h3
      obtain ⟨hl, hall⟩ := rnmL_some hp
      obtain ⟨hl2, hall2⟩ := rnmL_some hq
      cases hv with
      | fn hla hlb ha hb =>
        refine .fn (hl.trans hla) (hl2.trans hlb) (fun i c u h1 h2 => ?_) (fun i c u h1 h2 => ?_)
        · obtain ⟨c0, hc0⟩ := get_of_len hl.symm h1
          exact ih c0 c u (hall i c0 c hc0 h1) (ha i c0 u hc0 h2)
        · obtain ⟨c0, hc0⟩ := get_of_len hl2.symm h1
          exact ih c0 c u (hall2 i c0 c hc0 h1) (hb i c0 u hc0 h2)
/-- Renaming keeps the number of cells. -/
theorem rnm_cells {f : Nat → Option Nat} {d : Nat} {a b : AV} (h : rnm f d a = some b) : b.cells.length = a.cells.length ∧ ∀ (j : Nat) (x y : AV), a.cells[j]? = some x → b.cells[j]? = some y → ∃ d', rnm f d' x = some y := by
  have one : a.cells = [a] → b.cells = [b] → b.cells.length = a.cells.length ∧ ∀ (j : Nat) (x y : AV), a.cells[j]? = some x → b.cells[j]? = some y → ∃ d', rnm f d' x = some y := by
    intro h1 h2
    rw [h1, h2]
    refine ⟨rfl, fun j x y hx hy => ?_⟩
    cases j with
    | zero => simp at hx hy; subst hx; subst hy; exact ⟨d, h⟩
    | succ j => simp at hx
  cases d with
  | zero => cases h
  | succ d =>
    cases a with
    | x => cases h
    | v c => cases h; exact one rfl rfl
    | lst k xs => cases h; exact one rfl rfl
    | el e j => cases h; exact one rfl rfl
    | sl id off n =>
      have h' := h
      obtain ⟨i, hi, h2⟩ := bind_iff.1 h'
      cases h2
      exact one rfl rfl
    | ptr id i j =>
      have h' := h
      obtain ⟨i, hi, h2⟩ := bind_iff.1 h'
      cases h2
      exact one rfl rfl
    | agg cs =>
      obtain ⟨r, hr, h2⟩ := bind_iff.1 h
      cases h2
      obtain ⟨hl, hall⟩ := rnmL_some hr
      exact ⟨hl, fun j x y hx hy => ⟨d, hall j x y hx hy⟩⟩
    | tup cs =>
      have h' := h
      obtain ⟨r, hr, h2⟩ := bind_iff.1 h'
      cases h2
      exact one rfl rfl
    | fn g a b =>
      have h' := h
      obtain ⟨p, hp, h2⟩ := bind_iff.1 h'
      obtain ⟨q, hq, h3⟩ := bind_iff.1 h2
      cases h3
      exact one rfl rfl
theorem rnmB_br {f : Nat → Option Nat} {ρ' : Rho} (hf : Maps f ρ ρ') {b b' : Blk} (h : rnmB f b = some b') {L : Loc} (q : BR base M ρ w b L) : BR base M ρ' w b' L ∧ b'.ro = b.ro := by
  unfold rnmB at h
  obtain ⟨cur, fr, a1, a2, a3, a4⟩ := q.cur
  split at h
  · rename_i hk0
    obtain ⟨es, hes, h2⟩ := bind_iff.1 h
    cases h2
    obtain ⟨hl, hall⟩ := rnmL_some hes
    refine ⟨{ lo := q.lo, kk := q.kk, kp := q.kp, ro := q.ro, capm := q.capm, len := by rw [hl]; exact q.len, ek := fun i e he => ?_, cur := ⟨cur, fr, a1, a2, a3, fun i e j c he hc => ?_⟩ }, rfl⟩
    · obtain ⟨e0, he0⟩ := get_of_len hl.symm he
      have hr := hall i e0 e he0 he
      obtain ⟨hcl, hcc⟩ := rnm_cells hr
      obtain ⟨c0, hc0⟩ := get_of_len hcl.symm hc
      obtain ⟨u, d1, d2, d3⟩ := a4 i e0 j c0 he0 hc0
      simp only [hk0, if_true] at d3 ⊢
      obtain ⟨d', hd'⟩ := hcc j c0 c hc0 hc
      exact ⟨u, d1, d2, rnm_ok hf d' c0 c u hd' d3⟩
    · obtain ⟨e0, he0⟩ := get_of_len hl.symm he
      rw [(rnm_cells (hall i e0 e he0 he)).1]
      exact q.ek i e0 he0
  · rename_i hk0
    cases h
    refine ⟨{ lo := q.lo, kk := q.kk, kp := q.kp, ro := q.ro, capm := q.capm, len := q.len, ek := q.ek, cur := ⟨cur, fr, a1, a2, a3, fun i e j c he hc => ?_⟩ }, rfl⟩
    obtain ⟨u, d1, d2, d3⟩ := a4 i e j c he hc
    simp only [hk0, if_false] at d3 ⊢
    exact ⟨u, d1, d2, d3⟩
theorem rnmH_some {f : Nat → Option Nat} : ∀ {H H' : Hp}, rnmH f H = some H' → H'.length = H.length ∧ ∀ (i : Nat) (o o' : Option Blk), H[i]? = some o → H'[i]? = some o' → rnmO f o = some o'
  | [], H', h => by cases h; exact ⟨rfl, fun i c d h1 _ => by simp at h1⟩
  | a :: r, H', h => by
    simp only [rnmH] at h
    obtain ⟨b, hb, h2⟩ := bind_iff.1 h
    obtain ⟨s, hs, h3⟩ := bind_iff.1 h2
    cases h3
    obtain ⟨h4, h5⟩ := rnmH_some hs
    refine ⟨by simp [h4], fun i c d h6 h7 => ?_⟩
    cases i with
    | zero => simp at h6 h7; subst h6; subst h7; exact hb
    | succ i => exact h5 i c d (by simpa using h6) (by simpa using h7)
theorem rnmO_none {f : Nat → Option Nat} {o o' : Option Blk} (h : rnmO f o = some o') : (o' = none ↔ o = none) ∧ ∀ b', o' = some b' → ∃ b, o = some b ∧ rnmB f b = some b' := by
  cases o with
  | none => cases h; simp
  | some b =>
    obtain ⟨c, hc, h2⟩ := bind_iff.1 h
    cases h2
    exact ⟨by simp, fun b' h => by cases h; exact ⟨b, rfl, hc⟩⟩
/-- A state of chosen blocks, renamed. -/
theorem HR.select {H : Hp} (hH : HR base M ρ H w) {f : Nat → Option Nat} {ρ' : Rho} (hf : Maps f ρ ρ') {H' : Hp} (σ : Nat → Nat) (hlen : H'.length = ρ'.length) (hinj : ∀ i j, i < ρ'.length → j < ρ'.length → σ i = σ j → i = j)
    (hρ : ∀ i, i < ρ'.length → ρ'[i]? = ρ[σ i]?) (hHs : ∀ i, i < H'.length → ∃ o o', H[σ i]? = some o ∧ H'[i]? = some o' ∧ rnmO f o = some o') :
    HR base M ρ' H' w ∧ ∀ g, Wr ρ' H' g → Wr ρ H g := by
  have at_ : ∀ {i : Nat} {o' : Option Blk}, H'[i]? = some o' → i < ρ'.length ∧ ∃ o, H[σ i]? = some o ∧ rnmO f o = some o' := by
    intro i o' h
    have hi := (List.getElem?_eq_some_iff.1 h).1
    obtain ⟨o, o2, h1, h2, h3⟩ := hHs i hi
    rw [h] at h2
    cases h2
    exact ⟨by omega, o, h1, h3⟩
  have lt : ∀ {i : Nat} {o : Option Loc}, ρ'[i]? = some o → i < ρ'.length := fun h => (List.getElem?_eq_some_iff.1 h).1
  refine ⟨{ len := hlen, dead := fun i => ?_, blk := fun i b' L hb hL => ?_, inj := fun i j L L' h1 h2 hne => ?_, mlt := hH.mlt }, fun g hg => ?_⟩
  · constructor
    · intro h
      obtain ⟨hi, o, h1, h2⟩ := at_ h
      have := (rnmO_none h2).1.1 rfl
      subst this
      rw [hρ i hi]
      exact (hH.dead _).1 h1
    · intro h
      have hi := lt h
      obtain ⟨o, o', h1, h2, h3⟩ := hHs i (by omega)
      rw [hρ i hi, ← hH.dead, h1] at h
      cases h
      rw [h2, (rnmO_none h3).1.2 rfl]
  · obtain ⟨hi, o, h1, h2⟩ := at_ hb
    obtain ⟨b, rfl, h3⟩ := (rnmO_none h2).2 b' rfl
    rw [hρ i hi] at hL
    exact (rnmB_br hf h3 (hH.blk _ b L h1 hL)).1
  · have hi := lt h1
    have hj := lt h2
    rw [hρ i hi] at h1
    rw [hρ j hj] at h2
    exact hH.inj _ _ L L' h1 h2 (fun e => hne (hinj i j hi hj e))
  · obtain ⟨i, b', L, h1, h2, h3, rfl⟩ := hg
    obtain ⟨hi, o, h4, h5⟩ := at_ h1
    obtain ⟨b, rfl, h6⟩ := (rnmO_none h5).2 b' rfl
    rw [hρ i hi] at h3
    have := (rnmB_br hf h6 (hH.blk _ b L h4 h3)).2
    exact ⟨_, b, L, h4, by rw [← this]; exact h2, h3, rfl⟩
-- ---------------------------------------------------------------- the blocks that are kept
structure Acc (H : Hp) (h0 : Nat) (acc : List Nat) : Prop where
  ge : ∀ x ∈ acc, h0 ≤ x
  live : ∀ x ∈ acc, ∃ b, hget H x = some b
  nodup : acc.Nodup
theorem reach_acc (H : Hp) (h0 : Nat) : ∀ (d : Nat) (l acc : List Nat), Acc H h0 acc → Acc H h0 (reach H h0 d l acc)
  | 0, l, acc, h => h
  | d + 1, [], acc, h => h
  | d + 1, id :: r, acc, h => by
    simp only [reach]
    split
    · exact reach_acc H h0 d r acc h
    · rename_i hc
      split
      · exact reach_acc H h0 d r acc h
      · rename_i b hb
        simp only [Bool.or_eq_true, decide_eq_true_eq, List.contains_iff_mem, not_or] at hc
        refine reach_acc H h0 d _ _ ⟨fun x hx => ?_, fun x hx => ?_, ?_⟩
        · rcases List.mem_append.1 hx with hx | hx
          · exact h.ge x hx
          · simp at hx; omega
        · rcases List.mem_append.1 hx with hx | hx
          · exact h.live x hx
          · simp at hx; subst hx; exact ⟨b, hb⟩
        · rw [List.nodup_append]
          refine ⟨h.nodup, by simp, fun x hx y hy => ?_⟩
          simp at hy
          subst hy
          intro e
          subst e
          exact hc.2 hx
theorem picked_get (H : Hp) : ∀ (acc : List Nat) (i : Nat), (picked H acc)[i]? = (acc[i]?).map fun id => hget H id
  | [], i => by simp [picked]
  | a :: r, i => by
    cases i with
    | zero => simp [picked]
    | succ i => simp [picked, picked_get H r]
theorem picked_len (H : Hp) : ∀ (acc : List Nat), (picked H acc).length = acc.length
  | [] => rfl
  | a :: r => by simp [picked, picked_len H r]
def packρ (ρ : Rho) (h0 : Nat) (acc : List Nat) : Rho := ρ.take h0 ++ acc.map fun id => (ρ[id]?).getD none
theorem packH_sound {H : Hp} (hH : HR base M ρ H w) {h0 : Nat} (hh : h0 ≤ H.length) {roots acc : List Nat} {H' : Hp} (h : packH h0 H roots = some (acc, H')) :
    HR base M (packρ ρ h0 acc) H' w ∧ Maps (newId h0 acc) ρ (packρ ρ h0 acc) ∧ (∀ g, Wr (packρ ρ h0 acc) H' g → Wr ρ H g) ∧ ∀ id, id < h0 → (packρ ρ h0 acc)[id]? = ρ[id]? := by
  unfold packH at h
  simp only at h
  obtain ⟨acc0, hacc0⟩ : ∃ acc0, acc0 = reach H h0 64 (roots ++ oldIds (H.take h0)) [] := ⟨_, rfl⟩
  rw [← hacc0] at h
  have ha : Acc H h0 acc0 := by rw [hacc0]; exact reach_acc H h0 64 _ [] ⟨fun x hx => by simp at hx, fun x hx => by simp at hx, List.nodup_nil⟩
  cases hA : rnmH (newId h0 acc0) (H.take h0) with
  | none => rw [hA] at h; cases h
  | some A =>
    cases hBB : rnmH (newId h0 acc0) (picked H acc0) with
    | none => rw [hA, hBB] at h; cases h
    | some B =>
      rw [hA, hBB] at h
      cases h
      obtain ⟨lA, gA⟩ := rnmH_some hA
      obtain ⟨lB, gB⟩ := rnmH_some hBB
      have hρl : h0 ≤ ρ.length := by rw [← hH.len]; exact hh
      have htl : (ρ.take h0).length = h0 := by simp; omega
      have hAl : A.length = h0 := by rw [lA]; simp; omega
      have hlow : ∀ id, id < h0 → (packρ ρ h0 acc)[id]? = ρ[id]? := by
        intro id hid
        unfold packρ
        rw [List.getElem?_append_left (by omega), List.getElem?_take, if_pos hid]
      have hhigh : ∀ i id, acc[i]? = some id → (packρ ρ h0 acc)[h0 + i]? = ρ[id]? := by
        intro i id hi
        unfold packρ
        rw [List.getElem?_append_right (by omega), htl, Nat.add_sub_cancel_left, List.getElem?_map, hi]
        obtain ⟨b, hb⟩ := ha.live id (List.mem_of_getElem? hi)
        obtain ⟨L, hL, _⟩ := hH.loc (hget_some hb)
        simp [hL]
      have hmaps : Maps (newId h0 acc) ρ (packρ ρ h0 acc) := by
        intro id i o hi ho
        unfold newId at hi
        split at hi
        · rename_i hid
          cases hi
          rw [hlow id hid]
          exact ho
        · cases hx : acc.idxOf? id with
          | none => rw [hx] at hi; cases hi
          | some x =>
            rw [hx] at hi
            cases hi
            have : acc[x]? = some id := by
              rw [List.idxOf?_eq_some_iff] at hx
              obtain ⟨h1, h2, _⟩ := hx
              rw [List.getElem?_eq_getElem h1, h2]
            rw [hhigh x id this]
            exact ho
      have hlen : (packρ ρ h0 acc).length = h0 + acc.length := by unfold packρ; simp; omega
      have hsel := hH.select hmaps (H' := A ++ B) (fun i => if i < h0 then i else acc.getD (i - h0) 0) (by rw [hlen]; simp [hAl, lB, picked_len])
        (fun i j hi hj he => by
          rw [hlen] at hi hj
          have val : ∀ (k : Nat) (h1 : ¬ k < h0) (h2 : k < h0 + acc.length), acc.getD (k - h0) 0 = acc[k - h0]'(by omega) := fun k h1 h2 => by rw [List.getD_eq_getElem?_getD, List.getElem?_eq_getElem (by omega)]; rfl
          by_cases h1 : i < h0 <;> by_cases h2 : j < h0
          · rw [if_pos h1, if_pos h2] at he; exact he
          · rw [if_pos h1, if_neg h2, val j h2 hj] at he
            have := ha.ge _ (List.getElem_mem (by omega : j - h0 < acc.length))
            omega
          · rw [if_neg h1, if_pos h2, val i h1 hi] at he
            have := ha.ge _ (List.getElem_mem (by omega : i - h0 < acc.length))
            omega
          · rw [if_neg h1, if_neg h2, val i h1 hi, val j h2 hj] at he
            have hnd := List.pairwise_iff_getElem.1 ha.nodup
            rcases Nat.lt_trichotomy (i - h0) (j - h0) with hlt | hlt | hlt
            · exact absurd he (hnd _ _ _ _ hlt)
            · omega
            · exact absurd he.symm (hnd _ _ _ _ hlt))
        (fun i hi => by
          rw [hlen] at hi
          by_cases h1 : i < h0
          · rw [if_pos h1]; exact hlow i h1
          · rw [if_neg h1]
            have hx : acc[i - h0]? = some (acc.getD (i - h0) 0) := by rw [List.getD_eq_getElem?_getD, List.getElem?_eq_getElem (by omega)]; rfl
            have := hhigh (i - h0) _ hx
            rwa [show h0 + (i - h0) = i by omega] at this)
        (fun i hi => by
          have hi' : i < h0 + acc.length := by simp [hAl, lB, picked_len] at hi; exact hi
          by_cases h1 : i < h0
          · rw [if_pos h1]
            have e1 : (H.take h0)[i]? = some (H[i]'(by omega)) := by rw [List.getElem?_take, if_pos h1, List.getElem?_eq_getElem]
            have e2 : A[i]? = some (A[i]'(by omega)) := List.getElem?_eq_getElem _
            refine ⟨_, _, List.getElem?_eq_getElem (by omega), ?_, gA i _ _ e1 e2⟩
            rw [List.getElem?_append_left (by omega)]
            exact e2
          · rw [if_neg h1]
            have hx : acc[i - h0]? = some (acc.getD (i - h0) 0) := by rw [List.getD_eq_getElem?_getD, List.getElem?_eq_getElem (by omega)]; rfl
            obtain ⟨b, hb⟩ := ha.live _ (List.mem_of_getElem? hx)
            have e1 : (picked H acc)[i - h0]? = some (some b) := by rw [picked_get, hx, Option.map_some, hb]
            have hBlt : i - h0 < B.length := by rw [lB, picked_len]; omega
            have e2 : B[i - h0]? = some B[i - h0] := List.getElem?_eq_getElem _
            refine ⟨some b, _, hget_some hb, ?_, gB _ _ _ e1 e2⟩
            rw [List.getElem?_append_right (by omega), hAl]
            exact e2)
      exact ⟨hsel.1, hmaps, hsel.2, hlow⟩
theorem sget_keep (s : List (Nat × AV)) : ∀ (l : List Nat) (t : Nat), sget (keep s l) t = if l.contains t then sget s t else .x
  | [], t => rfl
  | u :: l, t => by
    simp only [keep, sget]
    by_cases h : u = t
    · subst h; simp
    · rw [if_neg h, sget_keep s l t]
      have h' : ¬ t = u := fun e => h e.symm
      simp [List.contains_cons, h']
theorem sget_renS {h0 : Nat} {acc : List Nat} {ρ' : Rho} (hf : Maps (newId h0 acc) ρ ρ') {a : Act} : ∀ (s : List (Nat × AV)), (∀ t, (∃ p ∈ s, p.1 = t) → ∀ p ∈ s, p.1 = t → VR M w ρ p.2 (a.tmps.getD t undef)) → ∀ t, VR M w ρ' (sget (renS h0 acc s) t) (a.tmps.getD t undef)
  | [], _, t => .x
  | (u, c) :: s, h, t => by
    have ih := sget_renS hf s (fun t _ p hp ht => h t ⟨p, by simp [hp], ht⟩ p (by simp [hp]) ht)
    simp only [renS]
    split
    · rename_i b hb
      simp only [sget]
      by_cases hu : u = t
      · subst hu
        rw [if_pos rfl]
        exact rnm_ok hf _ c b _ hb (h u ⟨(u, c), by simp, rfl⟩ (u, c) (by simp) rfl)
      · rw [if_neg hu]; exact ih t
    · exact ih t
theorem keep_mem (s : List (Nat × AV)) : ∀ (l : List Nat) (p : Nat × AV), p ∈ keep s l → p.2 = sget s p.1
  | [], p, h => by simp [keep] at h
  | u :: l, p, h => by
    simp only [keep, List.mem_cons] at h
    rcases h with rfl | h
    · rfl
    · exact keep_mem s l p h
theorem pack_sound {z y : St} {h0 : Nat} {li : List Nat} (h : pack h0 li z = some y) (hH : HR base M ρ z.h w) (hh : h0 ≤ z.h.length) {a : Act} (hS : SL M ρ w z.s a) :
    ∃ ρ', HR base M ρ' y.h w ∧ SL M ρ' w y.s a ∧ (∀ g, Wr ρ' y.h g → Wr ρ z.h g) ∧ (∀ id, id < h0 → ρ'[id]? = ρ[id]?) ∧ h0 ≤ y.h.length := by
  unfold pack at h
  cases hp : packH h0 z.h (slotIds (keep z.s li)) with
  | none => rw [hp] at h; cases h
  | some q =>
    obtain ⟨acc, H'⟩ := q
    rw [hp] at h
    cases h
    obtain ⟨p1, p2, p3, p4⟩ := packH_sound hH hh hp
    refine ⟨_, p1, sget_renS p2 _ (fun t _ p hp ht => ?_), p3, p4, ?_⟩
    · rw [keep_mem z.s li p hp, ht]
      exact hS t
    · have : h0 ≤ ρ.length := by rw [← hH.len]; exact hh
      rw [p1.len]
      unfold packρ
      simp
      omega
end Go.Proofs.YtbbnecjaojobfaaDoor.Ev
