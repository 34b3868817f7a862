/- Calls: what a callee's answer is in the caller's state. -/
import Derived.Test.YtbbnecjaojobfaaDoorEvPack
set_option linter.unusedVariables false
set_option linter.unusedSimpArgs false
set_option linter.constructorNameAsVariable false
namespace Go.Proofs.YtbbnecjaojobfaaDoor.Ev
variable {P : Program} {base : Nat} {M : Nat → Prop} {ρ : Rho} {w : World}
/-- May a function be entered? -/
def Callable (P : Program) (f : Nat) : Prop := ∃ fn, P.funcs[f]? = some fn ∧ fn.body.isSome = true ∧ (fn.name != "runtime.NumGoroutine") = true
def Args (M : Nat → Prop) (ρ : Rho) (w : World) (as : List AV) (vs : Array Value) : Prop := as.length = vs.size ∧ ∀ (i : Nat) (c : AV) (u : Value), as[i]? = some c → vs.toList[i]? = some u → VR M w ρ c u
/-- What a callee owes. -/
def Ans (base : Nat) (M : Nat → Prop) (ρ : Rho) (H : Hp) (w : World) (res : AV) (H' : Hp) (e : Ending) (w' : World) : Prop :=
  ∃ v M' ρ', e = .returned v ∧ HR base M' ρ' H' w' ∧ Ext M ρ H w M' ρ' H' w' ∧ VR M' w' ρ' res v
/-- A fact on a world's first blocks. -/
structure Low (n0 : Nat) (G : World → Prop) : Prop where
  keep : ∀ w w' : World, G w → (∀ g, g < n0 → w'.heap[g]? = w.heap[g]?) → w'.os = w.os → w'.tape = w.tape → G w'
def CS (P : Program) (n0 : Nat) (G : World → Prop) (C : Clo) : Prop := ∀ (f : Nat) (as : List AV) (H : Hp) (res : AV) (H' : Hp), C f as H = some (res, H') → Callable P f ∧
  ∀ (base : Nat) (M : Nat → Prop) (ρ : Rho) (w : World) (vs : Array Value), G w → n0 ≤ base → base ≤ w.heap.size → HR base M ρ H w → Args M ρ w as vs → Calls P f vs w (Ans base M ρ H w res H')
theorem leaf_vr : ∀ (d : Nat) (a : AV) (v : Value), leaf d a = true → VR M w ρ a v → ∀ {M' : Nat → Prop} {w' : World} {ρ' : Rho}, VR M' w' ρ' a v
  | 0, a, v, h, _ => by simp [leaf] at h
  | d + 1, a, v, h, hv => by
    cases a with
    | v c => obtain rfl := vr_v hv; exact .v
    | agg cs =>
      cases hv with
      | agg hl ho hall => exact .agg hl ho fun i c u h1 h2 => leaf_vr d c u (okL_at (by simpa [leaf] using h) i c h1) (hall i c u h1 h2)
    | tup cs =>
      cases hv with
      | tup hl hall => exact .tup hl fun i c u h1 h2 => leaf_vr d c u (okL_at (by simpa [leaf] using h) i c h1) (hall i c u h1 h2)
    | _ => simp [leaf] at h
/-- Old blocks as they were. -/
theorem HR.extend {H : Hp} (hH : HR base M ρ H w) {w' : World} (hs : w.heap.size ≤ w'.heap.size) (old : ∀ g, g < w.heap.size → w'.heap[g]? = w.heap[g]?) {M' : Nat → Prop} (hM : ∀ g, M g → M' g) (hMn : ∀ g, g < w.heap.size → M' g → M g) (hlt : ∀ g, M' g → g < w'.heap.size) :
    HR base M' ρ H w' where
  len := hH.len
  dead := hH.dead
  inj := hH.inj
  mlt := hlt
  blk id b L hb hL := by
    have q := hH.blk id b L hb hL
    obtain ⟨cur, fr, a1, a2, a3, a4⟩ := q.cur
    exact { lo := q.lo, kk := q.kk, kp := q.kp, ro := q.ro.trans ⟨hM _, hMn _ q.lt⟩, capm := q.capm, len := q.len, ek := q.ek,
            cur := ⟨cur, fr, by rw [old _ q.lt]; exact a1, a2, a3, fun i e j c he hc => let ⟨u, d1, d2, d3⟩ := a4 i e j c he hc; ⟨u, d1, d2, d3.mono hM (fun g hg => old g (hH.mlt g hg)) (Rle.refl _)⟩⟩ }
theorem HR.empty (base : Nat) (hlt : ∀ g, M g → g < w.heap.size) : HR base M [] [] w where
  len := rfl
  dead id := by simp
  blk id b L h _ := by simp at h
  inj id id' L L' h := by simp at h
  mlt := hlt
theorem Wr.nil {g : Nat} (h : Wr [] [] g) : False := by
  obtain ⟨id, b, L, h, _⟩ := h
  simp at h
theorem wr_lt {H : Hp} (hH : HR base M ρ H w) {g : Nat} (h : Wr ρ H g) : base ≤ g ∧ g < w.heap.size := by
  obtain ⟨id, b, L, h1, _, h2, rfl⟩ := h
  have q := hH.blk id b L h1 h2
  exact ⟨q.lo, q.lt⟩
theorem Low.ext {n0 : Nat} {G : World → Prop} (hG : Low n0 G) {H : Hp} (hH : HR base M ρ H w) (hn : n0 ≤ base) (hb : base ≤ w.heap.size) (h : G w) {M' : Nat → Prop} {ρ' : Rho} {H' : Hp} {w' : World} (e : Ext M ρ H w M' ρ' H' w') : G w' :=
  hG.keep w w' h (fun g hg => e.keep g (by omega) (fun hw => by have := (wr_lt hH hw).1; omega)) e.os e.tape
/-- What is free of what was lent is so for any that is only read. -/
theorem free_M {M' : Nat → Prop} : ∀ (d : Nat) (a : AV) (v : Value), free d a = true → ∀ {ρ : Rho}, VR M w ρ a v → VR M' w ρ a v
  | 0, a, v, h, ρ, _ => by cases h
  | d + 1, a, v, h, ρ, hv => by
    have ih := free_M (M' := M') d
    cases hv with
    | x => exact .x
    | v => exact .v
    | sl L h1 h2 h3 h4 => exact .sl L h1 h2 h3 h4
    | dsl h1 h2 => exact .dsl h1 h2
    | ptr L h1 => exact .ptr L h1
    | dptr h1 h2 => exact .dptr h1 h2
    | @lst _ k xs A cap U hc ha hk hm hr =>
      have hx : xs = [] := by
        have h' : xs.isEmpty = true := h
        simpa using h'
      subst hx
      exact .lst U hc (fun hn => absurd rfl hn) (fun i e he => by simp at he) (fun a _ i e j c he => by simp at he) (fun i e j c he => by simp at he)
    | el => cases h
    | agg hl ho hr => exact .agg hl ho fun i c u h1 h2 => ih c u (okL_at (show okL (free d) _ = true from h) i c h1) (hr i c u h1 h2)
    | tup hl hr => exact .tup hl fun i c u h1 h2 => ih c u (okL_at (show okL (free d) _ = true from h) i c h1) (hr i c u h1 h2)
    | fn hla hlb ha hb =>
      have h' : (okL (free d) _ && okL (free d) _) = true := h
      rw [Bool.and_eq_true] at h'
      exact .fn hla hlb (fun i c u h1 h2 => ih c u (okL_at h'.1 i c h1) (ha i c u h1 h2)) (fun i c u h1 h2 => ih c u (okL_at h'.2 i c h1) (hb i c u h1 h2))
theorem free_cell {d : Nat} {e : AV} (h : free d e = true) : ∀ (j : Nat) (c : AV), e.cells[j]? = some c → ∃ d', free d' c = true := by
  intro j c hc
  cases d with
  | zero => cases h
  | succ d =>
    cases e with
    | agg cs => exact ⟨d, okL_at (show okL (free d) cs = true from h) j c hc⟩
    | _ =>
      cases j with
      | zero => simp [AV.cells] at hc; subst hc; exact ⟨d + 1, h⟩
      | succ j => simp [AV.cells] at hc
theorem freeH_at : ∀ {H : Hp}, freeH H = true → ∀ (id : Nat) (b : Blk), H[id]? = some (some b) → okL (free fzd) b.es = true
  | [], _, id, b, h => by simp at h
  | none :: r, hf, id, b, h => by
    cases id with
    | zero => simp at h
    | succ id => exact freeH_at (show freeH r = true from hf) id b (by simpa using h)
  | some c :: r, hf, id, b, h => by
    have hf' : (okL (free fzd) c.es && freeH r) = true := hf
    rw [Bool.and_eq_true] at hf'
    cases id with
    | zero => simp at h; subst h; exact hf'.1
    | succ id => exact freeH_at hf'.2 id b (by simpa using h)
/-- Blocks of their own, free of what was lent. -/
theorem HR.free {H : Hp} {b0 : Nat} (hH : HR b0 M ρ H w) (hf : freeH H = true) {M' : Nat → Prop} (hM : ∀ g, b0 ≤ g → (M' g ↔ M g)) (hlt : ∀ g, M' g → g < w.heap.size) : HR b0 M' ρ H w where
  len := hH.len
  dead := hH.dead
  inj := hH.inj
  mlt := hlt
  blk id b L hb hL := by
    have q := hH.blk id b L hb hL
    have hfb := freeH_at hf id b hb
    obtain ⟨cur, fr, a1, a2, a3, a4⟩ := q.cur
    exact { lo := q.lo, kk := q.kk, kp := q.kp, ro := q.ro.trans (hM _ q.lo).symm, capm := q.capm, len := q.len, ek := q.ek,
            cur := ⟨cur, fr, a1, a2, a3, fun i e j c he hc => by
              obtain ⟨u, d1, d2, d3⟩ := a4 i e j c he hc
              obtain ⟨d', hd'⟩ := free_cell (okL_at hfb i e he) j c hc
              exact ⟨u, d1, d2, free_M d' c u hd' d3⟩⟩ }
/-- A callee's blocks, put behind the caller's. -/
theorem callR_sound {H H1 : Hp} (hH : HR base M ρ H w) (hB : base ≤ w.heap.size) {a res : AV} {h H' : Hp} {MM : Nat → Prop} {ρ2 : Rho} {v : Value} {w' : World} (hr : callR H1 (rnm (addId H.length) fzd a) (rnmH (addId H.length) h) = some (res, H')) (hl2 : H1.length = H.length)
    (os : w'.os = w.os) (tape : w'.tape = w.tape) (output : w'.output = w.output) (size : w.heap.size ≤ w'.heap.size) (old : ∀ g, g < w.heap.size → w'.heap[g]? = w.heap[g]?) (m1' : HR base MM ρ H1 w') (h2 : HR w.heap.size MM ρ2 h w') (hv : VR MM w' ρ2 a v)
    (mle : ∀ g, M g → MM g) (mnew : ∀ g, MM g → M g ∨ Wr ρ H g ∨ w.heap.size ≤ g) (wr1 : ∀ g, Wr ρ H1 g → Wr ρ H g ∨ w.heap.size ≤ g) : Ans base M ρ H w res H' (.returned v) w' := by
  cases hra : rnm (addId H.length) fzd a with
  | none => rw [hra] at hr; cases hr
  | some a' =>
    cases hrh : rnmH (addId H.length) h with
    | none => rw [hra, hrh] at hr; cases hr
    | some h' =>
      rw [hra, hrh] at hr
      cases hr
      have hmap : Maps (addId H.length) ρ2 (ρ ++ ρ2) := by
        intro id i o hi ho
        cases hi
        rw [hH.len, List.getElem?_append_right (by omega), Nat.add_sub_cancel_left]
        exact ho
      obtain ⟨lh, gh⟩ := rnmH_some hrh
      have split : ∀ {id : Nat} {o : Option Blk}, (H1 ++ h')[id]? = some o → (id < H.length ∧ H1[id]? = some o) ∨ ∃ j o0, id = H.length + j ∧ h'[j]? = some o ∧ h[j]? = some o0 ∧ rnmO (addId H.length) o0 = some o := by
        intro id o ho
        by_cases hid : id < H.length
        · rw [List.getElem?_append_left (by omega)] at ho
          exact .inl ⟨hid, ho⟩
        · rw [List.getElem?_append_right (by omega), hl2] at ho
          obtain ⟨o0, h0⟩ := get_of_len lh.symm ho
          exact .inr ⟨id - H.length, o0, by omega, ho, h0, gh _ _ _ h0 ho⟩
      have ρlow : ∀ {id : Nat}, id < H.length → (ρ ++ ρ2)[id]? = ρ[id]? := fun hid => List.getElem?_append_left (by rw [← hH.len]; exact hid)
      have ρhigh : ∀ {j : Nat}, (ρ ++ ρ2)[H.length + j]? = ρ2[j]? := fun {j} => by rw [hH.len, List.getElem?_append_right (by omega), Nat.add_sub_cancel_left]
      have oldlt : ∀ {id : Nat} {L : Loc}, ρ[id]? = some (some L) → L.g < w.heap.size := fun h => by
        obtain ⟨b', hb'⟩ := hH.back h
        exact (hH.blk _ b' _ hb' h).lt
      have newge : ∀ {j : Nat} {L : Loc}, ρ2[j]? = some (some L) → w.heap.size ≤ L.g := fun h => by
        obtain ⟨b', hb'⟩ := h2.back h
        exact (h2.blk _ b' _ hb' h).lo
      have hHR : HR base MM (ρ ++ ρ2) (H1 ++ h') w' := by
        refine { len := by simp [hl2, lh, hH.len, h2.len], dead := fun id => ?_, blk := fun id b L hb hL => ?_, inj := fun id id' L L' q1 q2 hne => ?_, mlt := h2.mlt }
        · by_cases hid : id < H.length
          · rw [List.getElem?_append_left (by omega), ρlow hid]; exact m1'.dead id
          · obtain ⟨j, rfl⟩ : ∃ j, id = H.length + j := ⟨id - H.length, by omega⟩
            rw [ρhigh, List.getElem?_append_right (by omega), hl2, Nat.add_sub_cancel_left, ← h2.dead]
            constructor
            · intro hj
              obtain ⟨o0, h0⟩ := get_of_len lh.symm hj
              rw [h0, (rnmO_none (gh _ _ _ h0 hj)).1.1 rfl]
            · intro hj
              obtain ⟨o0, h0⟩ := get_of_len lh hj
              rw [h0, (rnmO_none (gh _ _ _ hj h0)).1.2 rfl]
        · rcases split hb with ⟨hid, hb'⟩ | ⟨j, o0, rfl, hb', h0, hro⟩
          · rw [ρlow hid] at hL
            have q := m1'.blk id b L hb' hL
            obtain ⟨cur, fr, a1, a2, a3, a4⟩ := q.cur
            exact { lo := q.lo, kk := q.kk, kp := q.kp, ro := q.ro, capm := q.capm, len := q.len, ek := q.ek,
                    cur := ⟨cur, fr, a1, a2, a3, fun i e j c he hc => by
                      obtain ⟨u, d1, d2, d3⟩ := a4 i e j c he hc
                      refine ⟨u, d1, d2, ?_⟩
                      split
                      · rename_i hk0; rw [if_pos hk0] at d3; exact d3.mono (fun _ h => h) (fun _ _ => rfl) (Rle.append _ _)
                      · rename_i hk0; rw [if_neg hk0] at d3; exact d3⟩ }
          · rw [ρhigh] at hL
            obtain ⟨b0, rfl, hrb⟩ := (rnmO_none hro).2 b rfl
            have q := (rnmB_br hmap hrb (h2.blk j b0 L h0 hL)).1
            exact { lo := Nat.le_trans hB q.lo, kk := q.kk, kp := q.kp, ro := q.ro, capm := q.capm, len := q.len, ek := q.ek, cur := q.cur }
        · by_cases i1 : id < H.length <;> by_cases i2 : id' < H.length
          · rw [ρlow i1] at q1; rw [ρlow i2] at q2; exact hH.inj id id' L L' q1 q2 hne
          · obtain ⟨j, rfl⟩ : ∃ j, id' = H.length + j := ⟨id' - H.length, by omega⟩
            rw [ρlow i1] at q1; rw [ρhigh] at q2
            have := oldlt q1; have := newge q2; omega
          · obtain ⟨j, rfl⟩ : ∃ j, id = H.length + j := ⟨id - H.length, by omega⟩
            rw [ρhigh] at q1; rw [ρlow i2] at q2
            have := oldlt q2; have := newge q1; omega
          · obtain ⟨j, rfl⟩ : ∃ j, id = H.length + j := ⟨id - H.length, by omega⟩
            obtain ⟨j', rfl⟩ : ∃ j', id' = H.length + j' := ⟨id' - H.length, by omega⟩
            rw [ρhigh] at q1 q2
            exact h2.inj j j' L L' q1 q2 (by omega)
      refine ⟨v, MM, ρ ++ ρ2, rfl, hHR, ⟨os, tape, output, size, fun g hg _ => old g hg, mle, mnew, fun g hg => ?_, Rle.append _ _⟩, rnm_ok hmap fzd a _ v hra hv⟩
      obtain ⟨id, b, L, g1, g2, g3, rfl⟩ := hg
      rcases split g1 with ⟨hid, hb'⟩ | ⟨j, o0, rfl, hb', h0, hro⟩
      · rw [ρlow hid] at g3
        exact wr1 L.g ⟨id, b, L, hb', g2, g3, rfl⟩
      · rw [ρhigh] at g3
        exact .inr (newge g3)
/-- A closed call's answer, in the caller's state. -/
theorem callH_sound {H : Hp} (hH : HR base M ρ H w) (hB : base ≤ w.heap.size) {l : List Nat} {a res : AV} {h H' : Hp} (hr : callH H l (some (a, h)) = some (res, H')) {e : Ending} {w' : World} (ha : Ans w.heap.size (Mu M ρ l) [] [] w a h e w') :
    Ans base M ρ H w res H' e w' := by
  obtain ⟨v, M2, ρ2, rfl, h2, e2, hv⟩ := ha
  have old : ∀ g, g < w.heap.size → w'.heap[g]? = w.heap[g]? := fun g hg => e2.keep g hg Wr.nil
  simp only [callH] at hr
  split at hr
  · rename_i hl
    cases hr
    unfold leafR at hl
    simp only [Bool.and_eq_true] at hl
    exact ⟨v, M, ρ, rfl, hH.extend e2.size old (fun _ h => h) (fun _ _ h => h) (fun g hg => by have := hH.mlt g hg; have := e2.size; omega), ⟨e2.os, e2.tape, e2.output, e2.size, fun g hg _ => old g hg, fun _ h => h, fun _ h => .inl h, fun _ h => .inl h, Rle.refl _⟩, leaf_vr _ a v hl.1 hv⟩
  · split at hr
    · rename_i hf
      rw [Bool.and_eq_true] at hf
      have hM3 : ∀ g, w.heap.size ≤ g → ((M g ∨ (M2 g ∧ w.heap.size ≤ g)) ↔ M2 g) := fun g hg => ⟨fun h => h.elim (fun h => by have := hH.mlt g h; omega) (fun h => h.1), fun h => .inr ⟨h, hg⟩⟩
      have hlt : ∀ g, (M g ∨ (M2 g ∧ w.heap.size ≤ g)) → g < w'.heap.size := fun g hg => hg.elim (fun h => by have := hH.mlt g h; have := e2.size; omega) (fun h => h2.mlt g h.1)
      refine callR_sound hH hB hr rfl e2.os e2.tape e2.output e2.size old (hH.extend (M' := fun g => M g ∨ (M2 g ∧ w.heap.size ≤ g)) e2.size old (fun _ h => .inl h) (fun g hg hm => hm.elim (fun h => h) (fun h => by omega)) hlt) (h2.free hf.2 hM3 hlt) (free_M _ a v hf.1 hv) (fun _ h => .inl h) (fun g hg => hg.elim .inl (fun h => .inr (.inr h.2))) (fun _ h => .inl h)
    · obtain ⟨m1, m2⟩ := hH.mark l
      have m1' : HR base M2 ρ (markRo l H) w' := m1.extend e2.size old e2.mle (fun g hg hm => by
        rcases e2.mnew g hm with h1 | h1 | h1
        · exact h1
        · exact absurd h1 Wr.nil
        · omega) h2.mlt
      refine callR_sound hH hB hr (markRo_len l H) e2.os e2.tape e2.output e2.size old m1' h2 hv (fun g hg => e2.mle g (.inl hg)) (fun g hg => ?_) (fun g hg => m2.wr g hg)
      rcases e2.mnew g hg with h1 | h1 | h1
      · rcases m2.mnew g h1 with h3 | h3 | h3
        · exact .inl h3
        · exact .inr (.inl h3)
        · exact .inr (.inr h3)
      · exact absurd h1 Wr.nil
      · exact .inr (.inr h1)
/-- A step in a region whose order is open: the state's blocks are as they were. -/
structure Soft (M : Nat → Prop) (w : World) (M' : Nat → Prop) (w' : World) : Prop where
  os : w'.os = w.os
  tape : w'.tape = w.tape
  output : w'.output = w.output
  size : w.heap.size ≤ w'.heap.size
  old : ∀ g, g < w.heap.size → w'.heap[g]? = w.heap[g]?
  mle : ∀ g, M g → M' g
  mnew : ∀ g, M' g → M g ∨ w.heap.size ≤ g
theorem Soft.refl (M : Nat → Prop) (w : World) : Soft M w M w := ⟨rfl, rfl, rfl, Nat.le_refl _, fun _ _ => rfl, fun _ h => h, fun _ h => .inl h⟩
theorem Soft.trans {M M' M'' : Nat → Prop} {w w' w'' : World} (h : Soft M w M' w') (k : Soft M' w' M'' w'') : Soft M w M'' w'' :=
  ⟨k.os.trans h.os, k.tape.trans h.tape, k.output.trans h.output, Nat.le_trans h.size k.size, fun g hg => (k.old g (Nat.lt_of_lt_of_le hg h.size)).trans (h.old g hg), fun g hg => k.mle g (h.mle g hg), fun g hg => by
    have := h.size
    rcases k.mnew g hg with h1 | h1
    · exact h.mnew g h1
    · exact .inr (by omega)⟩
theorem Soft.ext {H : Hp} (hH : HR base M ρ H w) {M' : Nat → Prop} {w' : World} (h : Soft M w M' w') : Ext M ρ H w M' ρ H w' :=
  ⟨h.os, h.tape, h.output, h.size, fun g hg _ => h.old g hg, h.mle, fun g hg => (h.mnew g hg).imp (fun x => x) .inr, fun _ h => .inl h, Rle.refl _⟩
theorem Soft.hr {H : Hp} (hH : HR base M ρ H w) {M' : Nat → Prop} {w' : World} (h : Soft M w M' w') (hlt : ∀ g, M' g → g < w'.heap.size) : HR base M' ρ H w' :=
  hH.extend h.size h.old h.mle (fun g hg hm => (h.mnew g hm).elim (fun x => x) (fun x => by omega)) hlt
theorem callSH_sound {H : Hp} (hH : HR base M ρ H w) {l : List Nat} {a res : AV} {h : Hp} (hr : callSH l (some (a, h)) = some res) {e : Ending} {w' : World} (ha : Ans w.heap.size (Mu M ρ l) [] [] w a h e w') :
    ∃ v M', e = .returned v ∧ Soft M w M' w' ∧ (∀ g, M' g → g < w'.heap.size) ∧ VR M' w' ρ res v := by
  obtain ⟨v, M2, ρ2, rfl, h2, e2, hv⟩ := ha
  have old : ∀ g, g < w.heap.size → w'.heap[g]? = w.heap[g]? := fun g hg => e2.keep g hg Wr.nil
  simp only [callSH] at hr
  split at hr
  · rename_i hl
    cases hr
    unfold leafR at hl
    simp only [Bool.and_eq_true] at hl
    exact ⟨v, M, rfl, ⟨e2.os, e2.tape, e2.output, e2.size, old, fun _ h => h, fun _ h => .inl h⟩, fun g hg => by have := hH.mlt g hg; have := e2.size; omega, leaf_vr _ a v hl.1 hv⟩
  · split at hr
    · rename_i hl
      subst hl
      obtain ⟨p, hp, h3⟩ := bind_iff.1 hr
      cases h3
      have hz := fz_ok h2 fzd a v p.1 p.2 hp hv
      refine ⟨v, Mu M2 ρ2 p.2, rfl, ⟨e2.os, e2.tape, e2.output, e2.size, old, fun g hg => .inl (e2.mle g (.inl hg)), fun g hg => ?_⟩, fun g hg => ?_, hz.up ρ⟩
      · rcases hg with hg | ⟨id, _, L, hL, rfl⟩
        · rcases e2.mnew g hg with h1 | h1 | h1
          · rcases h1 with h1 | ⟨x, hx, _⟩
            · exact .inl h1
            · cases hx
          · exact absurd h1 Wr.nil
          · exact .inr h1
        · obtain ⟨b, hb⟩ := h2.back hL
          exact .inr (h2.blk _ b _ hb hL).lo
      · rcases hg with hg | ⟨id, _, L, hL, rfl⟩
        · exact h2.mlt g hg
        · obtain ⟨b, hb⟩ := h2.back hL
          exact (h2.blk _ b _ hb hL).lt
    · split at hr
      · rename_i hf
        rw [Bool.and_eq_true] at hf
        obtain ⟨p, hp, h3⟩ := bind_iff.1 hr
        cases h3
        have hM3 : ∀ g, w.heap.size ≤ g → ((M g ∨ (M2 g ∧ w.heap.size ≤ g)) ↔ M2 g) := fun g hg => ⟨fun h => h.elim (fun h => by have := hH.mlt g h; omega) (fun h => h.1), fun h => .inr ⟨h, hg⟩⟩
        have hlt : ∀ g, (M g ∨ (M2 g ∧ w.heap.size ≤ g)) → g < w'.heap.size := fun g hg => hg.elim (fun h => by have := hH.mlt g h; have := e2.size; omega) (fun h => h2.mlt g h.1)
        have h2' := h2.free hf.2 hM3 hlt
        have hz := fz_ok h2' fzd a v p.1 p.2 hp (free_M _ a v hf.1 hv)
        refine ⟨v, Mu (fun g => M g ∨ (M2 g ∧ w.heap.size ≤ g)) ρ2 p.2, rfl, ⟨e2.os, e2.tape, e2.output, e2.size, old, fun g hg => .inl (.inl hg), fun g hg => ?_⟩, fun g hg => ?_, hz.up ρ⟩
        · rcases hg with hg | ⟨id, _, L, hL, rfl⟩
          · exact hg.imp (fun x => x) (fun x => x.2)
          · obtain ⟨b, hb⟩ := h2.back hL
            exact .inr (h2.blk _ b _ hb hL).lo
        · rcases hg with hg | ⟨id, _, L, hL, rfl⟩
          · exact hlt g hg
          · obtain ⟨b, hb⟩ := h2.back hL
            exact (h2.blk _ b _ hb hL).lt
      · cases hr
theorem fz_args {H : Hp} (hH : HR base M ρ H w) {as as' : List AV} {l : List Nat} (h : fzL (fz H fzd) as = some (as', l)) {vs : Array Value} (hv : Args M ρ w as vs) : Args (Mu M ρ l) [] w as' vs := by
  have hl := fzL_len h
  refine ⟨hl.trans hv.1, fun i c u h1 h2 => ?_⟩
  obtain ⟨c0, hc0⟩ := get_of_len hl.symm h1
  exact fzL_ok (fz_ok hH fzd) h i c0 c u hc0 h1 (hv.2 i c0 u hc0 h2)
theorem callF_sound {E : Env} {n0 : Nat} {G : World → Prop} {C : Clo} (hC : CS P n0 G C) {f : Nat} {as : List AV} {H : Hp} {res : AV} {H' : Hp} (h : callF E C f as H = some (res, H')) : Callable P f ∧
    ∀ (base : Nat) (M : Nat → Prop) (ρ : Rho) (w : World) (vs : Array Value), G w → n0 ≤ base → base ≤ w.heap.size → HR base M ρ H w → Args M ρ w as vs → Calls P f vs w (Ans base M ρ H w res H') := by
  unfold callF at h
  split at h
  · exact hC f as H res H' h
  · cases hq : fzL (fz H fzd) as with
    | none => rw [hq] at h; cases h
    | some q =>
      obtain ⟨as', l⟩ := q
      rw [hq] at h
      simp only [callG] at h
      cases hr : C f as' [] with
      | none => rw [hr] at h; cases h
      | some r =>
        obtain ⟨a, hh⟩ := r
        rw [hr] at h
        obtain ⟨c1, c2⟩ := hC f as' [] a hh hr
        refine ⟨c1, fun base M ρ w vs hG hn hB hH hv => ?_⟩
        exact (c2 w.heap.size (Mu M ρ l) [] w vs hG (Nat.le_trans hn hB) (Nat.le_refl _) (HR.empty _ (hH.mark l).1.mlt) (fz_args hH hq hv)).mono fun e w' ha => callH_sound hH hB h ha
theorem callS_sound {E : Env} {n0 : Nat} {G : World → Prop} {C : Clo} (hC : CS P n0 G C) {f : Nat} {as : List AV} {H : Hp} {res : AV} (h : callS E C f as H = some res) : Callable P f ∧
    ∀ (base : Nat) (M : Nat → Prop) (ρ : Rho) (w : World) (vs : Array Value), G w → n0 ≤ base → base ≤ w.heap.size → HR base M ρ H w → Args M ρ w as vs →
      Calls P f vs w fun e w' => ∃ v M', e = .returned v ∧ Soft M w M' w' ∧ (∀ g, M' g → g < w'.heap.size) ∧ VR M' w' ρ res v := by
  unfold callS at h
  split at h
  · cases h
  · cases hq : fzL (fz H fzd) as with
    | none => rw [hq] at h; cases h
    | some q =>
      obtain ⟨as', l⟩ := q
      rw [hq] at h
      simp only [callSG] at h
      cases hr : C f as' [] with
      | none => rw [hr] at h; cases h
      | some r =>
        obtain ⟨a, hh⟩ := r
        rw [hr] at h
        obtain ⟨c1, c2⟩ := hC f as' [] a hh hr
        refine ⟨c1, fun base M ρ w vs hG hn hB hH hv => ?_⟩
        exact (c2 w.heap.size (Mu M ρ l) [] w vs hG (Nat.le_trans hn hB) (Nat.le_refl _) (HR.empty _ (hH.mark l).1.mlt) (fz_args hH hq hv)).mono fun e w' ha => callSH_sound hH h ha
end Go.Proofs.YtbbnecjaojobfaaDoor.Ev
