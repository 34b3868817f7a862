/- Soundness of the evaluator: what it answers, the program answers. -/
import Derived.Test.YtbbnecjaojobfaaDoorEvRegX
set_option linter.unusedVariables false
set_option linter.unusedSimpArgs false
set_option linter.constructorNameAsVariable false
namespace Go.Proofs.YtbbnecjaojobfaaDoor.Ev
variable {P : Program} {base : Nat} {M : Nat → Prop} {ρ : Rho} {w : World}
def exOf : Ex → Exit
  | .nrm => .normal
  | .ext i => .exit i
  | .ret => .ret
def Lands (base : Nat) (M0 : Nat → Prop) (ρ0 : Rho) (H0 : Hp) (w0 : World) (nt : Nat) (x : Ex) (y : St) : Exit → Act → World → Prop :=
  fun e a w => e = exOf x ∧ ∃ M ρ, Rs base M0 ρ0 H0 w0 nt y a w M ρ
theorem Rs.pack {nt : Nat} {M0 : Nat → Prop} {ρ0 : Rho} {H0 : Hp} {w0 : World} {n0 : Nat} {G : World → Prop} (hE : Entry n0 G base M0 ρ0 H0 w0) {z y : St} {a : Act} (hR : Rs base M0 ρ0 H0 w0 nt z a w M ρ) {li : List Nat} (h : pack H0.length li z = some y) : ∃ ρ', Rs base M0 ρ0 H0 w0 nt y a w M ρ' := by
  have hl : H0.length ≤ z.h.length := by
    rw [hR.hr.len, hE.hr.len]
    cases hn : ρ0.length with
    | zero => omega
    | succ k =>
      have hk : ρ0[k]? = some (ρ0[k]'(by omega)) := List.getElem?_eq_getElem _
      rcases hR.ex.rle _ _ hk with h1 | h1 <;> exact (List.getElem?_eq_some_iff.1 h1).1
  obtain ⟨ρ', p1, p2, p3, p4, _⟩ := pack_sound h hR.hr hl hR.sl
  refine ⟨ρ', { hr := p1, sl := p2, sz := hR.sz, df := hR.df, ex := { os := hR.ex.os, tape := hR.ex.tape, output := hR.ex.output, size := hR.ex.size, keep := hR.ex.keep, mle := hR.ex.mle, mnew := hR.ex.mnew, wr := fun g hg => hR.ex.wr g (p3 g hg), rle := fun id o ho => ?_ } }⟩
  have hid : id < H0.length := by rw [hE.hr.len]; exact (List.getElem?_eq_some_iff.1 ho).1
  rw [p4 id hid]
  exact hR.ex.rle id o ho
theorem region_seq {E : Env} {n0 : Nat} {G : World → Prop} {C : Clo} (hC : CS P n0 G C) {nt : Nat} {ops : Array Oper} {M0 : Nat → Prop} {ρ0 : Rho} {H0 : Hp} {w0 : World} (hE : Entry n0 G base M0 ρ0 H0 w0) {l : List LOper} (hl : mapO (compOper P nt ops) ops.toList = some l) {z y : St} (he : evOps E C 0 l z = some y) {a : Act} (hR : Rs base M0 ρ0 H0 w0 nt z a w M ρ) (id : Nat) :
    (Code.region id ops false).wp P (Lands base M0 ρ0 H0 w0 nt .nrm y) a w := by
  refine wp_region ?_
  have := ops_seq hC hE (Q := Lands base M0 ρ0 H0 w0 nt .nrm y) (ops := ops) l ops.toList 0 z y a w M ρ (fun j => by simp) hl he hR (fun a' w' M' ρ' h => ⟨rfl, M', ρ', h⟩)
  rw [List.range_eq_range', ← Array.length_toList]
  exact this
theorem region_draw {E : Env} {n0 : Nat} {G : World → Prop} {C : Clo} (hm : P.follows .mixedOrders = true) (hC : CS P n0 G C) {nt : Nat} {ops : Array Oper} {M0 : Nat → Prop} {ρ0 : Rho} {H0 : Hp} {w0 : World} (hE : Entry n0 G base M0 ρ0 H0 w0) {l : List LOper} (hl : mapO (compOper P nt ops) ops.toList = some l) (hok : drawOk P ops = true) {z y : St} (he : evOps E C (softLen P ops) l z = some y) {a : Act} (hR : Rs base M0 ρ0 H0 w0 nt z a w M ρ) (id : Nat) :
    (Code.region id ops true).wp P (Lands base M0 ρ0 H0 w0 nt .nrm y) a w := by
  refine wp_region_any hm ?_
  obtain ⟨T, t0, t1, hT⟩ := evOps_trace l (softLen P ops) z y he
  obtain ⟨hll, hlat⟩ := mapO_some hl
  have hn : l.length = ops.size := by rw [hll]; simp
  have hsoft : softLen P ops ≤ ops.size := by
    unfold softLen
    have := (List.takeWhile_sublist (l := ops.toList) (fun o : Oper => !hardOp P o.op)).length_le
    simpa using this
  have hth : ∀ i, i ≤ softLen P ops → (T i).h = z.h := by
    intro i
    induction i with
    | zero => intro _; rw [t0]
    | succ i ih =>
      intro hi
      have hil : i < l.length := by omega
      have := (hT i _ (List.getElem?_eq_getElem hil)).1 (by omega)
      rw [(soft_put this).2]
      exact ih (by omega)
  have hput : ∀ (i : Nat) (o : Oper), ops[i]? = some o → ∃ x, (T (i + 1)).s = putS (T i).s o.dst x := by
    intro i o ho
    have his : i < ops.size := (Array.getElem?_eq_some_iff.1 ho).1
    have hlo : l[i]? = some (l[i]'(by omega)) := List.getElem?_eq_getElem _
    obtain ⟨hd, _⟩ := compOper_some (hlat i o _ (by simpa using ho) hlo)
    by_cases hi : i < softLen P ops
    · obtain ⟨x, hx⟩ := (soft_put ((hT i _ hlo).1 hi)).1
      exact ⟨x, by rw [hx, hd]⟩
    · obtain ⟨x, hx⟩ := one_put ((hT i _ hlo).2 (by omega))
      exact ⟨x, by rw [hx, hd]⟩
  rw [hn] at t1
  have hfin : ∀ a' w' M' ρ', Rs base M0 ρ0 H0 w0 nt (T ops.size) a' w' M' ρ' → Lands base M0 ρ0 H0 w0 nt .nrm y .normal a' w' := fun a' w' M' ρ' h => ⟨rfl, M', ρ', t1 ▸ h⟩
  have hrep : ∀ j, (Array.replicate ops.size false).getD j false = false := by
    intro j
    rw [Array.getD_eq_getD_getElem?, Array.getElem?_replicate]
    split <;> rfl
  refine draw_any hC hE hok hl (T := T) (av := fun i => match (ops[i]?).bind (·.dst) with | none => .x | some d => sget (T (i + 1)).s d) hT (fun i o ho => ?_) (fun i o ho hd => ?_) hfin ops.size (List.range ops.size) _ a _ M ρ (softLen P ops) (by simp) List.nodup_range (fun j hj => by rw [hrep]; simpa using hj)
    { ls := by simp, hr := ?_, ex := ?_, sz := hR.sz, df := hR.df, mge := Nat.le_refl _, kn := hsoft, tail := fun j h1 h2 => (by rw [hrep]; simp; omega), flo := fun h => (by omega), cl := fun j o h => (by rw [hrep] at h; cases h), i1 := fun j o t h => (by rw [hrep] at h; cases h), i2 := fun t _ => ?_ }
  · obtain ⟨x, hx⟩ := hput i o ho
    rw [hx]
    simp only [ho, Option.bind_some]
    cases hdo : o.dst with
    | none => rfl
    | some d => simp [putS, sget]
  · simp [ho, hd]
  · rw [hth _ (Nat.le_refl _)]
    exact HR.world (w := w) rfl hR.hr
  · rw [hth _ (Nat.le_refl _)]
    exact ⟨hR.ex.os, hR.ex.tape, hR.ex.output, hR.ex.size, hR.ex.keep, hR.ex.mle, hR.ex.mnew, hR.ex.wr, hR.ex.rle⟩
  · rw [t0]
    exact VR.world (w := w) (w' := { w with drawn := w.drawn + 1 }) rfl (hR.sl t)
theorem region_drawX {E : Env} {n0 : Nat} {G : World → Prop} {C : Clo} (hm : P.follows .mixedOrders = true) (hC : CS P n0 G C) {nt : Nat} {ops : Array Oper} {M0 : Nat → Prop} {ρ0 : Rho} {H0 : Hp} {w0 : World} (hE : Entry n0 G base M0 ρ0 H0 w0) {l : List LOper} (hl : mapO (compOper P nt ops) ops.toList = some l) (hok : drawX P ops = true) {z y : St} (he : evX E C (l.zip (marksX P ops)) [] 0 z = some y) {a : Act} (hR : Rs base M0 ρ0 H0 w0 nt z a w M ρ) (id : Nat) :
    (Code.region id ops true).wp P (Lands base M0 ρ0 H0 w0 nt .nrm y) a w := by
  refine wp_region_any hm ?_
  obtain ⟨T, t0, t1, hT0, _, hck⟩ := evX_trace _ [] 0 z y he
  obtain ⟨hll, hlat⟩ := mapO_some hl
  have hn : l.length = ops.size := by rw [hll]; simp
  have hmk : ∀ (i : Nat) (o : Oper), ops[i]? = some o → (marksX P ops)[i]? = some (markX P ops (masks ops.toList []) (o, i)) := by
    intro i o ho
    have h1 : ops.toList[i]? = some o := by simpa using ho
    unfold marksX
    simp only []
    rw [List.getElem?_map, List.getElem?_zipIdx, h1]
    simp
  have hzip : ∀ (i : Nat) (o : Oper) (lo : LOper), ops[i]? = some o → l[i]? = some lo → (l.zip (marksX P ops))[i]? = some (lo, hardOp P o.op, (markX P ops (masks ops.toList []) (o, i)).2) := by
    intro i o lo ho hlo
    rw [List.getElem?_zip_eq_some]
    exact ⟨hlo, hmk i o ho⟩
  have hlz : (l.zip (marksX P ops)).length = ops.size := by
    rw [List.length_zip, hn]
    unfold marksX
    simp
  rw [hlz] at t1
  have op_at : ∀ (i : Nat) (lo : LOper), l[i]? = some lo → ∃ o, ops[i]? = some o := by
    intro i lo h
    have : i < l.length := (List.getElem?_eq_some_iff.1 h).1
    exact ⟨_, Array.getElem?_eq_getElem (by omega)⟩
  have hT : ∀ (i : Nat) (lo : LOper), l[i]? = some lo → (hardAt P ops i = false → oneSoft E C lo (T i) = some (T (i + 1))) ∧ (hardAt P ops i = true → oneFull E C lo (T i) = some (T (i + 1))) := by
    intro i lo hlo
    obtain ⟨o, ho⟩ := op_at i lo hlo
    have := hT0 i lo _ _ (hzip i o lo ho hlo)
    rw [← hardAt_eq (P := P) ho] at this
    exact this
  have hsame : ∀ (d i : Nat), i + d ≤ ops.size → (∀ x, i ≤ x → x < i + d → hardAt P ops x = false) → (T (i + d)).h = (T i).h := by
    intro d
    induction d with
    | zero => intro i _ _; rfl
    | succ d ihd =>
      intro i hi hx
      have hil : i + d < l.length := by omega
      have := (hT (i + d) _ (List.getElem?_eq_getElem hil)).1 (hx (i + d) (by omega) (by omega))
      rw [show i + (d + 1) = i + d + 1 by omega, (soft_put this).2]
      exact ihd i (by omega) fun x h1 h2 => hx x h1 (by omega)
  have hput : ∀ (i : Nat) (o : Oper), ops[i]? = some o → ∃ x, (T (i + 1)).s = putS (T i).s o.dst x := by
    intro i o ho
    have his : i < ops.size := (Array.getElem?_eq_some_iff.1 ho).1
    have hlo : l[i]? = some (l[i]'(by omega)) := List.getElem?_eq_getElem _
    obtain ⟨hd, _⟩ := compOper_some (hlat i o _ (by simpa using ho) hlo)
    cases hh : hardAt P ops i with
    | false =>
      obtain ⟨x, hx⟩ := (soft_put ((hT i _ hlo).1 hh)).1
      exact ⟨x, by rw [hx, hd]⟩
    | true =>
      obtain ⟨x, hx⟩ := one_put ((hT i _ hlo).2 hh)
      exact ⟨x, by rw [hx, hd]⟩
  have hflo : ∀ (i k : Nat) (o : Oper) (lo : LOper), hardAt P ops i = false → i < k → k ≤ ops.size → ops[i]? = some o → l[i]? = some lo → (∀ h, i < h → h < k → hardAt P ops h = true → ((masks ops.toList []).getD h 0).testBit i = false) → oneSoft E C lo ⟨(T i).s, (T k).h⟩ = some ⟨(T (i + 1)).s, (T k).h⟩ := by
    intro i k o lo hi hik hkn ho hlo hx
    have hs := (hT i lo hlo).1 hi
    cases hf : floatOp o.op with
    | true => exact float_at (hlat i o lo (by simpa using ho) hlo) hf hs _
    | false =>
      rcases last_hard P ops (k - (i + 1)) (i + 1) with hno | ⟨q, q1, q2, q3, q4⟩
      · have h1 := hsame (k - i) i (by omega) fun x h1 h2 => by
          by_cases hxi : x = i
          · rw [hxi]; exact hi
          · exact hno x (by omega) (by omega)
        rw [show i + (k - i) = k by omega] at h1
        have h2 := (soft_put hs).2
        rw [h1]
        have e1 : (⟨(T i).s, (T i).h⟩ : St) = T i := rfl
        have e2 : (⟨(T (i + 1)).s, (T i).h⟩ : St) = T (i + 1) := by rw [← h2]
        rw [e1, e2]
        exact hs
      · have h1 := hsame (k - (q + 1)) (q + 1) (by omega) fun x h1 h2 => q4 x (by omega) (by omega)
        rw [show q + 1 + (k - (q + 1)) = k by omega] at h1
        rw [h1]
        have hql : q < l.length := by omega
        have hqo : ∃ oq, ops[q]? = some oq := ⟨_, Array.getElem?_eq_getElem (by omega)⟩
        obtain ⟨oq, hoq⟩ := hqo
        have z1 := hzip i o lo ho hlo
        have z2 := hzip q oq _ hoq (List.getElem?_eq_getElem hql)
        rw [← hardAt_eq (P := P) ho, hi] at z1
        rw [← hardAt_eq (P := P) hoq, q3] at z2
        refine hck q i lo _ _ _ (by omega) z1 z2 ?_
        unfold markX
        simp only [hf, Bool.false_eq_true, if_false]
        have := firstB_le (P := P) ops (masks ops.toList []) i (ops.size - (i + 1)) (i + 1) q (by omega) (by omega) fun y h1 h2 h3 => hx y (by omega) (by omega) h3
        omega
  have hfin : ∀ a' w' M' ρ', Rs base M0 ρ0 H0 w0 nt (T ops.size) a' w' M' ρ' → Lands base M0 ρ0 H0 w0 nt .nrm y .normal a' w' := fun a' w' M' ρ' h => ⟨rfl, M', ρ', t1 ▸ h⟩
  have hrep : ∀ j, (Array.replicate ops.size false).getD j false = false := by
    intro j
    rw [Array.getD_eq_getD_getElem?, Array.getElem?_replicate]
    split <;> rfl
  obtain ⟨k0, _, n2, n3, n4⟩ := next_hard P ops ops.size 0 (by omega)
  have hk0 : (T k0).h = z.h := by
    have := hsame k0 0 (by omega) fun x h1 h2 => n4 x h1 (by omega)
    rw [Nat.zero_add, t0] at this
    exact this
  refine draw_anyX hC hE hok hl (T := T) (av := fun i => match (ops[i]?).bind (·.dst) with | none => .x | some d => sget (T (i + 1)).s d) hT (fun i o ho => ?_) (fun i o ho hd => ?_) hflo hfin ops.size (List.range ops.size) _ a _ M ρ k0 (by simp) List.nodup_range (fun j hj => by rw [hrep]; simpa using hj)
    { ls := by simp, hr := ?_, ex := ?_, sz := hR.sz, df := hR.df, kn := n2, kh := n3, tail := fun j h1 h2 => (by rw [hrep]; simp; exact Nat.le_of_not_lt fun h => by have := n4 j (by omega) h; rw [h2] at this; cases this), flo := fun j o ho hs hj => .inr fun h h1 h2 h3 => (by have := n4 h (by omega) h2; rw [h3] at this; cases this), cl := fun j o h => (by rw [hrep] at h; cases h), i1 := fun j o t h => (by rw [hrep] at h; cases h), i2 := fun t _ => ?_ }
  · obtain ⟨x, hx⟩ := hput i o ho
    rw [hx]
    simp only [ho, Option.bind_some]
    cases hdo : o.dst with
    | none => rfl
    | some d => simp [putS, sget]
  · simp [ho, hd]
  · rw [hk0]
    exact HR.world (w := w) rfl hR.hr
  · rw [hk0]
    exact ⟨hR.ex.os, hR.ex.tape, hR.ex.output, hR.ex.size, hR.ex.keep, hR.ex.mle, hR.ex.mnew, hR.ex.wr, hR.ex.rle⟩
  · rw [t0]
    exact VR.world (w := w) (w' := { w with drawn := w.drawn + 1 }) rfl (hR.sl t)
theorem exOf_then {x : Ex} (hx : x ≠ .nrm) {K : Act → World → Prop} {Q : Exit → Act → World → Prop} {a : Act} {w : World} (h : Q (exOf x) a w) : Exit.then K Q (exOf x) a w := by
  cases x with
  | nrm => exact absurd rfl hx
  | ext i => exact h
  | ret => exact h
theorem evC_sound {E : Env} {n0 : Nat} {G : World → Prop} {C : Clo} (hm : P.follows .mixedOrders = true) (hC : CS P n0 G C) {nt N : Nat} {lv : List (Nat × List Nat × List Nat)} {M0 : Nat → Prop} {ρ0 : Rho} {H0 : Hp} {w0 : World} (hE : Entry n0 G base M0 ρ0 H0 w0) :
    ∀ (c : Code) (l : LCode), compC P nt lv c = some l → ∀ (z : St) (x : Ex) (y : St), evC E C (loopN N) H0.length l z = some (x, y) → ∀ (a : Act) (w : World) (M : Nat → Prop) (ρ : Rho), Rs base M0 ρ0 H0 w0 nt z a w M ρ → c.wp P (Lands base M0 ρ0 H0 w0 nt x y) a w := by
  intro c
  induction c with
  | skip =>
    intro l hl z x y he a w M ρ hR
    cases hl
    cases he
    exact wp_skip ⟨rfl, M, ρ, hR⟩
  | region id ops d =>
    intro l hl z x y he a w M ρ hR
    obtain ⟨r, hr, h2⟩ := bind_iff.1 hl
    cases d with
    | false =>
      cases h2
      simp only [evC] at he
      cases ho : evOps E C 0 r z with
      | none => rw [ho] at he; cases he
      | some u => rw [ho] at he; cases he; exact region_seq hC hE hr ho hR id
    | true =>
      simp only [if_true] at h2
      split at h2
      · rename_i hok
        cases h2
        simp only [evC] at he
        cases ho : evOps E C (softLen P ops) r z with
        | none => rw [ho] at he; cases he
        | some u => rw [ho] at he; cases he; exact region_draw hm hC hE hr hok ho hR id
      · split at h2
        · rename_i hokx
          cases h2
          simp only [evC] at he
          cases ho : evX E C (r.zip (marksX P ops)) [] 0 z with
          | none => rw [ho] at he; cases he
          | some u => rw [ho] at he; cases he; exact region_drawX hm hC hE hr hokx ho hR id
        · cases h2
  | seq p q ihp ihq =>
    intro l hl z x y he a w M ρ hR
    obtain ⟨lp, hlp, h2⟩ := bind_iff.1 hl
    obtain ⟨lq, hlq, h3⟩ := bind_iff.1 h2
    cases h3
    simp only [evC] at he
    rcases thn_iff.1 he with ⟨u, h4, h5⟩ | ⟨h4, h5⟩
    · refine wp_seq (wp_mono (ihp lp hlp z .nrm u h4 a w M ρ hR) fun e a' w' hq => ?_)
      obtain ⟨rfl, M', ρ', hR'⟩ := hq
      exact ihq lq hlq u x y h5 a' w' M' ρ' hR'
    · refine wp_seq (wp_mono (ihp lp hlp z x y h4 a w M ρ hR) fun e a' w' hq => ?_)
      obtain ⟨rfl, hq'⟩ := hq
      exact exOf_then h5 ⟨rfl, hq'⟩
  | cond c p q ihp ihq =>
    intro l hl z x y he a w M ρ hR
    obtain ⟨lp, hlp, h2⟩ := bind_iff.1 hl
    obtain ⟨lq, hlq, h3⟩ := bind_iff.1 h2
    cases h3
    simp only [evC] at he
    have hv := vr_lo hR.sl c
    generalize (loOf c).ev z.s = k at he hv
    unfold condR at he
    split at he
    · rename_i b
      have hb : a.eval c = .bool b := vr_v hv
      refine wp_cond hb ?_
      cases b with
      | true => exact ihp lp hlp z x y he a w M ρ hR
      | false => exact ihq lq hlq z x y he a w M ρ hR
    · cases he
  | block id p ihp =>
    intro l hl z x y he a w M ρ hR
    obtain ⟨lp, hlp, h2⟩ := bind_iff.1 hl
    cases h2
    simp only [evC] at he
    cases hp : evC E C (loopN N) H0.length lp z with
    | none => rw [hp] at he; cases he
    | some r =>
      obtain ⟨e, u⟩ := r
      rw [hp] at he
      refine wp_block (wp_mono (ihp lp hlp z e u hp a w M ρ hR) fun e' a' w' hq => ?_)
      obtain ⟨rfl, hq'⟩ := hq
      cases e with
      | nrm => cases he; exact ⟨rfl, hq'⟩
      | ret => cases he; exact ⟨rfl, hq'⟩
      | ext j =>
        simp only [outB] at he
        simp only [exOf, Exit.inBlock]
        by_cases hj : j = id
        · rw [if_pos hj] at he ⊢
          cases he
          exact ⟨rfl, hq'⟩
        · rw [if_neg hj] at he ⊢
          cases he
          exact ⟨rfl, hq'⟩
  | exit id =>
    intro l hl z x y he a w M ρ hR
    cases hl
    cases he
    exact wp_exit ⟨rfl, M, ρ, hR⟩
  | ret =>
    intro l hl z x y he a w M ρ hR
    cases hl
    cases he
    exact wp_ret ⟨rfl, M, ρ, hR⟩
  | loop p ihp =>
    intro l hl z x y he a w M ρ hR
    obtain ⟨lp, hlp, h2⟩ := bind_iff.1 hl
    cases h2
    simp only [evC] at he
    cases hz : pack H0.length (lvAt lv (firstRegion p)).1 z with
    | none => rw [hz] at he; cases he
    | some z1 =>
      rw [hz] at he
      simp only [lpR] at he
      refine wp_loop_rounds N ?_
      have key : ∀ (n : Nat) (u : St) (a : Act) (w : World) (M : Nat → Prop) (ρ : Rho) (x1 : Ex) (v : St), loopN n (fun u => packN H0.length (lvAt lv (firstRegion p)).1 (evC E C (loopN N) H0.length lp u)) u = some (x1, v) → packX H0.length (lvAt lv (firstRegion p)).2 (some (x1, v)) = some (x, y) → Rs base M0 ρ0 H0 w0 nt u a w M ρ →
          Code.rounds P p (Lands base M0 ρ0 H0 w0 nt x y) n a w := by
        intro n
        induction n with
        | zero => intro u a w M ρ x1 v h; cases h
        | succ n ih =>
          intro u a w M ρ x1 v h hx hR
          simp only [loopN] at h
          rw [rounds_succ]
          cases hb : evC E C (loopN N) H0.length lp u with
          | none => rw [hb] at h; cases h
          | some r =>
            obtain ⟨e, t⟩ := r
            rw [hb] at h
            refine wp_mono (ihp lp hlp u e t hb a w M ρ hR) fun e' a' w' hq => ?_
            obtain ⟨rfl, M', ρ', hR'⟩ := hq
            have stop : ∀ e, some (e, t) = some (x1, v) → e ≠ .nrm → Exit.then (Code.rounds P p (Lands base M0 ρ0 H0 w0 nt x y) n) (Lands base M0 ρ0 H0 w0 nt x y) (exOf e) a' w' := by
              intro e h1 hne
              cases h1
              refine exOf_then hne ?_
              simp only [packX] at hx
              cases hy : pack H0.length (lvAt lv (firstRegion p)).2 v with
              | none => rw [hy] at hx; cases hx
              | some y1 =>
                rw [hy] at hx
                cases hx
                obtain ⟨ρ2, h2⟩ := hR'.pack hE hy
                exact ⟨rfl, M', ρ2, h2⟩
            cases e with
            | nrm =>
              simp only [packN] at h
              cases hy : pack H0.length (lvAt lv (firstRegion p)).1 t with
              | none => rw [hy] at h; cases h
              | some t1 =>
                rw [hy] at h
                obtain ⟨ρ2, h2⟩ := hR'.pack hE hy
                exact ih t1 a' w' M' ρ2 x1 v h hx h2
            | ext i => exact stop (.ext i) h (by simp)
            | ret => exact stop .ret h (by simp)
      cases hn : loopN N (fun u => packN H0.length (lvAt lv (firstRegion p)).1 (evC E C (loopN N) H0.length lp u)) z1 with
      | none => rw [hn] at he; cases he
      | some r =>
        obtain ⟨x1, v⟩ := r
        rw [hn] at he
        obtain ⟨ρ2, h2⟩ := hR.pack hE hz
        exact key N z1 a w M ρ2 x1 v hn he h2
  | _ => intro l hl; cases hl
-- ---------------------------------------------------------------- functions
theorem params_get : ∀ (as : List AV) (i t : Nat), sget (params i as) t = if i ≤ t then as.getD (t - i) .x else .x
  | [], i, t => by simp [params, sget]
  | a :: r, i, t => by
    simp only [params, sget]
    by_cases h : i = t
    · subst h; simp
    · rw [if_neg h, params_get r (i + 1) t]
      by_cases h2 : i ≤ t
      · rw [if_pos h2, if_pos (by omega), show t - i = (t - (i + 1)) + 1 by omega]
        rfl
      · rw [if_neg h2, if_neg (by omega)]
def resF (tmps : Array Value) : ResultVar → Sem Value
  | .tmp t => pure (tmps.getD t undef)
  | .cell a t => do loadVar t (← asAddr (tmps.getD a undef))
theorem sure_as {pv : Value} {t : TypeId} {v : Value} {w w' : World} (h : (Instr.loadAt t pv).run P w = .ok v w') : (do loadVar t (← asAddr pv) : Sem Value).run P w = .ok v w' := by
  cases pv with
  | pointer a =>
    cases a with
    | some a => simpa [Instr.loadAt, Instr.sureAddr, asAddr] using h
    | none => simp [Instr.loadAt, Instr.sureAddr] at h
  | _ => simp [Instr.loadAt, Instr.sureAddr] at h
theorem res_one {z : St} {a : Act} (hH : HR base M ρ z.h w) (hS : SL M ρ w z.s a) {r : ResultVar} {lr : LRes} (hc : compRes P r = some lr) {x : AV} (he : resOne z lr = some x) : ∃ v, (resF a.tmps r).run P w = .ok v w ∧ VR M w ρ x v := by
  cases r with
  | tmp t =>
    cases hc
    cases he
    exact ⟨_, rfl, hS t⟩
  | cell p t =>
    obtain ⟨k, hk, h2⟩ := bind_iff.1 hc
    obtain ⟨ag, hag, h3⟩ := bind_iff.1 h2
    cases h3
    obtain ⟨i, hi, rfl, _⟩ := szOf_some hk
    obtain ⟨d, hd, rfl⟩ := isAg_some hag
    obtain ⟨v, h4, h5⟩ := loadA_sound (P := P) hH hi hd (hS p) he
    exact ⟨v, sure_as h4, h5⟩
theorem res_all {z : St} {a : Act} (hH : HR base M ρ z.h w) (hS : SL M ρ w z.s a) : ∀ (rs : List ResultVar) (ls : List LRes) (l : List AV), mapO (compRes P) rs = some ls → resAll z ls = some l → ∃ vs : List Value, (rs.mapM (resF a.tmps)).run P w = .ok vs w ∧ l.length = vs.length ∧ ∀ (i : Nat) (c : AV) (u : Value), l[i]? = some c → vs[i]? = some u → VR M w ρ c u
  | [], ls, l, h1, h2 => by
    cases h1
    cases h2
    exact ⟨[], by simp, rfl, fun i c u h => by simp at h⟩
  | r :: rs, ls, l, h1, h2 => by
    simp only [mapO] at h1
    obtain ⟨lr, h3, h4⟩ := bind_iff.1 h1
    obtain ⟨lt, h5, h6⟩ := bind_iff.1 h4
    cases h6
    simp only [resAll] at h2
    obtain ⟨x, h7, h8⟩ := bind_iff.1 h2
    obtain ⟨xs, h9, h10⟩ := bind_iff.1 h8
    cases h10
    obtain ⟨v, v1, v2⟩ := res_one hH hS h3 h7
    obtain ⟨vs, k1, k2, k3⟩ := res_all hH hS rs lt xs h5 h9
    refine ⟨v :: vs, ?_, by simp [k2], fun i c u h1 h2 => ?_⟩
    · rw [List.mapM_cons, Sem.run_bind, v1]
      simp only [Result.andThen_ok, Sem.run_bind, k1, Sem.run_pure]
    · cases i with
      | zero => simp at h1 h2; subst h1; subst h2; exact v2
      | succ i => exact k3 i c u (by simpa using h1) (by simpa using h2)
def tupF (vs : Array Value) : Value := if h : vs.size = 1 then vs[0] else .tuple vs
theorem results_eq (fn : Func) (tmps : Array Value) : results fn tmps = (List.toArray <$> fn.results.toList.mapM (resF tmps)) >>= (fun vs => pure (tupF vs)) := by
  rw [← Array.mapM_eq_mapM_toList]
  rfl
theorem results_sound {z : St} {a : Act} (hH : HR base M ρ z.h w) (hS : SL M ρ w z.s a) {fn : Func} {ls : List LRes} {l : List AV} (h1 : mapO (compRes P) fn.results.toList = some ls) (h2 : resAll z ls = some l) : ∃ v, (results fn a.tmps).run P w = .ok v w ∧ VR M w ρ (resOf l) v := by
  obtain ⟨vs, k1, k2, k3⟩ := res_all hH hS _ _ _ h1 h2
  refine ⟨tupF vs.toArray, ?_, ?_⟩
  · rw [results_eq]
    simp [Sem.run_bind, k1]
  · match l, vs, k2, k3 with
    | [], [], _, k3 => exact .tup rfl (fun i c u h => by simp at h)
    | [x], [v], _, k3 => exact k3 0 x v rfl rfl
    | x :: y :: l, v :: u :: vs, k2, k3 => exact .tup (by simpa using k2) (fun i c q h4 h5 => k3 i c q h4 (by simpa using h5))
theorem fn_sound {E : Env} {n0 : Nat} {G : World → Prop} (hG : Low n0 G) {C : Clo} (hm : P.follows .mixedOrders = true) (hC : CS P n0 G C) {N : Nat} {f : Nat} {fn : Func} (hf : P.funcs[f]? = some fn) {lv : List (Nat × List Nat × List Nat)} {lf : LFunc} (hcf : compF P lv fn = some lf) {as : List AV} {H : Hp} {res : AV} {H' : Hp} (he : runF E C (loopN N) lf as H = some (res, H')) :
    Callable P f ∧ ∀ (base : Nat) (M : Nat → Prop) (ρ : Rho) (w : World) (vs : Array Value), G w → n0 ≤ base → base ≤ w.heap.size → HR base M ρ H w → Args M ρ w as vs → Calls P f vs w (Ans base M ρ H w res H') := by
  unfold compF at hcf
  split at hcf
  · rename_i hg
    simp only [Bool.and_eq_true, decide_eq_true_eq] at hg
    obtain ⟨c, hbody, h2⟩ := bind_iff.1 hcf
    obtain ⟨b, hb, h3⟩ := bind_iff.1 h2
    obtain ⟨ls, hls, h4⟩ := bind_iff.1 h3
    cases h4
    refine ⟨⟨fn, hf, by rw [hbody]; rfl, hg.2⟩, fun base M ρ w vs hGw hn hB hH hA => ?_⟩
    unfold runF at he
    simp only at he
    split at he
    · cases he
    · rename_i hlen
      have hlen' : vs.size = fn.params.size + fn.nfree := by rw [← hA.1]; omega
      refine calls_of_wp hf hbody ?_
      have hE : Entry n0 G base M ρ H w := ⟨hG, hGw, hn, hB, hH⟩
      cases hx : evC E C (loopN N) H.length b ⟨params 0 as, H⟩ with
      | none => rw [hx] at he; cases he
      | some r =>
        obtain ⟨x, y⟩ := r
        rw [hx] at he
        have hR : Rs base M ρ H w fn.ntmps ⟨params 0 as, H⟩ { tmps := vs ++ Array.replicate (fn.ntmps - vs.size) undef, defers := [] } w M ρ := by
          refine { hr := hH, sl := fun t => ?_, ex := Ext.refl _ _ _ _, sz := by simp; omega, df := rfl }
          simp only [params_get, Nat.zero_le, if_true, Nat.sub_zero]
          by_cases ht : t < as.length
          · have h1 : as[t]? = some as[t] := List.getElem?_eq_getElem ht
            have ht2 : t < vs.size := by rw [← hA.1]; exact ht
            have h2 : vs.toList[t]? = some vs[t] := by simp [ht2]
            rw [List.getD_eq_getElem?_getD, h1, Array.getD_eq_getD_getElem?, Array.getElem?_append_left ht2, Array.getElem?_eq_getElem ht2]
            exact hA.2 t _ _ h1 h2
          · rw [List.getD_eq_getElem?_getD, List.getElem?_eq_none (by omega)]
            exact .x
        refine wp_mono (evC_sound hm hC hE c b hb _ x y hx _ w M ρ hR) fun e a' w' hq => ?_
        obtain ⟨rfl, M', ρ', hR'⟩ := hq
        have done : finL H.length y.h (resAll y ls) = some (res, H') → a'.defers = [] ∧ ∃ v, (results fn a'.tmps).run P w' = .ok v w' ∧ Ans base M ρ H w res H' (.returned v) w' := by
          intro he
          refine ⟨hR'.df, ?_⟩
          cases hra : resAll y ls with
          | none => rw [hra] at he; cases he
          | some l =>
            rw [hra] at he
            simp only [finL] at he
            obtain ⟨v, v1, v2⟩ := results_sound hR'.hr hR'.sl hls hra
            cases hp : packH H.length y.h (ids fzd (resOf l)) with
            | none => rw [hp] at he; cases he
            | some q =>
              obtain ⟨acc, H2⟩ := q
              rw [hp] at he
              simp only [finA] at he
              cases hr : rnm (newId H.length acc) fzd (resOf l) with
              | none => rw [hr] at he; cases he
              | some r2 =>
                rw [hr] at he
                cases he
                have hl : H.length ≤ y.h.length := by
                  rw [hR'.hr.len, hH.len]
                  cases hn : ρ.length with
                  | zero => omega
                  | succ k =>
                    have hk : ρ[k]? = some (ρ[k]'(by omega)) := List.getElem?_eq_getElem _
                    rcases hR'.ex.rle _ _ hk with h1 | h1 <;> exact (List.getElem?_eq_some_iff.1 h1).1
                obtain ⟨p1, p2, p3, p4⟩ := packH_sound hR'.hr hl hp
                refine ⟨v, v1, v, M', _, rfl, p1, ⟨hR'.ex.os, hR'.ex.tape, hR'.ex.output, hR'.ex.size, hR'.ex.keep, hR'.ex.mle, hR'.ex.mnew, fun g hg => hR'.ex.wr g (p3 g hg), fun id o ho => ?_⟩, rnm_ok p2 fzd _ _ _ hr v2⟩
                have hid : id < H.length := by rw [hH.len]; exact (List.getElem?_eq_some_iff.1 ho).1
                rw [p4 id hid]
                exact hR'.ex.rle id o ho
        cases x with
        | nrm => exact done he
        | ret => exact done he
        | ext i => cases he
  · cases hcf
/-- An environment that tells the truth of a program. -/
structure EnvOk (P : Program) (n0 : Nat) (G : World → Prop) (E : Env) : Prop where
  fn : ∀ f lf, E.fn f = some lf → ∃ fn lv, P.funcs[f]? = some fn ∧ compF P lv fn = some lf
  prim : ∀ f p, E.prim f = some p → ∀ (as : List AV) (H : Hp) (res : AV) (H' : Hp), p as H = some (res, H') → Callable P f ∧
    ∀ (base : Nat) (M : Nat → Prop) (ρ : Rho) (w : World) (vs : Array Value), G w → n0 ≤ base → base ≤ w.heap.size → HR base M ρ H w → Args M ρ w as vs → Calls P f vs w (Ans base M ρ H w res H')
theorem evK_sound {E : Env} {n0 : Nat} {G : World → Prop} (hG : Low n0 G) (hm : P.follows .mixedOrders = true) (hE : EnvOk P n0 G E) : ∀ n, CS P n0 G (evK E n) := by
  intro n
  induction n with
  | zero => intro f as H res H' h; cases h
  | succ n ih =>
    intro f as H res H' h
    simp only [evK, evF] at h
    split at h
    · rename_i p hp
      exact hE.prim f p hp as H res H' h
    · obtain ⟨lf, h1, h2⟩ := bind_iff.1 h
      obtain ⟨fn, lv, h3, h4⟩ := hE.fn f lf h1
      exact fn_sound hG hm ih h3 h4 h2
/-- What the evaluator answers, the program answers. -/
theorem ev_sound {E : Env} {n0 : Nat} {G : World → Prop} (hG : Low n0 G) (hm : P.follows .mixedOrders = true) (hE : EnvOk P n0 G E) : CS P n0 G (ev E) := by
  intro f as H res H' h
  obtain ⟨n, hn⟩ := ev_iff.1 h
  exact evK_sound hG hm hE n f as H res H' hn
end Go.Proofs.YtbbnecjaojobfaaDoor.Ev
