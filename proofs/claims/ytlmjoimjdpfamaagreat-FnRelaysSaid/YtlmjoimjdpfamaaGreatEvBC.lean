/- One operation and what stands behind it; regions in the text's order. -/
import Derived.Test.YtlmjoimjdpfamaaGreatEvBB
import Derived.WalkKit
import Derived.ProofKit
import Derived.OpenShut
import Derived.ChangeArms
import Derived.Lib.LaidTab
import Derived.DataElems
set_option linter.unusedVariables false
set_option linter.unusedSimpArgs false
set_option linter.constructorNameAsVariable false
set_option linter.unnecessarySimpa false
namespace Go.Proofs.YtlmjoimjdpfamaaGreat.Ev
variable {P : Program} {base : Nat} {M : Nat → Prop} {ρ : Rho} {w : World}
theorem wanted_eq {ops : Array Oper} {o : Oper} {g : Option (Nat × Bool)} (hg : guardOf ops o.guard = some g) {s : List (Nat × AV)} {a : Act} (hv : ∀ t b, g = some (t, b) → VR M w ρ (sget s t) (a.tmps.getD t undef)) {p : Bool} (hp : wants s g = some p) :
    Region.wanted o (yielded ops a.tmps) = p := by
  unfold Region.wanted
  cases hgd : o.guard with
  | none =>
    rw [hgd] at hg
    cases hg
    simp only [wants, Option.some.injEq] at hp
    exact hp
  | some q =>
    obtain ⟨j, b⟩ := q
    rw [hgd] at hg
    simp only [guardOf] at hg
    split at hg
    · rename_i t ht
      cases hg
      have hv' := hv t b rfl
      simp only [wants] at hp
      unfold asB' at hp
      split at hp
      · rename_i c hc
        rw [hc] at hv'
        have he := vr_v hv'
        cases hp
        have hlt : t < a.tmps.size := by
          apply Nat.lt_of_not_le
          intro hle
          rw [Array.getD_eq_getD_getElem?, Array.getElem?_eq_none hle] at he
          cases he
        have hg' : a.tmps[t]? = some (.bool c) := by
          rw [Array.getD_eq_getD_getElem?, Array.getElem?_eq_getElem hlt] at he
          rw [Array.getElem?_eq_getElem hlt]
          simpa using he
        simp only [yielded, ht, Option.bind_some, hg']
        cases c <;> cases b <;> rfl
      · rename_i c hc
        rw [hc] at hv'
        have he := vr_v hv'
        cases hp
        have hy : yielded ops a.tmps j = none := by
          simp only [yielded, ht, Option.bind_some]
          by_cases hlt : t < a.tmps.size
          · rw [Array.getD_eq_getD_getElem?, Array.getElem?_eq_getElem hlt] at he
            have he' : a.tmps[t] = .tuple c := he
            rw [Array.getElem?_eq_getElem hlt, he']
          · rw [Array.getElem?_eq_none (Nat.le_of_not_lt hlt)]
        show (yielded ops a.tmps j == some b) = false
        rw [hy]
        rfl
      · cases hp
    · cases hg
/-- What an operation that is wanted, or not, leaves to the next. -/
structure Nx (base : Nat) (M : Nat → Prop) (ρ : Rho) (H : Hp) (w : World) (a : Act) (d : Option Nat) (av : AV) (H' : Hp) (a' : Act) (w' : World) (M' : Nat → Prop) (ρ' : Rho) : Prop where
  hr : HR base M' ρ' H' w'
  ex : Ext M ρ H w M' ρ' H' w'
  at_ : ∃ v, a' = a.put d v ∧ VR M' w' ρ' av v
theorem compOper_some {nt : Nat} {ops : Array Oper} {o : Oper} {lo : LOper} (h : compOper P nt ops o = some lo) : lo.dst = o.dst ∧ (∀ t, o.dst = some t → t < nt) ∧ guardOf ops o.guard = some lo.g ∧ (compOp P o.op = some lo.op ∨ lo.op = .bad) := by
  unfold compOper at h
  by_cases hd : dstOk nt o.dst = true
  · rw [if_pos hd] at h
    obtain ⟨g, hg, h2⟩ := bind_iff.1 h
    cases h2
    refine ⟨rfl, fun t ht => ?_, hg, ?_⟩
    rotate_left
    · cases hl : compOp P o.op with
      | none => exact .inr rfl
      | some l => exact .inl rfl
    rw [ht] at hd
    simpa [dstOk] using hd
  · rw [if_neg hd] at h; cases h
theorem one_full {E : Env} {n0 : Nat} {G : World → Prop} {C : Clo} (hC : CS P n0 G C) {nt : Nat} {ops : Array Oper} {i : Nat} {o : Oper} (hi : ops[i]? = some o) {lo : LOper} (hcomp : compOper P nt ops o = some lo) {z y : St} (he : oneFull E C lo z = some y)
    (hG : G w) (hn : n0 ≤ base) (hB : base ≤ w.heap.size) (hH : HR base M ρ z.h w) {a : Act} (hS : Opd M ρ w z.s a o.op.operands.toList) (hgv : ∀ t b, lo.g = some (t, b) → VR M w ρ (sget z.s t) (a.tmps.getD t undef)) {K : Act → World → Prop} {Q : Exit → Act → World → Prop}
    (hK : ∀ av a' w' M' ρ', y.s = putS z.s lo.dst av → Nx base M ρ z.h w a lo.dst av y.h a' w' M' ρ' → K a' w') : wpOp P ops Q i K a w := by
  obtain ⟨hd, hnt, hg, hl0⟩ := compOper_some hcomp
  unfold wpOp
  rw [hi]
  simp only
  unfold oneFull at he
  cases hw : wants z.s lo.g with
  | none => rw [hw] at he; cases he
  | some p =>
    rw [hw] at he
    rw [wanted_eq hg hgv hw]
    simp only [oneFW] at he
    cases p with
    | false =>
      simp only [Bool.false_eq_true, if_false] at he ⊢
      cases he
      exact hK (.v undef) _ w M ρ rfl ⟨hH, Ext.refl _ _ _ _, undef, by rw [hd], .v⟩
    | true =>
      simp only [if_true] at he ⊢
      left
      cases hf : fullOp E C z lo.op with
      | none => rw [hf] at he; cases he
      | some r =>
        obtain ⟨av, H'⟩ := r
        have hl : compOp P o.op = some lo.op := hl0.resolve_right (fun hb => by rw [hb] at hf; cases hf)
        rw [hf] at he
        cases he
        by_cases hcall : isCall lo.op = true
        · obtain ⟨c, x, hop, hcal, hargs, hcase⟩ := callee_of hS hl hcall
          have fin : ∀ {f : Nat} {as : List AV} {vs : Array Value}, callF E C f as z.h = some (av, H') → Args M ρ w as vs → (Callable P f → (execOp a.eval o).run P w = .ok (.enter f vs) w) → o.wp P a w K Q := by
            intro f as vs hcf hvs hex
            obtain ⟨h1, h2⟩ := callF_sound hC hcf
            unfold Oper.wp
            rw [hex h1, Oper.upon_enter]
            refine (h2 base M ρ w vs hG hn hB hH hvs).mono ?_
            rintro e w' ⟨v, M', ρ', rfl, a1, a2, a3⟩
            exact hK av _ w' M' ρ' rfl ⟨a1, a2, v, by rw [hd], a3⟩
          rcases hcase with ⟨f, hlf, hx⟩ | ⟨hlf, hx⟩
          · rw [hlf] at hf
            refine fin (f := f) hf hargs (fun hcl => ?_)
            rw [exec_call hop hcal hx hcl]
            simp
          · rw [hlf] at hf
            simp only [fullOp] at hf
            unfold callVF at hf
            split at hf
            · rename_i g fa fb hfx
              rw [hfx] at hx
              obtain ⟨vf, hvf⟩ : ∃ vf, a.eval x = vf := ⟨_, rfl⟩
              rw [hvf] at hx
              cases hx with
              | @fn _ _ _ _ ua ub hla hlb ha hb =>
                exact fin hf ((Args.append ⟨hla, ha⟩ hargs).append ⟨hlb, hb⟩) (fun hcl => exec_call hop hcal hvf hcl)
            · cases hf
        · have hcall' : isCall lo.op = false := by simpa using hcall
          obtain ⟨v, w', M', ρ', hrun, a1, a2, a3⟩ := full_gives hH hB hS hl hcall' hf
          unfold Oper.wp
          rcases hrun with hrun | ⟨hrun, rfl⟩
          · rw [hrun, Oper.upon_value]
            exact hK av _ w' M' ρ' rfl ⟨a1, a2, v, by rw [hd], a3⟩
          · rw [hrun, Oper.upon_skip]
            exact hK av _ w' M' ρ' rfl ⟨a1, a2, undef, by rw [hd], a3⟩
/-- The parts of a row of literals that stands by itself. -/
theorem bslice_soft {H : Hp} (hH : HR base M ρ H w) {s : List (Nat × AV)} {a : Act} {t : TypeId} {n : Nat} {parts : Array (Nat × Operand)} (hS : Opd M ρ w s a (parts.toList.map (·.2))) {e k : Nat} {los : List LO} (hc : compOp P (.buildSlice t n parts) = some (.bslice e k los))
    {r : AV} (h : bsliceS k (fzL (fz H fzd) (evs s los)) = some r) : ∃ v w' M', (Instr.buildSlice t n (parts.map fun (i, x) => (i, a.eval x))).run P w = .ok v w' ∧ Soft M w M' w' ∧ (∀ g, M' g → g < w'.heap.size) ∧ VR M' w' ρ r v := by
  simp only [compOp] at hc
  split at hc
  · rename_i e' hu
    obtain ⟨k', hk, h2⟩ := bind_iff.1 hc
    obtain ⟨zs, hz, h3⟩ := bind_iff.1 h2
    split at h3
    · rename_i hcd
      cases h3
      obtain ⟨i, hi, rfl, hk0⟩ := szOf_some hk
      obtain ⟨i', z, hi', hiz, hsz, rfl, hone⟩ := zeroOf_some hz
      rw [hi] at hi'
      cases hi'
      cases hq : fzL (fz H fzd) (evs s (parts.toList.map fun p => loOf p.2)) with
      | none => rw [hq] at h; cases h
      | some q =>
        obtain ⟨as, l⟩ := q
        rw [hq] at h
        simp only [bsliceS] at h
        split at h
        · rename_i hok
          obtain ⟨hok, rfl⟩ := hok
          cases h
          have hlen : as.length = n := by
            have h5 := fzL_len hq
            have h6 := congrArg List.length hcd.2.2
            simp [evs] at h5 h6
            omega
          have hpl : (parts.map fun (i, x) => (i, a.eval x)).toList.map (·.1) = List.range n := by rw [← hcd.2.2]; simp
          obtain ⟨Z, r1, r2, r3⟩ := bslice_run (M := M) (w := w) hu hi hiz hsz hone hk0 hcd.2.1 hlen hok hpl (fun x av q ha hq' => by
            have hps : (parts.map fun (i, x) => (i, a.eval x)).toList = parts.toList.map fun p => (p.1, a.eval p.2) := by simp
            rw [hps, List.getElem?_map] at hq'
            cases hpx : parts.toList[x]? with
            | none => rw [hpx] at hq'; cases hq'
            | some p0 =>
              rw [hpx] at hq'
              cases hq'
              refine (fzL_ok (fz_ok hH fzd) hq x _ av _ ?_ ha (hS p0.2 (List.mem_map_of_mem (List.mem_of_getElem? hpx)))).wide (fun g hg => ?_)
              · simp [evs, hpx]
              · rcases hg with hg | ⟨y, hy, _⟩
                · exact hg
                · cases hy)
          have old : ∀ g, g < w.heap.size → (w.alloc (.cells Z e)).heap[g]? = w.heap[g]? := fun g hg => RowKit.Below.heap_alloc w _ g hg
          have hsize : (w.alloc (.cells Z e)).heap.size = w.heap.size + 1 := by show (w.heap.push _).size = _; simp
          have hM' : ∀ g, (M g ∨ g = w.heap.size) → g < (w.alloc (.cells Z e)).heap.size := fun g hg => by
            rcases hg with hg | hg
            · have := hH.mlt g hg; omega
            · omega
          refine ⟨_, _, fun g => M g ∨ g = w.heap.size, r1, ⟨rfl, rfl, rfl, by omega, old, fun _ h => .inl h, fun g hg => hg.imp (fun h => h) (fun h => by omega)⟩, hM', ?_⟩
          have key : VR (fun g => M g ∨ g = w.heap.size) (w.alloc (.cells Z e)) ρ (.lst i.size as) (.slice (some ⟨w.heap.size, 0, none⟩) as.length n) := by
            refine .lst (fun x j => Z.getD (x * i.size + j) undef) (by omega) (fun _ => ⟨_, rfl, rfl, .inr rfl⟩) (fun x el hx => (elemOk_some (okL_at hok x el hx)).1) (fun q hq x el j c hx hc => ?_) (fun x el j c hx hc => ?_)
            · cases hq
              obtain ⟨u, u1, u2, _⟩ := r3 x el j c hx hc
              rw [Array.getD_eq_getD_getElem?, u1]
              refine ⟨?_, u2⟩
              rw [Nat.zero_add, cell_of_row _ w.heap.size _ Z e (0, 0) (heap_alloc_new w _)]
              exact u1
            · obtain ⟨u, u1, u2, u3⟩ := r3 x el j c hx hc
              rw [Array.getD_eq_getD_getElem?, u1]
              exact u3.mono (fun _ h => .inl h) (fun g hg => old g (hH.mlt g hg)) (Rle.refl _)
          rwa [hlen] at key
        · cases h
    · cases h3
  · cases hc
theorem one_soft {E : Env} {n0 : Nat} {G : World → Prop} {C : Clo} (hC : CS P n0 G C) {nt : Nat} {ops : Array Oper} {i : Nat} {o : Oper} (hi : ops[i]? = some o) {lo : LOper} (hcomp : compOper P nt ops o = some lo) {z y : St} (he : oneSoft E C lo z = some y)
    (hG : G w) (hn : n0 ≤ base) (hB : base ≤ w.heap.size) (hH : HR base M ρ z.h w) {a : Act} (hS : Opd M ρ w z.s a o.op.operands.toList) (hgv : ∀ t b, lo.g = some (t, b) → VR M w ρ (sget z.s t) (a.tmps.getD t undef)) {K : Act → World → Prop} {Q : Exit → Act → World → Prop}
    (hK : ∀ av a' w' M', y.s = putS z.s lo.dst av → HR base M' ρ z.h w' → Soft M w M' w' → (∃ v, a' = a.put lo.dst v ∧ VR M' w' ρ av v) → K a' w') : y.h = z.h ∧ wpOp P ops Q i K a w := by
  obtain ⟨hd, hnt, hg, hl0⟩ := compOper_some hcomp
  unfold wpOp
  rw [hi]
  simp only
  unfold oneSoft at he
  cases hw : wants z.s lo.g with
  | none => rw [hw] at he; cases he
  | some p =>
    rw [hw] at he
    rw [wanted_eq hg hgv hw]
    simp only [oneSW] at he
    cases p with
    | false =>
      simp only [Bool.false_eq_true, if_false] at he ⊢
      cases he
      exact ⟨rfl, hK (.v undef) _ w M rfl hH (Soft.refl _ _) ⟨undef, by rw [hd], .v⟩⟩
    | true =>
      simp only [if_true] at he ⊢
      cases hf : softOp E C z lo.op with
      | none => rw [hf] at he; cases he
      | some av =>
        have hl : compOp P o.op = some lo.op := hl0.resolve_right (fun hb => by rw [hb] at hf; cases hf)
        rw [hf] at he
        cases he
        refine ⟨rfl, .inl ?_⟩
        by_cases hcall : isCall lo.op = true
        · obtain ⟨c, x, hop, hcal, hargs, hcase⟩ := callee_of hS hl hcall
          have fin : ∀ {f : Nat} {as : List AV} {vs : Array Value}, callS E C f as z.h = some av → Args M ρ w as vs → (Callable P f → (execOp a.eval o).run P w = .ok (.enter f vs) w) → o.wp P a w K Q := by
            intro f as vs hcf hvs hex
            obtain ⟨h1, h2⟩ := callS_sound hC hcf
            unfold Oper.wp
            rw [hex h1, Oper.upon_enter]
            refine (h2 base M ρ w vs hG hn hB hH hvs).mono ?_
            rintro e w' ⟨v, M', rfl, a1, a2, a3⟩
            exact hK av _ w' M' rfl (a1.hr hH a2) a1 ⟨v, by rw [hd], a3⟩
          rcases hcase with ⟨f, hlf, hx⟩ | ⟨hlf, hx⟩
          · rw [hlf] at hf
            refine fin (f := f) hf hargs (fun hcl => ?_)
            rw [exec_call hop hcal hx hcl]
            simp
          · rw [hlf] at hf
            simp only [softOp] at hf
            unfold callVS at hf
            split at hf
            · rename_i g fa fb hfx
              rw [hfx] at hx
              obtain ⟨vf, hvf⟩ : ∃ vf, a.eval x = vf := ⟨_, rfl⟩
              rw [hvf] at hx
              cases hx with
              | @fn _ _ _ _ ua ub hla hlb ha hb =>
                exact fin hf ((Args.append ⟨hla, ha⟩ hargs).append ⟨hlb, hb⟩) (fun hcl => exec_call hop hcal hvf hcl)
            · cases hf
        · have hcall' : isCall lo.op = false := by simpa using hcall
          by_cases hbs : ∃ e k ps, lo.op = .bslice e k ps
          · obtain ⟨e, k, ps, hps⟩ := hbs
            rw [hps] at hl hf
            have hex : ∃ t n parts, o.op = .buildSlice t n parts := by
              cases hop : o.op with
              | buildSlice t n parts => exact ⟨t, n, parts, rfl⟩
              | call c =>
                exfalso
                rw [hop] at hl
                have hl' : compCall P c = some (.bslice e k ps) := hl
                unfold compCall at hl'
                split at hl'
                · cases hl'
                · cases hl'
                · split at hl'
                  · split at hl' <;> cases hl'
                  · cases hl'
                · split at hl'
                  · split at hl' <;> cases hl'
                  · cases hl'
                · split at hl'
                  · split at hl'
                    · split at hl'
                      · obtain ⟨_, _, h2⟩ := bind_iff.1 hl'
                        obtain ⟨_, _, h3⟩ := bind_iff.1 h2
                        obtain ⟨_, _, h4⟩ := bind_iff.1 h3
                        split at h4 <;> cases h4
                      · cases hl'
                    · split at hl'
                      · obtain ⟨_, _, h2⟩ := bind_iff.1 hl'
                        obtain ⟨_, _, h3⟩ := bind_iff.1 h2
                        obtain ⟨_, _, h4⟩ := bind_iff.1 h3
                        cases h4
                      · cases hl'
                  · cases hl'
                · split at hl'
                  · split at hl'
                    · split at hl'
                      · obtain ⟨_, _, h2⟩ := bind_iff.1 hl'
                        split at h2 <;> cases h2
                      · cases hl'
                    · cases hl'
                  · cases hl'
                · cases hl'
                · cases hl'
                · cases hl'
              | _ =>
                exfalso
                rw [hop] at hl
                exact no_bslice hl (by intro t n parts h; cases h) (by intro c h; cases h)
            obtain ⟨t, n, parts, hop⟩ := hex
            rw [hop] at hl
            obtain ⟨v, w', M', r1, r2, r3, r4⟩ := bslice_soft hH (fun x hx => hS x (by rw [hop]; simpa [Op.operands] using hx)) hl hf
            unfold Oper.wp
            have hrun : (execOp a.eval o).run P w = .ok (.value v) w' := by
              have : execOp a.eval o = (do pure (.value (← Instr.buildSlice t n (parts.map fun (i, x) => (i, a.eval x)))) : Sem Next) := by unfold execOp; rw [hop]
              rw [this]
              exact run_value r1
            rw [hrun, Oper.upon_value]
            exact hK av _ w' M' rfl (r2.hr hH r3) r2 ⟨v, by rw [hd], r4⟩
          · have hpure : softOp E C z lo.op = pureOp z lo.op := by
              cases hlo : lo.op with
              | bslice e k ps => exact absurd ⟨e, k, ps, hlo⟩ hbs
              | call f as => rw [hlo] at hcall'; cases hcall'
              | callv f as => rw [hlo] at hcall'; cases hcall'
              | _ => rfl
            rw [hpure] at hf
            obtain ⟨v, h1, h2⟩ := pure_sound hH hS hl hf
            unfold Oper.wp
            rw [h1, Oper.upon_value]
            exact hK av _ w M rfl hH (Soft.refl _ _) ⟨v, by rw [hd], h2⟩
end Go.Proofs.YtlmjoimjdpfamaaGreat.Ev
namespace Go.Proofs.YtlmjoimjdpfamaaGreat.Ev
variable {P : Program} {base : Nat} {M : Nat → Prop} {ρ : Rho} {w : World}
/-- Where a call began. -/
structure Entry (n0 : Nat) (G : World → Prop) (base : Nat) (M : Nat → Prop) (ρ : Rho) (H : Hp) (w : World) : Prop where
  low : Low n0 G
  g : G w
  n0 : n0 ≤ base
  b : base ≤ w.heap.size
  hr : HR base M ρ H w
/-- A state and a frame, behind an entry. -/
structure Rs (base : Nat) (M0 : Nat → Prop) (ρ0 : Rho) (H0 : Hp) (w0 : World) (nt : Nat) (z : St) (a : Act) (w : World) (M : Nat → Prop) (ρ : Rho) : Prop where
  hr : HR base M ρ z.h w
  sl : SL M ρ w z.s a
  ex : Ext M0 ρ0 H0 w0 M ρ z.h w
  sz : a.tmps.size = nt
  df : a.defers = []
theorem Entry.at {n0 : Nat} {G : World → Prop} {M0 : Nat → Prop} {ρ0 : Rho} {H0 : Hp} {w0 : World} (h : Entry n0 G base M0 ρ0 H0 w0) {H : Hp} (e : Ext M0 ρ0 H0 w0 M ρ H w) : G w ∧ base ≤ w.heap.size :=
  ⟨Low.ext h.low h.hr h.n0 h.b h.g e, Nat.le_trans h.b e.size⟩
theorem Opd.of_sl {s : List (Nat × AV)} {a : Act} (h : SL M ρ w s a) (xs : List Operand) : Opd M ρ w s a xs := fun x _ => vr_lo h x
theorem ops_seq {E : Env} {n0 : Nat} {G : World → Prop} {C : Clo} (hC : CS P n0 G C) {nt : Nat} {ops : Array Oper} {M0 : Nat → Prop} {ρ0 : Rho} {H0 : Hp} {w0 : World} (hE : Entry n0 G base M0 ρ0 H0 w0) {Q : Exit → Act → World → Prop} :
    ∀ (r : List LOper) (os : List Oper) (i : Nat) (z y : St) (a : Act) (w : World) (M : Nat → Prop) (ρ : Rho), (∀ j, os[j]? = ops[i + j]?) → mapO (compOper P nt ops) os = some r → evOps E C 0 r z = some y → Rs base M0 ρ0 H0 w0 nt z a w M ρ →
      (∀ a' w' M' ρ', Rs base M0 ρ0 H0 w0 nt y a' w' M' ρ' → Q .normal a' w') → wpOps P ops Q (List.range' i os.length) a w
  | r, [], i, z, y, a, w, M, ρ, _, hm, he, hR, hQ => by
    cases hm
    cases he
    exact hQ a w M ρ hR
  | r, o :: os, i, z, y, a, w, M, ρ, hat, hm, he, hR, hQ => by
    simp only [mapO] at hm
    obtain ⟨lo, hlo, h2⟩ := bind_iff.1 hm
    obtain ⟨r', hr', h3⟩ := bind_iff.1 h2
    cases h3
    obtain ⟨u, hu, hy⟩ := bind_iff.1 he
    have hi : ops[i]? = some o := by have := hat 0; simpa using this.symm
    obtain ⟨g1, g2⟩ := hE.at hR.ex
    rw [List.length_cons, List.range'_succ, wpOps_cons]
    obtain ⟨hd, hnt, _, _⟩ := compOper_some hlo
    refine one_full hC hi hlo hu g1 hE.n0 g2 hR.hr (Opd.of_sl hR.sl _) (fun t b _ => hR.sl t) fun av a' w' M' ρ' hs hn => ?_
    obtain ⟨v, rfl, hv⟩ := hn.at_
    refine ops_seq hC hE r' os (i + 1) u y _ w' M' ρ' (fun j => by have := hat (j + 1); rw [List.getElem?_cons_succ] at this; rw [this, show i + (j + 1) = i + 1 + j by omega]) hr' hy
      { hr := hn.hr, sl := ?_, ex := hR.ex.trans hn.ex, sz := by rw [put_size]; exact hR.sz, df := by rw [put_defers]; exact hR.df } hQ
    rw [hs]
    exact SL.put (hR.sl.mono hn.ex.mle (hR.hr.keepM hn.ex) hn.ex.rle) hv (fun t ht => by rw [hR.sz]; exact hnt t (hd ▸ ht))
-- ---------------------------------------------------------------- any order
theorem masks_prefix : ∀ (l : List Oper) (acc : List Nat), ∃ t, masks l acc = acc ++ t
  | [], acc => ⟨[], by simp [masks]⟩
  | o :: r, acc => by
    obtain ⟨t, ht⟩ := masks_prefix r (acc ++ [maskOf o acc])
    exact ⟨maskOf o acc :: t, by simp [masks, ht]⟩
theorem masks_at : ∀ (l : List Oper) (acc : List Nat) (j : Nat) (o : Oper), l[j]? = some o → (masks l acc)[acc.length + j]? = some (maskOf o ((masks l acc).take (acc.length + j)))
  | [], acc, j, o, h => by simp at h
  | x :: r, acc, j, o, h => by
    cases j with
    | zero =>
      simp at h
      subst h
      obtain ⟨t, ht⟩ := masks_prefix r (acc ++ [maskOf x acc])
      simp only [masks, ht, Nat.add_zero]
      rw [List.append_assoc, List.getElem?_append_right (Nat.le_refl _)]
      simp
    | succ j =>
      have := masks_at r (acc ++ [maskOf x acc]) j o (by simpa using h)
      simp only [List.length_append, List.length_singleton] at this
      simp only [masks]
      rw [show acc.length + (j + 1) = acc.length + 1 + j by omega]
      exact this
theorem maskOf_bit {o : Oper} {acc : List Nat} {i : Nat} (h : (maskOf o acc).testBit i = true) : ∃ e ∈ o.after.toList, Region.binds .any e = true ∧ (i = e.on ∨ (acc.getD e.on 0).testBit i = true) := by
  unfold maskOf at h
  have go : ∀ (l : List Edge) (s : Nat), (l.foldl (fun s e => if Region.binds .any e then s ||| 2 ^ e.on ||| acc.getD e.on 0 else s) s).testBit i = true → s.testBit i = true ∨ ∃ e ∈ l, Region.binds .any e = true ∧ (i = e.on ∨ (acc.getD e.on 0).testBit i = true) := by
    intro l
    induction l with
    | nil => intro s h; exact .inl h
    | cons e l ih =>
      intro s h
      rw [List.foldl_cons] at h
      rcases ih _ h with h1 | ⟨e', h1, h2⟩
      · split at h1
        · rename_i hb
          rw [Nat.testBit_or, Nat.testBit_or, Bool.or_eq_true, Bool.or_eq_true] at h1
          rcases h1 with (h1 | h1) | h1
          · exact .inl h1
          · refine .inr ⟨e, by simp, hb, .inl ?_⟩
            rw [Nat.testBit_two_pow] at h1
            have h2 : e.on = i := by simpa using h1
            exact h2.symm
          · exact .inr ⟨e, by simp, hb, .inr h1⟩
        · exact .inl h1
      · exact .inr ⟨e', by simp [h1], h2⟩
  rcases go _ 0 h with h1 | h1
  · simp at h1
  · exact h1
theorem mask_listed {ops : Array Oper} {L : Nat → Prop} (hlt : ∀ (j : Nat) (o : Oper), ops[j]? = some o → ∀ e ∈ o.after.toList, Region.binds .any e = true → e.on < j) (hcl : ∀ (j : Nat) (o : Oper), L j → ops[j]? = some o → ∀ e ∈ o.after.toList, Region.binds .any e = true → L e.on) :
    ∀ (j : Nat) (o : Oper), ops[j]? = some o → (∀ e ∈ o.after.toList, Region.binds .any e = true → L e.on) → ∀ i, ((masks ops.toList []).getD j 0).testBit i = true → L i := by
  intro j
  induction j using Nat.strongRecOn with
  | _ j ih =>
    intro o ho hpre i hb
    have hm := masks_at ops.toList [] j o (by simpa using ho)
    simp only [List.length_nil, Nat.zero_add] at hm
    rw [List.getD_eq_getElem?_getD, hm] at hb
    obtain ⟨e, he, hbd, hc⟩ := maskOf_bit hb
    have hLe := hpre e he hbd
    rcases hc with rfl | hc
    · exact hLe
    · have hej := hlt j o ho e he hbd
      have hon : ∃ o', ops[e.on]? = some o' := by
        have hjs : j < ops.size := (Array.getElem?_eq_some_iff.1 ho).1
        exact ⟨_, Array.getElem?_eq_getElem (by omega)⟩
      obtain ⟨o', ho'⟩ := hon
      refine ih e.on hej o' ho' (hcl e.on o' hLe ho') i ?_
      rw [List.getD_eq_getElem?_getD, List.getElem?_take, if_pos hej] at hc
      rw [List.getD_eq_getElem?_getD]
      exact hc
theorem drawOk_spec {ops : Array Oper} (h : drawOk P ops = true) : (∀ (j : Nat) (o : Oper), ops[j]? = some o → ∀ e ∈ o.after.toList, Region.binds .any e = true → e.on < j) ∧
    ∀ (i j : Nat) (q o : Oper), i < j → ops[i]? = some q → ops[j]? = some o → pairOk ops (masks ops.toList []) (softLen P ops) o j q i = true := by
  unfold drawOk at h
  simp only [List.all_eq_true, Bool.and_eq_true] at h
  have mem : ∀ (j : Nat) (o : Oper), ops[j]? = some o → (o, j) ∈ ops.toList.zipIdx := by
    intro j o ho
    rw [List.mem_zipIdx_iff_getElem?]
    simpa using ho
  refine ⟨fun j o ho e he hb => ?_, fun i j q o hij hq ho => ?_⟩
  · have := (h (o, j) (mem j o ho)).1 e he
    simp only [hb, Bool.not_true, Bool.false_or, decide_eq_true_eq] at this
    exact this
  · have := (h (o, j) (mem j o ho)).2 (q, i) (mem i q hq)
    simp only [hij, decide_true, Bool.not_true, Bool.false_or] at this
    exact this
theorem one_put {E : Env} {C : Clo} {lo : LOper} {z y : St} (h : oneFull E C lo z = some y) : ∃ av, y.s = putS z.s lo.dst av := by
  unfold oneFull at h
  cases hw : wants z.s lo.g with
  | none => rw [hw] at h; cases h
  | some p =>
    rw [hw] at h
    simp only [oneFW] at h
    split at h
    · cases hf : fullOp E C z lo.op with
      | none => rw [hf] at h; cases h
      | some r => obtain ⟨av, H⟩ := r; rw [hf] at h; cases h; exact ⟨av, rfl⟩
    · cases h; exact ⟨.v undef, rfl⟩
theorem soft_put {E : Env} {C : Clo} {lo : LOper} {z y : St} (h : oneSoft E C lo z = some y) : (∃ av, y.s = putS z.s lo.dst av) ∧ y.h = z.h := by
  unfold oneSoft at h
  cases hw : wants z.s lo.g with
  | none => rw [hw] at h; cases h
  | some p =>
    rw [hw] at h
    simp only [oneSW] at h
    split at h
    · cases hf : softOp E C z lo.op with
      | none => rw [hf] at h; cases h
      | some av => rw [hf] at h; cases h; exact ⟨⟨av, rfl⟩, rfl⟩
    · cases h; exact ⟨⟨.v undef, rfl⟩, rfl⟩
theorem evOps_trace {E : Env} {C : Clo} : ∀ (l : List LOper) (m : Nat) (z y : St), evOps E C m l z = some y → ∃ T : Nat → St, T 0 = z ∧ T l.length = y ∧ ∀ (i : Nat) (lo : LOper), l[i]? = some lo → (i < m → oneSoft E C lo (T i) = some (T (i + 1))) ∧ (m ≤ i → oneFull E C lo (T i) = some (T (i + 1)))
  | [], m, z, y, h => by
    have : z = y := by cases m <;> exact Option.some.inj h
    exact ⟨fun _ => z, rfl, this, fun i lo hl => by simp at hl⟩
  | o :: r, m, z, y, h => by
    cases m with
    | zero =>
      obtain ⟨u, hu, hy⟩ := bind_iff.1 h
      obtain ⟨T, t0, t1, t2⟩ := evOps_trace r 0 u y hy
      refine ⟨fun i => match i with | 0 => z | i + 1 => T i, rfl, t1, fun i lo hl => ?_⟩
      cases i with
      | zero => simp at hl; subst hl; exact ⟨fun h => by omega, fun _ => by simpa [t0] using hu⟩
      | succ i => have := t2 i lo (by simpa using hl); exact ⟨fun h => by omega, fun _ => this.2 (by omega)⟩
    | succ m =>
      obtain ⟨u, hu, hy⟩ := bind_iff.1 h
      obtain ⟨T, t0, t1, t2⟩ := evOps_trace r m u y hy
      refine ⟨fun i => match i with | 0 => z | i + 1 => T i, rfl, t1, fun i lo hl => ?_⟩
      cases i with
      | zero => simp at hl; subst hl; exact ⟨fun _ => by simpa [t0] using hu, fun h => by omega⟩
      | succ i => have := t2 i lo (by simpa using hl); exact ⟨fun h => this.1 (by omega), fun h => this.2 (by omega)⟩
theorem float_soft {E : Env} {C : Clo} {op : Op} (hf : floatOp op = true) {l : LOp} (hc0 : compOp P op = some l ∨ l = .bad) (s : List (Nat × AV)) (h h' : Hp) : softOp E C ⟨s, h⟩ l = softOp E C ⟨s, h'⟩ l := by
  rcases hc0 with hc | rfl
  rotate_left
  · rfl
  cases op with
  | move x => cases hc; rfl
  | pick c x y => cases hc; rfl
  | binOp o t x y ty =>
    simp only [compOp] at hc
    split at hc <;> first | (cases hc; rfl) | (obtain ⟨_, _, hc⟩ := bind_iff.1 hc; cases hc; rfl) | cases hc
  | unOp o t x => cases hc; rfl
  | extract x i => cases hc; rfl
  | field t x f =>
    simp only [compOp] at hc
    split at hc
    · obtain ⟨g, _, h2⟩ := bind_iff.1 hc
      obtain ⟨k, _, h3⟩ := bind_iff.1 h2
      obtain ⟨ag, _, h4⟩ := bind_iff.1 h3
      cases h4
      rfl
    · cases hc
  | _ => simp [floatOp] at hf
/-- What is known in the midst of a region whose order is open. -/
structure Mid (base : Nat) (M0 : Nat → Prop) (ρ0 : Rho) (H0 : Hp) (w0 : World) (nt : Nat) (ops : Array Oper) (T : Nat → St) (av : Nat → AV) (m k : Nat) (listed : Array Bool) (a : Act) (w : World) (M : Nat → Prop) (ρ : Rho) : Prop where
  ls : listed.size = ops.size
  hr : HR base M ρ (T k).h w
  ex : Ext M0 ρ0 H0 w0 M ρ (T k).h w
  sz : a.tmps.size = nt
  df : a.defers = []
  mge : m ≤ k
  kn : k ≤ ops.size
  tail : ∀ j, m ≤ j → j < ops.size → (listed.getD j false = true ↔ j < k)
  flo : m < k → ∀ j o, j < m → ops[j]? = some o → listed.getD j false = true ∨ floatOp o.op = true
  cl : ∀ (j : Nat) (o : Oper), listed.getD j false = true → ops[j]? = some o → ∀ e ∈ o.after.toList, Region.binds .any e = true → listed.getD e.on false = true
  i1 : ∀ (j : Nat) (o : Oper) (t : Nat), listed.getD j false = true → ops[j]? = some o → o.dst = some t → VR M w ρ (av j) (a.tmps.getD t undef)
  i2 : ∀ t, (∀ (j : Nat) (o : Oper), listed.getD j false = true → ops[j]? = some o → o.dst ≠ some t) → VR M w ρ (sget (T 0).s t) (a.tmps.getD t undef)
theorem looks_operand {ops : Array Oper} {o : Oper} {t : Nat} (h : Operand.tmp t ∈ o.op.operands.toList) : t ∈ o.looksAt ops := by
  unfold Oper.looksAt
  exact List.mem_append.2 (.inl (List.mem_filterMap.2 ⟨_, h, rfl⟩))
theorem dstIn_iff {d : Option Tmp} {l : List Tmp} {t : Nat} (hd : d = some t) : dstIn d l = true ↔ t ∈ l := by subst hd; simp [dstIn]
theorem fin_of {nt : Nat} {ops : Array Oper} {M0 : Nat → Prop} {ρ0 : Rho} {H0 : Hp} {w0 : World} {T : Nat → St} {av : Nat → AV} {m k : Nat} {listed : Array Bool} {a : Act} {M : Nat → Prop} (hI : Mid base M0 ρ0 H0 w0 nt ops T av m k listed a w M ρ) (hall : ∀ j, j < ops.size → listed.getD j false = true)
    (sT : ∀ i, i ≤ ops.size → ∀ t, (∀ (j : Nat) (o : Oper), j < i → ops[j]? = some o → o.dst = some t → sget (T i).s t = av j) ∧ ((∀ (j : Nat) (o : Oper), j < i → ops[j]? = some o → o.dst ≠ some t) → sget (T i).s t = sget (T 0).s t)) : Rs base M0 ρ0 H0 w0 nt (T ops.size) a w M ρ := by
  have hk : k = ops.size := by
    rcases Nat.lt_or_ge k ops.size with h | h
    · have := (hI.tail k hI.mge h).1 (hall k h); omega
    · exact Nat.le_antisymm hI.kn h
  have h1 := hI.hr
  have h2 := hI.ex
  rw [hk] at h1 h2
  refine { hr := h1, sl := fun t => ?_, ex := h2, sz := hI.sz, df := hI.df }
  obtain ⟨s1, s2⟩ := sT ops.size (Nat.le_refl _) t
  by_cases hex : ∃ (j : Nat) (q : Oper), ops[j]? = some q ∧ q.dst = some t
  · obtain ⟨j, q, hq, hdq⟩ := hex
    have hj : j < ops.size := (Array.getElem?_eq_some_iff.1 hq).1
    rw [s1 j q hj hq hdq]
    exact hI.i1 j q t (hall j hj) hq hdq
  · rw [s2 fun j q _ hq hdq => hex ⟨j, q, hq, hdq⟩]
    exact hI.i2 t fun j q _ hq hdq => hex ⟨j, q, hq, hdq⟩
theorem draw_any {E : Env} {n0 : Nat} {G : World → Prop} {C : Clo} (hC : CS P n0 G C) {nt : Nat} {ops : Array Oper} {M0 : Nat → Prop} {ρ0 : Rho} {H0 : Hp} {w0 : World} (hE : Entry n0 G base M0 ρ0 H0 w0) {Q : Exit → Act → World → Prop} (hok : drawOk P ops = true) {l : List LOper} (hl : mapO (compOper P nt ops) ops.toList = some l)
    {T : Nat → St} {av : Nat → AV} (hT : ∀ (i : Nat) (lo : LOper), l[i]? = some lo → (i < softLen P ops → oneSoft E C lo (T i) = some (T (i + 1))) ∧ (softLen P ops ≤ i → oneFull E C lo (T i) = some (T (i + 1))))
    (hav : ∀ (i : Nat) (o : Oper), ops[i]? = some o → (T (i + 1)).s = putS (T i).s o.dst (av i)) (havx : ∀ (i : Nat) (o : Oper), ops[i]? = some o → o.dst = none → av i = .x) (hQ : ∀ a' w' M' ρ', Rs base M0 ρ0 H0 w0 nt (T ops.size) a' w' M' ρ' → Q .normal a' w') :
    ∀ (fuel : Nat) (U : List Nat) (listed : Array Bool) (a : Act) (w : World) (M : Nat → Prop) (ρ : Rho) (k : Nat), U.length ≤ fuel → U.Nodup → (∀ j, j < ops.size → (listed.getD j false = false ↔ j ∈ U)) → Mid base M0 ρ0 H0 w0 nt ops T av (softLen P ops) k listed a w M ρ → wpAny P .any ops Q fuel listed a w := by
  obtain ⟨hlt, hpair⟩ := drawOk_spec hok
  obtain ⟨hll, hlat⟩ := mapO_some hl
  have hn : l.length = ops.size := by rw [hll]; simp
  have hsoft : softLen P ops ≤ ops.size := by
    unfold softLen
    have := (List.takeWhile_sublist (l := ops.toList) (fun o : Oper => !hardB P ops o)).length_le
    simpa using this
  have hth : ∀ i, i ≤ softLen P ops → (T i).h = (T 0).h := by
    intro i
    induction i with
    | zero => intro _; rfl
    | succ i ih =>
      intro hi
      have hil : i < l.length := by omega
      have := (hT i _ (List.getElem?_eq_getElem hil)).1 (by omega)
      rw [(soft_put this).2]
      exact ih (by omega)
  have uniq : ∀ (i j : Nat) (q o : Oper) (t : Nat), ops[i]? = some q → ops[j]? = some o → q.dst = some t → o.dst = some t → i = j := by
    intro i j q o t hq ho h1 h2
    rcases Nat.lt_trichotomy i j with h | h | h
    · have := hpair i j q o h hq ho
      simp [pairOk, h1, h2, sameDst] at this
    · exact h
    · have := hpair j i o q h ho hq
      simp [pairOk, h1, h2, sameDst] at this
  have sT : ∀ i, i ≤ ops.size → ∀ t, (∀ (j : Nat) (o : Oper), j < i → ops[j]? = some o → o.dst = some t → sget (T i).s t = av j) ∧ ((∀ (j : Nat) (o : Oper), j < i → ops[j]? = some o → o.dst ≠ some t) → sget (T i).s t = sget (T 0).s t) := by
    intro i
    induction i with
    | zero => intro _ t; exact ⟨fun j o h => by omega, fun _ => rfl⟩
    | succ i ih =>
      intro hi t
      obtain ⟨oi, hoi⟩ : ∃ o, ops[i]? = some o := ⟨_, Array.getElem?_eq_getElem (by omega)⟩
      obtain ⟨ih1, ih2⟩ := ih (by omega) t
      have hs := hav i oi hoi
      refine ⟨fun j o hj ho hd => ?_, fun hno => ?_⟩
      · by_cases hji : j = i
        · subst hji
          rw [hoi] at ho
          cases ho
          rw [hs, hd]
          simp [putS, sget]
        · have hne : oi.dst ≠ some t := fun h => hji (uniq j i o oi t ho hoi hd h)
          rw [hs]
          cases hdi : oi.dst with
          | none => exact ih1 j o (by omega) ho hd
          | some u =>
            have hut : ¬ u = t := fun h => hne (by rw [hdi, h])
            simp only [putS, sget, if_neg hut]
            exact ih1 j o (by omega) ho hd
      · rw [hs]
        cases hdi : oi.dst with
        | none => exact ih2 fun j o hj ho => hno j o (by omega) ho
        | some u =>
          have hut : ¬ u = t := fun h => hno i oi (by omega) hoi (by rw [hdi, h])
          simp only [putS, sget, if_neg hut]
          exact ih2 fun j o hj ho => hno j o (by omega) ho
  intro fuel
  induction fuel with
  | zero =>
    intro U listed a w M ρ k hU hnd hmem hI
    have hnil : U = [] := List.eq_nil_of_length_eq_zero (by omega)
    have hall : ∀ j, j < ops.size → listed.getD j false = true := fun j hj => by
      cases hx : listed.getD j false with
      | true => rfl
      | false => have := (hmem j hj).1 hx; rw [hnil] at this; cases this
    have hfin := fin_of hI hall sT
    refine ⟨?_, hQ a w M ρ hfin⟩
    rw [List.eq_nil_iff_forall_not_mem]
    intro j hj
    obtain ⟨h1, o, h2, _⟩ := mem_ready.1 hj
    have hjs : j < ops.size := (Array.getElem?_eq_some_iff.1 h2).1
    have h3 := hall j hjs
    rw [Array.getD_eq_getD_getElem?, Array.getElem?_eq_getElem (by rw [hI.ls]; exact hjs)] at h1 h3
    simp at h1 h3
    rw [h1] at h3
    cases h3
  | succ fuel ih =>
    intro U listed a w M ρ k hU hnd hmem hI
    refine ⟨fun hre => ?_, fun i hi => ?_⟩
    · have hall : ∀ j, j < ops.size → listed.getD j false = true := by
        intro j
        induction j using Nat.strongRecOn with
        | _ j ihj =>
          intro hj
          cases hx : listed.getD j false with
          | true => rfl
          | false =>
            exfalso
            have : j ∈ Region.ready .any ops listed := by
              rw [mem_ready]
              refine ⟨?_, _, Array.getElem?_eq_getElem hj, fun e he hb => ?_⟩
              · rw [Array.getD_eq_getD_getElem?, Array.getElem?_eq_getElem (by rw [hI.ls]; exact hj)] at hx ⊢
                simpa using hx
              · have := hlt j _ (Array.getElem?_eq_getElem hj) e (by simpa using he) hb
                exact ihj e.on this (by omega)
            rw [hre] at this
            cases this
      exact hQ a w M ρ (fin_of hI hall sT)
    · obtain ⟨hun, o, ho, hpre⟩ := mem_ready.1 hi
      have his : i < ops.size := (Array.getElem?_eq_some_iff.1 ho).1
      have hunl : listed.getD i false = false := by
        rw [Array.getD_eq_getD_getElem?, Array.getElem?_eq_getElem (by rw [hI.ls]; exact his)] at hun ⊢
        simpa using hun
      have hpre' : ∀ e ∈ o.after.toList, Region.binds .any e = true → listed.getD e.on false = true := fun e he hb => hpre e (by simpa using he) hb
      have hbit : ∀ j, ((masks ops.toList []).getD i 0).testBit j = true → listed.getD j false = true := mask_listed (L := fun j => listed.getD j false = true) hlt hI.cl i o ho hpre'
      have hbitj : ∀ j q, listed.getD j false = true → ops[j]? = some q → ∀ x, ((masks ops.toList []).getD j 0).testBit x = true → listed.getD x false = true := fun j q hj hq => mask_listed (L := fun j => listed.getD j false = true) hlt hI.cl j q hq (hI.cl j q hj hq)
      obtain ⟨lo, hlo⟩ : ∃ lo, l[i]? = some lo := ⟨_, List.getElem?_eq_getElem (by omega)⟩
      have hcomp : compOper P nt ops o = some lo := hlat i o lo (by simpa using ho) hlo
      obtain ⟨hd, hnt, hgd, hop⟩ := compOper_some hcomp
      have reads : ∀ t, t ∈ o.looksAt ops → VR M w ρ (sget (T i).s t) (a.tmps.getD t undef) := by
        intro t ht
        obtain ⟨s1, s2⟩ := sT i (by omega) t
        by_cases hex : ∃ j q, j < i ∧ ops[j]? = some q ∧ q.dst = some t
        · obtain ⟨j, q, hj, hq, hdq⟩ := hex
          rw [s1 j q hj hq hdq]
          have hp := hpair j i q o hj hq ho
          simp only [pairOk, Bool.and_eq_true] at hp
          have h2 := hp.1.1.2
          rw [(dstIn_iff hdq).2 (by unfold readsOf; exact ht)] at h2
          simp only [Bool.not_true, Bool.false_or] at h2
          exact hI.i1 j q t (hbit j h2) hq hdq
        · rw [s2 fun j q hj hq hdq => hex ⟨j, q, hj, hq, hdq⟩]
          refine hI.i2 t fun j q hj hq hdq => ?_
          rcases Nat.lt_trichotomy j i with h | h | h
          · exact hex ⟨j, q, h, hq, hdq⟩
          · subst h; rw [hunl] at hj; cases hj
          · have hp := hpair i j o q h ho hq
            simp only [pairOk, Bool.and_eq_true] at hp
            have h2 := hp.1.2
            rw [(dstIn_iff hdq).2 (by unfold readsOf; exact ht)] at h2
            simp only [Bool.not_true, Bool.false_or] at h2
            have := hbitj j q hj hq i h2
            rw [hunl] at this
            cases this
      have hopd : Opd M ρ w (T i).s a o.op.operands.toList := by
        intro x hx
        cases x with
        | tmp t => exact reads t (looks_operand hx)
        | const v => exact vr_ofV v
        | global g => exact .v
        | func f => exact .fn rfl rfl (fun i c u h1 h2 => by simp at h1) (fun i c u h1 h2 => by simp at h1)
      have hgv : ∀ t b, lo.g = some (t, b) → VR M w ρ (sget (T i).s t) (a.tmps.getD t undef) := by
        intro t b hg
        refine reads t ?_
        rw [hg] at hgd
        cases hgg : o.guard with
        | none => rw [hgg] at hgd; cases hgd
        | some p =>
          obtain ⟨j, b'⟩ := p
          rw [hgg] at hgd
          simp only [guardOf] at hgd
          split at hgd
          · rename_i u hu
            cases hgd
            unfold Oper.looksAt
            rw [hgg]
            simp only
            rw [hu]
            exact List.mem_append.2 (.inr (by simp))
          · cases hgd
      obtain ⟨g1, g2⟩ := hE.at hI.ex
      have hset : ∀ j, (listed.setIfInBounds i true).getD j false = if j = i then true else listed.getD j false := by
        intro j
        by_cases hji : j = i
        · subst hji
          rw [if_pos rfl, Array.getD_eq_getD_getElem?, Array.getElem?_setIfInBounds, if_pos rfl, if_pos (by rw [hI.ls]; exact his)]
          rfl
        · rw [if_neg hji, Array.getD_eq_getD_getElem?, Array.getD_eq_getD_getElem?, Array.getElem?_setIfInBounds, if_neg (fun h => hji h.symm)]
      have hU' : (U.erase i).length ≤ fuel := by
        have hm := (hmem i his).1 hunl
        rw [List.length_erase_of_mem hm]
        omega
      have hmem' : ∀ j, j < ops.size → ((listed.setIfInBounds i true).getD j false = false ↔ j ∈ U.erase i) := by
        intro j hj
        rw [hset, hnd.mem_erase_iff]
        by_cases hji : j = i
        · simp [hji]
        · rw [if_neg hji, hmem j hj]; simp [hji]
      -- what the step leaves, whatever it was
      have step : ∀ (k' : Nat) (w' : World) (M' : Nat → Prop) (ρ' : Rho) (v : Value), HR base M' ρ' (T k').h w' → Ext M ρ (T k).h w M' ρ' (T k').h w' → VR M' w' ρ' (av i) v → softLen P ops ≤ k' → k' ≤ ops.size →
          (∀ j, softLen P ops ≤ j → j < ops.size → ((listed.setIfInBounds i true).getD j false = true ↔ j < k')) → (softLen P ops < k' → ∀ j q, j < softLen P ops → ops[j]? = some q → (listed.setIfInBounds i true).getD j false = true ∨ floatOp q.op = true) →
          wpAny P .any ops Q fuel (listed.setIfInBounds i true) (a.put lo.dst v) w' := by
        intro k' w' M' ρ' v h1 h2 h3 h4 h5 h6 h7
        have keepM := hI.hr.keepM h2
        have hdt : ∀ t, o.dst = some t → t < a.tmps.size := fun t ht => by rw [hI.sz]; exact hnt t ht
        have get_put : ∀ t, (a.put lo.dst v).tmps.getD t undef = if o.dst = some t then v else a.tmps.getD t undef := by
          intro t
          rw [hd]
          cases hdo : o.dst with
          | none => simp [Act.put]
          | some u =>
            simp only [Act.put, Array.getD_eq_getD_getElem?, Array.getElem?_setIfInBounds]
            by_cases hu : u = t
            · subst hu; simp [hdt u hdo]
            · simp [hu]
        refine ih (U.erase i) _ _ w' M' ρ' k' hU' (hnd.erase i) hmem' { ls := by simp [hI.ls], hr := h1, ex := hI.ex.trans h2, sz := by rw [put_size]; exact hI.sz, df := by rw [put_defers]; exact hI.df, mge := h4, kn := h5, tail := h6, flo := h7, cl := fun j q hj hq e he hb => ?_, i1 := fun j q t hj hq hdq => ?_, i2 := fun t hno => ?_ }
        · rw [hset] at hj ⊢
          by_cases hji : j = i
          · subst hji
            rw [ho] at hq
            cases hq
            have := hpre' e he hb
            split
            · rfl
            · exact this
          · rw [if_neg hji] at hj
            have := hI.cl j q hj hq e he hb
            split
            · rfl
            · exact this
        · rw [hset] at hj
          rw [get_put]
          by_cases hji : j = i
          · subst hji
            rw [ho] at hq
            cases hq
            rw [if_pos hdq]
            exact h3
          · rw [if_neg hji] at hj
            have hne : ¬ o.dst = some t := fun h => hji (uniq j i q o t hq ho hdq h)
            rw [if_neg hne]
            exact (hI.i1 j q t hj hq hdq).mono h2.mle keepM h2.rle
        · rw [get_put]
          have hne : ¬ o.dst = some t := hno i o (by rw [hset, if_pos rfl]) ho
          rw [if_neg hne]
          refine (hI.i2 t fun j q hj hq => ?_).mono h2.mle keepM h2.rle
          refine hno j q ?_ hq
          rw [hset]
          split
          · rfl
          · exact hj
      have avEq : ∀ {x : AV} {y : St}, T (i + 1) = y → y.s = putS (T i).s lo.dst x → lo.dst = none ∨ x = av i := by
        intro x y hy hs
        have := hav i o ho
        rw [hy, hs, hd] at this
        cases hdo : o.dst with
        | none => exact .inl (by rw [hd, hdo])
        | some u =>
          rw [hdo] at this
          simp only [putS, List.cons.injEq, Prod.mk.injEq, true_and, and_true] at this
          exact .inr this
      by_cases him : i < softLen P ops
      · have hsf := (hT i lo hlo).1 him
        have tail' : ∀ j, softLen P ops ≤ j → j < ops.size → ((listed.setIfInBounds i true).getD j false = true ↔ j < k) := by
          intro j hj hjs
          rw [hset, if_neg (by omega)]
          exact hI.tail j hj hjs
        have flo' : softLen P ops < k → ∀ j q, j < softLen P ops → ops[j]? = some q → (listed.setIfInBounds i true).getD j false = true ∨ floatOp q.op = true := by
          intro hk j q hj hq
          rcases hI.flo hk j q hj hq with h | h
          · left; rw [hset]; split
            · rfl
            · exact h
          · exact .inr h
        -- the step at the heap that stands
        have hsf' : ∃ y, oneSoft E C lo ⟨(T i).s, (T k).h⟩ = some y ∧ y.s = (T (i + 1)).s := by
          by_cases hk : k = softLen P ops
          · have hh : (T k).h = (T i).h := by rw [hk, hth _ (Nat.le_refl _), hth i (by omega)]
            rw [hh]
            exact ⟨T (i + 1), hsf, rfl⟩
          · have hk' : softLen P ops < k := by have := hI.mge; omega
            rcases hI.flo hk' i o him ho with h | hf
            · rw [hunl] at h; cases h
            · have hsf1 : oneSW E C lo (T i) (wants (T i).s lo.g) = some (T (i + 1)) := hsf
              show ∃ y, oneSW E C lo ⟨(T i).s, (T k).h⟩ (wants (T i).s lo.g) = some y ∧ y.s = (T (i + 1)).s
              cases hw : wants (T i).s lo.g with
              | none => rw [hw] at hsf1; cases hsf1
              | some b =>
                rw [hw] at hsf1
                cases b with
                | false =>
                  simp only [oneSW, Bool.false_eq_true, if_false, Option.some.injEq] at hsf1 ⊢
                  exact ⟨_, rfl, by rw [← hsf1]⟩
                | true =>
                  simp only [oneSW, if_true] at hsf1 ⊢
                  rw [float_soft hf hop (T i).s (T k).h (T i).h]
                  have hz : (⟨(T i).s, (T i).h⟩ : St) = T i := rfl
                  rw [hz]
                  cases hso : softOp E C (T i) lo.op with
                  | none => rw [hso] at hsf1; cases hsf1
                  | some x =>
                    rw [hso] at hsf1
                    simp only [putA, Option.some.injEq] at hsf1 ⊢
                    exact ⟨_, rfl, by rw [← hsf1]⟩
        obtain ⟨y, hy1, hy2⟩ := hsf'
        refine (one_soft hC ho hcomp hy1 g1 hE.n0 g2 hI.hr hopd hgv fun x a' w' M' hs hr' hsoft' hat => ?_).2
        obtain ⟨v, rfl, hv⟩ := hat
        have hav' : VR M' w' ρ (av i) v ∨ lo.dst = none := by
          rw [hy2] at hs
          rcases avEq rfl hs with h | h
          · exact .inr h
          · exact .inl (h ▸ hv)
        rcases hav' with hav' | hnone
        · exact step k w' M' ρ v hr' (hsoft'.ext hI.hr) hav' hI.mge hI.kn tail' flo'
        · -- no slot is written: any value serves
          exact step k w' M' ρ v hr' (hsoft'.ext hI.hr) (by rw [havx i o ho (hd ▸ hnone)]; exact .x) hI.mge hI.kn tail' flo'
      · have him' : softLen P ops ≤ i := by omega
        have hsf := (hT i lo hlo).2 him'
        have pair' : ∀ j q, j < i → ops[j]? = some q → listed.getD j false = true ∨ (j < softLen P ops ∧ floatOp q.op = true) := by
          intro j q hj hq
          have hp := hpair j i q o hj hq ho
          simp only [pairOk, Bool.and_eq_true] at hp
          have h4 := hp.2
          simp only [Bool.or_eq_true, Bool.and_eq_true, decide_eq_true_eq] at h4
          rcases h4 with (h4 | h4) | h4
          · omega
          · exact .inl (hbit j h4)
          · exact .inr ⟨h4.1, h4.2⟩
        have hik : i = k := by
          have h1 : ¬ i < k := fun h => by have := (hI.tail i him' his).2 h; rw [hunl] at this; cases this
          apply Classical.byContradiction
          intro hne
          have hki : k < i := by omega
          obtain ⟨q, hq⟩ : ∃ q, ops[k]? = some q := ⟨_, Array.getElem?_eq_getElem (by omega)⟩
          rcases pair' k q hki hq with h | h
          · have := (hI.tail k hI.mge (by omega)).1 h; omega
          · have := hI.mge; omega
        subst hik
        refine one_full hC ho hcomp hsf g1 hE.n0 g2 hI.hr hopd hgv fun x a' w' M' ρ' hs hnx => ?_
        obtain ⟨v, rfl, hv⟩ := hnx.at_
        have tail' : ∀ j, softLen P ops ≤ j → j < ops.size → ((listed.setIfInBounds i true).getD j false = true ↔ j < i + 1) := by
          intro j hj hjs
          rw [hset]
          by_cases hji : j = i
          · simp [hji]
          · rw [if_neg hji, hI.tail j hj hjs]; omega
        have flo' : softLen P ops < i + 1 → ∀ j q, j < softLen P ops → ops[j]? = some q → (listed.setIfInBounds i true).getD j false = true ∨ floatOp q.op = true := by
          intro _ j q hj hq
          rcases pair' j q (by omega) hq with h | h
          · left; rw [hset]; split
            · rfl
            · exact h
          · exact .inr h.2
        rcases avEq rfl hs with hnone | hx
        · exact step (i + 1) w' M' ρ' v hnx.hr hnx.ex (by rw [havx i o ho (hd ▸ hnone)]; exact .x) (by omega) (by omega) tail' flo'
        · exact step (i + 1) w' M' ρ' v hnx.hr hnx.ex (hx ▸ hv) (by omega) (by omega) tail' flo'
end Go.Proofs.YtlmjoimjdpfamaaGreat.Ev
namespace Go.Proofs.YtlmjoimjdpfamaaGreat.Ev
variable {P : Program} {base : Nat} {M : Nat → Prop} {ρ : Rho} {w : World}
theorem float_at {E : Env} {C : Clo} {nt : Nat} {ops : Array Oper} {o : Oper} {lo : LOper} (hcomp : compOper P nt ops o = some lo) (hf : floatOp o.op = true) {z y : St} (h : oneSoft E C lo z = some y) (H : Hp) : oneSoft E C lo ⟨z.s, H⟩ = some ⟨y.s, H⟩ := by
  obtain ⟨_, _, _, hop⟩ := compOper_some hcomp
  have hsf1 : oneSW E C lo z (wants z.s lo.g) = some y := h
  show oneSW E C lo ⟨z.s, H⟩ (wants z.s lo.g) = some ⟨y.s, H⟩
  cases hw : wants z.s lo.g with
  | none => rw [hw] at hsf1; cases hsf1
  | some b =>
    rw [hw] at hsf1
    cases b with
    | false =>
      simp only [oneSW, Bool.false_eq_true, if_false, Option.some.injEq] at hsf1 ⊢
      rw [← hsf1]
    | true =>
      simp only [oneSW, if_true] at hsf1 ⊢
      rw [float_soft hf hop z.s H z.h]
      have hz : (⟨z.s, z.h⟩ : St) = z := rfl
      rw [hz]
      cases hso : softOp E C z lo.op with
      | none => rw [hso] at hsf1; cases hsf1
      | some x =>
        rw [hso] at hsf1
        simp only [putA, Option.some.injEq] at hsf1 ⊢
        rw [← hsf1]

theorem evX_trace {E : Env} {C : Clo} : ∀ (l : List (LOper × Bool × Nat)) (acc : List Ck) (p : Nat) (z y : St), evX E C l acc p z = some y → ∃ T : Nat → St, T 0 = z ∧ T l.length = y ∧
    (∀ (i : Nat) (lo : LOper) (b : Bool) (e : Nat), l[i]? = some (lo, b, e) → (b = false → oneSoft E C lo (T i) = some (T (i + 1))) ∧ (b = true → oneFull E C lo (T i) = some (T (i + 1)))) ∧
    (∀ (i : Nat) (lo : LOper) (e : Nat), l[i]? = some (lo, true, e) → ckOk E C (T (i + 1)) (p + i) acc) ∧
    (∀ (i j : Nat) (lo lo' : LOper) (e e' : Nat), j < i → l[j]? = some (lo, false, e) → l[i]? = some (lo', true, e') → p + i < e → oneSoft E C lo ⟨(T j).s, (T (i + 1)).h⟩ = some ⟨(T (j + 1)).s, (T (i + 1)).h⟩)
  | [], acc, p, z, y, he => by
    have : z = y := Option.some.inj he
    exact ⟨fun _ => z, rfl, this, fun i lo b e hl => by simp at hl, fun i lo e hl => by simp at hl, fun i j lo lo' e e' _ hl => by simp at hl⟩
  | (o, b, e0) :: r, acc, p, z, y, he => by
    cases b with
    | true =>
      simp only [evX] at he
      obtain ⟨u, hu, hy⟩ := bind_iff.1 he
      split at hy
      · rename_i hc
        obtain ⟨T, t0, t1, t2, t3, t4⟩ := evX_trace r acc (p + 1) u y hy
        refine ⟨fun i => match i with | 0 => z | i + 1 => T i, rfl, t1, fun i lo b e hl => ?_, fun i lo e hl => ?_, fun i j lo lo' e e' hj hl hi hf => ?_⟩
        · cases i with
          | zero => simp at hl; obtain ⟨rfl, rfl, rfl⟩ := hl; exact ⟨fun h => (by cases h), fun _ => by simpa [t0] using hu⟩
          | succ i => exact t2 i lo b e (by simpa using hl)
        · cases i with
          | zero => simpa [t0] using hc
          | succ i =>
            have := t3 i lo e (by simpa using hl)
            rw [show p + 1 + i = p + (i + 1) by omega] at this
            exact this
        · cases i with
          | zero => omega
          | succ i =>
            cases j with
            | zero => simp at hl
            | succ j => exact t4 i j lo lo' e e' (by omega) (by simpa using hl) (by simpa using hi) (by omega)
      · cases hy
    | false =>
      simp only [evX] at he
      obtain ⟨u, hu, hy⟩ := bind_iff.1 he
      obtain ⟨T, t0, t1, t2, t3, t4⟩ := evX_trace r (⟨o, z.s, u.s, e0⟩ :: acc) (p + 1) u y hy
      refine ⟨fun i => match i with | 0 => z | i + 1 => T i, rfl, t1, fun i lo b e hl => ?_, fun i lo e hl => ?_, fun i j lo lo' e e' hj hl hi hf => ?_⟩
      · cases i with
        | zero => simp at hl; obtain ⟨rfl, rfl, rfl⟩ := hl; exact ⟨fun _ => by simpa [t0] using hu, fun h => (by cases h)⟩
        | succ i => exact t2 i lo b e (by simpa using hl)
      · cases i with
        | zero => simp at hl
        | succ i =>
          have := (t3 i lo e (by simpa using hl)).2
          rw [show p + 1 + i = p + (i + 1) by omega] at this
          exact this
      · cases i with
        | zero => omega
        | succ i =>
          cases j with
          | zero =>
            simp at hl
            obtain ⟨rfl, rfl⟩ := hl
            have := (t3 i lo' e' (by simpa using hi)).1 (by show p + 1 + i < e0; omega)
            simpa [t0] using this
          | succ j => exact t4 i j lo lo' e e' (by omega) (by simpa using hl) (by simpa using hi) (by omega)
theorem drawX_spec {ops : Array Oper} (h : drawX P ops = true) : (∀ (j : Nat) (o : Oper), ops[j]? = some o → ∀ e ∈ o.after.toList, Region.binds .any e = true → e.on < j) ∧
    ∀ (i j : Nat) (q o : Oper), i < j → ops[i]? = some q → ops[j]? = some o → pairX P ops (masks ops.toList []) o j q i = true := by
  unfold drawX at h
  simp only [List.all_eq_true, Bool.and_eq_true] at h
  have mem : ∀ (j : Nat) (o : Oper), ops[j]? = some o → (o, j) ∈ ops.toList.zipIdx := by
    intro j o ho
    rw [List.mem_zipIdx_iff_getElem?]
    simpa using ho
  refine ⟨fun j o ho e he hb => ?_, fun i j q o hij hq ho => ?_⟩
  · have := (h (o, j) (mem j o ho)).1 e he
    simp only [hb, Bool.not_true, Bool.false_or, decide_eq_true_eq] at this
    exact this
  · have := (h (o, j) (mem j o ho)).2 (q, i) (mem i q hq)
    simp only [hij, decide_true, Bool.not_true, Bool.false_or] at this
    exact this
theorem hardAt_eq {ops : Array Oper} {i : Nat} {o : Oper} (h : ops[i]? = some o) : hardAt P ops i = hardB P ops o := by unfold hardAt; rw [h]
theorem firstB_ge (ops : Array Oper) (b : List Nat) (i : Nat) : ∀ (d h : Nat), h ≤ firstB P ops b i h d
  | 0, h => Nat.le_refl _
  | d + 1, h => by
    unfold firstB
    split
    · exact Nat.le_refl _
    · exact Nat.le_trans (Nat.le_succ h) (firstB_ge ops b i d (h + 1))
theorem firstB_le (ops : Array Oper) (b : List Nat) (i : Nat) : ∀ (d h x : Nat), h ≤ x → x < h + d → (∀ y, h ≤ y → y ≤ x → hardAt P ops y = true → (b.getD y 0).testBit i = false) → x < firstB P ops b i h d
  | 0, h, x, h1, h2, _ => by omega
  | d + 1, h, x, h1, h2, hx => by
    unfold firstB
    split
    · rename_i hc
      rw [Bool.and_eq_true] at hc
      have := hx h (Nat.le_refl _) h1 hc.1
      rw [hc.2] at this
      cases this
    · by_cases hh : x = h
      · have := firstB_ge (P := P) ops b i d (h + 1)
        omega
      · exact firstB_le ops b i d (h + 1) x (by omega) (by omega) fun y h3 h4 => hx y (by omega) h4
theorem next_hard (P : Program) (ops : Array Oper) : ∀ (d i : Nat), i + d = ops.size → ∃ k, i ≤ k ∧ k ≤ ops.size ∧ (k = ops.size ∨ hardAt P ops k = true) ∧ ∀ x, i ≤ x → x < k → hardAt P ops x = false
  | 0, i, h => ⟨i, Nat.le_refl _, by omega, .inl (by omega), fun x h1 h2 => by omega⟩
  | d + 1, i, h => by
    cases hi : hardAt P ops i with
    | true => exact ⟨i, Nat.le_refl _, by omega, .inr hi, fun x h1 h2 => by omega⟩
    | false =>
      obtain ⟨k, h1, h2, h3, h4⟩ := next_hard P ops d (i + 1) (by omega)
      refine ⟨k, by omega, h2, h3, fun x h5 h6 => ?_⟩
      by_cases hx : x = i
      · rw [hx]; exact hi
      · exact h4 x (by omega) h6
/-- The last writing operation ahead of a place, if there is one behind another place. -/
theorem last_hard (P : Program) (ops : Array Oper) : ∀ (d i : Nat), (∀ x, i ≤ x → x < i + d → hardAt P ops x = false) ∨ ∃ k, i ≤ k ∧ k < i + d ∧ hardAt P ops k = true ∧ ∀ x, k < x → x < i + d → hardAt P ops x = false
  | 0, i => .inl fun x h1 h2 => by omega
  | d + 1, i => by
    cases hi : hardAt P ops (i + d) with
    | true => exact .inr ⟨i + d, by omega, by omega, hi, fun x h1 h2 => by omega⟩
    | false =>
      rcases last_hard P ops d i with h | ⟨k, h1, h2, h3, h4⟩
      · refine .inl fun x h1 h2 => ?_
        by_cases hx : x = i + d
        · rw [hx]; exact hi
        · exact h x h1 (by omega)
      · refine .inr ⟨k, h1, by omega, h3, fun x h5 h6 => ?_⟩
        by_cases hx : x = i + d
        · rw [hx]; exact hi
        · exact h4 x h5 (by omega)
/-- What is known in the midst of a region whose order is open. -/
structure MidX (P : Program) (base : Nat) (M0 : Nat → Prop) (ρ0 : Rho) (H0 : Hp) (w0 : World) (nt : Nat) (ops : Array Oper) (T : Nat → St) (av : Nat → AV) (k : Nat) (listed : Array Bool) (a : Act) (w : World) (M : Nat → Prop) (ρ : Rho) : Prop where
  ls : listed.size = ops.size
  hr : HR base M ρ (T k).h w
  ex : Ext M0 ρ0 H0 w0 M ρ (T k).h w
  sz : a.tmps.size = nt
  df : a.defers = []
  kn : k ≤ ops.size
  kh : k = ops.size ∨ hardAt P ops k = true
  tail : ∀ j, j < ops.size → hardAt P ops j = true → (listed.getD j false = true ↔ j < k)
  flo : ∀ j o, ops[j]? = some o → hardAt P ops j = false → j < k → listed.getD j false = true ∨ ∀ h, j < h → h < k → hardAt P ops h = true → ((masks ops.toList []).getD h 0).testBit j = false
  cl : ∀ (j : Nat) (o : Oper), listed.getD j false = true → ops[j]? = some o → ∀ e ∈ o.after.toList, Region.binds .any e = true → listed.getD e.on false = true
  i1 : ∀ (j : Nat) (o : Oper) (t : Nat), listed.getD j false = true → ops[j]? = some o → o.dst = some t → VR M w ρ (av j) (a.tmps.getD t undef)
  i2 : ∀ t, (∀ (j : Nat) (o : Oper), listed.getD j false = true → ops[j]? = some o → o.dst ≠ some t) → VR M w ρ (sget (T 0).s t) (a.tmps.getD t undef)
theorem fin_ofX {nt : Nat} {ops : Array Oper} {M0 : Nat → Prop} {ρ0 : Rho} {H0 : Hp} {w0 : World} {T : Nat → St} {av : Nat → AV} {k : Nat} {listed : Array Bool} {a : Act} {M : Nat → Prop} (hI : MidX P base M0 ρ0 H0 w0 nt ops T av k listed a w M ρ) (hall : ∀ j, j < ops.size → listed.getD j false = true)
    (sT : ∀ i, i ≤ ops.size → ∀ t, (∀ (j : Nat) (o : Oper), j < i → ops[j]? = some o → o.dst = some t → sget (T i).s t = av j) ∧ ((∀ (j : Nat) (o : Oper), j < i → ops[j]? = some o → o.dst ≠ some t) → sget (T i).s t = sget (T 0).s t)) : Rs base M0 ρ0 H0 w0 nt (T ops.size) a w M ρ := by
  have hk : k = ops.size := by
    rcases Nat.lt_or_ge k ops.size with h | h
    · rcases hI.kh with hk | hk
      · omega
      · have := (hI.tail k h hk).1 (hall k h); omega
    · exact Nat.le_antisymm hI.kn h
  have h1 := hI.hr
  have h2 := hI.ex
  rw [hk] at h1 h2
  refine { hr := h1, sl := fun t => ?_, ex := h2, sz := hI.sz, df := hI.df }
  obtain ⟨s1, s2⟩ := sT ops.size (Nat.le_refl _) t
  by_cases hex : ∃ (j : Nat) (q : Oper), ops[j]? = some q ∧ q.dst = some t
  · obtain ⟨j, q, hq, hdq⟩ := hex
    have hj : j < ops.size := (Array.getElem?_eq_some_iff.1 hq).1
    rw [s1 j q hj hq hdq]
    exact hI.i1 j q t (hall j hj) hq hdq
  · rw [s2 fun j q _ hq hdq => hex ⟨j, q, hq, hdq⟩]
    exact hI.i2 t fun j q _ hq hdq => hex ⟨j, q, hq, hdq⟩
theorem draw_anyX {E : Env} {n0 : Nat} {G : World → Prop} {C : Clo} (hC : CS P n0 G C) {nt : Nat} {ops : Array Oper} {M0 : Nat → Prop} {ρ0 : Rho} {H0 : Hp} {w0 : World} (hE : Entry n0 G base M0 ρ0 H0 w0) {Q : Exit → Act → World → Prop} (hok : drawX P ops = true) {l : List LOper} (hl : mapO (compOper P nt ops) ops.toList = some l)
    {T : Nat → St} {av : Nat → AV} (hT : ∀ (i : Nat) (lo : LOper), l[i]? = some lo → (hardAt P ops i = false → oneSoft E C lo (T i) = some (T (i + 1))) ∧ (hardAt P ops i = true → oneFull E C lo (T i) = some (T (i + 1))))
    (hav : ∀ (i : Nat) (o : Oper), ops[i]? = some o → (T (i + 1)).s = putS (T i).s o.dst (av i)) (havx : ∀ (i : Nat) (o : Oper), ops[i]? = some o → o.dst = none → av i = .x) (hflo : ∀ (i k : Nat) (o : Oper) (lo : LOper), hardAt P ops i = false → i < k → k ≤ ops.size → ops[i]? = some o → l[i]? = some lo → (∀ h, i < h → h < k → hardAt P ops h = true → ((masks ops.toList []).getD h 0).testBit i = false) → oneSoft E C lo ⟨(T i).s, (T k).h⟩ = some ⟨(T (i + 1)).s, (T k).h⟩)
    (hQ : ∀ a' w' M' ρ', Rs base M0 ρ0 H0 w0 nt (T ops.size) a' w' M' ρ' → Q .normal a' w') :
    ∀ (fuel : Nat) (U : List Nat) (listed : Array Bool) (a : Act) (w : World) (M : Nat → Prop) (ρ : Rho) (k : Nat), U.length ≤ fuel → U.Nodup → (∀ j, j < ops.size → (listed.getD j false = false ↔ j ∈ U)) → MidX P base M0 ρ0 H0 w0 nt ops T av k listed a w M ρ → wpAny P .any ops Q fuel listed a w := by
  obtain ⟨hlt, hpair⟩ := drawX_spec hok
  obtain ⟨hll, hlat⟩ := mapO_some hl
  have hn : l.length = ops.size := by rw [hll]; simp
  have hsame : ∀ (d i : Nat), i + d ≤ ops.size → (∀ x, i ≤ x → x < i + d → hardAt P ops x = false) → (T (i + d)).h = (T i).h := by
    intro d
    induction d with
    | zero => intro i _ _; rfl
    | succ d ihd =>
      intro i hi hx
      have hil : i + d < l.length := by omega
      have := (hT (i + d) _ (List.getElem?_eq_getElem hil)).1 (hx (i + d) (by omega) (by omega))
      rw [show i + (d + 1) = i + d + 1 by omega, (soft_put this).2]
      exact ihd i (by omega) fun x h1 h2 => hx x h1 (by omega)
  have uniq : ∀ (i j : Nat) (q o : Oper) (t : Nat), ops[i]? = some q → ops[j]? = some o → q.dst = some t → o.dst = some t → i = j := by
    intro i j q o t hq ho h1 h2
    rcases Nat.lt_trichotomy i j with h | h | h
    · have := hpair i j q o h hq ho
      simp [pairX, h1, h2, sameDst] at this
    · exact h
    · have := hpair j i o q h ho hq
      simp [pairX, h1, h2, sameDst] at this
  have sT : ∀ i, i ≤ ops.size → ∀ t, (∀ (j : Nat) (o : Oper), j < i → ops[j]? = some o → o.dst = some t → sget (T i).s t = av j) ∧ ((∀ (j : Nat) (o : Oper), j < i → ops[j]? = some o → o.dst ≠ some t) → sget (T i).s t = sget (T 0).s t) := by
    intro i
    induction i with
    | zero => intro _ t; exact ⟨fun j o h => by omega, fun _ => rfl⟩
    | succ i ih =>
      intro hi t
      obtain ⟨oi, hoi⟩ : ∃ o, ops[i]? = some o := ⟨_, Array.getElem?_eq_getElem (by omega)⟩
      obtain ⟨ih1, ih2⟩ := ih (by omega) t
      have hs := hav i oi hoi
      refine ⟨fun j o hj ho hd => ?_, fun hno => ?_⟩
      · by_cases hji : j = i
        · subst hji
          rw [hoi] at ho
          cases ho
          rw [hs, hd]
          simp [putS, sget]
        · have hne : oi.dst ≠ some t := fun h => hji (uniq j i o oi t ho hoi hd h)
          rw [hs]
          cases hdi : oi.dst with
          | none => exact ih1 j o (by omega) ho hd
          | some u =>
            have hut : ¬ u = t := fun h => hne (by rw [hdi, h])
            simp only [putS, sget, if_neg hut]
            exact ih1 j o (by omega) ho hd
      · rw [hs]
        cases hdi : oi.dst with
        | none => exact ih2 fun j o hj ho => hno j o (by omega) ho
        | some u =>
          have hut : ¬ u = t := fun h => hno i oi (by omega) hoi (by rw [hdi, h])
          simp only [putS, sget, if_neg hut]
          exact ih2 fun j o hj ho => hno j o (by omega) ho
  intro fuel
  induction fuel with
  | zero =>
    intro U listed a w M ρ k hU hnd hmem hI
    have hnil : U = [] := List.eq_nil_of_length_eq_zero (by omega)
    have hall : ∀ j, j < ops.size → listed.getD j false = true := fun j hj => by
      cases hx : listed.getD j false with
      | true => rfl
      | false => have := (hmem j hj).1 hx; rw [hnil] at this; cases this
    have hfin := fin_ofX hI hall sT
    refine ⟨?_, hQ a w M ρ hfin⟩
    rw [List.eq_nil_iff_forall_not_mem]
    intro j hj
    obtain ⟨h1, o, h2, _⟩ := mem_ready.1 hj
    have hjs : j < ops.size := (Array.getElem?_eq_some_iff.1 h2).1
    have h3 := hall j hjs
    rw [Array.getD_eq_getD_getElem?, Array.getElem?_eq_getElem (by rw [hI.ls]; exact hjs)] at h1 h3
    simp at h1 h3
    rw [h1] at h3
    cases h3
  | succ fuel ih =>
    intro U listed a w M ρ k hU hnd hmem hI
    refine ⟨fun hre => ?_, fun i hi => ?_⟩
    · have hall : ∀ j, j < ops.size → listed.getD j false = true := by
        intro j
        induction j using Nat.strongRecOn with
        | _ j ihj =>
          intro hj
          cases hx : listed.getD j false with
          | true => rfl
          | false =>
            exfalso
            have : j ∈ Region.ready .any ops listed := by
              rw [mem_ready]
              refine ⟨?_, _, Array.getElem?_eq_getElem hj, fun e he hb => ?_⟩
              · rw [Array.getD_eq_getD_getElem?, Array.getElem?_eq_getElem (by rw [hI.ls]; exact hj)] at hx ⊢
                simpa using hx
              · have := hlt j _ (Array.getElem?_eq_getElem hj) e (by simpa using he) hb
                exact ihj e.on this (by omega)
            rw [hre] at this
            cases this
      exact hQ a w M ρ (fin_ofX hI hall sT)
    · obtain ⟨hun, o, ho, hpre⟩ := mem_ready.1 hi
      have his : i < ops.size := (Array.getElem?_eq_some_iff.1 ho).1
      have hunl : listed.getD i false = false := by
        rw [Array.getD_eq_getD_getElem?, Array.getElem?_eq_getElem (by rw [hI.ls]; exact his)] at hun ⊢
        simpa using hun
      have hpre' : ∀ e ∈ o.after.toList, Region.binds .any e = true → listed.getD e.on false = true := fun e he hb => hpre e (by simpa using he) hb
      have hbit : ∀ j, ((masks ops.toList []).getD i 0).testBit j = true → listed.getD j false = true := mask_listed (L := fun j => listed.getD j false = true) hlt hI.cl i o ho hpre'
      have hbitj : ∀ j q, listed.getD j false = true → ops[j]? = some q → ∀ x, ((masks ops.toList []).getD j 0).testBit x = true → listed.getD x false = true := fun j q hj hq => mask_listed (L := fun j => listed.getD j false = true) hlt hI.cl j q hq (hI.cl j q hj hq)
      obtain ⟨lo, hlo⟩ : ∃ lo, l[i]? = some lo := ⟨_, List.getElem?_eq_getElem (by omega)⟩
      have hcomp : compOper P nt ops o = some lo := hlat i o lo (by simpa using ho) hlo
      obtain ⟨hd, hnt, hgd, hop⟩ := compOper_some hcomp
      have reads : ∀ t, t ∈ o.looksAt ops → VR M w ρ (sget (T i).s t) (a.tmps.getD t undef) := by
        intro t ht
        obtain ⟨s1, s2⟩ := sT i (by omega) t
        by_cases hex : ∃ j q, j < i ∧ ops[j]? = some q ∧ q.dst = some t
        · obtain ⟨j, q, hj, hq, hdq⟩ := hex
          rw [s1 j q hj hq hdq]
          have hp := hpair j i q o hj hq ho
          simp only [pairX, Bool.and_eq_true] at hp
          have h2 := hp.1.1.2
          rw [(dstIn_iff hdq).2 (by unfold readsOf; exact ht)] at h2
          simp only [Bool.not_true, Bool.false_or] at h2
          exact hI.i1 j q t (hbit j h2) hq hdq
        · rw [s2 fun j q hj hq hdq => hex ⟨j, q, hj, hq, hdq⟩]
          refine hI.i2 t fun j q hj hq hdq => ?_
          rcases Nat.lt_trichotomy j i with h | h | h
          · exact hex ⟨j, q, h, hq, hdq⟩
          · subst h; rw [hunl] at hj; cases hj
          · have hp := hpair i j o q h ho hq
            simp only [pairX, Bool.and_eq_true] at hp
            have h2 := hp.1.2
            rw [(dstIn_iff hdq).2 (by unfold readsOf; exact ht)] at h2
            simp only [Bool.not_true, Bool.false_or] at h2
            have := hbitj j q hj hq i h2
            rw [hunl] at this
            cases this
      have hopd : Opd M ρ w (T i).s a o.op.operands.toList := by
        intro x hx
        cases x with
        | tmp t => exact reads t (looks_operand hx)
        | const v => exact vr_ofV v
        | global g => exact .v
        | func f => exact .fn rfl rfl (fun i c u h1 h2 => by simp at h1) (fun i c u h1 h2 => by simp at h1)
      have hgv : ∀ t b, lo.g = some (t, b) → VR M w ρ (sget (T i).s t) (a.tmps.getD t undef) := by
        intro t b hg
        refine reads t ?_
        rw [hg] at hgd
        cases hgg : o.guard with
        | none => rw [hgg] at hgd; cases hgd
        | some p =>
          obtain ⟨j, b'⟩ := p
          rw [hgg] at hgd
          simp only [guardOf] at hgd
          split at hgd
          · rename_i u hu
            cases hgd
            unfold Oper.looksAt
            rw [hgg]
            simp only
            rw [hu]
            exact List.mem_append.2 (.inr (by simp))
          · cases hgd
      obtain ⟨g1, g2⟩ := hE.at hI.ex
      have hset : ∀ j, (listed.setIfInBounds i true).getD j false = if j = i then true else listed.getD j false := by
        intro j
        by_cases hji : j = i
        · subst hji
          rw [if_pos rfl, Array.getD_eq_getD_getElem?, Array.getElem?_setIfInBounds, if_pos rfl, if_pos (by rw [hI.ls]; exact his)]
          rfl
        · rw [if_neg hji, Array.getD_eq_getD_getElem?, Array.getD_eq_getD_getElem?, Array.getElem?_setIfInBounds, if_neg (fun h => hji h.symm)]
      have hU' : (U.erase i).length ≤ fuel := by
        have hm := (hmem i his).1 hunl
        rw [List.length_erase_of_mem hm]
        omega
      have hmem' : ∀ j, j < ops.size → ((listed.setIfInBounds i true).getD j false = false ↔ j ∈ U.erase i) := by
        intro j hj
        rw [hset, hnd.mem_erase_iff]
        by_cases hji : j = i
        · simp [hji]
        · rw [if_neg hji, hmem j hj]; simp [hji]
      -- what the step leaves, whatever it was
      have step : ∀ (k' : Nat) (w' : World) (M' : Nat → Prop) (ρ' : Rho) (v : Value), HR base M' ρ' (T k').h w' → Ext M ρ (T k).h w M' ρ' (T k').h w' → VR M' w' ρ' (av i) v → k' ≤ ops.size → (k' = ops.size ∨ hardAt P ops k' = true) →
          (∀ j, j < ops.size → hardAt P ops j = true → ((listed.setIfInBounds i true).getD j false = true ↔ j < k')) → (∀ j q, ops[j]? = some q → hardAt P ops j = false → j < k' → (listed.setIfInBounds i true).getD j false = true ∨ ∀ h, j < h → h < k' → hardAt P ops h = true → ((masks ops.toList []).getD h 0).testBit j = false) →
          wpAny P .any ops Q fuel (listed.setIfInBounds i true) (a.put lo.dst v) w' := by
        intro k' w' M' ρ' v h1 h2 h3 h4 h5 h6 h7
        have keepM := hI.hr.keepM h2
        have hdt : ∀ t, o.dst = some t → t < a.tmps.size := fun t ht => by rw [hI.sz]; exact hnt t ht
        have get_put : ∀ t, (a.put lo.dst v).tmps.getD t undef = if o.dst = some t then v else a.tmps.getD t undef := by
          intro t
          rw [hd]
          cases hdo : o.dst with
          | none => simp [Act.put]
          | some u =>
            simp only [Act.put, Array.getD_eq_getD_getElem?, Array.getElem?_setIfInBounds]
            by_cases hu : u = t
            · subst hu; simp [hdt u hdo]
            · simp [hu]
        refine ih (U.erase i) _ _ w' M' ρ' k' hU' (hnd.erase i) hmem' { ls := by simp [hI.ls], hr := h1, ex := hI.ex.trans h2, sz := by rw [put_size]; exact hI.sz, df := by rw [put_defers]; exact hI.df, kn := h4, kh := h5, tail := h6, flo := h7, cl := fun j q hj hq e he hb => ?_, i1 := fun j q t hj hq hdq => ?_, i2 := fun t hno => ?_ }
        · rw [hset] at hj ⊢
          by_cases hji : j = i
          · subst hji
            rw [ho] at hq
            cases hq
            have := hpre' e he hb
            split
            · rfl
            · exact this
          · rw [if_neg hji] at hj
            have := hI.cl j q hj hq e he hb
            split
            · rfl
            · exact this
        · rw [hset] at hj
          rw [get_put]
          by_cases hji : j = i
          · subst hji
            rw [ho] at hq
            cases hq
            rw [if_pos hdq]
            exact h3
          · rw [if_neg hji] at hj
            have hne : ¬ o.dst = some t := fun h => hji (uniq j i q o t hq ho hdq h)
            rw [if_neg hne]
            exact (hI.i1 j q t hj hq hdq).mono h2.mle keepM h2.rle
        · rw [get_put]
          have hne : ¬ o.dst = some t := hno i o (by rw [hset, if_pos rfl]) ho
          rw [if_neg hne]
          refine (hI.i2 t fun j q hj hq => ?_).mono h2.mle keepM h2.rle
          refine hno j q ?_ hq
          rw [hset]
          split
          · rfl
          · exact hj
      have avEq : ∀ {x : AV} {y : St}, T (i + 1) = y → y.s = putS (T i).s lo.dst x → lo.dst = none ∨ x = av i := by
        intro x y hy hs
        have := hav i o ho
        rw [hy, hs, hd] at this
        cases hdo : o.dst with
        | none => exact .inl (by rw [hd, hdo])
        | some u =>
          rw [hdo] at this
          simp only [putS, List.cons.injEq, Prod.mk.injEq, true_and, and_true] at this
          exact .inr this
      have grow : ∀ j, listed.getD j false = true → (listed.setIfInBounds i true).getD j false = true := by
        intro j h
        rw [hset]
        split
        · rfl
        · exact h
      have kpair : ∀ q, ops[k]? = some q → k < i → hardAt P ops k = true → hardAt P ops i = false ∧ floatOp o.op = true := by
        intro q hq hki hkh
        have hp := hpair k i q o hki hq ho
        simp only [pairX, Bool.and_eq_true] at hp
        have h4 := hp.2
        rw [← hardAt_eq hq, hkh] at h4
        simp only [Bool.not_true, Bool.false_or, Bool.or_eq_true, Bool.and_eq_true, Bool.not_eq_true'] at h4
        rcases h4 with h4 | h4
        · have h5 := hbit k h4
          have h6 := (hI.tail k (Array.getElem?_eq_some_iff.1 hq).1 hkh).1 h5
          omega
        · exact ⟨(hardAt_eq ho).trans h4.1, h4.2⟩
      cases him : hardAt P ops i with
      | false =>
        have hsf := (hT i lo hlo).1 him
        have tail' : ∀ j, j < ops.size → hardAt P ops j = true → ((listed.setIfInBounds i true).getD j false = true ↔ j < k) := by
          intro j hj hjh
          rw [hset, if_neg (fun h => by rw [h, him] at hjh; cases hjh)]
          exact hI.tail j hj hjh
        have flo' : ∀ j q, ops[j]? = some q → hardAt P ops j = false → j < k → (listed.setIfInBounds i true).getD j false = true ∨ ∀ h, j < h → h < k → hardAt P ops h = true → ((masks ops.toList []).getD h 0).testBit j = false := by
          intro j q hq hjh hj
          rcases hI.flo j q hq hjh hj with h | h
          · exact .inl (grow j h)
          · exact .inr h
        have hsf' : oneSoft E C lo ⟨(T i).s, (T k).h⟩ = some ⟨(T (i + 1)).s, (T k).h⟩ := by
          rcases Nat.lt_trichotomy i k with hik | hik | hik
          · rcases hI.flo i o ho him hik with h | h
            · rw [hunl] at h; cases h
            · exact hflo i k o lo him hik hI.kn ho hlo h
          · rcases hI.kh with h | h
            · omega
            · rw [← hik, him] at h; cases h
          · rcases hI.kh with h | h
            · omega
            · obtain ⟨q, hq⟩ : ∃ q, ops[k]? = some q := ⟨_, Array.getElem?_eq_getElem (by omega)⟩
              exact float_at hcomp (kpair q hq hik h).2 hsf _
        refine (one_soft hC ho hcomp hsf' g1 hE.n0 g2 hI.hr hopd hgv fun x a' w' M' hs hr' hsoft' hat => ?_).2
        obtain ⟨v, rfl, hv⟩ := hat
        have hav' : VR M' w' ρ (av i) v ∨ lo.dst = none := by
          rcases avEq rfl hs with h | h
          · exact .inr h
          · exact .inl (h ▸ hv)
        rcases hav' with hav' | hnone
        · exact step k w' M' ρ v hr' (hsoft'.ext hI.hr) hav' hI.kn hI.kh tail' flo'
        · exact step k w' M' ρ v hr' (hsoft'.ext hI.hr) (by rw [havx i o ho (hd ▸ hnone)]; exact .x) hI.kn hI.kh tail' flo'
      | true =>
        have hsf := (hT i lo hlo).2 him
        have hik : i = k := by
          have h1 : ¬ i < k := fun h => by have := (hI.tail i his him).2 h; rw [hunl] at this; cases this
          apply Classical.byContradiction
          intro hne
          rcases hI.kh with h | h
          · omega
          · obtain ⟨q, hq⟩ : ∃ q, ops[k]? = some q := ⟨_, Array.getElem?_eq_getElem (by omega)⟩
            have := (kpair q hq (by omega) h).1
            rw [him] at this
            cases this
        subst hik
        obtain ⟨k', n1, n2, n3, n4⟩ := next_hard P ops (ops.size - (i + 1)) (i + 1) (by omega)
        have hh : (T k').h = (T (i + 1)).h := by
          have := hsame (k' - (i + 1)) (i + 1) (by omega) fun x h1 h2 => n4 x h1 (by omega)
          rw [show i + 1 + (k' - (i + 1)) = k' by omega] at this
          exact this
        refine one_full hC ho hcomp hsf g1 hE.n0 g2 hI.hr hopd hgv fun x a' w' M' ρ' hs hnx => ?_
        obtain ⟨v, rfl, hv⟩ := hnx.at_
        have e1 := hnx.hr
        have e2 := hnx.ex
        rw [← hh] at e1 e2
        have tail' : ∀ j, j < ops.size → hardAt P ops j = true → ((listed.setIfInBounds i true).getD j false = true ↔ j < k') := by
          intro j hj hjh
          rw [hset]
          by_cases hji : j = i
          · subst hji; simp; omega
          · rw [if_neg hji, hI.tail j hj hjh]
            refine ⟨fun h => by omega, fun h => ?_⟩
            apply Classical.byContradiction
            intro hn
            have := n4 j (by omega) h
            rw [hjh] at this
            cases this
        have flo' : ∀ j q, ops[j]? = some q → hardAt P ops j = false → j < k' → (listed.setIfInBounds i true).getD j false = true ∨ ∀ h, j < h → h < k' → hardAt P ops h = true → ((masks ops.toList []).getD h 0).testBit j = false := by
          intro j q hq hjh hj
          have only : ∀ h, h < k' → hardAt P ops h = true → h ≤ i := by
            intro h h1 h2
            apply Classical.byContradiction
            intro hn
            have := n4 h (by omega) h1
            rw [h2] at this
            cases this
          by_cases hji : j < i
          · cases hb : ((masks ops.toList []).getD i 0).testBit j with
            | true => exact .inl (grow j (hbit j hb))
            | false =>
              rcases hI.flo j q hq hjh hji with h | h
              · exact .inl (grow j h)
              · refine .inr fun x h1 h2 h3 => ?_
                have := only x h2 h3
                by_cases hxi : x = i
                · rw [hxi]; exact hb
                · exact h x h1 (by omega) h3
          · exact .inr fun x h1 h2 h3 => by have := only x h2 h3; omega
        rcases avEq rfl hs with hnone | hx
        · exact step k' w' M' ρ' v e1 e2 (by rw [havx i o ho (hd ▸ hnone)]; exact .x) n2 n3 tail' flo'
        · exact step k' w' M' ρ' v e1 e2 (hx ▸ hv) n2 n3 tail' flo'
end Go.Proofs.YtlmjoimjdpfamaaGreat.Ev
namespace Go.Proofs.YtlmjoimjdpfamaaGreat.Ev
variable {P : Program} {base : Nat} {M : Nat → Prop} {ρ : Rho} {w : World}
/-- An order in which a region's operations may come up. -/
def Sched (ops : Array Oper) : Array Bool → List Nat → Prop
  | listed, [] => Region.ready .any ops listed = []
  | listed, i :: r => i ∈ Region.ready .any ops listed ∧ Sched ops (listed.setIfInBounds i true) r
def openAt (listed : Array Bool) (n : Nat) : Nat := ((List.range n).filter fun i => !listed.getD i true).length
theorem mem_rdy {ops : Array Oper} {listed : Array Bool} {i : Nat} : i ∈ Region.ready .any ops listed ↔ listed.getD i true = false ∧ ∃ o, ops[i]? = some o ∧ ∀ e ∈ o.after.toList, Region.binds .any e = true → listed.getD e.on false = true := by
  rw [mem_ready]
  constructor
  · rintro ⟨h1, o, h2, h3⟩
    exact ⟨h1, o, h2, fun e he hb => h3 e (by simpa using he) hb⟩
  · rintro ⟨h1, o, h2, h3⟩
    exact ⟨h1, o, h2, fun e he hb => h3 e (by simpa using he) hb⟩
theorem filter_lt {p q : Nat → Bool} : ∀ (l : List Nat) {i : Nat}, i ∈ l → p i = true → q i = false → (∀ x, q x = true → p x = true) → (l.filter q).length < (l.filter p).length
  | [], i, h, _, _, _ => by cases h
  | x :: l, i, h, hp, hq, hm => by
    have hle : ∀ l : List Nat, (l.filter q).length ≤ (l.filter p).length := by
      intro l
      induction l with
      | nil => simp
      | cons y l ih =>
        simp only [List.filter_cons]
        cases hy : q y with
        | true => simp only [hm y hy, if_true, List.length_cons]; omega
        | false => cases hpy : p y <;> simp <;> omega
    simp only [List.filter_cons]
    rcases List.mem_cons.1 h with rfl | h
    · simp only [hp, hq, if_true, Bool.false_eq_true, if_false, List.length_cons]
      have := hle l
      omega
    · have ih := filter_lt l h hp hq hm
      cases hx : q x with
      | true => simp only [hm x hx, if_true, List.length_cons]; omega
      | false => cases hpx : p x <;> simp <;> omega
theorem set_getD (listed : Array Bool) (i x : Nat) (d : Bool) : (listed.setIfInBounds i true).getD x d = if x = i ∧ i < listed.size then true else listed.getD x d := by
  rw [Array.getD_eq_getD_getElem?, Array.getD_eq_getD_getElem?, Array.getElem?_setIfInBounds]
  by_cases h : i = x
  · subst h
    by_cases h2 : i < listed.size
    · simp [h2]
    · simp [h2]
  · have h3 : ¬ x = i := fun e => h e.symm
    simp [h, h3]
theorem open_lt {ops : Array Oper} {listed : Array Bool} {i : Nat} (h : i ∈ Region.ready .any ops listed) : openAt (listed.setIfInBounds i true) ops.size < openAt listed ops.size := by
  obtain ⟨h1, o, h2, _⟩ := mem_rdy.1 h
  have hi : i < ops.size := (Array.getElem?_eq_some_iff.1 h2).1
  have hs : i < listed.size := by
    rcases Nat.lt_or_ge i listed.size with h | h
    · exact h
    · rw [Array.getD_eq_getD_getElem?, Array.getElem?_eq_none h] at h1
      cases h1
  unfold openAt
  refine filter_lt (List.range ops.size) (i := i) (List.mem_range.2 hi) (by rw [h1]; rfl) ?_ ?_
  · rw [set_getD, if_pos ⟨rfl, hs⟩]; rfl
  · intro x hx
    rw [set_getD] at hx
    split at hx
    · cases hx
    · exact hx
theorem lin_sched {ops : Array Oper} : ∀ (fuel t : Nat) (listed : Array Bool), openAt listed ops.size ≤ fuel → Sched ops listed (Region.linearise.go .any ops fuel t listed []) := by
  intro fuel
  induction fuel with
  | zero =>
    intro t listed h
    simp only [Region.linearise.go, List.reverse_nil, Sched]
    rw [List.eq_nil_iff_forall_not_mem]
    intro i hi
    have := open_lt hi
    omega
  | succ fuel ih =>
    intro t listed h
    simp only [Region.linearise.go]
    change Sched ops listed (match (Region.ready .any ops listed)[t % (Region.ready .any ops listed).length]? with
      | some i => Region.linearise.go .any ops fuel (t / (Region.ready .any ops listed).length) (listed.setIfInBounds i true) [i]
      | none => [].reverse)
    cases hi : (Region.ready .any ops listed)[t % (Region.ready .any ops listed).length]? with
    | none =>
      show Region.ready .any ops listed = []
      cases hr : Region.ready .any ops listed with
      | nil => rfl
      | cons x xs =>
        rw [hr] at hi
        have hlt : t % (x :: xs).length < (x :: xs).length := Nat.mod_lt _ (by simp)
        simp at hi
        simp at hlt
        omega
    | some i =>
      have hm := List.mem_of_getElem? hi
      simp only []
      rw [linearise_go_acc, List.reverse_singleton, List.singleton_append]
      exact ⟨hm, ih _ _ (by have := open_lt hm; omega)⟩
theorem sched_len {ops : Array Oper} : ∀ (l : List Nat) (listed : Array Bool), Sched ops listed l → l.length ≤ openAt listed ops.size
  | [], _, _ => Nat.zero_le _
  | i :: r, listed, h => by
    have h1 := open_lt h.1
    have h2 := sched_len r _ h.2
    simp only [List.length_cons]
    omega
theorem open_le (listed : Array Bool) (n : Nat) : openAt listed n ≤ n := by
  unfold openAt
  have := List.length_filter_le (fun i => !listed.getD i true) (List.range n)
  simpa using this
theorem any_sched {ops : Array Oper} {Q : Exit → Act → World → Prop} : ∀ (l : List Nat) (fuel : Nat) (listed : Array Bool) (a : Act) (w : World), wpAny P .any ops Q fuel listed a w → Sched ops listed l → l.length ≤ fuel → wpOps P ops Q l a w
  | [], fuel, listed, a, w, h, hs, _ => by
    cases fuel with
    | zero => exact h.2
    | succ n => exact h.1 hs
  | i :: r, fuel, listed, a, w, h, hs, hl => by
    cases fuel with
    | zero => simp at hl
    | succ n =>
      rw [wpOps_cons]
      exact wpOp_mono (fun a' w' h' => any_sched r n _ a' w' h' hs.2 (by simp at hl; omega)) (h.2 i hs.1)
theorem wp_region_orders {Q : Exit → Act → World → Prop} {id : Nat} {ops : Array Oper} {a : Act} {w : World} (hm : P.follows .mixedOrders = true)
    (h : ∀ l, Sched ops (Array.replicate ops.size false) l → wpOps P ops Q l a { w with drawn := w.drawn + 1 }) : (Code.region id ops true).wp P Q a w :=
  wp_region_draw fun t => by
    simp only [Region.schedule, hm, Bool.true_or, if_true]
    exact h _ (lin_sched ops.size t _ (open_le _ _))
-- ---------------------------------------------------------------- one edge more
/-- No second one ahead of the first one. -/
def Bef (p q : Nat) : List Nat → Prop
  | [] => True
  | i :: r => i = p ∨ (i ≠ q ∧ Bef p q r)
theorem bef_or (p q : Nat) : ∀ l : List Nat, Bef p q l ∨ Bef q p l
  | [] => .inl trivial
  | i :: r => by
    by_cases h1 : i = p
    · exact .inl (.inl h1)
    · by_cases h2 : i = q
      · exact .inr (.inl h2)
      · rcases bef_or p q r with h | h
        · exact .inl (.inr ⟨h2, h⟩)
        · exact .inr (.inr ⟨h1, h⟩)
theorem edged_size (ops : Array Oper) (pq : List Nat) : (edged ops pq).size = ops.size := by
  unfold edged
  split
  · simp
  · rfl
theorem edged_at (ops : Array Oper) (p q i : Nat) : (edged ops [p, q])[i]? = (ops[i]?).map fun o => if i = q then { o with after := o.after.push ⟨p, .phase⟩ } else o := by
  unfold edged
  rw [Array.getElem?_modify]
  by_cases h : q = i
  · subst h; simp
  · have h2 : ¬ i = q := fun e => h e.symm
    simp [h, h2]
theorem rdy_edged {ops : Array Oper} {listed : Array Bool} {p q i : Nat} (h : i ∈ Region.ready .any ops listed) (hp : i = q → listed.getD p false = true) : i ∈ Region.ready .any (edged ops [p, q]) listed := by
  obtain ⟨h1, o, h2, h3⟩ := mem_rdy.1 h
  rw [mem_rdy]
  refine ⟨h1, _, by rw [edged_at, h2]; rfl, fun e he hb => ?_⟩
  dsimp only at he
  by_cases hq : i = q
  · rw [if_pos hq] at he
    simp only [Array.toList_push, List.mem_append, List.mem_singleton] at he
    rcases he with he | rfl
    · exact h3 e he hb
    · exact hp hq
  · rw [if_neg hq] at he
    exact h3 e he hb
theorem rdy_unedged {ops : Array Oper} {listed : Array Bool} {p q i : Nat} (h : i ∈ Region.ready .any (edged ops [p, q]) listed) : i ∈ Region.ready .any ops listed := by
  obtain ⟨h1, o, h2, h3⟩ := mem_rdy.1 h
  rw [edged_at] at h2
  cases ho : ops[i]? with
  | none => rw [ho] at h2; cases h2
  | some o' =>
    rw [ho] at h2
    simp only [Option.map_some, Option.some.injEq] at h2
    rw [mem_rdy]
    refine ⟨h1, o', ho, fun e he hb => h3 e ?_ hb⟩
    rw [← h2]
    split
    · simp [he]
    · exact he
theorem sched_edged {ops : Array Oper} {p q : Nat} (hpq : p ≠ q) : ∀ (l : List Nat) (listed : Array Bool), listed.size = ops.size → Sched ops listed l → (listed.getD p false = true ∨ Bef p q l) → Sched (edged ops [p, q]) listed l
  | [], listed, hz, h, _ => by
    show Region.ready .any (edged ops [p, q]) listed = []
    rw [List.eq_nil_iff_forall_not_mem]
    intro i hi
    have := rdy_unedged hi
    rw [show Region.ready .any ops listed = [] from h] at this
    cases this
  | i :: r, listed, hz, h, hb => by
    have his : i < listed.size := by
      obtain ⟨_, o, h2, _⟩ := mem_rdy.1 h.1
      rw [hz]
      exact (Array.getElem?_eq_some_iff.1 h2).1
    have hkeep : listed.getD p false = true → (listed.setIfInBounds i true).getD p false = true := by
      intro hp
      rw [set_getD]
      split
      · rfl
      · exact hp
    rcases hb with hb | rfl | ⟨hb1, hb2⟩
    · exact ⟨rdy_edged h.1 fun _ => hb, sched_edged hpq r _ (by simpa using hz) h.2 (.inl (hkeep hb))⟩
    · have hlast : Sched (edged ops [i, q]) (listed.setIfInBounds i true) r := sched_edged hpq r _ (by simpa using hz) h.2 (.inl (by rw [set_getD, if_pos ⟨rfl, his⟩]))
      exact ⟨rdy_edged h.1 fun e => absurd e hpq, hlast⟩
    · exact ⟨rdy_edged h.1 fun e => absurd e hb1, sched_edged hpq r _ (by simpa using hz) h.2 (.inr hb2)⟩
theorem wpOp_edged {ops : Array Oper} {pq : List Nat} {Q : Exit → Act → World → Prop} (i : Nat) (K : Act → World → Prop) (a : Act) (w : World) : wpOp P (edged ops pq) Q i K a w = wpOp P ops Q i K a w := by
  unfold edged
  split
  · rename_i p q
    have hy : yielded (edged ops [p, q]) a.tmps = yielded ops a.tmps := by
      funext j
      unfold yielded
      rw [edged_at]
      cases ops[j]? with
      | none => rfl
      | some o =>
        simp only [Option.map_some, Option.bind_some]
        by_cases hq : j = q
        · rw [if_pos hq]
        · rw [if_neg hq]
    show wpOp P (edged ops [p, q]) Q i K a w = wpOp P ops Q i K a w
    unfold wpOp
    rw [hy, edged_at]
    cases ops[i]? with
    | none => rfl
    | some o =>
      simp only [Option.map_some]
      split <;> rfl
  · rfl
theorem wpOps_edged {ops : Array Oper} {pq : List Nat} {Q : Exit → Act → World → Prop} : ∀ (l : List Nat) (a : Act) (w : World), wpOps P (edged ops pq) Q l a w → wpOps P ops Q l a w
  | [], _, _, h => h
  | i :: r, a, w, h => by
    rw [wpOps_cons] at h ⊢
    rw [wpOp_edged] at h
    exact wpOp_mono (fun a' w' h' => wpOps_edged r a' w' h') h
-- ---------------------------------------------------------------- another order of the list
structure Perm (n : Nat) (σ : List Nat) : Prop where
  len : σ.length = n
  lt : ∀ i ∈ σ, i < n
  nd : σ.Nodup
  all : ∀ i, i < n → i ∈ σ
theorem permOk_spec {n : Nat} {σ : List Nat} (h : permOk n σ = true) : Perm n σ := by
  unfold permOk at h
  simp only [Bool.and_eq_true, decide_eq_true_eq, List.all_eq_true, List.mem_range, List.contains_iff_mem] at h
  exact ⟨h.1.1.1, h.1.1.2, h.1.2, h.2⟩
theorem pos_lt {n : Nat} {σ : List Nat} (hσ : Perm n σ) {i : Nat} (h : i < n) : σ.idxOf i < n := by rw [← hσ.len]; exact List.idxOf_lt_length_iff.2 (hσ.all i h)
theorem pos_get {n : Nat} {σ : List Nat} (hσ : Perm n σ) {i : Nat} (h : i < n) : σ[σ.idxOf i]? = some i := by
  rw [List.getElem?_eq_getElem (by rw [hσ.len]; exact pos_lt hσ h)]
  simp
theorem pos_inj {n : Nat} {σ : List Nat} (hσ : Perm n σ) {i j : Nat} (hi : i < n) (hj : j < n) (h : σ.idxOf i = σ.idxOf j) : i = j := by
  have h1 := pos_get hσ hi
  rw [h, pos_get hσ hj] at h1
  cases h1; rfl
theorem pos_ge {n : Nat} {σ : List Nat} (hσ : Perm n σ) {i : Nat} (h : ¬ i < n) : σ.idxOf i = n := by
  rw [← hσ.len]
  exact List.idxOf_eq_length fun hm => h (hσ.lt i hm)
theorem pos_at {n : Nat} {σ : List Nat} (hσ : Perm n σ) {p : Nat} (h : p < n) : ∃ i, i < n ∧ σ.idxOf i = p := by
  have hp : p < σ.length := by rw [hσ.len]; exact h
  refine ⟨σ[p], hσ.lt _ (List.getElem_mem hp), ?_⟩
  exact hσ.nd.idxOf_getElem p hp
theorem moved_size {n : Nat} {σ : List Nat} (hσ : Perm n σ) (ops : Array Oper) : (moved ops σ).size = n := by unfold moved; simp [hσ.len]
theorem moved_at {n : Nat} {σ : List Nat} (hσ : Perm n σ) {ops : Array Oper} (hz : ops.size = n) {i : Nat} (h : i < n) : (moved ops σ)[σ.idxOf i]? = (ops[i]?).map (chg σ) := by
  unfold moved
  rw [List.getElem?_toArray, List.getElem?_map, pos_get hσ h]
  have : ops[i]? = some (ops[i]'(by omega)) := Array.getElem?_eq_getElem _
  simp only [Option.map_some, this]
/-- The same operations stand listed. -/
def Cor (n : Nat) (σ : List Nat) (a b : Array Bool) : Prop := a.size = n ∧ b.size = n ∧ ∀ i, i < n → ∀ d, b.getD (σ.idxOf i) d = a.getD i d
theorem cor_off {n : Nat} {σ : List Nat} (hσ : Perm n σ) {a b : Array Bool} (h : Cor n σ a b) (i : Nat) : b.getD (σ.idxOf i) false = a.getD i false := by
  by_cases hi : i < n
  · exact h.2.2 i hi false
  · rw [pos_ge hσ hi, Array.getD_eq_getD_getElem?, Array.getD_eq_getD_getElem?, Array.getElem?_eq_none (by rw [h.2.1]; exact Nat.le_refl _), Array.getElem?_eq_none (by rw [h.1]; omega)]
theorem cor_set {n : Nat} {σ : List Nat} (hσ : Perm n σ) {a b : Array Bool} (h : Cor n σ a b) {i : Nat} (hi : i < n) : Cor n σ (a.setIfInBounds i true) (b.setIfInBounds (σ.idxOf i) true) := by
  refine ⟨by simpa using h.1, by simpa using h.2.1, fun j hj d => ?_⟩
  rw [set_getD, set_getD]
  by_cases hji : j = i
  · subst hji
    rw [if_pos ⟨rfl, by rw [h.2.1]; exact pos_lt hσ hj⟩, if_pos ⟨rfl, by rw [h.1]; exact hj⟩]
  · rw [if_neg fun e => hji (pos_inj hσ hj hi e.1), if_neg fun e => hji e.1]
    exact h.2.2 j hj d
theorem rdy_moved {n : Nat} {σ : List Nat} (hσ : Perm n σ) {ops : Array Oper} (hz : ops.size = n) {a b : Array Bool} (h : Cor n σ a b) {i : Nat} (hi : i < n) : σ.idxOf i ∈ Region.ready .any (moved ops σ) b ↔ i ∈ Region.ready .any ops a := by
  rw [mem_rdy, mem_rdy, h.2.2 i hi true, moved_at hσ hz hi]
  refine and_congr_right fun _ => ?_
  have hb : ∀ (e : Edge) (k : Nat), Region.binds .any { e with on := k } = Region.binds .any e := fun e k => rfl
  constructor
  · rintro ⟨o, h2, h3⟩
    cases ho : ops[i]? with
    | none => rw [ho] at h2; cases h2
    | some o' =>
      rw [ho] at h2
      simp only [Option.map_some, Option.some.injEq] at h2
      subst h2
      refine ⟨o', rfl, fun e he hbe => ?_⟩
      have := h3 { e with on := σ.idxOf e.on } (by simp only [chg, Array.toList_map, List.mem_map]; exact ⟨e, he, rfl⟩) (by rw [hb]; exact hbe)
      rw [cor_off hσ h] at this
      exact this
  · rintro ⟨o, h2, h3⟩
    refine ⟨chg σ o, by rw [h2]; rfl, fun e he hbe => ?_⟩
    simp only [chg, Array.toList_map, List.mem_map] at he
    obtain ⟨e', he', rfl⟩ := he
    rw [hb] at hbe
    have := h3 e' he' hbe
    rw [← cor_off hσ h] at this
    exact this
theorem sched_moved {n : Nat} {σ : List Nat} (hσ : Perm n σ) {ops : Array Oper} (hz : ops.size = n) : ∀ (l : List Nat) (a b : Array Bool), Cor n σ a b → Sched ops a l → Sched (moved ops σ) b (l.map fun i => σ.idxOf i)
  | [], a, b, h, hs => by
    show Region.ready .any (moved ops σ) b = []
    rw [List.eq_nil_iff_forall_not_mem]
    intro p hp
    have hpn : p < n := by
      obtain ⟨_, o, h2, _⟩ := mem_rdy.1 hp
      rw [← moved_size hσ ops]
      exact (Array.getElem?_eq_some_iff.1 h2).1
    obtain ⟨i, hi, rfl⟩ := pos_at hσ hpn
    have := (rdy_moved hσ hz h hi).1 hp
    rw [show Region.ready .any ops a = [] from hs] at this
    cases this
  | i :: r, a, b, h, hs => by
    have hi : i < n := by
      obtain ⟨_, o, h2, _⟩ := mem_rdy.1 hs.1
      rw [← hz]
      exact (Array.getElem?_eq_some_iff.1 h2).1
    exact ⟨(rdy_moved hσ hz h hi).2 hs.1, sched_moved hσ hz r _ _ (cor_set hσ h hi) hs.2⟩
theorem yield_moved {n : Nat} {σ : List Nat} (hσ : Perm n σ) {ops : Array Oper} (hz : ops.size = n) (tmps : Array Value) (j : Nat) : yielded (moved ops σ) tmps (σ.idxOf j) = yielded ops tmps j := by
  have h : ((moved ops σ)[σ.idxOf j]?).bind (·.dst) = (ops[j]?).bind (·.dst) := by
    by_cases hj : j < n
    · rw [moved_at hσ hz hj]
      cases ops[j]? <;> rfl
    · rw [pos_ge hσ hj, Array.getElem?_eq_none (by rw [moved_size hσ]; exact Nat.le_refl _), Array.getElem?_eq_none (by omega)]
  unfold yielded
  rw [h]
theorem wpOp_moved {n : Nat} {σ : List Nat} (hσ : Perm n σ) {ops : Array Oper} (hz : ops.size = n) {Q : Exit → Act → World → Prop} {i : Nat} (hi : i < n) (K : Act → World → Prop) (a : Act) (w : World) : wpOp P (moved ops σ) Q (σ.idxOf i) K a w = wpOp P ops Q i K a w := by
  unfold wpOp
  rw [moved_at hσ hz hi]
  cases ops[i]? with
  | none => rfl
  | some o =>
    simp only [Option.map_some]
    have hw : Region.wanted (chg σ o) (yielded (moved ops σ) a.tmps) = Region.wanted o (yielded ops a.tmps) := by
      unfold Region.wanted chg
      cases hg : o.guard with
      | none => rfl
      | some g =>
        simp only [Option.map_some]
        rw [yield_moved hσ hz]
    rw [hw]
    rfl
theorem wpOps_moved {n : Nat} {σ : List Nat} (hσ : Perm n σ) {ops : Array Oper} (hz : ops.size = n) {Q : Exit → Act → World → Prop} : ∀ (l : List Nat) (a : Act) (w : World), (∀ i ∈ l, i < n) → wpOps P (moved ops σ) Q (l.map fun i => σ.idxOf i) a w → wpOps P ops Q l a w
  | [], _, _, _, h => h
  | i :: r, a, w, hl, h => by
    rw [List.map_cons, wpOps_cons] at h
    rw [wpOps_cons]
    rw [wpOp_moved hσ hz (hl i (by simp))] at h
    exact wpOp_mono (fun a' w' h' => wpOps_moved hσ hz r a' w' (fun j hj => hl j (by simp [hj])) h') h
theorem sched_lt {ops : Array Oper} : ∀ (l : List Nat) (listed : Array Bool), Sched ops listed l → ∀ i ∈ l, i < ops.size
  | [], _, _, i, h => by cases h
  | j :: r, listed, hs, i, h => by
    rcases List.mem_cons.1 h with rfl | h
    · obtain ⟨_, o, h2, _⟩ := mem_rdy.1 hs.1
      exact (Array.getElem?_eq_some_iff.1 h2).1
    · exact sched_lt r _ hs.2 i h
/-- A region's operations in another order of the list, where a pair of them comes up in one order. -/
theorem orders_moved {ops : Array Oper} {pq σ : List Nat} (hσ : permOk ops.size σ = true) {Q : Exit → Act → World → Prop} {a : Act} {w : World}
    (h : wpAny P .any (moved (edged ops pq) σ) Q (moved (edged ops pq) σ).size (Array.replicate (moved (edged ops pq) σ).size false) a w) (l : List Nat) (hs : Sched (edged ops pq) (Array.replicate ops.size false) l) : wpOps P ops Q l a w := by
  have hp := permOk_spec hσ
  have hz : (edged ops pq).size = ops.size := edged_size ops pq
  have hc : Cor ops.size σ (Array.replicate ops.size false) (Array.replicate ops.size false) := by
    refine ⟨by simp, by simp, fun i hi d => ?_⟩
    have hp2 := pos_lt hp hi
    simp [Array.getD_eq_getD_getElem?, Array.getElem?_replicate, hi, hp2]
  have h1 := sched_moved hp hz l _ _ hc hs
  rw [moved_size hp] at h
  have h2 := sched_len _ _ h1
  rw [moved_size hp] at h2
  have h3 := any_sched _ _ _ _ _ h h1 (Nat.le_trans h2 (open_le _ _))
  exact wpOps_edged _ _ _ (wpOps_moved hp hz l _ _ (fun i hi => by rw [← hz]; exact sched_lt l _ hs i hi) h3)
end Go.Proofs.YtlmjoimjdpfamaaGreat.Ev
namespace Go.Proofs.YtlmjoimjdpfamaaGreat.Ev
variable {P : Program} {base : Nat} {M : Nat → Prop} {ρ : Rho} {w : World}
def exOf : Ex → Exit
  | .nrm => .normal
  | .ext i => .exit i
  | .ret => .ret
def Lands (base : Nat) (M0 : Nat → Prop) (ρ0 : Rho) (H0 : Hp) (w0 : World) (nt : Nat) (x : Ex) (y : St) : Exit → Act → World → Prop :=
  fun e a w => e = exOf x ∧ ∃ M ρ, Rs base M0 ρ0 H0 w0 nt y a w M ρ
theorem Rs.pack {nt : Nat} {M0 : Nat → Prop} {ρ0 : Rho} {H0 : Hp} {w0 : World} {n0 : Nat} {G : World → Prop} (hE : Entry n0 G base M0 ρ0 H0 w0) {z y : St} {a : Act} (hR : Rs base M0 ρ0 H0 w0 nt z a w M ρ) {li : List Nat} (h : pack H0.length li z = some y) : ∃ ρ', Rs base M0 ρ0 H0 w0 nt y a w M ρ' := by
  have hl : H0.length ≤ z.h.length := by
    rw [hR.hr.len, hE.hr.len]
    cases hn : ρ0.length with
    | zero => omega
    | succ k =>
      have hk : ρ0[k]? = some (ρ0[k]'(by omega)) := List.getElem?_eq_getElem _
      rcases hR.ex.rle _ _ hk with h1 | h1 <;> exact (List.getElem?_eq_some_iff.1 h1).1
  obtain ⟨ρ', p1, p2, p3, p4, _⟩ := pack_sound h hR.hr hl hR.sl
  refine ⟨ρ', { hr := p1, sl := p2, sz := hR.sz, df := hR.df, ex := { os := hR.ex.os, tape := hR.ex.tape, output := hR.ex.output, size := hR.ex.size, keep := hR.ex.keep, mle := hR.ex.mle, mnew := hR.ex.mnew, wr := fun g hg => hR.ex.wr g (p3 g hg), rle := fun id o ho => ?_ } }⟩
  have hid : id < H0.length := by rw [hE.hr.len]; exact (List.getElem?_eq_some_iff.1 ho).1
  rw [p4 id hid]
  exact hR.ex.rle id o ho
theorem region_seq {E : Env} {n0 : Nat} {G : World → Prop} {C : Clo} (hC : CS P n0 G C) {nt : Nat} {ops : Array Oper} {M0 : Nat → Prop} {ρ0 : Rho} {H0 : Hp} {w0 : World} (hE : Entry n0 G base M0 ρ0 H0 w0) {l : List LOper} (hl : mapO (compOper P nt ops) ops.toList = some l) {z y : St} (he : evOps E C 0 l z = some y) {a : Act} (hR : Rs base M0 ρ0 H0 w0 nt z a w M ρ) (id : Nat) :
    (Code.region id ops false).wp P (Lands base M0 ρ0 H0 w0 nt .nrm y) a w := by
  refine wp_region ?_
  have := ops_seq hC hE (Q := Lands base M0 ρ0 H0 w0 nt .nrm y) (ops := ops) l ops.toList 0 z y a w M ρ (fun j => by simp) hl he hR (fun a' w' M' ρ' h => ⟨rfl, M', ρ', h⟩)
  rw [List.range_eq_range', ← Array.length_toList]
  exact this
theorem region_draw {E : Env} {n0 : Nat} {G : World → Prop} {C : Clo} (hm : P.follows .mixedOrders = true) (hC : CS P n0 G C) {nt : Nat} {ops : Array Oper} {M0 : Nat → Prop} {ρ0 : Rho} {H0 : Hp} {w0 : World} (hE : Entry n0 G base M0 ρ0 H0 w0) {l : List LOper} (hl : mapO (compOper P nt ops) ops.toList = some l) (hok : drawOk P ops = true) {z y : St} (he : evOps E C (softLen P ops) l z = some y) {a : Act} (hR : Rs base M0 ρ0 H0 w0 nt z a w M ρ) (id : Nat) :
    (Code.region id ops true).wp P (Lands base M0 ρ0 H0 w0 nt .nrm y) a w := by
  refine wp_region_any hm ?_
  obtain ⟨T, t0, t1, hT⟩ := evOps_trace l (softLen P ops) z y he
  obtain ⟨hll, hlat⟩ := mapO_some hl
  have hn : l.length = ops.size := by rw [hll]; simp
  have hsoft : softLen P ops ≤ ops.size := by
    unfold softLen
    have := (List.takeWhile_sublist (l := ops.toList) (fun o : Oper => !hardB P ops o)).length_le
    simpa using this
  have hth : ∀ i, i ≤ softLen P ops → (T i).h = z.h := by
    intro i
    induction i with
    | zero => intro _; rw [t0]
    | succ i ih =>
      intro hi
      have hil : i < l.length := by omega
      have := (hT i _ (List.getElem?_eq_getElem hil)).1 (by omega)
      rw [(soft_put this).2]
      exact ih (by omega)
  have hput : ∀ (i : Nat) (o : Oper), ops[i]? = some o → ∃ x, (T (i + 1)).s = putS (T i).s o.dst x := by
    intro i o ho
    have his : i < ops.size := (Array.getElem?_eq_some_iff.1 ho).1
    have hlo : l[i]? = some (l[i]'(by omega)) := List.getElem?_eq_getElem _
    obtain ⟨hd, _⟩ := compOper_some (hlat i o _ (by simpa using ho) hlo)
    by_cases hi : i < softLen P ops
    · obtain ⟨x, hx⟩ := (soft_put ((hT i _ hlo).1 hi)).1
      exact ⟨x, by rw [hx, hd]⟩
    · obtain ⟨x, hx⟩ := one_put ((hT i _ hlo).2 (by omega))
      exact ⟨x, by rw [hx, hd]⟩
  rw [hn] at t1
  have hfin : ∀ a' w' M' ρ', Rs base M0 ρ0 H0 w0 nt (T ops.size) a' w' M' ρ' → Lands base M0 ρ0 H0 w0 nt .nrm y .normal a' w' := fun a' w' M' ρ' h => ⟨rfl, M', ρ', t1 ▸ h⟩
  have hrep : ∀ j, (Array.replicate ops.size false).getD j false = false := by
    intro j
    rw [Array.getD_eq_getD_getElem?, Array.getElem?_replicate]
    split <;> rfl
  refine draw_any hC hE hok hl (T := T) (av := fun i => match (ops[i]?).bind (·.dst) with | none => .x | some d => sget (T (i + 1)).s d) hT (fun i o ho => ?_) (fun i o ho hd => ?_) hfin ops.size (List.range ops.size) _ a _ M ρ (softLen P ops) (by simp) List.nodup_range (fun j hj => by rw [hrep]; simpa using hj)
    { ls := by simp, hr := ?_, ex := ?_, sz := hR.sz, df := hR.df, mge := Nat.le_refl _, kn := hsoft, tail := fun j h1 h2 => (by rw [hrep]; simp; omega), flo := fun h => (by omega), cl := fun j o h => (by rw [hrep] at h; cases h), i1 := fun j o t h => (by rw [hrep] at h; cases h), i2 := fun t _ => ?_ }
  · obtain ⟨x, hx⟩ := hput i o ho
    rw [hx]
    simp only [ho, Option.bind_some]
    cases hdo : o.dst with
    | none => rfl
    | some d => simp [putS, sget]
  · simp [ho, hd]
  · rw [hth _ (Nat.le_refl _)]
    exact HR.world (w := w) rfl hR.hr
  · rw [hth _ (Nat.le_refl _)]
    exact ⟨hR.ex.os, hR.ex.tape, hR.ex.output, hR.ex.size, hR.ex.keep, hR.ex.mle, hR.ex.mnew, hR.ex.wr, hR.ex.rle⟩
  · rw [t0]
    exact VR.world (w := w) (w' := { w with drawn := w.drawn + 1 }) rfl (hR.sl t)
theorem drawX_any {E : Env} {n0 : Nat} {G : World → Prop} {C : Clo} (hm : P.follows .mixedOrders = true) (hC : CS P n0 G C) {nt : Nat} {ops : Array Oper} {M0 : Nat → Prop} {ρ0 : Rho} {H0 : Hp} {w0 : World} (hE : Entry n0 G base M0 ρ0 H0 w0) {l : List LOper} (hl : mapO (compOper P nt ops) ops.toList = some l) (hok : drawX P ops = true) {z y : St} (he : evX E C (l.zip (marksX P ops)) [] 0 z = some y) {a : Act} (hR : Rs base M0 ρ0 H0 w0 nt z a w M ρ) {Q : Exit → Act → World → Prop} (hQ : ∀ a' w' M' ρ', Rs base M0 ρ0 H0 w0 nt y a' w' M' ρ' → Q .normal a' w') :
    wpAny P .any ops Q ops.size (Array.replicate ops.size false) a { w with drawn := w.drawn + 1 } := by
  obtain ⟨T, t0, t1, hT0, _, hck⟩ := evX_trace _ [] 0 z y he
  obtain ⟨hll, hlat⟩ := mapO_some hl
  have hn : l.length = ops.size := by rw [hll]; simp
  have hmk : ∀ (i : Nat) (o : Oper), ops[i]? = some o → (marksX P ops)[i]? = some (markX P ops (masks ops.toList []) (o, i)) := by
    intro i o ho
    have h1 : ops.toList[i]? = some o := by simpa using ho
    unfold marksX
    simp only []
    rw [List.getElem?_map, List.getElem?_zipIdx, h1]
    simp
  have hzip : ∀ (i : Nat) (o : Oper) (lo : LOper), ops[i]? = some o → l[i]? = some lo → (l.zip (marksX P ops))[i]? = some (lo, hardB P ops o, (markX P ops (masks ops.toList []) (o, i)).2) := by
    intro i o lo ho hlo
    rw [List.getElem?_zip_eq_some]
    exact ⟨hlo, hmk i o ho⟩
  have hlz : (l.zip (marksX P ops)).length = ops.size := by
    rw [List.length_zip, hn]
    unfold marksX
    simp
  rw [hlz] at t1
  have op_at : ∀ (i : Nat) (lo : LOper), l[i]? = some lo → ∃ o, ops[i]? = some o := by
    intro i lo h
    have : i < l.length := (List.getElem?_eq_some_iff.1 h).1
    exact ⟨_, Array.getElem?_eq_getElem (by omega)⟩
  have hT : ∀ (i : Nat) (lo : LOper), l[i]? = some lo → (hardAt P ops i = false → oneSoft E C lo (T i) = some (T (i + 1))) ∧ (hardAt P ops i = true → oneFull E C lo (T i) = some (T (i + 1))) := by
    intro i lo hlo
    obtain ⟨o, ho⟩ := op_at i lo hlo
    have := hT0 i lo _ _ (hzip i o lo ho hlo)
    rw [← hardAt_eq (P := P) ho] at this
    exact this
  have hsame : ∀ (d i : Nat), i + d ≤ ops.size → (∀ x, i ≤ x → x < i + d → hardAt P ops x = false) → (T (i + d)).h = (T i).h := by
    intro d
    induction d with
    | zero => intro i _ _; rfl
    | succ d ihd =>
      intro i hi hx
      have hil : i + d < l.length := by omega
      have := (hT (i + d) _ (List.getElem?_eq_getElem hil)).1 (hx (i + d) (by omega) (by omega))
      rw [show i + (d + 1) = i + d + 1 by omega, (soft_put this).2]
      exact ihd i (by omega) fun x h1 h2 => hx x h1 (by omega)
  have hput : ∀ (i : Nat) (o : Oper), ops[i]? = some o → ∃ x, (T (i + 1)).s = putS (T i).s o.dst x := by
    intro i o ho
    have his : i < ops.size := (Array.getElem?_eq_some_iff.1 ho).1
    have hlo : l[i]? = some (l[i]'(by omega)) := List.getElem?_eq_getElem _
    obtain ⟨hd, _⟩ := compOper_some (hlat i o _ (by simpa using ho) hlo)
    cases hh : hardAt P ops i with
    | false =>
      obtain ⟨x, hx⟩ := (soft_put ((hT i _ hlo).1 hh)).1
      exact ⟨x, by rw [hx, hd]⟩
    | true =>
      obtain ⟨x, hx⟩ := one_put ((hT i _ hlo).2 hh)
      exact ⟨x, by rw [hx, hd]⟩
  have hflo : ∀ (i k : Nat) (o : Oper) (lo : LOper), hardAt P ops i = false → i < k → k ≤ ops.size → ops[i]? = some o → l[i]? = some lo → (∀ h, i < h → h < k → hardAt P ops h = true → ((masks ops.toList []).getD h 0).testBit i = false) → oneSoft E C lo ⟨(T i).s, (T k).h⟩ = some ⟨(T (i + 1)).s, (T k).h⟩ := by
    intro i k o lo hi hik hkn ho hlo hx
    have hs := (hT i lo hlo).1 hi
    cases hf : floatOp o.op with
    | true => exact float_at (hlat i o lo (by simpa using ho) hlo) hf hs _
    | false =>
      rcases last_hard P ops (k - (i + 1)) (i + 1) with hno | ⟨q, q1, q2, q3, q4⟩
      · have h1 := hsame (k - i) i (by omega) fun x h1 h2 => by
          by_cases hxi : x = i
          · rw [hxi]; exact hi
          · exact hno x (by omega) (by omega)
        rw [show i + (k - i) = k by omega] at h1
        have h2 := (soft_put hs).2
        rw [h1]
        have e1 : (⟨(T i).s, (T i).h⟩ : St) = T i := rfl
        have e2 : (⟨(T (i + 1)).s, (T i).h⟩ : St) = T (i + 1) := by rw [← h2]
        rw [e1, e2]
        exact hs
      · have h1 := hsame (k - (q + 1)) (q + 1) (by omega) fun x h1 h2 => q4 x (by omega) (by omega)
        rw [show q + 1 + (k - (q + 1)) = k by omega] at h1
        rw [h1]
        have hql : q < l.length := by omega
        have hqo : ∃ oq, ops[q]? = some oq := ⟨_, Array.getElem?_eq_getElem (by omega)⟩
        obtain ⟨oq, hoq⟩ := hqo
        have z1 := hzip i o lo ho hlo
        have z2 := hzip q oq _ hoq (List.getElem?_eq_getElem hql)
        rw [← hardAt_eq (P := P) ho, hi] at z1
        rw [← hardAt_eq (P := P) hoq, q3] at z2
        refine hck q i lo _ _ _ (by omega) z1 z2 ?_
        unfold markX
        simp only [hf, Bool.false_eq_true, if_false]
        have := firstB_le (P := P) ops (masks ops.toList []) i (ops.size - (i + 1)) (i + 1) q (by omega) (by omega) fun y h1 h2 h3 => hx y (by omega) (by omega) h3
        omega
  have hfin : ∀ a' w' M' ρ', Rs base M0 ρ0 H0 w0 nt (T ops.size) a' w' M' ρ' → Q .normal a' w' := fun a' w' M' ρ' h => hQ a' w' M' ρ' (t1 ▸ h)
  have hrep : ∀ j, (Array.replicate ops.size false).getD j false = false := by
    intro j
    rw [Array.getD_eq_getD_getElem?, Array.getElem?_replicate]
    split <;> rfl
  obtain ⟨k0, _, n2, n3, n4⟩ := next_hard P ops ops.size 0 (by omega)
  have hk0 : (T k0).h = z.h := by
    have := hsame k0 0 (by omega) fun x h1 h2 => n4 x h1 (by omega)
    rw [Nat.zero_add, t0] at this
    exact this
  refine draw_anyX hC hE hok hl (T := T) (av := fun i => match (ops[i]?).bind (·.dst) with | none => .x | some d => sget (T (i + 1)).s d) hT (fun i o ho => ?_) (fun i o ho hd => ?_) hflo hfin ops.size (List.range ops.size) _ a _ M ρ k0 (by simp) List.nodup_range (fun j hj => by rw [hrep]; simpa using hj)
    { ls := by simp, hr := ?_, ex := ?_, sz := hR.sz, df := hR.df, kn := n2, kh := n3, tail := fun j h1 h2 => (by rw [hrep]; simp; exact Nat.le_of_not_lt fun h => by have := n4 j (by omega) h; rw [h2] at this; cases this), flo := fun j o ho hs hj => .inr fun h h1 h2 h3 => (by have := n4 h (by omega) h2; rw [h3] at this; cases this), cl := fun j o h => (by rw [hrep] at h; cases h), i1 := fun j o t h => (by rw [hrep] at h; cases h), i2 := fun t _ => ?_ }
  · obtain ⟨x, hx⟩ := hput i o ho
    rw [hx]
    simp only [ho, Option.bind_some]
    cases hdo : o.dst with
    | none => rfl
    | some d => simp [putS, sget]
  · simp [ho, hd]
  · rw [hk0]
    exact HR.world (w := w) rfl hR.hr
  · rw [hk0]
    exact ⟨hR.ex.os, hR.ex.tape, hR.ex.output, hR.ex.size, hR.ex.keep, hR.ex.mle, hR.ex.mnew, hR.ex.wr, hR.ex.rle⟩
  · rw [t0]
    exact VR.world (w := w) (w' := { w with drawn := w.drawn + 1 }) rfl (hR.sl t)
theorem region_drawX {E : Env} {n0 : Nat} {G : World → Prop} {C : Clo} (hm : P.follows .mixedOrders = true) (hC : CS P n0 G C) {nt : Nat} {ops : Array Oper} {M0 : Nat → Prop} {ρ0 : Rho} {H0 : Hp} {w0 : World} (hE : Entry n0 G base M0 ρ0 H0 w0) {l : List LOper} (hl : mapO (compOper P nt ops) ops.toList = some l) (hok : drawX P ops = true) {z y : St} (he : evX E C (l.zip (marksX P ops)) [] 0 z = some y) {a : Act} (hR : Rs base M0 ρ0 H0 w0 nt z a w M ρ) (id : Nat) :
    (Code.region id ops true).wp P (Lands base M0 ρ0 H0 w0 nt .nrm y) a w :=
  wp_region_any hm (drawX_any hm hC hE hl hok he hR fun a' w' M' ρ' h => ⟨rfl, M', ρ', h⟩)
theorem region_alt {E : Env} {n0 : Nat} {G : World → Prop} {C : Clo} (hm : P.follows .mixedOrders = true) (hC : CS P n0 G C) {nt : Nat} {lv : List (Nat × List Nat × List Nat)} {ops : Array Oper} {M0 : Nat → Prop} {ρ0 : Rho} {H0 : Hp} {w0 : World} (hE : Entry n0 G base M0 ρ0 H0 w0) {id : Nat} {lc : LCode} (hl : compAlt P nt lv id ops = some lc) {L : Lp} {z y : St} {x : Ex} (he : evC E C L H0.length lc z = some (x, y)) {a : Act} (hR : Rs base M0 ρ0 H0 w0 nt z a w M ρ) :
    (Code.region id ops true).wp P (Lands base M0 ρ0 H0 w0 nt x y) a w := by
  unfold compAlt at hl
  simp only [] at hl
  split at hl
  · rename_i p q hpq
    split at hl
    · rename_i hc
      obtain ⟨c0, c1, c2, c3, c4⟩ := hc
      obtain ⟨la, hla, hl⟩ := bind_iff.1 hl
      obtain ⟨lb, hlb, hl⟩ := bind_iff.1 hl
      cases hl
      simp only [evC] at he
      obtain ⟨y', hy, hr⟩ := map_some nrmR rfl he
      cases hr
      obtain ⟨h1, h2⟩ := altR_some hy
      obtain ⟨u, hu, hu2⟩ := packO_some h1
      obtain ⟨v, hv, hv2⟩ := packO_some h2
      refine wp_region_orders hm fun l hs => ?_
      rcases bef_or p q l with hb | hb
      · refine orders_moved c1 (pq := [p, q]) (drawX_any hm hC hE hla c3 hu hR fun a' w' M' ρ' h => ?_) l (sched_edged c0 l _ (by simp) hs (.inr hb))
        obtain ⟨ρ'', h''⟩ := Rs.pack hE h hu2
        exact ⟨rfl, M', ρ'', h''⟩
      · refine orders_moved c2 (pq := [q, p]) (drawX_any hm hC hE hlb c4 hv hR fun a' w' M' ρ' h => ?_) l (sched_edged (Ne.symm c0) l _ (by simp) hs (.inr hb))
        obtain ⟨ρ'', h''⟩ := Rs.pack hE h hv2
        exact ⟨rfl, M', ρ'', h''⟩
    · cases hl
  · split at hl
    · rename_i hc
      obtain ⟨la, hla, hl⟩ := bind_iff.1 hl
      cases hl
      simp only [evC] at he
      obtain ⟨u, hu, hr⟩ := map_some nrmR rfl he
      cases hr
      refine wp_region_orders hm fun l hs => ?_
      exact orders_moved hc.1 (pq := []) (drawX_any hm hC hE hla hc.2 hu hR fun a' w' M' ρ' h => ⟨rfl, M', ρ', h⟩) l hs
    · cases hl
theorem exOf_then {x : Ex} (hx : x ≠ .nrm) {K : Act → World → Prop} {Q : Exit → Act → World → Prop} {a : Act} {w : World} (h : Q (exOf x) a w) : Exit.then K Q (exOf x) a w := by
  cases x with
  | nrm => exact absurd rfl hx
  | ext i => exact h
  | ret => exact h
theorem evC_sound {E : Env} {n0 : Nat} {G : World → Prop} {C : Clo} (hm : P.follows .mixedOrders = true) (hC : CS P n0 G C) {nt N : Nat} {lv : List (Nat × List Nat × List Nat)} {M0 : Nat → Prop} {ρ0 : Rho} {H0 : Hp} {w0 : World} (hE : Entry n0 G base M0 ρ0 H0 w0) :
    ∀ (c : Code) (l : LCode), compC P nt lv c = some l → ∀ (z : St) (x : Ex) (y : St), evC E C (loopN N) H0.length l z = some (x, y) → ∀ (a : Act) (w : World) (M : Nat → Prop) (ρ : Rho), Rs base M0 ρ0 H0 w0 nt z a w M ρ → c.wp P (Lands base M0 ρ0 H0 w0 nt x y) a w := by
  intro c
  induction c with
  | skip =>
    intro l hl z x y he a w M ρ hR
    cases hl
    cases he
    exact wp_skip ⟨rfl, M, ρ, hR⟩
  | region id ops d =>
    intro l hl z x y he a w M ρ hR
    obtain ⟨r, hr, h2⟩ := bind_iff.1 hl
    cases d with
    | false =>
      cases h2
      simp only [evC] at he
      cases ho : evOps E C 0 r z with
      | none => rw [ho] at he; cases he
      | some u => rw [ho] at he; cases he; exact region_seq hC hE hr ho hR id
    | true =>
      simp only [if_true] at h2
      split at h2
      · rename_i hok
        cases h2
        simp only [evC] at he
        cases ho : evOps E C (softLen P ops) r z with
        | none => rw [ho] at he; cases he
        | some u => rw [ho] at he; cases he; exact region_draw hm hC hE hr hok ho hR id
      · split at h2
        · rename_i hokx
          cases h2
          simp only [evC] at he
          cases ho : evX E C (r.zip (marksX P ops)) [] 0 z with
          | none => rw [ho] at he; cases he
          | some u => rw [ho] at he; cases he; exact region_drawX hm hC hE hr hokx ho hR id
        · exact region_alt hm hC hE h2 he hR
  | seq p q ihp ihq =>
    intro l hl z x y he a w M ρ hR
    obtain ⟨lp, hlp, h2⟩ := bind_iff.1 hl
    obtain ⟨lq, hlq, h3⟩ := bind_iff.1 h2
    cases h3
    simp only [evC] at he
    rcases thn_iff.1 he with ⟨u, h4, h5⟩ | ⟨h4, h5⟩
    · refine wp_seq (wp_mono (ihp lp hlp z .nrm u h4 a w M ρ hR) fun e a' w' hq => ?_)
      obtain ⟨rfl, M', ρ', hR'⟩ := hq
      exact ihq lq hlq u x y h5 a' w' M' ρ' hR'
    · refine wp_seq (wp_mono (ihp lp hlp z x y h4 a w M ρ hR) fun e a' w' hq => ?_)
      obtain ⟨rfl, hq'⟩ := hq
      exact exOf_then h5 ⟨rfl, hq'⟩
  | cond c p q ihp ihq =>
    intro l hl z x y he a w M ρ hR
    obtain ⟨lp, hlp, h2⟩ := bind_iff.1 hl
    obtain ⟨lq, hlq, h3⟩ := bind_iff.1 h2
    cases h3
    simp only [evC] at he
    have hv := vr_lo hR.sl c
    generalize (loOf c).ev z.s = k at he hv
    unfold condR at he
    split at he
    · rename_i b
      have hb : a.eval c = .bool b := vr_v hv
      refine wp_cond hb ?_
      cases b with
      | true => exact ihp lp hlp z x y he a w M ρ hR
      | false => exact ihq lq hlq z x y he a w M ρ hR
    · cases he
  | block id p ihp =>
    intro l hl z x y he a w M ρ hR
    obtain ⟨lp, hlp, h2⟩ := bind_iff.1 hl
    cases h2
    simp only [evC] at he
    cases hp : evC E C (loopN N) H0.length lp z with
    | none => rw [hp] at he; cases he
    | some r =>
      obtain ⟨e, u⟩ := r
      rw [hp] at he
      refine wp_block (wp_mono (ihp lp hlp z e u hp a w M ρ hR) fun e' a' w' hq => ?_)
      obtain ⟨rfl, hq'⟩ := hq
      cases e with
      | nrm => cases he; exact ⟨rfl, hq'⟩
      | ret => cases he; exact ⟨rfl, hq'⟩
      | ext j =>
        simp only [outB] at he
        simp only [exOf, Exit.inBlock]
        by_cases hj : j = id
        · rw [if_pos hj] at he ⊢
          cases he
          exact ⟨rfl, hq'⟩
        · rw [if_neg hj] at he ⊢
          cases he
          exact ⟨rfl, hq'⟩
  | exit id =>
    intro l hl z x y he a w M ρ hR
    cases hl
    cases he
    exact wp_exit ⟨rfl, M, ρ, hR⟩
  | ret =>
    intro l hl z x y he a w M ρ hR
    cases hl
    cases he
    exact wp_ret ⟨rfl, M, ρ, hR⟩
  | loop p ihp =>
    intro l hl z x y he a w M ρ hR
    obtain ⟨lp, hlp, h2⟩ := bind_iff.1 hl
    cases h2
    simp only [evC] at he
    cases hz : pack H0.length (lvAt lv (firstRegion p)).1 z with
    | none => rw [hz] at he; cases he
    | some z1 =>
      rw [hz] at he
      simp only [lpR] at he
      refine wp_loop_rounds N ?_
      have key : ∀ (n : Nat) (u : St) (a : Act) (w : World) (M : Nat → Prop) (ρ : Rho) (x1 : Ex) (v : St), loopN n (fun u => packN H0.length (lvAt lv (firstRegion p)).1 (evC E C (loopN N) H0.length lp u)) u = some (x1, v) → packX H0.length (lvAt lv (firstRegion p)).2 (some (x1, v)) = some (x, y) → Rs base M0 ρ0 H0 w0 nt u a w M ρ →
          Code.rounds P p (Lands base M0 ρ0 H0 w0 nt x y) n a w := by
        intro n
        induction n with
        | zero => intro u a w M ρ x1 v h; cases h
        | succ n ih =>
          intro u a w M ρ x1 v h hx hR
          simp only [loopN] at h
          rw [rounds_succ]
          cases hb : evC E C (loopN N) H0.length lp u with
          | none => rw [hb] at h; cases h
          | some r =>
            obtain ⟨e, t⟩ := r
            rw [hb] at h
            refine wp_mono (ihp lp hlp u e t hb a w M ρ hR) fun e' a' w' hq => ?_
            obtain ⟨rfl, M', ρ', hR'⟩ := hq
            have stop : ∀ e, some (e, t) = some (x1, v) → e ≠ .nrm → Exit.then (Code.rounds P p (Lands base M0 ρ0 H0 w0 nt x y) n) (Lands base M0 ρ0 H0 w0 nt x y) (exOf e) a' w' := by
              intro e h1 hne
              cases h1
              refine exOf_then hne ?_
              simp only [packX] at hx
              cases hy : pack H0.length (lvAt lv (firstRegion p)).2 v with
              | none => rw [hy] at hx; cases hx
              | some y1 =>
                rw [hy] at hx
                cases hx
                obtain ⟨ρ2, h2⟩ := hR'.pack hE hy
                exact ⟨rfl, M', ρ2, h2⟩
            cases e with
            | nrm =>
              simp only [packN] at h
              cases hy : pack H0.length (lvAt lv (firstRegion p)).1 t with
              | none => rw [hy] at h; cases h
              | some t1 =>
                rw [hy] at h
                obtain ⟨ρ2, h2⟩ := hR'.pack hE hy
                exact ih t1 a' w' M' ρ2 x1 v h hx h2
            | ext i => exact stop (.ext i) h (by simp)
            | ret => exact stop .ret h (by simp)
      cases hn : loopN N (fun u => packN H0.length (lvAt lv (firstRegion p)).1 (evC E C (loopN N) H0.length lp u)) z1 with
      | none => rw [hn] at he; cases he
      | some r =>
        obtain ⟨x1, v⟩ := r
        rw [hn] at he
        obtain ⟨ρ2, h2⟩ := hR.pack hE hz
        exact key N z1 a w M ρ2 x1 v hn he h2
  | _ => intro l hl; cases hl
-- ---------------------------------------------------------------- functions
theorem params_get : ∀ (as : List AV) (i t : Nat), sget (params i as) t = if i ≤ t then as.getD (t - i) .x else .x
  | [], i, t => by simp [params, sget]
  | a :: r, i, t => by
    simp only [params, sget]
    by_cases h : i = t
    · subst h; simp
    · rw [if_neg h, params_get r (i + 1) t]
      by_cases h2 : i ≤ t
      · rw [if_pos h2, if_pos (by omega), show t - i = (t - (i + 1)) + 1 by omega]
        rfl
      · rw [if_neg h2, if_neg (by omega)]
def resF (tmps : Array Value) : ResultVar → Sem Value
  | .tmp t => pure (tmps.getD t undef)
  | .cell a t => do loadVar t (← asAddr (tmps.getD a undef))
theorem sure_as {pv : Value} {t : TypeId} {v : Value} {w w' : World} (h : (Instr.loadAt t pv).run P w = .ok v w') : (do loadVar t (← asAddr pv) : Sem Value).run P w = .ok v w' := by
  cases pv with
  | pointer a =>
    cases a with
    | some a => simpa [Instr.loadAt, Instr.sureAddr, asAddr] using h
    | none => simp [Instr.loadAt, Instr.sureAddr] at h
  | _ => simp [Instr.loadAt, Instr.sureAddr] at h
theorem res_one {z : St} {a : Act} (hH : HR base M ρ z.h w) (hS : SL M ρ w z.s a) {r : ResultVar} {lr : LRes} (hc : compRes P r = some lr) {x : AV} (he : resOne z lr = some x) : ∃ v, (resF a.tmps r).run P w = .ok v w ∧ VR M w ρ x v := by
  cases r with
  | tmp t =>
    cases hc
    cases he
    exact ⟨_, rfl, hS t⟩
  | cell p t =>
    obtain ⟨k, hk, h2⟩ := bind_iff.1 hc
    obtain ⟨ag, hag, h3⟩ := bind_iff.1 h2
    cases h3
    obtain ⟨i, hi, rfl, _⟩ := szOf_some hk
    obtain ⟨d, hd, rfl⟩ := isAg_some hag
    obtain ⟨v, h4, h5⟩ := loadA_sound (P := P) hH hi hd (hS p) he
    exact ⟨v, sure_as h4, h5⟩
theorem res_all {z : St} {a : Act} (hH : HR base M ρ z.h w) (hS : SL M ρ w z.s a) : ∀ (rs : List ResultVar) (ls : List LRes) (l : List AV), mapO (compRes P) rs = some ls → resAll z ls = some l → ∃ vs : List Value, (rs.mapM (resF a.tmps)).run P w = .ok vs w ∧ l.length = vs.length ∧ ∀ (i : Nat) (c : AV) (u : Value), l[i]? = some c → vs[i]? = some u → VR M w ρ c u
  | [], ls, l, h1, h2 => by
    cases h1
    cases h2
    exact ⟨[], by simp, rfl, fun i c u h => by simp at h⟩
  | r :: rs, ls, l, h1, h2 => by
    simp only [mapO] at h1
    obtain ⟨lr, h3, h4⟩ := bind_iff.1 h1
    obtain ⟨lt, h5, h6⟩ := bind_iff.1 h4
    cases h6
    simp only [resAll] at h2
    obtain ⟨x, h7, h8⟩ := bind_iff.1 h2
    obtain ⟨xs, h9, h10⟩ := bind_iff.1 h8
    cases h10
    obtain ⟨v, v1, v2⟩ := res_one hH hS h3 h7
    obtain ⟨vs, k1, k2, k3⟩ := res_all hH hS rs lt xs h5 h9
    refine ⟨v :: vs, ?_, by simp [k2], fun i c u h1 h2 => ?_⟩
    · rw [List.mapM_cons, Sem.run_bind, v1]
      simp only [Result.andThen_ok, Sem.run_bind, k1, Sem.run_pure]
    · cases i with
      | zero => simp at h1 h2; subst h1; subst h2; exact v2
      | succ i => exact k3 i c u (by simpa using h1) (by simpa using h2)
def tupF (vs : Array Value) : Value := if h : vs.size = 1 then vs[0] else .tuple vs
theorem results_eq (fn : Func) (tmps : Array Value) : results fn tmps = (List.toArray <$> fn.results.toList.mapM (resF tmps)) >>= (fun vs => pure (tupF vs)) := by
  rw [← Array.mapM_eq_mapM_toList]
  rfl
theorem results_sound {z : St} {a : Act} (hH : HR base M ρ z.h w) (hS : SL M ρ w z.s a) {fn : Func} {ls : List LRes} {l : List AV} (h1 : mapO (compRes P) fn.results.toList = some ls) (h2 : resAll z ls = some l) : ∃ v, (results fn a.tmps).run P w = .ok v w ∧ VR M w ρ (resOf l) v := by
  obtain ⟨vs, k1, k2, k3⟩ := res_all hH hS _ _ _ h1 h2
  refine ⟨tupF vs.toArray, ?_, ?_⟩
  · rw [results_eq]
    simp [Sem.run_bind, k1]
  · match l, vs, k2, k3 with
    | [], [], _, k3 => exact .tup rfl (fun i c u h => by simp at h)
    | [x], [v], _, k3 => exact k3 0 x v rfl rfl
    | x :: y :: l, v :: u :: vs, k2, k3 => exact .tup (by simpa using k2) (fun i c q h4 h5 => k3 i c q h4 (by simpa using h5))
theorem fn_sound {E : Env} {n0 : Nat} {G : World → Prop} (hG : Low n0 G) {C : Clo} (hm : P.follows .mixedOrders = true) (hC : CS P n0 G C) {N : Nat} {f : Nat} {fn : Func} (hf : P.funcs[f]? = some fn) {lv : List (Nat × List Nat × List Nat)} {lf : LFunc} (hcf : compF P lv fn = some lf) {as : List AV} {H : Hp} {res : AV} {H' : Hp} (he : runF E C (loopN N) lf as H = some (res, H')) :
    Callable P f ∧ ∀ (base : Nat) (M : Nat → Prop) (ρ : Rho) (w : World) (vs : Array Value), G w → n0 ≤ base → base ≤ w.heap.size → HR base M ρ H w → Args M ρ w as vs → Calls P f vs w (Ans base M ρ H w res H') := by
  unfold compF at hcf
  split at hcf
  · rename_i hg
    simp only [Bool.and_eq_true, decide_eq_true_eq] at hg
    obtain ⟨c, hbody, h2⟩ := bind_iff.1 hcf
    obtain ⟨b, hb, h3⟩ := bind_iff.1 h2
    obtain ⟨ls, hls, h4⟩ := bind_iff.1 h3
    cases h4
    refine ⟨⟨fn, hf, by rw [hbody]; rfl, hg.2⟩, fun base M ρ w vs hGw hn hB hH hA => ?_⟩
    unfold runF at he
    simp only at he
    split at he
    · cases he
    · rename_i hlen
      have hlen' : vs.size = fn.params.size + fn.nfree := by rw [← hA.1]; omega
      refine calls_of_wp hf hbody ?_
      have hE : Entry n0 G base M ρ H w := ⟨hG, hGw, hn, hB, hH⟩
      cases hx : evC E C (loopN N) H.length b ⟨params 0 as, H⟩ with
      | none => rw [hx] at he; cases he
      | some r =>
        obtain ⟨x, y⟩ := r
        rw [hx] at he
        have hR : Rs base M ρ H w fn.ntmps ⟨params 0 as, H⟩ { tmps := vs ++ Array.replicate (fn.ntmps - vs.size) undef, defers := [] } w M ρ := by
          refine { hr := hH, sl := fun t => ?_, ex := Ext.refl _ _ _ _, sz := by simp; omega, df := rfl }
          simp only [params_get, Nat.zero_le, if_true, Nat.sub_zero]
          by_cases ht : t < as.length
          · have h1 : as[t]? = some as[t] := List.getElem?_eq_getElem ht
            have ht2 : t < vs.size := by rw [← hA.1]; exact ht
            have h2 : vs.toList[t]? = some vs[t] := by simp [ht2]
            rw [List.getD_eq_getElem?_getD, h1, Array.getD_eq_getD_getElem?, Array.getElem?_append_left ht2, Array.getElem?_eq_getElem ht2]
            exact hA.2 t _ _ h1 h2
          · rw [List.getD_eq_getElem?_getD, List.getElem?_eq_none (by omega)]
            exact .x
        refine wp_mono (evC_sound hm hC hE c b hb _ x y hx _ w M ρ hR) fun e a' w' hq => ?_
        obtain ⟨rfl, M', ρ', hR'⟩ := hq
        have done : finL H.length y.h (resAll y ls) = some (res, H') → a'.defers = [] ∧ ∃ v, (results fn a'.tmps).run P w' = .ok v w' ∧ Ans base M ρ H w res H' (.returned v) w' := by
          intro he
          refine ⟨hR'.df, ?_⟩
          cases hra : resAll y ls with
          | none => rw [hra] at he; cases he
          | some l =>
            rw [hra] at he
            simp only [finL] at he
            obtain ⟨v, v1, v2⟩ := results_sound hR'.hr hR'.sl hls hra
            cases hp : packH H.length y.h (ids fzd (resOf l)) with
            | none => rw [hp] at he; cases he
            | some q =>
              obtain ⟨acc, H2⟩ := q
              rw [hp] at he
              simp only [finA] at he
              cases hr : rnm (newId H.length acc) fzd (resOf l) with
              | none => rw [hr] at he; cases he
              | some r2 =>
                rw [hr] at he
                cases he
                have hl : H.length ≤ y.h.length := by
                  rw [hR'.hr.len, hH.len]
                  cases hn : ρ.length with
                  | zero => omega
                  | succ k =>
                    have hk : ρ[k]? = some (ρ[k]'(by omega)) := List.getElem?_eq_getElem _
                    rcases hR'.ex.rle _ _ hk with h1 | h1 <;> exact (List.getElem?_eq_some_iff.1 h1).1
                obtain ⟨p1, p2, p3, p4⟩ := packH_sound hR'.hr hl hp
                refine ⟨v, v1, v, M', _, rfl, p1, ⟨hR'.ex.os, hR'.ex.tape, hR'.ex.output, hR'.ex.size, hR'.ex.keep, hR'.ex.mle, hR'.ex.mnew, fun g hg => hR'.ex.wr g (p3 g hg), fun id o ho => ?_⟩, rnm_ok p2 fzd _ _ _ hr v2⟩
                have hid : id < H.length := by rw [hH.len]; exact (List.getElem?_eq_some_iff.1 ho).1
                rw [p4 id hid]
                exact hR'.ex.rle id o ho
        cases x with
        | nrm => exact done he
        | ret => exact done he
        | ext i => cases he
  · cases hcf
/-- An environment that tells the truth of a program. -/
structure EnvOk (P : Program) (n0 : Nat) (G : World → Prop) (E : Env) : Prop where
  fn : ∀ f lf, E.fn f = some lf → ∃ fn lv, P.funcs[f]? = some fn ∧ compF P lv fn = some lf
  prim : ∀ f p, E.prim f = some p → ∀ (as : List AV) (H : Hp) (res : AV) (H' : Hp), p as H = some (res, H') → Callable P f ∧
    ∀ (base : Nat) (M : Nat → Prop) (ρ : Rho) (w : World) (vs : Array Value), G w → n0 ≤ base → base ≤ w.heap.size → HR base M ρ H w → Args M ρ w as vs → Calls P f vs w (Ans base M ρ H w res H')
theorem evK_sound {E : Env} {n0 : Nat} {G : World → Prop} (hG : Low n0 G) (hm : P.follows .mixedOrders = true) (hE : EnvOk P n0 G E) : ∀ n, CS P n0 G (evK E n) := by
  intro n
  induction n with
  | zero => intro f as H res H' h; cases h
  | succ n ih =>
    intro f as H res H' h
    simp only [evK, evF] at h
    split at h
    · rename_i p hp
      exact hE.prim f p hp as H res H' h
    · obtain ⟨lf, h1, h2⟩ := bind_iff.1 h
      obtain ⟨fn, lv, h3, h4⟩ := hE.fn f lf h1
      exact fn_sound hG hm ih h3 h4 h2
/-- What the evaluator answers, the program answers. -/
theorem ev_sound {E : Env} {n0 : Nat} {G : World → Prop} (hG : Low n0 G) (hm : P.follows .mixedOrders = true) (hE : EnvOk P n0 G E) : CS P n0 G (ev E) := by
  intro f as H res H' h
  obtain ⟨n, hn⟩ := ev_iff.1 h
  exact evK_sound hG hm hE n f as H res H' hn
end Go.Proofs.YtlmjoimjdpfamaaGreat.Ev
namespace Go.Proofs.YtlmjoimjdpfamaaGreat.Ev
open Go.RowKit Go.WideShapes Go.ChangeShapes
def RL (M : Nat → Prop) (w : World) (l : List AV) (cs : List Value) : Prop := l.length = cs.length ∧ ∀ (i : Nat) (x : AV) (u : Value), l[i]? = some x → cs[i]? = some u → VR M w [] x u ∧ u.oneCell' = true
theorem RL.one {M : Nat → Prop} {w : World} {x : AV} {u : Value} (h : VR M w [] x u) (ho : u.oneCell' = true) : RL M w [x] [u] := by
  refine ⟨rfl, fun i y v h1 h2 => ?_⟩
  cases i with
  | zero => simp at h1 h2; subst h1; subst h2; exact ⟨h, ho⟩
  | succ i => simp at h1
theorem RL.append {M : Nat → Prop} {w : World} {l l' : List AV} {cs cs' : List Value} (h : RL M w l cs) (k : RL M w l' cs') : RL M w (l ++ l') (cs ++ cs') := by
  refine ⟨by simp [h.1, k.1], fun i x u h1 h2 => ?_⟩
  by_cases hi : i < l.length
  · rw [List.getElem?_append_left hi] at h1
    rw [List.getElem?_append_left (by rw [← h.1]; exact hi)] at h2
    exact h.2 i x u h1 h2
  · rw [List.getElem?_append_right (by omega)] at h1
    rw [List.getElem?_append_right (by rw [← h.1]; omega), ← h.1] at h2
    exact k.2 _ x u h1 h2
/-- Cells that read as data of type 't' are a value 'av x', with 'B' on x. -/
def OpV {H : Type} (enc : TypeId × Value → H) (P : Program) (w : World) (base : Nat) (spare : Nat → Bool) (held : Bool) {α : Type} (t : TypeId) (av : α → AV) (B : α → Prop) : Prop :=
  ∀ (n : Nat) (cs : List Value) (y : DataW H × List MemPlace), DataW.trod enc P w base spare held n t cs = some y → ∃ x, B x ∧ RL (fun g => g < w.heap.size) w (av x).cells cs
section
variable {H : Type} {enc : TypeId × Value → H} {P : Program} {w : World} {base : Nat} {spare : Nat → Bool} {held : Bool}
theorem ov_string {t : TypeId} (ht : P.underlying t = some .string) : OpV enc P w base spare held t (fun s : ByteArray => st s) (fun s => s.size ≤ maxLen) := by
  intro n cs y h
  obtain ⟨s, rfl, _, hs⟩ := DataW.trod_string ht h
  exact ⟨s, hs, .one .v rfl⟩
theorem ov_int {t : TypeId} {k : IntKind} (ht : P.underlying t = some (.int k)) : OpV enc P w base spare held t (fun z : Int => AV.v (.int k z)) (fun z => (Lit.int k z).wf = true) := by
  intro n cs y h
  obtain ⟨z, rfl, _, hz⟩ := DataW.trod_int ht h
  exact ⟨z, hz, .one .v rfl⟩
theorem ov_bool {t : TypeId} (ht : P.underlying t = some .bool) : OpV enc P w base spare held t (fun b : Bool => bl b) (fun _ => True) := by
  intro n cs y h
  obtain ⟨b, rfl, _⟩ := DataW.trod_bool ht h
  exact ⟨b, trivial, .one .v rfl⟩
theorem cellsE_get {a : Addr} {n : Nat} {cs : List Value} (h : w.cells? base a n = some cs) : cs.length = n ∧ ∀ i u, cs[i]? = some u → w.cell? (a.add i) = some u := by
  unfold World.cells? at h
  split at h
  · have hl := Go.Lib.mapM_length h
    rw [List.length_range] at hl
    refine ⟨hl, fun i u hu => ?_⟩
    have hi : i < n := by
      have := (List.getElem?_eq_some_iff.1 hu).1
      omega
    obtain ⟨b, hb, hf⟩ := Go.Lib.mapM_at h i i (by rw [List.getElem?_range hi])
    rw [hu] at hb
    cases hb
    exact hf
  · cases h
/-- A list of witnesses out of each place's own. -/
theorem collectE {α β : Type} (Q : α → β → Prop) : ∀ (l : List α), (∀ a ∈ l, ∃ b, Q a b) → ∃ r : List β, r.length = l.length ∧ ∀ (i : Nat) (a : α) (b : β), l[i]? = some a → r[i]? = some b → Q a b
  | [], _ => ⟨[], rfl, fun i a b h => by simp at h⟩
  | a :: l, h => by
    obtain ⟨b, hb⟩ := h a (List.mem_cons_self ..)
    obtain ⟨r, hr, hq⟩ := collectE Q l fun x hx => h x (List.mem_cons_of_mem _ hx)
    refine ⟨b :: r, by simp [hr], fun i x y hx hy => ?_⟩
    cases i with
    | zero => simp at hx hy; subst hx; subst hy; exact hb
    | succ i => exact hq i x y (by simpa using hx) (by simpa using hy)
theorem cell_spot {a : Addr} {u : Value} (h : w.cell? a = some u) : a.spot = none ∧ a.block < w.heap.size := by
  unfold World.cell? at h
  split at h
  · rename_i c t f hc
    refine ⟨?_, (Array.getElem?_eq_some_iff.1 hc).1⟩
    split at h
    · cases h
    · rename_i hs
      cases hq : a.spot with
      | none => rfl
      | some s => rw [hq] at hs; simp at hs
  · cases h
theorem add_eq {a : Addr} (ha : a.spot = none) (n : Nat) : a.add n = ⟨a.block, a.off + n, none⟩ := by
  unfold Addr.add
  split
  · rename_i h; subst h; cases a; simp at ha; subst ha; rfl
  · rfl
theorem ov_slice {α : Type} {t e : TypeId} {av : α → AV} {B : α → Prop} (k : Nat) (hk : 0 < k) (ht : P.underlying t = some (.slice e)) (hsz : P.cellsOf e = k) (he : OpV enc P w base spare held e av B) :
    OpV enc P w base spare held t (fun xs : List α => AV.lst k (xs.map av)) (fun xs => xs.length ≤ maxLen ∧ ∀ x ∈ xs, B x) := by
  intro n cs y h
  rcases DataW.trod_slice ht h with ⟨rfl, _⟩ | ⟨a, len, cap, elems, rest, n, _, rfl, _, hb, hl, hm, hlen, hel, _, _⟩
  · exact ⟨[], by simp, .one (.lst (fun _ _ => undef) (Nat.zero_le _) (fun h => absurd rfl h) (fun i e h => by simp at h) (fun a h => by cases h) (fun i e j c h => by simp at h)) rfl⟩
  · have each : ∀ i ∈ List.range len, ∃ x : α, ∃ c, w.cells? base (a.add (i * P.cellsOf e)) (P.cellsOf e) = some c ∧ RL (fun g => g < w.heap.size) w (av x).cells c ∧ B x := by
      intro i hi
      have hi := List.mem_range.1 hi
      have h1 := hel i hi
      rw [List.getElem?_eq_getElem (by omega)] at h1
      obtain ⟨c, hc, h2⟩ := Option.bind_eq_some_iff.1 h1
      obtain ⟨x, hB, hK⟩ := he _ _ _ h2
      exact ⟨x, c, hc, hK, hB⟩
    obtain ⟨xs, hxl, hx⟩ := collectE (fun i x => ∃ c, w.cells? base (a.add (i * P.cellsOf e)) (P.cellsOf e) = some c ∧ RL (fun g => g < w.heap.size) w (av x).cells c ∧ B x) (List.range len) each
    rw [List.length_range] at hxl
    have at_ : ∀ (i : Nat) (x : α), xs[i]? = some x → ∃ c, w.cells? base (a.add (i * P.cellsOf e)) (P.cellsOf e) = some c ∧ RL (fun g => g < w.heap.size) w (av x).cells c ∧ B x := by
      intro i x hi
      have : i < len := by
        have := (List.getElem?_eq_some_iff.1 hi).1
        omega
      exact hx i i x (by rw [List.getElem?_range this]) hi
    refine ⟨xs, ⟨by unfold maxLen at hm ⊢; omega, fun x hx' => ?_⟩, ?_⟩
    · obtain ⟨i, hi, rfl⟩ := List.mem_iff_getElem.1 hx'
      obtain ⟨_, _, _, hB⟩ := at_ i _ (List.getElem?_eq_getElem hi)
      exact hB
    have spot : ∀ (i : Nat) (x : α), xs[i]? = some x → a.spot = none ∧ a.block < w.heap.size := by
      intro i x hi
      have hi' := (List.getElem?_eq_some_iff.1 hi).1
      have h0 : xs[0]? = some (xs[0]'(by omega)) := List.getElem?_eq_getElem _
      obtain ⟨c, hc, _, _⟩ := at_ 0 _ h0
      obtain ⟨h1, h2⟩ := cellsE_get hc
      have := h2 0 _ (List.getElem?_eq_getElem (by omega))
      simp only [Nat.zero_mul, Addr.add, if_true] at this
      exact cell_spot this
    have el : ∀ (i : Nat) (e : AV), (xs.map av)[i]? = some e → ∃ x, xs[i]? = some x ∧ av x = e := by
      intro i e h
      rw [List.getElem?_map] at h
      cases hx : xs[i]? with
      | none => rw [hx] at h; cases h
      | some x => rw [hx] at h; exact ⟨x, rfl, by simpa using h⟩
    have cell : ∀ (i : Nat) (x : α) (j : Nat) (c : AV), xs[i]? = some x → (av x).cells[j]? = some c → ∃ u, w.cell? ⟨a.block, a.off + (i * k + j), none⟩ = some u ∧ VR (fun g => g < w.heap.size) w [] c u ∧ u.oneCell' = true := by
      intro i x j c hi hc
      obtain ⟨cs, h1, h2, _⟩ := at_ i x hi
      obtain ⟨h3, h4⟩ := cellsE_get h1
      have hj : j < cs.length := by rw [← h2.1]; exact (List.getElem?_eq_some_iff.1 hc).1
      have hu : cs[j]? = some cs[j] := List.getElem?_eq_getElem hj
      obtain ⟨h5, h6⟩ := h2.2 j c _ hc hu
      refine ⟨_, ?_, h5, h6⟩
      have h7 := h4 j _ hu
      rw [add_eq (spot i x hi).1, add_eq rfl, hsz] at h7
      rw [show a.off + (i * k + j) = a.off + i * k + j by omega]
      exact h7
    refine .one ?_ rfl
    have hlen2 : len = (xs.map av).length := by simp [hxl]
    show VR (fun g => g < w.heap.size) w [] (AV.lst k (xs.map av)) (.slice (some a) len cap)
    rw [hlen2]
    refine .lst (fun i j => (w.cell? ⟨a.block, a.off + (i * k + j), none⟩).getD undef) (by omega) (fun hne => ?_) (fun i e he' => ?_) (fun a' ha' i e j c he' hc => ?_) (fun i e j c he' hc => ?_)
    · cases hxs : xs with
      | nil => rw [hxs] at hne; exact absurd rfl hne
      | cons x r =>
        have := spot 0 x (by rw [hxs]; rfl)
        exact ⟨a, rfl, this.1, this.2⟩
    · obtain ⟨x, hx, rfl⟩ := el i e he'
      obtain ⟨cs, h1, h2, _⟩ := at_ i x hx
      rw [h2.1, (cellsE_get h1).1, hsz]
    · cases ha'
      obtain ⟨x, hx, rfl⟩ := el i e he'
      obtain ⟨u, h1, _, h3⟩ := cell i x j c hx hc
      simp only [h1, Option.getD_some]
      exact ⟨trivial, h3⟩
    · obtain ⟨x, hx, rfl⟩ := el i e he'
      obtain ⟨u, h1, h2, _⟩ := cell i x j c hx hc
      simp only [h1, Option.getD_some]
      exact h2
/-- A row of fields, one behind the other. -/
def SegV {H : Type} (enc : TypeId × Value → H) (P : Program) (w : World) (base : Nat) (spare : Nat → Bool) (held : Bool) {α : Type} (ts : List TypeId) (av : α → List AV) (B : α → Prop) : Prop :=
  ∀ (cs : List Value), cs.length = (ts.map P.cellsOf).sum → (∀ (i : Nat) (t : TypeId), ts[i]? = some t → ∃ n z, DataW.trod enc P w base spare held n t ((cs.drop ((ts.take i).map P.cellsOf).sum).take (P.cellsOf t)) = some z) → ∃ x, B x ∧ RL (fun g => g < w.heap.size) w (av x) cs
theorem seg_one {α : Type} {t : TypeId} {av : α → AV} {B : α → Prop} (h : OpV enc P w base spare held t av B) : SegV enc P w base spare held [t] (fun x => (av x).cells) B := by
  intro cs hl hs
  obtain ⟨n, z, hz⟩ := hs 0 t rfl
  simp at hl
  simp only [List.take_zero, List.map_nil, List.sum_nil, List.drop_zero] at hz
  rw [List.take_of_length_le (by omega)] at hz
  exact h n cs z hz
theorem seg_cons {α β : Type} {t : TypeId} {ts : List TypeId} {av : α → AV} {avs : β → List AV} {B : α → Prop} {C : β → Prop} (h : OpV enc P w base spare held t av B) (hs : SegV enc P w base spare held ts avs C) :
    SegV enc P w base spare held (t :: ts) (fun p : α × β => (av p.1).cells ++ avs p.2) (fun p => B p.1 ∧ C p.2) := by
  intro cs hl hsg
  simp only [List.map_cons, List.sum_cons] at hl
  obtain ⟨n, z, hz⟩ := hsg 0 t rfl
  simp only [List.take_zero, List.map_nil, List.sum_nil, List.drop_zero] at hz
  obtain ⟨x, hx, hr⟩ := h n _ z hz
  obtain ⟨y, hy, hr2⟩ := hs (cs.drop (P.cellsOf t)) (by simp; omega) (fun i u hu => by
    obtain ⟨m, q, hq⟩ := hsg (i + 1) u hu
    simp only [List.take_succ_cons, List.map_cons, List.sum_cons] at hq
    refine ⟨m, q, ?_⟩
    rw [List.drop_drop]
    exact hq)
  refine ⟨(x, y), ⟨hx, hy⟩, ?_⟩
  have := hr.append hr2
  rwa [List.take_append_drop] at this
def offs (P : Program) : Nat → List TypeId → List (TypeId × Nat)
  | _, [] => []
  | o, t :: ts => (t, o) :: offs P (o + P.cellsOf t) ts
theorem offs_at : ∀ (ts : List TypeId) (o i : Nat) (t : TypeId), ts[i]? = some t → (offs P o ts)[i]? = some (t, o + ((ts.take i).map P.cellsOf).sum)
  | [], o, i, t, h => by simp at h
  | u :: ts, o, i, t, h => by
    cases i with
    | zero => simp at h; subst h; simp [offs]
    | succ i =>
      have := offs_at ts (o + P.cellsOf u) i t (by simpa using h)
      simp only [offs, List.getElem?_cons_succ, this, List.take_succ_cons, List.map_cons, List.sum_cons]
      rw [Nat.add_assoc]
theorem ov_struct {α : Type} {t : TypeId} {fs : Array Field} (ts : List TypeId) {av : α → List AV} {B : α → Prop} (ht : P.underlying t = some (.struct fs)) (hts : fs.toList.map (fun f => (f.type, f.offset)) = offs P 0 ts) (hc : P.cellsOf t = (ts.map P.cellsOf).sum) (hs : SegV enc P w base spare held ts av B) :
    OpV enc P w base spare held t (fun x => AV.agg (av x)) B := by
  intro n cs y h
  obtain ⟨xs, m, _, _, hl, hn, hf⟩ := DataW.trod_struct ht h
  refine hs cs (hl.trans hc) fun i u hu => ?_
  have h1 := offs_at (P := P) ts 0 i u hu
  rw [← hts, List.getElem?_map] at h1
  cases hfi : fs.toList[i]? with
  | none => rw [hfi] at h1; cases h1
  | some f =>
    rw [hfi] at h1
    simp only [Option.map_some, Option.some.injEq, Prod.mk.injEq, Nat.zero_add] at h1
    obtain ⟨rfl, h2⟩ := h1
    have hi' : i < fs.size := by
      have := (List.getElem?_eq_some_iff.1 hfi).1
      simpa using this
    have h3 := hf i f (by simpa using hfi)
    rw [List.getElem?_eq_getElem (by omega)] at h3
    rw [h2] at h3
    exact ⟨m, _, h3⟩
-- ---------------------------------------------------------------- parameters
theorem vr_agg_of {M : Nat → Prop} {l : List AV} {vs : Array Value} (h : RL M w l vs.toList) : VR M w [] (.agg l) (.agg vs) := by
  refine .agg (by simpa using h.1) (fun u hu => ?_) (fun i c u h1 h2 => (h.2 i c u h1 h2).1)
  obtain ⟨i, hi, rfl⟩ := List.mem_iff_getElem.1 hu
  have hil : i < l.length := by rw [h.1]; exact hi
  exact (h.2 i _ _ (List.getElem?_eq_getElem hil) (List.getElem?_eq_getElem hi)).2
theorem vr_one_of {M : Nat → Prop} {x : AV} {u : Value} (h : RL M w [x] [u]) : VR M w [] x u := (h.2 0 x u rfl rfl).1
theorem par_struct {α : Type} {t : TypeId} {fs : Array Field} {v : Value} {d : DataW H} {ps : List MemPlace} {r : Reach} {b0 : Nat} {av : α → List AV} {B : α → Prop} (ht : P.underlying t = some (.struct fs)) (hv : Value.okWide P w r b0 t v) (hd : DataW.Trod enc P w base spare held t v d ps) (h : OpV enc P w base spare held t (fun x => AV.agg (av x)) B) : ∃ x, B x ∧ VR (fun g => g < w.heap.size) w [] (AV.agg (av x)) v := by
  obtain ⟨cs, rfl, _⟩ := okWide_struct ht hv
  obtain ⟨n, hn⟩ := hd
  obtain ⟨x, hB, hR⟩ := h n cs.toList _ hn
  exact ⟨x, hB, vr_agg_of hR⟩
theorem par_slice {α : Type} {t e : TypeId} {v : Value} {d : DataW H} {ps : List MemPlace} {r : Reach} {b0 : Nat} {k : Nat} {av : α → List AV} {B : α → Prop} (ht : P.underlying t = some (.slice e)) (hv : Value.okWide P w r b0 t v) (hd : DataW.Trod enc P w base spare held t v d ps) (h : OpV enc P w base spare held t (fun x => AV.lst k (av x)) B) : ∃ x, B x ∧ VR (fun g => g < w.heap.size) w [] (AV.lst k (av x)) v := by
  obtain ⟨A, l, c, rfl⟩ := okWide_slice ht hv
  obtain ⟨n, hn⟩ := hd
  obtain ⟨x, hB, hR⟩ := h n _ _ hn
  exact ⟨x, hB, vr_one_of hR⟩
theorem par_int {t : TypeId} {k : IntKind} {v : Value} {d : DataW H} {ps : List MemPlace} {r : Reach} {b0 : Nat} {M : Nat → Prop} (ht : P.underlying t = some (.int k)) (hv : Value.okWide P w r b0 t v) (hd : DataW.Trod enc P w base spare held t v d ps) : ∃ x : Int, (Lit.int k x).wf = true ∧ VR M w [] (AV.v (.int k x)) v := by
  obtain ⟨a, rfl, _, _, hB⟩ := open_int ht hv hd
  exact ⟨a, hB, .v⟩
theorem par_string {t : TypeId} {v : Value} {d : DataW H} {ps : List MemPlace} {r : Reach} {b0 : Nat} {M : Nat → Prop} (ht : P.underlying t = some .string) (hv : Value.okWide P w r b0 t v) (hd : DataW.Trod enc P w base spare held t v d ps) : ∃ x : ByteArray, x.size ≤ maxLen ∧ VR M w [] (st x) v := by
  obtain ⟨a, rfl, _, _, hB⟩ := Go.ChangeMaps.open_string ht hv hd
  exact ⟨a, hB, .v⟩
theorem par_bool {t : TypeId} {v : Value} {d : DataW H} {ps : List MemPlace} {r : Reach} {b0 : Nat} {M : Nat → Prop} (ht : P.underlying t = some .bool) (hv : Value.okWide P w r b0 t v) (hd : DataW.Trod enc P w base spare held t v d ps) : ∃ x : Bool, True ∧ VR M w [] (bl x) v := by
  obtain ⟨a, rfl, _, _⟩ := open_bool ht hv hd
  exact ⟨a, trivial, .v⟩
theorem args_nil {M : Nat → Prop} {ρ : Rho} : Args M ρ w [] #[] := ⟨rfl, fun i c u h => by simp at h⟩
theorem args_cons {M : Nat → Prop} {ρ : Rho} {a : AV} {v : Value} {as : List AV} {vs : List Value} (h : VR M w ρ a v) (k : Args M ρ w as vs.toArray) : Args M ρ w (a :: as) (v :: vs).toArray := by
  refine ⟨by simpa using k.1, fun i c u h1 h2 => ?_⟩
  cases i with
  | zero => simp at h1 h2; subst h1; subst h2; exact h
  | succ i => exact k.2 i c u (by simpa using h1) (by simpa using h2)
/-- A call that only makes new memory, out of sight. -/
theorem below_ans {base : Nat} {M : Nat → Prop} {ρ : Rho} {Hs : Hp} (hH : HR base M ρ Hs w) {w' : World} (hb : Below w.heap.size w w') {res : AV} {v : Value} (hv : VR M w ρ res v) : Ans base M ρ Hs w res Hs (.returned v) w' := by
  have hs : Soft M w M w' := ⟨hb.os, hb.tape, hb.output, hb.size, hb.block, fun _ h => h, fun _ h => .inl h⟩
  have hr := hs.hr hH (fun g hg => Nat.lt_of_lt_of_le (hH.mlt g hg) hb.size)
  exact ⟨v, M, ρ, rfl, hr, hs.ext hH, hv.ext hH (hs.ext hH)⟩
/-- Two arguments, both known. -/
theorem args_two {M : Nat → Prop} {ρ : Rho} {a b : Value} {vs : Array Value} (h : Args M ρ w [.v a, .v b] vs) : vs = #[a, b] := by
  obtain ⟨h1, h2⟩ := h
  obtain ⟨l⟩ := vs
  match l, h1, h2 with
  | [x, y], _, h2 =>
    have e1 : x = a := vr_v (h2 0 _ _ rfl rfl)
    have e2 : y = b := vr_v (h2 1 _ _ rfl rfl)
    rw [e1, e2]
theorem low_true : Low 0 (fun _ => True) := ⟨fun _ _ _ _ _ _ => trivial⟩
/-- A closed answer: the world's old blocks are as they were. -/
theorem law_calls {E : Env} {n0 : Nat} {G : World → Prop} (hC : CS P n0 G (ev E)) {f : Nat} {as : List AV} {b : Value} (he : ev E f as [] = some (.v b, [])) {W : World} {vs : Array Value} (hG : G W) (hn : n0 ≤ W.heap.size) (hA : Args (fun g => g < W.heap.size) [] W as vs) :
    Calls P f vs W fun e W' => e = .returned b ∧ Below W.heap.size W W' := by
  obtain ⟨_, h⟩ := hC f as [] _ _ he
  refine (h W.heap.size (fun g => g < W.heap.size) [] W vs hG hn (Nat.le_refl _) (HR.empty _ fun _ h => h) hA).mono ?_
  rintro e W' ⟨v, M', ρ', rfl, _, ex, hv⟩
  obtain rfl := vr_v hv
  exact ⟨rfl, ex.os, ex.tape, ex.output, ex.size, fun g hg => ex.keep g hg Wr.nil⟩
end
end Go.Proofs.YtlmjoimjdpfamaaGreat.Ev
