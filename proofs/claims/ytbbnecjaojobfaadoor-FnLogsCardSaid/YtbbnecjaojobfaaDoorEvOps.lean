/- One operation and what stands behind it; regions in the text's order. -/
import Derived.Test.YtbbnecjaojobfaaDoorEvSound
set_option linter.unusedVariables false
set_option linter.unusedSimpArgs false
set_option linter.constructorNameAsVariable false
namespace Go.Proofs.YtbbnecjaojobfaaDoor.Ev
variable {P : Program} {base : Nat} {M : Nat → Prop} {ρ : Rho} {w : World}
theorem wanted_eq {ops : Array Oper} {o : Oper} {g : Option (Nat × Bool)} (hg : guardOf ops o.guard = some g) {s : List (Nat × AV)} {a : Act} (hv : ∀ t b, g = some (t, b) → VR M w ρ (sget s t) (a.tmps.getD t undef)) {p : Bool} (hp : wants s g = some p) :
    Region.wanted o (yielded ops a.tmps) = p := by
  unfold Region.wanted
  cases hgd : o.guard with
  | none =>
    rw [hgd] at hg
    cases hg
    simp only [wants, Option.some.injEq] at hp
    exact hp
  | some q =>
    obtain ⟨j, b⟩ := q
    rw [hgd] at hg
    simp only [guardOf] at hg
    split at hg
    · rename_i t ht
      cases hg
      have hv' := hv t b rfl
      simp only [wants] at hp
      unfold asB' at hp
      split at hp
      · rename_i c hc
        rw [hc] at hv'
        have he := vr_v hv'
        cases hp
        have hlt : t < a.tmps.size := by
          apply Nat.lt_of_not_le
          intro hle
          rw [Array.getD_eq_getD_getElem?, Array.getElem?_eq_none hle] at he
          cases he
        have hg' : a.tmps[t]? = some (.bool c) := by
          rw [Array.getD_eq_getD_getElem?, Array.getElem?_eq_getElem hlt] at he
          rw [Array.getElem?_eq_getElem hlt]
          simpa using he
        simp only [yielded, ht, Option.bind_some, hg']
        cases c <;> cases b <;> rfl
      · rename_i c hc
        rw [hc] at hv'
        have he := vr_v hv'
        cases hp
        have hy : yielded ops a.tmps j = none := by
          simp only [yielded, ht, Option.bind_some]
          by_cases hlt : t < a.tmps.size
          · rw [Array.getD_eq_getD_getElem?, Array.getElem?_eq_getElem hlt] at he
            have he' : a.tmps[t] = .tuple c := he
            rw [Array.getElem?_eq_getElem hlt, he']
          · rw [Array.getElem?_eq_none (Nat.le_of_not_lt hlt)]
        show (yielded ops a.tmps j == some b) = false
        rw [hy]
        rfl
      · cases hp
    · cases hg
/-- What an operation that is wanted, or not, leaves to the next. -/
structure Nx (base : Nat) (M : Nat → Prop) (ρ : Rho) (H : Hp) (w : World) (a : Act) (d : Option Nat) (av : AV) (H' : Hp) (a' : Act) (w' : World) (M' : Nat → Prop) (ρ' : Rho) : Prop where
  hr : HR base M' ρ' H' w'
  ex : Ext M ρ H w M' ρ' H' w'
  at_ : ∃ v, a' = a.put d v ∧ VR M' w' ρ' av v
theorem compOper_some {nt : Nat} {ops : Array Oper} {o : Oper} {lo : LOper} (h : compOper P nt ops o = some lo) : lo.dst = o.dst ∧ (∀ t, o.dst = some t → t < nt) ∧ guardOf ops o.guard = some lo.g ∧ compOp P o.op = some lo.op := by
  unfold compOper at h
  by_cases hd : dstOk nt o.dst = true
  · rw [if_pos hd] at h
    obtain ⟨g, hg, h2⟩ := bind_iff.1 h
    obtain ⟨l, hl, h3⟩ := bind_iff.1 h2
    cases h3
    refine ⟨rfl, fun t ht => ?_, hg, hl⟩
    rw [ht] at hd
    simpa [dstOk] using hd
  · rw [if_neg hd] at h; cases h
theorem one_full {E : Env} {n0 : Nat} {G : World → Prop} {C : Clo} (hC : CS P n0 G C) {nt : Nat} {ops : Array Oper} {i : Nat} {o : Oper} (hi : ops[i]? = some o) {lo : LOper} (hcomp : compOper P nt ops o = some lo) {z y : St} (he : oneFull E C lo z = some y)
    (hG : G w) (hn : n0 ≤ base) (hB : base ≤ w.heap.size) (hH : HR base M ρ z.h w) {a : Act} (hS : Opd M ρ w z.s a o.op.operands.toList) (hgv : ∀ t b, lo.g = some (t, b) → VR M w ρ (sget z.s t) (a.tmps.getD t undef)) {K : Act → World → Prop} {Q : Exit → Act → World → Prop}
    (hK : ∀ av a' w' M' ρ', y.s = putS z.s lo.dst av → Nx base M ρ z.h w a lo.dst av y.h a' w' M' ρ' → K a' w') : wpOp P ops Q i K a w := by
  obtain ⟨hd, hnt, hg, hl⟩ := compOper_some hcomp
  unfold wpOp
  rw [hi]
  simp only
  unfold oneFull at he
  cases hw : wants z.s lo.g with
  | none => rw [hw] at he; cases he
  | some p =>
    rw [hw] at he
    rw [wanted_eq hg hgv hw]
    simp only [oneFW] at he
    cases p with
    | false =>
      simp only [Bool.false_eq_true, if_false] at he ⊢
      cases he
      exact hK (.v undef) _ w M ρ rfl ⟨hH, Ext.refl _ _ _ _, undef, by rw [hd], .v⟩
    | true =>
      simp only [if_true] at he ⊢
      left
      cases hf : fullOp E C z lo.op with
      | none => rw [hf] at he; cases he
      | some r =>
        obtain ⟨av, H'⟩ := r
        rw [hf] at he
        cases he
        by_cases hcall : isCall lo.op = true
        · obtain ⟨c, x, hop, hcal, hargs, hcase⟩ := callee_of hS hl hcall
          have fin : ∀ {f : Nat} {as : List AV} {vs : Array Value}, callF E C f as z.h = some (av, H') → Args M ρ w as vs → (Callable P f → (execOp a.eval o).run P w = .ok (.enter f vs) w) → o.wp P a w K Q := by
            intro f as vs hcf hvs hex
            obtain ⟨h1, h2⟩ := callF_sound hC hcf
            unfold Oper.wp
            rw [hex h1, Oper.upon_enter]
            refine (h2 base M ρ w vs hG hn hB hH hvs).mono ?_
            rintro e w' ⟨v, M', ρ', rfl, a1, a2, a3⟩
            exact hK av _ w' M' ρ' rfl ⟨a1, a2, v, by rw [hd], a3⟩
          rcases hcase with ⟨f, hlf, hx⟩ | ⟨hlf, hx⟩
          · rw [hlf] at hf
            refine fin (f := f) hf hargs (fun hcl => ?_)
            rw [exec_call hop hcal hx hcl]
            simp
          · rw [hlf] at hf
            simp only [fullOp] at hf
            unfold callVF at hf
            split at hf
            · rename_i g fa fb hfx
              rw [hfx] at hx
              obtain ⟨vf, hvf⟩ : ∃ vf, a.eval x = vf := ⟨_, rfl⟩
              rw [hvf] at hx
              cases hx with
              | @fn _ _ _ _ ua ub hla hlb ha hb =>
                exact fin hf ((Args.append ⟨hla, ha⟩ hargs).append ⟨hlb, hb⟩) (fun hcl => exec_call hop hcal hvf hcl)
            · cases hf
        · have hcall' : isCall lo.op = false := by simpa using hcall
          obtain ⟨v, w', M', ρ', hrun, a1, a2, a3⟩ := full_gives hH hB hS hl hcall' hf
          unfold Oper.wp
          rcases hrun with hrun | ⟨hrun, rfl⟩
          · rw [hrun, Oper.upon_value]
            exact hK av _ w' M' ρ' rfl ⟨a1, a2, v, by rw [hd], a3⟩
          · rw [hrun, Oper.upon_skip]
            exact hK av _ w' M' ρ' rfl ⟨a1, a2, undef, by rw [hd], a3⟩
/-- The parts of a row of literals that stands by itself. -/
theorem bslice_soft {H : Hp} (hH : HR base M ρ H w) {s : List (Nat × AV)} {a : Act} {t : TypeId} {n : Nat} {parts : Array (Nat × Operand)} (hS : Opd M ρ w s a (parts.toList.map (·.2))) {e k : Nat} {los : List LO} (hc : compOp P (.buildSlice t n parts) = some (.bslice e k los))
    {r : AV} (h : bsliceS k (fzL (fz H fzd) (evs s los)) = some r) : ∃ v w' M', (Instr.buildSlice t n (parts.map fun (i, x) => (i, a.eval x))).run P w = .ok v w' ∧ Soft M w M' w' ∧ (∀ g, M' g → g < w'.heap.size) ∧ VR M' w' ρ r v := by
  simp only [compOp] at hc
  split at hc
  · rename_i e' hu
    obtain ⟨k', hk, h2⟩ := bind_iff.1 hc
    obtain ⟨zs, hz, h3⟩ := bind_iff.1 h2
    split at h3
    · rename_i hcd
      cases h3
      obtain ⟨i, hi, rfl, hk0⟩ := szOf_some hk
      obtain ⟨i', z, hi', hiz, hsz, rfl, hone⟩ := zeroOf_some hz
      rw [hi] at hi'
      cases hi'
      cases hq : fzL (fz H fzd) (evs s (parts.toList.map fun p => loOf p.2)) with
      | none => rw [hq] at h; cases h
      | some q =>
        obtain ⟨as, l⟩ := q
        rw [hq] at h
        simp only [bsliceS] at h
        split at h
        · rename_i hok
          obtain ⟨hok, rfl⟩ := hok
          cases h
          have hlen : as.length = n := by
            have h5 := fzL_len hq
            have h6 := congrArg List.length hcd.2.2
            simp [evs] at h5 h6
            omega
          have hpl : (parts.map fun (i, x) => (i, a.eval x)).toList.map (·.1) = List.range n := by rw [← hcd.2.2]; simp
          obtain ⟨Z, r1, r2, r3⟩ := bslice_run (M := M) (w := w) hu hi hiz hsz hone hk0 hcd.2.1 hlen hok hpl (fun x av q ha hq' => by
            have hps : (parts.map fun (i, x) => (i, a.eval x)).toList = parts.toList.map fun p => (p.1, a.eval p.2) := by simp
            rw [hps, List.getElem?_map] at hq'
            cases hpx : parts.toList[x]? with
            | none => rw [hpx] at hq'; cases hq'
            | some p0 =>
              rw [hpx] at hq'
              cases hq'
              refine (fzL_ok (fz_ok hH fzd) hq x _ av _ ?_ ha (hS p0.2 (List.mem_map_of_mem (List.mem_of_getElem? hpx)))).wide (fun g hg => ?_)
              · simp [evs, hpx]
              · rcases hg with hg | ⟨y, hy, _⟩
                · exact hg
                · cases hy)
          have old : ∀ g, g < w.heap.size → (w.alloc (.cells Z e)).heap[g]? = w.heap[g]? := fun g hg => RowKit.Below.heap_alloc w _ g hg
          have hsize : (w.alloc (.cells Z e)).heap.size = w.heap.size + 1 := by show (w.heap.push _).size = _; simp
          have hM' : ∀ g, (M g ∨ g = w.heap.size) → g < (w.alloc (.cells Z e)).heap.size := fun g hg => by
            rcases hg with hg | hg
            · have := hH.mlt g hg; omega
            · omega
          refine ⟨_, _, fun g => M g ∨ g = w.heap.size, r1, ⟨rfl, rfl, rfl, by omega, old, fun _ h => .inl h, fun g hg => hg.imp (fun h => h) (fun h => by omega)⟩, hM', ?_⟩
          have key : VR (fun g => M g ∨ g = w.heap.size) (w.alloc (.cells Z e)) ρ (.lst i.size as) (.slice (some ⟨w.heap.size, 0, none⟩) as.length n) := by
            refine .lst (fun x j => Z.getD (x * i.size + j) undef) (by omega) (fun _ => ⟨_, rfl, rfl, .inr rfl⟩) (fun x el hx => (elemOk_some (okL_at hok x el hx)).1) (fun q hq x el j c hx hc => ?_) (fun x el j c hx hc => ?_)
            · cases hq
              obtain ⟨u, u1, u2, _⟩ := r3 x el j c hx hc
              rw [Array.getD_eq_getD_getElem?, u1]
              refine ⟨?_, u2⟩
              rw [Nat.zero_add, cell_of_row _ w.heap.size _ Z e (0, 0) (heap_alloc_new w _)]
              exact u1
            · obtain ⟨u, u1, u2, u3⟩ := r3 x el j c hx hc
              rw [Array.getD_eq_getD_getElem?, u1]
              exact u3.mono (fun _ h => .inl h) (fun g hg => old g (hH.mlt g hg)) (Rle.refl _)
          rwa [hlen] at key
        · cases h
    · cases h3
  · cases hc
theorem one_soft {E : Env} {n0 : Nat} {G : World → Prop} {C : Clo} (hC : CS P n0 G C) {nt : Nat} {ops : Array Oper} {i : Nat} {o : Oper} (hi : ops[i]? = some o) {lo : LOper} (hcomp : compOper P nt ops o = some lo) {z y : St} (he : oneSoft E C lo z = some y)
    (hG : G w) (hn : n0 ≤ base) (hB : base ≤ w.heap.size) (hH : HR base M ρ z.h w) {a : Act} (hS : Opd M ρ w z.s a o.op.operands.toList) (hgv : ∀ t b, lo.g = some (t, b) → VR M w ρ (sget z.s t) (a.tmps.getD t undef)) {K : Act → World → Prop} {Q : Exit → Act → World → Prop}
    (hK : ∀ av a' w' M', y.s = putS z.s lo.dst av → HR base M' ρ z.h w' → Soft M w M' w' → (∃ v, a' = a.put lo.dst v ∧ VR M' w' ρ av v) → K a' w') : y.h = z.h ∧ wpOp P ops Q i K a w := by
  obtain ⟨hd, hnt, hg, hl⟩ := compOper_some hcomp
  unfold wpOp
  rw [hi]
  simp only
  unfold oneSoft at he
  cases hw : wants z.s lo.g with
  | none => rw [hw] at he; cases he
  | some p =>
    rw [hw] at he
    rw [wanted_eq hg hgv hw]
    simp only [oneSW] at he
    cases p with
    | false =>
      simp only [Bool.false_eq_true, if_false] at he ⊢
      cases he
      exact ⟨rfl, hK (.v undef) _ w M rfl hH (Soft.refl _ _) ⟨undef, by rw [hd], .v⟩⟩
    | true =>
      simp only [if_true] at he ⊢
      cases hf : softOp E C z lo.op with
      | none => rw [hf] at he; cases he
      | some av =>
        rw [hf] at he
        cases he
        refine ⟨rfl, .inl ?_⟩
        by_cases hcall : isCall lo.op = true
        · obtain ⟨c, x, hop, hcal, hargs, hcase⟩ := callee_of hS hl hcall
          have fin : ∀ {f : Nat} {as : List AV} {vs : Array Value}, callS E C f as z.h = some av → Args M ρ w as vs → (Callable P f → (execOp a.eval o).run P w = .ok (.enter f vs) w) → o.wp P a w K Q := by
            intro f as vs hcf hvs hex
            obtain ⟨h1, h2⟩ := callS_sound hC hcf
            unfold Oper.wp
            rw [hex h1, Oper.upon_enter]
            refine (h2 base M ρ w vs hG hn hB hH hvs).mono ?_
            rintro e w' ⟨v, M', rfl, a1, a2, a3⟩
            exact hK av _ w' M' rfl (a1.hr hH a2) a1 ⟨v, by rw [hd], a3⟩
          rcases hcase with ⟨f, hlf, hx⟩ | ⟨hlf, hx⟩
          · rw [hlf] at hf
            refine fin (f := f) hf hargs (fun hcl => ?_)
            rw [exec_call hop hcal hx hcl]
            simp
          · rw [hlf] at hf
            simp only [softOp] at hf
            unfold callVS at hf
            split at hf
            · rename_i g fa fb hfx
              rw [hfx] at hx
              obtain ⟨vf, hvf⟩ : ∃ vf, a.eval x = vf := ⟨_, rfl⟩
              rw [hvf] at hx
              cases hx with
              | @fn _ _ _ _ ua ub hla hlb ha hb =>
                exact fin hf ((Args.append ⟨hla, ha⟩ hargs).append ⟨hlb, hb⟩) (fun hcl => exec_call hop hcal hvf hcl)
            · cases hf
        · have hcall' : isCall lo.op = false := by simpa using hcall
          by_cases hbs : ∃ e k ps, lo.op = .bslice e k ps
          · obtain ⟨e, k, ps, hps⟩ := hbs
            rw [hps] at hl hf
            have hex : ∃ t n parts, o.op = .buildSlice t n parts := by
              cases hop : o.op with
              | buildSlice t n parts => exact ⟨t, n, parts, rfl⟩
              | call c =>
                exfalso
                rw [hop] at hl
                have hl' : compCall P c = some (.bslice e k ps) := hl
                unfold compCall at hl'
                split at hl'
                · cases hl'
                · cases hl'
                · split at hl'
                  · split at hl' <;> cases hl'
                  · cases hl'
                · split at hl'
                  · split at hl'
                    · split at hl'
                      · obtain ⟨_, _, h2⟩ := bind_iff.1 hl'
                        obtain ⟨_, _, h3⟩ := bind_iff.1 h2
                        obtain ⟨_, _, h4⟩ := bind_iff.1 h3
                        split at h4 <;> cases h4
                      · cases hl'
                    · cases hl'
                  · cases hl'
                · cases hl'
                · cases hl'
                · cases hl'
              | _ =>
                exfalso
                rw [hop] at hl
                exact no_bslice hl (by intro t n parts h; cases h) (by intro c h; cases h)
            obtain ⟨t, n, parts, hop⟩ := hex
            rw [hop] at hl
            obtain ⟨v, w', M', r1, r2, r3, r4⟩ := bslice_soft hH (fun x hx => hS x (by rw [hop]; simpa [Op.operands] using hx)) hl hf
            unfold Oper.wp
            have hrun : (execOp a.eval o).run P w = .ok (.value v) w' := by
              have : execOp a.eval o = (do pure (.value (← Instr.buildSlice t n (parts.map fun (i, x) => (i, a.eval x)))) : Sem Next) := by unfold execOp; rw [hop]
              rw [this]
              exact run_value r1
            rw [hrun, Oper.upon_value]
            exact hK av _ w' M' rfl (r2.hr hH r3) r2 ⟨v, by rw [hd], r4⟩
          · have hpure : softOp E C z lo.op = pureOp z lo.op := by
              cases hlo : lo.op with
              | bslice e k ps => exact absurd ⟨e, k, ps, hlo⟩ hbs
              | call f as => rw [hlo] at hcall'; cases hcall'
              | callv f as => rw [hlo] at hcall'; cases hcall'
              | _ => rfl
            rw [hpure] at hf
            obtain ⟨v, h1, h2⟩ := pure_sound hH hS hl hf
            unfold Oper.wp
            rw [h1, Oper.upon_value]
            exact hK av _ w M rfl hH (Soft.refl _ _) ⟨v, by rw [hd], h2⟩
end Go.Proofs.YtbbnecjaojobfaaDoor.Ev
