/- Regions in any order that the edges allow, in which operations that write and operations that read are mixed. -/
import Derived.Test.YtbbnecjaojobfaaDoorEvReg
set_option linter.unusedVariables false
set_option linter.unusedSimpArgs false
set_option linter.constructorNameAsVariable false
namespace Go.Proofs.YtbbnecjaojobfaaDoor.Ev
variable {P : Program} {base : Nat} {M : Nat → Prop} {ρ : Rho} {w : World}
theorem float_at {E : Env} {C : Clo} {nt : Nat} {ops : Array Oper} {o : Oper} {lo : LOper} (hcomp : compOper P nt ops o = some lo) (hf : floatOp o.op = true) {z y : St} (h : oneSoft E C lo z = some y) (H : Hp) : oneSoft E C lo ⟨z.s, H⟩ = some ⟨y.s, H⟩ := by
  obtain ⟨_, _, _, hop⟩ := compOper_some hcomp
  have hsf1 : oneSW E C lo z (wants z.s lo.g) = some y := h
  show oneSW E C lo ⟨z.s, H⟩ (wants z.s lo.g) = some ⟨y.s, H⟩
  cases hw : wants z.s lo.g with
  | none => rw [hw] at hsf1; cases hsf1
  | some b =>
    rw [hw] at hsf1
    cases b with
    | false =>
      simp only [oneSW, Bool.false_eq_true, if_false, Option.some.injEq] at hsf1 ⊢
      rw [← hsf1]
    | true =>
      simp only [oneSW, if_true] at hsf1 ⊢
      rw [float_soft hf hop z.s H z.h]
      have hz : (⟨z.s, z.h⟩ : St) = z := rfl
      rw [hz]
      cases hso : softOp E C z lo.op with
      | none => rw [hso] at hsf1; cases hsf1
      | some x =>
        rw [hso] at hsf1
        simp only [putA, Option.some.injEq] at hsf1 ⊢
        rw [← hsf1]

theorem evX_trace {E : Env} {C : Clo} : ∀ (l : List (LOper × Bool × Nat)) (acc : List Ck) (p : Nat) (z y : St), evX E C l acc p z = some y → ∃ T : Nat → St, T 0 = z ∧ T l.length = y ∧
    (∀ (i : Nat) (lo : LOper) (b : Bool) (e : Nat), l[i]? = some (lo, b, e) → (b = false → oneSoft E C lo (T i) = some (T (i + 1))) ∧ (b = true → oneFull E C lo (T i) = some (T (i + 1)))) ∧
    (∀ (i : Nat) (lo : LOper) (e : Nat), l[i]? = some (lo, true, e) → ckOk E C (T (i + 1)) (p + i) acc) ∧
    (∀ (i j : Nat) (lo lo' : LOper) (e e' : Nat), j < i → l[j]? = some (lo, false, e) → l[i]? = some (lo', true, e') → p + i < e → oneSoft E C lo ⟨(T j).s, (T (i + 1)).h⟩ = some ⟨(T (j + 1)).s, (T (i + 1)).h⟩)
  | [], acc, p, z, y, he => by
    have : z = y := Option.some.inj he
    exact ⟨fun _ => z, rfl, this, fun i lo b e hl => by simp at hl, fun i lo e hl => by simp at hl, fun i j lo lo' e e' _ hl => by simp at hl⟩
  | (o, b, e0) :: r, acc, p, z, y, he => by
    cases b with
    | true =>
      simp only [evX] at he
      obtain ⟨u, hu, hy⟩ := bind_iff.1 he
      split at hy
      · rename_i hc
        obtain ⟨T, t0, t1, t2, t3, t4⟩ := evX_trace r acc (p + 1) u y hy
        refine ⟨fun i => match i with | 0 => z | i + 1 => T i, rfl, t1, fun i lo b e hl => ?_, fun i lo e hl => ?_, fun i j lo lo' e e' hj hl hi hf => ?_⟩
        · cases i with
          | zero => simp at hl; obtain ⟨rfl, rfl, rfl⟩ := hl; exact ⟨fun h => (by cases h), fun _ => by simpa [t0] using hu⟩
          | succ i => exact t2 i lo b e (by simpa using hl)
        · cases i with
          | zero => simpa [t0] using hc
          | succ i =>
            have := t3 i lo e (by simpa using hl)
            rw [show p + 1 + i = p + (i + 1) by omega] at this
            exact this
        · cases i with
          | zero => omega
          | succ i =>
            cases j with
            | zero => simp at hl
            | succ j => exact t4 i j lo lo' e e' (by omega) (by simpa using hl) (by simpa using hi) (by omega)
      · cases hy
    | false =>
      simp only [evX] at he
      obtain ⟨u, hu, hy⟩ := bind_iff.1 he
      obtain ⟨T, t0, t1, t2, t3, t4⟩ := evX_trace r (⟨o, z.s, u.s, e0⟩ :: acc) (p + 1) u y hy
      refine ⟨fun i => match i with | 0 => z | i + 1 => T i, rfl, t1, fun i lo b e hl => ?_, fun i lo e hl => ?_, fun i j lo lo' e e' hj hl hi hf => ?_⟩
      · cases i with
        | zero => simp at hl; obtain ⟨rfl, rfl, rfl⟩ := hl; exact ⟨fun _ => by simpa [t0] using hu, fun h => (by cases h)⟩
        | succ i => exact t2 i lo b e (by simpa using hl)
      · cases i with
        | zero => simp at hl
        | succ i =>
          have := (t3 i lo e (by simpa using hl)).2
          rw [show p + 1 + i = p + (i + 1) by omega] at this
          exact this
      · cases i with
        | zero => omega
        | succ i =>
          cases j with
          | zero =>
            simp at hl
            obtain ⟨rfl, rfl⟩ := hl
            have := (t3 i lo' e' (by simpa using hi)).1 (by show p + 1 + i < e0; omega)
            simpa [t0] using this
          | succ j => exact t4 i j lo lo' e e' (by omega) (by simpa using hl) (by simpa using hi) (by omega)
theorem drawX_spec {ops : Array Oper} (h : drawX P ops = true) : (∀ (j : Nat) (o : Oper), ops[j]? = some o → ∀ e ∈ o.after.toList, Region.binds .any e = true → e.on < j) ∧
    ∀ (i j : Nat) (q o : Oper), i < j → ops[i]? = some q → ops[j]? = some o → pairX P ops (masks ops.toList []) o j q i = true := by
  unfold drawX at h
  simp only [List.all_eq_true, Bool.and_eq_true] at h
  have mem : ∀ (j : Nat) (o : Oper), ops[j]? = some o → (o, j) ∈ ops.toList.zipIdx := by
    intro j o ho
    rw [List.mem_zipIdx_iff_getElem?]
    simpa using ho
  refine ⟨fun j o ho e he hb => ?_, fun i j q o hij hq ho => ?_⟩
  · have := (h (o, j) (mem j o ho)).1 e he
    simp only [hb, Bool.not_true, Bool.false_or, decide_eq_true_eq] at this
    exact this
  · have := (h (o, j) (mem j o ho)).2 (q, i) (mem i q hq)
    simp only [hij, decide_true, Bool.not_true, Bool.false_or] at this
    exact this
theorem hardAt_eq {ops : Array Oper} {i : Nat} {o : Oper} (h : ops[i]? = some o) : hardAt P ops i = hardOp P o.op := by unfold hardAt; rw [h]
theorem firstB_ge (ops : Array Oper) (b : List Nat) (i : Nat) : ∀ (d h : Nat), h ≤ firstB P ops b i h d
  | 0, h => Nat.le_refl _
  | d + 1, h => by
    unfold firstB
    split
    · exact Nat.le_refl _
    · exact Nat.le_trans (Nat.le_succ h) (firstB_ge ops b i d (h + 1))
theorem firstB_le (ops : Array Oper) (b : List Nat) (i : Nat) : ∀ (d h x : Nat), h ≤ x → x < h + d → (∀ y, h ≤ y → y ≤ x → hardAt P ops y = true → (b.getD y 0).testBit i = false) → x < firstB P ops b i h d
  | 0, h, x, h1, h2, _ => by omega
  | d + 1, h, x, h1, h2, hx => by
    unfold firstB
    split
    · rename_i hc
      rw [Bool.and_eq_true] at hc
      have := hx h (Nat.le_refl _) h1 hc.1
      rw [hc.2] at this
      cases this
    · by_cases hh : x = h
      · have := firstB_ge (P := P) ops b i d (h + 1)
        omega
      · exact firstB_le ops b i d (h + 1) x (by omega) (by omega) fun y h3 h4 => hx y (by omega) h4
theorem next_hard (P : Program) (ops : Array Oper) : ∀ (d i : Nat), i + d = ops.size → ∃ k, i ≤ k ∧ k ≤ ops.size ∧ (k = ops.size ∨ hardAt P ops k = true) ∧ ∀ x, i ≤ x → x < k → hardAt P ops x = false
  | 0, i, h => ⟨i, Nat.le_refl _, by omega, .inl (by omega), fun x h1 h2 => by omega⟩
  | d + 1, i, h => by
    cases hi : hardAt P ops i with
    | true => exact ⟨i, Nat.le_refl _, by omega, .inr hi, fun x h1 h2 => by omega⟩
    | false =>
      obtain ⟨k, h1, h2, h3, h4⟩ := next_hard P ops d (i + 1) (by omega)
      refine ⟨k, by omega, h2, h3, fun x h5 h6 => ?_⟩
      by_cases hx : x = i
      · rw [hx]; exact hi
      · exact h4 x (by omega) h6
/-- The last writing operation ahead of a place, if there is one behind another place. -/
theorem last_hard (P : Program) (ops : Array Oper) : ∀ (d i : Nat), (∀ x, i ≤ x → x < i + d → hardAt P ops x = false) ∨ ∃ k, i ≤ k ∧ k < i + d ∧ hardAt P ops k = true ∧ ∀ x, k < x → x < i + d → hardAt P ops x = false
  | 0, i => .inl fun x h1 h2 => by omega
  | d + 1, i => by
    cases hi : hardAt P ops (i + d) with
    | true => exact .inr ⟨i + d, by omega, by omega, hi, fun x h1 h2 => by omega⟩
    | false =>
      rcases last_hard P ops d i with h | ⟨k, h1, h2, h3, h4⟩
      · refine .inl fun x h1 h2 => ?_
        by_cases hx : x = i + d
        · rw [hx]; exact hi
        · exact h x h1 (by omega)
      · refine .inr ⟨k, h1, by omega, h3, fun x h5 h6 => ?_⟩
        by_cases hx : x = i + d
        · rw [hx]; exact hi
        · exact h4 x h5 (by omega)
/-- What is known in the midst of a region whose order is open. -/
structure MidX (P : Program) (base : Nat) (M0 : Nat → Prop) (ρ0 : Rho) (H0 : Hp) (w0 : World) (nt : Nat) (ops : Array Oper) (T : Nat → St) (av : Nat → AV) (k : Nat) (listed : Array Bool) (a : Act) (w : World) (M : Nat → Prop) (ρ : Rho) : Prop where
  ls : listed.size = ops.size
  hr : HR base M ρ (T k).h w
  ex : Ext M0 ρ0 H0 w0 M ρ (T k).h w
  sz : a.tmps.size = nt
  df : a.defers = []
  kn : k ≤ ops.size
  kh : k = ops.size ∨ hardAt P ops k = true
  tail : ∀ j, j < ops.size → hardAt P ops j = true → (listed.getD j false = true ↔ j < k)
  flo : ∀ j o, ops[j]? = some o → hardAt P ops j = false → j < k → listed.getD j false = true ∨ ∀ h, j < h → h < k → hardAt P ops h = true → ((masks ops.toList []).getD h 0).testBit j = false
  cl : ∀ (j : Nat) (o : Oper), listed.getD j false = true → ops[j]? = some o → ∀ e ∈ o.after.toList, Region.binds .any e = true → listed.getD e.on false = true
  i1 : ∀ (j : Nat) (o : Oper) (t : Nat), listed.getD j false = true → ops[j]? = some o → o.dst = some t → VR M w ρ (av j) (a.tmps.getD t undef)
  i2 : ∀ t, (∀ (j : Nat) (o : Oper), listed.getD j false = true → ops[j]? = some o → o.dst ≠ some t) → VR M w ρ (sget (T 0).s t) (a.tmps.getD t undef)
theorem fin_ofX {nt : Nat} {ops : Array Oper} {M0 : Nat → Prop} {ρ0 : Rho} {H0 : Hp} {w0 : World} {T : Nat → St} {av : Nat → AV} {k : Nat} {listed : Array Bool} {a : Act} {M : Nat → Prop} (hI : MidX P base M0 ρ0 H0 w0 nt ops T av k listed a w M ρ) (hall : ∀ j, j < ops.size → listed.getD j false = true)
    (sT : ∀ i, i ≤ ops.size → ∀ t, (∀ (j : Nat) (o : Oper), j < i → ops[j]? = some o → o.dst = some t → sget (T i).s t = av j) ∧ ((∀ (j : Nat) (o : Oper), j < i → ops[j]? = some o → o.dst ≠ some t) → sget (T i).s t = sget (T 0).s t)) : Rs base M0 ρ0 H0 w0 nt (T ops.size) a w M ρ := by
  have hk : k = ops.size := by
    rcases Nat.lt_or_ge k ops.size with h | h
    · rcases hI.kh with hk | hk
      · omega
      · have := (hI.tail k h hk).1 (hall k h); omega
    · exact Nat.le_antisymm hI.kn h
  have h1 := hI.hr
  have h2 := hI.ex
  rw [hk] at h1 h2
  refine { hr := h1, sl := fun t => ?_, ex := h2, sz := hI.sz, df := hI.df }
  obtain ⟨s1, s2⟩ := sT ops.size (Nat.le_refl _) t
  by_cases hex : ∃ (j : Nat) (q : Oper), ops[j]? = some q ∧ q.dst = some t
  · obtain ⟨j, q, hq, hdq⟩ := hex
    have hj : j < ops.size := (Array.getElem?_eq_some_iff.1 hq).1
    rw [s1 j q hj hq hdq]
    exact hI.i1 j q t (hall j hj) hq hdq
  · rw [s2 fun j q _ hq hdq => hex ⟨j, q, hq, hdq⟩]
    exact hI.i2 t fun j q _ hq hdq => hex ⟨j, q, hq, hdq⟩
theorem draw_anyX {E : Env} {n0 : Nat} {G : World → Prop} {C : Clo} (hC : CS P n0 G C) {nt : Nat} {ops : Array Oper} {M0 : Nat → Prop} {ρ0 : Rho} {H0 : Hp} {w0 : World} (hE : Entry n0 G base M0 ρ0 H0 w0) {Q : Exit → Act → World → Prop} (hok : drawX P ops = true) {l : List LOper} (hl : mapO (compOper P nt ops) ops.toList = some l)
    {T : Nat → St} {av : Nat → AV} (hT : ∀ (i : Nat) (lo : LOper), l[i]? = some lo → (hardAt P ops i = false → oneSoft E C lo (T i) = some (T (i + 1))) ∧ (hardAt P ops i = true → oneFull E C lo (T i) = some (T (i + 1))))
    (hav : ∀ (i : Nat) (o : Oper), ops[i]? = some o → (T (i + 1)).s = putS (T i).s o.dst (av i)) (havx : ∀ (i : Nat) (o : Oper), ops[i]? = some o → o.dst = none → av i = .x) (hflo : ∀ (i k : Nat) (o : Oper) (lo : LOper), hardAt P ops i = false → i < k → k ≤ ops.size → ops[i]? = some o → l[i]? = some lo → (∀ h, i < h → h < k → hardAt P ops h = true → ((masks ops.toList []).getD h 0).testBit i = false) → oneSoft E C lo ⟨(T i).s, (T k).h⟩ = some ⟨(T (i + 1)).s, (T k).h⟩)
    (hQ : ∀ a' w' M' ρ', Rs base M0 ρ0 H0 w0 nt (T ops.size) a' w' M' ρ' → Q .normal a' w') :
    ∀ (fuel : Nat) (U : List Nat) (listed : Array Bool) (a : Act) (w : World) (M : Nat → Prop) (ρ : Rho) (k : Nat), U.length ≤ fuel → U.Nodup → (∀ j, j < ops.size → (listed.getD j false = false ↔ j ∈ U)) → MidX P base M0 ρ0 H0 w0 nt ops T av k listed a w M ρ → wpAny P .any ops Q fuel listed a w := by
  obtain ⟨hlt, hpair⟩ := drawX_spec hok
  obtain ⟨hll, hlat⟩ := mapO_some hl
  have hn : l.length = ops.size := by rw [hll]; simp
  have hsame : ∀ (d i : Nat), i + d ≤ ops.size → (∀ x, i ≤ x → x < i + d → hardAt P ops x = false) → (T (i + d)).h = (T i).h := by
    intro d
    induction d with
    | zero => intro i _ _; rfl
    | succ d ihd =>
      intro i hi hx
      have hil : i + d < l.length := by omega
      have := (hT (i + d) _ (List.getElem?_eq_getElem hil)).1 (hx (i + d) (by omega) (by omega))
      rw [show i + (d + 1) = i + d + 1 by omega, (soft_put this).2]
      exact ihd i (by omega) fun x h1 h2 => hx x h1 (by omega)
  have uniq : ∀ (i j : Nat) (q o : Oper) (t : Nat), ops[i]? = some q → ops[j]? = some o → q.dst = some t → o.dst = some t → i = j := by
    intro i j q o t hq ho h1 h2
    rcases Nat.lt_trichotomy i j with h | h | h
    · have := hpair i j q o h hq ho
      simp [pairX, h1, h2, sameDst] at this
    · exact h
    · have := hpair j i o q h ho hq
      simp [pairX, h1, h2, sameDst] at this
  have sT : ∀ i, i ≤ ops.size → ∀ t, (∀ (j : Nat) (o : Oper), j < i → ops[j]? = some o → o.dst = some t → sget (T i).s t = av j) ∧ ((∀ (j : Nat) (o : Oper), j < i → ops[j]? = some o → o.dst ≠ some t) → sget (T i).s t = sget (T 0).s t) := by
    intro i
    induction i with
    | zero => intro _ t; exact ⟨fun j o h => by omega, fun _ => rfl⟩
    | succ i ih =>
      intro hi t
      obtain ⟨oi, hoi⟩ : ∃ o, ops[i]? = some o := ⟨_, Array.getElem?_eq_getElem (by omega)⟩
      obtain ⟨ih1, ih2⟩ := ih (by omega) t
      have hs := hav i oi hoi
      refine ⟨fun j o hj ho hd => ?_, fun hno => ?_⟩
      · by_cases hji : j = i
        · subst hji
          rw [hoi] at ho
          cases ho
          rw [hs, hd]
          simp [putS, sget]
        · have hne : oi.dst ≠ some t := fun h => hji (uniq j i o oi t ho hoi hd h)
          rw [hs]
          cases hdi : oi.dst with
          | none => exact ih1 j o (by omega) ho hd
          | some u =>
            have hut : ¬ u = t := fun h => hne (by rw [hdi, h])
            simp only [putS, sget, if_neg hut]
            exact ih1 j o (by omega) ho hd
      · rw [hs]
        cases hdi : oi.dst with
        | none => exact ih2 fun j o hj ho => hno j o (by omega) ho
        | some u =>
          have hut : ¬ u = t := fun h => hno i oi (by omega) hoi (by rw [hdi, h])
          simp only [putS, sget, if_neg hut]
          exact ih2 fun j o hj ho => hno j o (by omega) ho
  intro fuel
  induction fuel with
  | zero =>
    intro U listed a w M ρ k hU hnd hmem hI
    have hnil : U = [] := List.eq_nil_of_length_eq_zero (by omega)
    have hall : ∀ j, j < ops.size → listed.getD j false = true := fun j hj => by
      cases hx : listed.getD j false with
      | true => rfl
      | false => have := (hmem j hj).1 hx; rw [hnil] at this; cases this
    have hfin := fin_ofX hI hall sT
    refine ⟨?_, hQ a w M ρ hfin⟩
    rw [List.eq_nil_iff_forall_not_mem]
    intro j hj
    obtain ⟨h1, o, h2, _⟩ := mem_ready.1 hj
    have hjs : j < ops.size := (Array.getElem?_eq_some_iff.1 h2).1
    have h3 := hall j hjs
    rw [Array.getD_eq_getD_getElem?, Array.getElem?_eq_getElem (by rw [hI.ls]; exact hjs)] at h1 h3
    simp at h1 h3
    rw [h1] at h3
    cases h3
  | succ fuel ih =>
    intro U listed a w M ρ k hU hnd hmem hI
    refine ⟨fun hre => ?_, fun i hi => ?_⟩
    · have hall : ∀ j, j < ops.size → listed.getD j false = true := by
        intro j
        induction j using Nat.strongRecOn with
        | _ j ihj =>
          intro hj
          cases hx : listed.getD j false with
          | true => rfl
          | false =>
            exfalso
            have : j ∈ Region.ready .any ops listed := by
              rw [mem_ready]
              refine ⟨?_, _, Array.getElem?_eq_getElem hj, fun e he hb => ?_⟩
              · rw [Array.getD_eq_getD_getElem?, Array.getElem?_eq_getElem (by rw [hI.ls]; exact hj)] at hx ⊢
                simpa using hx
              · have := hlt j _ (Array.getElem?_eq_getElem hj) e (by simpa using he) hb
                exact ihj e.on this (by omega)
            rw [hre] at this
            cases this
      exact hQ a w M ρ (fin_ofX hI hall sT)
    · obtain ⟨hun, o, ho, hpre⟩ := mem_ready.1 hi
      have his : i < ops.size := (Array.getElem?_eq_some_iff.1 ho).1
      have hunl : listed.getD i false = false := by
        rw [Array.getD_eq_getD_getElem?, Array.getElem?_eq_getElem (by rw [hI.ls]; exact his)] at hun ⊢
        simpa using hun
      have hpre' : ∀ e ∈ o.after.toList, Region.binds .any e = true → listed.getD e.on false = true := fun e he hb => hpre e (by simpa using he) hb
      have hbit : ∀ j, ((masks ops.toList []).getD i 0).testBit j = true → listed.getD j false = true := mask_listed (L := fun j => listed.getD j false = true) hlt hI.cl i o ho hpre'
      have hbitj : ∀ j q, listed.getD j false = true → ops[j]? = some q → ∀ x, ((masks ops.toList []).getD j 0).testBit x = true → listed.getD x false = true := fun j q hj hq => mask_listed (L := fun j => listed.getD j false = true) hlt hI.cl j q hq (hI.cl j q hj hq)
      obtain ⟨lo, hlo⟩ : ∃ lo, l[i]? = some lo := ⟨_, List.getElem?_eq_getElem (by omega)⟩
      have hcomp : compOper P nt ops o = some lo := hlat i o lo (by simpa using ho) hlo
      obtain ⟨hd, hnt, hgd, hop⟩ := compOper_some hcomp
      have reads : ∀ t, t ∈ o.looksAt ops → VR M w ρ (sget (T i).s t) (a.tmps.getD t undef) := by
        intro t ht
        obtain ⟨s1, s2⟩ := sT i (by omega) t
        by_cases hex : ∃ j q, j < i ∧ ops[j]? = some q ∧ q.dst = some t
        · obtain ⟨j, q, hj, hq, hdq⟩ := hex
          rw [s1 j q hj hq hdq]
          have hp := hpair j i q o hj hq ho
          simp only [pairX, Bool.and_eq_true] at hp
          have h2 := hp.1.1.2
          rw [(dstIn_iff hdq).2 (by unfold readsOf; exact ht)] at h2
          simp only [Bool.not_true, Bool.false_or] at h2
          exact hI.i1 j q t (hbit j h2) hq hdq
        · rw [s2 fun j q hj hq hdq => hex ⟨j, q, hj, hq, hdq⟩]
          refine hI.i2 t fun j q hj hq hdq => ?_
          rcases Nat.lt_trichotomy j i with h | h | h
          · exact hex ⟨j, q, h, hq, hdq⟩
          · subst h; rw [hunl] at hj; cases hj
          · have hp := hpair i j o q h ho hq
            simp only [pairX, Bool.and_eq_true] at hp
            have h2 := hp.1.2
            rw [(dstIn_iff hdq).2 (by unfold readsOf; exact ht)] at h2
            simp only [Bool.not_true, Bool.false_or] at h2
            have := hbitj j q hj hq i h2
            rw [hunl] at this
            cases this
      have hopd : Opd M ρ w (T i).s a o.op.operands.toList := by
        intro x hx
        cases x with
        | tmp t => exact reads t (looks_operand hx)
        | const v => exact vr_ofV v
        | global g => exact .v
        | func f => exact .fn rfl rfl (fun i c u h1 h2 => by simp at h1) (fun i c u h1 h2 => by simp at h1)
      have hgv : ∀ t b, lo.g = some (t, b) → VR M w ρ (sget (T i).s t) (a.tmps.getD t undef) := by
        intro t b hg
        refine reads t ?_
        rw [hg] at hgd
        cases hgg : o.guard with
        | none => rw [hgg] at hgd; cases hgd
        | some p =>
          obtain ⟨j, b'⟩ := p
          rw [hgg] at hgd
          simp only [guardOf] at hgd
          split at hgd
          · rename_i u hu
            cases hgd
            unfold Oper.looksAt
            rw [hgg]
            simp only
            rw [hu]
            exact List.mem_append.2 (.inr (by simp))
          · cases hgd
      obtain ⟨g1, g2⟩ := hE.at hI.ex
      have hset : ∀ j, (listed.setIfInBounds i true).getD j false = if j = i then true else listed.getD j false := by
        intro j
        by_cases hji : j = i
        · subst hji
          rw [if_pos rfl, Array.getD_eq_getD_getElem?, Array.getElem?_setIfInBounds, if_pos rfl, if_pos (by rw [hI.ls]; exact his)]
          rfl
        · rw [if_neg hji, Array.getD_eq_getD_getElem?, Array.getD_eq_getD_getElem?, Array.getElem?_setIfInBounds, if_neg (fun h => hji h.symm)]
      have hU' : (U.erase i).length ≤ fuel := by
        have hm := (hmem i his).1 hunl
        rw [List.length_erase_of_mem hm]
        omega
      have hmem' : ∀ j, j < ops.size → ((listed.setIfInBounds i true).getD j false = false ↔ j ∈ U.erase i) := by
        intro j hj
        rw [hset, hnd.mem_erase_iff]
        by_cases hji : j = i
        · simp [hji]
        · rw [if_neg hji, hmem j hj]; simp [hji]
      -- what the step leaves, whatever it was
      have step : ∀ (k' : Nat) (w' : World) (M' : Nat → Prop) (ρ' : Rho) (v : Value), HR base M' ρ' (T k').h w' → Ext M ρ (T k).h w M' ρ' (T k').h w' → VR M' w' ρ' (av i) v → k' ≤ ops.size → (k' = ops.size ∨ hardAt P ops k' = true) →
          (∀ j, j < ops.size → hardAt P ops j = true → ((listed.setIfInBounds i true).getD j false = true ↔ j < k')) → (∀ j q, ops[j]? = some q → hardAt P ops j = false → j < k' → (listed.setIfInBounds i true).getD j false = true ∨ ∀ h, j < h → h < k' → hardAt P ops h = true → ((masks ops.toList []).getD h 0).testBit j = false) →
          wpAny P .any ops Q fuel (listed.setIfInBounds i true) (a.put lo.dst v) w' := by
        intro k' w' M' ρ' v h1 h2 h3 h4 h5 h6 h7
        have keepM := hI.hr.keepM h2
        have hdt : ∀ t, o.dst = some t → t < a.tmps.size := fun t ht => by rw [hI.sz]; exact hnt t ht
        have get_put : ∀ t, (a.put lo.dst v).tmps.getD t undef = if o.dst = some t then v else a.tmps.getD t undef := by
          intro t
          rw [hd]
          cases hdo : o.dst with
          | none => simp [Act.put]
          | some u =>
            simp only [Act.put, Array.getD_eq_getD_getElem?, Array.getElem?_setIfInBounds]
            by_cases hu : u = t
            · subst hu; simp [hdt u hdo]
            · simp [hu]
        refine ih (U.erase i) _ _ w' M' ρ' k' hU' (hnd.erase i) hmem' { ls := by simp [hI.ls], hr := h1, ex := hI.ex.trans h2, sz := by rw [put_size]; exact hI.sz, df := by rw [put_defers]; exact hI.df, kn := h4, kh := h5, tail := h6, flo := h7, cl := fun j q hj hq e he hb => ?_, i1 := fun j q t hj hq hdq => ?_, i2 := fun t hno => ?_ }
        · rw [hset] at hj ⊢
          by_cases hji : j = i
          · subst hji
            rw [ho] at hq
            cases hq
            have := hpre' e he hb
            split
            · rfl
            · exact this
          · rw [if_neg hji] at hj
            have := hI.cl j q hj hq e he hb
            split
            · rfl
            · exact this
        · rw [hset] at hj
          rw [get_put]
          by_cases hji : j = i
          · subst hji
            rw [ho] at hq
            cases hq
            rw [if_pos hdq]
            exact h3
          · rw [if_neg hji] at hj
            have hne : ¬ o.dst = some t := fun h => hji (uniq j i q o t hq ho hdq h)
            rw [if_neg hne]
            exact (hI.i1 j q t hj hq hdq).mono h2.mle keepM h2.rle
        · rw [get_put]
          have hne : ¬ o.dst = some t := hno i o (by rw [hset, if_pos rfl]) ho
          rw [if_neg hne]
          refine (hI.i2 t fun j q hj hq => ?_).mono h2.mle keepM h2.rle
          refine hno j q ?_ hq
          rw [hset]
          split
          · rfl
          · exact hj
      have avEq : ∀ {x : AV} {y : St}, T (i + 1) = y → y.s = putS (T i).s lo.dst x → lo.dst = none ∨ x = av i := by
        intro x y hy hs
        have := hav i o ho
        rw [hy, hs, hd] at this
        cases hdo : o.dst with
        | none => exact .inl (by rw [hd, hdo])
        | some u =>
          rw [hdo] at this
          simp only [putS, List.cons.injEq, Prod.mk.injEq, true_and, and_true] at this
          exact .inr this
      have grow : ∀ j, listed.getD j false = true → (listed.setIfInBounds i true).getD j false = true := by
        intro j h
        rw [hset]
        split
        · rfl
        · exact h
      have kpair : ∀ q, ops[k]? = some q → k < i → hardAt P ops k = true → hardAt P ops i = false ∧ floatOp o.op = true := by
        intro q hq hki hkh
        have hp := hpair k i q o hki hq ho
        simp only [pairX, Bool.and_eq_true] at hp
        have h4 := hp.2
        rw [← hardAt_eq hq, hkh] at h4
        simp only [Bool.not_true, Bool.false_or, Bool.or_eq_true, Bool.and_eq_true, Bool.not_eq_true'] at h4
        rcases h4 with h4 | h4
        · have h5 := hbit k h4
          have h6 := (hI.tail k (Array.getElem?_eq_some_iff.1 hq).1 hkh).1 h5
          omega
        · exact ⟨(hardAt_eq ho).trans h4.1, h4.2⟩
      cases him : hardAt P ops i with
      | false =>
        have hsf := (hT i lo hlo).1 him
        have tail' : ∀ j, j < ops.size → hardAt P ops j = true → ((listed.setIfInBounds i true).getD j false = true ↔ j < k) := by
          intro j hj hjh
          rw [hset, if_neg (fun h => by rw [h, him] at hjh; cases hjh)]
          exact hI.tail j hj hjh
        have flo' : ∀ j q, ops[j]? = some q → hardAt P ops j = false → j < k → (listed.setIfInBounds i true).getD j false = true ∨ ∀ h, j < h → h < k → hardAt P ops h = true → ((masks ops.toList []).getD h 0).testBit j = false := by
          intro j q hq hjh hj
          rcases hI.flo j q hq hjh hj with h | h
          · exact .inl (grow j h)
          · exact .inr h
        have hsf' : oneSoft E C lo ⟨(T i).s, (T k).h⟩ = some ⟨(T (i + 1)).s, (T k).h⟩ := by
          rcases Nat.lt_trichotomy i k with hik | hik | hik
          · rcases hI.flo i o ho him hik with h | h
            · rw [hunl] at h; cases h
            · exact hflo i k o lo him hik hI.kn ho hlo h
          · rcases hI.kh with h | h
            · omega
            · rw [← hik, him] at h; cases h
          · rcases hI.kh with h | h
            · omega
            · obtain ⟨q, hq⟩ : ∃ q, ops[k]? = some q := ⟨_, Array.getElem?_eq_getElem (by omega)⟩
              exact float_at hcomp (kpair q hq hik h).2 hsf _
        refine (one_soft hC ho hcomp hsf' g1 hE.n0 g2 hI.hr hopd hgv fun x a' w' M' hs hr' hsoft' hat => ?_).2
        obtain ⟨v, rfl, hv⟩ := hat
        have hav' : VR M' w' ρ (av i) v ∨ lo.dst = none := by
          rcases avEq rfl hs with h | h
          · exact .inr h
          · exact .inl (h ▸ hv)
        rcases hav' with hav' | hnone
        · exact step k w' M' ρ v hr' (hsoft'.ext hI.hr) hav' hI.kn hI.kh tail' flo'
        · exact step k w' M' ρ v hr' (hsoft'.ext hI.hr) (by rw [havx i o ho (hd ▸ hnone)]; exact .x) hI.kn hI.kh tail' flo'
      | true =>
        have hsf := (hT i lo hlo).2 him
        have hik : i = k := by
          have h1 : ¬ i < k := fun h => by have := (hI.tail i his him).2 h; rw [hunl] at this; cases this
          apply Classical.byContradiction
          intro hne
          rcases hI.kh with h | h
          · omega
          · obtain ⟨q, hq⟩ : ∃ q, ops[k]? = some q := ⟨_, Array.getElem?_eq_getElem (by omega)⟩
            have := (kpair q hq (by omega) h).1
            rw [him] at this
            cases this
        subst hik
        obtain ⟨k', n1, n2, n3, n4⟩ := next_hard P ops (ops.size - (i + 1)) (i + 1) (by omega)
        have hh : (T k').h = (T (i + 1)).h := by
          have := hsame (k' - (i + 1)) (i + 1) (by omega) fun x h1 h2 => n4 x h1 (by omega)
          rw [show i + 1 + (k' - (i + 1)) = k' by omega] at this
          exact this
        refine one_full hC ho hcomp hsf g1 hE.n0 g2 hI.hr hopd hgv fun x a' w' M' ρ' hs hnx => ?_
        obtain ⟨v, rfl, hv⟩ := hnx.at_
        have e1 := hnx.hr
        have e2 := hnx.ex
        rw [← hh] at e1 e2
        have tail' : ∀ j, j < ops.size → hardAt P ops j = true → ((listed.setIfInBounds i true).getD j false = true ↔ j < k') := by
          intro j hj hjh
          rw [hset]
          by_cases hji : j = i
          · subst hji; simp; omega
          · rw [if_neg hji, hI.tail j hj hjh]
            refine ⟨fun h => by omega, fun h => ?_⟩
            apply Classical.byContradiction
            intro hn
            have := n4 j (by omega) h
            rw [hjh] at this
            cases this
        have flo' : ∀ j q, ops[j]? = some q → hardAt P ops j = false → j < k' → (listed.setIfInBounds i true).getD j false = true ∨ ∀ h, j < h → h < k' → hardAt P ops h = true → ((masks ops.toList []).getD h 0).testBit j = false := by
          intro j q hq hjh hj
          have only : ∀ h, h < k' → hardAt P ops h = true → h ≤ i := by
            intro h h1 h2
            apply Classical.byContradiction
            intro hn
            have := n4 h (by omega) h1
            rw [h2] at this
            cases this
          by_cases hji : j < i
          · cases hb : ((masks ops.toList []).getD i 0).testBit j with
            | true => exact .inl (grow j (hbit j hb))
            | false =>
              rcases hI.flo j q hq hjh hji with h | h
              · exact .inl (grow j h)
              · refine .inr fun x h1 h2 h3 => ?_
                have := only x h2 h3
                by_cases hxi : x = i
                · rw [hxi]; exact hb
                · exact h x h1 (by omega) h3
          · exact .inr fun x h1 h2 h3 => by have := only x h2 h3; omega
        rcases avEq rfl hs with hnone | hx
        · exact step k' w' M' ρ' v e1 e2 (by rw [havx i o ho (hd ▸ hnone)]; exact .x) n2 n3 tail' flo'
        · exact step k' w' M' ρ' v e1 e2 (hx ▸ hv) n2 n3 tail' flo'
end Go.Proofs.YtbbnecjaojobfaaDoor.Ev
