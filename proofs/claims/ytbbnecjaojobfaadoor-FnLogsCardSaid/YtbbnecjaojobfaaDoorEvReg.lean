/- Regions: in the text's order, and in any order that the edges allow. -/
import Derived.Test.YtbbnecjaojobfaaDoorEvOps
set_option linter.unusedVariables false
set_option linter.unusedSimpArgs false
set_option linter.constructorNameAsVariable false
namespace Go.Proofs.YtbbnecjaojobfaaDoor.Ev
variable {P : Program} {base : Nat} {M : Nat → Prop} {ρ : Rho} {w : World}
/-- Where a call began. -/
structure Entry (n0 : Nat) (G : World → Prop) (base : Nat) (M : Nat → Prop) (ρ : Rho) (H : Hp) (w : World) : Prop where
  low : Low n0 G
  g : G w
  n0 : n0 ≤ base
  b : base ≤ w.heap.size
  hr : HR base M ρ H w
/-- A state and a frame, behind an entry. -/
structure Rs (base : Nat) (M0 : Nat → Prop) (ρ0 : Rho) (H0 : Hp) (w0 : World) (nt : Nat) (z : St) (a : Act) (w : World) (M : Nat → Prop) (ρ : Rho) : Prop where
  hr : HR base M ρ z.h w
  sl : SL M ρ w z.s a
  ex : Ext M0 ρ0 H0 w0 M ρ z.h w
  sz : a.tmps.size = nt
  df : a.defers = []
theorem Entry.at {n0 : Nat} {G : World → Prop} {M0 : Nat → Prop} {ρ0 : Rho} {H0 : Hp} {w0 : World} (h : Entry n0 G base M0 ρ0 H0 w0) {H : Hp} (e : Ext M0 ρ0 H0 w0 M ρ H w) : G w ∧ base ≤ w.heap.size :=
  ⟨Low.ext h.low h.hr h.n0 h.b h.g e, Nat.le_trans h.b e.size⟩
theorem Opd.of_sl {s : List (Nat × AV)} {a : Act} (h : SL M ρ w s a) (xs : List Operand) : Opd M ρ w s a xs := fun x _ => vr_lo h x
theorem ops_seq {E : Env} {n0 : Nat} {G : World → Prop} {C : Clo} (hC : CS P n0 G C) {nt : Nat} {ops : Array Oper} {M0 : Nat → Prop} {ρ0 : Rho} {H0 : Hp} {w0 : World} (hE : Entry n0 G base M0 ρ0 H0 w0) {Q : Exit → Act → World → Prop} :
    ∀ (r : List LOper) (os : List Oper) (i : Nat) (z y : St) (a : Act) (w : World) (M : Nat → Prop) (ρ : Rho), (∀ j, os[j]? = ops[i + j]?) → mapO (compOper P nt ops) os = some r → evOps E C 0 r z = some y → Rs base M0 ρ0 H0 w0 nt z a w M ρ →
      (∀ a' w' M' ρ', Rs base M0 ρ0 H0 w0 nt y a' w' M' ρ' → Q .normal a' w') → wpOps P ops Q (List.range' i os.length) a w
  | r, [], i, z, y, a, w, M, ρ, _, hm, he, hR, hQ => by
    cases hm
    cases he
    exact hQ a w M ρ hR
  | r, o :: os, i, z, y, a, w, M, ρ, hat, hm, he, hR, hQ => by
    simp only [mapO] at hm
    obtain ⟨lo, hlo, h2⟩ := bind_iff.1 hm
    obtain ⟨r', hr', h3⟩ := bind_iff.1 h2
    cases h3
    obtain ⟨u, hu, hy⟩ := bind_iff.1 he
    have hi : ops[i]? = some o := by have := hat 0; simpa using this.symm
    obtain ⟨g1, g2⟩ := hE.at hR.ex
    rw [List.length_cons, List.range'_succ, wpOps_cons]
    obtain ⟨hd, hnt, _, _⟩ := compOper_some hlo
    refine one_full hC hi hlo hu g1 hE.n0 g2 hR.hr (Opd.of_sl hR.sl _) (fun t b _ => hR.sl t) fun av a' w' M' ρ' hs hn => ?_
    obtain ⟨v, rfl, hv⟩ := hn.at_
    refine ops_seq hC hE r' os (i + 1) u y _ w' M' ρ' (fun j => by have := hat (j + 1); rw [List.getElem?_cons_succ] at this; rw [this, show i + (j + 1) = i + 1 + j by omega]) hr' hy
      { hr := hn.hr, sl := ?_, ex := hR.ex.trans hn.ex, sz := by rw [put_size]; exact hR.sz, df := by rw [put_defers]; exact hR.df } hQ
    rw [hs]
    exact SL.put (hR.sl.mono hn.ex.mle (hR.hr.keepM hn.ex) hn.ex.rle) hv (fun t ht => by rw [hR.sz]; exact hnt t (hd ▸ ht))
-- ---------------------------------------------------------------- any order
theorem masks_prefix : ∀ (l : List Oper) (acc : List Nat), ∃ t, masks l acc = acc ++ t
  | [], acc => ⟨[], by simp [masks]⟩
  | o :: r, acc => by
    obtain ⟨t, ht⟩ := masks_prefix r (acc ++ [maskOf o acc])
    exact ⟨maskOf o acc :: t, by simp [masks, ht]⟩
theorem masks_at : ∀ (l : List Oper) (acc : List Nat) (j : Nat) (o : Oper), l[j]? = some o → (masks l acc)[acc.length + j]? = some (maskOf o ((masks l acc).take (acc.length + j)))
  | [], acc, j, o, h => by simp at h
  | x :: r, acc, j, o, h => by
    cases j with
    | zero =>
      simp at h
      subst h
      obtain ⟨t, ht⟩ := masks_prefix r (acc ++ [maskOf x acc])
      simp only [masks, ht, Nat.add_zero]
      rw [List.append_assoc, List.getElem?_append_right (Nat.le_refl _)]
      simp
    | succ j =>
      have := masks_at r (acc ++ [maskOf x acc]) j o (by simpa using h)
      simp only [List.length_append, List.length_singleton] at this
      simp only [masks]
      rw [show acc.length + (j + 1) = acc.length + 1 + j by omega]
      exact this
theorem maskOf_bit {o : Oper} {acc : List Nat} {i : Nat} (h : (maskOf o acc).testBit i = true) : ∃ e ∈ o.after.toList, Region.binds .any e = true ∧ (i = e.on ∨ (acc.getD e.on 0).testBit i = true) := by
  unfold maskOf at h
  have go : ∀ (l : List Edge) (s : Nat), (l.foldl (fun s e => if Region.binds .any e then s ||| 2 ^ e.on ||| acc.getD e.on 0 else s) s).testBit i = true → s.testBit i = true ∨ ∃ e ∈ l, Region.binds .any e = true ∧ (i = e.on ∨ (acc.getD e.on 0).testBit i = true) := by
    intro l
    induction l with
    | nil => intro s h; exact .inl h
    | cons e l ih =>
      intro s h
      rw [List.foldl_cons] at h
      rcases ih _ h with h1 | ⟨e', h1, h2⟩
      · split at h1
        · rename_i hb
          rw [Nat.testBit_or, Nat.testBit_or, Bool.or_eq_true, Bool.or_eq_true] at h1
          rcases h1 with (h1 | h1) | h1
          · exact .inl h1
          · refine .inr ⟨e, by simp, hb, .inl ?_⟩
            rw [Nat.testBit_two_pow] at h1
            have h2 : e.on = i := by simpa using h1
            exact h2.symm
          · exact .inr ⟨e, by simp, hb, .inr h1⟩
        · exact .inl h1
      · exact .inr ⟨e', by simp [h1], h2⟩
  rcases go _ 0 h with h1 | h1
  · simp at h1
  · exact h1
theorem mask_listed {ops : Array Oper} {L : Nat → Prop} (hlt : ∀ (j : Nat) (o : Oper), ops[j]? = some o → ∀ e ∈ o.after.toList, Region.binds .any e = true → e.on < j) (hcl : ∀ (j : Nat) (o : Oper), L j → ops[j]? = some o → ∀ e ∈ o.after.toList, Region.binds .any e = true → L e.on) :
    ∀ (j : Nat) (o : Oper), ops[j]? = some o → (∀ e ∈ o.after.toList, Region.binds .any e = true → L e.on) → ∀ i, ((masks ops.toList []).getD j 0).testBit i = true → L i := by
  intro j
  induction j using Nat.strongRecOn with
  | _ j ih =>
    intro o ho hpre i hb
    have hm := masks_at ops.toList [] j o (by simpa using ho)
    simp only [List.length_nil, Nat.zero_add] at hm
    rw [List.getD_eq_getElem?_getD, hm] at hb
    obtain ⟨e, he, hbd, hc⟩ := maskOf_bit hb
    have hLe := hpre e he hbd
    rcases hc with rfl | hc
    · exact hLe
    · have hej := hlt j o ho e he hbd
      have hon : ∃ o', ops[e.on]? = some o' := by
        have hjs : j < ops.size := (Array.getElem?_eq_some_iff.1 ho).1
        exact ⟨_, Array.getElem?_eq_getElem (by omega)⟩
      obtain ⟨o', ho'⟩ := hon
      refine ih e.on hej o' ho' (hcl e.on o' hLe ho') i ?_
      rw [List.getD_eq_getElem?_getD, List.getElem?_take, if_pos hej] at hc
      rw [List.getD_eq_getElem?_getD]
      exact hc
theorem drawOk_spec {ops : Array Oper} (h : drawOk P ops = true) : (∀ (j : Nat) (o : Oper), ops[j]? = some o → ∀ e ∈ o.after.toList, Region.binds .any e = true → e.on < j) ∧
    ∀ (i j : Nat) (q o : Oper), i < j → ops[i]? = some q → ops[j]? = some o → pairOk ops (masks ops.toList []) (softLen P ops) o j q i = true := by
  unfold drawOk at h
  simp only [List.all_eq_true, Bool.and_eq_true] at h
  have mem : ∀ (j : Nat) (o : Oper), ops[j]? = some o → (o, j) ∈ ops.toList.zipIdx := by
    intro j o ho
    rw [List.mem_zipIdx_iff_getElem?]
    simpa using ho
  refine ⟨fun j o ho e he hb => ?_, fun i j q o hij hq ho => ?_⟩
  · have := (h (o, j) (mem j o ho)).1 e he
    simp only [hb, Bool.not_true, Bool.false_or, decide_eq_true_eq] at this
    exact this
  · have := (h (o, j) (mem j o ho)).2 (q, i) (mem i q hq)
    simp only [hij, decide_true, Bool.not_true, Bool.false_or] at this
    exact this
theorem one_put {E : Env} {C : Clo} {lo : LOper} {z y : St} (h : oneFull E C lo z = some y) : ∃ av, y.s = putS z.s lo.dst av := by
  unfold oneFull at h
  cases hw : wants z.s lo.g with
  | none => rw [hw] at h; cases h
  | some p =>
    rw [hw] at h
    simp only [oneFW] at h
    split at h
    · cases hf : fullOp E C z lo.op with
      | none => rw [hf] at h; cases h
      | some r => obtain ⟨av, H⟩ := r; rw [hf] at h; cases h; exact ⟨av, rfl⟩
    · cases h; exact ⟨.v undef, rfl⟩
theorem soft_put {E : Env} {C : Clo} {lo : LOper} {z y : St} (h : oneSoft E C lo z = some y) : (∃ av, y.s = putS z.s lo.dst av) ∧ y.h = z.h := by
  unfold oneSoft at h
  cases hw : wants z.s lo.g with
  | none => rw [hw] at h; cases h
  | some p =>
    rw [hw] at h
    simp only [oneSW] at h
    split at h
    · cases hf : softOp E C z lo.op with
      | none => rw [hf] at h; cases h
      | some av => rw [hf] at h; cases h; exact ⟨⟨av, rfl⟩, rfl⟩
    · cases h; exact ⟨⟨.v undef, rfl⟩, rfl⟩
theorem evOps_trace {E : Env} {C : Clo} : ∀ (l : List LOper) (m : Nat) (z y : St), evOps E C m l z = some y → ∃ T : Nat → St, T 0 = z ∧ T l.length = y ∧ ∀ (i : Nat) (lo : LOper), l[i]? = some lo → (i < m → oneSoft E C lo (T i) = some (T (i + 1))) ∧ (m ≤ i → oneFull E C lo (T i) = some (T (i + 1)))
  | [], m, z, y, h => by
    have : z = y := by cases m <;> exact Option.some.inj h
    exact ⟨fun _ => z, rfl, this, fun i lo hl => by simp at hl⟩
  | o :: r, m, z, y, h => by
    cases m with
    | zero =>
      obtain ⟨u, hu, hy⟩ := bind_iff.1 h
      obtain ⟨T, t0, t1, t2⟩ := evOps_trace r 0 u y hy
      refine ⟨fun i => match i with | 0 => z | i + 1 => T i, rfl, t1, fun i lo hl => ?_⟩
      cases i with
      | zero => simp at hl; subst hl; exact ⟨fun h => by omega, fun _ => by simpa [t0] using hu⟩
      | succ i => have := t2 i lo (by simpa using hl); exact ⟨fun h => by omega, fun _ => this.2 (by omega)⟩
    | succ m =>
      obtain ⟨u, hu, hy⟩ := bind_iff.1 h
      obtain ⟨T, t0, t1, t2⟩ := evOps_trace r m u y hy
      refine ⟨fun i => match i with | 0 => z | i + 1 => T i, rfl, t1, fun i lo hl => ?_⟩
      cases i with
      | zero => simp at hl; subst hl; exact ⟨fun _ => by simpa [t0] using hu, fun h => by omega⟩
      | succ i => have := t2 i lo (by simpa using hl); exact ⟨fun h => this.1 (by omega), fun h => this.2 (by omega)⟩
theorem float_soft {E : Env} {C : Clo} {op : Op} (hf : floatOp op = true) {l : LOp} (hc : compOp P op = some l) (s : List (Nat × AV)) (h h' : Hp) : softOp E C ⟨s, h⟩ l = softOp E C ⟨s, h'⟩ l := by
  cases op with
  | move x => cases hc; rfl
  | pick c x y => cases hc; rfl
  | binOp o t x y ty =>
    simp only [compOp] at hc
    split at hc <;> first | (cases hc; rfl) | (obtain ⟨_, _, hc⟩ := bind_iff.1 hc; cases hc; rfl) | cases hc
  | unOp o t x => cases hc; rfl
  | extract x i => cases hc; rfl
  | field t x f =>
    simp only [compOp] at hc
    split at hc
    · obtain ⟨g, _, h2⟩ := bind_iff.1 hc
      obtain ⟨k, _, h3⟩ := bind_iff.1 h2
      obtain ⟨ag, _, h4⟩ := bind_iff.1 h3
      cases h4
      rfl
    · cases hc
  | _ => simp [floatOp] at hf
/-- What is known in the midst of a region whose order is open. -/
structure Mid (base : Nat) (M0 : Nat → Prop) (ρ0 : Rho) (H0 : Hp) (w0 : World) (nt : Nat) (ops : Array Oper) (T : Nat → St) (av : Nat → AV) (m k : Nat) (listed : Array Bool) (a : Act) (w : World) (M : Nat → Prop) (ρ : Rho) : Prop where
  ls : listed.size = ops.size
  hr : HR base M ρ (T k).h w
  ex : Ext M0 ρ0 H0 w0 M ρ (T k).h w
  sz : a.tmps.size = nt
  df : a.defers = []
  mge : m ≤ k
  kn : k ≤ ops.size
  tail : ∀ j, m ≤ j → j < ops.size → (listed.getD j false = true ↔ j < k)
  flo : m < k → ∀ j o, j < m → ops[j]? = some o → listed.getD j false = true ∨ floatOp o.op = true
  cl : ∀ (j : Nat) (o : Oper), listed.getD j false = true → ops[j]? = some o → ∀ e ∈ o.after.toList, Region.binds .any e = true → listed.getD e.on false = true
  i1 : ∀ (j : Nat) (o : Oper) (t : Nat), listed.getD j false = true → ops[j]? = some o → o.dst = some t → VR M w ρ (av j) (a.tmps.getD t undef)
  i2 : ∀ t, (∀ (j : Nat) (o : Oper), listed.getD j false = true → ops[j]? = some o → o.dst ≠ some t) → VR M w ρ (sget (T 0).s t) (a.tmps.getD t undef)
theorem looks_operand {ops : Array Oper} {o : Oper} {t : Nat} (h : Operand.tmp t ∈ o.op.operands.toList) : t ∈ o.looksAt ops := by
  unfold Oper.looksAt
  exact List.mem_append.2 (.inl (List.mem_filterMap.2 ⟨_, h, rfl⟩))
theorem dstIn_iff {d : Option Tmp} {l : List Tmp} {t : Nat} (hd : d = some t) : dstIn d l = true ↔ t ∈ l := by subst hd; simp [dstIn]
theorem fin_of {nt : Nat} {ops : Array Oper} {M0 : Nat → Prop} {ρ0 : Rho} {H0 : Hp} {w0 : World} {T : Nat → St} {av : Nat → AV} {m k : Nat} {listed : Array Bool} {a : Act} {M : Nat → Prop} (hI : Mid base M0 ρ0 H0 w0 nt ops T av m k listed a w M ρ) (hall : ∀ j, j < ops.size → listed.getD j false = true)
    (sT : ∀ i, i ≤ ops.size → ∀ t, (∀ (j : Nat) (o : Oper), j < i → ops[j]? = some o → o.dst = some t → sget (T i).s t = av j) ∧ ((∀ (j : Nat) (o : Oper), j < i → ops[j]? = some o → o.dst ≠ some t) → sget (T i).s t = sget (T 0).s t)) : Rs base M0 ρ0 H0 w0 nt (T ops.size) a w M ρ := by
  have hk : k = ops.size := by
    rcases Nat.lt_or_ge k ops.size with h | h
    · have := (hI.tail k hI.mge h).1 (hall k h); omega
    · exact Nat.le_antisymm hI.kn h
  have h1 := hI.hr
  have h2 := hI.ex
  rw [hk] at h1 h2
  refine { hr := h1, sl := fun t => ?_, ex := h2, sz := hI.sz, df := hI.df }
  obtain ⟨s1, s2⟩ := sT ops.size (Nat.le_refl _) t
  by_cases hex : ∃ (j : Nat) (q : Oper), ops[j]? = some q ∧ q.dst = some t
  · obtain ⟨j, q, hq, hdq⟩ := hex
    have hj : j < ops.size := (Array.getElem?_eq_some_iff.1 hq).1
    rw [s1 j q hj hq hdq]
    exact hI.i1 j q t (hall j hj) hq hdq
  · rw [s2 fun j q _ hq hdq => hex ⟨j, q, hq, hdq⟩]
    exact hI.i2 t fun j q _ hq hdq => hex ⟨j, q, hq, hdq⟩
theorem draw_any {E : Env} {n0 : Nat} {G : World → Prop} {C : Clo} (hC : CS P n0 G C) {nt : Nat} {ops : Array Oper} {M0 : Nat → Prop} {ρ0 : Rho} {H0 : Hp} {w0 : World} (hE : Entry n0 G base M0 ρ0 H0 w0) {Q : Exit → Act → World → Prop} (hok : drawOk P ops = true) {l : List LOper} (hl : mapO (compOper P nt ops) ops.toList = some l)
    {T : Nat → St} {av : Nat → AV} (hT : ∀ (i : Nat) (lo : LOper), l[i]? = some lo → (i < softLen P ops → oneSoft E C lo (T i) = some (T (i + 1))) ∧ (softLen P ops ≤ i → oneFull E C lo (T i) = some (T (i + 1))))
    (hav : ∀ (i : Nat) (o : Oper), ops[i]? = some o → (T (i + 1)).s = putS (T i).s o.dst (av i)) (havx : ∀ (i : Nat) (o : Oper), ops[i]? = some o → o.dst = none → av i = .x) (hQ : ∀ a' w' M' ρ', Rs base M0 ρ0 H0 w0 nt (T ops.size) a' w' M' ρ' → Q .normal a' w') :
    ∀ (fuel : Nat) (U : List Nat) (listed : Array Bool) (a : Act) (w : World) (M : Nat → Prop) (ρ : Rho) (k : Nat), U.length ≤ fuel → U.Nodup → (∀ j, j < ops.size → (listed.getD j false = false ↔ j ∈ U)) → Mid base M0 ρ0 H0 w0 nt ops T av (softLen P ops) k listed a w M ρ → wpAny P .any ops Q fuel listed a w := by
  obtain ⟨hlt, hpair⟩ := drawOk_spec hok
  obtain ⟨hll, hlat⟩ := mapO_some hl
  have hn : l.length = ops.size := by rw [hll]; simp
  have hsoft : softLen P ops ≤ ops.size := by
    unfold softLen
    have := (List.takeWhile_sublist (l := ops.toList) (fun o : Oper => !hardOp P o.op)).length_le
    simpa using this
  have hth : ∀ i, i ≤ softLen P ops → (T i).h = (T 0).h := by
    intro i
    induction i with
    | zero => intro _; rfl
    | succ i ih =>
      intro hi
      have hil : i < l.length := by omega
      have := (hT i _ (List.getElem?_eq_getElem hil)).1 (by omega)
      rw [(soft_put this).2]
      exact ih (by omega)
  have uniq : ∀ (i j : Nat) (q o : Oper) (t : Nat), ops[i]? = some q → ops[j]? = some o → q.dst = some t → o.dst = some t → i = j := by
    intro i j q o t hq ho h1 h2
    rcases Nat.lt_trichotomy i j with h | h | h
    · have := hpair i j q o h hq ho
      simp [pairOk, h1, h2, sameDst] at this
    · exact h
    · have := hpair j i o q h ho hq
      simp [pairOk, h1, h2, sameDst] at this
  have sT : ∀ i, i ≤ ops.size → ∀ t, (∀ (j : Nat) (o : Oper), j < i → ops[j]? = some o → o.dst = some t → sget (T i).s t = av j) ∧ ((∀ (j : Nat) (o : Oper), j < i → ops[j]? = some o → o.dst ≠ some t) → sget (T i).s t = sget (T 0).s t) := by
    intro i
    induction i with
    | zero => intro _ t; exact ⟨fun j o h => by omega, fun _ => rfl⟩
    | succ i ih =>
      intro hi t
      obtain ⟨oi, hoi⟩ : ∃ o, ops[i]? = some o := ⟨_, Array.getElem?_eq_getElem (by omega)⟩
      obtain ⟨ih1, ih2⟩ := ih (by omega) t
      have hs := hav i oi hoi
      refine ⟨fun j o hj ho hd => ?_, fun hno => ?_⟩
      · by_cases hji : j = i
        · subst hji
          rw [hoi] at ho
          cases ho
          rw [hs, hd]
          simp [putS, sget]
        · have hne : oi.dst ≠ some t := fun h => hji (uniq j i o oi t ho hoi hd h)
          rw [hs]
          cases hdi : oi.dst with
          | none => exact ih1 j o (by omega) ho hd
          | some u =>
            have hut : ¬ u = t := fun h => hne (by rw [hdi, h])
            simp only [putS, sget, if_neg hut]
            exact ih1 j o (by omega) ho hd
      · rw [hs]
        cases hdi : oi.dst with
        | none => exact ih2 fun j o hj ho => hno j o (by omega) ho
        | some u =>
          have hut : ¬ u = t := fun h => hno i oi (by omega) hoi (by rw [hdi, h])
          simp only [putS, sget, if_neg hut]
          exact ih2 fun j o hj ho => hno j o (by omega) ho
  intro fuel
  induction fuel with
  | zero =>
    intro U listed a w M ρ k hU hnd hmem hI
    have hnil : U = [] := List.eq_nil_of_length_eq_zero (by omega)
    have hall : ∀ j, j < ops.size → listed.getD j false = true := fun j hj => by
      cases hx : listed.getD j false with
      | true => rfl
      | false => have := (hmem j hj).1 hx; rw [hnil] at this; cases this
    have hfin := fin_of hI hall sT
    refine ⟨?_, hQ a w M ρ hfin⟩
    rw [List.eq_nil_iff_forall_not_mem]
    intro j hj
    obtain ⟨h1, o, h2, _⟩ := mem_ready.1 hj
    have hjs : j < ops.size := (Array.getElem?_eq_some_iff.1 h2).1
    have h3 := hall j hjs
    rw [Array.getD_eq_getD_getElem?, Array.getElem?_eq_getElem (by rw [hI.ls]; exact hjs)] at h1 h3
    simp at h1 h3
    rw [h1] at h3
    cases h3
  | succ fuel ih =>
    intro U listed a w M ρ k hU hnd hmem hI
    refine ⟨fun hre => ?_, fun i hi => ?_⟩
    · have hall : ∀ j, j < ops.size → listed.getD j false = true := by
        intro j
        induction j using Nat.strongRecOn with
        | _ j ihj =>
          intro hj
          cases hx : listed.getD j false with
          | true => rfl
          | false =>
            exfalso
            have : j ∈ Region.ready .any ops listed := by
              rw [mem_ready]
              refine ⟨?_, _, Array.getElem?_eq_getElem hj, fun e he hb => ?_⟩
              · rw [Array.getD_eq_getD_getElem?, Array.getElem?_eq_getElem (by rw [hI.ls]; exact hj)] at hx ⊢
                simpa using hx
              · have := hlt j _ (Array.getElem?_eq_getElem hj) e (by simpa using he) hb
                exact ihj e.on this (by omega)
            rw [hre] at this
            cases this
      exact hQ a w M ρ (fin_of hI hall sT)
    · obtain ⟨hun, o, ho, hpre⟩ := mem_ready.1 hi
      have his : i < ops.size := (Array.getElem?_eq_some_iff.1 ho).1
      have hunl : listed.getD i false = false := by
        rw [Array.getD_eq_getD_getElem?, Array.getElem?_eq_getElem (by rw [hI.ls]; exact his)] at hun ⊢
        simpa using hun
      have hpre' : ∀ e ∈ o.after.toList, Region.binds .any e = true → listed.getD e.on false = true := fun e he hb => hpre e (by simpa using he) hb
      have hbit : ∀ j, ((masks ops.toList []).getD i 0).testBit j = true → listed.getD j false = true := mask_listed (L := fun j => listed.getD j false = true) hlt hI.cl i o ho hpre'
      have hbitj : ∀ j q, listed.getD j false = true → ops[j]? = some q → ∀ x, ((masks ops.toList []).getD j 0).testBit x = true → listed.getD x false = true := fun j q hj hq => mask_listed (L := fun j => listed.getD j false = true) hlt hI.cl j q hq (hI.cl j q hj hq)
      obtain ⟨lo, hlo⟩ : ∃ lo, l[i]? = some lo := ⟨_, List.getElem?_eq_getElem (by omega)⟩
      have hcomp : compOper P nt ops o = some lo := hlat i o lo (by simpa using ho) hlo
      obtain ⟨hd, hnt, hgd, hop⟩ := compOper_some hcomp
      have reads : ∀ t, t ∈ o.looksAt ops → VR M w ρ (sget (T i).s t) (a.tmps.getD t undef) := by
        intro t ht
        obtain ⟨s1, s2⟩ := sT i (by omega) t
        by_cases hex : ∃ j q, j < i ∧ ops[j]? = some q ∧ q.dst = some t
        · obtain ⟨j, q, hj, hq, hdq⟩ := hex
          rw [s1 j q hj hq hdq]
          have hp := hpair j i q o hj hq ho
          simp only [pairOk, Bool.and_eq_true] at hp
          have h2 := hp.1.1.2
          rw [(dstIn_iff hdq).2 (by unfold readsOf; exact ht)] at h2
          simp only [Bool.not_true, Bool.false_or] at h2
          exact hI.i1 j q t (hbit j h2) hq hdq
        · rw [s2 fun j q hj hq hdq => hex ⟨j, q, hj, hq, hdq⟩]
          refine hI.i2 t fun j q hj hq hdq => ?_
          rcases Nat.lt_trichotomy j i with h | h | h
          · exact hex ⟨j, q, h, hq, hdq⟩
          · subst h; rw [hunl] at hj; cases hj
          · have hp := hpair i j o q h ho hq
            simp only [pairOk, Bool.and_eq_true] at hp
            have h2 := hp.1.2
            rw [(dstIn_iff hdq).2 (by unfold readsOf; exact ht)] at h2
            simp only [Bool.not_true, Bool.false_or] at h2
            have := hbitj j q hj hq i h2
            rw [hunl] at this
            cases this
      have hopd : Opd M ρ w (T i).s a o.op.operands.toList := by
        intro x hx
        cases x with
        | tmp t => exact reads t (looks_operand hx)
        | const v => exact vr_ofV v
        | global g => exact .v
        | func f => exact .fn rfl rfl (fun i c u h1 h2 => by simp at h1) (fun i c u h1 h2 => by simp at h1)
      have hgv : ∀ t b, lo.g = some (t, b) → VR M w ρ (sget (T i).s t) (a.tmps.getD t undef) := by
        intro t b hg
        refine reads t ?_
        rw [hg] at hgd
        cases hgg : o.guard with
        | none => rw [hgg] at hgd; cases hgd
        | some p =>
          obtain ⟨j, b'⟩ := p
          rw [hgg] at hgd
          simp only [guardOf] at hgd
          split at hgd
          · rename_i u hu
            cases hgd
            unfold Oper.looksAt
            rw [hgg]
            simp only
            rw [hu]
            exact List.mem_append.2 (.inr (by simp))
          · cases hgd
      obtain ⟨g1, g2⟩ := hE.at hI.ex
      have hset : ∀ j, (listed.setIfInBounds i true).getD j false = if j = i then true else listed.getD j false := by
        intro j
        by_cases hji : j = i
        · subst hji
          rw [if_pos rfl, Array.getD_eq_getD_getElem?, Array.getElem?_setIfInBounds, if_pos rfl, if_pos (by rw [hI.ls]; exact his)]
          rfl
        · rw [if_neg hji, Array.getD_eq_getD_getElem?, Array.getD_eq_getD_getElem?, Array.getElem?_setIfInBounds, if_neg (fun h => hji h.symm)]
      have hU' : (U.erase i).length ≤ fuel := by
        have hm := (hmem i his).1 hunl
        rw [List.length_erase_of_mem hm]
        omega
      have hmem' : ∀ j, j < ops.size → ((listed.setIfInBounds i true).getD j false = false ↔ j ∈ U.erase i) := by
        intro j hj
        rw [hset, hnd.mem_erase_iff]
        by_cases hji : j = i
        · simp [hji]
        · rw [if_neg hji, hmem j hj]; simp [hji]
      -- what the step leaves, whatever it was
      have step : ∀ (k' : Nat) (w' : World) (M' : Nat → Prop) (ρ' : Rho) (v : Value), HR base M' ρ' (T k').h w' → Ext M ρ (T k).h w M' ρ' (T k').h w' → VR M' w' ρ' (av i) v → softLen P ops ≤ k' → k' ≤ ops.size →
          (∀ j, softLen P ops ≤ j → j < ops.size → ((listed.setIfInBounds i true).getD j false = true ↔ j < k')) → (softLen P ops < k' → ∀ j q, j < softLen P ops → ops[j]? = some q → (listed.setIfInBounds i true).getD j false = true ∨ floatOp q.op = true) →
          wpAny P .any ops Q fuel (listed.setIfInBounds i true) (a.put lo.dst v) w' := by
        intro k' w' M' ρ' v h1 h2 h3 h4 h5 h6 h7
        have keepM := hI.hr.keepM h2
        have hdt : ∀ t, o.dst = some t → t < a.tmps.size := fun t ht => by rw [hI.sz]; exact hnt t ht
        have get_put : ∀ t, (a.put lo.dst v).tmps.getD t undef = if o.dst = some t then v else a.tmps.getD t undef := by
          intro t
          rw [hd]
          cases hdo : o.dst with
          | none => simp [Act.put]
          | some u =>
            simp only [Act.put, Array.getD_eq_getD_getElem?, Array.getElem?_setIfInBounds]
            by_cases hu : u = t
            · subst hu; simp [hdt u hdo]
            · simp [hu]
        refine ih (U.erase i) _ _ w' M' ρ' k' hU' (hnd.erase i) hmem' { ls := by simp [hI.ls], hr := h1, ex := hI.ex.trans h2, sz := by rw [put_size]; exact hI.sz, df := by rw [put_defers]; exact hI.df, mge := h4, kn := h5, tail := h6, flo := h7, cl := fun j q hj hq e he hb => ?_, i1 := fun j q t hj hq hdq => ?_, i2 := fun t hno => ?_ }
        · rw [hset] at hj ⊢
          by_cases hji : j = i
          · subst hji
            rw [ho] at hq
            cases hq
            have := hpre' e he hb
            split
            · rfl
            · exact this
          · rw [if_neg hji] at hj
            have := hI.cl j q hj hq e he hb
            split
            · rfl
            · exact this
        · rw [hset] at hj
          rw [get_put]
          by_cases hji : j = i
          · subst hji
            rw [ho] at hq
            cases hq
            rw [if_pos hdq]
            exact h3
          · rw [if_neg hji] at hj
            have hne : ¬ o.dst = some t := fun h => hji (uniq j i q o t hq ho hdq h)
            rw [if_neg hne]
            exact (hI.i1 j q t hj hq hdq).mono h2.mle keepM h2.rle
        · rw [get_put]
          have hne : ¬ o.dst = some t := hno i o (by rw [hset, if_pos rfl]) ho
          rw [if_neg hne]
          refine (hI.i2 t fun j q hj hq => ?_).mono h2.mle keepM h2.rle
          refine hno j q ?_ hq
          rw [hset]
          split
          · rfl
          · exact hj
      have avEq : ∀ {x : AV} {y : St}, T (i + 1) = y → y.s = putS (T i).s lo.dst x → lo.dst = none ∨ x = av i := by
        intro x y hy hs
        have := hav i o ho
        rw [hy, hs, hd] at this
        cases hdo : o.dst with
        | none => exact .inl (by rw [hd, hdo])
        | some u =>
          rw [hdo] at this
          simp only [putS, List.cons.injEq, Prod.mk.injEq, true_and, and_true] at this
          exact .inr this
      by_cases him : i < softLen P ops
      · have hsf := (hT i lo hlo).1 him
        have tail' : ∀ j, softLen P ops ≤ j → j < ops.size → ((listed.setIfInBounds i true).getD j false = true ↔ j < k) := by
          intro j hj hjs
          rw [hset, if_neg (by omega)]
          exact hI.tail j hj hjs
        have flo' : softLen P ops < k → ∀ j q, j < softLen P ops → ops[j]? = some q → (listed.setIfInBounds i true).getD j false = true ∨ floatOp q.op = true := by
          intro hk j q hj hq
          rcases hI.flo hk j q hj hq with h | h
          · left; rw [hset]; split
            · rfl
            · exact h
          · exact .inr h
        -- the step at the heap that stands
        have hsf' : ∃ y, oneSoft E C lo ⟨(T i).s, (T k).h⟩ = some y ∧ y.s = (T (i + 1)).s := by
          by_cases hk : k = softLen P ops
          · have hh : (T k).h = (T i).h := by rw [hk, hth _ (Nat.le_refl _), hth i (by omega)]
            rw [hh]
            exact ⟨T (i + 1), hsf, rfl⟩
          · have hk' : softLen P ops < k := by have := hI.mge; omega
            rcases hI.flo hk' i o him ho with h | hf
            · rw [hunl] at h; cases h
            · have hsf1 : oneSW E C lo (T i) (wants (T i).s lo.g) = some (T (i + 1)) := hsf
              show ∃ y, oneSW E C lo ⟨(T i).s, (T k).h⟩ (wants (T i).s lo.g) = some y ∧ y.s = (T (i + 1)).s
              cases hw : wants (T i).s lo.g with
              | none => rw [hw] at hsf1; cases hsf1
              | some b =>
                rw [hw] at hsf1
                cases b with
                | false =>
                  simp only [oneSW, Bool.false_eq_true, if_false, Option.some.injEq] at hsf1 ⊢
                  exact ⟨_, rfl, by rw [← hsf1]⟩
                | true =>
                  simp only [oneSW, if_true] at hsf1 ⊢
                  rw [float_soft hf hop (T i).s (T k).h (T i).h]
                  have hz : (⟨(T i).s, (T i).h⟩ : St) = T i := rfl
                  rw [hz]
                  cases hso : softOp E C (T i) lo.op with
                  | none => rw [hso] at hsf1; cases hsf1
                  | some x =>
                    rw [hso] at hsf1
                    simp only [putA, Option.some.injEq] at hsf1 ⊢
                    exact ⟨_, rfl, by rw [← hsf1]⟩
        obtain ⟨y, hy1, hy2⟩ := hsf'
        refine (one_soft hC ho hcomp hy1 g1 hE.n0 g2 hI.hr hopd hgv fun x a' w' M' hs hr' hsoft' hat => ?_).2
        obtain ⟨v, rfl, hv⟩ := hat
        have hav' : VR M' w' ρ (av i) v ∨ lo.dst = none := by
          rw [hy2] at hs
          rcases avEq rfl hs with h | h
          · exact .inr h
          · exact .inl (h ▸ hv)
        rcases hav' with hav' | hnone
        · exact step k w' M' ρ v hr' (hsoft'.ext hI.hr) hav' hI.mge hI.kn tail' flo'
        · -- no slot is written: any value serves
          exact step k w' M' ρ v hr' (hsoft'.ext hI.hr) (by rw [havx i o ho (hd ▸ hnone)]; exact .x) hI.mge hI.kn tail' flo'
      · have him' : softLen P ops ≤ i := by omega
        have hsf := (hT i lo hlo).2 him'
        have pair' : ∀ j q, j < i → ops[j]? = some q → listed.getD j false = true ∨ (j < softLen P ops ∧ floatOp q.op = true) := by
          intro j q hj hq
          have hp := hpair j i q o hj hq ho
          simp only [pairOk, Bool.and_eq_true] at hp
          have h4 := hp.2
          simp only [Bool.or_eq_true, Bool.and_eq_true, decide_eq_true_eq] at h4
          rcases h4 with (h4 | h4) | h4
          · omega
          · exact .inl (hbit j h4)
          · exact .inr ⟨h4.1, h4.2⟩
        have hik : i = k := by
          have h1 : ¬ i < k := fun h => by have := (hI.tail i him' his).2 h; rw [hunl] at this; cases this
          apply Classical.byContradiction
          intro hne
          have hki : k < i := by omega
          obtain ⟨q, hq⟩ : ∃ q, ops[k]? = some q := ⟨_, Array.getElem?_eq_getElem (by omega)⟩
          rcases pair' k q hki hq with h | h
          · have := (hI.tail k hI.mge (by omega)).1 h; omega
          · have := hI.mge; omega
        subst hik
        refine one_full hC ho hcomp hsf g1 hE.n0 g2 hI.hr hopd hgv fun x a' w' M' ρ' hs hnx => ?_
        obtain ⟨v, rfl, hv⟩ := hnx.at_
        have tail' : ∀ j, softLen P ops ≤ j → j < ops.size → ((listed.setIfInBounds i true).getD j false = true ↔ j < i + 1) := by
          intro j hj hjs
          rw [hset]
          by_cases hji : j = i
          · simp [hji]
          · rw [if_neg hji, hI.tail j hj hjs]; omega
        have flo' : softLen P ops < i + 1 → ∀ j q, j < softLen P ops → ops[j]? = some q → (listed.setIfInBounds i true).getD j false = true ∨ floatOp q.op = true := by
          intro _ j q hj hq
          rcases pair' j q (by omega) hq with h | h
          · left; rw [hset]; split
            · rfl
            · exact h
          · exact .inr h.2
        rcases avEq rfl hs with hnone | hx
        · exact step (i + 1) w' M' ρ' v hnx.hr hnx.ex (by rw [havx i o ho (hd ▸ hnone)]; exact .x) (by omega) (by omega) tail' flo'
        · exact step (i + 1) w' M' ρ' v hnx.hr hnx.ex (hx ▸ hv) (by omega) (by omega) tail' flo'
end Go.Proofs.YtbbnecjaojobfaaDoor.Ev
