/- The evaluator without a bound on rounds: the least that all bounds agree on, and its equation. -/
import Derived.Test.YtbbnecjaojobfaaDoorEvCore
set_option linter.unusedVariables false
set_option linter.unusedSimpArgs false
set_option linter.constructorNameAsVariable false
namespace Go.Proofs.YtbbnecjaojobfaaDoor.Ev
def Le {α : Type} (a b : Option α) : Prop := ∀ r, a = some r → b = some r
theorem Le.refl {α : Type} (a : Option α) : Le a a := fun _ h => h
theorem Le.bind {α β : Type} {a b : Option α} {f g : α → Option β} (h : Le a b) (k : ∀ x, Le (f x) (g x)) : Le (a.bind f) (b.bind g) := by
  intro r hr
  cases ha : a with
  | none => rw [ha] at hr; cases hr
  | some x => rw [ha] at hr; rw [h x ha]; exact k x r hr
theorem Le.ite {α : Type} {p : Prop} [Decidable p] {a b c d : Option α} (h : Le a b) (k : Le c d) : Le (if p then a else c) (if p then b else d) := by
  split
  · exact h
  · exact k
theorem Le.iteb {α : Type} {p : Bool} {a b c d : Option α} (h : Le a b) (k : Le c d) : Le (if p then a else c) (if p then b else d) := by
  split
  · exact h
  · exact k
def CLe (C D : Clo) : Prop := ∀ f as H, Le (C f as H) (D f as H)
def LLe (L M : Lp) : Prop := ∀ b c z, (∀ u, Le (b u) (c u)) → Le (L b z) (M c z)
theorem callH_mono {H : Hp} {l : List Nat} {a b : Option (AV × Hp)} (h : Le a b) : Le (callH H l a) (callH H l b) := by
  intro r hr
  cases a with
  | none => cases hr
  | some p => rw [h p rfl]; exact hr
theorem callSH_mono {l : List Nat} {a b : Option (AV × Hp)} (h : Le a b) : Le (callSH l a) (callSH l b) := by
  intro r hr
  cases a with
  | none => cases hr
  | some p => rw [h p rfl]; exact hr
theorem callG_mono {C D : Clo} (h : CLe C D) (f : Nat) (H : Hp) (q : Option (List AV × List Nat)) : Le (callG C f H q) (callG D f H q) := by
  cases q with
  | none => exact Le.refl _
  | some p => exact callH_mono (h _ _ _)
theorem callSG_mono {C D : Clo} (h : CLe C D) (f : Nat) (q : Option (List AV × List Nat)) : Le (callSG C f q) (callSG D f q) := by
  cases q with
  | none => exact Le.refl _
  | some p => exact callSH_mono (h _ _ _)
theorem callF_mono {E : Env} {C D : Clo} (h : CLe C D) (f : Nat) (as : List AV) (H : Hp) : Le (callF E C f as H) (callF E D f as H) := by
  unfold callF
  exact Le.iteb (h _ _ _) (callG_mono h _ _ _)
theorem callS_mono {E : Env} {C D : Clo} (h : CLe C D) (f : Nat) (as : List AV) (H : Hp) : Le (callS E C f as H) (callS E D f as H) := by
  unfold callS
  exact Le.iteb (Le.refl _) (callSG_mono h _ _)
theorem fullOp_mono {E : Env} {C D : Clo} (h : CLe C D) (z : St) (o : LOp) : Le (fullOp E C z o) (fullOp E D z o) := by
  cases o <;> first
    | exact Le.refl _
    | (simp only [fullOp]; exact callF_mono h _ _ _)
    | (simp only [fullOp, callVF]; split <;> first | exact callF_mono h _ _ _ | exact Le.refl _)
theorem softOp_mono {E : Env} {C D : Clo} (h : CLe C D) (z : St) (o : LOp) : Le (softOp E C z o) (softOp E D z o) := by
  cases o <;> first
    | exact Le.refl _
    | (simp only [softOp]; exact callS_mono h _ _ _)
    | (simp only [softOp, callVS]; split <;> first | exact callS_mono h _ _ _ | exact Le.refl _)
theorem putR_mono {s : List (Nat × AV)} {d : Option Nat} {a b : Option (AV × Hp)} (h : Le a b) : Le (putR s d a) (putR s d b) := by
  intro r hr
  cases a with
  | none => cases hr
  | some p => rw [h p rfl]; exact hr
theorem putA_mono {z : St} {d : Option Nat} {a b : Option AV} (h : Le a b) : Le (putA z d a) (putA z d b) := by
  intro r hr
  cases a with
  | none => cases hr
  | some p => rw [h p rfl]; exact hr
theorem oneFull_mono {E : Env} {C D : Clo} (h : CLe C D) (o : LOper) (z : St) : Le (oneFull E C o z) (oneFull E D o z) := by
  unfold oneFull
  cases wants z.s o.g with
  | none => exact Le.refl _
  | some b => exact Le.iteb (putR_mono (fullOp_mono h _ _)) (Le.refl _)
theorem oneSoft_mono {E : Env} {C D : Clo} (h : CLe C D) (o : LOper) (z : St) : Le (oneSoft E C o z) (oneSoft E D o z) := by
  unfold oneSoft
  cases wants z.s o.g with
  | none => exact Le.refl _
  | some b => exact Le.iteb (putA_mono (softOp_mono h _ _)) (Le.refl _)
theorem evOps_mono {E : Env} {C D : Clo} (h : CLe C D) : ∀ (os : List LOper) (n : Nat) (z : St), Le (evOps E C n os z) (evOps E D n os z) := by
  intro os
  induction os with
  | nil => intro n z; cases n <;> exact Le.refl _
  | cons o r ih =>
    intro n z
    cases n with
    | zero => exact Le.bind (oneFull_mono h o z) fun y => ih 0 y
    | succ n => exact Le.bind (oneSoft_mono h o z) fun y => ih n y
theorem ckOk_mono {E : Env} {C D : Clo} (h : CLe C D) (u : St) (k : Nat) : ∀ l : List Ck, ckOk E C u k l → ckOk E D u k l
  | [], _ => trivial
  | c :: r, hc => ⟨fun hn => oneSoft_mono h _ _ _ (hc.1 hn), ckOk_mono h u k r hc.2⟩
theorem evX_mono {E : Env} {C D : Clo} (h : CLe C D) : ∀ (os : List (LOper × Bool × Nat)) (acc : List Ck) (k : Nat) (z : St), Le (evX E C os acc k z) (evX E D os acc k z) := by
  intro os
  induction os with
  | nil => intro acc k z; exact Le.refl _
  | cons o r ih =>
    intro acc k z
    obtain ⟨o, b, e⟩ := o
    cases b with
    | true =>
      simp only [evX]
      refine Le.bind (oneFull_mono h o z) fun y => ?_
      intro q hq
      split at hq
      · rename_i hc
        rw [if_pos (ckOk_mono h y k acc hc)]
        exact ih _ _ y q hq
      · cases hq
    | false =>
      simp only [evX]
      exact Le.bind (oneSoft_mono h o z) fun y => ih _ _ y
theorem thn_mono {a b : Rr} {f g : St → Rr} (h : Le a b) (k : ∀ u, Le (f u) (g u)) : Le (a.thn f) (b.thn g) := by
  intro r hr
  cases a with
  | none => cases hr
  | some p =>
    rw [h p rfl]
    obtain ⟨e, u⟩ := p
    cases e with
    | nrm => exact k u r hr
    | ext i => exact hr
    | ret => exact hr
theorem map_mono {α β : Type} (F : Option α → Option β) (h0 : F none = none) {a b : Option α} (h : Le a b) : Le (F a) (F b) := by
  intro r hr
  cases a with
  | none => rw [h0] at hr; cases hr
  | some p => rw [h p rfl]; exact hr
theorem evC_mono {E : Env} {C D : Clo} {L M : Lp} (h : CLe C D) (hl : LLe L M) (h0 : Nat) : ∀ (c : LCode) (z : St), Le (evC E C L h0 c z) (evC E D M h0 c z) := by
  intro c
  induction c with
  | skip => intro z; exact Le.refl _
  | ops n os => intro z; exact map_mono nrmR rfl (evOps_mono h _ _ _)
  | opsX os => intro z; exact map_mono nrmR rfl (evX_mono h _ _ _ _)
  | seq a b iha ihb => intro z; exact thn_mono (iha z) ihb
  | cond c a b iha ihb =>
    intro z
    simp only [evC, condR]
    split
    · exact Le.iteb (iha z) (ihb z)
    · exact Le.refl _
  | block id c ih => intro z; exact map_mono (outB id) rfl (ih z)
  | exit id => intro z; exact Le.refl _
  | loop li lo c ih =>
    intro z
    refine map_mono (packX h0 lo) rfl ?_
    cases pack h0 li z with
    | none => exact Le.refl _
    | some y => exact hl _ _ _ fun u => map_mono (packN h0 li) rfl (ih u)
  | ret => intro z; exact Le.refl _
theorem evF_mono {E : Env} {C D : Clo} {L M : Lp} (h : CLe C D) (hl : LLe L M) (f : Nat) (as : List AV) (H : Hp) : Le (evF E C L f as H) (evF E D M f as H) := by
  unfold evF
  split
  · exact Le.refl _
  · refine Le.bind (Le.refl _) fun lf => ?_
    unfold runF
    exact Le.ite (Le.refl _) (map_mono (finR H.length lf.res) rfl (evC_mono h hl _ _ _))
theorem loopN_mono1 : ∀ n, LLe (loopN n) (loopN (n + 1)) := by
  intro n
  induction n with
  | zero => intro b c z h r hr; cases hr
  | succ n ih => intro b c z h; exact thn_mono (h z) fun u => ih b c u h
theorem LLe.self : ∀ n, LLe (loopN n) (loopN n) := by
  intro n
  induction n with
  | zero => intro b c z h r hr; cases hr
  | succ n ih => intro b c z h; exact thn_mono (h z) fun u => ih b c u h
theorem LLe.trans {L M N : Lp} (h : LLe L M) (hm : LLe M N) : LLe L N := fun b c z hb r hr => hm c c z (fun _ => Le.refl _) r (h b c z hb r hr)
theorem loopN_mono {n m : Nat} (h : n ≤ m) : LLe (loopN n) (loopN m) := by
  induction m with
  | zero => have : n = 0 := by omega
            subst this; exact LLe.self 0
  | succ m ih =>
    by_cases e : n = m + 1
    · subst e; exact LLe.self _
    · exact (ih (by omega)).trans (loopN_mono1 m)
theorem evK_mono1 (E : Env) : ∀ n, CLe (evK E n) (evK E (n + 1)) := by
  intro n
  induction n with
  | zero => intro f as H r hr; cases hr
  | succ n ih => intro f as H; exact evF_mono ih (loopN_mono1 n) f as H
theorem evK_mono (E : Env) {n m : Nat} (h : n ≤ m) : CLe (evK E n) (evK E m) := by
  induction m with
  | zero => have : n = 0 := by omega
            subst this; exact fun _ _ _ => Le.refl _
  | succ m ih =>
    by_cases e : n = m + 1
    · subst e; exact fun _ _ _ => Le.refl _
    · exact fun f as H r hr => evK_mono1 E m f as H r (ih (by omega) f as H r hr)
/-- The common answer of a row of answers that only grows. -/
noncomputable def lim {α : Type} (f : Nat → Option α) : Option α := open Classical in if h : ∃ n r, f n = some r then some h.choose_spec.choose else none
theorem lim_iff {α : Type} {f : Nat → Option α} (hm : ∀ n m, n ≤ m → Le (f n) (f m)) {r : α} : lim f = some r ↔ ∃ n, f n = some r := by
  unfold lim
  constructor
  · intro h
    split at h
    · rename_i hx
      cases h
      exact ⟨_, hx.choose_spec.choose_spec⟩
    · cases h
  · rintro ⟨n, hn⟩
    have hx : ∃ n r, f n = some r := ⟨n, r, hn⟩
    rw [dif_pos hx]
    have h2 := hx.choose_spec.choose_spec
    have h3 := hm _ (max hx.choose n) (Nat.le_max_left _ _) _ h2
    have h4 := hm _ (max hx.choose n) (Nat.le_max_right _ _) _ hn
    rw [h3] at h4
    exact h4
noncomputable def ev (E : Env) : Clo := fun f as H => lim fun n => evK E n f as H
noncomputable def loopW : Lp := fun b z => lim fun n => loopN n b z
theorem ev_iff {E : Env} {f : Nat} {as : List AV} {H : Hp} {r : AV × Hp} : ev E f as H = some r ↔ ∃ n, evK E n f as H = some r :=
  lim_iff fun _ _ h => evK_mono E h f as H
theorem loopW_iff {b : St → Rr} {z : St} {r : Ex × St} : loopW b z = some r ↔ ∃ n, loopN n b z = some r :=
  lim_iff fun _ _ h => loopN_mono h b b z fun _ => Le.refl _
/-- The loop's equation. -/
theorem loopW_eq (b : St → Rr) (z : St) : loopW b z = (b z).thn (loopW b) := by
  cases h : loopW b z with
  | some r =>
    obtain ⟨n, hn⟩ := loopW_iff.1 h
    cases n with
    | zero => cases hn
    | succ n =>
      symm
      refine thn_mono (Le.refl _) (fun u r hr => loopW_iff.2 ⟨n, hr⟩) r hn
  | none =>
    symm
    cases hb : (b z).thn (loopW b) with
    | none => rfl
    | some r =>
      exfalso
      have : ∃ n, loopN (n + 1) b z = some r := by
        cases hbz : b z with
        | none => rw [hbz] at hb; cases hb
        | some p =>
          rw [hbz] at hb
          obtain ⟨e, u⟩ := p
          cases e with
          | nrm =>
            obtain ⟨n, hn⟩ := loopW_iff.1 (show loopW b u = some r from hb)
            exact ⟨n, by simp [loopN, Rr.thn, hbz, hn]⟩
          | ext id => exact ⟨0, by simpa [loopN, Rr.thn, hbz] using hb⟩
          | ret => exact ⟨0, by simpa [loopN, Rr.thn, hbz] using hb⟩
      obtain ⟨n, hn⟩ := this
      rw [loopW_iff.2 ⟨_, hn⟩] at h
      cases h
theorem ev_ge (E : Env) (n : Nat) : CLe (evK E n) (ev E) := fun f as H r hr => ev_iff.2 ⟨n, hr⟩
theorem loopW_ge (n : Nat) : LLe (loopN n) loopW := fun b c z h r hr => loopW_iff.2 ⟨n, LLe.self n b c z h r hr⟩
/-- What the unbounded evaluator says, a bound says. -/
def Fin (A : Nat → Rr) (a : Rr) : Prop := ∀ r, a = some r → ∃ n, A n = some r
theorem bind_some_iff {α β : Type} {a : Option α} {f : α → Option β} {r : β} : a.bind f = some r ↔ ∃ x, a = some x ∧ f x = some r := by
  cases a <;> simp
theorem map_some {α β : Type} (F : Option α → Option β) (h0 : F none = none) {a : Option α} {r : β} (h : F a = some r) : ∃ x, a = some x ∧ F (some x) = some r := by
  cases a with
  | none => rw [h0] at h; cases h
  | some x => exact ⟨x, rfl, h⟩
theorem fin_map (E : Env) {β : Type} (F : Option (AV × Hp) → Option β) (h0 : F none = none) (f : Nat) (as : List AV) (H : Hp) (r : β) (h : F (ev E f as H) = some r) : ∃ n, F (evK E n f as H) = some r := by
  obtain ⟨q, hq, hr⟩ := map_some F h0 h
  obtain ⟨n, hn⟩ := ev_iff.1 hq
  exact ⟨n, by rw [hn]; exact hr⟩
theorem fin_callF (E : Env) (f : Nat) (as : List AV) (H : Hp) (r : AV × Hp) (h : callF E (ev E) f as H = some r) : ∃ n, callF E (evK E n) f as H = some r := by
  unfold callF at h ⊢
  by_cases ho : E.opn f = true
  · rw [if_pos ho] at h
    obtain ⟨n, hn⟩ := ev_iff.1 h
    exact ⟨n, by rw [if_pos ho]; exact hn⟩
  · rw [if_neg ho] at h
    cases hq : fzL (fz H fzd) as with
    | none => rw [hq] at h; cases h
    | some q =>
      rw [hq] at h
      obtain ⟨n, hn⟩ := fin_map E (callH H q.2) rfl f q.1 [] r h
      exact ⟨n, by rw [if_neg ho]; exact hn⟩
theorem fin_callS (E : Env) (f : Nat) (as : List AV) (H : Hp) (r : AV) (h : callS E (ev E) f as H = some r) : ∃ n, callS E (evK E n) f as H = some r := by
  unfold callS at h ⊢
  by_cases ho : E.opn f = true
  · rw [if_pos ho] at h; cases h
  · rw [if_neg ho] at h
    cases hq : fzL (fz H fzd) as with
    | none => rw [hq] at h; cases h
    | some q =>
      rw [hq] at h
      obtain ⟨n, hn⟩ := fin_map E (callSH q.2) rfl f q.1 [] r h
      exact ⟨n, by rw [if_neg ho]; exact hn⟩
theorem fin_full (E : Env) (z : St) (o : LOp) (r : AV × Hp) (h : fullOp E (ev E) z o = some r) : ∃ n, fullOp E (evK E n) z o = some r := by
  cases o <;> first
    | exact ⟨0, h⟩
    | (simp only [fullOp] at h ⊢; exact fin_callF E _ _ _ _ h)
    | (simp only [fullOp, callVF] at h ⊢; split at h <;> first | exact fin_callF E _ _ _ _ h | cases h)
theorem fin_soft (E : Env) (z : St) (o : LOp) (r : AV) (h : softOp E (ev E) z o = some r) : ∃ n, softOp E (evK E n) z o = some r := by
  cases o <;> first
    | exact ⟨0, h⟩
    | (simp only [softOp] at h ⊢; exact fin_callS E _ _ _ _ h)
    | (simp only [softOp, callVS] at h ⊢; split at h <;> first | exact fin_callS E _ _ _ _ h | cases h)
theorem fin_oneF (E : Env) (o : LOper) (z u : St) (h : oneFull E (ev E) o z = some u) : ∃ n, oneFull E (evK E n) o z = some u := by
  unfold oneFull at h ⊢
  cases hw : wants z.s o.g with
  | none => rw [hw] at h; cases h
  | some b =>
    rw [hw] at h
    cases b with
    | false => exact ⟨0, h⟩
    | true =>
      obtain ⟨q, hq, hr⟩ := map_some (putR z.s o.dst) rfl (show putR z.s o.dst (fullOp E (ev E) z o.op) = some u from h)
      obtain ⟨n, hn⟩ := fin_full E z o.op q hq
      exact ⟨n, show putR z.s o.dst (fullOp E (evK E n) z o.op) = some u by rw [hn]; exact hr⟩
theorem fin_oneS (E : Env) (o : LOper) (z u : St) (h : oneSoft E (ev E) o z = some u) : ∃ n, oneSoft E (evK E n) o z = some u := by
  unfold oneSoft at h ⊢
  cases hw : wants z.s o.g with
  | none => rw [hw] at h; cases h
  | some b =>
    rw [hw] at h
    cases b with
    | false => exact ⟨0, h⟩
    | true =>
      obtain ⟨q, hq, hr⟩ := map_some (putA z o.dst) rfl (show putA z o.dst (softOp E (ev E) z o.op) = some u from h)
      obtain ⟨n, hn⟩ := fin_soft E z o.op q hq
      exact ⟨n, show putA z o.dst (softOp E (evK E n) z o.op) = some u by rw [hn]; exact hr⟩
theorem fin_ops (E : Env) : ∀ (os : List LOper) (n : Nat) (z y : St), evOps E (ev E) n os z = some y → ∃ m, evOps E (evK E m) n os z = some y := by
  intro os
  induction os with
  | nil => intro n z y h; exact ⟨0, by cases n <;> exact h⟩
  | cons o r ih =>
    intro n z y h
    cases n with
    | zero =>
      obtain ⟨u, hu, hr⟩ := bind_some_iff.1 h
      obtain ⟨m, hm⟩ := ih 0 u y hr
      obtain ⟨k, hk⟩ := fin_oneF E o z u hu
      exact ⟨max k m, bind_some_iff.2 ⟨u, oneFull_mono (evK_mono E (Nat.le_max_left k m)) _ _ _ hk, evOps_mono (evK_mono E (Nat.le_max_right k m)) _ _ _ _ hm⟩⟩
    | succ n =>
      obtain ⟨u, hu, hr⟩ := bind_some_iff.1 h
      obtain ⟨m, hm⟩ := ih n u y hr
      obtain ⟨k, hk⟩ := fin_oneS E o z u hu
      exact ⟨max k m, bind_some_iff.2 ⟨u, oneSoft_mono (evK_mono E (Nat.le_max_left k m)) _ _ _ hk, evOps_mono (evK_mono E (Nat.le_max_right k m)) _ _ _ _ hm⟩⟩
theorem fin_ck (E : Env) (u : St) (k : Nat) : ∀ l : List Ck, ckOk E (ev E) u k l → ∃ m, ckOk E (evK E m) u k l
  | [], _ => ⟨0, trivial⟩
  | c :: r, hc => by
    obtain ⟨m, hm⟩ := fin_ck E u k r hc.2
    by_cases hn : k < c.n
    · obtain ⟨j, hj⟩ := fin_oneS E _ _ _ (hc.1 hn)
      exact ⟨max j m, fun _ => oneSoft_mono (evK_mono E (Nat.le_max_left j m)) _ _ _ hj, ckOk_mono (evK_mono E (Nat.le_max_right j m)) u k r hm⟩
    · exact ⟨m, fun h => absurd h hn, hm⟩
theorem fin_X (E : Env) : ∀ (os : List (LOper × Bool × Nat)) (acc : List Ck) (k : Nat) (z y : St), evX E (ev E) os acc k z = some y → ∃ m, evX E (evK E m) os acc k z = some y := by
  intro os
  induction os with
  | nil => intro acc k z y h; exact ⟨0, h⟩
  | cons o r ih =>
    intro acc k z y h
    obtain ⟨o, b, e⟩ := o
    cases b with
    | true =>
      simp only [evX] at h
      obtain ⟨u, hu, hr⟩ := bind_some_iff.1 h
      split at hr
      · rename_i hc
        obtain ⟨m, hm⟩ := ih _ _ u y hr
        obtain ⟨j, hj⟩ := fin_oneF E o z u hu
        obtain ⟨i, hi⟩ := fin_ck E u k acc hc
        have l1 : j ≤ max j (max m i) := Nat.le_max_left _ _
        have l2 : m ≤ max j (max m i) := Nat.le_trans (Nat.le_max_left _ _) (Nat.le_max_right _ _)
        have l3 : i ≤ max j (max m i) := Nat.le_trans (Nat.le_max_right _ _) (Nat.le_max_right _ _)
        refine ⟨max j (max m i), ?_⟩
        simp only [evX]
        refine bind_some_iff.2 ⟨u, oneFull_mono (evK_mono E l1) _ _ _ hj, ?_⟩
        rw [if_pos (ckOk_mono (evK_mono E l3) u k acc hi)]
        exact evX_mono (evK_mono E l2) _ _ _ _ _ hm
      · cases hr
    | false =>
      simp only [evX] at h
      obtain ⟨u, hu, hr⟩ := bind_some_iff.1 h
      obtain ⟨m, hm⟩ := ih _ _ u y hr
      obtain ⟨j, hj⟩ := fin_oneS E o z u hu
      refine ⟨max j m, ?_⟩
      simp only [evX]
      exact bind_some_iff.2 ⟨u, oneSoft_mono (evK_mono E (Nat.le_max_left j m)) _ _ _ hj, evX_mono (evK_mono E (Nat.le_max_right j m)) _ _ _ _ _ hm⟩
theorem thn_iff {a : Rr} {f : St → Rr} {r : Ex × St} : a.thn f = some r ↔ (∃ u, a = some (.nrm, u) ∧ f u = some r) ∨ (a = some r ∧ r.1 ≠ .nrm) := by
  cases a with
  | none => simp [Rr.thn]
  | some p =>
    obtain ⟨e, u⟩ := p
    cases e with
    | nrm =>
      simp only [Rr.thn, Option.some.injEq, Prod.mk.injEq, true_and]
      constructor
      · intro h; exact .inl ⟨u, rfl, h⟩
      · rintro (⟨_, rfl, h⟩ | ⟨rfl, h⟩)
        · exact h
        · exact absurd rfl h
    | ext id =>
      simp only [Rr.thn, Option.some.injEq, Prod.mk.injEq]
      constructor
      · rintro rfl; exact .inr ⟨rfl, by simp⟩
      · rintro (⟨_, ⟨h, _⟩, _⟩ | ⟨rfl, _⟩)
        · cases h
        · rfl
    | ret =>
      simp only [Rr.thn, Option.some.injEq, Prod.mk.injEq]
      constructor
      · rintro rfl; exact .inr ⟨rfl, by simp⟩
      · rintro (⟨_, ⟨h, _⟩, _⟩ | ⟨rfl, _⟩)
        · cases h
        · rfl
theorem fin_C (E : Env) (h0 : Nat) : ∀ (c : LCode) (z : St) (r : Ex × St), evC E (ev E) loopW h0 c z = some r → ∃ n, evC E (evK E n) (loopN n) h0 c z = some r := by
  intro c
  induction c with
  | skip => intro z r h; exact ⟨0, h⟩
  | ops n os =>
    intro z r h
    obtain ⟨y, hy, hr⟩ := map_some nrmR rfl (show nrmR (evOps E (ev E) n os z) = some r from h)
    obtain ⟨m, hm⟩ := fin_ops E os n z y hy
    exact ⟨m, show nrmR (evOps E (evK E m) n os z) = some r by rw [hm]; exact hr⟩
  | opsX os =>
    intro z r h
    obtain ⟨y, hy, hr⟩ := map_some nrmR rfl (show nrmR (evX E (ev E) os [] 0 z) = some r from h)
    obtain ⟨m, hm⟩ := fin_X E os [] 0 z y hy
    exact ⟨m, show nrmR (evX E (evK E m) os [] 0 z) = some r by rw [hm]; exact hr⟩
  | seq a b iha ihb =>
    intro z r h
    rcases thn_iff.1 h with ⟨u, hu, hr⟩ | ⟨hu, hr⟩
    · obtain ⟨n, hn⟩ := iha z _ hu
      obtain ⟨m, hm⟩ := ihb u _ hr
      refine ⟨max n m, thn_iff.2 (.inl ⟨u, evC_mono (evK_mono E (Nat.le_max_left n m)) (loopN_mono (Nat.le_max_left n m)) _ _ _ _ hn, evC_mono (evK_mono E (Nat.le_max_right n m)) (loopN_mono (Nat.le_max_right n m)) _ _ _ _ hm⟩)⟩
    · obtain ⟨n, hn⟩ := iha z _ hu
      exact ⟨n, thn_iff.2 (.inr ⟨hn, hr⟩)⟩
  | cond c a b iha ihb =>
    intro z r h
    simp only [evC, condR] at h ⊢
    split at h
    · rename_i p hp
      cases p with
      | true =>
        obtain ⟨n, hn⟩ := iha z r h
        exact ⟨n, hn⟩
      | false =>
        obtain ⟨n, hn⟩ := ihb z r h
        exact ⟨n, hn⟩
    · cases h
  | block id c ih =>
    intro z r h
    obtain ⟨p, hp, hr⟩ := map_some (outB id) rfl (show outB id (evC E (ev E) loopW h0 c z) = some r from h)
    obtain ⟨n, hn⟩ := ih z p hp
    exact ⟨n, show outB id (evC E (evK E n) (loopN n) h0 c z) = some r by rw [hn]; exact hr⟩
  | exit id => intro z r h; exact ⟨0, h⟩
  | loop li lo c ih =>
    intro z r h
    obtain ⟨p, hp', hq⟩ := map_some (packX h0 lo) rfl (show packX h0 lo (lpR loopW (bd E (ev E) loopW h0 li c) (pack h0 li z)) = some r from h)
    cases hy : pack h0 li z with
    | none => rw [hy] at hp'; cases hp'
    | some y =>
    rw [hy] at hp'
    obtain ⟨n, hn⟩ := loopW_iff.1 (show loopW (bd E (ev E) loopW h0 li c) y = some p from hp')
    have step : ∀ (y : St) (q : Ex × St), bd E (ev E) loopW h0 li c y = some q → ∃ k, bd E (evK E k) (loopN k) h0 li c y = some q := by
      intro y q hq
      obtain ⟨u, hu, hv⟩ := map_some (packN h0 li) rfl (show packN h0 li (evC E (ev E) loopW h0 c y) = some q from hq)
      obtain ⟨k, hk⟩ := ih y _ hu
      exact ⟨k, show packN h0 li (evC E (evK E k) (loopN k) h0 c y) = some q by rw [hk]; exact hv⟩
    have bmono : ∀ {a b : Nat}, a ≤ b → ∀ u, Le (bd E (evK E a) (loopN a) h0 li c u) (bd E (evK E b) (loopN b) h0 li c u) := fun hab u =>
      map_mono (packN h0 li) rfl (evC_mono (evK_mono E hab) (loopN_mono hab) _ _ _)
    have key : ∀ (n : Nat) (y : St) (p : Ex × St), loopN n (bd E (ev E) loopW h0 li c) y = some p → ∃ k, loopN n (bd E (evK E k) (loopN k) h0 li c) y = some p := by
      intro n
      induction n with
      | zero => intro y p h; cases h
      | succ n ihn =>
        intro y p h
        simp only [loopN] at h ⊢
        rcases thn_iff.1 h with ⟨u, hu, hv⟩ | ⟨hu, hv⟩
        · obtain ⟨k, hk⟩ := step y _ hu
          obtain ⟨m, hm⟩ := ihn u p hv
          refine ⟨max k m, thn_iff.2 (.inl ⟨u, bmono (Nat.le_max_left k m) _ _ hk, ?_⟩)⟩
          exact LLe.self n _ _ _ (bmono (Nat.le_max_right k m)) _ hm
        · obtain ⟨k, hk⟩ := step y _ hu
          exact ⟨k, thn_iff.2 (.inr ⟨hk, hv⟩)⟩
    obtain ⟨k, hk⟩ := key n y p hn
    have l2 := Nat.le_max_right k n
    refine ⟨max k n, ?_⟩
    show packX h0 lo (lpR (loopN (max k n)) (bd E (evK E (max k n)) (loopN (max k n)) h0 li c) (pack h0 li z)) = some r
    rw [hy]
    have : loopN (max k n) (bd E (evK E (max k n)) (loopN (max k n)) h0 li c) y = some p := loopN_mono l2 _ _ _ (bmono (Nat.le_max_left k n)) _ hk
    simp only [lpR, this]
    exact hq
  | ret => intro z r h; exact ⟨0, h⟩
/-- The evaluator's equation: no bound in sight. -/
theorem ev_eq (E : Env) (f : Nat) (as : List AV) (H : Hp) : ev E f as H = evF E (ev E) loopW f as H := by
  cases h : ev E f as H with
  | some r =>
    obtain ⟨n, hn⟩ := ev_iff.1 h
    cases n with
    | zero => cases hn
    | succ n => exact (evF_mono (ev_ge E n) (loopW_ge n) f as H r hn).symm
  | none =>
    symm
    cases hb : evF E (ev E) loopW f as H with
    | none => rfl
    | some r =>
      exfalso
      have : ∃ n, evF E (evK E n) (loopN n) f as H = some r := by
        unfold evF at hb ⊢
        cases hp : E.prim f with
        | some p => rw [hp] at hb; exact ⟨0, hb⟩
        | none =>
          rw [hp] at hb
          obtain ⟨lf, hl, hr⟩ := bind_some_iff.1 hb
          unfold runF at hr
          by_cases ha : as.length ≠ lf.np
          · rw [if_pos ha] at hr; cases hr
          · rw [if_neg ha] at hr
            obtain ⟨p, hc, hx⟩ := map_some (finR H.length lf.res) rfl hr
            obtain ⟨n, hn⟩ := fin_C E H.length lf.body _ p hc
            refine ⟨n, bind_some_iff.2 ⟨lf, hl, ?_⟩⟩
            unfold runF
            rw [if_neg ha, hn]
            exact hx
      obtain ⟨n, hn⟩ := this
      rw [ev_iff.2 ⟨n + 1, hn⟩] at h
      cases h
end Go.Proofs.YtbbnecjaojobfaaDoor.Ev
