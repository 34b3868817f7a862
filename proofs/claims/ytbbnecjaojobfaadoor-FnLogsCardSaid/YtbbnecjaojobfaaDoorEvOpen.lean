/- Arguments of a call, read as the evaluator's values, type by type. -/
import Derived.Test.YtbbnecjaojobfaaDoorEvMain
import Derived.WalkKit
import Derived.ProofKit
import Derived.OpenShut
import Derived.ChangeArms
import Derived.Lib.LaidTab
import Derived.DataElems
set_option linter.unusedVariables false
set_option linter.unusedSimpArgs false
set_option linter.constructorNameAsVariable false
namespace Go.Proofs.YtbbnecjaojobfaaDoor.Ev
open Go.RowKit Go.WideShapes Go.ChangeShapes
def RL (M : Nat → Prop) (w : World) (l : List AV) (cs : List Value) : Prop := l.length = cs.length ∧ ∀ (i : Nat) (x : AV) (u : Value), l[i]? = some x → cs[i]? = some u → VR M w [] x u ∧ u.oneCell' = true
theorem RL.one {M : Nat → Prop} {w : World} {x : AV} {u : Value} (h : VR M w [] x u) (ho : u.oneCell' = true) : RL M w [x] [u] := by
  refine ⟨rfl, fun i y v h1 h2 => ?_⟩
  cases i with
  | zero => simp at h1 h2; subst h1; subst h2; exact ⟨h, ho⟩
  | succ i => simp at h1
theorem RL.append {M : Nat → Prop} {w : World} {l l' : List AV} {cs cs' : List Value} (h : RL M w l cs) (k : RL M w l' cs') : RL M w (l ++ l') (cs ++ cs') := by
  refine ⟨by simp [h.1, k.1], fun i x u h1 h2 => ?_⟩
  by_cases hi : i < l.length
  · rw [List.getElem?_append_left hi] at h1
    rw [List.getElem?_append_left (by rw [← h.1]; exact hi)] at h2
    exact h.2 i x u h1 h2
  · rw [List.getElem?_append_right (by omega)] at h1
    rw [List.getElem?_append_right (by rw [← h.1]; omega), ← h.1] at h2
    exact k.2 _ x u h1 h2
/-- Cells that read as data of type 't' are a value 'av x', with 'B' on x. -/
def OpV {H : Type} (enc : TypeId × Value → H) (P : Program) (w : World) (base : Nat) (spare : Nat → Bool) (held : Bool) {α : Type} (t : TypeId) (av : α → AV) (B : α → Prop) : Prop :=
  ∀ (n : Nat) (cs : List Value) (y : DataW H × List MemPlace), DataW.trod enc P w base spare held n t cs = some y → ∃ x, B x ∧ RL (fun g => g < w.heap.size) w (av x).cells cs
section
variable {H : Type} {enc : TypeId × Value → H} {P : Program} {w : World} {base : Nat} {spare : Nat → Bool} {held : Bool}
theorem ov_string {t : TypeId} (ht : P.underlying t = some .string) : OpV enc P w base spare held t (fun s : ByteArray => st s) (fun s => s.size ≤ maxLen) := by
  intro n cs y h
  obtain ⟨s, rfl, _, hs⟩ := DataW.trod_string ht h
  exact ⟨s, hs, .one .v rfl⟩
theorem ov_int {t : TypeId} {k : IntKind} (ht : P.underlying t = some (.int k)) : OpV enc P w base spare held t (fun z : Int => AV.v (.int k z)) (fun z => (Lit.int k z).wf = true) := by
  intro n cs y h
  obtain ⟨z, rfl, _, hz⟩ := DataW.trod_int ht h
  exact ⟨z, hz, .one .v rfl⟩
theorem ov_bool {t : TypeId} (ht : P.underlying t = some .bool) : OpV enc P w base spare held t (fun b : Bool => bl b) (fun _ => True) := by
  intro n cs y h
  obtain ⟨b, rfl, _⟩ := DataW.trod_bool ht h
  exact ⟨b, trivial, .one .v rfl⟩
theorem cellsE_get {a : Addr} {n : Nat} {cs : List Value} (h : w.cells? base a n = some cs) : cs.length = n ∧ ∀ i u, cs[i]? = some u → w.cell? (a.add i) = some u := by
  unfold World.cells? at h
  split at h
  · have hl := Go.Lib.mapM_length h
    rw [List.length_range] at hl
    refine ⟨hl, fun i u hu => ?_⟩
    have hi : i < n := by
      have := (List.getElem?_eq_some_iff.1 hu).1
      omega
    obtain ⟨b, hb, hf⟩ := Go.Lib.mapM_at h i i (by rw [List.getElem?_range hi])
    rw [hu] at hb
    cases hb
    exact hf
  · cases h
/-- A list of witnesses out of each place's own. -/
theorem collectE {α β : Type} (Q : α → β → Prop) : ∀ (l : List α), (∀ a ∈ l, ∃ b, Q a b) → ∃ r : List β, r.length = l.length ∧ ∀ (i : Nat) (a : α) (b : β), l[i]? = some a → r[i]? = some b → Q a b
  | [], _ => ⟨[], rfl, fun i a b h => by simp at h⟩
  | a :: l, h => by
    obtain ⟨b, hb⟩ := h a (List.mem_cons_self ..)
    obtain ⟨r, hr, hq⟩ := collectE Q l fun x hx => h x (List.mem_cons_of_mem _ hx)
    refine ⟨b :: r, by simp [hr], fun i x y hx hy => ?_⟩
    cases i with
    | zero => simp at hx hy; subst hx; subst hy; exact hb
    | succ i => exact hq i x y (by simpa using hx) (by simpa using hy)
theorem cell_spot {a : Addr} {u : Value} (h : w.cell? a = some u) : a.spot = none ∧ a.block < w.heap.size := by
  unfold World.cell? at h
  split at h
  · rename_i c t f hc
    refine ⟨?_, (Array.getElem?_eq_some_iff.1 hc).1⟩
    split at h
    · cases h
    · rename_i hs
      cases hq : a.spot with
      | none => rfl
      | some s => rw [hq] at hs; simp at hs
  · cases h
theorem add_eq {a : Addr} (ha : a.spot = none) (n : Nat) : a.add n = ⟨a.block, a.off + n, none⟩ := by
  unfold Addr.add
  split
  · rename_i h; subst h; cases a; simp at ha; subst ha; rfl
  · rfl
theorem ov_slice {α : Type} {t e : TypeId} {av : α → AV} {B : α → Prop} (k : Nat) (hk : 0 < k) (ht : P.underlying t = some (.slice e)) (hsz : P.cellsOf e = k) (he : OpV enc P w base spare held e av B) :
    OpV enc P w base spare held t (fun xs : List α => AV.lst k (xs.map av)) (fun xs => xs.length ≤ maxLen ∧ ∀ x ∈ xs, B x) := by
  intro n cs y h
  rcases DataW.trod_slice ht h with ⟨rfl, _⟩ | ⟨a, len, cap, elems, rest, n, _, rfl, _, hb, hl, hm, hlen, hel, _, _⟩
  · exact ⟨[], by simp, .one (.lst (fun _ _ => undef) (Nat.zero_le _) (fun h => absurd rfl h) (fun i e h => by simp at h) (fun a h => by cases h) (fun i e j c h => by simp at h)) rfl⟩
  · have each : ∀ i ∈ List.range len, ∃ x : α, ∃ c, w.cells? base (a.add (i * P.cellsOf e)) (P.cellsOf e) = some c ∧ RL (fun g => g < w.heap.size) w (av x).cells c ∧ B x := by
      intro i hi
      have hi := List.mem_range.1 hi
      have h1 := hel i hi
      rw [List.getElem?_eq_getElem (by omega)] at h1
      obtain ⟨c, hc, h2⟩ := Option.bind_eq_some_iff.1 h1
      obtain ⟨x, hB, hK⟩ := he _ _ _ h2
      exact ⟨x, c, hc, hK, hB⟩
    obtain ⟨xs, hxl, hx⟩ := collectE (fun i x => ∃ c, w.cells? base (a.add (i * P.cellsOf e)) (P.cellsOf e) = some c ∧ RL (fun g => g < w.heap.size) w (av x).cells c ∧ B x) (List.range len) each
    rw [List.length_range] at hxl
    have at_ : ∀ (i : Nat) (x : α), xs[i]? = some x → ∃ c, w.cells? base (a.add (i * P.cellsOf e)) (P.cellsOf e) = some c ∧ RL (fun g => g < w.heap.size) w (av x).cells c ∧ B x := by
      intro i x hi
      have : i < len := by
        have := (List.getElem?_eq_some_iff.1 hi).1
        omega
      exact hx i i x (by rw [List.getElem?_range this]) hi
    refine ⟨xs, ⟨by unfold maxLen at hm ⊢; omega, fun x hx' => ?_⟩, ?_⟩
    · obtain ⟨i, hi, rfl⟩ := List.mem_iff_getElem.1 hx'
      obtain ⟨_, _, _, hB⟩ := at_ i _ (List.getElem?_eq_getElem hi)
      exact hB
    have spot : ∀ (i : Nat) (x : α), xs[i]? = some x → a.spot = none ∧ a.block < w.heap.size := by
      intro i x hi
      have hi' := (List.getElem?_eq_some_iff.1 hi).1
      have h0 : xs[0]? = some (xs[0]'(by omega)) := List.getElem?_eq_getElem _
      obtain ⟨c, hc, _, _⟩ := at_ 0 _ h0
      obtain ⟨h1, h2⟩ := cellsE_get hc
      have := h2 0 _ (List.getElem?_eq_getElem (by omega))
      simp only [Nat.zero_mul, Addr.add, if_true] at this
      exact cell_spot this
    have el : ∀ (i : Nat) (e : AV), (xs.map av)[i]? = some e → ∃ x, xs[i]? = some x ∧ av x = e := by
      intro i e h
      rw [List.getElem?_map] at h
      cases hx : xs[i]? with
      | none => rw [hx] at h; cases h
      | some x => rw [hx] at h; exact ⟨x, rfl, by simpa using h⟩
    have cell : ∀ (i : Nat) (x : α) (j : Nat) (c : AV), xs[i]? = some x → (av x).cells[j]? = some c → ∃ u, w.cell? ⟨a.block, a.off + (i * k + j), none⟩ = some u ∧ VR (fun g => g < w.heap.size) w [] c u ∧ u.oneCell' = true := by
      intro i x j c hi hc
      obtain ⟨cs, h1, h2, _⟩ := at_ i x hi
      obtain ⟨h3, h4⟩ := cellsE_get h1
      have hj : j < cs.length := by rw [← h2.1]; exact (List.getElem?_eq_some_iff.1 hc).1
      have hu : cs[j]? = some cs[j] := List.getElem?_eq_getElem hj
      obtain ⟨h5, h6⟩ := h2.2 j c _ hc hu
      refine ⟨_, ?_, h5, h6⟩
      have h7 := h4 j _ hu
      rw [add_eq (spot i x hi).1, add_eq rfl, hsz] at h7
      rw [show a.off + (i * k + j) = a.off + i * k + j by omega]
      exact h7
    refine .one ?_ rfl
    have hlen2 : len = (xs.map av).length := by simp [hxl]
    show VR (fun g => g < w.heap.size) w [] (AV.lst k (xs.map av)) (.slice (some a) len cap)
    rw [hlen2]
    refine .lst (fun i j => (w.cell? ⟨a.block, a.off + (i * k + j), none⟩).getD undef) (by omega) (fun hne => ?_) (fun i e he' => ?_) (fun a' ha' i e j c he' hc => ?_) (fun i e j c he' hc => ?_)
    · cases hxs : xs with
      | nil => rw [hxs] at hne; exact absurd rfl hne
      | cons x r =>
        have := spot 0 x (by rw [hxs]; rfl)
        exact ⟨a, rfl, this.1, this.2⟩
    · obtain ⟨x, hx, rfl⟩ := el i e he'
      obtain ⟨cs, h1, h2, _⟩ := at_ i x hx
      rw [h2.1, (cellsE_get h1).1, hsz]
    · cases ha'
      obtain ⟨x, hx, rfl⟩ := el i e he'
      obtain ⟨u, h1, _, h3⟩ := cell i x j c hx hc
      simp only [h1, Option.getD_some]
      exact ⟨trivial, h3⟩
    · obtain ⟨x, hx, rfl⟩ := el i e he'
      obtain ⟨u, h1, h2, _⟩ := cell i x j c hx hc
      simp only [h1, Option.getD_some]
      exact h2
/-- A row of fields, one behind the other. -/
def SegV {H : Type} (enc : TypeId × Value → H) (P : Program) (w : World) (base : Nat) (spare : Nat → Bool) (held : Bool) {α : Type} (ts : List TypeId) (av : α → List AV) (B : α → Prop) : Prop :=
  ∀ (cs : List Value), cs.length = (ts.map P.cellsOf).sum → (∀ (i : Nat) (t : TypeId), ts[i]? = some t → ∃ n z, DataW.trod enc P w base spare held n t ((cs.drop ((ts.take i).map P.cellsOf).sum).take (P.cellsOf t)) = some z) → ∃ x, B x ∧ RL (fun g => g < w.heap.size) w (av x) cs
theorem seg_one {α : Type} {t : TypeId} {av : α → AV} {B : α → Prop} (h : OpV enc P w base spare held t av B) : SegV enc P w base spare held [t] (fun x => (av x).cells) B := by
  intro cs hl hs
  obtain ⟨n, z, hz⟩ := hs 0 t rfl
  simp at hl
  simp only [List.take_zero, List.map_nil, List.sum_nil, List.drop_zero] at hz
  rw [List.take_of_length_le (by omega)] at hz
  exact h n cs z hz
theorem seg_cons {α β : Type} {t : TypeId} {ts : List TypeId} {av : α → AV} {avs : β → List AV} {B : α → Prop} {C : β → Prop} (h : OpV enc P w base spare held t av B) (hs : SegV enc P w base spare held ts avs C) :
    SegV enc P w base spare held (t :: ts) (fun p : α × β => (av p.1).cells ++ avs p.2) (fun p => B p.1 ∧ C p.2) := by
  intro cs hl hsg
  simp only [List.map_cons, List.sum_cons] at hl
  obtain ⟨n, z, hz⟩ := hsg 0 t rfl
  simp only [List.take_zero, List.map_nil, List.sum_nil, List.drop_zero] at hz
  obtain ⟨x, hx, hr⟩ := h n _ z hz
  obtain ⟨y, hy, hr2⟩ := hs (cs.drop (P.cellsOf t)) (by simp; omega) (fun i u hu => by
    obtain ⟨m, q, hq⟩ := hsg (i + 1) u hu
    simp only [List.take_succ_cons, List.map_cons, List.sum_cons] at hq
    refine ⟨m, q, ?_⟩
    rw [List.drop_drop]
    exact hq)
  refine ⟨(x, y), ⟨hx, hy⟩, ?_⟩
  have := hr.append hr2
  rwa [List.take_append_drop] at this
def offs (P : Program) : Nat → List TypeId → List (TypeId × Nat)
  | _, [] => []
  | o, t :: ts => (t, o) :: offs P (o + P.cellsOf t) ts
theorem offs_at : ∀ (ts : List TypeId) (o i : Nat) (t : TypeId), ts[i]? = some t → (offs P o ts)[i]? = some (t, o + ((ts.take i).map P.cellsOf).sum)
  | [], o, i, t, h => by simp at h
  | u :: ts, o, i, t, h => by
    cases i with
    | zero => simp at h; subst h; simp [offs]
    | succ i =>
      have := offs_at ts (o + P.cellsOf u) i t (by simpa using h)
      simp only [offs, List.getElem?_cons_succ, this, List.take_succ_cons, List.map_cons, List.sum_cons]
      rw [Nat.add_assoc]
theorem ov_struct {α : Type} {t : TypeId} {fs : Array Field} (ts : List TypeId) {av : α → List AV} {B : α → Prop} (ht : P.underlying t = some (.struct fs)) (hts : fs.toList.map (fun f => (f.type, f.offset)) = offs P 0 ts) (hc : P.cellsOf t = (ts.map P.cellsOf).sum) (hs : SegV enc P w base spare held ts av B) :
    OpV enc P w base spare held t (fun x => AV.agg (av x)) B := by
  intro n cs y h
  obtain ⟨xs, m, _, _, hl, hn, hf⟩ := DataW.trod_struct ht h
  refine hs cs (hl.trans hc) fun i u hu => ?_
  have h1 := offs_at (P := P) ts 0 i u hu
  rw [← hts, List.getElem?_map] at h1
  cases hfi : fs.toList[i]? with
  | none => rw [hfi] at h1; cases h1
  | some f =>
    rw [hfi] at h1
    simp only [Option.map_some, Option.some.injEq, Prod.mk.injEq, Nat.zero_add] at h1
    obtain ⟨rfl, h2⟩ := h1
    have hi' : i < fs.size := by
      have := (List.getElem?_eq_some_iff.1 hfi).1
      simpa using this
    have h3 := hf i f (by simpa using hfi)
    rw [List.getElem?_eq_getElem (by omega)] at h3
    rw [h2] at h3
    exact ⟨m, _, h3⟩
-- ---------------------------------------------------------------- parameters
theorem vr_agg_of {M : Nat → Prop} {l : List AV} {vs : Array Value} (h : RL M w l vs.toList) : VR M w [] (.agg l) (.agg vs) := by
  refine .agg (by simpa using h.1) (fun u hu => ?_) (fun i c u h1 h2 => (h.2 i c u h1 h2).1)
  obtain ⟨i, hi, rfl⟩ := List.mem_iff_getElem.1 hu
  have hil : i < l.length := by rw [h.1]; exact hi
  exact (h.2 i _ _ (List.getElem?_eq_getElem hil) (List.getElem?_eq_getElem hi)).2
theorem vr_one_of {M : Nat → Prop} {x : AV} {u : Value} (h : RL M w [x] [u]) : VR M w [] x u := (h.2 0 x u rfl rfl).1
theorem par_struct {α : Type} {t : TypeId} {fs : Array Field} {v : Value} {d : DataW H} {ps : List MemPlace} {r : Reach} {b0 : Nat} {av : α → List AV} {B : α → Prop} (ht : P.underlying t = some (.struct fs)) (hv : Value.okWide P w r b0 t v) (hd : DataW.Trod enc P w base spare held t v d ps) (h : OpV enc P w base spare held t (fun x => AV.agg (av x)) B) : ∃ x, B x ∧ VR (fun g => g < w.heap.size) w [] (AV.agg (av x)) v := by
  obtain ⟨cs, rfl, _⟩ := okWide_struct ht hv
  obtain ⟨n, hn⟩ := hd
  obtain ⟨x, hB, hR⟩ := h n cs.toList _ hn
  exact ⟨x, hB, vr_agg_of hR⟩
theorem par_slice {α : Type} {t e : TypeId} {v : Value} {d : DataW H} {ps : List MemPlace} {r : Reach} {b0 : Nat} {k : Nat} {av : α → List AV} {B : α → Prop} (ht : P.underlying t = some (.slice e)) (hv : Value.okWide P w r b0 t v) (hd : DataW.Trod enc P w base spare held t v d ps) (h : OpV enc P w base spare held t (fun x => AV.lst k (av x)) B) : ∃ x, B x ∧ VR (fun g => g < w.heap.size) w [] (AV.lst k (av x)) v := by
  obtain ⟨A, l, c, rfl⟩ := okWide_slice ht hv
  obtain ⟨n, hn⟩ := hd
  obtain ⟨x, hB, hR⟩ := h n _ _ hn
  exact ⟨x, hB, vr_one_of hR⟩
theorem par_int {t : TypeId} {k : IntKind} {v : Value} {d : DataW H} {ps : List MemPlace} {r : Reach} {b0 : Nat} {M : Nat → Prop} (ht : P.underlying t = some (.int k)) (hv : Value.okWide P w r b0 t v) (hd : DataW.Trod enc P w base spare held t v d ps) : ∃ x : Int, (Lit.int k x).wf = true ∧ VR M w [] (AV.v (.int k x)) v := by
  obtain ⟨a, rfl, _, _, hB⟩ := open_int ht hv hd
  exact ⟨a, hB, .v⟩
theorem par_string {t : TypeId} {v : Value} {d : DataW H} {ps : List MemPlace} {r : Reach} {b0 : Nat} {M : Nat → Prop} (ht : P.underlying t = some .string) (hv : Value.okWide P w r b0 t v) (hd : DataW.Trod enc P w base spare held t v d ps) : ∃ x : ByteArray, x.size ≤ maxLen ∧ VR M w [] (st x) v := by
  obtain ⟨a, rfl, _, _, hB⟩ := Go.ChangeMaps.open_string ht hv hd
  exact ⟨a, hB, .v⟩
theorem par_bool {t : TypeId} {v : Value} {d : DataW H} {ps : List MemPlace} {r : Reach} {b0 : Nat} {M : Nat → Prop} (ht : P.underlying t = some .bool) (hv : Value.okWide P w r b0 t v) (hd : DataW.Trod enc P w base spare held t v d ps) : ∃ x : Bool, True ∧ VR M w [] (bl x) v := by
  obtain ⟨a, rfl, _, _⟩ := open_bool ht hv hd
  exact ⟨a, trivial, .v⟩
theorem args_nil {M : Nat → Prop} {ρ : Rho} : Args M ρ w [] #[] := ⟨rfl, fun i c u h => by simp at h⟩
theorem args_cons {M : Nat → Prop} {ρ : Rho} {a : AV} {v : Value} {as : List AV} {vs : List Value} (h : VR M w ρ a v) (k : Args M ρ w as vs.toArray) : Args M ρ w (a :: as) (v :: vs).toArray := by
  refine ⟨by simpa using k.1, fun i c u h1 h2 => ?_⟩
  cases i with
  | zero => simp at h1 h2; subst h1; subst h2; exact h
  | succ i => exact k.2 i c u (by simpa using h1) (by simpa using h2)
/-- A call that only makes new memory, out of sight. -/
theorem below_ans {base : Nat} {M : Nat → Prop} {ρ : Rho} {Hs : Hp} (hH : HR base M ρ Hs w) {w' : World} (hb : Below w.heap.size w w') {res : AV} {v : Value} (hv : VR M w ρ res v) : Ans base M ρ Hs w res Hs (.returned v) w' := by
  have hs : Soft M w M w' := ⟨hb.os, hb.tape, hb.output, hb.size, hb.block, fun _ h => h, fun _ h => .inl h⟩
  have hr := hs.hr hH (fun g hg => Nat.lt_of_lt_of_le (hH.mlt g hg) hb.size)
  exact ⟨v, M, ρ, rfl, hr, hs.ext hH, hv.ext hH (hs.ext hH)⟩
/-- Two arguments, both known. -/
theorem args_two {M : Nat → Prop} {ρ : Rho} {a b : Value} {vs : Array Value} (h : Args M ρ w [.v a, .v b] vs) : vs = #[a, b] := by
  obtain ⟨h1, h2⟩ := h
  obtain ⟨l⟩ := vs
  match l, h1, h2 with
  | [x, y], _, h2 =>
    have e1 : x = a := vr_v (h2 0 _ _ rfl rfl)
    have e2 : y = b := vr_v (h2 1 _ _ rfl rfl)
    rw [e1, e2]
theorem low_true : Low 0 (fun _ => True) := ⟨fun _ _ _ _ _ _ => trivial⟩
/-- A closed answer: the world's old blocks are as they were. -/
theorem law_calls {E : Env} {n0 : Nat} {G : World → Prop} (hC : CS P n0 G (ev E)) {f : Nat} {as : List AV} {b : Value} (he : ev E f as [] = some (.v b, [])) {W : World} {vs : Array Value} (hG : G W) (hn : n0 ≤ W.heap.size) (hA : Args (fun g => g < W.heap.size) [] W as vs) :
    Calls P f vs W fun e W' => e = .returned b ∧ Below W.heap.size W W' := by
  obtain ⟨_, h⟩ := hC f as [] _ _ he
  refine (h W.heap.size (fun g => g < W.heap.size) [] W vs hG hn (Nat.le_refl _) (HR.empty _ fun _ h => h) hA).mono ?_
  rintro e W' ⟨v, M', ρ', rfl, _, ex, hv⟩
  obtain rfl := vr_v hv
  exact ⟨rfl, ex.os, ex.tape, ex.output, ex.size, fun g hg => ex.keep g hg Wr.nil⟩
end
end Go.Proofs.YtbbnecjaojobfaaDoor.Ev
