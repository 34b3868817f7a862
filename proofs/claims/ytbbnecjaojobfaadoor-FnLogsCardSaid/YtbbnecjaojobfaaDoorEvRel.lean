/- What a state of the evaluator says of a world. -/
import Derived.Test.YtbbnecjaojobfaaDoorEvComp
import Derived.Test.YtbbnecjaojobfaaDoorEvLim
import Derived.Laws.IdiomCopy
import Derived.Lib.ConvBytes
import Derived.Laws.BytesString
import Derived.Laws.StructEq
import Derived.ChangeKeysEq
set_option linter.unusedVariables false
set_option linter.unusedSimpArgs false
set_option linter.constructorNameAsVariable false
namespace Go.Proofs.YtbbnecjaojobfaaDoor.Ev
structure Loc where
  g : Nat
  cap : Nat
  k : Nat
abbrev Rho := List (Option Loc)
inductive VR (M : Nat → Prop) (w : World) : Rho → AV → Value → Prop
  | x {ρ : Rho} {v : Value} : VR M w ρ .x v
  | v {ρ : Rho} {c : Value} : VR M w ρ (.v c) c
  | lst {ρ : Rho} {k : Nat} {xs : List AV} {A : Option Addr} {cap : Nat} (U : Nat → Nat → Value) (hc : xs.length ≤ cap)
      (ha : xs ≠ [] → ∃ a, A = some a ∧ a.spot = none ∧ M a.block) (hk : ∀ (i : Nat) (e : AV), xs[i]? = some e → e.cells.length = k)
      (hm : ∀ a, A = some a → ∀ (i : Nat) (e : AV) (j : Nat) (c : AV), xs[i]? = some e → e.cells[j]? = some c → w.cell? ⟨a.block, a.off + (i * k + j), none⟩ = some (U i j) ∧ (U i j).oneCell' = true)
      (hr : ∀ (i : Nat) (e : AV) (j : Nat) (c : AV), xs[i]? = some e → e.cells[j]? = some c → VR M w [] c (U i j)) : VR M w ρ (.lst k xs) (.slice A xs.length cap)
  | sl {ρ : Rho} {id off len c : Nat} {A : Option Addr} (L : Loc) (hL : ρ[id]? = some (some L)) (h1 : off + c = L.cap) (h2 : len ≤ c)
      (hA : (off ≠ 0 ∧ c = 0) ∨ A = some ⟨L.g, off * L.k, none⟩) : VR M w ρ (.sl id off len) (.slice A len c)
  | dsl {ρ : Rho} {id off len : Nat} {v : Value} (h : ρ[id]? = some none) (ho : v.oneCell' = true) : VR M w ρ (.sl id off len) v
  | ptr {ρ : Rho} {id i j : Nat} (L : Loc) (hL : ρ[id]? = some (some L)) : VR M w ρ (.ptr id i j) (.pointer (some ⟨L.g, i * L.k + j, none⟩))
  | dptr {ρ : Rho} {id i j : Nat} {v : Value} (h : ρ[id]? = some none) (ho : v.oneCell' = true) : VR M w ρ (.ptr id i j) v
  | el {ρ : Rho} {e : AV} {j : Nat} {a : Addr} (U : Nat → Value) (hs : a.spot = none) (hM : M a.block)
      (hm : ∀ (i : Nat) (c : AV), j ≤ i → e.cells[i]? = some c → w.cell? ⟨a.block, a.off + (i - j), none⟩ = some (U i) ∧ (U i).oneCell' = true)
      (hr : ∀ (i : Nat) (c : AV), e.cells[i]? = some c → VR M w [] c (U i)) : VR M w ρ (.el e j) (.pointer (some a))
  | agg {ρ : Rho} {cs : List AV} {vs : Array Value} (hl : cs.length = vs.size) (ho : ∀ u ∈ vs.toList, u.oneCell' = true)
      (hr : ∀ (i : Nat) (c : AV) (u : Value), cs[i]? = some c → vs.toList[i]? = some u → VR M w ρ c u) : VR M w ρ (.agg cs) (.agg vs)
  | tup {ρ : Rho} {cs : List AV} {vs : Array Value} (hl : cs.length = vs.size)
      (hr : ∀ (i : Nat) (c : AV) (u : Value), cs[i]? = some c → vs.toList[i]? = some u → VR M w ρ c u) : VR M w ρ (.tup cs) (.tuple vs)
  | fn {ρ : Rho} {f : Fn} {a b : List AV} {va vb : Array Value} (hla : a.length = va.size) (hlb : b.length = vb.size)
      (ha : ∀ (i : Nat) (c : AV) (u : Value), a[i]? = some c → va.toList[i]? = some u → VR M w ρ c u)
      (hb : ∀ (i : Nat) (c : AV) (u : Value), b[i]? = some c → vb.toList[i]? = some u → VR M w ρ c u) : VR M w ρ (.fn f a b) (.func f va vb)
/-- Names keep what they meant, or mean nothing any more. -/
def Rle (ρ ρ' : Rho) : Prop := ∀ (id : Nat) (o : Option Loc), ρ[id]? = some o → ρ'[id]? = some o ∨ ρ'[id]? = some none
theorem Rle.refl (ρ : Rho) : Rle ρ ρ := fun _ _ h => .inl h
theorem Rle.nil (ρ : Rho) : Rle [] ρ := fun _ _ h => by simp at h
theorem Rle.trans {a b c : Rho} (h : Rle a b) (k : Rle b c) : Rle a c := by
  intro id o ho
  rcases h id o ho with h1 | h1
  · exact k id o h1
  · rcases k id none h1 with h2 | h2 <;> exact .inr h2
theorem Rle.append (ρ r : Rho) : Rle ρ (ρ ++ r) := by
  intro id o h
  have : id < ρ.length := (List.getElem?_eq_some_iff.1 h).1
  exact .inl (by rw [List.getElem?_append_left this]; exact h)
theorem VR.mono {M M' : Nat → Prop} {w w' : World} (hM : ∀ g, M g → M' g) (hw : ∀ g, M g → w'.heap[g]? = w.heap[g]?) {ρ : Rho} {a : AV} {u : Value} (h : VR M w ρ a u) :
    ∀ {ρ' : Rho}, Rle ρ ρ' → VR M' w' ρ' a u := by
  have cell : ∀ {a : Addr}, M a.block → ∀ {o : Nat}, w'.cell? ⟨a.block, o, none⟩ = w.cell? ⟨a.block, o, none⟩ := fun h _ => World.cell?_of_block (hw _ h)
  induction h with
  | x => intro ρ' hr; exact .x
  | v => intro ρ' hr; exact .v
  | @lst ρ k xs A cap U hc ha hk hm hr ih =>
    intro ρ' hρ
    refine .lst U hc (fun hx => let ⟨a, h1, h2, h3⟩ := ha hx; ⟨a, h1, h2, hM _ h3⟩) hk (fun a hA i e j c he hcc => ?_) (fun i e j c he hcc => ih i e j c he hcc (Rle.refl _))
    have hx : xs ≠ [] := fun hn => by simp [hn] at he
    obtain ⟨a', h1, h2, h3⟩ := ha hx
    rw [hA] at h1
    cases h1
    rw [cell h3]
    exact hm a hA i e j c he hcc
  | sl L hL h1 h2 hA =>
    intro ρ' hρ
    rcases hρ _ _ hL with h | h
    · exact .sl L h h1 h2 hA
    · exact .dsl h rfl
  | dsl h ho =>
    intro ρ' hρ
    rcases hρ _ _ h with h | h <;> exact .dsl h ho
  | ptr L hL =>
    intro ρ' hρ
    rcases hρ _ _ hL with h | h
    · exact .ptr L h
    · exact .dptr h rfl
  | dptr h ho =>
    intro ρ' hρ
    rcases hρ _ _ h with h | h <;> exact .dptr h ho
  | el U hs hM' hm hr ih =>
    intro ρ' hρ
    refine .el U hs (hM _ hM') (fun i c hj he => ?_) (fun i c he => ih i c he (Rle.refl _))
    rw [cell hM']
    exact hm i c hj he
  | agg hl ho hr ih => intro ρ' hρ; exact .agg hl ho fun i c u h1 h2 => ih i c u h1 h2 hρ
  | tup hl hr ih => intro ρ' hρ; exact .tup hl fun i c u h1 h2 => ih i c u h1 h2 hρ
  | fn hla hlb ha hb iha ihb => intro ρ' hρ; exact .fn hla hlb (fun i c u h1 h2 => iha i c u h1 h2 hρ) (fun i c u h1 h2 => ihb i c u h1 h2 hρ)
theorem VR.up {M : Nat → Prop} {w : World} {a : AV} {u : Value} (h : VR M w [] a u) (ρ : Rho) : VR M w ρ a u := h.mono (fun _ h => h) (fun _ _ => rfl) (Rle.nil ρ)
/-- A value of one cell. -/
theorem VR.one {M : Nat → Prop} {w : World} {ρ : Rho} {a : AV} {u : Value} (h : VR M w ρ a u) (ho : a.one = true) : u.oneCell' = true := by
  cases h with
  | v => cases u <;> first | rfl | (simp [AV.one] at ho; done)
  | x => simp [AV.one] at ho
  | dsl _ h => exact h
  | dptr _ h => exact h
  | agg => simp [AV.one] at ho
  | tup => simp [AV.one] at ho
  | _ => rfl
/-- What a block of the state's own is in memory. -/
structure BR (base : Nat) (M : Nat → Prop) (ρ : Rho) (w : World) (b : Blk) (L : Loc) : Prop where
  lo : base ≤ L.g
  kk : L.k = b.k
  kp : 0 < b.k
  ro : b.ro = true ↔ M L.g
  cur : ∃ cur fr, w.heap[L.g]? = some (.cells cur b.ty fr) ∧ cur.size = L.cap * b.k ∧ (fr = (0, 0) ∨ (b.kd = 2 ∧ cur.size ≤ fr.1)) ∧
    ∀ (i : Nat) (e : AV) (j : Nat) (c : AV), b.es[i]? = some e → e.cells[j]? = some c → ∃ u, cur[i * b.k + j]? = some u ∧ u.oneCell' = true ∧ VR M w (if b.kd = 0 then ρ else []) c u
  capm : L.cap ≤ maxLen
  len : b.es.length ≤ L.cap
  ek : ∀ (i : Nat) (e : AV), b.es[i]? = some e → e.cells.length = b.k
structure HR (base : Nat) (M : Nat → Prop) (ρ : Rho) (H : Hp) (w : World) : Prop where
  len : H.length = ρ.length
  dead : ∀ (id : Nat), H[id]? = some none ↔ ρ[id]? = some none
  blk : ∀ (id : Nat) (b : Blk) (L : Loc), H[id]? = some (some b) → ρ[id]? = some (some L) → BR base M ρ w b L
  inj : ∀ (id id' : Nat) (L L' : Loc), ρ[id]? = some (some L) → ρ[id']? = some (some L') → id ≠ id' → L.g ≠ L'.g
  mlt : ∀ g, M g → g < w.heap.size
theorem HR.loc {base : Nat} {M : Nat → Prop} {ρ : Rho} {H : Hp} {w : World} (h : HR base M ρ H w) {id : Nat} {b : Blk} (hb : H[id]? = some (some b)) : ∃ L, ρ[id]? = some (some L) ∧ BR base M ρ w b L := by
  have hl : id < ρ.length := by rw [← h.len]; exact (List.getElem?_eq_some_iff.1 hb).1
  cases ho : ρ[id]'hl with
  | none =>
    have : ρ[id]? = some none := by rw [List.getElem?_eq_getElem hl, ho]
    rw [← h.dead] at this
    rw [hb] at this
    cases this
  | some L =>
    have hL : ρ[id]? = some (some L) := by rw [List.getElem?_eq_getElem hl, ho]
    exact ⟨L, hL, h.blk id b L hb hL⟩
theorem HR.back {base : Nat} {M : Nat → Prop} {ρ : Rho} {H : Hp} {w : World} (h : HR base M ρ H w) {id : Nat} {L : Loc} (hL : ρ[id]? = some (some L)) : ∃ b, H[id]? = some (some b) := by
  have hl : id < H.length := by rw [h.len]; exact (List.getElem?_eq_some_iff.1 hL).1
  cases ho : H[id]'hl with
  | none =>
    have : H[id]? = some none := by rw [List.getElem?_eq_getElem hl, ho]
    rw [h.dead] at this
    rw [hL] at this
    cases this
  | some b => exact ⟨b, by rw [List.getElem?_eq_getElem hl, ho]⟩
theorem hget_some {H : Hp} {id : Nat} {b : Blk} (h : hget H id = some b) : H[id]? = some (some b) := by
  unfold hget at h
  split at h
  · rename_i c hc; cases h; exact hc
  · cases h
theorem BR.lt {base : Nat} {M : Nat → Prop} {ρ : Rho} {w : World} {b : Blk} {L : Loc} (h : BR base M ρ w b L) : L.g < w.heap.size := by
  obtain ⟨cur, fr, hg, _⟩ := h.cur
  exact (Array.getElem?_eq_some_iff.1 hg).1
/-- What may be written. -/
def Wr (ρ : Rho) (H : Hp) (g : Nat) : Prop := ∃ (id : Nat) (b : Blk) (L : Loc), H[id]? = some (some b) ∧ b.ro = false ∧ ρ[id]? = some (some L) ∧ L.g = g
theorem HR.notM {base : Nat} {M : Nat → Prop} {ρ : Rho} {H : Hp} {w : World} (h : HR base M ρ H w) {g : Nat} (hg : Wr ρ H g) : ¬ M g := by
  obtain ⟨id, b, L, hb, hr, hL, rfl⟩ := hg
  intro hm
  have := (h.blk id b L hb hL).ro.2 hm
  rw [hr] at this
  cases this
/-- What a step does to the world and to what is known of it. -/
structure Ext (M : Nat → Prop) (ρ : Rho) (H : Hp) (w : World) (M' : Nat → Prop) (ρ' : Rho) (H' : Hp) (w' : World) : Prop where
  os : w'.os = w.os
  tape : w'.tape = w.tape
  output : w'.output = w.output
  size : w.heap.size ≤ w'.heap.size
  keep : ∀ g, g < w.heap.size → ¬ Wr ρ H g → w'.heap[g]? = w.heap[g]?
  mle : ∀ g, M g → M' g
  mnew : ∀ g, M' g → M g ∨ Wr ρ H g ∨ w.heap.size ≤ g
  wr : ∀ g, Wr ρ' H' g → Wr ρ H g ∨ w.heap.size ≤ g
  rle : Rle ρ ρ'
theorem Ext.refl (M : Nat → Prop) (ρ : Rho) (H : Hp) (w : World) : Ext M ρ H w M ρ H w :=
  ⟨rfl, rfl, rfl, Nat.le_refl _, fun _ _ _ => rfl, fun _ h => h, fun _ h => .inl h, fun _ h => .inl h, Rle.refl _⟩
theorem Ext.trans {M M' M'' : Nat → Prop} {ρ ρ' ρ'' : Rho} {H H' H'' : Hp} {w w' w'' : World} (h : Ext M ρ H w M' ρ' H' w') (k : Ext M' ρ' H' w' M'' ρ'' H'' w'') : Ext M ρ H w M'' ρ'' H'' w'' where
  os := k.os.trans h.os
  tape := k.tape.trans h.tape
  output := k.output.trans h.output
  size := Nat.le_trans h.size k.size
  keep g hg hn := (k.keep g (Nat.lt_of_lt_of_le hg h.size) (fun hw => (h.wr g hw).elim hn (fun h1 => by omega))).trans (h.keep g hg hn)
  mle g hg := k.mle g (h.mle g hg)
  mnew g hg := by
    have := h.size
    rcases k.mnew g hg with h1 | h1 | h1
    · exact h.mnew g h1
    · exact .inr (h.wr g h1)
    · exact .inr (.inr (by omega))
  wr g hg := by
    have := h.size
    rcases k.wr g hg with h1 | h1
    · exact h.wr g h1
    · exact .inr (by omega)
  rle := h.rle.trans k.rle
theorem HR.keepM {base : Nat} {M : Nat → Prop} {ρ : Rho} {H : Hp} {w : World} (h : HR base M ρ H w) {M' : Nat → Prop} {ρ' : Rho} {H' : Hp} {w' : World} (e : Ext M ρ H w M' ρ' H' w') :
    ∀ g, M g → w'.heap[g]? = w.heap[g]? := fun g hg => e.keep g (h.mlt g hg) (fun hw => h.notM hw hg)
theorem VR.ext {base : Nat} {M : Nat → Prop} {ρ : Rho} {H : Hp} {w : World} (h : HR base M ρ H w) {M' : Nat → Prop} {ρ' : Rho} {H' : Hp} {w' : World} (e : Ext M ρ H w M' ρ' H' w') {a : AV} {u : Value}
    (hv : VR M w ρ a u) : VR M' w' ρ' a u := hv.mono e.mle (h.keepM e) e.rle
/-- The draws of an order touch nothing. -/
theorem VR.world {M : Nat → Prop} {w w' : World} (hw : w'.heap = w.heap) {ρ : Rho} {a : AV} {u : Value} (h : VR M w ρ a u) : VR M w' ρ a u := h.mono (fun _ h => h) (fun g _ => by rw [hw]) (Rle.refl _)
theorem HR.world {base : Nat} {M : Nat → Prop} {ρ : Rho} {H : Hp} {w w' : World} (hw : w'.heap = w.heap) (h : HR base M ρ H w) : HR base M ρ H w' where
  len := h.len
  dead := h.dead
  inj := h.inj
  mlt g hg := by rw [hw]; exact h.mlt g hg
  blk id b L hb hL := by
    have q := h.blk id b L hb hL
    obtain ⟨cur, fr, h1, h2, h3, h4⟩ := q.cur
    exact { lo := q.lo, kk := q.kk, kp := q.kp, ro := q.ro, capm := q.capm, len := q.len, ek := q.ek,
            cur := ⟨cur, fr, by rw [hw]; exact h1, h2, h3, fun i e j c he hc => let ⟨u, a1, a2, a3⟩ := h4 i e j c he hc; ⟨u, a1, a2, a3.world hw⟩⟩ }
/-- The state's slots in a frame. -/
def SL (M : Nat → Prop) (ρ : Rho) (w : World) (s : List (Nat × AV)) (a : Act) : Prop := ∀ t, VR M w ρ (sget s t) (a.tmps.getD t undef)
theorem SL.put {M : Nat → Prop} {ρ : Rho} {w : World} {s : List (Nat × AV)} {a : Act} (h : SL M ρ w s a) {d : Option Nat} {av : AV} {v : Value} (hv : VR M w ρ av v) (hd : ∀ t, d = some t → t < a.tmps.size) : SL M ρ w (putS s d av) (a.put d v) := by
  cases d with
  | none => exact h
  | some t =>
    intro u
    have ht := hd t rfl
    simp only [putS, sget, Act.put]
    by_cases hu : t = u
    · subst hu
      rw [if_pos rfl, Array.getD_eq_getD_getElem?, Array.getElem?_setIfInBounds, if_pos rfl, if_pos ht]
      exact hv
    · rw [if_neg hu]
      have := h u
      rw [Array.getD_eq_getD_getElem?] at this ⊢
      rw [Array.getElem?_setIfInBounds, if_neg hu]
      exact this
theorem put_size (a : Act) (d : Option Nat) (v : Value) : (a.put d v).tmps.size = a.tmps.size := by cases d <;> simp [Act.put]
theorem put_defers (a : Act) (d : Option Nat) (v : Value) : (a.put d v).defers = a.defers := by cases d <;> rfl
theorem SL.mono {M M' : Nat → Prop} {ρ ρ' : Rho} {w w' : World} {s : List (Nat × AV)} {a : Act} (h : SL M ρ w s a) (hM : ∀ g, M g → M' g) (hw : ∀ g, M g → w'.heap[g]? = w.heap[g]?) (hr : Rle ρ ρ') : SL M' ρ' w' s a :=
  fun t => (h t).mono hM hw hr
theorem getD_getElem? {α : Type} (l : List α) (i : Nat) (d : α) : l.getD i d = (l[i]?).getD d := by simp [List.getD]
/-- Some operands of an operation, and what they are. -/
def Opd (M : Nat → Prop) (ρ : Rho) (w : World) (s : List (Nat × AV)) (a : Act) (xs : List Operand) : Prop := ∀ x ∈ xs, VR M w ρ ((loOf x).ev s) (a.eval x)
/-- Operands. -/
theorem vr_ofV {M : Nat → Prop} {ρ : Rho} {w : World} (c : Value) : VR M w ρ (ofV c) c := by
  unfold ofV
  split
  · rename_i cs
    split
    · rename_i h
      refine .agg (by simp) (fun u hu => by have := List.all_eq_true.1 h u hu; exact this) (fun i c u h1 h2 => ?_)
      rw [List.getElem?_map] at h1
      rw [h2] at h1
      cases h1
      exact .v
    · exact .v
  · exact .v
theorem vr_lo {M : Nat → Prop} {ρ : Rho} {w : World} {s : List (Nat × AV)} {a : Act} (h : SL M ρ w s a) (o : Operand) : VR M w ρ ((loOf o).ev s) (a.eval o) := by
  cases o with
  | tmp t => exact h t
  | const v => exact vr_ofV v
  | global g => exact .v
  | func f => exact .fn rfl rfl (fun i c u h1 h2 => by simp at h1) (fun i c u h1 h2 => by simp at h1)
end Go.Proofs.YtbbnecjaojobfaaDoor.Ev
