/- slices.AppendSeq of nothing and slices.Values of ints, and slices.Sort of ints, as givens. -/
import Derived.Test.YtlmjoimjdpfamaaGreatEvPrim
import Derived.Test.YtlmjoimjdpfamaaGreatEvSrt0
import Derived.Test.YtlmjoimjdpfamaaGreatShelf
import Derived.RangeFuncBox
import Derived.RangeFuncLeaves
import Derived.WalkKit
import Derived.OwnWalkIn
import Derived.TacticsInMore
import Derived.LoopNIn
import Derived.LoopIn
import Derived.Shelf.SlIterI.Collect
import Derived.Shelf.SortM.Plain
set_option linter.unusedVariables false
set_option linter.unusedSimpArgs false
set_option linter.constructorNameAsVariable false
namespace Go.Proofs.YtlmjoimjdpfamaaGreat.Ev
open Go.Sort Go.RowKit
attribute [local go_sem] Oper.semAt_some
def upto {α : Type} (f : Nat → α) (k : Nat) : List α := (List.range k).map f
theorem upto_succ {α : Type} (f : Nat → α) (k : Nat) : upto f (k + 1) = upto f k ++ [f k] := by simp [upto, List.range_succ]
theorem upto_length {α : Type} (f : Nat → α) (k : Nat) : (upto f k).length = k := by simp [upto]
theorem upto_all (zs : List Int) : upto (fun j => zs[j]?.getD 0) zs.length = zs := by
  apply List.ext_getElem
  · simp [upto]
  · intro i h1 h2
    simp [upto, h2]
set_option maxRecDepth 100000 in
set_option maxHeartbeats 2000000 in
/-- The iterator over a row of ints, for a loop's body that keeps what lay below a block. -/
theorem val1_in (n : Nat) (hn : 1 ≤ n) (l n₀ b off len cap : Nat) (a : Addr) (ha : a.block < n₀) (zs : List Int) (hreach : len * 8 ≤ 140737488351232) (hb : b < n₀) (w0 : World) (J : List Int → World → Prop) (hJ : ∀ pre W, J pre W → ∀ k, k < n₀ → W.heap[k]? = w0.heap[k]?)
    (hY : ∀ pre x W, J pre W → pre.length < len → YieldAt Fence.wide (n - 1) Go.Proofs.Tryz.prog l #[.int .i64 x] W fun e W' => e = .returned (.bool true) ∧ J (pre ++ [x]) W')
    (W : World) (hBs : w0.cell? a = some (.slice (some ⟨b, off, none⟩) len cap)) (hc : ∀ j, j < len → w0.cell? ⟨b, off + j, none⟩ = some (.int .i64 (zs[j]?.getD 0))) (h0 : J [] W) :
    CallsIn Fence.wide n Go.Proofs.Tryz.prog 71 #[.func (.yield l) #[] #[], .pointer (some a)] W fun e W' => (∃ v, e = .returned v) ∧ J (upto (fun j => zs[j]?.getD 0) len) W' := by
  have hcell : ∀ pre W, J pre W → ∀ p : Addr, p.block < n₀ → W.cell? p = w0.cell? p := fun pre W h p hp => World.cell?_of_block (hJ pre W h p.block hp)
  have hBs' : W.cell? a = some (.slice (some ⟨b, off, none⟩) len cap) := (hcell [] W h0 a ha).trans hBs
  refine callsIn_of_wp Go.Proofs.Tryz.func71 rfl trivial ?_ rfl
  simp only [Go.Proofs.Tryz.ntmps71, List.size_toArray, List.length_cons, List.length_nil, Nat.reduceAdd, Nat.reduceSub, Array.replicate_succ, Array.replicate_zero, List.push_toArray, List.append_toArray, List.nil_append, List.cons_append]
  gi_wp2
  gi_loopw [7] (fun i wr => ∃ k : Nat, k ≤ len ∧ i = .int .i64 k ∧ J (upto (fun j => zs[j]?.getD 0) k) wr)
    (fun i _ => len - (intOf i).toNat)
  case atStart => exact ⟨0, Nat.zero_le _, rfl, h0⟩
  case round =>
    obtain ⟨k, hk, rfl, hJs⟩ := hrel
    have hcx : k < len → wr.cell? ⟨b, off + k, none⟩ = some (.int .i64 (zs[k]?.getD 0)) := fun h => (hcell _ wr hJs ⟨b, off + k, none⟩ hb).trans (hc k h)
    by_cases hlt : k < len
    · obtain ⟨fn, tmps, assign, body, hy, hR⟩ := hY _ (zs[k]?.getD 0) wr hJs (by rw [upto_length]; exact hlt)
      have hcx' := hcx hlt
      gi_wp2
      refine hR.mono ?_
      rintro e W3 ⟨rfl, hJ3⟩
      gi_wp2
      go_roundw
      case rel =>
        refine ⟨_, _, _, _, _, _, _, _, _, _, ?_, rfl⟩
        exact ⟨k + 1, by omega, by simp, by rw [upto_succ]; exact hJ3⟩
      case measure => simp [intOf]; omega
    · obtain rfl : k = len := by omega
      gi_wp2
      go_end0
      exact ⟨⟨_, rfl⟩, hJs⟩
set_option maxRecDepth 100000 in
set_option maxHeartbeats 1000000 in
theorem val1_nil_in (n : Nat) (l : Nat) (a : Addr) (p : Option Addr) (cap : Nat) (J : List Int → World → Prop) (W : World) (hBs : W.cell? a = some (.slice p 0 cap)) (h0 : J [] W) :
    CallsIn Fence.wide n Go.Proofs.Tryz.prog 71 #[.func (.yield l) #[] #[], .pointer (some a)] W fun e W' => (∃ v, e = .returned v) ∧ J [] W' := by
  refine callsIn_of_wp Go.Proofs.Tryz.func71 rfl trivial ?_ rfl
  simp only [Go.Proofs.Tryz.ntmps71, List.size_toArray, List.length_cons, List.length_nil, Nat.reduceAdd, Nat.reduceSub, Array.replicate_succ, Array.replicate_zero, List.push_toArray, List.append_toArray, List.nil_append, List.cons_append]
  gi_wp2
  gi_loopw [7] (fun i wr => i = .int .i64 0 ∧ J [] wr) (fun _ _ => 0)
  case atStart => exact ⟨rfl, h0⟩
  case round =>
    obtain ⟨rfl, hJs⟩ := hrel
    gi_wp2
    go_end0
    exact ⟨⟨_, rfl⟩, hJs⟩
set_option maxRecDepth 100000 in
set_option maxHeartbeats 2000000 in
/-- slices.AppendSeq(nil, slices.Values(..)). -/
theorem app_vals (a : Addr) (sv : Value) (zs : List Int) (hreach : zs.length * 8 ≤ 140737488351232) (w : World) (ha : a.block < w.heap.size) (hBs : w.cell? a = some sv)
    (hI : (∃ p cap, sv = .slice p 0 cap ∧ zs = []) ∨ ∃ b off cap, sv = .slice (some ⟨b, off, none⟩) zs.length cap ∧ b < w.heap.size ∧ ∀ j, j < zs.length → w.cell? ⟨b, off + j, none⟩ = some (.int .i64 (zs[j]?.getD 0))) :
    CallsIn Fence.wide 3 Go.Proofs.Tryz.prog 80 #[.slice none 0 0, .func (.func 71) #[] #[.pointer (some a)]] w fun e w' => ∃ (v : Value), e = .returned v ∧ w'.ownsRow w.heap.size (Go.Proofs.Tryz.appL_ren.t 26) 1 v zs.length (zs.map encZ) ∧ (v = .slice none 0 0 ↔ zs = []) ∧ Go.RowKit.Below w.heap.size w w' := by
  have L := Go.Proofs.Tryz.appL
  have eg : ∀ args w, (callFunc 71 args).run Go.Proofs.Tryz.prog w = .ok (.enter 71 args) w := enters_of Go.Proofs.Tryz.func71 (by kernel_rfl) rfl
  have mixed := L.mixed; have t0 := L.t0; have a0 := L.a0; have z0 := L.z0; have v0 := L.v0; have t24 := L.t24; have a24 := L.a24; have z24 := L.z24; have v24 := L.v24; have t26 := L.t26; have a26 := L.a26; have z26 := L.z26; have v26 := L.v26; have t28 := L.t28; have a28 := L.a28; have z28 := L.z28; have v28 := L.v28
  have hne : Go.Proofs.Tryz.appL_ren.t 24 ≠ Go.Proofs.Tryz.appL_ren.t 26 := fun e => by have h := L.t24; rw [e, L.t26] at h; cases h
  have u0 := run_underlying L.t0; have u24 := run_underlying L.t24; have u26 := run_underlying L.t26; have u28 := run_underlying L.t28
  obtain ⟨_, _, FG⟩ := L.f11
  refine callsIn_of_wp_marks FG rfl trivial ?_ rfl
  simp only [SlBodyZ.n11_ntmps Go.Proofs.Tryz.appL_ren, List.size_toArray, List.length_cons, List.length_nil, Nat.reduceAdd, Nat.reduceSub, Array.replicate_succ, Array.replicate_zero, List.push_toArray, List.append_toArray, List.nil_append, List.cons_append]
  gi_wp2
  refine wpIn_rangeFunc ?_
  intro fn hfn
  rw [show Fence.wide.round = none from rfl]
  obtain ⟨W0, hW0⟩ : ∃ W0, w.alloc (.cells #[.slice none 0 0] (Go.Proofs.Tryz.appL_ren.t 24)) = W0 := ⟨_, rfl⟩
  have hs0 : W0.heap.size = w.heap.size + 1 := by rw [← hW0]; simp
  have hv0 : W0.heap[w.heap.size]? = some (.cells #[.slice none 0 0] (Go.Proofs.Tryz.appL_ren.t 24) (0, 0)) := by rw [← hW0]; exact World.alloc_heap_new w _
  have hb0 : Go.RowKit.Below w.heap.size w W0 := by rw [← hW0]; exact (Below.refl _ w).alloc (Nat.le_refl _) _
  rw [hW0]
  generalize hsv : (Value.func (.func 71) #[] #[.pointer (some a)]) = fv
  obtain ⟨W1, hW1⟩ : ∃ W1, (W0.alloc (.deferred (some []))).alloc (.loop (AnyZI.apRec Go.Proofs.Tryz.appL_ren fn fv w.heap.size W0.heap.size .ready none)) = W1 := ⟨_, rfl⟩
  have hold : ∀ k, k < W0.heap.size → W1.heap[k]? = W0.heap[k]? := fun k hk => by
    rw [← hW1]; exact (Below.heap_alloc _ _ k (by simp; omega)).trans (Below.heap_alloc _ _ k hk)
  have hb1 : Go.RowKit.Below w.heap.size w W1 := by rw [← hW1]; exact (hb0.alloc hb0.size _).alloc (by have := hb0.size; simp; omega) _
  have hs1 : W1.heap.size = W0.heap.size + 2 := by rw [← hW1]; simp
  have hM : AnyZI.ApAt Go.Proofs.Tryz.appL_ren w fn fv w.heap.size (W0.heap.size + 1) W0.heap.size [] W1 :=
    ⟨⟨_, (hold w.heap.size (by omega)).trans hv0, ⟨rfl, .inl ⟨rfl, rfl⟩⟩, by simp⟩,
     by rw [← hW1]; have := World.alloc_heap_new (W0.alloc (.deferred (some []))) (.loop (AnyZI.apRec Go.Proofs.Tryz.appL_ren fn fv w.heap.size W0.heap.size .ready none)); rwa [World.size_alloc] at this,
     by rw [← hW1]; exact (Below.heap_alloc _ _ _ (by simp)).trans (World.alloc_heap_new W0 _), hb1⟩
  have hseq : CallsIn Fence.wide 2 Go.Proofs.Tryz.prog 71 #[.func (.yield (W0.heap.size + 1)) #[] #[], .pointer (some a)] W1 fun e W' => (∃ v, e = .returned v) ∧ AnyZI.ApAt Go.Proofs.Tryz.appL_ren w fn fv w.heap.size (W0.heap.size + 1) W0.heap.size zs W' := by
    rcases hI with ⟨p, cap, rfl, rfl⟩ | ⟨b, off, cap, rfl, hb, hcs⟩
    · exact val1_nil_in 2 _ a p cap _ W1 ((World.cell?_of_block (hb1.block a.block ha)).trans hBs) hM
    · have h := val1_in 2 (by omega) (W0.heap.size + 1) w.heap.size b off zs.length cap a ha zs hreach hb w (AnyZI.ApAt Go.Proofs.Tryz.appL_ren w fn fv w.heap.size (W0.heap.size + 1) W0.heap.size) (fun pre W hJ k hk => hJ.below.block k hk)
        (fun pre x W hJ hl => by
          obtain ⟨f1, t1, as1, b1, y1, y2⟩ := AnyZI.apYield { L with } Fence.wide 1 w fn trivial fv w.heap.size (W0.heap.size + 1) W0.heap.size (by omega) (by omega) (by omega) (Nat.le_refl _) (by omega) zs.length (by show zs.length ≤ 9223372036854775807; omega) (by omega) pre x W hJ hl
          exact ⟨f1, t1, as1, b1, y1, y2.mono fun e W' h => ⟨h.1, h.2.1⟩⟩) W1 hBs hcs hM
      rw [upto_all] at h
      exact h
  refine ⟨W0.heap.size + 1, [{ target := .collected W0.heap.size, args := #[] }], W1, { target := .fn (.func 71) #[.pointer (some a)], args := #[.func (.yield (W0.heap.size + 1)) #[] #[]] }, W1, 71,
    #[.func (.yield (W0.heap.size + 1)) #[] #[], .pointer (some a)], W1, ?_, ?_, ?_, ?_, fun _ => by omega, ?_⟩
  · rw [← hW1]; exact run_enterLoop_outer _ _ _ _ _
  · rw [← hsv]; simp [resolve, go_sem]
  · intro f' hf'; trivial
  · simp [invoke, go_sem, eg]
  · refine hseq.mono ?_
    rintro e W2 ⟨⟨v0, rfl⟩, h2⟩
    obtain ⟨v, hv, hrow, hnil⟩ := h2.box
    have hend := run_endLoop (P := Go.Proofs.Tryz.prog) h2.L (by simp [AnyZI.apRec])
    obtain ⟨W3, hW3⟩ : ∃ W3, W2.putObj (W0.heap.size + 1) (.loop { AnyZI.apRec Go.Proofs.Tryz.appL_ren fn fv w.heap.size W0.heap.size .ready none with state := .exhausted }) = W3 := ⟨_, rfl⟩
    rw [hW3] at hend
    have hg3 : W2.grownBy W3 (some (W0.heap.size + 1)) := by rw [← hW3]; exact grownBy_putObj_a _ _ _
    have hv3 : W3.heap[w.heap.size]? = some (.cells #[v] (Go.Proofs.Tryz.appL_ren.t 24) (0, 0)) := by rw [← hW3]; exact (World.putObj_heap_other (by omega)).trans hv
    have hK3 : W3.heap[W0.heap.size]? = some (.deferred (some [])) := by rw [← hW3]; exact (World.putObj_heap_other (by omega)).trans h2.K
    have hrow3 := hrow.kept hg3 (ownsRow_ne_a hrow h2.L (fun cur e => by first | cases e | exact hne (Obj.cells.inj e).2.1))
    have hb3 : Go.RowKit.Below w.heap.size w W3 := h2.below.grown hg3 h2.below.size (fun k e => by cases e; omega)
    obtain ⟨hc3, hf3⟩ := cell_of_box_a hv3
    clear hW3
    refine ⟨none, W3, hend, ?_⟩
    gi_wp2
    rw [← hs0]
    refine ⟨by simp, .inl ⟨_, _, rfl, run_takeDeferred hK3, ?_⟩⟩
    exact ⟨_, results_tmp rfl _ _ _, v, rfl, hrow3.kept (grownBy_putObj_a _ _ _) (ownsRow_ne_a hrow3 hK3 (fun cur e => by first | cases e | exact hne (Obj.cells.inj e).2.1)), hnil, hb3.grown (grownBy_putObj_a _ _ _) hb3.size (fun k e => by cases e; omega)⟩
-- ---------------------------------------------------------------- the givens
def intsOf : List AV → Option (List Int)
  | [] => some []
  | .v (.int .i64 a) :: r => (intsOf r).bind fun l => some (a :: l)
  | _ :: _ => none
@[simp] theorem intsOf_map : ∀ l : List Int, intsOf (l.map i64) = some l
  | [] => rfl
  | a :: r => by rw [List.map_cons]; show (intsOf (r.map i64)).bind _ = _; rw [intsOf_map r]; rfl
theorem intsOf_some : ∀ {xs : List AV} {l : List Int}, intsOf xs = some l → xs = l.map i64
  | [], l, h => by cases h; rfl
  | x :: r, l, h => by
    unfold intsOf at h
    split at h
    · rename_i h0; cases h0
    · rename_i a r' h0
      cases h0
      obtain ⟨l', h1, h2⟩ := bind_iff.1 h
      cases h2
      rw [intsOf_some h1]
      rfl
    · cases h
def sortIP : List AV → Hp → Option (AV × Hp)
  | [.v (.slice none 0 0)], H => some (.tup [], H)
  | [.sl i0 0 n], H => (hget H i0).bind fun b =>
    if b.kd = 1 ∧ b.ro = false ∧ b.k = 1 ∧ n ≤ b.es.length ∧ n < 4611686018427387904 then (intsOf (b.es.take n)).bind fun d => some (.tup [], H.set i0 (some { b with es := (d.mergeSort fun x y => decide (x ≤ y)).map i64 ++ b.es.drop n })) else none
  | _, _ => none
theorem sortI_ok (xs : List AV) (H : Hp) (res : AV) (H' : Hp) (h : sortIP xs H = some (res, H')) : Callable Go.Proofs.Tryz.prog 70 ∧
    ∀ (base : Nat) (M : Nat → Prop) (ρ : Rho) (w : World) (vs : Array Value), GW w → gw0 ≤ base → base ≤ w.heap.size → HR base M ρ H w → Args M ρ w xs vs → Calls Go.Proofs.Tryz.prog 70 vs w (Ans base M ρ H w res H') := by
  refine ⟨⟨_, Go.Proofs.Tryz.func70, by kernel_rfl, by kernel_rfl⟩, fun base M ρ w vs hGw hn hB hH hA => ?_⟩
  unfold sortIP at h
  split at h
  · cases h
    obtain ⟨x, rfl, v1⟩ := arg_at hA
    obtain rfl := vr_v v1
    refine (AnyM.slices_Sort_int_none Go.Proofs.Tryz.sortL none 0 w).mono ?_
    rintro e w' ⟨rfl, rfl⟩
    exact ⟨_, M, ρ, rfl, hH, Ext.refl _ _ _ _, .tup rfl (fun i c u h => by simp at h)⟩
  · rename_i i0 n
    obtain ⟨b, hb, h⟩ := bind_iff.1 h
    by_cases hc : b.kd = 1 ∧ b.ro = false ∧ b.k = 1 ∧ n ≤ b.es.length ∧ n < 4611686018427387904
    · have h2 : ((intsOf (b.es.take n)).bind fun d => some (AV.tup [], H.set i0 (some { b with es := (d.mergeSort fun x y => decide (x ≤ y)).map i64 ++ b.es.drop n }))) = some (res, H') := (if_pos hc).symm.trans h
      clear h
      obtain ⟨c1, c2, c3, c4, c5⟩ := hc
      obtain ⟨d, hd, h3⟩ := bind_iff.1 h2
      cases h3
      have hd' := intsOf_some hd
      have hdl : d.length = n := by
        have := congrArg List.length hd'
        simp only [List.length_take, List.length_map] at this
        omega
      subst hdl
      have hb' := hget_some hb
      obtain ⟨x, rfl, v1⟩ := arg_at hA
      obtain ⟨L, A, c, hL, hc1, hc2, hA', rfl⟩ := live_sl hH v1 hb
      have q := hH.blk i0 b L hb' hL
      have hA2 : A = some ⟨L.g, 0, none⟩ := by
        rcases hA' with hA' | hA'
        · exact absurd rfl hA'.1
        · rw [hA', Nat.zero_mul]
      subst hA2
      obtain ⟨hhold, hnl⟩ := row1_holds (Value.int .i64) (fun _ => rfl) hH hb' hL c1 c3 d hd'
      refine (AnyM.slices_Sort_int Go.Proofs.Tryz.sortL L.g 0 c d w hhold q.lt c5).mono ?_
      rintro e w' ⟨rfl, m, os, rfl⟩
      have hl : (d.mergeSort fun x y => decide (x ≤ y)).length = d.length := List.length_mergeSort _
      have h := row1_ans (Value.int .i64) (fun _ => rfl) (fun _ => rfl) hH hb' hL c2 c1 c3 (d.mergeSort fun x y => decide (x ≤ y)) (by omega) m os
      rw [hl] at h
      exact h
    · rw [if_neg hc] at h; cases h
  · cases h
def appZ (zs : List Int) : AV × Hp := if zs = [] then (nilS, []) else (.sl 0 0 zs.length, [some ⟨3, 1, 1, false, zs.map i64⟩])
def appP : List AV → Hp → Option (AV × Hp)
  | [.v (.slice none 0 0), .fn (.func g) [] [.el (.agg [.lst 1 xs]) 0]], [] => (intsOf xs).bind fun zs => if g = 71 ∧ zs.length * 8 ≤ 140737488351232 then some (appZ zs) else none
  | [.v (.slice none 0 0), .fn (.func g) [] [.el (.agg [.v (.slice none 0 0)]) 0]], [] => if g = 71 then some (nilS, []) else none
  | _, _ => none
theorem app_ans {M : Nat → Prop} {ρ : Rho} {w w' : World} (hlt : ∀ g, M g → g < w.heap.size) (zs : List Int) (v : Value) (hown : w'.ownsRow w.heap.size 3 1 v zs.length (zs.map encZ)) (hnil : v = .slice none 0 0 ↔ zs = []) (hb : Go.RowKit.Below w.heap.size w w') (base : Nat) (hB : base ≤ w.heap.size) (hH : HR base M ρ [] w) :
    Ans base M ρ [] w (appZ zs).1 (appZ zs).2 (.returned v) w' := by
  by_cases hz : zs = []
  · have hv := hnil.2 hz
    subst hv hz
    exact below_ans hH hb .v
  · have hA : appZ zs = (.sl 0 0 zs.length, [some ⟨3, 1, 1, false, zs.map i64⟩]) := if_neg hz
    rw [hA]
    rcases hown.2 with ⟨e, _⟩ | ⟨g, cap, cur, rfl, h1, h2, h3, h4, h5, h6⟩
    · exact absurd (hnil.1 e) hz
    · have hρ : ρ = [] := by
        have := hH.len
        simp at this
        exact List.eq_nil_of_length_eq_zero this.symm
      subst hρ
      have hgl : g < w'.heap.size := (Array.getElem?_eq_some_iff.1 h2).1
      refine ⟨_, M, [some ⟨g, cap, 1⟩], rfl, { len := rfl, dead := fun id => ?_, blk := fun id b L hb' hL => ?_, inj := fun a b L L' ha hb' hne => ?_, mlt := fun x hx => ?_ }, ⟨hb.os, hb.tape, hb.output, hb.size, fun x hx _ => hb.block x hx, fun _ h => h, fun _ h => .inl h, fun x hx => ?_, Rle.nil _⟩, ?_⟩
      · cases id with
        | zero => simp
        | succ n => simp
      · cases id with
        | succ n => simp at hb'
        | zero =>
          cases hb'
          cases hL
          refine { lo := by show base ≤ g; omega, kk := rfl, kp := Nat.one_pos, ro := ⟨fun h => (by cases h), fun h => ?_⟩, cur := ⟨cur, (0, 0), h2, h5, .inl rfl, fun i e j c he hc => ?_⟩, capm := h4, len := by simpa using h3, ek := fun i e he => ?_ }
          · have h7 : M g := h
            have := hlt g h7
            omega
          · rw [List.getElem?_map] at he
            cases hx : zs[i]? with
            | none => rw [hx] at he; cases he
            | some z =>
              rw [hx] at he
              cases he
              cases j with
              | succ j => simp [AV.cells] at hc
              | zero =>
                cases hc
                refine ⟨.int .i64 z, ?_, rfl, .v⟩
                rw [Nat.mul_one] at h6
                have h8 : (cur.toList.take zs.length)[i]? = some (.int .i64 z) := by rw [h6, List.getElem?_map, hx]; rfl
                have hi : i < zs.length := (List.getElem?_eq_some_iff.1 hx).1
                rw [List.getElem?_take, if_pos hi] at h8
                show cur[i * 1 + 0]? = _
                rw [Nat.mul_one, Nat.add_zero]
                simpa using h8
          · rw [List.getElem?_map] at he
            cases hx : zs[i]? with
            | none => rw [hx] at he; cases he
            | some z => rw [hx] at he; cases he; rfl
      · cases a with
        | zero => cases b with
          | zero => exact absurd rfl hne
          | succ n => simp at hb'
        | succ n => simp at ha
      · have := hlt x hx
        have := hb.size
        omega
      · obtain ⟨id, b, L, e1, e2, e3, rfl⟩ := hx
        cases id with
        | zero => cases e3; exact .inr h1
        | succ n => simp at e3
      · exact .sl ⟨g, cap, 1⟩ rfl (by simp) h3 (.inr rfl)
theorem app_ok (xs : List AV) (H : Hp) (res : AV) (H' : Hp) (h : appP xs H = some (res, H')) : Callable Go.Proofs.Tryz.prog 80 ∧
    ∀ (base : Nat) (M : Nat → Prop) (ρ : Rho) (w : World) (vs : Array Value), GW w → gw0 ≤ base → base ≤ w.heap.size → HR base M ρ H w → Args M ρ w xs vs → Calls Go.Proofs.Tryz.prog 80 vs w (Ans base M ρ H w res H') := by
  refine ⟨⟨_, Go.Proofs.Tryz.func80, by kernel_rfl, by kernel_rfl⟩, fun base M ρ w vs hGw hn hB hH hA => ?_⟩
  have key : ∀ (e : AV) (zs : List Int) (va vb : Value), Args M ρ w [nilS, .fn (.func 71) [] [.el (.agg [e]) 0]] #[va, vb] → (e = .lst 1 (zs.map i64) ∨ (e = nilS ∧ zs = [])) → zs.length * 8 ≤ 140737488351232 → H = [] → Calls Go.Proofs.Tryz.prog 80 #[va, vb] w (Ans base M ρ [] w (appZ zs).1 (appZ zs).2) := by
    intro e zs va vb hA he hz hH0
    subst hH0
    have v1 := hA.2 0 _ _ rfl rfl
    have v2 := hA.2 1 _ _ rfl rfl
    obtain rfl := vr_v v1
    cases v2 with
    | @fn _ _ _ _ fa fb hla hlb hva hvb =>
    have hfa : fa = #[] := by
      cases fa with | mk l => cases l with
        | nil => rfl
        | cons x y => simp at hla
    subst hfa
    obtain ⟨p, rfl⟩ : ∃ p, fb = #[p] := by
      obtain ⟨l⟩ := fb
      match l, hlb with
      | [p], _ => exact ⟨p, rfl⟩
    have vp := hvb 0 _ _ rfl rfl
    cases vp with
    | @el _ _ _ a U hs hM hm hr =>
    obtain ⟨hcell, _⟩ := hm 0 e (Nat.le_refl _) rfl
    have hval := hr 0 e rfl
    have hca : w.cell? a = some (U 0) := by
      obtain ⟨bk, of, sp⟩ := a
      cases hs
      simpa using hcell
    have hI : (∃ p cap, U 0 = .slice p 0 cap ∧ zs = []) ∨ ∃ b off cap, U 0 = .slice (some ⟨b, off, none⟩) zs.length cap ∧ b < w.heap.size ∧ ∀ j, j < zs.length → w.cell? ⟨b, off + j, none⟩ = some (.int .i64 (zs[j]?.getD 0)) := by
      rcases he with rfl | ⟨rfl, rfl⟩
      · generalize U 0 = uv at hval hca
        cases hval with
        | @lst _ _ _ A cap UU hcc hha hkk hmm hrr =>
          by_cases hz0 : zs = []
          · subst hz0
            exact .inl ⟨A, cap, rfl, rfl⟩
          · obtain ⟨aa, rfl, hsp, hMa⟩ := hha (by simpa using hz0)
            obtain ⟨bk, of, sp⟩ := aa
            cases hsp
            refine .inr ⟨bk, of, cap, by rw [List.length_map], hH.mlt bk hMa, fun j hj => ?_⟩
            have hx : (zs.map i64)[j]? = some (i64 (zs[j]?.getD 0)) := by rw [List.getElem?_map, List.getElem?_eq_getElem hj]; rfl
            have h1 := hmm _ rfl j _ 0 _ hx rfl
            have h2 := hrr j _ 0 _ hx rfl
            rw [Nat.mul_one, Nat.add_zero] at h1
            rw [vr_v h2] at h1
            exact h1.1
      · left
        exact ⟨none, 0, vr_v hval, rfl⟩
    have hc := (callsIn_wide (n := 3)).1 (app_vals a (U 0) zs hz w (hH.mlt _ hM) hca hI)
    refine hc.mono ?_
    rintro e' w' ⟨v, rfl, hown, hnil, hbl⟩
    exact app_ans hH.mlt zs v hown hnil hbl base hB hH
  unfold appP at h
  split at h
  · rename_i g ys
    obtain ⟨zs, hzs, h⟩ := bind_iff.1 h
    by_cases hc : g = 71 ∧ zs.length * 8 ≤ 140737488351232
    · have h2 : some (appZ zs) = some (res, H') := (if_pos hc).symm.trans h
      obtain ⟨rfl, c2⟩ := hc
      have h3 : appZ zs = (res, H') := Option.some.inj h2
      have hys := intsOf_some hzs
      subst hys
      obtain ⟨va, vb, rfl, _, _⟩ := args_at hA
      have h4 := key (.lst 1 (zs.map i64)) zs va vb hA (.inl rfl) c2 rfl
      rw [h3] at h4
      exact h4
    · rw [if_neg hc] at h; cases h
  · rename_i g
    by_cases hc : g = 71
    · have h2 : some (nilS, ([] : Hp)) = some (res, H') := (if_pos hc).symm.trans h
      subst hc
      cases h2
      obtain ⟨va, vb, rfl, _, _⟩ := args_at hA
      exact key nilS [] va vb hA (.inr ⟨rfl, rfl⟩) (by simp) rfl
    · rw [if_neg hc] at h; cases h
  · cases h
end Go.Proofs.YtlmjoimjdpfamaaGreat.Ev
