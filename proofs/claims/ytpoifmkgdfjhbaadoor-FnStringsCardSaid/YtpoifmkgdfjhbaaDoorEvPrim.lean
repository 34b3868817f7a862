/- What functions of Go's library answer, as givens of the evaluator; out of the shelf's contracts. -/
import Derived.Test.YtpoifmkgdfjhbaaDoorShelf
import Derived.Test.YtpoifmkgdfjhbaaDoorEvBD
import Derived.WalkKit
import Derived.WalkSpells
import Derived.BigCall
import Derived.Deep.DeepFit
import Derived.Lib.AtoiAllCases
import Derived.Lib.AtoiErrMem
set_option linter.unusedVariables false
set_option linter.unusedSimpArgs false
set_option linter.constructorNameAsVariable false
namespace Go.Proofs.YtpoifmkgdfjhbaaDoor.Ev
/-- What the library's contracts ask of its package variables. -/
structure GW (w : World) : Prop where
  maxlen : ∃ m, w.cell? ⟨2, 0, none⟩ = some (.int .i64 m)
  tab : Lib.TabIs Go.Proofs.Tryd.prog w "internal/strconv.uint64pow10" .u64 Lib.pow10Tab
  syn : ∃ tp p, w.var? Go.Proofs.Tryd.prog "strconv.ErrSyntax" = some #[.iface tp p]
  ran : ∃ tp p, w.var? Go.Proofs.Tryd.prog "strconv.ErrRange" = some #[.iface tp p]
def gw0 : Nat := 4
theorem gw_low : Low gw0 GW where
  keep w w' h hk _ _ := by
    refine ⟨?_, ?_, ?_, ?_⟩
    · obtain ⟨m, hm⟩ := h.maxlen
      exact ⟨m, (World.cell?_of_block (hk 2 (by decide))).trans hm⟩
    · have ht := h.tab
      unfold Lib.TabIs World.var? at ht ⊢
      rw [show Go.Proofs.Tryd.prog.globalNamed "internal/strconv.uint64pow10" = some 3 by kernel_rfl] at ht ⊢
      simp only [Option.bind_some] at ht ⊢
      rw [hk 3 (by decide)]
      exact ht
    · obtain ⟨tp, p, hv⟩ := h.syn
      refine ⟨tp, p, ?_⟩
      unfold World.var? at hv ⊢
      rw [show Go.Proofs.Tryd.prog.globalNamed "strconv.ErrSyntax" = some 0 by kernel_rfl] at hv ⊢
      simp only [Option.bind_some] at hv ⊢
      rw [hk 0 (by decide)]
      exact hv
    · obtain ⟨tp, p, hv⟩ := h.ran
      refine ⟨tp, p, ?_⟩
      unfold World.var? at hv ⊢
      rw [show Go.Proofs.Tryd.prog.globalNamed "strconv.ErrRange" = some 1 by kernel_rfl] at hv ⊢
      simp only [Option.bind_some] at hv ⊢
      rw [hk 1 (by decide)]
      exact hv
theorem args_at {M : Nat → Prop} {ρ : Rho} {w : World} {a b : AV} {vs : Array Value} (h : Args M ρ w [a, b] vs) : ∃ x y, vs = #[x, y] ∧ VR M w ρ a x ∧ VR M w ρ b y := by
  obtain ⟨h1, h2⟩ := h
  obtain ⟨l⟩ := vs
  match l, h1, h2 with
  | [x, y], _, h2 => exact ⟨x, y, rfl, h2 0 _ _ rfl rfl, h2 1 _ _ rfl rfl⟩
theorem arg_at {M : Nat → Prop} {ρ : Rho} {w : World} {a : AV} {vs : Array Value} (h : Args M ρ w [a] vs) : ∃ x, vs = #[x] ∧ VR M w ρ a x := by
  obtain ⟨h1, h2⟩ := h
  obtain ⟨l⟩ := vs
  match l, h1, h2 with
  | [x], _, h2 => exact ⟨x, rfl, h2 0 _ _ rfl rfl⟩
def strsOf : List AV → Option (List ByteArray)
  | [] => some []
  | .v (.string s) :: r => (strsOf r).bind fun l => some (s :: l)
  | _ :: _ => none
@[simp] theorem strsOf_map : ∀ l : List ByteArray, strsOf (l.map st) = some l
  | [] => rfl
  | s :: r => by rw [List.map_cons, strsOf, strsOf_map r]; rfl
theorem strsOf_some : ∀ {xs : List AV} {l : List ByteArray}, strsOf xs = some l → xs = l.map st
  | [], l, h => by cases h; rfl
  | a :: r, l, h => by
    unfold strsOf at h
    split at h
    · rename_i h0; cases h0
    · rename_i s r' h0
      cases h0
      obtain ⟨l', h1, h2⟩ := bind_iff.1 h
      cases h2
      rw [strsOf_some h1]
      rfl
    · cases h
/-- A row of texts in memory. -/
theorem row_texts {M : Nat → Prop} {ρ : Rho} {w : World} {l : List ByteArray} {v : Value} (h : VR M w ρ (.lst 1 (l.map st)) v) : ∃ A cap, v = .slice A l.length cap ∧ l.length ≤ cap ∧ (l ≠ [] → ∃ bk o, A = some ⟨bk, o, none⟩ ∧ M bk ∧ ∀ (j : Nat) x, l[j]? = some x → w.cell? ⟨bk, o + j, none⟩ = some (.string x)) := by
  cases h with
  | @lst _ _ _ A cap U hc ha hk hm hr =>
    rw [List.length_map] at hc
    refine ⟨A, cap, by rw [List.length_map], hc, fun hne => ?_⟩
    obtain ⟨a, rfl, hs, hM⟩ := ha (by simpa using hne)
    obtain ⟨bk, o, sp⟩ := a
    cases hs
    refine ⟨bk, o, rfl, hM, fun j x hx => ?_⟩
    have hx' : (l.map st)[j]? = some (st x) := by rw [List.getElem?_map, hx]; rfl
    have h1 := hm _ rfl j (st x) 0 (st x) hx' rfl
    have h2 := hr j (st x) 0 (st x) hx' rfl
    rw [Nat.mul_one, Nat.add_zero] at h1
    rw [vr_v h2] at h1
    exact h1.1
def containsP : List AV → Hp → Option (AV × Hp)
  | [.v (.string s), .v (.string c)], H => if c.size = 1 then some (bl (decide (0 ≤ Lib.indexByte s.data.toList (c.data.toList.headD 0))), H) else none
  | _, _ => none
theorem one_byte (a : ByteArray) (h : a.size = 1) : ∃ c, a = ⟨#[c]⟩ := by
  obtain ⟨⟨l⟩⟩ := a
  match l, h with
  | [c], _ => exact ⟨c, rfl⟩
theorem contains_ok (xs : List AV) (H : Hp) (res : AV) (H' : Hp) (h : containsP xs H = some (res, H')) : Callable Go.Proofs.Tryd.prog 28 ∧
    ∀ (base : Nat) (M : Nat → Prop) (ρ : Rho) (w : World) (vs : Array Value), GW w → gw0 ≤ base → base ≤ w.heap.size → HR base M ρ H w → Args M ρ w xs vs → Calls Go.Proofs.Tryd.prog 28 vs w (Ans base M ρ H w res H') := by
  refine ⟨⟨_, Go.Proofs.Tryd.func28, by kernel_rfl, by kernel_rfl⟩, fun base M ρ w vs hG _ _ hH hA => ?_⟩
  unfold containsP at h
  split at h
  · split at h
    · rename_i s c hc
      cases h
      rw [args_two hA]
      obtain ⟨c, rfl⟩ := one_byte c hc
      refine (Go.Proofs.Tryd.strings_Contains_one s c w).mono ?_
      rintro e w' ⟨rfl, rfl⟩
      exact below_ans hH ⟨rfl, rfl, rfl, Nat.le_refl _, fun _ _ => rfl⟩ .v
    · cases h
  · cases h
def cutP : List AV → Hp → Option (AV × Hp)
  | [.v (.string s), .v (.string c)], H => if s.size < 4294967281 then some (.tup [st ⟨(Lib.cut s.data.toList c.data.toList).1.toArray⟩, st ⟨(Lib.cut s.data.toList c.data.toList).2.1.toArray⟩, bl (Lib.cut s.data.toList c.data.toList).2.2], H) else none
  | _, _ => none
theorem tup3_vr {M : Nat → Prop} {w : World} {ρ : Rho} (a b c : Value) : VR M w ρ (.tup [.v a, .v b, .v c]) (.tuple #[a, b, c]) := by
  refine .tup rfl fun i x u h1 h2 => ?_
  match i, h1, h2 with
  | 0, h1, h2 => cases h1; cases h2; exact .v
  | 1, h1, h2 => cases h1; cases h2; exact .v
  | 2, h1, h2 => cases h1; cases h2; exact .v
  | n + 3, h1, h2 => simp at h1
theorem cut_ok (xs : List AV) (H : Hp) (res : AV) (H' : Hp) (h : cutP xs H = some (res, H')) : Callable Go.Proofs.Tryd.prog 31 ∧
    ∀ (base : Nat) (M : Nat → Prop) (ρ : Rho) (w : World) (vs : Array Value), GW w → gw0 ≤ base → base ≤ w.heap.size → HR base M ρ H w → Args M ρ w xs vs → Calls Go.Proofs.Tryd.prog 31 vs w (Ans base M ρ H w res H') := by
  refine ⟨⟨_, Go.Proofs.Tryd.func31, by kernel_rfl, by kernel_rfl⟩, fun base M ρ w vs hG _ _ hH hA => ?_⟩
  unfold cutP at h
  split at h
  · split at h
    · rename_i s c hc
      cases h
      rw [args_two hA]
      obtain ⟨m, hm⟩ := hG.maxlen
      refine (Go.Proofs.Tryd.strings_Cut s c m w hc hm).mono ?_
      rintro e w' ⟨rfl, n, rfl⟩
      exact below_ans hH (show Go.RowKit.Below w.heap.size w (w.drewN n) from ⟨rfl, rfl, rfl, Nat.le_refl _, fun _ _ => rfl⟩) (tup3_vr _ _ _)
    · cases h
  · cases h
def itoaP : List AV → Hp → Option (AV × Hp)
  | [.v (.int .i64 n)], H => if -9223372036854775808 ≤ n ∧ n ≤ 9223372036854775807 then some (st ⟨(Lib.itoa n).toArray⟩, H) else none
  | _, _ => none
theorem itoa_ok (xs : List AV) (H : Hp) (res : AV) (H' : Hp) (h : itoaP xs H = some (res, H')) : Callable Go.Proofs.Tryd.prog 19 ∧
    ∀ (base : Nat) (M : Nat → Prop) (ρ : Rho) (w : World) (vs : Array Value), GW w → gw0 ≤ base → base ≤ w.heap.size → HR base M ρ H w → Args M ρ w xs vs → Calls Go.Proofs.Tryd.prog 19 vs w (Ans base M ρ H w res H') := by
  refine ⟨⟨_, Go.Proofs.Tryd.func19, by kernel_rfl, by kernel_rfl⟩, fun base M ρ w vs hG _ _ hH hA => ?_⟩
  unfold itoaP at h
  split at h
  · split at h
    · rename_i n hc
      cases h
      obtain ⟨x, rfl, v1⟩ := arg_at hA
      obtain rfl := vr_v v1
      refine (Go.Proofs.Tryd.strconv_Itoa n hc.1 hc.2 w hG.tab).mono ?_
      rintro e w' ⟨rfl, k, os, rfl⟩
      have hb : Go.RowKit.Below w.heap.size w (Go.Sort.grow (w.drewN k) os) := ⟨rfl, rfl, rfl, by simp only [Go.Sort.grow, Array.size_append]; exact Nat.le_add_right _ _, fun i hi => by simp only [Go.Sort.grow]; exact (Array.getElem?_append_left hi)⟩
      exact below_ans hH hb .v
    · cases h
  · cases h
/-- What impl.ParseInt answers: a walk over the library's contracts. -/
structure AsideP (p : Prop) : Prop where mk :: (out : p)
def parseV (l : List UInt8) : Int × Bool := match Lib.atoiAll l with
  | .ok v => if Lib.itoa v = l ∧ -999999 ≤ v ∧ v ≤ 999999 then (v, true) else (0, false)
  | _ => (0, false)
def parseP : List AV → Hp → Option (AV × Hp)
  | [.v (.string s)], H => if s.size ≤ 281474976710656 then some (.tup [i64 (parseV s.data.toList).1, bl (parseV s.data.toList).2], H) else none
  | _, _ => none
theorem atoi_below {w w1 : World} {e : TypeId} (h : w1 = w ∨ ∃ t, w1 = Lib.bytesWorld w e t) : Go.RowKit.Below w.heap.size w w1 := by
  rcases h with rfl | ⟨t, rfl⟩
  · exact Go.RowKit.Below.refl _ _
  · exact Lib.bytesWorld_below _ _ _
theorem gw_below {w w1 : World} (hG : GW w) (h0 : gw0 ≤ w.heap.size) (hb : Go.RowKit.Below w.heap.size w w1) : GW w1 :=
  gw_low.keep w w1 hG (fun g hg => hb.block g (Nat.lt_of_lt_of_le hg h0)) hb.os hb.tape
theorem in_walk (a : Int) (w : World) : Calls Go.Proofs.Tryd.prog 18 #[.int .i64 a, .int .i64 (-999999), .int .i64 999999] w fun e w' => e = .returned (.bool (decide (-999999 ≤ a ∧ a ≤ 999999))) ∧ Go.RowKit.Below w.heap.size w w' := by
  by_cases h1 : -999999 ≤ a
  · have d1 : decide (-999999 ≤ a) = true := decide_eq_true h1
    have d2 : decide (-999999 ≤ a ∧ a ≤ 999999) = decide (a ≤ 999999) := by simp [h1]
    rw [d2]
    clear h1 d2
    go_enter Go.Proofs.Tryd.func18, Go.Proofs.Tryd.ntmps18
    go_wp2
    go_ret
    exact ⟨by first | rfl | simp [*], ⟨rfl, rfl, rfl, Nat.le_refl _, fun _ _ => rfl⟩⟩
  · have d1 : decide (-999999 ≤ a) = false := decide_eq_false h1
    have d2 : decide (-999999 ≤ a ∧ a ≤ 999999) = false := by simp [h1]
    rw [d2]
    clear h1 d2
    go_enter Go.Proofs.Tryd.func18, Go.Proofs.Tryd.ntmps18
    go_wp2
    go_ret
    exact ⟨by first | rfl | simp [*], ⟨rfl, rfl, rfl, Nat.le_refl _, fun _ _ => rfl⟩⟩
theorem itoa_walk (n : Int) (hn : -9223372036854775808 ≤ n ∧ n ≤ 9223372036854775807) (w : World) (hG : GW w) : Calls Go.Proofs.Tryd.prog 19 #[.int .i64 n] w fun e w' => e = .returned (.string ⟨(Lib.itoa n).toArray⟩) ∧ Go.RowKit.Below w.heap.size w w' := by
  refine (Go.Proofs.Tryd.strconv_Itoa n hn.1 hn.2 w hG.tab).mono ?_
  rintro e w' ⟨rfl, k, os, rfl⟩
  exact ⟨rfl, ⟨rfl, rfl, rfl, by simp only [Go.Sort.grow, Array.size_append]; exact Nat.le_add_right _ _, fun i hi => by simp only [Go.Sort.grow]; exact (Array.getElem?_append_left hi)⟩⟩
def ParseEnds (s : ByteArray) (w : World) (e : Ending) (w' : World) : Prop := e = .returned (.tuple #[.int .i64 (parseV s.data.toList).1, .bool (parseV s.data.toList).2]) ∧ Go.RowKit.Below w.heap.size w w'
set_option maxHeartbeats 1600000 in
theorem parse_syntax (s : ByteArray) (hs : s.size ≤ 281474976710656) (h : Lib.atoiAll s.data.toList = Lib.atoiAll []) (w : World) (hG : GW w) : Calls Go.Proofs.Tryd.prog 9 #[.string s] w (ParseEnds s w) := by
  obtain ⟨tp, p, hv⟩ := hG.syn
  have cA := Go.Proofs.Tryd.strconv_Atoi_syntax_var s hs h tp p w hv
  have hp : parseV s.data.toList = (0, false) := by unfold parseV; rw [h]; rfl
  unfold ParseEnds
  rw [hp]
  clear hp h hv hG
  go_enter Go.Proofs.Tryd.func9, Go.Proofs.Tryd.ntmps9
  go_wp2_with (go_at_call 24; go_fit cA; rintro e w1 ⟨N, rfl, hN0, hN, hb⟩)
  go_ret2
  exact ⟨rfl, hb⟩
set_option maxHeartbeats 1600000 in
theorem parse_range (s : ByteArray) (hs : s.size ≤ 281474976710656) (h : Lib.atoiAll s.data.toList = .range) (w : World) (hG : GW w) : Calls Go.Proofs.Tryd.prog 9 #[.string s] w (ParseEnds s w) := by
  obtain ⟨tp, p, hv⟩ := hG.ran
  have cA := Go.Proofs.Tryd.strconv_Atoi_range_var s hs h tp p w hv
  have hp : parseV s.data.toList = (0, false) := by unfold parseV; rw [h]
  unfold ParseEnds
  rw [hp]
  clear hp h hv hG
  go_enter Go.Proofs.Tryd.func9, Go.Proofs.Tryd.ntmps9
  go_wp2_with (go_at_call 24; go_fit cA; rintro e w1 ⟨N, rfl, hN0, hN, hb⟩)
  go_ret2
  exact ⟨rfl, hb⟩
set_option maxHeartbeats 1600000 in
theorem parse_num (s : ByteArray) (hs : s.size ≤ 281474976710656) (v : Int) (h : Lib.atoiAll s.data.toList = .ok v) (w : World) (hG : GW w) (h0 : gw0 ≤ w.heap.size) : Calls Go.Proofs.Tryd.prog 9 #[.string s] w (ParseEnds s w) := by
  have hb := Lib.atoiAll_bounds h
  have cA := Go.Proofs.Tryd.strconv_Atoi_ok s (by omega) v h w
  have cB : ∀ w1, Go.RowKit.Below w.heap.size w w1 → Calls Go.Proofs.Tryd.prog 19 #[.int .i64 v] w1 fun e w' => e = .returned (.string ⟨(Lib.itoa v).toArray⟩) ∧ Go.RowKit.Below w1.heap.size w1 w' := fun w1 hb1 => itoa_walk v hb w1 (gw_below hG h0 hb1)
  have cC := in_walk v
  have hp : parseV s.data.toList = if Lib.itoa v = s.data.toList ∧ -999999 ≤ v ∧ v ≤ 999999 then (v, true) else (0, false) := by unfold parseV; rw [h]
  unfold ParseEnds
  rw [hp]
  have hq : (⟨(Lib.itoa v).toArray⟩ : ByteArray).toList = s.toList ↔ Lib.itoa v = s.data.toList := by
    rw [toList_data, toList_data]
  obtain ⟨s1, hs1⟩ : ∃ s1 : ByteArray, s1 = ⟨(Lib.itoa v).toArray⟩ := ⟨_, rfl⟩
  rw [← hs1] at hq cB
  have cB := AsideP.mk cB
  clear hp h hG h0 hs1 hb
  by_cases e1 : s1.toList = s.toList
  · have e1b : (s1.toList == s.toList) = true := by simpa using e1
    have e1c : (s1.toList != s.toList) = false := by simpa using e1
    have e2 := hq.1 e1
    by_cases e3 : -999999 ≤ v ∧ v ≤ 999999
    · rw [if_pos ⟨e2, e3⟩]
      have d3 : decide (-999999 ≤ v ∧ v ≤ 999999) = true := decide_eq_true e3
      rw [d3] at cC
      clear e1 hq e2 e3 d3
      go_enter Go.Proofs.Tryd.func9, Go.Proofs.Tryd.ntmps9
      go_wp2_with (first | (go_at_call 24; go_fit cA; rintro e w1 ⟨rfl, hw⟩; have hb1 := atoi_below hw; clear hw) | (go_at_call 19; refine (cB.out _ hb1).mono ?_; rintro e w2 ⟨rfl, hb2⟩) | (go_at_call 18; refine (cC _).mono ?_; rintro e w3 ⟨rfl, hb3⟩))
      go_ret2
      exact ⟨rfl, (hb1.trans ⟨hb2.os, hb2.tape, hb2.output, hb2.size, fun k hk => hb2.block k (Nat.lt_of_lt_of_le hk hb1.size)⟩).trans ⟨hb3.os, hb3.tape, hb3.output, hb3.size, fun k hk => hb3.block k (Nat.lt_of_lt_of_le hk (Nat.le_trans hb1.size hb2.size))⟩⟩
    · rw [if_neg (fun hh => e3 hh.2)]
      have d3 : decide (-999999 ≤ v ∧ v ≤ 999999) = false := decide_eq_false e3
      rw [d3] at cC
      clear e1 hq e2 e3 d3
      go_enter Go.Proofs.Tryd.func9, Go.Proofs.Tryd.ntmps9
      go_wp2_with (first | (go_at_call 24; go_fit cA; rintro e w1 ⟨rfl, hw⟩; have hb1 := atoi_below hw; clear hw) | (go_at_call 19; refine (cB.out _ hb1).mono ?_; rintro e w2 ⟨rfl, hb2⟩) | (go_at_call 18; refine (cC _).mono ?_; rintro e w3 ⟨rfl, hb3⟩))
      go_ret2
      exact ⟨rfl, (hb1.trans ⟨hb2.os, hb2.tape, hb2.output, hb2.size, fun k hk => hb2.block k (Nat.lt_of_lt_of_le hk hb1.size)⟩).trans ⟨hb3.os, hb3.tape, hb3.output, hb3.size, fun k hk => hb3.block k (Nat.lt_of_lt_of_le hk (Nat.le_trans hb1.size hb2.size))⟩⟩
  · have e1b : (s1.toList == s.toList) = false := by simpa using e1
    have e1c : (s1.toList != s.toList) = true := by simpa using e1
    rw [if_neg (fun hh => e1 (hq.2 hh.1))]
    clear e1 hq
    go_enter Go.Proofs.Tryd.func9, Go.Proofs.Tryd.ntmps9
    go_wp2_with (first | (go_at_call 24; go_fit cA; rintro e w1 ⟨rfl, hw⟩; have hb1 := atoi_below hw; clear hw) | (go_at_call 19; refine (cB.out _ hb1).mono ?_; rintro e w2 ⟨rfl, hb2⟩) | (go_at_call 18; refine (cC _).mono ?_; rintro e w3 ⟨rfl, hb3⟩))
    go_ret2
    exact ⟨rfl, hb1.trans ⟨hb2.os, hb2.tape, hb2.output, hb2.size, fun k hk => hb2.block k (Nat.lt_of_lt_of_le hk hb1.size)⟩⟩
theorem tup2_vr {M : Nat → Prop} {w : World} {ρ : Rho} (a b : Value) : VR M w ρ (.tup [.v a, .v b]) (.tuple #[a, b]) := by
  refine .tup rfl fun i x u h1 h2 => ?_
  match i, h1, h2 with
  | 0, h1, h2 => cases h1; cases h2; exact .v
  | 1, h1, h2 => cases h1; cases h2; exact .v
  | n + 2, h1, h2 => simp at h1
theorem parse_ok (xs : List AV) (H : Hp) (res : AV) (H' : Hp) (h : parseP xs H = some (res, H')) : Callable Go.Proofs.Tryd.prog 9 ∧
    ∀ (base : Nat) (M : Nat → Prop) (ρ : Rho) (w : World) (vs : Array Value), GW w → gw0 ≤ base → base ≤ w.heap.size → HR base M ρ H w → Args M ρ w xs vs → Calls Go.Proofs.Tryd.prog 9 vs w (Ans base M ρ H w res H') := by
  refine ⟨⟨_, Go.Proofs.Tryd.func9, by kernel_rfl, by kernel_rfl⟩, fun base M ρ w vs hG h0 hB hH hA => ?_⟩
  unfold parseP at h
  split at h
  · split at h
    · rename_i s hc
      cases h
      obtain ⟨x, rfl, v1⟩ := arg_at hA
      obtain rfl := vr_v v1
      have hw : Calls Go.Proofs.Tryd.prog 9 #[.string s] w (ParseEnds s w) := by
        rcases hv : Lib.atoiAll s.data.toList with v | _ | _
        · exact parse_num s hc v hv w hG (Nat.le_trans h0 hB)
        · exact parse_syntax s hc hv w hG
        · exact parse_range s hc hv w hG
      refine hw.mono ?_
      rintro e w' ⟨rfl, hb⟩
      exact below_ans hH hb (tup2_vr _ _)
    · cases h
  · cases h
end Go.Proofs.YtpoifmkgdfjhbaaDoor.Ev
