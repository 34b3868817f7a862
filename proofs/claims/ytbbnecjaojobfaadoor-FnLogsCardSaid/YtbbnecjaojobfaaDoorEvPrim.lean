/- What functions of Go's library answer, as givens of the evaluator; out of the shelf's contracts. -/
import Derived.Test.YtbbnecjaojobfaaDoorShelf
import Derived.Test.YtbbnecjaojobfaaDoorEvOpen
set_option linter.unusedVariables false
set_option linter.unusedSimpArgs false
set_option linter.constructorNameAsVariable false
namespace Go.Proofs.YtbbnecjaojobfaaDoor.Ev
/-- What the library's contracts ask of its package variables. -/
structure GW (w : World) : Prop where
  maxlen : ∃ m, w.cell? ⟨2, 0, none⟩ = some (.int .i64 m)
  tab : Lib.TabIs Go.Proofs.Tryd.prog w "internal/strconv.uint64pow10" .u64 Lib.pow10Tab
def gw0 : Nat := 4
theorem gw_low : Low gw0 GW where
  keep w w' h hk _ _ := by
    refine ⟨?_, ?_⟩
    · obtain ⟨m, hm⟩ := h.maxlen
      exact ⟨m, (World.cell?_of_block (hk 2 (by decide))).trans hm⟩
    · have ht := h.tab
      unfold Lib.TabIs World.var? at ht ⊢
      rw [show Go.Proofs.Tryd.prog.globalNamed "internal/strconv.uint64pow10" = some 3 by kernel_rfl] at ht ⊢
      simp only [Option.bind_some] at ht ⊢
      rw [hk 3 (by decide)]
      exact ht
theorem args_at {M : Nat → Prop} {ρ : Rho} {w : World} {a b : AV} {vs : Array Value} (h : Args M ρ w [a, b] vs) : ∃ x y, vs = #[x, y] ∧ VR M w ρ a x ∧ VR M w ρ b y := by
  obtain ⟨h1, h2⟩ := h
  obtain ⟨l⟩ := vs
  match l, h1, h2 with
  | [x, y], _, h2 => exact ⟨x, y, rfl, h2 0 _ _ rfl rfl, h2 1 _ _ rfl rfl⟩
theorem arg_at {M : Nat → Prop} {ρ : Rho} {w : World} {a : AV} {vs : Array Value} (h : Args M ρ w [a] vs) : ∃ x, vs = #[x] ∧ VR M w ρ a x := by
  obtain ⟨h1, h2⟩ := h
  obtain ⟨l⟩ := vs
  match l, h1, h2 with
  | [x], _, h2 => exact ⟨x, rfl, h2 0 _ _ rfl rfl⟩
def strsOf : List AV → Option (List ByteArray)
  | [] => some []
  | .v (.string s) :: r => (strsOf r).bind fun l => some (s :: l)
  | _ :: _ => none
@[simp] theorem strsOf_map : ∀ l : List ByteArray, strsOf (l.map st) = some l
  | [] => rfl
  | s :: r => by rw [List.map_cons, strsOf, strsOf_map r]; rfl
theorem strsOf_some : ∀ {xs : List AV} {l : List ByteArray}, strsOf xs = some l → xs = l.map st
  | [], l, h => by cases h; rfl
  | a :: r, l, h => by
    unfold strsOf at h
    split at h
    · rename_i h0; cases h0
    · rename_i s r' h0
      cases h0
      obtain ⟨l', h1, h2⟩ := bind_iff.1 h
      cases h2
      rw [strsOf_some h1]
      rfl
    · cases h
/-- A row of texts in memory. -/
theorem row_texts {M : Nat → Prop} {ρ : Rho} {w : World} {l : List ByteArray} {v : Value} (h : VR M w ρ (.lst 1 (l.map st)) v) : ∃ A cap, v = .slice A l.length cap ∧ l.length ≤ cap ∧ (l ≠ [] → ∃ bk o, A = some ⟨bk, o, none⟩ ∧ M bk ∧ ∀ (j : Nat) x, l[j]? = some x → w.cell? ⟨bk, o + j, none⟩ = some (.string x)) := by
  cases h with
  | @lst _ _ _ A cap U hc ha hk hm hr =>
    rw [List.length_map] at hc
    refine ⟨A, cap, by rw [List.length_map], hc, fun hne => ?_⟩
    obtain ⟨a, rfl, hs, hM⟩ := ha (by simpa using hne)
    obtain ⟨bk, o, sp⟩ := a
    cases hs
    refine ⟨bk, o, rfl, hM, fun j x hx => ?_⟩
    have hx' : (l.map st)[j]? = some (st x) := by rw [List.getElem?_map, hx]; rfl
    have h1 := hm _ rfl j (st x) 0 (st x) hx' rfl
    have h2 := hr j (st x) 0 (st x) hx' rfl
    rw [Nat.mul_one, Nat.add_zero] at h1
    rw [vr_v h2] at h1
    exact h1.1
def cutP : List AV → Hp → Option (AV × Hp)
  | [.v (.string s), .v (.string c)], H => if s.size < 4294967281 then some (.tup [st ⟨(Lib.cut s.data.toList c.data.toList).1.toArray⟩, st ⟨(Lib.cut s.data.toList c.data.toList).2.1.toArray⟩, bl (Lib.cut s.data.toList c.data.toList).2.2], H) else none
  | _, _ => none
theorem tup3_vr {M : Nat → Prop} {w : World} {ρ : Rho} (a b c : Value) : VR M w ρ (.tup [.v a, .v b, .v c]) (.tuple #[a, b, c]) := by
  refine .tup rfl fun i x u h1 h2 => ?_
  match i, h1, h2 with
  | 0, h1, h2 => cases h1; cases h2; exact .v
  | 1, h1, h2 => cases h1; cases h2; exact .v
  | 2, h1, h2 => cases h1; cases h2; exact .v
  | n + 3, h1, h2 => simp at h1
theorem cut_ok (xs : List AV) (H : Hp) (res : AV) (H' : Hp) (h : cutP xs H = some (res, H')) : Callable Go.Proofs.Tryd.prog 71 ∧
    ∀ (base : Nat) (M : Nat → Prop) (ρ : Rho) (w : World) (vs : Array Value), GW w → gw0 ≤ base → base ≤ w.heap.size → HR base M ρ H w → Args M ρ w xs vs → Calls Go.Proofs.Tryd.prog 71 vs w (Ans base M ρ H w res H') := by
  refine ⟨⟨_, Go.Proofs.Tryd.func71, by kernel_rfl, by kernel_rfl⟩, fun base M ρ w vs hG _ _ hH hA => ?_⟩
  unfold cutP at h
  split at h
  · split at h
    · rename_i s c hc
      cases h
      rw [args_two hA]
      obtain ⟨m, hm⟩ := hG.maxlen
      refine (Go.Proofs.Tryd.strings_Cut s c m w hc hm).mono ?_
      rintro e w' ⟨rfl, n, rfl⟩
      exact below_ans hH (show Go.RowKit.Below w.heap.size w (w.drewN n) from ⟨rfl, rfl, rfl, Nat.le_refl _, fun _ _ => rfl⟩) (tup3_vr _ _ _)
    · cases h
  · cases h
def itoaP : List AV → Hp → Option (AV × Hp)
  | [.v (.int .i64 n)], H => if -9223372036854775808 ≤ n ∧ n ≤ 9223372036854775807 then some (st ⟨(Lib.itoa n).toArray⟩, H) else none
  | _, _ => none
theorem itoa_ok (xs : List AV) (H : Hp) (res : AV) (H' : Hp) (h : itoaP xs H = some (res, H')) : Callable Go.Proofs.Tryd.prog 50 ∧
    ∀ (base : Nat) (M : Nat → Prop) (ρ : Rho) (w : World) (vs : Array Value), GW w → gw0 ≤ base → base ≤ w.heap.size → HR base M ρ H w → Args M ρ w xs vs → Calls Go.Proofs.Tryd.prog 50 vs w (Ans base M ρ H w res H') := by
  refine ⟨⟨_, Go.Proofs.Tryd.func50, by kernel_rfl, by kernel_rfl⟩, fun base M ρ w vs hG _ _ hH hA => ?_⟩
  unfold itoaP at h
  split at h
  · split at h
    · rename_i n hc
      cases h
      obtain ⟨x, rfl, v1⟩ := arg_at hA
      obtain rfl := vr_v v1
      refine (Go.Proofs.Tryd.strconv_Itoa n hc.1 hc.2 w hG.tab).mono ?_
      rintro e w' ⟨rfl, k, os, rfl⟩
      have hb : Go.RowKit.Below w.heap.size w (Go.Sort.grow (w.drewN k) os) := ⟨rfl, rfl, rfl, by simp only [Go.Sort.grow, Array.size_append]; exact Nat.le_add_right _ _, fun i hi => by simp only [Go.Sort.grow]; exact (Array.getElem?_append_left hi)⟩
      exact below_ans hH hb .v
    · cases h
  · cases h
def containsP : List AV → Hp → Option (AV × Hp)
  | [.v (.string s), .v (.string c)], H => if c.size = 1 then some (bl (decide (0 ≤ Lib.indexByte s.data.toList (c.data.toList.headD 0))), H) else none
  | _, _ => none
theorem one_byte (a : ByteArray) (h : a.size = 1) : ∃ c, a = ⟨#[c]⟩ := by
  obtain ⟨⟨l⟩⟩ := a
  match l, h with
  | [c], _ => exact ⟨c, rfl⟩
theorem contains_ok (xs : List AV) (H : Hp) (res : AV) (H' : Hp) (h : containsP xs H = some (res, H')) : Callable Go.Proofs.Tryd.prog 68 ∧
    ∀ (base : Nat) (M : Nat → Prop) (ρ : Rho) (w : World) (vs : Array Value), GW w → gw0 ≤ base → base ≤ w.heap.size → HR base M ρ H w → Args M ρ w xs vs → Calls Go.Proofs.Tryd.prog 68 vs w (Ans base M ρ H w res H') := by
  refine ⟨⟨_, Go.Proofs.Tryd.func68, by kernel_rfl, by kernel_rfl⟩, fun base M ρ w vs hG _ _ hH hA => ?_⟩
  unfold containsP at h
  split at h
  · split at h
    · rename_i s c hc
      cases h
      rw [args_two hA]
      obtain ⟨c, rfl⟩ := one_byte c hc
      refine (Go.Proofs.Tryd.strings_Contains_one s c w).mono ?_
      rintro e w' ⟨rfl, rfl⟩
      exact below_ans hH ⟨rfl, rfl, rfl, Nat.le_refl _, fun _ _ => rfl⟩ .v
    · cases h
  · cases h
def indexbyteP : List AV → Hp → Option (AV × Hp)
  | [.v (.string s), .v (.int .u8 c)], H => some (i64 (Lib.indexByte s.data.toList c.toNat.toUInt8), H)
  | _, _ => none
theorem indexbyte_ok (xs : List AV) (H : Hp) (res : AV) (H' : Hp) (h : indexbyteP xs H = some (res, H')) : Callable Go.Proofs.Tryd.prog 75 ∧
    ∀ (base : Nat) (M : Nat → Prop) (ρ : Rho) (w : World) (vs : Array Value), GW w → gw0 ≤ base → base ≤ w.heap.size → HR base M ρ H w → Args M ρ w xs vs → Calls Go.Proofs.Tryd.prog 75 vs w (Ans base M ρ H w res H') := by
  refine ⟨⟨_, Go.Proofs.Tryd.func75, by kernel_rfl, by kernel_rfl⟩, fun base M ρ w vs hG _ _ hH hA => ?_⟩
  unfold indexbyteP at h
  split at h
  · rename_i s c
    cases h
    rw [args_two hA]
    refine (Go.Proofs.Tryd.strings_IndexByte s c w).mono ?_
    rintro e w' ⟨rfl, rfl⟩
    exact below_ans hH ⟨rfl, rfl, rfl, Nat.le_refl _, fun _ _ => rfl⟩ .v
  · cases h
end Go.Proofs.YtbbnecjaojobfaaDoor.Ev
