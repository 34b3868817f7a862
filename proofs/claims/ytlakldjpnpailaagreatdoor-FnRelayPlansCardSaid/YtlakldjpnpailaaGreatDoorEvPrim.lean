/- What functions of Go's library answer, as givens of the evaluator; out of the shelf's contracts. -/
import Derived.Test.YtlakldjpnpailaaGreatDoorShelf
import Derived.Test.YtlakldjpnpailaaGreatDoorEvBD
set_option linter.unusedVariables false
set_option linter.unusedSimpArgs false
set_option linter.constructorNameAsVariable false
namespace Go.Proofs.YtlakldjpnpailaaGreatDoor.Ev
/-- What the library's contracts ask of its package variables. -/
structure GW (w : World) : Prop where
  tab : Lib.TabIs Go.Proofs.Tryz.prog w "internal/strconv.uint64pow10" .u64 Lib.pow10Tab
def gw0 : Nat := 1
theorem gw_low : Low gw0 GW where
  keep w w' h hk _ _ := by
    refine ⟨?_⟩
    · have ht := h.tab
      unfold Lib.TabIs World.var? at ht ⊢
      rw [show Go.Proofs.Tryz.prog.globalNamed "internal/strconv.uint64pow10" = some 0 by kernel_rfl] at ht ⊢
      simp only [Option.bind_some] at ht ⊢
      rw [hk 0 (by decide)]
      exact ht
theorem args_at {M : Nat → Prop} {ρ : Rho} {w : World} {a b : AV} {vs : Array Value} (h : Args M ρ w [a, b] vs) : ∃ x y, vs = #[x, y] ∧ VR M w ρ a x ∧ VR M w ρ b y := by
  obtain ⟨h1, h2⟩ := h
  obtain ⟨l⟩ := vs
  match l, h1, h2 with
  | [x, y], _, h2 => exact ⟨x, y, rfl, h2 0 _ _ rfl rfl, h2 1 _ _ rfl rfl⟩
theorem arg_at {M : Nat → Prop} {ρ : Rho} {w : World} {a : AV} {vs : Array Value} (h : Args M ρ w [a] vs) : ∃ x, vs = #[x] ∧ VR M w ρ a x := by
  obtain ⟨h1, h2⟩ := h
  obtain ⟨l⟩ := vs
  match l, h1, h2 with
  | [x], _, h2 => exact ⟨x, rfl, h2 0 _ _ rfl rfl⟩
def strsOf : List AV → Option (List ByteArray)
  | [] => some []
  | .v (.string s) :: r => (strsOf r).bind fun l => some (s :: l)
  | _ :: _ => none
@[simp] theorem strsOf_map : ∀ l : List ByteArray, strsOf (l.map st) = some l
  | [] => rfl
  | s :: r => by rw [List.map_cons, strsOf, strsOf_map r]; rfl
theorem strsOf_some : ∀ {xs : List AV} {l : List ByteArray}, strsOf xs = some l → xs = l.map st
  | [], l, h => by cases h; rfl
  | a :: r, l, h => by
    unfold strsOf at h
    split at h
    · rename_i h0; cases h0
    · rename_i s r' h0
      cases h0
      obtain ⟨l', h1, h2⟩ := bind_iff.1 h
      cases h2
      rw [strsOf_some h1]
      rfl
    · cases h
/-- A row of texts in memory. -/
theorem row_texts {M : Nat → Prop} {ρ : Rho} {w : World} {l : List ByteArray} {v : Value} (h : VR M w ρ (.lst 1 (l.map st)) v) : ∃ A cap, v = .slice A l.length cap ∧ l.length ≤ cap ∧ (l ≠ [] → ∃ bk o, A = some ⟨bk, o, none⟩ ∧ M bk ∧ ∀ (j : Nat) x, l[j]? = some x → w.cell? ⟨bk, o + j, none⟩ = some (.string x)) := by
  cases h with
  | @lst _ _ _ A cap U hc ha hk hm hr =>
    rw [List.length_map] at hc
    refine ⟨A, cap, by rw [List.length_map], hc, fun hne => ?_⟩
    obtain ⟨a, rfl, hs, hM⟩ := ha (by simpa using hne)
    obtain ⟨bk, o, sp⟩ := a
    cases hs
    refine ⟨bk, o, rfl, hM, fun j x hx => ?_⟩
    have hx' : (l.map st)[j]? = some (st x) := by rw [List.getElem?_map, hx]; rfl
    have h1 := hm _ rfl j (st x) 0 (st x) hx' rfl
    have h2 := hr j (st x) 0 (st x) hx' rfl
    rw [Nat.mul_one, Nat.add_zero] at h1
    rw [vr_v h2] at h1
    exact h1.1
def itoaP : List AV → Hp → Option (AV × Hp)
  | [.v (.int .i64 n)], H => if -9223372036854775808 ≤ n ∧ n ≤ 9223372036854775807 then some (st ⟨(Lib.itoa n).toArray⟩, H) else none
  | _, _ => none
theorem itoa_ok (xs : List AV) (H : Hp) (res : AV) (H' : Hp) (h : itoaP xs H = some (res, H')) : Callable Go.Proofs.Tryz.prog 39 ∧
    ∀ (base : Nat) (M : Nat → Prop) (ρ : Rho) (w : World) (vs : Array Value), GW w → gw0 ≤ base → base ≤ w.heap.size → HR base M ρ H w → Args M ρ w xs vs → Calls Go.Proofs.Tryz.prog 39 vs w (Ans base M ρ H w res H') := by
  refine ⟨⟨_, Go.Proofs.Tryz.func39, by kernel_rfl, by kernel_rfl⟩, fun base M ρ w vs hG _ _ hH hA => ?_⟩
  unfold itoaP at h
  split at h
  · split at h
    · rename_i n hc
      cases h
      obtain ⟨x, rfl, v1⟩ := arg_at hA
      obtain rfl := vr_v v1
      refine (Go.Proofs.Tryz.strconv_Itoa n hc.1 hc.2 w hG.tab).mono ?_
      rintro e w' ⟨rfl, k, os, rfl⟩
      have hb : Go.RowKit.Below w.heap.size w (Go.Sort.grow (w.drewN k) os) := ⟨rfl, rfl, rfl, by simp only [Go.Sort.grow, Array.size_append]; exact Nat.le_add_right _ _, fun i hi => by simp only [Go.Sort.grow]; exact (Array.getElem?_append_left hi)⟩
      exact below_ans hH hb .v
    · cases h
  · cases h
def joinB (l : List ByteArray) (c : ByteArray) : List UInt8 := Lib.join (l.map (·.data.toList)) c.data.toList
def joinQ (c : ByteArray) (H : Hp) : Option (List ByteArray) → Option (AV × Hp)
  | none => none
  | some l => if l.length ≤ 140737488355328 ∧ (joinB l c).length ≤ 140737488355328 then some (st ⟨(joinB l c).toArray⟩, H) else none
def joinP : List AV → Hp → Option (AV × Hp)
  | [.lst 1 xs, .v (.string c)], H => joinQ c H (strsOf xs)
  | _, _ => none
theorem join_ok (xs : List AV) (H : Hp) (res : AV) (H' : Hp) (h : joinP xs H = some (res, H')) : Callable Go.Proofs.Tryz.prog 41 ∧
    ∀ (base : Nat) (M : Nat → Prop) (ρ : Rho) (w : World) (vs : Array Value), GW w → gw0 ≤ base → base ≤ w.heap.size → HR base M ρ H w → Args M ρ w xs vs → Calls Go.Proofs.Tryz.prog 41 vs w (Ans base M ρ H w res H') := by
  refine ⟨⟨_, Go.Proofs.Tryz.func41, by kernel_rfl, by kernel_rfl⟩, fun base M ρ w vs _ _ _ hH hA => ?_⟩
  unfold joinP at h
  split at h
  · rename_i xs c
    cases hq : strsOf xs with
    | none => rw [hq] at h; cases h
    | some l =>
      rw [hq] at h
      obtain rfl := strsOf_some hq
      unfold joinQ at h
      simp only at h
      split at h
      · rename_i hc
        cases h
        obtain ⟨x, y, rfl, v1, v2⟩ := args_at hA
        obtain rfl := vr_v v2
        obtain ⟨A, cap, rfl, hcap, hcell⟩ := row_texts v1
        by_cases hl : l = []
        · subst hl
          refine (Go.Proofs.Tryz.strings_Join_none A cap c w).mono ?_
          rintro e w' ⟨rfl, hw⟩
          rw [hw]
          exact below_ans hH ⟨rfl, rfl, rfl, Nat.le_refl _, fun _ _ => rfl⟩ .v
        · obtain ⟨bk, o, rfl, hM, hx⟩ := hcell hl
          refine (Go.Proofs.Tryz.strings_Join bk o cap l c w hx (hH.mlt _ hM) hc.1 hcap hc.2).mono ?_
          rintro e w' ⟨rfl, hb⟩
          exact below_ans hH hb .v
      · cases h
  · cases h
end Go.Proofs.YtlakldjpnpailaaGreatDoor.Ev
