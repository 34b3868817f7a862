/- What functions of Go's library answer, as givens of the evaluator; out of the shelf's contracts. -/
import Derived.Test.YtkdfgjijmnaljaaDoorShelf
import Derived.Test.YtkdfgjijmnaljaaDoorEvBD
import Derived.Shelf.Strings.SlTrimAscii
set_option linter.unusedVariables false
set_option linter.unusedSimpArgs false
set_option linter.constructorNameAsVariable false
namespace Go.Proofs.YtkdfgjijmnaljaaDoor.Ev
/-- What the library's contracts ask of its package variables. -/
structure GW (w : World) : Prop where
  tt : True
def gw0 : Nat := 0
theorem gw_low : Low gw0 GW where
  keep w w' h hk _ _ := by
    refine ⟨?_⟩
    · trivial
theorem args_at {M : Nat → Prop} {ρ : Rho} {w : World} {a b : AV} {vs : Array Value} (h : Args M ρ w [a, b] vs) : ∃ x y, vs = #[x, y] ∧ VR M w ρ a x ∧ VR M w ρ b y := by
  obtain ⟨h1, h2⟩ := h
  obtain ⟨l⟩ := vs
  match l, h1, h2 with
  | [x, y], _, h2 => exact ⟨x, y, rfl, h2 0 _ _ rfl rfl, h2 1 _ _ rfl rfl⟩
theorem arg_at {M : Nat → Prop} {ρ : Rho} {w : World} {a : AV} {vs : Array Value} (h : Args M ρ w [a] vs) : ∃ x, vs = #[x] ∧ VR M w ρ a x := by
  obtain ⟨h1, h2⟩ := h
  obtain ⟨l⟩ := vs
  match l, h1, h2 with
  | [x], _, h2 => exact ⟨x, rfl, h2 0 _ _ rfl rfl⟩
def strsOf : List AV → Option (List ByteArray)
  | [] => some []
  | .v (.string s) :: r => (strsOf r).bind fun l => some (s :: l)
  | _ :: _ => none
@[simp] theorem strsOf_map : ∀ l : List ByteArray, strsOf (l.map st) = some l
  | [] => rfl
  | s :: r => by rw [List.map_cons, strsOf, strsOf_map r]; rfl
theorem strsOf_some : ∀ {xs : List AV} {l : List ByteArray}, strsOf xs = some l → xs = l.map st
  | [], l, h => by cases h; rfl
  | a :: r, l, h => by
    unfold strsOf at h
    split at h
    · rename_i h0; cases h0
    · rename_i s r' h0
      cases h0
      obtain ⟨l', h1, h2⟩ := bind_iff.1 h
      cases h2
      rw [strsOf_some h1]
      rfl
    · cases h
/-- A row of texts in memory. -/
theorem row_texts {M : Nat → Prop} {ρ : Rho} {w : World} {l : List ByteArray} {v : Value} (h : VR M w ρ (.lst 1 (l.map st)) v) : ∃ A cap, v = .slice A l.length cap ∧ l.length ≤ cap ∧ (l ≠ [] → ∃ bk o, A = some ⟨bk, o, none⟩ ∧ M bk ∧ ∀ (j : Nat) x, l[j]? = some x → w.cell? ⟨bk, o + j, none⟩ = some (.string x)) := by
  cases h with
  | @lst _ _ _ A cap U hc ha hk hm hr =>
    rw [List.length_map] at hc
    refine ⟨A, cap, by rw [List.length_map], hc, fun hne => ?_⟩
    obtain ⟨a, rfl, hs, hM⟩ := ha (by simpa using hne)
    obtain ⟨bk, o, sp⟩ := a
    cases hs
    refine ⟨bk, o, rfl, hM, fun j x hx => ?_⟩
    have hx' : (l.map st)[j]? = some (st x) := by rw [List.getElem?_map, hx]; rfl
    have h1 := hm _ rfl j (st x) 0 (st x) hx' rfl
    have h2 := hr j (st x) 0 (st x) hx' rfl
    rw [Nat.mul_one, Nat.add_zero] at h1
    rw [vr_v h2] at h1
    exact h1.1
def trimP : List AV → Hp → Option (AV × Hp)
  | [.v (.string s), .v (.string c)], H => if s.size ≤ 9223372036854775807 ∧ c.size < 4294967281 ∧ c.data.toList.all (fun b => decide (b.toNat < 128)) = true then some (st ⟨(Lib.trimS s.data.toList c.data.toList).toArray⟩, H) else none
  | _, _ => none
theorem ascii_all {l : List UInt8} (h : l.all (fun b => decide (b.toNat < 128)) = true) : ∀ (j : Nat) (b : UInt8), l[j]? = some b → b.toNat < 128 := by
  intro j b hb
  simpa using List.all_eq_true.1 h b (List.mem_of_getElem? hb)
theorem trim_ok (xs : List AV) (H : Hp) (res : AV) (H' : Hp) (h : trimP xs H = some (res, H')) : Callable Go.Proofs.Tryd.prog 76 ∧
    ∀ (base : Nat) (M : Nat → Prop) (ρ : Rho) (w : World) (vs : Array Value), GW w → gw0 ≤ base → base ≤ w.heap.size → HR base M ρ H w → Args M ρ w xs vs → Calls Go.Proofs.Tryd.prog 76 vs w (Ans base M ρ H w res H') := by
  refine ⟨⟨_, Go.Proofs.Tryd.func76, by kernel_rfl, by kernel_rfl⟩, fun base M ρ w vs _ _ _ hH hA => ?_⟩
  unfold trimP at h
  split at h
  · split at h
    · rename_i s c hc
      cases h
      rw [args_two hA]
      refine (Any.strings_Trim_laid Go.Proofs.Tryd.lays160 (by kernel_rfl) s c w hc.1 hc.2.1 (ascii_all hc.2.2)).mono ?_
      rintro e w' ⟨rfl, hb⟩
      exact below_ans hH hb .v
    · cases h
  · cases h
end Go.Proofs.YtkdfgjijmnaljaaDoor.Ev
