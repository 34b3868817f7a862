/- What the contracts of Go's library ask of its package variables, as one fact on a world; it lives on wherever old blocks are kept. -/
import Derived.Test.YtoehcdjndnmmlaaDoorShelf
import Derived.Below
import Derived.WalkSmall
import Derived.Sort.Grow
import Derived.Test.YtoehcdjndnmmlaaDoorWWords
set_option linter.unusedVariables false
namespace Go.Proofs.YtoehcdjndnmmlaaDoor
open Go.RowKit
structure Glob (w : World) : Prop where
  tt : True
theorem varK {P : Program} {n : String} {cs : Array Value} {w W : World} (hb : Below w.heap.size w W) (h : w.var? P n = some cs) : W.var? P n = some cs := by
  cases hg : P.globalNamed n with
  | none => unfold World.var? at h; simp [hg] at h
  | some g =>
    refine var?_below hb hg ?_ h
    unfold World.var? at h
    simp only [hg, Option.bind_some] at h
    by_cases hl : g < w.heap.size
    · exact hl
    · rw [Array.getElem?_eq_none (by omega)] at h; cases h
theorem Glob.below {w W : World} (h : Glob w) (hb : Below w.heap.size w W) : Glob W :=
  { tt := by have := hb; exact h.tt }
theorem Glob.drewN {w : World} (h : Glob w) (n : Nat) : Glob (w.drewN n) := h.below (Go.Proofs.YtoehcdjndnmmlaaDoorW.PrintWords.pw_below_drewN (Below.refl _ _) n)
theorem Glob.drew {w : World} (h : Glob w) : Glob w.drew := h.below (Go.Proofs.YtoehcdjndnmmlaaDoorW.PrintWords.below_drew (Below.refl _ _))
theorem grow_below (w : World) (k : Nat) (os : Array Obj) : Below w.heap.size w (Go.Sort.grow (w.drewN k) os) :=
  ⟨rfl, rfl, rfl, by simp only [Go.Sort.grow, Array.size_append]; exact Nat.le_add_right _ _, fun i hi => by simp only [Go.Sort.grow]; exact (Array.getElem?_append_left hi)⟩
theorem one_byte (a : ByteArray) (h : a.size = 1) : ∃ c, a = ⟨#[c]⟩ := by
  obtain ⟨⟨l⟩⟩ := a
  match l, h with
  | [c], _ => exact ⟨c, rfl⟩
end Go.Proofs.YtoehcdjndnmmlaaDoor
