/- What the contracts of Go's library ask of its package variables, as one fact on a world; it lives on wherever old blocks are kept. -/
import Derived.Test.YtpknehbhbiofaaaDoorShelf
import Derived.Below
import Derived.WalkSmall
import Derived.Sort.Grow
import Derived.Test.YtpknehbhbiofaaaDoorWWords
set_option linter.unusedVariables false
namespace Go.Proofs.YtpknehbhbiofaaaDoor
open Go.RowKit
structure Glob (w : World) : Prop where
  maxlen : ∃ m, w.cell? ⟨2, 0, none⟩ = some (.int .i64 m)
  tab : Lib.TabIs Tryd.prog w "internal/strconv.uint64pow10" .u64 Lib.pow10Tab
theorem varK {P : Program} {n : String} {cs : Array Value} {w W : World} (hb : Below w.heap.size w W) (h : w.var? P n = some cs) : W.var? P n = some cs := by
  cases hg : P.globalNamed n with
  | none => unfold World.var? at h; simp [hg] at h
  | some g =>
    refine var?_below hb hg ?_ h
    unfold World.var? at h
    simp only [hg, Option.bind_some] at h
    by_cases hl : g < w.heap.size
    · exact hl
    · rw [Array.getElem?_eq_none (by omega)] at h; cases h
theorem Glob.below {w W : World} (h : Glob w) (hb : Below w.heap.size w W) : Glob W :=
  { maxlen := by
      obtain ⟨m, hm⟩ := h.maxlen
      exact ⟨m, (hb.cell (World.block_lt_of_cell? w _ hm)).trans hm⟩
    tab := varK hb h.tab }
theorem Glob.drewN {w : World} (h : Glob w) (n : Nat) : Glob (w.drewN n) := h.below (Go.Proofs.YtpknehbhbiofaaaDoorW.PrintWords.pw_below_drewN (Below.refl _ _) n)
theorem Glob.drew {w : World} (h : Glob w) : Glob w.drew := h.below (Go.Proofs.YtpknehbhbiofaaaDoorW.PrintWords.below_drew (Below.refl _ _))
theorem grow_below (w : World) (k : Nat) (os : Array Obj) : Below w.heap.size w (Go.Sort.grow (w.drewN k) os) :=
  ⟨rfl, rfl, rfl, by simp only [Go.Sort.grow, Array.size_append]; exact Nat.le_add_right _ _, fun i hi => by simp only [Go.Sort.grow]; exact (Array.getElem?_append_left hi)⟩
theorem one_byte (a : ByteArray) (h : a.size = 1) : ∃ c, a = ⟨#[c]⟩ := by
  obtain ⟨⟨l⟩⟩ := a
  match l, h with
  | [c], _ => exact ⟨c, rfl⟩
structure GlobS (w : World) : Prop extends Glob w where
  syn : ∃ tp p, w.var? Tryd.prog "strconv.ErrSyntax" = some #[.iface tp p]
  ran : ∃ tp p, w.var? Tryd.prog "strconv.ErrRange" = some #[.iface tp p]
theorem GlobS.below {w W : World} (h : GlobS w) (hb : Below w.heap.size w W) : GlobS W :=
  { h.toGlob.below hb with
    syn := by
      obtain ⟨tp, p, hv⟩ := h.syn
      exact ⟨tp, p, varK hb hv⟩
    ran := by
      obtain ⟨tp, p, hv⟩ := h.ran
      exact ⟨tp, p, varK hb hv⟩ }
theorem GlobS.drewN {w : World} (h : GlobS w) (n : Nat) : GlobS (w.drewN n) := h.below (Go.Proofs.YtpknehbhbiofaaaDoorW.PrintWords.pw_below_drewN (Below.refl _ _) n)
theorem GlobS.drew {w : World} (h : GlobS w) : GlobS w.drew := h.below (Go.Proofs.YtpknehbhbiofaaaDoorW.PrintWords.below_drew (Below.refl _ _))
end Go.Proofs.YtpknehbhbiofaaaDoor
