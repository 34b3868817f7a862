/- Reading of arguments in the words of the print: what a value of a type reads as, type by type ('Opens'); of no program. -/
import Derived.WalkKit
import Derived.ProofKit
import Derived.OpenShut
import Derived.ChangeArms
import Derived.Lib.LaidTab
import Derived.DataElems
import Derived.Test.YtoehcdjndnmmlaaDoorWWords
set_option linter.unusedVariables false
namespace Go.Proofs.YtoehcdjndnmmlaaDoor.Open
open Go.RowKit Go.WideShapes Go.Proofs.YtoehcdjndnmmlaaDoorW.PrintWords
/-- Cells that read as data of type 't' are the print's cells of some value of kind 'd', with 'B' on it. -/
def Opens {H : Type} (enc : TypeId × Value → H) (P : Program) (w : World) (base : Nat) (spare : Nat → Bool) (held : Bool) {α : Type} (t : TypeId) (d : Kd α) (B : α → Prop) : Prop :=
  ∀ (n : Nat) (cs : List Value) (y : DataW H × List MemPlace), DataW.trod enc P w base spare held n t cs = some y → ∃ x, d.K w x cs ∧ B x
section
variable {H : Type} {enc : TypeId × Value → H} {P : Program} {w : World} {base : Nat} {spare : Nat → Bool} {held : Bool}
theorem opens_string {t : TypeId} (ht : P.underlying t = some .string) : Opens enc P w base spare held t Kd.string (fun s => s.size ≤ maxLen) := by
  intro n cs y h
  obtain ⟨s, rfl, _, hs⟩ := DataW.trod_string ht h
  exact ⟨s, rfl, hs⟩
theorem opens_int {t : TypeId} {k : IntKind} (ht : P.underlying t = some (.int k)) : Opens enc P w base spare held t (Kd.int k) (fun z => (Lit.int k z).wf = true) := by
  intro n cs y h
  obtain ⟨z, rfl, _, hz⟩ := DataW.trod_int ht h
  exact ⟨z, rfl, hz⟩
theorem opens_bool {t : TypeId} (ht : P.underlying t = some .bool) : Opens enc P w base spare held t Kd.bool (fun _ => True) := by
  intro n cs y h
  obtain ⟨b, rfl, _⟩ := DataW.trod_bool ht h
  exact ⟨b, rfl, trivial⟩
theorem cells?_get {a : Addr} {n : Nat} {cs : List Value} (h : w.cells? base a n = some cs) : cs.length = n ∧ ∀ i u, cs[i]? = some u → w.cell? (a.add i) = some u := by
  unfold World.cells? at h
  split at h
  · have hl := Go.Lib.mapM_length h
    rw [List.length_range] at hl
    refine ⟨hl, fun i u hu => ?_⟩
    have hi : i < n := by
      have := (List.getElem?_eq_some_iff.1 hu).1
      omega
    obtain ⟨b, hb, hf⟩ := Go.Lib.mapM_at h i i (by rw [List.getElem?_range hi])
    rw [hu] at hb
    cases hb
    exact hf
  · cases h
/-- A list of witnesses out of each place's own. -/
theorem collect {α β : Type} (Q : α → β → Prop) : ∀ (l : List α), (∀ a ∈ l, ∃ b, Q a b) → ∃ r : List β, r.length = l.length ∧ ∀ (i : Nat) (a : α) (b : β), l[i]? = some a → r[i]? = some b → Q a b
  | [], _ => ⟨[], rfl, fun i a b h => by simp at h⟩
  | a :: l, h => by
    obtain ⟨b, hb⟩ := h a (List.mem_cons_self ..)
    obtain ⟨r, hr, hq⟩ := collect Q l fun x hx => h x (List.mem_cons_of_mem _ hx)
    refine ⟨b :: r, by simp [hr], fun i x y hx hy => ?_⟩
    cases i with
    | zero => simp at hx hy; subst hx; subst hy; exact hb
    | succ i => exact hq i x y (by simpa using hx) (by simpa using hy)
theorem opens_slice {α : Type} {t e : TypeId} {d : Kd α} {B : α → Prop} (ht : P.underlying t = some (.slice e)) (hsz : P.cellsOf e = d.sz) (he : Opens enc P w base spare held e d B) :
    Opens enc P w base spare held t (Kd.slice e d) (fun xs => xs.length ≤ maxLen ∧ ∀ x ∈ xs, B x) := by
  intro n cs y h
  rcases DataW.trod_slice ht h with ⟨rfl, _⟩ | ⟨a, len, cap, elems, rest, n, _, rfl, _, hb, hl, hm, hlen, hel, _, _⟩
  · exact ⟨[], ⟨none, 0, rfl, Nat.le_refl _, Kd.C_nil _ _⟩, by simp, by simp⟩
  · have each : ∀ i ∈ List.range len, ∃ x : α, ∃ c, w.cells? base (a.add (i * P.cellsOf e)) (P.cellsOf e) = some c ∧ d.K w x c ∧ B x := by
      intro i hi
      have hi := List.mem_range.1 hi
      have h1 := hel i hi
      rw [List.getElem?_eq_getElem (by omega)] at h1
      obtain ⟨c, hc, h2⟩ := Option.bind_eq_some_iff.1 h1
      obtain ⟨x, hK, hB⟩ := he _ _ _ h2
      exact ⟨x, c, hc, hK, hB⟩
    obtain ⟨xs, hxl, hx⟩ := collect (fun i x => ∃ c, w.cells? base (a.add (i * P.cellsOf e)) (P.cellsOf e) = some c ∧ d.K w x c ∧ B x) (List.range len) each
    rw [List.length_range] at hxl
    have at_ : ∀ (i : Nat) (x : α), xs[i]? = some x → ∃ c, w.cells? base (a.add (i * P.cellsOf e)) (P.cellsOf e) = some c ∧ d.K w x c ∧ B x := by
      intro i x hi
      have : i < len := by
        have := (List.getElem?_eq_some_iff.1 hi).1
        omega
      exact hx i i x (by rw [List.getElem?_range this]) hi
    refine ⟨xs, ⟨some a, cap, by rw [hxl], by omega, rfl, by rw [hxl]; unfold maxLen at hm; omega, fun _ => ⟨a, rfl, fun j p hp => ?_⟩⟩, by omega, fun x hx' => ?_⟩
    · obtain ⟨c, hc, hK, _⟩ := at_ j p hp
      obtain ⟨h1, h2⟩ := cells?_get hc
      refine ⟨c, by rw [h1, hsz], hK, fun i u hu => ?_⟩
      have := h2 i u hu
      rw [hsz] at this
      rw [Addr.add_add] at this
      exact this
    · obtain ⟨i, hi, rfl⟩ := List.mem_iff_getElem.1 hx'
      obtain ⟨_, _, _, hB⟩ := at_ i _ (List.getElem?_eq_getElem hi)
      exact hB
/-- A struct's cells, field by field. -/
theorem fields_of {t : TypeId} {fs : Array Field} {n : Nat} {cs : List Value} {y : DataW H × List MemPlace} (ht : P.underlying t = some (.struct fs)) (h : DataW.trod enc P w base spare held n t cs = some y) :
    cs.length = P.cellsOf t ∧ ∃ m, ∀ (i : Nat) (f : Field), fs[i]? = some f → ∃ z, DataW.trod enc P w base spare held m f.type ((cs.drop f.offset).take (P.cellsOf f.type)) = some z := by
  obtain ⟨xs, m, _, _, hl, hn, hf⟩ := DataW.trod_struct ht h
  refine ⟨hl, m, fun i f hi => ?_⟩
  have h1 := hf i f hi
  have hi' : i < fs.size := by
    have := (Array.getElem?_eq_some_iff.1 hi).1
    omega
  rw [List.getElem?_eq_getElem (by omega)] at h1
  exact ⟨_, h1⟩
end
theorem split1 {α : Type} {l : List α} {a : Nat} (h : l.length = a) : l = (l.drop 0).take a := by subst h; simp
theorem split2 {α : Type} {l : List α} {a b : Nat} (h : l.length = a + b) : l = (l.drop 0).take a ++ (l.drop a).take b := by
  rw [List.drop_zero, List.take_of_length_le (l := l.drop a) (by simp; omega), List.take_append_drop]
theorem split3 {α : Type} {l : List α} {a b c : Nat} (h : l.length = a + b + c) : l = (l.drop 0).take a ++ ((l.drop a).take b ++ (l.drop (a + b)).take c) := by
  have h1 := split2 (l := l.drop a) (a := b) (b := c) (by simp; omega)
  rw [List.drop_zero, List.drop_drop] at h1
  rw [← h1, List.drop_zero, List.take_append_drop]
theorem split4 {α : Type} {l : List α} {a b c d : Nat} (h : l.length = a + b + c + d) : l = (l.drop 0).take a ++ ((l.drop a).take b ++ ((l.drop (a + b)).take c ++ (l.drop (a + b + c)).take d)) := by
  have h1 := split3 (l := l.drop a) (a := b) (b := c) (c := d) (by simp; omega)
  rw [List.drop_zero, List.drop_drop, List.drop_drop] at h1
  rw [show a + b + c = a + (b + c) from by omega, ← h1, List.drop_zero, List.take_append_drop]
end Go.Proofs.YtoehcdjndnmmlaaDoor.Open
