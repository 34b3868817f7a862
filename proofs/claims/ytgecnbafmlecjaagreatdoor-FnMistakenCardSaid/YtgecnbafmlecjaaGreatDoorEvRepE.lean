/- strings.NewReplacer(".", "-", "-", ".").Replace: impl.opposite. -/
import Derived.Test.YtgecnbafmlecjaaGreatDoorEvRepB
import Derived.Test.YtgecnbafmlecjaaGreatDoorEvRepD
set_option linter.unusedVariables false
set_option linter.unusedSimpArgs false
set_option linter.unnecessarySimpa false
namespace Go.Proofs.YtgecnbafmlecjaaGreatDoor.Ev
open Go.RowKit

/-- What is known of the block of four texts beside a new replacer. -/
def FourI (rb o cap : Nat) (t0 t1 t2 t3 : ByteArray) (w : World) : Prop := Four rb o cap t0 t1 t2 t3 w ∧ o < w.heap.size ∧ o ≠ rb
theorem FourI.keep {rb o cap : Nat} {t0 t1 t2 t3 : ByteArray} {w : World} (x : Value) (h : FourI rb o cap t0 t1 t2 t3 w) : FourI rb o cap t0 t1 t2 t3 (w.setCell ⟨rb, 1, none⟩ x) := by
  obtain ⟨⟨a, b, c, d, e⟩, h1, h2⟩ := h
  have k : ∀ j, (w.setCell ⟨rb, 1, none⟩ x).cell? ⟨o, j, none⟩ = w.cell? ⟨o, j, none⟩ := fun j => World.cell?_setCell_other _ ⟨rb, 1, none⟩ ⟨o, j, none⟩ _ (by first | (simp; done) | (simp; omega))
  exact ⟨⟨(World.cell?_setCell_other _ ⟨rb, 1, none⟩ ⟨rb, 4, none⟩ _ (by simp)).trans a, (k 0).trans b, (k 1).trans c, (k 2).trans d, (k 3).trans e⟩, by simpa [World.setCell] using h1, h2⟩
theorem opp_build (rb o cap : Nat) : BuildOk rb 134 (FourI rb o cap ⟨#[46]⟩ ⟨#[45]⟩ ⟨#[45]⟩ ⟨#[46]⟩) (fun c w => c ≠ rb ∧ c < w.heap.size ∧ TabAt c opp w) where
  call w hI hlt := (build_opp rb o cap w hI.1 hlt hI.2.1).mono fun e w' ⟨c, h1, h2, h3, h4, h5⟩ => ⟨c, h1, ⟨by omega, h3, h4⟩, h5⟩
  keepI w x h := h.keep x
  keepQ c w w' h hQ := by
    have hc := h c hQ.1
    refine ⟨hQ.1, ?_, fun j hj => (World.cell?_of_block (w := w) hc).trans (hQ.2.2 j hj)⟩
    have : (w.heap[c]?).isSome = true := by simpa using hQ.2.1
    rw [← hc] at this
    simpa using this

theorem rep_facts (w : World) (t0 t1 t2 t3 : ByteArray) (Z : Array Value) (cap : Nat) (e1 e2 : TypeId) :
    let W := ((w.alloc (.cells (#[.string t0, .string t1, .string t2, .string t3] ++ Z) e1)).alloc (.cells #[.int .u32 0, .int .i32 0, .int .u32 0, .nilIface, .slice (some ⟨w.heap.size, 0, none⟩) 4 cap] e2)).drew
    NewRep (w.heap.size + 1) W ∧ FourI (w.heap.size + 1) w.heap.size cap t0 t1 t2 t3 W ∧ Below w.heap.size w W := by
  have hz : (w.alloc (.cells (#[.string t0, .string t1, .string t2, .string t3] ++ Z) e1)).heap.size = w.heap.size + 1 := by simp
  have hr : ∀ j, ((w.alloc (.cells (#[.string t0, .string t1, .string t2, .string t3] ++ Z) e1)).alloc (.cells #[.int .u32 0, .int .i32 0, .int .u32 0, .nilIface, .slice (some ⟨w.heap.size, 0, none⟩) 4 cap] e2)).drew.cell? ⟨w.heap.size + 1, j, none⟩ = (#[.int .u32 0, .int .i32 0, .int .u32 0, .nilIface, .slice (some ⟨w.heap.size, 0, none⟩) 4 cap] : Array Value)[j]? := fun j => by
    rw [World.cell?_drew]
    have := World.cell?_alloc_mark (w.alloc (.cells (#[.string t0, .string t1, .string t2, .string t3] ++ Z) e1)) #[.int .u32 0, .int .i32 0, .int .u32 0, .nilIface, .slice (some ⟨w.heap.size, 0, none⟩) 4 cap] e2 (0, 0) j
    rw [hz] at this
    exact this
  have ho : ∀ j, ((w.alloc (.cells (#[.string t0, .string t1, .string t2, .string t3] ++ Z) e1)).alloc (.cells #[.int .u32 0, .int .i32 0, .int .u32 0, .nilIface, .slice (some ⟨w.heap.size, 0, none⟩) 4 cap] e2)).drew.cell? ⟨w.heap.size, j, none⟩ = (#[.string t0, .string t1, .string t2, .string t3] ++ Z : Array Value)[j]? := fun j => by
    rw [World.cell?_drew, World.cell?_alloc_past _ _ _ (by simp)]
    exact World.cell?_alloc_mark w _ e1 (0, 0) j
  have hl : ∀ j, j < 4 → (#[.string t0, .string t1, .string t2, .string t3] ++ Z : Array Value)[j]? = (#[.string t0, .string t1, .string t2, .string t3] : Array Value)[j]? := fun j hj => Array.getElem?_append_left (by simpa using hj)
  refine ⟨⟨by show w.heap.size + 1 < (World.alloc _ _).heap.size; simp, (hr 0).trans rfl, (hr 1).trans rfl, ⟨_, (hr 3).trans rfl⟩, ⟨_, (hr 4).trans rfl⟩, fun j => ?_⟩, ⟨⟨(hr 4).trans rfl, (ho 0).trans ((hl 0 (by decide)).trans rfl), (ho 1).trans ((hl 1 (by decide)).trans rfl), (ho 2).trans ((hl 2 (by decide)).trans rfl), (ho 3).trans ((hl 3 (by decide)).trans rfl)⟩, by show w.heap.size < (World.alloc _ _).heap.size; simp; omega, by omega⟩, (((Below.refl _ w).alloc (Nat.le_refl _) _).alloc (by simp) _).drew⟩
  have := World.frozen?_alloc_new (w.alloc (.cells (#[.string t0, .string t1, .string t2, .string t3] ++ Z) e1)) #[.int .u32 0, .int .i32 0, .int .u32 0, .nilIface, .slice (some ⟨w.heap.size, 0, none⟩) 4 cap] e2 j
  rw [hz] at this
  simpa using this

set_option maxHeartbeats 1600000 in
set_option maxRecDepth 1000000 in
theorem new_rep (a : Nat) (t0 t1 t2 t3 : ByteArray) (w : World) (ha : a < w.heap.size) (h0 : w.cell? ⟨a, 0, none⟩ = some (.string t0)) (h1 : w.cell? ⟨a, 1, none⟩ = some (.string t1)) (h2 : w.cell? ⟨a, 2, none⟩ = some (.string t2)) (h3 : w.cell? ⟨a, 3, none⟩ = some (.string t3)) :
    Calls Go.Proofs.Tryz.prog 60 #[.slice (some ⟨a, 0, none⟩) 4 4] w fun e w' => ∃ rb o cap, e = .returned (.pointer (some ⟨rb, 0, none⟩)) ∧ w.heap.size ≤ rb ∧ NewRep rb w' ∧ FourI rb o cap t0 t1 t2 t3 w' ∧ Below w.heap.size w w' := by
  have hcap : ¬ 281474976710656 < Builtin.nextslicecap 4 0 * Go.Proofs.Tryz.t9.bytes := by decide
  go_enter Go.Proofs.Tryz.func60, Go.Proofs.Tryz.ntmps60
  go_wp2
  go_ret
  exact ⟨w.heap.size + 1, w.heap.size, _, rfl, by omega, rep_facts w t0 t1 t2 t3 _ _ _ _⟩

end Go.Proofs.YtgecnbafmlecjaaGreatDoor.Ev
