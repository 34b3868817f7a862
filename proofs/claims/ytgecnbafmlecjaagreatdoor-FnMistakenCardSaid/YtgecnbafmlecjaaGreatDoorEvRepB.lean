/- strings.NewReplacer's table for one byte to one byte: (*Replacer).build, walked by hand. -/
import Derived.Test.YtgecnbafmlecjaaGreatDoorEvRepA
import Derived.Deep.WholeRow
set_option linter.unusedVariables false
set_option linter.unusedSimpArgs false
set_option linter.unnecessarySimpa false
namespace Go.Proofs.YtgecnbafmlecjaaGreatDoor.Ev
open Go.RowKit

def opp (j : Nat) : Nat := if j = 46 then 45 else if j = 45 then 46 else j % 256
theorem opp_lt (j : Nat) : opp j < 256 := by
  unfold opp
  split
  · decide
  · split <;> omega
/-- What a replacer was given: four texts. -/
structure Four (rb : Nat) (o cap : Nat) (t0 t1 t2 t3 : ByteArray) (w : World) : Prop where
  sl : w.cell? ⟨rb, 4, none⟩ = some (.slice (some ⟨o, 0, none⟩) 4 cap)
  c0 : w.cell? ⟨o, 0, none⟩ = some (.string t0)
  c1 : w.cell? ⟨o, 1, none⟩ = some (.string t1)
  c2 : w.cell? ⟨o, 2, none⟩ = some (.string t2)
  c3 : w.cell? ⟨o, 3, none⟩ = some (.string t3)

theorem zeros_are : Go.Proofs.Tryz.zeroCells133 = Array.replicate 256 (.int .u8 0) := by kernel_rfl
theorem zero_row (w : World) : RowAt w.heap.size 256 (fun _ => 0) (w.alloc (.cells Go.Proofs.Tryz.zeroCells133 133)) where
  lt := by simp
  cell j hj := by
    have h1 := World.cell?_alloc_mark w Go.Proofs.Tryz.zeroCells133 133 (0, 0) j
    refine h1.trans ?_
    rw [zeros_are, Array.getElem?_replicate, if_pos hj]
  soft j hj := by simp
set_option maxHeartbeats 1600000 in
set_option maxRecDepth 1000000 in
theorem build_opp (rb o cap : Nat) (w : World) (h : Four rb o cap ⟨#[46]⟩ ⟨#[45]⟩ ⟨#[45]⟩ ⟨#[46]⟩ w) (hrb : rb < w.heap.size) (ho : o < w.heap.size) :
    Calls Go.Proofs.Tryz.prog 79 #[.pointer (some ⟨rb, 0, none⟩)] w fun e w' => ∃ c, e = .returned (.iface 134 (.pointer (some ⟨c, 0, none⟩))) ∧ w.heap.size ≤ c ∧ c < w'.heap.size ∧ TabAt c opp w' ∧ Below w.heap.size w w' := by
  obtain ⟨hs, h0, h1, h2, h3⟩ := h
  have hst := run_storeCells_new (P := Go.Proofs.Tryz.prog) w 133 Go.Proofs.Tryz.zeroCells133 Go.Proofs.Tryz.zeroCells133 (by kernel_rfl) rfl (by kernel_rfl)
  go_enter Go.Proofs.Tryz.func79, Go.Proofs.Tryz.ntmps79
  go_wp2
  refine wp_loop_rounds 3 ?_
  rw [rounds_succ]
  go_wp2
  rw [rounds_succ]
  go_wp2
  rw [rounds_succ]
  go_wp2
  have g0 := zero_row w
  have b0 := ((Below.refl w.heap.size w).alloc (Nat.le_refl _) (.cells Go.Proofs.Tryz.zeroCells133 133))
  generalize hW1 : w.alloc (.cells Go.Proofs.Tryz.zeroCells133 133) = w1 at *
  clear hst hW1
  have ow := h0
  have v45 : ∀ h, ((⟨#[45]⟩ : ByteArray)[0]'h).toNat = 45 := fun _ => rfl
  have v46 : ∀ h, ((⟨#[46]⟩ : ByteArray)[0]'h).toNat = 46 := fun _ => rfl
  go_loopw [61] (fun i wr => ∃ k : Nat, k ≤ 256 ∧ i = .int .i64 k ∧ RowAt w.heap.size 256 (fun j => if j < k then (j : Int) else 0) wr ∧ Below w.heap.size w wr) (fun i _ => 256 - (intOf i).toNat)
  case atStart => exact ⟨0, Nat.zero_le _, rfl, ⟨g0.lt, fun j hj => (g0.cell j hj).trans (by rw [if_neg (Nat.not_lt_zero _)]), g0.soft⟩, b0⟩
  case round =>
    obtain ⟨k, hk, rfl, hR, hB⟩ := hrel
    by_cases hlt : k < 256
    · have hwr : IntKind.u8.wrap (k : Int) = (k : Int) := by rw [IntKind.wrap_u8]; omega
      have c1 := hR.cell k hlt
      have c2 := hR.soft k hlt
      have HR := AsideW.mk hR
      clear hR g0
      go_wp2
      go_roundw
      case rel =>
        refine ⟨k + 1, hlt, by go_num, HR.out.set k _ hlt fun j hj => ?_, hB.setCell (Nat.le_refl _) _⟩
        by_cases ej : j = k
        · subst ej; rw [if_pos rfl, if_pos (by omega)]
        · rw [if_neg ej]
          have : (j < k + 1) = (j < k) := propext ⟨fun h => by omega, fun h => by omega⟩
          simp only [this]
      case measure => simp [intOf]; omega
    · obtain rfl : k = 256 := by omega
      have e0 := (hB.cell (p := ⟨o, 0, none⟩) ho).trans h0
      have e1 := (hB.cell (p := ⟨o, 1, none⟩) ho).trans h1
      have e2 := (hB.cell (p := ⟨o, 2, none⟩) ho).trans h2
      have e3 := (hB.cell (p := ⟨o, 3, none⟩) ho).trans h3
      have d45 := hR.cell 45 (by decide)
      have d46 := hR.cell 46 (by decide)
      have f45 := hR.soft 45 (by decide)
      have f46 := hR.soft 46 (by decide)
      have HR := AsideW.mk hR
      clear hR g0 h0 h1 h2 h3 ow
      go_wp2
      refine wp_loop_rounds 3 ?_
      rw [rounds_succ]
      go_wp2
      rw [rounds_succ]
      go_wp2
      rw [rounds_succ]
      go_wp2
      have R1 := HR.out.set (t' := fun j => if j = 45 then 46 else (j : Int)) 45 46 (by decide) fun j hj => by rw [if_pos hj]
      have R2 := R1.set (t' := fun j => (opp j : Int)) 46 45 (by decide) fun j hj => by
        unfold opp
        by_cases e1 : j = 46
        · subst e1; rfl
        · rw [if_neg e1, if_neg e1]
          by_cases e2 : j = 45
          · subst e2; rfl
          · rw [if_neg e2, if_neg e2]; omega
      go_ret
      exact ⟨w.heap.size, rfl, Nat.le_refl _, R2.lt, R2.cell, (hB.setCell (Nat.le_refl _) _).setCell (Nat.le_refl _) _⟩
end Go.Proofs.YtgecnbafmlecjaaGreatDoor.Ev
