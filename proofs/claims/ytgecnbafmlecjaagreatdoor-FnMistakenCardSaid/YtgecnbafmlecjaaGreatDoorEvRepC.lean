/- sync.Once of a strings.Replacer, one goroutine: what is called once, walked by hand. -/
import Derived.Test.YtgecnbafmlecjaaGreatDoorEvRepA
import Derived.Defers
import Derived.RegionCalls
import Derived.ChangeAlike
set_option linter.unusedVariables false
set_option linter.unusedSimpArgs false
set_option linter.unnecessarySimpa false
namespace Go.Proofs.YtgecnbafmlecjaaGreatDoor.Ev
open Go.RowKit

theorem race_off (w : World) : (callFunc 111 #[]).run Go.Proofs.Tryz.prog w = .ok (.value (.tuple #[])) w := run_call_mark0 Go.Proofs.Tryz.func111 (by kernel_rfl) (by kernel_rfl) (by kernel_rfl) .disable (by kernel_rfl) w
theorem race_on (w : World) : (callFunc 113 #[]).run Go.Proofs.Tryz.prog w = .ok (.value (.tuple #[])) w := run_call_mark0 Go.Proofs.Tryz.func113 (by kernel_rfl) (by kernel_rfl) (by kernel_rfl) .enable (by kernel_rfl) w
theorem race_acq (a : Addr) (w : World) : (callFunc 114 #[.pointer (some a)]).run Go.Proofs.Tryz.prog w = .ok (.value (.tuple #[])) w := run_call_marked Go.Proofs.Tryz.func114 (by kernel_rfl) (by kernel_rfl) (by kernel_rfl) .acquire (by kernel_rfl) a w
theorem race_rel (a : Addr) (w : World) : (callFunc 116 #[.pointer (some a)]).run Go.Proofs.Tryz.prog w = .ok (.value (.tuple #[])) w := run_call_marked Go.Proofs.Tryz.func116 (by kernel_rfl) (by kernel_rfl) (by kernel_rfl) .releaseMerge (by kernel_rfl) a w

set_option maxRecDepth 1000000 in
theorem store_deferred (a : Addr) (x : Value) (u : FrameMode) (w : World) (hc : w.cell? a = some x) (hz : w.frozen? a = false) :
    CallsD Go.Proofs.Tryz.prog 87 #[.pointer (some a), .bool true] u w fun e u' w' => u' = u ∧ (e = .returned (.tuple #[]) ∧ w' = w.drew.setCell a (.int .u32 1)) := by
  have hc' : w.drew.cell? a = some x := by go_simp
  have hz' : w.drew.frozen? a = false := by go_simp
  have hst := run_call_store (P := Go.Proofs.Tryz.prog) Go.Proofs.Tryz.func103 (by kernel_rfl) (by kernel_rfl) (by kernel_rfl) (by kernel_rfl) (k := .u32) (y := 1) hc' hz'
  go_enter_d Go.Proofs.Tryz.func87, Go.Proofs.Tryz.ntmps87
  go_wp2
  go_region_calls
  all_goals (go_end0; exact ⟨rfl, rfl⟩)

set_option maxRecDepth 1000000 in
theorem unlock_deferred (a : Addr) (u : FrameMode) (w : World) (hc : w.cell? a = some (.int .i32 1)) (hz : w.frozen? a = false) :
    CallsD Go.Proofs.Tryz.prog 86 #[.pointer (some a)] u w fun e u' w' => u' = u ∧ (e = .returned (.tuple #[]) ∧ w' = w.setCell a (.int .i32 0)) := by
  have hd := race_off
  have he := race_on
  have hr := race_rel
  have hadd := run_call_add (P := Go.Proofs.Tryz.prog) Go.Proofs.Tryz.func117 (by kernel_rfl) (by kernel_rfl) (by kernel_rfl) .i32 (by kernel_rfl) (y := -1) (s := 0) hc hz (by simp [go_sem]; rfl)
  have hcv := run_convert_to_unsafe (P := Go.Proofs.Tryz.prog) (src := 180) (dst := 150) Go.Proofs.Tryz.underlying180 Go.Proofs.Tryz.underlying150 (by kernel_rfl) hc
  go_enter_d Go.Proofs.Tryz.func86, Go.Proofs.Tryz.ntmps86
  go_wp2
  go_end0
  go_wp2
  go_end0
  exact ⟨rfl, rfl⟩

set_option maxRecDepth 1000000 in
theorem lock_free (a : Addr) (w : World) (hc : w.cell? a = some (.int .i32 0)) (hz : w.frozen? a = false) :
    Calls Go.Proofs.Tryz.prog 85 #[.pointer (some a)] w fun e w' => e = .returned (.tuple #[]) ∧ w' = w.setCell a (.int .i32 1) := by
  have hd := race_off
  have he := race_on
  have ha := race_acq
  have hcas := run_call_cas_hit (P := Go.Proofs.Tryz.prog) Go.Proofs.Tryz.func112 (by kernel_rfl) (by kernel_rfl) (by kernel_rfl) .i32 (by kernel_rfl) (y := 1) hc hz
  have hc' : (w.setCell a (.int .i32 1)).cell? a = some (.int .i32 1) := World.cell?_setCell_same w a _ hc
  have hcv := run_convert_to_unsafe (P := Go.Proofs.Tryz.prog) (src := 180) (dst := 150) Go.Proofs.Tryz.underlying180 Go.Proofs.Tryz.underlying150 (by kernel_rfl) hc'
  go_enter Go.Proofs.Tryz.func85, Go.Proofs.Tryz.ntmps85
  go_wp2
  first | go_end0 | (simp only [Exit.inBlock, Exit.then]; refine bodyPost_ret (results_none rfl _ _ _) rfl ?_) | refine bodyPost_ret (results_none rfl _ _ _) rfl ?_
  go_wp2
  go_end0
  exact ⟨rfl, rfl⟩

/-- What is built once. -/
structure BuildOk (rb : Nat) (T : TypeId) (I : World → Prop) (Q : Nat → World → Prop) : Prop where
  call : ∀ w, I w → rb < w.heap.size → Calls Go.Proofs.Tryz.prog 79 #[.pointer (some ⟨rb, 0, none⟩)] w fun e w' => ∃ c, e = .returned (.iface T (.pointer (some ⟨c, 0, none⟩))) ∧ Q c w' ∧ Below w.heap.size w w'
  keepI : ∀ w x, I w → I (w.setCell ⟨rb, 1, none⟩ x)
  keepQ : ∀ c w w', (∀ k, k ≠ rb → w'.heap[k]? = w.heap[k]?) → Q c w → Q c w'
/-- A replacer that is new. -/
structure NewRep (rb : Nat) (w : World) : Prop where
  lt : rb < w.heap.size
  c0 : w.cell? ⟨rb, 0, none⟩ = some (.int .u32 0)
  c1 : w.cell? ⟨rb, 1, none⟩ = some (.int .i32 0)
  c3 : ∃ x, w.cell? ⟨rb, 3, none⟩ = some x
  c4 : ∃ x, w.cell? ⟨rb, 4, none⟩ = some x
  soft : ∀ j, w.frozen? ⟨rb, j, none⟩ = false

set_option maxHeartbeats 1600000 in
set_option maxRecDepth 1000000 in
theorem buildOnce (rb : Nat) (T : TypeId) (I : World → Prop) (Q : Nat → World → Prop) (H : BuildOk rb T I Q) (w : World) (hI : I w) (hlt : rb < w.heap.size) (h3 : ∃ x, w.cell? ⟨rb, 3, none⟩ = some x) (h4 : ∃ x, w.cell? ⟨rb, 4, none⟩ = some x) (hz : ∀ j, w.frozen? ⟨rb, j, none⟩ = false) :
    Calls Go.Proofs.Tryz.prog 69 #[.pointer (some ⟨rb, 0, none⟩)] w fun e w' => e = .returned (.tuple #[]) ∧ ∃ c w1, Q c w1 ∧ Below w.heap.size w w1 ∧ w' = (w1.setCell ⟨rb, 3, none⟩ (.iface T (.pointer (some ⟨c, 0, none⟩)))).setCell ⟨rb, 4, none⟩ (.slice none 0 0) := by
  obtain ⟨x3, h3⟩ := h3
  obtain ⟨x4, h4⟩ := h4
  go_enter Go.Proofs.Tryz.func69, Go.Proofs.Tryz.ntmps69
  go_wp2_with (go_at_call 79; refine (H.call _ hI hlt).mono ?_; rintro e w1 ⟨c, rfl, hQ, hB⟩; have g3 := (hB.cell (p := ⟨rb, 3, none⟩) hlt).trans h3; have g4 := (hB.cell (p := ⟨rb, 4, none⟩) hlt).trans h4; have z3 := (hB.frozen (p := ⟨rb, 3, none⟩) hlt).trans (hz 3); have z4 := (hB.frozen (p := ⟨rb, 4, none⟩) hlt).trans (hz 4); have HQ := AsideW.mk hQ; have HB := AsideW.mk hB; clear hQ hB)
  go_wp2
  go_end0
  exact ⟨rfl, _, _, HQ.out, HB.out, rfl⟩
end Go.Proofs.YtgecnbafmlecjaaGreatDoor.Ev
