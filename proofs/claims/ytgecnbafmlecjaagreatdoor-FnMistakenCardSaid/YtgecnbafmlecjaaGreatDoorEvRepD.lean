/- sync.Once of a strings.Replacer: Do, and Replace itself. -/
import Derived.Test.YtgecnbafmlecjaaGreatDoorEvRepC
set_option linter.unusedVariables false
set_option linter.unusedSimpArgs false
set_option linter.unnecessarySimpa false
namespace Go.Proofs.YtgecnbafmlecjaaGreatDoor.Ev
open Go.RowKit

def BuiltAt (rb : Nat) (T : TypeId) (Q : Nat → World → Prop) (w w' : World) : Prop :=
  ∃ c w1, Q c w1 ∧ Below w.heap.size (w.setCell ⟨rb, 1, none⟩ (.int .i32 1)) w1 ∧
    w' = ((((w1.setCell ⟨rb, 3, none⟩ (.iface T (.pointer (some ⟨c, 0, none⟩)))).setCell ⟨rb, 4, none⟩ (.slice none 0 0)).drew.setCell ⟨rb, 0, none⟩ (.int .u32 1)).setCell ⟨rb, 1, none⟩ (.int .i32 0))

set_option maxRecDepth 1000000 in
set_option maxHeartbeats 1600000 in
theorem slow (rb : Nat) (T : TypeId) (I : World → Prop) (Q : Nat → World → Prop) (H : BuildOk rb T I Q) (w : World) (hN : NewRep rb w) (hI : I w) :
    Calls Go.Proofs.Tryz.prog 78 #[.pointer (some ⟨rb, 0, none⟩), .func (.func 69) #[.pointer (some ⟨rb, 0, none⟩)] #[]] w fun e w' => e = .returned (.tuple #[]) ∧ BuiltAt rb T Q w w' := by
  obtain ⟨hlt, h0, h1, ⟨x3, h3⟩, ⟨x4, h4⟩, hz⟩ := hN
  have f0 := hz 0
  have f1 := hz 1
  have hl := run_call_load (P := Go.Proofs.Tryz.prog) Go.Proofs.Tryz.func84 (by kernel_rfl) (by kernel_rfl) (by kernel_rfl) .u32 (by kernel_rfl) (w := w.setCell ⟨rb, 1, none⟩ (.int .i32 1)) (a := ⟨rb, 0, none⟩) (x := 0) ((World.cell?_setCell_other _ ⟨rb, 1, none⟩ ⟨rb, 0, none⟩ _ (by simp)).trans h0)
  have k0 : (w.setCell ⟨rb, 1, none⟩ (.int .i32 1)).cell? ⟨rb, 0, none⟩ = some (.int .u32 0) := (World.cell?_setCell_other _ ⟨rb, 1, none⟩ ⟨rb, 0, none⟩ _ (by simp)).trans h0
  have k1 : (w.setCell ⟨rb, 1, none⟩ (.int .i32 1)).cell? ⟨rb, 1, none⟩ = some (.int .i32 1) := World.cell?_setCell_same w _ _ h1
  have k3 : (w.setCell ⟨rb, 1, none⟩ (.int .i32 1)).cell? ⟨rb, 3, none⟩ = some x3 := (World.cell?_setCell_other _ ⟨rb, 1, none⟩ ⟨rb, 3, none⟩ _ (by simp)).trans h3
  have k4 : (w.setCell ⟨rb, 1, none⟩ (.int .i32 1)).cell? ⟨rb, 4, none⟩ = some x4 := (World.cell?_setCell_other _ ⟨rb, 1, none⟩ ⟨rb, 4, none⟩ _ (by simp)).trans h4
  have kz : ∀ j, (w.setCell ⟨rb, 1, none⟩ (.int .i32 1)).frozen? ⟨rb, j, none⟩ = false := fun j => by simpa using hz j
  have kl : (w.setCell ⟨rb, 1, none⟩ (.int .i32 1)).heap.size = w.heap.size := by simp [World.setCell]
  have hB1 := buildOnce rb T I Q H _ (H.keepI w (.int .i32 1) hI) (by rw [kl]; exact hlt) ⟨x3, k3⟩ ⟨x4, k4⟩ kz
  rw [kl] at hB1
  have HB := AsideW.mk hB1
  have hnot : ∀ (x : Bool) (w : World), (Op.unary .not (.bool x)).run Go.Proofs.Tryz.prog w = .ok (.bool (!x)) w := fun _ _ => rfl
  clear hB1 k3 k4 h3 h4 hI
  have KZ := AsideW.mk kz
  have HZ := AsideW.mk hz
  clear kz hz kl
  go_enter_defers Go.Proofs.Tryz.func78, Go.Proofs.Tryz.ntmps78
  go_wp2_with (go_at_call 85; refine (lock_free ⟨rb, 1, none⟩ _ (by go_simp) (by go_simp)).mono ?_; rintro e w' ⟨rfl, rfl⟩)
  go_wp2_with (first | (go_at_call 77; go_in) | (go_at_call 69; refine HB.out.mono ?_; rintro e w' ⟨rfl, c, w1, hQ, hB, rfl⟩; have HQ := AsideW.mk hQ; have HBB := AsideW.mk hB; clear hQ hB))
  go_wp2
  have m0 := (HBB.out.cell (p := ⟨rb, 0, none⟩) hlt).trans k0
  have m1 := (HBB.out.cell (p := ⟨rb, 1, none⟩) hlt).trans k1
  have n0 := (HBB.out.frozen (p := ⟨rb, 0, none⟩) hlt).trans (KZ.out 0)
  have n1 := (HBB.out.frozen (p := ⟨rb, 1, none⟩) hlt).trans (KZ.out 1)
  refine leaves_cons (f := 87) (args := #[.pointer (some ⟨rb, 0, none⟩), .bool true]) (by simp) (by simp [go_sem]) ?_
  refine (store_deferred ⟨rb, 0, none⟩ (.int .u32 0) .returning _ ?_ (by simp [n0])).mono ?_
  · exact (World.cell?_setCell_other _ ⟨rb, 4, none⟩ ⟨rb, 0, none⟩ _ (by simp)).trans ((World.cell?_setCell_other _ ⟨rb, 3, none⟩ ⟨rb, 0, none⟩ _ (by simp)).trans m0)
  rintro e u' w'' ⟨rfl, rfl, rfl⟩
  refine leaves_cons (f := 86) (args := #[.pointer (some ⟨rb, 1, none⟩)]) (by simp [settle]) (by simp [go_sem]) ?_
  refine (unlock_deferred ⟨rb, 1, none⟩ _ _ ?_ (by simp [n1])).mono ?_
  · refine (World.cell?_setCell_other _ ⟨rb, 0, none⟩ ⟨rb, 1, none⟩ _ (by simp)).trans ?_
    rw [World.cell?_drew]
    exact (World.cell?_setCell_other _ ⟨rb, 4, none⟩ ⟨rb, 1, none⟩ _ (by simp)).trans ((World.cell?_setCell_other _ ⟨rb, 3, none⟩ ⟨rb, 1, none⟩ _ (by simp)).trans m1)
  rintro e u' w'' ⟨rfl, rfl, rfl⟩
  simp [Leaves, settle, results, Go.Proofs.Tryz.results78]
  exact ⟨c, w1, HQ.out, HBB.out, rfl⟩
theorem BuiltAt.facts {rb : Nat} {T : TypeId} {I : World → Prop} {Q : Nat → World → Prop} (H : BuildOk rb T I Q) {w w' : World} (hN : NewRep rb w) (h : BuiltAt rb T Q w w') : ∃ c, Q c w' ∧ w'.cell? ⟨rb, 3, none⟩ = some (.iface T (.pointer (some ⟨c, 0, none⟩))) ∧ Below rb w w' := by
  obtain ⟨c, w1, hQ, hB, rfl⟩ := h
  have hlt := hN.lt
  obtain ⟨x3, h3⟩ := hN.c3
  have k3 : (w.setCell ⟨rb, 1, none⟩ (.int .i32 1)).cell? ⟨rb, 3, none⟩ = some x3 := (World.cell?_setCell_other _ ⟨rb, 1, none⟩ ⟨rb, 3, none⟩ _ (by simp)).trans h3
  have g3 := (hB.cell (p := ⟨rb, 3, none⟩) hlt).trans k3
  refine ⟨c, H.keepQ c w1 _ (fun k hk => ?_) hQ, ?_, ?_⟩
  · have key : ∀ (w : World) (j : Nat) (x : Value), (w.setCell ⟨rb, j, none⟩ x).heap[k]? = w.heap[k]? := fun w j x => Below.heap_setCell w ⟨rb, j, none⟩ x k hk
    rw [key, key]
    show ((((w1.setCell _ _).setCell _ _).drew).heap)[k]? = _
    refine (show ((((w1.setCell ⟨rb, 3, none⟩ (.iface T (.pointer (some ⟨c, 0, none⟩)))).setCell ⟨rb, 4, none⟩ (.slice none 0 0)).drew).heap)[k]? = (((w1.setCell ⟨rb, 3, none⟩ (.iface T (.pointer (some ⟨c, 0, none⟩)))).setCell ⟨rb, 4, none⟩ (.slice none 0 0)).heap)[k]? from rfl).trans ?_
    rw [key, key]
  · refine (World.cell?_setCell_other _ ⟨rb, 1, none⟩ ⟨rb, 3, none⟩ _ (by simp)).trans ((World.cell?_setCell_other _ ⟨rb, 0, none⟩ ⟨rb, 3, none⟩ _ (by simp)).trans ?_)
    rw [World.cell?_drew]
    exact (World.cell?_setCell_other _ ⟨rb, 4, none⟩ ⟨rb, 3, none⟩ _ (by simp)).trans (World.cell?_setCell_same _ _ _ g3)
  · have b0 : Below rb w (w.setCell ⟨rb, 1, none⟩ (.int .i32 1)) := (Below.refl rb w).setCell (p := ⟨rb, 1, none⟩) (Nat.le_refl _) _
    have b1 := b0.trans (hB.mono (Nat.le_of_lt hlt))
    exact ((((b1.setCell (p := ⟨rb, 3, none⟩) (Nat.le_refl _) _).setCell (p := ⟨rb, 4, none⟩) (Nat.le_refl _) _).drew).setCell (p := ⟨rb, 0, none⟩) (Nat.le_refl _) _).setCell (p := ⟨rb, 1, none⟩) (Nat.le_refl _) _

set_option maxRecDepth 1000000 in
set_option maxHeartbeats 1600000 in
theorem do_first (rb : Nat) (T : TypeId) (I : World → Prop) (Q : Nat → World → Prop) (H : BuildOk rb T I Q) (w : World) (hN : NewRep rb w) (hI : I w) :
    Calls Go.Proofs.Tryz.prog 68 #[.pointer (some ⟨rb, 0, none⟩), .func (.func 69) #[.pointer (some ⟨rb, 0, none⟩)] #[]] w fun e w' => e = .returned (.tuple #[]) ∧ ∃ c, Q c w' ∧ w'.cell? ⟨rb, 3, none⟩ = some (.iface T (.pointer (some ⟨c, 0, none⟩))) ∧ Below rb w w' := by
  have hl := run_call_load (P := Go.Proofs.Tryz.prog) Go.Proofs.Tryz.func84 (by kernel_rfl) (by kernel_rfl) (by kernel_rfl) .u32 (by kernel_rfl) hN.c0
  have hS := AsideW.mk (slow rb T I Q H w hN hI)
  have hnot : ∀ (x : Bool) (w : World), (Op.unary .not (.bool x)).run Go.Proofs.Tryz.prog w = .ok (.bool (!x)) w := fun _ _ => rfl
  have HN := AsideW.mk hN
  have HH := AsideW.mk H
  clear hN hI H
  go_enter Go.Proofs.Tryz.func68, Go.Proofs.Tryz.ntmps68
  go_wp2_with (first | (go_at_call 78; refine hS.out.mono ?_; rintro e w' ⟨rfl, hb⟩; have HBB := AsideW.mk hb; clear hb) | (go_at_call 77; go_in))
  go_end0
  exact ⟨rfl, HBB.out.facts HH.out HN.out⟩

set_option maxHeartbeats 1600000 in
set_option maxRecDepth 1000000 in
theorem replace_any (rb : Nat) (T : TypeId) (I : World → Prop) (Q : Nat → World → Prop) (H : BuildOk rb T I Q) (K : FuncId) (s t : ByteArray)
    (hm : ∀ (a : Addr) (w : World), (method 327 T (.pointer (some a)) "Replace").run Go.Proofs.Tryz.prog w = .ok (K, .pointer (some a)) w)
    (hcf : ∀ (args : Array Value) (w : World), (callFunc K args).run Go.Proofs.Tryz.prog w = .ok (.enter K args) w)
    (hK : ∀ c w, Q c w → Calls Go.Proofs.Tryz.prog K #[.pointer (some ⟨c, 0, none⟩), .string s] w fun e w' => e = .returned (.string t) ∧ Below w.heap.size w w')
    (w : World) (hN : NewRep rb w) (hI : I w) :
    Calls Go.Proofs.Tryz.prog 61 #[.pointer (some ⟨rb, 0, none⟩), .string s] w fun e w' => e = .returned (.string t) ∧ Below rb w w' := by
  have hmf : ∀ (fn : Fn) (first cap : Array Value) (w : World), (Instr.makeFunc fn first cap).run Go.Proofs.Tryz.prog w = .ok (.func fn first cap) w := fun _ _ _ _ => rfl
  have hS := AsideW.mk (do_first rb T I Q H w hN hI)
  have HK := AsideW.mk hK
  have HL := AsideW.mk hN.lt
  clear H hN hI hK
  go_enter Go.Proofs.Tryz.func61, Go.Proofs.Tryz.ntmps61
  go_wp2_with (first | (go_at_call 68; refine hS.out.mono ?_; rintro e w' ⟨rfl, c, hQ, h3, hB⟩; have HQ := AsideW.mk hQ; have HB := AsideW.mk hB; clear hQ hB))
  go_wp2
  refine (HK.out c _ HQ.out).mono ?_
  rintro e w2 ⟨rfl, hB2⟩
  go_wp2
  go_ret
  exact ⟨rfl, HB.out.trans (hB2.mono (Nat.le_trans (Nat.le_of_lt HL.out) HB.out.size))⟩
end Go.Proofs.YtgecnbafmlecjaaGreatDoor.Ev
