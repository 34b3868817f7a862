/- strings.NewReplacer(" ", "", "/", "").Replace: impl.bare. -/
import Derived.Test.YtgecnbafmlecjaaGreatDoorEvRepE
import Derived.Test.YtgecnbafmlecjaaGreatDoorEvRepH
set_option linter.unusedVariables false
set_option linter.unusedSimpArgs false
set_option linter.unnecessarySimpa false
namespace Go.Proofs.YtgecnbafmlecjaaGreatDoor.Ev
open Go.RowKit

theorem bare_build (rb o cap : Nat) : BuildOk rb 138 (FourI rb o cap ⟨#[32]⟩ ⟨#[]⟩ ⟨#[47]⟩ ⟨#[]⟩) (fun c w => ∃ e, e ≠ rb ∧ c ≠ rb ∧ Takes e c w) where
  call w hI hlt := (build_bare rb o cap w hI.1 hlt hI.2.1).mono fun en w' ⟨c, h1, e, h2, h3, h4⟩ => ⟨c, h1, ⟨e, by omega, by have := h3.ec; omega, h3⟩, h4⟩
  keepI w x h := h.keep x
  keepQ c w w' h hQ := by
    obtain ⟨e, h1, h2, h3⟩ := hQ
    have hc := h c h2
    refine ⟨e, h1, h2, ?_⟩
    have : (w.heap[c]?).isSome = true := by simpa using h3.lt
    rw [← hc] at this
    have hlt : c < w'.heap.size := by simpa using this
    have ke : ∀ j, w'.cell? ⟨e, j, none⟩ = w.cell? ⟨e, j, none⟩ := fun j => World.cell?_of_block (w := w) (h e h1)
    have kc : ∀ j, w'.cell? ⟨c, j, none⟩ = w.cell? ⟨c, j, none⟩ := fun j => World.cell?_of_block (w := w) hc
    exact ⟨h3.ec, hlt, fun j hj hh => by rw [kc]; exact h3.hit j hj hh, fun j hj hh => by rw [kc]; exact h3.miss j hj hh, by rw [kc]; exact h3.«to», by rw [ke]; exact h3.e0, by rw [ke]; exact h3.e1⟩

set_option maxHeartbeats 1600000 in
set_option maxRecDepth 1000000 in
theorem bare_walk (s : ByteArray) (hs : s.size ≤ 140737488355328) (w : World) : Calls Go.Proofs.Tryz.prog 36 #[.string s] w fun e w' => e = .returned (.string ⟨(kept s s.size).toArray⟩) ∧ Below w.heap.size w w' := by
  have hat : ∀ j, (w.alloc (.cells #[.string ⟨#[32]⟩, .string ⟨#[]⟩, .string ⟨#[47]⟩, .string ⟨#[]⟩] 9)).cell? ⟨w.heap.size, j, none⟩ = (#[.string ⟨#[32]⟩, .string ⟨#[]⟩, .string ⟨#[47]⟩, .string ⟨#[]⟩] : Array Value)[j]? := fun j => World.cell?_alloc_mark w _ 9 (0, 0) j
  have hc := AsideW.mk (new_rep w.heap.size ⟨#[32]⟩ ⟨#[]⟩ ⟨#[47]⟩ ⟨#[]⟩ _ (by simp) ((hat 0).trans rfl) ((hat 1).trans rfl) ((hat 2).trans rfl) ((hat 3).trans rfl))
  have hB0 := AsideW.mk ((Below.refl w.heap.size w).alloc (Nat.le_refl _) (.cells #[.string ⟨#[32]⟩, .string ⟨#[]⟩, .string ⟨#[47]⟩, .string ⟨#[]⟩] 9))
  have hR := AsideW.mk (fun (c : Nat) (w : World) (rb : Nat) (hQ : ∃ e, e ≠ rb ∧ c ≠ rb ∧ Takes e c w) => by
    obtain ⟨e, h1, h2, h3⟩ := hQ
    by_cases h : s.size < 16
    · exact take_small e c s h w h3
    · exact take_big e c s (by omega) hs w h3 : ∀ (c : Nat) (w : World) (rb : Nat), (∃ e, e ≠ rb ∧ c ≠ rb ∧ Takes e c w) → Calls Go.Proofs.Tryz.prog 164 #[.pointer (some ⟨c, 0, none⟩), .string s] w fun e w' => e = .returned (.string ⟨(kept s s.size).toArray⟩) ∧ Below w.heap.size w w')
  clear hat
  go_enter Go.Proofs.Tryz.func36, Go.Proofs.Tryz.ntmps36
  go_wp2_with (first
    | (go_at_call 60; refine hc.out.mono ?_; rintro e w1 ⟨rb, o, cap, rfl, hge, hN, hI, hB⟩; have HR := AsideW.mk (replace_any rb _ _ _ (bare_build rb o cap) 164 s _ (fun a w => by kernel_rfl) (fun args w => by kernel_rfl) (fun c w hQ => hR.out c w rb hQ) w1 hN hI); have HB := AsideW.mk hB; have HG := AsideW.mk hge; clear hB hN hI hge)
    | (go_at_call 61; refine HR.out.mono ?_; rintro e w2 ⟨rfl, hb⟩; have HB2 := AsideW.mk hb; clear hb))
  go_wp2
  go_ret
  have k1 := HG.out
  simp only [World.size_alloc] at k1
  exact ⟨rfl, (hB0.out.trans (HB.out.mono (by simp))).trans (HB2.out.mono (by omega))⟩
end Go.Proofs.YtgecnbafmlecjaaGreatDoor.Ev
