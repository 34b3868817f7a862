/- strings.NewReplacer(" ", "", "/", ""): (*Replacer).build, walked by hand. -/
import Derived.Test.YtgecnbafmlecjaaGreatDoorEvRepB
import Derived.Lib.JoinLaws
set_option linter.unusedVariables false
set_option linter.unusedSimpArgs false
set_option linter.unnecessarySimpa false
namespace Go.Proofs.YtgecnbafmlecjaaGreatDoor.Ev
open Go.RowKit

theorem zc_are : Go.Proofs.Tryz.zeroCells137 = Array.replicate 256 (.slice none 0 0) ++ #[.slice none 0 0] := by kernel_rfl
/-- The table of a byteStringReplacer that is new. -/
structure Fresh (e c : Nat) (w : World) : Prop where
  lt : c < w.heap.size
  row : ∀ j, j < 256 → w.cell? ⟨c, j, none⟩ = some (.slice none 0 0)
  soft : ∀ j, w.frozen? ⟨c, j, none⟩ = false
  to : w.cell? ⟨c, 256, none⟩ = some (.slice (some ⟨e, 0, none⟩) 0 2)
  e0 : w.cell? ⟨e, 0, none⟩ = some (.string ⟨#[]⟩)
  e1 : w.cell? ⟨e, 1, none⟩ = some (.string ⟨#[]⟩)
  softe : ∀ j, w.frozen? ⟨e, j, none⟩ = false
theorem fresh_new (w : World) (e1 e2 : TypeId) : Fresh w.heap.size (w.heap.size + 1) ((w.alloc (.cells #[.string ⟨#[]⟩, .string ⟨#[]⟩] e1)).alloc (.cells (Go.Proofs.Tryz.zeroCells137.setIfInBounds 256 (.slice (some ⟨w.heap.size, 0, none⟩) 0 2)) e2)) := by
  have hz : (w.alloc (.cells #[.string ⟨#[]⟩, .string ⟨#[]⟩] e1)).heap.size = w.heap.size + 1 := by simp
  have hr : ∀ j, ((w.alloc (.cells #[.string ⟨#[]⟩, .string ⟨#[]⟩] e1)).alloc (.cells (Go.Proofs.Tryz.zeroCells137.setIfInBounds 256 (.slice (some ⟨w.heap.size, 0, none⟩) 0 2)) e2)).cell? ⟨w.heap.size + 1, j, none⟩ = (Go.Proofs.Tryz.zeroCells137.setIfInBounds 256 (.slice (some ⟨w.heap.size, 0, none⟩) 0 2))[j]? := fun j => by
    have := World.cell?_alloc_mark (w.alloc (.cells #[.string ⟨#[]⟩, .string ⟨#[]⟩] e1)) (Go.Proofs.Tryz.zeroCells137.setIfInBounds 256 (.slice (some ⟨w.heap.size, 0, none⟩) 0 2)) e2 (0, 0) j
    rw [hz] at this
    exact this
  have ho : ∀ j, ((w.alloc (.cells #[.string ⟨#[]⟩, .string ⟨#[]⟩] e1)).alloc (.cells (Go.Proofs.Tryz.zeroCells137.setIfInBounds 256 (.slice (some ⟨w.heap.size, 0, none⟩) 0 2)) e2)).cell? ⟨w.heap.size, j, none⟩ = (#[.string ⟨#[]⟩, .string ⟨#[]⟩] : Array Value)[j]? := fun j => by
    rw [World.cell?_alloc_past _ _ _ (by simp)]
    exact World.cell?_alloc_mark w _ e1 (0, 0) j
  refine ⟨by simp, fun j hj => ?_, fun j => ?_, ?_, (ho 0).trans rfl, (ho 1).trans rfl, fun j => ?_⟩
  · rw [hr j, Array.getElem?_setIfInBounds_ne (by omega), zc_are, Array.getElem?_append_left (by simpa using hj), Array.getElem?_replicate, if_pos hj]
  · have := World.frozen?_alloc_new (w.alloc (.cells #[.string ⟨#[]⟩, .string ⟨#[]⟩] e1)) (Go.Proofs.Tryz.zeroCells137.setIfInBounds 256 (.slice (some ⟨w.heap.size, 0, none⟩) 0 2)) e2 j
    rw [hz] at this
    exact this
  · rw [hr 256, Array.getElem?_setIfInBounds_self_of_lt (by rw [zc_are]; simp)]
  · rw [World.frozen?_alloc_past _ _ _ (by simp)]
    exact World.frozen?_alloc_new w _ e1 j
theorem store_new (w : World) (v : Value) (hv : v.oneCell' = true) (e1 : TypeId) (X : Obj) :
    (storeCells ⟨w.heap.size + 1, 0, none⟩ (Go.Proofs.Tryz.zeroCells137.toList.set 256 v) 0).run Go.Proofs.Tryz.prog ((w.alloc X).alloc (.cells Go.Proofs.Tryz.zeroCells137 137)) = .ok () ((w.alloc X).alloc (.cells (Go.Proofs.Tryz.zeroCells137.setIfInBounds 256 v) 137)) := by
  have hz : (w.alloc X).heap.size = w.heap.size + 1 := by simp
  have := run_storeCells_new (P := Go.Proofs.Tryz.prog) (w.alloc X) 137 Go.Proofs.Tryz.zeroCells137 (Go.Proofs.Tryz.zeroCells137.setIfInBounds 256 v) (by rw [Array.size_setIfInBounds]; kernel_rfl) (by simp) (by
    rw [zc_are, Array.all_eq_true]
    intro i hi
    rw [Array.getElem_setIfInBounds]
    split
    · exact hv
    · by_cases h : i < 256
      · rw [Array.getElem_append_left (by simpa using h), Array.getElem_replicate]; rfl
      · have hi2 := hi
        rw [Array.size_setIfInBounds, Array.size_append, Array.size_replicate] at hi2
        have : i = 256 := by simp at hi2; omega
        exact absurd this.symm (by assumption)
    · simpa using hi)
  rw [hz, Array.toList_setIfInBounds] at this
  exact this

theorem chain_below (n : Nat) (w w1 : World) (hB : Below n w w1) (x1 x2 x3 x4 x5 x6 : Value) (o1 o2 o3 o4 o5 o6 : Obj) (hn : n ≤ w.heap.size) : Below n w ((((((((((((((w1.setCell ⟨n, 0, none⟩ x1).setCell ⟨n + 1, 256, none⟩ x2).setCell ⟨n + 1, 47, none⟩ x3).setCell ⟨n, 1, none⟩ x4).setCell ⟨n + 1, 256, none⟩ x5).setCell ⟨n + 1, 32, none⟩ x6).alloc o1).alloc o2).alloc o3).alloc o4).alloc o5).alloc o6).drew).drew) := by
  have b1 := (((((hB.setCell (p := ⟨n, 0, none⟩) (Nat.le_refl _) x1).setCell (p := ⟨n + 1, 256, none⟩) (Nat.le_succ _) x2).setCell (p := ⟨n + 1, 47, none⟩) (Nat.le_succ _) x3).setCell (p := ⟨n, 1, none⟩) (Nat.le_refl _) x4).setCell (p := ⟨n + 1, 256, none⟩) (Nat.le_succ _) x5).setCell (p := ⟨n + 1, 32, none⟩) (Nat.le_succ _) x6
  have h1 := Nat.le_trans hn b1.size
  have h2 := b1.alloc h1 o1
  have h3 := h2.alloc (Nat.le_trans hn h2.size) o2
  have h4 := h3.alloc (Nat.le_trans hn h3.size) o3
  have h5 := h4.alloc (Nat.le_trans hn h4.size) o4
  have h6 := h5.alloc (Nat.le_trans hn h5.size) o5
  exact (h6.alloc (Nat.le_trans hn h6.size) o6).drew.drew
/-- The table of a byteStringReplacer that takes spaces and strokes away. -/
structure Takes (e c : Nat) (w : World) : Prop where
  ec : e < c
  lt : c < w.heap.size
  hit : ∀ j, j < 256 → j = 32 ∨ j = 47 → ∃ d cp, w.cell? ⟨c, j, none⟩ = some (.slice (some ⟨d, 0, none⟩) 0 cp)
  miss : ∀ j, j < 256 → ¬ (j = 32 ∨ j = 47) → w.cell? ⟨c, j, none⟩ = some (.slice none 0 0)
  to : w.cell? ⟨c, 256, none⟩ = some (.slice (some ⟨e, 0, none⟩) 2 2)
  e0 : w.cell? ⟨e, 0, none⟩ = some (.string ⟨#[47]⟩)
  e1 : w.cell? ⟨e, 1, none⟩ = some (.string ⟨#[32]⟩)
theorem takes_chain (n : Nat) (w1 : World) (hsz : w1.heap.size = n + 2) (F : Fresh n (n + 1) w1) (x y1 y2 : Value) (d1 d2 p1 p2 : Nat) (hy1 : y1 = .slice (some ⟨d1, 0, none⟩) 0 p1) (hy2 : y2 = .slice (some ⟨d2, 0, none⟩) 0 p2) :
    Takes n (n + 1) ((((((w1.setCell ⟨n, 0, none⟩ (.string ⟨#[47]⟩)).setCell ⟨n + 1, 256, none⟩ x).setCell ⟨n + 1, 47, none⟩ y1).setCell ⟨n, 1, none⟩ (.string ⟨#[32]⟩)).setCell ⟨n + 1, 256, none⟩ (.slice (some ⟨n, 0, none⟩) 2 2)).setCell ⟨n + 1, 32, none⟩ y2) := by
  have ne : ∀ (w : World) (a b c d : Nat) (v : Value), ¬ (a = c ∧ b = d) → (w.setCell ⟨a, b, none⟩ v).cell? ⟨c, d, none⟩ = w.cell? ⟨c, d, none⟩ := fun w a b c d v h => World.cell?_setCell_other _ _ _ _ (by simpa using h)
  have hr := F.row
  refine ⟨by omega, by simp [World.setCell, hsz], fun j hj h => ?_, fun j hj h => ?_, ?_, ?_, ?_⟩
  · rcases h with rfl | rfl
    · refine ⟨d2, p2, ?_⟩
      rw [← hy2]
      refine World.cell?_setCell_same _ _ _ (?_ : _ = some (.slice none 0 0))
      rw [ne _ _ _ _ _ _ (by omega), ne _ _ _ _ _ _ (by omega), ne _ _ _ _ _ _ (by omega), ne _ _ _ _ _ _ (by omega), ne _ _ _ _ _ _ (by omega)]
      exact hr 32 (by decide)
    · refine ⟨d1, p1, ?_⟩
      rw [← hy1, ne _ _ _ _ _ _ (by omega), ne _ _ _ _ _ _ (by omega), ne _ _ _ _ _ _ (by omega)]
      refine World.cell?_setCell_same _ _ _ (?_ : _ = some (.slice none 0 0))
      rw [ne _ _ _ _ _ _ (by omega), ne _ _ _ _ _ _ (by omega)]
      exact hr 47 (by decide)
  · rw [ne _ _ _ _ _ _ (by omega), ne _ _ _ _ _ _ (by omega), ne _ _ _ _ _ _ (by omega), ne _ _ _ _ _ _ (by omega), ne _ _ _ _ _ _ (by omega), ne _ _ _ _ _ _ (by omega)]
    exact hr j hj
  · rw [ne _ _ _ _ _ _ (by omega)]
    refine World.cell?_setCell_same _ _ _ (?_ : _ = some x)
    rw [ne _ _ _ _ _ _ (by omega), ne _ _ _ _ _ _ (by omega)]
    refine World.cell?_setCell_same _ _ _ (?_ : _ = some (.slice (some ⟨n, 0, none⟩) 0 2))
    rw [ne _ _ _ _ _ _ (by omega)]
    exact F.to
  · rw [ne _ _ _ _ _ _ (by omega), ne _ _ _ _ _ _ (by omega), ne _ _ _ _ _ _ (by omega), ne _ _ _ _ _ _ (by omega), ne _ _ _ _ _ _ (by omega)]
    exact World.cell?_setCell_same _ _ _ F.e0
  · rw [ne _ _ _ _ _ _ (by omega), ne _ _ _ _ _ _ (by omega)]
    refine World.cell?_setCell_same _ _ _ (?_ : _ = some (.string ⟨#[]⟩))
    rw [ne _ _ _ _ _ _ (by omega), ne _ _ _ _ _ _ (by omega), ne _ _ _ _ _ _ (by omega)]
    exact F.e1
theorem Takes.keep {e c : Nat} {w w' : World} (h : Takes e c w) (hs : w.heap.size ≤ w'.heap.size) (k1 : w'.heap[e]? = w.heap[e]?) (k2 : w'.heap[c]? = w.heap[c]?) : Takes e c w' := by
  have ke : ∀ j, w'.cell? ⟨e, j, none⟩ = w.cell? ⟨e, j, none⟩ := fun j => World.cell?_of_block (w := w) k1
  have kc : ∀ j, w'.cell? ⟨c, j, none⟩ = w.cell? ⟨c, j, none⟩ := fun j => World.cell?_of_block (w := w) k2
  exact ⟨h.ec, Nat.lt_of_lt_of_le h.lt hs, fun j hj hh => by rw [kc]; exact h.hit j hj hh, fun j hj hh => by rw [kc]; exact h.miss j hj hh, by rw [kc]; exact h.to, by rw [ke]; exact h.e0, by rw [ke]; exact h.e1⟩
theorem Takes.alloc {e c : Nat} {w : World} (h : Takes e c w) (o : Obj) : Takes e c (w.alloc o) :=
  h.keep (by simp) (Below.heap_alloc w o e (Nat.lt_trans h.ec h.lt)) (Below.heap_alloc w o c h.lt)
theorem Takes.drew {e c : Nat} {w : World} (h : Takes e c w) : Takes e c w.drew := h.keep (Nat.le_refl _) rfl rfl

set_option maxHeartbeats 3200000 in
set_option maxRecDepth 1000000 in
theorem build_bare (rb o cap : Nat) (w : World) (h : Four rb o cap ⟨#[32]⟩ ⟨#[]⟩ ⟨#[47]⟩ ⟨#[]⟩ w) (hrb : rb < w.heap.size) (ho : o < w.heap.size) :
    Calls Go.Proofs.Tryz.prog 79 #[.pointer (some ⟨rb, 0, none⟩)] w fun en w' => ∃ c, en = .returned (.iface 138 (.pointer (some ⟨c, 0, none⟩))) ∧ ∃ e, w.heap.size ≤ e ∧ Takes e c w' ∧ Below w.heap.size w w' := by
  obtain ⟨hs, h0, h1, h2, h3⟩ := h
  have hmk : ∀ w : World, (Instr.makeSlice 24 (.int .i64 0) (.int .i64 2)).run Go.Proofs.Tryz.prog w = .ok (.slice (some ⟨w.heap.size, 0, none⟩) 0 2) (w.alloc (.cells #[.string ⟨#[]⟩, .string ⟨#[]⟩] 9)) := fun w => by
    have h := run_make_room 24 9 (.string ⟨#[]⟩) 16 Go.Proofs.Tryz.underlying24 (by kernel_rfl) rfl .i64 .i64 2 (by decide) (by decide) w
    rw [show madeCells #[Value.string ⟨#[]⟩] 2 = #[Value.string ⟨#[]⟩, Value.string ⟨#[]⟩] from by kernel_rfl] at h
    exact h
  have hst := store_new w (.slice (some ⟨w.heap.size, 0, none⟩) 0 2) rfl 9 (.cells #[.string ⟨#[]⟩, .string ⟨#[]⟩] 9)
  go_enter Go.Proofs.Tryz.func79, Go.Proofs.Tryz.ntmps79
  go_wp2
  refine wp_loop_rounds 3 ?_
  rw [rounds_succ]
  go_wp2
  rw [rounds_succ]
  go_wp2
  rw [rounds_succ]
  go_wp2
  have F := fresh_new w 9 137
  have hB := ((Below.refl w.heap.size w).alloc (Nat.le_refl _) (.cells #[.string ⟨#[]⟩, .string ⟨#[]⟩] 9)).alloc (by simp) (.cells (Go.Proofs.Tryz.zeroCells137.setIfInBounds 256 (.slice (some ⟨w.heap.size, 0, none⟩) 0 2)) 137)
  have hsz : ((w.alloc (.cells #[.string ⟨#[]⟩, .string ⟨#[]⟩] 9)).alloc (.cells (Go.Proofs.Tryz.zeroCells137.setIfInBounds 256 (.slice (some ⟨w.heap.size, 0, none⟩) 0 2)) 137)).heap.size = w.heap.size + 2 := by simp
  generalize hW1 : (w.alloc (.cells #[.string ⟨#[]⟩, .string ⟨#[]⟩] 9)).alloc (.cells (Go.Proofs.Tryz.zeroCells137.setIfInBounds 256 (.slice (some ⟨w.heap.size, 0, none⟩) 0 2)) 137) = w1 at *
  clear hst hW1 hmk
  have e0 := (hB.cell (p := ⟨o, 0, none⟩) ho).trans h0
  have e1 := (hB.cell (p := ⟨o, 1, none⟩) ho).trans h1
  have e2 := (hB.cell (p := ⟨o, 2, none⟩) ho).trans h2
  have e3 := (hB.cell (p := ⟨o, 3, none⟩) ho).trans h3
  have v32 : ∀ h, ((⟨#[32]⟩ : ByteArray)[0]'h).toNat = 32 := fun _ => rfl
  have v47 : ∀ h, ((⟨#[47]⟩ : ByteArray)[0]'h).toNat = 47 := fun _ => rfl
  have r32 := F.row 32 (by decide)
  have r47 := F.row 47 (by decide)
  have r256 := F.to
  have s0 := F.e0
  have s1 := F.e1
  have z := F.soft
  have ze := F.softe
  have HF := AsideW.mk F
  have HB := AsideW.mk hB
  clear F hB h0 h1 h2 h3 hs
  have qT : ∀ (w : World) (a : Option Addr) (n c n' c' : Nat), (binOp .eql 22 (.slice a n c) (.slice none n' c')).run Go.Proofs.Tryz.prog w = .ok (.bool a.isNone) w := fun w a n c n' c' => Lib.run_eql_slice_nil w _ _ a n c n' c' Go.Proofs.Tryz.underlying22
  have hcv : ∀ (x : UInt8) (n : Nat) (w : World), n = w.heap.size → (convert 22 9 (.slice (some ⟨n, 0, none⟩) 1 1)).run Go.Proofs.Tryz.prog (w.alloc (.cells #[.int .u8 (x.toNat : Int)] 5)) = .ok (.string ⟨#[x]⟩) (w.alloc (.cells #[.int .u8 (x.toNat : Int)] 5)) := fun x n w hn => by
    subst hn
    exact run_convert_bytes_back (P := Go.Proofs.Tryz.prog) _ 22 9 5 ⟨w.heap.size, 0, none⟩ 1 [x] Go.Proofs.Tryz.underlying22 Go.Proofs.Tryz.underlying5 Go.Proofs.Tryz.underlying9 (fun j hj => by
      obtain rfl : j = 0 := by simpa using hj
      simp [Addr.add])
  have hcvd : ∀ (x : UInt8) (n : Nat) (w : World), n = w.heap.size → (convert 22 9 (.slice (some ⟨n, 0, none⟩) 1 1)).run Go.Proofs.Tryz.prog (w.alloc (.cells #[.int .u8 (x.toNat : Int)] 5)).drew = .ok (.string ⟨#[x]⟩) (w.alloc (.cells #[.int .u8 (x.toNat : Int)] 5)).drew := fun x n w hn => by
    subst hn
    exact run_convert_bytes_back (P := Go.Proofs.Tryz.prog) _ 22 9 5 ⟨w.heap.size, 0, none⟩ 1 [x] Go.Proofs.Tryz.underlying22 Go.Proofs.Tryz.underlying5 Go.Proofs.Tryz.underlying9 (fun j hj => by
      obtain rfl : j = 0 := by simpa using hj
      simp [Addr.add])
  have cv47 : ∀ (n : Nat) (w : World), n = w.heap.size → (convert 22 9 (.slice (some ⟨n, 0, none⟩) 1 1)).run Go.Proofs.Tryz.prog (w.alloc (.cells #[.int .u8 47] 5)) = .ok (.string ⟨#[47]⟩) (w.alloc (.cells #[.int .u8 47] 5)) := hcv 47
  have cv32d : ∀ (n : Nat) (w : World), n = w.heap.size → (convert 22 9 (.slice (some ⟨n, 0, none⟩) 1 1)).run Go.Proofs.Tryz.prog ((w.alloc (.cells #[.int .u8 32] 5)).drew) = .ok (.string ⟨#[32]⟩) ((w.alloc (.cells #[.int .u8 32] 5)).drew) := hcvd 32
  clear hcvd
  clear hcv
  obtain ⟨cp, ob, hconv⟩ : ∃ (cp : World → Nat) (ob : World → Obj), ∀ w : World, (convert 9 22 (.string ⟨#[]⟩)).run Go.Proofs.Tryz.prog w = .ok (.slice (some ⟨w.heap.size, 0, none⟩) 0 (cp w)) (w.alloc (ob w)).drew := ⟨_, _, fun w => run_bytes_of_string w 9 22 5 ⟨#[]⟩ Go.Proofs.Tryz.underlying9 Go.Proofs.Tryz.underlying22 Go.Proofs.Tryz.underlying5⟩
  have n1 : ¬ o = w.heap.size := by omega
  have n2 : ¬ w.heap.size = o := by omega
  have n3 : ¬ o = w.heap.size + 1 := by omega
  have n4 : ¬ w.heap.size + 1 = o := by omega
  have n5 : o < w.heap.size + 2 := by omega
  have n6 : o < w.heap.size + 3 := by omega
  have n7 : o < w.heap.size + 4 := by omega
  have n8 : o < w.heap.size + 5 := by omega
  refine wp_loop_rounds 3 ?_
  rw [rounds_succ]
  go_wp2
  rw [rounds_succ]
  go_wp2
  rw [rounds_succ]
  go_wp2
  go_ret
  have hB := HB.out
  refine ⟨w.heap.size + 1, rfl, w.heap.size, Nat.le_refl _, (((((((takes_chain w.heap.size w1 hsz HF.out _ _ _ _ _ _ _ rfl rfl).alloc _).alloc _).alloc _).alloc _).alloc _).alloc _).drew.drew, ?_⟩
  exact chain_below w.heap.size w w1 hB _ _ _ _ _ _ _ _ _ _ _ _ (Nat.le_refl _)
end Go.Proofs.YtgecnbafmlecjaaGreatDoor.Ev
