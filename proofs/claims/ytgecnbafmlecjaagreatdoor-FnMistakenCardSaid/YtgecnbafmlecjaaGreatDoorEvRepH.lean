/- (*byteStringReplacer).Replace at longer texts: what goes is counted first. -/
import Derived.Test.YtgecnbafmlecjaaGreatDoorEvRepG
import Derived.Test.YtgecnbafmlecjaaGreatDoorShelf
set_option linter.unusedVariables false
set_option linter.unusedSimpArgs false
set_option linter.unnecessarySimpa false
namespace Go.Proofs.YtgecnbafmlecjaaGreatDoor.Ev
open Go.RowKit

theorem count_kept (s : ByteArray) : (kept s s.size).length + Lib.countByte s.data.toList 47 + Lib.countByte s.data.toList 32 = s.size := by
  have hl : s.data.toList.length = s.size := by simp
  unfold kept
  rw [show s.data.toList.take s.size = s.data.toList from List.take_of_length_le (by omega), ← hl]
  generalize s.data.toList = l
  induction l with
  | nil => rfl
  | cons b l ih =>
    have e : ∀ x : UInt8, (b == x) = decide (b.toNat = x.toNat) := fun x => by
      by_cases h : b = x
      · subst h; simp
      · have : ¬ b.toNat = x.toNat := fun hh => h (UInt8.toNat_inj.1 hh)
        simp [h, this]
    unfold Lib.countByte at ih ⊢
    rw [List.filter_cons, List.count_cons, List.count_cons, e 47, e 32, List.length_cons, ← ih]
    unfold gone
    by_cases e1 : b.toNat = 47
    · simp [e1]; omega
    · by_cases e2 : b.toNat = 32
      · simp [e2]; omega
      · simp [e1, e2]; omega

theorem RowAt.drew {g n : Nat} {t : Nat → Int} {w : World} (h : RowAt g n t w) : RowAt g n t w.drew := ⟨h.lt, fun j hj => by rw [World.cell?_drew]; exact h.cell j hj, fun j hj => h.soft j hj⟩
theorem make_bytes_at (m : Nat) (hm : m ≤ 140737488355328) : ∃ X : Obj, (∀ w : World, (Instr.makeSlice 22 (.int .i64 (m : Int)) (.int .i64 (m : Int))).run Go.Proofs.Tryz.prog w = .ok (.slice (some ⟨w.heap.size, 0, none⟩) m m) (w.alloc X)) ∧ ∀ w : World, Below w.heap.size w (w.alloc X) ∧ RowAt w.heap.size m (fun _ => 0) (w.alloc X) := by
  refine ⟨.cells (madeCells #[Value.int IntKind.u8 0] m) 5, fun w => ?_, fun w => ?_⟩
  · have hi : Go.Proofs.Tryz.prog.info? 5 = some Go.Proofs.Tryz.t5 := by kernel_rfl
    have h := run_make (P := Go.Proofs.Tryz.prog) w 22 5 Go.Proofs.Tryz.t5 (.int .u8 0) Go.Proofs.Tryz.underlying22 hi (by kernel_rfl) .i64 .i64 m m (by omega) (by omega) (by rw [show Go.Proofs.Tryz.t5.bytes = 1 from rfl]; omega) (by omega)
    rw [Int.toNat_natCast, show m * Go.Proofs.Tryz.t5.size = m from by rw [show Go.Proofs.Tryz.t5.size = 1 from rfl, Nat.mul_one], show (Value.int IntKind.u8 0).cells = #[Value.int IntKind.u8 0] from rfl] at h
    exact h
  · refine ⟨(Below.refl _ w).alloc (Nat.le_refl _) _, ⟨by simp, fun j hj => ?_, fun j hj => by simp⟩⟩
    have h1 := World.cell?_alloc_mark w (madeCells #[Value.int IntKind.u8 0] m) 5 (0, 0) j
    refine h1.trans ?_
    unfold madeCells
    have hj' : j < (Array.range m).size := by simpa using hj
    rw [Array.getElem?_map, Array.getElem?_eq_getElem hj']
    simp [Nat.mod_one]
set_option maxHeartbeats 3200000 in
set_option maxRecDepth 1000000 in
theorem take_big (e c : Nat) (s : ByteArray) (hs : 16 ≤ s.size) (hs2 : s.size ≤ 140737488355328) (w : World) (h : Takes e c w) :
    Calls Go.Proofs.Tryz.prog 164 #[.pointer (some ⟨c, 0, none⟩), .string s] w fun e w' => e = .returned (.string ⟨(kept s s.size).toArray⟩) ∧ Below w.heap.size w w' := by
  have qT : ∀ (w : World) (a : Option Addr) (n c n' c' : Nat), (binOp .eql 22 (.slice a n c) (.slice none n' c')).run Go.Proofs.Tryz.prog w = .ok (.bool a.isNone) w := fun w a n c n' c' => Lib.run_eql_slice_nil w _ _ a n c n' c' Go.Proofs.Tryz.underlying22
  have qN : ∀ (w : World) (a : Option Addr) (n c n' c' : Nat), (binOp .neq 22 (.slice a n c) (.slice none n' c')).run Go.Proofs.Tryz.prog w = .ok (.bool (!a.isNone)) w := fun w a n c n' c' => run_neq_slice_nil_any w _ _ a n c n' c' Go.Proofs.Tryz.underlying22
  have hto := h.«to»
  have e0 := h.e0
  have e1 := h.e1
  obtain ⟨d1, p1, r47⟩ := h.hit 47 (by decide) (.inr rfl)
  obtain ⟨d2, p2, r32⟩ := h.hit 32 (by decide) (.inl rfl)
  have v32 : ∀ h, ((⟨#[32]⟩ : ByteArray)[0]'h).toNat = 32 := fun _ => rfl
  have v47 : ∀ h, ((⟨#[47]⟩ : ByteArray)[0]'h).toNat = 47 := fun _ => rfl
  have hcl := h.lt
  have HT := AsideW.mk h
  clear h
  have hck := count_kept s
  have k47 := Go.Proofs.Tryz.strings_Count_one s 47
  have k32 := Go.Proofs.Tryz.strings_Count_one s 32
  generalize Lib.countByte s.data.toList 47 = n1 at *
  generalize Lib.countByte s.data.toList 32 = n2 at *
  have K47 := AsideW.mk k47
  have K32 := AsideW.mk k32
  clear k47 k32
  have hMB : ∀ m : Nat, m ≤ 140737488355328 → ∃ X : Obj, (∀ w : World, (Instr.makeSlice 22 (.int .i64 (m : Int)) (.int .i64 (m : Int))).run Go.Proofs.Tryz.prog w = .ok (.slice (some ⟨w.heap.size, 0, none⟩) m m) (w.alloc X)) ∧ ∀ w : World, Below w.heap.size w (w.alloc X) ∧ RowAt w.heap.size m (fun _ => 0) (w.alloc X) := make_bytes_at
  obtain ⟨m, hm⟩ : ∃ m, m = (kept s s.size).length := ⟨_, rfl⟩
  have hmle := kept_le s s.size
  rw [← hm] at hck hmle
  obtain ⟨X, hmk, hMB⟩ := hMB m (by omega)
  have MB := hMB
  have HX := AsideW.mk hMB
  clear hMB
  have u1 : n1 ≤ s.size := by omega
  have u2 : n2 ≤ s.size := by omega
  have HA := AsideW.mk (kept_all s)
  rw [← hm] at HA
  have HM := AsideW.mk hm
  clear hm MB
  by_cases z1 : n1 = 0
  · subst z1
    by_cases z2 : n2 = 0
    · subst z2
      obtain rfl : m = s.size := by omega
      have HQ := AsideW.mk (HA.out rfl)
      clear HA hck
      go_enter Go.Proofs.Tryz.func164, Go.Proofs.Tryz.ntmps164
      go_wp2
      refine wp_loop_rounds 3 ?_
      rw [rounds_succ]
      go_wp2_with (go_at_call 166; refine (K47.out _).mono ?_; rintro e w' ⟨rfl, hw⟩; obtain rfl := hw.symm)
      go_wp2
      rw [rounds_succ]
      go_wp2_with (go_at_call 166; refine (K32.out _).mono ?_; rintro e w' ⟨rfl, hw⟩; obtain rfl := hw.symm)
      go_wp2
      rw [rounds_succ]
      go_wp2
      go_ret
      exact ⟨by rw [HQ.out]; rfl, Below.refl _ _⟩
    · have hmi : ((s.size : Int) + -(n2 : Int)) = (m : Int) := by omega
      clear hck HA
      go_enter Go.Proofs.Tryz.func164, Go.Proofs.Tryz.ntmps164
      go_wp2
      refine wp_loop_rounds 3 ?_
      rw [rounds_succ]
      go_wp2_with (go_at_call 166; refine (K47.out _).mono ?_; rintro e w' ⟨rfl, hw⟩; obtain rfl := hw.symm)
      go_wp2
      rw [rounds_succ]
      go_wp2_with (go_at_call 166; refine (K32.out _).mono ?_; rintro e w' ⟨rfl, hw⟩; obtain rfl := hw.symm)
      go_region
      go_wp2
      rw [rounds_succ]
      go_wp2
      go_loopw [13, 14] (fun jv i wq => ∃ k : Nat, k ≤ s.size ∧ i = .int .i64 k ∧ jv = .int .i64 ((kept s k).length : Nat) ∧ Below w.heap.size w wq ∧ RowAt w.heap.size m (fun j => (((kept s k).getD j 0).toNat : Int)) wq) (fun _ i _ => s.size - (intOf i).toNat)
      case atStart => exact ⟨0, Nat.zero_le _, rfl, rfl, by first | exact (HX.out w).1 | exact (HX.out w).1.drew | exact (HX.out w).1.drew.drew, by first | exact (HX.out w).2 | exact (HX.out w).2.drew | exact (HX.out w).2.drew.drew⟩
      case round =>
        obtain ⟨k, hk, rfl, rfl, hB, hR⟩ := hrel
        by_cases hlt : k < s.size
        · have hb1 : s[k].toNat < 256 := UInt8.toNat_lt _
          have hks := kept_succ s k hlt
          have hle := kept_le s k
          have hmo := kept_mono s k hk
          have hmo2 := kept_mono s (k + 1) hlt
          rw [← HM.out] at hmo hmo2
          rw [ch_at s k hlt] at hks
          have hkc : ∀ j, wr.cell? ⟨c, j, none⟩ = w.cell? ⟨c, j, none⟩ := fun j => hB.cell (p := ⟨c, j, none⟩) hcl
          have hg : (gone s[k].toNat = true ∧ (s[k].toNat = 32 ∨ s[k].toNat = 47)) ∨ (gone s[k].toNat = false ∧ ¬ (s[k].toNat = 32 ∨ s[k].toNat = 47)) := by
            unfold gone
            by_cases e1 : s[k].toNat = 32 <;> by_cases e2 : s[k].toNat = 47 <;> simp [e1, e2]
          rcases hg with ⟨hg, ho⟩ | ⟨hg, ho⟩
          · obtain ⟨d, cp, hcell⟩ := HT.out.hit _ hb1 ho
            rw [← hkc] at hcell
            rw [hg, if_pos rfl, List.append_nil] at hks
            have HK := AsideW.mk hks
            have HR := AsideW.mk hR
            have HBB := AsideW.mk hB
            clear hg ho hks hR hB hmo2 hkc
            generalize hx : s[k].toNat = x at *
            generalize hq : (kept s k).length = q at *
            have hcp := fun (ty : TypeId) (a : Option Addr) (n n' : Nat) (W : World) => copy_none ty a n n' d cp W
            go_wp2
            go_region
            all_goals (try go_wp2)
            all_goals go_roundw
            case rel =>
              have hks := HK.out
              have hR := HR.out
              exact ⟨k + 1, hlt, by go_num, by rw [hks, hq], HBB.out.drew, by rw [hks]; exact ⟨hR.lt, fun j hj => by rw [World.cell?_drew]; exact hR.cell j hj, fun j hj => hR.soft j hj⟩⟩
            case measure => simp [intOf]; omega
          · have hcell := HT.out.miss _ hb1 ho
            rw [← hkc] at hcell
            rw [hg, if_neg (by decide)] at hks
            rw [hks, List.length_append, List.length_singleton] at hmo2
            have c1 := hR.cell _ (Nat.lt_of_succ_le hmo2)
            have c2 := hR.soft _ (Nat.lt_of_succ_le hmo2)
            have HK := AsideW.mk hks
            have HR := AsideW.mk hR
            have HBB := AsideW.mk hB
            clear hg ho hks hR hB hkc
            generalize hx : s[k].toNat = x at *
            generalize hq : (kept s k).length = q at *
            go_wp2
            go_roundw
            case rel =>
              have hks := HK.out
              refine ⟨k + 1, hlt, by go_num, by rw [hks, List.length_append, List.length_singleton, hq]; rfl, HBB.out.setCell (Nat.le_refl _) _, ?_⟩
              rw [hks, ← hx]
              exact HR.out.set q _ (by omega) fun j hj => by rw [getD_snoc, hq]
            case measure => simp [intOf]; omega
        · obtain rfl : k = s.size := by omega
          have hconv := run_convert_bytes_back (P := Go.Proofs.Tryz.prog) wr 22 9 5 ⟨w.heap.size, 0, none⟩ m (kept s s.size) Go.Proofs.Tryz.underlying22 Go.Proofs.Tryz.underlying5 Go.Proofs.Tryz.underlying9 (fun j hj => by
            have e1 := hR.cell j (by rw [HM.out]; exact hj)
            rw [show ((⟨w.heap.size, 0, none⟩ : Addr).add j) = ⟨w.heap.size, j, none⟩ by rcases j with _ | j <;> simp [Addr.add]]
            rw [e1, List.getD_eq_getElem?_getD, List.getElem?_eq_getElem hj]
            rfl)
          rw [← HM.out] at hconv
          have HBB := AsideW.mk hB
          clear hR hB
          generalize hq : (⟨(kept s s.size).toArray⟩ : ByteArray) = q at *
          go_wp2
          go_ret
          exact ⟨by rw [hq]; rfl, HBB.out⟩
  · by_cases z2 : n2 = 0
    · subst z2
      have hmi : ((s.size : Int) + -(n1 : Int)) = (m : Int) := by omega
      clear hck HA
      go_enter Go.Proofs.Tryz.func164, Go.Proofs.Tryz.ntmps164
      go_wp2
      refine wp_loop_rounds 3 ?_
      rw [rounds_succ]
      go_wp2_with (go_at_call 166; refine (K47.out _).mono ?_; rintro e w' ⟨rfl, hw⟩; obtain rfl := hw.symm)
      go_region
      go_wp2
      rw [rounds_succ]
      go_wp2_with (go_at_call 166; refine (K32.out _).mono ?_; rintro e w' ⟨rfl, hw⟩; obtain rfl := hw.symm)
      go_wp2
      rw [rounds_succ]
      go_wp2
      go_loopw [13, 14] (fun jv i wq => ∃ k : Nat, k ≤ s.size ∧ i = .int .i64 k ∧ jv = .int .i64 ((kept s k).length : Nat) ∧ Below w.heap.size w wq ∧ RowAt w.heap.size m (fun j => (((kept s k).getD j 0).toNat : Int)) wq) (fun _ i _ => s.size - (intOf i).toNat)
      case atStart => exact ⟨0, Nat.zero_le _, rfl, rfl, by first | exact (HX.out w).1 | exact (HX.out w).1.drew | exact (HX.out w).1.drew.drew, by first | exact (HX.out w).2 | exact (HX.out w).2.drew | exact (HX.out w).2.drew.drew⟩
      case round =>
        obtain ⟨k, hk, rfl, rfl, hB, hR⟩ := hrel
        by_cases hlt : k < s.size
        · have hb1 : s[k].toNat < 256 := UInt8.toNat_lt _
          have hks := kept_succ s k hlt
          have hle := kept_le s k
          have hmo := kept_mono s k hk
          have hmo2 := kept_mono s (k + 1) hlt
          rw [← HM.out] at hmo hmo2
          rw [ch_at s k hlt] at hks
          have hkc : ∀ j, wr.cell? ⟨c, j, none⟩ = w.cell? ⟨c, j, none⟩ := fun j => hB.cell (p := ⟨c, j, none⟩) hcl
          have hg : (gone s[k].toNat = true ∧ (s[k].toNat = 32 ∨ s[k].toNat = 47)) ∨ (gone s[k].toNat = false ∧ ¬ (s[k].toNat = 32 ∨ s[k].toNat = 47)) := by
            unfold gone
            by_cases e1 : s[k].toNat = 32 <;> by_cases e2 : s[k].toNat = 47 <;> simp [e1, e2]
          rcases hg with ⟨hg, ho⟩ | ⟨hg, ho⟩
          · obtain ⟨d, cp, hcell⟩ := HT.out.hit _ hb1 ho
            rw [← hkc] at hcell
            rw [hg, if_pos rfl, List.append_nil] at hks
            have HK := AsideW.mk hks
            have HR := AsideW.mk hR
            have HBB := AsideW.mk hB
            clear hg ho hks hR hB hmo2 hkc
            generalize hx : s[k].toNat = x at *
            generalize hq : (kept s k).length = q at *
            have hcp := fun (ty : TypeId) (a : Option Addr) (n n' : Nat) (W : World) => copy_none ty a n n' d cp W
            go_wp2
            go_region
            all_goals (try go_wp2)
            all_goals go_roundw
            case rel =>
              have hks := HK.out
              have hR := HR.out
              exact ⟨k + 1, hlt, by go_num, by rw [hks, hq], HBB.out.drew, by rw [hks]; exact ⟨hR.lt, fun j hj => by rw [World.cell?_drew]; exact hR.cell j hj, fun j hj => hR.soft j hj⟩⟩
            case measure => simp [intOf]; omega
          · have hcell := HT.out.miss _ hb1 ho
            rw [← hkc] at hcell
            rw [hg, if_neg (by decide)] at hks
            rw [hks, List.length_append, List.length_singleton] at hmo2
            have c1 := hR.cell _ (Nat.lt_of_succ_le hmo2)
            have c2 := hR.soft _ (Nat.lt_of_succ_le hmo2)
            have HK := AsideW.mk hks
            have HR := AsideW.mk hR
            have HBB := AsideW.mk hB
            clear hg ho hks hR hB hkc
            generalize hx : s[k].toNat = x at *
            generalize hq : (kept s k).length = q at *
            go_wp2
            go_roundw
            case rel =>
              have hks := HK.out
              refine ⟨k + 1, hlt, by go_num, by rw [hks, List.length_append, List.length_singleton, hq]; rfl, HBB.out.setCell (Nat.le_refl _) _, ?_⟩
              rw [hks, ← hx]
              exact HR.out.set q _ (by omega) fun j hj => by rw [getD_snoc, hq]
            case measure => simp [intOf]; omega
        · obtain rfl : k = s.size := by omega
          have hconv := run_convert_bytes_back (P := Go.Proofs.Tryz.prog) wr 22 9 5 ⟨w.heap.size, 0, none⟩ m (kept s s.size) Go.Proofs.Tryz.underlying22 Go.Proofs.Tryz.underlying5 Go.Proofs.Tryz.underlying9 (fun j hj => by
            have e1 := hR.cell j (by rw [HM.out]; exact hj)
            rw [show ((⟨w.heap.size, 0, none⟩ : Addr).add j) = ⟨w.heap.size, j, none⟩ by rcases j with _ | j <;> simp [Addr.add]]
            rw [e1, List.getD_eq_getElem?_getD, List.getElem?_eq_getElem hj]
            rfl)
          rw [← HM.out] at hconv
          have HBB := AsideW.mk hB
          clear hR hB
          generalize hq : (⟨(kept s s.size).toArray⟩ : ByteArray) = q at *
          go_wp2
          go_ret
          exact ⟨by rw [hq]; rfl, HBB.out⟩
    · have hmi : ((s.size : Int) + -(n1 : Int) + -(n2 : Int)) = (m : Int) := by omega
      clear hck HA
      go_enter Go.Proofs.Tryz.func164, Go.Proofs.Tryz.ntmps164
      go_wp2
      refine wp_loop_rounds 3 ?_
      rw [rounds_succ]
      go_wp2_with (go_at_call 166; refine (K47.out _).mono ?_; rintro e w' ⟨rfl, hw⟩; obtain rfl := hw.symm)
      go_region
      go_wp2
      rw [rounds_succ]
      go_wp2_with (go_at_call 166; refine (K32.out _).mono ?_; rintro e w' ⟨rfl, hw⟩; obtain rfl := hw.symm)
      go_region
      go_wp2
      rw [rounds_succ]
      go_wp2
      go_loopw [13, 14] (fun jv i wq => ∃ k : Nat, k ≤ s.size ∧ i = .int .i64 k ∧ jv = .int .i64 ((kept s k).length : Nat) ∧ Below w.heap.size w wq ∧ RowAt w.heap.size m (fun j => (((kept s k).getD j 0).toNat : Int)) wq) (fun _ i _ => s.size - (intOf i).toNat)
      case atStart => exact ⟨0, Nat.zero_le _, rfl, rfl, by first | exact (HX.out w).1 | exact (HX.out w).1.drew | exact (HX.out w).1.drew.drew, by first | exact (HX.out w).2 | exact (HX.out w).2.drew | exact (HX.out w).2.drew.drew⟩
      case round =>
        obtain ⟨k, hk, rfl, rfl, hB, hR⟩ := hrel
        by_cases hlt : k < s.size
        · have hb1 : s[k].toNat < 256 := UInt8.toNat_lt _
          have hks := kept_succ s k hlt
          have hle := kept_le s k
          have hmo := kept_mono s k hk
          have hmo2 := kept_mono s (k + 1) hlt
          rw [← HM.out] at hmo hmo2
          rw [ch_at s k hlt] at hks
          have hkc : ∀ j, wr.cell? ⟨c, j, none⟩ = w.cell? ⟨c, j, none⟩ := fun j => hB.cell (p := ⟨c, j, none⟩) hcl
          have hg : (gone s[k].toNat = true ∧ (s[k].toNat = 32 ∨ s[k].toNat = 47)) ∨ (gone s[k].toNat = false ∧ ¬ (s[k].toNat = 32 ∨ s[k].toNat = 47)) := by
            unfold gone
            by_cases e1 : s[k].toNat = 32 <;> by_cases e2 : s[k].toNat = 47 <;> simp [e1, e2]
          rcases hg with ⟨hg, ho⟩ | ⟨hg, ho⟩
          · obtain ⟨d, cp, hcell⟩ := HT.out.hit _ hb1 ho
            rw [← hkc] at hcell
            rw [hg, if_pos rfl, List.append_nil] at hks
            have HK := AsideW.mk hks
            have HR := AsideW.mk hR
            have HBB := AsideW.mk hB
            clear hg ho hks hR hB hmo2 hkc
            generalize hx : s[k].toNat = x at *
            generalize hq : (kept s k).length = q at *
            have hcp := fun (ty : TypeId) (a : Option Addr) (n n' : Nat) (W : World) => copy_none ty a n n' d cp W
            go_wp2
            go_region
            all_goals (try go_wp2)
            all_goals go_roundw
            case rel =>
              have hks := HK.out
              have hR := HR.out
              exact ⟨k + 1, hlt, by go_num, by rw [hks, hq], HBB.out.drew, by rw [hks]; exact ⟨hR.lt, fun j hj => by rw [World.cell?_drew]; exact hR.cell j hj, fun j hj => hR.soft j hj⟩⟩
            case measure => simp [intOf]; omega
          · have hcell := HT.out.miss _ hb1 ho
            rw [← hkc] at hcell
            rw [hg, if_neg (by decide)] at hks
            rw [hks, List.length_append, List.length_singleton] at hmo2
            have c1 := hR.cell _ (Nat.lt_of_succ_le hmo2)
            have c2 := hR.soft _ (Nat.lt_of_succ_le hmo2)
            have HK := AsideW.mk hks
            have HR := AsideW.mk hR
            have HBB := AsideW.mk hB
            clear hg ho hks hR hB hkc
            generalize hx : s[k].toNat = x at *
            generalize hq : (kept s k).length = q at *
            go_wp2
            go_roundw
            case rel =>
              have hks := HK.out
              refine ⟨k + 1, hlt, by go_num, by rw [hks, List.length_append, List.length_singleton, hq]; rfl, HBB.out.setCell (Nat.le_refl _) _, ?_⟩
              rw [hks, ← hx]
              exact HR.out.set q _ (by omega) fun j hj => by rw [getD_snoc, hq]
            case measure => simp [intOf]; omega
        · obtain rfl : k = s.size := by omega
          have hconv := run_convert_bytes_back (P := Go.Proofs.Tryz.prog) wr 22 9 5 ⟨w.heap.size, 0, none⟩ m (kept s s.size) Go.Proofs.Tryz.underlying22 Go.Proofs.Tryz.underlying5 Go.Proofs.Tryz.underlying9 (fun j hj => by
            have e1 := hR.cell j (by rw [HM.out]; exact hj)
            rw [show ((⟨w.heap.size, 0, none⟩ : Addr).add j) = ⟨w.heap.size, j, none⟩ by rcases j with _ | j <;> simp [Addr.add]]
            rw [e1, List.getD_eq_getElem?_getD, List.getElem?_eq_getElem hj]
            rfl)
          rw [← HM.out] at hconv
          have HBB := AsideW.mk hB
          clear hR hB
          generalize hq : (⟨(kept s s.size).toArray⟩ : ByteArray) = q at *
          go_wp2
          go_ret
          exact ⟨by rw [hq]; rfl, HBB.out⟩
end Go.Proofs.YtgecnbafmlecjaaGreatDoor.Ev
