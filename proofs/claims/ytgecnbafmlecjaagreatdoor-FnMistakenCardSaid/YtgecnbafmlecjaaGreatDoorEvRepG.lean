/- (*byteStringReplacer).Replace, walked by hand: spaces and strokes are taken away. -/
import Derived.Test.YtgecnbafmlecjaaGreatDoorEvRepF
set_option linter.unusedVariables false
set_option linter.unusedSimpArgs false
set_option linter.unnecessarySimpa false
namespace Go.Proofs.YtgecnbafmlecjaaGreatDoor.Ev
open Go.RowKit

def gone (b : Nat) : Bool := b == 32 || b == 47
/-- What is kept of a text's beginning. -/
def kept (s : ByteArray) (k : Nat) : List UInt8 := (s.data.toList.take k).filter fun b => !gone b.toNat
theorem kept_zero (s : ByteArray) : kept s 0 = [] := rfl
theorem kept_succ (s : ByteArray) (k : Nat) (h : k < s.size) : kept s (k + 1) = kept s k ++ if gone (ch s k) then [] else [s[k]] := by
  have h' : k < s.data.toList.length := by simpa using h
  unfold kept
  rw [← List.take_append_getElem h', List.filter_append, ch_at s k h]
  congr 1
  show List.filter _ [s[k]] = _
  rw [List.filter_cons]
  cases gone s[k].toNat <;> rfl
theorem kept_le (s : ByteArray) (k : Nat) : (kept s k).length ≤ k := Nat.le_trans (List.length_filter_le _ _) (by rw [List.length_take]; omega)

theorem kept_all (s : ByteArray) (h : (kept s s.size).length = s.size) : (⟨(kept s s.size).toArray⟩ : ByteArray) = s := by
  have hl : s.data.toList.length = s.size := by simp
  have ht : s.data.toList.take s.size = s.data.toList := List.take_of_length_le (by omega)
  have : kept s s.size = s.data.toList := by
    unfold kept at h ⊢
    rw [ht] at h ⊢
    exact (List.filter_sublist).eq_of_length (by rw [h, hl])
  rw [this]
theorem make_bytes (m : Nat) (hm : m ≤ 140737488355328) (w : World) : ∃ w1, (Instr.makeSlice 22 (.int .i64 (m : Int)) (.int .i64 (m : Int))).run Go.Proofs.Tryz.prog w = .ok (.slice (some ⟨w.heap.size, 0, none⟩) m m) w1 ∧ Below w.heap.size w w1 ∧ RowAt w.heap.size m (fun _ => 0) w1 := by
  have hi : Go.Proofs.Tryz.prog.info? 5 = some Go.Proofs.Tryz.t5 := by kernel_rfl
  have h := run_make (P := Go.Proofs.Tryz.prog) w 22 5 Go.Proofs.Tryz.t5 (.int .u8 0) Go.Proofs.Tryz.underlying22 hi (by kernel_rfl) .i64 .i64 m m (by omega) (by omega) (by rw [show Go.Proofs.Tryz.t5.bytes = 1 from rfl]; omega) (by omega)
  rw [Int.toNat_natCast, show m * Go.Proofs.Tryz.t5.size = m from by rw [show Go.Proofs.Tryz.t5.size = 1 from rfl, Nat.mul_one], show (Value.int IntKind.u8 0).cells = #[Value.int IntKind.u8 0] from rfl] at h
  refine ⟨_, h, (Below.refl _ w).alloc (Nat.le_refl _) _, ⟨by simp, fun j hj => ?_, fun j hj => by simp⟩⟩
  have h1 := World.cell?_alloc_mark w (madeCells #[Value.int IntKind.u8 0] m) 5 (0, 0) j
  refine h1.trans ?_
  unfold madeCells
  have hj' : j < (Array.range m).size := by simpa using hj
  rw [Array.getElem?_map, Array.getElem?_eq_getElem hj']
  simp [Nat.mod_one]
theorem copy_none (ty : TypeId) (a : Option Addr) (n n' d cp : Nat) (W : World) : (Builtin.copy_ #[ 22, 22 ] ty #[.slice a n n', .slice (some ⟨d, 0, none⟩) 0 cp]).run Go.Proofs.Tryz.prog W = .ok (.int .i64 0) W := by
  have hi : Go.Proofs.Tryz.prog.info? 5 = some Go.Proofs.Tryz.t5 := by kernel_rfl
  have hf := run_firstCells_some (P := Go.Proofs.Tryz.prog) W 1 0 ⟨d, 0, none⟩ 0 cp [] rfl (by simp)
  have hz : Go.Proofs.Tryz.t5.size = 1 := rfl
  cases a <;> simp [Builtin.copy_, run_underlying Go.Proofs.Tryz.underlying22, Builtin.lenOf, sizeOf, typeInfo, hi, hz, hf, storeCells, goInt]
theorem kept_mono (s : ByteArray) (k : Nat) (h : k ≤ s.size) : (kept s k).length ≤ (kept s s.size).length := by
  have hl : s.data.toList.length = s.size := by simp
  unfold kept
  rw [show s.data.toList.take s.size = s.data.toList from List.take_of_length_le (by omega)]
  exact (List.Sublist.filter _ (List.take_sublist _ _)).length_le
theorem getD_snoc (l : List UInt8) (x : UInt8) (j : Nat) : (((l ++ [x]).getD j 0).toNat : Int) = if j = l.length then (x.toNat : Int) else ((l.getD j 0).toNat : Int) := by
  by_cases h : j < l.length
  · rw [if_neg (by omega), List.getD_eq_getElem?_getD, List.getD_eq_getElem?_getD, List.getElem?_append_left h]
  · by_cases h2 : j = l.length
    · subst h2; rw [if_pos rfl, List.getD_eq_getElem?_getD, List.getElem?_append_right (Nat.le_refl _)]; simp
    · rw [if_neg h2, List.getD_eq_getElem?_getD, List.getD_eq_getElem?_getD, List.getElem?_eq_none (by simp; omega), List.getElem?_eq_none (by omega)]
set_option maxHeartbeats 3200000 in
set_option maxRecDepth 1000000 in
theorem take_small (e c : Nat) (s : ByteArray) (hs : s.size < 16) (w : World) (h : Takes e c w) :
    Calls Go.Proofs.Tryz.prog 164 #[.pointer (some ⟨c, 0, none⟩), .string s] w fun e w' => e = .returned (.string ⟨(kept s s.size).toArray⟩) ∧ Below w.heap.size w w' := by
  have qT : ∀ (w : World) (a : Option Addr) (n c n' c' : Nat), (binOp .eql 22 (.slice a n c) (.slice none n' c')).run Go.Proofs.Tryz.prog w = .ok (.bool a.isNone) w := fun w a n c n' c' => Lib.run_eql_slice_nil w _ _ a n c n' c' Go.Proofs.Tryz.underlying22
  have qN : ∀ (w : World) (a : Option Addr) (n c n' c' : Nat), (binOp .neq 22 (.slice a n c) (.slice none n' c')).run Go.Proofs.Tryz.prog w = .ok (.bool (!a.isNone)) w := fun w a n c n' c' => run_neq_slice_nil_any w _ _ a n c n' c' Go.Proofs.Tryz.underlying22
  have to := h.to
  have hcl := h.lt
  have HT := AsideW.mk h
  clear h
  have hge : ¬ (16 : Int) ≤ (s.size : Int) := by omega
  go_enter Go.Proofs.Tryz.func164, Go.Proofs.Tryz.ntmps164
  go_wp2
  go_loopw [5, 6, 10] (fun ns an i wr => ∃ k N : Nat, k ≤ s.size ∧ i = .int .i64 k ∧ wr = w ∧ N + k = s.size + (kept s k).length ∧ ns = .int .i64 N ∧ an = .bool (decide (¬ (kept s k).length = k))) (fun _ _ i _ => s.size - (intOf i).toNat)
  case atStart => exact ⟨0, s.size, Nat.zero_le _, rfl, rfl, rfl, rfl, rfl⟩
  case round =>
    obtain ⟨k, N, hk, rfl, rfl, hN, rfl, rfl⟩ := hrel
    by_cases hlt : k < s.size
    · have hb1 : s[k].toNat < 256 := UInt8.toNat_lt _
      have hks := kept_succ s k hlt
      have hle := kept_le s k
      rw [ch_at s k hlt] at hks
      have HK := AsideW.mk hks
      have HN := AsideW.mk hN
      clear hks
      have hN0 : 0 < N := by omega
      have hN1 : N ≤ s.size := by omega
      have hg : (gone s[k].toNat = true ∧ (s[k].toNat = 32 ∨ s[k].toNat = 47)) ∨ (gone s[k].toNat = false ∧ ¬ (s[k].toNat = 32 ∨ s[k].toNat = 47)) := by
        unfold gone
        by_cases e1 : s[k].toNat = 32 <;> by_cases e2 : s[k].toNat = 47 <;> simp [e1, e2]
      clear hN
      rcases hg with ⟨hg, ho⟩ | ⟨hg, ho⟩
      · obtain ⟨d, cp, hcell⟩ := HT.out.hit _ hb1 ho
        have HG := AsideW.mk hg
        clear hg ho
        generalize hx : s[k].toNat = x at *
        go_wp2
        go_roundw
        case rel =>
          obtain ⟨N', rfl⟩ : ∃ N', N = N' + 1 := ⟨N - 1, by omega⟩
          have hks := HK.out
          rw [HG.out, if_pos rfl, List.append_nil] at hks
          have hN := HN.out
          refine ⟨k + 1, N', hlt, by go_num, trivial, by rw [hks]; omega, by congr 1; omega, ?_⟩
          rw [hks]
          congr 1
          exact (decide_eq_true (by omega)).symm
        case measure => simp [intOf]; omega
      · have hcell := HT.out.miss _ hb1 ho
        have HG := AsideW.mk hg
        clear hg ho
        generalize hx : s[k].toNat = x at *
        go_wp2
        go_roundw
        case rel =>
          have hks := HK.out
          rw [HG.out, if_neg (by decide)] at hks
          have hN := HN.out
          have hl : (kept s (k + 1)).length = (kept s k).length + 1 := by rw [hks]; simp
          refine ⟨k + 1, N, hlt, by go_num, trivial, by rw [hl]; omega, rfl, ?_⟩
          rw [hl]
          congr 1
          exact decide_eq_decide.2 (by omega)
        case measure => simp [intOf]; omega
    · obtain rfl : k = s.size := by omega
      have hle := kept_le s s.size
      obtain rfl : N = (kept s s.size).length := by omega
      by_cases hall : (kept s s.size).length = s.size
      · have hd : decide (¬ (kept s s.size).length = s.size) = false := decide_eq_false (by simp [hall])
        have HA := AsideW.mk (kept_all s hall)
        clear hN hle
        go_wp2
        go_ret
        exact ⟨by rw [HA.out]; rfl, Below.refl _ _⟩
      · have hd : decide (¬ (kept s s.size).length = s.size) = true := decide_eq_true hall
        have HL := AsideW.mk hall
        clear hN hall
        have hmle := kept_le s s.size
        obtain ⟨m, hm⟩ : ∃ m, m = (kept s s.size).length := ⟨_, rfl⟩
        rw [← hm] at hd hmle ⊢
        have HM := AsideW.mk hm
        clear hm
        obtain ⟨w1, hmk, hB1, hR1⟩ := make_bytes m (by omega) wr
        have HB1 := AsideW.mk hB1
        have HR1 := AsideW.mk hR1
        clear hB1 hR1
        go_wp2
        obtain ⟨w0, rfl⟩ : ∃ w0 : World, w0 = wr := ⟨_, rfl⟩
        go_loopw [13, 14] (fun jv i wq => ∃ k : Nat, k ≤ s.size ∧ i = .int .i64 k ∧ jv = .int .i64 ((kept s k).length : Nat) ∧ Below w0.heap.size w0 wq ∧ RowAt w0.heap.size m (fun j => (((kept s k).getD j 0).toNat : Int)) wq) (fun _ i _ => s.size - (intOf i).toNat)
        case atStart => exact ⟨0, Nat.zero_le _, rfl, rfl, HB1.out, HR1.out⟩
        case round =>
          obtain ⟨k, hk, rfl, rfl, hB, hR⟩ := hrel
          by_cases hlt : k < s.size
          · have hb1 : s[k].toNat < 256 := UInt8.toNat_lt _
            have hks := kept_succ s k hlt
            have hle := kept_le s k
            have hmo := kept_mono s k hk
            have hmo2 := kept_mono s (k + 1) hlt
            rw [← HM.out] at hmo hmo2
            rw [ch_at s k hlt] at hks
            have hkc : ∀ j, wr.cell? ⟨c, j, none⟩ = w0.cell? ⟨c, j, none⟩ := fun j => hB.cell (p := ⟨c, j, none⟩) hcl
            have hg : (gone s[k].toNat = true ∧ (s[k].toNat = 32 ∨ s[k].toNat = 47)) ∨ (gone s[k].toNat = false ∧ ¬ (s[k].toNat = 32 ∨ s[k].toNat = 47)) := by
              unfold gone
              by_cases e1 : s[k].toNat = 32 <;> by_cases e2 : s[k].toNat = 47 <;> simp [e1, e2]
            rcases hg with ⟨hg, ho⟩ | ⟨hg, ho⟩
            · obtain ⟨d, cp, hcell⟩ := HT.out.hit _ hb1 ho
              rw [← hkc] at hcell
              rw [hg, if_pos rfl, List.append_nil] at hks
              have HK := AsideW.mk hks
              have HR := AsideW.mk hR
              have HBB := AsideW.mk hB
              clear hg ho hks hR hB hmo2 hkc
              generalize hx : s[k].toNat = x at *
              generalize hq : (kept s k).length = q at *
              have hcp := fun (ty : TypeId) (a : Option Addr) (n n' : Nat) (W : World) => copy_none ty a n n' d cp W
              go_wp2
              go_region
              all_goals (try go_wp2)
              all_goals go_roundw
              case rel =>
                have hks := HK.out
                have hR := HR.out
                exact ⟨k + 1, hlt, by go_num, by rw [hks, hq], HBB.out.drew, by rw [hks]; exact ⟨hR.lt, fun j hj => by rw [World.cell?_drew]; exact hR.cell j hj, fun j hj => hR.soft j hj⟩⟩
              case measure => simp [intOf]; omega
            · have hcell := HT.out.miss _ hb1 ho
              rw [← hkc] at hcell
              rw [hg, if_neg (by decide)] at hks
              rw [hks, List.length_append, List.length_singleton] at hmo2
              have c1 := hR.cell _ (Nat.lt_of_succ_le hmo2)
              have c2 := hR.soft _ (Nat.lt_of_succ_le hmo2)
              have HK := AsideW.mk hks
              have HR := AsideW.mk hR
              have HBB := AsideW.mk hB
              clear hg ho hks hR hB hkc
              generalize hx : s[k].toNat = x at *
              generalize hq : (kept s k).length = q at *
              go_wp2
              go_roundw
              case rel =>
                have hks := HK.out
                refine ⟨k + 1, hlt, by go_num, by rw [hks, List.length_append, List.length_singleton, hq]; rfl, HBB.out.setCell (Nat.le_refl _) _, ?_⟩
                rw [hks, ← hx]
                exact HR.out.set q _ (by omega) fun j hj => by rw [getD_snoc, hq]
              case measure => simp [intOf]; omega
          · obtain rfl : k = s.size := by omega
            have hconv := run_convert_bytes_back (P := Go.Proofs.Tryz.prog) wr 22 9 5 ⟨w0.heap.size, 0, none⟩ m (kept s s.size) Go.Proofs.Tryz.underlying22 Go.Proofs.Tryz.underlying5 Go.Proofs.Tryz.underlying9 (fun j hj => by
              have e1 := hR.cell j (by rw [HM.out]; exact hj)
              rw [show ((⟨w0.heap.size, 0, none⟩ : Addr).add j) = ⟨w0.heap.size, j, none⟩ by rcases j with _ | j <;> simp [Addr.add]]
              rw [e1, List.getD_eq_getElem?_getD, List.getElem?_eq_getElem hj]
              rfl)
            rw [← HM.out] at hconv
            have HBB := AsideW.mk hB
            clear hR hB
            generalize hq : (⟨(kept s s.size).toArray⟩ : ByteArray) = q at *
            go_wp2
            go_ret
            exact ⟨by rw [hq]; rfl, HBB.out⟩
end Go.Proofs.YtgecnbafmlecjaaGreatDoor.Ev
