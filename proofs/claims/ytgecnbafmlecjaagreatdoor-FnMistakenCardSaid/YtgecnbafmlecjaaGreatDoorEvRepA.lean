/- strings.NewReplacer's answer for one byte to one byte: (*byteReplacer).Replace, walked by hand. -/
import Derived.Test.YtgecnbafmlecjaaGreatDoorProg
import Derived.WalkKit
import Derived.WalkSpells
import Derived.Laws.IdiomStrings
set_option linter.unusedVariables false
set_option linter.unusedSimpArgs false
set_option linter.unnecessarySimpa false
namespace Go.Proofs.YtgecnbafmlecjaaGreatDoor.Ev
open Go.RowKit

structure AsideW (p : Prop) : Prop where mk :: (out : p)
/-- The text with each byte turned by a table. -/
def mapB (f : Nat → Nat) (s : ByteArray) : ByteArray := ⟨(s.data.toList.map fun b => UInt8.ofNat (f b.toNat)).toArray⟩
/-- The byte at a place. -/
def ch (s : ByteArray) (j : Nat) : Nat := (s.data.toList.getD j 0).toNat
theorem ch_at (s : ByteArray) (j : Nat) (h : j < s.size) : ch s j = s[j].toNat := by
  have h' : j < s.data.toList.length := by simpa using h
  unfold ch
  rw [List.getD_eq_getElem?_getD, List.getElem?_eq_getElem h', Option.getD_some]
  rfl
/-- A block of 256 bytes that holds a table. -/
def TabAt (c : Nat) (f : Nat → Nat) (w : World) : Prop := ∀ j : Nat, j < 256 → w.cell? ⟨c, j, none⟩ = some (.int .u8 (f j : Int))
/-- A row of bytes of the call's own. -/
structure RowAt (g : Nat) (n : Nat) (t : Nat → Int) (w : World) : Prop where
  lt : g < w.heap.size
  cell : ∀ j, j < n → w.cell? ⟨g, j, none⟩ = some (.int .u8 (t j))
  soft : ∀ j, j < n → w.frozen? ⟨g, j, none⟩ = false
theorem RowAt.set {g n : Nat} {t t' : Nat → Int} {w : World} (h : RowAt g n t w) (k : Nat) (x : Int) (hk : k < n) (ht : ∀ j, j < n → t' j = if j = k then x else t j) : RowAt g n t' (w.setCell ⟨g, k, none⟩ (.int .u8 x)) where
  lt := by simpa [World.setCell] using h.lt
  cell j hj := by
    rw [ht j hj]
    by_cases e : j = k
    · subst e
      rw [if_pos rfl]
      exact World.cell?_setCell_same _ _ _ (h.cell j hj)
    · rw [if_neg e]
      exact (World.cell?_setCell_other _ _ _ _ (by first | (simp; done) | (simp; omega))).trans (h.cell j hj)
  soft j hj := by simpa using h.soft j hj
theorem bytes_new (P : Program) (src dst e : TypeId) (s : ByteArray) (w : World) (hs : P.underlying src = some .string) (hd : P.underlying dst = some (.slice e)) (he : P.underlying e = some (.int .u8)) :
    ∃ cap w1, (convert src dst (.string s)).run P w = .ok (.slice (some ⟨w.heap.size, 0, none⟩) s.size cap) w1 ∧ Below w.heap.size w w1 ∧ RowAt w.heap.size s.size (fun j => ch s j) w1 := by
  have hsz : (bytesRow s (grownCap w s.size 0 e)).size = s.size + (grownCap w s.size 0 e - s.size) := by simp [bytesRow]
  refine ⟨_, _, run_bytes_of_string w src dst e s hs hd he, ((Below.refl _ _).drew).alloc (Nat.le_refl _) _, ⟨?_, fun j hj => ?_, fun j hj => ?_⟩⟩
  · simp
  · have h1 := World.cell?_alloc_mark w.drew (bytesRow s (grownCap w s.size 0 e)) e ((bytesRow s (grownCap w s.size 0 e)).size, (bytesRow s (grownCap w s.size 0 e)).size + 1) j
    refine h1.trans ?_
    have hj' : j < s.data.size := hj
    simp only [bytesRow]
    rw [Array.getElem?_append_left (by simpa using hj), Array.getElem?_map, ch_at s j hj, Array.getElem?_eq_getElem hj']
    rfl
  · have h1 := World.frozen?_alloc_mark w.drew (bytesRow s (grownCap w s.size 0 e)) e (bytesRow s (grownCap w s.size 0 e)).size ((bytesRow s (grownCap w s.size 0 e)).size + 1) j
    refine h1.trans ?_
    rw [show decide ((bytesRow s (grownCap w s.size 0 e)).size ≤ j) = false from decide_eq_false (by rw [hsz]; omega)]
    rfl
theorem mapB_len (f : Nat → Nat) (s : ByteArray) : (mapB f s).data.toList.length = s.size := by simp [mapB]
theorem mapB_at (f : Nat → Nat) (hf : ∀ j, f j < 256) (s : ByteArray) (j : Nat) (hj : j < s.size) {h} : ((((mapB f s).data.toList)[j]'h).toNat : Int) = (f (ch s j) : Int) := by
  rw [ch_at s j hj]
  have h' : j < s.data.size := hj
  simp only [mapB, List.getElem_map, Array.getElem_toList]
  have := hf (s.data[j].toNat)
  show (((UInt8.ofNat (f s.data[j].toNat)).toNat : Nat) : Int) = (f s.data[j].toNat : Int)
  simp
  omega
theorem mapB_same (f : Nat → Nat) (s : ByteArray) (h : ∀ j, j < s.size → f (ch s j) = ch s j) : mapB f s = s := by
  unfold mapB
  have : s.data.toList.map (fun b => UInt8.ofNat (f b.toNat)) = s.data.toList := by
    apply List.ext_getElem (by simp)
    intro j h1 h2
    have hj : j < s.size := by simpa using h2
    have e := h j hj
    rw [ch_at s j hj] at e
    rw [List.getElem_map]
    show UInt8.ofNat (f s[j].toNat) = _
    rw [e]
    simp
    rfl
  rw [this]
set_option maxHeartbeats 1600000 in
set_option maxRecDepth 1000000 in
theorem byteRep (c : Nat) (f : Nat → Nat) (hf : ∀ j, f j < 256) (s : ByteArray) (hs : s.size ≤ 140737488355328) (w : World) (hcb : c < w.heap.size) (hc : TabAt c f w) :
    Calls Go.Proofs.Tryz.prog 162 #[.pointer (some ⟨c, 0, none⟩), .string s] w fun e w' => e = .returned (.string (mapB f s)) ∧ Below w.heap.size w w' := by
  have qT : ∀ (w : World) (a : Option Addr) (n c n' c' : Nat), (binOp .eql 22 (.slice a n c) (.slice none n' c')).run Go.Proofs.Tryz.prog w = .ok (.bool a.isNone) w := fun w a n c n' c' => Lib.run_eql_slice_nil w _ _ a n c n' c' Go.Proofs.Tryz.underlying22
  go_enter Go.Proofs.Tryz.func162, Go.Proofs.Tryz.ntmps162
  go_wp2
  go_loopw [5, 6] (fun v i wr => ∃ k : Nat, k ≤ s.size ∧ i = .int .i64 k ∧ Below w.heap.size w wr ∧ ((v = .slice none 0 0 ∧ ∀ j, j < k → f (ch s j) = ch s j) ∨ ∃ g cap, v = .slice (some ⟨g, 0, none⟩) s.size cap ∧ w.heap.size ≤ g ∧ RowAt g s.size (fun j => if j < k then (f (ch s j) : Int) else (ch s j : Int)) wr)) (fun _ i _ => s.size - (intOf i).toNat)
  case atStart => exact ⟨0, Nat.zero_le _, rfl, Below.refl _ _, .inl ⟨rfl, fun j h => absurd h (Nat.not_lt_zero _)⟩⟩
  case round =>
    obtain ⟨k, hk, rfl, hB, hv⟩ := hrel
    by_cases hlt : k < s.size
    · have hb1 : s[k].toNat < 256 := UInt8.toNat_lt _
      have hcell : wr.cell? ⟨c, s[k].toNat, none⟩ = some (.int .u8 (f s[k].toNat : Int)) := (hB.cell (p := ⟨c, s[k].toNat, none⟩) hcb).trans (hc _ hb1)
      have hD : ch s k = s[k].toNat := ch_at s k hlt
      have hfx := hf s[k].toNat
      generalize hx : s[k].toNat = x at *
      have HD := AsideW.mk hD
      have HV := AsideW.mk hv
      clear hD hv
      by_cases he : f x = x
      · have hne : ((f x : Int) != (x : Int)) = false := by simp [he]
        have HE := AsideW.mk he
        clear he
        go_wp2
        go_roundw
        case rel =>
          refine ⟨k + 1, hlt, by go_num, hB, ?_⟩
          have hD := HD.out
          have he := HE.out
          rcases HV.out with ⟨h1, h2⟩ | ⟨g, cap, h1, h2, h3⟩
          · refine .inl ⟨h1, fun j hj => ?_⟩
            by_cases ej : j = k
            · subst ej; rw [hD]; exact he
            · exact h2 j (by omega)
          · refine .inr ⟨g, cap, h1, h2, h3.lt, fun j hj => ?_, h3.soft⟩
            rw [h3.cell j hj]
            by_cases ej : j = k
            · subst ej; simp only [hD, he, ite_self]
            · have : (j < k + 1) = (j < k) := propext ⟨fun h => by omega, fun h => by omega⟩
              simp only [this]
        case measure => simp [intOf]; omega
      · have hne : ((f x : Int) != (x : Int)) = true := by simp; omega
        have HE := AsideW.mk he
        clear he
        rcases HV.out with ⟨h1, h2⟩ | ⟨g, cap, h1, h2, h3⟩
        · obtain ⟨cap, w1, hconv, hB1, h3⟩ := bytes_new Go.Proofs.Tryz.prog 9 22 5 s wr Go.Proofs.Tryz.underlying9 Go.Proofs.Tryz.underlying22 Go.Proofs.Tryz.underlying5
          subst h1
          have c1 := h3.cell k hlt
          have c2 := h3.soft k hlt
          have H3 := AsideW.mk h3
          have HB1 := AsideW.mk hB1
          have hcell1 : w1.cell? ⟨c, x, none⟩ = some (.int .u8 (f x : Int)) := (hB1.cell (p := ⟨c, x, none⟩) (Nat.lt_of_lt_of_le hcb hB.size)).trans hcell
          clear h3 hB1
          go_wp2
          go_roundw
          case rel =>
            refine ⟨k + 1, hlt, by go_num, ?_, .inr ⟨wr.heap.size, cap, rfl, hB.size, H3.out.set k _ hlt fun j hj => ?_⟩⟩
            · exact (hB.trans (HB1.out.mono hB.size)).setCell hB.size _
            · by_cases ej : j = k
              · subst ej
                rw [if_pos rfl, if_pos (by omega), HD.out]
              · rw [if_neg ej]
                by_cases e2 : j < k
                · rw [if_pos (by omega), h2 j e2]
                · rw [if_neg (by omega)]
          case measure => simp [intOf]; omega
        · subst h1
          have c1 := h3.cell k hlt
          have c2 := h3.soft k hlt
          have H3 := AsideW.mk h3
          clear h3
          go_wp2
          go_roundw
          case rel =>
            refine ⟨k + 1, hlt, by go_num, ?_, .inr ⟨g, cap, rfl, h2, H3.out.set k _ hlt fun j hj => ?_⟩⟩
            · exact hB.setCell h2 _
            · by_cases ej : j = k
              · subst ej
                rw [if_pos rfl, if_pos (by omega), HD.out]
              · rw [if_neg ej]
                have : (j < k + 1) = (j < k) := propext ⟨fun h => by omega, fun h => by omega⟩
                simp only [this]
          case measure => simp [intOf]; omega
    · obtain rfl : k = s.size := by omega
      rcases hv with ⟨h1, h2⟩ | ⟨g, cap, h1, h2, h3⟩
      · subst h1
        have HM := AsideW.mk (mapB_same f s h2)
        clear h2
        go_wp2
        go_ret
        exact ⟨by rw [HM.out]; rfl, hB⟩
      · subst h1
        have hconv := run_convert_bytes_back (P := Go.Proofs.Tryz.prog) wr 22 9 5 ⟨g, 0, none⟩ cap (mapB f s).data.toList Go.Proofs.Tryz.underlying22 Go.Proofs.Tryz.underlying5 Go.Proofs.Tryz.underlying9 (fun j hj => by
          rw [mapB_len] at hj
          have e1 := h3.cell j hj
          rw [if_pos hj] at e1
          rw [mapB_at f hf s j hj]
          rw [show ((⟨g, 0, none⟩ : Addr).add j) = ⟨g, j, none⟩ by rcases j with _ | j <;> simp [Addr.add]]
          exact e1)
        rw [mapB_len] at hconv
        rw [show (⟨(mapB f s).data.toList.toArray⟩ : ByteArray) = mapB f s from rfl] at hconv
        generalize hM : mapB f s = m at *
        clear h3
        go_wp2
        go_ret
        exact ⟨by rw [hM]; rfl, hB⟩
end Go.Proofs.YtgecnbafmlecjaaGreatDoor.Ev
