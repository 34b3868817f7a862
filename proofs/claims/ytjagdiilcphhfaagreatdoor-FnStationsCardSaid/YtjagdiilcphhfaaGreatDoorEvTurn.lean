/- Tables whose marks are changed by a function. -/
import Derived.Test.YtjagdiilcphhfaaGreatDoorEvTm
set_option linter.unusedVariables false
set_option linter.unusedSimpArgs false
namespace Go.Proofs.YtjagdiilcphhfaaGreatDoor.Ev
def tN : Blk := ⟨48, 1, 0, false, [.agg [.v (.slice none 0 0)]]⟩
def tS (o n : Nat) : Blk := ⟨48, 1, 0, false, [.agg [.sl o 0 n]]⟩
def sB (l : List ByteArray) : Blk := ⟨9, 1, 1, false, l.map st⟩
theorem turn_loop (g : Nat) (hgo : E0.opn g = false) (F : ByteArray → ByteArray) (ms : List ByteArray) (hm : ms.length ≤ 100000) (hF : ∀ m ∈ ms, ev E0 g [st m] [] = some (st (F m), [])) : ∀ (t : List ByteArray) (i : Nat) (acc : List ByteArray), ms.drop i = t → acc.length = i → i + t.length = ms.length →
    packX 0 [4, 6] (loopW (bd E0 (ev E0) loopW 0 [1, 4, 6, 15, 16, 17] L81b0) ⟨[(1, .fn (.func g) [] []), (4, .ptr 0 0 0), (6, .ptr 1 0 0), (15, .lst 1 (ms.map st)), (16, i64 ms.length), (17, i64 i)], [some tN, some (tS 2 i), some (sB acc)]⟩) =
      some (.ext 0, ⟨[(4, .ptr 0 0 0), (6, .ptr 1 0 0)], [some tN, some (tS 2 ms.length), some (sB (acc ++ t.map F))]⟩) := by
  unfold tN tS sB
  intro t
  induction t with
  | nil =>
    intro i acc h ha hl
    have hi := not_drop h
    rw [List.length_nil] at hl
    obtain rfl : i = ms.length := by omega
    rw [List.map_nil, List.append_nil, loopW_eq]
    generalize loopW (bd E0 (ev E0) loopW 0 [1, 4, 6, 15, 16, 17] L81b0) = K
    simp -implicitDefEqProofs [bd, L81b0, hgo]
  | cons m t ih =>
    intro i acc h ha hl
    rw [List.length_cons] at hl
    obtain ⟨hi, hx, hd, hmem⟩ := at_drop h
    have hih := ih (i + 1) (acc ++ [F m]) hd (by simp; omega) (by omega)
    rw [cs1, List.append_assoc, List.singleton_append, ← List.map_cons, List.map_append, List.map_singleton] at hih
    have hi2 : (i : Int) < (ms.length : Int) := by omega
    have hf := hF m hmem
    have hg : (ms.map st)[i]? = some (st m) := by rw [List.getElem?_map, List.getElem?_eq_getElem hi, hx]; rfl
    have hg2 : ∀ h, (ms.map st)[i]'h = st m := fun h => (List.getElem?_eq_some_iff.1 hg).2
    have hw : IntKind.i64.wrap ((i : Int) + 1) = (i : Int) + 1 := wr64 (by omega) (by omega)
    have l1 : i + 1 ≤ 140737488355328 := by omega
    have l2 : (i + 1) * 16 ≤ 140737488355328 := by omega
    have hal : (acc.map st).length = i := by rw [List.length_map, ha]
    have ht : List.take i (acc.map st) = acc.map st := List.take_of_length_le (by omega)
    rw [loopW_eq]
    clear ih
    generalize (acc ++ List.map F (m :: t)).map st = R at hih ⊢
    generalize acc.map st = A at *
    generalize F m = fm at *
    generalize loopW (bd E0 (ev E0) loopW 0 [1, 4, 6, 15, 16, 17] L81b0) = K at hih ⊢
    simpa -implicitDefEqProofs [bd, L81b0, hgo, hi, hi2, hg, hg2, hf, hw, l1, l2, hal, ht, ha] using hih
theorem turned_i (g : Nat) (hgo : E0.opn g = false) (F : ByteArray → ByteArray) (ms : List ByteArray) (hm : ms.length ≤ 100000) (hz : ∀ m ∈ ms, m.size ≤ 100000) (hF : okTable ms = true → ∀ m ∈ ms, ev E0 g [st m] [] = some (st (F m), [])) :
    ev E0 81 [.agg [.lst 1 (ms.map st)], .fn (.func g) [] []] [] = if okTable ms = true then some (.tup [.agg [.sl 0 0 ms.length], bl true], [some (sB (ms.map F))]) else some (.tup [.agg [.v (.slice none 0 0)], bl false], []) := by
  have h1 := table_i ms (by omega) (fun x hx => by have := hz x hx; omega)
  cases ho : okTable ms with
  | false =>
    rw [ho] at h1
    rw [e81]
    unfold runF
    simp -implicitDefEqProofs [L81, h1]
  | true =>
    rw [ho] at h1
    have hF := hF ho
    have hlen := okTable_len ho
    obtain ⟨m, t, rfl⟩ : ∃ m t, ms = m :: t := by
      cases ms with
      | nil => simp at hlen
      | cons m t => exact ⟨m, t, rfl⟩
    have hl := turn_loop g hgo F (m :: t) hm hF t 1 [F m] rfl rfl (by simp; omega)
    have hf := hF m (List.mem_cons_self ..)
    rw [List.singleton_append, ← List.map_cons] at hl
    have first : packX 0 [4, 6] (loopW (bd E0 (ev E0) loopW 0 [1, 4, 6, 15, 16, 17] L81b0) ⟨[(1, .fn (.func g) [] []), (4, .ptr 0 0 0), (6, .ptr 1 0 0), (15, .lst 1 ((m :: t).map st)), (16, i64 (m :: t).length), (17, i64 0)], [some tN, some tN]⟩) =
        some (.ext 0, ⟨[(4, .ptr 0 0 0), (6, .ptr 1 0 0)], [some tN, some (tS 2 (m :: t).length), some (sB ((m :: t).map F))]⟩) := by
      generalize (m :: t).map F = R at hl ⊢
      generalize hms : m :: t = ms at *
      have hi : 0 < ms.length := by rw [← hms]; simp
      have hi2 : (0 : Int) < (ms.length : Int) := by omega
      have hg : (ms.map st)[0]? = some (st m) := by rw [← hms]; rfl
      have hg2 : ∀ h, (ms.map st)[0]'h = st m := fun h => (List.getElem?_eq_some_iff.1 hg).2
      have hw : IntKind.i64.wrap 1 = 1 := rfl
      rw [show ((1 : Nat) : Int) = 1 from rfl] at hl
      unfold tN tS sB at hl ⊢
      rw [List.map_singleton] at hl
      generalize F m = fm at *
      rw [loopW_eq]
      generalize loopW (bd E0 (ev E0) loopW 0 [1, 4, 6, 15, 16, 17] L81b0) = K at hl ⊢
      simpa -implicitDefEqProofs [bd, L81b0, hgo, hi, hi2, hg, hg2, hf, hw] using hl
    generalize (m :: t).map F = R at *
    generalize hms : m :: t = ms at *
    unfold tN tS sB at *
    rw [e81]
    unfold runF
    simp -implicitDefEqProofs [L81, hgo, h1, first]
end Go.Proofs.YtjagdiilcphhfaaGreatDoor.Ev
