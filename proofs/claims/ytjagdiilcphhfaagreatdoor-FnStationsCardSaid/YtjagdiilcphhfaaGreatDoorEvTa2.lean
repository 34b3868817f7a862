/- Tables turned, both programs. -/
import Derived.Test.YtjagdiilcphhfaaGreatDoorEvTa1
set_option linter.unusedVariables false
set_option linter.unusedSimpArgs false
namespace Go.Proofs.YtjagdiilcphhfaaGreatDoor.Ev
theorem chk_marks : ∀ (t seen : List ByteArray), chk seen t = true → ∀ m ∈ t, okMarks m 1 5 = true := by
  intro t
  induction t with
  | nil => intro seen _ m hm; cases hm
  | cons x t ih =>
    intro seen h m hm
    unfold chk at h
    simp only [Bool.and_eq_true] at h
    rcases List.mem_cons.1 hm with rfl | hm
    · exact h.1
    · exact ih _ h.2.2 m hm
theorem tab_marks {ms : List ByteArray} (h : okTable ms = true) : ∀ m ∈ ms, okMarks m 1 5 = true := by
  unfold okTable at h
  simp only [Bool.and_eq_true] at h
  exact chk_marks ms [] h.2
def tL (ms : List ByteArray) : Blk := ⟨48, 1, 0, false, [.agg [.lst 1 (ms.map st)]]⟩
theorem opt_loop (ms : List ByteArray) (hm : ms.length ≤ 100000) (hz : ∀ m ∈ ms, m.size ≤ 100000) : ∀ (t : List ByteArray) (i : Nat) (acc : List ByteArray), ms.drop i = t → acc.length = i → i + t.length = ms.length →
    packX 0 [2, 4] (loopW (bd E0 (ev E0) loopW 0 [1, 2, 4, 5] L76b0) ⟨[(1, .ptr 0 0 0), (2, .ptr 1 0 0), (4, .ptr 2 0 0), (5, i64 i)], [some (tL ms), some tN, some (tS 3 i), some (sB acc)]⟩) =
      some (.ext 0, ⟨[(2, .ptr 0 0 0), (4, .ptr 1 0 0)], [some tN, some (tS 2 ms.length), some (sB (acc ++ t.map oppB))]⟩) := by
  unfold tN tS sB tL
  intro t
  induction t with
  | nil =>
    intro i acc h ha hl
    have hi := not_drop h
    rw [List.length_nil] at hl
    obtain rfl : i = ms.length := by omega
    rw [List.map_nil, List.append_nil, loopW_eq]
    generalize loopW (bd E0 (ev E0) loopW 0 [1, 2, 4, 5] L76b0) = K
    simp -implicitDefEqProofs [bd, L76b0]
  | cons m t ih =>
    intro i acc h ha hl
    rw [List.length_cons] at hl
    obtain ⟨hi, hx, hd, hmem⟩ := at_drop h
    have hih := ih (i + 1) (acc ++ [oppB m]) hd (by simp; omega) (by omega)
    rw [cs1, List.append_assoc, List.singleton_append, ← List.map_cons, List.map_append, List.map_singleton] at hih
    have hi2 : (i : Int) < (ms.length : Int) := by omega
    have hf := oppS m (by have := hz m hmem; omega)
    have hg : (ms.map st)[i]? = some (st m) := by rw [List.getElem?_map, List.getElem?_eq_getElem hi, hx]; rfl
    have hg2 : ∀ h, (ms.map st)[i]'h = st m := fun h => (List.getElem?_eq_some_iff.1 hg).2
    have hw : IntKind.i64.wrap ((i : Int) + 1) = (i : Int) + 1 := wr64 (by omega) (by omega)
    have l1 : i + 1 ≤ 140737488355328 := by omega
    have l2 : (i + 1) * 16 ≤ 140737488355328 := by omega
    have hal : (acc.map st).length = i := by rw [List.length_map, ha]
    have ht : List.take i (acc.map st) = acc.map st := List.take_of_length_le (by omega)
    rw [loopW_eq]
    clear ih
    generalize (acc ++ List.map oppB (m :: t)).map st = R at hih ⊢
    generalize acc.map st = A at *
    generalize oppB m = fm at *
    generalize loopW (bd E0 (ev E0) loopW 0 [1, 2, 4, 5] L76b0) = K at hih ⊢
    simpa -implicitDefEqProofs [bd, L76b0, hi, hi2, hg, hg2, hf, hw, l1, l2, hal, ht, ha] using hih
theorem opt_s (ms : List ByteArray) (hm : ms.length ≤ 100000) (hz : ∀ m ∈ ms, m.size ≤ 100000) :
    ev E0 76 [.agg [.lst 1 (ms.map st)]] [] = if okTable ms = true then some (.tup [.agg [.sl 0 0 ms.length], bl true], [some (sB (ms.map oppB))]) else some (.tup [.agg [.v (.slice none 0 0)], bl false], []) := by
  have h1 := table_s ms (by omega) (fun x hx => by have := hz x hx; omega)
  cases ho : okTable ms with
  | false =>
    rw [ho] at h1
    rw [e76]
    unfold runF
    simp -implicitDefEqProofs [L76, h1]
  | true =>
    rw [ho] at h1
    have hl := opt_loop ms hm hz ms 0 [] rfl rfl (by simp)
    rw [c0] at hl
    unfold tN tS sB tL at hl
    rw [List.map_nil] at hl
    rw [e76]
    unfold runF
    generalize hR : (([] : List ByteArray) ++ ms.map oppB).map st = R at hl
    rw [List.nil_append] at hR
    unfold sB
    rw [hR]
    simp -implicitDefEqProofs [L76, h1, hl]
theorem opt_i (ms : List ByteArray) (hm : ms.length ≤ 100000) (hz : ∀ m ∈ ms, m.size ≤ 100000) :
    ev E0 59 [.agg [.lst 1 (ms.map st)]] [] = if okTable ms = true then some (.tup [.agg [.sl 0 0 ms.length], bl true], [some (sB (ms.map oppB))]) else some (.tup [.agg [.v (.slice none 0 0)], bl false], []) := by
  have h1 := turned_i 82 rfl oppB ms hm hz (fun ho m hmem => oppI m (by have := hz m hmem; omega) (tab_marks ho m hmem))
  cases ho : okTable ms with
  | false =>
    rw [ho, if_neg (by decide)] at h1
    rw [e59]
    unfold runF
    simp -implicitDefEqProofs [L59, h1]
  | true =>
    rw [ho, if_pos rfl] at h1
    unfold sB at h1 ⊢
    rw [e59]
    unfold runF
    generalize (ms.map oppB).map st = R at *
    simp -implicitDefEqProofs [L59, h1]
theorem bkt_loop (ms : List ByteArray) (hm : ms.length ≤ 100000) (hz : ∀ m ∈ ms, m.size ≤ 100000) : ∀ (t : List ByteArray) (i : Nat) (acc : List ByteArray), ms.drop i = t → acc.length = i → i + t.length = ms.length →
    packX 0 [2, 4] (loopW (bd E0 (ev E0) loopW 0 [1, 2, 4, 5] L77b0) ⟨[(1, .ptr 0 0 0), (2, .ptr 1 0 0), (4, .ptr 2 0 0), (5, i64 i)], [some (tL ms), some tN, some (tS 3 i), some (sB acc)]⟩) =
      some (.ext 0, ⟨[(2, .ptr 0 0 0), (4, .ptr 1 0 0)], [some tN, some (tS 2 ms.length), some (sB (acc ++ t.map revB))]⟩) := by
  unfold tN tS sB tL
  intro t
  induction t with
  | nil =>
    intro i acc h ha hl
    have hi := not_drop h
    rw [List.length_nil] at hl
    obtain rfl : i = ms.length := by omega
    rw [List.map_nil, List.append_nil, loopW_eq]
    generalize loopW (bd E0 (ev E0) loopW 0 [1, 2, 4, 5] L77b0) = K
    simp -implicitDefEqProofs [bd, L77b0]
  | cons m t ih =>
    intro i acc h ha hl
    rw [List.length_cons] at hl
    obtain ⟨hi, hx, hd, hmem⟩ := at_drop h
    have hih := ih (i + 1) (acc ++ [revB m]) hd (by simp; omega) (by omega)
    rw [cs1, List.append_assoc, List.singleton_append, ← List.map_cons, List.map_append, List.map_singleton] at hih
    have hi2 : (i : Int) < (ms.length : Int) := by omega
    have hf := backS_t m (by have := hz m hmem; omega)
    have hg : (ms.map st)[i]? = some (st m) := by rw [List.getElem?_map, List.getElem?_eq_getElem hi, hx]; rfl
    have hg2 : ∀ h, (ms.map st)[i]'h = st m := fun h => (List.getElem?_eq_some_iff.1 hg).2
    have hw : IntKind.i64.wrap ((i : Int) + 1) = (i : Int) + 1 := wr64 (by omega) (by omega)
    have l1 : i + 1 ≤ 140737488355328 := by omega
    have l2 : (i + 1) * 16 ≤ 140737488355328 := by omega
    have hal : (acc.map st).length = i := by rw [List.length_map, ha]
    have ht : List.take i (acc.map st) = acc.map st := List.take_of_length_le (by omega)
    rw [loopW_eq]
    clear ih
    generalize (acc ++ List.map revB (m :: t)).map st = R at hih ⊢
    generalize acc.map st = A at *
    generalize revB m = fm at *
    generalize loopW (bd E0 (ev E0) loopW 0 [1, 2, 4, 5] L77b0) = K at hih ⊢
    simpa -implicitDefEqProofs [bd, L77b0, hi, hi2, hg, hg2, hf, hw, l1, l2, hal, ht, ha] using hih
theorem bkt_s (ms : List ByteArray) (hm : ms.length ≤ 100000) (hz : ∀ m ∈ ms, m.size ≤ 100000) :
    ev E0 77 [.agg [.lst 1 (ms.map st)]] [] = if okTable ms = true then some (.tup [.agg [.sl 0 0 ms.length], bl true], [some (sB (ms.map revB))]) else some (.tup [.agg [.v (.slice none 0 0)], bl false], []) := by
  have h1 := table_s ms (by omega) (fun x hx => by have := hz x hx; omega)
  cases ho : okTable ms with
  | false =>
    rw [ho] at h1
    rw [e77]
    unfold runF
    simp -implicitDefEqProofs [L77, h1]
  | true =>
    rw [ho] at h1
    have hl := bkt_loop ms hm hz ms 0 [] rfl rfl (by simp)
    rw [c0] at hl
    unfold tN tS sB tL at hl
    rw [List.map_nil] at hl
    rw [e77]
    unfold runF
    generalize hR : (([] : List ByteArray) ++ ms.map revB).map st = R at hl
    rw [List.nil_append] at hR
    unfold sB
    rw [hR]
    simp -implicitDefEqProofs [L77, h1, hl]
theorem bkt_i (ms : List ByteArray) (hm : ms.length ≤ 100000) (hz : ∀ m ∈ ms, m.size ≤ 100000) :
    ev E0 60 [.agg [.lst 1 (ms.map st)]] [] = if okTable ms = true then some (.tup [.agg [.sl 0 0 ms.length], bl true], [some (sB (ms.map revB))]) else some (.tup [.agg [.v (.slice none 0 0)], bl false], []) := by
  have h1 := turned_i 83 rfl revB ms hm hz (fun ho m hmem => back_i m (by have := hz m hmem; omega))
  cases ho : okTable ms with
  | false =>
    rw [ho, if_neg (by decide)] at h1
    rw [e60]
    unfold runF
    simp -implicitDefEqProofs [L60, h1]
  | true =>
    rw [ho, if_pos rfl] at h1
    unfold sB at h1 ⊢
    rw [e60]
    unfold runF
    generalize (ms.map revB).map st = R at *
    simp -implicitDefEqProofs [L60, h1]
end Go.Proofs.YtjagdiilcphhfaaGreatDoor.Ev
