/- Means over all letters of how many places are asked for. -/
import Derived.Test.YtkajcafnfdlgpaaDoorEvMeanP
set_option linter.unusedVariables false
set_option linter.unusedSimpArgs false
namespace Go.Proofs.YtkajcafnfdlgpaaDoor.Ev
def fA (ms : List ByteArray) (i : Nat) : Nat := (askN ms i ms.length (allL ms.length 0)).length
theorem fA_le (ms : List ByteArray) (hm : ms.length ≤ 8796093022208) (i : Nat) : fA ms i ≤ 8796093022208 := Nat.le_trans (askN_len ms i ms.length (allL ms.length 0)) hm
theorem askedNum_loop (ms : List ByteArray) (hm : ms.length ≤ 8796093022208) (hT : okTable ms = true) (W : List AV) : ∀ (k i : Nat) (r : List AV), i + k = ms.length → r.length ≤ i →
    packX 0 [1, 4, 6] (loopW (bd E0 (ev E0) loopW 0 [1, 2, 4, 6, 7] L17b0) ⟨[(1, .lst 1 W), (2, .ptr 0 0 0), (4, .ptr 1 0 0), (6, .sl 2 0 r.length), (7, i64 i)], [some ⟨26, 1, 0, false, [.agg [.lst 1 (ms.map st)]]⟩, some ⟨39, 2, 0, false, [.agg [i64 0, i64 0]]⟩, some ⟨3, 1, 1, false, r⟩]⟩) = some (.ext 0, ⟨[(1, .lst 1 W), (4, .ptr 0 0 0), (6, .sl 1 0 (r.length + (numF (fA ms) k i).length))], [some ⟨39, 2, 0, false, [.agg [i64 0, i64 0]]⟩, some ⟨3, 1, 1, false, r ++ i64n (numF (fA ms) k i)⟩]⟩) := by
  intro k
  induction k with
  | zero =>
    intro i r h hr
    have hi : ¬ i < ms.length := by omega
    rw [loopW_eq]
    generalize loopW (bd E0 (ev E0) loopW 0 [1, 2, 4, 6, 7] L17b0) = K
    simp -implicitDefEqProofs [bd, L17b0, hi, numF, i64n]
  | succ k ih =>
    intro i r h hr
    have hi : i < ms.length := by omega
    have hw : IntKind.i64.wrap ((i : Int) + 1) = (i : Int) + 1 := wr64 (by omega) (by omega)
    have hcall := ask_s ms hm hT i hi
    have hsz : (askN ms i ms.length (allL ms.length 0)).length = fA ms i := rfl
    rw [hsz] at hcall
    generalize i64s (askN ms i ms.length (allL ms.length 0)) = aa at hcall
    have hih := ih (i + 1) (r ++ [i64 (fA ms i)]) (by omega) (by simp; omega)
    rw [cs1] at hih
    have h3 : (r.length + 1) * 8 ≤ 140737488355328 := by omega
    have h4 : r.length + 1 ≤ 140737488355328 := by omega
    have h5 : r.length + (numF (fA ms) (k + 1) i).length = (r ++ [i64 (fA ms i)]).length + (numF (fA ms) k (i + 1)).length := by simp [numF]; omega
    have h6 : r ++ i64n (numF (fA ms) (k + 1) i) = (r ++ [i64 (fA ms i)]) ++ i64n (numF (fA ms) k (i + 1)) := by simp [numF, i64n]
    rw [h5, h6, loopW_eq]
    generalize numF (fA ms) k (i + 1) = q at hih ⊢
    generalize fA ms i = v at hih hcall ⊢
    generalize loopW (bd E0 (ev E0) loopW 0 [1, 2, 4, 6, 7] L17b0) = K at hih ⊢
    simpa -implicitDefEqProofs [bd, L17b0, hi, hw, hcall, h3, h4] using hih
theorem meanAsked' (ms : List ByteArray) (hm : ms.length ≤ 8796093022208) (hs : ∀ x ∈ ms, x.size ≤ 1073741824) (l : List Int) (hl : l.length ≤ 140737488355328) : ∃ x y ok,
    ev E0 17 [.agg [.lst 1 (ms.map st)], .lst 1 (i64s l)] [] = some (.tup [.agg [i64 x, i64 y], bl ok], []) ∧
    ev E0 16 [.agg [.lst 1 (ms.map st)], .lst 1 (i64s l)] [] = some (.tup [.agg [i64 x, i64 y], bl ok], []) ∧ MeanOf ms l (fA ms) x y ok := by
  have hs2 : ∀ x ∈ ms, x.size ≤ 140737488355328 := fun x hx => by have := hs x hx; omega
  rw [e17, e16]
  unfold runF
  have t1 := table_s ms (by omega) hs2
  have hi := mean_i ms (by omega) hs2 58 rfl (fA ms) 8796093022208 (by omega) (fun i => fA_le ms hm i) (fun hT i hi => by
    rw [e58]
    unfold runF
    have hcall := ask_i ms hm hT i hi
    have hsz : (askN ms i ms.length (allL ms.length 0)).length = fA ms i := rfl
    rw [hsz] at hcall
    generalize i64s (askN ms i ms.length (allL ms.length 0)) = aa at hcall
    simp -implicitDefEqProofs [L58, hcall]) l hl
  cases hT : okTable ms with
  | false =>
    rw [hT] at t1 hi
    have hi1 := hi.1 rfl
    refine ⟨0, 0, false, ?_, ?_, .inl ⟨by simp [*], rfl, rfl, rfl⟩⟩
    · simp -implicitDefEqProofs [L17, t1]
    · simp -implicitDefEqProofs [L16, hi1]
  | true =>
    rw [hT] at t1 hi
    rw [Bool.true_and] at hi
    have hten := okTable_len hT
    have hnum := askedNum_loop ms hm hT (i64s l) ms.length 0 [] (by omega) (by simp)
    rw [c0, List.nil_append, List.length_nil, Nat.zero_add] at hnum
    rcases mean_s (fA ms) 8796093022208 (by omega) (fun i => fA_le ms hm i) ms.length l hl hten.2 with ⟨h1, h2⟩ | ⟨h1, W, e, hW, hlen, h2⟩
    · have hi1 := hi.1 h1
      refine ⟨0, 0, false, ?_, ?_, .inl ⟨by simp [*], rfl, rfl, rfl⟩⟩
      · simp -implicitDefEqProofs [L17, t1, hnum, i64n_len, h2]
      · simp -implicitDefEqProofs [L16, hi1]
    · have hi2 := hi.2 W h1 e hW hlen
      refine ⟨meanA (fA ms) W, meanB (fA ms) W, meanO W, ?_, ?_, .inr ⟨by rw [hT, h1]; rfl, W, e, hlen, rfl, rfl, rfl⟩⟩
      · simp -implicitDefEqProofs [L17, t1, hnum, i64n_len, h2]
      · simp -implicitDefEqProofs [L16, hi2]
theorem meanAsked (ms : List ByteArray) (hm : ms.length ≤ 8796093022208) (hs : ∀ x ∈ ms, x.size ≤ 1073741824) (l : List Int) (hl : l.length ≤ 140737488355328) : ∃ x y ok,
    ev E0 17 [.agg [.lst 1 (ms.map st)], .lst 1 (i64s l)] [] = some (.tup [.agg [i64 x, i64 y], bl ok], []) ∧
    ev E0 16 [.agg [.lst 1 (ms.map st)], .lst 1 (i64s l)] [] = some (.tup [.agg [i64 x, i64 y], bl ok], []) := by
  obtain ⟨x, y, ok, h1, h2, _⟩ := meanAsked' ms hm hs l hl
  exact ⟨x, y, ok, h1, h2⟩
end Go.Proofs.YtkajcafnfdlgpaaDoor.Ev
