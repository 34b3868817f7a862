/- The depth, and where to begin: the reference's functions and the program's give the same. -/
import Derived.Test.YtkajcafnfdlgpaaDoorEvDepthI
set_option linter.unusedVariables false
set_option linter.unusedSimpArgs false
namespace Go.Proofs.YtkajcafnfdlgpaaDoor.Ev
theorem valid_s (ms : List ByteArray) (hm : ms.length ≤ 8796093022208) (hs : ∀ x ∈ ms, x.size ≤ 140737488355328) (l : List Int) (hl : l.length ≤ 1073741824) : (okTable ms = false ∧ ev E0 51 [.agg [.lst 1 (ms.map st)]] [] = some (bl false, [])) ∨
    (okTable ms = true ∧ ev E0 51 [.agg [.lst 1 (ms.map st)]] [] = some (bl true, []) ∧ ev E0 65 [.agg [.lst 1 (ms.map st)], .lst 1 (i64s l)] [] = some (bl (okLetters ms l), [])) := by
  have t1 := table_s ms (by omega) hs
  cases h1 : okTable ms with
  | false => rw [h1] at t1; exact .inl ⟨rfl, t1⟩
  | true =>
    obtain ⟨b1, b2⟩ := okTable_len h1
    rw [h1] at t1
    exact .inr ⟨rfl, t1, letters_s ms b1 b2 l (by omega)⟩
theorem depthOf (ms : List ByteArray) (hm : ms.length ≤ 8796093022208) (hs : ∀ x ∈ ms, x.size ≤ 140737488355328) (l : List Int) (hl : l.length ≤ 1073741824) : ∃ v ok,
    ev E0 23 [.agg [.lst 1 (ms.map st)], .lst 1 (i64s l)] [] = some (.tup [i64 v, bl ok], []) ∧
    ev E0 22 [.agg [.lst 1 (ms.map st)], .lst 1 (i64s l)] [] = some (.tup [i64 v, bl ok], []) := by
  rw [e23, e22]
  unfold runF
  have t3 := asked_i ms (by omega) hs l (by omega)
  rcases valid_s ms hm hs l hl with ⟨h1, t1⟩ | ⟨h1, t1, t2⟩
  · rw [h1, Bool.false_and] at t3
    refine ⟨0, false, ?_, ?_⟩
    · simp -implicitDefEqProofs [L23, t1]
    · simp -implicitDefEqProofs [L22, t3]
  · rw [h1, Bool.true_and] at t3
    cases h2 : okLetters ms l with
    | false =>
      rw [h2] at t2 t3
      refine ⟨0, false, ?_, ?_⟩
      · simp -implicitDefEqProofs [L23, t1, t2]
      · simp -implicitDefEqProofs [L22, t3]
    | true =>
      rw [h2] at t2 t3
      obtain ⟨ln, e, hne, hv, hln, _, ha⟩ := okLetters_apart h1 h2
      rw [e] at t2 t3 ⊢
      have d1 := depth_s ms ln.length ln (Nat.le_refl _) (by omega) hne hv ha
      have d2 := depth_i ms ln.length ln (Nat.le_refl _) (by omega) hne hv ha
      refine ⟨(depN ms ln.length ln).1, true, ?_, ?_⟩
      · simp -implicitDefEqProofs [L23, t1, t2, d1]
      · simp -implicitDefEqProofs [L22, t3, d2]
theorem bestAsk (ms : List ByteArray) (hm : ms.length ≤ 8796093022208) (hs : ∀ x ∈ ms, x.size ≤ 140737488355328) (l : List Int) (hl : l.length ≤ 1073741824) : ∃ v ok,
    ev E0 27 [.agg [.lst 1 (ms.map st)], .lst 1 (i64s l)] [] = some (.tup [i64 v, bl ok], []) ∧
    ev E0 26 [.agg [.lst 1 (ms.map st)], .lst 1 (i64s l)] [] = some (.tup [i64 v, bl ok], []) := by
  rw [e27, e26]
  unfold runF
  have t3 := asked_i ms (by omega) hs l (by omega)
  rcases valid_s ms hm hs l hl with ⟨h1, t1⟩ | ⟨h1, t1, t2⟩
  · rw [h1, Bool.false_and] at t3
    refine ⟨0, false, ?_, ?_⟩
    · simp -implicitDefEqProofs [L27, t1]
    · simp -implicitDefEqProofs [L26, t3]
  · rw [h1, Bool.true_and] at t3
    cases h2 : okLetters ms l with
    | false =>
      rw [h2] at t2 t3
      refine ⟨0, false, ?_, ?_⟩
      · simp -implicitDefEqProofs [L27, t1, t2]
      · simp -implicitDefEqProofs [L26, t3]
    | true =>
      rw [h2] at t2 t3
      by_cases hone : l.length = 1
      · have hone2 : (l.length : Int) = 1 := by omega
        refine ⟨0, false, ?_, ?_⟩
        · simp -implicitDefEqProofs [L27, t1, t2, i64s_len, hone, hone2]
        · simp -implicitDefEqProofs [L26, t3, i64s_len, hone, hone2]
      · obtain ⟨ln, e, hne, hv, hln, _, ha⟩ := okLetters_apart h1 h2
        have hone2 : ¬ (ln.length : Int) = 1 := by omega
        have hone3 : ¬ ln.length = 1 := by omega
        rw [e] at t2 t3 ⊢
        have d1 := depth_s ms ln.length ln (Nat.le_refl _) (by omega) hne hv ha
        have d2 := depth_i ms ln.length ln (Nat.le_refl _) (by omega) hne hv ha
        refine ⟨(depN ms ln.length ln).2, true, ?_, ?_⟩
        · simp -implicitDefEqProofs [L27, t1, t2, d1, i64n_len, hone2, hone3]
        · simp -implicitDefEqProofs [L26, t3, d2, i64n_len, hone2, hone3]
end Go.Proofs.YtkajcafnfdlgpaaDoor.Ev
