/- FnExactLettersBehind: the law, run by the evaluator, answers true. -/
import Derived.Test.YtoehcdjndnmmlaaDoorEvMark
set_option linter.unusedVariables false
set_option linter.unusedSimpArgs false
namespace Go.Proofs.YtoehcdjndnmmlaaDoor.Ev
theorem lettersBehind_yes (ms : List ByteArray) (hm : ms.length ≤ 8796093022208) (hs : ∀ x ∈ ms, x.size ≤ 140737488355328) (p : ByteArray) (hp : p.size ≤ 140737488355328) (h1 : okTable ms = true) (h2 : okMarks p 0 5 = true) :
    ev E0 26 [.agg [.lst 1 (ms.map st)], st p] [] = some (.tup [.sl 0 0 (behindL p ms 0).length, bl true], [some ⟨3, 1, 1, false, i64s (behindL p ms 0)⟩]) ∧
    ev E0 27 [.agg [.lst 1 (ms.map st)], st p] [] = some (.tup [.sl 0 0 (behindL p ms 0).length, bl true], [some ⟨3, 1, 1, false, i64s (behindL p ms 0)⟩]) := by
  rw [e26, e27]
  unfold runF
  have t1 := table_s ms (by omega) hs
  have t2 := table_i ms (by omega) hs
  rw [h1] at t1 t2
  have m1 := marks_s p hp 0 5
  have m2 := marks_i p hp 0 5
  rw [h2] at m1 m2
  constructor
  · simp -implicitDefEqProofs [L26, t1, m1, behind_s ms hm]
  · simp -implicitDefEqProofs [L27, t2, m2, behind_i ms hm]
theorem lettersBehind_no (ms : List ByteArray) (hm : ms.length ≤ 8796093022208) (hs : ∀ x ∈ ms, x.size ≤ 140737488355328) (p : ByteArray) (hp : p.size ≤ 140737488355328) (h : (okTable ms && okMarks p 0 5) = false) :
    ev E0 26 [.agg [.lst 1 (ms.map st)], st p] [] = some (.tup [.sl 0 0 0, bl false], [some ⟨3, 1, 1, false, []⟩]) ∧
    ev E0 27 [.agg [.lst 1 (ms.map st)], st p] [] = some (.tup [.v (.slice none 0 0), bl false], []) := by
  rw [e26, e27]
  unfold runF
  have t1 := table_s ms (by omega) hs
  have t2 := table_i ms (by omega) hs
  have m1 := marks_s p hp 0 5
  have m2 := marks_i p hp 0 5
  cases h1 : okTable ms with
  | false =>
    rw [h1] at t1 t2
    constructor
    · simp -implicitDefEqProofs [L26, t1]
    · simp -implicitDefEqProofs [L27, t2]
  | true =>
    rw [h1, Bool.true_and] at h
    rw [h] at m1 m2
    rw [h1] at t1 t2
    constructor
    · simp -implicitDefEqProofs [L26, t1, m1]
    · simp -implicitDefEqProofs [L27, t2, m2]
theorem FnExactLettersBehind (ms : List ByteArray) (hm : ms.length ≤ maxLen ∧ ∀ x ∈ ms, x.size ≤ maxLen) (p : ByteArray) (hp : p.size ≤ maxLen) : ev E0 6 [.agg [.lst 1 (ms.map st)], st p] [] = some (bl true, []) := by
  obtain ⟨hm1, hm2⟩ := hm
  unfold maxLen at hm1 hm2 hp
  obtain ⟨r, e, h⟩ := sz_table ms (by omega) (fun x hx => by have := hm2 x hx; omega) 1048576 (by omega) (by omega)
  rw [e6]
  unfold runF
  by_cases hps : (p.size : Int) > 1048576
  · have hps2 : 1048576 < p.size := by omega
    have hps3 : (1048576 : Int) < (p.size : Int) := hps
    simp -implicitDefEqProofs [L6, hps2, hps3]
  · have hps2 : ¬ 1048576 < p.size := by omega
    have hps3 : ¬ (1048576 : Int) < (p.size : Int) := hps
    by_cases hr : r < 0
    · simp -implicitDefEqProofs [L6, e, hr, hps2, hps3]
    · rcases h with h | ⟨h1, h2, h3, h4⟩
      · exact absurd h hr
      have hl : ms.length ≤ 8796093022208 := by omega
      have hm3 : ∀ x ∈ ms, x.size ≤ 140737488355328 := fun x hx => by have := h4 x hx; omega
      have hl2 : ms.length ≤ 140737488355328 := by omega
      have hp3 : p.size ≤ 140737488355328 := by omega
      have hb := behindL_len p ms 0
      have hl4 : ms.length ≤ 1073741824 := by omega
      have hn1 : ¬ (1 + (ms.length : Int)) < 0 := by omega
      cases hv : (okTable ms && okMarks p 0 5) with
      | false =>
        obtain ⟨e1, e2⟩ := lettersBehind_no ms hl hm3 p hp3 hv
        simp -implicitDefEqProofs [L6, e, hr, hps2, hps3, copy_table ms hl, e1, e2, eq_table ms hl2, eq_nil, mark_table1, mark_nil1, held_nil, hl4, hn1, -Int.natCast_add]
      | true =>
        rw [Bool.and_eq_true] at hv
        obtain ⟨e1, e2⟩ := lettersBehind_yes ms hl hm3 p hp3 hv.1 hv.2
        generalize behindL p ms 0 = l at hb e1 e2
        have hb4 : l.length ≤ 1073741824 := by omega
        have hb5 : l.length ≤ 140737488355328 := by omega
        have hn2 : ¬ (1 + (l.length : Int)) < 0 := by omega
        simp -implicitDefEqProofs [L6, e, hr, hps2, hps3, copy_table ms hl, e1, e2, eq_table ms hl2, eq_ints l hb5, mark_table1, mark_ints1, held_ints1, hl4, hb4, hn1, hn2, i64s_len, seqI_len]
end Go.Proofs.YtoehcdjndnmmlaaDoor.Ev
