/- Letters behind marks: what both functions answer. -/
import Derived.Test.YtkajcafnfdlgpaaDoorEvHeard
set_option linter.unusedVariables false
set_option linter.unusedSimpArgs false
namespace Go.Proofs.YtkajcafnfdlgpaaDoor.Ev
theorem lettersBehind_yes (ms : List ByteArray) (hm : ms.length ≤ 8796093022208) (hs : ∀ x ∈ ms, x.size ≤ 140737488355328) (p : ByteArray) (hp : p.size ≤ 140737488355328) (h1 : okTable ms = true) (h2 : okMarks p 0 5 = true) :
    ev E0 11 [.agg [.lst 1 (ms.map st)], st p] [] = some (.tup [.sl 0 0 (behindL p ms 0).length, bl true], [some ⟨3, 1, 1, false, i64s (behindL p ms 0)⟩]) ∧
    ev E0 10 [.agg [.lst 1 (ms.map st)], st p] [] = some (.tup [.sl 0 0 (behindL p ms 0).length, bl true], [some ⟨3, 1, 1, false, i64s (behindL p ms 0)⟩]) := by
  rw [e11, e10]
  unfold runF
  have t1 := table_s ms (by omega) hs
  have t2 := table_i ms (by omega) hs
  rw [h1] at t1 t2
  have m1 := marks_s p hp 0 5
  have m2 := marks_i p hp 0 5
  rw [h2] at m1 m2
  constructor
  · simp -implicitDefEqProofs [L11, t1, m1, behind_s ms hm]
  · simp -implicitDefEqProofs [L10, t2, m2, behind_i ms hm]
theorem lettersBehind_no (ms : List ByteArray) (hm : ms.length ≤ 8796093022208) (hs : ∀ x ∈ ms, x.size ≤ 140737488355328) (p : ByteArray) (hp : p.size ≤ 140737488355328) (h : (okTable ms && okMarks p 0 5) = false) :
    ev E0 11 [.agg [.lst 1 (ms.map st)], st p] [] = some (.tup [.sl 0 0 0, bl false], [some ⟨3, 1, 1, false, []⟩]) ∧
    ev E0 10 [.agg [.lst 1 (ms.map st)], st p] [] = some (.tup [.v (.slice none 0 0), bl false], []) := by
  rw [e11, e10]
  unfold runF
  have t1 := table_s ms (by omega) hs
  have t2 := table_i ms (by omega) hs
  have m1 := marks_s p hp 0 5
  have m2 := marks_i p hp 0 5
  cases h1 : okTable ms with
  | false =>
    rw [h1] at t1 t2
    constructor
    · simp -implicitDefEqProofs [L11, t1]
    · simp -implicitDefEqProofs [L10, t2]
  | true =>
    rw [h1, Bool.true_and] at h
    rw [h] at m1 m2
    rw [h1] at t1 t2
    constructor
    · simp -implicitDefEqProofs [L11, t1, m1]
    · simp -implicitDefEqProofs [L10, t2, m2]
end Go.Proofs.YtkajcafnfdlgpaaDoor.Ev
