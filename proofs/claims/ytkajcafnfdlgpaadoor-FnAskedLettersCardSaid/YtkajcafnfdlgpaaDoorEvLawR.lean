/- What the laws' own helpers answer: sizes of codes, rows held against each other. -/
import Derived.Test.YtkajcafnfdlgpaaDoorEvDraw
import Derived.Test.YtkajcafnfdlgpaaDoorEvHeard
set_option linter.unusedVariables false
set_option linter.unusedSimpArgs false
namespace Go.Proofs.YtkajcafnfdlgpaaDoor.Ev
open Dr
theorem okC_law {x : List Int} (hl : x.length ≤ 140737488355328) (hw : ∀ y ∈ x, (Lit.int .u8 y).wf = true) : okC x := by
  refine ⟨hl, fun y hy => ?_⟩
  have h := hw y hy
  unfold Lit.wf at h
  rw [Bool.and_eq_true, decide_eq_true_eq, decide_eq_true_eq] at h
  exact h
theorem rbig (x : List Int) : ev E0 5 [.lst 1 (cd x)] [] = some (bl (decide (65536 < (x.length : Int))), []) := by
  rw [e5]
  unfold runF
  simp -implicitDefEqProofs [L5, cd_len]
theorem rints_loop (l : List Int) (hm : l.length ≤ 140737488355328) : ∀ (t : List Int) (i : Nat), l.drop i = t →
    packX 0 [4] (loopW (bd E0 (ev E0) loopW 0 [0, 1, 5] L12b0) ⟨[(0, .lst 1 (i64s l)), (1, .lst 1 (i64s l)), (5, i64 i)], []⟩) = some (.ext 0, ⟨[], []⟩) := by
  intro t
  induction t with
  | nil =>
    intro i h
    have hi := not_drop h
    rw [loopW_eq]
    generalize loopW (bd E0 (ev E0) loopW 0 [0, 1, 5] L12b0) = K
    simp -implicitDefEqProofs [bd, L12b0, i64s, hi]
  | cons c t ih =>
    intro i h
    obtain ⟨hi, hx, hd, hmem⟩ := at_drop h
    have hih := ih (i + 1) hd
    have hw : IntKind.i64.wrap ((i : Int) + 1) = (i : Int) + 1 := wr64 (by omega) (by omega)
    rw [cs1] at hih
    rw [loopW_eq]
    generalize loopW (bd E0 (ev E0) loopW 0 [0, 1, 5] L12b0) = K at hih ⊢
    simpa -implicitDefEqProofs [bd, L12b0, i64s, hi, hx, hw] using hih
theorem rints (l : List Int) (hm : l.length ≤ 140737488355328) : ev E0 12 [.lst 1 (i64s l), .lst 1 (i64s l)] [] = some (bl true, []) := by
  rw [e12]
  unfold runF
  have h := rints_loop l hm l 0 rfl
  rw [c0] at h
  simp -implicitDefEqProofs [L12, i64s_len, h]
end Go.Proofs.YtkajcafnfdlgpaaDoor.Ev
