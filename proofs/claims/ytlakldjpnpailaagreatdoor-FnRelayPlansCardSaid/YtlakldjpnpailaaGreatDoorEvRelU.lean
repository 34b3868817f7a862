/- What the laws' own helpers answer: sizes of codes, rows held against each other. -/
import Derived.Test.YtlakldjpnpailaaGreatDoorEvRelT
import Derived.Test.YtlakldjpnpailaaGreatDoorEvRelJ
set_option linter.unusedVariables false
set_option linter.unusedSimpArgs false
namespace Go.Proofs.YtlakldjpnpailaaGreatDoor.Ev
open Dr
theorem okC_law {x : List Int} (hl : x.length ≤ 140737488355328) (hw : ∀ y ∈ x, (Lit.int .u8 y).wf = true) : okC x := by
  refine ⟨hl, fun y hy => ?_⟩
  have h := hw y hy
  unfold Lit.wf at h
  rw [Bool.and_eq_true, decide_eq_true_eq, decide_eq_true_eq] at h
  exact h
theorem rbig (x : List Int) : ev E0 4 [.lst 1 (cd x)] [] = some (bl (decide (65536 < (x.length : Int))), []) := by
  rw [e4]
  unfold runF
  simp -implicitDefEqProofs [L4, cd_len]
theorem rints_loop (l : List Int) (hm : l.length ≤ 140737488355328) : ∀ (t : List Int) (i : Nat), l.drop i = t →
    packX 0 [4] (loopW (bd E0 (ev E0) loopW 0 [0, 1, 5] L12b0) ⟨[(0, .lst 1 (i64s l)), (1, .lst 1 (i64s l)), (5, i64 i)], []⟩) = some (.ext 0, ⟨[], []⟩) := by
  intro t
  induction t with
  | nil =>
    intro i h
    have hi := not_drop h
    rw [loopW_eq]
    generalize loopW (bd E0 (ev E0) loopW 0 [0, 1, 5] L12b0) = K
    simp -implicitDefEqProofs [bd, L12b0, i64s, hi]
  | cons c t ih =>
    intro i h
    obtain ⟨hi, hx, hd, hmem⟩ := at_drop h
    have hih := ih (i + 1) hd
    have hw : IntKind.i64.wrap ((i : Int) + 1) = (i : Int) + 1 := wr64 (by omega) (by omega)
    rw [cs1] at hih
    rw [loopW_eq]
    generalize loopW (bd E0 (ev E0) loopW 0 [0, 1, 5] L12b0) = K at hih ⊢
    simpa -implicitDefEqProofs [bd, L12b0, i64s, hi, hx, hw] using hih
theorem rints (l : List Int) (hm : l.length ≤ 140737488355328) : ev E0 12 [.lst 1 (i64s l), .lst 1 (i64s l)] [] = some (bl true, []) := by
  rw [e12]
  unfold runF
  have h := rints_loop l hm l 0 rfl
  rw [c0] at h
  simp -implicitDefEqProofs [L12, i64s_len, h]
theorem isPlanF_s (n : Int) (js : List J) (pl : List Hh) (hpl : pl.length ≤ 1099511627776) : ev E0 7 [i64 n, .lst 4 (js.map jb), .lst 3 (pl.map hp)] [] = some (.tup [bl (planT n js pl), bl (okJobs n js)], []) := by
  rw [e7]
  unfold runF planT
  have hg := good_s n js
  cases h1 : okJobs n js with
  | false =>
    rw [h1] at hg
    simp -implicitDefEqProofs [L7, hg]
  | true =>
    rw [h1] at hg
    obtain ⟨hl, hj⟩ := okJobs_jb h1
    have hp := isPlan_s js hj hl pl hpl
    simp -implicitDefEqProofs [L7, hg, hp]
theorem isPlanF_i (n : Int) (js : List J) (pl : List Hh) (hpl : pl.length ≤ 1099511627776) : ev E0 6 [i64 n, .lst 4 (js.map jb), .lst 3 (pl.map hp)] [] = some (.tup [bl (planT n js pl), bl (okJobs n js)], []) := by
  rw [e6]
  unfold runF planT
  have hg := areJobs_i n js
  cases h1 : okJobs n js with
  | false =>
    rw [h1] at hg
    simp -implicitDefEqProofs [L6, hg]
  | true =>
    rw [h1] at hg
    obtain ⟨hl, hj⟩ := okJobs_jb h1
    have hp := isPlan_i js hj hl pl hpl
    rw [plan_eq hj] at hp
    simp -implicitDefEqProofs [L6, hg, hp]
theorem endF_ge (js : List J) : ∀ (pl : List Hh) (e : Int), e ≤ endF js pl e ∧ ∀ h ∈ pl, endP js h ≤ endF js pl e
  | [], e => ⟨Int.le_refl _, fun h hh => by cases hh⟩
  | x :: t, e => by
    obtain ⟨h1, h2⟩ := endF_ge js t (if e < endP js x then endP js x else e)
    rw [endF]
    generalize endF js t _ = q at *
    refine ⟨by split at h1 <;> omega, fun h hh => ?_⟩
    rcases List.mem_cons.1 hh with e1 | e1
    · subst e1; split at h1 <;> omega
    · exact h2 h e1
theorem busy_even (js : List J) (u : Int) : ∀ pl : List Hh, (busyI js u pl).length % 2 = 0
  | [] => rfl
  | h :: t => by
    have ih := busy_even js u t
    unfold busyI at *
    rw [List.flatMap_cons, List.length_append]
    split
    · simp only [List.length_cons, List.length_nil]; omega
    · simpa using ih
theorem busy_none {js : List J} {u : Int} : ∀ {pl : List Hh}, (∀ h ∈ pl, endP js h ≤ u) → busyI js u pl = []
  | [], _ => rfl
  | h :: t, hh => by
    have ih := busy_none (js := js) (u := u) (pl := t) fun x hx => hh x (by simp [hx])
    have h1 := hh h (by simp)
    unfold busyI at *
    rw [List.flatMap_cons, ih]
    have : act js u h = false := by
      unfold act btw
      unfold endP at h1
      rw [Bool.and_eq_false_iff]
      right
      rw [decide_eq_false_iff_not]
      omega
    rw [this]
    simp
theorem stepV_in (n : Int) (j : J) (h : (btw n 2 6 && okJob n j) = true) : 1 ≤ stepV n j ∧ stepV n j < n := by
  unfold stepV
  rw [if_pos h]
  rw [Bool.and_eq_true] at h
  have hJ := okJob_jb h.1 h.2
  have h2 := h.2
  unfold okJob btw at h2
  simp only [Bool.and_eq_true, decide_eq_true_eq] at h2
  obtain ⟨⟨a1, a2⟩, ⟨a3, a4⟩, _⟩ := h2
  have hm := hJ.many_pos
  refine ⟨hm.1, ?_⟩
  unfold many
  split <;> omega
end Go.Proofs.YtlakldjpnpailaaGreatDoor.Ev
