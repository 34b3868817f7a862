/- Plans: their end, how many hops, how long jobs wait. -/
import Derived.Test.YtlmjoimjdpfamaaGreatEvRelI
set_option linter.unusedVariables false
set_option linter.unusedSimpArgs false
namespace Go.Proofs.YtlmjoimjdpfamaaGreat.Ev
def endP (js : List J) (h : Hh) : Int := h.2.2 + (jat js h.1).2.2.1
def endF (js : List J) : List Hh → Int → Int
  | [], e => e
  | h :: t, e => endF js t (if e < endP js h then endP js h else e)
theorem most_s (a b : Int) : ev E0 37 [i64 a, i64 b] [] = some (i64 (if a < b then b else a), []) := by
  rw [e37]
  unfold runF
  by_cases h : b < a
  · have h2 : (if a < b then b else a) = a := if_neg (by omega)
    rw [h2]
    simp -implicitDefEqProofs [L37, h]
  · have h2 : (if a < b then b else a) = b := by split <;> omega
    rw [h2]
    simp -implicitDefEqProofs [L37, h]
theorem endS_loop (js : List J) (hj : ∀ j ∈ js, JB j) (pl : List Hh) (hb : ∀ h ∈ pl, HB js h) (hpl : pl.length ≤ 1099511627776) : ∀ (t : List Hh) (i : Nat) (e : Int), pl.drop i = t →
    packX 0 [5] (loopW (bd E0 (ev E0) loopW 0 [0, 1, 5, 6] L43b0) ⟨[(0, .lst 4 (js.map jb)), (1, .lst 3 (pl.map hp)), (5, i64 e), (6, i64 i)], []⟩) = some (.ext 0, ⟨[(5, i64 (endF js t e))], []⟩) := by
  intro t
  induction t with
  | nil =>
    intro i e h
    have hi := not_drop h
    rw [loopW_eq, endF]
    generalize loopW (bd E0 (ev E0) loopW 0 [0, 1, 5, 6] L43b0) = K
    simp -implicitDefEqProofs [bd, L43b0, hi]
  | cons h t ih =>
    intro i e hd0
    obtain ⟨hi, hx, hd, hmem⟩ := at_drop hd0
    have hB := hb _ hmem
    have hih := ih (i + 1) (if e < endP js h then endP js h else e) hd
    obtain ⟨a, b, c⟩ := h
    obtain ⟨b1, b2, b3, b4, b5, b6⟩ := id hB
    obtain ⟨k, rfl⟩ : ∃ k : Nat, a = k := ⟨a.toNat, by dsimp only at b1; omega⟩
    dsimp only at *
    have hk : k < js.length := by omega
    have hJ := hj _ (List.getElem_mem hk)
    have s0 := hJ.s0
    have s1 := hJ.s1
    have hw : IntKind.i64.wrap ((i : Int) + 1) = (i : Int) + 1 := wr64 (by omega) (by omega)
    have hwe : IntKind.i64.wrap (c + js[k].2.2.1) = c + js[k].2.2.1 := wr64 (by omega) (by omega)
    have hm := most_s e (c + js[k].2.2.1)
    rw [endF]
    unfold endP at *
    dsimp only at *
    rw [jat_get hk] at hih ⊢
    rw [cs1] at hih
    rw [loopW_eq]
    generalize loopW (bd E0 (ev E0) loopW 0 [0, 1, 5, 6] L43b0) = K at hih ⊢
    generalize (if e < c + js[k].2.2.1 then c + js[k].2.2.1 else e) = e2 at *
    unfold hp jb at *
    simpa -implicitDefEqProofs [bd, L43b0, hi, hx, hk, hw, hwe, hm] using hih
theorem end_s (js : List J) (hj : ∀ j ∈ js, JB j) (pl : List Hh) (hb : ∀ h ∈ pl, HB js h) (hpl : pl.length ≤ 1099511627776) : ev E0 43 [.lst 4 (js.map jb), .lst 3 (pl.map hp)] [] = some (i64 (endF js pl 0), []) := by
  rw [e43]
  unfold runF
  have hl := endS_loop js hj pl hb hpl pl 0 0 rfl
  rw [c0] at hl
  simp -implicitDefEqProofs [L43, hl]
theorem endI_loop2 (js : List J) (hj : ∀ j ∈ js, JB j) (pl : List Hh) (hb : ∀ h ∈ pl, HB js h) (hpl : pl.length ≤ 1099511627776) : ∀ (t : List Hh) (i : Nat) (e : Int), pl.drop i = t →
    packX 0 [5] (loopW (bd E0 (ev E0) loopW 0 [0, 5, 8, 9, 10] L41b0) ⟨[(0, .lst 4 (js.map jb)), (5, i64 e), (8, .lst 3 (pl.map hp)), (9, i64 pl.length), (10, i64 i)], []⟩) = some (.ext 0, ⟨[(5, i64 (endF js t e))], []⟩) := by
  intro t
  induction t with
  | nil =>
    intro i e h
    have hi := not_drop h
    have hi2 : ¬ (i : Int) < (pl.length : Int) := by omega
    rw [loopW_eq, endF]
    generalize loopW (bd E0 (ev E0) loopW 0 [0, 5, 8, 9, 10] L41b0) = K
    simp -implicitDefEqProofs [bd, L41b0, hi, hi2]
  | cons h t ih =>
    intro i e hd0
    obtain ⟨hi, hx, hd, hmem⟩ := at_drop hd0
    have hi2 : (i : Int) < (pl.length : Int) := by omega
    have hB := hb _ hmem
    have hih := ih (i + 1) (if e < endP js h then endP js h else e) hd
    obtain ⟨a, b, c⟩ := h
    obtain ⟨b1, b2, b3, b4, b5, b6⟩ := id hB
    obtain ⟨k, rfl⟩ : ∃ k : Nat, a = k := ⟨a.toNat, by dsimp only at b1; omega⟩
    dsimp only at *
    have hk : k < js.length := by omega
    have hJ := hj _ (List.getElem_mem hk)
    have s0 := hJ.s0
    have s1 := hJ.s1
    have hw : IntKind.i64.wrap ((i : Int) + 1) = (i : Int) + 1 := wr64 (by omega) (by omega)
    have hwe : IntKind.i64.wrap (c + js[k].2.2.1) = c + js[k].2.2.1 := wr64 (by omega) (by omega)
    rw [endF]
    unfold endP at *
    dsimp only at *
    rw [jat_get hk] at hih ⊢
    rw [cs1] at hih
    rw [loopW_eq]
    generalize loopW (bd E0 (ev E0) loopW 0 [0, 5, 8, 9, 10] L41b0) = K at hih ⊢
    unfold hp jb at *
    simpa -implicitDefEqProofs [bd, L41b0, hi, hi2, hx, hk, hw, hwe] using hih
theorem end_i (js : List J) (hj : ∀ j ∈ js, JB j) (pl : List Hh) (hb : ∀ h ∈ pl, HB js h) (hpl : pl.length ≤ 1099511627776) : ev E0 41 [.lst 4 (js.map jb), .lst 3 (pl.map hp)] [] = some (i64 (endF js pl 0), []) := by
  rw [e41]
  unfold runF
  have hl := endI_loop2 js hj pl hb hpl pl 0 0 rfl
  rw [c0] at hl
  simp -implicitDefEqProofs [L41, hl]
def endV (n : Int) (js : List J) (pl : List Hh) : Int := if planT n js pl = true then endF js pl 0 else 0
theorem endOf_i (n : Int) (js : List J) (pl : List Hh) (hpl : pl.length ≤ 1099511627776) : ev E0 19 [i64 n, .lst 4 (js.map jb), .lst 3 (pl.map hp)] [] = some (.tup [i64 (endV n js pl), bl (planT n js pl)], []) := by
  rw [e19]
  unfold runF endV
  have hg := arePlanned_i n js pl hpl
  cases h1 : planT n js pl with
  | false =>
    rw [h1] at hg
    simp -implicitDefEqProofs [L19, hg]
  | true =>
    rw [h1] at hg
    unfold planT at h1
    rw [Bool.and_eq_true] at h1
    obtain ⟨hl, hj⟩ := okJobs_jb h1.1
    have he := end_i js hj pl (fun x hx => (plan_tb hj h1.2 x hx).1) hpl
    simp -implicitDefEqProofs [L19, hg, he]
-- ---------------------------------------------------------------- steps of a job, and whether it is one
theorem steps_i (j : J) (h : JB j) : ev E0 35 [jb j] [] = some (i64 (many j), []) := by
  rw [e35]
  unfold runF many jb
  have f0 := h.f0
  have f1 := h.f1
  have t0 := h.t0
  have t1 := h.t1
  have w1 : IntKind.i64.wrap (j.2.1 - j.1) = j.2.1 - j.1 := wr64 (by omega) (by omega)
  have w2 : IntKind.i64.wrap (j.1 - j.2.1) = j.1 - j.2.1 := wr64 (by omega) (by omega)
  have ne := h.ne
  by_cases hlt : j.1 < j.2.1
  · have h2 : ¬ j.2.1 - j.1 < j.1 - j.2.1 := by omega
    simp -implicitDefEqProofs [L35, w1, w2, hlt, h2]
  · have h2 : j.2.1 - j.1 < j.1 - j.2.1 := by omega
    simp -implicitDefEqProofs [L35, w1, w2, hlt, h2]
def stepV (n : Int) (j : J) : Int := if (btw n 2 6 && okJob n j) = true then many j else 0
end Go.Proofs.YtlmjoimjdpfamaaGreat.Ev
