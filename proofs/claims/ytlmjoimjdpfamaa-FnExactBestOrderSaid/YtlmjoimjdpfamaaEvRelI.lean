/- Plans: their text, whole; copies and sizes of jobs and hops. -/
import Derived.Test.YtlmjoimjdpfamaaEvRelH
set_option linter.unusedVariables false
set_option linter.unusedSimpArgs false
namespace Go.Proofs.Ytlmjoimjdpfamaa.Ev
theorem textL_size : ∀ (t : List ByteArray) (i : Nat) (s : ByteArray), (∀ x ∈ t, x.size ≤ 82) → (textL i s t).size ≤ s.size + 100 * t.length
  | [], i, s, _ => by simp [textL]
  | m :: t, i, s, h => by
    have h1 := textL_size t (i + 1) (stepT i s m) (fun x hx => h x (by simp [hx]))
    have h2 : (stepT i s m).size ≤ s.size + 83 := by
      have o1 : (⟨#[32]⟩ : ByteArray).size = 1 := rfl
      have := h m (by simp)
      unfold stepT
      split <;> simp only [ByteArray.size_append, o1] <;> omega
    rw [textL, List.length_cons]
    omega
theorem plan_tb {js : List J} (hj : ∀ j ∈ js, JB j) {pl : List Hh} (h : planS js pl = true) : ∀ h ∈ pl, TB js h := by
  obtain ⟨h1, h2, _⟩ := (planS_iff js pl).1 h
  have hb := runs_hb hj h1 h2
  intro x hx
  have hB := hb x hx
  refine ⟨hB, ?_⟩
  have hk : x.1.toNat < js.length := by
    have q1 := hB.1
    have q2 := hB.2.1
    omega
  obtain ⟨q, e1, _⟩ := h2 _ hk
  have hJ := hj _ (List.getElem_mem hk)
  have := runK_hops hJ pl _ _ q e1 hJ.b0 x hx (by have q1 := hB.1; omega)
  exact ⟨this.1, this.2.1⟩
def planT (n : Int) (js : List J) (pl : List Hh) : Bool := okJobs n js && planS js pl
def planTx (n : Int) (js : List J) (pl : List Hh) : ByteArray := if planT n js pl = true then textL 0 ⟨#[]⟩ (pl.map (word js)) else ⟨#[]⟩
theorem okJobs_jb {n : Int} {js : List J} (h : okJobs n js = true) : js.length ≤ 5 ∧ ∀ j ∈ js, JB j := by
  unfold okJobs at h
  rw [Bool.and_eq_true, Bool.and_eq_true, decide_eq_true_eq, List.all_eq_true] at h
  exact ⟨h.2.1, fun j hj => okJob_jb h.1 (h.2.2 j hj)⟩
theorem to_job (j : J) : ev E0 33 [jb j] [] = some (jb j, []) := by
  rw [e33]
  unfold runF jb
  simp -implicitDefEqProofs [L33]
theorem eq_job (j : J) : ev E0 37 [jb j, jb j] [] = some (bl true, []) := by
  rw [e37]
  unfold runF jb
  simp -implicitDefEqProofs [L37]
theorem eq_hop (h : Hh) : ev E0 40 [hp h, hp h] [] = some (bl true, []) := by
  rw [e40]
  unfold runF hp
  simp -implicitDefEqProofs [L40]
theorem sz_jobs (l : List J) (hl : l.length ≤ 9223372036854775807) (c : Int) (h0 : 0 ≤ c) (hc : c ≤ 1048576) : ∃ r, ev E0 8 [.lst 4 (l.map jb), i64 c] [] = some (i64 r, []) ∧ (r < 0 ∨ (0 ≤ r ∧ r ≤ c ∧ (l.length : Int) ≤ c)) := by
  have hw : IntKind.i64.wrap (c - (l.length : Int)) = c - (l.length : Int) := wr64 (by omega) (by omega)
  by_cases h : c - (l.length : Int) < 0
  · refine ⟨-1, ?_, .inl (by omega)⟩
    rw [e8]
    unfold runF
    simp -implicitDefEqProofs [L8, hw, h]
  · refine ⟨c - (l.length : Int), ?_, .inr ⟨by omega, by omega, by omega⟩⟩
    rw [e8]
    unfold runF
    simp -implicitDefEqProofs [L8, hw, h]
theorem copy_jobs_loop (ms : List J) (hm : ms.length ≤ 140737488355328) : ∀ (t : List J) (i : Nat), ms.drop i = t →
    packX 0 [3] (loopW (bd E0 (ev E0) loopW 0 [0, 3, 4] L10b0) ⟨[(0, .lst 4 (ms.map jb)), (3, .sl 0 0 ms.length), (4, i64 i)], [some ⟨46, 4, 1, false, (ms.take i).map jb ++ List.replicate t.length (.agg [i64 0, i64 0, i64 0, i64 0])⟩]⟩) = some (.ext 0, ⟨[(3, .sl 0 0 ms.length)], [some ⟨46, 4, 1, false, ms.map jb⟩]⟩) := by
  intro t
  induction t with
  | nil =>
    intro i h
    have hi := not_drop h
    have ht : ms.take i = ms := List.take_of_length_le (by omega)
    rw [ht, List.length_nil, List.replicate_zero, List.append_nil, loopW_eq]
    generalize loopW (bd E0 (ev E0) loopW 0 [0, 3, 4] L10b0) = K
    simp -implicitDefEqProofs [bd, L10b0, hi]
  | cons c t ih =>
    intro i h
    obtain ⟨hi, hx, hd, hmem⟩ := at_drop h
    have hih := ih (i + 1) hd
    rw [List.length_cons, List.replicate_succ]
    generalize List.replicate t.length (AV.agg [i64 0, i64 0, i64 0, i64 0]) = r at hih ⊢
    have e1 : ms.take (i + 1) = ms.take i ++ [c] := by rw [List.take_succ_eq_append_getElem hi, hx]
    rw [cs1, e1] at hih
    have hw : IntKind.i64.wrap ((i : Int) + 1) = (i : Int) + 1 := wr64 (by omega) (by omega)
    have hj := to_job c
    rw [loopW_eq]
    generalize loopW (bd E0 (ev E0) loopW 0 [0, 3, 4] L10b0) = K at hih ⊢
    have hg : (List.take i (List.map jb ms) ++ .agg [i64 0, i64 0, i64 0, i64 0] :: r)[i]? = some (.agg [i64 0, i64 0, i64 0, i64 0]) := app_get (by simp; omega)
    have hst : (List.take i (List.map jb ms) ++ .agg [i64 0, i64 0, i64 0, i64 0] :: r).set i (jb c) = List.take i (List.map jb ms) ++ jb c :: r := app_set (by simp; omega)
    rw [List.map_append, List.append_assoc, List.map_take] at hih
    unfold jb at *
    simpa -implicitDefEqProofs [bd, L10b0, hi, hx, hw, hg, hst, hj] using hih
theorem copy_jobs (ms : List J) (hm : ms.length ≤ 1099511627776) : ev E0 10 [.lst 4 (ms.map jb)] [] = some (.sl 0 0 ms.length, [some ⟨46, 4, 1, false, ms.map jb⟩]) := by
  rw [e10]
  unfold runF
  have hl := copy_jobs_loop ms (by omega) ms 0 rfl
  rw [c0, List.take_zero, List.map_nil, List.nil_append] at hl
  have h1 : (ms.length : Int) * 32 ≤ 140737488355328 := by omega
  have h2 : (ms.length : Int) ≤ 140737488355328 := by omega
  simp -implicitDefEqProofs [L10, hl, h1, h2]
theorem eq_jobs_loop (l : List J) (hm : l.length ≤ 140737488355328) : ∀ (t : List J) (i : Nat), l.drop i = t →
    packX 0 [4] (loopW (bd E0 (ev E0) loopW 0 [0, 1, 5] L13b0) ⟨[(0, .lst 4 (l.map jb)), (1, .lst 4 (l.map jb)), (5, i64 i)], []⟩) = some (.ext 0, ⟨[], []⟩) := by
  intro t
  induction t with
  | nil =>
    intro i h
    have hi := not_drop h
    rw [loopW_eq]
    generalize loopW (bd E0 (ev E0) loopW 0 [0, 1, 5] L13b0) = K
    simp -implicitDefEqProofs [bd, L13b0, hi]
  | cons x t ih =>
    intro i h
    obtain ⟨hi, hx, hd, hmem⟩ := at_drop h
    have hih := ih (i + 1) hd
    rw [cs1] at hih
    have hw : IntKind.i64.wrap ((i : Int) + 1) = (i : Int) + 1 := wr64 (by omega) (by omega)
    have he := eq_job x
    rw [loopW_eq]
    generalize loopW (bd E0 (ev E0) loopW 0 [0, 1, 5] L13b0) = K at hih ⊢
    unfold jb at *
    simpa -implicitDefEqProofs [bd, L13b0, hi, hx, hw, he] using hih
theorem eq_jobs (l : List J) (hm : l.length ≤ 140737488355328) : ev E0 13 [.lst 4 (l.map jb), .lst 4 (l.map jb)] [] = some (bl true, []) := by
  rw [e13]
  unfold runF
  have hl := eq_jobs_loop l hm l 0 rfl
  rw [c0] at hl
  simp -implicitDefEqProofs [L13, hl]
theorem eq_hops_loop (l : List Hh) (hm : l.length ≤ 140737488355328) : ∀ (t : List Hh) (i : Nat), l.drop i = t →
    packX 0 [4] (loopW (bd E0 (ev E0) loopW 0 [0, 1, 5] L20b0) ⟨[(0, .lst 3 (l.map hp)), (1, .lst 3 (l.map hp)), (5, i64 i)], []⟩) = some (.ext 0, ⟨[], []⟩) := by
  intro t
  induction t with
  | nil =>
    intro i h
    have hi := not_drop h
    rw [loopW_eq]
    generalize loopW (bd E0 (ev E0) loopW 0 [0, 1, 5] L20b0) = K
    simp -implicitDefEqProofs [bd, L20b0, hi]
  | cons x t ih =>
    intro i h
    obtain ⟨hi, hx, hd, hmem⟩ := at_drop h
    have hih := ih (i + 1) hd
    rw [cs1] at hih
    have hw : IntKind.i64.wrap ((i : Int) + 1) = (i : Int) + 1 := wr64 (by omega) (by omega)
    have he := eq_hop x
    rw [loopW_eq]
    generalize loopW (bd E0 (ev E0) loopW 0 [0, 1, 5] L20b0) = K at hih ⊢
    unfold hp at *
    simpa -implicitDefEqProofs [bd, L20b0, hi, hx, hw, he] using hih
theorem eq_hops (l : List Hh) (hm : l.length ≤ 140737488355328) : ev E0 20 [.lst 3 (l.map hp), .lst 3 (l.map hp)] [] = some (bl true, []) := by
  rw [e20]
  unfold runF
  have hl := eq_hops_loop l hm l 0 rfl
  rw [c0] at hl
  simp -implicitDefEqProofs [L20, hl]
end Go.Proofs.Ytlmjoimjdpfamaa.Ev
