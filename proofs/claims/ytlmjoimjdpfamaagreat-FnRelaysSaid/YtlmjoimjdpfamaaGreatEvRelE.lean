/- Plans: the program's test, walked. -/
import Derived.Test.YtlmjoimjdpfamaaGreatEvRelD
set_option linter.unusedVariables false
set_option linter.unusedSimpArgs false
namespace Go.Proofs.YtlmjoimjdpfamaaGreat.Ev
def i64s (l : List Int) : List AV := l.map i64
theorem i64s_len (l : List Int) : (i64s l).length = l.length := by simp [i64s]
theorem walk_step {js : List J} (hj : ∀ j ∈ js, JB j) {p : List Hh} {ats rds : List Int} {cs : List Nat} {h : Hh} (hW : Walk js ats rds cs) (ho : okHop js p ats rds h = true) : HB js h ∧ (∃ cs', Walk js (ats.set h.1.toNat (nxt js h)) (rds.set h.1.toNat (h.2.2 + (jat js h.1).2.2.1)) cs') ∧ h.2.1 = ats.getD h.1.toNat 0 ∧ h.2.2 ≤ 9999 := by
  unfold okHop btw at ho
  simp only [Bool.and_eq_true, Bool.not_eq_true', Bool.or_eq_false_iff, decide_eq_true_eq, decide_eq_false_iff_not] at ho
  obtain ⟨⟨⟨h1, h2⟩, ⟨h3, h4⟩, h5⟩, ⟨h6, h7, h8⟩, h9⟩ := ho
  have h7' : h.2.1 = ats.getD h.1.toNat 0 := by
    cases hd : decide (h.2.1 = ats.getD h.1.toNat 0) with
    | true => exact of_decide_eq_true hd
    | false => rw [hd] at h7; cases h7
  obtain ⟨a, b, c⟩ := h
  obtain ⟨k, rfl⟩ : ∃ k : Nat, a = k := ⟨a.toNat, by simp at h1; omega⟩
  dsimp only at *
  have hk : k < js.length := by omega
  have hJ := hj _ (List.getElem_mem hk)
  have hjat := jat_get hk
  rw [Int.toNat_natCast] at *
  rw [hjat] at h6
  obtain ⟨a1, a2, a3⟩ := hW.at_ k hk
  have hc : ((cs.getD k 0 : Nat) : Int) < many js[k] := by
    have := at_to hJ (cs.getD k 0)
    rw [← a1] at this
    rcases Int.lt_or_lt_of_ne (fun e => h6 (this.2 e)) with hl | hl <;> omega
  have f0 := hJ.f0
  have f1 := hJ.f1
  have t0 := hJ.t0
  have t1 := hJ.t1
  have s0 := hJ.s0
  have hto := hJ.to_eq
  have hwc := JB.way_cases (j := js[k])
  have hb : 0 ≤ b ∧ b ≤ 5 := by
    rw [h7', a1]
    rcases hwc with w | w <;> rw [w] at hto ⊢ <;> omega
  refine ⟨⟨by dsimp only; omega, by dsimp only; omega, by dsimp only; omega, by dsimp only; omega, by dsimp only; omega, by dsimp only; omega⟩, ⟨cs.set k (cs.getD k 0 + 1), by simp [hW.la], by simp [hW.lr], by simp [hW.lc], fun i hi => ?_⟩, h7', h4⟩
  rw [hjat]
  rw [getD_set _ _ _ _ _ (by rw [hW.la]; exact hk), getD_set _ _ _ _ _ (by rw [hW.lc]; exact hk), getD_set _ _ _ _ _ (by rw [hW.lr]; exact hk)]
  by_cases hik : i = k
  · subst hik
    simp only [if_true]
    refine ⟨?_, by omega, by omega⟩
    unfold nxt
    simp only [hjat, h7', a1]
    rcases hwc with w | w <;> rw [w] <;> push_cast <;> (try omega)
  · simp only [if_neg hik]
    exact hW.at_ i hi
def ri (l : List Int) : Option Blk := some ⟨3, 1, 1, false, i64s l⟩
theorem initI_loop (js : List J) (hl : js.length ≤ 5) (pl : List Hh) : ∀ (t : List J) (i : Nat) (xs ys : List Int), js.drop i = t → xs.length = i → ys.length = i →
    packX 0 [0, 1, 5, 6] (loopW (bd E0 (ev E0) loopW 0 [0, 1, 5, 6, 18, 19, 20] L48b0) ⟨[(0, .lst 4 (js.map jb)), (1, .lst 3 (pl.map hp)), (5, .sl 0 0 xs.length), (6, .sl 1 0 ys.length), (18, .lst 4 (js.map jb)), (19, i64 js.length), (20, i64 i)], [ri xs, ri ys]⟩) =
      some (.ext 0, ⟨[(0, .lst 4 (js.map jb)), (1, .lst 3 (pl.map hp)), (5, .sl 0 0 (xs ++ t.map (·.1)).length), (6, .sl 1 0 (ys ++ t.map (·.2.2.2)).length)], [ri (xs ++ t.map (·.1)), ri (ys ++ t.map (·.2.2.2))]⟩) := by
  intro t
  induction t with
  | nil =>
    intro i xs ys h hx hy
    have hi := not_drop h
    have hi2 : ¬ (i : Int) < (js.length : Int) := by omega
    rw [loopW_eq]
    generalize loopW (bd E0 (ev E0) loopW 0 [0, 1, 5, 6, 18, 19, 20] L48b0) = K
    unfold ri
    simp -implicitDefEqProofs [bd, L48b0, hi, hi2]
  | cons j t ih =>
    intro i xs ys h hxs hys
    obtain ⟨hi, hx, hd, hmem⟩ := at_drop h
    have hi2 : (i : Int) < (js.length : Int) := by omega
    have hw : IntKind.i64.wrap ((i : Int) + 1) = (i : Int) + 1 := wr64 (by omega) (by omega)
    have hih := ih (i + 1) (xs ++ [j.1]) (ys ++ [j.2.2.2]) hd (by simp [hxs]) (by simp [hys])
    rw [cs1] at hih
    have l1 : (xs.length + 1) * 8 ≤ 140737488355328 := by omega
    have l2 : xs.length + 1 ≤ 140737488355328 := by omega
    have l3 : (ys.length + 1) * 8 ≤ 140737488355328 := by omega
    have l4 : ys.length + 1 ≤ 140737488355328 := by omega
    have t1 : ∀ l : List Int, List.take l.length (l.map i64) = l.map i64 := fun l => List.take_of_length_le (by simp)
    rw [loopW_eq]
    generalize loopW (bd E0 (ev E0) loopW 0 [0, 1, 5, 6, 18, 19, 20] L48b0) = K at hih ⊢
    simp only [List.append_assoc, List.cons_append, List.nil_append, List.length_append, List.length_cons, List.length_nil] at hih
    simp only [List.map_cons, List.length_append, List.length_cons] at hih ⊢
    unfold ri i64s jb at *
    simpa -implicitDefEqProofs [bd, L48b0, hi, hi2, hx, hw, l1, l2, l3, l4, t1] using hih
theorem overI_loop (js : List J) (hj : ∀ j ∈ js, JB j) (p : List Hh) (pl : List Hh) (hb : ∀ h ∈ p, HB js h) (y : Hh) (hy : HB js y) (hpl : p.length ≤ 1099511627776) (ats rds : List Int) (jj : J) (ln i : Int) : ∀ (t : List Hh) (k : Nat), p.drop k = t →
    (t.any (fun x => clash js x y) = true → packX 0 [0, 1, 4, 5, 6, 10, 11, 35, 36, 37] (loopW (bd E0 (ev E0) loopW 0 [0, 1, 5, 6, 10, 11, 35, 36, 37, 104, 105, 106] L48b1) ⟨[(0, .lst 4 (js.map jb)), (1, .lst 3 (pl.map hp)), (5, .sl 0 0 ats.length), (6, .sl 1 0 rds.length), (10, .ptr 2 0 0), (11, .ptr 3 0 0), (35, .lst 3 (pl.map hp)), (36, i64 ln), (37, i64 i), (104, .lst 3 (p.map hp)), (105, i64 p.length), (106, i64 k)], [ri ats, ri rds, some ⟨32, 3, 0, false, [hp y]⟩, some ⟨63, 4, 0, false, [jb jj]⟩]⟩) = some (.ret, ⟨[(0, .lst 4 (js.map jb)), (1, .lst 3 (pl.map hp)), (4, bl false), (5, .sl 0 0 ats.length), (6, .sl 1 0 rds.length), (10, .ptr 2 0 0), (11, .ptr 3 0 0), (35, .lst 3 (pl.map hp)), (36, i64 ln), (37, i64 i)], [ri ats, ri rds, some ⟨32, 3, 0, false, [hp y]⟩, some ⟨63, 4, 0, false, [jb jj]⟩]⟩)) ∧
    (t.any (fun x => clash js x y) = false → packX 0 [0, 1, 4, 5, 6, 10, 11, 35, 36, 37] (loopW (bd E0 (ev E0) loopW 0 [0, 1, 5, 6, 10, 11, 35, 36, 37, 104, 105, 106] L48b1) ⟨[(0, .lst 4 (js.map jb)), (1, .lst 3 (pl.map hp)), (5, .sl 0 0 ats.length), (6, .sl 1 0 rds.length), (10, .ptr 2 0 0), (11, .ptr 3 0 0), (35, .lst 3 (pl.map hp)), (36, i64 ln), (37, i64 i), (104, .lst 3 (p.map hp)), (105, i64 p.length), (106, i64 k)], [ri ats, ri rds, some ⟨32, 3, 0, false, [hp y]⟩, some ⟨63, 4, 0, false, [jb jj]⟩]⟩) = some (.ext 4, ⟨[(0, .lst 4 (js.map jb)), (1, .lst 3 (pl.map hp)), (5, .sl 0 0 ats.length), (6, .sl 1 0 rds.length), (10, .ptr 2 0 0), (11, .ptr 3 0 0), (35, .lst 3 (pl.map hp)), (36, i64 ln), (37, i64 i)], [ri ats, ri rds, some ⟨32, 3, 0, false, [hp y]⟩, some ⟨63, 4, 0, false, [jb jj]⟩]⟩)) := by
  intro t
  induction t with
  | nil =>
    intro k h
    have hk := not_drop h
    have hk2 : ¬ (k : Int) < (p.length : Int) := by omega
    rw [loopW_eq]
    generalize loopW (bd E0 (ev E0) loopW 0 [0, 1, 5, 6, 10, 11, 35, 36, 37, 104, 105, 106] L48b1) = K
    refine ⟨fun h => (by simp at h), fun _ => ?_⟩
    unfold ri hp jb
    simp -implicitDefEqProofs [bd, L48b1, hk, hk2]
  | cons x t ih =>
    intro k h
    obtain ⟨hk, hx, hd, hmem⟩ := at_drop h
    have hk2 : (k : Int) < (p.length : Int) := by omega
    have hw : IntKind.i64.wrap ((k : Int) + 1) = (k : Int) + 1 := wr64 (by omega) (by omega)
    have hc := overlaps_i js hj x y (hb _ hmem) hy
    obtain ⟨ih1, ih2⟩ := ih (k + 1) hd
    rw [cs1] at ih1 ih2
    rw [loopW_eq, List.any_cons]
    generalize loopW (bd E0 (ev E0) loopW 0 [0, 1, 5, 6, 10, 11, 35, 36, 37, 104, 105, 106] L48b1) = K at ih1 ih2 ⊢
    unfold ri hp jb at *
    cases hcl : clash js x y with
    | true =>
      rw [hcl] at hc
      refine ⟨fun _ => ?_, fun h => (by simp at h)⟩
      simp -implicitDefEqProofs [bd, L48b1, hk, hk2, hx, hc]
    | false =>
      rw [hcl] at hc
      refine ⟨fun h => ?_, fun h => ?_⟩
      · simpa -implicitDefEqProofs [bd, L48b1, hk, hk2, hx, hc, hw] using ih1 (by rw [Bool.false_or] at h; exact h)
      · simpa -implicitDefEqProofs [bd, L48b1, hk, hk2, hx, hc, hw] using ih2 (by rw [Bool.false_or] at h; exact h)
end Go.Proofs.YtlmjoimjdpfamaaGreat.Ev
