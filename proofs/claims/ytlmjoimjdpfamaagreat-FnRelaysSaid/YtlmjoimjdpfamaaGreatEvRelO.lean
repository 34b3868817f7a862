/- Plans: how long each job waits. -/
import Derived.Test.YtlmjoimjdpfamaaGreatEvRelN
set_option linter.unusedVariables false
set_option linter.unusedSimpArgs false
namespace Go.Proofs.YtlmjoimjdpfamaaGreat.Ev
theorem runK_app (j : J) (k : Nat) : ∀ (p t : List Hh) (r : Int) (c : Nat), runK j k (p ++ t) r c = (runK j k p r c).bind fun q => runK j k t q.1 q.2
  | [], t, r, c => rfl
  | h :: p, t, r, c => by
    rw [List.cons_append, runK, runK]
    split
    · cases stepK j h r c with
      | none => rfl
      | some s => exact runK_app j k p t s.1 s.2
    · exact runK_app j k p t r c
theorem runK_r {j : J} {k : Nat} (hJ : JB j) : ∀ (pl : List Hh) (r : Int) (c : Nat) (q : Int × Nat), runK j k pl r c = some q → 0 ≤ r → r ≤ 20000 → 0 ≤ q.1 ∧ q.1 ≤ 20000 ∧ q.2 = c + (pl.filter fun h => decide (h.1 = (k : Int))).length
  | [], r, c, q, h, h0, h1 => by simp only [runK, Option.some.injEq] at h; subst h; exact ⟨h0, h1, by simp⟩
  | h :: t, r, c, q, e, h0, h1 => by
    have s0 := hJ.s0
    have s1 := hJ.s1
    have hcnt := runK_cnt (h :: t) r c q e
    unfold runK at e
    split at e
    · cases hs : stepK j h r c with
      | none => rw [hs] at e; cases e
      | some s =>
        rw [hs] at e
        unfold stepK at hs
        split at hs
        · rename_i hc
          cases hs
          obtain ⟨c1, c2, c3, c4⟩ := hc
          obtain ⟨a1, a2, _⟩ := runK_r hJ t _ _ q e (by simp; omega) (by simp; omega)
          exact ⟨a1, a2, hcnt⟩
        · cases hs
    · obtain ⟨a1, a2, _⟩ := runK_r hJ t r c q e h0 h1
      exact ⟨a1, a2, hcnt⟩
/-- How long a job has waited, told by some of the hops. -/
def outK (j : J) (k : Nat) (p : List Hh) : Int := match runK j k p j.2.2.2 0 with
  | some q => if q.2 = 0 then 0 else q.1 - j.2.2.2 - many j * j.2.2.1
  | none => 0
def waitK (js : List J) (pl : List Hh) : List Int := (List.range js.length).map fun k : Nat => outK (jat js k) k pl
theorem waitK_len (js : List J) (pl : List Hh) : (waitK js pl).length = js.length := by simp [waitK]
theorem waitK_get (js : List J) (p : List Hh) (i : Nat) (hi : i < js.length) (h : i < (waitK js p).length) : (waitK js p)[i]'h = outK js[i] i p := by
  have h1 : (waitK js p)[i]'h = outK (jat js (i : Int)) i p := by simp [waitK]
  rw [h1, jat_get hi]
theorem waitK_step {js : List J} (hj : ∀ j ∈ js, JB j) {p t : List Hh} {h : Hh} (hk : ∀ i (hi : i < js.length), ∃ q, runK js[i] i (p ++ h :: t) js[i].2.2.2 0 = some q) (k : Nat) (hkl : k < js.length) (e : h.1 = (k : Int)) : waitK js (p ++ [h]) = (waitK js p).set k (h.2.2 + js[k].2.2.1 - js[k].2.2.2 - many js[k] * js[k].2.2.1) := by
  refine List.ext_getElem (by simp [waitK_len]) fun i h1 h2 => ?_
  have hi : i < js.length := by rw [waitK_len] at h1; exact h1
  obtain ⟨q, hq⟩ := hk i hi
  rw [runK_app] at hq
  rw [List.getElem_set, waitK_get js _ i hi, waitK_get js _ i hi]
  unfold outK
  rw [runK_app]
  cases hr : runK js[i] i p js[i].2.2.2 0 with
  | none => rw [hr] at hq; cases hq
  | some s =>
    rw [hr] at hq
    simp only [Option.bind_some, runK] at hq ⊢
    by_cases hki : k = i
    · subst hki
      rw [if_pos rfl]
      rw [if_pos e] at hq ⊢
      cases hs : stepK js[k] h s.1 s.2 with
      | none => rw [hs] at hq; cases hq
      | some u =>
        unfold stepK at hs
        split at hs
        · cases hs
          simp
        · cases hs
    · have hne : ¬ h.1 = (i : Int) := by omega
      rw [if_neg hki, if_neg hne]
theorem waitJ_loop (js : List J) (hl : js.length ≤ 5) (pl : List Hh) (hb : ∀ h ∈ pl, HB js h) (hpl : pl.length ≤ 1099511627776) (k : Nat) (hkl : k < js.length) (hJ : JB js[k]) (xs : List Int) : ∀ (t : List Hh) (i : Nat) (r : Int) (c : Nat) (q : Int × Nat), pl.drop i = t → runK js[k] k t r c = some q → 0 ≤ r → r ≤ 20000 →
    packX 0 [2, 8, 10, 11, 20, 21, 22] (loopW (bd E0 (ev E0) loopW 0 [2, 8, 9, 10, 11, 20, 21, 22, 29, 30, 31] L20b0) ⟨[(2, .lst 3 (pl.map hp)), (8, .sl 0 0 xs.length), (9, i64 k), (10, .ptr 1 0 0), (11, i64 r), (20, .lst 4 (js.map jb)), (21, i64 js.length), (22, i64 k), (29, .lst 3 (pl.map hp)), (30, i64 pl.length), (31, i64 i)], [ri xs, some ⟨63, 4, 0, false, [jb js[k]]⟩]⟩) = some (.ext 2, ⟨[(2, .lst 3 (pl.map hp)), (8, .sl 0 0 xs.length), (10, .ptr 1 0 0), (11, i64 q.1), (20, .lst 4 (js.map jb)), (21, i64 js.length), (22, i64 k)], [ri xs, some ⟨63, 4, 0, false, [jb js[k]]⟩]⟩) := by
  intro t
  induction t with
  | nil =>
    intro i r c q hd0 e h0 h1
    simp only [runK, Option.some.injEq] at e
    subst e
    have hi := not_drop hd0
    have hi2 : ¬ (i : Int) < (pl.length : Int) := by omega
    rw [loopW_eq]
    generalize loopW (bd E0 (ev E0) loopW 0 [2, 8, 9, 10, 11, 20, 21, 22, 29, 30, 31] L20b0) = K
    unfold ri jb
    simp -implicitDefEqProofs [bd, L20b0, hi, hi2]
  | cons h t ih =>
    intro i r c q hd0 e h0 h1
    obtain ⟨hi, hx, hd, hmem⟩ := at_drop hd0
    have hi2 : (i : Int) < (pl.length : Int) := by omega
    have hw : IntKind.i64.wrap ((i : Int) + 1) = (i : Int) + 1 := wr64 (by omega) (by omega)
    have s0 := hJ.s0
    have s1 := hJ.s1
    obtain ⟨a, b, g⟩ := h
    unfold runK at e
    dsimp only at e
    by_cases ha : a = (k : Int)
    · subst ha
      rw [if_pos rfl] at e
      cases hs : stepK js[k] ((k : Int), b, g) r c with
      | none => rw [hs] at e; cases e
      | some s =>
        rw [hs] at e
        unfold stepK at hs
        split at hs
        · rename_i hc
          cases hs
          obtain ⟨c1, c2, c3, c4⟩ := hc
          dsimp only at c2 c3 c4 e
          have hih := ih (i + 1) _ _ q hd e (by omega) (by omega)
          have hwe : IntKind.i64.wrap (g + js[k].2.2.1) = g + js[k].2.2.1 := wr64 (by omega) (by omega)
          have hlt : r < g + js[k].2.2.1 := by omega
          rw [cs1] at hih
          rw [loopW_eq]
          generalize loopW (bd E0 (ev E0) loopW 0 [2, 8, 9, 10, 11, 20, 21, 22, 29, 30, 31] L20b0) = K at hih ⊢
          unfold ri hp jb at *
          simpa -implicitDefEqProofs [bd, L20b0, hi, hi2, hx, hw, hwe, hlt] using hih
        · cases hs
    · rw [if_neg ha] at e
      have hih := ih (i + 1) r c q hd e h0 h1
      rw [cs1] at hih
      rw [loopW_eq]
      generalize loopW (bd E0 (ev E0) loopW 0 [2, 8, 9, 10, 11, 20, 21, 22, 29, 30, 31] L20b0) = K at hih ⊢
      unfold ri hp jb at *
      simpa -implicitDefEqProofs [bd, L20b0, hi, hi2, hx, hw, ha] using hih
theorem waitI_loop (js : List J) (hj : ∀ j ∈ js, JB j) (hl : js.length ≤ 5) (pl : List Hh) (hb : ∀ h ∈ pl, HB js h) (hpl : pl.length ≤ 1099511627776) (hk : ∀ i (hi : i < js.length), ∃ q, runK js[i] i pl js[i].2.2.2 0 = some q ∧ (q.2 : Int) = many js[i]) : ∀ (t : List J) (i : Nat), js.drop i = t → i ≤ js.length →
    packX 0 [8] (loopW (bd E0 (ev E0) loopW 0 [2, 8, 20, 21, 22] L20b1) ⟨[(2, .lst 3 (pl.map hp)), (8, .sl 0 0 i), (20, .lst 4 (js.map jb)), (21, i64 js.length), (22, i64 i)], [ri ((waitK js pl).take i)]⟩) = some (.ext 0, ⟨[(8, .sl 0 0 js.length)], [ri (waitK js pl)]⟩) := by
  have hwl := waitK_len js pl
  intro t
  induction t with
  | nil =>
    intro i hd0 hile
    have hi := not_drop hd0
    have hil : i = js.length := by omega
    subst hil
    have hi2 : ¬ (js.length : Int) < (js.length : Int) := by omega
    have ht : (waitK js pl).take js.length = waitK js pl := List.take_of_length_le (by omega)
    rw [ht, loopW_eq]
    generalize loopW (bd E0 (ev E0) loopW 0 [2, 8, 20, 21, 22] L20b1) = K
    unfold ri
    simp -implicitDefEqProofs [bd, L20b1, hi2]
  | cons j t ih =>
    intro i hd0 hile
    obtain ⟨hi, hx, hd, hmem⟩ := at_drop hd0
    have hi2 : (i : Int) < (js.length : Int) := by omega
    have hw : IntKind.i64.wrap ((i : Int) + 1) = (i : Int) + 1 := wr64 (by omega) (by omega)
    have hih := ih (i + 1) hd (by omega)
    have hJ := hj _ (List.getElem_mem hi)
    have s0 := hJ.s0
    have s1 := hJ.s1
    have z0 := hJ.b0
    have z1 := hJ.b1
    have hmp := hJ.many_pos
    obtain ⟨q, e1, e2⟩ := hk i hi
    have hlen : ((waitK js pl).take i).length = i := by rw [List.length_take]; omega
    have hlp := waitJ_loop js hl pl hb hpl i hi hJ ((waitK js pl).take i) pl 0 _ _ q rfl e1 z0 (by omega)
    rw [hlen, c0] at hlp
    obtain ⟨r0, r1, _⟩ := runK_r hJ pl _ _ q e1 z0 (by omega)
    have hmm : many js[i] * js[i].2.2.1 ≤ 300 ∧ 0 ≤ many js[i] * js[i].2.2.1 := by
      have h1 : many js[i] * js[i].2.2.1 ≤ 5 * js[i].2.2.1 := Int.mul_le_mul_of_nonneg_right hmp.2 (by omega)
      exact ⟨by omega, Int.mul_nonneg (by omega) (by omega)⟩
    have hs := steps_i js[i] hJ
    have w3 : IntKind.i64.wrap (q.1 - js[i].2.2.2) = q.1 - js[i].2.2.2 := wr64 (by omega) (by omega)
    have w4 : IntKind.i64.wrap (many js[i] * js[i].2.2.1) = many js[i] * js[i].2.2.1 := wr64 (by omega) (by omega)
    have w5 : IntKind.i64.wrap (q.1 - js[i].2.2.2 - many js[i] * js[i].2.2.1) = q.1 - js[i].2.2.2 - many js[i] * js[i].2.2.1 := wr64 (by omega) (by omega)
    have hget : (waitK js pl)[i]'(by omega) = q.1 - js[i].2.2.2 - many js[i] * js[i].2.2.1 := by
      rw [waitK_get js pl i hi]
      unfold outK
      rw [e1]
      have : ¬ q.2 = 0 := by omega
      simp [this]
    have htk : (waitK js pl).take (i + 1) = (waitK js pl).take i ++ [q.1 - js[i].2.2.2 - many js[i] * js[i].2.2.1] := by
      rw [List.take_succ_eq_append_getElem (by omega), hget]
    rw [htk, cs1] at hih
    have l1 : (i + 1) * 8 ≤ 140737488355328 := by omega
    have l2 : i + 1 ≤ 140737488355328 := by omega
    rw [loopW_eq]
    generalize loopW (bd E0 (ev E0) loopW 0 [2, 8, 20, 21, 22] L20b1) = K at hih ⊢
    have hmt : List.take i (((waitK js pl).take i).map i64) = ((waitK js pl).take i).map i64 := List.take_of_length_le (by rw [List.length_map]; omega)
    have hll : i ≤ (((waitK js pl).take i).map i64).length := by rw [List.length_map]; omega
    clear hget htk
    generalize waitK js pl = W2 at *
    unfold ri i64s at *
    rw [List.map_append] at hih
    generalize (W2.take i).map i64 = A at *
    unfold jb at *
    simpa -implicitDefEqProofs [bd, L20b1, hi, hi2, hw, hlp, hs, w3, w4, w5, l1, l2, hmt, hll] using hih
theorem waitK_nil (js : List J) : waitK js [] = List.replicate js.length 0 := by
  refine List.ext_getElem (by simp [waitK]) fun i h1 h2 => ?_
  rw [waitK_get js [] i (by simpa [waitK] using h1)]
  simp [outK, runK]
end Go.Proofs.YtlmjoimjdpfamaaGreat.Ev
