/- The least end, by both. -/
import Derived.Test.YtlmjoimjdpfamaaGreatEvRelZ6
set_option linter.unusedVariables false
set_option linter.unusedSimpArgs false
namespace Go.Proofs.YtlmjoimjdpfamaaGreat.Ev
theorem addS_get {l : List Int} {i : Nat} (hi : i < l.length) (s : Int) (v : Nat) : (addS l i s).getD v 0 = l.getD v 0 + if i = v then s else 0 := by
  unfold addS
  rw [getD_set l i v _ 0 hi]
  by_cases h : v = i
  · subst h; rw [if_pos rfl, if_pos rfl]
  · rw [if_neg h, if_neg (fun e => h e.symm), Int.add_zero]
def gJ (j : J) (v : Nat) (d : Nat) : Int := if j.1 + way j * (d : Int) = (v : Int) ∨ j.1 + way j * (d : Int) + way j = (v : Int) then j.2.2.1 else 0
theorem ldS_get {n : Nat} {j : J} (h : NB n j) (v : Nat) : ∀ (c d : Nat) (l : List Int), (d : Int) + c = many j → l.length = n → (ldS j c d l).getD v 0 = l.getD v 0 + ((List.range' d c).map (gJ j v)).sum
  | 0, d, l, _, _ => by simp [ldS]
  | c + 1, d, l, e, hl => by
    obtain ⟨a1, a2⟩ := atJ_ok h (d := d) (by omega)
    obtain ⟨a3, a4⟩ := atJ_ok h (d := d + 1) (by omega)
    rw [ldS, ldS_get h v c (d + 1) _ (by omega) (by rw [addS_len, addS_len]; exact hl), addS_get (by rw [addS_len]; omega), addS_get (by omega), List.range'_succ, List.map_cons, List.sum_cons]
    have hway : way j = 1 ∨ way j = -1 := by unfold way; split <;> simp
    have e3 : j.1 + way j * (d : Int) + way j = (atJ j (d + 1) : Int) := by rw [← a3, Int.natCast_add, Int.mul_add, Int.natCast_one, Int.mul_one]; omega
    unfold gJ
    rw [e3, a1]
    have hne : atJ j d ≠ atJ j (d + 1) := by
      intro e
      rw [a1, e] at e3
      omega
    generalize ((List.range' (d + 1) c).map fun d : Nat => if j.1 + way j * (d : Int) = (v : Int) ∨ j.1 + way j * (d : Int) + way j = (v : Int) then j.2.2.1 else 0).sum = S
    by_cases h1 : atJ j d = v
    · rw [if_pos h1, if_neg (by omega), if_pos (by omega)]; omega
    · by_cases h2 : atJ j (d + 1) = v
      · rw [if_neg h1, if_pos h2, if_pos (by omega)]; omega
      · rw [if_neg h1, if_neg h2, if_neg (by omega)]; omega
def jl (v : Nat) (j : J) : Int := ((List.range (many j).toNat).map (gJ j v)).sum
theorem ldJs_get {n : Nat} (v : Nat) : ∀ (t : List J) (l : List Int), (∀ j ∈ t, NB n j) → l.length = n → (ldJs t l).getD v 0 = l.getD v 0 + (t.map (jl v)).sum
  | [], l, _, _ => by simp [ldJs]
  | j :: t, l, hJ, hl => by
    have h := hJ j (List.mem_cons_self ..)
    have := h.jb.many_pos
    rw [ldJs, ldJs_get v t _ (fun x hx => hJ x (List.mem_cons_of_mem _ hx)) (by rw [ldS_len]; exact hl), ldS_get h v _ 0 l (by omega) hl, List.map_cons, List.sum_cons]
    unfold jl
    rw [List.range_eq_range', Int.add_assoc]
theorem loadV_eq (js : List J) (v : Nat) : loadV js (v : Int) = (js.map (jl v)).sum := by
  unfold loadV
  congr 1
  apply List.ext_getElem
  · simp
  · intro i h1 h2
    rw [List.getElem_map, List.getElem_map, List.getElem_range]
    have hi : i < js.length := by simpa using h2
    unfold jobLoad jl
    rw [jat_get hi, List.map_map]
    congr 1
    apply List.map_congr_left
    intro d _
    show gLoad js v ((i : Int), js[i].1 + way js[i] * (d : Int)) = _
    unfold gLoad gJ
    dsimp only
    rw [jat_get hi]
theorem ldJs_load {n : Nat} {js : List J} (hJ : ∀ j ∈ js, NB n j) : ldJs js (List.replicate n 0) = loadL n js := by
  apply List.ext_getElem
  · rw [ldJs_len, List.length_replicate]; simp [loadL]
  · intro v h1 h2
    have hv : v < n := by rw [ldJs_len, List.length_replicate] at h1; exact h1
    have := ldJs_get v js (List.replicate n 0) hJ (by simp)
    rw [List.getD_eq_getElem?_getD, List.getElem?_eq_getElem h1, Option.getD_some] at this
    have hg : (loadL n js)[v]'h2 = loadV js (v : Int) := by simp [loadL]
    rw [this, hg, loadV_eq]
    have : (List.replicate n (0 : Int)).getD v 0 = 0 := by simp [List.getD_eq_getElem?_getD, List.getElem?_replicate]; split <;> rfl
    rw [this, Int.zero_add]
theorem load_bd {n : Nat} {js : List J} (hjl : js.length ≤ 5) (hJ : ∀ j ∈ js, NB n j) : Bd (loadL n js) 3000 := by
  rw [← ldJs_load hJ]
  have key : ∀ (t : List J) (l : List Int) (B : Int), (∀ j ∈ t, NB n j) → l.length = n → Bd l B → Bd (ldJs t l) (B + 600 * t.length) := by
    intro t
    induction t with
    | nil => intro l B _ _ hB; rw [ldJs]; simpa using hB
    | cons j t ih =>
      intro l B hJ hl hB
      have h := hJ j (List.mem_cons_self ..)
      have := h.jb.many_pos
      have h2 := ldS_bd h (many j).toNat 0 l B (by omega) hl hB
      have h3 := ih _ _ (fun x hx => hJ x (List.mem_cons_of_mem _ hx)) (by rw [ldS_len]; exact hl) h2
      rw [ldJs]
      intro x hx
      have := h3 x hx
      rw [List.length_cons]
      omega
  have := key js (List.replicate n 0) 0 hJ (by simp) (rep_bd n)
  intro x hx
  have := this x hx
  omega
-- ---------------------------------------------------------------- the greatest of a row
theorem max_loop (l : List Int) (hm : l.length ≤ 1000) : ∀ (t : List Int) (i : Nat) (e : Int), l.drop i = t →
    packX 0 [3] (loopW (bd E0 (ev E0) loopW 0 [0, 3, 4] L33b0) ⟨[(0, .lst 1 (l.map i64)), (3, i64 e), (4, i64 i)], []⟩) = some (.ext 0, ⟨[(3, i64 (maxL t e))], []⟩) := by
  intro t
  induction t with
  | nil =>
    intro i e h
    have hi := not_drop h
    have hi2 : ¬ (i : Int) < (l.length : Int) := by omega
    rw [loopW_eq, maxL]
    generalize loopW (bd E0 (ev E0) loopW 0 [0, 3, 4] L33b0) = K
    simp -implicitDefEqProofs [bd, L33b0, hi, hi2]
  | cons x t ih =>
    intro i e h
    obtain ⟨hi, hx, hd, hmem⟩ := at_drop h
    have hi2 : (i : Int) < (l.length : Int) := by omega
    have hih := ih (i + 1) (if e < x then x else e) hd
    have hw : IntKind.i64.wrap ((i : Int) + 1) = (i : Int) + 1 := wr64 (by omega) (by omega)
    rw [cs1] at hih
    rw [loopW_eq, maxL]
    generalize loopW (bd E0 (ev E0) loopW 0 [0, 3, 4] L33b0) = K at hih ⊢
    simpa -implicitDefEqProofs [bd, L33b0, hi, hi2, hx, hw] using hih
theorem max_i (x : Int) (t : List Int) (hm : t.length ≤ 100) : ev E0 33 [.lst 1 ((x :: t).map i64)] [] = some (i64 (maxL t x), []) := by
  have hl := max_loop (x :: t) (by simp; omega) t 1 x rfl
  have h1 : ¬ (t.length : Int) + 1 < 1 := by omega
  rw [show ((1 : Nat) : Int) = 1 from rfl] at hl
  rw [e33]
  unfold runF
  simp only [List.map_cons] at hl
  simp -implicitDefEqProofs [L33, hl, h1]
theorem maxL_first {x : Int} (t : List Int) (h : 0 ≤ x) : maxL (x :: t) 0 = maxL t x := by
  rw [maxL]
  by_cases h0 : (0 : Int) < x
  · rw [if_pos h0]
  · rw [if_neg h0]
    have : x = 0 := by omega
    rw [this]
theorem maxL_bd : ∀ (l : List Int) (e : Int), e ≤ maxL l e
  | [], e => Int.le_refl _
  | x :: t, e => by
    rw [maxL]
    have := maxL_bd t (if e < x then x else e)
    split at this <;> split <;> omega
/-- What the jobs add. -/
def jobE (j : J) : Int := j.2.2.2 + many j * j.2.2.1
theorem jobE_bd {j : J} (h : JB j) : 0 ≤ many j * j.2.2.1 ∧ many j * j.2.2.1 ≤ 300 ∧ 0 ≤ jobE j ∧ jobE j ≤ 1299 := by
  have hmp := h.many_pos
  have s0 := h.s0
  have s1 := h.s1
  have b0 := h.b0
  have b1 := h.b1
  have h1 : 0 ≤ many j * j.2.2.1 := Int.mul_nonneg (by omega) (by omega)
  have h2 : many j * j.2.2.1 ≤ 5 * 60 := Int.mul_le_mul (by omega) (by omega) (by omega) (by omega)
  unfold jobE
  omega
theorem leastI_loop (js : List J) (hjl : js.length ≤ 5) (hj : ∀ j ∈ js, JB j) : ∀ (t : List J) (i : Nat) (e : Int), js.drop i = t →
    packX 0 [6] (loopW (bd E0 (ev E0) loopW 0 [6, 17, 18, 19] L8b0) ⟨[(6, i64 e), (17, .lst 4 (js.map jb)), (18, i64 js.length), (19, i64 i)], []⟩) = some (.ext 0, ⟨[(6, i64 (maxL (t.map jobE) e))], []⟩) := by
  intro t
  induction t with
  | nil =>
    intro i e h
    have hi := not_drop h
    have hi2 : ¬ (i : Int) < (js.length : Int) := by omega
    rw [loopW_eq, List.map_nil, maxL]
    generalize loopW (bd E0 (ev E0) loopW 0 [6, 17, 18, 19] L8b0) = K
    simp -implicitDefEqProofs [bd, L8b0, hi]
  | cons j t ih =>
    intro i e h
    obtain ⟨hi, hx, hd, hmem⟩ := at_drop h
    have hJ := hj _ (List.getElem_mem hi)
    obtain ⟨b1, b2, b3, b4⟩ := jobE_bd hJ
    have hs := steps_i js[i] hJ
    have hih := ih (i + 1) (if e < jobE js[i] then jobE js[i] else e) hd
    have hw : IntKind.i64.wrap ((i : Int) + 1) = (i : Int) + 1 := wr64 (by omega) (by omega)
    have hw1 : IntKind.i64.wrap (many js[i] * js[i].2.2.1) = many js[i] * js[i].2.2.1 := wr64 (by omega) (by omega)
    have hw2 : IntKind.i64.wrap (js[i].2.2.2 + many js[i] * js[i].2.2.1) = jobE js[i] := wr64 (by unfold jobE at *; omega) (by unfold jobE at *; omega)
    rw [cs1] at hih
    rw [loopW_eq, List.map_cons, maxL, ← hx]
    generalize loopW (bd E0 (ev E0) loopW 0 [6, 17, 18, 19] L8b0) = K at hih ⊢
    generalize jobE js[i] = E at *
    unfold jb at *
    simpa -implicitDefEqProofs [bd, L8b0, hi, hs, hw, hw1, hw2] using hih
theorem leastS_loop1 (js : List J) (hjl : js.length ≤ 5) (hj : ∀ j ∈ js, JB j) : ∀ (t : List J) (i : Nat) (e : Int), js.drop i = t →
    packX 0 [6] (loopW (bd E0 (ev E0) loopW 0 [1, 6, 9] L9b1) ⟨[(1, .lst 4 (js.map jb)), (6, i64 e), (9, i64 i)], []⟩) = some (.ext 2, ⟨[(6, i64 (maxL (t.map jobE) e))], []⟩) := by
  intro t
  induction t with
  | nil =>
    intro i e h
    have hi := not_drop h
    have hi2 : ¬ (i : Int) < (js.length : Int) := by omega
    rw [loopW_eq, List.map_nil, maxL]
    generalize loopW (bd E0 (ev E0) loopW 0 [1, 6, 9] L9b1) = K
    simp -implicitDefEqProofs [bd, L9b1, hi]
  | cons j t ih =>
    intro i e h
    obtain ⟨hi, hx, hd, hmem⟩ := at_drop h
    have hJ := hj _ (List.getElem_mem hi)
    obtain ⟨b1, b2, b3, b4⟩ := jobE_bd hJ
    have hs := steps_s js[i] hJ
    have hih := ih (i + 1) (if e < jobE js[i] then jobE js[i] else e) hd
    have hw : IntKind.i64.wrap ((i : Int) + 1) = (i : Int) + 1 := wr64 (by omega) (by omega)
    have hw1 : IntKind.i64.wrap (many js[i] * js[i].2.2.1) = many js[i] * js[i].2.2.1 := wr64 (by omega) (by omega)
    have hw2 : IntKind.i64.wrap (js[i].2.2.2 + many js[i] * js[i].2.2.1) = jobE js[i] := wr64 (by unfold jobE at *; omega) (by unfold jobE at *; omega)
    have hmo := most_s e (jobE js[i])
    rw [cs1] at hih
    rw [loopW_eq, List.map_cons, maxL, ← hx]
    generalize loopW (bd E0 (ev E0) loopW 0 [1, 6, 9] L9b1) = K at hih ⊢
    generalize jobE js[i] = E at *
    unfold jb at *
    simpa -implicitDefEqProofs [bd, L9b1, hi, hs, hw, hw1, hw2, hmo] using hih
theorem leastS_loop0 (JL : List AV) (n : Nat) (hn : n ≤ 6) (l : List Int) (hl : l.length = n) : ∀ (t : List Int) (i : Nat) (e : Int), l.drop i = t →
    packX 0 [1, 6] (loopW (bd E0 (ev E0) loopW 0 [0, 1, 6, 7, 8] L9b0) ⟨[(0, i64 n), (1, .lst 4 JL), (6, i64 e), (7, .sl 0 0 n), (8, i64 i)], [rwI l]⟩) = some (.ext 0, ⟨[(1, .lst 4 JL), (6, i64 (maxL t e))], []⟩) := by
  intro t
  induction t with
  | nil =>
    intro i e h
    have hi := not_drop h
    have hi2 : ¬ (i : Int) < (n : Int) := by omega
    rw [loopW_eq, maxL]
    generalize loopW (bd E0 (ev E0) loopW 0 [0, 1, 6, 7, 8] L9b0) = K
    unfold rwI
    simp -implicitDefEqProofs [bd, L9b0, hi2]
  | cons x t ih =>
    intro i e h
    obtain ⟨hi, hx, hd, hmem⟩ := at_drop h
    have hi2 : (i : Int) < (n : Int) := by omega
    have hi3 : i < n := by omega
    have hih := ih (i + 1) (if e < x then x else e) hd
    have hw : IntKind.i64.wrap ((i : Int) + 1) = (i : Int) + 1 := wr64 (by omega) (by omega)
    have hmo := most_s e x
    have k1 : n ≤ (l.map i64).length := by simp; omega
    rw [cs1] at hih
    rw [loopW_eq, maxL]
    generalize loopW (bd E0 (ev E0) loopW 0 [0, 1, 6, 7, 8] L9b0) = K at hih ⊢
    unfold rwI at *
    simpa -implicitDefEqProofs [bd, L9b0, hi, hi2, hi3, hx, hw, hmo, hl] using hih
end Go.Proofs.YtlmjoimjdpfamaaGreat.Ev
