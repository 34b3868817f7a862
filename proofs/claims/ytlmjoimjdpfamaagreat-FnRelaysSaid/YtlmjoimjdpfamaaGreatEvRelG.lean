/- Plans: the program's walk over the hops, whole. -/
import Derived.Test.YtlmjoimjdpfamaaGreatEvRelF
set_option linter.unusedVariables false
set_option linter.unusedSimpArgs false
namespace Go.Proofs.YtlmjoimjdpfamaaGreat.Ev
theorem runI_some {js : List J} : ∀ (t p : List Hh) (ats rds ats' : List Int), runI js p ats rds t = some ats' → ats'.length = ats.length
  | [], p, ats, rds, ats', h => by simp only [runI, Option.some.injEq] at h; rw [h]
  | h :: t, p, ats, rds, ats', e => by
    unfold runI at e
    split at e
    · have := runI_some t _ _ _ _ e
      rw [this]; simp
    · cases e
theorem mainI_loop (js : List J) (hj : ∀ j ∈ js, JB j) (hl : js.length ≤ 5) (pl : List Hh) (hpl : pl.length ≤ 1099511627776) : ∀ (t p : List Hh) (ats rds : List Int) (cs : List Nat), p ++ t = pl → Walk js ats rds cs → (∀ x ∈ p, HB js x) →
    (runI js p ats rds t = none → ∃ xs : List Int, packX 0 [0, 4, 5] (loopW (bd E0 (ev E0) loopW 0 [0, 1, 5, 6, 35, 36, 37] L48b2) ⟨[(0, .lst 4 (js.map jb)), (1, .lst 3 (pl.map hp)), (5, .sl 0 0 ats.length), (6, .sl 1 0 rds.length), (35, .lst 3 (pl.map hp)), (36, i64 pl.length), (37, i64 p.length)], [ri ats, ri rds]⟩) = some (.ret, ⟨[(0, .lst 4 (js.map jb)), (4, bl false), (5, .sl 0 0 xs.length)], [ri xs]⟩)) ∧
    (∀ ats', runI js p ats rds t = some ats' → packX 0 [0, 4, 5] (loopW (bd E0 (ev E0) loopW 0 [0, 1, 5, 6, 35, 36, 37] L48b2) ⟨[(0, .lst 4 (js.map jb)), (1, .lst 3 (pl.map hp)), (5, .sl 0 0 ats.length), (6, .sl 1 0 rds.length), (35, .lst 3 (pl.map hp)), (36, i64 pl.length), (37, i64 p.length)], [ri ats, ri rds]⟩) = some (.ext 2, ⟨[(0, .lst 4 (js.map jb)), (5, .sl 0 0 ats'.length)], [ri ats']⟩)) := by
  intro t
  induction t with
  | nil =>
    intro p ats rds cs hp0 hW hb
    rw [List.append_nil] at hp0
    subst hp0
    have hi2 : ¬ (p.length : Int) < (p.length : Int) := by omega
    rw [loopW_eq]
    generalize loopW (bd E0 (ev E0) loopW 0 [0, 1, 5, 6, 35, 36, 37] L48b2) = K
    unfold runI ri
    refine ⟨fun h => (by cases h), fun ats' h => ?_⟩
    cases h
    simp -implicitDefEqProofs [bd, L48b2, hi2]
  | cons y t ih =>
    intro p ats rds cs hp0 hW hb
    have hi : p.length < pl.length := by rw [← hp0]; simp
    have hx : pl[p.length] = y := by subst hp0; simp
    have hp1 : pl.take p.length = p := by rw [← hp0]; simp
    have hyb : ∀ (k : Nat) (hk : k < js.length), y.1 = k → ¬ ats.getD k 0 = js[k].2.1 → y.2.1 = ats.getD k 0 → 0 ≤ y.2.2 → y.2.2 ≤ 9999 → HB js y := by
      intro k hk e1 e2 e3 e4 e5
      obtain ⟨a1, a2, a3⟩ := hW.at_ k hk
      have hJ := hj _ (List.getElem_mem hk)
      have f0 := hJ.f0
      have f1 := hJ.f1
      have t0 := hJ.t0
      have t1 := hJ.t1
      have hto := hJ.to_eq
      have hwc := JB.way_cases (j := js[k])
      have hbd : 0 ≤ y.2.1 ∧ y.2.1 ≤ 5 := by
        rw [e3, a1]
        rcases hwc with w | w <;> rw [w] at hto ⊢ <;> omega
      exact ⟨by omega, by omega, by omega, by omega, by omega, by omega⟩
    have hcases : p.length = 0 ∨ ∃ x, 0 < p.length ∧ p.getLast? = some x ∧ pl[p.length - 1] = x := by
      rcases Nat.eq_zero_or_pos p.length with h | h
      · exact .inl h
      · refine .inr ⟨p[p.length - 1], h, ?_, ?_⟩
        · rw [List.getLast?_eq_getElem?]; simp
        · subst hp0; rw [List.getElem_append_left]
    rw [loopW_eq]
    unfold runI
    cases ho : okHop js p ats rds y with
    | false =>
      simp only [Bool.false_eq_true, if_false]
      refine ⟨fun _ => ?_, fun ats' h => (by cases h)⟩
      rcases hcases with hz | ⟨x, hz, hlast, hxl⟩
      · obtain ⟨xs, h⟩ := mainI_bad0 js hj hl p y pl hi hx hp1 hpl ats rds hW.la hW.lr hb hz ho hyb
        exact ⟨xs, h _⟩
      · obtain ⟨xs, h⟩ := mainI_bad1 js hj hl p y pl hi hx hp1 hpl ats rds hW.la hW.lr hb x hz hlast hxl ho hyb
        exact ⟨xs, h _⟩
    | true =>
      simp only [if_true]
      obtain ⟨hy, ⟨cs', hW'⟩, _, h9⟩ := walk_step hj hW ho
      have hih := ih (p ++ [y]) _ _ cs' (by rw [← hp0]; simp) hW' (by
        intro x hx
        rcases List.mem_append.1 hx with h | h
        · exact hb x h
        · simp only [List.mem_singleton] at h; subst h; exact hy)
      rw [show (p ++ [y]).length = p.length + 1 by simp] at hih
      rcases hcases with hz | ⟨x, hz, hlast, hxl⟩
      · rw [mainI_good0 js hj hl p y pl hi hx hp1 hpl ats rds hW.la hW.lr hb hz hy h9 ho]
        exact hih
      · rw [mainI_good1 js hj hl p y pl hi hx hp1 hpl ats rds hW.la hW.lr hb x hz hlast hxl hy h9 ho]
        exact hih
theorem endI_loop (js : List J) (hl : js.length ≤ 5) (ats : List Int) (la : ats.length = js.length) : ∀ (t : List J) (i : Nat), js.drop i = t →
    packX 0 [4] (loopW (bd E0 (ev E0) loopW 0 [5, 133, 134, 135] L48b3) ⟨[(5, .sl 0 0 ats.length), (133, .lst 4 (js.map jb)), (134, i64 js.length), (135, i64 i)], [ri ats]⟩) =
      if ats.drop i = t.map (·.2.1) then some (.ext 6, ⟨[], []⟩) else some (.ret, ⟨[(4, bl false)], []⟩) := by
  intro t
  induction t with
  | nil =>
    intro i h
    have hi := not_drop h
    have hi2 : ¬ (i : Int) < (js.length : Int) := by omega
    have hd : ats.drop i = [] := List.drop_eq_nil_of_le (by omega)
    rw [loopW_eq]
    generalize loopW (bd E0 (ev E0) loopW 0 [5, 133, 134, 135] L48b3) = K
    unfold ri
    rw [hd]
    simp -implicitDefEqProofs [bd, L48b3, hi, hi2]
  | cons j t ih =>
    intro i h
    obtain ⟨hi, hx, hd, hmem⟩ := at_drop h
    have hi2 : (i : Int) < (js.length : Int) := by omega
    have hia : i < ats.length := by omega
    have hw : IntKind.i64.wrap ((i : Int) + 1) = (i : Int) + 1 := wr64 (by omega) (by omega)
    have hih := ih (i + 1) hd
    rw [cs1] at hih
    have had : ats.drop i = ats[i] :: ats.drop (i + 1) := List.drop_eq_getElem_cons hia
    rw [loopW_eq]
    generalize loopW (bd E0 (ev E0) loopW 0 [5, 133, 134, 135] L48b3) = K at hih ⊢
    rw [had, List.map_cons]
    unfold ri i64s jb at *
    by_cases q : ats[i] = j.2.1
    · rw [q]
      simp only [List.cons.injEq, true_and]
      simpa -implicitDefEqProofs [bd, L48b3, hi, hi2, hx, hw, hia, q] using hih
    · have q' : ¬ (ats[i] :: ats.drop (i + 1) = j.2.1 :: List.map (fun x => x.2.1) t) := fun e => q (by injection e)
      rw [if_neg q']
      simp -implicitDefEqProofs [bd, L48b3, hi, hi2, hx, hw, hia, q]
theorem isPlan_i (js : List J) (hj : ∀ j ∈ js, JB j) (hl : js.length ≤ 5) (pl : List Hh) (hpl : pl.length ≤ 1099511627776) : ev E0 48 [.lst 4 (js.map jb), .lst 3 (pl.map hp)] [] = some (bl (planI js pl), []) := by
  have h0 := initI_loop js hl pl js 0 [] [] rfl rfl rfl
  have hW : Walk js (js.map (·.1)) (js.map (·.2.2.2)) (js.map fun _ => 0) := by
    refine ⟨by simp, by simp, by simp, fun i hi => ?_⟩
    have h1 := (hj _ (List.getElem_mem hi)).many_pos
    have h2 := (hj _ (List.getElem_mem hi)).b0
    simp [hi]
    omega
  obtain ⟨m1, m2⟩ := mainI_loop js hj hl pl hpl pl [] _ _ _ rfl hW (fun x h => (by cases h))
  simp only [List.nil_append, List.length_nil, List.length_map] at h0 m1 m2
  rw [c0] at h0 m1 m2
  rw [e48]
  unfold runF planI
  cases hr : runI js [] (js.map (·.1)) (js.map (·.2.2.2)) pl with
  | none =>
    obtain ⟨xs, m⟩ := m1 hr
    unfold ri i64s at *
    simp only [List.map_nil] at h0
    simp -implicitDefEqProofs [-List.map_map, L48, h0, m]
  | some ats' =>
    have m := m2 ats' hr
    have hla : ats'.length = js.length := by rw [runI_some _ _ _ _ _ hr]; simp
    have hend := endI_loop js hl ats' hla js 0 rfl
    rw [c0, List.drop_zero] at hend
    by_cases q : ats' = js.map (·.2.1)
    · rw [if_pos q] at hend
      dsimp only
      rw [decide_eq_true q]
      unfold ri i64s at *
      simp only [List.map_nil] at h0
      simp -implicitDefEqProofs [-List.map_map, L48, h0, m, hend]
    · rw [if_neg q] at hend
      dsimp only
      rw [decide_eq_false q]
      unfold ri i64s at *
      simp only [List.map_nil] at h0
      simp -implicitDefEqProofs [-List.map_map, L48, h0, m, hend]
end Go.Proofs.YtlmjoimjdpfamaaGreat.Ev
