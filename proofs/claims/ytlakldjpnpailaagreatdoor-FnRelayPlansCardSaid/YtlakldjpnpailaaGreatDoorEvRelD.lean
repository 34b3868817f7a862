/- Plans: the reference's test, walked. -/
import Derived.Test.YtlakldjpnpailaaGreatDoorEvRelC
set_option linter.unusedVariables false
set_option linter.unusedSimpArgs false
namespace Go.Proofs.YtlakldjpnpailaaGreatDoor.Ev
theorem runK_hops {j : J} {k : Nat} (hJ : JB j) : ∀ (pl : List Hh) (r : Int) (c : Nat) (q : Int × Nat), runK j k pl r c = some q → 0 ≤ r → ∀ h ∈ pl, h.1 = (k : Int) → 0 ≤ h.2.1 ∧ h.2.1 ≤ 5 ∧ 0 ≤ h.2.2 ∧ h.2.2 ≤ 9999
  | [], r, c, q, _, _, h, hm, _ => by cases hm
  | h0 :: t, r, c, q, hr, h0r, h, hm, hk => by
    unfold runK at hr
    split at hr
    · cases hs : stepK j h0 r c with
      | none => rw [hs] at hr; cases hr
      | some s =>
        rw [hs] at hr
        have hr2 : runK j k t s.1 s.2 = some q := hr
        unfold stepK at hs
        split at hs
        · rename_i hc
          cases hs
          obtain ⟨c1, c2, c3, c4⟩ := hc
          have hto := hJ.to_eq
          have m1 := hJ.f0
          have m2 := hJ.f1
          have m3 := hJ.t0
          have m4 := hJ.t1
          have m5 := hJ.s0
          rcases List.mem_cons.1 hm with rfl | hm
          · rcases JB.way_cases (j := j) with w | w <;> rw [w] at c2 hto <;> refine ⟨by omega, by omega, by omega, c4⟩
          · exact runK_hops hJ t _ _ q hr2 (by dsimp only; omega) h hm hk
        · cases hs
    · rename_i hne
      rcases List.mem_cons.1 hm with rfl | hm
      · exact absurd hk hne
      · exact runK_hops hJ t r c q hr h0r h hm hk
/-- Hops that fit their jobs are bounded. -/
theorem runs_hb {js : List J} (hj : ∀ j ∈ js, JB j) {pl : List Hh} (h1 : ∀ h ∈ pl, inR js.length h = true) (h2 : ∀ i (hi : i < js.length), ∃ q, runK js[i] i pl js[i].2.2.2 0 = some q ∧ (q.2 : Int) = many js[i]) : ∀ h ∈ pl, HB js h := by
  intro h hm
  have hr := h1 h hm
  unfold inR at hr
  simp only [Bool.and_eq_true, decide_eq_true_eq] at hr
  obtain ⟨q, hq, _⟩ := h2 h.1.toNat (by omega)
  have hJ := hj _ (List.getElem_mem (show h.1.toNat < js.length by omega))
  obtain ⟨a1, a2, a3, a4⟩ := runK_hops hJ pl _ _ q hq hJ.b0 h hm (by omega)
  exact ⟨hr.1, hr.2, by omega, by omega, by omega, by omega⟩
theorem hopsK_loop (js : List J) (pl : List Hh) (k : Nat) (hk : k < js.length) (hJ : JB js[k]) (hpl : pl.length ≤ 1099511627776) (al : Int) : ∀ (t : List Hh) (i : Nat) (r : Int) (c : Nat), pl.drop i = t → 0 ≤ r → r ≤ 20000 → c ≤ 5 →
    (runK js[k] k t r c = none → ∃ c' : Nat, packX 0 [0, 1, 4, 5, 6, 7, 10] (loopW (bd E0 (ev E0) loopW 0 [0, 1, 5, 6, 7, 8, 9, 10, 11] L33b0) ⟨[(0, .lst 4 (js.map jb)), (1, .lst 3 (pl.map hp)), (5, i64 al), (6, i64 k), (7, i64 (many js[k])), (8, i64 (way js[k])), (9, i64 r), (10, i64 c), (11, i64 i)], []⟩) = some (.ret, ⟨[(0, .lst 4 (js.map jb)), (1, .lst 3 (pl.map hp)), (4, bl false), (5, i64 al), (6, i64 k), (7, i64 (many js[k])), (10, i64 c')], []⟩)) ∧
    (∀ q, runK js[k] k t r c = some q → packX 0 [0, 1, 4, 5, 6, 7, 10] (loopW (bd E0 (ev E0) loopW 0 [0, 1, 5, 6, 7, 8, 9, 10, 11] L33b0) ⟨[(0, .lst 4 (js.map jb)), (1, .lst 3 (pl.map hp)), (5, i64 al), (6, i64 k), (7, i64 (many js[k])), (8, i64 (way js[k])), (9, i64 r), (10, i64 c), (11, i64 i)], []⟩) = some (.ext 2, ⟨[(0, .lst 4 (js.map jb)), (1, .lst 3 (pl.map hp)), (5, i64 al), (6, i64 k), (7, i64 (many js[k])), (10, i64 q.2)], []⟩)) := by
  intro t
  induction t with
  | nil =>
    intro i r c h h0 h1 h2
    have hi := not_drop h
    have hi2 : ¬ (i : Int) < (pl.length : Int) := by omega
    rw [loopW_eq]
    generalize loopW (bd E0 (ev E0) loopW 0 [0, 1, 5, 6, 7, 8, 9, 10, 11] L33b0) = K
    refine ⟨fun h => (by cases h), fun q hq => ?_⟩
    simp only [runK, Option.some.injEq] at hq
    subst hq
    simp -implicitDefEqProofs [bd, L33b0, hi, hi2]
  | cons y t ih =>
    intro i r c h h0 h1 h2
    obtain ⟨hi, hx, hd, hmem⟩ := at_drop h
    have hi2 : (i : Int) < (pl.length : Int) := by omega
    have hw : IntKind.i64.wrap ((i : Int) + 1) = (i : Int) + 1 := wr64 (by omega) (by omega)
    obtain ⟨a, b, e⟩ := y
    have m1 := hJ.f0
    have m2 := hJ.f1
    have m3 := hJ.s0
    have m4 := hJ.s1
    have hmp := hJ.many_pos
    have hwc := JB.way_cases (j := js[k])
    have w1 : IntKind.i64.wrap (way js[k] * (c : Int)) = way js[k] * (c : Int) := by rcases hwc with w | w <;> rw [w] <;> exact wr64 (by omega) (by omega)
    have w2 : IntKind.i64.wrap (js[k].1 + way js[k] * (c : Int)) = js[k].1 + way js[k] * (c : Int) := by rcases hwc with w | w <;> rw [w] <;> exact wr64 (by omega) (by omega)
    rw [loopW_eq]
    unfold runK
    by_cases ha : a = (k : Int)
    · subst ha
      rw [if_pos rfl]
      have hin := in_s e r 9999
      by_cases c1 : (c : Int) < many js[k]
      · have c1' : ¬ many js[k] ≤ (c : Int) := by omega
        by_cases c2 : b = js[k].1 + way js[k] * (c : Int)
        · subst c2
          cases hb : btw e r 9999 with
          | false =>
            rw [hb] at hin
            have hs : stepK js[k] ((k : Int), js[k].1 + way js[k] * (c : Int), e) r c = none := by
              unfold stepK
              rw [if_neg]
              rintro ⟨_, _, h3, h4⟩
              unfold btw at hb
              dsimp only at h3 h4
              rw [decide_eq_true h3, decide_eq_true h4] at hb
              cases hb
            rw [hs]
            generalize loopW (bd E0 (ev E0) loopW 0 [0, 1, 5, 6, 7, 8, 9, 10, 11] L33b0) = K
            refine ⟨fun _ => ⟨c, ?_⟩, fun q hq => by cases hq⟩
            unfold hp jb at *
            simp -implicitDefEqProofs [bd, L33b0, hi, hi2, hx, hk, c1', w1, w2, hin]
          | true =>
            rw [hb] at hin
            have hb2 := hb
            unfold btw at hb2
            rw [Bool.and_eq_true, decide_eq_true_eq, decide_eq_true_eq] at hb2
            have hs : stepK js[k] ((k : Int), js[k].1 + way js[k] * (c : Int), e) r c = some (e + js[k].2.2.1, c + 1) := by
              unfold stepK
              rw [if_pos ⟨c1, rfl, hb2.1, hb2.2⟩]
            rw [hs]
            have hw3 : IntKind.i64.wrap (e + js[k].2.2.1) = e + js[k].2.2.1 := wr64 (by omega) (by omega)
            have hw4 : IntKind.i64.wrap ((c : Int) + 1) = (c : Int) + 1 := wr64 (by omega) (by omega)
            obtain ⟨ih1, ih2⟩ := ih (i + 1) (e + js[k].2.2.1) (c + 1) hd (by omega) (by omega) (by omega)
            rw [cs1, cs1] at ih1 ih2
            generalize loopW (bd E0 (ev E0) loopW 0 [0, 1, 5, 6, 7, 8, 9, 10, 11] L33b0) = K at ih1 ih2 ⊢
            refine ⟨fun h => ?_, fun q hq => ?_⟩
            · obtain ⟨c', e'⟩ := ih1 h
              refine ⟨c', ?_⟩
              unfold hp jb at *
              simpa -implicitDefEqProofs [bd, L33b0, hi, hi2, hx, hk, hw, c1', w1, w2, hw3, hw4, hin] using e'
            · have e' := ih2 q hq
              unfold hp jb at *
              simpa -implicitDefEqProofs [bd, L33b0, hi, hi2, hx, hk, hw, c1', w1, w2, hw3, hw4, hin] using e'
        · have hs : stepK js[k] ((k : Int), b, e) r c = none := by
            unfold stepK
            rw [if_neg]
            rintro ⟨_, h3, _⟩
            exact c2 h3
          rw [hs]
          generalize loopW (bd E0 (ev E0) loopW 0 [0, 1, 5, 6, 7, 8, 9, 10, 11] L33b0) = K
          refine ⟨fun _ => ⟨c, ?_⟩, fun q hq => by cases hq⟩
          unfold hp jb at *
          simp -implicitDefEqProofs [bd, L33b0, hi, hi2, hx, hk, c1', w1, w2, c2]
      · have c1' : many js[k] ≤ (c : Int) := by omega
        have hs : stepK js[k] ((k : Int), b, e) r c = none := by
          unfold stepK
          rw [if_neg]
          rintro ⟨h3, _⟩
          exact c1 h3
        rw [hs]
        generalize loopW (bd E0 (ev E0) loopW 0 [0, 1, 5, 6, 7, 8, 9, 10, 11] L33b0) = K
        refine ⟨fun _ => ⟨c, ?_⟩, fun q hq => by cases hq⟩
        unfold hp jb at *
        simp -implicitDefEqProofs [bd, L33b0, hi, hi2, hx, hk, c1']
    · rw [if_neg ha]
      obtain ⟨ih1, ih2⟩ := ih (i + 1) r c hd h0 h1 h2
      rw [cs1] at ih1 ih2
      generalize loopW (bd E0 (ev E0) loopW 0 [0, 1, 5, 6, 7, 8, 9, 10, 11] L33b0) = K at ih1 ih2 ⊢
      refine ⟨fun h => ?_, fun q hq => ?_⟩
      · obtain ⟨c', e'⟩ := ih1 h
        refine ⟨c', ?_⟩
        unfold hp jb at *
        simpa -implicitDefEqProofs [bd, L33b0, hi, hi2, hx, hk, hw, ha] using e'
      · have e' := ih2 q hq
        unfold hp jb at *
        simpa -implicitDefEqProofs [bd, L33b0, hi, hi2, hx, hk, hw, ha] using e'
theorem jobsK_loop (js : List J) (hj : ∀ j ∈ js, JB j) (hl : js.length ≤ 5) (pl : List Hh) (hpl : pl.length ≤ 1099511627776) : ∀ (t : List J) (i : Nat) (al : Int), js.drop i = t → 0 ≤ al → al ≤ 10 * i →
    (specJ pl t i al = none → ∃ a' : Int, packX 0 [0, 1, 4, 5] (loopW (bd E0 (ev E0) loopW 0 [0, 1, 5, 6] L33b1) ⟨[(0, .lst 4 (js.map jb)), (1, .lst 3 (pl.map hp)), (5, i64 al), (6, i64 i)], []⟩) = some (.ret, ⟨[(0, .lst 4 (js.map jb)), (1, .lst 3 (pl.map hp)), (4, bl false), (5, i64 a')], []⟩)) ∧
    (∀ b, specJ pl t i al = some b → packX 0 [0, 1, 4, 5] (loopW (bd E0 (ev E0) loopW 0 [0, 1, 5, 6] L33b1) ⟨[(0, .lst 4 (js.map jb)), (1, .lst 3 (pl.map hp)), (5, i64 al), (6, i64 i)], []⟩) = some (.ext 0, ⟨[(0, .lst 4 (js.map jb)), (1, .lst 3 (pl.map hp)), (5, i64 b)], []⟩)) := by
  intro t
  induction t with
  | nil =>
    intro i al h h0 h1
    have hi := not_drop h
    have hi2 : ¬ (i : Int) < (js.length : Int) := by omega
    rw [loopW_eq]
    generalize loopW (bd E0 (ev E0) loopW 0 [0, 1, 5, 6] L33b1) = K
    refine ⟨fun h => (by cases h), fun b hb => ?_⟩
    simp only [specJ, Option.some.injEq] at hb
    subst hb
    simp -implicitDefEqProofs [bd, L33b1, hi, hi2]
  | cons j t ih =>
    intro i al h h0 h1
    obtain ⟨hi, hx, hd, hmem⟩ := at_drop h
    have hi2 : (i : Int) < (js.length : Int) := by omega
    have hJ := hj j hmem
    have hmp := hJ.many_pos
    have hw : IntKind.i64.wrap ((i : Int) + 1) = (i : Int) + 1 := wr64 (by omega) (by omega)
    have hw2 : IntKind.i64.wrap (al + many j) = al + many j := wr64 (by omega) (by omega)
    have hst := steps_s j hJ
    have hb0 := hJ.b0
    have hb1 := hJ.b1
    rw [← hx] at hJ
    obtain ⟨k1, k2⟩ := hopsK_loop js pl i hi hJ hpl (al + many j) pl 0 j.2.2.2 0 rfl hb0 (by omega) (by omega)
    rw [hx] at k1 k2
    rw [c0] at k1 k2
    rw [loopW_eq]
    unfold specJ
    cases hr : runK j i pl j.2.2.2 0 with
    | none =>
      obtain ⟨c', e'⟩ := k1 hr
      refine ⟨fun _ => ⟨al + many j, ?_⟩, fun b hb => by cases hb⟩
      generalize loopW (bd E0 (ev E0) loopW 0 [0, 1, 5, 6] L33b1) = K
      unfold bd at ⊢
      unfold jb at *
      simp -implicitDefEqProofs [L33b1, hi, hi2, hx, hst, hw2, e']
    | some q =>
      have e' := k2 q hr
      simp only []
      by_cases hq : (q.2 : Int) = many j
      · simp only [hq, if_true]
        obtain ⟨ih1, ih2⟩ := ih (i + 1) (al + many j) hd (by omega) (by omega)
        rw [cs1] at ih1 ih2
        rw [hq] at e'
        generalize loopW (bd E0 (ev E0) loopW 0 [0, 1, 5, 6] L33b1) = K at ih1 ih2 ⊢
        refine ⟨fun h => ?_, fun b hb => ?_⟩
        · obtain ⟨a', u⟩ := ih1 h
          refine ⟨a', ?_⟩
          unfold bd at ⊢
          unfold jb at *
          simpa -implicitDefEqProofs [L33b1, hi, hi2, hx, hst, hw, hw2, e'] using u
        · have u := ih2 b hb
          unfold bd at ⊢
          unfold jb at *
          simpa -implicitDefEqProofs [L33b1, hi, hi2, hx, hst, hw, hw2, e'] using u
      · simp only [hq, if_false]
        refine ⟨fun _ => ⟨al + many j, ?_⟩, fun b hb => by cases hb⟩
        generalize loopW (bd E0 (ev E0) loopW 0 [0, 1, 5, 6] L33b1) = K
        unfold bd at ⊢
        unfold jb at *
        simp -implicitDefEqProofs [L33b1, hi, hi2, hx, hst, hw2, e', hq]
theorem pairsK_loop (js : List J) (hj : ∀ j ∈ js, JB j) (pl : List Hh) (hb : ∀ h ∈ pl, HB js h) (hpl : pl.length ≤ 1099511627776) (i : Nat) (hi : i < pl.length) : ∀ (t : List Hh) (k : Nat), (pl.take i).drop k = t → k ≤ i →
    (t.any (fun x => clash js x pl[i]) = true → packX 0 [0, 1, 4, 12] (loopW (bd E0 (ev E0) loopW 0 [0, 1, 12, 13] L33b2) ⟨[(0, .lst 4 (js.map jb)), (1, .lst 3 (pl.map hp)), (12, i64 i), (13, i64 k)], []⟩) = some (.ret, ⟨[(0, .lst 4 (js.map jb)), (1, .lst 3 (pl.map hp)), (4, bl false), (12, i64 i)], []⟩)) ∧
    (t.any (fun x => clash js x pl[i]) = false → packX 0 [0, 1, 4, 12] (loopW (bd E0 (ev E0) loopW 0 [0, 1, 12, 13] L33b2) ⟨[(0, .lst 4 (js.map jb)), (1, .lst 3 (pl.map hp)), (12, i64 i), (13, i64 k)], []⟩) = some (.ext 6, ⟨[(0, .lst 4 (js.map jb)), (1, .lst 3 (pl.map hp)), (12, i64 i)], []⟩)) := by
  intro t
  induction t with
  | nil =>
    intro k h hk
    have hki := not_drop h
    rw [List.length_take] at hki
    have hki2 : ¬ (k : Int) < (i : Int) := by omega
    have hki3 : ¬ k < i := by omega
    rw [loopW_eq]
    generalize loopW (bd E0 (ev E0) loopW 0 [0, 1, 12, 13] L33b2) = K
    refine ⟨fun h => (by simp at h), fun _ => ?_⟩
    simp -implicitDefEqProofs [bd, L33b2, hki2, hki3]
  | cons y t ih =>
    intro k h hk
    obtain ⟨hki, hx, hd, hmem⟩ := at_drop h
    rw [List.length_take] at hki
    have hki2 : (k : Int) < (i : Int) := by omega
    have hki3 : k < i := by omega
    have hkl : k < pl.length := by omega
    rw [List.getElem_take] at hx
    have hc := clash_s js hj pl[k] pl[i] (hb _ (List.getElem_mem hkl)) (hb _ (List.getElem_mem hi))
    have hw : IntKind.i64.wrap ((k : Int) + 1) = (k : Int) + 1 := wr64 (by omega) (by omega)
    obtain ⟨ih1, ih2⟩ := ih (k + 1) hd (by omega)
    rw [cs1] at ih1 ih2
    rw [loopW_eq, List.any_cons, ← hx]
    generalize loopW (bd E0 (ev E0) loopW 0 [0, 1, 12, 13] L33b2) = K at ih1 ih2 ⊢
    unfold hp at *
    cases hcl : clash js pl[k] pl[i] with
    | true =>
      rw [hcl] at hc
      refine ⟨fun _ => ?_, fun h => (by simp at h)⟩
      simp -implicitDefEqProofs [bd, L33b2, hki2, hki3, hkl, hi, hc]
    | false =>
      rw [hcl] at hc
      refine ⟨fun h => ?_, fun h => ?_⟩
      · simpa -implicitDefEqProofs [bd, L33b2, hki2, hki3, hkl, hi, hc, hw] using ih1 (by simpa using h)
      · simpa -implicitDefEqProofs [bd, L33b2, hki2, hki3, hkl, hi, hc, hw] using ih2 (by simpa using h)
theorem last_take {pl : List Hh} {i : Nat} (hi : i + 1 ≤ pl.length) : (pl.take (i + 1)).getLast? = some pl[i] := by
  rw [List.getLast?_eq_getElem?, List.length_take, Nat.min_eq_left hi, Nat.add_sub_cancel, List.getElem?_take]
  simp
theorem ordK_loop (js : List J) (hj : ∀ j ∈ js, JB j) (pl : List Hh) (hb : ∀ h ∈ pl, HB js h) (hpl : pl.length ≤ 1099511627776) : ∀ (t : List Hh) (i : Nat), pl.drop i = t → i ≤ pl.length →
    (okPairs js (pl.take i) t = false → packX 0 [4] (loopW (bd E0 (ev E0) loopW 0 [0, 1, 12] L33b3) ⟨[(0, .lst 4 (js.map jb)), (1, .lst 3 (pl.map hp)), (12, i64 i)], []⟩) = some (.ret, ⟨[(4, bl false)], []⟩)) ∧
    (okPairs js (pl.take i) t = true → packX 0 [4] (loopW (bd E0 (ev E0) loopW 0 [0, 1, 12] L33b3) ⟨[(0, .lst 4 (js.map jb)), (1, .lst 3 (pl.map hp)), (12, i64 i)], []⟩) = some (.ext 4, ⟨[], []⟩)) := by
  intro t
  induction t with
  | nil =>
    intro i h _
    have hi := not_drop h
    have hi2 : ¬ (i : Int) < (pl.length : Int) := by omega
    rw [loopW_eq]
    generalize loopW (bd E0 (ev E0) loopW 0 [0, 1, 12] L33b3) = K
    refine ⟨fun h => (by simp [okPairs] at h), fun _ => ?_⟩
    simp -implicitDefEqProofs [bd, L33b3, hi, hi2]
  | cons y t ih =>
    intro i h hil
    obtain ⟨hi, hx, hd, hmem⟩ := at_drop h
    have hi2 : (i : Int) < (pl.length : Int) := by omega
    have hw : IntKind.i64.wrap ((i : Int) + 1) = (i : Int) + 1 := wr64 (by omega) (by omega)
    obtain ⟨k1, k2⟩ := pairsK_loop js hj pl hb hpl i hi (pl.take i) 0 rfl (by omega)
    rw [c0] at k1 k2
    obtain ⟨ih1, ih2⟩ := ih (i + 1) hd (by omega)
    rw [List.take_succ_eq_append_getElem hi, hx, cs1] at ih1 ih2
    rw [hx] at k1 k2
    rw [loopW_eq]
    unfold okPairs
    cases ha : (pl.take i).any (fun x => clash js x y) with
    | true =>
      have e' := k1 ha
      refine ⟨fun _ => ?_, fun h => (by simp at h)⟩
      generalize loopW (bd E0 (ev E0) loopW 0 [0, 1, 12] L33b3) = K
      unfold bd at ⊢
      simp -implicitDefEqProofs [L33b3, hi, hi2, e']
    | false =>
      have e' := k2 ha
      cases i with
      | zero =>
        simp only [List.take_zero, List.getLast?_nil, Bool.not_false, Bool.and_self, Bool.true_and, List.nil_append] at ih1 ih2 ⊢
        generalize loopW (bd E0 (ev E0) loopW 0 [0, 1, 12] L33b3) = K at ih1 ih2 ⊢
        rw [c0] at e' hw hi2 ih1 ih2 ⊢
        have hw1 : IntKind.i64.wrap 1 = 1 := wr64 (by omega) (by omega)
        refine ⟨fun h => ?_, fun h => ?_⟩
        · have u := ih1 h
          unfold bd at ⊢
          simpa -implicitDefEqProofs [L33b3, hi, hi2, e', hw, hw1] using u
        · have u := ih2 h
          unfold bd at ⊢
          simpa -implicitDefEqProofs [L33b3, hi, hi2, e', hw, hw1] using u
      | succ m =>
        have hbs := before_s pl[m] y
        rw [last_take (by omega)]
        have hm : m < pl.length := by omega
        have hw2 : IntKind.i64.wrap (((m + 1 : Nat) : Int) - 1) = (m : Int) := by rw [cs1, show (m : Int) + 1 - 1 = m by omega]; exact wr64 (by omega) (by omega)
        have hw3 : IntKind.i64.wrap (m : Int) = (m : Int) := wr64 (by omega) (by omega)
        have hpos : (0 : Int) < (m : Int) + 1 := by omega
        have hnn : (0 : Int) ≤ (m : Int) + 1 := by omega
        simp only [Bool.not_false, Bool.true_and]
        generalize loopW (bd E0 (ev E0) loopW 0 [0, 1, 12] L33b3) = K at ih1 ih2 ⊢
        rw [cs1] at e' hw hi2 ih1 ih2 ⊢
        unfold hp at *
        cases hbf : bef pl[m] y with
        | false =>
          rw [hbf] at hbs
          refine ⟨fun _ => ?_, fun h => (by simp at h)⟩
          unfold bd at ⊢
          simp -implicitDefEqProofs [L33b3, hi, hi2, e', hw, hw2, hw3, hpos, hnn, hm, hx, hbs]
        | true =>
          rw [hbf] at hbs
          refine ⟨fun h => ?_, fun h => ?_⟩
          · have u := ih1 (by simpa using h)
            unfold bd at ⊢
            simpa -implicitDefEqProofs [L33b3, hi, hi2, e', hw, hw2, hw3, hpos, hnn, hm, hx, hbs] using u
          · have u := ih2 (by simpa using h)
            unfold bd at ⊢
            simpa -implicitDefEqProofs [L33b3, hi, hi2, e', hw, hw2, hw3, hpos, hnn, hm, hx, hbs] using u
theorem isPlan_s (js : List J) (hj : ∀ j ∈ js, JB j) (hl : js.length ≤ 5) (pl : List Hh) (hpl : pl.length ≤ 1099511627776) : ev E0 33 [.lst 4 (js.map jb), .lst 3 (pl.map hp)] [] = some (bl (planS js pl), []) := by
  rw [e33]
  unfold runF planS
  obtain ⟨k1, k2⟩ := jobsK_loop js hj hl pl hpl js 0 0 rfl (by omega) (by omega)
  rw [c0] at k1 k2
  cases hs : specJ pl js 0 0 with
  | none =>
    obtain ⟨a', u⟩ := k1 hs
    simp -implicitDefEqProofs [L33, u]
  | some a =>
    have u := k2 a hs
    simp only []
    by_cases ha : (pl.length : Int) = a
    · obtain ⟨h1, h2⟩ := specJ_spec pl js 0 0 a hs
      have h0 : (pl.filter (inR 0)).length = 0 := by
        rw [List.length_eq_zero_iff, List.filter_eq_nil_iff]
        intro h _
        unfold inR
        simp only [Bool.and_eq_true, decide_eq_true_eq]
        omega
      rw [h0, Nat.zero_add] at h2
      have hb := runs_hb hj ((filter_all pl).1 (by omega)) (fun i hi => by have := h1 i hi; rwa [Nat.zero_add] at this)
      obtain ⟨o1, o2⟩ := ordK_loop js hj pl hb hpl pl 0 rfl (by omega)
      rw [List.take_zero, c0] at o1 o2
      subst ha
      cases ho : okPairs js [] pl with
      | false => simp -implicitDefEqProofs [L33, u, o1 ho]
      | true => simp -implicitDefEqProofs [L33, u, o2 ho]
    · simp -implicitDefEqProofs [L33, u, ha]
end Go.Proofs.YtlakldjpnpailaaGreatDoor.Ev
