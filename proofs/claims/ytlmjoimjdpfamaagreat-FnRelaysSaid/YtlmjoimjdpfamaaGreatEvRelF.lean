/- Plans: the program's walk over the hops. -/
import Derived.Test.YtlmjoimjdpfamaaGreatEvRelE
set_option linter.unusedVariables false
set_option linter.unusedSimpArgs false
namespace Go.Proofs.YtlmjoimjdpfamaaGreat.Ev
theorem mainI_bad0 (js : List J) (hj : ∀ j ∈ js, JB j) (hl : js.length ≤ 5) (p : List Hh) (y : Hh) (pl : List Hh) (hi : p.length < pl.length) (hx : pl[p.length] = y) (hp1 : pl.take p.length = p) (hpl : pl.length ≤ 1099511627776) (ats rds : List Int) (la : ats.length = js.length) (lr : rds.length = js.length) (hb : ∀ x ∈ p, HB js x) (hz : p.length = 0) (ho : okHop js p ats rds y = false) (hyb : ∀ (k : Nat) (hk : k < js.length), y.1 = k → ¬ ats.getD k 0 = js[k].2.1 → y.2.1 = ats.getD k 0 → 0 ≤ y.2.2 → y.2.2 ≤ 9999 → HB js y) : ∃ xs : List Int, ∀ K : St → Rr, packX 0 [0, 4, 5] (Rr.thn (bd E0 (ev E0) loopW 0 [0, 1, 5, 6, 35, 36, 37] L48b2 ⟨[(0, .lst 4 (js.map jb)), (1, .lst 3 (pl.map hp)), (5, .sl 0 0 ats.length), (6, .sl 1 0 rds.length), (35, .lst 3 (pl.map hp)), (36, i64 pl.length), (37, i64 p.length)], [ri ats, ri rds]⟩) K) = some (.ret, ⟨[(0, .lst 4 (js.map jb)), (4, bl false), (5, .sl 0 0 xs.length)], [ri xs]⟩) := by
  obtain ⟨a, b, e⟩ := y
  have hle : p.length ≤ pl.length := by omega
  have hmn : min p.length pl.length = p.length := by omega
  have htk : List.take p.length (pl.map hp) = p.map hp := by rw [← List.map_take, hp1]
  have hi2 : (p.length : Int) < (pl.length : Int) := by omega
  have hw : IntKind.i64.wrap ((p.length : Int) + 1) = (p.length : Int) + 1 := wr64 (by omega) (by omega)
  have hwl : IntKind.i64.wrap ((js.length : Int) - 1) = (js.length : Int) - 1 := wr64 (by omega) (by omega)
  have n1 := in_i a 0 ((js.length : Int) - 1)
  have n2 := in_i e 0 9999
  have z1 : ¬ (0 : Int) < (p.length : Int) := by omega
  have z2 : ¬ 0 < p.length := by omega
  refine ⟨ats, fun K => ?_⟩
  unfold okHop at ho
  dsimp only at ho
  cases h1 : btw a 0 ((js.length : Int) - 1) with
  | false =>
    rw [h1] at n1
    unfold bd hp ri
    unfold hp at *
    simp -implicitDefEqProofs [L48b2, hi, hi2, hx, hwl, n1, n2, z1, z2]
  | true =>
    rw [h1] at n1 ho
    have h1b := h1
    unfold btw at h1b
    rw [Bool.and_eq_true, decide_eq_true_eq, decide_eq_true_eq] at h1b
    cases h2 : btw e 0 9999 with
    | false =>
      rw [h2] at n2
      unfold bd hp ri
      unfold hp at *
      simp -implicitDefEqProofs [L48b2, hi, hi2, hx, hwl, n1, n2, z1, z2]
    | true =>
      rw [h2] at n2 ho
      have h2b := h2
      unfold btw at h2b
      rw [Bool.and_eq_true, decide_eq_true_eq, decide_eq_true_eq] at h2b
      have hnil : p = [] := List.eq_nil_of_length_eq_zero hz
      have hgl : p.getLast? = none := by rw [hnil]; rfl
      rw [hgl] at ho
      simp only [Bool.true_and] at ho
      obtain ⟨k, rfl⟩ : ∃ k : Nat, a = k := ⟨a.toNat, by omega⟩
      have hk : k < js.length := by omega
      have hka : k < ats.length := by omega
      have hkr : k < rds.length := by omega
      have hjat := jat_get hk
      rw [Int.toNat_natCast, hjat] at ho
      have ga : ats.getD k 0 = ats[k] := by simp [hka]
      have gr : rds.getD k 0 = rds[k] := by simp [hkr]
      rw [ga, gr] at ho
      by_cases q1 : ats[k] = js[k].2.1
      · unfold bd hp ri i64s jb
        unfold hp at *
        simp -implicitDefEqProofs [L48b2, hi, hi2, hx, hwl, n1, n2, z1, z2, hk, hka, hkr, q1]
      · by_cases q2 : b = ats[k]
        · subst q2
          by_cases q3 : e < rds[k]
          · unfold bd hp ri i64s jb
            unfold hp at *
            simp -implicitDefEqProofs [L48b2, hi, hi2, hx, hwl, n1, n2, z1, z2, hk, hka, hkr, q1, q3]
          · rw [decide_eq_false q1, decide_eq_true rfl, decide_eq_false q3] at ho
            have hov : (p.any fun x => clash js x ((k : Int), ats[k], e)) = true := by
              cases ha : p.any fun x => clash js x ((k : Int), ats[k], e) with
              | true => rfl
              | false => rw [ha] at ho; cases ho
            have hy : HB js ((k : Int), ats[k], e) := hyb k hk rfl (by rw [ga]; exact q1) ga.symm h2b.1 h2b.2
            have u := (overI_loop js hj p pl hb ((k : Int), ats[k], e) hy (by omega) ats rds js[k] pl.length p.length p 0 rfl).1 hov
            rw [c0] at u
            unfold bd hp ri i64s jb
            unfold hp ri i64s jb at *
            simp -implicitDefEqProofs [L48b2, hi, hi2, hx, hwl, n1, n2, z1, z2, hk, hka, hkr, q1, q3, hle, hmn, htk, u]
        · unfold bd hp ri i64s jb
          unfold hp at *
          simp -implicitDefEqProofs [L48b2, hi, hi2, hx, hwl, n1, n2, z1, z2, hk, hka, hkr, q1, q2]
theorem mainI_bad1 (js : List J) (hj : ∀ j ∈ js, JB j) (hl : js.length ≤ 5) (p : List Hh) (y : Hh) (pl : List Hh) (hi : p.length < pl.length) (hx : pl[p.length] = y) (hp1 : pl.take p.length = p) (hpl : pl.length ≤ 1099511627776) (ats rds : List Int) (la : ats.length = js.length) (lr : rds.length = js.length) (hb : ∀ x ∈ p, HB js x) (x : Hh) (hz : 0 < p.length) (hlast : p.getLast? = some x) (hxl : pl[p.length - 1] = x) (ho : okHop js p ats rds y = false) (hyb : ∀ (k : Nat) (hk : k < js.length), y.1 = k → ¬ ats.getD k 0 = js[k].2.1 → y.2.1 = ats.getD k 0 → 0 ≤ y.2.2 → y.2.2 ≤ 9999 → HB js y) : ∃ xs : List Int, ∀ K : St → Rr, packX 0 [0, 4, 5] (Rr.thn (bd E0 (ev E0) loopW 0 [0, 1, 5, 6, 35, 36, 37] L48b2 ⟨[(0, .lst 4 (js.map jb)), (1, .lst 3 (pl.map hp)), (5, .sl 0 0 ats.length), (6, .sl 1 0 rds.length), (35, .lst 3 (pl.map hp)), (36, i64 pl.length), (37, i64 p.length)], [ri ats, ri rds]⟩) K) = some (.ret, ⟨[(0, .lst 4 (js.map jb)), (4, bl false), (5, .sl 0 0 xs.length)], [ri xs]⟩) := by
  obtain ⟨a, b, e⟩ := y
  have hle : p.length ≤ pl.length := by omega
  have hmn : min p.length pl.length = p.length := by omega
  have htk : List.take p.length (pl.map hp) = p.map hp := by rw [← List.map_take, hp1]
  have hi2 : (p.length : Int) < (pl.length : Int) := by omega
  have hw : IntKind.i64.wrap ((p.length : Int) + 1) = (p.length : Int) + 1 := wr64 (by omega) (by omega)
  have hwl : IntKind.i64.wrap ((js.length : Int) - 1) = (js.length : Int) - 1 := wr64 (by omega) (by omega)
  have n1 := in_i a 0 ((js.length : Int) - 1)
  have n2 := in_i e 0 9999
  have z1 : (0 : Int) < (p.length : Int) := by omega
  have z3 : IntKind.i64.wrap ((p.length : Int) - 1) = (p.length : Int) - 1 := wr64 (by omega) (by omega)
  have z4 : (p.length : Int) - 1 < (pl.length : Int) := by omega
  have z5 : ((p.length : Int) - 1).toNat = p.length - 1 := by omega
  have z6 : p.length - 1 < pl.length := by omega
  have z7 : (1 : Int) ≤ (p.length : Int) := by omega
  have hbb := byBegin_i x (a, b, e)
  refine ⟨ats, fun K => ?_⟩
  unfold okHop at ho
  dsimp only at ho
  cases h1 : btw a 0 ((js.length : Int) - 1) with
  | false =>
    rw [h1] at n1
    unfold bd hp ri
    unfold hp at *
    simp -implicitDefEqProofs [L48b2, hi, hi2, hx, hwl, n1, n2, z1, hz, z3, z4, z5, z6, z7, hxl, hbb]
  | true =>
    rw [h1] at n1 ho
    have h1b := h1
    unfold btw at h1b
    rw [Bool.and_eq_true, decide_eq_true_eq, decide_eq_true_eq] at h1b
    cases h2 : btw e 0 9999 with
    | false =>
      rw [h2] at n2
      unfold bd hp ri
      unfold hp at *
      simp -implicitDefEqProofs [L48b2, hi, hi2, hx, hwl, n1, n2, z1, hz, z3, z4, z5, z6, z7, hxl, hbb]
    | true =>
      rw [h2] at n2 ho
      have h2b := h2
      unfold btw at h2b
      rw [Bool.and_eq_true, decide_eq_true_eq, decide_eq_true_eq] at h2b
      rw [hlast] at ho
      simp only [Bool.true_and] at ho
      have hbl := bb_lt x (a, b, e)
      cases hbf : bef x (a, b, e) with
      | false =>
        have hbn : (0 : Int) ≤ bb x (a, b, e) := by
          rw [hbf] at hbl
          rcases Int.lt_or_le (bb x (a, b, e)) 0 with h | h
          · exact absurd (hbl.1 h) (by simp)
          · exact h
        unfold bd hp ri
        unfold hp at *
        simp -implicitDefEqProofs [L48b2, hi, hi2, hx, hwl, n1, n2, z1, hz, z3, z4, z5, z6, z7, hxl, hbb, hbn]
      | true =>
        have hbn : ¬ (0 : Int) ≤ bb x (a, b, e) := by
          have := hbl.2 hbf
          omega
        rw [hbf, Bool.true_and] at ho
        obtain ⟨k, rfl⟩ : ∃ k : Nat, a = k := ⟨a.toNat, by omega⟩
        have hk : k < js.length := by omega
        have hka : k < ats.length := by omega
        have hkr : k < rds.length := by omega
        have hjat := jat_get hk
        rw [Int.toNat_natCast, hjat] at ho
        have ga : ats.getD k 0 = ats[k] := by simp [hka]
        have gr : rds.getD k 0 = rds[k] := by simp [hkr]
        rw [ga, gr] at ho
        by_cases q1 : ats[k] = js[k].2.1
        · unfold bd hp ri i64s jb
          unfold hp at *
          simp -implicitDefEqProofs [L48b2, hi, hi2, hx, hwl, n1, n2, z1, hz, z3, z4, z5, z6, z7, hxl, hbb, hbn, hk, hka, hkr, q1]
        · by_cases q2 : b = ats[k]
          · subst q2
            by_cases q3 : e < rds[k]
            · unfold bd hp ri i64s jb
              unfold hp at *
              simp -implicitDefEqProofs [L48b2, hi, hi2, hx, hwl, n1, n2, z1, hz, z3, z4, z5, z6, z7, hxl, hbb, hbn, hk, hka, hkr, q1, q3]
            · rw [decide_eq_false q1, decide_eq_true rfl, decide_eq_false q3] at ho
              have hov : (p.any fun x => clash js x ((k : Int), ats[k], e)) = true := by
                cases ha : p.any fun x => clash js x ((k : Int), ats[k], e) with
                | true => rfl
                | false => rw [ha] at ho; cases ho
              have hy : HB js ((k : Int), ats[k], e) := hyb k hk rfl (by rw [ga]; exact q1) ga.symm h2b.1 h2b.2
              have u := (overI_loop js hj p pl hb ((k : Int), ats[k], e) hy (by omega) ats rds js[k] pl.length p.length p 0 rfl).1 hov
              rw [c0] at u
              unfold bd hp ri i64s jb
              unfold hp ri i64s jb at *
              simp -implicitDefEqProofs [L48b2, hi, hi2, hx, hwl, n1, n2, z1, hz, z3, z4, z5, z6, z7, hxl, hbb, hbn, hk, hka, hkr, q1, q3, hle, hmn, htk, u]
          · unfold bd hp ri i64s jb
            unfold hp at *
            simp -implicitDefEqProofs [L48b2, hi, hi2, hx, hwl, n1, n2, z1, hz, z3, z4, z5, z6, z7, hxl, hbb, hbn, hk, hka, hkr, q1, q2]
theorem mainI_good0 (js : List J) (hj : ∀ j ∈ js, JB j) (hl : js.length ≤ 5) (p : List Hh) (y : Hh) (pl : List Hh) (hi : p.length < pl.length) (hx : pl[p.length] = y) (hp1 : pl.take p.length = p) (hpl : pl.length ≤ 1099511627776) (ats rds : List Int) (la : ats.length = js.length) (lr : rds.length = js.length) (hb : ∀ x ∈ p, HB js x) (hz : p.length = 0) (hy : HB js y) (h9 : y.2.2 ≤ 9999) (ho : okHop js p ats rds y = true) : ∀ K : St → Rr, packX 0 [0, 4, 5] (Rr.thn (bd E0 (ev E0) loopW 0 [0, 1, 5, 6, 35, 36, 37] L48b2 ⟨[(0, .lst 4 (js.map jb)), (1, .lst 3 (pl.map hp)), (5, .sl 0 0 ats.length), (6, .sl 1 0 rds.length), (35, .lst 3 (pl.map hp)), (36, i64 pl.length), (37, i64 p.length)], [ri ats, ri rds]⟩) K) = packX 0 [0, 4, 5] (K ⟨[(0, .lst 4 (js.map jb)), (1, .lst 3 (pl.map hp)), (5, .sl 0 0 (ats.set y.1.toNat (nxt js y)).length), (6, .sl 1 0 (rds.set y.1.toNat (y.2.2 + (jat js y.1).2.2.1)).length), (35, .lst 3 (pl.map hp)), (36, i64 pl.length), (37, i64 (p.length + 1 : Nat))], [ri (ats.set y.1.toNat (nxt js y)), ri (rds.set y.1.toNat (y.2.2 + (jat js y.1).2.2.1))]⟩) := by
  obtain ⟨a, b, e⟩ := y
  have hle : p.length ≤ pl.length := by omega
  have hmn : min p.length pl.length = p.length := by omega
  have htk : List.take p.length (pl.map hp) = p.map hp := by rw [← List.map_take, hp1]
  have hi2 : (p.length : Int) < (pl.length : Int) := by omega
  have hw : IntKind.i64.wrap ((p.length : Int) + 1) = (p.length : Int) + 1 := wr64 (by omega) (by omega)
  have hwl : IntKind.i64.wrap ((js.length : Int) - 1) = (js.length : Int) - 1 := wr64 (by omega) (by omega)
  have n1 := in_i a 0 ((js.length : Int) - 1)
  have n2 := in_i e 0 9999
  have z1 : ¬ (0 : Int) < (p.length : Int) := by omega
  have z2 : ¬ 0 < p.length := by omega
  intro K
  unfold okHop at ho
  simp only [Bool.and_eq_true, Bool.not_eq_true', Bool.or_eq_false_iff, decide_eq_true_eq, decide_eq_false_iff_not] at ho
  obtain ⟨⟨h1, h2, h4⟩, ⟨q1, h7, q3⟩, hov⟩ := ho
  dsimp only at h1 h2 h4 q1 h7 q3 h9
  rw [h1] at n1
  rw [h2] at n2
  have h1b := h1
  unfold btw at h1b
  rw [Bool.and_eq_true, decide_eq_true_eq, decide_eq_true_eq] at h1b
  have h2b := h2
  unfold btw at h2b
  rw [Bool.and_eq_true, decide_eq_true_eq, decide_eq_true_eq] at h2b
  have q2 : b = ats.getD a.toNat 0 := by
    cases hd : decide (b = ats.getD a.toNat 0) with
    | true => exact of_decide_eq_true hd
    | false => rw [hd] at h7; cases h7
  obtain ⟨k, rfl⟩ : ∃ k : Nat, a = k := ⟨a.toNat, by omega⟩
  have hk : k < js.length := by omega
  have hka : k < ats.length := by omega
  have hkr : k < rds.length := by omega
  have hjat := jat_get hk
  rw [Int.toNat_natCast] at *
  have ga : ats.getD k 0 = ats[k] := by simp [hka]
  have gr : rds.getD k 0 = rds[k] := by simp [hkr]
  rw [ga] at q1 q2
  rw [gr] at q3
  rw [hjat] at q1
  subst q2
  have hJ := hj _ (List.getElem_mem hk)
  have u := (overI_loop js hj p pl hb ((k : Int), ats[k], e) hy (by omega) ats rds js[k] pl.length p.length p 0 rfl).2 hov
  rw [c0] at u
  have hn := next_i js[k] hJ ats[k] hy.2.2.1 hy.2.2.2.1
  have s0 := hJ.s0
  have s1 := hJ.s1
  have hwe : IntKind.i64.wrap (e + js[k].2.2.1) = e + js[k].2.2.1 := wr64 (by omega) (by omega)
  unfold bd hp ri i64s jb nxt
  rw [hjat]
  unfold hp ri i64s jb at *
  simp (maxSteps := 1000000) -implicitDefEqProofs [L48b2, hi, hi2, hx, hwl, n1, n2, z1, z2, hk, hka, hkr, q1, q3, hle, hmn, htk, u, hn, hwe, hw]
theorem mainI_good1 (js : List J) (hj : ∀ j ∈ js, JB j) (hl : js.length ≤ 5) (p : List Hh) (y : Hh) (pl : List Hh) (hi : p.length < pl.length) (hx : pl[p.length] = y) (hp1 : pl.take p.length = p) (hpl : pl.length ≤ 1099511627776) (ats rds : List Int) (la : ats.length = js.length) (lr : rds.length = js.length) (hb : ∀ x ∈ p, HB js x) (x : Hh) (hz : 0 < p.length) (hlast : p.getLast? = some x) (hxl : pl[p.length - 1] = x) (hy : HB js y) (h9 : y.2.2 ≤ 9999) (ho : okHop js p ats rds y = true) : ∀ K : St → Rr, packX 0 [0, 4, 5] (Rr.thn (bd E0 (ev E0) loopW 0 [0, 1, 5, 6, 35, 36, 37] L48b2 ⟨[(0, .lst 4 (js.map jb)), (1, .lst 3 (pl.map hp)), (5, .sl 0 0 ats.length), (6, .sl 1 0 rds.length), (35, .lst 3 (pl.map hp)), (36, i64 pl.length), (37, i64 p.length)], [ri ats, ri rds]⟩) K) = packX 0 [0, 4, 5] (K ⟨[(0, .lst 4 (js.map jb)), (1, .lst 3 (pl.map hp)), (5, .sl 0 0 (ats.set y.1.toNat (nxt js y)).length), (6, .sl 1 0 (rds.set y.1.toNat (y.2.2 + (jat js y.1).2.2.1)).length), (35, .lst 3 (pl.map hp)), (36, i64 pl.length), (37, i64 (p.length + 1 : Nat))], [ri (ats.set y.1.toNat (nxt js y)), ri (rds.set y.1.toNat (y.2.2 + (jat js y.1).2.2.1))]⟩) := by
  obtain ⟨a, b, e⟩ := y
  have hle : p.length ≤ pl.length := by omega
  have hmn : min p.length pl.length = p.length := by omega
  have htk : List.take p.length (pl.map hp) = p.map hp := by rw [← List.map_take, hp1]
  have hi2 : (p.length : Int) < (pl.length : Int) := by omega
  have hw : IntKind.i64.wrap ((p.length : Int) + 1) = (p.length : Int) + 1 := wr64 (by omega) (by omega)
  have hwl : IntKind.i64.wrap ((js.length : Int) - 1) = (js.length : Int) - 1 := wr64 (by omega) (by omega)
  have n1 := in_i a 0 ((js.length : Int) - 1)
  have n2 := in_i e 0 9999
  have z1 : (0 : Int) < (p.length : Int) := by omega
  have z3 : IntKind.i64.wrap ((p.length : Int) - 1) = (p.length : Int) - 1 := wr64 (by omega) (by omega)
  have z4 : (p.length : Int) - 1 < (pl.length : Int) := by omega
  have z5 : ((p.length : Int) - 1).toNat = p.length - 1 := by omega
  have z6 : p.length - 1 < pl.length := by omega
  have z7 : (1 : Int) ≤ (p.length : Int) := by omega
  have hbb := byBegin_i x (a, b, e)
  intro K
  unfold okHop at ho
  simp only [Bool.and_eq_true, Bool.not_eq_true', Bool.or_eq_false_iff, decide_eq_true_eq, decide_eq_false_iff_not] at ho
  obtain ⟨⟨h1, h2, h4⟩, ⟨q1, h7, q3⟩, hov⟩ := ho
  dsimp only at h1 h2 h4 q1 h7 q3 h9
  rw [h1] at n1
  rw [h2] at n2
  have h1b := h1
  unfold btw at h1b
  rw [Bool.and_eq_true, decide_eq_true_eq, decide_eq_true_eq] at h1b
  have h2b := h2
  unfold btw at h2b
  rw [Bool.and_eq_true, decide_eq_true_eq, decide_eq_true_eq] at h2b
  have q2 : b = ats.getD a.toNat 0 := by
    cases hd : decide (b = ats.getD a.toNat 0) with
    | true => exact of_decide_eq_true hd
    | false => rw [hd] at h7; cases h7
  obtain ⟨k, rfl⟩ : ∃ k : Nat, a = k := ⟨a.toNat, by omega⟩
  have hk : k < js.length := by omega
  have hka : k < ats.length := by omega
  have hkr : k < rds.length := by omega
  have hjat := jat_get hk
  rw [Int.toNat_natCast] at *
  have ga : ats.getD k 0 = ats[k] := by simp [hka]
  have gr : rds.getD k 0 = rds[k] := by simp [hkr]
  rw [ga] at q1 q2
  rw [gr] at q3
  rw [hjat] at q1
  subst q2
  have hJ := hj _ (List.getElem_mem hk)
  have u := (overI_loop js hj p pl hb ((k : Int), ats[k], e) hy (by omega) ats rds js[k] pl.length p.length p 0 rfl).2 hov
  rw [c0] at u
  have hn := next_i js[k] hJ ats[k] hy.2.2.1 hy.2.2.2.1
  have s0 := hJ.s0
  have s1 := hJ.s1
  have hwe : IntKind.i64.wrap (e + js[k].2.2.1) = e + js[k].2.2.1 := wr64 (by omega) (by omega)
  rw [hlast] at h4
  have hbn : ¬ (0 : Int) ≤ bb x ((k : Int), ats[k], e) := by
    have := (bb_lt x ((k : Int), ats[k], e)).2 h4
    omega
  unfold bd hp ri i64s jb nxt
  rw [hjat]
  unfold hp ri i64s jb at *
  simp (maxSteps := 1000000) -implicitDefEqProofs [L48b2, hi, hi2, hx, hwl, n1, n2, z1, hz, z3, z4, z5, z6, z7, hxl, hbb, hbn, hk, hka, hkr, q1, q3, hle, hmn, htk, u, hn, hwe, hw]
end Go.Proofs.YtlmjoimjdpfamaaGreat.Ev
