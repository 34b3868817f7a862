/- FnMistakeWays: the law, run by the evaluator, answers true. -/
import Derived.Test.YtodcochnciadjaaDoorEvMiL
set_option linter.unusedVariables false
set_option linter.unusedSimpArgs false
set_option maxRecDepth 8000
set_option maxHeartbeats 4000000
namespace Go.Proofs.YtodcochnciadjaaDoor.Ev
open Dr
theorem FnMistakeWays (x0 : List Int) (b0 : x0.length ≤ maxLen ∧ ∀ y ∈ x0, (Lit.int .u8 y).wf = true) : ev E1 3 [(AV.lst 1 (x0.map (fun q : Int => (AV.v (.int .u8 q)))))] [] = some (bl true, []) := by
  obtain ⟨hl, hw⟩ := b0
  show ev E1 3 [.lst 1 (cd x0)] [] = _
  have hb := two_rbig x0
  by_cases h0 : (65536 : Int) < (x0.length : Int)
  · rw [decide_eq_true h0] at hb
    rw [g3]
    unfold runF
    simp -implicitDefEqProofs [L3, hb]
  · rw [decide_eq_false h0] at hb
    have hx : okC x0 := by
      refine ⟨by omega, fun y hy => ?_⟩
      have h := hw y hy
      unfold Lit.wf at h
      rw [Bool.and_eq_true, decide_eq_true_eq, decide_eq_true_eq] at h
      exact h
    obtain ⟨ts, hts, dT⟩ := two_dSafe x0 hx
    have a1 := two_safeI ts hts
    have a2 := two_safeS ts hts
    have a3 := two_isT ts hts
    have a4 := two_leastI ts hts
    have a5 := two_leastS ts hts
    have a6 := two_repI ts hts
    have a7 := two_repS ts hts
    obtain ⟨R, hR, hRne, a8, a9⟩ := two_pairs ts hts
    have a10 := two_rP R (by omega)
    obtain ⟨us, c, kd0, hus, dU⟩ := two_dBy x0 hx
    obtain ⟨Y, yb, hY, hYne, hYlt, b1, b2⟩ := two_by us hus c kd0
    have b3 := two_rI Y (by omega)
    obtain ⟨vs, hvs, dV⟩ := two_dJoin x0 hx
    obtain ⟨J, hJ, c1, c2⟩ := two_join vs hvs
    have c3 := two_isT vs hvs
    obtain ⟨ws, d, hws, dW⟩ := two_dSplit x0 hx
    obtain ⟨P, six, hP, hPp, e1, e2⟩ := two_split ws hws d
    have e3 := two_rP P hP
    obtain ⟨ys, hys, dY⟩ := two_dSub x0 hx
    obtain ⟨S, seven, hS, hSo, hSlt, hSap, f1, f2⟩ := two_sub ys hys
    have f3 := two_rI S (by omega)
    obtain ⟨zs, f, g, hzs, dZ⟩ := two_dChain x0 hx
    obtain ⟨Z, eight, hZ, hZo, hZlt, hZst, k1, k2⟩ := two_chain zs hzs f g
    have k3 := two_rI Z (by omega)
    have nJ := tr3s_len J
    have nR := prs_len R
    have nZ := ns_len Z
    have l1 := lJ x0 us c Y J hJ J 0 rfl
    have l3 := lY1 us ys zs hys S hSo c f g Y Z eight hS hSlt hSap S.length 0 (by omega)
    have l4 := lB us zs hus c f g Y Z eight hY hYne hYlt Y 0 rfl
    rw [c0] at l1 l3 l4
    have l2 : six = true → packX 0 [2, 20, 21, 23, 39, 40, 44, 45, 46, 47, 48] (loopW (bd E1 (ev E1) loopW 0 [20, 21, 23, 33, 34, 35, 39, 40, 44, 45, 46, 47, 48, 51] L3b1) ⟨[(20, .ptr 0 0 0), (21, i64 c), (23, .lst 1 (ns Y)), (33, .ptr 1 0 0), (34, i64 d), (35, .lst 2 (prs P)), (39, .ptr 2 0 0), (40, .lst 1 (ns S)), (44, .ptr 3 0 0), (45, i64 f), (46, i64 g), (47, .lst 1 (ns Z)), (48, bl eight), (51, i64 0)], [some (tb us), some (tb ws), some (tb ys), some (tb zs)]⟩) =
      some (.ext 2, ⟨[(20, .ptr 0 0 0), (21, i64 c), (23, .lst 1 (ns Y)), (39, .ptr 1 0 0), (40, .lst 1 (ns S)), (44, .ptr 2 0 0), (45, i64 f), (46, i64 g), (47, .lst 1 (ns Z)), (48, bl eight)], [some (tb us), some (tb ys), some (tb zs)]⟩) := by
      intro h
      obtain ⟨q1, q2, q3⟩ := hPp h
      exact lW us ws ys zs hws c d f g Y S Z P hP eight q1 q2 q3 P 0 rfl
    have l5 : eight = true → packX 0 [2, 45, 46, 47] (loopW (bd E1 (ev E1) loopW 0 [44, 45, 46, 47, 59] L3b5) ⟨[(44, .ptr 0 0 0), (45, i64 f), (46, i64 g), (47, .lst 1 (ns Z)), (59, i64 1)], [some (tb zs)]⟩) =
      some (.ext 10, ⟨[(45, i64 f), (46, i64 g), (47, .lst 1 (ns Z))], []⟩) := by
      intro h
      obtain ⟨q0, q1, _⟩ := hZo h
      have := lZ zs hzs q0 f g Z hZ hZlt hZst (Z.length - 1) 0 (by omega)
      rwa [c0, Int.zero_add] at this
    have hz1 : eight = true → (ns Z)[0]? = some (i64 f) ∧ (∀ h, (ns Z)[0]'h = i64 f) ∧ (ns Z)[Z.length - 1]? = some (i64 g) ∧ (∀ h, (ns Z)[Z.length - 1]'h = i64 g) ∧ 1 ≤ Z.length := by
      intro h
      obtain ⟨_, q1, q2, q3⟩ := hZo h
      have u1 := get_ns (l := Z) (i := 0) (by omega) (Bf.Q_at (by omega)).symm
      have u2 := get_ns (l := Z) (i := Z.length - 1) (by omega) (Bf.Q_at (by omega)).symm
      rw [q2] at u1
      rw [q3] at u2
      exact ⟨u1, fun h => (List.getElem?_eq_some_iff.1 u1).2, u2, fun h => (List.getElem?_eq_some_iff.1 u2).2, q1⟩
    have ht2 : two ts = true → 1 ≤ lm ts ∧ lm ts ≤ 2000 ∧ safe ts = decide (1 < (lm ts : Int)) := by
      intro h
      obtain ⟨hv, h2, ho⟩ := two_vt h
      have hp := (lm_ok hv h2).pos
      refine ⟨hp, ?_, ?_⟩
      · obtain ⟨b, _, e⟩ := (lm_ok hv h2).at_
        rw [← e]
        exact ds_b (by have := mk_sz (sm2 hts) b.1; omega) (by have := mk_sz (sm2 hts) b.2; omega)
      · unfold safe
        rw [ho, Bool.true_and, ← decide_not, decide_eq_decide]
        omega
    unfold tA at *
    unfold tb at *
    clear hZst hZlt hSap hSlt hSo hPp hYlt hYne hZo
    have hRl : two ts = true → ¬ R.length = 0 := fun h e => hRne h (List.eq_nil_of_length_eq_zero e)
    clear hRne
    generalize two ts = one at *
    generalize lm ts = m at *
    generalize okTable vs = okv at *
    generalize okTable ts = okt at *
    generalize safe ts = sf at *
    generalize tr3s J = nj at *
    generalize prs R = nr at *
    generalize ns Z = nz at *
    have wz : 1 ≤ Z.length → IntKind.i64.wrap ((Z.length : Int) - 1) = (Z.length : Int) - 1 := fun _ => wr64 (by omega) (by omega)
    rw [g3]
    unfold runF
    cases one with
    | false =>
      rw [if_neg (by simp)] at a4 a5 a6 a7
      cases eight with
      | false =>
        cases six with
        | false =>
          simp (maxSteps := 2000000) -implicitDefEqProofs [L3, hb, dT, a1, a2, a3, a4, a5, a6, a7, a8, a9, a10, dU, b1, b2, b3, dV, c1, c2, c3, dW, e1, e2, e3, dY, f1, f2, f3, dZ, k1, k2, k3, l1, l3, l4, nJ, nR, nZ]
        | true =>
          have l2 := l2 rfl
          simp (maxSteps := 2000000) -implicitDefEqProofs [L3, hb, dT, a1, a2, a3, a4, a5, a6, a7, a8, a9, a10, dU, b1, b2, b3, dV, c1, c2, c3, dW, e1, e2, e3, dY, f1, f2, f3, dZ, k1, k2, k3, l1, l3, l4, nJ, nR, nZ, l2]
      | true =>
        have l5 := l5 rfl
        obtain ⟨z1, z2, z3, z4, z5⟩ := hz1 rfl
        have wz := wz z5
        have z6 : (Z.length : Int) - 1 < (Z.length : Int) := by omega
        have z7 : (0 : Int) ≤ (Z.length : Int) - 1 := by omega
        have z8 : ((Z.length : Int) - 1).toNat = Z.length - 1 := by omega
        have z9 : (0 : Int) < (Z.length : Int) := by omega
        have z10 : 0 < Z.length := by omega
        have z11 : Z.length - 1 < Z.length := by omega
        have z12 : (1 : Int) ≤ (Z.length : Int) := by omega
        cases six with
        | false =>
          simp (maxSteps := 2000000) -implicitDefEqProofs [L3, hb, dT, a1, a2, a3, a4, a5, a6, a7, a8, a9, a10, dU, b1, b2, b3, dV, c1, c2, c3, dW, e1, e2, e3, dY, f1, f2, f3, dZ, k1, k2, k3, l1, l3, l4, nJ, nR, nZ, l5, z1, z2, z3, z4, z5, z6, z7, z8, z9, z10, z11, z12, wz]
        | true =>
          have l2 := l2 rfl
          simp (maxSteps := 2000000) -implicitDefEqProofs [L3, hb, dT, a1, a2, a3, a4, a5, a6, a7, a8, a9, a10, dU, b1, b2, b3, dV, c1, c2, c3, dW, e1, e2, e3, dY, f1, f2, f3, dZ, k1, k2, k3, l1, l3, l4, nJ, nR, nZ, l5, z1, z2, z3, z4, z5, z6, z7, z8, z9, z10, z11, z12, wz, l2]
    | true =>
      rw [if_pos rfl] at a4 a5 a6 a7
      obtain ⟨p1, p2, p3⟩ := ht2 rfl
      have hRl := hRl rfl
      have hRi : ¬ (R.length : Int) = 0 := by omega
      subst p3
      obtain ⟨rp, hrp⟩ : ∃ rp : Nat, rp = (m - 1) / 2 := ⟨_, rfl⟩
      rw [← hrp] at a6 a7
      have w1 : IntKind.i64.wrap (2 * (rp : Int)) = 2 * rp := wr64 (by omega) (by omega)
      have w2 : IntKind.i64.wrap (2 * (rp : Int) + 1) = 2 * rp + 1 := wr64 (by omega) (by omega)
      have w3 : IntKind.i64.wrap (2 * (rp : Int) + 2) = 2 * rp + 2 := wr64 (by omega) (by omega)
      have w4 : ¬ (m : Int) < 2 * rp + 1 := by omega
      have w5 : ¬ 2 * (rp : Int) + 2 < m := by omega
      cases eight with
      | false =>
        cases six with
        | false =>
          simp (maxSteps := 2000000) -implicitDefEqProofs [L3, hb, dT, a1, a2, a3, a4, a5, a6, a7, a8, a9, a10, dU, b1, b2, b3, dV, c1, c2, c3, dW, e1, e2, e3, dY, f1, f2, f3, dZ, k1, k2, k3, l1, l3, l4, nJ, nR, nZ, hRl, hRi, w1, w2, w3, w4, w5]
        | true =>
          have l2 := l2 rfl
          simp (maxSteps := 2000000) -implicitDefEqProofs [L3, hb, dT, a1, a2, a3, a4, a5, a6, a7, a8, a9, a10, dU, b1, b2, b3, dV, c1, c2, c3, dW, e1, e2, e3, dY, f1, f2, f3, dZ, k1, k2, k3, l1, l3, l4, nJ, nR, nZ, hRl, hRi, w1, w2, w3, w4, w5, l2]
      | true =>
        have l5 := l5 rfl
        obtain ⟨z1, z2, z3, z4, z5⟩ := hz1 rfl
        have wz := wz z5
        have z6 : (Z.length : Int) - 1 < (Z.length : Int) := by omega
        have z7 : (0 : Int) ≤ (Z.length : Int) - 1 := by omega
        have z8 : ((Z.length : Int) - 1).toNat = Z.length - 1 := by omega
        have z9 : (0 : Int) < (Z.length : Int) := by omega
        have z10 : 0 < Z.length := by omega
        have z11 : Z.length - 1 < Z.length := by omega
        have z12 : (1 : Int) ≤ (Z.length : Int) := by omega
        cases six with
        | false =>
          simp (maxSteps := 2000000) -implicitDefEqProofs [L3, hb, dT, a1, a2, a3, a4, a5, a6, a7, a8, a9, a10, dU, b1, b2, b3, dV, c1, c2, c3, dW, e1, e2, e3, dY, f1, f2, f3, dZ, k1, k2, k3, l1, l3, l4, nJ, nR, nZ, hRl, hRi, w1, w2, w3, w4, w5, l5, z1, z2, z3, z4, z5, z6, z7, z8, z9, z10, z11, z12, wz]
        | true =>
          have l2 := l2 rfl
          simp (maxSteps := 2000000) -implicitDefEqProofs [L3, hb, dT, a1, a2, a3, a4, a5, a6, a7, a8, a9, a10, dU, b1, b2, b3, dV, c1, c2, c3, dW, e1, e2, e3, dY, f1, f2, f3, dZ, k1, k2, k3, l1, l3, l4, nJ, nR, nZ, hRl, hRi, w1, w2, w3, w4, w5, l5, z1, z2, z3, z4, z5, z6, z7, z8, z9, z10, z11, z12, wz, l2]
end Go.Proofs.YtodcochnciadjaaDoor.Ev
