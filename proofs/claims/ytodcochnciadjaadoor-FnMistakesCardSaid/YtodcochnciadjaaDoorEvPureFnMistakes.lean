/- FnMistakes: the law, run by the evaluator, answers true. -/
import Derived.Test.YtodcochnciadjaaDoorEvMiM
set_option linter.unusedVariables false
set_option linter.unusedSimpArgs false
set_option maxRecDepth 8000
set_option maxHeartbeats 8000000
namespace Go.Proofs.YtodcochnciadjaaDoor.Ev
open Dr
theorem FnMistakes (x0 : List Int) (b0 : x0.length ≤ maxLen ∧ ∀ y ∈ x0, (Lit.int .u8 y).wf = true) : ev E1 4 [(AV.lst 1 (x0.map (fun q : Int => (AV.v (.int .u8 q)))))] [] = some (bl true, []) := by
  obtain ⟨hl, hw⟩ := b0
  show ev E1 4 [.lst 1 (cd x0)] [] = _
  have hb := two_rbig x0
  by_cases h0 : (65536 : Int) < (x0.length : Int)
  · rw [decide_eq_true h0] at hb
    rw [g4]
    unfold runF
    simp -implicitDefEqProofs [L4, hb]
  · rw [decide_eq_false h0] at hb
    have hx : okC x0 := by
      refine ⟨by omega, fun y hy => ?_⟩
      have h := hw y hy
      unfold Lit.wf at h
      rw [Bool.and_eq_true, decide_eq_true_eq, decide_eq_true_eq] at h
      exact h
    obtain ⟨a, b, za, zb, dA⟩ := two_dMD x0 hx
    have a1 := two_mdI a b (by omega) (by omega)
    have a2 := two_mdS a b (by omega) (by omega)
    have a3 := two_mdI b a (by omega) (by omega)
    obtain ⟨ts, k, hts, zk, dT⟩ := two_dNear x0 hx
    obtain ⟨N, x, one, hN, hone, b1, b2⟩ := two_near ts hts k zk
    have b3 := two_rI N (by omega)
    obtain ⟨us, hus, dU⟩ := two_dEven x0 hx
    obtain ⟨es, tw, hes, htw, c1, c2⟩ := two_even us hus
    have c3 := two_rTab es (by omega)
    obtain ⟨vs, s, hvs, zs, dV⟩ := two_dRead x0 hx
    obtain ⟨M, sm, three, e1, e2, he⟩ := two_read vs hvs s zs
    have f1 := two_mdI a k (by omega) (by omega)
    have f2 := two_mdI k b (by omega) (by omega)
    have g0 : ∀ far : Int, one = true → packX 0 [2, 3, 4, 5, 6, 10, 17, 18, 19] (loopW (bd E1 (ev E1) loopW 0 [3, 4, 5, 6, 9, 10, 11, 12, 17, 18, 19, 32] L4b0) ⟨[(3, st a), (4, st b), (5, i64 far), (6, bl (okMD a b)), (9, .ptr 0 0 0), (10, st k), (11, .lst 1 (ns N)), (12, i64 x), (17, .ptr 1 0 0), (18, .ptr 2 0 0), (19, bl tw), (32, i64 0)], [some (tb ts), some (tb us), some (tb es)]⟩) =
      some (.ext 0, ⟨[(3, st a), (4, st b), (5, i64 far), (6, bl (okMD a b)), (10, st k), (17, .ptr 0 0 0), (18, .ptr 1 0 0), (19, bl tw)], [some (tb us), some (tb es)]⟩) := by
      intro far h
      obtain ⟨q1, q2, q3⟩ := hone h
      exact mN ts us es a b k far x (okMD a b) tw N hts zk q1 q2 hN q3 ts.length 0 (by omega)
    have g1 : ∀ far : Int, tw = true → packX 0 [2, 3, 4, 5, 6, 10] (loopW (bd E1 (ev E1) loopW 0 [3, 4, 5, 6, 10, 17, 18, 35] L4b2) ⟨[(3, st a), (4, st b), (5, i64 far), (6, bl (okMD a b)), (10, st k), (17, .ptr 0 0 0), (18, .ptr 1 0 0), (35, i64 0)], [some (tb us), some (tb es)]⟩) =
      some (.ext 2, ⟨[(3, st a), (4, st b), (5, i64 far), (6, bl (okMD a b)), (10, st k)], []⟩) := by
      intro far h
      obtain ⟨q1, q2, q3⟩ := htw h
      subst q3
      exact mE1 us a b k far (okMD a b) hus q1 q2 us.length 0 (by omega)
    clear hone htw
    have hsym := ds_symm b a
    have htri : ds a b ≤ ds a k + ds k b := Ds.D_tri _ _ _
    have hz0 := ds_zero (a := a) (b := b)
    have w1 := ds_b (a := a) (b := k) (by omega) (by omega)
    have w2 := ds_b (a := k) (b := b) (by omega) (by omega)
    have hab : okMD b a = okMD a b := by unfold okMD; rw [Bool.and_comm]
    have hak : okMD a b = true → okMD a k = okMarks k 0 5 ∧ okMD k b = okMarks k 0 5 := by
      intro h
      unfold okMD at h ⊢
      rw [Bool.and_eq_true] at h
      rw [h.1, h.2]
      simp
    rw [hab, hsym] at a3
    unfold tA at *
    unfold tb at *
    generalize okMD a b = ok at *
    generalize okMD a k = o1 at *
    generalize okMD k b = o2 at *
    generalize okMarks k 0 5 = ko at *
    generalize ds a b = d at *
    generalize ds a k = l at *
    generalize ds k b = r at *
    have w3 : IntKind.i64.wrap ((l : Int) + (r : Int)) = (l : Int) + (r : Int) := wr64 (by omega) (by omega)
    have w4 : (d : Int) ≤ (l : Int) + (r : Int) := by omega
    have w5 : (0 : Int) ≤ (l : Int) + (r : Int) := by omega
    generalize ns N = nn at *
    rw [g4]
    unfold runF
    cases one with
    | true =>
      have g0 := fun far => g0 far rfl
      cases tw with
      | true =>
        have g1 := fun far => g1 far rfl
        cases three with
        | false =>
          cases ok with
          | false =>
            rw [if_neg (by simp)] at a1 a2 a3
            simp (maxSteps := 2000000) -implicitDefEqProofs [L4, hb, dA, a1, a2, a3, dT, b1, b2, b3, dU, c1, c2, c3, dV, e1, e2, g0, g1]
          | true =>
            obtain ⟨q1, q2⟩ := hak rfl
            rw [q1] at f1
            rw [q2] at f2
            rw [if_pos rfl] at a1 a2 a3
            by_cases hne : a = b
            · have hd0 : d = 0 := hz0.2 hne
              subst hne hd0
              cases ko with
              | true =>
                simp (maxSteps := 2000000) -implicitDefEqProofs [L4, hb, dA, a1, a2, a3, dT, b1, b2, b3, dU, c1, c2, c3, dV, e1, e2, g0, g1, f1, f2, w3, w4, w5]
              | false =>
                simp (maxSteps := 2000000) -implicitDefEqProofs [L4, hb, dA, a1, a2, a3, dT, b1, b2, b3, dU, c1, c2, c3, dV, e1, e2, g0, g1, f1, f2, w3, w4, w5]
            · have hd0 : ¬ d = 0 := fun e => hne (hz0.1 e)
              have hd1 : ¬ (d : Int) = 0 := by omega
              cases ko with
              | true =>
                simp (maxSteps := 2000000) -implicitDefEqProofs [L4, hb, dA, a1, a2, a3, dT, b1, b2, b3, dU, c1, c2, c3, dV, e1, e2, g0, g1, hne, hd0, hd1, f1, f2, w3, w4, w5]
              | false =>
                simp (maxSteps := 2000000) -implicitDefEqProofs [L4, hb, dA, a1, a2, a3, dT, b1, b2, b3, dU, c1, c2, c3, dV, e1, e2, g0, g1, hne, hd0, hd1, f1, f2, w3, w4, w5]
        | true =>
          rcases he rfl with ⟨hsm, hdc⟩ | ⟨hsm, hdc⟩
          · subst hsm
            have hsm : True := trivial
            cases ok with
            | false =>
              rw [if_neg (by simp)] at a1 a2 a3
              simp (maxSteps := 2000000) -implicitDefEqProofs [L4, hb, dA, a1, a2, a3, dT, b1, b2, b3, dU, c1, c2, c3, dV, e1, e2, g0, g1, hdc, hsm]
            | true =>
              obtain ⟨q1, q2⟩ := hak rfl
              rw [q1] at f1
              rw [q2] at f2
              rw [if_pos rfl] at a1 a2 a3
              by_cases hne : a = b
              · have hd0 : d = 0 := hz0.2 hne
                subst hne hd0
                cases ko with
                | true =>
                  simp (maxSteps := 2000000) -implicitDefEqProofs [L4, hb, dA, a1, a2, a3, dT, b1, b2, b3, dU, c1, c2, c3, dV, e1, e2, g0, g1, hdc, hsm, f1, f2, w3, w4, w5]
                | false =>
                  simp (maxSteps := 2000000) -implicitDefEqProofs [L4, hb, dA, a1, a2, a3, dT, b1, b2, b3, dU, c1, c2, c3, dV, e1, e2, g0, g1, hdc, hsm, f1, f2, w3, w4, w5]
              · have hd0 : ¬ d = 0 := fun e => hne (hz0.1 e)
                have hd1 : ¬ (d : Int) = 0 := by omega
                cases ko with
                | true =>
                  simp (maxSteps := 2000000) -implicitDefEqProofs [L4, hb, dA, a1, a2, a3, dT, b1, b2, b3, dU, c1, c2, c3, dV, e1, e2, g0, g1, hdc, hsm, hne, hd0, hd1, f1, f2, w3, w4, w5]
                | false =>
                  simp (maxSteps := 2000000) -implicitDefEqProofs [L4, hb, dA, a1, a2, a3, dT, b1, b2, b3, dU, c1, c2, c3, dV, e1, e2, g0, g1, hdc, hsm, hne, hd0, hd1, f1, f2, w3, w4, w5]
          · have hsm2 : ¬ (sm : Int) = 0 := by omega
            cases ok with
            | false =>
              rw [if_neg (by simp)] at a1 a2 a3
              simp (maxSteps := 2000000) -implicitDefEqProofs [L4, hb, dA, a1, a2, a3, dT, b1, b2, b3, dU, c1, c2, c3, dV, e1, e2, g0, g1, hdc, hsm, hsm2]
            | true =>
              obtain ⟨q1, q2⟩ := hak rfl
              rw [q1] at f1
              rw [q2] at f2
              rw [if_pos rfl] at a1 a2 a3
              by_cases hne : a = b
              · have hd0 : d = 0 := hz0.2 hne
                subst hne hd0
                cases ko with
                | true =>
                  simp (maxSteps := 2000000) -implicitDefEqProofs [L4, hb, dA, a1, a2, a3, dT, b1, b2, b3, dU, c1, c2, c3, dV, e1, e2, g0, g1, hdc, hsm, hsm2, f1, f2, w3, w4, w5]
                | false =>
                  simp (maxSteps := 2000000) -implicitDefEqProofs [L4, hb, dA, a1, a2, a3, dT, b1, b2, b3, dU, c1, c2, c3, dV, e1, e2, g0, g1, hdc, hsm, hsm2, f1, f2, w3, w4, w5]
              · have hd0 : ¬ d = 0 := fun e => hne (hz0.1 e)
                have hd1 : ¬ (d : Int) = 0 := by omega
                cases ko with
                | true =>
                  simp (maxSteps := 2000000) -implicitDefEqProofs [L4, hb, dA, a1, a2, a3, dT, b1, b2, b3, dU, c1, c2, c3, dV, e1, e2, g0, g1, hdc, hsm, hsm2, hne, hd0, hd1, f1, f2, w3, w4, w5]
                | false =>
                  simp (maxSteps := 2000000) -implicitDefEqProofs [L4, hb, dA, a1, a2, a3, dT, b1, b2, b3, dU, c1, c2, c3, dV, e1, e2, g0, g1, hdc, hsm, hsm2, hne, hd0, hd1, f1, f2, w3, w4, w5]
      | false =>
        cases three with
        | false =>
          cases ok with
          | false =>
            rw [if_neg (by simp)] at a1 a2 a3
            simp (maxSteps := 2000000) -implicitDefEqProofs [L4, hb, dA, a1, a2, a3, dT, b1, b2, b3, dU, c1, c2, c3, dV, e1, e2, g0, g1]
          | true =>
            obtain ⟨q1, q2⟩ := hak rfl
            rw [q1] at f1
            rw [q2] at f2
            rw [if_pos rfl] at a1 a2 a3
            by_cases hne : a = b
            · have hd0 : d = 0 := hz0.2 hne
              subst hne hd0
              cases ko with
              | true =>
                simp (maxSteps := 2000000) -implicitDefEqProofs [L4, hb, dA, a1, a2, a3, dT, b1, b2, b3, dU, c1, c2, c3, dV, e1, e2, g0, g1, f1, f2, w3, w4, w5]
              | false =>
                simp (maxSteps := 2000000) -implicitDefEqProofs [L4, hb, dA, a1, a2, a3, dT, b1, b2, b3, dU, c1, c2, c3, dV, e1, e2, g0, g1, f1, f2, w3, w4, w5]
            · have hd0 : ¬ d = 0 := fun e => hne (hz0.1 e)
              have hd1 : ¬ (d : Int) = 0 := by omega
              cases ko with
              | true =>
                simp (maxSteps := 2000000) -implicitDefEqProofs [L4, hb, dA, a1, a2, a3, dT, b1, b2, b3, dU, c1, c2, c3, dV, e1, e2, g0, g1, hne, hd0, hd1, f1, f2, w3, w4, w5]
              | false =>
                simp (maxSteps := 2000000) -implicitDefEqProofs [L4, hb, dA, a1, a2, a3, dT, b1, b2, b3, dU, c1, c2, c3, dV, e1, e2, g0, g1, hne, hd0, hd1, f1, f2, w3, w4, w5]
        | true =>
          rcases he rfl with ⟨hsm, hdc⟩ | ⟨hsm, hdc⟩
          · subst hsm
            have hsm : True := trivial
            cases ok with
            | false =>
              rw [if_neg (by simp)] at a1 a2 a3
              simp (maxSteps := 2000000) -implicitDefEqProofs [L4, hb, dA, a1, a2, a3, dT, b1, b2, b3, dU, c1, c2, c3, dV, e1, e2, g0, g1, hdc, hsm]
            | true =>
              obtain ⟨q1, q2⟩ := hak rfl
              rw [q1] at f1
              rw [q2] at f2
              rw [if_pos rfl] at a1 a2 a3
              by_cases hne : a = b
              · have hd0 : d = 0 := hz0.2 hne
                subst hne hd0
                cases ko with
                | true =>
                  simp (maxSteps := 2000000) -implicitDefEqProofs [L4, hb, dA, a1, a2, a3, dT, b1, b2, b3, dU, c1, c2, c3, dV, e1, e2, g0, g1, hdc, hsm, f1, f2, w3, w4, w5]
                | false =>
                  simp (maxSteps := 2000000) -implicitDefEqProofs [L4, hb, dA, a1, a2, a3, dT, b1, b2, b3, dU, c1, c2, c3, dV, e1, e2, g0, g1, hdc, hsm, f1, f2, w3, w4, w5]
              · have hd0 : ¬ d = 0 := fun e => hne (hz0.1 e)
                have hd1 : ¬ (d : Int) = 0 := by omega
                cases ko with
                | true =>
                  simp (maxSteps := 2000000) -implicitDefEqProofs [L4, hb, dA, a1, a2, a3, dT, b1, b2, b3, dU, c1, c2, c3, dV, e1, e2, g0, g1, hdc, hsm, hne, hd0, hd1, f1, f2, w3, w4, w5]
                | false =>
                  simp (maxSteps := 2000000) -implicitDefEqProofs [L4, hb, dA, a1, a2, a3, dT, b1, b2, b3, dU, c1, c2, c3, dV, e1, e2, g0, g1, hdc, hsm, hne, hd0, hd1, f1, f2, w3, w4, w5]
          · have hsm2 : ¬ (sm : Int) = 0 := by omega
            cases ok with
            | false =>
              rw [if_neg (by simp)] at a1 a2 a3
              simp (maxSteps := 2000000) -implicitDefEqProofs [L4, hb, dA, a1, a2, a3, dT, b1, b2, b3, dU, c1, c2, c3, dV, e1, e2, g0, g1, hdc, hsm, hsm2]
            | true =>
              obtain ⟨q1, q2⟩ := hak rfl
              rw [q1] at f1
              rw [q2] at f2
              rw [if_pos rfl] at a1 a2 a3
              by_cases hne : a = b
              · have hd0 : d = 0 := hz0.2 hne
                subst hne hd0
                cases ko with
                | true =>
                  simp (maxSteps := 2000000) -implicitDefEqProofs [L4, hb, dA, a1, a2, a3, dT, b1, b2, b3, dU, c1, c2, c3, dV, e1, e2, g0, g1, hdc, hsm, hsm2, f1, f2, w3, w4, w5]
                | false =>
                  simp (maxSteps := 2000000) -implicitDefEqProofs [L4, hb, dA, a1, a2, a3, dT, b1, b2, b3, dU, c1, c2, c3, dV, e1, e2, g0, g1, hdc, hsm, hsm2, f1, f2, w3, w4, w5]
              · have hd0 : ¬ d = 0 := fun e => hne (hz0.1 e)
                have hd1 : ¬ (d : Int) = 0 := by omega
                cases ko with
                | true =>
                  simp (maxSteps := 2000000) -implicitDefEqProofs [L4, hb, dA, a1, a2, a3, dT, b1, b2, b3, dU, c1, c2, c3, dV, e1, e2, g0, g1, hdc, hsm, hsm2, hne, hd0, hd1, f1, f2, w3, w4, w5]
                | false =>
                  simp (maxSteps := 2000000) -implicitDefEqProofs [L4, hb, dA, a1, a2, a3, dT, b1, b2, b3, dU, c1, c2, c3, dV, e1, e2, g0, g1, hdc, hsm, hsm2, hne, hd0, hd1, f1, f2, w3, w4, w5]
    | false =>
      cases tw with
      | true =>
        have g1 := fun far => g1 far rfl
        cases three with
        | false =>
          cases ok with
          | false =>
            rw [if_neg (by simp)] at a1 a2 a3
            simp (maxSteps := 2000000) -implicitDefEqProofs [L4, hb, dA, a1, a2, a3, dT, b1, b2, b3, dU, c1, c2, c3, dV, e1, e2, g0, g1]
          | true =>
            obtain ⟨q1, q2⟩ := hak rfl
            rw [q1] at f1
            rw [q2] at f2
            rw [if_pos rfl] at a1 a2 a3
            by_cases hne : a = b
            · have hd0 : d = 0 := hz0.2 hne
              subst hne hd0
              cases ko with
              | true =>
                simp (maxSteps := 2000000) -implicitDefEqProofs [L4, hb, dA, a1, a2, a3, dT, b1, b2, b3, dU, c1, c2, c3, dV, e1, e2, g0, g1, f1, f2, w3, w4, w5]
              | false =>
                simp (maxSteps := 2000000) -implicitDefEqProofs [L4, hb, dA, a1, a2, a3, dT, b1, b2, b3, dU, c1, c2, c3, dV, e1, e2, g0, g1, f1, f2, w3, w4, w5]
            · have hd0 : ¬ d = 0 := fun e => hne (hz0.1 e)
              have hd1 : ¬ (d : Int) = 0 := by omega
              cases ko with
              | true =>
                simp (maxSteps := 2000000) -implicitDefEqProofs [L4, hb, dA, a1, a2, a3, dT, b1, b2, b3, dU, c1, c2, c3, dV, e1, e2, g0, g1, hne, hd0, hd1, f1, f2, w3, w4, w5]
              | false =>
                simp (maxSteps := 2000000) -implicitDefEqProofs [L4, hb, dA, a1, a2, a3, dT, b1, b2, b3, dU, c1, c2, c3, dV, e1, e2, g0, g1, hne, hd0, hd1, f1, f2, w3, w4, w5]
        | true =>
          rcases he rfl with ⟨hsm, hdc⟩ | ⟨hsm, hdc⟩
          · subst hsm
            have hsm : True := trivial
            cases ok with
            | false =>
              rw [if_neg (by simp)] at a1 a2 a3
              simp (maxSteps := 2000000) -implicitDefEqProofs [L4, hb, dA, a1, a2, a3, dT, b1, b2, b3, dU, c1, c2, c3, dV, e1, e2, g0, g1, hdc, hsm]
            | true =>
              obtain ⟨q1, q2⟩ := hak rfl
              rw [q1] at f1
              rw [q2] at f2
              rw [if_pos rfl] at a1 a2 a3
              by_cases hne : a = b
              · have hd0 : d = 0 := hz0.2 hne
                subst hne hd0
                cases ko with
                | true =>
                  simp (maxSteps := 2000000) -implicitDefEqProofs [L4, hb, dA, a1, a2, a3, dT, b1, b2, b3, dU, c1, c2, c3, dV, e1, e2, g0, g1, hdc, hsm, f1, f2, w3, w4, w5]
                | false =>
                  simp (maxSteps := 2000000) -implicitDefEqProofs [L4, hb, dA, a1, a2, a3, dT, b1, b2, b3, dU, c1, c2, c3, dV, e1, e2, g0, g1, hdc, hsm, f1, f2, w3, w4, w5]
              · have hd0 : ¬ d = 0 := fun e => hne (hz0.1 e)
                have hd1 : ¬ (d : Int) = 0 := by omega
                cases ko with
                | true =>
                  simp (maxSteps := 2000000) -implicitDefEqProofs [L4, hb, dA, a1, a2, a3, dT, b1, b2, b3, dU, c1, c2, c3, dV, e1, e2, g0, g1, hdc, hsm, hne, hd0, hd1, f1, f2, w3, w4, w5]
                | false =>
                  simp (maxSteps := 2000000) -implicitDefEqProofs [L4, hb, dA, a1, a2, a3, dT, b1, b2, b3, dU, c1, c2, c3, dV, e1, e2, g0, g1, hdc, hsm, hne, hd0, hd1, f1, f2, w3, w4, w5]
          · have hsm2 : ¬ (sm : Int) = 0 := by omega
            cases ok with
            | false =>
              rw [if_neg (by simp)] at a1 a2 a3
              simp (maxSteps := 2000000) -implicitDefEqProofs [L4, hb, dA, a1, a2, a3, dT, b1, b2, b3, dU, c1, c2, c3, dV, e1, e2, g0, g1, hdc, hsm, hsm2]
            | true =>
              obtain ⟨q1, q2⟩ := hak rfl
              rw [q1] at f1
              rw [q2] at f2
              rw [if_pos rfl] at a1 a2 a3
              by_cases hne : a = b
              · have hd0 : d = 0 := hz0.2 hne
                subst hne hd0
                cases ko with
                | true =>
                  simp (maxSteps := 2000000) -implicitDefEqProofs [L4, hb, dA, a1, a2, a3, dT, b1, b2, b3, dU, c1, c2, c3, dV, e1, e2, g0, g1, hdc, hsm, hsm2, f1, f2, w3, w4, w5]
                | false =>
                  simp (maxSteps := 2000000) -implicitDefEqProofs [L4, hb, dA, a1, a2, a3, dT, b1, b2, b3, dU, c1, c2, c3, dV, e1, e2, g0, g1, hdc, hsm, hsm2, f1, f2, w3, w4, w5]
              · have hd0 : ¬ d = 0 := fun e => hne (hz0.1 e)
                have hd1 : ¬ (d : Int) = 0 := by omega
                cases ko with
                | true =>
                  simp (maxSteps := 2000000) -implicitDefEqProofs [L4, hb, dA, a1, a2, a3, dT, b1, b2, b3, dU, c1, c2, c3, dV, e1, e2, g0, g1, hdc, hsm, hsm2, hne, hd0, hd1, f1, f2, w3, w4, w5]
                | false =>
                  simp (maxSteps := 2000000) -implicitDefEqProofs [L4, hb, dA, a1, a2, a3, dT, b1, b2, b3, dU, c1, c2, c3, dV, e1, e2, g0, g1, hdc, hsm, hsm2, hne, hd0, hd1, f1, f2, w3, w4, w5]
      | false =>
        cases three with
        | false =>
          cases ok with
          | false =>
            rw [if_neg (by simp)] at a1 a2 a3
            simp (maxSteps := 2000000) -implicitDefEqProofs [L4, hb, dA, a1, a2, a3, dT, b1, b2, b3, dU, c1, c2, c3, dV, e1, e2, g0, g1]
          | true =>
            obtain ⟨q1, q2⟩ := hak rfl
            rw [q1] at f1
            rw [q2] at f2
            rw [if_pos rfl] at a1 a2 a3
            by_cases hne : a = b
            · have hd0 : d = 0 := hz0.2 hne
              subst hne hd0
              cases ko with
              | true =>
                simp (maxSteps := 2000000) -implicitDefEqProofs [L4, hb, dA, a1, a2, a3, dT, b1, b2, b3, dU, c1, c2, c3, dV, e1, e2, g0, g1, f1, f2, w3, w4, w5]
              | false =>
                simp (maxSteps := 2000000) -implicitDefEqProofs [L4, hb, dA, a1, a2, a3, dT, b1, b2, b3, dU, c1, c2, c3, dV, e1, e2, g0, g1, f1, f2, w3, w4, w5]
            · have hd0 : ¬ d = 0 := fun e => hne (hz0.1 e)
              have hd1 : ¬ (d : Int) = 0 := by omega
              cases ko with
              | true =>
                simp (maxSteps := 2000000) -implicitDefEqProofs [L4, hb, dA, a1, a2, a3, dT, b1, b2, b3, dU, c1, c2, c3, dV, e1, e2, g0, g1, hne, hd0, hd1, f1, f2, w3, w4, w5]
              | false =>
                simp (maxSteps := 2000000) -implicitDefEqProofs [L4, hb, dA, a1, a2, a3, dT, b1, b2, b3, dU, c1, c2, c3, dV, e1, e2, g0, g1, hne, hd0, hd1, f1, f2, w3, w4, w5]
        | true =>
          rcases he rfl with ⟨hsm, hdc⟩ | ⟨hsm, hdc⟩
          · subst hsm
            have hsm : True := trivial
            cases ok with
            | false =>
              rw [if_neg (by simp)] at a1 a2 a3
              simp (maxSteps := 2000000) -implicitDefEqProofs [L4, hb, dA, a1, a2, a3, dT, b1, b2, b3, dU, c1, c2, c3, dV, e1, e2, g0, g1, hdc, hsm]
            | true =>
              obtain ⟨q1, q2⟩ := hak rfl
              rw [q1] at f1
              rw [q2] at f2
              rw [if_pos rfl] at a1 a2 a3
              by_cases hne : a = b
              · have hd0 : d = 0 := hz0.2 hne
                subst hne hd0
                cases ko with
                | true =>
                  simp (maxSteps := 2000000) -implicitDefEqProofs [L4, hb, dA, a1, a2, a3, dT, b1, b2, b3, dU, c1, c2, c3, dV, e1, e2, g0, g1, hdc, hsm, f1, f2, w3, w4, w5]
                | false =>
                  simp (maxSteps := 2000000) -implicitDefEqProofs [L4, hb, dA, a1, a2, a3, dT, b1, b2, b3, dU, c1, c2, c3, dV, e1, e2, g0, g1, hdc, hsm, f1, f2, w3, w4, w5]
              · have hd0 : ¬ d = 0 := fun e => hne (hz0.1 e)
                have hd1 : ¬ (d : Int) = 0 := by omega
                cases ko with
                | true =>
                  simp (maxSteps := 2000000) -implicitDefEqProofs [L4, hb, dA, a1, a2, a3, dT, b1, b2, b3, dU, c1, c2, c3, dV, e1, e2, g0, g1, hdc, hsm, hne, hd0, hd1, f1, f2, w3, w4, w5]
                | false =>
                  simp (maxSteps := 2000000) -implicitDefEqProofs [L4, hb, dA, a1, a2, a3, dT, b1, b2, b3, dU, c1, c2, c3, dV, e1, e2, g0, g1, hdc, hsm, hne, hd0, hd1, f1, f2, w3, w4, w5]
          · have hsm2 : ¬ (sm : Int) = 0 := by omega
            cases ok with
            | false =>
              rw [if_neg (by simp)] at a1 a2 a3
              simp (maxSteps := 2000000) -implicitDefEqProofs [L4, hb, dA, a1, a2, a3, dT, b1, b2, b3, dU, c1, c2, c3, dV, e1, e2, g0, g1, hdc, hsm, hsm2]
            | true =>
              obtain ⟨q1, q2⟩ := hak rfl
              rw [q1] at f1
              rw [q2] at f2
              rw [if_pos rfl] at a1 a2 a3
              by_cases hne : a = b
              · have hd0 : d = 0 := hz0.2 hne
                subst hne hd0
                cases ko with
                | true =>
                  simp (maxSteps := 2000000) -implicitDefEqProofs [L4, hb, dA, a1, a2, a3, dT, b1, b2, b3, dU, c1, c2, c3, dV, e1, e2, g0, g1, hdc, hsm, hsm2, f1, f2, w3, w4, w5]
                | false =>
                  simp (maxSteps := 2000000) -implicitDefEqProofs [L4, hb, dA, a1, a2, a3, dT, b1, b2, b3, dU, c1, c2, c3, dV, e1, e2, g0, g1, hdc, hsm, hsm2, f1, f2, w3, w4, w5]
              · have hd0 : ¬ d = 0 := fun e => hne (hz0.1 e)
                have hd1 : ¬ (d : Int) = 0 := by omega
                cases ko with
                | true =>
                  simp (maxSteps := 2000000) -implicitDefEqProofs [L4, hb, dA, a1, a2, a3, dT, b1, b2, b3, dU, c1, c2, c3, dV, e1, e2, g0, g1, hdc, hsm, hsm2, hne, hd0, hd1, f1, f2, w3, w4, w5]
                | false =>
                  simp (maxSteps := 2000000) -implicitDefEqProofs [L4, hb, dA, a1, a2, a3, dT, b1, b2, b3, dU, c1, c2, c3, dV, e1, e2, g0, g1, hdc, hsm, hsm2, hne, hd0, hd1, f1, f2, w3, w4, w5]
end Go.Proofs.YtodcochnciadjaaDoor.Ev
