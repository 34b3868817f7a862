/- FnKeyed: the law, run by the evaluator, answers true. -/
import Derived.Test.YtkdfgjijmnaljaaEvKeyedT
set_option linter.unusedVariables false
set_option linter.unusedSimpArgs false
set_option maxRecDepth 20000
namespace Go.Proofs.Ytkdfgjijmnaljaa.Ev
open Ky Dr
set_option maxHeartbeats 8000000 in
theorem FnKeyed (x0 : List Int) (b0 : x0.length ≤ maxLen ∧ ∀ y ∈ x0, (Lit.int .u8 y).wf = true) : ev E1 3 [(AV.lst 1 (x0.map (fun q : Int => (AV.v (.int .u8 q)))))] [] = some (bl true, []) := by
  obtain ⟨hl0, hw0⟩ := b0
  show ev E1 3 [.lst 1 (cd x0)] [] = _
  have hbig := two_vbig x0
  rw [g3]
  unfold runF
  by_cases hb : (65536 : Int) < (x0.length : Int)
  · rw [decide_eq_true hb] at hbig
    simp -implicitDefEqProofs [L3, hbig]
  · rw [decide_eq_false hb] at hbig
    have hx : okC x0 := okC_of (by omega) hw0
    have hx65 : x0.length ≤ 65536 := by omega
    have k1 := two_vcut x0 hx hx65 1 (by omega)
    have k2 := two_vcut x0 hx hx65 2 (by omega)
    rw [show ((1 : Nat) : Int) = 1 from rfl] at k1
    rw [show ((2 : Nat) : Int) = 2 from rfl] at k2
    obtain ⟨l, n, z1, d1⟩ := two_drawFill x0 hx
    obtain ⟨a, up, b, z2, z3, d2⟩ := two_drawJoin (cutD x0 1) (cutD_ok hx hx65 1 (by omega))
    obtain ⟨u, p, q, z4, d3⟩ := two_drawStretch (cutD x0 2) (cutD_ok hx hx65 2 (by omega))
    have p1 := two_impl_FillShort l n (by omega)
    have p2 := two_spec_FillShort l n (by omega)
    have p3 := two_impl_DropShort l n (by omega)
    have p4 := two_spec_DropShort l n (by omega)
    have p5 := two_impl_BackTrace l (by omega)
    have p6 := two_spec_BackTrace l (by omega)
    have p7 := two_impl_JoinTraces a up b (by omega) (by omega)
    have p8 := two_spec_JoinTraces a up b (by omega) (by omega)
    have p9 := two_impl_StretchTrace u p q (by omega)
    have p10 := two_spec_StretchTrace u p q (by omega)
    -- what stands behind each flag
    have hback : okTr l = true → ev E1 10 [.lst 1 (i64s l.reverse)] [] = some (.tup [.lst 1 (i64s l), bl true], []) := by
      intro h
      have e := two_impl_BackTrace l.reverse (by rw [List.length_reverse]; omega)
      rw [okTr_rev, h, List.reverse_reverse] at e
      exact e
    have hok : (okTr l && okLen n && okTr (fillT n l)) = true → okTr l = true ∧ (∀ x ∈ l, 1 ≤ x ∧ x ≤ 999) ∧ l.length ≤ 143 ∧ (∀ x ∈ fillT n l, 1 ≤ x ∧ x ≤ 999) ∧ (fillT n l).length ≤ 143 ∧ sum (fillT n l) = sum l ∧ odE n false (fillT n l) = true ∧
        ev E1 6 [.lst 1 (i64s l.reverse), i64 n] [] = some (.tup [.lst 1 (i64s (fillT n l).reverse), bl true], []) ∧
        ev E1 10 [.lst 1 (i64s (fillT n l))] [] = some (.tup [.lst 1 (i64s (fillT n l).reverse), bl true], []) := by
      intro h
      rw [Bool.and_eq_true, Bool.and_eq_true] at h
      obtain ⟨⟨h1, h2⟩, h3⟩ := h
      obtain ⟨b1, b2, b3⟩ := okTr_b h1
      obtain ⟨c1, c2, c3⟩ := okTr_b h3
      have hr : fillT n l.reverse = (fillT n l).reverse := fillT_rev n (l.length / 2) l (by omega)
      have e1 := two_impl_FillShort l.reverse n (by rw [List.length_reverse]; omega)
      rw [okTr_rev, h1, h2, hr, okTr_rev, h3] at e1
      have e2 := two_impl_BackTrace (fillT n l) (by omega)
      rw [h3] at e2
      have ho : odds n (fillT n l) = true := by
        cases l with
        | nil => rfl
        | cons c r => exact fill_odds n r.length c r (Nat.le_refl _)
      exact ⟨h1, b1, b3, c1, c3, fillT_sum n l b2, odE_odds n _ _ (Nat.le_refl _) ho, e1, e2⟩
    have hfine : (okTr l && okLen n && okTr (dr n [] 0 false l)) = true → okTr l = true ∧ (dr n [] 0 false l).length ≤ 143 ∧ evens n (dr n [] 0 false l) = true ∧
        ev E1 8 [.lst 1 (i64s (dr n [] 0 false l)), i64 n] [] = some (.tup [.lst 1 (i64s (dr n [] 0 false l)), bl true], []) := by
      intro h
      rw [Bool.and_eq_true, Bool.and_eq_true] at h
      obtain ⟨⟨h1, h2⟩, h3⟩ := h
      obtain ⟨c1, c2, c3⟩ := okTr_b h3
      have he := dr_evens n l [] 0 false (.inl rfl) rfl
      have hid := dr_id n _ c2 he
      have e1 := two_impl_DropShort (dr n [] 0 false l) n (by omega)
      rw [hid, h3, h2] at e1
      exact ⟨h1, c3, he, e1⟩
    have hone : (okTr a && (okTr b && okLen up) && okTr (a ++ up :: b)) = true → (i64s (a ++ up :: b)).length = a.length + b.length + 1 ∧ (∀ h, (i64s (a ++ up :: b))[a.length]'h = i64 up) ∧ IntKind.i64.wrap ((a.length : Int) + (b.length : Int)) = (a.length : Int) + (b.length : Int) ∧ IntKind.i64.wrap ((a.length : Int) + (b.length : Int) + 1) = (a.length : Int) + (b.length : Int) + 1 ∧ (a.length : Int) < (a.length : Int) + (b.length : Int) + 1 ∧ a.length < a.length + b.length + 1 := by
      intro _
      exact ⟨by rw [i64s_len, List.length_append, List.length_cons]; omega, i64s_at (by rw [List.length_append, List.length_cons]; omega) (by simp), wr64 (by omega) (by omega), wr64 (by omega) (by omega), by omega, by omega⟩
    have htwo : (okTr u && (okUnit p && okUnit q) && okTr (u.map (strF p q))) = true → packX 0 [2, 24, 27] (loopW (bd E1 (ev E1) loopW 0 [24, 25, 26, 27, 44] L3b3) ⟨[(24, .lst 1 (i64s u)), (25, i64 p), (26, i64 q), (27, .lst 1 (i64s (u.map (strF p q)))), (44, i64 0)], []⟩) = some (.ext 6, ⟨[(24, .lst 1 (i64s u)), (27, .lst 1 (i64s (u.map (strF p q))))], []⟩) ∧ (i64s (u.map (strF p q))).length = u.length ∧ (i64s u).length = u.length := by
      intro h
      rw [Bool.and_eq_true, Bool.and_eq_true, Bool.and_eq_true] at h
      obtain ⟨⟨h1, h2, h3⟩, h4⟩ := h
      obtain ⟨c1, c2, c3⟩ := okTr_b h1
      unfold okUnit at h2 h3
      rw [Bool.and_eq_true, decide_eq_true_eq, decide_eq_true_eq] at h2 h3
      exact ⟨out_loop u c3 c1 p q h2 h3 u 0 rfl, by rw [i64s_len, List.length_map], i64s_len u⟩
    have vF := two_vints (fillT n l)
    have vR := two_vints (fillT n l).reverse
    have vD := two_vints (dr n [] 0 false l)
    have vB := two_vints l.reverse (by rw [List.length_reverse]; omega)
    have vL := two_vints l (by omega)
    have vJ := two_vints (a ++ up :: b) (by rw [List.length_append, List.length_cons]; omega)
    have vO := two_vints (u.map (strF p q)) (by rw [List.length_map]; omega)
    have v0 := two_vints [] (by simp)
    rw [i64s_nil] at v0
    have hla := i64s_len a
    have hlb := i64s_len b
    have own := fun h1 h2 c r => own_loop (fillT n l) h1 h2 n up p q c r
    unfold val at p1 p2 p3 p4 p5 p6 p7 p8 p9 p10
    rw [List.length_reverse] at vR
    cases there : okTr l with
    | false =>
      have hokf : (okTr l && okLen n && okTr (fillT n l)) = false := by rw [there]; rfl
      have hfif : (okTr l && okLen n && okTr (dr n [] 0 false l)) = false := by rw [there]; rfl
      rw [hokf] at p1 p2
      rw [hfif] at p3 p4
      rw [there] at p5 p6
      cases one : (okTr a && (okTr b && okLen up) && okTr (a ++ up :: b)) with
      | false =>
        rw [one] at p7 p8
        cases two : (okTr u && (okUnit p && okUnit q) && okTr (u.map (strF p q))) with
        | false =>
          rw [two] at p9 p10
          simp only [if_true, Bool.false_eq_true, if_false, i64s_nil] at p1 p2 p3 p4 p5 p6 p7 p8 p9 p10
          generalize i64s a = Aa at *
          generalize i64s b = Bb at *
          generalize i64s u = Uu at *
          generalize i64s l = Ll at *
          skip
          simp (maxSteps := 1000000) -implicitDefEqProofs [L3, hbig, k1, k2, d1, d2, d3, p1, p2, p3, p4, p5, p6, p7, p8, p9, p10, v0, hla, hlb]
        | true =>
          rw [two] at p9 p10
          obtain ⟨o1, o2, o3⟩ := htwo two
          simp only [if_true, Bool.false_eq_true, if_false, i64s_nil] at p1 p2 p3 p4 p5 p6 p7 p8 p9 p10
          generalize i64s (u.map (strF p q)) = O at *
          generalize i64s a = Aa at *
          generalize i64s b = Bb at *
          generalize i64s u = Uu at *
          generalize i64s l = Ll at *
          skip
          simp (maxSteps := 1000000) -implicitDefEqProofs [L3, hbig, k1, k2, d1, d2, d3, p1, p2, p3, p4, p5, p6, p7, p8, p9, p10, v0, hla, hlb, vO, o1, o2, o3]
      | true =>
        rw [one] at p7 p8
        obtain ⟨j1, j2, j3, j4, j5, j6⟩ := hone one
        cases two : (okTr u && (okUnit p && okUnit q) && okTr (u.map (strF p q))) with
        | false =>
          rw [two] at p9 p10
          simp only [if_true, Bool.false_eq_true, if_false, i64s_nil] at p1 p2 p3 p4 p5 p6 p7 p8 p9 p10
          generalize i64s (a ++ up :: b) = J at *
          generalize i64s a = Aa at *
          generalize i64s b = Bb at *
          generalize i64s u = Uu at *
          generalize i64s l = Ll at *
          skip
          simp (maxSteps := 1000000) -implicitDefEqProofs [L3, hbig, k1, k2, d1, d2, d3, p1, p2, p3, p4, p5, p6, p7, p8, p9, p10, v0, hla, hlb, vJ, j1, j2, j3, j4, j5, j6]
        | true =>
          rw [two] at p9 p10
          obtain ⟨o1, o2, o3⟩ := htwo two
          simp only [if_true, Bool.false_eq_true, if_false, i64s_nil] at p1 p2 p3 p4 p5 p6 p7 p8 p9 p10
          generalize i64s (a ++ up :: b) = J at *
          generalize i64s (u.map (strF p q)) = O at *
          generalize i64s a = Aa at *
          generalize i64s b = Bb at *
          generalize i64s u = Uu at *
          generalize i64s l = Ll at *
          skip
          simp (maxSteps := 1000000) -implicitDefEqProofs [L3, hbig, k1, k2, d1, d2, d3, p1, p2, p3, p4, p5, p6, p7, p8, p9, p10, v0, hla, hlb, vJ, j1, j2, j3, j4, j5, j6, vO, o1, o2, o3]
    | true =>
      have hb1 := hback there
      rw [there] at p5 p6
      cases ok : (okTr l && okLen n && okTr (fillT n l)) with
      | false =>
        rw [ok] at p1 p2
        cases fine : (okTr l && okLen n && okTr (dr n [] 0 false l)) with
        | false =>
          rw [fine] at p3 p4
          cases one : (okTr a && (okTr b && okLen up) && okTr (a ++ up :: b)) with
          | false =>
            rw [one] at p7 p8
            cases two : (okTr u && (okUnit p && okUnit q) && okTr (u.map (strF p q))) with
            | false =>
              rw [two] at p9 p10
              simp only [if_true, Bool.false_eq_true, if_false, i64s_nil] at p1 p2 p3 p4 p5 p6 p7 p8 p9 p10
              generalize i64s l.reverse = Br at *
              generalize i64s a = Aa at *
              generalize i64s b = Bb at *
              generalize i64s u = Uu at *
              generalize i64s l = Ll at *
              skip
              simp (maxSteps := 1000000) -implicitDefEqProofs [L3, hbig, k1, k2, d1, d2, d3, p1, p2, p3, p4, p5, p6, p7, p8, p9, p10, v0, hla, hlb, vB, hb1, vL]
            | true =>
              rw [two] at p9 p10
              obtain ⟨o1, o2, o3⟩ := htwo two
              simp only [if_true, Bool.false_eq_true, if_false, i64s_nil] at p1 p2 p3 p4 p5 p6 p7 p8 p9 p10
              generalize i64s (u.map (strF p q)) = O at *
              generalize i64s l.reverse = Br at *
              generalize i64s a = Aa at *
              generalize i64s b = Bb at *
              generalize i64s u = Uu at *
              generalize i64s l = Ll at *
              skip
              simp (maxSteps := 1000000) -implicitDefEqProofs [L3, hbig, k1, k2, d1, d2, d3, p1, p2, p3, p4, p5, p6, p7, p8, p9, p10, v0, hla, hlb, vB, hb1, vL, vO, o1, o2, o3]
          | true =>
            rw [one] at p7 p8
            obtain ⟨j1, j2, j3, j4, j5, j6⟩ := hone one
            cases two : (okTr u && (okUnit p && okUnit q) && okTr (u.map (strF p q))) with
            | false =>
              rw [two] at p9 p10
              simp only [if_true, Bool.false_eq_true, if_false, i64s_nil] at p1 p2 p3 p4 p5 p6 p7 p8 p9 p10
              generalize i64s (a ++ up :: b) = J at *
              generalize i64s l.reverse = Br at *
              generalize i64s a = Aa at *
              generalize i64s b = Bb at *
              generalize i64s u = Uu at *
              generalize i64s l = Ll at *
              skip
              simp (maxSteps := 1000000) -implicitDefEqProofs [L3, hbig, k1, k2, d1, d2, d3, p1, p2, p3, p4, p5, p6, p7, p8, p9, p10, v0, hla, hlb, vB, hb1, vL, vJ, j1, j2, j3, j4, j5, j6]
            | true =>
              rw [two] at p9 p10
              obtain ⟨o1, o2, o3⟩ := htwo two
              simp only [if_true, Bool.false_eq_true, if_false, i64s_nil] at p1 p2 p3 p4 p5 p6 p7 p8 p9 p10
              generalize i64s (a ++ up :: b) = J at *
              generalize i64s (u.map (strF p q)) = O at *
              generalize i64s l.reverse = Br at *
              generalize i64s a = Aa at *
              generalize i64s b = Bb at *
              generalize i64s u = Uu at *
              generalize i64s l = Ll at *
              skip
              simp (maxSteps := 1000000) -implicitDefEqProofs [L3, hbig, k1, k2, d1, d2, d3, p1, p2, p3, p4, p5, p6, p7, p8, p9, p10, v0, hla, hlb, vB, hb1, vL, vJ, j1, j2, j3, j4, j5, j6, vO, o1, o2, o3]
        | true =>
          rw [fine] at p3 p4
          obtain ⟨_, hd143, heven, t3⟩ := hfine fine
          have vD' := vD (by omega)
          cases one : (okTr a && (okTr b && okLen up) && okTr (a ++ up :: b)) with
          | false =>
            rw [one] at p7 p8
            cases two : (okTr u && (okUnit p && okUnit q) && okTr (u.map (strF p q))) with
            | false =>
              rw [two] at p9 p10
              simp only [if_true, Bool.false_eq_true, if_false, i64s_nil] at p1 p2 p3 p4 p5 p6 p7 p8 p9 p10
              generalize i64s l.reverse = Br at *
              have ev1 := even_loop (dr n [] 0 false l) hd143 n up p q false false (i64s a) (i64s b) [] (i64s u) [] _ (dr n [] 0 false l) 0 (Nat.le_refl _) rfl heven
              rw [c0] at ev1
              generalize i64s (dr n [] 0 false l) = D at *
              generalize i64s a = Aa at *
              generalize i64s b = Bb at *
              generalize i64s u = Uu at *
              generalize i64s l = Ll at *
              skip
              simp (maxSteps := 1000000) -implicitDefEqProofs [L3, hbig, k1, k2, d1, d2, d3, p1, p2, p3, p4, p5, p6, p7, p8, p9, p10, v0, hla, hlb, vB, hb1, vL, vD', ev1, t3]
            | true =>
              rw [two] at p9 p10
              obtain ⟨o1, o2, o3⟩ := htwo two
              simp only [if_true, Bool.false_eq_true, if_false, i64s_nil] at p1 p2 p3 p4 p5 p6 p7 p8 p9 p10
              generalize i64s (u.map (strF p q)) = O at *
              generalize i64s l.reverse = Br at *
              have ev1 := even_loop (dr n [] 0 false l) hd143 n up p q false true (i64s a) (i64s b) [] (i64s u) O _ (dr n [] 0 false l) 0 (Nat.le_refl _) rfl heven
              rw [c0] at ev1
              generalize i64s (dr n [] 0 false l) = D at *
              generalize i64s a = Aa at *
              generalize i64s b = Bb at *
              generalize i64s u = Uu at *
              generalize i64s l = Ll at *
              skip
              simp (maxSteps := 1000000) -implicitDefEqProofs [L3, hbig, k1, k2, d1, d2, d3, p1, p2, p3, p4, p5, p6, p7, p8, p9, p10, v0, hla, hlb, vB, hb1, vL, vD', ev1, t3, vO, o1, o2, o3]
          | true =>
            rw [one] at p7 p8
            obtain ⟨j1, j2, j3, j4, j5, j6⟩ := hone one
            cases two : (okTr u && (okUnit p && okUnit q) && okTr (u.map (strF p q))) with
            | false =>
              rw [two] at p9 p10
              simp only [if_true, Bool.false_eq_true, if_false, i64s_nil] at p1 p2 p3 p4 p5 p6 p7 p8 p9 p10
              generalize i64s (a ++ up :: b) = J at *
              generalize i64s l.reverse = Br at *
              have ev1 := even_loop (dr n [] 0 false l) hd143 n up p q true false (i64s a) (i64s b) J (i64s u) [] _ (dr n [] 0 false l) 0 (Nat.le_refl _) rfl heven
              rw [c0] at ev1
              generalize i64s (dr n [] 0 false l) = D at *
              generalize i64s a = Aa at *
              generalize i64s b = Bb at *
              generalize i64s u = Uu at *
              generalize i64s l = Ll at *
              skip
              simp (maxSteps := 1000000) -implicitDefEqProofs [L3, hbig, k1, k2, d1, d2, d3, p1, p2, p3, p4, p5, p6, p7, p8, p9, p10, v0, hla, hlb, vB, hb1, vL, vD', ev1, t3, vJ, j1, j2, j3, j4, j5, j6]
            | true =>
              rw [two] at p9 p10
              obtain ⟨o1, o2, o3⟩ := htwo two
              simp only [if_true, Bool.false_eq_true, if_false, i64s_nil] at p1 p2 p3 p4 p5 p6 p7 p8 p9 p10
              generalize i64s (a ++ up :: b) = J at *
              generalize i64s (u.map (strF p q)) = O at *
              generalize i64s l.reverse = Br at *
              have ev1 := even_loop (dr n [] 0 false l) hd143 n up p q true true (i64s a) (i64s b) J (i64s u) O _ (dr n [] 0 false l) 0 (Nat.le_refl _) rfl heven
              rw [c0] at ev1
              generalize i64s (dr n [] 0 false l) = D at *
              generalize i64s a = Aa at *
              generalize i64s b = Bb at *
              generalize i64s u = Uu at *
              generalize i64s l = Ll at *
              skip
              simp (maxSteps := 1000000) -implicitDefEqProofs [L3, hbig, k1, k2, d1, d2, d3, p1, p2, p3, p4, p5, p6, p7, p8, p9, p10, v0, hla, hlb, vB, hb1, vL, vD', ev1, t3, vJ, j1, j2, j3, j4, j5, j6, vO, o1, o2, o3]
      | true =>
        rw [ok] at p1 p2
        obtain ⟨_, hlb1, hl143, hfb, hf143, hsum, hodd, t1, t2⟩ := hok ok
        have vF' := vF (by omega)
        have vR' := vR (by omega)
        cases fine : (okTr l && okLen n && okTr (dr n [] 0 false l)) with
        | false =>
          rw [fine] at p3 p4
          cases one : (okTr a && (okTr b && okLen up) && okTr (a ++ up :: b)) with
          | false =>
            rw [one] at p7 p8
            cases two : (okTr u && (okUnit p && okUnit q) && okTr (u.map (strF p q))) with
            | false =>
              rw [two] at p9 p10
              simp only [if_true, Bool.false_eq_true, if_false, i64s_nil] at p1 p2 p3 p4 p5 p6 p7 p8 p9 p10
              generalize i64s l.reverse = Br at *
              generalize i64s (fillT n l).reverse = Fr at *
              have s1 := sum_loop l hl143 hlb1 n up p q 0 false false false (i64s (fillT n l)) [] Br (i64s a) (i64s b) [] (i64s u) [] l 0 0 rfl (by omega) (by omega)
              have s2 := own_loop (fillT n l) hf143 hfb n up p q (0 + sum l) false false false [] Br (i64s a) (i64s b) [] (i64s u) [] (fillT n l) 0 0 rfl hodd (by omega) (by omega)
              rw [c0] at s1 s2
              rw [hsum] at s2
              simp only [Int.zero_add] at s1 s2
              generalize i64s (fillT n l) = F at *
              generalize i64s a = Aa at *
              generalize i64s b = Bb at *
              generalize i64s u = Uu at *
              generalize i64s l = Ll at *
              generalize sum l = S at *
              simp (maxSteps := 1000000) -implicitDefEqProofs [L3, hbig, k1, k2, d1, d2, d3, p1, p2, p3, p4, p5, p6, p7, p8, p9, p10, v0, hla, hlb, vB, hb1, vL, vF', vR', s1, s2, t1, t2]
            | true =>
              rw [two] at p9 p10
              obtain ⟨o1, o2, o3⟩ := htwo two
              simp only [if_true, Bool.false_eq_true, if_false, i64s_nil] at p1 p2 p3 p4 p5 p6 p7 p8 p9 p10
              generalize i64s (u.map (strF p q)) = O at *
              generalize i64s l.reverse = Br at *
              generalize i64s (fillT n l).reverse = Fr at *
              have s1 := sum_loop l hl143 hlb1 n up p q 0 false false true (i64s (fillT n l)) [] Br (i64s a) (i64s b) [] (i64s u) O l 0 0 rfl (by omega) (by omega)
              have s2 := own_loop (fillT n l) hf143 hfb n up p q (0 + sum l) false false true [] Br (i64s a) (i64s b) [] (i64s u) O (fillT n l) 0 0 rfl hodd (by omega) (by omega)
              rw [c0] at s1 s2
              rw [hsum] at s2
              simp only [Int.zero_add] at s1 s2
              generalize i64s (fillT n l) = F at *
              generalize i64s a = Aa at *
              generalize i64s b = Bb at *
              generalize i64s u = Uu at *
              generalize i64s l = Ll at *
              generalize sum l = S at *
              simp (maxSteps := 1000000) -implicitDefEqProofs [L3, hbig, k1, k2, d1, d2, d3, p1, p2, p3, p4, p5, p6, p7, p8, p9, p10, v0, hla, hlb, vB, hb1, vL, vF', vR', s1, s2, t1, t2, vO, o1, o2, o3]
          | true =>
            rw [one] at p7 p8
            obtain ⟨j1, j2, j3, j4, j5, j6⟩ := hone one
            cases two : (okTr u && (okUnit p && okUnit q) && okTr (u.map (strF p q))) with
            | false =>
              rw [two] at p9 p10
              simp only [if_true, Bool.false_eq_true, if_false, i64s_nil] at p1 p2 p3 p4 p5 p6 p7 p8 p9 p10
              generalize i64s (a ++ up :: b) = J at *
              generalize i64s l.reverse = Br at *
              generalize i64s (fillT n l).reverse = Fr at *
              have s1 := sum_loop l hl143 hlb1 n up p q 0 false true false (i64s (fillT n l)) [] Br (i64s a) (i64s b) J (i64s u) [] l 0 0 rfl (by omega) (by omega)
              have s2 := own_loop (fillT n l) hf143 hfb n up p q (0 + sum l) false true false [] Br (i64s a) (i64s b) J (i64s u) [] (fillT n l) 0 0 rfl hodd (by omega) (by omega)
              rw [c0] at s1 s2
              rw [hsum] at s2
              simp only [Int.zero_add] at s1 s2
              generalize i64s (fillT n l) = F at *
              generalize i64s a = Aa at *
              generalize i64s b = Bb at *
              generalize i64s u = Uu at *
              generalize i64s l = Ll at *
              generalize sum l = S at *
              simp (maxSteps := 1000000) -implicitDefEqProofs [L3, hbig, k1, k2, d1, d2, d3, p1, p2, p3, p4, p5, p6, p7, p8, p9, p10, v0, hla, hlb, vB, hb1, vL, vF', vR', s1, s2, t1, t2, vJ, j1, j2, j3, j4, j5, j6]
            | true =>
              rw [two] at p9 p10
              obtain ⟨o1, o2, o3⟩ := htwo two
              simp only [if_true, Bool.false_eq_true, if_false, i64s_nil] at p1 p2 p3 p4 p5 p6 p7 p8 p9 p10
              generalize i64s (a ++ up :: b) = J at *
              generalize i64s (u.map (strF p q)) = O at *
              generalize i64s l.reverse = Br at *
              generalize i64s (fillT n l).reverse = Fr at *
              have s1 := sum_loop l hl143 hlb1 n up p q 0 false true true (i64s (fillT n l)) [] Br (i64s a) (i64s b) J (i64s u) O l 0 0 rfl (by omega) (by omega)
              have s2 := own_loop (fillT n l) hf143 hfb n up p q (0 + sum l) false true true [] Br (i64s a) (i64s b) J (i64s u) O (fillT n l) 0 0 rfl hodd (by omega) (by omega)
              rw [c0] at s1 s2
              rw [hsum] at s2
              simp only [Int.zero_add] at s1 s2
              generalize i64s (fillT n l) = F at *
              generalize i64s a = Aa at *
              generalize i64s b = Bb at *
              generalize i64s u = Uu at *
              generalize i64s l = Ll at *
              generalize sum l = S at *
              simp (maxSteps := 1000000) -implicitDefEqProofs [L3, hbig, k1, k2, d1, d2, d3, p1, p2, p3, p4, p5, p6, p7, p8, p9, p10, v0, hla, hlb, vB, hb1, vL, vF', vR', s1, s2, t1, t2, vJ, j1, j2, j3, j4, j5, j6, vO, o1, o2, o3]
        | true =>
          rw [fine] at p3 p4
          obtain ⟨_, hd143, heven, t3⟩ := hfine fine
          have vD' := vD (by omega)
          cases one : (okTr a && (okTr b && okLen up) && okTr (a ++ up :: b)) with
          | false =>
            rw [one] at p7 p8
            cases two : (okTr u && (okUnit p && okUnit q) && okTr (u.map (strF p q))) with
            | false =>
              rw [two] at p9 p10
              simp only [if_true, Bool.false_eq_true, if_false, i64s_nil] at p1 p2 p3 p4 p5 p6 p7 p8 p9 p10
              generalize i64s l.reverse = Br at *
              generalize i64s (fillT n l).reverse = Fr at *
              have s1 := sum_loop l hl143 hlb1 n up p q 0 true false false (i64s (fillT n l)) (i64s (dr n [] 0 false l)) Br (i64s a) (i64s b) [] (i64s u) [] l 0 0 rfl (by omega) (by omega)
              have s2 := own_loop (fillT n l) hf143 hfb n up p q (0 + sum l) true false false (i64s (dr n [] 0 false l)) Br (i64s a) (i64s b) [] (i64s u) [] (fillT n l) 0 0 rfl hodd (by omega) (by omega)
              rw [c0] at s1 s2
              rw [hsum] at s2
              simp only [Int.zero_add] at s1 s2
              have ev1 := even_loop (dr n [] 0 false l) hd143 n up p q false false (i64s a) (i64s b) [] (i64s u) [] _ (dr n [] 0 false l) 0 (Nat.le_refl _) rfl heven
              rw [c0] at ev1
              generalize i64s (dr n [] 0 false l) = D at *
              generalize i64s (fillT n l) = F at *
              generalize i64s a = Aa at *
              generalize i64s b = Bb at *
              generalize i64s u = Uu at *
              generalize i64s l = Ll at *
              generalize sum l = S at *
              simp (maxSteps := 1000000) -implicitDefEqProofs [L3, hbig, k1, k2, d1, d2, d3, p1, p2, p3, p4, p5, p6, p7, p8, p9, p10, v0, hla, hlb, vB, hb1, vL, vF', vR', s1, s2, t1, t2, vD', ev1, t3]
            | true =>
              rw [two] at p9 p10
              obtain ⟨o1, o2, o3⟩ := htwo two
              simp only [if_true, Bool.false_eq_true, if_false, i64s_nil] at p1 p2 p3 p4 p5 p6 p7 p8 p9 p10
              generalize i64s (u.map (strF p q)) = O at *
              generalize i64s l.reverse = Br at *
              generalize i64s (fillT n l).reverse = Fr at *
              have s1 := sum_loop l hl143 hlb1 n up p q 0 true false true (i64s (fillT n l)) (i64s (dr n [] 0 false l)) Br (i64s a) (i64s b) [] (i64s u) O l 0 0 rfl (by omega) (by omega)
              have s2 := own_loop (fillT n l) hf143 hfb n up p q (0 + sum l) true false true (i64s (dr n [] 0 false l)) Br (i64s a) (i64s b) [] (i64s u) O (fillT n l) 0 0 rfl hodd (by omega) (by omega)
              rw [c0] at s1 s2
              rw [hsum] at s2
              simp only [Int.zero_add] at s1 s2
              have ev1 := even_loop (dr n [] 0 false l) hd143 n up p q false true (i64s a) (i64s b) [] (i64s u) O _ (dr n [] 0 false l) 0 (Nat.le_refl _) rfl heven
              rw [c0] at ev1
              generalize i64s (dr n [] 0 false l) = D at *
              generalize i64s (fillT n l) = F at *
              generalize i64s a = Aa at *
              generalize i64s b = Bb at *
              generalize i64s u = Uu at *
              generalize i64s l = Ll at *
              generalize sum l = S at *
              simp (maxSteps := 1000000) -implicitDefEqProofs [L3, hbig, k1, k2, d1, d2, d3, p1, p2, p3, p4, p5, p6, p7, p8, p9, p10, v0, hla, hlb, vB, hb1, vL, vF', vR', s1, s2, t1, t2, vD', ev1, t3, vO, o1, o2, o3]
          | true =>
            rw [one] at p7 p8
            obtain ⟨j1, j2, j3, j4, j5, j6⟩ := hone one
            cases two : (okTr u && (okUnit p && okUnit q) && okTr (u.map (strF p q))) with
            | false =>
              rw [two] at p9 p10
              simp only [if_true, Bool.false_eq_true, if_false, i64s_nil] at p1 p2 p3 p4 p5 p6 p7 p8 p9 p10
              generalize i64s (a ++ up :: b) = J at *
              generalize i64s l.reverse = Br at *
              generalize i64s (fillT n l).reverse = Fr at *
              have s1 := sum_loop l hl143 hlb1 n up p q 0 true true false (i64s (fillT n l)) (i64s (dr n [] 0 false l)) Br (i64s a) (i64s b) J (i64s u) [] l 0 0 rfl (by omega) (by omega)
              have s2 := own_loop (fillT n l) hf143 hfb n up p q (0 + sum l) true true false (i64s (dr n [] 0 false l)) Br (i64s a) (i64s b) J (i64s u) [] (fillT n l) 0 0 rfl hodd (by omega) (by omega)
              rw [c0] at s1 s2
              rw [hsum] at s2
              simp only [Int.zero_add] at s1 s2
              have ev1 := even_loop (dr n [] 0 false l) hd143 n up p q true false (i64s a) (i64s b) J (i64s u) [] _ (dr n [] 0 false l) 0 (Nat.le_refl _) rfl heven
              rw [c0] at ev1
              generalize i64s (dr n [] 0 false l) = D at *
              generalize i64s (fillT n l) = F at *
              generalize i64s a = Aa at *
              generalize i64s b = Bb at *
              generalize i64s u = Uu at *
              generalize i64s l = Ll at *
              generalize sum l = S at *
              simp (maxSteps := 1000000) -implicitDefEqProofs [L3, hbig, k1, k2, d1, d2, d3, p1, p2, p3, p4, p5, p6, p7, p8, p9, p10, v0, hla, hlb, vB, hb1, vL, vF', vR', s1, s2, t1, t2, vD', ev1, t3, vJ, j1, j2, j3, j4, j5, j6]
            | true =>
              rw [two] at p9 p10
              obtain ⟨o1, o2, o3⟩ := htwo two
              simp only [if_true, Bool.false_eq_true, if_false, i64s_nil] at p1 p2 p3 p4 p5 p6 p7 p8 p9 p10
              generalize i64s (a ++ up :: b) = J at *
              generalize i64s (u.map (strF p q)) = O at *
              generalize i64s l.reverse = Br at *
              generalize i64s (fillT n l).reverse = Fr at *
              have s1 := sum_loop l hl143 hlb1 n up p q 0 true true true (i64s (fillT n l)) (i64s (dr n [] 0 false l)) Br (i64s a) (i64s b) J (i64s u) O l 0 0 rfl (by omega) (by omega)
              have s2 := own_loop (fillT n l) hf143 hfb n up p q (0 + sum l) true true true (i64s (dr n [] 0 false l)) Br (i64s a) (i64s b) J (i64s u) O (fillT n l) 0 0 rfl hodd (by omega) (by omega)
              rw [c0] at s1 s2
              rw [hsum] at s2
              simp only [Int.zero_add] at s1 s2
              have ev1 := even_loop (dr n [] 0 false l) hd143 n up p q true true (i64s a) (i64s b) J (i64s u) O _ (dr n [] 0 false l) 0 (Nat.le_refl _) rfl heven
              rw [c0] at ev1
              generalize i64s (dr n [] 0 false l) = D at *
              generalize i64s (fillT n l) = F at *
              generalize i64s a = Aa at *
              generalize i64s b = Bb at *
              generalize i64s u = Uu at *
              generalize i64s l = Ll at *
              generalize sum l = S at *
              simp (maxSteps := 1000000) -implicitDefEqProofs [L3, hbig, k1, k2, d1, d2, d3, p1, p2, p3, p4, p5, p6, p7, p8, p9, p10, v0, hla, hlb, vB, hb1, vL, vF', vR', s1, s2, t1, t2, vD', ev1, t3, vJ, j1, j2, j3, j4, j5, j6, vO, o1, o2, o3]
end Go.Proofs.Ytkdfgjijmnaljaa.Ev
