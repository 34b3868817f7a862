/- FnNoise: the law, run by the evaluator, answers true. -/
import Derived.Test.YtpfefmofecmjjaaDoorEvNoiseT
set_option linter.unusedVariables false
set_option linter.unusedSimpArgs false
set_option linter.constructorNameAsVariable false
set_option maxRecDepth 20000
namespace Go.Proofs.YtpfefmofecmjjaaDoor.Ev
open Fr Nz Dr
theorem pr_ints (x : Nat × Nat) : pr x = .agg [i64 ((x.1 : Nat) : Int), i64 ((x.2 : Nat) : Int)] := rfl
/-- A fraction, or none, as two numbers. -/
theorem two_ints (c : Bool) (x : Nat × Nat) : ∃ p q : Int, (if c = true then pr x else zz) = .agg [i64 p, i64 q] ∧ (c = true → p = x.1 ∧ q = x.2) := by
  cases c with
  | false => exact ⟨0, 0, rfl, fun h => by cases h⟩
  | true => exact ⟨x.1, x.2, rfl, fun _ => ⟨rfl, rfl⟩⟩
theorem ok_row {ms : List ByteArray} {a b k : Int} (h : (okNy ms a b && inR ms.length k) = true) : ∃ j : Nat, k = j ∧ j < ms.length ∧ 0 < nz1 b ^ 5 ∧ nz1 b ^ 5 ≤ 10000000000 ∧
    (nz1 b ^ 5 - sumW (wh (nz1 a) (nz1 b) (B (jth ms k))) (ms.map B)) + sumN (ms.map fun m => wh (nz1 a) (nz1 b) (B (jth ms k)) (B m)) = nz1 b ^ 5 ∧
    (a = 0 → ∀ h : j < (ms.map fun m => wh (nz1 a) (nz1 b) (B (jth ms k)) (B m)).length, (ms.map fun m => wh (nz1 a) (nz1 b) (B (jth ms k)) (B m))[j]'h = nz1 b ^ 5) := by
  rw [Bool.and_eq_true] at h
  obtain ⟨h1, h2⟩ := h
  unfold okNy at h1
  rw [Bool.and_eq_true] at h1
  obtain ⟨n, d, rfl, rfl, d1, d2, d3⟩ := okNz_b h1.2
  obtain ⟨j, rfl, hj⟩ := inR_b h2
  have e1 : nz1 (n : Int) = n := Int.toNat_natCast n
  have e2 : nz1 (d : Int) = d := Int.toNat_natCast d
  rw [e1, e2]
  have hok := jth_ok h1.1 hj
  have hle := rest_le h1.1 d3 (jth ms j) hok
  refine ⟨j, rfl, hj, Nat.pow_pos (by omega), pow_b d2 (by omega), by rw [sumN_W]; omega, fun h0 hl => ?_⟩
  have hn0 : n = 0 := by omega
  subst hn0
  rw [List.getElem_map, jth_get hj]
  exact wh_self d (B (jth ms j)) (by rw [B_len]; exact (okMarks_b hok).2.1)
theorem ok_snt {ms : List ByteArray} {a b : Int} {c : ByteArray} (h : (oks ms a b c && decide (0 < sumO ms a b c)) = true) : 0 < sumO ms a b c ∧ sumO ms a b c ≤ 100000000000 ∧ sumN (ms.map (snt (nz1 a) (nz1 b) c)) = sumO ms a b c ∧ gueO ms a b c < (ms.map (snt (nz1 a) (nz1 b) c)).length ∧
    (∀ j (h : j < (ms.map (snt (nz1 a) (nz1 b) c)).length), (ms.map (snt (nz1 a) (nz1 b) c))[j] ≤ (ms.map (snt (nz1 a) (nz1 b) c)).getD (gueO ms a b c) 0) ∧
    (∀ j (h : j < (ms.map (snt (nz1 a) (nz1 b) c)).length), j < gueO ms a b c → (ms.map (snt (nz1 a) (nz1 b) c))[j] < (ms.map (snt (nz1 a) (nz1 b) c)).getD (gueO ms a b c) 0) := by
  rw [Bool.and_eq_true, decide_eq_true_eq] at h
  obtain ⟨h1, h2⟩ := h
  have h1' := h1
  unfold oks okNy at h1
  rw [Bool.and_eq_true, Bool.and_eq_true] at h1
  obtain ⟨⟨o1, o2⟩, o3⟩ := h1
  obtain ⟨n, d, rfl, rfl, d1, d2, d3⟩ := okNz_b o2
  obtain ⟨t1, t2, t3⟩ := okTable_b o1
  have hs5 : ∀ m ∈ ms, m.size ≤ 5 := fun m hm => (okMarks_b (t3 m hm)).2.1
  have hb := sumS_b d3 d2 c ms hs5
  have e1 : nz1 (n : Int) = n := Int.toNat_natCast n
  have e2 : nz1 (d : Int) = d := Int.toNat_natCast d
  unfold gueO
  have hso : sumO ms (n : Int) (d : Int) c = sumS n d c ms := by unfold sumO; rw [e1, e2]
  rw [hso] at h2 ⊢
  rw [e1, e2]
  obtain ⟨k1, k2, k3⟩ := bsO_ok (ms.map (snt n d c)) (by rw [List.length_map]; omega)
  have hg : ∀ j (h : j < (ms.map (snt n d c)).length), (ms.map (snt n d c))[j] = (ms.map (snt n d c)).getD j 0 := fun j h => by rw [List.getD_eq_getElem?_getD, List.getElem?_eq_getElem h]; rfl
  exact ⟨h2, by omega, sumN_S n d c ms, k1, fun j h => by rw [hg j h]; exact k2 j h, fun j h hj => by rw [hg j h]; exact k3 j hj⟩
theorem rowF_comm (n d : Nat) (u v : ByteArray) : rowF n d u v = rowF n d v u := by unfold rowF; rw [wh_comm]
theorem ok_come {a b : Int} {u v : ByteArray} (h : (okNz a b && (okMarks u 1 5 && okMarks v 1 5)) = true) : (rowF (nz1 a) (nz1 b) u v).1 ≤ (rowF (nz1 a) (nz1 b) u v).2 := by
  rw [Bool.and_eq_true, Bool.and_eq_true] at h
  obtain ⟨h1, h2, h3⟩ := h
  obtain ⟨n, d, rfl, rfl, d1, d2, d3⟩ := okNz_b h1
  have e1 : nz1 (n : Int) = n := Int.toNat_natCast n
  have e2 : nz1 (d : Int) = d := Int.toNat_natCast d
  rw [e1, e2]
  exact cut_le1 _ _ (Nat.pow_pos (by omega)) (wh_le n d d3 (B u) (B v) (by rw [B_len]; exact (okMarks_b h2).2.1))
set_option maxHeartbeats 16000000 in
theorem FnNoise (x0 : List Int) (b0 : x0.length ≤ maxLen ∧ ∀ y ∈ x0, (Lit.int .u8 y).wf = true) : ev E1 3 [(AV.lst 1 (x0.map (fun q : Int => (AV.v (.int .u8 q)))))] [] = some (bl true, []) := by
  obtain ⟨hl0, hw0⟩ := b0
  show ev E1 3 [.lst 1 (cd x0)] [] = _
  have hbig := two_vbig x0
  rw [g3]
  unfold runF
  by_cases hb : (65536 : Int) < (x0.length : Int)
  · rw [decide_eq_true hb] at hbig
    simp -implicitDefEqProofs [L3, hbig]
  · rw [decide_eq_false hb] at hbig
    have hx : okC x0 := okC_of (by omega) hw0
    have hx65 : x0.length ≤ 65536 := by omega
    have k1 := two_vcut x0 hx hx65 1 (by omega)
    have k2 := two_vcut x0 hx hx65 2 (by omega)
    rw [show ((1 : Nat) : Int) = 1 from rfl] at k1
    rw [show ((2 : Nat) : Int) = 2 from rfl] at k2
    obtain ⟨t, a, b, k, z1, z2, d1⟩ := two_drawRead x0 hx
    obtain ⟨u, m1, m2, c, z3, z4, z5, d2⟩ := two_drawSent (cutD x0 1) (cutD_ok hx hx65 1 (by omega))
    obtain ⟨v, n1, n2, i1, i2, z6, z7, d3⟩ := two_drawCR (cutD x0 2) (cutD_ok hx hx65 2 (by omega))
    obtain ⟨y1, y2, s1, s2, z8, z9, d4⟩ := two_drawComes x0 hx
    have ht : ∀ x ∈ t, x.size ≤ 1000 := fun x hx => by have := z2 x hx; omega
    have hu : ∀ x ∈ u, x.size ≤ 1000 := fun x hx => by have := z4 x hx; omega
    have hv : ∀ x ∈ v, x.size ≤ 1000 := fun x hx => by have := z7 x hx; omega
    have p1 := two_row_i t (by omega) ht a b k
    have p2 := two_row_s t (by omega) ht a b k
    have p3 := two_unread_i t (by omega) ht a b k
    have p4 := two_unread_s t (by omega) ht a b k
    have p5 := two_sent_i u (by omega) hu m1 m2 c (by omega)
    have p6 := two_sent_s u (by omega) hu m1 m2 c (by omega)
    have p7 := two_guess_i u (by omega) hu m1 m2 c (by omega)
    have p8 := two_guess_s u (by omega) hu m1 m2 c (by omega)
    have p9 := two_chr_i v (by omega) hv n1 n2 i1 i2
    have p10 := two_chr_s v (by omega) hv n1 n2 i1 i2
    have p11 := two_chc_i y1 y2 s1 s2 (by omega) (by omega)
    have p12 := two_chc_s y1 y2 s1 s2 (by omega) (by omega)
    have p13 := two_nz_i a b
    have p14 := two_nz_s a b
    -- the fractions as two numbers
    obtain ⟨U1, U2, hU, hU'⟩ := two_ints (okNy t a b && inR t.length k) (cut (nz1 b ^ 5 - sumW (wh (nz1 a) (nz1 b) (B (jth t k))) (t.map B)) (nz1 b ^ 5))
    obtain ⟨R1, R2, hR, hR'⟩ := two_ints (okNy v n1 n2 && (inR v.length i1 && inR v.length i2)) (rowF (nz1 n1) (nz1 n2) (jth v i1) (jth v i2))
    obtain ⟨C1, C2, hC, hC'⟩ := two_ints (okNz y1 y2 && (okMarks s1 1 5 && okMarks s2 1 5)) (rowF (nz1 y1) (nz1 y2) s1 s2)
    rw [hU] at p3 p4
    rw [hR] at p9 p10
    rw [hC] at p11 p12
    -- what stands behind each flag
    have hok := @ok_row t a b k
    have hsn := @ok_snt u m1 m2 c
    have htwo : (okNy v n1 n2 && (inR v.length i1 && inR v.length i2)) = true →
        ev E1 27 [.agg [.lst 1 (v.map st)], i64 i1] [] = some (.tup [st (jth v i1), bl true], []) ∧
        ev E1 27 [.agg [.lst 1 (v.map st)], i64 i2] [] = some (.tup [st (jth v i2), bl true], []) ∧
        ev E1 20 [nzA n1 n2, st (jth v i1), st (jth v i2)] [] = some (.tup [.agg [i64 R1, i64 R2], bl true], []) := by
      intro h
      rw [h, if_pos rfl] at hR
      rw [Bool.and_eq_true, Bool.and_eq_true] at h
      obtain ⟨h1, h2, h3⟩ := h
      have h1' := h1
      unfold okNy at h1
      rw [Bool.and_eq_true] at h1
      have e1 := two_mk v (by omega) hv i1
      have e2 := two_mk v (by omega) hv i2
      rw [h1.1, h2, Bool.and_self, if_pos rfl] at e1
      rw [h1.1, h3, Bool.and_self, if_pos rfl] at e2
      obtain ⟨j1, rfl, q1⟩ := inR_b h2
      obtain ⟨j2, rfl, q2⟩ := inR_b h3
      have o1 := jth_ok h1.1 q1
      have o2 := jth_ok h1.1 q2
      have w1 := (okMarks_b o1).2.1
      have w2 := (okMarks_b o2).2.1
      have e3 := two_chc_i n1 n2 (jth v j1) (jth v j2) (by omega) (by omega)
      rw [h1.2, o1, o2, Bool.and_self, Bool.and_self, if_pos rfl, hR] at e3
      exact ⟨e1, e2, e3⟩
    have hthr : (okNz y1 y2 && (okMarks s1 1 5 && okMarks s2 1 5)) = true → ev E1 20 [nzA y1 y2, st s2, st s1] [] = some (.tup [.agg [i64 C1, i64 C2], bl true], []) ∧ C1 ≤ C2 := by
      intro h
      have h0 := hC' h
      have h1 := ok_come h
      have e := two_chc_i y1 y2 s2 s1 (by omega) (by omega)
      rw [rowF_comm, Bool.and_comm (okMarks s2 1 5)] at e
      rw [hC, h] at e
      exact ⟨e, by omega⟩
    have q1 := frow_len (t.map fun m => wh (nz1 a) (nz1 b) (B (jth t k)) (B m)) (nz1 b ^ 5)
    have v0 := two_vpairs [] 1 (by simp)
    rw [show frow [] 1 = [] from rfl] at v0
    have vR := two_vpairs (t.map fun m => wh (nz1 a) (nz1 b) (B (jth t k)) (B m)) (nz1 b ^ 5) (by rw [List.length_map]; omega)
    have vS := two_vpairs (u.map (snt (nz1 m1) (nz1 m2) c)) (sumO u m1 m2 c) (by rw [List.length_map]; omega)
    unfold rowV at p1 p2
    unfold sntV at p5 p6
    unfold nzA at d1 d2 d3 d4 p1 p2 p3 p4 p5 p6 p7 p8 p9 p10 p11 p12 p13 p14
    cases ok : (okNy t a b && inR t.length k) with
    | false =>
      rw [ok] at p1 p2 p3 p4
      simp only [Bool.false_eq_true, if_false] at p1 p2
      cases there : (oks u m1 m2 c && decide (0 < sumO u m1 m2 c)) with
      | false =>
        rw [there] at p5 p6 p7 p8
        simp only [if_true, Bool.false_eq_true, if_false] at p5 p6 p7 p8
        cases two : (okNy v n1 n2 && (inR v.length i1 && inR v.length i2)) with
        | false =>
          rw [two] at p9 p10
          cases three : (okNz y1 y2 && (okMarks s1 1 5 && okMarks s2 1 5)) with
          | false =>
            rw [three] at p11 p12
            generalize okNz a b = on at *
            simp (maxSteps := 2000000) -implicitDefEqProofs [L3, hbig, k1, k2, d1, d2, d3, d4, p1, p2, p3, p4, p5, p6, p7, p8, p9, p10, p11, p12, p13, p14, v0]
          | true =>
            rw [three] at p11 p12
            obtain ⟨w4, w5⟩ := hthr three
            unfold nzA at w4
            generalize okNz a b = on at *
            simp (maxSteps := 2000000) -implicitDefEqProofs [L3, hbig, k1, k2, d1, d2, d3, d4, p1, p2, p3, p4, p5, p6, p7, p8, p9, p10, p11, p12, p13, p14, v0, w4, w5]
        | true =>
          rw [two] at p9 p10
          obtain ⟨w1, w2, w3⟩ := htwo two
          unfold nzA at w3
          cases three : (okNz y1 y2 && (okMarks s1 1 5 && okMarks s2 1 5)) with
          | false =>
            rw [three] at p11 p12
            generalize okNz a b = on at *
            simp (maxSteps := 2000000) -implicitDefEqProofs [L3, hbig, k1, k2, d1, d2, d3, d4, p1, p2, p3, p4, p5, p6, p7, p8, p9, p10, p11, p12, p13, p14, v0, w1, w2, w3]
          | true =>
            rw [three] at p11 p12
            obtain ⟨w4, w5⟩ := hthr three
            unfold nzA at w4
            generalize okNz a b = on at *
            simp (maxSteps := 2000000) -implicitDefEqProofs [L3, hbig, k1, k2, d1, d2, d3, d4, p1, p2, p3, p4, p5, p6, p7, p8, p9, p10, p11, p12, p13, p14, v0, w4, w5, w1, w2, w3]
      | true =>
        rw [there] at p5 p6 p7 p8
        simp only [if_true, Bool.false_eq_true, if_false] at p5 p6 p7 p8
        obtain ⟨r1, r2, r3, r4, r5, r6⟩ := hsn there
        have hpb0 : ∀ h : gueO u m1 m2 c < (u.map (snt (nz1 m1) (nz1 m2) c)).length, (u.map (snt (nz1 m1) (nz1 m2) c))[gueO u m1 m2 c]'h ≤ sumO u m1 m2 c := fun h => by
          rw [← r3]
          exact sumN_mem (List.getElem_mem h)
        have hpbe : ∀ h : gueO u m1 m2 c < (u.map (snt (nz1 m1) (nz1 m2) c)).length, (u.map (snt (nz1 m1) (nz1 m2) c))[gueO u m1 m2 c]'h = (u.map (snt (nz1 m1) (nz1 m2) c)).getD (gueO u m1 m2 c) 0 := fun h => by rw [List.getD_eq_getElem?_getD, List.getElem?_eq_getElem h]; rfl
        cases two : (okNy v n1 n2 && (inR v.length i1 && inR v.length i2)) with
        | false =>
          rw [two] at p9 p10
          cases three : (okNz y1 y2 && (okMarks s1 1 5 && okMarks s2 1 5)) with
          | false =>
            rw [three] at p11 p12
            have e2 := sent_sum (u.map (snt (nz1 m1) (nz1 m2) c)) (by rw [List.length_map]; omega) (sumO u m1 m2 c) r1 r2 (gueO u m1 m2 c) r4 _ rfl (hpb0 r4) (fun j h => by rw [hpbe r4]; exact r5 j h) (fun j h hj => by rw [hpbe r4]; exact r6 j h hj) (v.map st) n1 n2 R1 R2 y1 y2 C1 C2 i1 i2 false false s1 s2 (u.map (snt (nz1 m1) (nz1 m2) c)) 0 0 rfl (by rw [r3, Nat.zero_add]; exact Nat.le_refl _)
            rw [r3, Nat.zero_add, cut_self _ r1, cut_zero _ r1, c0, show pr (0, 1) = .agg [i64 0, i64 1] from rfl, show pr (1, 1) = .agg [i64 1, i64 1] from rfl] at e2
            generalize frow (u.map (snt (nz1 m1) (nz1 m2) c)) (sumO u m1 m2 c) = SV at *
            generalize ((gueO u m1 m2 c : Nat) : Int) = GV at *
            generalize okNz a b = on at *
            simp (maxSteps := 2000000) -implicitDefEqProofs [L3, hbig, k1, k2, d1, d2, d3, d4, p1, p2, p3, p4, p5, p6, p7, p8, p9, p10, p11, p12, p13, p14, v0, e2, vS]
          | true =>
            rw [three] at p11 p12
            obtain ⟨w4, w5⟩ := hthr three
            unfold nzA at w4
            have e2 := sent_sum (u.map (snt (nz1 m1) (nz1 m2) c)) (by rw [List.length_map]; omega) (sumO u m1 m2 c) r1 r2 (gueO u m1 m2 c) r4 _ rfl (hpb0 r4) (fun j h => by rw [hpbe r4]; exact r5 j h) (fun j h hj => by rw [hpbe r4]; exact r6 j h hj) (v.map st) n1 n2 R1 R2 y1 y2 C1 C2 i1 i2 false true s1 s2 (u.map (snt (nz1 m1) (nz1 m2) c)) 0 0 rfl (by rw [r3, Nat.zero_add]; exact Nat.le_refl _)
            rw [r3, Nat.zero_add, cut_self _ r1, cut_zero _ r1, c0, show pr (0, 1) = .agg [i64 0, i64 1] from rfl, show pr (1, 1) = .agg [i64 1, i64 1] from rfl] at e2
            generalize frow (u.map (snt (nz1 m1) (nz1 m2) c)) (sumO u m1 m2 c) = SV at *
            generalize ((gueO u m1 m2 c : Nat) : Int) = GV at *
            generalize okNz a b = on at *
            simp (maxSteps := 2000000) -implicitDefEqProofs [L3, hbig, k1, k2, d1, d2, d3, d4, p1, p2, p3, p4, p5, p6, p7, p8, p9, p10, p11, p12, p13, p14, v0, w4, w5, e2, vS]
        | true =>
          rw [two] at p9 p10
          obtain ⟨w1, w2, w3⟩ := htwo two
          unfold nzA at w3
          cases three : (okNz y1 y2 && (okMarks s1 1 5 && okMarks s2 1 5)) with
          | false =>
            rw [three] at p11 p12
            have e2 := sent_sum (u.map (snt (nz1 m1) (nz1 m2) c)) (by rw [List.length_map]; omega) (sumO u m1 m2 c) r1 r2 (gueO u m1 m2 c) r4 _ rfl (hpb0 r4) (fun j h => by rw [hpbe r4]; exact r5 j h) (fun j h hj => by rw [hpbe r4]; exact r6 j h hj) (v.map st) n1 n2 R1 R2 y1 y2 C1 C2 i1 i2 true false s1 s2 (u.map (snt (nz1 m1) (nz1 m2) c)) 0 0 rfl (by rw [r3, Nat.zero_add]; exact Nat.le_refl _)
            rw [r3, Nat.zero_add, cut_self _ r1, cut_zero _ r1, c0, show pr (0, 1) = .agg [i64 0, i64 1] from rfl, show pr (1, 1) = .agg [i64 1, i64 1] from rfl] at e2
            generalize frow (u.map (snt (nz1 m1) (nz1 m2) c)) (sumO u m1 m2 c) = SV at *
            generalize ((gueO u m1 m2 c : Nat) : Int) = GV at *
            generalize okNz a b = on at *
            simp (maxSteps := 2000000) -implicitDefEqProofs [L3, hbig, k1, k2, d1, d2, d3, d4, p1, p2, p3, p4, p5, p6, p7, p8, p9, p10, p11, p12, p13, p14, v0, w1, w2, w3, e2, vS]
          | true =>
            rw [three] at p11 p12
            obtain ⟨w4, w5⟩ := hthr three
            unfold nzA at w4
            have e2 := sent_sum (u.map (snt (nz1 m1) (nz1 m2) c)) (by rw [List.length_map]; omega) (sumO u m1 m2 c) r1 r2 (gueO u m1 m2 c) r4 _ rfl (hpb0 r4) (fun j h => by rw [hpbe r4]; exact r5 j h) (fun j h hj => by rw [hpbe r4]; exact r6 j h hj) (v.map st) n1 n2 R1 R2 y1 y2 C1 C2 i1 i2 true true s1 s2 (u.map (snt (nz1 m1) (nz1 m2) c)) 0 0 rfl (by rw [r3, Nat.zero_add]; exact Nat.le_refl _)
            rw [r3, Nat.zero_add, cut_self _ r1, cut_zero _ r1, c0, show pr (0, 1) = .agg [i64 0, i64 1] from rfl, show pr (1, 1) = .agg [i64 1, i64 1] from rfl] at e2
            generalize frow (u.map (snt (nz1 m1) (nz1 m2) c)) (sumO u m1 m2 c) = SV at *
            generalize ((gueO u m1 m2 c : Nat) : Int) = GV at *
            generalize okNz a b = on at *
            simp (maxSteps := 2000000) -implicitDefEqProofs [L3, hbig, k1, k2, d1, d2, d3, d4, p1, p2, p3, p4, p5, p6, p7, p8, p9, p10, p11, p12, p13, p14, v0, w4, w5, w1, w2, w3, e2, vS]
    | true =>
      obtain ⟨j, rfl, o2, o3, o4, o5, o6⟩ := hok ok
      obtain ⟨hU1, hU2⟩ := hU' ok
      rw [ok] at p1 p2 p3 p4
      simp only [if_true] at p1 p2
      have q2 : (frow (t.map fun m => wh (nz1 a) (nz1 b) (B (jth t (j : Int))) (B m)) (nz1 b ^ 5)).length = t.length := by rw [q1, List.length_map]
      have q3 : (j : Int) < (t.length : Int) := by omega
      have q4 : j < t.length := o2
      have hnz := ok
      by_cases ha0 : a = 0
      · have hrow : ∀ h, (frow (t.map fun m => wh (nz1 a) (nz1 b) (B (jth t (j : Int))) (B m)) (nz1 b ^ 5))[j]'h = .agg [i64 1, i64 1] := by
          have h1 : j < (t.map fun m => wh (nz1 a) (nz1 b) (B (jth t (j : Int))) (B m)).length := by rw [List.length_map]; exact o2
          have h2 := frow_at (N := nz1 b ^ 5) h1 (o6 ha0 h1)
          rw [cut_self _ o3] at h2
          exact h2
        subst ha0
        cases there : (oks u m1 m2 c && decide (0 < sumO u m1 m2 c)) with
        | false =>
          rw [there] at p5 p6 p7 p8
          simp only [if_true, Bool.false_eq_true, if_false] at p5 p6 p7 p8
          cases two : (okNy v n1 n2 && (inR v.length i1 && inR v.length i2)) with
          | false =>
            rw [two] at p9 p10
            cases three : (okNz y1 y2 && (okMarks s1 1 5 && okMarks s2 1 5)) with
            | false =>
              rw [three] at p11 p12
              have e1 := row_sum (t.map fun m => wh (nz1 (0 : Int)) (nz1 b) (B (jth t (j : Int))) (B m)) (by rw [List.length_map]; omega) (nz1 b ^ 5) o3 (by omega) (t.map st) (v.map st) [] (0 : Int) b n1 n2 R1 R2 y1 y2 C1 C2 (j : Int) 0 i1 i2 false false false s1 s2 (t.map fun m => wh (nz1 (0 : Int)) (nz1 b) (B (jth t (j : Int))) (B m)) 0 (nz1 b ^ 5 - sumW (wh (nz1 (0 : Int)) (nz1 b) (B (jth t (j : Int)))) (t.map B)) rfl (Nat.le_of_eq o5)
              rw [o5, cut_self _ o3, c0, show pr (1, 1) = .agg [i64 1, i64 1] from rfl, pr_ints, ← hU1, ← hU2] at e1
              generalize frow (t.map fun m => wh (nz1 (0 : Int)) (nz1 b) (B (jth t (j : Int))) (B m)) (nz1 b ^ 5) = RV at *
              generalize okNz (0 : Int) b = on at *
              simp (maxSteps := 2000000) -implicitDefEqProofs [L3, hbig, k1, k2, d1, d2, d3, d4, p1, p2, p3, p4, p5, p6, p7, p8, p9, p10, p11, p12, p13, p14, v0, e1, vR, q2, q3, q4, hrow]
            | true =>
              rw [three] at p11 p12
              obtain ⟨w4, w5⟩ := hthr three
              unfold nzA at w4
              have e1 := row_sum (t.map fun m => wh (nz1 (0 : Int)) (nz1 b) (B (jth t (j : Int))) (B m)) (by rw [List.length_map]; omega) (nz1 b ^ 5) o3 (by omega) (t.map st) (v.map st) [] (0 : Int) b n1 n2 R1 R2 y1 y2 C1 C2 (j : Int) 0 i1 i2 false false true s1 s2 (t.map fun m => wh (nz1 (0 : Int)) (nz1 b) (B (jth t (j : Int))) (B m)) 0 (nz1 b ^ 5 - sumW (wh (nz1 (0 : Int)) (nz1 b) (B (jth t (j : Int)))) (t.map B)) rfl (Nat.le_of_eq o5)
              rw [o5, cut_self _ o3, c0, show pr (1, 1) = .agg [i64 1, i64 1] from rfl, pr_ints, ← hU1, ← hU2] at e1
              generalize frow (t.map fun m => wh (nz1 (0 : Int)) (nz1 b) (B (jth t (j : Int))) (B m)) (nz1 b ^ 5) = RV at *
              generalize okNz (0 : Int) b = on at *
              simp (maxSteps := 2000000) -implicitDefEqProofs [L3, hbig, k1, k2, d1, d2, d3, d4, p1, p2, p3, p4, p5, p6, p7, p8, p9, p10, p11, p12, p13, p14, v0, w4, w5, e1, vR, q2, q3, q4, hrow]
          | true =>
            rw [two] at p9 p10
            obtain ⟨w1, w2, w3⟩ := htwo two
            unfold nzA at w3
            cases three : (okNz y1 y2 && (okMarks s1 1 5 && okMarks s2 1 5)) with
            | false =>
              rw [three] at p11 p12
              have e1 := row_sum (t.map fun m => wh (nz1 (0 : Int)) (nz1 b) (B (jth t (j : Int))) (B m)) (by rw [List.length_map]; omega) (nz1 b ^ 5) o3 (by omega) (t.map st) (v.map st) [] (0 : Int) b n1 n2 R1 R2 y1 y2 C1 C2 (j : Int) 0 i1 i2 false true false s1 s2 (t.map fun m => wh (nz1 (0 : Int)) (nz1 b) (B (jth t (j : Int))) (B m)) 0 (nz1 b ^ 5 - sumW (wh (nz1 (0 : Int)) (nz1 b) (B (jth t (j : Int)))) (t.map B)) rfl (Nat.le_of_eq o5)
              rw [o5, cut_self _ o3, c0, show pr (1, 1) = .agg [i64 1, i64 1] from rfl, pr_ints, ← hU1, ← hU2] at e1
              generalize frow (t.map fun m => wh (nz1 (0 : Int)) (nz1 b) (B (jth t (j : Int))) (B m)) (nz1 b ^ 5) = RV at *
              generalize okNz (0 : Int) b = on at *
              simp (maxSteps := 2000000) -implicitDefEqProofs [L3, hbig, k1, k2, d1, d2, d3, d4, p1, p2, p3, p4, p5, p6, p7, p8, p9, p10, p11, p12, p13, p14, v0, w1, w2, w3, e1, vR, q2, q3, q4, hrow]
            | true =>
              rw [three] at p11 p12
              obtain ⟨w4, w5⟩ := hthr three
              unfold nzA at w4
              have e1 := row_sum (t.map fun m => wh (nz1 (0 : Int)) (nz1 b) (B (jth t (j : Int))) (B m)) (by rw [List.length_map]; omega) (nz1 b ^ 5) o3 (by omega) (t.map st) (v.map st) [] (0 : Int) b n1 n2 R1 R2 y1 y2 C1 C2 (j : Int) 0 i1 i2 false true true s1 s2 (t.map fun m => wh (nz1 (0 : Int)) (nz1 b) (B (jth t (j : Int))) (B m)) 0 (nz1 b ^ 5 - sumW (wh (nz1 (0 : Int)) (nz1 b) (B (jth t (j : Int)))) (t.map B)) rfl (Nat.le_of_eq o5)
              rw [o5, cut_self _ o3, c0, show pr (1, 1) = .agg [i64 1, i64 1] from rfl, pr_ints, ← hU1, ← hU2] at e1
              generalize frow (t.map fun m => wh (nz1 (0 : Int)) (nz1 b) (B (jth t (j : Int))) (B m)) (nz1 b ^ 5) = RV at *
              generalize okNz (0 : Int) b = on at *
              simp (maxSteps := 2000000) -implicitDefEqProofs [L3, hbig, k1, k2, d1, d2, d3, d4, p1, p2, p3, p4, p5, p6, p7, p8, p9, p10, p11, p12, p13, p14, v0, w4, w5, w1, w2, w3, e1, vR, q2, q3, q4, hrow]
        | true =>
          rw [there] at p5 p6 p7 p8
          simp only [if_true, Bool.false_eq_true, if_false] at p5 p6 p7 p8
          obtain ⟨r1, r2, r3, r4, r5, r6⟩ := hsn there
          have hpb0 : ∀ h : gueO u m1 m2 c < (u.map (snt (nz1 m1) (nz1 m2) c)).length, (u.map (snt (nz1 m1) (nz1 m2) c))[gueO u m1 m2 c]'h ≤ sumO u m1 m2 c := fun h => by
            rw [← r3]
            exact sumN_mem (List.getElem_mem h)
          have hpbe : ∀ h : gueO u m1 m2 c < (u.map (snt (nz1 m1) (nz1 m2) c)).length, (u.map (snt (nz1 m1) (nz1 m2) c))[gueO u m1 m2 c]'h = (u.map (snt (nz1 m1) (nz1 m2) c)).getD (gueO u m1 m2 c) 0 := fun h => by rw [List.getD_eq_getElem?_getD, List.getElem?_eq_getElem h]; rfl
          cases two : (okNy v n1 n2 && (inR v.length i1 && inR v.length i2)) with
          | false =>
            rw [two] at p9 p10
            cases three : (okNz y1 y2 && (okMarks s1 1 5 && okMarks s2 1 5)) with
            | false =>
              rw [three] at p11 p12
              have e1 := row_sum (t.map fun m => wh (nz1 (0 : Int)) (nz1 b) (B (jth t (j : Int))) (B m)) (by rw [List.length_map]; omega) (nz1 b ^ 5) o3 (by omega) (t.map st) (v.map st) (frow (u.map (snt (nz1 m1) (nz1 m2) c)) (sumO u m1 m2 c)) (0 : Int) b n1 n2 R1 R2 y1 y2 C1 C2 (j : Int) ((gueO u m1 m2 c : Nat) : Int) i1 i2 true false false s1 s2 (t.map fun m => wh (nz1 (0 : Int)) (nz1 b) (B (jth t (j : Int))) (B m)) 0 (nz1 b ^ 5 - sumW (wh (nz1 (0 : Int)) (nz1 b) (B (jth t (j : Int)))) (t.map B)) rfl (Nat.le_of_eq o5)
              rw [o5, cut_self _ o3, c0, show pr (1, 1) = .agg [i64 1, i64 1] from rfl, pr_ints, ← hU1, ← hU2] at e1
              have e2 := sent_sum (u.map (snt (nz1 m1) (nz1 m2) c)) (by rw [List.length_map]; omega) (sumO u m1 m2 c) r1 r2 (gueO u m1 m2 c) r4 _ rfl (hpb0 r4) (fun j h => by rw [hpbe r4]; exact r5 j h) (fun j h hj => by rw [hpbe r4]; exact r6 j h hj) (v.map st) n1 n2 R1 R2 y1 y2 C1 C2 i1 i2 false false s1 s2 (u.map (snt (nz1 m1) (nz1 m2) c)) 0 0 rfl (by rw [r3, Nat.zero_add]; exact Nat.le_refl _)
              rw [r3, Nat.zero_add, cut_self _ r1, cut_zero _ r1, c0, show pr (0, 1) = .agg [i64 0, i64 1] from rfl, show pr (1, 1) = .agg [i64 1, i64 1] from rfl] at e2
              generalize frow (t.map fun m => wh (nz1 (0 : Int)) (nz1 b) (B (jth t (j : Int))) (B m)) (nz1 b ^ 5) = RV at *
              generalize frow (u.map (snt (nz1 m1) (nz1 m2) c)) (sumO u m1 m2 c) = SV at *
              generalize ((gueO u m1 m2 c : Nat) : Int) = GV at *
              generalize okNz (0 : Int) b = on at *
              simp (maxSteps := 2000000) -implicitDefEqProofs [L3, hbig, k1, k2, d1, d2, d3, d4, p1, p2, p3, p4, p5, p6, p7, p8, p9, p10, p11, p12, p13, p14, v0, e1, vR, q2, q3, q4, hrow, e2, vS]
            | true =>
              rw [three] at p11 p12
              obtain ⟨w4, w5⟩ := hthr three
              unfold nzA at w4
              have e1 := row_sum (t.map fun m => wh (nz1 (0 : Int)) (nz1 b) (B (jth t (j : Int))) (B m)) (by rw [List.length_map]; omega) (nz1 b ^ 5) o3 (by omega) (t.map st) (v.map st) (frow (u.map (snt (nz1 m1) (nz1 m2) c)) (sumO u m1 m2 c)) (0 : Int) b n1 n2 R1 R2 y1 y2 C1 C2 (j : Int) ((gueO u m1 m2 c : Nat) : Int) i1 i2 true false true s1 s2 (t.map fun m => wh (nz1 (0 : Int)) (nz1 b) (B (jth t (j : Int))) (B m)) 0 (nz1 b ^ 5 - sumW (wh (nz1 (0 : Int)) (nz1 b) (B (jth t (j : Int)))) (t.map B)) rfl (Nat.le_of_eq o5)
              rw [o5, cut_self _ o3, c0, show pr (1, 1) = .agg [i64 1, i64 1] from rfl, pr_ints, ← hU1, ← hU2] at e1
              have e2 := sent_sum (u.map (snt (nz1 m1) (nz1 m2) c)) (by rw [List.length_map]; omega) (sumO u m1 m2 c) r1 r2 (gueO u m1 m2 c) r4 _ rfl (hpb0 r4) (fun j h => by rw [hpbe r4]; exact r5 j h) (fun j h hj => by rw [hpbe r4]; exact r6 j h hj) (v.map st) n1 n2 R1 R2 y1 y2 C1 C2 i1 i2 false true s1 s2 (u.map (snt (nz1 m1) (nz1 m2) c)) 0 0 rfl (by rw [r3, Nat.zero_add]; exact Nat.le_refl _)
              rw [r3, Nat.zero_add, cut_self _ r1, cut_zero _ r1, c0, show pr (0, 1) = .agg [i64 0, i64 1] from rfl, show pr (1, 1) = .agg [i64 1, i64 1] from rfl] at e2
              generalize frow (t.map fun m => wh (nz1 (0 : Int)) (nz1 b) (B (jth t (j : Int))) (B m)) (nz1 b ^ 5) = RV at *
              generalize frow (u.map (snt (nz1 m1) (nz1 m2) c)) (sumO u m1 m2 c) = SV at *
              generalize ((gueO u m1 m2 c : Nat) : Int) = GV at *
              generalize okNz (0 : Int) b = on at *
              simp (maxSteps := 2000000) -implicitDefEqProofs [L3, hbig, k1, k2, d1, d2, d3, d4, p1, p2, p3, p4, p5, p6, p7, p8, p9, p10, p11, p12, p13, p14, v0, w4, w5, e1, vR, q2, q3, q4, hrow, e2, vS]
          | true =>
            rw [two] at p9 p10
            obtain ⟨w1, w2, w3⟩ := htwo two
            unfold nzA at w3
            cases three : (okNz y1 y2 && (okMarks s1 1 5 && okMarks s2 1 5)) with
            | false =>
              rw [three] at p11 p12
              have e1 := row_sum (t.map fun m => wh (nz1 (0 : Int)) (nz1 b) (B (jth t (j : Int))) (B m)) (by rw [List.length_map]; omega) (nz1 b ^ 5) o3 (by omega) (t.map st) (v.map st) (frow (u.map (snt (nz1 m1) (nz1 m2) c)) (sumO u m1 m2 c)) (0 : Int) b n1 n2 R1 R2 y1 y2 C1 C2 (j : Int) ((gueO u m1 m2 c : Nat) : Int) i1 i2 true true false s1 s2 (t.map fun m => wh (nz1 (0 : Int)) (nz1 b) (B (jth t (j : Int))) (B m)) 0 (nz1 b ^ 5 - sumW (wh (nz1 (0 : Int)) (nz1 b) (B (jth t (j : Int)))) (t.map B)) rfl (Nat.le_of_eq o5)
              rw [o5, cut_self _ o3, c0, show pr (1, 1) = .agg [i64 1, i64 1] from rfl, pr_ints, ← hU1, ← hU2] at e1
              have e2 := sent_sum (u.map (snt (nz1 m1) (nz1 m2) c)) (by rw [List.length_map]; omega) (sumO u m1 m2 c) r1 r2 (gueO u m1 m2 c) r4 _ rfl (hpb0 r4) (fun j h => by rw [hpbe r4]; exact r5 j h) (fun j h hj => by rw [hpbe r4]; exact r6 j h hj) (v.map st) n1 n2 R1 R2 y1 y2 C1 C2 i1 i2 true false s1 s2 (u.map (snt (nz1 m1) (nz1 m2) c)) 0 0 rfl (by rw [r3, Nat.zero_add]; exact Nat.le_refl _)
              rw [r3, Nat.zero_add, cut_self _ r1, cut_zero _ r1, c0, show pr (0, 1) = .agg [i64 0, i64 1] from rfl, show pr (1, 1) = .agg [i64 1, i64 1] from rfl] at e2
              generalize frow (t.map fun m => wh (nz1 (0 : Int)) (nz1 b) (B (jth t (j : Int))) (B m)) (nz1 b ^ 5) = RV at *
              generalize frow (u.map (snt (nz1 m1) (nz1 m2) c)) (sumO u m1 m2 c) = SV at *
              generalize ((gueO u m1 m2 c : Nat) : Int) = GV at *
              generalize okNz (0 : Int) b = on at *
              simp (maxSteps := 2000000) -implicitDefEqProofs [L3, hbig, k1, k2, d1, d2, d3, d4, p1, p2, p3, p4, p5, p6, p7, p8, p9, p10, p11, p12, p13, p14, v0, w1, w2, w3, e1, vR, q2, q3, q4, hrow, e2, vS]
            | true =>
              rw [three] at p11 p12
              obtain ⟨w4, w5⟩ := hthr three
              unfold nzA at w4
              have e1 := row_sum (t.map fun m => wh (nz1 (0 : Int)) (nz1 b) (B (jth t (j : Int))) (B m)) (by rw [List.length_map]; omega) (nz1 b ^ 5) o3 (by omega) (t.map st) (v.map st) (frow (u.map (snt (nz1 m1) (nz1 m2) c)) (sumO u m1 m2 c)) (0 : Int) b n1 n2 R1 R2 y1 y2 C1 C2 (j : Int) ((gueO u m1 m2 c : Nat) : Int) i1 i2 true true true s1 s2 (t.map fun m => wh (nz1 (0 : Int)) (nz1 b) (B (jth t (j : Int))) (B m)) 0 (nz1 b ^ 5 - sumW (wh (nz1 (0 : Int)) (nz1 b) (B (jth t (j : Int)))) (t.map B)) rfl (Nat.le_of_eq o5)
              rw [o5, cut_self _ o3, c0, show pr (1, 1) = .agg [i64 1, i64 1] from rfl, pr_ints, ← hU1, ← hU2] at e1
              have e2 := sent_sum (u.map (snt (nz1 m1) (nz1 m2) c)) (by rw [List.length_map]; omega) (sumO u m1 m2 c) r1 r2 (gueO u m1 m2 c) r4 _ rfl (hpb0 r4) (fun j h => by rw [hpbe r4]; exact r5 j h) (fun j h hj => by rw [hpbe r4]; exact r6 j h hj) (v.map st) n1 n2 R1 R2 y1 y2 C1 C2 i1 i2 true true s1 s2 (u.map (snt (nz1 m1) (nz1 m2) c)) 0 0 rfl (by rw [r3, Nat.zero_add]; exact Nat.le_refl _)
              rw [r3, Nat.zero_add, cut_self _ r1, cut_zero _ r1, c0, show pr (0, 1) = .agg [i64 0, i64 1] from rfl, show pr (1, 1) = .agg [i64 1, i64 1] from rfl] at e2
              generalize frow (t.map fun m => wh (nz1 (0 : Int)) (nz1 b) (B (jth t (j : Int))) (B m)) (nz1 b ^ 5) = RV at *
              generalize frow (u.map (snt (nz1 m1) (nz1 m2) c)) (sumO u m1 m2 c) = SV at *
              generalize ((gueO u m1 m2 c : Nat) : Int) = GV at *
              generalize okNz (0 : Int) b = on at *
              simp (maxSteps := 2000000) -implicitDefEqProofs [L3, hbig, k1, k2, d1, d2, d3, d4, p1, p2, p3, p4, p5, p6, p7, p8, p9, p10, p11, p12, p13, p14, v0, w4, w5, w1, w2, w3, e1, vR, q2, q3, q4, hrow, e2, vS]
      · skip
        cases there : (oks u m1 m2 c && decide (0 < sumO u m1 m2 c)) with
        | false =>
          rw [there] at p5 p6 p7 p8
          simp only [if_true, Bool.false_eq_true, if_false] at p5 p6 p7 p8
          cases two : (okNy v n1 n2 && (inR v.length i1 && inR v.length i2)) with
          | false =>
            rw [two] at p9 p10
            cases three : (okNz y1 y2 && (okMarks s1 1 5 && okMarks s2 1 5)) with
            | false =>
              rw [three] at p11 p12
              have e1 := row_sum (t.map fun m => wh (nz1 a) (nz1 b) (B (jth t (j : Int))) (B m)) (by rw [List.length_map]; omega) (nz1 b ^ 5) o3 (by omega) (t.map st) (v.map st) [] a b n1 n2 R1 R2 y1 y2 C1 C2 (j : Int) 0 i1 i2 false false false s1 s2 (t.map fun m => wh (nz1 a) (nz1 b) (B (jth t (j : Int))) (B m)) 0 (nz1 b ^ 5 - sumW (wh (nz1 a) (nz1 b) (B (jth t (j : Int)))) (t.map B)) rfl (Nat.le_of_eq o5)
              rw [o5, cut_self _ o3, c0, show pr (1, 1) = .agg [i64 1, i64 1] from rfl, pr_ints, ← hU1, ← hU2] at e1
              generalize frow (t.map fun m => wh (nz1 a) (nz1 b) (B (jth t (j : Int))) (B m)) (nz1 b ^ 5) = RV at *
              generalize okNz a b = on at *
              simp (maxSteps := 2000000) -implicitDefEqProofs [L3, hbig, k1, k2, d1, d2, d3, d4, p1, p2, p3, p4, p5, p6, p7, p8, p9, p10, p11, p12, p13, p14, v0, e1, vR, q2, q3, q4, ha0]
            | true =>
              rw [three] at p11 p12
              obtain ⟨w4, w5⟩ := hthr three
              unfold nzA at w4
              have e1 := row_sum (t.map fun m => wh (nz1 a) (nz1 b) (B (jth t (j : Int))) (B m)) (by rw [List.length_map]; omega) (nz1 b ^ 5) o3 (by omega) (t.map st) (v.map st) [] a b n1 n2 R1 R2 y1 y2 C1 C2 (j : Int) 0 i1 i2 false false true s1 s2 (t.map fun m => wh (nz1 a) (nz1 b) (B (jth t (j : Int))) (B m)) 0 (nz1 b ^ 5 - sumW (wh (nz1 a) (nz1 b) (B (jth t (j : Int)))) (t.map B)) rfl (Nat.le_of_eq o5)
              rw [o5, cut_self _ o3, c0, show pr (1, 1) = .agg [i64 1, i64 1] from rfl, pr_ints, ← hU1, ← hU2] at e1
              generalize frow (t.map fun m => wh (nz1 a) (nz1 b) (B (jth t (j : Int))) (B m)) (nz1 b ^ 5) = RV at *
              generalize okNz a b = on at *
              simp (maxSteps := 2000000) -implicitDefEqProofs [L3, hbig, k1, k2, d1, d2, d3, d4, p1, p2, p3, p4, p5, p6, p7, p8, p9, p10, p11, p12, p13, p14, v0, w4, w5, e1, vR, q2, q3, q4, ha0]
          | true =>
            rw [two] at p9 p10
            obtain ⟨w1, w2, w3⟩ := htwo two
            unfold nzA at w3
            cases three : (okNz y1 y2 && (okMarks s1 1 5 && okMarks s2 1 5)) with
            | false =>
              rw [three] at p11 p12
              have e1 := row_sum (t.map fun m => wh (nz1 a) (nz1 b) (B (jth t (j : Int))) (B m)) (by rw [List.length_map]; omega) (nz1 b ^ 5) o3 (by omega) (t.map st) (v.map st) [] a b n1 n2 R1 R2 y1 y2 C1 C2 (j : Int) 0 i1 i2 false true false s1 s2 (t.map fun m => wh (nz1 a) (nz1 b) (B (jth t (j : Int))) (B m)) 0 (nz1 b ^ 5 - sumW (wh (nz1 a) (nz1 b) (B (jth t (j : Int)))) (t.map B)) rfl (Nat.le_of_eq o5)
              rw [o5, cut_self _ o3, c0, show pr (1, 1) = .agg [i64 1, i64 1] from rfl, pr_ints, ← hU1, ← hU2] at e1
              generalize frow (t.map fun m => wh (nz1 a) (nz1 b) (B (jth t (j : Int))) (B m)) (nz1 b ^ 5) = RV at *
              generalize okNz a b = on at *
              simp (maxSteps := 2000000) -implicitDefEqProofs [L3, hbig, k1, k2, d1, d2, d3, d4, p1, p2, p3, p4, p5, p6, p7, p8, p9, p10, p11, p12, p13, p14, v0, w1, w2, w3, e1, vR, q2, q3, q4, ha0]
            | true =>
              rw [three] at p11 p12
              obtain ⟨w4, w5⟩ := hthr three
              unfold nzA at w4
              have e1 := row_sum (t.map fun m => wh (nz1 a) (nz1 b) (B (jth t (j : Int))) (B m)) (by rw [List.length_map]; omega) (nz1 b ^ 5) o3 (by omega) (t.map st) (v.map st) [] a b n1 n2 R1 R2 y1 y2 C1 C2 (j : Int) 0 i1 i2 false true true s1 s2 (t.map fun m => wh (nz1 a) (nz1 b) (B (jth t (j : Int))) (B m)) 0 (nz1 b ^ 5 - sumW (wh (nz1 a) (nz1 b) (B (jth t (j : Int)))) (t.map B)) rfl (Nat.le_of_eq o5)
              rw [o5, cut_self _ o3, c0, show pr (1, 1) = .agg [i64 1, i64 1] from rfl, pr_ints, ← hU1, ← hU2] at e1
              generalize frow (t.map fun m => wh (nz1 a) (nz1 b) (B (jth t (j : Int))) (B m)) (nz1 b ^ 5) = RV at *
              generalize okNz a b = on at *
              simp (maxSteps := 2000000) -implicitDefEqProofs [L3, hbig, k1, k2, d1, d2, d3, d4, p1, p2, p3, p4, p5, p6, p7, p8, p9, p10, p11, p12, p13, p14, v0, w4, w5, w1, w2, w3, e1, vR, q2, q3, q4, ha0]
        | true =>
          rw [there] at p5 p6 p7 p8
          simp only [if_true, Bool.false_eq_true, if_false] at p5 p6 p7 p8
          obtain ⟨r1, r2, r3, r4, r5, r6⟩ := hsn there
          have hpb0 : ∀ h : gueO u m1 m2 c < (u.map (snt (nz1 m1) (nz1 m2) c)).length, (u.map (snt (nz1 m1) (nz1 m2) c))[gueO u m1 m2 c]'h ≤ sumO u m1 m2 c := fun h => by
            rw [← r3]
            exact sumN_mem (List.getElem_mem h)
          have hpbe : ∀ h : gueO u m1 m2 c < (u.map (snt (nz1 m1) (nz1 m2) c)).length, (u.map (snt (nz1 m1) (nz1 m2) c))[gueO u m1 m2 c]'h = (u.map (snt (nz1 m1) (nz1 m2) c)).getD (gueO u m1 m2 c) 0 := fun h => by rw [List.getD_eq_getElem?_getD, List.getElem?_eq_getElem h]; rfl
          cases two : (okNy v n1 n2 && (inR v.length i1 && inR v.length i2)) with
          | false =>
            rw [two] at p9 p10
            cases three : (okNz y1 y2 && (okMarks s1 1 5 && okMarks s2 1 5)) with
            | false =>
              rw [three] at p11 p12
              have e1 := row_sum (t.map fun m => wh (nz1 a) (nz1 b) (B (jth t (j : Int))) (B m)) (by rw [List.length_map]; omega) (nz1 b ^ 5) o3 (by omega) (t.map st) (v.map st) (frow (u.map (snt (nz1 m1) (nz1 m2) c)) (sumO u m1 m2 c)) a b n1 n2 R1 R2 y1 y2 C1 C2 (j : Int) ((gueO u m1 m2 c : Nat) : Int) i1 i2 true false false s1 s2 (t.map fun m => wh (nz1 a) (nz1 b) (B (jth t (j : Int))) (B m)) 0 (nz1 b ^ 5 - sumW (wh (nz1 a) (nz1 b) (B (jth t (j : Int)))) (t.map B)) rfl (Nat.le_of_eq o5)
              rw [o5, cut_self _ o3, c0, show pr (1, 1) = .agg [i64 1, i64 1] from rfl, pr_ints, ← hU1, ← hU2] at e1
              have e2 := sent_sum (u.map (snt (nz1 m1) (nz1 m2) c)) (by rw [List.length_map]; omega) (sumO u m1 m2 c) r1 r2 (gueO u m1 m2 c) r4 _ rfl (hpb0 r4) (fun j h => by rw [hpbe r4]; exact r5 j h) (fun j h hj => by rw [hpbe r4]; exact r6 j h hj) (v.map st) n1 n2 R1 R2 y1 y2 C1 C2 i1 i2 false false s1 s2 (u.map (snt (nz1 m1) (nz1 m2) c)) 0 0 rfl (by rw [r3, Nat.zero_add]; exact Nat.le_refl _)
              rw [r3, Nat.zero_add, cut_self _ r1, cut_zero _ r1, c0, show pr (0, 1) = .agg [i64 0, i64 1] from rfl, show pr (1, 1) = .agg [i64 1, i64 1] from rfl] at e2
              generalize frow (t.map fun m => wh (nz1 a) (nz1 b) (B (jth t (j : Int))) (B m)) (nz1 b ^ 5) = RV at *
              generalize frow (u.map (snt (nz1 m1) (nz1 m2) c)) (sumO u m1 m2 c) = SV at *
              generalize ((gueO u m1 m2 c : Nat) : Int) = GV at *
              generalize okNz a b = on at *
              simp (maxSteps := 2000000) -implicitDefEqProofs [L3, hbig, k1, k2, d1, d2, d3, d4, p1, p2, p3, p4, p5, p6, p7, p8, p9, p10, p11, p12, p13, p14, v0, e1, vR, q2, q3, q4, ha0, e2, vS]
            | true =>
              rw [three] at p11 p12
              obtain ⟨w4, w5⟩ := hthr three
              unfold nzA at w4
              have e1 := row_sum (t.map fun m => wh (nz1 a) (nz1 b) (B (jth t (j : Int))) (B m)) (by rw [List.length_map]; omega) (nz1 b ^ 5) o3 (by omega) (t.map st) (v.map st) (frow (u.map (snt (nz1 m1) (nz1 m2) c)) (sumO u m1 m2 c)) a b n1 n2 R1 R2 y1 y2 C1 C2 (j : Int) ((gueO u m1 m2 c : Nat) : Int) i1 i2 true false true s1 s2 (t.map fun m => wh (nz1 a) (nz1 b) (B (jth t (j : Int))) (B m)) 0 (nz1 b ^ 5 - sumW (wh (nz1 a) (nz1 b) (B (jth t (j : Int)))) (t.map B)) rfl (Nat.le_of_eq o5)
              rw [o5, cut_self _ o3, c0, show pr (1, 1) = .agg [i64 1, i64 1] from rfl, pr_ints, ← hU1, ← hU2] at e1
              have e2 := sent_sum (u.map (snt (nz1 m1) (nz1 m2) c)) (by rw [List.length_map]; omega) (sumO u m1 m2 c) r1 r2 (gueO u m1 m2 c) r4 _ rfl (hpb0 r4) (fun j h => by rw [hpbe r4]; exact r5 j h) (fun j h hj => by rw [hpbe r4]; exact r6 j h hj) (v.map st) n1 n2 R1 R2 y1 y2 C1 C2 i1 i2 false true s1 s2 (u.map (snt (nz1 m1) (nz1 m2) c)) 0 0 rfl (by rw [r3, Nat.zero_add]; exact Nat.le_refl _)
              rw [r3, Nat.zero_add, cut_self _ r1, cut_zero _ r1, c0, show pr (0, 1) = .agg [i64 0, i64 1] from rfl, show pr (1, 1) = .agg [i64 1, i64 1] from rfl] at e2
              generalize frow (t.map fun m => wh (nz1 a) (nz1 b) (B (jth t (j : Int))) (B m)) (nz1 b ^ 5) = RV at *
              generalize frow (u.map (snt (nz1 m1) (nz1 m2) c)) (sumO u m1 m2 c) = SV at *
              generalize ((gueO u m1 m2 c : Nat) : Int) = GV at *
              generalize okNz a b = on at *
              simp (maxSteps := 2000000) -implicitDefEqProofs [L3, hbig, k1, k2, d1, d2, d3, d4, p1, p2, p3, p4, p5, p6, p7, p8, p9, p10, p11, p12, p13, p14, v0, w4, w5, e1, vR, q2, q3, q4, ha0, e2, vS]
          | true =>
            rw [two] at p9 p10
            obtain ⟨w1, w2, w3⟩ := htwo two
            unfold nzA at w3
            cases three : (okNz y1 y2 && (okMarks s1 1 5 && okMarks s2 1 5)) with
            | false =>
              rw [three] at p11 p12
              have e1 := row_sum (t.map fun m => wh (nz1 a) (nz1 b) (B (jth t (j : Int))) (B m)) (by rw [List.length_map]; omega) (nz1 b ^ 5) o3 (by omega) (t.map st) (v.map st) (frow (u.map (snt (nz1 m1) (nz1 m2) c)) (sumO u m1 m2 c)) a b n1 n2 R1 R2 y1 y2 C1 C2 (j : Int) ((gueO u m1 m2 c : Nat) : Int) i1 i2 true true false s1 s2 (t.map fun m => wh (nz1 a) (nz1 b) (B (jth t (j : Int))) (B m)) 0 (nz1 b ^ 5 - sumW (wh (nz1 a) (nz1 b) (B (jth t (j : Int)))) (t.map B)) rfl (Nat.le_of_eq o5)
              rw [o5, cut_self _ o3, c0, show pr (1, 1) = .agg [i64 1, i64 1] from rfl, pr_ints, ← hU1, ← hU2] at e1
              have e2 := sent_sum (u.map (snt (nz1 m1) (nz1 m2) c)) (by rw [List.length_map]; omega) (sumO u m1 m2 c) r1 r2 (gueO u m1 m2 c) r4 _ rfl (hpb0 r4) (fun j h => by rw [hpbe r4]; exact r5 j h) (fun j h hj => by rw [hpbe r4]; exact r6 j h hj) (v.map st) n1 n2 R1 R2 y1 y2 C1 C2 i1 i2 true false s1 s2 (u.map (snt (nz1 m1) (nz1 m2) c)) 0 0 rfl (by rw [r3, Nat.zero_add]; exact Nat.le_refl _)
              rw [r3, Nat.zero_add, cut_self _ r1, cut_zero _ r1, c0, show pr (0, 1) = .agg [i64 0, i64 1] from rfl, show pr (1, 1) = .agg [i64 1, i64 1] from rfl] at e2
              generalize frow (t.map fun m => wh (nz1 a) (nz1 b) (B (jth t (j : Int))) (B m)) (nz1 b ^ 5) = RV at *
              generalize frow (u.map (snt (nz1 m1) (nz1 m2) c)) (sumO u m1 m2 c) = SV at *
              generalize ((gueO u m1 m2 c : Nat) : Int) = GV at *
              generalize okNz a b = on at *
              simp (maxSteps := 2000000) -implicitDefEqProofs [L3, hbig, k1, k2, d1, d2, d3, d4, p1, p2, p3, p4, p5, p6, p7, p8, p9, p10, p11, p12, p13, p14, v0, w1, w2, w3, e1, vR, q2, q3, q4, ha0, e2, vS]
            | true =>
              rw [three] at p11 p12
              obtain ⟨w4, w5⟩ := hthr three
              unfold nzA at w4
              have e1 := row_sum (t.map fun m => wh (nz1 a) (nz1 b) (B (jth t (j : Int))) (B m)) (by rw [List.length_map]; omega) (nz1 b ^ 5) o3 (by omega) (t.map st) (v.map st) (frow (u.map (snt (nz1 m1) (nz1 m2) c)) (sumO u m1 m2 c)) a b n1 n2 R1 R2 y1 y2 C1 C2 (j : Int) ((gueO u m1 m2 c : Nat) : Int) i1 i2 true true true s1 s2 (t.map fun m => wh (nz1 a) (nz1 b) (B (jth t (j : Int))) (B m)) 0 (nz1 b ^ 5 - sumW (wh (nz1 a) (nz1 b) (B (jth t (j : Int)))) (t.map B)) rfl (Nat.le_of_eq o5)
              rw [o5, cut_self _ o3, c0, show pr (1, 1) = .agg [i64 1, i64 1] from rfl, pr_ints, ← hU1, ← hU2] at e1
              have e2 := sent_sum (u.map (snt (nz1 m1) (nz1 m2) c)) (by rw [List.length_map]; omega) (sumO u m1 m2 c) r1 r2 (gueO u m1 m2 c) r4 _ rfl (hpb0 r4) (fun j h => by rw [hpbe r4]; exact r5 j h) (fun j h hj => by rw [hpbe r4]; exact r6 j h hj) (v.map st) n1 n2 R1 R2 y1 y2 C1 C2 i1 i2 true true s1 s2 (u.map (snt (nz1 m1) (nz1 m2) c)) 0 0 rfl (by rw [r3, Nat.zero_add]; exact Nat.le_refl _)
              rw [r3, Nat.zero_add, cut_self _ r1, cut_zero _ r1, c0, show pr (0, 1) = .agg [i64 0, i64 1] from rfl, show pr (1, 1) = .agg [i64 1, i64 1] from rfl] at e2
              generalize frow (t.map fun m => wh (nz1 a) (nz1 b) (B (jth t (j : Int))) (B m)) (nz1 b ^ 5) = RV at *
              generalize frow (u.map (snt (nz1 m1) (nz1 m2) c)) (sumO u m1 m2 c) = SV at *
              generalize ((gueO u m1 m2 c : Nat) : Int) = GV at *
              generalize okNz a b = on at *
              simp (maxSteps := 2000000) -implicitDefEqProofs [L3, hbig, k1, k2, d1, d2, d3, d4, p1, p2, p3, p4, p5, p6, p7, p8, p9, p10, p11, p12, p13, p14, v0, w4, w5, w1, w2, w3, e1, vR, q2, q3, q4, ha0, e2, vS]
end Go.Proofs.YtpfefmofecmjjaaDoor.Ev
