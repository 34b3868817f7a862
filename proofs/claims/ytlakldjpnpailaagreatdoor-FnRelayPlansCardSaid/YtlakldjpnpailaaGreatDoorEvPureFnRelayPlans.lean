/- FnRelayPlans: the law, run by the evaluator, answers true. -/
import Derived.Test.YtlakldjpnpailaaGreatDoorEvE1
import Derived.Test.YtlakldjpnpailaaGreatDoorEvRelU
set_option linter.unusedVariables false
set_option linter.unusedSimpArgs false
namespace Go.Proofs.YtlakldjpnpailaaGreatDoor.Ev
open Dr
theorem two_big (x : List Int) : ev E1 4 [.lst 1 (cd x)] [] = some (bl (decide (65536 < (x.length : Int))), []) := by
  rw [g4]
  exact frz_to rfl (rbig x) (by simp) (by simp)
theorem two_ints (l : List Int) (hm : l.length ≤ 140737488355328) : ev E1 12 [.lst 1 (i64s l), .lst 1 (i64s l)] [] = some (bl true, []) := by
  rw [g12]
  exact frz_to rfl (rints l hm) (by simp) (by simp)
theorem two_planD (x : List Int) (hx : okC x) : ∃ (n : Int) (l : List J) (pl : List Hh), l.length ≤ 12 ∧ pl.length ≤ 25 ∧ ev E1 5 [.lst 1 (cd x)] [] = some (.tup [i64 n, .lst 4 (l.map jb), .lst 3 (pl.map hp)], []) := by
  obtain ⟨n, l, pl, h1, h2, e⟩ := draw_plan x hx
  rw [g5]
  have t1 : List.take l.length (l.map jb) = l.map jb := List.take_of_length_le (by simp)
  have t2 : List.take pl.length (pl.map hp) = pl.map hp := List.take_of_length_le (by simp)
  exact ⟨n, l, pl, h1, h2, frz_to rfl e (by simp) (by simp [rj, hb, t1, t2])⟩
theorem two_busyD (x : List Int) (hx : okC x) : ∃ (n : Int) (l : List J) (pl : List Hh) (u : Int), l.length ≤ 12 ∧ pl.length ≤ 25 ∧ ev E1 20 [.lst 1 (cd x)] [] = some (.tup [i64 n, .lst 4 (l.map jb), .lst 3 (pl.map hp), i64 u], []) := by
  obtain ⟨n, l, pl, u, h1, h2, e⟩ := draw_busy x hx
  rw [g20]
  have t1 : List.take l.length (l.map jb) = l.map jb := List.take_of_length_le (by simp)
  have t2 : List.take pl.length (pl.map hp) = pl.map hp := List.take_of_length_le (by simp)
  exact ⟨n, l, pl, u, h1, h2, frz_to rfl e (by simp) (by simp [rj, hb, t1, t2])⟩
theorem two_jobD (x : List Int) (hx : okC x) : ∃ (n : Int) (j : J), ev E1 15 [.lst 1 (cd x)] [] = some (.tup [i64 n, jb j], []) := by
  obtain ⟨n, j, e⟩ := draw_job x hx
  rw [g15]
  exact ⟨n, j, frz_to rfl e (by simp) (by simp [jb])⟩
theorem two_isPlan (n : Int) (js : List J) (pl : List Hh) (hpl : pl.length ≤ 1099511627776) : ev E1 7 [i64 n, .lst 4 (js.map jb), .lst 3 (pl.map hp)] [] = some (.tup [bl (planT n js pl), bl (okJobs n js)], []) ∧ ev E1 6 [i64 n, .lst 4 (js.map jb), .lst 3 (pl.map hp)] [] = some (.tup [bl (planT n js pl), bl (okJobs n js)], []) := by
  rw [g7, g6]
  exact ⟨frz_to rfl (isPlanF_s n js pl hpl) (by simp) (by simp), frz_to rfl (isPlanF_i n js pl hpl) (by simp) (by simp)⟩
theorem two_end (n : Int) (js : List J) (pl : List Hh) (hpl : pl.length ≤ 1099511627776) : ev E1 9 [i64 n, .lst 4 (js.map jb), .lst 3 (pl.map hp)] [] = some (.tup [i64 (endV n js pl), bl (planT n js pl)], []) ∧ ev E1 8 [i64 n, .lst 4 (js.map jb), .lst 3 (pl.map hp)] [] = some (.tup [i64 (endV n js pl), bl (planT n js pl)], []) := by
  rw [g9, g8]
  exact ⟨frz_to rfl (endOf_s n js pl hpl) (by simp) (by simp), frz_to rfl (endOf_i n js pl hpl) (by simp) (by simp)⟩
theorem two_text (n : Int) (js : List J) (pl : List Hh) (hpl : pl.length ≤ 1099511627776) : ev E1 14 [i64 n, .lst 4 (js.map jb), .lst 3 (pl.map hp)] [] = some (.tup [st (planTx n js pl), bl (planT n js pl)], []) ∧ ev E1 13 [i64 n, .lst 4 (js.map jb), .lst 3 (pl.map hp)] [] = some (.tup [st (planTx n js pl), bl (planT n js pl)], []) := by
  rw [g14, g13]
  exact ⟨frz_to rfl (planText_s n js pl hpl) (by simp) (by simp), frz_to rfl (planText_i n js pl hpl) (by simp) (by simp)⟩
theorem two_waits (n : Int) (js : List J) (pl : List Hh) (hpl : pl.length ≤ 1099511627776) (hjl : js.length ≤ 12) : ∃ W : List Int, W.length ≤ 12 ∧ ev E1 11 [i64 n, .lst 4 (js.map jb), .lst 3 (pl.map hp)] [] = some (.tup [.lst 1 (i64s W), bl (planT n js pl)], []) ∧ ev E1 10 [i64 n, .lst 4 (js.map jb), .lst 3 (pl.map hp)] [] = some (.tup [.lst 1 (i64s W), bl (planT n js pl)], []) := by
  rw [g11, g10]
  cases h : planT n js pl with
  | false =>
    obtain ⟨p1, p2⟩ := waitsOf_no n js pl hpl h
    exact ⟨[], by simp, frz_to rfl p1 (by simp) (by simp [ri, i64s]), frz_to rfl p2 (by simp) (by simp [ri, i64s])⟩
  | true =>
    obtain ⟨p1, p2⟩ := waitsOf_yes n js pl hpl h
    have hl := waitK_len js pl
    have t1 : List.take js.length (i64s (waitK js pl)) = i64s (waitK js pl) := List.take_of_length_le (by rw [i64s_len]; omega)
    have t2 : js.length ≤ (i64s (waitK js pl)).length := by rw [i64s_len]; omega
    exact ⟨waitK js pl, by omega, frz_to rfl p1 (by simp) (by simp [ri, t1, t2]), frz_to rfl p2 (by simp) (by simp [ri, t1, t2])⟩
theorem two_busy (n : Int) (js : List J) (pl : List Hh) (u : Int) (hpl : pl.length ≤ 1099511627776) : ∃ W : List Int, W.length ≤ 6 ∧ W.length % 2 = 0 ∧ ((∀ h ∈ pl, endP js h ≤ u) → W = []) ∧ ev E1 22 [i64 n, .lst 4 (js.map jb), .lst 3 (pl.map hp), i64 u] [] = some (.tup [.lst 1 (i64s W), bl (busyT n js pl u)], []) ∧ ev E1 21 [i64 n, .lst 4 (js.map jb), .lst 3 (pl.map hp), i64 u] [] = some (.tup [.lst 1 (i64s W), bl (busyT n js pl u)], []) := by
  rw [g22, g21]
  cases h : busyT n js pl u with
  | false =>
    obtain ⟨p1, p2⟩ := busyAt_no n js pl u hpl h
    exact ⟨[], by simp, rfl, fun _ => rfl, frz_to rfl p1 (by simp) (by simp [ri, i64s]), frz_to rfl p2 (by simp) (by simp [ri, i64s])⟩
  | true =>
    obtain ⟨l, hl, p1, p2, p3⟩ := busyAt_yes n js pl u hpl h
    have t1 : List.take l.length (i64s l) = i64s l := List.take_of_length_le (by rw [i64s_len]; omega)
    have t2 : l.length ≤ (i64s l).length := by rw [i64s_len]; omega
    refine ⟨l, hl, by rw [p3]; exact busy_even js u pl, fun hh => List.eq_nil_of_length_eq_zero (by rw [p3, busy_none hh]; rfl), frz_to rfl p1 (by simp) (by simp [ri, t1, t2]), frz_to rfl p2 (by simp) (by simp [ri, t1, t2])⟩
theorem two_isJob (n : Int) (j : J) : ev E1 17 [i64 n, jb j] [] = some (.tup [bl (btw n 2 6 && okJob n j), bl (btw n 2 6)], []) ∧ ev E1 16 [i64 n, jb j] [] = some (.tup [bl (btw n 2 6 && okJob n j), bl (btw n 2 6)], []) := by
  rw [g17, g16]
  exact ⟨frz_to rfl (isJob_s n j) (by simp [jb]) (by simp), frz_to rfl (isJob_i n j) (by simp [jb]) (by simp)⟩
theorem two_steps (n : Int) (j : J) : ev E1 19 [i64 n, jb j] [] = some (.tup [i64 (stepV n j), bl (btw n 2 6 && okJob n j)], []) ∧ ev E1 18 [i64 n, jb j] [] = some (.tup [i64 (stepV n j), bl (btw n 2 6 && okJob n j)], []) := by
  rw [g19, g18]
  exact ⟨frz_to rfl (stepsOf_s n j) (by simp [jb]) (by simp), frz_to rfl (stepsOf_i n j) (by simp [jb]) (by simp)⟩
set_option maxRecDepth 20000 in
set_option maxHeartbeats 4000000 in
theorem FnRelayPlans (x0 : List Int) (b0 : x0.length ≤ maxLen ∧ ∀ y ∈ x0, (Lit.int .u8 y).wf = true) : ev E1 3 [(AV.lst 1 (x0.map (fun q : Int => (AV.v (.int .u8 q)))))] [] = some (bl true, []) := by
  obtain ⟨hl0, hw0⟩ := b0
  show ev E1 3 [.lst 1 (cd x0)] [] = _
  have hbig := two_big x0
  rw [g3]
  unfold runF
  by_cases hb : (65536 : Int) < (x0.length : Int)
  · rw [decide_eq_true hb] at hbig
    simp -implicitDefEqProofs [L3, hbig]
  · rw [decide_eq_false hb] at hbig
    have hx : okC x0 := okC_law (by omega) hw0
    obtain ⟨n, l, pl, z1, z2, d1⟩ := two_planD x0 hx
    obtain ⟨m, j, d2⟩ := two_jobD x0 hx
    obtain ⟨k, l2, pl2, u, z3, z4, d3⟩ := two_busyD x0 hx
    obtain ⟨p1, p2⟩ := two_isPlan n l pl (by omega)
    obtain ⟨p3, p4⟩ := two_end n l pl (by omega)
    obtain ⟨W, z5, p5, p6⟩ := two_waits n l pl (by omega) z1
    obtain ⟨p7, p8⟩ := two_text n l pl (by omega)
    obtain ⟨p9, p10⟩ := two_isJob m j
    obtain ⟨p11, p12⟩ := two_steps m j
    obtain ⟨V, z6, z7, _, p13, p14⟩ := two_busy k l2 pl2 u (by omega)
    obtain ⟨N, z8, _, z9, p15, p16⟩ := two_busy n l pl (endV n l pl) (by omega)
    have i1 := two_ints W (by omega)
    have i2 := two_ints V (by omega)
    have i3 := two_ints N (by omega)
    have hst := stepV_in m j
    have hmod : (V.length : Int).tmod 2 = 0 := by
      have : (V.length : Int).tmod 2 = ((V.length % 2 : Nat) : Int) := rfl
      rw [this, z7]; rfl
    have hwm : IntKind.i64.wrap 0 = 0 := by decide
    have hNN : planT n l pl = true → N = [] ∧ busyT n l pl (endV n l pl) = true := by
      intro h
      have he : endV n l pl = endF l pl 0 := by unfold endV; rw [if_pos h]
      refine ⟨z9 fun q hq => by rw [he]; exact (endF_ge l pl 0).2 q hq, ?_⟩
      have h0 := (endF_ge l pl 0).1
      unfold planT at h
      unfold busyT
      rw [h, he, decide_eq_false (by omega)]
      rfl
    have hpo : planT n l pl = true → okJobs n l = true := by
      intro h
      unfold planT at h
      rw [Bool.and_eq_true] at h
      exact h.1
    generalize endV n l pl = E at *
    generalize planTx n l pl = T at *
    generalize stepV m j = sv at *
    generalize busyT k l2 pl2 u = bt at *
    generalize busyT n l pl E = bt2 at *
    generalize planT n l pl = ip at *
    generalize okJobs n l = ok at *
    generalize btw m 2 6 = c1 at *
    generalize okJob m j = c2 at *
    generalize l.map jb = Lj at *
    generalize pl.map hp = Lp at *
    generalize l2.map jb = Lj2 at *
    generalize pl2.map hp = Lp2 at *
    have hcc : (c1 && c2) = true → c1 = true := fun h => ((Bool.and_eq_true _ _).mp h).1
    generalize (c1 && c2) = cc at *
    obtain ⟨q1, q2, q3, q4⟩ := j
    unfold jb at d2 p9 p10 p11 p12
    have hlv : (i64s V).length = V.length := i64s_len V
    cases ip with
    | false =>
      cases cc with
      | false =>
        cases c1 <;> cases ok <;> simp (maxSteps := 1000000) -implicitDefEqProofs [L3, hbig, d1, d2, d3, p1, p2, p3, p4, p5, p6, p7, p8, p9, p10, p11, p12, p13, p14, i1, i2, hlv, hmod, hwm]
      | true =>
        obtain rfl := hcc rfl
        obtain ⟨s1, s2⟩ := hst rfl
        have s3 : ¬ sv < 1 := by omega
        have s4 : ¬ m ≤ sv := by omega
        cases ok <;> simp (maxSteps := 1000000) -implicitDefEqProofs [L3, hbig, d1, d2, d3, p1, p2, p3, p4, p5, p6, p7, p8, p9, p10, p11, p12, p13, p14, i1, i2, hlv, hmod, hwm, s1, s2, s3, s4]
    | true =>
      obtain ⟨hN, hb2⟩ := hNN rfl
      have hok := hpo rfl
      subst hN hb2 hok
      have e0 : i64s [] = [] := rfl
      rw [e0] at p15 p16
      cases cc with
      | false =>
        cases c1 <;> simp (maxSteps := 1000000) -implicitDefEqProofs [L3, hbig, d1, d2, d3, p1, p2, p3, p4, p5, p6, p7, p8, p9, p10, p11, p12, p13, p14, p16, i1, i2, hlv, hmod, hwm]
      | true =>
        obtain rfl := hcc rfl
        obtain ⟨s1, s2⟩ := hst rfl
        have s3 : ¬ sv < 1 := by omega
        have s4 : ¬ m ≤ sv := by omega
        simp (maxSteps := 1000000) -implicitDefEqProofs [L3, hbig, d1, d2, d3, p1, p2, p3, p4, p5, p6, p7, p8, p9, p10, p11, p12, p13, p14, p16, i1, i2, hlv, hmod, hwm, s1, s2, s3, s4]
end Go.Proofs.YtlakldjpnpailaaGreatDoor.Ev
