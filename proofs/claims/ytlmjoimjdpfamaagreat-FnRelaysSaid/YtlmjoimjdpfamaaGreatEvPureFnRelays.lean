/- FnRelays: the law, run by the evaluator, answers true. -/
import Derived.Test.YtlmjoimjdpfamaaGreatEvE1
import Derived.Test.YtlmjoimjdpfamaaGreatEvRelZ9
set_option linter.unusedVariables false
set_option linter.unusedSimpArgs false
namespace Go.Proofs.YtlmjoimjdpfamaaGreat.Ev
open Dr
theorem two_big (x : List Int) : ev E1 4 [.lst 1 (cd x)] [] = some (bl (decide (65536 < (x.length : Int))), []) := by
  rw [g4]
  exact frz_to rfl (rbig x) (by simp) (by simp)
theorem two_ints (l : List Int) (hm : l.length ≤ 140737488355328) : ev E1 12 [.lst 1 (i64s l), .lst 1 (i64s l)] [] = some (bl true, []) := by
  rw [g12]
  exact frz_to rfl (rints l hm) (by simp) (by simp)
theorem two_orderD (x : List Int) (hx : okC x) : ∃ (n : Int) (l : List J) (o : List Int), l.length ≤ 12 ∧ o.length = l.length ∧ ev E1 5 [.lst 1 (cd x)] [] = some (.tup [i64 n, .lst 4 (l.map jb), .lst 1 (o.map i64)], []) := by
  obtain ⟨n, l, o, h1, h2, e⟩ := draw_order x hx
  rw [g5]
  have t1 : List.take l.length (l.map jb) = l.map jb := List.take_of_length_le (by simp)
  have t2 : List.take o.length (o.map i64) = o.map i64 := List.take_of_length_le (by simp)
  exact ⟨n, l, o, h1, h2, frz_to rfl e (by simp) (by simp [Dr.rj, Dr.ib, t1, t2])⟩
theorem two_streamD (x : List Int) (hx : okC x) : ∃ m s k : Int, ev E1 15 [.lst 1 (cd x)] [] = some (.tup [i64 m, i64 s, i64 k], []) := by
  obtain ⟨m, s, k, e⟩ := draw_stream x hx
  rw [g15]
  exact ⟨m, s, k, frz_to rfl e (by simp) (by simp)⟩
theorem two_pio (n : Int) (js : List J) (l : List Int) (hm : l.length ≤ 1099511627776) : ev E1 7 [i64 n, .lst 4 (js.map jb), .lst 1 (l.map i64)] [] = some (.tup [.lst 3 ((pioV n js l).map hp), bl (pioT n js l)], []) ∧ ev E1 6 [i64 n, .lst 4 (js.map jb), .lst 1 (l.map i64)] [] = some (.tup [.lst 3 ((pioV n js l).map hp), bl (pioT n js l)], []) := by
  rw [g7, g6]
  have p1 := pio_s n js l hm
  have p2 := pio_i n js l hm
  have t1 : List.take (pioV n js l).length ((pioV n js l).map hp) = (pioV n js l).map hp := List.take_of_length_le (by simp)
  refine ⟨frz_to rfl p1 (by simp) (by simp [rh, t1]), ?_⟩
  cases h : pioT n js l with
  | false =>
    rw [h] at p2
    have hq : pioV n js l = [] := by unfold pioV; rw [h]; rfl
    rw [hq]
    simp only [Bool.false_eq_true, if_false] at p2
    exact frz_to rfl p2 (by simp) (by simp)
  | true =>
    rw [h] at p2
    simp only [if_true] at p2
    exact frz_to rfl p2 (by simp) (by simp [rh, t1])
theorem two_least (n : Int) (js : List J) : ev E1 9 [i64 n, .lst 4 (js.map jb)] [] = some (.tup [i64 (leV n js), bl (okJobs n js)], []) ∧ ev E1 8 [i64 n, .lst 4 (js.map jb)] [] = some (.tup [i64 (leV n js), bl (okJobs n js)], []) := by
  rw [g9, g8]
  exact ⟨frz_to rfl (leastEnd_s n js) (by simp) (by simp), frz_to rfl (leastEnd_i n js) (by simp) (by simp)⟩
def bestL (n : Int) (js : List J) : List Int := if okJobs n js = true then (boV n js).1.map fun k : Nat => (k : Int) else []
def bestE (n : Int) (js : List J) : Int := if okJobs n js = true then (boV n js).2 else 0
theorem iN_i64s (l : List Nat) : l.map iN = i64s (l.map fun k : Nat => (k : Int)) := by unfold i64s; rw [List.map_map]; rfl
theorem two_best (n : Int) (js : List J) : ev E1 11 [i64 n, .lst 4 (js.map jb)] [] = some (.tup [.lst 1 (i64s (bestL n js)), i64 (bestE n js), bl (okJobs n js)], []) ∧ ev E1 10 [i64 n, .lst 4 (js.map jb)] [] = some (.tup [.lst 1 (i64s (bestL n js)), i64 (bestE n js), bl (okJobs n js)], []) := by
  rw [g11, g10]
  unfold bestL bestE
  cases h : okJobs n js with
  | false => exact ⟨frz_to rfl (best_s_no n js h) (by simp) (by simp [ri0, i64s]), frz_to rfl (best_i_no n js h) (by simp) (by simp [i64s])⟩
  | true =>
    have p1 := best_s_yes n js h
    unfold rwN at p1
    rw [iN_i64s] at p1
    rw [if_pos rfl, if_pos rfl]
    refine ⟨frz_to rfl p1 (by simp) (by simp), ?_⟩
    by_cases hne : js = []
    · subst hne
      rw [show boV n [] = ([], 0) from rfl]
      exact frz_to rfl (best_i_nil n h) (by simp) (by simp [i64s])
    · have p2 := best_i_yes n js h hne
      unfold rI at p2
      rw [iN_i64s] at p2
      have hl : ((boV n js).1.map fun k : Nat => (k : Int)).length = (boV n js).1.length := List.length_map _
      generalize ((boV n js).1.map fun k : Nat => (k : Int)) = V at *
      have t1 : List.take (boV n js).1.length (i64s V) = i64s V := List.take_of_length_le (by rw [i64s_len]; omega)
      have t2 : (boV n js).1.length ≤ (i64s V).length := by rw [i64s_len]; omega
      exact frz_to rfl p2 (by simp) (by simp [t1, t2])
theorem two_loads (n : Int) (js : List J) : ev E1 14 [i64 n, .lst 4 (js.map jb)] [] = some (.tup [.lst 1 (i64s (ldsV n js)), bl (okJobs n js)], []) ∧ ev E1 13 [i64 n, .lst 4 (js.map jb)] [] = some (.tup [.lst 1 (i64s (ldsV n js)), bl (okJobs n js)], []) := by
  rw [g14, g13]
  have p1 := loadsOf_s n js
  have p2 := loadsOf_i n js
  have t1 : List.take (ldsV n js).length ((ldsV n js).map i64) = (ldsV n js).map i64 := List.take_of_length_le (by simp)
  refine ⟨frz_to rfl p1 (by simp) (by simp [rwI, t1, i64s]), ?_⟩
  cases h : okJobs n js with
  | false =>
    rw [h] at p2
    have hq : ldsV n js = [] := by unfold ldsV; rw [h]; rfl
    rw [hq]
    simp only [Bool.false_eq_true, if_false] at p2
    exact frz_to rfl p2 (by simp) (by simp [i64s])
  | true =>
    rw [h] at p2
    simp only [if_true] at p2
    exact frz_to rfl p2 (by simp) (by simp [rwI, t1, i64s])
theorem two_stream (n s k : Int) : ev E1 17 [i64 n, i64 s, i64 k] [] = some (.tup [i64 (streamV n s k), bl (okStream n s k)], []) ∧ ev E1 16 [i64 n, i64 s, i64 k] [] = some (.tup [i64 (streamV n s k), bl (okStream n s k)], []) := by
  rw [g17, g16]
  exact ⟨frz_to rfl (stream_s n s k) (by simp) (by simp), frz_to rfl (stream_i n s k) (by simp) (by simp)⟩
theorem two_isPlan (n : Int) (js : List J) (pl : List Hh) (hpl : pl.length ≤ 1099511627776) : ev E1 18 [i64 n, .lst 4 (js.map jb), .lst 3 (pl.map hp)] [] = some (.tup [bl (planT n js pl), bl (okJobs n js)], []) := by
  rw [g18]
  exact frz_to rfl (isPlanF_i n js pl hpl) (by simp) (by simp)
theorem two_end (n : Int) (js : List J) (pl : List Hh) (hpl : pl.length ≤ 1099511627776) : ev E1 19 [i64 n, .lst 4 (js.map jb), .lst 3 (pl.map hp)] [] = some (.tup [i64 (endV n js pl), bl (planT n js pl)], []) := by
  rw [g19]
  exact frz_to rfl (endOf_i n js pl hpl) (by simp) (by simp)
theorem two_waits (n : Int) (js : List J) (pl : List Hh) (hpl : pl.length ≤ 1099511627776) (hjl : js.length ≤ 12) (h : planT n js pl = true) : ev E1 20 [i64 n, .lst 4 (js.map jb), .lst 3 (pl.map hp)] [] = some (.tup [.lst 1 (i64s (waitK js pl)), bl true], []) := by
  rw [g20]
  have p2 := waits_i n js pl hpl h
  have hl := waitK_len js pl
  have t1 : List.take js.length (i64s (waitK js pl)) = i64s (waitK js pl) := List.take_of_length_le (by rw [i64s_len]; omega)
  have t2 : js.length ≤ (i64s (waitK js pl)).length := by rw [i64s_len]; omega
  exact frz_to rfl p2 (by simp) (by simp [ri, t1, t2])
theorem pl_loop (A0 : AV) (n : Int) (JL : List AV) (ok : Bool) (hA : A0 = .lst 1 [] ∨ ∃ q, A0 = .lst 1 q) (pl : List Hh) (hm : pl.length ≤ 1000) : ∀ (t : List Hh) (i : Nat), pl.drop i = t →
    packX 0 [0, 2, 3, 4, 6, 7] (loopW (bd E1 (ev E1) loopW 0 [0, 3, 4, 6, 7, 8, 10] L3b0) ⟨[(0, A0), (3, i64 n), (4, .lst 4 JL), (6, .lst 3 (pl.map hp)), (7, bl ok), (8, .lst 3 (pl.map hp)), (10, i64 i)], []⟩) = some (.ext 0, ⟨[(0, A0), (3, i64 n), (4, .lst 4 JL), (6, .lst 3 (pl.map hp)), (7, bl ok)], []⟩) := by
  obtain ⟨A, rfl⟩ : ∃ q, A0 = .lst 1 q := by rcases hA with h | h; exact ⟨_, h⟩; exact h
  intro t
  induction t with
  | nil =>
    intro i h
    have hi := not_drop h
    have hi2 : ¬ (i : Int) < (pl.length : Int) := by omega
    rw [loopW_eq]
    generalize loopW (bd E1 (ev E1) loopW 0 [0, 3, 4, 6, 7, 8, 10] L3b0) = K
    simp -implicitDefEqProofs [bd, L3b0, hi, hi2]
  | cons y t ih =>
    intro i h
    obtain ⟨hi, hx, hd, hmem⟩ := at_drop h
    have hi2 : (i : Int) < (pl.length : Int) := by omega
    have hih := ih (i + 1) hd
    have hw : IntKind.i64.wrap ((i : Int) + 1) = (i : Int) + 1 := wr64 (by omega) (by omega)
    rw [cs1] at hih
    rw [loopW_eq]
    generalize loopW (bd E1 (ev E1) loopW 0 [0, 3, 4, 6, 7, 8, 10] L3b0) = K at hih ⊢
    obtain ⟨a, b, c⟩ := y
    unfold hp at *
    simpa -implicitDefEqProofs [bd, L3b0, hi, hi2, hx, hw] using hih
theorem wt_loop (W : List Int) (hm : W.length ≤ 1000) (hW : ∀ w ∈ W, 0 ≤ w) : ∀ (t : List Int) (i : Nat), W.drop i = t →
    packX 0 [2] (loopW (bd E1 (ev E1) loopW 0 [37, 39] L3b1) ⟨[(37, .lst 1 (i64s W)), (39, i64 i)], []⟩) = some (.ext 2, ⟨[], []⟩) := by
  intro t
  unfold i64s
  induction t with
  | nil =>
    intro i h
    have hi := not_drop h
    have hi2 : ¬ (i : Int) < (W.length : Int) := by omega
    rw [loopW_eq]
    generalize loopW (bd E1 (ev E1) loopW 0 [37, 39] L3b1) = K
    simp -implicitDefEqProofs [bd, L3b1, hi, hi2]
  | cons y t ih =>
    intro i h
    obtain ⟨hi, hx, hd, hmem⟩ := at_drop h
    have hi2 : (i : Int) < (W.length : Int) := by omega
    have hih := ih (i + 1) hd
    have hy : ¬ y < 0 := by have := hW y hmem; omega
    have hw : IntKind.i64.wrap ((i : Int) + 1) = (i : Int) + 1 := wr64 (by omega) (by omega)
    rw [cs1] at hih
    rw [loopW_eq]
    generalize loopW (bd E1 (ev E1) loopW 0 [37, 39] L3b1) = K at hih ⊢
    simpa -implicitDefEqProofs [bd, L3b1, hi, hi2, hx, hw, hy] using hih
theorem end_facts {n : Int} {js : List J} (h : okJobs n js = true) : ¬ bestE n js < leV n js := by
  obtain ⟨hl, hj⟩ := okJobs_jb h
  obtain ⟨od, hf, hb⟩ := bo_is (n := n) hl
  unfold bestE leV
  rw [if_pos h, if_pos h, hb]
  have := least_le hj hl hf n
  dsimp only
  omega
theorem own_facts {n : Int} {js : List J} {o : List Int} (h : pioT n js o = true) : okJobs n js = true ∧ planT n js (pioV n js o) = true ∧ ¬ endV n js (pioV n js o) < leV n js ∧ ¬ endV n js (pioV n js o) < bestE n js ∧ ∀ w ∈ waitK js (pioV n js o), 0 ≤ w := by
  have h0 := h
  unfold pioT at h
  rw [Bool.and_eq_true] at h
  obtain ⟨hl, hj⟩ := okJobs_jb h.1
  have hf := ord_full h.2
  have hV : pioV n js o = planF js (o.map Int.toNat) [] := by unfold pioV; rw [if_pos h0]
  have hP := planF_plan js hj hl (o.map Int.toNat) hf.nd hf.lt hf.len hf.all
  have hT : planT n js (pioV n js o) = true := by unfold planT; rw [h.1, hV, hP]; rfl
  have hE : endV n js (pioV n js o) = endO js (o.map Int.toNat) := by unfold endV endO; rw [if_pos hT, hV]
  refine ⟨h.1, hT, ?_, ?_, ?_⟩
  · rw [hE]
    unfold leV
    rw [if_pos h.1]
    have := least_le hj hl hf n
    omega
  · rw [hE]
    unfold bestE
    rw [if_pos h.1]
    have := bo_least (n := n) hl hf
    omega
  · rw [hV]
    exact waits_nn hj hl hf
set_option maxRecDepth 20000 in
set_option maxHeartbeats 4000000 in
theorem FnRelays (x0 : List Int) (b0 : x0.length ≤ maxLen ∧ ∀ y ∈ x0, (Lit.int .u8 y).wf = true) : ev E1 3 [(AV.lst 1 (x0.map (fun q : Int => (AV.v (.int .u8 q)))))] [] = some (bl true, []) := by
  obtain ⟨hl0, hw0⟩ := b0
  show ev E1 3 [.lst 1 (cd x0)] [] = _
  have hbig := two_big x0
  rw [g3]
  unfold runF
  by_cases hb : (65536 : Int) < (x0.length : Int)
  · rw [decide_eq_true hb] at hbig
    simp -implicitDefEqProofs [L3, hbig]
  · rw [decide_eq_false hb] at hbig
    have hx : okC x0 := okC_law (by omega) hw0
    obtain ⟨n, l, o, z1, z2, d1⟩ := two_orderD x0 hx
    obtain ⟨m, s, k, d2⟩ := two_streamD x0 hx
    obtain ⟨p1, p2⟩ := two_pio n l o (by omega)
    obtain ⟨p3, p4⟩ := two_least n l
    obtain ⟨p5, p6⟩ := two_best n l
    obtain ⟨p7, p8⟩ := two_loads n l
    obtain ⟨p9, p10⟩ := two_stream m s k
    have hpl := pioV_len n l o
    have lp := pl_loop (.lst 1 (cd x0)) n (l.map jb) (pioT n l o) (.inr ⟨_, rfl⟩) (pioV n l o) (by omega) (pioV n l o) 0 rfl
    rw [c0] at lp
    have i1 : ev E1 12 [.lst 1 (i64s (bestL n l)), .lst 1 (i64s (bestL n l))] [] = some (bl true, []) := two_ints _ (by
      unfold bestL
      cases h : okJobs n l with
      | false => simp
      | true =>
        obtain ⟨od, hf, hbo⟩ := bo_is (n := n) (okJobs_jb h).1
        rw [if_pos rfl, hbo, List.length_map, hf.len]
        omega)
    have i2 : ev E1 12 [.lst 1 (i64s (ldsV n l)), .lst 1 (i64s (ldsV n l))] [] = some (bl true, []) := two_ints _ (by
      unfold ldsV
      cases h : okJobs n l with
      | false => simp
      | true =>
        obtain ⟨_, h6, hn, _⟩ := okJobs_nb h
        simp [loadL]
        omega)
    have hst := stream_val m s k
    have hbd : okStream m s k = true → 2 ≤ m ∧ m ≤ 6 ∧ 1 ≤ s ∧ s ≤ 60 ∧ 1 ≤ k ∧ k ≤ 5 := by
      intro h
      unfold okStream btw at h
      simp only [Bool.and_eq_true, decide_eq_true_eq] at h
      omega
    have hef := end_facts (n := n) (js := l)
    have hof := own_facts (n := n) (js := l) (o := o)
    have hwt : pioT n l o = true → ∃ W : List Int, W.length = l.length ∧ (∀ w ∈ W, 0 ≤ w) ∧ ev E1 20 [i64 n, .lst 4 (l.map jb), .lst 3 ((pioV n l o).map hp)] [] = some (.tup [.lst 1 (i64s W), bl true], []) := fun h => ⟨waitK l (pioV n l o), waitK_len _ _, (hof h).2.2.2.2, two_waits n l _ (by omega) z1 (hof h).2.1⟩
    have p11 := two_isPlan n l (pioV n l o) (by omega)
    have p12 := two_end n l (pioV n l o) (by omega)
    have hlj : (l.map jb).length = l.length := by simp
    generalize endV n l (pioV n l o) = OE at *
    generalize planT n l (pioV n l o) = pt at *
    have hof2 : pioT n l o = true → okJobs n l = true ∧ pt = true ∧ ¬ OE < leV n l ∧ ¬ OE < bestE n l := fun h => ⟨(hof h).1, (hof h).2.1, (hof h).2.2.1, (hof h).2.2.2.1⟩
    clear hof
    have hpp : ((pioV n l o).map hp).length = (pioV n l o).length := by simp
    generalize pioV n l o = P at *
    generalize pioT n l o = ok at *
    generalize leV n l = le at *
    generalize bestE n l = be at *
    generalize i64s (bestL n l) = BL at *
    generalize i64s (ldsV n l) = LL at *
    generalize okJobs n l = oj at *
    generalize streamV m s k = sv at *
    generalize okStream m s k = os at *
    generalize l.map jb = Lj at *
    generalize P.map hp = Lp at *
    generalize o.map i64 = Lo at *
    cases os with
    | false =>
      cases ok with
      | false =>
        cases oj with
        | false => simp (maxSteps := 1000000) -implicitDefEqProofs [L3, hbig, d1, d2, p1, p2, p3, p4, p5, p6, p7, p8, p9, p10, lp, i1, i2]
        | true =>
          have hef2 := hef rfl
          simp (maxSteps := 1000000) -implicitDefEqProofs [L3, hbig, d1, d2, p1, p2, p3, p4, p5, p6, p7, p8, p9, p10, lp, i1, i2, hef2]
      | true =>
        obtain ⟨rfl, rfl, o1, o2⟩ := hof2 rfl
        have hef2 := hef rfl
        obtain ⟨W, w1, w2, w3⟩ := hwt rfl
        have wl := wt_loop W (by omega) w2 W 0 rfl
        rw [c0] at wl
        have wlen : (i64s W).length = Lj.length := by rw [i64s_len]; omega
        simp (maxSteps := 1000000) -implicitDefEqProofs [L3, hbig, d1, d2, p1, p2, p3, p4, p5, p6, p7, p8, p9, p10, p11, p12, lp, i1, i2, hef2, o1, o2, w3, wl, wlen]
    | true =>
      obtain ⟨m1, m2, s1, s2, k1, k2⟩ := hbd rfl
      have hst2 := hst rfl
      have v1 : 0 ≤ s * (k - 1) ∧ s * (k - 1) ≤ 60 * 4 := ⟨Int.mul_nonneg (by omega) (by omega), Int.mul_le_mul (by omega) (by omega) (by omega) (by omega)⟩
      have v2 : 0 ≤ (m - 1) * s ∧ (m - 1) * s ≤ 5 * 60 := ⟨Int.mul_nonneg (by omega) (by omega), Int.mul_le_mul (by omega) (by omega) (by omega) (by omega)⟩
      have v3 : 2 * s * (k - 1) = 2 * (s * (k - 1)) := Int.mul_assoc ..
      have u1 : IntKind.i64.wrap (2 * s) = 2 * s := wr64 (by omega) (by omega)
      have u2 : IntKind.i64.wrap (k - 1) = k - 1 := wr64 (by omega) (by omega)
      have u3 : IntKind.i64.wrap (2 * s * (k - 1)) = 2 * s * (k - 1) := wr64 (by omega) (by omega)
      have u4 : IntKind.i64.wrap (s * (k - 1)) = s * (k - 1) := wr64 (by omega) (by omega)
      have u5 : IntKind.i64.wrap (m - 1) = m - 1 := wr64 (by omega) (by omega)
      have u6 : IntKind.i64.wrap ((m - 1) * s) = (m - 1) * s := wr64 (by omega) (by omega)
      have u7 : IntKind.i64.wrap ((m - 1) * s + s * (k - 1)) = (m - 1) * s + s * (k - 1) := wr64 (by omega) (by omega)
      have u8 : IntKind.i64.wrap ((m - 1) * s + 2 * s * (k - 1)) = (m - 1) * s + 2 * s * (k - 1) := wr64 (by omega) (by omega)
      have hsv : sv = if m = 2 then (m - 1) * s + s * (k - 1) else (m - 1) * s + 2 * s * (k - 1) := by
        rw [hst2]; split <;> rfl
      clear hst2 hst v1 v2 v3 hbd
      by_cases hm2 : m = 2
      · rw [if_pos hm2] at hsv
        subst hm2
        have y1 : IntKind.i64.wrap 1 = 1 := wr64 (by omega) (by omega)
        have y2 : IntKind.i64.wrap s = s := wr64 (by omega) (by omega)
        have e1 : ((2 : Int) - 1) * s = s := by omega
        rw [e1] at u7 hsv
        clear u5 u6 u8
        cases ok with
        | false =>
          cases oj with
          | false => simp (maxSteps := 1000000) -implicitDefEqProofs [L3, hbig, d1, d2, p1, p2, p3, p4, p5, p6, p7, p8, p9, p10, lp, i1, i2, u1, u2, u3, u4, u7, y1, y2, hsv]
          | true =>
            have hef2 := hef rfl
            simp (maxSteps := 1000000) -implicitDefEqProofs [L3, hbig, d1, d2, p1, p2, p3, p4, p5, p6, p7, p8, p9, p10, lp, i1, i2, hef2, u1, u2, u3, u4, u7, y1, y2, hsv]
        | true =>
          obtain ⟨rfl, rfl, o1, o2⟩ := hof2 rfl
          have hef2 := hef rfl
          obtain ⟨W, w1, w2, w3⟩ := hwt rfl
          have wl := wt_loop W (by omega) w2 W 0 rfl
          rw [c0] at wl
          have wlen : (i64s W).length = Lj.length := by rw [i64s_len]; omega
          simp (maxSteps := 1000000) -implicitDefEqProofs [L3, hbig, d1, d2, p1, p2, p3, p4, p5, p6, p7, p8, p9, p10, p11, p12, lp, i1, i2, hef2, o1, o2, w3, wl, wlen, u1, u2, u3, u4, u7, y1, y2, hsv]
      · rw [if_neg hm2] at hsv
        cases ok with
        | false =>
          cases oj with
          | false => simp (maxSteps := 1000000) -implicitDefEqProofs [L3, hbig, d1, d2, p1, p2, p3, p4, p5, p6, p7, p8, p9, p10, lp, i1, i2, u1, u2, u3, u5, u6, u8, hm2, hsv]
          | true =>
            have hef2 := hef rfl
            simp (maxSteps := 1000000) -implicitDefEqProofs [L3, hbig, d1, d2, p1, p2, p3, p4, p5, p6, p7, p8, p9, p10, lp, i1, i2, hef2, u1, u2, u3, u5, u6, u8, hm2, hsv]
        | true =>
          obtain ⟨rfl, rfl, o1, o2⟩ := hof2 rfl
          have hef2 := hef rfl
          obtain ⟨W, w1, w2, w3⟩ := hwt rfl
          have wl := wt_loop W (by omega) w2 W 0 rfl
          rw [c0] at wl
          have wlen : (i64s W).length = Lj.length := by rw [i64s_len]; omega
          simp (maxSteps := 1000000) -implicitDefEqProofs [L3, hbig, d1, d2, p1, p2, p3, p4, p5, p6, p7, p8, p9, p10, p11, p12, lp, i1, i2, hef2, o1, o2, w3, wl, wlen, u1, u2, u3, u5, u6, u8, hm2, hsv]
end Go.Proofs.YtlmjoimjdpfamaaGreat.Ev
