/- FnTables: the law, run by the evaluator, answers true. -/
import Derived.Test.YtckfbfgfjlgmeaaGreatDoorEvTaH
set_option linter.unusedVariables false
set_option linter.unusedSimpArgs false
set_option maxRecDepth 8000
set_option maxHeartbeats 8000000
namespace Go.Proofs.YtckfbfgfjlgmeaaGreatDoor.Ev
open Dr
theorem f_marks (ms : List ByteArray) (h : smallT ms) (k : Int) : ∃ (m : ByteArray) (two : Bool), ev E1 37 [tA ms, i64 k] [] = some (.tup [st m, bl two], []) ∧ ev E1 38 [tA ms, i64 k] [] = some (.tup [st m, bl two], []) ∧ (two = true → ev E1 40 [tA ms, st m] [] = some (.tup [i64 k, bl true], [])) := by
  refine ⟨_, _, two_marksOf_i ms h k, two_marksOf_s ms h k, fun ho => ?_⟩
  rw [ho, if_pos rfl]
  unfold okMk at ho
  rw [Bool.and_eq_true] at ho
  obtain ⟨n, rfl, hn, -⟩ := at_letter ho.2
  obtain ⟨h1, h2, h3⟩ := (tab_iff ms).1 ho.1
  have hk : okMarks (mk_ ms n) 1 5 = true := h2 _ (mk_mem hn)
  have hz : (mk_ ms n).size ≤ 1000 := by
    have := (marks_def.1 hk).2.2
    rw [B_len] at this
    omega
  rw [Int.toNat_natCast, two_letterOf_i ms h _ hz]
  have hp := place_nd h3 hn
  have hl : okLt ms (mk_ ms n) = true := by unfold okLt; rw [ho.1, hk]; rfl
  unfold ltOf
  rw [hl, if_pos rfl, hp, if_neg (by omega), decide_eq_true (by omega : (0 : Int) ≤ (n : Int))]
  rfl
theorem f_letter (ms : List ByteArray) (h : smallT ms) (x : ByteArray) (hx : x.size ≤ 20) : ∃ (at_ : Int) (three : Bool), ev E1 40 [tA ms, st x] [] = some (.tup [i64 at_, bl three], []) ∧ ev E1 41 [tA ms, st x] [] = some (.tup [i64 at_, bl three], []) ∧
    ∃ (more : List ByteArray) (four : Bool), smallT more ∧ ev E1 42 [tA ms, st x] [] = some (.tup [tA more, bl four], []) ∧ ev E1 43 [tA ms, st x] [] = some (.tup [tA more, bl four], []) ∧ (four = true → three = false ∧ ev E1 40 [tA more, st x] [] = some (.tup [i64 ms.length, bl true], [])) := by
  refine ⟨_, _, two_letterOf_i ms h x (by omega), two_letterOf_s ms h x (by omega), _, _, ?_, two_add_i ms h x (by omega), two_add_s ms h x (by omega), fun ho => ?_⟩
  · split
    · rename_i ho
      unfold addOk at ho
      rw [Bool.and_eq_true] at ho
      exact small_ok ho.2
    · exact ⟨by simp, by simp⟩
  · rw [ho, if_pos rfl]
    unfold addOk at ho
    rw [Bool.and_eq_true] at ho
    obtain ⟨p1, p2, p3⟩ := add_place ho.2
    refine ⟨by rw [decide_eq_false (by omega), Bool.and_false], ?_⟩
    rw [two_letterOf_i _ (small_ok ho.2) x (by omega)]
    have hl : okLt (ms ++ [x]) x = true := by unfold okLt; rw [ho.2, p3]; rfl
    unfold ltOf
    rw [hl, if_pos rfl, p1, if_neg (by omega), decide_eq_true (by omega : (0 : Int) ≤ (ms.length : Int))]
    rfl
theorem f_swap (ms : List ByteArray) (h : smallT ms) (i j : Int) : ∃ (sw : List ByteArray) (five : Bool), smallT sw ∧ ev E1 45 [tA ms, i64 i, i64 j] [] = some (.tup [tA sw, bl five], []) ∧ ev E1 46 [tA ms, i64 i, i64 j] [] = some (.tup [tA sw, bl five], []) ∧ (five = true → ev E1 45 [tA sw, i64 i, i64 j] [] = some (.tup [tA ms, bl true], [])) := by
  have hs : ∀ (ho : swOk ms i j = true), okTable (swT ms i.toNat j.toNat) = true ∧ swT (swT ms i.toNat j.toNat) i.toNat j.toNat = ms ∧ swOk (swT ms i.toNat j.toNat) i j = true := by
    intro ho
    unfold swOk at ho
    rw [Bool.and_eq_true, Bool.and_eq_true] at ho
    obtain ⟨a, rfl, ha, -⟩ := at_letter ho.2.1
    obtain ⟨b, rfl, hb, -⟩ := at_letter ho.2.2
    rw [Int.toNat_natCast, Int.toNat_natCast]
    refine ⟨swT_ok ho.1 ha hb, swT_twice ha hb, ?_⟩
    unfold swOk
    have h1 := ho.2.1
    have h2 := ho.2.2
    unfold okLetter at h1 h2 ⊢
    rw [swT_len, swT_ok ho.1 ha hb, h1, h2]
    rfl
  refine ⟨_, _, ?_, two_swap_i ms h i j, two_swap_s ms h i j, fun ho => ?_⟩
  · split
    · rename_i ho
      exact small_ok (hs ho).1
    · exact ⟨by simp, by simp⟩
  · obtain ⟨h1, h2, h3⟩ := hs ho
    rw [ho, if_pos rfl, two_swap_i _ (small_ok h1), h3, if_pos rfl, h2]
theorem f_time (y : ByteArray) (hy : y.size ≤ 20) : ∃ (t : Int) (six : Bool), ev E1 48 [st y] [] = some (.tup [i64 t, bl six], []) ∧ ev E1 49 [st y] [] = some (.tup [i64 t, bl six], []) ∧ (six = true → t.tmod 2 = 1) := by
  refine ⟨_, _, two_time_i y (by omega), two_time_s y (by omega), fun ho => ?_⟩
  rw [ho, if_pos rfl]
  have := marks_def.1 ho
  rw [B_len] at this
  have e : ((2 * (y.size : Int) - 1 + 2 * (dash y : Int)).tmod 2) = 1 := by
    rw [Int.tmod_eq_emod_of_nonneg (by omega)]
    omega
  exact e
theorem f_parse (s : ByteArray) (hs : s.size ≤ 1000) : ∃ (r : List ByteArray) (eight : Bool), smallT r ∧ ev E1 53 [st s] [] = some (.tup [tA r, bl eight], []) ∧ ev E1 54 [st s] [] = some (.tup [tA r, bl eight], []) := by
  refine ⟨_, _, ?_, two_parse_i s (by omega), two_parse_s s (by omega)⟩
  split
  · rename_i ho
    exact small_ok ho
  · exact ⟨by simp, by simp⟩
theorem f_turn (ms : List ByteArray) (h : smallT ms) : ∃ (o b f : List ByteArray) (t : ByteArray), smallT o ∧ smallT b ∧ smallT f ∧ ev E1 30 [tA ms] [] = some (.tup [tA o, bl (okTable ms)], []) ∧ ev E1 31 [tA ms] [] = some (.tup [tA o, bl (okTable ms)], []) ∧
    ev E1 34 [tA ms] [] = some (.tup [tA b, bl (okTable ms)], []) ∧ ev E1 35 [tA ms] [] = some (.tup [tA b, bl (okTable ms)], []) ∧ ev E1 50 [tA ms] [] = some (.tup [st t, bl (okTable ms)], []) ∧ ev E1 51 [tA ms] [] = some (.tup [st t, bl (okTable ms)], []) ∧
    (okTable ms = true → ev E1 30 [tA o] [] = some (.tup [tA ms, bl true], []) ∧ ev E1 34 [tA o] [] = some (.tup [tA f, bl true], []) ∧ ev E1 30 [tA b] [] = some (.tup [tA f, bl true], []) ∧ ev E1 34 [tA b] [] = some (.tup [tA ms, bl true], []) ∧ ev E1 53 [st t] [] = some (.tup [tA ms, bl true], [])) := by
  refine ⟨_, _, if okTable ms = true then (ms.map oppB).map revB else [], _, ?_, ?_, ?_, two_opt_i ms h, two_opt_s ms h, two_bkt_i ms h, two_bkt_s ms h, two_text_i ms h, two_text_s ms h, fun ho => ?_⟩
  · split
    · rename_i ho; exact small_ok (turns_opp.tab ho)
    · exact ⟨by simp, by simp⟩
  · split
    · rename_i ho; exact small_ok (turns_rev.tab ho)
    · exact ⟨by simp, by simp⟩
  · split
    · rename_i ho; exact small_ok (turns_rev.tab (turns_opp.tab ho))
    · exact ⟨by simp, by simp⟩
  · have o1 := turns_opp.tab ho
    have o2 := turns_rev.tab ho
    have hL := lensT_le ms (small_ok ho).2
    have hz := textL_size ms 0 ⟨#[]⟩
    have hl := okTable_len ho
    have h5 : ∀ m ∈ ms, m.size ≤ 5 := fun m hm => by
      have := (marks_def.1 (((tab_iff ms).1 ho).2.1 m hm)).2.2
      rwa [B_len] at this
    have hL5 := lensT_le ms h5
    have hL6 : ms.length * (5 + 1) ≤ 10 * 6 := Nat.mul_le_mul_right 6 hl.2
    have h0 : (⟨#[]⟩ : ByteArray).size = 0 := rfl
    have hc : okCode (textL 0 ⟨#[]⟩ ms) = true := by unfold okCode; rw [text_parts ho]; exact ho
    rw [if_pos ho, if_pos ho, if_pos ho, if_pos ho, two_opt_i _ (small_ok o1), two_bkt_i _ (small_ok o1), two_opt_i _ (small_ok o2), two_bkt_i _ (small_ok o2), two_parse_i _ (by omega), o1, o2, hc, if_pos rfl, if_pos rfl, if_pos rfl, if_pos rfl, if_pos rfl, turns_opp.twice ho, turns_rev.twice ho, opp_rev, text_parts ho]
    exact ⟨rfl, rfl, rfl, rfl, rfl⟩
theorem FnTables (x0 : List Int) (b0 : x0.length ≤ maxLen ∧ ∀ y ∈ x0, (Lit.int .u8 y).wf = true) : ev E1 4 [(AV.lst 1 (x0.map (fun q : Int => (AV.v (.int .u8 q)))))] [] = some (bl true, []) := by
  obtain ⟨hl, hw⟩ := b0
  show ev E1 4 [.lst 1 (cd x0)] [] = _
  have hb := two_rbig x0
  by_cases h0 : (65536 : Int) < (x0.length : Int)
  · rw [decide_eq_true h0] at hb
    rw [g4]
    unfold runF
    simp -implicitDefEqProofs [L4, hb]
  · rw [decide_eq_false h0] at hb
    have hx : okC x0 := by
      refine ⟨by omega, fun y hy => ?_⟩
      have h := hw y hy
      unfold Lit.wf at h
      rw [Bool.and_eq_true, decide_eq_true_eq, decide_eq_true_eq] at h
      exact h
    obtain ⟨ts, hts, d1⟩ := two_dOpp x0 hx
    obtain ⟨us, k, hus, d2⟩ := two_dMk x0 hx
    obtain ⟨vs, x, hvs, zx, d3⟩ := two_dLt x0 hx
    obtain ⟨ws, i, j, hws, d4⟩ := two_dSw x0 hx
    obtain ⟨y, zy, d5⟩ := two_dTm x0 hx
    obtain ⟨s, zs, d6⟩ := two_dPt x0 hx
    obtain ⟨o, b, f, t, so, sb, sf, a1, a2, a3, a4, a5, a6, a7⟩ := f_turn ts hts
    have a8 := two_isT ts hts
    obtain ⟨m, two, b1, b2, b3⟩ := f_marks us hus k
    obtain ⟨at_, three, c1, c2, more, four, sm, c3, c4, c5⟩ := f_letter vs hvs x zx
    obtain ⟨sw, five, ss, e1, e2, e3⟩ := f_swap ws hws i j
    obtain ⟨tm, six, f1, f2, f3⟩ := f_time y zy
    obtain ⟨r, eight, sr, g1, g2⟩ := f_parse s zs
    have r1 := two_rTab ts (by have := hts.1; omega)
    have r2 := two_rTab o (by have := so.1; omega)
    have r3 := two_rTab b (by have := sb.1; omega)
    have r4 := two_rTab f (by have := sf.1; omega)
    have r5 := two_rTab more (by have := sm.1; omega)
    have r6 := two_rTab sw (by have := ss.1; omega)
    have r7 := two_rTab r (by have := sr.1; omega)
    have r8 := two_rTab ws (by have := hws.1; omega)
    have hvl : (vs.map st).length = vs.length := List.length_map _
    clear hts hus hvs hws so sb sf sm ss sr zx zy zs hw hl h0
    generalize okTable ts = okT at *
    unfold tA at *
    generalize vs.length = nv at *
    generalize ts.map st = ts at *
    generalize us.map st = us at *
    generalize vs.map st = vs at *
    generalize ws.map st = ws at *
    generalize o.map st = o at *
    generalize b.map st = b at *
    generalize f.map st = f at *
    generalize more.map st = more at *
    generalize sw.map st = sw at *
    generalize r.map st = r at *
    rw [g4]
    unfold runF
    cases two with
    | true =>
      have b3 := b3 rfl
      cases four with
      | true =>
        obtain ⟨h3, c5⟩ := c5 rfl
        subst h3
        cases five with
        | true =>
          have e3 := e3 rfl
          cases six with
          | true =>
            have f3 := f3 rfl
            cases okT with
            | true =>
              obtain ⟨q1, q2, q3, q4, q5⟩ := a7 rfl
              simp (maxSteps := 4000000) -implicitDefEqProofs [L4, hb, d1, d2, d3, d4, d5, d6, a1, a2, a3, a4, a5, a6, a8, b1, b2, c1, c2, c3, c4, e1, e2, f1, f2, g1, g2, r1, r2, r3, r4, r5, r6, r7, r8, hvl, b3, c5, e3, f3, q1, q2, q3, q4, q5]
            | false =>
              simp (maxSteps := 4000000) -implicitDefEqProofs [L4, hb, d1, d2, d3, d4, d5, d6, a1, a2, a3, a4, a5, a6, a8, b1, b2, c1, c2, c3, c4, e1, e2, f1, f2, g1, g2, r1, r2, r3, r4, r5, r6, r7, r8, hvl, b3, c5, e3, f3]
          | false =>
            cases okT with
            | true =>
              obtain ⟨q1, q2, q3, q4, q5⟩ := a7 rfl
              simp (maxSteps := 4000000) -implicitDefEqProofs [L4, hb, d1, d2, d3, d4, d5, d6, a1, a2, a3, a4, a5, a6, a8, b1, b2, c1, c2, c3, c4, e1, e2, f1, f2, g1, g2, r1, r2, r3, r4, r5, r6, r7, r8, hvl, b3, c5, e3, q1, q2, q3, q4, q5]
            | false =>
              simp (maxSteps := 4000000) -implicitDefEqProofs [L4, hb, d1, d2, d3, d4, d5, d6, a1, a2, a3, a4, a5, a6, a8, b1, b2, c1, c2, c3, c4, e1, e2, f1, f2, g1, g2, r1, r2, r3, r4, r5, r6, r7, r8, hvl, b3, c5, e3]
        | false =>
          cases six with
          | true =>
            have f3 := f3 rfl
            cases okT with
            | true =>
              obtain ⟨q1, q2, q3, q4, q5⟩ := a7 rfl
              simp (maxSteps := 4000000) -implicitDefEqProofs [L4, hb, d1, d2, d3, d4, d5, d6, a1, a2, a3, a4, a5, a6, a8, b1, b2, c1, c2, c3, c4, e1, e2, f1, f2, g1, g2, r1, r2, r3, r4, r5, r6, r7, r8, hvl, b3, c5, f3, q1, q2, q3, q4, q5]
            | false =>
              simp (maxSteps := 4000000) -implicitDefEqProofs [L4, hb, d1, d2, d3, d4, d5, d6, a1, a2, a3, a4, a5, a6, a8, b1, b2, c1, c2, c3, c4, e1, e2, f1, f2, g1, g2, r1, r2, r3, r4, r5, r6, r7, r8, hvl, b3, c5, f3]
          | false =>
            cases okT with
            | true =>
              obtain ⟨q1, q2, q3, q4, q5⟩ := a7 rfl
              simp (maxSteps := 4000000) -implicitDefEqProofs [L4, hb, d1, d2, d3, d4, d5, d6, a1, a2, a3, a4, a5, a6, a8, b1, b2, c1, c2, c3, c4, e1, e2, f1, f2, g1, g2, r1, r2, r3, r4, r5, r6, r7, r8, hvl, b3, c5, q1, q2, q3, q4, q5]
            | false =>
              simp (maxSteps := 4000000) -implicitDefEqProofs [L4, hb, d1, d2, d3, d4, d5, d6, a1, a2, a3, a4, a5, a6, a8, b1, b2, c1, c2, c3, c4, e1, e2, f1, f2, g1, g2, r1, r2, r3, r4, r5, r6, r7, r8, hvl, b3, c5]
      | false =>
        cases five with
        | true =>
          have e3 := e3 rfl
          cases six with
          | true =>
            have f3 := f3 rfl
            cases okT with
            | true =>
              obtain ⟨q1, q2, q3, q4, q5⟩ := a7 rfl
              simp (maxSteps := 4000000) -implicitDefEqProofs [L4, hb, d1, d2, d3, d4, d5, d6, a1, a2, a3, a4, a5, a6, a8, b1, b2, c1, c2, c3, c4, e1, e2, f1, f2, g1, g2, r1, r2, r3, r4, r5, r6, r7, r8, hvl, b3, e3, f3, q1, q2, q3, q4, q5]
            | false =>
              simp (maxSteps := 4000000) -implicitDefEqProofs [L4, hb, d1, d2, d3, d4, d5, d6, a1, a2, a3, a4, a5, a6, a8, b1, b2, c1, c2, c3, c4, e1, e2, f1, f2, g1, g2, r1, r2, r3, r4, r5, r6, r7, r8, hvl, b3, e3, f3]
          | false =>
            cases okT with
            | true =>
              obtain ⟨q1, q2, q3, q4, q5⟩ := a7 rfl
              simp (maxSteps := 4000000) -implicitDefEqProofs [L4, hb, d1, d2, d3, d4, d5, d6, a1, a2, a3, a4, a5, a6, a8, b1, b2, c1, c2, c3, c4, e1, e2, f1, f2, g1, g2, r1, r2, r3, r4, r5, r6, r7, r8, hvl, b3, e3, q1, q2, q3, q4, q5]
            | false =>
              simp (maxSteps := 4000000) -implicitDefEqProofs [L4, hb, d1, d2, d3, d4, d5, d6, a1, a2, a3, a4, a5, a6, a8, b1, b2, c1, c2, c3, c4, e1, e2, f1, f2, g1, g2, r1, r2, r3, r4, r5, r6, r7, r8, hvl, b3, e3]
        | false =>
          cases six with
          | true =>
            have f3 := f3 rfl
            cases okT with
            | true =>
              obtain ⟨q1, q2, q3, q4, q5⟩ := a7 rfl
              simp (maxSteps := 4000000) -implicitDefEqProofs [L4, hb, d1, d2, d3, d4, d5, d6, a1, a2, a3, a4, a5, a6, a8, b1, b2, c1, c2, c3, c4, e1, e2, f1, f2, g1, g2, r1, r2, r3, r4, r5, r6, r7, r8, hvl, b3, f3, q1, q2, q3, q4, q5]
            | false =>
              simp (maxSteps := 4000000) -implicitDefEqProofs [L4, hb, d1, d2, d3, d4, d5, d6, a1, a2, a3, a4, a5, a6, a8, b1, b2, c1, c2, c3, c4, e1, e2, f1, f2, g1, g2, r1, r2, r3, r4, r5, r6, r7, r8, hvl, b3, f3]
          | false =>
            cases okT with
            | true =>
              obtain ⟨q1, q2, q3, q4, q5⟩ := a7 rfl
              simp (maxSteps := 4000000) -implicitDefEqProofs [L4, hb, d1, d2, d3, d4, d5, d6, a1, a2, a3, a4, a5, a6, a8, b1, b2, c1, c2, c3, c4, e1, e2, f1, f2, g1, g2, r1, r2, r3, r4, r5, r6, r7, r8, hvl, b3, q1, q2, q3, q4, q5]
            | false =>
              simp (maxSteps := 4000000) -implicitDefEqProofs [L4, hb, d1, d2, d3, d4, d5, d6, a1, a2, a3, a4, a5, a6, a8, b1, b2, c1, c2, c3, c4, e1, e2, f1, f2, g1, g2, r1, r2, r3, r4, r5, r6, r7, r8, hvl, b3]
    | false =>
      cases four with
      | true =>
        obtain ⟨h3, c5⟩ := c5 rfl
        subst h3
        cases five with
        | true =>
          have e3 := e3 rfl
          cases six with
          | true =>
            have f3 := f3 rfl
            cases okT with
            | true =>
              obtain ⟨q1, q2, q3, q4, q5⟩ := a7 rfl
              simp (maxSteps := 4000000) -implicitDefEqProofs [L4, hb, d1, d2, d3, d4, d5, d6, a1, a2, a3, a4, a5, a6, a8, b1, b2, c1, c2, c3, c4, e1, e2, f1, f2, g1, g2, r1, r2, r3, r4, r5, r6, r7, r8, hvl, c5, e3, f3, q1, q2, q3, q4, q5]
            | false =>
              simp (maxSteps := 4000000) -implicitDefEqProofs [L4, hb, d1, d2, d3, d4, d5, d6, a1, a2, a3, a4, a5, a6, a8, b1, b2, c1, c2, c3, c4, e1, e2, f1, f2, g1, g2, r1, r2, r3, r4, r5, r6, r7, r8, hvl, c5, e3, f3]
          | false =>
            cases okT with
            | true =>
              obtain ⟨q1, q2, q3, q4, q5⟩ := a7 rfl
              simp (maxSteps := 4000000) -implicitDefEqProofs [L4, hb, d1, d2, d3, d4, d5, d6, a1, a2, a3, a4, a5, a6, a8, b1, b2, c1, c2, c3, c4, e1, e2, f1, f2, g1, g2, r1, r2, r3, r4, r5, r6, r7, r8, hvl, c5, e3, q1, q2, q3, q4, q5]
            | false =>
              simp (maxSteps := 4000000) -implicitDefEqProofs [L4, hb, d1, d2, d3, d4, d5, d6, a1, a2, a3, a4, a5, a6, a8, b1, b2, c1, c2, c3, c4, e1, e2, f1, f2, g1, g2, r1, r2, r3, r4, r5, r6, r7, r8, hvl, c5, e3]
        | false =>
          cases six with
          | true =>
            have f3 := f3 rfl
            cases okT with
            | true =>
              obtain ⟨q1, q2, q3, q4, q5⟩ := a7 rfl
              simp (maxSteps := 4000000) -implicitDefEqProofs [L4, hb, d1, d2, d3, d4, d5, d6, a1, a2, a3, a4, a5, a6, a8, b1, b2, c1, c2, c3, c4, e1, e2, f1, f2, g1, g2, r1, r2, r3, r4, r5, r6, r7, r8, hvl, c5, f3, q1, q2, q3, q4, q5]
            | false =>
              simp (maxSteps := 4000000) -implicitDefEqProofs [L4, hb, d1, d2, d3, d4, d5, d6, a1, a2, a3, a4, a5, a6, a8, b1, b2, c1, c2, c3, c4, e1, e2, f1, f2, g1, g2, r1, r2, r3, r4, r5, r6, r7, r8, hvl, c5, f3]
          | false =>
            cases okT with
            | true =>
              obtain ⟨q1, q2, q3, q4, q5⟩ := a7 rfl
              simp (maxSteps := 4000000) -implicitDefEqProofs [L4, hb, d1, d2, d3, d4, d5, d6, a1, a2, a3, a4, a5, a6, a8, b1, b2, c1, c2, c3, c4, e1, e2, f1, f2, g1, g2, r1, r2, r3, r4, r5, r6, r7, r8, hvl, c5, q1, q2, q3, q4, q5]
            | false =>
              simp (maxSteps := 4000000) -implicitDefEqProofs [L4, hb, d1, d2, d3, d4, d5, d6, a1, a2, a3, a4, a5, a6, a8, b1, b2, c1, c2, c3, c4, e1, e2, f1, f2, g1, g2, r1, r2, r3, r4, r5, r6, r7, r8, hvl, c5]
      | false =>
        cases five with
        | true =>
          have e3 := e3 rfl
          cases six with
          | true =>
            have f3 := f3 rfl
            cases okT with
            | true =>
              obtain ⟨q1, q2, q3, q4, q5⟩ := a7 rfl
              simp (maxSteps := 4000000) -implicitDefEqProofs [L4, hb, d1, d2, d3, d4, d5, d6, a1, a2, a3, a4, a5, a6, a8, b1, b2, c1, c2, c3, c4, e1, e2, f1, f2, g1, g2, r1, r2, r3, r4, r5, r6, r7, r8, hvl, e3, f3, q1, q2, q3, q4, q5]
            | false =>
              simp (maxSteps := 4000000) -implicitDefEqProofs [L4, hb, d1, d2, d3, d4, d5, d6, a1, a2, a3, a4, a5, a6, a8, b1, b2, c1, c2, c3, c4, e1, e2, f1, f2, g1, g2, r1, r2, r3, r4, r5, r6, r7, r8, hvl, e3, f3]
          | false =>
            cases okT with
            | true =>
              obtain ⟨q1, q2, q3, q4, q5⟩ := a7 rfl
              simp (maxSteps := 4000000) -implicitDefEqProofs [L4, hb, d1, d2, d3, d4, d5, d6, a1, a2, a3, a4, a5, a6, a8, b1, b2, c1, c2, c3, c4, e1, e2, f1, f2, g1, g2, r1, r2, r3, r4, r5, r6, r7, r8, hvl, e3, q1, q2, q3, q4, q5]
            | false =>
              simp (maxSteps := 4000000) -implicitDefEqProofs [L4, hb, d1, d2, d3, d4, d5, d6, a1, a2, a3, a4, a5, a6, a8, b1, b2, c1, c2, c3, c4, e1, e2, f1, f2, g1, g2, r1, r2, r3, r4, r5, r6, r7, r8, hvl, e3]
        | false =>
          cases six with
          | true =>
            have f3 := f3 rfl
            cases okT with
            | true =>
              obtain ⟨q1, q2, q3, q4, q5⟩ := a7 rfl
              simp (maxSteps := 4000000) -implicitDefEqProofs [L4, hb, d1, d2, d3, d4, d5, d6, a1, a2, a3, a4, a5, a6, a8, b1, b2, c1, c2, c3, c4, e1, e2, f1, f2, g1, g2, r1, r2, r3, r4, r5, r6, r7, r8, hvl, f3, q1, q2, q3, q4, q5]
            | false =>
              simp (maxSteps := 4000000) -implicitDefEqProofs [L4, hb, d1, d2, d3, d4, d5, d6, a1, a2, a3, a4, a5, a6, a8, b1, b2, c1, c2, c3, c4, e1, e2, f1, f2, g1, g2, r1, r2, r3, r4, r5, r6, r7, r8, hvl, f3]
          | false =>
            cases okT with
            | true =>
              obtain ⟨q1, q2, q3, q4, q5⟩ := a7 rfl
              simp (maxSteps := 4000000) -implicitDefEqProofs [L4, hb, d1, d2, d3, d4, d5, d6, a1, a2, a3, a4, a5, a6, a8, b1, b2, c1, c2, c3, c4, e1, e2, f1, f2, g1, g2, r1, r2, r3, r4, r5, r6, r7, r8, hvl, q1, q2, q3, q4, q5]
            | false =>
              simp (maxSteps := 4000000) -implicitDefEqProofs [L4, hb, d1, d2, d3, d4, d5, d6, a1, a2, a3, a4, a5, a6, a8, b1, b2, c1, c2, c3, c4, e1, e2, f1, f2, g1, g2, r1, r2, r3, r4, r5, r6, r7, r8, hvl]
end Go.Proofs.YtckfbfgfjlgmeaaGreatDoor.Ev
