/- FnMistaken: the law, run by the evaluator, answers true. -/
import Derived.Test.YtgecnbafmlecjaaGreatDoorEvMMb
set_option linter.unusedVariables false
set_option linter.unusedSimpArgs false
set_option maxRecDepth 8000
set_option maxHeartbeats 16000000
namespace Go.Proofs.YtgecnbafmlecjaaGreatDoor.Ev
open Fr Nz Mw Dr
theorem f_mean (ms : List ByteArray) (hm : ms.length ≤ 100) (hs : ∀ x ∈ ms, x.size ≤ 1000) (a b : Int) (m : ByteArray) (hz : m.size ≤ 100) : ∃ (w f r : Nat × Nat) (ok th : Bool),
    ev E1 6 [.agg [.lst 1 (ms.map st)], .agg [i64 a, i64 b], st m] [] = some (.tup [pr w, bl ok], []) ∧
    ev E1 7 [.agg [.lst 1 (ms.map st)], .agg [i64 a, i64 b], st m] [] = some (.tup [pr w, bl ok], []) ∧
    ev E1 8 [.agg [.lst 1 (ms.map st)], .agg [i64 a, i64 b], st m] [] = some (.tup [pr f, bl ok], []) ∧
    ev E1 9 [.agg [.lst 1 (ms.map st)], .agg [i64 a, i64 b], st m] [] = some (.tup [pr f, bl ok], []) ∧
    ev E1 10 [.agg [.lst 1 (ms.map st)], .agg [i64 a, i64 b]] [] = some (.tup [pr r, bl th], []) ∧
    ev E1 11 [.agg [.lst 1 (ms.map st)], .agg [i64 a, i64 b]] [] = some (.tup [pr r, bl th], []) ∧
    (ok = true → th = true ∧ packX 0 [2, 3, 4, 6, 10, 14, 15, 35] (loopW (bd E1 (ev E1) loopW 0 [3, 4, 5, 6, 10, 14, 15, 35, 36] L3b2) ⟨[(3, .ptr 0 0 0), (4, .ptr 1 0 0), (5, st m), (6, .ptr 2 0 0), (10, .ptr 3 0 0), (14, .ptr 4 0 0), (15, bl th), (35, .ptr 5 0 0), (36, i64 0)], [some ⟨26, 1, 0, false, [.agg [.lst 1 (ms.map st)]]⟩, some ⟨28, 2, 0, false, [.agg [i64 a, i64 b]]⟩, some ⟨31, 2, 0, false, [pr w]⟩, some ⟨31, 2, 0, false, [pr f]⟩, some ⟨31, 2, 0, false, [pr r]⟩, some ⟨31, 2, 0, false, [.agg [i64 0, i64 1]]⟩]⟩) = some (.ext 4, ⟨[(3, .ptr 0 0 0), (4, .ptr 1 0 0), (6, .ptr 2 0 0), (10, .ptr 3 0 0), (14, .ptr 4 0 0), (15, bl th), (35, .ptr 5 0 0)], [some ⟨26, 1, 0, false, [.agg [.lst 1 (ms.map st)]]⟩, some ⟨28, 2, 0, false, [.agg [i64 a, i64 b]]⟩, some ⟨31, 2, 0, false, [pr w]⟩, some ⟨31, 2, 0, false, [pr f]⟩, some ⟨31, 2, 0, false, [pr r]⟩, some ⟨31, 2, 0, false, [pr w]⟩]⟩) ∧ ∃ (A q1 q2 z1 z2 : Int), packX 0 [3, 4, 6, 10, 14, 15, 35, 39] (loopW (bd E1 (ev E1) loopW 0 [3, 4, 6, 10, 14, 15, 35, 39, 40] L3b3) ⟨[(3, .ptr 0 0 0), (4, .ptr 1 0 0), (6, .ptr 2 0 0), (10, .ptr 3 0 0), (14, .ptr 4 0 0), (15, bl th), (35, .ptr 5 0 0), (39, i64 1), (40, i64 0)], [some ⟨26, 1, 0, false, [.agg [.lst 1 (ms.map st)]]⟩, some ⟨28, 2, 0, false, [.agg [i64 a, i64 b]]⟩, some ⟨31, 2, 0, false, [pr w]⟩, some ⟨31, 2, 0, false, [pr f]⟩, some ⟨31, 2, 0, false, [pr r]⟩, some ⟨31, 2, 0, false, [pr w]⟩]⟩) = some (.ext 6, ⟨[(3, .ptr 0 0 0), (4, .ptr 1 0 0), (6, .ptr 2 0 0), (10, .ptr 3 0 0), (14, .ptr 4 0 0), (15, bl th), (35, .ptr 5 0 0), (39, i64 A)], [some ⟨26, 1, 0, false, [.agg [.lst 1 (ms.map st)]]⟩, some ⟨28, 2, 0, false, [.agg [i64 a, i64 b]]⟩, some ⟨31, 2, 0, false, [pr w]⟩, some ⟨31, 2, 0, false, [pr f]⟩, some ⟨31, 2, 0, false, [pr r]⟩, some ⟨31, 2, 0, false, [pr w]⟩]⟩) ∧
      (a = 0 → w = (0, 1)) ∧ ¬ (w.2 : Int) = 0 ∧ ¬ (f.2 : Int) = 0 ∧ Int.tdiv A (w.2 : Int) = q1 ∧ Int.tdiv A (f.2 : Int) = q2 ∧ IntKind.i64.wrap q1 = q1 ∧ IntKind.i64.wrap q2 = q2 ∧ IntKind.i64.wrap ((w.1 : Int) * q1) = z1 ∧ IntKind.i64.wrap ((f.1 : Int) * q2) = z2 ∧ ¬ z2 < z1) ∧
    (th = true → ∃ (s : Nat × Nat) (z : Int), packX 0 [2, 3, 14, 41] (loopW (bd E1 (ev E1) loopW 0 [3, 4, 14, 41, 42] L3b4) ⟨[(3, .ptr 0 0 0), (4, .ptr 1 0 0), (14, .ptr 2 0 0), (41, .ptr 3 0 0), (42, i64 0)], [some ⟨26, 1, 0, false, [.agg [.lst 1 (ms.map st)]]⟩, some ⟨28, 2, 0, false, [.agg [i64 a, i64 b]]⟩, some ⟨31, 2, 0, false, [pr r]⟩, some ⟨31, 2, 0, false, [.agg [i64 0, i64 1]]⟩]⟩) = some (.ext 8, ⟨[(3, .ptr 0 0 0), (14, .ptr 1 0 0), (41, .ptr 2 0 0)], [some ⟨26, 1, 0, false, [.agg [.lst 1 (ms.map st)]]⟩, some ⟨31, 2, 0, false, [pr r]⟩, some ⟨31, 2, 0, false, [pr s]⟩]⟩) ∧ IntKind.i64.wrap ((s.2 : Int) * (ms.length : Int)) = z ∧ ev E1 21 [.agg [i64 0, i64 1], .agg [i64 (s.1 : Int), i64 z]] [] = some (pr r, [])) := by
  refine ⟨_, _, _, _, _, two_mw_i ms hm hs a b m (by omega), two_mw_s ms hm hs a b m (by omega), two_mf_i ms hm hs a b m (by omega), two_mf_s ms hm hs a b m (by omega), two_ri_i ms hm hs a b, two_ri_s ms hm hs a b, fun ho => ?_, fun ho => ?_⟩
  · have ht : okNy ms a b = true := by unfold okMW at ho; rw [Bool.and_eq_true] at ho; exact ho.1
    refine ⟨ht, ?_⟩
    rw [ho, ht]
    obtain ⟨g1, ⟨n, d, rfl, rfl, d1, d2, d3⟩, g3⟩ := okMW_b ho
    obtain ⟨t1, t2, t3⟩ := okTable_b g1
    have hz5 : ∀ x ∈ ms, x.size ≤ 5 := fun x hx => (okMarks_b (t3 x hx)).2.1
    have g4 := g3
    unfold okMsg at g4
    rw [Bool.and_eq_true, decide_eq_true_eq] at g4
    have hN : d ^ 5 ≤ 10000000000 := pow_b d2 (Nat.le_refl _)
    have hN0 : 0 < d ^ 5 := Nat.pow_pos (by omega)
    have hb := wr_big n d ms (B m)
    rw [B_len] at hb
    have hb2 : m.size * d ^ 5 ≤ 12 * d ^ 5 := Nat.mul_le_mul_right _ g4.2
    have hmk : ∀ c ∈ B m, c.toNat ≠ 32 → (mB ms c).size ≤ 5 := fun c _ _ => by unfold mB mk_; exact getD_sz hz5 _
    have hle := wr_le n d d3 ms (B m) hmk
    have hbs := bare_sm g1 g3
    have hbl : (mAll ms (B m)).length = (bareM ms m).size := by rw [← B_len]; rfl
    rw [hbl] at hle
    simp only [if_pos, nz1, Int.toNat_natCast]
    have hwl := wrong_loop ms hm n d d3 d2 d1 ht hz5 m hz (cut (wrL n d ms (B m)) (d ^ 5)) (cut ((bareM ms m).size * n) d) (cut (rgL n d ms) (d ^ 5 * ms.length)) true (B m) 0 0 rfl g4.1 (by omega)
    rw [Nat.zero_add, c0, cut_zero _ hN0] at hwl
    refine ⟨hwl, ?_⟩
    have hal := all_loop ms n d d2 (cut (wrL n d ms (B m)) (d ^ 5)) (cut ((bareM ms m).size * n) d) (cut (rgL n d ms) (d ^ 5 * ms.length)) (cut (wrL n d ms (B m)) (d ^ 5)) true 5 0 rfl
    have p1 := cut_parts (wrL n d ms (B m)) (d ^ 5) hN0
    have p2 := cut_partsM ((bareM ms m).size * n) d (d ^ 4) (by omega)
    rw [show d * d ^ 4 = d ^ 5 by rw [Nat.pow_succ d 4, Nat.mul_comm]] at p2
    have w2 := cut_pos (wrL n d ms (B m)) (d ^ 5) hN0
    have f2 := cut_pos ((bareM ms m).size * n) d (by omega)
    have hd4 : d ^ 4 ≤ 10000000000 := pow_b d2 (by omega)
    have hp : (bareM ms m).size * n ≤ 300 * 100 := Nat.mul_le_mul hbs (by omega)
    have hp2 : (bareM ms m).size * n * d ^ 4 ≤ 30000 * 10000000000 := Nat.mul_le_mul hp hd4
    have hz0 : n = 0 → cut (wrL n d ms (B m)) (d ^ 5) = (0, 1) := by
      intro h0
      subst h0
      rw [wr_zero d ms (B m) hmk, cut_zero _ hN0]
    generalize cut (wrL n d ms (B m)) (d ^ 5) = w at *
    generalize cut ((bareM ms m).size * n) d = f at *
    have hq1 : d ^ 5 / w.2 ≤ d ^ 5 := Nat.div_le_self _ _
    have hq2 : d ^ 5 / f.2 ≤ d ^ 5 := Nat.div_le_self _ _
    refine ⟨_, ((d ^ 5 / w.2 : Nat) : Int), ((d ^ 5 / f.2 : Nat) : Int), ((wrL n d ms (B m) : Nat) : Int), (((bareM ms m).size * n * d ^ 4 : Nat) : Int), hal, fun h => hz0 (by omega), by omega, by omega, tdivN _ _, tdivN _ _, wrN (by omega), wrN (by omega), ?_, ?_, by omega⟩
    · rw [show (w.1 : Int) * ((d ^ 5 / w.2 : Nat) : Int) = ((w.1 * (d ^ 5 / w.2) : Nat) : Int) from rfl, p1]; exact wrN (by omega)
    · rw [show (f.1 : Int) * ((d ^ 5 / f.2 : Nat) : Int) = ((f.1 * (d ^ 5 / f.2) : Nat) : Int) from rfl, p2]; exact wrN (by omega)
  · rw [ho]
    obtain ⟨g1, n, d, rfl, rfl, d1, d2, d3⟩ := okNy_b ho
    obtain ⟨t1, t2, t3⟩ := okTable_b g1
    have hz5 : ∀ x ∈ ms, x.size ≤ 5 := fun x hx => (okMarks_b (t3 x hx)).2.1
    have hN : d ^ 5 ≤ 10000000000 := pow_b d2 (Nat.le_refl _)
    have hN0 : 0 < d ^ 5 := Nat.pow_pos (by omega)
    have hb := rg_big n d d3 ms hz5
    have hb2 : ms.length * d ^ 5 ≤ 10 * d ^ 5 := Nat.mul_le_mul_right _ t2
    simp only [if_pos, nz1, Int.toNat_natCast]
    have hl := right_loop ms hm n d d3 d2 d1 ho hz5 (cut (rgL n d ms) (d ^ 5 * ms.length)) ms 0 0 rfl (by omega)
    rw [Nat.zero_add, c0, cut_zero _ hN0] at hl
    have cr := cut_cross (rgL n d ms) (d ^ 5) hN0
    have cpp := cut_pos (rgL n d ms) (d ^ 5) hN0
    have cl2 := cut_le (rgL n d ms) (d ^ 5) hN0
    obtain ⟨gg, hg0, hg1, _⟩ := cut_of (rgL n d ms) (d ^ 5) hN0
    generalize hsd : cut (rgL n d ms) (d ^ 5) = s at *
    have hs1 : s.1 ≤ rgL n d ms := by rw [hg1]; exact Nat.le_mul_of_pos_right _ hg0
    have hsl : s.2 * ms.length ≤ d ^ 5 * 10 := Nat.mul_le_mul cl2 t2
    have heq : cut s.1 (s.2 * ms.length) = cut (rgL n d ms) (d ^ 5 * ms.length) := by
      refine cut_eq (Nat.mul_pos cpp (by omega)) (Nat.mul_pos hN0 (by omega)) ?_
      rw [← Nat.mul_assoc, cr, Nat.mul_assoc]
    have hv := two_vp01 s.1 (s.2 * ms.length) (Nat.mul_pos cpp (by omega)) (by omega) (by omega)
    rw [heq] at hv
    refine ⟨s, ((s.2 * ms.length : Nat) : Int), hl, ?_, hv⟩
    rw [show (s.2 : Int) * (ms.length : Int) = ((s.2 * ms.length : Nat) : Int) from rfl]
    exact wrN (by omega)
theorem f_pairs (us : List ByteArray) (hm : us.length ≤ 100) (hs : ∀ x ∈ us, x.size ≤ 1000) (d : Int) : ∃ (C : List (Nat × Nat)) (one two : Bool) (L : Int),
    ev E1 14 [.agg [.lst 1 (us.map st)], i64 d] [] = some (.tup [.lst 2 (C.map pr), bl one], []) ∧
    ev E1 15 [.agg [.lst 1 (us.map st)], i64 d] [] = some (.tup [.lst 2 (C.map pr), bl one], []) ∧
    ev E1 16 [.agg [.lst 1 (us.map st)]] [] = some (.tup [i64 L, bl two], []) ∧
    ev E1 17 [.agg [.lst 1 (us.map st)]] [] = some (.tup [i64 L, bl two], []) ∧
    ev E1 18 [.lst 2 (C.map pr), .lst 2 (C.map pr)] [] = some (bl true, []) ∧
    (one = true → ((two = false ∧ C.length = 0) ∨ (two = true ∧ 0 < C.length ∧ L ≤ d) ∨ (two = true ∧ C.length = 0 ∧ ¬ L ≤ d)) ∧
      ∀ (ms : List ByteArray) (a b : Int) (w f r : Nat × Nat) (ok th : Bool) (m : ByteArray), packX 0 [2, 3, 4, 5, 6, 7, 10, 14, 15] (loopW (bd E1 (ev E1) loopW 0 [3, 4, 5, 6, 7, 10, 14, 15, 18, 19, 20, 24, 28] L3b1) ⟨[(3, .ptr 0 0 0), (4, .ptr 1 0 0), (5, st m), (6, .ptr 2 0 0), (7, bl ok), (10, .ptr 3 0 0), (14, .ptr 4 0 0), (15, bl th), (18, .ptr 5 0 0), (19, i64 d), (20, .lst 2 (C.map pr)), (24, i64 L), (28, i64 0)], [some ⟨26, 1, 0, false, [.agg [.lst 1 (ms.map st)]]⟩, some ⟨28, 2, 0, false, [.agg [i64 a, i64 b]]⟩, some ⟨31, 2, 0, false, [pr w]⟩, some ⟨31, 2, 0, false, [pr f]⟩, some ⟨31, 2, 0, false, [pr r]⟩, some ⟨26, 1, 0, false, [.agg [.lst 1 (us.map st)]]⟩]⟩) = some (.ext 0, ⟨[(3, .ptr 0 0 0), (4, .ptr 1 0 0), (5, st m), (6, .ptr 2 0 0), (7, bl ok), (10, .ptr 3 0 0), (14, .ptr 4 0 0), (15, bl th)], [some ⟨26, 1, 0, false, [.agg [.lst 1 (ms.map st)]]⟩, some ⟨28, 2, 0, false, [.agg [i64 a, i64 b]]⟩, some ⟨31, 2, 0, false, [pr w]⟩, some ⟨31, 2, 0, false, [pr f]⟩, some ⟨31, 2, 0, false, [pr r]⟩]⟩)) := by
  have hA := two_la_i us hm hs
  have hB := two_la_s us hm hs
  have hlen : (if okCP us d = true then cp us d else []).length ≤ 1000 ∨ okTable us = false := by
    cases ho : okTable us with
    | false => exact .inr rfl
    | true =>
      left
      obtain ⟨t1, t2, t3⟩ := okTable_b ho
      split
      · have := cpI_len d us 0
        have h2 : us.length * us.length ≤ 10 * 10 := Nat.mul_le_mul t2 t2
        unfold cp; omega
      · simp
  have hlen2 : (if okCP us d = true then cp us d else []).length ≤ 1000 := by
    rcases hlen with h | h
    · exact h
    · have : okCP us d = false := by unfold okCP; rw [h]; rfl
      rw [this, if_neg (by decide)]; simp
  cases hq : (if okTable us = true then lea us 1 5 else none) with
  | none =>
    rw [hq] at hA hB
    refine ⟨_, _, _, _, two_cp_i us hm hs d, two_cp_s us hm hs d, hA, hB, two_vps _ hlen2, fun ho => ?_⟩
    have ho2 := ho
    unfold okCP at ho2
    rw [Bool.and_eq_true, Bool.and_eq_true, decide_eq_true_eq, decide_eq_true_eq] at ho2
    obtain ⟨o1, o2, o3⟩ := ho2
    obtain ⟨D, rfl⟩ : ∃ D : Nat, d = D := ⟨d.toNat, by omega⟩
    rw [o1, if_pos rfl] at hq
    have hcp : cp us (D : Int) = [] := lea_none us 5 1 hq D (by omega) (by omega)
    rw [ho, if_pos rfl, hcp]
    refine ⟨.inl ⟨rfl, rfl⟩, fun ms a b w f r ok th m => ?_⟩
    have := pairs_loop ms us a b w f r ok th m D 0 [] (by simp) hm hs o1 [] 0 rfl (by simp)
    rw [c0] at this
    exact this
  | some e =>
    rw [hq] at hA hB
    refine ⟨_, _, _, _, two_cp_i us hm hs d, two_cp_s us hm hs d, hA, hB, two_vps _ hlen2, fun ho => ?_⟩
    have ho2 := ho
    unfold okCP at ho2
    rw [Bool.and_eq_true, Bool.and_eq_true, decide_eq_true_eq, decide_eq_true_eq] at ho2
    obtain ⟨o1, o2, o3⟩ := ho2
    obtain ⟨D, rfl⟩ : ∃ D : Nat, d = D := ⟨d.toNat, by omega⟩
    rw [o1, if_pos rfl] at hq
    obtain ⟨l1, l2⟩ := cp_law us (okTable_nodup o1) D (by omega) (by omega)
    rw [ho, if_pos rfl] at hlen2 ⊢
    refine ⟨?_, fun ms a b w f r ok th m => ?_⟩
    · by_cases hc : cp us (D : Int) = []
      · right; right
        refine ⟨rfl, by rw [hc]; rfl, fun hle => ?_⟩
        exact l1.2 ⟨e, hq, by omega⟩ hc
      · right; left
        obtain ⟨e', he', hle⟩ := l1.1 hc
        rw [hq] at he'
        cases he'
        exact ⟨rfl, List.length_pos_iff.2 hc, by omega⟩
    · have := pairs_loop ms us a b w f r ok th m D e (cp us (D : Int)) (by omega) hm hs o1 (cp us (D : Int)) 0 rfl (fun p hp => by
        obtain ⟨e', x, y, q1, q2, q3, q4, q5, q6, q7, q8⟩ := l2 p hp
        rw [hq] at q1
        cases q1
        have m1 : mk_ us p.1 = x := by unfold mk_; rw [List.getD_eq_getElem?_getD, q4]; rfl
        have m2 : mk_ us p.2 = y := by unfold mk_; rw [List.getD_eq_getElem?_getD, q5]; rfl
        rw [m1, m2]
        exact ⟨q2, q3, q6, q7, q8⟩)
      rw [c0] at this
      exact this
theorem FnMistaken (x0 : List Int) (b0 : x0.length ≤ maxLen ∧ ∀ y ∈ x0, (Lit.int .u8 y).wf = true) : ev E1 3 [(AV.lst 1 (x0.map (fun q : Int => (AV.v (.int .u8 q)))))] [] = some (bl true, []) := by
  obtain ⟨hl, hw⟩ := b0
  show ev E1 3 [.lst 1 (cd x0)] [] = _
  have hb := two_big x0
  by_cases h0 : (65536 : Int) < (x0.length : Int)
  · rw [decide_eq_true h0] at hb
    rw [g3]
    unfold runF
    simp -implicitDefEqProofs [L3, hb]
  · rw [decide_eq_false h0] at hb
    have hx : okC x0 := by
      refine ⟨by omega, fun y hy => ?_⟩
      have h := hw y hy
      unfold Lit.wf at h
      rw [Bool.and_eq_true, decide_eq_true_eq, decide_eq_true_eq] at h
      exact h
    have hc : ev E1 13 [.lst 1 (cd x0), i64 1] [] = some (.lst 1 (cd (cutD x0 1)), []) := two_vcut x0 hx (by omega) 1 (by omega)
    obtain ⟨ms, a, b, m, zm, zs, z3, d1⟩ := two_dMW x0 hx
    obtain ⟨us, d, zu, zus, d2⟩ := two_dCP (cutD x0 1) (cutD_ok hx (by omega) 1 (by omega))
    obtain ⟨w, f, r, ok, th, a1, a2, a3, a4, a5, a6, a7, a8⟩ := f_mean ms (by omega) (fun x hx => Nat.le_trans (zs x hx) (by decide)) a b m (by omega)
    obtain ⟨C, one, two, L, e1, e2, e3, e4, e5, e6⟩ := f_pairs us (by omega) (fun x hx => Nat.le_trans (zus x hx) (by decide)) d
    have e6 : one = true → _ ∧ _ := fun h => ⟨(e6 h).1, (e6 h).2 ms a b w f r ok th m⟩
    have hf1 := free_st ms
    have hf2 := free_st us
    have hf3 := free_pr C
    have hQ : (ms.map st).length = ms.length := List.length_map _
    have hQ3 : (C.map pr).length = C.length := List.length_map _
    clear hx hw hl h0 zm zs z3 zu zus
    generalize cd (cutD x0 1) = y0 at *
    generalize C.map pr = Q3 at *
    generalize ms.map st = Q1 at *
    generalize us.map st = Q2 at *
    obtain ⟨w1, w2⟩ := w
    obtain ⟨f1, f2⟩ := f
    obtain ⟨r1, r2⟩ := r
    unfold pr at *
    simp only at *
    rw [g3]
    unfold runF
    cases th with
    | false =>
      cases ok with
      | true => exact absurd (a7 rfl).1 (by decide)
      | false =>
        cases one with
        | false =>
          simp (maxSteps := 8000000) -implicitDefEqProofs [L3, hb, hc, d1, d2, a1, a2, a3, a4, a5, a6, e1, e2, e3, e4, e5, hf1, hf2, hf3, hQ, hQ3]
        | true =>
          obtain ⟨k1, k2⟩ := e6 rfl
          rcases k1 with ⟨rfl, k1⟩ | ⟨rfl, k1, k3⟩ | ⟨rfl, k1, k3⟩
          · have kn : ¬ (0 : Int) < (C.length : Int) := by omega
            have kn2 : ¬ 0 < C.length := by omega
            simp (maxSteps := 8000000) -implicitDefEqProofs [L3, hb, hc, d1, d2, a1, a2, a3, a4, a5, a6, e1, e2, e3, e4, e5, hf1, hf2, hf3, hQ, hQ3, k2, kn, kn2]
          · have kn : (0 : Int) < (C.length : Int) := by omega
            simp (maxSteps := 8000000) -implicitDefEqProofs [L3, hb, hc, d1, d2, a1, a2, a3, a4, a5, a6, e1, e2, e3, e4, e5, hf1, hf2, hf3, hQ, hQ3, k2, kn, k1, k3]
          · have kn : ¬ (0 : Int) < (C.length : Int) := by omega
            have kn2 : ¬ 0 < C.length := by omega
            simp (maxSteps := 8000000) -implicitDefEqProofs [L3, hb, hc, d1, d2, a1, a2, a3, a4, a5, a6, e1, e2, e3, e4, e5, hf1, hf2, hf3, hQ, hQ3, k2, kn, kn2, k3]
    | true =>
      obtain ⟨s, z, r_l, r_z, r_v⟩ := a8 rfl
      obtain ⟨s1, s2⟩ := s
      simp only at r_l r_z r_v
      cases ok with
      | false =>
        cases one with
        | false =>
          simp (maxSteps := 8000000) -implicitDefEqProofs [L3, hb, hc, d1, d2, a1, a2, a3, a4, a5, a6, e1, e2, e3, e4, e5, hf1, hf2, hf3, hQ, hQ3, r_l, r_z, r_v]
        | true =>
          obtain ⟨k1, k2⟩ := e6 rfl
          rcases k1 with ⟨rfl, k1⟩ | ⟨rfl, k1, k3⟩ | ⟨rfl, k1, k3⟩
          · have kn : ¬ (0 : Int) < (C.length : Int) := by omega
            have kn2 : ¬ 0 < C.length := by omega
            simp (maxSteps := 8000000) -implicitDefEqProofs [L3, hb, hc, d1, d2, a1, a2, a3, a4, a5, a6, e1, e2, e3, e4, e5, hf1, hf2, hf3, hQ, hQ3, r_l, r_z, r_v, k2, kn, kn2]
          · have kn : (0 : Int) < (C.length : Int) := by omega
            simp (maxSteps := 8000000) -implicitDefEqProofs [L3, hb, hc, d1, d2, a1, a2, a3, a4, a5, a6, e1, e2, e3, e4, e5, hf1, hf2, hf3, hQ, hQ3, r_l, r_z, r_v, k2, kn, k1, k3]
          · have kn : ¬ (0 : Int) < (C.length : Int) := by omega
            have kn2 : ¬ 0 < C.length := by omega
            simp (maxSteps := 8000000) -implicitDefEqProofs [L3, hb, hc, d1, d2, a1, a2, a3, a4, a5, a6, e1, e2, e3, e4, e5, hf1, hf2, hf3, hQ, hQ3, r_l, r_z, r_v, k2, kn, kn2, k3]
      | true =>
        obtain ⟨-, m1, A, q1, q2, z1, z2, m2, m3, m4, m5, m6, m7, m8, m9, n1, n2, n3⟩ := a7 rfl
        have m4' : ¬ w2 = 0 := by omega
        have m5' : ¬ f2 = 0 := by omega
        by_cases a0 : a = 0
        · obtain ⟨rfl, rfl⟩ := Prod.mk.inj (m3 a0)
          subst a0
          simp only [show ((0 : Nat) : Int) = 0 from rfl, show ((1 : Nat) : Int) = 1 from rfl] at *
          have wz : IntKind.i64.wrap 0 ≤ z2 := by
            have e0 : IntKind.i64.wrap 0 = z1 := by rw [← n1, Int.zero_mul]
            rw [e0]; omega
          cases one with
          | false =>
            simp (maxSteps := 8000000) -implicitDefEqProofs [L3, hb, hc, d1, d2, a1, a2, a3, a4, a5, a6, e1, e2, e3, e4, e5, hf1, hf2, hf3, hQ, hQ3, r_l, r_z, r_v, m1, m2, m4, m5, m4', m5', m6, m7, m8, m9, n1, n2, n3, wz]
          | true =>
            obtain ⟨k1, k2⟩ := e6 rfl
            rcases k1 with ⟨rfl, k1⟩ | ⟨rfl, k1, k3⟩ | ⟨rfl, k1, k3⟩
            · have kn : ¬ (0 : Int) < (C.length : Int) := by omega
              have kn2 : ¬ 0 < C.length := by omega
              simp (maxSteps := 8000000) -implicitDefEqProofs [L3, hb, hc, d1, d2, a1, a2, a3, a4, a5, a6, e1, e2, e3, e4, e5, hf1, hf2, hf3, hQ, hQ3, r_l, r_z, r_v, m1, m2, m4, m5, m4', m5', m6, m7, m8, m9, n1, n2, n3, wz, k2, kn, kn2]
            · have kn : (0 : Int) < (C.length : Int) := by omega
              simp (maxSteps := 8000000) -implicitDefEqProofs [L3, hb, hc, d1, d2, a1, a2, a3, a4, a5, a6, e1, e2, e3, e4, e5, hf1, hf2, hf3, hQ, hQ3, r_l, r_z, r_v, m1, m2, m4, m5, m4', m5', m6, m7, m8, m9, n1, n2, n3, wz, k2, kn, k1, k3]
            · have kn : ¬ (0 : Int) < (C.length : Int) := by omega
              have kn2 : ¬ 0 < C.length := by omega
              simp (maxSteps := 8000000) -implicitDefEqProofs [L3, hb, hc, d1, d2, a1, a2, a3, a4, a5, a6, e1, e2, e3, e4, e5, hf1, hf2, hf3, hQ, hQ3, r_l, r_z, r_v, m1, m2, m4, m5, m4', m5', m6, m7, m8, m9, n1, n2, n3, wz, k2, kn, kn2, k3]
        · cases one with
          | false =>
            simp (maxSteps := 8000000) -implicitDefEqProofs [L3, hb, hc, d1, d2, a1, a2, a3, a4, a5, a6, e1, e2, e3, e4, e5, hf1, hf2, hf3, hQ, hQ3, r_l, r_z, r_v, m1, m2, m4, m5, m4', m5', m6, m7, m8, m9, n1, n2, n3, a0]
          | true =>
            obtain ⟨k1, k2⟩ := e6 rfl
            rcases k1 with ⟨rfl, k1⟩ | ⟨rfl, k1, k3⟩ | ⟨rfl, k1, k3⟩
            · have kn : ¬ (0 : Int) < (C.length : Int) := by omega
              have kn2 : ¬ 0 < C.length := by omega
              simp (maxSteps := 8000000) -implicitDefEqProofs [L3, hb, hc, d1, d2, a1, a2, a3, a4, a5, a6, e1, e2, e3, e4, e5, hf1, hf2, hf3, hQ, hQ3, r_l, r_z, r_v, m1, m2, m4, m5, m4', m5', m6, m7, m8, m9, n1, n2, n3, a0, k2, kn, kn2]
            · have kn : (0 : Int) < (C.length : Int) := by omega
              simp (maxSteps := 8000000) -implicitDefEqProofs [L3, hb, hc, d1, d2, a1, a2, a3, a4, a5, a6, e1, e2, e3, e4, e5, hf1, hf2, hf3, hQ, hQ3, r_l, r_z, r_v, m1, m2, m4, m5, m4', m5', m6, m7, m8, m9, n1, n2, n3, a0, k2, kn, k1, k3]
            · have kn : ¬ (0 : Int) < (C.length : Int) := by omega
              have kn2 : ¬ 0 < C.length := by omega
              simp (maxSteps := 8000000) -implicitDefEqProofs [L3, hb, hc, d1, d2, a1, a2, a3, a4, a5, a6, e1, e2, e3, e4, e5, hf1, hf2, hf3, hQ, hQ3, r_l, r_z, r_v, m1, m2, m4, m5, m4', m5', m6, m7, m8, m9, n1, n2, n3, a0, k2, kn, kn2, k3]
end Go.Proofs.YtgecnbafmlecjaaGreatDoor.Ev
