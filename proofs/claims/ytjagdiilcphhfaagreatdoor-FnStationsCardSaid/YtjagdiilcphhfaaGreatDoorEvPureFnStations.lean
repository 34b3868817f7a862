/- FnStations: the law, run by the evaluator, answers true. -/
import Derived.Test.YtjagdiilcphhfaaGreatDoorEvStH
set_option linter.unusedVariables false
set_option linter.unusedSimpArgs false
set_option maxRecDepth 8000
set_option maxHeartbeats 8000000
namespace Go.Proofs.YtjagdiilcphhfaaGreatDoor.Ev
open Dr
theorem f_new (ms : List ByteArray) (h : smallT ms) : ∃ (a : ByteArray) (ok : Bool), ev E1 20 [tA ms] [] = some (.tup [sA a ⟨#[]⟩ 0, bl ok], []) ∧ ev E1 21 [tA ms] [] = some (.tup [sA a ⟨#[]⟩ 0, bl ok], []) ∧ (ok = true → ev E1 25 [sA a ⟨#[]⟩ 0] [] = some (.tup [tA ms, bl true], [])) := by
  refine ⟨_, _, two_new_i ms h, two_new_s ms h, fun ho => ?_⟩
  rw [ho, if_pos rfl]
  have hz := text_small ho
  have hs := newSt_ok ho
  have h0 : (⟨#[]⟩ : ByteArray).size = 0 := rfl
  rw [two_tab_i _ _ _ (by omega) (by omega), hs, if_pos rfl, text_parts ho]
theorem f_tab (a b : ByteArray) (n : Int) (ha : a.size ≤ 1073741824) (hb : b.size ≤ 1073741824) : ∃ (ms : List ByteArray) (ok : Bool), ms.length ≤ 100 ∧ ev E1 25 [sA a b n] [] = some (.tup [tA ms, bl ok], []) ∧ ev E1 26 [sA a b n] [] = some (.tup [tA ms, bl ok], []) ∧
    ev E1 28 [sA a b n] [] = some (bl ok, []) ∧ ev E1 29 [sA a b n] [] = some (bl ok, []) := by
  refine ⟨_, _, ?_, two_tab_i a b n ha hb, two_tab_s a b n ha hb, two_is_i a b n ha hb, two_is_s a b n ha hb⟩
  split
  · rename_i hs
    have h1 := okTable_len (show okTable (partsB 44 a) = true from (okSt_small hs).1)
    omega
  · simp
/-- What the law asks of a key. -/
theorem f_key (a b : ByteArray) (n k x y : Int) (m : ByteArray) (ha : a.size ≤ 1073741824) (hb : b.size ≤ 1073741824) (hm : m.size ≤ 1073741824) : ∃ (p q : ByteArray) (c : Int) (fine : Bool),
    ev E1 11 [sA a b n, kA k x y m] [] = some (.tup [sA p q c, bl fine], []) ∧ ev E1 8 [sA a b n, kA k x y m] [] = some (.tup [sA p q c, bl fine], []) ∧
    (fine = true → ev E1 28 [sA p q c] [] = some (bl true, []) ∧ IntKind.i64.wrap (n + 1) = n + 1 ∧ c = n + 1 ∧
      (c ≠ 1000 → k ≠ 3 → k ≠ 4 → ∃ c' : Int, ev E1 11 [sA p q c, kA (bk k x y m).1 (bk k x y m).2.1 (bk k x y m).2.2.1 (bk k x y m).2.2.2] [] = some (.tup [sA a b c', bl true], []))) := by
  have e1 := two_key_i a b n k x y m ha hb hm
  have e2 := two_key_s a b n k x y m ha hb hm
  rw [dkV_eq] at e1 e2
  refine ⟨_, _, _, _, e1, e2, fun hf => ?_⟩
  cases hs : okSt a b n with
  | false =>
    rw [hs, if_neg (show ¬ (false = true) by decide)] at hf
    cases hf
  | true =>
    rw [hs, if_pos (show true = true from rfl)] at hf
    rw [if_pos (show true = true from rfl)]
    obtain ⟨hc, z1, z2, z3, z4⟩ := okSt_small hs
    cases hd : dk a b n k x y m with
    | none => rw [hd] at hf; cases hf
    | some r =>
      obtain ⟨p, q⟩ := r
      have hok := dk_ok hd
      obtain ⟨_, y1, y2, y3, y4⟩ := okSt_small hok
      show ev E1 28 [sA p q (n + 1)] [] = _ ∧ _ ∧ (n + 1 = n + 1) ∧ (n + 1 ≠ 1000 → _)
      refine ⟨?_, wr64 (by omega) (by omega), rfl, fun h1 h3 h4 => ?_⟩
      · rw [two_is_i p q (n + 1) (by omega) (by omega), hok]
      · have hb2 := key_back hs hd h1 h3 h4
        have hms : (bk k x y m).2.2.2.size ≤ 1073741824 := by
          unfold bk
          split
          · decide
          · exact hm
        refine ⟨n + 1 + 1, ?_⟩
        show ev E1 11 [sA p q (n + 1), kA (bk k x y m).1 (bk k x y m).2.1 (bk k x y m).2.2.1 (bk k x y m).2.2.2] [] = _
        rw [two_key_i p q (n + 1) _ _ _ _ (by omega) (by omega) hms, hok, if_pos (show true = true from rfl), hb2]
        rfl
theorem FnStations (x0 : List Int) (b0 : x0.length ≤ maxLen ∧ ∀ y ∈ x0, (Lit.int .u8 y).wf = true) : ev E1 5 [(AV.lst 1 (x0.map (fun q : Int => (AV.v (.int .u8 q)))))] [] = some (bl true, []) := by
  obtain ⟨hl, hw⟩ := b0
  show ev E1 5 [.lst 1 (cd x0)] [] = _
  have hb := two_big x0
  by_cases h0 : (65536 : Int) < (x0.length : Int)
  · rw [decide_eq_true h0] at hb
    rw [g5]
    unfold runF
    simp -implicitDefEqProofs [L5, hb]
  · rw [decide_eq_false h0] at hb
    have hx : okC x0 := okC_of (by omega) hw
    have hl2 : x0.length ≤ 65536 := by omega
    have v1 := two_vcut x0 hx hl2 1 (by omega)
    have v2 := two_vcut x0 hx hl2 2 (by omega)
    rw [show ((1 : Nat) : Int) = 1 from rfl] at v1
    rw [show ((2 : Nat) : Int) = 2 from rfl] at v2
    obtain ⟨ts, hts, d1⟩ := two_dNew x0 hx
    obtain ⟨a, b, n, k, x, y, m, z1, z2, z3, z4, z5, d2⟩ := two_dKey _ (cutD_ok hx hl2 1 (by omega))
    obtain ⟨a2, b2, n2, l, w1, w2, w3, w4, w5, w6, d3⟩ := two_dKeys _ (cutD_ok hx hl2 2 (by omega))
    obtain ⟨nc, ok, e1, e2, e3⟩ := f_new ts hts
    obtain ⟨p, q, c, fine, f1, f2, f3⟩ := f_key a b n k x y m (by omega) (by omega) (by omega)
    obtain ⟨p2, q2, c2, i2, there, t1, t2, t3⟩ := two_keys a2 b2 n2 (by omega) (by omega) l w5 w6
    obtain ⟨us, one, hus, u1, u2, u3, u4⟩ := f_tab a b n (by omega) (by omega)
    have r1 := two_vTab ts (by have := hts.1; omega)
    have r2 := two_vTab us (by omega)
    have t4 : there = true → ev E1 28 [sA p2 q2 c2] [] = some (bl true, []) := fun h => by
      have h2 := t1 h
      obtain ⟨_, y1, y2, _, _⟩ := okSt_small h2
      rw [two_is_i p2 q2 c2 (by omega) (by omega), h2]
    have hfl := free_kb l
    clear hts hw hl h0 z1 z2 z5 w1 w2 w3 w4 w5 w6 hus t1
    unfold tA at *
    generalize ts.map st = ts at *
    generalize us.map st = us at *
    generalize l.map kb = l at *
    generalize cd (cutD x0 1) = x1 at *
    generalize cd (cutD x0 2) = x2 at *
    rw [g5]
    unfold runF
    cases ok with
    | true =>
      have e3 := e3 rfl
      unfold sA kA at *
      cases there with
      | true =>
        have t4 := t4 rfl
        cases fine with
        | false => simp (maxSteps := 4000000) -implicitDefEqProofs [L5, hb, v1, v2, d1, d2, d3, e1, e2, f1, f2, t2, t3, u1, u2, u3, u4, r1, r2, hfl, e3, t4]
        | true =>
          obtain ⟨f3, f4, f5, f6⟩ := f3 rfl
          subst f5
          by_cases h1000 : n + 1 = 1000
          · obtain rfl : n = 999 := by omega
            simp only [Int.reduceAdd] at f1 f2 f3 f4
            simp (maxSteps := 4000000) -implicitDefEqProofs [L5, hb, v1, v2, d1, d2, d3, e1, e2, f1, f2, t2, t3, u1, u2, u3, u4, r1, r2, hfl, e3, t4, f3, f4]
          · by_cases k3 : k = 3
            · subst k3
              simp (maxSteps := 4000000) -implicitDefEqProofs [L5, hb, v1, v2, d1, d2, d3, e1, e2, f1, f2, t2, t3, u1, u2, u3, u4, r1, r2, hfl, e3, t4, f3, f4, h1000]
            · by_cases k4 : k = 4
              · subst k4
                simp (maxSteps := 4000000) -implicitDefEqProofs [L5, hb, v1, v2, d1, d2, d3, e1, e2, f1, f2, t2, t3, u1, u2, u3, u4, r1, r2, hfl, e3, t4, f3, f4, h1000]
              · obtain ⟨c', f6⟩ := f6 h1000 k3 k4
                by_cases k1 : k = 1
                · subst k1
                  rw [show bk 1 x y m = (3, 0, 0, ⟨#[]⟩) from rfl] at f6
                  simp (maxSteps := 4000000) -implicitDefEqProofs [L5, hb, v1, v2, d1, d2, d3, e1, e2, f1, f2, t2, t3, u1, u2, u3, u4, r1, r2, hfl, e3, t4, f3, f4, h1000, f6]
                · by_cases k2 : k = 2
                  · subst k2
                    rw [show bk 2 x y m = (3, 0, 0, ⟨#[]⟩) from rfl] at f6
                    simp (maxSteps := 4000000) -implicitDefEqProofs [L5, hb, v1, v2, d1, d2, d3, e1, e2, f1, f2, t2, t3, u1, u2, u3, u4, r1, r2, hfl, e3, t4, f3, f4, h1000, f6]
                  · rw [show bk k x y m = (k, x, y, m) by unfold bk; rw [if_neg (by rintro (e | e); exact k1 e; exact k2 e)]] at f6
                    simp (maxSteps := 4000000) -implicitDefEqProofs [L5, hb, v1, v2, d1, d2, d3, e1, e2, f1, f2, t2, t3, u1, u2, u3, u4, r1, r2, hfl, e3, t4, f3, f4, h1000, f6, k1, k2, k3, k4]
      | false =>
        cases fine with
        | false => simp (maxSteps := 4000000) -implicitDefEqProofs [L5, hb, v1, v2, d1, d2, d3, e1, e2, f1, f2, t2, t3, u1, u2, u3, u4, r1, r2, hfl, e3]
        | true =>
          obtain ⟨f3, f4, f5, f6⟩ := f3 rfl
          subst f5
          by_cases h1000 : n + 1 = 1000
          · obtain rfl : n = 999 := by omega
            simp only [Int.reduceAdd] at f1 f2 f3 f4
            simp (maxSteps := 4000000) -implicitDefEqProofs [L5, hb, v1, v2, d1, d2, d3, e1, e2, f1, f2, t2, t3, u1, u2, u3, u4, r1, r2, hfl, e3, f3, f4]
          · by_cases k3 : k = 3
            · subst k3
              simp (maxSteps := 4000000) -implicitDefEqProofs [L5, hb, v1, v2, d1, d2, d3, e1, e2, f1, f2, t2, t3, u1, u2, u3, u4, r1, r2, hfl, e3, f3, f4, h1000]
            · by_cases k4 : k = 4
              · subst k4
                simp (maxSteps := 4000000) -implicitDefEqProofs [L5, hb, v1, v2, d1, d2, d3, e1, e2, f1, f2, t2, t3, u1, u2, u3, u4, r1, r2, hfl, e3, f3, f4, h1000]
              · obtain ⟨c', f6⟩ := f6 h1000 k3 k4
                by_cases k1 : k = 1
                · subst k1
                  rw [show bk 1 x y m = (3, 0, 0, ⟨#[]⟩) from rfl] at f6
                  simp (maxSteps := 4000000) -implicitDefEqProofs [L5, hb, v1, v2, d1, d2, d3, e1, e2, f1, f2, t2, t3, u1, u2, u3, u4, r1, r2, hfl, e3, f3, f4, h1000, f6]
                · by_cases k2 : k = 2
                  · subst k2
                    rw [show bk 2 x y m = (3, 0, 0, ⟨#[]⟩) from rfl] at f6
                    simp (maxSteps := 4000000) -implicitDefEqProofs [L5, hb, v1, v2, d1, d2, d3, e1, e2, f1, f2, t2, t3, u1, u2, u3, u4, r1, r2, hfl, e3, f3, f4, h1000, f6]
                  · rw [show bk k x y m = (k, x, y, m) by unfold bk; rw [if_neg (by rintro (e | e); exact k1 e; exact k2 e)]] at f6
                    simp (maxSteps := 4000000) -implicitDefEqProofs [L5, hb, v1, v2, d1, d2, d3, e1, e2, f1, f2, t2, t3, u1, u2, u3, u4, r1, r2, hfl, e3, f3, f4, h1000, f6, k1, k2, k3, k4]
    | false =>
      clear e3
      unfold sA kA at *
      cases there with
      | true =>
        have t4 := t4 rfl
        cases fine with
        | false => simp (maxSteps := 4000000) -implicitDefEqProofs [L5, hb, v1, v2, d1, d2, d3, e1, e2, f1, f2, t2, t3, u1, u2, u3, u4, r1, r2, hfl, t4]
        | true =>
          obtain ⟨f3, f4, f5, f6⟩ := f3 rfl
          subst f5
          by_cases h1000 : n + 1 = 1000
          · obtain rfl : n = 999 := by omega
            simp only [Int.reduceAdd] at f1 f2 f3 f4
            simp (maxSteps := 4000000) -implicitDefEqProofs [L5, hb, v1, v2, d1, d2, d3, e1, e2, f1, f2, t2, t3, u1, u2, u3, u4, r1, r2, hfl, t4, f3, f4]
          · by_cases k3 : k = 3
            · subst k3
              simp (maxSteps := 4000000) -implicitDefEqProofs [L5, hb, v1, v2, d1, d2, d3, e1, e2, f1, f2, t2, t3, u1, u2, u3, u4, r1, r2, hfl, t4, f3, f4, h1000]
            · by_cases k4 : k = 4
              · subst k4
                simp (maxSteps := 4000000) -implicitDefEqProofs [L5, hb, v1, v2, d1, d2, d3, e1, e2, f1, f2, t2, t3, u1, u2, u3, u4, r1, r2, hfl, t4, f3, f4, h1000]
              · obtain ⟨c', f6⟩ := f6 h1000 k3 k4
                by_cases k1 : k = 1
                · subst k1
                  rw [show bk 1 x y m = (3, 0, 0, ⟨#[]⟩) from rfl] at f6
                  simp (maxSteps := 4000000) -implicitDefEqProofs [L5, hb, v1, v2, d1, d2, d3, e1, e2, f1, f2, t2, t3, u1, u2, u3, u4, r1, r2, hfl, t4, f3, f4, h1000, f6]
                · by_cases k2 : k = 2
                  · subst k2
                    rw [show bk 2 x y m = (3, 0, 0, ⟨#[]⟩) from rfl] at f6
                    simp (maxSteps := 4000000) -implicitDefEqProofs [L5, hb, v1, v2, d1, d2, d3, e1, e2, f1, f2, t2, t3, u1, u2, u3, u4, r1, r2, hfl, t4, f3, f4, h1000, f6]
                  · rw [show bk k x y m = (k, x, y, m) by unfold bk; rw [if_neg (by rintro (e | e); exact k1 e; exact k2 e)]] at f6
                    simp (maxSteps := 4000000) -implicitDefEqProofs [L5, hb, v1, v2, d1, d2, d3, e1, e2, f1, f2, t2, t3, u1, u2, u3, u4, r1, r2, hfl, t4, f3, f4, h1000, f6, k1, k2, k3, k4]
      | false =>
        cases fine with
        | false => simp (maxSteps := 4000000) -implicitDefEqProofs [L5, hb, v1, v2, d1, d2, d3, e1, e2, f1, f2, t2, t3, u1, u2, u3, u4, r1, r2, hfl]
        | true =>
          obtain ⟨f3, f4, f5, f6⟩ := f3 rfl
          subst f5
          by_cases h1000 : n + 1 = 1000
          · obtain rfl : n = 999 := by omega
            simp only [Int.reduceAdd] at f1 f2 f3 f4
            simp (maxSteps := 4000000) -implicitDefEqProofs [L5, hb, v1, v2, d1, d2, d3, e1, e2, f1, f2, t2, t3, u1, u2, u3, u4, r1, r2, hfl, f3, f4]
          · by_cases k3 : k = 3
            · subst k3
              simp (maxSteps := 4000000) -implicitDefEqProofs [L5, hb, v1, v2, d1, d2, d3, e1, e2, f1, f2, t2, t3, u1, u2, u3, u4, r1, r2, hfl, f3, f4, h1000]
            · by_cases k4 : k = 4
              · subst k4
                simp (maxSteps := 4000000) -implicitDefEqProofs [L5, hb, v1, v2, d1, d2, d3, e1, e2, f1, f2, t2, t3, u1, u2, u3, u4, r1, r2, hfl, f3, f4, h1000]
              · obtain ⟨c', f6⟩ := f6 h1000 k3 k4
                by_cases k1 : k = 1
                · subst k1
                  rw [show bk 1 x y m = (3, 0, 0, ⟨#[]⟩) from rfl] at f6
                  simp (maxSteps := 4000000) -implicitDefEqProofs [L5, hb, v1, v2, d1, d2, d3, e1, e2, f1, f2, t2, t3, u1, u2, u3, u4, r1, r2, hfl, f3, f4, h1000, f6]
                · by_cases k2 : k = 2
                  · subst k2
                    rw [show bk 2 x y m = (3, 0, 0, ⟨#[]⟩) from rfl] at f6
                    simp (maxSteps := 4000000) -implicitDefEqProofs [L5, hb, v1, v2, d1, d2, d3, e1, e2, f1, f2, t2, t3, u1, u2, u3, u4, r1, r2, hfl, f3, f4, h1000, f6]
                  · rw [show bk k x y m = (k, x, y, m) by unfold bk; rw [if_neg (by rintro (e | e); exact k1 e; exact k2 e)]] at f6
                    simp (maxSteps := 4000000) -implicitDefEqProofs [L5, hb, v1, v2, d1, d2, d3, e1, e2, f1, f2, t2, t3, u1, u2, u3, u4, r1, r2, hfl, f3, f4, h1000, f6, k1, k2, k3, k4]
end Go.Proofs.YtjagdiilcphhfaaGreatDoor.Ev
