/- FnSignals: the law, run by the evaluator, answers true. -/
import Derived.Test.YtckfbfgfjlgmeaaGreatDoorEvSgK
set_option linter.unusedVariables false
set_option linter.unusedSimpArgs false
set_option maxRecDepth 8000
set_option maxHeartbeats 8000000
namespace Go.Proofs.YtckfbfgfjlgmeaaGreatDoor.Ev
open Dr
theorem f_msg (ms : List ByteArray) (h : smallT ms) (m : ByteArray) (hm : m.size ≤ 30) : ∃ (s bare : ByteArray) (ok tabOk : Bool) (tm a b : Int),
    ev E1 56 [tA ms, st m] [] = some (.tup [st s, bl ok], []) ∧ ev E1 57 [tA ms, st m] [] = some (.tup [st s, bl ok], []) ∧
    ev E1 58 [tA ms, st m] [] = some (.tup [bl ok, bl tabOk], []) ∧ ev E1 59 [tA ms, st m] [] = some (.tup [bl ok, bl tabOk], []) ∧ (ok = true → tabOk = true) ∧
    ev E1 60 [tA ms, st m] [] = some (.tup [i64 tm, bl ok], []) ∧ ev E1 61 [tA ms, st m] [] = some (.tup [i64 tm, bl ok], []) ∧
    ev E1 62 [tA ms, st m] [] = some (.tup [.agg [i64 a, i64 b], bl ok], []) ∧ ev E1 63 [tA ms, st m] [] = some (.tup [.agg [i64 a, i64 b], bl ok], []) ∧
    ev E1 64 [tA ms, st m] [] = some (.tup [st bare, bl ok], []) ∧ ev E1 65 [tA ms, st m] [] = some (.tup [st bare, bl ok], []) ∧
    (ok = true → ev E1 67 [tA ms, st s] [] = some (.tup [st m, bl true], []) ∧ ev E1 70 [st s] [] = some (.tup [i64 tm, bl true], []) ∧
      (bare.size : Int) = a + b ∧ IntKind.i64.wrap (a + b) = a + b ∧ IntKind.i64.wrap (3 * b) = 3 * b ∧ IntKind.i64.wrap (a + 3 * b) = a + 3 * b ∧ a + 3 * b ≤ tm) := by
  refine ⟨_, _, _, _, _, _, _, two_enc_i ms h m (by omega), two_enc_s ms h m (by omega), two_is_i ms h m (by omega), two_is_s ms h m (by omega), fun ho => ?_, two_tm_i ms h m (by omega), two_tm_s ms h m (by omega), two_cm_i ms h m (by omega), two_cm_s ms h m (by omega), two_bare_i ms h m (by omega), two_bare_s ms h m (by omega), fun ho => ?_⟩
  · unfold okTM at ho
    rw [Bool.and_eq_true] at ho
    exact ho.1
  · unfold cA cB
    rw [ho, if_pos rfl, if_pos rfl, if_pos rfl, if_pos rfl, if_pos rfl]
    unfold okTM at ho
    rw [Bool.and_eq_true] at ho
    obtain ⟨h1, h2⟩ := ho
    have hz := enc_small h1 h2
    have hsg := enc_sig h1 m h2
    obtain ⟨q1, q2⟩ := enc_dec h1 h2
    have hok : okDS ms (enc ms m) = true := by unfold okDS; rw [h1, hsg, q1]; rfl
    have hb := bare_cnt h1 h2
    have hbz := bare_small h1 h2
    refine ⟨?_, ?_, hb, wr64 (by omega) (by omega), wr64 (by omega) (by omega), wr64 (by omega) (by omega), time_val h1 h2⟩
    · rw [two_dec_i ms h _ (by omega), hok, if_pos rfl, q2]
    · rw [two_sg_i _ (by omega), hsg, if_pos rfl]
theorem f_dec (ms : List ByteArray) (h : smallT ms) (x : ByteArray) (hx : x.size ≤ 300) : ∃ (r : ByteArray) (five : Bool), ev E1 67 [tA ms, st x] [] = some (.tup [st r, bl five], []) ∧ ev E1 68 [tA ms, st x] [] = some (.tup [st r, bl five], []) ∧ (five = true → ev E1 56 [tA ms, st r] [] = some (.tup [st x, bl true], [])) := by
  refine ⟨_, _, two_dec_i ms h x (by omega), two_dec_s ms h x (by omega), fun ho => ?_⟩
  rw [ho, if_pos rfl]
  unfold okDS at ho
  rw [Bool.and_eq_true, Bool.and_eq_true] at ho
  obtain ⟨h1, h2, h3⟩ := ho
  obtain ⟨q1, q2⟩ := dec_enc h1 h2 h3
  have hok : okTM ms (msgD ms (lw x)) = true := by unfold okTM; rw [h1, q1]; rfl
  have hz := (okMsg_msgL q1).2
  rw [two_enc_i ms h _ (by omega), hok, if_pos rfl, q2]
theorem f_sig (y : ByteArray) (hy : y.size ≤ 300) : ∃ (t : Int) (six : Bool), ev E1 70 [st y] [] = some (.tup [i64 t, bl six], []) ∧ ev E1 71 [st y] [] = some (.tup [i64 t, bl six], []) ∧ ev E1 72 [st y] [] = some (bl six, []) :=
  ⟨_, _, two_sg_i y (by omega), two_sg_s y (by omega), two_isSig y (by omega)⟩
theorem FnSignals (x0 : List Int) (b0 : x0.length ≤ maxLen ∧ ∀ y ∈ x0, (Lit.int .u8 y).wf = true) : ev E1 5 [(AV.lst 1 (x0.map (fun q : Int => (AV.v (.int .u8 q)))))] [] = some (bl true, []) := by
  obtain ⟨hl, hw⟩ := b0
  show ev E1 5 [.lst 1 (cd x0)] [] = _
  have hb := two_rbig x0
  by_cases h0 : (65536 : Int) < (x0.length : Int)
  · rw [decide_eq_true h0] at hb
    rw [g5]
    unfold runF
    simp -implicitDefEqProofs [L5, hb]
  · rw [decide_eq_false h0] at hb
    have hx : okC x0 := by
      refine ⟨by omega, fun y hy => ?_⟩
      have h := hw y hy
      unfold Lit.wf at h
      rw [Bool.and_eq_true, decide_eq_true_eq, decide_eq_true_eq] at h
      exact h
    obtain ⟨ts, m, hts, zm, d1⟩ := two_dEnc x0 hx
    obtain ⟨us, x, hus, zx, d2⟩ := two_dDec x0 hx
    obtain ⟨y, zy, d3⟩ := two_dTm x0 hx
    obtain ⟨s, bare, ok, tabOk, tm, a, b, a1, a2, a3, a4, a5, a6, a7, a8, a9, b1, b2, b3⟩ := f_msg ts hts m zm
    obtain ⟨r, five, c1, c2, c3⟩ := f_dec us hus x zx
    obtain ⟨l, six, e1, e2, e3⟩ := f_sig y zy
    clear hts hus zm zx zy hw hl h0
    unfold tA at *
    generalize ts.map st = ts at *
    generalize us.map st = us at *
    rw [g5]
    unfold runF
    cases six <;> cases five with
    | false =>
      cases ok with
      | false => cases tabOk <;> simp (maxSteps := 4000000) -implicitDefEqProofs [L5, hb, d1, d2, d3, a1, a2, a3, a4, a6, a7, a8, a9, b1, b2, c1, c2, e1, e2, e3]
      | true =>
        obtain rfl := a5 rfl
        obtain ⟨p1, p2, p3, p4, p5, p6, p7⟩ := b3 rfl
        simp (maxSteps := 4000000) -implicitDefEqProofs [L5, hb, d1, d2, d3, a1, a2, a3, a4, a6, a7, a8, a9, b1, b2, c1, c2, e1, e2, e3, p1, p2, p3, p4, p5, p6, p7]
    | true =>
      have c3 := c3 rfl
      cases ok with
      | false => cases tabOk <;> simp (maxSteps := 4000000) -implicitDefEqProofs [L5, hb, d1, d2, d3, a1, a2, a3, a4, a6, a7, a8, a9, b1, b2, c1, c2, c3, e1, e2, e3]
      | true =>
        obtain rfl := a5 rfl
        obtain ⟨p1, p2, p3, p4, p5, p6, p7⟩ := b3 rfl
        simp (maxSteps := 4000000) -implicitDefEqProofs [L5, hb, d1, d2, d3, a1, a2, a3, a4, a6, a7, a8, a9, b1, b2, c1, c2, c3, e1, e2, e3, p1, p2, p3, p4, p5, p6, p7]
end Go.Proofs.YtckfbfgfjlgmeaaGreatDoor.Ev
