/- FnExactDoKey: the law, run by the evaluator, answers true. -/
import Derived.Test.YtjagdiilcphhfaaGreatDoorEvKe5
set_option linter.unusedVariables false
set_option linter.unusedSimpArgs false
namespace Go.Proofs.YtjagdiilcphhfaaGreatDoor.Ev
theorem FnExactDoKey (x0 : ByteArray × ByteArray × Int) (b0 : (x0.1.size ≤ maxLen) ∧ (x0.2.1.size ≤ maxLen) ∧ (Lit.int .i64 x0.2.2).wf = true) (x1 : Int × Int × Int × ByteArray) (b1 : ((Lit.int .i64 x1.1).wf = true) ∧ ((Lit.int .i64 x1.2.1).wf = true) ∧ ((Lit.int .i64 x1.2.2.1).wf = true) ∧ x1.2.2.2.size ≤ maxLen) : ev E0 3 [(AV.agg [(st x0.1), (st x0.2.1), (i64 x0.2.2)]), (AV.agg [(i64 x1.1), (i64 x1.2.1), (i64 x1.2.2.1), (st x1.2.2.2)])] [] = some (bl true, []) := by
  obtain ⟨a, b, n⟩ := x0
  obtain ⟨k, x, y, m⟩ := x1
  obtain ⟨ha, hb, _⟩ := b0
  obtain ⟨_, _, _, hm⟩ := b1
  simp only at ha hb hm ⊢
  unfold maxLen at ha hb hm
  obtain ⟨r, e, h⟩ := sz_station a b n (by omega) (by omega)
  have hsta := sz_le a b n (by omega) (by omega)
  rw [e3]
  unfold runF
  by_cases hr : r < 0
  · simp -implicitDefEqProofs [L3, e, hr]
  · rcases h with h | ⟨h0, h1, h2⟩
    · exact absurd h hr
    have hrb := hsta r e h0
    have hk := sz_key k x y m r (by omega) (by omega) (by omega)
    by_cases hr2 : r - (m.size : Int) < 0
    · rw [if_pos hr2] at hk
      unfold kA at hk
      simp -implicitDefEqProofs [L3, e, hr, hk]
    · rw [if_neg hr2] at hk
      have e1 := key_s a b n k x y m (by omega) (by omega) (by omega)
      have e2 := key_i a b n k x y m (by omega) (by omega) (by omega)
      have t2 := to_key k x y m
      have t1 := to_station a b n
      generalize (if okSt a b n = true then dk a b n k x y m else none) = R at *
      unfold kA sA at *
      rcases R with _ | ⟨a', b'⟩
      · unfold dkV sA at *
        have hq := eq_station ⟨#[]⟩ ⟨#[]⟩ 0
        simp -implicitDefEqProofs [L3, e, hr, hr2, hk, t1, t2, e1, e2, hq]
      · unfold dkV sA at *
        have hq := eq_station a' b' (n + 1)
        simp -implicitDefEqProofs [L3, e, hr, hr2, hk, t1, t2, e1, e2, hq]
end Go.Proofs.YtjagdiilcphhfaaGreatDoor.Ev
