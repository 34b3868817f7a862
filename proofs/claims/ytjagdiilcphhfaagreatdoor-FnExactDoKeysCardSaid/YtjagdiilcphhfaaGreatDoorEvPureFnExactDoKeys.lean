/- FnExactDoKeys: the law, run by the evaluator, answers true. -/
import Derived.Test.YtjagdiilcphhfaaGreatDoorEvKe7
set_option linter.unusedVariables false
set_option linter.unusedSimpArgs false
namespace Go.Proofs.YtjagdiilcphhfaaGreatDoor.Ev
theorem FnExactDoKeys (x0 : ByteArray × ByteArray × Int) (b0 : (x0.1.size ≤ maxLen) ∧ (x0.2.1.size ≤ maxLen) ∧ (Lit.int .i64 x0.2.2).wf = true) (x1 : List (Int × Int × Int × ByteArray)) (b1 : x1.length ≤ maxLen ∧ ∀ y ∈ x1, ((Lit.int .i64 y.1).wf = true) ∧ ((Lit.int .i64 y.2.1).wf = true) ∧ ((Lit.int .i64 y.2.2.1).wf = true) ∧ y.2.2.2.size ≤ maxLen) : ev E0 4 [(AV.agg [(st x0.1), (st x0.2.1), (i64 x0.2.2)]), (AV.lst 4 (x1.map (fun q : Int × Int × Int × ByteArray => (AV.agg [(i64 q.1), (i64 q.2.1), (i64 q.2.2.1), (st q.2.2.2)]))))] [] = some (bl true, []) := by
  obtain ⟨a, b, n⟩ := x0
  obtain ⟨ha, hb, _⟩ := b0
  obtain ⟨hl, hm⟩ := b1
  simp only at ha hb hl hm ⊢
  unfold maxLen at ha hb hl hm
  show ev E0 4 [sA a b n, .lst 4 (x1.map kb)] [] = _
  obtain ⟨r, e, h⟩ := sz_station a b n (by omega) (by omega)
  have hsta := sz_le a b n (by omega) (by omega)
  rw [e4]
  unfold runF
  by_cases hr : r < 0
  · unfold sA
    simp -implicitDefEqProofs [L4, e, hr]
  · rcases h with h | ⟨h0, h1, h2⟩
    · exact absurd h hr
    have hrb := hsta r e h0
    obtain ⟨r2, hk, h3⟩ := sz_keys x1 (by omega) (fun q hq => by have := (hm q hq).2.2.2; omega) r h0 hrb
    by_cases hr2 : r2 < 0
    · unfold sA
      have hfr := free_kb x1
      generalize x1.map kb = Q at *
      simp -implicitDefEqProofs [L4, e, hr, hk, hr2, hfr]
    · rcases h3 with h3 | ⟨_, hl2, hz⟩
      · exact absurd h3 hr2
      have e1 := keys_s a b n (by omega) (by omega) x1 hl2 hz
      have e2 := keys_i a b n (by omega) (by omega) x1 hl2 hz
      have t1 := to_station a b n
      have t2 := copy_keys x1 (by omega)
      have t3 := eq_keys x1 (by omega)
      have tk : List.take x1.length (x1.map kb) = x1.map kb := List.take_of_length_le (by simp)
      have hQ : (x1.map kb).length = x1.length := List.length_map _
      have hfr := free_kb x1
      unfold ksV at e1 e2
      unfold sA at *
      generalize dks a b n 0 x1 = R at *
      generalize x1.map kb = Q at *
      generalize x1.length = z at *
      cases hs : okSt a b n with
      | false =>
        rw [hs, if_neg (show ¬ (false = true) by decide)] at e1 e2
        have hq := eq_station ⟨#[]⟩ ⟨#[]⟩ 0
        simp -implicitDefEqProofs [L4, e, hr, hr2, hk, t1, t2, t3, e1, e2, hq, tk, hQ, hfr]
      | true =>
        rw [hs, if_pos (show true = true from rfl)] at e1 e2
        have hq := eq_station R.a R.b R.n
        simp -implicitDefEqProofs [L4, e, hr, hr2, hk, t1, t2, t3, e1, e2, hq, tk, hQ, hfr]
end Go.Proofs.YtjagdiilcphhfaaGreatDoor.Ev
