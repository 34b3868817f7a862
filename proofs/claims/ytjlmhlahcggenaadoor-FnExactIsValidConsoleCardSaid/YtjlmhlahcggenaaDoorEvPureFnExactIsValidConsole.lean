/- FnExactIsValidConsole: the law, run by the evaluator, answers true. -/
import Derived.Test.YtjlmhlahcggenaaDoorEvLogV
set_option linter.unusedVariables false
set_option linter.unusedSimpArgs false
namespace Go.Proofs.YtjlmhlahcggenaaDoor.Ev
theorem sz_log (a b : ByteArray) (n c : Int) (h0 : 0 ≤ c) (hc : c ≤ 1048576) (ha : a.size ≤ 9223372036854775807) (hb : b.size ≤ 9223372036854775807) : ∃ r, ev E0 42 [.agg [st a, st b, i64 n], i64 c] [] = some (i64 r, []) ∧ (r < 0 ∨ (0 ≤ r ∧ a.size ≤ 1048576 ∧ b.size ≤ 1048576)) := by
  rw [e42]
  unfold runF
  have w1 : IntKind.i64.wrap (c - (a.size : Int)) = c - (a.size : Int) := wr64 (by omega) (by omega)
  by_cases h1 : c - (a.size : Int) < 0
  · refine ⟨-1, ?_, .inl (by omega)⟩
    simp -implicitDefEqProofs [L42, w1, h1]
  · have w2 : IntKind.i64.wrap (c - (a.size : Int) - (b.size : Int)) = c - (a.size : Int) - (b.size : Int) := wr64 (by omega) (by omega)
    by_cases h2 : c - (a.size : Int) - (b.size : Int) < 0
    · refine ⟨-1, ?_, .inl (by omega)⟩
      simp -implicitDefEqProofs [L42, w1, h1, w2, h2]
    · refine ⟨c - (a.size : Int) - (b.size : Int), ?_, .inr ⟨by omega, by omega, by omega⟩⟩
      simp -implicitDefEqProofs [L42, w1, h1, w2, h2]
theorem sz_station2 (a b : ByteArray) (n : Int) (ha : a.size ≤ 9223372036854775807) (hb : b.size ≤ 9223372036854775807) : ∃ r, ev E0 14 [.agg [st a, st b, i64 n], i64 1048576] [] = some (i64 r, []) ∧ (r < 0 ∨ (0 ≤ r ∧ r ≤ 1048576 ∧ a.size ≤ 1048576 ∧ b.size ≤ 1048576)) := by
  rw [e14]
  unfold runF
  have w1 : IntKind.i64.wrap (1048576 - (a.size : Int)) = 1048576 - (a.size : Int) := wr64 (by omega) (by omega)
  by_cases h1 : (1048576 : Int) - (a.size : Int) < 0
  · refine ⟨-1, ?_, .inl (by omega)⟩
    simp -implicitDefEqProofs [L14, w1, h1]
  · have w2 : IntKind.i64.wrap (1048576 - (a.size : Int) - (b.size : Int)) = 1048576 - (a.size : Int) - (b.size : Int) := wr64 (by omega) (by omega)
    by_cases h2 : (1048576 : Int) - (a.size : Int) - (b.size : Int) < 0
    · refine ⟨-1, ?_, .inl (by omega)⟩
      simp -implicitDefEqProofs [L14, w1, h1, w2, h2]
    · refine ⟨1048576 - (a.size : Int) - (b.size : Int), ?_, .inr ⟨by omega, by omega, by omega, by omega⟩⟩
      simp -implicitDefEqProofs [L14, w1, h1, w2, h2]
theorem to_log (a b : ByteArray) (n : Int) : ev E0 44 [.agg [st a, st b, i64 n]] [] = some (.agg [st a, st b, i64 n], []) := by
  rw [e44]
  unfold runF
  simp -implicitDefEqProofs [L44]
theorem to_console (a b : ByteArray) (n : Int) (d p : ByteArray) (m : Int) : ev E0 27 [.agg [st a, st b, i64 n, st d, st p, i64 m]] [] = some (.agg [st a, st b, i64 n, st d, st p, i64 m], []) := by
  rw [e27]
  unfold runF
  simp -implicitDefEqProofs [L27, to_station, to_log]
theorem console_s (a b : ByteArray) (n : Int) (d p : ByteArray) (m : Int) (ha : a.size ≤ 1073741824) (hb : b.size ≤ 1073741824) (hd : d.size ≤ 1073741824) (hp : p.size ≤ 1073741824) : ev E0 26 [.agg [st a, st b, i64 n, st d, st p, i64 m]] [] = some (bl (okSt a b n && Lg.okLog d p m), []) := by
  rw [e26]
  unfold runF
  have h1 := station_s a b n ha hb
  have h2 := Lg.valid_s d p m hd hp
  cases hk : okSt a b n <;> rw [hk] at h1 <;> simp -implicitDefEqProofs [L26, h1, h2]
theorem console_i (a b : ByteArray) (n : Int) (d p : ByteArray) (m : Int) (ha : a.size ≤ 1073741824) (hb : b.size ≤ 1073741824) (hd : d.size ≤ 1073741824) (hp : p.size ≤ 1073741824) : ev E0 28 [.agg [st a, st b, i64 n, st d, st p, i64 m]] [] = some (bl (okSt a b n && Lg.okLog d p m), []) := by
  rw [e28]
  unfold runF
  have h1 := station_i a b n ha hb
  have h2 := Lg.valid_i d p m hd hp
  cases hk : okSt a b n <;> rw [hk] at h1 <;> simp -implicitDefEqProofs [L28, h1, h2]
theorem FnExactIsValidConsole (x : (ByteArray × ByteArray × Int) × (ByteArray × ByteArray × Int)) (hx : ((x.1.1.size ≤ maxLen) ∧ (x.1.2.1.size ≤ maxLen) ∧ (Lit.int .i64 x.1.2.2).wf = true) ∧ (x.2.1.size ≤ maxLen) ∧ (x.2.2.1.size ≤ maxLen) ∧ (Lit.int .i64 x.2.2.2).wf = true) : ev E0 7 [.agg [st x.1.1, st x.1.2.1, i64 x.1.2.2, st x.2.1, st x.2.2.1, i64 x.2.2.2]] [] = some (bl true, []) := by
  obtain ⟨⟨a, b, n⟩, d, p, m⟩ := x
  obtain ⟨⟨ha, hb, _⟩, hd, hp, _⟩ := hx
  simp only at ha hb hd hp ⊢
  unfold maxLen at ha hb hd hp
  have hsz : ∃ r, ev E0 25 [.agg [st a, st b, i64 n, st d, st p, i64 m], i64 1048576] [] = some (i64 r, []) ∧ (r < 0 ∨ (a.size ≤ 1048576 ∧ b.size ≤ 1048576 ∧ d.size ≤ 1048576 ∧ p.size ≤ 1048576)) := by
    obtain ⟨r1, e1, h1⟩ := sz_station2 a b n (by omega) (by omega)
    rw [e25]
    unfold runF
    by_cases hr : r1 < 0
    · refine ⟨-1, ?_, .inl (by omega)⟩
      simp -implicitDefEqProofs [L25, e1, hr]
    · rcases h1 with h1 | ⟨h0, h1, h2, h3⟩
      · exact absurd h1 hr
      obtain ⟨r2, e2, h4⟩ := sz_log d p m r1 h0 h1 (by omega) (by omega)
      by_cases hr2 : r2 < 0
      · refine ⟨-1, ?_, .inl (by omega)⟩
        simp -implicitDefEqProofs [L25, e1, hr, e2, hr2]
      · rcases h4 with h4 | ⟨_, h5, h6⟩
        · exact absurd h4 hr2
        refine ⟨r2, ?_, .inr ⟨h2, h3, h5, h6⟩⟩
        simp -implicitDefEqProofs [L25, e1, hr, e2, hr2]
  obtain ⟨r, e, h⟩ := hsz
  rw [e7]
  unfold runF
  by_cases hr : r < 0
  · simp -implicitDefEqProofs [L7, e, hr]
  · rcases h with h | ⟨h1, h2, h3, h4⟩
    · exact absurd h hr
    have k1 := console_s a b n d p m (by omega) (by omega) (by omega) (by omega)
    have k2 := console_i a b n d p m (by omega) (by omega) (by omega) (by omega)
    generalize (okSt a b n && Lg.okLog d p m) = v at *
    simp -implicitDefEqProofs [L7, e, hr, to_console, k1, k2]
end Go.Proofs.YtjlmhlahcggenaaDoor.Ev
