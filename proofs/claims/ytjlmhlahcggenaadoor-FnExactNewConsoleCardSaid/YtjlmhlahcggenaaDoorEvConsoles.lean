/- New consoles. -/
import Derived.Test.YtjlmhlahcggenaaDoorEvStation
set_option linter.unusedVariables false
set_option linter.unusedSimpArgs false
namespace Go.Proofs.YtjlmhlahcggenaaDoor.Ev
theorem newConsole (a b : ByteArray) (n : Int) (ha : a.size ≤ 1073741824) (hb : b.size ≤ 1073741824) : ∃ (c : ByteArray × ByteArray × Int) (ok : Bool),
    ev E0 18 [.agg [st a, st b, i64 n]] [] = some (.tup [.agg [st c.1, st c.2.1, i64 c.2.2, st ⟨#[]⟩, st ⟨#[]⟩, i64 0], bl ok], []) ∧
    ev E0 19 [.agg [st a, st b, i64 n]] [] = some (.tup [.agg [st c.1, st c.2.1, i64 c.2.2, st ⟨#[]⟩, st ⟨#[]⟩, i64 0], bl ok], []) := by
  have h1 := station_s a b n ha hb
  have h2 := station_i a b n ha hb
  rw [e18, e19]
  unfold runF
  cases hk : okSt a b n with
  | false =>
    rw [hk] at h1 h2
    refine ⟨(⟨#[]⟩, ⟨#[]⟩, 0), false, ?_, ?_⟩
    · simp -implicitDefEqProofs [L18, h1]
    · simp -implicitDefEqProofs [L19, h2]
  | true =>
    rw [hk] at h1 h2
    refine ⟨(a, b, n), true, ?_, ?_⟩
    · simp -implicitDefEqProofs [L18, h1]
    · simp -implicitDefEqProofs [L19, h2]
theorem eq_log (a b : ByteArray) (n : Int) : ev E0 37 [.agg [st a, st b, i64 n], .agg [st a, st b, i64 n]] [] = some (bl true, []) := by
  rw [e37]
  unfold runF
  simp -implicitDefEqProofs [L37]
theorem eq_console (a b : ByteArray) (n : Int) (a' b' : ByteArray) (n' : Int) : ev E0 20 [.agg [st a, st b, i64 n, st a', st b', i64 n'], .agg [st a, st b, i64 n, st a', st b', i64 n']] [] = some (bl true, []) := by
  rw [e20]
  unfold runF
  simp -implicitDefEqProofs [L20, eq_station, eq_log]
end Go.Proofs.YtjlmhlahcggenaaDoor.Ev
