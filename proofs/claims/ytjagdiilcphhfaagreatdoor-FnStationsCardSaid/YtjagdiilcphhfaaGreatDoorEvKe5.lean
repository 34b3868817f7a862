/- Keys as arguments: sizes, copies. -/
import Derived.Test.YtjagdiilcphhfaaGreatDoorEvKe4
import Derived.Test.YtjagdiilcphhfaaGreatDoorEvStation
set_option linter.unusedVariables false
set_option linter.unusedSimpArgs false
namespace Go.Proofs.YtjagdiilcphhfaaGreatDoor.Ev
theorem sz_le (a b : ByteArray) (n : Int) (ha : a.size ≤ 9223372036854775807) (hb : b.size ≤ 9223372036854775807) : ∀ r, ev E0 6 [.agg [st a, st b, i64 n], i64 1048576] [] = some (i64 r, []) → 0 ≤ r → r ≤ 1048576 := by
  intro r h h0
  rw [e6] at h
  unfold runF at h
  have w1 : IntKind.i64.wrap (1048576 - (a.size : Int)) = 1048576 - (a.size : Int) := wr64 (by omega) (by omega)
  by_cases h1 : (1048576 : Int) - (a.size : Int) < 0
  · simp -implicitDefEqProofs [L6, w1, h1] at h
    omega
  · have w2 : IntKind.i64.wrap (1048576 - (a.size : Int) - (b.size : Int)) = 1048576 - (a.size : Int) - (b.size : Int) := wr64 (by omega) (by omega)
    by_cases h2 : (1048576 : Int) - (a.size : Int) - (b.size : Int) < 0
    · simp -implicitDefEqProofs [L6, w1, h1, w2, h2] at h
      omega
    · simp -implicitDefEqProofs [L6, w1, h1, w2, h2] at h
      omega
theorem sz_key (k x y : Int) (m : ByteArray) (r : Int) (h0 : 0 ≤ r) (h1 : r ≤ 1048576) (hm : m.size ≤ 9223372036854775807) : ev E0 7 [kA k x y m, i64 r] [] = some (i64 (if r - (m.size : Int) < 0 then -1 else r - (m.size : Int)), []) := by
  rw [e7]
  unfold runF kA
  have w1 : IntKind.i64.wrap (r - (m.size : Int)) = r - (m.size : Int) := wr64 (by omega) (by omega)
  by_cases h2 : r - (m.size : Int) < 0
  · rw [if_pos h2]
    simp -implicitDefEqProofs [L7, w1, h2]
  · rw [if_neg h2]
    simp -implicitDefEqProofs [L7, w1, h2]
theorem to_key (k x y : Int) (m : ByteArray) : ev E0 10 [kA k x y m] [] = some (kA k x y m, []) := by
  rw [e10]
  unfold runF kA
  simp -implicitDefEqProofs [L10]
end Go.Proofs.YtjagdiilcphhfaaGreatDoor.Ev
