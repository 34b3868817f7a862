/- Does a place part letters? -/
import Derived.Test.YtkajcafnfdlgpaaDoorEvPartJ
set_option linter.unusedVariables false
set_option linter.unusedSimpArgs false
namespace Go.Proofs.YtkajcafnfdlgpaaDoor.Ev
theorem vainB_len (ms : List ByteArray) (q k0 : Nat) (t : List Nat) : ((partN ms q (ansN ms q k0) (k0 :: t)).length < (k0 :: t).length) ↔ vainB ms q (k0 :: t) = false := by
  have h0 : partN ms q (ansN ms q k0) (k0 :: t) = k0 :: partN ms q (ansN ms q k0) t := by simp [partN]
  rw [h0, List.length_cons, List.length_cons, Nat.add_lt_add_iff_right]
  unfold partN vainB
  rw [List.length_filter_lt_length_iff_exists]
  simp
theorem rb_len (r : List Nat) : (rb r).length = if r = [] then 0 else 1 := by cases r <;> rfl
theorem parts_i (ms : List ByteArray) (q k0 : Nat) (t : List Nat) (hl : (k0 :: t).length ≤ 1073741824) (hv : ∀ n ∈ k0 :: t, n < ms.length) : ev E0 72 [.agg [.lst 1 (ms.map st)], .lst 1 (i64n (k0 :: t)), i64 q] [] = some (bl (!vainB ms q (k0 :: t)), []) := by
  rw [e72]
  unfold runF
  have hp := part_i ms q (k0 :: t) hl hv
  have ha := answerN_i ms k0 (hv k0 (by simp)) q
  have hb := vainB_len ms q k0 t
  have hi : i64n (k0 :: t) = i64 k0 :: i64n t := rfl
  generalize vainB ms q (k0 :: t) = vb at hb ⊢
  rcases ansN_cases ms q k0 with h1 | h1 | h1 <;> rw [h1] at ha hb <;> generalize partN ms q 0 (k0 :: t) = a at hp hb <;> generalize partN ms q 1 (k0 :: t) = b at hp hb <;> generalize partN ms q 2 (k0 :: t) = c at hp hb <;> rw [hi] at hp ⊢ <;> cases a <;> cases b <;> cases c <;> cases vb <;> simp [i64n_len] at hb <;> simp -implicitDefEqProofs [L72, hp, ha, rows3, rv, rb, i64n_len] <;> omega
end Go.Proofs.YtkajcafnfdlgpaaDoor.Ev
