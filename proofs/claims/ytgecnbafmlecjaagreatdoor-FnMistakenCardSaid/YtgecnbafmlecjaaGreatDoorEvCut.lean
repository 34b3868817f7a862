/- A law's code: its size, and what is cut off it. -/
import Derived.Test.YtgecnbafmlecjaaGreatDoorEvDraw
set_option linter.unusedVariables false
set_option linter.unusedSimpArgs false
namespace Go.Proofs.YtgecnbafmlecjaaGreatDoor.Ev.Dr
theorem okC_of {x : List Int} (hl : x.length ≤ 140737488355328) (hw : ∀ y ∈ x, (Lit.int .u8 y).wf = true) : okC x := by
  refine ⟨hl, fun y hy => ?_⟩
  have h := hw y hy
  unfold Lit.wf at h
  rw [Bool.and_eq_true, decide_eq_true_eq, decide_eq_true_eq] at h
  exact h
theorem vbig (x : List Int) : ev E0 4 [.lst 1 (cd x)] [] = some (bl (decide (65536 < (x.length : Int))), []) := by
  rw [e4]
  unfold runF
  simp -implicitDefEqProofs [L4, cd_len]
def cutD (x : List Int) (n : Nat) : List Int := x.drop (min n x.length) ++ [((min n x.length : Nat) : Int)]
theorem cutD_ok {x : List Int} (hx : okC x) (hl : x.length ≤ 65536) (n : Nat) (hn : n ≤ 200) : okC (cutD x n) := by
  unfold cutD
  refine ⟨by simp; omega, fun y hy => ?_⟩
  rcases List.mem_append.1 hy with h | h
  · exact hx.2 y (List.mem_of_mem_drop h)
  · rw [List.mem_singleton] at h
    omega
theorem vcut (x : List Int) (hx : okC x) (hl : x.length ≤ 65536) (n : Nat) (hn : n ≤ 200) : ev E0 13 [.lst 1 (cd x), i64 n] [] = some (.sl 0 0 (cutD x n).length, [some ⟨5, 1, 1, false, cd (cutD x n)⟩]) := by
  rw [e13]
  unfold runF
  have hd : ∀ k, (cd x).drop k = cd (x.drop k) := fun k => by simp [cd, List.map_drop]
  have hw : ∀ k : Nat, k ≤ 200 → IntKind.u8.wrap (k : Int) = k := by
    intro k hk
    simp only [IntKind.wrap, IntKind.bits, IntKind.signed, Bool.false_and, Bool.false_eq_true, if_false]
    omega
  have ht : ∀ k : Nat, List.take (x.length - k) (cd (x.drop k)) = cd (x.drop k) := fun k => List.take_of_length_le (by simp [cd])
  have hc : ∀ (y : List Int) (k : Int), cd y ++ [AV.v (.int .u8 k)] = cd (y ++ [k]) := fun y k => by simp [cd]
  have hy : ∀ k : Nat, (cd (x.drop k)).length = x.length - k := fun k => by simp [cd]
  by_cases h : (x.length : Int) < (n : Int)
  · have hm : min n x.length = x.length := by omega
    have h1 := hw x.length (by omega)
    unfold cutD
    rw [hm]
    have hz := hd x.length
    have hz2 := hc (x.drop x.length) x.length
    simp -implicitDefEqProofs [L13, cd_len, h, h1, hz, ht]
    rfl
  · have hm : min n x.length = n := by omega
    have h1 := hw n (by omega)
    have h2 : (n : Int) ≤ (x.length : Int) := by omega
    have h3 : n ≤ x.length := by omega
    unfold cutD
    rw [hm]
    have hz := hd n
    have hz2 := hc (x.drop n) n
    simp -implicitDefEqProofs [L13, cd_len, h, h1, h2, h3, hz, ht]
    have l1 : x.length ≤ 140737488355328 + n := by omega
    have l2 : x.length ≤ 140737488355327 + n := by omega
    rw [if_pos l1, if_pos l2, ← hz2]
    by_cases he : cd (x.drop n) = []
    · have he2 : x.length - n = 0 := by rw [← hy n, he]; rfl
      rw [if_pos he, he, he2]
      rfl
    · rw [if_neg he]
end Go.Proofs.YtgecnbafmlecjaaGreatDoor.Ev.Dr
