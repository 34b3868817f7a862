/- Hops that overlap, and plans: the reference's functions and the program's. -/
import Derived.Test.YtlmjoimjdpfamaaGreatEvRelA
set_option linter.unusedVariables false
set_option linter.unusedSimpArgs false
namespace Go.Proofs.YtlmjoimjdpfamaaGreat.Ev
theorem index2 (a b c : Int) : ev E0 79 [.lst 1 [i64 a, i64 b], i64 c] [] = some (i64 (if a = c then 0 else if b = c then 1 else -1), []) := by
  have w1 : IntKind.i64.wrap 1 = 1 := wr64 (by omega) (by omega)
  have w2 : IntKind.i64.wrap 2 = 2 := wr64 (by omega) (by omega)
  rw [e79]
  unfold runF
  by_cases ha : a = c
  · subst ha
    simp -implicitDefEqProofs [L79, loopW_eq, bd, L79b0, w1, w2]
  · by_cases hb : b = c
    · subst hb
      have ha2 : ¬ b = a := fun e => ha e.symm
      simp -implicitDefEqProofs [L79, loopW_eq, bd, L79b0, w1, w2, ha, ha2]
    · have ha2 : ¬ c = a := fun e => ha e.symm
      have hb2 : ¬ c = b := fun e => hb e.symm
      simp -implicitDefEqProofs [L79, loopW_eq, bd, L79b0, w1, w2, ha, hb, ha2, hb2]
theorem contains2 (a b c : Int) : ev E0 66 [.lst 1 [i64 a, i64 b], i64 c] [] = some (bl (decide (a = c) || decide (b = c)), []) := by
  have h := index2 a b c
  rw [e66]
  unfold runF
  by_cases ha : a = c
  · subst ha
    rw [if_pos rfl] at h
    simp -implicitDefEqProofs [L66, h]
  · rw [if_neg ha] at h
    by_cases hb : b = c
    · subst hb
      rw [if_pos rfl] at h
      simp -implicitDefEqProofs [L66, h]
    · rw [if_neg hb] at h
      simp -implicitDefEqProofs [L66, h, ha, hb]
/-- The region in which both jobs are taken, whichever first. -/
theorem overlaps_reg (js : List J) (a b : Hh) (k m : Nat) (hk : k < js.length) (hm : m < js.length) (ka : a.1 = k) (kb : b.1 = m) :
    evC E0 (ev E0) loopW 0 L59b0 ⟨[(6, bl false), (5, .ptr 1 0 0), (4, .ptr 0 0 0), (0, .lst 4 (js.map jb)), (1, hp a), (2, hp b)], [some ⟨32, 3, 0, false, [hp a]⟩, some ⟨32, 3, 0, false, [hp b]⟩]⟩ =
      some (.nrm, ⟨[(4, .ptr 0 0 0), (5, .ptr 1 0 0), (7, .ptr 2 0 0), (8, .ptr 3 0 0)], [some ⟨32, 3, 0, false, [hp a]⟩, some ⟨32, 3, 0, false, [hp b]⟩, some ⟨63, 4, 0, false, [jb js[k]]⟩, some ⟨63, 4, 0, false, [jb js[m]]⟩]⟩) := by
  obtain ⟨a1, a2, a3⟩ := a
  obtain ⟨b1, b2, b3⟩ := b
  dsimp only at ka kb
  subst ka
  subst kb
  unfold hp jb
  simp (maxSteps := 1000000) -implicitDefEqProofs [L59b0, hk, hm]
theorem overlaps_i (js : List J) (hj : ∀ j ∈ js, JB j) (a b : Hh) (ha : HB js a) (hb : HB js b) : ev E0 59 [.lst 4 (js.map jb), hp a, hp b] [] = some (bl (clash js a b), []) := by
  obtain ⟨a1, a2, a3⟩ := a
  obtain ⟨b1, b2, b3⟩ := b
  obtain ⟨p1, p2, p3, p4, p5, p6⟩ := ha
  obtain ⟨q1, q2, q3, q4, q5, q6⟩ := hb
  obtain ⟨k, rfl⟩ : ∃ k : Nat, a1 = k := ⟨a1.toNat, by simp at p1; omega⟩
  obtain ⟨m, rfl⟩ : ∃ m : Nat, b1 = m := ⟨b1.toNat, by simp at q1; omega⟩
  have hk : k < js.length := by simp at p2; omega
  have hm : m < js.length := by simp at q2; omega
  have k1 := hj _ (List.getElem_mem hk)
  have m1 := hj _ (List.getElem_mem hm)
  have s1 := k1.s0
  have s2 := k1.s1
  have s3 := m1.s0
  have s4 := m1.s1
  simp only at p3 p4 p5 p6 q3 q4 q5 q6
  have w1 : IntKind.i64.wrap (a3 + js[k].2.2.1) = a3 + js[k].2.2.1 := wr64 (by omega) (by omega)
  have w2 : IntKind.i64.wrap (b3 + js[m].2.2.1) = b3 + js[m].2.2.1 := wr64 (by omega) (by omega)
  have n1 := next_i js[k] k1 a2 p3 p4
  have n2 := next_i js[m] m1 b2 q3 q4
  have j1 := jat_get hk
  have j2 := jat_get hm
  have c1 := fun c => contains2 a2 (a2 + way js[k]) c
  rw [e59]
  have hreg := overlaps_reg js ((k : Int), a2, a3) ((m : Int), b2, b3) k m hk hm rfl rfl
  unfold runF clash nxt hp
  unfold hp at hreg
  simp only [j1, j2]
  unfold jb at n1 n2 hreg ⊢
  generalize hx : a2 + way js[k] = x at *
  generalize hy : b2 + way js[m] = y at *
  by_cases h1 : b3 + js[m].2.2.1 ≤ a3
  · simp -implicitDefEqProofs [L59, hreg, hk, hm, w1, w2, h1]
  · by_cases h2 : a3 + js[k].2.2.1 ≤ b3
    · simp -implicitDefEqProofs [L59, hreg, hk, hm, w1, w2, h1, h2]
    · clear hx hy
      by_cases h3 : a2 = b2
      · subst h3
        simp -implicitDefEqProofs [L59, hreg, hk, hm, w1, w2, h1, h2, n1, n2, c1]
      · by_cases h5 : x = b2
        · subst h5
          simp -implicitDefEqProofs [L59, hreg, hk, hm, w1, w2, h1, h2, n1, n2, c1, h3]
        · simp -implicitDefEqProofs [L59, hreg, hk, hm, w1, w2, h1, h2, n1, n2, c1, h3, h5]
end Go.Proofs.YtlmjoimjdpfamaaGreat.Ev
