/- Short lists of whole numbers, sorted in place. -/
import Derived.Test.YtlakldjpnpailaaGreatDoorEvE
import Derived.Test.YtlakldjpnpailaaGreatDoorEvBC
set_option linter.unusedVariables false
set_option linter.unusedSimpArgs false
namespace Go.Proofs.YtlakldjpnpailaaGreatDoor.Ev.So
def ri (l : List Int) : Option Blk := some ⟨3, 1, 1, false, l.map i64⟩
theorem cs1 (i : Nat) : ((i + 1 : Nat) : Int) = (i : Int) + 1 := rfl
theorem c0 : ((0 : Nat) : Int) = 0 := rfl
theorem nan_i (a : Int) : ev E0 88 [i64 a] [] = some (bl false, []) := by
  rw [e88]
  unfold runF
  simp -implicitDefEqProofs [L88]
theorem less_i (a b : Int) : ev E0 83 [i64 a, i64 b] [] = some (bl (decide (a < b)), []) := by
  rw [e83]
  unfold runF
  simp -implicitDefEqProofs [L83, nan_i]
/-- One number of a list that is in order but for it, moved to the left until it stands well. -/
theorem ins_loop (i n : Nat) (hn : n ≤ 12) : ∀ (k : Nat) (P : List Int) (x : Int) (Q R : List Int), P.length = k → (P ++ x :: (Q ++ R)).length = n → List.Pairwise (· ≤ ·) (P ++ Q) → (∀ q ∈ Q, x ≤ q) →
    ∃ S : List Int, S.length = P.length + 1 + Q.length ∧ List.Perm S (P ++ x :: Q) ∧ List.Pairwise (· ≤ ·) S ∧
      packX 1 [0, 1, 2, 6] (loopW (bd E0 (ev E0) loopW 1 [0, 1, 2, 6, 7] L77b0) ⟨[(0, .sl 0 0 n), (1, i64 0), (2, i64 n), (6, i64 i), (7, i64 k)], [ri (P ++ x :: (Q ++ R))]⟩) = some (.ext 2, ⟨[(0, .sl 0 0 n), (1, i64 0), (2, i64 n), (6, i64 i)], [ri (S ++ R)]⟩) := by
  intro k
  induction k with
  | zero =>
    intro P x Q R hP hl hs hx
    obtain rfl := List.eq_nil_of_length_eq_zero hP
    refine ⟨x :: Q, by simp; omega, List.Perm.refl _, ?_, ?_⟩
    · rw [List.pairwise_cons]
      exact ⟨hx, by simpa using hs⟩
    · rw [loopW_eq]
      generalize loopW (bd E0 (ev E0) loopW 1 [0, 1, 2, 6, 7] L77b0) = K
      unfold ri
      simp -implicitDefEqProofs [bd, L77b0]
  | succ k ih =>
    intro P x Q R hP hl hs hx
    obtain ⟨P', p, rfl⟩ : ∃ P' p, P = P' ++ [p] := by
      rcases List.eq_nil_or_concat P with h | ⟨a, b, h⟩
      · subst h; simp at hP
      · exact ⟨a, b, by rw [h, List.concat_eq_append]⟩
    have hP' : P'.length = k := by simpa using hP
    have hk : k + 1 < n := by
      rw [← hl]
      simp
      omega
    have hw : IntKind.i64.wrap (k : Int) = (k : Int) := wr64 (by omega) (by omega)
    have hpos : (0 : Int) < (k : Int) + 1 := by omega
    have hk2 : k < n := by omega
    have hlis : (P' ++ [p]) ++ x :: (Q ++ R) = P' ++ p :: x :: (Q ++ R) := by simp
    have g1 : ∀ h, ((P' ++ p :: x :: (Q ++ R)).map i64)[k]'h = i64 p := by subst hP'; simp
    have g2 : ∀ h, ((P' ++ p :: x :: (Q ++ R)).map i64)[k + 1]'h = i64 x := by subst hP'; simp
    have b1 : (0 : Int) ≤ (k : Int) + 1 := by omega
    have b2 : (k : Int) + 1 < (n : Int) := by omega
    have hle := less_i x p
    rw [loopW_eq, hlis]
    by_cases h : x < p
    · have hdx : decide (x < p) = true := decide_eq_true h
      rw [hdx] at hle
      obtain ⟨S, s1, s2, s3, s4⟩ := ih P' x (p :: Q) R hP' (by rw [← hl, hlis]; simp) (by simpa using hs) (by
        intro q hq
        rcases List.mem_cons.1 hq with e | e
        · subst e; omega
        · exact hx q e)
      refine ⟨S, by rw [s1]; simp; omega, s2.trans ?_, s3, ?_⟩
      · refine (List.Perm.append_left P' (List.Perm.swap p x Q)).trans ?_
        simp
      · have u1 : ((P' ++ p :: x :: (Q ++ R)).map i64).set (k + 1) (i64 p) = (P' ++ p :: p :: (Q ++ R)).map i64 := by subst hP'; simp
        have u2 : ((P' ++ p :: p :: (Q ++ R)).map i64).set k (i64 x) = (P' ++ x :: p :: (Q ++ R)).map i64 := by subst hP'; simp
        have g3 : ∀ h, ((P' ++ p :: p :: (Q ++ R)).map i64)[k]'h = i64 p := by subst hP'; simp
        have n1 : ((P' ++ p :: x :: (Q ++ R)).map i64).length = n := by rw [List.length_map, ← hlis]; exact hl
        have n2 : ((P' ++ p :: p :: (Q ++ R)).map i64).length = n := by rw [← u1, List.length_set]; exact n1
        rw [List.cons_append] at s4
        generalize loopW (bd E0 (ev E0) loopW 1 [0, 1, 2, 6, 7] L77b0) = K at s4 ⊢
        unfold ri at *
        generalize (P' ++ p :: x :: (Q ++ R)).map i64 = A1 at *
        generalize (P' ++ p :: p :: (Q ++ R)).map i64 = A2 at *
        generalize (P' ++ x :: p :: (Q ++ R)).map i64 = A3 at *
        generalize (S ++ R).map i64 = A4 at *
        simpa -implicitDefEqProofs [bd, L77b0, hpos, hw, hk, hk2, b1, b2, g1, g2, g3, u1, u2, n1, n2, hle] using s4
    · have hdx : decide (x < p) = false := decide_eq_false h
      rw [hdx] at hle
      refine ⟨(P' ++ [p]) ++ x :: Q, by simp; omega, List.Perm.refl _, ?_, ?_⟩
      · rw [List.pairwise_append] at hs ⊢
        obtain ⟨a1, a2, a3⟩ := hs
        have hpx : p ≤ x := by omega
        have hall : ∀ a ∈ P' ++ [p], a ≤ x := by
          intro a ha
          rw [List.pairwise_append] at a1
          rcases List.mem_append.1 ha with e | e
          · exact Int.le_trans (a1.2.2 a e p (by simp)) hpx
          · simp only [List.mem_singleton] at e; subst e; exact hpx
        refine ⟨a1, List.pairwise_cons.2 ⟨hx, a2⟩, fun a ha b hb => ?_⟩
        rcases List.mem_cons.1 hb with e | e
        · subst e; exact hall a ha
        · exact a3 a ha b e
      · have hlis2 : ((P' ++ [p]) ++ x :: Q) ++ R = P' ++ p :: x :: (Q ++ R) := by simp
        rw [hlis2]
        have n1 : ((P' ++ p :: x :: (Q ++ R)).map i64).length = n := by rw [List.length_map, ← hlis]; exact hl
        generalize loopW (bd E0 (ev E0) loopW 1 [0, 1, 2, 6, 7] L77b0) = K
        unfold ri at *
        generalize (P' ++ p :: x :: (Q ++ R)).map i64 = A1 at *
        simp -implicitDefEqProofs [bd, L77b0, hpos, hw, hk, hk2, b1, b2, g1, g2, n1, hle]
theorem out_loop (n : Nat) (hn : n ≤ 12) : ∀ (R S : List Int), (S ++ R).length = n → 0 < S.length → List.Pairwise (· ≤ ·) S →
    ∃ T : List Int, List.Perm T (S ++ R) ∧ List.Pairwise (· ≤ ·) T ∧
      packX 1 [] (loopW (bd E0 (ev E0) loopW 1 [0, 1, 2, 6] L77b1) ⟨[(0, .sl 0 0 n), (1, i64 0), (2, i64 n), (6, i64 S.length)], [ri (S ++ R)]⟩) = some (.ext 0, ⟨[], [ri T]⟩) := by
  intro R
  induction R with
  | nil =>
    intro S hl h0 hs
    rw [List.append_nil] at hl ⊢
    refine ⟨S, List.Perm.refl _, hs, ?_⟩
    have h1 : ¬ (S.length : Int) < (n : Int) := by omega
    have h2 : ¬ S.length < n := by omega
    rw [loopW_eq]
    generalize loopW (bd E0 (ev E0) loopW 1 [0, 1, 2, 6] L77b1) = K
    unfold ri
    simp -implicitDefEqProofs [bd, L77b1, h1, h2]
  | cons x R ih =>
    intro S hl h0 hs
    obtain ⟨S', s1, s2, s3, s4⟩ := ins_loop S.length n hn S.length S x [] R rfl (by simpa using hl) (by simpa using hs) (by simp)
    obtain ⟨T, t1, t2, t3⟩ := ih S' (by rw [List.length_append, s1]; simp at hl ⊢; omega) (by omega) s3
    have hS : S'.length = S.length + 1 := by rw [s1]; simp
    refine ⟨T, t1.trans ?_, t2, ?_⟩
    · refine (List.Perm.append_right R s2).trans ?_
      simp
    · have h1 : (S.length : Int) < (n : Int) := by simp at hl; omega
      have h2 : S.length < n := by simp at hl; omega
      have hw : IntKind.i64.wrap ((S.length : Int) + 1) = (S.length : Int) + 1 := wr64 (by omega) (by omega)
      rw [hS, cs1] at t3
      rw [List.nil_append] at s4
      rw [loopW_eq]
      unfold ri at *
      simp only [List.map_append, List.map_cons] at s4
      generalize loopW (bd E0 (ev E0) loopW 1 [0, 1, 2, 6] L77b1) = K at t3 ⊢
      simpa -implicitDefEqProofs [bd, L77b1, h1, h2, hw, s4] using t3
/-- The list, in order. -/
theorem insertion_i (l : List Int) (hl : l.length ≤ 12) : ∃ T : List Int, List.Perm T l ∧ List.Pairwise (· ≤ ·) T ∧
    ev E0 77 [.sl 0 0 l.length, i64 0, i64 l.length] [ri l] = some (.tup [], [ri T]) := by
  cases l with
  | nil =>
    refine ⟨[], List.Perm.refl _, List.Pairwise.nil, ?_⟩
    rw [e77]
    unfold runF ri
    have hw : IntKind.i64.wrap 1 = 1 := by decide
    have hlp : packX 1 [] (loopW (bd E0 (ev E0) loopW 1 [0, 1, 2, 6] L77b1) ⟨[(0, .sl 0 0 0), (1, i64 0), (2, i64 0), (6, i64 1)], [some ⟨3, 1, 1, false, []⟩]⟩) = some (.ext 0, ⟨[], [some ⟨3, 1, 1, false, []⟩]⟩) := by
      rw [loopW_eq]
      generalize loopW (bd E0 (ev E0) loopW 1 [0, 1, 2, 6] L77b1) = K
      simp -implicitDefEqProofs [bd, L77b1]
    simp -implicitDefEqProofs [L77, hw, hlp]
  | cons x R =>
    obtain ⟨T, t1, t2, t3⟩ := out_loop (x :: R).length hl R [x] rfl (by simp) (by simp)
    refine ⟨T, t1, t2, ?_⟩
    rw [e77]
    unfold runF
    simp only [List.length_singleton, List.cons_append, List.nil_append] at t3
    rw [show ((1 : Nat) : Int) = 1 from rfl] at t3
    generalize (x :: R).length = n at *
    have hw : IntKind.i64.wrap 1 = 1 := by decide
    unfold ri at *
    simp -implicitDefEqProofs [-List.map_cons, L77, t3, hw]
theorem pdq_i (l : List Int) (hl : l.length ≤ 12) (c : Int) : ∃ T : List Int, List.Perm T l ∧ List.Pairwise (· ≤ ·) T ∧
    ev E0 67 [.sl 0 0 l.length, i64 0, i64 l.length, i64 c] [ri l] = some (.tup [], [ri T]) := by
  obtain ⟨T, t1, t2, t3⟩ := insertion_i l hl
  refine ⟨T, t1, t2, ?_⟩
  rw [e67]
  unfold runF
  generalize l.length = n at *
  have hw : IntKind.i64.wrap (n : Int) = (n : Int) := wr64 (by omega) (by omega)
  have h1 : (n : Int) ≤ 12 := by omega
  have hlp : packX 1 [] (loopW (bd E0 (ev E0) loopW 1 [0, 1, 2, 3, 8, 9] L67b0) ⟨[(0, .sl 0 0 n), (1, i64 0), (2, i64 n), (3, i64 c), (8, bl true), (9, bl true)], [ri l]⟩) = some (.ret, ⟨[], [ri T]⟩) := by
    rw [loopW_eq]
    generalize loopW (bd E0 (ev E0) loopW 1 [0, 1, 2, 3, 8, 9] L67b0) = K
    unfold ri at *
    simp -implicitDefEqProofs [bd, L67b0, hw, h1, hl, t3]
  unfold ri at *
  simp -implicitDefEqProofs [L67, hlp]
theorem len64_i (n : Nat) (hn : n ≤ 12) : ∃ k : Int, ev E0 87 [.v (.int .u64 (n : Int))] [] = some (i64 k, []) := by
  rw [e87]
  unfold runF
  match n, hn with
  | 0, _ => exact ⟨0, by kernel_rfl⟩
  | 1, _ => exact ⟨1, by kernel_rfl⟩
  | 2, _ | 3, _ => exact ⟨2, by kernel_rfl⟩
  | 4, _ | 5, _ | 6, _ | 7, _ => exact ⟨3, by kernel_rfl⟩
  | 8, _ | 9, _ | 10, _ | 11, _ | 12, _ => exact ⟨4, by kernel_rfl⟩
theorem bitlen_i (n : Nat) (hn : n ≤ 12) : ∃ k : Int, ev E0 68 [.v (.int .u64 (n : Int))] [] = some (i64 k, []) := by
  obtain ⟨k, h⟩ := len64_i n hn
  refine ⟨k, ?_⟩
  rw [e68]
  unfold runF
  simp -implicitDefEqProofs [L68, h]
/-- The library's Sort: the list, in order. -/
theorem sort_i (l : List Int) (hl : l.length ≤ 12) : ∃ T : List Int, List.Perm T l ∧ List.Pairwise (· ≤ ·) T ∧
    ev E0 50 [.sl 0 0 l.length] [ri l] = some (.tup [], [ri T]) := by
  obtain ⟨k, hk⟩ := bitlen_i l.length hl
  obtain ⟨T, t1, t2, t3⟩ := pdq_i l hl k
  refine ⟨T, t1, t2, ?_⟩
  rw [e50]
  unfold runF
  generalize l.length = n at *
  have hw : IntKind.u64.wrap (n : Int) = (n : Int) := by
    unfold IntKind.wrap
    simp only [IntKind.signed, IntKind.bits, Bool.false_and, Bool.false_eq_true, if_false]
    omega
  unfold ri at *
  simp -implicitDefEqProofs [L50, hw, hk, t3]
-- ---------------------------------------------------------------- two lists in order that have the same members
theorem sorted_eq : ∀ {a b : List Int}, List.Pairwise (· ≤ ·) a → List.Pairwise (· ≤ ·) b → List.Perm a b → a = b
  | [], b, _, _, h => (List.nil_perm.1 h).symm
  | x :: a, [], _, _, h => by have := List.perm_nil.1 h; cases this
  | x :: a, y :: b, ha, hb, h => by
    rw [List.pairwise_cons] at ha hb
    have h1 : y ≤ x := by
      rcases List.mem_cons.1 (h.subset (List.mem_cons_self ..)) with e | e
      · omega
      · exact hb.1 x e
    have h2 : x ≤ y := by
      rcases List.mem_cons.1 (h.symm.subset (List.mem_cons_self ..)) with e | e
      · omega
      · exact ha.1 y e
    obtain rfl : x = y := by omega
    rw [sorted_eq ha.2 hb.2 (List.Perm.cons_inv h)]
end Go.Proofs.YtlakldjpnpailaaGreatDoor.Ev.So
