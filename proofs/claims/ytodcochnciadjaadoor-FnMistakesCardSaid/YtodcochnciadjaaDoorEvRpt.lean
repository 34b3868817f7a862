/- slices.Repeat of one number. -/
import Derived.Test.YtodcochnciadjaaDoorEvTm
set_option linter.unusedVariables false
set_option linter.unusedSimpArgs false
namespace Go.Proofs.YtodcochnciadjaaDoor.Ev
def u64 (n : Int) : AV := .v (.int .u64 n)
theorem wru {x : Int} (h1 : 0 ≤ x) (h2 : x ≤ 1000000000000) : IntKind.u64.wrap x = x := by unfold IntKind.wrap; simp [IntKind.bits, IntKind.signed]; omega
theorem and_low (c : Nat) (hc : c ≤ 1000) : intBin .and .u64 (c : Int) 4294967295 = some (.v (.int .u64 (c : Int))) := by
  have h : (BitVec.ofInt 64 (c : Int) &&& BitVec.ofInt 64 4294967295).toNat = c := by
    have h1 : (BitVec.ofInt 64 (c : Int)).toNat = c := by rw [BitVec.toNat_ofInt]; omega
    have h2 : (BitVec.ofInt 64 4294967295).toNat = 2 ^ 32 - 1 := by decide
    rw [BitVec.toNat_and, h1, h2, Nat.and_two_pow_sub_one_eq_mod]
    omega
  show some (AV.v (.int .u64 (IntKind.u64.wrap ((BitVec.ofInt 64 (c : Int) &&& BitVec.ofInt 64 4294967295).toNat : Int)))) = _
  rw [h, wru (by omega) (by omega)]
theorem mul64 (c : Nat) (hc : c ≤ 1000) : ev E0 114 [.v (.int .u64 1), .v (.int .u64 (c : Int))] [] = some (.tup [.v (.int .u64 0), .v (.int .u64 (c : Int))], []) := by
  have a1 := and_low c hc
  have a2 : intBin .and .u64 1 4294967295 = some (.v (.int .u64 1)) := and_low 1 (by decide)
  have a3 : intBin .and .u64 0 4294967295 = some (.v (.int .u64 0)) := and_low 0 (by decide)
  have s1 : shiftBin .shr .u64 (c : Int) 32 = some (.v (.int .u64 0)) := by
    show some (AV.v (.int .u64 ((c : Int).fdiv (2 ^ (min 32 64))))) = _
    have e : (2 : Int) ^ (min 32 64) = 4294967296 := by decide
    rw [e, Int.fdiv_eq_ediv_of_nonneg _ (by decide), Int.ediv_eq_zero_of_lt (by omega) (by omega)]
  have s2 : shiftBin .shr .u64 1 32 = some (.v (.int .u64 0)) := rfl
  have s3 : shiftBin .shr .u64 0 32 = some (.v (.int .u64 0)) := rfl
  have m1 : intBin .mul .u64 1 (c : Int) = some (.v (.int .u64 (c : Int))) := by
    show some (AV.v (.int .u64 (IntKind.u64.wrap (1 * (c : Int))))) = _
    rw [Int.one_mul, wru (by omega) (by omega)]
  have m2 : intBin .mul .u64 0 (c : Int) = some (.v (.int .u64 0)) := by
    show some (AV.v (.int .u64 (IntKind.u64.wrap (0 * (c : Int))))) = _
    rw [Int.zero_mul, wru (by omega) (by omega)]
  have m3 : intBin .mul .u64 1 0 = some (.v (.int .u64 0)) := rfl
  have m4 : intBin .mul .u64 0 0 = some (.v (.int .u64 0)) := rfl
  have p1 : intBin .add .u64 0 0 = some (.v (.int .u64 0)) := rfl
  rw [e114]
  unfold runF
  simp -implicitDefEqProofs [L114, -intBin, -shiftBin, a1, a2, a3, s1, s2, s3, m1, m2, m3, m4, p1]
theorem mul_c (c : Nat) (hc : c ≤ 1000) : ev E0 98 [.v (.int .u64 1), .v (.int .u64 (c : Int))] [] = some (.tup [.v (.int .u64 0), .v (.int .u64 (c : Int))], []) := by
  have h := mul64 c hc
  rw [e98]
  unfold runF
  simp -implicitDefEqProofs [L98, h]
theorem putN_app : ∀ (ys pre mid post : List AV), (∀ y ∈ mid, ∃ x, y = AV.v x) → ys.length = mid.length → putN (pre ++ (mid ++ post)) pre.length ys = pre ++ (ys ++ post)
  | [], pre, [], post, _, _ => rfl
  | y :: ys, pre, m :: mid, post, h, hl => by
    obtain ⟨x, rfl⟩ := h m (List.mem_cons_self ..)
    have ih := putN_app ys (pre ++ [y]) mid post (fun z hz => h z (List.mem_cons_of_mem _ hz)) (by simpa using hl)
    have hg : (pre ++ (.v x :: mid ++ post)).getD pre.length .x = .v x := by rw [List.getD_eq_getElem?_getD, List.getElem?_append_right (Nat.le_refl _)]; simp
    rw [putN, hg, List.set_append_right _ _ (Nat.le_refl _), Nat.sub_self]
    have hp : putE (.v x) 0 [y] = y := rfl
    rw [hp]
    rw [List.length_append, List.length_singleton, List.append_assoc] at ih
    rw [show (AV.v x :: mid ++ post).set 0 y = [y] ++ (mid ++ post) from rfl, ih]
    simp
  | y :: ys, pre, [], post, _, hl => by simp at hl
  | [], pre, m :: mid, post, _, hl => by simp at hl
theorem allV_rep (n : Nat) (x : Int) : allV (List.replicate n (i64 x)) = true := by
  induction n with
  | zero => rfl
  | succ n ih =>
    rw [List.replicate_succ]
    show ((AV.v (.int .i64 x)).one && allV (List.replicate n (i64 x))) = true
    rw [ih]
    rfl
/-- The row while it fills. -/
def half (n k : Nat) : List AV := List.replicate n (i64 (-1)) ++ List.replicate k (i64 0)
theorem half_len (n k : Nat) : (half n k).length = n + k := by simp [half]
theorem rep_step (n k : Nat) (j : Nat) (hj : j ≤ k) : putN (half n k) n (List.replicate j (i64 (-1))) = half (n + j) (k - j) := by
  have h := putN_app (List.replicate j (i64 (-1))) (List.replicate n (i64 (-1))) (List.replicate j (i64 0)) (List.replicate (k - j) (i64 0)) (fun y hy => ⟨_, List.eq_of_mem_replicate hy⟩) (by simp)
  rw [List.length_replicate] at h
  unfold half
  rw [show List.replicate k (i64 0) = List.replicate j (i64 0) ++ List.replicate (k - j) (i64 0) by rw [List.replicate_append_replicate]; congr 1; omega, h, ← List.append_assoc, List.replicate_append_replicate]
theorem rep_loop : ∀ (m n k : Nat), k ≤ m → 1 ≤ n → n + k ≤ 1000 →
    packX 0 [7] (loopW (bd E0 (ev E0) loopW 0 [7, 8] L68b0) ⟨[(7, .sl 0 0 (n + k)), (8, i64 n)], [some ⟨3, 1, 1, false, half n k⟩]⟩) = some (.ext 0, ⟨[(7, .sl 0 0 (n + k))], [some ⟨3, 1, 1, false, half (n + k) 0⟩]⟩) := by
  intro m
  induction m with
  | zero =>
    intro n k hk hn _
    obtain rfl : k = 0 := by omega
    have hi : ¬ (n : Int) < (n : Int) := by omega
    rw [Nat.add_zero, loopW_eq]
    generalize loopW (bd E0 (ev E0) loopW 0 [7, 8] L68b0) = K
    have hl := half_len n 0
    generalize half n 0 = X at *
    simp -implicitDefEqProofs [bd, L68b0, hl, hi]
  | succ m ih =>
    intro n k hk hn hb
    by_cases h0 : k = 0
    · exact ih n k (by omega) hn hb
    · obtain ⟨j, hj⟩ : ∃ j, j = min k n := ⟨_, rfl⟩
      have hih := ih (n + j) (k - j) (by omega) (by omega) (by omega)
      rw [show n + j + (k - j) = n + k by omega] at hih
      have hi : (n : Int) < ((n + k : Nat) : Int) := by omega
      have hi2 : (n : Int) ≤ ((n + k : Nat) : Int) := by omega
      have hl := half_len n k
      have hst := rep_step n k j (by omega)
      have htn : List.take n (half n k) = List.replicate n (i64 (-1)) := by unfold half; exact List.take_left' (by simp)
      have htk : List.take k (List.replicate n (i64 (-1))) = List.replicate j (i64 (-1)) := by rw [List.take_replicate, hj]
      have hv := allV_rep j (-1)
      have hw : IntKind.i64.wrap ((n : Int) + (j : Int)) = ((n + j : Nat) : Int) := by rw [wr64 (by omega) (by omega)]; omega
      have hsub : n + k - n = k := by omega
      have hq1 : n ≤ n + k := by omega
      have hq2 : 0 < j := by omega
      have hq3 : n + k ≤ n + k := Nat.le_refl _
      rw [loopW_eq]
      generalize loopW (bd E0 (ev E0) loopW 0 [7, 8] L68b0) = K at hih ⊢
      generalize half n k = X at *
      generalize half (n + j) (k - j) = Y at *
      generalize half (n + k) 0 = Z at *
      simpa -implicitDefEqProofs [bd, L68b0, hl, hi, hi2, hst, htn, htk, hv, hw, hsub, hq1, hq2, -Int.natCast_add] using hih
theorem repeat_c (c : Nat) (h1 : 1 ≤ c) (hc : c ≤ 1000) : ev E0 68 [.lst 1 [i64 (-1)], i64 c] [] = some (.sl 0 0 c, [some ⟨3, 1, 1, false, List.replicate c (i64 (-1))⟩]) := by
  have hm := mul_c c hc
  have hl := rep_loop c 1 (c - 1) (by omega) (by omega) (by omega)
  rw [show 1 + (c - 1) = c by omega, show ((1 : Nat) : Int) = 1 from rfl] at hl
  have e1 : half c 0 = List.replicate c (i64 (-1)) := by simp [half]
  have e2 : putN (List.replicate c (i64 0)) 0 [i64 (-1)] = half 1 (c - 1) := by
    have := rep_step 0 c 1 h1
    simpa [half] using this
  rw [e1] at hl
  have w1 : IntKind.u64.wrap 1 = 1 := by decide
  have w2 : IntKind.u64.wrap (c : Int) = (c : Int) := wru (by omega) (by omega)
  have w3 : IntKind.i64.wrap (c : Int) = (c : Int) := wr64 (by omega) (by omega)
  have q1 : ¬ (c : Int) < 0 := by omega
  have q2 : ¬ (9223372036854775807 : Int) < (c : Int) := by omega
  have q3 : (c : Int) * 8 ≤ 140737488355328 := by omega
  have q4 : (c : Int) ≤ 140737488355328 := by omega
  have q5 : (0 : Int) ≤ (c : Int) := by omega
  have q6 : List.take c [i64 (-1)] = [i64 (-1)] := List.take_of_length_le (by simpa using h1)
  have q7 : allV [i64 (-1)] = true := rfl
  have q8 : ¬ c = 0 := by omega
  have q9 : 0 < c := by omega
  rw [e68]
  unfold runF
  generalize half 1 (c - 1) = X at *
  simp -implicitDefEqProofs [L68, hm, w1, w2, w3, q1, q2, q3, q4, q5, q6, q7, q8, q9, e2, hl]
end Go.Proofs.YtodcochnciadjaaDoor.Ev
