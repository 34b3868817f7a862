/- Noises: powers, divisors, fractions, marks apart, chances in parts; the reference's functions and the program's. -/
import Derived.Test.YtpfefmofecmjjaaDoorEvTab
import Derived.Test.YtpfefmofecmjjaaDoorEvFr
import Derived.Test.YtpfefmofecmjjaaDoorEvNz
set_option linter.unusedVariables false
set_option linter.unusedSimpArgs false
namespace Go.Proofs.YtpfefmofecmjjaaDoor.Ev
open Fr Nz
def nzA (a b : Int) : AV := .agg [i64 a, i64 b]
def okNz (a b : Int) : Bool := (decide (1 ≤ b) && decide (b ≤ 100)) && (decide (0 ≤ a) && decide (a ≤ b))
theorem okNz_b {a b : Int} (h : okNz a b = true) : ∃ x y : Nat, a = x ∧ b = y ∧ 1 ≤ y ∧ y ≤ 100 ∧ x ≤ y := by
  unfold okNz at h
  simp only [Bool.and_eq_true, decide_eq_true_eq] at h
  exact ⟨a.toNat, b.toNat, by omega, by omega, by omega, by omega, by omega⟩

theorem noise_s (a b : Int) : ev E0 44 [nzA a b] [] = some (bl (okNz a b), []) := by
  rw [e44]
  unfold runF okNz nzA
  have h1 := in_s b 1 100
  have h2 := in_s a 0 b
  cases hb : (decide (1 ≤ b) && decide (b ≤ 100)) with
  | false =>
    rw [hb] at h1
    simp -implicitDefEqProofs [L44, h1]
  | true =>
    rw [hb] at h1
    simp -implicitDefEqProofs [L44, h1, h2]

theorem noise_i (a b : Int) : ev E0 23 [nzA a b] [] = some (bl (okNz a b), []) := by
  rw [e23]
  unfold runF okNz nzA
  have h1 := in_i b 1 100
  have h2 := in_i a 0 b
  cases hb : (decide (1 ≤ b) && decide (b ≤ 100)) with
  | false =>
    rw [hb] at h1
    simp -implicitDefEqProofs [L23, h1]
  | true =>
    rw [hb] at h1
    simp -implicitDefEqProofs [L23, h1, h2]

theorem pow_b {x i : Nat} (hx : x ≤ 100) (hi : i ≤ 5) : x ^ i ≤ 10000000000 := by
  have h1 : x ^ i ≤ 100 ^ i := Nat.pow_le_pow_left hx i
  have h2 : 100 ^ i ≤ 100 ^ 5 := Nat.pow_le_pow_right (by decide) hi
  have h3 : 100 ^ 5 = 10000000000 := by decide
  omega
theorem wrN {z : Nat} (h : z ≤ 1000000000000000) : IntKind.i64.wrap (z : Int) = z := wr64 (by omega) (by omega)
theorem tmodN (a b : Nat) : Int.tmod (a : Int) (b : Int) = ((a % b : Nat) : Int) := rfl
theorem tdivN (a b : Nat) : Int.tdiv (a : Int) (b : Int) = ((a / b : Nat) : Int) := rfl

theorem power_loop_s (x k : Nat) (hx : x ≤ 100) (hk : k ≤ 5) : ∀ (j i : Nat), i + j = k → packX 0 [5] (loopW (bd E0 (ev E0) loopW 0 [0, 1, 5, 6] L60b0) ⟨[(0, i64 x), (1, i64 k), (5, i64 ((x ^ i : Nat) : Int)), (6, i64 i)], []⟩) = some (.ext 0, ⟨[(5, i64 ((x ^ k : Nat) : Int))], []⟩) := by
  intro j
  induction j with
  | zero =>
    intro i h
    obtain rfl : i = k := by omega
    have h1 : ¬ (i : Int) < (i : Int) := by omega
    rw [loopW_eq]
    generalize x ^ i = p
    generalize loopW (bd E0 (ev E0) loopW 0 [0, 1, 5, 6] L60b0) = K
    simp -implicitDefEqProofs [bd, L60b0, h1]
  | succ j ih =>
    intro i h
    have hih := ih (i + 1) (by omega)
    have h1 : (i : Int) < (k : Int) := by omega
    have h2 : i < k := by omega
    have hp := pow_b (i := i + 1) hx (by omega)
    have hm : ((x ^ i : Nat) : Int) * (x : Int) = ((x ^ (i + 1) : Nat) : Int) := by rw [Nat.pow_succ]; rfl
    have hw1 : IntKind.i64.wrap (((x ^ i : Nat) : Int) * (x : Int)) = ((x ^ (i + 1) : Nat) : Int) := by rw [hm]; exact wr64 (by omega) (by omega)
    have hw : IntKind.i64.wrap ((i : Int) + 1) = (i : Int) + 1 := wr64 (by omega) (by omega)
    rw [cs1] at hih
    rw [loopW_eq]
    clear hm hp
    generalize ((x ^ (i + 1) : Nat) : Int) = q at hih hw1
    generalize ((x ^ i : Nat) : Int) = p at hw1 ⊢
    generalize loopW (bd E0 (ev E0) loopW 0 [0, 1, 5, 6] L60b0) = K at hih ⊢
    simpa -implicitDefEqProofs [bd, L60b0, h1, h2, hw, hw1] using hih
theorem power_s (x k : Nat) (hx : x ≤ 100) (hk : k ≤ 5) : ev E0 60 [i64 x, i64 k] [] = some (i64 ((x ^ k : Nat) : Int), []) := by
  have h := power_loop_s x k hx hk k 0 (by omega)
  rw [Nat.pow_zero, c0, show ((1 : Nat) : Int) = 1 from rfl] at h
  rw [e60]
  unfold runF
  generalize ((x ^ k : Nat) : Int) = p at h
  simp -implicitDefEqProofs [L60, h]

theorem power_loop_i (x k : Nat) (hx : x ≤ 100) (hk : k ≤ 5) : ∀ (j i : Nat), i + j = k → packX 0 [5] (loopW (bd E0 (ev E0) loopW 0 [0, 5, 6, 7] L57b0) ⟨[(0, i64 x), (5, i64 ((x ^ i : Nat) : Int)), (6, i64 k), (7, i64 i)], []⟩) = some (.ext 0, ⟨[(5, i64 ((x ^ k : Nat) : Int))], []⟩) := by
  intro j
  induction j with
  | zero =>
    intro i h
    obtain rfl : i = k := by omega
    have h1 : ¬ (i : Int) < (i : Int) := by omega
    rw [loopW_eq]
    generalize x ^ i = p
    generalize loopW (bd E0 (ev E0) loopW 0 [0, 5, 6, 7] L57b0) = K
    simp -implicitDefEqProofs [bd, L57b0, h1]
  | succ j ih =>
    intro i h
    have hih := ih (i + 1) (by omega)
    have h1 : (i : Int) < (k : Int) := by omega
    have h2 : i < k := by omega
    have hp := pow_b (i := i + 1) hx (by omega)
    have hm : ((x ^ i : Nat) : Int) * (x : Int) = ((x ^ (i + 1) : Nat) : Int) := by rw [Nat.pow_succ]; rfl
    have hw1 : IntKind.i64.wrap (((x ^ i : Nat) : Int) * (x : Int)) = ((x ^ (i + 1) : Nat) : Int) := by rw [hm]; exact wr64 (by omega) (by omega)
    have hw : IntKind.i64.wrap ((i : Int) + 1) = (i : Int) + 1 := wr64 (by omega) (by omega)
    rw [cs1] at hih
    rw [loopW_eq]
    clear hm hp
    generalize ((x ^ (i + 1) : Nat) : Int) = q at hih hw1
    generalize ((x ^ i : Nat) : Int) = p at hw1 ⊢
    generalize loopW (bd E0 (ev E0) loopW 0 [0, 5, 6, 7] L57b0) = K at hih ⊢
    simpa -implicitDefEqProofs [bd, L57b0, h1, h2, hw, hw1] using hih
theorem power_i (x k : Nat) (hx : x ≤ 100) (hk : k ≤ 5) : ev E0 57 [i64 x, i64 k] [] = some (i64 ((x ^ k : Nat) : Int), []) := by
  have h := power_loop_i x k hx hk k 0 (by omega)
  rw [Nat.pow_zero, c0, show ((1 : Nat) : Int) = 1 from rfl] at h
  rw [e57]
  unfold runF
  generalize ((x ^ k : Nat) : Int) = p at h
  simp -implicitDefEqProofs [L57, h]

theorem apart_loop_s (a b : ByteArray) (hl : a.size = b.size) (hs : a.size ≤ 1000) : ∀ (t u : List UInt8) (i d : Nat), (B a).drop i = t → (B b).drop i = u → d ≤ i → packX 0 [5] (loopW (bd E0 (ev E0) loopW 0 [0, 1, 5, 6] L59b0) ⟨[(0, st a), (1, st b), (5, i64 d), (6, i64 i)], []⟩) = some (.ext 0, ⟨[(5, i64 ((d + ap t u : Nat) : Int))], []⟩) := by
  intro t
  induction t with
  | nil =>
    intro u i d h1 h2 hd
    have hi := byte_end h1
    have hi2 : ¬ (i : Int) < (a.size : Int) := by omega
    have e : d + ap [] u = d := by cases u <;> rfl
    rw [e, loopW_eq]
    generalize loopW (bd E0 (ev E0) loopW 0 [0, 1, 5, 6] L59b0) = K
    simp -implicitDefEqProofs [bd, L59b0, hi, hi2]
  | cons x t ih =>
    intro u i d h1 h2 hd
    obtain ⟨hi, hx, ht⟩ := byte_at h1
    match u, h2 with
    | [], h2 => have := byte_end h2; omega
    | y :: u, h2 =>
      obtain ⟨hj, hy, hu⟩ := byte_at h2
      have hi2 : (i : Int) < (a.size : Int) := by omega
      have hj2 : (i : Int) < (b.size : Int) := by omega
      have hw : IntKind.i64.wrap ((i : Int) + 1) = (i : Int) + 1 := wr64 (by omega) (by omega)
      have hwd : IntKind.i64.wrap ((d : Int) + 1) = (d : Int) + 1 := wr64 (by omega) (by omega)
      rw [ap, loopW_eq]
      by_cases hxy : x = y
      · subst hxy
        have hih := ih u (i + 1) d ht hu (by omega)
        rw [cs1] at hih
        rw [if_pos rfl, Nat.zero_add]
        generalize ((d + ap t u : Nat) : Int) = R at hih ⊢
        generalize loopW (bd E0 (ev E0) loopW 0 [0, 1, 5, 6] L59b0) = K at hih ⊢
        simpa -implicitDefEqProofs [bd, L59b0, hi, hi2, hj, hj2, -List.getD_eq_getElem?_getD, hx, hy, hw] using hih
      · have hih := ih u (i + 1) (d + 1) ht hu (by omega)
        have hne : ¬ (x.toNat : Int) = (y.toNat : Int) := fun e => hxy (UInt8.toNat_inj.1 (by omega))
        have hne2 : ¬ x.toNat = y.toNat := fun e => hxy (UInt8.toNat_inj.1 e)
        rw [cs1] at hih
        rw [if_neg hxy, ← Nat.add_assoc]
        generalize ((d + 1 + ap t u : Nat) : Int) = R at hih ⊢
        generalize loopW (bd E0 (ev E0) loopW 0 [0, 1, 5, 6] L59b0) = K at hih ⊢
        simpa -implicitDefEqProofs [bd, L59b0, hi, hi2, hj, hj2, -List.getD_eq_getElem?_getD, hx, hy, hw, hwd, hne, hne2] using hih
theorem apart_s (a b : ByteArray) (hl : a.size = b.size) (hs : a.size ≤ 1000) : ev E0 59 [st a, st b] [] = some (i64 ((ap (B a) (B b) : Nat) : Int), []) := by
  have h := apart_loop_s a b hl hs (B a) (B b) 0 0 rfl rfl (Nat.le_refl _)
  rw [c0, Nat.zero_add] at h
  rw [e59]
  unfold runF
  generalize ((ap (B a) (B b) : Nat) : Int) = p at h
  simp -implicitDefEqProofs [L59, h]

theorem apart_loop_i (a b : ByteArray) (hl : a.size = b.size) (hs : a.size ≤ 1000) : ∀ (t u : List UInt8) (i d : Nat), (B a).drop i = t → (B b).drop i = u → d ≤ i → packX 0 [5] (loopW (bd E0 (ev E0) loopW 0 [0, 1, 5, 8, 9] L56b0) ⟨[(0, st a), (1, st b), (5, i64 d), (8, i64 a.size), (9, i64 i)], []⟩) = some (.ext 0, ⟨[(5, i64 ((d + ap t u : Nat) : Int))], []⟩) := by
  intro t
  induction t with
  | nil =>
    intro u i d h1 h2 hd
    have hi := byte_end h1
    have hi2 : ¬ (i : Int) < (a.size : Int) := by omega
    have e : d + ap [] u = d := by cases u <;> rfl
    rw [e, loopW_eq]
    generalize loopW (bd E0 (ev E0) loopW 0 [0, 1, 5, 8, 9] L56b0) = K
    simp -implicitDefEqProofs [bd, L56b0, hi, hi2]
  | cons x t ih =>
    intro u i d h1 h2 hd
    obtain ⟨hi, hx, ht⟩ := byte_at h1
    match u, h2 with
    | [], h2 => have := byte_end h2; omega
    | y :: u, h2 =>
      obtain ⟨hj, hy, hu⟩ := byte_at h2
      have hi2 : (i : Int) < (a.size : Int) := by omega
      have hj2 : (i : Int) < (b.size : Int) := by omega
      have hw : IntKind.i64.wrap ((i : Int) + 1) = (i : Int) + 1 := wr64 (by omega) (by omega)
      have hwd : IntKind.i64.wrap ((d : Int) + 1) = (d : Int) + 1 := wr64 (by omega) (by omega)
      rw [ap, loopW_eq]
      by_cases hxy : x = y
      · subst hxy
        have hih := ih u (i + 1) d ht hu (by omega)
        rw [cs1] at hih
        rw [if_pos rfl, Nat.zero_add]
        generalize ((d + ap t u : Nat) : Int) = R at hih ⊢
        generalize loopW (bd E0 (ev E0) loopW 0 [0, 1, 5, 8, 9] L56b0) = K at hih ⊢
        simpa -implicitDefEqProofs [bd, L56b0, hi, hi2, hj, hj2, -List.getD_eq_getElem?_getD, hx, hy, hw] using hih
      · have hih := ih u (i + 1) (d + 1) ht hu (by omega)
        have hne : ¬ (x.toNat : Int) = (y.toNat : Int) := fun e => hxy (UInt8.toNat_inj.1 (by omega))
        have hne2 : ¬ x.toNat = y.toNat := fun e => hxy (UInt8.toNat_inj.1 e)
        rw [cs1] at hih
        rw [if_neg hxy, ← Nat.add_assoc]
        generalize ((d + 1 + ap t u : Nat) : Int) = R at hih ⊢
        generalize loopW (bd E0 (ev E0) loopW 0 [0, 1, 5, 8, 9] L56b0) = K at hih ⊢
        simpa -implicitDefEqProofs [bd, L56b0, hi, hi2, hj, hj2, -List.getD_eq_getElem?_getD, hx, hy, hw, hwd, hne, hne2] using hih
theorem apart_i (a b : ByteArray) (hl : a.size = b.size) (hs : a.size ≤ 1000) : ev E0 56 [st a, st b] [] = some (i64 ((ap (B a) (B b) : Nat) : Int), []) := by
  have h := apart_loop_i a b hl hs (B a) (B b) 0 0 rfl rfl (Nat.le_refl _)
  rw [c0, Nat.zero_add] at h
  rw [e56]
  unfold runF
  generalize ((ap (B a) (B b) : Nat) : Int) = p at h
  simp -implicitDefEqProofs [L56, h]

theorem whole_s (n d : Nat) (hn : n ≤ d) (hd : d ≤ 100) (a b : ByteArray) (ha : a.size ≤ 5) : ev E0 37 [nzA n d, st a, st b] [] = some (i64 ((wh n d (B a) (B b) : Nat) : Int), []) := by
  rw [e37]
  unfold runF nzA
  by_cases hl : a.size = b.size
  · obtain ⟨z, hz⟩ : ∃ z, b.size = z := ⟨_, rfl⟩
    have h1 := apart_s a b hl (by omega)
    rw [hz] at hl
    have hap := ap_le (B a) (B b)
    rw [B_len, hl] at hap
    have hwh := wh_le n d hn (B a) (B b) (by rw [B_len]; exact ha)
    have hd5 := pow_b (i := 5) hd (by omega)
    have hcc : (B a).length = (B b).length := by rw [B_len, B_len, hl, hz]
    unfold wh at hwh ⊢
    rw [if_pos hcc, B_len, hl] at hwh
    rw [if_pos hcc, B_len, hl]
    rw [hl] at ha
    generalize ap (B a) (B b) = k at *
    have p1 := power_s n k (by omega) (by omega)
    have p2 := power_s (d - n) (z - k) (by omega) (by omega)
    have p3 := power_s d (5 - z) (by omega) (by omega)
    have e2 : ((d - n : Nat) : Int) = (d : Int) - (n : Int) := by omega
    have e3 : ((z - k : Nat) : Int) = (z : Int) - (k : Int) := by omega
    have e4 : ((5 - z : Nat) : Int) = 5 - (z : Int) := by omega
    rw [e2, e3] at p2
    rw [e4] at p3
    have w1 : IntKind.i64.wrap ((d : Int) - (n : Int)) = (d : Int) - (n : Int) := wr64 (by omega) (by omega)
    have w2 : IntKind.i64.wrap ((z : Int) - (k : Int)) = (z : Int) - (k : Int) := wr64 (by omega) (by omega)
    have w3 : IntKind.i64.wrap (5 - (z : Int)) = 5 - (z : Int) := wr64 (by omega) (by omega)
    have b1 : n ^ k * (d - n) ^ (z - k) ≤ 10000000000 := by
      have c1 : n ^ k ≤ d ^ k := Nat.pow_le_pow_left hn _
      have c2 : (d - n) ^ (z - k) ≤ d ^ (z - k) := Nat.pow_le_pow_left (by omega) _
      have c3 := Nat.mul_le_mul c1 c2
      rw [← Nat.pow_add, show k + (z - k) = z by omega] at c3
      have c4 := pow_b (x := d) (i := z) hd ha
      omega
    generalize hA : n ^ k = A at *
    generalize hB : (d - n) ^ (z - k) = Bv at *
    generalize hC : d ^ (5 - z) = C at *
    have m1 : (A : Int) * (Bv : Int) = ((A * Bv : Nat) : Int) := rfl
    have m2 : ((A * Bv : Nat) : Int) * (C : Int) = ((A * Bv * C : Nat) : Int) := rfl
    have w4 : IntKind.i64.wrap ((A : Int) * (Bv : Int)) = ((A * Bv : Nat) : Int) := by rw [m1]; exact wr64 (by omega) (by omega)
    have w5 : IntKind.i64.wrap (((A * Bv : Nat) : Int) * (C : Int)) = ((A * Bv * C : Nat) : Int) := by rw [m2]; exact wr64 (by omega) (by omega)
    generalize ((A * Bv * C : Nat) : Int) = q at *
    generalize ((A * Bv : Nat) : Int) = r at *
    simp -implicitDefEqProofs [L37, hl, hz, h1, p1, p2, p3, w1, w2, w3, w4, w5]
  · have hl2 : ¬ (a.size : Int) = (b.size : Int) := by omega
    unfold wh
    rw [B_len, B_len, if_neg hl]
    simp -implicitDefEqProofs [L37, hl, hl2]

theorem whole_i (n d : Nat) (hn : n ≤ d) (hd : d ≤ 100) (a b : ByteArray) (ha : a.size ≤ 5) : ev E0 33 [nzA n d, st a, st b] [] = some (i64 ((wh n d (B a) (B b) : Nat) : Int), []) := by
  rw [e33]
  unfold runF nzA
  by_cases hl : a.size = b.size
  · obtain ⟨z, hz⟩ : ∃ z, b.size = z := ⟨_, rfl⟩
    have h1 := apart_i a b hl (by omega)
    rw [hz] at hl
    have hap := ap_le (B a) (B b)
    rw [B_len, hl] at hap
    have hwh := wh_le n d hn (B a) (B b) (by rw [B_len]; exact ha)
    have hd5 := pow_b (i := 5) hd (by omega)
    have hcc : (B a).length = (B b).length := by rw [B_len, B_len, hl, hz]
    unfold wh at hwh ⊢
    rw [if_pos hcc, B_len, hl] at hwh
    rw [if_pos hcc, B_len, hl]
    rw [hl] at ha
    generalize ap (B a) (B b) = k at *
    have p1 := power_i n k (by omega) (by omega)
    have p2 := power_i (d - n) (z - k) (by omega) (by omega)
    have p3 := power_i d (5 - z) (by omega) (by omega)
    have e2 : ((d - n : Nat) : Int) = (d : Int) - (n : Int) := by omega
    have e3 : ((z - k : Nat) : Int) = (z : Int) - (k : Int) := by omega
    have e4 : ((5 - z : Nat) : Int) = 5 - (z : Int) := by omega
    rw [e2, e3] at p2
    rw [e4] at p3
    have w1 : IntKind.i64.wrap ((d : Int) - (n : Int)) = (d : Int) - (n : Int) := wr64 (by omega) (by omega)
    have w2 : IntKind.i64.wrap ((z : Int) - (k : Int)) = (z : Int) - (k : Int) := wr64 (by omega) (by omega)
    have w3 : IntKind.i64.wrap (5 - (z : Int)) = 5 - (z : Int) := wr64 (by omega) (by omega)
    have b1 : n ^ k * (d - n) ^ (z - k) ≤ 10000000000 := by
      have c1 : n ^ k ≤ d ^ k := Nat.pow_le_pow_left hn _
      have c2 : (d - n) ^ (z - k) ≤ d ^ (z - k) := Nat.pow_le_pow_left (by omega) _
      have c3 := Nat.mul_le_mul c1 c2
      rw [← Nat.pow_add, show k + (z - k) = z by omega] at c3
      have c4 := pow_b (x := d) (i := z) hd ha
      omega
    generalize hA : n ^ k = A at *
    generalize hB : (d - n) ^ (z - k) = Bv at *
    generalize hC : d ^ (5 - z) = C at *
    have m1 : (A : Int) * (Bv : Int) = ((A * Bv : Nat) : Int) := rfl
    have m2 : ((A * Bv : Nat) : Int) * (C : Int) = ((A * Bv * C : Nat) : Int) := rfl
    have w4 : IntKind.i64.wrap ((A : Int) * (Bv : Int)) = ((A * Bv : Nat) : Int) := by rw [m1]; exact wr64 (by omega) (by omega)
    have w5 : IntKind.i64.wrap (((A * Bv : Nat) : Int) * (C : Int)) = ((A * Bv * C : Nat) : Int) := by rw [m2]; exact wr64 (by omega) (by omega)
    generalize ((A * Bv * C : Nat) : Int) = q at *
    generalize ((A * Bv : Nat) : Int) = r at *
    simp -implicitDefEqProofs [L33, hl, hz, h1, p1, p2, p3, w1, w2, w3, w4, w5]
  · have hl2 : ¬ (a.size : Int) = (b.size : Int) := by omega
    unfold wh
    rw [B_len, B_len, if_neg hl]
    simp -implicitDefEqProofs [L33, hl, hl2]

theorem all_s (n : Int) (d : Nat) (hd : d ≤ 100) : ev E0 38 [nzA n d] [] = some (i64 ((d ^ 5 : Nat) : Int), []) := by
  have h := power_s d 5 hd (by omega)
  rw [show ((5 : Nat) : Int) = 5 from rfl] at h
  rw [e38]
  unfold runF nzA
  generalize ((d ^ 5 : Nat) : Int) = p at h
  simp -implicitDefEqProofs [L38, h]

theorem all_i (n : Int) (d : Nat) (hd : d ≤ 100) : ev E0 34 [nzA n d] [] = some (i64 ((d ^ 5 : Nat) : Int), []) := by
  have h := power_i d 5 hd (by omega)
  rw [show ((5 : Nat) : Int) = 5 from rfl] at h
  rw [e34]
  unfold runF nzA
  generalize ((d ^ 5 : Nat) : Int) = p at h
  simp -implicitDefEqProofs [L34, h]

-- ---------------------------------------------------------------- divisors and fractions
theorem div_loop : ∀ (k a b : Nat), b ≤ k → packX 0 [0] (loopW (bd E0 (ev E0) loopW 0 [0, 1] L55b0) ⟨[(0, i64 a), (1, i64 b)], []⟩) = some (.ext 0, ⟨[(0, i64 ((Nat.gcd b a : Nat) : Int))], []⟩) := by
  intro k
  induction k with
  | zero =>
    intro a b h
    obtain rfl : b = 0 := by omega
    rw [Nat.gcd_zero_left, loopW_eq]
    generalize loopW (bd E0 (ev E0) loopW 0 [0, 1] L55b0) = K
    simp -implicitDefEqProofs [bd, L55b0]
  | succ k ih =>
    intro a b h
    by_cases hb : b = 0
    · exact ih a b (by omega)
    · have hlt := Nat.mod_lt a (Nat.pos_of_ne_zero hb)
      have hih := ih b (a % b) (by omega)
      have hb2 : ¬ (b : Int) = 0 := by omega
      have ht := tmodN a b
      rw [Nat.gcd_rec, loopW_eq]
      generalize ((Nat.gcd (a % b) b : Nat) : Int) = g at hih ⊢
      generalize ((a % b : Nat) : Int) = r at ht hih
      generalize loopW (bd E0 (ev E0) loopW 0 [0, 1] L55b0) = K at hih ⊢
      simpa -implicitDefEqProofs [bd, L55b0, hb, hb2, ht] using hih
theorem divisor_i (a b : Nat) : ev E0 55 [i64 a, i64 b] [] = some (i64 ((Nat.gcd a b : Nat) : Int), []) := by
  have h := div_loop b a b (Nat.le_refl _)
  rw [Nat.gcd_comm] at h
  rw [e55]
  unfold runF
  generalize ((Nat.gcd a b : Nat) : Int) = g at h
  simp -implicitDefEqProofs [L55, h]
def pr (x : Nat × Nat) : AV := .agg [i64 ((x.1 : Nat) : Int), i64 ((x.2 : Nat) : Int)]
theorem fraction_i (a b : Nat) (hb : 0 < b) (ha : a ≤ 1000000000000000) (hb2 : b ≤ 1000000000000000) : ev E0 32 [i64 a, i64 b] [] = some (pr (cut a b), []) := by
  have h := divisor_i a b
  have hg := gcd_pos (a := a) hb
  have h1 := tdivN a (Nat.gcd a b)
  have h2 := tdivN b (Nat.gcd a b)
  have d1 : a / Nat.gcd a b ≤ a := Nat.div_le_self _ _
  have d2 : b / Nat.gcd a b ≤ b := Nat.div_le_self _ _
  have hg2 : ¬ ((Nat.gcd a b : Nat) : Int) = 0 := by omega
  have hg3 : ¬ Nat.gcd a b = 0 := by omega
  have w1 : IntKind.i64.wrap ((a / Nat.gcd a b : Nat) : Int) = ((a / Nat.gcd a b : Nat) : Int) := wrN (Nat.le_trans d1 ha)
  have w2 : IntKind.i64.wrap ((b / Nat.gcd a b : Nat) : Int) = ((b / Nat.gcd a b : Nat) : Int) := wrN (Nat.le_trans d2 hb2)
  rw [e32]
  unfold runF pr cut
  generalize ((a / Nat.gcd a b : Nat) : Int) = x at *
  generalize ((b / Nat.gcd a b : Nat) : Int) = y at *
  generalize ((Nat.gcd a b : Nat) : Int) = g at *
  simp -implicitDefEqProofs [L32, h, hg2, h1, h2, w1, w2]
theorem cut_loop (a b : Int) : ∀ (k x y : Nat), y ≤ k → packX 0 [0, 1, 4, 5] (loopW (bd E0 (ev E0) loopW 0 [0, 1, 4, 5, 6] L36b0) ⟨[(0, i64 a), (1, i64 b), (4, .ptr 0 0 0), (5, i64 x), (6, i64 y)], [some ⟨34, 2, 0, false, [.agg [i64 0, i64 0]]⟩]⟩) = some (.ext 0, ⟨[(0, i64 a), (1, i64 b), (4, .ptr 0 0 0), (5, i64 ((Nat.gcd y x : Nat) : Int))], [some ⟨34, 2, 0, false, [.agg [i64 0, i64 0]]⟩]⟩) := by
  intro k
  induction k with
  | zero =>
    intro x y h
    obtain rfl : y = 0 := by omega
    rw [Nat.gcd_zero_left, loopW_eq]
    generalize loopW (bd E0 (ev E0) loopW 0 [0, 1, 4, 5, 6] L36b0) = K
    simp -implicitDefEqProofs [bd, L36b0]
  | succ k ih =>
    intro x y h
    by_cases hb : y = 0
    · exact ih x y (by omega)
    · have hlt := Nat.mod_lt x (Nat.pos_of_ne_zero hb)
      have hih := ih y (x % y) (by omega)
      have hb2 : (0 : Int) < (y : Int) := by omega
      have hb3 : ¬ (y : Int) = 0 := by omega
      have hb4 : 0 < y := by omega
      have ht := tmodN x y
      rw [Nat.gcd_rec, loopW_eq]
      generalize ((Nat.gcd (x % y) y : Nat) : Int) = g at hih ⊢
      generalize ((x % y : Nat) : Int) = r at ht hih
      generalize loopW (bd E0 (ev E0) loopW 0 [0, 1, 4, 5, 6] L36b0) = K at hih ⊢
      simpa -implicitDefEqProofs [bd, L36b0, hb, hb2, hb3, hb4, ht] using hih
theorem most_z (a b : Int) : ev E0 54 [i64 a, i64 b] [] = some (i64 (if b < a then a else b), []) := by
  rw [e54]
  unfold runF
  by_cases h : b < a
  · simp -implicitDefEqProofs [L54, h]
  · simp -implicitDefEqProofs [L54, h]
theorem cut_s (a b : Nat) (hb : 0 < b) (ha : a ≤ 1000000000000000) (hb2 : b ≤ 1000000000000000) : ev E0 36 [i64 a, i64 b] [] = some (pr (cut a b), []) := by
  have h := cut_loop a b b a b (Nat.le_refl _)
  rw [Nat.gcd_comm] at h
  have hg := gcd_pos (a := a) hb
  have h1 := tdivN a (Nat.gcd a b)
  have h2 := tdivN b (Nat.gcd a b)
  have d1 : a / Nat.gcd a b ≤ a := Nat.div_le_self _ _
  have d2 : b / Nat.gcd a b ≤ b := Nat.div_le_self _ _
  have hg2 : ¬ ((Nat.gcd a b : Nat) : Int) = 0 := by omega
  have hg3 : ¬ Nat.gcd a b = 0 := by omega
  have w1 : IntKind.i64.wrap ((a / Nat.gcd a b : Nat) : Int) = ((a / Nat.gcd a b : Nat) : Int) := wrN (Nat.le_trans d1 ha)
  have w2 : IntKind.i64.wrap ((b / Nat.gcd a b : Nat) : Int) = ((b / Nat.gcd a b : Nat) : Int) := wrN (Nat.le_trans d2 hb2)
  have hmx := most_z ((Nat.gcd a b : Nat) : Int) 1
  have hmv : (if (1 : Int) < ((Nat.gcd a b : Nat) : Int) then ((Nat.gcd a b : Nat) : Int) else 1) = ((Nat.gcd a b : Nat) : Int) := by split <;> omega
  rw [hmv] at hmx
  rw [e36]
  unfold runF pr cut
  clear hmv
  generalize ((a / Nat.gcd a b : Nat) : Int) = x at *
  generalize ((b / Nat.gcd a b : Nat) : Int) = y at *
  generalize ((Nat.gcd a b : Nat) : Int) = g at *
  simp -implicitDefEqProofs [L36, h, hg2, h1, h2, w1, w2, hmx]
end Go.Proofs.YtpfefmofecmjjaaDoor.Ev
