/- Noises: powers, divisors, fractions, marks apart, chances in parts; the reference's functions and the program's. -/
import Derived.Test.YtgecnbafmlecjaaGreatDoorEvTab
import Derived.Test.YtgecnbafmlecjaaGreatDoorEvFr
import Derived.Test.YtgecnbafmlecjaaGreatDoorEvNz
set_option linter.unusedVariables false
set_option linter.unusedSimpArgs false
set_option linter.constructorNameAsVariable false
namespace Go.Proofs.YtgecnbafmlecjaaGreatDoor.Ev
open Fr Nz
def nzA (a b : Int) : AV := .agg [i64 a, i64 b]
def okNz (a b : Int) : Bool := (decide (1 ≤ b) && decide (b ≤ 100)) && (decide (0 ≤ a) && decide (a ≤ b))
theorem okNz_b {a b : Int} (h : okNz a b = true) : ∃ x y : Nat, a = x ∧ b = y ∧ 1 ≤ y ∧ y ≤ 100 ∧ x ≤ y := by
  unfold okNz at h
  simp only [Bool.and_eq_true, decide_eq_true_eq] at h
  exact ⟨a.toNat, b.toNat, by omega, by omega, by omega, by omega, by omega⟩

theorem noise_s (a b : Int) : ev E0 31 [nzA a b] [] = some (bl (okNz a b), []) := by
  rw [e31]
  unfold runF okNz nzA
  have h1 := in_s b 1 100
  have h2 := in_s a 0 b
  cases hb : (decide (1 ≤ b) && decide (b ≤ 100)) with
  | false =>
    rw [hb] at h1
    simp -implicitDefEqProofs [L31, h1]
  | true =>
    rw [hb] at h1
    simp -implicitDefEqProofs [L31, h1, h2]

theorem noise_i (a b : Int) : ev E0 53 [nzA a b] [] = some (bl (okNz a b), []) := by
  rw [e53]
  unfold runF okNz nzA
  have h1 := in_i b 1 100
  have h2 := in_i a 0 b
  cases hb : (decide (1 ≤ b) && decide (b ≤ 100)) with
  | false =>
    rw [hb] at h1
    simp -implicitDefEqProofs [L53, h1]
  | true =>
    rw [hb] at h1
    simp -implicitDefEqProofs [L53, h1, h2]

theorem pow_b {x i : Nat} (hx : x ≤ 100) (hi : i ≤ 5) : x ^ i ≤ 10000000000 := by
  have h1 : x ^ i ≤ 100 ^ i := Nat.pow_le_pow_left hx i
  have h2 : 100 ^ i ≤ 100 ^ 5 := Nat.pow_le_pow_right (by decide) hi
  have h3 : 100 ^ 5 = 10000000000 := by decide
  omega
theorem wrN {z : Nat} (h : z ≤ 1000000000000000) : IntKind.i64.wrap (z : Int) = z := wr64 (by omega) (by omega)
theorem tmodN (a b : Nat) : Int.tmod (a : Int) (b : Int) = ((a % b : Nat) : Int) := rfl
theorem tdivN (a b : Nat) : Int.tdiv (a : Int) (b : Int) = ((a / b : Nat) : Int) := rfl

theorem power_loop_s (x k : Nat) (hx : x ≤ 100) (hk : k ≤ 5) : ∀ (j i : Nat), i + j = k → packX 0 [5] (loopW (bd E0 (ev E0) loopW 0 [0, 1, 5, 6] L58b0) ⟨[(0, i64 x), (1, i64 k), (5, i64 ((x ^ i : Nat) : Int)), (6, i64 i)], []⟩) = some (.ext 0, ⟨[(5, i64 ((x ^ k : Nat) : Int))], []⟩) := by
  intro j
  induction j with
  | zero =>
    intro i h
    obtain rfl : i = k := by omega
    have h1 : ¬ (i : Int) < (i : Int) := by omega
    rw [loopW_eq]
    generalize x ^ i = p
    generalize loopW (bd E0 (ev E0) loopW 0 [0, 1, 5, 6] L58b0) = K
    simp -implicitDefEqProofs [bd, L58b0, h1]
  | succ j ih =>
    intro i h
    have hih := ih (i + 1) (by omega)
    have h1 : (i : Int) < (k : Int) := by omega
    have h2 : i < k := by omega
    have hp := pow_b (i := i + 1) hx (by omega)
    have hm : ((x ^ i : Nat) : Int) * (x : Int) = ((x ^ (i + 1) : Nat) : Int) := by rw [Nat.pow_succ]; rfl
    have hw1 : IntKind.i64.wrap (((x ^ i : Nat) : Int) * (x : Int)) = ((x ^ (i + 1) : Nat) : Int) := by rw [hm]; exact wr64 (by omega) (by omega)
    have hw : IntKind.i64.wrap ((i : Int) + 1) = (i : Int) + 1 := wr64 (by omega) (by omega)
    rw [cs1] at hih
    rw [loopW_eq]
    clear hm hp
    generalize ((x ^ (i + 1) : Nat) : Int) = q at hih hw1
    generalize ((x ^ i : Nat) : Int) = p at hw1 ⊢
    generalize loopW (bd E0 (ev E0) loopW 0 [0, 1, 5, 6] L58b0) = K at hih ⊢
    simpa -implicitDefEqProofs [bd, L58b0, h1, h2, hw, hw1] using hih
theorem power_s (x k : Nat) (hx : x ≤ 100) (hk : k ≤ 5) : ev E0 58 [i64 x, i64 k] [] = some (i64 ((x ^ k : Nat) : Int), []) := by
  have h := power_loop_s x k hx hk k 0 (by omega)
  rw [Nat.pow_zero, c0, show ((1 : Nat) : Int) = 1 from rfl] at h
  rw [e58]
  unfold runF
  generalize ((x ^ k : Nat) : Int) = p at h
  simp -implicitDefEqProofs [L58, h]

theorem power_loop_i (x k : Nat) (hx : x ≤ 100) (hk : k ≤ 5) : ∀ (j i : Nat), i + j = k → packX 0 [5] (loopW (bd E0 (ev E0) loopW 0 [0, 5, 6, 7] L54b0) ⟨[(0, i64 x), (5, i64 ((x ^ i : Nat) : Int)), (6, i64 k), (7, i64 i)], []⟩) = some (.ext 0, ⟨[(5, i64 ((x ^ k : Nat) : Int))], []⟩) := by
  intro j
  induction j with
  | zero =>
    intro i h
    obtain rfl : i = k := by omega
    have h1 : ¬ (i : Int) < (i : Int) := by omega
    rw [loopW_eq]
    generalize x ^ i = p
    generalize loopW (bd E0 (ev E0) loopW 0 [0, 5, 6, 7] L54b0) = K
    simp -implicitDefEqProofs [bd, L54b0, h1]
  | succ j ih =>
    intro i h
    have hih := ih (i + 1) (by omega)
    have h1 : (i : Int) < (k : Int) := by omega
    have h2 : i < k := by omega
    have hp := pow_b (i := i + 1) hx (by omega)
    have hm : ((x ^ i : Nat) : Int) * (x : Int) = ((x ^ (i + 1) : Nat) : Int) := by rw [Nat.pow_succ]; rfl
    have hw1 : IntKind.i64.wrap (((x ^ i : Nat) : Int) * (x : Int)) = ((x ^ (i + 1) : Nat) : Int) := by rw [hm]; exact wr64 (by omega) (by omega)
    have hw : IntKind.i64.wrap ((i : Int) + 1) = (i : Int) + 1 := wr64 (by omega) (by omega)
    rw [cs1] at hih
    rw [loopW_eq]
    clear hm hp
    generalize ((x ^ (i + 1) : Nat) : Int) = q at hih hw1
    generalize ((x ^ i : Nat) : Int) = p at hw1 ⊢
    generalize loopW (bd E0 (ev E0) loopW 0 [0, 5, 6, 7] L54b0) = K at hih ⊢
    simpa -implicitDefEqProofs [bd, L54b0, h1, h2, hw, hw1] using hih
theorem power_i (x k : Nat) (hx : x ≤ 100) (hk : k ≤ 5) : ev E0 54 [i64 x, i64 k] [] = some (i64 ((x ^ k : Nat) : Int), []) := by
  have h := power_loop_i x k hx hk k 0 (by omega)
  rw [Nat.pow_zero, c0, show ((1 : Nat) : Int) = 1 from rfl] at h
  rw [e54]
  unfold runF
  generalize ((x ^ k : Nat) : Int) = p at h
  simp -implicitDefEqProofs [L54, h]

theorem apart_loop_s (a b : ByteArray) (hl : a.size = b.size) (hs : a.size ≤ 1000) : ∀ (t u : List UInt8) (i d : Nat), (B a).drop i = t → (B b).drop i = u → d ≤ i → packX 0 [5] (loopW (bd E0 (ev E0) loopW 0 [0, 1, 5, 6] L59b0) ⟨[(0, st a), (1, st b), (5, i64 d), (6, i64 i)], []⟩) = some (.ext 0, ⟨[(5, i64 ((d + ap t u : Nat) : Int))], []⟩) := by
  intro t
  induction t with
  | nil =>
    intro u i d h1 h2 hd
    have hi := byte_end h1
    have hi2 : ¬ (i : Int) < (a.size : Int) := by omega
    have e : d + ap [] u = d := by cases u <;> rfl
    rw [e, loopW_eq]
    generalize loopW (bd E0 (ev E0) loopW 0 [0, 1, 5, 6] L59b0) = K
    simp -implicitDefEqProofs [bd, L59b0, hi, hi2]
  | cons x t ih =>
    intro u i d h1 h2 hd
    obtain ⟨hi, hx, ht⟩ := byte_at h1
    match u, h2 with
    | [], h2 => have := byte_end h2; omega
    | y :: u, h2 =>
      obtain ⟨hj, hy, hu⟩ := byte_at h2
      have hi2 : (i : Int) < (a.size : Int) := by omega
      have hj2 : (i : Int) < (b.size : Int) := by omega
      have hw : IntKind.i64.wrap ((i : Int) + 1) = (i : Int) + 1 := wr64 (by omega) (by omega)
      have hwd : IntKind.i64.wrap ((d : Int) + 1) = (d : Int) + 1 := wr64 (by omega) (by omega)
      rw [ap, loopW_eq]
      by_cases hxy : x = y
      · subst hxy
        have hih := ih u (i + 1) d ht hu (by omega)
        rw [cs1] at hih
        rw [if_pos rfl, Nat.zero_add]
        generalize ((d + ap t u : Nat) : Int) = R at hih ⊢
        generalize loopW (bd E0 (ev E0) loopW 0 [0, 1, 5, 6] L59b0) = K at hih ⊢
        simpa -implicitDefEqProofs [bd, L59b0, hi, hi2, hj, hj2, -List.getD_eq_getElem?_getD, hx, hy, hw] using hih
      · have hih := ih u (i + 1) (d + 1) ht hu (by omega)
        have hne : ¬ (x.toNat : Int) = (y.toNat : Int) := fun e => hxy (UInt8.toNat_inj.1 (by omega))
        have hne2 : ¬ x.toNat = y.toNat := fun e => hxy (UInt8.toNat_inj.1 e)
        rw [cs1] at hih
        rw [if_neg hxy, ← Nat.add_assoc]
        generalize ((d + 1 + ap t u : Nat) : Int) = R at hih ⊢
        generalize loopW (bd E0 (ev E0) loopW 0 [0, 1, 5, 6] L59b0) = K at hih ⊢
        simpa -implicitDefEqProofs [bd, L59b0, hi, hi2, hj, hj2, -List.getD_eq_getElem?_getD, hx, hy, hw, hwd, hne, hne2] using hih
theorem apart_s (a b : ByteArray) (hl : a.size = b.size) (hs : a.size ≤ 1000) : ev E0 59 [st a, st b] [] = some (i64 ((ap (B a) (B b) : Nat) : Int), []) := by
  have h := apart_loop_s a b hl hs (B a) (B b) 0 0 rfl rfl (Nat.le_refl _)
  rw [c0, Nat.zero_add] at h
  rw [e59]
  unfold runF
  generalize ((ap (B a) (B b) : Nat) : Int) = p at h
  simp -implicitDefEqProofs [L59, h]

theorem apart_loop_i (a b : ByteArray) (hl : a.size = b.size) (hs : a.size ≤ 1000) : ∀ (t u : List UInt8) (i d : Nat), (B a).drop i = t → (B b).drop i = u → d ≤ i → packX 0 [5] (loopW (bd E0 (ev E0) loopW 0 [0, 1, 5, 8, 9] L55b0) ⟨[(0, st a), (1, st b), (5, i64 d), (8, i64 a.size), (9, i64 i)], []⟩) = some (.ext 0, ⟨[(5, i64 ((d + ap t u : Nat) : Int))], []⟩) := by
  intro t
  induction t with
  | nil =>
    intro u i d h1 h2 hd
    have hi := byte_end h1
    have hi2 : ¬ (i : Int) < (a.size : Int) := by omega
    have e : d + ap [] u = d := by cases u <;> rfl
    rw [e, loopW_eq]
    generalize loopW (bd E0 (ev E0) loopW 0 [0, 1, 5, 8, 9] L55b0) = K
    simp -implicitDefEqProofs [bd, L55b0, hi, hi2]
  | cons x t ih =>
    intro u i d h1 h2 hd
    obtain ⟨hi, hx, ht⟩ := byte_at h1
    match u, h2 with
    | [], h2 => have := byte_end h2; omega
    | y :: u, h2 =>
      obtain ⟨hj, hy, hu⟩ := byte_at h2
      have hi2 : (i : Int) < (a.size : Int) := by omega
      have hj2 : (i : Int) < (b.size : Int) := by omega
      have hw : IntKind.i64.wrap ((i : Int) + 1) = (i : Int) + 1 := wr64 (by omega) (by omega)
      have hwd : IntKind.i64.wrap ((d : Int) + 1) = (d : Int) + 1 := wr64 (by omega) (by omega)
      rw [ap, loopW_eq]
      by_cases hxy : x = y
      · subst hxy
        have hih := ih u (i + 1) d ht hu (by omega)
        rw [cs1] at hih
        rw [if_pos rfl, Nat.zero_add]
        generalize ((d + ap t u : Nat) : Int) = R at hih ⊢
        generalize loopW (bd E0 (ev E0) loopW 0 [0, 1, 5, 8, 9] L55b0) = K at hih ⊢
        simpa -implicitDefEqProofs [bd, L55b0, hi, hi2, hj, hj2, -List.getD_eq_getElem?_getD, hx, hy, hw] using hih
      · have hih := ih u (i + 1) (d + 1) ht hu (by omega)
        have hne : ¬ (x.toNat : Int) = (y.toNat : Int) := fun e => hxy (UInt8.toNat_inj.1 (by omega))
        have hne2 : ¬ x.toNat = y.toNat := fun e => hxy (UInt8.toNat_inj.1 e)
        rw [cs1] at hih
        rw [if_neg hxy, ← Nat.add_assoc]
        generalize ((d + 1 + ap t u : Nat) : Int) = R at hih ⊢
        generalize loopW (bd E0 (ev E0) loopW 0 [0, 1, 5, 8, 9] L55b0) = K at hih ⊢
        simpa -implicitDefEqProofs [bd, L55b0, hi, hi2, hj, hj2, -List.getD_eq_getElem?_getD, hx, hy, hw, hwd, hne, hne2] using hih
theorem apart_i (a b : ByteArray) (hl : a.size = b.size) (hs : a.size ≤ 1000) : ev E0 55 [st a, st b] [] = some (i64 ((ap (B a) (B b) : Nat) : Int), []) := by
  have h := apart_loop_i a b hl hs (B a) (B b) 0 0 rfl rfl (Nat.le_refl _)
  rw [c0, Nat.zero_add] at h
  rw [e55]
  unfold runF
  generalize ((ap (B a) (B b) : Nat) : Int) = p at h
  simp -implicitDefEqProofs [L55, h]

theorem whole_s (n d : Nat) (hn : n ≤ d) (hd : d ≤ 100) (a b : ByteArray) (ha : a.size ≤ 5) : ev E0 34 [nzA n d, st a, st b] [] = some (i64 ((wh n d (B a) (B b) : Nat) : Int), []) := by
  rw [e34]
  unfold runF nzA
  by_cases hl : a.size = b.size
  · obtain ⟨z, hz⟩ : ∃ z, b.size = z := ⟨_, rfl⟩
    have h1 := apart_s a b hl (by omega)
    rw [hz] at hl
    have hap := ap_le (B a) (B b)
    rw [B_len, hl] at hap
    have hwh := wh_le n d hn (B a) (B b) (by rw [B_len]; exact ha)
    have hd5 := pow_b (i := 5) hd (by omega)
    have hcc : (B a).length = (B b).length := by rw [B_len, B_len, hl, hz]
    unfold wh at hwh ⊢
    rw [if_pos hcc, B_len, hl] at hwh
    rw [if_pos hcc, B_len, hl]
    rw [hl] at ha
    generalize ap (B a) (B b) = k at *
    have p1 := power_s n k (by omega) (by omega)
    have p2 := power_s (d - n) (z - k) (by omega) (by omega)
    have p3 := power_s d (5 - z) (by omega) (by omega)
    have e2 : ((d - n : Nat) : Int) = (d : Int) - (n : Int) := by omega
    have e3 : ((z - k : Nat) : Int) = (z : Int) - (k : Int) := by omega
    have e4 : ((5 - z : Nat) : Int) = 5 - (z : Int) := by omega
    rw [e2, e3] at p2
    rw [e4] at p3
    have w1 : IntKind.i64.wrap ((d : Int) - (n : Int)) = (d : Int) - (n : Int) := wr64 (by omega) (by omega)
    have w2 : IntKind.i64.wrap ((z : Int) - (k : Int)) = (z : Int) - (k : Int) := wr64 (by omega) (by omega)
    have w3 : IntKind.i64.wrap (5 - (z : Int)) = 5 - (z : Int) := wr64 (by omega) (by omega)
    have b1 : n ^ k * (d - n) ^ (z - k) ≤ 10000000000 := by
      have c1 : n ^ k ≤ d ^ k := Nat.pow_le_pow_left hn _
      have c2 : (d - n) ^ (z - k) ≤ d ^ (z - k) := Nat.pow_le_pow_left (by omega) _
      have c3 := Nat.mul_le_mul c1 c2
      rw [← Nat.pow_add, show k + (z - k) = z by omega] at c3
      have c4 := pow_b (x := d) (i := z) hd ha
      omega
    generalize hA : n ^ k = A at *
    generalize hB : (d - n) ^ (z - k) = Bv at *
    generalize hC : d ^ (5 - z) = C at *
    have m1 : (A : Int) * (Bv : Int) = ((A * Bv : Nat) : Int) := rfl
    have m2 : ((A * Bv : Nat) : Int) * (C : Int) = ((A * Bv * C : Nat) : Int) := rfl
    have w4 : IntKind.i64.wrap ((A : Int) * (Bv : Int)) = ((A * Bv : Nat) : Int) := by rw [m1]; exact wr64 (by omega) (by omega)
    have w5 : IntKind.i64.wrap (((A * Bv : Nat) : Int) * (C : Int)) = ((A * Bv * C : Nat) : Int) := by rw [m2]; exact wr64 (by omega) (by omega)
    generalize ((A * Bv * C : Nat) : Int) = q at *
    generalize ((A * Bv : Nat) : Int) = r at *
    simp -implicitDefEqProofs [L34, hl, hz, h1, p1, p2, p3, w1, w2, w3, w4, w5]
  · have hl2 : ¬ (a.size : Int) = (b.size : Int) := by omega
    unfold wh
    rw [B_len, B_len, if_neg hl]
    simp -implicitDefEqProofs [L34, hl, hl2]

theorem whole_i (n d : Nat) (hn : n ≤ d) (hd : d ≤ 100) (a b : ByteArray) (ha : a.size ≤ 5) : ev E0 28 [nzA n d, st a, st b] [] = some (i64 ((wh n d (B a) (B b) : Nat) : Int), []) := by
  rw [e28]
  unfold runF nzA
  by_cases hl : a.size = b.size
  · obtain ⟨z, hz⟩ : ∃ z, b.size = z := ⟨_, rfl⟩
    have h1 := apart_i a b hl (by omega)
    rw [hz] at hl
    have hap := ap_le (B a) (B b)
    rw [B_len, hl] at hap
    have hwh := wh_le n d hn (B a) (B b) (by rw [B_len]; exact ha)
    have hd5 := pow_b (i := 5) hd (by omega)
    have hcc : (B a).length = (B b).length := by rw [B_len, B_len, hl, hz]
    unfold wh at hwh ⊢
    rw [if_pos hcc, B_len, hl] at hwh
    rw [if_pos hcc, B_len, hl]
    rw [hl] at ha
    generalize ap (B a) (B b) = k at *
    have p1 := power_i n k (by omega) (by omega)
    have p2 := power_i (d - n) (z - k) (by omega) (by omega)
    have p3 := power_i d (5 - z) (by omega) (by omega)
    have e2 : ((d - n : Nat) : Int) = (d : Int) - (n : Int) := by omega
    have e3 : ((z - k : Nat) : Int) = (z : Int) - (k : Int) := by omega
    have e4 : ((5 - z : Nat) : Int) = 5 - (z : Int) := by omega
    rw [e2, e3] at p2
    rw [e4] at p3
    have w1 : IntKind.i64.wrap ((d : Int) - (n : Int)) = (d : Int) - (n : Int) := wr64 (by omega) (by omega)
    have w2 : IntKind.i64.wrap ((z : Int) - (k : Int)) = (z : Int) - (k : Int) := wr64 (by omega) (by omega)
    have w3 : IntKind.i64.wrap (5 - (z : Int)) = 5 - (z : Int) := wr64 (by omega) (by omega)
    have b1 : n ^ k * (d - n) ^ (z - k) ≤ 10000000000 := by
      have c1 : n ^ k ≤ d ^ k := Nat.pow_le_pow_left hn _
      have c2 : (d - n) ^ (z - k) ≤ d ^ (z - k) := Nat.pow_le_pow_left (by omega) _
      have c3 := Nat.mul_le_mul c1 c2
      rw [← Nat.pow_add, show k + (z - k) = z by omega] at c3
      have c4 := pow_b (x := d) (i := z) hd ha
      omega
    generalize hA : n ^ k = A at *
    generalize hB : (d - n) ^ (z - k) = Bv at *
    generalize hC : d ^ (5 - z) = C at *
    have m1 : (A : Int) * (Bv : Int) = ((A * Bv : Nat) : Int) := rfl
    have m2 : ((A * Bv : Nat) : Int) * (C : Int) = ((A * Bv * C : Nat) : Int) := rfl
    have w4 : IntKind.i64.wrap ((A : Int) * (Bv : Int)) = ((A * Bv : Nat) : Int) := by rw [m1]; exact wr64 (by omega) (by omega)
    have w5 : IntKind.i64.wrap (((A * Bv : Nat) : Int) * (C : Int)) = ((A * Bv * C : Nat) : Int) := by rw [m2]; exact wr64 (by omega) (by omega)
    generalize ((A * Bv * C : Nat) : Int) = q at *
    generalize ((A * Bv : Nat) : Int) = r at *
    simp -implicitDefEqProofs [L28, hl, hz, h1, p1, p2, p3, w1, w2, w3, w4, w5]
  · have hl2 : ¬ (a.size : Int) = (b.size : Int) := by omega
    unfold wh
    rw [B_len, B_len, if_neg hl]
    simp -implicitDefEqProofs [L28, hl, hl2]

theorem all_s (n : Int) (d : Nat) (hd : d ≤ 100) : ev E0 33 [nzA n d] [] = some (i64 ((d ^ 5 : Nat) : Int), []) := by
  have h := power_s d 5 hd (by omega)
  rw [show ((5 : Nat) : Int) = 5 from rfl] at h
  rw [e33]
  unfold runF nzA
  generalize ((d ^ 5 : Nat) : Int) = p at h
  simp -implicitDefEqProofs [L33, h]

theorem all_i (n : Int) (d : Nat) (hd : d ≤ 100) : ev E0 27 [nzA n d] [] = some (i64 ((d ^ 5 : Nat) : Int), []) := by
  have h := power_i d 5 hd (by omega)
  rw [show ((5 : Nat) : Int) = 5 from rfl] at h
  rw [e27]
  unfold runF nzA
  generalize ((d ^ 5 : Nat) : Int) = p at h
  simp -implicitDefEqProofs [L27, h]

-- ---------------------------------------------------------------- divisors and fractions
theorem div_loop : ∀ (k a b : Nat), b ≤ k → packX 0 [0] (loopW (bd E0 (ev E0) loopW 0 [0, 1] L56b0) ⟨[(0, i64 a), (1, i64 b)], []⟩) = some (.ext 0, ⟨[(0, i64 ((Nat.gcd b a : Nat) : Int))], []⟩) := by
  intro k
  induction k with
  | zero =>
    intro a b h
    obtain rfl : b = 0 := by omega
    rw [Nat.gcd_zero_left, loopW_eq]
    generalize loopW (bd E0 (ev E0) loopW 0 [0, 1] L56b0) = K
    simp -implicitDefEqProofs [bd, L56b0]
  | succ k ih =>
    intro a b h
    by_cases hb : b = 0
    · exact ih a b (by omega)
    · have hlt := Nat.mod_lt a (Nat.pos_of_ne_zero hb)
      have hih := ih b (a % b) (by omega)
      have hb2 : ¬ (b : Int) = 0 := by omega
      have ht := tmodN a b
      rw [Nat.gcd_rec, loopW_eq]
      generalize ((Nat.gcd (a % b) b : Nat) : Int) = g at hih ⊢
      generalize ((a % b : Nat) : Int) = r at ht hih
      generalize loopW (bd E0 (ev E0) loopW 0 [0, 1] L56b0) = K at hih ⊢
      simpa -implicitDefEqProofs [bd, L56b0, hb, hb2, ht] using hih
theorem divisor_i (a b : Nat) : ev E0 56 [i64 a, i64 b] [] = some (i64 ((Nat.gcd a b : Nat) : Int), []) := by
  have h := div_loop b a b (Nat.le_refl _)
  rw [Nat.gcd_comm] at h
  rw [e56]
  unfold runF
  generalize ((Nat.gcd a b : Nat) : Int) = g at h
  simp -implicitDefEqProofs [L56, h]
def pr (x : Nat × Nat) : AV := .agg [i64 ((x.1 : Nat) : Int), i64 ((x.2 : Nat) : Int)]
theorem fraction_i (a b : Nat) (hb : 0 < b) (ha : a ≤ 1000000000000000) (hb2 : b ≤ 1000000000000000) : ev E0 29 [i64 a, i64 b] [] = some (pr (cut a b), []) := by
  have h := divisor_i a b
  have hg := gcd_pos (a := a) hb
  have h1 := tdivN a (Nat.gcd a b)
  have h2 := tdivN b (Nat.gcd a b)
  have d1 : a / Nat.gcd a b ≤ a := Nat.div_le_self _ _
  have d2 : b / Nat.gcd a b ≤ b := Nat.div_le_self _ _
  have hg2 : ¬ ((Nat.gcd a b : Nat) : Int) = 0 := by omega
  have hg3 : ¬ Nat.gcd a b = 0 := by omega
  have w1 : IntKind.i64.wrap ((a / Nat.gcd a b : Nat) : Int) = ((a / Nat.gcd a b : Nat) : Int) := wrN (Nat.le_trans d1 ha)
  have w2 : IntKind.i64.wrap ((b / Nat.gcd a b : Nat) : Int) = ((b / Nat.gcd a b : Nat) : Int) := wrN (Nat.le_trans d2 hb2)
  rw [e29]
  unfold runF pr cut
  generalize ((a / Nat.gcd a b : Nat) : Int) = x at *
  generalize ((b / Nat.gcd a b : Nat) : Int) = y at *
  generalize ((Nat.gcd a b : Nat) : Int) = g at *
  simp -implicitDefEqProofs [L29, h, hg2, h1, h2, w1, w2]
theorem cut_loop (a b : Int) : ∀ (k x y : Nat), y ≤ k → packX 0 [0, 1, 4, 5] (loopW (bd E0 (ev E0) loopW 0 [0, 1, 4, 5, 6] L35b0) ⟨[(0, i64 a), (1, i64 b), (4, .ptr 0 0 0), (5, i64 x), (6, i64 y)], [some ⟨31, 2, 0, false, [.agg [i64 0, i64 0]]⟩]⟩) = some (.ext 0, ⟨[(0, i64 a), (1, i64 b), (4, .ptr 0 0 0), (5, i64 ((Nat.gcd y x : Nat) : Int))], [some ⟨31, 2, 0, false, [.agg [i64 0, i64 0]]⟩]⟩) := by
  intro k
  induction k with
  | zero =>
    intro x y h
    obtain rfl : y = 0 := by omega
    rw [Nat.gcd_zero_left, loopW_eq]
    generalize loopW (bd E0 (ev E0) loopW 0 [0, 1, 4, 5, 6] L35b0) = K
    simp -implicitDefEqProofs [bd, L35b0]
  | succ k ih =>
    intro x y h
    by_cases hb : y = 0
    · exact ih x y (by omega)
    · have hlt := Nat.mod_lt x (Nat.pos_of_ne_zero hb)
      have hih := ih y (x % y) (by omega)
      have hb2 : (0 : Int) < (y : Int) := by omega
      have hb3 : ¬ (y : Int) = 0 := by omega
      have hb4 : 0 < y := by omega
      have ht := tmodN x y
      rw [Nat.gcd_rec, loopW_eq]
      generalize ((Nat.gcd (x % y) y : Nat) : Int) = g at hih ⊢
      generalize ((x % y : Nat) : Int) = r at ht hih
      generalize loopW (bd E0 (ev E0) loopW 0 [0, 1, 4, 5, 6] L35b0) = K at hih ⊢
      simpa -implicitDefEqProofs [bd, L35b0, hb, hb2, hb3, hb4, ht] using hih
theorem most_z (a b : Int) : ev E0 50 [i64 a, i64 b] [] = some (i64 (if b < a then a else b), []) := by
  rw [e50]
  unfold runF
  by_cases h : b < a
  · simp -implicitDefEqProofs [L50, h]
  · simp -implicitDefEqProofs [L50, h]
theorem cut_s (a b : Nat) (hb : 0 < b) (ha : a ≤ 1000000000000000) (hb2 : b ≤ 1000000000000000) : ev E0 35 [i64 a, i64 b] [] = some (pr (cut a b), []) := by
  have h := cut_loop a b b a b (Nat.le_refl _)
  rw [Nat.gcd_comm] at h
  have hg := gcd_pos (a := a) hb
  have h1 := tdivN a (Nat.gcd a b)
  have h2 := tdivN b (Nat.gcd a b)
  have d1 : a / Nat.gcd a b ≤ a := Nat.div_le_self _ _
  have d2 : b / Nat.gcd a b ≤ b := Nat.div_le_self _ _
  have hg2 : ¬ ((Nat.gcd a b : Nat) : Int) = 0 := by omega
  have hg3 : ¬ Nat.gcd a b = 0 := by omega
  have w1 : IntKind.i64.wrap ((a / Nat.gcd a b : Nat) : Int) = ((a / Nat.gcd a b : Nat) : Int) := wrN (Nat.le_trans d1 ha)
  have w2 : IntKind.i64.wrap ((b / Nat.gcd a b : Nat) : Int) = ((b / Nat.gcd a b : Nat) : Int) := wrN (Nat.le_trans d2 hb2)
  have hmx := most_z ((Nat.gcd a b : Nat) : Int) 1
  have hmv : (if (1 : Int) < ((Nat.gcd a b : Nat) : Int) then ((Nat.gcd a b : Nat) : Int) else 1) = ((Nat.gcd a b : Nat) : Int) := by split <;> omega
  rw [hmv] at hmx
  rw [e35]
  unfold runF pr cut
  clear hmv
  generalize ((a / Nat.gcd a b : Nat) : Int) = x at *
  generalize ((b / Nat.gcd a b : Nat) : Int) = y at *
  generalize ((Nat.gcd a b : Nat) : Int) = g at *
  simp -implicitDefEqProofs [L35, h, hg2, h1, h2, w1, w2, hmx]
end Go.Proofs.YtgecnbafmlecjaaGreatDoor.Ev

namespace Go.Proofs.YtgecnbafmlecjaaGreatDoor.Ev
open Fr Nz
def inR (n : Nat) (k : Int) : Bool := decide (0 ≤ k) && decide (k ≤ (n : Int) - 1)
theorem inR_b {n : Nat} {k : Int} (h : inR n k = true) : ∃ j : Nat, k = j ∧ j < n := by
  unfold inR at h
  rw [Bool.and_eq_true, decide_eq_true_eq, decide_eq_true_eq] at h
  exact ⟨k.toNat, by omega, by omega⟩
theorem letter_inN (ms : List ByteArray) (hm : ms.length ≤ 1000) (k : Int) : ev E0 46 [.agg [.lst 1 (ms.map st)], i64 k] [] = some (bl (inR ms.length k), []) := by
  have hw : IntKind.i64.wrap ((ms.length : Int) - 1) = (ms.length : Int) - 1 := wr64 (by omega) (by omega)
  have h := in_i k 0 ((ms.length : Int) - 1)
  rw [e46]
  unfold runF inR
  simp -implicitDefEqProofs [L46, hw, h]
theorem noisy_loop (ms : List ByteArray) (hm : ms.length ≤ 1000) (a b : Int) (ls : List Int) (hl : ls.length ≤ 1000) : ∀ (t : List Int) (i : Nat), ls.drop i = t →
    (t.all (inR ms.length) = true → packX 0 [3, 4, 6] (loopW (bd E0 (ev E0) loopW 0 [3, 4, 9, 10, 11] L25b0) ⟨[(3, .ptr 0 0 0), (4, .ptr 1 0 0), (9, .lst 1 (ls.map i64)), (10, i64 ls.length), (11, i64 i)], [some ⟨26, 1, 0, false, [.agg [.lst 1 (ms.map st)]]⟩, some ⟨28, 2, 0, false, [.agg [i64 a, i64 b]]⟩]⟩) = some (.ext 0, ⟨[(3, .ptr 0 0 0), (4, .ptr 1 0 0)], [some ⟨26, 1, 0, false, [.agg [.lst 1 (ms.map st)]]⟩, some ⟨28, 2, 0, false, [.agg [i64 a, i64 b]]⟩]⟩)) ∧
    (t.all (inR ms.length) = false → packX 0 [3, 4, 6] (loopW (bd E0 (ev E0) loopW 0 [3, 4, 9, 10, 11] L25b0) ⟨[(3, .ptr 0 0 0), (4, .ptr 1 0 0), (9, .lst 1 (ls.map i64)), (10, i64 ls.length), (11, i64 i)], [some ⟨26, 1, 0, false, [.agg [.lst 1 (ms.map st)]]⟩, some ⟨28, 2, 0, false, [.agg [i64 a, i64 b]]⟩]⟩) = some (.ret, ⟨[(3, .ptr 0 0 0), (4, .ptr 1 0 0), (6, bl false)], [some ⟨26, 1, 0, false, [.agg [.lst 1 (ms.map st)]]⟩, some ⟨28, 2, 0, false, [.agg [i64 a, i64 b]]⟩]⟩)) := by
  intro t
  induction t with
  | nil =>
    intro i h
    have hi := not_drop h
    have hi2 : ¬ (i : Int) < (ls.length : Int) := by omega
    rw [loopW_eq]
    generalize loopW (bd E0 (ev E0) loopW 0 [3, 4, 9, 10, 11] L25b0) = K
    refine ⟨fun _ => ?_, fun h => (by simp at h)⟩
    simp -implicitDefEqProofs [bd, L25b0, hi, hi2]
  | cons c t ih =>
    intro i h
    obtain ⟨hi, hx, hd, hmem⟩ := at_drop h
    have hi2 : (i : Int) < (ls.length : Int) := by omega
    have hw : IntKind.i64.wrap ((i : Int) + 1) = (i : Int) + 1 := wr64 (by omega) (by omega)
    obtain ⟨ih1, ih2⟩ := ih (i + 1) hd
    have hj := letter_inN ms hm c
    rw [cs1] at ih1 ih2
    rw [loopW_eq, List.all_cons]
    generalize loopW (bd E0 (ev E0) loopW 0 [3, 4, 9, 10, 11] L25b0) = K at ih1 ih2 ⊢
    cases ho : inR ms.length c with
    | false =>
      rw [ho] at hj
      refine ⟨fun h => (by simp at h), fun _ => ?_⟩
      simp -implicitDefEqProofs [bd, L25b0, hi, hi2, hx, hj]
    | true =>
      rw [ho] at hj
      refine ⟨fun h => ?_, fun h => ?_⟩
      · simpa -implicitDefEqProofs [bd, L25b0, hi, hi2, hx, hj, hw] using ih1 (by simpa using h)
      · simpa -implicitDefEqProofs [bd, L25b0, hi, hi2, hx, hj, hw] using ih2 (by simpa using h)
def okNy (ms : List ByteArray) (a b : Int) : Bool := okTable ms && okNz a b
theorem noisy_i (ms : List ByteArray) (hm : ms.length ≤ 1000) (hs : ∀ x ∈ ms, x.size ≤ 1000) (a b : Int) (ls : List Int) (hl : ls.length ≤ 1000) : ev E0 25 [.agg [.lst 1 (ms.map st)], nzA a b, .lst 1 (ls.map i64)] [] = some (bl (ls.all (inR ms.length) && okNy ms a b), []) := by
  have ht := table_i ms (by omega) (fun x hx => by have := hs x hx; omega)
  have hn := noise_i a b
  obtain ⟨k1, k2⟩ := noisy_loop ms hm a b ls hl ls 0 rfl
  rw [c0] at k1 k2
  rw [e25]
  unfold runF okNy
  unfold nzA at hn ⊢
  cases hc : ls.all (inR ms.length) with
  | false => simp -implicitDefEqProofs [L25, k2 hc]
  | true =>
    cases ho : okTable ms with
    | false => rw [ho] at ht; simp -implicitDefEqProofs [L25, k1 hc, ht]
    | true => rw [ho] at ht; simp -implicitDefEqProofs [L25, k1 hc, ht, hn]
theorem noisy_none (ms : List ByteArray) (hm : ms.length ≤ 1000) (hs : ∀ x ∈ ms, x.size ≤ 1000) (a b : Int) : ev E0 25 [.agg [.lst 1 (ms.map st)], nzA a b, .v (.slice none 0 0)] [] = some (bl (okNy ms a b), []) := by
  have ht := table_i ms (by omega) (fun x hx => by have := hs x hx; omega)
  have hn := noise_i a b
  rw [e25]
  unfold runF okNy
  unfold nzA at hn ⊢
  cases ho : okTable ms with
  | false => rw [ho] at ht; simp -implicitDefEqProofs [L25, loopW_eq, bd, L25b0, ht]
  | true => rw [ho] at ht; simp -implicitDefEqProofs [L25, loopW_eq, bd, L25b0, ht, hn]
theorem chk_marksN : ∀ (t seen : List ByteArray), chk seen t = true → ∀ m ∈ t, okMarks m 1 5 = true
  | [], seen, h, m, hm => by cases hm
  | x :: t, seen, h, m, hm => by
    unfold chk at h
    simp only [Bool.and_eq_true] at h
    rcases List.mem_cons.1 hm with e | e
    · subst e; simp_all
    · exact chk_marksN t _ h.2.2 m e
theorem chk_nodup : ∀ (t seen : List ByteArray), chk seen t = true → t.Nodup ∧ ∀ m ∈ t, m ∉ seen
  | [], seen, h => ⟨List.nodup_nil, fun m hm => by cases hm⟩
  | x :: t, seen, h => by
    unfold chk at h
    simp only [Bool.and_eq_true, Bool.not_eq_true', decide_eq_false_iff_not] at h
    obtain ⟨h1, h2, h3⟩ := h
    obtain ⟨k1, k2⟩ := chk_nodup t _ h3
    have hx : x ∉ seen := by
      rcases place_nat x seen 0 with ⟨_, h⟩ | ⟨h, _⟩
      · exact h
      · exact absurd h h2
    refine ⟨List.nodup_cons.2 ⟨fun hm => k2 x hm (by simp), k1⟩, fun m hm => ?_⟩
    rcases List.mem_cons.1 hm with e | e
    · subst e; exact hx
    · exact fun hs => k2 m e (by simp [hs])
theorem okTable_b {ms : List ByteArray} (h : okTable ms = true) : 1 ≤ ms.length ∧ ms.length ≤ 10 ∧ (∀ m ∈ ms, okMarks m 1 5 = true) := by
  unfold okTable at h
  rw [Bool.and_eq_true, Bool.and_eq_true, decide_eq_true_eq, decide_eq_true_eq] at h
  exact ⟨by omega, by omega, chk_marksN ms [] h.2⟩
theorem okTable_nodup {ms : List ByteArray} (h : okTable ms = true) : ms.Nodup := by
  unfold okTable at h
  rw [Bool.and_eq_true] at h
  exact (chk_nodup ms [] h.2).1
theorem okMarks_b {m : ByteArray} (h : okMarks m 1 5 = true) : 1 ≤ m.size ∧ m.size ≤ 5 ∧ ∀ y ∈ B m, y = 46 ∨ y = 45 := by
  unfold okMarks at h
  rw [Bool.and_eq_true, Bool.and_eq_true, decide_eq_true_eq, decide_eq_true_eq] at h
  refine ⟨by omega, by omega, fun y hy => ?_⟩
  have := List.all_eq_true.1 h.1 y hy
  unfold okM at this
  simpa using this
/-- The chances of all letters out of one. -/
def rowF (n d : Nat) (s : ByteArray) (m : ByteArray) : Nat × Nat := cut (wh n d (B s) (B m)) (d ^ 5)
theorem wh_big {n d : Nat} (hn : n ≤ d) (hd : d ≤ 100) (s m : ByteArray) (hs : s.size ≤ 5) : wh n d (B s) (B m) ≤ 10000000000 := by
  have h1 := wh_le n d hn (B s) (B m) (by rw [B_len]; exact hs)
  have h2 := pow_b (i := 5) hd (by omega)
  omega

end Go.Proofs.YtgecnbafmlecjaaGreatDoor.Ev

namespace Go.Proofs.YtgecnbafmlecjaaGreatDoor.Ev
open Fr Nz
def pb (l : List (Nat × Nat)) : Blk := ⟨31, 2, 1, false, l.map pr⟩
def jth (ms : List ByteArray) (k : Int) : ByteArray := ms.getD k.toNat ⟨#[]⟩
theorem jth_get {ms : List ByteArray} {j : Nat} (h : j < ms.length) : ms[j] = jth ms j := by unfold jth; simp [h]
theorem jth_ok {ms : List ByteArray} (h : okTable ms = true) {j : Nat} (hj : j < ms.length) : okMarks (jth ms j) 1 5 = true := (okTable_b h).2.2 _ (by rw [← jth_get hj]; exact List.getElem_mem hj)
def nz1 (a : Int) : Nat := a.toNat
theorem mapBn {ms : List ByteArray} (h : okTable ms = true) : (ms.map B).Nodup ∧ ∀ m ∈ ms.map B, ∀ y ∈ m, y = 46 ∨ y = 45 := by
  refine ⟨?_, fun m hm y hy => ?_⟩
  · have h1 := okTable_nodup h
    clear h
    induction ms with
    | nil => exact List.nodup_nil
    | cons x t ih =>
      rw [List.nodup_cons] at h1
      rw [List.map_cons, List.nodup_cons]
      refine ⟨fun hm => ?_, ih h1.2⟩
      obtain ⟨y, hy, e⟩ := List.mem_map.1 hm
      exact h1.1 (by rw [← (ByteArray.ext (Array.ext' e) : y = x)]; exact hy)
  · obtain ⟨x, hx, rfl⟩ := List.mem_map.1 hm
    exact (okMarks_b ((okTable_b h).2.2 x hx)).2.2 y hy
/-- The parts that are left. -/
theorem rest_le {ms : List ByteArray} (h : okTable ms = true) {n d : Nat} (hn : n ≤ d) (s : ByteArray) (hs : okMarks s 1 5 = true) : sumW (wh n d (B s)) (ms.map B) ≤ d ^ 5 := by
  obtain ⟨h1, h2⟩ := mapBn h
  obtain ⟨k1, k2, k3⟩ := okMarks_b hs
  exact wh_sum n d hn (B s) k3 (by rw [B_len]; exact k2) _ h1 h2

theorem read_one (n d : Nat) (hn : n ≤ d) (hd : d ≤ 100) (hd0 : 1 ≤ d) (s m : ByteArray) (hs : s.size ≤ 5) : 0 < d ^ 5 ∧ d ^ 5 ≤ 1000000000000000 ∧ wh n d (B s) (B m) ≤ 1000000000000000 := by
  have h1 := pow_b (i := 5) hd (by omega)
  have h2 := wh_big hn hd s m hs
  exact ⟨Nat.pow_pos (by omega), by omega, by omega⟩

theorem chanceRead_i (ms : List ByteArray) (hm : ms.length ≤ 100) (hs : ∀ x ∈ ms, x.size ≤ 1000) (a b k q : Int) : ev E0 20 [.agg [.lst 1 (ms.map st)], nzA a b, i64 k, i64 q] [] = some (if (okNy ms a b && (inR ms.length k && inR ms.length q)) = true then .tup [pr (rowF (nz1 a) (nz1 b) (jth ms k) (jth ms q)), bl true] else .tup [.agg [i64 0, i64 0], bl false], []) := by
  have hc := noisy_i ms (by omega) hs a b [k, q] (by simp)
  rw [show [k, q].map i64 = [i64 k, i64 q] from rfl, show ([k, q].all (inR ms.length) && okNy ms a b) = (okNy ms a b && (inR ms.length k && inR ms.length q)) by simp [Bool.and_comm, Bool.and_left_comm]] at hc
  rw [e20]
  unfold runF
  cases ho : (okNy ms a b && (inR ms.length k && inR ms.length q)) with
  | false =>

    rw [ho] at hc
    unfold nzA at hc ⊢
    simp -implicitDefEqProofs [L20, hc]
  | true =>
    have hy : okNy ms a b = true := by rw [Bool.and_eq_true] at ho; exact ho.1
    have hk : inR ms.length k = true := by rw [Bool.and_eq_true, Bool.and_eq_true] at ho; exact ho.2.1
    have hq : inR ms.length q = true := by rw [Bool.and_eq_true, Bool.and_eq_true] at ho; exact ho.2.2
    rw [ho] at hc
    unfold okNy at hy
    rw [Bool.and_eq_true] at hy
    obtain ⟨n, d, rfl, rfl, d1, d2, d3⟩ := okNz_b hy.2
    obtain ⟨j, rfl, hj⟩ := inR_b hk
    obtain ⟨i, rfl, hi⟩ := inR_b hq
    obtain ⟨m1, m2, m3⟩ := okMarks_b (jth_ok hy.1 hj)
    have f1 := whole_i n d d3 d2 (jth ms j) (jth ms i) m2
    have f2 := all_i (n : Int) d d2
    obtain ⟨p1, p2, p3⟩ := read_one n d d3 d2 d1 (jth ms j) (jth ms i) m2
    have f3 := fraction_i (wh n d (B (jth ms j)) (B (jth ms i))) (d ^ 5) p1 p3 p2
    change _ = some (pr (rowF n d (jth ms j) (jth ms i)), []) at f3
    have hj2 : (j : Int) < (ms.length : Int) := by omega
    have hi2 : (i : Int) < (ms.length : Int) := by omega
    have gj : ∀ h, ms[j]'h = jth ms j := fun h => jth_get h
    have gi : ∀ h, ms[i]'h = jth ms i := fun h => jth_get h
    have e1 : nz1 (n : Int) = n := Int.toNat_natCast n
    have e2 : nz1 (d : Int) = d := Int.toNat_natCast d
    rw [if_pos rfl, e1, e2]
    unfold nzA at hc f1 f2 ⊢
    unfold pr at f3 ⊢
    clear p1 p2 p3
    generalize rowF n d (jth ms j) (jth ms i) = C at *
    generalize ((wh n d (B (jth ms j)) (B (jth ms i)) : Nat) : Int) = wv at *
    generalize ((d ^ 5 : Nat) : Int) = d5 at *
    generalize jth ms j = sj at *
    generalize jth ms i = si at *
    simp -implicitDefEqProofs [L20, hc, hj, hi, hj2, hi2, gj, gi, f1, f2, f3]

theorem marksOf_n (ms : List ByteArray) (hm : ms.length ≤ 100) (hs : ∀ x ∈ ms, x.size ≤ 1000) (k : Int) : ev E0 19 [.agg [.lst 1 (ms.map st)], i64 k] [] = some (if (okTable ms && inR ms.length k) = true then .tup [st (jth ms k), bl true] else .tup [st ⟨#[]⟩, bl false], []) := by
  have h1 := table_i ms (by omega) (fun x hx => by have := hs x hx; omega)
  have h2 := letter_inN ms (by omega) k
  rw [e19]
  unfold runF
  cases o1 : okTable ms with
  | false => rw [o1] at h1; simp -implicitDefEqProofs [L19, h1]
  | true =>
    rw [o1] at h1
    cases o2 : inR ms.length k with
    | false => rw [o2] at h2; simp -implicitDefEqProofs [L19, h1, h2]
    | true =>
      rw [o2] at h2
      obtain ⟨j, rfl, hj⟩ := inR_b o2
      have hj2 : (j : Int) < (ms.length : Int) := by omega
      have gj : ∀ h, ms[j]'h = jth ms j := fun h => jth_get h
      rw [Bool.and_self, if_pos rfl]
      generalize jth ms j = sj at *
      simp -implicitDefEqProofs [L19, h1, h2, hj, hj2, gj]
end Go.Proofs.YtgecnbafmlecjaaGreatDoor.Ev

namespace Go.Proofs.YtgecnbafmlecjaaGreatDoor.Ev
open Fr Nz
def snt (n d : Nat) (c m : ByteArray) : Nat := wh n d (B m) (B c)
def sumS (n d : Nat) (c : ByteArray) : List ByteArray → Nat
  | [] => 0
  | m :: t => snt n d c m + sumS n d c t
def sentF (n d : Nat) (c : ByteArray) (S : Nat) (m : ByteArray) : Nat × Nat := cut (snt n d c m) S
theorem snt_b {n d : Nat} (hn : n ≤ d) (hd : d ≤ 100) (c m : ByteArray) (hm : m.size ≤ 5) : snt n d c m ≤ 10000000000 := wh_big hn hd m c hm
theorem sumS_b {n d : Nat} (hn : n ≤ d) (hd : d ≤ 100) (c : ByteArray) : ∀ (t : List ByteArray), (∀ m ∈ t, m.size ≤ 5) → sumS n d c t ≤ 10000000000 * t.length
  | [], _ => by simp [sumS]
  | m :: t, h => by
    have h1 := snt_b hn hd c m (h m (by simp))
    have h2 := sumS_b hn hd c t fun x hx => h x (by simp [hx])
    rw [sumS, List.length_cons]
    omega
theorem snt_le {n d : Nat} (c : ByteArray) : ∀ (t : List ByteArray) (m : ByteArray), m ∈ t → snt n d c m ≤ sumS n d c t
  | x :: t, m, h => by
    rw [sumS]
    rcases List.mem_cons.1 h with e | e
    · subst e; omega
    · have := snt_le (n := n) (d := d) c t m e; omega
def oks (ms : List ByteArray) (a b : Int) (c : ByteArray) : Bool := okNy ms a b && okMarks c 1 5
def sumO (ms : List ByteArray) (a b : Int) (c : ByteArray) : Nat := sumS (nz1 a) (nz1 b) c ms
def ints (l : List Nat) : List AV := l.map fun x => i64 ((x : Nat) : Int)
theorem ints_len (l : List Nat) : (ints l).length = l.length := by simp [ints]
theorem ints_at {l : List Nat} {i x : Nat} (hi : i < l.length) (h : l[i] = x) : ∀ h, (ints l)[i]'h = i64 ((x : Nat) : Int) := fun h2 => by
  have h3 : (ints l)[i]? = some (i64 ((x : Nat) : Int)) := by unfold ints; rw [List.getElem?_map, List.getElem?_eq_getElem hi, h]; rfl
  exact (List.getElem?_eq_some_iff.1 h3).2
end Go.Proofs.YtgecnbafmlecjaaGreatDoor.Ev

namespace Go.Proofs.YtgecnbafmlecjaaGreatDoor.Ev
open Fr Nz
def bs (ps : List Nat) : List Nat → Nat → Nat → Nat
  | [], _, b => b
  | p :: r, i, b => bs ps r (i + 1) (if ps.getD b 0 < p then i else b)
theorem bs_lt (ps : List Nat) : ∀ (t : List Nat) (i b : Nat), ps.drop i = t → b < ps.length → bs ps t i b < ps.length
  | [], i, b, _, h => h
  | p :: t, i, b, hd, h => by
    obtain ⟨hi, hx, hdr, _⟩ := at_drop hd
    rw [bs]
    refine bs_lt ps t (i + 1) _ hdr ?_
    split
    · exact hi
    · exact h
/-- The first greatest one. -/
theorem bs_best (ps : List Nat) : ∀ (t : List Nat) (i b : Nat), ps.drop i = t → (b < i ∨ b = 0) → (∀ j, j < i → ps.getD j 0 ≤ ps.getD b 0) → (∀ j, j < b → ps.getD j 0 < ps.getD b 0) →
    (∀ j, j < ps.length → ps.getD j 0 ≤ ps.getD (bs ps t i b) 0) ∧ (∀ j, j < bs ps t i b → ps.getD j 0 < ps.getD (bs ps t i b) 0)
  | [], i, b, hd, _, h1, h2 => by
    have := not_drop hd
    exact ⟨fun j hj => h1 j (by omega), h2⟩
  | p :: t, i, b, hd, hb, h1, h2 => by
    obtain ⟨hi, hx, hdr, _⟩ := at_drop hd
    have hp : ps.getD i 0 = p := by rw [List.getD_eq_getElem?_getD, List.getElem?_eq_getElem hi, hx]; rfl
    rw [bs]
    by_cases h : ps.getD b 0 < p
    · rw [if_pos h]
      refine bs_best ps t (i + 1) i hdr (.inl (by omega)) (fun j hj => ?_) (fun j hj => ?_)
      · by_cases e : j = i
        · subst e; exact Nat.le_refl _
        · have := h1 j (by omega); omega
      · have := h1 j hj; omega
    · rw [if_neg h]
      refine bs_best ps t (i + 1) b hdr (by omega) (fun j hj => ?_) h2
      by_cases e : j = i
      · subst e; omega
      · exact h1 j (by omega)
def bsO (ps : List Nat) : Nat := bs ps ps 0 0
theorem bsO_ok (ps : List Nat) (h : 0 < ps.length) : bsO ps < ps.length ∧ (∀ j, j < ps.length → ps.getD j 0 ≤ ps.getD (bsO ps) 0) ∧ (∀ j, j < bsO ps → ps.getD j 0 < ps.getD (bsO ps) 0) :=
  ⟨bs_lt ps ps 0 0 rfl h, bs_best ps ps 0 0 rfl (.inr rfl) (fun j hj => by omega) (fun j hj => by omega)⟩
theorem bsO_one (ps : List Nat) : bs ps (ps.drop 1) 1 0 = bsO ps := by
  unfold bsO
  cases ps with
  | nil => rfl
  | cons p r =>
    rw [List.drop_succ_cons, List.drop_zero]
    conv => rhs; rw [bs]
    simp
def gueO (ms : List ByteArray) (a b : Int) (c : ByteArray) : Nat := bsO (ms.map (snt (nz1 a) (nz1 b) c))
theorem bs_zero (ps : List Nat) (h : ∀ p ∈ ps, p = 0) : ∀ (t : List Nat) (i : Nat), (∀ p ∈ t, p = 0) → bs ps t i 0 = 0
  | [], i, _ => rfl
  | p :: t, i, ht => by
    rw [bs, ht p (by simp), if_neg (by omega)]
    exact bs_zero ps h t (i + 1) fun q hq => ht q (by simp [hq])
def xy (x : AV) : Blk := ⟨31, 2, 0, false, [x]⟩

theorem plus_loop0 (x1 x2 y1 y2 : Int) : ∀ (k x y : Nat), y ≤ k → packX 0 [2, 3, 4, 5] (loopW (bd E0 (ev E0) loopW 0 [2, 3, 4, 5, 6] L21b0) ⟨[(2, .ptr 0 0 0), (3, .ptr 1 0 0), (4, .ptr 2 0 0), (5, i64 x), (6, i64 y)], [some ⟨31, 2, 0, false, [.agg [i64 x1, i64 x2]]⟩, some ⟨31, 2, 0, false, [.agg [i64 y1, i64 y2]]⟩, some ⟨31, 2, 0, false, [.agg [i64 0, i64 0]]⟩]⟩) = some (.ext 0, ⟨[(2, .ptr 0 0 0), (3, .ptr 1 0 0), (4, .ptr 2 0 0), (5, i64 ((Nat.gcd y x : Nat) : Int))], [some ⟨31, 2, 0, false, [.agg [i64 x1, i64 x2]]⟩, some ⟨31, 2, 0, false, [.agg [i64 y1, i64 y2]]⟩, some ⟨31, 2, 0, false, [.agg [i64 0, i64 0]]⟩]⟩) := by
  intro k
  induction k with
  | zero =>
    intro x y h
    obtain rfl : y = 0 := by omega
    rw [Nat.gcd_zero_left, loopW_eq]
    generalize loopW (bd E0 (ev E0) loopW 0 [2, 3, 4, 5, 6] L21b0) = K
    simp -implicitDefEqProofs [bd, L21b0]
  | succ k ih =>
    intro x y h
    by_cases hb : y = 0
    · exact ih x y (by omega)
    · have hlt := Nat.mod_lt x (Nat.pos_of_ne_zero hb)
      have hih := ih y (x % y) (by omega)
      have hb2 : (0 : Int) < (y : Int) := by omega
      have hb3 : ¬ (y : Int) = 0 := by omega
      have hb4 : 0 < y := by omega
      have ht := tmodN x y
      rw [Nat.gcd_rec, loopW_eq]
      generalize ((Nat.gcd (x % y) y : Nat) : Int) = g at hih ⊢
      generalize ((x % y : Nat) : Int) = r at ht hih
      generalize loopW (bd E0 (ev E0) loopW 0 [2, 3, 4, 5, 6] L21b0) = K at hih ⊢
      simpa -implicitDefEqProofs [bd, L21b0, hb, hb2, hb3, hb4, ht] using hih

theorem plus_loop1 (p q : Int) : ∀ (k x y : Nat), y ≤ k → packX 0 [4, 5, 7, 8] (loopW (bd E0 (ev E0) loopW 0 [4, 5, 6, 7, 8] L21b1) ⟨[(4, .ptr 0 0 0), (5, i64 x), (6, i64 y), (7, i64 p), (8, i64 q)], [some ⟨31, 2, 0, false, [.agg [i64 0, i64 0]]⟩]⟩) = some (.ext 2, ⟨[(4, .ptr 0 0 0), (5, i64 ((Nat.gcd y x : Nat) : Int)), (7, i64 p), (8, i64 q)], [some ⟨31, 2, 0, false, [.agg [i64 0, i64 0]]⟩]⟩) := by
  intro k
  induction k with
  | zero =>
    intro x y h
    obtain rfl : y = 0 := by omega
    rw [Nat.gcd_zero_left, loopW_eq]
    generalize loopW (bd E0 (ev E0) loopW 0 [4, 5, 6, 7, 8] L21b1) = K
    simp -implicitDefEqProofs [bd, L21b1]
  | succ k ih =>
    intro x y h
    by_cases hb : y = 0
    · exact ih x y (by omega)
    · have hlt := Nat.mod_lt x (Nat.pos_of_ne_zero hb)
      have hih := ih y (x % y) (by omega)
      have hb2 : (0 : Int) < (y : Int) := by omega
      have hb3 : ¬ (y : Int) = 0 := by omega
      have hb4 : 0 < y := by omega
      have ht := tmodN x y
      rw [Nat.gcd_rec, loopW_eq]
      generalize ((Nat.gcd (x % y) y : Nat) : Int) = g at hih ⊢
      generalize ((x % y : Nat) : Int) = r at ht hih
      generalize loopW (bd E0 (ev E0) loopW 0 [4, 5, 6, 7, 8] L21b1) = K at hih ⊢
      simpa -implicitDefEqProofs [bd, L21b1, hb, hb2, hb3, hb4, ht] using hih

set_option maxHeartbeats 4000000 in
theorem vplus (a b n : Nat) (hn : 0 < n) (hnb : n ≤ 100000000000) (ha : a ≤ n) (hb : b ≤ n) : ev E0 21 [pr (cut a n), pr (cut b n)] [] = some (pr (cut (a + b) n), []) := by
  have hpc := plus_cut a b n hn
  have hbd := plus_b a b n hn ha hb
  have pa := cut_pos a n hn
  have pb' := cut_pos b n hn
  rw [← hpc]
  clear hpc
  generalize cut a n = x at *
  generalize cut b n = y at *
  obtain ⟨x1, x2⟩ := x
  obtain ⟨y1, y2⟩ := y
  simp only at hbd pa pb'
  obtain ⟨q1, q2, q3, q4, q5, q6, q7⟩ := hbd
  have l0 := plus_loop0 x1 x2 y1 y2 y2 x2 y2 (Nat.le_refl _)
  rw [Nat.gcd_comm] at l0
  have hg := gcd_pos (a := x2) pb'
  have d1 := tdivN y2 (Nat.gcd x2 y2)
  have d2 := tdivN x2 (Nat.gcd x2 y2)
  have hpos : 0 < x2 / Nat.gcd x2 y2 * y2 := Nat.mul_pos (Nat.div_pos (Nat.le_of_dvd pa (Nat.gcd_dvd_left _ _)) hg) pb'
  have e1 : y2 / Nat.gcd x2 y2 ≤ y2 := Nat.div_le_self _ _
  have e2 : x2 / Nat.gcd x2 y2 ≤ x2 := Nat.div_le_self _ _
  unfold plus pr cut
  simp only
  generalize Nat.gcd x2 y2 = g at *
  generalize y2 / g = v at *
  generalize x2 / g = u at *
  have w1 : IntKind.i64.wrap (v : Int) = v := wrN (by omega)
  have w2 : IntKind.i64.wrap (u : Int) = u := wrN (by omega)
  have m1 : (x1 : Int) * (v : Int) = ((x1 * v : Nat) : Int) := rfl
  have m2 : (y1 : Int) * (u : Int) = ((y1 * u : Nat) : Int) := rfl
  have m3 : (u : Int) * (y2 : Int) = ((u * y2 : Nat) : Int) := rfl
  have w3 : IntKind.i64.wrap ((x1 : Int) * (v : Int)) = ((x1 * v : Nat) : Int) := by rw [m1]; exact wrN (by omega)
  have w4 : IntKind.i64.wrap ((y1 : Int) * (u : Int)) = ((y1 * u : Nat) : Int) := by rw [m2]; exact wrN (by omega)
  have w5 : IntKind.i64.wrap ((u : Int) * (y2 : Int)) = ((u * y2 : Nat) : Int) := by rw [m3]; exact wrN (by omega)
  generalize x1 * v = t1 at *
  generalize y1 * u = t2 at *
  generalize u * y2 = bt at *
  have w6 : IntKind.i64.wrap ((t1 : Int) + (t2 : Int)) = ((t1 + t2 : Nat) : Int) := by
    rw [show (t1 : Int) + (t2 : Int) = ((t1 + t2 : Nat) : Int) from rfl]
    exact wrN (by omega)
  have hg0 : ¬ (g : Int) = 0 := by omega
  have hg1 : ¬ g = 0 := by omega
  obtain ⟨tp, htp⟩ : ∃ tp, t1 + t2 = tp := ⟨_, rfl⟩
  rw [htp] at w6 ⊢
  have l1 := plus_loop1 (tp : Int) (bt : Int) bt tp bt (Nat.le_refl _)
  rw [Nat.gcd_comm] at l1
  have hg2 := gcd_pos (a := tp) hpos
  have f1 : tp / Nat.gcd tp bt ≤ tp := Nat.div_le_self _ _
  have f2 : bt / Nat.gcd tp bt ≤ bt := Nat.div_le_self _ _
  have d3 := tdivN tp (Nat.gcd tp bt)
  have d4 := tdivN bt (Nat.gcd tp bt)
  have w7 : IntKind.i64.wrap ((tp / Nat.gcd tp bt : Nat) : Int) = ((tp / Nat.gcd tp bt : Nat) : Int) := wrN (by omega)
  have w8 : IntKind.i64.wrap ((bt / Nat.gcd tp bt : Nat) : Int) = ((bt / Nat.gcd tp bt : Nat) : Int) := wrN (by omega)
  have hg3 : ¬ ((Nat.gcd tp bt : Nat) : Int) = 0 := by omega
  have hg4 : ¬ Nat.gcd tp bt = 0 := by omega
  rw [e21]
  unfold runF
  generalize ((tp / Nat.gcd tp bt : Nat) : Int) = o1 at *
  generalize ((bt / Nat.gcd tp bt : Nat) : Int) = o2 at *
  generalize ((Nat.gcd tp bt : Nat) : Int) = g2 at *
  simp (maxSteps := 1000000) -implicitDefEqProofs [L21, l0, l1, d1, d2, d3, d4, w1, w2, w3, w4, w5, w6, w7, w8, hg0, hg1, hg3, hg4]
theorem vpairs_loop (l : List (Nat × Nat)) (hl : l.length ≤ 1000) : ∀ (t : List (Nat × Nat)) (i : Nat), l.drop i = t →
    packX 0 [4] (loopW (bd E0 (ev E0) loopW 0 [0, 1, 5] L18b0) ⟨[(0, .lst 2 (l.map pr)), (1, .lst 2 (l.map pr)), (5, i64 i)], []⟩) = some (.ext 0, ⟨[], []⟩) := by
  intro t
  induction t with
  | nil =>
    intro i h
    have hi := not_drop h
    have hi2 : ¬ (i : Int) < (l.length : Int) := by omega
    rw [loopW_eq]
    generalize loopW (bd E0 (ev E0) loopW 0 [0, 1, 5] L18b0) = K
    simp -implicitDefEqProofs [bd, L18b0, hi, hi2]
  | cons x t ih =>
    intro i h
    obtain ⟨hi, hx, hd, hmem⟩ := at_drop h
    have hih := ih (i + 1) hd
    have hi2 : (i : Int) < (l.length : Int) := by omega
    have hw : IntKind.i64.wrap ((i : Int) + 1) = (i : Int) + 1 := wr64 (by omega) (by omega)
    have g1 : ∀ h, pr (l[i]'h) = .agg [i64 ((x.1 : Nat) : Int), i64 ((x.2 : Nat) : Int)] := fun h => by rw [hx]; rfl
    rw [cs1] at hih
    rw [loopW_eq]
    generalize loopW (bd E0 (ev E0) loopW 0 [0, 1, 5] L18b0) = K at hih ⊢
    simpa -implicitDefEqProofs [bd, L18b0, hi, hi2, g1, hw] using hih
theorem vpairs (l : List (Nat × Nat)) (hl : l.length ≤ 1000) : ev E0 18 [.lst 2 (l.map pr), .lst 2 (l.map pr)] [] = some (bl true, []) := by
  have h := vpairs_loop l hl l 0 rfl
  rw [c0] at h
  rw [e18]
  unfold runF
  generalize l.map pr = A at *
  simp -implicitDefEqProofs [L18, h]
end Go.Proofs.YtgecnbafmlecjaaGreatDoor.Ev

