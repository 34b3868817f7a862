/- Lines: clashes, least delays, joined lines. -/
import Derived.Test.YtckfbfgfjlgmeaaGreatDoorEvLn5
set_option linter.unusedVariables false
set_option linter.unusedSimpArgs false
namespace Go.Proofs.YtckfbfgfjlgmeaaGreatDoor.Ev
theorem clashOf_s (a b : ByteArray) (ha : a.size ≤ 100000) (hb : b.size ≤ 100000) : ev E0 21 [st a, st b] [] = some (.tup [i64 (if (okLine a && okLine b) = true then (cl a b 0 : Int) else 0), bl (okLine a && okLine b)], []) := by
  have h1 := isLine_s a (by omega)
  have h2 := isLine_s b (by omega)
  have h3 := clash_s a b ha hb 0 (by omega)
  rw [c0] at h3
  rw [e21]
  unfold runF
  generalize cl a b 0 = T at *
  cases ho : okLine a <;> cases hp : okLine b <;> rw [ho] at h1 <;> rw [hp] at h2 <;> simp -implicitDefEqProofs [L21, h1, h2, h3]
theorem clashOf_i (a b : ByteArray) (ha : a.size ≤ 100000) (hb : b.size ≤ 100000) : ev E0 20 [st a, st b] [] = some (.tup [i64 (if (okLine a && okLine b) = true then (cl a b 0 : Int) else 0), bl (okLine a && okLine b)], []) := by
  have h1 := isLine_i a (by omega)
  have h2 := isLine_i b (by omega)
  have h3 := clash_i a b ha hb 0 (by omega)
  rw [c0] at h3
  rw [e20]
  unfold runF
  generalize cl a b 0 = T at *
  cases ho : okLine a <;> cases hp : okLine b <;> rw [ho] at h1 <;> rw [hp] at h2 <;> simp -implicitDefEqProofs [L20, h1, h2, h3]
-- ---------------------------------------------------------------- the least delay
def lst (f : Nat → Nat) : Nat → Nat → Nat
  | n, 0 => n
  | n, k + 1 => if 0 < f n then lst f (n + 1) k else n
theorem cl_end (a b : ByteArray) (n : Nat) (h : a.size ≤ n) : cl a b n = 0 := by
  unfold cl
  exact S_zero _ fun j _ => by unfold fS; rw [on_big a _ (by omega), Bool.and_false]
theorem ldS_loop (a b : ByteArray) (ha : a.size ≤ 10000) (hb : b.size ≤ 10000) : ∀ (k n : Nat), n + k = a.size →
    packX 0 [6] (loopW (bd E0 (ev E0) loopW 0 [0, 1, 6] L23b0) ⟨[(0, st a), (1, st b), (6, i64 n)], []⟩) = some (.ext 0, ⟨[(6, i64 (lst (cl a b) n k : Nat))], []⟩) := by
  intro k
  induction k with
  | zero =>
    intro n h
    have hc := clash_s a b (by omega) (by omega) n (by omega)
    rw [cl_end a b n (by omega)] at hc
    rw [lst, loopW_eq]
    generalize loopW (bd E0 (ev E0) loopW 0 [0, 1, 6] L23b0) = K
    simp -implicitDefEqProofs [bd, L23b0, hc]
  | succ k ih =>
    intro n h
    have hc := clash_s a b (by omega) (by omega) n (by omega)
    have hih := ih (n + 1) (by omega)
    rw [cs1] at hih
    have hw : IntKind.i64.wrap ((n : Int) + 1) = (n : Int) + 1 := wr64 (by omega) (by omega)
    rw [lst, loopW_eq]
    clear ih
    by_cases h0 : 0 < cl a b n
    · rw [if_pos h0]
      have h1 : (0 : Int) < (cl a b n : Int) := by omega
      generalize lst (cl a b) (n + 1) k = T at *
      generalize cl a b n = c at *
      generalize loopW (bd E0 (ev E0) loopW 0 [0, 1, 6] L23b0) = K at hih ⊢
      simpa -implicitDefEqProofs [bd, L23b0, hc, h0, h1, hw] using hih
    · rw [if_neg h0]
      have h1 : ¬ (0 : Int) < (cl a b n : Int) := by omega
      generalize cl a b n = c at *
      generalize loopW (bd E0 (ev E0) loopW 0 [0, 1, 6] L23b0) = K
      simp -implicitDefEqProofs [bd, L23b0, hc, h0, h1]
theorem ldI_loop (a b : ByteArray) (ha : a.size ≤ 10000) (hb : b.size ≤ 10000) : ∀ (k n : Nat), n + k = a.size →
    packX 0 [6] (loopW (bd E0 (ev E0) loopW 0 [0, 1, 6] L22b0) ⟨[(0, st a), (1, st b), (6, i64 n)], []⟩) = some (.ext 0, ⟨[(6, i64 (lst (cl a b) n k : Nat))], []⟩) := by
  intro k
  induction k with
  | zero =>
    intro n h
    have hc := clash_i a b (by omega) (by omega) n (by omega)
    rw [cl_end a b n (by omega)] at hc
    rw [lst, loopW_eq]
    generalize loopW (bd E0 (ev E0) loopW 0 [0, 1, 6] L22b0) = K
    simp -implicitDefEqProofs [bd, L22b0, hc]
  | succ k ih =>
    intro n h
    have hc := clash_i a b (by omega) (by omega) n (by omega)
    have hih := ih (n + 1) (by omega)
    rw [cs1] at hih
    have hw : IntKind.i64.wrap ((n : Int) + 1) = (n : Int) + 1 := wr64 (by omega) (by omega)
    rw [lst, loopW_eq]
    clear ih
    by_cases h0 : 0 < cl a b n
    · rw [if_pos h0]
      have h1 : (0 : Int) < (cl a b n : Int) := by omega
      generalize lst (cl a b) (n + 1) k = T at *
      generalize cl a b n = c at *
      generalize loopW (bd E0 (ev E0) loopW 0 [0, 1, 6] L22b0) = K at hih ⊢
      simpa -implicitDefEqProofs [bd, L22b0, hc, h0, h1, hw] using hih
    · rw [if_neg h0]
      have h1 : ¬ (0 : Int) < (cl a b n : Int) := by omega
      generalize cl a b n = c at *
      generalize loopW (bd E0 (ev E0) loopW 0 [0, 1, 6] L22b0) = K
      simp -implicitDefEqProofs [bd, L22b0, hc, h0, h1]
def ld (a b : ByteArray) : Nat := lst (cl a b) 0 a.size
theorem least_s (a b : ByteArray) (ha : a.size ≤ 10000) (hb : b.size ≤ 10000) : ev E0 23 [st a, st b] [] = some (.tup [i64 (if (okLine a && okLine b) = true then (ld a b : Int) else 0), bl (okLine a && okLine b)], []) := by
  have h1 := isLine_s a (by omega)
  have h2 := isLine_s b (by omega)
  have h3 := ldS_loop a b ha hb a.size 0 (by omega)
  rw [c0] at h3
  unfold ld
  rw [e23]
  unfold runF
  generalize lst (cl a b) 0 a.size = T at *
  cases ho : okLine a <;> cases hp : okLine b <;> rw [ho] at h1 <;> rw [hp] at h2 <;> simp -implicitDefEqProofs [L23, h1, h2, h3]
theorem least_i (a b : ByteArray) (ha : a.size ≤ 10000) (hb : b.size ≤ 10000) : ev E0 22 [st a, st b] [] = some (.tup [i64 (if (okLine a && okLine b) = true then (ld a b : Int) else 0), bl (okLine a && okLine b)], []) := by
  have h1 := isLine_i a (by omega)
  have h2 := isLine_i b (by omega)
  have h3 := ldI_loop a b ha hb a.size 0 (by omega)
  rw [c0] at h3
  unfold ld
  rw [e22]
  unfold runF
  generalize lst (cl a b) 0 a.size = T at *
  cases ho : okLine a <;> cases hp : okLine b <;> rw [ho] at h1 <;> rw [hp] at h2 <;> simp -implicitDefEqProofs [L22, h1, h2, h3]
theorem lst_le (f : Nat → Nat) : ∀ (k n : Nat), n ≤ lst f n k ∧ lst f n k ≤ n + k ∧ (f (n + k) = 0 → f (lst f n k) = 0)
  | 0, n => by rw [lst]; exact ⟨Nat.le_refl _, Nat.le_refl _, fun h => h⟩
  | k + 1, n => by
    obtain ⟨h1, h2, h3⟩ := lst_le f k (n + 1)
    rw [lst]
    split
    · exact ⟨by omega, by omega, fun h => h3 (by rw [← h]; congr 1; omega)⟩
    · exact ⟨Nat.le_refl _, by omega, fun _ => by omega⟩
theorem ld_facts (a b : ByteArray) : ld a b ≤ a.size ∧ cl a b (ld a b) = 0 ∧ (ld a b = 0 ↔ cl a b 0 = 0) := by
  obtain ⟨h1, h2, h3⟩ := lst_le (cl a b) a.size 0
  rw [Nat.zero_add] at h2 h3
  have h4 := h3 (cl_end a b a.size (Nat.le_refl _))
  refine ⟨h2, h4, fun h => ?_, fun h => ?_⟩
  · unfold ld at h; rw [h] at h4; exact h4
  · unfold ld
    cases a.size with
    | zero => rfl
    | succ k => rw [lst, if_neg (by omega)]
-- ---------------------------------------------------------------- joined lines
def jb (a b : ByteArray) (j : Nat) : UInt8 := if (onB a j || onB b j) = true then 49 else 48
def jL (a b : ByteArray) (m : Nat) : List UInt8 := (List.range m).map (jb a b)
theorem jL_succ (a b : ByteArray) (m : Nat) : jL a b (m + 1) = jL a b m ++ [jb a b m] := by unfold jL; rw [List.range_succ, List.map_append]; rfl
theorem jL_len (a b : ByteArray) (m : Nat) : (jL a b m).length = m := by unfold jL; rw [List.length_map, List.length_range]
def mx (a b : ByteArray) : Nat := if b.size < a.size then a.size else b.size
theorem most_s (a b : Int) : ev E0 89 [i64 a, i64 b] [] = some (i64 (if b < a then a else b), []) := by
  rw [e89]
  unfold runF
  by_cases h : b < a <;> simp -implicitDefEqProofs [L89, h]
theorem most_mx (a b : ByteArray) : ev E0 89 [i64 a.size, i64 b.size] [] = some (i64 (mx a b : Nat), []) := by
  rw [most_s]
  unfold mx
  by_cases h : b.size < a.size
  · rw [if_pos h, if_pos (by omega)]
  · rw [if_neg h, if_neg (by omega)]
theorem jnS_loop (a b : ByteArray) (ha : a.size ≤ 10000) (hb : b.size ≤ 10000) : ∀ (k i : Nat), i + k = mx a b →
    packX 0 [6] (loopW (bd E0 (ev E0) loopW 0 [0, 1, 6, 7] L19b0) ⟨[(0, st a), (1, st b), (6, st (mkB (jL a b i))), (7, i64 i)], []⟩) = some (.ext 0, ⟨[(6, st (mkB (jL a b (mx a b))))], []⟩) := by
  have hmx : mx a b ≤ 10000 := by unfold mx; split <;> omega
  have hmost := most_mx a b
  intro k
  induction k with
  | zero =>
    intro i h
    have h : i = mx a b := by omega
    have hi : ¬ (i : Int) < ((mx a b : Nat) : Int) := by omega
    have hi2 : ¬ i < mx a b := by omega
    rw [← h] at hmost ⊢
    have hi : ¬ (i : Int) < (i : Int) := by omega
    rw [loopW_eq]
    generalize mkB (jL a b i) = R at *
    generalize loopW (bd E0 (ev E0) loopW 0 [0, 1, 6, 7] L19b0) = K
    simp -implicitDefEqProofs [bd, L19b0, hi, hmost]
  | succ k ih =>
    intro i h
    have hi : (i : Int) < ((mx a b : Nat) : Int) := by omega
    have hi2 : i < mx a b := by omega
    have hih := ih (i + 1) (by omega)
    have h1 := on_s a (by omega) i
    have h2 := on_s b (by omega) i
    have hw : IntKind.i64.wrap ((i : Int) + 1) = (i : Int) + 1 := wr64 (by omega) (by omega)
    have hz : (mkB (jL a b i)).size = i := by rw [mkB_size, jL_len]
    have z1 : (mkB (jL a b i)).size + (⟨#[49]⟩ : ByteArray).size ≤ 9223372036854775807 := by rw [hz, show (⟨#[49]⟩ : ByteArray).size = 1 from rfl]; omega
    have z0 : (mkB (jL a b i)).size + (⟨#[48]⟩ : ByteArray).size ≤ 9223372036854775807 := by rw [hz, show (⟨#[48]⟩ : ByteArray).size = 1 from rfl]; omega
    have z2 : (mkB (jL a b i)).size + 1 ≤ 9223372036854775807 := by omega
    have s1 : (⟨#[49]⟩ : ByteArray).size = 1 := rfl
    have s0 : (⟨#[48]⟩ : ByteArray).size = 1 := rfl
    have e : mkB (jL a b (i + 1)) = mkB (jL a b i) ++ mkB [jb a b i] := by
      apply B_inj
      rw [B_append, B_mkB, B_mkB, B_mkB, jL_succ]
    rw [e, cs1] at hih
    have hj : jb a b i = if (onB a i || onB b i) = true then 49 else 48 := rfl
    rw [loopW_eq]
    clear ih e hz
    generalize jL a b (mx a b) = T at *
    generalize mkB (jL a b i) = s at *
    generalize onB a i = p at *
    generalize onB b i = q at *
    generalize jb a b i = c at *
    cases p <;> cases q
    · obtain rfl : c = 48 := hj
      rw [show mkB [48] = (⟨#[48]⟩ : ByteArray) from rfl] at hih
      generalize loopW (bd E0 (ev E0) loopW 0 [0, 1, 6, 7] L19b0) = K at hih ⊢
      simpa -implicitDefEqProofs [bd, L19b0, hi, hi2, hmost, h1, h2, hw, z0, z1, z2, s0, s1] using hih
    all_goals
      obtain rfl : c = 49 := hj
      rw [show mkB [49] = (⟨#[49]⟩ : ByteArray) from rfl] at hih
      generalize loopW (bd E0 (ev E0) loopW 0 [0, 1, 6, 7] L19b0) = K at hih ⊢
      simpa -implicitDefEqProofs [bd, L19b0, hi, hi2, hmost, h1, h2, hw, z0, z1, z2, s0, s1] using hih
def joV (a b : ByteArray) : ByteArray := if (okLine a && okLine b) = true then mkB (jL a b (mx a b)) else ⟨#[]⟩
theorem jo_s (a b : ByteArray) (ha : a.size ≤ 10000) (hb : b.size ≤ 10000) : ev E0 19 [st a, st b] [] = some (.tup [st (joV a b), bl (okLine a && okLine b)], []) := by
  have h1 := isLine_s a (by omega)
  have h2 := isLine_s b (by omega)
  have h3 := jnS_loop a b ha hb (mx a b) 0 (by omega)
  rw [show mkB (jL a b 0) = ⟨#[]⟩ from rfl, c0] at h3
  unfold joV
  rw [e19]
  unfold runF
  generalize mkB (jL a b (mx a b)) = T at *
  cases ho : okLine a <;> cases hp : okLine b <;> rw [ho] at h1 <;> rw [hp] at h2 <;> simp -implicitDefEqProofs [L19, h1, h2, h3]
end Go.Proofs.YtckfbfgfjlgmeaaGreatDoor.Ev
