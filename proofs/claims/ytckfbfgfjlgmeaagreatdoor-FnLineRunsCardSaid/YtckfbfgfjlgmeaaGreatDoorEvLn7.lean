/- Lines: joined and delayed by the program. -/
import Derived.Test.YtckfbfgfjlgmeaaGreatDoorEvLn6
set_option linter.unusedVariables false
set_option linter.unusedSimpArgs false
namespace Go.Proofs.YtckfbfgfjlgmeaaGreatDoor.Ev
theorem bytes_u8s : ∀ l : List UInt8, bytesOf (u8s l) = some l
  | [] => rfl
  | b :: l => by
    show (bytesOf (u8s l)).bind _ = _
    rw [bytes_u8s l]
    simp
theorem u8s_snoc (l : List UInt8) (c : UInt8) : u8s (l ++ [c]) = u8s l ++ [.v (.int .u8 (c.toNat : Int))] := by unfold u8s; rw [List.map_append]; rfl
theorem u8s_n (l : List UInt8) : (u8s l).length = l.length := by unfold u8s; rw [List.length_map]
theorem jnI_loop (a b : ByteArray) (ha : a.size ≤ 10000) (hb : b.size ≤ 10000) : ∀ (k i : Nat), i + k = mx a b →
    packX 0 [6] (loopW (bd E0 (ev E0) loopW 0 [0, 1, 6, 21, 22] L18b0) ⟨[(0, st a), (1, st b), (6, .sl 0 0 i), (21, i64 (mx a b : Nat)), (22, i64 i)], [some ⟨5, 1, 1, false, u8s (jL a b i)⟩]⟩) = some (.ext 0, ⟨[(6, .sl 0 0 (mx a b))], [some ⟨5, 1, 1, false, u8s (jL a b (mx a b))⟩]⟩) := by
  have hmx : mx a b ≤ 10000 := by unfold mx; split <;> omega
  intro k
  induction k with
  | zero =>
    intro i h
    have h : i = mx a b := by omega
    rw [← h]
    have hi : ¬ (i : Int) < (i : Int) := by omega
    have hn := u8s_n (jL a b i)
    rw [jL_len] at hn
    have hf := free_u8s (jL a b i)
    rw [loopW_eq]
    generalize u8s (jL a b i) = R at *
    generalize loopW (bd E0 (ev E0) loopW 0 [0, 1, 6, 21, 22] L18b0) = K
    simp -implicitDefEqProofs [bd, L18b0, hi, hn, hf]
  | succ k ih =>
    intro i h
    have hi : (i : Int) < ((mx a b : Nat) : Int) := by omega
    have hi2 : i < mx a b := by omega
    have hih := ih (i + 1) (by omega)
    have h1 := on_i a (by omega) i
    have h2 := on_i b (by omega) i
    have hw : IntKind.i64.wrap ((i : Int) + 1) = (i : Int) + 1 := wr64 (by omega) (by omega)
    have hn := u8s_n (jL a b i)
    rw [jL_len] at hn
    have hf := free_u8s (jL a b i)
    have l1 : i + 1 ≤ 140737488355328 := by omega
    have ht : List.take i (u8s (jL a b i)) = u8s (jL a b i) := List.take_of_length_le (by omega)
    rw [jL_succ, u8s_snoc, cs1] at hih
    have hj : jb a b i = if (onB a i || onB b i) = true then 49 else 48 := rfl
    rw [loopW_eq]
    clear ih
    generalize mx a b = M at *
    generalize u8s (jL a b M) = T at *
    generalize u8s (jL a b i) = Q at *
    generalize onB a i = p at *
    generalize onB b i = q at *
    generalize jb a b i = c at *
    cases p <;> cases q
    · obtain rfl : c = 48 := hj
      generalize loopW (bd E0 (ev E0) loopW 0 [0, 1, 6, 21, 22] L18b0) = K at hih ⊢
      simpa -implicitDefEqProofs [bd, L18b0, hi, hi2, h1, h2, hw, hn, hf, l1, ht] using hih
    all_goals
      obtain rfl : c = 49 := hj
      generalize loopW (bd E0 (ev E0) loopW 0 [0, 1, 6, 21, 22] L18b0) = K at hih ⊢
      simpa -implicitDefEqProofs [bd, L18b0, hi, hi2, h1, h2, hw, hn, hf, l1, ht] using hih
theorem jo_i (a b : ByteArray) (ha : a.size ≤ 10000) (hb : b.size ≤ 10000) : ev E0 18 [st a, st b] [] = some (.tup [st (joV a b), bl (okLine a && okLine b)], []) := by
  have h1 := isLine_i a (by omega)
  have h2 := isLine_i b (by omega)
  have h3 := jnI_loop a b ha hb (mx a b) 0 (by omega)
  have hmx : mx a b ≤ 10000 := by unfold mx; split <;> omega
  have hmq : (if (a.size : Int) < (b.size : Int) then (b.size : Int) else (a.size : Int)) = ((mx a b : Nat) : Int) := by unfold mx; split <;> split <;> omega
  have hmq2 : (if a.size < b.size then (b.size : Int) else (a.size : Int)) = ((mx a b : Nat) : Int) := by unfold mx; split <;> split <;> omega
  rw [show u8s (jL a b 0) = [] from rfl, c0] at h3
  have hb2 := bytes_u8s (jL a b (mx a b))
  have hn := u8s_n (jL a b (mx a b))
  rw [jL_len] at hn
  have ht : List.take (mx a b) (u8s (jL a b (mx a b))) = u8s (jL a b (mx a b)) := List.take_of_length_le (by omega)
  have hl : mx a b ≤ 140737488355328 := by omega
  unfold joV mkB
  rw [e18]
  unfold runF
  generalize u8s (jL a b (mx a b)) = U at *
  generalize jL a b (mx a b) = T at *
  generalize mx a b = M at *
  cases ho : okLine a <;> cases hp : okLine b <;> rw [ho] at h1 <;> rw [hp] at h2 <;> simp -implicitDefEqProofs [L18, h1, h2, h3, hmq, hmq2, hb2, hn, ht, hl, b2sR, b2sL]
/-- A line delayed. -/
def dlV (l : ByteArray) (n : Nat) : ByteArray := mkB (List.replicate n 48) ++ l
theorem delay_i (l : ByteArray) (hl : l.size ≤ 10000) (n : Nat) (hn : n ≤ 10000) : (okLine l = true ∧ n + l.size ≤ 200 → ev E0 28 [st l, i64 n] [] = some (.tup [st (dlV l n), bl true], [])) ∧
    (¬ (okLine l = true ∧ n + l.size ≤ 200) → ev E0 28 [st l, i64 n] [] = some (.tup [st ⟨#[]⟩, bl false], [])) := by
  have h1 := isLine_i l (by omega)
  have hw : IntKind.i64.wrap (200 - (l.size : Int)) = 200 - (l.size : Int) := wr64 (by omega) (by omega)
  have h2 := in_i n 0 (200 - (l.size : Int))
  have h3 := repeat_i 48 n (by omega)
  have hz : (mkB (List.replicate n 48)).size = n := by rw [mkB_size, List.length_replicate]
  have hsz : (mkB (List.replicate n 48)).size + l.size ≤ 9223372036854775807 := by omega
  have hb : (decide (0 ≤ (n : Int)) && decide ((n : Int) ≤ 200 - (l.size : Int))) = decide (n + l.size ≤ 200) := by
    rw [decide_eq_true (by omega : (0 : Int) ≤ (n : Int)), Bool.true_and]
    exact decide_eq_decide.2 (by omega)
  rw [hb] at h2
  unfold dlV
  rw [e28]
  unfold runF
  clear hb hz
  generalize mkB (List.replicate n 48) = R at *
  refine ⟨fun ⟨q1, q2⟩ => ?_, fun h => ?_⟩
  · rw [q1] at h1
    rw [decide_eq_true q2] at h2
    simp -implicitDefEqProofs [L28, h1, h2, h3, hw, hsz]
  · cases ho : okLine l with
    | false =>
      rw [ho] at h1
      simp -implicitDefEqProofs [L28, h1]
    | true =>
      rw [ho] at h1
      rw [decide_eq_false (fun q2 => h ⟨ho, q2⟩)] at h2
      simp -implicitDefEqProofs [L28, h1, h2, hw]
end Go.Proofs.YtckfbfgfjlgmeaaGreatDoor.Ev
