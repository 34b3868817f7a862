/- Lines of logs: sealed texts, encodings of records; a line decoded. -/
import Derived.Test.YtpoifmkgdfjhbaaDoorEvLogR
set_option linter.unusedVariables false
set_option linter.unusedSimpArgs false
namespace Go.Proofs.YtpoifmkgdfjhbaaDoor.Ev.Lg
theorem seal_s (s : ByteArray) (hs : s.size ≤ 1048576) : ev E0 30 [st s] [] = some (st (mk (seal_ (B s))), []) := by
  rw [e30]
  unfold runF
  have h1 := sum_s s (by omega)
  have hlt := sum_lt (B s) 7 (by decide)
  have h2 := num_s (sum (B s) 7) (sum (B s) 7) (Nat.le_refl _) (by omega)
  have hl := dec_len20 (u := sum (B s) 7) (by omega)
  have hB : B (mk (Lib.decDigits (sum (B s) 7))) = Lib.itoa ((sum (B s) 7 : Nat) : Int) := by rw [B_mk', itoa_nat]
  have hsz : (mk (Lib.decDigits (sum (B s) 7))).size ≤ 19 := by rw [mk_size]; exact hl
  generalize mk (Lib.decDigits (sum (B s) 7)) = N at *
  have hse := sealed s N hB
  have h35 : (⟨#[35]⟩ : ByteArray).size = 1 := rfl
  have b1 : s.size + (⟨#[35]⟩ : ByteArray).size ≤ 9223372036854775807 := by omega
  have b2 : s.size + (⟨#[35]⟩ : ByteArray).size + N.size ≤ 9223372036854775807 := by omega
  simp -implicitDefEqProofs [L30, h1, h2, b1, b2, hse]
theorem contains_i (s : ByteArray) (c : UInt8) : ev E0 28 [st s, st ⟨#[c]⟩] [] = some (bl (decide (c ∈ B s)), []) := by
  have h := idx_neg (B s) c
  have h2 : decide (0 ≤ Lib.indexByte (B s) c) = decide (c ∈ B s) := decide_eq_decide.2 h
  rw [e28, ← h2]
  rfl
theorem append_i (s : ByteArray) (hs : s.size ≤ 1048576) : ev E0 12 [st s] [] = some (if 35 ∈ B s then .tup [st ⟨#[]⟩, bl false] else if (seal_ (B s)).length ≤ 4000 then .tup [st (mk (seal_ (B s))), bl true] else .tup [st ⟨#[]⟩, bl false], []) := by
  rw [e12]
  unfold runF
  have h1 := sum_i s (by omega)
  have hlt := sum_lt (B s) 7 (by decide)
  have h2 := itoa_i (sum (B s) 7) (by omega)
  have hl := itoa_len (n := ((sum (B s) 7 : Nat) : Int)) (by omega)
  have hB : B (mk (Lib.itoa ((sum (B s) 7 : Nat) : Int))) = Lib.itoa ((sum (B s) 7 : Nat) : Int) := B_mk' _
  have hsz : (mk (Lib.itoa ((sum (B s) 7 : Nat) : Int))).size ≤ 20 := by rw [mk_size]; exact hl
  generalize mk (Lib.itoa ((sum (B s) 7 : Nat) : Int)) = N at *
  have hse := sealed s N hB
  have h35 : (⟨#[35]⟩ : ByteArray).size = 1 := rfl
  have b1 : s.size + (⟨#[35]⟩ : ByteArray).size ≤ 9223372036854775807 := by omega
  have b2 : s.size + (⟨#[35]⟩ : ByteArray).size + N.size ≤ 9223372036854775807 := by omega
  have hc := contains_i s 35
  have hms : (mk (seal_ (B s))).size = (seal_ (B s)).length := mk_size _
  generalize mk (seal_ (B s)) = T at *
  by_cases h : (35 : UInt8) ∈ B s
  · rw [decide_eq_true h] at hc
    rw [if_pos h]
    simp -implicitDefEqProofs [L12, h1, h2, b1, b2, hse, hc]
  · rw [decide_eq_false h] at hc
    rw [if_neg h]
    by_cases h3 : (seal_ (B s)).length ≤ 4000
    · have h4 : ¬ 4000 < T.size := by omega
      have h5 : ¬ (4000 : Int) < (T.size : Int) := by omega
      rw [if_pos h3]
      simp -implicitDefEqProofs [L12, h1, h2, b1, b2, hse, hc, h4, h5]
    · have h4 : 4000 < T.size := by omega
      have h5 : (4000 : Int) < (T.size : Int) := by omega
      rw [if_neg h3]
      simp -implicitDefEqProofs [L12, h1, h2, b1, b2, hse, hc, h4, h5]
theorem partsB_cons (b : UInt8) (s : ByteArray) : ∃ r, partsB b s = mk (upto b (B s)) :: r := parts0 b (B s)
end Go.Proofs.YtpoifmkgdfjhbaaDoor.Ev.Lg
