/- Small facts on texts and lists that the pure proofs share; of no program. -/
import Derived.WalkKit
import Derived.Lib.Bytealg
import Derived.Test.YtoehcdjndnmmlaaDoorWWords
set_option linter.unusedVariables false
namespace Go.Proofs.YtoehcdjndnmmlaaDoor.U
open Go.RowKit Go.Proofs.YtoehcdjndnmmlaaDoorW.PrintWords
/-- A text's bytes. -/
def B (s : ByteArray) : List UInt8 := s.data.toList
theorem B_len (s : ByteArray) : (B s).length = s.size := rfl
theorem B_mk (l : List UInt8) : B ⟨l.toArray⟩ = l := by unfold B; simp
theorem B_lit (a : Array UInt8) : B ⟨a⟩ = a.toList := rfl
theorem B_one (c : UInt8) : B ⟨#[c]⟩ = [c] := rfl
theorem B_nil : B ⟨#[]⟩ = [] := rfl
theorem size_one (c : UInt8) : (⟨#[c]⟩ : ByteArray).size = 1 := rfl
theorem B_inj {s t : ByteArray} (h : B s = B t) : s = t := by
  cases s; cases t; unfold B at h; simp only at h; simp [Array.toList_inj.1 h]
theorem B_append (s t : ByteArray) : B (s ++ t) = B s ++ B t := by unfold B; simp
theorem size_list (l : List UInt8) : (⟨l.toArray⟩ : ByteArray).size = l.length := by simp [ByteArray.size]
theorem toList_B (s : ByteArray) : s.toList = B s := by
  unfold B
  have go : ∀ (d i : Nat) (r : List UInt8), s.size - i = d → ByteArray.toList.loop s i r = r.reverse ++ s.data.toList.drop i := by
    intro d
    induction d with
    | zero =>
      intro i r h
      unfold ByteArray.toList.loop
      have h' : ¬ i < s.size := by omega
      rw [if_neg h', List.drop_eq_nil_of_le (by rw [Array.length_toList]; exact Nat.not_lt.1 h')]
      simp
    | succ d ih =>
      intro i r h
      unfold ByteArray.toList.loop
      have h' : i < s.size := by omega
      have h2 : i < s.data.toList.length := h'
      rw [if_pos h', ih (i + 1) _ (by omega), List.drop_eq_getElem_cons h2]
      have e : s.get! i = s.data.toList[i] := by
        simp only [ByteArray.get!, Array.getElem_toList]
        exact getElem!_pos s.data i h'
      simp [e]
  unfold ByteArray.toList
  rw [go _ 0 [] rfl]
  simp
/-- One step of a scan: what stands at a place, and what is behind it. -/
theorem scan_nil {s : ByteArray} {n : Nat} (h : (B s).drop n = []) : ¬ ((n : Int) < (s.size : Int)) := by
  have := List.drop_eq_nil_iff.1 h
  rw [B_len] at this
  omega
theorem scan_cons {s : ByteArray} {n : Nat} {c : UInt8} {t : List UInt8} (h : (B s).drop n = c :: t) : n < s.size ∧ bt s (n : Int) = (c.toNat : Int) ∧ (B s).drop (n + 1) = t := by
  have hn : n < (B s).length := by
    apply Nat.lt_of_not_le
    intro hle
    rw [List.drop_eq_nil_of_le hle] at h
    cases h
  rw [List.drop_eq_getElem_cons hn] at h
  injection h with h1 h2
  have hn2 : n < s.size := by rw [B_len] at hn; exact hn
  have hn' : (n : Int).toNat < s.size := by rw [Int.toNat_natCast]; exact hn2
  refine ⟨hn2, ?_, h2⟩
  unfold bt
  rw [dif_pos hn']
  have e : s[(n : Int).toNat]'hn' = c := by
    rw [← h1]
    exact getElem_congr_idx (c := s) (i := (n : Int).toNat) (j := n) (w := hn') (by simp)
  rw [e]
theorem wrap_id {x : Int} (h : -9223372036854775808 ≤ x ∧ x ≤ 9223372036854775807) : wrap64 x = x := by
  unfold wrap64
  omega
theorem wrap_succ {n m : Nat} (h : n < m) (hm : m ≤ 9223372036854775807) : wrap64 ((n : Int) + 1) = ((n + 1 : Nat) : Int) := by
  rw [wrap_id (by omega)]
  omega
theorem pred_of_lt {d k : Nat} (h : d < k) : ∃ m, k = m + 1 := ⟨k - 1, by omega⟩
theorem toUInt8_cast (c : UInt8) : ((c.toNat : Int)).toNat.toUInt8 = c := by simp
theorem byte_eq {c d : UInt8} : ((c.toNat : Int) = (d.toNat : Int)) ↔ c = d := by
  constructor
  · intro h
    exact UInt8.toNat_inj.1 (by omega)
  · intro h
    rw [h]
theorem idx_neg (l : List UInt8) (c : UInt8) : (0 ≤ Lib.indexByte l c) ↔ c ∈ l := by
  induction l with
  | nil => simp [Lib.indexByte]
  | cons b l ih =>
    unfold Lib.indexByte
    by_cases h : b = c
    · subst h; simp
    · have hge := Lib.indexByte_ge l c
      rw [if_neg (by simpa using h)]
      by_cases h2 : Lib.indexByte l c = -1
      · rw [if_pos (by simpa using h2)]
        have h3 : c ∉ l := fun hm => by have := ih.2 hm; omega
        simp [h3, Ne.symm h]
      · rw [if_neg (by simpa using h2)]
        have h3 : c ∈ l := ih.1 (by omega)
        constructor
        · intro _; exact List.mem_cons_of_mem _ h3
        · intro _; omega
end Go.Proofs.YtoehcdjndnmmlaaDoor.U
