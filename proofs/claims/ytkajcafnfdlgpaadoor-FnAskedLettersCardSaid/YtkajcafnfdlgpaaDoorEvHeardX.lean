/- A letter heard until it is told: what both functions answer, told in full; bounds of means. -/
import Derived.Test.YtkajcafnfdlgpaaDoorEvMeanQ
import Derived.Test.YtkajcafnfdlgpaaDoorEvBehind
import Derived.Test.YtkajcafnfdlgpaaDoorEvParts
set_option linter.unusedVariables false
set_option linter.unusedSimpArgs false
namespace Go.Proofs.YtkajcafnfdlgpaaDoor.Ev
theorem heardU_no (ms : List ByteArray) (hm : ms.length ≤ 8796093022208) (hs : ∀ x ∈ ms, x.size ≤ 140737488355328) (k : Int) (h : (okTable ms && okLetter ms k) = false) : ev E0 8 [.agg [.lst 1 (ms.map st)], i64 k] [] = some (.tup [i64 0, bl false], []) ∧ ev E0 7 [.agg [.lst 1 (ms.map st)], i64 k] [] = some (.tup [i64 0, bl false], []) := by
  rw [e8, e7]
  unfold runF
  have h1 := letter_s ms (by omega) hs k
  have h2 := table_i ms (by omega) hs
  have h3 := letter_i ms (by omega) k
  rw [h] at h1
  cases ht : okTable ms with
  | false =>
    rw [ht] at h2
    refine ⟨?_, ?_⟩
    · simp -implicitDefEqProofs [L8, h1]
    · simp -implicitDefEqProofs [L7, h2]
  | true =>
    rw [ht, Bool.true_and] at h
    rw [ht] at h2
    rw [h] at h3
    refine ⟨?_, ?_⟩
    · simp -implicitDefEqProofs [L8, h1]
    · simp -implicitDefEqProofs [L7, h2, h3]
theorem heardU_yes (ms : List ByteArray) (hm : ms.length ≤ 8796093022208) (hs : ∀ x ∈ ms, x.size ≤ 140737488355328) (i : Nat) (hi : i < ms.length) (ht : okTable ms = true) : ev E0 8 [.agg [.lst 1 (ms.map st)], i64 i] [] = some (.tup [i64 (heardN ms ms[i] (ms[i].size + 1) 0), bl true], []) ∧ ev E0 7 [.agg [.lst 1 (ms.map st)], i64 i] [] = some (.tup [i64 (heardN ms ms[i] (ms[i].size + 1) 0), bl true], []) := by
  rw [e8, e7]
  unfold runF
  have h1 := letter_s ms (by omega) hs i
  have h2 := table_i ms (by omega) hs
  have h3 := letter_i ms (by omega) i
  have hk : okLetter ms i = true := by
    unfold okLetter
    simp only [Bool.and_eq_true, decide_eq_true_eq]
    omega
  rw [ht, hk] at h1
  rw [ht] at h2
  rw [hk] at h3
  have hsi := hs _ (List.getElem_mem hi)
  refine ⟨?_, ?_⟩
  · simp -implicitDefEqProofs [L8, h1, heard_s ms hm i hi _ rfl hsi]
  · simp -implicitDefEqProofs [L7, h2, h3, heard_i ms hm i hi _ rfl hsi]
theorem sumW_all {f : Nat → Nat} {F : Nat} (hf : ∀ i, f i ≤ F) : ∀ (t : List Nat) (i : Nat), sumW f t i ≤ F * allW t
  | [], i => by simp [sumW]
  | w :: t, i => by
    have h1 := sumW_all hf t (i + 1)
    have h2 : f i * w ≤ F * w := Nat.mul_le_mul_right w (hf i)
    rw [sumW, allW, Nat.mul_add]
    omega
theorem mean_bounds {f : Nat → Nat} {F : Nat} (hf : ∀ i, f i ≤ F) {W : List Nat} (h : meanO W = true) : 1 ≤ meanB f W ∧ meanA f W ≤ F * meanB f W := by
  unfold meanO at h
  have hA : ¬ allW W = 0 := by simpa using h
  have hS := sumW_all hf W 0
  unfold meanA meanB
  rw [if_neg hA, if_neg hA]
  generalize sumW f W 0 = S at *
  generalize allW W = A at *
  have hg : 0 < Nat.gcd S A := Nat.gcd_pos_of_pos_right S (by omega)
  obtain ⟨c, hc⟩ := Nat.gcd_dvd_right S A
  obtain ⟨d, hd⟩ := Nat.gcd_dvd_left S A
  generalize hgg : Nat.gcd S A = g at *
  have e1 : A / g = c := by rw [hc]; exact Nat.mul_div_cancel_left c hg
  have e2 : S / g = d := by rw [hd]; exact Nat.mul_div_cancel_left d hg
  rw [e1, e2]
  constructor
  · rcases Nat.eq_zero_or_pos c with h0 | h0
    · rw [h0] at hc; omega
    · exact h0
  · rw [hd, hc] at hS
    have h3 : g * d ≤ g * (F * c) := by rw [show g * (F * c) = F * (g * c) by rw [← Nat.mul_assoc, ← Nat.mul_assoc, Nat.mul_comm g F]]; exact hS
    exact Nat.le_of_mul_le_mul_left h3 hg
theorem chk_sizes : ∀ (t seen : List ByteArray), chk seen t = true → ∀ m ∈ t, m.size ≤ 5 ∧ 1 ≤ m.size
  | [], _, _, m, h => by cases h
  | c :: t, seen, hc, m, h => by
    unfold chk at hc
    simp only [Bool.and_eq_true] at hc
    rcases List.mem_cons.1 h with rfl | h
    · have := hc.1
      unfold okMarks at this
      simp only [Bool.and_eq_true, decide_eq_true_eq] at this
      omega
    · exact chk_sizes t _ hc.2.2 m h
theorem okTable_sizes {ms : List ByteArray} (h : okTable ms = true) : ∀ m ∈ ms, m.size ≤ 5 ∧ 1 ≤ m.size := by
  unfold okTable at h
  simp only [Bool.and_eq_true] at h
  exact chk_sizes ms [] h.2
theorem fH_six {ms : List ByteArray} (h : okTable ms = true) (i : Nat) : fH ms i ≤ 6 := fH_le (c := 5) (fun x hx => (okTable_sizes h x hx).1) i
theorem askN_lt (ms : List ByteArray) (letter : Nat) : ∀ (n : Nat) (l : List Nat), Apart ms l → (askN ms letter n l).length ≤ l.length - 1
  | 0, l, _ => by simp [askN]
  | n + 1, l, ha => by
    unfold askN
    split
    · simp
    · rename_i h2
      obtain ⟨p, hp, hv⟩ := dep_place ha (by omega)
      have h3 := askN_lt ms letter n (partN ms (depN ms l.length l).2.toNat (ansN ms (depN ms l.length l).2.toNat letter) l) (ha.part _ _)
      rw [hp, Int.toNat_natCast] at h3 ⊢
      have h4 := part_lt (a := ansN ms p letter) hv
      rw [List.length_cons]
      omega
theorem all_apart {ms : List ByteArray} (h : okTable ms = true) : Apart ms (allL ms.length 0) := apart_of h (allL_pair _ _) (fun n hn => by have := (allL_mem _ _ _).1 hn; omega)
theorem fA_nine {ms : List ByteArray} (h : okTable ms = true) (i : Nat) : fA ms i ≤ 9 := by
  have h1 := askN_lt ms i ms.length _ (all_apart h)
  rw [allL_len] at h1
  have h2 := okTable_len h
  unfold fA
  omega
-- ---------------------------------------------------------------- what is heard
theorem heardN_spec (ms : List ByteArray) (m : ByteArray) : ∀ (k n : Nat), n + k = m.size + 1 → n ≤ heardN ms m k n ∧ heardN ms m k n ≤ m.size + 1 ∧ (heardN ms m k n ≤ m.size → cnt ms m (heardN ms m k n) = 1) ∧ ∀ j, n ≤ j → j < heardN ms m k n → cnt ms m j ≠ 1
  | 0, n, h => ⟨by simp [heardN], by simp [heardN]; omega, by simp [heardN]; omega, fun j h1 h2 => by simp [heardN] at h2; omega⟩
  | k + 1, n, h => by
    unfold heardN
    split
    · rename_i hc
      exact ⟨Nat.le_refl _, by omega, fun _ => hc, fun j h1 h2 => by omega⟩
    · rename_i hc
      obtain ⟨h1, h2, h3, h4⟩ := heardN_spec ms m k (n + 1) (by omega)
      refine ⟨by omega, h2, h3, fun j h5 h6 => ?_⟩
      by_cases hj : j = n
      · rw [hj]; exact hc
      · exact h4 j (by omega) h6
theorem behindL_mem (p : ByteArray) : ∀ (t : List ByteArray) (i : Nat) (c : Int), c ∈ behindL p t i ↔ ∃ j : Nat, ∃ h : j < t.length, c = ((i + j : Nat) : Int) ∧ pre t[j] p = true
  | [], i, c => by simp [behindL]
  | m :: t, i, c => by
    have ih := behindL_mem p t (i + 1) c
    unfold behindL
    constructor
    · intro h
      split at h
      · rename_i hp
        rcases List.mem_cons.1 h with rfl | h
        · exact ⟨0, by simp, rfl, hp⟩
        · obtain ⟨j, hj, e, hp'⟩ := ih.1 h
          exact ⟨j + 1, by simp; omega, by rw [e]; congr 1; omega, by simpa using hp'⟩
      · obtain ⟨j, hj, e, hp'⟩ := ih.1 h
        exact ⟨j + 1, by simp; omega, by rw [e]; congr 1; omega, by simpa using hp'⟩
    · rintro ⟨j, hj, e, hp⟩
      cases j with
      | zero =>
        have hp2 : pre m p = true := by simpa using hp
        rw [if_pos hp2]
        exact List.mem_cons.2 (.inl (by rw [e]; rfl))
      | succ j =>
        have h2 : c ∈ behindL p t (i + 1) := ih.2 ⟨j, by simp at hj; omega, by rw [e]; congr 1; omega, by simpa using hp⟩
        split
        · exact List.mem_cons_of_mem _ h2
        · exact h2
theorem len_one {α : Type} {l : List α} {c : α} (h : l.length = 1) (hc : c ∈ l) : l = [c] := by
  match l, h with
  | [x], _ => rw [List.mem_singleton.1 hc]
theorem heard_tells {ms : List ByteArray} {i : Nat} (hi : i < ms.length) {n : Nat} (hn : n ≤ ms[i].size) (hc : cnt ms ms[i] n = 1) : behindL (ms[i].extract 0 n) ms 0 = [(i : Int)] :=
  len_one hc ((behindL_mem _ ms 0 i).2 ⟨i, hi, by simp, pre_self _ _ hn⟩)
theorem heard_more {ms : List ByteArray} {i : Nat} (hi : i < ms.length) {n : Nat} (hn : n ≤ ms[i].size) (hc : cnt ms ms[i] n ≠ 1) : 2 ≤ (behindL (ms[i].extract 0 n) ms 0).length := by
  have h1 := behind_pos (ms[i].extract 0 n) ms 0 ms[i] (List.getElem_mem hi) (pre_self _ _ hn)
  unfold cnt at hc
  omega
theorem okMarks_sub {m : ByteArray} {lo up : Int} (h : okMarks m lo up = true) (n : Nat) (h5 : (n : Int) ≤ up) : okMarks (m.extract 0 n) 0 up = true := by
  unfold okMarks at h ⊢
  simp only [Bool.and_eq_true, decide_eq_true_eq, List.all_eq_true] at h ⊢
  refine ⟨fun x hx => h.1 x ?_, by omega, by simp; omega⟩
  have : B (m.extract 0 n) = (B m).take n := by rw [B_extract, List.drop_zero]
  rw [this] at hx
  exact List.mem_of_mem_take hx
end Go.Proofs.YtkajcafnfdlgpaaDoor.Ev
