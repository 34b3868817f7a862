/- Splitting a text at a byte: the reference's l1Split and the library's Split at one byte. -/
import Derived.Test.YtgecnbafmlecjaaGreatDoorEvTextOf
import Derived.Lib.IndexMore
set_option linter.unusedVariables false
set_option linter.unusedSimpArgs false
namespace Go.Proofs.YtgecnbafmlecjaaGreatDoor.Ev
/-- The parts of a text between bytes b. -/
def parts (b : UInt8) : List UInt8 → List (List UInt8)
  | [] => [[]]
  | c :: t => if c = b then [] :: parts b t else match parts b t with
    | h :: r => (c :: h) :: r
    | [] => [[c]]
/-- What stands before the first b. -/
def upto (b : UInt8) (l : List UInt8) : List UInt8 := l.takeWhile (· != b)
theorem parts_head (b : UInt8) (l : List UInt8) : ∃ r, parts b l = upto b l :: r := by
  induction l with
  | nil => exact ⟨[], rfl⟩
  | cons c t ih =>
    unfold parts
    by_cases h : c = b
    · rw [if_pos h]
      exact ⟨parts b t, by simp [upto, h]⟩
    · rw [if_neg h]
      obtain ⟨r, hr⟩ := ih
      rw [hr]
      exact ⟨r, by simp [upto, h]⟩
def mkB (l : List UInt8) : ByteArray := ⟨l.toArray⟩
theorem B_mkB (l : List UInt8) : B (mkB l) = l := B_mk l
theorem mkB_B (s : ByteArray) : mkB (B s) = s := B_inj (B_mk _)
theorem mkB_size (l : List UInt8) : (mkB l).size = l.length := by rw [← B_len, B_mkB]
theorem B_extract (s : ByteArray) (i j : Nat) : B (s.extract i j) = ((B s).take j).drop i := by
  unfold B
  rw [ByteArray.data_extract, Array.toList_extract, List.extract_eq_take_drop, List.drop_take]
theorem B_from (s : ByteArray) (i : Nat) : B (s.extract i s.size) = (B s).drop i := by
  rw [B_extract, List.take_of_length_le (by rw [B_len]; exact Nat.le_refl _)]
theorem extract_mkB (s : ByteArray) (i j : Nat) : s.extract i j = mkB (((B s).take j).drop i) := B_inj (by rw [B_extract, B_mkB])
theorem from_mkB (s : ByteArray) (i : Nat) : s.extract i s.size = mkB ((B s).drop i) := B_inj (by rw [B_from, B_mkB])
/-- The parts, what came ahead of them put before the first. -/
def glue (cur : List UInt8) : List (List UInt8) → List (List UInt8)
  | h :: r => (cur ++ h) :: r
  | [] => []
theorem glue_nil (l : List (List UInt8)) : glue [] l = l := by cases l <;> rfl
theorem glue_step {b c : UInt8} (h : ¬ c = b) (cur t : List UInt8) : glue cur (parts b (c :: t)) = glue (cur ++ [c]) (parts b t) := by
  obtain ⟨r, hr⟩ := parts_head b t
  conv => lhs; unfold parts
  rw [if_neg h, hr]
  simp [glue]
theorem split_loop (s : ByteArray) (hs : s.size ≤ 1073741824) (b : UInt8) : ∀ (t : List UInt8) (i p : Nat) (acc : List ByteArray), (B s).drop i = t → p ≤ i → i ≤ s.size → acc.length ≤ i → ∃ (acc' : List ByteArray) (p' : Nat), p' ≤ s.size ∧ acc'.length ≤ s.size ∧
    packX 0 [0, 5, 6] (loopW (bd E0 (ev E0) loopW 0 [0, 1, 5, 6, 7] L49b0) ⟨[(0, st s), (1, .v (.int .u8 (b.toNat : Int))), (5, .sl 0 0 acc.length), (6, i64 p), (7, i64 i)], [some ⟨9, 1, 1, false, acc.map st⟩]⟩) = some (.ext 0, ⟨[(0, st s), (5, .sl 0 0 acc'.length), (6, i64 p')], [some ⟨9, 1, 1, false, acc'.map st⟩]⟩) ∧
    acc' ++ [s.extract p' s.size] = acc ++ (glue (((B s).take i).drop p) (parts b t)).map mkB := by
  intro t
  induction t with
  | nil =>
    intro i p acc hd hp hi ha
    have hn := byte_end hd
    have hz : i = s.size := by omega
    refine ⟨acc, p, by omega, by omega, ?_, ?_⟩
    · rw [loopW_eq]
      generalize loopW (bd E0 (ev E0) loopW 0 [0, 1, 5, 6, 7] L49b0) = K
      simp -implicitDefEqProofs [bd, L49b0, hn]
    · rw [from_mkB, hz, List.take_of_length_le (by rw [B_len]; exact Nat.le_refl _)]
      simp [parts, glue]
  | cons c t ih =>
    intro i p acc hd hp hi ha
    have hd0 := hd
    obtain ⟨hn, hb, hd⟩ := byte_at hd
    have hw : IntKind.i64.wrap ((i : Int) + 1) = (i : Int) + 1 := wr64 (by omega) (by omega)
    have hpi : (p : Int) ≤ (i : Int) := by omega
    have his : i ≤ s.size := by omega
    by_cases h : c = b
    · obtain ⟨acc', p', q1, q2, q3, q4⟩ := ih (i + 1) (i + 1) (acc ++ [s.extract p i]) hd (Nat.le_refl _) (by omega) (by simp; omega)
      refine ⟨acc', p', q1, q2, ?_, ?_⟩
      · rw [cs1, List.length_append, List.length_singleton, List.map_append, List.map_singleton] at q3
        have h3 : (acc.length + 1) * 16 ≤ 140737488355328 := by omega
        have h4 : acc.length + 1 ≤ 140737488355328 := by omega
        have h5 : (c.toNat : Int) = (b.toNat : Int) := by rw [h]
        rw [loopW_eq]
        generalize loopW (bd E0 (ev E0) loopW 0 [0, 1, 5, 6, 7] L49b0) = K at q3 ⊢
        simpa -implicitDefEqProofs [bd, L49b0, hn, hw, -List.getD_eq_getElem?_getD, hb, h, h5, hp, hpi, his, h3, h4] using q3
      · rw [q4]
        have e3 : ((B s).take (i + 1)).drop (i + 1) = [] := by rw [List.drop_eq_nil_iff]; simp; omega
        rw [e3, glue_nil, extract_mkB]
        subst h
        simp [parts, glue]
    · obtain ⟨acc', p', q1, q2, q3, q4⟩ := ih (i + 1) p acc hd (by omega) (by omega) (by omega)
      refine ⟨acc', p', q1, q2, ?_, ?_⟩
      · have h5 : ¬ (c.toNat : Int) = (b.toNat : Int) := fun e => h (UInt8.toNat_inj.1 (by omega))
        have h6 : ¬ c.toNat = b.toNat := by omega
        rw [cs1] at q3
        rw [loopW_eq]
        generalize loopW (bd E0 (ev E0) loopW 0 [0, 1, 5, 6, 7] L49b0) = K at q3 ⊢
        simpa -implicitDefEqProofs [bd, L49b0, hn, hw, -List.getD_eq_getElem?_getD, hb, h, h5, h6] using q3
      · rw [q4, glue_step h]
        congr 3
        have hl : i < (B s).length := by rw [B_len]; exact hn
        rw [List.take_succ_eq_append_getElem hl, List.drop_append_of_le_length (by simp; omega)]
        rw [List.drop_eq_getElem_cons hl] at hd0
        injection hd0 with h1 h2
        rw [h1]
def partsB (b : UInt8) (s : ByteArray) : List ByteArray := (parts b (B s)).map mkB
theorem split_s (s : ByteArray) (hs : s.size ≤ 1073741824) (b : UInt8) : ev E0 49 [st s, .v (.int .u8 (b.toNat : Int))] [] = some (.sl 0 0 (partsB b s).length, [some ⟨9, 1, 1, false, (partsB b s).map st⟩]) := by
  rw [e49]
  unfold runF
  obtain ⟨acc', p', q1, q2, q3, q4⟩ := split_loop s hs b (B s) 0 0 [] rfl (Nat.le_refl _) (Nat.zero_le _) (by simp)
  simp only [List.take_zero, List.drop_zero, glue_nil, List.nil_append] at q4
  rw [c0, List.length_nil, List.map_nil] at q3
  have hP : partsB b s = acc' ++ [s.extract p' s.size] := q4.symm
  have hp2 : (p' : Int) ≤ (s.size : Int) := by omega
  have h3 : (acc'.length + 1) * 16 ≤ 140737488355328 := by omega
  have h4 : acc'.length + 1 ≤ 140737488355328 := by omega
  rw [hP, List.length_append, List.length_singleton, List.map_append, List.map_singleton]
  simp -implicitDefEqProofs [L49, q3, q1, hp2, h3, h4]
-- ---------------------------------------------------------------- the library's Split
theorem parts_hit {b : UInt8} : ∀ {l : List UInt8}, b ∈ l → parts b l = upto b l :: parts b (l.drop ((upto b l).length + 1))
  | [], h => by cases h
  | c :: t, h => by
    by_cases hc : c = b
    · subst hc
      simp [parts, upto]
    · have h2 : b ∈ t := by
        rcases List.mem_cons.1 h with h | h
        · exact absurd h.symm hc
        · exact h
      have h5 : (c != b) = true := by simpa using hc
      have e : upto b (c :: t) = c :: upto b t := by simp [upto, h5]
      have ih := parts_hit h2
      rw [e, parts, if_neg hc, ih]
      simp
theorem parts_miss {b : UInt8} : ∀ {l : List UInt8}, b ∉ l → parts b l = [l]
  | [], h => rfl
  | c :: t, h => by
    have hc : ¬ c = b := fun e => h (by simp [e])
    have ih := parts_miss (l := t) (fun hm => h (List.mem_cons_of_mem _ hm))
    rw [parts, if_neg hc, ih]
theorem index_one (l : List UInt8) (b : UInt8) : Lib.index l [b] = if b ∈ l then ((upto b l).length : Int) else -1 := by
  induction l with
  | nil => simp [Lib.index]
  | cons c t ih =>
    unfold Lib.index
    by_cases h : c = b
    · subst h
      simp [upto, List.isPrefixOf]
    · have h1 : List.isPrefixOf [b] (c :: t) = false := by simp [List.isPrefixOf, Ne.symm h]
      rw [h1, ih]
      by_cases h2 : b ∈ t
      · have h3 : ¬ (((upto b t).length : Int) = -1) := by omega
        have h4 : (((upto b t).length : Int) == -1) = false := beq_eq_false_iff_ne.2 h3
        have h5 : (c != b) = true := by simpa using h
        simp [h2, h4, upto, h5]
      · simp [h2, Ne.symm h]
/-- The parts together, with the bytes between them, are as long as the text. -/
theorem parts_lens (b : UInt8) : ∀ l : List UInt8, lensT ((parts b l).map mkB) = l.length + 1
  | [] => rfl
  | c :: t => by
    have ih := parts_lens b t
    by_cases h : c = b
    · rw [parts, if_pos h, List.map_cons, lensT, ih, mkB_size]
      simp
      omega
    · obtain ⟨r, hr⟩ := parts_head b t
      rw [hr, List.map_cons, lensT, mkB_size] at ih
      rw [parts, if_neg h, hr]
      simp only [List.map_cons, lensT, mkB_size, List.length_cons]
      omega
end Go.Proofs.YtgecnbafmlecjaaGreatDoor.Ev
