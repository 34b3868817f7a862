/- Splitting a text at a byte: the reference's l1Split and the library's Cut at one byte, as functions on lists of bytes. -/
import Derived.Test.YtpknehbhbiofaaaDoorPAg62
import Derived.Test.YtpknehbhbiofaaaDoorLib
import Derived.Lib.IndexMore
set_option linter.unusedVariables false
set_option linter.unusedSimpArgs false
namespace Go.Proofs.YtpknehbhbiofaaaDoor.Split
open Go.RowKit Go.Proofs.YtpknehbhbiofaaaDoor.PA Go.Proofs.YtpknehbhbiofaaaDoorW.PrintWords Go.Proofs.YtpknehbhbiofaaaDoor.U
/-- The parts of a text between bytes b. -/
def parts (b : UInt8) : List UInt8 → List (List UInt8)
  | [] => [[]]
  | c :: t => if c = b then [] :: parts b t else match parts b t with
    | h :: r => (c :: h) :: r
    | [] => [[c]]
theorem parts_ne (b : UInt8) (l : List UInt8) : parts b l ≠ [] := by
  cases l with
  | nil => simp [parts]
  | cons c t =>
    unfold parts
    split
    · simp
    · split <;> simp
/-- What stands before the first b. -/
def upto (b : UInt8) (l : List UInt8) : List UInt8 := l.takeWhile (· != b)
theorem parts_head (b : UInt8) (l : List UInt8) : ∃ r, parts b l = upto b l :: r := by
  induction l with
  | nil => exact ⟨[], rfl⟩
  | cons c t ih =>
    unfold parts
    by_cases h : c = b
    · rw [if_pos h]
      exact ⟨parts b t, by simp [upto, h]⟩
    · rw [if_neg h]
      obtain ⟨r, hr⟩ := ih
      rw [hr]
      exact ⟨r, by simp [upto, h]⟩
theorem parts_len (b : UInt8) (l : List UInt8) : (parts b l).length = l.count b + 1 := by
  induction l with
  | nil => rfl
  | cons c t ih =>
    unfold parts
    by_cases h : c = b
    · rw [if_pos h, List.length_cons, ih]
      simp [h]
    · rw [if_neg h, List.count_cons_of_ne h]
      obtain ⟨r, hr⟩ := parts_head b t
      rw [hr] at ih ⊢
      simpa using ih
def mk (l : List UInt8) : ByteArray := ⟨l.toArray⟩
theorem B_mk' (l : List UInt8) : B (mk l) = l := B_mk l
theorem mk_B (s : ByteArray) : mk (B s) = s := B_inj (B_mk _)
theorem mk_size (l : List UInt8) : (mk l).size = l.length := size_list l
theorem B_extract (s : ByteArray) (i j : Nat) : B (s.extract i j) = ((B s).take j).drop i := by
  unfold B
  rw [ByteArray.data_extract, Array.toList_extract, List.extract_eq_take_drop, List.drop_take]
theorem B_from (s : ByteArray) (i : Nat) : B (s.extract i s.size) = (B s).drop i := by
  rw [B_extract, List.take_of_length_le (by rw [B_len]; exact Nat.le_refl _)]
theorem extract_mk (s : ByteArray) (i j : Nat) : s.extract i j = mk (((B s).take j).drop i) := B_inj (by rw [B_extract, B_mk'])
theorem from_mk (s : ByteArray) (i : Nat) : s.extract i s.size = mk ((B s).drop i) := B_inj (by rw [B_from, B_mk'])
/-- The parts, what came ahead of them put before the first. -/
def glue (cur : List UInt8) : List (List UInt8) → List (List UInt8)
  | h :: r => (cur ++ h) :: r
  | [] => []
theorem glue_nil (l : List (List UInt8)) : glue [] l = l := by cases l <;> rfl
theorem glue_step {b c : UInt8} (h : ¬ c = b) (cur t : List UInt8) : glue cur (parts b (c :: t)) = glue (cur ++ [c]) (parts b t) := by
  obtain ⟨r, hr⟩ := parts_head b t
  conv => lhs; unfold parts
  rw [if_neg h, hr]
  simp [glue]
theorem l1Split_l0 (s : ByteArray) (hs : s.size ≤ 1099511627776) (b : UInt8) : ∀ (t : List UInt8) (acc : List ByteArray) (p n k : Nat), (B s).drop n = t → p ≤ n → n ≤ s.size → acc.length + t.length ≤ 1099511627776 → t.length < k →
    spec_l1Split.l0 k s b.toNat acc p n = some (acc ++ (glue (((B s).take n).drop p) (parts b t)).map mk) := by
  intro t
  induction t with
  | nil =>
    intro acc p n k hd hp hn ha hk
    obtain ⟨k, rfl⟩ := pred_of_lt hk
    have hz : n = s.size := by
      have := List.drop_eq_nil_iff.1 hd
      rw [B_len] at this
      omega
    simp only [spec_l1Split.l0]
    rw [if_neg (scan_nil hd), if_pos (by omega), if_pos (by omega), if_pos (by simp at ha; omega)]
    have e : ((p : Int)).toNat = p := by omega
    rw [e, from_mk, hz, List.take_of_length_le (by rw [B_len]; exact Nat.le_refl _)]
    simp [parts, glue]
  | cons c t ih =>
    intro acc p n k hd hp hn ha hk
    obtain ⟨k, rfl⟩ := pred_of_lt hk
    have hd0 := hd
    obtain ⟨hn, hb, hd⟩ := scan_cons hd
    simp only [List.length_cons] at ha hk
    simp only [spec_l1Split.l0]
    rw [if_pos (by omega), if_pos (by omega), hb]
    by_cases h : c = b
    · rw [if_pos (by rw [h]), if_pos (by omega), if_pos (by omega), if_pos (by omega), if_pos (by omega), wrap_succ hn (by omega)]
      rw [ih (acc ++ [s.extract (p : Int).toNat (n : Int).toNat]) (n + 1) (n + 1) k hd (Nat.le_refl _) (by omega) (by simp; omega) (by omega)]
      have e : ((p : Int)).toNat = p := by omega
      have e2 : ((n : Int)).toNat = n := by omega
      rw [e, e2, extract_mk]
      have e3 : ((B s).take (n + 1)).drop (n + 1) = [] := by rw [List.drop_eq_nil_iff]; simp; omega
      rw [e3, glue_nil]
      subst h
      simp [parts, glue]
    · rw [if_neg (by rw [byte_eq]; exact h), wrap_succ hn (by omega), ih acc p (n + 1) k hd (by omega) (by omega) (by omega) (by omega), glue_step h]
      congr 3
      have hl : n < (B s).length := hn
      rw [List.take_succ_eq_append_getElem hl, List.drop_append_of_le_length (by simp; omega)]
      rw [List.drop_eq_getElem_cons hl] at hd0
      injection hd0 with h1 h2
      rw [h1]
theorem l1Split (s : ByteArray) (hs : s.size ≤ 1099511627776) (b : UInt8) (k : Nat) (hk : s.size < k) : spec_l1Split.f k s b.toNat = some ((parts b (B s)).map mk) := by
  have := l1Split_l0 s hs b (B s) [] 0 0 k rfl (Nat.le_refl _) (Nat.zero_le _) (by rw [B_len]; simpa using hs) (by rw [B_len]; exact hk)
  simp only [List.take_zero, List.drop_zero, glue_nil, List.nil_append] at this
  simpa [spec_l1Split.f] using this
/-- The library's index of one byte, and its Cut there. -/
theorem index_one (l : List UInt8) (b : UInt8) : Lib.index l [b] = if b ∈ l then ((upto b l).length : Int) else -1 := by
  induction l with
  | nil => simp [Lib.index]
  | cons c t ih =>
    unfold Lib.index
    by_cases h : c = b
    · subst h
      simp [upto, List.isPrefixOf]
    · have h1 : List.isPrefixOf [b] (c :: t) = false := by simp [List.isPrefixOf, Ne.symm h]
      rw [h1, ih]
      by_cases h2 : b ∈ t
      · have h3 : ¬ (((upto b t).length : Int) = -1) := by omega
        have h4 : (((upto b t).length : Int) == -1) = false := beq_eq_false_iff_ne.2 h3
        have h5 : (c != b) = true := by simpa using h
        simp [h2, h4, upto, h5]
      · simp [h2, Ne.symm h]
theorem upto_notin {b : UInt8} {l : List UInt8} (h : b ∉ l) : upto b l = l := by
  induction l with
  | nil => rfl
  | cons c t ih =>
    have hc : (c != b) = true := by
      rw [bne_iff_ne]
      intro e
      exact h (by simp [e])
    have h2 := ih (fun hm => h (List.mem_cons_of_mem _ hm))
    unfold upto at h2 ⊢
    rw [List.takeWhile_cons, hc, if_pos rfl, h2]
theorem upto_split {b : UInt8} {l : List UInt8} (h : b ∈ l) : l = upto b l ++ b :: l.drop ((upto b l).length + 1) := by
  induction l with
  | nil => cases h
  | cons c t ih =>
    by_cases hc : c = b
    · subst hc
      simp [upto]
    · have h2 : b ∈ t := by
        rcases List.mem_cons.1 h with h | h
        · exact absurd h.symm hc
        · exact h
      have h5 : (c != b) = true := by simpa using hc
      have e : upto b (c :: t) = c :: upto b t := by simp [upto, h5]
      rw [e]
      simp only [List.cons_append, List.length_cons, List.drop_succ_cons]
      rw [← ih h2]
theorem upto_append {b : UInt8} {l r : List UInt8} (h : b ∉ l) : upto b (l ++ b :: r) = l := by
  induction l with
  | nil => simp [upto]
  | cons c t ih =>
    have hc : ¬ c = b := fun e => h (by simp [e])
    have h5 : (c != b) = true := by simpa using hc
    simp only [List.cons_append]
    have e : upto b (c :: (t ++ b :: r)) = c :: upto b (t ++ b :: r) := by simp [upto, h5]
    rw [e, ih (fun hm => h (List.mem_cons_of_mem _ hm))]
theorem notin_upto (b : UInt8) (l : List UInt8) : b ∉ upto b l := by
  induction l with
  | nil => simp [upto]
  | cons c t ih =>
    unfold upto at ih ⊢
    rw [List.takeWhile_cons]
    by_cases hc : (c != b) = true
    · rw [if_pos hc]
      have : ¬ b = c := by
        rw [bne_iff_ne] at hc
        exact fun e => hc e.symm
      simp only [List.mem_cons, not_or]
      exact ⟨this, ih⟩
    · rw [if_neg hc]
      simp
theorem take_of_split {l a r : List UInt8} (h : l = a ++ r) : l.take a.length = a := by subst h; exact List.take_left' rfl
theorem drop_of_split {l a r : List UInt8} (h : l = a ++ r) : l.drop a.length = r := by subst h; exact List.drop_left' rfl
theorem cut_one (l : List UInt8) (b : UInt8) : Lib.cut l [b] = (upto b l, l.drop ((upto b l).length + 1), decide (b ∈ l)) := by
  unfold Lib.cut
  rw [index_one]
  by_cases h : b ∈ l
  · rw [if_pos h, if_pos (by omega)]
    have e : (((upto b l).length : Int)).toNat = (upto b l).length := by omega
    rw [e]
    have h2 := upto_split h
    have h3 : l.take (upto b l).length = upto b l := take_of_split h2
    rw [h3, decide_eq_true h]
    rfl
  · rw [if_neg h, if_neg (by omega), upto_notin h, decide_eq_false h, List.drop_eq_nil_of_le (by omega)]
theorem upto_len (b : UInt8) (l : List UInt8) : (upto b l).length ≤ l.length := by
  unfold upto
  exact (List.takeWhile_sublist _).length_le
end Go.Proofs.YtpknehbhbiofaaaDoor.Split
