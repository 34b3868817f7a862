/- A table that is valid: the reference's l2Table and the program's isTable, one word on lists of texts. -/
import Derived.Test.YtoehcdjndnmmlaaDoorPAg15
import Derived.Test.YtoehcdjndnmmlaaDoorPAg52
import Derived.Test.YtoehcdjndnmmlaaDoorPAg57
import Derived.Test.YtoehcdjndnmmlaaDoorLists
set_option linter.unusedVariables false
set_option linter.unusedSimpArgs false
namespace Go.Proofs.YtoehcdjndnmmlaaDoor.Tab
open Go.RowKit Go.Proofs.YtoehcdjndnmmlaaDoor.PA Go.Proofs.YtoehcdjndnmmlaaDoorW.PrintWords Go.Proofs.YtoehcdjndnmmlaaDoor.U Go.Proofs.YtoehcdjndnmmlaaDoor.Lists
def okM (c : UInt8) : Bool := c == 46 || c == 45
/-- Marks, as many as told. -/
def okMarks (s : ByteArray) (lo up : Int) : Bool := (B s).all okM && (decide (lo ≤ (s.size : Int)) && decide ((s.size : Int) ≤ up))
theorem inB (a b c : Int) : spec_l1In.f a b c = some (decide (b ≤ a) && decide (a ≤ c)) := by
  unfold spec_l1In.f
  by_cases h : b ≤ a
  · rw [if_pos (show a ≥ b from h), decide_eq_true h]; rfl
  · rw [if_neg (show ¬ a ≥ b from h), decide_eq_false h]; rfl
theorem inI (a b c : Int) : impl_in.f a b c = some (decide (b ≤ a) && decide (a ≤ c)) := by
  unfold impl_in.f
  by_cases h : b ≤ a
  · rw [if_pos (show a ≥ b from h), decide_eq_true h]; rfl
  · rw [if_neg (show ¬ a ≥ b from h), decide_eq_false h]; rfl
theorem all_dropWhile (p : UInt8 → Bool) : ∀ l : List UInt8, (l.dropWhile p = []) ↔ l.all p = true := by
  intro l
  induction l with
  | nil => simp
  | cons c t ih =>
    rw [List.dropWhile_cons, List.all_cons]
    cases h : p c with
    | true => rw [if_pos rfl, ih]; simp
    | false => rw [if_neg (by simp)]; simp
theorem all_rev (p : UInt8 → Bool) (l : List UInt8) : l.reverse.all p = l.all p := by rw [List.all_reverse]
theorem trim_nil (l cs : List UInt8) : (Lib.trimS l cs = []) ↔ l.all (cs.contains ·) = true := by
  unfold Lib.trimS Lib.trimLeftS Lib.trimRightS
  rw [all_dropWhile, all_rev]
  constructor
  · intro h
    rw [← all_rev]
    have e := List.takeWhile_append_dropWhile (p := (cs.contains ·)) (l := l.reverse)
    rw [← e, List.all_append, h, Bool.and_true]
    exact List.all_takeWhile
  · intro h
    rw [← all_rev] at h
    rw [(all_dropWhile _ _).2 h]
    rfl
theorem areMarks (s : ByteArray) (hs : s.size ≤ 9223372036854775807) (lo up : Int) : impl_areMarks.f s lo up = some (okMarks s lo up) := by
  unfold impl_areMarks.f okMarks
  rw [inI, Option.bind_some]
  cases h : (decide (lo ≤ (s.size : Int)) && decide ((s.size : Int) ≤ up)) with
  | false => rw [if_neg (by simp), Bool.and_false]
  | true =>
    rw [if_pos rfl, Bool.and_true]
    unfold strings_Trim.f
    have hc : (⟨#[46, 45]⟩ : ByteArray).size < 4294967281 ∧ (⟨#[46, 45]⟩ : ByteArray).data.toList.all (fun b => decide (b.toNat < 128)) = true := by decide
    rw [if_pos ⟨hs, hc⟩, Option.bind_some, toList_B]
    congr 1
    have e : B ⟨(Lib.trimS s.data.toList (⟨#[46, 45]⟩ : ByteArray).data.toList).toArray⟩ = Lib.trimS (B s) [46, 45] := B_mk _
    rw [e]
    have h2 := trim_nil (B s) [46, 45]
    have e2 : (B s).all ([46, 45].contains ·) = (B s).all okM := by
      congr 1
      funext c
      simp only [okM, List.contains_cons, List.contains_nil, Bool.or_false]
    rw [e2] at h2
    cases h3 : (B s).all okM with
    | true => rw [h2.2 h3]; rfl
    | false =>
      have : ¬ Lib.trimS (B s) [46, 45] = [] := fun hh => by rw [h2.1 hh] at h3; cases h3
      simpa using this
theorem l2Marks_l0 (s : ByteArray) (hs : s.size ≤ 9223372036854775807) (lo up : Int) (hup : up ≤ 1000) : ∀ (t : List UInt8) (n k : Nat), (B s).drop n = t → 2 * t.length + 2 < k →
    spec_l2Marks.l0 k s lo up n = some (t.all okM && (decide (lo ≤ (s.size : Int)) && decide ((s.size : Int) ≤ up))) := by
  intro t
  induction t with
  | nil =>
    intro n k h hk
    obtain ⟨k, rfl⟩ := pred_of_lt hk
    obtain ⟨k, rfl⟩ := pred_of_lt (show 0 < k by omega)
    simp only [spec_l2Marks.l0]
    rw [if_neg (scan_nil h)]
    simp only [spec_l2Marks.j1]
    rw [if_neg (by simp), inB, Option.bind_some]
    rfl
  | cons c t ih =>
    intro n k h hk
    obtain ⟨k, rfl⟩ := pred_of_lt hk
    obtain ⟨k, rfl⟩ := pred_of_lt (show 0 < k by omega)
    obtain ⟨hn, hb, hd⟩ := scan_cons h
    have hc := c.toNat_lt
    simp only [spec_l2Marks.l0]
    rw [if_pos (by omega)]
    simp only [spec_l2Marks.j1]
    by_cases h1 : (n : Int) ≤ up
    · rw [if_pos (decide_eq_true h1), if_pos (by omega), if_pos (by omega), hb, wrap_succ hn hs]
      have hr := ih (n + 1) k hd (by simp only [List.length_cons] at hk; omega)
      by_cases h2 : (c.toNat : Int) = 46
      · rw [if_pos h2, hr]
        have : c = 46 := byte_eq.1 (show (c.toNat : Int) = ((46 : UInt8).toNat : Int) from h2)
        subst this
        rw [List.all_cons]
        rfl
      · rw [if_neg h2]
        by_cases h3 : (c.toNat : Int) = 45
        · rw [if_pos h3, hr]
          have : c = 45 := byte_eq.1 (show (c.toNat : Int) = ((45 : UInt8).toNat : Int) from h3)
          subst this
          rw [List.all_cons]
          rfl
        · rw [if_neg h3]
          have h4 : okM c = false := by
            have a1 : ¬ c = 46 := fun e => h2 (by rw [e]; rfl)
            have a2 : ¬ c = 45 := fun e => h3 (by rw [e]; rfl)
            simp [okM, a1, a2]
          rw [List.all_cons, h4]
          rfl
    · rw [if_neg (by simpa using h1), inB, Option.bind_some]
      have h5 : decide ((s.size : Int) ≤ up) = false := decide_eq_false (by omega)
      rw [h5]
      simp
theorem l2Marks (s : ByteArray) (hs : s.size ≤ 9223372036854775807) (lo up : Int) (hup : up ≤ 1000) (k : Nat) (hk : 2 * s.size + 2 < k) : spec_l2Marks.f k s lo up = some (okMarks s lo up) :=
  l2Marks_l0 s hs lo up hup (B s) 0 k rfl (by rw [B_len]; exact hk)
/-- The first place of a text, from a place on. -/
theorem toList_eq {s t : ByteArray} : (s.toList = t.toList) ↔ s = t := by
  rw [toList_B, toList_B]
  exact ⟨B_inj, fun h => by rw [h]⟩
def place (x : ByteArray) : List ByteArray → Nat → Int
  | [], _ => -1
  | y :: t, i => if y = x then (i : Int) else place x t (i + 1)
theorem place_l0 (xs : List ByteArray) (hx : xs.length ≤ 1099511627776) (x : ByteArray) : ∀ (t : List ByteArray) (i k : Nat), xs.drop i = t → t.length < k → spec_l2Place.l0 k xs x (i : Int) = some (place x t i) := by
  intro t
  induction t with
  | nil =>
    intro i k h hk
    obtain ⟨k, rfl⟩ := pred_of_lt hk
    have := List.drop_eq_nil_iff.1 h
    simp only [spec_l2Place.l0]
    rw [if_neg (by omega)]
    rfl
  | cons c t ih =>
    intro i k h hk
    obtain ⟨k, rfl⟩ := pred_of_lt hk
    obtain ⟨hi, hr, hd, hg⟩ := rdS_at h
    simp only [spec_l2Place.l0]
    rw [if_pos (by omega), if_pos (by omega), hr, wrap_id (by omega), succ_cast]
    unfold place
    by_cases h1 : c = x
    · rw [if_pos (toList_eq.2 h1), if_pos h1]
    · rw [if_neg (fun e => h1 (toList_eq.1 e)), if_neg h1]
      exact ih (i + 1) k hd (by simpa using hk)
theorem l2Place (xs : List ByteArray) (hx : xs.length ≤ 1099511627776) (x : ByteArray) (k : Nat) (hk : xs.length < k) : spec_l2Place.f k xs x = some (place x xs 0) := place_l0 xs hx x xs 0 k rfl hk
theorem index_l0 (xs : List ByteArray) (hx : xs.length ≤ 1099511627776) (x : ByteArray) : ∀ (t : List ByteArray) (i k : Nat), xs.drop i = t → t.length < k → slices_Index_string_string.l0 k xs x (xs.length : Int) (i : Int) = some (place x t i) := by
  intro t
  induction t with
  | nil =>
    intro i k h hk
    obtain ⟨k, rfl⟩ := pred_of_lt hk
    have := List.drop_eq_nil_iff.1 h
    simp only [slices_Index_string_string.l0]
    rw [if_neg (by omega)]
    rfl
  | cons c t ih =>
    intro i k h hk
    obtain ⟨k, rfl⟩ := pred_of_lt hk
    obtain ⟨hi, hr, hd, hg⟩ := rdS_at h
    simp only [slices_Index_string_string.l0]
    rw [if_pos (by omega), if_pos (by omega), if_pos (by omega), hr, wrap_id (by omega), succ_cast]
    unfold place
    by_cases h1 : c = x
    · rw [if_pos (toList_eq.2 h1.symm), if_pos h1]
    · rw [if_neg (fun e => h1 (toList_eq.1 e).symm), if_neg h1]
      exact ih (i + 1) k hd (by simpa using hk)
theorem place_nat (x : ByteArray) : ∀ (t : List ByteArray) (i : Nat), (place x t i = -1 ∧ x ∉ t) ∨ ((i : Int) ≤ place x t i ∧ x ∈ t) := by
  intro t
  induction t with
  | nil => intro i; exact Or.inl ⟨rfl, by simp⟩
  | cons c t ih =>
    intro i
    unfold place
    by_cases h : c = x
    · rw [if_pos h]
      exact Or.inr ⟨Int.le_refl _, by simp [h]⟩
    · rw [if_neg h]
      rcases ih (i + 1) with ⟨h1, h2⟩ | ⟨h1, h2⟩
      · exact Or.inl ⟨h1, by simp [h2, Ne.symm h]⟩
      · exact Or.inr ⟨by omega, List.mem_cons_of_mem _ h2⟩
theorem contains (xs : List ByteArray) (hx : xs.length ≤ 1099511627776) (x : ByteArray) (k : Nat) (hk : xs.length < k) : slices_Contains_string_string.f k xs x = some (decide (x ∈ xs)) := by
  unfold slices_Contains_string_string.f slices_Index_string_string.f
  have h := index_l0 xs hx x xs 0 k rfl hk
  have h' : slices_Index_string_string.l0 k xs x (xs.length : Int) 0 = some (place x xs 0) := h
  rw [h', Option.bind_some]
  congr 1
  rw [decide_eq_decide]
  rcases place_nat x xs 0 with ⟨h1, h2⟩ | ⟨h1, h2⟩
  · rw [h1]
    exact ⟨fun h => by omega, fun h => absurd h h2⟩
  · exact ⟨fun _ => h2, fun _ => by omega⟩
/-- The first place of what stands at a place. -/
theorem place_at (x : ByteArray) : ∀ (pre t : List ByteArray) (o : Nat), (place x (pre ++ x :: t) o = ((o + pre.length : Nat) : Int)) ↔ x ∉ pre := by
  intro pre
  induction pre with
  | nil => intro t o; simp [place]
  | cons c p ih =>
    intro t o
    rw [List.cons_append]
    unfold place
    by_cases h : c = x
    · rw [if_pos h]
      constructor
      · intro e; simp only [List.length_cons] at e; omega
      · intro e; exact absurd (by simp [h]) e
    · rw [if_neg h]
      have := ih t (o + 1)
      have e : o + 1 + p.length = o + (c :: p).length := by simp only [List.length_cons]; omega
      rw [e] at this
      rw [this]
      simp [Ne.symm h]
def chk : List ByteArray → List ByteArray → Bool
  | _, [] => true
  | seen, m :: t => okMarks m 1 5 && (!decide (m ∈ seen) && chk (seen ++ [m]) t)
/-- A valid table. -/
def okTable (ms : List ByteArray) : Bool := (decide (1 ≤ (ms.length : Int)) && decide ((ms.length : Int) ≤ 10)) && chk [] ms
theorem isTable_l0 (ms : List ByteArray) (hl : ms.length ≤ 1048576) (hs : ∀ x ∈ ms, x.size ≤ 1048576) : ∀ (t : List ByteArray) (i k : Nat), ms.drop i = t → t.length + ms.length + 1 < k →
    impl_isTable.l0 k ms (ms.length : Int) (i : Int) ms = some (chk (ms.take i) t && (decide (1 ≤ (ms.length : Int)) && decide ((ms.length : Int) ≤ 10))) := by
  intro t
  induction t with
  | nil =>
    intro i k h hk
    obtain ⟨k, rfl⟩ := pred_of_lt hk
    have := List.drop_eq_nil_iff.1 h
    simp only [impl_isTable.l0]
    rw [if_neg (by omega), inI, Option.bind_some]
    rfl
  | cons c t ih =>
    intro i k h hk
    obtain ⟨k, rfl⟩ := pred_of_lt hk
    obtain ⟨hi, hr, hd, hg⟩ := rdS_at h
    have hc := hs c (List.mem_of_getElem? hg)
    simp only [impl_isTable.l0]
    have e0 : ((i : Int)).toNat = i := by omega
    have hgi : ms[i] = c := by
      rw [List.getElem?_eq_getElem hi] at hg
      exact Option.some.inj hg
    have e1 : ms.take i ++ [c] = ms.take (i + 1) := by rw [List.take_succ_eq_append_getElem hi, hgi]
    simp only [List.length_cons] at hk
    rw [if_pos (by omega), if_pos (by omega), if_pos (by omega), hr]
    unfold impl_isLetterMarks.f
    rw [areMarks c (by omega), Option.bind_some, Option.bind_some]
    conv => rhs; unfold chk
    cases h1 : okMarks c 1 5 with
    | false => rw [if_neg (by simp)]; rfl
    | true =>
      rw [if_pos rfl, if_pos (by omega), e0, contains (ms.take i) (by rw [List.length_take]; omega) c k (by rw [List.length_take]; omega), Option.bind_some]
      by_cases h2 : c ∈ ms.take i
      · rw [if_pos (decide_eq_true h2), decide_eq_true h2]; rfl
      · rw [if_neg (by simpa using h2), decide_eq_false h2, wrap_id (by omega), succ_cast, ih (i + 1) k hd (by omega), e1]
        rfl
theorem isTable (ms : List ByteArray) (hl : ms.length ≤ 1048576) (hs : ∀ x ∈ ms, x.size ≤ 1048576) (k : Nat) (hk : 2 * ms.length + 1 < k) : impl_isTable.f k ms = some (okTable ms) := by
  unfold impl_isTable.f okTable
  have h := isTable_l0 ms hl hs ms 0 k rfl (by omega)
  have h' : impl_isTable.l0 k ms (ms.length : Int) 0 ms = some (chk (ms.take 0) ms && (decide (1 ≤ (ms.length : Int)) && decide ((ms.length : Int) ≤ 10))) := h
  rw [h', List.take_zero, Bool.and_comm]
theorem l2Table_l0 (ms : List ByteArray) (hl : ms.length ≤ 1048576) (hs : ∀ x ∈ ms, x.size ≤ 1048576) : ∀ (t : List ByteArray) (i k : Nat), ms.drop i = t → t.length + ms.length + 2100000 < k →
    spec_l2Table.l0 k (i : Int) ms = some (chk (ms.take i) t) := by
  intro t
  induction t with
  | nil =>
    intro i k h hk
    obtain ⟨k, rfl⟩ := pred_of_lt hk
    have := List.drop_eq_nil_iff.1 h
    simp only [spec_l2Table.l0]
    rw [if_neg (by omega)]
    rfl
  | cons c t ih =>
    intro i k h hk
    obtain ⟨k, rfl⟩ := pred_of_lt hk
    obtain ⟨hi, hr, hd, hg⟩ := rdS_at h
    have hc := hs c (List.mem_of_getElem? hg)
    simp only [spec_l2Table.l0]
    have hgi : ms[i] = c := by
      rw [List.getElem?_eq_getElem hi] at hg
      exact Option.some.inj hg
    have e1 : ms.take i ++ [c] = ms.take (i + 1) := by rw [List.take_succ_eq_append_getElem hi, hgi]
    simp only [List.length_cons] at hk
    rw [if_pos (by omega), if_pos (by omega), hr, l2Marks c (by omega) 1 5 (by omega) k (by omega), Option.bind_some]
    conv => rhs; unfold chk
    cases h1 : okMarks c 1 5 with
    | false => rw [if_neg (by simp)]; rfl
    | true =>
      rw [if_pos rfl, l2Place ms (by omega) c k (by omega), Option.bind_some]
      have hp := place_at c (ms.take i) t 0
      have e2 : ms.take i ++ c :: t = ms := by rw [← h]; exact List.take_append_drop i ms
      have e3 : (ms.take i).length = i := by rw [List.length_take]; omega
      rw [e2, e3, Nat.zero_add] at hp
      by_cases h2 : c ∈ ms.take i
      · rw [if_neg (fun e => hp.1 e h2), decide_eq_true h2]; rfl
      · rw [if_pos (hp.2 h2), decide_eq_false h2, wrap_id (by omega), succ_cast, ih (i + 1) k hd (by omega), e1]
        rfl
theorem l2Table (ms : List ByteArray) (hl : ms.length ≤ 1048576) (hs : ∀ x ∈ ms, x.size ≤ 1048576) (k : Nat) (hk : 2 * ms.length + 2100000 < k) : spec_l2Table.f k ms = some (okTable ms) := by
  unfold spec_l2Table.f okTable
  rw [inB, Option.bind_some]
  cases h1 : (decide (1 ≤ (ms.length : Int)) && decide ((ms.length : Int) ≤ 10)) with
  | false => rw [if_neg (by simp)]; rfl
  | true =>
    have h := l2Table_l0 ms hl hs ms 0 k rfl (by omega)
    have h' : spec_l2Table.l0 k 0 ms = some (chk (ms.take 0) ms) := h
    rw [if_pos rfl, h', List.take_zero]
    rfl
/-- A letter of a table. -/
def okLetter (ms : List ByteArray) (k : Int) : Bool := decide (0 ≤ k) && decide (k ≤ (ms.length : Int) - 1)
theorem isLetter (ms : List ByteArray) (hl : ms.length ≤ 1048576) (a : Int) : impl_isLetter.f ms a = some (okLetter ms a) := by
  unfold impl_isLetter.f okLetter
  rw [wrap_id (by omega), inI, Option.bind_some]
theorem l6Letter (ms : List ByteArray) (hl : ms.length ≤ 1048576) (hs : ∀ x ∈ ms, x.size ≤ 1048576) (a : Int) (k : Nat) (hk : 2 * ms.length + 2100000 < k) : spec_l6Letter.f k ms a = some (okTable ms && okLetter ms a) := by
  unfold spec_l6Letter.f okLetter
  rw [l2Table ms hl hs k hk, Option.bind_some]
  cases okTable ms with
  | false => rw [if_neg (by simp)]; rfl
  | true => rw [if_pos rfl, wrap_id (by omega), inB, Option.bind_some]; rfl
theorem okLetter_bounds {ms : List ByteArray} {a : Int} (h : okLetter ms a = true) : 0 ≤ a ∧ a < (ms.length : Int) := by
  unfold okLetter at h
  simp only [Bool.and_eq_true, decide_eq_true_eq] at h
  omega
theorem okTable_len {ms : List ByteArray} (h : okTable ms = true) : 1 ≤ ms.length ∧ ms.length ≤ 10 := by
  unfold okTable at h
  simp only [Bool.and_eq_true, decide_eq_true_eq] at h
  omega
end Go.Proofs.YtoehcdjndnmmlaaDoor.Tab
