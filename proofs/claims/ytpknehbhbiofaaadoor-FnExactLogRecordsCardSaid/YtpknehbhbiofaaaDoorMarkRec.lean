/- Records, marked and looked at again; lists of records, compared. -/
import Derived.Test.YtpknehbhbiofaaaDoorPAg9
import Derived.Test.YtpknehbhbiofaaaDoorMarks
set_option linter.unusedVariables false
set_option linter.unusedSimpArgs false
namespace Go.Proofs.YtpknehbhbiofaaaDoor.MarkRec
open Go.RowKit Go.Proofs.YtpknehbhbiofaaaDoor.PA Go.Proofs.YtpknehbhbiofaaaDoorW.PrintWords Go.Proofs.YtpknehbhbiofaaaDoor.U Go.Proofs.YtpknehbhbiofaaaDoor.Marks
abbrev R := S27
theorem eq_l0 (xs : List R) (hx : xs.length ≤ 1000000) : ∀ (m i k : Nat), i + m = xs.length → m < k → laws_eqLogRecordS.l0 k xs xs (i : Int) = some true := by
  intro m
  induction m with
  | zero =>
    intro i k hi hk
    obtain ⟨k, rfl⟩ := pred_of_lt hk
    simp only [laws_eqLogRecordS.l0]
    rw [if_neg (by omega)]
  | succ m ih =>
    intro i k hi hk
    obtain ⟨k, rfl⟩ := pred_of_lt hk
    simp only [laws_eqLogRecordS.l0, laws_eqLogRecord.f]
    rw [if_pos (by omega), if_pos (by omega), if_pos (by omega), if_pos trivial, if_pos trivial, Option.bind_some, if_pos rfl, wrap_id (by omega)]
    have e : (i : Int) + 1 = ((i + 1 : Nat) : Int) := by omega
    rw [e]
    exact ih (i + 1) k (by omega) (by omega)
theorem eqS (xs : List R) (hx : xs.length ≤ 1000000) (k : Nat) (hk : xs.length < k) : laws_eqLogRecordS.f k xs xs = some true := by
  unfold laws_eqLogRecordS.f
  rw [if_pos rfl]
  exact eq_l0 xs hx xs.length 0 k (by omega) hk
/-- From a place on all are marked. -/
def Marked (i a : Nat) (xs : List R) : Prop := ∀ j, i ≤ j → j < xs.length → xs[j]? = some ⟨mt (a + 2 * (j - i)), mt (a + 2 * (j - i) + 1)⟩
theorem rdT (xs : List R) (i : Nat) (y : R) (h : xs[i]? = some y) : rd_T27 xs (i : Int) = y := by
  unfold rd_T27
  rw [Int.toNat_natCast, List.getD_eq_getElem?_getD, h]
  rfl
theorem mark_l0 : ∀ (m i a k : Nat) (xs : List R), i + m = xs.length → xs.length ≤ 1000000 → a + 2 * m ≤ 100000000 → m + 100 < k →
    ∃ ys, laws_markLogRecordS.l0 k xs (a : Int) (i : Int) = some (((a + 2 * m : Nat) : Int), ys) ∧ ys.length = xs.length ∧ (∀ j, j < i → ys[j]? = xs[j]?) ∧ Marked i a ys := by
  intro m
  induction m with
  | zero =>
    intro i a k xs hi hx ha hk
    obtain ⟨k, rfl⟩ := pred_of_lt hk
    simp only [laws_markLogRecordS.l0]
    rw [if_neg (by omega)]
    exact ⟨xs, rfl, rfl, fun _ _ => rfl, fun j h1 h2 => by omega⟩
  | succ m ih =>
    intro i a k xs hi hx ha hk
    obtain ⟨k, rfl⟩ := pred_of_lt hk
    simp only [laws_markLogRecordS.l0]
    have e0 : ((i : Int)).toNat = i := by omega
    have e1 : (a : Int) + 1 = ((a + 1 : Nat) : Int) := by omega
    have e2 : ((a + 1 : Nat) : Int) + 1 = ((a + 2 : Nat) : Int) := by omega
    have e3 : (i : Int) + 1 = ((i + 1 : Nat) : Int) := by omega
    rw [if_pos (by omega), markText a (by omega) k (by omega), Option.bind_some, if_pos (by omega), Option.bind_some, wrap_id (x := (a : Int) + 1) (by omega), e1, markText (a + 1) (by omega) k (by omega), Option.bind_some,
      wrap_id (x := ((a + 1 : Nat) : Int) + 1) (by omega), e2, wrap_id (x := (i : Int) + 1) (by omega), e3, e0]
    have hl : ∀ y z : R, ((xs.set i y).set i z).length = xs.length := by intro y z; rw [List.length_set, List.length_set]
    obtain ⟨ys, h1, h2, h3, h4⟩ := ih (i + 1) (a + 2) k ((xs.set i ⟨mt a, (rd_T27 xs (i : Int)).f1⟩).set i ⟨(rd_T27 (xs.set i ⟨mt a, (rd_T27 xs (i : Int)).f1⟩) (i : Int)).f0, mt (a + 1)⟩) (by rw [hl]; omega) (by rw [hl]; exact hx) (by omega) (by omega)
    rw [h1]
    have e4 : a + 2 + 2 * m = a + 2 * (m + 1) := by omega
    rw [e4]
    refine ⟨ys, rfl, by rw [h2, hl], fun j hj => ?_, fun j hj hj2 => ?_⟩
    · rw [h3 j (by omega), List.getElem?_set_ne (by omega), List.getElem?_set_ne (by omega)]
    · by_cases hji : j = i
      · subst hji
        rw [h3 j (by omega)]
        have hjl : j < xs.length := by omega
        rw [List.getElem?_set_self (by rw [List.length_set]; exact hjl)]
        rw [rdT _ j _ (List.getElem?_set_self hjl)]
        have e5 : a + 2 * (j - j) = a := by omega
        rw [e5]
      · rw [h4 j (by omega) hj2]
        have e5 : a + 2 + 2 * (j - (i + 1)) = a + 2 * (j - i) := by omega
        rw [e5]
theorem mark (xs : List R) (hx : xs.length ≤ 1000000) (k : Nat) (hk : xs.length + 100 < k) : ∃ ys, laws_markLogRecordS.f k xs 1 = some (((1 + 2 * xs.length : Nat) : Int), ys) ∧ ys.length = xs.length ∧ Marked 0 1 ys := by
  obtain ⟨ys, h1, h2, _, h4⟩ := mark_l0 xs.length 0 1 k xs (by omega) hx (by omega) hk
  exact ⟨ys, h1, h2, h4⟩
theorem held_l0 (ys : List R) (hy : ys.length ≤ 1000000) (hm : Marked 0 1 ys) : ∀ (m i k : Nat), i + m = ys.length → m + 100 < k →
    laws_heldLogRecordS.l0 k ys ((1 + 2 * i : Nat) : Int) (i : Int) = some ((1 + 2 * ys.length : Nat) : Int) := by
  intro m
  induction m with
  | zero =>
    intro i k hi hk
    obtain ⟨k, rfl⟩ := pred_of_lt hk
    simp only [laws_heldLogRecordS.l0]
    rw [if_neg (by omega)]
    congr 2
    omega
  | succ m ih =>
    intro i k hi hk
    obtain ⟨k, rfl⟩ := pred_of_lt hk
    simp only [laws_heldLogRecordS.l0]
    have e1 : ((1 + 2 * i : Nat) : Int) + 1 = ((1 + 2 * i + 1 : Nat) : Int) := by omega
    have e2 : ((1 + 2 * i + 1 : Nat) : Int) + 1 = ((1 + 2 * (i + 1) : Nat) : Int) := by omega
    have e3 : (i : Int) + 1 = ((i + 1 : Nat) : Int) := by omega
    have h0 := hm i (Nat.zero_le _) (by omega)
    rw [Nat.sub_zero] at h0
    rw [rdT ys i _ h0]
    rw [if_pos (by omega), if_pos (by omega), markText (1 + 2 * i) (by omega) k (by omega), Option.bind_some, if_pos rfl, wrap_id (x := ((1 + 2 * i : Nat) : Int) + 1) (by omega), e1, markText (1 + 2 * i + 1) (by omega) k (by omega),
      Option.bind_some, if_pos rfl, wrap_id (x := ((1 + 2 * i + 1 : Nat) : Int) + 1) (by omega), e2, wrap_id (x := (i : Int) + 1) (by omega), e3]
    exact ih (i + 1) k (by omega) (by omega)
theorem held (ys : List R) (hy : ys.length ≤ 1000000) (hm : Marked 0 1 ys) (k : Nat) (hk : ys.length + 100 < k) : laws_heldLogRecordS.f k ys 1 = some ((1 + 2 * ys.length : Nat) : Int) :=
  held_l0 ys hy hm ys.length 0 k (by omega) hk
end Go.Proofs.YtpknehbhbiofaaaDoor.MarkRec
