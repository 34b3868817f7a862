/- A list of letters, ascending: the reference's l11Letters and the program's areLetters. -/
import Derived.Test.YtoehcdjndnmmlaaDoorPAg4
import Derived.Test.YtoehcdjndnmmlaaDoorTab
import Derived.Test.YtoehcdjndnmmlaaDoorInts
set_option linter.unusedVariables false
set_option linter.unusedSimpArgs false
namespace Go.Proofs.YtoehcdjndnmmlaaDoor.Asc
open Go.RowKit Go.Proofs.YtoehcdjndnmmlaaDoor.PA Go.Proofs.YtoehcdjndnmmlaaDoorW.PrintWords Go.Proofs.YtoehcdjndnmmlaaDoor.U Go.Proofs.YtoehcdjndnmmlaaDoor.Lists Go.Proofs.YtoehcdjndnmmlaaDoor.Tab Go.Proofs.YtoehcdjndnmmlaaDoor.Ints
def asc (ms : List ByteArray) : Int → List Int → Bool
  | _, [] => true
  | lo, c :: t => okLetter ms c && (decide (lo < c) && asc ms c t)
/-- Letters of a table, ascending, one at least. -/
def okLetters (ms : List ByteArray) (xs : List Int) : Bool := asc ms (-1) xs && decide ((xs.length : Int) > 0)
def prev (xs : List Int) (i : Nat) : Int := if i = 0 then -1 else rd xs ((i : Int) - 1)
theorem prev_succ (xs : List Int) (i : Nat) : prev xs (i + 1) = rd xs (i : Int) := by
  unfold prev
  rw [if_neg (by omega)]
  congr 1
  omega
theorem impl_l0 (ms : List ByteArray) (hl : ms.length ≤ 1048576) (xs : List Int) (hx : xs.length ≤ 1099511627776) : ∀ (t : List Int) (i k : Nat), xs.drop i = t → t.length < k →
    impl_areLetters.l0 k xs xs (xs.length : Int) (i : Int) ms = some (asc ms (prev xs i) t && decide ((xs.length : Int) > 0)) := by
  intro t
  induction t with
  | nil =>
    intro i k h hk
    obtain ⟨k, rfl⟩ := pred_of_lt hk
    have := List.drop_eq_nil_iff.1 h
    simp only [impl_areLetters.l0]
    rw [if_neg (by omega)]
    rfl
  | cons c t ih =>
    intro i k h hk
    obtain ⟨k, rfl⟩ := pred_of_lt hk
    obtain ⟨hi, hr, hd, hg⟩ := Ints.rd_at h
    simp only [impl_areLetters.l0]
    rw [if_pos (by omega), if_pos (by omega), if_pos (by omega), hr, isLetter ms hl c, Option.bind_some]
    conv => rhs; unfold asc
    have hrec := ih (i + 1) k hd (by simpa using hk)
    rw [prev_succ, hr] at hrec
    cases h1 : okLetter ms c with
    | false => rw [if_neg (by simp)]; rfl
    | true =>
      rw [if_pos rfl]
      have hb := okLetter_bounds h1
      rw [wrap_id (x := (i : Int) + 1) (by omega), succ_cast, hrec]
      by_cases h0 : i = 0
      · subst h0
        rw [if_neg (by omega)]
        have : decide (prev xs 0 < c) = true := decide_eq_true (by unfold prev; rw [if_pos rfl]; omega)
        rw [this]
        simp only [Bool.true_and]
      · rw [if_pos (by omega), wrap_id (by omega), if_pos (by omega), if_pos (by omega)]
        have hp : prev xs i = rd xs ((i : Int) - 1) := by unfold prev; rw [if_neg h0]
        rw [hp]
        by_cases h2 : rd xs ((i : Int) - 1) ≥ c
        · rw [if_pos h2, decide_eq_false (by omega)]
          simp
        · rw [if_neg h2, decide_eq_true (show rd xs ((i : Int) - 1) < c by omega)]
          simp only [Bool.true_and]
theorem spec_l0 (ms : List ByteArray) (hl : ms.length ≤ 10) (xs : List Int) (hx : xs.length ≤ 1099511627776) : ∀ (t : List Int) (i k : Nat), xs.drop i = t → (i : Int) - 1 ≤ prev xs i → prev xs i ≤ (ms.length : Int) - 1 → i ≤ xs.length → 2 * t.length + 2 < k →
    spec_l11Letters.l0 k xs (i : Int) ms = some (asc ms (prev xs i) t && decide ((xs.length : Int) > 0)) := by
  intro t
  induction t with
  | nil =>
    intro i k h hp1 hp2 hil hk
    obtain ⟨k, rfl⟩ := pred_of_lt hk
    obtain ⟨k, rfl⟩ := pred_of_lt (show 0 < k by omega)
    have := List.drop_eq_nil_iff.1 h
    simp only [spec_l11Letters.l0]
    rw [if_neg (by omega)]
    simp only [spec_l11Letters.j1]
    rw [if_neg (by simp), inB, Option.bind_some, decide_eq_true (show (xs.length : Int) ≤ 10 by omega), Bool.and_true]
    unfold asc
    rw [Bool.true_and]
    exact congrArg some (decide_eq_decide.2 (by omega))
  | cons c t ih =>
    intro i k h hp1 hp2 hil hk
    obtain ⟨k, rfl⟩ := pred_of_lt hk
    obtain ⟨k, rfl⟩ := pred_of_lt (show 0 < k by omega)
    obtain ⟨hi, hr, hd, hg⟩ := Ints.rd_at h
    simp only [spec_l11Letters.l0]
    rw [if_pos (by omega)]
    simp only [spec_l11Letters.j1]
    rw [if_pos (decide_eq_true (by omega)), if_pos (by omega), if_pos (by omega), hr, inB, wrap_id (x := (ms.length : Int) - 1) (by omega), Option.bind_some]
    have e : (decide ((0 : Int) ≤ c) && decide (c ≤ (ms.length : Int) - 1)) = okLetter ms c := rfl
    rw [e]
    conv => rhs; unfold asc
    cases h1 : okLetter ms c with
    | false => rw [if_neg (by simp)]; rfl
    | true =>
      rw [if_pos rfl]
      have hb := okLetter_bounds h1
      rw [wrap_id (x := (i : Int) + 1) (by omega), succ_cast]
      by_cases h0 : i = 0
      · have hp : prev xs i = -1 := by unfold prev; rw [if_pos h0]
        have hrec := ih (i + 1) k hd (by rw [prev_succ, hr]; omega) (by rw [prev_succ, hr]; omega) (by omega) (by simp only [List.length_cons] at hk; omega)
        rw [prev_succ, hr] at hrec
        rw [if_neg (by omega), hrec, hp, decide_eq_true (show (-1 : Int) < c by omega)]
        simp only [Bool.true_and]
      · rw [if_pos (by omega), wrap_id (by omega), if_pos (by omega), if_pos (by omega)]
        have hp : prev xs i = rd xs ((i : Int) - 1) := by unfold prev; rw [if_neg h0]
        rw [← hp]
        by_cases h2 : prev xs i ≥ c
        · rw [if_pos h2, decide_eq_false (by omega)]
          simp
        · have hrec := ih (i + 1) k hd (by rw [prev_succ, hr]; omega) (by rw [prev_succ, hr]; omega) (by omega) (by simp only [List.length_cons] at hk; omega)
          rw [prev_succ, hr] at hrec
          rw [if_neg h2, hrec, decide_eq_true (show prev xs i < c by omega)]
          simp only [Bool.true_and]
theorem areLetters (ms : List ByteArray) (hl : ms.length ≤ 1048576) (xs : List Int) (hx : xs.length ≤ 1099511627776) (k : Nat) (hk : xs.length < k) : impl_areLetters.f k ms xs = some (okLetters ms xs) :=
  impl_l0 ms hl xs hx xs 0 k rfl hk
theorem l11Letters (ms : List ByteArray) (h1 : 1 ≤ ms.length) (hl : ms.length ≤ 10) (xs : List Int) (hx : xs.length ≤ 1099511627776) (k : Nat) (hk : 2 * xs.length + 2 < k) : spec_l11Letters.f k ms xs = some (okLetters ms xs) :=
  spec_l0 ms hl xs hx xs 0 k rfl (by unfold prev; rw [if_pos rfl]; omega) (by unfold prev; rw [if_pos rfl]; omega) (Nat.zero_le _) hk
end Go.Proofs.YtoehcdjndnmmlaaDoor.Asc
