/- Lists of whole numbers: copied and compared by what the laws do with them. -/
import Derived.Test.YtoehcdjndnmmlaaDoorPAg4
import Derived.Test.YtoehcdjndnmmlaaDoorPAg23
import Derived.Test.YtoehcdjndnmmlaaDoorLists
set_option linter.unusedVariables false
set_option linter.unusedSimpArgs false
namespace Go.Proofs.YtoehcdjndnmmlaaDoor.Ints
open Go.RowKit Go.Proofs.YtoehcdjndnmmlaaDoor.PA Go.Proofs.YtoehcdjndnmmlaaDoorW.PrintWords Go.Proofs.YtoehcdjndnmmlaaDoor.U Go.Proofs.YtoehcdjndnmmlaaDoor.Lists
theorem rd_at {xs : List Int} {i : Nat} {c : Int} {t : List Int} (h : xs.drop i = c :: t) : i < xs.length ∧ rd xs (i : Int) = c ∧ xs.drop (i + 1) = t ∧ xs[i]? = some c := by
  have hi : i < xs.length := by
    apply Nat.lt_of_not_le
    intro hle
    rw [List.drop_eq_nil_of_le hle] at h
    cases h
  rw [List.drop_eq_getElem_cons hi] at h
  injection h with h1 h2
  have h3 : xs[i]? = some c := by rw [List.getElem?_eq_getElem hi, h1]
  refine ⟨hi, ?_, h2, h3⟩
  unfold rd
  rw [Int.toNat_natCast, List.getD_eq_getElem?_getD, h3]
  rfl
theorem eq_l0 (xs : List Int) (hx : xs.length ≤ 1099511627776) : ∀ (m i k : Nat), i + m = xs.length → m < k → laws_eqIntS.l0 k xs xs (i : Int) = some true := by
  intro m
  induction m with
  | zero =>
    intro i k hi hk
    obtain ⟨k, rfl⟩ := pred_of_lt hk
    simp only [laws_eqIntS.l0]
    rw [if_neg (by omega)]
  | succ m ih =>
    intro i k hi hk
    obtain ⟨k, rfl⟩ := pred_of_lt hk
    simp only [laws_eqIntS.l0]
    rw [if_pos (by omega), if_pos (by omega), if_pos (by omega), if_pos trivial, wrap_id (by omega), succ_cast]
    exact ih (i + 1) k (by omega) (by omega)
theorem eqIntS (xs : List Int) (hx : xs.length ≤ 1099511627776) (k : Nat) (hk : xs.length < k) : laws_eqIntS.f k xs xs = some true := by
  unfold laws_eqIntS.f
  rw [if_pos rfl]
  exact eq_l0 xs hx xs.length 0 k (by omega) hk
theorem to_l0 (xs : List Int) (hx : xs.length ≤ 1099511627776) : ∀ (t : List Int) (ys : List Int) (i k : Nat), xs.drop i = t → ys.length = xs.length → ys.take i = xs.take i → t.length < k → laws_toIntS.l0 k xs ys (i : Int) = some xs := by
  intro t
  induction t with
  | nil =>
    intro ys i k h hy he hk
    obtain ⟨k, rfl⟩ := pred_of_lt hk
    have := List.drop_eq_nil_iff.1 h
    simp only [laws_toIntS.l0]
    rw [if_neg (by omega)]
    rw [List.take_of_length_le (by omega), List.take_of_length_le this] at he
    rw [he]
  | cons c t ih =>
    intro ys i k h hy he hk
    obtain ⟨k, rfl⟩ := pred_of_lt hk
    obtain ⟨hi, hr, hd, hg⟩ := rd_at h
    simp only [laws_toIntS.l0]
    have e0 : ((i : Int)).toNat = i := by omega
    rw [if_pos (by omega), if_pos (by omega), if_pos (by omega), hr, wrap_id (by omega), succ_cast, e0]
    refine ih _ (i + 1) k hd (by rw [List.length_set]; exact hy) ?_ (by simpa using hk)
    have hgi : xs[i] = c := by
      rw [List.getElem?_eq_getElem hi] at hg
      exact Option.some.inj hg
    have hyi : i < (ys.set i c).length := by rw [List.length_set]; omega
    rw [List.take_succ_eq_append_getElem hyi, List.take_succ_eq_append_getElem hi, List.getElem_set_self, hgi, List.take_set_of_le (Nat.le_refl _), he]
theorem toIntS (xs : List Int) (hx : xs.length ≤ 1099511627776) (k : Nat) (hk : xs.length < k) : laws_toIntS.f k xs = some xs := by
  unfold laws_toIntS.f
  rw [if_pos (by omega), if_pos (by omega)]
  have e0 : (((xs.length : Int)) : Int).toNat = xs.length := by omega
  rw [e0]
  exact to_l0 xs hx xs _ 0 k rfl (by simp) rfl hk
end Go.Proofs.YtoehcdjndnmmlaaDoor.Ints
