/- Lists of texts: read, copied, compared, measured by what the laws do with them. -/
import Derived.Test.YtoehcdjndnmmlaaDoorPAg15
import Derived.Test.YtoehcdjndnmmlaaDoorLib
set_option linter.unusedVariables false
set_option linter.unusedSimpArgs false
namespace Go.Proofs.YtoehcdjndnmmlaaDoor.Lists
open Go.RowKit Go.Proofs.YtoehcdjndnmmlaaDoor.PA Go.Proofs.YtoehcdjndnmmlaaDoorW.PrintWords Go.Proofs.YtoehcdjndnmmlaaDoor.U
instance memDec (x : ByteArray) (xs : List ByteArray) : Decidable (x ∈ xs) := decidable_of_iff (xs.any (fun y => decide (y = x)) = true) (by simp)
theorem rdS_at {xs : List ByteArray} {i : Nat} {c : ByteArray} {t : List ByteArray} (h : xs.drop i = c :: t) : i < xs.length ∧ rdOf ByteArray.empty xs (i : Int) = c ∧ xs.drop (i + 1) = t ∧ xs[i]? = some c := by
  have hi : i < xs.length := by
    apply Nat.lt_of_not_le
    intro hle
    rw [List.drop_eq_nil_of_le hle] at h
    cases h
  rw [List.drop_eq_getElem_cons hi] at h
  injection h with h1 h2
  have h3 : xs[i]? = some c := by rw [List.getElem?_eq_getElem hi, h1]
  refine ⟨hi, ?_, h2, h3⟩
  unfold rdOf
  rw [Int.toNat_natCast, List.getD_eq_getElem?_getD, h3]
  rfl
theorem succ_cast (i : Nat) : (i : Int) + 1 = ((i + 1 : Nat) : Int) := by omega
theorem eq_l0 (xs : List ByteArray) (hx : xs.length ≤ 1099511627776) : ∀ (m i k : Nat), i + m = xs.length → m < k → laws_eqStringS.l0 k xs xs (i : Int) = some true := by
  intro m
  induction m with
  | zero =>
    intro i k hi hk
    obtain ⟨k, rfl⟩ := pred_of_lt hk
    simp only [laws_eqStringS.l0]
    rw [if_neg (by omega)]
  | succ m ih =>
    intro i k hi hk
    obtain ⟨k, rfl⟩ := pred_of_lt hk
    simp only [laws_eqStringS.l0]
    rw [if_pos (by omega), if_pos (by omega), if_pos (by omega), if_pos trivial, wrap_id (by omega), succ_cast]
    exact ih (i + 1) k (by omega) (by omega)
theorem eqStringS (xs : List ByteArray) (hx : xs.length ≤ 1099511627776) (k : Nat) (hk : xs.length < k) : laws_eqStringS.f k xs xs = some true := by
  unfold laws_eqStringS.f
  rw [if_pos rfl]
  exact eq_l0 xs hx xs.length 0 k (by omega) hk
theorem eqTable (xs : List ByteArray) (hx : xs.length ≤ 1099511627776) (k : Nat) (hk : xs.length < k) : laws_eqTable.f k xs xs = some true := by
  unfold laws_eqTable.f
  rw [eqStringS xs hx k hk, Option.bind_some, if_pos rfl]
theorem to_l0 (xs : List ByteArray) (hx : xs.length ≤ 1099511627776) : ∀ (t : List ByteArray) (ys : List ByteArray) (i k : Nat), xs.drop i = t → ys.length = xs.length → ys.take i = xs.take i → t.length < k → laws_toStringS.l0 k xs ys (i : Int) = some xs := by
  intro t
  induction t with
  | nil =>
    intro ys i k h hy he hk
    obtain ⟨k, rfl⟩ := pred_of_lt hk
    have := List.drop_eq_nil_iff.1 h
    simp only [laws_toStringS.l0]
    rw [if_neg (by omega)]
    rw [List.take_of_length_le (by omega), List.take_of_length_le this] at he
    rw [he]
  | cons c t ih =>
    intro ys i k h hy he hk
    obtain ⟨k, rfl⟩ := pred_of_lt hk
    obtain ⟨hi, hr, hd, hg⟩ := rdS_at h
    simp only [laws_toStringS.l0]
    have e0 : ((i : Int)).toNat = i := by omega
    rw [if_pos (by omega), if_pos (by omega), if_pos (by omega), hr, wrap_id (by omega), succ_cast, e0]
    refine ih _ (i + 1) k hd (by rw [List.length_set]; exact hy) ?_ (by simpa using hk)
    have hgi : xs[i] = c := by
      rw [List.getElem?_eq_getElem hi] at hg
      exact Option.some.inj hg
    have hyi : i < (ys.set i c).length := by rw [List.length_set]; omega
    rw [List.take_succ_eq_append_getElem hyi, List.take_succ_eq_append_getElem hi, List.getElem_set_self, hgi, List.take_set_of_le (Nat.le_refl _), he]
theorem toStringS (xs : List ByteArray) (hx : xs.length ≤ 1099511627776) (k : Nat) (hk : xs.length < k) : laws_toStringS.f k xs = some xs := by
  unfold laws_toStringS.f
  rw [if_pos (by omega), if_pos (by omega)]
  have e0 : (((xs.length : Int)) : Int).toNat = xs.length := by omega
  rw [e0]
  exact to_l0 xs hx xs _ 0 k rfl (by simp) rfl hk
theorem toTable (xs : List ByteArray) (hx : xs.length ≤ 1099511627776) (k : Nat) (hk : xs.length < k) : laws_toTable.f k xs = some xs := by
  unfold laws_toTable.f
  rw [toStringS xs hx k hk, Option.bind_some]
theorem sz_l0 (xs : List ByteArray) (hx : xs.length ≤ 9223372036854775807) (hs : ∀ x ∈ xs, x.size ≤ 9223372036854775807) : ∀ (t : List ByteArray) (i : Nat) (a : Int) (k : Nat), xs.drop i = t → 0 ≤ a → a ≤ 1048576 → t.length < k →
    laws_szStringS.l0 k xs a (i : Int) = some (-1) ∨ ∃ r : Int, laws_szStringS.l0 k xs a (i : Int) = some r ∧ 0 ≤ r ∧ r ≤ 1048576 ∧ ∀ x ∈ t, (x.size : Int) ≤ 1048576 := by
  intro t
  induction t with
  | nil =>
    intro i a k h ha ha2 hk
    obtain ⟨k, rfl⟩ := pred_of_lt hk
    have := List.drop_eq_nil_iff.1 h
    simp only [laws_szStringS.l0]
    rw [if_neg (by omega)]
    exact Or.inr ⟨a, rfl, ha, ha2, fun x hx => by cases hx⟩
  | cons c t ih =>
    intro i a k h ha ha2 hk
    obtain ⟨k, rfl⟩ := pred_of_lt hk
    obtain ⟨hi, hr, hd, hg⟩ := rdS_at h
    have hc : c.size ≤ 9223372036854775807 := hs c (List.mem_of_getElem? hg)
    simp only [laws_szStringS.l0]
    rw [if_pos (by omega), if_pos (by omega), hr, wrap_id (x := a - (c.size : Int)) (by omega)]
    by_cases h1 : a - (c.size : Int) < 0
    · rw [if_pos h1]; exact Or.inl rfl
    · rw [if_neg h1, wrap_id (by omega), succ_cast]
      rcases ih (i + 1) (a - (c.size : Int)) k hd (by omega) (by omega) (by simpa using hk) with h2 | ⟨r, h2, h3, h4, h5⟩
      · exact Or.inl h2
      · refine Or.inr ⟨r, h2, h3, h4, fun x hx => ?_⟩
        rcases List.mem_cons.1 hx with rfl | hx
        · omega
        · exact h5 x hx
theorem szTable (xs : List ByteArray) (hx : xs.length ≤ 9223372036854775807) (hs : ∀ x ∈ xs, x.size ≤ 9223372036854775807) (a : Int) (ha : 0 ≤ a) (ha2 : a ≤ 1048576) (k : Nat) (hk : xs.length < k) :
    laws_szTable.f k xs a = some (-1) ∨ ∃ r : Int, laws_szTable.f k xs a = some r ∧ 0 ≤ r ∧ r ≤ 1048576 ∧ xs.length ≤ 1048576 ∧ ∀ x ∈ xs, (x.size : Int) ≤ 1048576 := by
  unfold laws_szTable.f laws_szStringS.f
  rw [wrap_id (x := a - (xs.length : Int)) (by omega)]
  by_cases h1 : a - (xs.length : Int) < 0
  · rw [if_pos h1, Option.bind_some, if_pos (by omega)]
    exact Or.inl rfl
  · rw [if_neg h1]
    rcases sz_l0 xs hx hs xs 0 (a - (xs.length : Int)) k rfl (by omega) (by omega) hk with h2 | ⟨r, h2, h3, h4, h5⟩
    · have h2' : laws_szStringS.l0 k xs (a - (xs.length : Int)) 0 = some (-1) := h2
      rw [h2', Option.bind_some, if_pos (by omega)]
      exact Or.inl rfl
    · have h2' : laws_szStringS.l0 k xs (a - (xs.length : Int)) 0 = some r := h2
      rw [h2', Option.bind_some, if_neg (by omega)]
      exact Or.inr ⟨r, rfl, h3, h4, by omega, h5⟩
end Go.Proofs.YtoehcdjndnmmlaaDoor.Lists
