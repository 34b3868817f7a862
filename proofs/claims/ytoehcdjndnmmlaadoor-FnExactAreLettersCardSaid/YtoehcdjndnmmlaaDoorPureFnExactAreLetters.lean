/- FnExactAreLetters: what the printed law comes to, over numbers and lists alone, answers true. -/
import Derived.Test.YtoehcdjndnmmlaaDoorPAg4
import Derived.Test.YtoehcdjndnmmlaaDoorAsc
set_option linter.unusedVariables false
set_option linter.unusedSimpArgs false
namespace Go.Proofs.YtoehcdjndnmmlaaDoor.Pure
open Go.RowKit Go.Proofs.YtoehcdjndnmmlaaDoor.PA Go.Proofs.YtoehcdjndnmmlaaDoorW.PrintWords Go.Proofs.YtoehcdjndnmmlaaDoorW.PrintLast Go.Proofs.YtoehcdjndnmmlaaDoor.U Go.Proofs.YtoehcdjndnmmlaaDoor.Lists Go.Proofs.YtoehcdjndnmmlaaDoor.Tab Go.Proofs.YtoehcdjndnmmlaaDoor.Ints Go.Proofs.YtoehcdjndnmmlaaDoor.Asc

theorem areLetters_eq (ms : List ByteArray) (hl : ms.length ≤ 1048576) (hs : ∀ x ∈ ms, x.size ≤ 1048576) (xs : List Int) (hx : xs.length ≤ 1048576) (k : Nat) (hk : 2 * ms.length + 2 * xs.length + 2100000 < k) :
    ∃ v ok, spec_AreLetters.f k ms xs = some (v, ok) ∧ impl_AreLetters.f k ms xs = some (v, ok) := by
  unfold spec_AreLetters.f impl_AreLetters.f
  rw [l2Table ms hl hs k (by omega), isTable ms hl hs k (by omega), Option.bind_some, Option.bind_some]
  cases h1 : okTable ms with
  | false => rw [if_neg (by simp), if_neg (by simp)]; exact ⟨_, _, rfl, rfl⟩
  | true =>
    obtain ⟨h2, h3⟩ := okTable_len h1
    rw [if_pos rfl, if_pos rfl, areLetters ms hl xs (by omega) k (by omega), l11Letters ms h2 h3 xs (by omega) k (by omega)]
    exact ⟨_, _, rfl, rfl⟩
theorem FnExactAreLetters : ∀ (l0_0 : List ByteArray) (l1 : List Int), (l0_0.length ≤ maxLen ∧ ∀ x ∈ l0_0, x.size ≤ maxLen) → (l1.length ≤ maxLen ∧ ∀ x ∈ l1, (Lit.int .i64 x).wf = true) → ∃ k, laws_FnExactAreLetters.f k l0_0 l1 = some true := by
  intro ms xs hm hx0
  unfold maxLen at hm
  obtain ⟨hm1, hm2⟩ := hm
  obtain ⟨k, hk⟩ : ∃ k, k = 2 * ms.length + 2 * xs.length + 2100010 := ⟨_, rfl⟩
  refine ⟨k, ?_⟩
  unfold laws_FnExactAreLetters.f
  by_cases hx : (xs.length : Int) > 1048576
  · rw [if_pos hx]
  · rw [if_neg hx]
    rcases szTable ms (by omega) (fun x hx => hm2 x hx) 1048576 (by omega) (by omega) k (by omega) with h | ⟨r, h, h1, h2, h3, h4⟩
    · rw [h, Option.bind_some, if_pos (by omega)]
    · have hs : ∀ x ∈ ms, x.size ≤ 1048576 := fun x hx => by have := h4 x hx; omega
      rw [h, Option.bind_some, if_neg (by omega), toTable ms (by omega) k (by omega), Option.bind_some, toIntS xs (by omega) k (by omega), Option.bind_some]
      obtain ⟨v, ok, e1, e2⟩ := areLetters_eq ms h3 hs xs (by omega) k (by omega)
      rw [e1, Option.bind_some, Option.bind_some, Option.bind_some, e2, Option.bind_some, if_neg (by simp)]
      obtain ⟨q, rfl⟩ := pred_of_lt (show 0 < k by omega)
      simp only [laws_FnExactAreLetters.j0]
      rw [if_neg (by simp), toTable ms (by omega) q (by omega), Option.bind_some, eqTable ms (by omega) q (by omega), Option.bind_some, if_pos rfl, toIntS xs (by omega) q (by omega), Option.bind_some, eqIntS xs (by omega) q (by omega), Option.bind_some, if_pos rfl]
end Go.Proofs.YtoehcdjndnmmlaaDoor.Pure
