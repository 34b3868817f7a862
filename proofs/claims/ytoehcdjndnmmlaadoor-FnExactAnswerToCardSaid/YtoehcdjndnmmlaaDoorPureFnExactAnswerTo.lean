/- FnExactAnswerTo: what the printed law comes to, over numbers and lists alone, answers true. -/
import Derived.Test.YtoehcdjndnmmlaaDoorPAg3
import Derived.Test.YtoehcdjndnmmlaaDoorTab
set_option linter.unusedVariables false
set_option linter.unusedSimpArgs false
namespace Go.Proofs.YtoehcdjndnmmlaaDoor.Pure
open Go.RowKit Go.Proofs.YtoehcdjndnmmlaaDoor.PA Go.Proofs.YtoehcdjndnmmlaaDoorW.PrintWords Go.Proofs.YtoehcdjndnmmlaaDoorW.PrintLast Go.Proofs.YtoehcdjndnmmlaaDoor.U Go.Proofs.YtoehcdjndnmmlaaDoor.Lists Go.Proofs.YtoehcdjndnmmlaaDoor.Tab

theorem answer_some (ms : List ByteArray) (a b : Int) (ha : 0 ≤ a ∧ a < (ms.length : Int)) (hb : 0 ≤ b) : ∃ v, spec_l11Answer.f ms a b = some v ∧ impl_answer.f ms a b = some v := by
  have e : impl_answer.f ms a b = spec_l11Answer.f ms a b := rfl
  rw [e]
  unfold spec_l11Answer.f
  rw [if_pos ha.1, if_pos ha.2]
  by_cases h1 : b ≥ ((rdOf ByteArray.empty ms a).size : Int)
  · rw [if_pos h1]; exact ⟨_, rfl, rfl⟩
  · rw [if_neg h1, if_pos hb, if_pos (by omega)]
    split
    · exact ⟨_, rfl, rfl⟩
    · exact ⟨_, rfl, rfl⟩
theorem answerTo (ms : List ByteArray) (hl : ms.length ≤ 1048576) (hs : ∀ x ∈ ms, x.size ≤ 1048576) (a b : Int) (k : Nat) (hk : 2 * ms.length + 2100000 < k) : ∃ v ok, spec_AnswerTo.f k ms a b = some (v, ok) ∧ impl_AnswerTo.f k ms a b = some (v, ok) := by
  unfold spec_AnswerTo.f impl_AnswerTo.f
  rw [l6Letter ms hl hs a k hk, isTable ms hl hs k (by omega), Option.bind_some, Option.bind_some, isLetter ms hl]
  cases h1 : okTable ms with
  | false => rw [if_neg (by simp), if_neg (by simp)]; exact ⟨_, _, rfl, rfl⟩
  | true =>
    rw [if_pos (show true = true from rfl), Option.bind_some]
    cases h2 : okLetter ms a with
    | false => rw [if_neg (by simp), if_neg (by simp)]; exact ⟨_, _, rfl, rfl⟩
    | true =>
      unfold impl_isPlace.f
      rw [Bool.and_self, if_pos rfl, if_pos rfl, inB, inI, Option.bind_some, Option.bind_some, Option.bind_some]
      cases h3 : (decide (0 ≤ b) && decide (b ≤ 4)) with
      | false => rw [if_neg (by simp), if_neg (by simp)]; exact ⟨_, _, rfl, rfl⟩
      | true =>
        have h4 : 0 ≤ b := by
          simp only [Bool.and_eq_true, decide_eq_true_eq] at h3
          exact h3.1
        obtain ⟨v, e1, e2⟩ := answer_some ms a b (okLetter_bounds h2) h4
        rw [if_pos rfl, if_pos rfl, e1, e2]
        exact ⟨_, _, rfl, rfl⟩
theorem FnExactAnswerTo : ∀ (l0_0 : List ByteArray) (a1 : Int) (a2 : Int), (l0_0.length ≤ maxLen ∧ ∀ x ∈ l0_0, x.size ≤ maxLen) → (Lit.int .i64 a1).wf = true → (Lit.int .i64 a2).wf = true → ∃ k, laws_FnExactAnswerTo.f k l0_0 a1 a2 = some true := by
  intro ms a b hm ha hb
  unfold maxLen at hm
  obtain ⟨hm1, hm2⟩ := hm
  obtain ⟨k, hk⟩ : ∃ k, k = 2 * ms.length + 2100010 := ⟨_, rfl⟩
  refine ⟨k, ?_⟩
  unfold laws_FnExactAnswerTo.f
  rcases szTable ms (by omega) (fun x hx => hm2 x hx) 1048576 (by omega) (by omega) k (by omega) with h | ⟨r, h, h1, h2, h3, h4⟩
  · rw [h, Option.bind_some, if_pos (by omega)]
  · have hs : ∀ x ∈ ms, x.size ≤ 1048576 := fun x hx => by have := h4 x hx; omega
    rw [h, Option.bind_some, if_neg (by omega), toTable ms (by omega) k (by omega), Option.bind_some]
    obtain ⟨v, ok, e1, e2⟩ := answerTo ms h3 hs a b k (by omega)
    rw [e1, Option.bind_some, Option.bind_some, e2, Option.bind_some, if_pos rfl]
    obtain ⟨q, rfl⟩ := pred_of_lt (show 0 < k by omega)
    simp only [laws_FnExactAnswerTo.j0]
    rw [if_neg (by simp), toTable ms (by omega) q (by omega), Option.bind_some, eqTable ms (by omega) q (by omega), Option.bind_some, if_pos rfl]
end Go.Proofs.YtoehcdjndnmmlaaDoor.Pure
