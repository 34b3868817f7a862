/- Tables turned, both programs. -/
import Derived.Test.YtgecnbafmlecjaaGreatDoorEvTa1
set_option linter.unusedVariables false
set_option linter.unusedSimpArgs false
namespace Go.Proofs.YtgecnbafmlecjaaGreatDoor.Ev
theorem chk_marks : ∀ (t seen : List ByteArray), chk seen t = true → ∀ m ∈ t, okMarks m 1 5 = true := by
  intro t
  induction t with
  | nil => intro seen _ m hm; cases hm
  | cons x t ih =>
    intro seen h m hm
    unfold chk at h
    simp only [Bool.and_eq_true] at h
    rcases List.mem_cons.1 hm with rfl | hm
    · exact h.1
    · exact ih _ h.2.2 m hm
theorem tab_marks {ms : List ByteArray} (h : okTable ms = true) : ∀ m ∈ ms, okMarks m 1 5 = true := by
  unfold okTable at h
  simp only [Bool.and_eq_true] at h
  exact chk_marks ms [] h.2
def tL (ms : List ByteArray) : Blk := ⟨26, 1, 0, false, [.agg [.lst 1 (ms.map st)]]⟩
end Go.Proofs.YtgecnbafmlecjaaGreatDoor.Ev
