/- Signals: the words of a text, whether it is a signal, the signal of a message (the reference's functions). -/
import Derived.Test.YtgecnbafmlecjaaGreatDoorEvStation
set_option linter.unusedVariables false
set_option linter.unusedSimpArgs false
namespace Go.Proofs.YtgecnbafmlecjaaGreatDoor.Ev
/-- A row of texts, as an element of another row. -/
def wd (w : List ByteArray) : AV := .lst 1 (w.map st)
def wordsOf (s : ByteArray) : List (List ByteArray) := (partsB 47 s).map (partsB 32)
theorem partsB_sz (b : UInt8) (s : ByteArray) : (partsB b s).length ≤ s.size + 1 ∧ ∀ x ∈ partsB b s, x.size ≤ s.size := by
  have h := partsB_lens b s
  have h2 := lensT_len (partsB b s)
  refine ⟨by omega, fun x hx => ?_⟩
  have := lensT_mem hx
  omega
def cntW : List (List ByteArray) → Nat
  | [] => 0
  | w :: r => w.length + 1 + cntW r
def okLs (w : List ByteArray) : Bool := w.all (okMarks · 1 5)
def okSig (s : ByteArray) : Bool := decide (s = ⟨#[]⟩) || (decide (s.size ≤ 72) && (wordsOf s).all okLs && decide ((cntW (wordsOf s) : Int) - 1 ≤ 12))
theorem wordsOf_sz (s : ByteArray) : (wordsOf s).length ≤ s.size + 1 ∧ (∀ w ∈ wordsOf s, w.length ≤ s.size + 1) ∧ ∀ w ∈ wordsOf s, ∀ x ∈ w, x.size ≤ s.size := by
  obtain ⟨h1, h2⟩ := partsB_sz 47 s
  unfold wordsOf
  refine ⟨by simpa using h1, fun w hw => ?_, fun w hw x hx => ?_⟩
  · obtain ⟨p, hp, rfl⟩ := List.mem_map.1 hw
    have := (partsB_sz 32 p).1
    have := h2 p hp
    omega
  · obtain ⟨p, hp, rfl⟩ := List.mem_map.1 hw
    have := (partsB_sz 32 p).2 x hx
    have := h2 p hp
    omega
end Go.Proofs.YtgecnbafmlecjaaGreatDoor.Ev
