/- The draws of letters of a table, and of the laws' arguments. -/
import Derived.Test.YtckfbfgfjlgmeaaGreatDoorEvDrawBs
set_option linter.unusedVariables false
set_option linter.unusedSimpArgs false
namespace Go.Proofs.YtckfbfgfjlgmeaaGreatDoor.Ev.Dr
/-- A table's rows, as a value: none, or a slice of the memory's first blocks. -/
def TabAt (H : Hp) (id : Nat) (n : Nat) (T : AV) : Prop := (T = .v (.slice none 0 0) ∧ n = 0) ∨ ∃ i b, T = .sl i 0 n ∧ i ≠ id ∧ hget H i = some b
theorem stable_L {H : Hp} (hs : Stable H) {id n : Nat} {T : AV} (hT : TabAt H id n T) (r : List Int) : Stable (H ++ [some (tv T), some (ib r)]) := by
  rcases hT with ⟨rfl, _⟩ | ⟨i, b, rfl, _, hb⟩
  · exact stable_leaves hs [tv _, ib r] (by intro b hb; simp at hb; rcases hb with rfl | rfl <;> exact ⟨rfl, fun _ => rfl⟩)
  · have hi := id_lt hb
    refine stable_ex hs (fun q hq => ?_) ?_
    · rw [List.mem_singleton.1 (show q ∈ [i] from hq)]
      simp; omega
    · have h3 : newId (H.length + [some (tv (.sl i 0 n)), some (ib r)].length) [] i = some i := by
        unfold newId
        rw [if_pos (by simp; omega)]
      generalize newId (H.length + [some (tv (.sl i 0 n)), some (ib r)].length) [] = f at h3
      simp -implicitDefEqProofs [tv, ib, h3]
end Go.Proofs.YtckfbfgfjlgmeaaGreatDoor.Ev.Dr
