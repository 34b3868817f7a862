/- The text of a table: its marks with commas between; the new station. -/
import Derived.Test.YtgecnbafmlecjaaGreatDoorEvTab
set_option linter.unusedVariables false
set_option linter.unusedSimpArgs false
namespace Go.Proofs.YtgecnbafmlecjaaGreatDoor.Ev
theorem B_append (s t : ByteArray) : B (s ++ t) = B s ++ B t := by unfold B; simp
theorem B_inj {s t : ByteArray} (h : B s = B t) : s = t := ByteArray.ext (Array.ext' h)
theorem B_mk (l : List UInt8) : B ⟨l.toArray⟩ = l := by unfold B; simp
def stepT (i : Nat) (s m : ByteArray) : ByteArray := if i = 0 then s ++ m else (s ++ ⟨#[44]⟩) ++ m
def textL : Nat → ByteArray → List ByteArray → ByteArray
  | _, s, [] => s
  | i, s, m :: t => textL (i + 1) (stepT i s m) t
def lensT : List ByteArray → Nat
  | [] => 0
  | m :: t => (m.size + 1) + lensT t
theorem lensT_le {c : Nat} : ∀ (t : List ByteArray), (∀ x ∈ t, x.size ≤ c) → lensT t ≤ t.length * (c + 1)
  | [], _ => by simp [lensT]
  | m :: t, h => by
    have h1 := lensT_le t (fun x hx => h x (by simp [hx]))
    have h2 := h m (by simp)
    rw [lensT, List.length_cons, Nat.succ_mul]
    omega
theorem stepT_size (i : Nat) (s m : ByteArray) : (stepT i s m).size ≤ s.size + (m.size + 1) := by
  have h1 : (⟨#[44]⟩ : ByteArray).size = 1 := rfl
  unfold stepT
  split <;> simp only [ByteArray.size_append, h1] <;> omega
theorem textL_tail : ∀ (t : List ByteArray) (i : Nat) (s : ByteArray), B (textL (i + 1) s t) = B s ++ Lib.joinTail [44] (t.map (·.data.toList))
  | [], i, s => by simp [textL, Lib.joinTail]
  | m :: t, i, s => by
    have h1 : stepT (i + 1) s m = (s ++ ⟨#[44]⟩) ++ m := by unfold stepT; rw [if_neg (by omega)]
    have h2 : B (⟨#[44]⟩ : ByteArray) = [44] := rfl
    rw [textL, textL_tail t (i + 1), h1, B_append, B_append, h2]
    simp [Lib.joinTail, B]
/-- The library's Join gives the same. -/
theorem textL_join (ms : List ByteArray) : textL 0 ⟨#[]⟩ ms = ⟨(joinB ms ⟨#[44]⟩).toArray⟩ := by
  refine B_inj (Eq.trans ?_ (B_mk _).symm)
  cases ms with
  | nil => rfl
  | cons m t =>
    have h1 : stepT 0 ⟨#[]⟩ m = m := by
      unfold stepT
      rw [if_pos rfl]
      refine B_inj ?_
      rw [B_append]
      rfl
    have h2 : (⟨#[44]⟩ : ByteArray).data.toList = [44] := rfl
    rw [textL, h1, textL_tail]
    unfold joinB
    rw [List.map_cons, Lib.join_cons, h2]
    rfl
theorem textL_size : ∀ (t : List ByteArray) (i : Nat) (s : ByteArray), (textL i s t).size ≤ s.size + lensT t
  | [], i, s => by simp [textL, lensT]
  | m :: t, i, s => by
    have h1 := textL_size t (i + 1) (stepT i s m)
    have h2 := stepT_size i s m
    rw [textL, lensT]
    omega
end Go.Proofs.YtgecnbafmlecjaaGreatDoor.Ev
