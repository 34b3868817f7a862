/- Marks turned: for dots dashes, and from the end; tables of these. -/
import Derived.Test.YtgecnbafmlecjaaGreatDoorEvTurn
set_option linter.unusedVariables false
set_option linter.unusedSimpArgs false
namespace Go.Proofs.YtgecnbafmlecjaaGreatDoor.Ev
def u8v (b : UInt8) : AV := .v (.int .u8 (b.toNat : Int))
theorem u8s_map (l : List UInt8) : u8s l = l.map u8v := by
  induction l with
  | nil => rfl
  | cons b l ih => rw [List.map_cons, ← ih]; rfl
theorem u8s_len (l : List UInt8) : (u8s l).length = l.length := by rw [u8s_map]; simp
theorem u8s_at {l : List UInt8} {i : Nat} {x : UInt8} (hi : i < l.length) (hx : l[i] = x) : ∀ h, (u8s l)[i]'h = u8v x := by
  intro h
  have : (u8s l)[i]? = some (u8v x) := by rw [u8s_map, List.getElem?_map, List.getElem?_eq_getElem hi, hx]; rfl
  exact (List.getElem?_eq_some_iff.1 this).2
theorem bytesOf_u8s : ∀ l : List UInt8, bytesOf (u8s l) = some l
  | [] => rfl
  | b :: l => by
    show (bytesOf (u8s l)).bind _ = _
    rw [bytesOf_u8s l]
    simp
def revB (s : ByteArray) : ByteArray := ⟨(B s).reverse.toArray⟩
/-- A dash for each dot, a dot for each dash. -/
def oppB (s : ByteArray) : ByteArray := ⟨((B s).map fun b => if b = 46 then 45 else 46).toArray⟩
theorem opp_marks (s : ByteArray) (h : okMarks s 1 5 = true) : mapB opp s = oppB s := by
  unfold okMarks at h
  have ha : (B s).all okM = true := by simp only [Bool.and_eq_true] at h; exact h.1
  unfold mapB oppB B at *
  congr 2
  apply List.map_congr_left
  intro b hb
  have h1 := List.all_eq_true.1 ha b hb
  have h2 : b = 46 ∨ b = 45 := by simpa [okM] using h1
  rcases h2 with rfl | rfl <;> rfl
end Go.Proofs.YtgecnbafmlecjaaGreatDoor.Ev
