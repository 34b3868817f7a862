/- What the library's strings.Trim answers, as a given of the evaluator; out of the shelf's contract. -/
import Derived.Test.YtoehcdjndnmmlaaDoorShelf
import Derived.Test.YtoehcdjndnmmlaaDoorEvOpen
import Derived.Shelf.Strings.SlTrimAscii
set_option linter.unusedVariables false
namespace Go.Proofs.YtoehcdjndnmmlaaDoor.Ev
def trimP : List AV → Hp → Option (AV × Hp)
  | [.v (.string s), .v (.string c)], H => if s.size ≤ 9223372036854775807 ∧ c.size < 4294967281 ∧ c.data.toList.all (fun b => decide (b.toNat < 128)) = true then some (st ⟨(Lib.trimS s.data.toList c.data.toList).toArray⟩, H) else none
  | _, _ => none
theorem ascii_all {l : List UInt8} (h : l.all (fun b => decide (b.toNat < 128)) = true) : ∀ (j : Nat) (b : UInt8), l[j]? = some b → b.toNat < 128 := by
  intro j b hb
  simpa using List.all_eq_true.1 h b (List.mem_of_getElem? hb)
theorem trim_ok (xs : List AV) (H : Hp) (res : AV) (H' : Hp) (h : trimP xs H = some (res, H')) : Callable Go.Proofs.Tryd.prog 90 ∧
    ∀ (base : Nat) (M : Nat → Prop) (ρ : Rho) (w : World) (vs : Array Value), True → 0 ≤ base → base ≤ w.heap.size → HR base M ρ H w → Args M ρ w xs vs → Calls Go.Proofs.Tryd.prog 90 vs w (Ans base M ρ H w res H') := by
  refine ⟨⟨_, Go.Proofs.Tryd.func90, by kernel_rfl, by kernel_rfl⟩, fun base M ρ w vs _ _ _ hH hA => ?_⟩
  unfold trimP at h
  split at h
  · split at h
    · rename_i s c hc
      cases h
      rw [args_two hA]
      refine (Any.strings_Trim_laid Go.Proofs.Tryd.lays160 (by kernel_rfl) s c w hc.1 hc.2.1 (ascii_all hc.2.2)).mono ?_
      rintro e w' ⟨rfl, hb⟩
      exact below_ans hH hb .v
    · cases h
  · cases h
end Go.Proofs.YtoehcdjndnmmlaaDoor.Ev
