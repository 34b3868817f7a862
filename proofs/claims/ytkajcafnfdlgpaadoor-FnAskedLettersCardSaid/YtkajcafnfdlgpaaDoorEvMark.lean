/- The marks that the laws write into what a function was given or gave back: their texts, rows of numbers and of texts. -/
import Derived.Test.YtkajcafnfdlgpaaDoorEvHeard
import Derived.Test.YtkajcafnfdlgpaaDoorEvBD
set_option linter.unusedVariables false
set_option linter.unusedSimpArgs false
namespace Go.Proofs.YtkajcafnfdlgpaaDoor.Ev
-- ---------------------------------------------------------------- rows of numbers
def seqI : Int → Nat → List Int
  | _, 0 => []
  | c, n + 1 => c :: seqI (c + 1) n
theorem seqI_len : ∀ (n : Nat) (c : Int), (seqI c n).length = n
  | 0, c => rfl
  | n + 1, c => by rw [seqI, List.length_cons, seqI_len n]
theorem hget_set {H : Hp} {id : Nat} {b : Blk} (h : id < H.length) : hget (H.set id (some b)) id = some b := by
  unfold hget
  rw [List.getElem?_set_self h]
theorem set_same {H : Hp} {id : Nat} {b : Blk} (h : hget H id = some b) : H.set id (some b) = H := by
  have h1 := hget_some h
  obtain ⟨hi, h2⟩ := List.getElem?_eq_some_iff.1 h1
  rw [← h2]
  exact List.set_getElem_self hi
theorem stable_set {H : Hp} {id : Nat} {b : Blk} (hs : Stable H) (h : hget H id = some b) (hk : b.kd ≠ 0) (ty k kd : Nat) (ro : Bool) (hk2 : kd ≠ 0) : ∀ es, Stable (H.set id (some ⟨ty, k, kd, ro, es⟩)) := fun es => hs.set (hget_some h) hk hk2
def digB (n : Nat) : UInt8 := UInt8.ofNat (IntKind.u8.wrap (48 + ((n % 10 : Nat) : Int))).toNat
def dig : Nat → Nat → ByteArray → ByteArray
  | 0, _, s => s
  | k + 1, n, s => if n = 0 then s else dig k (n / 10) (⟨#[digB n]⟩ ++ s)
theorem dig_size : ∀ (k n : Nat) (s : ByteArray), (dig k n s).size ≤ s.size + k
  | 0, n, s => by simp [dig]
  | k + 1, n, s => by
    unfold dig
    split
    · omega
    · have := dig_size k (n / 10) (⟨#[digB n]⟩ ++ s)
      rw [ByteArray.size_append] at this
      have h1 : (⟨#[digB n]⟩ : ByteArray).size = 1 := rfl
      omega
def markT (c : Nat) : ByteArray := ⟨#[109]⟩ ++ dig c c ⟨#[]⟩
def seqT : Nat → Nat → List ByteArray
  | _, 0 => []
  | c, n + 1 => markT c :: seqT (c + 1) n
theorem seqT_len : ∀ (n c : Nat), (seqT c n).length = n
  | 0, c => rfl
  | n + 1, c => by rw [seqT, List.length_cons, seqT_len n]
@[simp] theorem take_i64s (l : List Int) : List.take l.length (i64s l) = i64s l := List.take_of_length_le (by rw [i64s_len]; exact Nat.le_refl _)
@[simp] theorem take_seqI (c : Int) (n : Nat) : List.take n (i64s (seqI c n)) = i64s (seqI c n) := List.take_of_length_le (by rw [i64s_len, seqI_len]; exact Nat.le_refl _)
theorem stable_of {H : Hp} (h1 : (oldIds H).all (fun q => decide (q < H.length)) = true) (h2 : rnmH (newId H.length []) H = some H) : Stable H := ⟨fun q hq => by simpa using List.all_eq_true.1 h1 q hq, h2⟩
end Go.Proofs.YtkajcafnfdlgpaaDoor.Ev
