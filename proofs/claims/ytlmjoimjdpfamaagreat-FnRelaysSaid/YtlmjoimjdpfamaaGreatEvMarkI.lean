/- Lists of whole numbers, jobs and hops: marks laid into them, marks held by them. -/
import Derived.Test.YtlmjoimjdpfamaaGreatEvRelG
import Derived.Test.YtlmjoimjdpfamaaGreatEvBD
set_option linter.unusedVariables false
set_option linter.unusedSimpArgs false
namespace Go.Proofs.YtlmjoimjdpfamaaGreat.Ev.Mk
def seqI : Int → Nat → List Int
  | _, 0 => []
  | c, n + 1 => c :: seqI (c + 1) n
theorem seqI_len : ∀ (n : Nat) (c : Int), (seqI c n).length = n
  | 0, c => rfl
  | n + 1, c => by rw [seqI, List.length_cons, seqI_len n]
theorem hget_set {H : Hp} {id : Nat} {b : Blk} (h : id < H.length) : hget (H.set id (some b)) id = some b := by
  unfold hget
  rw [List.getElem?_set_self h]
theorem i64s_cons (x : Int) (l : List Int) : i64s (x :: l) = i64 x :: i64s l := rfl
theorem set_same {H : Hp} {id : Nat} {b : Blk} (h : hget H id = some b) : H.set id (some b) = H := by
  have h1 := hget_some h
  obtain ⟨hi, h2⟩ := List.getElem?_eq_some_iff.1 h1
  rw [← h2]
  exact List.set_getElem_self hi
theorem stable_set {H : Hp} {id : Nat} {b : Blk} (hs : Stable H) (h : hget H id = some b) (hk : b.kd ≠ 0) (ty k kd : Nat) (ro : Bool) (hk2 : kd ≠ 0) : ∀ es, Stable (H.set id (some ⟨ty, k, kd, ro, es⟩)) := fun es => hs.set (hget_some h) hk hk2
@[simp] theorem take_i64s (l : List Int) : List.take l.length (i64s l) = i64s l := List.take_of_length_le (by rw [i64s_len]; exact Nat.le_refl _)
@[simp] theorem take_seqI (c : Int) (n : Nat) : List.take n (i64s (seqI c n)) = i64s (seqI c n) := List.take_of_length_le (by rw [i64s_len, seqI_len]; exact Nat.le_refl _)
theorem stable_of {H : Hp} (h1 : (oldIds H).all (fun q => decide (q < H.length)) = true) (h2 : rnmH (newId H.length []) H = some H) : Stable H := ⟨fun q hq => by simpa using List.all_eq_true.1 h1 q hq, h2⟩
def seq_jobs : Int → Nat → List J
  | _, 0 => []
  | c, n + 1 => (c, c + 1, c + 2, c + 3) :: seq_jobs (c + 4) n
def seq_hops : Int → Nat → List Hh
  | _, 0 => []
  | c, n + 1 => (c, c + 1, c + 2) :: seq_hops (c + 3) n
end Go.Proofs.YtlmjoimjdpfamaaGreat.Ev.Mk
