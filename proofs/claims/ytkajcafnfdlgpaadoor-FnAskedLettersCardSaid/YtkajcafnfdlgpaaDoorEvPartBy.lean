/- Parts of letters handed out: they are compared, marked and held. -/
import Derived.Test.YtkajcafnfdlgpaaDoorEvFirstI
set_option linter.unusedVariables false
set_option linter.unusedSimpArgs false
namespace Go.Proofs.YtkajcafnfdlgpaaDoor.Ev
theorem reach_keep (H : Hp) (h0 : Nat) (acc : List Nat) : ∀ (d : Nat) (l : List Nat), (∀ x ∈ l, x < h0 ∨ x ∈ acc) → reach H h0 d l acc = acc
  | 0, l, h => rfl
  | d + 1, [], h => rfl
  | d + 1, id :: r, h => by
    have h1 : (decide (id < h0) || acc.contains id) = true := by
      rcases h id (by simp) with h | h
      · simp [h]
      · simp [h]
    simp only [reach, h1, if_true]
    exact reach_keep H h0 acc d r fun x hx => h x (by simp [hx])
/-- One block was made, and is named. -/
theorem packH_one {H : Hp} {b : Blk} {h0 : Nat} (hh : H.length = h0) (hs : Stable H) (hb : ∀ x ∈ blkIds b, x < h0) (hr : rnmB (newId h0 [h0]) b = some b) : packH h0 (H ++ [some b]) [h0] = some ([h0], H ++ [some b]) := by
  subst hh
  have h1 : (H ++ [some b]).take H.length = H := by simp
  have hg : hget (H ++ [some b]) H.length = some b := by unfold hget; simp
  have h2 : reach (H ++ [some b]) H.length 64 ([H.length] ++ oldIds ((H ++ [some b]).take H.length)) [] = [H.length] := by
    rw [h1, List.singleton_append]
    have hn : (decide (H.length < H.length) || ([] : List Nat).contains H.length) = false := by simp
    rw [reach]
    simp only [hn, hg, Bool.false_eq_true, if_false, List.nil_append]
    refine reach_keep _ _ _ _ _ fun x hx => ?_
    rcases List.mem_append.1 hx with h | h
    · exact .inl (hb x h)
    · exact .inl (hs.1 x h)
  have h3 : rnmH (newId H.length [H.length]) H = some H := by
    refine rnmH_le (fun i j hi => ?_) _ _ hs.2
    unfold newId at hi ⊢
    by_cases hlt : i < H.length
    · rw [if_pos hlt] at hi ⊢; exact hi
    · rw [if_neg hlt] at hi; simp at hi
  unfold packH
  simp only [h2]
  rw [h1, h3, picked, picked, hg, rnmH, rnmO, hr]
  rfl
/-- A row's marks. -/
def RowAt (H : Hp) (A : AV) (l : List Nat) : Prop := (A = .v (.slice none 0 0) ∧ l = []) ∨ ∃ id, A = .sl id 0 l.length ∧ hget H id = some ⟨3, 1, 1, false, i64n l⟩
def mrk (H : Hp) (A : AV) (c : Int) (n : Nat) : Hp :=
  match A with
  | .sl id _ _ => H.set id (some ⟨3, 1, 1, false, i64s (seqI c n)⟩)
  | _ => H
theorem i64n_s (l : List Nat) : i64n l = i64s (l.map fun n : Nat => (n : Int)) := by unfold i64n i64s; rw [List.map_map]; rfl
theorem mrk_len (H : Hp) (A : AV) (c : Int) (n : Nat) : (mrk H A c n).length = H.length := by
  unfold mrk
  split <;> simp
theorem mrk_stable {H : Hp} {A : AV} {l : List Nat} (h : RowAt H A l) (hs : Stable H) (c : Int) (n : Nat) : Stable (mrk H A c n) := by
  rcases h with ⟨rfl, rfl⟩ | ⟨id, rfl, hg⟩
  · exact hs
  · exact stable_set hs hg (by simp) 3 1 1 false (by simp) _
theorem mrk_snoc {H : Hp} {A : AV} {l : List Nat} (h : RowAt H A l) (b : Option Blk) (c : Int) (n : Nat) : mrk (H ++ [b]) A c n = mrk H A c n ++ [b] := by
  rcases h with ⟨rfl, rfl⟩ | ⟨id, rfl, hg⟩
  · rfl
  · have hid : id < H.length := (List.getElem?_eq_some_iff.1 (hget_some hg)).1
    simp only [mrk]
    rw [List.set_append_left _ _ hid]
theorem RowAt.snoc {H : Hp} {A : AV} {l : List Nat} (h : RowAt H A l) (b : Option Blk) : RowAt (H ++ [b]) A l := by
  rcases h with h | ⟨id, rfl, hg⟩
  · exact .inl h
  · have hid : id < H.length := (List.getElem?_eq_some_iff.1 (hget_some hg)).1
    refine .inr ⟨id, rfl, ?_⟩
    have := hget_some hg
    unfold hget
    rw [List.getElem?_append_left hid, this]
theorem RowAt.facts {H : Hp} {A : AV} {l : List Nat} (h : RowAt H A l) {h0 : Nat} (hh : H.length = h0) : A.one = true ∧ A.cells = [A] ∧ (∀ x ∈ ids 4 A, x < h0) ∧ (∀ acc, rnm (newId h0 acc) 4 A = some A) ∧ (∀ acc, rnm (newId h0 acc) 5 A = some A) := by
  subst hh
  rcases h with ⟨rfl, rfl⟩ | ⟨id, rfl, hg⟩
  · exact ⟨rfl, rfl, by simp [ids], fun _ => rfl, fun _ => rfl⟩
  · have hid : id < H.length := (List.getElem?_eq_some_iff.1 (hget_some hg)).1
    exact ⟨rfl, rfl, by simp [ids, hid], fun acc => by simp [rnm, newId, hid], fun acc => by simp [rnm, newId, hid]⟩
theorem elem3 {A B C : AV} (a : A.one = true) (b : B.one = true) (c : C.one = true) : elemOk 3 (.agg [A, B, C]) = true := by
  show (3 == 3 && (A.one && (B.one && (C.one && true)))) = true
  rw [a, b, c]
  rfl
end Go.Proofs.YtkajcafnfdlgpaaDoor.Ev
