/- Packing behind a memory that names nothing new: what simp can compute. -/
import Derived.Test.YtlmjoimjdpfamaaGreatEvDrawR
set_option linter.unusedVariables false
set_option linter.unusedSimpArgs false
namespace Go.Proofs.YtlmjoimjdpfamaaGreat.Ev.Dr
def blkAt (h0 : Nat) (ex : Hp) (id : Nat) : Option Blk := hget ex (id - h0)
def reachE (h0 : Nat) (ex : Hp) : Nat → List Nat → List Nat → List Nat
  | 0, _, acc => acc
  | _ + 1, [], acc => acc
  | d + 1, id :: r, acc => if id < h0 || acc.contains id then reachE h0 ex d r acc else
      match blkAt h0 ex id with
      | none => reachE h0 ex d r acc
      | some b => reachE h0 ex d (blkIds b ++ r) (acc ++ [id])
def pickedE (h0 : Nat) (ex : Hp) : List Nat → Hp
  | [] => []
  | id :: r => blkAt h0 ex id :: pickedE h0 ex r
def outE (H : Hp) (acc : List Nat) : Option Hp → Option (List Nat × Hp)
  | some B => some (acc, H ++ B)
  | none => none
def packE (h0 : Nat) (H ex : Hp) (roots : List Nat) : Option (List Nat × Hp) :=
  outE H (reachE h0 ex 64 roots []) (rnmH (newId h0 (reachE h0 ex 64 roots [])) (pickedE h0 ex (reachE h0 ex 64 roots [])))
theorem reach_E {H ex : Hp} {old : List Nat} (ho : ∀ q ∈ old, q < H.length) : ∀ (d : Nat) (l acc : List Nat), reach (H ++ ex) H.length d (l ++ old) acc = reachE H.length ex d l acc
  | 0, l, acc => by cases l <;> rfl
  | d + 1, [], acc => by
    have low : ∀ (d : Nat) (l acc : List Nat), (∀ q ∈ l, q < H.length) → reach (H ++ ex) H.length d l acc = acc := by
      intro d
      induction d with
      | zero => intro l acc _; rfl
      | succ d ih =>
        intro l acc hl
        cases l with
        | nil => rfl
        | cons q l =>
          have hq := hl q (by simp)
          simp only [reach, hq, decide_true, Bool.true_or, if_true]
          exact ih l acc fun z hz => hl z (by simp [hz])
    rw [List.nil_append, low _ _ _ ho]
    rfl
  | d + 1, id :: r, acc => by
    rw [List.cons_append]
    simp only [reach, reachE]
    split
    · exact reach_E ho d r acc
    · rename_i hc
      have hge : H.length ≤ id := by
        simp only [Bool.or_eq_true, decide_eq_true_eq] at hc
        omega
      have hb : hget (H ++ ex) id = blkAt H.length ex id := by
        unfold blkAt hget
        rw [List.getElem?_append_right hge]
      rw [hb]
      cases blkAt H.length ex id with
      | none => exact reach_E ho d r acc
      | some b =>
        simp only []
        rw [← List.append_assoc]
        exact reach_E ho d (blkIds b ++ r) (acc ++ [id])
theorem reachE_ge (h0 : Nat) (ex : Hp) : ∀ (d : Nat) (l acc : List Nat), (∀ q ∈ acc, h0 ≤ q) → ∀ q ∈ reachE h0 ex d l acc, h0 ≤ q
  | 0, l, acc, h => by cases l <;> exact h
  | d + 1, [], acc, h => h
  | d + 1, id :: r, acc, h => by
    simp only [reachE]
    split
    · exact reachE_ge h0 ex d r acc h
    · rename_i hc
      have hge : h0 ≤ id := by
        simp only [Bool.or_eq_true, decide_eq_true_eq] at hc
        omega
      cases blkAt h0 ex id with
      | none => exact reachE_ge h0 ex d r acc h
      | some b =>
        refine reachE_ge h0 ex d _ _ fun q hq => ?_
        rcases List.mem_append.1 hq with hq | hq
        · exact h q hq
        · rw [List.mem_singleton.1 hq]; exact hge
theorem picked_E {H ex : Hp} : ∀ (acc : List Nat), (∀ q ∈ acc, H.length ≤ q) → picked (H ++ ex) acc = pickedE H.length ex acc
  | [], _ => rfl
  | id :: r, h => by
    have hge := h id (by simp)
    have hb : hget (H ++ ex) id = blkAt H.length ex id := by
      unfold blkAt hget
      rw [List.getElem?_append_right hge]
    simp only [picked, pickedE]
    rw [hb, picked_E r fun q hq => h q (by simp [hq])]
theorem packH_E {H ex : Hp} {h0 : Nat} (hh : H.length = h0) (hs : Stable H) (roots : List Nat) : packH h0 (H ++ ex) roots = packE h0 H ex roots := by
  subst hh
  unfold packH packE
  have h1 : (H ++ ex).take H.length = H := by simp
  rw [h1]
  simp only []
  rw [reach_E hs.1, picked_E _ (reachE_ge _ _ _ _ _ (by simp))]
  generalize reachE H.length ex 64 roots [] = acc
  have h3 : rnmH (newId H.length acc) H = some H := by
    refine rnmH_le (fun i j hi => ?_) _ _ hs.2
    unfold newId at hi ⊢
    by_cases hlt : i < H.length
    · rw [if_pos hlt] at hi ⊢; exact hi
    · rw [if_neg hlt] at hi; simp at hi
  rw [h3]
  cases rnmH (newId H.length acc) (pickedE H.length ex acc) <;> rfl
theorem pe_cu {H : Hp} {id : Nat} {x : List Int} {a s : Int} (h : hget H id = some (cu x a s)) (hs : Stable H) : ∀ (a' s' : Int) (ex : Hp) roots, packH H.length (H.set id (some (cu x a' s')) ++ ex) roots = packE H.length (H.set id (some (cu x a' s'))) ex roots :=
  fun a' s' ex roots => packH_E List.length_set (stable_cu hs h a' s') roots
theorem pe_cu0 {H : Hp} {id : Nat} {x : List Int} {a s : Int} (h : hget H id = some (cu x a s)) (hs : Stable H) : ∀ (a' s' : Int) roots, packH H.length (H.set id (some (cu x a' s'))) roots = packE H.length (H.set id (some (cu x a' s'))) [] roots :=
  fun a' s' roots => by have := pe_cu h hs a' s' [] roots; rwa [List.append_nil] at this
attribute [simp] packE.eq_1 reachE.eq_1 reachE.eq_2 reachE.eq_3 pickedE.eq_1 pickedE.eq_2 outE.eq_1 outE.eq_2 blkAt.eq_1
end Go.Proofs.YtlmjoimjdpfamaaGreat.Ev.Dr
