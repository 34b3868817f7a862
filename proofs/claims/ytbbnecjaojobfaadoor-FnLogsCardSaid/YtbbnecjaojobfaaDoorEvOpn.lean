/- Functions that run in their caller's memory: what packing is where nothing new was made. -/
import Derived.Test.YtbbnecjaojobfaaDoorEvSimp
set_option linter.unusedVariables false
set_option linter.unusedSimpArgs false
set_option linter.constructorNameAsVariable false
namespace Go.Proofs.YtbbnecjaojobfaaDoor.Ev
theorem reach_low (H : Hp) (h0 : Nat) : ∀ (d : Nat) (l : List Nat), (∀ x ∈ l, x < h0) → reach H h0 d l [] = []
  | 0, l, h => rfl
  | d + 1, [], h => rfl
  | d + 1, id :: r, h => by
    have h1 := h id (by simp)
    simp only [reach, h1, decide_true, Bool.true_or, if_true]
    exact reach_low H h0 d r fun x hx => h x (by simp [hx])
/-- Memory whose blocks name only what is in it. -/
def Stable (H : Hp) : Prop := (∀ x ∈ oldIds H, x < H.length) ∧ rnmH (newId H.length []) H = some H
theorem packH_low {H : Hp} (hs : Stable H) {roots : List Nat} (hr : ∀ x ∈ roots, x < H.length) : packH H.length H roots = some ([], H) := by
  unfold packH
  have h1 : H.take H.length = H := List.take_of_length_le (Nat.le_refl _)
  have h2 : reach H H.length 64 (roots ++ oldIds (H.take H.length)) [] = [] := by
    rw [h1]
    refine reach_low _ _ _ _ fun x hx => ?_
    rcases List.mem_append.1 hx with h | h
    · exact hr x h
    · exact hs.1 x h
  simp only [h2]
  rw [h1, hs.2]
  simp [picked, rnmH, packP]
theorem oldIds_set : ∀ (H : Hp) (id : Nat) (b b' : Blk), H[id]? = some (some b) → blkIds b' = blkIds b → oldIds (H.set id (some b')) = oldIds H
  | [], id, b, b', h, _ => by simp at h
  | o :: r, 0, b, b', h, hb => by
    simp at h
    subst h
    rw [List.set_cons_zero, oldIds, oldIds, hb]
  | o :: r, id + 1, b, b', h, hb => by
    have := oldIds_set r id b b' (by simpa using h) hb
    cases o <;> simp [oldIds, this]
theorem rnmH_set (f : Nat → Option Nat) : ∀ (H : Hp) (id : Nat) (b b' : Blk), H[id]? = some (some b) → rnmB f b' = some b' → rnmH f H = some H → rnmH f (H.set id (some b')) = some (H.set id (some b'))
  | [], id, b, b', h, _, _ => by simp at h
  | o :: r, 0, b, b', h, hb, hr => by
    simp only [rnmH] at hr
    cases h1 : rnmO f o with
    | none => rw [h1] at hr; cases hr
    | some o2 =>
      rw [h1] at hr
      cases h2 : rnmH f r with
      | none => rw [h2] at hr; cases hr
      | some r2 =>
        rw [h2] at hr
        simp at hr
        rw [List.set_cons_zero, rnmH, rnmO, hb, h2, hr.2]
        rfl
  | o :: r, id + 1, b, b', h, hb, hr => by
    simp only [rnmH] at hr
    cases h1 : rnmO f o with
    | none => rw [h1] at hr; cases hr
    | some o2 =>
      rw [h1] at hr
      cases h2 : rnmH f r with
      | none => rw [h2] at hr; cases hr
      | some r2 =>
        rw [h2] at hr
        simp at hr
        have := rnmH_set f r id b b' (by simpa using h) hb (by rw [h2, hr.2])
        rw [List.set_cons_succ, rnmH, h1, this, hr.1]
        rfl
theorem Stable.set {H : Hp} (hs : Stable H) {id : Nat} {b b' : Blk} (h : H[id]? = some (some b)) (hk : b.kd ≠ 0) (hk' : b'.kd ≠ 0) : Stable (H.set id (some b')) := by
  unfold Stable
  rw [List.length_set]
  refine ⟨?_, rnmH_set _ H id b b' h (by unfold rnmB; rw [if_neg hk']) hs.2⟩
  rw [oldIds_set H id b b' h (by unfold blkIds; rw [if_neg hk, if_neg hk'])]
  exact hs.1
/-- What was made behind the first blocks, and is named by nothing, goes. -/
theorem packH_lo {H ex : Hp} {h0 : Nat} (hh : H.length = h0) (hs : Stable H) {roots : List Nat} (hr : ∀ x ∈ roots, x < h0) : packH h0 (H ++ ex) roots = some ([], H) := by
  subst hh
  unfold packH
  have h1 : (H ++ ex).take H.length = H := by simp
  have h2 : reach (H ++ ex) H.length 64 (roots ++ oldIds ((H ++ ex).take H.length)) [] = [] := by
    rw [h1]
    refine reach_low _ _ _ _ fun x hx => ?_
    rcases List.mem_append.1 hx with h | h
    · exact hr x h
    · exact hs.1 x h
  simp only [h2]
  rw [h1, hs.2]
  simp [picked, rnmH, packP]
theorem packH_lo0 {H : Hp} {h0 : Nat} (hh : H.length = h0) (hs : Stable H) {roots : List Nat} (hr : ∀ x ∈ roots, x < h0) : packH h0 H roots = some ([], H) := by
  have := packH_lo (ex := []) hh hs hr
  rwa [List.append_nil] at this
theorem pack_lo0 {H : Hp} {h0 : Nat} (hh : H.length = h0) (hs : Stable H) {s : List (Nat × AV)} {li : List Nat} (hr : ∀ x ∈ slotIds (keep s li), x < h0) : pack h0 li ⟨s, H⟩ = some ⟨renS h0 [] (keep s li), H⟩ := by
  unfold pack
  rw [packH_lo0 hh hs hr]
  rfl
theorem pack_lo {H ex : Hp} {h0 : Nat} (hh : H.length = h0) (hs : Stable H) {s : List (Nat × AV)} {li : List Nat} (hr : ∀ x ∈ slotIds (keep s li), x < h0) : pack h0 li ⟨s, H ++ ex⟩ = some ⟨renS h0 [] (keep s li), H⟩ := by
  unfold pack
  rw [packH_lo hh hs hr]
  rfl
theorem oldIds_append : ∀ (H ex : Hp), oldIds (H ++ ex) = oldIds H ++ oldIds ex
  | [], ex => rfl
  | none :: r, ex => by rw [List.cons_append, oldIds, oldIds, oldIds_append r ex]
  | some b :: r, ex => by rw [List.cons_append, oldIds, oldIds, oldIds_append r ex, List.append_assoc]
theorem rnmL_le {f g : Nat → Option Nat} (hfg : ∀ i j, f i = some j → g i = some j) : ∀ (d : Nat) (a b : AV), rnm f d a = some b → rnm g d a = some b
  | 0, a, b, h => by cases h
  | d + 1, a, b, h => by
    have ih := rnmL_le hfg d
    have lst : ∀ (l r : List AV), rnmL (rnm f d) l = some r → rnmL (rnm g d) l = some r := by
      intro l
      induction l with
      | nil => intro r h; exact h
      | cons x l ihl =>
        intro r h
        simp only [rnmL] at h ⊢
        cases h1 : rnm f d x with
        | none => rw [h1] at h; cases h
        | some y =>
          rw [h1] at h
          cases h2 : rnmL (rnm f d) l with
          | none => rw [h2] at h; cases h
          | some q => rw [h2] at h; rw [ih x y h1, ihl q h2]; exact h
    cases a with
    | x => exact h
    | v c => exact h
    | lst k xs => exact h
    | el e j => exact h
    | sl id off n =>
      simp only [rnm] at h ⊢
      cases h1 : f id with
      | none => rw [h1] at h; cases h
      | some j => rw [h1] at h; rw [hfg id j h1]; exact h
    | ptr id i j =>
      simp only [rnm] at h ⊢
      cases h1 : f id with
      | none => rw [h1] at h; cases h
      | some j => rw [h1] at h; rw [hfg id j h1]; exact h
    | agg cs =>
      simp only [rnm] at h ⊢
      cases h1 : rnmL (rnm f d) cs with
      | none => rw [h1] at h; cases h
      | some q => rw [h1] at h; rw [lst cs q h1]; exact h
    | tup cs =>
      simp only [rnm] at h ⊢
      cases h1 : rnmL (rnm f d) cs with
      | none => rw [h1] at h; cases h
      | some q => rw [h1] at h; rw [lst cs q h1]; exact h
    | fn g' p q =>
      simp only [rnm] at h ⊢
      cases h1 : rnmL (rnm f d) p with
      | none => rw [h1] at h; cases h
      | some p' =>
        cases h2 : rnmL (rnm f d) q with
        | none => rw [h1, h2] at h; cases h
        | some q' => rw [h1, h2] at h; rw [lst p p' h1, lst q q' h2]; exact h
theorem rnmLL_le {f g : Nat → Option Nat} (hfg : ∀ i j, f i = some j → g i = some j) (d : Nat) : ∀ (l r : List AV), rnmL (rnm f d) l = some r → rnmL (rnm g d) l = some r
  | [], r, h => h
  | x :: l, r, h => by
    simp only [rnmL] at h ⊢
    cases h1 : rnm f d x with
    | none => rw [h1] at h; cases h
    | some y =>
      rw [h1] at h
      cases h2 : rnmL (rnm f d) l with
      | none => rw [h2] at h; cases h
      | some q => rw [h2] at h; rw [rnmL_le hfg d x y h1, rnmLL_le hfg d l q h2]; exact h
theorem rnmH_le {f g : Nat → Option Nat} (hfg : ∀ i j, f i = some j → g i = some j) : ∀ (H R : Hp), rnmH f H = some R → rnmH g H = some R
  | [], R, h => h
  | o :: r, R, h => by
    have one : ∀ o', rnmO f o = some o' → rnmO g o = some o' := by
      intro o' h
      cases o with
      | none => exact h
      | some b =>
        simp only [rnmO, rnmB] at h ⊢
        split
        · rename_i hk
          rw [if_pos hk] at h
          cases h1 : rnmL (rnm f fzd) b.es with
          | none => rw [h1] at h; cases h
          | some q => rw [h1] at h; rw [rnmLL_le hfg _ _ _ h1]; exact h
        · rename_i hk
          rw [if_neg hk] at h
          exact h
    simp only [rnmH] at h ⊢
    cases h1 : rnmO f o with
    | none => rw [h1] at h; cases h
    | some o2 =>
      rw [h1] at h
      cases h2 : rnmH f r with
      | none => rw [h2] at h; cases h
      | some q => rw [h2] at h; rw [one o2 h1, rnmH_le hfg r q h2]; exact h
theorem newId_le {n m : Nat} (h : n ≤ m) : ∀ i j, newId n [] i = some j → newId m [] i = some j := by
  intro i j hi
  unfold newId at hi ⊢
  by_cases h1 : i < n
  · rw [if_pos h1] at hi
    rw [if_pos (by omega)]
    exact hi
  · rw [if_neg h1] at hi
    simp at hi
theorem rnmH_append {f : Nat → Option Nat} : ∀ {H ex R S : Hp}, rnmH f H = some R → rnmH f ex = some S → rnmH f (H ++ ex) = some (R ++ S)
  | [], ex, R, S, h, k => by cases h; exact k
  | o :: r, ex, R, S, h, k => by
    simp only [rnmH] at h
    cases h1 : rnmO f o with
    | none => rw [h1] at h; cases h
    | some o2 =>
      rw [h1] at h
      cases h2 : rnmH f r with
      | none => rw [h2] at h; cases h
      | some q =>
        rw [h2] at h
        cases h
        rw [List.cons_append, rnmH, h1, rnmH_append h2 k]
        rfl
/-- A block more, that names only what was there. -/
theorem Stable.snoc {H : Hp} (hs : Stable H) {b : Blk} (h1 : ∀ x ∈ blkIds b, x < H.length + 1) (h2 : rnmB (newId (H.length + 1) []) b = some b) : Stable (H ++ [some b]) := by
  unfold Stable
  have hl : (H ++ [some b]).length = H.length + 1 := by simp
  rw [hl]
  refine ⟨fun x hx => ?_, ?_⟩
  · rw [oldIds_append] at hx
    rcases List.mem_append.1 hx with h | h
    · have := hs.1 x h; omega
    · rw [oldIds, oldIds, List.append_nil] at h
      exact h1 x h
  · refine rnmH_append (rnmH_le (newId_le (by omega)) _ _ hs.2) ?_
    rw [rnmH, rnmO, h2]
    rfl
end Go.Proofs.YtbbnecjaojobfaaDoor.Ev
