/- The distance of two texts: plain law. -/
import Derived.Test.YtodcochnciadjaaDoorEvBD
set_option linter.unusedVariables false
set_option linter.unusedSimpArgs false
namespace Go.Proofs.YtodcochnciadjaaDoor.Ev.Ds
/-- The mark distance, read from the front. -/
def D : List UInt8 → List UInt8 → Nat
  | [], b => b.length
  | a :: x, [] => x.length + 1
  | a :: x, b :: y => min (D x y + if a = b then 0 else 1) (min (D x (b :: y) + 1) (D (a :: x) y + 1))
termination_by a b => a.length + b.length
inductive Ed : List UInt8 → List UInt8 → Nat → Prop
  | nil : Ed [] [] 0
  | keep (x : UInt8) {a b : List UInt8} {n : Nat} : Ed a b n → Ed (x :: a) (x :: b) n
  | sub (x y : UInt8) {a b : List UInt8} {n : Nat} : Ed a b n → Ed (x :: a) (y :: b) (n + 1)
  | del (x : UInt8) {a b : List UInt8} {n : Nat} : Ed a b n → Ed (x :: a) b (n + 1)
  | ins (y : UInt8) {a b : List UInt8} {n : Nat} : Ed a b n → Ed a (y :: b) (n + 1)
theorem ed_ins : ∀ b : List UInt8, Ed [] b b.length
  | [] => .nil
  | y :: b => .ins y (ed_ins b)
theorem ed_del : ∀ b : List UInt8, Ed b [] b.length
  | [] => .nil
  | y :: b => .del y (ed_del b)
theorem D_nil (b : List UInt8) : D [] b = b.length := by rw [D]
theorem D_nil' : ∀ a : List UInt8, D a [] = a.length
  | [] => by rw [D]
  | a :: x => by rw [D]; rfl
theorem D_cons (a : UInt8) (x : List UInt8) (b : UInt8) (y : List UInt8) : D (a :: x) (b :: y) = min (D x y + if a = b then 0 else 1) (min (D x (b :: y) + 1) (D (a :: x) y + 1)) := by rw [D]
theorem D_ed : ∀ (a b : List UInt8), Ed a b (D a b)
  | [], b => by rw [D_nil]; exact ed_ins b
  | a :: x, [] => by rw [D_nil']; exact ed_del _
  | a :: x, b :: y => by
    have h1 := D_ed x y
    have h2 := D_ed x (b :: y)
    have h3 := D_ed (a :: x) y
    have k1 : Ed (a :: x) (b :: y) (D x y + if a = b then 0 else 1) := by
      by_cases h : a = b
      · rw [if_pos h, h]; exact .keep b h1
      · rw [if_neg h]; exact .sub a b h1
    have k2 : Ed (a :: x) (b :: y) (D x (b :: y) + 1) := .del a h2
    have k3 : Ed (a :: x) (b :: y) (D (a :: x) y + 1) := .ins b h3
    rw [D_cons]
    rcases Nat.le_total (D x y + if a = b then 0 else 1) (min (D x (b :: y) + 1) (D (a :: x) y + 1)) with h | h
    · rw [Nat.min_eq_left h]; exact k1
    · rw [Nat.min_eq_right h]
      rcases Nat.le_total (D x (b :: y) + 1) (D (a :: x) y + 1) with h | h
      · rw [Nat.min_eq_left h]; exact k2
      · rw [Nat.min_eq_right h]; exact k3
termination_by a b => a.length + b.length
theorem ed_le {a b : List UInt8} {n : Nat} (h : Ed a b n) : D a b ≤ n := by
  induction h with
  | nil => rw [D_nil]; exact Nat.le_refl _
  | @keep x a b n h ih => rw [D_cons, if_pos rfl]; exact Nat.le_trans (Nat.min_le_left _ _) ih
  | @sub x y a b n h ih =>
    rw [D_cons]
    refine Nat.le_trans (Nat.min_le_left _ _) ?_
    split <;> omega
  | @del x a b n h ih =>
    cases b with
    | nil => rw [D_nil'] at *; rw [List.length_cons]; omega
    | cons y b =>
      rw [D_cons]
      exact Nat.le_trans (Nat.min_le_right _ _) (Nat.le_trans (Nat.min_le_left _ _) (by omega))
  | @ins y a b n h ih =>
    cases a with
    | nil => rw [D_nil] at *; rw [List.length_cons]; omega
    | cons x a =>
      rw [D_cons]
      exact Nat.le_trans (Nat.min_le_right _ _) (Nat.le_trans (Nat.min_le_right _ _) (by omega))
theorem ed_app {a b c d : List UInt8} {n m : Nat} (h : Ed a b n) (k : Ed c d m) : Ed (a ++ c) (b ++ d) (n + m) := by
  induction h with
  | nil => simpa using k
  | keep x _ ih => exact .keep x ih
  | sub x y _ ih => rw [Nat.add_right_comm]; exact .sub x y ih
  | del x _ ih => rw [Nat.add_right_comm]; exact .del x ih
  | ins y _ ih => rw [Nat.add_right_comm]; exact .ins y ih
theorem ed_rev {a b : List UInt8} {n : Nat} (h : Ed a b n) : Ed a.reverse b.reverse n := by
  induction h with
  | nil => exact .nil
  | keep x _ ih => rw [List.reverse_cons, List.reverse_cons]; exact ed_app ih (.keep x .nil)
  | sub x y _ ih => rw [List.reverse_cons, List.reverse_cons]; exact ed_app ih (.sub x y .nil)
  | del x _ ih => rw [List.reverse_cons]; have := ed_app ih (.del x .nil); rwa [List.append_nil] at this
  | ins x _ ih => rw [List.reverse_cons]; have := ed_app ih (.ins x .nil); rwa [List.append_nil] at this
theorem D_rev (a b : List UInt8) : D a.reverse b.reverse = D a b := by
  apply Nat.le_antisymm
  · exact ed_le (ed_rev (D_ed a b))
  · have := ed_le (ed_rev (D_ed a.reverse b.reverse))
    rwa [List.reverse_reverse, List.reverse_reverse] at this
theorem ed_symm {a b : List UInt8} {n : Nat} (h : Ed a b n) : Ed b a n := by
  induction h with
  | nil => exact .nil
  | keep x _ ih => exact .keep x ih
  | sub x y _ ih => exact .sub y x ih
  | del x _ ih => exact .ins x ih
  | ins y _ ih => exact .del y ih
theorem D_symm (a b : List UInt8) : D a b = D b a := Nat.le_antisymm (ed_le (ed_symm (D_ed b a))) (ed_le (ed_symm (D_ed a b)))
theorem ed_tri : ∀ (N : Nat) (a b c : List UInt8) (m n : Nat), a.length + b.length + c.length ≤ N → Ed a b m → Ed b c n → ∃ k, k ≤ m + n ∧ Ed a c k := by
  intro N
  induction N with
  | zero =>
    intro a b c m n hl h k
    obtain rfl : a = [] := List.eq_nil_of_length_eq_zero (by omega)
    obtain rfl : b = [] := List.eq_nil_of_length_eq_zero (by omega)
    obtain rfl : c = [] := List.eq_nil_of_length_eq_zero (by omega)
    exact ⟨0, by omega, .nil⟩
  | succ N ih =>
    intro a b c m n hl h k
    cases h with
    | nil => exact ⟨n, by omega, k⟩
    | @del x a' _ m' h =>
      rw [List.length_cons] at hl
      obtain ⟨q, hq, e⟩ := ih _ _ _ _ _ (by omega) h k
      exact ⟨q + 1, by omega, .del x e⟩
    | @ins y _ b' m' h =>
      rw [List.length_cons] at hl
      cases k with
      | @keep _ _ c' _ k =>
        rw [List.length_cons] at hl
        obtain ⟨q, hq, e⟩ := ih _ _ _ _ _ (by omega) h k
        exact ⟨q + 1, by omega, .ins y e⟩
      | @sub _ z _ c' _ k =>
        rw [List.length_cons] at hl
        obtain ⟨q, hq, e⟩ := ih _ _ _ _ _ (by omega) h k
        exact ⟨q + 1, by omega, .ins z e⟩
      | @del _ _ _ _ k =>
        obtain ⟨q, hq, e⟩ := ih _ _ _ _ _ (by omega) h k
        exact ⟨q, by omega, e⟩
      | @ins z _ c' _ k =>
        rw [List.length_cons] at hl
        obtain ⟨q, hq, e⟩ := ih _ _ _ _ _ (by rw [List.length_cons]; omega) (.ins y h) k
        exact ⟨q + 1, by omega, .ins z e⟩
    | @keep y a' b' m' h =>
      rw [List.length_cons, List.length_cons] at hl
      cases k with
      | @keep _ _ c' _ k =>
        rw [List.length_cons] at hl
        obtain ⟨q, hq, e⟩ := ih _ _ _ _ _ (by omega) h k
        exact ⟨q, by omega, .keep y e⟩
      | @sub _ z _ c' _ k =>
        rw [List.length_cons] at hl
        obtain ⟨q, hq, e⟩ := ih _ _ _ _ _ (by omega) h k
        exact ⟨q + 1, by omega, .sub y z e⟩
      | @del _ _ _ _ k =>
        obtain ⟨q, hq, e⟩ := ih _ _ _ _ _ (by omega) h k
        exact ⟨q + 1, by omega, .del y e⟩
      | @ins z _ c' _ k =>
        rw [List.length_cons] at hl
        obtain ⟨q, hq, e⟩ := ih _ _ _ _ _ (by rw [List.length_cons, List.length_cons]; omega) (.keep y h) k
        exact ⟨q + 1, by omega, .ins z e⟩
    | @sub x y a' b' m' h =>
      rw [List.length_cons, List.length_cons] at hl
      cases k with
      | @keep _ _ c' _ k =>
        rw [List.length_cons] at hl
        obtain ⟨q, hq, e⟩ := ih _ _ _ _ _ (by omega) h k
        exact ⟨q + 1, by omega, .sub x y e⟩
      | @sub _ z _ c' _ k =>
        rw [List.length_cons] at hl
        obtain ⟨q, hq, e⟩ := ih _ _ _ _ _ (by omega) h k
        exact ⟨q + 1, by omega, .sub x z e⟩
      | @del _ _ _ _ k =>
        obtain ⟨q, hq, e⟩ := ih _ _ _ _ _ (by omega) h k
        exact ⟨q + 1, by omega, .del x e⟩
      | @ins z _ c' _ k =>
        rw [List.length_cons] at hl
        obtain ⟨q, hq, e⟩ := ih _ _ _ _ _ (by rw [List.length_cons, List.length_cons]; omega) (.sub x y h) k
        exact ⟨q + 1, by omega, .ins z e⟩
theorem D_tri (a b c : List UInt8) : D a c ≤ D a b + D b c := by
  obtain ⟨k, hk, e⟩ := ed_tri _ a b c _ _ (Nat.le_refl _) (D_ed a b) (D_ed b c)
  exact Nat.le_trans (ed_le e) hk
theorem ed_zero {a b : List UInt8} {n : Nat} (h : Ed a b n) : n = 0 → a = b := by
  induction h with
  | nil => intro _; rfl
  | keep x _ ih => intro h; rw [ih h]
  | sub => intro h; omega
  | del => intro h; omega
  | ins => intro h; omega
theorem ed_self : ∀ a : List UInt8, Ed a a 0
  | [] => .nil
  | x :: a => .keep x (ed_self a)
theorem D_zero {a b : List UInt8} : D a b = 0 ↔ a = b := by
  constructor
  · intro h; exact ed_zero (D_ed a b) h
  · rintro rfl; have := ed_le (ed_self a); omega
theorem D_le : ∀ (a b : List UInt8), D a b ≤ a.length + b.length := by
  intro a b
  have := ed_le (ed_app (ed_del a) (ed_ins b))
  simpa using this
theorem ed_len {a b : List UInt8} {n : Nat} (h : Ed a b n) : a.length ≤ b.length + n ∧ b.length ≤ a.length + n := by
  induction h with
  | nil => simp
  | keep x _ ih => simp only [List.length_cons]; omega
  | sub x y _ ih => simp only [List.length_cons]; omega
  | del x _ ih => simp only [List.length_cons]; omega
  | ins y _ ih => simp only [List.length_cons]; omega
/-- How many places differ. -/
def ham : List UInt8 → List UInt8 → Nat
  | a :: x, b :: y => (if a = b then 0 else 1) + ham x y
  | _, _ => 0
theorem ham_self : ∀ a : List UInt8, ham a a = 0
  | [] => rfl
  | x :: a => by rw [ham, if_pos rfl, ham_self a]
theorem ham_one {a b : List UInt8} {n : Nat} (h : Ed a b n) : n ≤ 1 → a.length = b.length → ham a b ≤ n := by
  induction h with
  | nil => intro _ _; exact Nat.le_refl _
  | @keep x a b n h ih => intro h1 h2; rw [ham, if_pos rfl]; simp only [List.length_cons] at h2; have := ih h1 (by omega); omega
  | @sub x y a b n h ih =>
    intro h1 h2
    have hn : n = 0 := by omega
    have hab := ed_zero h hn
    subst hab
    rw [ham, ham_self]
    split <;> omega
  | @del x a b n h ih =>
    intro h1 h2
    have hn : n = 0 := by omega
    have hab := ed_zero h hn
    subst hab
    simp only [List.length_cons] at h2
    omega
  | @ins x a b n h ih =>
    intro h1 h2
    have hn : n = 0 := by omega
    have hab := ed_zero h hn
    subst hab
    simp only [List.length_cons] at h2
    omega
theorem ham_app : ∀ (a b : List UInt8) (p q : UInt8), a.length = b.length → ham (a ++ [p]) (b ++ [q]) = ham a b + if p = q then 0 else 1
  | [], [], p, q, _ => by simp [ham]
  | [], _ :: _, _, _, h => by simp at h
  | _ :: _, [], _, _, h => by simp at h
  | x :: a, y :: b, p, q, h => by
    rw [List.cons_append, List.cons_append, ham, ham, ham_app a b p q (by simpa using h)]
    omega
/-- The number of dashes. -/
def dash : List UInt8 → Nat
  | [] => 0
  | a :: x => (if a = 45 then 1 else 0) + dash x
theorem ham_zero : ∀ {a b : List UInt8}, a.length = b.length → ham a b = 0 → a = b
  | [], [], _, _ => rfl
  | [], _ :: _, h, _ => by simp at h
  | _ :: _, [], h, _ => by simp at h
  | x :: a, y :: b, h, k => by
    rw [ham] at k
    by_cases e : x = y
    · rw [if_pos e] at k; have := ham_zero (a := a) (b := b) (by simpa using h) (by omega); rw [e, this]
    · rw [if_neg e] at k; omega
theorem ham_par : ∀ (a b : List UInt8), a.length = b.length → (∀ c ∈ a, c = 46 ∨ c = 45) → (∀ c ∈ b, c = 46 ∨ c = 45) → (ham a b + dash a + dash b) % 2 = 0
  | [], [], _, _, _ => rfl
  | [], _ :: _, h, _, _ => by simp at h
  | _ :: _, [], h, _, _ => by simp at h
  | x :: a, y :: b, h, ha, hb => by
    have ih := ham_par a b (by simpa using h) (fun c hc => ha c (List.mem_cons_of_mem _ hc)) (fun c hc => hb c (List.mem_cons_of_mem _ hc))
    have h1 := ha x (List.mem_cons_self ..)
    have h2 := hb y (List.mem_cons_self ..)
    rw [ham, dash, dash]
    rcases h1 with rfl | rfl <;> rcases h2 with rfl | rfl <;> simp <;> omega
/-- The mark that makes the number of dashes even. -/
def par (a : List UInt8) : UInt8 := if dash a % 2 = 1 then 45 else 46
theorem par_apart {a b : List UInt8} (hl : a.length = b.length) (ha : ∀ c ∈ a, c = 46 ∨ c = 45) (hb : ∀ c ∈ b, c = 46 ∨ c = 45) (h : D a b = 1) : 2 ≤ D (a ++ [par a]) (b ++ [par b]) := by
  have hne : a ≠ b := fun e => by have := D_zero.2 e; omega
  have h1 : ham a b = 1 := by
    have h1 := ham_one (D_ed a b) (by omega) hl
    have h2 : ham a b ≠ 0 := fun e => hne (ham_zero hl e)
    omega
  have hp := ham_par a b hl ha hb
  have hd : par a ≠ par b := by
    unfold par
    rw [h1] at hp
    split <;> split <;> first | decide | omega
  have h2 : ham (a ++ [par a]) (b ++ [par b]) = 2 := by rw [ham_app a b _ _ hl, h1, if_neg hd]
  apply Decidable.byContradiction
  intro hn
  have h3 := ham_one (D_ed (a ++ [par a]) (b ++ [par b])) (by omega) (by simp [hl])
  omega
/-- The reference's rows, read from the end. -/
def P (a b : List UInt8) (i k : Nat) : Nat := D (a.take i).reverse (b.take k).reverse
theorem P_zero (a b : List UInt8) (k : Nat) (h : k ≤ b.length) : P a b 0 k = k := by
  unfold P
  rw [List.take_zero, List.reverse_nil, D_nil, List.length_reverse, List.length_take, Nat.min_eq_left h]
theorem P_first (a b : List UInt8) (i : Nat) (h : i ≤ a.length) : P a b i 0 = i := by
  unfold P
  rw [List.take_zero, List.reverse_nil, D_nil', List.length_reverse, List.length_take, Nat.min_eq_left h]
theorem P_step (a b : List UInt8) (i k : Nat) (hi : i < a.length) (hk : k < b.length) : P a b (i + 1) (k + 1) = min (P a b i k + if a[i] = b[k] then 0 else 1) (min (P a b i (k + 1) + 1) (P a b (i + 1) k + 1)) := by
  unfold P
  have ha : (a.take (i + 1)).reverse = a[i] :: (a.take i).reverse := by rw [List.take_succ_eq_append_getElem hi, List.reverse_append]; rfl
  have hb : (b.take (k + 1)).reverse = b[k] :: (b.take k).reverse := by rw [List.take_succ_eq_append_getElem hk, List.reverse_append]; rfl
  rw [ha, hb, D_cons]
theorem P_all (a b : List UInt8) : P a b a.length b.length = D a b := by
  unfold P
  rw [List.take_length, List.take_length, D_rev]
theorem P_le (a b : List UInt8) (i k : Nat) : P a b i k ≤ i + k := by
  unfold P
  refine Nat.le_trans (D_le _ _) ?_
  simp only [List.length_reverse, List.length_take]
  omega
end Go.Proofs.YtodcochnciadjaaDoor.Ev.Ds
