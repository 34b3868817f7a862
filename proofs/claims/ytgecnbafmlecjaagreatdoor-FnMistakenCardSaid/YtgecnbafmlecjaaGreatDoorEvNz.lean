/- Chances of marks, in parts of a whole. -/
set_option linter.unusedVariables false
namespace Go.Proofs.YtgecnbafmlecjaaGreatDoor.Ev.Nz
-- ---------------------------------------------------------------- chances of marks, in parts
def ap : List UInt8 → List UInt8 → Nat
  | x :: a, y :: b => (if x = y then 0 else 1) + ap a b
  | _, _ => 0
theorem ap_le : ∀ (a b : List UInt8), ap a b ≤ a.length
  | [], b => by simp [ap]
  | x :: a, [] => by simp [ap]
  | x :: a, y :: b => by
    have := ap_le a b
    rw [ap, List.length_cons]
    split <;> omega
theorem ap_comm : ∀ (a b : List UInt8), ap a b = ap b a
  | [], [] => rfl
  | [], y :: b => rfl
  | x :: a, [] => rfl
  | x :: a, y :: b => by
    rw [ap, ap, ap_comm a b]
    congr 1
    by_cases h : x = y
    · rw [if_pos h, if_pos h.symm]
    · rw [if_neg h, if_neg fun e => h e.symm]
theorem ap_self : ∀ (a : List UInt8), ap a a = 0
  | [] => rfl
  | x :: a => by rw [ap, if_pos rfl, ap_self a]
/-- The chance of a text out of another one as long, in parts of den to the power of its length. -/
def pw (num den : Nat) (s m : List UInt8) : Nat := num ^ ap s m * (den - num) ^ (s.length - ap s m)
def wh (num den : Nat) (s m : List UInt8) : Nat := if s.length = m.length then num ^ ap s m * (den - num) ^ (s.length - ap s m) * den ^ (5 - s.length) else 0
theorem pw_cons (num den : Nat) (x y : UInt8) (s m : List UInt8) : pw num den (x :: s) (y :: m) = (if x = y then den - num else num) * pw num den s m := by
  have h := ap_le s m
  unfold pw
  rw [ap, List.length_cons]
  split
  · rw [Nat.zero_add, show s.length + 1 - ap s m = (s.length - ap s m) + 1 by omega, Nat.pow_succ, ← Nat.mul_assoc, Nat.mul_comm]
  · rw [show s.length + 1 - (1 + ap s m) = s.length - ap s m by omega, Nat.add_comm 1, Nat.pow_succ, Nat.mul_comm (num ^ ap s m) num, Nat.mul_assoc]
def tl (c : UInt8) : List (List UInt8) → List (List UInt8)
  | [] => []
  | [] :: r => tl c r
  | (y :: m) :: r => if y = c then m :: tl c r else tl c r
theorem tl_mem {c : UInt8} {m : List UInt8} : ∀ {r : List (List UInt8)}, m ∈ tl c r ↔ (c :: m) ∈ r
  | [] => by simp [tl]
  | [] :: r => by rw [tl, tl_mem]; simp
  | (y :: n) :: r => by
    rw [tl]
    split
    · rename_i h; subst h; rw [List.mem_cons, List.mem_cons, tl_mem]; simp
    · rename_i h
      rw [tl_mem, List.mem_cons]
      constructor
      · exact .inr
      · rintro (e | e)
        · exact absurd (List.cons.inj e).1.symm h
        · exact e
theorem tl_nodup {c : UInt8} : ∀ {r : List (List UInt8)}, r.Nodup → (tl c r).Nodup
  | [], _ => List.nodup_nil
  | [] :: r, h => by rw [tl]; exact tl_nodup (List.nodup_cons.1 h).2
  | (y :: n) :: r, h => by
    have h2 := List.nodup_cons.1 h
    rw [tl]
    split
    · rename_i e
      subst e
      exact List.nodup_cons.2 ⟨fun hm => h2.1 (tl_mem.1 hm), tl_nodup h2.2⟩
    · exact tl_nodup h2.2
def sumW (f : List UInt8 → Nat) : List (List UInt8) → Nat
  | [] => 0
  | m :: r => f m + sumW f r
theorem sumW_split (num den : Nat) (x : UInt8) (s : List UInt8) (c d : UInt8) (hcd : c ≠ d) : ∀ (r : List (List UInt8)), (∀ m ∈ r, m.length = s.length + 1 ∧ ∀ y ∈ m, y = c ∨ y = d) →
    sumW (pw num den (x :: s)) r = (if x = c then den - num else num) * sumW (pw num den s) (tl c r) + (if x = d then den - num else num) * sumW (pw num den s) (tl d r)
  | [], _ => by simp [sumW, tl]
  | [] :: r, h => by have := (h [] (by simp)).1; simp at this
  | (y :: m) :: r, h => by
    have ih := sumW_split num den x s c d hcd r fun n hn => h n (by simp [hn])
    have hy := (h (y :: m) (by simp)).2 y (by simp)
    rw [sumW, pw_cons, ih]
    rcases hy with e | e
    · have t1 : tl c ((y :: m) :: r) = m :: tl c r := by rw [tl, if_pos e]
      have t2 : tl d ((y :: m) :: r) = tl d r := by rw [tl, if_neg fun e2 => hcd (e.symm.trans e2)]
      rw [t1, t2, sumW, Nat.mul_add, e]
      omega
    · have t1 : tl c ((y :: m) :: r) = tl c r := by rw [tl, if_neg fun e2 => hcd (e2.symm.trans e)]
      have t2 : tl d ((y :: m) :: r) = m :: tl d r := by rw [tl, if_pos e]
      rw [t1, t2, sumW, Nat.mul_add, e]
      omega
theorem pw_sum (num den : Nat) (hn : num ≤ den) (c d : UInt8) (hcd : c ≠ d) : ∀ (s : List UInt8), (∀ y ∈ s, y = c ∨ y = d) → ∀ (r : List (List UInt8)), r.Nodup → (∀ m ∈ r, m.length = s.length ∧ ∀ y ∈ m, y = c ∨ y = d) →
    sumW (pw num den s) r ≤ den ^ s.length
  | [], _, r, hr, h => by
    match r, hr, h with
    | [], _, _ => simp [sumW]
    | [m], _, h =>
      have h1 : m = [] := List.eq_nil_of_length_eq_zero (h m (by simp)).1
      subst h1
      simp [sumW, pw, ap]
    | m :: n :: r, hr, h =>
      have h1 : m = [] := List.eq_nil_of_length_eq_zero (h m (by simp)).1
      have h2 : n = [] := List.eq_nil_of_length_eq_zero (h n (by simp)).1
      subst h1 h2
      simp at hr
  | x :: s, hs, r, hr, h => by
    have h1 := sumW_split num den x s c d hcd r (fun m hm => by have := h m hm; rwa [List.length_cons] at this)
    have hs2 : ∀ y ∈ s, y = c ∨ y = d := fun y hy => hs y (by simp [hy])
    have step : ∀ e, (e = c ∨ e = d) → sumW (pw num den s) (tl e r) ≤ den ^ s.length := fun e he => pw_sum num den hn c d hcd s hs2 (tl e r) (tl_nodup hr) fun m hm => by
      have h3 := h _ (tl_mem.1 hm)
      refine ⟨by simpa using h3.1, fun y hy => h3.2 y (by simp [hy])⟩
    have sc := step c (.inl rfl)
    have sd := step d (.inr rfl)
    rw [h1, List.length_cons, Nat.pow_succ]
    have hx := hs x (by simp)
    have key : ∀ (p q A B P : Nat), A ≤ P → B ≤ P → p + q = den → p * A + q * B ≤ P * den := by
      intro p q A B P ha hb hpq
      have e1 := Nat.mul_le_mul_left p ha
      have e2 := Nat.mul_le_mul_left q hb
      rw [← hpq, Nat.mul_add, Nat.mul_comm P p, Nat.mul_comm P q]
      omega
    rcases hx with rfl | rfl
    · rw [if_pos rfl, if_neg hcd]
      exact key _ _ _ _ _ sc sd (by omega)
    · rw [if_pos rfl, if_neg (fun e => hcd e.symm)]
      exact key _ _ _ _ _ sc sd (by omega)
theorem sumW_filter (num den : Nat) (s : List UInt8) : ∀ (r : List (List UInt8)), sumW (wh num den s) r = sumW (pw num den s) (r.filter fun m => decide (m.length = s.length)) * den ^ (5 - s.length)
  | [] => by simp [sumW]
  | m :: r => by
    have ih := sumW_filter num den s r
    rw [sumW, ih, List.filter_cons]
    by_cases h : m.length = s.length
    · rw [if_pos (by simp [h]), sumW, Nat.add_mul]
      unfold wh pw
      rw [if_pos h.symm]
    · rw [if_neg (by simp [h])]
      unfold wh
      rw [if_neg fun e => h e.symm, Nat.zero_add]
/-- All parts together are no more than all. -/
theorem wh_sum (num den : Nat) (hn : num ≤ den) (s : List UInt8) (hs : ∀ y ∈ s, y = 46 ∨ y = 45) (hl : s.length ≤ 5) (r : List (List UInt8)) (hr : r.Nodup) (h : ∀ m ∈ r, ∀ y ∈ m, y = 46 ∨ y = 45) : sumW (wh num den s) r ≤ den ^ 5 := by
  rw [sumW_filter]
  have h1 := pw_sum num den hn 46 45 (by decide) s hs (r.filter fun m => decide (m.length = s.length)) (hr.filter _) (fun m hm => by
    have h2 := List.mem_filter.1 hm
    exact ⟨of_decide_eq_true h2.2, h m h2.1⟩)
  have h2 := Nat.mul_le_mul_right (den ^ (5 - s.length)) h1
  rw [← Nat.pow_add, show s.length + (5 - s.length) = 5 by omega] at h2
  exact h2
theorem wh_le (num den : Nat) (hn : num ≤ den) (s m : List UInt8) (hl : s.length ≤ 5) : wh num den s m ≤ den ^ 5 := by
  unfold wh
  split
  · have h0 := ap_le s m
    have h1 : num ^ ap s m ≤ den ^ ap s m := Nat.pow_le_pow_left hn _
    have h2 : (den - num) ^ (s.length - ap s m) ≤ den ^ (s.length - ap s m) := Nat.pow_le_pow_left (by omega) _
    have h3 := Nat.mul_le_mul_right (den ^ (5 - s.length)) (Nat.mul_le_mul h1 h2)
    rw [← Nat.pow_add, ← Nat.pow_add, show ap s m + (s.length - ap s m) + (5 - s.length) = 5 by omega] at h3
    exact h3
  · exact Nat.zero_le _
theorem wh_comm (num den : Nat) (s m : List UInt8) : wh num den s m = wh num den m s := by
  unfold wh
  by_cases h : s.length = m.length
  · rw [if_pos h, if_pos h.symm, ap_comm, h]
  · rw [if_neg h, if_neg fun e => h e.symm]
theorem wh_self (den : Nat) (s : List UInt8) (hl : s.length ≤ 5) : wh 0 den s s = den ^ 5 := by
  unfold wh
  rw [if_pos rfl, ap_self, Nat.pow_zero, Nat.one_mul, Nat.sub_zero, Nat.sub_zero, ← Nat.pow_add, show s.length + (5 - s.length) = 5 by omega]
end Go.Proofs.YtgecnbafmlecjaaGreatDoor.Ev.Nz
