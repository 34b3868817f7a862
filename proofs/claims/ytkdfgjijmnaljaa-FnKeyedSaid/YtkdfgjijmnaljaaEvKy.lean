/- Plain lists of lengths: short ones filled or dropped, lists turned back. -/
set_option linter.unusedVariables false
namespace Go.Proofs.Ytkdfgjijmnaljaa.Ev.Ky
-- ---------------------------------------------------------------- FillShort
def fill (n : Int) : Int → List Int → List Int
  | c, a :: b :: r => if a < n then fill n (c + a + b) r else c :: a :: fill n b r
  | c, _ => [c]
def addH (x : Int) : List Int → List Int
  | [] => []
  | c :: r => (x + c) :: r
theorem fill_add (n x : Int) : ∀ (k : Nat) (c : Int) (r : List Int), r.length ≤ k → fill n (x + c) r = addH x (fill n c r) := by
  intro k
  induction k with
  | zero =>
    intro c r h
    obtain rfl := List.length_eq_zero_iff.1 (Nat.le_zero.1 h)
    simp [fill, addH]
  | succ k ih =>
    intro c r h
    match r with
    | [] => simp [fill, addH]
    | [a] => simp [fill, addH]
    | a :: b :: r =>
      simp only [List.length_cons] at h
      unfold fill
      split
      · rw [show x + c + a + b = x + (c + a + b) by omega, ih _ _ (by omega)]
      · rfl
theorem fill_ne (n c : Int) (r : List Int) : ∃ y t, fill n c r = y :: t := by
  match r with
  | [] => exact ⟨_, _, rfl⟩
  | [a] => exact ⟨_, _, rfl⟩
  | a :: b :: r =>
    unfold fill
    split
    · exact fill_ne n (c + a + b) r
    · exact ⟨_, _, rfl⟩
def addL (x : Int) : List Int → List Int
  | [] => []
  | [c] => [c + x]
  | c :: d :: r => c :: addL x (d :: r)
theorem addL_app (x y : Int) (l : List Int) : addL x (l ++ [y]) = l ++ [y + x] := by
  induction l with
  | nil => rfl
  | cons c l ih =>
    cases l with
    | nil => rfl
    | cons d l => rw [List.cons_append, List.cons_append, addL, ← List.cons_append, ih]; rfl
theorem addL_cons {x c : Int} {l : List Int} (h : l ≠ []) : addL x (c :: l) = c :: addL x l := by
  cases l with
  | nil => exact absurd rfl h
  | cons d l => rfl
theorem addL_rev (x : Int) (l : List Int) : addL x l.reverse = (addH x l).reverse := by
  cases l with
  | nil => rfl
  | cons c l => rw [List.reverse_cons, addL_app, addH, List.reverse_cons, Int.add_comm]
/-- One pair more behind. -/
theorem fill_snoc (n a b : Int) : ∀ (k : Nat) (c : Int) (r : List Int), r.length = 2 * k → fill n c (r ++ [a, b]) = if a < n then addL (a + b) (fill n c r) else fill n c r ++ [a, b] := by
  intro k
  induction k with
  | zero =>
    intro c r h
    obtain rfl := List.length_eq_zero_iff.1 h
    simp only [List.nil_append, fill, addL]
    split
    · rw [Int.add_assoc]
    · rfl
  | succ k ih =>
    intro c r h
    match r, h with
    | [], h => simp at h
    | [x], h => simp only [List.length_cons, List.length_nil] at h; omega
    | x :: y :: r, h =>
      simp only [List.length_cons] at h
      have ih1 := ih (c + x + y) r (by omega)
      have ih2 := ih y r (by omega)
      simp only [List.cons_append]
      rw [fill, fill]
      by_cases hx : x < n
      · simp only [hx, if_true]; exact ih1
      · simp only [hx, if_false]
        rw [ih2]
        split
        · obtain ⟨u, v, e⟩ := fill_ne n y r
          rw [e, addL_cons (l := x :: u :: v) (by simp), addL_cons (l := u :: v) (by simp)]
        · rfl
def fillT (n : Int) : List Int → List Int
  | [] => []
  | c :: r => fill n c r
theorem fillT_cons (n x a : Int) (t : List Int) (h : t ≠ []) : fillT n (x :: a :: t) = if a < n then addH (x + a) (fillT n t) else x :: a :: fillT n t := by
  cases t with
  | nil => exact absurd rfl h
  | cons c r =>
    show fill n x (a :: c :: r) = if a < n then addH (x + a) (fill n c r) else x :: a :: fill n c r
    rw [fill]
    split
    · rw [fill_add n (x + a) r.length c r (Nat.le_refl _)]
    · rfl
theorem fillT_snoc (n a b : Int) (t : List Int) (h : t.length % 2 = 1) : fillT n (t ++ [a, b]) = if a < n then addL (a + b) (fillT n t) else fillT n t ++ [a, b] := by
  cases t with
  | nil => simp at h
  | cons c r =>
    rw [List.length_cons] at h
    exact fill_snoc n a b (r.length / 2) c r (by omega)
theorem fillT_rev (n : Int) : ∀ (k : Nat) (t : List Int), t.length = 2 * k + 1 → fillT n t.reverse = (fillT n t).reverse := by
  intro k
  induction k with
  | zero =>
    intro t h
    match t, h with
    | [c], _ => rfl
  | succ k ih =>
    intro t h
    match t, h with
    | x :: a :: t, h =>
      simp only [List.length_cons] at h
      have ht : t ≠ [] := by intro e; subst e; simp at h; omega
      rw [fillT_cons n x a t ht, List.reverse_cons, List.reverse_cons, List.append_assoc]
      show fillT n (t.reverse ++ [a, x]) = _
      rw [fillT_snoc n a x t.reverse (by rw [List.length_reverse]; omega), ih t (by omega)]
      split
      · rw [addL_rev, Int.add_comm a x]
      · simp
def sum : List Int → Int
  | [] => 0
  | x :: t => x + sum t
theorem fill_sum (n : Int) : ∀ (k : Nat) (c : Int) (r : List Int), r.length = 2 * k → sum (fill n c r) = c + sum r := by
  intro k
  induction k with
  | zero =>
    intro c r h
    obtain rfl := List.length_eq_zero_iff.1 h
    simp [fill, sum]
  | succ k ih =>
    intro c r h
    match r, h with
    | a :: b :: r, h =>
      simp only [List.length_cons] at h
      rw [fill]
      split
      · rw [ih _ r (by omega)]; simp only [sum]; omega
      · simp only [sum]; rw [ih _ r (by omega)]
theorem fillT_sum (n : Int) (t : List Int) (h : t.length % 2 = 1) : sum (fillT n t) = sum t := by
  cases t with
  | nil => rfl
  | cons c r =>
    rw [List.length_cons] at h
    exact fill_sum n (r.length / 2) c r (by omega)
/-- Of each pair of a list the second one is no less. -/
def odds (n : Int) : List Int → Bool
  | a :: b :: r => decide (n ≤ b) && odds n r
  | _ => true
theorem fill_odds (n : Int) : ∀ (k : Nat) (c : Int) (r : List Int), r.length ≤ k → odds n (fill n c r) = true := by
  intro k
  induction k with
  | zero =>
    intro c r h
    obtain rfl := List.length_eq_zero_iff.1 (Nat.le_zero.1 h)
    rfl
  | succ k ih =>
    intro c r h
    match r, h with
    | [], _ => rfl
    | [a], _ => rfl
    | a :: b :: r, h =>
      simp only [List.length_cons] at h
      rw [fill]
      split
      · exact ih _ r (by omega)
      · rename_i ha
        rw [odds, ih _ r (by omega), decide_eq_true (by omega)]; rfl
-- ---------------------------------------------------------------- DropShort
/-- What is left of a trace: 'e' at an odd place. -/
def dr (n : Int) : List Int → Int → Bool → List Int → List Int
  | o, _, _, [] => o
  | o, up, e, x :: r => if e || decide (x < n) then dr n o (up + x) (!e) r else dr n (if o = [] then [x] else o ++ [up, x]) 0 (!e) r
def evens (n : Int) : List Int → Bool
  | a :: b :: r => decide (n ≤ a) && evens n r
  | [a] => decide (n ≤ a)
  | [] => true
theorem evens_snoc (n u x : Int) : ∀ (k : Nat) (o : List Int), o.length = 2 * k + 1 → evens n o = true → n ≤ x → evens n (o ++ [u, x]) = true := by
  intro k
  induction k with
  | zero =>
    intro o h ho hx
    match o, h with
    | [a], _ =>
      simp only [evens, decide_eq_true_eq] at ho
      simp [evens, ho, hx]
  | succ k ih =>
    intro o h ho hx
    match o, h with
    | a :: b :: r, h =>
      simp only [List.length_cons] at h
      rw [evens, Bool.and_eq_true] at ho
      rw [List.cons_append, List.cons_append, evens, ho.1, ih r (by omega) ho.2 hx]; rfl
theorem dr_evens (n : Int) : ∀ (r o : List Int) (up : Int) (e : Bool), (o = [] ∨ o.length % 2 = 1) → evens n o = true → evens n (dr n o up e r) = true := by
  intro r
  induction r with
  | nil => intro o up e _ h; exact h
  | cons x r ih =>
    intro o up e ho h
    rw [dr]
    split
    · exact ih _ _ _ ho h
    · rename_i hc
      simp only [Bool.or_eq_true, decide_eq_true_eq, not_or] at hc
      refine ih _ _ _ ?_ ?_
      · right
        split
        · rfl
        · rcases ho with ho | ho
          · contradiction
          · simp only [List.length_append, List.length_cons, List.length_nil]; omega
      · split
        · simp [evens]; omega
        · rcases ho with ho | ho
          · contradiction
          · exact evens_snoc n up x (o.length / 2) o (by omega) h (by omega)
theorem dr_again (n : Int) : ∀ (k : Nat) (r o : List Int) (u : Int), o ≠ [] → r.length = 2 * k + 1 → evens n r = true → dr n o u false r = o ++ u :: r := by
  intro k
  induction k with
  | zero =>
    intro r o u ho h he
    match r, h with
    | [a], _ =>
      simp only [evens, decide_eq_true_eq] at he
      simp [dr, ho, show ¬ a < n by omega]
  | succ k ih =>
    intro r o u ho h he
    match r, h with
    | a :: b :: r, h =>
      simp only [List.length_cons] at h
      rw [evens, Bool.and_eq_true, decide_eq_true_eq] at he
      simp only [dr, ho, show ¬ a < n by omega, decide_false, Bool.or_false, Bool.false_eq_true, if_false, Bool.not_false, Bool.true_or, if_true, Bool.not_true]
      rw [ih r _ _ (by simp) (by omega) he.2]
      simp
theorem dr_id (n : Int) (r : List Int) (h : r.length % 2 = 1) (he : evens n r = true) : dr n [] 0 false r = r := by
  match r, h with
  | [a], _ =>
    simp only [evens, decide_eq_true_eq] at he
    simp [dr, show ¬ a < n by omega]
  | a :: b :: r, h =>
    simp only [List.length_cons] at h
    rw [evens, Bool.and_eq_true, decide_eq_true_eq] at he
    simp only [dr, show ¬ a < n by omega, decide_false, Bool.or_false, Bool.false_eq_true, if_false, Bool.not_false, Bool.true_or, if_true, Bool.not_true]
    rw [dr_again n (r.length / 2) r [a] _ (by simp) (by omega) he.2]
    simp
theorem fill_len (n : Int) : ∀ (k : Nat) (c : Int) (r : List Int), r.length ≤ k → (fill n c r).length ≤ r.length + 1 := by
  intro k
  induction k with
  | zero =>
    intro c r h
    obtain rfl := List.length_eq_zero_iff.1 (Nat.le_zero.1 h)
    simp [fill]
  | succ k ih =>
    intro c r h
    match r, h with
    | [], _ => simp [fill]
    | [a], _ => simp [fill]
    | a :: b :: r, h =>
      simp only [List.length_cons] at h
      rw [fill]
      split
      · have := ih (c + a + b) r (by omega); simp only [List.length_cons]; omega
      · have := ih b r (by omega); simp only [List.length_cons]; omega
theorem dr_len (n : Int) : ∀ (r o : List Int) (up : Int) (e : Bool), (dr n o up e r).length ≤ o.length + 2 * r.length := by
  intro r
  induction r with
  | nil => intro o up e; simp [dr]
  | cons x r ih =>
    intro o up e
    rw [dr, List.length_cons]
    split
    · have := ih o (up + x) (!e); omega
    · have := ih (if o = [] then [x] else o ++ [up, x]) 0 (!e)
      have h2 : (if o = [] then [x] else o ++ [up, x]).length ≤ o.length + 2 := by split <;> simp
      omega
end Go.Proofs.Ytkdfgjijmnaljaa.Ev.Ky
