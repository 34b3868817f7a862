/- Readings of texts of marks, in plain words: how many there are, by the first letter and by the last; borders. -/
import Derived.Test.YtkdfgjijmnaljaaDoorEvTab
set_option linter.unusedVariables false
namespace Go.Proofs.YtkdfgjijmnaljaaDoor.Ev.Rd
abbrev L := List UInt8
def pre (m l : L) : Bool := m.isPrefixOf l
theorem pre_iff {m l : L} : pre m l = true ↔ l = m ++ l.drop m.length := by
  unfold pre
  rw [List.isPrefixOf_iff_prefix]
  constructor
  · rintro ⟨t, rfl⟩
    simp
  · intro h
    exact ⟨l.drop m.length, h.symm⟩
def sm {α : Type} (f : α → Nat) : List α → Nat
  | [] => 0
  | x :: r => f x + sm f r
theorem sm_congr {α : Type} {f g : α → Nat} : ∀ {l : List α}, (∀ x ∈ l, f x = g x) → sm f l = sm g l
  | [], _ => rfl
  | x :: r, h => by rw [sm, sm, h x (List.mem_cons_self ..), sm_congr fun y hy => h y (List.mem_cons_of_mem _ hy)]
theorem sm_le {α : Type} {f g : α → Nat} : ∀ {l : List α}, (∀ x ∈ l, f x ≤ g x) → sm f l ≤ sm g l
  | [], _ => Nat.le_refl _
  | x :: r, h => by
    have h1 := h x (List.mem_cons_self ..)
    have h2 := sm_le (l := r) (f := f) (g := g) fun y hy => h y (List.mem_cons_of_mem _ hy)
    show f x + sm f r ≤ g x + sm g r
    omega
theorem sm_lt {α : Type} {f g : α → Nat} : ∀ {l : List α}, (∀ x ∈ l, f x ≤ g x) → (∃ x ∈ l, f x < g x) → sm f l < sm g l
  | [], _, ⟨x, hx, _⟩ => by simp at hx
  | x :: r, h, ⟨y, hy, hlt⟩ => by
    have h1 := h x (List.mem_cons_self ..)
    have h2 := sm_le (l := r) (f := f) (g := g) fun y hy => h y (List.mem_cons_of_mem _ hy)
    show f x + sm f r < g x + sm g r
    rcases List.mem_cons.1 hy with rfl | hy
    · omega
    · have := sm_lt (l := r) (f := f) (g := g) (fun y hy => h y (List.mem_cons_of_mem _ hy)) ⟨y, hy, hlt⟩
      omega
theorem sm_mul {α : Type} (f : α → Nat) (b : Nat) : ∀ l : List α, sm f l * b = sm (fun x => f x * b) l
  | [] => Nat.zero_mul _
  | x :: r => by rw [sm, sm, Nat.add_mul, sm_mul f b r]
theorem sm_add {α : Type} (f g : α → Nat) : ∀ l : List α, sm (fun x => f x + g x) l = sm f l + sm g l
  | [] => rfl
  | x :: r => by rw [sm, sm, sm, sm_add f g r]; omega
theorem sm_zero {α : Type} : ∀ l : List α, sm (fun _ => 0) l = 0
  | [] => rfl
  | x :: r => by rw [sm, sm_zero r]
theorem sm_swap {α β : Type} (f : α → β → Nat) (k : List β) : ∀ l : List α, sm (fun x => sm (f x) k) l = sm (fun y => sm (fun x => f x y) l) k
  | [] => (sm_zero k).symm
  | x :: r => by
    rw [sm, sm_swap f k r, ← sm_add]
    rfl
theorem sm_app {α : Type} (f : α → Nat) : ∀ a b : List α, sm f (a ++ b) = sm f a + sm f b
  | [], b => (Nat.zero_add _).symm
  | x :: r, b => by rw [List.cons_append, sm, sm, sm_app f r b]; omega
theorem sm_mem {α : Type} {f : α → Nat} : ∀ {l : List α} {x : α}, x ∈ l → f x ≤ sm f l
  | y :: r, x, h => by
    rw [sm]
    rcases List.mem_cons.1 h with rfl | h
    · omega
    · have := sm_mem (f := f) h; omega
/-- How many readings there are behind each place. -/
def vals (Ms : List L) : L → List Nat
  | [] => [1]
  | c :: t => sm (fun m => if pre m (c :: t) then (vals Ms t).getD (m.length - 1) 0 else 0) Ms :: vals Ms t
def wy (Ms : List L) (l : L) : Nat := (vals Ms l).getD 0 0
variable {Ms : List L}
theorem vals_len : ∀ l : L, (vals Ms l).length = l.length + 1
  | [] => rfl
  | c :: t => by rw [vals, List.length_cons, vals_len t, List.length_cons]
theorem vals_drop : ∀ (k : Nat) (l : L), k ≤ l.length → (vals Ms l).drop k = vals Ms (l.drop k)
  | 0, l, _ => rfl
  | k + 1, [], h => by simp at h
  | k + 1, c :: t, h => by
    rw [vals, List.drop_succ_cons, List.drop_succ_cons]
    exact vals_drop k t (by simpa using h)
theorem vals_get (k : Nat) (l : L) (h : k ≤ l.length) : (vals Ms l).getD k 0 = wy Ms (l.drop k) := by
  unfold wy
  rw [← vals_drop k l h, List.getD_eq_getElem?_getD, List.getD_eq_getElem?_getD, List.getElem?_drop]
  rfl
theorem wy_nil : wy Ms [] = 1 := rfl
theorem pre_len {m l : L} (h : pre m l = true) : m.length ≤ l.length := by
  have := congrArg List.length (pre_iff.1 h)
  rw [List.length_append, List.length_drop] at this
  omega
theorem wy_cons (hne : [] ∉ Ms) {l : L} (hl : l ≠ []) : wy Ms l = sm (fun m => if pre m l then wy Ms (l.drop m.length) else 0) Ms := by
  cases l with
  | nil => exact absurd rfl hl
  | cons c t =>
    show sm _ Ms = _
    refine sm_congr fun m hm => ?_
    by_cases h : pre m (c :: t) = true
    · rw [if_pos h, if_pos h]
      cases m with
      | nil => exact absurd hm hne
      | cons d r =>
        have := pre_len h
        rw [List.length_cons, Nat.add_sub_cancel, List.drop_succ_cons]
        exact vals_get _ _ (by simpa using this)
    · rw [if_neg h, if_neg h]
theorem pre_app {m a b : L} (h : pre m a = true) : pre m (a ++ b) = true ∧ (a ++ b).drop m.length = a.drop m.length ++ b := by
  have h1 := pre_len h
  have h2 := List.drop_append_of_le_length (l₂ := b) h1
  refine ⟨pre_iff.2 ?_, h2⟩
  rw [h2, ← List.append_assoc, ← pre_iff.1 h]
theorem drop_lt {m l : L} (hm : m ≠ []) (h : l ≠ []) : (l.drop m.length).length < l.length := by
  rw [List.length_drop]
  have := List.length_pos_iff.2 hm
  have := List.length_pos_iff.2 h
  omega
theorem wy_mul (hne : [] ∉ Ms) (b : L) : ∀ (n : Nat) (a : L), a.length ≤ n → wy Ms a * wy Ms b ≤ wy Ms (a ++ b) := by
  intro n
  induction n with
  | zero =>
    intro a ha
    obtain rfl : a = [] := List.eq_nil_of_length_eq_zero (by omega)
    rw [wy_nil, Nat.one_mul]
    exact Nat.le_refl _
  | succ n ih =>
    intro a ha
    by_cases h : a = []
    · subst h
      rw [wy_nil, Nat.one_mul]
      exact Nat.le_refl _
    · rw [wy_cons hne h, wy_cons hne (l := a ++ b) (by simp [h]), sm_mul]
      refine sm_le fun m hm => ?_
      by_cases hp : pre m a = true
      · obtain ⟨h1, h2⟩ := pre_app (b := b) hp
        rw [if_pos hp, if_pos h1, h2]
        have hmn : m ≠ [] := fun e => hne (e ▸ hm)
        have := drop_lt hmn h
        exact ih _ (by omega)
      · rw [if_neg hp, Nat.zero_mul]
        exact Nat.zero_le _
theorem wy_pos (hne : [] ∉ Ms) : ∀ w : List L, (∀ m ∈ w, m ∈ Ms) → 0 < wy Ms w.flatten := by
  intro w
  induction w with
  | nil => intro _; exact Nat.one_pos
  | cons m w ih =>
    intro h
    have hm := h m (List.mem_cons_self ..)
    have hmn : m ≠ [] := fun e => hne (e ▸ hm)
    have h1 := ih fun x hx => h x (List.mem_cons_of_mem _ hx)
    rw [List.flatten_cons, wy_cons hne (by simp [hmn])]
    have hp : pre m (m ++ w.flatten) = true := pre_iff.2 (by simp)
    refine Nat.lt_of_lt_of_le ?_ (sm_mem hm)
    rw [if_pos hp, List.drop_left]
    exact h1
/-- A reading without a border between a and b: there are more readings than those that have it. -/
theorem no_border (hne : [] ∉ Ms) (b : L) : ∀ (w : List L) (a : L), (∀ m ∈ w, m ∈ Ms) → w.flatten = a ++ b → (∀ i, (w.take i).flatten ≠ a) → wy Ms a * wy Ms b < wy Ms (a ++ b) := by
  intro w
  induction w with
  | nil =>
    intro a _ h hb
    have : a = [] := by
      have := congrArg List.length h
      rw [List.flatten_nil, List.length_append] at this
      simp at this
      exact List.eq_nil_of_length_eq_zero (by omega)
    exact absurd this.symm (by simpa using hb 0)
  | cons m w ih =>
    intro a hM h hb
    have hm := hM m (List.mem_cons_self ..)
    have hmn : m ≠ [] := fun e => hne (e ▸ hm)
    have ha : a ≠ [] := fun e => by have := hb 0; rw [List.take_zero, List.flatten_nil] at this; exact this e.symm
    have hw : ∀ x ∈ w, x ∈ Ms := fun x hx => hM x (List.mem_cons_of_mem _ hx)
    rw [List.flatten_cons] at h
    have hp : pre m (a ++ b) = true := pre_iff.2 (by rw [← h]; simp)
    have hd : (a ++ b).drop m.length = w.flatten := by rw [← h]; simp
    rw [wy_cons hne ha, wy_cons hne (l := a ++ b) (by simp [ha]), sm_mul]
    refine sm_lt (fun x hx => ?_) ⟨m, hm, ?_⟩
    · by_cases hpx : pre x a = true
      · obtain ⟨h1, h2⟩ := pre_app (b := b) hpx
        rw [if_pos hpx, if_pos h1, h2]
        exact wy_mul hne b _ _ (Nat.le_refl _)
      · rw [if_neg hpx, Nat.zero_mul]
        exact Nat.zero_le _
    · rw [if_pos hp]
      by_cases hpx : pre m a = true
      · obtain ⟨h1, h2⟩ := pre_app (b := b) hpx
        rw [if_pos hpx, h2]
        refine ih (a.drop m.length) hw (by rw [← hd, h2]) fun i hi => ?_
        have := hb (i + 1)
        rw [List.take_succ_cons, List.flatten_cons, hi] at this
        exact this (pre_iff.1 hpx).symm
      · rw [if_neg hpx, Nat.zero_mul, hd]
        exact wy_pos hne w hw
/-- Marks at the end. -/
def suf (m l : L) : Bool := m.isSuffixOf l
theorem suf_iff {m l : L} : suf m l = true ↔ l = l.take (l.length - m.length) ++ m ∧ m.length ≤ l.length := by
  unfold suf
  rw [List.isSuffixOf_iff_suffix]
  constructor
  · rintro ⟨t, rfl⟩
    simp
  · intro ⟨h, _⟩
    exact ⟨_, h.symm⟩
/-- What stands between m at the beginning and k at the end. -/
def mid (m k l : L) : Bool := pre m l && suf k l && decide (m.length + k.length ≤ l.length)
theorem mid_pre {m k l : L} : (pre m l = true ∧ suf k (l.drop m.length) = true) ↔ mid m k l = true := by
  unfold mid
  rw [Bool.and_eq_true, Bool.and_eq_true, decide_eq_true_eq]
  constructor
  · rintro ⟨h1, h2⟩
    have e1 := pre_iff.1 h1
    obtain ⟨e2, l2⟩ := suf_iff.1 h2
    have l1 := pre_len h1
    rw [List.length_drop] at l2
    refine ⟨⟨h1, ?_⟩, by omega⟩
    unfold suf at h2 ⊢
    rw [List.isSuffixOf_iff_suffix] at h2 ⊢
    exact h2.trans (List.drop_suffix _ _)
  · rintro ⟨⟨h1, h2⟩, h3⟩
    refine ⟨h1, ?_⟩
    obtain ⟨e2, l2⟩ := suf_iff.1 h2
    unfold suf
    rw [List.isSuffixOf_iff_suffix]
    refine ⟨(l.take (l.length - k.length)).drop m.length, ?_⟩
    conv => rhs; rw [e2]
    rw [List.drop_append_of_le_length (by rw [List.length_take]; omega)]
theorem mid_suf {m k l : L} : (suf k l = true ∧ pre m (l.take (l.length - k.length)) = true) ↔ mid m k l = true := by
  unfold mid
  rw [Bool.and_eq_true, Bool.and_eq_true, decide_eq_true_eq]
  constructor
  · rintro ⟨h1, h2⟩
    have l2 := pre_len h2
    obtain ⟨e1, l1⟩ := suf_iff.1 h1
    rw [List.length_take] at l2
    refine ⟨⟨?_, h1⟩, by omega⟩
    rw [e1]
    exact (pre_app h2).1
  · rintro ⟨⟨h1, h2⟩, h3⟩
    refine ⟨h2, pre_iff.2 ?_⟩
    have e1 := pre_iff.1 h1
    have hm : m = l.take m.length := by conv => rhs; rw [e1]; rw [List.take_left]
    have : (l.take (l.length - k.length)).take m.length = l.take m.length := by rw [List.take_take]; congr 1; omega
    conv => rhs; lhs; rw [hm, ← this]
    exact (List.take_append_drop _ _).symm
theorem wy_last (hne : [] ∉ Ms) : ∀ (n : Nat) (l : L), l.length ≤ n → l ≠ [] → wy Ms l = sm (fun k => if suf k l then wy Ms (l.take (l.length - k.length)) else 0) Ms := by
  intro n
  induction n with
  | zero => intro l h h2; exact absurd (List.eq_nil_of_length_eq_zero (by omega)) h2
  | succ n ih =>
    intro l hl h
    have hA : wy Ms l = sm (fun m => (if m = l then 1 else 0) + sm (fun k => if mid m k l then wy Ms ((l.drop m.length).take (l.length - m.length - k.length)) else 0) Ms) Ms := by
      rw [wy_cons hne h]
      refine sm_congr fun m hm => ?_
      have hmn : m ≠ [] := fun e => hne (e ▸ hm)
      by_cases hp : pre m l = true
      · rw [if_pos hp]
        by_cases hz : m = l
        · subst hz
          rw [if_pos rfl, List.drop_length, wy_nil]
          have : sm (fun k => if mid m k m then wy Ms ([].take (m.length - m.length - k.length)) else 0) Ms = 0 := by
            refine (sm_congr (g := fun _ => 0) fun k hk => ?_).trans (sm_zero Ms)
            have hkn : k ≠ [] := fun e => hne (e ▸ hk)
            have := List.length_pos_iff.2 hkn
            rw [if_neg]
            unfold mid
            rw [Bool.and_eq_true, decide_eq_true_eq]
            omega
          omega
        · rw [if_neg hz, Nat.zero_add]
          have hdn : l.drop m.length ≠ [] := fun e => hz (by have := pre_iff.1 hp; rw [e, List.append_nil] at this; exact this.symm)
          have hlt := drop_lt hmn h
          rw [ih _ (by omega) hdn]
          refine sm_congr fun k hk => ?_
          by_cases hs : suf k (l.drop m.length) = true
          · rw [if_pos hs, if_pos (mid_pre.1 ⟨hp, hs⟩), List.length_drop]
          · rw [if_neg hs, if_neg (fun e => hs (mid_pre.2 e).2)]
      · have hz : ¬ m = l := fun e => hp (pre_iff.2 (by rw [e]; simp))
        rw [if_neg hp, if_neg hz, Nat.zero_add]
        refine ((sm_congr (g := fun _ => 0) fun k hk => ?_).trans (sm_zero Ms)).symm
        rw [if_neg (fun e => hp (mid_pre.2 e).1)]
    have hB : sm (fun k => if suf k l then wy Ms (l.take (l.length - k.length)) else 0) Ms = sm (fun k => (if k = l then 1 else 0) + sm (fun m => if mid m k l then wy Ms ((l.take (l.length - k.length)).drop m.length) else 0) Ms) Ms := by
      refine sm_congr fun k hk => ?_
      have hkn : k ≠ [] := fun e => hne (e ▸ hk)
      have hkp := List.length_pos_iff.2 hkn
      by_cases hp : suf k l = true
      · obtain ⟨e1, l1⟩ := suf_iff.1 hp
        rw [if_pos hp]
        by_cases hz : k = l
        · subst hz
          rw [if_pos rfl, Nat.sub_self, List.take_zero, wy_nil]
          have : sm (fun m => if mid m k k then wy Ms ([].drop m.length) else 0) Ms = 0 := by
            refine (sm_congr (g := fun _ => 0) fun m hm => ?_).trans (sm_zero Ms)
            have hmn : m ≠ [] := fun e => hne (e ▸ hm)
            have := List.length_pos_iff.2 hmn
            rw [if_neg]
            unfold mid
            rw [Bool.and_eq_true, decide_eq_true_eq]
            omega
          omega
        · rw [if_neg hz, Nat.zero_add]
          have hdn : l.take (l.length - k.length) ≠ [] := fun e => hz (by rw [e, List.nil_append] at e1; exact e1.symm)
          rw [wy_cons hne hdn]
          refine sm_congr fun m hm => ?_
          by_cases hs : pre m (l.take (l.length - k.length)) = true
          · rw [if_pos hs, if_pos (mid_suf.1 ⟨hp, hs⟩)]
          · rw [if_neg hs, if_neg (fun e => hs (mid_suf.2 e).2)]
      · have hz : ¬ k = l := fun e => hp (suf_iff.2 (by rw [e]; simp))
        rw [if_neg hp, if_neg hz, Nat.zero_add]
        refine ((sm_congr (g := fun _ => 0) fun m hm => ?_).trans (sm_zero Ms)).symm
        rw [if_neg (fun e => hp (mid_suf.2 e).1)]
    rw [hA, hB, sm_add, sm_add, sm_swap]
    congr 1
    refine sm_congr fun k hk => sm_congr fun m hm => ?_
    by_cases hq : mid m k l = true
    · rw [if_pos hq, if_pos hq]
      congr 1
      rw [List.drop_take]
      congr 1
      omega
    · rw [if_neg hq, if_neg hq]
/-- Texts of marks that differ: there are no more than 2 ^ n readings. -/
def geo : Nat → Nat → Nat → Nat
  | 0, _, _ => 0
  | j + 1, n, _ => geo j n 0 + 2 ^ (n - (j + 1))
def cnt (Ms : List L) (l : L) : Nat → Nat
  | 0 => 0
  | j + 1 => cnt Ms l j + 2 ^ (l.length - (j + 1)) * Ms.count (l.take (j + 1))
theorem cnt_cons (m : L) (l : L) : ∀ j, cnt (m :: Ms) l j = cnt Ms l j + cnt [m] l j
  | 0 => rfl
  | j + 1 => by
    rw [cnt, cnt, cnt, cnt_cons m l j, List.count_cons, List.count_cons, List.count_nil, Nat.mul_add, Nat.zero_add]
    omega
theorem cnt_one {m l : L} (h : pre m l = true) : ∀ j, m.length ≤ j → m ≠ [] → 2 ^ (l.length - m.length) ≤ cnt [m] l j
  | 0, h1, h2 => absurd (List.eq_nil_of_length_eq_zero (by omega)) h2
  | j + 1, h1, h2 => by
    rw [cnt]
    by_cases he : m.length = j + 1
    · have hm : l.take (j + 1) = m := by
        rw [← he]
        conv => lhs; rw [pre_iff.1 h]
        exact List.take_left
      rw [hm, ← he, List.count_cons_self, List.count_nil]
      omega
    · have := cnt_one h j (by omega) h2
      omega
theorem cnt_le (hd : Ms.Nodup) (l : L) : ∀ j, j ≤ l.length → cnt Ms l j + 2 ^ (l.length - j) ≤ 2 ^ l.length
  | 0, _ => by rw [cnt]; simp
  | j + 1, h => by
    have := cnt_le hd l j (by omega)
    have hc : Ms.count (l.take (j + 1)) ≤ 1 := List.nodup_iff_count.1 hd _
    have hp : 2 ^ (l.length - j) = 2 * 2 ^ (l.length - (j + 1)) := by
      rw [show l.length - j = (l.length - (j + 1)) + 1 by omega, Nat.pow_succ]
      omega
    rw [cnt]
    generalize 2 ^ (l.length - (j + 1)) = p at *
    have : p * Ms.count (l.take (j + 1)) ≤ p * 1 := Nat.mul_le_mul_left p hc
    omega
theorem sm_cnt (l : L) (g : L → Nat) (hg : ∀ m, pre m l = true → g m ≤ 2 ^ (l.length - m.length)) : ∀ Ms : List L, [] ∉ Ms → sm (fun m => if pre m l then g m else 0) Ms ≤ cnt Ms l l.length
  | [], _ => Nat.zero_le _
  | m :: Ms, hn => by
    have h1 := sm_cnt l g hg Ms (fun h => hn (List.mem_cons_of_mem _ h))
    rw [cnt_cons, sm]
    by_cases hp : pre m l = true
    · have := cnt_one hp l.length (pre_len hp) (fun e => hn (by rw [e]; exact List.mem_cons_self ..))
      have := hg m hp
      rw [if_pos hp]
      omega
    · rw [if_neg hp]
      omega
theorem wy_le (hne : [] ∉ Ms) (hd : Ms.Nodup) : ∀ (n : Nat) (l : L), l.length ≤ n → wy Ms l ≤ 2 ^ l.length := by
  intro n
  induction n with
  | zero =>
    intro l h
    obtain rfl : l = [] := List.eq_nil_of_length_eq_zero (by omega)
    exact Nat.le_refl _
  | succ n ih =>
    intro l hl
    by_cases h : l = []
    · subst h; exact Nat.le_refl _
    · rw [wy_cons hne h]
      -- the bound for each m of Ms alone
      have hs : sm (fun m => if pre m l then wy Ms (l.drop m.length) else 0) Ms ≤ sm (fun m => if pre m l then min (wy Ms (l.drop m.length)) (2 ^ (l.length - m.length)) else 0) Ms := by
        refine sm_le fun m hm => ?_
        have hmn : m ≠ [] := fun e => hne (e ▸ hm)
        by_cases hp : pre m l = true
        · rw [if_pos hp, if_pos hp]
          have := ih (l.drop m.length) (by have := drop_lt hmn h; omega)
          rw [List.length_drop] at this
          omega
        · rw [if_neg hp, if_neg hp]
          exact Nat.le_refl _
      have h2 := sm_cnt l (fun m => min (wy Ms (l.drop m.length)) (2 ^ (l.length - m.length))) (fun m _ => Nat.min_le_right _ _) Ms hne
      have h3 := cnt_le hd l l.length (Nat.le_refl _)
      rw [Nat.sub_self] at h3
      omega
end Go.Proofs.YtkdfgjijmnaljaaDoor.Ev.Rd
