/- Plans: the stations that are busy in a unit. -/
import Derived.Test.YtlakldjpnpailaaGreatDoorEvRelI
import Derived.Test.YtlakldjpnpailaaGreatDoorEvSortI
set_option linter.unusedVariables false
set_option linter.unusedSimpArgs false
namespace Go.Proofs.YtlakldjpnpailaaGreatDoor.Ev
def act (js : List J) (u : Int) (h : Hh) : Bool := btw u h.2.2 (h.2.2 + (jat js h.1).2.2.1 - 1)
def atS (js : List J) (u s : Int) (h : Hh) : Bool := act js u h && (decide (h.2.1 = s) || decide (nxt js h = s))
def rowS (js : List J) (u : Int) (pl : List Hh) (s : Int) : List Int := (pl.filter (atS js u s)).map fun _ => s
def rowsF (js : List J) (u : Int) (pl : List Hh) : Nat → Int → List Int
  | 0, _ => []
  | k + 1, s => rowS js u pl s ++ rowsF js u pl k (s + 1)
def busyI (js : List J) (u : Int) (pl : List Hh) : List Int := pl.flatMap fun h => if act js u h = true then [h.2.1, nxt js h] else []
-- ---------------------------------------------------------------- plain
theorem nxt_ne (js : List J) (h : Hh) : h.2.1 ≠ nxt js h := by
  unfold nxt way
  split <;> omega
theorem busyI_count (js : List J) (u a : Int) : ∀ pl : List Hh, (busyI js u pl).count a = (rowS js u pl a).length
  | [] => rfl
  | h :: t => by
    have ih := busyI_count js u a t
    have hne := nxt_ne js h
    unfold busyI rowS at *
    rw [List.flatMap_cons, List.count_append, ih, List.filter_cons]
    unfold atS
    cases hc : act js u h with
    | false => simp
    | true =>
      by_cases h1 : h.2.1 = a
      · have h2 : ¬ nxt js h = a := fun e => hne (h1.trans e.symm)
        simp [h1, h2, List.count_cons]
        omega
      · by_cases h2 : nxt js h = a
        · simp [h1, h2, List.count_cons]
          omega
        · simp [h1, h2, List.count_cons]
theorem rowS_count (js : List J) (u : Int) (pl : List Hh) (s a : Int) : (rowS js u pl s).count a = if s = a then (rowS js u pl a).length else 0 := by
  unfold rowS
  by_cases h : s = a
  · subst h
    rw [if_pos rfl]
    induction pl with
    | nil => rfl
    | cons x t ih =>
      rw [List.filter_cons]
      cases atS js u s x with
      | false => simpa using ih
      | true => simpa using ih
  · rw [if_neg h, List.count_eq_zero]
    intro hm
    obtain ⟨_, _, e⟩ := List.mem_map.1 hm
    exact h e
theorem rowsF_count (js : List J) (u : Int) (pl : List Hh) (a : Int) : ∀ (k : Nat) (s : Int), (rowsF js u pl k s).count a = if s ≤ a ∧ a < s + k then (rowS js u pl a).length else 0
  | 0, s => by
    rw [rowsF, if_neg (by omega)]
    rfl
  | k + 1, s => by
    rw [rowsF, List.count_append, rowS_count, rowsF_count js u pl a k (s + 1)]
    by_cases h1 : s = a
    · rw [if_pos h1, if_neg (by omega), if_pos (by omega)]
      omega
    · rw [if_neg h1, Nat.zero_add]
      by_cases h2 : s + 1 ≤ a ∧ a < s + 1 + k
      · rw [if_pos h2, if_pos (by omega)]
      · rw [if_neg h2, if_neg (by omega)]
theorem rowS_const (js : List J) (u : Int) (pl : List Hh) (s : Int) : ∀ x ∈ rowS js u pl s, x = s := by
  intro x hx
  obtain ⟨_, _, e⟩ := List.mem_map.1 hx
  exact e.symm
theorem rowsF_ge (js : List J) (u : Int) (pl : List Hh) : ∀ (k : Nat) (s : Int), ∀ x ∈ rowsF js u pl k s, s ≤ x
  | 0, s, x, hx => by cases hx
  | k + 1, s, x, hx => by
    rw [rowsF] at hx
    rcases List.mem_append.1 hx with h | h
    · rw [rowS_const js u pl s x h]; omega
    · have := rowsF_ge js u pl k (s + 1) x h
      omega
theorem const_sorted (s : Int) : ∀ l : List Int, (∀ x ∈ l, x = s) → List.Pairwise (· ≤ ·) l
  | [], _ => List.Pairwise.nil
  | x :: l, h => List.pairwise_cons.2 ⟨fun y hy => by rw [h x (by simp), h y (by simp [hy])]; omega, const_sorted s l fun y hy => h y (by simp [hy])⟩
theorem rowsF_sorted (js : List J) (u : Int) (pl : List Hh) : ∀ (k : Nat) (s : Int), List.Pairwise (· ≤ ·) (rowsF js u pl k s)
  | 0, s => List.Pairwise.nil
  | k + 1, s => by
    rw [rowsF, List.pairwise_append]
    refine ⟨const_sorted s _ (rowS_const js u pl s), rowsF_sorted js u pl k (s + 1), fun a ha b hb => ?_⟩
    rw [rowS_const js u pl s a ha]
    have := rowsF_ge js u pl k (s + 1) b hb
    omega
theorem pairs_of {js : List J} : ∀ (t p : List Hh), okPairs js p t = true → (∀ x ∈ p, ∀ h ∈ t, clash js x h = false) ∧ List.Pairwise (fun x h => clash js x h = false) t
  | [], p, _ => ⟨fun x _ h hh => (by cases hh), List.Pairwise.nil⟩
  | h :: t, p, e => by
    unfold okPairs at e
    simp only [Bool.and_eq_true, Bool.not_eq_true', List.any_eq_false] at e
    obtain ⟨⟨e1, _⟩, e2⟩ := e
    obtain ⟨i1, i2⟩ := pairs_of t (p ++ [h]) e2
    refine ⟨fun x hx y hy => ?_, List.pairwise_cons.2 ⟨fun y hy => i1 h (by simp) y hy, i2⟩⟩
    rcases List.mem_cons.1 hy with e | e
    · subst e
      simpa using e1 x hx
    · exact i1 x (by simp [hx]) y e
theorem clash_of {js : List J} {u s : Int} {a b : Hh} (ha : atS js u s a = true) (hb : atS js u s b = true) : clash js a b = true := by
  unfold atS act btw at ha hb
  simp only [Bool.and_eq_true, Bool.or_eq_true, decide_eq_true_eq] at ha hb
  obtain ⟨⟨a1, a2⟩, a3⟩ := ha
  obtain ⟨⟨b1, b2⟩, b3⟩ := hb
  unfold clash
  simp only [Bool.and_eq_true, Bool.not_eq_true', Bool.or_eq_false_iff, Bool.or_eq_true, decide_eq_true_eq, decide_eq_false_iff_not]
  refine ⟨⟨by omega, by omega⟩, ?_⟩
  rcases a3 with a3 | a3 <;> rcases b3 with b3 | b3 <;> rw [a3, b3] <;> simp
theorem rowS_one {js : List J} {pl : List Hh} (h : okPairs js [] pl = true) (u s : Int) : (rowS js u pl s).length ≤ 1 := by
  obtain ⟨_, hp⟩ := pairs_of pl [] h
  have hf := List.Pairwise.filter (atS js u s) hp
  have hm : ∀ x ∈ pl.filter (atS js u s), atS js u s x = true := fun x hx => (List.mem_filter.1 hx).2
  unfold rowS
  rw [List.length_map]
  generalize pl.filter (atS js u s) = l at *
  match l, hf, hm with
  | [], _, _ => simp
  | [_], _, _ => simp
  | a :: b :: l, hf, hm =>
    have h1 := (List.pairwise_cons.1 hf).1 b (by simp)
    rw [clash_of (hm a (by simp)) (hm b (by simp))] at h1
    cases h1
theorem rowsF_len {js : List J} {pl : List Hh} (h : okPairs js [] pl = true) (u : Int) : ∀ (k : Nat) (s : Int), (rowsF js u pl k s).length ≤ k
  | 0, s => by simp [rowsF]
  | k + 1, s => by
    have h1 := rowsF_len h u k (s + 1)
    have h2 := rowS_one h u s
    rw [rowsF, List.length_append]
    omega
theorem runK_from {j : J} {k : Nat} : ∀ (pl : List Hh) (r : Int) (c : Nat) (q : Int × Nat), runK j k pl r c = some q → ∀ h ∈ pl, h.1 = (k : Int) → ∃ d : Nat, (d : Int) < many j ∧ h.2.1 = j.1 + way j * d
  | [], r, c, q, _ => fun h hh => by cases hh
  | h0 :: t, r, c, q, e => by
    intro h hh hk
    unfold runK at e
    split at e
    · rename_i hk0
      cases hs : stepK j h0 r c with
      | none => rw [hs] at e; cases e
      | some s =>
        rw [hs] at e
        unfold stepK at hs
        split at hs
        · rename_i hc
          cases hs
          rcases List.mem_cons.1 hh with e1 | e1
          · subst e1
            exact ⟨c, hc.1, hc.2.1⟩
          · exact runK_from t _ _ q e h e1 hk
        · cases hs
    · rename_i hk0
      rcases List.mem_cons.1 hh with e1 | e1
      · subst e1; exact absurd hk hk0
      · exact runK_from t _ _ q e h e1 hk
/-- Both stations of a hop of a plan are in the row. -/
theorem plan_in {n : Int} {js : List J} (hg : okJobs n js = true) {pl : List Hh} (h : planS js pl = true) : ∀ x ∈ pl, (0 ≤ x.2.1 ∧ x.2.1 < n) ∧ (0 ≤ nxt js x ∧ nxt js x < n) := by
  obtain ⟨hl, hj⟩ := okJobs_jb hg
  obtain ⟨h1, h2, _⟩ := (planS_iff js pl).1 h
  have hb := runs_hb hj h1 h2
  intro x hx
  have hB := hb x hx
  obtain ⟨a, b, c⟩ := x
  obtain ⟨k, rfl⟩ : ∃ k : Nat, a = k := ⟨a.toNat, by have := hB.1; simp at this; omega⟩
  have hk : k < js.length := by have := hB.2.1; simp at this; omega
  obtain ⟨q, e1, _⟩ := h2 k hk
  obtain ⟨d, d1, d2⟩ := runK_from pl _ _ q e1 _ hx rfl
  have hjb : okJob n js[k] = true := by
    unfold okJobs at hg
    rw [Bool.and_eq_true, Bool.and_eq_true, List.all_eq_true] at hg
    exact hg.2.2 _ (List.getElem_mem hk)
  unfold okJob btw at hjb
  simp only [Bool.and_eq_true, decide_eq_true_eq] at hjb
  obtain ⟨⟨a1, a2⟩, ⟨a3, a4⟩, _⟩ := hjb
  unfold nxt
  rw [jat_get hk]
  dsimp only at d2 ⊢
  rw [d2]
  unfold many at d1
  unfold way
  by_cases hw : js[k].1 < js[k].2.1
  · rw [if_pos hw] at d1
    rw [if_pos hw]
    omega
  · rw [if_neg hw] at d1
    rw [if_neg hw]
    omega
theorem busy_perm {n : Nat} {js : List J} (hg : okJobs n js = true) {pl : List Hh} (h : planS js pl = true) (u : Int) : List.Perm (busyI js u pl) (rowsF js u pl n 0) := by
  rw [List.perm_iff_count]
  intro a
  rw [rowsF_count]
  by_cases ha : 0 ≤ a ∧ a < 0 + (n : Int)
  · rw [if_pos ha, busyI_count]
  · rw [if_neg ha, List.count_eq_zero]
    intro hm
    unfold busyI at hm
    obtain ⟨x, hx, hm⟩ := List.mem_flatMap.1 hm
    have hin := plan_in hg h x hx
    split at hm
    · rcases List.mem_cons.1 hm with e | e
      · subst e; omega
      · simp only [List.mem_singleton] at e
        subst e; omega
    · cases hm
-- ---------------------------------------------------------------- walked
theorem rowS_loop (n : Int) (js : List J) (hj : ∀ j ∈ js, JB j) (hl : js.length ≤ 5) (pl : List Hh) (hb : ∀ h ∈ pl, HB js h) (hpl : pl.length ≤ 1099511627776) (u s : Int) : ∀ (t : List Hh) (i : Nat) (xs : List Int), pl.drop i = t → xs.length + t.length ≤ 8796093022208 →
    packX 0 [0, 1, 2, 3, 10, 11] (loopW (bd E0 (ev E0) loopW 0 [0, 1, 2, 3, 10, 11, 12] L22b0) ⟨[(0, i64 n), (1, .lst 4 (js.map jb)), (2, .lst 3 (pl.map hp)), (3, i64 u), (10, .sl 0 0 xs.length), (11, i64 s), (12, i64 i)], [ri xs]⟩) = some (.ext 2, ⟨[(0, i64 n), (1, .lst 4 (js.map jb)), (2, .lst 3 (pl.map hp)), (3, i64 u), (10, .sl 0 0 (xs ++ rowS js u t s).length), (11, i64 s)], [ri (xs ++ rowS js u t s)]⟩) := by
  intro t
  induction t with
  | nil =>
    intro i xs h _
    have hi := not_drop h
    rw [loopW_eq]
    generalize loopW (bd E0 (ev E0) loopW 0 [0, 1, 2, 3, 10, 11, 12] L22b0) = K
    unfold ri rowS
    simp -implicitDefEqProofs [bd, L22b0, hi]
  | cons h t ih =>
    intro i xs hd0 hsz
    obtain ⟨hi, hx, hd, hmem⟩ := at_drop hd0
    have hB := hb _ hmem
    rw [List.length_cons] at hsz
    have ih1 := ih (i + 1) xs hd (by omega)
    have ih2 := ih (i + 1) (xs ++ [s]) hd (by simp; omega)
    have hn := next_s js hj h hB
    obtain ⟨a, b, e⟩ := h
    obtain ⟨b1, b2, b3, b4, b5, b6⟩ := id hB
    obtain ⟨k, rfl⟩ : ∃ k : Nat, a = k := ⟨a.toNat, by dsimp only at b1; omega⟩
    dsimp only at *
    have hk : k < js.length := by omega
    have hjat := jat_get hk
    have hJ := hj _ (List.getElem_mem hk)
    have s0 := hJ.s0
    have s1 := hJ.s1
    have hw : IntKind.i64.wrap ((i : Int) + 1) = (i : Int) + 1 := wr64 (by omega) (by omega)
    have hwe : IntKind.i64.wrap (e + js[k].2.2.1) = e + js[k].2.2.1 := wr64 (by omega) (by omega)
    have l1 : (xs.length + 1) * 8 ≤ 140737488355328 := by omega
    have l2 : xs.length + 1 ≤ 140737488355328 := by omega
    have t1 : ∀ l : List Int, List.take l.length (l.map i64) = l.map i64 := fun l => List.take_of_length_le (by simp)
    have hfil : rowS js u (((k : Int), b, e) :: t) s = if atS js u s ((k : Int), b, e) = true then s :: rowS js u t s else rowS js u t s := by
      unfold rowS
      rw [List.filter_cons]
      split <;> rfl
    rw [hfil]
    unfold atS act btw
    dsimp only
    rw [hjat]
    rw [cs1] at ih1 ih2
    rw [loopW_eq]
    generalize loopW (bd E0 (ev E0) loopW 0 [0, 1, 2, 3, 10, 11, 12] L22b0) = K at ih1 ih2 ⊢
    generalize rowS js u t s = T at *
    simp only [List.append_assoc, List.cons_append, List.nil_append, List.length_append, List.length_cons, List.length_nil] at ih2
    simp only [List.length_append, List.length_cons] at ih1 ⊢
    generalize nxt js ((k : Int), b, e) = nx at *
    unfold ri i64s hp jb at *
    by_cases q1 : e ≤ u
    · by_cases q2 : u < e + js[k].2.2.1
      · have q2' : u ≤ e + js[k].2.2.1 - 1 := by omega
        by_cases q3 : b = s
        · subst q3
          simpa -implicitDefEqProofs [bd, L22b0, hi, hx, hw, hk, hwe, q1, q2, q2', hn, l1, l2, t1] using ih2
        · by_cases q4 : nx = s
          · subst q4
            simpa -implicitDefEqProofs [bd, L22b0, hi, hx, hw, hk, hwe, q1, q2, q2', q3, hn, l1, l2, t1] using ih2
          · simpa -implicitDefEqProofs [bd, L22b0, hi, hx, hw, hk, hwe, q1, q2, q2', q3, q4, hn, l1, l2, t1] using ih1
      · have q2' : ¬ u ≤ e + js[k].2.2.1 - 1 := by omega
        simpa -implicitDefEqProofs [bd, L22b0, hi, hx, hw, hk, hwe, q1, q2, q2', hn, l1, l2, t1] using ih1
    · simpa -implicitDefEqProofs [bd, L22b0, hi, hx, hw, hk, hwe, q1, hn, l1, l2, t1] using ih1
theorem busyI_loop (js : List J) (hj : ∀ j ∈ js, JB j) (hl : js.length ≤ 5) (pl : List Hh) (hb : ∀ h ∈ pl, HB js h) (hpl : pl.length ≤ 1099511627776) (u : Int) : ∀ (t : List Hh) (i : Nat) (xs : List Int), pl.drop i = t → xs.length + 2 * t.length ≤ 8796093022208 →
    packX 0 [10] (loopW (bd E0 (ev E0) loopW 0 [1, 3, 10, 24, 25, 26] L21b0) ⟨[(1, .lst 4 (js.map jb)), (3, i64 u), (10, .sl 0 0 xs.length), (24, .lst 3 (pl.map hp)), (25, i64 pl.length), (26, i64 i)], [ri xs]⟩) = some (.ext 0, ⟨[(10, .sl 0 0 (xs ++ busyI js u t).length)], [ri (xs ++ busyI js u t)]⟩) := by
  intro t
  induction t with
  | nil =>
    intro i xs h _
    have hi := not_drop h
    have hi2 : ¬ (i : Int) < (pl.length : Int) := by omega
    rw [loopW_eq]
    generalize loopW (bd E0 (ev E0) loopW 0 [1, 3, 10, 24, 25, 26] L21b0) = K
    unfold ri busyI
    simp -implicitDefEqProofs [bd, L21b0, hi, hi2]
  | cons h t ih =>
    intro i xs hd0 hsz
    obtain ⟨hi, hx, hd, hmem⟩ := at_drop hd0
    have hi2 : (i : Int) < (pl.length : Int) := by omega
    have hB := hb _ hmem
    rw [List.length_cons] at hsz
    have ih1 := ih (i + 1) xs hd (by omega)
    have ih2 := ih (i + 1) (xs ++ [h.2.1, nxt js h]) hd (by simp; omega)
    obtain ⟨a, b, e⟩ := h
    obtain ⟨b1, b2, b3, b4, b5, b6⟩ := id hB
    obtain ⟨k, rfl⟩ : ∃ k : Nat, a = k := ⟨a.toNat, by dsimp only at b1; omega⟩
    dsimp only at *
    have hk : k < js.length := by omega
    have hjat := jat_get hk
    have hJ := hj _ (List.getElem_mem hk)
    have s0 := hJ.s0
    have s1 := hJ.s1
    have hn := next_i js[k] hJ b (by omega) (by omega)
    have hnx : nxt js ((k : Int), b, e) = b + way js[k] := by unfold nxt; rw [hjat]
    rw [← hnx] at hn
    have hw : IntKind.i64.wrap ((i : Int) + 1) = (i : Int) + 1 := wr64 (by omega) (by omega)
    have hwe : IntKind.i64.wrap (e + js[k].2.2.1) = e + js[k].2.2.1 := wr64 (by omega) (by omega)
    have hwe2 : IntKind.i64.wrap (e + js[k].2.2.1 - 1) = e + js[k].2.2.1 - 1 := wr64 (by omega) (by omega)
    have l1 : (xs.length + 2) * 8 ≤ 140737488355328 := by omega
    have l2 : xs.length + 2 ≤ 140737488355328 := by omega
    have t1 : ∀ l : List Int, List.take l.length (l.map i64) = l.map i64 := fun l => List.take_of_length_le (by simp)
    have hin := in_i u e (e + js[k].2.2.1 - 1)
    have hfil : busyI js u (((k : Int), b, e) :: t) = if btw u e (e + js[k].2.2.1 - 1) = true then b :: nxt js ((k : Int), b, e) :: busyI js u t else busyI js u t := by
      unfold busyI act
      rw [List.flatMap_cons]
      dsimp only
      rw [hjat]
      split <;> rfl
    rw [hfil]
    rw [cs1] at ih1 ih2
    rw [loopW_eq]
    generalize loopW (bd E0 (ev E0) loopW 0 [1, 3, 10, 24, 25, 26] L21b0) = K at ih1 ih2 ⊢
    generalize busyI js u t = T at *
    simp only [List.append_assoc, List.cons_append, List.nil_append, List.length_append, List.length_cons, List.length_nil] at ih2
    simp only [List.length_append, List.length_cons] at ih1 ⊢
    generalize nxt js ((k : Int), b, e) = nx at *
    unfold ri i64s hp jb at *
    cases hbt : btw u e (e + js[k].2.2.1 - 1) with
    | false =>
      rw [hbt] at hin
      simpa -implicitDefEqProofs [bd, L21b0, hi, hi2, hx, hw, hk, hwe, hwe2, hin, hn, l1, l2, t1] using ih1
    | true =>
      rw [hbt] at hin
      simpa -implicitDefEqProofs [bd, L21b0, hi, hi2, hx, hw, hk, hwe, hwe2, hin, hn, l1, l2, t1] using ih2
theorem rowS_le (js : List J) (u : Int) (pl : List Hh) (s : Int) : (rowS js u pl s).length ≤ pl.length := by
  unfold rowS
  rw [List.length_map]
  exact List.length_filter_le ..
theorem rowsF_loop (n : Nat) (hn : n ≤ 6) (js : List J) (hj : ∀ j ∈ js, JB j) (hl : js.length ≤ 5) (pl : List Hh) (hb : ∀ h ∈ pl, HB js h) (hpl : pl.length ≤ 1099511627776) (u : Int) : ∀ (k : Nat) (s : Nat) (xs : List Int), s + k = n → xs.length + k * pl.length ≤ 8796093022208 →
    packX 0 [10] (loopW (bd E0 (ev E0) loopW 0 [0, 1, 2, 3, 10, 11] L22b1) ⟨[(0, i64 n), (1, .lst 4 (js.map jb)), (2, .lst 3 (pl.map hp)), (3, i64 u), (10, .sl 0 0 xs.length), (11, i64 s)], [ri xs]⟩) = some (.ext 0, ⟨[(10, .sl 0 0 (xs ++ rowsF js u pl k s).length)], [ri (xs ++ rowsF js u pl k s)]⟩) := by
  intro k
  induction k with
  | zero =>
    intro s xs h _
    have hi : ¬ s < n := by omega
    rw [loopW_eq, rowsF, List.append_nil]
    generalize loopW (bd E0 (ev E0) loopW 0 [0, 1, 2, 3, 10, 11] L22b1) = K
    unfold ri
    simp -implicitDefEqProofs [bd, L22b1, hi]
  | succ k ih =>
    intro s xs h hsz
    have hi : s < n := by omega
    have hle := rowS_le js u pl (s : Int)
    rw [Nat.succ_mul] at hsz
    have hih := ih (s + 1) (xs ++ rowS js u pl s) (by omega) (by rw [List.length_append]; omega)
    have hr := rowS_loop n js hj hl pl hb hpl u s pl 0 xs rfl (by have := Nat.zero_le (k * pl.length); omega)
    have hw : IntKind.i64.wrap ((s : Int) + 1) = (s : Int) + 1 := wr64 (by omega) (by omega)
    rw [c0] at hr
    rw [cs1, List.append_assoc] at hih
    rw [loopW_eq, rowsF]
    generalize loopW (bd E0 (ev E0) loopW 0 [0, 1, 2, 3, 10, 11] L22b1) = K at hih ⊢
    generalize rowS js u pl s = A at *
    generalize rowsF js u pl k (s + 1) = C at *
    unfold ri i64s at *
    generalize hA : xs ++ A = A2 at *
    generalize hC : xs ++ (A ++ C) = C2 at *
    simpa -implicitDefEqProofs [bd, L22b1, hi, hr, hw] using hih
def busyT (n : Int) (js : List J) (pl : List Hh) (u : Int) : Bool := okJobs n js && planS js pl && !decide (u < 0)
theorem busyAt_no (n : Int) (js : List J) (pl : List Hh) (u : Int) (hpl : pl.length ≤ 1099511627776) (h : busyT n js pl u = false) :
    ev E0 22 [i64 n, .lst 4 (js.map jb), .lst 3 (pl.map hp), i64 u] [] = some (.tup [.sl 0 0 0, bl false], [ri []]) ∧
    ev E0 21 [i64 n, .lst 4 (js.map jb), .lst 3 (pl.map hp), i64 u] [] = some (.tup [.v (.slice none 0 0), bl false], []) := by
  rw [e22, e21]
  unfold runF busyT at *
  have hg := good_s n js
  have ha := arePlanned_i n js pl hpl
  unfold planT at ha
  unfold ri i64s
  cases h1 : okJobs n js with
  | false =>
    rw [h1] at hg ha
    rw [Bool.false_and] at ha
    constructor
    · simp -implicitDefEqProofs [L22, hg]
    · simp -implicitDefEqProofs [L21, ha]
  | true =>
    rw [h1] at hg ha h
    obtain ⟨hl, hj⟩ := okJobs_jb h1
    have hp := isPlan_s js hj hl pl hpl
    cases h2 : planS js pl with
    | false =>
      rw [h2] at hp ha
      rw [Bool.and_false] at ha
      constructor
      · simp -implicitDefEqProofs [L22, hg, hp]
      · simp -implicitDefEqProofs [L21, ha]
    | true =>
      rw [h2] at hp ha h
      rw [Bool.and_true] at ha
      have hu : u < 0 := by
        by_cases q : u < 0
        · exact q
        · rw [decide_eq_false q] at h; cases h
      constructor
      · simp -implicitDefEqProofs [L22, hg, hp, hu]
      · simp -implicitDefEqProofs [L21, ha, hu]
theorem busyAt_yes (n : Int) (js : List J) (pl : List Hh) (u : Int) (hpl : pl.length ≤ 1099511627776) (h : busyT n js pl u = true) : ∃ l : List Int, l.length ≤ 6 ∧
    ev E0 22 [i64 n, .lst 4 (js.map jb), .lst 3 (pl.map hp), i64 u] [] = some (.tup [.sl 0 0 l.length, bl true], [ri l]) ∧
    ev E0 21 [i64 n, .lst 4 (js.map jb), .lst 3 (pl.map hp), i64 u] [] = some (.tup [.sl 0 0 l.length, bl true], [ri l]) ∧ l.length = (busyI js u pl).length := by
  rw [e22, e21]
  unfold runF busyT at *
  have hg := good_s n js
  have ha := arePlanned_i n js pl hpl
  unfold planT at ha
  rw [Bool.and_eq_true, Bool.and_eq_true, Bool.not_eq_true', decide_eq_false_iff_not] at h
  obtain ⟨⟨h1, h2⟩, hu⟩ := h
  rw [h1] at hg
  rw [h1, h2, Bool.and_true] at ha
  obtain ⟨hl, hj⟩ := okJobs_jb h1
  have hp := isPlan_s js hj hl pl hpl
  rw [h2] at hp
  have hn : 0 ≤ n ∧ n ≤ 6 := by
    have := h1
    unfold okJobs btw at this
    rw [Bool.and_eq_true, Bool.and_eq_true, decide_eq_true_eq, decide_eq_true_eq] at this
    omega
  obtain ⟨m, rfl⟩ : ∃ m : Nat, n = m := ⟨n.toNat, by omega⟩
  have hpairs := ((planS_iff js pl).1 h2).2.2
  have hb : ∀ x ∈ pl, HB js x := fun x hx => (plan_tb hj h2 x hx).1
  have hper := busy_perm h1 h2 u
  have hlen := rowsF_len hpairs u m 0
  have r1 := rowsF_loop m (by omega) js hj hl pl hb hpl u m 0 [] (by omega) (by
    have : m * pl.length ≤ 6 * pl.length := Nat.mul_le_mul_right _ (by omega)
    simp only [List.length_nil]
    omega)
  have r2 := busyI_loop js hj hl pl hb hpl u pl 0 [] rfl (by simp only [List.length_nil]; omega)
  obtain ⟨T, t1, t2, t3⟩ := So.sort_i (busyI js u pl) (by rw [hper.length_eq]; omega)
  obtain rfl := So.sorted_eq t2 (rowsF_sorted js u pl m 0) (t1.trans hper)
  refine ⟨rowsF js u pl m 0, by omega, ?_, ?_, hper.length_eq.symm⟩
  · rw [c0] at r1
    simp only [List.nil_append, List.length_nil] at r1
    generalize rowsF js u pl m 0 = A at *
    unfold ri i64s at *
    simp only [List.map_nil] at r1
    have ht : List.take A.length (A.map i64) = A.map i64 := List.take_of_length_le (by simp)
    simp -implicitDefEqProofs [L22, hg, hp, hu, r1, ht]
  · rw [c0] at r2
    simp only [List.nil_append, List.length_nil] at r2
    rw [hper.length_eq] at r2 t3
    generalize rowsF js u pl m 0 = A at *
    unfold So.ri at t3
    unfold ri i64s at *
    simp only [List.map_nil] at r2
    have ht : List.take A.length (A.map i64) = A.map i64 := List.take_of_length_le (by simp)
    simp -implicitDefEqProofs [L21, ha, hu, r2, t3, ht]
end Go.Proofs.YtlakldjpnpailaaGreatDoor.Ev
