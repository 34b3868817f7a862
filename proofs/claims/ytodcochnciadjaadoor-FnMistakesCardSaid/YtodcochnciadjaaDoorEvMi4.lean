/- The closest letters, what the functions on them answer. -/
import Derived.Test.YtodcochnciadjaaDoorEvMi3
set_option linter.unusedVariables false
set_option linter.unusedSimpArgs false
namespace Go.Proofs.YtodcochnciadjaaDoor.Ev
theorem ds_symm (a b : ByteArray) : ds a b = ds b a := Ds.D_symm _ _
theorem ds_zero {a b : ByteArray} : ds a b = 0 ↔ a = b := by
  unfold ds
  rw [Ds.D_zero]
  exact ⟨B_eq, fun h => by rw [h]⟩
theorem mk_inj {ms : List ByteArray} (hv : VT ms) {i j : Nat} (hi : i < ms.length) (hj : j < ms.length) (h : mk_ ms i = mk_ ms j) : i = j := by
  have h1 : (ms.map B)[i]'(by simpa using hi) = (ms.map B)[j]'(by simpa using hj) := by
    rw [List.getElem_map, List.getElem_map, mk_at hi, mk_at hj, h]
  exact (List.getElem_inj hv.nd).1 h1
theorem dd_pos {ms : List ByteArray} (hv : VT ms) {p : Nat × Nat} (h1 : p.1 < ms.length) (h2 : p.2 < ms.length) (h : p.1 ≠ p.2) : 1 ≤ dd ms p := by
  apply Decidable.byContradiction
  intro hc
  exact h (mk_inj hv h1 h2 (ds_zero.1 (show ds (mk_ ms p.1) (mk_ ms p.2) = 0 by unfold dd at hc; omega)))
structure Lst {α : Type} (d : α → Nat) (s : List α) (x : Nat) : Prop where
  pos : 1 ≤ x
  at_ : ∃ a ∈ s, d a = x
  le : ∀ a ∈ s, x ≤ d a
theorem lsF_ok {α : Type} {d : α → Nat} : ∀ (t s : List α) (x : Nat), (∀ a ∈ t, 1 ≤ d a) → Lst d s x → Lst d (s ++ t) (lsF d t x)
  | [], s, x, _, h => by rw [List.append_nil]; exact h
  | a :: t, s, x, hp, h => by
    rw [show s ++ a :: t = (s ++ [a]) ++ t by simp, lsF]
    refine lsF_ok t (s ++ [a]) _ (fun b hb => hp b (List.mem_cons_of_mem _ hb)) ?_
    have ha := hp a (List.mem_cons_self ..)
    have hx := h.pos
    by_cases c1 : x = 0 ∨ d a < x
    · rw [if_pos c1]
      have hlt : d a < x := c1.resolve_left (by omega)
      refine ⟨ha, ⟨a, by simp, rfl⟩, fun b hb => ?_⟩
      rcases List.mem_append.1 hb with hb | hb
      · have := h.le b hb; omega
      · rw [List.mem_singleton.1 hb]; exact Nat.le_refl _
    · rw [if_neg c1]
      obtain ⟨b, hb, e⟩ := h.at_
      refine ⟨hx, ⟨b, List.mem_append_left _ hb, e⟩, fun b hb => ?_⟩
      rcases List.mem_append.1 hb with hb | hb
      · exact h.le b hb
      · rw [List.mem_singleton.1 hb]; omega
theorem lsF_of {α : Type} {d : α → Nat} {s : List α} (h : s ≠ []) (hp : ∀ a ∈ s, 1 ≤ d a) : Lst d s (lsF d s 0) := by
  cases s with
  | nil => exact absurd rfl h
  | cons a t =>
    rw [lsF, if_pos (.inl rfl)]
    refine lsF_ok t [a] _ (fun b hb => hp b (List.mem_cons_of_mem _ hb)) ⟨hp a (List.mem_cons_self ..), ⟨a, by simp, rfl⟩, fun b hb => ?_⟩
    rw [List.mem_singleton.1 hb]
    exact Nat.le_refl _
/-- The closest pairs. -/
def cps (ms : List ByteArray) : List (Nat × Nat) := (upF ms.length 0).filter (fun p => decide (dd ms p = lm ms))
theorem dn_up (n : Nat) (h : 2 ≤ n) : dnF n 0 ≠ [] ∧ upF n 0 ≠ [] := by
  constructor
  · exact List.ne_nil_of_mem (mem_dnF.2 (show 0 ≤ (1, 0).1 ∧ (1, 0).1 < 0 + n ∧ (1, 0).2 < (1, 0).1 by dsimp only; omega))
  · exact List.ne_nil_of_mem (mem_upF.2 (show 0 ≤ (0, 1).1 ∧ (0, 1).1 < (0, 1).2 ∧ (0, 1).2 < 0 + n by dsimp only; omega))
theorem lm_ok {ms : List ByteArray} (hv : VT ms) (h : 2 ≤ ms.length) : Lst (dd ms) (dnF ms.length 0) (lm ms) :=
  lsF_of (dn_up _ h).1 fun p hp => by
    have := mem_dnF.1 hp
    exact dd_pos hv (by omega) (by omega) (by omega)
theorem lm_one {ms : List ByteArray} (h : ms.length = 1) : lm ms = 0 := by unfold lm; rw [h]; rfl
theorem clo_ok {ms : List ByteArray} (hv : VT ms) (h : 2 ≤ ms.length) : best (dd ms) (upF ms.length 0) ([], -1) = (cps ms, (lm ms : Int)) := by
  have hb := best_of (d := dd ms) (dn_up _ h).2
  have hl := lm_ok hv h
  have sw : ∀ p : Nat × Nat, dd ms (p.2, p.1) = dd ms p := fun p => ds_symm _ _
  have e2 : (best (dd ms) (upF ms.length 0) ([], -1)).2 = (lm ms : Int) := by
    obtain ⟨a, ha, e⟩ := hb.at_
    obtain ⟨b, hb', e'⟩ := hl.at_
    have h1 := mem_upF.1 ha
    have h2 := mem_dnF.1 hb'
    have h3 := hl.le (a.2, a.1) (mem_dnF.2 (by dsimp only; omega))
    have h4 := hb.le (b.2, b.1) (mem_upF.2 (by dsimp only; omega))
    rw [sw] at h3 h4
    omega
  have e1 := hb.eq
  rw [e2] at e1
  refine Prod.ext ?_ e2
  rw [e1]
  unfold cps
  refine List.filter_congr fun p _ => ?_
  rw [decide_eq_decide]
  omega
theorem cps_ne {ms : List ByteArray} (hv : VT ms) (h : 2 ≤ ms.length) : cps ms ≠ [] := by
  obtain ⟨b, hb', e'⟩ := (lm_ok hv h).at_
  have h2 := mem_dnF.1 hb'
  refine List.ne_nil_of_mem (a := (b.2, b.1)) ?_
  unfold cps
  rw [List.mem_filter]
  refine ⟨mem_upF.2 (by dsimp only; omega), decide_eq_true ?_⟩
  rw [← e']
  exact ds_symm _ _
/-- A table of two letters at least. -/
def two (ms : List ByteArray) : Bool := okTable ms && decide (2 ≤ ms.length)
theorem two_vt {ms : List ByteArray} (h : two ms = true) : VT ms ∧ 2 ≤ ms.length ∧ okTable ms = true := by
  unfold two at h
  rw [Bool.and_eq_true, decide_eq_true_eq] at h
  exact ⟨vt_of h.1, h.2, h.1⟩
theorem closest_i (ms : List ByteArray) (hm : ms.length ≤ 1000) (hz : ∀ m ∈ ms, m.size ≤ 400) : ev E0 50 [.agg [.lst 1 (ms.map st)]] [] = if two ms = true then some (.tup [.sl 0 0 (cps ms).length, i64 (lm ms : Int), bl true], [some (pb (cps ms))]) else some (.tup [.v (.slice none 0 0), i64 0, bl false], []) := by
  have h1 := table_i ms (by omega) (fun x hx => by have := hz x hx; omega)
  by_cases h : two ms = true
  · obtain ⟨hv, h2, ho⟩ := two_vt h
    have hl := clo1 ms hm hz ms 0 [] (-1) rfl (by simp)
    rw [clo_ok hv h2] at hl
    generalize cps ms = R at *
    unfold pb tb at hl
    unfold pb
    rw [c0, show prs [] = [] from rfl, List.length_nil] at hl
    rw [ho] at h1
    have h3 : ¬ (ms.length : Int) = 1 := by omega
    have h3' : ¬ ms.length = 1 := by omega
    rw [if_pos h, e50]
    unfold runF
    simp -implicitDefEqProofs [L50, h1, h3, h3', hl]
  · rw [if_neg h, e50]
    unfold runF
    cases ho : okTable ms with
    | false =>
      rw [ho] at h1
      simp -implicitDefEqProofs [L50, h1]
    | true =>
      rw [ho] at h1
      have hlen := okTable_len ho
      have h3 : ms.length = 1 := by
        unfold two at h
        rw [ho, Bool.true_and, decide_eq_true_eq] at h
        omega
      have h3' : (ms.length : Int) = 1 := by omega
      simp -implicitDefEqProofs [L50, h1, h3, h3']
theorem leastD_i (ms : List ByteArray) (hm : ms.length ≤ 1000) (hz : ∀ m ∈ ms, m.size ≤ 400) : ev E0 10 [.agg [.lst 1 (ms.map st)]] [] = some (.tup [i64 (if two ms = true then (lm ms : Int) else 0), bl (two ms)], []) := by
  have h := closest_i ms hm hz
  unfold pb at h
  rw [e10]
  unfold runF
  cases ho : two ms <;> rw [ho] at h <;> simp -implicitDefEqProofs [L10, h]
theorem two_lt (ms : List ByteArray) (ho : okTable ms = true) : two ms = !decide ((ms.length : Int) < 2) := by
  unfold two
  rw [ho, Bool.true_and, ← decide_not, decide_eq_decide]
  omega
theorem leastD_s (ms : List ByteArray) (hm : ms.length ≤ 1000) (hz : ∀ m ∈ ms, m.size ≤ 400) : ev E0 11 [.agg [.lst 1 (ms.map st)]] [] = some (.tup [i64 (if two ms = true then (lm ms : Int) else 0), bl (two ms)], []) := by
  have h := least_of ms hm hz
  have h1 := table_s ms (by omega) (fun x hx => by have := hz x hx; omega)
  rw [e11]
  unfold runF
  cases ho : okTable ms with
  | false =>
    rw [ho] at h1
    have h2 : two ms = false := by unfold two; rw [ho]; rfl
    simp -implicitDefEqProofs [L11, h1, h2]
  | true =>
    rw [ho] at h1
    have h2 := two_lt ms ho
    by_cases h3 : (ms.length : Int) < 2
    · simp -implicitDefEqProofs [L11, h1, h2, h3]
    · simp -implicitDefEqProofs [L11, h, h1, h2, h3]
theorem repair_i (ms : List ByteArray) (hm : ms.length ≤ 1000) (hz : ∀ m ∈ ms, m.size ≤ 400) : ev E0 15 [.agg [.lst 1 (ms.map st)]] [] = some (.tup [i64 (if two ms = true then (((lm ms - 1) / 2 : Nat) : Int) else 0), bl (two ms)], []) := by
  have h := leastD_i ms hm hz
  rw [e15]
  unfold runF
  cases ho : two ms with
  | false => rw [ho] at h; simp -implicitDefEqProofs [L15, h]
  | true =>
    rw [ho, if_pos rfl] at h
    obtain ⟨hv, h2, _⟩ := two_vt ho
    have hp := (lm_ok hv h2).pos
    have hb : lm ms ≤ 2000 := by
      obtain ⟨b, _, e⟩ := (lm_ok hv h2).at_
      rw [← e]
      exact ds_b (by have := mk_sz hz b.1; omega) (by have := mk_sz hz b.2; omega)
    generalize lm ms = x at *
    have w1 : IntKind.i64.wrap ((x : Int) - 1) = (x : Int) - 1 := wr64 (by omega) (by omega)
    have w2 : IntKind.i64.wrap (((x : Int) - 1).tdiv 2) = (((x - 1) / 2 : Nat) : Int) := by
      rw [Int.tdiv_eq_ediv_of_nonneg (by omega), wr64 (by omega) (by omega)]
      omega
    simp -implicitDefEqProofs [L15, h, w1, w2, -Int.natCast_ediv]
theorem repair_s (ms : List ByteArray) (hm : ms.length ≤ 1000) (hz : ∀ m ∈ ms, m.size ≤ 400) : ev E0 16 [.agg [.lst 1 (ms.map st)]] [] = some (.tup [i64 (if two ms = true then (((lm ms - 1) / 2 : Nat) : Int) else 0), bl (two ms)], []) := by
  have h := least_of ms hm hz
  have h1 := table_s ms (by omega) (fun x hx => by have := hz x hx; omega)
  rw [e16]
  unfold runF
  cases ho : okTable ms with
  | false =>
    rw [ho] at h1
    have h2 : two ms = false := by unfold two; rw [ho]; rfl
    simp -implicitDefEqProofs [L16, h1, h2]
  | true =>
    rw [ho] at h1
    have h2 := two_lt ms ho
    by_cases h3 : (ms.length : Int) < 2
    · simp -implicitDefEqProofs [L16, h1, h2, h3]
    · have h2' : two ms = true := by rw [h2, decide_eq_false h3]; rfl
      obtain ⟨hv, h4, _⟩ := two_vt h2'
      have hp := (lm_ok hv h4).pos
      have hb : lm ms ≤ 2000 := by
        obtain ⟨b, _, e⟩ := (lm_ok hv h4).at_
        rw [← e]
        exact ds_b (by have := mk_sz hz b.1; omega) (by have := mk_sz hz b.2; omega)
      clear h2
      generalize lm ms = x at *
      have w1 : IntKind.i64.wrap ((x : Int) - 1) = (x : Int) - 1 := wr64 (by omega) (by omega)
      have w2 : IntKind.i64.wrap (((x : Int) - 1).tdiv 2) = (((x - 1) / 2 : Nat) : Int) := by
        rw [Int.tdiv_eq_ediv_of_nonneg (by omega), wr64 (by omega) (by omega)]
        omega
      simp -implicitDefEqProofs [L16, h, h1, h2', h3, w1, w2, -Int.natCast_ediv]
/-- A safe table. -/
def safe (ms : List ByteArray) : Bool := okTable ms && !decide (lm ms = 1)
theorem safe_i (ms : List ByteArray) (hm : ms.length ≤ 1000) (hz : ∀ m ∈ ms, m.size ≤ 400) : ev E0 7 [.agg [.lst 1 (ms.map st)]] [] = some (.tup [bl (safe ms), bl (okTable ms)], []) := by
  have h := closest_i ms hm hz
  have h1 := table_i ms (by omega) (fun x hx => by have := hz x hx; omega)
  unfold pb at h
  rw [e7]
  unfold runF
  cases ho : okTable ms with
  | false =>
    rw [ho] at h1
    have h2 : safe ms = false := by unfold safe; rw [ho]; rfl
    simp -implicitDefEqProofs [L7, h1, h2]
  | true =>
    rw [ho] at h1
    have hs : safe ms = !decide (lm ms = 1) := by unfold safe; rw [ho]; rfl
    cases h2 : two ms with
    | false =>
      rw [h2, if_neg (by simp)] at h
      have hl := okTable_len ho
      have h3 := lm_one (show ms.length = 1 by unfold two at h2; rw [ho, Bool.true_and, decide_eq_false_iff_not] at h2; omega)
      rw [h3] at hs
      simp -implicitDefEqProofs [L7, h, h1, hs]
    | true =>
      rw [h2, if_pos rfl] at h
      obtain ⟨hv, h4, _⟩ := two_vt h2
      have hp := (lm_ok hv h4).pos
      have hs2 : safe ms = decide (1 < (lm ms : Int)) := by
        rw [hs, ← decide_not, decide_eq_decide]
        omega
      simp -implicitDefEqProofs [L7, h, h1, hs2]
theorem safe_s (ms : List ByteArray) (hm : ms.length ≤ 1000) (hz : ∀ m ∈ ms, m.size ≤ 400) : ev E0 8 [.agg [.lst 1 (ms.map st)]] [] = some (.tup [bl (safe ms), bl (okTable ms)], []) := by
  have h := least_of ms hm hz
  have h1 := table_s ms (by omega) (fun x hx => by have := hz x hx; omega)
  rw [e8]
  unfold runF
  cases ho : okTable ms with
  | false =>
    rw [ho] at h1
    have h2 : safe ms = false := by unfold safe; rw [ho]; rfl
    simp -implicitDefEqProofs [L8, h1, h2]
  | true =>
    rw [ho] at h1
    have hs : safe ms = !decide ((lm ms : Int) = 1) := by
      unfold safe
      rw [ho, Bool.true_and, ← decide_not, ← decide_not, decide_eq_decide]
      omega
    simp -implicitDefEqProofs [L8, h, h1, hs]
theorem pairs_i (ms : List ByteArray) (hm : ms.length ≤ 1000) (hz : ∀ m ∈ ms, m.size ≤ 400) : ev E0 12 [.agg [.lst 1 (ms.map st)]] [] = if two ms = true then some (.tup [.sl 0 0 (cps ms).length, bl true], [some (pb (cps ms))]) else some (.tup [.v (.slice none 0 0), bl false], []) := by
  have h := closest_i ms hm hz
  generalize cps ms = R at *
  unfold pb at *
  rw [e12]
  unfold runF
  cases ho : two ms <;> rw [ho] at h <;> simp -implicitDefEqProofs [L12, h]
theorem cpsS0 (ms : List ByteArray) (hm : ms.length ≤ 1000) (hz : ∀ m ∈ ms, m.size ≤ 400) (i : Nat) (hi : i < ms.length) : ∀ (r k : Nat) (l : List (Nat × Nat)), k + r = ms.length → l.length + r ≤ 2000000 →
    packX 0 [1, 4, 5, 6] (loopW (bd E0 (ev E0) loopW 0 [1, 4, 5, 6, 7] L13b0) ⟨[(1, .ptr 0 0 0), (4, .sl 1 0 l.length), (5, i64 (lm ms : Int)), (6, i64 i), (7, i64 k)], [some (tb ms), some (pb l)]⟩) =
      some (.ext 2, ⟨[(1, .ptr 0 0 0), (4, .sl 1 0 (l ++ ((List.range' k r).map (Prod.mk i)).filter (fun p => decide (dd ms p = lm ms))).length), (5, i64 (lm ms : Int)), (6, i64 i)], [some (tb ms), some (pb (l ++ ((List.range' k r).map (Prod.mk i)).filter (fun p => decide (dd ms p = lm ms))))]⟩) := by
  generalize lm ms = x
  unfold tb pb
  intro r
  induction r with
  | zero =>
    intro k l h hl
    obtain rfl : k = ms.length := by omega
    rw [loopW_eq]
    generalize loopW (bd E0 (ev E0) loopW 0 [1, 4, 5, 6, 7] L13b0) = K
    simp -implicitDefEqProofs [bd, L13b0]
  | succ r ih =>
    intro k l h hl
    have hk : k < ms.length := by omega
    have hki : (k : Int) < (ms.length : Int) := by omega
    have h1 := get_mk hi
    have h2 := get_mk hk
    have m1 := mk_at hi
    have m2 := mk_at hk
    have hds := ds_s (mk_ ms i) (mk_ ms k) (mk_sz hz i) (mk_sz hz k)
    have hw : IntKind.i64.wrap ((k : Int) + 1) = (k : Int) + 1 := wr64 (by omega) (by omega)
    have l1 : l.length + 1 ≤ 140737488355328 := by omega
    have l2 : (l.length + 1) * 16 ≤ 140737488355328 := by omega
    have ht : List.take l.length (prs l) = prs l := List.take_of_length_le (by rw [prs_len]; exact Nat.le_refl _)
    have hnl := prs_len l
    have ha := prs_app l i k
    have hdd : dd ms (i, k) = ds (mk_ ms i) (mk_ ms k) := rfl
    rw [List.range'_succ, List.map_cons, List.filter_cons, hdd]
    generalize ds (mk_ ms i) (mk_ ms k) = d at *
    generalize mk_ ms i = a at *
    generalize mk_ ms k = b at *
    by_cases c1 : d = x
    · have c1' : (d : Int) = (x : Int) := by omega
      have hih := ih (k + 1) (l ++ [(i, k)]) (by omega) (by simp; omega)
      rw [if_pos (decide_eq_true c1), loopW_eq, List.append_cons l]
      generalize (l ++ [(i, k)]) ++ List.filter _ _ = R at hih ⊢
      rw [cs1, ← ha, List.length_append, List.length_singleton] at hih
      generalize loopW (bd E0 (ev E0) loopW 0 [1, 4, 5, 6, 7] L13b0) = K at hih ⊢
      generalize prs l = nl at *
      simpa -implicitDefEqProofs [bd, L13b0, hi, hk, hki, h1, h2, m1, m2, hds, hw, c1, c1', l1, l2, ht, hnl] using hih
    · have c1' : ¬ (d : Int) = (x : Int) := by omega
      have hih := ih (k + 1) l (by omega) (by omega)
      rw [if_neg (fun h => c1 (of_decide_eq_true h)), loopW_eq]
      generalize l ++ List.filter _ _ = R at hih ⊢
      rw [cs1] at hih
      generalize loopW (bd E0 (ev E0) loopW 0 [1, 4, 5, 6, 7] L13b0) = K at hih ⊢
      generalize prs l = nl at *
      simpa -implicitDefEqProofs [bd, L13b0, hi, hk, hki, h1, h2, m1, m2, hds, hw, c1, c1'] using hih
theorem cpsS1 (ms : List ByteArray) (hm : ms.length ≤ 1000) (hz : ∀ m ∈ ms, m.size ≤ 400) : ∀ (r i : Nat) (l : List (Nat × Nat)), i + r = ms.length → l.length ≤ i * 1001 →
    packX 0 [4] (loopW (bd E0 (ev E0) loopW 0 [1, 4, 5, 6] L13b1) ⟨[(1, .ptr 0 0 0), (4, .sl 1 0 l.length), (5, i64 (lm ms : Int)), (6, i64 i)], [some (tb ms), some (pb l)]⟩) =
      some (.ext 0, ⟨[(4, .sl 0 0 (l ++ (upF r i).filter (fun p => decide (dd ms p = lm ms))).length)], [some (pb (l ++ (upF r i).filter (fun p => decide (dd ms p = lm ms))))]⟩) := by
  intro r
  induction r with
  | zero =>
    intro i l h hl
    obtain rfl : i = ms.length := by omega
    unfold tb pb
    rw [loopW_eq]
    generalize loopW (bd E0 (ev E0) loopW 0 [1, 4, 5, 6] L13b1) = K
    unfold bd
    simp -implicitDefEqProofs [L13b1, upF]
  | succ r ih =>
    intro i l h hl
    have hi : i < ms.length := by omega
    have hi2 : (i : Int) < (ms.length : Int) := by omega
    have hin := cpsS0 ms hm hz i hi r (i + 1) l (by omega) (by omega)
    have hw : IntKind.i64.wrap ((i : Int) + 1) = (i : Int) + 1 := wr64 (by omega) (by omega)
    have hfl := List.length_filter_le (fun p => decide (dd ms p = lm ms)) ((List.range' (i + 1) r).map (Prod.mk i))
    rw [List.length_map, List.length_range'] at hfl
    rw [upF, List.filter_append, ← List.append_assoc]
    have hlen : (l ++ ((List.range' (i + 1) r).map (Prod.mk i)).filter (fun p => decide (dd ms p = lm ms))).length ≤ (i + 1) * 1001 := by rw [List.length_append]; omega
    generalize l ++ ((List.range' (i + 1) r).map (Prod.mk i)).filter (fun p => decide (dd ms p = lm ms)) = l' at *
    have hih := ih (i + 1) l' (by omega) hlen
    generalize l' ++ List.filter _ _ = R at hih ⊢
    generalize lm ms = x at *
    rw [cs1] at hih hin
    unfold tb pb at hin hih ⊢
    rw [loopW_eq]
    generalize loopW (bd E0 (ev E0) loopW 0 [1, 4, 5, 6] L13b1) = K at hih ⊢
    unfold bd
    simpa -implicitDefEqProofs [L13b1, hi, hi2, hin, hw] using hih
theorem pairs_s (ms : List ByteArray) (hm : ms.length ≤ 1000) (hz : ∀ m ∈ ms, m.size ≤ 400) : ev E0 13 [.agg [.lst 1 (ms.map st)]] [] = if two ms = true then some (.tup [.sl 0 0 (cps ms).length, bl true], [some (pb (cps ms))]) else some (.tup [.sl 0 0 0, bl false], [some (pb [])]) := by
  have h := least_of ms hm hz
  have h1 := table_s ms (by omega) (fun x hx => by have := hz x hx; omega)
  have hp0 : prs [] = [] := rfl
  rw [e13]
  unfold runF
  cases ho : okTable ms with
  | false =>
    rw [ho] at h1
    have h2 : two ms = false := by unfold two; rw [ho]; rfl
    unfold pb
    simp -implicitDefEqProofs [L13, h1, h2, hp0]
  | true =>
    rw [ho] at h1
    have h2 := two_lt ms ho
    by_cases h3 : (ms.length : Int) < 2
    · unfold pb
      simp -implicitDefEqProofs [L13, h1, h2, h3, hp0]
    · have hl := cpsS1 ms hm hz ms.length 0 [] (by omega) (by simp)
      rw [c0, List.nil_append, List.length_nil] at hl
      change _ = some (Ex.ext 0, (⟨[(4, .sl 0 0 (cps ms).length)], [some (pb (cps ms))]⟩ : St)) at hl
      generalize cps ms = R at *
      unfold pb tb at *
      rw [hp0] at hl
      simp -implicitDefEqProofs [L13, h, h1, h2, h3, hl]
end Go.Proofs.YtodcochnciadjaaDoor.Ev
