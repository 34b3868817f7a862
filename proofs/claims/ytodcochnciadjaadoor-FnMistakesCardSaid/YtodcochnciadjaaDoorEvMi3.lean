/- The closest letters: the program's and the reference's. -/
import Derived.Test.YtodcochnciadjaaDoorEvMi2
set_option linter.unusedVariables false
set_option linter.unusedSimpArgs false
namespace Go.Proofs.YtodcochnciadjaaDoor.Ev
def dd (ms : List ByteArray) (p : Nat × Nat) : Nat := ds (mk_ ms p.1) (mk_ ms p.2)
theorem mk_sz {ms : List ByteArray} {c : Nat} (hz : ∀ m ∈ ms, m.size ≤ c) (i : Nat) : (mk_ ms i).size ≤ c := by
  by_cases h : i < ms.length
  · rw [← mk_at h]; exact hz _ (List.getElem_mem h)
  · unfold mk_
    rw [List.getD_eq_getElem?_getD, List.getElem?_eq_none (by omega)]
    exact Nat.zero_le _
theorem get_mk {ms : List ByteArray} {i : Nat} (hi : i < ms.length) : (ms.map st)[i]? = some (st (mk_ ms i)) := by
  rw [List.getElem?_map, List.getElem?_eq_getElem hi, mk_at hi]
  rfl
/-- Pairs of numbers in a row. -/
def pr (p : Nat × Nat) : AV := .agg [i64 (p.1 : Int), i64 (p.2 : Int)]
def prs (l : List (Nat × Nat)) : List AV := l.map pr
def pb (l : List (Nat × Nat)) : Blk := ⟨51, 2, 1, false, prs l⟩
theorem prs_len (l : List (Nat × Nat)) : (prs l).length = l.length := by simp [prs]
theorem prs_app (l : List (Nat × Nat)) (i j : Nat) : prs l ++ [.agg [i64 (i : Int), i64 (j : Int)]] = prs (l ++ [(i, j)]) := by simp [prs, pr]
def upF : Nat → Nat → List (Nat × Nat)
  | 0, _ => []
  | r + 1, i => (List.range' (i + 1) r).map (Prod.mk i) ++ upF r (i + 1)
def dnF : Nat → Nat → List (Nat × Nat)
  | 0, _ => []
  | r + 1, i => (List.range' 0 i).map (Prod.mk i) ++ dnF r (i + 1)
theorem mem_upF : ∀ {r i : Nat} {p : Nat × Nat}, p ∈ upF r i ↔ i ≤ p.1 ∧ p.1 < p.2 ∧ p.2 < i + r
  | 0, i, p => by simp only [upF, List.not_mem_nil, false_iff]; omega
  | r + 1, i, p => by
    rw [upF, List.mem_append, mem_upF, List.mem_map]
    constructor
    · rintro (⟨j, hj, rfl⟩ | h)
      · have := List.mem_range'_1.1 hj
        exact ⟨Nat.le_refl _, by dsimp only; omega, by dsimp only; omega⟩
      · omega
    · intro h
      by_cases e : p.1 = i
      · left
        refine ⟨p.2, List.mem_range'_1.2 (by omega), ?_⟩
        rw [← e]
      · right; omega
theorem mem_dnF : ∀ {r i : Nat} {p : Nat × Nat}, p ∈ dnF r i ↔ i ≤ p.1 ∧ p.1 < i + r ∧ p.2 < p.1
  | 0, i, p => by simp only [dnF, List.not_mem_nil, false_iff]; omega
  | r + 1, i, p => by
    rw [dnF, List.mem_append, mem_dnF, List.mem_map]
    constructor
    · rintro (⟨j, hj, rfl⟩ | h)
      · have := List.mem_range'_1.1 hj
        exact ⟨Nat.le_refl _, by dsimp only; omega, by dsimp only; omega⟩
      · omega
    · intro h
      by_cases e : p.1 = i
      · left
        refine ⟨p.2, List.mem_range'_1.2 (by omega), ?_⟩
        rw [← e]
      · right; omega
theorem upF_len : ∀ (r i : Nat), (upF r i).length ≤ r * r
  | 0, _ => by simp [upF]
  | r + 1, i => by
    have := upF_len r (i + 1)
    rw [upF, List.length_append, List.length_map, List.length_range']
    have e : (r + 1) * (r + 1) = r * r + r + r + 1 := by rw [Nat.mul_add, Nat.add_mul]; omega
    omega
theorem best_app {α : Type} (d : α → Nat) : ∀ (s t : List α) (p : List α × Int), best d (s ++ t) p = best d t (best d s p)
  | [], t, p => rfl
  | a :: s, t, p => by rw [List.cons_append, best, best, best_app d s t]
theorem clo0 (ms : List ByteArray) (hm : ms.length ≤ 1000) (hz : ∀ m ∈ ms, m.size ≤ 400) (i : Nat) (hi0 : i < ms.length) : ∀ (t : List ByteArray) (j : Nat) (l : List (Nat × Nat)) (x : Int), ms.drop j = t → l.length + t.length ≤ 2000000 →
    packX 0 [1, 5, 6, 22, 23, 24] (loopW (bd E0 (ev E0) loopW 0 [1, 5, 6, 7, 8, 9, 22, 23, 24] L50b0) ⟨[(1, .ptr 0 0 0), (5, .sl 1 0 l.length), (6, i64 x), (7, i64 i), (8, st (mk_ ms i)), (9, i64 j), (22, .lst 1 (ms.map st)), (23, i64 ms.length), (24, i64 i)], [some (tb ms), some (pb l)]⟩) =
      some (.ext 2, ⟨[(1, .ptr 0 0 0), (5, .sl 1 0 (best (dd ms) ((List.range' j t.length).map (Prod.mk i)) (l, x)).1.length), (6, i64 (best (dd ms) ((List.range' j t.length).map (Prod.mk i)) (l, x)).2), (22, .lst 1 (ms.map st)), (23, i64 ms.length), (24, i64 i)], [some (tb ms), some (pb (best (dd ms) ((List.range' j t.length).map (Prod.mk i)) (l, x)).1)]⟩) := by
  unfold pb tb
  intro t
  induction t with
  | nil =>
    intro j l x h _
    have hi := not_drop h
    rw [loopW_eq]
    generalize loopW (bd E0 (ev E0) loopW 0 [1, 5, 6, 7, 8, 9, 22, 23, 24] L50b0) = K
    simp -implicitDefEqProofs [bd, L50b0, hi, best]
  | cons m t ih =>
    intro j l x h hl
    obtain ⟨hi, hx, hd, hmem⟩ := at_drop h
    rw [List.length_cons] at hl
    have hmk : mk_ ms j = m := by rw [← mk_at hi, hx]
    have hdi := ds_i (mk_ ms i) m (mk_sz hz i) (hz m hmem)
    have hb := ds_b (a := mk_ ms i) (b := m) (by have := mk_sz hz i; omega) (by have := hz m hmem; omega)
    have hw : IntKind.i64.wrap ((j : Int) + 1) = (j : Int) + 1 := wr64 (by omega) (by omega)
    have hx2 := get_ms hi hx
    have l1 : l.length + 1 ≤ 140737488355328 := by omega
    have l2 : (l.length + 1) * 16 ≤ 140737488355328 := by omega
    have ht : List.take l.length (prs l) = prs l := List.take_of_length_le (by rw [prs_len]; exact Nat.le_refl _)
    have hnl := prs_len l
    have ha := prs_app l i j
    have h1 : prs [(i, j)] = [.agg [i64 (i : Int), i64 (j : Int)]] := rfl
    have hdd : dd ms (i, j) = ds (mk_ ms i) m := by unfold dd; rw [hmk]
    rw [List.length_cons, List.range'_succ, List.map_cons, best, hdd]
    generalize ds (mk_ ms i) m = d at *
    generalize mk_ ms i = a at *
    dsimp only
    by_cases c1 : x < 0
    · have hih := ih (j + 1) [(i, j)] d hd (by simp; omega)
      rw [cs1, h1] at hih
      rw [if_pos (.inl c1), loopW_eq]
      generalize loopW (bd E0 (ev E0) loopW 0 [1, 5, 6, 7, 8, 9, 22, 23, 24] L50b0) = K at hih ⊢
      generalize best _ _ _ = R at hih ⊢
      simpa -implicitDefEqProofs [bd, L50b0, hi, hx, hx2, hdi, c1, hw] using hih
    · by_cases c2 : (d : Int) < x
      · have hih := ih (j + 1) [(i, j)] d hd (by simp; omega)
        rw [cs1, h1] at hih
        rw [if_pos (.inr c2), loopW_eq]
        generalize loopW (bd E0 (ev E0) loopW 0 [1, 5, 6, 7, 8, 9, 22, 23, 24] L50b0) = K at hih ⊢
        generalize best _ _ _ = R at hih ⊢
        simpa -implicitDefEqProofs [bd, L50b0, hi, hx, hx2, hdi, c1, c2, hw] using hih
      · have c3 : ¬ (x < 0 ∨ (d : Int) < x) := fun h => h.elim c1 c2
        by_cases c4 : (d : Int) = x
        · have hih := ih (j + 1) (l ++ [(i, j)]) x hd (by simp; omega)
          rw [cs1, ← ha, List.length_append, List.length_singleton] at hih
          rw [if_neg c3, if_pos c4, loopW_eq]
          generalize loopW (bd E0 (ev E0) loopW 0 [1, 5, 6, 7, 8, 9, 22, 23, 24] L50b0) = K at hih ⊢
          generalize best _ _ _ = R at hih ⊢
          generalize prs l = nl at *
          simpa -implicitDefEqProofs [bd, L50b0, hi, hx, hx2, hdi, c1, c2, c4, hw, l1, l2, ht, hnl] using hih
        · have hih := ih (j + 1) l x hd (by omega)
          rw [cs1] at hih
          rw [if_neg c3, if_neg c4, loopW_eq]
          generalize loopW (bd E0 (ev E0) loopW 0 [1, 5, 6, 7, 8, 9, 22, 23, 24] L50b0) = K at hih ⊢
          generalize best _ _ _ = R at hih ⊢
          generalize prs l = nl at *
          simpa -implicitDefEqProofs [bd, L50b0, hi, hx, hx2, hdi, c1, c2, c4, hw] using hih
theorem clo1 (ms : List ByteArray) (hm : ms.length ≤ 1000) (hz : ∀ m ∈ ms, m.size ≤ 400) : ∀ (t : List ByteArray) (i : Nat) (l : List (Nat × Nat)) (x : Int), ms.drop i = t → l.length ≤ i * 1001 →
    packX 0 [5, 6] (loopW (bd E0 (ev E0) loopW 0 [1, 5, 6, 22, 23, 24] L50b1) ⟨[(1, .ptr 0 0 0), (5, .sl 1 0 l.length), (6, i64 x), (22, .lst 1 (ms.map st)), (23, i64 ms.length), (24, i64 i)], [some (tb ms), some (pb l)]⟩) =
      some (.ext 0, ⟨[(5, .sl 0 0 (best (dd ms) (upF t.length i) (l, x)).1.length), (6, i64 (best (dd ms) (upF t.length i) (l, x)).2)], [some (pb (best (dd ms) (upF t.length i) (l, x)).1)]⟩) := by
  intro t
  induction t with
  | nil =>
    intro i l x h _
    have hi := not_drop h
    unfold pb tb
    rw [loopW_eq]
    generalize loopW (bd E0 (ev E0) loopW 0 [1, 5, 6, 22, 23, 24] L50b1) = K
    unfold bd
    simp -implicitDefEqProofs [L50b1, hi, best, upF]
  | cons m t ih =>
    intro i l x h hl
    obtain ⟨hi, hx, hd, hmem⟩ := at_drop h
    have htl : t.length ≤ 1000 := by have := congrArg List.length hd; rw [List.length_drop] at this; omega
    have hmul : (i + 1) * 1001 = i * 1001 + 1001 := by omega
    have hil : i * 1001 ≤ 1001000 := by omega
    have hin := clo0 ms hm hz i hi t (i + 1) l x hd (by omega)
    have hbl := best_len (dd ms) ((List.range' (i + 1) t.length).map (Prod.mk i)) (l, x)
    rw [List.length_map, List.length_range'] at hbl
    dsimp only at hbl
    have hmk : mk_ ms i = m := by rw [← mk_at hi, hx]
    have hw : IntKind.i64.wrap ((i : Int) + 1) = (i : Int) + 1 := wr64 (by omega) (by omega)
    have hx2 := get_ms hi hx
    rw [List.length_cons, upF, best_app]
    obtain ⟨⟨l', x'⟩, hR⟩ : ∃ q, q = best (dd ms) ((List.range' (i + 1) t.length).map (Prod.mk i)) (l, x) := ⟨_, rfl⟩
    rw [← hR] at hin hbl ⊢
    have hih := ih (i + 1) l' x' hd (by dsimp only at hbl; omega)
    rw [cs1] at hih hin
    rw [hmk] at hin
    dsimp only at hin
    unfold pb tb at hin hih ⊢
    rw [loopW_eq]
    generalize loopW (bd E0 (ev E0) loopW 0 [1, 5, 6, 22, 23, 24] L50b1) = K at hih ⊢
    generalize best _ _ _ = R at hih ⊢
    unfold bd
    simpa -implicitDefEqProofs [L50b1, hi, hx, hx2, hin, hw] using hih
-- ---------------------------------------------------------------- the least, as the reference reckons it
def lsF {α : Type} (d : α → Nat) : List α → Nat → Nat
  | [], x => x
  | a :: t, x => lsF d t (if x = 0 ∨ d a < x then d a else x)
theorem lsF_app {α : Type} (d : α → Nat) : ∀ (s t : List α) (x : Nat), lsF d (s ++ t) x = lsF d t (lsF d s x)
  | [], t, x => rfl
  | a :: s, t, x => by rw [List.cons_append, lsF, lsF, lsF_app d s t]
theorem lea0 (ms : List ByteArray) (hm : ms.length ≤ 1000) (hz : ∀ m ∈ ms, m.size ≤ 400) (i : Nat) (hi : i < ms.length) : ∀ (r k x : Nat), k + r = i →
    packX 0 [1, 3, 4] (loopW (bd E0 (ev E0) loopW 0 [1, 3, 4, 5] L52b0) ⟨[(1, .ptr 0 0 0), (3, i64 x), (4, i64 i), (5, i64 k)], [some (tb ms)]⟩) =
      some (.ext 2, ⟨[(1, .ptr 0 0 0), (3, i64 (lsF (dd ms) ((List.range' k r).map (Prod.mk i)) x : Nat)), (4, i64 i)], [some (tb ms)]⟩) := by
  unfold tb
  intro r
  induction r with
  | zero =>
    intro k x h
    obtain rfl : k = i := by omega
    rw [loopW_eq]
    generalize loopW (bd E0 (ev E0) loopW 0 [1, 3, 4, 5] L52b0) = K
    simp -implicitDefEqProofs [bd, L52b0, lsF]
  | succ r ih =>
    intro k x h
    have hk : k < ms.length := by omega
    have hki : (k : Int) < (i : Int) := by omega
    have hki2 : k < i := by omega
    have h1 := get_mk hi
    have h2 := get_mk hk
    have m1 := mk_at hi
    have m2 := mk_at hk
    have hds := ds_s (mk_ ms i) (mk_ ms k) (mk_sz hz i) (mk_sz hz k)
    have hw : IntKind.i64.wrap ((k : Int) + 1) = (k : Int) + 1 := wr64 (by omega) (by omega)
    have hdd : dd ms (i, k) = ds (mk_ ms i) (mk_ ms k) := rfl
    rw [List.range'_succ, List.map_cons, lsF, hdd]
    generalize ds (mk_ ms i) (mk_ ms k) = d at *
    generalize mk_ ms i = a at *
    generalize mk_ ms k = b at *
    by_cases c1 : x = 0
    · subst c1
      have hih := ih (k + 1) d (by omega)
      rw [cs1] at hih
      rw [if_pos (.inl rfl), loopW_eq]
      generalize loopW (bd E0 (ev E0) loopW 0 [1, 3, 4, 5] L52b0) = K at hih ⊢
      generalize lsF _ _ _ = R at hih ⊢
      simpa -implicitDefEqProofs [bd, L52b0, hi, hk, hki, hki2, h1, h2, m1, m2, hds, hw] using hih
    · have c1' : ¬ (x : Int) = 0 := by omega
      by_cases c2 : d < x
      · have c2' : (d : Int) < (x : Int) := by omega
        have hih := ih (k + 1) d (by omega)
        rw [cs1] at hih
        rw [if_pos (.inr c2), loopW_eq]
        generalize loopW (bd E0 (ev E0) loopW 0 [1, 3, 4, 5] L52b0) = K at hih ⊢
        generalize lsF _ _ _ = R at hih ⊢
        simpa -implicitDefEqProofs [bd, L52b0, hi, hk, hki, hki2, h1, h2, m1, m2, hds, hw, c1, c1', c2, c2'] using hih
      · have c2' : ¬ (d : Int) < (x : Int) := by omega
        have hih := ih (k + 1) x (by omega)
        rw [cs1] at hih
        rw [if_neg (fun h => h.elim c1 c2), loopW_eq]
        generalize loopW (bd E0 (ev E0) loopW 0 [1, 3, 4, 5] L52b0) = K at hih ⊢
        generalize lsF _ _ _ = R at hih ⊢
        simpa -implicitDefEqProofs [bd, L52b0, hi, hk, hki, hki2, h1, h2, m1, m2, hds, hw, c1, c1', c2, c2'] using hih
theorem lea1 (ms : List ByteArray) (hm : ms.length ≤ 1000) (hz : ∀ m ∈ ms, m.size ≤ 400) : ∀ (r i x : Nat), i + r = ms.length →
    packX 0 [3] (loopW (bd E0 (ev E0) loopW 0 [1, 3, 4] L52b1) ⟨[(1, .ptr 0 0 0), (3, i64 x), (4, i64 i)], [some (tb ms)]⟩) = some (.ext 0, ⟨[(3, i64 (lsF (dd ms) (dnF r i) x : Nat))], []⟩) := by
  intro r
  induction r with
  | zero =>
    intro i x h
    obtain rfl : i = ms.length := by omega
    unfold tb
    rw [loopW_eq]
    generalize loopW (bd E0 (ev E0) loopW 0 [1, 3, 4] L52b1) = K
    unfold bd
    simp -implicitDefEqProofs [L52b1, lsF, dnF]
  | succ r ih =>
    intro i x h
    have hi : i < ms.length := by omega
    have hi2 : (i : Int) < (ms.length : Int) := by omega
    have hin := lea0 ms hm hz i hi i 0 x (by omega)
    have hw : IntKind.i64.wrap ((i : Int) + 1) = (i : Int) + 1 := wr64 (by omega) (by omega)
    rw [dnF, lsF_app]
    generalize lsF (dd ms) ((List.range' 0 i).map (Prod.mk i)) x = y at *
    have hih := ih (i + 1) y (by omega)
    rw [cs1] at hih
    rw [c0] at hin
    unfold tb at hin hih ⊢
    rw [loopW_eq]
    generalize loopW (bd E0 (ev E0) loopW 0 [1, 3, 4] L52b1) = K at hih ⊢
    unfold bd
    simpa -implicitDefEqProofs [L52b1, hi, hi2, hin, hw] using hih
/-- The least distance of two letters, or nought for one letter. -/
def lm (ms : List ByteArray) : Nat := lsF (dd ms) (dnF ms.length 0) 0
theorem least_of (ms : List ByteArray) (hm : ms.length ≤ 1000) (hz : ∀ m ∈ ms, m.size ≤ 400) : ev E0 52 [.agg [.lst 1 (ms.map st)]] [] = some (i64 (lm ms : Int), []) := by
  have h := lea1 ms hm hz ms.length 0 0 (by omega)
  rw [c0] at h
  unfold tb at h
  change _ = some (Ex.ext 0, (⟨[(3, i64 (lm ms : Int))], []⟩ : St)) at h
  rw [e52]
  unfold runF
  simp -implicitDefEqProofs [L52, h]
end Go.Proofs.YtodcochnciadjaaDoor.Ev
