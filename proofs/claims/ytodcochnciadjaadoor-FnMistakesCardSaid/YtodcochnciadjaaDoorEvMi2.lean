/- The nearest letters, the closest letters: the program's and the reference's. -/
import Derived.Test.YtodcochnciadjaaDoorEvMi1
set_option linter.unusedVariables false
set_option linter.unusedSimpArgs false
namespace Go.Proofs.YtodcochnciadjaaDoor.Ev
def ds (a b : ByteArray) : Nat := Ds.D (B a) (B b)
theorem ds_b {a b : ByteArray} (ha : a.size ≤ 1000) (hb : b.size ≤ 1000) : ds a b ≤ 2000 := by
  have := Ds.D_le (B a) (B b)
  rw [B_len, B_len] at this
  unfold ds
  omega
theorem ds_i (a b : ByteArray) (ha : a.size ≤ 400) (hb : b.size ≤ 400) : ev E0 58 [st a, st b] [] = some (i64 (ds a b : Int), []) := dist_i (a.size + b.size) a b (Nat.le_refl _) (by omega)
theorem ds_s (a b : ByteArray) (ha : a.size ≤ 400) (hb : b.size ≤ 400) : ev E0 53 [st a, st b] [] = some (i64 (ds a b : Int), []) := dist_s a b (by omega) (by omega)
/-- What has the least number so far, and this. -/
def best {α : Type} (d : α → Nat) : List α → List α × Int → List α × Int
  | [], p => p
  | a :: t, p => best d t (if p.2 < 0 ∨ (d a : Int) < p.2 then ([a], (d a : Int)) else if (d a : Int) = p.2 then (p.1 ++ [a], p.2) else p)
theorem best_len {α : Type} (d : α → Nat) : ∀ (t : List α) (p : List α × Int), (best d t p).1.length ≤ p.1.length + t.length + 1
  | [], p => by simp [best]
  | a :: t, p => by
    rw [best]
    refine Nat.le_trans (best_len d t _) ?_
    rw [List.length_cons]
    split
    · simp; omega
    · split
      · simp; omega
      · omega
theorem get_ms {ms : List ByteArray} {i : Nat} {m : ByteArray} (hi : i < ms.length) (hx : ms[i] = m) : (ms.map st)[i]? = some (st m) := by
  rw [List.getElem?_map, List.getElem?_eq_getElem hi, hx]
  rfl
theorem ns_app (l : List Nat) (i : Nat) : ns l ++ [i64 (i : Int)] = ns (l ++ [i]) := by simp [ns]
theorem nearI (ms : List ByteArray) (hm : ms.length ≤ 1000) (hz : ∀ m ∈ ms, m.size ≤ 400) (k : ByteArray) (hk : k.size ≤ 400) : ∀ (t : List ByteArray) (i : Nat) (l : List Nat) (x : Int), ms.drop i = t → l.length ≤ i →
    packX 0 [6, 7] (loopW (bd E0 (ev E0) loopW 0 [1, 6, 7, 13, 14, 15] L75b0) ⟨[(1, st k), (6, .sl 0 0 l.length), (7, i64 x), (13, .lst 1 (ms.map st)), (14, i64 ms.length), (15, i64 i)], [some (ib l)]⟩) =
      some (.ext 0, ⟨[(6, .sl 0 0 (best (fun j => ds (mk_ ms j) k) (List.range' i t.length) (l, x)).1.length), (7, i64 (best (fun j => ds (mk_ ms j) k) (List.range' i t.length) (l, x)).2)], [some (ib (best (fun j => ds (mk_ ms j) k) (List.range' i t.length) (l, x)).1)]⟩) := by
  unfold ib
  intro t
  induction t with
  | nil =>
    intro i l x h _
    have hi := not_drop h
    rw [loopW_eq]
    generalize loopW (bd E0 (ev E0) loopW 0 [1, 6, 7, 13, 14, 15] L75b0) = K
    simp -implicitDefEqProofs [bd, L75b0, hi, best]
  | cons m t ih =>
    intro i l x h hl
    obtain ⟨hi, hx, hd, hmem⟩ := at_drop h
    have hdi := ds_i m k (hz m hmem) hk
    have hb := ds_b (a := m) (b := k) (by have := hz m hmem; omega) (by omega)
    have hmk : mk_ ms i = m := by rw [← mk_at hi, hx]
    have hw : IntKind.i64.wrap ((i : Int) + 1) = (i : Int) + 1 := wr64 (by omega) (by omega)
    have hx2 := get_ms hi hx
    have l1 : l.length + 1 ≤ 140737488355328 := by omega
    have l2 : (l.length + 1) * 8 ≤ 140737488355328 := by omega
    have ht : List.take l.length (ns l) = ns l := List.take_of_length_le (by rw [ns_len]; exact Nat.le_refl _)
    have hnl := ns_len l
    have ha := ns_app l i
    have h1 : ns [i] = [i64 (i : Int)] := rfl
    rw [List.length_cons, List.range'_succ, best, hmk]
    generalize ds m k = d at *
    dsimp only
    by_cases c1 : x < 0
    · have hih := ih (i + 1) [i] d hd (by simp)
      rw [cs1, h1] at hih
      rw [if_pos (.inl c1), loopW_eq]
      generalize loopW (bd E0 (ev E0) loopW 0 [1, 6, 7, 13, 14, 15] L75b0) = K at hih ⊢
      generalize best _ _ _ = R at hih ⊢
      simpa -implicitDefEqProofs [bd, L75b0, hi, hx, hx2, hdi, c1, hw] using hih
    · by_cases c2 : (d : Int) < x
      · have hih := ih (i + 1) [i] d hd (by simp)
        rw [cs1, h1] at hih
        rw [if_pos (.inr c2), loopW_eq]
        generalize loopW (bd E0 (ev E0) loopW 0 [1, 6, 7, 13, 14, 15] L75b0) = K at hih ⊢
        generalize best _ _ _ = R at hih ⊢
        simpa -implicitDefEqProofs [bd, L75b0, hi, hx, hx2, hdi, c1, c2, hw] using hih
      · have c3 : ¬ (x < 0 ∨ (d : Int) < x) := fun h => h.elim c1 c2
        by_cases c4 : (d : Int) = x
        · have hih := ih (i + 1) (l ++ [i]) x hd (by simp; omega)
          rw [cs1, ← ha, List.length_append, List.length_singleton] at hih
          rw [if_neg c3, if_pos c4, loopW_eq]
          generalize loopW (bd E0 (ev E0) loopW 0 [1, 6, 7, 13, 14, 15] L75b0) = K at hih ⊢
          generalize best _ _ _ = R at hih ⊢
          generalize ns l = nl at *
          simpa -implicitDefEqProofs [bd, L75b0, hi, hx, hx2, hdi, c1, c2, c4, hw, l1, l2, ht, hnl] using hih
        · have hih := ih (i + 1) l x hd (by omega)
          rw [cs1] at hih
          rw [if_neg c3, if_neg c4, loopW_eq]
          generalize loopW (bd E0 (ev E0) loopW 0 [1, 6, 7, 13, 14, 15] L75b0) = K at hih ⊢
          generalize best _ _ _ = R at hih ⊢
          generalize ns l = nl at *
          simpa -implicitDefEqProofs [bd, L75b0, hi, hx, hx2, hdi, c1, c2, c4, hw] using hih
theorem nearS (ms : List ByteArray) (hm : ms.length ≤ 1000) (hz : ∀ m ∈ ms, m.size ≤ 400) (k : ByteArray) (hk : k.size ≤ 400) : ∀ (t : List ByteArray) (i : Nat) (l : List Nat) (x : Int), ms.drop i = t → l.length ≤ i →
    packX 0 [6, 7] (loopW (bd E0 (ev E0) loopW 0 [1, 2, 6, 7, 8] L76b0) ⟨[(1, st k), (2, .ptr 0 0 0), (6, .sl 1 0 l.length), (7, i64 x), (8, i64 i)], [some (tb ms), some (ib l)]⟩) =
      some (.ext 0, ⟨[(6, .sl 0 0 (best (fun j => ds (mk_ ms j) k) (List.range' i t.length) (l, x)).1.length), (7, i64 (best (fun j => ds (mk_ ms j) k) (List.range' i t.length) (l, x)).2)], [some (ib (best (fun j => ds (mk_ ms j) k) (List.range' i t.length) (l, x)).1)]⟩) := by
  unfold ib tb
  intro t
  induction t with
  | nil =>
    intro i l x h _
    have hi := not_drop h
    rw [loopW_eq]
    generalize loopW (bd E0 (ev E0) loopW 0 [1, 2, 6, 7, 8] L76b0) = K
    simp -implicitDefEqProofs [bd, L76b0, hi, best]
  | cons m t ih =>
    intro i l x h hl
    obtain ⟨hi, hx, hd, hmem⟩ := at_drop h
    have hdi := ds_s m k (hz m hmem) hk
    have hb := ds_b (a := m) (b := k) (by have := hz m hmem; omega) (by omega)
    have hmk : mk_ ms i = m := by rw [← mk_at hi, hx]
    have hw : IntKind.i64.wrap ((i : Int) + 1) = (i : Int) + 1 := wr64 (by omega) (by omega)
    have hx2 := get_ms hi hx
    have l1 : l.length + 1 ≤ 140737488355328 := by omega
    have l2 : (l.length + 1) * 8 ≤ 140737488355328 := by omega
    have ht : List.take l.length (ns l) = ns l := List.take_of_length_le (by rw [ns_len]; exact Nat.le_refl _)
    have hnl := ns_len l
    have ha := ns_app l i
    have h1 : ns [i] = [i64 (i : Int)] := rfl
    rw [List.length_cons, List.range'_succ, best, hmk]
    generalize ds m k = d at *
    dsimp only
    by_cases c1 : x < 0
    · have hih := ih (i + 1) [i] d hd (by simp)
      rw [cs1, h1] at hih
      rw [if_pos (.inl c1), loopW_eq]
      generalize loopW (bd E0 (ev E0) loopW 0 [1, 2, 6, 7, 8] L76b0) = K at hih ⊢
      generalize best _ _ _ = R at hih ⊢
      simpa -implicitDefEqProofs [bd, L76b0, hi, hx, hx2, hdi, c1, hw] using hih
    · by_cases c2 : (d : Int) < x
      · have hih := ih (i + 1) [i] d hd (by simp)
        rw [cs1, h1] at hih
        rw [if_pos (.inr c2), loopW_eq]
        generalize loopW (bd E0 (ev E0) loopW 0 [1, 2, 6, 7, 8] L76b0) = K at hih ⊢
        generalize best _ _ _ = R at hih ⊢
        simpa -implicitDefEqProofs [bd, L76b0, hi, hx, hx2, hdi, c1, c2, hw] using hih
      · have c3 : ¬ (x < 0 ∨ (d : Int) < x) := fun h => h.elim c1 c2
        by_cases c4 : (d : Int) = x
        · have hih := ih (i + 1) (l ++ [i]) x hd (by simp; omega)
          rw [cs1, ← ha, List.length_append, List.length_singleton] at hih
          rw [if_neg c3, if_pos c4, loopW_eq]
          generalize loopW (bd E0 (ev E0) loopW 0 [1, 2, 6, 7, 8] L76b0) = K at hih ⊢
          generalize best _ _ _ = R at hih ⊢
          generalize ns l = nl at *
          simpa -implicitDefEqProofs [bd, L76b0, hi, hx, hx2, hdi, c1, c2, c4, hw, l1, l2, ht, hnl] using hih
        · have hih := ih (i + 1) l x hd (by omega)
          rw [cs1] at hih
          rw [if_neg c3, if_neg c4, loopW_eq]
          generalize loopW (bd E0 (ev E0) loopW 0 [1, 2, 6, 7, 8] L76b0) = K at hih ⊢
          generalize best _ _ _ = R at hih ⊢
          generalize ns l = nl at *
          simpa -implicitDefEqProofs [bd, L76b0, hi, hx, hx2, hdi, c1, c2, c4, hw] using hih
/-- The nearest letters, and how near. -/
def nrst (ms : List ByteArray) (k : ByteArray) : List Nat × Int := best (fun j => ds (mk_ ms j) k) (List.range ms.length) ([], -1)
theorem near_i (ms : List ByteArray) (hm : ms.length ≤ 1000) (hz : ∀ m ∈ ms, m.size ≤ 400) (k : ByteArray) (hk : k.size ≤ 400) : ev E0 75 [.agg [.lst 1 (ms.map st)], st k] [] = some (.tup [.sl 0 0 (nrst ms k).1.length, i64 (nrst ms k).2], [some (ib (nrst ms k).1)]) := by
  have h := nearI ms hm hz k hk ms 0 [] (-1) rfl (by simp)
  rw [← List.range_eq_range'] at h
  change _ = some (Ex.ext 0, (⟨[(6, .sl 0 0 (nrst ms k).1.length), (7, i64 (nrst ms k).2)], [some (ib (nrst ms k).1)]⟩ : St)) at h
  generalize nrst ms k = R at *
  unfold ib at *
  rw [c0, show ns [] = [] from rfl, List.length_nil] at h
  rw [e75]
  unfold runF
  simp -implicitDefEqProofs [L75, h]
theorem near_s (ms : List ByteArray) (hm : ms.length ≤ 1000) (hz : ∀ m ∈ ms, m.size ≤ 400) (k : ByteArray) (hk : k.size ≤ 400) : ev E0 76 [.agg [.lst 1 (ms.map st)], st k] [] = some (.tup [.sl 0 0 (nrst ms k).1.length, i64 (nrst ms k).2], [some (ib (nrst ms k).1)]) := by
  have h := nearS ms hm hz k hk ms 0 [] (-1) rfl (by simp)
  rw [← List.range_eq_range'] at h
  change _ = some (Ex.ext 0, (⟨[(6, .sl 0 0 (nrst ms k).1.length), (7, i64 (nrst ms k).2)], [some (ib (nrst ms k).1)]⟩ : St)) at h
  generalize nrst ms k = R at *
  unfold ib tb at *
  rw [c0, show ns [] = [] from rfl, List.length_nil] at h
  rw [e76]
  unfold runF
  simp -implicitDefEqProofs [L76, h]
theorem markD_i (a b : ByteArray) (ha : a.size ≤ 400) (hb : b.size ≤ 400) : ev E0 33 [st a, st b] [] = some (.tup [i64 (if (okMarks a 0 5 && okMarks b 0 5) = true then (ds a b : Int) else 0), bl (okMarks a 0 5 && okMarks b 0 5)], []) := by
  have h1 := marks_i a (by omega) 0 5
  have h2 := marks_i b (by omega) 0 5
  have h3 := ds_i a b ha hb
  rw [e33]
  unfold runF
  cases c1 : okMarks a 0 5 <;> rw [c1] at h1 <;> cases c2 : okMarks b 0 5 <;> rw [c2] at h2 <;> simp -implicitDefEqProofs [L33, h1, h2, h3]
theorem markD_s (a b : ByteArray) (ha : a.size ≤ 400) (hb : b.size ≤ 400) : ev E0 35 [st a, st b] [] = some (.tup [i64 (if (okMarks a 0 5 && okMarks b 0 5) = true then (ds a b : Int) else 0), bl (okMarks a 0 5 && okMarks b 0 5)], []) := by
  have h1 := marks_s a (by omega) 0 5
  have h2 := marks_s b (by omega) 0 5
  have h3 := ds_s a b ha hb
  rw [e35]
  unfold runF
  cases c1 : okMarks a 0 5 <;> rw [c1] at h1 <;> cases c2 : okMarks b 0 5 <;> rw [c2] at h2 <;> simp -implicitDefEqProofs [L35, h1, h2, h3]
theorem nearL_i (ms : List ByteArray) (hm : ms.length ≤ 1000) (hz : ∀ m ∈ ms, m.size ≤ 400) (k : ByteArray) (hk : k.size ≤ 400) : ev E0 37 [.agg [.lst 1 (ms.map st)], st k] [] = if (okTable ms && okMarks k 0 5) = true then some (.tup [.sl 0 0 (nrst ms k).1.length, i64 (nrst ms k).2, bl true], [some (ib (nrst ms k).1)]) else some (.tup [.v (.slice none 0 0), i64 0, bl false], []) := by
  have h1 := table_i ms (by omega) (fun x hx => by have := hz x hx; omega)
  have h2 := marks_i k (by omega) 0 5
  have h3 := near_i ms hm hz k hk
  generalize nrst ms k = R at *
  unfold ib at *
  rw [e37]
  unfold runF
  cases c1 : okTable ms <;> rw [c1] at h1 <;> cases c2 : okMarks k 0 5 <;> rw [c2] at h2 <;> simp -implicitDefEqProofs [L37, h1, h2, h3]
theorem nearL_s (ms : List ByteArray) (hm : ms.length ≤ 1000) (hz : ∀ m ∈ ms, m.size ≤ 400) (k : ByteArray) (hk : k.size ≤ 400) : ev E0 38 [.agg [.lst 1 (ms.map st)], st k] [] = if (okTable ms && okMarks k 0 5) = true then some (.tup [.sl 0 0 (nrst ms k).1.length, i64 (nrst ms k).2, bl true], [some (ib (nrst ms k).1)]) else some (.tup [.sl 0 0 0, i64 0, bl false], [some (ib [])]) := by
  have h1 := table_s ms (by omega) (fun x hx => by have := hz x hx; omega)
  have h2 := marks_s k (by omega) 0 5
  have h3 := near_s ms hm hz k hk
  generalize nrst ms k = R at *
  have h4 : ns [] = [] := rfl
  unfold ib at *
  rw [e38]
  unfold runF
  cases c1 : okTable ms <;> rw [c1] at h1 <;> cases c2 : okMarks k 0 5 <;> rw [c2] at h2 <;> simp -implicitDefEqProofs [L38, h1, h2, h3, h4]
-- ---------------------------------------------------------------- what the nearest are
structure Bst {α : Type} (d : α → Nat) (s : List α) (p : List α × Int) : Prop where
  ge : 0 ≤ p.2
  at_ : ∃ a ∈ s, (d a : Int) = p.2
  le : ∀ a ∈ s, p.2 ≤ (d a : Int)
  eq : p.1 = s.filter (fun a => decide ((d a : Int) = p.2))
theorem best_ok {α : Type} {d : α → Nat} : ∀ (t s : List α) (p : List α × Int), Bst d s p → Bst d (s ++ t) (best d t p)
  | [], s, p, h => by rw [List.append_nil]; exact h
  | a :: t, s, p, h => by
    rw [show s ++ a :: t = (s ++ [a]) ++ t by simp, best]
    refine best_ok t (s ++ [a]) _ ?_
    by_cases c1 : p.2 < 0 ∨ (d a : Int) < p.2
    · rw [if_pos c1]
      have hg := h.ge
      have hlt : (d a : Int) < p.2 := c1.resolve_left (by omega)
      refine ⟨by simp, ⟨a, by simp, rfl⟩, fun b hb => ?_, ?_⟩
      · rcases List.mem_append.1 hb with hb | hb
        · have := h.le b hb; simp only; omega
        · rw [List.mem_singleton.1 hb]; exact Int.le_refl _
      · rw [List.filter_append]
        have : s.filter (fun b => decide ((d b : Int) = (d a : Int))) = [] := by
          rw [List.filter_eq_nil_iff]
          intro b hb e
          have := h.le b hb
          have := of_decide_eq_true e
          omega
        rw [this]
        simp
    · rw [if_neg c1]
      by_cases c2 : (d a : Int) = p.2
      · rw [if_pos c2]
        refine ⟨h.ge, ?_, fun b hb => ?_, ?_⟩
        · obtain ⟨b, hb, e⟩ := h.at_
          exact ⟨b, List.mem_append_left _ hb, e⟩
        · rcases List.mem_append.1 hb with hb | hb
          · exact h.le b hb
          · rw [List.mem_singleton.1 hb, c2]; exact Int.le_refl _
        · dsimp only
          rw [List.filter_append, ← h.eq]
          simp [c2]
      · rw [if_neg c2]
        refine ⟨h.ge, ?_, fun b hb => ?_, ?_⟩
        · obtain ⟨b, hb, e⟩ := h.at_
          exact ⟨b, List.mem_append_left _ hb, e⟩
        · rcases List.mem_append.1 hb with hb | hb
          · exact h.le b hb
          · rw [List.mem_singleton.1 hb]; omega
        · rw [List.filter_append, ← h.eq]
          simp [c2]
theorem best_of {α : Type} {d : α → Nat} {s : List α} (h : s ≠ []) : Bst d s (best d s ([], -1)) := by
  cases s with
  | nil => exact absurd rfl h
  | cons a t =>
    rw [best, if_pos (.inl (by show (-1 : Int) < 0; decide))]
    refine best_ok t [a] _ ⟨by simp, ⟨a, by simp, rfl⟩, fun b hb => ?_, by simp⟩
    rw [List.mem_singleton.1 hb]
    exact Int.le_refl _
end Go.Proofs.YtodcochnciadjaaDoor.Ev
