/- Ends of plans: no end is less than the least end, and the best order's is the least of all. -/
import Derived.Test.YtlmjoimjdpfamaaGreatEvRelZ2
import Derived.Test.YtlmjoimjdpfamaaGreatEvRelY
import Derived.Test.YtlmjoimjdpfamaaGreatEvRelO
import Derived.Test.YtlmjoimjdpfamaaGreatEvRelO7
set_option linter.unusedVariables false
set_option linter.unusedSimpArgs false
namespace Go.Proofs.YtlmjoimjdpfamaaGreat.Ev
theorem endF_all (js : List J) : ∀ (pl : List Hh) (e : Int), e ≤ endF js pl e ∧ ∀ h ∈ pl, endP js h ≤ endF js pl e
  | [], e => ⟨Int.le_refl _, fun h hh => by cases hh⟩
  | x :: t, e => by
    rw [endF]
    by_cases hc : e < endP js x
    · rw [if_pos hc]
      obtain ⟨h1, h2⟩ := endF_all js t (endP js x)
      refine ⟨by omega, fun h hh => ?_⟩
      rcases List.mem_cons.1 hh with rfl | e1
      · exact h1
      · exact h2 h e1
    · rw [if_neg hc]
      obtain ⟨h1, h2⟩ := endF_all js t e
      refine ⟨h1, fun h hh => ?_⟩
      rcases List.mem_cons.1 hh with rfl | e1
      · omega
      · exact h2 h e1
theorem tot_le (js : List J) (v : Int) : ∀ (l : List Hh) (lo E : Int), l.Pairwise (fun x y => clash js x y = false ∧ bef x y = true) → (∀ x ∈ l, 1 ≤ (jat js x.1).2.2.1 ∧ endP js x ≤ E) → (∀ x ∈ l, (x.2.1 = v ∨ x.2.1 + way (jat js x.1) = v) → lo ≤ x.2.2) → lo ≤ E → tot js v l + lo ≤ E
  | [], lo, E, _, _, _, h => by unfold tot; simpa using h
  | x :: t, lo, E, hp, hs, hl, h => by
    rw [List.pairwise_cons] at hp
    obtain ⟨s1, s2⟩ := hs x (List.mem_cons_self ..)
    have he : endP js x = x.2.2 + (jat js x.1).2.2.1 := rfl
    have ht : tot js v (x :: t) = gLoad js v (x.1, x.2.1) + tot js v t := by unfold tot; rw [List.map_cons, List.map_cons, List.sum_cons]
    rw [ht]
    by_cases hv : x.2.1 = v ∨ x.2.1 + way (jat js x.1) = v
    · have hlx := hl x (List.mem_cons_self ..) hv
      have hg : gLoad js v (x.1, x.2.1) = (jat js x.1).2.2.1 := by unfold gLoad; rw [if_pos hv]
      have ih := tot_le js v t (endP js x) E hp.2 (fun y hy => hs y (List.mem_cons_of_mem _ hy)) (fun y hy hyv => by
        obtain ⟨c1, c2⟩ := hp.1 y hy
        have sy := (hs y (List.mem_cons_of_mem _ hy)).1
        unfold clash nxt at c1
        unfold bef at c2
        simp only [Bool.and_eq_false_iff, Bool.not_eq_false', Bool.or_eq_true, Bool.or_eq_false_iff, decide_eq_true_eq, decide_eq_false_iff_not, Bool.and_eq_true] at c1 c2
        omega) s2
      rw [hg]
      omega
    · have hg : gLoad js v (x.1, x.2.1) = 0 := by unfold gLoad; rw [if_neg hv]
      have ih := tot_le js v t lo E hp.2 (fun y hy => hs y (List.mem_cons_of_mem _ hy)) (fun y hy => hl y (List.mem_cons_of_mem _ hy)) h
      rw [hg]
      omega
def loadV (js : List J) (v : Int) : Int := ((List.range js.length).map (jobLoad js v)).sum
/-- An order of all jobs. -/
def Full (js : List J) (od : List Nat) : Prop := od.Perm (List.range js.length)
theorem Full.nd {js : List J} {od : List Nat} (h : Full js od) : od.Nodup := h.nodup_iff.2 List.nodup_range
theorem Full.lt {js : List J} {od : List Nat} (h : Full js od) : ∀ k ∈ od, k < js.length := fun k hk => List.mem_range.1 (h.mem_iff.1 hk)
theorem Full.all {js : List J} {od : List Nat} (h : Full js od) : ∀ k, k < js.length → k ∈ od := fun k hk => h.mem_iff.2 (List.mem_range.2 hk)
theorem Full.len {js : List J} {od : List Nat} (h : Full js od) : od.length = js.length := by rw [h.length_eq, List.length_range]
theorem full_inv {js : List J} (hj : ∀ j ∈ js, JB j) (hjl : js.length ≤ 5) {od : List Nat} (h : Full js od) : FInv js od (planF js od []) := planF_ok js hj hjl od h.nd h.lt (by rw [h.len]; exact hjl)
theorem pb_span {js : List J} (hj : ∀ j ∈ js, JB j) {pl : List Hh} (hP : PB js pl) : ∀ x ∈ pl, 1 ≤ (jat js x.1).2.2.1 ∧ 0 ≤ x.2.2 := by
  intro x hx
  obtain ⟨h1, h2, _, _, h5, _⟩ := (hP x hx).1
  have hlt : x.1.toNat < js.length := by omega
  have : jat js x.1 = js[x.1.toNat] := by
    have := jat_get hlt
    rwa [show ((x.1.toNat : Nat) : Int) = x.1 by omega] at this
  rw [this]
  exact ⟨(hj _ (List.getElem_mem hlt)).s0, h5⟩
theorem load_le {js : List J} (hj : ∀ j ∈ js, JB j) (hjl : js.length ≤ 5) {od : List Nat} (h : Full js od) (v : Int) : loadV js v ≤ endO js od := by
  have hI := full_inv hj hjl h
  obtain ⟨e1, e2⟩ := endF_all js (planF js od []) 0
  have ht := tot_le js v (planF js od []) 0 (endO js od) hI.pw (fun x hx => ⟨(pb_span hj hI.pb x hx).1, e2 x hx⟩) (fun x hx _ => (pb_span hj hI.pb x hx).2) e1
  rw [hI.tt v] at ht
  have : loadV js v = (od.map (jobLoad js v)).sum := perm_sum (h.symm.map _)
  omega
theorem job_le {js : List J} (hj : ∀ j ∈ js, JB j) (hjl : js.length ≤ 5) {od : List Nat} (h : Full js od) (k : Nat) (hk : k < js.length) : js[k].2.2.2 + many js[k] * js[k].2.2.1 ≤ endO js od := by
  have hI := full_inv hj hjl h
  obtain ⟨e1, e2⟩ := endF_all js (planF js od []) 0
  obtain ⟨q, _, r2, x, r3, r4⟩ := hI.run k hk (h.all k hk)
  have := e2 x r3
  rw [Int.mul_comm]
  unfold endO
  omega
def maxL : List Int → Int → Int
  | [], e => e
  | x :: t, e => maxL t (if e < x then x else e)
theorem maxL_le : ∀ (l : List Int) (e E : Int), e ≤ E → (∀ x ∈ l, x ≤ E) → maxL l e ≤ E
  | [], e, E, h, _ => h
  | x :: t, e, E, h, hx => by
    rw [maxL]
    refine maxL_le t _ E ?_ fun y hy => hx y (List.mem_cons_of_mem _ hy)
    have := hx x (List.mem_cons_self ..)
    split <;> omega
def loadL (n : Int) (js : List J) : List Int := (List.range n.toNat).map fun v : Nat => loadV js (v : Int)
def leastV (n : Int) (js : List J) : Int := maxL (js.map fun j => j.2.2.2 + many j * j.2.2.1) (maxL (loadL n js) 0)
theorem least_le {js : List J} (hj : ∀ j ∈ js, JB j) (hjl : js.length ≤ 5) {od : List Nat} (h : Full js od) (n : Int) : leastV n js ≤ endO js od := by
  unfold leastV loadL
  refine maxL_le _ _ _ (maxL_le _ _ _ (endF_ge0 js _ 0) ?_) ?_
  · intro x hx
    rw [List.mem_map] at hx
    obtain ⟨v, _, rfl⟩ := hx
    exact load_le hj hjl h v
  · intro x hx
    rw [List.mem_map] at hx
    obtain ⟨j, hm, rfl⟩ := hx
    obtain ⟨k, hk, rfl⟩ := List.getElem_of_mem hm
    exact job_le hj hjl h k hk
-- ---------------------------------------------------------------- the best of all
theorem fold_min (js : List J) : ∀ (t : List (List Nat)) (b : List Nat) (e : Int), (t.foldl (stepB js) (b, e)).2 ≤ e ∧ (∀ od ∈ t, (t.foldl (stepB js) (b, e)).2 ≤ endO js od) ∧ (t.foldl (stepB js) (b, e) = (b, e) ∨ ∃ od ∈ t, t.foldl (stepB js) (b, e) = (od, endO js od))
  | [], b, e => ⟨Int.le_refl _, (fun od h => by cases h), .inl rfl⟩
  | r :: t, b, e => by
    rw [List.foldl_cons]
    have hst : stepB js (b, e) r = if endO js r < e then (r, endO js r) else (b, e) := rfl
    rw [hst]
    by_cases hc : endO js r < e
    · rw [if_pos hc]
      obtain ⟨h1, h2, h3⟩ := fold_min js t r (endO js r)
      refine ⟨by omega, fun od h => ?_, .inr ?_⟩
      · rcases List.mem_cons.1 h with rfl | h
        · exact h1
        · exact h2 od h
      · rcases h3 with h3 | ⟨od, h, h3⟩
        · exact ⟨r, List.mem_cons_self .., h3⟩
        · exact ⟨od, List.mem_cons_of_mem _ h, h3⟩
    · rw [if_neg hc]
      obtain ⟨h1, h2, h3⟩ := fold_min js t b e
      refine ⟨h1, fun od h => ?_, ?_⟩
      · rcases List.mem_cons.1 h with rfl | h
        · omega
        · exact h2 od h
      · rcases h3 with h3 | ⟨od, h, h3⟩
        · exact .inl h3
        · exact .inr ⟨od, List.mem_cons_of_mem _ h, h3⟩
theorem mem_perms : ∀ (n : Nat) (l r : List Nat), l.length = n → r.Perm l → r ∈ permsS n l
  | 0, l, r, hl, h => by
    have : l = [] := List.eq_nil_of_length_eq_zero hl
    subst this
    rw [h.eq_nil]
    simp [permsS]
  | n + 1, l, r, hl, h => by
    cases r with
    | nil => have := h.length_eq; simp at this; omega
    | cons x q =>
      have hx : x ∈ l := h.mem_iff.1 (List.mem_cons_self ..)
      obtain ⟨i, hi, rfl⟩ := List.getElem_of_mem hx
      have hL : l.take i ++ l[i] :: l.drop (i + 1) = l := by rw [List.getElem_cons_drop, List.take_append_drop]
      have hq : q.Perm (l.take i ++ l.drop (i + 1)) := by
        have h2 : (l[i] :: q).Perm (l[i] :: (l.take i ++ l.drop (i + 1))) := by
          have pm : (l.take i ++ l[i] :: l.drop (i + 1)).Perm (l[i] :: (l.take i ++ l.drop (i + 1))) := List.perm_middle
          rw [hL] at pm
          exact h.trans pm
        exact h2.cons_inv
      unfold permsS
      rw [List.mem_flatMap]
      refine ⟨i, List.mem_range.2 hi, ?_⟩
      rw [List.mem_map]
      refine ⟨q, mem_perms n _ q (by simp only [List.length_append, List.length_take, List.length_drop]; omega) hq, ?_⟩
      rw [List.getD_eq_getElem?_getD, List.getElem?_eq_getElem hi, Option.getD_some]
theorem bo_least {n : Int} {js : List J} (hjl : js.length ≤ 5) {od : List Nat} (h : Full js od) : (boV n js).2 ≤ endO js od := by
  have hm := mem_perms js.length (List.range js.length) od List.length_range h
  unfold boV
  cases hP : permsS js.length (List.range js.length) with
  | nil => exact absurd hP (perms_ne hjl)
  | cons r t =>
    rw [hP] at hm
    rw [bestB]
    obtain ⟨h1, h2, _⟩ := fold_min js t r (endO js r)
    rcases List.mem_cons.1 hm with rfl | hm
    · exact h1
    · exact h2 od hm
theorem bo_is {n : Int} {js : List J} (hjl : js.length ≤ 5) : ∃ od, Full js od ∧ boV n js = (od, endO js od) := by
  have hp := perms_perm js.length (List.range js.length) List.length_range
  unfold boV
  cases hP : permsS js.length (List.range js.length) with
  | nil => exact absurd hP (perms_ne hjl)
  | cons r t =>
    rw [hP] at hp
    rw [bestB]
    obtain ⟨_, _, h3⟩ := fold_min js t r (endO js r)
    rcases h3 with h3 | ⟨od, hm, h3⟩
    · exact ⟨r, hp r (List.mem_cons_self ..), h3⟩
    · exact ⟨od, hp od (List.mem_cons_of_mem _ hm), h3⟩
theorem ord_full {js : List J} {l : List Int} (h : okOrd js.length l = true) : Full js (l.map Int.toNat) := by
  rw [← ord_eq] at h
  unfold implOrd at h
  rw [Bool.and_eq_true, decide_eq_true_eq, idxGo_iff] at h
  have hperm := List.mergeSort_perm l (fun x y => decide (x ≤ y))
  have hlen : (l.mergeSort fun x y => decide (x ≤ y)).length = l.length := hperm.length_eq
  rw [hlen, h.2] at h
  have := (hperm.symm.map Int.toNat)
  rw [h.1, List.map_map] at this
  unfold Full
  rw [List.range_eq_range']
  have e : (List.range' 0 js.length).map (Int.toNat ∘ fun k : Nat => (k : Int)) = List.range' 0 js.length := by
    conv => rhs; rw [← List.map_id (List.range' 0 js.length)]
    exact List.map_congr_left fun k _ => by simp
  rw [e] at this
  exact this
theorem waits_nn {js : List J} (hj : ∀ j ∈ js, JB j) (hjl : js.length ≤ 5) {od : List Nat} (h : Full js od) : ∀ w ∈ waitK js (planF js od []), 0 ≤ w := by
  have hI := full_inv hj hjl h
  intro w hw
  unfold waitK at hw
  rw [List.mem_map] at hw
  obtain ⟨k, hk, rfl⟩ := hw
  rw [List.mem_range] at hk
  obtain ⟨q, r1, r2, _⟩ := hI.run k hk (h.all k hk)
  rw [jat_get hk]
  unfold outK
  rw [r1]
  dsimp only
  have : many js[k] * js[k].2.2.1 = js[k].2.2.1 * many js[k] := Int.mul_comm ..
  split <;> omega
end Go.Proofs.YtlmjoimjdpfamaaGreat.Ev
