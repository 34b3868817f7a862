/- How many lines are on at once, the program. -/
import Derived.Test.YtckfbfgfjlgmeaaGreatDoorEvLn7
set_option linter.unusedVariables false
set_option linter.unusedSimpArgs false
namespace Go.Proofs.YtckfbfgfjlgmeaaGreatDoor.Ev
def stepO (l : ByteArray) (A : List Nat) (i : Nat) : List Nat :=
  if i = A.length then A ++ [if onB l i = true then 1 else 0] else if onB l i = true then A.set i (A.getD i 0 + 1) else A
def adl (l : ByteArray) : Nat → Nat → List Nat → List Nat
  | _, 0, A => A
  | i, k + 1, A => adl l (i + 1) k (stepO l A i)
theorem stepO_len (l : ByteArray) (A : List Nat) (i : Nat) (h : i ≤ A.length) : (stepO l A i).length = max A.length (i + 1) := by
  unfold stepO
  split
  · rw [List.length_append]; simp; omega
  · split
    · rw [List.length_set]; omega
    · omega
theorem stepO_get (l : ByteArray) (A : List Nat) (i : Nat) (h : i ≤ A.length) (j : Nat) : (stepO l A i).getD j 0 = A.getD j 0 + (if j = i ∧ onB l i = true then 1 else 0) := by
  unfold stepO
  simp only [List.getD_eq_getElem?_getD]
  by_cases hi : i = A.length
  · rw [if_pos hi]
    by_cases hj : j < A.length
    · rw [List.getElem?_append_left hj, if_neg (by omega), Nat.add_zero]
    · by_cases hj2 : j = A.length
      · rw [List.getElem?_append_right (by omega), hj2, Nat.sub_self, List.getElem?_eq_none (Nat.le_refl _), hi]
        by_cases ho : onB l A.length = true
        · rw [if_pos ho, if_pos ⟨rfl, ho⟩]; rfl
        · rw [if_neg ho, if_neg (fun e => ho e.2)]; rfl
      · rw [List.getElem?_eq_none (by simp; omega), List.getElem?_eq_none (by omega), if_neg (by omega)]; rfl
  · rw [if_neg hi]
    by_cases ho : onB l i = true
    · rw [if_pos ho]
      by_cases hj : j = i
      · subst hj
        rw [List.getElem?_set_self (by omega), if_pos ⟨rfl, ho⟩]
        rfl
      · rw [List.getElem?_set_ne (by omega), if_neg (by omega), Nat.add_zero]
    · rw [if_neg ho, if_neg (fun e => ho e.2), Nat.add_zero]
theorem adl_spec (l : ByteArray) : ∀ (k i : Nat) (A : List Nat), i ≤ A.length → i + k = l.size → (adl l i k A).length = max A.length l.size ∧ ∀ j, (adl l i k A).getD j 0 = A.getD j 0 + (if i ≤ j ∧ onB l j = true then 1 else 0)
  | 0, i, A, h1, h2 => by
    rw [adl]
    refine ⟨by omega, fun j => ?_⟩
    rw [if_neg, Nat.add_zero]
    rintro ⟨a, b⟩
    rw [on_big l j (by omega)] at b
    cases b
  | k + 1, i, A, h1, h2 => by
    have hl := stepO_len l A i h1
    obtain ⟨q1, q2⟩ := adl_spec l k (i + 1) (stepO l A i) (by omega) (by omega)
    rw [adl]
    refine ⟨by omega, fun j => ?_⟩
    rw [q2 j, stepO_get l A i h1 j]
    by_cases hj : j = i
    · subst hj
      by_cases ho : onB l j = true
      · rw [if_pos ⟨rfl, ho⟩, if_neg (by omega), if_pos ⟨Nat.le_refl _, ho⟩]
      · rw [if_neg (fun e => ho e.2), if_neg (fun e => ho e.2), if_neg (fun e => ho e.2)]
    · rw [if_neg (fun e => hj e.1), Nat.add_zero]
      by_cases ho : onB l j = true
      · by_cases hij : i + 1 ≤ j
        · rw [if_pos ⟨hij, ho⟩, if_pos ⟨by omega, ho⟩]
        · rw [if_neg (fun e => hij e.1), if_neg (by omega)]
      · rw [if_neg (fun e => ho e.2), if_neg (fun e => ho e.2)]
theorem ns_app (A : List Nat) (v : Nat) : ns (A ++ [v]) = ns A ++ [i64 (v : Int)] := by unfold ns; rw [List.map_append]; rfl
theorem ns_set (A : List Nat) (i v : Nat) : ns (A.set i v) = (ns A).set i (i64 (v : Int)) := by unfold ns; rw [List.map_set]
theorem ns_getD (A : List Nat) (i : Nat) (h : i < A.length) : (ns A)[i]? = some (i64 ((A.getD i 0 : Nat) : Int)) := by
  unfold ns
  rw [List.getElem?_map, List.getD_eq_getElem?_getD, List.getElem?_eq_getElem h]
  rfl
@[simp] theorem free_ns (l : List Nat) : okL (free 5) (ns l) = true := okL_map (fun _ => rfl) l
theorem oaI0 (Ls : List ByteArray) (q : Nat) (l : ByteArray) (hl : l.size ≤ 10000) : ∀ (k i : Nat) (A : List Nat), i + k = l.size → i ≤ A.length → A.length ≤ 10000 → (∀ j, i ≤ j → A.getD j 0 ≤ 1000) →
    packX 0 [4, 12, 13, 14] (loopW (bd E0 (ev E0) loopW 0 [4, 6, 12, 13, 14, 22, 23] L25b0) ⟨[(4, .sl 0 0 A.length), (6, st l), (12, .lst 1 (Ls.map st)), (13, i64 Ls.length), (14, i64 q), (22, i64 l.size), (23, i64 i)], [some (ib A)]⟩) = some (.ext 2, ⟨[(4, .sl 0 0 (adl l i k A).length), (12, .lst 1 (Ls.map st)), (13, i64 Ls.length), (14, i64 q)], [some (ib (adl l i k A))]⟩) := by
  have hQ : (Ls.map st).length = Ls.length := List.length_map _
  have hfr := free_st Ls
  intro k
  induction k with
  | zero =>
    intro i A h1 h2 h3 h4
    have hi : ¬ (i : Int) < (l.size : Int) := by omega
    have hi2 : ¬ i < l.size := by omega
    have hn := ns_len A
    have hf := free_ns A
    rw [adl, loopW_eq]
    unfold ib
    generalize ns A = N at *
    generalize Ls.map st = Q at *
    generalize loopW (bd E0 (ev E0) loopW 0 [4, 6, 12, 13, 14, 22, 23] L25b0) = K
    simp -implicitDefEqProofs [bd, L25b0, hi, hi2, hQ, hfr, hn, hf]
  | succ k ih =>
    intro i A h1 h2 h3 h4
    have hi : (i : Int) < (l.size : Int) := by omega
    have hi2 : i < l.size := by omega
    have ho := on_i l (by omega) i
    have hw : IntKind.i64.wrap ((i : Int) + 1) = (i : Int) + 1 := wr64 (by omega) (by omega)
    have hlen := stepO_len l A i h2
    have hih := ih (i + 1) (stepO l A i) (by omega) (by omega) (by omega) (fun j hj => by
      rw [stepO_get l A i h2 j, if_neg (by omega)]
      have := h4 j (by omega)
      omega)
    have hn := ns_len A
    have hf := free_ns A
    have hv0 := h4 i (Nat.le_refl _)
    rw [cs1] at hih
    rw [adl, loopW_eq]
    clear ih h4
    generalize hR : adl l (i + 1) k (stepO l A i) = R at *
    clear hR
    by_cases hiA : i = A.length
    · have hl1 : A.length + 1 ≤ 140737488355328 := by omega
      have hl2 : (A.length + 1) * 8 ≤ 140737488355328 := by omega
      have ht : List.take A.length (ns A) = ns A := List.take_of_length_le (by omega)
      have hget : ∀ v : AV, (ns A ++ [v])[A.length]? = some v := fun v => app_get (by omega)
      have hget2 : ∀ (v : AV) h, (ns A ++ [v])[A.length]'h = v := fun v h => (List.getElem?_eq_some_iff.1 (hget v)).2
      have hset : ∀ v w : AV, (ns A ++ [v]).set A.length w = ns A ++ [w] := fun v w => app_set (by omega)
      have hstep : stepO l A i = A ++ [if onB l i = true then 1 else 0] := by unfold stepO; rw [if_pos hiA]
      have hA0 : (A.length : Int) < (A.length : Int) + 1 := by omega
      rw [hstep, List.length_append, List.length_singleton] at hih
      unfold ib at *
      rw [ns_app] at hih
      clear hstep hlen
      subst hiA
      generalize ns A = N at *
      generalize ns R = N2 at *
      generalize A.length = a at *
      generalize Ls.map st = Q at *
      cases hb : onB l a with
      | true =>
        rw [hb] at ho
        rw [hb, if_pos rfl] at hih
        generalize loopW (bd E0 (ev E0) loopW 0 [4, 6, 12, 13, 14, 22, 23] L25b0) = K at hih ⊢
        simpa -implicitDefEqProofs [bd, L25b0, hi, hi2, hQ, hfr, ho, hw, hl1, hl2, ht, hget, hget2, hset, hA0, i1, hn, hf] using hih
      | false =>
        rw [hb] at ho
        rw [hb, if_neg (by decide)] at hih
        generalize loopW (bd E0 (ev E0) loopW 0 [4, 6, 12, 13, 14, 22, 23] L25b0) = K at hih ⊢
        simpa -implicitDefEqProofs [bd, L25b0, hi, hi2, hQ, hfr, ho, hw, hl1, hl2, ht, hget, hget2, hset, hA0, i1, hn, hf] using hih
    · have hiL : i < A.length := by omega
      have hiL2 : (i : Int) < (A.length : Int) := by omega
      have hne : ¬ (i : Int) = (A.length : Int) := by omega
      have hget := ns_getD A i hiL
      have hget2 : ∀ h, (ns A)[i]'h = i64 ((A.getD i 0 : Nat) : Int) := fun h => (List.getElem?_eq_some_iff.1 hget).2
      cases hb : onB l i with
      | true =>
        rw [hb] at ho
        have hstep : stepO l A i = A.set i (A.getD i 0 + 1) := by unfold stepO; rw [if_neg hiA, if_pos hb]
        have hv : A.getD i 0 ≤ 1000 := hv0
        have hwv : IntKind.i64.wrap (((A.getD i 0 : Nat) : Int) + 1) = ((A.getD i 0 : Nat) : Int) + 1 := wr64 (by omega) (by omega)
        rw [hstep, List.length_set] at hih
        unfold ib at *
        rw [ns_set, cs1] at hih
        clear hstep hlen hv hv0
        generalize A.getD i 0 = v at *
        generalize ns A = N at *
        generalize ns R = N2 at *
        generalize A.length = a at *
        generalize Ls.map st = Q at *
        generalize loopW (bd E0 (ev E0) loopW 0 [4, 6, 12, 13, 14, 22, 23] L25b0) = K at hih ⊢
        simpa -implicitDefEqProofs [bd, L25b0, hi, hi2, hQ, hfr, ho, hw, hiL, hiL2, hne, hiA, hget, hget2, hwv, hn, hf] using hih
      | false =>
        rw [hb] at ho
        have hstep : stepO l A i = A := by unfold stepO; rw [if_neg hiA, if_neg (by rw [hb]; decide)]
        rw [hstep] at hih
        unfold ib at *
        clear hstep hlen hv0
        generalize A.getD i 0 = v at *
        generalize ns A = N at *
        generalize ns R = N2 at *
        generalize A.length = a at *
        generalize Ls.map st = Q at *
        generalize loopW (bd E0 (ev E0) loopW 0 [4, 6, 12, 13, 14, 22, 23] L25b0) = K at hih ⊢
        simpa -implicitDefEqProofs [bd, L25b0, hi, hi2, hQ, hfr, ho, hw, hiL, hiL2, hne, hiA, hget, hget2, hn, hf] using hih
def fold1 : List ByteArray → List Nat → List Nat
  | [], A => A
  | l :: t, A => fold1 t (adl l 0 l.size A)
theorem oaI1 (Ls : List ByteArray) (hL : Ls.length ≤ 100) (hz : ∀ l ∈ Ls, l.size ≤ 10000) : ∀ (t : List ByteArray) (i : Nat) (A : List Nat), Ls.drop i = t → A.length ≤ 10000 → (∀ j, A.getD j 0 ≤ i) →
    (t.all okLine = true → packX 0 [2, 3, 4] (loopW (bd E0 (ev E0) loopW 0 [4, 12, 13, 14] L25b1) ⟨[(4, .sl 0 0 A.length), (12, .lst 1 (Ls.map st)), (13, i64 Ls.length), (14, i64 i)], [some (ib A)]⟩) = some (.ext 0, ⟨[(4, .sl 0 0 (fold1 t A).length)], [some (ib (fold1 t A))]⟩)) ∧
    (t.all okLine = false → ∃ A', packX 0 [2, 3, 4] (loopW (bd E0 (ev E0) loopW 0 [4, 12, 13, 14] L25b1) ⟨[(4, .sl 0 0 A.length), (12, .lst 1 (Ls.map st)), (13, i64 Ls.length), (14, i64 i)], [some (ib A)]⟩) = some (.ret, ⟨[(2, .v (.slice none 0 0)), (3, bl false), (4, .sl 0 0 A'.length)], [some (ib A')]⟩)) := by
  have hQ : (Ls.map st).length = Ls.length := List.length_map _
  have hfr := free_st Ls
  intro t
  induction t with
  | nil =>
    intro i A h h1 h2
    have hi := not_drop h
    have hii : ¬ (i : Int) < (Ls.length : Int) := by omega
    have hn := ns_len A
    have hf := free_ns A
    refine ⟨fun _ => ?_, fun h => (by cases h)⟩
    rw [fold1, loopW_eq]
    unfold ib
    generalize ns A = N at *
    generalize Ls.map st = Q at *
    generalize loopW (bd E0 (ev E0) loopW 0 [4, 12, 13, 14] L25b1) = K
    unfold bd
    simp -implicitDefEqProofs [L25b1, hi, hii, hQ, hfr, hn, hf]
  | cons l t ih =>
    intro i A h h1 h2
    obtain ⟨hi, hx, hd, hmem⟩ := at_drop h
    have hii : (i : Int) < (Ls.length : Int) := by omega
    have hlz := hz l hmem
    have hg1 : (Ls.map st)[i]? = some (st l) := by rw [List.getElem?_map, List.getElem?_eq_getElem hi, hx]; rfl
    have hg : ∀ h, (Ls.map st)[i]'h = st l := fun h => (List.getElem?_eq_some_iff.1 hg1).2
    have hw : IntKind.i64.wrap ((i : Int) + 1) = (i : Int) + 1 := wr64 (by omega) (by omega)
    have hline := isLine_i l (by omega)
    have h0 := oaI0 Ls i l hlz l.size 0 A (by omega) (by omega) h1 (fun j _ => by have := h2 j; omega)
    rw [c0] at h0
    obtain ⟨q1, q2⟩ := adl_spec l l.size 0 A (by omega) (by omega)
    obtain ⟨ih1, ih2⟩ := ih (i + 1) (adl l 0 l.size A) hd (by rw [q1]; omega) (fun j => by
      rw [q2 j]
      have := h2 j
      split <;> omega)
    rw [cs1] at ih1 ih2
    rw [List.all_cons, loopW_eq, fold1]
    clear ih q1 q2 h2
    have hn := ns_len A
    have hf := free_ns A
    cases ho : okLine l with
    | false =>
      rw [ho] at hline
      refine ⟨fun h => (by simp at h), fun _ => ⟨A, ?_⟩⟩
      unfold ib at *
      generalize ns A = N at *
      generalize Ls.map st = Q at *
      generalize loopW (bd E0 (ev E0) loopW 0 [4, 12, 13, 14] L25b1) = K
      unfold bd
      simp -implicitDefEqProofs [L25b1, hi, hii, hQ, hfr, hn, hf, hg, hg1, hline]
    | true =>
      rw [ho] at hline
      rw [Bool.true_and]
      refine ⟨fun h => ?_, fun h => ?_⟩
      · have hh := ih1 h
        unfold ib at *
        generalize adl l 0 l.size A = D at *
        generalize Ls.map st = Q at *
        generalize fold1 t D = F at *
        generalize loopW (bd E0 (ev E0) loopW 0 [4, 12, 13, 14] L25b1) = K at hh ⊢
        unfold bd
        simpa -implicitDefEqProofs [L25b1, hi, hii, hQ, hfr, hn, hf, hg, hg1, hline, h0, hw] using hh
      · obtain ⟨A', hh⟩ := ih2 h
        refine ⟨A', ?_⟩
        unfold ib at *
        generalize adl l 0 l.size A = D at *
        generalize Ls.map st = Q at *
        generalize loopW (bd E0 (ev E0) loopW 0 [4, 12, 13, 14] L25b1) = K at hh ⊢
        unfold bd
        simpa -implicitDefEqProofs [L25b1, hi, hii, hQ, hfr, hn, hf, hg, hg1, hline, h0, hw] using hh
end Go.Proofs.YtckfbfgfjlgmeaaGreatDoor.Ev
