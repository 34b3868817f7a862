/- How many lines are on at once, both programs. -/
import Derived.Test.YtckfbfgfjlgmeaaGreatDoorEvLn8
set_option linter.unusedVariables false
set_option linter.unusedSimpArgs false
namespace Go.Proofs.YtckfbfgfjlgmeaaGreatDoor.Ev
/-- How many lines are on at a unit. -/
def oc : List ByteArray → Nat → Nat
  | [], _ => 0
  | l :: t, k => (if onB l k = true then 1 else 0) + oc t k
def mxA : Nat → List ByteArray → Nat
  | m, [] => m
  | m, l :: t => mxA (if l.size < m then m else l.size) t
def ocs (Ls : List ByteArray) (m : Nat) : List Nat := (List.range m).map (oc Ls)
theorem ocs_succ (Ls : List ByteArray) (m : Nat) : ocs Ls (m + 1) = ocs Ls m ++ [oc Ls m] := by unfold ocs; rw [List.range_succ, List.map_append]; rfl
theorem ocs_len (Ls : List ByteArray) (m : Nat) : (ocs Ls m).length = m := by unfold ocs; rw [List.length_map, List.length_range]
theorem oc_le : ∀ (t : List ByteArray) (k : Nat), oc t k ≤ t.length
  | [], _ => Nat.le_refl _
  | l :: t, k => by have := oc_le t k; rw [oc, List.length_cons]; split <;> omega
theorem fold_spec : ∀ (t : List ByteArray) (A : List Nat), (fold1 t A).length = mxA A.length t ∧ ∀ j, (fold1 t A).getD j 0 = A.getD j 0 + oc t j
  | [], A => ⟨rfl, fun j => rfl⟩
  | l :: t, A => by
    obtain ⟨q1, q2⟩ := adl_spec l l.size 0 A (by omega) (by omega)
    obtain ⟨h1, h2⟩ := fold_spec t (adl l 0 l.size A)
    rw [fold1, mxA, h1, q1]
    refine ⟨?_, fun j => ?_⟩
    · congr 1
      split <;> omega
    · rw [h2 j, q2 j, oc]
      by_cases ho : onB l j = true
      · rw [if_pos ⟨Nat.zero_le _, ho⟩, if_pos ho]; omega
      · rw [if_neg (fun e => ho e.2), if_neg ho]; omega
theorem ext_getD {A D : List Nat} (h : A.length = D.length) (h2 : ∀ j, A.getD j 0 = D.getD j 0) : A = D := by
  apply List.ext_getElem h
  intro j h3 h4
  have := h2 j
  rwa [List.getD_eq_getElem?_getD, List.getD_eq_getElem?_getD, List.getElem?_eq_getElem h3, List.getElem?_eq_getElem h4] at this
theorem oc_big : ∀ (t : List ByteArray) (m j : Nat), mxA m t ≤ j → m ≤ j ∧ oc t j = 0
  | [], m, j, h => ⟨h, rfl⟩
  | l :: t, m, j, h => by
    rw [mxA] at h
    obtain ⟨h1, h2⟩ := oc_big t _ j h
    have h3 : m ≤ j ∧ l.size ≤ j := by split at h1 <;> omega
    refine ⟨h3.1, ?_⟩
    rw [oc, h2, on_big l j (by omega)]
    rfl
theorem fold_ocs (Ls : List ByteArray) : fold1 Ls [] = ocs Ls (mxA 0 Ls) := by
  obtain ⟨h1, h2⟩ := fold_spec Ls []
  refine ext_getD (by rw [h1, ocs_len]; rfl) fun j => ?_
  rw [h2 j]
  unfold ocs
  rw [List.getD_eq_getElem?_getD (l := (List.range (mxA 0 Ls)).map (oc Ls)), List.getElem?_map]
  by_cases hj : j < mxA 0 Ls
  · rw [List.getElem?_range hj]
    show 0 + _ = _
    rw [Nat.zero_add]
    rfl
  · rw [List.getElem?_eq_none (by rw [List.length_range]; omega), (oc_big Ls 0 j (by omega)).2]
    rfl
theorem mxA_le : ∀ (t : List ByteArray) (m b : Nat), m ≤ b → (∀ l ∈ t, l.size ≤ b) → mxA m t ≤ b
  | [], m, b, h, _ => h
  | l :: t, m, b, h, hz => by
    rw [mxA]
    have := hz l (List.mem_cons_self ..)
    exact mxA_le t _ b (by split <;> omega) (fun x hx => hz x (List.mem_cons_of_mem _ hx))
def okLns (Ls : List ByteArray) : Bool := decide (Ls.length ≤ 8) && Ls.all okLine
theorem oa_i (Ls : List ByteArray) (hL : Ls.length ≤ 100) (hz : ∀ l ∈ Ls, l.size ≤ 10000) : (okLns Ls = false → ev E0 25 [.lst 1 (Ls.map st)] [] = some (.tup [.v (.slice none 0 0), bl false], [])) ∧
    (okLns Ls = true → ev E0 25 [.lst 1 (Ls.map st)] [] = some (.tup [.sl 0 0 (ocs Ls (mxA 0 Ls)).length, bl true], [some (ib (ocs Ls (mxA 0 Ls)))])) := by
  obtain ⟨l1, l2⟩ := oaI1 Ls hL hz Ls 0 [] rfl (by simp) (fun j => by simp)
  rw [c0] at l1 l2
  rw [fold_ocs] at l1
  have hQ : (Ls.map st).length = Ls.length := List.length_map _
  have hfr := free_st Ls
  have hn := ns_len (ocs Ls (mxA 0 Ls))
  have hf := free_ns (ocs Ls (mxA 0 Ls))
  unfold okLns
  rw [e25]
  unfold runF ib at *
  rw [show ns [] = [] from rfl, List.length_nil] at l1 l2
  generalize ocs Ls (mxA 0 Ls) = F at *
  generalize ns F = N at *
  by_cases h8 : Ls.length ≤ 8
  · have h9 : ¬ (8 : Int) < (Ls.length : Int) := by omega
    have h9b : ¬ 8 < Ls.length := by omega
    rw [decide_eq_true h8, Bool.true_and]
    refine ⟨fun h => ?_, fun h => ?_⟩
    · obtain ⟨A', l2⟩ := l2 h
      generalize Ls.map st = Q at *
      simp -implicitDefEqProofs [L25, h9, h9b, l2, hQ, hfr]
    · have l1 := l1 h
      generalize Ls.map st = Q at *
      simp -implicitDefEqProofs [L25, h9, h9b, l1, hQ, hfr, hn, hf]
  · have h9 : (8 : Int) < (Ls.length : Int) := by omega
    have h9b : 8 < Ls.length := by omega
    rw [decide_eq_false h8, Bool.false_and]
    refine ⟨fun h => ?_, fun h => (by cases h)⟩
    generalize Ls.map st = Q at *
    simp -implicitDefEqProofs [L25, h9, h9b, hQ, hfr]
-- ---------------------------------------------------------------- the reference
theorem oaS0 (Ls : List ByteArray) (hL : Ls.length ≤ 100) (hz : ∀ l ∈ Ls, l.size ≤ 10000) : ∀ (t : List ByteArray) (i m : Nat), Ls.drop i = t → m ≤ 10000 →
    (t.all okLine = true → packX 0 [0, 2, 3, 4, 5] (loopW (bd E0 (ev E0) loopW 0 [0, 4, 5, 6] L26b0) ⟨[(0, .lst 1 (Ls.map st)), (4, .sl 0 0 0), (5, i64 m), (6, i64 i)], [some (ib [])]⟩) = some (.ext 0, ⟨[(0, .lst 1 (Ls.map st)), (4, .sl 0 0 0), (5, i64 (mxA m t : Nat))], [some (ib [])]⟩)) ∧
    (t.all okLine = false → ∃ m' : Int, packX 0 [0, 2, 3, 4, 5] (loopW (bd E0 (ev E0) loopW 0 [0, 4, 5, 6] L26b0) ⟨[(0, .lst 1 (Ls.map st)), (4, .sl 0 0 0), (5, i64 m), (6, i64 i)], [some (ib [])]⟩) = some (.ret, ⟨[(0, .lst 1 (Ls.map st)), (2, .sl 0 0 0), (3, bl false), (4, .sl 1 0 0), (5, i64 m')], [some (ib []), some (ib [])]⟩)) := by
  have hQ : (Ls.map st).length = Ls.length := List.length_map _
  have hfr := free_st Ls
  unfold ib
  rw [show ns [] = [] from rfl]
  intro t
  induction t with
  | nil =>
    intro i m h h1
    have hi := not_drop h
    have hii : ¬ (i : Int) < (Ls.length : Int) := by omega
    refine ⟨fun _ => ?_, fun h => (by cases h)⟩
    rw [mxA, loopW_eq]
    generalize Ls.map st = Q at *
    generalize loopW (bd E0 (ev E0) loopW 0 [0, 4, 5, 6] L26b0) = K
    simp -implicitDefEqProofs [bd, L26b0, hi, hii, hQ, hfr]
  | cons l t ih =>
    intro i m h h1
    obtain ⟨hi, hx, hd, hmem⟩ := at_drop h
    have hii : (i : Int) < (Ls.length : Int) := by omega
    have hlz := hz l hmem
    have hg1 : (Ls.map st)[i]? = some (st l) := by rw [List.getElem?_map, List.getElem?_eq_getElem hi, hx]; rfl
    have hg : ∀ h, (Ls.map st)[i]'h = st l := fun h => (List.getElem?_eq_some_iff.1 hg1).2
    have hw : IntKind.i64.wrap ((i : Int) + 1) = (i : Int) + 1 := wr64 (by omega) (by omega)
    have hline := isLine_s l (by omega)
    have hmost := most_s (m : Int) (l.size : Int)
    have hm : (if (l.size : Int) < (m : Int) then (m : Int) else (l.size : Int)) = ((if l.size < m then m else l.size : Nat) : Int) := by split <;> split <;> omega
    rw [hm] at hmost
    obtain ⟨ih1, ih2⟩ := ih (i + 1) (if l.size < m then m else l.size) hd (by split <;> omega)
    rw [cs1] at ih1 ih2
    rw [List.all_cons, loopW_eq, mxA]
    clear ih hm
    generalize (if l.size < m then m else l.size) = m2 at *
    generalize Ls.map st = Q at *
    cases ho : okLine l with
    | false =>
      rw [ho] at hline
      refine ⟨fun h => (by simp at h), fun _ => ⟨m, ?_⟩⟩
      generalize loopW (bd E0 (ev E0) loopW 0 [0, 4, 5, 6] L26b0) = K
      simp -implicitDefEqProofs [bd, L26b0, hi, hii, hQ, hfr, hg, hg1, hline]
    | true =>
      rw [ho] at hline
      rw [Bool.true_and]
      refine ⟨fun h => ?_, fun h => ?_⟩
      · have hh := ih1 h
        generalize loopW (bd E0 (ev E0) loopW 0 [0, 4, 5, 6] L26b0) = K at hh ⊢
        simpa -implicitDefEqProofs [bd, L26b0, hi, hii, hQ, hfr, hg, hg1, hline, hmost, hw] using hh
      · obtain ⟨m', hh⟩ := ih2 h
        refine ⟨m', ?_⟩
        generalize loopW (bd E0 (ev E0) loopW 0 [0, 4, 5, 6] L26b0) = K at hh ⊢
        simpa -implicitDefEqProofs [bd, L26b0, hi, hii, hQ, hfr, hg, hg1, hline, hmost, hw] using hh
theorem oaS1 (Ls : List ByteArray) (hL : Ls.length ≤ 100) (hz : ∀ l ∈ Ls, l.size ≤ 10000) (A : List Nat) (M k : Nat) (hk : k ≤ 10000) : ∀ (t : List ByteArray) (i c : Nat), Ls.drop i = t → c ≤ i →
    packX 0 [0, 4, 5, 7, 8] (loopW (bd E0 (ev E0) loopW 0 [0, 4, 5, 7, 8, 9] L26b1) ⟨[(0, .lst 1 (Ls.map st)), (4, .sl 0 0 A.length), (5, i64 M), (7, i64 k), (8, i64 c), (9, i64 i)], [some (ib A)]⟩) = some (.ext 4, ⟨[(0, .lst 1 (Ls.map st)), (4, .sl 0 0 A.length), (5, i64 M), (7, i64 k), (8, i64 (c + oc t k : Nat))], [some (ib A)]⟩) := by
  have hQ : (Ls.map st).length = Ls.length := List.length_map _
  have hfr := free_st Ls
  have hn := ns_len A
  have hf := free_ns A
  intro t
  induction t with
  | nil =>
    intro i c h h1
    have hi := not_drop h
    have hii : ¬ (i : Int) < (Ls.length : Int) := by omega
    rw [oc, Nat.add_zero, loopW_eq]
    unfold ib
    generalize ns A = N at *
    generalize Ls.map st = Q at *
    generalize loopW (bd E0 (ev E0) loopW 0 [0, 4, 5, 7, 8, 9] L26b1) = K
    simp -implicitDefEqProofs [bd, L26b1, hi, hii, hQ, hfr, hn, hf]
  | cons l t ih =>
    intro i c h h1
    obtain ⟨hi, hx, hd, hmem⟩ := at_drop h
    have hii : (i : Int) < (Ls.length : Int) := by omega
    have hlz := hz l hmem
    have hg1 : (Ls.map st)[i]? = some (st l) := by rw [List.getElem?_map, List.getElem?_eq_getElem hi, hx]; rfl
    have hg : ∀ h, (Ls.map st)[i]'h = st l := fun h => (List.getElem?_eq_some_iff.1 hg1).2
    have hw : IntKind.i64.wrap ((i : Int) + 1) = (i : Int) + 1 := wr64 (by omega) (by omega)
    have hwc : IntKind.i64.wrap ((c : Int) + 1) = (c : Int) + 1 := wr64 (by omega) (by omega)
    have ho := on_s l (by omega) k
    rw [oc, loopW_eq]
    cases hb : onB l k with
    | true =>
      rw [hb] at ho
      have hih := ih (i + 1) (c + 1) hd (by omega)
      rw [show c + 1 + oc t k = c + ((if true = true then 1 else 0) + oc t k) by rw [if_pos rfl]; omega] at hih
      rw [cs1, cs1] at hih
      clear ih
      unfold ib at *
      generalize c + ((if true = true then 1 else 0) + oc t k) = T at *
      generalize ns A = N at *
      generalize Ls.map st = Q at *
      generalize loopW (bd E0 (ev E0) loopW 0 [0, 4, 5, 7, 8, 9] L26b1) = K at hih ⊢
      simpa -implicitDefEqProofs [bd, L26b1, hi, hii, hQ, hfr, hn, hf, hg, hg1, ho, hw, hwc] using hih
    | false =>
      rw [hb] at ho
      have hih := ih (i + 1) c hd (by omega)
      rw [show c + oc t k = c + ((if false = true then 1 else 0) + oc t k) by rw [if_neg (by decide)]; omega] at hih
      rw [cs1] at hih
      clear ih
      unfold ib at *
      generalize c + ((if false = true then 1 else 0) + oc t k) = T at *
      generalize ns A = N at *
      generalize Ls.map st = Q at *
      generalize loopW (bd E0 (ev E0) loopW 0 [0, 4, 5, 7, 8, 9] L26b1) = K at hih ⊢
      simpa -implicitDefEqProofs [bd, L26b1, hi, hii, hQ, hfr, hn, hf, hg, hg1, ho, hw, hwc] using hih
theorem oaS2 (Ls : List ByteArray) (hL : Ls.length ≤ 100) (hz : ∀ l ∈ Ls, l.size ≤ 10000) (M : Nat) (hM : M ≤ 10000) : ∀ (r k : Nat), k + r = M →
    packX 0 [4] (loopW (bd E0 (ev E0) loopW 0 [0, 4, 5, 7] L26b2) ⟨[(0, .lst 1 (Ls.map st)), (4, .sl 0 0 k), (5, i64 M), (7, i64 k)], [some (ib (ocs Ls k))]⟩) = some (.ext 2, ⟨[(4, .sl 0 0 M)], [some (ib (ocs Ls M))]⟩) := by
  have hQ : (Ls.map st).length = Ls.length := List.length_map _
  have hfr := free_st Ls
  intro r
  induction r with
  | zero =>
    intro k h
    obtain rfl : k = M := by omega
    have hi : ¬ (k : Int) < (k : Int) := by omega
    have hn := ns_len (ocs Ls k)
    rw [ocs_len] at hn
    have hf := free_ns (ocs Ls k)
    rw [loopW_eq]
    unfold ib
    generalize ns (ocs Ls k) = N at *
    generalize Ls.map st = Q at *
    generalize loopW (bd E0 (ev E0) loopW 0 [0, 4, 5, 7] L26b2) = K
    unfold bd
    simp -implicitDefEqProofs [L26b2, hi, hQ, hfr, hn, hf]
  | succ r ih =>
    intro k h
    have hi : (k : Int) < (M : Int) := by omega
    have hi2 : k < M := by omega
    have hih := ih (k + 1) (by omega)
    have h1 := oaS1 Ls hL hz (ocs Ls k) M k (by omega) Ls 0 0 rfl (Nat.le_refl _)
    rw [c0, Nat.zero_add, ocs_len] at h1
    have hw : IntKind.i64.wrap ((k : Int) + 1) = (k : Int) + 1 := wr64 (by omega) (by omega)
    have hn := ns_len (ocs Ls k)
    rw [ocs_len] at hn
    have hf := free_ns (ocs Ls k)
    have hl1 : k + 1 ≤ 140737488355328 := by omega
    have hl2 : (k + 1) * 8 ≤ 140737488355328 := by omega
    have ht : List.take k (ns (ocs Ls k)) = ns (ocs Ls k) := List.take_of_length_le (by omega)
    unfold ib at *
    rw [ocs_succ, ns_app, cs1] at hih
    rw [loopW_eq]
    clear ih
    generalize oc Ls k = c at *
    generalize ns (ocs Ls M) = T at *
    generalize ns (ocs Ls k) = N at *
    generalize Ls.map st = Q at *
    generalize loopW (bd E0 (ev E0) loopW 0 [0, 4, 5, 7] L26b2) = K at hih ⊢
    unfold bd
    simpa -implicitDefEqProofs [L26b2, hi, hi2, hQ, hfr, hn, hf, h1, hw, hl1, hl2, ht] using hih
theorem oa_s (Ls : List ByteArray) (hL : Ls.length ≤ 100) (hz : ∀ l ∈ Ls, l.size ≤ 10000) : (okLns Ls = false → ev E0 26 [.lst 1 (Ls.map st)] [] = some (.tup [.sl 0 0 0, bl false], [some (ib [])])) ∧
    (okLns Ls = true → ev E0 26 [.lst 1 (Ls.map st)] [] = some (.tup [.sl 0 0 (ocs Ls (mxA 0 Ls)).length, bl true], [some (ib (ocs Ls (mxA 0 Ls)))])) := by
  obtain ⟨l1, l2⟩ := oaS0 Ls hL hz Ls 0 0 rfl (by omega)
  have hM := mxA_le Ls 0 10000 (by omega) hz
  have l3 := oaS2 Ls hL hz (mxA 0 Ls) hM (mxA 0 Ls) 0 (by omega)
  rw [show ocs Ls 0 = [] from rfl] at l3
  rw [c0] at l1 l2 l3
  have hQ : (Ls.map st).length = Ls.length := List.length_map _
  have hfr := free_st Ls
  have hn := ns_len (ocs Ls (mxA 0 Ls))
  have hf := free_ns (ocs Ls (mxA 0 Ls))
  rw [ocs_len] at hn ⊢
  unfold okLns
  rw [e26]
  unfold runF ib at *
  rw [show ns [] = [] from rfl] at *
  generalize ns (ocs Ls (mxA 0 Ls)) = N at *
  generalize mxA 0 Ls = M at *
  by_cases h8 : Ls.length ≤ 8
  · have h9 : ¬ (8 : Int) < (Ls.length : Int) := by omega
    have h9b : ¬ 8 < Ls.length := by omega
    rw [decide_eq_true h8, Bool.true_and]
    refine ⟨fun h => ?_, fun h => ?_⟩
    · obtain ⟨m', l2⟩ := l2 h
      generalize Ls.map st = Q at *
      simp -implicitDefEqProofs [L26, h9, h9b, l2, hQ, hfr]
    · have l1 := l1 h
      generalize Ls.map st = Q at *
      simp -implicitDefEqProofs [L26, h9, h9b, l1, l3, hQ, hfr, hn, hf]
  · have h9 : (8 : Int) < (Ls.length : Int) := by omega
    have h9b : 8 < Ls.length := by omega
    rw [decide_eq_false h8, Bool.false_and]
    refine ⟨fun h => ?_, fun h => (by cases h)⟩
    generalize Ls.map st = Q at *
    simp -implicitDefEqProofs [L26, h9, h9b, hQ, hfr]
end Go.Proofs.YtckfbfgfjlgmeaaGreatDoor.Ev
