/- Letters behind marks, and how many marks are heard until a letter stands alone: the reference's functions and the program's, in the evaluator's words. -/
import Derived.Test.YtkajcafnfdlgpaaDoorEvTab
set_option linter.unusedVariables false
set_option linter.unusedSimpArgs false
namespace Go.Proofs.YtkajcafnfdlgpaaDoor.Ev
/-- Does a text begin with another? -/
def pre (m p : ByteArray) : Bool := decide (p.size ≤ m.size) && decide (m.extract 0 p.size = p)
def behindL (p : ByteArray) : List ByteArray → Nat → List Int
  | [], _ => []
  | m :: t, i => if pre m p = true then (i : Int) :: behindL p t (i + 1) else behindL p t (i + 1)
theorem behindL_len (p : ByteArray) : ∀ (t : List ByteArray) (i : Nat), (behindL p t i).length ≤ t.length
  | [], i => by simp [behindL]
  | m :: t, i => by
    have := behindL_len p t (i + 1)
    unfold behindL
    split <;> simp <;> omega
def i64s (l : List Int) : List AV := l.map i64
theorem i64s_len (l : List Int) : (i64s l).length = l.length := by simp [i64s]
@[simp] theorem free_ints (l : List Int) : okL (free 5) (i64s l) = true := free_i64 l
theorem i64s_cons (a : Int) (l : List Int) : i64s (a :: l) = i64 a :: i64s l := rfl
theorem behind_loop (ms : List ByteArray) (hm : ms.length ≤ 8796093022208) (p : ByteArray) : ∀ (t : List ByteArray) (i : Nat) (r : List AV), ms.drop i = t → r.length ≤ i →
    packX 0 [5] (loopW (bd E0 (ev E0) loopW 0 [1, 2, 5, 6] L53b0) ⟨[(1, st p), (2, .ptr 0 0 0), (5, .sl 1 0 r.length), (6, i64 i)], [some ⟨26, 1, 0, false, [.agg [.lst 1 (ms.map st)]]⟩, some ⟨3, 1, 1, false, r⟩]⟩) = some (.ext 0, ⟨[(5, .sl 0 0 (r.length + (behindL p t i).length))], [some ⟨3, 1, 1, false, r ++ i64s (behindL p t i)⟩]⟩) := by
  intro t
  induction t with
  | nil =>
    intro i r h hr
    have hi := not_drop h
    rw [loopW_eq]
    generalize loopW (bd E0 (ev E0) loopW 0 [1, 2, 5, 6] L53b0) = K
    simp -implicitDefEqProofs [bd, L53b0, hi, behindL, i64s]
  | cons c t ih =>
    intro i r h hr
    obtain ⟨hi, hx, hd, hmem⟩ := at_drop h
    have hw : IntKind.i64.wrap ((i : Int) + 1) = (i : Int) + 1 := wr64 (by omega) (by omega)
    by_cases hp : pre c p = true
    · have hih := ih (i + 1) (r ++ [i64 i]) hd (by simp; omega)
      rw [cs1] at hih
      have h2 : p.size ≤ c.size ∧ c.extract 0 p.size = p := by unfold pre at hp; simpa using hp
      have h3 : (r.length + 1) * 8 ≤ 140737488355328 := by omega
      have h4 : r.length + 1 ≤ 140737488355328 := by omega
      have h5 : r.length + (behindL p (c :: t) i).length = (r ++ [i64 i]).length + (behindL p t (i + 1)).length := by simp [behindL, hp]; omega
      have h6 : r ++ i64s (behindL p (c :: t) i) = (r ++ [i64 i]) ++ i64s (behindL p t (i + 1)) := by simp [behindL, hp, i64s_cons]
      rw [h5, h6, loopW_eq]
      generalize loopW (bd E0 (ev E0) loopW 0 [1, 2, 5, 6] L53b0) = K at hih ⊢
      simpa -implicitDefEqProofs [bd, L53b0, hi, hx, hw, h2.1, h2.2, h3, h4] using hih
    · have hih := ih (i + 1) r hd (by omega)
      rw [cs1] at hih
      have h5 : behindL p (c :: t) i = behindL p t (i + 1) := by simp [behindL, hp]
      rw [h5, loopW_eq]
      generalize loopW (bd E0 (ev E0) loopW 0 [1, 2, 5, 6] L53b0) = K at hih ⊢
      by_cases h1 : p.size ≤ c.size
      · have h2 : ¬ c.extract 0 p.size = p := fun e => hp (by unfold pre; simp [h1, e])
        simpa -implicitDefEqProofs [bd, L53b0, hi, hx, hw, h1, h2] using hih
      · simpa -implicitDefEqProofs [bd, L53b0, hi, hx, hw, h1] using hih
theorem behind_s (ms : List ByteArray) (hm : ms.length ≤ 8796093022208) (p : ByteArray) : ev E0 53 [.agg [.lst 1 (ms.map st)], st p] [] = some (.sl 0 0 (behindL p ms 0).length, [some ⟨3, 1, 1, false, i64s (behindL p ms 0)⟩]) := by
  rw [e53]
  unfold runF
  have hl := behind_loop ms hm p ms 0 [] rfl (by simp)
  rw [c0, List.nil_append, List.length_nil, Nat.zero_add] at hl
  simp -implicitDefEqProofs [L53, hl]
theorem pre_i (m p : ByteArray) : ev E0 104 [st m, st p] [] = some (bl (pre m p), []) := by
  rw [e104]
  unfold runF
  by_cases h1 : p.size ≤ m.size
  · simp -implicitDefEqProofs [L104, h1, pre]
  · simp -implicitDefEqProofs [L104, h1, pre]
theorem prefix_i (m p : ByteArray) : ev E0 88 [st m, st p] [] = some (bl (pre m p), []) := by
  rw [e88]
  unfold runF
  simp -implicitDefEqProofs [L88, pre_i]
theorem behindI_loop (ms : List ByteArray) (hm : ms.length ≤ 8796093022208) (p : ByteArray) : ∀ (t : List ByteArray) (i : Nat) (r : List AV), ms.drop i = t → r.length ≤ i →
    packX 0 [5] (loopW (bd E0 (ev E0) loopW 0 [1, 5, 10, 11, 12] L50b0) ⟨[(1, st p), (5, .sl 0 0 r.length), (10, .lst 1 (ms.map st)), (11, i64 ms.length), (12, i64 i)], [some ⟨3, 1, 1, false, r⟩]⟩) = some (.ext 0, ⟨[(5, .sl 0 0 (r.length + (behindL p t i).length))], [some ⟨3, 1, 1, false, r ++ i64s (behindL p t i)⟩]⟩) := by
  intro t
  induction t with
  | nil =>
    intro i r h hr
    have hi := not_drop h
    rw [loopW_eq]
    generalize loopW (bd E0 (ev E0) loopW 0 [1, 5, 10, 11, 12] L50b0) = K
    simp -implicitDefEqProofs [bd, L50b0, hi, behindL, i64s]
  | cons c t ih =>
    intro i r h hr
    obtain ⟨hi, hx, hd, hmem⟩ := at_drop h
    have hw : IntKind.i64.wrap ((i : Int) + 1) = (i : Int) + 1 := wr64 (by omega) (by omega)
    cases hp : pre c p with
    | true =>
      have hih := ih (i + 1) (r ++ [i64 i]) hd (by simp; omega)
      rw [cs1] at hih
      have h3 : (r.length + 1) * 8 ≤ 140737488355328 := by omega
      have h4 : r.length + 1 ≤ 140737488355328 := by omega
      have h5 : r.length + (behindL p (c :: t) i).length = (r ++ [i64 i]).length + (behindL p t (i + 1)).length := by simp [behindL, hp]; omega
      have h6 : r ++ i64s (behindL p (c :: t) i) = (r ++ [i64 i]) ++ i64s (behindL p t (i + 1)) := by simp [behindL, hp, i64s_cons]
      rw [h5, h6, loopW_eq]
      generalize loopW (bd E0 (ev E0) loopW 0 [1, 5, 10, 11, 12] L50b0) = K at hih ⊢
      simpa -implicitDefEqProofs [bd, L50b0, hi, hx, hw, prefix_i, hp, h3, h4] using hih
    | false =>
      have hih := ih (i + 1) r hd (by omega)
      rw [cs1] at hih
      have h5 : behindL p (c :: t) i = behindL p t (i + 1) := by simp [behindL, hp]
      rw [h5, loopW_eq]
      generalize loopW (bd E0 (ev E0) loopW 0 [1, 5, 10, 11, 12] L50b0) = K at hih ⊢
      simpa -implicitDefEqProofs [bd, L50b0, hi, hx, hw, prefix_i, hp] using hih
theorem behind_i (ms : List ByteArray) (hm : ms.length ≤ 8796093022208) (p : ByteArray) : ev E0 50 [.agg [.lst 1 (ms.map st)], st p] [] = some (.sl 0 0 (behindL p ms 0).length, [some ⟨3, 1, 1, false, i64s (behindL p ms 0)⟩]) := by
  rw [e50]
  unfold runF
  have hl := behindI_loop ms hm p ms 0 [] rfl (by simp)
  rw [c0, List.nil_append, List.length_nil, Nat.zero_add] at hl
  simp -implicitDefEqProofs [L50, hl]
-- ---------------------------------------------------------------- heard until
def cnt (ms : List ByteArray) (m : ByteArray) (n : Nat) : Nat := (behindL (m.extract 0 n) ms 0).length
def heardN (ms : List ByteArray) (m : ByteArray) : Nat → Nat → Nat
  | 0, n => n
  | k + 1, n => if cnt ms m n = 1 then n else heardN ms m k (n + 1)
theorem heardN_le (ms : List ByteArray) (m : ByteArray) : ∀ k n, heardN ms m k n ≤ n + k
  | 0, n => by simp [heardN]
  | k + 1, n => by
    have := heardN_le ms m k (n + 1)
    unfold heardN
    split <;> omega
theorem heard_loop (ms : List ByteArray) (hm : ms.length ≤ 8796093022208) (m : ByteArray) (hs : m.size ≤ 140737488355328) : ∀ (k n : Nat), k + n = m.size + 1 →
    packX 0 [4, 5] (loopW (bd E0 (ev E0) loopW 0 [2, 5, 6] L44b0) ⟨[(2, .ptr 0 0 0), (5, st m), (6, i64 n)], [some ⟨26, 1, 0, false, [.agg [.lst 1 (ms.map st)]]⟩]⟩) = some (.ret, ⟨[(4, i64 (heardN ms m k n)), (5, st m)], []⟩) ∨
    (packX 0 [4, 5] (loopW (bd E0 (ev E0) loopW 0 [2, 5, 6] L44b0) ⟨[(2, .ptr 0 0 0), (5, st m), (6, i64 n)], [some ⟨26, 1, 0, false, [.agg [.lst 1 (ms.map st)]]⟩]⟩) = some (.ext 0, ⟨[(5, st m)], []⟩) ∧ heardN ms m k n = m.size + 1) := by
  intro k
  induction k with
  | zero =>
    intro n h
    have hn : ¬ (n : Int) ≤ (m.size : Int) := by omega
    have hn2 : ¬ n ≤ m.size := by omega
    rw [loopW_eq]
    generalize loopW (bd E0 (ev E0) loopW 0 [2, 5, 6] L44b0) = K
    simp -implicitDefEqProofs [bd, L44b0, hn, hn2, heardN]
    omega
  | succ k ih =>
    intro n h
    have hn : n ≤ m.size := by omega
    have hw : IntKind.i64.wrap ((n : Int) + 1) = (n : Int) + 1 := wr64 (by omega) (by omega)
    have hih := ih (n + 1) (by omega)
    rw [cs1] at hih
    rw [loopW_eq]
    generalize loopW (bd E0 (ev E0) loopW 0 [2, 5, 6] L44b0) = K at hih ⊢
    by_cases hc : cnt ms m n = 1
    · have hc2 := hc
      unfold cnt at hc2
      simp -implicitDefEqProofs [bd, L44b0, hn, hw, heardN, hc, hc2, behind_s ms hm, i64s_len]
    · have hc2 := hc
      unfold cnt at hc2
      have hc3 : ¬ ((behindL (m.extract 0 n) ms 0).length : Int) = 1 := by omega
      simpa -implicitDefEqProofs [bd, L44b0, hn, hw, heardN, hc, hc2, hc3, behind_s ms hm, i64s_len] using hih
theorem heard_s (ms : List ByteArray) (hm : ms.length ≤ 8796093022208) (i : Nat) (hi : i < ms.length) (m : ByteArray) (hx : ms[i] = m) (hs : m.size ≤ 140737488355328) : ev E0 44 [.agg [.lst 1 (ms.map st)], i64 i] [] = some (i64 (heardN ms m (m.size + 1) 0), []) := by
  rw [e44]
  unfold runF
  have hl := heard_loop ms hm m hs (m.size + 1) 0 rfl
  rw [c0] at hl
  have hw : IntKind.i64.wrap ((m.size : Int) + 1) = (m.size : Int) + 1 := wr64 (by omega) (by omega)
  rcases hl with e | ⟨e, h⟩
  · simp -implicitDefEqProofs [L44, hi, hx, e]
  · simp -implicitDefEqProofs [L44, hi, hx, e, hw, h]
theorem pre_self (m : ByteArray) (n : Nat) (hn : n ≤ m.size) : pre m (m.extract 0 n) = true := by
  have h1 : (m.extract 0 n).size = n := by simp; omega
  unfold pre
  rw [h1]
  simp [hn]
theorem behind_pos (p : ByteArray) : ∀ (t : List ByteArray) (i : Nat) (m : ByteArray), m ∈ t → pre m p = true → 1 ≤ (behindL p t i).length
  | [], i, m, h, _ => by simp at h
  | c :: t, i, m, h, hp => by
    unfold behindL
    split
    · simp
    · rename_i hc
      rcases List.mem_cons.1 h with rfl | h
      · exact absurd hp hc
      · exact behind_pos p t (i + 1) m h hp
theorem heardI_loop (ms : List ByteArray) (hm : ms.length ≤ 8796093022208) (m : ByteArray) (hmem : m ∈ ms) (hs : m.size ≤ 140737488355328) : ∀ (k n : Nat), k + n = m.size + 1 →
    packX 0 [6] (loopW (bd E0 (ev E0) loopW 0 [2, 5, 6] L42b0) ⟨[(2, .ptr 0 0 0), (5, st m), (6, i64 n)], [some ⟨26, 1, 0, false, [.agg [.lst 1 (ms.map st)]]⟩]⟩) = some (.ext 0, ⟨[(6, i64 (heardN ms m k n))], []⟩) := by
  intro k
  induction k with
  | zero =>
    intro n h
    have hn : ¬ (n : Int) ≤ (m.size : Int) := by omega
    have hn2 : ¬ n ≤ m.size := by omega
    rw [loopW_eq]
    generalize loopW (bd E0 (ev E0) loopW 0 [2, 5, 6] L42b0) = K
    simp -implicitDefEqProofs [bd, L42b0, hn, hn2, heardN]
  | succ k ih =>
    intro n h
    have hn : n ≤ m.size := by omega
    have hw : IntKind.i64.wrap ((n : Int) + 1) = (n : Int) + 1 := wr64 (by omega) (by omega)
    have hih := ih (n + 1) (by omega)
    have hp := behind_pos (m.extract 0 n) ms 0 m hmem (pre_self m n hn)
    rw [cs1] at hih
    rw [loopW_eq]
    generalize loopW (bd E0 (ev E0) loopW 0 [2, 5, 6] L42b0) = K at hih ⊢
    by_cases hc : cnt ms m n = 1
    · have hc2 := hc
      unfold cnt at hc2
      simp -implicitDefEqProofs [bd, L42b0, hn, hw, heardN, hc, hc2, behind_i ms hm, i64s_len]
    · have hc2 := hc
      unfold cnt at hc2
      have hc3 : (1 : Int) < ((behindL (m.extract 0 n) ms 0).length : Int) := by omega
      simpa -implicitDefEqProofs [bd, L42b0, hn, hw, heardN, hc, hc2, hc3, behind_i ms hm, i64s_len] using hih
theorem heard_i (ms : List ByteArray) (hm : ms.length ≤ 8796093022208) (i : Nat) (hi : i < ms.length) (m : ByteArray) (hx : ms[i] = m) (hs : m.size ≤ 140737488355328) : ev E0 42 [.agg [.lst 1 (ms.map st)], i64 i] [] = some (i64 (heardN ms m (m.size + 1) 0), []) := by
  rw [e42]
  unfold runF
  have hmem : m ∈ ms := by rw [← hx]; exact List.getElem_mem hi
  have hl := heardI_loop ms hm m hmem hs (m.size + 1) 0 rfl
  rw [c0] at hl
  simp -implicitDefEqProofs [L42, hi, hx, hl]
/-- What both give. -/
theorem heardUntil (ms : List ByteArray) (hm : ms.length ≤ 8796093022208) (hs : ∀ x ∈ ms, x.size ≤ 140737488355328) (k : Int) : ∃ v ok, ev E0 8 [.agg [.lst 1 (ms.map st)], i64 k] [] = some (.tup [i64 v, bl ok], []) ∧ ev E0 7 [.agg [.lst 1 (ms.map st)], i64 k] [] = some (.tup [i64 v, bl ok], []) := by
  rw [e8, e7]
  unfold runF
  have h1 := letter_s ms (by omega) hs k
  have h2 := table_i ms (by omega) hs
  have h3 := letter_i ms (by omega) k
  cases ht : okTable ms with
  | false =>
    rw [ht] at h1 h2
    refine ⟨0, false, ?_, ?_⟩
    · simp -implicitDefEqProofs [L8, h1]
    · simp -implicitDefEqProofs [L7, h2]
  | true =>
    cases hk : okLetter ms k with
    | false =>
      rw [ht, hk] at h1
      rw [ht] at h2
      rw [hk] at h3
      refine ⟨0, false, ?_, ?_⟩
      · simp -implicitDefEqProofs [L8, h1]
      · simp -implicitDefEqProofs [L7, h2, h3]
    | true =>
      rw [ht, hk] at h1
      rw [ht] at h2
      rw [hk] at h3
      obtain ⟨b1, b2⟩ := okLetter_bounds hk
      obtain ⟨i, rfl⟩ : ∃ i : Nat, k = i := ⟨k.toNat, by omega⟩
      have hi : i < ms.length := by omega
      have hsi := hs _ (List.getElem_mem hi)
      refine ⟨heardN ms ms[i] (ms[i].size + 1) 0, true, ?_, ?_⟩
      · simp -implicitDefEqProofs [L8, h1, heard_s ms hm i hi _ rfl hsi]
      · simp -implicitDefEqProofs [L7, h2, h3, heard_i ms hm i hi _ rfl hsi]
end Go.Proofs.YtkajcafnfdlgpaaDoor.Ev
