/- Rows of numbers copied; lists of letters as natural numbers; places in vain. -/
import Derived.Test.YtkajcafnfdlgpaaDoorEvPartK
set_option linter.unusedVariables false
set_option linter.unusedSimpArgs false
namespace Go.Proofs.YtkajcafnfdlgpaaDoor.Ev
theorem asc_mem (ms : List ByteArray) : ∀ (l : List Int) (lo : Int), asc ms lo l = true → ∀ c ∈ l, okLetter ms c = true
  | [], _, _, c, h => by cases h
  | x :: t, lo, h, c, hc => by
    unfold asc at h
    rw [Bool.and_eq_true, Bool.and_eq_true] at h
    rcases List.mem_cons.1 hc with rfl | hc
    · exact h.1
    · exact asc_mem ms t x h.2.2 c hc
theorem asc_len (ms : List ByteArray) : ∀ (l : List Int) (lo : Int), asc ms lo l = true → -1 ≤ lo → lo < (ms.length : Int) → (l.length : Int) + lo < (ms.length : Int)
  | [], lo, _, h1, h2 => by simp; omega
  | x :: t, lo, h, h1, h2 => by
    unfold asc at h
    rw [Bool.and_eq_true, Bool.and_eq_true, decide_eq_true_eq] at h
    have hb := okLetter_bounds h.1
    have := asc_len ms t x h.2.2 (by omega) (by omega)
    rw [List.length_cons]
    omega
/-- A list of letters is one of natural numbers. -/
theorem okLetters_nat {ms : List ByteArray} {l : List Int} (h : okLetters ms l = true) : ∃ ln : List Nat, i64s l = i64n ln ∧ ln ≠ [] ∧ (∀ n ∈ ln, n < ms.length) ∧ ln.length = l.length ∧ ln.length ≤ ms.length := by
  unfold okLetters at h
  rw [Bool.and_eq_true, decide_eq_true_eq] at h
  obtain ⟨h1, h2⟩ := h
  have hl := asc_len ms l (-1) h1 (by omega) (by omega)
  have hm := asc_mem ms l (-1) h1
  refine ⟨l.map Int.toNat, ?_, ?_, ?_, by simp, by simp; omega⟩
  · unfold i64s i64n
    rw [List.map_map]
    refine List.map_congr_left fun c hc => ?_
    have := okLetter_bounds (hm c hc)
    show i64 c = i64 ((c.toNat : Nat) : Int)
    rw [Int.toNat_of_nonneg this.1]
  · intro e
    rw [List.map_eq_nil_iff] at e
    rw [e] at h2
    simp at h2
  · intro n hn
    obtain ⟨c, hc, rfl⟩ := List.mem_map.1 hn
    have := okLetter_bounds (hm c hc)
    omega
theorem asked_i (ms : List ByteArray) (hm : ms.length ≤ 140737488355328) (hs : ∀ x ∈ ms, x.size ≤ 140737488355328) (l : List Int) (hl : l.length ≤ 140737488355328) : ev E0 62 [.agg [.lst 1 (ms.map st)], .lst 1 (i64s l)] [] = some (bl (okTable ms && okLetters ms l), []) := by
  rw [e62]
  unfold runF
  have h1 := table_i ms hm hs
  have h2 := letters_i ms hm l hl
  cases ht : okTable ms <;> rw [ht] at h1 <;> simp -implicitDefEqProofs [L62, h1, h2]
-- ---------------------------------------------------------------- places in vain
def vainP (ms : List ByteArray) (l : List Nat) : Nat → Nat → List Int
  | 0, _ => []
  | k + 1, q => if vainB ms q l = true then (q : Int) :: vainP ms l k (q + 1) else vainP ms l k (q + 1)
theorem vainP_len (ms : List ByteArray) (l : List Nat) : ∀ (k q : Nat), (vainP ms l k q).length ≤ k
  | 0, q => by simp [vainP]
  | k + 1, q => by
    have := vainP_len ms l k (q + 1)
    unfold vainP
    split <;> simp <;> omega
theorem places_s (ms : List ByteArray) (l : List Nat) (hl : l.length ≤ 1073741824) (hv : ∀ n ∈ l, n < ms.length) (hne : l ≠ []) : ∀ (k q : Nat) (r : List AV), q + k = 5 → r.length ≤ q →
    packX 0 [6] (loopW (bd E0 (ev E0) loopW 0 [1, 2, 6, 7] L29b0) ⟨[(1, .lst 1 (i64n l)), (2, .ptr 0 0 0), (6, .sl 1 0 r.length), (7, i64 q)], [some ⟨26, 1, 0, false, [.agg [.lst 1 (ms.map st)]]⟩, some ⟨3, 1, 1, false, r⟩]⟩) = some (.ext 0, ⟨[(6, .sl 0 0 (r.length + (vainP ms l k q).length))], [some ⟨3, 1, 1, false, r ++ i64s (vainP ms l k q)⟩]⟩) := by
  intro k
  induction k with
  | zero =>
    intro q r h hr
    obtain rfl : q = 5 := by omega
    rw [loopW_eq]
    generalize loopW (bd E0 (ev E0) loopW 0 [1, 2, 6, 7] L29b0) = K
    simp -implicitDefEqProofs [bd, L29b0, vainP, i64s]
  | succ k ih =>
    intro q r h hr
    have hw : IntKind.i64.wrap ((q : Int) + 1) = (q : Int) + 1 := wr64 (by omega) (by omega)
    have hq : (q : Int) < 5 := by omega
    have hva := vain_s ms q l (by omega) hv hne
    cases hp : vainB ms q l with
    | true =>
      rw [hp] at hva
      have hih := ih (q + 1) (r ++ [i64 q]) (by omega) (by simp; omega)
      rw [cs1] at hih
      have h3 : (r.length + 1) * 8 ≤ 140737488355328 := by omega
      have h4 : r.length + 1 ≤ 140737488355328 := by omega
      have h5 : r.length + (vainP ms l (k + 1) q).length = (r ++ [i64 q]).length + (vainP ms l k (q + 1)).length := by simp [vainP, hp]; omega
      have h6 : r ++ i64s (vainP ms l (k + 1) q) = (r ++ [i64 q]) ++ i64s (vainP ms l k (q + 1)) := by simp [vainP, hp, i64s_cons]
      rw [h5, h6, loopW_eq]
      generalize loopW (bd E0 (ev E0) loopW 0 [1, 2, 6, 7] L29b0) = K at hih ⊢
      simpa -implicitDefEqProofs [bd, L29b0, hq, hw, hva, h3, h4] using hih
    | false =>
      rw [hp] at hva
      have hih := ih (q + 1) r (by omega) (by omega)
      rw [cs1] at hih
      have h5 : vainP ms l (k + 1) q = vainP ms l k (q + 1) := by simp [vainP, hp]
      rw [h5, loopW_eq]
      generalize loopW (bd E0 (ev E0) loopW 0 [1, 2, 6, 7] L29b0) = K at hih ⊢
      simpa -implicitDefEqProofs [bd, L29b0, hq, hw, hva] using hih
theorem places_i (ms : List ByteArray) (l : List Nat) (hl : l.length ≤ 1073741824) (hv : ∀ n ∈ l, n < ms.length) (hne : l ≠ []) : ∀ (k q : Nat) (r : List AV), q + k = 5 → r.length ≤ q →
    packX 0 [6] (loopW (bd E0 (ev E0) loopW 0 [1, 2, 6, 13] L28b0) ⟨[(1, .lst 1 (i64n l)), (2, .ptr 0 0 0), (6, .sl 1 0 r.length), (13, i64 q)], [some ⟨26, 1, 0, false, [.agg [.lst 1 (ms.map st)]]⟩, some ⟨3, 1, 1, false, r⟩]⟩) = some (.ext 0, ⟨[(6, .sl 0 0 (r.length + (vainP ms l k q).length))], [some ⟨3, 1, 1, false, r ++ i64s (vainP ms l k q)⟩]⟩) := by
  intro k
  induction k with
  | zero =>
    intro q r h hr
    obtain rfl : q = 5 := by omega
    rw [loopW_eq]
    generalize loopW (bd E0 (ev E0) loopW 0 [1, 2, 6, 13] L28b0) = K
    simp -implicitDefEqProofs [bd, L28b0, vainP, i64s]
  | succ k ih =>
    intro q r h hr
    have hw : IntKind.i64.wrap ((q : Int) + 1) = (q : Int) + 1 := wr64 (by omega) (by omega)
    have hq : (q : Int) < 5 := by omega
    obtain ⟨k0, t, rfl⟩ : ∃ k0 t, l = k0 :: t := by
      cases l with
      | nil => exact absurd rfl hne
      | cons k0 t => exact ⟨k0, t, rfl⟩
    have hva := parts_i ms q k0 t hl hv
    generalize k0 :: t = l at *
    cases hp : vainB ms q l with
    | true =>
      rw [hp] at hva
      have hih := ih (q + 1) (r ++ [i64 q]) (by omega) (by simp; omega)
      rw [cs1] at hih
      have h3 : (r.length + 1) * 8 ≤ 140737488355328 := by omega
      have h4 : r.length + 1 ≤ 140737488355328 := by omega
      have h5 : r.length + (vainP ms l (k + 1) q).length = (r ++ [i64 q]).length + (vainP ms l k (q + 1)).length := by simp [vainP, hp]; omega
      have h6 : r ++ i64s (vainP ms l (k + 1) q) = (r ++ [i64 q]) ++ i64s (vainP ms l k (q + 1)) := by simp [vainP, hp, i64s_cons]
      rw [h5, h6, loopW_eq]
      generalize loopW (bd E0 (ev E0) loopW 0 [1, 2, 6, 13] L28b0) = K at hih ⊢
      simpa -implicitDefEqProofs [bd, L28b0, hq, hw, hva, h3, h4] using hih
    | false =>
      rw [hp] at hva
      have hih := ih (q + 1) r (by omega) (by omega)
      rw [cs1] at hih
      have h5 : vainP ms l (k + 1) q = vainP ms l k (q + 1) := by simp [vainP, hp]
      rw [h5, loopW_eq]
      generalize loopW (bd E0 (ev E0) loopW 0 [1, 2, 6, 13] L28b0) = K at hih ⊢
      simpa -implicitDefEqProofs [bd, L28b0, hq, hw, hva] using hih
theorem vainPlaces_yes (ms : List ByteArray) (hm : ms.length ≤ 8796093022208) (hs : ∀ x ∈ ms, x.size ≤ 140737488355328) (l : List Int) (hl : l.length ≤ 1073741824) (h1 : okTable ms = true) (h2 : okLetters ms l = true) : ∃ r : List Int, r.length ≤ 5 ∧
    ev E0 29 [.agg [.lst 1 (ms.map st)], .lst 1 (i64s l)] [] = some (.tup [.sl 0 0 r.length, bl true], [some ⟨3, 1, 1, false, i64s r⟩]) ∧
    ev E0 28 [.agg [.lst 1 (ms.map st)], .lst 1 (i64s l)] [] = some (.tup [.sl 0 0 r.length, bl true], [some ⟨3, 1, 1, false, i64s r⟩]) := by
  obtain ⟨b1, b2⟩ := okTable_len h1
  have t1 := table_s ms (by omega) hs
  have t2 := letters_s ms b1 b2 l (by omega)
  have t3 := asked_i ms (by omega) hs l (by omega)
  rw [h1] at t1
  rw [h2] at t2
  rw [h1, h2] at t3
  obtain ⟨ln, e, hne, hv, hln, _⟩ := okLetters_nat h2
  rw [e] at t2 t3 ⊢
  have p1 := places_s ms ln (by omega) hv hne 5 0 [] rfl (by simp)
  have p2 := places_i ms ln (by omega) hv hne 5 0 [] rfl (by simp)
  rw [c0, List.length_nil, Nat.zero_add, List.nil_append] at p1 p2
  have hlen := vainP_len ms ln 5 0
  generalize vainP ms ln 5 0 = r at *
  refine ⟨r, hlen, ?_, ?_⟩
  · rw [e29]
    unfold runF
    simp -implicitDefEqProofs [L29, t1, t2, p1]
  · rw [e28]
    unfold runF
    simp -implicitDefEqProofs [L28, t3, p2]
theorem vainPlaces_no (ms : List ByteArray) (hm : ms.length ≤ 8796093022208) (hs : ∀ x ∈ ms, x.size ≤ 140737488355328) (l : List Int) (hl : l.length ≤ 1073741824) (h : (okTable ms && okLetters ms l) = false) :
    ev E0 29 [.agg [.lst 1 (ms.map st)], .lst 1 (i64s l)] [] = some (.tup [.sl 0 0 0, bl false], [some ⟨3, 1, 1, false, []⟩]) ∧
    ev E0 28 [.agg [.lst 1 (ms.map st)], .lst 1 (i64s l)] [] = some (.tup [.v (.slice none 0 0), bl false], []) := by
  have t1 := table_s ms (by omega) hs
  have t3 := asked_i ms (by omega) hs l (by omega)
  rw [h] at t3
  rw [e29, e28]
  unfold runF
  constructor
  · cases h1 : okTable ms with
    | false =>
      rw [h1] at t1
      simp -implicitDefEqProofs [L29, t1]
    | true =>
      obtain ⟨b1, b2⟩ := okTable_len h1
      have t2 := letters_s ms b1 b2 l (by omega)
      rw [h1, Bool.true_and] at h
      rw [h] at t2
      rw [h1] at t1
      simp -implicitDefEqProofs [L29, t1, t2]
  · simp -implicitDefEqProofs [L28, t3]
end Go.Proofs.YtkajcafnfdlgpaaDoor.Ev
