/- Traces: whether a list is one, short lengths filled and dropped, traces turned back, joined and stretched; the reference's functions and the program's. -/
import Derived.Test.YtkdfgjijmnaljaaEvExact
import Derived.Test.YtkdfgjijmnaljaaEvKy
import Derived.Test.YtkdfgjijmnaljaaEvBD
set_option linter.unusedVariables false
set_option linter.unusedSimpArgs false
namespace Go.Proofs.Ytkdfgjijmnaljaa.Ev
open Ky
def i64s (l : List Int) : List AV := l.map i64
theorem i64s_len (l : List Int) : (i64s l).length = l.length := by simp [i64s]
/-- A row of numbers just made. -/
def ri (l : List Int) : AV × Hp := (.sl 0 0 l.length, [some ⟨3, 1, 1, false, i64s l⟩])
def okLen (n : Int) : Bool := decide (1 ≤ n) && decide (n ≤ 999)
def okTr (l : List Int) : Bool := l.all okLen && (decide (l.length % 2 = 1) && decide (l.length ≤ 143))
theorem okLen_b {n : Int} (h : okLen n = true) : 1 ≤ n ∧ n ≤ 999 := by
  unfold okLen at h
  rwa [Bool.and_eq_true, decide_eq_true_eq, decide_eq_true_eq] at h
theorem okTr_b {l : List Int} (h : okTr l = true) : (∀ x ∈ l, 1 ≤ x ∧ x ≤ 999) ∧ l.length % 2 = 1 ∧ l.length ≤ 143 := by
  unfold okTr at h
  rw [Bool.and_eq_true, Bool.and_eq_true, decide_eq_true_eq, decide_eq_true_eq] at h
  exact ⟨fun x hx => okLen_b (List.all_eq_true.1 h.1 x hx), h.2⟩
theorem tmod2 (n : Nat) : Int.tmod (n : Int) 2 = ((n % 2 : Nat) : Int) := rfl
theorem trS_loop (l : List Int) (hl : l.length ≤ 140737488355328) : ∀ (t : List Int) (i : Nat), l.drop i = t →
    (∃ r, packX 0 [0, 2] (loopW (bd E0 (ev E0) loopW 0 [0, 3] L26b0) ⟨[(0, .lst 1 (i64s l)), (3, i64 i)], []⟩) = some (.ret, ⟨[(0, .lst 1 (i64s l)), (2, bl false)], r⟩) ∧ r = [] ∧ t.all okLen = false) ∨
    (packX 0 [0, 2] (loopW (bd E0 (ev E0) loopW 0 [0, 3] L26b0) ⟨[(0, .lst 1 (i64s l)), (3, i64 i)], []⟩) = some (.ext 0, ⟨[(0, .lst 1 (i64s l))], []⟩) ∧ (t.all okLen = true ∨ 143 < l.length)) := by
  intro t
  induction t with
  | nil =>
    intro i h
    have hi := not_drop h
    have hi2 : ¬ (i : Int) < (l.length : Int) := by omega
    rw [loopW_eq]
    generalize loopW (bd E0 (ev E0) loopW 0 [0, 3] L26b0) = K
    right
    refine ⟨?_, .inl rfl⟩
    simp -implicitDefEqProofs [bd, L26b0, i64s, hi, hi2]
  | cons c t ih =>
    intro i h
    obtain ⟨hi, hx, hd, hmem⟩ := at_drop h
    have hih := ih (i + 1) hd
    rw [cs1] at hih
    have hi2 : (i : Int) < (l.length : Int) := by omega
    have hw : IntKind.i64.wrap ((i : Int) + 1) = (i : Int) + 1 := wr64 (by omega) (by omega)
    have hin := in_s c 1 999
    rw [loopW_eq, List.all_cons]
    generalize loopW (bd E0 (ev E0) loopW 0 [0, 3] L26b0) = K at hih ⊢
    by_cases h143 : (i : Int) ≤ 143
    · change ev E0 _ _ _ = some (bl (okLen c), []) at hin
      cases hok : okLen c with
      | false =>
        rw [hok] at hin
        left
        refine ⟨[], ?_, rfl, rfl⟩
        simp -implicitDefEqProofs [bd, L26b0, i64s, hi, hi2, hx, h143, hin]
      | true =>
        rw [hok] at hin
        simpa -implicitDefEqProofs [bd, L26b0, i64s, hi, hi2, hx, h143, hin, hw] using hih
    · right
      refine ⟨?_, .inr (by omega)⟩
      simp -implicitDefEqProofs [bd, L26b0, i64s, hi, hi2, hx, h143]
theorem trace_s (l : List Int) (hl : l.length ≤ 140737488355328) : ev E0 26 [.lst 1 (i64s l)] [] = some (bl (okTr l), []) := by
  have h := trS_loop l hl l 0 rfl
  rw [c0] at h
  have ht := tmod2 l.length
  rw [e26]
  unfold runF okTr
  rcases h with ⟨r, e, rfl, h⟩ | ⟨e, h⟩
  · rw [h]
    simp -implicitDefEqProofs [L26, e]
  · by_cases h2 : l.length % 2 = 1
    · have h2' : ((l.length % 2 : Nat) : Int) = 1 := by omega
      by_cases h3 : l.length ≤ 143
      · have h3' : (l.length : Int) ≤ 143 := by omega
        have hall : l.all okLen = true := by rcases h with h | h; exact h; omega
        rw [hall]
        simp -implicitDefEqProofs [-Int.natCast_emod, L26, e, i64s_len, ht, h2, h2', h3, h3']
      · have h3' : ¬ (l.length : Int) ≤ 143 := by omega
        simp -implicitDefEqProofs [-Int.natCast_emod, L26, e, i64s_len, ht, h2, h2', h3, h3']
    · have h2' : ¬ ((l.length % 2 : Nat) : Int) = 1 := by omega
      simp -implicitDefEqProofs [-Int.natCast_emod, L26, e, i64s_len, ht, h2, h2']
theorem trNo (n : Int) : ev E0 42 [i64 n] [] = some (bl (!okLen n), []) := by
  have h := in_i n 1 999
  change ev E0 _ _ _ = some (bl (okLen n), []) at h
  rw [e42]
  unfold runF
  simp -implicitDefEqProofs [L42, h]
theorem index_loopI (l : List Int) (hl : l.length ≤ 140737488355328) : ∀ (t : List Int) (i : Nat), l.drop i = t →
    (t.all okLen = false → ∃ k : Nat, packX 0 [4] (loopW (bd E0 (ev E0) loopW 0 [0, 1, 7, 8] L54b0) ⟨[(0, .lst 1 (i64s l)), (1, .fn (.func 42) [] []), (7, i64 l.length), (8, i64 i)], []⟩) = some (.ret, ⟨[(4, i64 k)], []⟩)) ∧
    (t.all okLen = true → packX 0 [4] (loopW (bd E0 (ev E0) loopW 0 [0, 1, 7, 8] L54b0) ⟨[(0, .lst 1 (i64s l)), (1, .fn (.func 42) [] []), (7, i64 l.length), (8, i64 i)], []⟩) = some (.ext 0, ⟨[], []⟩)) := by
  intro t
  induction t with
  | nil =>
    intro i h
    have hi := not_drop h
    have hi2 : ¬ (i : Int) < (l.length : Int) := by omega
    rw [loopW_eq]
    generalize loopW (bd E0 (ev E0) loopW 0 [0, 1, 7, 8] L54b0) = K
    refine ⟨fun h => (by simp at h), fun _ => ?_⟩
    simp -implicitDefEqProofs [bd, L54b0, hi, hi2]
  | cons c t ih =>
    intro i h
    obtain ⟨hi, hx, hd, hmem⟩ := at_drop h
    have hi2 : (i : Int) < (l.length : Int) := by omega
    have hw : IntKind.i64.wrap ((i : Int) + 1) = (i : Int) + 1 := wr64 (by omega) (by omega)
    obtain ⟨ih1, ih2⟩ := ih (i + 1) hd
    have hj := trNo c
    rw [cs1] at ih1 ih2
    rw [loopW_eq, List.all_cons]
    generalize loopW (bd E0 (ev E0) loopW 0 [0, 1, 7, 8] L54b0) = K at ih1 ih2 ⊢
    cases ho : okLen c with
    | false =>
      rw [ho] at hj
      refine ⟨fun _ => ⟨i, ?_⟩, fun h => (by simp at h)⟩
      simp -implicitDefEqProofs [bd, L54b0, i64s, hi, hi2, hx, hj]
    | true =>
      rw [ho] at hj
      refine ⟨fun h => ?_, fun h => ?_⟩
      · obtain ⟨k, hk⟩ := ih1 (by simpa using h)
        refine ⟨k, ?_⟩
        simpa -implicitDefEqProofs [bd, L54b0, i64s, hi, hi2, hx, hj, hw] using hk
      · simpa -implicitDefEqProofs [bd, L54b0, i64s, hi, hi2, hx, hj, hw] using ih2 (by simpa using h)
theorem contains_tr (l : List Int) (hl : l.length ≤ 140737488355328) : ev E0 41 [.lst 1 (i64s l), .fn (.func 42) [] []] [] = some (bl (!l.all okLen), []) := by
  have hix : (l.all okLen = false → ∃ k : Nat, ev E0 54 [.lst 1 (i64s l), .fn (.func 42) [] []] [] = some (i64 k, [])) ∧ (l.all okLen = true → ev E0 54 [.lst 1 (i64s l), .fn (.func 42) [] []] [] = some (i64 (-1), [])) := by
    obtain ⟨k1, k2⟩ := index_loopI l hl l 0 rfl
    rw [c0] at k1 k2
    rw [e54]
    unfold runF
    refine ⟨fun h => ?_, fun h => ?_⟩
    · obtain ⟨k, hk⟩ := k1 h
      exact ⟨k, by simp -implicitDefEqProofs [L54, i64s_len, hk]⟩
    · simp -implicitDefEqProofs [L54, i64s_len, k2 h]
  rw [e41]
  unfold runF
  cases ha : l.all okLen with
  | false =>
    obtain ⟨k, hk⟩ := hix.1 ha
    have h0 : (0 : Int) ≤ (k : Int) := by omega
    simp -implicitDefEqProofs [L41, hk, h0]
  | true => simp -implicitDefEqProofs [L41, hix.2 ha]
theorem trace_i (l : List Int) (hl : l.length ≤ 140737488355328) : ev E0 23 [.lst 1 (i64s l)] [] = some (bl (okTr l), []) := by
  have hc := contains_tr l hl
  have ht := tmod2 l.length
  rw [e23]
  unfold runF okTr
  by_cases h2 : l.length % 2 = 1
  · have h2' : ((l.length % 2 : Nat) : Int) = 1 := by omega
    by_cases h3 : l.length ≤ 143
    · have h3' : (l.length : Int) ≤ 143 := by omega
      simp -implicitDefEqProofs [-Int.natCast_emod, L23, hc, i64s_len, ht, h2, h2', h3, h3']
    · have h3' : ¬ (l.length : Int) ≤ 143 := by omega
      simp -implicitDefEqProofs [-Int.natCast_emod, L23, i64s_len, ht, h2, h2', h3, h3']
  · have h2' : ¬ ((l.length % 2 : Nat) : Int) = 1 := by omega
    simp -implicitDefEqProofs [-Int.natCast_emod, L23, i64s_len, ht, h2, h2']
/-- What a list made is given back as. -/
def mdS (l : List Int) : AV × Hp := if okTr l = true then (.tup [.lst 1 (i64s l), bl true], []) else (.tup [.sl 0 0 0, bl false], [some ⟨3, 1, 1, false, []⟩])
def mdI (l : List Int) : AV × Hp := if okTr l = true then (.tup [.lst 1 (i64s l), bl true], []) else (.tup [.v (.slice none 0 0), bl false], [])
theorem made_s (l : List Int) (hl : l.length ≤ 140737488355328) : ev E0 28 [.lst 1 (i64s l)] [] = some (mdS l) := by
  have h := trace_s l hl
  rw [e28]
  unfold runF mdS
  cases ho : okTr l with
  | false => rw [ho] at h; simp -implicitDefEqProofs [L28, h]
  | true => rw [ho] at h; simp -implicitDefEqProofs [L28, h]
theorem made_i (l : List Int) (hl : l.length ≤ 140737488355328) : ev E0 25 [.lst 1 (i64s l)] [] = some (mdI l) := by
  have h := trace_i l hl
  rw [e25]
  unfold runF mdI
  cases ho : okTr l with
  | false => rw [ho] at h; simp -implicitDefEqProofs [L25, h]
  | true => rw [ho] at h; simp -implicitDefEqProofs [L25, h]
end Go.Proofs.Ytkdfgjijmnaljaa.Ev
