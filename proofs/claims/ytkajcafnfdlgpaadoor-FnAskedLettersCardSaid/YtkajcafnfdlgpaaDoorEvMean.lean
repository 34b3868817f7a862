/- Weights, and means of numbers with them: the reference's function and the program's. -/
import Derived.Test.YtkajcafnfdlgpaaDoorEvAsked
set_option linter.unusedVariables false
set_option linter.unusedSimpArgs false
namespace Go.Proofs.YtkajcafnfdlgpaaDoor.Ev
def okw (w : Int) : Bool := decide (0 ≤ w) && decide (w ≤ 99)
def okW (l : List Int) : Bool := (decide (1 ≤ (l.length : Int)) && decide ((l.length : Int) ≤ 10)) && l.all okw
theorem weights_loop (l : List Int) (hl : l.length ≤ 140737488355328) : ∀ (t : List Int) (i : Nat), l.drop i = t →
    (packX 0 [0, 2] (loopW (bd E0 (ev E0) loopW 0 [0, 3] L92b0) ⟨[(0, .lst 1 (i64s l)), (3, i64 i)], []⟩) = some (.ret, ⟨[(0, .lst 1 (i64s l)), (2, bl false)], []⟩) ∧ t.all okw = false) ∨
    (packX 0 [0, 2] (loopW (bd E0 (ev E0) loopW 0 [0, 3] L92b0) ⟨[(0, .lst 1 (i64s l)), (3, i64 i)], []⟩) = some (.ext 0, ⟨[(0, .lst 1 (i64s l))], []⟩) ∧ (t.all okw = true ∨ 10 < l.length)) := by
  intro t
  induction t with
  | nil =>
    intro i h
    have hi := not_drop h
    rw [loopW_eq]
    generalize loopW (bd E0 (ev E0) loopW 0 [0, 3] L92b0) = K
    simp -implicitDefEqProofs [bd, L92b0, hi, i64s]
  | cons x t ih =>
    intro i h
    obtain ⟨hi, hx, hd, hmem⟩ := at_drop h
    have hih := ih (i + 1) hd
    have hw : IntKind.i64.wrap ((i : Int) + 1) = (i : Int) + 1 := wr64 (by omega) (by omega)
    have hin := in_s x 0 99
    have hok : (decide ((0 : Int) ≤ x) && decide (x ≤ 99)) = okw x := rfl
    rw [hok] at hin
    rw [cs1] at hih
    rw [loopW_eq]
    generalize loopW (bd E0 (ev E0) loopW 0 [0, 3] L92b0) = K at hih ⊢
    by_cases hup : i ≤ 10
    · have hup2 : (i : Int) ≤ 10 := by omega
      cases h1 : okw x with
      | false =>
        rw [h1] at hin
        simp -implicitDefEqProofs [bd, L92b0, i64s, hi, hx, hup, hup2, hin, h1]
      | true =>
        rw [h1] at hin
        simpa -implicitDefEqProofs [bd, L92b0, i64s, hi, hx, hw, hup, hup2, hin, h1] using hih
    · have hup2 : ¬ (i : Int) ≤ 10 := by omega
      have h10 : 10 < l.length := by omega
      simp -implicitDefEqProofs [bd, L92b0, i64s, hi, hx, hup, hup2, h10]
theorem weights_s (l : List Int) (hl : l.length ≤ 140737488355328) : ev E0 92 [.lst 1 (i64s l)] [] = some (bl (okW l), []) := by
  rw [e92]
  unfold runF
  have hlp := weights_loop l hl l 0 rfl
  rw [c0] at hlp
  rcases hlp with ⟨e, h⟩ | ⟨e, h⟩
  · simp -implicitDefEqProofs [L92, e, okW, h]
  · have h2 : okW l = (decide (1 ≤ (l.length : Int)) && decide ((l.length : Int) ≤ 10)) := by
      unfold okW
      rcases h with h | h
      · rw [h, Bool.and_true]
      · have : ¬ (l.length : Int) ≤ 10 := by omega
        simp [this]
    rw [h2]
    have hin := in_s (l.length : Int) 1 10
    simp -implicitDefEqProofs [L92, e, i64s_len, hin]
theorem w1_i (w : Int) : ev E0 113 [i64 w] [] = some (bl (!okw w), []) := by
  rw [e113]
  unfold runF
  have hin := in_i w 0 99
  have hok : (decide ((0 : Int) ≤ w) && decide (w ≤ 99)) = okw w := rfl
  rw [hok] at hin
  simp -implicitDefEqProofs [L113, hin]
theorem windex_loop (l : List Int) (hl : l.length ≤ 140737488355328) : ∀ (t : List Int) (i : Nat), l.drop i = t →
    (∃ r : Nat, packX 0 [4] (loopW (bd E0 (ev E0) loopW 0 [0, 1, 7, 8] L117b0) ⟨[(0, .lst 1 (i64s l)), (1, .fn (.func 113) [] []), (7, i64 l.length), (8, i64 i)], []⟩) = some (.ret, ⟨[(4, i64 r)], []⟩) ∧ t.all okw = false) ∨
    (packX 0 [4] (loopW (bd E0 (ev E0) loopW 0 [0, 1, 7, 8] L117b0) ⟨[(0, .lst 1 (i64s l)), (1, .fn (.func 113) [] []), (7, i64 l.length), (8, i64 i)], []⟩) = some (.ext 0, ⟨[], []⟩) ∧ t.all okw = true) := by
  intro t
  induction t with
  | nil =>
    intro i h
    have hi := not_drop h
    rw [loopW_eq]
    generalize loopW (bd E0 (ev E0) loopW 0 [0, 1, 7, 8] L117b0) = K
    simp -implicitDefEqProofs [bd, L117b0, hi, i64s]
  | cons x t ih =>
    intro i h
    obtain ⟨hi, hx, hd, hmem⟩ := at_drop h
    have hih := ih (i + 1) hd
    have hw : IntKind.i64.wrap ((i : Int) + 1) = (i : Int) + 1 := wr64 (by omega) (by omega)
    have hin := w1_i x
    rw [cs1] at hih
    rw [loopW_eq]
    generalize loopW (bd E0 (ev E0) loopW 0 [0, 1, 7, 8] L117b0) = K at hih ⊢
    cases h1 : okw x with
    | false =>
      rw [h1] at hin
      left
      refine ⟨i, ?_, by simp [h1]⟩
      simp -implicitDefEqProofs [bd, L117b0, i64s, hi, hx, hin]
    | true =>
      rw [h1] at hin
      simpa -implicitDefEqProofs [bd, L117b0, i64s, hi, hx, hw, hin, h1] using hih
theorem wcontains (l : List Int) (hl : l.length ≤ 140737488355328) : ev E0 112 [.lst 1 (i64s l), .fn (.func 113) [] []] [] = some (bl (!l.all okw), []) := by
  have hi : ∃ r : Int, ev E0 117 [.lst 1 (i64s l), .fn (.func 113) [] []] [] = some (i64 r, []) ∧ decide (0 ≤ r) = !l.all okw := by
    rw [e117]
    unfold runF
    have hlp := windex_loop l hl l 0 rfl
    rw [c0] at hlp
    rcases hlp with ⟨r, e, h⟩ | ⟨e, h⟩
    · refine ⟨r, ?_, by rw [h]; simp⟩
      simp -implicitDefEqProofs [L117, i64s_len, e]
    · refine ⟨-1, ?_, by rw [h]; decide⟩
      simp -implicitDefEqProofs [L117, i64s_len, e]
  obtain ⟨r, e, h⟩ := hi
  rw [e112]
  unfold runF
  rw [← h]
  simp -implicitDefEqProofs [L112, e]
theorem weights_i (l : List Int) (hl : l.length ≤ 140737488355328) : ev E0 105 [.lst 1 (i64s l)] [] = some (bl (okW l), []) := by
  rw [e105]
  unfold runF
  have hin := in_i (l.length : Int) 1 10
  have h2 := wcontains l hl
  unfold okW
  cases hb : (decide (1 ≤ (l.length : Int)) && decide ((l.length : Int) ≤ 10)) with
  | false =>
    rw [hb] at hin
    simp -implicitDefEqProofs [L105, i64s_len, hin]
  | true =>
    rw [hb] at hin
    simp -implicitDefEqProofs [L105, i64s_len, hin, h2]
theorem weighed_i (ms : List ByteArray) (hm : ms.length ≤ 140737488355328) (hs : ∀ x ∈ ms, x.size ≤ 140737488355328) (l : List Int) (hl : l.length ≤ 140737488355328) : ev E0 90 [.agg [.lst 1 (ms.map st)], .lst 1 (i64s l)] [] = some (bl (okTable ms && (okW l && decide ((l.length : Int) = (ms.length : Int)))), []) := by
  rw [e90]
  unfold runF
  have t1 := table_i ms hm hs
  have t2 := weights_i l hl
  cases h1 : okTable ms with
  | false =>
    rw [h1] at t1
    simp -implicitDefEqProofs [L90, t1]
  | true =>
    rw [h1] at t1
    cases h2 : okW l with
    | false =>
      rw [h2] at t2
      simp -implicitDefEqProofs [L90, t1, t2]
    | true =>
      rw [h2] at t2
      simp -implicitDefEqProofs [L90, t1, t2, i64s_len]
theorem okW_nat {l : List Int} (h : okW l = true) : ∃ ln : List Nat, i64s l = i64n ln ∧ (∀ x ∈ ln, x ≤ 99) ∧ ln.length = l.length ∧ 1 ≤ ln.length ∧ ln.length ≤ 10 := by
  unfold okW at h
  simp only [Bool.and_eq_true, decide_eq_true_eq, List.all_eq_true] at h
  obtain ⟨⟨h1, h2⟩, h3⟩ := h
  have hb : ∀ c ∈ l, 0 ≤ c ∧ c ≤ 99 := fun c hc => by
    have := h3 c hc
    unfold okw at this
    simpa using this
  refine ⟨l.map Int.toNat, ?_, ?_, by simp, by simp; omega, by simp; omega⟩
  · unfold i64s i64n
    rw [List.map_map]
    refine List.map_congr_left fun c hc => ?_
    have := hb c hc
    show i64 c = i64 ((c.toNat : Nat) : Int)
    rw [Int.toNat_of_nonneg this.1]
  · intro x hx
    obtain ⟨c, hc, rfl⟩ := List.mem_map.1 hx
    have := hb c hc
    omega
-- ---------------------------------------------------------------- sums, divisors
def sumW (f : Nat → Nat) : List Nat → Nat → Nat
  | [], _ => 0
  | w :: t, i => f i * w + sumW f t (i + 1)
def allW : List Nat → Nat
  | [] => 0
  | w :: t => w + allW t
theorem sumW_le {f : Nat → Nat} {F : Nat} (hf : ∀ i, f i ≤ F) : ∀ (t : List Nat) (i : Nat), (∀ x ∈ t, x ≤ 99) → sumW f t i ≤ t.length * (F * 99)
  | [], i, _ => by simp [sumW]
  | w :: t, i, h => by
    have h1 := sumW_le hf t (i + 1) (fun x hx => h x (by simp [hx]))
    have h2 : f i * w ≤ F * 99 := Nat.mul_le_mul (hf i) (h w (by simp))
    rw [sumW, List.length_cons, Nat.succ_mul]
    omega
theorem allW_le : ∀ (t : List Nat), (∀ x ∈ t, x ≤ 99) → allW t ≤ t.length * 99
  | [], _ => by simp [allW]
  | w :: t, h => by
    have h1 := allW_le t (fun x hx => h x (by simp [hx]))
    have h2 := h w (by simp)
    rw [allW, List.length_cons]
    omega
theorem gcd_step (a b : Nat) : Nat.gcd b (a % b) = Nat.gcd a b := by
  rw [Nat.gcd_comm a b, Nat.gcd_rec b a, Nat.gcd_comm]
theorem divS_loop (sum all : Int) : ∀ (n b a : Nat), b ≤ n → a ≤ 1152921504606846976 → b ≤ 1152921504606846976 →
    packX 0 [4, 6, 7, 9] (loopW (bd E0 (ev E0) loopW 0 [4, 6, 7, 9, 10] L57b1) ⟨[(4, .ptr 0 0 0), (6, i64 sum), (7, i64 all), (9, i64 a), (10, i64 b)], [some ⟨39, 2, 0, false, [.agg [i64 0, i64 0]]⟩]⟩) = some (.ext 2, ⟨[(4, .ptr 0 0 0), (6, i64 sum), (7, i64 all), (9, i64 ((Nat.gcd a b : Nat) : Int))], [some ⟨39, 2, 0, false, [.agg [i64 0, i64 0]]⟩]⟩) := by
  intro n
  induction n with
  | zero =>
    intro b a h _ _
    obtain rfl : b = 0 := by omega
    rw [loopW_eq]
    generalize loopW (bd E0 (ev E0) loopW 0 [4, 6, 7, 9, 10] L57b1) = K
    simp -implicitDefEqProofs [bd, L57b1]
  | succ n ih =>
    intro b a h ha hb
    by_cases h0 : b = 0
    · subst h0
      rw [loopW_eq]
      generalize loopW (bd E0 (ev E0) loopW 0 [4, 6, 7, 9, 10] L57b1) = K
      simp -implicitDefEqProofs [bd, L57b1]
    · have hlt : a % b < b := Nat.mod_lt _ (by omega)
      have hih := ih (a % b) b (by omega) hb (by omega)
      rw [gcd_step] at hih
      have h1 : (0 : Int) < (b : Int) := by omega
      have h2 : ¬ (b : Int) = 0 := by omega
      have h3 : 0 < b := by omega
      have hm : Int.tmod (a : Int) (b : Int) = ((a % b : Nat) : Int) := rfl
      rw [loopW_eq]
      generalize Nat.gcd a b = g at hih ⊢
      generalize loopW (bd E0 (ev E0) loopW 0 [4, 6, 7, 9, 10] L57b1) = K at hih ⊢
      simpa -implicitDefEqProofs [bd, L57b1, h0, h1, h2, h3, hm, -Int.natCast_emod] using hih
theorem divI_loop : ∀ (n b a : Nat), b ≤ n → a ≤ 1152921504606846976 → b ≤ 1152921504606846976 →
    packX 0 [0] (loopW (bd E0 (ev E0) loopW 0 [0, 1] L106b0) ⟨[(0, i64 a), (1, i64 b)], []⟩) = some (.ext 0, ⟨[(0, i64 ((Nat.gcd a b : Nat) : Int))], []⟩) := by
  intro n
  induction n with
  | zero =>
    intro b a h _ _
    obtain rfl : b = 0 := by omega
    rw [loopW_eq]
    generalize loopW (bd E0 (ev E0) loopW 0 [0, 1] L106b0) = K
    simp -implicitDefEqProofs [bd, L106b0]
  | succ n ih =>
    intro b a h ha hb
    by_cases h0 : b = 0
    · subst h0
      rw [loopW_eq]
      generalize loopW (bd E0 (ev E0) loopW 0 [0, 1] L106b0) = K
      simp -implicitDefEqProofs [bd, L106b0]
    · have hlt : a % b < b := Nat.mod_lt _ (by omega)
      have hih := ih (a % b) b (by omega) hb (by omega)
      rw [gcd_step] at hih
      have h2 : ¬ (b : Int) = 0 := by omega
      have hm : Int.tmod (a : Int) (b : Int) = ((a % b : Nat) : Int) := rfl
      rw [loopW_eq]
      generalize Nat.gcd a b = g at hih ⊢
      generalize loopW (bd E0 (ev E0) loopW 0 [0, 1] L106b0) = K at hih ⊢
      simpa -implicitDefEqProofs [bd, L106b0, h0, h2, hm, -Int.natCast_emod] using hih
theorem divisor_i (a b : Nat) (ha : a ≤ 1152921504606846976) (hb : b ≤ 1152921504606846976) : ev E0 106 [i64 a, i64 b] [] = some (i64 ((Nat.gcd a b : Nat) : Int), []) := by
  rw [e106]
  unfold runF
  simp -implicitDefEqProofs [L106, divI_loop b b a (Nat.le_refl _) ha hb]
theorem fraction_i (a b : Nat) (ha : a ≤ 1152921504606846976) (hb : b ≤ 1152921504606846976) (h0 : 0 < b) : ev E0 91 [i64 a, i64 b] [] = some (.agg [i64 ((a / Nat.gcd a b : Nat) : Int), i64 ((b / Nat.gcd a b : Nat) : Int)], []) := by
  rw [e91]
  unfold runF
  have hd := divisor_i a b ha hb
  have hg : 0 < Nat.gcd a b := Nat.gcd_pos_of_pos_right a h0
  generalize Nat.gcd a b = g at *
  have h1 : ¬ (g : Int) = 0 := by omega
  have h2 : ¬ g = 0 := by omega
  have q1 : Int.tdiv (a : Int) (g : Int) = ((a / g : Nat) : Int) := rfl
  have q2 : Int.tdiv (b : Int) (g : Int) = ((b / g : Nat) : Int) := rfl
  have l1 := Nat.div_le_self a g
  have l2 := Nat.div_le_self b g
  generalize a / g = x at *
  generalize b / g = y at *
  have w1 : IntKind.i64.wrap (x : Int) = (x : Int) := wr64 (by omega) (by omega)
  have w2 : IntKind.i64.wrap (y : Int) = (y : Int) := wr64 (by omega) (by omega)
  simp -implicitDefEqProofs [L91, hd, h1, h2, q1, q2, w1, w2]
end Go.Proofs.YtkajcafnfdlgpaaDoor.Ev
