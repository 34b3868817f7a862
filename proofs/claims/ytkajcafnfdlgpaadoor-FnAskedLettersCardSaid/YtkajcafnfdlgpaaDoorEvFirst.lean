/- Does who is to ask win? The reference's function and the program's. -/
import Derived.Test.YtkajcafnfdlgpaaDoorEvAsks
set_option linter.unusedVariables false
set_option linter.unusedSimpArgs false
namespace Go.Proofs.YtkajcafnfdlgpaaDoor.Ev
def ok1 (F : List Nat → Bool) (p : List Nat) : Bool := decide (p.length < 2) || !F p
def winQ (ms : List ByteArray) (F : List Nat → Bool) (l : List Nat) (q : Nat) : Bool := ok1 F (partN ms q 0 l) && (ok1 F (partN ms q 1 l) && ok1 F (partN ms q 2 l))
def firS (ms : List ByteArray) (F : List Nat → Bool) (l : List Nat) : Nat → Nat → Bool
  | 0, _ => false
  | k + 1, q => (!vainB ms q l && winQ ms F l q) || firS ms F l k (q + 1)
def firN (ms : List ByteArray) : Nat → List Nat → Bool
  | 0, _ => false
  | n + 1, l => firS ms (firN ms n) l 5 0
def KnowsB (f : Nat) (ms : List ByteArray) (F : List Nat → Bool) (p : List Nat) : Prop := 2 ≤ p.length → ev E0 f [.agg [.lst 1 (ms.map st)], .lst 1 (i64n p)] [] = some (bl (F p), [])
-- ---------------------------------------------------------------- the reference
def inF (ms : List ByteArray) (l : List Nat) (q k : Nat) (w : Bool) (a b c : List Nat) : St :=
  ⟨[(1, .lst 1 (i64n l)), (2, .ptr 0 0 0), (5, i64 q), (6, .ptr 1 0 0), (7, bl w), (8, i64 k)], [some ⟨26, 1, 0, false, [.agg [.lst 1 (ms.map st)]]⟩, some ⟨44, 3, 0, false, [.agg [.sl 2 0 a.length, .sl 3 0 b.length, .sl 4 0 c.length]]⟩, some ⟨3, 1, 1, false, i64n a⟩, some ⟨3, 1, 1, false, i64n b⟩, some ⟨3, 1, 1, false, i64n c⟩]⟩
theorem ok1_lt {F : List Nat → Bool} {p : List Nat} (h : p.length < 2) : ok1 F p = true := by simp [ok1, h]
theorem ok1_ge {F : List Nat → Bool} {p : List Nat} (h : ¬ p.length < 2) : ok1 F p = !F p := by simp [ok1, h]
theorem inF_step0 (ms : List ByteArray) (F : List Nat → Bool) (l : List Nat) (q : Nat) (w : Bool) (a b c : List Nat) (hA : KnowsB 75 ms F a) :
    bd E0 (ev E0) loopW 0 [1, 2, 5, 6, 7, 8] L75b0 (inF ms l q 0 w a b c) = some (.nrm, inF ms l q 1 (w && ok1 F a) a b c) := by
  have hw : IntKind.i64.wrap 1 = 1 := by decide
  cases w with
  | false => simp -implicitDefEqProofs [bd, L75b0, inF, hw, i64n_len]
  | true =>
    by_cases h : a.length < 2
    · have h2 : (a.length : Int) < 2 := by omega
      rw [ok1_lt h]
      simp -implicitDefEqProofs [bd, L75b0, inF, hw, i64n_len, h, h2]
    · have h2 : ¬ (a.length : Int) < 2 := by omega
      have he := hA (by omega)
      rw [ok1_ge h]
      simp -implicitDefEqProofs [bd, L75b0, inF, hw, i64n_len, h, h2, he]
theorem inF_step1 (ms : List ByteArray) (F : List Nat → Bool) (l : List Nat) (q : Nat) (w : Bool) (a b c : List Nat) (hA : KnowsB 75 ms F b) :
    bd E0 (ev E0) loopW 0 [1, 2, 5, 6, 7, 8] L75b0 (inF ms l q 1 w a b c) = some (.nrm, inF ms l q 2 (w && ok1 F b) a b c) := by
  have hw : IntKind.i64.wrap 2 = 2 := by decide
  cases w with
  | false => simp -implicitDefEqProofs [bd, L75b0, inF, hw, i64n_len]
  | true =>
    by_cases h : b.length < 2
    · have h2 : (b.length : Int) < 2 := by omega
      rw [ok1_lt h]
      simp -implicitDefEqProofs [bd, L75b0, inF, hw, i64n_len, h, h2]
    · have h2 : ¬ (b.length : Int) < 2 := by omega
      have he := hA (by omega)
      rw [ok1_ge h]
      simp -implicitDefEqProofs [bd, L75b0, inF, hw, i64n_len, h, h2, he]
theorem inF_step2 (ms : List ByteArray) (F : List Nat → Bool) (l : List Nat) (q : Nat) (w : Bool) (a b c : List Nat) (hA : KnowsB 75 ms F c) :
    bd E0 (ev E0) loopW 0 [1, 2, 5, 6, 7, 8] L75b0 (inF ms l q 2 w a b c) = some (.nrm, inF ms l q 3 (w && ok1 F c) a b c) := by
  have hw : IntKind.i64.wrap 3 = 3 := by decide
  cases w with
  | false => simp -implicitDefEqProofs [bd, L75b0, inF, hw, i64n_len]
  | true =>
    by_cases h : c.length < 2
    · have h2 : (c.length : Int) < 2 := by omega
      rw [ok1_lt h]
      simp -implicitDefEqProofs [bd, L75b0, inF, hw, i64n_len, h, h2]
    · have h2 : ¬ (c.length : Int) < 2 := by omega
      have he := hA (by omega)
      rw [ok1_ge h]
      simp -implicitDefEqProofs [bd, L75b0, inF, hw, i64n_len, h, h2, he]
theorem inF_loop (ms : List ByteArray) (F : List Nat → Bool) (l : List Nat) (q : Nat) (a b c : List Nat) (hA : KnowsB 75 ms F a) (hB : KnowsB 75 ms F b) (hC : KnowsB 75 ms F c) :
    packX 0 [1, 2, 5, 7] (loopW (bd E0 (ev E0) loopW 0 [1, 2, 5, 6, 7, 8] L75b0) (inF ms l q 0 true a b c)) =
      some (.ext 2, ⟨[(1, .lst 1 (i64n l)), (2, .ptr 0 0 0), (5, i64 q), (7, bl (ok1 F a && (ok1 F b && ok1 F c)))], [some ⟨26, 1, 0, false, [.agg [.lst 1 (ms.map st)]]⟩]⟩) := by
  have hm : (((true && ok1 F a) && ok1 F b) && ok1 F c) = (ok1 F a && (ok1 F b && ok1 F c)) := by rw [Bool.true_and, Bool.and_assoc]
  rw [loopW_eq, inF_step0 ms F l q true a b c hA]
  show packX _ _ (loopW _ _) = _
  rw [loopW_eq, inF_step1 ms F l q _ a b c hB]
  show packX _ _ (loopW _ _) = _
  rw [loopW_eq, inF_step2 ms F l q _ a b c hC]
  show packX _ _ (loopW _ _) = _
  rw [hm, loopW_eq]
  generalize loopW (bd E0 (ev E0) loopW 0 [1, 2, 5, 6, 7, 8] L75b0) = K
  generalize (ok1 F a && (ok1 F b && ok1 F c)) = w
  simp -implicitDefEqProofs [bd, L75b0, inF]
theorem firstS_loop (ms : List ByteArray) (F : List Nat → Bool) (l : List Nat) (hl : l.length ≤ 1073741824) (hv : ∀ n ∈ l, n < ms.length) (hne : l ≠ []) (hk : ∀ q a, vainB ms q l = false → KnowsB 75 ms F (partN ms q a l)) : ∀ (k q : Nat), q + k = 5 →
    packX 0 [4] (loopW (bd E0 (ev E0) loopW 0 [1, 2, 5] L75b1) ⟨[(1, .lst 1 (i64n l)), (2, .ptr 0 0 0), (5, i64 q)], [some ⟨26, 1, 0, false, [.agg [.lst 1 (ms.map st)]]⟩]⟩) = if firS ms F l k q = true then some (.ret, ⟨[(4, bl true)], []⟩) else some (.ext 0, ⟨[], []⟩) := by
  intro k
  induction k with
  | zero =>
    intro q h
    obtain rfl : q = 5 := by omega
    rw [loopW_eq]
    generalize loopW (bd E0 (ev E0) loopW 0 [1, 2, 5] L75b1) = K
    simp -implicitDefEqProofs [bd, L75b1, firS]
  | succ k ih =>
    intro q h
    have hw : IntKind.i64.wrap ((q : Int) + 1) = (q : Int) + 1 := wr64 (by omega) (by omega)
    have hq : (q : Int) < 5 := by omega
    have hva := vain_s ms q l (by omega) hv hne
    have hih := ih (q + 1) (by omega)
    rw [cs1] at hih
    cases hp : vainB ms q l with
    | true =>
      rw [hp] at hva
      have h5 : firS ms F l (k + 1) q = firS ms F l k (q + 1) := by simp [firS, hp]
      rw [h5, loopW_eq]
      generalize firS ms F l k (q + 1) = o' at hih ⊢
      generalize loopW (bd E0 (ev E0) loopW 0 [1, 2, 5] L75b1) = K at hih ⊢
      simpa -implicitDefEqProofs [bd, L75b1, hq, hw, hva] using hih
    | false =>
      rw [hp] at hva
      have hin := inF_loop ms F l q _ _ _ (hk q 0 hp) (hk q 1 hp) (hk q 2 hp)
      have hps := part_s ms q l hl hv
      have hmx : (ok1 F (partN ms q 0 l) && (ok1 F (partN ms q 1 l) && ok1 F (partN ms q 2 l))) = winQ ms F l q := rfl
      have h5 : firS ms F l (k + 1) q = (winQ ms F l q || firS ms F l k (q + 1)) := by simp [firS, hp]
      rw [hmx] at hin
      rw [h5, loopW_eq]
      generalize firS ms F l k (q + 1) = o' at hih ⊢
      generalize winQ ms F l q = w at *
      generalize loopW (bd E0 (ev E0) loopW 0 [1, 2, 5] L75b1) = K at hih ⊢
      generalize partN ms q 0 l = a at *
      generalize partN ms q 1 l = b at *
      generalize partN ms q 2 l = c at *
      unfold inF at hin
      rw [c0] at hin
      unfold bd
      cases w with
      | true => simp -implicitDefEqProofs [L75b1, hq, hw, hva, hps, hin, i64n_len]
      | false => simpa -implicitDefEqProofs [L75b1, hq, hw, hva, hps, hin, i64n_len] using hih
theorem first_s (ms : List ByteArray) : ∀ (n : Nat) (l : List Nat), l.length ≤ n → n ≤ 1073741824 → l ≠ [] → (∀ x ∈ l, x < ms.length) → ev E0 75 [.agg [.lst 1 (ms.map st)], .lst 1 (i64n l)] [] = some (bl (firN ms n l), [])
  | 0, l, h, _, hne, _ => absurd (List.length_eq_zero_iff.1 (by omega)) hne
  | n + 1, l, h, hn, hne, hv => by
    rw [e75]
    unfold runF
    have hlp := firstS_loop ms (firN ms n) l (by omega) hv hne
      (fun q a hq hp => first_s ms n _ (by have := part_lt (a := a) hq; omega) (by omega) (by intro e; rw [e] at hp; simp at hp) (fun x hx => hv x (List.mem_filter.1 hx).1)) 5 0 rfl
    have hd : firN ms (n + 1) l = firS ms (firN ms n) l 5 0 := rfl
    rw [hd]
    rw [c0] at hlp
    cases hf : firS ms (firN ms n) l 5 0 with
    | true => rw [hf] at hlp; simp only [if_true] at hlp; simp -implicitDefEqProofs [L75, hlp]
    | false => rw [hf] at hlp; simp only [Bool.false_eq_true, if_false] at hlp; simp -implicitDefEqProofs [L75, hlp]
end Go.Proofs.YtkajcafnfdlgpaaDoor.Ev
