/- Lines: LineOfRuns whole, what is on, counts and clashes. -/
import Derived.Test.YtckfbfgfjlgmeaaGreatDoorEvLn4
set_option linter.unusedVariables false
set_option linter.unusedSimpArgs false
namespace Go.Proofs.YtckfbfgfjlgmeaaGreatDoor.Ev
def lorT (l : List P) : ByteArray := if okRs none 0 l = true then mkB (lineL l) else ⟨#[]⟩
theorem nil_app (x : ByteArray) : (⟨#[]⟩ : ByteArray) ++ x = x := by apply B_inj; rw [B_append]; rfl
theorem lor_s (l : List P) (hl : l.length ≤ 1000000) : ev E0 14 [.lst 2 (l.map pn)] [] = some (.tup [st (lorT l), bl (okRs none 0 l)], []) := by
  obtain ⟨h1, h2⟩ := lorS_loop l hl l 0 none ⟨#[]⟩ 0 rfl (.inl ⟨rfl, rfl⟩) (by decide) (by omega)
  rw [c0, nil_app] at h1
  rw [c0] at h2
  have hQ : (l.map pn).length = l.length := List.length_map _
  have hfr := free_pn l
  unfold lorT
  rw [e14]
  unfold runF
  cases ho : okRs none 0 l with
  | true =>
    have h1 := h1 ho
    generalize mkB (lineL l) = R at *
    generalize l.map pn = Q at *
    simp -implicitDefEqProofs [L14, h1, hQ, hfr]
  | false =>
    obtain ⟨b, h2⟩ := h2 ho
    generalize l.map pn = Q at *
    simp -implicitDefEqProofs [L14, h2, hQ, hfr]
theorem okRs_small {l : List P} (h : okRs none 0 l = true) : (∀ p ∈ l, (p.1 = 0 ∨ p.1 = 1) ∧ 0 ≤ p.2 ∧ p.2 ≤ 200) ∧ (lineL l).length ≤ 200 := by
  rcases okRs_mem l none 0 (Int.le_refl _) h with ⟨h1, h2⟩ | rfl
  · exact ⟨h1, by omega⟩
  · exact ⟨by simp, by simp [lineL]⟩
theorem lor_i (l : List P) (hl : l.length ≤ 1000000) : ev E0 13 [.lst 2 (l.map pn)] [] = some (.tup [st (lorT l), bl (okRs none 0 l)], []) := by
  obtain ⟨h1, h2⟩ := lorI_loop l hl l 0 none 0 rfl (.inl ⟨rfl, rfl⟩) (Int.le_refl _) (by omega)
  rw [c0] at h1 h2
  have hQ : (l.map pn).length = l.length := List.length_map _
  have hfr := free_pn l
  unfold lorT
  rw [e13]
  unfold runF
  cases ho : okRs none 0 l with
  | true =>
    have h1 := h1 ho
    have h3 := ofR_i l hl (okRs_small ho).1
    generalize mkB (lineL l) = R at *
    generalize l.map pn = Q at *
    simp -implicitDefEqProofs [L13, h1, h3, hQ, hfr]
  | false =>
    have h2 := h2 ho
    generalize l.map pn = Q at *
    simp -implicitDefEqProofs [L13, h2, hQ, hfr]
-- ---------------------------------------------------------------- what is on
def onB (l : ByteArray) (i : Int) : Bool := (decide (0 ≤ i) && decide (i ≤ (l.size : Int) - 1)) && decide ((B l).getD i.toNat 0 = 49)
theorem u8_nat (z : UInt8) : decide (z.toNat = 49) = decide (z = 49) := decide_eq_decide.2 ⟨fun h => UInt8.toNat_inj.1 h, fun h => by rw [h]; rfl⟩
theorem u8_int (z : UInt8) : decide ((z.toNat : Int) = 49) = decide (z = 49) := by
  rw [← u8_nat]
  exact decide_eq_decide.2 (by omega)
theorem on_s (l : ByteArray) (hl : l.size ≤ 100000) (i : Int) : ev E0 87 [st l, i64 i] [] = some (bl (onB l i), []) := by
  have h1 := in_s i 0 ((l.size : Int) - 1)
  have hw : IntKind.i64.wrap ((l.size : Int) - 1) = (l.size : Int) - 1 := wr64 (by omega) (by omega)
  unfold onB
  rw [e87]
  unfold runF
  cases hb : (decide (0 ≤ i) && decide (i ≤ (l.size : Int) - 1)) with
  | false => rw [hb] at h1; simp -implicitDefEqProofs [L87, h1, hw]
  | true =>
    rw [hb] at h1
    rw [Bool.and_eq_true, decide_eq_true_eq, decide_eq_true_eq] at hb
    obtain ⟨k, rfl⟩ : ∃ k : Nat, i = k := ⟨i.toNat, by omega⟩
    have hk : k < l.size := by omega
    have hki : (k : Int) < (l.size : Int) := by omega
    rw [Int.toNat_natCast, Bool.true_and]
    have hx : l.data.toList.getD k 0 = (B l).getD k 0 := rfl
    have hg := byte_g hx hk
    have e1 := u8_int ((B l).getD k 0)
    have e2 := u8_nat ((B l).getD k 0)
    generalize (B l).getD k 0 = z at *
    simp -implicitDefEqProofs [-List.getD_eq_getElem?_getD, L87, h1, hw, hk, hki, hx, hg, e1, e2]
theorem on_i (l : ByteArray) (hl : l.size ≤ 100000) (i : Int) : ev E0 88 [st l, i64 i] [] = some (bl (onB l i), []) := by
  have h1 := in_i i 0 ((l.size : Int) - 1)
  have hw : IntKind.i64.wrap ((l.size : Int) - 1) = (l.size : Int) - 1 := wr64 (by omega) (by omega)
  unfold onB
  rw [e88]
  unfold runF
  cases hb : (decide (0 ≤ i) && decide (i ≤ (l.size : Int) - 1)) with
  | false => rw [hb] at h1; simp -implicitDefEqProofs [L88, h1, hw]
  | true =>
    rw [hb] at h1
    rw [Bool.and_eq_true, decide_eq_true_eq, decide_eq_true_eq] at hb
    obtain ⟨k, rfl⟩ : ∃ k : Nat, i = k := ⟨i.toNat, by omega⟩
    have hk : k < l.size := by omega
    have hki : (k : Int) < (l.size : Int) := by omega
    rw [Int.toNat_natCast, Bool.true_and]
    have hx : l.data.toList.getD k 0 = (B l).getD k 0 := rfl
    have hg := byte_g hx hk
    have e1 := u8_int ((B l).getD k 0)
    have e2 := u8_nat ((B l).getD k 0)
    generalize (B l).getD k 0 = z at *
    simp -implicitDefEqProofs [-List.getD_eq_getElem?_getD, L88, h1, hw, hk, hki, hx, hg, e1, e2]
/-- How often a condition holds below a number. -/
def S (f : Nat → Bool) : Nat → Nat
  | 0 => 0
  | m + 1 => S f m + (if f m = true then 1 else 0)
theorem S_le (f : Nat → Bool) : ∀ m, S f m ≤ m
  | 0 => Nat.le_refl _
  | m + 1 => by have := S_le f m; rw [S]; split <;> omega
theorem cnS_loop (l : ByteArray) (hl : l.size ≤ 100000) : ∀ (k i : Nat), i + k = l.size →
    packX 0 [4] (loopW (bd E0 (ev E0) loopW 0 [0, 4, 5] L16b0) ⟨[(0, st l), (4, i64 (S (fun j => onB l j) i : Nat)), (5, i64 i)], []⟩) = some (.ext 0, ⟨[(4, i64 (S (fun j => onB l j) l.size : Nat))], []⟩) := by
  intro k
  induction k with
  | zero =>
    intro i h
    obtain rfl : i = l.size := by omega
    have hi : ¬ (l.size : Int) < (l.size : Int) := by omega
    rw [loopW_eq]
    generalize loopW (bd E0 (ev E0) loopW 0 [0, 4, 5] L16b0) = K
    simp -implicitDefEqProofs [bd, L16b0, hi]
  | succ k ih =>
    intro i h
    have hi : (i : Int) < (l.size : Int) := by omega
    have hi2 : i < l.size := by omega
    have hih := ih (i + 1) (by omega)
    have ho := on_s l hl i
    have hle := S_le (fun j => onB l j) i
    have hw : IntKind.i64.wrap ((i : Int) + 1) = (i : Int) + 1 := wr64 (by omega) (by omega)
    have hwS : IntKind.i64.wrap (((S (fun j => onB l j) i : Nat) : Int) + 1) = ((S (fun j => onB l j) i : Nat) : Int) + 1 := wr64 (by omega) (by omega)
    rw [S] at hih
    rw [cs1] at hih
    rw [loopW_eq]
    clear ih hle
    generalize S (fun j => onB l j) l.size = T at *
    generalize S (fun j => onB l j) i = s at *
    cases hb : onB l i with
    | true =>
      rw [hb] at ho
      rw [if_pos (by simpa using hb), cs1] at hih
      generalize loopW (bd E0 (ev E0) loopW 0 [0, 4, 5] L16b0) = K at hih ⊢
      simpa -implicitDefEqProofs [bd, L16b0, hi, hi2, ho, hw, hwS] using hih
    | false =>
      rw [hb] at ho
      rw [if_neg (by simpa using hb), Nat.add_zero] at hih
      generalize loopW (bd E0 (ev E0) loopW 0 [0, 4, 5] L16b0) = K at hih ⊢
      simpa -implicitDefEqProofs [bd, L16b0, hi, hi2, ho, hw, hwS] using hih
/-- How many units are on. -/
def cnt (l : ByteArray) : Nat := S (fun j => onB l j) l.size
theorem onB_nat (l : ByteArray) (j : Nat) (h : j < l.size) : onB l j = decide ((B l).getD j 0 = 49) := by
  unfold onB
  rw [decide_eq_true (by omega : (0 : Int) ≤ (j : Int)), decide_eq_true (by omega : (j : Int) ≤ (l.size : Int) - 1), Int.toNat_natCast]
  rfl
theorem cnt_count (l : ByteArray) : cnt l = (B l).count 49 := by
  have key : ∀ m, m ≤ l.size → S (fun j => onB l j) m = ((B l).take m).count 49 := by
    intro m
    induction m with
    | zero => intro _; simp [S]
    | succ m ih =>
      intro h
      have hm : m < (B l).length := by rw [B_len]; omega
      rw [S, ih (by omega), List.take_succ_eq_append_getElem hm, List.count_append]
      have e : (B l).getD m 0 = (B l)[m] := by rw [List.getD_eq_getElem?_getD, List.getElem?_eq_getElem hm]; rfl
      rw [onB_nat l m (by omega), e]
      by_cases hc : (B l)[m] = 49
      · rw [if_pos (by simpa using hc), hc]; simp
      · rw [if_neg (by simpa using hc)]; simp [hc]
  unfold cnt
  rw [key l.size (Nat.le_refl _), List.take_of_length_le (by rw [B_len]; exact Nat.le_refl _)]
def cnV (l : ByteArray) : Int := if okLine l = true then (cnt l : Int) else 0
theorem count_s (l : ByteArray) (hl : l.size ≤ 100000) : ev E0 16 [st l] [] = some (.tup [i64 (cnV l), bl (okLine l)], []) := by
  have h1 := isLine_s l (by omega)
  have h2 := cnS_loop l hl l.size 0 (by omega)
  rw [show S (fun j => onB l j) 0 = 0 from rfl, c0] at h2
  unfold cnV cnt
  rw [e16]
  unfold runF
  cases ho : okLine l with
  | false => rw [ho] at h1; simp -implicitDefEqProofs [L16, h1]
  | true =>
    rw [ho] at h1
    generalize S (fun j => onB l j) l.size = T at *
    simp -implicitDefEqProofs [L16, h1, h2]
theorem count_i (l : ByteArray) (hl : l.size ≤ 100000) : ev E0 15 [st l] [] = some (.tup [i64 (cnV l), bl (okLine l)], []) := by
  have h1 := isLine_i l (by omega)
  have h2 : ev E0 86 [st l, st ⟨#[49]⟩] [] = some (i64 (cnt l : Int), []) := by
    rw [e86, countP, if_pos (by rfl), cnt_count]
    rfl
  unfold cnV
  rw [e15]
  unfold runF
  cases ho : okLine l with
  | false => rw [ho] at h1; simp -implicitDefEqProofs [L15, h1]
  | true =>
    rw [ho] at h1
    generalize cnt l = T at *
    simp -implicitDefEqProofs [L15, h1, h2]
-- ---------------------------------------------------------------- clashes
def fS (a b : ByteArray) (n : Nat) (j : Nat) : Bool := onB b j && onB a ((j : Int) + n)
def fI (a b : ByteArray) (n : Nat) (j : Nat) : Bool := onB a j && onB b ((j : Int) - n)
theorem clS_loop (a b : ByteArray) (ha : a.size ≤ 100000) (hb : b.size ≤ 100000) (n : Nat) (hn : n ≤ 100000) : ∀ (k i : Nat), i + k = b.size →
    packX 0 [7] (loopW (bd E0 (ev E0) loopW 0 [0, 1, 2, 7, 8] L91b0) ⟨[(0, st a), (1, st b), (2, i64 n), (7, i64 (S (fS a b n) i : Nat)), (8, i64 i)], []⟩) = some (.ext 0, ⟨[(7, i64 (S (fS a b n) b.size : Nat))], []⟩) := by
  intro k
  induction k with
  | zero =>
    intro i h
    obtain rfl : i = b.size := by omega
    have hi : ¬ (b.size : Int) < (b.size : Int) := by omega
    rw [loopW_eq]
    generalize loopW (bd E0 (ev E0) loopW 0 [0, 1, 2, 7, 8] L91b0) = K
    simp -implicitDefEqProofs [bd, L91b0, hi]
  | succ k ih =>
    intro i h
    have hi : (i : Int) < (b.size : Int) := by omega
    have hi2 : i < b.size := by omega
    have hih := ih (i + 1) (by omega)
    have h1 := on_s b hb i
    have h2 := on_s a ha ((i : Int) + n)
    have hle := S_le (fS a b n) i
    have hw : IntKind.i64.wrap ((i : Int) + 1) = (i : Int) + 1 := wr64 (by omega) (by omega)
    have hwn : IntKind.i64.wrap ((i : Int) + n) = (i : Int) + n := wr64 (by omega) (by omega)
    have hwS : IntKind.i64.wrap (((S (fS a b n) i : Nat) : Int) + 1) = ((S (fS a b n) i : Nat) : Int) + 1 := wr64 (by omega) (by omega)
    have hf : fS a b n i = (onB b i && onB a ((i : Int) + n)) := rfl
    rw [S, hf] at hih
    rw [cs1] at hih
    rw [loopW_eq]
    clear ih hle hf
    generalize S (fS a b n) b.size = T at *
    generalize S (fS a b n) i = s at *
    generalize onB b i = p at *
    generalize onB a ((i : Int) + n) = q at *
    cases p <;> cases q
    · rw [show (false && false) = false from rfl, if_neg (by decide), Nat.add_zero] at hih
      generalize loopW (bd E0 (ev E0) loopW 0 [0, 1, 2, 7, 8] L91b0) = K at hih ⊢
      simpa -implicitDefEqProofs [bd, L91b0, hi, hi2, h1, h2, hw, hwS, hwn] using hih
    · rw [show (false && true) = false from rfl, if_neg (by decide), Nat.add_zero] at hih
      generalize loopW (bd E0 (ev E0) loopW 0 [0, 1, 2, 7, 8] L91b0) = K at hih ⊢
      simpa -implicitDefEqProofs [bd, L91b0, hi, hi2, h1, h2, hw, hwS, hwn] using hih
    · rw [show (true && false) = false from rfl, if_neg (by decide), Nat.add_zero] at hih
      generalize loopW (bd E0 (ev E0) loopW 0 [0, 1, 2, 7, 8] L91b0) = K at hih ⊢
      simpa -implicitDefEqProofs [bd, L91b0, hi, hi2, h1, h2, hw, hwS, hwn] using hih
    · rw [show (true && true) = true from rfl, if_pos rfl, cs1] at hih
      generalize loopW (bd E0 (ev E0) loopW 0 [0, 1, 2, 7, 8] L91b0) = K at hih ⊢
      simpa -implicitDefEqProofs [bd, L91b0, hi, hi2, h1, h2, hw, hwS, hwn] using hih
theorem clI_loop (a b : ByteArray) (ha : a.size ≤ 100000) (hb : b.size ≤ 100000) (n : Nat) (hn : n ≤ 100000) : ∀ (k i : Nat), i + k = a.size →
    packX 0 [7] (loopW (bd E0 (ev E0) loopW 0 [0, 1, 2, 7, 10, 11] L90b0) ⟨[(0, st a), (1, st b), (2, i64 n), (7, i64 (S (fI a b n) i : Nat)), (10, i64 a.size), (11, i64 i)], []⟩) = some (.ext 0, ⟨[(7, i64 (S (fI a b n) a.size : Nat))], []⟩) := by
  intro k
  induction k with
  | zero =>
    intro i h
    obtain rfl : i = a.size := by omega
    have hi : ¬ (a.size : Int) < (a.size : Int) := by omega
    rw [loopW_eq]
    generalize loopW (bd E0 (ev E0) loopW 0 [0, 1, 2, 7, 10, 11] L90b0) = K
    simp -implicitDefEqProofs [bd, L90b0, hi]
  | succ k ih =>
    intro i h
    have hi : (i : Int) < (a.size : Int) := by omega
    have hi2 : i < a.size := by omega
    have hih := ih (i + 1) (by omega)
    have h1 := on_i a ha i
    have h2 := on_i b hb ((i : Int) - n)
    have hle := S_le (fI a b n) i
    have hw : IntKind.i64.wrap ((i : Int) + 1) = (i : Int) + 1 := wr64 (by omega) (by omega)
    have hwn : IntKind.i64.wrap ((i : Int) - n) = (i : Int) - n := wr64 (by omega) (by omega)
    have hwS : IntKind.i64.wrap (((S (fI a b n) i : Nat) : Int) + 1) = ((S (fI a b n) i : Nat) : Int) + 1 := wr64 (by omega) (by omega)
    have hf : fI a b n i = (onB a i && onB b ((i : Int) - n)) := rfl
    rw [S, hf] at hih
    rw [cs1] at hih
    rw [loopW_eq]
    clear ih hle hf
    generalize S (fI a b n) a.size = T at *
    generalize S (fI a b n) i = s at *
    generalize onB a i = p at *
    generalize onB b ((i : Int) - n) = q at *
    cases p <;> cases q
    · rw [show (false && false) = false from rfl, if_neg (by decide), Nat.add_zero] at hih
      generalize loopW (bd E0 (ev E0) loopW 0 [0, 1, 2, 7, 10, 11] L90b0) = K at hih ⊢
      simpa -implicitDefEqProofs [bd, L90b0, hi, hi2, h1, h2, hw, hwS, hwn] using hih
    · rw [show (false && true) = false from rfl, if_neg (by decide), Nat.add_zero] at hih
      generalize loopW (bd E0 (ev E0) loopW 0 [0, 1, 2, 7, 10, 11] L90b0) = K at hih ⊢
      simpa -implicitDefEqProofs [bd, L90b0, hi, hi2, h1, h2, hw, hwS, hwn] using hih
    · rw [show (true && false) = false from rfl, if_neg (by decide), Nat.add_zero] at hih
      generalize loopW (bd E0 (ev E0) loopW 0 [0, 1, 2, 7, 10, 11] L90b0) = K at hih ⊢
      simpa -implicitDefEqProofs [bd, L90b0, hi, hi2, h1, h2, hw, hwS, hwn] using hih
    · rw [show (true && true) = true from rfl, if_pos rfl, cs1] at hih
      generalize loopW (bd E0 (ev E0) loopW 0 [0, 1, 2, 7, 10, 11] L90b0) = K at hih ⊢
      simpa -implicitDefEqProofs [bd, L90b0, hi, hi2, h1, h2, hw, hwS, hwn] using hih
theorem S_congr {f g : Nat → Bool} : ∀ m, (∀ j, j < m → f j = g j) → S f m = S g m
  | 0, _ => rfl
  | m + 1, h => by rw [S, S, S_congr m (fun j hj => h j (by omega)), h m (by omega)]
theorem S_zero {f : Nat → Bool} : ∀ m, (∀ j, j < m → f j = false) → S f m = 0
  | 0, _ => rfl
  | m + 1, h => by rw [S, S_zero m (fun j hj => h j (by omega)), h m (by omega)]; rfl
theorem S_add (f : Nat → Bool) (n : Nat) : ∀ m, S f (n + m) = S f n + S (fun j => f (n + j)) m
  | 0 => rfl
  | m + 1 => by rw [← Nat.add_assoc, S, S_add f n m, S]; omega
theorem S_ext (f : Nat → Bool) (m k : Nat) (h : ∀ j, m ≤ j → f j = false) : S f (m + k) = S f m := by
  rw [S_add, S_zero k (fun j _ => h (m + j) (by omega)), Nat.add_zero]
theorem on_big (l : ByteArray) (i : Int) (h : (l.size : Int) ≤ i) : onB l i = false := by
  unfold onB
  rw [decide_eq_false (by omega : ¬ i ≤ (l.size : Int) - 1), Bool.and_false, Bool.false_and]
theorem on_neg (l : ByteArray) (i : Int) (h : i < 0) : onB l i = false := by
  unfold onB
  rw [decide_eq_false (by omega : ¬ 0 ≤ i), Bool.false_and, Bool.false_and]
/-- Units that clash, the second line delayed. -/
def cl (a b : ByteArray) (n : Nat) : Nat := S (fS a b n) b.size
theorem cl_eq (a b : ByteArray) (n : Nat) : S (fI a b n) a.size = cl a b n := by
  unfold cl
  have e1 : S (fI a b n) (a.size + (n + b.size)) = S (fI a b n) a.size := S_ext _ _ _ (fun j hj => by unfold fI; rw [on_big a j (by omega), Bool.false_and])
  have e2 : S (fS a b n) (b.size + a.size) = S (fS a b n) b.size := S_ext _ _ _ (fun j hj => by unfold fS; rw [on_big b j (by omega), Bool.false_and])
  rw [← e1, ← e2, show a.size + (n + b.size) = n + (b.size + a.size) by omega, S_add, S_zero n (fun j hj => by unfold fI; rw [on_neg b _ (by omega), Bool.and_false]), Nat.zero_add]
  refine S_congr _ fun j _ => ?_
  unfold fI fS
  rw [Bool.and_comm]
  congr 1
  · congr 1; omega
  · congr 1; omega
theorem clash_s (a b : ByteArray) (ha : a.size ≤ 100000) (hb : b.size ≤ 100000) (n : Nat) (hn : n ≤ 100000) : ev E0 91 [st a, st b, i64 n] [] = some (i64 (cl a b n : Nat), []) := by
  have h := clS_loop a b ha hb n hn b.size 0 (by omega)
  rw [show S (fS a b n) 0 = 0 from rfl, c0] at h
  unfold cl
  rw [e91]
  unfold runF
  generalize S (fS a b n) b.size = T at *
  simp -implicitDefEqProofs [L91, h]
theorem clash_i (a b : ByteArray) (ha : a.size ≤ 100000) (hb : b.size ≤ 100000) (n : Nat) (hn : n ≤ 100000) : ev E0 90 [st a, st b, i64 n] [] = some (i64 (cl a b n : Nat), []) := by
  have h := clI_loop a b ha hb n hn a.size 0 (by omega)
  rw [show S (fI a b n) 0 = 0 from rfl, c0] at h
  rw [← cl_eq]
  rw [e90]
  unfold runF
  generalize S (fI a b n) a.size = T at *
  simp -implicitDefEqProofs [L90, h]
end Go.Proofs.YtckfbfgfjlgmeaaGreatDoor.Ev
