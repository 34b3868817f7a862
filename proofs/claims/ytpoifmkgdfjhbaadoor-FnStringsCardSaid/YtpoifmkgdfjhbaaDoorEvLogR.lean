/- Records, checksums and numerals: the reference's functions and the program's, in the evaluator's words. -/
import Derived.Test.YtpoifmkgdfjhbaaDoorEvLogP
set_option linter.unusedVariables false
set_option linter.unusedSimpArgs false
namespace Go.Proofs.YtpoifmkgdfjhbaaDoor.Ev.Lg
theorem okB_int (c : UInt8) : (decide ((32 : Int) ≤ (c.toNat : Int)) && decide ((c.toNat : Int) ≤ 126)) = okB c := by
  unfold okB
  rw [show decide ((32 : Int) ≤ (c.toNat : Int)) = decide (32 ≤ c.toNat) from decide_eq_decide.2 (by omega), show decide ((c.toNat : Int) ≤ 126) = decide (c.toNat ≤ 126) from decide_eq_decide.2 (by omega)]
theorem stands_loop (s : ByteArray) (hs : s.size ≤ 1073741824) (b : UInt8) : ∀ (t : List UInt8) (i : Nat), (B s).drop i = t →
    (packX 0 [4] (loopW (bd E0 (ev E0) loopW 0 [0, 1, 5] L29b0) ⟨[(0, st s), (1, .v (.int .u8 (b.toNat : Int))), (5, i64 i)], []⟩) = some (.ret, ⟨[(4, bl true)], []⟩) ∧ t.contains b = true) ∨
    (packX 0 [4] (loopW (bd E0 (ev E0) loopW 0 [0, 1, 5] L29b0) ⟨[(0, st s), (1, .v (.int .u8 (b.toNat : Int))), (5, i64 i)], []⟩) = some (.ext 0, ⟨[], []⟩) ∧ t.contains b = false) := by
  intro t
  induction t with
  | nil =>
    intro i h
    have hi := byte_end h
    rw [loopW_eq]
    generalize loopW (bd E0 (ev E0) loopW 0 [0, 1, 5] L29b0) = K
    simp -implicitDefEqProofs [bd, L29b0, hi]
  | cons c t ih =>
    intro i h
    obtain ⟨hi, hx, hd⟩ := byte_at h
    have hih := ih (i + 1) hd
    rw [cs1] at hih
    have hw : IntKind.i64.wrap ((i : Int) + 1) = (i : Int) + 1 := wr64 (by omega) (by omega)
    rw [loopW_eq]
    generalize loopW (bd E0 (ev E0) loopW 0 [0, 1, 5] L29b0) = K at hih ⊢
    by_cases h2 : c = b
    · subst h2
      left
      refine ⟨?_, by simp⟩
      simp -implicitDefEqProofs [bd, L29b0, hi, -List.getD_eq_getElem?_getD, hx]
    · have h3 : ¬ (c.toNat : Int) = (b.toNat : Int) := fun e => h2 (UInt8.toNat_inj.1 (by omega))
      have h4 : ¬ c.toNat = b.toNat := by omega
      have hk : (c :: t).contains b = t.contains b := by
        have : (b == c) = false := by simpa using fun e : b = c => h2 e.symm
        rw [List.contains_cons, this, Bool.false_or]
      rw [hk]
      simpa -implicitDefEqProofs [bd, L29b0, hi, -List.getD_eq_getElem?_getD, -List.contains_eq_mem, hx, h3, h4, h2, hw] using hih
theorem stands_s (s : ByteArray) (hs : s.size ≤ 1073741824) (b : UInt8) : ev E0 29 [st s, .v (.int .u8 (b.toNat : Int))] [] = some (bl ((B s).contains b), []) := by
  rw [e29]
  unfold runF
  have hl := stands_loop s hs b (B s) 0 rfl
  rw [c0] at hl
  rcases hl with ⟨e, h⟩ | ⟨e, h⟩
  · rw [h]
    simp -implicitDefEqProofs [L29, e]
  · rw [h]
    simp -implicitDefEqProofs [L29, e]
theorem nil_iff (c : ByteArray) : c = ⟨#[]⟩ ↔ B c = [] := ⟨fun h => by rw [h]; rfl, fun h => B_inj h⟩
theorem sum_rem (h : Nat) (c : UInt8) : Int.tmod (41 * (h : Int) + (c.toNat : Int) + 1) 999979 = (((41 * h + c.toNat + 1) % 999979 : Nat) : Int) := by
  have : (41 * (h : Int) + (c.toNat : Int) + 1) = ((41 * h + c.toNat + 1 : Nat) : Int) := by omega
  rw [this]
  rfl
theorem sumS_loop (s : ByteArray) (hs : s.size ≤ 1073741824) : ∀ (t : List UInt8) (i h : Nat), (B s).drop i = t → h < 999979 →
    packX 0 [3] (loopW (bd E0 (ev E0) loopW 0 [0, 3, 4] L37b0) ⟨[(0, st s), (3, i64 h), (4, i64 i)], []⟩) = some (.ext 0, ⟨[(3, i64 ((sum t h : Nat) : Int))], []⟩) := by
  intro t
  induction t with
  | nil =>
    intro i h hd _
    have hi := byte_end hd
    rw [loopW_eq]
    generalize loopW (bd E0 (ev E0) loopW 0 [0, 3, 4] L37b0) = K
    simp -implicitDefEqProofs [bd, L37b0, hi, sum]
  | cons c t ih =>
    intro i h hd0 hh
    obtain ⟨hi, hx, hd⟩ := byte_at hd0
    have hih := ih (i + 1) ((41 * h + c.toNat + 1) % 999979) hd (Nat.mod_lt _ (by decide))
    rw [cs1] at hih
    have hw : IntKind.i64.wrap ((i : Int) + 1) = (i : Int) + 1 := wr64 (by omega) (by omega)
    have hc256 := UInt8.toNat_lt c
    have w1 : IntKind.i64.wrap (c.toNat : Int) = (c.toNat : Int) := wr64 (by omega) (by omega)
    have w2 : IntKind.i64.wrap (41 * (h : Int)) = 41 * (h : Int) := wr64 (by omega) (by omega)
    have w3 : IntKind.i64.wrap (41 * (h : Int) + (c.toNat : Int)) = 41 * (h : Int) + (c.toNat : Int) := wr64 (by omega) (by omega)
    have w4 : IntKind.i64.wrap (41 * (h : Int) + (c.toNat : Int) + 1) = 41 * (h : Int) + (c.toNat : Int) + 1 := wr64 (by omega) (by omega)
    have hr := sum_rem h c
    have hs1 : sum (c :: t) h = sum t ((41 * h + c.toNat + 1) % 999979) := rfl
    rw [hs1, loopW_eq]
    generalize (41 * h + c.toNat + 1) % 999979 = v at *
    generalize loopW (bd E0 (ev E0) loopW 0 [0, 3, 4] L37b0) = K at hih ⊢
    simpa -implicitDefEqProofs [bd, L37b0, hi, -List.getD_eq_getElem?_getD, hx, hw, w1, w2, w3, w4, hr] using hih
theorem sum_s (s : ByteArray) (hs : s.size ≤ 1073741824) : ev E0 37 [st s] [] = some (i64 ((sum (B s) 7 : Nat) : Int), []) := by
  rw [e37]
  unfold runF
  have hl := sumS_loop s hs (B s) 0 7 rfl (by decide)
  rw [c0, show ((7 : Nat) : Int) = 7 from rfl] at hl
  simp -implicitDefEqProofs [L37, hl]
theorem sumI_loop (s : ByteArray) (hs : s.size ≤ 1073741824) : ∀ (t : List UInt8) (i h : Nat), (B s).drop i = t → h < 999979 →
    packX 0 [3] (loopW (bd E0 (ev E0) loopW 0 [0, 3, 6, 7] L27b0) ⟨[(0, st s), (3, i64 h), (6, i64 s.size), (7, i64 i)], []⟩) = some (.ext 0, ⟨[(3, i64 ((sum t h : Nat) : Int))], []⟩) := by
  intro t
  induction t with
  | nil =>
    intro i h hd _
    have hi := byte_end hd
    rw [loopW_eq]
    generalize loopW (bd E0 (ev E0) loopW 0 [0, 3, 6, 7] L27b0) = K
    simp -implicitDefEqProofs [bd, L27b0, hi, sum]
  | cons c t ih =>
    intro i h hd0 hh
    obtain ⟨hi, hx, hd⟩ := byte_at hd0
    have hih := ih (i + 1) ((41 * h + c.toNat + 1) % 999979) hd (Nat.mod_lt _ (by decide))
    rw [cs1] at hih
    have hw : IntKind.i64.wrap ((i : Int) + 1) = (i : Int) + 1 := wr64 (by omega) (by omega)
    have hc256 := UInt8.toNat_lt c
    have w1 : IntKind.i64.wrap (c.toNat : Int) = (c.toNat : Int) := wr64 (by omega) (by omega)
    have w2 : IntKind.i64.wrap (41 * (h : Int)) = 41 * (h : Int) := wr64 (by omega) (by omega)
    have w3 : IntKind.i64.wrap (41 * (h : Int) + (c.toNat : Int)) = 41 * (h : Int) + (c.toNat : Int) := wr64 (by omega) (by omega)
    have w4 : IntKind.i64.wrap (41 * (h : Int) + (c.toNat : Int) + 1) = 41 * (h : Int) + (c.toNat : Int) + 1 := wr64 (by omega) (by omega)
    have hr := sum_rem h c
    have hs1 : sum (c :: t) h = sum t ((41 * h + c.toNat + 1) % 999979) := rfl
    rw [hs1, loopW_eq]
    generalize (41 * h + c.toNat + 1) % 999979 = v at *
    generalize loopW (bd E0 (ev E0) loopW 0 [0, 3, 6, 7] L27b0) = K at hih ⊢
    simpa -implicitDefEqProofs [bd, L27b0, hi, -List.getD_eq_getElem?_getD, hx, hw, w1, w2, w3, w4, hr] using hih
theorem sum_i (s : ByteArray) (hs : s.size ≤ 1073741824) : ev E0 27 [st s] [] = some (i64 ((sum (B s) 7 : Nat) : Int), []) := by
  rw [e27]
  unfold runF
  have hl := sumI_loop s hs (B s) 0 7 rfl (by decide)
  rw [c0, show ((7 : Nat) : Int) = 7 from rfl] at hl
  simp -implicitDefEqProofs [L27, hl]
theorem itoa_nat (n : Nat) : Lib.itoa (n : Int) = Lib.decDigits n := by
  unfold Lib.itoa
  rw [if_neg (by omega), Int.toNat_natCast]
theorem itoa_i (n : Nat) (hn : n ≤ 9223372036854775807) : ev E0 19 [i64 n] [] = some (st (mk (Lib.itoa n)), []) := by
  rw [e19]
  show (if _ then _ else _) = _
  rw [if_pos (by omega)]
  rfl
theorem num_s : ∀ (m n : Nat), n ≤ m → n ≤ 1073741824 → ev E0 21 [i64 n] [] = some (st (mk (Lib.decDigits n)), []) := by
  have hz : (⟨#[48, 49, 50, 51, 52, 53, 54, 55, 56, 57]⟩ : ByteArray).size = 10 := rfl
  intro m
  induction m with
  | zero =>
    intro n hn _
    obtain rfl : n = 0 := by omega
    rw [e21]
    unfold runF
    have hw : IntKind.i64.wrap 1 = 1 := by decide
    have hd : Lib.decDigits 0 = [48] := by rw [Lib.decDigits, dif_pos (by decide)]; rfl
    have hp := digit_piece (i := 0) (by decide)
    rw [hd]
    simp -implicitDefEqProofs [L21, hw, hz]
    exact hp
  | succ m ih =>
    intro n hn hb
    rw [e21]
    unfold runF
    have h0 : ¬ (n : Int) < 0 := by omega
    by_cases h : n < 10
    · have h1 : (n : Int) < 10 := by omega
      have hw : IntKind.i64.wrap ((n : Int) + 1) = (n : Int) + 1 := wr64 (by omega) (by omega)
      have hd : Lib.decDigits n = [UInt8.ofNat (48 + n)] := by rw [Lib.decDigits, dif_pos h]
      have hp := digit_piece (i := n) h
      have h2 : (n : Int) ≤ (n : Int) + 1 := by omega
      have h3 : (n : Int) + 1 ≤ 10 := by omega
      have h4 : ((n : Int) + 1).toNat = n + 1 := by omega
      rw [hd]
      generalize UInt8.ofNat (48 + n) = x at hp ⊢
      simp -implicitDefEqProofs [L21, hw, hz, h0, h, h1, h2, h3, h4]
      exact hp
    · have h1 : ¬ (n : Int) < 10 := by omega
      have t1 : Int.tdiv (n : Int) 10 = ((n / 10 : Nat) : Int) := rfl
      have t2 : Int.tmod (n : Int) 10 = ((n % 10 : Nat) : Int) := rfl
      have hih := ih (n / 10) (by omega) (by omega)
      have hd : Lib.decDigits n = Lib.decDigits (n / 10) ++ [UInt8.ofNat (48 + n % 10)] := by conv => lhs; rw [Lib.decDigits, dif_neg h]
      have hp := digit_piece (i := n % 10) (by omega)
      have hl := dec_len20 (u := n / 10) (by omega)
      generalize hq : n / 10 = q at *
      generalize hr : n % 10 = r at *
      have hr10 : r < 10 := by omega
      generalize UInt8.ofNat (48 + r) = x at *
      have w1 : IntKind.i64.wrap (q : Int) = (q : Int) := wr64 (by omega) (by omega)
      have w2 : IntKind.i64.wrap ((r : Int) + 1) = (r : Int) + 1 := wr64 (by omega) (by omega)
      have h2 : (r : Int) ≤ (r : Int) + 1 := by omega
      have h3 : (r : Int) + 1 ≤ 10 := by omega
      have h4 : ((r : Int) + 1).toNat = r + 1 := by omega
      have hsz : (mk (Lib.decDigits q)).size + (mk [x]).size ≤ 9223372036854775807 := by rw [mk_size, mk_size]; simp; omega
      have hp2 : (⟨#[48, 49, 50, 51, 52, 53, 54, 55, 56, 57]⟩ : ByteArray).extract r (r + 1) = mk [x] := hp
      have happ : mk (Lib.decDigits q) ++ mk [x] = mk (Lib.decDigits q ++ [x]) := app_mk _ _
      rw [hd]
      simp -implicitDefEqProofs [L21, hz, h0, h, h1, t1, t2, w1, w2, h2, h3, h4, hih, hp2, hsz, happ]
end Go.Proofs.YtpoifmkgdfjhbaaDoor.Ev.Lg
