/- Numerals of all numbers, readings; sealed texts verified. -/
import Derived.Test.YtpoifmkgdfjhbaaDoorEvLogL
import Derived.Test.YtpoifmkgdfjhbaaDoorEvStrP
set_option linter.unusedVariables false
set_option linter.unusedSimpArgs false
namespace Go.Proofs.YtpoifmkgdfjhbaaDoor.Ev.Lg
theorem wr8 {x : Int} (h1 : 0 ≤ x) (h2 : x ≤ 255) : IntKind.u8.wrap x = x := by unfold IntKind.wrap; simp [IntKind.bits, IntKind.signed]; omega
theorem num_neg : ∀ (m n : Nat) (z : Int), n ≤ m → n ≤ 1073741824 → 1 ≤ n → z = -(n : Int) → ev E0 21 [i64 z] [] = some (st (mk (45 :: Lib.decDigits n)), []) := by
  intro m
  induction m with
  | zero => intro n z h1 _ h3; omega
  | succ m ih =>
    intro n z hn hb h1 hz
    rw [e21]
    unfold runF
    have h0 : z < 0 := by omega
    have hw : IntKind.i64.wrap (n : Int) = (n : Int) := wr64 (by omega) (by omega)
    have hun : un .neg (i64 z) = some (i64 (n : Int)) := by
      show some (i64 (IntKind.i64.wrap (0 - z))) = _
      rw [show (0 - z) = (n : Int) by omega, hw]
    by_cases h : n < 10
    · have h2 : -10 < z := by omega
      have e1 := num_s n n (Nat.le_refl _) (by omega)
      have hl := dec_len20 (u := n) (by omega)
      have hsz : (⟨#[45]⟩ : ByteArray).size + (mk (Lib.decDigits n)).size ≤ 9223372036854775807 := by rw [mk_size, size_one]; omega
      have happ : (⟨#[45]⟩ : ByteArray) ++ mk (Lib.decDigits n) = mk (45 :: Lib.decDigits n) := app_mk [45] _
      simp -implicitDefEqProofs [L21, h0, h2, hun, e1, hsz, happ]
    · have h2 : ¬ -10 < z := by omega
      obtain ⟨y, hy⟩ : ∃ y : Int, y = -((n / 10 : Nat) : Int) := ⟨_, rfl⟩
      obtain ⟨x, hx⟩ : ∃ x : Int, x = -((n % 10 : Nat) : Int) := ⟨_, rfl⟩
      have t1 : Int.tdiv z 10 = y := by rw [hz, Int.neg_tdiv, hy]; rfl
      have t2 : Int.tmod z 10 = x := by rw [hz, Int.neg_tmod, hx]; rfl
      have hih := ih (n / 10) y (by omega) (by omega) (by omega) hy
      have e2 := num_s (n % 10) (n % 10) (Nat.le_refl _) (by omega)
      have hd : Lib.decDigits n = Lib.decDigits (n / 10) ++ Lib.decDigits (n % 10) := by
        conv => lhs; rw [Lib.decDigits, dif_neg h]
        rw [show Lib.decDigits (n % 10) = [UInt8.ofNat (48 + n % 10)] by rw [Lib.decDigits, dif_pos (by omega)]]
      have hl := dec_len20 (u := n / 10) (by omega)
      have hl2 := dec_len20 (u := n % 10) (by omega)
      have hr10 : n % 10 < 10 := by omega
      have hq10 : n / 10 ≤ 1073741824 := by omega
      rw [hd]
      generalize n / 10 = q at *
      generalize n % 10 = r at *
      have w0 : IntKind.i64.wrap (r : Int) = (r : Int) := wr64 (by omega) (by omega)
      have w1 : IntKind.i64.wrap y = y := wr64 (by omega) (by omega)
      have hux : un .neg (i64 x) = some (i64 (r : Int)) := by
        show some (i64 (IntKind.i64.wrap (0 - x))) = _
        rw [show (0 - x) = (r : Int) by omega, w0]
      have hsz : (mk (45 :: Lib.decDigits q)).size + (mk (Lib.decDigits r)).size ≤ 9223372036854775807 := by rw [mk_size, mk_size]; simp; omega
      have happ : mk (45 :: Lib.decDigits q) ++ mk (Lib.decDigits r) = mk (45 :: (Lib.decDigits q ++ Lib.decDigits r)) := app_mk _ _
      simp -implicitDefEqProofs [L21, h0, h2, t1, t2, w1, hih, hux, e2, hsz, happ]
theorem num_z (n : Int) (h1 : -1073741824 ≤ n) (h2 : n ≤ 1073741824) : ev E0 21 [i64 n] [] = some (st (mk (Lib.itoa n)), []) := by
  by_cases h : n < 0
  · obtain ⟨k, rfl⟩ : ∃ k : Nat, n = -(k : Int) := ⟨n.natAbs, by omega⟩
    have hi : Lib.itoa (-(k : Int)) = 45 :: Lib.decDigits k := by
      unfold Lib.itoa
      rw [if_pos h]
      simp
    rw [hi]
    exact num_neg k k _ (Nat.le_refl _) (by omega) (by omega) rfl
  · obtain ⟨k, rfl⟩ : ∃ k : Nat, n = (k : Int) := ⟨n.toNat, by omega⟩
    rw [itoa_nat]
    exact num_s k k (Nat.le_refl _) (by omega)
theorem itoa_z (n : Int) (h1 : -1073741824 ≤ n) (h2 : n ≤ 1073741824) : ev E0 19 [i64 n] [] = some (st (mk (Lib.itoa n)), []) := by
  rw [e19]
  show (if _ then _ else _) = _
  rw [if_pos (by omega)]
  rfl
/-- FormatInt. -/
def fmt (n : Int) : ByteArray × Bool := if -999999 ≤ n ∧ n ≤ 999999 then (mk (Lib.itoa n), true) else (⟨#[]⟩, false)
theorem format_i (n : Int) (h1 : -1073741824 ≤ n) (h2 : n ≤ 1073741824) : ev E0 6 [i64 n] [] = some (.tup [st (fmt n).1, bl (fmt n).2], []) := by
  have e1 := itoa_z n h1 h2
  have hc : ev E0 18 [i64 n, i64 (-999999), i64 999999] [] = some (bl (decide (-999999 ≤ n ∧ n ≤ 999999)), []) := by
    rw [e18]
    unfold runF
    by_cases k1 : -999999 ≤ n
    · simp -implicitDefEqProofs [L18, k1]
    · simp -implicitDefEqProofs [L18, k1]
  unfold fmt
  rw [e6]
  unfold runF
  by_cases k : -999999 ≤ n ∧ n ≤ 999999
  · rw [decide_eq_true k] at hc
    rw [if_pos k]
    simp -implicitDefEqProofs [L6, hc, e1]
  · rw [decide_eq_false k] at hc
    rw [if_neg k]
    simp -implicitDefEqProofs [L6, hc]
theorem in_s (n a b : Int) : ev E0 20 [i64 n, i64 a, i64 b] [] = some (bl (decide (a ≤ n ∧ n ≤ b)), []) := by
  rw [e20]
  unfold runF
  by_cases k1 : a ≤ n
  · simp -implicitDefEqProofs [L20, k1]
  · simp -implicitDefEqProofs [L20, k1]
theorem format_s (n : Int) (h1 : -1073741824 ≤ n) (h2 : n ≤ 1073741824) : ev E0 7 [i64 n] [] = some (.tup [st (fmt n).1, bl (fmt n).2], []) := by
  have e1 := num_z n h1 h2
  have hc := in_s n (-999999) 999999
  unfold fmt
  rw [e7]
  unfold runF
  by_cases k : -999999 ≤ n ∧ n ≤ 999999
  · rw [decide_eq_true k] at hc
    rw [if_pos k]
    simp -implicitDefEqProofs [L7, hc, e1]
  · rw [decide_eq_false k] at hc
    rw [if_neg k]
    simp -implicitDefEqProofs [L7, hc]
theorem dig_cast (n c : Nat) (h : 48 ≤ c) : ((10 * n + (c - 48) : Nat) : Int) = 10 * (n : Int) + ((c : Int) - 48) := by omega
/-- The digits are read, one by one. -/
theorem read_loop (s t : ByteArray) (ht : t.size ≤ 6) : ∀ (r : List UInt8) (i n : Nat), (B t).drop i = r → i ≤ t.size → n < 10 ^ i →
    (∃ v, digs r n = some v ∧ v < 10 ^ 6 ∧ packX 0 [0, 2, 3, 4, 5] (loopW (bd E0 (ev E0) loopW 0 [0, 4, 5, 6] L25b0) ⟨[(0, st s), (4, st t), (5, i64 n), (6, i64 i)], []⟩) = some (.ext 0, ⟨[(0, st s), (4, st t), (5, i64 v)], []⟩)) ∨
    (∃ m : Int, digs r n = none ∧ packX 0 [0, 2, 3, 4, 5] (loopW (bd E0 (ev E0) loopW 0 [0, 4, 5, 6] L25b0) ⟨[(0, st s), (4, st t), (5, i64 n), (6, i64 i)], []⟩) = some (.ret, ⟨[(0, st s), (2, i64 0), (3, bl false), (4, st t), (5, i64 m)], []⟩)) := by
  intro r
  induction r with
  | nil =>
    intro i n hd hit hn
    have hi := byte_end hd
    refine .inl ⟨n, rfl, ?_, ?_⟩
    · have h6 : 10 ^ i ≤ 10 ^ 6 := Nat.pow_le_pow_right (by decide) (by omega)
      omega
    · rw [loopW_eq]
      generalize loopW (bd E0 (ev E0) loopW 0 [0, 4, 5, 6] L25b0) = K
      simp -implicitDefEqProofs [bd, L25b0, hi]
  | cons c r ih =>
    intro i n hd0 hit hn
    obtain ⟨hi, hx, hd⟩ := byte_at hd0
    have hc256 := UInt8.toNat_lt c
    by_cases k : c.toNat < 48 ∨ 57 < c.toNat
    · refine .inr ⟨n, by rw [digs, if_pos k], ?_⟩
      rw [loopW_eq]
      generalize loopW (bd E0 (ev E0) loopW 0 [0, 4, 5, 6] L25b0) = K
      by_cases k1 : c.toNat < 48
      · have k2 : (c.toNat : Int) < 48 := by omega
        simp -implicitDefEqProofs [bd, L25b0, hi, -List.getD_eq_getElem?_getD, hx, k1, k2]
      · have k2 : ¬ (c.toNat : Int) < 48 := by omega
        have k3 : 57 < c.toNat := by omega
        have k4 : (57 : Int) < (c.toNat : Int) := by omega
        simp -implicitDefEqProofs [bd, L25b0, hi, -List.getD_eq_getElem?_getD, hx, k1, k2, k3, k4]
    · have hp : 10 ^ (i + 1) = 10 * 10 ^ i := by rw [Nat.pow_succ]; omega
      have hn2 : 10 * n + (c.toNat - 48) < 10 ^ (i + 1) := by omega
      have hih := ih (i + 1) (10 * n + (c.toNat - 48)) hd (by omega) hn2
      have hn6 : n < 1000000 := by
        have : 10 ^ i ≤ 10 ^ 6 := Nat.pow_le_pow_right (by decide) (by omega)
        omega
      have he := dig_cast n c.toNat (by omega)
      have hi1 : ((i + 1 : Nat) : Int) = (i : Int) + 1 := by omega
      have hw : IntKind.i64.wrap ((i : Int) + 1) = (i : Int) + 1 := wr64 (by omega) (by omega)
      have k1 : ¬ (c.toNat : Int) < 48 := by omega
      have k2 : ¬ (57 : Int) < (c.toNat : Int) := by omega
      have k3 : ¬ c.toNat < 48 := by omega
      have k4 : ¬ 57 < c.toNat := by omega
      have u1 : IntKind.u8.wrap ((c.toNat : Int) - 48) = (c.toNat : Int) - 48 := wr8 (by omega) (by omega)
      have w1 : IntKind.i64.wrap (10 * (n : Int)) = 10 * (n : Int) := wr64 (by omega) (by omega)
      have w2 : IntKind.i64.wrap ((c.toNat : Int) - 48) = (c.toNat : Int) - 48 := wr64 (by omega) (by omega)
      have w3 : IntKind.i64.wrap (10 * (n : Int) + ((c.toNat : Int) - 48)) = 10 * (n : Int) + ((c.toNat : Int) - 48) := wr64 (by omega) (by omega)
      rw [he, hi1] at hih
      have hdg : digs (c :: r) n = digs r (10 * n + (c.toNat - 48)) := by rw [digs, if_neg k]
      rw [hdg, loopW_eq]
      generalize loopW (bd E0 (ev E0) loopW 0 [0, 4, 5, 6] L25b0) = K at hih ⊢
      rcases hih with ⟨v, a1, a2, a3⟩ | ⟨m, a1, a3⟩
      · refine .inl ⟨v, a1, a2, ?_⟩
        simpa -implicitDefEqProofs [bd, L25b0, hi, -List.getD_eq_getElem?_getD, hx, k1, k2, k3, k4, u1, w1, w2, w3, hw] using a3
      · refine .inr ⟨m, a1, ?_⟩
        simpa -implicitDefEqProofs [bd, L25b0, hi, -List.getD_eq_getElem?_getD, hx, k1, k2, k3, k4, u1, w1, w2, w3, hw] using a3
theorem rd_cases (l : List UInt8) : (¬ (1 ≤ (bare l).length ∧ (bare l).length ≤ 6) ∧ rd l = (0, false)) ∨ ((1 ≤ (bare l).length ∧ (bare l).length ≤ 6) ∧ digs (bare l) 0 = none ∧ rd l = (0, false)) ∨
    ∃ (n : Nat) (v : Int), (1 ≤ (bare l).length ∧ (bare l).length ≤ 6) ∧ digs (bare l) 0 = some n ∧ v = (if (bare l).length < l.length then -(n : Int) else n) ∧ ((it v = l ∧ rd l = (v, true)) ∨ (¬ it v = l ∧ rd l = (0, false))) := by
  by_cases h : 1 ≤ (bare l).length ∧ (bare l).length ≤ 6
  · cases hd : digs (bare l) 0 with
    | none => exact .inr (.inl ⟨h, rfl, by unfold rd; rw [if_pos h, hd]⟩)
    | some n =>
      refine .inr (.inr ⟨n, _, h, rfl, rfl, ?_⟩)
      by_cases k : it (if (bare l).length < l.length then -(n : Int) else n) = l
      · exact .inl ⟨k, by unfold rd; rw [if_pos h, hd]; simp only []; rw [if_pos k]⟩
      · exact .inr ⟨k, by unfold rd; rw [if_pos h, hd]; simp only []; rw [if_neg k]⟩
  · exact .inl ⟨h, by unfold rd; rw [if_neg h]⟩
theorem read_s (s : ByteArray) (hs : s.size ≤ 1000000) : ev E0 25 [st s] [] = some (.tup [i64 (rd (B s)).1, bl (rd (B s)).2], []) := by
  obtain ⟨t, ht⟩ : ∃ t : ByteArray, t = mk (bare (B s)) := ⟨_, rfl⟩
  have htl : t.size = (bare (B s)).length := by rw [ht, mk_size]
  have htB : B t = bare (B s) := by rw [ht, B_mk']
  have hsl : (B s).length = s.size := B_len s
  have hc := in_s (t.size : Int) 1 6
  rw [e25]
  unfold runF
  have hloop : ∀ n : Nat, 1 ≤ t.size → t.size ≤ 6 → digs (bare (B s)) 0 = some n → (n < 10 ^ 6 ∧ packX 0 [0, 2, 3, 4, 5] (loopW (bd E0 (ev E0) loopW 0 [0, 4, 5, 6] L25b0) ⟨[(0, st s), (4, st t), (5, i64 0), (6, i64 0)], []⟩) = some (.ext 0, ⟨[(0, st s), (4, st t), (5, i64 n)], []⟩)) := by
    intro n h1 h2 hd
    rcases read_loop s t h2 (B t) 0 0 rfl (Nat.zero_le _) (by decide) with ⟨v, a1, a2, a3⟩ | ⟨m, a1, _⟩
    · rw [htB, hd] at a1
      cases a1
      exact ⟨a2, a3⟩
    · rw [htB, hd] at a1
      cases a1
  have hloopn : 1 ≤ t.size → t.size ≤ 6 → digs (bare (B s)) 0 = none → ∃ m : Int, packX 0 [0, 2, 3, 4, 5] (loopW (bd E0 (ev E0) loopW 0 [0, 4, 5, 6] L25b0) ⟨[(0, st s), (4, st t), (5, i64 0), (6, i64 0)], []⟩) = some (.ret, ⟨[(0, st s), (2, i64 0), (3, bl false), (4, st t), (5, i64 m)], []⟩) := by
    intro h1 h2 hd
    rcases read_loop s t h2 (B t) 0 0 rfl (Nat.zero_le _) (by decide) with ⟨v, a1, _⟩ | ⟨m, a1, a3⟩
    · rw [htB, hd] at a1
      cases a1
    · exact ⟨m, a3⟩
  -- what stands ahead of the digits
  have hhead : (1 < s.size ∧ s.data.toList.getD 0 0 = 45 ∧ s.extract 1 s.size = t ∧ t.size < s.size) ∨ (s.size ≤ 1 ∧ t = s) ∨ (1 < s.size ∧ (∃ c : UInt8, s.data.toList.getD 0 0 = c ∧ ¬ c.toNat = 45) ∧ t = s) := by
    cases hB : B s with
    | nil =>
      refine .inr (.inl ⟨by rw [hB] at hsl; simp at hsl; omega, ?_⟩)
      rw [ht, hB, show bare [] = [] from rfl, ← hB, mk_B]
    | cons c r =>
      have hl : r.length + 1 = s.size := by rw [← hsl, hB]; rfl
      have h0 : s.data.toList.getD 0 0 = c := by
        show (B s).getD 0 0 = c
        rw [hB]
        rfl
      by_cases k : 1 ≤ r.length ∧ c = 45
      · have hb : bare (c :: r) = r := by show (if _ then _ else _) = _; rw [if_pos k]
        refine .inl ⟨by omega, h0.trans k.2, ?_, ?_⟩
        · rw [from_mk, ht, hB, hb]
          rfl
        · rw [htl, hB, hb]
          omega
      · have hb : bare (c :: r) = c :: r := by show (if _ then _ else _) = _; rw [if_neg k]
        have hts : t = s := by rw [ht, hB, hb, ← hB, mk_B]
        by_cases k1 : 1 ≤ r.length
        · refine .inr (.inr ⟨by omega, ⟨c, h0, fun h => k ⟨k1, UInt8.toNat_inj.1 h⟩⟩, hts⟩)
        · exact .inr (.inl ⟨by omega, hts⟩)
  rcases hhead with ⟨g1, g2, g3, g4⟩ | ⟨g1, g4⟩ | ⟨g1, ⟨c, g2, g3⟩, g4⟩
  · have G1 : (1 : Int) < (s.size : Int) := by omega
    have G2 : 0 < s.size := by omega
    have G3 : (1 : Int) ≤ (s.size : Int) := by omega
    have G4 : (t.size : Int) < (s.size : Int) := by omega
    rcases rd_cases (B s) with ⟨q1, q2⟩ | ⟨q1, q2, q3⟩ | ⟨n, v, q1, q2, q3, q4⟩
    · have q1' : ¬ (1 ≤ (t.size : Int) ∧ (t.size : Int) ≤ 6) := by omega
      rw [decide_eq_false q1'] at hc
      rw [q2]
      simp -implicitDefEqProofs [L25, -List.getD_eq_getElem?_getD, hc, G1, G2, G3, G4, g2, g3]
    · have q1' : 1 ≤ (t.size : Int) ∧ (t.size : Int) ≤ 6 := by omega
      rw [decide_eq_true q1'] at hc
      rw [q3]
      obtain ⟨m, hl⟩ := hloopn (by omega) (by omega) q2
      simp -implicitDefEqProofs [L25, -List.getD_eq_getElem?_getD, hc, G1, G2, G3, G4, g2, g3, hl]
    · have q1' : 1 ≤ (t.size : Int) ∧ (t.size : Int) ≤ 6 := by omega
      rw [decide_eq_true q1'] at hc
      obtain ⟨hn6, hl⟩ := hloop n (by omega) (by omega) q2
      rw [if_pos (by omega)] at q3
      have hun : un .neg (i64 (n : Int)) = some (i64 v) := by
        show some (i64 (IntKind.i64.wrap (0 - (n : Int)))) = _
        rw [show (0 - (n : Int)) = v by omega, wr64 (by omega) (by omega)]
      have hz := num_z v (by omega) (by omega)
      have hit : it v = Lib.itoa v := it_eq (by omega) (by omega)
      rw [hit] at q4
      rcases q4 with ⟨q4, q5⟩ | ⟨q4, q5⟩
      · have hm : mk (Lib.itoa v) = s := by rw [q4, mk_B]
        rw [hm] at hz
        rw [q5]
        simp -implicitDefEqProofs [L25, -List.getD_eq_getElem?_getD, hc, G1, G2, G3, G4, g2, g3, hl, hz, hun]
      · have hm : ¬ mk (Lib.itoa v) = s := fun h => q4 (by rw [← h, B_mk'])
        rw [q5]
        generalize mk (Lib.itoa v) = u at *
        simp -implicitDefEqProofs [L25, -List.getD_eq_getElem?_getD, hc, G1, G2, G3, G4, g2, g3, hl, hz, hm, hun]
  · subst g4
    have G1 : ¬ (1 : Int) < (t.size : Int) := by omega
    rcases rd_cases (B t) with ⟨q1, q2⟩ | ⟨q1, q2, q3⟩ | ⟨n, v, q1, q2, q3, q4⟩
    · have q1' : ¬ (1 ≤ (t.size : Int) ∧ (t.size : Int) ≤ 6) := by omega
      rw [decide_eq_false q1'] at hc
      rw [q2]
      simp -implicitDefEqProofs [L25, -List.getD_eq_getElem?_getD, hc, G1]
    · have q1' : 1 ≤ (t.size : Int) ∧ (t.size : Int) ≤ 6 := by omega
      rw [decide_eq_true q1'] at hc
      rw [q3]
      obtain ⟨m, hl⟩ := hloopn (by omega) (by omega) q2
      simp -implicitDefEqProofs [L25, -List.getD_eq_getElem?_getD, hc, G1, hl]
    · have q1' : 1 ≤ (t.size : Int) ∧ (t.size : Int) ≤ 6 := by omega
      rw [decide_eq_true q1'] at hc
      obtain ⟨hn6, hl⟩ := hloop n (by omega) (by omega) q2
      rw [if_neg (by omega)] at q3
      subst q3
      have hz := num_z (n : Int) (by omega) (by omega)
      have hit : it (n : Int) = Lib.itoa (n : Int) := it_eq (by omega) (by omega)
      rw [hit] at q4
      rcases q4 with ⟨q4, q5⟩ | ⟨q4, q5⟩
      · have hm : mk (Lib.itoa (n : Int)) = t := by rw [q4, mk_B]
        rw [hm] at hz
        rw [q5]
        simp -implicitDefEqProofs [L25, -List.getD_eq_getElem?_getD, hc, G1, hl, hz]
      · have hm : ¬ mk (Lib.itoa (n : Int)) = t := fun h => q4 (by rw [← h, B_mk'])
        rw [q5]
        generalize mk (Lib.itoa (n : Int)) = u at *
        simp -implicitDefEqProofs [L25, -List.getD_eq_getElem?_getD, hc, G1, hl, hz, hm]
  · subst g4
    have G1 : (1 : Int) < (t.size : Int) := by omega
    have G2 : 0 < t.size := by omega
    have G3 : ¬ (c.toNat : Int) = 45 := by omega
    rcases rd_cases (B t) with ⟨q1, q2⟩ | ⟨q1, q2, q3⟩ | ⟨n, v, q1, q2, q3, q4⟩
    · have q1' : ¬ (1 ≤ (t.size : Int) ∧ (t.size : Int) ≤ 6) := by omega
      rw [decide_eq_false q1'] at hc
      rw [q2]
      simp -implicitDefEqProofs [L25, -List.getD_eq_getElem?_getD, hc, G1, G2, g2, g3, G3]
    · have q1' : 1 ≤ (t.size : Int) ∧ (t.size : Int) ≤ 6 := by omega
      rw [decide_eq_true q1'] at hc
      rw [q3]
      obtain ⟨m, hl⟩ := hloopn (by omega) (by omega) q2
      simp -implicitDefEqProofs [L25, -List.getD_eq_getElem?_getD, hc, G1, G2, g2, g3, G3, hl]
    · have q1' : 1 ≤ (t.size : Int) ∧ (t.size : Int) ≤ 6 := by omega
      rw [decide_eq_true q1'] at hc
      obtain ⟨hn6, hl⟩ := hloop n (by omega) (by omega) q2
      rw [if_neg (by omega)] at q3
      subst q3
      have hz := num_z (n : Int) (by omega) (by omega)
      have hit : it (n : Int) = Lib.itoa (n : Int) := it_eq (by omega) (by omega)
      rw [hit] at q4
      rcases q4 with ⟨q4, q5⟩ | ⟨q4, q5⟩
      · have hm : mk (Lib.itoa (n : Int)) = t := by rw [q4, mk_B]
        rw [hm] at hz
        rw [q5]
        simp -implicitDefEqProofs [L25, -List.getD_eq_getElem?_getD, hc, G1, G2, g2, g3, G3, hl, hz]
      · have hm : ¬ mk (Lib.itoa (n : Int)) = t := fun h => q4 (by rw [← h, B_mk'])
        rw [q5]
        generalize mk (Lib.itoa (n : Int)) = u at *
        simp -implicitDefEqProofs [L25, -List.getD_eq_getElem?_getD, hc, G1, G2, g2, g3, G3, hl, hz, hm]
theorem verify_i (s : ByteArray) (hs : s.size ≤ 1048576) : ev E0 14 [st s] [] = some (if seal_ (upto 35 (B s)) = B s ∧ s.size ≤ 4000 then .tup [st (mk (upto 35 (B s))), bl true] else .tup [st ⟨#[]⟩, bl false], []) := by
  have hcut : ev E0 31 [st s, st ⟨#[35]⟩] [] = some (.tup [st (mk (upto 35 (B s))), st (mk ((B s).drop ((upto 35 (B s)).length + 1))), bl (decide (35 ∈ B s))], []) := by
    rw [e31]
    show (if _ then _ else _) = _
    rw [if_pos (by omega)]
    have h := cut_one (B s) 35
    show some (AV.tup [st ⟨(Lib.cut (B s) [35]).1.toArray⟩, st ⟨(Lib.cut (B s) [35]).2.1.toArray⟩, bl (Lib.cut (B s) [35]).2.2], ([] : Hp)) = _
    rw [h]
    rfl
  have hul := upto_len 35 (B s)
  have hbl := B_len s
  have ha := append_i (mk (upto 35 (B s))) (by rw [mk_size]; omega)
  rw [B_mk', if_neg (notin_upto 35 (B s))] at ha
  have hse := seal_len (upto 35 (B s))
  generalize upto 35 (B s) = u at *
  by_cases h1 : (seal_ u).length ≤ 4000
  · rw [if_pos h1] at ha
    by_cases h2 : seal_ u = B s
    · have h3 : mk (seal_ u) = s := by rw [h2, mk_B]
      rw [h3] at ha
      have h4 : s.size ≤ 4000 := by rw [← hbl, ← h2]; exact h1
      rw [if_pos ⟨h2, h4⟩]
      rw [e14]
      unfold runF
      simp -implicitDefEqProofs [L14, hcut, ha]
    · have h3 : ¬ mk (seal_ u) = s := fun h => h2 (by rw [← h, B_mk'])
      rw [if_neg (fun h => h2 h.1)]
      generalize mk (seal_ u) = y at *
      rw [e14]
      unfold runF
      simp -implicitDefEqProofs [L14, hcut, ha, h3]
  · rw [if_neg h1] at ha
    rw [if_neg (fun h => h1 (by rw [h.1, hbl]; exact h.2))]
    rw [e14]
    unfold runF
    simp -implicitDefEqProofs [L14, hcut, ha]
/-- AppendChecksum. -/
def app (s : ByteArray) : ByteArray × Bool := if 35 ∉ B s ∧ (seal_ (B s)).length ≤ 4000 then (mk (seal_ (B s)), true) else (⟨#[]⟩, false)
theorem app_i (s : ByteArray) (hs : s.size ≤ 1048576) : ev E0 12 [st s] [] = some (.tup [st (app s).1, bl (app s).2], []) := by
  rw [append_i s hs]
  unfold app
  by_cases h1 : 35 ∈ B s
  · rw [if_pos h1, if_neg (fun h => h.1 h1)]
  · rw [if_neg h1]
    by_cases h2 : (seal_ (B s)).length ≤ 4000
    · rw [if_pos h2, if_pos ⟨h1, h2⟩]
    · rw [if_neg h2, if_neg (fun h => h2 h.2)]
theorem app_s (s : ByteArray) (hs : s.size ≤ 1048576) : ev E0 13 [st s] [] = some (.tup [st (app s).1, bl (app s).2], []) := by
  have h2 := seal_s s hs
  have h1 := stands_s s (by omega) 35
  rw [show ((35 : UInt8).toNat : Int) = 35 from rfl] at h1
  have hms : (mk (seal_ (B s))).size = (seal_ (B s)).length := mk_size _
  have hgt : s.size < (seal_ (B s)).length := by
    unfold seal_
    rw [List.length_append, B_len]
    simp
  unfold app
  by_cases h3 : 35 ∈ B s
  · have h4 : (B s).contains 35 = true := by simpa using h3
    rw [h4] at h1
    rw [if_neg (fun h => h.1 h3)]
    by_cases h5 : (4000 : Int) < (s.size : Int)
    · rw [e13]
      unfold runF
      simp -implicitDefEqProofs [L13, h1, h5]
    · rw [e13]
      unfold runF
      simp -implicitDefEqProofs [L13, h1, h5]
  · have h4 : (B s).contains 35 = false := by simpa using h3
    rw [h4] at h1
    generalize mk (seal_ (B s)) = T at *
    by_cases h6 : (seal_ (B s)).length ≤ 4000
    · have h5 : ¬ (4000 : Int) < (s.size : Int) := by omega
      have h7 : ¬ (4000 : Int) < (T.size : Int) := by omega
      rw [if_pos ⟨h3, h6⟩]
      rw [e13]
      unfold runF
      simp -implicitDefEqProofs [L13, h1, h2, h5, h7]
    · have h7 : (4000 : Int) < (T.size : Int) := by omega
      rw [if_neg (fun h => h6 h.2)]
      by_cases h5 : (4000 : Int) < (s.size : Int)
      · rw [e13]
        unfold runF
        simp -implicitDefEqProofs [L13, h1, h2, h5]
      · rw [e13]
        unfold runF
        simp -implicitDefEqProofs [L13, h1, h2, h5, h7]
end Go.Proofs.YtpoifmkgdfjhbaaDoor.Ev.Lg
