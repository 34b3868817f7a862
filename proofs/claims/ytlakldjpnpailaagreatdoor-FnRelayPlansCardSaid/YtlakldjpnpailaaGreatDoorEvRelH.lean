/- Plans: their text; copies and sizes of jobs and hops. -/
import Derived.Test.YtlakldjpnpailaaGreatDoorEvRelG
import Derived.Lib.ItoaNum
set_option linter.unusedVariables false
set_option linter.unusedSimpArgs false
namespace Go.Proofs.YtlakldjpnpailaaGreatDoor.Ev
def B (s : ByteArray) : List UInt8 := s.data.toList
theorem B_len (s : ByteArray) : (B s).length = s.size := by unfold B; simp
theorem B_append (s t : ByteArray) : B (s ++ t) = B s ++ B t := by unfold B; simp
theorem B_inj {s t : ByteArray} (h : B s = B t) : s = t := ByteArray.ext (Array.ext' h)
theorem B_mk (l : List UInt8) : B ⟨l.toArray⟩ = l := by unfold B; simp
def mkB (l : List UInt8) : ByteArray := ⟨l.toArray⟩
theorem mkB_size (l : List UInt8) : (mkB l).size = l.length := by rw [← B_len]; exact congrArg List.length (B_mk l)
theorem dec_len : ∀ (k u : Nat), u < 10 ^ (k + 1) → (Lib.decDigits u).length ≤ k + 1 := by
  intro k
  induction k with
  | zero =>
    intro u h
    rw [Lib.decDigits, dif_pos (by simpa using h)]
    simp
  | succ k ih =>
    intro u h
    by_cases h1 : u < 10
    · rw [Lib.decDigits, dif_pos h1]
      simp
    · rw [Lib.decDigits, dif_neg h1]
      have h2 : u / 10 < 10 ^ (k + 1) := by
        rw [Nat.pow_succ] at h
        exact Nat.div_lt_of_lt_mul (by rw [Nat.mul_comm]; exact h)
      have := ih _ h2
      simp only [List.length_append, List.length_cons, List.length_nil]
      omega
theorem dec_len20 {u : Nat} (h : u ≤ 9223372036854775808) : (Lib.decDigits u).length ≤ 19 := dec_len 18 u (Nat.lt_of_le_of_lt h (by decide))
theorem itoa_len {n : Int} (h : -9223372036854775808 ≤ n ∧ n ≤ 9223372036854775807) : (Lib.itoa n).length ≤ 20 := by
  unfold Lib.itoa
  split
  · have := dec_len20 (u := n.natAbs) (by omega)
    simp only [List.length_cons]
    omega
  · have := dec_len20 (u := n.toNat) (by omega)
    omega
theorem digit_piece {i : Nat} (h : i < 10) : (⟨#[48, 49, 50, 51, 52, 53, 54, 55, 56, 57]⟩ : ByteArray).extract i (i + 1) = ⟨[UInt8.ofNat (48 + i)].toArray⟩ := by
  match i, h with
  | 0, _ | 1, _ | 2, _ | 3, _ | 4, _ | 5, _ | 6, _ | 7, _ | 8, _ | 9, _ => decide +kernel
theorem app_mk (a b : List UInt8) : (⟨a.toArray⟩ : ByteArray) ++ ⟨b.toArray⟩ = ⟨(a ++ b).toArray⟩ := by
  apply B_inj
  rw [B_append, B_mk, B_mk, B_mk]
def nm (n : Int) : ByteArray := mkB (Lib.itoa n)
theorem itoa_i (n : Int) (hn : -9223372036854775808 ≤ n ∧ n ≤ 9223372036854775807) : ev E0 39 [i64 n] [] = some (st (nm n), []) := by
  rw [e39]
  show (if _ then _ else _) = _
  rw [if_pos hn]
  rfl
theorem num_s : ∀ (m n : Nat), n ≤ m → n ≤ 1073741824 → ev E0 42 [i64 n] [] = some (st (mkB (Lib.decDigits n)), []) := by
  have hz : (⟨#[48, 49, 50, 51, 52, 53, 54, 55, 56, 57]⟩ : ByteArray).size = 10 := rfl
  intro m
  induction m with
  | zero =>
    intro n hn _
    obtain rfl : n = 0 := by omega
    rw [e42]
    unfold runF
    have hw : IntKind.i64.wrap 1 = 1 := by decide
    have hd : Lib.decDigits 0 = [48] := by rw [Lib.decDigits, dif_pos (by decide)]; rfl
    have hp := digit_piece (i := 0) (by decide)
    rw [hd]
    simp -implicitDefEqProofs [L42, hw, hz]
    exact hp
  | succ m ih =>
    intro n hn hb
    rw [e42]
    unfold runF
    have h0 : ¬ (n : Int) < 0 := by omega
    by_cases h : n < 10
    · have h1 : (n : Int) < 10 := by omega
      have hw : IntKind.i64.wrap ((n : Int) + 1) = (n : Int) + 1 := wr64 (by omega) (by omega)
      have hd : Lib.decDigits n = [UInt8.ofNat (48 + n)] := by rw [Lib.decDigits, dif_pos h]
      have hp := digit_piece (i := n) h
      have h2 : (n : Int) ≤ (n : Int) + 1 := by omega
      have h3 : (n : Int) + 1 ≤ 10 := by omega
      have h4 : ((n : Int) + 1).toNat = n + 1 := by omega
      rw [hd]
      generalize UInt8.ofNat (48 + n) = x at hp ⊢
      simp -implicitDefEqProofs [L42, hw, hz, h0, h, h1, h2, h3, h4]
      exact hp
    · have h1 : ¬ (n : Int) < 10 := by omega
      have t1 : Int.tdiv (n : Int) 10 = ((n / 10 : Nat) : Int) := rfl
      have t2 : Int.tmod (n : Int) 10 = ((n % 10 : Nat) : Int) := rfl
      have hih := ih (n / 10) (by omega) (by omega)
      have hd : Lib.decDigits n = Lib.decDigits (n / 10) ++ [UInt8.ofNat (48 + n % 10)] := by conv => lhs; rw [Lib.decDigits, dif_neg h]
      have hp := digit_piece (i := n % 10) (by omega)
      have hl := dec_len20 (u := n / 10) (by omega)
      generalize hq : n / 10 = q at *
      generalize hr : n % 10 = r at *
      have hr10 : r < 10 := by omega
      generalize UInt8.ofNat (48 + r) = x at *
      have w1 : IntKind.i64.wrap (q : Int) = (q : Int) := wr64 (by omega) (by omega)
      have w2 : IntKind.i64.wrap ((r : Int) + 1) = (r : Int) + 1 := wr64 (by omega) (by omega)
      have h2 : (r : Int) ≤ (r : Int) + 1 := by omega
      have h3 : (r : Int) + 1 ≤ 10 := by omega
      have h4 : ((r : Int) + 1).toNat = r + 1 := by omega
      have hsz : (mkB (Lib.decDigits q)).size + (mkB [x]).size ≤ 9223372036854775807 := by rw [mkB_size, mkB_size]; simp; omega
      have hp2 : (⟨#[48, 49, 50, 51, 52, 53, 54, 55, 56, 57]⟩ : ByteArray).extract r (r + 1) = mkB [x] := hp
      have happ : mkB (Lib.decDigits q) ++ mkB [x] = mkB (Lib.decDigits q ++ [x]) := app_mk _ _
      rw [hd]
      simp -implicitDefEqProofs [L42, hz, h0, h, h1, t1, t2, w1, w2, h2, h3, h4, hih, hp2, hsz, happ]
theorem num_z (n : Int) (h1 : -9 ≤ n) (h2 : n ≤ 1073741824) : ev E0 42 [i64 n] [] = some (st (nm n), []) := by
  by_cases h : n < 0
  · obtain ⟨k, rfl⟩ : ∃ k : Nat, n = -(k : Int) := ⟨n.natAbs, by omega⟩
    have hk := num_s k k (Nat.le_refl _) (by omega)
    have hl := dec_len20 (u := k) (by omega)
    have hw : IntKind.i64.wrap (k : Int) = (k : Int) := wr64 (by omega) (by omega)
    have q1 : 0 < k := by omega
    have q2 : (k : Int) < 10 := by omega
    have q3 : k < 10 := by omega
    have q4 : (0 : Int) < (k : Int) := by omega
    have q5 : (-10 : Int) < -(k : Int) := by omega
    have hn : nm (-(k : Int)) = mkB [45] ++ mkB (Lib.decDigits k) := by
      unfold nm Lib.itoa
      rw [if_pos h, show (-(k : Int)).natAbs = k by omega]
      exact (app_mk [45] _).symm
    have hsz : (⟨#[45]⟩ : ByteArray).size + (mkB (Lib.decDigits k)).size ≤ 9223372036854775807 := by rw [mkB_size]; have : (⟨#[45]⟩ : ByteArray).size = 1 := rfl; omega
    have hun : un .neg (i64 (-(k : Int))) = some (i64 (k : Int)) := by
      show some (i64 (IntKind.i64.wrap (0 - -(k : Int)))) = _
      rw [show (0 - -(k : Int)) = (k : Int) by omega, hw]
    rw [hn, e42]
    unfold runF
    simp -implicitDefEqProofs [L42, hw, q1, q2, q3, q4, q5, hk, hsz, hun]
    rfl
  · obtain ⟨k, rfl⟩ : ∃ k : Nat, n = (k : Int) := ⟨n.toNat, by omega⟩
    have hk := num_s k k (Nat.le_refl _) (by omega)
    unfold nm Lib.itoa
    rw [if_neg (by omega), Int.toNat_natCast]
    exact hk
def word (js : List J) (h : Hh) : ByteArray := ((((nm h.1 ++ nm h.2.1) ++ ⟨#[62]⟩) ++ nm (nxt js h)) ++ ⟨#[64]⟩) ++ nm h.2.2
def stepT (i : Nat) (s m : ByteArray) : ByteArray := if i = 0 then s ++ m else (s ++ ⟨#[32]⟩) ++ m
def textL : Nat → ByteArray → List ByteArray → ByteArray
  | _, s, [] => s
  | i, s, m :: t => textL (i + 1) (stepT i s m) t
/-- What the text of a hop needs. -/
def TB (js : List J) (h : Hh) : Prop := HB js h ∧ 0 ≤ h.2.1 ∧ h.2.1 ≤ 5
theorem way_le (j : J) : -1 ≤ way j ∧ way j ≤ 1 := by unfold way; split <;> omega
theorem nm_size {n : Int} (h1 : -100000 ≤ n) (h2 : n ≤ 100000) : (nm n).size ≤ 20 := by
  unfold nm
  rw [mkB_size]
  exact itoa_len (by omega)
theorem word_size {js : List J} (hl : js.length ≤ 5) {h : Hh} (hb : TB js h) : (nm h.1).size ≤ 20 ∧ (nm h.2.1).size ≤ 20 ∧ (nm (nxt js h)).size ≤ 20 ∧ (nm h.2.2).size ≤ 20 ∧ (word js h).size ≤ 82 := by
  obtain ⟨⟨b1, b2, b3, b4, b5, b6⟩, b7, b8⟩ := hb
  have hw := way_le (jat js h.1)
  have s1 := nm_size (n := h.1) (by omega) (by omega)
  have s2 := nm_size (n := h.2.1) (by omega) (by omega)
  have s3 := nm_size (n := nxt js h) (by unfold nxt; omega) (by unfold nxt; omega)
  have s4 := nm_size (n := h.2.2) (by omega) (by omega)
  refine ⟨s1, s2, s3, s4, ?_⟩
  have o1 : (⟨#[62]⟩ : ByteArray).size = 1 := rfl
  have o2 : (⟨#[64]⟩ : ByteArray).size = 1 := rfl
  unfold word
  simp only [ByteArray.size_append, o1, o2]
  omega
theorem text_loop (js : List J) (hj : ∀ j ∈ js, JB j) (hl : js.length ≤ 5) (pl : List Hh) (hb : ∀ h ∈ pl, TB js h) (hpl : pl.length ≤ 1099511627776) : ∀ (t : List Hh) (i : Nat) (s : ByteArray), pl.drop i = t → s.size ≤ 100 * i →
    packX 0 [8] (loopW (bd E0 (ev E0) loopW 0 [1, 2, 8, 9] L14b0) ⟨[(1, .lst 4 (js.map jb)), (2, .lst 3 (pl.map hp)), (8, st s), (9, i64 i)], []⟩) = some (.ext 0, ⟨[(8, st (textL i s (t.map (word js))))], []⟩) := by
  intro t
  induction t with
  | nil =>
    intro i s h _
    have hi := not_drop h
    rw [loopW_eq]
    generalize loopW (bd E0 (ev E0) loopW 0 [1, 2, 8, 9] L14b0) = K
    simp -implicitDefEqProofs [bd, L14b0, hi, textL]
  | cons h t ih =>
    intro i s hd0 hs
    obtain ⟨hi, hx, hd, hmem⟩ := at_drop hd0
    have hB := hb _ hmem
    obtain ⟨z1, z2, z3, z4, z5⟩ := word_size hl hB
    obtain ⟨⟨b1, b2, b3, b4, b5, b6⟩, b7, b8⟩ := id hB
    have hwy := way_le (jat js h.1)
    have n1 := num_z h.1 (by omega) (by omega)
    have n2 := num_z h.2.1 (by omega) (by omega)
    have n3 := num_z (nxt js h) (by unfold nxt; omega) (by unfold nxt; omega)
    have n4 := num_z h.2.2 (by omega) (by omega)
    have hn := next_s js hj h hB.1
    have hst : (stepT i s (word js h)).size ≤ 100 * (i + 1) := by
      have o1 : (⟨#[32]⟩ : ByteArray).size = 1 := rfl
      unfold stepT
      split <;> simp only [ByteArray.size_append, o1] <;> omega
    have hih := ih (i + 1) (stepT i s (word js h)) hd hst
    have hw : IntKind.i64.wrap ((i : Int) + 1) = (i : Int) + 1 := wr64 (by omega) (by omega)
    have o32 : (⟨#[32]⟩ : ByteArray).size = 1 := rfl
    have o62 : (⟨#[62]⟩ : ByteArray).size = 1 := rfl
    have o64 : (⟨#[64]⟩ : ByteArray).size = 1 := rfl
    rw [cs1] at hih
    rw [List.map_cons, textL, loopW_eq]
    generalize textL (i + 1) (stepT i s (word js h)) (t.map (word js)) = q at hih ⊢
    generalize loopW (bd E0 (ev E0) loopW 0 [1, 2, 8, 9] L14b0) = K at hih ⊢
    by_cases h0 : i = 0
    · subst h0
      have hst : stepT 0 s (word js h) = ((((((s ++ nm h.1) ++ nm h.2.1) ++ ⟨#[62]⟩) ++ nm (nxt js h)) ++ ⟨#[64]⟩) ++ nm h.2.2) := by
        unfold stepT word
        rw [if_pos rfl]
        simp only [ByteArray.append_assoc]
      rw [hst] at hih
      simp at hw
      generalize nm h.1 = A1 at *
      generalize nm h.2.1 = A2 at *
      generalize nm (nxt js h) = A3 at *
      generalize nm h.2.2 = A4 at *
      have c1 : s.size + A1.size ≤ 9223372036854775807 := by omega
      have c2 : s.size + A1.size + A2.size ≤ 9223372036854775807 := by omega
      have c3 : s.size + A1.size + A2.size + (⟨#[62]⟩ : ByteArray).size ≤ 9223372036854775807 := by omega
      have c4 : s.size + A1.size + A2.size + (⟨#[62]⟩ : ByteArray).size + A3.size ≤ 9223372036854775807 := by omega
      have c5 : s.size + A1.size + A2.size + (⟨#[62]⟩ : ByteArray).size + A3.size + (⟨#[64]⟩ : ByteArray).size ≤ 9223372036854775807 := by omega
      have c6 : s.size + A1.size + A2.size + (⟨#[62]⟩ : ByteArray).size + A3.size + (⟨#[64]⟩ : ByteArray).size + A4.size ≤ 9223372036854775807 := by omega
      unfold hp at *
      simpa -implicitDefEqProofs [bd, L14b0, hi, hx, hw, c1, c2, c3, c4, c5, c6, n1, n2, n3, n4, hn] using hih
    · have hst : stepT i s (word js h) = (((((((s ++ ⟨#[32]⟩) ++ nm h.1) ++ nm h.2.1) ++ ⟨#[62]⟩) ++ nm (nxt js h)) ++ ⟨#[64]⟩) ++ nm h.2.2) := by
        unfold stepT word
        rw [if_neg h0]
        simp only [ByteArray.append_assoc]
      have hp1 : (0 : Int) < (i : Int) := by omega
      have hp2 : 0 < i := by omega
      rw [hst] at hih
      generalize nm h.1 = A1 at *
      generalize nm h.2.1 = A2 at *
      generalize nm (nxt js h) = A3 at *
      generalize nm h.2.2 = A4 at *
      have c0' : s.size + (⟨#[32]⟩ : ByteArray).size ≤ 9223372036854775807 := by omega
      have c1 : s.size + (⟨#[32]⟩ : ByteArray).size + A1.size ≤ 9223372036854775807 := by omega
      have c2 : s.size + (⟨#[32]⟩ : ByteArray).size + A1.size + A2.size ≤ 9223372036854775807 := by omega
      have c3 : s.size + (⟨#[32]⟩ : ByteArray).size + A1.size + A2.size + (⟨#[62]⟩ : ByteArray).size ≤ 9223372036854775807 := by omega
      have c4 : s.size + (⟨#[32]⟩ : ByteArray).size + A1.size + A2.size + (⟨#[62]⟩ : ByteArray).size + A3.size ≤ 9223372036854775807 := by omega
      have c5 : s.size + (⟨#[32]⟩ : ByteArray).size + A1.size + A2.size + (⟨#[62]⟩ : ByteArray).size + A3.size + (⟨#[64]⟩ : ByteArray).size ≤ 9223372036854775807 := by omega
      have c6 : s.size + (⟨#[32]⟩ : ByteArray).size + A1.size + A2.size + (⟨#[62]⟩ : ByteArray).size + A3.size + (⟨#[64]⟩ : ByteArray).size + A4.size ≤ 9223372036854775807 := by omega
      unfold hp at *
      simpa -implicitDefEqProofs [bd, L14b0, hi, hx, hw, hp1, hp2, c0', c1, c2, c3, c4, c5, c6, n1, n2, n3, n4, hn] using hih
def rs (l : List ByteArray) : Option Blk := some ⟨9, 1, 1, false, l.map st⟩
theorem words_loop (js : List J) (hj : ∀ j ∈ js, JB j) (hl : js.length ≤ 5) (pl : List Hh) (hb : ∀ h ∈ pl, TB js h) (hpl : pl.length ≤ 1099511627776) : ∀ (t : List Hh) (i : Nat) (xs : List ByteArray), pl.drop i = t → xs.length = i →
    packX 0 [8] (loopW (bd E0 (ev E0) loopW 0 [1, 8, 17, 18, 19] L13b0) ⟨[(1, .lst 4 (js.map jb)), (8, .sl 0 0 xs.length), (17, .lst 3 (pl.map hp)), (18, i64 pl.length), (19, i64 i)], [rs xs]⟩) = some (.ext 0, ⟨[(8, .sl 0 0 (xs ++ t.map (word js)).length)], [rs (xs ++ t.map (word js))]⟩) := by
  intro t
  induction t with
  | nil =>
    intro i xs h _
    have hi := not_drop h
    have hi2 : ¬ (i : Int) < (pl.length : Int) := by omega
    rw [loopW_eq]
    generalize loopW (bd E0 (ev E0) loopW 0 [1, 8, 17, 18, 19] L13b0) = K
    unfold rs
    simp -implicitDefEqProofs [bd, L13b0, hi, hi2]
  | cons h t ih =>
    intro i xs hd0 hxs
    obtain ⟨hi, hx, hd, hmem⟩ := at_drop hd0
    have hi2 : (i : Int) < (pl.length : Int) := by omega
    have hB := hb _ hmem
    obtain ⟨z1, z2, z3, z4, z5⟩ := word_size hl hB
    obtain ⟨⟨b1, b2, b3, b4, b5, b6⟩, b7, b8⟩ := id hB
    have hih := ih (i + 1) (xs ++ [word js h]) hd (by simp [hxs])
    obtain ⟨a, b, e⟩ := h
    obtain ⟨k, rfl⟩ : ∃ k : Nat, a = k := ⟨a.toNat, by omega⟩
    dsimp only at *
    have hk : k < js.length := by omega
    have hjat := jat_get hk
    have hwy := way_le (jat js (k : Int))
    have n1 := itoa_i (k : Int) (by omega)
    have n2 := itoa_i b (by omega)
    have n3 := itoa_i (nxt js ((k : Int), b, e)) (by unfold nxt; dsimp only; omega)
    have n4 := itoa_i e (by omega)
    have hn := next_i js[k] (hj _ (List.getElem_mem hk)) b (by omega) (by omega)
    have hnx : nxt js ((k : Int), b, e) = b + way js[k] := by unfold nxt; rw [hjat]
    rw [← hnx] at hn
    have hw : IntKind.i64.wrap ((i : Int) + 1) = (i : Int) + 1 := wr64 (by omega) (by omega)
    have o62 : (⟨#[62]⟩ : ByteArray).size = 1 := rfl
    have o64 : (⟨#[64]⟩ : ByteArray).size = 1 := rfl
    have hword : word js ((k : Int), b, e) = ((((nm (k : Int) ++ nm b) ++ ⟨#[62]⟩) ++ nm (nxt js ((k : Int), b, e))) ++ ⟨#[64]⟩) ++ nm e := rfl
    rw [cs1] at hih
    have l1 : (xs.length + 1) * 16 ≤ 140737488355328 := by omega
    have l2 : xs.length + 1 ≤ 140737488355328 := by omega
    have t1 : ∀ l : List ByteArray, List.take l.length (l.map st) = l.map st := fun l => List.take_of_length_le (by simp)
    rw [List.map_cons, loopW_eq]
    generalize loopW (bd E0 (ev E0) loopW 0 [1, 8, 17, 18, 19] L13b0) = K at hih ⊢
    simp only [List.append_assoc, List.cons_append, List.nil_append, List.length_append, List.length_cons, List.length_nil] at hih
    simp only [List.length_append, List.length_cons]
    generalize t.map (word js) = T at hih ⊢
    rw [hword] at hih ⊢
    generalize nxt js ((k : Int), b, e) = nx at *
    generalize nm (k : Int) = A1 at *
    generalize nm b = A2 at *
    generalize nm nx = A3 at *
    generalize nm e = A4 at *
    have c1 : A1.size + A2.size ≤ 9223372036854775807 := by omega
    have c2 : A1.size + A2.size + (⟨#[62]⟩ : ByteArray).size ≤ 9223372036854775807 := by omega
    have c3 : A1.size + A2.size + (⟨#[62]⟩ : ByteArray).size + A3.size ≤ 9223372036854775807 := by omega
    have c4 : A1.size + A2.size + (⟨#[62]⟩ : ByteArray).size + A3.size + (⟨#[64]⟩ : ByteArray).size ≤ 9223372036854775807 := by omega
    have c5 : A1.size + A2.size + (⟨#[62]⟩ : ByteArray).size + A3.size + (⟨#[64]⟩ : ByteArray).size + A4.size ≤ 9223372036854775807 := by omega
    unfold rs hp jb at *
    simpa -implicitDefEqProofs [bd, L13b0, hi, hi2, hx, hk, hw, l1, l2, t1, c1, c2, c3, c4, c5, n1, n2, n3, n4, hn] using hih
end Go.Proofs.YtlakldjpnpailaaGreatDoor.Ev
