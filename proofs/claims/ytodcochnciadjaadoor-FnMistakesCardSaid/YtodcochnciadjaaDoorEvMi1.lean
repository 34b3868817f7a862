/- The distance of two texts of marks: the program's and the reference's. -/
import Derived.Test.YtodcochnciadjaaDoorEvTm
import Derived.Test.YtodcochnciadjaaDoorEvDs
set_option linter.unusedVariables false
set_option linter.unusedSimpArgs false
namespace Go.Proofs.YtodcochnciadjaaDoor.Ev
theorem B_nil {a : ByteArray} (h : B a = []) : a = ⟨#[]⟩ := B_eq h
theorem B_tail {a : ByteArray} {x : UInt8} {t : List UInt8} (h : B a = x :: t) : B (a.extract 1 a.size) = t ∧ a.size = t.length + 1 ∧ a.data.toList.getD 0 0 = x ∧ a ≠ ⟨#[]⟩ := by
  have hl := B_len a
  rw [h, List.length_cons] at hl
  refine ⟨?_, by omega, ?_, ?_⟩
  · rw [B_ext, List.take_of_length_le (by rw [B_len]; exact Nat.le_refl _), h]
    rfl
  · unfold B at h
    rw [h]
    rfl
  · rintro rfl
    cases h
theorem dist_i : ∀ (n : Nat) (a b : ByteArray), a.size + b.size ≤ n → n ≤ 1000 → ev E0 58 [st a, st b] [] = some (i64 ((Ds.D (B a) (B b) : Nat) : Int), []) := by
  intro n
  induction n with
  | zero =>
    intro a b h _
    have ha : a = ⟨#[]⟩ := B_nil (List.eq_nil_of_length_eq_zero (by rw [B_len]; omega))
    have hb : b = ⟨#[]⟩ := B_nil (List.eq_nil_of_length_eq_zero (by rw [B_len]; omega))
    subst ha hb
    rw [e58]
    unfold runF
    have e0 : Ds.D (B ⟨#[]⟩) (B ⟨#[]⟩) = 0 := Ds.D_nil _
    have e1 : (⟨#[]⟩ : ByteArray).size = 0 := rfl
    have e2 : IntKind.i64.wrap 0 = 0 := rfl
    simp -implicitDefEqProofs [L58, e0, e1, e2]
  | succ n ih =>
    intro a b h hn
    have h0 : (⟨#[]⟩ : ByteArray).size = 0 := rfl
    cases hA : B a with
    | nil =>
      have ha := B_nil hA
      subst ha
      have hw : IntKind.i64.wrap ((b.size : Int)) = b.size := wr64 (by omega) (by omega)
      rw [e58, Ds.D_nil, B_len]
      unfold runF
      simp -implicitDefEqProofs [L58, h0, hw]
    | cons x xs =>
      obtain ⟨a1, a2, a3, a4⟩ := B_tail hA
      cases hB : B b with
      | nil =>
        have hb := B_nil hB
        subst hb
        have hw : IntKind.i64.wrap ((a.size : Int)) = a.size := wr64 (by omega) (by omega)
        rw [e58, Ds.D_nil', ← hA, B_len]
        unfold runF
        simp -implicitDefEqProofs [L58, h0, hw, a4]
      | cons y ys =>
        obtain ⟨b1, b2, b3, b4⟩ := B_tail hB
        have s1 : (a.extract 1 a.size).size = xs.length := by rw [← B_len, a1]
        have s2 : (b.extract 1 b.size).size = ys.length := by rw [← B_len, b1]
        have i1 := ih (a.extract 1 a.size) (b.extract 1 b.size) (by omega) (by omega)
        have i2 := ih (a.extract 1 a.size) b (by omega) (by omega)
        have i3 := ih a (b.extract 1 b.size) (by omega) (by omega)
        rw [a1, b1] at i1
        rw [a1, hB] at i2
        rw [hA, b1] at i3
        have u1 := Ds.D_le xs ys
        have u2 := Ds.D_le xs (y :: ys)
        have u3 := Ds.D_le (x :: xs) ys
        rw [List.length_cons] at u2 u3
        rw [Ds.D_cons]
        generalize Ds.D xs ys = p at *
        generalize Ds.D xs (y :: ys) = q at *
        generalize Ds.D (x :: xs) ys = r at *
        have z1 : (1 : Int) ≤ (a.size : Int) := by omega
        have z2 : (1 : Int) ≤ (b.size : Int) := by omega
        have z3 : (0 : Int) < (a.size : Int) := by omega
        have z4 : (0 : Int) < (b.size : Int) := by omega
        have w1 : IntKind.i64.wrap ((p : Int) + 1) = p + 1 := wr64 (by omega) (by omega)
        have w2 : IntKind.i64.wrap ((q : Int) + 1) = q + 1 := wr64 (by omega) (by omega)
        have w3 : IntKind.i64.wrap ((r : Int) + 1) = r + 1 := wr64 (by omega) (by omega)
        have z5 : 0 < a.size := by omega
        have z6 : 0 < b.size := by omega
        rw [e58]
        unfold runF
        by_cases hxy : x = y
        · subst hxy
          simp -implicitDefEqProofs [L58, a4, b4, i1, i2, i3, -List.getD_eq_getElem?_getD, a3, b3, z1, z2, z3, z4, z5, z6, w1, w2, w3]
          omega
        · have hxy2 : ¬ (x.toNat : Int) = (y.toNat : Int) := fun e => hxy (UInt8.toNat_inj.1 (by omega))
          simp -implicitDefEqProofs [L58, a4, b4, i1, i2, i3, -List.getD_eq_getElem?_getD, a3, b3, z1, z2, z3, z4, z5, z6, w1, w2, w3, hxy, hxy2]
          omega
theorem least_s (x y : Int) : ev E0 94 [i64 x, i64 y] [] = some (i64 (min x y), []) := by
  rw [e94]
  unfold runF
  by_cases h : x < y
  · have e : min x y = x := by omega
    simp -implicitDefEqProofs [L94, h, e]
  · have e : min x y = y := by omega
    simp -implicitDefEqProofs [L94, h, e]
/-- A row of the reference's table, its first entries. -/
def rwP (a b : List UInt8) (i k : Nat) : List Nat := (List.range k).map (Ds.P a b i)
theorem rwP_len (a b : List UInt8) (i k : Nat) : (rwP a b i k).length = k := by simp [rwP]
theorem rwP_at (a b : List UInt8) (i k j : Nat) (h : j < k) : (ns (rwP a b i k))[j]? = some (i64 ((Ds.P a b i j : Nat) : Int)) := by
  simp [ns, rwP, h]
theorem rwP_next (a b : List UInt8) (i k : Nat) : ns (rwP a b i (k + 1)) = ns (rwP a b i k) ++ [i64 ((Ds.P a b i k : Nat) : Int)] := by
  simp [ns, rwP, List.range_succ]
theorem ns_next (k : Nat) : ns (List.range (k + 1)) = ns (List.range k) ++ [i64 (k : Int)] := by
  simp [ns, List.range_succ]
theorem dS0 (a b : ByteArray) (hb : b.size ≤ 1000) : ∀ (r k : Nat), k + r = b.size + 1 →
    packX 0 [0, 1, 5] (loopW (bd E0 (ev E0) loopW 0 [0, 1, 5, 6] L53b0) ⟨[(0, st a), (1, st b), (5, .sl 0 0 k), (6, i64 k)], [some (ib (List.range k))]⟩) = some (.ext 0, ⟨[(0, st a), (1, st b), (5, .sl 0 0 (b.size + 1))], [some (ib (List.range (b.size + 1)))]⟩) := by
  unfold ib
  intro r
  induction r with
  | zero =>
    intro k h
    obtain rfl : k = b.size + 1 := by omega
    have h1 : ¬ (((b.size + 1 : Nat) : Int) ≤ (b.size : Int)) := by omega
    rw [loopW_eq]
    generalize loopW (bd E0 (ev E0) loopW 0 [0, 1, 5, 6] L53b0) = K
    simp -implicitDefEqProofs [bd, L53b0, h1, -Int.natCast_add]
  | succ r ih =>
    intro k h
    have hih := ih (k + 1) (by omega)
    rw [ns_next, cs1] at hih
    have h1 : (k : Int) ≤ (b.size : Int) := by omega
    have hw : IntKind.i64.wrap ((k : Int) + 1) = (k : Int) + 1 := wr64 (by omega) (by omega)
    have hl : (ns (List.range k)).length = k := by simp [ns]
    have l1 : k + 1 ≤ 140737488355328 := by omega
    have l2 : (k + 1) * 8 ≤ 140737488355328 := by omega
    rw [loopW_eq]
    generalize loopW (bd E0 (ev E0) loopW 0 [0, 1, 5, 6] L53b0) = K at hih ⊢
    have ht : List.take k (ns (List.range k)) = ns (List.range k) := List.take_of_length_le (by omega)
    generalize ns (List.range k) = R at *
    generalize ns (List.range (b.size + 1)) = R2 at *
    simpa -implicitDefEqProofs [bd, L53b0, h1, hw, hl, ht, l1, l2] using hih
theorem byte_get {s : ByteArray} {i : Nat} (h : i < (B s).length) : s.data.toList.getD i 0 = (B s)[i] := by
  rw [List.getD_eq_getElem?_getD]
  unfold B at h ⊢
  rw [List.getElem?_eq_getElem h]
  rfl
theorem dS1 (a b : ByteArray) (ha : a.size ≤ 1000) (hb : b.size ≤ 1000) (i : Nat) (hi : i < a.size) : ∀ (r k : Nat), k + r = b.size →
    packX 0 [0, 1, 7, 8] (loopW (bd E0 (ev E0) loopW 0 [0, 1, 5, 7, 8, 9] L53b1) ⟨[(0, st a), (1, st b), (5, .sl 0 0 (b.size + 1)), (7, i64 ((i : Int) + 1)), (8, .sl 1 0 (k + 1)), (9, i64 ((k : Int) + 1))], [some (ib (rwP (B a) (B b) i (b.size + 1))), some (ib (rwP (B a) (B b) (i + 1) (k + 1)))]⟩) =
      some (.ext 4, ⟨[(0, st a), (1, st b), (7, i64 ((i : Int) + 1)), (8, .sl 0 0 (b.size + 1))], [some (ib (rwP (B a) (B b) (i + 1) (b.size + 1)))]⟩) := by
  have la := B_len a
  have lb := B_len b
  unfold ib
  intro r
  induction r with
  | zero =>
    intro k h
    obtain rfl : k = b.size := by omega
    have h1 : ¬ ((b.size : Int) + 1 ≤ (b.size : Int)) := by omega
    rw [loopW_eq]
    generalize loopW (bd E0 (ev E0) loopW 0 [0, 1, 5, 7, 8, 9] L53b1) = K
    simp -implicitDefEqProofs [bd, L53b1, h1]
  | succ r ih =>
    intro k h
    have hih := ih (k + 1) (by omega)
    clear ih
    rw [rwP_next (B a) (B b) (i + 1) (k + 1), cs1] at hih
    have hst := Ds.P_step (B a) (B b) i k (by omega) (by omega)
    have b1 := byte_get (s := a) (i := i) (by omega)
    have b2 := byte_get (s := b) (i := k) (by omega)
    generalize (B a)[i] = x at hst b1
    generalize (B b)[k] = y at hst b2
    have p1 := Ds.P_le (B a) (B b) i k
    have p2 := Ds.P_le (B a) (B b) i (k + 1)
    have p3 := Ds.P_le (B a) (B b) (i + 1) k
    have g1 := rwP_at (B a) (B b) i (b.size + 1) k (by omega)
    have g2 := rwP_at (B a) (B b) i (b.size + 1) (k + 1) (by omega)
    have g3 := rwP_at (B a) (B b) (i + 1) (k + 1) k (by omega)
    have l1 : (ns (rwP (B a) (B b) i (b.size + 1))).length = b.size + 1 := by rw [ns_len, rwP_len]
    have l2 : (ns (rwP (B a) (B b) (i + 1) (k + 1))).length = k + 1 := by rw [ns_len, rwP_len]
    have ht : List.take (k + 1) (ns (rwP (B a) (B b) (i + 1) (k + 1))) = ns (rwP (B a) (B b) (i + 1) (k + 1)) := List.take_of_length_le (by omega)
    generalize Ds.P (B a) (B b) i k = p at *
    generalize Ds.P (B a) (B b) i (k + 1) = q at *
    generalize Ds.P (B a) (B b) (i + 1) k = s at *
    generalize Ds.P (B a) (B b) (i + 1) (k + 1) = z at *
    generalize ns (rwP (B a) (B b) i (b.size + 1)) = R1 at *
    generalize ns (rwP (B a) (B b) (i + 1) (k + 1)) = R2 at *
    generalize ns (rwP (B a) (B b) (i + 1) (b.size + 1)) = R3 at *
    have h1 : (k : Int) + 1 ≤ (b.size : Int) := by omega
    have h2 : (k : Int) < (b.size : Int) := by omega
    have h2' : (i : Int) < (a.size : Int) := by omega
    have h3 : k < b.size := by omega
    have h4 : (k : Int) < (b.size : Int) + 1 := by omega
    have h5 : (k : Int) + 1 < (b.size : Int) + 1 := by omega
    have h6 : (k : Int) < (k : Int) + 1 := by omega
    have k1 : k < b.size + 1 := by omega
    have w1 : IntKind.i64.wrap (k : Int) = (k : Int) := wr64 (by omega) (by omega)
    have w2 : IntKind.i64.wrap (i : Int) = (i : Int) := wr64 (by omega) (by omega)
    have w3 : IntKind.i64.wrap ((k : Int) + 1 + 1) = (k : Int) + 1 + 1 := wr64 (by omega) (by omega)
    have m1 := least_s (q : Int) (s : Int)
    have w4 : IntKind.i64.wrap (1 + min (q : Int) (s : Int)) = 1 + min (q : Int) (s : Int) := wr64 (by omega) (by omega)
    have g1' : ∀ h, R1[k]'h = i64 (p : Int) := fun h => (List.getElem?_eq_some_iff.1 g1).2
    have g2' : ∀ h, R1[k + 1]'h = i64 (q : Int) := fun h => (List.getElem?_eq_some_iff.1 g2).2
    have g3' : ∀ h, R2[k]'h = i64 (s : Int) := fun h => (List.getElem?_eq_some_iff.1 g3).2
    have c1 : k + 1 + 1 ≤ 140737488355328 := by omega
    have c2 : (k + 1 + 1) * 8 ≤ 140737488355328 := by omega
    have tn : ((k : Int) + 1).toNat = k + 1 := by omega
    have nn : ¬ ((k : Int) + 1 < 0) := by omega
    have nn' : (0 : Int) ≤ (k : Int) + 1 := by omega
    rw [loopW_eq]
    generalize loopW (bd E0 (ev E0) loopW 0 [0, 1, 5, 7, 8, 9] L53b1) = K at hih ⊢
    by_cases hxy : x = y
    · have m2 := least_s (p : Int) (1 + min (q : Int) (s : Int))
      rw [if_pos hxy] at hst
      have hz : min (p : Int) (1 + min (q : Int) (s : Int)) = (z : Int) := by omega
      rw [hz] at m2
      have hxy2 : (x.toNat : Int) = (y.toNat : Int) := by rw [hxy]
      simpa -implicitDefEqProofs [bd, L53b1, -List.getD_eq_getElem?_getD, h1, h2, h2', h3, h4, h5, h6, hi, k1, w1, w2, w3, w4, m1, m2, g1, g2, g3, g1', g2', g3', l1, l2, ht, b1, b2, hxy, hxy2, c1, c2, tn, nn, nn'] using hih
    · have w5 : IntKind.i64.wrap ((p : Int) + 1) = (p : Int) + 1 := wr64 (by omega) (by omega)
      have m2 := least_s ((p : Int) + 1) (1 + min (q : Int) (s : Int))
      rw [if_neg hxy] at hst
      have hz : min ((p : Int) + 1) (1 + min (q : Int) (s : Int)) = (z : Int) := by omega
      rw [hz] at m2
      have hxy2 : ¬ (x.toNat : Int) = (y.toNat : Int) := fun e => hxy (UInt8.toNat_inj.1 (by omega))
      simpa -implicitDefEqProofs [bd, L53b1, -List.getD_eq_getElem?_getD, h1, h2, h2', h3, h4, h5, h6, hi, k1, w1, w2, w3, w4, w5, m1, m2, g1, g2, g3, g1', g2', g3', l1, l2, ht, b1, b2, hxy, hxy2, c1, c2, tn, nn, nn'] using hih
theorem dS2 (a b : ByteArray) (ha : a.size ≤ 1000) (hb : b.size ≤ 1000) : ∀ (r i : Nat), i + r = a.size →
    packX 0 [1, 5] (loopW (bd E0 (ev E0) loopW 0 [0, 1, 5, 7] L53b2) ⟨[(0, st a), (1, st b), (5, .sl 0 0 (b.size + 1)), (7, i64 ((i : Int) + 1))], [some (ib (rwP (B a) (B b) i (b.size + 1)))]⟩) =
      some (.ext 2, ⟨[(1, st b), (5, .sl 0 0 (b.size + 1))], [some (ib (rwP (B a) (B b) a.size (b.size + 1)))]⟩) := by
  intro r
  induction r with
  | zero =>
    intro i h
    obtain rfl : i = a.size := by omega
    have h1 : ¬ ((a.size : Int) + 1 ≤ (a.size : Int)) := by omega
    unfold ib
    rw [loopW_eq]
    generalize loopW (bd E0 (ev E0) loopW 0 [0, 1, 5, 7] L53b2) = K
    unfold bd
    simp -implicitDefEqProofs [L53b2, h1]
  | succ r ih =>
    intro i h
    have hih := ih (i + 1) (by omega)
    clear ih
    rw [cs1] at hih
    have hin := dS1 a b ha hb i (by omega) b.size 0 (by omega)
    have h1 : (i : Int) + 1 ≤ (a.size : Int) := by omega
    have w3 : IntKind.i64.wrap ((i : Int) + 1 + 1) = (i : Int) + 1 + 1 := wr64 (by omega) (by omega)
    have hr1 : rwP (B a) (B b) (i + 1) (0 + 1) = [i + 1] := by
      show [Ds.P (B a) (B b) (i + 1) 0] = [i + 1]
      rw [Ds.P_first _ _ _ (by rw [B_len]; omega)]
    rw [hr1, Nat.zero_add, c0, Int.zero_add] at hin
    unfold ib at hin hih ⊢
    have hn1 : ns [i + 1] = [i64 ((i : Int) + 1)] := rfl
    rw [hn1] at hin
    rw [loopW_eq]
    generalize loopW (bd E0 (ev E0) loopW 0 [0, 1, 5, 7] L53b2) = K at hih ⊢
    generalize ns (rwP (B a) (B b) i (b.size + 1)) = R1 at *
    generalize ns (rwP (B a) (B b) (i + 1) (b.size + 1)) = R2 at *
    generalize ns (rwP (B a) (B b) a.size (b.size + 1)) = R3 at *
    unfold bd
    simpa -implicitDefEqProofs [L53b2, h1, w3, hin] using hih
theorem dist_s (a b : ByteArray) (ha : a.size ≤ 1000) (hb : b.size ≤ 1000) : ev E0 53 [st a, st b] [] = some (i64 ((Ds.D (B a) (B b) : Nat) : Int), []) := by
  have h0 := dS0 a b hb (b.size + 1) 0 (by omega)
  have h2 := dS2 a b ha hb a.size 0 (by omega)
  have e0 : List.range (b.size + 1) = rwP (B a) (B b) 0 (b.size + 1) := by
    apply List.ext_getElem (by simp [rwP])
    intro j h1 h2
    rw [List.length_range] at h1
    simp only [rwP, List.getElem_range, List.getElem_map]
    rw [Ds.P_zero _ _ _ (by rw [B_len]; omega)]
  rw [e0] at h0
  rw [c0, Int.zero_add] at h2
  have g := rwP_at (B a) (B b) a.size (b.size + 1) b.size (by omega)
  have hP := Ds.P_all (B a) (B b)
  rw [B_len, B_len] at hP
  rw [hP] at g
  have l1 : (ns (rwP (B a) (B b) a.size (b.size + 1))).length = b.size + 1 := by rw [ns_len, rwP_len]
  unfold ib at h0 h2
  rw [show ns (List.range 0) = [] from rfl, c0] at h0
  rw [e53]
  unfold runF
  generalize ns (rwP (B a) (B b) 0 (b.size + 1)) = R0 at *
  generalize ns (rwP (B a) (B b) a.size (b.size + 1)) = R1 at *
  generalize Ds.D (B a) (B b) = d at *
  have g' : ∀ h, R1[b.size]'h = i64 (d : Int) := fun h => (List.getElem?_eq_some_iff.1 g).2
  have q1 : (b.size : Int) < (b.size : Int) + 1 := by omega
  have q2 : b.size < b.size + 1 := by omega
  simp -implicitDefEqProofs [L53, h0, h2, g, g', l1, q1, q2]
end Go.Proofs.YtodcochnciadjaaDoor.Ev
