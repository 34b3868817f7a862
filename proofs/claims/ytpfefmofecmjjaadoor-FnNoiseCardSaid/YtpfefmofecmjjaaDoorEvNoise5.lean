/- The best guess; fractions added and held against each other. -/
import Derived.Test.YtpfefmofecmjjaaDoorEvNoise4
set_option linter.unusedVariables false
set_option linter.unusedSimpArgs false
set_option linter.constructorNameAsVariable false
namespace Go.Proofs.YtpfefmofecmjjaaDoor.Ev
open Fr Nz
def bs (ps : List Nat) : List Nat → Nat → Nat → Nat
  | [], _, b => b
  | p :: r, i, b => bs ps r (i + 1) (if ps.getD b 0 < p then i else b)
theorem bs_lt (ps : List Nat) : ∀ (t : List Nat) (i b : Nat), ps.drop i = t → b < ps.length → bs ps t i b < ps.length
  | [], i, b, _, h => h
  | p :: t, i, b, hd, h => by
    obtain ⟨hi, hx, hdr, _⟩ := at_drop hd
    rw [bs]
    refine bs_lt ps t (i + 1) _ hdr ?_
    split
    · exact hi
    · exact h
/-- The first greatest one. -/
theorem bs_best (ps : List Nat) : ∀ (t : List Nat) (i b : Nat), ps.drop i = t → (b < i ∨ b = 0) → (∀ j, j < i → ps.getD j 0 ≤ ps.getD b 0) → (∀ j, j < b → ps.getD j 0 < ps.getD b 0) →
    (∀ j, j < ps.length → ps.getD j 0 ≤ ps.getD (bs ps t i b) 0) ∧ (∀ j, j < bs ps t i b → ps.getD j 0 < ps.getD (bs ps t i b) 0)
  | [], i, b, hd, _, h1, h2 => by
    have := not_drop hd
    exact ⟨fun j hj => h1 j (by omega), h2⟩
  | p :: t, i, b, hd, hb, h1, h2 => by
    obtain ⟨hi, hx, hdr, _⟩ := at_drop hd
    have hp : ps.getD i 0 = p := by rw [List.getD_eq_getElem?_getD, List.getElem?_eq_getElem hi, hx]; rfl
    rw [bs]
    by_cases h : ps.getD b 0 < p
    · rw [if_pos h]
      refine bs_best ps t (i + 1) i hdr (.inl (by omega)) (fun j hj => ?_) (fun j hj => ?_)
      · by_cases e : j = i
        · subst e; exact Nat.le_refl _
        · have := h1 j (by omega); omega
      · have := h1 j hj; omega
    · rw [if_neg h]
      refine bs_best ps t (i + 1) b hdr (by omega) (fun j hj => ?_) h2
      by_cases e : j = i
      · subst e; omega
      · exact h1 j (by omega)
def bsO (ps : List Nat) : Nat := bs ps ps 0 0
theorem bsO_ok (ps : List Nat) (h : 0 < ps.length) : bsO ps < ps.length ∧ (∀ j, j < ps.length → ps.getD j 0 ≤ ps.getD (bsO ps) 0) ∧ (∀ j, j < bsO ps → ps.getD j 0 < ps.getD (bsO ps) 0) :=
  ⟨bs_lt ps ps 0 0 rfl h, bs_best ps ps 0 0 rfl (.inr rfl) (fun j hj => by omega) (fun j hj => by omega)⟩
theorem bsO_one (ps : List Nat) : bs ps (ps.drop 1) 1 0 = bsO ps := by
  unfold bsO
  cases ps with
  | nil => rfl
  | cons p r =>
    rw [List.drop_succ_cons, List.drop_zero]
    conv => rhs; rw [bs]
    simp
theorem guessS_loop (ps : List Nat) (hp : ps.length ≤ 1000) (S : Nat) : ∀ (t : List Nat) (i b : Nat), ps.drop i = t → b < ps.length →
    packX 0 [9, 10] (loopW (bd E0 (ev E0) loopW 0 [8, 9, 10, 11] L15b0) ⟨[(8, .sl 0 0 ps.length), (9, i64 S), (10, i64 b), (11, i64 i)], [some ⟨3, 1, 1, false, ints ps⟩]⟩) = some (.ext 0, ⟨[(9, i64 S), (10, i64 ((bs ps t i b : Nat) : Int))], []⟩) := by
  intro t
  have hpl2 := ints_len ps
  induction t with
  | nil =>
    intro i b h hb
    have hi := not_drop h
    have hi2 : ¬ (i : Int) < (ps.length : Int) := by omega
    rw [bs, loopW_eq]
    generalize ints ps = P at *
    generalize loopW (bd E0 (ev E0) loopW 0 [8, 9, 10, 11] L15b0) = K
    simp -implicitDefEqProofs [bd, L15b0, hi, hi2, hpl2]
  | cons p t ih =>
    intro i b h hb
    obtain ⟨hi, hx, hdr, hmem⟩ := at_drop h
    have hih := ih (i + 1) (if ps.getD b 0 < p then i else b) hdr (by split <;> omega)
    have hi2 : (i : Int) < (ps.length : Int) := by omega
    have hb2 : (b : Int) < (ps.length : Int) := by omega
    have hw : IntKind.i64.wrap ((i : Int) + 1) = (i : Int) + 1 := wr64 (by omega) (by omega)
    have g1 := ints_at hi hx
    have hgd : ps[b] = ps.getD b 0 := by rw [List.getD_eq_getElem?_getD, List.getElem?_eq_getElem hb]; rfl
    have g2 := ints_at hb hgd
    rw [cs1] at hih
    rw [bs, loopW_eq]
    generalize ints ps = P at *
    generalize hq : ps.getD b 0 = q at *
    by_cases hc : q < p
    · have hc2 : (q : Int) < (p : Int) := by omega
      rw [if_pos hc] at hih ⊢
      generalize ((bs ps t (i + 1) i : Nat) : Int) = R at hih ⊢
      generalize loopW (bd E0 (ev E0) loopW 0 [8, 9, 10, 11] L15b0) = K at hih ⊢
      simpa -implicitDefEqProofs [bd, L15b0, hi, hi2, hb, hb2, g1, g2, hw, hc, hc2, hpl2] using hih
    · have hc2 : ¬ (q : Int) < (p : Int) := by omega
      rw [if_neg hc] at hih ⊢
      generalize ((bs ps t (i + 1) b : Nat) : Int) = R at hih ⊢
      generalize loopW (bd E0 (ev E0) loopW 0 [8, 9, 10, 11] L15b0) = K at hih ⊢
      simpa -implicitDefEqProofs [bd, L15b0, hi, hi2, hb, hb2, g1, g2, hw, hc, hc2, hpl2] using hih
theorem guessI_loop (n d : Nat) (hn : n ≤ d) (hd : d ≤ 100) (ms : List ByteArray) (hm : ms.length ≤ 1000) (hs : ∀ m ∈ ms, m.size ≤ 5) (cc : ByteArray) : ∀ (t : List ByteArray) (i b : Nat), ms.drop i = t → b < ms.length →
    packX 0 [10] (loopW (bd E0 (ev E0) loopW 0 [2, 3, 4, 10, 23, 24, 25] L14b0) ⟨[(2, st cc), (3, .ptr 0 0 0), (4, .ptr 1 0 0), (10, i64 b), (23, .lst 1 (ms.map st)), (24, i64 ms.length), (25, i64 i)], [some ⟨26, 1, 0, false, [.agg [.lst 1 (ms.map st)]]⟩, some ⟨28, 2, 0, false, [.agg [i64 ((n : Nat) : Int), i64 ((d : Nat) : Int)]]⟩]⟩) = some (.ext 0, ⟨[(10, i64 ((bs (ms.map (snt n d cc)) (t.map (snt n d cc)) i b : Nat) : Int))], []⟩) := by
  intro t
  induction t with
  | nil =>
    intro i b h hb
    have hi := not_drop h
    have hi2 : ¬ (i : Int) < (ms.length : Int) := by omega
    rw [List.map_nil, bs, loopW_eq]
    generalize loopW (bd E0 (ev E0) loopW 0 [2, 3, 4, 10, 23, 24, 25] L14b0) = K
    simp -implicitDefEqProofs [bd, L14b0, hi, hi2]
  | cons m t ih =>
    intro i b h hb
    obtain ⟨hi, hx, hdr, hmem⟩ := at_drop h
    have hgd : (ms.map (snt n d cc)).getD b 0 = snt n d cc ms[b] := by rw [List.getD_eq_getElem?_getD, List.getElem?_map, List.getElem?_eq_getElem hb]; rfl
    have hih := ih (i + 1) (if (ms.map (snt n d cc)).getD b 0 < snt n d cc m then i else b) hdr (by split <;> omega)
    have hi2 : (i : Int) < (ms.length : Int) := by omega
    have hb2 : (b : Int) < (ms.length : Int) := by omega
    have hw : IntKind.i64.wrap ((i : Int) + 1) = (i : Int) + 1 := wr64 (by omega) (by omega)
    have f1 := whole_i n d hn hd m cc (hs m hmem)
    change _ = some (i64 ((snt n d cc m : Nat) : Int), []) at f1
    have f2 := whole_i n d hn hd ms[b] cc (hs _ (List.getElem_mem hb))
    change _ = some (i64 ((snt n d cc ms[b] : Nat) : Int), []) at f2
    have gb : ∀ h, ms[b]'h = ms[b] := fun _ => rfl
    rw [cs1] at hih
    unfold nzA at f1 f2
    rw [List.map_cons, bs, loopW_eq]
    rw [hgd] at hih ⊢
    generalize ms.map (snt n d cc) = ps at hih ⊢
    generalize t.map (snt n d cc) = pt at hih ⊢
    generalize hq : snt n d cc ms[b] = q at *
    generalize hqp : snt n d cc m = p at *
    clear hgd hq hqp
    obtain ⟨mb, hmb⟩ : ∃ mb, ms[b] = mb := ⟨_, rfl⟩
    rw [hmb] at f2
    have gb : ∀ h, ms[b]'h = mb := fun _ => hmb
    clear hmb
    by_cases hc : q < p
    · have hc2 : (q : Int) < (p : Int) := by omega
      rw [if_pos hc] at hih ⊢
      generalize ((bs ps pt (i + 1) i : Nat) : Int) = R at hih ⊢
      generalize loopW (bd E0 (ev E0) loopW 0 [2, 3, 4, 10, 23, 24, 25] L14b0) = K at hih ⊢
      simpa -implicitDefEqProofs [bd, L14b0, hi, hi2, hb, hb2, hx, gb, f1, f2, hw, hc, hc2] using hih
    · have hc2 : ¬ (q : Int) < (p : Int) := by omega
      rw [if_neg hc] at hih ⊢
      generalize ((bs ps pt (i + 1) b : Nat) : Int) = R at hih ⊢
      generalize loopW (bd E0 (ev E0) loopW 0 [2, 3, 4, 10, 23, 24, 25] L14b0) = K at hih ⊢
      simpa -implicitDefEqProofs [bd, L14b0, hi, hi2, hb, hb2, hx, gb, f1, f2, hw, hc, hc2] using hih
def gueO (ms : List ByteArray) (a b : Int) (c : ByteArray) : Nat := bsO (ms.map (snt (nz1 a) (nz1 b) c))
theorem guess_i (ms : List ByteArray) (hm : ms.length ≤ 100) (hs : ∀ x ∈ ms, x.size ≤ 1000) (a b : Int) (c : ByteArray) (hc : c.size ≤ 1000) : ev E0 14 [.agg [.lst 1 (ms.map st)], nzA a b, st c] [] = some (if (oks ms a b c && decide (0 < sumO ms a b c)) = true then .tup [i64 ((gueO ms a b c : Nat) : Int), bl true] else .tup [i64 0, bl false], []) := by
  have h1 := sent_i ms hm hs a b c hc
  rw [e14]
  unfold runF
  cases ho : (oks ms a b c && decide (0 < sumO ms a b c)) with
  | false =>
    rw [ho] at h1
    simp only [Bool.false_eq_true, if_false] at h1
    unfold nzA at h1 ⊢
    simp -implicitDefEqProofs [L14, h1]
  | true =>
    rw [ho, if_pos rfl] at h1
    rw [Bool.and_eq_true] at ho
    have ho1 := ho.1
    unfold oks okNy at ho1
    rw [Bool.and_eq_true, Bool.and_eq_true] at ho1
    obtain ⟨⟨o1, o2⟩, o3⟩ := ho1
    obtain ⟨n, d, rfl, rfl, d1, d2, d3⟩ := okNz_b o2
    obtain ⟨t1, t2, t3⟩ := okTable_b o1
    have hs5 : ∀ m ∈ ms, m.size ≤ 5 := fun m hm => (okMarks_b (t3 m hm)).2.1
    have hl := guessI_loop n d d3 d2 ms (by omega) hs5 c ms 0 0 rfl (by omega)
    have e1 : nz1 (n : Int) = n := Int.toNat_natCast n
    have e2 : nz1 (d : Int) = d := Int.toNat_natCast d
    unfold gueO
    rw [e1, e2, if_pos rfl]
    rw [show bs (ms.map (snt n d c)) (ms.map (snt n d c)) 0 0 = bsO (ms.map (snt n d c)) from rfl] at hl
    rw [c0] at hl
    unfold pb at h1
    unfold nzA at h1 ⊢
    generalize ((bsO (ms.map (snt n d c)) : Nat) : Int) = G at *
    generalize (ms.map (sentF (nz1 (n : Int)) (nz1 (d : Int)) c (sumO ms (n : Int) (d : Int) c))).map pr = R at *
    simp -implicitDefEqProofs [L14, h1, hl]
theorem bs_zero (ps : List Nat) (h : ∀ p ∈ ps, p = 0) : ∀ (t : List Nat) (i : Nat), (∀ p ∈ t, p = 0) → bs ps t i 0 = 0
  | [], i, _ => rfl
  | p :: t, i, ht => by
    rw [bs, ht p (by simp), if_neg (by omega)]
    exact bs_zero ps h t (i + 1) fun q hq => ht q (by simp [hq])
theorem guess_s (ms : List ByteArray) (hm : ms.length ≤ 100) (hs : ∀ x ∈ ms, x.size ≤ 1000) (a b : Int) (c : ByteArray) (hc : c.size ≤ 1000) : ev E0 15 [.agg [.lst 1 (ms.map st)], nzA a b, st c] [] = some (if (oks ms a b c && decide (0 < sumO ms a b c)) = true then .tup [i64 ((gueO ms a b c : Nat) : Int), bl true] else .tup [i64 0, bl false], []) := by
  have h0 := table_s ms (by omega) (fun x hx => by have := hs x hx; omega)
  have h1 := noise_s a b
  have h2 := marks_s c (by omega) 1 5
  rw [e15]
  unfold runF oks okNy
  cases o0 : okTable ms with
  | false => rw [o0] at h0; unfold nzA at h1 ⊢; simp -implicitDefEqProofs [L15, h0]
  | true =>
    rw [o0] at h0
    cases o1 : okNz a b with
    | false => rw [o1] at h1; unfold nzA at h1 ⊢; simp -implicitDefEqProofs [L15, h0, h1]
    | true =>
      rw [o1] at h1
      cases o2 : okMarks c 1 5 with
      | false => rw [o2] at h2; unfold nzA at h1 ⊢; simp -implicitDefEqProofs [L15, h0, h1, h2]
      | true =>
        rw [o2] at h2
        obtain ⟨n, d, rfl, rfl, d1, d2, d3⟩ := okNz_b o1
        obtain ⟨t1, t2, t3⟩ := okTable_b o0
        have hs5 : ∀ m ∈ ms, m.size ≤ 5 := fun m hm => (okMarks_b (t3 m hm)).2.1
        have h3 := l7sent n d d3 d2 ms (by omega) hs5 c
        have e1 : nz1 (n : Int) = n := Int.toNat_natCast n
        have e2 : nz1 (d : Int) = d := Int.toNat_natCast d
        have hpsl : (ms.map (snt n d c)).length = ms.length := List.length_map _
        have hl := guessS_loop (ms.map (snt n d c)) (by omega) (sumS n d c ms) ((ms.map (snt n d c)).drop 1) 1 0 rfl (by omega)
        have hzero : sumS n d c ms = 0 → bsO (ms.map (snt n d c)) = 0 := by
          intro hz
          have hall : ∀ p ∈ ms.map (snt n d c), p = 0 := fun p hp => by
            obtain ⟨m, hm, rfl⟩ := List.mem_map.1 hp
            have := snt_le (n := n) (d := d) c ms m hm
            omega
          exact bs_zero _ hall _ 0 hall
        rw [bsO_one, hpsl, c0] at hl
        unfold sumO gueO
        rw [e1, e2, Bool.and_self, Bool.and_self, Bool.true_and]
        rw [show ((1 : Nat) : Int) = 1 from rfl] at hl
        unfold nzA at h1 h3 ⊢
        generalize ints (ms.map (snt n d c)) = P at *
        generalize bsO (ms.map (snt n d c)) = G at *
        generalize sumS n d c ms = S at *
        by_cases hz : S = 0
        · obtain rfl := hzero hz
          subst hz
          rw [c0] at h3 hl
          simp -implicitDefEqProofs [L15, h0, h1, h2, h3, hl]
        · have hS : 0 < S := by omega
          have hS2 : (0 : Int) < (S : Int) := by omega
          rw [decide_eq_true hS, if_pos rfl]
          simp -implicitDefEqProofs [L15, h0, h1, h2, h3, hl, hS, hS2]
-- ---------------------------------------------------------------- fractions
def xy (x : AV) : Blk := ⟨34, 2, 0, false, [x]⟩

theorem plus_loop0 (x1 x2 y1 y2 : Int) : ∀ (k x y : Nat), y ≤ k → packX 0 [2, 3, 4, 5] (loopW (bd E0 (ev E0) loopW 0 [2, 3, 4, 5, 6] L25b0) ⟨[(2, .ptr 0 0 0), (3, .ptr 1 0 0), (4, .ptr 2 0 0), (5, i64 x), (6, i64 y)], [some ⟨34, 2, 0, false, [.agg [i64 x1, i64 x2]]⟩, some ⟨34, 2, 0, false, [.agg [i64 y1, i64 y2]]⟩, some ⟨34, 2, 0, false, [.agg [i64 0, i64 0]]⟩]⟩) = some (.ext 0, ⟨[(2, .ptr 0 0 0), (3, .ptr 1 0 0), (4, .ptr 2 0 0), (5, i64 ((Nat.gcd y x : Nat) : Int))], [some ⟨34, 2, 0, false, [.agg [i64 x1, i64 x2]]⟩, some ⟨34, 2, 0, false, [.agg [i64 y1, i64 y2]]⟩, some ⟨34, 2, 0, false, [.agg [i64 0, i64 0]]⟩]⟩) := by
  intro k
  induction k with
  | zero =>
    intro x y h
    obtain rfl : y = 0 := by omega
    rw [Nat.gcd_zero_left, loopW_eq]
    generalize loopW (bd E0 (ev E0) loopW 0 [2, 3, 4, 5, 6] L25b0) = K
    simp -implicitDefEqProofs [bd, L25b0]
  | succ k ih =>
    intro x y h
    by_cases hb : y = 0
    · exact ih x y (by omega)
    · have hlt := Nat.mod_lt x (Nat.pos_of_ne_zero hb)
      have hih := ih y (x % y) (by omega)
      have hb2 : (0 : Int) < (y : Int) := by omega
      have hb3 : ¬ (y : Int) = 0 := by omega
      have hb4 : 0 < y := by omega
      have ht := tmodN x y
      rw [Nat.gcd_rec, loopW_eq]
      generalize ((Nat.gcd (x % y) y : Nat) : Int) = g at hih ⊢
      generalize ((x % y : Nat) : Int) = r at ht hih
      generalize loopW (bd E0 (ev E0) loopW 0 [2, 3, 4, 5, 6] L25b0) = K at hih ⊢
      simpa -implicitDefEqProofs [bd, L25b0, hb, hb2, hb3, hb4, ht] using hih

theorem plus_loop1 (p q : Int) : ∀ (k x y : Nat), y ≤ k → packX 0 [4, 5, 7, 8] (loopW (bd E0 (ev E0) loopW 0 [4, 5, 6, 7, 8] L25b1) ⟨[(4, .ptr 0 0 0), (5, i64 x), (6, i64 y), (7, i64 p), (8, i64 q)], [some ⟨34, 2, 0, false, [.agg [i64 0, i64 0]]⟩]⟩) = some (.ext 2, ⟨[(4, .ptr 0 0 0), (5, i64 ((Nat.gcd y x : Nat) : Int)), (7, i64 p), (8, i64 q)], [some ⟨34, 2, 0, false, [.agg [i64 0, i64 0]]⟩]⟩) := by
  intro k
  induction k with
  | zero =>
    intro x y h
    obtain rfl : y = 0 := by omega
    rw [Nat.gcd_zero_left, loopW_eq]
    generalize loopW (bd E0 (ev E0) loopW 0 [4, 5, 6, 7, 8] L25b1) = K
    simp -implicitDefEqProofs [bd, L25b1]
  | succ k ih =>
    intro x y h
    by_cases hb : y = 0
    · exact ih x y (by omega)
    · have hlt := Nat.mod_lt x (Nat.pos_of_ne_zero hb)
      have hih := ih y (x % y) (by omega)
      have hb2 : (0 : Int) < (y : Int) := by omega
      have hb3 : ¬ (y : Int) = 0 := by omega
      have hb4 : 0 < y := by omega
      have ht := tmodN x y
      rw [Nat.gcd_rec, loopW_eq]
      generalize ((Nat.gcd (x % y) y : Nat) : Int) = g at hih ⊢
      generalize ((x % y : Nat) : Int) = r at ht hih
      generalize loopW (bd E0 (ev E0) loopW 0 [4, 5, 6, 7, 8] L25b1) = K at hih ⊢
      simpa -implicitDefEqProofs [bd, L25b1, hb, hb2, hb3, hb4, ht] using hih

theorem less_loop (x1 x2 y1 y2 : Int) : ∀ (k x y : Nat), y ≤ k → packX 0 [2, 3, 5] (loopW (bd E0 (ev E0) loopW 0 [2, 3, 5, 6] L26b0) ⟨[(2, .ptr 0 0 0), (3, .ptr 1 0 0), (5, i64 x), (6, i64 y)], [some ⟨34, 2, 0, false, [.agg [i64 x1, i64 x2]]⟩, some ⟨34, 2, 0, false, [.agg [i64 y1, i64 y2]]⟩]⟩) = some (.ext 0, ⟨[(2, .ptr 0 0 0), (3, .ptr 1 0 0), (5, i64 ((Nat.gcd y x : Nat) : Int))], [some ⟨34, 2, 0, false, [.agg [i64 x1, i64 x2]]⟩, some ⟨34, 2, 0, false, [.agg [i64 y1, i64 y2]]⟩]⟩) := by
  intro k
  induction k with
  | zero =>
    intro x y h
    obtain rfl : y = 0 := by omega
    rw [Nat.gcd_zero_left, loopW_eq]
    generalize loopW (bd E0 (ev E0) loopW 0 [2, 3, 5, 6] L26b0) = K
    simp -implicitDefEqProofs [bd, L26b0]
  | succ k ih =>
    intro x y h
    by_cases hb : y = 0
    · exact ih x y (by omega)
    · have hlt := Nat.mod_lt x (Nat.pos_of_ne_zero hb)
      have hih := ih y (x % y) (by omega)
      have hb2 : (0 : Int) < (y : Int) := by omega
      have hb3 : ¬ (y : Int) = 0 := by omega
      have hb4 : 0 < y := by omega
      have ht := tmodN x y
      rw [Nat.gcd_rec, loopW_eq]
      generalize ((Nat.gcd (x % y) y : Nat) : Int) = g at hih ⊢
      generalize ((x % y : Nat) : Int) = r at ht hih
      generalize loopW (bd E0 (ev E0) loopW 0 [2, 3, 5, 6] L26b0) = K at hih ⊢
      simpa -implicitDefEqProofs [bd, L26b0, hb, hb2, hb3, hb4, ht] using hih

set_option maxHeartbeats 4000000 in
theorem vplus (a b n : Nat) (hn : 0 < n) (hnb : n ≤ 100000000000) (ha : a ≤ n) (hb : b ≤ n) : ev E0 25 [pr (cut a n), pr (cut b n)] [] = some (pr (cut (a + b) n), []) := by
  have hpc := plus_cut a b n hn
  have hbd := plus_b a b n hn ha hb
  have pa := cut_pos a n hn
  have pb' := cut_pos b n hn
  rw [← hpc]
  clear hpc
  generalize cut a n = x at *
  generalize cut b n = y at *
  obtain ⟨x1, x2⟩ := x
  obtain ⟨y1, y2⟩ := y
  simp only at hbd pa pb'
  obtain ⟨q1, q2, q3, q4, q5, q6, q7⟩ := hbd
  have l0 := plus_loop0 x1 x2 y1 y2 y2 x2 y2 (Nat.le_refl _)
  rw [Nat.gcd_comm] at l0
  have hg := gcd_pos (a := x2) pb'
  have d1 := tdivN y2 (Nat.gcd x2 y2)
  have d2 := tdivN x2 (Nat.gcd x2 y2)
  have hpos : 0 < x2 / Nat.gcd x2 y2 * y2 := Nat.mul_pos (Nat.div_pos (Nat.le_of_dvd pa (Nat.gcd_dvd_left _ _)) hg) pb'
  have e1 : y2 / Nat.gcd x2 y2 ≤ y2 := Nat.div_le_self _ _
  have e2 : x2 / Nat.gcd x2 y2 ≤ x2 := Nat.div_le_self _ _
  unfold plus pr cut
  simp only
  generalize Nat.gcd x2 y2 = g at *
  generalize y2 / g = v at *
  generalize x2 / g = u at *
  have w1 : IntKind.i64.wrap (v : Int) = v := wrN (by omega)
  have w2 : IntKind.i64.wrap (u : Int) = u := wrN (by omega)
  have m1 : (x1 : Int) * (v : Int) = ((x1 * v : Nat) : Int) := rfl
  have m2 : (y1 : Int) * (u : Int) = ((y1 * u : Nat) : Int) := rfl
  have m3 : (u : Int) * (y2 : Int) = ((u * y2 : Nat) : Int) := rfl
  have w3 : IntKind.i64.wrap ((x1 : Int) * (v : Int)) = ((x1 * v : Nat) : Int) := by rw [m1]; exact wrN (by omega)
  have w4 : IntKind.i64.wrap ((y1 : Int) * (u : Int)) = ((y1 * u : Nat) : Int) := by rw [m2]; exact wrN (by omega)
  have w5 : IntKind.i64.wrap ((u : Int) * (y2 : Int)) = ((u * y2 : Nat) : Int) := by rw [m3]; exact wrN (by omega)
  generalize x1 * v = t1 at *
  generalize y1 * u = t2 at *
  generalize u * y2 = bt at *
  have w6 : IntKind.i64.wrap ((t1 : Int) + (t2 : Int)) = ((t1 + t2 : Nat) : Int) := by
    rw [show (t1 : Int) + (t2 : Int) = ((t1 + t2 : Nat) : Int) from rfl]
    exact wrN (by omega)
  have hg0 : ¬ (g : Int) = 0 := by omega
  have hg1 : ¬ g = 0 := by omega
  obtain ⟨tp, htp⟩ : ∃ tp, t1 + t2 = tp := ⟨_, rfl⟩
  rw [htp] at w6 ⊢
  have l1 := plus_loop1 (tp : Int) (bt : Int) bt tp bt (Nat.le_refl _)
  rw [Nat.gcd_comm] at l1
  have hg2 := gcd_pos (a := tp) hpos
  have f1 : tp / Nat.gcd tp bt ≤ tp := Nat.div_le_self _ _
  have f2 : bt / Nat.gcd tp bt ≤ bt := Nat.div_le_self _ _
  have d3 := tdivN tp (Nat.gcd tp bt)
  have d4 := tdivN bt (Nat.gcd tp bt)
  have w7 : IntKind.i64.wrap ((tp / Nat.gcd tp bt : Nat) : Int) = ((tp / Nat.gcd tp bt : Nat) : Int) := wrN (by omega)
  have w8 : IntKind.i64.wrap ((bt / Nat.gcd tp bt : Nat) : Int) = ((bt / Nat.gcd tp bt : Nat) : Int) := wrN (by omega)
  have hg3 : ¬ ((Nat.gcd tp bt : Nat) : Int) = 0 := by omega
  have hg4 : ¬ Nat.gcd tp bt = 0 := by omega
  rw [e25]
  unfold runF
  generalize ((tp / Nat.gcd tp bt : Nat) : Int) = o1 at *
  generalize ((bt / Nat.gcd tp bt : Nat) : Int) = o2 at *
  generalize ((Nat.gcd tp bt : Nat) : Int) = g2 at *
  simp (maxSteps := 1000000) -implicitDefEqProofs [L25, l0, l1, d1, d2, d3, d4, w1, w2, w3, w4, w5, w6, w7, w8, hg0, hg1, hg3, hg4]
set_option maxHeartbeats 4000000 in
theorem vless (a b n : Nat) (hn : 0 < n) (hnb : n ≤ 100000000000) (ha : a ≤ n) (hb : b ≤ n) : ev E0 26 [pr (cut a n), pr (cut b n)] [] = some (bl (decide (a < b)), []) := by
  have hlc := less_cut a b n hn
  have hbd := plus_b a b n hn ha hb
  have pa := cut_pos a n hn
  have pb' := cut_pos b n hn
  generalize cut a n = x at *
  generalize cut b n = y at *
  obtain ⟨x1, x2⟩ := x
  obtain ⟨y1, y2⟩ := y
  simp only at hbd pa pb' hlc
  obtain ⟨q1, q2, q3, q4, q5, q6, q7⟩ := hbd
  have l0 := less_loop x1 x2 y1 y2 y2 x2 y2 (Nat.le_refl _)
  rw [Nat.gcd_comm] at l0
  have hg := gcd_pos (a := x2) pb'
  have d1 := tdivN y2 (Nat.gcd x2 y2)
  have d2 := tdivN x2 (Nat.gcd x2 y2)
  have e1 : y2 / Nat.gcd x2 y2 ≤ y2 := Nat.div_le_self _ _
  have e2 : x2 / Nat.gcd x2 y2 ≤ x2 := Nat.div_le_self _ _
  have hdec : decide (a < b) = decide (x1 * (y2 / Nat.gcd x2 y2) < y1 * (x2 / Nat.gcd x2 y2)) := by rw [decide_eq_decide]; exact hlc.symm
  rw [hdec]
  clear hdec hlc
  unfold pr
  simp only
  generalize Nat.gcd x2 y2 = g at *
  generalize y2 / g = v at *
  generalize x2 / g = u at *
  have w1 : IntKind.i64.wrap (v : Int) = v := wrN (by omega)
  have w2 : IntKind.i64.wrap (u : Int) = u := wrN (by omega)
  have m1 : (x1 : Int) * (v : Int) = ((x1 * v : Nat) : Int) := rfl
  have m2 : (y1 : Int) * (u : Int) = ((y1 * u : Nat) : Int) := rfl
  have w3 : IntKind.i64.wrap ((x1 : Int) * (v : Int)) = ((x1 * v : Nat) : Int) := by rw [m1]; exact wrN (by omega)
  have w4 : IntKind.i64.wrap ((y1 : Int) * (u : Int)) = ((y1 * u : Nat) : Int) := by rw [m2]; exact wrN (by omega)
  have hg0 : ¬ (g : Int) = 0 := by omega
  have hg1 : ¬ g = 0 := by omega
  generalize x1 * v = t1 at *
  generalize y1 * u = t2 at *
  have hdd : decide ((t1 : Int) < (t2 : Int)) = decide (t1 < t2) := by rw [decide_eq_decide]; omega
  rw [e26]
  unfold runF
  rw [← hdd]
  simp (maxSteps := 1000000) -implicitDefEqProofs [L26, l0, d1, d2, w1, w2, w3, w4, hg0, hg1]
theorem vpairs_loop (l : List (Nat × Nat)) (hl : l.length ≤ 1000) : ∀ (t : List (Nat × Nat)) (i : Nat), l.drop i = t →
    packX 0 [4] (loopW (bd E0 (ev E0) loopW 0 [0, 1, 5] L22b0) ⟨[(0, .lst 2 (l.map pr)), (1, .lst 2 (l.map pr)), (5, i64 i)], []⟩) = some (.ext 0, ⟨[], []⟩) := by
  intro t
  induction t with
  | nil =>
    intro i h
    have hi := not_drop h
    have hi2 : ¬ (i : Int) < (l.length : Int) := by omega
    rw [loopW_eq]
    generalize loopW (bd E0 (ev E0) loopW 0 [0, 1, 5] L22b0) = K
    simp -implicitDefEqProofs [bd, L22b0, hi, hi2]
  | cons x t ih =>
    intro i h
    obtain ⟨hi, hx, hd, hmem⟩ := at_drop h
    have hih := ih (i + 1) hd
    have hi2 : (i : Int) < (l.length : Int) := by omega
    have hw : IntKind.i64.wrap ((i : Int) + 1) = (i : Int) + 1 := wr64 (by omega) (by omega)
    have g1 : ∀ h, pr (l[i]'h) = .agg [i64 ((x.1 : Nat) : Int), i64 ((x.2 : Nat) : Int)] := fun h => by rw [hx]; rfl
    rw [cs1] at hih
    rw [loopW_eq]
    generalize loopW (bd E0 (ev E0) loopW 0 [0, 1, 5] L22b0) = K at hih ⊢
    simpa -implicitDefEqProofs [bd, L22b0, hi, hi2, g1, hw] using hih
theorem vpairs (l : List (Nat × Nat)) (hl : l.length ≤ 1000) : ev E0 22 [.lst 2 (l.map pr), .lst 2 (l.map pr)] [] = some (bl true, []) := by
  have h := vpairs_loop l hl l 0 rfl
  rw [c0] at h
  rw [e22]
  unfold runF
  generalize l.map pr = A at *
  simp -implicitDefEqProofs [L22, h]
end Go.Proofs.YtpfefmofecmjjaaDoor.Ev
