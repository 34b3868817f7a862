/- Jobs and hops: what the reference's small functions and the program's answer. -/
import Derived.Test.YtlmjoimjdpfamaaGreatEvE
import Derived.Test.YtlmjoimjdpfamaaGreatEvBD
set_option linter.unusedVariables false
set_option linter.unusedSimpArgs false
namespace Go.Proofs.YtlmjoimjdpfamaaGreat.Ev
-- ---------------------------------------------------------------- lists
theorem at_drop {α : Type} {l t : List α} {x : α} {i : Nat} (h : l.drop i = x :: t) : ∃ hi : i < l.length, l[i] = x ∧ l.drop (i + 1) = t ∧ x ∈ l := by
  have hi : i < l.length := by
    rcases Nat.lt_or_ge i l.length with h1 | h1
    · exact h1
    · rw [List.drop_of_length_le h1] at h; cases h
  rw [List.drop_eq_getElem_cons hi] at h
  injection h with h1 h2
  exact ⟨hi, h1, h2, h1 ▸ List.getElem_mem hi⟩
theorem not_drop {α : Type} {l : List α} {i : Nat} (h : l.drop i = []) : ¬ i < l.length := by
  intro hi
  rw [List.drop_eq_getElem_cons hi] at h
  cases h
theorem cs1 (i : Nat) : ((i + 1 : Nat) : Int) = (i : Int) + 1 := rfl
theorem c0 : ((0 : Nat) : Int) = 0 := rfl
theorem app_get {α : Type} {l r : List α} {y : α} {i : Nat} (h : l.length = i) : (l ++ y :: r)[i]? = some y := by subst h; simp
theorem app_set {α : Type} {l r : List α} {y z : α} {i : Nat} (h : l.length = i) : (l ++ y :: r).set i z = l ++ z :: r := by subst h; simp
-- ---------------------------------------------------------------- jobs and hops
/-- A job: from, to, span, start. -/
abbrev J := Int × Int × Int × Int
/-- A hop: job, from, begin. -/
abbrev Hh := Int × Int × Int
def jb (j : J) : AV := .agg [i64 j.1, i64 j.2.1, i64 j.2.2.1, i64 j.2.2.2]
def hp (h : Hh) : AV := .agg [i64 h.1, i64 h.2.1, i64 h.2.2]
def btw (a b c : Int) : Bool := decide (b ≤ a) && decide (a ≤ c)
theorem in_s (a b c : Int) : ev E0 47 [i64 a, i64 b, i64 c] [] = some (bl (btw a b c), []) := by
  rw [e47]
  unfold runF btw
  by_cases h : b ≤ a
  · simp -implicitDefEqProofs [L47, h]
  · simp -implicitDefEqProofs [L47, h]
theorem in_i (a b c : Int) : ev E0 45 [i64 a, i64 b, i64 c] [] = some (bl (btw a b c), []) := by
  rw [e45]
  unfold runF btw
  by_cases h : b ≤ a
  · simp -implicitDefEqProofs [L45, h]
  · simp -implicitDefEqProofs [L45, h]
theorem row_s (n : Int) : ev E0 46 [i64 n] [] = some (bl (btw n 2 6), []) := by
  rw [e46]
  unfold runF
  simp -implicitDefEqProofs [L46, in_s]
theorem row_i (n : Int) : ev E0 44 [i64 n] [] = some (bl (btw n 2 6), []) := by
  rw [e44]
  unfold runF
  simp -implicitDefEqProofs [L44, in_i]
def okJob (n : Int) (j : J) : Bool := btw j.1 0 (n - 1) && (btw j.2.1 0 (n - 1) && ((!decide (j.1 = j.2.1)) && (btw j.2.2.1 1 60 && btw j.2.2.2 0 999)))
theorem job_s (n : Int) (hn : btw n 2 6 = true) (j : J) : ev E0 63 [i64 n, jb j] [] = some (bl (okJob n j), []) := by
  unfold btw at hn
  simp only [Bool.and_eq_true, decide_eq_true_eq] at hn
  have hw : IntKind.i64.wrap (n - 1) = n - 1 := wr64 (by omega) (by omega)
  obtain ⟨a, b, c, d⟩ := j
  rw [e63]
  unfold runF okJob jb
  cases h1 : btw a 0 (n - 1) <;> cases h2 : btw b 0 (n - 1) <;> cases h3 : btw c 1 60 <;> by_cases h4 : a = b <;> simp -implicitDefEqProofs [L63, hw, in_s, h1, h2, h3, h4]
theorem job_i (n : Int) (hn : btw n 2 6 = true) (j : J) : ev E0 54 [i64 n, jb j] [] = some (bl (okJob n j), []) := by
  unfold btw at hn
  simp only [Bool.and_eq_true, decide_eq_true_eq] at hn
  have hw : IntKind.i64.wrap (n - 1) = n - 1 := wr64 (by omega) (by omega)
  obtain ⟨a, b, c, d⟩ := j
  rw [e54]
  unfold runF okJob jb
  cases h1 : btw a 0 (n - 1) <;> cases h2 : btw b 0 (n - 1) <;> cases h3 : btw c 1 60 <;> by_cases h4 : a = b <;> simp -implicitDefEqProofs [L54, hw, in_i, h1, h2, h3, h4]
def okJobs (n : Int) (js : List J) : Bool := btw n 2 6 && (decide (js.length ≤ 5) && js.all (okJob n))
theorem good_loop (n : Int) (hn : btw n 2 6 = true) (js : List J) (hl : js.length ≤ 5) : ∀ (t : List J) (i : Nat), js.drop i = t →
    (t.all (okJob n) = false → packX 0 [4] (loopW (bd E0 (ev E0) loopW 0 [0, 1, 5] L30b0) ⟨[(0, i64 n), (1, .lst 4 (js.map jb)), (5, i64 i)], []⟩) = some (.ret, ⟨[(4, bl false)], []⟩)) ∧
    (t.all (okJob n) = true → packX 0 [4] (loopW (bd E0 (ev E0) loopW 0 [0, 1, 5] L30b0) ⟨[(0, i64 n), (1, .lst 4 (js.map jb)), (5, i64 i)], []⟩) = some (.ext 0, ⟨[], []⟩)) := by
  intro t
  induction t with
  | nil =>
    intro i h
    have hi := not_drop h
    rw [loopW_eq]
    generalize loopW (bd E0 (ev E0) loopW 0 [0, 1, 5] L30b0) = K
    refine ⟨fun h => (by simp at h), fun _ => ?_⟩
    simp -implicitDefEqProofs [bd, L30b0, hi]
  | cons c t ih =>
    intro i h
    obtain ⟨hi, hx, hd, hmem⟩ := at_drop h
    have hw : IntKind.i64.wrap ((i : Int) + 1) = (i : Int) + 1 := wr64 (by omega) (by omega)
    obtain ⟨ih1, ih2⟩ := ih (i + 1) hd
    have hj := job_s n hn c
    rw [cs1] at ih1 ih2
    rw [loopW_eq, List.all_cons]
    generalize loopW (bd E0 (ev E0) loopW 0 [0, 1, 5] L30b0) = K at ih1 ih2 ⊢
    unfold jb at hj ih1 ih2 ⊢
    cases ho : okJob n c with
    | false =>
      rw [ho] at hj
      refine ⟨fun _ => ?_, fun h => (by simp at h)⟩
      simp -implicitDefEqProofs [bd, L30b0, hi, hx, hj]
    | true =>
      rw [ho] at hj
      refine ⟨fun h => ?_, fun h => ?_⟩
      · simpa -implicitDefEqProofs [bd, L30b0, hi, hx, hj, hw] using ih1 (by simpa using h)
      · simpa -implicitDefEqProofs [bd, L30b0, hi, hx, hj, hw] using ih2 (by simpa using h)
theorem good_s (n : Int) (js : List J) : ev E0 30 [i64 n, .lst 4 (js.map jb)] [] = some (bl (okJobs n js), []) := by
  rw [e30]
  unfold runF okJobs
  have h1 := row_s n
  cases hn : btw n 2 6 with
  | false =>
    rw [hn] at h1
    simp -implicitDefEqProofs [L30, h1]
  | true =>
    rw [hn] at h1
    by_cases hl : js.length ≤ 5
    · have hl2 : ¬ 5 < js.length := by omega
      have hl3 : ¬ (5 : Int) < (js.length : Int) := by omega
      obtain ⟨k1, k2⟩ := good_loop n hn js hl js 0 rfl
      rw [c0] at k1 k2
      cases ha : js.all (okJob n) with
      | false => simp -implicitDefEqProofs [L30, h1, hl2, hl3, k1 ha]
      | true => simp -implicitDefEqProofs [L30, h1, hl, hl2, hl3, k2 ha]
    · have hl2 : 5 < js.length := by omega
      have hl3 : (5 : Int) < (js.length : Int) := by omega
      simp -implicitDefEqProofs [L30, h1, hl, hl2, hl3]
theorem areJobs1 (n : Int) (hn : btw n 2 6 = true) (j : J) : ev E0 53 [jb j, .el (.agg [i64 n]) 0] [] = some (bl (!okJob n j), []) := by
  rw [e53]
  unfold runF
  have hj := job_i n hn j
  unfold jb at hj ⊢
  simp -implicitDefEqProofs [L53, hj]
theorem jindex_loop (n : Int) (hn : btw n 2 6 = true) (js : List J) (hl : js.length ≤ 5) : ∀ (t : List J) (i : Nat), js.drop i = t →
    (t.all (okJob n) = false → ∃ k : Nat, packX 0 [4] (loopW (bd E0 (ev E0) loopW 0 [0, 1, 7, 8] L68b0) ⟨[(0, .lst 4 (js.map jb)), (1, .fn (.func 53) [] [.el (.agg [i64 n]) 0]), (7, i64 js.length), (8, i64 i)], []⟩) = some (.ret, ⟨[(4, i64 k)], []⟩)) ∧
    (t.all (okJob n) = true → packX 0 [4] (loopW (bd E0 (ev E0) loopW 0 [0, 1, 7, 8] L68b0) ⟨[(0, .lst 4 (js.map jb)), (1, .fn (.func 53) [] [.el (.agg [i64 n]) 0]), (7, i64 js.length), (8, i64 i)], []⟩) = some (.ext 0, ⟨[], []⟩)) := by
  intro t
  induction t with
  | nil =>
    intro i h
    have hi := not_drop h
    have hi2 : ¬ (i : Int) < (js.length : Int) := by omega
    rw [loopW_eq]
    generalize loopW (bd E0 (ev E0) loopW 0 [0, 1, 7, 8] L68b0) = K
    refine ⟨fun h => (by simp at h), fun _ => ?_⟩
    simp -implicitDefEqProofs [bd, L68b0, hi, hi2]
  | cons c t ih =>
    intro i h
    obtain ⟨hi, hx, hd, hmem⟩ := at_drop h
    have hi2 : (i : Int) < (js.length : Int) := by omega
    have hw : IntKind.i64.wrap ((i : Int) + 1) = (i : Int) + 1 := wr64 (by omega) (by omega)
    obtain ⟨ih1, ih2⟩ := ih (i + 1) hd
    have hj := areJobs1 n hn c
    rw [cs1] at ih1 ih2
    rw [loopW_eq, List.all_cons]
    generalize loopW (bd E0 (ev E0) loopW 0 [0, 1, 7, 8] L68b0) = K at ih1 ih2 ⊢
    unfold jb at hj ih1 ih2 ⊢
    cases ho : okJob n c with
    | false =>
      rw [ho] at hj
      refine ⟨fun _ => ⟨i, ?_⟩, fun h => (by simp at h)⟩
      simp -implicitDefEqProofs [bd, L68b0, hi, hi2, hx, hj]
    | true =>
      rw [ho] at hj
      refine ⟨fun h => ?_, fun h => ?_⟩
      · obtain ⟨k, hk⟩ := ih1 (by simpa using h)
        refine ⟨k, ?_⟩
        simpa -implicitDefEqProofs [bd, L68b0, hi, hi2, hx, hj, hw] using hk
      · simpa -implicitDefEqProofs [bd, L68b0, hi, hi2, hx, hj, hw] using ih2 (by simpa using h)
theorem jcontains (n : Int) (hn : btw n 2 6 = true) (js : List J) (hl : js.length ≤ 5) : ev E0 52 [.lst 4 (js.map jb), .fn (.func 53) [] [.el (.agg [i64 n]) 0]] [] = some (bl (!js.all (okJob n)), []) := by
  have hix : (js.all (okJob n) = false → ∃ k : Nat, ev E0 68 [.lst 4 (js.map jb), .fn (.func 53) [] [.el (.agg [i64 n]) 0]] [] = some (i64 k, [])) ∧ (js.all (okJob n) = true → ev E0 68 [.lst 4 (js.map jb), .fn (.func 53) [] [.el (.agg [i64 n]) 0]] [] = some (i64 (-1), [])) := by
    obtain ⟨k1, k2⟩ := jindex_loop n hn js hl js 0 rfl
    rw [c0] at k1 k2
    rw [e68]
    unfold runF
    refine ⟨fun h => ?_, fun h => ?_⟩
    · obtain ⟨k, hk⟩ := k1 h
      exact ⟨k, by simp -implicitDefEqProofs [L68, hk]⟩
    · simp -implicitDefEqProofs [L68, k2 h]
  rw [e52]
  unfold runF
  cases ha : js.all (okJob n) with
  | false =>
    obtain ⟨k, hk⟩ := hix.1 ha
    have h0 : (0 : Int) ≤ (k : Int) := by omega
    simp -implicitDefEqProofs [L52, hk, h0]
  | true => simp -implicitDefEqProofs [L52, hix.2 ha]
theorem areJobs_i (n : Int) (js : List J) : ev E0 27 [i64 n, .lst 4 (js.map jb)] [] = some (bl (okJobs n js), []) := by
  rw [e27]
  unfold runF okJobs
  have h1 := row_i n
  cases hn : btw n 2 6 with
  | false =>
    rw [hn] at h1
    simp -implicitDefEqProofs [L27, h1]
  | true =>
    rw [hn] at h1
    by_cases hl : js.length ≤ 5
    · have hl3 : (js.length : Int) ≤ 5 := by omega
      have hc := jcontains n hn js hl
      simp -implicitDefEqProofs [L27, h1, hl, hl3, hc]
    · have hl3 : ¬ (js.length : Int) ≤ 5 := by omega
      simp -implicitDefEqProofs [L27, h1, hl, hl3]
-- ---------------------------------------------------------------- steps, next stations, clashes, order
def many (j : J) : Int := if j.1 < j.2.1 then j.2.1 - j.1 else j.1 - j.2.1
def way (j : J) : Int := if j.1 < j.2.1 then 1 else -1
/-- Bounds of a job that is valid. -/
structure JB (j : J) : Prop where
  f0 : 0 ≤ j.1
  f1 : j.1 ≤ 5
  t0 : 0 ≤ j.2.1
  t1 : j.2.1 ≤ 5
  ne : j.1 ≠ j.2.1
  s0 : 1 ≤ j.2.2.1
  s1 : j.2.2.1 ≤ 60
  b0 : 0 ≤ j.2.2.2
  b1 : j.2.2.2 ≤ 999
theorem okJob_jb {n : Int} (hn : btw n 2 6 = true) {j : J} (h : okJob n j = true) : JB j := by
  unfold okJob btw at h
  unfold btw at hn
  simp only [Bool.and_eq_true, decide_eq_true_eq, Bool.not_eq_true', decide_eq_false_iff_not] at h hn
  exact ⟨by omega, by omega, by omega, by omega, by omega, by omega, by omega, by omega, by omega⟩
theorem steps_s (j : J) (h : JB j) : ev E0 38 [jb j] [] = some (.tup [i64 (many j), i64 (way j)], []) := by
  obtain ⟨a, b, c, d⟩ := j
  obtain ⟨h1, h2, h3, h4, h5, h6, h7, h8, h9⟩ := h
  dsimp only at h1 h2 h3 h4 h5 h6 h7 h8 h9
  have w1 : IntKind.i64.wrap (b - a) = b - a := wr64 (by omega) (by omega)
  have w2 : IntKind.i64.wrap (a - b) = a - b := wr64 (by omega) (by omega)
  rw [e38]
  unfold runF many way jb
  by_cases h : a < b
  · simp -implicitDefEqProofs [L38, h, w1]
  · simp -implicitDefEqProofs [L38, h, w2]
/-- Where a job is. -/
def jat (js : List J) (k : Int) : J := js.getD k.toNat (0, 0, 0, 0)
def HB (js : List J) (h : Hh) : Prop := 0 ≤ h.1 ∧ h.1 < js.length ∧ -10 ≤ h.2.1 ∧ h.2.1 ≤ 20 ∧ 0 ≤ h.2.2 ∧ h.2.2 ≤ 100000
def nxt (js : List J) (h : Hh) : Int := h.2.1 + way (jat js h.1)
theorem jat_get {js : List J} {k : Nat} (hk : k < js.length) : jat js k = js[k] := by unfold jat; simp [hk]
theorem next_s (js : List J) (hj : ∀ j ∈ js, JB j) (h : Hh) (hb : HB js h) : ev E0 93 [.lst 4 (js.map jb), hp h] [] = some (i64 (nxt js h), []) := by
  obtain ⟨a, b, c⟩ := h
  obtain ⟨h1, h2, h3, h4, h5, h6⟩ := hb
  obtain ⟨k, rfl⟩ : ∃ k : Nat, a = k := ⟨a.toNat, by simp at h1; omega⟩
  have hk : k < js.length := by simp at h2; omega
  have hx := steps_s js[k] (hj _ (List.getElem_mem hk))
  have hj0 := jat_get hk
  simp only at h3 h4
  have hw : IntKind.i64.wrap (b + way js[k]) = b + way js[k] := by
    unfold way
    split <;> exact wr64 (by omega) (by omega)
  unfold jb at hx
  rw [e93]
  unfold runF hp nxt jb
  simp -implicitDefEqProofs [L93, hk, hx, hj0, hw]
theorem next_i (j : J) (h : JB j) (a : Int) (h3 : -10 ≤ a) (h4 : a ≤ 20) : ev E0 60 [jb j, i64 a] [] = some (i64 (a + way j), []) := by
  obtain ⟨f, t, c, d⟩ := j
  have w1 : IntKind.i64.wrap (a + 1) = a + 1 := wr64 (by omega) (by omega)
  have w2 : IntKind.i64.wrap (a - 1) = a - 1 := wr64 (by omega) (by omega)
  rw [e60]
  unfold runF way jb
  by_cases h : f < t
  · simp -implicitDefEqProofs [L60, h, w1]
  · simp -implicitDefEqProofs [L60, h, w2]
    omega
/-- Do two hops keep a station busy at once? -/
def clash (js : List J) (a b : Hh) : Bool := !(decide (a.2.2 + (jat js a.1).2.2.1 ≤ b.2.2) || decide (b.2.2 + (jat js b.1).2.2.1 ≤ a.2.2)) && (decide (a.2.1 = b.2.1) || decide (a.2.1 = nxt js b) || decide (nxt js a = b.2.1) || decide (nxt js a = nxt js b))
theorem clash_s (js : List J) (hj : ∀ j ∈ js, JB j) (a b : Hh) (ha : HB js a) (hb : HB js b) : ev E0 77 [.lst 4 (js.map jb), hp a, hp b] [] = some (bl (clash js a b), []) := by
  have n1 := next_s js hj a ha
  have n2 := next_s js hj b hb
  obtain ⟨a1, a2, a3⟩ := a
  obtain ⟨b1, b2, b3⟩ := b
  obtain ⟨p1, p2, p3, p4, p5, p6⟩ := ha
  obtain ⟨q1, q2, q3, q4, q5, q6⟩ := hb
  obtain ⟨k, rfl⟩ : ∃ k : Nat, a1 = k := ⟨a1.toNat, by simp at p1; omega⟩
  obtain ⟨m, rfl⟩ : ∃ m : Nat, b1 = m := ⟨b1.toNat, by simp at q1; omega⟩
  have hk : k < js.length := by simp at p2; omega
  have hm : m < js.length := by simp at q2; omega
  have k1 := hj _ (List.getElem_mem hk)
  have m1 := hj _ (List.getElem_mem hm)
  have s1 := k1.s0
  have s2 := k1.s1
  have s3 := m1.s0
  have s4 := m1.s1
  simp only at p5 p6 q5 q6
  have w1 : IntKind.i64.wrap (a3 + js[k].2.2.1) = a3 + js[k].2.2.1 := wr64 (by omega) (by omega)
  have w2 : IntKind.i64.wrap (b3 + js[m].2.2.1) = b3 + js[m].2.2.1 := wr64 (by omega) (by omega)
  have j1 := jat_get hk
  have j2 := jat_get hm
  unfold hp at n1 n2 ⊢
  rw [e77]
  unfold runF clash
  unfold jb at n1 n2 ⊢
  simp only at n1 n2
  generalize hx : nxt js ((k : Int), a2, a3) = x at *
  generalize hy : nxt js ((m : Int), b2, b3) = y at *
  simp only [j1, j2]
  by_cases h1 : a3 + js[k].2.2.1 ≤ b3
  · simp -implicitDefEqProofs [L77, hk, hm, w1, w2, h1]
  · by_cases h2 : b3 + js[m].2.2.1 ≤ a3
    · simp -implicitDefEqProofs [L77, hk, hm, w1, w2, h1, h2]
    · clear hx hy
      by_cases h3 : a2 = b2
      · subst h3
        simp -implicitDefEqProofs [L77, hk, hm, w1, w2, h1, h2, n1, n2]
      · by_cases h4 : a2 = y
        · subst h4
          simp -implicitDefEqProofs [L77, hk, hm, w1, w2, h1, h2, n1, n2, h3]
        · by_cases h5 : x = b2
          · subst h5
            simp -implicitDefEqProofs [L77, hk, hm, w1, w2, h1, h2, n1, n2, h3, h4]
          · simp -implicitDefEqProofs [L77, hk, hm, w1, w2, h1, h2, n1, n2, h3, h4, h5]
/-- Does a hop come before another? -/
def bef (a b : Hh) : Bool := decide (a.2.2 < b.2.2) || (decide (a.2.2 = b.2.2) && decide (a.1 < b.1))
theorem before_s (a b : Hh) : ev E0 78 [hp a, hp b] [] = some (bl (bef a b), []) := by
  obtain ⟨a1, a2, a3⟩ := a
  obtain ⟨b1, b2, b3⟩ := b
  rw [e78]
  unfold runF bef hp
  by_cases h : a3 = b3
  · subst h
    simp -implicitDefEqProofs [L78]
  · have h2 : ¬ (decide (a3 = b3) = true) := by simpa using h
    simp -implicitDefEqProofs [L78, h]
def cmpI (a b : Int) : Int := if a < b then -1 else if b < a then 1 else 0
theorem nan_i (a : Int) : ev E0 92 [i64 a] [] = some (bl false, []) := by
  rw [e92]
  unfold runF
  simp -implicitDefEqProofs [L92]
theorem cmp_i (a b : Int) : ev E0 76 [i64 a, i64 b] [] = some (i64 (cmpI a b), []) := by
  rw [e76]
  unfold runF cmpI
  by_cases h : a < b
  · simp -implicitDefEqProofs [L76, nan_i, h]
  · by_cases h2 : b < a
    · simp -implicitDefEqProofs [L76, nan_i, h, h2]
    · simp -implicitDefEqProofs [L76, nan_i, h, h2]
theorem or_i (a b : Int) : ev E0 75 [.lst 1 [i64 a, i64 b]] [] = some (i64 (if a = 0 then b else a), []) := by
  have w1 : IntKind.i64.wrap 1 = 1 := wr64 (by omega) (by omega)
  have w2 : IntKind.i64.wrap 2 = 2 := wr64 (by omega) (by omega)
  rw [e75]
  unfold runF
  by_cases ha : a = 0
  · subst ha
    by_cases hb : b = 0
    · subst hb
      simp -implicitDefEqProofs [L75, loopW_eq, bd, L75b0, w1, w2]
    · simp -implicitDefEqProofs [L75, loopW_eq, bd, L75b0, w1, w2, hb]
  · simp -implicitDefEqProofs [L75, loopW_eq, bd, L75b0, w1, w2, ha]
def bb (a b : Hh) : Int := if cmpI a.2.2 b.2.2 = 0 then cmpI a.1 b.1 else cmpI a.2.2 b.2.2
theorem bb_lt (a b : Hh) : bb a b < 0 ↔ bef a b = true := by
  unfold bb bef cmpI
  simp only [Bool.or_eq_true, Bool.and_eq_true, decide_eq_true_eq]
  split <;> split at * <;> (repeat' split at *) <;> omega
theorem byBegin_i (a b : Hh) : ev E0 62 [hp a, hp b] [] = some (i64 (bb a b), []) := by
  obtain ⟨a1, a2, a3⟩ := a
  obtain ⟨b1, b2, b3⟩ := b
  rw [e62]
  unfold runF bb hp
  simp -implicitDefEqProofs [L62, cmp_i, or_i]
end Go.Proofs.YtlmjoimjdpfamaaGreat.Ev
