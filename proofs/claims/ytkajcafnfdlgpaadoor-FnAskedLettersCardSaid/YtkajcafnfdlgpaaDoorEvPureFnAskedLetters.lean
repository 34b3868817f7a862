/- FnAskedLetters: the law, run by the evaluator, answers true. -/
import Derived.Test.YtkajcafnfdlgpaaDoorEvAskedY
set_option linter.unusedVariables false
set_option linter.unusedSimpArgs false
namespace Go.Proofs.YtkajcafnfdlgpaaDoor.Ev
open Dr
theorem i64n_inj : ∀ {a b : List Nat}, i64n a = i64n b → a = b
  | [], [], _ => rfl
  | [], y :: b, h => by simp [i64n] at h
  | x :: a, [], h => by simp [i64n] at h
  | x :: a, y :: b, h => by
    unfold i64n at h
    rw [List.map_cons, List.map_cons] at h
    injection h with h1 h2
    injection h1 with h1
    injection h1 with _ h1
    have h3 : x = y := by omega
    rw [h3, i64n_inj (show i64n a = i64n b from h2)]
theorem twa_big (x : List Int) : ev E1 5 [.lst 1 (cd x)] [] = some (bl (decide (65536 < (x.length : Int))), []) := by
  rw [g5]
  exact frz_to rfl (rbig x) (by simp) (by simp)
theorem twa_ints (l : List Int) (hm : l.length ≤ 140737488355328) : ev E1 12 [.lst 1 (i64s l), .lst 1 (i64s l)] [] = some (bl true, []) := by
  rw [g12]
  exact frz_to rfl (rints l hm) (by simp) (by simp)
theorem i64n_s' (l : List Nat) : i64n l = i64s (l.map fun n : Nat => (n : Int)) := by unfold i64n i64s; rw [List.map_map]; rfl
theorem twa_nats (l : List Nat) (hm : l.length ≤ 140737488355328) : ev E1 12 [.lst 1 (i64n l), .lst 1 (i64n l)] [] = some (bl true, []) := by
  rw [i64n_s']
  exact twa_ints _ (by simpa using hm)
theorem rhas_loop (l : List Int) (c : Int) (hm : l.length ≤ 140737488355328) (hc : c ∉ l) : ∀ (t : List Int) (i : Nat), l.drop i = t →
    packX 0 [4] (loopW (bd E0 (ev E0) loopW 0 [0, 1, 5] L38b0) ⟨[(0, .lst 1 (i64s l)), (1, i64 c), (5, i64 i)], []⟩) = some (.ext 0, ⟨[], []⟩) := by
  intro t
  induction t with
  | nil =>
    intro i h
    have hi := not_drop h
    rw [loopW_eq]
    generalize loopW (bd E0 (ev E0) loopW 0 [0, 1, 5] L38b0) = K
    simp -implicitDefEqProofs [bd, L38b0, i64s, hi]
  | cons d t ih =>
    intro i h
    obtain ⟨hi, hx, hd, hmem⟩ := at_drop h
    have hih := ih (i + 1) hd
    have hne : ¬ d = c := fun e => hc (e ▸ hmem)
    have hw : IntKind.i64.wrap ((i : Int) + 1) = (i : Int) + 1 := wr64 (by omega) (by omega)
    rw [cs1] at hih
    rw [loopW_eq]
    generalize loopW (bd E0 (ev E0) loopW 0 [0, 1, 5] L38b0) = K at hih ⊢
    simpa -implicitDefEqProofs [bd, L38b0, i64s, hi, hx, hw, hne] using hih
theorem twa_hasnot (l : List Int) (c : Int) (hm : l.length ≤ 140737488355328) (hc : c ∉ l) : ev E1 38 [.lst 1 (i64s l), i64 c] [] = some (bl false, []) := by
  have e : ev E0 38 [.lst 1 (i64s l), i64 c] [] = some (bl false, []) := by
    rw [e38]
    unfold runF
    have h := rhas_loop l c hm hc l 0 rfl
    rw [c0] at h
    simp -implicitDefEqProofs [L38, h]
  rw [g38]
  exact frz_to rfl e (by simp) (by simp)
theorem twa_partD (x : List Int) (hx : okC x) : ∃ (ms : List ByteArray) (l : List Int) (q : Int), ms.length ≤ 30 ∧ (∀ t ∈ ms, t.size ≤ 20) ∧ l.length ≤ 60 ∧ ev E1 18 [.lst 1 (cd x)] [] = some (.tup [.agg [.lst 1 (ms.map st)], .lst 1 (i64s l), i64 q], []) := by
  obtain ⟨T, L, H, r, q, hT, b1, _, _, e⟩ := drawPart x hx
  rw [g18]
  rcases hT with ⟨rfl, rfl, rfl⟩ | ⟨ms, z1, z2, rfl, rfl, rfl⟩
  · exact ⟨[], r, q, by simp, by simp, b1, frz_to rfl e (by simp) (by simp [ib, i64s])⟩
  · exact ⟨ms, r, q, z1, z2, b1, frz_to rfl e (by simp) (by simp [tr, ib, i64s])⟩
theorem twa_depthD (x : List Int) (hx : okC x) : ∃ (ms : List ByteArray) (l : List Int), ms.length ≤ 30 ∧ (∀ t ∈ ms, t.size ≤ 20) ∧ l.length ≤ 60 ∧ ev E1 21 [.lst 1 (cd x)] [] = some (.tup [.agg [.lst 1 (ms.map st)], .lst 1 (i64s l)], []) := by
  obtain ⟨T, L, H, r, hT, b1, e⟩ := drawDepth x hx
  rw [g21]
  rcases hT with ⟨rfl, rfl, rfl⟩ | ⟨ms, z1, z2, rfl, rfl, rfl⟩
  · exact ⟨[], r, by simp, by simp, b1, frz_to rfl e (by simp) (by simp [ib, i64s])⟩
  · exact ⟨ms, r, z1, z2, b1, frz_to rfl e (by simp) (by simp [tr, ib, i64s])⟩
theorem twa_askedD (x : List Int) (hx : okC x) : ∃ (ms : List ByteArray) (k : Int), ms.length ≤ 30 ∧ (∀ t ∈ ms, t.size ≤ 20) ∧ ev E1 32 [.lst 1 (cd x)] [] = some (.tup [.agg [.lst 1 (ms.map st)], i64 k], []) := by
  obtain ⟨T, H, k, hT, b1, b2, e⟩ := drawAskedFor x hx
  rw [g32]
  rcases hT with ⟨rfl, rfl⟩ | ⟨ms, z1, z2, rfl, rfl⟩
  · exact ⟨[], k, by simp, by simp, frz_to rfl e (by simp) (by simp)⟩
  · exact ⟨ms, k, z1, z2, frz_to rfl e (by simp) (by simp [tr])⟩
theorem twa_answerD (x : List Int) (hx : okC x) : ∃ (ms : List ByteArray) (k q : Int), ms.length ≤ 30 ∧ (∀ t ∈ ms, t.size ≤ 20) ∧ ev E1 35 [.lst 1 (cd x)] [] = some (.tup [.agg [.lst 1 (ms.map st)], i64 k, i64 q], []) := by
  obtain ⟨T, H, k, q, hT, b1, b2, b3, b4, e⟩ := drawAnswer x hx
  rw [g35]
  rcases hT with ⟨rfl, rfl⟩ | ⟨ms, z1, z2, rfl, rfl⟩
  · exact ⟨[], k, q, by simp, by simp, frz_to rfl e (by simp) (by simp)⟩
  · exact ⟨ms, k, q, z1, z2, frz_to rfl e (by simp) (by simp [tr])⟩
theorem twa_answer (ms : List ByteArray) (k q : Int) (hl : ms.length ≤ 30) (hz : ∀ t ∈ ms, t.size ≤ 20) : ∃ (v : Int) (ok : Bool), 0 ≤ v ∧ v ≤ 2 ∧ ev E1 37 [.agg [.lst 1 (ms.map st)], i64 k, i64 q] [] = some (.tup [i64 v, bl ok], []) ∧ ev E1 36 [.agg [.lst 1 (ms.map st)], i64 k, i64 q] [] = some (.tup [i64 v, bl ok], []) := by
  have hs : ∀ x ∈ ms, x.size ≤ 140737488355328 := fun x hx => by have := hz x hx; omega
  obtain ⟨h1, h2⟩ := answerTo ms (by omega) hs k q
  rw [g37, g36]
  cases h : okTable ms && okLetter ms k && okPlace q with
  | false =>
    obtain ⟨k1, k2⟩ := h1 h
    exact ⟨0, false, by omega, by omega, frz_to rfl k1 (by simp) (by simp), frz_to rfl k2 (by simp) (by simp)⟩
  | true =>
    simp only [Bool.and_eq_true] at h
    obtain ⟨b1, b2⟩ := okLetter_bounds h.1.2
    have hq := h.2
    unfold okPlace at hq
    simp only [Bool.and_eq_true, decide_eq_true_eq] at hq
    obtain ⟨i, rfl⟩ : ∃ i : Nat, k = i := ⟨k.toNat, by omega⟩
    obtain ⟨p, rfl⟩ : ∃ p : Nat, q = p := ⟨q.toNat, by omega⟩
    obtain ⟨k1, k2⟩ := h2 i p rfl rfl h.1.1 (by omega) (by omega)
    have hc := ansN_cases ms p i
    exact ⟨(ansN ms p i : Nat), true, by omega, by omega, frz_to rfl k1 (by simp) (by simp), frz_to rfl k2 (by simp) (by simp)⟩
theorem twa_ans (ms : List ByteArray) (i p : Nat) (hl : ms.length ≤ 30) (hz : ∀ t ∈ ms, t.size ≤ 20) (hT : okTable ms = true) (hi : i < ms.length) (hp : p < 5) : ev E1 36 [.agg [.lst 1 (ms.map st)], i64 i, i64 p] [] = some (.tup [i64 (ansN ms p i), bl true], []) := by
  have hs : ∀ x ∈ ms, x.size ≤ 140737488355328 := fun x hx => by have := hz x hx; omega
  obtain ⟨_, h2⟩ := answerTo ms (by omega) hs i p
  obtain ⟨k1, k2⟩ := h2 i p rfl rfl hT hi hp
  rw [g36]
  exact frz_to rfl k2 (by simp) (by simp)
/-- What is asked for a letter. -/
theorem twa_asked (ms : List ByteArray) (k : Int) (hl : ms.length ≤ 30) (hz : ∀ t ∈ ms, t.size ≤ 20) : ∃ (r : List Int) (ok : Bool), r.length ≤ 30 ∧ ev E1 34 [.agg [.lst 1 (ms.map st)], i64 k] [] = some (.tup [.lst 1 (i64s r), bl ok], []) ∧ ev E1 33 [.agg [.lst 1 (ms.map st)], i64 k] [] = some (.tup [.lst 1 (i64s r), bl ok], []) ∧
    (ok = true → ∃ i : Nat, k = i ∧ i < ms.length ∧ okTable ms = true ∧ r = askN ms i ms.length (allL ms.length 0)) := by
  have hs : ∀ x ∈ ms, x.size ≤ 140737488355328 := fun x hx => by have := hz x hx; omega
  rw [g34, g33]
  cases h : okTable ms && okLetter ms k with
  | false =>
    obtain ⟨k1, k2⟩ := askedFor_no ms (by omega) hs k h
    exact ⟨[], false, by simp, frz_to rfl k1 (by simp) (by simp [i64s]), frz_to rfl k2 (by simp) (by simp [i64s]), fun h => by cases h⟩
  | true =>
    rw [Bool.and_eq_true] at h
    obtain ⟨b1, b2⟩ := okLetter_bounds h.2
    obtain ⟨i, rfl⟩ : ∃ i : Nat, k = i := ⟨k.toNat, by omega⟩
    have hi : i < ms.length := by omega
    have t1 := letter_s ms (by omega) hs i
    have t2 := table_i ms (by omega) hs
    have t3 := letter_i ms (by omega) i
    rw [h.1, h.2] at t1
    rw [h.1] at t2
    rw [h.2] at t3
    have a1 := ask_s ms (by omega) h.1 i hi
    have a2 := ask_i ms (by omega) h.1 i hi
    have hlen := askN_len ms i ms.length (allL ms.length 0)
    have htk : ∀ l : List Int, List.take l.length (i64s l) = i64s l := fun l => List.take_of_length_le (by simp [i64s_len])
    refine ⟨_, true, by omega, ?_, ?_, fun _ => ⟨i, rfl, hi, h.1, rfl⟩⟩
    · refine frz_to rfl (?_ : ev E0 34 [.agg [.lst 1 (ms.map st)], i64 i] [] = some (.tup [.sl 0 0 (askN ms i ms.length (allL ms.length 0)).length, bl true], [some ⟨3, 1, 1, false, i64s (askN ms i ms.length (allL ms.length 0))⟩])) (by simp) (by simp [i64s_len, htk])
      generalize askN ms i ms.length (allL ms.length 0) = r at *
      rw [e34]
      unfold runF
      simp -implicitDefEqProofs [L34, t1, a1]
    · refine frz_to rfl (?_ : ev E0 33 [.agg [.lst 1 (ms.map st)], i64 i] [] = some (.tup [.sl 0 0 (askN ms i ms.length (allL ms.length 0)).length, bl true], [some ⟨3, 1, 1, false, i64s (askN ms i ms.length (allL ms.length 0))⟩])) (by simp) (by simp [i64s_len, htk])
      generalize askN ms i ms.length (allL ms.length 0) = r at *
      rw [e33]
      unfold runF
      simp -implicitDefEqProofs [L33, t2, t3, a2]
-- ---------------------------------------------------------------- the law's loops
def cA (ms : List ByteArray) : Blk := ⟨26, 1, 0, false, [.agg [.lst 1 (ms.map st)]]⟩
def cQ (a b c : List Nat) : Blk := ⟨44, 3, 0, false, [r3 a b c]⟩
theorem sum_loop (x l : List Int) (ok : Bool) (a b c : List Nat) (ha : a.length ≤ 1000) (hb : b.length ≤ 1000) (hc : c.length ≤ 1000) :
    packX 0 [0, 2, 4, 7, 10] (loopW (bd E1 (ev E1) loopW 0 [0, 4, 6, 7, 8, 10, 11] L4b0) ⟨[(0, .lst 1 (cd x)), (4, .lst 1 (i64s l)), (6, .ptr 0 0 0), (7, bl ok), (8, .ptr 1 0 0), (10, i64 0), (11, i64 0)], [some (cQ a b c), some (cQ a b c)]⟩) = some (.ext 0, ⟨[(0, .lst 1 (cd x)), (4, .lst 1 (i64s l)), (7, bl ok), (10, i64 ((a.length + b.length + c.length : Nat) : Int))], []⟩) := by
  have qa := twa_nats a (by omega)
  have qb := twa_nats b (by omega)
  have qc := twa_nats c (by omega)
  have w0 : IntKind.i64.wrap 0 = 0 := wr64 (by omega) (by omega)
  have w1 : IntKind.i64.wrap (a.length : Int) = (a.length : Int) := wr64 (by omega) (by omega)
  have w2 : IntKind.i64.wrap ((a.length : Int) + (b.length : Int)) = (a.length : Int) + (b.length : Int) := wr64 (by omega) (by omega)
  have w3 : IntKind.i64.wrap ((a.length : Int) + (b.length : Int) + (c.length : Int)) = (a.length : Int) + (b.length : Int) + (c.length : Int) := wr64 (by omega) (by omega)
  have u1 : IntKind.i64.wrap 1 = 1 := wr64 (by omega) (by omega)
  have u2 : IntKind.i64.wrap 2 = 2 := wr64 (by omega) (by omega)
  have u3 : IntKind.i64.wrap 3 = 3 := wr64 (by omega) (by omega)
  rw [show ((a.length + b.length + c.length : Nat) : Int) = (a.length : Int) + (b.length : Int) + (c.length : Int) by omega]
  have s3 : packX 0 [0, 2, 4, 7, 10] (loopW (bd E1 (ev E1) loopW 0 [0, 4, 6, 7, 8, 10, 11] L4b0) ⟨[(0, .lst 1 (cd x)), (4, .lst 1 (i64s l)), (6, .ptr 0 0 0), (7, bl ok), (8, .ptr 1 0 0), (10, i64 ((a.length : Int) + (b.length : Int) + (c.length : Int))), (11, i64 3)], [some (cQ a b c), some (cQ a b c)]⟩) = some (.ext 0, ⟨[(0, .lst 1 (cd x)), (4, .lst 1 (i64s l)), (7, bl ok), (10, i64 ((a.length : Int) + (b.length : Int) + (c.length : Int)))], []⟩) := by
    rw [loopW_eq]
    generalize loopW (bd E1 (ev E1) loopW 0 [0, 4, 6, 7, 8, 10, 11] L4b0) = K
    simp -implicitDefEqProofs [bd, L4b0, cQ, r3]
  have s2 : packX 0 [0, 2, 4, 7, 10] (loopW (bd E1 (ev E1) loopW 0 [0, 4, 6, 7, 8, 10, 11] L4b0) ⟨[(0, .lst 1 (cd x)), (4, .lst 1 (i64s l)), (6, .ptr 0 0 0), (7, bl ok), (8, .ptr 1 0 0), (10, i64 ((a.length : Int) + (b.length : Int))), (11, i64 2)], [some (cQ a b c), some (cQ a b c)]⟩) = some (.ext 0, ⟨[(0, .lst 1 (cd x)), (4, .lst 1 (i64s l)), (7, bl ok), (10, i64 ((a.length : Int) + (b.length : Int) + (c.length : Int)))], []⟩) := by
    rw [loopW_eq]
    generalize loopW (bd E1 (ev E1) loopW 0 [0, 4, 6, 7, 8, 10, 11] L4b0) = K at s3 ⊢
    simpa -implicitDefEqProofs [bd, L4b0, cQ, r3, qc, i64n_len, w3, u3] using s3
  have s1 : packX 0 [0, 2, 4, 7, 10] (loopW (bd E1 (ev E1) loopW 0 [0, 4, 6, 7, 8, 10, 11] L4b0) ⟨[(0, .lst 1 (cd x)), (4, .lst 1 (i64s l)), (6, .ptr 0 0 0), (7, bl ok), (8, .ptr 1 0 0), (10, i64 (a.length : Int)), (11, i64 1)], [some (cQ a b c), some (cQ a b c)]⟩) = some (.ext 0, ⟨[(0, .lst 1 (cd x)), (4, .lst 1 (i64s l)), (7, bl ok), (10, i64 ((a.length : Int) + (b.length : Int) + (c.length : Int)))], []⟩) := by
    rw [loopW_eq]
    generalize loopW (bd E1 (ev E1) loopW 0 [0, 4, 6, 7, 8, 10, 11] L4b0) = K at s2 ⊢
    simpa -implicitDefEqProofs [bd, L4b0, cQ, r3, qb, i64n_len, w2, u2] using s2
  rw [loopW_eq]
  generalize loopW (bd E1 (ev E1) loopW 0 [0, 4, 6, 7, 8, 10, 11] L4b0) = K at s1 ⊢
  simpa -implicitDefEqProofs [bd, L4b0, cQ, r3, qa, i64n_len, w1, u1] using s1
theorem same_loop (ms : List ByteArray) (hl : ms.length ≤ 30) (hz : ∀ t ∈ ms, t.size ≤ 20) (hT : okTable ms = true) (letter i : Nat) (hlt : letter < ms.length) (hi : i < ms.length) (r : List Int) (hr : ∀ c ∈ r, ∃ p : Nat, c = p ∧ p < 5) (hrl : r.length ≤ 1000) (cnt : Int) : ∀ (t : List Int) (j : Nat) (same : Bool), r.drop j = t →
    packX 0 [34, 35, 36, 53, 54, 55] (loopW (bd E1 (ev E1) loopW 0 [34, 35, 36, 53, 54, 55, 56] L4b2) ⟨[(34, .ptr 0 0 0), (35, i64 letter), (36, .lst 1 (i64s r)), (53, i64 cnt), (54, i64 i), (55, bl same), (56, i64 j)], [some (cA ms)]⟩) = some (.ext 6, ⟨[(34, .ptr 0 0 0), (35, i64 letter), (36, .lst 1 (i64s r)), (53, i64 cnt), (54, i64 i), (55, bl (same && sameA ms letter t i))], [some (cA ms)]⟩) := by
  intro t
  induction t with
  | nil =>
    intro j same h
    have hj := not_drop h
    rw [loopW_eq]
    generalize loopW (bd E1 (ev E1) loopW 0 [34, 35, 36, 53, 54, 55, 56] L4b2) = K
    simp -implicitDefEqProofs [bd, L4b2, i64s, hj, cA, sameA]
  | cons c t ih =>
    intro j same h
    obtain ⟨hj, hx, hd, hmem⟩ := at_drop h
    obtain ⟨p, rfl, hp⟩ := hr c hmem
    have hih := ih (j + 1) (same && (ansN ms p i == ansN ms p letter)) hd
    have hw : IntKind.i64.wrap ((j : Int) + 1) = (j : Int) + 1 := wr64 (by omega) (by omega)
    have a1 := twa_ans ms i p hl hz hT hi hp
    have a2 := twa_ans ms letter p hl hz hT hlt hp
    have hs2 : (same && (ansN ms p i == ansN ms p letter) && sameA ms letter t i) = (same && sameA ms letter ((p : Int) :: t) i) := by
      unfold sameA
      rw [List.all_cons, Int.toNat_natCast, Bool.and_assoc]
    rw [cs1, hs2] at hih
    have hdec : decide ((ansN ms p i : Int) = (ansN ms p letter : Int)) = (ansN ms p i == ansN ms p letter) := by
      cases hb : ansN ms p i == ansN ms p letter with
      | true => rw [beq_iff_eq] at hb; rw [hb]; simp
      | false =>
        have hb2 : ¬ ansN ms p i = ansN ms p letter := by intro e; rw [e] at hb; simp at hb
        simp; omega
    generalize sameA ms letter ((p : Int) :: t) i = ss at *
    rw [loopW_eq]
    generalize loopW (bd E1 (ev E1) loopW 0 [34, 35, 36, 53, 54, 55, 56] L4b2) = K at hih ⊢
    generalize ansN ms p i = u at *
    generalize ansN ms p letter = v at *
    by_cases huv : u = v
    · subst huv
      cases same <;> simpa -implicitDefEqProofs [bd, L4b2, i64s, hj, hx, hw, a1, a2, cA] using hih
    · have huv2 : ¬ (u : Int) = (v : Int) := by omega
      have huv3 : (u == v) = false := by simpa using huv
      rw [huv3] at hih
      cases same <;> simpa -implicitDefEqProofs [bd, L4b2, i64s, hj, hx, hw, a1, a2, cA, huv, huv2] using hih
theorem all_cons (k i : Nat) : allL (k + 1) i = i :: allL k (i + 1) := rfl
theorem count_loop (ms : List ByteArray) (hl : ms.length ≤ 30) (hz : ∀ t ∈ ms, t.size ≤ 20) (hT : okTable ms = true) (letter : Nat) (hlt : letter < ms.length) (r : List Int) (hr : ∀ c ∈ r, ∃ p : Nat, c = p ∧ p < 5) (hrl : r.length ≤ 1000) : ∀ (k i cnt : Nat), i + k = ms.length → cnt ≤ i →
    packX 0 [53] (loopW (bd E1 (ev E1) loopW 0 [34, 35, 36, 53, 54] L4b3) ⟨[(34, .ptr 0 0 0), (35, i64 letter), (36, .lst 1 (i64s r)), (53, i64 cnt), (54, i64 i)], [some (cA ms)]⟩) = some (.ext 4, ⟨[(53, i64 ((cnt + ((allL k i).filter (sameA ms letter r)).length : Nat) : Int))], []⟩) := by
  intro k
  induction k with
  | zero =>
    intro i cnt h hc
    have hi : ¬ i < ms.length := by omega
    have hi2 : ¬ (i : Int) < (ms.length : Int) := by omega
    rw [loopW_eq]
    generalize loopW (bd E1 (ev E1) loopW 0 [34, 35, 36, 53, 54] L4b3) = K
    simp -implicitDefEqProofs [bd, L4b3, hi, hi2, cA, allL]
  | succ k ih =>
    intro i cnt h hc
    have hi : i < ms.length := by omega
    have hi2 : (i : Int) < (ms.length : Int) := by omega
    have hw : IntKind.i64.wrap ((i : Int) + 1) = (i : Int) + 1 := wr64 (by omega) (by omega)
    have hw2 : IntKind.i64.wrap ((cnt : Int) + 1) = (cnt : Int) + 1 := wr64 (by omega) (by omega)
    have hsm := same_loop ms hl hz hT letter i hlt hi r hr hrl cnt r 0 true rfl
    rw [c0, Bool.true_and] at hsm
    rw [all_cons, List.filter_cons]
    unfold cA at hsm
    rw [loopW_eq]
    cases hs : sameA ms letter r i with
    | true =>
      have hih := ih (i + 1) (cnt + 1) (by omega) (by omega)
      rw [hs] at hsm
      rw [cs1, cs1, show cnt + 1 + ((allL k (i + 1)).filter (sameA ms letter r)).length = cnt + (i :: (allL k (i + 1)).filter (sameA ms letter r)).length by rw [List.length_cons]; omega] at hih
      rw [if_pos rfl]
      generalize loopW (bd E1 (ev E1) loopW 0 [34, 35, 36, 53, 54] L4b3) = K at hih ⊢
      generalize ((i :: (allL k (i + 1)).filter (sameA ms letter r)).length) = z at *
      unfold bd at ⊢
      unfold cA at *
      simpa -implicitDefEqProofs [L4b3, hi, hi2, hw, hw2, hsm] using hih
    | false =>
      have hih := ih (i + 1) cnt (by omega) (by omega)
      rw [hs] at hsm
      rw [cs1] at hih
      rw [if_neg (by simp)]
      generalize loopW (bd E1 (ev E1) loopW 0 [34, 35, 36, 53, 54] L4b3) = K at hih ⊢
      generalize ((allL k (i + 1)).filter (sameA ms letter r)).length = z at *
      unfold bd at ⊢
      unfold cA at *
      simpa -implicitDefEqProofs [L4b3, hi, hi2, hw, hw2, hsm] using hih
/-- One round of the worst part. -/
theorem worst_loop (us vs : List ByteArray) (deep letter : Int) (asked : List Int) (six : Bool) (a b c : List Nat) (ha : gp us a ≤ 1000) (hb : gp us b ≤ 1000) (hc : gp us c ≤ 1000)
    (qa : a = [] ∨ (a ≠ [] ∧ ev E1 22 [.agg [.lst 1 (us.map st)], .lst 1 (i64n a)] [] = some (.tup [i64 (gp us a : Nat), bl true], []))) (qb : b = [] ∨ (b ≠ [] ∧ ev E1 22 [.agg [.lst 1 (us.map st)], .lst 1 (i64n b)] [] = some (.tup [i64 (gp us b : Nat), bl true], []))) (qc : c = [] ∨ (c ≠ [] ∧ ev E1 22 [.agg [.lst 1 (us.map st)], .lst 1 (i64n c)] [] = some (.tup [i64 (gp us c : Nat), bl true], []))) :
    packX 0 [2, 14, 34, 35, 36, 37, 48, 49] (loopW (bd E1 (ev E1) loopW 0 [12, 14, 34, 35, 36, 37, 47, 48, 49, 50] L4b1) ⟨[(12, .ptr 0 0 0), (14, i64 deep), (34, .ptr 1 0 0), (35, i64 letter), (36, .lst 1 (i64s asked)), (37, bl six), (47, .ptr 2 0 0), (48, bl true), (49, i64 0), (50, i64 0)], [some (cA us), some (cA vs), some (cQ a b c)]⟩) = some (.ext 2, ⟨[(14, i64 deep), (34, .ptr 0 0 0), (35, i64 letter), (36, .lst 1 (i64s asked)), (37, bl six), (48, bl true), (49, i64 ((max (max (gp us a) (gp us b)) (gp us c) : Nat) : Int))], [some (cA vs)]⟩) := by
  have u1 : IntKind.i64.wrap 1 = 1 := wr64 (by omega) (by omega)
  have u2 : IntKind.i64.wrap 2 = 2 := wr64 (by omega) (by omega)
  have u3 : IntKind.i64.wrap 3 = 3 := wr64 (by omega) (by omega)
  have gz : gp us [] = 0 := by simp [gp]
  have s3 : ∀ w : Int, packX 0 [2, 14, 34, 35, 36, 37, 48, 49] (loopW (bd E1 (ev E1) loopW 0 [12, 14, 34, 35, 36, 37, 47, 48, 49, 50] L4b1) ⟨[(12, .ptr 0 0 0), (14, i64 deep), (34, .ptr 1 0 0), (35, i64 letter), (36, .lst 1 (i64s asked)), (37, bl six), (47, .ptr 2 0 0), (48, bl true), (49, i64 w), (50, i64 3)], [some (cA us), some (cA vs), some (cQ a b c)]⟩) = some (.ext 2, ⟨[(14, i64 deep), (34, .ptr 0 0 0), (35, i64 letter), (36, .lst 1 (i64s asked)), (37, bl six), (48, bl true), (49, i64 w)], [some (cA vs)]⟩) := by
    intro w
    rw [loopW_eq]
    generalize loopW (bd E1 (ev E1) loopW 0 [12, 14, 34, 35, 36, 37, 47, 48, 49, 50] L4b1) = K
    simp -implicitDefEqProofs [bd, L4b1, cA, cQ, r3]
  have s2 : ∀ w : Nat, w ≤ 1000 → packX 0 [2, 14, 34, 35, 36, 37, 48, 49] (loopW (bd E1 (ev E1) loopW 0 [12, 14, 34, 35, 36, 37, 47, 48, 49, 50] L4b1) ⟨[(12, .ptr 0 0 0), (14, i64 deep), (34, .ptr 1 0 0), (35, i64 letter), (36, .lst 1 (i64s asked)), (37, bl six), (47, .ptr 2 0 0), (48, bl true), (49, i64 (w : Int)), (50, i64 2)], [some (cA us), some (cA vs), some (cQ a b c)]⟩) = some (.ext 2, ⟨[(14, i64 deep), (34, .ptr 0 0 0), (35, i64 letter), (36, .lst 1 (i64s asked)), (37, bl six), (48, bl true), (49, i64 ((max w (gp us c) : Nat) : Int))], [some (cA vs)]⟩) := by
    intro w hw
    have pv := s3 ((max w (gp us c) : Nat) : Int)
    rw [loopW_eq]
    generalize loopW (bd E1 (ev E1) loopW 0 [12, 14, 34, 35, 36, 37, 47, 48, 49, 50] L4b1) = K at pv ⊢
    rcases qc with hx | ⟨hx, e⟩
    · subst hx
      rw [gz, Nat.max_zero] at pv ⊢
      simpa -implicitDefEqProofs [bd, L4b1, cA, cQ, r3, i64n, u3] using pv
    · have np : 0 < c.length := List.length_pos_iff.2 hx
      have np2 : (0 : Int) < (c.length : Int) := by omega
      generalize gp us c = g at *
      by_cases hgw : w < g
      · have hgw2 : (w : Int) < (g : Int) := by omega
        rw [Nat.max_eq_right (by omega : w ≤ g)] at pv ⊢
        simpa -implicitDefEqProofs [bd, L4b1, cA, cQ, r3, i64n_len, u3, np, np2, e, hgw, hgw2] using pv
      · have hgw2 : ¬ (w : Int) < (g : Int) := by omega
        rw [Nat.max_eq_left (by omega : g ≤ w)] at pv ⊢
        simpa -implicitDefEqProofs [bd, L4b1, cA, cQ, r3, i64n_len, u3, np, np2, e, hgw, hgw2] using pv
  have s1 : ∀ w : Nat, w ≤ 1000 → packX 0 [2, 14, 34, 35, 36, 37, 48, 49] (loopW (bd E1 (ev E1) loopW 0 [12, 14, 34, 35, 36, 37, 47, 48, 49, 50] L4b1) ⟨[(12, .ptr 0 0 0), (14, i64 deep), (34, .ptr 1 0 0), (35, i64 letter), (36, .lst 1 (i64s asked)), (37, bl six), (47, .ptr 2 0 0), (48, bl true), (49, i64 (w : Int)), (50, i64 1)], [some (cA us), some (cA vs), some (cQ a b c)]⟩) = some (.ext 2, ⟨[(14, i64 deep), (34, .ptr 0 0 0), (35, i64 letter), (36, .lst 1 (i64s asked)), (37, bl six), (48, bl true), (49, i64 ((max (max w (gp us b)) (gp us c) : Nat) : Int))], [some (cA vs)]⟩) := by
    intro w hw
    have pv := s2 (max w (gp us b)) (by omega)
    rw [loopW_eq]
    generalize loopW (bd E1 (ev E1) loopW 0 [12, 14, 34, 35, 36, 37, 47, 48, 49, 50] L4b1) = K at pv ⊢
    rcases qb with hx | ⟨hx, e⟩
    · subst hx
      rw [gz, Nat.max_zero] at pv ⊢
      simpa -implicitDefEqProofs [bd, L4b1, cA, cQ, r3, i64n, u2] using pv
    · have np : 0 < b.length := List.length_pos_iff.2 hx
      have np2 : (0 : Int) < (b.length : Int) := by omega
      generalize gp us b = g at *
      by_cases hgw : w < g
      · have hgw2 : (w : Int) < (g : Int) := by omega
        rw [Nat.max_eq_right (by omega : w ≤ g)] at pv ⊢
        simpa -implicitDefEqProofs [bd, L4b1, cA, cQ, r3, i64n_len, u2, np, np2, e, hgw, hgw2] using pv
      · have hgw2 : ¬ (w : Int) < (g : Int) := by omega
        rw [Nat.max_eq_left (by omega : g ≤ w)] at pv ⊢
        simpa -implicitDefEqProofs [bd, L4b1, cA, cQ, r3, i64n_len, u2, np, np2, e, hgw, hgw2] using pv
  have s0 : ∀ w : Nat, w ≤ 1000 → packX 0 [2, 14, 34, 35, 36, 37, 48, 49] (loopW (bd E1 (ev E1) loopW 0 [12, 14, 34, 35, 36, 37, 47, 48, 49, 50] L4b1) ⟨[(12, .ptr 0 0 0), (14, i64 deep), (34, .ptr 1 0 0), (35, i64 letter), (36, .lst 1 (i64s asked)), (37, bl six), (47, .ptr 2 0 0), (48, bl true), (49, i64 (w : Int)), (50, i64 0)], [some (cA us), some (cA vs), some (cQ a b c)]⟩) = some (.ext 2, ⟨[(14, i64 deep), (34, .ptr 0 0 0), (35, i64 letter), (36, .lst 1 (i64s asked)), (37, bl six), (48, bl true), (49, i64 ((max (max (max w (gp us a)) (gp us b)) (gp us c) : Nat) : Int))], [some (cA vs)]⟩) := by
    intro w hw
    have pv := s1 (max w (gp us a)) (by omega)
    rw [loopW_eq]
    generalize loopW (bd E1 (ev E1) loopW 0 [12, 14, 34, 35, 36, 37, 47, 48, 49, 50] L4b1) = K at pv ⊢
    rcases qa with hx | ⟨hx, e⟩
    · subst hx
      rw [gz, Nat.max_zero] at pv ⊢
      simpa -implicitDefEqProofs [bd, L4b1, cA, cQ, r3, i64n, u1] using pv
    · have np : 0 < a.length := List.length_pos_iff.2 hx
      have np2 : (0 : Int) < (a.length : Int) := by omega
      generalize gp us a = g at *
      by_cases hgw : w < g
      · have hgw2 : (w : Int) < (g : Int) := by omega
        rw [Nat.max_eq_right (by omega : w ≤ g)] at pv ⊢
        simpa -implicitDefEqProofs [bd, L4b1, cA, cQ, r3, i64n_len, u1, np, np2, e, hgw, hgw2] using pv
      · have hgw2 : ¬ (w : Int) < (g : Int) := by omega
        rw [Nat.max_eq_left (by omega : g ≤ w)] at pv ⊢
        simpa -implicitDefEqProofs [bd, L4b1, cA, cQ, r3, i64n_len, u1, np, np2, e, hgw, hgw2] using pv
  have := s0 0 (by omega)
  rw [c0, Nat.zero_max] at this
  exact this
theorem gp_le {us : List ByteArray} {p : List Nat} (hp : p.length ≤ 100) (hv : ∀ x ∈ p, x < us.length) (ha : Apart us p) : gp us p ≤ 1000 := by
  unfold gp
  split
  · omega
  · rename_i h
    have := dep_lt p.length p (Nat.le_refl _) (by omega) h hv ha
    omega
theorem part_deep (us : List ByteArray) (hl : us.length ≤ 30) (hz : ∀ t ∈ us, t.size ≤ 20) (hT : okTable us = true) (l : List Int) (hll : l.length ≤ 60) (hL : okLetters us l = true) (ln : List Nat) (e : i64s l = i64n ln) (hv : ∀ x ∈ ln, x < us.length) (ha : Apart us ln) (p a : Nat) :
    partN us p a ln = [] ∨ (partN us p a ln ≠ [] ∧ ev E1 22 [.agg [.lst 1 (us.map st)], .lst 1 (i64n (partN us p a ln))] [] = some (.tup [i64 (gp us (partN us p a ln) : Nat), bl true], [])) := by
  by_cases hp : partN us p a ln = []
  · exact .inl hp
  · refine .inr ⟨hp, ?_⟩
    obtain ⟨l', e', hL', hlen⟩ := part_letters hL e p a hp
    obtain ⟨d, b, f, v, are, two, one, three, _, h2, _, h1, _, _, hD, _, _, _, hone⟩ := two_game us l' hl hz (by omega)
    have ho : one = true := by rw [h1, hT, hL']; rfl
    obtain ⟨ln', e2, _, _, _, _, hd, _⟩ := hone ho
    have hln : ln' = partN us p a ln := i64n_inj (e2.symm.trans e')
    have hx := hD 22 (.inr rfl)
    rw [e', ho, hd, hln] at hx
    unfold gp
    rw [if_neg hp]
    exact hx
theorem askLaw_ff_false (x0 : List Int) (hb : ev E1 5 [.lst 1 (cd x0)] [] = some (bl false, [])) (ms us vs ws : List ByteArray) (l r vn ra : List Int) (q k y z d bb av : Int) (f okp seven : Bool) (a b c : List Nat)
    (d1 : ev E1 18 [.lst 1 (cd x0)] [] = some (.tup [.agg [.lst 1 (ms.map st)], .lst 1 (i64s l), i64 q], []))
    (d2 : ev E1 21 [.lst 1 (cd x0)] [] = some (.tup [.agg [.lst 1 (us.map st)], .lst 1 (i64s r)], []))
    (d3 : ev E1 32 [.lst 1 (cd x0)] [] = some (.tup [.agg [.lst 1 (vs.map st)], i64 k], []))
    (d4 : ev E1 35 [.lst 1 (cd x0)] [] = some (.tup [.agg [.lst 1 (ws.map st)], i64 y, i64 z], []))
    (p1 : ev E1 20 [.agg [.lst 1 (ms.map st)], .lst 1 (i64s l), i64 q] [] = some (.tup [r3 a b c, bl okp], []))
    (p2 : ev E1 19 [.agg [.lst 1 (ms.map st)], .lst 1 (i64s l), i64 q] [] = some (.tup [r3 a b c, bl okp], []))
    (hsl : packX 0 [0, 2, 4, 7, 10] (loopW (bd E1 (ev E1) loopW 0 [0, 4, 6, 7, 8, 10, 11] L4b0) ⟨[(0, .lst 1 (cd x0)), (4, .lst 1 (i64s l)), (6, .ptr 0 0 0), (7, bl okp), (8, .ptr 1 0 0), (10, i64 0), (11, i64 0)], [some ⟨44, 3, 0, false, [r3 a b c]⟩, some ⟨44, 3, 0, false, [r3 a b c]⟩]⟩) = some (.ext 0, ⟨[(0, .lst 1 (cd x0)), (4, .lst 1 (i64s l)), (7, bl okp), (10, i64 ((a.length : Int) + (b.length : Int) + (c.length : Int)))], []⟩))
    (hpp : okp = false ∨ (okp = true ∧ (a.length : Int) + (b.length : Int) + (c.length : Int) = (l.length : Int)))
    (A1 : ev E1 25 [.agg [.lst 1 (us.map st)], .lst 1 (i64s r)] [] = some (.tup [bl false, bl false], []))
    (A2 : ev E1 24 [.agg [.lst 1 (us.map st)], .lst 1 (i64s r)] [] = some (.tup [bl false, bl false], []))
    (D1 : ev E1 23 [.agg [.lst 1 (us.map st)], .lst 1 (i64s r)] [] = some (.tup [i64 d, bl false], []))
    (D2 : ev E1 22 [.agg [.lst 1 (us.map st)], .lst 1 (i64s r)] [] = some (.tup [i64 d, bl false], []))
    (B1 : ev E1 27 [.agg [.lst 1 (us.map st)], .lst 1 (i64s r)] [] = some (.tup [i64 bb, bl false], []))
    (B2 : ev E1 26 [.agg [.lst 1 (us.map st)], .lst 1 (i64s r)] [] = some (.tup [i64 bb, bl false], []))
    (V1 : ev E1 29 [.agg [.lst 1 (us.map st)], .lst 1 (i64s r)] [] = some (.tup [.lst 1 (i64s vn), bl false], []))
    (V2 : ev E1 28 [.agg [.lst 1 (us.map st)], .lst 1 (i64s r)] [] = some (.tup [.lst 1 (i64s vn), bl false], []))
    (F1 : ev E1 31 [.agg [.lst 1 (us.map st)], .lst 1 (i64s r)] [] = some (.tup [bl f, bl false], []))
    (F2 : ev E1 30 [.agg [.lst 1 (us.map st)], .lst 1 (i64s r)] [] = some (.tup [bl f, bl false], []))
    (qv : ev E1 12 [.lst 1 (i64s vn), .lst 1 (i64s vn)] [] = some (bl true, []))
    (k1 : ev E1 34 [.agg [.lst 1 (vs.map st)], i64 k] [] = some (.tup [.lst 1 (i64s ra), bl false], []))
    (k2 : ev E1 33 [.agg [.lst 1 (vs.map st)], i64 k] [] = some (.tup [.lst 1 (i64s ra), bl false], []))
    (qa : ev E1 12 [.lst 1 (i64s ra), .lst 1 (i64s ra)] [] = some (bl true, []))
    (n1 : ev E1 37 [.agg [.lst 1 (ws.map st)], i64 y, i64 z] [] = some (.tup [i64 av, bl seven], []))
    (n2 : ev E1 36 [.agg [.lst 1 (ws.map st)], i64 y, i64 z] [] = some (.tup [i64 av, bl seven], []))
    (t3 : ¬ av < 0) (t4 : ¬ 2 < av)
 :
    ev E1 4 [.lst 1 (cd x0)] [] = some (bl true, []) := by
  rw [g4]
  unfold runF
  unfold r3 at hsl p1 p2
  rcases hpp with rfl | ⟨rfl, hpp⟩
  · simp -implicitDefEqProofs [L4, hb, d1, d2, d3, d4, p1, p2, hsl, A1, A2, D1, D2, B1, B2, V1, V2, F1, F2, qv, k1, k2, qa, n1, n2, t3, t4, i64s_len]
  · simp -implicitDefEqProofs [L4, hb, d1, d2, d3, d4, p1, p2, hsl, A1, A2, D1, D2, B1, B2, V1, V2, F1, F2, qv, k1, k2, qa, n1, n2, t3, t4, i64s_len, hpp]
theorem askLaw_ff_true (x0 : List Int) (hb : ev E1 5 [.lst 1 (cd x0)] [] = some (bl false, [])) (ms us vs ws : List ByteArray) (l r vn ra : List Int) (q k y z d bb av : Int) (f okp seven : Bool) (a b c : List Nat)
    (d1 : ev E1 18 [.lst 1 (cd x0)] [] = some (.tup [.agg [.lst 1 (ms.map st)], .lst 1 (i64s l), i64 q], []))
    (d2 : ev E1 21 [.lst 1 (cd x0)] [] = some (.tup [.agg [.lst 1 (us.map st)], .lst 1 (i64s r)], []))
    (d3 : ev E1 32 [.lst 1 (cd x0)] [] = some (.tup [.agg [.lst 1 (vs.map st)], i64 k], []))
    (d4 : ev E1 35 [.lst 1 (cd x0)] [] = some (.tup [.agg [.lst 1 (ws.map st)], i64 y, i64 z], []))
    (p1 : ev E1 20 [.agg [.lst 1 (ms.map st)], .lst 1 (i64s l), i64 q] [] = some (.tup [r3 a b c, bl okp], []))
    (p2 : ev E1 19 [.agg [.lst 1 (ms.map st)], .lst 1 (i64s l), i64 q] [] = some (.tup [r3 a b c, bl okp], []))
    (hsl : packX 0 [0, 2, 4, 7, 10] (loopW (bd E1 (ev E1) loopW 0 [0, 4, 6, 7, 8, 10, 11] L4b0) ⟨[(0, .lst 1 (cd x0)), (4, .lst 1 (i64s l)), (6, .ptr 0 0 0), (7, bl okp), (8, .ptr 1 0 0), (10, i64 0), (11, i64 0)], [some ⟨44, 3, 0, false, [r3 a b c]⟩, some ⟨44, 3, 0, false, [r3 a b c]⟩]⟩) = some (.ext 0, ⟨[(0, .lst 1 (cd x0)), (4, .lst 1 (i64s l)), (7, bl okp), (10, i64 ((a.length : Int) + (b.length : Int) + (c.length : Int)))], []⟩))
    (hpp : okp = false ∨ (okp = true ∧ (a.length : Int) + (b.length : Int) + (c.length : Int) = (l.length : Int)))
    (A1 : ev E1 25 [.agg [.lst 1 (us.map st)], .lst 1 (i64s r)] [] = some (.tup [bl false, bl false], []))
    (A2 : ev E1 24 [.agg [.lst 1 (us.map st)], .lst 1 (i64s r)] [] = some (.tup [bl false, bl false], []))
    (D1 : ev E1 23 [.agg [.lst 1 (us.map st)], .lst 1 (i64s r)] [] = some (.tup [i64 d, bl false], []))
    (D2 : ev E1 22 [.agg [.lst 1 (us.map st)], .lst 1 (i64s r)] [] = some (.tup [i64 d, bl false], []))
    (B1 : ev E1 27 [.agg [.lst 1 (us.map st)], .lst 1 (i64s r)] [] = some (.tup [i64 bb, bl false], []))
    (B2 : ev E1 26 [.agg [.lst 1 (us.map st)], .lst 1 (i64s r)] [] = some (.tup [i64 bb, bl false], []))
    (V1 : ev E1 29 [.agg [.lst 1 (us.map st)], .lst 1 (i64s r)] [] = some (.tup [.lst 1 (i64s vn), bl false], []))
    (V2 : ev E1 28 [.agg [.lst 1 (us.map st)], .lst 1 (i64s r)] [] = some (.tup [.lst 1 (i64s vn), bl false], []))
    (F1 : ev E1 31 [.agg [.lst 1 (us.map st)], .lst 1 (i64s r)] [] = some (.tup [bl f, bl false], []))
    (F2 : ev E1 30 [.agg [.lst 1 (us.map st)], .lst 1 (i64s r)] [] = some (.tup [bl f, bl false], []))
    (qv : ev E1 12 [.lst 1 (i64s vn), .lst 1 (i64s vn)] [] = some (bl true, []))
    (k1 : ev E1 34 [.agg [.lst 1 (vs.map st)], i64 k] [] = some (.tup [.lst 1 (i64s ra), bl true], []))
    (k2 : ev E1 33 [.agg [.lst 1 (vs.map st)], i64 k] [] = some (.tup [.lst 1 (i64s ra), bl true], []))
    (qa : ev E1 12 [.lst 1 (i64s ra), .lst 1 (i64s ra)] [] = some (bl true, []))
    (n1 : ev E1 37 [.agg [.lst 1 (ws.map st)], i64 y, i64 z] [] = some (.tup [i64 av, bl seven], []))
    (n2 : ev E1 36 [.agg [.lst 1 (ws.map st)], i64 y, i64 z] [] = some (.tup [i64 av, bl seven], []))
    (t3 : ¬ av < 0) (t4 : ¬ 2 < av)
    (hlast : packX 0 [53] (loopW (bd E1 (ev E1) loopW 0 [34, 35, 36, 53, 54] L4b3) ⟨[(34, .ptr 0 0 0), (35, i64 k), (36, .lst 1 (i64s ra)), (53, i64 0), (54, i64 0)], [some ⟨26, 1, 0, false, [.agg [.lst 1 (vs.map st)]]⟩]⟩) = some (.ext 4, ⟨[(53, i64 1)], []⟩))
 :
    ev E1 4 [.lst 1 (cd x0)] [] = some (bl true, []) := by
  rw [g4]
  unfold runF
  unfold r3 at hsl p1 p2
  rcases hpp with rfl | ⟨rfl, hpp⟩
  · simp -implicitDefEqProofs [L4, hb, d1, d2, d3, d4, p1, p2, hsl, A1, A2, D1, D2, B1, B2, V1, V2, F1, F2, qv, k1, k2, qa, n1, n2, t3, t4, i64s_len, hlast]
  · simp -implicitDefEqProofs [L4, hb, d1, d2, d3, d4, p1, p2, hsl, A1, A2, D1, D2, B1, B2, V1, V2, F1, F2, qv, k1, k2, qa, n1, n2, t3, t4, i64s_len, hlast, hpp]
theorem askLaw_ft_false (x0 : List Int) (hb : ev E1 5 [.lst 1 (cd x0)] [] = some (bl false, [])) (ms us vs ws : List ByteArray) (l r vn ra : List Int) (q k y z d bb av : Int) (f okp seven : Bool) (a b c : List Nat)
    (d1 : ev E1 18 [.lst 1 (cd x0)] [] = some (.tup [.agg [.lst 1 (ms.map st)], .lst 1 (i64s l), i64 q], []))
    (d2 : ev E1 21 [.lst 1 (cd x0)] [] = some (.tup [.agg [.lst 1 (us.map st)], .lst 1 (i64s r)], []))
    (d3 : ev E1 32 [.lst 1 (cd x0)] [] = some (.tup [.agg [.lst 1 (vs.map st)], i64 k], []))
    (d4 : ev E1 35 [.lst 1 (cd x0)] [] = some (.tup [.agg [.lst 1 (ws.map st)], i64 y, i64 z], []))
    (p1 : ev E1 20 [.agg [.lst 1 (ms.map st)], .lst 1 (i64s l), i64 q] [] = some (.tup [r3 a b c, bl okp], []))
    (p2 : ev E1 19 [.agg [.lst 1 (ms.map st)], .lst 1 (i64s l), i64 q] [] = some (.tup [r3 a b c, bl okp], []))
    (hsl : packX 0 [0, 2, 4, 7, 10] (loopW (bd E1 (ev E1) loopW 0 [0, 4, 6, 7, 8, 10, 11] L4b0) ⟨[(0, .lst 1 (cd x0)), (4, .lst 1 (i64s l)), (6, .ptr 0 0 0), (7, bl okp), (8, .ptr 1 0 0), (10, i64 0), (11, i64 0)], [some ⟨44, 3, 0, false, [r3 a b c]⟩, some ⟨44, 3, 0, false, [r3 a b c]⟩]⟩) = some (.ext 0, ⟨[(0, .lst 1 (cd x0)), (4, .lst 1 (i64s l)), (7, bl okp), (10, i64 ((a.length : Int) + (b.length : Int) + (c.length : Int)))], []⟩))
    (hpp : okp = false ∨ (okp = true ∧ (a.length : Int) + (b.length : Int) + (c.length : Int) = (l.length : Int)))
    (A1 : ev E1 25 [.agg [.lst 1 (us.map st)], .lst 1 (i64s r)] [] = some (.tup [bl false, bl true], []))
    (A2 : ev E1 24 [.agg [.lst 1 (us.map st)], .lst 1 (i64s r)] [] = some (.tup [bl false, bl true], []))
    (D1 : ev E1 23 [.agg [.lst 1 (us.map st)], .lst 1 (i64s r)] [] = some (.tup [i64 d, bl false], []))
    (D2 : ev E1 22 [.agg [.lst 1 (us.map st)], .lst 1 (i64s r)] [] = some (.tup [i64 d, bl false], []))
    (B1 : ev E1 27 [.agg [.lst 1 (us.map st)], .lst 1 (i64s r)] [] = some (.tup [i64 bb, bl false], []))
    (B2 : ev E1 26 [.agg [.lst 1 (us.map st)], .lst 1 (i64s r)] [] = some (.tup [i64 bb, bl false], []))
    (V1 : ev E1 29 [.agg [.lst 1 (us.map st)], .lst 1 (i64s r)] [] = some (.tup [.lst 1 (i64s vn), bl false], []))
    (V2 : ev E1 28 [.agg [.lst 1 (us.map st)], .lst 1 (i64s r)] [] = some (.tup [.lst 1 (i64s vn), bl false], []))
    (F1 : ev E1 31 [.agg [.lst 1 (us.map st)], .lst 1 (i64s r)] [] = some (.tup [bl f, bl false], []))
    (F2 : ev E1 30 [.agg [.lst 1 (us.map st)], .lst 1 (i64s r)] [] = some (.tup [bl f, bl false], []))
    (qv : ev E1 12 [.lst 1 (i64s vn), .lst 1 (i64s vn)] [] = some (bl true, []))
    (k1 : ev E1 34 [.agg [.lst 1 (vs.map st)], i64 k] [] = some (.tup [.lst 1 (i64s ra), bl false], []))
    (k2 : ev E1 33 [.agg [.lst 1 (vs.map st)], i64 k] [] = some (.tup [.lst 1 (i64s ra), bl false], []))
    (qa : ev E1 12 [.lst 1 (i64s ra), .lst 1 (i64s ra)] [] = some (bl true, []))
    (n1 : ev E1 37 [.agg [.lst 1 (ws.map st)], i64 y, i64 z] [] = some (.tup [i64 av, bl seven], []))
    (n2 : ev E1 36 [.agg [.lst 1 (ws.map st)], i64 y, i64 z] [] = some (.tup [i64 av, bl seven], []))
    (t3 : ¬ av < 0) (t4 : ¬ 2 < av)
 :
    ev E1 4 [.lst 1 (cd x0)] [] = some (bl true, []) := by
  rw [g4]
  unfold runF
  unfold r3 at hsl p1 p2
  rcases hpp with rfl | ⟨rfl, hpp⟩
  · simp -implicitDefEqProofs [L4, hb, d1, d2, d3, d4, p1, p2, hsl, A1, A2, D1, D2, B1, B2, V1, V2, F1, F2, qv, k1, k2, qa, n1, n2, t3, t4, i64s_len]
  · simp -implicitDefEqProofs [L4, hb, d1, d2, d3, d4, p1, p2, hsl, A1, A2, D1, D2, B1, B2, V1, V2, F1, F2, qv, k1, k2, qa, n1, n2, t3, t4, i64s_len, hpp]
theorem askLaw_ft_true (x0 : List Int) (hb : ev E1 5 [.lst 1 (cd x0)] [] = some (bl false, [])) (ms us vs ws : List ByteArray) (l r vn ra : List Int) (q k y z d bb av : Int) (f okp seven : Bool) (a b c : List Nat)
    (d1 : ev E1 18 [.lst 1 (cd x0)] [] = some (.tup [.agg [.lst 1 (ms.map st)], .lst 1 (i64s l), i64 q], []))
    (d2 : ev E1 21 [.lst 1 (cd x0)] [] = some (.tup [.agg [.lst 1 (us.map st)], .lst 1 (i64s r)], []))
    (d3 : ev E1 32 [.lst 1 (cd x0)] [] = some (.tup [.agg [.lst 1 (vs.map st)], i64 k], []))
    (d4 : ev E1 35 [.lst 1 (cd x0)] [] = some (.tup [.agg [.lst 1 (ws.map st)], i64 y, i64 z], []))
    (p1 : ev E1 20 [.agg [.lst 1 (ms.map st)], .lst 1 (i64s l), i64 q] [] = some (.tup [r3 a b c, bl okp], []))
    (p2 : ev E1 19 [.agg [.lst 1 (ms.map st)], .lst 1 (i64s l), i64 q] [] = some (.tup [r3 a b c, bl okp], []))
    (hsl : packX 0 [0, 2, 4, 7, 10] (loopW (bd E1 (ev E1) loopW 0 [0, 4, 6, 7, 8, 10, 11] L4b0) ⟨[(0, .lst 1 (cd x0)), (4, .lst 1 (i64s l)), (6, .ptr 0 0 0), (7, bl okp), (8, .ptr 1 0 0), (10, i64 0), (11, i64 0)], [some ⟨44, 3, 0, false, [r3 a b c]⟩, some ⟨44, 3, 0, false, [r3 a b c]⟩]⟩) = some (.ext 0, ⟨[(0, .lst 1 (cd x0)), (4, .lst 1 (i64s l)), (7, bl okp), (10, i64 ((a.length : Int) + (b.length : Int) + (c.length : Int)))], []⟩))
    (hpp : okp = false ∨ (okp = true ∧ (a.length : Int) + (b.length : Int) + (c.length : Int) = (l.length : Int)))
    (A1 : ev E1 25 [.agg [.lst 1 (us.map st)], .lst 1 (i64s r)] [] = some (.tup [bl false, bl true], []))
    (A2 : ev E1 24 [.agg [.lst 1 (us.map st)], .lst 1 (i64s r)] [] = some (.tup [bl false, bl true], []))
    (D1 : ev E1 23 [.agg [.lst 1 (us.map st)], .lst 1 (i64s r)] [] = some (.tup [i64 d, bl false], []))
    (D2 : ev E1 22 [.agg [.lst 1 (us.map st)], .lst 1 (i64s r)] [] = some (.tup [i64 d, bl false], []))
    (B1 : ev E1 27 [.agg [.lst 1 (us.map st)], .lst 1 (i64s r)] [] = some (.tup [i64 bb, bl false], []))
    (B2 : ev E1 26 [.agg [.lst 1 (us.map st)], .lst 1 (i64s r)] [] = some (.tup [i64 bb, bl false], []))
    (V1 : ev E1 29 [.agg [.lst 1 (us.map st)], .lst 1 (i64s r)] [] = some (.tup [.lst 1 (i64s vn), bl false], []))
    (V2 : ev E1 28 [.agg [.lst 1 (us.map st)], .lst 1 (i64s r)] [] = some (.tup [.lst 1 (i64s vn), bl false], []))
    (F1 : ev E1 31 [.agg [.lst 1 (us.map st)], .lst 1 (i64s r)] [] = some (.tup [bl f, bl false], []))
    (F2 : ev E1 30 [.agg [.lst 1 (us.map st)], .lst 1 (i64s r)] [] = some (.tup [bl f, bl false], []))
    (qv : ev E1 12 [.lst 1 (i64s vn), .lst 1 (i64s vn)] [] = some (bl true, []))
    (k1 : ev E1 34 [.agg [.lst 1 (vs.map st)], i64 k] [] = some (.tup [.lst 1 (i64s ra), bl true], []))
    (k2 : ev E1 33 [.agg [.lst 1 (vs.map st)], i64 k] [] = some (.tup [.lst 1 (i64s ra), bl true], []))
    (qa : ev E1 12 [.lst 1 (i64s ra), .lst 1 (i64s ra)] [] = some (bl true, []))
    (n1 : ev E1 37 [.agg [.lst 1 (ws.map st)], i64 y, i64 z] [] = some (.tup [i64 av, bl seven], []))
    (n2 : ev E1 36 [.agg [.lst 1 (ws.map st)], i64 y, i64 z] [] = some (.tup [i64 av, bl seven], []))
    (t3 : ¬ av < 0) (t4 : ¬ 2 < av)
    (hlast : packX 0 [53] (loopW (bd E1 (ev E1) loopW 0 [34, 35, 36, 53, 54] L4b3) ⟨[(34, .ptr 0 0 0), (35, i64 k), (36, .lst 1 (i64s ra)), (53, i64 0), (54, i64 0)], [some ⟨26, 1, 0, false, [.agg [.lst 1 (vs.map st)]]⟩]⟩) = some (.ext 4, ⟨[(53, i64 1)], []⟩))
 :
    ev E1 4 [.lst 1 (cd x0)] [] = some (bl true, []) := by
  rw [g4]
  unfold runF
  unfold r3 at hsl p1 p2
  rcases hpp with rfl | ⟨rfl, hpp⟩
  · simp -implicitDefEqProofs [L4, hb, d1, d2, d3, d4, p1, p2, hsl, A1, A2, D1, D2, B1, B2, V1, V2, F1, F2, qv, k1, k2, qa, n1, n2, t3, t4, i64s_len, hlast]
  · simp -implicitDefEqProofs [L4, hb, d1, d2, d3, d4, p1, p2, hsl, A1, A2, D1, D2, B1, B2, V1, V2, F1, F2, qv, k1, k2, qa, n1, n2, t3, t4, i64s_len, hlast, hpp]
theorem askLaw_tf_false (x0 : List Int) (hb : ev E1 5 [.lst 1 (cd x0)] [] = some (bl false, [])) (ms us vs ws : List ByteArray) (l r vn ra : List Int) (q k y z d bb av : Int) (f okp seven : Bool) (a b c : List Nat)
    (d1 : ev E1 18 [.lst 1 (cd x0)] [] = some (.tup [.agg [.lst 1 (ms.map st)], .lst 1 (i64s l), i64 q], []))
    (d2 : ev E1 21 [.lst 1 (cd x0)] [] = some (.tup [.agg [.lst 1 (us.map st)], .lst 1 (i64s r)], []))
    (d3 : ev E1 32 [.lst 1 (cd x0)] [] = some (.tup [.agg [.lst 1 (vs.map st)], i64 k], []))
    (d4 : ev E1 35 [.lst 1 (cd x0)] [] = some (.tup [.agg [.lst 1 (ws.map st)], i64 y, i64 z], []))
    (p1 : ev E1 20 [.agg [.lst 1 (ms.map st)], .lst 1 (i64s l), i64 q] [] = some (.tup [r3 a b c, bl okp], []))
    (p2 : ev E1 19 [.agg [.lst 1 (ms.map st)], .lst 1 (i64s l), i64 q] [] = some (.tup [r3 a b c, bl okp], []))
    (hsl : packX 0 [0, 2, 4, 7, 10] (loopW (bd E1 (ev E1) loopW 0 [0, 4, 6, 7, 8, 10, 11] L4b0) ⟨[(0, .lst 1 (cd x0)), (4, .lst 1 (i64s l)), (6, .ptr 0 0 0), (7, bl okp), (8, .ptr 1 0 0), (10, i64 0), (11, i64 0)], [some ⟨44, 3, 0, false, [r3 a b c]⟩, some ⟨44, 3, 0, false, [r3 a b c]⟩]⟩) = some (.ext 0, ⟨[(0, .lst 1 (cd x0)), (4, .lst 1 (i64s l)), (7, bl okp), (10, i64 ((a.length : Int) + (b.length : Int) + (c.length : Int)))], []⟩))
    (hpp : okp = false ∨ (okp = true ∧ (a.length : Int) + (b.length : Int) + (c.length : Int) = (l.length : Int)))
    (A1 : ev E1 25 [.agg [.lst 1 (us.map st)], .lst 1 (i64s r)] [] = some (.tup [bl true, bl true], []))
    (A2 : ev E1 24 [.agg [.lst 1 (us.map st)], .lst 1 (i64s r)] [] = some (.tup [bl true, bl true], []))
    (D1 : ev E1 23 [.agg [.lst 1 (us.map st)], .lst 1 (i64s r)] [] = some (.tup [i64 d, bl true], []))
    (D2 : ev E1 22 [.agg [.lst 1 (us.map st)], .lst 1 (i64s r)] [] = some (.tup [i64 d, bl true], []))
    (B1 : ev E1 27 [.agg [.lst 1 (us.map st)], .lst 1 (i64s r)] [] = some (.tup [i64 bb, bl false], []))
    (B2 : ev E1 26 [.agg [.lst 1 (us.map st)], .lst 1 (i64s r)] [] = some (.tup [i64 bb, bl false], []))
    (V1 : ev E1 29 [.agg [.lst 1 (us.map st)], .lst 1 (i64s r)] [] = some (.tup [.lst 1 (i64s vn), bl true], []))
    (V2 : ev E1 28 [.agg [.lst 1 (us.map st)], .lst 1 (i64s r)] [] = some (.tup [.lst 1 (i64s vn), bl true], []))
    (F1 : ev E1 31 [.agg [.lst 1 (us.map st)], .lst 1 (i64s r)] [] = some (.tup [bl f, bl false], []))
    (F2 : ev E1 30 [.agg [.lst 1 (us.map st)], .lst 1 (i64s r)] [] = some (.tup [bl f, bl false], []))
    (qv : ev E1 12 [.lst 1 (i64s vn), .lst 1 (i64s vn)] [] = some (bl true, []))
    (k1 : ev E1 34 [.agg [.lst 1 (vs.map st)], i64 k] [] = some (.tup [.lst 1 (i64s ra), bl false], []))
    (k2 : ev E1 33 [.agg [.lst 1 (vs.map st)], i64 k] [] = some (.tup [.lst 1 (i64s ra), bl false], []))
    (qa : ev E1 12 [.lst 1 (i64s ra), .lst 1 (i64s ra)] [] = some (bl true, []))
    (n1 : ev E1 37 [.agg [.lst 1 (ws.map st)], i64 y, i64 z] [] = some (.tup [i64 av, bl seven], []))
    (n2 : ev E1 36 [.agg [.lst 1 (ws.map st)], i64 y, i64 z] [] = some (.tup [i64 av, bl seven], []))
    (t3 : ¬ av < 0) (t4 : ¬ 2 < av)
    (hr1 : r.length = 1) (hr2 : (r.length : Int) = 1) :
    ev E1 4 [.lst 1 (cd x0)] [] = some (bl true, []) := by
  rw [g4]
  unfold runF
  unfold r3 at hsl p1 p2
  rcases hpp with rfl | ⟨rfl, hpp⟩
  · simp -implicitDefEqProofs [L4, hb, d1, d2, d3, d4, p1, p2, hsl, A1, A2, D1, D2, B1, B2, V1, V2, F1, F2, qv, k1, k2, qa, n1, n2, t3, t4, i64s_len, hr1, hr2]
  · simp -implicitDefEqProofs [L4, hb, d1, d2, d3, d4, p1, p2, hsl, A1, A2, D1, D2, B1, B2, V1, V2, F1, F2, qv, k1, k2, qa, n1, n2, t3, t4, i64s_len, hr1, hr2, hpp]
theorem askLaw_tf_true (x0 : List Int) (hb : ev E1 5 [.lst 1 (cd x0)] [] = some (bl false, [])) (ms us vs ws : List ByteArray) (l r vn ra : List Int) (q k y z d bb av : Int) (f okp seven : Bool) (a b c : List Nat)
    (d1 : ev E1 18 [.lst 1 (cd x0)] [] = some (.tup [.agg [.lst 1 (ms.map st)], .lst 1 (i64s l), i64 q], []))
    (d2 : ev E1 21 [.lst 1 (cd x0)] [] = some (.tup [.agg [.lst 1 (us.map st)], .lst 1 (i64s r)], []))
    (d3 : ev E1 32 [.lst 1 (cd x0)] [] = some (.tup [.agg [.lst 1 (vs.map st)], i64 k], []))
    (d4 : ev E1 35 [.lst 1 (cd x0)] [] = some (.tup [.agg [.lst 1 (ws.map st)], i64 y, i64 z], []))
    (p1 : ev E1 20 [.agg [.lst 1 (ms.map st)], .lst 1 (i64s l), i64 q] [] = some (.tup [r3 a b c, bl okp], []))
    (p2 : ev E1 19 [.agg [.lst 1 (ms.map st)], .lst 1 (i64s l), i64 q] [] = some (.tup [r3 a b c, bl okp], []))
    (hsl : packX 0 [0, 2, 4, 7, 10] (loopW (bd E1 (ev E1) loopW 0 [0, 4, 6, 7, 8, 10, 11] L4b0) ⟨[(0, .lst 1 (cd x0)), (4, .lst 1 (i64s l)), (6, .ptr 0 0 0), (7, bl okp), (8, .ptr 1 0 0), (10, i64 0), (11, i64 0)], [some ⟨44, 3, 0, false, [r3 a b c]⟩, some ⟨44, 3, 0, false, [r3 a b c]⟩]⟩) = some (.ext 0, ⟨[(0, .lst 1 (cd x0)), (4, .lst 1 (i64s l)), (7, bl okp), (10, i64 ((a.length : Int) + (b.length : Int) + (c.length : Int)))], []⟩))
    (hpp : okp = false ∨ (okp = true ∧ (a.length : Int) + (b.length : Int) + (c.length : Int) = (l.length : Int)))
    (A1 : ev E1 25 [.agg [.lst 1 (us.map st)], .lst 1 (i64s r)] [] = some (.tup [bl true, bl true], []))
    (A2 : ev E1 24 [.agg [.lst 1 (us.map st)], .lst 1 (i64s r)] [] = some (.tup [bl true, bl true], []))
    (D1 : ev E1 23 [.agg [.lst 1 (us.map st)], .lst 1 (i64s r)] [] = some (.tup [i64 d, bl true], []))
    (D2 : ev E1 22 [.agg [.lst 1 (us.map st)], .lst 1 (i64s r)] [] = some (.tup [i64 d, bl true], []))
    (B1 : ev E1 27 [.agg [.lst 1 (us.map st)], .lst 1 (i64s r)] [] = some (.tup [i64 bb, bl false], []))
    (B2 : ev E1 26 [.agg [.lst 1 (us.map st)], .lst 1 (i64s r)] [] = some (.tup [i64 bb, bl false], []))
    (V1 : ev E1 29 [.agg [.lst 1 (us.map st)], .lst 1 (i64s r)] [] = some (.tup [.lst 1 (i64s vn), bl true], []))
    (V2 : ev E1 28 [.agg [.lst 1 (us.map st)], .lst 1 (i64s r)] [] = some (.tup [.lst 1 (i64s vn), bl true], []))
    (F1 : ev E1 31 [.agg [.lst 1 (us.map st)], .lst 1 (i64s r)] [] = some (.tup [bl f, bl false], []))
    (F2 : ev E1 30 [.agg [.lst 1 (us.map st)], .lst 1 (i64s r)] [] = some (.tup [bl f, bl false], []))
    (qv : ev E1 12 [.lst 1 (i64s vn), .lst 1 (i64s vn)] [] = some (bl true, []))
    (k1 : ev E1 34 [.agg [.lst 1 (vs.map st)], i64 k] [] = some (.tup [.lst 1 (i64s ra), bl true], []))
    (k2 : ev E1 33 [.agg [.lst 1 (vs.map st)], i64 k] [] = some (.tup [.lst 1 (i64s ra), bl true], []))
    (qa : ev E1 12 [.lst 1 (i64s ra), .lst 1 (i64s ra)] [] = some (bl true, []))
    (n1 : ev E1 37 [.agg [.lst 1 (ws.map st)], i64 y, i64 z] [] = some (.tup [i64 av, bl seven], []))
    (n2 : ev E1 36 [.agg [.lst 1 (ws.map st)], i64 y, i64 z] [] = some (.tup [i64 av, bl seven], []))
    (t3 : ¬ av < 0) (t4 : ¬ 2 < av)
    (hlast : packX 0 [53] (loopW (bd E1 (ev E1) loopW 0 [34, 35, 36, 53, 54] L4b3) ⟨[(34, .ptr 0 0 0), (35, i64 k), (36, .lst 1 (i64s ra)), (53, i64 0), (54, i64 0)], [some ⟨26, 1, 0, false, [.agg [.lst 1 (vs.map st)]]⟩]⟩) = some (.ext 4, ⟨[(53, i64 1)], []⟩))
    (hr1 : r.length = 1) (hr2 : (r.length : Int) = 1) :
    ev E1 4 [.lst 1 (cd x0)] [] = some (bl true, []) := by
  rw [g4]
  unfold runF
  unfold r3 at hsl p1 p2
  rcases hpp with rfl | ⟨rfl, hpp⟩
  · simp -implicitDefEqProofs [L4, hb, d1, d2, d3, d4, p1, p2, hsl, A1, A2, D1, D2, B1, B2, V1, V2, F1, F2, qv, k1, k2, qa, n1, n2, t3, t4, i64s_len, hlast, hr1, hr2]
  · simp -implicitDefEqProofs [L4, hb, d1, d2, d3, d4, p1, p2, hsl, A1, A2, D1, D2, B1, B2, V1, V2, F1, F2, qv, k1, k2, qa, n1, n2, t3, t4, i64s_len, hlast, hr1, hr2, hpp]
theorem askLaw_tt_false (x0 : List Int) (hb : ev E1 5 [.lst 1 (cd x0)] [] = some (bl false, [])) (ms us vs ws : List ByteArray) (l r vn ra : List Int) (q k y z d bb av : Int) (f okp seven : Bool) (a b c : List Nat)
    (d1 : ev E1 18 [.lst 1 (cd x0)] [] = some (.tup [.agg [.lst 1 (ms.map st)], .lst 1 (i64s l), i64 q], []))
    (d2 : ev E1 21 [.lst 1 (cd x0)] [] = some (.tup [.agg [.lst 1 (us.map st)], .lst 1 (i64s r)], []))
    (d3 : ev E1 32 [.lst 1 (cd x0)] [] = some (.tup [.agg [.lst 1 (vs.map st)], i64 k], []))
    (d4 : ev E1 35 [.lst 1 (cd x0)] [] = some (.tup [.agg [.lst 1 (ws.map st)], i64 y, i64 z], []))
    (p1 : ev E1 20 [.agg [.lst 1 (ms.map st)], .lst 1 (i64s l), i64 q] [] = some (.tup [r3 a b c, bl okp], []))
    (p2 : ev E1 19 [.agg [.lst 1 (ms.map st)], .lst 1 (i64s l), i64 q] [] = some (.tup [r3 a b c, bl okp], []))
    (hsl : packX 0 [0, 2, 4, 7, 10] (loopW (bd E1 (ev E1) loopW 0 [0, 4, 6, 7, 8, 10, 11] L4b0) ⟨[(0, .lst 1 (cd x0)), (4, .lst 1 (i64s l)), (6, .ptr 0 0 0), (7, bl okp), (8, .ptr 1 0 0), (10, i64 0), (11, i64 0)], [some ⟨44, 3, 0, false, [r3 a b c]⟩, some ⟨44, 3, 0, false, [r3 a b c]⟩]⟩) = some (.ext 0, ⟨[(0, .lst 1 (cd x0)), (4, .lst 1 (i64s l)), (7, bl okp), (10, i64 ((a.length : Int) + (b.length : Int) + (c.length : Int)))], []⟩))
    (hpp : okp = false ∨ (okp = true ∧ (a.length : Int) + (b.length : Int) + (c.length : Int) = (l.length : Int)))
    (A1 : ev E1 25 [.agg [.lst 1 (us.map st)], .lst 1 (i64s r)] [] = some (.tup [bl true, bl true], []))
    (A2 : ev E1 24 [.agg [.lst 1 (us.map st)], .lst 1 (i64s r)] [] = some (.tup [bl true, bl true], []))
    (D1 : ev E1 23 [.agg [.lst 1 (us.map st)], .lst 1 (i64s r)] [] = some (.tup [i64 d, bl true], []))
    (D2 : ev E1 22 [.agg [.lst 1 (us.map st)], .lst 1 (i64s r)] [] = some (.tup [i64 d, bl true], []))
    (B1 : ev E1 27 [.agg [.lst 1 (us.map st)], .lst 1 (i64s r)] [] = some (.tup [i64 bb, bl true], []))
    (B2 : ev E1 26 [.agg [.lst 1 (us.map st)], .lst 1 (i64s r)] [] = some (.tup [i64 bb, bl true], []))
    (V1 : ev E1 29 [.agg [.lst 1 (us.map st)], .lst 1 (i64s r)] [] = some (.tup [.lst 1 (i64s vn), bl true], []))
    (V2 : ev E1 28 [.agg [.lst 1 (us.map st)], .lst 1 (i64s r)] [] = some (.tup [.lst 1 (i64s vn), bl true], []))
    (F1 : ev E1 31 [.agg [.lst 1 (us.map st)], .lst 1 (i64s r)] [] = some (.tup [bl f, bl true], []))
    (F2 : ev E1 30 [.agg [.lst 1 (us.map st)], .lst 1 (i64s r)] [] = some (.tup [bl f, bl true], []))
    (qv : ev E1 12 [.lst 1 (i64s vn), .lst 1 (i64s vn)] [] = some (bl true, []))
    (k1 : ev E1 34 [.agg [.lst 1 (vs.map st)], i64 k] [] = some (.tup [.lst 1 (i64s ra), bl false], []))
    (k2 : ev E1 33 [.agg [.lst 1 (vs.map st)], i64 k] [] = some (.tup [.lst 1 (i64s ra), bl false], []))
    (qa : ev E1 12 [.lst 1 (i64s ra), .lst 1 (i64s ra)] [] = some (bl true, []))
    (n1 : ev E1 37 [.agg [.lst 1 (ws.map st)], i64 y, i64 z] [] = some (.tup [i64 av, bl seven], []))
    (n2 : ev E1 36 [.agg [.lst 1 (ws.map st)], i64 y, i64 z] [] = some (.tup [i64 av, bl seven], []))
    (t3 : ¬ av < 0) (t4 : ¬ 2 < av)
    (hr1 : ¬ r.length = 1) (hr2 : ¬ (r.length : Int) = 1) (hr3 : 1 < r.length) (hr4 : (1 : Int) < (r.length : Int)) (hf : d = 1 → f = true) (x1 x2 x3 : List Nat) (worst : Int)
    (hv : ev E1 38 [.lst 1 (i64s vn), i64 bb] [] = some (bl false, []))
    (hd1 : ¬ d < 1) (hd2 : ¬ IntKind.i64.wrap ((r.length : Int) - 1) < d) (hw1 : IntKind.i64.wrap (worst + 1) = d)
    (hp : ev E1 19 [.agg [.lst 1 (us.map st)], .lst 1 (i64s r), i64 bb] [] = some (.tup [r3 x1 x2 x3, bl true], []))
    (hlw : ∀ six : Bool, packX 0 [2, 14, 34, 35, 36, 37, 48, 49] (loopW (bd E1 (ev E1) loopW 0 [12, 14, 34, 35, 36, 37, 47, 48, 49, 50] L4b1) ⟨[(12, .ptr 0 0 0), (14, i64 d), (34, .ptr 1 0 0), (35, i64 k), (36, .lst 1 (i64s ra)), (37, bl six), (47, .ptr 2 0 0), (48, bl true), (49, i64 0), (50, i64 0)], [some ⟨26, 1, 0, false, [.agg [.lst 1 (us.map st)]]⟩, some ⟨26, 1, 0, false, [.agg [.lst 1 (vs.map st)]]⟩, some ⟨44, 3, 0, false, [r3 x1 x2 x3]⟩]⟩) = some (.ext 2, ⟨[(14, i64 d), (34, .ptr 0 0 0), (35, i64 k), (36, .lst 1 (i64s ra)), (37, bl six), (48, bl true), (49, i64 worst)], [some ⟨26, 1, 0, false, [.agg [.lst 1 (vs.map st)]]⟩]⟩)) :
    ev E1 4 [.lst 1 (cd x0)] [] = some (bl true, []) := by
  rw [g4]
  unfold runF
  unfold r3 at hsl p1 p2 hp hlw
  by_cases hdd : d = 1
  · have hff := hf hdd
    subst hff
    subst hdd
    rcases hpp with rfl | ⟨rfl, hpp⟩
    · simp -implicitDefEqProofs [L4, hb, d1, d2, d3, d4, p1, p2, hsl, A1, A2, D1, D2, B1, B2, V1, V2, F1, F2, qv, k1, k2, qa, n1, n2, t3, t4, i64s_len, hr1, hr2, hr3, hr4, hv, hd1, hd2, hw1, hp, hlw]
    · simp -implicitDefEqProofs [L4, hb, d1, d2, d3, d4, p1, p2, hsl, A1, A2, D1, D2, B1, B2, V1, V2, F1, F2, qv, k1, k2, qa, n1, n2, t3, t4, i64s_len, hr1, hr2, hr3, hr4, hv, hd1, hd2, hw1, hp, hlw, hpp]
  · rcases hpp with rfl | ⟨rfl, hpp⟩
    · simp -implicitDefEqProofs [L4, hb, d1, d2, d3, d4, p1, p2, hsl, A1, A2, D1, D2, B1, B2, V1, V2, F1, F2, qv, k1, k2, qa, n1, n2, t3, t4, i64s_len, hr1, hr2, hr3, hr4, hv, hd1, hd2, hw1, hp, hlw, hdd]
    · simp -implicitDefEqProofs [L4, hb, d1, d2, d3, d4, p1, p2, hsl, A1, A2, D1, D2, B1, B2, V1, V2, F1, F2, qv, k1, k2, qa, n1, n2, t3, t4, i64s_len, hr1, hr2, hr3, hr4, hv, hd1, hd2, hw1, hp, hlw, hdd, hpp]
theorem askLaw_tt_true (x0 : List Int) (hb : ev E1 5 [.lst 1 (cd x0)] [] = some (bl false, [])) (ms us vs ws : List ByteArray) (l r vn ra : List Int) (q k y z d bb av : Int) (f okp seven : Bool) (a b c : List Nat)
    (d1 : ev E1 18 [.lst 1 (cd x0)] [] = some (.tup [.agg [.lst 1 (ms.map st)], .lst 1 (i64s l), i64 q], []))
    (d2 : ev E1 21 [.lst 1 (cd x0)] [] = some (.tup [.agg [.lst 1 (us.map st)], .lst 1 (i64s r)], []))
    (d3 : ev E1 32 [.lst 1 (cd x0)] [] = some (.tup [.agg [.lst 1 (vs.map st)], i64 k], []))
    (d4 : ev E1 35 [.lst 1 (cd x0)] [] = some (.tup [.agg [.lst 1 (ws.map st)], i64 y, i64 z], []))
    (p1 : ev E1 20 [.agg [.lst 1 (ms.map st)], .lst 1 (i64s l), i64 q] [] = some (.tup [r3 a b c, bl okp], []))
    (p2 : ev E1 19 [.agg [.lst 1 (ms.map st)], .lst 1 (i64s l), i64 q] [] = some (.tup [r3 a b c, bl okp], []))
    (hsl : packX 0 [0, 2, 4, 7, 10] (loopW (bd E1 (ev E1) loopW 0 [0, 4, 6, 7, 8, 10, 11] L4b0) ⟨[(0, .lst 1 (cd x0)), (4, .lst 1 (i64s l)), (6, .ptr 0 0 0), (7, bl okp), (8, .ptr 1 0 0), (10, i64 0), (11, i64 0)], [some ⟨44, 3, 0, false, [r3 a b c]⟩, some ⟨44, 3, 0, false, [r3 a b c]⟩]⟩) = some (.ext 0, ⟨[(0, .lst 1 (cd x0)), (4, .lst 1 (i64s l)), (7, bl okp), (10, i64 ((a.length : Int) + (b.length : Int) + (c.length : Int)))], []⟩))
    (hpp : okp = false ∨ (okp = true ∧ (a.length : Int) + (b.length : Int) + (c.length : Int) = (l.length : Int)))
    (A1 : ev E1 25 [.agg [.lst 1 (us.map st)], .lst 1 (i64s r)] [] = some (.tup [bl true, bl true], []))
    (A2 : ev E1 24 [.agg [.lst 1 (us.map st)], .lst 1 (i64s r)] [] = some (.tup [bl true, bl true], []))
    (D1 : ev E1 23 [.agg [.lst 1 (us.map st)], .lst 1 (i64s r)] [] = some (.tup [i64 d, bl true], []))
    (D2 : ev E1 22 [.agg [.lst 1 (us.map st)], .lst 1 (i64s r)] [] = some (.tup [i64 d, bl true], []))
    (B1 : ev E1 27 [.agg [.lst 1 (us.map st)], .lst 1 (i64s r)] [] = some (.tup [i64 bb, bl true], []))
    (B2 : ev E1 26 [.agg [.lst 1 (us.map st)], .lst 1 (i64s r)] [] = some (.tup [i64 bb, bl true], []))
    (V1 : ev E1 29 [.agg [.lst 1 (us.map st)], .lst 1 (i64s r)] [] = some (.tup [.lst 1 (i64s vn), bl true], []))
    (V2 : ev E1 28 [.agg [.lst 1 (us.map st)], .lst 1 (i64s r)] [] = some (.tup [.lst 1 (i64s vn), bl true], []))
    (F1 : ev E1 31 [.agg [.lst 1 (us.map st)], .lst 1 (i64s r)] [] = some (.tup [bl f, bl true], []))
    (F2 : ev E1 30 [.agg [.lst 1 (us.map st)], .lst 1 (i64s r)] [] = some (.tup [bl f, bl true], []))
    (qv : ev E1 12 [.lst 1 (i64s vn), .lst 1 (i64s vn)] [] = some (bl true, []))
    (k1 : ev E1 34 [.agg [.lst 1 (vs.map st)], i64 k] [] = some (.tup [.lst 1 (i64s ra), bl true], []))
    (k2 : ev E1 33 [.agg [.lst 1 (vs.map st)], i64 k] [] = some (.tup [.lst 1 (i64s ra), bl true], []))
    (qa : ev E1 12 [.lst 1 (i64s ra), .lst 1 (i64s ra)] [] = some (bl true, []))
    (n1 : ev E1 37 [.agg [.lst 1 (ws.map st)], i64 y, i64 z] [] = some (.tup [i64 av, bl seven], []))
    (n2 : ev E1 36 [.agg [.lst 1 (ws.map st)], i64 y, i64 z] [] = some (.tup [i64 av, bl seven], []))
    (t3 : ¬ av < 0) (t4 : ¬ 2 < av)
    (hlast : packX 0 [53] (loopW (bd E1 (ev E1) loopW 0 [34, 35, 36, 53, 54] L4b3) ⟨[(34, .ptr 0 0 0), (35, i64 k), (36, .lst 1 (i64s ra)), (53, i64 0), (54, i64 0)], [some ⟨26, 1, 0, false, [.agg [.lst 1 (vs.map st)]]⟩]⟩) = some (.ext 4, ⟨[(53, i64 1)], []⟩))
    (hr1 : ¬ r.length = 1) (hr2 : ¬ (r.length : Int) = 1) (hr3 : 1 < r.length) (hr4 : (1 : Int) < (r.length : Int)) (hf : d = 1 → f = true) (x1 x2 x3 : List Nat) (worst : Int)
    (hv : ev E1 38 [.lst 1 (i64s vn), i64 bb] [] = some (bl false, []))
    (hd1 : ¬ d < 1) (hd2 : ¬ IntKind.i64.wrap ((r.length : Int) - 1) < d) (hw1 : IntKind.i64.wrap (worst + 1) = d)
    (hp : ev E1 19 [.agg [.lst 1 (us.map st)], .lst 1 (i64s r), i64 bb] [] = some (.tup [r3 x1 x2 x3, bl true], []))
    (hlw : ∀ six : Bool, packX 0 [2, 14, 34, 35, 36, 37, 48, 49] (loopW (bd E1 (ev E1) loopW 0 [12, 14, 34, 35, 36, 37, 47, 48, 49, 50] L4b1) ⟨[(12, .ptr 0 0 0), (14, i64 d), (34, .ptr 1 0 0), (35, i64 k), (36, .lst 1 (i64s ra)), (37, bl six), (47, .ptr 2 0 0), (48, bl true), (49, i64 0), (50, i64 0)], [some ⟨26, 1, 0, false, [.agg [.lst 1 (us.map st)]]⟩, some ⟨26, 1, 0, false, [.agg [.lst 1 (vs.map st)]]⟩, some ⟨44, 3, 0, false, [r3 x1 x2 x3]⟩]⟩) = some (.ext 2, ⟨[(14, i64 d), (34, .ptr 0 0 0), (35, i64 k), (36, .lst 1 (i64s ra)), (37, bl six), (48, bl true), (49, i64 worst)], [some ⟨26, 1, 0, false, [.agg [.lst 1 (vs.map st)]]⟩]⟩)) :
    ev E1 4 [.lst 1 (cd x0)] [] = some (bl true, []) := by
  rw [g4]
  unfold runF
  unfold r3 at hsl p1 p2 hp hlw
  by_cases hdd : d = 1
  · have hff := hf hdd
    subst hff
    subst hdd
    rcases hpp with rfl | ⟨rfl, hpp⟩
    · simp -implicitDefEqProofs [L4, hb, d1, d2, d3, d4, p1, p2, hsl, A1, A2, D1, D2, B1, B2, V1, V2, F1, F2, qv, k1, k2, qa, n1, n2, t3, t4, i64s_len, hlast, hr1, hr2, hr3, hr4, hv, hd1, hd2, hw1, hp, hlw]
    · simp -implicitDefEqProofs [L4, hb, d1, d2, d3, d4, p1, p2, hsl, A1, A2, D1, D2, B1, B2, V1, V2, F1, F2, qv, k1, k2, qa, n1, n2, t3, t4, i64s_len, hlast, hr1, hr2, hr3, hr4, hv, hd1, hd2, hw1, hp, hlw, hpp]
  · rcases hpp with rfl | ⟨rfl, hpp⟩
    · simp -implicitDefEqProofs [L4, hb, d1, d2, d3, d4, p1, p2, hsl, A1, A2, D1, D2, B1, B2, V1, V2, F1, F2, qv, k1, k2, qa, n1, n2, t3, t4, i64s_len, hlast, hr1, hr2, hr3, hr4, hv, hd1, hd2, hw1, hp, hlw, hdd]
    · simp -implicitDefEqProofs [L4, hb, d1, d2, d3, d4, p1, p2, hsl, A1, A2, D1, D2, B1, B2, V1, V2, F1, F2, qv, k1, k2, qa, n1, n2, t3, t4, i64s_len, hlast, hr1, hr2, hr3, hr4, hv, hd1, hd2, hw1, hp, hlw, hdd, hpp]
theorem FnAskedLetters (x0 : List Int) (b0 : x0.length ≤ maxLen ∧ ∀ y ∈ x0, (Lit.int .u8 y).wf = true) : ev E1 4 [(AV.lst 1 (x0.map (fun q : Int => (AV.v (.int .u8 q)))))] [] = some (bl true, []) := by
  obtain ⟨hl, hw⟩ := b0
  show ev E1 4 [.lst 1 (cd x0)] [] = _
  have hb := twa_big x0
  by_cases h0 : (65536 : Int) < (x0.length : Int)
  · rw [decide_eq_true h0] at hb
    rw [g4]
    unfold runF
    simp -implicitDefEqProofs [L4, hb]
  rw [decide_eq_false h0] at hb
  have hx := okC_law (by omega) hw
  obtain ⟨ms, l, q, m1, m2, m3, d1⟩ := twa_partD x0 hx
  obtain ⟨us, r, u1, u2, u3, d2⟩ := twa_depthD x0 hx
  obtain ⟨vs, k, v1, v2, d3⟩ := twa_askedD x0 hx
  obtain ⟨ws, y, z, w1, w2, d4⟩ := twa_answerD x0 hx
  -- parts
  obtain ⟨a, b, c, okp, hs, p1, p2, la, lb, lc⟩ : ∃ (a b c : List Nat) (okp : Bool), (okp = true → a.length + b.length + c.length = l.length) ∧ ev E1 20 [.agg [.lst 1 (ms.map st)], .lst 1 (i64s l), i64 q] [] = some (.tup [r3 a b c, bl okp], []) ∧ ev E1 19 [.agg [.lst 1 (ms.map st)], .lst 1 (i64s l), i64 q] [] = some (.tup [r3 a b c, bl okp], []) ∧ a.length ≤ 60 ∧ b.length ≤ 60 ∧ c.length ≤ 60 := by
    cases h : (okTable ms && okLetters ms l) && okPlace q with
    | false =>
      obtain ⟨e1, e2⟩ := two_part_no ms l q m1 m2 m3 h
      exact ⟨[], [], [], false, fun h => (by cases h), e1, e2, by simp, by simp, by simp⟩
    | true =>
      simp only [Bool.and_eq_true] at h
      obtain ⟨ln, e, _, hv, hln, _, _⟩ := okLetters_apart h.1.1 h.1.2
      have hq := h.2
      unfold okPlace at hq
      simp only [Bool.and_eq_true, decide_eq_true_eq] at hq
      obtain ⟨n, rfl⟩ : ∃ n : Nat, q = n := ⟨q.toNat, by omega⟩
      obtain ⟨e1, e2⟩ := two_part_yes ms l n ln m1 m2 m3 h.1.1 h.1.2 (by omega) e hv
      have hsum := part_sum ms n ln
      exact ⟨_, _, _, true, fun _ => by omega, e1, e2, by omega, by omega, by omega⟩
  have hsl := sum_loop x0 l okp a b c (by omega) (by omega) (by omega)
  unfold cQ at hsl
  -- the game
  obtain ⟨d, bb, f, vn, are, two, one, three, gv, g2, g3, g1, g4, hA, hD, hB, hV, hF, hone⟩ := two_game us r u1 u2 u3
  have A1 := hA _ (.inl rfl)
  have A2 := hA _ (.inr rfl)
  have D1 := hD _ (.inl rfl)
  have D2 := hD _ (.inr rfl)
  have B1 := hB _ (.inl rfl)
  have B2 := hB _ (.inr rfl)
  have V1 := hV _ (.inl rfl)
  have V2 := hV _ (.inr rfl)
  have F1 := hF _ (.inl rfl)
  have F2 := hF _ (.inr rfl)
  have qv := twa_ints vn (by omega)
  -- what is asked
  obtain ⟨ra, six, s1, k1, k2, hsix⟩ := twa_asked vs k v1 v2
  have qa := twa_ints ra (by omega)
  obtain ⟨av, seven, t1, t2, n1, n2⟩ := twa_answer ws y z w1 w2
  have t3 : ¬ av < 0 := by omega
  have t4 : ¬ 2 < av := by omega
  -- the last loop
  have hlast : six = false ∨ (six = true ∧ packX 0 [53] (loopW (bd E1 (ev E1) loopW 0 [34, 35, 36, 53, 54] L4b3) ⟨[(34, .ptr 0 0 0), (35, i64 k), (36, .lst 1 (i64s ra)), (53, i64 0), (54, i64 0)], [some (cA vs)]⟩) = some (.ext 4, ⟨[(53, i64 1)], []⟩)) := by
    cases six with
    | false => exact .inl rfl
    | true =>
      refine .inr ⟨rfl, ?_⟩
      obtain ⟨i, rfl, hi, hT, rfl⟩ := hsix rfl
      have hap := all_apart hT
      have hpl : ∀ c ∈ askN vs i vs.length (allL vs.length 0), ∃ p : Nat, c = p ∧ p < 5 := askN_places vs.length _ hap
      have hct := count_loop vs v1 v2 hT i hi (askN vs i vs.length (allL vs.length 0)) hpl (by omega) vs.length 0 0 (by omega) (by omega)
      have htl : (allL vs.length 0).filter (sameA vs i (askN vs i vs.length (allL vs.length 0))) = [i] := ask_tells vs.length (allL vs.length 0) (by rw [allL_len]; omega) ((allL_mem _ _ _).2 ⟨by omega, by omega⟩) hap
      rw [htl] at hct
      exact hct
  have hpp : okp = false ∨ (okp = true ∧ (a.length : Int) + (b.length : Int) + (c.length : Int) = (l.length : Int)) := by
    cases okp with
    | false => exact .inl rfl
    | true => exact .inr ⟨rfl, by have := hs rfl; omega⟩
  rw [show ((a.length + b.length + c.length : Nat) : Int) = (a.length : Int) + (b.length : Int) + (c.length : Int) by omega] at hsl
  have hsl2 : okp = false ∨ okp = true := by cases okp <;> simp
  -- the three ways of the game
  have hgame : (three = false) ∨ (three = true ∧ one = true ∧ two = true) := by
    cases three with
    | false => exact .inl rfl
    | true =>
      have h1 : one = true := by
        cases one with
        | true => rfl
        | false => rw [Bool.false_and] at g4; cases g4
      refine .inr ⟨rfl, h1, ?_⟩
      rw [g2]
      rw [h1] at g1
      have := g1.symm
      rw [Bool.and_eq_true] at this
      exact this.1
  have hlen : one = true → three = decide (r.length ≠ 1) := fun h => by rw [g4, h, Bool.true_and]
  unfold cA at hlast
  rcases hgame with rfl | ⟨rfl, rfl, rfl⟩
  · have hone' : (one = false ∧ two = false) ∨ (one = false ∧ two = true) ∨ (one = true ∧ two = true ∧ r.length = 1) := by
      cases one with
      | false => cases two <;> simp
      | true =>
        refine .inr (.inr ⟨rfl, ?_, by have := hlen rfl; simpa using this.symm⟩)
        rw [g2]
        have := g1.symm
        rw [Bool.and_eq_true] at this
        exact this.1
    subst g3
    rcases hone' with ⟨rfl, rfl⟩ | ⟨rfl, rfl⟩ | ⟨rfl, rfl, hr1⟩
    · rcases hlast with rfl | ⟨rfl, hlast⟩
      · exact askLaw_ff_false x0 hb ms us vs ws l r vn ra q k y z d bb av f okp seven a b c d1 d2 d3 d4 p1 p2 hsl hpp A1 A2 D1 D2 B1 B2 V1 V2 F1 F2 qv k1 k2 qa n1 n2 t3 t4
      · exact askLaw_ff_true x0 hb ms us vs ws l r vn ra q k y z d bb av f okp seven a b c d1 d2 d3 d4 p1 p2 hsl hpp A1 A2 D1 D2 B1 B2 V1 V2 F1 F2 qv k1 k2 qa n1 n2 t3 t4 hlast
    · rcases hlast with rfl | ⟨rfl, hlast⟩
      · exact askLaw_ft_false x0 hb ms us vs ws l r vn ra q k y z d bb av f okp seven a b c d1 d2 d3 d4 p1 p2 hsl hpp A1 A2 D1 D2 B1 B2 V1 V2 F1 F2 qv k1 k2 qa n1 n2 t3 t4
      · exact askLaw_ft_true x0 hb ms us vs ws l r vn ra q k y z d bb av f okp seven a b c d1 d2 d3 d4 p1 p2 hsl hpp A1 A2 D1 D2 B1 B2 V1 V2 F1 F2 qv k1 k2 qa n1 n2 t3 t4 hlast
    · rcases hlast with rfl | ⟨rfl, hlast⟩
      · exact askLaw_tf_false x0 hb ms us vs ws l r vn ra q k y z d bb av f okp seven a b c d1 d2 d3 d4 p1 p2 hsl hpp A1 A2 D1 D2 B1 B2 V1 V2 F1 F2 qv k1 k2 qa n1 n2 t3 t4 hr1 (by omega)
      · exact askLaw_tf_true x0 hb ms us vs ws l r vn ra q k y z d bb av f okp seven a b c d1 d2 d3 d4 p1 p2 hsl hpp A1 A2 D1 D2 B1 B2 V1 V2 F1 F2 qv k1 k2 qa n1 n2 t3 t4 hlast hr1 (by omega)
  · subst g3
    have hr1 : ¬ r.length = 1 := by
      have := hlen rfl
      intro e
      rw [e] at this
      simp at this
    obtain ⟨ln, e, hne, hv, hln, hap, hd, hthree⟩ := hone rfl
    obtain ⟨hbb, hf, hvn⟩ := hthree rfl
    have hT : okTable us = true := g2.symm
    have hL : okLetters us r = true := by
      rw [hT, Bool.true_and] at g1
      exact g1.symm
    have h2 : 2 ≤ ln.length := by
      have : ln.length ≠ 0 := fun e => hne (List.eq_nil_of_length_eq_zero e)
      omega
    obtain ⟨p, hp5, hpv, hpb, hpd⟩ := dep_parts (by omega) hv hap h2
    have hdl := dep_lt ln.length ln (Nat.le_refl _) (by omega) hne hv hap
    rw [hpb] at hbb
    subst hbb
    have hpn : (p : Int) ∉ vn := by
      intro hc
      rw [hvn] at hc
      obtain ⟨j, hj, hj2⟩ := vainP_mem us ln 5 0 _ hc
      have : p = j := by omega
      rw [← this, hpv] at hj2
      cases hj2
    have hv2 := twa_hasnot vn p (by omega) hpn
    obtain ⟨_, hp2⟩ := two_part_yes us r p ln u1 u2 u3 hT hL hp5 e hv
    have hsum := part_sum us p ln
    have hgl : ∀ n, gp us (partN us p n ln) ≤ 1000 := fun n => gp_le (by
      have := List.length_filter_le (fun x => ansN us p x == n) ln
      unfold partN
      omega) (fun x hx => hv x (part_nodup x hx)) (hap.part p n)
    have hwl := fun six : Bool => worst_loop us vs d k ra six (partN us p 0 ln) (partN us p 1 ln) (partN us p 2 ln) (hgl 0) (hgl 1) (hgl 2) (part_deep us u1 u2 hT r u3 hL ln e hv hap p 0) (part_deep us u1 u2 hT r u3 hL ln e hv hap p 1) (part_deep us u1 u2 hT r u3 hL ln e hv hap p 2)
    unfold cA cQ at hwl
    have m0 := hgl 0
    have m1' := hgl 1
    have m2' := hgl 2
    rw [hpd] at hdl
    rw [hpd] at hd
    have hf1 : d = 1 → f = true := by
      intro hd1
      rw [hf]
      exact fir_one (by omega) hv hap h2 (by omega)
    generalize max (max (gp us (partN us p 0 ln)) (gp us (partN us p 1 ln))) (gp us (partN us p 2 ln)) = wm at *
    have hww : IntKind.i64.wrap ((r.length : Int) - 1) = (r.length : Int) - 1 := wr64 (by omega) (by omega)
    have hw1 : IntKind.i64.wrap ((wm : Int) + 1) = d := by rw [wr64 (by omega) (by omega)]; omega
    have hd2 : ¬ IntKind.i64.wrap ((r.length : Int) - 1) < d := by rw [hww]; omega
    rcases hlast with rfl | ⟨rfl, hlast⟩
    · exact askLaw_tt_false x0 hb ms us vs ws l r vn ra q k y z d p av f okp seven a b c d1 d2 d3 d4 p1 p2 hsl hpp A1 A2 D1 D2 B1 B2 V1 V2 F1 F2 qv k1 k2 qa n1 n2 t3 t4 hr1 (by omega) (by omega) (by omega) hf1 _ _ _ wm hv2 (by omega) hd2 hw1 hp2 hwl
    · exact askLaw_tt_true x0 hb ms us vs ws l r vn ra q k y z d p av f okp seven a b c d1 d2 d3 d4 p1 p2 hsl hpp A1 A2 D1 D2 B1 B2 V1 V2 F1 F2 qv k1 k2 qa n1 n2 t3 t4 hlast hr1 (by omega) (by omega) (by omega) hf1 _ _ _ wm hv2 (by omega) hd2 hw1 hp2 hwl
end Go.Proofs.YtkajcafnfdlgpaaDoor.Ev
