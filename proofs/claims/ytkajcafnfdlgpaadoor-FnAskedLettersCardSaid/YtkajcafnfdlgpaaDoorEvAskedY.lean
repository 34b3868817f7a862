/- What the laws' calls on parts, depths and answers give, told by itself. -/
import Derived.Test.YtkajcafnfdlgpaaDoorEvE1
import Derived.Test.YtkajcafnfdlgpaaDoorEvAskedX
import Derived.Test.YtkajcafnfdlgpaaDoorEvDrawV
import Derived.Test.YtkajcafnfdlgpaaDoorEvLawR
set_option linter.unusedVariables false
set_option linter.unusedSimpArgs false
namespace Go.Proofs.YtkajcafnfdlgpaaDoor.Ev
open Dr
theorem answerTo (ms : List ByteArray) (hm : ms.length ≤ 8796093022208) (hs : ∀ x ∈ ms, x.size ≤ 140737488355328) (k q : Int) :
    ((okTable ms && okLetter ms k && okPlace q) = false → ev E0 37 [.agg [.lst 1 (ms.map st)], i64 k, i64 q] [] = some (.tup [i64 0, bl false], []) ∧ ev E0 36 [.agg [.lst 1 (ms.map st)], i64 k, i64 q] [] = some (.tup [i64 0, bl false], [])) ∧
    (∀ i p : Nat, k = i → q = p → okTable ms = true → i < ms.length → p < 5 → ev E0 37 [.agg [.lst 1 (ms.map st)], i64 k, i64 q] [] = some (.tup [i64 (ansN ms p i), bl true], []) ∧ ev E0 36 [.agg [.lst 1 (ms.map st)], i64 k, i64 q] [] = some (.tup [i64 (ansN ms p i), bl true], [])) := by
  rw [e37, e36]
  unfold runF
  have h1 := letter_s ms (by omega) hs k
  have h2 := table_i ms (by omega) hs
  have h3 := letter_i ms (by omega) k
  have t4 := place_i q
  have t5 := in_s q 0 4
  have hp : (decide (0 ≤ q) && decide (q ≤ 4)) = okPlace q := rfl
  rw [hp] at t4 t5
  constructor
  · intro h
    cases ha : okTable ms <;> cases hb : okLetter ms k <;> cases hc : okPlace q <;> rw [ha] at h1 h2 h <;> rw [hb] at h1 h3 h <;> rw [hc] at t4 t5 h <;> first
      | (cases h; done)
      | (refine ⟨?_, ?_⟩
         · simp -implicitDefEqProofs [L37, h1, t5]
         · simp -implicitDefEqProofs [L36, h2, h3, t4])
  · rintro i p rfl rfl hT hi hp5
    have hk : okLetter ms i = true := by
      unfold okLetter
      simp only [Bool.and_eq_true, decide_eq_true_eq]
      omega
    have hq : okPlace p = true := by
      unfold okPlace
      simp only [Bool.and_eq_true, decide_eq_true_eq]
      omega
    rw [hT, hk] at h1
    rw [hT] at h2
    rw [hk] at h3
    rw [hq] at t4 t5
    have a1 := answerN_s ms i hi p
    have a2 := answerN_i ms i hi p
    refine ⟨?_, ?_⟩
    · simp -implicitDefEqProofs [L37, h1, t5, a1]
    · simp -implicitDefEqProofs [L36, h2, h3, t4, a2]
theorem partBy_e (ms : List ByteArray) (hm : ms.length ≤ 8796093022208) (hs : ∀ x ∈ ms, x.size ≤ 140737488355328) (l : List Int) (hl : l.length ≤ 1073741824) (n : Nat) (ln : List Nat) (h1 : okTable ms = true) (h2 : okLetters ms l = true) (h3 : n < 5) (e : i64s l = i64n ln) (hv : ∀ x ∈ ln, x < ms.length) (hln : ln.length ≤ 1073741824) (a b c : List Nat) (ka : partN ms n 0 ln = a) (kb : partN ms n 1 ln = b) (kc : partN ms n 2 ln = c) :
    ev E0 20 [.agg [.lst 1 (ms.map st)], .lst 1 (i64s l), i64 n] [] = some (.tup [.agg [.sl 0 0 a.length, .sl 1 0 b.length, .sl 2 0 c.length], bl true], [some ⟨3, 1, 1, false, i64n a⟩, some ⟨3, 1, 1, false, i64n b⟩, some ⟨3, 1, 1, false, i64n c⟩]) ∧
    ev E0 19 [.agg [.lst 1 (ms.map st)], .lst 1 (i64s l), i64 n] [] = some (.tup [rows3 0 a b c, bl true], rb a ++ (rb b ++ rb c)) := by
  obtain ⟨b1, b2⟩ := okTable_len h1
  have t1 := table_s ms (by omega) hs
  have t2 := letters_s ms b1 b2 l (by omega)
  have t3 := asked_i ms (by omega) hs l (by omega)
  have t4 := place_i n
  have t5 := in_s n 0 4
  have hq : (decide (0 ≤ (n : Int)) && decide ((n : Int) ≤ 4)) = true := by simp only [Bool.and_eq_true, decide_eq_true_eq]; omega
  rw [hq] at t4 t5
  rw [h1] at t1
  rw [h2] at t2
  rw [h1, h2] at t3
  rw [e] at t2 t3 ⊢
  have p1 := part_s ms n ln (by omega) hv
  have p2 := part_i ms n ln (by omega) hv
  rw [ka, kb, kc] at p1 p2
  refine ⟨?_, ?_⟩
  · rw [e20]
    unfold runF
    simp -implicitDefEqProofs [L20, t1, t2, t5, p1]
  · rw [e19]
    unfold runF
    cases a <;> cases b <;> cases c <;> simp only [rows3, rv, rb, List.nil_append, List.cons_append, List.append_nil, List.length_nil, List.length_cons, Nat.zero_add, Nat.add_zero] at p2 <;> simp -implicitDefEqProofs [L19, t3, t4, p2, rows3, rv, rb, i64n_len]
def r3 (a b c : List Nat) : AV := .agg [.lst 1 (i64n a), .lst 1 (i64n b), .lst 1 (i64n c)]
theorem two_part_no (ms : List ByteArray) (l : List Int) (q : Int) (hl : ms.length ≤ 30) (hz : ∀ t ∈ ms, t.size ≤ 20) (hll : l.length ≤ 60) (h : ((okTable ms && okLetters ms l) && okPlace q) = false) : ev E1 20 [.agg [.lst 1 (ms.map st)], .lst 1 (i64s l), i64 q] [] = some (.tup [r3 [] [] [], bl false], []) ∧ ev E1 19 [.agg [.lst 1 (ms.map st)], .lst 1 (i64s l), i64 q] [] = some (.tup [r3 [] [] [], bl false], []) := by
  have hs : ∀ x ∈ ms, x.size ≤ 140737488355328 := fun x hx => by have := hz x hx; omega
  obtain ⟨h1, h2⟩ := partBy_no ms (by omega) hs l (by omega) q h
  rw [g20, g19]
  exact ⟨frz_to rfl h1 (by simp) (by simp [r3, i64n]), frz_to rfl h2 (by simp) (by simp [r3, i64n])⟩
theorem two_part_yes (ms : List ByteArray) (l : List Int) (n : Nat) (ln : List Nat) (hl : ms.length ≤ 30) (hz : ∀ t ∈ ms, t.size ≤ 20) (hll : l.length ≤ 60) (h1 : okTable ms = true) (h2 : okLetters ms l = true) (h3 : n < 5) (e : i64s l = i64n ln) (hv : ∀ x ∈ ln, x < ms.length) :
    ev E1 20 [.agg [.lst 1 (ms.map st)], .lst 1 (i64s l), i64 n] [] = some (.tup [r3 (partN ms n 0 ln) (partN ms n 1 ln) (partN ms n 2 ln), bl true], []) ∧ ev E1 19 [.agg [.lst 1 (ms.map st)], .lst 1 (i64s l), i64 n] [] = some (.tup [r3 (partN ms n 0 ln) (partN ms n 1 ln) (partN ms n 2 ln), bl true], []) := by
  have hs : ∀ x ∈ ms, x.size ≤ 140737488355328 := fun x hx => by have := hz x hx; omega
  have hln : ln.length = l.length := by
    have := congrArg List.length e
    rw [i64s_len, i64n_len] at this
    exact this.symm
  obtain ⟨k1, k2⟩ := partBy_e ms (by omega) hs l (by omega) n ln h1 h2 h3 e hv (by omega) _ _ _ rfl rfl rfl
  rw [g20, g19]
  generalize partN ms n 0 ln = a at *
  generalize partN ms n 1 ln = b at *
  generalize partN ms n 2 ln = c at *
  have htk : ∀ l : List Nat, List.take l.length (i64n l) = i64n l := fun l => List.take_of_length_le (by simp [i64n_len])
  refine ⟨frz_to rfl k1 (by simp) (by simp [r3, i64n_len, htk]), frz_to rfl k2 (by simp) ?_⟩
  cases a <;> cases b <;> cases c <;> simp [r3, rows3, rv, rb, i64n]
theorem vainPlaces_x (ms : List ByteArray) (hm : ms.length ≤ 8796093022208) (hs : ∀ x ∈ ms, x.size ≤ 140737488355328) (l : List Int) (hl : l.length ≤ 1073741824) (h1 : okTable ms = true) (h2 : okLetters ms l = true) (ln : List Nat) (e : i64s l = i64n ln) (hne : ln ≠ []) (hv : ∀ x ∈ ln, x < ms.length) (hln : ln.length ≤ 1073741824) :
    ev E0 29 [.agg [.lst 1 (ms.map st)], .lst 1 (i64s l)] [] = some (.tup [.sl 0 0 (vainP ms ln 5 0).length, bl true], [some ⟨3, 1, 1, false, i64s (vainP ms ln 5 0)⟩]) ∧
    ev E0 28 [.agg [.lst 1 (ms.map st)], .lst 1 (i64s l)] [] = some (.tup [.sl 0 0 (vainP ms ln 5 0).length, bl true], [some ⟨3, 1, 1, false, i64s (vainP ms ln 5 0)⟩]) := by
  obtain ⟨b1, b2⟩ := okTable_len h1
  have t1 := table_s ms (by omega) hs
  have t2 := letters_s ms b1 b2 l (by omega)
  have t3 := asked_i ms (by omega) hs l (by omega)
  rw [h1] at t1
  rw [h2] at t2
  rw [h1, h2] at t3
  rw [e] at t2 t3 ⊢
  have p1 := places_s ms ln (by omega) hv hne 5 0 [] rfl (by simp)
  have p2 := places_i ms ln (by omega) hv hne 5 0 [] rfl (by simp)
  rw [c0, List.length_nil, Nat.zero_add, List.nil_append] at p1 p2
  generalize vainP ms ln 5 0 = r at *
  refine ⟨?_, ?_⟩
  · rw [e29]
    unfold runF
    simp -implicitDefEqProofs [L29, t1, t2, p1]
  · rw [e28]
    unfold runF
    simp -implicitDefEqProofs [L28, t3, p2]
/-- The row of the game: what all the questions on letters give. -/
theorem two_game (ms : List ByteArray) (l : List Int) (hl : ms.length ≤ 30) (hz : ∀ t ∈ ms, t.size ≤ 20) (hll : l.length ≤ 60) : ∃ (d b : Int) (f : Bool) (v : List Int) (are two one three : Bool), v.length ≤ 5 ∧ two = okTable ms ∧ are = one ∧ one = (okTable ms && okLetters ms l) ∧ three = (one && decide (l.length ≠ 1)) ∧
    (∀ g, g = 25 ∨ g = 24 → ev E1 g [.agg [.lst 1 (ms.map st)], .lst 1 (i64s l)] [] = some (.tup [bl are, bl two], [])) ∧
    (∀ g, g = 23 ∨ g = 22 → ev E1 g [.agg [.lst 1 (ms.map st)], .lst 1 (i64s l)] [] = some (.tup [i64 d, bl one], [])) ∧
    (∀ g, g = 27 ∨ g = 26 → ev E1 g [.agg [.lst 1 (ms.map st)], .lst 1 (i64s l)] [] = some (.tup [i64 b, bl three], [])) ∧
    (∀ g, g = 29 ∨ g = 28 → ev E1 g [.agg [.lst 1 (ms.map st)], .lst 1 (i64s l)] [] = some (.tup [.lst 1 (i64s v), bl one], [])) ∧
    (∀ g, g = 31 ∨ g = 30 → ev E1 g [.agg [.lst 1 (ms.map st)], .lst 1 (i64s l)] [] = some (.tup [bl f, bl three], [])) ∧
    (one = true → ∃ ln : List Nat, i64s l = i64n ln ∧ ln ≠ [] ∧ (∀ n ∈ ln, n < ms.length) ∧ ln.length = l.length ∧ Apart ms ln ∧ d = (depN ms ln.length ln).1 ∧ (three = true → b = (depN ms ln.length ln).2 ∧ f = firN ms ln.length ln ∧ v = vainP ms ln 5 0)) := by
  have hs : ∀ x ∈ ms, x.size ≤ 140737488355328 := fun x hx => by have := hz x hx; omega
  have htk : ∀ l : List Int, List.take l.length (l.map i64) = l.map i64 := fun l => List.take_of_length_le (by simp)
  have t3 := asked_i ms (by omega) hs l (by omega)
  have t0 := table_i ms (by omega) hs
  have t4 := letters_i ms (by omega) l (by omega)
  rcases valid_s ms (by omega) hs l (by omega) with ⟨h1, t1⟩ | ⟨h1, t1, t2⟩
  · rw [h1, Bool.false_and] at t3
    rw [h1] at t0
    have s_AreLetters : ev E0 25 [.agg [.lst 1 (ms.map st)], .lst 1 (i64s l)] [] = some (.tup [bl false, bl false], []) := by
      rw [e25]
      unfold runF
      simp -implicitDefEqProofs [L25, t1]
    have i_AreLetters : ev E0 24 [.agg [.lst 1 (ms.map st)], .lst 1 (i64s l)] [] = some (.tup [bl false, bl false], []) := by
      rw [e24]
      unfold runF
      simp -implicitDefEqProofs [L24, t3, t0]
    have s_DepthOf : ev E0 23 [.agg [.lst 1 (ms.map st)], .lst 1 (i64s l)] [] = some (.tup [i64 0, bl false], []) := by
      rw [e23]
      unfold runF
      simp -implicitDefEqProofs [L23, t1]
    have i_DepthOf : ev E0 22 [.agg [.lst 1 (ms.map st)], .lst 1 (i64s l)] [] = some (.tup [i64 0, bl false], []) := by
      rw [e22]
      unfold runF
      simp -implicitDefEqProofs [L22, t3, t0]
    have s_BestAsk : ev E0 27 [.agg [.lst 1 (ms.map st)], .lst 1 (i64s l)] [] = some (.tup [i64 0, bl false], []) := by
      rw [e27]
      unfold runF
      simp -implicitDefEqProofs [L27, t1]
    have i_BestAsk : ev E0 26 [.agg [.lst 1 (ms.map st)], .lst 1 (i64s l)] [] = some (.tup [i64 0, bl false], []) := by
      rw [e26]
      unfold runF
      simp -implicitDefEqProofs [L26, t3, t0]
    have s_AsksFirst : ev E0 31 [.agg [.lst 1 (ms.map st)], .lst 1 (i64s l)] [] = some (.tup [bl false, bl false], []) := by
      rw [e31]
      unfold runF
      simp -implicitDefEqProofs [L31, t1]
    have i_AsksFirst : ev E0 30 [.agg [.lst 1 (ms.map st)], .lst 1 (i64s l)] [] = some (.tup [bl false, bl false], []) := by
      rw [e30]
      unfold runF
      simp -implicitDefEqProofs [L30, t3, t0]
    obtain ⟨s_VainPlaces, i_VainPlaces⟩ := vainPlaces_no ms (by omega) hs l (by omega) (by rw [h1]; rfl)
    refine ⟨0, 0, false, [], false, false, false, false, by simp, h1.symm, rfl, by rw [h1]; rfl, rfl, ?_, ?_, ?_, ?_, ?_, fun h => by cases h⟩
    · rintro g (rfl | rfl)
      · rw [g25]
        exact frz_to rfl s_AreLetters (by simp) (by simp)
      · rw [g24]
        exact frz_to rfl i_AreLetters (by simp) (by simp)
    · rintro g (rfl | rfl)
      · rw [g23]
        exact frz_to rfl s_DepthOf (by simp) (by simp)
      · rw [g22]
        exact frz_to rfl i_DepthOf (by simp) (by simp)
    · rintro g (rfl | rfl)
      · rw [g27]
        exact frz_to rfl s_BestAsk (by simp) (by simp)
      · rw [g26]
        exact frz_to rfl i_BestAsk (by simp) (by simp)
    · rintro g (rfl | rfl)
      · rw [g29]
        exact frz_to rfl s_VainPlaces (by simp) (by simp [i64s_len, i64n_len, i64s, htk])
      · rw [g28]
        exact frz_to rfl i_VainPlaces (by simp) (by simp [i64s_len, i64n_len, i64s, htk])
    · rintro g (rfl | rfl)
      · rw [g31]
        exact frz_to rfl s_AsksFirst (by simp) (by simp)
      · rw [g30]
        exact frz_to rfl i_AsksFirst (by simp) (by simp)
  · rw [h1, Bool.true_and] at t3
    rw [h1] at t0
    cases h2 : okLetters ms l with
    | false =>
      rw [h2] at t2 t3 t4
      have s_AreLetters : ev E0 25 [.agg [.lst 1 (ms.map st)], .lst 1 (i64s l)] [] = some (.tup [bl false, bl true], []) := by
        rw [e25]
        unfold runF
        simp -implicitDefEqProofs [L25, t1, t2]
      have i_AreLetters : ev E0 24 [.agg [.lst 1 (ms.map st)], .lst 1 (i64s l)] [] = some (.tup [bl false, bl true], []) := by
        rw [e24]
        unfold runF
        simp -implicitDefEqProofs [L24, t3, t0, t4]
      have s_DepthOf : ev E0 23 [.agg [.lst 1 (ms.map st)], .lst 1 (i64s l)] [] = some (.tup [i64 0, bl false], []) := by
        rw [e23]
        unfold runF
        simp -implicitDefEqProofs [L23, t1, t2]
      have i_DepthOf : ev E0 22 [.agg [.lst 1 (ms.map st)], .lst 1 (i64s l)] [] = some (.tup [i64 0, bl false], []) := by
        rw [e22]
        unfold runF
        simp -implicitDefEqProofs [L22, t3, t0, t4]
      have s_BestAsk : ev E0 27 [.agg [.lst 1 (ms.map st)], .lst 1 (i64s l)] [] = some (.tup [i64 0, bl false], []) := by
        rw [e27]
        unfold runF
        simp -implicitDefEqProofs [L27, t1, t2]
      have i_BestAsk : ev E0 26 [.agg [.lst 1 (ms.map st)], .lst 1 (i64s l)] [] = some (.tup [i64 0, bl false], []) := by
        rw [e26]
        unfold runF
        simp -implicitDefEqProofs [L26, t3, t0, t4]
      have s_AsksFirst : ev E0 31 [.agg [.lst 1 (ms.map st)], .lst 1 (i64s l)] [] = some (.tup [bl false, bl false], []) := by
        rw [e31]
        unfold runF
        simp -implicitDefEqProofs [L31, t1, t2]
      have i_AsksFirst : ev E0 30 [.agg [.lst 1 (ms.map st)], .lst 1 (i64s l)] [] = some (.tup [bl false, bl false], []) := by
        rw [e30]
        unfold runF
        simp -implicitDefEqProofs [L30, t3, t0, t4]
      obtain ⟨s_VainPlaces, i_VainPlaces⟩ := vainPlaces_no ms (by omega) hs l (by omega) (by rw [h1, h2]; rfl)
      refine ⟨0, 0, false, [], false, true, false, false, by simp, h1.symm, rfl, by rw [h1]; rfl, rfl, ?_, ?_, ?_, ?_, ?_, fun h => by cases h⟩
      · rintro g (rfl | rfl)
        · rw [g25]
          exact frz_to rfl s_AreLetters (by simp) (by simp)
        · rw [g24]
          exact frz_to rfl i_AreLetters (by simp) (by simp)
      · rintro g (rfl | rfl)
        · rw [g23]
          exact frz_to rfl s_DepthOf (by simp) (by simp)
        · rw [g22]
          exact frz_to rfl i_DepthOf (by simp) (by simp)
      · rintro g (rfl | rfl)
        · rw [g27]
          exact frz_to rfl s_BestAsk (by simp) (by simp)
        · rw [g26]
          exact frz_to rfl i_BestAsk (by simp) (by simp)
      · rintro g (rfl | rfl)
        · rw [g29]
          exact frz_to rfl s_VainPlaces (by simp) (by simp [i64s_len, i64n_len, i64s, htk])
        · rw [g28]
          exact frz_to rfl i_VainPlaces (by simp) (by simp [i64s_len, i64n_len, i64s, htk])
      · rintro g (rfl | rfl)
        · rw [g31]
          exact frz_to rfl s_AsksFirst (by simp) (by simp)
        · rw [g30]
          exact frz_to rfl i_AsksFirst (by simp) (by simp)
    | true =>
      rw [h2] at t2 t3 t4
      obtain ⟨ln, he, hne, hv, hln, _, ha⟩ := okLetters_apart h1 h2
      have d1 := depth_s ms ln.length ln (Nat.le_refl _) (by omega) hne hv ha
      have d2 := depth_i ms ln.length ln (Nat.le_refl _) (by omega) hne hv ha
      have f1 := first_s ms ln.length ln (Nat.le_refl _) (by omega) hne hv
      have f2 := first_i ms ln.length ln (Nat.le_refl _) (by omega) hne hv
      obtain ⟨s_VainPlaces, i_VainPlaces⟩ := vainPlaces_x ms (by omega) hs l (by omega) h1 h2 ln he hne hv (by omega)
      have hvl := vainP_len ms ln 5 0
      rw [he] at t2 t3 t4
      by_cases hone : ln.length = 1
      · have hone2 : (ln.length : Int) = 1 := by omega
        have s_AreLetters : ev E0 25 [.agg [.lst 1 (ms.map st)], .lst 1 (i64s l)] [] = some (.tup [bl true, bl true], []) := by
          rw [e25, he]
          unfold runF
          simp -implicitDefEqProofs [L25, t1, t2, d1, hone, hone2, i64n_len]
        have i_AreLetters : ev E0 24 [.agg [.lst 1 (ms.map st)], .lst 1 (i64s l)] [] = some (.tup [bl true, bl true], []) := by
          rw [e24, he]
          unfold runF
          simp -implicitDefEqProofs [L24, t3, t0, t4, d2, hone, hone2, i64n_len]
        have s_DepthOf : ev E0 23 [.agg [.lst 1 (ms.map st)], .lst 1 (i64s l)] [] = some (.tup [i64 ((depN ms ln.length ln).1 : Nat), bl true], []) := by
          rw [e23, he]
          unfold runF
          simp -implicitDefEqProofs [L23, t1, t2, d1, hone, hone2, i64n_len]
        have i_DepthOf : ev E0 22 [.agg [.lst 1 (ms.map st)], .lst 1 (i64s l)] [] = some (.tup [i64 ((depN ms ln.length ln).1 : Nat), bl true], []) := by
          rw [e22, he]
          unfold runF
          simp -implicitDefEqProofs [L22, t3, t0, t4, d2, hone, hone2, i64n_len]
        have s_BestAsk : ev E0 27 [.agg [.lst 1 (ms.map st)], .lst 1 (i64s l)] [] = some (.tup [i64 0, bl false], []) := by
          rw [e27, he]
          unfold runF
          simp -implicitDefEqProofs [L27, t1, t2, d1, hone, hone2, i64n_len]
        have i_BestAsk : ev E0 26 [.agg [.lst 1 (ms.map st)], .lst 1 (i64s l)] [] = some (.tup [i64 0, bl false], []) := by
          rw [e26, he]
          unfold runF
          simp -implicitDefEqProofs [L26, t3, t0, t4, d2, hone, hone2, i64n_len]
        have s_AsksFirst : ev E0 31 [.agg [.lst 1 (ms.map st)], .lst 1 (i64s l)] [] = some (.tup [bl false, bl false], []) := by
          rw [e31, he]
          unfold runF
          simp -implicitDefEqProofs [L31, t1, t2, d1, hone, hone2, i64n_len]
        have i_AsksFirst : ev E0 30 [.agg [.lst 1 (ms.map st)], .lst 1 (i64s l)] [] = some (.tup [bl false, bl false], []) := by
          rw [e30, he]
          unfold runF
          simp -implicitDefEqProofs [L30, t3, t0, t4, d2, hone, hone2, i64n_len]
        refine ⟨_, 0, false, vainP ms ln 5 0, true, true, true, false, hvl, h1.symm, rfl, by rw [h1]; rfl, by simp; omega, ?_, ?_, ?_, ?_, ?_, fun _ => ⟨ln, he, hne, hv, hln, ha, rfl, fun h => by cases h⟩⟩
        · rintro g (rfl | rfl)
          · rw [g25]
            exact frz_to rfl s_AreLetters (by simp) (by simp)
          · rw [g24]
            exact frz_to rfl i_AreLetters (by simp) (by simp)
        · rintro g (rfl | rfl)
          · rw [g23]
            exact frz_to rfl s_DepthOf (by simp) (by simp)
          · rw [g22]
            exact frz_to rfl i_DepthOf (by simp) (by simp)
        · rintro g (rfl | rfl)
          · rw [g27]
            exact frz_to rfl s_BestAsk (by simp) (by simp)
          · rw [g26]
            exact frz_to rfl i_BestAsk (by simp) (by simp)
        · rintro g (rfl | rfl)
          · rw [g29]
            exact frz_to rfl s_VainPlaces (by simp) (by simp [i64s_len, i64n_len, i64s, htk])
          · rw [g28]
            exact frz_to rfl i_VainPlaces (by simp) (by simp [i64s_len, i64n_len, i64s, htk])
        · rintro g (rfl | rfl)
          · rw [g31]
            exact frz_to rfl s_AsksFirst (by simp) (by simp)
          · rw [g30]
            exact frz_to rfl i_AsksFirst (by simp) (by simp)
      · have hone2 : ¬ (ln.length : Int) = 1 := by omega
        have s_AreLetters : ev E0 25 [.agg [.lst 1 (ms.map st)], .lst 1 (i64s l)] [] = some (.tup [bl true, bl true], []) := by
          rw [e25, he]
          unfold runF
          simp -implicitDefEqProofs [L25, t1, t2, d1, f1, hone, hone2, i64n_len]
        have i_AreLetters : ev E0 24 [.agg [.lst 1 (ms.map st)], .lst 1 (i64s l)] [] = some (.tup [bl true, bl true], []) := by
          rw [e24, he]
          unfold runF
          simp -implicitDefEqProofs [L24, t3, t0, t4, d2, f2, hone, hone2, i64n_len]
        have s_DepthOf : ev E0 23 [.agg [.lst 1 (ms.map st)], .lst 1 (i64s l)] [] = some (.tup [i64 ((depN ms ln.length ln).1 : Nat), bl true], []) := by
          rw [e23, he]
          unfold runF
          simp -implicitDefEqProofs [L23, t1, t2, d1, f1, hone, hone2, i64n_len]
        have i_DepthOf : ev E0 22 [.agg [.lst 1 (ms.map st)], .lst 1 (i64s l)] [] = some (.tup [i64 ((depN ms ln.length ln).1 : Nat), bl true], []) := by
          rw [e22, he]
          unfold runF
          simp -implicitDefEqProofs [L22, t3, t0, t4, d2, f2, hone, hone2, i64n_len]
        have s_BestAsk : ev E0 27 [.agg [.lst 1 (ms.map st)], .lst 1 (i64s l)] [] = some (.tup [i64 (depN ms ln.length ln).2, bl true], []) := by
          rw [e27, he]
          unfold runF
          simp -implicitDefEqProofs [L27, t1, t2, d1, f1, hone, hone2, i64n_len]
        have i_BestAsk : ev E0 26 [.agg [.lst 1 (ms.map st)], .lst 1 (i64s l)] [] = some (.tup [i64 (depN ms ln.length ln).2, bl true], []) := by
          rw [e26, he]
          unfold runF
          simp -implicitDefEqProofs [L26, t3, t0, t4, d2, f2, hone, hone2, i64n_len]
        have s_AsksFirst : ev E0 31 [.agg [.lst 1 (ms.map st)], .lst 1 (i64s l)] [] = some (.tup [bl (firN ms ln.length ln), bl true], []) := by
          rw [e31, he]
          unfold runF
          simp -implicitDefEqProofs [L31, t1, t2, d1, f1, hone, hone2, i64n_len]
        have i_AsksFirst : ev E0 30 [.agg [.lst 1 (ms.map st)], .lst 1 (i64s l)] [] = some (.tup [bl (firN ms ln.length ln), bl true], []) := by
          rw [e30, he]
          unfold runF
          simp -implicitDefEqProofs [L30, t3, t0, t4, d2, f2, hone, hone2, i64n_len]
        refine ⟨_, _, _, vainP ms ln 5 0, true, true, true, true, hvl, h1.symm, rfl, by rw [h1]; rfl, by simp; omega, ?_, ?_, ?_, ?_, ?_, fun _ => ⟨ln, he, hne, hv, hln, ha, rfl, fun _ => ⟨rfl, rfl, rfl⟩⟩⟩
        · rintro g (rfl | rfl)
          · rw [g25]
            exact frz_to rfl s_AreLetters (by simp) (by simp)
          · rw [g24]
            exact frz_to rfl i_AreLetters (by simp) (by simp)
        · rintro g (rfl | rfl)
          · rw [g23]
            exact frz_to rfl s_DepthOf (by simp) (by simp)
          · rw [g22]
            exact frz_to rfl i_DepthOf (by simp) (by simp)
        · rintro g (rfl | rfl)
          · rw [g27]
            exact frz_to rfl s_BestAsk (by simp) (by simp)
          · rw [g26]
            exact frz_to rfl i_BestAsk (by simp) (by simp)
        · rintro g (rfl | rfl)
          · rw [g29]
            exact frz_to rfl s_VainPlaces (by simp) (by simp [i64s_len, i64n_len, i64s, htk])
          · rw [g28]
            exact frz_to rfl i_VainPlaces (by simp) (by simp [i64s_len, i64n_len, i64s, htk])
        · rintro g (rfl | rfl)
          · rw [g31]
            exact frz_to rfl s_AsksFirst (by simp) (by simp)
          · rw [g30]
            exact frz_to rfl i_AsksFirst (by simp) (by simp)
end Go.Proofs.YtkajcafnfdlgpaaDoor.Ev
