/- FnHeardLetters: the law, run by the evaluator, answers true. -/
import Derived.Test.YtkajcafnfdlgpaaDoorEvE1
import Derived.Test.YtkajcafnfdlgpaaDoorEvHeardX
import Derived.Test.YtkajcafnfdlgpaaDoorEvDrawW
import Derived.Test.YtkajcafnfdlgpaaDoorEvLawR
set_option linter.unusedVariables false
set_option linter.unusedSimpArgs false
namespace Go.Proofs.YtkajcafnfdlgpaaDoor.Ev
open Dr
theorem i64n_inj : ∀ {a b : List Nat}, i64n a = i64n b → a = b
  | [], [], _ => rfl
  | [], y :: b, h => by simp [i64n] at h
  | x :: a, [], h => by simp [i64n] at h
  | x :: a, y :: b, h => by
    unfold i64n at h
    rw [List.map_cons, List.map_cons] at h
    injection h with h1 h2
    injection h1 with h1
    injection h1 with _ h1
    have h3 : x = y := by omega
    rw [h3, i64n_inj (show i64n a = i64n b from h2)]
theorem two_big (x : List Int) : ev E1 5 [.lst 1 (cd x)] [] = some (bl (decide (65536 < (x.length : Int))), []) := by
  rw [g5]
  exact frz_to rfl (rbig x) (by simp) (by simp)
theorem two_ints (l : List Int) (hm : l.length ≤ 140737488355328) : ev E1 12 [.lst 1 (i64s l), .lst 1 (i64s l)] [] = some (bl true, []) := by
  rw [g12]
  exact frz_to rfl (rints l hm) (by simp) (by simp)
theorem two_heardD (x : List Int) (hx : okC x) : ∃ (ms : List ByteArray) (k : Int), ms.length ≤ 30 ∧ (∀ t ∈ ms, t.size ≤ 20) ∧ ev E1 6 [.lst 1 (cd x)] [] = some (.tup [.agg [.lst 1 (ms.map st)], i64 k], []) := by
  obtain ⟨T, H, k, hT, b1, b2, e⟩ := drawHeard x hx
  rw [g6]
  rcases hT with ⟨rfl, rfl⟩ | ⟨ms, z1, z2, rfl, rfl⟩
  · exact ⟨[], k, by simp, by simp, frz_to rfl e (by simp) (by simp)⟩
  · exact ⟨ms, k, z1, z2, frz_to rfl e (by simp) (by simp [tr])⟩
theorem two_behindD (x : List Int) (hx : okC x) : ∃ (ms : List ByteArray) (m : ByteArray), ms.length ≤ 30 ∧ (∀ t ∈ ms, t.size ≤ 20) ∧ m.size ≤ 20 ∧ ev E1 9 [.lst 1 (cd x)] [] = some (.tup [.agg [.lst 1 (ms.map st)], st m], []) := by
  obtain ⟨T, H, m, hT, b1, e⟩ := drawBehind x hx
  rw [g9]
  rcases hT with ⟨rfl, rfl⟩ | ⟨ms, z1, z2, rfl, rfl⟩
  · exact ⟨[], m, by simp, by simp, b1, frz_to rfl e (by simp) (by simp)⟩
  · exact ⟨ms, m, z1, z2, b1, frz_to rfl e (by simp) (by simp [tr])⟩
theorem two_meanD (x : List Int) (hx : okC x) : ∃ (ms : List ByteArray) (l : List Int), ms.length ≤ 30 ∧ (∀ t ∈ ms, t.size ≤ 20) ∧ l.length ≤ 60 ∧ ev E1 13 [.lst 1 (cd x)] [] = some (.tup [.agg [.lst 1 (ms.map st)], .lst 1 (i64s l)], []) := by
  obtain ⟨T, L, H, r, hT, b1, e⟩ := drawMeanH x hx
  rw [g13]
  rcases hT with ⟨rfl, rfl, rfl⟩ | ⟨ms, z1, z2, rfl, rfl, rfl⟩
  · exact ⟨[], r, by simp, by simp, b1, frz_to rfl e (by simp) (by simp [ib, i64s])⟩
  · exact ⟨ms, r, z1, z2, b1, frz_to rfl e (by simp) (by simp [tr, ib, i64s])⟩
theorem two_heard (ms : List ByteArray) (k : Int) (hl : ms.length ≤ 30) (hz : ∀ t ∈ ms, t.size ≤ 20) : ((okTable ms && okLetter ms k) = false ∧ ev E1 8 [.agg [.lst 1 (ms.map st)], i64 k] [] = some (.tup [i64 0, bl false], []) ∧ ev E1 7 [.agg [.lst 1 (ms.map st)], i64 k] [] = some (.tup [i64 0, bl false], [])) ∨
    (∃ i : Nat, ∃ h : i < ms.length, k = i ∧ okTable ms = true ∧ ev E1 8 [.agg [.lst 1 (ms.map st)], i64 k] [] = some (.tup [i64 (heardN ms ms[i] (ms[i].size + 1) 0), bl true], []) ∧ ev E1 7 [.agg [.lst 1 (ms.map st)], i64 k] [] = some (.tup [i64 (heardN ms ms[i] (ms[i].size + 1) 0), bl true], [])) := by
  have hs : ∀ x ∈ ms, x.size ≤ 140737488355328 := fun x hx => by have := hz x hx; omega
  rw [g8, g7]
  cases h : okTable ms && okLetter ms k with
  | false =>
    obtain ⟨h1, h2⟩ := heardU_no ms (by omega) hs k h
    exact .inl ⟨rfl, frz_to rfl h1 (by simp) (by simp), frz_to rfl h2 (by simp) (by simp)⟩
  | true =>
    rw [Bool.and_eq_true] at h
    obtain ⟨b1, b2⟩ := okLetter_bounds h.2
    obtain ⟨i, rfl⟩ : ∃ i : Nat, k = i := ⟨k.toNat, by omega⟩
    have hi : i < ms.length := by omega
    obtain ⟨h1, h2⟩ := heardU_yes ms (by omega) hs i hi h.1
    exact .inr ⟨i, hi, rfl, h.1, frz_to rfl h1 (by simp) (by simp), frz_to rfl h2 (by simp) (by simp)⟩
theorem two_behind (ms : List ByteArray) (p : ByteArray) (hl : ms.length ≤ 30) (hz : ∀ t ∈ ms, t.size ≤ 20) (hp : p.size ≤ 20) : ∃ (r : List Int) (ok : Bool), (ok = (okTable ms && okMarks p 0 5)) ∧ r = (if ok = true then behindL p ms 0 else []) ∧
    ev E1 11 [.agg [.lst 1 (ms.map st)], st p] [] = some (.tup [.lst 1 (i64s r), bl ok], []) ∧ ev E1 10 [.agg [.lst 1 (ms.map st)], st p] [] = some (.tup [.lst 1 (i64s r), bl ok], []) := by
  have hs : ∀ x ∈ ms, x.size ≤ 140737488355328 := fun x hx => by have := hz x hx; omega
  rw [g11, g10]
  refine ⟨_, _, rfl, rfl, ?_⟩
  cases h : okTable ms && okMarks p 0 5 with
  | false =>
    obtain ⟨h1, h2⟩ := lettersBehind_no ms (by omega) hs p (by omega) h
    exact ⟨frz_to rfl h1 (by simp) (by simp [i64s]), frz_to rfl h2 (by simp) (by simp [i64s])⟩
  | true =>
    rw [Bool.and_eq_true] at h
    have hb := behindL_len p ms 0
    obtain ⟨h1, h2⟩ := lettersBehind_yes ms (by omega) hs p (by omega) h.1 h.2
    have htk : List.take (behindL p ms 0).length (i64s (behindL p ms 0)) = i64s (behindL p ms 0) := List.take_of_length_le (by simp [i64s_len])
    exact ⟨frz_to rfl h1 (by simp) (by simp [i64s_len, htk]), frz_to rfl h2 (by simp) (by simp [i64s_len, htk])⟩
theorem two_mean (ms : List ByteArray) (l : List Int) (hl : ms.length ≤ 30) (hz : ∀ t ∈ ms, t.size ≤ 20) (hll : l.length ≤ 60) : ∃ (x y u v : Int) (o p : Bool), MeanOf ms l (fH ms) x y o ∧ MeanOf ms l (fA ms) u v p ∧ o = p ∧
    ev E1 15 [.agg [.lst 1 (ms.map st)], .lst 1 (i64s l)] [] = some (.tup [.agg [i64 x, i64 y], bl o], []) ∧ ev E1 14 [.agg [.lst 1 (ms.map st)], .lst 1 (i64s l)] [] = some (.tup [.agg [i64 x, i64 y], bl o], []) ∧
    ev E1 17 [.agg [.lst 1 (ms.map st)], .lst 1 (i64s l)] [] = some (.tup [.agg [i64 u, i64 v], bl p], []) ∧ ev E1 16 [.agg [.lst 1 (ms.map st)], .lst 1 (i64s l)] [] = some (.tup [.agg [i64 u, i64 v], bl p], []) := by
  have hs : ∀ x ∈ ms, x.size ≤ 1073741824 := fun x hx => by have := hz x hx; omega
  obtain ⟨x, y, o, h1, h2, h3⟩ := meanHeard' ms (by omega) hs l (by omega)
  obtain ⟨u, v, p, k1, k2, k3⟩ := meanAsked' ms (by omega) hs l (by omega)
  rw [g15, g14, g17, g16]
  refine ⟨x, y, u, v, o, p, h3, k3, ?_, frz_to rfl h1 (by simp) (by simp), frz_to rfl h2 (by simp) (by simp), frz_to rfl k1 (by simp) (by simp), frz_to rfl k2 (by simp) (by simp)⟩
  rcases h3 with ⟨a1, _, _, rfl⟩ | ⟨a1, W, a2, _, _, _, rfl⟩
  · rcases k3 with ⟨b1, _, _, rfl⟩ | ⟨b1, _⟩
    · rfl
    · rw [a1] at b1; cases b1
  · rcases k3 with ⟨b1, _⟩ | ⟨b1, V, b2, _, _, _, rfl⟩
    · rw [a1] at b1; cases b1
    · rw [a2] at b2
      rw [i64n_inj b2]
def cT (ms : List ByteArray) : Blk := ⟨26, 1, 0, false, [.agg [.lst 1 (ms.map st)]]⟩
theorem heardLaw_loop (ms us : List ByteArray) (k n : Int) (ok : Bool) (p : ByteArray) (r : List Int) (hr : ∀ c ∈ r, ∃ j : Nat, ∃ h : j < us.length, c = ((0 + j : Nat) : Int) ∧ pre us[j] p = true) (hl : r.length ≤ 1000) : ∀ (t : List Int) (i : Nat), r.drop i = t →
    packX 0 [2, 3, 4, 5, 6] (loopW (bd E1 (ev E1) loopW 0 [3, 4, 5, 6, 9, 10, 11, 25] L3b0) ⟨[(3, .ptr 0 0 0), (4, i64 k), (5, i64 n), (6, bl ok), (9, .ptr 1 0 0), (10, st p), (11, .lst 1 (i64s r)), (25, i64 i)], [some (cT ms), some (cT us)]⟩) = some (.ext 0, ⟨[(3, .ptr 0 0 0), (4, i64 k), (5, i64 n), (6, bl ok)], [some (cT ms)]⟩) := by
  intro t
  induction t with
  | nil =>
    intro i h
    have hi := not_drop h
    rw [loopW_eq]
    generalize loopW (bd E1 (ev E1) loopW 0 [3, 4, 5, 6, 9, 10, 11, 25] L3b0) = K
    simp -implicitDefEqProofs [bd, L3b0, i64s, hi, cT]
  | cons c t ih =>
    intro i h
    obtain ⟨hi, hx, hd, hmem⟩ := at_drop h
    have hih := ih (i + 1) hd
    have hw : IntKind.i64.wrap ((i : Int) + 1) = (i : Int) + 1 := wr64 (by omega) (by omega)
    obtain ⟨j, hj, rfl, hp⟩ := hr c hmem
    rw [Nat.zero_add] at hx
    unfold pre at hp
    rw [Bool.and_eq_true, decide_eq_true_eq, decide_eq_true_eq] at hp
    obtain ⟨hp1, hp2⟩ := hp
    have hp3 : ¬ (us[j].size : Int) < (p.size : Int) := by omega
    have hp4 : ¬ us[j].size < p.size := by omega
    rw [cs1] at hih
    rw [loopW_eq]
    generalize loopW (bd E1 (ev E1) loopW 0 [3, 4, 5, 6, 9, 10, 11, 25] L3b0) = K at hih ⊢
    simpa -implicitDefEqProofs [bd, L3b0, i64s, hi, hx, hj, hp1, hp2, hp3, hp4, hw, cT] using hih
theorem FnHeardLetters (x0 : List Int) (b0 : x0.length ≤ maxLen ∧ ∀ y ∈ x0, (Lit.int .u8 y).wf = true) : ev E1 3 [(AV.lst 1 (x0.map (fun q : Int => (AV.v (.int .u8 q)))))] [] = some (bl true, []) := by
  obtain ⟨hl, hw⟩ := b0
  show ev E1 3 [.lst 1 (cd x0)] [] = _
  have hb := two_big x0
  rw [g3]
  unfold runF
  by_cases h0 : (65536 : Int) < (x0.length : Int)
  · rw [decide_eq_true h0] at hb
    simp -implicitDefEqProofs [L3, hb]
  rw [decide_eq_false h0] at hb
  have hx := okC_law (by omega) hw
  obtain ⟨ms, k, m1, m2, d1⟩ := two_heardD x0 hx
  obtain ⟨us, p, u1, u2, u3, d2⟩ := two_behindD x0 hx
  obtain ⟨vs, l, v1, v2, v3, d3⟩ := two_meanD x0 hx
  have hH := two_heard ms k m1 m2
  obtain ⟨r, ok, hok, hr, b1, b2⟩ := two_behind us p u1 u2 u3
  obtain ⟨xa, ya, ua, va, o, o', c1, c2, rfl, c3, c4, c5, c6⟩ := two_mean vs l v1 v2 v3
  have hrl : r.length ≤ 30 := by
    rw [hr]
    split
    · have := behindL_len p us 0; omega
    · simp
  have hq := two_ints r (by omega)
  have hrm : ∀ c ∈ r, ∃ j : Nat, ∃ h : j < us.length, c = ((0 + j : Nat) : Int) ∧ pre us[j] p = true := by
    intro c hc
    rw [hr] at hc
    split at hc
    · exact (behindL_mem p us 0 c).1 hc
    · cases hc
  -- the means
  have hmean : o = false ∨ (o = true ∧ 1 ≤ ya ∧ 0 ≤ xa ∧ xa ≤ 6 * ya ∧ 1 ≤ va ∧ ua ≤ 9 * va ∧ IntKind.i64.wrap (6 * ya) = 6 * ya ∧ IntKind.i64.wrap (9 * va) = 9 * va) := by
    cases o with
    | false => exact .inl rfl
    | true =>
      refine .inr ⟨rfl, ?_⟩
      rcases c1 with ⟨_, _, _, h⟩ | ⟨a1, W, a2, a3, rfl, rfl, a4⟩
      · cases h
      rcases c2 with ⟨_, _, _, h⟩ | ⟨e1, V, e2, e3, rfl, rfl, e4⟩
      · cases h
      rw [Bool.and_eq_true] at a1
      obtain ⟨q1, q2⟩ := mean_bounds (fun i => fH_six a1.1 i) a4.symm
      obtain ⟨q3, q4⟩ := mean_bounds (fun i => fA_nine a1.1 i) e4.symm
      have hW : i64s l = i64n W := a2
      have hok2 := a1.2
      rw [Bool.and_eq_true] at hok2
      obtain ⟨W', e', hW', _, _, _⟩ := okW_nat hok2.1
      have hWW : W = W' := i64n_inj (a2.symm.trans e')
      have hVV : V = W' := i64n_inj (e2.symm.trans e')
      subst hWW
      subst hVV
      have s1 : meanB (fH vs) V ≤ 1000 := by
        have := allW_le V hW'
        have h10 := okTable_len a1.1
        unfold meanB
        split
        · omega
        · exact Nat.le_trans (Nat.div_le_self _ _) (by omega)
      have s2 : meanB (fA vs) V ≤ 1000 := by
        have := allW_le V hW'
        have h10 := okTable_len a1.1
        unfold meanB
        split
        · omega
        · exact Nat.le_trans (Nat.div_le_self _ _) (by omega)
      refine ⟨by omega, by omega, by omega, by omega, by omega, wr64 (by omega) (by omega), wr64 (by omega) (by omega)⟩
  rcases hH with ⟨_, e1, e2⟩ | ⟨i, hi, rfl, hT, e1, e2⟩
  · have hlp := heardLaw_loop ms us k 0 false p r hrm (by omega) r 0 rfl
    rw [c0] at hlp
    unfold cT at hlp
    rcases hmean with rfl | ⟨rfl, n1, n2, n3, n4, n5, w1, w2⟩
    · simp -implicitDefEqProofs [L3, hb, d1, d2, d3, e1, e2, b1, b2, hq, c3, c4, c5, c6, hlp]
    · have k1 : ¬ ya < 1 := by omega
      have k2 : ¬ xa < 0 := by omega
      have k3 : ¬ 6 * ya < xa := by omega
      have k4 : ¬ va < 1 := by omega
      have k5 : ¬ 9 * va < ua := by omega
      simp -implicitDefEqProofs [L3, hb, d1, d2, d3, e1, e2, b1, b2, hq, c3, c4, c5, c6, hlp, w1, w2, k1, k2, k3, k4, k5]
  · have hlp := fun (n : Int) => heardLaw_loop ms us i n true p r hrm (by omega) r 0 rfl
    simp only [c0] at hlp
    unfold cT at hlp
    obtain ⟨z1, z2⟩ := okTable_sizes hT _ (List.getElem_mem hi)
    have hmk : okMarks ms[i] 1 5 = true := by
      unfold okTable at hT
      rw [Bool.and_eq_true] at hT
      exact (chk_apart ms [] hT.2).2.1 _ (List.getElem_mem hi)
    obtain ⟨_, t2, t3, t4⟩ := heardN_spec ms ms[i] (ms[i].size + 1) 0 (by omega)
    have hbe : ∀ n : Nat, n ≤ ms[i].size → ∃ r : List Int, r = behindL (ms[i].extract 0 n) ms 0 ∧ ev E1 10 [.agg [.lst 1 (ms.map st)], st (ms[i].extract 0 n)] [] = some (.tup [.lst 1 (i64s r), bl true], []) := by
      intro n hn
      obtain ⟨r, ok, a1, a2, _, a4⟩ := two_behind ms (ms[i].extract 0 n) m1 m2 (by simp; omega)
      have hok2 : ok = true := by rw [a1, hT, okMarks_sub hmk n (by omega)]; rfl
      subst hok2
      exact ⟨r, a2, a4⟩
    have hq2 := two_ints [(i : Int)] (by simp)
    simp only [i64s, List.map_cons, List.map_nil] at hq2
    generalize heardN ms ms[i] (ms[i].size + 1) 0 = n at *
    have hwz : IntKind.i64.wrap ((ms[i].size : Int) + 1) = (ms[i].size : Int) + 1 := wr64 (by omega) (by omega)
    have g1 : ¬ (ms[i].size : Int) + 1 < (n : Int) := by omega
    have l2 : List.length (i64s r) ≤ 30 := by rw [i64s_len]; exact hrl
    -- what the means tell is told once more for each way
    have mean2 : o = false ∨ (o = true ∧ ¬ ya < 1 ∧ ¬ xa < 0 ∧ ¬ 6 * ya < xa ∧ ¬ va < 1 ∧ ¬ 9 * va < ua ∧ IntKind.i64.wrap (6 * ya) = 6 * ya ∧ IntKind.i64.wrap (9 * va) = 9 * va) := by
      rcases hmean with h | ⟨h, n1, n2, n3, n4, n5, w1, w2⟩
      · exact .inl h
      · exact .inr ⟨h, by omega, by omega, by omega, by omega, by omega, w1, w2⟩
    by_cases hn0 : n = 0
    · subst hn0
      obtain ⟨r0, f1, f2⟩ := hbe 0 (by omega)
      rw [f1, heard_tells hi (by omega) (t3 (by omega))] at f2
      simp only [i64s, List.map_cons, List.map_nil] at f2
      rw [show ms[i].extract 0 0 = ByteArray.empty by simp] at f2
      have g2 : (0 : Int) ≤ (ms[i].size : Int) := by omega
      have g1 : ¬ (ms[i].size : Int) + 1 < 0 := by omega
      rcases mean2 with rfl | ⟨rfl, n1, n2, n3, n4, n5, w1, w2⟩
      · simp -implicitDefEqProofs [L3, hb, d1, d2, d3, e1, e2, b1, b2, hq, c3, c4, c5, c6, hlp, hi, f2, hq2, hwz, g1, g2]
      · simp -implicitDefEqProofs [L3, hb, d1, d2, d3, e1, e2, b1, b2, hq, c3, c4, c5, c6, hlp, w1, w2, n1, n2, n3, n4, n5, hi, f2, hq2, hwz, g1, g2]
    · obtain ⟨m, rfl⟩ : ∃ m, n = m + 1 := ⟨n - 1, by omega⟩
      obtain ⟨r1, f3, f4⟩ := hbe m (by omega)
      have h2 := heard_more hi (by omega) (t4 m (by omega) (by omega))
      rw [← f3] at h2
      have hw1 : IntKind.i64.wrap (((m + 1 : Nat) : Int) - 1) = m := by rw [cs1, show (m : Int) + 1 - 1 = m by omega]; exact wr64 (by omega) (by omega)
      have hw2 : IntKind.i64.wrap (m : Int) = m := wr64 (by omega) (by omega)
      have g3 : ¬ r1.length < 2 := by omega
      have g4 : ¬ (r1.length : Int) < 2 := by omega
      have g5 : (0 : Int) < (m : Int) + 1 := by omega
      have g7 : m ≤ ms[i].size := by omega
      by_cases hns : m + 1 ≤ ms[i].size
      · obtain ⟨r0, f1, f2⟩ := hbe (m + 1) hns
        rw [f1, heard_tells hi hns (t3 hns)] at f2
        simp only [i64s, List.map_cons, List.map_nil] at f2
        have g2 : (m : Int) + 1 ≤ (ms[i].size : Int) := by omega
        have g6 : ¬ (ms[i].size : Int) < (m : Int) := by omega
        have g8 : (((m : Int) + 1).toNat) = m + 1 := by omega
        have g9 : (0 : Int) ≤ (m : Int) + 1 := by omega
        rcases mean2 with rfl | ⟨rfl, n1, n2, n3, n4, n5, w1, w2⟩
        · simp -implicitDefEqProofs [L3, hb, d1, d2, d3, e1, e2, b1, b2, hq, c3, c4, c5, c6, hlp, hi, f2, f4, hq2, hwz, g1, g2, g3, g4, g5, g6, g7, g8, g9, hns, hw1, hw2, i64s_len]
        · simp -implicitDefEqProofs [L3, hb, d1, d2, d3, e1, e2, b1, b2, hq, c3, c4, c5, c6, hlp, w1, w2, n1, n2, n3, n4, n5, hi, f2, f4, hq2, hwz, g1, g2, g3, g4, g5, g6, g7, g8, g9, hns, hw1, hw2, i64s_len]
      · have g2 : ¬ (m : Int) + 1 ≤ (ms[i].size : Int) := by omega
        have g6 : ¬ (ms[i].size : Int) < (m : Int) := by omega
        rcases mean2 with rfl | ⟨rfl, n1, n2, n3, n4, n5, w1, w2⟩
        · simp -implicitDefEqProofs [L3, hb, d1, d2, d3, e1, e2, b1, b2, hq, c3, c4, c5, c6, hlp, hi, f4, hwz, g1, g2, g3, g4, g5, g6, g7, hns, hw1, hw2, i64s_len]
        · simp -implicitDefEqProofs [L3, hb, d1, d2, d3, e1, e2, b1, b2, hq, c3, c4, c5, c6, hlp, w1, w2, n1, n2, n3, n4, n5, hi, f4, hwz, g1, g2, g3, g4, g5, g6, g7, hns, hw1, hw2, i64s_len]
end Go.Proofs.YtkajcafnfdlgpaaDoor.Ev
