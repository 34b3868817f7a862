/- FnExactPartBy: the law, run by the evaluator, answers true. -/
import Derived.Test.YtoehcdjndnmmlaaDoorEvPartByH
set_option linter.unusedVariables false
set_option linter.unusedSimpArgs false
namespace Go.Proofs.YtoehcdjndnmmlaaDoor.Ev
theorem FnExactPartBy (ms : List ByteArray) (hm : ms.length ≤ maxLen ∧ ∀ x ∈ ms, x.size ≤ maxLen) (l : List Int) (hl0 : l.length ≤ maxLen ∧ ∀ y ∈ l, (Lit.int .i64 y).wf = true) (q : Int) (hq : (Lit.int .i64 q).wf = true) : ev E0 12 [.agg [.lst 1 (ms.map st)], .lst 1 (i64s l), i64 q] [] = some (bl true, []) := by
  obtain ⟨hm1, hm2⟩ := hm
  have hl1 := hl0.1
  unfold maxLen at hm1 hm2 hl1
  obtain ⟨r, e, h⟩ := sz_table ms (by omega) (fun x hx => by have := hm2 x hx; omega) 1048576 (by omega) (by omega)
  rw [e12]
  unfold runF
  by_cases hps : (l.length : Int) > 1048576
  · have hps2 : 1048576 < l.length := by omega
    have hps3 : (1048576 : Int) < (l.length : Int) := hps
    simp -implicitDefEqProofs [L12, hps2, hps3, i64s_len]
  · have hps2 : ¬ 1048576 < l.length := by omega
    have hps3 : ¬ (1048576 : Int) < (l.length : Int) := hps
    by_cases hr : r < 0
    · simp -implicitDefEqProofs [L12, e, hr, hps2, hps3, i64s_len]
    · rcases h with h | ⟨h1, h2, h3, h4⟩
      · exact absurd h hr
      have hm3 : ms.length ≤ 8796093022208 := by omega
      have hs3 : ∀ x ∈ ms, x.size ≤ 140737488355328 := fun x hx => by have := h4 x hx; omega
      have hm5 : ms.length ≤ 140737488355328 := by omega
      have hm4 : ms.length ≤ 1073741824 := by omega
      have hl3 : l.length ≤ 8796093022208 := by omega
      have hl4 : l.length ≤ 1073741824 := by omega
      have hl5 : l.length ≤ 140737488355328 := by omega
      have hn2 : ¬ (1 + (ms.length : Int) + (l.length : Int)) < 0 := by omega
      have mk := fun H id hg s1 s2 => mark_ints H id l (1 + (ms.length : Int)) hg (stable_of s1 s2) (by omega) (by omega) (by omega)
      cases hv : ((okTable ms && okLetters ms l) && okPlace q) with
      | false =>
        obtain ⟨e1, e2⟩ := partBy_no ms hm3 hs3 l hl4 q hv
        have q0 := eq3 _ _ _ _ _ _ flat_nil flat_nil flat_nil flat_nil flat_nil flat_nil eq_nils eq_nils eq_nils
        have w0 := held3 _ _ _ 1 1 1 1 flat_nil flat_nil flat_nil (held_nilc 1) (held_nilc 1) (held_nilc 1) (by omega) (by omega) (by omega)
        have m3 := mark3' [] [] [] (by simp) (by simp) (by simp)
        simp only [List.length_nil] at m3
        simp -implicitDefEqProofs [L12, e, hr, hps2, hps3, i64s_len, copy_table ms hm3, copy_ints l hl3, e1, e2, q0, w0, m3, rowOk_nil, rowOk_sl, mrk_nil, mrk_sl, eq_table ms hm5, eq_ints l hl5, mark_table1, mk, hm4, hn2, -Int.natCast_add]
      | true =>
        rw [Bool.and_eq_true, Bool.and_eq_true] at hv
        obtain ⟨a, b, c, ka, kb, kc, e1, e2⟩ := partBy_yes ms hm3 hs3 l hl4 q hv.1.1 hv.1.2 hv.2
        have q0 := eq3 _ _ _ _ _ _ (flat_fv a) (flat_fv b) (flat_fv c) (flat_lst 1 (i64n a)) (flat_lst 1 (i64n b)) (flat_lst 1 (i64n c)) (eq_fv a (by omega)) (eq_fv b (by omega)) (eq_fv c (by omega))
        have w0 := held3 _ _ _ 1 _ _ _ (flat_hv _ a) (flat_hv _ b) (flat_hv _ c) (held_hv 1 a (by omega) (by omega)) (held_hv _ b (by omega) (by omega)) (held_hv _ c (by omega) (by omega)) (by omega) (by omega) (by omega)
        have m3 := mark3' a b c (by omega) (by omega) (by omega)
        have hn3 : ¬ (1 + (a.length : Int) + (b.length : Int) + (c.length : Int)) < 0 := by omega
        by_cases ha : a = [] <;> by_cases hb : b = [] <;> by_cases hc : c = [] <;> simp only [ha, hb, hc, rows3, rv_nil, rb_nil, rv_ne, rb_ne, fv_nil, fv_ne, hv_nil, hv_ne, i64n_nil, not_false_eq_true, List.nil_append, List.cons_append, List.append_nil, List.length_nil, List.length_cons, Nat.zero_add, Nat.add_zero, Int.natCast_zero, Int.add_zero] at e1 e2 q0 w0 m3 hn3 <;>
        simp (maxDischargeDepth := 5) -implicitDefEqProofs [L12, e, hr, hps2, hps3, i64s_len, i64n_len, seqI_len, copy_table ms hm3, copy_ints l hl3, e1, e2, q0, w0, m3, rowOk_nil, rowOk_sl, mrk_nil, mrk_sl, eq_table ms hm5, eq_ints l hl5, mark_table1, mk, hm4, hn2, hn3, ha, hb, hc, i64n_nil]
end Go.Proofs.YtoehcdjndnmmlaaDoor.Ev
