/- The draws of the law on noises. -/
import Derived.Test.YtpfefmofecmjjaaDoorEvDrawN
set_option linter.unusedVariables false
set_option linter.unusedSimpArgs false
namespace Go.Proofs.YtpfefmofecmjjaaDoor.Ev.Dr
def TabQ (T : AV) (H : Hp) (ms : List ByteArray) : Prop := (T = .v (.slice none 0 0) ∧ ms = [] ∧ H = []) ∨ (T = .sl 0 0 ms.length ∧ H = [some (tr ms)])
theorem st30 (x : List Int) (a s : Int) : Stable [some t0, some (nb 0 0), some (cu x a s)] := ⟨by simp [oldIds, t0, nb, cu], rfl⟩
/-- A table drawn by the cursor behind a table's and a noise's place. -/
theorem pre_tab3 (x : List Int) (hx : okC x) : ∃ (a s : Int) (ms : List ByteArray) (T : AV) (ex : Hp), 0 ≤ a ∧ a ≤ 2000 ∧ ms.length ≤ 30 ∧ (∀ t ∈ ms, t.size ≤ 20) ∧ ((T = .v (.slice none 0 0) ∧ ms = [] ∧ ex = []) ∨ (T = .sl 3 0 ms.length ∧ ex = [some (tr ms)])) ∧
    ev E0 28 [.ptr 2 0 0] [some t0, some (nb 0 0), some (cu x 0 0)] = some (.agg [T], [some t0, some (nb 0 0), some (cu x a s)] ++ ex) ∧ (∀ a' s' : Int, Stable ([some t0, some (nb 0 0), some (cu x a' s')] ++ (ex ++ [some (tv T)]))) ∧ (∀ a' s' : Int, TabM ([some t0, some (nb 0 0), some (cu x a' s')] ++ (ex ++ [some (tv T)])) 2 ms T) := by
  obtain ⟨a, s, ms, T, ex, p1, q1, zl, zt, hT, e⟩ := table_tab x hx [some t0, some (nb 0 0), some (cu x 0 0)] 2 0 0 rfl (st30 x 0 0) (by omega) (by omega)
  refine ⟨a, s, ms, T, ex, by omega, by omega, zl, zt, hT, e, ?_, ?_⟩
  · intro a' s'
    rcases hT with ⟨rfl, rfl, rfl⟩ | ⟨rfl, rfl⟩
    · exact stable_tv (id := 2) (st30 x a' s') (.inl ⟨rfl, rfl⟩)
    · have h1 := stable_leaf (st30 x a' s') (b := tr ms) ⟨rfl, fun _ => rfl⟩
      have h2 := stable_tv (id := 2) (ms := ms) (T := .sl 3 0 ms.length) h1 (.inr ⟨3, false, rfl, by decide, rfl⟩)
      rwa [List.append_assoc] at h2
  · intro a' s'
    rcases hT with ⟨rfl, rfl, rfl⟩ | ⟨rfl, rfl⟩
    · exact .inl ⟨rfl, rfl⟩
    · exact .inr ⟨3, false, rfl, by decide, rfl⟩
theorem drawRead (x : List Int) (hx : okC x) : ∃ (T : AV) (H : Hp) (ms : List ByteArray) (u v k : Int), ms.length ≤ 30 ∧ (∀ t ∈ ms, t.size ≤ 20) ∧ TabQ T H ms ∧ ev E0 5 [.lst 1 (cd x)] [] = some (.tup [.agg [T], .agg [i64 u, i64 v], i64 k], H) := by
  obtain ⟨a, s, ms, T, ex, p1, q1, zl, zt, hT, e1, hst, htm⟩ := pre_tab3 x hx
  obtain ⟨a2, s2, u, v, p2, q2, e2⟩ := noise7_ok x hx _ 2 a s rfl (hst a s) (by omega) (by omega)
  obtain ⟨a3, s3, k, p3, q3, e3⟩ := letter7_ok x hx _ 2 a2 s2 rfl (hst a2 s2) (by omega) (by omega) ms (by omega) T (htm a2 s2)
  have sc : ∀ (a' s' a'' s'' : Int) (R : Hp), ([some t0, some (nb 0 0), some (cu x a' s')] ++ R).set 2 (some (cu x a'' s'')) = [some t0, some (nb 0 0), some (cu x a'' s'')] ++ R := fun _ _ _ _ _ => rfl
  rw [sc] at e2 e3
  rcases hT with ⟨rfl, rfl, rfl⟩ | ⟨rfl, rfl⟩
  · refine ⟨_, _, [], u, v, k, zl, zt, .inl ⟨rfl, rfl, rfl⟩, ?_⟩
    simp only [tv, t0, nb, cu, tr, List.nil_append, List.cons_append] at e1 e2 e3
    rw [e5]
    unfold runF
    simp (maxSteps := 1000000) -implicitDefEqProofs [L5, e1, e2, e3]
  · refine ⟨_, _, ms, u, v, k, zl, zt, .inr ⟨rfl, rfl⟩, ?_⟩
    unfold tr
    simp only [tv, t0, nb, cu, tr, List.nil_append, List.cons_append] at e1 e2 e3
    rw [e5]
    unfold runF
    simp (maxSteps := 1000000) -implicitDefEqProofs [L5, e1, e2, e3]
theorem drawCR (x : List Int) (hx : okC x) : ∃ (T : AV) (H : Hp) (ms : List ByteArray) (u v k q : Int), ms.length ≤ 30 ∧ (∀ t ∈ ms, t.size ≤ 20) ∧ TabQ T H ms ∧ ev E0 16 [.lst 1 (cd x)] [] = some (.tup [.agg [T], .agg [i64 u, i64 v], i64 k, i64 q], H) := by
  obtain ⟨a, s, ms, T, ex, p1, q1, zl, zt, hT, e1, hst, htm⟩ := pre_tab3 x hx
  obtain ⟨a2, s2, u, v, p2, q2, e2⟩ := noise7_ok x hx _ 2 a s rfl (hst a s) (by omega) (by omega)
  obtain ⟨a3, s3, k, p3, q3, e3⟩ := letter7_ok x hx _ 2 a2 s2 rfl (hst a2 s2) (by omega) (by omega) ms (by omega) T (htm a2 s2)
  obtain ⟨a4, s4, q, p4, q4, e4⟩ := letter7_ok x hx _ 2 a3 s3 rfl (hst a3 s3) (by omega) (by omega) ms (by omega) T (htm a3 s3)
  have sc : ∀ (a' s' a'' s'' : Int) (R : Hp), ([some t0, some (nb 0 0), some (cu x a' s')] ++ R).set 2 (some (cu x a'' s'')) = [some t0, some (nb 0 0), some (cu x a'' s'')] ++ R := fun _ _ _ _ _ => rfl
  rw [sc] at e2 e3 e4
  rcases hT with ⟨rfl, rfl, rfl⟩ | ⟨rfl, rfl⟩
  · refine ⟨_, _, [], u, v, k, q, zl, zt, .inl ⟨rfl, rfl, rfl⟩, ?_⟩
    simp only [tv, t0, nb, cu, tr, List.nil_append, List.cons_append] at e1 e2 e3 e4
    rw [e16]
    unfold runF
    simp (maxSteps := 1000000) -implicitDefEqProofs [L16, e1, e2, e3, e4]
  · refine ⟨_, _, ms, u, v, k, q, zl, zt, .inr ⟨rfl, rfl⟩, ?_⟩
    unfold tr
    simp only [tv, t0, nb, cu, tr, List.nil_append, List.cons_append] at e1 e2 e3 e4
    rw [e16]
    unfold runF
    simp (maxSteps := 1000000) -implicitDefEqProofs [L16, e1, e2, e3, e4]
theorem drawSent (x : List Int) (hx : okC x) : ∃ (T : AV) (H : Hp) (ms : List ByteArray) (u v : Int) (t : ByteArray), ms.length ≤ 30 ∧ (∀ t ∈ ms, t.size ≤ 20) ∧ t.size ≤ 20 ∧ TabQ T H ms ∧ ev E0 10 [.lst 1 (cd x)] [] = some (.tup [.agg [T], .agg [i64 u, i64 v], st t], H) := by
  obtain ⟨a, s, ms, T, ex, p1, q1, zl, zt, hT, e1, hst, htm⟩ := pre_tab3 x hx
  obtain ⟨a2, s2, t, p2, q2, z2, e2⟩ := marks_ok x hx _ 2 a s rfl (hst a s) (by omega) (by omega) 5 (by decide)
  obtain ⟨a3, s3, f, p3, q3, e3⟩ := one_ok x hx _ 2 a2 s2 rfl (hst a2 s2) (by omega) (by omega) 2
  have sc : ∀ (a' s' a'' s'' : Int) (R : Hp), ([some t0, some (nb 0 0), some (cu x a' s')] ++ R).set 2 (some (cu x a'' s'')) = [some t0, some (nb 0 0), some (cu x a'' s'')] ++ R := fun _ _ _ _ _ => rfl
  rw [sc] at e2 e3
  rcases hT with ⟨rfl, rfl, rfl⟩ | ⟨rfl, rfl⟩
  · obtain ⟨a4, s4, u, v, p4, q4, e4⟩ := noise7_ok x hx _ 2 a2 s2 rfl (hst a2 s2) (by omega) (by omega)
    rw [sc] at e4
    refine ⟨_, _, [], u, v, t, zl, zt, z2, .inl ⟨rfl, rfl, rfl⟩, ?_⟩
    simp only [tv, t0, nb, cu, tr, List.nil_append, List.cons_append] at e1 e2 e3 e4
    rw [e10]
    unfold runF
    simp (maxSteps := 1000000) -implicitDefEqProofs [L10, e1, e2, e4]
  · by_cases hm0 : 0 < ms.length
    · have hm1 : (0 : Int) < (ms.length : Int) := by omega
      cases f with
      | false =>
        obtain ⟨a4, s4, u, v, p4, q4, e4⟩ := noise7_ok x hx _ 2 a3 s3 rfl (hst a3 s3) (by omega) (by omega)
        rw [sc] at e4
        refine ⟨_, _, ms, u, v, t, zl, zt, z2, .inr ⟨rfl, rfl⟩, ?_⟩
        unfold tr
        simp only [tv, t0, nb, cu, tr, List.nil_append, List.cons_append] at e1 e2 e3 e4
        rw [e10]
        unfold runF
        simp (maxSteps := 1000000) -implicitDefEqProofs [L10, e1, e2, e3, e4, hm0, hm1]
      | true =>
        obtain ⟨a5, s5, w, p5, q5, hw, e5⟩ := of_ok x hx _ 2 a3 s3 rfl (hst a3 s3) (by omega) (by omega) 3 (by decide) ms ms.length rfl hm0 rfl
        rw [sc] at e5
        obtain ⟨a4, s4, u, v, p4, q4, e4⟩ := noise7_ok x hx _ 2 a5 s5 rfl (hst a5 s5) (by omega) (by omega)
        rw [sc] at e4
        refine ⟨_, _, ms, u, v, w, zl, zt, zt w hw, .inr ⟨rfl, rfl⟩, ?_⟩
        unfold tr
        simp only [tv, t0, nb, cu, tr, List.nil_append, List.cons_append] at e1 e2 e3 e4 e5
        rw [e10]
        unfold runF
        simp (maxSteps := 1000000) -implicitDefEqProofs [L10, e1, e2, e3, e4, e5, hm0, hm1]
    · have hm2 : ms = [] := List.eq_nil_of_length_eq_zero (by omega)
      subst hm2
      obtain ⟨a4, s4, u, v, p4, q4, e4⟩ := noise7_ok x hx _ 2 a2 s2 rfl (hst a2 s2) (by omega) (by omega)
      rw [sc] at e4
      refine ⟨_, _, [], u, v, t, zl, zt, z2, .inr ⟨rfl, rfl⟩, ?_⟩
      simp only [tv, t0, nb, cu, tr, List.nil_append, List.cons_append, List.map_nil, List.length_nil] at e1 e2 e3 e4 ⊢
      rw [e10]
      unfold runF
      simp (maxSteps := 1000000) -implicitDefEqProofs [L10, e1, e2, e4]
theorem drawComes (x : List Int) (hx : okC x) : ∃ (u v : Int) (t w : ByteArray), t.size ≤ 20 ∧ w.size ≤ 20 ∧ ev E0 19 [.lst 1 (cd x)] [] = some (.tup [.agg [i64 u, i64 v], st t, st w], []) := by
  have hst : ∀ a s : Int, Stable [some (nb 0 0), some (cu x a s)] := fun a s => ⟨by simp [oldIds, nb, cu], rfl⟩
  have sc : ∀ (a' s' a'' s'' : Int), [some (nb 0 0), some (cu x a' s')].set 1 (some (cu x a'' s'')) = [some (nb 0 0), some (cu x a'' s'')] := fun _ _ _ _ => rfl
  obtain ⟨a1, s1, t, p1, q1, z1, e1⟩ := marks_ok x hx _ 1 0 0 rfl (hst 0 0) (by omega) (by omega) 5 (by decide)
  obtain ⟨a2, s2, w, p2, q2, z2, e2⟩ := marks_ok x hx _ 1 a1 s1 rfl (hst a1 s1) (by omega) (by omega) 5 (by decide)
  obtain ⟨a3, s3, f, p3, q3, e3⟩ := one_ok x hx _ 1 a2 s2 rfl (hst a2 s2) (by omega) (by omega) 2
  obtain ⟨a4, s4, g, p4, q4, e4⟩ := one_ok x hx _ 1 a3 s3 rfl (hst a3 s3) (by omega) (by omega) 3
  obtain ⟨a5, s5, u, v, p5, q5, e5⟩ := noise7_ok x hx _ 1 a4 s4 rfl (hst a4 s4) (by omega) (by omega)
  rw [sc] at e1 e2 e3 e4 e5
  unfold nb cu at e1 e2 e3 e4 e5
  have hz : ∀ n : Nat, (w.extract 0 n).size ≤ w.size := fun n => by rw [ByteArray.size_extract]; omega
  cases g with
  | true =>
    refine ⟨u, v, t, t, z1, z1, ?_⟩
    rw [e19]
    unfold runF
    cases f with
    | false => simp (maxSteps := 1000000) -implicitDefEqProofs [L19, e1, e2, e3, e4, e5]
    | true =>
      by_cases hl : (t.size : Int) < (w.size : Int)
      · have hl2 : t.size ≤ w.size := by omega
        have hl3 : (t.size : Int) ≤ (w.size : Int) := by omega
        simp (maxSteps := 1000000) -implicitDefEqProofs [L19, e1, e2, e3, e4, e5, hl, hl2, hl3]
      · simp (maxSteps := 1000000) -implicitDefEqProofs [L19, e1, e2, e3, e4, e5, hl]
  | false =>
    cases f with
    | false =>
      refine ⟨u, v, t, w, z1, z2, ?_⟩
      rw [e19]
      unfold runF
      simp (maxSteps := 1000000) -implicitDefEqProofs [L19, e1, e2, e3, e4, e5]
    | true =>
      by_cases hl : (t.size : Int) < (w.size : Int)
      · have hl2 : t.size ≤ w.size := by omega
        have hl3 : (t.size : Int) ≤ (w.size : Int) := by omega
        refine ⟨u, v, t, w.extract 0 t.size, z1, by have := hz t.size; omega, ?_⟩
        rw [e19]
        unfold runF
        simp (maxSteps := 1000000) -implicitDefEqProofs [L19, e1, e2, e3, e4, e5, hl, hl2, hl3]
      · refine ⟨u, v, t, w, z1, z2, ?_⟩
        rw [e19]
        unfold runF
        simp (maxSteps := 1000000) -implicitDefEqProofs [L19, e1, e2, e3, e4, e5, hl]
end Go.Proofs.YtpfefmofecmjjaaDoor.Ev.Dr
