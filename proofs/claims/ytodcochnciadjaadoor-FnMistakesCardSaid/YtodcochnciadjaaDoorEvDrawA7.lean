/- The draws of the law on mistakes. -/
import Derived.Test.YtodcochnciadjaaDoorEvDrawA6
import Derived.Test.YtodcochnciadjaaDoorEvDrawM
set_option linter.unusedVariables false
set_option linter.unusedSimpArgs false
namespace Go.Proofs.YtodcochnciadjaaDoor.Ev.Dr
theorem stC (x : List Int) (a s : Int) : Stable [some (cu x a s)] := ⟨by simp [oldIds, cu], rfl⟩
theorem drawMD (x : List Int) (hx : okC x) : ∃ (m k : ByteArray), m.size ≤ 20 ∧ k.size ≤ 20 ∧ ev E0 34 [.lst 1 (cd x)] [] = some (.tup [st m, st k], []) := by
  obtain ⟨a1, s1, m, p1, q1, z1, e1⟩ := marks_ok x hx [some (cu x 0 0)] 0 0 0 rfl (stC x 0 0) (by omega) (by omega) 5 (by omega)
  obtain ⟨a2, s2, b, p2, q2, e2⟩ := one_ok x hx [some (cu x a1 s1)] 0 a1 s1 rfl (stC x a1 s1) (by omega) (by omega) 8
  cases b with
  | true =>
    refine ⟨m, ⟨#[]⟩, z1, by decide, ?_⟩
    simp only [cu, List.set_cons_zero] at e1 e2
    rw [e34]
    unfold runF
    simp -implicitDefEqProofs [L34, e1, e2]
  | false =>
    obtain ⟨a3, s3, k, p3, q3, z3, e3⟩ := marks_ok x hx [some (cu x a2 s2)] 0 a2 s2 rfl (stC x a2 s2) (by omega) (by omega) 5 (by omega)
    refine ⟨m, k, z1, z3, ?_⟩
    simp only [cu, List.set_cons_zero] at e1 e2 e3
    rw [e34]
    unfold runF
    simp -implicitDefEqProofs [L34, e1, e2, e3]
theorem drawNear (x : List Int) (hx : okC x) : ∃ (T : AV) (H : Hp) (m : ByteArray), TabR T H ∧ m.size ≤ 20 ∧ ev E0 36 [.lst 1 (cd x)] [] = some (.tup [T, st m], H) := by
  obtain ⟨a, s, p1, p2, h⟩ := pre_tab x hx 0 0 (by omega) (by omega)
  rcases h with e | ⟨ms, m1, m2, e⟩
  · obtain ⟨a2, s2, b, p2, q2, e2⟩ := one_ok x hx [some t0, some (cu x a s), some t0] 1 a s rfl (st2 x a s) (by omega) (by omega) 12
    obtain ⟨a3, s3, k, p3, q3, z3, e3⟩ := marks_ok x hx [some t0, some (cu x a2 s2), some t0] 1 a2 s2 rfl (st2 x a2 s2) (by omega) (by omega) 5 (by omega)
    simp only [t0, cu, List.set_cons_succ, List.set_cons_zero] at e e2 e3
    cases b with
    | true =>
      refine ⟨_, _, ⟨#[]⟩, .inl ⟨rfl, rfl⟩, by decide, ?_⟩
      rw [e36]
      unfold runF
      simp -implicitDefEqProofs [L36, e, e2]
    | false =>
      refine ⟨_, _, k, .inl ⟨rfl, rfl⟩, z3, ?_⟩
      rw [e36]
      unfold runF
      simp -implicitDefEqProofs [L36, e, e2, e3]
  · obtain ⟨a2, s2, b, p2, q2, e2⟩ := one_ok x hx [some t0, some (cu x a s), some (tr ms), some (tc 2 ms.length)] 1 a s rfl (st3 x a s ms ms.length) (by omega) (by omega) 12
    obtain ⟨a3, s3, k, p3, q3, z3, e3⟩ := marks_ok x hx [some t0, some (cu x a2 s2), some (tr ms), some (tc 2 ms.length)] 1 a2 s2 rfl (st3 x a2 s2 ms ms.length) (by omega) (by omega) 5 (by omega)
    simp only [t0, cu, tr, tc, List.set_cons_succ, List.set_cons_zero] at e e2 e3
    cases b with
    | true =>
      refine ⟨_, _, ⟨#[]⟩, .inr ⟨ms, m1, m2, rfl, rfl⟩, by decide, ?_⟩
      unfold tr
      rw [e36]
      unfold runF
      simp -implicitDefEqProofs [L36, e, e2]
    | false =>
      refine ⟨_, _, k, .inr ⟨ms, m1, m2, rfl, rfl⟩, z3, ?_⟩
      unfold tr
      rw [e36]
      unfold runF
      simp -implicitDefEqProofs [L36, e, e2, e3]
theorem st4 (x : List Int) (a s : Int) (ms qs : List ByteArray) (n : Nat) : Stable [some t0, some (cu x a s), some (tr ms), some (tc 2 n), some (tr qs)] := ⟨by simp [oldIds, t0, cu, tr, tc], rfl⟩
theorem st5 (x : List Int) (a s : Int) (qs : List ByteArray) : Stable [some t0, some (cu x a s), some t0, some (tr qs)] := ⟨by simp [oldIds, t0, cu, tr, tc], rfl⟩
theorem drawRead (x : List Int) (hx : okC x) : ∃ (T : AV) (H : Hp) (m : ByteArray), TabR T H ∧ m.size ≤ 300 ∧ ev E0 43 [.lst 1 (cd x)] [] = some (.tup [T, st m], H) := by
  obtain ⟨a, s, p1, p2, h⟩ := pre_tab x hx 0 0 (by omega) (by omega)
  rcases h with e | ⟨ms, m1, m2, e⟩
  · obtain ⟨a2, s2, b, p2, q2, e2⟩ := one_ok x hx [some t0, some (cu x a s), some t0] 1 a s rfl (st2 x a s) (by omega) (by omega) 2
    cases b with
    | true =>
      obtain ⟨a3, s3, p3, q3, h3⟩ := table_ok x hx [some t0, some (cu x a2 s2), some t0] 1 a2 s2 rfl (st2 x a2 s2) (by omega) (by omega)
      rcases h3 with e3 | ⟨qs, n1, n2, e3⟩
      · obtain ⟨a4, s4, k, p4, q4, z4, e4⟩ := signal_ok x hx [some t0, some (cu x a3 s3), some t0] 1 a3 s3 rfl (st2 x a3 s3) (by omega) (by omega) [] (by simp) (by simp) (.v (.slice none 0 0)) (.inl ⟨rfl, rfl⟩)
        refine ⟨_, _, k, .inl ⟨rfl, rfl⟩, z4, ?_⟩
        simp only [t0, cu, List.set_cons_succ, List.set_cons_zero] at e e2 e3 e4
        rw [e43]
        unfold runF
        simp -implicitDefEqProofs [L43, e, e2, e3, e4]
      · obtain ⟨a4, s4, k, p4, q4, z4, e4⟩ := signal_ok x hx [some t0, some (cu x a3 s3), some t0, some (tr qs)] 1 a3 s3 rfl (st5 x a3 s3 qs) (by omega) (by omega) qs (by omega) n2 (.sl 3 0 qs.length) (.inr ⟨3, false, rfl, by decide, rfl⟩)
        refine ⟨_, _, k, .inl ⟨rfl, rfl⟩, z4, ?_⟩
        simp only [t0, cu, tr, List.set_cons_succ, List.set_cons_zero, List.cons_append, List.nil_append, List.length_cons, List.length_nil, Nat.zero_add, Nat.reduceAdd] at e e2 e3 e4
        rw [e43]
        unfold runF
        simp -implicitDefEqProofs [L43, e, e2, e3, e4]
    | false =>
      obtain ⟨a4, s4, k, p4, q4, z4, e4⟩ := signal_ok x hx [some t0, some (cu x a2 s2), some t0] 1 a2 s2 rfl (st2 x a2 s2) (by omega) (by omega) [] (by simp) (by simp) (.v (.slice none 0 0)) (.inl ⟨rfl, rfl⟩)
      refine ⟨_, _, k, .inl ⟨rfl, rfl⟩, z4, ?_⟩
      simp only [t0, cu, List.set_cons_succ, List.set_cons_zero] at e e2 e4
      rw [e43]
      unfold runF
      simp -implicitDefEqProofs [L43, e, e2, e4]
  · obtain ⟨a2, s2, b, p2, q2, e2⟩ := one_ok x hx [some t0, some (cu x a s), some (tr ms), some (tc 2 ms.length)] 1 a s rfl (st3 x a s ms ms.length) (by omega) (by omega) 2
    cases b with
    | true =>
      obtain ⟨a3, s3, p3, q3, h3⟩ := table_ok x hx [some t0, some (cu x a2 s2), some (tr ms), some (tc 2 ms.length)] 1 a2 s2 rfl (st3 x a2 s2 ms ms.length) (by omega) (by omega)
      rcases h3 with e3 | ⟨qs, n1, n2, e3⟩
      · obtain ⟨a4, s4, k, p4, q4, z4, e4⟩ := signal_ok x hx [some t0, some (cu x a3 s3), some (tr ms), some (tc 2 ms.length)] 1 a3 s3 rfl (st3 x a3 s3 ms ms.length) (by omega) (by omega) [] (by simp) (by simp) (.v (.slice none 0 0)) (.inl ⟨rfl, rfl⟩)
        refine ⟨_, _, k, .inr ⟨ms, m1, m2, rfl, rfl⟩, z4, ?_⟩
        simp only [t0, cu, tr, tc, List.set_cons_succ, List.set_cons_zero] at e e2 e3 e4 ⊢
        rw [e43]
        unfold runF
        simp -implicitDefEqProofs [L43, e, e2, e3, e4]
      · obtain ⟨a4, s4, k, p4, q4, z4, e4⟩ := signal_ok x hx [some t0, some (cu x a3 s3), some (tr ms), some (tc 2 ms.length), some (tr qs)] 1 a3 s3 rfl (st4 x a3 s3 ms qs ms.length) (by omega) (by omega) qs (by omega) n2 (.sl 4 0 qs.length) (.inr ⟨4, false, rfl, by decide, rfl⟩)
        refine ⟨_, _, k, .inr ⟨ms, m1, m2, rfl, rfl⟩, z4, ?_⟩
        simp only [t0, cu, tr, tc, List.set_cons_succ, List.set_cons_zero, List.cons_append, List.nil_append, List.length_cons, List.length_nil, Nat.zero_add, Nat.reduceAdd] at e e2 e3 e4 ⊢
        rw [e43]
        unfold runF
        simp -implicitDefEqProofs [L43, e, e2, e3, e4]
    | false =>
      obtain ⟨a4, s4, k, p4, q4, z4, e4⟩ := signal_ok x hx [some t0, some (cu x a2 s2), some (tr ms), some (tc 2 ms.length)] 1 a2 s2 rfl (st3 x a2 s2 ms ms.length) (by omega) (by omega) ms (by omega) m2 (.sl 2 0 ms.length) (.inr ⟨2, false, rfl, by decide, rfl⟩)
      refine ⟨_, _, k, .inr ⟨ms, m1, m2, rfl, rfl⟩, z4, ?_⟩
      simp only [t0, cu, tr, tc, List.set_cons_succ, List.set_cons_zero] at e e2 e4 ⊢
      rw [e43]
      unfold runF
      simp -implicitDefEqProofs [L43, e, e2, e4]
end Go.Proofs.YtodcochnciadjaaDoor.Ev.Dr
