/- The draws of the law on readings. -/
import Derived.Test.YtkdfgjijmnaljaaDoorEvDrawB2
import Derived.Test.YtkdfgjijmnaljaaDoorEvRdF
set_option linter.unusedVariables false
set_option linter.unusedSimpArgs false
namespace Go.Proofs.YtkdfgjijmnaljaaDoor.Ev.Dr
theorem table_nil : ev E0 58 [.agg [.v (.slice none 0 0)]] [] = some (bl false, []) := by
  rw [e58]
  unfold runF
  simp -implicitDefEqProofs [L58, in_s]
theorem good_nil (s : ByteArray) : ev E0 32 [.agg [.v (.slice none 0 0)], st s] [] = some (bl false, []) := by
  have h := table_nil
  rw [e32]
  unfold runF
  simp -implicitDefEqProofs [L32, h]
theorem count_nil (s : ByteArray) : ev E0 18 [.agg [.v (.slice none 0 0)], st s] [] = some (.tup [i64 0, bl false], []) := by
  have h := good_nil s
  rw [e18]
  unfold runF
  simp -implicitDefEqProofs [L18, h]
theorem among_ls (x : List Int) (hx : okC x) (H : Hp) (id : Nat) (a s : Int) (h : hget H id = some (cu x a s)) (hs : Stable H) (h0 : 0 ≤ a) (h1 : a ≤ 549755813888) (l : List Int) (hp : 0 < l.length) :
    ∃ (a' s' : Int) (t : Int), a ≤ a' ∧ a' ≤ a + 2 ∧ t ∈ l ∧ ev E0 45 [.ptr id 0 0, .lst 1 (l.map i64)] H = some (i64 t, H.set id (some (cu x a' s'))) := by
  obtain ⟨a', s', r, k1, k2, r0, r1, e⟩ := pick_ok x hx H id a s h hs h0 h1 l.length
  obtain ⟨k, rfl⟩ : ∃ k : Nat, r = k := ⟨r.toNat, by omega⟩
  have hk : k < l.length := by omega
  refine ⟨a', s', l[k], k1, k2, List.getElem_mem hk, ?_⟩
  have hx2 : l[k]? = some l[k] := List.getElem?_eq_getElem hk
  generalize l[k] = t at *
  have hx3 : ∀ h, l[k]'h = t := fun h => (List.getElem?_eq_some_iff.1 hx2).2
  have hki : (k : Int) < (l.length : Int) := by omega
  have pk2 := pk_cu h hs
  rw [e45]
  unfold runF
  simp -implicitDefEqProofs [L45, e, hx3, hk, hki, -pack, -packH, pk2]
def odds : List Int := [0, -1, 4611686018427387904]
theorem drawRA (x : List Int) (hx : okC x) : ∃ (m : ByteArray) (k : Int), m.size ≤ 100 ∧ (ev E0 16 [.lst 1 (cd x)] [] = some (.tup [.agg [.v (.slice none 0 0)], st m, i64 k], []) ∨
    ∃ ms : List ByteArray, ms.length ≤ 30 ∧ (∀ t ∈ ms, t.size ≤ 20) ∧ ev E0 16 [.lst 1 (cd x)] [] = some (.tup [.agg [.sl 0 0 ms.length], st m, i64 k], [some (tr ms)])) := by
  obtain ⟨a1, s1, p1, q1, e1⟩ := free_ok x hx 0 0 (by omega) (by omega)
  rcases e1 with e1 | ⟨ms, m1, m2, e1⟩
  · have hsA : ∀ a s : Int, Stable [some t0, some (cu x a s), some t0] := fun a s => stable_leaves (H := []) ⟨by simp [oldIds], rfl⟩ [t0, cu x a s, t0] (by
      intro q hq
      simp at hq
      rcases hq with rfl | rfl | rfl <;> exact ⟨rfl, fun _ => rfl⟩)
    obtain ⟨a2, s2, m, p2, q2, zm, e2⟩ := bare_ok x hx [some t0, some (cu x a1 s1), some t0] 1 a1 s1 rfl (hsA a1 s1) (by omega) (by omega) [] (by simp) (by simp) (.v (.slice none 0 0)) (.inl ⟨rfl, rfl⟩)
    have ec := count_nil m
    obtain ⟨a3, s3, k, p3, q3, hk, e3⟩ := among_ls x hx [some t0, some (cu x a2 s2), some t0] 1 a2 s2 rfl (hsA a2 s2) (by omega) (by omega) odds (by decide)
    refine ⟨m, k, zm, .inl ?_⟩
    simp only [t0, tr, cu, odds, List.map_cons, List.map_nil, List.set_cons_succ, List.set_cons_zero] at e1 e2 e3
    rw [e16]
    unfold runF
    simp (maxSteps := 1000000) -implicitDefEqProofs [L16, e1, e2, ec, e3]
  · have hsB : ∀ a s : Int, Stable ([some t0, some (cu x a s), some (tr ms)] ++ [some (tv (.sl 2 0 ms.length))]) := fun a s => stable_tv (id := 1) (ms := ms) (stable_leaves (H := []) ⟨by simp [oldIds], rfl⟩ [t0, cu x a s, tr ms] (by
      intro q hq
      simp at hq
      rcases hq with rfl | rfl | rfl <;> exact ⟨rfl, fun _ => rfl⟩)) (.inr ⟨2, rfl, by decide, rfl⟩)
    obtain ⟨a2, s2, m, p2, q2, zm, e2⟩ := bare_ok x hx [some t0, some (cu x a1 s1), some (tr ms), some (tv (.sl 2 0 ms.length))] 1 a1 s1 rfl (hsB a1 s1) (by omega) (by omega) ms (by omega) m2 (.sl 2 0 ms.length) (.inr ⟨2, rfl, by decide, rfl⟩)
    have ec := count_s ms (by omega) (fun t ht => by have := m2 t ht; omega) m (by omega)
    have htk : List.take ms.length (ms.map st) = ms.map st := List.take_of_length_le (by simp)
    obtain ⟨y, hy⟩ : ∃ y : Nat, y = (if okRead ms m = true then rds ms m else 0) := ⟨_, rfl⟩
    rw [← hy] at ec
    obtain ⟨a3, s3, b, p3, q3, e3⟩ := one_ok x hx [some t0, some (cu x a2 s2), some (tr ms), some (tv (.sl 2 0 ms.length))] 1 a2 s2 rfl (hsB a2 s2) (by omega) (by omega) 6
    have odd : ∀ a s : Int, 0 ≤ a → a ≤ 100000 → ∃ (a' s' : Int) (k : Int), ev E0 45 [.ptr 1 0 0, .lst 1 (odds.map i64)] [some t0, some (cu x a s), some (tr ms), some (tv (.sl 2 0 ms.length))] = some (i64 k, [some t0, some (cu x a' s'), some (tr ms), some (tv (.sl 2 0 ms.length))]) := by
      intro a s h0 h1
      obtain ⟨a', s', k, _, _, _, e⟩ := among_ls x hx [some t0, some (cu x a s), some (tr ms), some (tv (.sl 2 0 ms.length))] 1 a s rfl (hsB a s) h0 (by omega) odds (by decide)
      exact ⟨a', s', k, e⟩
    by_cases hc : okRead ms m = true ∧ 0 < y ∧ b = false
    · obtain ⟨c1, c2, c3⟩ := hc
      subst c3
      obtain ⟨a4, s4, r, p4, q4, r0, r1, e4⟩ := pick_ok x hx [some t0, some (cu x a3 s3), some (tr ms), some (tv (.sl 2 0 ms.length))] 1 a3 s3 rfl (hsB a3 s3) (by omega) (by omega) 1000
      refine ⟨m, Int.tmod r (y : Int), zm, .inr ⟨ms, m1, m2, ?_⟩⟩
      have y0 : (0 : Int) < (y : Int) := by omega
      have y1 : ¬ y = 0 := by omega
      rw [c1] at ec
      simp only [t0, tr, tv, cu, List.set_cons_succ, List.set_cons_zero] at e1 e2 e3 e4 ⊢
      rw [e16]
      unfold runF
      simp (maxSteps := 1000000) -implicitDefEqProofs [L16, e1, e2, ec, htk, c2, y0, y1, e3, e4]
    · by_cases c1 : okRead ms m = true
      · by_cases c2 : 0 < y
        · have c3 : b = true := by cases b with
            | true => rfl
            | false => exact absurd ⟨c1, c2, rfl⟩ hc
          subst c3
          obtain ⟨a4, s4, k, e4⟩ := odd a3 s3 (by omega) (by omega)
          refine ⟨m, k, zm, .inr ⟨ms, m1, m2, ?_⟩⟩
          have y0 : (0 : Int) < (y : Int) := by omega
          rw [c1] at ec
          simp only [t0, tr, tv, cu, odds, List.map_cons, List.map_nil, List.set_cons_succ, List.set_cons_zero] at e1 e2 e3 e4 ⊢
          rw [e16]
          unfold runF
          simp (maxSteps := 1000000) -implicitDefEqProofs [L16, e1, e2, ec, htk, c2, y0, e3, e4]
        · obtain ⟨a4, s4, k, e4⟩ := odd a2 s2 (by omega) (by omega)
          refine ⟨m, k, zm, .inr ⟨ms, m1, m2, ?_⟩⟩
          have y0 : y = 0 := by omega
          rw [c1, y0] at ec
          simp only [t0, tr, tv, cu, odds, List.map_cons, List.map_nil, List.set_cons_succ, List.set_cons_zero] at e1 e2 e4 ⊢
          rw [e16]
          unfold runF
          simp (maxSteps := 1000000) -implicitDefEqProofs [L16, e1, e2, ec, htk, e4]
      · obtain ⟨a4, s4, k, e4⟩ := odd a2 s2 (by omega) (by omega)
        refine ⟨m, k, zm, .inr ⟨ms, m1, m2, ?_⟩⟩
        have c1' : okRead ms m = false := by simpa using c1
        rw [c1'] at ec
        simp only [t0, tr, tv, cu, odds, List.map_cons, List.map_nil, List.set_cons_succ, List.set_cons_zero] at e1 e2 e4 ⊢
        rw [e16]
        unfold runF
        simp (maxSteps := 1000000) -implicitDefEqProofs [L16, e1, e2, ec, htk, e4]
end Go.Proofs.YtkdfgjijmnaljaaDoor.Ev.Dr
