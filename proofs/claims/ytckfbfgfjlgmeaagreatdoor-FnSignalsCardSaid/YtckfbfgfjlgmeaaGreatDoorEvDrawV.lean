/- The draws of tables with a letter, with letters, with marks, with weights. -/
import Derived.Test.YtckfbfgfjlgmeaaGreatDoorEvDrawU
set_option linter.unusedVariables false
set_option linter.unusedSimpArgs false
namespace Go.Proofs.YtckfbfgfjlgmeaaGreatDoor.Ev.Dr
theorem st1 (x : List Int) (a s : Int) : Stable [some t0, some (cu x a s)] := ⟨by simp [oldIds, t0, cu], rfl⟩
theorem st2 (x : List Int) (a s : Int) : Stable [some t0, some (cu x a s), some t0] := ⟨by simp [oldIds, t0, cu], rfl⟩
theorem st3 (x : List Int) (a s : Int) (ms : List ByteArray) (n : Nat) : Stable [some t0, some (cu x a s), some (tr ms), some (tc 2 n)] := ⟨by simp [oldIds, t0, cu, tr, tc], rfl⟩
/-- A table drawn by the first cursor: none, or one. -/
theorem pre_tab (x : List Int) (hx : okC x) (a0 s0 : Int) (h0 : 0 ≤ a0) (h1 : a0 ≤ 100000000000) : ∃ a s : Int, a0 ≤ a ∧ a ≤ a0 + 2000 ∧ (ev E0 102 [.ptr 1 0 0] [some t0, some (cu x a0 s0)] = some (.agg [.v (.slice none 0 0)], [some t0, some (cu x a s)]) ∨
    ∃ ms : List ByteArray, ms.length ≤ 30 ∧ (∀ t ∈ ms, t.size ≤ 20) ∧ ev E0 102 [.ptr 1 0 0] [some t0, some (cu x a0 s0)] = some (.agg [.sl 2 0 ms.length], [some t0, some (cu x a s), some (tr ms)])) := by
  obtain ⟨a, s, p1, p2, h⟩ := table_ok x hx [some t0, some (cu x a0 s0)] 1 a0 s0 rfl (st1 x a0 s0) h0 h1
  exact ⟨a, s, p1, p2, h⟩
theorem pick_at (x : List Int) (hx : okC x) (H : Hp) (a s : Int) (h : hget H 1 = some (cu x a s)) (hs : Stable H) (h0 : 0 ≤ a) (h1 : a ≤ 100000000000) (n : Int) :
    ∃ a' s' r : Int, a ≤ a' ∧ a' ≤ a + 2 ∧ 0 ≤ r ∧ (r < n ∨ r = 0) ∧ ev E0 81 [.ptr 1 0 0, i64 n] H = some (i64 r, H.set 1 (some (cu x a' s'))) := by
  obtain ⟨a', s', r, k⟩ := pick_ok x hx H 1 a s h hs h0 (by omega) n
  exact ⟨a', s', r, k⟩
/-- What a table is, behind a draw. -/
def TabR (T : AV) (H : Hp) : Prop := (T = .agg [.v (.slice none 0 0)] ∧ H = []) ∨ ∃ ms : List ByteArray, ms.length ≤ 30 ∧ (∀ t ∈ ms, t.size ≤ 20) ∧ T = .agg [.sl 0 0 ms.length] ∧ H = [some (tr ms)]
theorem drawMarks (x : List Int) (hx : okC x) : ∃ (T : AV) (H : Hp) (k : Int), TabR T H ∧ -10 ≤ k ∧ k ≤ 100 ∧ ev E0 36 [.lst 1 (cd x)] [] = some (.tup [T, i64 k], H) := by
  obtain ⟨a, s, p1, p2, h⟩ := pre_tab x hx 0 0 (by omega) (by omega)
  have tail : ∀ (H : Hp) (n : Int), hget H 1 = some (cu x a s) → (∀ a' s' : Int, Stable (H.set 1 (some (cu x a' s')))) → H.set 1 (some (cu x a s)) = H → 0 ≤ n → n ≤ 30 → ∃ a3 s3 r1 r2 r3, ∃ a1 s1 a2 s2 : Int, 0 ≤ r1 ∧ r1 ≤ 30 ∧ 0 ≤ r2 ∧ r2 < 24 ∧ 0 ≤ r3 ∧ r3 < 24 ∧
      ev E0 81 [.ptr 1 0 0, i64 (if n < 1 then 1 else n)] H = some (i64 r1, H.set 1 (some (cu x a1 s1))) ∧
      ev E0 81 [.ptr 1 0 0, i64 24] (H.set 1 (some (cu x a1 s1))) = some (i64 r2, H.set 1 (some (cu x a2 s2))) ∧
      ev E0 81 [.ptr 1 0 0, i64 24] (H.set 1 (some (cu x a2 s2))) = some (i64 r3, H.set 1 (some (cu x a3 s3))) := by
    intro H n hg hS hH hn0 hn
    have hid := id_lt hg
    obtain ⟨a1, s1, r1, q1, q2, q3, q4, e1⟩ := pick_at x hx H a s hg (by have := hS a s; rwa [hH] at this) (by omega) (by omega) (if n < 1 then 1 else n)
    obtain ⟨a2, s2, r2, u1, u2, u3, u4, e2⟩ := pick_at x hx (H.set 1 (some (cu x a1 s1))) a1 s1 (hget_cu hid) (hS _ _) (by omega) (by omega) 24
    obtain ⟨a3, s3, r3, v1, v2, v3, v4, e3⟩ := pick_at x hx (H.set 1 (some (cu x a2 s2))) a2 s2 (hget_cu (by simpa using hid)) (hS _ _) (by omega) (by omega) 24
    rw [List.set_set] at e2 e3
    refine ⟨a3, s3, r1, r2, r3, a1, s1, a2, s2, q3, ?_, u3, by omega, v3, by omega, e1, e2, e3⟩
    split at q4 <;> omega
  have hq : ∀ r : Int, 0 ≤ r → r < 24 → IntKind.i64.wrap (r.tdiv 23) = r / 23 := by
    intro r r0 r1
    rw [Int.tdiv_eq_ediv_of_nonneg r0]
    exact wr64 (by omega) (by omega)
  have hw1 : ∀ r1 r2 : Int, 0 ≤ r1 → r1 ≤ 30 → 0 ≤ r2 → r2 < 24 → IntKind.i64.wrap (r1 + r2 / 23) = r1 + r2 / 23 := fun r1 r2 _ _ _ _ => wr64 (by omega) (by omega)
  have hw2 : ∀ r1 r2 r3 : Int, 0 ≤ r1 → r1 ≤ 30 → 0 ≤ r2 → r2 < 24 → 0 ≤ r3 → r3 < 24 → IntKind.i64.wrap (r1 + r2 / 23 - r3 / 23) = r1 + r2 / 23 - r3 / 23 := fun r1 r2 r3 _ _ _ _ _ _ => wr64 (by omega) (by omega)
  rcases h with h | ⟨ms, z1, z2, h⟩
  · obtain ⟨a3, s3, r1, r2, r3, a1, s1, a2, s2, b1, b2, b3, b4, b5, b6, e1, e2, e3⟩ := tail [some t0, some (cu x a s), some t0] 0 rfl (fun a' s' => st2 x a' s') rfl (by omega) (by omega)
    refine ⟨.agg [.v (.slice none 0 0)], [], r1 + r2 / 23 - r3 / 23, .inl ⟨rfl, rfl⟩, by omega, by omega, ?_⟩
    rw [e36]
    unfold runF
    simp only [List.set_cons_succ, List.set_cons_zero, t0, cu] at h e1 e2 e3
    have m1 := most_d 1 0
    rw [show (if (0 : Int) < 1 then (1 : Int) else 0) = 1 from rfl] at m1 e1
    have k2 := hq r2 b3 b4
    have k3 := hq r3 b5 b6
    have k4 := hw1 r1 r2 b1 b2 b3 b4
    have k5 := hw2 r1 r2 r3 b1 b2 b3 b4 b5 b6
    simp -implicitDefEqProofs [L36, h, m1, e1, e2, e3, k2, k3, k4, k5]
  · obtain ⟨a3, s3, r1, r2, r3, a1, s1, a2, s2, b1, b2, b3, b4, b5, b6, e1, e2, e3⟩ := tail [some t0, some (cu x a s), some (tr ms), some (tc 2 ms.length)] ms.length rfl (fun a' s' => st3 x a' s' ms ms.length) rfl (by omega) (by omega)
    refine ⟨.agg [.sl 0 0 ms.length], [some (tr ms)], r1 + r2 / 23 - r3 / 23, .inr ⟨ms, z1, z2, rfl, rfl⟩, by omega, by omega, ?_⟩
    rw [e36]
    unfold runF
    simp only [List.set_cons_succ, List.set_cons_zero, t0, cu, tr, tc] at h e1 e2 e3 ⊢
    have m1 := most_d 1 ms.length
    have k2 := hq r2 b3 b4
    have k3 := hq r3 b5 b6
    have k4 := hw1 r1 r2 b1 b2 b3 b4
    have k5 := hw2 r1 r2 r3 b1 b2 b3 b4 b5 b6
    generalize hM : (if (ms.length : Int) < 1 then (1 : Int) else (ms.length : Int)) = mm at m1 e1
    simp -implicitDefEqProofs [L36, h, m1, e1, e2, e3, k2, k3, k4, k5]
/-- What a table and numbers are, behind a draw. -/
def TabL (T L : AV) (H : Hp) (r : List Int) : Prop := (T = .agg [.v (.slice none 0 0)] ∧ L = .sl 0 0 r.length ∧ H = [some (ib r)]) ∨ ∃ ms : List ByteArray, ms.length ≤ 30 ∧ (∀ t ∈ ms, t.size ≤ 20) ∧ T = .agg [.sl 0 0 ms.length] ∧ L = .sl 1 0 r.length ∧ H = [some (tr ms), some (ib r)]
end Go.Proofs.YtckfbfgfjlgmeaaGreatDoor.Ev.Dr
