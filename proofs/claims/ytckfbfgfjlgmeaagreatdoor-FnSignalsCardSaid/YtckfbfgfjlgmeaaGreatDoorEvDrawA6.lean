/- The draws of the laws on mistakes. -/
import Derived.Test.YtckfbfgfjlgmeaaGreatDoorEvDrawV
set_option linter.unusedVariables false
set_option linter.unusedSimpArgs false
namespace Go.Proofs.YtckfbfgfjlgmeaaGreatDoor.Ev.Dr
def apt : List ByteArray := [⟨#[46, 46, 46]⟩, ⟨#[45, 45, 45]⟩, ⟨#[46, 46, 46, 46, 46]⟩, ⟨#[45, 45, 45, 45, 45]⟩, ⟨#[46]⟩, ⟨#[45, 46, 45, 46, 45]⟩, ⟨#[46, 46, 45, 45]⟩, ⟨#[45, 45, 46, 46]⟩]
theorem stA (x : List Int) (a s : Int) (n : Nat) (ms l : List ByteArray) : Stable [some t0, some (cu x a s), some t0, some (tc 4 n), some (tr ms), some (tr l)] := ⟨by simp [oldIds, t0, cu, tc, tr], rfl⟩
def am4 : List Int := [2, 3, 2, 4]
theorem stA2 (x : List Int) (a s : Int) (l : List Int) : Stable [some t0, some (cu x a s), some t0, some (tr []), some (tc 3 0), some (⟨3, 1, 1, false, l.map i64⟩ : Blk)] := ⟨by simp [oldIds, t0, cu, tc, tr], rfl⟩
theorem drawTable (x : List Int) (hx : okC x) : ∃ (T : AV) (H : Hp), TabR T H ∧ ev E0 93 [.lst 1 (cd x)] [] = some (T, H) := by
  obtain ⟨a, s, p1, p2, h⟩ := pre_tab x hx 0 0 (by omega) (by omega)
  rcases h with e | ⟨ms, m1, m2, e⟩
  · refine ⟨_, _, .inl ⟨rfl, rfl⟩, ?_⟩
    simp only [t0, cu] at e
    rw [e93]
    unfold runF
    simp -implicitDefEqProofs [L93, e]
  · refine ⟨_, _, .inr ⟨ms, m1, m2, rfl, rfl⟩, ?_⟩
    simp only [t0, cu, tr] at e ⊢
    rw [e93]
    unfold runF
    simp -implicitDefEqProofs [L93, e]
def am11 : List Int := [0, 1, 2, 0, 1, 2, 3, -1, 0, 1, 2]
theorem drawSwap (x : List Int) (hx : okC x) : ∃ (T : AV) (H : Hp) (k q : Int), TabR T H ∧ ev E0 44 [.lst 1 (cd x)] [] = some (.tup [T, i64 k, i64 q], H) := by
  obtain ⟨a, s, p1, p2, h⟩ := pre_tab x hx 0 0 (by omega) (by omega)
  have hq : ∀ r : Int, 0 ≤ r → r < 24 → IntKind.i64.wrap (r.tdiv 23) = r / 23 := by
    intro r r0 r1
    rw [Int.tdiv_eq_ediv_of_nonneg r0]
    exact wr64 (by omega) (by omega)
  have tail : ∀ (H : Hp) (n : Int), hget H 1 = some (cu x a s) → (∀ a' s' : Int, Stable (H.set 1 (some (cu x a' s')))) → H.set 1 (some (cu x a s)) = H → 0 ≤ n → n ≤ 30 → ∃ r1 r2 r3 r4 a1 s1 a2 s2 a3 s3 a4 s4 : Int, 0 ≤ r1 ∧ r1 ≤ 30 ∧ 0 ≤ r2 ∧ r2 < 24 ∧ 0 ≤ r3 ∧ r3 ≤ 30 ∧ 0 ≤ r4 ∧ r4 < 24 ∧
      ev E0 81 [.ptr 1 0 0, i64 (if n < 1 then 1 else n)] H = some (i64 r1, H.set 1 (some (cu x a1 s1))) ∧
      ev E0 81 [.ptr 1 0 0, i64 24] (H.set 1 (some (cu x a1 s1))) = some (i64 r2, H.set 1 (some (cu x a2 s2))) ∧
      ev E0 81 [.ptr 1 0 0, i64 (if n < 1 then 1 else n)] (H.set 1 (some (cu x a2 s2))) = some (i64 r3, H.set 1 (some (cu x a3 s3))) ∧
      ev E0 81 [.ptr 1 0 0, i64 24] (H.set 1 (some (cu x a3 s3))) = some (i64 r4, H.set 1 (some (cu x a4 s4))) := by
    intro H n hg hS hH hn0 hn
    have hid := id_lt hg
    obtain ⟨a1, s1, r1, q1, q2, q3, q4, e1⟩ := pick_at x hx H a s hg (by have := hS a s; rwa [hH] at this) (by omega) (by omega) (if n < 1 then 1 else n)
    obtain ⟨a2, s2, r2, u1, u2, u3, u4, e2⟩ := pick_at x hx (H.set 1 (some (cu x a1 s1))) a1 s1 (hget_cu hid) (hS _ _) (by omega) (by omega) 24
    obtain ⟨a3, s3, r3, v1, v2, v3, v4, e3⟩ := pick_at x hx (H.set 1 (some (cu x a2 s2))) a2 s2 (hget_cu (by simpa using hid)) (hS _ _) (by omega) (by omega) (if n < 1 then 1 else n)
    obtain ⟨a4, s4, r4, w1, w2, w3, w4, e4⟩ := pick_at x hx (H.set 1 (some (cu x a3 s3))) a3 s3 (hget_cu (by simpa using hid)) (hS _ _) (by omega) (by omega) 24
    rw [List.set_set] at e2 e3 e4
    refine ⟨r1, r2, r3, r4, a1, s1, a2, s2, a3, s3, a4, s4, q3, ?_, u3, by omega, v3, ?_, w3, by omega, e1, e2, e3, e4⟩
    · split at q4 <;> omega
    · split at v4 <;> omega
  rcases h with h | ⟨ms, z1, z2, h⟩
  · obtain ⟨r1, r2, r3, r4, a1, s1, a2, s2, a3, s3, a4, s4, b1, b2, b3, b4, b5, b6, b7, b8, e1, e2, e3, e4⟩ := tail [some t0, some (cu x a s), some t0] 0 rfl (fun a' s' => st2 x a' s') rfl (by omega) (by omega)
    refine ⟨.agg [.v (.slice none 0 0)], [], r1 - r2 / 23, r3 + r4 / 23, .inl ⟨rfl, rfl⟩, ?_⟩
    rw [e44]
    unfold runF
    simp only [List.set_cons_succ, List.set_cons_zero, t0, cu] at h e1 e2 e3 e4
    have m1 := most_d 1 0
    rw [show (if (0 : Int) < 1 then (1 : Int) else 0) = 1 from rfl] at m1 e1 e3
    have k2 := hq r2 b3 b4
    have k4 := hq r4 b7 b8
    have k5 : IntKind.i64.wrap (r1 - r2 / 23) = r1 - r2 / 23 := wr64 (by omega) (by omega)
    have k6 : IntKind.i64.wrap (r3 + r4 / 23) = r3 + r4 / 23 := wr64 (by omega) (by omega)
    simp (maxSteps := 1000000) -implicitDefEqProofs [L44, h, m1, e1, e2, e3, e4, k2, k4, k5, k6]
  · obtain ⟨r1, r2, r3, r4, a1, s1, a2, s2, a3, s3, a4, s4, b1, b2, b3, b4, b5, b6, b7, b8, e1, e2, e3, e4⟩ := tail [some t0, some (cu x a s), some (tr ms), some (tc 2 ms.length)] ms.length rfl (fun a' s' => st3 x a' s' ms ms.length) rfl (by omega) (by omega)
    refine ⟨.agg [.sl 0 0 ms.length], [some (tr ms)], r1 - r2 / 23, r3 + r4 / 23, .inr ⟨ms, z1, z2, rfl, rfl⟩, ?_⟩
    rw [e44]
    unfold runF
    simp only [List.set_cons_succ, List.set_cons_zero, t0, cu, tr, tc] at h e1 e2 e3 e4 ⊢
    have m1 := most_d 1 ms.length
    have k2 := hq r2 b3 b4
    have k4 := hq r4 b7 b8
    have k5 : IntKind.i64.wrap (r1 - r2 / 23) = r1 - r2 / 23 := wr64 (by omega) (by omega)
    have k6 : IntKind.i64.wrap (r3 + r4 / 23) = r3 + r4 / 23 := wr64 (by omega) (by omega)
    generalize hM : (if (ms.length : Int) < 1 then (1 : Int) else (ms.length : Int)) = mm at m1 e1 e3
    simp (maxSteps := 1000000) -implicitDefEqProofs [L44, h, m1, e1, e2, e3, e4, k2, k4, k5, k6]
end Go.Proofs.YtckfbfgfjlgmeaaGreatDoor.Ev.Dr
