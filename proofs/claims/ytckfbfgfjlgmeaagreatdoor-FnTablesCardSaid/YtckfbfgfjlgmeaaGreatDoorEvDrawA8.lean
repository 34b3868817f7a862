/- The draws of the law on tables. -/
import Derived.Test.YtckfbfgfjlgmeaaGreatDoorEvDrawA6
import Derived.Test.YtckfbfgfjlgmeaaGreatDoorEvTextOf
set_option linter.unusedVariables false
set_option linter.unusedSimpArgs false
namespace Go.Proofs.YtckfbfgfjlgmeaaGreatDoor.Ev.Dr
theorem drawOpp (x : List Int) (hx : okC x) : ∃ (T : AV) (H : Hp), TabR T H ∧ ev E0 29 [.lst 1 (cd x)] [] = some (T, H) := by
  obtain ⟨T, H, hT, e⟩ := drawTable x hx
  refine ⟨T, H, hT, ?_⟩
  rw [e29]
  unfold runF
  rcases hT with ⟨rfl, rfl⟩ | ⟨ms, z1, z2, rfl, rfl⟩
  · simp -implicitDefEqProofs [L29, e]
  · unfold tr at e ⊢
    simp -implicitDefEqProofs [L29, e]
theorem st0 (x : List Int) (a s : Int) : Stable [some (cu x a s)] := ⟨by simp [oldIds, cu], rfl⟩
theorem drawTime (x : List Int) (hx : okC x) : ∃ t : ByteArray, t.size ≤ 20 ∧ ev E0 47 [.lst 1 (cd x)] [] = some (st t, []) := by
  obtain ⟨a, s, t, p1, p2, p3, e⟩ := marks_ok x hx [some (cu x 0 0)] 0 0 0 rfl (st0 x 0 0) (by omega) (by omega) 5 (by omega)
  refine ⟨t, p3, ?_⟩
  simp only [List.set_cons_zero, cu] at e
  rw [e47]
  unfold runF
  simp -implicitDefEqProofs [L47, e]
theorem drawLetter (x : List Int) (hx : okC x) : ∃ (T : AV) (H : Hp) (k : ByteArray), TabR T H ∧ k.size ≤ 20 ∧ ev E0 39 [.lst 1 (cd x)] [] = some (.tup [T, st k], H) := by
  obtain ⟨a, s, p1, p2, h⟩ := pre_tab x hx 0 0 (by omega) (by omega)
  rcases h with h | ⟨ms, z1, z2, h⟩
  · obtain ⟨a1, s1, t, q1, q2, q3, e1⟩ := marks_ok x hx [some t0, some (cu x a s), some t0] 1 a s rfl (st2 x a s) (by omega) (by omega) 5 (by omega)
    refine ⟨.agg [.v (.slice none 0 0)], [], t, .inl ⟨rfl, rfl⟩, q3, ?_⟩
    rw [e39]
    unfold runF
    simp only [List.set_cons_succ, List.set_cons_zero, t0, cu] at h e1
    simp (maxSteps := 1000000) -implicitDefEqProofs [L39, h, e1]
  · by_cases hn : 0 < ms.length
    · obtain ⟨a1, s1, b, q1, q2, e1⟩ := one_ok x hx [some t0, some (cu x a s), some (tr ms), some (tc 2 ms.length)] 1 a s rfl (st3 x a s ms ms.length) (by omega) (by omega) 3
      cases b with
      | true =>
        obtain ⟨a2, s2, t, r1, r2, r3, e2⟩ := marks_ok x hx [some t0, some (cu x a1 s1), some (tr ms), some (tc 2 ms.length)] 1 a1 s1 rfl (st3 x a1 s1 ms ms.length) (by omega) (by omega) 5 (by omega)
        refine ⟨.agg [.sl 0 0 ms.length], [some (tr ms)], t, .inr ⟨ms, z1, z2, rfl, rfl⟩, r3, ?_⟩
        rw [e39]
        unfold runF
        simp only [List.set_cons_succ, List.set_cons_zero, t0, cu, tr, tc] at h e1 e2 ⊢
        simp (maxSteps := 1000000) -implicitDefEqProofs [L39, h, e1, e2, hn]
      | false =>
        obtain ⟨a2, s2, r, r1, r2, r3, r4, e2⟩ := pick_ok x hx [some t0, some (cu x a1 s1), some (tr ms), some (tc 2 ms.length)] 1 a1 s1 rfl (st3 x a1 s1 ms ms.length) (by omega) (by omega) ms.length
        obtain ⟨n, rfl⟩ : ∃ n : Nat, r = n := ⟨r.toNat, by omega⟩
        have hlt : n < ms.length := by omega
        have hlt2 : (n : Int) < (ms.length : Int) := by omega
        have hg : (ms.map st)[n]? = some (st ms[n]) := by rw [List.getElem?_map, List.getElem?_eq_getElem hlt]; rfl
        have hg2 : ∀ h, (ms.map st)[n]'h = st ms[n] := fun h => (List.getElem?_eq_some_iff.1 hg).2
        have hz := z2 ms[n] (List.getElem_mem _)
        refine ⟨.agg [.sl 0 0 ms.length], [some (tr ms)], ms[n], .inr ⟨ms, z1, z2, rfl, rfl⟩, hz, ?_⟩
        rw [e39]
        unfold runF
        simp only [List.set_cons_succ, List.set_cons_zero, t0, cu, tr, tc] at h e1 e2 ⊢
        generalize ms[n] = m at *
        simp (maxSteps := 4000000) -implicitDefEqProofs [L39, h, e1, e2, hn, hlt, hlt2, hg, hg2]
    · obtain ⟨a1, s1, t, q1, q2, q3, e1⟩ := marks_ok x hx [some t0, some (cu x a s), some (tr ms), some (tc 2 ms.length)] 1 a s rfl (st3 x a s ms ms.length) (by omega) (by omega) 5 (by omega)
      refine ⟨.agg [.sl 0 0 ms.length], [some (tr ms)], t, .inr ⟨ms, z1, z2, rfl, rfl⟩, q3, ?_⟩
      rw [e39]
      unfold runF
      simp only [List.set_cons_succ, List.set_cons_zero, t0, cu, tr, tc] at h e1 ⊢
      simp (maxSteps := 1000000) -implicitDefEqProofs [L39, h, e1, hn]
def code0 : ByteArray := ⟨#[46, 44, 45, 44, 46, 45]⟩
theorem drawParse (x : List Int) (hx : okC x) : ∃ t : ByteArray, t.size ≤ 1000 ∧ ev E0 52 [.lst 1 (cd x)] [] = some (st t, []) := by
  obtain ⟨a, s, p1, p2, h⟩ := table_ok x hx [some (cu x 0 0)] 0 0 0 rfl (st0 x 0 0) (by omega) (by omega)
  have tail : ∀ (H : Hp) (t : ByteArray), t.size ≤ 900 → hget H 0 = some (cu x a s) → (∀ a' s' : Int, Stable (H.set 0 (some (cu x a' s')))) → H.set 0 (some (cu x a s)) = H → ∃ (b : Bool) (a1 s1 a2 s2 : Int) (u : ByteArray), u.size ≤ 1000 ∧ ev E0 79 [.ptr 0 0 0, i64 3] H = some (bl b, H.set 0 (some (cu x a1 s1))) ∧
      (b = true → ev E0 115 [.ptr 0 0 0, st t, st ⟨#[46, 45, 44, 32, 120]⟩] (H.set 0 (some (cu x a1 s1))) = some (st u, H.set 0 (some (cu x a2 s2)))) ∧ (b = false → u = t) := by
    intro H t ht hg hS hH
    have hid := id_lt hg
    obtain ⟨a1, s1, b, q1, q2, e1⟩ := one_ok x hx H 0 a s hg (by have := hS a s; rwa [hH] at this) (by omega) (by omega) 3
    cases b with
    | false => exact ⟨false, a1, s1, 0, 0, t, by omega, e1, by simp, fun _ => rfl⟩
    | true =>
      obtain ⟨a2, s2, u, r1, r2, r3, e2⟩ := spoilt_ok x hx (H.set 0 (some (cu x a1 s1))) 0 a1 s1 (hget_cu hid) (hS _ _) (by omega) (by omega) t ⟨#[46, 45, 44, 32, 120]⟩ (by omega) (by decide) (by decide)
      rw [List.set_set] at e2
      exact ⟨true, a1, s1, a2, s2, u, by omega, e1, fun _ => e2, by simp⟩
  rcases h with h | ⟨ms, z1, z2, h⟩
  · obtain ⟨b, a1, s1, a2, s2, u, hu, e1, e2, e3⟩ := tail [some (cu x a s), some t0] code0 (by decide) rfl (fun a' s' => ⟨by simp [oldIds, t0, cu], rfl⟩) rfl
    refine ⟨u, hu, ?_⟩
    have tn := table_nil
    rw [e52]
    unfold runF
    simp only [List.set_cons_zero, t0, cu, code0] at h e1 e2
    cases b with
    | false =>
      obtain rfl := e3 rfl
      unfold code0
      simp (maxSteps := 1000000) -implicitDefEqProofs [L52, h, tn, e1]
    | true =>
      have e2 := e2 rfl
      simp (maxSteps := 1000000) -implicitDefEqProofs [L52, h, tn, e1, e2]
  · have hL := lensT_le ms z2
    have hL2 : ms.length * (20 + 1) ≤ 30 * 21 := Nat.mul_le_mul_right 21 z1
    have hts := textL_size ms 0 ⟨#[]⟩
    have h0 : (⟨#[]⟩ : ByteArray).size = 0 := rfl
    have tt := table_s ms (by omega) (fun y hy => by have := z2 y hy; omega)
    have tx := text_s ms (by omega) (by omega)
    obtain ⟨b, a1, s1, a2, s2, u, hu, e1, e2, e3⟩ := tail [some (cu x a s), some (tr ms), some (tc 1 ms.length)] (if okTable ms = true then textL 0 ⟨#[]⟩ ms else code0) (by
      split
      · omega
      · decide) rfl (fun a' s' => ⟨by simp [oldIds, tr, tc, cu], rfl⟩) rfl
    refine ⟨u, hu, ?_⟩
    rw [e52]
    unfold runF
    simp only [List.set_cons_zero, tr, tc, cu, List.length_cons, List.length_nil, Nat.zero_add, List.cons_append, List.nil_append] at h e1 e2
    cases ho : okTable ms with
    | false =>
      rw [ho] at tt
      rw [ho, if_neg (by decide)] at e2 e3
      unfold code0 at e2 e3
      cases b with
      | false =>
        obtain rfl := e3 rfl
        simp (maxSteps := 1000000) -implicitDefEqProofs [L52, h, tt, e1]
      | true =>
        have e2 := e2 rfl
        simp (maxSteps := 1000000) -implicitDefEqProofs [L52, h, tt, e1, e2]
    | true =>
      rw [ho] at tt
      rw [ho, if_pos rfl] at e2 e3
      cases b with
      | false =>
        obtain rfl := e3 rfl
        simp (maxSteps := 1000000) -implicitDefEqProofs [L52, h, tt, tx, e1]
      | true =>
        have e2 := e2 rfl
        simp (maxSteps := 1000000) -implicitDefEqProofs [L52, h, tt, tx, e1, e2]
end Go.Proofs.YtckfbfgfjlgmeaaGreatDoor.Ev.Dr
