/- The draws of the law on signals. -/
import Derived.Test.YtckfbfgfjlgmeaaGreatDoorEvDrawA6
import Derived.Test.YtckfbfgfjlgmeaaGreatDoorEvDrawM
set_option linter.unusedVariables false
set_option linter.unusedSimpArgs false
namespace Go.Proofs.YtckfbfgfjlgmeaaGreatDoor.Ev.Dr
theorem stK (x : List Int) (a s : Int) : Stable [some (cu x a s)] := ⟨by simp [oldIds, cu], rfl⟩
theorem drawIsMsg (x : List Int) (hx : okC x) : ∃ (T : AV) (H : Hp) (m : ByteArray), TabR T H ∧ m.size ≤ 30 ∧ ev E0 118 [.lst 1 (cd x)] [] = some (.tup [T, st m], H) := by
  obtain ⟨a, s, p1, p2, h⟩ := pre_tab x hx 0 0 (by omega) (by omega)
  rcases h with e | ⟨ms, m1, m2, e⟩
  · obtain ⟨a3, s3, k, p3, q3, z3, e3⟩ := message_ok x hx [some t0, some (cu x a s), some t0] 1 a s rfl (st2 x a s) (by omega) (by omega) [] (by simp) (.v (.slice none 0 0)) (.inl ⟨rfl, rfl⟩)
    refine ⟨_, _, k, .inl ⟨rfl, rfl⟩, z3, ?_⟩
    simp only [t0, cu, List.set_cons_succ, List.set_cons_zero] at e e3
    rw [e118]
    unfold runF
    simp -implicitDefEqProofs [L118, e, e3]
  · obtain ⟨a3, s3, k, p3, q3, z3, e3⟩ := message_ok x hx [some t0, some (cu x a s), some (tr ms), some (tc 2 ms.length)] 1 a s rfl (st3 x a s ms ms.length) (by omega) (by omega) ms (by omega) (.sl 2 0 ms.length) (.inr ⟨2, false, rfl, by decide, rfl⟩)
    refine ⟨_, _, k, .inr ⟨ms, m1, m2, rfl, rfl⟩, z3, ?_⟩
    simp only [t0, cu, tr, tc, List.set_cons_succ, List.set_cons_zero] at e e3 ⊢
    rw [e118]
    unfold runF
    simp -implicitDefEqProofs [L118, e, e3]
theorem drawEnc (x : List Int) (hx : okC x) : ∃ (T : AV) (H : Hp) (m : ByteArray), TabR T H ∧ m.size ≤ 30 ∧ ev E0 55 [.lst 1 (cd x)] [] = some (.tup [T, st m], H) := by
  obtain ⟨T, H, m, hT, hm, e⟩ := drawIsMsg x hx
  refine ⟨T, H, m, hT, hm, ?_⟩
  rw [e55]
  unfold runF
  rcases hT with ⟨rfl, rfl⟩ | ⟨ms, z1, z2, rfl, rfl⟩
  · simp -implicitDefEqProofs [L55, e]
  · unfold tr at e ⊢
    simp -implicitDefEqProofs [L55, e]
theorem drawDecode (x : List Int) (hx : okC x) : ∃ (T : AV) (H : Hp) (m : ByteArray), TabR T H ∧ m.size ≤ 300 ∧ ev E0 66 [.lst 1 (cd x)] [] = some (.tup [T, st m], H) := by
  obtain ⟨a, s, p1, p2, h⟩ := pre_tab x hx 0 0 (by omega) (by omega)
  rcases h with e | ⟨ms, m1, m2, e⟩
  · obtain ⟨a3, s3, k, p3, q3, z3, e3⟩ := signal_ok x hx [some t0, some (cu x a s), some t0] 1 a s rfl (st2 x a s) (by omega) (by omega) [] (by simp) (by simp) (.v (.slice none 0 0)) (.inl ⟨rfl, rfl⟩)
    refine ⟨_, _, k, .inl ⟨rfl, rfl⟩, z3, ?_⟩
    simp only [t0, cu, List.set_cons_succ, List.set_cons_zero] at e e3
    rw [e66]
    unfold runF
    simp -implicitDefEqProofs [L66, e, e3]
  · obtain ⟨a3, s3, k, p3, q3, z3, e3⟩ := signal_ok x hx [some t0, some (cu x a s), some (tr ms), some (tc 2 ms.length)] 1 a s rfl (st3 x a s ms ms.length) (by omega) (by omega) ms (by omega) m2 (.sl 2 0 ms.length) (.inr ⟨2, false, rfl, by decide, rfl⟩)
    refine ⟨_, _, k, .inr ⟨ms, m1, m2, rfl, rfl⟩, z3, ?_⟩
    simp only [t0, cu, tr, tc, List.set_cons_succ, List.set_cons_zero] at e e3 ⊢
    rw [e66]
    unfold runF
    simp -implicitDefEqProofs [L66, e, e3]
theorem stK2 (x : List Int) (a s : Int) (ms : List ByteArray) : Stable [some (cu x a s), some (tr ms)] := ⟨by simp [oldIds, cu, tr], rfl⟩
theorem drawIsSig (x : List Int) (hx : okC x) : ∃ (m : ByteArray), m.size ≤ 300 ∧ ev E0 132 [.lst 1 (cd x)] [] = some (st m, []) := by
  obtain ⟨a, s, p1, p2, h⟩ := table_ok x hx [some (cu x 0 0)] 0 0 0 rfl (stK x 0 0) (by omega) (by omega)
  rcases h with e | ⟨ms, m1, m2, e⟩
  · obtain ⟨a3, s3, k, p3, q3, z3, e3⟩ := signal_ok x hx [some (cu x a s)] 0 a s rfl (stK x a s) (by omega) (by omega) [] (by simp) (by simp) (.v (.slice none 0 0)) (.inl ⟨rfl, rfl⟩)
    refine ⟨k, z3, ?_⟩
    simp only [cu, List.set_cons_zero] at e e3
    rw [e132]
    unfold runF
    simp -implicitDefEqProofs [L132, e, e3]
  · obtain ⟨a3, s3, k, p3, q3, z3, e3⟩ := signal_ok x hx [some (cu x a s), some (tr ms)] 0 a s rfl (stK2 x a s ms) (by omega) (by omega) ms (by omega) m2 (.sl 1 0 ms.length) (.inr ⟨1, false, rfl, by decide, rfl⟩)
    refine ⟨k, z3, ?_⟩
    simp only [cu, tr, List.set_cons_zero, List.length_cons, List.length_nil, Nat.zero_add, List.cons_append, List.nil_append] at e e3
    rw [e132]
    unfold runF
    simp -implicitDefEqProofs [L132, e, e3]
theorem drawTmSig (x : List Int) (hx : okC x) : ∃ (m : ByteArray), m.size ≤ 300 ∧ ev E0 69 [.lst 1 (cd x)] [] = some (st m, []) := by
  obtain ⟨m, hm, e⟩ := drawIsSig x hx
  refine ⟨m, hm, ?_⟩
  rw [e69]
  unfold runF
  simp -implicitDefEqProofs [L69, e]
end Go.Proofs.YtckfbfgfjlgmeaaGreatDoor.Ev.Dr
