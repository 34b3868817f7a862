/- All orders, as the program visits them: from the root. -/
import Derived.Test.YtlmjoimjdpfamaaGreatEvRelO5
set_option linter.unusedVariables false
set_option linter.unusedSimpArgs false
namespace Go.Proofs.YtlmjoimjdpfamaaGreat.Ev
theorem visR_eq (m n : Nat) (l : List Nat) : visR m n l (List.range' 0 m) = vis m (n + 1) l := by
  unfold visR
  rw [vis, List.range_eq_range']
theorem ord_ok (js : List J) (hj : ∀ j ∈ js, JB j) (hjl : js.length ≤ 5) : ∀ n, OrdOk js n
  | 0 => by
    intro x t hl hn hk g R M h a ha
    exact orders_leaf js hj hjl x t (by omega) hn hk h ha
  | n + 1 => by
    intro x t hl hn hk g R M h a ha
    have hal : a < R.length + 5 := by
      have := (List.getElem?_eq_some_iff.1 ha).1
      simp [hdB] at this
      omega
    have n0 : 0 < R.length + 5 := by omega
    have n2 : 2 < R.length + 5 := by omega
    have n3 : 3 < R.length + 5 := by omega
    have n4 : 4 < R.length + 5 := by omega
    have hlow : ∀ q ∈ [a, 0, 4, 3, 2], q < R.length + 5 := by simp; omega
    have hma := mem_get (X := []) (by rw [List.append_nil]; exact h) ha
    obtain ⟨M1, X1, acc1, m1, p1⟩ := mem_pack (X := []) (by rw [List.append_nil]; exact h)
    have hp1 := p1 [a, 0, 4, 3, 2] hlow (by simp)
    obtain ⟨M2, X2, e2, m2⟩ := orders_loop js hjl n (ord_ok js hj hjl n) x t hl hn hk R a ha js.length 0 (by omega) g X1 M1 m1
    obtain ⟨M3, X3, acc3, m3, p3⟩ := mem_pack m2
    have hp3 := p3 [] (fun _ h => by cases h) (by simp)
    rw [visR_eq] at m3
    refine ⟨M3, X3, ?_, m3⟩
    have hne : ¬ (t.length : Int) + 1 = js.length := by omega
    have hlen := mem_low h
    rw [c0] at e2
    rw [e39]
    unfold runF
    rw [hlen]
    clear m1 m2 m3 h p1 p3 ha
    unfold rI at hma
    unfold fnB at *
    simp -implicitDefEqProofs [L39, hma, hne, e2, -packH, hp1, hp3, hal, n0, n2, n3, n4]
theorem root_loop (js : List J) (hjl : js.length ≤ 5) (n : Nat) (ih : OrdOk js n) (hl : n + 1 = js.length) (R : Hp) : ∀ (c k : Nat), k + c = js.length → ∀ (g : Sg) (X M : Hp), Mem js g (R ++ X) M →
    ∃ M' X', packX (R.length + 5) [] (loopW (bd E0 (ev E0) loopW (R.length + 5) [0, 1, 2, 14, 15] L39b0) ⟨[(0, i64 js.length), (1, nilS), (2, fnB), (14, i64 js.length), (15, i64 k)], M⟩) = some (.ext 0, ⟨[], M'⟩) ∧ Mem js ((visR js.length n [] (List.range' k c)).foldl (stepG js) g) (R ++ X') M' := by
  intro c
  have n0 : 0 < R.length + 5 := by omega
  have n2 : 2 < R.length + 5 := by omega
  have n3 : 3 < R.length + 5 := by omega
  have n4 : 4 < R.length + 5 := by omega
  induction c with
  | zero =>
    intro k hkc g X M h
    obtain ⟨M', X', acc, m1, p1⟩ := mem_pack h
    refine ⟨M', X', ?_, m1⟩
    have hp := p1 [] (fun _ h => by cases h) (by simp)
    have hk2 : ¬ (k : Int) < (js.length : Int) := by omega
    rw [loopW_eq]
    generalize loopW (bd E0 (ev E0) loopW (R.length + 5) [0, 1, 2, 14, 15] L39b0) = K at *
    unfold fnB
    simp -implicitDefEqProofs [bd, L39b0, hk2, -packH, hp]
  | succ c ihc =>
    intro k hkc g X M h
    have hk2 : (k : Int) < (js.length : Int) := by omega
    have hw : IntKind.i64.wrap ((k : Int) + 1) = (k : Int) + 1 := wr64 (by omega) (by omega)
    have hct := contains_nil k
    have hlow : ∀ q ∈ [0, 4, 3, 2], q < R.length + 5 := by simp
    rw [List.range'_succ]
    have hc : ¬ k ∈ ([] : List Nat) := fun h => by cases h
    have hcl := clone_nil
    have hJ : Smp [rI [k], rI [k]] := (smp_rI [k]).app (smp_rI [k])
    have mJ := mem_more h hJ
    have hML := mem_low h
    obtain ⟨M2, Y2, e2, m2⟩ := ih k [] (by simp; omega) (by simp) (fun q hq => by rw [List.mem_singleton.1 hq]; omega) g _ _ mJ ((R ++ X).length + 5 + 1) (hd_at js (R ++ X) _ 1 _ rfl)
    rw [List.append_assoc R X, List.append_assoc R] at m2
    obtain ⟨M3, X3, acc, m3, p3⟩ := mem_pack m2
    have hp := p3 [0, 4, 3, 2] hlow (by simp)
    obtain ⟨M', X', e4, m4⟩ := ihc (k + 1) (by omega) _ X3 M3 m3
    refine ⟨M', X', ?_, ?_⟩
    · rw [cs1] at e4
      rw [← hML] at e2
      rw [loopW_eq]
      generalize loopW (bd E0 (ev E0) loopW (R.length + 5) [0, 1, 2, 14, 15] L39b0) = K at *
      unfold rI at e2
      unfold fnB at *
      simp only [List.map_cons, List.map_nil, List.length_nil] at e2
      clear m2 m3 m4 h ihc ih p3 mJ
      simpa -implicitDefEqProofs [bd, L39b0, hk2, hw, hct, hcl, e2, -packH, hp, n0, n2, n3, n4] using e4
    · unfold visR at m4 ⊢
      rw [List.flatMap_cons, if_neg hc, List.foldl_append]
      exact m4
theorem orders_root (js : List J) (hj : ∀ j ∈ js, JB j) (hjl : js.length ≤ 5) (hj0 : js ≠ []) (g : Sg) (R M : Hp) (h : Mem js g R M) :
    ∃ M' Y, ev E0 39 [i64 js.length, nilS, fnB] M = some (.tup [], M') ∧ Mem js ((vis js.length js.length []).foldl (stepG js) g) (R ++ Y) M' := by
  obtain ⟨n, hn⟩ : ∃ n, n + 1 = js.length := ⟨js.length - 1, by have := List.length_pos_iff.2 hj0; omega⟩
  have n0 : 0 < R.length + 5 := by omega
  have n2 : 2 < R.length + 5 := by omega
  have n3 : 3 < R.length + 5 := by omega
  have n4 : 4 < R.length + 5 := by omega
  have hlow : ∀ q ∈ [0, 4, 3, 2], q < R.length + 5 := by simp
  obtain ⟨M1, X1, acc1, m1, p1⟩ := mem_pack (X := []) (by rw [List.append_nil]; exact h)
  have hp1 := p1 [0, 4, 3, 2] hlow (by simp)
  obtain ⟨M2, X2, e2, m2⟩ := root_loop js hjl n (ord_ok js hj hjl n) hn R js.length 0 (by omega) g X1 M1 m1
  obtain ⟨M3, X3, acc3, m3, p3⟩ := mem_pack m2
  have hp3 := p3 [] (fun _ h => by cases h) (by simp)
  rw [visR_eq] at m3
  refine ⟨M3, X3, ?_, by rw [hn] at m3; exact m3⟩
  have hne : ¬ (0 : Int) = js.length := by omega
  have hlen := mem_low h
  rw [c0] at e2
  rw [e39]
  unfold runF
  rw [hlen]
  clear m1 m2 m3 h p1 p3
  unfold fnB at *
  simp -implicitDefEqProofs [L39, hne, e2, -packH, hp1, hp3, n0, n2, n3, n4]
end Go.Proofs.YtlmjoimjdpfamaaGreat.Ev
