/- All orders, as the program visits them: the walk. -/
import Derived.Test.YtlmjoimjdpfamaaGreatEvRelO4
set_option linter.unusedVariables false
set_option linter.unusedSimpArgs false
namespace Go.Proofs.YtlmjoimjdpfamaaGreat.Ev
def OrdOk (js : List J) (n : Nat) : Prop := ∀ (x : Nat) (t : List Nat), t.length + 1 + n = js.length → (x :: t).Nodup → (∀ k ∈ x :: t, k < js.length) → ∀ (g : Sg) (R M : Hp), Mem js g R M → ∀ a, (hdB js 0 0 0 false ++ R)[a]? = some (rI (x :: t)) →
    ∃ M' Y, ev E0 39 [i64 js.length, .sl a 0 (t.length + 1), fnB] M = some (.tup [], M') ∧ Mem js ((vis js.length n (x :: t)).foldl (stepG js) g) (R ++ Y) M'
def visR (m n : Nat) (l : List Nat) (ks : List Nat) : List (List Nat) := ks.flatMap fun k => if k ∈ l then [] else vis m n (l ++ [k])
theorem mem_more {js : List J} {g : Sg} {R J M : Hp} (h : Mem js g R M) (hJ : Smp J) : Mem js g (R ++ J) (M ++ J) := by
  obtain ⟨p, hM, hp, hS⟩ := h
  exact ⟨p, by rw [hM, List.append_assoc], by rw [List.getElem?_append_left (List.getElem?_eq_some_iff.1 hp).1]; exact hp, hS.app hJ⟩
theorem hd_at (js : List J) (R J : Hp) (i : Nat) (l : List Nat) (h : J[i]? = some (rI l)) : (hdB js 0 0 0 false ++ (R ++ J))[R.length + 5 + i]? = some (rI l) := by
  rw [← List.append_assoc, List.getElem?_append_right (by simp [hdB])]
  rw [show R.length + 5 + i - (hdB js 0 0 0 false ++ R).length = i by simp [hdB]]
  exact h
/-- The loop at a prefix that is not empty. -/
theorem orders_loop (js : List J) (hjl : js.length ≤ 5) (n : Nat) (ih : OrdOk js n) (x : Nat) (t : List Nat) (hl : t.length + 1 + (n + 1) = js.length) (hn : (x :: t).Nodup) (hk : ∀ k ∈ x :: t, k < js.length) (R : Hp) (a : Nat) (ha : (hdB js 0 0 0 false ++ R)[a]? = some (rI (x :: t))) : ∀ (c k : Nat), k + c = js.length → ∀ (g : Sg) (X M : Hp), Mem js g (R ++ X) M →
    ∃ M' X', packX (R.length + 5) [] (loopW (bd E0 (ev E0) loopW (R.length + 5) [0, 1, 2, 14, 15] L39b0) ⟨[(0, i64 js.length), (1, .sl a 0 (t.length + 1)), (2, fnB), (14, i64 js.length), (15, i64 k)], M⟩) = some (.ext 0, ⟨[], M'⟩) ∧ Mem js ((visR js.length n (x :: t) (List.range' k c)).foldl (stepG js) g) (R ++ X') M' := by
  intro c
  have hal : a < R.length + 5 := by
    have := (List.getElem?_eq_some_iff.1 ha).1
    simp [hdB] at this
    omega
  have n0 : 0 < R.length + 5 := by omega
  have n2 : 2 < R.length + 5 := by omega
  have n3 : 3 < R.length + 5 := by omega
  have n4 : 4 < R.length + 5 := by omega
  induction c with
  | zero =>
    intro k hkc g X M h
    obtain ⟨M', X', acc, m1, p1⟩ := mem_pack h
    refine ⟨M', X', ?_, m1⟩
    have hp := p1 [] (fun _ h => by cases h) (by simp)
    have hk2 : ¬ (k : Int) < (js.length : Int) := by omega
    rw [loopW_eq]
    generalize loopW (bd E0 (ev E0) loopW (R.length + 5) [0, 1, 2, 14, 15] L39b0) = K at *
    unfold fnB
    simp -implicitDefEqProofs [bd, L39b0, hk2, -packH, hp]
  | succ c ihc =>
    intro k hkc g X M h
    have hk2 : (k : Int) < (js.length : Int) := by omega
    have hw : IntKind.i64.wrap ((k : Int) + 1) = (k : Int) + 1 := wr64 (by omega) (by omega)
    have hma := mem_get h ha
    have hct := contains_i (x :: t) (by simp; omega) k
    have hlow : ∀ q ∈ [a, 0, 4, 3, 2], q < R.length + 5 := by simp; omega
    have fL : okL (free 5) ((x :: t).map iN) = true := okL_map (fun _ => rfl) _
    have ll : t.length + 1 ≤ ((x :: t).map iN).length := by simp
    have tl : List.take (t.length + 1) ((x :: t).map iN) = (x :: t).map iN := List.take_of_length_le (by simp)
    rw [List.range'_succ]
    by_cases hc : k ∈ x :: t
    · obtain ⟨M1, X1, acc, m1, p1⟩ := mem_pack h
      have hp := p1 [a, 0, 4, 3, 2] hlow (by simp)
      obtain ⟨M', X', e2, m2⟩ := ihc (k + 1) (by omega) g X1 M1 m1
      refine ⟨M', X', ?_, ?_⟩
      · rw [decide_eq_true hc] at hct
        rw [cs1] at e2
        rw [loopW_eq]
        generalize loopW (bd E0 (ev E0) loopW (R.length + 5) [0, 1, 2, 14, 15] L39b0) = K at *
        clear m1 m2 h ihc ih p1 ha
        unfold rI at hma
        unfold fnB at *
        generalize (x :: t).map iN = L at *
        simpa -implicitDefEqProofs [bd, L39b0, hk2, hw, hma, hct, fL, ll, tl, -packH, hp, hal, n0, n2, n3, n4] using e2
      · unfold visR at m2 ⊢
        rw [List.flatMap_cons, if_pos hc, List.nil_append]
        exact m2
    · have hcl := clone_n x t (by omega)
      have hJ : Smp [none, rI [k], rI (x :: t ++ [k])] := smp_none.app ((smp_rI [k]).app (smp_rI (x :: t ++ [k])))
      have mJ := mem_more h hJ
      have hML := mem_low h
      obtain ⟨M2, Y2, e2, m2⟩ := ih x (t ++ [k]) (by simp; omega) (by
          rw [← List.cons_append]
          exact List.nodup_append.2 ⟨hn, by simp, fun u hu v hv => by rw [List.mem_singleton.1 hv]; exact fun e => hc (e ▸ hu)⟩) (fun q hq => by
          rw [← List.cons_append] at hq
          rcases List.mem_append.1 hq with hq | hq
          · exact hk q hq
          · rw [List.mem_singleton.1 hq]; omega) g _ _ mJ ((R ++ X).length + 5 + 2) (hd_at js (R ++ X) _ 2 _ rfl)
      rw [List.append_assoc R X, List.append_assoc R] at m2
      obtain ⟨M3, X3, acc, m3, p3⟩ := mem_pack m2
      have hp := p3 [a, 0, 4, 3, 2] hlow (by simp)
      obtain ⟨M', X', e4, m4⟩ := ihc (k + 1) (by omega) _ X3 M3 m3
      refine ⟨M', X', ?_, ?_⟩
      · rw [decide_eq_false hc] at hct
        rw [cs1] at e4
        rw [← hML, List.length_append, List.length_singleton] at e2
        have hset : ∀ u v : Option Blk, (M ++ [u, v]).set M.length none = M ++ [none, v] := fun u v => by rw [List.set_append, if_neg (by omega)]; simp
        have m1 : (t.length + 1 + 1) * 8 ≤ 140737488355328 := by omega
        have m2' : t.length + 1 + 1 ≤ 140737488355328 := by omega
        have eL : (x :: t ++ [k]).map iN = (x :: t).map iN ++ [i64 k] := by rw [List.map_append]; rfl
        have hcl2 : ev E0 67 [.lst 1 ((x :: t).map iN)] [] = some (.sl 0 0 (t.length + 1), [some ⟨3, 1, 1, false, (x :: t).map iN⟩]) := hcl
        rw [loopW_eq]
        generalize loopW (bd E0 (ev E0) loopW (R.length + 5) [0, 1, 2, 14, 15] L39b0) = K at *
        unfold rI at hma e2
        rw [eL] at e2
        unfold fnB at *
        simp only [List.map_cons, List.map_nil] at e2
        clear m2 m3 m4 h ihc ih p3 ha mJ hcl eL
        generalize hLL : iN x :: t.map iN = L at *
        simp only [List.map_cons, hLL] at *
        simpa -implicitDefEqProofs [bd, L39b0, hk2, hw, hma, hct, hcl2, fL, ll, tl, hset, m1, m2', e2, -packH, hp, hal, n0, n2, n3, n4] using e4
      · unfold visR at m4 ⊢
        rw [List.flatMap_cons, if_neg hc, List.foldl_append]
        exact m4
end Go.Proofs.YtlmjoimjdpfamaaGreat.Ev
