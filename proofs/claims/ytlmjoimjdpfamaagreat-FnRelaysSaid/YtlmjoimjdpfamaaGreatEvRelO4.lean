/- All orders, as the program visits them. -/
import Derived.Test.YtlmjoimjdpfamaaGreatEvRelO3
set_option linter.unusedVariables false
set_option linter.unusedSimpArgs false
namespace Go.Proofs.YtlmjoimjdpfamaaGreat.Ev
theorem index_loop (l : List Nat) (hm : l.length ≤ 1000) (c : Nat) : ∀ (t : List Nat) (i : Nat), l.drop i = t →
    (c ∉ t → packX 0 [4] (loopW (bd E0 (ev E0) loopW 0 [0, 1, 7, 8] L79b0) ⟨[(0, .lst 1 (l.map iN)), (1, iN c), (7, i64 l.length), (8, i64 i)], []⟩) = some (.ext 0, ⟨[], []⟩)) ∧
    (c ∈ t → ∃ k : Nat, packX 0 [4] (loopW (bd E0 (ev E0) loopW 0 [0, 1, 7, 8] L79b0) ⟨[(0, .lst 1 (l.map iN)), (1, iN c), (7, i64 l.length), (8, i64 i)], []⟩) = some (.ret, ⟨[(4, i64 k)], []⟩)) := by
  intro t
  induction t with
  | nil =>
    intro i h
    have hi := not_drop h
    have hi2 : ¬ (i : Int) < (l.length : Int) := by omega
    refine ⟨fun _ => ?_, fun h => by cases h⟩
    rw [loopW_eq]
    generalize loopW (bd E0 (ev E0) loopW 0 [0, 1, 7, 8] L79b0) = K
    simp -implicitDefEqProofs [bd, L79b0, hi, hi2]
  | cons x t ih =>
    intro i h
    obtain ⟨hi, hx, hd, hmem⟩ := at_drop h
    have hi2 : (i : Int) < (l.length : Int) := by omega
    have hw : IntKind.i64.wrap ((i : Int) + 1) = (i : Int) + 1 := wr64 (by omega) (by omega)
    have hil : i < (l.map iN).length := by simpa using hi
    have hg : (l.map iN)[i]? = some (iN x) := by rw [List.getElem?_map, List.getElem?_eq_getElem hi, hx]; rfl
    have hgi : (l.map iN)[i]'hil = iN x := Option.some.inj ((List.getElem?_eq_getElem hil).symm.trans hg)
    obtain ⟨ih1, ih2⟩ := ih (i + 1) hd
    by_cases hc : c = x
    · refine ⟨fun hn => absurd (hc ▸ List.mem_cons_self ..) hn, fun _ => ⟨i, ?_⟩⟩
      rw [loopW_eq]
      generalize loopW (bd E0 (ev E0) loopW 0 [0, 1, 7, 8] L79b0) = K
      generalize l.map iN = L at *
      simp -implicitDefEqProofs [bd, L79b0, hi, hi2, hil, hgi, hc]
    · have hc2 : ¬ (c : Int) = (x : Int) := by omega
      refine ⟨fun hn => ?_, fun hm => ?_⟩
      · have hih := ih1 fun hm => hn (List.mem_cons_of_mem _ hm)
        rw [cs1] at hih
        rw [loopW_eq]
        generalize loopW (bd E0 (ev E0) loopW 0 [0, 1, 7, 8] L79b0) = K at hih ⊢
        generalize l.map iN = L at *
        simpa -implicitDefEqProofs [bd, L79b0, hi, hi2, hil, hgi, hc, hc2, hw] using hih
      · obtain ⟨k, hih⟩ := ih2 ((List.mem_cons.1 hm).resolve_left hc)
        refine ⟨k, ?_⟩
        rw [cs1] at hih
        rw [loopW_eq]
        generalize loopW (bd E0 (ev E0) loopW 0 [0, 1, 7, 8] L79b0) = K at hih ⊢
        generalize l.map iN = L at *
        simpa -implicitDefEqProofs [bd, L79b0, hi, hi2, hil, hgi, hc, hc2, hw] using hih
theorem contains_i (l : List Nat) (hm : l.length ≤ 1000) (c : Nat) : ev E0 66 [.lst 1 (l.map iN), iN c] [] = some (bl (decide (c ∈ l)), []) := by
  obtain ⟨h1, h2⟩ := index_loop l hm c l 0 rfl
  rw [c0] at h1 h2
  by_cases hc : c ∈ l
  · obtain ⟨k, hk⟩ := h2 hc
    have hi : ev E0 79 [.lst 1 (l.map iN), iN c] [] = some (i64 k, []) := by
      rw [e79]
      unfold runF
      simp -implicitDefEqProofs [L79, hk]
    have hk0 : (0 : Int) ≤ (k : Int) := by omega
    rw [e66]
    unfold runF
    simp -implicitDefEqProofs [L66, hi, hc, hk0]
  · have hk := h1 hc
    have hi : ev E0 79 [.lst 1 (l.map iN), iN c] [] = some (i64 (-1), []) := by
      rw [e79]
      unfold runF
      simp -implicitDefEqProofs [L79, hk]
    rw [e66]
    unfold runF
    simp -implicitDefEqProofs [L66, hi, hc]
theorem contains_nil (c : Nat) : ev E0 66 [nilS, iN c] [] = some (bl false, []) := by
  have hi : ev E0 79 [nilS, iN c] [] = some (i64 (-1), []) := by
    rw [e79]
    unfold runF
    simp -implicitDefEqProofs [L79, loopW_eq, bd, L79b0]
  rw [e66]
  unfold runF
  simp -implicitDefEqProofs [L66, hi]
theorem clone_n (a : Nat) (t : List Nat) (hl : t.length ≤ 1000) : ev E0 67 [.lst 1 (iN a :: t.map iN)] [] = some (.sl 0 0 (t.length + 1), [rI (a :: t)]) := by
  have hl1 : (t.length + 1) * 8 ≤ 140737488355328 := by omega
  have hl2 : t.length + 1 ≤ 140737488355328 := by omega
  rw [e67]
  unfold runF rI
  simp -implicitDefEqProofs [L67, hl1, hl2]
theorem clone_nil : ev E0 67 [nilS] [] = some (nilS, []) := by
  rw [e67]
  unfold runF
  simp -implicitDefEqProofs [L67]
def vis (m : Nat) : Nat → List Nat → List (List Nat)
  | 0, l => [l]
  | n + 1, l => (List.range m).flatMap fun k => if k ∈ l then [] else vis m n (l ++ [k])
def argL (a : Nat) (l : List Nat) : AV := if l = [] then nilS else .sl a 0 l.length
theorem argL_nil (a : Nat) : argL a [] = nilS := rfl
theorem argL_cons (a x : Nat) (t : List Nat) : argL a (x :: t) = .sl a 0 (t.length + 1) := rfl
theorem mem_get {js : List J} {g : Sg} {R X M : Hp} (h : Mem js g (R ++ X) M) {a : Nat} {l : List Nat} (ha : (hdB js 0 0 0 false ++ R)[a]? = some (rI l)) : M[a]? = some (rI l) := by
  obtain ⟨p, hM, _⟩ := h
  rw [hM, ← List.append_assoc, List.getElem?_append_left (by simpa [hdB] using (List.getElem?_eq_some_iff.1 ha).1)]
  exact hd_get ha
theorem orders_leaf (js : List J) (hj : ∀ j ∈ js, JB j) (hjl : js.length ≤ 5) (x : Nat) (t : List Nat) (hl : t.length + 1 = js.length) (hn : (x :: t).Nodup) (hk : ∀ k ∈ x :: t, k < js.length) {g : Sg} {R M : Hp} (h : Mem js g R M) {a : Nat} (ha : (hdB js 0 0 0 false ++ R)[a]? = some (rI (x :: t))) :
    ∃ M' Y, ev E0 39 [i64 js.length, .sl a 0 (t.length + 1), fnB] M = some (.tup [], M') ∧ Mem js (stepG js g (x :: t)) (R ++ Y) M' := by
  have hm : M[a]? = some (rI (x :: t)) := mem_get (X := []) (by rw [List.append_nil]; exact h) ha
  obtain ⟨M1, Y1, e1, m1⟩ := leaf36 js hj h a (x :: t) hm (by simp; omega) hk hn
  obtain ⟨M2, Y2, acc, m2, p2⟩ := mem_pack m1
  refine ⟨M2, Y2, ?_, m2⟩
  have hp := p2 [] (fun _ h => by cases h) (by simp)
  rw [← mem_low h] at hp
  rw [List.length_cons] at e1
  have hl2 : (t.length : Int) + 1 = js.length := by omega
  rw [e39]
  unfold runF fnB
  unfold rI at hm
  simp -implicitDefEqProofs [L39, hm, hl2, e1, -packH, hp]
end Go.Proofs.YtlmjoimjdpfamaaGreat.Ev
