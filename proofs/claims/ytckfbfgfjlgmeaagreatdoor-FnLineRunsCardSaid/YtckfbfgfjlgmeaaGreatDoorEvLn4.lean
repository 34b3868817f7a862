/- LineOfRuns, both programs. -/
import Derived.Test.YtckfbfgfjlgmeaaGreatDoorEvLn3
set_option linter.unusedVariables false
set_option linter.unusedSimpArgs false
namespace Go.Proofs.YtckfbfgfjlgmeaaGreatDoor.Ev
theorem ex0 : (⟨#[48, 49]⟩ : ByteArray).extract 0 1 = ⟨#[48]⟩ := by decide
theorem ex1 : (⟨#[48, 49]⟩ : ByteArray).extract 1 2 = ⟨#[49]⟩ := by decide
theorem ex2 : (⟨#[48, 49]⟩ : ByteArray).size = 2 := rfl
theorem i2 : IntKind.i64.wrap 2 = 2 := rfl
theorem okRs_mem : ∀ (t : List P) (v : Option Int) (n : Int), 0 ≤ n → okRs v n t = true → (∀ p ∈ t, (p.1 = 0 ∨ p.1 = 1) ∧ 0 ≤ p.2 ∧ p.2 ≤ 200) ∧ n + (lineL t).length ≤ 200 ∨ t = []
  | [], _, _, _, _ => .inr rfl
  | p :: t, v, n, h0, h => by
    rw [okRs] at h
    simp only [Bool.and_eq_true, decide_eq_true_eq] at h
    obtain ⟨⟨a1, a2⟩, ⟨b1, b2⟩, _, h3⟩ := h
    left
    have hp : (p.1 = 0 ∨ p.1 = 1) ∧ 0 ≤ p.2 ∧ p.2 ≤ 200 := ⟨by omega, by omega, by omega⟩
    have hlen : (lineL (p :: t)).length = p.2.toNat + (lineL t).length := by
      unfold lineL
      rw [List.map_cons, List.flatten_cons, List.length_append]
      unfold rt
      rw [List.length_replicate]
    rcases okRs_mem t _ _ (by omega) h3 with ⟨h4, h5⟩ | rfl
    · refine ⟨fun q hq => ?_, by rw [hlen]; omega⟩
      rcases List.mem_cons.1 hq with rfl | hq
      · exact hp
      · exact h4 q hq
    · refine ⟨fun q hq => ?_, by rw [hlen]; simp [lineL]; omega⟩
      rw [List.mem_singleton.1 hq]
      exact hp
def Prev (l : List P) (i : Nat) (v : Option Int) : Prop := (i = 0 ∧ v = none) ∨ ∃ (j : Nat) (q : P), i = j + 1 ∧ l[j]? = some q ∧ v = some q.1
theorem lorS_loop (l : List P) (hl : l.length ≤ 1000000) : ∀ (t : List P) (i : Nat) (v : Option Int) (s : ByteArray) (n : Int), l.drop i = t → Prev l i v → (s.size : Int) = n → n ≤ 200 →
    (okRs v n t = true → packX 0 [2, 3, 4] (loopW (bd E0 (ev E0) loopW 0 [0, 4, 5] L14b0) ⟨[(0, .lst 2 (l.map pn)), (4, st s), (5, i64 i)], []⟩) = some (.ext 0, ⟨[(4, st (s ++ mkB (lineL t)))], []⟩)) ∧
    (okRs v n t = false → ∃ b : ByteArray, packX 0 [2, 3, 4] (loopW (bd E0 (ev E0) loopW 0 [0, 4, 5] L14b0) ⟨[(0, .lst 2 (l.map pn)), (4, st s), (5, i64 i)], []⟩) = some (.ret, ⟨[(2, st ⟨#[]⟩), (3, bl false), (4, st b)], []⟩)) := by
  have hQ : (l.map pn).length = l.length := List.length_map _
  have hfr := free_pn l
  intro t
  induction t with
  | nil =>
    intro i v s n h hv h0 h1
    have hi := not_drop h
    have hii : ¬ (i : Int) < (l.length : Int) := by omega
    refine ⟨fun _ => ?_, fun h => (by cases h)⟩
    have e : s ++ mkB (lineL []) = s := by apply B_inj; rw [B_append, B_mkB]; simp [lineL]
    rw [e]
    rw [loopW_eq]
    generalize l.map pn = Q at *
    generalize loopW (bd E0 (ev E0) loopW 0 [0, 4, 5] L14b0) = K
    simp -implicitDefEqProofs [bd, L14b0, hi, hii, hQ, hfr]
  | cons p t ih =>
    intro i v s n h hv h0 h1
    obtain ⟨hi, hx, hd, hmem⟩ := at_drop h
    have hii : (i : Int) < (l.length : Int) := by omega
    obtain ⟨u, m⟩ := p
    have hg1 : (l.map pn)[i]? = some (.agg [i64 u, i64 m]) := by rw [List.getElem?_map, List.getElem?_eq_getElem hi, hx]; rfl
    have hg : ∀ h, (l.map pn)[i]'h = .agg [i64 u, i64 m] := fun h => (List.getElem?_eq_some_iff.1 hg1).2
    have hprev : Prev l (i + 1) (some u) := .inr ⟨i, (u, m), rfl, by rw [List.getElem?_eq_getElem hi, hx], rfl⟩
    have hw : IntKind.i64.wrap ((i : Int) + 1) = (i : Int) + 1 := wr64 (by omega) (by omega)
    have hwn : IntKind.i64.wrap (200 - n) = 200 - n := wr64 (by omega) (by omega)
    have ha := in_s u 0 1
    have hb := in_s m 1 (200 - n)
    have hsz := h0
    rw [okRs]
    dsimp only
    by_cases hu : 0 ≤ u ∧ u ≤ 1
    case neg =>
      have hub : (decide (0 ≤ u) && decide (u ≤ 1)) = false := by
        rw [Bool.and_eq_false_iff, decide_eq_false_iff_not, decide_eq_false_iff_not]
        omega
      rw [hub] at ha ⊢
      rw [Bool.false_and]
      refine ⟨fun h => (by simp at h), fun _ => ⟨s, ?_⟩⟩
      rw [loopW_eq]
      clear ih
      generalize l.map pn = Q at *
      generalize loopW (bd E0 (ev E0) loopW 0 [0, 4, 5] L14b0) = K
      simp -implicitDefEqProofs [bd, L14b0, hi, hii, hg, hg1, hQ, hfr, hw, hwn, hsz, ha]
    case pos =>
    have hub : (decide (0 ≤ u) && decide (u ≤ 1)) = true := by rw [decide_eq_true hu.1, decide_eq_true hu.2]; rfl
    rw [hub] at ha ⊢
    rw [Bool.true_and]
    rcases hv with ⟨rfl, rfl⟩ | ⟨j, q, rfl, hj, rfl⟩
    · rw [c0] at *
      by_cases hm : 1 ≤ m ∧ m ≤ 200 - n
      case neg =>
        have hmb2 : (decide (1 ≤ m) && decide (m ≤ 200 - n)) = false := by
          rw [Bool.and_eq_false_iff, decide_eq_false_iff_not, decide_eq_false_iff_not]
          omega
        rw [hmb2] at hb ⊢
        rw [Bool.false_and]
        refine ⟨fun h => (by simp at h), fun _ => ⟨s, ?_⟩⟩
        rw [loopW_eq]
        clear ih
        generalize l.map pn = Q at *
        generalize loopW (bd E0 (ev E0) loopW 0 [0, 4, 5] L14b0) = K
        simp -implicitDefEqProofs [bd, L14b0, hi, hii, hg, hg1, hQ, hfr, hw, hwn, hsz, ha, hb]
      case pos =>
      have hmb2 : (decide (1 ≤ m) && decide (m ≤ 200 - n)) = true := by rw [decide_eq_true hm.1, decide_eq_true hm.2]; rfl
      rw [hmb2] at hb ⊢
      rw [Bool.true_and]
      rw [decide_eq_true (by simp : (none : Option Int) ≠ some u), Bool.true_and]
      obtain ⟨k, rfl⟩ : ∃ k : Nat, m = k := ⟨m.toNat, by omega⟩
      have hmany := many_s (ch u) k (by omega)
      have hz : (mkB (List.replicate k (ch u))).size = k := by rw [mkB_size, List.length_replicate]
      have hsz2 : s.size + (mkB (List.replicate k (ch u))).size ≤ 9223372036854775807 := by omega
      obtain ⟨ih1, ih2⟩ := ih (0 + 1) (some u) (s ++ mkB (List.replicate k (ch u))) (n + k) hd hprev (by rw [ByteArray.size_append, hz]; omega) (by omega)
      have e : (s ++ mkB (List.replicate k (ch u))) ++ mkB (lineL t) = s ++ mkB (lineL ((u, (k : Int)) :: t)) := by
        apply B_inj
        unfold lineL
        rw [B_append, B_append, B_append, B_mkB, B_mkB, B_mkB, List.map_cons, List.flatten_cons, List.append_assoc]
        unfold rt
        rw [Int.toNat_natCast]
      rw [e] at ih1
      rw [cs1] at ih1 ih2
      clear ih e hz
      generalize s ++ mkB (lineL ((u, (k : Int)) :: t)) = R at *
      generalize hM : mkB (List.replicate k (ch u)) = M at *
      rw [loopW_eq]
      generalize l.map pn = Q at *
      have hu2 : u = 0 ∨ u = 1 := by omega
      refine ⟨fun h => ?_, fun h => ?_⟩
      · have hh := ih1 h
        generalize loopW (bd E0 (ev E0) loopW 0 [0, 4, 5] L14b0) = K at hh ⊢
        rcases hu2 with rfl | rfl
        · rw [show ch 0 = 48 from rfl] at hmany
          simpa -implicitDefEqProofs [bd, L14b0, hi, hii, hg, hg1, hQ, hfr, hw, hwn, hsz, ha, hb, hmany, hsz2, ex0, ex1, ex2, i1, i2] using hh
        · rw [show ch 1 = 49 from rfl] at hmany
          simpa -implicitDefEqProofs [bd, L14b0, hi, hii, hg, hg1, hQ, hfr, hw, hwn, hsz, ha, hb, hmany, hsz2, ex0, ex1, ex2, i1, i2] using hh
      · obtain ⟨b, hh⟩ := ih2 h
        refine ⟨b, ?_⟩
        generalize loopW (bd E0 (ev E0) loopW 0 [0, 4, 5] L14b0) = K at hh ⊢
        rcases hu2 with rfl | rfl
        · rw [show ch 0 = 48 from rfl] at hmany
          simpa -implicitDefEqProofs [bd, L14b0, hi, hii, hg, hg1, hQ, hfr, hw, hwn, hsz, ha, hb, hmany, hsz2, ex0, ex1, ex2, i1, i2] using hh
        · rw [show ch 1 = 49 from rfl] at hmany
          simpa -implicitDefEqProofs [bd, L14b0, hi, hii, hg, hg1, hQ, hfr, hw, hwn, hsz, ha, hb, hmany, hsz2, ex0, ex1, ex2, i1, i2] using hh
    · have hj1 : (l.map pn)[j]? = some (.agg [i64 q.1, i64 q.2]) := by rw [List.getElem?_map, hj]; rfl
      have hj2 : ∀ h, (l.map pn)[j]'h = .agg [i64 q.1, i64 q.2] := fun h => (List.getElem?_eq_some_iff.1 hj1).2
      have hjl : j < l.length := by omega
      have hjl2 : (j : Int) < (l.length : Int) := by omega
      have hp0 : (0 : Int) < (j : Int) + 1 := by omega
      have hp1 : (0 : Int) ≤ (j : Int) + 1 := by omega
      have hwj : IntKind.i64.wrap (j : Int) = (j : Int) := wr64 (by omega) (by omega)
      rw [cs1] at hii hw ⊢
      by_cases hm : 1 ≤ m ∧ m ≤ 200 - n
      case neg =>
        have hmb2 : (decide (1 ≤ m) && decide (m ≤ 200 - n)) = false := by
          rw [Bool.and_eq_false_iff, decide_eq_false_iff_not, decide_eq_false_iff_not]
          omega
        rw [hmb2] at hb ⊢
        rw [Bool.false_and]
        by_cases hq : q.1 = u
        case pos =>
          obtain ⟨q1, q2⟩ := q
          dsimp only at hq hj1 hj2
          subst hq
          refine ⟨fun h => (by simp at h), fun _ => ⟨s, ?_⟩⟩
          rw [loopW_eq]
          clear ih
          generalize l.map pn = Q at *
          generalize loopW (bd E0 (ev E0) loopW 0 [0, 4, 5] L14b0) = K
          simp -implicitDefEqProofs [bd, L14b0, hi, hii, hg, hg1, hQ, hfr, hw, hwn, hsz, hj1, hj2, hjl, hjl2, hp0, hp1, hwj, ha, hb]
        case neg =>
          have hq2 : ¬ u = q.1 := fun e => hq e.symm
          refine ⟨fun h => (by simp at h), fun _ => ⟨s, ?_⟩⟩
          rw [loopW_eq]
          clear ih
          generalize l.map pn = Q at *
          generalize loopW (bd E0 (ev E0) loopW 0 [0, 4, 5] L14b0) = K
          simp -implicitDefEqProofs [bd, L14b0, hi, hii, hg, hg1, hQ, hfr, hw, hwn, hsz, hj1, hj2, hjl, hjl2, hp0, hp1, hwj, ha, hb, hq, hq2]
      case pos =>
      have hmb2 : (decide (1 ≤ m) && decide (m ≤ 200 - n)) = true := by rw [decide_eq_true hm.1, decide_eq_true hm.2]; rfl
      rw [hmb2] at hb ⊢
      rw [Bool.true_and]
      by_cases hq : q.1 = u
      case pos =>
        rw [decide_eq_false (by rw [hq]; simp), Bool.false_and]
        obtain ⟨q1, q2⟩ := q
        dsimp only at hq hj1 hj2
        subst hq
        refine ⟨fun h => (by simp at h), fun _ => ⟨s, ?_⟩⟩
        rw [loopW_eq]
        clear ih
        generalize l.map pn = Q at *
        generalize loopW (bd E0 (ev E0) loopW 0 [0, 4, 5] L14b0) = K
        simp -implicitDefEqProofs [bd, L14b0, hi, hii, hg, hg1, hQ, hfr, hw, hwn, hsz, hj1, hj2, hjl, hjl2, hp0, hp1, hwj, ha, hb]
      case neg =>
      have hq2 : ¬ u = q.1 := fun e => hq e.symm
      rw [decide_eq_true (by intro e; cases e; exact hq rfl : (some q.1 : Option Int) ≠ some u), Bool.true_and]
      obtain ⟨k, rfl⟩ : ∃ k : Nat, m = k := ⟨m.toNat, by omega⟩
      have hmany := many_s (ch u) k (by omega)
      have hz : (mkB (List.replicate k (ch u))).size = k := by rw [mkB_size, List.length_replicate]
      have hsz2 : s.size + (mkB (List.replicate k (ch u))).size ≤ 9223372036854775807 := by omega
      obtain ⟨ih1, ih2⟩ := ih (j + 1 + 1) (some u) (s ++ mkB (List.replicate k (ch u))) (n + k) hd hprev (by rw [ByteArray.size_append, hz]; omega) (by omega)
      have e : (s ++ mkB (List.replicate k (ch u))) ++ mkB (lineL t) = s ++ mkB (lineL ((u, (k : Int)) :: t)) := by
        apply B_inj
        unfold lineL
        rw [B_append, B_append, B_append, B_mkB, B_mkB, B_mkB, List.map_cons, List.flatten_cons, List.append_assoc]
        unfold rt
        rw [Int.toNat_natCast]
      rw [e] at ih1
      rw [cs1] at ih1 ih2
      clear ih e hz
      generalize s ++ mkB (lineL ((u, (k : Int)) :: t)) = R at *
      generalize hM : mkB (List.replicate k (ch u)) = M at *
      rw [loopW_eq]
      generalize l.map pn = Q at *
      have hu2 : u = 0 ∨ u = 1 := by omega
      refine ⟨fun h => ?_, fun h => ?_⟩
      · have hh := ih1 h
        generalize loopW (bd E0 (ev E0) loopW 0 [0, 4, 5] L14b0) = K at hh ⊢
        rcases hu2 with rfl | rfl
        · rw [show ch 0 = 48 from rfl] at hmany
          simpa -implicitDefEqProofs [bd, L14b0, hi, hii, hg, hg1, hQ, hfr, hw, hwn, hsz, hj1, hj2, hjl, hjl2, hp0, hp1, hwj, hq, hq2, ha, hb, hmany, hsz2, ex0, ex1, ex2, i1, i2] using hh
        · rw [show ch 1 = 49 from rfl] at hmany
          simpa -implicitDefEqProofs [bd, L14b0, hi, hii, hg, hg1, hQ, hfr, hw, hwn, hsz, hj1, hj2, hjl, hjl2, hp0, hp1, hwj, hq, hq2, ha, hb, hmany, hsz2, ex0, ex1, ex2, i1, i2] using hh
      · obtain ⟨b, hh⟩ := ih2 h
        refine ⟨b, ?_⟩
        generalize loopW (bd E0 (ev E0) loopW 0 [0, 4, 5] L14b0) = K at hh ⊢
        rcases hu2 with rfl | rfl
        · rw [show ch 0 = 48 from rfl] at hmany
          simpa -implicitDefEqProofs [bd, L14b0, hi, hii, hg, hg1, hQ, hfr, hw, hwn, hsz, hj1, hj2, hjl, hjl2, hp0, hp1, hwj, hq, hq2, ha, hb, hmany, hsz2, ex0, ex1, ex2, i1, i2] using hh
        · rw [show ch 1 = 49 from rfl] at hmany
          simpa -implicitDefEqProofs [bd, L14b0, hi, hii, hg, hg1, hQ, hfr, hw, hwn, hsz, hj1, hj2, hjl, hjl2, hp0, hp1, hwj, hq, hq2, ha, hb, hmany, hsz2, ex0, ex1, ex2, i1, i2] using hh
theorem lorI_loop (l : List P) (hl : l.length ≤ 1000000) : ∀ (t : List P) (i : Nat) (v : Option Int) (n : Int), l.drop i = t → Prev l i v → 0 ≤ n → n ≤ 200 →
    (okRs v n t = true → packX 0 [0, 2, 3] (loopW (bd E0 (ev E0) loopW 0 [0, 4, 7, 8, 9] L13b0) ⟨[(0, .lst 2 (l.map pn)), (4, i64 n), (7, .lst 2 (l.map pn)), (8, i64 l.length), (9, i64 i)], []⟩) = some (.ext 0, ⟨[(0, .lst 2 (l.map pn))], []⟩)) ∧
    (okRs v n t = false → packX 0 [0, 2, 3] (loopW (bd E0 (ev E0) loopW 0 [0, 4, 7, 8, 9] L13b0) ⟨[(0, .lst 2 (l.map pn)), (4, i64 n), (7, .lst 2 (l.map pn)), (8, i64 l.length), (9, i64 i)], []⟩) = some (.ret, ⟨[(0, .lst 2 (l.map pn)), (2, st ⟨#[]⟩), (3, bl false)], []⟩)) := by
  have hQ : (l.map pn).length = l.length := List.length_map _
  have hfr := free_pn l
  intro t
  induction t with
  | nil =>
    intro i v n h hv h0 h1
    have hi := not_drop h
    have hii : ¬ (i : Int) < (l.length : Int) := by omega
    refine ⟨fun _ => ?_, fun h => (by cases h)⟩
    rw [loopW_eq]
    generalize l.map pn = Q at *
    generalize loopW (bd E0 (ev E0) loopW 0 [0, 4, 7, 8, 9] L13b0) = K
    simp -implicitDefEqProofs [bd, L13b0, hi, hii, hQ, hfr]
  | cons p t ih =>
    intro i v n h hv h0 h1
    obtain ⟨hi, hx, hd, hmem⟩ := at_drop h
    have hii : (i : Int) < (l.length : Int) := by omega
    obtain ⟨u, m⟩ := p
    have hg1 : (l.map pn)[i]? = some (.agg [i64 u, i64 m]) := by rw [List.getElem?_map, List.getElem?_eq_getElem hi, hx]; rfl
    have hg : ∀ h, (l.map pn)[i]'h = .agg [i64 u, i64 m] := fun h => (List.getElem?_eq_some_iff.1 hg1).2
    have hprev : Prev l (i + 1) (some u) := .inr ⟨i, (u, m), rfl, by rw [List.getElem?_eq_getElem hi, hx], rfl⟩
    have hw : IntKind.i64.wrap ((i : Int) + 1) = (i : Int) + 1 := wr64 (by omega) (by omega)
    have ha := in_i u 0 1
    have hb := in_i m 1 200
    rw [okRs]
    dsimp only
    by_cases hu : 0 ≤ u ∧ u ≤ 1
    case neg =>
      have hub : (decide (0 ≤ u) && decide (u ≤ 1)) = false := by
        rw [Bool.and_eq_false_iff, decide_eq_false_iff_not, decide_eq_false_iff_not]
        omega
      rw [hub] at ha ⊢
      rw [Bool.false_and]
      refine ⟨fun h => (by simp at h), fun _ => ?_⟩
      rw [loopW_eq]
      clear ih
      generalize l.map pn = Q at *
      generalize loopW (bd E0 (ev E0) loopW 0 [0, 4, 7, 8, 9] L13b0) = K
      simp -implicitDefEqProofs [bd, L13b0, hi, hii, hg, hg1, hQ, hfr, hw, ha]
    case pos =>
    have hub : (decide (0 ≤ u) && decide (u ≤ 1)) = true := by rw [decide_eq_true hu.1, decide_eq_true hu.2]; rfl
    rw [hub] at ha ⊢
    rw [Bool.true_and]
    rcases hv with ⟨rfl, rfl⟩ | ⟨j, q, rfl, hj, rfl⟩
    · rw [c0] at *
      by_cases hm : 1 ≤ m ∧ m ≤ 200 - n
      case neg =>
        have hmb2 : (decide (1 ≤ m) && decide (m ≤ 200 - n)) = false := by
          rw [Bool.and_eq_false_iff, decide_eq_false_iff_not, decide_eq_false_iff_not]
          omega
        rw [hmb2] at ⊢
        rw [Bool.false_and]
        by_cases hm2 : 1 ≤ m ∧ m ≤ 200
        case neg =>
          have hmb : (decide (1 ≤ m) && decide (m ≤ 200)) = false := by
            rw [Bool.and_eq_false_iff, decide_eq_false_iff_not, decide_eq_false_iff_not]
            omega
          rw [hmb] at hb
          refine ⟨fun h => (by simp at h), fun _ => ?_⟩
          rw [loopW_eq]
          clear ih
          generalize l.map pn = Q at *
          generalize loopW (bd E0 (ev E0) loopW 0 [0, 4, 7, 8, 9] L13b0) = K
          simp -implicitDefEqProofs [bd, L13b0, hi, hii, hg, hg1, hQ, hfr, hw, ha, hb]
        case pos =>
          have hmb : (decide (1 ≤ m) && decide (m ≤ 200)) = true := by rw [decide_eq_true hm2.1, decide_eq_true hm2.2]; rfl
          rw [hmb] at hb
          have hwt : IntKind.i64.wrap (n + m) = n + m := wr64 (by omega) (by omega)
          have hbig : 200 < n + m := by omega
          refine ⟨fun h => (by simp at h), fun _ => ?_⟩
          rw [loopW_eq]
          clear ih
          generalize l.map pn = Q at *
          generalize loopW (bd E0 (ev E0) loopW 0 [0, 4, 7, 8, 9] L13b0) = K
          simp -implicitDefEqProofs [bd, L13b0, hi, hii, hg, hg1, hQ, hfr, hw, ha, hb, hwt, hbig]
      case pos =>
      have hmb2 : (decide (1 ≤ m) && decide (m ≤ 200 - n)) = true := by rw [decide_eq_true hm.1, decide_eq_true hm.2]; rfl
      have hmb : (decide (1 ≤ m) && decide (m ≤ 200)) = true := by rw [decide_eq_true hm.1, decide_eq_true (by omega : m ≤ 200)]; rfl
      rw [hmb] at hb
      rw [hmb2]
      rw [Bool.true_and]
      rw [decide_eq_true (by simp : (none : Option Int) ≠ some u), Bool.true_and]
      obtain ⟨k, rfl⟩ : ∃ k : Nat, m = k := ⟨m.toNat, by omega⟩
      have hwt : IntKind.i64.wrap (n + (k : Int)) = n + (k : Int) := wr64 (by omega) (by omega)
      have hbig : ¬ 200 < n + (k : Int) := by omega
      obtain ⟨ih1, ih2⟩ := ih (0 + 1) (some u) (n + k) hd hprev (by omega) (by omega)
      rw [cs1] at ih1 ih2
      clear ih
      rw [loopW_eq]
      generalize l.map pn = Q at *
      refine ⟨fun h => ?_, fun h => ?_⟩
      · have hh := ih1 h
        generalize loopW (bd E0 (ev E0) loopW 0 [0, 4, 7, 8, 9] L13b0) = K at hh ⊢
        simpa -implicitDefEqProofs [bd, L13b0, hi, hii, hg, hg1, hQ, hfr, hw, ha, hb, hwt, hbig, i1] using hh
      · have hh := ih2 h
        generalize loopW (bd E0 (ev E0) loopW 0 [0, 4, 7, 8, 9] L13b0) = K at hh ⊢
        simpa -implicitDefEqProofs [bd, L13b0, hi, hii, hg, hg1, hQ, hfr, hw, ha, hb, hwt, hbig, i1] using hh
    · have hj1 : (l.map pn)[j]? = some (.agg [i64 q.1, i64 q.2]) := by rw [List.getElem?_map, hj]; rfl
      have hj2 : ∀ h, (l.map pn)[j]'h = .agg [i64 q.1, i64 q.2] := fun h => (List.getElem?_eq_some_iff.1 hj1).2
      have hjl : j < l.length := by omega
      have hjl2 : (j : Int) < (l.length : Int) := by omega
      have hp0 : (0 : Int) < (j : Int) + 1 := by omega
      have hp1 : (0 : Int) ≤ (j : Int) + 1 := by omega
      have hwj : IntKind.i64.wrap (j : Int) = (j : Int) := wr64 (by omega) (by omega)
      rw [cs1] at hii hw ⊢
      by_cases hm : 1 ≤ m ∧ m ≤ 200 - n
      case neg =>
        have hmb2 : (decide (1 ≤ m) && decide (m ≤ 200 - n)) = false := by
          rw [Bool.and_eq_false_iff, decide_eq_false_iff_not, decide_eq_false_iff_not]
          omega
        rw [hmb2] at ⊢
        rw [Bool.false_and]
        by_cases hm2 : 1 ≤ m ∧ m ≤ 200
        case neg =>
          have hmb : (decide (1 ≤ m) && decide (m ≤ 200)) = false := by
            rw [Bool.and_eq_false_iff, decide_eq_false_iff_not, decide_eq_false_iff_not]
            omega
          rw [hmb] at hb
          refine ⟨fun h => (by simp at h), fun _ => ?_⟩
          rw [loopW_eq]
          clear ih
          generalize l.map pn = Q at *
          generalize loopW (bd E0 (ev E0) loopW 0 [0, 4, 7, 8, 9] L13b0) = K
          simp -implicitDefEqProofs [bd, L13b0, hi, hii, hg, hg1, hQ, hfr, hw, hj1, hj2, hjl, hjl2, hp0, hp1, hwj, ha, hb]
        case pos =>
          have hmb : (decide (1 ≤ m) && decide (m ≤ 200)) = true := by rw [decide_eq_true hm2.1, decide_eq_true hm2.2]; rfl
          rw [hmb] at hb
          have hwt : IntKind.i64.wrap (n + m) = n + m := wr64 (by omega) (by omega)
          have hbig : 200 < n + m := by omega
          refine ⟨fun h => (by simp at h), fun _ => ?_⟩
          rw [loopW_eq]
          clear ih
          generalize l.map pn = Q at *
          generalize loopW (bd E0 (ev E0) loopW 0 [0, 4, 7, 8, 9] L13b0) = K
          simp -implicitDefEqProofs [bd, L13b0, hi, hii, hg, hg1, hQ, hfr, hw, hj1, hj2, hjl, hjl2, hp0, hp1, hwj, ha, hb, hwt, hbig]
      case pos =>
      have hmb2 : (decide (1 ≤ m) && decide (m ≤ 200 - n)) = true := by rw [decide_eq_true hm.1, decide_eq_true hm.2]; rfl
      have hmb : (decide (1 ≤ m) && decide (m ≤ 200)) = true := by rw [decide_eq_true hm.1, decide_eq_true (by omega : m ≤ 200)]; rfl
      rw [hmb] at hb
      rw [hmb2]
      rw [Bool.true_and]
      by_cases hq : q.1 = u
      case pos =>
        rw [decide_eq_false (by rw [hq]; simp), Bool.false_and]
        obtain ⟨q1, q2⟩ := q
        dsimp only at hq hj1 hj2
        subst hq
        refine ⟨fun h => (by simp at h), fun _ => ?_⟩
        rw [loopW_eq]
        clear ih
        generalize l.map pn = Q at *
        generalize loopW (bd E0 (ev E0) loopW 0 [0, 4, 7, 8, 9] L13b0) = K
        simp -implicitDefEqProofs [bd, L13b0, hi, hii, hg, hg1, hQ, hfr, hw, hj1, hj2, hjl, hjl2, hp0, hp1, hwj, ha, hb]
      case neg =>
      have hq2 : ¬ u = q.1 := fun e => hq e.symm
      rw [decide_eq_true (by intro e; cases e; exact hq rfl : (some q.1 : Option Int) ≠ some u), Bool.true_and]
      obtain ⟨k, rfl⟩ : ∃ k : Nat, m = k := ⟨m.toNat, by omega⟩
      have hwt : IntKind.i64.wrap (n + (k : Int)) = n + (k : Int) := wr64 (by omega) (by omega)
      have hbig : ¬ 200 < n + (k : Int) := by omega
      obtain ⟨ih1, ih2⟩ := ih (j + 1 + 1) (some u) (n + k) hd hprev (by omega) (by omega)
      rw [cs1] at ih1 ih2
      clear ih
      rw [loopW_eq]
      generalize l.map pn = Q at *
      refine ⟨fun h => ?_, fun h => ?_⟩
      · have hh := ih1 h
        generalize loopW (bd E0 (ev E0) loopW 0 [0, 4, 7, 8, 9] L13b0) = K at hh ⊢
        simpa -implicitDefEqProofs [bd, L13b0, hi, hii, hg, hg1, hQ, hfr, hw, hj1, hj2, hjl, hjl2, hp0, hp1, hwj, hq, hq2, ha, hb, hwt, hbig, i1] using hh
      · have hh := ih2 h
        generalize loopW (bd E0 (ev E0) loopW 0 [0, 4, 7, 8, 9] L13b0) = K at hh ⊢
        simpa -implicitDefEqProofs [bd, L13b0, hi, hii, hg, hg1, hQ, hfr, hw, hj1, hj2, hjl, hjl2, hp0, hp1, hwj, hq, hq2, ha, hb, hwt, hbig, i1] using hh
end Go.Proofs.YtckfbfgfjlgmeaaGreatDoor.Ev
