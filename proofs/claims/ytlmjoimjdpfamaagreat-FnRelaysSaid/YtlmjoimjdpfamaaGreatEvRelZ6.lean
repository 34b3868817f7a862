/- Loads of stations: the loops over jobs, and the program's. -/
import Derived.Test.YtlmjoimjdpfamaaGreatEvRelZ5
set_option linter.unusedVariables false
set_option linter.unusedSimpArgs false
namespace Go.Proofs.YtlmjoimjdpfamaaGreat.Ev
theorem ldJs_len : ∀ (t : List J) (l : List Int), (ldJs t l).length = l.length
  | [], l => rfl
  | j :: t, l => by rw [ldJs, ldJs_len t, ldS_len]
theorem loadS_out (js : List J) (hjl : js.length ≤ 5) (n : Nat) (hn : n ≤ 6) (hJ : ∀ j ∈ js, NB n j) : ∀ (t : List J) (i : Nat) (l : List Int) (B : Int), js.drop i = t → l.length = n → Bd l B → B + 600 * t.length ≤ 90000 →
    packX 0 [5] (loopW (bd E0 (ev E0) loopW 0 [1, 5, 6] L36b1) ⟨[(1, .lst 4 (js.map jb)), (5, .sl 0 0 n), (6, i64 i)], [rwI l]⟩) = some (.ext 0, ⟨[(5, .sl 0 0 n)], [rwI (ldJs t l)]⟩) := by
  intro t
  induction t with
  | nil =>
    intro i l B h hl hB hb
    have hi := not_drop h
    have hi2 : ¬ (i : Int) < (js.length : Int) := by omega
    rw [loopW_eq, ldJs]
    generalize loopW (bd E0 (ev E0) loopW 0 [1, 5, 6] L36b1) = K
    unfold rwI
    simp -implicitDefEqProofs [bd, L36b1, hi]
  | cons j t ih =>
    intro i l B h hl hB hb
    obtain ⟨hi, hx, hd, hmem⟩ := at_drop h
    have hN : NB n js[i] := hJ _ (List.getElem_mem hi)
    have hmp := hN.jb.many_pos
    have hs := steps_s js[i] hN.jb
    have hlp := loadS_in js i hi n hn hN (many js[i]).toNat 0 l B (by omega) hl hB (by rw [List.length_cons] at hb; omega)
    have hB2 := ldS_bd hN (many js[i]).toNat 0 l B (by omega) hl hB
    have hih := ih (i + 1) (ldS js[i] (many js[i]).toNat 0 l) (B + 600) hd (by rw [ldS_len]; exact hl) (fun x hx => by have := hB2 x hx; omega) (by rw [List.length_cons] at hb; omega)
    have hw : IntKind.i64.wrap ((i : Int) + 1) = (i : Int) + 1 := wr64 (by omega) (by omega)
    rw [cs1] at hih
    rw [c0] at hlp
    rw [loopW_eq, ldJs, ← hx]
    generalize ldS js[i] (many js[i]).toNat 0 l = l2 at *
    generalize loopW (bd E0 (ev E0) loopW 0 [1, 5, 6] L36b1) = K at hih ⊢
    unfold rwI at *
    generalize (ldJs t l2).map i64 = Z at *
    generalize l2.map i64 = Y at *
    generalize l.map i64 = X at *
    unfold jb at *
    simpa -implicitDefEqProofs [bd, L36b1, hi, hs, hlp, hw] using hih
theorem rep_bd (n : Nat) : Bd (List.replicate n (0 : Int)) 0 := fun x hx => by rw [(List.mem_replicate.1 hx).2]; omega
theorem rep_map (n : Nat) : (List.replicate n (0 : Int)).map i64 = List.replicate n (i64 0) := List.map_replicate
theorem loads_s (js : List J) (hjl : js.length ≤ 5) (n : Nat) (hn : n ≤ 6) (hJ : ∀ j ∈ js, NB n j) : ev E0 36 [i64 n, .lst 4 (js.map jb)] [] = some (.sl 0 0 n, [rwI (ldJs js (List.replicate n 0))]) := by
  have hl := loadS_out js hjl n hn hJ js 0 (List.replicate n 0) 0 rfl (by simp) (rep_bd n) (by omega)
  rw [c0] at hl
  have m1 : (n : Int) * 8 ≤ 140737488355328 := by omega
  have m2 : (n : Int) ≤ 140737488355328 := by omega
  rw [e36]
  unfold runF
  unfold rwI at *
  rw [rep_map] at hl
  generalize (ldJs js (List.replicate n 0)).map i64 = Z at *
  generalize js.map jb = JL at *
  simp -implicitDefEqProofs [L36, hl, m1, m2]
theorem loadI_in (JL : List AV) (jl ji : Int) (j : J) (n : Nat) (hn : n ≤ 6) (hJ : NB n j) : ∀ (c d : Nat) (l : List Int) (B : Int), (d : Int) + c = many j → l.length = n → Bd l B → B + 120 * c ≤ 100000 →
    packX 0 [5, 11, 12, 13] (loopW (bd E0 (ev E0) loopW 0 [5, 7, 8, 11, 12, 13] L34b0) ⟨[(5, .sl 0 0 n), (7, .ptr 1 0 0), (8, i64 (atJ j d)), (11, .lst 4 JL), (12, i64 jl), (13, i64 ji)], [rwI l, ojb j]⟩) = some (.ext 2, ⟨[(5, .sl 0 0 n), (11, .lst 4 JL), (12, i64 jl), (13, i64 ji)], [rwI (ldS j c d l)]⟩) := by
  intro c
  have s0 := hJ.jb.s0
  have s1 := hJ.jb.s1
  have f0 := hJ.jb.f0
  have f1 := hJ.jb.f1
  have hmp := hJ.jb.many_pos
  induction c with
  | zero =>
    intro d l B e hl hB hb
    obtain ⟨a1, a2⟩ := atJ_ok hJ (d := d) (by omega)
    have h1 : (atJ j d : Int) = j.2.1 := by rw [← a1]; exact (at_to hJ.jb d).2 (by omega)
    rw [loopW_eq, ldS]
    generalize loopW (bd E0 (ev E0) loopW 0 [5, 7, 8, 11, 12, 13] L34b0) = K
    unfold rwI ojb jb
    simp -implicitDefEqProofs [bd, L34b0, h1]
  | succ c ih =>
    intro d l B e hl hB hb
    obtain ⟨a1, a2⟩ := atJ_ok hJ (d := d) (by omega)
    obtain ⟨a3, a4⟩ := atJ_ok hJ (d := d + 1) (by omega)
    have h1 : ¬ (atJ j d : Int) = j.2.1 := fun h => by
      rw [← a1] at h
      have := (at_to hJ.jb d).1 h
      omega
    have b1 := addS_bd hB (i := atJ j d) (by omega) (by omega) s1
    have l1 := addS_len l (atJ j d) j.2.2.1
    have b2 := addS_bd b1 (i := atJ j (d + 1)) (by omega) (by omega) s1
    have l2 := addS_len (addS l (atJ j d) j.2.2.1) (atJ j (d + 1)) j.2.2.1
    have hih := ih (d + 1) _ _ (by omega) (by omega) b2 (by omega)
    have v1 := hB _ (getD_mem (l := l) (i := atJ j d) (by omega))
    have v2 := b1 _ (getD_mem (l := addS l (atJ j d) j.2.2.1) (i := atJ j (d + 1)) (by omega))
    rw [ldS, loopW_eq]
    have e1 := addS_map l (atJ j d) j.2.2.1
    have e2 := addS_map (addS l (atJ j d) j.2.2.1) (atJ j (d + 1)) j.2.2.1
    have hnx := next_i j hJ.jb (atJ j d) (by omega) (by omega)
    have hw3 : (atJ j d : Int) + way j = (atJ j (d + 1) : Int) := by rw [← a1, ← a3, Int.natCast_add, Int.mul_add, Int.natCast_one, Int.mul_one]; omega
    rw [hw3] at hnx
    have m1 : l.length = (l.map i64).length := by simp
    have m2 : (addS l (atJ j d) j.2.2.1).length = ((addS l (atJ j d) j.2.2.1).map i64).length := by simp
    have g1 : (l.map i64)[atJ j d]? = some (i64 (l.getD (atJ j d) 0)) := by rw [List.getElem?_map, List.getElem?_eq_getElem (by omega), List.getD_eq_getElem?_getD, List.getElem?_eq_getElem (by omega)]; rfl
    have g2 : ((addS l (atJ j d) j.2.2.1).map i64)[atJ j (d + 1)]? = some (i64 ((addS l (atJ j d) j.2.2.1).getD (atJ j (d + 1)) 0)) := by rw [List.getElem?_map, List.getElem?_eq_getElem (by omega), List.getD_eq_getElem?_getD, List.getElem?_eq_getElem (by omega)]; rfl
    generalize addS (addS l (atJ j d) j.2.2.1) (atJ j (d + 1)) j.2.2.1 = l3 at *
    have hv1 : IntKind.i64.wrap (l.getD (atJ j d) 0 + j.2.2.1) = l.getD (atJ j d) 0 + j.2.2.1 := wr64 (by omega) (by omega)
    have hv2 : IntKind.i64.wrap ((addS l (atJ j d) j.2.2.1).getD (atJ j (d + 1)) 0 + j.2.2.1) = (addS l (atJ j d) j.2.2.1).getD (atJ j (d + 1)) 0 + j.2.2.1 := wr64 (by omega) (by omega)
    generalize (addS l (atJ j d) j.2.2.1).getD (atJ j (d + 1)) 0 = V2 at *
    generalize l.getD (atJ j d) 0 = V1 at *
    generalize addS l (atJ j d) j.2.2.1 = l4 at *
    have n1 : atJ j d < (l.map i64).length := by omega
    have n2 : atJ j (d + 1) < (l4.map i64).length := by omega
    have q1 : (l.map i64)[atJ j d]'n1 = i64 V1 := Option.some.inj ((List.getElem?_eq_getElem n1).symm.trans g1)
    have q2 : (l4.map i64)[atJ j (d + 1)]'n2 = i64 V2 := Option.some.inj ((List.getElem?_eq_getElem n2).symm.trans g2)
    generalize atJ j (d + 1) = A2 at *
    generalize atJ j d = A1 at *
    generalize loopW (bd E0 (ev E0) loopW 0 [5, 7, 8, 11, 12, 13] L34b0) = K at hih ⊢
    unfold rwI at hih ⊢
    generalize ldS j c (d + 1) l3 = LR at *
    rw [e2] at hih
    generalize l.map i64 = X at *
    generalize l4.map i64 = X4 at *
    generalize LR.map i64 = XR at *
    have k1 : n ≤ X.length := by omega
    have k2 : n ≤ X4.length := by omega
    have k3 : A1 < n := a2
    have k4 : A2 < n := a4
    unfold ojb at hih ⊢
    unfold jb at hih hnx ⊢
    simpa -implicitDefEqProofs [bd, L34b0, h1, hnx, hv1, hv2, n1, n2, q1, q2, k1, k2, k3, k4, ← e1] using hih
theorem loadI_out (js : List J) (hjl : js.length ≤ 5) (n : Nat) (hn : n ≤ 6) (hJ : ∀ j ∈ js, NB n j) : ∀ (t : List J) (i : Nat) (l : List Int) (B : Int), js.drop i = t → l.length = n → Bd l B → B + 600 * t.length ≤ 90000 →
    packX 0 [5] (loopW (bd E0 (ev E0) loopW 0 [5, 11, 12, 13] L34b1) ⟨[(5, .sl 0 0 n), (11, .lst 4 (js.map jb)), (12, i64 js.length), (13, i64 i)], [rwI l]⟩) = some (.ext 0, ⟨[(5, .sl 0 0 n)], [rwI (ldJs t l)]⟩) := by
  intro t
  induction t with
  | nil =>
    intro i l B h hl hB hb
    have hi := not_drop h
    have hi2 : ¬ (i : Int) < (js.length : Int) := by omega
    rw [loopW_eq, ldJs]
    generalize loopW (bd E0 (ev E0) loopW 0 [5, 11, 12, 13] L34b1) = K
    unfold rwI
    simp -implicitDefEqProofs [bd, L34b1, hi]
  | cons j t ih =>
    intro i l B h hl hB hb
    obtain ⟨hi, hx, hd, hmem⟩ := at_drop h
    have hN : NB n js[i] := hJ _ (List.getElem_mem hi)
    have hmp := hN.jb.many_pos
    have hlp := loadI_in (js.map jb) js.length i js[i] n hn hN (many js[i]).toNat 0 l B (by omega) hl hB (by rw [List.length_cons] at hb; omega)
    have ha0 : (atJ js[i] 0 : Int) = js[i].1 := by rw [← (atJ_ok hN (d := 0) (by omega)).1]; simp
    rw [ha0] at hlp
    have hB2 := ldS_bd hN (many js[i]).toNat 0 l B (by omega) hl hB
    have hih := ih (i + 1) (ldS js[i] (many js[i]).toNat 0 l) (B + 600) hd (by rw [ldS_len]; exact hl) (fun x hx => by have := hB2 x hx; omega) (by rw [List.length_cons] at hb; omega)
    have hw : IntKind.i64.wrap ((i : Int) + 1) = (i : Int) + 1 := wr64 (by omega) (by omega)
    rw [cs1] at hih
    rw [loopW_eq, ldJs, ← hx]
    generalize ldS js[i] (many js[i]).toNat 0 l = l2 at *
    generalize loopW (bd E0 (ev E0) loopW 0 [5, 11, 12, 13] L34b1) = K at hih ⊢
    unfold rwI at *
    generalize (ldJs t l2).map i64 = Z at *
    generalize l2.map i64 = Y at *
    generalize l.map i64 = X at *
    unfold ojb at *
    unfold jb at *
    simpa -implicitDefEqProofs [bd, L34b1, hi, hlp, hw] using hih
theorem loads_i (js : List J) (hjl : js.length ≤ 5) (n : Nat) (hn : n ≤ 6) (hJ : ∀ j ∈ js, NB n j) : ev E0 34 [i64 n, .lst 4 (js.map jb)] [] = some (.sl 0 0 n, [rwI (ldJs js (List.replicate n 0))]) := by
  have hl := loadI_out js hjl n hn hJ js 0 (List.replicate n 0) 0 rfl (by simp) (rep_bd n) (by omega)
  rw [c0] at hl
  have m1 : (n : Int) * 8 ≤ 140737488355328 := by omega
  have m2 : (n : Int) ≤ 140737488355328 := by omega
  rw [e34]
  unfold runF
  unfold rwI at *
  rw [rep_map] at hl
  generalize (ldJs js (List.replicate n 0)).map i64 = Z at *
  have hjm : (js.map jb).length = js.length := by simp
  generalize js.map jb = JL at *
  simp -implicitDefEqProofs [L34, hjm, hl, m1, m2]
end Go.Proofs.YtlmjoimjdpfamaaGreat.Ev
