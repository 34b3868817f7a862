/- The loops of the law on ways of mistakes. -/
import Derived.Test.YtodcochnciadjaaDoorEvMiH
set_option linter.unusedVariables false
set_option linter.unusedSimpArgs false
namespace Go.Proofs.YtodcochnciadjaaDoor.Ev
open Dr
theorem lJ (x : List Int) (us : List ByteArray) (c : Int) (Y : List Nat) (R : List (Nat × Nat × Nat)) (hR : R.length ≤ 1000000) : ∀ (t : List (Nat × Nat × Nat)) (i : Nat), R.drop i = t →
    packX 0 [0, 2, 20, 21, 23] (loopW (bd E1 (ev E1) loopW 0 [0, 20, 21, 23, 28, 30, 32] L3b0) ⟨[(0, .lst 1 (cd x)), (20, .ptr 0 0 0), (21, i64 c), (23, .lst 1 (ns Y)), (28, .lst 3 (tr3s R)), (30, .lst 3 (tr3s R)), (32, i64 i)], [some (tb us)]⟩) =
      some (.ext 0, ⟨[(0, .lst 1 (cd x)), (20, .ptr 0 0 0), (21, i64 c), (23, .lst 1 (ns Y))], [some (tb us)]⟩) := by
  unfold tb
  intro t
  induction t with
  | nil =>
    intro i h
    have hi := not_drop h
    have hii : ¬ (i : Int) < (R.length : Int) := by omega
    have hnl := tr3s_len R
    rw [loopW_eq]
    generalize loopW (bd E1 (ev E1) loopW 0 [0, 20, 21, 23, 28, 30, 32] L3b0) = K
    generalize tr3s R = nl at *
    simp -implicitDefEqProofs [bd, L3b0, hi, hii, hnl]
  | cons p t ih =>
    intro i h
    obtain ⟨hi, hx, hd, hmem⟩ := at_drop h
    have hih := ih (i + 1) hd
    obtain ⟨a, b, d⟩ := p
    have hii : (i : Int) < (R.length : Int) := by omega
    have g1 := get_tr hi hx
    have hnl := tr3s_len R
    have g2 : ∀ h, (tr3s R)[i]'h = .agg [i64 (a : Int), i64 (b : Int), i64 (d : Int)] := fun h => (List.getElem?_eq_some_iff.1 g1).2
    have hw : IntKind.i64.wrap ((i : Int) + 1) = (i : Int) + 1 := wr64 (by omega) (by omega)
    dsimp only at g1
    rw [cs1] at hih
    rw [loopW_eq]
    clear ih
    generalize loopW (bd E1 (ev E1) loopW 0 [0, 20, 21, 23, 28, 30, 32] L3b0) = K at hih ⊢
    generalize tr3s R = nl at *
    simpa -implicitDefEqProofs [bd, L3b0, hi, hii, g1, g2, hnl, hw] using hih
theorem lW (us ws ys zs : List ByteArray) (hws : smallT ws) (c d f g : Int) (Y S Z : List Nat) (P : List (Nat × Nat)) (hP : P.length ≤ 1000000) (e : Bool) (h0 : 0 ≤ d) (h1 : d < ws.length) (hp : ∀ p ∈ P, p.1 < ws.length ∧ p.2 < ws.length ∧ mk_ ws p.1 ++ mk_ ws p.2 = mk_ ws d.toNat) : ∀ (t : List (Nat × Nat)) (i : Nat), P.drop i = t →
    packX 0 [2, 20, 21, 23, 39, 40, 44, 45, 46, 47, 48] (loopW (bd E1 (ev E1) loopW 0 [20, 21, 23, 33, 34, 35, 39, 40, 44, 45, 46, 47, 48, 51] L3b1) ⟨[(20, .ptr 0 0 0), (21, i64 c), (23, .lst 1 (ns Y)), (33, .ptr 1 0 0), (34, i64 d), (35, .lst 2 (prs P)), (39, .ptr 2 0 0), (40, .lst 1 (ns S)), (44, .ptr 3 0 0), (45, i64 f), (46, i64 g), (47, .lst 1 (ns Z)), (48, bl e), (51, i64 i)], [some (tb us), some (tb ws), some (tb ys), some (tb zs)]⟩) =
      some (.ext 2, ⟨[(20, .ptr 0 0 0), (21, i64 c), (23, .lst 1 (ns Y)), (39, .ptr 1 0 0), (40, .lst 1 (ns S)), (44, .ptr 2 0 0), (45, i64 f), (46, i64 g), (47, .lst 1 (ns Z)), (48, bl e)], [some (tb us), some (tb ys), some (tb zs)]⟩) := by
  unfold tb
  obtain ⟨dn, rfl⟩ : ∃ n : Nat, d = n := ⟨d.toNat, by omega⟩
  have hdn : dn < ws.length := by omega
  have m0 := get_mk hdn
  have m0' := mk_at hdn
  intro t
  induction t with
  | nil =>
    intro i h
    have hi := not_drop h
    have hii : ¬ (i : Int) < (P.length : Int) := by omega
    have hnl := prs_len P
    rw [loopW_eq]
    generalize loopW (bd E1 (ev E1) loopW 0 [20, 21, 23, 33, 34, 35, 39, 40, 44, 45, 46, 47, 48, 51] L3b1) = K
    generalize prs P = nl at *
    simp -implicitDefEqProofs [bd, L3b1, hi, hii, hnl]
  | cons p t ih =>
    intro i h
    obtain ⟨hi, hx, hd, hmem⟩ := at_drop h
    have hih := ih (i + 1) hd
    obtain ⟨a, b⟩ := p
    obtain ⟨ha, hb, hab⟩ := hp _ hmem
    dsimp only at ha hb hab
    rw [Int.toNat_natCast] at hab
    have hii : (i : Int) < (P.length : Int) := by omega
    have g1 : (prs P)[i]? = some (.agg [i64 (a : Int), i64 (b : Int)]) := by unfold prs; rw [List.getElem?_map, List.getElem?_eq_getElem hi, hx]; rfl
    have hnl := prs_len P
    have g2 : ∀ h, (prs P)[i]'h = .agg [i64 (a : Int), i64 (b : Int)] := fun h => (List.getElem?_eq_some_iff.1 g1).2
    have hw : IntKind.i64.wrap ((i : Int) + 1) = (i : Int) + 1 := wr64 (by omega) (by omega)
    have m1 := get_mk ha
    have m1' := mk_at ha
    have m2 := get_mk hb
    have m2' := mk_at hb
    have z1 := mk_sz hws.2 a
    have z2 := mk_sz hws.2 b
    have hsz : (mk_ ws a).size + (mk_ ws b).size ≤ 9223372036854775807 := by omega
    have hai : (a : Int) < (ws.length : Int) := by omega
    have hbi : (b : Int) < (ws.length : Int) := by omega
    rw [cs1] at hih
    rw [loopW_eq]
    clear ih z1 z2
    generalize loopW (bd E1 (ev E1) loopW 0 [20, 21, 23, 33, 34, 35, 39, 40, 44, 45, 46, 47, 48, 51] L3b1) = K at hih ⊢
    generalize prs P = nl at *
    generalize mk_ ws a = u at *
    generalize mk_ ws b = v at *
    generalize mk_ ws dn = w at *
    simpa -implicitDefEqProofs [bd, L3b1, -ByteArray.size_append, hi, hii, g1, g2, hnl, hw, ha, hb, hai, hbi, hdn, h1, m0, m0', m1, m1', m2, m2', hsz, hab] using hih
theorem lY0 (us ys zs : List ByteArray) (hys : smallT ys) (ho : okTable ys = true) (c f g : Int) (Y S Z : List Nat) (e : Bool) (hS : S.length ≤ 1000) (hlt : ∀ j ∈ S, j < ys.length) (i : Nat) (hi : i < S.length) (hap : ∀ a, a < i → 2 ≤ ds (mk_ ys (Bf.Q S i)) (mk_ ys (Bf.Q S a))) : ∀ (r k : Nat), k + r = i →
    packX 0 [2, 20, 21, 23, 39, 40, 44, 45, 46, 47, 48, 52] (loopW (bd E1 (ev E1) loopW 0 [20, 21, 23, 39, 40, 44, 45, 46, 47, 48, 52, 53] L3b2) ⟨[(20, .ptr 0 0 0), (21, i64 c), (23, .lst 1 (ns Y)), (39, .ptr 1 0 0), (40, .lst 1 (ns S)), (44, .ptr 2 0 0), (45, i64 f), (46, i64 g), (47, .lst 1 (ns Z)), (48, bl e), (52, i64 i), (53, i64 k)], [some (tb us), some (tb ys), some (tb zs)]⟩) =
      some (.ext 6, ⟨[(20, .ptr 0 0 0), (21, i64 c), (23, .lst 1 (ns Y)), (39, .ptr 1 0 0), (40, .lst 1 (ns S)), (44, .ptr 2 0 0), (45, i64 f), (46, i64 g), (47, .lst 1 (ns Z)), (48, bl e), (52, i64 i)], [some (tb us), some (tb ys), some (tb zs)]⟩) := by
  unfold tb
  intro r
  induction r with
  | zero =>
    intro k h
    obtain rfl : k = i := by omega
    rw [loopW_eq]
    generalize loopW (bd E1 (ev E1) loopW 0 [20, 21, 23, 39, 40, 44, 45, 46, 47, 48, 52, 53] L3b2) = K
    simp -implicitDefEqProofs [bd, L3b2]
  | succ r ih =>
    intro k h
    have hih := ih (k + 1) (by omega)
    have hk : k < S.length := by omega
    have hki : (k : Int) < (i : Int) := by omega
    have hii : (i : Int) < (S.length : Int) := by omega
    have hkk : (k : Int) < (S.length : Int) := by omega
    have g1 := get_ns hi (Bf.Q_at hi).symm
    have g1' : ∀ h, (ns S)[i]'h = i64 (Bf.Q S i : Int) := fun h => (List.getElem?_eq_some_iff.1 g1).2
    have g2 := get_ns hk (Bf.Q_at hk).symm
    have g2' : ∀ h, (ns S)[k]'h = i64 (Bf.Q S k : Int) := fun h => (List.getElem?_eq_some_iff.1 g2).2
    have hnl := ns_len S
    have hQi := hlt _ (Bf.Q_mem hi)
    have hQk := hlt _ (Bf.Q_mem hk)
    have hd := two_dist ys hys ho hQi hQk
    have h2 := hap k (by omega)
    have m1 := get_mk hQi
    have m1' := mk_at hQi
    have m2 := get_mk hQk
    have m2' := mk_at hQk
    have hQii : (Bf.Q S i : Int) < (ys.length : Int) := by omega
    have hQkk : (Bf.Q S k : Int) < (ys.length : Int) := by omega
    have hw : IntKind.i64.wrap ((k : Int) + 1) = (k : Int) + 1 := wr64 (by omega) (by omega)
    rw [cs1] at hih
    rw [loopW_eq]
    clear ih hap
    generalize loopW (bd E1 (ev E1) loopW 0 [20, 21, 23, 39, 40, 44, 45, 46, 47, 48, 52, 53] L3b2) = K at hih ⊢
    generalize ns S = nl at *
    generalize ds (mk_ ys (Bf.Q S i)) (mk_ ys (Bf.Q S k)) = dd0 at *
    have h2' : ¬ (dd0 : Int) < 2 := by omega
    have h2'' : ¬ dd0 < 2 := by omega
    generalize mk_ ys (Bf.Q S i) = u at *
    generalize mk_ ys (Bf.Q S k) = v at *
    generalize Bf.Q S i = qi at *
    generalize Bf.Q S k = qk at *
    simpa -implicitDefEqProofs [bd, L3b2, hi, hii, hk, hki, hkk, g1, g1', g2, g2', hnl, hw, hQi, hQk, hQii, hQkk, m1, m1', m2, m2', hd, h2', h2''] using hih
theorem lY1 (us ys zs : List ByteArray) (hys : smallT ys) (S : List Nat) (ho : S ≠ [] → okTable ys = true) (c f g : Int) (Y Z : List Nat) (e : Bool) (hS : S.length ≤ 1000) (hlt : ∀ j ∈ S, j < ys.length) (hap : ∀ a b, a < b → b < S.length → 2 ≤ ds (mk_ ys (Bf.Q S b)) (mk_ ys (Bf.Q S a))) : ∀ (r i : Nat), i + r = S.length →
    packX 0 [2, 20, 21, 23, 44, 45, 46, 47, 48] (loopW (bd E1 (ev E1) loopW 0 [20, 21, 23, 39, 40, 44, 45, 46, 47, 48, 52] L3b3) ⟨[(20, .ptr 0 0 0), (21, i64 c), (23, .lst 1 (ns Y)), (39, .ptr 1 0 0), (40, .lst 1 (ns S)), (44, .ptr 2 0 0), (45, i64 f), (46, i64 g), (47, .lst 1 (ns Z)), (48, bl e), (52, i64 i)], [some (tb us), some (tb ys), some (tb zs)]⟩) =
      some (.ext 4, ⟨[(20, .ptr 0 0 0), (21, i64 c), (23, .lst 1 (ns Y)), (44, .ptr 1 0 0), (45, i64 f), (46, i64 g), (47, .lst 1 (ns Z)), (48, bl e)], [some (tb us), some (tb zs)]⟩) := by
  intro r
  induction r with
  | zero =>
    intro i h
    obtain rfl : i = S.length := by omega
    have hnl := ns_len S
    unfold tb
    rw [loopW_eq]
    generalize loopW (bd E1 (ev E1) loopW 0 [20, 21, 23, 39, 40, 44, 45, 46, 47, 48, 52] L3b3) = K
    generalize ns S = nl at *
    unfold bd
    simp -implicitDefEqProofs [L3b3, hnl]
  | succ r ih =>
    intro i h
    have hi : i < S.length := by omega
    have hii : (i : Int) < (S.length : Int) := by omega
    have hne : S ≠ [] := fun e => by rw [e] at hi; simp at hi
    have hin := lY0 us ys zs hys (ho hne) c f g Y S Z e hS hlt i hi (fun a ha => hap a i ha hi) i 0 (by omega)
    have hih := ih (i + 1) (by omega)
    have hnl := ns_len S
    have hw : IntKind.i64.wrap ((i : Int) + 1) = (i : Int) + 1 := wr64 (by omega) (by omega)
    rw [cs1] at hih
    rw [c0] at hin
    clear ih
    unfold tb at hin hih ⊢
    rw [loopW_eq]
    generalize loopW (bd E1 (ev E1) loopW 0 [20, 21, 23, 39, 40, 44, 45, 46, 47, 48, 52] L3b3) = K at hih ⊢
    generalize ns S = nl at *
    unfold bd
    simpa -implicitDefEqProofs [L3b3, hi, hii, hin, hnl, hw] using hih
theorem lB (us zs : List ByteArray) (hus : smallT us) (c f g : Int) (Y Z : List Nat) (e : Bool) (hY : Y.length ≤ 1000) (hne : Y ≠ [] → okTable us = true ∧ 0 ≤ c ∧ c < us.length) (hlt : ∀ j ∈ Y, j < us.length ∧ ds (mk_ us c.toNat) (mk_ us j) = 1) : ∀ (t : List Nat) (i : Nat), Y.drop i = t →
    packX 0 [2, 44, 45, 46, 47, 48] (loopW (bd E1 (ev E1) loopW 0 [20, 21, 23, 44, 45, 46, 47, 48, 56] L3b4) ⟨[(20, .ptr 0 0 0), (21, i64 c), (23, .lst 1 (ns Y)), (44, .ptr 1 0 0), (45, i64 f), (46, i64 g), (47, .lst 1 (ns Z)), (48, bl e), (56, i64 i)], [some (tb us), some (tb zs)]⟩) =
      some (.ext 8, ⟨[(44, .ptr 0 0 0), (45, i64 f), (46, i64 g), (47, .lst 1 (ns Z)), (48, bl e)], [some (tb zs)]⟩) := by
  unfold tb
  intro t
  induction t with
  | nil =>
    intro i h
    have hi := not_drop h
    have hii : ¬ (i : Int) < (Y.length : Int) := by omega
    have hnl := ns_len Y
    rw [loopW_eq]
    generalize loopW (bd E1 (ev E1) loopW 0 [20, 21, 23, 44, 45, 46, 47, 48, 56] L3b4) = K
    generalize ns Y = nl at *
    simp -implicitDefEqProofs [bd, L3b4, hi, hii, hnl]
  | cons k t ih =>
    intro i h
    obtain ⟨hi, hx, hd, hmem⟩ := at_drop h
    have hih := ih (i + 1) hd
    obtain ⟨ho, hc0, hc1⟩ := hne (fun e => by rw [e] at hi; simp at hi)
    obtain ⟨hk, hds⟩ := hlt k hmem
    obtain ⟨cn, rfl⟩ : ∃ n : Nat, c = n := ⟨c.toNat, by omega⟩
    rw [Int.toNat_natCast] at hds
    have hcn : cn < us.length := by omega
    have hii : (i : Int) < (Y.length : Int) := by omega
    have hkk : (k : Int) < (us.length : Int) := by omega
    have g1 := get_ns hi hx
    have g1' : ∀ h, (ns Y)[i]'h = i64 (k : Int) := fun h => (List.getElem?_eq_some_iff.1 g1).2
    have hnl := ns_len Y
    have hdi := two_dist us hus ho hcn hk
    rw [hds] at hdi
    have m1 := get_mk hcn
    have m1' := mk_at hcn
    have m2 := get_mk hk
    have m2' := mk_at hk
    have hw : IntKind.i64.wrap ((i : Int) + 1) = (i : Int) + 1 := wr64 (by omega) (by omega)
    rw [cs1] at hih
    rw [loopW_eq]
    clear ih hlt
    generalize loopW (bd E1 (ev E1) loopW 0 [20, 21, 23, 44, 45, 46, 47, 48, 56] L3b4) = K at hih ⊢
    generalize ns Y = nl at *
    generalize mk_ us cn = u at *
    generalize mk_ us k = v at *
    simpa -implicitDefEqProofs [bd, L3b4, hi, hii, hk, hkk, hcn, hc1, g1, g1', hnl, hw, m1, m1', m2, m2', hdi] using hih
theorem lZ (zs : List ByteArray) (hzs : smallT zs) (ho : okTable zs = true) (f g : Int) (Z : List Nat) (hZ : Z.length ≤ 1001) (hlt : ∀ j ∈ Z, j < zs.length) (hst : ∀ j, j + 1 < Z.length → ds (mk_ zs (Bf.Q Z j)) (mk_ zs (Bf.Q Z (j + 1))) = 1) : ∀ (r i : Nat), i + 1 + r = Z.length →
    packX 0 [2, 45, 46, 47] (loopW (bd E1 (ev E1) loopW 0 [44, 45, 46, 47, 59] L3b5) ⟨[(44, .ptr 0 0 0), (45, i64 f), (46, i64 g), (47, .lst 1 (ns Z)), (59, i64 ((i : Int) + 1))], [some (tb zs)]⟩) =
      some (.ext 10, ⟨[(45, i64 f), (46, i64 g), (47, .lst 1 (ns Z))], []⟩) := by
  unfold tb
  intro r
  induction r with
  | zero =>
    intro i h
    have hii : ¬ (i : Int) + 1 < (Z.length : Int) := by omega
    have hii2 : ¬ i + 1 < Z.length := by omega
    have hnl := ns_len Z
    rw [loopW_eq]
    generalize loopW (bd E1 (ev E1) loopW 0 [44, 45, 46, 47, 59] L3b5) = K
    generalize ns Z = nl at *
    simp -implicitDefEqProofs [bd, L3b5, hii, hii2, hnl]
  | succ r ih =>
    intro i h
    have hih := ih (i + 1) (by omega)
    have hi1 : i + 1 < Z.length := by omega
    have hi : i < Z.length := by omega
    have hii : (i : Int) + 1 < (Z.length : Int) := by omega
    have hii0 : (i : Int) < (Z.length : Int) := by omega
    have g1 := get_ns hi (Bf.Q_at hi).symm
    have g1' : ∀ h, (ns Z)[i]'h = i64 (Bf.Q Z i : Int) := fun h => (List.getElem?_eq_some_iff.1 g1).2
    have g2 := get_ns hi1 (Bf.Q_at hi1).symm
    have g2' : ∀ h, (ns Z)[i + 1]'h = i64 (Bf.Q Z (i + 1) : Int) := fun h => (List.getElem?_eq_some_iff.1 g2).2
    have hnl := ns_len Z
    have hQ1 := hlt _ (Bf.Q_mem hi)
    have hQ2 := hlt _ (Bf.Q_mem hi1)
    have hd := two_dist zs hzs ho hQ1 hQ2
    rw [hst i hi1] at hd
    have m1 := get_mk hQ1
    have m1' := mk_at hQ1
    have m2 := get_mk hQ2
    have m2' := mk_at hQ2
    have hQ1i : (Bf.Q Z i : Int) < (zs.length : Int) := by omega
    have hQ2i : (Bf.Q Z (i + 1) : Int) < (zs.length : Int) := by omega
    have w1 : IntKind.i64.wrap (i : Int) = (i : Int) := wr64 (by omega) (by omega)
    have w2 : IntKind.i64.wrap ((i : Int) + 1 + 1) = (i : Int) + 1 + 1 := wr64 (by omega) (by omega)
    have tn : ((i : Int) + 1).toNat = i + 1 := by omega
    have nn : (0 : Int) ≤ (i : Int) + 1 := by omega
    rw [cs1] at hih
    rw [loopW_eq]
    clear ih hst
    generalize loopW (bd E1 (ev E1) loopW 0 [44, 45, 46, 47, 59] L3b5) = K at hih ⊢
    generalize ns Z = nl at *
    generalize mk_ zs (Bf.Q Z i) = u at *
    generalize mk_ zs (Bf.Q Z (i + 1)) = v at *
    generalize Bf.Q Z i = qi at *
    generalize Bf.Q Z (i + 1) = qk at *
    simpa -implicitDefEqProofs [bd, L3b5, hi, hi1, hii, hii0, g1, g1', g2, g2', hnl, w1, w2, tn, nn, hQ1, hQ2, hQ1i, hQ2i, m1, m1', m2, m2', hd] using hih
end Go.Proofs.YtodcochnciadjaaDoor.Ev
