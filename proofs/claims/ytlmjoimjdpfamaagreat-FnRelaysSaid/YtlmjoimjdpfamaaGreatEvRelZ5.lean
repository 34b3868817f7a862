/- Loads of stations, by both. -/
import Derived.Test.YtlmjoimjdpfamaaGreatEvRelZ3
set_option linter.unusedVariables false
set_option linter.unusedSimpArgs false
namespace Go.Proofs.YtlmjoimjdpfamaaGreat.Ev
def addS (l : List Int) (i : Nat) (s : Int) : List Int := l.set i (l.getD i 0 + s)
def atJ (j : J) (d : Nat) : Nat := (j.1 + way j * (d : Int)).toNat
def ldS (j : J) : Nat → Nat → List Int → List Int
  | 0, _, l => l
  | c + 1, d, l => ldS j c (d + 1) (addS (addS l (atJ j d) j.2.2.1) (atJ j (d + 1)) j.2.2.1)
def ldJs : List J → List Int → List Int
  | [], l => l
  | j :: t, l => ldJs t (ldS j (many j).toNat 0 l)
def Bd (l : List Int) (B : Int) : Prop := ∀ x ∈ l, 0 ≤ x ∧ x ≤ B
theorem addS_len (l : List Int) (i : Nat) (s : Int) : (addS l i s).length = l.length := by unfold addS; rw [List.length_set]
theorem addS_map (l : List Int) (i : Nat) (s : Int) : (addS l i s).map i64 = (l.map i64).set i (i64 (l.getD i 0 + s)) := by unfold addS; rw [List.map_set]
theorem getD_mem {l : List Int} {i : Nat} (h : i < l.length) : l.getD i 0 ∈ l := by
  rw [List.getD_eq_getElem?_getD, List.getElem?_eq_getElem h]
  exact List.getElem_mem h
theorem addS_bd {l : List Int} {B s : Int} (h : Bd l B) {i : Nat} (hi : i < l.length) (h0 : 0 ≤ s) (h1 : s ≤ 60) : Bd (addS l i s) (B + 60) := by
  intro x hx
  have hg := h _ (getD_mem hi)
  unfold addS at hx
  rcases List.mem_or_eq_of_mem_set hx with e | e
  · have := h x e; omega
  · omega
structure NB (n : Nat) (j : J) : Prop where
  jb : JB j
  f1 : j.1 < (n : Int)
  t1 : j.2.1 < (n : Int)
theorem atJ_ok {n : Nat} {j : J} (h : NB n j) {d : Nat} (hd : (d : Int) ≤ many j) : j.1 + way j * (d : Int) = (atJ j d : Int) ∧ atJ j d < n := by
  have f0 := h.jb.f0
  have f1 := h.f1
  have t0 := h.jb.t0
  have t1 := h.t1
  have : 0 ≤ j.1 + way j * (d : Int) ∧ j.1 + way j * (d : Int) < n := by
    unfold many at hd
    unfold way
    split at hd
    · rename_i hc; rw [if_pos hc]; omega
    · rename_i hc; rw [if_neg hc]; omega
  unfold atJ
  omega
theorem ldS_len (j : J) : ∀ (c d : Nat) (l : List Int), (ldS j c d l).length = l.length
  | 0, d, l => rfl
  | c + 1, d, l => by rw [ldS, ldS_len j c, addS_len, addS_len]
theorem ldS_bd {n : Nat} {j : J} (h : NB n j) : ∀ (c d : Nat) (l : List Int) (B : Int), (d : Int) + c = many j → l.length = n → Bd l B → Bd (ldS j c d l) (B + 120 * c)
  | 0, d, l, B, _, _, hB => by rw [ldS]; simpa using hB
  | c + 1, d, l, B, e, hl, hB => by
    have s0 := h.jb.s0
    have s1 := h.jb.s1
    obtain ⟨_, a1⟩ := atJ_ok h (d := d) (by omega)
    obtain ⟨_, a2⟩ := atJ_ok h (d := d + 1) (by omega)
    have h1 := addS_bd hB (i := atJ j d) (by omega) (by omega) s1
    have h2 := addS_bd h1 (i := atJ j (d + 1)) (by rw [addS_len]; omega) (by omega) s1
    have := ldS_bd h c (d + 1) _ _ (by omega) (by rw [addS_len, addS_len]; exact hl) h2
    rw [ldS]
    intro x hx
    have := this x hx
    omega
theorem loadS_in (js : List J) (k : Nat) (hk : k < js.length) (n : Nat) (hn : n ≤ 6) (hJ : NB n js[k]) : ∀ (c d : Nat) (l : List Int) (B : Int), (d : Int) + c = many js[k] → l.length = n → Bd l B → B + 120 * c ≤ 100000 →
    packX 0 [1, 5, 6] (loopW (bd E0 (ev E0) loopW 0 [1, 5, 6, 7, 8, 9] L36b0) ⟨[(1, .lst 4 (js.map jb)), (5, .sl 0 0 n), (6, i64 k), (7, i64 (many js[k])), (8, i64 (way js[k])), (9, i64 d)], [rwI l]⟩) = some (.ext 2, ⟨[(1, .lst 4 (js.map jb)), (5, .sl 0 0 n), (6, i64 k)], [rwI (ldS js[k] c d l)]⟩) := by
  intro c
  have s0 := hJ.jb.s0
  have s1 := hJ.jb.s1
  have f0 := hJ.jb.f0
  have f1 := hJ.jb.f1
  have hmp := hJ.jb.many_pos
  have hway : way js[k] = 1 ∨ way js[k] = -1 := by unfold way; split <;> simp
  induction c with
  | zero =>
    intro d l B e hl hB hb
    have h1 : ¬ (d : Int) < many js[k] := by omega
    rw [loopW_eq, ldS]
    generalize loopW (bd E0 (ev E0) loopW 0 [1, 5, 6, 7, 8, 9] L36b0) = K
    unfold rwI
    simp -implicitDefEqProofs [bd, L36b0, h1]
  | succ c ih =>
    intro d l B e hl hB hb
    have h1 : (d : Int) < many js[k] := by omega
    obtain ⟨a1, a2⟩ := atJ_ok hJ (d := d) (by omega)
    obtain ⟨a3, a4⟩ := atJ_ok hJ (d := d + 1) (by omega)
    have b1 := addS_bd hB (i := atJ js[k] d) (by omega) (by omega) s1
    have l1 := addS_len l (atJ js[k] d) js[k].2.2.1
    have b2 := addS_bd b1 (i := atJ js[k] (d + 1)) (by omega) (by omega) s1
    have l2 := addS_len (addS l (atJ js[k] d) js[k].2.2.1) (atJ js[k] (d + 1)) js[k].2.2.1
    have hih := ih (d + 1) _ _ (by omega) (by omega) b2 (by omega)
    have v1 := hB _ (getD_mem (l := l) (i := atJ js[k] d) (by omega))
    have v2 := b1 _ (getD_mem (l := addS l (atJ js[k] d) js[k].2.2.1) (i := atJ js[k] (d + 1)) (by omega))
    rw [cs1] at hih
    rw [ldS, loopW_eq]
    have e1 := addS_map l (atJ js[k] d) js[k].2.2.1
    have e2 := addS_map (addS l (atJ js[k] d) js[k].2.2.1) (atJ js[k] (d + 1)) js[k].2.2.1
    have hw1 : IntKind.i64.wrap (way js[k] * (d : Int)) = way js[k] * (d : Int) := wr64 (by rcases hway with w | w <;> rw [w] <;> omega) (by rcases hway with w | w <;> rw [w] <;> omega)
    have hw2 : IntKind.i64.wrap (js[k].1 + way js[k] * (d : Int)) = (atJ js[k] d : Int) := by rw [a1]; exact wr64 (by omega) (by omega)
    have hw3 : IntKind.i64.wrap ((atJ js[k] d : Int) + way js[k]) = (atJ js[k] (d + 1) : Int) := by
      have : (atJ js[k] d : Int) + way js[k] = (atJ js[k] (d + 1) : Int) := by rw [← a1, ← a3, Int.natCast_add, Int.mul_add, Int.natCast_one, Int.mul_one]; omega
      rw [this]
      exact wr64 (by omega) (by omega)
    have hw4 : IntKind.i64.wrap ((d : Int) + 1) = (d : Int) + 1 := wr64 (by omega) (by omega)
    have m1 : l.length = (l.map i64).length := by simp
    have m2 : (addS l (atJ js[k] d) js[k].2.2.1).length = ((addS l (atJ js[k] d) js[k].2.2.1).map i64).length := by simp
    have g1 : (l.map i64)[atJ js[k] d]? = some (i64 (l.getD (atJ js[k] d) 0)) := by rw [List.getElem?_map, List.getElem?_eq_getElem (by omega), List.getD_eq_getElem?_getD, List.getElem?_eq_getElem (by omega)]; rfl
    have g2 : ((addS l (atJ js[k] d) js[k].2.2.1).map i64)[atJ js[k] (d + 1)]? = some (i64 ((addS l (atJ js[k] d) js[k].2.2.1).getD (atJ js[k] (d + 1)) 0)) := by rw [List.getElem?_map, List.getElem?_eq_getElem (by omega), List.getD_eq_getElem?_getD, List.getElem?_eq_getElem (by omega)]; rfl
    generalize addS (addS l (atJ js[k] d) js[k].2.2.1) (atJ js[k] (d + 1)) js[k].2.2.1 = l3 at *
    have hv1 : IntKind.i64.wrap (l.getD (atJ js[k] d) 0 + js[k].2.2.1) = l.getD (atJ js[k] d) 0 + js[k].2.2.1 := wr64 (by omega) (by omega)
    have hv2 : IntKind.i64.wrap ((addS l (atJ js[k] d) js[k].2.2.1).getD (atJ js[k] (d + 1)) 0 + js[k].2.2.1) = (addS l (atJ js[k] d) js[k].2.2.1).getD (atJ js[k] (d + 1)) 0 + js[k].2.2.1 := wr64 (by omega) (by omega)
    generalize (addS l (atJ js[k] d) js[k].2.2.1).getD (atJ js[k] (d + 1)) 0 = V2 at *
    generalize l.getD (atJ js[k] d) 0 = V1 at *
    generalize addS l (atJ js[k] d) js[k].2.2.1 = l4 at *
    have n1 : atJ js[k] d < (l.map i64).length := by omega
    have n2 : atJ js[k] (d + 1) < (l4.map i64).length := by omega
    have q1 : (l.map i64)[atJ js[k] d]'n1 = i64 V1 := Option.some.inj ((List.getElem?_eq_getElem n1).symm.trans g1)
    have q2 : (l4.map i64)[atJ js[k] (d + 1)]'n2 = i64 V2 := Option.some.inj ((List.getElem?_eq_getElem n2).symm.trans g2)
    generalize atJ js[k] (d + 1) = A2 at *
    generalize atJ js[k] d = A1 at *
    generalize loopW (bd E0 (ev E0) loopW 0 [1, 5, 6, 7, 8, 9] L36b0) = K at hih ⊢
    unfold rwI at hih ⊢
    generalize ldS js[k] c (d + 1) l3 = LR at *
    rw [e2] at hih
    generalize l.map i64 = X at *
    generalize l4.map i64 = X4 at *
    generalize LR.map i64 = XR at *
    have k1 : n ≤ X.length := by omega
    have k2 : n ≤ X4.length := by omega
    have k3 : A1 < n := a2
    have k4 : A2 < n := a4
    unfold jb at hih ⊢
    simpa -implicitDefEqProofs [bd, L36b0, h1, hk, hw1, hw2, hw3, hw4, hv1, hv2, n1, n2, q1, q2, k1, k2, k3, k4, ← e1] using hih
end Go.Proofs.YtlmjoimjdpfamaaGreat.Ev
