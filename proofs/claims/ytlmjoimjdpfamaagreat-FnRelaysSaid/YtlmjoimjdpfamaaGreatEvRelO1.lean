/- All orders of some places, as the reference makes them. -/
import Derived.Test.YtlmjoimjdpfamaaGreatEvRelW
set_option linter.unusedVariables false
set_option linter.unusedSimpArgs false
namespace Go.Proofs.YtlmjoimjdpfamaaGreat.Ev
abbrev iN (k : Nat) : AV := i64 (k : Int)
def permsS : Nat → List Nat → List (List Nat)
  | 0, _ => [[]]
  | n + 1, l => (List.range l.length).flatMap fun i => (permsS n (l.take i ++ l.drop (i + 1))).map fun r => l.getD i 0 :: r
def factN : Nat → Nat
  | 0 => 1
  | n + 1 => (n + 1) * factN n
theorem sum_const (n c : Nat) : ∀ (l : List Nat), l.length = n → (l.map fun _ => c).sum = n * c := by
  induction n with
  | zero => intro l h; rw [List.eq_nil_of_length_eq_zero h]; simp
  | succ n ih =>
    intro l h
    cases l with
    | nil => simp at h
    | cons x t => rw [List.map_cons, List.sum_cons, ih t (by simpa using h), Nat.add_mul, Nat.one_mul]; omega
theorem perms_len : ∀ (n : Nat) (l : List Nat), l.length = n → (permsS n l).length = factN n ∧ ∀ r ∈ permsS n l, r.length = n
  | 0, l, h => by simp [permsS, factN]
  | n + 1, l, h => by
    have ih : ∀ i ∈ List.range l.length, (permsS n (l.take i ++ l.drop (i + 1))).length = factN n ∧ ∀ r ∈ permsS n (l.take i ++ l.drop (i + 1)), r.length = n := fun i hi => perms_len n _ (by rw [List.mem_range] at hi; simp only [List.length_append, List.length_take, List.length_drop]; omega)
    unfold permsS factN
    constructor
    · rw [List.length_flatMap]
      have : (List.range l.length).map (fun i => ((permsS n (l.take i ++ l.drop (i + 1))).map fun r => l.getD i 0 :: r).length) = (List.range l.length).map fun _ => factN n := List.map_congr_left fun i hi => by rw [List.length_map]; exact (ih i hi).1
      rw [this, sum_const (n + 1) (factN n) _ (by simp [h])]
    · intro r hr
      rw [List.mem_flatMap] at hr
      obtain ⟨i, hi, hr⟩ := hr
      rw [List.mem_map] at hr
      obtain ⟨q, hq, rfl⟩ := hr
      rw [List.length_cons, (ih i hi).2 q hq]
theorem fact_le {n : Nat} (h : n ≤ 5) : factN n ≤ 120 := by
  match n, h with
  | 0, _ | 1, _ | 2, _ | 3, _ | 4, _ | 5, _ => decide
def rwN (l : List Nat) : AV := .lst 1 (l.map iN)
def rb (l : List (List Nat)) : Option Blk := some ⟨25, 1, 1, false, l.map rwN⟩
theorem own_s (l : List AV) (hl : l.length ≤ 1000) : ev E0 24 [.lst 1 l] [] = some (.sl 0 0 l.length, [some ⟨3, 1, 1, false, l⟩]) := by
  rw [e24]
  unfold runF
  have m1 : l.length * 8 ≤ 140737488355328 := by omega
  have m2 : l.length ≤ 140737488355328 := by omega
  cases l with
  | nil => simp -implicitDefEqProofs [L24]
  | cons a t =>
    simp only [List.length_cons] at m1 m2
    simp -implicitDefEqProofs [L24, m1, m2]
theorem ordS_in (pl : List Nat) (hp : pl.length ≤ 100) (i : Nat) (hi : i < pl.length) (rest : List (List Nat)) (hr : ∀ r ∈ rest, r.length ≤ 100) (hrl : rest.length ≤ 1000) : ∀ (t : List (List Nat)) (k : Nat) (out : List (List Nat)), rest.drop k = t → out.length + t.length ≤ 10000 →
    packX 0 [0, 3, 4] (loopW (bd E0 (ev E0) loopW 0 [0, 3, 4, 5, 6] L42b0) ⟨[(0, .lst 1 (pl.map iN)), (3, .sl 0 0 out.length), (4, i64 i), (5, .sl 1 0 rest.length), (6, i64 k)], [rb out, rb rest]⟩) = some (.ext 2, ⟨[(0, .lst 1 (pl.map iN)), (3, .sl 0 0 (out.length + t.length)), (4, i64 i)], [rb (out ++ t.map fun r => pl.getD i 0 :: r)]⟩) := by
  intro t
  induction t with
  | nil =>
    intro k out h _
    have hk := not_drop h
    have hk2 : ¬ (k : Int) < (rest.length : Int) := by omega
    rw [loopW_eq]
    generalize loopW (bd E0 (ev E0) loopW 0 [0, 3, 4, 5, 6] L42b0) = K
    unfold rb
    simp -implicitDefEqProofs [bd, L42b0, hk]
  | cons r t ih =>
    intro k out h hl
    obtain ⟨hk, hx, hd, hmem⟩ := at_drop h
    have hrl2 := hr r hmem
    rw [List.length_cons] at hl
    have hih := ih (k + 1) (out ++ [pl.getD i 0 :: r]) hd (by simp; omega)
    have hw : IntKind.i64.wrap ((k : Int) + 1) = (k : Int) + 1 := wr64 (by omega) (by omega)
    have hlen : (out ++ [pl.getD i 0 :: r]).length = out.length + 1 := by simp
    have hsum : out.length + 1 + t.length = out.length + (t.length + 1) := by omega
    have hap : (out ++ [pl.getD i 0 :: r]).map rwN = out.map rwN ++ [.lst 1 (i64 (pl.getD i 0 : Nat) :: r.map iN)] := by simp [rwN]
    have hga : (pl.map iN)[i]? = some (i64 (pl.getD i 0 : Nat)) := by rw [List.getElem?_map, List.getElem?_eq_getElem hi, List.getD_eq_getElem?_getD, List.getElem?_eq_getElem hi]; rfl
    have hgr : (rest.map rwN)[k]? = some (.lst 1 (r.map iN)) := by rw [List.getElem?_map, List.getElem?_eq_getElem hk, hx]; rfl
    have hpl : (i : Int) < ((pl.map iN).length : Int) := by simp; omega
    have hrll : (rest.map rwN).length = rest.length := by simp
    have hm1 : (out.length + 1) * 24 ≤ 140737488355328 := by omega
    have hm2 : out.length + 1 ≤ 140737488355328 := by omega
    have tk : List.take out.length (out.map rwN) = out.map rwN := List.take_of_length_le (by simp)
    have hol : out.length ≤ (out.map rwN).length := by simp
    rw [cs1, hlen, hsum, List.append_assoc, List.singleton_append] at hih
    rw [List.length_cons, List.map_cons, loopW_eq]
    generalize loopW (bd E0 (ev E0) loopW 0 [0, 3, 4, 5, 6] L42b0) = K at hih ⊢
    generalize hF : rb (out ++ (pl.getD i 0 :: r) :: List.map (fun r => pl.getD i 0 :: r) t) = F at *
    clear hF
    unfold rb at *
    rw [hap] at hih
    generalize pl.map iN = PL at *
    generalize (pl.getD i 0 : Nat) = x at *
    generalize rest.map rwN = RS at *
    generalize out.map rwN = OU at *
    cases hrr : r.map iN with
    | nil =>
      rw [hrr] at hgr hih
      simpa -implicitDefEqProofs [bd, L42b0, hk, hw, hga, hgr, hpl, hm1, hm2, tk, hol] using hih
    | cons a b =>
      have hb : b.length + 1 ≤ 100 := by
        have := congrArg List.length hrr
        simp at this
        omega
      have hm3 : (1 + (b.length + 1)) * 8 ≤ 140737488355328 := by omega
      have hm4 : 1 + (b.length + 1) ≤ 140737488355328 := by omega
      have hm5 : b.length + 1 + 1 ≤ 140737488355328 := by omega
      have hm7 : 1 + (b.length + 1) ≤ b.length + 1 + 1 := by omega
      have hm6 : (b.length + 1 + 1) * 8 ≤ 140737488355328 := by omega
      have ht2 : List.take (1 + (b.length + 1)) (i64 (x : Int) :: a :: b) = i64 (x : Int) :: a :: b := List.take_of_length_le (by simp; omega)
      rw [hrr] at hgr hih
      simpa -implicitDefEqProofs [bd, L42b0, hk, hw, hga, hgr, hpl, hm1, hm2, hm3, hm4, hm5, hm6, hm7, tk, hol, ht2] using hih
theorem ordS_out (n : Nat) (hn : n ≤ 5) (ihn : ∀ l : List Nat, l.length = n → ev E0 42 [.lst 1 (l.map iN)] [] = some (.sl 0 0 (permsS n l).length, [rb (permsS n l)])) (pl : List Nat) (hp : pl.length = n + 1) : ∀ (t : List Nat) (i : Nat) (out : List (List Nat)), (List.range pl.length).drop i = t → out.length + t.length * 120 ≤ 1000 →
    packX 0 [3] (loopW (bd E0 (ev E0) loopW 0 [0, 3, 4] L42b1) ⟨[(0, .lst 1 (pl.map iN)), (3, .sl 0 0 out.length), (4, i64 i)], [rb out]⟩) = some (.ext 0, ⟨[(3, .sl 0 0 (out ++ t.flatMap fun i => (permsS n (pl.take i ++ pl.drop (i + 1))).map fun r => pl.getD i 0 :: r).length)], [rb (out ++ t.flatMap fun i => (permsS n (pl.take i ++ pl.drop (i + 1))).map fun r => pl.getD i 0 :: r)]⟩) := by
  intro t
  induction t with
  | nil =>
    intro i out h _
    have hi := not_drop h
    rw [List.length_range] at hi
    have hi2 : ¬ (i : Int) < (pl.length : Int) := by omega
    rw [loopW_eq, List.flatMap_nil, List.append_nil]
    generalize loopW (bd E0 (ev E0) loopW 0 [0, 3, 4] L42b1) = K
    unfold rb
    simp -implicitDefEqProofs [bd, L42b1, hi]
  | cons i0 t ih =>
    intro i out h hl
    obtain ⟨hi, hx, hd, hmem⟩ := at_drop h
    rw [List.length_range] at hi
    rw [List.getElem_range] at hx
    subst hx
    rw [List.length_cons] at hl
    have hql : (pl.take i ++ pl.drop (i + 1)).length = n := by simp only [List.length_append, List.length_take, List.length_drop]; omega
    obtain ⟨hP1, hP2⟩ := perms_len n _ hql
    have hfac := fact_le hn
    have hrec := ihn _ hql
    have hin := ordS_in pl (by omega) i hi (permsS n (pl.take i ++ pl.drop (i + 1))) (fun r hr => by rw [hP2 r hr]; omega) (by omega) (permsS n (pl.take i ++ pl.drop (i + 1))) 0 out rfl (by omega)
    have hih := ih (i + 1) (out ++ (permsS n (pl.take i ++ pl.drop (i + 1))).map fun r => pl.getD i 0 :: r) hd (by rw [List.length_append, List.length_map]; omega)
    rw [List.flatMap_cons, ← List.append_assoc]
    have hw : IntKind.i64.wrap ((i : Int) + 1) = (i : Int) + 1 := wr64 (by omega) (by omega)
    have hll : (out ++ (permsS n (pl.take i ++ pl.drop (i + 1))).map fun r => pl.getD i 0 :: r).length = out.length + (permsS n (pl.take i ++ pl.drop (i + 1))).length := by simp
    have hown := own_s ((pl.take i).map iN) (by rw [List.length_map, List.length_take]; omega)
    rw [c0] at hin
    rw [cs1, hll] at hih
    rw [loopW_eq]
    generalize loopW (bd E0 (ev E0) loopW 0 [0, 3, 4] L42b1) = K at hih ⊢
    generalize hW1 : (out ++ (permsS n (pl.take i ++ pl.drop (i + 1))).map fun r => pl.getD i 0 :: r) = W1 at *
    clear hW1
    generalize hWF : (W1 ++ t.flatMap fun i => (permsS n (pl.take i ++ pl.drop (i + 1))).map fun r => pl.getD i 0 :: r) = WF at *
    clear hWF
    generalize hPn : permsS n (pl.take i ++ pl.drop (i + 1)) = PN at *
    have hil : (i : Int) < (pl.length : Int) := by omega
    have hle : i ≤ pl.length := by omega
    have hle2 : i + 1 ≤ pl.length := by omega
    have hle3 : (i : Int) ≤ (pl.length : Int) := by omega
    have hle4 : (i : Int) + 1 ≤ (pl.length : Int) := by omega
    rw [List.map_append] at hrec
    rw [List.length_map] at hown
    have hTk : List.take i (pl.map iN) = (pl.take i).map iN := (List.map_take ..).symm
    have h01 : (0 : Int) ≤ (i : Int) + 1 := by omega
    have hDr : List.take (pl.length - (i + 1)) (List.drop (i + 1) (pl.map iN)) = (pl.drop (i + 1)).map iN := by
      rw [List.map_drop, List.take_of_length_le (by rw [List.length_drop, List.length_map]; omega)]
    have hTl : (pl.take i).length = i := by rw [List.length_take]; omega
    rw [hTl] at hown
    have hTl2 : ((pl.take i).map iN).length = i := by rw [List.length_map, hTl]
    have hDl : ((pl.drop (i + 1)).map iN).length = pl.length - (i + 1) := by simp
    have htn : ((i : Int) + 1).toNat = i + 1 := by omega
    have hPl : (pl.map iN).length = pl.length := by simp
    have hfr : okL (free 5) (PN.map rwN) = true ∨ okL (free 5) (PN.map rwN) = false := by cases okL (free 5) (PN.map rwN) <;> simp
    unfold rb at *
    generalize W1.map rwN = W1R at *
    generalize WF.map rwN = WFR at *
    generalize (pl.take i).map iN = T1 at *
    generalize (pl.drop (i + 1)).map iN = T2 at *
    generalize pl.map iN = PL at *
    generalize PN.map rwN = PR at *
    generalize out.map rwN = OU at *
    cases T2 with
    | nil =>
      rw [List.append_nil] at hrec
      have hz : pl.length - (i + 1) = 0 := by simpa using hDl.symm
      rw [hz] at hDr
      have tk1 : List.take i T1 = T1 := List.take_of_length_le (by omega)
      have tl1 : i ≤ T1.length := by omega
      rcases hfr with hfr | hfr <;> simpa -implicitDefEqProofs [bd, L42b1, hi, hil, hle, hle2, hle3, hle4, hTk, hDr, htn, hPl, hown, hrec, hin, hw, tk1, tl1, hfr, h01, hz] using hih
    | cons a b =>
      have hz : pl.length - (i + 1) = b.length + 1 := by simpa using hDl.symm
      rw [hz] at hDr
      have hz2 : ¬ pl.length ≤ i + 1 := by omega
      have m1 : (i + (b.length + 1)) * 8 ≤ 140737488355328 := by simp at hDl; omega
      have m2 : i + (b.length + 1) ≤ 140737488355328 := by simp at hDl; omega
      have tk1 : List.take i T1 = T1 := List.take_of_length_le (by omega)
      have tl1 : i ≤ T1.length := by omega
      have tk2 : List.take (i + (b.length + 1)) (T1 ++ a :: b) = T1 ++ a :: b := List.take_of_length_le (by simp; omega)
      have tl2 : i + (b.length + 1) ≤ (T1 ++ a :: b).length := by simp; omega
      have tl3 : i + (b.length + 1) ≤ T1.length + (b.length + 1) := by omega
      rcases hfr with hfr | hfr <;> simpa -implicitDefEqProofs [bd, L42b1, hi, hil, hle, hle2, hle3, hle4, hTk, hDr, htn, hPl, hown, hrec, hin, hw, tk1, tl1, tk2, tl2, tl3, m1, m2, hfr, h01, hz, hz2] using hih
end Go.Proofs.YtlmjoimjdpfamaaGreat.Ev
