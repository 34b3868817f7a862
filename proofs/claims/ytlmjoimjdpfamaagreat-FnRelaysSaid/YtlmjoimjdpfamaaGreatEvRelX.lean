/- Streams of jobs: both ends. -/
import Derived.Test.YtlmjoimjdpfamaaGreatEvRelW
set_option linter.unusedVariables false
set_option linter.unusedSimpArgs false
namespace Go.Proofs.YtlmjoimjdpfamaaGreat.Ev
def sj (n s : Int) : J := (0, n - 1, s, 0)
def rj (l : List J) : Option Blk := some ⟨63, 4, 1, false, l.map jb⟩
def rnI (l : List Nat) : Option Blk := some ⟨3, 1, 1, false, l.map fun k : Nat => i64 (k : Int)⟩
theorem streamS_loop (n s : Int) (hn : btw n 2 6 = true) (k : Nat) (hk : k ≤ 5) : ∀ (c i : Nat), i + c = k →
    packX 0 [8, 9] (loopW (bd E0 (ev E0) loopW 0 [0, 1, 2, 8, 9, 10] L17b0) ⟨[(0, i64 n), (1, i64 s), (2, i64 k), (8, .sl 0 0 i), (9, .sl 1 0 i), (10, i64 i)], [rj (List.replicate i (sj n s)), rnI (List.range i)]⟩) =
      some (.ext 0, ⟨[(8, .sl 0 0 k), (9, .sl 1 0 k)], [rj (List.replicate k (sj n s)), rnI (List.range k)]⟩) := by
  unfold btw at hn
  simp only [Bool.and_eq_true, decide_eq_true_eq] at hn
  have hw1 : IntKind.i64.wrap (n - 1) = n - 1 := wr64 (by omega) (by omega)
  intro c
  induction c with
  | zero =>
    intro i h
    have h1 : ¬ (i : Int) < (k : Int) := by omega
    have : i = k := by omega
    subst this
    rw [loopW_eq]
    generalize loopW (bd E0 (ev E0) loopW 0 [0, 1, 2, 8, 9, 10] L17b0) = K
    unfold rj rnI
    simp -implicitDefEqProofs [-List.map_replicate, bd, L17b0, h1]
  | succ c ih =>
    intro i h
    have h1 : (i : Int) < (k : Int) := by omega
    have hih := ih (i + 1) (by omega)
    have hw : IntKind.i64.wrap ((i : Int) + 1) = (i : Int) + 1 := wr64 (by omega) (by omega)
    rw [cs1] at hih
    rw [loopW_eq]
    generalize loopW (bd E0 (ev E0) loopW 0 [0, 1, 2, 8, 9, 10] L17b0) = K at hih ⊢
    have e1 : (List.replicate (i + 1) (sj n s)).map jb = (List.replicate i (sj n s)).map jb ++ [.agg [i64 0, i64 (n - 1), i64 s, i64 0]] := by
      rw [List.replicate_succ', List.map_append]; rfl
    have e2 : (List.range (i + 1)).map (fun k : Nat => i64 (k : Int)) = (List.range i).map (fun k : Nat => i64 (k : Int)) ++ [i64 i] := by
      rw [List.range_succ, List.map_append]; rfl
    have l1 : ((List.replicate i (sj n s)).map jb).length = i := by simp
    have l2 : ((List.range i).map (fun k : Nat => i64 (k : Int))).length = i := by simp
    unfold rj rnI at *
    rw [e1, e2] at hih
    generalize (List.replicate i (sj n s)).map jb = X at *
    generalize (List.range i).map (fun k : Nat => i64 (k : Int)) = Y at *
    have t1 : List.take i X = X := List.take_of_length_le (by omega)
    have t2 : List.take i Y = Y := List.take_of_length_le (by omega)
    have c1 : i ≤ X.length := by omega
    have c2 : i ≤ Y.length := by omega
    have m1 : (i + 1) * 32 ≤ 140737488355328 := by omega
    have m2 : (i + 1) * 8 ≤ 140737488355328 := by omega
    have m3 : i + 1 ≤ 140737488355328 := by omega
    simpa -implicitDefEqProofs [bd, L17b0, h1, hw, hw1, t1, t2, c1, c2, m1, m2, m3] using hih
theorem streamI_loop (n s : Int) (hn : btw n 2 6 = true) (k : Nat) (hk : k ≤ 5) : ∀ (c i : Nat), i + c = k →
    packX 0 [8, 9] (loopW (bd E0 (ev E0) loopW 0 [0, 1, 8, 9, 26, 27] L16b0) ⟨[(0, i64 n), (1, i64 s), (8, .sl 0 0 i), (9, .sl 1 0 i), (26, i64 k), (27, i64 i)], [rj (List.replicate i (sj n s)), rnI (List.range i)]⟩) =
      some (.ext 0, ⟨[(8, .sl 0 0 k), (9, .sl 1 0 k)], [rj (List.replicate k (sj n s)), rnI (List.range k)]⟩) := by
  unfold btw at hn
  simp only [Bool.and_eq_true, decide_eq_true_eq] at hn
  have hw1 : IntKind.i64.wrap (n - 1) = n - 1 := wr64 (by omega) (by omega)
  intro c
  induction c with
  | zero =>
    intro i h
    have h1 : ¬ (i : Int) < (k : Int) := by omega
    have : i = k := by omega
    subst this
    rw [loopW_eq]
    generalize loopW (bd E0 (ev E0) loopW 0 [0, 1, 8, 9, 26, 27] L16b0) = K
    unfold rj rnI
    simp -implicitDefEqProofs [-List.map_replicate, bd, L16b0, h1]
  | succ c ih =>
    intro i h
    have h1 : (i : Int) < (k : Int) := by omega
    have hih := ih (i + 1) (by omega)
    have hw : IntKind.i64.wrap ((i : Int) + 1) = (i : Int) + 1 := wr64 (by omega) (by omega)
    rw [cs1] at hih
    rw [loopW_eq]
    generalize loopW (bd E0 (ev E0) loopW 0 [0, 1, 8, 9, 26, 27] L16b0) = K at hih ⊢
    have e1 : (List.replicate (i + 1) (sj n s)).map jb = (List.replicate i (sj n s)).map jb ++ [.agg [i64 0, i64 (n - 1), i64 s, i64 0]] := by
      rw [List.replicate_succ', List.map_append]; rfl
    have e2 : (List.range (i + 1)).map (fun k : Nat => i64 (k : Int)) = (List.range i).map (fun k : Nat => i64 (k : Int)) ++ [i64 i] := by
      rw [List.range_succ, List.map_append]; rfl
    have l1 : ((List.replicate i (sj n s)).map jb).length = i := by simp
    have l2 : ((List.range i).map (fun k : Nat => i64 (k : Int))).length = i := by simp
    unfold rj rnI at *
    rw [e1, e2] at hih
    generalize (List.replicate i (sj n s)).map jb = X at *
    generalize (List.range i).map (fun k : Nat => i64 (k : Int)) = Y at *
    have t1 : List.take i X = X := List.take_of_length_le (by omega)
    have t2 : List.take i Y = Y := List.take_of_length_le (by omega)
    have c1 : i ≤ X.length := by omega
    have c2 : i ≤ Y.length := by omega
    have m1 : (i + 1) * 32 ≤ 140737488355328 := by omega
    have m2 : (i + 1) * 8 ≤ 140737488355328 := by omega
    have m3 : i + 1 ≤ 140737488355328 := by omega
    simpa -implicitDefEqProofs [bd, L16b0, h1, hw, hw1, t1, t2, c1, c2, m1, m2, m3] using hih
def okStream (n s k : Int) : Bool := btw n 2 6 && btw s 1 60 && btw k 1 5
def streamV (n s k : Int) : Int := if okStream n s k = true then endF (List.replicate k.toNat (sj n s)) (planF (List.replicate k.toNat (sj n s)) (List.range k.toNat) []) 0 else 0
theorem stream_js {n s : Int} (hn : btw n 2 6 = true) (hs : btw s 1 60 = true) (k : Nat) : ∀ j ∈ List.replicate k (sj n s), JB j := by
  intro j hj
  rw [List.eq_of_mem_replicate hj]
  unfold btw at hn hs
  simp only [Bool.and_eq_true, decide_eq_true_eq] at hn hs
  unfold sj
  exact ⟨by simp, by simp, by dsimp only; omega, by dsimp only; omega, by dsimp only; omega, by dsimp only; omega, by dsimp only; omega, by simp, by simp⟩
theorem stream_s (n s k : Int) : ev E0 17 [i64 n, i64 s, i64 k] [] = some (.tup [i64 (streamV n s k), bl (okStream n s k)], []) := by
  rw [e17]
  unfold runF streamV okStream
  have hr := row_s n
  have i1 := in_s s 1 60
  have i2 := in_s k 1 5
  cases h1 : btw n 2 6 with
  | false =>
    rw [h1] at hr
    simp -implicitDefEqProofs [L17, hr]
  | true =>
    cases h2 : btw s 1 60 with
    | false =>
      rw [h1] at hr
      rw [h2] at i1
      simp -implicitDefEqProofs [L17, hr, i1]
    | true =>
      cases h3 : btw k 1 5 with
      | false =>
        rw [h1] at hr
        rw [h2] at i1
        rw [h3] at i2
        simp -implicitDefEqProofs [L17, hr, i1, i2]
      | true =>
        rw [h1] at hr
        rw [h2] at i1
        rw [h3] at i2
        have h3' := h3
        unfold btw at h3'
        simp only [Bool.and_eq_true, decide_eq_true_eq] at h3'
        obtain ⟨m, rfl⟩ : ∃ m : Nat, k = m := ⟨k.toNat, by omega⟩
        have hl := streamS_loop n s h1 m (by omega) m 0 (by omega)
        have hjs := stream_js h1 h2 m
        obtain ⟨p1, p2, p3⟩ := plan_s (List.replicate m (sj n s)) hjs (List.range m) (fun x hx => by simpa using hx) (by simp; omega)
        have he := end_s (List.replicate m (sj n s)) hjs (planF (List.replicate m (sj n s)) (List.range m) []) (fun x hx => (p1 x hx).1) (by simp at p2; omega)
        rw [List.map_map, show (i64 ∘ fun k : Nat => (k : Int)) = (fun k : Nat => i64 (k : Int)) from rfl] at p3
        rw [Int.toNat_natCast]
        have l1 : ((List.replicate m (sj n s)).map jb).length = m := by simp
        have l2 : ((List.range m).map (fun k : Nat => i64 (k : Int))).length = m := by simp
        have fI : okL (free 5) ((planF (List.replicate m (sj n s)) (List.range m) []).map hp) = true := okL_map (fun _ => rfl) _
        have l3 : ((planF (List.replicate m (sj n s)) (List.range m) []).map hp).length = (planF (List.replicate m (sj n s)) (List.range m) []).length := by simp
        generalize endF _ _ 0 = E at *
        generalize planF _ _ _ = Q at *
        simp only [List.replicate_zero, List.range_zero] at hl
        rw [c0] at hl
        unfold rj rnI rh at *
        simp only [List.map_nil] at hl
        generalize (List.replicate m (sj n s)).map jb = X at *
        generalize (List.range m).map (fun k : Nat => i64 (k : Int)) = Y at *
        generalize Q.map hp = Z at *
        generalize Q.length = q at *
        have t1 : List.take m X = X := List.take_of_length_le (by omega)
        have t2 : List.take m Y = Y := List.take_of_length_le (by omega)
        have t3 : List.take q Z = Z := List.take_of_length_le (by omega)
        have g1 : m ≤ X.length := by omega
        have g2 : m ≤ Y.length := by omega
        have g3 : q ≤ Z.length := by omega
        simp -implicitDefEqProofs [L17, hr, i1, i2, hl, p3, he, t1, t2, t3, g1, g2, g3, fI]
theorem stream_i (n s k : Int) : ev E0 16 [i64 n, i64 s, i64 k] [] = some (.tup [i64 (streamV n s k), bl (okStream n s k)], []) := by
  rw [e16]
  unfold runF streamV okStream
  have hr := row_i n
  have i1 := in_i s 1 60
  have i2 := in_i k 1 5
  cases h1 : btw n 2 6 with
  | false =>
    rw [h1] at hr
    simp -implicitDefEqProofs [L16, hr]
  | true =>
    cases h2 : btw s 1 60 with
    | false =>
      rw [h1] at hr
      rw [h2] at i1
      simp -implicitDefEqProofs [L16, hr, i1]
    | true =>
      cases h3 : btw k 1 5 with
      | false =>
        rw [h1] at hr
        rw [h2] at i1
        rw [h3] at i2
        simp -implicitDefEqProofs [L16, hr, i1, i2]
      | true =>
        rw [h1] at hr
        rw [h2] at i1
        rw [h3] at i2
        have h3' := h3
        unfold btw at h3'
        simp only [Bool.and_eq_true, decide_eq_true_eq] at h3'
        obtain ⟨m, rfl⟩ : ∃ m : Nat, k = m := ⟨k.toNat, by omega⟩
        have hl := streamI_loop n s h1 m (by omega) m 0 (by omega)
        have hjs := stream_js h1 h2 m
        obtain ⟨p1, p2, _⟩ := plan_s (List.replicate m (sj n s)) hjs (List.range m) (fun x hx => by simpa using hx) (by simp; omega)
        have p3 := plannedF_i (List.replicate m (sj n s)) hjs (List.range m) (fun x hx => by simpa using hx) (by simp; omega) List.nodup_range
        have he := end_i (List.replicate m (sj n s)) hjs (planF (List.replicate m (sj n s)) (List.range m) []) (fun x hx => (p1 x hx).1) (by simp at p2; omega)
        rw [Int.toNat_natCast]
        have l1 : ((List.replicate m (sj n s)).map jb).length = m := by simp
        have l2 : ((List.range m).map (fun k : Nat => i64 (k : Int))).length = m := by simp
        have fI : okL (free 5) ((planF (List.replicate m (sj n s)) (List.range m) []).map hp) = true := okL_map (fun _ => rfl) _
        have l3 : ((planF (List.replicate m (sj n s)) (List.range m) []).map hp).length = (planF (List.replicate m (sj n s)) (List.range m) []).length := by simp
        generalize endF _ _ 0 = E at *
        generalize planF _ _ _ = Q at *
        simp only [List.replicate_zero, List.range_zero] at hl
        rw [c0] at hl
        unfold rj rnI rh at *
        simp only [List.map_nil] at hl
        generalize (List.replicate m (sj n s)).map jb = X at *
        generalize (List.range m).map (fun k : Nat => i64 (k : Int)) = Y at *
        generalize Q.map hp = Z at *
        generalize Q.length = q at *
        have t1 : List.take m X = X := List.take_of_length_le (by omega)
        have t2 : List.take m Y = Y := List.take_of_length_le (by omega)
        have t3 : List.take q Z = Z := List.take_of_length_le (by omega)
        have g1 : m ≤ X.length := by omega
        have g2 : m ≤ Y.length := by omega
        have g3 : q ≤ Z.length := by omega
        simp -implicitDefEqProofs [L16, hr, i1, i2, hl, p3, he, t1, t2, t3, g1, g2, g3, fI]
end Go.Proofs.YtlmjoimjdpfamaaGreat.Ev
