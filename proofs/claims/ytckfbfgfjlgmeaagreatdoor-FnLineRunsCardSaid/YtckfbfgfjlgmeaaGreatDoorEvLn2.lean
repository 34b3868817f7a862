/- Runs of lines, whole. -/
import Derived.Test.YtckfbfgfjlgmeaaGreatDoorEvLn1
set_option linter.unusedVariables false
set_option linter.unusedSimpArgs false
namespace Go.Proofs.YtckfbfgfjlgmeaaGreatDoor.Ev
theorem byte_g {l : ByteArray} {j : Nat} {d : UInt8} (hx : l.data.toList.getD j 0 = d) (hj : j < l.size) : ∀ h, l.data[j]'h = d := by
  intro h
  have hi2 : j < l.data.toList.length := by simpa using hj
  rw [List.getD_eq_getElem?_getD, List.getElem?_eq_getElem hi2, Option.getD_some] at hx
  exact hx
theorem ri_loop (l : ByteArray) (hl : l.size ≤ 100000) (hok : (B l).all o01 = true) : ∀ (t : List UInt8) (i : Nat) (p : UInt8) (A : List R) (n : Nat), (B l).drop i = p :: t → A.length ≤ i → n ≤ i + 1 →
    packX 0 [3] (loopW (bd E0 (ev E0) loopW 0 [0, 3, 7, 8] L74b0) ⟨[(0, st l), (3, .sl 0 0 (A.length + 1)), (7, i64 l.size), (8, i64 ((i : Int) + 1))], [some (rB (A ++ [(p.toNat - 48, n)]))]⟩) = some (.ext 0, ⟨[(3, .sl 0 0 (A ++ runsF (p.toNat - 48) n t).length)], [some (rB (A ++ runsF (p.toNat - 48) n t))]⟩) := by
  intro t
  induction t with
  | nil =>
    intro i p A n h hA hn
    obtain ⟨hi0, hx0, hd0⟩ := byte_at h
    have hi := byte_end hd0
    have hii : ¬ (i : Int) + 1 < (l.size : Int) := by omega
    rw [runsF, loopW_eq]
    unfold rB
    have hQ : ((A ++ [(p.toNat - 48, n)]).map rn).length = A.length + 1 := by simp
    have hQ2 : (A ++ [(p.toNat - 48, n)]).length = A.length + 1 := by simp
    rw [hQ2]
    generalize (A ++ [(p.toNat - 48, n)]).map rn = Q at *
    generalize loopW (bd E0 (ev E0) loopW 0 [0, 3, 7, 8] L74b0) = K
    simp -implicitDefEqProofs [bd, L74b0, hi, hii, hQ]
  | cons c t ih =>
    intro i p A n h hA hn
    obtain ⟨hi0, hx0, hd0⟩ := byte_at h
    obtain ⟨hi, hx, hd⟩ := byte_at hd0
    have hg0 := byte_g hx0 hi0
    have hg1 := byte_g hx hi
    have hii : (i : Int) + 1 < (l.size : Int) := by omega
    have hi00 : (i : Int) < (l.size : Int) := by omega
    have hp0 : ¬ (i : Int) + 1 = 0 := by omega
    have hp1 : (0 : Int) ≤ (i : Int) + 1 := by omega
    have hAl : (A.length : Int) < (A.length : Int) + 1 := by omega
    have hQl : A.length ≤ (A.map rn).length := by simp
    have hw : IntKind.i64.wrap ((i : Int) + 1 + 1) = (i : Int) + 1 + 1 := wr64 (by omega) (by omega)
    have hw0 : IntKind.i64.wrap (i : Int) = (i : Int) := wr64 (by omega) (by omega)
    have hwA : IntKind.i64.wrap (A.length : Int) = (A.length : Int) := wr64 (by omega) (by omega)
    have hwA1 : IntKind.i64.wrap ((A.length : Int) + 1) = (A.length : Int) + 1 := wr64 (by omega) (by omega)
    have hwn : IntKind.i64.wrap ((n : Int) + 1) = (n : Int) + 1 := wr64 (by omega) (by omega)
    have hl1 : A.length + 1 + 1 ≤ 140737488355328 := by omega
    have hl2 : (A.length + 1 + 1) * 16 ≤ 140737488355328 := by omega
    have hA1 : (0 : Int) ≤ (A.length : Int) + 1 := by omega
    have hA2 : (A.length : Int) + 1 < (A.length : Int) + 1 + 1 := by omega
    have t1 : (i : Int) + 1 + 1 = ((i + 1 : Nat) : Int) + 1 := by omega
    have hmem : ∀ d ∈ B l, d = 48 ∨ d = 49 := fun d hd => o01_or (List.all_eq_true.1 hok d hd)
    have hpm : p = 48 ∨ p = 49 := hmem p (List.mem_of_mem_drop (by rw [h]; exact List.mem_cons_self ..))
    have hcm : c = 48 ∨ c = 49 := hmem c (List.mem_of_mem_drop (by rw [hd0]; exact List.mem_cons_self ..))
    rw [runsF, loopW_eq]
    have hget : ∀ q : AV, (A.map rn ++ [q])[A.length]? = some q := fun q => app_get (by simp)
    have hset : ∀ q r : AV, (A.map rn ++ [q]).set A.length r = A.map rn ++ [r] := fun q r => app_set (by simp)
    have htk : ∀ q : AV, List.take (A.length + 1) (A.map rn ++ [q]) = A.map rn ++ [q] := fun q => List.take_of_length_le (by simp)
    have hget2 : ∀ (q : AV) h, (A.map rn ++ [q])[A.length]'h = q := fun q h => (List.getElem?_eq_some_iff.1 (hget q)).2
    have het : ∀ q r : AV, (A.map rn ++ [q, r])[A.length + 1]? = some r := fun q r => by
      have this : ((A.map rn ++ [q]) ++ [r])[A.length + 1]? = some r := app_get (by simp)
      rwa [List.append_assoc] at this
    have het2 : ∀ (q r : AV) h, (A.map rn ++ [q, r])[A.length + 1]'h = r := fun q r h => (List.getElem?_eq_some_iff.1 (het q r)).2
    have hst : ∀ q r u : AV, (A.map rn ++ [q, r]).set (A.length + 1) u = A.map rn ++ [q, u] := fun q r u => by
      have this : ((A.map rn ++ [q]) ++ [r]).set (A.length + 1) u = (A.map rn ++ [q]) ++ [u] := app_set (by simp)
      rwa [List.append_assoc, List.append_assoc] at this
    have htn : ((A.length : Int) + 1).toNat = A.length + 1 := by omega
    by_cases hc : c.toNat - 48 = p.toNat - 48
    · have hpc : c = p := by rcases hcm with rfl | rfl <;> rcases hpm with rfl | rfl <;> first | rfl | exact absurd hc (by decide)
      subst hpc
      have hih := ih (i + 1) c A (n + 1) hd0 (by omega) (by omega)
      rw [← t1] at hih
      rw [if_pos rfl]
      clear ih
      unfold rB at *
      rw [List.map_append, List.map_singleton] at hih ⊢
      unfold rn at hih hget hset htk hget2 hQl ⊢
      rw [cs1] at hih
      generalize (A ++ runsF (c.toNat - 48) (n + 1) t) = R at *
      generalize ((c.toNat - 48 : Nat) : Int) = v at *
      generalize A.map (fun p => AV.agg [i64 (p.1 : Int), i64 (p.2 : Int)]) = Q at *
      generalize loopW (bd E0 (ev E0) loopW 0 [0, 3, 7, 8] L74b0) = K at hih ⊢
      simpa -implicitDefEqProofs [bd, L74b0, hi, hi0, hii, hi00, hp0, hp1, hAl, hQl, hx, hx0, hg0, hg1, hw, hw0, hwA, hwn, hget, hget2, hset] using hih
    · rw [if_neg hc]
      have hih := ih (i + 1) c (A ++ [(p.toNat - 48, n)]) 1 hd0 (by simp; omega) (by omega)
      rw [← t1, List.length_append, List.length_singleton, List.append_assoc (bs := [(p.toNat - 48, n)]) (cs := runsF _ _ _), List.singleton_append] at hih
      clear ih
      unfold rB at *
      rw [List.map_append, List.map_append, List.map_singleton, List.map_singleton] at hih
      rw [List.map_append, List.map_singleton]
      unfold rn at hih hget hset htk hget2 hQl het het2 hst ⊢
      generalize (A ++ (p.toNat - 48, n) :: runsF (c.toNat - 48) 1 t) = R at *
      generalize A.map (fun p => AV.agg [i64 (p.1 : Int), i64 (p.2 : Int)]) = Q at *
      generalize loopW (bd E0 (ev E0) loopW 0 [0, 3, 7, 8] L74b0) = K at hih ⊢
      rcases hcm with rfl | rfl <;> rcases hpm with rfl | rfl <;> first | exact absurd rfl hc | simpa -implicitDefEqProofs [bd, L74b0, hi, hi0, hii, hi00, hp0, hp1, hAl, hQl, hx, hx0, hg0, hg1, hw, hw0, hwA1, htk, hl1, hl2, u0, u1, i0, i1, het, het2, hst, htn, hA1, hA2] using hih
theorem runs_len : ∀ (t : List UInt8) (v n : Nat), (runsF v n t).length ≤ t.length + 1
  | [], v, n => Nat.le_refl _
  | c :: t, v, n => by
    rw [runsF]
    split
    · have := runs_len t v (n + 1); simp; omega
    · have := runs_len t (c.toNat - 48) 1; simp; omega
theorem runs_len2 (t : List UInt8) : (runs t).length ≤ t.length := by
  cases t with
  | nil => exact Nat.le_refl _
  | cons c t => have := runs_len t (c.toNat - 48) 1; rw [runs, List.length_cons]; omega
theorem runs_s (l : ByteArray) (hl : l.size ≤ 100000) (hok : (B l).all o01 = true) : ev E0 76 [st l] [] = some (.sl 0 0 (runs (B l)).length, [some (rB (runs (B l)))]) := by
  rw [e76]
  unfold runF
  have first : packX 0 [3] (loopW (bd E0 (ev E0) loopW 0 [0, 3, 4] L76b0) ⟨[(0, st l), (3, .sl 0 0 0), (4, i64 0)], [some ⟨45, 2, 1, false, []⟩]⟩) = some (.ext 0, ⟨[(3, .sl 0 0 (runs (B l)).length)], [some (rB (runs (B l)))]⟩) := by
    cases hB : B l with
    | nil =>
      have hi := byte_end (show (B l).drop 0 = [] from hB)
      have hii : ¬ (0 : Int) < (l.size : Int) := by omega
      unfold rB runs
      rw [loopW_eq]
      generalize loopW (bd E0 (ev E0) loopW 0 [0, 3, 4] L76b0) = K
      simp -implicitDefEqProofs [bd, L76b0, hi, hii]
    | cons c t =>
      obtain ⟨hi, hx, hd⟩ := byte_at (show (B l).drop 0 = c :: t from hB)
      have hg := byte_g hx hi
      have hii : (0 : Int) < (l.size : Int) := by omega
      have hcm : c = 48 ∨ c = 49 := o01_or (List.all_eq_true.1 hok c (by rw [hB]; exact List.mem_cons_self ..))
      have hl := rs_loop l hl hok t 0 c [] 1 hB (Nat.le_refl _) (by omega)
      rw [runs]
      unfold rB at *
      rw [loopW_eq]
      rw [List.nil_append, List.nil_append, List.map_singleton] at hl
      unfold rn at hl ⊢
      generalize runsF (c.toNat - 48) 1 t = R at *
      generalize loopW (bd E0 (ev E0) loopW 0 [0, 3, 4] L76b0) = K at hl ⊢
      rcases hcm with rfl | rfl <;> simpa -implicitDefEqProofs [bd, L76b0, hi, hii, hx, hg, u0, u1, i0, i1] using hl
  have hz := runs_len2 (B l)
  generalize runs (B l) = R at *
  unfold rB at *
  simp -implicitDefEqProofs [L76, first]
theorem runs_i (l : ByteArray) (hl : l.size ≤ 100000) (hok : (B l).all o01 = true) : ev E0 74 [st l] [] = some (.sl 0 0 (runs (B l)).length, [some (rB (runs (B l)))]) := by
  rw [e74]
  unfold runF
  have first : packX 0 [3] (loopW (bd E0 (ev E0) loopW 0 [0, 3, 7, 8] L74b0) ⟨[(0, st l), (3, .sl 0 0 0), (7, i64 l.size), (8, i64 0)], [some ⟨45, 2, 1, false, []⟩]⟩) = some (.ext 0, ⟨[(3, .sl 0 0 (runs (B l)).length)], [some (rB (runs (B l)))]⟩) := by
    cases hB : B l with
    | nil =>
      have hi := byte_end (show (B l).drop 0 = [] from hB)
      have hii : ¬ (0 : Int) < (l.size : Int) := by omega
      unfold rB runs
      rw [loopW_eq]
      generalize loopW (bd E0 (ev E0) loopW 0 [0, 3, 7, 8] L74b0) = K
      simp -implicitDefEqProofs [bd, L74b0, hi, hii]
    | cons c t =>
      obtain ⟨hi, hx, hd⟩ := byte_at (show (B l).drop 0 = c :: t from hB)
      have hg := byte_g hx hi
      have hii : (0 : Int) < (l.size : Int) := by omega
      have hcm : c = 48 ∨ c = 49 := o01_or (List.all_eq_true.1 hok c (by rw [hB]; exact List.mem_cons_self ..))
      have hl := ri_loop l hl hok t 0 c [] 1 hB (Nat.le_refl _) (by omega)
      rw [runs]
      unfold rB at *
      rw [loopW_eq]
      rw [List.nil_append, List.nil_append, List.map_singleton] at hl
      unfold rn at hl ⊢
      generalize runsF (c.toNat - 48) 1 t = R at *
      generalize loopW (bd E0 (ev E0) loopW 0 [0, 3, 7, 8] L74b0) = K at hl ⊢
      rcases hcm with rfl | rfl <;> simpa -implicitDefEqProofs [bd, L74b0, hi, hii, hx, hg, u0, u1, i0, i1] using hl
  have hz := runs_len2 (B l)
  generalize runs (B l) = R at *
  unfold rB at *
  simp -implicitDefEqProofs [L74, first]
theorem runsOf_i (l : ByteArray) (hl : l.size ≤ 100000) : (okLine l = false → ev E0 8 [st l] [] = some (.tup [.v (.slice none 0 0), bl false], [])) ∧
    (okLine l = true → ev E0 8 [st l] [] = some (.tup [.sl 0 0 (runs (B l)).length, bl true], [some (rB (runs (B l)))])) := by
  have h1 := isLine_i l (by omega)
  rw [e8]
  unfold runF
  refine ⟨fun h => ?_, fun h => ?_⟩
  · rw [h] at h1
    simp -implicitDefEqProofs [L8, h1]
  · rw [h] at h1
    unfold okLine at h
    rw [Bool.and_eq_true] at h
    have h2 := runs_i l hl h.2
    generalize runs (B l) = R at *
    unfold rB at *
    simp -implicitDefEqProofs [L8, h1, h2]
theorem runsOf_s (l : ByteArray) (hl : l.size ≤ 100000) : (okLine l = false → ev E0 9 [st l] [] = some (.tup [.sl 0 0 0, bl false], [some (rB [])])) ∧
    (okLine l = true → ev E0 9 [st l] [] = some (.tup [.sl 0 0 (runs (B l)).length, bl true], [some (rB (runs (B l)))])) := by
  have h1 := isLine_s l (by omega)
  rw [e9]
  unfold runF
  refine ⟨fun h => ?_, fun h => ?_⟩
  · rw [h] at h1
    unfold rB
    simp -implicitDefEqProofs [L9, h1]
  · rw [h] at h1
    unfold okLine at h
    rw [Bool.and_eq_true] at h
    have h2 := runs_s l hl h.2
    generalize runs (B l) = R at *
    unfold rB at *
    simp -implicitDefEqProofs [L9, h1, h2]
end Go.Proofs.YtckfbfgfjlgmeaaGreatDoor.Ev
