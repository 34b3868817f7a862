/- The best order: what the program visits is what the reference makes. -/
import Derived.Test.YtlmjoimjdpfamaaGreatEvRelO6
set_option linter.unusedVariables false
set_option linter.unusedSimpArgs false
namespace Go.Proofs.YtlmjoimjdpfamaaGreat.Ev
def restL (m : Nat) (l : List Nat) : List Nat := (List.range m).filter fun k => !decide (k ∈ l)
theorem flatMap_if (F : Nat → List (List Nat)) (l : List Nat) : ∀ L : List Nat, (L.flatMap fun k => if k ∈ l then [] else F k) = (L.filter fun k => !decide (k ∈ l)).flatMap F
  | [] => rfl
  | x :: t => by
    rw [List.flatMap_cons, flatMap_if F l t]
    by_cases h : x ∈ l
    · rw [if_pos h, List.filter_cons_of_neg (by simp [h]), List.nil_append]
    · rw [if_neg h, List.filter_cons_of_pos (by simp [h]), List.flatMap_cons]
theorem range_getD (L : List Nat) : (List.range L.length).map (fun i => L.getD i 0) = L := by
  apply List.ext_getElem
  · simp
  · intro i h1 h2
    rw [List.getElem_map, List.getElem_range, List.getD_eq_getElem?_getD, List.getElem?_eq_getElem h2, Option.getD_some]
theorem flatMap_ix (F : Nat → List (List Nat)) (L : List Nat) : L.flatMap F = (List.range L.length).flatMap fun i => F (L.getD i 0) := by
  have h := range_getD L
  calc L.flatMap F = ((List.range L.length).map (fun i => L.getD i 0)).flatMap F := by rw [h]
    _ = _ := by rw [List.flatMap_map]
theorem filter_mid {A B : List Nat} {x : Nat} (hn : (A ++ x :: B).Nodup) : ((A ++ x :: B).filter fun k => !decide (k = x)) = A ++ B := by
  obtain ⟨h1, h2, h3⟩ := List.nodup_append.1 hn
  rw [List.filter_append, List.filter_cons_of_neg (by simp)]
  have e1 : A.filter (fun k => !decide (k = x)) = A := List.filter_eq_self.2 fun k hk => by
    have := h3 k hk x (List.mem_cons_self ..)
    simp [this]
  have e2 : B.filter (fun k => !decide (k = x)) = B := List.filter_eq_self.2 fun k hk => by
    have : k ≠ x := fun e => (List.nodup_cons.1 h2).1 (e ▸ hk)
    simp [this]
  rw [e1, e2]
theorem filter_out {L : List Nat} (hn : L.Nodup) {i : Nat} (hi : i < L.length) : (L.filter fun k => !decide (k = L[i])) = L.take i ++ L.drop (i + 1) := by
  have hL : L.take i ++ L[i] :: L.drop (i + 1) = L := by rw [List.getElem_cons_drop, List.take_append_drop]
  have := filter_mid (A := L.take i) (B := L.drop (i + 1)) (x := L[i]) (by rw [hL]; exact hn)
  rw [hL] at this
  exact this
theorem rest_snoc (m : Nat) (l : List Nat) (x : Nat) : restL m (l ++ [x]) = (restL m l).filter fun k => !decide (k = x) := by
  unfold restL
  rw [List.filter_filter]
  apply List.filter_congr
  intro k _
  simp only [List.mem_append, List.mem_singleton]
  by_cases h1 : k ∈ l <;> by_cases h2 : k = x <;> simp [h1, h2]
theorem vis_perm (m : Nat) : ∀ (n : Nat) (l : List Nat), vis m n l = (permsS n (restL m l)).map (l ++ ·)
  | 0, l => by simp [vis, permsS]
  | n + 1, l => by
    have hn : (restL m l).Nodup := List.nodup_range.filter _
    rw [vis, flatMap_if, show (List.filter (fun k => !decide (k ∈ l)) (List.range m)) = restL m l from rfl, flatMap_ix, permsS, List.map_flatMap]
    have : ∀ i ∈ List.range (restL m l).length, vis m n (l ++ [(restL m l).getD i 0]) = ((permsS n ((restL m l).take i ++ (restL m l).drop (i + 1))).map fun r => (restL m l).getD i 0 :: r).map (l ++ ·) := by
      intro i hi
      rw [List.mem_range] at hi
      have hg : (restL m l).getD i 0 = (restL m l)[i] := by rw [List.getD_eq_getElem?_getD, List.getElem?_eq_getElem hi, Option.getD_some]
      rw [vis_perm m n, rest_snoc, hg, filter_out hn hi, List.map_map]
      apply List.map_congr_left
      intro r _
      simp
    generalize (restL m l).length = N at *
    unfold List.flatMap
    rw [List.map_congr_left this]
theorem vis_root (m : Nat) : vis m m [] = permsS m (List.range m) := by
  rw [vis_perm]
  have : restL m [] = List.range m := List.filter_eq_self.2 fun k _ => by simp
  rw [this]
  simp
theorem fold_G (js : List J) : ∀ (t : List (List Nat)) (b : List Nat) (e : Int), t.foldl (stepG js) ⟨b, e, true⟩ = ⟨(t.foldl (stepB js) (b, e)).1, (t.foldl (stepB js) (b, e)).2, true⟩
  | [], b, e => rfl
  | od :: t, b, e => by
    rw [List.foldl_cons, List.foldl_cons]
    have h1 : stepG js ⟨b, e, true⟩ od = if endO js od < e then ⟨od, endO js od, true⟩ else ⟨b, e, true⟩ := by
      unfold stepG
      by_cases h : endO js od < e <;> simp [h]
    have h2 : stepB js (b, e) od = if endO js od < e then (od, endO js od) else (b, e) := rfl
    rw [h1, h2]
    by_cases h : endO js od < e
    · rw [if_pos h, if_pos h, fold_G js t]
    · rw [if_neg h, if_neg h, fold_G js t]
theorem fold_best (js : List J) (b : List Nat) (e : Int) : ∀ ods : List (List Nat), ods ≠ [] → ods.foldl (stepG js) ⟨b, e, false⟩ = ⟨(bestB js ods).1, (bestB js ods).2, true⟩
  | [], h => absurd rfl h
  | od :: t, _ => by
    rw [List.foldl_cons, bestB]
    have h1 : stepG js ⟨b, e, false⟩ od = ⟨od, endO js od, true⟩ := by unfold stepG; simp
    rw [h1, fold_G]
theorem perms_ne {n : Nat} (hl : n ≤ 5) : permsS n (List.range n) ≠ [] := by
  intro h
  have hpl := (perms_len n (List.range n) List.length_range).1
  rw [h] at hpl
  have : 0 < factN n := by
    match n, hl with
    | 0, _ | 1, _ | 2, _ | 3, _ | 4, _ | 5, _ => decide
  simp at hpl
  omega
/-- What is left of the memory when its best is told. -/
theorem best_pack {p : Nat} {M : Hp} {b : List Nat} (hp : M[p]? = some (rI b)) : packH 0 M [p] = some ([p], [rI b]) := by
  have hp' : M[p]? = some (some ⟨3, 1, 1, false, b.map iN⟩) := hp
  unfold rI
  simp [packH, hp', reach]
theorem best_i_no (n : Int) (js : List J) (h : okJobs n js = false) : ev E0 10 [i64 n, .lst 4 (js.map jb)] [] = some (.tup [nilS, i64 0, bl false], []) := by
  have hg := areJobs_i n js
  rw [h] at hg
  rw [e10]
  unfold runF
  simp -implicitDefEqProofs [L10, hg]
theorem best_i_yes (n : Int) (js : List J) (h : okJobs n js = true) (h0 : js ≠ []) : ev E0 10 [i64 n, .lst 4 (js.map jb)] [] = some (.tup [.sl 0 0 (boV n js).1.length, i64 (boV n js).2, bl true], [rI (boV n js).1]) := by
  have hg := areJobs_i n js
  rw [h] at hg
  obtain ⟨hl, hj⟩ := okJobs_jb h
  have hM : Mem js ⟨[], 0, false⟩ [] (hdB js 1 0 0 false) := ⟨1, by simp, rfl, smp_nil⟩
  obtain ⟨M', Y, e1, m1⟩ := orders_root js hj hl h0 _ _ _ hM
  rw [vis_root, fold_best js [] 0 _ (perms_ne hl)] at m1
  change Mem js ⟨(boV n js).1, (boV n js).2, true⟩ _ _ at m1
  generalize boV n js = B at *
  obtain ⟨p, hMp, hp, hS⟩ := m1
  have pk := best_pack hp
  have f2 : M'[2]? = some (bestBx p B.1.length) := by rw [hMp]; rfl
  have f3 : M'[3]? = some (leastBx B.2) := by rw [hMp]; rfl
  clear hMp hp hS hM
  unfold hdB jbx rI bestBx leastBx foundBx at *
  unfold fnB at e1
  simp only [List.map_nil] at e1
  rw [e10]
  unfold runF
  simp -implicitDefEqProofs [L10, hg, e1, f2, f3, -packH, pk, -evX.eq_2, -evX.eq_3, evX_s, evX_f, softK_some, fullK_some]
theorem planned_nil : ev E0 29 [.lst 4 [], nilS] [] = some (.sl 0 0 0, [rh []]) := by
  have hsort : ev E0 61 [.sl 0 0 0, .fn (.func 62) [] []] [rh []] = some (.tup [], [rh []]) := by
    rw [e61]
    have h0 : hopsOf [] = some [] := hopsOf_map []
    have h1 : srtL cfB [] = [] := List.eq_nil_of_length_eq_zero (srtL_len cfB swoB [])
    unfold sortHP rh
    simp -implicitDefEqProofs [h0, h1]
  rw [e29]
  unfold runF
  unfold rh at *
  simp only [List.map_nil] at hsort ⊢
  simp -implicitDefEqProofs [L29, loopW_eq, bd, L29b0, L29b1, L29b2, hsort]
theorem best_i_nil (n : Int) (h : okJobs n [] = true) : ev E0 10 [i64 n, .lst 4 []] [] = some (.tup [nilS, i64 0, bl true], []) := by
  have hg := areJobs_i n []
  rw [h, List.map_nil] at hg
  have p1 := planned_nil
  have p2 : ev E0 41 [.lst 4 [], .lst 3 []] [] = some (i64 0, []) := end_i [] (fun _ h => by cases h) [] (fun _ h => by cases h) (by decide)
  have l36 : ev E0 40 [nilS, .ptr 0 0 0, .ptr 4 0 0, .ptr 3 0 0, .ptr 2 0 0] (hdB [] 1 0 0 false) = some (.tup [], [jbx [], rI [], some ⟨25, 1, 0, false, [.agg [nilS]]⟩, leastBx 0, foundBx true]) := by
    rw [e40]
    unfold runF hdB jbx rI bestBx leastBx foundBx
    unfold rh at p1
    simp -implicitDefEqProofs [L40, p1, p2, -evX.eq_2, -evX.eq_3, evX_s, evX_f, softK_some, fullK_some]
  have l35 : ev E0 39 [i64 0, nilS, fnB] (hdB [] 1 0 0 false) = some (.tup [], [jbx [], rI [], some ⟨25, 1, 0, false, [.agg [nilS]]⟩, leastBx 0, foundBx true]) := by
    rw [e39]
    unfold runF fnB
    unfold hdB jbx rI bestBx leastBx foundBx at *
    simp only [List.map_nil] at l36 ⊢
    simp -implicitDefEqProofs [L39, l36]
  rw [e10]
  unfold runF
  unfold fnB hdB jbx rI bestBx leastBx foundBx at l35
  simp only [List.map_nil] at l35
  simp -implicitDefEqProofs [L10, hg, l35, -evX.eq_2, -evX.eq_3, evX_s, evX_f, softK_some, fullK_some]
end Go.Proofs.YtlmjoimjdpfamaaGreat.Ev
