/- A plan made in order is a plan: all jobs. -/
import Derived.Test.YtlmjoimjdpfamaaGreatEvRelZ1
set_option linter.unusedVariables false
set_option linter.unusedSimpArgs false
namespace Go.Proofs.YtlmjoimjdpfamaaGreat.Ev
def gLoad (js : List J) (v : Int) (p : Int × Int) : Int := if p.2 = v ∨ p.2 + way (jat js p.1) = v then (jat js p.1).2.2.1 else 0
def tot (js : List J) (v : Int) (pl : List Hh) : Int := ((pl.map fun h => (h.1, h.2.1)).map (gLoad js v)).sum
def jobLoad (js : List J) (v : Int) (k : Nat) : Int := (((List.range (many (jat js k)).toNat).map fun d : Nat => ((k : Int), (jat js k).1 + way (jat js k) * (d : Int))).map (gLoad js v)).sum
theorem tot_app (js : List J) (v : Int) (p q : List Hh) : tot js v (p ++ q) = tot js v p + tot js v q := by
  unfold tot
  rw [List.map_append, List.map_append, List.sum_append]
theorem runK_app2 (j : J) (k : Nat) : ∀ (p t : List Hh) (r : Int) (c : Nat), runK j k (p ++ t) r c = (runK j k p r c).bind fun q => runK j k t q.1 q.2
  | [], t, r, c => rfl
  | h :: p, t, r, c => by
    rw [List.cons_append, runK, runK]
    split
    · cases stepK j h r c with
      | none => rfl
      | some q => exact runK_app2 j k p t q.1 q.2
    · exact runK_app2 j k p t r c
theorem perm_sum {l m : List Int} (h : l.Perm m) : l.sum = m.sum := by
  induction h with
  | nil => rfl
  | cons x _ ih => rw [List.sum_cons, List.sum_cons, ih]
  | swap x y l => rw [List.sum_cons, List.sum_cons, List.sum_cons, List.sum_cons]; omega
  | trans _ _ ih1 ih2 => rw [ih1, ih2]
structure PInv (js : List J) (done : List Nat) (pl : List Hh) : Prop where
  nc : NC js pl
  pb : PB js pl
  run : ∀ i (hi : i < js.length), i ∈ done → ∃ q : Int, runK js[i] i pl js[i].2.2.2 0 = some (q, (many js[i]).toNat) ∧ js[i].2.2.2 + js[i].2.2.1 * many js[i] ≤ q ∧ ∃ h ∈ pl, endP js h = q
  own : ∀ h ∈ pl, ∃ k : Nat, k ∈ done ∧ h.1 = (k : Int)
  len : pl.length ≤ 5 * done.length
  tt : ∀ v, tot js v pl = (done.map (jobLoad js v)).sum
theorem planA_inv (js : List J) (hj : ∀ j ∈ js, JB j) (hjl : js.length ≤ 5) : ∀ (ods done : List Nat) (pl : List Hh), PInv js done pl → (done ++ ods).Nodup → (∀ k ∈ done ++ ods, k < js.length) → (done ++ ods).length ≤ 5 → PInv js (done ++ ods) (planA js ods pl)
  | [], done, pl, h, _, _, _ => by rw [List.append_nil]; exact h
  | k :: t, done, pl, h, hn, ho, hlen => by
    have hk : k < js.length := ho k (by simp)
    have hjat := jat_get hk
    have hJ := hj _ (List.getElem_mem hk)
    have hmp := hJ.many_pos
    have b0 := hJ.b0
    have b1 := hJ.b1
    have hkd : k ∉ done := fun hd => by
      rw [List.nodup_append] at hn
      exact hn.2.2 k hd k (List.mem_cons_self ..) rfl
    simp only [List.length_append, List.length_cons] at hlen
    have hpl := h.len
    obtain ⟨n1, n2, n3, n4, q, n5, n6, n7⟩ := newA_ok js hj k hk (many js[k]).toNat 0 js[k].2.2.2 pl (by omega) h.pb (by omega) (by omega) (by omega) h.nc
    rw [Int.natCast_zero, Int.mul_zero, Int.add_zero] at n1 n2 n3 n4 n5 n7
    rw [planA, hjat, hopsA_new]
    generalize newA js k (many js[k]).toNat js[k].1 js[k].2.2.2 pl = L at *
    have hL1 : ∀ x ∈ L, x.1 = (k : Int) := by
      intro x hx
      have : (x.1, x.2.1) ∈ L.map fun h => (h.1, h.2.1) := List.mem_map_of_mem hx
      rw [n4, List.mem_map] at this
      obtain ⟨d, _, e⟩ := this
      rw [Prod.mk.injEq] at e
      exact e.1.symm
    have hinv : PInv js (done ++ [k]) (pl ++ L) := by
      refine ⟨n1, n2, ?_, ?_, ?_, ?_⟩
      · intro i hi hm
        rcases List.mem_append.1 hm with hd | hd
        · obtain ⟨p, r1, r2, x, r3, r4⟩ := h.run i hi hd
          refine ⟨p, ?_, r2, x, List.mem_append_left _ r3, r4⟩
          rw [runK_app2, r1, Option.bind_some]
          refine runK_skip _ _ _ fun y hy e => ?_
          rw [hL1 y hy] at e
          have : k = i := by omega
          exact hkd (this ▸ hd)
        · rw [List.mem_singleton] at hd
          subst hd
          obtain ⟨x, r3, r4⟩ := n7 (by omega)
          have hmi : ((many js[i]).toNat : Int) = many js[i] := Int.toNat_of_nonneg (by omega)
          rw [hmi] at n6
          refine ⟨q, ?_, n6, x, List.mem_append_right _ r3, r4⟩
          rw [runK_app2, runK_skip pl _ _ (fun y hy e => by
            obtain ⟨m, hm, e2⟩ := h.own y hy
            rw [e] at e2
            have : i = m := by omega
            exact hkd (this ▸ hm)), Option.bind_some, n5, Nat.zero_add]
      · intro x hx
        rcases List.mem_append.1 hx with hx | hx
        · obtain ⟨m, hm, e⟩ := h.own x hx
          exact ⟨m, List.mem_append_left _ hm, e⟩
        · exact ⟨k, by simp, hL1 x hx⟩
      · simp only [List.length_append, List.length_cons, List.length_nil]
        omega
      · intro v
        rw [tot_app, h.tt v, List.map_append, List.sum_append]
        have : tot js v L = jobLoad js v k := by
          unfold tot jobLoad
          rw [n4, hjat, List.range_eq_range']
        rw [this]
        simp
    have := planA_inv js hj hjl t (done ++ [k]) (pl ++ L) hinv (by rw [List.append_assoc]; exact hn) (by rw [List.append_assoc]; exact ho) (by simp; omega)
    rw [List.append_assoc] at this
    exact this
theorem pinv_nil (js : List J) : PInv js [] [] := ⟨List.Pairwise.nil, (fun x hx => by cases hx), (fun i hi h => by cases h), (fun x hx => by cases hx), by simp, fun v => rfl⟩
theorem planA_ok (js : List J) (hj : ∀ j ∈ js, JB j) (hjl : js.length ≤ 5) (ods : List Nat) (hn : ods.Nodup) (ho : ∀ k ∈ ods, k < js.length) (hol : ods.length ≤ 5) : PInv js ods (planA js ods []) := by
  have := planA_inv js hj hjl ods [] [] (pinv_nil js) hn ho hol
  exact this
-- ---------------------------------------------------------------- sorted
theorem nc_perm {js : List J} {p q : List Hh} (h : p.Perm q) (hp : NC js p) : NC js q := by
  unfold NC at *
  exact (h.pairwise_iff (fun {x y} h => by rw [clash_symm]; exact h)).1 hp
theorem clash_self (js : List J) (x : Hh) (h : 1 ≤ (jat js x.1).2.2.1) : clash js x x = true := by
  unfold clash
  simp
  omega
theorem run_begins {j : J} {k : Nat} (hs : 1 ≤ j.2.2.1) : ∀ (l : List Hh) (r : Int) (c : Nat) (q : Int × Nat), (∀ h ∈ l, h.1 = (k : Int)) → runK j k l r c = some q → (∀ h ∈ l, r ≤ h.2.2) ∧ l.Pairwise fun x y => bef y x = false
  | [], r, c, q, _, _ => ⟨(fun h hh => by cases hh), List.Pairwise.nil⟩
  | h :: t, r, c, q, hk, e => by
    rw [runK, if_pos (hk h (List.mem_cons_self ..))] at e
    cases hst : stepK j h r c with
    | none => rw [hst] at e; cases e
    | some s =>
      rw [hst, Option.bind_some] at e
      unfold stepK at hst
      split at hst
      · rename_i hc
        obtain ⟨c1, c2, c3, c4⟩ := hc
        cases hst
        obtain ⟨i1, i2⟩ := run_begins hs t _ _ q (fun x hx => hk x (List.mem_cons_of_mem _ hx)) e
        refine ⟨fun x hx => ?_, List.pairwise_cons.2 ⟨fun y hy => ?_, i2⟩⟩
        · rcases List.mem_cons.1 hx with rfl | hx
          · exact c3
          · have := i1 x hx
            dsimp only at this
            omega
        · have := i1 y hy
          dsimp only at this
          unfold bef
          simp only [Bool.or_eq_false_iff, Bool.and_eq_false_iff, decide_eq_false_iff_not]
          omega
      · cases hst
theorem okPairs_of {js : List J} : ∀ (t p : List Hh), (p ++ t).Pairwise (fun x y => clash js x y = false ∧ bef x y = true) → okPairs js p t = true
  | [], p, _ => rfl
  | h :: t, p, hp => by
    unfold okPairs
    rw [Bool.and_eq_true, Bool.and_eq_true]
    have h2 := (List.pairwise_append.1 hp).2.2
    refine ⟨⟨?_, ?_⟩, okPairs_of t (p ++ [h]) (by rw [List.append_assoc]; exact hp)⟩
    · rw [Bool.not_eq_true', List.any_eq_false]
      intro x hx
      have := (h2 x hx h (List.mem_cons_self ..)).1
      simp [this]
    · cases hl : p.getLast? with
      | none => rfl
      | some x => exact (h2 x (List.mem_of_getLast? hl) h (List.mem_cons_self ..)).2
/-- What is known of a plan made in an order of some jobs. -/
structure FInv (js : List J) (ods : List Nat) (pl : List Hh) : Prop where
  pw : pl.Pairwise fun x y => clash js x y = false ∧ bef x y = true
  pb : PB js pl
  run : ∀ i (hi : i < js.length), i ∈ ods → ∃ q : Int, runK js[i] i pl js[i].2.2.2 0 = some (q, (many js[i]).toNat) ∧ js[i].2.2.2 + js[i].2.2.1 * many js[i] ≤ q ∧ ∃ h ∈ pl, endP js h = q
  tt : ∀ v, tot js v pl = (ods.map (jobLoad js v)).sum
theorem planF_ok (js : List J) (hj : ∀ j ∈ js, JB j) (hjl : js.length ≤ 5) (ods : List Nat) (hn : ods.Nodup) (ho : ∀ k ∈ ods, k < js.length) (hol : ods.length ≤ 5) : FInv js ods (planF js ods []) := by
  have hA := planA_ok js hj hjl ods hn ho hol
  have hp := plan_perm js ods [] [] (List.Perm.refl _)
  have hk := planF_ku js hj ods [] ho hn (fun a ha => by cases ha) (fun x hx => by cases hx)
  have hs := planF_srtd js ods [] List.Pairwise.nil
  generalize planA js ods [] = A at *
  generalize planF js ods [] = F at *
  have hnc := nc_perm hp hA.nc
  have hPB : PB js F := fun x hx => by
    have := hA.pb x (hp.mem_iff.2 hx)
    rw [hp.length_eq] at this
    exact this
  have hanti : ∀ a b, a ∈ F → b ∈ F → bef b a = false → bef a b = false → a = b := by
    intro a b ha hb e1 e2
    refine hk a ha b hb ?_ ?_ <;> (unfold bef at e1 e2; simp only [Bool.or_eq_false_iff, Bool.and_eq_false_iff, decide_eq_false_iff_not] at e1 e2; omega)
  have hspan : ∀ x ∈ F, 1 ≤ (jat js x.1).2.2.1 := by
    intro x hx
    obtain ⟨h1, h2, _⟩ := (hPB x hx).1
    have hlt : x.1.toNat < js.length := by omega
    have : jat js x.1 = js[x.1.toNat] := by
      have := jat_get hlt
      rwa [show ((x.1.toNat : Nat) : Int) = x.1 by omega] at this
    rw [this]
    exact (hj _ (List.getElem_mem hlt)).s0
  refine ⟨?_, hPB, ?_, ?_⟩
  · have h3 : F.Pairwise fun x y => clash js x y = false ∧ bef y x = false := List.pairwise_and_iff.2 ⟨hnc, hs⟩
    refine List.Pairwise.imp_of_mem ?_ h3
    intro a b ha hb ⟨e1, e2⟩
    refine ⟨e1, ?_⟩
    cases hab : bef a b with
    | true => rfl
    | false =>
      have := hanti a b ha hb e2 hab
      subst this
      rw [clash_self js a (hspan a ha)] at e1
      cases e1
  · intro i hi hm
    obtain ⟨q, r1, r2, x, r3, r4⟩ := hA.run i hi hm
    refine ⟨q, ?_, r2, x, hp.mem_iff.1 r3, r4⟩
    rw [← runK_filter] at r1 ⊢
    have hs0 := (hj _ (List.getElem_mem hi)).s0
    have hw := (run_begins hs0 (A.filter fun h => decide (h.1 = (i : Int))) _ _ _ (fun h hh => by simpa using (List.mem_filter.1 hh).2) r1).2
    have he : F.filter (fun h => decide (h.1 = (i : Int))) = A.filter (fun h => decide (h.1 = (i : Int))) := by
      refine List.Perm.eq_of_pairwise (le := fun x y => bef y x = false) ?_ (List.Pairwise.filter _ hs) hw (hp.symm.filter _)
      intro a b ha hb e1 e2
      exact hanti a b (List.mem_filter.1 ha).1 (hp.mem_iff.1 (List.mem_filter.1 hb).1) e1 e2
    rw [he]
    exact r1
  · intro v
    rw [← hA.tt v]
    unfold tot
    exact perm_sum ((hp.symm.map _).map _)
theorem planF_plan (js : List J) (hj : ∀ j ∈ js, JB j) (hjl : js.length ≤ 5) (ods : List Nat) (hn : ods.Nodup) (ho : ∀ k ∈ ods, k < js.length) (hol : ods.length = js.length) (hall : ∀ k, k < js.length → k ∈ ods) : planS js (planF js ods []) = true := by
  have h := planF_ok js hj hjl ods hn ho (by omega)
  rw [planS_iff]
  refine ⟨fun x hx => ?_, fun i hi => ?_, okPairs_of _ [] h.pw⟩
  · obtain ⟨h1, h2, _⟩ := (h.pb x hx).1
    unfold inR
    simp [h1, h2]
  · obtain ⟨q, r1, _, _⟩ := h.run i hi (hall i hi)
    have := (hj _ (List.getElem_mem hi)).many_pos
    exact ⟨_, r1, by dsimp only; omega⟩
end Go.Proofs.YtlmjoimjdpfamaaGreat.Ev
