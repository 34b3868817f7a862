/- Plans: the program's plan of jobs in an order is the reference's. -/
import Derived.Test.YtlmjoimjdpfamaaGreatEvRelV
import Derived.Test.YtlmjoimjdpfamaaGreatEvRelN
import Derived.Test.YtlmjoimjdpfamaaGreatEvSrtH
set_option linter.unusedVariables false
set_option linter.unusedSimpArgs false
namespace Go.Proofs.YtlmjoimjdpfamaaGreat.Ev
open Go.Sort
theorem hopsA_props (js : List J) (hj : ∀ j ∈ js, JB j) (k : Nat) (hk : k < js.length) (pl : List Hh) (hP : PB js pl) (hlen : pl.length ≤ 900) : PB js (hopsA js k (many js[k]).toNat js[k].1 js[k].2.2.2 pl) ∧ (hopsA js k (many js[k]).toNat js[k].1 js[k].2.2.2 pl).length ≤ pl.length + 5 := by
  have hJ := hj _ (List.getElem_mem hk)
  have hmp := hJ.many_pos
  have b0 := hJ.b0
  have b1 := hJ.b1
  obtain ⟨h1, h2, _⟩ := hopsA_loop js hj [] 0 k hk (many js[k]).toNat 0 js[k].2.2.2 pl (by omega) hP (by omega) (by omega) (by omega)
  rw [c0, Int.mul_zero, Int.add_zero] at h1 h2
  exact ⟨h1, by omega⟩
theorem planA_loop (js : List J) (hj : ∀ j ∈ js, JB j) (ods : List Nat) (ho : ∀ k ∈ ods, k < js.length) (hol : ods.length ≤ 100) : ∀ (t : List Nat) (i : Nat) (pl : List Hh), ods.drop i = t → i ≤ ods.length → PB js pl → pl.length ≤ 5 * i →
    PB js (planA js t pl) ∧ (planA js t pl).length ≤ 5 * ods.length ∧
    packX 0 [5] (loopW (bd E0 (ev E0) loopW 0 [2, 5, 13, 14, 15] L29b2) ⟨[(2, .ptr 0 0 0), (5, .sl 1 0 pl.length), (13, .lst 1 (ods.map fun k : Nat => i64 (k : Int))), (14, i64 ods.length), (15, i64 i)], [jbx js, rh pl]⟩) = some (.ext 0, ⟨[(5, .sl 0 0 (planA js t pl).length)], [rh (planA js t pl)]⟩) := by
  intro t
  induction t with
  | nil =>
    intro i pl h hile hP hlen
    have hi := not_drop h
    have hi2 : ¬ (i : Int) < (ods.length : Int) := by omega
    refine ⟨hP, ?_, ?_⟩
    · rw [planA]
      omega
    · rw [loopW_eq, planA]
      generalize loopW (bd E0 (ev E0) loopW 0 [2, 5, 13, 14, 15] L29b2) = K
      unfold rh jbx
      simp -implicitDefEqProofs [bd, L29b2, hi, hi2]
  | cons k t ih =>
    intro i pl h hile hP hlen
    obtain ⟨hi, hx, hd, hmem⟩ := at_drop h
    have hi2 : (i : Int) < (ods.length : Int) := by omega
    have hk := ho k hmem
    have hJ := hj _ (List.getElem_mem hk)
    have hmp := hJ.many_pos
    have b0 := hJ.b0
    have b1 := hJ.b1
    have hjat := jat_get hk
    obtain ⟨h1, h2⟩ := hopsA_props js hj k hk pl hP (by omega)
    obtain ⟨_, _, hl⟩ := hopsA_loop js hj (ods.map fun k : Nat => i64 (k : Int)) i k hk (many js[k]).toNat 0 js[k].2.2.2 pl (by omega) hP (by omega) (by omega) (by omega)
    rw [c0, Int.mul_zero, Int.add_zero, List.length_map] at hl
    obtain ⟨g1, g2, g3⟩ := ih (i + 1) _ hd (by omega) h1 (by omega)
    rw [planA, hjat]
    refine ⟨g1, g2, ?_⟩
    have hs := steps_i js[k] hJ
    have hw : IntKind.i64.wrap ((i : Int) + 1) = (i : Int) + 1 := wr64 (by omega) (by omega)
    have hk2 : (k : Int) < (js.length : Int) := by omega
    rw [cs1] at g3
    rw [loopW_eq]
    generalize loopW (bd E0 (ev E0) loopW 0 [2, 5, 13, 14, 15] L29b2) = K at g3 ⊢
    generalize hopsA js k (many js[k]).toNat js[k].1 js[k].2.2.2 pl = Q at *
    generalize planA js t Q = Z at *
    unfold jbx rh ojb jb at *
    simpa -implicitDefEqProofs [bd, L29b2, hi, hi2, hx, hk, hk2, hs, hl, hw] using g3
/-- The plan, sorted. -/
theorem planned_i (js : List J) (hj : ∀ j ∈ js, JB j) (ods : List Nat) (ho : ∀ k ∈ ods, k < js.length) (hol : ods.length ≤ 100) : PB js (planA js ods []) ∧ (planA js ods []).length ≤ 5 * ods.length ∧
    ev E0 29 [.lst 4 (js.map jb), .lst 1 (ods.map fun k : Nat => i64 (k : Int))] [] = some (.sl 0 0 (srtL cfB (planA js ods [])).length, [rh (srtL cfB (planA js ods []))]) := by
  obtain ⟨h1, h2, h3⟩ := planA_loop js hj ods ho hol ods 0 [] rfl (by omega) (fun x hx => by cases hx) (by simp)
  refine ⟨h1, h2, ?_⟩
  have hsl := srtL_len cfB swoB (planA js ods [])
  have hsort : ev E0 61 [.sl 0 0 (planA js ods []).length, .fn (.func 62) [] []] [rh (planA js ods [])] = some (.tup [], [rh (srtL cfB (planA js ods []))]) := by
    rw [e61]
    unfold sortHP rh
    have hmap : ∀ l : List Hh, l.map hp = l.map (aggE hopE) := fun l => rfl
    rw [hmap, hmap]
    have htk : List.take (planA js ods []).length ((planA js ods []).map (aggE hopE)) = (planA js ods []).map (aggE hopE) := List.take_of_length_le (by simp)
    have hdr : List.drop (planA js ods []).length ((planA js ods []).map (aggE hopE)) = [] := List.drop_of_length_le (by simp)
    have hle : (planA js ods []).length ≤ ((planA js ods []).map (aggE hopE)).length := by simp
    have hlt : (planA js ods []).length < 4611686018427387904 := by omega
    have hho := hopsOf_map (planA js ods [])
    generalize (planA js ods []).map (aggE hopE) = X at *
    simp -implicitDefEqProofs [htk, hdr, hle, hlt, hho]
  rw [e29]
  unfold runF
  rw [c0] at h3
  generalize planA js ods [] = Q at *
  generalize srtL cfB Q = R at *
  unfold rh jbx at *
  simp only [List.map_nil, List.length_nil] at h3
  simp -implicitDefEqProofs [L29, h3, hsort, hsl]
-- ---------------------------------------------------------------- both plans are one
theorem blk_perm {js : List J} {p q : List Hh} (h : p.Perm q) (a f b : Int) : blk js p a f b = blk js q a f b := by
  unfold blk
  exact h.any_eq
theorem lf_perm {js : List J} {p q : List Hh} (h : p.Perm q) (a f : Int) : ∀ (n : Nat) (b : Int), lf js p a f n b = lf js q a f n b
  | 0, b => rfl
  | n + 1, b => by unfold lf; rw [blk_perm h, lf_perm h a f n]
theorem lfree_perm {js : List J} {p q : List Hh} (h : p.Perm q) (a f b : Int) : lfree js p a f b = lfree js q a f b := lf_perm h a f _ b
theorem hops_perm (js : List J) (k : Nat) : ∀ (c : Nat) (f r : Int) (p q : List Hh), p.Perm q → (hopsA js k c f r p).Perm (hopsF js k c f r q)
  | 0, f, r, p, q, h => h
  | c + 1, f, r, p, q, h => by
    unfold hopsA hopsF
    rw [lfree_perm h]
    exact hops_perm js k c _ _ _ _ ((List.perm_append_comm (l₂ := [_])).trans ((List.Perm.cons _ h).trans (insH_perm _ q).symm))
theorem plan_perm (js : List J) : ∀ (ods : List Nat) (p q : List Hh), p.Perm q → (planA js ods p).Perm (planF js ods q)
  | [], p, q, h => h
  | k :: t, p, q, h => plan_perm js t _ _ (hops_perm js k _ _ _ p q h)
def Srtd (l : List Hh) : Prop := l.Pairwise fun x y => bef y x = false
theorem bef_ntrans {x y z : Hh} (h1 : bef y x = false) (h2 : bef z y = false) : bef z x = false := by
  unfold bef at *
  simp only [Bool.or_eq_false_iff, Bool.and_eq_false_iff, decide_eq_false_iff_not] at *
  omega
theorem bef_asym {x y : Hh} (h : bef x y = true) : bef y x = false := by
  unfold bef at *
  simp only [Bool.or_eq_false_iff, Bool.and_eq_false_iff, decide_eq_false_iff_not, Bool.or_eq_true, Bool.and_eq_true, decide_eq_true_eq] at *
  omega
theorem ins_srtd (h : Hh) : ∀ l : List Hh, Srtd l → Srtd (insH h l)
  | [], _ => by simp [insH, Srtd]
  | x :: t, hs => by
    unfold Srtd at hs
    rw [List.pairwise_cons] at hs
    unfold insH
    by_cases hb : bef x h = true
    · rw [if_pos hb]
      unfold Srtd
      rw [List.pairwise_cons]
      refine ⟨fun y hy => ?_, ins_srtd h t hs.2⟩
      rcases List.mem_cons.1 ((insH_perm h t).subset hy) with rfl | e
      · exact bef_asym hb
      · exact hs.1 y e
    · rw [if_neg hb]
      have hb' : bef x h = false := by simpa using hb
      unfold Srtd
      rw [List.pairwise_cons]
      refine ⟨fun y hy => ?_, List.pairwise_cons.2 hs⟩
      rcases List.mem_cons.1 hy with rfl | e
      · exact hb'
      · exact bef_ntrans hb' (hs.1 y e)
theorem hopsF_srtd (js : List J) (k : Nat) : ∀ (c : Nat) (f r : Int) (q : List Hh), Srtd q → Srtd (hopsF js k c f r q)
  | 0, f, r, q, h => h
  | c + 1, f, r, q, h => hopsF_srtd js k c _ _ _ (ins_srtd _ q h)
theorem planF_srtd (js : List J) : ∀ (ods : List Nat) (q : List Hh), Srtd q → Srtd (planF js ods q)
  | [], q, h => h
  | k :: t, q, h => planF_srtd js t _ (hopsF_srtd js k _ _ _ q h)
def KU (l : List Hh) : Prop := ∀ a ∈ l, ∀ b ∈ l, a.1 = b.1 → a.2.2 = b.2.2 → a = b
theorem lf_ge (js : List J) (pl : List Hh) (a f : Int) : ∀ (n : Nat) (b : Int), b ≤ lf js pl a f n b
  | 0, b => Int.le_refl _
  | n + 1, b => by
    unfold lf
    split
    · have := lf_ge js pl a f n (b + 1); omega
    · exact Int.le_refl _
theorem hopsF_ku (js : List J) (k : Nat) (hs : 1 ≤ (jat js k).2.2.1) : ∀ (c : Nat) (f r : Int) (q : List Hh), KU q → (∀ x ∈ q, x.1 = (k : Int) → x.2.2 < r) → KU (hopsF js k c f r q) ∧ ∀ x ∈ hopsF js k c f r q, x.1 = (k : Int) ∨ x ∈ q
  | 0, f, r, q, h, _ => ⟨h, fun x hx => .inr hx⟩
  | c + 1, f, r, q, h, hlt => by
    unfold hopsF
    have hge := lf_ge js q k f 100000 r
    have hge' : r ≤ lfree js q k f r := hge
    have hmem : ∀ x, x ∈ insH ((k : Int), f, lfree js q k f r) q → x = ((k : Int), f, lfree js q k f r) ∨ x ∈ q := fun x hx => List.mem_cons.1 ((insH_perm _ q).subset hx)
    obtain ⟨g1, g2⟩ := hopsF_ku js k hs c (f + way (jat js k)) (lfree js q k f r + (jat js k).2.2.1) (insH ((k : Int), f, lfree js q k f r) q) (fun a ha b hb e1 e2 => by
        rcases hmem a ha with rfl | ha' <;> rcases hmem b hb with rfl | hb'
        · rfl
        · have := hlt b hb' e1.symm; dsimp only at e2; omega
        · have := hlt a ha' e1; dsimp only at e2; omega
        · exact h a ha' b hb' e1 e2) (fun x hx e => by
        rcases hmem x hx with rfl | hx'
        · dsimp only; omega
        · have := hlt x hx' e; omega)
    refine ⟨g1, fun x hx => ?_⟩
    rcases g2 x hx with e | e
    · exact .inl e
    · rcases hmem x e with rfl | e'
      · exact .inl rfl
      · exact .inr e'
theorem planF_ku (js : List J) (hj : ∀ j ∈ js, JB j) : ∀ (ods : List Nat) (q : List Hh), (∀ k ∈ ods, k < js.length) → ods.Nodup → KU q → (∀ x ∈ q, ∀ k ∈ ods, x.1 ≠ (k : Int)) → KU (planF js ods q)
  | [], q, _, _, h, _ => h
  | k :: t, q, ho, hn, h, hne => by
    rw [List.nodup_cons] at hn
    have hk := ho k (List.mem_cons_self ..)
    have hs : 1 ≤ (jat js k).2.2.1 := by rw [jat_get hk]; exact (hj _ (List.getElem_mem hk)).s0
    obtain ⟨g1, g2⟩ := hopsF_ku js k hs (many (jat js k)).toNat (jat js k).1 (jat js k).2.2.2 q h (fun x hx e => absurd e (hne x hx k (List.mem_cons_self ..)))
    refine planF_ku js hj t _ (fun m hm => ho m (List.mem_cons_of_mem _ hm)) hn.2 g1 (fun x hx m hm e => ?_)
    rcases g2 x hx with e1 | e1
    · rw [e1] at e
      have : k = m := by omega
      subst this
      exact hn.1 hm
    · exact hne x e1 m (List.mem_cons_of_mem _ hm) e
theorem ltB_bef (x y : Hh) : ltOf cfB x y = bef x y := by rw [ltB]; rfl
theorem srt_plan (js : List J) (hj : ∀ j ∈ js, JB j) (ods : List Nat) (ho : ∀ k ∈ ods, k < js.length) (hn : ods.Nodup) : srtL cfB (planA js ods []) = planF js ods [] := by
  obtain ⟨h1, h2⟩ := srtL_sorts cfB swoB (planA js ods [])
  have hp := h1.trans (plan_perm js ods [] [] (List.Perm.refl _))
  have hk := planF_ku js hj ods [] ho hn (fun a ha => by cases ha) (fun x hx => by cases hx)
  have hs := planF_srtd js ods [] List.Pairwise.nil
  refine List.Perm.eq_of_pairwise (le := fun x y => bef y x = false) ?_ ?_ hs hp
  · intro a b ha hb e1 e2
    refine hk a (hp.subset ha) b hb ?_ ?_ <;> (unfold bef at e1 e2; simp only [Bool.or_eq_false_iff, Bool.and_eq_false_iff, decide_eq_false_iff_not] at e1 e2; omega)
  · refine h2.imp fun {x y} h => ?_
    rw [ltB_bef] at h
    exact h
theorem plannedF_i (js : List J) (hj : ∀ j ∈ js, JB j) (ods : List Nat) (ho : ∀ k ∈ ods, k < js.length) (hol : ods.length ≤ 100) (hn : ods.Nodup) :
    ev E0 29 [.lst 4 (js.map jb), .lst 1 (ods.map fun k : Nat => i64 (k : Int))] [] = some (.sl 0 0 (planF js ods []).length, [rh (planF js ods [])]) := by
  have h := (planned_i js hj ods ho hol).2.2
  rw [srt_plan js hj ods ho hn] at h
  exact h
end Go.Proofs.YtlmjoimjdpfamaaGreat.Ev
