/- Plans: the reference's plan of jobs in an order, whole. -/
import Derived.Test.YtlmjoimjdpfamaaGreatEvRelL
set_option linter.unusedVariables false
set_option linter.unusedSimpArgs false
namespace Go.Proofs.YtlmjoimjdpfamaaGreat.Ev
/-- Some hops more of a job. -/
def hopsF (js : List J) (k : Nat) : Nat → Int → Int → List Hh → List Hh
  | 0, _, _, pl => pl
  | c + 1, f, r, pl => hopsF js k c (f + way (jat js k)) (lfree js pl k f r + (jat js k).2.2.1) (insH ((k : Int), f, lfree js pl k f r) pl)
def planF (js : List J) : List Nat → List Hh → List Hh
  | [], pl => pl
  | k :: t, pl => planF js t (hopsF js k (many (jat js k)).toNat (jat js k).1 (jat js k).2.2.2 pl)
theorem ins_PB {js : List J} {pl : List Hh} (hP : PB js pl) {h : Hh} (h1 : HB js h) (h2 : endH js h ≤ 1000 + 60 * (pl.length + 1 : Nat)) : PB js (insH h pl) := by
  intro x hx
  rw [insH_len]
  rcases List.mem_cons.1 ((insH_perm h pl).subset hx) with e | e
  · subst e
    exact ⟨h1, h2⟩
  · have := hP x e
    exact ⟨this.1, by omega⟩
theorem hops_loop (js : List J) (hj : ∀ j ∈ js, JB j) (ods : List Int) (oi : Nat) (k : Nat) (hk : k < js.length) (ho : oi < ods.length) (hok : ods[oi] = (k : Int)) : ∀ (c i : Nat) (r : Int) (pl : List Hh), (i : Int) + c = many js[k] → PB js pl → pl.length + c ≤ 1000 → 0 ≤ r → r ≤ 1000 + 60 * pl.length →
    PB js (hopsF js k c (js[k].1 + way js[k] * i) r pl) ∧ (hopsF js k c (js[k].1 + way js[k] * i) r pl).length = pl.length + c ∧
    packX 0 [0, 1, 5, 6] (loopW (bd E0 (ev E0) loopW 0 [0, 1, 5, 6, 7, 8, 9, 10, 11] L32b0) ⟨[(0, .lst 4 (js.map jb)), (1, .lst 1 (ods.map i64)), (5, .sl 0 0 pl.length), (6, i64 oi), (7, .ptr 1 0 0), (8, i64 (many js[k])), (9, i64 (way js[k])), (10, i64 r), (11, i64 i)], [rh pl, some ⟨63, 4, 0, false, [jb js[k]]⟩]⟩) = some (.ext 2, ⟨[(0, .lst 4 (js.map jb)), (1, .lst 1 (ods.map i64)), (5, .sl 0 0 (hopsF js k c (js[k].1 + way js[k] * i) r pl).length), (6, i64 oi)], [rh (hopsF js k c (js[k].1 + way js[k] * i) r pl)]⟩) := by
  intro c
  have hJ := hj _ (List.getElem_mem hk)
  have f0 := hJ.f0
  have f1 := hJ.f1
  have t0 := hJ.t0
  have t1 := hJ.t1
  have s0 := hJ.s0
  have s1 := hJ.s1
  have hmp := hJ.many_pos
  have hjat := jat_get hk
  induction c with
  | zero =>
    intro i r pl hi hP hlen hr0 hr1
    refine ⟨hP, rfl, ?_⟩
    have h1 : ¬ (i : Int) < many js[k] := by omega
    rw [loopW_eq, hopsF]
    generalize loopW (bd E0 (ev E0) loopW 0 [0, 1, 5, 6, 7, 8, 9, 10, 11] L32b0) = K
    unfold rh
    simp -implicitDefEqProofs [bd, L32b0, h1]
  | succ c ih =>
    intro i r pl hi hP hlen hr0 hr1
    have h1 : (i : Int) < many js[k] := by omega
    have hwc := JB.way_cases (j := js[k])
    have hfb : -10 ≤ js[k].1 + way js[k] * i ∧ js[k].1 + way js[k] * i ≤ 20 := by
      rcases hwc with w | w <;> rw [w] <;> omega
    obtain ⟨p1, p2, p3, p4, p5⟩ := place_s js hj pl hP (by omega) k hk (js[k].1 + way js[k] * i) hfb.1 hfb.2 r hr0 hr1
    have hnew : PB js (insH ((k : Int), js[k].1 + way js[k] * i, lfree js pl k (js[k].1 + way js[k] * i) r) pl) := by
      refine ins_PB hP ⟨by dsimp only; omega, by dsimp only; omega, hfb.1, hfb.2, by dsimp only; omega, by dsimp only; omega⟩ ?_
      unfold endH
      dsimp only
      rw [hjat]
      omega
    have hl := insH_len ((k : Int), js[k].1 + way js[k] * i, lfree js pl k (js[k].1 + way js[k] * i) r) pl
    have hf : js[k].1 + way js[k] * ((i + 1 : Nat) : Int) = js[k].1 + way js[k] * i + way js[k] := by
      rcases hwc with w | w <;> rw [w] <;> push_cast <;> omega
    obtain ⟨g1, g2, g3⟩ := ih (i + 1) (lfree js pl k (js[k].1 + way js[k] * i) r + js[k].2.2.1) (insH ((k : Int), js[k].1 + way js[k] * i, lfree js pl k (js[k].1 + way js[k] * i) r) pl) (by omega) hnew (by omega) (by omega) (by omega)
    rw [hf] at g1 g2 g3
    rw [hopsF, hjat]
    refine ⟨g1, by omega, ?_⟩
    have hw : IntKind.i64.wrap ((i : Int) + 1) = (i : Int) + 1 := wr64 (by omega) (by omega)
    have hwm : IntKind.i64.wrap (way js[k] * (i : Int)) = way js[k] * (i : Int) := by
      refine wr64 ?_ ?_ <;> rcases hwc with w | w <;> rw [w] <;> omega
    have hwa : IntKind.i64.wrap (js[k].1 + way js[k] * (i : Int)) = js[k].1 + way js[k] * (i : Int) := wr64 (by omega) (by omega)
    have tk : ∀ l : List Hh, List.take l.length (l.map hp) = l.map hp := fun l => List.take_of_length_le (by simp)
    rw [cs1] at g3
    rw [loopW_eq]
    generalize loopW (bd E0 (ev E0) loopW 0 [0, 1, 5, 6, 7, 8, 9, 10, 11] L32b0) = K at g3 ⊢
    generalize hopsF js k c _ _ _ = Q at *
    generalize hfe : js[k].1 + way js[k] * (i : Int) = f at p1 p2 p3 p4 p5 g3 ⊢
    have hwa2 := hwa.trans hfe
    generalize lfree js pl k f r = b' at *
    have p5' : ev E0 65 [.lst 4 (js.map jb), .lst 3 (pl.map hp), .agg [i64 (k : Int), i64 f, i64 r]] [] = some (.tup [.sl 0 0 (insH ((k : Int), f, b') pl).length, i64 (b' + js[k].2.2.1)], [rh (insH ((k : Int), f, b') pl)]) := p5
    have tkp := tk pl
    have hpll : pl.length ≤ (pl.map hp).length := by simp
    have fI : okL (free 5) ((insH ((k : Int), f, b') pl).map hp) = true := okL_map (fun _ => rfl) _
    have tkI := tk (insH ((k : Int), f, b') pl)
    generalize insH ((k : Int), f, b') pl = I at *
    unfold rh at *
    generalize pl.map hp = L at *
    have hjb : jb js[k] = .agg [i64 js[k].1, i64 js[k].2.1, i64 js[k].2.2.1, i64 js[k].2.2.2] := rfl
    rw [hjb] at g3 ⊢
    simpa -implicitDefEqProofs [bd, L32b0, h1, ho, hok, hw, hwm, hwa2, tkp, hpll, p5', fI, tkI] using g3
theorem hopsF_props (js : List J) (hj : ∀ j ∈ js, JB j) (k : Nat) (hk : k < js.length) (pl : List Hh) (hP : PB js pl) (hlen : pl.length ≤ 900) : PB js (hopsF js k (many js[k]).toNat js[k].1 js[k].2.2.2 pl) ∧ (hopsF js k (many js[k]).toNat js[k].1 js[k].2.2.2 pl).length ≤ pl.length + 5 := by
  have hJ := hj _ (List.getElem_mem hk)
  have hmp := hJ.many_pos
  have b0 := hJ.b0
  have b1 := hJ.b1
  obtain ⟨h1, h2, _⟩ := hops_loop js hj [(k : Int)] 0 k hk (by simp) rfl (many js[k]).toNat 0 js[k].2.2.2 pl (by omega) hP (by omega) (by omega) (by omega)
  rw [c0, Int.mul_zero, Int.add_zero] at h1 h2
  exact ⟨h1, by omega⟩
theorem plan_loop (js : List J) (hj : ∀ j ∈ js, JB j) (ods : List Nat) (ho : ∀ k ∈ ods, k < js.length) (hol : ods.length ≤ 100) : ∀ (t : List Nat) (i : Nat) (pl : List Hh), ods.drop i = t → i ≤ ods.length → PB js pl → pl.length ≤ 5 * i →
    PB js (planF js t pl) ∧ (planF js t pl).length ≤ 5 * ods.length ∧
    packX 0 [5] (loopW (bd E0 (ev E0) loopW 0 [0, 1, 5, 6] L32b1) ⟨[(0, .lst 4 (js.map jb)), (1, .lst 1 ((ods.map fun k : Nat => (k : Int)).map i64)), (5, .sl 0 0 pl.length), (6, i64 i)], [rh pl]⟩) = some (.ext 0, ⟨[(5, .sl 0 0 (planF js t pl).length)], [rh (planF js t pl)]⟩) := by
  intro t
  induction t with
  | nil =>
    intro i pl h hile hP hlen
    have hi := not_drop h
    refine ⟨hP, ?_, ?_⟩
    · rw [planF]
      omega
    · rw [loopW_eq, planF]
      generalize loopW (bd E0 (ev E0) loopW 0 [0, 1, 5, 6] L32b1) = K
      unfold rh
      simp -implicitDefEqProofs [-List.map_map, bd, L32b1, hi]
  | cons k t ih =>
    intro i pl h hile hP hlen
    obtain ⟨hi, hx, hd, hmem⟩ := at_drop h
    have hk := ho k hmem
    have hJ := hj _ (List.getElem_mem hk)
    have hmp := hJ.many_pos
    have b0 := hJ.b0
    have b1 := hJ.b1
    have hjat := jat_get hk
    obtain ⟨h1, h2⟩ := hopsF_props js hj k hk pl hP (by omega)
    obtain ⟨_, _, hl⟩ := hops_loop js hj (ods.map fun k : Nat => (k : Int)) i k hk (by simpa using hi) (by simp [hx]) (many js[k]).toNat 0 js[k].2.2.2 pl (by omega) hP (by omega) (by omega) (by omega)
    rw [c0, Int.mul_zero, Int.add_zero] at hl
    obtain ⟨g1, g2, g3⟩ := ih (i + 1) _ hd (by omega) h1 (by omega)
    rw [planF, hjat]
    refine ⟨g1, g2, ?_⟩
    have hs := steps_s js[k] hJ
    have hw : IntKind.i64.wrap ((i : Int) + 1) = (i : Int) + 1 := wr64 (by omega) (by omega)
    rw [cs1] at g3
    rw [loopW_eq]
    generalize loopW (bd E0 (ev E0) loopW 0 [0, 1, 5, 6] L32b1) = K at g3 ⊢
    generalize hopsF js k (many js[k]).toNat js[k].1 js[k].2.2.2 pl = Q at *
    generalize planF js t Q = Z at *
    unfold rh jb at *
    simpa -implicitDefEqProofs [-List.map_map, bd, L32b1, hi, hx, hk, hs, hl, hw] using g3
theorem plan_s (js : List J) (hj : ∀ j ∈ js, JB j) (ods : List Nat) (ho : ∀ k ∈ ods, k < js.length) (hol : ods.length ≤ 100) : PB js (planF js ods []) ∧ (planF js ods []).length ≤ 5 * ods.length ∧
    ev E0 32 [.lst 4 (js.map jb), .lst 1 ((ods.map fun k : Nat => (k : Int)).map i64)] [] = some (.sl 0 0 (planF js ods []).length, [rh (planF js ods [])]) := by
  obtain ⟨h1, h2, h3⟩ := plan_loop js hj ods ho hol ods 0 [] rfl (by omega) (fun x hx => by cases hx) (by simp)
  refine ⟨h1, h2, ?_⟩
  rw [e32]
  unfold runF
  rw [c0] at h3
  unfold rh at *
  simp only [List.map_nil, List.length_nil] at h3
  simp -implicitDefEqProofs [-List.map_map, L32, h3]
end Go.Proofs.YtlmjoimjdpfamaaGreat.Ev
