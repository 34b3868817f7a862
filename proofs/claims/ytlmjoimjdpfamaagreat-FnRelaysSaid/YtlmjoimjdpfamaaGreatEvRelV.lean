/- Plans: the program's plan of jobs in an order. -/
import Derived.Test.YtlmjoimjdpfamaaGreatEvRelM
set_option linter.unusedVariables false
set_option linter.unusedSimpArgs false
namespace Go.Proofs.YtlmjoimjdpfamaaGreat.Ev
theorem planned1 (js : List J) (hj : ∀ j ∈ js, JB j) (x h : Hh) (hx : HB js x) (hh : HB js h) : ev E0 58 [hp x, .el (.agg [.lst 4 (js.map jb)]) 0, .el (.agg [i64 h.1, i64 h.2.1, i64 h.2.2]) 0] [] = some (bl (clash js x h), []) := by
  rw [e58]
  unfold runF
  have ho := overlaps_i js hj x h hx hh
  unfold hp at *
  simp -implicitDefEqProofs [L58, ho]
theorem hindex_loop (js : List J) (hj : ∀ j ∈ js, JB j) (pl : List Hh) (hb : ∀ x ∈ pl, HB js x) (hpl : pl.length ≤ 1099511627776) (h : Hh) (hh : HB js h) : ∀ (t : List Hh) (i : Nat), pl.drop i = t →
    ((t.any fun x => clash js x h) = true → ∃ k : Nat, packX 0 [4] (loopW (bd E0 (ev E0) loopW 0 [0, 1, 7, 8] L72b0) ⟨[(0, .lst 3 (pl.map hp)), (1, .fn (.func 58) [] [.el (.agg [.lst 4 (js.map jb)]) 0, .el (.agg [i64 h.1, i64 h.2.1, i64 h.2.2]) 0]), (7, i64 pl.length), (8, i64 i)], []⟩) = some (.ret, ⟨[(4, i64 k)], []⟩)) ∧
    ((t.any fun x => clash js x h) = false → packX 0 [4] (loopW (bd E0 (ev E0) loopW 0 [0, 1, 7, 8] L72b0) ⟨[(0, .lst 3 (pl.map hp)), (1, .fn (.func 58) [] [.el (.agg [.lst 4 (js.map jb)]) 0, .el (.agg [i64 h.1, i64 h.2.1, i64 h.2.2]) 0]), (7, i64 pl.length), (8, i64 i)], []⟩) = some (.ext 0, ⟨[], []⟩)) := by
  intro t
  induction t with
  | nil =>
    intro i h
    have hi := not_drop h
    have hi2 : ¬ (i : Int) < (pl.length : Int) := by omega
    rw [loopW_eq]
    generalize loopW (bd E0 (ev E0) loopW 0 [0, 1, 7, 8] L72b0) = K
    refine ⟨fun h => (by simp at h), fun _ => ?_⟩
    simp -implicitDefEqProofs [bd, L72b0, hi, hi2]
  | cons c t ih =>
    intro i hd0
    obtain ⟨hi, hx, hd, hmem⟩ := at_drop hd0
    have hi2 : (i : Int) < (pl.length : Int) := by omega
    have hw : IntKind.i64.wrap ((i : Int) + 1) = (i : Int) + 1 := wr64 (by omega) (by omega)
    obtain ⟨ih1, ih2⟩ := ih (i + 1) hd
    have hc := planned1 js hj c h (hb c hmem) hh
    rw [cs1] at ih1 ih2
    rw [loopW_eq, List.any_cons]
    generalize loopW (bd E0 (ev E0) loopW 0 [0, 1, 7, 8] L72b0) = K at ih1 ih2 ⊢
    unfold hp at hc ih1 ih2 ⊢
    cases ho : clash js c h with
    | true =>
      rw [ho] at hc
      refine ⟨fun _ => ⟨i, ?_⟩, fun h => (by simp at h)⟩
      simp -implicitDefEqProofs [bd, L72b0, hi, hi2, hx, hc]
    | false =>
      rw [ho] at hc
      refine ⟨fun h => ?_, fun h => ?_⟩
      · obtain ⟨k, hk⟩ := ih1 (by simpa using h)
        refine ⟨k, ?_⟩
        simpa -implicitDefEqProofs [bd, L72b0, hi, hi2, hx, hc, hw] using hk
      · simpa -implicitDefEqProofs [bd, L72b0, hi, hi2, hx, hc, hw] using ih2 (by simpa using h)
theorem hcontains (js : List J) (hj : ∀ j ∈ js, JB j) (pl : List Hh) (hb : ∀ x ∈ pl, HB js x) (hpl : pl.length ≤ 1099511627776) (h : Hh) (hh : HB js h) : ev E0 57 [.lst 3 (pl.map hp), .fn (.func 58) [] [.el (.agg [.lst 4 (js.map jb)]) 0, .el (.agg [i64 h.1, i64 h.2.1, i64 h.2.2]) 0]] [] = some (bl (pl.any fun x => clash js x h), []) := by
  have hix : ((pl.any fun x => clash js x h) = true → ∃ k : Nat, ev E0 72 [.lst 3 (pl.map hp), .fn (.func 58) [] [.el (.agg [.lst 4 (js.map jb)]) 0, .el (.agg [i64 h.1, i64 h.2.1, i64 h.2.2]) 0]] [] = some (i64 k, [])) ∧ ((pl.any fun x => clash js x h) = false → ev E0 72 [.lst 3 (pl.map hp), .fn (.func 58) [] [.el (.agg [.lst 4 (js.map jb)]) 0, .el (.agg [i64 h.1, i64 h.2.1, i64 h.2.2]) 0]] [] = some (i64 (-1), [])) := by
    obtain ⟨k1, k2⟩ := hindex_loop js hj pl hb hpl h hh pl 0 rfl
    rw [c0] at k1 k2
    rw [e72]
    unfold runF
    refine ⟨fun h => ?_, fun h => ?_⟩
    · obtain ⟨k, hk⟩ := k1 h
      exact ⟨k, by simp -implicitDefEqProofs [L72, hk]⟩
    · simp -implicitDefEqProofs [L72, k2 h]
  rw [e57]
  unfold runF
  cases ha : (pl.any fun x => clash js x h) with
  | true =>
    obtain ⟨k, hk⟩ := hix.1 ha
    have h0 : (0 : Int) ≤ (k : Int) := by omega
    simp -implicitDefEqProofs [L57, hk, h0]
  | false => simp -implicitDefEqProofs [L57, hix.2 ha]
def jbx (js : List J) : Option Blk := some ⟨24, 1, 0, false, [.lst 4 (js.map jb)]⟩
def ojb (j : J) : Option Blk := some ⟨63, 4, 0, false, [jb j]⟩
/-- The search for the least free beginning. -/
theorem search_loop (js : List J) (hj : ∀ j ∈ js, JB j) (pl : List Hh) (hb : ∀ x ∈ pl, HB js x) (M : Int) (hM : M ≤ 90000) (hE : ∀ x ∈ pl, endH js x ≤ M) (hpl : pl.length ≤ 1099511627776) (k : Nat) (hk : k < js.length) (f : Int) (f0 : -10 ≤ f) (f1 : f ≤ 20) (ods : List AV) (oi m i : Int) (j : J) : ∀ (n : Nat) (b : Int), M - b < n → 0 ≤ b → b ≤ 90000 →
    ∃ b' : Int, b ≤ b' ∧ (b' = b ∨ b' ≤ M) ∧ (∀ c, b ≤ c → c < b' → blk js pl k f c = true) ∧ blk js pl k f b' = false ∧
    packX 0 [2, 5, 7, 8, 9, 11, 13, 14, 15, 28, 29] (loopW (bd E0 (ev E0) loopW 0 [2, 5, 7, 8, 9, 11, 13, 14, 15, 28, 29] L29b0) ⟨[(2, .ptr 0 0 0), (5, .sl 1 0 pl.length), (7, i64 k), (8, .ptr 2 0 0), (9, i64 f), (11, .ptr 3 0 0), (13, .lst 1 ods), (14, i64 ods.length), (15, i64 oi), (28, i64 m), (29, i64 i)], [jbx js, rh pl, ojb j, bx ((k : Int), f, b)]⟩) =
      some (.ext 4, ⟨[(2, .ptr 0 0 0), (5, .sl 1 0 pl.length), (7, i64 k), (8, .ptr 2 0 0), (9, i64 f), (11, .ptr 3 0 0), (13, .lst 1 ods), (14, i64 ods.length), (15, i64 oi), (28, i64 m), (29, i64 i)], [jbx js, rh pl, ojb j, bx ((k : Int), f, b')]⟩) := by
  intro n
  have hend : ∀ b, blk js pl k f b = true → b < M := by
    intro b h
    unfold blk at h
    rw [List.any_eq_true] at h
    obtain ⟨x, hx, hc⟩ := h
    have := hE x hx
    have := clash_end hc
    omega
  have tk : List.take pl.length (pl.map hp) = pl.map hp := List.take_of_length_le (by simp)
  have hpll : pl.length ≤ (pl.map hp).length := by simp
  have hHB : ∀ b : Int, 0 ≤ b → b ≤ 90000 → HB js ((k : Int), f, b) := fun b h0 h1 => ⟨by dsimp only; omega, by dsimp only; omega, f0, f1, h0, by dsimp only; omega⟩
  have stop : ∀ b : Int, 0 ≤ b → b ≤ 90000 → blk js pl k f b = false → packX 0 [2, 5, 7, 8, 9, 11, 13, 14, 15, 28, 29] (loopW (bd E0 (ev E0) loopW 0 [2, 5, 7, 8, 9, 11, 13, 14, 15, 28, 29] L29b0) ⟨[(2, .ptr 0 0 0), (5, .sl 1 0 pl.length), (7, i64 k), (8, .ptr 2 0 0), (9, i64 f), (11, .ptr 3 0 0), (13, .lst 1 ods), (14, i64 ods.length), (15, i64 oi), (28, i64 m), (29, i64 i)], [jbx js, rh pl, ojb j, bx ((k : Int), f, b)]⟩) =
      some (.ext 4, ⟨[(2, .ptr 0 0 0), (5, .sl 1 0 pl.length), (7, i64 k), (8, .ptr 2 0 0), (9, i64 f), (11, .ptr 3 0 0), (13, .lst 1 ods), (14, i64 ods.length), (15, i64 oi), (28, i64 m), (29, i64 i)], [jbx js, rh pl, ojb j, bx ((k : Int), f, b)]⟩) := by
    intro b h0 h1 hbf
    have hc := hcontains js hj pl hb hpl ((k : Int), f, b) (hHB b h0 h1)
    unfold blk at hbf
    rw [hbf] at hc
    rw [loopW_eq]
    generalize loopW (bd E0 (ev E0) loopW 0 [2, 5, 7, 8, 9, 11, 13, 14, 15, 28, 29] L29b0) = K
    unfold jbx rh ojb
    generalize pl.map hp = L at *
    generalize js.map jb = JL at *
    unfold bx hp jb
    simp -implicitDefEqProofs [bd, L29b0, tk, hpll, hc]
  induction n with
  | zero =>
    intro b hn hb0 hb1
    have hbf : blk js pl k f b = false := by
      cases h : blk js pl k f b with
      | false => rfl
      | true => have := hend b h; omega
    exact ⟨b, Int.le_refl _, .inl rfl, fun c h1 h2 => by omega, hbf, stop b hb0 hb1 hbf⟩
  | succ n ih =>
    intro b hn hb0 hb1
    cases hbf : blk js pl k f b with
    | false => exact ⟨b, Int.le_refl _, .inl rfl, fun c h1 h2 => by omega, hbf, stop b hb0 hb1 hbf⟩
    | true =>
      have hlt := hend b hbf
      obtain ⟨b', h1, h2, h3, h4, h5⟩ := ih (b + 1) (by omega) (by omega) (by omega)
      refine ⟨b', by omega, .inr (by rcases h2 with h | h <;> omega), fun c c1 c2 => ?_, h4, ?_⟩
      · by_cases hc : c = b
        · subst hc; exact hbf
        · exact h3 c (by omega) c2
      · have hc := hcontains js hj pl hb hpl ((k : Int), f, b) (hHB b hb0 hb1)
        unfold blk at hbf
        rw [hbf] at hc
        have hw : IntKind.i64.wrap (b + 1) = b + 1 := wr64 (by omega) (by omega)
        rw [loopW_eq]
        generalize loopW (bd E0 (ev E0) loopW 0 [2, 5, 7, 8, 9, 11, 13, 14, 15, 28, 29] L29b0) = K at h5 ⊢
        unfold jbx rh ojb at *
        generalize pl.map hp = L at *
        generalize js.map jb = JL at *
        unfold bx hp jb at *
        simpa -implicitDefEqProofs [bd, L29b0, tk, hpll, hc, hw] using h5
/-- The hops of a job, put behind those that are there. -/
def hopsA (js : List J) (k : Nat) : Nat → Int → Int → List Hh → List Hh
  | 0, _, _, pl => pl
  | c + 1, f, r, pl => hopsA js k c (f + way (jat js k)) (lfree js pl k f r + (jat js k).2.2.1) (pl ++ [((k : Int), f, lfree js pl k f r)])
def planA (js : List J) : List Nat → List Hh → List Hh
  | [], pl => pl
  | k :: t, pl => planA js t (hopsA js k (many (jat js k)).toNat (jat js k).1 (jat js k).2.2.2 pl)
theorem app_PB {js : List J} {pl : List Hh} (hP : PB js pl) {h : Hh} (h1 : HB js h) (h2 : endH js h ≤ 1000 + 60 * (pl.length + 1 : Nat)) : PB js (pl ++ [h]) := by
  intro x hx
  rw [List.length_append, List.length_singleton]
  rcases List.mem_append.1 hx with e | e
  · have := hP x e
    exact ⟨this.1, by omega⟩
  · rw [List.mem_singleton] at e
    subst e
    exact ⟨h1, h2⟩
theorem lfree_of (js : List J) (pl : List Hh) (k : Nat) (f b b' M : Int) (hM : M ≤ 90000) (h1 : b ≤ b') (h2 : b' = b ∨ b' ≤ M) (h0 : 0 ≤ b) (h3 : ∀ c, b ≤ c → c < b' → blk js pl k f c = true) (h4 : blk js pl k f b' = false) : lfree js pl k f b = b' :=
  lf_eq 100000 b b' h1 (by rcases h2 with h | h <;> omega) h3 h4
theorem hopsA_loop (js : List J) (hj : ∀ j ∈ js, JB j) (ods : List AV) (oi : Int) (k : Nat) (hk : k < js.length) : ∀ (c i : Nat) (r : Int) (pl : List Hh), (i : Int) + c = many js[k] → PB js pl → pl.length + c ≤ 1000 → 0 ≤ r → r ≤ 1000 + 60 * pl.length →
    PB js (hopsA js k c (js[k].1 + way js[k] * i) r pl) ∧ (hopsA js k c (js[k].1 + way js[k] * i) r pl).length = pl.length + c ∧
    packX 0 [2, 5, 13, 14, 15] (loopW (bd E0 (ev E0) loopW 0 [2, 5, 7, 8, 9, 10, 13, 14, 15, 28, 29] L29b1) ⟨[(2, .ptr 0 0 0), (5, .sl 1 0 pl.length), (7, i64 k), (8, .ptr 2 0 0), (9, i64 (js[k].1 + way js[k] * i)), (10, i64 r), (13, .lst 1 ods), (14, i64 ods.length), (15, i64 oi), (28, i64 (many js[k])), (29, i64 i)], [jbx js, rh pl, ojb js[k]]⟩) =
      some (.ext 2, ⟨[(2, .ptr 0 0 0), (5, .sl 1 0 (hopsA js k c (js[k].1 + way js[k] * i) r pl).length), (13, .lst 1 ods), (14, i64 ods.length), (15, i64 oi)], [jbx js, rh (hopsA js k c (js[k].1 + way js[k] * i) r pl)]⟩) := by
  intro c
  have hJ := hj _ (List.getElem_mem hk)
  have f0 := hJ.f0
  have f1 := hJ.f1
  have t0 := hJ.t0
  have t1 := hJ.t1
  have s0 := hJ.s0
  have s1 := hJ.s1
  have hmp := hJ.many_pos
  have hjat := jat_get hk
  induction c with
  | zero =>
    intro i r pl hi hP hlen hr0 hr1
    refine ⟨hP, rfl, ?_⟩
    have h1 : ¬ (i : Int) < many js[k] := by omega
    rw [loopW_eq, hopsA]
    generalize loopW (bd E0 (ev E0) loopW 0 [2, 5, 7, 8, 9, 10, 13, 14, 15, 28, 29] L29b1) = K
    unfold jbx rh ojb
    simp -implicitDefEqProofs [bd, L29b1, h1]
  | succ c ih =>
    intro i r pl hi hP hlen hr0 hr1
    have h1 : (i : Int) < many js[k] := by omega
    have hwc := JB.way_cases (j := js[k])
    have hfb : -10 ≤ js[k].1 + way js[k] * i ∧ js[k].1 + way js[k] * i ≤ 20 := by
      rcases hwc with w | w <;> rw [w] <;> omega
    obtain ⟨b', p1, p2, p3, p4, p5⟩ := search_loop js hj pl (fun x hx => (hP x hx).1) (1000 + 60 * pl.length) (by omega) (fun x hx => (hP x hx).2) (by omega) k hk (js[k].1 + way js[k] * i) hfb.1 hfb.2 ods oi (many js[k]) i js[k] 100000 r (by omega) hr0 (by omega)
    have hb' : b' ≤ 1000 + 60 * pl.length := by rcases p2 with h | h <;> omega
    have hlf := lfree_of js pl k (js[k].1 + way js[k] * i) r b' (1000 + 60 * pl.length) (by omega) p1 p2 hr0 p3 p4
    have hnew : PB js (pl ++ [((k : Int), js[k].1 + way js[k] * i, b')]) := by
      refine app_PB hP ⟨by dsimp only; omega, by dsimp only; omega, hfb.1, hfb.2, by dsimp only; omega, by dsimp only; omega⟩ ?_
      unfold endH
      dsimp only
      rw [hjat]
      omega
    have hl : (pl ++ [((k : Int), js[k].1 + way js[k] * i, b')]).length = pl.length + 1 := by simp
    have hf : js[k].1 + way js[k] * ((i + 1 : Nat) : Int) = js[k].1 + way js[k] * i + way js[k] := by
      rcases hwc with w | w <;> rw [w] <;> push_cast <;> omega
    obtain ⟨g1, g2, g3⟩ := ih (i + 1) (b' + js[k].2.2.1) (pl ++ [((k : Int), js[k].1 + way js[k] * i, b')]) (by omega) hnew (by omega) (by omega) (by omega)
    rw [hf] at g1 g2 g3
    rw [hopsA, hlf, hjat]
    refine ⟨g1, by omega, ?_⟩
    have hw : IntKind.i64.wrap ((i : Int) + 1) = (i : Int) + 1 := wr64 (by omega) (by omega)
    have hwb : IntKind.i64.wrap (b' + js[k].2.2.1) = b' + js[k].2.2.1 := wr64 (by omega) (by omega)
    have hnx := next_i js[k] hJ (js[k].1 + way js[k] * i) hfb.1 hfb.2
    have tk : List.take pl.length (pl.map hp) = pl.map hp := List.take_of_length_le (by simp)
    have hpll : pl.length ≤ (pl.map hp).length := by simp
    have hcap : ((pl.length : Nat) + 1) * 24 ≤ 140737488355328 := by omega
    have hcap2 : (pl.length : Nat) + 1 ≤ 140737488355328 := by omega
    rw [cs1, hl] at g3
    rw [loopW_eq]
    generalize loopW (bd E0 (ev E0) loopW 0 [2, 5, 7, 8, 9, 10, 13, 14, 15, 28, 29] L29b1) = K at g3 ⊢
    generalize hopsA js k c _ _ _ = Q at *
    generalize hfe : js[k].1 + way js[k] * (i : Int) = f at *
    have hmap : List.map hp (pl ++ [((k : Int), f, b')]) = pl.map hp ++ [hp ((k : Int), f, b')] := by simp
    unfold rh at g3
    rw [hmap] at g3
    clear hmap
    have hjb : jb js[k] = .agg [i64 js[k].1, i64 js[k].2.1, i64 js[k].2.2.1, i64 js[k].2.2.2] := rfl
    unfold jbx rh ojb at *
    generalize pl.map hp = L at *
    generalize js.map jb = JL at *
    unfold bx hp at *
    rw [hjb] at hnx g3 p5 ⊢
    simpa -implicitDefEqProofs [bd, L29b1, h1, p5, hnx, hw, hwb, tk, hpll, hcap, hcap2] using g3
end Go.Proofs.YtlmjoimjdpfamaaGreat.Ev
