/- Draws of plans. -/
import Derived.Test.YtlakldjpnpailaaGreatDoorEvRelR
set_option linter.unusedVariables false
set_option linter.unusedSimpArgs false
namespace Go.Proofs.YtlakldjpnpailaaGreatDoor.Ev.Dr
def hb (l : List Hh) : Blk := ⟨60, 3, 1, false, l.map hp⟩
theorem among_l (x : List Int) (hx : okC x) (bs : List Blk) (hb : ∀ b ∈ bs, leafB b) (a s : Int) (h0 : 0 ≤ a) (h1 : a ≤ 549755813888) (l : List Int) (n : Nat) (hn : l.length = n) (hp : 0 < n) :
    ∃ (a' s' t : Int), a ≤ a' ∧ a' ≤ a + 2 ∧ t ∈ l ∧ ev E0 30 [.ptr 0 0 0, .lst 1 (l.map i64)] (some (cu x a s) :: bs.map some) = some (i64 t, some (cu x a' s') :: bs.map some) := by
  subst hn
  have hs : Stable (some (cu x a s) :: bs.map some) := stable_leaves (st_c x a s) bs hb
  have h : hget (some (cu x a s) :: bs.map some) 0 = some (cu x a s) := rfl
  obtain ⟨a', s', r, k1, k2, r0, r1, e⟩ := pick_ok x hx _ 0 a s h hs h0 h1 l.length
  obtain ⟨k, rfl⟩ : ∃ k : Nat, r = k := ⟨r.toNat, by omega⟩
  have hk : k < l.length := by omega
  refine ⟨a', s', l[k], k1, k2, List.getElem_mem hk, ?_⟩
  have hx2 : l[k]? = some l[k] := List.getElem?_eq_getElem hk
  generalize l[k] = t at *
  have pk2 := pk_cu h hs
  have hki : (k : Int) < (l.length : Int) := by omega
  have hx3 : ∀ h, l[k]'h = t := fun h => (List.getElem?_eq_some_iff.1 hx2).2
  rw [List.set_cons_zero] at e
  have pk3 : ∀ roots, (∀ q ∈ roots, q < (some (cu x a s) :: bs.map some).length) → packH (some (cu x a s) :: bs.map some).length (some (cu x a' s') :: bs.map some) roots = some ([], some (cu x a' s') :: bs.map some) := fun roots hr => by
    have := pk2 a' s' roots hr
    rwa [List.set_cons_zero] at this
  rw [e30]
  unfold runF
  generalize some (cu x a s) :: bs.map some = H1 at *
  generalize some (cu x a' s') :: bs.map some = H2 at *
  simp -implicitDefEqProofs [L30, e, hx2, hx3, hk, hki, -pack, -packH, pk3]
theorem leaf4 (l : List J) (o : List Int) (pl : List Hh) : ∀ b ∈ [rj l, ib o, hb [], hb pl], leafB b := by
  intro b h
  simp only [List.mem_cons, List.not_mem_nil, or_false] at h
  rcases h with h | h | h | h <;> rw [h] <;> exact ⟨rfl, fun _ => rfl⟩
theorem draw_p0 (x : List Int) (n : Int) (l : List J) (o : List Int) (ns : List Nat) (hl : l.length ≤ 5) (hon : o = ns.map fun k : Nat => (k : Int)) (hol : o.length = l.length) (hgd : okJobs n l = true) (hod : ordB o.length [] o = true) (pl : List Hh) (hpl : pl.length ≤ 25) (h1 : ev E0 23 [.lst 1 (cd x)] [] = some (.tup [i64 n, .sl 0 0 l.length, .sl 1 0 o.length], [some (rj l), some (ib o)])) (h2 : ev E0 26 [.lst 4 (l.map jb), .lst 1 (o.map i64)] [] = some (.sl 0 0 pl.length, [some (hb pl)])) (hz : pl = []) :
    ev E0 5 [.lst 1 (cd x)] [] = some (.tup [i64 n, .sl 0 0 l.length, .sl 1 0 pl.length], [some (rj l), some (hb pl)]) := by
  subst hz
  have hg := good_s n l
  have ho := order_s o (by omega)
  rw [hgd] at hg
  rw [hod, hol] at ho
  have tl : List.take l.length (l.map jb) = l.map jb := List.take_of_length_le (by simp)
  have to : List.take o.length (o.map i64) = o.map i64 := List.take_of_length_le (by simp)
  have hl1 : l.length ≤ (l.map jb).length := by simp
  have fH : okL (free 5) (([] : List Hh).map hp) = true := okL_map (fun _ => rfl) _
  have ho1 : o.length ≤ (o.map i64).length := by simp
  rw [e5]
  unfold runF
  unfold cu rj ib hb at *
  simp only [List.map_cons, List.map_nil] at *
  generalize l.map jb = Lj at *
  generalize o.map i64 = Oi at *
  simp -implicitDefEqProofs [L5, h1, h2, hg, ho, tl, to, hl1, ho1]
theorem draw_p1 (x : List Int) (n : Int) (l : List J) (o : List Int) (ns : List Nat) (hl : l.length ≤ 5) (hon : o = ns.map fun k : Nat => (k : Int)) (hol : o.length = l.length) (hgd : okJobs n l = true) (hod : ordB o.length [] o = true) (pl : List Hh) (hpl : pl.length ≤ 25) (h1 : ev E0 23 [.lst 1 (cd x)] [] = some (.tup [i64 n, .sl 0 0 l.length, .sl 1 0 o.length], [some (rj l), some (ib o)])) (h2 : ev E0 26 [.lst 4 (l.map jb), .lst 1 (o.map i64)] [] = some (.sl 0 0 pl.length, [some (hb pl)])) (hz : 0 < pl.length) (a1 s1 : Int) (h3 : ev E0 27 [.ptr 0 0 0, i64 3] (some (cu x 0 0) :: [rj l, ib o, hb [], hb pl].map some) = some (bl false, some (cu x a1 s1) :: [rj l, ib o, hb [], hb pl].map some)) :
    ev E0 5 [.lst 1 (cd x)] [] = some (.tup [i64 n, .sl 0 0 l.length, .sl 1 0 pl.length], [some (rj l), some (hb pl)]) := by
  have hz2 : (0 : Int) < (pl.length : Int) := by omega
  have hg := good_s n l
  have ho := order_s o (by omega)
  rw [hgd] at hg
  rw [hod, hol] at ho
  have tl : List.take l.length (l.map jb) = l.map jb := List.take_of_length_le (by simp)
  have to : List.take o.length (o.map i64) = o.map i64 := List.take_of_length_le (by simp)
  have hl1 : l.length ≤ (l.map jb).length := by simp
  have fH : okL (free 5) (pl.map hp) = true := okL_map (fun _ => rfl) _
  have ho1 : o.length ≤ (o.map i64).length := by simp
  rw [e5]
  unfold runF
  unfold cu rj ib hb at *
  simp only [List.map_cons, List.map_nil] at *
  generalize l.map jb = Lj at *
  generalize o.map i64 = Oi at *
  simp -implicitDefEqProofs [fH, L5, h1, h2, hg, ho, tl, to, hl1, ho1, h3, hz, hz2]
set_option maxHeartbeats 1600000 in
theorem draw_w0 (x : List Int) (n : Int) (l : List J) (o : List Int) (ns : List Nat) (hl : l.length ≤ 5) (hon : o = ns.map fun k : Nat => (k : Int)) (hol : o.length = l.length) (hgd : okJobs n l = true) (hod : ordB o.length [] o = true) (pl : List Hh) (hpl : pl.length ≤ 25) (h1 : ev E0 23 [.lst 1 (cd x)] [] = some (.tup [i64 n, .sl 0 0 l.length, .sl 1 0 o.length], [some (rj l), some (ib o)])) (h2 : ev E0 26 [.lst 4 (l.map jb), .lst 1 (o.map i64)] [] = some (.sl 0 0 pl.length, [some (hb pl)])) (a1 s1 : Int) (h3 : ev E0 27 [.ptr 0 0 0, i64 3] (some (cu x 0 0) :: [rj l, ib o, hb [], hb pl].map some) = some (bl true, some (cu x a1 s1) :: [rj l, ib o, hb [], hb pl].map some)) (i : Nat) (hi : i < pl.length) (a2 s2 : Int) (h4 : ev E0 28 [.ptr 0 0 0, i64 pl.length] (some (cu x a1 s1) :: [rj l, ib o, hb [], hb pl].map some) = some (i64 i, some (cu x a2 s2) :: [rj l, ib o, hb [], hb pl].map some)) (a3 s3 : Int) (h5 : ev E0 28 [.ptr 0 0 0, i64 5] (some (cu x a2 s2) :: [rj l, ib o, hb [], hb pl].map some) = some (i64 0, some (cu x a3 s3) :: [rj l, ib o, hb [], hb pl].map some)) (A F B : Int) (hx : pl[i] = (A, F, B)) (hB0 : 0 ≤ B) (hB1 : B ≤ 100000)  :
    ev E0 5 [.lst 1 (cd x)] [] = some (.tup [i64 n, .sl 0 0 l.length, .sl 1 0 pl.length], [some (rj l), some (hb (pl.set i (A, F, if (0 : Int) < B - 1 then B - 1 else 0)))]) := by
  have hz : 0 < pl.length := by omega
  have hz2 : (0 : Int) < (pl.length : Int) := by omega
  have hi2 : (i : Int) < (pl.length : Int) := by omega
  have hi3 : (0 : Int) ≤ (i : Int) := by omega
  have hOi : ∀ h, (pl.map hp)[i]'h = .agg [i64 A, i64 F, i64 B] := fun h => by rw [List.getElem_map, hx]; rfl
  have hLl : pl.length ≤ (pl.map hp).length := by simp
  have hLe : (pl.map hp).length = pl.length := by simp
  have hset : (pl.map hp).set i (.agg [i64 (A), i64 (F), i64 (if (0 : Int) < B - 1 then B - 1 else 0)]) = (pl.set i (A, F, if (0 : Int) < B - 1 then B - 1 else 0)).map hp := by rw [List.map_set]; rfl
  have hw : IntKind.i64.wrap (B - 1) = B - 1 := wr64 (by omega) (by omega)
  have hm := most_s 0 (B - 1)
  have hg := good_s n l
  have ho := order_s o (by omega)
  rw [hgd] at hg
  rw [hod, hol] at ho
  have tl : List.take l.length (l.map jb) = l.map jb := List.take_of_length_le (by simp)
  have to : List.take o.length (o.map i64) = o.map i64 := List.take_of_length_le (by simp)
  have hl1 : l.length ≤ (l.map jb).length := by simp
  have fH : okL (free 5) (pl.map hp) = true := okL_map (fun _ => rfl) _
  have ho1 : o.length ≤ (o.map i64).length := by simp
  rw [e5]
  unfold runF
  unfold cu rj ib hb at *
  rw [← hset]
  simp only [List.map_cons, List.map_nil, List.cons_append, List.nil_append, List.length_cons, List.length_nil, Nat.zero_add] at *
  generalize l.map jb = Lj at *
  generalize o.map i64 = Oi at *
  generalize pl.map hp = Lp at *
  simp (maxSteps := 1000000) -implicitDefEqProofs [fH, L5, h1, h2, hg, ho, tl, to, hl1, ho1, h3, h4, h5, hz, hz2, hi, hi2, hi3, hOi, hLl, hLe, hw, hm]
set_option maxHeartbeats 1600000 in
theorem draw_w1 (x : List Int) (n : Int) (l : List J) (o : List Int) (ns : List Nat) (hl : l.length ≤ 5) (hon : o = ns.map fun k : Nat => (k : Int)) (hol : o.length = l.length) (hgd : okJobs n l = true) (hod : ordB o.length [] o = true) (pl : List Hh) (hpl : pl.length ≤ 25) (h1 : ev E0 23 [.lst 1 (cd x)] [] = some (.tup [i64 n, .sl 0 0 l.length, .sl 1 0 o.length], [some (rj l), some (ib o)])) (h2 : ev E0 26 [.lst 4 (l.map jb), .lst 1 (o.map i64)] [] = some (.sl 0 0 pl.length, [some (hb pl)])) (a1 s1 : Int) (h3 : ev E0 27 [.ptr 0 0 0, i64 3] (some (cu x 0 0) :: [rj l, ib o, hb [], hb pl].map some) = some (bl true, some (cu x a1 s1) :: [rj l, ib o, hb [], hb pl].map some)) (i : Nat) (hi : i < pl.length) (a2 s2 : Int) (h4 : ev E0 28 [.ptr 0 0 0, i64 pl.length] (some (cu x a1 s1) :: [rj l, ib o, hb [], hb pl].map some) = some (i64 i, some (cu x a2 s2) :: [rj l, ib o, hb [], hb pl].map some)) (a3 s3 : Int) (h5 : ev E0 28 [.ptr 0 0 0, i64 5] (some (cu x a2 s2) :: [rj l, ib o, hb [], hb pl].map some) = some (i64 1, some (cu x a3 s3) :: [rj l, ib o, hb [], hb pl].map some)) (A F B : Int) (hx : pl[i] = (A, F, B)) (hB0 : 0 ≤ B) (hB1 : B ≤ 100000) (t a4 s4 : Int) (h6 : ev E0 30 [.ptr 0 0 0, .lst 1 ([1, 1, 100, 9999, 9223372036854775807 - B].map i64)] (some (cu x a3 s3) :: [rj l, ib o, hb [], hb pl].map some) = some (i64 t, some (cu x a4 s4) :: [rj l, ib o, hb [], hb pl].map some)) :
    ev E0 5 [.lst 1 (cd x)] [] = some (.tup [i64 n, .sl 0 0 l.length, .sl 1 0 pl.length], [some (rj l), some (hb (pl.set i (A, F, IntKind.i64.wrap (B + t))))]) := by
  have hz : 0 < pl.length := by omega
  have hz2 : (0 : Int) < (pl.length : Int) := by omega
  have hi2 : (i : Int) < (pl.length : Int) := by omega
  have hi3 : (0 : Int) ≤ (i : Int) := by omega
  have hOi : ∀ h, (pl.map hp)[i]'h = .agg [i64 A, i64 F, i64 B] := fun h => by rw [List.getElem_map, hx]; rfl
  have hLl : pl.length ≤ (pl.map hp).length := by simp
  have hLe : (pl.map hp).length = pl.length := by simp
  have hset : (pl.map hp).set i (.agg [i64 (A), i64 (F), i64 (IntKind.i64.wrap (B + t))]) = (pl.set i (A, F, IntKind.i64.wrap (B + t))).map hp := by rw [List.map_set]; rfl
  have hw : IntKind.i64.wrap (9223372036854775807 - B) = 9223372036854775807 - B := wr64 (by omega) (by omega)
  have hg := good_s n l
  have ho := order_s o (by omega)
  rw [hgd] at hg
  rw [hod, hol] at ho
  have tl : List.take l.length (l.map jb) = l.map jb := List.take_of_length_le (by simp)
  have to : List.take o.length (o.map i64) = o.map i64 := List.take_of_length_le (by simp)
  have hl1 : l.length ≤ (l.map jb).length := by simp
  have fH : okL (free 5) (pl.map hp) = true := okL_map (fun _ => rfl) _
  have ho1 : o.length ≤ (o.map i64).length := by simp
  rw [e5]
  unfold runF
  unfold cu rj ib hb at *
  rw [← hset]
  simp only [List.map_cons, List.map_nil, List.cons_append, List.nil_append, List.length_cons, List.length_nil, Nat.zero_add] at *
  generalize l.map jb = Lj at *
  generalize o.map i64 = Oi at *
  generalize pl.map hp = Lp at *
  simp (maxSteps := 1000000) -implicitDefEqProofs [fH, L5, h1, h2, hg, ho, tl, to, hl1, ho1, h3, h4, h5, hz, hz2, hi, hi2, hi3, hOi, hLl, hLe, hw, h6]
set_option maxHeartbeats 1600000 in
theorem draw_w2 (x : List Int) (n : Int) (l : List J) (o : List Int) (ns : List Nat) (hl : l.length ≤ 5) (hon : o = ns.map fun k : Nat => (k : Int)) (hol : o.length = l.length) (hgd : okJobs n l = true) (hod : ordB o.length [] o = true) (pl : List Hh) (hpl : pl.length ≤ 25) (h1 : ev E0 23 [.lst 1 (cd x)] [] = some (.tup [i64 n, .sl 0 0 l.length, .sl 1 0 o.length], [some (rj l), some (ib o)])) (h2 : ev E0 26 [.lst 4 (l.map jb), .lst 1 (o.map i64)] [] = some (.sl 0 0 pl.length, [some (hb pl)])) (a1 s1 : Int) (h3 : ev E0 27 [.ptr 0 0 0, i64 3] (some (cu x 0 0) :: [rj l, ib o, hb [], hb pl].map some) = some (bl true, some (cu x a1 s1) :: [rj l, ib o, hb [], hb pl].map some)) (i : Nat) (hi : i < pl.length) (a2 s2 : Int) (h4 : ev E0 28 [.ptr 0 0 0, i64 pl.length] (some (cu x a1 s1) :: [rj l, ib o, hb [], hb pl].map some) = some (i64 i, some (cu x a2 s2) :: [rj l, ib o, hb [], hb pl].map some)) (a3 s3 : Int) (h5 : ev E0 28 [.ptr 0 0 0, i64 5] (some (cu x a2 s2) :: [rj l, ib o, hb [], hb pl].map some) = some (i64 2, some (cu x a3 s3) :: [rj l, ib o, hb [], hb pl].map some)) (A F B : Int) (hx : pl[i] = (A, F, B)) (hB0 : 0 ≤ B) (hB1 : B ≤ 100000) (t a4 s4 : Int) (h6 : ev E0 28 [.ptr 0 0 0, i64 6] (some (cu x a3 s3) :: [rj l, ib o, hb [], hb pl].map some) = some (i64 t, some (cu x a4 s4) :: [rj l, ib o, hb [], hb pl].map some)) :
    ev E0 5 [.lst 1 (cd x)] [] = some (.tup [i64 n, .sl 0 0 l.length, .sl 1 0 pl.length], [some (rj l), some (hb (pl.set i (A, t, B)))]) := by
  have hz : 0 < pl.length := by omega
  have hz2 : (0 : Int) < (pl.length : Int) := by omega
  have hi2 : (i : Int) < (pl.length : Int) := by omega
  have hi3 : (0 : Int) ≤ (i : Int) := by omega
  have hOi : ∀ h, (pl.map hp)[i]'h = .agg [i64 A, i64 F, i64 B] := fun h => by rw [List.getElem_map, hx]; rfl
  have hLl : pl.length ≤ (pl.map hp).length := by simp
  have hLe : (pl.map hp).length = pl.length := by simp
  have hset : (pl.map hp).set i (.agg [i64 (A), i64 (t), i64 (B)]) = (pl.set i (A, t, B)).map hp := by rw [List.map_set]; rfl
  have hg := good_s n l
  have ho := order_s o (by omega)
  rw [hgd] at hg
  rw [hod, hol] at ho
  have tl : List.take l.length (l.map jb) = l.map jb := List.take_of_length_le (by simp)
  have to : List.take o.length (o.map i64) = o.map i64 := List.take_of_length_le (by simp)
  have hl1 : l.length ≤ (l.map jb).length := by simp
  have fH : okL (free 5) (pl.map hp) = true := okL_map (fun _ => rfl) _
  have ho1 : o.length ≤ (o.map i64).length := by simp
  rw [e5]
  unfold runF
  unfold cu rj ib hb at *
  rw [← hset]
  simp only [List.map_cons, List.map_nil, List.cons_append, List.nil_append, List.length_cons, List.length_nil, Nat.zero_add] at *
  generalize l.map jb = Lj at *
  generalize o.map i64 = Oi at *
  generalize pl.map hp = Lp at *
  simp (maxSteps := 1000000) -implicitDefEqProofs [fH, L5, h1, h2, hg, ho, tl, to, hl1, ho1, h3, h4, h5, hz, hz2, hi, hi2, hi3, hOi, hLl, hLe, h6]
set_option maxHeartbeats 1600000 in
theorem draw_w3 (x : List Int) (n : Int) (l : List J) (o : List Int) (ns : List Nat) (hl : l.length ≤ 5) (hon : o = ns.map fun k : Nat => (k : Int)) (hol : o.length = l.length) (hgd : okJobs n l = true) (hod : ordB o.length [] o = true) (pl : List Hh) (hpl : pl.length ≤ 25) (h1 : ev E0 23 [.lst 1 (cd x)] [] = some (.tup [i64 n, .sl 0 0 l.length, .sl 1 0 o.length], [some (rj l), some (ib o)])) (h2 : ev E0 26 [.lst 4 (l.map jb), .lst 1 (o.map i64)] [] = some (.sl 0 0 pl.length, [some (hb pl)])) (a1 s1 : Int) (h3 : ev E0 27 [.ptr 0 0 0, i64 3] (some (cu x 0 0) :: [rj l, ib o, hb [], hb pl].map some) = some (bl true, some (cu x a1 s1) :: [rj l, ib o, hb [], hb pl].map some)) (i : Nat) (hi : i < pl.length) (a2 s2 : Int) (h4 : ev E0 28 [.ptr 0 0 0, i64 pl.length] (some (cu x a1 s1) :: [rj l, ib o, hb [], hb pl].map some) = some (i64 i, some (cu x a2 s2) :: [rj l, ib o, hb [], hb pl].map some)) (a3 s3 : Int) (h5 : ev E0 28 [.ptr 0 0 0, i64 5] (some (cu x a2 s2) :: [rj l, ib o, hb [], hb pl].map some) = some (i64 3, some (cu x a3 s3) :: [rj l, ib o, hb [], hb pl].map some)) (A F B : Int) (hx : pl[i] = (A, F, B)) (hB0 : 0 ≤ B) (hB1 : B ≤ 100000) (t a4 s4 : Int) (h6 : ev E0 30 [.ptr 0 0 0, .sl 5 0 4] (some (cu x a3 s3) :: ([rj l, ib o, hb [], hb pl] ++ [ib [0, 1, -1, 9]]).map some) = some (i64 t, some (cu x a4 s4) :: ([rj l, ib o, hb [], hb pl] ++ [ib [0, 1, -1, 9]]).map some)) :
    ev E0 5 [.lst 1 (cd x)] [] = some (.tup [i64 n, .sl 0 0 l.length, .sl 1 0 pl.length], [some (rj l), some (hb (pl.set i (t, F, B)))]) := by
  have hz : 0 < pl.length := by omega
  have hz2 : (0 : Int) < (pl.length : Int) := by omega
  have hi2 : (i : Int) < (pl.length : Int) := by omega
  have hi3 : (0 : Int) ≤ (i : Int) := by omega
  have hOi : ∀ h, (pl.map hp)[i]'h = .agg [i64 A, i64 F, i64 B] := fun h => by rw [List.getElem_map, hx]; rfl
  have hLl : pl.length ≤ (pl.map hp).length := by simp
  have hLe : (pl.map hp).length = pl.length := by simp
  have hset : (pl.map hp).set i (.agg [i64 (t), i64 (F), i64 (B)]) = (pl.set i (t, F, B)).map hp := by rw [List.map_set]; rfl
  have hg := good_s n l
  have ho := order_s o (by omega)
  rw [hgd] at hg
  rw [hod, hol] at ho
  have tl : List.take l.length (l.map jb) = l.map jb := List.take_of_length_le (by simp)
  have to : List.take o.length (o.map i64) = o.map i64 := List.take_of_length_le (by simp)
  have hl1 : l.length ≤ (l.map jb).length := by simp
  have fH : okL (free 5) (pl.map hp) = true := okL_map (fun _ => rfl) _
  have ho1 : o.length ≤ (o.map i64).length := by simp
  rw [e5]
  unfold runF
  unfold cu rj ib hb at *
  rw [← hset]
  simp only [List.map_cons, List.map_nil, List.cons_append, List.nil_append, List.length_cons, List.length_nil, Nat.zero_add] at *
  generalize l.map jb = Lj at *
  generalize o.map i64 = Oi at *
  generalize pl.map hp = Lp at *
  simp (maxSteps := 1000000) -implicitDefEqProofs [fH, L5, h1, h2, hg, ho, tl, to, hl1, ho1, h3, h4, h5, hz, hz2, hi, hi2, hi3, hOi, hLl, hLe, h6]
set_option maxHeartbeats 1600000 in
theorem draw_v00 (x : List Int) (n : Int) (l : List J) (o : List Int) (ns : List Nat) (hl : l.length ≤ 5) (hon : o = ns.map fun k : Nat => (k : Int)) (hol : o.length = l.length) (hgd : okJobs n l = true) (hod : ordB o.length [] o = true) (pl : List Hh) (hpl : pl.length ≤ 25) (h1 : ev E0 23 [.lst 1 (cd x)] [] = some (.tup [i64 n, .sl 0 0 l.length, .sl 1 0 o.length], [some (rj l), some (ib o)])) (h2 : ev E0 26 [.lst 4 (l.map jb), .lst 1 (o.map i64)] [] = some (.sl 0 0 pl.length, [some (hb pl)])) (a1 s1 : Int) (h3 : ev E0 27 [.ptr 0 0 0, i64 3] (some (cu x 0 0) :: [rj l, ib o, hb [], hb pl].map some) = some (bl true, some (cu x a1 s1) :: [rj l, ib o, hb [], hb pl].map some)) (i : Nat) (hi : i < pl.length) (a2 s2 : Int) (h4 : ev E0 28 [.ptr 0 0 0, i64 pl.length] (some (cu x a1 s1) :: [rj l, ib o, hb [], hb pl].map some) = some (i64 i, some (cu x a2 s2) :: [rj l, ib o, hb [], hb pl].map some)) (a3 s3 : Int) (h5 : ev E0 28 [.ptr 0 0 0, i64 5] (some (cu x a2 s2) :: [rj l, ib o, hb [], hb pl].map some) = some (i64 4, some (cu x a3 s3) :: [rj l, ib o, hb [], hb pl].map some)) (hT : List.take i (pl.map hp) = []) (hD : List.drop (i + 1) (pl.map hp) = []) (m : Nat) (hm : m + 1 = pl.length) (IM : List AV) (hI : [] ++ [] = IM) :
    ev E0 5 [.lst 1 (cd x)] [] = some (.tup [i64 n, .sl 0 0 l.length, .sl 1 0 m], [some (rj l), some ⟨60, 3, 1, false, IM⟩]) := by
  have hz : 0 < pl.length := by omega
  have hz2 : (0 : Int) < (pl.length : Int) := by omega
  have hi3 : (0 : Int) ≤ (i : Int) := by omega
  have hi4 : (i : Int) ≤ (pl.length : Int) := by omega
  have hi5 : (i : Int) + 1 ≤ (pl.length : Int) := by omega
  have hi6 : (0 : Int) ≤ (i : Int) + 1 := by omega
  have hi9 : i ≤ pl.length := by omega
  have hi10 : i + 1 + (pl.length - (i + 1)) ≤ pl.length := by omega
  have hi8 : (0 : Int) + 1 ≤ (pl.length : Int) := by omega
  have hi7 : ((i : Int) + 1).toNat = i + 1 := by omega
  have hw : IntKind.i64.wrap ((i : Int) + 1) = (i : Int) + 1 := wr64 (by omega) (by omega)
  have hLe : (pl.map hp).length = pl.length := by simp
  have tk : ([] : List AV).length = i := by rw [← hT, List.length_take]; omega
  have dk : ([] : List AV).length = pl.length - (i + 1) := by rw [← hD, List.length_drop]; omega
  have dr : List.take (pl.length - (i + 1)) (List.drop (i + 1) (pl.map hp)) = [] := by rw [hD]; exact List.take_of_length_le (by omega)
  have hw1 : IntKind.i64.wrap 1 = 1 := by decide
  obtain rfl : i = 0 := by simpa using tk.symm
  have c1 : pl.length = 0 + 1 := by simp at dk; omega
  have c2 : m = 0 := by omega
  have c1a : pl.length - (0 + 1) = 0 := by omega
  have c1b : pl.length ≤ 0 + 1 := by omega
  have c1c : pl.length - 1 = 0 := by omega
  have c1d : pl.length ≤ 1 := by omega
  subst c2
  simp only [Nat.zero_add] at hD dr hi10 c1
  have hi11 : (1 : Int) ≤ (pl.length : Int) := by omega
  have hi12 : 1 ≤ pl.length := by omega
  subst hI
  have hg := good_s n l
  have ho := order_s o (by omega)
  rw [hgd] at hg
  rw [hod, hol] at ho
  have tl : List.take l.length (l.map jb) = l.map jb := List.take_of_length_le (by simp)
  have to : List.take o.length (o.map i64) = o.map i64 := List.take_of_length_le (by simp)
  have hl1 : l.length ≤ (l.map jb).length := by simp
  have fH : okL (free 5) (pl.map hp) = true := okL_map (fun _ => rfl) _
  have ho1 : o.length ≤ (o.map i64).length := by simp
  rw [e5]
  unfold runF
  unfold cu rj ib hb at *
  simp only [List.map_cons, List.map_nil, List.cons_append, List.nil_append, List.length_cons, List.length_nil, Nat.zero_add] at *
  generalize l.map jb = Lj at *
  generalize o.map i64 = Oi at *
  generalize pl.map hp = Lp at *
  simp (maxSteps := 1000000) -implicitDefEqProofs [fH, L5, h1, h2, hg, ho, tl, to, hl1, ho1, h3, h4, h5, hz, hz2, hi, hi3, hi4, hi5, hi6, hi7, hw, hLe, hT, hD, dr, c1a, c1b, c1c, c1d, hi9, hi10, hw1, hi11, hi12]
set_option maxHeartbeats 1600000 in
theorem draw_v01 (x : List Int) (n : Int) (l : List J) (o : List Int) (ns : List Nat) (hl : l.length ≤ 5) (hon : o = ns.map fun k : Nat => (k : Int)) (hol : o.length = l.length) (hgd : okJobs n l = true) (hod : ordB o.length [] o = true) (pl : List Hh) (hpl : pl.length ≤ 25) (h1 : ev E0 23 [.lst 1 (cd x)] [] = some (.tup [i64 n, .sl 0 0 l.length, .sl 1 0 o.length], [some (rj l), some (ib o)])) (h2 : ev E0 26 [.lst 4 (l.map jb), .lst 1 (o.map i64)] [] = some (.sl 0 0 pl.length, [some (hb pl)])) (a1 s1 : Int) (h3 : ev E0 27 [.ptr 0 0 0, i64 3] (some (cu x 0 0) :: [rj l, ib o, hb [], hb pl].map some) = some (bl true, some (cu x a1 s1) :: [rj l, ib o, hb [], hb pl].map some)) (i : Nat) (hi : i < pl.length) (a2 s2 : Int) (h4 : ev E0 28 [.ptr 0 0 0, i64 pl.length] (some (cu x a1 s1) :: [rj l, ib o, hb [], hb pl].map some) = some (i64 i, some (cu x a2 s2) :: [rj l, ib o, hb [], hb pl].map some)) (a3 s3 : Int) (h5 : ev E0 28 [.ptr 0 0 0, i64 5] (some (cu x a2 s2) :: [rj l, ib o, hb [], hb pl].map some) = some (i64 4, some (cu x a3 s3) :: [rj l, ib o, hb [], hb pl].map some)) (d : AV) (D : List AV) (hT : List.take i (pl.map hp) = []) (hD : List.drop (i + 1) (pl.map hp) = (d :: D)) (m : Nat) (hm : m + 1 = pl.length) (IM : List AV) (hI : [] ++ (d :: D) = IM) :
    ev E0 5 [.lst 1 (cd x)] [] = some (.tup [i64 n, .sl 0 0 l.length, .sl 1 0 m], [some (rj l), some ⟨60, 3, 1, false, IM⟩]) := by
  have hz : 0 < pl.length := by omega
  have hz2 : (0 : Int) < (pl.length : Int) := by omega
  have hi3 : (0 : Int) ≤ (i : Int) := by omega
  have hi4 : (i : Int) ≤ (pl.length : Int) := by omega
  have hi5 : (i : Int) + 1 ≤ (pl.length : Int) := by omega
  have hi6 : (0 : Int) ≤ (i : Int) + 1 := by omega
  have hi9 : i ≤ pl.length := by omega
  have hi10 : i + 1 + (pl.length - (i + 1)) ≤ pl.length := by omega
  have hi8 : (0 : Int) + 1 ≤ (pl.length : Int) := by omega
  have hi7 : ((i : Int) + 1).toNat = i + 1 := by omega
  have hw : IntKind.i64.wrap ((i : Int) + 1) = (i : Int) + 1 := wr64 (by omega) (by omega)
  have hLe : (pl.map hp).length = pl.length := by simp
  have tk : ([] : List AV).length = i := by rw [← hT, List.length_take]; omega
  have dk : ((d :: D) : List AV).length = pl.length - (i + 1) := by rw [← hD, List.length_drop]; omega
  have dr : List.take (pl.length - (i + 1)) (List.drop (i + 1) (pl.map hp)) = (d :: D) := by rw [hD]; exact List.take_of_length_le (by omega)
  have hw1 : IntKind.i64.wrap 1 = 1 := by decide
  obtain rfl : i = 0 := by simpa using tk.symm
  have c1 : D.length + 1 = pl.length - (0 + 1) := by simpa using dk
  have c2 : 0 + (pl.length - (0 + 1)) = m := by omega
  have c3 : ¬ pl.length - (0 + 1) = 0 := by omega
  have c4 : m * 24 ≤ 140737488355328 := by omega
  have c5 : m ≤ 140737488355328 := by omega
  have c6 : 0 + (D.length + 1) = m := by omega
  have dk2 : List.take (pl.length - (0 + 1)) (d :: D) = d :: D := List.take_of_length_le (by simp; omega)
  have dk3 : ¬ pl.length ≤ 0 + 1 := by omega
  simp only [Nat.zero_add] at hD dr hi10 c1 c2 c3 c6 dk2 dk3
  have hi11 : (1 : Int) ≤ (pl.length : Int) := by omega
  have hi12 : 1 ≤ pl.length := by omega
  have c7 : 1 + m ≤ pl.length := by omega
  have dk4 : List.take m (d :: D) = d :: D := List.take_of_length_le (by simp; omega)
  subst hI
  have hg := good_s n l
  have ho := order_s o (by omega)
  rw [hgd] at hg
  rw [hod, hol] at ho
  have tl : List.take l.length (l.map jb) = l.map jb := List.take_of_length_le (by simp)
  have to : List.take o.length (o.map i64) = o.map i64 := List.take_of_length_le (by simp)
  have hl1 : l.length ≤ (l.map jb).length := by simp
  have fH : okL (free 5) (pl.map hp) = true := okL_map (fun _ => rfl) _
  have ho1 : o.length ≤ (o.map i64).length := by simp
  rw [e5]
  unfold runF
  unfold cu rj ib hb at *
  simp only [List.map_cons, List.map_nil, List.cons_append, List.nil_append, List.length_cons, List.length_nil, Nat.zero_add] at *
  generalize l.map jb = Lj at *
  generalize o.map i64 = Oi at *
  generalize pl.map hp = Lp at *
  simp (maxSteps := 1000000) -implicitDefEqProofs [fH, L5, h1, h2, hg, ho, tl, to, hl1, ho1, h3, h4, h5, hz, hz2, hi, hi3, hi4, hi5, hi6, hi7, hw, hLe, hT, hD, dr, c1, c2, c3, c4, c5, c6, dk2, dk3, hi9, hi10, hw1, hi11, hi12, c7, dk4]
set_option maxHeartbeats 1600000 in
theorem draw_v10 (x : List Int) (n : Int) (l : List J) (o : List Int) (ns : List Nat) (hl : l.length ≤ 5) (hon : o = ns.map fun k : Nat => (k : Int)) (hol : o.length = l.length) (hgd : okJobs n l = true) (hod : ordB o.length [] o = true) (pl : List Hh) (hpl : pl.length ≤ 25) (h1 : ev E0 23 [.lst 1 (cd x)] [] = some (.tup [i64 n, .sl 0 0 l.length, .sl 1 0 o.length], [some (rj l), some (ib o)])) (h2 : ev E0 26 [.lst 4 (l.map jb), .lst 1 (o.map i64)] [] = some (.sl 0 0 pl.length, [some (hb pl)])) (a1 s1 : Int) (h3 : ev E0 27 [.ptr 0 0 0, i64 3] (some (cu x 0 0) :: [rj l, ib o, hb [], hb pl].map some) = some (bl true, some (cu x a1 s1) :: [rj l, ib o, hb [], hb pl].map some)) (i : Nat) (hi : i < pl.length) (a2 s2 : Int) (h4 : ev E0 28 [.ptr 0 0 0, i64 pl.length] (some (cu x a1 s1) :: [rj l, ib o, hb [], hb pl].map some) = some (i64 i, some (cu x a2 s2) :: [rj l, ib o, hb [], hb pl].map some)) (a3 s3 : Int) (h5 : ev E0 28 [.ptr 0 0 0, i64 5] (some (cu x a2 s2) :: [rj l, ib o, hb [], hb pl].map some) = some (i64 4, some (cu x a3 s3) :: [rj l, ib o, hb [], hb pl].map some)) (t : AV) (T : List AV) (hT : List.take i (pl.map hp) = (t :: T)) (hD : List.drop (i + 1) (pl.map hp) = []) (m : Nat) (hm : m + 1 = pl.length) (IM : List AV) (hI : (t :: T) ++ [] = IM) :
    ev E0 5 [.lst 1 (cd x)] [] = some (.tup [i64 n, .sl 0 0 l.length, .sl 1 0 m], [some (rj l), some ⟨60, 3, 1, false, IM⟩]) := by
  have hz : 0 < pl.length := by omega
  have hz2 : (0 : Int) < (pl.length : Int) := by omega
  have hi3 : (0 : Int) ≤ (i : Int) := by omega
  have hi4 : (i : Int) ≤ (pl.length : Int) := by omega
  have hi5 : (i : Int) + 1 ≤ (pl.length : Int) := by omega
  have hi6 : (0 : Int) ≤ (i : Int) + 1 := by omega
  have hi9 : i ≤ pl.length := by omega
  have hi10 : i + 1 + (pl.length - (i + 1)) ≤ pl.length := by omega
  have hi7 : ((i : Int) + 1).toNat = i + 1 := by omega
  have hw : IntKind.i64.wrap ((i : Int) + 1) = (i : Int) + 1 := wr64 (by omega) (by omega)
  have hLe : (pl.map hp).length = pl.length := by simp
  have tk : ((t :: T) : List AV).length = i := by rw [← hT, List.length_take]; omega
  have dk : ([] : List AV).length = pl.length - (i + 1) := by rw [← hD, List.length_drop]; omega
  have dr : List.take (pl.length - (i + 1)) (List.drop (i + 1) (pl.map hp)) = [] := by rw [hD]; exact List.take_of_length_le (by omega)
  have n1 : i * 24 ≤ 140737488355328 := by omega
  have n2 : i ≤ 140737488355328 := by omega
  have n3 : T.length + 1 = i := by simpa using tk
  have n4 : ¬ i = 0 := by omega
  have tk2 : List.take i (t :: T) = t :: T := List.take_of_length_le (by simp; omega)
  have c1 : pl.length = i + 1 := by simp at dk; omega
  have c2 : m = i := by omega
  have c1a : pl.length - (i + 1) = 0 := by omega
  have c1b : pl.length ≤ i + 1 := by omega
  subst c2
  have c1e : m + 1 ≤ pl.length := by omega
  subst hI
  have hg := good_s n l
  have ho := order_s o (by omega)
  rw [hgd] at hg
  rw [hod, hol] at ho
  have tl : List.take l.length (l.map jb) = l.map jb := List.take_of_length_le (by simp)
  have to : List.take o.length (o.map i64) = o.map i64 := List.take_of_length_le (by simp)
  have hl1 : l.length ≤ (l.map jb).length := by simp
  have fH : okL (free 5) (pl.map hp) = true := okL_map (fun _ => rfl) _
  have ho1 : o.length ≤ (o.map i64).length := by simp
  rw [e5]
  unfold runF
  unfold cu rj ib hb at *
  simp only [List.map_cons, List.map_nil, List.cons_append, List.nil_append, List.length_cons, List.length_nil, Nat.zero_add] at *
  generalize l.map jb = Lj at *
  generalize o.map i64 = Oi at *
  generalize pl.map hp = Lp at *
  simp (maxSteps := 1000000) -implicitDefEqProofs [fH, L5, h1, h2, hg, ho, tl, to, hl1, ho1, h3, h4, h5, hz, hz2, hi, hi3, hi4, hi5, hi6, hi7, hw, hLe, hT, hD, dr, n1, n2, n3, n4, tk2, c1a, c1b, hi9, hi10, c1e]
set_option maxHeartbeats 1600000 in
theorem draw_v11 (x : List Int) (n : Int) (l : List J) (o : List Int) (ns : List Nat) (hl : l.length ≤ 5) (hon : o = ns.map fun k : Nat => (k : Int)) (hol : o.length = l.length) (hgd : okJobs n l = true) (hod : ordB o.length [] o = true) (pl : List Hh) (hpl : pl.length ≤ 25) (h1 : ev E0 23 [.lst 1 (cd x)] [] = some (.tup [i64 n, .sl 0 0 l.length, .sl 1 0 o.length], [some (rj l), some (ib o)])) (h2 : ev E0 26 [.lst 4 (l.map jb), .lst 1 (o.map i64)] [] = some (.sl 0 0 pl.length, [some (hb pl)])) (a1 s1 : Int) (h3 : ev E0 27 [.ptr 0 0 0, i64 3] (some (cu x 0 0) :: [rj l, ib o, hb [], hb pl].map some) = some (bl true, some (cu x a1 s1) :: [rj l, ib o, hb [], hb pl].map some)) (i : Nat) (hi : i < pl.length) (a2 s2 : Int) (h4 : ev E0 28 [.ptr 0 0 0, i64 pl.length] (some (cu x a1 s1) :: [rj l, ib o, hb [], hb pl].map some) = some (i64 i, some (cu x a2 s2) :: [rj l, ib o, hb [], hb pl].map some)) (a3 s3 : Int) (h5 : ev E0 28 [.ptr 0 0 0, i64 5] (some (cu x a2 s2) :: [rj l, ib o, hb [], hb pl].map some) = some (i64 4, some (cu x a3 s3) :: [rj l, ib o, hb [], hb pl].map some)) (t : AV) (T : List AV) (d : AV) (D : List AV) (hT : List.take i (pl.map hp) = (t :: T)) (hD : List.drop (i + 1) (pl.map hp) = (d :: D)) (m : Nat) (hm : m + 1 = pl.length) (IM : List AV) (hI : (t :: T) ++ (d :: D) = IM) :
    ev E0 5 [.lst 1 (cd x)] [] = some (.tup [i64 n, .sl 0 0 l.length, .sl 1 0 m], [some (rj l), some ⟨60, 3, 1, false, IM⟩]) := by
  have hz : 0 < pl.length := by omega
  have hz2 : (0 : Int) < (pl.length : Int) := by omega
  have hi3 : (0 : Int) ≤ (i : Int) := by omega
  have hi4 : (i : Int) ≤ (pl.length : Int) := by omega
  have hi5 : (i : Int) + 1 ≤ (pl.length : Int) := by omega
  have hi6 : (0 : Int) ≤ (i : Int) + 1 := by omega
  have hi9 : i ≤ pl.length := by omega
  have hi10 : i + 1 + (pl.length - (i + 1)) ≤ pl.length := by omega
  have hi7 : ((i : Int) + 1).toNat = i + 1 := by omega
  have hw : IntKind.i64.wrap ((i : Int) + 1) = (i : Int) + 1 := wr64 (by omega) (by omega)
  have hLe : (pl.map hp).length = pl.length := by simp
  have tk : ((t :: T) : List AV).length = i := by rw [← hT, List.length_take]; omega
  have dk : ((d :: D) : List AV).length = pl.length - (i + 1) := by rw [← hD, List.length_drop]; omega
  have dr : List.take (pl.length - (i + 1)) (List.drop (i + 1) (pl.map hp)) = (d :: D) := by rw [hD]; exact List.take_of_length_le (by omega)
  have n1 : i * 24 ≤ 140737488355328 := by omega
  have n2 : i ≤ 140737488355328 := by omega
  have n3 : T.length + 1 = i := by simpa using tk
  have n4 : ¬ i = 0 := by omega
  have tk2 : List.take i (t :: T) = t :: T := List.take_of_length_le (by simp; omega)
  have c1 : D.length + 1 = pl.length - (i + 1) := by simpa using dk
  have c2 : i + (pl.length - (i + 1)) = m := by omega
  have c3 : ¬ pl.length - (i + 1) = 0 := by omega
  have c4 : m * 24 ≤ 140737488355328 := by omega
  have c5 : m ≤ 140737488355328 := by omega
  have c6 : i + (D.length + 1) = m := by omega
  have dk2 : List.take (pl.length - (i + 1)) (d :: D) = d :: D := List.take_of_length_le (by simp; omega)
  have dk3 : ¬ pl.length ≤ i + 1 := by omega
  subst hI
  have hg := good_s n l
  have ho := order_s o (by omega)
  rw [hgd] at hg
  rw [hod, hol] at ho
  have tl : List.take l.length (l.map jb) = l.map jb := List.take_of_length_le (by simp)
  have to : List.take o.length (o.map i64) = o.map i64 := List.take_of_length_le (by simp)
  have hl1 : l.length ≤ (l.map jb).length := by simp
  have fH : okL (free 5) (pl.map hp) = true := okL_map (fun _ => rfl) _
  have ho1 : o.length ≤ (o.map i64).length := by simp
  rw [e5]
  unfold runF
  unfold cu rj ib hb at *
  simp only [List.map_cons, List.map_nil, List.cons_append, List.nil_append, List.length_cons, List.length_nil, Nat.zero_add] at *
  generalize l.map jb = Lj at *
  generalize o.map i64 = Oi at *
  generalize pl.map hp = Lp at *
  simp (maxSteps := 1000000) -implicitDefEqProofs [fH, L5, h1, h2, hg, ho, tl, to, hl1, ho1, h3, h4, h5, hz, hz2, hi, hi3, hi4, hi5, hi6, hi7, hw, hLe, hT, hD, dr, n1, n2, n3, n4, tk2, c1, c2, c3, c4, c5, c6, dk2, dk3, hi9, hi10]
/-- The draw of a row, jobs and a plan of them, that may be spoilt. -/
theorem draw_plan (x : List Int) (hx : okC x) : ∃ (n : Int) (l : List J) (pl : List Hh), l.length ≤ 12 ∧ pl.length ≤ 25 ∧ ev E0 5 [.lst 1 (cd x)] [] = some (.tup [i64 n, .sl 0 0 l.length, .sl 1 0 pl.length], [some (rj l), some (hb pl)]) := by
  obtain ⟨n, l, o, hl12, hol, h1⟩ := draw_order x hx
  have hg := good_s n l
  have ho := order_s o (by omega)
  cases hgd : okJobs n l with
  | false =>
    rw [hgd] at hg
    refine ⟨n, l, [], hl12, by simp, ?_⟩
    have tl : List.take l.length (l.map jb) = l.map jb := List.take_of_length_le (by simp)
    have hl1 : l.length ≤ (l.map jb).length := by simp
    rw [e5]
    unfold runF
    unfold cu rj ib hb at *
    simp only [List.map_nil, List.length_nil] at *
    generalize l.map jb = Lj at *
    generalize o.map i64 = Oi at *
    simp -implicitDefEqProofs [L5, h1, hg, tl, hl1]
  | true =>
    obtain ⟨hl, hj⟩ := okJobs_jb hgd
    cases hod : ordB o.length [] o with
    | false =>
      rw [hgd] at hg
      rw [hod, hol] at ho
      refine ⟨n, l, [], hl12, by simp, ?_⟩
      have tl : List.take l.length (l.map jb) = l.map jb := List.take_of_length_le (by simp)
      have hl1 : l.length ≤ (l.map jb).length := by simp
      have to : List.take o.length (o.map i64) = o.map i64 := List.take_of_length_le (by simp)
      have ho1 : o.length ≤ (o.map i64).length := by simp
      rw [e5]
      unfold runF
      unfold cu rj ib hb at *
      simp only [List.map_nil, List.length_nil] at *
      generalize l.map jb = Lj at *
      generalize o.map i64 = Oi at *
      rw [hol] at *
      simp -implicitDefEqProofs [L5, h1, hg, ho, tl, to, hl1, ho1]
    | true =>
      have hin := ordB_in o [] hod
      obtain ⟨ns, hon⟩ := as_nats o fun y hy => (hin y hy).1
      have hns : ∀ k ∈ ns, k < l.length := by
        intro k hk
        have := (hin (k : Int) (by rw [hon]; exact List.mem_map.2 ⟨k, hk, rfl⟩)).2
        omega
      have hnl : ns.length = o.length := by rw [hon]; simp
      obtain ⟨g1, g2, g3⟩ := plan_s l hj ns hns (by omega)
      rw [← hon] at g3
      have hplen : (planF l ns []).length ≤ 25 := by omega
      have hPB : ∀ z ∈ planF l ns [], 0 ≤ z.2.2 ∧ z.2.2 ≤ 100000 := fun z hz => ⟨(g1 z hz).1.2.2.2.2.1, (g1 z hz).1.2.2.2.2.2⟩
      generalize planF l ns [] = pl at *
      have h2 : ev E0 26 [.lst 4 (l.map jb), .lst 1 (o.map i64)] [] = some (.sl 0 0 pl.length, [some (hb pl)]) := g3
      by_cases hz : pl = []
      · exact ⟨n, l, pl, hl12, hplen, draw_p0 x n l o ns hl hon hol hgd hod pl hplen h1 h2 hz⟩
      have hpos : 0 < pl.length := List.length_pos_iff.2 hz
      obtain ⟨a1, s1, q, p1, q1, h3⟩ := one_c x hx [rj l, ib o, hb [], hb pl] (leaf4 l o pl) 0 0 (by omega) (by omega) 3
      cases q with
      | false => exact ⟨n, l, pl, hl12, hplen, draw_p1 x n l o ns hl hon hol hgd hod pl hplen h1 h2 hpos a1 s1 h3⟩
      | true =>
        obtain ⟨a2, s2, r2, p2, q2, r20, r21, h4⟩ := pick_c x hx [rj l, ib o, hb [], hb pl] (leaf4 l o pl) a1 s1 (by omega) (by omega) (pl.length : Int)
        obtain ⟨i, rfl⟩ : ∃ i : Nat, r2 = i := ⟨r2.toNat, by omega⟩
        have hi : i < pl.length := by omega
        obtain ⟨a3, s3, r3, p3, q3, r30, r31, h5⟩ := pick_c x hx [rj l, ib o, hb [], hb pl] (leaf4 l o pl) a2 s2 (by omega) (by omega) 5
        obtain ⟨A, F, B, hxx⟩ : ∃ A F B, pl[i] = (A, F, B) := ⟨_, _, _, rfl⟩
        have hB := hPB pl[i] (List.getElem_mem hi)
        rw [hxx] at hB
        have key : ∀ v : Hh, ev E0 5 [.lst 1 (cd x)] [] = some (.tup [i64 n, .sl 0 0 l.length, .sl 1 0 pl.length], [some (rj l), some (hb (pl.set i v))]) → ∃ (n : Int) (l : List J) (pl : List Hh), l.length ≤ 12 ∧ pl.length ≤ 25 ∧ ev E0 5 [.lst 1 (cd x)] [] = some (.tup [i64 n, .sl 0 0 l.length, .sl 1 0 pl.length], [some (rj l), some (hb pl)]) := fun v h => ⟨n, l, pl.set i v, hl12, by rw [List.length_set]; exact hplen, by rw [List.length_set]; exact h⟩
        have hr : r3 = 0 ∨ r3 = 1 ∨ r3 = 2 ∨ r3 = 3 ∨ r3 = 4 := by omega
        rcases hr with rfl | rfl | rfl | rfl | rfl
        · exact key _ (draw_w0 x n l o ns hl hon hol hgd hod pl hplen h1 h2 a1 s1 h3 i hi a2 s2 h4 a3 s3 h5 A F B hxx hB.1 hB.2)
        · obtain ⟨a4, s4, t, _, _, _, h6⟩ := among_l x hx [rj l, ib o, hb [], hb pl] (leaf4 l o pl) a3 s3 (by omega) (by omega) [1, 1, 100, 9999, 9223372036854775807 - B] 5 rfl (by decide)
          exact key _ (draw_w1 x n l o ns hl hon hol hgd hod pl hplen h1 h2 a1 s1 h3 i hi a2 s2 h4 a3 s3 h5 A F B hxx hB.1 hB.2 t a4 s4 h6)
        · obtain ⟨a4, s4, t, _, _, _, _, h6⟩ := pick_c x hx [rj l, ib o, hb [], hb pl] (leaf4 l o pl) a3 s3 (by omega) (by omega) 6
          exact key _ (draw_w2 x n l o ns hl hon hol hgd hod pl hplen h1 h2 a1 s1 h3 i hi a2 s2 h4 a3 s3 h5 A F B hxx hB.1 hB.2 t a4 s4 h6)
        · obtain ⟨a4, s4, t, _, _, _, h6⟩ := among_c x hx [rj l, ib o, hb [], hb pl] (leaf4 l o pl) a3 s3 (by omega) (by omega) [0, 1, -1, 9] 4 rfl (by decide)
          exact key _ (draw_w3 x n l o ns hl hon hol hgd hod pl hplen h1 h2 a1 s1 h3 i hi a2 s2 h4 a3 s3 h5 A F B hxx hB.1 hB.2 t a4 s4 h6)
        · have hI : (pl.map hp).take i ++ (pl.map hp).drop (i + 1) = (pl.take i ++ pl.drop (i + 1)).map hp := by rw [List.map_append, List.map_take, List.map_drop]
          have hm : (pl.take i ++ pl.drop (i + 1)).length + 1 = pl.length := by simp; omega
          refine ⟨n, l, pl.take i ++ pl.drop (i + 1), hl12, by omega, ?_⟩
          show _ = some (_, [some (rj l), some ⟨60, 3, 1, false, (pl.take i ++ pl.drop (i + 1)).map hp⟩])
          generalize (pl.take i ++ pl.drop (i + 1)).length = m at *
          generalize (pl.take i ++ pl.drop (i + 1)).map hp = IM at *
          cases hT : List.take i (pl.map hp) with
          | nil =>
            cases hD : List.drop (i + 1) (pl.map hp) with
            | nil => rw [hT, hD] at hI; exact draw_v00 x n l o ns hl hon hol hgd hod pl hplen h1 h2 a1 s1 h3 i hi a2 s2 h4 a3 s3 h5 hT hD m hm IM hI
            | cons d D => rw [hT, hD] at hI; exact draw_v01 x n l o ns hl hon hol hgd hod pl hplen h1 h2 a1 s1 h3 i hi a2 s2 h4 a3 s3 h5 d D hT hD m hm IM hI
          | cons t T =>
            cases hD : List.drop (i + 1) (pl.map hp) with
            | nil => rw [hT, hD] at hI; exact draw_v10 x n l o ns hl hon hol hgd hod pl hplen h1 h2 a1 s1 h3 i hi a2 s2 h4 a3 s3 h5 t T hT hD m hm IM hI
            | cons d D => rw [hT, hD] at hI; exact draw_v11 x n l o ns hl hon hol hgd hod pl hplen h1 h2 a1 s1 h3 i hi a2 s2 h4 a3 s3 h5 t T d D hT hD m hm IM hI
end Go.Proofs.YtlakldjpnpailaaGreatDoor.Ev.Dr
