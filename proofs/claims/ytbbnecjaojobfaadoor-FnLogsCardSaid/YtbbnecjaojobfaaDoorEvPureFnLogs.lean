/- FnLogs: the law, run by the evaluator, answers true. -/
import Derived.Test.YtbbnecjaojobfaaDoorEvDrawC
import Derived.Test.YtbbnecjaojobfaaDoorEvLogB
set_option linter.unusedVariables false
set_option linter.unusedSimpArgs false
namespace Go.Proofs.YtbbnecjaojobfaaDoor.Ev
open Dr
theorem st0 (x : List Int) (b : Blk) (hb : leafB b) : Stable [some b, some (cu x 0 0)] := stable_leaves (H := []) ⟨by simp [oldIds], rfl⟩ [b, cu x 0 0] (by
    intro q hq
    simp at hq
    rcases hq with rfl | rfl
    · exact hb
    · exact ⟨rfl, fun _ => rfl⟩)
theorem drawRecord (x : List Int) (hx : Dr.okC x) : ∃ c r : ByteArray, c.size ≤ 8 ∧ r.size ≤ 8 ∧ ev E0 12 [.lst 1 (cd x)] [] = some (.agg [st c, st r], []) := by
  obtain ⟨a1, s1, c, r, p1, q1, zc, zr, e1⟩ := record_ok x hx _ 1 0 0 rfl (st0 x (rb ⟨#[]⟩ ⟨#[]⟩) (leaf_rb _ _)) (by omega) (by omega)
  refine ⟨c, r, zc, zr, ?_⟩
  simp only [List.set_cons_succ, List.set_cons_zero, rb, cu] at e1
  rw [e12]
  unfold runF
  simp -implicitDefEqProofs [L12, e1]
theorem drawLog (x : List Int) (hx : Dr.okC x) : ∃ (d p : ByteArray) (n : Int), d.size ≤ 70000 ∧ p.size ≤ 70000 ∧ ev E0 17 [.lst 1 (cd x)] [] = some (.agg [st d, st p, i64 n], []) := by
  obtain ⟨a1, s1, d, p, n, p1, q1, zd, zp, e1⟩ := anyLog_ok x hx _ 1 0 0 rfl (st0 x (lb ⟨#[]⟩ ⟨#[]⟩ 0) (leaf_lb _ _ _)) (by omega) (by omega)
  refine ⟨d, p, n, zd, zp, ?_⟩
  simp only [List.set_cons_succ, List.set_cons_zero, lb, cu] at e1
  rw [e17]
  unfold runF
  simp -implicitDefEqProofs [L17, e1]
theorem drawEncode (x : List Int) (hx : Dr.okC x) : ∃ (k : Int) (c r : ByteArray), c.size ≤ 8 ∧ r.size ≤ 8 ∧ ev E0 13 [.lst 1 (cd x)] [] = some (.tup [i64 k, .agg [st c, st r]], []) := by
  have hs := st0 x (rb ⟨#[]⟩ ⟨#[]⟩) (leaf_rb _ _)
  have hsa : Stable [some (rb ⟨#[]⟩ ⟨#[]⟩), some (cu x 0 0), some ⟨3, 1, 1, false, ([0, 1, 12, 59, 60, -1] : List Int).map i64⟩] := stable_leaf hs ⟨rfl, fun _ => rfl⟩
  obtain ⟨a1, s1, k, p1, q1, hk, e1⟩ := among_ok x hx _ 1 0 0 rfl hsa (by omega) (by omega) 2 (by decide) [0, 1, 12, 59, 60, -1] 6 rfl (by decide) rfl
  have hs1 := stable_cu hsa (id := 1) (x := x) (a := 0) (s := 0) rfl a1 s1
  obtain ⟨a2, s2, c, r, p2, q2, zc, zr, e2⟩ := record_ok x hx _ 1 a1 s1 rfl hs1 (by omega) (by omega)
  refine ⟨k, c, r, zc, zr, ?_⟩
  simp only [List.map_cons, List.map_nil, List.set_cons_succ, List.set_cons_zero, rb, cu] at e1 e2
  rw [e13]
  unfold runF
  simp -implicitDefEqProofs [L13, e1, e2]
open Lg (appP appN appS app_s okRec)
theorem fill_loop (x : List Int) (a s : Int) : ∀ (m : Nat) (d p : ByteArray) (n : Int), m ≤ 100 → d.size + p.size ≤ 600 * (100 - m) → ∃ (p' : ByteArray) (n' : Int), d.size + p'.size ≤ 60000 ∧
    packX 0 [2, 3, 4, 5] (loopW (bd E0 (ev E0) loopW 0 [2, 3, 4, 5, 6] L18b0) ⟨[(2, .ptr 0 0 0), (3, .ptr 1 0 0), (4, .ptr 2 0 0), (5, .ptr 3 0 0), (6, i64 m)], [some (lb ⟨#[]⟩ ⟨#[]⟩ 0), some (rb ⟨#[]⟩ ⟨#[]⟩), some (cu x a s), some (lb d p n)]⟩) =
      some (.ext 0, ⟨[(2, .ptr 0 0 0), (3, .ptr 1 0 0), (4, .ptr 2 0 0), (5, .ptr 3 0 0)], [some (lb ⟨#[]⟩ ⟨#[]⟩ 0), some (rb ⟨#[]⟩ ⟨#[]⟩), some (cu x a s), some (lb d p' n')]⟩) := by
  unfold lb rb cu
  intro m
  induction m with
  | zero =>
    intro d p n _ h2
    refine ⟨p, n, by omega, ?_⟩
    rw [loopW_eq]
    generalize loopW (bd E0 (ev E0) loopW 0 [2, 3, 4, 5, 6] L18b0) = K
    simp -implicitDefEqProofs [bd, L18b0]
  | succ m ih =>
    intro d p n hm h2
    have e2 := app_s d p n ⟨#[120]⟩ ⟨#[]⟩ (by omega) (by omega) (by decide) (by decide)
    have z1 := appP_size d p n ⟨#[120]⟩ ⟨#[]⟩
    generalize appP d p n ⟨#[120]⟩ ⟨#[]⟩ = p2 at *
    generalize appN d p n ⟨#[120]⟩ ⟨#[]⟩ = n2 at *
    generalize appS d p n ⟨#[120]⟩ ⟨#[]⟩ = t2 at *
    obtain ⟨p', n', z, k4⟩ := ih d p2 n2 (by omega) (by omega)
    refine ⟨p', n', z, ?_⟩
    have hw : IntKind.i64.wrap (((m + 1 : Nat) : Int) - 1) = m := by rw [wr64 (by omega) (by omega)]; omega
    rw [cs1] at hw
    have hp0 : (0 : Int) < (m : Int) + 1 := by omega
    have hp1 : 0 < m + 1 := by omega
    have hw2 : IntKind.i64.wrap (m : Int) = m := wr64 (by omega) (by omega)
    rw [loopW_eq, cs1]
    generalize loopW (bd E0 (ev E0) loopW 0 [2, 3, 4, 5, 6] L18b0) = K at k4 ⊢
    simpa -implicitDefEqProofs [bd, L18b0, e2, hw, hw2, hp0, hp1] using k4
theorem drawAppend (x : List Int) (hx : Dr.okC x) : ∃ (d p : ByteArray) (n : Int) (c r : ByteArray), d.size ≤ 70000 ∧ p.size ≤ 70000 ∧ c.size ≤ 8 ∧ r.size ≤ 8 ∧ ev E0 18 [.lst 1 (cd x)] [] = some (.tup [.agg [st d, st p, i64 n], .agg [st c, st r]], []) := by
  have hs : Stable [some (lb ⟨#[]⟩ ⟨#[]⟩ 0), some (rb ⟨#[]⟩ ⟨#[]⟩), some (cu x 0 0)] := stable_leaves (H := []) ⟨by simp [oldIds], rfl⟩ [lb ⟨#[]⟩ ⟨#[]⟩ 0, rb ⟨#[]⟩ ⟨#[]⟩, cu x 0 0] (by
    intro q hq
    simp at hq
    rcases hq with rfl | rfl | rfl
    · exact leaf_lb _ _ _
    · exact leaf_rb _ _
    · exact ⟨rfl, fun _ => rfl⟩)
  obtain ⟨a1, s1, d, p, n, p1, q1, zd, zp, e1⟩ := anyLog_ok x hx _ 2 0 0 rfl hs (by omega) (by omega)
  have hs1 := stable_cu hs (id := 2) (x := x) (a := 0) (s := 0) rfl a1 s1
  have leaves : ∀ (d p : ByteArray) (n : Int), ∀ b ∈ [lb d p n], leafB b := by intro d p n b hb; simp at hb; subst hb; exact leaf_lb _ _ _
  obtain ⟨a2, s2, b, p2, q2, e2⟩ := one_fr x hx _ [lb d p n] 2 a1 s1 rfl hs1 (leaves d p n) (by omega) (by omega) 40
  have hs2 := stable_cu hs (id := 2) (x := x) (a := 0) (s := 0) rfl a2 s2
  cases b with
  | false =>
    obtain ⟨a3, s3, c, r, p3, q3, zc, zr, e3⟩ := record_fr x hx _ [lb d p n] 2 a2 s2 rfl hs2 (leaves d p n) (by omega) (by omega)
    simp only [List.map_cons, List.map_nil, List.set_cons_succ, List.set_cons_zero, List.cons_append, List.nil_append, rb, lb, cu] at e1 e2 e3
    refine ⟨d, p, n, c, r, zd, zp, zc, zr, ?_⟩
    rw [e18]
    unfold runF
    simp -implicitDefEqProofs [L18, e1, e2, e3]
  | true =>
    obtain ⟨a3, s3, k, p3, q3, k0, k1, e3⟩ := pick_fr x hx _ [lb ⟨#[]⟩ ⟨#[]⟩ 0] 2 a2 s2 rfl hs2 (leaves _ _ _) (by omega) (by omega) 2
    have hs3 := stable_cu hs (id := 2) (x := x) (a := 0) (s := 0) rfl a3 s3
    obtain ⟨m, rfl⟩ : ∃ m : Nat, k = m := ⟨k.toNat, by omega⟩
    obtain ⟨p', n', z, e4⟩ := fill_loop x a3 s3 (59 + m) ⟨#[]⟩ ⟨#[]⟩ 0 (by omega) (by show 0 + 0 ≤ _; omega)
    obtain ⟨a5, s5, c, r, p5, q5, zc, zr, e5⟩ := record_fr x hx _ [lb ⟨#[]⟩ p' n'] 2 a3 s3 rfl hs3 (leaves _ _ _) (by omega) (by omega)
    simp only [List.map_cons, List.map_nil, List.set_cons_succ, List.set_cons_zero, List.cons_append, List.nil_append, rb, lb, cu] at e1 e2 e3 e4 e5
    refine ⟨⟨#[]⟩, p', n', c, r, by decide, by omega, zc, zr, ?_⟩
    have hw : IntKind.i64.wrap (59 + (m : Int)) = ((59 + m : Nat) : Int) := by rw [wr64 (by omega) (by omega)]; omega
    rw [e18]
    unfold runF
    simp -implicitDefEqProofs [-Int.natCast_add, L18, e1, e2, e3, e4, e5, hw]
theorem vrecs0 : ev E0 29 [.v (.slice none 0 0), .lst 2 []] [] = some (bl true, []) := by
  rw [e29]
  unfold runF
  simp -implicitDefEqProofs [L29]
  rw [loopW_eq]
  simp -implicitDefEqProofs [bd, L29b0]
theorem FnLogs (x0 : List Int) (b0 : x0.length ≤ maxLen ∧ ∀ y ∈ x0, (Lit.int .u8 y).wf = true) : ev E0 4 [(AV.lst 1 (x0.map (fun q : Int => (AV.v (.int .u8 q)))))] [] = some (bl true, []) := by
  obtain ⟨hl, hw⟩ := b0
  show ev E0 4 [.lst 1 (cd x0)] [] = _
  have hb := vbig x0
  rw [e4]
  unfold runF
  by_cases h0 : (65536 : Int) < (x0.length : Int)
  · rw [decide_eq_true h0] at hb
    simp -implicitDefEqProofs [L4, hb]
  · rw [decide_eq_false h0] at hb
    have hx := okC_of (by omega) hw
    have hx1 := cutD_ok hx (by omega) 1 (by omega)
    have hx2 := cutD_ok hx (by omega) 2 (by omega)
    have hx3 := cutD_ok hx (by omega) 3 (by omega)
    have hc1 := vcut x0 hx (by omega) 1 (by omega)
    have hc2 := vcut x0 hx (by omega) 2 (by omega)
    have hc3 := vcut x0 hx (by omega) 3 (by omega)
    rw [show ((1 : Nat) : Int) = 1 from rfl] at hc1
    rw [show ((2 : Nat) : Int) = 2 from rfl] at hc2
    rw [show ((3 : Nat) : Int) = 3 from rfl] at hc3
    generalize cutD x0 1 = x1 at hx1 hc1
    generalize cutD x0 2 = x2 at hx2 hc2
    generalize cutD x0 3 = x3 at hx3 hc3
    have hcl1 : (cd x1).length = x1.length := cd_len x1
    have hcl2 : (cd x2).length = x2.length := cd_len x2
    have hcl3 : (cd x3).length = x3.length := cd_len x3
    have htk1 : List.take x1.length (cd x1) = cd x1 := List.take_of_length_le (by rw [hcl1]; exact Nat.le_refl _)
    have htk2 : List.take x2.length (cd x2) = cd x2 := List.take_of_length_le (by rw [hcl2]; exact Nat.le_refl _)
    have htk3 : List.take x3.length (cd x3) = cd x3 := List.take_of_length_le (by rw [hcl3]; exact Nat.le_refl _)
    obtain ⟨c0, r0, y1, y2, e1⟩ := drawRecord x0 hx
    obtain ⟨k, c1, r1, y3, y4, e2⟩ := drawEncode x1 hx1
    obtain ⟨d2, p2, n2, y5, y6, e3⟩ := drawLog x2 hx2
    obtain ⟨d, p, n, c, r, zd, zp, zc, zr, e4⟩ := drawAppend x3 hx3
    have v0s := Lg.isValidRecord_s c0 r0 (by omega) (by omega)
    have v0i := Lg.record_i c0 r0 (by omega) (by omega)
    generalize okRec c0 r0 = v0 at v0s v0i
    have Es := Lg.encode_s k c1 r1 (by omega) (by omega)
    have Ei := Lg.encode_all k c1 r1 (by omega) (by omega)
    obtain ⟨et, eb, hE⟩ : ∃ (s : ByteArray) (b : Bool), (if (0 ≤ k ∧ k ≤ 59) ∧ okRec c1 r1 = true then AV.tup [st (Lg.mk (Lg.enc k (B c1) (B r1))), bl true] else .tup [st ⟨#[]⟩, bl false]) = .tup [st s, bl b] := by
      split
      · exact ⟨_, _, rfl⟩
      · exact ⟨_, _, rfl⟩
    rw [hE] at Es Ei
    have v2s := Lg.isValidLog_s d2 p2 n2 (by omega) (by omega)
    have v2i := Lg.valid_i d2 p2 n2 (by omega) (by omega)
    generalize Lg.okLog d2 p2 n2 = v2 at v2s v2i
    have Ai := Lg.app_i d p n c r (by omega) (by omega) (by omega) (by omega)
    have As := Lg.app_s d p n c r (by omega) (by omega) (by omega) (by omega)
    have Si := Lg.sync_i d p n (by omega) (by omega)
    have Ss := Lg.sync_s d p n (by omega) (by omega)
    cases hV : Lg.okLog d p n with
    | false =>
      obtain ⟨a1, a2, a3⟩ := Lg.app_bad (d := d) (p := p) (n := n) (c := c) (r := r) (by rw [hV]; rfl)
      rw [a1, a2, a3] at Ai As
      rw [hV, if_neg (by decide)] at Si Ss
      have R1 := Lg.records_no_i d p n (by omega) (by omega) hV
      have R2 := Lg.records_no_s d p n (by omega) (by omega) hV
      have R3 := Lg.records_ok_i ⟨#[]⟩ ⟨#[]⟩ 0 (by decide) (by decide) Lg.nil_log
      unfold Lg.recs at R3
      rw [Lg.nil_run] at R3
      have V0 := vrecs0
      simp -implicitDefEqProofs [L4, hb, e1, hc1, hcl1, htk1, e2, hc2, hcl2, htk2, e3, hc3, hcl3, htk3, e4, v0s, v0i, Es, Ei, v2s, v2i, Ai, As, Si, Ss, R1, R2, R3, V0]
    | true =>
      rw [hV, if_pos rfl] at Si Ss
      have R1 := Lg.records_ok_i d p n (by omega) (by omega) hV
      have R2 := Lg.records_ok_s d p n (by omega) (by omega) hV
      obtain ⟨w1, w2⟩ := Lg.sync_log hV
      have hdp : (d ++ p).size ≤ 140000 := by rw [ByteArray.size_append]; omega
      have R3 := Lg.records_ok_i (d ++ p) ⟨#[]⟩ n (by omega) (by decide) w1
      unfold Lg.recs at R1 R2 R3
      rw [w2] at R3
      have hlim := Lg.run_len 60 0 (B d ++ B p)
      have V1 := vrecs ((Lg.run 60 0 (B d ++ B p)).map (·.1)) (by rw [List.length_map]; omega)
      have hzz : (((Lg.run 60 0 (B d ++ B p)).map (·.1)).map Lg.recE).length = (Lg.run 60 0 (B d ++ B p)).length := by simp
      have hZ : List.take (Lg.run 60 0 (B d ++ B p)).length (((Lg.run 60 0 (B d ++ B p)).map (·.1)).map Lg.recE) = ((Lg.run 60 0 (B d ++ B p)).map (·.1)).map Lg.recE := List.take_of_length_le (by simp)
      by_cases hgo : okRec c r = true ∧ n ≠ 60
      · obtain ⟨a1, a2, a3⟩ := Lg.app_ok (d := d) (p := p) (n := n) (c := c) (r := r) (by rw [hV, hgo.1]; rfl) hgo.2
        obtain ⟨g1, g2⟩ := Lg.append_log hV hgo.1 hgo.2
        rw [a1, a2, a3] at Ai As
        have hpz : (p ++ Lg.mk (Lg.enc n (B c) (B r))).size ≤ 100000 := by
          have hq := Lg.okLog_sizes g1
          omega
        have R4 := Lg.records_ok_i d (p ++ Lg.mk (Lg.enc n (B c) (B r))) (n + 1) (by omega) (by omega) g1
        have hv3 := Lg.valid_i d (p ++ Lg.mk (Lg.enc n (B c) (B r))) (n + 1) (by omega) (by omega)
        rw [g1] at hv3
        unfold Lg.recs at R4
        rw [g2, List.map_append, List.map_append, List.length_append, List.length_singleton] at R4
        simp only [List.map_cons, List.map_nil] at R4
        generalize p ++ Lg.mk (Lg.enc n (B c) (B r)) = q at *
        generalize ((Lg.run 60 0 (B d ++ B p)).map (·.1)).map Lg.recE = X at *
        generalize (Lg.run 60 0 (B d ++ B p)).length = z at *
        have hX2 : List.take z (X ++ [Lg.recE (c, r)]) = X := List.take_left' hzz
        have hX3 : (X ++ [Lg.recE (c, r)])[z]? = some (Lg.recE (c, r)) := by rw [← hzz, List.getElem?_append_right (Nat.le_refl _), Nat.sub_self]; rfl
        have hX4 : ∀ h, (X ++ [Lg.recE (c, r)])[z]'h = Lg.recE (c, r) := fun h => (List.getElem?_eq_some_iff.1 hX3).2
        have hX5 : List.take z (List.take (z + 1) (X ++ [Lg.recE (c, r)])) = X := by rw [List.take_take]; rw [Nat.min_eq_left (by omega)]; exact hX2
        have hX6 : List.take (z + 1) (X ++ [Lg.recE (c, r)]) = X ++ [Lg.recE (c, r)] := List.take_of_length_le (by simp [hzz])
        have hwz : IntKind.i64.wrap ((z : Int) + 1) = (z : Int) + 1 := wr64 (by omega) (by omega)
        have hzi : (z : Int) ≤ (z : Int) + 1 := by omega
        have hzl : (z : Int) < (z : Int) + 1 := by omega
        simp -implicitDefEqProofs [L4, hb, e1, hc1, hcl1, htk1, e2, hc2, hcl2, htk2, e3, hc3, hcl3, htk3, e4, v0s, v0i, Es, Ei, v2s, v2i, Ai, As, Si, Ss, R1, R2, R3, R4, V1, hzz, hZ, hv3, hX2, hX3, hX4, hX5, hX6, hwz, hzi, hzl, Lg.recE]
      · have hst : appP d p n c r = p ∧ appN d p n c r = n ∧ ∃ t : Int, appS d p n c r = t ∧ t ≠ 0 := by
          by_cases hr : okRec c r = true
          · have hn : n = 60 := by
              apply Classical.byContradiction
              intro h
              exact hgo ⟨hr, h⟩
            subst hn
            obtain ⟨a1, a2, a3⟩ := Lg.app_full (d := d) (p := p) (c := c) (r := r) (by rw [hV, hr]; rfl)
            exact ⟨a1, a2, _, a3, by decide⟩
          · have hr2 : okRec c r = false := by simpa using hr
            obtain ⟨a1, a2, a3⟩ := Lg.app_bad (d := d) (p := p) (n := n) (c := c) (r := r) (by rw [hV, hr2]; rfl)
            exact ⟨a1, a2, _, a3, by decide⟩
        obtain ⟨a1, a2, t, a3, a4⟩ := hst
        rw [a1, a2, a3] at Ai As
        have a5 : decide (t = 0) = false := decide_eq_false a4
        have R4 := R1
        generalize ((Lg.run 60 0 (B d ++ B p)).map (·.1)).map Lg.recE = X at *
        generalize (Lg.run 60 0 (B d ++ B p)).length = z at *
        simp -implicitDefEqProofs [L4, hb, e1, hc1, hcl1, htk1, e2, hc2, hcl2, htk2, e3, hc3, hcl3, htk3, e4, v0s, v0i, Es, Ei, v2s, v2i, Ai, As, Si, Ss, R1, R2, R3, V1, hzz, hZ, a4, a5]
end Go.Proofs.YtbbnecjaojobfaaDoor.Ev
