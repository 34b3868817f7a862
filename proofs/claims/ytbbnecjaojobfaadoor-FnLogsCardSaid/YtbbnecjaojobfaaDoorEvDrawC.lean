/- The draws of a law on crashes, and what it compares. -/
import Derived.Test.YtbbnecjaojobfaaDoorEvDrawL
import Derived.Test.YtbbnecjaojobfaaDoorEvCrash
import Derived.Test.YtbbnecjaojobfaaDoorEvLogA
set_option linter.unusedVariables false
set_option linter.unusedSimpArgs false
namespace Go.Proofs.YtbbnecjaojobfaaDoor.Ev.Dr
theorem okC_of {x : List Int} (hl : x.length ≤ 140737488355328) (hw : ∀ y ∈ x, (Lit.int .u8 y).wf = true) : okC x := by
  refine ⟨hl, fun y hy => ?_⟩
  have h := hw y hy
  unfold Lit.wf at h
  rw [Bool.and_eq_true, decide_eq_true_eq, decide_eq_true_eq] at h
  exact h
theorem vbig (x : List Int) : ev E0 11 [.lst 1 (cd x)] [] = some (bl (decide (65536 < (x.length : Int))), []) := by
  rw [e11]
  unfold runF
  simp -implicitDefEqProofs [L11, cd_len]
def cutD (x : List Int) (n : Nat) : List Int := x.drop (min n x.length) ++ [((min n x.length : Nat) : Int)]
theorem cutD_ok {x : List Int} (hx : okC x) (hl : x.length ≤ 65536) (n : Nat) (hn : n ≤ 200) : okC (cutD x n) := by
  unfold cutD
  refine ⟨by simp; omega, fun y hy => ?_⟩
  rcases List.mem_append.1 hy with h | h
  · exact hx.2 y (List.mem_of_mem_drop h)
  · rw [List.mem_singleton] at h
    omega
theorem vcut (x : List Int) (hx : okC x) (hl : x.length ≤ 65536) (n : Nat) (hn : n ≤ 200) : ev E0 14 [.lst 1 (cd x), i64 n] [] = some (.sl 0 0 (cutD x n).length, [some ⟨5, 1, 1, false, cd (cutD x n)⟩]) := by
  rw [e14]
  unfold runF
  have hd : ∀ k, (cd x).drop k = cd (x.drop k) := fun k => by simp [cd, List.map_drop]
  have hw : ∀ k : Nat, k ≤ 200 → IntKind.u8.wrap (k : Int) = k := by
    intro k hk
    simp only [IntKind.wrap, IntKind.bits, IntKind.signed, Bool.false_and, Bool.false_eq_true, if_false]
    omega
  have ht : ∀ k : Nat, List.take (x.length - k) (cd (x.drop k)) = cd (x.drop k) := fun k => List.take_of_length_le (by simp [cd])
  have hc : ∀ (y : List Int) (k : Int), cd y ++ [AV.v (.int .u8 k)] = cd (y ++ [k]) := fun y k => by simp [cd]
  have hy : ∀ k : Nat, (cd (x.drop k)).length = x.length - k := fun k => by simp [cd]
  by_cases h : (x.length : Int) < (n : Int)
  · have hm : min n x.length = x.length := by omega
    have h1 := hw x.length (by omega)
    unfold cutD
    rw [hm]
    have hz := hd x.length
    have hz2 := hc (x.drop x.length) x.length
    simp -implicitDefEqProofs [L14, cd_len, h, h1, hz, ht]
    rfl
  · have hm : min n x.length = n := by omega
    have h1 := hw n (by omega)
    have h2 : (n : Int) ≤ (x.length : Int) := by omega
    have h3 : n ≤ x.length := by omega
    unfold cutD
    rw [hm]
    have hz := hd n
    have hz2 := hc (x.drop n) n
    simp -implicitDefEqProofs [L14, cd_len, h, h1, h2, h3, hz, ht]
    have l1 : x.length ≤ 140737488355328 + n := by omega
    have l2 : x.length ≤ 140737488355327 + n := by omega
    rw [if_pos l1, if_pos l2, ← hz2]
    by_cases he : cd (x.drop n) = []
    · have he2 : x.length - n = 0 := by rw [← hy n, he]; rfl
      rw [if_pos he, he, he2]
      rfl
    · rw [if_neg he]
theorem recs_loop (X : List (ByteArray × ByteArray)) (hX : X.length ≤ 1000) : ∀ (t : List (ByteArray × ByteArray)) (i : Nat), X.drop i = t →
    packX 0 [4] (loopW (bd E0 (ev E0) loopW 0 [0, 1, 5] L29b0) ⟨[(0, .lst 2 (X.map Lg.recE)), (1, .lst 2 (X.map Lg.recE)), (5, i64 i)], []⟩) = some (.ext 0, ⟨[], []⟩) := by
  intro t
  induction t with
  | nil =>
    intro i h
    have hi := not_drop h
    rw [loopW_eq]
    generalize loopW (bd E0 (ev E0) loopW 0 [0, 1, 5] L29b0) = K
    simp -implicitDefEqProofs [bd, L29b0, hi]
  | cons c t ih =>
    intro i h
    obtain ⟨hi, hx, hd, hmem⟩ := at_drop h
    have hih := ih (i + 1) hd
    rw [cs1] at hih
    have hw : IntKind.i64.wrap ((i : Int) + 1) = (i : Int) + 1 := wr64 (by omega) (by omega)
    rw [loopW_eq]
    generalize loopW (bd E0 (ev E0) loopW 0 [0, 1, 5] L29b0) = K at hih ⊢
    simpa -implicitDefEqProofs [bd, L29b0, Lg.recE, hi, hx, hw] using hih
theorem vrecs (X : List (ByteArray × ByteArray)) (hX : X.length ≤ 1000) : ev E0 29 [.lst 2 (X.map Lg.recE), .lst 2 (X.map Lg.recE)] [] = some (bl true, []) := by
  rw [e29]
  unfold runF
  have hl := recs_loop X hX X 0 rfl
  rw [c0] at hl
  simp -implicitDefEqProofs [L29, hl]
theorem drawCrash (x : List Int) (hx : okC x) : ∃ (d p : ByteArray) (n k : Int) (torn : Bool), d.size ≤ 70000 ∧ p.size ≤ 70000 ∧ ev E0 30 [.lst 1 (cd x)] [] = some (.tup [.agg [st d, st p, i64 n], i64 k, bl torn], []) := by
  have hs : Stable [some (lb ⟨#[]⟩ ⟨#[]⟩ 0), some (cu x 0 0)] := stable_leaves (H := []) ⟨by simp [oldIds], rfl⟩ [lb ⟨#[]⟩ ⟨#[]⟩ 0, cu x 0 0] (by
    intro b hb
    simp at hb
    rcases hb with rfl | rfl
    · exact leaf_lb _ _ _
    · exact ⟨rfl, fun _ => rfl⟩)
  obtain ⟨a1, s1, d, p, n, p1, q1, zd, zp, e1⟩ := anyLog_ok x hx _ 1 0 0 rfl hs (by omega) (by omega)
  have hs1 := stable_cu hs (id := 1) (x := x) (a := 0) (s := 0) rfl a1 s1
  obtain ⟨a2, s2, r, p2, q2, r0, r1, e2⟩ := pick_fr x hx _ [lb d p n] 1 a1 s1 rfl hs1 (by intro b hb; simp at hb; subst hb; exact leaf_lb _ _ _) (by omega) (by omega) ((p.size : Int) + 3)
  have hs2 := stable_cu hs (id := 1) (x := x) (a := 0) (s := 0) rfl a2 s2
  obtain ⟨a3, s3, q, p3, q3, e3⟩ := one_fr x hx _ [lb d p n] 1 a2 s2 rfl hs2 (by intro b hb; simp at hb; subst hb; exact leaf_lb _ _ _) (by omega) (by omega) 2
  refine ⟨d, p, n, IntKind.i64.wrap (r - 1), q, zd, zp, ?_⟩
  have hw : IntKind.i64.wrap ((p.size : Int) + 3) = (p.size : Int) + 3 := wr64 (by omega) (by omega)
  simp only [List.map_cons, List.map_nil, List.set_cons_succ, List.set_cons_zero, lb, cu, List.cons_append, List.nil_append] at e1 e2 e3
  rw [e30]
  unfold runF
  simp -implicitDefEqProofs [L30, e1, e2, e3, hw]
open Lg (line_s)
theorem lineD (x : List Int) (k : Int) (hk : 0 ≤ k ∧ k ≤ 100) (c r : ByteArray) (hc : c.size ≤ 8) (hr : r.size ≤ 8) : ∃ t : ByteArray, t.size ≤ 200 ∧ ev E0 52 [i64 k, .agg [st c, st r]] [] = some (st t, []) := by
  obtain ⟨n, rfl⟩ : ∃ n : Nat, k = n := ⟨k.toNat, by omega⟩
  refine ⟨_, ?_, line_s n (by omega) c r (by omega) (by omega)⟩
  rw [Lg.mk_size]
  unfold Lg.enc Lg.body
  have h1 := Lg.seal_len (Lib.itoa (n : Int) ++ 32 :: (B c ++ 64 :: B r))
  have h2 := Lg.itoa_len (n := (n : Int)) (by omega)
  simp only [List.length_append, List.length_cons, List.length_nil, B_len] at h1 ⊢
  omega
theorem drawRecover (x : List Int) (hx : okC x) : ∃ t : ByteArray, t.size ≤ 200000 ∧ ev E0 31 [.lst 1 (cd x)] [] = some (st t, []) := by
  have hs : Stable [some (cu x 0 0)] := stable_leaves (H := []) ⟨by simp [oldIds], rfl⟩ [cu x 0 0] (by
    intro b hb
    simp at hb
    subst hb
    exact ⟨rfl, fun _ => rfl⟩)
  obtain ⟨a1, s1, d, p, n, p1, q1, zd, e1⟩ := log12_ok x hx _ 0 0 0 rfl hs (by omega) (by omega)
  have hs1 := stable_cu hs (id := 0) (x := x) (a := 0) (s := 0) rfl a1 s1
  have leaves : ∀ b ∈ [lb d p n], leafB b := by intro b hb; simp at hb; subst hb; exact leaf_lb _ _ _
  obtain ⟨a2, s2, r, p2, q2, r0, r1, e2⟩ := pick_fr x hx _ [lb d p n] 0 a1 s1 rfl hs1 leaves (by omega) (by omega) 4
  have hs2 := stable_cu hs (id := 0) (x := x) (a := 0) (s := 0) rfl a2 s2
  have hsz : d.size + p.size ≤ 9223372036854775807 := by omega
  have hdp : (d ++ p).size ≤ 60000 := by rw [ByteArray.size_append]; exact zd
  simp only [List.map_cons, List.map_nil, List.set_cons_succ, List.set_cons_zero, lb, cu, List.cons_append, List.nil_append] at e1 e2
  rw [e31]
  unfold runF
  -- the end of the draw: once in forty times a text of nothing, too long or not
  have fin : ∀ (a s : Int) (q : ByteArray), 0 ≤ a → a ≤ 1000 → ∃ (a' s' : Int) (b : Bool), a ≤ a' ∧ a' ≤ a + 2 ∧ ev E0 54 [.ptr 0 0 0, i64 40] [some ⟨66, 3, 0, false, [.agg [.lst 1 (cd x), i64 a, .v (.int .u64 s)]]⟩, some ⟨27, 3, 0, false, [.agg [st d, st p, i64 n]]⟩] = some (bl b, [some ⟨66, 3, 0, false, [.agg [.lst 1 (cd x), i64 a', .v (.int .u64 s')]]⟩, some ⟨27, 3, 0, false, [.agg [st d, st p, i64 n]]⟩]) ∧
      ∃ (a2 s2 k : Int), 0 ≤ k ∧ k ≤ 1 ∧ ev E0 55 [.ptr 0 0 0, i64 2] [some ⟨66, 3, 0, false, [.agg [.lst 1 (cd x), i64 a', .v (.int .u64 s')]]⟩, some ⟨27, 3, 0, false, [.agg [st d, st p, i64 n]]⟩] = some (i64 k, [some ⟨66, 3, 0, false, [.agg [.lst 1 (cd x), i64 a2, .v (.int .u64 s2)]]⟩, some ⟨27, 3, 0, false, [.agg [st d, st p, i64 n]]⟩]) := by
    intro a s q h0 h1
    have hsa := stable_cu hs (id := 0) (x := x) (a := 0) (s := 0) rfl a s
    obtain ⟨a', s', b, t1, t2, e⟩ := one_fr x hx _ [lb d p n] 0 a s rfl hsa leaves (by omega) (by omega) 40
    have hsb := stable_cu hs (id := 0) (x := x) (a := 0) (s := 0) rfl a' s'
    obtain ⟨a'', s'', k, t3, t4, t5, t6, e'⟩ := pick_fr x hx _ [lb d p n] 0 a' s' rfl hsb leaves (by omega) (by omega) 2
    exact ⟨a', s', b, t1, t2, e, a'', s'', k, t5, by omega, e'⟩
  have hbz : ∀ k : Nat, bytesOf (List.replicate k (AV.v (.int .u8 0))) = some (List.replicate k 0) := by
    intro k
    induction k with
    | zero => rfl
    | succ k ih =>
      rw [List.replicate_succ, bytesOf, ih]
      rfl
  have hzs : ∀ k : Nat, (⟨(List.replicate k (0 : UInt8)).toArray⟩ : ByteArray).size = k := fun k => by simp [ByteArray.size]
  by_cases h0 : r = 0
  · obtain ⟨a3, s3, t, p3, q3, zt, e3⟩ := spoilt_fr x hx _ [lb d p n] 0 a2 s2 rfl hs2 leaves (by omega) (by omega) (d ++ p) ⟨#[35, 64, 10, 48, 49]⟩ (by omega) (by decide) (by decide)
    simp only [List.map_cons, List.map_nil, List.set_cons_succ, List.set_cons_zero, lb, cu, List.cons_append, List.nil_append] at e3
    obtain ⟨af, sf, b, tf1, tf2, ef, ag, sg, k9, kf0, kf1, eg⟩ := fin a3 s3 t (by omega) (by omega)
    obtain ⟨kk, rfl⟩ : ∃ kk : Nat, k9 = kk := ⟨k9.toNat, by omega⟩
    have hwk : IntKind.i64.wrap (30000 + (kk : Int)) = ((30000 + kk : Nat) : Int) := by rw [wr64 (by omega) (by omega)]; omega
    have hb0 := hbz (30000 + kk)
    have hb1 : 30000 + kk ≤ 140737488355328 := by omega
    have hb2 : ((30000 + kk : Nat) : Int) ≤ 140737488355328 := by omega
    have hb3 : (0 : Int) ≤ ((30000 + kk : Nat) : Int) := by omega
    cases b with
    | false =>
      refine ⟨t, by omega, ?_⟩
      simp -implicitDefEqProofs [L31, -ByteArray.size_append, e1, e2, ef, hsz, e3, h0]
    | true =>
      refine ⟨⟨(List.replicate (30000 + kk) (0 : UInt8)).toArray⟩, by rw [hzs]; omega, ?_⟩
      simp -implicitDefEqProofs [-Int.natCast_add, L31, -ByteArray.size_append, e1, e2, ef, eg, hsz, hwk, hb0, hb1, hb2, hb3, e3, h0]
  · by_cases h1 : r = 1
    · obtain ⟨a3, s3, m, p3, q3, m0, m1, e3⟩ := pick_fr x hx _ [lb d p n] 0 a2 s2 rfl hs2 leaves (by omega) (by omega) (((d ++ p).size : Int) + 1)
      simp only [List.map_cons, List.map_nil, List.set_cons_succ, List.set_cons_zero, lb, cu, List.cons_append, List.nil_append] at e3
      obtain ⟨m, rfl⟩ : ∃ k : Nat, m = k := ⟨m.toNat, by omega⟩
      have hw : IntKind.i64.wrap (((d ++ p).size : Int) + 1) = ((d ++ p).size : Int) + 1 := wr64 (by omega) (by omega)
      have hm : m ≤ (d ++ p).size := by omega
      have hmi : (m : Int) ≤ ((d ++ p).size : Int) := by omega
      obtain ⟨t, ht⟩ : ∃ t, (d ++ p).extract 0 m = t := ⟨_, rfl⟩
      have zt : t.size ≤ 60000 := by rw [← ht, ByteArray.size_extract]; omega
      obtain ⟨af, sf, b, tf1, tf2, ef, ag, sg, k9, kf0, kf1, eg⟩ := fin a3 s3 t (by omega) (by omega)
      obtain ⟨kk, rfl⟩ : ∃ kk : Nat, k9 = kk := ⟨k9.toNat, by omega⟩
      have hwk : IntKind.i64.wrap (30000 + (kk : Int)) = ((30000 + kk : Nat) : Int) := by rw [wr64 (by omega) (by omega)]; omega
      have hb0 := hbz (30000 + kk)
      have hb1 : 30000 + kk ≤ 140737488355328 := by omega
      have hb2 : ((30000 + kk : Nat) : Int) ≤ 140737488355328 := by omega
      have hb3 : (0 : Int) ≤ ((30000 + kk : Nat) : Int) := by omega
      cases b with
      | false =>
        refine ⟨t, by omega, ?_⟩
        simp -implicitDefEqProofs [L31, -ByteArray.size_append, e1, e2, ef, hsz, e3, h0, h1, hw, hm, hmi, ht]
      | true =>
        refine ⟨⟨(List.replicate (30000 + kk) (0 : UInt8)).toArray⟩, by rw [hzs]; omega, ?_⟩
        simp -implicitDefEqProofs [-Int.natCast_add, L31, -ByteArray.size_append, e1, e2, ef, eg, hsz, hwk, hb0, hb1, hb2, hb3, e3, h0, h1, hw, hm, hmi, ht]
    · by_cases h2 : r = 2
      · obtain ⟨a3, s3, k, p3, q3, k0, k1, e3⟩ := pick_fr x hx _ [lb d p n] 0 a2 s2 rfl hs2 leaves (by omega) (by omega) 4
        have hs3 := stable_cu hs (id := 0) (x := x) (a := 0) (s := 0) rfl a3 s3
        obtain ⟨a4, s4, c, q, p4, q4, zc, zq, e4⟩ := record_fr x hx _ [lb d p n] 0 a3 s3 rfl hs3 leaves (by omega) (by omega)
        simp only [List.map_cons, List.map_nil, List.set_cons_succ, List.set_cons_zero, lb, cu, List.cons_append, List.nil_append] at e3 e4
        obtain ⟨t, zt, e5⟩ := lineD x k (by omega) c q zc zq
        have hsz2 : (d ++ p).size + t.size ≤ 9223372036854775807 := by omega
        obtain ⟨af, sf, b, tf1, tf2, ef, ag, sg, k9, kf0, kf1, eg⟩ := fin a4 s4 (d ++ p ++ t) (by omega) (by omega)
        obtain ⟨kk, rfl⟩ : ∃ kk : Nat, k9 = kk := ⟨k9.toNat, by omega⟩
        have hwk : IntKind.i64.wrap (30000 + (kk : Int)) = ((30000 + kk : Nat) : Int) := by rw [wr64 (by omega) (by omega)]; omega
        have hb0 := hbz (30000 + kk)
        have hb1 : 30000 + kk ≤ 140737488355328 := by omega
        have hb2 : ((30000 + kk : Nat) : Int) ≤ 140737488355328 := by omega
        have hb3 : (0 : Int) ≤ ((30000 + kk : Nat) : Int) := by omega
        cases b with
        | false =>
          refine ⟨(d ++ p ++ t), by rw [ByteArray.size_append]; omega, ?_⟩
          simp -implicitDefEqProofs [L31, -ByteArray.size_append, e1, e2, ef, hsz, e3, e4, e5, h0, h1, h2, hsz2]
        | true =>
          refine ⟨⟨(List.replicate (30000 + kk) (0 : UInt8)).toArray⟩, by rw [hzs]; omega, ?_⟩
          simp -implicitDefEqProofs [-Int.natCast_add, L31, -ByteArray.size_append, e1, e2, ef, eg, hsz, hwk, hb0, hb1, hb2, hb3, e3, e4, e5, h0, h1, h2, hsz2]
      · obtain ⟨af, sf, b, tf1, tf2, ef, ag, sg, k9, kf0, kf1, eg⟩ := fin a2 s2 (d ++ p) (by omega) (by omega)
        obtain ⟨kk, rfl⟩ : ∃ kk : Nat, k9 = kk := ⟨k9.toNat, by omega⟩
        have hwk : IntKind.i64.wrap (30000 + (kk : Int)) = ((30000 + kk : Nat) : Int) := by rw [wr64 (by omega) (by omega)]; omega
        have hb0 := hbz (30000 + kk)
        have hb1 : 30000 + kk ≤ 140737488355328 := by omega
        have hb2 : ((30000 + kk : Nat) : Int) ≤ 140737488355328 := by omega
        have hb3 : (0 : Int) ≤ ((30000 + kk : Nat) : Int) := by omega
        cases b with
        | false =>
          refine ⟨(d ++ p), by omega, ?_⟩
          simp -implicitDefEqProofs [L31, -ByteArray.size_append, e1, e2, ef, hsz, h0, h1, h2]
        | true =>
          refine ⟨⟨(List.replicate (30000 + kk) (0 : UInt8)).toArray⟩, by rw [hzs]; omega, ?_⟩
          simp -implicitDefEqProofs [-Int.natCast_add, L31, -ByteArray.size_append, e1, e2, ef, eg, hsz, hwk, hb0, hb1, hb2, hb3, h0, h1, h2]
end Go.Proofs.YtbbnecjaojobfaaDoor.Ev.Dr
