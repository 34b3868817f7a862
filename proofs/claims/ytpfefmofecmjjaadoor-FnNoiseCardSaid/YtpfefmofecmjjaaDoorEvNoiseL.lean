/- What the law on noises asks: its codes, its loops in its own environment. -/
import Derived.Test.YtpfefmofecmjjaaDoorEvE1
import Derived.Test.YtpfefmofecmjjaaDoorEvNoise5
import Derived.Test.YtpfefmofecmjjaaDoorEvDrawO
set_option linter.unusedVariables false
set_option linter.unusedSimpArgs false
set_option linter.constructorNameAsVariable false
namespace Go.Proofs.YtpfefmofecmjjaaDoor.Ev.Dr
theorem okC_of {x : List Int} (hl : x.length ≤ 140737488355328) (hw : ∀ y ∈ x, (Lit.int .u8 y).wf = true) : okC x := by
  refine ⟨hl, fun y hy => ?_⟩
  have h := hw y hy
  unfold Lit.wf at h
  rw [Bool.and_eq_true, decide_eq_true_eq, decide_eq_true_eq] at h
  exact h
theorem vbig (x : List Int) : ev E0 4 [.lst 1 (cd x)] [] = some (bl (decide (65536 < (x.length : Int))), []) := by
  rw [e4]
  unfold runF
  simp -implicitDefEqProofs [L4, cd_len]
def cutD (x : List Int) (n : Nat) : List Int := x.drop (min n x.length) ++ [((min n x.length : Nat) : Int)]
theorem cutD_ok {x : List Int} (hx : okC x) (hl : x.length ≤ 65536) (n : Nat) (hn : n ≤ 200) : okC (cutD x n) := by
  unfold cutD
  refine ⟨by simp; omega, fun y hy => ?_⟩
  rcases List.mem_append.1 hy with h | h
  · exact hx.2 y (List.mem_of_mem_drop h)
  · rw [List.mem_singleton] at h
    omega
theorem vcut (x : List Int) (hx : okC x) (hl : x.length ≤ 65536) (n : Nat) (hn : n ≤ 200) : ev E0 11 [.lst 1 (cd x), i64 n] [] = some (.sl 0 0 (cutD x n).length, [some ⟨5, 1, 1, false, cd (cutD x n)⟩]) := by
  rw [e11]
  unfold runF
  have hd : ∀ k, (cd x).drop k = cd (x.drop k) := fun k => by simp [cd, List.map_drop]
  have hw : ∀ k : Nat, k ≤ 200 → IntKind.u8.wrap (k : Int) = k := by
    intro k hk
    simp only [IntKind.wrap, IntKind.bits, IntKind.signed, Bool.false_and, Bool.false_eq_true, if_false]
    omega
  have ht : ∀ k : Nat, List.take (x.length - k) (cd (x.drop k)) = cd (x.drop k) := fun k => List.take_of_length_le (by simp [cd])
  have hc : ∀ (y : List Int) (k : Int), cd y ++ [AV.v (.int .u8 k)] = cd (y ++ [k]) := fun y k => by simp [cd]
  have hy : ∀ k : Nat, (cd (x.drop k)).length = x.length - k := fun k => by simp [cd]
  by_cases h : (x.length : Int) < (n : Int)
  · have hm : min n x.length = x.length := by omega
    have h1 := hw x.length (by omega)
    unfold cutD
    rw [hm]
    have hz := hd x.length
    have hz2 := hc (x.drop x.length) x.length
    simp -implicitDefEqProofs [L11, cd_len, h, h1, hz, ht]
    rfl
  · have hm : min n x.length = n := by omega
    have h1 := hw n (by omega)
    have h2 : (n : Int) ≤ (x.length : Int) := by omega
    have h3 : n ≤ x.length := by omega
    unfold cutD
    rw [hm]
    have hz := hd n
    have hz2 := hc (x.drop n) n
    simp -implicitDefEqProofs [L11, cd_len, h, h1, h2, h3, hz, ht]
    have l1 : x.length ≤ 140737488355328 + n := by omega
    have l2 : x.length ≤ 140737488355327 + n := by omega
    rw [if_pos l1, if_pos l2, ← hz2]
    by_cases he : cd (x.drop n) = []
    · have he2 : x.length - n = 0 := by rw [← hy n, he]; rfl
      rw [if_pos he, he, he2]
      rfl
    · rw [if_neg he]
end Go.Proofs.YtpfefmofecmjjaaDoor.Ev.Dr
namespace Go.Proofs.YtpfefmofecmjjaaDoor.Ev
open Fr Nz Dr
theorem two_vplus (a b n : Nat) (hn : 0 < n) (hnb : n ≤ 100000000000) (ha : a ≤ n) (hb : b ≤ n) : ev E1 25 [pr (cut a n), pr (cut b n)] [] = some (pr (cut (a + b) n), []) := by
  rw [g25]
  exact frz_to rfl (vplus a b n hn hnb ha hb) (by simp [pr]) (by simp [pr])
theorem two_vless (a b n : Nat) (hn : 0 < n) (hnb : n ≤ 100000000000) (ha : a ≤ n) (hb : b ≤ n) : ev E1 26 [pr (cut a n), pr (cut b n)] [] = some (bl (decide (a < b)), []) := by
  rw [g26]
  exact frz_to rfl (vless a b n hn hnb ha hb) (by simp [pr]) (by simp)
def sumN : List Nat → Nat
  | [] => 0
  | p :: t => p + sumN t
theorem sumN_mem : ∀ {l : List Nat} {p : Nat}, p ∈ l → p ≤ sumN l
  | x :: t, p, h => by
    rw [sumN]
    rcases List.mem_cons.1 h with e | e
    · subst e; omega
    · have := sumN_mem e; omega
def frow (ps : List Nat) (N : Nat) : List AV := ps.map fun p => pr (cut p N)
theorem frow_len (ps : List Nat) (N : Nat) : (frow ps N).length = ps.length := by simp [frow]
theorem frow_at {ps : List Nat} {i p N : Nat} (hi : i < ps.length) (h : ps[i] = p) : ∀ h, (frow ps N)[i]'h = pr (cut p N) := fun h2 => by
  have h3 : (frow ps N)[i]? = some (pr (cut p N)) := by unfold frow; rw [List.getElem?_map, List.getElem?_eq_getElem hi, h]; rfl
  exact (List.getElem?_eq_some_iff.1 h3).2

theorem row_sum (ps : List Nat) (hp : ps.length ≤ 1000) (N : Nat) (hN : 0 < N) (hNb : N ≤ 100000000000) (tm vm a17 : List AV) (n1 n2 x1 x2 r1 r2 y1 y2 c1 c2 q5 q21 q27 q28 : Int) (f18 f30 f37 : Bool) (s34 s35 : ByteArray) : ∀ (t : List Nat) (i c : Nat), ps.drop i = t → c + sumN t ≤ N →
    packX 0 [3, 4, 5, 6, 17, 18, 21, 25, 26, 27, 28, 29, 30, 33, 34, 35, 36, 37, 40] (loopW (bd E1 (ev E1) loopW 0 [3, 4, 5, 6, 17, 18, 21, 25, 26, 27, 28, 29, 30, 33, 34, 35, 36, 37, 40, 41] L3b0) ⟨[(3, .ptr 0 0 0), (4, .ptr 1 0 0), (5, i64 q5), (6, .lst 2 (frow ps N)), (17, .lst 2 a17), (18, bl f18), (21, i64 q21), (25, .ptr 2 0 0), (26, .ptr 3 0 0), (27, i64 q27), (28, i64 q28), (29, .ptr 4 0 0), (30, bl f30), (33, .ptr 5 0 0), (34, st s34), (35, st s35), (36, .ptr 6 0 0), (37, bl f37), (40, .ptr 7 0 0), (41, i64 i)], [some ⟨26, 1, 0, false, [.agg [.lst 1 tm]]⟩, some ⟨28, 2, 0, false, [.agg [i64 n1, i64 n2]]⟩, some ⟨26, 1, 0, false, [.agg [.lst 1 vm]]⟩, some ⟨28, 2, 0, false, [.agg [i64 x1, i64 x2]]⟩, some ⟨34, 2, 0, false, [.agg [i64 r1, i64 r2]]⟩, some ⟨28, 2, 0, false, [.agg [i64 y1, i64 y2]]⟩, some ⟨34, 2, 0, false, [.agg [i64 c1, i64 c2]]⟩, some ⟨34, 2, 0, false, [pr (cut c N)]⟩]⟩) = some (.ext 0, ⟨[(3, .ptr 0 0 0), (4, .ptr 1 0 0), (5, i64 q5), (6, .lst 2 (frow ps N)), (17, .lst 2 a17), (18, bl f18), (21, i64 q21), (25, .ptr 2 0 0), (26, .ptr 3 0 0), (27, i64 q27), (28, i64 q28), (29, .ptr 4 0 0), (30, bl f30), (33, .ptr 5 0 0), (34, st s34), (35, st s35), (36, .ptr 6 0 0), (37, bl f37), (40, .ptr 7 0 0)], [some ⟨26, 1, 0, false, [.agg [.lst 1 tm]]⟩, some ⟨28, 2, 0, false, [.agg [i64 n1, i64 n2]]⟩, some ⟨26, 1, 0, false, [.agg [.lst 1 vm]]⟩, some ⟨28, 2, 0, false, [.agg [i64 x1, i64 x2]]⟩, some ⟨34, 2, 0, false, [.agg [i64 r1, i64 r2]]⟩, some ⟨28, 2, 0, false, [.agg [i64 y1, i64 y2]]⟩, some ⟨34, 2, 0, false, [.agg [i64 c1, i64 c2]]⟩, some ⟨34, 2, 0, false, [pr (cut (c + sumN t) N)]⟩]⟩) := by
  intro t
  have hrl := frow_len ps N
  induction t with
  | nil =>
    intro i c h hc
    have hi := not_drop h
    have hi2 : ¬ (i : Int) < (ps.length : Int) := by omega
    rw [sumN, Nat.add_zero, loopW_eq]
    unfold pr
    generalize frow ps N = R at *
    generalize loopW (bd E1 (ev E1) loopW 0 [3, 4, 5, 6, 17, 18, 21, 25, 26, 27, 28, 29, 30, 33, 34, 35, 36, 37, 40, 41] L3b0) = K
    simp -implicitDefEqProofs [bd, L3b0, hrl, hi, hi2]
  | cons p t ih =>
    intro i c h hc
    rw [sumN] at hc
    obtain ⟨hi, hx, hdr, hmem⟩ := at_drop h
    have hih := ih (i + 1) (c + p) hdr (by omega)
    have hi2 : (i : Int) < (ps.length : Int) := by omega
    have hw : IntKind.i64.wrap ((i : Int) + 1) = (i : Int) + 1 := wr64 (by omega) (by omega)
    have g1 := frow_at (N := N) hi hx
    have f1 := two_vplus c p N hN hNb (by omega) (by omega)
    rw [cs1] at hih
    rw [sumN, ← Nat.add_assoc, loopW_eq]
    generalize cut (c + p + sumN t) N = z3 at hih ⊢
    generalize cut (c + p) N = z2 at f1 hih
    generalize cut p N = z1 at f1 g1
    generalize cut c N = z0 at f1 ⊢
    unfold pr at f1 g1 hih ⊢
    generalize frow ps N = R at *
    generalize loopW (bd E1 (ev E1) loopW 0 [3, 4, 5, 6, 17, 18, 21, 25, 26, 27, 28, 29, 30, 33, 34, 35, 36, 37, 40, 41] L3b0) = K at hih ⊢
    simpa -implicitDefEqProofs [bd, L3b0, hrl, hi, hi2, g1, f1, hw] using hih

theorem sent_sum (ps : List Nat) (hp : ps.length ≤ 1000) (N : Nat) (hN : 0 < N) (hNb : N ≤ 100000000000) (b : Nat) (hb : b < ps.length) (pb : Nat) (hpb : ps[b] = pb) (hle : pb ≤ N) (hmax : ∀ j (h : j < ps.length), ps[j] ≤ pb) (hfst : ∀ j (h : j < ps.length), j < b → ps[j] < pb) (vm : List AV) (x1 x2 r1 r2 y1 y2 c1 c2 q27 q28 : Int) (f30 f37 : Bool) (s34 s35 : ByteArray) : ∀ (t : List Nat) (i c : Nat), ps.drop i = t → c + sumN t ≤ N →
    packX 0 [2, 25, 26, 27, 28, 29, 30, 33, 34, 35, 36, 37, 42] (loopW (bd E1 (ev E1) loopW 0 [17, 21, 25, 26, 27, 28, 29, 30, 33, 34, 35, 36, 37, 42, 43] L3b1) ⟨[(17, .lst 2 (frow ps N)), (21, i64 b), (25, .ptr 0 0 0), (26, .ptr 1 0 0), (27, i64 q27), (28, i64 q28), (29, .ptr 2 0 0), (30, bl f30), (33, .ptr 3 0 0), (34, st s34), (35, st s35), (36, .ptr 4 0 0), (37, bl f37), (42, .ptr 5 0 0), (43, i64 i)], [some ⟨26, 1, 0, false, [.agg [.lst 1 vm]]⟩, some ⟨28, 2, 0, false, [.agg [i64 x1, i64 x2]]⟩, some ⟨34, 2, 0, false, [.agg [i64 r1, i64 r2]]⟩, some ⟨28, 2, 0, false, [.agg [i64 y1, i64 y2]]⟩, some ⟨34, 2, 0, false, [.agg [i64 c1, i64 c2]]⟩, some ⟨34, 2, 0, false, [pr (cut c N)]⟩]⟩) = some (.ext 2, ⟨[(25, .ptr 0 0 0), (26, .ptr 1 0 0), (27, i64 q27), (28, i64 q28), (29, .ptr 2 0 0), (30, bl f30), (33, .ptr 3 0 0), (34, st s34), (35, st s35), (36, .ptr 4 0 0), (37, bl f37), (42, .ptr 5 0 0)], [some ⟨26, 1, 0, false, [.agg [.lst 1 vm]]⟩, some ⟨28, 2, 0, false, [.agg [i64 x1, i64 x2]]⟩, some ⟨34, 2, 0, false, [.agg [i64 r1, i64 r2]]⟩, some ⟨28, 2, 0, false, [.agg [i64 y1, i64 y2]]⟩, some ⟨34, 2, 0, false, [.agg [i64 c1, i64 c2]]⟩, some ⟨34, 2, 0, false, [pr (cut (c + sumN t) N)]⟩]⟩) := by
  intro t
  have hrl := frow_len ps N
  have hb2 : (b : Int) < (ps.length : Int) := by omega
  have gb := frow_at (N := N) hb hpb
  induction t with
  | nil =>
    intro i c h hc
    have hi := not_drop h
    have hi2 : ¬ (i : Int) < (ps.length : Int) := by omega
    rw [sumN, Nat.add_zero, loopW_eq]
    unfold pr
    generalize frow ps N = R at *
    generalize loopW (bd E1 (ev E1) loopW 0 [17, 21, 25, 26, 27, 28, 29, 30, 33, 34, 35, 36, 37, 42, 43] L3b1) = K
    simp -implicitDefEqProofs [bd, L3b1, hrl, hi, hi2]
  | cons p t ih =>
    intro i c h hc
    rw [sumN] at hc
    obtain ⟨hi, hx, hdr, hmem⟩ := at_drop h
    have hih := ih (i + 1) (c + p) hdr (by omega)
    have hi2 : (i : Int) < (ps.length : Int) := by omega
    have hw : IntKind.i64.wrap ((i : Int) + 1) = (i : Int) + 1 := wr64 (by omega) (by omega)
    have g1 := frow_at (N := N) hi hx
    have f1 := two_vplus c p N hN hNb (by omega) (by omega)
    have hmx := hmax i hi
    rw [hx] at hmx
    have f2 := two_vless pb p N hN hNb hle (by omega)
    rw [decide_eq_false (by omega)] at f2
    have hne : i < b → cut p N ≠ cut pb N := fun hlt e => by
      have h1 := hfst i hi hlt
      rw [hx] at h1
      have h2 := cut_inj hN e
      omega
    rw [cs1] at hih
    rw [sumN, ← Nat.add_assoc, loopW_eq]
    generalize cut (c + p + sumN t) N = z3 at hih ⊢
    generalize cut (c + p) N = z2 at f1 hih
    generalize cut p N = z1 at f1 f2 g1 hne
    generalize cut c N = z0 at f1 ⊢
    generalize cut pb N = zb at f2 gb hne
    unfold pr at f1 f2 g1 gb hih ⊢
    generalize frow ps N = R at *
    generalize loopW (bd E1 (ev E1) loopW 0 [17, 21, 25, 26, 27, 28, 29, 30, 33, 34, 35, 36, 37, 42, 43] L3b1) = K at hih ⊢
    by_cases hlt : i < b
    · have hlt2 : (i : Int) < (b : Int) := by omega
      have hz := hne hlt
      obtain ⟨u1, u2⟩ := z1
      obtain ⟨v1, v2⟩ := zb
      simp only at f1 f2 g1 gb
      by_cases hu : u1 = v1
      · have hv : ¬ u2 = v2 := fun e => hz (by rw [hu, e])
        have hv2 : ¬ (u2 : Int) = (v2 : Int) := by omega
        subst hu
        simpa -implicitDefEqProofs [bd, L3b1, hrl, hi, hi2, hb, hb2, g1, gb, f1, f2, hw, hlt, hlt2, hv, hv2] using hih
      · have hu2 : ¬ (u1 : Int) = (v1 : Int) := by omega
        simpa -implicitDefEqProofs [bd, L3b1, hrl, hi, hi2, hb, hb2, g1, gb, f1, f2, hw, hlt, hlt2, hu, hu2] using hih
    · have hlt2 : ¬ (i : Int) < (b : Int) := by omega
      simpa -implicitDefEqProofs [bd, L3b1, hrl, hi, hi2, hb, hb2, g1, gb, f1, f2, hw, hlt, hlt2] using hih
end Go.Proofs.YtpfefmofecmjjaaDoor.Ev
