/- What the laws' own helpers answer, and the draw of a stream. -/
import Derived.Test.YtlmjoimjdpfamaaGreatEvRelQ
import Derived.Test.YtlmjoimjdpfamaaGreatEvRelZ8
import Derived.Test.YtlmjoimjdpfamaaGreatEvRelZ4
set_option linter.unusedVariables false
set_option linter.unusedSimpArgs false
namespace Go.Proofs.YtlmjoimjdpfamaaGreat.Ev
open Dr
theorem okC_law {x : List Int} (hl : x.length ≤ 140737488355328) (hw : ∀ y ∈ x, (Lit.int .u8 y).wf = true) : okC x := by
  refine ⟨hl, fun y hy => ?_⟩
  have h := hw y hy
  unfold Lit.wf at h
  rw [Bool.and_eq_true, decide_eq_true_eq, decide_eq_true_eq] at h
  exact h
theorem rbig (x : List Int) : ev E0 4 [.lst 1 (cd x)] [] = some (bl (decide (65536 < (x.length : Int))), []) := by
  rw [e4]
  unfold runF
  simp -implicitDefEqProofs [L4, cd_len]
theorem rints_loop (l : List Int) (hm : l.length ≤ 140737488355328) : ∀ (t : List Int) (i : Nat), l.drop i = t →
    packX 0 [4] (loopW (bd E0 (ev E0) loopW 0 [0, 1, 5] L12b0) ⟨[(0, .lst 1 (i64s l)), (1, .lst 1 (i64s l)), (5, i64 i)], []⟩) = some (.ext 0, ⟨[], []⟩) := by
  intro t
  induction t with
  | nil =>
    intro i h
    have hi := not_drop h
    rw [loopW_eq]
    generalize loopW (bd E0 (ev E0) loopW 0 [0, 1, 5] L12b0) = K
    simp -implicitDefEqProofs [bd, L12b0, i64s, hi]
  | cons c t ih =>
    intro i h
    obtain ⟨hi, hx, hd, hmem⟩ := at_drop h
    have hih := ih (i + 1) hd
    have hw : IntKind.i64.wrap ((i : Int) + 1) = (i : Int) + 1 := wr64 (by omega) (by omega)
    rw [cs1] at hih
    rw [loopW_eq]
    generalize loopW (bd E0 (ev E0) loopW 0 [0, 1, 5] L12b0) = K at hih ⊢
    simpa -implicitDefEqProofs [bd, L12b0, i64s, hi, hx, hw] using hih
theorem rints (l : List Int) (hm : l.length ≤ 140737488355328) : ev E0 12 [.lst 1 (i64s l), .lst 1 (i64s l)] [] = some (bl true, []) := by
  rw [e12]
  unfold runF
  have h := rints_loop l hm l 0 rfl
  rw [c0] at h
  simp -implicitDefEqProofs [L12, i64s_len, h]
theorem isPlanF_i (n : Int) (js : List J) (pl : List Hh) (hpl : pl.length ≤ 1099511627776) : ev E0 18 [i64 n, .lst 4 (js.map jb), .lst 3 (pl.map hp)] [] = some (.tup [bl (planT n js pl), bl (okJobs n js)], []) := by
  rw [e18]
  unfold runF planT
  have hg := areJobs_i n js
  cases h1 : okJobs n js with
  | false =>
    rw [h1] at hg
    simp -implicitDefEqProofs [L18, hg]
  | true =>
    rw [h1] at hg
    obtain ⟨hl, hj⟩ := okJobs_jb h1
    have hp := isPlan_i js hj hl pl hpl
    rw [plan_eq hj] at hp
    simp -implicitDefEqProofs [L18, hg, hp]
theorem rints_nil : ev E0 12 [nilS, .lst 1 []] [] = some (bl true, []) := by
  rw [e12]
  unfold runF
  simp -implicitDefEqProofs [L12, loopW_eq, bd, L12b0]
theorem row_c2 (x : List Int) (hx : okC x) (a s : Int) (h0 : 0 ≤ a) (h1 : a ≤ 100000000000) (p q : List Int) :
    ∃ a' s' n : Int, ev E0 21 [.ptr 0 0 0] [some (cu x a s), some (ib p), some (ib q)] = some (i64 n, [some (cu x a' s'), some (ib p), some (ib q)]) := by
  obtain ⟨a', s', t, k1, k2, k3, e⟩ := among_c x hx [ib p, ib q] (by intro b h; simp only [List.mem_cons, List.not_mem_nil, or_false] at h; rcases h with rfl | rfl <;> exact leaf_ib _) a s h0 (by omega) [3, 4, 2, 5, 6, 3, 4, 1, 7, 3, 4, 2, 5, 6] 14 rfl (by decide)
  refine ⟨a', s', t, ?_⟩
  unfold cu ib at *
  simp only [List.cons_append, List.nil_append, List.map_cons, List.map_nil, List.length_nil, List.length_cons, Nat.zero_add] at e
  rw [e21]
  unfold runF
  simp -implicitDefEqProofs [L21, e]
theorem draw_stream (x : List Int) (hx : okC x) : ∃ m s k : Int, ev E0 15 [.lst 1 (cd x)] [] = some (.tup [i64 m, i64 s, i64 k], []) := by
  obtain ⟨a1, s1, t1, p1, q1, _, ye1⟩ := among_c x hx [] (by simp) 0 0 (by omega) (by omega) [1, 2, 5, 60, 0, 61] 6 rfl (by decide)
  obtain ⟨a2, s2, t2, p2, q2, _, ye2⟩ := among_c x hx [ib [1, 2, 5, 60, 0, 61]] (by intro b h; rw [List.mem_singleton.1 h]; exact leaf_ib _) a1 s1 (by omega) (by omega) [1, 2, 3, 5, 4, 0, 6] 7 rfl (by decide)
  obtain ⟨a3, s3, m, ye3⟩ := row_c2 x hx a2 s2 (by omega) (by omega) [1, 2, 5, 60, 0, 61] [1, 2, 3, 5, 4, 0, 6]
  refine ⟨m, t1, t2, ?_⟩
  unfold cu ib at *
  simp only [List.nil_append, List.cons_append, List.map_cons, List.map_nil, List.length_nil, List.length_cons, Nat.zero_add] at *
  rw [e15]
  unfold runF
  simp (maxSteps := 1000000) -implicitDefEqProofs [L15, ye1, ye2, ye3]
theorem waits_i (n : Int) (js : List J) (pl : List Hh) (hpl : pl.length ≤ 1099511627776) (h : planT n js pl = true) :
    ev E0 20 [i64 n, .lst 4 (js.map jb), .lst 3 (pl.map hp)] [] = some (.tup [.sl 0 0 js.length, bl true], [ri (waitK js pl)]) := by
  rw [e20]
  unfold runF
  have ha := arePlanned_i n js pl hpl
  rw [h] at ha
  unfold planT at h
  rw [Bool.and_eq_true] at h
  obtain ⟨h1, h2⟩ := h
  obtain ⟨hl, hj⟩ := okJobs_jb h1
  have hb : ∀ x ∈ pl, HB js x := fun x hx => (plan_tb hj h2 x hx).1
  have hP := ((planS_iff js pl).1 h2).2.1
  have u2 := waitI_loop js hj hl pl hb hpl hP js 0 rfl (by omega)
  rw [List.take_zero, c0] at u2
  have hwl := waitK_len js pl
  generalize waitK js pl = W at *
  unfold ri i64s at *
  rw [List.map_nil] at u2
  simp -implicitDefEqProofs [L20, ha, u2]
end Go.Proofs.YtlmjoimjdpfamaaGreat.Ev
