/- Steps from a letter by single mistakes: the program's and the reference's. -/
import Derived.Test.YtodcochnciadjaaDoorEvMi7
import Derived.Test.YtodcochnciadjaaDoorEvRpt
set_option linter.unusedVariables false
set_option linter.unusedSimpArgs false
namespace Go.Proofs.YtodcochnciadjaaDoor.Ev
open Bf
def adjM (ms : List ByteArray) (i k : Nat) : Bool := decide (ds (mk_ ms i) (mk_ ms k) = 1)
theorem adj_symm (ms : List ByteArray) (i k : Nat) : adjM ms i k = adjM ms k i := by unfold adjM; rw [ds_symm]
/-- A row of numbers. -/
def fi (l : List Int) : List AV := l.map i64
def fb6 (l : List Int) : Blk := ⟨3, 1, 1, false, fi l⟩
theorem fi_len (l : List Int) : (fi l).length = l.length := by simp [fi]
theorem fi_at {f : List Int} {v : Nat} (h : v < f.length) : (fi f)[v]? = some (i64 (G f v)) := by
  unfold fi
  rw [List.getElem?_map, List.getElem?_eq_getElem h, G_at h]
  rfl
theorem fi_at' {f : List Int} {v : Nat} (h : v < f.length) : ∀ q, (fi f)[v]'q = i64 (G f v) := fun q => (List.getElem?_eq_some_iff.1 (fi_at h)).2
theorem fi_set (f : List Int) (v : Nat) (x : Int) : (fi f).set v (i64 x) = fi (f.set v x) := by
  unfold fi
  rw [List.map_set]
theorem stp0 (ms : List ByteArray) (hm : ms.length ≤ 1000) (tg : Nat) : ∀ (r i : Nat), i + r = ms.length →
    packX 0 [1, 2, 5] (loopW (bd E0 (ev E0) loopW 0 [1, 2, 5, 6] L69b0) ⟨[(1, i64 tg), (2, .ptr 0 0 0), (5, .sl 1 0 ms.length), (6, i64 i)], [some (tb ms), some (fb6 (List.replicate i (-1) ++ List.replicate r 0))]⟩) =
      some (.ext 0, ⟨[(1, i64 tg), (2, .ptr 0 0 0), (5, .sl 1 0 ms.length)], [some (tb ms), some (fb6 (List.replicate ms.length (-1)))]⟩) := by
  unfold tb fb6
  intro r
  induction r with
  | zero =>
    intro i h
    obtain rfl : i = ms.length := by omega
    rw [List.replicate_zero, List.append_nil, loopW_eq]
    generalize loopW (bd E0 (ev E0) loopW 0 [1, 2, 5, 6] L69b0) = K
    simp -implicitDefEqProofs [bd, L69b0]
  | succ r ih =>
    intro i h
    have hih := ih (i + 1) (by omega)
    have hi : i < ms.length := by omega
    have hii : (i : Int) < (ms.length : Int) := by omega
    have hw : IntKind.i64.wrap ((i : Int) + 1) = (i : Int) + 1 := wr64 (by omega) (by omega)
    have e1 : List.replicate i (-1 : Int) ++ List.replicate (r + 1) 0 = List.replicate i (-1) ++ 0 :: List.replicate r 0 := by rw [List.replicate_succ]
    have hg : (fi (List.replicate i (-1 : Int) ++ List.replicate (r + 1) 0))[i]? = some (i64 0) := by
      rw [e1]; unfold fi; rw [List.getElem?_map, List.getElem?_append_right (by simp)]; simp
    have hg2 : ∀ q, (fi (List.replicate i (-1 : Int) ++ List.replicate (r + 1) 0))[i]'q = i64 0 := fun q => (List.getElem?_eq_some_iff.1 hg).2
    have hs : (fi (List.replicate i (-1 : Int) ++ List.replicate (r + 1) 0)).set i (i64 (-1)) = fi (List.replicate (i + 1) (-1) ++ List.replicate r 0) := by
      rw [fi_set, e1, List.set_append_right _ _ (by simp), List.replicate_succ' (n := i), List.append_assoc]
      simp
    have hl : (fi (List.replicate i (-1 : Int) ++ List.replicate (r + 1) 0)).length = ms.length := by rw [fi_len]; simp; omega
    rw [cs1] at hih
    rw [loopW_eq]
    generalize loopW (bd E0 (ev E0) loopW 0 [1, 2, 5, 6] L69b0) = K at hih ⊢
    generalize fi (List.replicate i (-1 : Int) ++ List.replicate (r + 1) 0) = R1 at *
    generalize fi (List.replicate (i + 1) (-1 : Int) ++ List.replicate r 0) = R2 at *
    generalize fi (List.replicate ms.length (-1 : Int)) = R3 at *
    simpa -implicitDefEqProofs [bd, L69b0, hi, hii, hw, hg, hg2, hs, hl] using hih
theorem stp1 (ms : List ByteArray) (hm : ms.length ≤ 1000) (hz : ∀ m ∈ ms, m.size ≤ 400) (tg r i : Nat) (hr : r ≤ ms.length) (hi : i < ms.length) : ∀ (c k : Nat) (f : List Int), k + c = ms.length → Rnd (adjM ms) ms.length tg f r i k →
    ∃ f', Rnd (adjM ms) ms.length tg f' r i ms.length ∧ packX 0 [2, 5, 7, 8] (loopW (bd E0 (ev E0) loopW 0 [2, 5, 7, 8, 9] L69b1) ⟨[(2, .ptr 0 0 0), (5, .sl 1 0 ms.length), (7, i64 r), (8, i64 i), (9, i64 k)], [some (tb ms), some (fb6 f)]⟩) =
      some (.ext 6, ⟨[(2, .ptr 0 0 0), (5, .sl 1 0 ms.length), (7, i64 r), (8, i64 i)], [some (tb ms), some (fb6 f')]⟩) := by
  unfold tb fb6
  intro c
  induction c with
  | zero =>
    intro k f h hR
    obtain rfl : k = ms.length := by omega
    refine ⟨f, hR, ?_⟩
    rw [loopW_eq]
    generalize loopW (bd E0 (ev E0) loopW 0 [2, 5, 7, 8, 9] L69b1) = K
    simp -implicitDefEqProofs [bd, L69b1]
  | succ c ih =>
    intro k f h hR
    have hk : k < ms.length := by omega
    have hkk : (k : Int) < (ms.length : Int) := by omega
    have hii : (i : Int) < (ms.length : Int) := by omega
    have hlen := hR.len
    have g1 := fi_at (f := f) (v := i) (by omega)
    have g1' := fi_at' (f := f) (v := i) (by omega)
    have g2 := fi_at (f := f) (v := k) (by omega)
    have g2' := fi_at' (f := f) (v := k) (by omega)
    have hl := fi_len f
    have m1 := get_mk hi
    have m1' := mk_at hi
    have m2 := get_mk hk
    have m2' := mk_at hk
    have hds := ds_s (mk_ ms i) (mk_ ms k) (mk_sz hz i) (mk_sz hz k)
    have hw : IntKind.i64.wrap ((k : Int) + 1) = (k : Int) + 1 := wr64 (by omega) (by omega)
    have hw2 : IntKind.i64.wrap ((r : Int) + 1) = (r : Int) + 1 := wr64 (by omega) (by omega)
    have hset := fi_set f k ((r : Int) + 1)
    have hadj : adjM ms i k = decide ((ds (mk_ ms i) (mk_ ms k) : Int) = 1) := by unfold adjM; rw [decide_eq_decide]; omega
    have hhit : hits (adjM ms) f r i k = (decide (G f i = (r : Int)) && decide (G f k < 0) && adjM ms i k) := rfl
    rw [hlen] at hl
    cases hh : hits (adjM ms) f r i k with
    | true =>
      obtain ⟨f', h1, h2⟩ := ih (k + 1) (f.set k ((r : Int) + 1)) (by omega) (hR.hit hi hk hh)
      refine ⟨f', h1, ?_⟩
      rw [hh] at hhit
      have hhit := hhit.symm
      rw [Bool.and_eq_true, Bool.and_eq_true, decide_eq_true_eq, decide_eq_true_eq, hadj, decide_eq_true_eq] at hhit
      obtain ⟨⟨q1, q2⟩, q3⟩ := hhit
      rw [cs1, ← hset] at h2
      rw [loopW_eq]
      clear ih hR h1 hh hadj hset
      generalize loopW (bd E0 (ev E0) loopW 0 [2, 5, 7, 8, 9] L69b1) = K at h2 ⊢
      rw [q1] at g1 g1'
      generalize G f k = y at *
      generalize ds (mk_ ms i) (mk_ ms k) = d at *
      have q4 : d = 1 := by omega
      generalize mk_ ms i = a at *
      generalize mk_ ms k = b at *
      generalize fi f = nf at *
      simpa -implicitDefEqProofs [bd, L69b1, hi, hii, hk, hkk, g1, g1', g2, g2', hl, m1, m1', m2, m2', hds, hw, hw2, q2, q3, q4] using h2
    | false =>
      obtain ⟨f', h1, h2⟩ := ih (k + 1) f (by omega) (hR.miss hi hk hh)
      refine ⟨f', h1, ?_⟩
      rw [hh, hadj] at hhit
      rw [cs1] at h2
      rw [loopW_eq]
      clear ih hR h1 hh hadj hset
      generalize loopW (bd E0 (ev E0) loopW 0 [2, 5, 7, 8, 9] L69b1) = K at h2 ⊢
      generalize G f i = x at *
      generalize G f k = y at *
      generalize ds (mk_ ms i) (mk_ ms k) = d at *
      generalize mk_ ms i = a at *
      generalize mk_ ms k = b at *
      generalize fi f = nf at *
      by_cases q1 : x = (r : Int)
      · by_cases q2 : y < 0
        · have q3 : ¬ (d : Int) = 1 := by
            intro q3
            rw [decide_eq_true q1, decide_eq_true q2, decide_eq_true q3] at hhit
            cases hhit
          have q4 : ¬ d = 1 := by omega
          simpa -implicitDefEqProofs [bd, L69b1, hi, hii, hk, hkk, g1, g1', g2, g2', hl, m1, m1', m2, m2', hds, hw, hw2, q1, q2, q3, q4] using h2
        · simpa -implicitDefEqProofs [bd, L69b1, hi, hii, hk, hkk, g1, g1', g2, g2', hl, m1, m1', m2, m2', hds, hw, hw2, q1, q2] using h2
      · simpa -implicitDefEqProofs [bd, L69b1, hi, hii, hk, hkk, g1, g1', g2, g2', hl, m1, m1', m2, m2', hds, hw, hw2, q1] using h2
theorem stp2 (ms : List ByteArray) (hm : ms.length ≤ 1000) (hz : ∀ m ∈ ms, m.size ≤ 400) (tg r : Nat) (hr : r ≤ ms.length) : ∀ (c i : Nat) (f : List Int), i + c = ms.length → Rnd (adjM ms) ms.length tg f r i 0 →
    ∃ f', Rnd (adjM ms) ms.length tg f' r ms.length 0 ∧ packX 0 [2, 5, 7] (loopW (bd E0 (ev E0) loopW 0 [2, 5, 7, 8] L69b2) ⟨[(2, .ptr 0 0 0), (5, .sl 1 0 ms.length), (7, i64 r), (8, i64 i)], [some (tb ms), some (fb6 f)]⟩) =
      some (.ext 4, ⟨[(2, .ptr 0 0 0), (5, .sl 1 0 ms.length), (7, i64 r)], [some (tb ms), some (fb6 f')]⟩) := by
  intro c
  induction c with
  | zero =>
    intro i f h hR
    obtain rfl : i = ms.length := by omega
    refine ⟨f, hR, ?_⟩
    unfold tb fb6
    rw [loopW_eq]
    generalize loopW (bd E0 (ev E0) loopW 0 [2, 5, 7, 8] L69b2) = K
    unfold bd
    simp -implicitDefEqProofs [L69b2]
  | succ c ih =>
    intro i f h hR
    have hi : i < ms.length := by omega
    have hii : (i : Int) < (ms.length : Int) := by omega
    obtain ⟨f1, r1, hin⟩ := stp1 ms hm hz tg r i hr hi ms.length 0 f (by omega) hR
    obtain ⟨f', h1, h2⟩ := ih (i + 1) f1 (by omega) r1.row
    refine ⟨f', h1, ?_⟩
    have hw : IntKind.i64.wrap ((i : Int) + 1) = (i : Int) + 1 := wr64 (by omega) (by omega)
    rw [cs1] at h2
    rw [c0] at hin
    unfold tb fb6 at hin h2 ⊢
    rw [loopW_eq]
    generalize loopW (bd E0 (ev E0) loopW 0 [2, 5, 7, 8] L69b2) = K at h2 ⊢
    unfold bd
    simpa -implicitDefEqProofs [L69b2, hi, hii, hin, hw] using h2
theorem stp3 (ms : List ByteArray) (hm : ms.length ≤ 1000) (hz : ∀ m ∈ ms, m.size ≤ 400) (tg : Nat) : ∀ (c r : Nat) (f : List Int), r + c = ms.length → Rnd (adjM ms) ms.length tg f r 0 0 →
    ∃ f', Rnd (adjM ms) ms.length tg f' ms.length 0 0 ∧ packX 0 [5] (loopW (bd E0 (ev E0) loopW 0 [2, 5, 7] L69b3) ⟨[(2, .ptr 0 0 0), (5, .sl 1 0 ms.length), (7, i64 r)], [some (tb ms), some (fb6 f)]⟩) =
      some (.ext 2, ⟨[(5, .sl 0 0 ms.length)], [some (fb6 f')]⟩) := by
  intro c
  induction c with
  | zero =>
    intro r f h hR
    obtain rfl : r = ms.length := by omega
    refine ⟨f, hR, ?_⟩
    unfold tb fb6
    rw [loopW_eq]
    generalize loopW (bd E0 (ev E0) loopW 0 [2, 5, 7] L69b3) = K
    unfold bd
    simp -implicitDefEqProofs [L69b3]
  | succ c ih =>
    intro r f h hR
    have hi : r < ms.length := by omega
    have hii : (r : Int) < (ms.length : Int) := by omega
    obtain ⟨f1, r1, hin⟩ := stp2 ms hm hz tg r (by omega) ms.length 0 f (by omega) hR
    obtain ⟨f', h1, h2⟩ := ih (r + 1) f1 (by omega) r1.next
    refine ⟨f', h1, ?_⟩
    have hw : IntKind.i64.wrap ((r : Int) + 1) = (r : Int) + 1 := wr64 (by omega) (by omega)
    rw [cs1] at h2
    rw [c0] at hin
    unfold tb fb6 at hin h2 ⊢
    rw [loopW_eq]
    generalize loopW (bd E0 (ev E0) loopW 0 [2, 5, 7] L69b3) = K at h2 ⊢
    unfold bd
    simpa -implicitDefEqProofs [L69b3, hi, hii, hin, hw] using h2
theorem steps_s (ms : List ByteArray) (hm : ms.length ≤ 1000) (hz : ∀ m ∈ ms, m.size ≤ 400) (tg : Nat) (ht : tg < ms.length) : ∃ f, Lv (adjM ms) ms.length tg f ∧ ev E0 69 [.agg [.lst 1 (ms.map st)], i64 tg] [] = some (.sl 0 0 ms.length, [some (fb6 f)]) := by
  have h0 := stp0 ms hm tg ms.length 0 (by omega)
  obtain ⟨f, r1, h2⟩ := stp3 ms hm hz tg ms.length 0 _ (by omega) (Rnd.start (adjM ms) ms.length tg ht)
  refine ⟨f, r1.fin ht, ?_⟩
  rw [c0, List.replicate_zero, List.nil_append] at h0
  rw [c0] at h2
  have hse := fi_set (List.replicate ms.length (-1)) tg 0
  have hrep : fi (List.replicate ms.length 0) = List.replicate ms.length (i64 0) := by unfold fi; rw [List.map_replicate]
  have hg := fi_at (f := List.replicate ms.length (-1 : Int)) (v := tg) (by simpa using ht)
  have hg' := fi_at' (f := List.replicate ms.length (-1 : Int)) (v := tg) (by simpa using ht)
  have hl : (fi (List.replicate ms.length (-1 : Int))).length = ms.length := by rw [fi_len]; simp
  unfold tb fb6 at *
  rw [hrep] at h0
  rw [← hse] at h2
  generalize fi (List.replicate ms.length (-1)) = R1 at *
  generalize G (List.replicate ms.length (-1)) tg = y at *
  have htt : (tg : Int) < (ms.length : Int) := by omega
  have l1 : (ms.length : Int) ≤ 140737488355328 := by omega
  have l2 : (ms.length : Int) * 8 ≤ 140737488355328 := by omega
  rw [e69]
  unfold runF
  simp -implicitDefEqProofs [L69, h0, h2, hg, hg', hl, ht, htt, l1, l2]
end Go.Proofs.YtodcochnciadjaaDoor.Ev
