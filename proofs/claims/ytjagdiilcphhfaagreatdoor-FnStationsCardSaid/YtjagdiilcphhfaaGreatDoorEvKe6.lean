/- Rows of keys: sizes, copies; DoKeys of both programs. -/
import Derived.Test.YtjagdiilcphhfaaGreatDoorEvKe5
set_option linter.unusedVariables false
set_option linter.unusedSimpArgs false
namespace Go.Proofs.YtjagdiilcphhfaaGreatDoor.Ev
abbrev K := Int × Int × Int × ByteArray
def kb (q : K) : AV := .agg [i64 q.1, i64 q.2.1, i64 q.2.2.1, st q.2.2.2]
@[simp] theorem free_kb (l : List K) : okL (free 5) (l.map kb) = true := okL_map (fun _ => rfl) l
def sBl (a b : ByteArray) (n : Int) : Blk := ⟨28, 3, 0, false, [.agg [st a, st b, i64 n]]⟩
theorem szk_loop (l : List K) (hl : l.length ≤ 1048576) (hz : ∀ q ∈ l, q.2.2.2.size ≤ 9223372036854775807) : ∀ (t : List K) (i : Nat) (c : Int), l.drop i = t → 0 ≤ c → c ≤ 1048576 →
    (∃ c' : Int, 0 ≤ c' ∧ c' ≤ c ∧ (∀ q ∈ t, q.2.2.2.size ≤ 1048576) ∧ packX 0 [1, 4] (loopW (bd E0 (ev E0) loopW 0 [0, 1, 5] L13b0) ⟨[(0, .lst 4 (l.map kb)), (1, i64 c), (5, i64 i)], []⟩) = some (.ext 0, ⟨[(1, i64 c')], []⟩)) ∨
    (∃ c' : Int, packX 0 [1, 4] (loopW (bd E0 (ev E0) loopW 0 [0, 1, 5] L13b0) ⟨[(0, .lst 4 (l.map kb)), (1, i64 c), (5, i64 i)], []⟩) = some (.ret, ⟨[(1, i64 c'), (4, i64 (-1))], []⟩)) := by
  intro t
  induction t with
  | nil =>
    intro i c h h0 h1
    have hi := not_drop h
    refine .inl ⟨c, h0, Int.le_refl _, by simp, ?_⟩
    rw [loopW_eq]
    generalize loopW (bd E0 (ev E0) loopW 0 [0, 1, 5] L13b0) = K
    simp -implicitDefEqProofs [bd, L13b0, hi]
  | cons q t ih =>
    intro i c h h0 h1
    obtain ⟨hi, hx, hd, hmem⟩ := at_drop h
    have hzq := hz q hmem
    have hw : IntKind.i64.wrap ((i : Int) + 1) = (i : Int) + 1 := wr64 (by omega) (by omega)
    have hk := sz_key q.1 q.2.1 q.2.2.1 q.2.2.2 c h0 h1 (by omega)
    have hg : ∀ h, (l.map kb)[i]'h = .agg [i64 q.1, i64 q.2.1, i64 q.2.2.1, st q.2.2.2] := fun h => by rw [List.getElem_map, hx]; rfl
    have hii : (i : Int) < (l.length : Int) := by omega
    have hQ : (l.map kb).length = l.length := List.length_map _
    unfold kA at hk
    by_cases hr : c - (q.2.2.2.size : Int) < 0
    · rw [if_pos hr] at hk
      refine .inr ⟨-1, ?_⟩
      rw [loopW_eq]
      clear ih
      have hg1 : (l.map kb)[i]? = some (.agg [i64 q.1, i64 q.2.1, i64 q.2.2.1, st q.2.2.2]) := by rw [List.getElem?_eq_getElem (by simpa using hi), hg]
      generalize l.map kb = Q at *
      generalize loopW (bd E0 (ev E0) loopW 0 [0, 1, 5] L13b0) = K
      simp -implicitDefEqProofs [bd, L13b0, hi, hii, hg, hg1, hk, hQ]
    · rw [if_neg hr] at hk
      have hih := ih (i + 1) (c - (q.2.2.2.size : Int)) hd (by omega) (by omega)
      rw [cs1] at hih
      rw [loopW_eq]
      clear ih
      have hg1 : (l.map kb)[i]? = some (.agg [i64 q.1, i64 q.2.1, i64 q.2.2.1, st q.2.2.2]) := by rw [List.getElem?_eq_getElem (by simpa using hi), hg]
      generalize l.map kb = Q at *
      rcases hih with ⟨c', g0, g1, g2, hh⟩ | ⟨c', hh⟩
      · refine .inl ⟨c', g0, by omega, fun u hu => ?_, ?_⟩
        · rcases List.mem_cons.1 hu with rfl | hu
          · omega
          · exact g2 u hu
        · generalize loopW (bd E0 (ev E0) loopW 0 [0, 1, 5] L13b0) = K at hh ⊢
          simpa -implicitDefEqProofs [bd, L13b0, hi, hii, hg, hg1, hk, hw, hr, hQ] using hh
      · refine .inr ⟨c', ?_⟩
        generalize loopW (bd E0 (ev E0) loopW 0 [0, 1, 5] L13b0) = K at hh ⊢
        simpa -implicitDefEqProofs [bd, L13b0, hi, hii, hg, hg1, hk, hw, hr, hQ] using hh
theorem sz_keys (l : List K) (hl : l.length ≤ 9223372036854775807) (hz : ∀ q ∈ l, q.2.2.2.size ≤ 9223372036854775807) (c : Int) (h0 : 0 ≤ c) (h1 : c ≤ 1048576) : ∃ r : Int, ev E0 13 [.lst 4 (l.map kb), i64 c] [] = some (i64 r, []) ∧ (r < 0 ∨ (0 ≤ r ∧ l.length ≤ 1048576 ∧ ∀ q ∈ l, q.2.2.2.size ≤ 1048576)) := by
  have hw : IntKind.i64.wrap (c - (l.length : Int)) = c - (l.length : Int) := wr64 (by omega) (by omega)
  by_cases h : c - (l.length : Int) < 0
  · refine ⟨-1, ?_, .inl (by omega)⟩
    rw [e13]
    unfold runF
    simp -implicitDefEqProofs [L13, hw, h]
  · have hlp := szk_loop l (by omega) hz l 0 (c - (l.length : Int)) rfl (by omega) (by omega)
    rw [c0] at hlp
    rcases hlp with ⟨c', g0, g1, g2, hh⟩ | ⟨c', hh⟩
    · refine ⟨c', ?_, .inr ⟨g0, by omega, g2⟩⟩
      rw [e13]
      unfold runF
      simp -implicitDefEqProofs [L13, hw, h, hh]
    · refine ⟨-1, ?_, .inl (by omega)⟩
      rw [e13]
      unfold runF
      simp -implicitDefEqProofs [L13, hw, h, hh]
theorem to_kb (q : K) : ev E0 10 [kb q] [] = some (kb q, []) := to_key q.1 q.2.1 q.2.2.1 q.2.2.2
theorem copy_keys_loop (ms : List K) (hm : ms.length ≤ 140737488355328) : ∀ (t : List K) (i : Nat), ms.drop i = t →
    packX 0 [3] (loopW (bd E0 (ev E0) loopW 0 [0, 3, 4] L15b0) ⟨[(0, .lst 4 (ms.map kb)), (3, .sl 0 0 ms.length), (4, i64 i)], [some ⟨32, 4, 1, false, (ms.take i).map kb ++ List.replicate t.length (.agg [i64 0, i64 0, i64 0, .v (.string ⟨#[]⟩)])⟩]⟩) = some (.ext 0, ⟨[(3, .sl 0 0 ms.length)], [some ⟨32, 4, 1, false, ms.map kb⟩]⟩) := by
  intro t
  induction t with
  | nil =>
    intro i h
    have hi := not_drop h
    have ht : ms.take i = ms := List.take_of_length_le (by omega)
    rw [ht, List.length_nil, List.replicate_zero, List.append_nil, loopW_eq]
    generalize loopW (bd E0 (ev E0) loopW 0 [0, 3, 4] L15b0) = K
    simp -implicitDefEqProofs [bd, L15b0, hi]
  | cons c t ih =>
    intro i h
    obtain ⟨hi, hx, hd, hmem⟩ := at_drop h
    have hih := ih (i + 1) hd
    rw [List.length_cons, List.replicate_succ]
    generalize List.replicate t.length (AV.agg [i64 0, i64 0, i64 0, .v (.string ⟨#[]⟩)]) = r at hih ⊢
    have e1 : ms.take (i + 1) = ms.take i ++ [c] := by rw [List.take_succ_eq_append_getElem hi, hx]
    rw [cs1, e1] at hih
    have hw : IntKind.i64.wrap ((i : Int) + 1) = (i : Int) + 1 := wr64 (by omega) (by omega)
    have hj := to_kb c
    rw [loopW_eq]
    generalize loopW (bd E0 (ev E0) loopW 0 [0, 3, 4] L15b0) = K at hih ⊢
    have hg : (List.take i (List.map kb ms) ++ .agg [i64 0, i64 0, i64 0, .v (.string ⟨#[]⟩)] :: r)[i]? = some (.agg [i64 0, i64 0, i64 0, .v (.string ⟨#[]⟩)]) := app_get (by simp; omega)
    have hst : (List.take i (List.map kb ms) ++ .agg [i64 0, i64 0, i64 0, .v (.string ⟨#[]⟩)] :: r).set i (kb c) = List.take i (List.map kb ms) ++ kb c :: r := app_set (by simp; omega)
    rw [List.map_append, List.append_assoc, List.map_take] at hih
    unfold kb at *
    simpa -implicitDefEqProofs [bd, L15b0, hi, hx, hw, hg, hst, hj] using hih
theorem copy_keys (ms : List K) (hm : ms.length ≤ 1099511627776) : ev E0 15 [.lst 4 (ms.map kb)] [] = some (.sl 0 0 ms.length, [some ⟨32, 4, 1, false, ms.map kb⟩]) := by
  rw [e15]
  unfold runF
  have hl := copy_keys_loop ms (by omega) ms 0 rfl
  rw [c0, List.take_zero, List.map_nil, List.nil_append] at hl
  have h1 : (ms.length : Int) * 40 ≤ 140737488355328 := by omega
  have h2 : (ms.length : Int) ≤ 140737488355328 := by omega
  simp -implicitDefEqProofs [L15, hl, h1, h2]
theorem eq_kb (q : K) : ev E0 35 [kb q, kb q] [] = some (bl true, []) := by
  rw [e35]
  unfold runF kb
  simp -implicitDefEqProofs [L35]
theorem eq_keys_loop (l : List K) (hm : l.length ≤ 140737488355328) : ∀ (t : List K) (i : Nat), l.drop i = t →
    packX 0 [4] (loopW (bd E0 (ev E0) loopW 0 [0, 1, 5] L17b0) ⟨[(0, .lst 4 (l.map kb)), (1, .lst 4 (l.map kb)), (5, i64 i)], []⟩) = some (.ext 0, ⟨[], []⟩) := by
  intro t
  induction t with
  | nil =>
    intro i h
    have hi := not_drop h
    rw [loopW_eq]
    generalize loopW (bd E0 (ev E0) loopW 0 [0, 1, 5] L17b0) = K
    simp -implicitDefEqProofs [bd, L17b0, hi]
  | cons x t ih =>
    intro i h
    obtain ⟨hi, hx, hd, hmem⟩ := at_drop h
    have hih := ih (i + 1) hd
    rw [cs1] at hih
    have hw : IntKind.i64.wrap ((i : Int) + 1) = (i : Int) + 1 := wr64 (by omega) (by omega)
    have he := eq_kb x
    rw [loopW_eq]
    generalize loopW (bd E0 (ev E0) loopW 0 [0, 1, 5] L17b0) = K at hih ⊢
    unfold kb at *
    simpa -implicitDefEqProofs [bd, L17b0, hi, hx, hw, he] using hih
theorem eq_keys (l : List K) (hm : l.length ≤ 140737488355328) : ev E0 17 [.lst 4 (l.map kb), .lst 4 (l.map kb)] [] = some (bl true, []) := by
  rw [e17]
  unfold runF
  have hl := eq_keys_loop l hm l 0 rfl
  rw [c0] at hl
  simp -implicitDefEqProofs [L17, hl]
-- ---------------------------------------------------------------- DoKeys
structure KR where
  a : ByteArray
  b : ByteArray
  n : Int
  i : Nat
  stop : Bool
/-- The station behind keys, how many were made, whether one was not possible. -/
def dks : ByteArray → ByteArray → Int → Nat → List K → KR
  | a, b, n, i, [] => ⟨a, b, n, i, false⟩
  | a, b, n, i, q :: t => match dk a b n q.1 q.2.1 q.2.2.1 q.2.2.2 with
    | none => ⟨a, b, n, i, true⟩
    | some (a', b') => dks a' b' (n + 1) (i + 1) t
theorem dk_ok {a b : ByteArray} {n k x y : Int} {m a' b' : ByteArray} (h : dk a b n k x y m = some (a', b')) : okSt a' b' (n + 1) = true := by
  unfold dk at h
  split at h
  · cases h
  · split at h
    · rename_i hc
      cases h
      exact hc.2
    · cases h
theorem dks_ok : ∀ (t : List K) (a b : ByteArray) (n : Int) (i : Nat), okSt a b n = true → okSt (dks a b n i t).a (dks a b n i t).b (dks a b n i t).n = true
  | [], a, b, n, i, h => h
  | q :: t, a, b, n, i, h => by
    rw [dks]
    cases hd : dk a b n q.1 q.2.1 q.2.2.1 q.2.2.2 with
    | none => exact h
    | some p => exact dks_ok t p.1 p.2 (n + 1) (i + 1) (dk_ok hd)
theorem keysS_loop (l : List K) (hl : l.length ≤ 1048576) (hz : ∀ q ∈ l, q.2.2.2.size ≤ 1048576) : ∀ (t : List K) (i : Nat) (a b : ByteArray) (n : Int), l.drop i = t → okSt a b n = true →
    packX 0 [1, 4, 5, 6, 7] (loopW (bd E0 (ev E0) loopW 0 [1, 4, 7, 8] L14b0) ⟨[(1, .lst 4 (l.map kb)), (4, .ptr 0 0 0), (7, .ptr 1 0 0), (8, i64 i)], [some (sBl ⟨#[]⟩ ⟨#[]⟩ 0), some (sBl a b n)]⟩) =
      if (dks a b n i t).stop = true then some (.ret, ⟨[(1, .lst 4 (l.map kb)), (4, .ptr 0 0 0), (5, i64 (dks a b n i t).i), (6, bl true), (7, .ptr 1 0 0)], [some (sBl (dks a b n i t).a (dks a b n i t).b (dks a b n i t).n), some (sBl (dks a b n i t).a (dks a b n i t).b (dks a b n i t).n)]⟩)
      else some (.ext 0, ⟨[(1, .lst 4 (l.map kb)), (4, .ptr 0 0 0), (7, .ptr 1 0 0)], [some (sBl ⟨#[]⟩ ⟨#[]⟩ 0), some (sBl (dks a b n i t).a (dks a b n i t).b (dks a b n i t).n)]⟩) := by
  intro t
  induction t with
  | nil =>
    intro i a b n h hs
    have hi := not_drop h
    have hii : ¬ (i : Int) < (l.length : Int) := by omega
    have hQ : (l.map kb).length = l.length := List.length_map _
    rw [dks, if_neg (show ¬ (false = true) by decide), loopW_eq]
    unfold sBl
    generalize loopW (bd E0 (ev E0) loopW 0 [1, 4, 7, 8] L14b0) = K
    simp -implicitDefEqProofs [bd, L14b0, hi, hii]
  | cons q t ih =>
    intro i a b n h hs
    obtain ⟨hi, hx, hd, hmem⟩ := at_drop h
    have hii : (i : Int) < (l.length : Int) := by omega
    have hw : IntKind.i64.wrap ((i : Int) + 1) = (i : Int) + 1 := wr64 (by omega) (by omega)
    have hk := do_s a b n q.1 q.2.1 q.2.2.1 q.2.2.2 (by have := hz q hmem; omega) hs
    have hg : ∀ h, (l.map kb)[i]'h = .agg [i64 q.1, i64 q.2.1, i64 q.2.2.1, st q.2.2.2] := fun h => by rw [List.getElem_map, hx]; rfl
    have hg1 : (l.map kb)[i]? = some (.agg [i64 q.1, i64 q.2.1, i64 q.2.2.1, st q.2.2.2]) := by rw [List.getElem?_eq_getElem (by simpa using hi), hg]
    have hfr := free_kb l
    have hQ : (l.map kb).length = l.length := List.length_map _
    rw [dks]
    cases hdk : dk a b n q.1 q.2.1 q.2.2.1 q.2.2.2 with
    | none =>
      rw [hdk] at hk
      simp only
      rw [if_pos trivial, loopW_eq]
      clear ih
      unfold dkV sA kA sBl at *
      generalize l.map kb = Q at *
      generalize loopW (bd E0 (ev E0) loopW 0 [1, 4, 7, 8] L14b0) = K
      simp -implicitDefEqProofs [bd, L14b0, hi, hii, hg, hg1, hk, hfr, hQ]
    | some p =>
      obtain ⟨a', b'⟩ := p
      rw [hdk] at hk
      have hih := ih (i + 1) a' b' (n + 1) hd (dk_ok hdk)
      rw [cs1] at hih
      simp only
      generalize dks a' b' (n + 1) (i + 1) t = R at *
      rw [loopW_eq]
      clear ih
      unfold dkV sA kA sBl at *
      generalize l.map kb = Q at *
      generalize loopW (bd E0 (ev E0) loopW 0 [1, 4, 7, 8] L14b0) = K at hih ⊢
      simpa -implicitDefEqProofs [bd, L14b0, hi, hii, hg, hg1, hk, hw, hfr, hQ] using hih
theorem keysI_loop (l : List K) (hl : l.length ≤ 1048576) (hz : ∀ q ∈ l, q.2.2.2.size ≤ 1048576) : ∀ (t : List K) (i : Nat) (a b : ByteArray) (n : Int), l.drop i = t → okSt a b n = true →
    packX 0 [1, 2, 4, 5, 6] (loopW (bd E0 (ev E0) loopW 0 [1, 2, 4, 15, 16, 17] L16b0) ⟨[(1, .lst 4 (l.map kb)), (2, .ptr 0 0 0), (4, .ptr 1 0 0), (15, .lst 4 (l.map kb)), (16, i64 l.length), (17, i64 i)], [some (sBl a b n), some (sBl ⟨#[]⟩ ⟨#[]⟩ 0)]⟩) =
      if (dks a b n i t).stop = true then some (.ret, ⟨[(1, .lst 4 (l.map kb)), (2, .ptr 0 0 0), (4, .ptr 1 0 0), (5, i64 (dks a b n i t).i), (6, bl true)], [some (sBl (dks a b n i t).a (dks a b n i t).b (dks a b n i t).n), some (sBl (dks a b n i t).a (dks a b n i t).b (dks a b n i t).n)]⟩)
      else some (.ext 0, ⟨[(1, .lst 4 (l.map kb)), (2, .ptr 0 0 0), (4, .ptr 1 0 0)], [some (sBl (dks a b n i t).a (dks a b n i t).b (dks a b n i t).n), some (sBl ⟨#[]⟩ ⟨#[]⟩ 0)]⟩) := by
  intro t
  induction t with
  | nil =>
    intro i a b n h hs
    have hi := not_drop h
    have hii : ¬ (i : Int) < (l.length : Int) := by omega
    have hQ : (l.map kb).length = l.length := List.length_map _
    rw [dks, if_neg (show ¬ (false = true) by decide), loopW_eq]
    unfold sBl
    generalize loopW (bd E0 (ev E0) loopW 0 [1, 2, 4, 15, 16, 17] L16b0) = K
    simp -implicitDefEqProofs [bd, L16b0, hi, hii]
  | cons q t ih =>
    intro i a b n h hs
    obtain ⟨hi, hx, hd, hmem⟩ := at_drop h
    have hii : (i : Int) < (l.length : Int) := by omega
    have hw : IntKind.i64.wrap ((i : Int) + 1) = (i : Int) + 1 := wr64 (by omega) (by omega)
    obtain ⟨_, z1, z2, _, _⟩ := okSt_small hs
    have hk := key_i a b n q.1 q.2.1 q.2.2.1 q.2.2.2 (by omega) (by omega) (by have := hz q hmem; omega)
    rw [if_pos hs] at hk
    have hg : ∀ h, (l.map kb)[i]'h = .agg [i64 q.1, i64 q.2.1, i64 q.2.2.1, st q.2.2.2] := fun h => by rw [List.getElem_map, hx]; rfl
    have hg1 : (l.map kb)[i]? = some (.agg [i64 q.1, i64 q.2.1, i64 q.2.2.1, st q.2.2.2]) := by rw [List.getElem?_eq_getElem (by simpa using hi), hg]
    have hfr := free_kb l
    have hQ : (l.map kb).length = l.length := List.length_map _
    rw [dks]
    cases hdk : dk a b n q.1 q.2.1 q.2.2.1 q.2.2.2 with
    | none =>
      rw [hdk] at hk
      simp only
      rw [if_pos trivial, loopW_eq]
      clear ih
      unfold dkV sA kA sBl at *
      generalize l.map kb = Q at *
      generalize loopW (bd E0 (ev E0) loopW 0 [1, 2, 4, 15, 16, 17] L16b0) = K
      simp -implicitDefEqProofs [bd, L16b0, hi, hii, hg, hg1, hk, hfr, hQ]
    | some p =>
      obtain ⟨a', b'⟩ := p
      rw [hdk] at hk
      have hih := ih (i + 1) a' b' (n + 1) hd (dk_ok hdk)
      rw [cs1] at hih
      simp only
      generalize dks a' b' (n + 1) (i + 1) t = R at *
      rw [loopW_eq]
      clear ih
      unfold dkV sA kA sBl at *
      generalize l.map kb = Q at *
      generalize loopW (bd E0 (ev E0) loopW 0 [1, 2, 4, 15, 16, 17] L16b0) = K at hih ⊢
      simpa -implicitDefEqProofs [bd, L16b0, hi, hii, hg, hg1, hk, hw, hfr, hQ] using hih
end Go.Proofs.YtjagdiilcphhfaaGreatDoor.Ev
