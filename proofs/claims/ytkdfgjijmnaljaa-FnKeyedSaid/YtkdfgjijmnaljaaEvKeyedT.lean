/- What the calls of the law on traces answer, told by themselves. -/
import Derived.Test.YtkdfgjijmnaljaaEvKeyedL
set_option linter.unusedVariables false
set_option linter.unusedSimpArgs false
namespace Go.Proofs.Ytkdfgjijmnaljaa.Ev
open Ky Dr
def val (b : Bool) (l : List Int) : AV := .tup [.lst 1 (i64s (if b = true then l else [])), bl b]
theorem i64s_nil : i64s [] = [] := rfl

theorem two_spec_FillShort (l : List Int) (n : Int) (hl : l.length ≤ 140737488355328) : ev E1 7 [.lst 1 (i64s l), i64 n] [] = some (val (okTr l && okLen n && okTr (fillT n l)) (fillT n l), []) := by
  have h := fillS l hl n
  have e1 := i64s_take (fillT n l)
  have e2 := i64s_len (fillT n l)
  rw [g7]
  unfold val
  cases hc : (okTr l && okLen n) with
  | false =>
    rw [hc, if_neg (by simp)] at h
    exact frz_to rfl h (by simp) (by simp [i64s_nil])
  | true =>
    rw [hc, if_pos rfl] at h
    unfold mdS at h
    generalize fillT n l = R at *
    cases hr : okTr R with
    | false =>
      rw [hr, if_neg (by simp)] at h
      exact frz_to rfl h (by simp) (by simp [i64s_nil])
    | true =>
      rw [hr, if_pos rfl] at h
      exact frz_to rfl h (by simp) (by simp)

theorem two_spec_DropShort (l : List Int) (n : Int) (hl : l.length ≤ 140737488355328) : ev E1 9 [.lst 1 (i64s l), i64 n] [] = some (val (okTr l && okLen n && okTr (dr n [] 0 false l)) (dr n [] 0 false l), []) := by
  have h := dropS l hl n
  have e1 := i64s_take (dr n [] 0 false l)
  have e2 := i64s_len (dr n [] 0 false l)
  rw [g9]
  unfold val
  cases hc : (okTr l && okLen n) with
  | false =>
    rw [hc, if_neg (by simp)] at h
    exact frz_to rfl h (by simp) (by simp [i64s_nil])
  | true =>
    rw [hc, if_pos rfl] at h
    unfold mdS at h
    generalize dr n [] 0 false l = R at *
    cases hr : okTr R with
    | false =>
      rw [hr, if_neg (by simp)] at h
      exact frz_to rfl h (by simp) (by simp [i64s_nil])
    | true =>
      rw [hr, if_pos rfl] at h
      exact frz_to rfl h (by simp) (by simp)

theorem two_spec_JoinTraces (a : List Int) (u : Int) (b : List Int) (ha : a.length ≤ 140737488355328) (hb : b.length ≤ 140737488355328) : ev E1 15 [.lst 1 (i64s a), i64 u, .lst 1 (i64s b)] [] = some (val (okTr a && (okTr b && okLen u) && okTr (a ++ u :: b)) (a ++ u :: b), []) := by
  have h := joinS a b ha hb u
  have e1 := i64s_take (a ++ u :: b)
  have e2 := i64s_len (a ++ u :: b)
  rw [g15]
  unfold val
  cases hc : (okTr a && (okTr b && okLen u)) with
  | false =>
    rw [hc, if_neg (by simp)] at h
    exact frz_to rfl h (by simp) (by simp [i64s_nil])
  | true =>
    rw [hc, if_pos rfl] at h
    unfold mdS at h
    generalize a ++ u :: b = R at *
    cases hr : okTr R with
    | false =>
      rw [hr, if_neg (by simp)] at h
      exact frz_to rfl h (by simp) (by simp [i64s_nil])
    | true =>
      rw [hr, if_pos rfl] at h
      exact frz_to rfl h (by simp) (by simp)

theorem two_spec_StretchTrace (l : List Int) (p : Int) (q : Int) (hl : l.length ≤ 140737488355328) : ev E1 18 [.lst 1 (i64s l), i64 p, i64 q] [] = some (val (okTr l && (okUnit p && okUnit q) && okTr (l.map (strF p q))) (l.map (strF p q)), []) := by
  have h := stretchS l hl p q
  have e1 := i64s_take (l.map (strF p q))
  have e2 := i64s_len (l.map (strF p q))
  rw [g18]
  unfold val
  cases hc : (okTr l && (okUnit p && okUnit q)) with
  | false =>
    rw [hc, if_neg (by simp)] at h
    exact frz_to rfl h (by simp) (by simp [i64s_nil])
  | true =>
    rw [hc, if_pos rfl] at h
    unfold mdS at h
    generalize l.map (strF p q) = R at *
    cases hr : okTr R with
    | false =>
      rw [hr, if_neg (by simp)] at h
      exact frz_to rfl h (by simp) (by simp [i64s_nil])
    | true =>
      rw [hr, if_pos rfl] at h
      exact frz_to rfl h (by simp) (by simp)

theorem two_spec_BackTrace (l : List Int) (hl : l.length ≤ 140737488355328) : ev E1 11 [.lst 1 (i64s l)] [] = some (val (okTr l) l.reverse, []) := by
  have h := backS l hl
  have e1 := i64s_take l.reverse
  have e2 := i64s_len l.reverse
  rw [g11]
  unfold val
  generalize l.reverse = R at *
  cases hr : okTr l with
  | false =>
    rw [hr, if_neg (by simp)] at h
    exact frz_to rfl h (by simp) (by simp [i64s_nil])
  | true =>
    rw [hr, if_pos rfl] at h
    unfold bi at h
    exact frz_to rfl h (by simp) (by simp [e1, e2])

theorem two_impl_FillShort (l : List Int) (n : Int) (hl : l.length ≤ 140737488355328) : ev E1 6 [.lst 1 (i64s l), i64 n] [] = some (val (okTr l && okLen n && okTr (fillT n l)) (fillT n l), []) := by
  have h := fillI l hl n
  have e1 := i64s_take (fillT n l)
  have e2 := i64s_len (fillT n l)
  rw [g6]
  unfold val
  cases hc : (okTr l && okLen n) with
  | false =>
    rw [hc, if_neg (by simp)] at h
    exact frz_to rfl h (by simp) (by simp [i64s_nil])
  | true =>
    rw [hc, if_pos rfl] at h
    unfold mdI at h
    generalize fillT n l = R at *
    cases hr : okTr R with
    | false =>
      rw [hr, if_neg (by simp)] at h
      exact frz_to rfl h (by simp) (by simp [i64s_nil])
    | true =>
      rw [hr, if_pos rfl] at h
      exact frz_to rfl h (by simp) (by simp)

theorem two_impl_DropShort (l : List Int) (n : Int) (hl : l.length ≤ 140737488355328) : ev E1 8 [.lst 1 (i64s l), i64 n] [] = some (val (okTr l && okLen n && okTr (dr n [] 0 false l)) (dr n [] 0 false l), []) := by
  have h := dropI l hl n
  have e1 := i64s_take (dr n [] 0 false l)
  have e2 := i64s_len (dr n [] 0 false l)
  rw [g8]
  unfold val
  cases hc : (okTr l && okLen n) with
  | false =>
    rw [hc, if_neg (by simp)] at h
    exact frz_to rfl h (by simp) (by simp [i64s_nil])
  | true =>
    rw [hc, if_pos rfl] at h
    unfold mdI at h
    generalize dr n [] 0 false l = R at *
    cases hr : okTr R with
    | false =>
      rw [hr, if_neg (by simp)] at h
      exact frz_to rfl h (by simp) (by simp [i64s_nil])
    | true =>
      rw [hr, if_pos rfl] at h
      exact frz_to rfl h (by simp) (by simp)

theorem two_impl_JoinTraces (a : List Int) (u : Int) (b : List Int) (ha : a.length ≤ 140737488355328) (hb : b.length ≤ 140737488355328) : ev E1 14 [.lst 1 (i64s a), i64 u, .lst 1 (i64s b)] [] = some (val (okTr a && (okTr b && okLen u) && okTr (a ++ u :: b)) (a ++ u :: b), []) := by
  have h := joinI a b ha hb u
  have e1 := i64s_take (a ++ u :: b)
  have e2 := i64s_len (a ++ u :: b)
  rw [g14]
  unfold val
  cases hc : (okTr a && (okTr b && okLen u)) with
  | false =>
    rw [hc, if_neg (by simp)] at h
    exact frz_to rfl h (by simp) (by simp [i64s_nil])
  | true =>
    rw [hc, if_pos rfl] at h
    unfold mdI at h
    generalize a ++ u :: b = R at *
    cases hr : okTr R with
    | false =>
      rw [hr, if_neg (by simp)] at h
      exact frz_to rfl h (by simp) (by simp [i64s_nil])
    | true =>
      rw [hr, if_pos rfl] at h
      exact frz_to rfl h (by simp) (by simp)

theorem two_impl_StretchTrace (l : List Int) (p : Int) (q : Int) (hl : l.length ≤ 140737488355328) : ev E1 17 [.lst 1 (i64s l), i64 p, i64 q] [] = some (val (okTr l && (okUnit p && okUnit q) && okTr (l.map (strF p q))) (l.map (strF p q)), []) := by
  have h := stretchI l hl p q
  have e1 := i64s_take (l.map (strF p q))
  have e2 := i64s_len (l.map (strF p q))
  rw [g17]
  unfold val
  cases hc : (okTr l && (okUnit p && okUnit q)) with
  | false =>
    rw [hc, if_neg (by simp)] at h
    exact frz_to rfl h (by simp) (by simp [i64s_nil])
  | true =>
    rw [hc, if_pos rfl] at h
    unfold mdI at h
    generalize l.map (strF p q) = R at *
    cases hr : okTr R with
    | false =>
      rw [hr, if_neg (by simp)] at h
      exact frz_to rfl h (by simp) (by simp [i64s_nil])
    | true =>
      rw [hr, if_pos rfl] at h
      exact frz_to rfl h (by simp) (by simp)

theorem two_impl_BackTrace (l : List Int) (hl : l.length ≤ 140737488355328) : ev E1 10 [.lst 1 (i64s l)] [] = some (val (okTr l) l.reverse, []) := by
  have h := backI l hl
  have e1 := i64s_take l.reverse
  have e2 := i64s_len l.reverse
  rw [g10]
  unfold val
  generalize l.reverse = R at *
  cases hr : okTr l with
  | false =>
    rw [hr, if_neg (by simp)] at h
    exact frz_to rfl h (by simp) (by simp [i64s_nil])
  | true =>
    rw [hr, if_pos rfl] at h
    unfold bi at h
    exact frz_to rfl h (by simp) (by simp [e1, e2])

theorem two_vints (a : List Int) (ha : a.length ≤ 140737488355328) : ev E1 19 [.lst 1 (i64s a), .lst 1 (i64s a)] [] = some (bl true, []) := by
  rw [g19]
  have h := vints a a ha ha
  rw [decide_eq_true rfl] at h
  exact frz_to rfl h (by simp) (by simp)
theorem two_vbig (x : List Int) : ev E1 4 [.lst 1 (cd x)] [] = some (bl (decide (65536 < (x.length : Int))), []) := by
  rw [g4]
  exact frz_to rfl (vbig x) (by simp) (by simp)
theorem two_vcut (x : List Int) (hx : okC x) (hl : x.length ≤ 65536) (n : Nat) (hn : n ≤ 200) : ev E1 13 [.lst 1 (cd x), i64 n] [] = some (.lst 1 (cd (cutD x n)), []) := by
  rw [g13]
  have e1 : List.take (cutD x n).length (cd (cutD x n)) = cd (cutD x n) := List.take_of_length_le (by rw [cd_len]; exact Nat.le_refl _)
  exact frz_to rfl (vcut x hx hl n hn) (by simp) (by simp [e1, cd_len])
theorem two_drawFill (x : List Int) (hx : okC x) : ∃ (l : List Int) (n : Int), l.length ≤ 200 ∧ ev E1 5 [.lst 1 (cd x)] [] = some (.tup [.lst 1 (i64s l), i64 n], []) := by
  obtain ⟨l, n, h1, e⟩ := drawFill x hx
  have e1 := i64s_take l
  have e2 := i64s_len l
  change _ = some (_, [some (bi l)]) at e
  unfold bi at e
  rw [g5]
  exact ⟨l, n, h1, frz_to rfl e (by simp) (by simp [e1, e2])⟩
theorem two_drawJoin (x : List Int) (hx : okC x) : ∃ (l : List Int) (n : Int) (l2 : List Int), l.length ≤ 200 ∧ l2.length ≤ 200 ∧ ev E1 12 [.lst 1 (cd x)] [] = some (.tup [.lst 1 (i64s l), i64 n, .lst 1 (i64s l2)], []) := by
  obtain ⟨l, n, l2, h1, h2, e⟩ := drawJoin x hx
  have e1 := i64s_take l
  have e2 := i64s_len l
  have e3 := i64s_take l2
  have e4 := i64s_len l2
  change _ = some (_, [some (bi l), some (bi l2)]) at e
  unfold bi at e
  rw [g12]
  exact ⟨l, n, l2, h1, h2, frz_to rfl e (by simp) (by simp [e1, e2, e3, e4])⟩
theorem two_drawStretch (x : List Int) (hx : okC x) : ∃ (l : List Int) (p q : Int), l.length ≤ 200 ∧ ev E1 16 [.lst 1 (cd x)] [] = some (.tup [.lst 1 (i64s l), i64 p, i64 q], []) := by
  obtain ⟨l, p, q, h1, e⟩ := drawStretch x hx
  have e1 := i64s_take l
  have e2 := i64s_len l
  change _ = some (_, [some (bi l)]) at e
  unfold bi at e
  rw [g16]
  exact ⟨l, p, q, h1, frz_to rfl e (by simp) (by simp [e1, e2])⟩
theorem okTr_rev (l : List Int) : okTr l.reverse = okTr l := by unfold okTr; rw [List.all_reverse, List.length_reverse]
end Go.Proofs.Ytkdfgjijmnaljaa.Ev
