/- What the calls of the law on stations answer, told by themselves. -/
import Derived.Test.YtjagdiilcphhfaaGreatDoorEvKe8
import Derived.Test.YtjagdiilcphhfaaGreatDoorEvDrawS7
import Derived.Test.YtjagdiilcphhfaaGreatDoorEvE1
set_option linter.unusedVariables false
set_option linter.unusedSimpArgs false
namespace Go.Proofs.YtjagdiilcphhfaaGreatDoor.Ev
open Dr
def tA (ms : List ByteArray) : AV := .agg [.lst 1 (ms.map st)]
def smallT (ms : List ByteArray) : Prop := ms.length ≤ 1000 ∧ ∀ t ∈ ms, t.size ≤ 1000
theorem two_vcut (x : List Int) (hx : okC x) (hl : x.length ≤ 65536) (n : Nat) (hn : n ≤ 200) : ev E1 23 [.lst 1 (cd x), i64 n] [] = some (.lst 1 (cd (cutD x n)), []) := by
  rw [g23]
  have e1 : List.take (cutD x n).length (cd (cutD x n)) = cd (cutD x n) := List.take_of_length_le (by rw [cd_len]; exact Nat.le_refl _)
  exact frz_to rfl (vcut x hx hl n hn) (by simp) (by simp [e1, cd_len])
theorem two_big (x : List Int) : ev E1 18 [.lst 1 (cd x)] [] = some (bl (decide (65536 < (x.length : Int))), []) := by
  rw [g18]
  exact frz_to rfl (vbig x) (by simp) (by simp)
theorem vT_loop (l : List ByteArray) (hl : l.length ≤ 140737488355328) : ∀ (t : List ByteArray) (i : Nat), l.drop i = t →
    packX 0 [4] (loopW (bd E0 (ev E0) loopW 0 [0, 1, 5] L45b0) ⟨[(0, .lst 1 (l.map st)), (1, .lst 1 (l.map st)), (5, i64 i)], []⟩) = some (.ext 0, ⟨[], []⟩) := by
  intro t
  induction t with
  | nil =>
    intro i h
    have hi := not_drop h
    have hii : ¬ (i : Int) < (l.length : Int) := by omega
    rw [loopW_eq]
    generalize loopW (bd E0 (ev E0) loopW 0 [0, 1, 5] L45b0) = K
    simp -implicitDefEqProofs [bd, L45b0, hi, hii]
  | cons c t ih =>
    intro i h
    obtain ⟨hi, hx, hd, hmem⟩ := at_drop h
    have hih := ih (i + 1) hd
    have hii : (i : Int) < (l.length : Int) := by omega
    have g1 : (l.map st)[i]? = some (st c) := by rw [List.getElem?_map, List.getElem?_eq_getElem hi, hx]; rfl
    have g2 : ∀ h, (l.map st)[i]'h = st c := fun h => (List.getElem?_eq_some_iff.1 g1).2
    have hw : IntKind.i64.wrap ((i : Int) + 1) = (i : Int) + 1 := wr64 (by omega) (by omega)
    rw [cs1] at hih
    rw [loopW_eq]
    clear ih
    generalize loopW (bd E0 (ev E0) loopW 0 [0, 1, 5] L45b0) = K at hih ⊢
    simpa -implicitDefEqProofs [bd, L45b0, hi, hii, g1, g2, hw] using hih
theorem vTab (l : List ByteArray) (hl : l.length ≤ 140737488355328) : ev E0 27 [.agg [.lst 1 (l.map st)], .agg [.lst 1 (l.map st)]] [] = some (bl true, []) := by
  have h := vT_loop l hl l 0 rfl
  rw [c0] at h
  have h2 : ev E0 45 [.lst 1 (l.map st), .lst 1 (l.map st)] [] = some (bl true, []) := by
    rw [e45]
    unfold runF
    simp -implicitDefEqProofs [L45, h]
  rw [e27]
  unfold runF
  simp -implicitDefEqProofs [L27, h2]
theorem two_vTab (l : List ByteArray) (hl : l.length ≤ 1000000) : ev E1 27 [tA l, tA l] [] = some (bl true, []) := by
  rw [g27]
  exact frz_to rfl (vTab l (by omega)) (by simp [tA]) (by simp)
theorem two_dNew (x : List Int) (hx : okC x) : ∃ ms, smallT ms ∧ ev E1 19 [.lst 1 (cd x)] [] = some (tA ms, []) := by
  obtain ⟨T, H, hT, e⟩ := drawNew x hx
  rcases hT with ⟨rfl, rfl⟩ | ⟨ms, z1, z2, rfl, rfl⟩
  · refine ⟨[], ⟨by simp, by simp⟩, ?_⟩
    rw [g19]
    exact frz_to rfl e (by simp) (by simp [tA])
  · refine ⟨ms, ⟨by omega, fun t ht => by have := z2 t ht; omega⟩, ?_⟩
    have e2 : List.take ms.length (ms.map st) = ms.map st := List.take_of_length_le (by simp)
    unfold tr at e
    rw [g19]
    exact frz_to rfl e (by simp) (by simp [tA, e2])
theorem two_dKey (x : List Int) (hx : okC x) : ∃ (c d : ByteArray) (n k u v : Int) (m : ByteArray), c.size ≤ 2000000 ∧ d.size ≤ 30 ∧ -10 ≤ n ∧ n ≤ 1001 ∧ m.size ≤ 20 ∧ ev E1 22 [.lst 1 (cd x)] [] = some (.tup [sA c d n, kA k u v m], []) := by
  obtain ⟨c, d, n, k, u, v, m, z1, z2, z3, z4, z5, e⟩ := drawKey x hx
  refine ⟨c, d, n, k, u, v, m, z1, z2, z3, z4, z5, ?_⟩
  rw [g22]
  exact frz_to rfl e (by simp) (by simp [sA, kA])
theorem two_dKeys (x : List Int) (hx : okC x) : ∃ (c d : ByteArray) (n : Int) (l : List K), c.size ≤ 2000000 ∧ d.size ≤ 30 ∧ -10 ≤ n ∧ n ≤ 1001 ∧ l.length ≤ 100 ∧ (∀ q ∈ l, q.2.2.2.size ≤ 20) ∧ ev E1 24 [.lst 1 (cd x)] [] = some (.tup [sA c d n, .lst 4 (l.map kb)], []) := by
  obtain ⟨c, d, n, l, z1, z2, z3, z4, z5, z6, e⟩ := drawKeys x hx
  refine ⟨c, d, n, l, z1, z2, z3, z4, z5, z6, ?_⟩
  have e2 : List.take l.length (l.map kb) = l.map kb := List.take_of_length_le (by simp)
  unfold kR at e
  rw [g24]
  exact frz_to rfl e (by simp) (by simp [sA, e2])
theorem newSt_i (ms : List ByteArray) (hm : ms.length ≤ 1000) (hz : ∀ t ∈ ms, t.size ≤ 1000) : ev E0 20 [.agg [.lst 1 (ms.map st)]] [] = some (.tup [.agg [st (if okTable ms = true then textL 0 ⟨#[]⟩ ms else ⟨#[]⟩), st ⟨#[]⟩, i64 0], bl (okTable ms)], []) := by
  have hL := lensT_le ms hz
  have hL2 : ms.length * (1000 + 1) ≤ 1000 * 1001 := Nat.mul_le_mul_right 1001 hm
  have t3 := tableText ms (by omega) (fun x hx => by have := hz x hx; omega) (by omega)
  rw [e20]
  unfold runF
  cases h1 : okTable ms with
  | false =>
    rw [h1, if_neg (show ¬ (false = true) by decide)] at t3
    rw [if_neg (show ¬ (false = true) by decide)]
    simp -implicitDefEqProofs [L20, t3]
  | true =>
    rw [h1, if_pos (show true = true from rfl)] at t3
    rw [if_pos (show true = true from rfl)]
    simp -implicitDefEqProofs [L20, t3]
theorem two_new_i (ms : List ByteArray) (h : smallT ms) : ev E1 20 [tA ms] [] = some (.tup [sA (if okTable ms = true then textL 0 ⟨#[]⟩ ms else ⟨#[]⟩) ⟨#[]⟩ 0, bl (okTable ms)], []) := by
  rw [g20]
  exact frz_to rfl (newSt_i ms h.1 h.2) (by simp [tA]) (by simp [sA])
theorem two_new_s (ms : List ByteArray) (h : smallT ms) : ev E1 21 [tA ms] [] = some (.tup [sA (if okTable ms = true then textL 0 ⟨#[]⟩ ms else ⟨#[]⟩) ⟨#[]⟩ 0, bl (okTable ms)], []) := by
  rw [g21]
  exact frz_to rfl (newSt_s ms h.1 h.2) (by simp [tA]) (by simp [sA])
/-- A station as an answer: its three parts, none's. -/
def oA (n : Int) : Option (ByteArray × ByteArray) → ByteArray × ByteArray × Int
  | some (a, b) => (a, b, n + 1)
  | none => (⟨#[]⟩, ⟨#[]⟩, 0)
theorem dkV_eq (n : Int) (o : Option (ByteArray × ByteArray)) : dkV n o = .tup [sA (oA n o).1 (oA n o).2.1 (oA n o).2.2, bl o.isSome] := by cases o <;> rfl
theorem two_key_i (a b : ByteArray) (n k x y : Int) (m : ByteArray) (ha : a.size ≤ 1073741824) (hb : b.size ≤ 1073741824) (hm : m.size ≤ 1073741824) : ev E1 11 [sA a b n, kA k x y m] [] = some (dkV n (if okSt a b n = true then dk a b n k x y m else none), []) := by
  have e := key_i a b n k x y m ha hb hm
  generalize (if okSt a b n = true then dk a b n k x y m else none) = R at *
  rw [g11]
  rw [dkV_eq] at e ⊢
  exact frz_to rfl e (by simp [sA, kA]) (by simp [sA])
theorem two_key_s (a b : ByteArray) (n k x y : Int) (m : ByteArray) (ha : a.size ≤ 1073741824) (hb : b.size ≤ 1073741824) (hm : m.size ≤ 1073741824) : ev E1 8 [sA a b n, kA k x y m] [] = some (dkV n (if okSt a b n = true then dk a b n k x y m else none), []) := by
  have e := key_s a b n k x y m ha hb hm
  generalize (if okSt a b n = true then dk a b n k x y m else none) = R at *
  rw [g8]
  rw [dkV_eq] at e ⊢
  exact frz_to rfl e (by simp [sA, kA]) (by simp [sA])
theorem ksV_tup (a b : ByteArray) (n : Int) (l : List K) : ∃ (p q : ByteArray) (c : Int) (i : Int) (ok : Bool), ksV a b n l = .tup [sA p q c, i64 i, bl ok] ∧ (ok = true → okSt p q c = true) := by
  unfold ksV
  cases hs : okSt a b n with
  | false => exact ⟨_, _, _, _, _, rfl, fun h => by cases h⟩
  | true => exact ⟨_, _, _, _, _, rfl, fun _ => dks_ok l a b n 0 hs⟩
theorem two_keys (a b : ByteArray) (n : Int) (ha : a.size ≤ 1073741824) (hb : b.size ≤ 1073741824) (l : List K) (hl : l.length ≤ 100) (hz : ∀ q ∈ l, q.2.2.2.size ≤ 20) : ∃ (p q : ByteArray) (c : Int) (i : Int) (ok : Bool), (ok = true → okSt p q c = true) ∧
    ev E1 16 [sA a b n, .lst 4 (l.map kb)] [] = some (.tup [sA p q c, i64 i, bl ok], []) ∧ ev E1 14 [sA a b n, .lst 4 (l.map kb)] [] = some (.tup [sA p q c, i64 i, bl ok], []) := by
  have e1 := keys_i a b n ha hb l (by omega) (fun q hq => by have := hz q hq; omega)
  have e2 := keys_s a b n ha hb l (by omega) (fun q hq => by have := hz q hq; omega)
  obtain ⟨p, q, c, i, ok, h1, h2⟩ := ksV_tup a b n l
  rw [h1] at e1 e2
  refine ⟨p, q, c, i, ok, h2, ?_, ?_⟩
  · rw [g16]
    exact frz_to rfl e1 (by simp [sA]) (by simp [sA])
  · rw [g14]
    exact frz_to rfl e2 (by simp [sA]) (by simp [sA])
theorem two_tab_i (a b : ByteArray) (n : Int) (ha : a.size ≤ 1073741824) (hb : b.size ≤ 1073741824) : ev E1 25 [sA a b n] [] = some (.tup [tA (if okSt a b n = true then partsB 44 a else []), bl (okSt a b n)], []) := by
  have e2 : List.take (partsB 44 a).length ((partsB 44 a).map st) = (partsB 44 a).map st := List.take_of_length_le (by simp)
  rw [g25]
  cases ho : okSt a b n with
  | false => exact frz_to rfl (tableOf_no a b n ha hb ho).2 (by simp [sA]) (by simp [tA])
  | true =>
    have e := (tableOf_yes a b n ha hb ho).2
    exact frz_to rfl e (by simp [sA]) (by simp [tA, e2])
theorem two_tab_s (a b : ByteArray) (n : Int) (ha : a.size ≤ 1073741824) (hb : b.size ≤ 1073741824) : ev E1 26 [sA a b n] [] = some (.tup [tA (if okSt a b n = true then partsB 44 a else []), bl (okSt a b n)], []) := by
  have e2 : List.take (partsB 44 a).length ((partsB 44 a).map st) = (partsB 44 a).map st := List.take_of_length_le (by simp)
  rw [g26]
  cases ho : okSt a b n with
  | false => exact frz_to rfl (tableOf_no a b n ha hb ho).1 (by simp [sA]) (by simp [tA])
  | true =>
    have e := (tableOf_yes a b n ha hb ho).1
    exact frz_to rfl e (by simp [sA]) (by simp [tA, e2])
theorem two_is_i (a b : ByteArray) (n : Int) (ha : a.size ≤ 1073741824) (hb : b.size ≤ 1073741824) : ev E1 28 [sA a b n] [] = some (bl (okSt a b n), []) := by
  rw [g28]
  exact frz_to rfl (isStation a b n ha hb).2 (by simp [sA]) (by simp)
theorem two_is_s (a b : ByteArray) (n : Int) (ha : a.size ≤ 1073741824) (hb : b.size ≤ 1073741824) : ev E1 29 [sA a b n] [] = some (bl (okSt a b n), []) := by
  rw [g29]
  exact frz_to rfl (isStation a b n ha hb).1 (by simp [sA]) (by simp)
end Go.Proofs.YtjagdiilcphhfaaGreatDoor.Ev
