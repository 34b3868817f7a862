/- What the calls of the law on tables answer, told by themselves. -/
import Derived.Test.YtckfbfgfjlgmeaaGreatDoorEvTa5
import Derived.Test.YtckfbfgfjlgmeaaGreatDoorEvDrawA8
import Derived.Test.YtckfbfgfjlgmeaaGreatDoorEvE1
set_option linter.unusedVariables false
set_option linter.unusedSimpArgs false
namespace Go.Proofs.YtckfbfgfjlgmeaaGreatDoor.Ev
open Dr
def tA (ms : List ByteArray) : AV := .agg [.lst 1 (ms.map st)]
def smallT (ms : List ByteArray) : Prop := ms.length ≤ 1000 ∧ ∀ t ∈ ms, t.size ≤ 1000
theorem small_ok {ms : List ByteArray} (h : okTable ms = true) : smallT ms := by
  obtain ⟨h1, h2, _⟩ := (tab_iff ms).1 h
  exact ⟨by omega, fun t ht => by
    have := (marks_def.1 (h2 t ht)).2.2
    rw [B_len] at this
    omega⟩
theorem rbig (x : List Int) : ev E0 6 [.lst 1 (cd x)] [] = some (bl (decide (65536 < (x.length : Int))), []) := by
  rw [e6]
  unfold runF
  simp -implicitDefEqProofs [L6, cd_len]
theorem two_rbig (x : List Int) : ev E1 6 [.lst 1 (cd x)] [] = some (bl (decide (65536 < (x.length : Int))), []) := by
  rw [g6]
  exact frz_to rfl (rbig x) (by simp) (by simp)
theorem rT_loop (l : List ByteArray) (hl : l.length ≤ 140737488355328) : ∀ (t : List ByteArray) (i : Nat), l.drop i = t →
    packX 0 [4] (loopW (bd E0 (ev E0) loopW 0 [0, 1, 5] L99b0) ⟨[(0, .lst 1 (l.map st)), (1, .lst 1 (l.map st)), (5, i64 i)], []⟩) = some (.ext 0, ⟨[], []⟩) := by
  intro t
  induction t with
  | nil =>
    intro i h
    have hi := not_drop h
    have hii : ¬ (i : Int) < (l.length : Int) := by omega
    rw [loopW_eq]
    generalize loopW (bd E0 (ev E0) loopW 0 [0, 1, 5] L99b0) = K
    simp -implicitDefEqProofs [bd, L99b0, hi, hii]
  | cons c t ih =>
    intro i h
    obtain ⟨hi, hx, hd, hmem⟩ := at_drop h
    have hih := ih (i + 1) hd
    have hii : (i : Int) < (l.length : Int) := by omega
    have g1 : (l.map st)[i]? = some (st c) := by rw [List.getElem?_map, List.getElem?_eq_getElem hi, hx]; rfl
    have g2 : ∀ h, (l.map st)[i]'h = st c := fun h => (List.getElem?_eq_some_iff.1 g1).2
    have hw : IntKind.i64.wrap ((i : Int) + 1) = (i : Int) + 1 := wr64 (by omega) (by omega)
    rw [cs1] at hih
    rw [loopW_eq]
    clear ih
    generalize loopW (bd E0 (ev E0) loopW 0 [0, 1, 5] L99b0) = K at hih ⊢
    simpa -implicitDefEqProofs [bd, L99b0, hi, hii, g1, g2, hw] using hih
theorem rTab (l : List ByteArray) (hl : l.length ≤ 140737488355328) : ev E0 33 [.agg [.lst 1 (l.map st)], .agg [.lst 1 (l.map st)]] [] = some (bl true, []) := by
  have h := rT_loop l hl l 0 rfl
  rw [c0] at h
  have h2 : ev E0 99 [.lst 1 (l.map st), .lst 1 (l.map st)] [] = some (bl true, []) := by
    rw [e99]
    unfold runF
    simp -implicitDefEqProofs [L99, h]
  rw [e33]
  unfold runF
  simp -implicitDefEqProofs [L33, h2]
theorem two_rTab (l : List ByteArray) (hl : l.length ≤ 1000000) : ev E1 33 [tA l, tA l] [] = some (bl true, []) := by
  rw [g33]
  exact frz_to rfl (rTab l (by omega)) (by simp [tA]) (by simp)
theorem two_dOpp (x : List Int) (hx : okC x) : ∃ ms, smallT ms ∧ ev E1 29 [.lst 1 (cd x)] [] = some (tA ms, []) := by
  obtain ⟨T, H, hT, e⟩ := drawOpp x hx
  rcases hT with ⟨rfl, rfl⟩ | ⟨ms, z1, z2, rfl, rfl⟩
  · refine ⟨[], ⟨by simp, by simp⟩, ?_⟩
    rw [g29]
    exact frz_to rfl e (by simp) (by simp [tA])
  · refine ⟨ms, ⟨by omega, fun t ht => by have := z2 t ht; omega⟩, ?_⟩
    have e2 : List.take ms.length (ms.map st) = ms.map st := List.take_of_length_le (by simp)
    unfold tr at e
    rw [g29]
    exact frz_to rfl e (by simp) (by simp [tA, e2])
theorem two_dMk (x : List Int) (hx : okC x) : ∃ (ms : List ByteArray) (k : Int), smallT ms ∧ ev E1 36 [.lst 1 (cd x)] [] = some (.tup [tA ms, i64 k], []) := by
  obtain ⟨T, H, k, hT, -, -, e⟩ := drawMarks x hx
  rcases hT with ⟨rfl, rfl⟩ | ⟨ms, z1, z2, rfl, rfl⟩
  · refine ⟨[], k, ⟨by simp, by simp⟩, ?_⟩
    rw [g36]
    exact frz_to rfl e (by simp) (by simp [tA])
  · refine ⟨ms, k, ⟨by omega, fun t ht => by have := z2 t ht; omega⟩, ?_⟩
    have e2 : List.take ms.length (ms.map st) = ms.map st := List.take_of_length_le (by simp)
    unfold tr at e
    rw [g36]
    exact frz_to rfl e (by simp) (by simp [tA, e2])
theorem two_dLt (x : List Int) (hx : okC x) : ∃ (ms : List ByteArray) (k : ByteArray), smallT ms ∧ k.size ≤ 20 ∧ ev E1 39 [.lst 1 (cd x)] [] = some (.tup [tA ms, st k], []) := by
  obtain ⟨T, H, k, hT, hk, e⟩ := drawLetter x hx
  rcases hT with ⟨rfl, rfl⟩ | ⟨ms, z1, z2, rfl, rfl⟩
  · refine ⟨[], k, ⟨by simp, by simp⟩, hk, ?_⟩
    rw [g39]
    exact frz_to rfl e (by simp) (by simp [tA])
  · refine ⟨ms, k, ⟨by omega, fun t ht => by have := z2 t ht; omega⟩, hk, ?_⟩
    have e2 : List.take ms.length (ms.map st) = ms.map st := List.take_of_length_le (by simp)
    unfold tr at e
    rw [g39]
    exact frz_to rfl e (by simp) (by simp [tA, e2])
theorem two_dSw (x : List Int) (hx : okC x) : ∃ (ms : List ByteArray) (k q : Int), smallT ms ∧ ev E1 44 [.lst 1 (cd x)] [] = some (.tup [tA ms, i64 k, i64 q], []) := by
  obtain ⟨T, H, k, q, hT, e⟩ := drawSwap x hx
  rcases hT with ⟨rfl, rfl⟩ | ⟨ms, z1, z2, rfl, rfl⟩
  · refine ⟨[], k, q, ⟨by simp, by simp⟩, ?_⟩
    rw [g44]
    exact frz_to rfl e (by simp) (by simp [tA])
  · refine ⟨ms, k, q, ⟨by omega, fun t ht => by have := z2 t ht; omega⟩, ?_⟩
    have e2 : List.take ms.length (ms.map st) = ms.map st := List.take_of_length_le (by simp)
    unfold tr at e
    rw [g44]
    exact frz_to rfl e (by simp) (by simp [tA, e2])
theorem two_dTm (x : List Int) (hx : okC x) : ∃ t : ByteArray, t.size ≤ 20 ∧ ev E1 47 [.lst 1 (cd x)] [] = some (st t, []) := by
  obtain ⟨t, h, e⟩ := drawTime x hx
  refine ⟨t, h, ?_⟩
  rw [g47]
  exact frz_to rfl e (by simp) (by simp)
theorem two_dPt (x : List Int) (hx : okC x) : ∃ t : ByteArray, t.size ≤ 1000 ∧ ev E1 52 [.lst 1 (cd x)] [] = some (st t, []) := by
  obtain ⟨t, h, e⟩ := drawParse x hx
  refine ⟨t, h, ?_⟩
  rw [g52]
  exact frz_to rfl e (by simp) (by simp)
theorem two_opt_i (ms : List ByteArray) (h : smallT ms) : ev E1 30 [tA ms] [] = some (.tup [tA (if okTable ms = true then ms.map oppB else []), bl (okTable ms)], []) := by
  have e := opt_i ms (by have := h.1; omega) (fun m hm => by have := h.2 m hm; omega)
  have e2 : List.take ms.length ((ms.map oppB).map st) = (ms.map oppB).map st := List.take_of_length_le (by simp)
  unfold tA
  rw [g30]
  cases ho : okTable ms with
  | false =>
    rw [ho, if_neg (by decide)] at e
    exact frz_to rfl e (by simp) (by simp)
  | true =>
    rw [ho, if_pos rfl] at e
    unfold sB at e
    exact frz_to rfl e (by simp) (by simp [e2])
theorem two_opt_s (ms : List ByteArray) (h : smallT ms) : ev E1 31 [tA ms] [] = some (.tup [tA (if okTable ms = true then ms.map oppB else []), bl (okTable ms)], []) := by
  have e := opt_s ms (by have := h.1; omega) (fun m hm => by have := h.2 m hm; omega)
  have e2 : List.take ms.length ((ms.map oppB).map st) = (ms.map oppB).map st := List.take_of_length_le (by simp)
  unfold tA
  rw [g31]
  cases ho : okTable ms with
  | false =>
    rw [ho, if_neg (by decide)] at e
    exact frz_to rfl e (by simp) (by simp)
  | true =>
    rw [ho, if_pos rfl] at e
    unfold sB at e
    exact frz_to rfl e (by simp) (by simp [e2])
theorem two_bkt_i (ms : List ByteArray) (h : smallT ms) : ev E1 34 [tA ms] [] = some (.tup [tA (if okTable ms = true then ms.map revB else []), bl (okTable ms)], []) := by
  have e := bkt_i ms (by have := h.1; omega) (fun m hm => by have := h.2 m hm; omega)
  have e2 : List.take ms.length ((ms.map revB).map st) = (ms.map revB).map st := List.take_of_length_le (by simp)
  unfold tA
  rw [g34]
  cases ho : okTable ms with
  | false =>
    rw [ho, if_neg (by decide)] at e
    exact frz_to rfl e (by simp) (by simp)
  | true =>
    rw [ho, if_pos rfl] at e
    unfold sB at e
    exact frz_to rfl e (by simp) (by simp [e2])
theorem two_bkt_s (ms : List ByteArray) (h : smallT ms) : ev E1 35 [tA ms] [] = some (.tup [tA (if okTable ms = true then ms.map revB else []), bl (okTable ms)], []) := by
  have e := bkt_s ms (by have := h.1; omega) (fun m hm => by have := h.2 m hm; omega)
  have e2 : List.take ms.length ((ms.map revB).map st) = (ms.map revB).map st := List.take_of_length_le (by simp)
  unfold tA
  rw [g35]
  cases ho : okTable ms with
  | false =>
    rw [ho, if_neg (by decide)] at e
    exact frz_to rfl e (by simp) (by simp)
  | true =>
    rw [ho, if_pos rfl] at e
    unfold sB at e
    exact frz_to rfl e (by simp) (by simp [e2])
theorem two_isT (ms : List ByteArray) (h : smallT ms) : ev E1 32 [tA ms] [] = some (bl (okTable ms), []) := by
  have h1 := table_i ms (by have := h.1; omega) (fun m hm => by have := h.2 m hm; omega)
  have e : ev E0 32 [tA ms] [] = some (bl (okTable ms), []) := by
    unfold tA
    rw [e32]
    unfold runF
    simp -implicitDefEqProofs [L32, h1]
  rw [g32]
  exact frz_to rfl e (by simp [tA]) (by simp)
theorem two_marksOf_i (ms : List ByteArray) (h : smallT ms) (k : Int) : ev E1 37 [tA ms, i64 k] [] = some (.tup [st (if okMk ms k = true then mk_ ms k.toNat else ⟨#[]⟩), bl (okMk ms k)], []) := by
  have e := marksOf_i ms (by have := h.1; omega) (fun m hm => by have := h.2 m hm; omega) k
  rw [g37]
  exact frz_to rfl e (by simp [tA]) (by simp)
theorem two_marksOf_s (ms : List ByteArray) (h : smallT ms) (k : Int) : ev E1 38 [tA ms, i64 k] [] = some (.tup [st (if okMk ms k = true then mk_ ms k.toNat else ⟨#[]⟩), bl (okMk ms k)], []) := by
  have e := marksOf_s ms (by have := h.1; omega) (fun m hm => by have := h.2 m hm; omega) k
  rw [g38]
  exact frz_to rfl e (by simp [tA]) (by simp)
theorem two_letterOf_i (ms : List ByteArray) (h : smallT ms) (k : ByteArray) (hk : k.size ≤ 1000) : ev E1 40 [tA ms, st k] [] = some (ltOf ms k, []) := by
  have e := letterOf_i ms (by have := h.1; omega) (fun m hm => by have := h.2 m hm; omega) k (by omega)
  rw [g40]
  exact frz_to rfl e (by simp [tA]) (by simp [ltOf])
theorem two_letterOf_s (ms : List ByteArray) (h : smallT ms) (k : ByteArray) (hk : k.size ≤ 1000) : ev E1 41 [tA ms, st k] [] = some (ltOf ms k, []) := by
  have e := letterOf_s ms (by have := h.1; omega) (fun m hm => by have := h.2 m hm; omega) k (by omega)
  rw [g41]
  exact frz_to rfl e (by simp [tA]) (by simp [ltOf])
theorem two_add_i (ms : List ByteArray) (h : smallT ms) (k : ByteArray) (hk : k.size ≤ 1000) : ev E1 42 [tA ms, st k] [] = some (.tup [tA (if addOk ms k = true then ms ++ [k] else []), bl (addOk ms k)], []) := by
  have e := add_i ms h.1 h.2 k hk
  have e2 : List.take (ms.length + 1) ((ms ++ [k]).map st) = (ms ++ [k]).map st := List.take_of_length_le (by simp [swT_len])
  have e3 : ((ms ++ [k]).map st).length = (ms.length + 1) := by simp [swT_len]
  unfold tA
  rw [g42]
  cases ho : addOk ms k with
  | false =>
    rw [ho, if_neg (by decide)] at e
    exact frz_to rfl e (by simp) (by simp)
  | true =>
    rw [ho, if_pos rfl] at e
    unfold sB at e
    rw [if_pos rfl]
    generalize (ms ++ [k]).map st = R at *
    exact frz_to rfl e (by simp) (by simp [e2, e3])
theorem two_add_s (ms : List ByteArray) (h : smallT ms) (k : ByteArray) (hk : k.size ≤ 1000) : ev E1 43 [tA ms, st k] [] = some (.tup [tA (if addOk ms k = true then ms ++ [k] else []), bl (addOk ms k)], []) := by
  have e := add_s ms h.1 h.2 k hk
  have e2 : List.take (ms.length + 1) ((ms ++ [k]).map st) = (ms ++ [k]).map st := List.take_of_length_le (by simp [swT_len])
  have e3 : ((ms ++ [k]).map st).length = (ms.length + 1) := by simp [swT_len]
  unfold tA
  rw [g43]
  cases ho : addOk ms k with
  | false =>
    rw [ho, if_neg (by decide)] at e
    exact frz_to rfl e (by simp) (by simp)
  | true =>
    rw [ho, if_pos rfl] at e
    unfold sB at e
    rw [if_pos rfl]
    generalize (ms ++ [k]).map st = R at *
    exact frz_to rfl e (by simp) (by simp [e2, e3])
theorem two_swap_i (ms : List ByteArray) (h : smallT ms) (k q : Int) : ev E1 45 [tA ms, i64 k, i64 q] [] = some (.tup [tA (if swOk ms k q = true then swT ms k.toNat q.toNat else []), bl (swOk ms k q)], []) := by
  have e := swap_i ms h.1 h.2 k q
  have e2 : List.take ms.length ((swT ms k.toNat q.toNat).map st) = (swT ms k.toNat q.toNat).map st := List.take_of_length_le (by simp [swT_len])
  have e3 : ((swT ms k.toNat q.toNat).map st).length = ms.length := by simp [swT_len]
  unfold tA
  rw [g45]
  cases ho : swOk ms k q with
  | false =>
    rw [ho, if_neg (by decide)] at e
    exact frz_to rfl e (by simp) (by simp)
  | true =>
    rw [ho, if_pos rfl] at e
    unfold sB at e
    rw [if_pos rfl]
    generalize (swT ms k.toNat q.toNat).map st = R at *
    exact frz_to rfl e (by simp) (by simp [e2, e3])
theorem two_swap_s (ms : List ByteArray) (h : smallT ms) (k q : Int) : ev E1 46 [tA ms, i64 k, i64 q] [] = some (.tup [tA (if swOk ms k q = true then swT ms k.toNat q.toNat else []), bl (swOk ms k q)], []) := by
  have e := swap_s ms h.1 h.2 k q
  have e2 : List.take ms.length ((swT ms k.toNat q.toNat).map st) = (swT ms k.toNat q.toNat).map st := List.take_of_length_le (by simp [swT_len])
  have e3 : ((swT ms k.toNat q.toNat).map st).length = ms.length := by simp [swT_len]
  unfold tA
  rw [g46]
  cases ho : swOk ms k q with
  | false =>
    rw [ho, if_neg (by decide)] at e
    exact frz_to rfl e (by simp) (by simp)
  | true =>
    rw [ho, if_pos rfl] at e
    unfold sB at e
    rw [if_pos rfl]
    generalize (swT ms k.toNat q.toNat).map st = R at *
    exact frz_to rfl e (by simp) (by simp [e2, e3])
theorem two_time_i (k : ByteArray) (hk : k.size ≤ 1000) : ev E1 48 [st k] [] = some (tmOf k, []) := by
  rw [g48]
  exact frz_to rfl (timeOfM_i k (by omega)) (by simp) (by simp [tmOf])
theorem two_time_s (k : ByteArray) (hk : k.size ≤ 1000) : ev E1 49 [st k] [] = some (tmOf k, []) := by
  rw [g49]
  exact frz_to rfl (timeOfM_s k (by omega)) (by simp) (by simp [tmOf])
theorem textS (ms : List ByteArray) (h : smallT ms) : ev E0 51 [tA ms] [] = some (.tup [st (if okTable ms = true then textL 0 ⟨#[]⟩ ms else ⟨#[]⟩), bl (okTable ms)], []) := by
  have hL := lensT_le ms h.2
  have hL2 : ms.length * (1000 + 1) ≤ 1000 * 1001 := Nat.mul_le_mul_right 1001 h.1
  have tt := table_s ms (by have := h.1; omega) (fun m hm => by have := h.2 m hm; omega)
  have tx := text_s ms (by have := h.1; omega) (by omega)
  unfold tA
  rw [e51]
  unfold runF
  cases ho : okTable ms with
  | false => rw [ho] at tt; simp -implicitDefEqProofs [L51, tt]
  | true => rw [ho] at tt; simp -implicitDefEqProofs [L51, tt, tx]
theorem two_text_s (ms : List ByteArray) (h : smallT ms) : ev E1 51 [tA ms] [] = some (.tup [st (if okTable ms = true then textL 0 ⟨#[]⟩ ms else ⟨#[]⟩), bl (okTable ms)], []) := by
  rw [g51]
  exact frz_to rfl (textS ms h) (by simp [tA]) (by simp)
theorem two_text_i (ms : List ByteArray) (h : smallT ms) : ev E1 50 [tA ms] [] = some (.tup [st (if okTable ms = true then textL 0 ⟨#[]⟩ ms else ⟨#[]⟩), bl (okTable ms)], []) := by
  have hL := lensT_le ms h.2
  have hL2 : ms.length * (1000 + 1) ≤ 1000 * 1001 := Nat.mul_le_mul_right 1001 h.1
  have e := tableText ms (by have := h.1; omega) (fun m hm => by have := h.2 m hm; omega) (by omega)
  rw [g50]
  exact frz_to rfl e (by simp [tA]) (by simp)
theorem two_parse_i (s : ByteArray) (hs : s.size ≤ 100000) : ev E1 53 [st s] [] = some (.tup [tA (if okCode s = true then partsB 44 s else []), bl (okCode s)], []) := by
  obtain ⟨h1, h2⟩ := parse_i s (by omega)
  have e2 : List.take (partsB 44 s).length ((partsB 44 s).map st) = (partsB 44 s).map st := List.take_of_length_le (by simp)
  unfold tA
  rw [g53]
  cases ho : okCode s with
  | false =>
    have e := h1 ho
    exact frz_to rfl e (by simp) (by simp)
  | true =>
    have e := h2 ho
    exact frz_to rfl e (by simp) (by simp [e2])
theorem two_parse_s (s : ByteArray) (hs : s.size ≤ 100000) : ev E1 54 [st s] [] = some (.tup [tA (if okCode s = true then partsB 44 s else []), bl (okCode s)], []) := by
  obtain ⟨h1, h2⟩ := parse_s s (by omega)
  have e2 : List.take (partsB 44 s).length ((partsB 44 s).map st) = (partsB 44 s).map st := List.take_of_length_le (by simp)
  unfold tA
  rw [g54]
  cases ho : okCode s with
  | false =>
    have e := h1 ho
    exact frz_to rfl e (by simp) (by simp)
  | true =>
    have e := h2 ho
    exact frz_to rfl e (by simp) (by simp [e2])
end Go.Proofs.YtckfbfgfjlgmeaaGreatDoor.Ev
