/- What the calls of the law on signals answer, told by themselves. -/
import Derived.Test.YtckfbfgfjlgmeaaGreatDoorEvME
import Derived.Test.YtckfbfgfjlgmeaaGreatDoorEvDrawA9
import Derived.Test.YtckfbfgfjlgmeaaGreatDoorEvE1
set_option linter.unusedVariables false
set_option linter.unusedSimpArgs false
namespace Go.Proofs.YtckfbfgfjlgmeaaGreatDoor.Ev
open Dr
def tA (ms : List ByteArray) : AV := .agg [.lst 1 (ms.map st)]
def smallT (ms : List ByteArray) : Prop := ms.length ≤ 1000 ∧ ∀ t ∈ ms, t.size ≤ 1000
theorem rbig (x : List Int) : ev E0 6 [.lst 1 (cd x)] [] = some (bl (decide (65536 < (x.length : Int))), []) := by
  rw [e6]
  unfold runF
  simp -implicitDefEqProofs [L6, cd_len]
theorem two_rbig (x : List Int) : ev E1 6 [.lst 1 (cd x)] [] = some (bl (decide (65536 < (x.length : Int))), []) := by
  rw [g6]
  exact frz_to rfl (rbig x) (by simp) (by simp)
theorem two_dEnc (x : List Int) (hx : okC x) : ∃ (ms : List ByteArray) (k : ByteArray), smallT ms ∧ k.size ≤ 30 ∧ ev E1 55 [.lst 1 (cd x)] [] = some (.tup [tA ms, st k], []) := by
  obtain ⟨T, H, k, hT, hk, e⟩ := drawEnc x hx
  rcases hT with ⟨rfl, rfl⟩ | ⟨ms, z1, z2, rfl, rfl⟩
  · refine ⟨[], k, ⟨by simp, by simp⟩, hk, ?_⟩
    rw [g55]
    exact frz_to rfl e (by simp) (by simp [tA])
  · refine ⟨ms, k, ⟨by omega, fun t ht => by have := z2 t ht; omega⟩, hk, ?_⟩
    have e2 : List.take ms.length (ms.map st) = ms.map st := List.take_of_length_le (by simp)
    unfold tr at e
    rw [g55]
    exact frz_to rfl e (by simp) (by simp [tA, e2])
theorem two_dDec (x : List Int) (hx : okC x) : ∃ (ms : List ByteArray) (k : ByteArray), smallT ms ∧ k.size ≤ 300 ∧ ev E1 66 [.lst 1 (cd x)] [] = some (.tup [tA ms, st k], []) := by
  obtain ⟨T, H, k, hT, hk, e⟩ := drawDecode x hx
  rcases hT with ⟨rfl, rfl⟩ | ⟨ms, z1, z2, rfl, rfl⟩
  · refine ⟨[], k, ⟨by simp, by simp⟩, hk, ?_⟩
    rw [g66]
    exact frz_to rfl e (by simp) (by simp [tA])
  · refine ⟨ms, k, ⟨by omega, fun t ht => by have := z2 t ht; omega⟩, hk, ?_⟩
    have e2 : List.take ms.length (ms.map st) = ms.map st := List.take_of_length_le (by simp)
    unfold tr at e
    rw [g66]
    exact frz_to rfl e (by simp) (by simp [tA, e2])
theorem two_dTm (x : List Int) (hx : okC x) : ∃ t : ByteArray, t.size ≤ 300 ∧ ev E1 69 [.lst 1 (cd x)] [] = some (st t, []) := by
  obtain ⟨t, h, e⟩ := drawTmSig x hx
  refine ⟨t, h, ?_⟩
  rw [g69]
  exact frz_to rfl e (by simp) (by simp)
theorem two_enc_i (ms : List ByteArray) (h : smallT ms) (s : ByteArray) (hs : s.size ≤ 1000) : ev E1 56 [tA ms, st s] [] = some (.tup [st (if okTM ms s = true then enc ms s else ⟨#[]⟩), bl (okTM ms s)], []) := by
  rw [g56]
  exact frz_to rfl (encM_i ms h.1 h.2 s hs) (by simp [tA]) (by simp)
theorem two_enc_s (ms : List ByteArray) (h : smallT ms) (s : ByteArray) (hs : s.size ≤ 1000) : ev E1 57 [tA ms, st s] [] = some (.tup [st (if okTM ms s = true then enc ms s else ⟨#[]⟩), bl (okTM ms s)], []) := by
  rw [g57]
  exact frz_to rfl (encM_s ms h.1 h.2 s hs) (by simp [tA]) (by simp)
theorem two_is_i (ms : List ByteArray) (h : smallT ms) (s : ByteArray) (hs : s.size ≤ 1000) : ev E1 58 [tA ms, st s] [] = some (.tup [bl (okTM ms s), bl (okTable ms)], []) := by
  rw [g58]
  exact frz_to rfl (isM_i ms h.1 h.2 s hs) (by simp [tA]) (by simp)
theorem two_is_s (ms : List ByteArray) (h : smallT ms) (s : ByteArray) (hs : s.size ≤ 1000) : ev E1 59 [tA ms, st s] [] = some (.tup [bl (okTM ms s), bl (okTable ms)], []) := by
  rw [g59]
  exact frz_to rfl (isM_s ms h.1 h.2 s hs) (by simp [tA]) (by simp)
theorem two_tm_i (ms : List ByteArray) (h : smallT ms) (s : ByteArray) (hs : s.size ≤ 1000) : ev E1 60 [tA ms, st s] [] = some (.tup [i64 (if okTM ms s = true then sgT (enc ms s) else 0), bl (okTM ms s)], []) := by
  have e := timeMsg_i ms h.1 h.2 s hs
  rw [g60]
  unfold tmV at e
  cases ho : okTM ms s with
  | false => rw [ho, if_neg (by decide)] at e; exact frz_to rfl e (by simp [tA]) (by simp)
  | true => rw [ho, if_pos rfl] at e; exact frz_to rfl e (by simp [tA]) (by simp)
theorem two_tm_s (ms : List ByteArray) (h : smallT ms) (s : ByteArray) (hs : s.size ≤ 1000) : ev E1 61 [tA ms, st s] [] = some (.tup [i64 (if okTM ms s = true then sgT (enc ms s) else 0), bl (okTM ms s)], []) := by
  have e := timeMsg_s ms h.1 h.2 s hs
  rw [g61]
  unfold tmV at e
  cases ho : okTM ms s with
  | false => rw [ho, if_neg (by decide)] at e; exact frz_to rfl e (by simp [tA]) (by simp)
  | true => rw [ho, if_pos rfl] at e; exact frz_to rfl e (by simp [tA]) (by simp)
def cA (ms : List ByteArray) (s : ByteArray) : Int := if okTM ms s = true then (dots ms s : Int) else 0
def cB (ms : List ByteArray) (s : ByteArray) : Int := if okTM ms s = true then (dashs ms s : Int) else 0
theorem two_cm_i (ms : List ByteArray) (h : smallT ms) (s : ByteArray) (hs : s.size ≤ 1000) : ev E1 62 [tA ms, st s] [] = some (.tup [.agg [i64 (cA ms s), i64 (cB ms s)], bl (okTM ms s)], []) := by
  have e := cm_i ms h.1 h.2 s hs
  rw [g62]
  unfold cmV at e
  unfold cA cB
  cases ho : okTM ms s with
  | false => rw [ho, if_neg (by decide)] at e; exact frz_to rfl e (by simp [tA]) (by simp)
  | true => rw [ho, if_pos rfl] at e; exact frz_to rfl e (by simp [tA]) (by simp)
theorem two_cm_s (ms : List ByteArray) (h : smallT ms) (s : ByteArray) (hs : s.size ≤ 1000) : ev E1 63 [tA ms, st s] [] = some (.tup [.agg [i64 (cA ms s), i64 (cB ms s)], bl (okTM ms s)], []) := by
  have e := cm_s ms h.1 h.2 s hs
  rw [g63]
  unfold cmV at e
  unfold cA cB
  cases ho : okTM ms s with
  | false => rw [ho, if_neg (by decide)] at e; exact frz_to rfl e (by simp [tA]) (by simp)
  | true => rw [ho, if_pos rfl] at e; exact frz_to rfl e (by simp [tA]) (by simp)
theorem two_bare_i (ms : List ByteArray) (h : smallT ms) (s : ByteArray) (hs : s.size ≤ 1000) : ev E1 64 [tA ms, st s] [] = some (.tup [st (if okTM ms s = true then bareM ms s else ⟨#[]⟩), bl (okTM ms s)], []) := by
  rw [g64]
  exact frz_to rfl (bareOf_i ms h.1 h.2 s hs) (by simp [tA]) (by simp)
theorem two_bare_s (ms : List ByteArray) (h : smallT ms) (s : ByteArray) (hs : s.size ≤ 1000) : ev E1 65 [tA ms, st s] [] = some (.tup [st (if okTM ms s = true then bareM ms s else ⟨#[]⟩), bl (okTM ms s)], []) := by
  rw [g65]
  exact frz_to rfl (bareOf_s ms h.1 h.2 s hs) (by simp [tA]) (by simp)
theorem two_dec_i (ms : List ByteArray) (h : smallT ms) (s : ByteArray) (hs : s.size ≤ 1000) : ev E1 67 [tA ms, st s] [] = some (.tup [st (if okDS ms s = true then msgD ms (lw s) else ⟨#[]⟩), bl (okDS ms s)], []) := by
  rw [g67]
  exact frz_to rfl (decSig_i ms h.1 h.2 s hs) (by simp [tA]) (by simp [dcV])
theorem two_dec_s (ms : List ByteArray) (h : smallT ms) (s : ByteArray) (hs : s.size ≤ 1000) : ev E1 68 [tA ms, st s] [] = some (.tup [st (if okDS ms s = true then msgD ms (lw s) else ⟨#[]⟩), bl (okDS ms s)], []) := by
  rw [g68]
  exact frz_to rfl (decSig_s ms h.1 h.2 s hs) (by simp [tA]) (by simp [dcV])
theorem two_sg_i (s : ByteArray) (hs : s.size ≤ 1000) : ev E1 70 [st s] [] = some (.tup [i64 (if okSig s = true then sgT s else 0), bl (okSig s)], []) := by
  have e := timeSig_i s hs
  rw [g70]
  unfold tsV at e
  cases ho : okSig s with
  | false => rw [ho, if_neg (by decide)] at e; exact frz_to rfl e (by simp) (by simp)
  | true => rw [ho, if_pos rfl] at e; exact frz_to rfl e (by simp) (by simp)
theorem two_sg_s (s : ByteArray) (hs : s.size ≤ 1000) : ev E1 71 [st s] [] = some (.tup [i64 (if okSig s = true then sgT s else 0), bl (okSig s)], []) := by
  have e := timeSig_s s hs
  rw [g71]
  unfold tsV at e
  cases ho : okSig s with
  | false => rw [ho, if_neg (by decide)] at e; exact frz_to rfl e (by simp) (by simp)
  | true => rw [ho, if_pos rfl] at e; exact frz_to rfl e (by simp) (by simp)
theorem two_isSig (s : ByteArray) (hs : s.size ≤ 1000) : ev E1 72 [st s] [] = some (bl (okSig s), []) := by
  have h1 := isSignal_i s (by omega)
  have e : ev E0 72 [st s] [] = some (bl (okSig s), []) := by
    rw [e72]
    unfold runF
    simp -implicitDefEqProofs [L72, h1]
  rw [g72]
  exact frz_to rfl e (by simp) (by simp)
end Go.Proofs.YtckfbfgfjlgmeaaGreatDoor.Ev
