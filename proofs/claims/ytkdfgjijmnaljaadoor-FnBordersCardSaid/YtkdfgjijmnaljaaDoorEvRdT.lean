/- What the calls of the law on borders answer, told by themselves. -/
import Derived.Test.YtkdfgjijmnaljaaDoorEvRd7
import Derived.Test.YtkdfgjijmnaljaaDoorEvDrawB2
import Derived.Test.YtkdfgjijmnaljaaDoorEvE1
set_option linter.unusedVariables false
set_option linter.unusedSimpArgs false
namespace Go.Proofs.YtkdfgjijmnaljaaDoor.Ev
open Dr
def tA (ms : List ByteArray) : AV := .agg [.lst 1 (ms.map st)]
/-- Borders, or none where the table or the text is not valid. -/
def boV (ms : List ByteArray) (s : ByteArray) (all : Bool) : List Nat := if okRead ms s = true then bo ms s all (s.size + 1) else []
theorem two_bi (ms : List ByteArray) (hm : ms.length ≤ 1000) (hz : ∀ m ∈ ms, m.size ≤ 1000) (s : ByteArray) (hs : s.size ≤ 1000000) : ev E1 7 [tA ms, st s] [] = some (.tup [.lst 1 (ns (boV ms s false)), bl (okRead ms s)], []) := by
  have h := bordersOf_i ms hm hz s hs
  unfold isBo at h
  unfold boV
  rw [g7]
  by_cases hc : okRead ms s = true
  · rw [if_pos hc] at h ⊢
    rw [hc]
    have hl := ns_len (bo ms s false (s.size + 1))
    have ht : List.take (bo ms s false (s.size + 1)).length (ns (bo ms s false (s.size + 1))) = ns (bo ms s false (s.size + 1)) := List.take_of_length_le (by omega)
    unfold ib at h
    exact frz_to rfl h (by simp [tA]) (by simp [hl, ht])
  · have h' : okRead ms s = false := by simpa using hc
    rw [if_neg hc] at h ⊢
    rw [h']
    rcases h with h | h
    · exact frz_to rfl h (by simp [tA]) (by simp [ns])
    · unfold ib ns at h
      exact frz_to rfl h (by simp [tA]) (by simp [ns])
theorem two_bs (ms : List ByteArray) (hm : ms.length ≤ 1000) (hz : ∀ m ∈ ms, m.size ≤ 1000) (s : ByteArray) (hs : s.size ≤ 1000000) : ev E1 8 [tA ms, st s] [] = some (.tup [.lst 1 (ns (boV ms s false)), bl (okRead ms s)], []) := by
  have h := bordersOf_s ms hm hz s hs
  unfold isBo at h
  unfold boV
  rw [g8]
  by_cases hc : okRead ms s = true
  · rw [if_pos hc] at h ⊢
    rw [hc]
    have hl := ns_len (bo ms s false (s.size + 1))
    have ht : List.take (bo ms s false (s.size + 1)).length (ns (bo ms s false (s.size + 1))) = ns (bo ms s false (s.size + 1)) := List.take_of_length_le (by omega)
    unfold ib at h
    exact frz_to rfl h (by simp [tA]) (by simp [hl, ht])
  · have h' : okRead ms s = false := by simpa using hc
    rw [if_neg hc] at h ⊢
    rw [h']
    rcases h with h | h
    · exact frz_to rfl h (by simp [tA]) (by simp [ns])
    · unfold ib ns at h
      exact frz_to rfl h (by simp [tA]) (by simp [ns])
theorem two_ci (ms : List ByteArray) (hm : ms.length ≤ 1000) (hz : ∀ m ∈ ms, m.size ≤ 1000) (s : ByteArray) (hs : s.size ≤ 1000000) : ev E1 9 [tA ms, st s] [] = some (.tup [.lst 1 (ns (boV ms s true)), bl (okRead ms s)], []) := by
  have h := certain_i ms hm hz s hs
  unfold isBo at h
  unfold boV
  rw [g9]
  by_cases hc : okRead ms s = true
  · rw [if_pos hc] at h ⊢
    rw [hc]
    have hl := ns_len (bo ms s true (s.size + 1))
    have ht : List.take (bo ms s true (s.size + 1)).length (ns (bo ms s true (s.size + 1))) = ns (bo ms s true (s.size + 1)) := List.take_of_length_le (by omega)
    unfold ib at h
    exact frz_to rfl h (by simp [tA]) (by simp [hl, ht])
  · have h' : okRead ms s = false := by simpa using hc
    rw [if_neg hc] at h ⊢
    rw [h']
    rcases h with h | h
    · exact frz_to rfl h (by simp [tA]) (by simp [ns])
    · unfold ib ns at h
      exact frz_to rfl h (by simp [tA]) (by simp [ns])
theorem two_cs (ms : List ByteArray) (hm : ms.length ≤ 1000) (hz : ∀ m ∈ ms, m.size ≤ 1000) (s : ByteArray) (hs : s.size ≤ 1000000) : ev E1 10 [tA ms, st s] [] = some (.tup [.lst 1 (ns (boV ms s true)), bl (okRead ms s)], []) := by
  have h := certain_s ms hm hz s hs
  unfold isBo at h
  unfold boV
  rw [g10]
  by_cases hc : okRead ms s = true
  · rw [if_pos hc] at h ⊢
    rw [hc]
    have hl := ns_len (bo ms s true (s.size + 1))
    have ht : List.take (bo ms s true (s.size + 1)).length (ns (bo ms s true (s.size + 1))) = ns (bo ms s true (s.size + 1)) := List.take_of_length_le (by omega)
    unfold ib at h
    exact frz_to rfl h (by simp [tA]) (by simp [hl, ht])
  · have h' : okRead ms s = false := by simpa using hc
    rw [if_neg hc] at h ⊢
    rw [h']
    rcases h with h | h
    · exact frz_to rfl h (by simp [tA]) (by simp [ns])
    · unfold ib ns at h
      exact frz_to rfl h (by simp [tA]) (by simp [ns])
theorem two_count (ms : List ByteArray) (hm : ms.length ≤ 1000) (hz : ∀ m ∈ ms, m.size ≤ 1000) (s : ByteArray) (hs : s.size ≤ 1000000) : ev E1 12 [tA ms, st s] [] = some (.tup [i64 ((if okRead ms s = true then rds ms s else 0 : Nat) : Int), bl (okRead ms s)], []) := by
  rw [g12]
  exact frz_to rfl (count_i ms hm hz s hs) (by simp [tA]) (by simp)
theorem two_at (ms : List ByteArray) (hm : ms.length ≤ 1000) (hz : ∀ m ∈ ms, m.size ≤ 1000) (s : ByteArray) (hs : s.size ≤ 1000000) (h : okRead ms s = true) (k : Nat) (hk : k < rds ms s) : ∃ w : List Nat, (∀ i ∈ w, i < ms.length) ∧ flat ms w = B s ∧ w.length ≤ s.size ∧ ev E1 14 [tA ms, st s, i64 k] [] = some (.tup [st (ltx w), bl true], []) := by
  obtain ⟨w, h1, h2, _, h3, h4⟩ := (readingAt_i ms hm hz s hs k).1 ⟨h, by omega, by omega⟩
  refine ⟨w, h1, h2, h3, ?_⟩
  rw [g14]
  exact frz_to rfl h4 (by simp [tA]) (by simp)
theorem two_has (l : List Nat) (hl : l.length ≤ 140737488355328) (x : Nat) (h : x ∈ l) : ev E1 13 [.lst 1 (ns l), i64 x] [] = some (bl true, []) := by
  rw [g13]
  exact frz_to rfl (vhas l hl x h) (by simp) (by simp)
theorem two_ints (l : List Nat) (hl : l.length ≤ 140737488355328) : ev E1 11 [.lst 1 (ns l), .lst 1 (ns l)] [] = some (bl true, []) := by
  rw [g11]
  exact frz_to rfl (nints l hl) (by simp) (by simp)
theorem two_bare (ms : List ByteArray) (hm : ms.length ≤ 1000) (hz : ∀ m ∈ ms, m.size ≤ 1000) (ho : okTable ms = true) (w : List Nat) (hw : ∀ i ∈ w, i < ms.length) (hl : w.length ≤ 1000) : ev E1 15 [tA ms, st (ltx w)] [] = some (st (fb ms w), []) := by
  rw [g15]
  exact frz_to rfl (bareOf ms hm hz ho w hw hl) (by simp [tA]) (by simp)
theorem vbigR (x : List Int) : ev E0 5 [.lst 1 (cd x)] [] = some (bl (decide (65536 < (x.length : Int))), []) := by
  rw [e5]
  unfold runF
  simp -implicitDefEqProofs [L5, cd_len]
theorem two_big (x : List Int) : ev E1 5 [.lst 1 (cd x)] [] = some (bl (decide (65536 < (x.length : Int))), []) := by
  rw [g5]
  exact frz_to rfl (vbigR x) (by simp) (by simp)
theorem two_drawB (x : List Int) (hx : okC x) : ∃ (m : ByteArray) (ms : List ByteArray), m.size ≤ 100 ∧ ms.length ≤ 30 ∧ (∀ t ∈ ms, t.size ≤ 20) ∧ ev E1 6 [.lst 1 (cd x)] [] = some (.tup [tA ms, st m], []) := by
  obtain ⟨m, zm, e⟩ := drawB x hx
  rcases e with e | ⟨ms, m1, m2, e⟩
  · refine ⟨m, [], zm, by simp, by simp, ?_⟩
    rw [g6]
    exact frz_to rfl e (by simp) (by simp [tA])
  · refine ⟨m, ms, zm, m1, m2, ?_⟩
    have e2 : List.take ms.length (ms.map st) = ms.map st := List.take_of_length_le (by simp)
    unfold tr at e
    rw [g6]
    exact frz_to rfl e (by simp) (by simp [tA, e2])
end Go.Proofs.YtkdfgjijmnaljaaDoor.Ev
