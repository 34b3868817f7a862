/- What the calls of the law on readings answer, told by themselves. -/
import Derived.Test.YtkdfgjijmnaljaaDoorEvRdF
import Derived.Test.YtkdfgjijmnaljaaDoorEvDrawB3
import Derived.Test.YtkdfgjijmnaljaaDoorEvDrawB4
import Derived.Test.YtkdfgjijmnaljaaDoorEvE1
set_option linter.unusedVariables false
set_option linter.unusedSimpArgs false
namespace Go.Proofs.YtkdfgjijmnaljaaDoor.Ev
open Dr
def cutD (x : List Int) (n : Nat) : List Int := x.drop (min n x.length) ++ [((min n x.length : Nat) : Int)]
theorem cutD_ok {x : List Int} (hx : okC x) (hl : x.length ≤ 65536) (n : Nat) (hn : n ≤ 200) : okC (cutD x n) := by
  unfold cutD
  refine ⟨by simp; omega, fun y hy => ?_⟩
  rcases List.mem_append.1 hy with h | h
  · exact hx.2 y (List.mem_of_mem_drop h)
  · rw [List.mem_singleton] at h
    omega
theorem vcut (x : List Int) (hx : okC x) (hl : x.length ≤ 65536) (n : Nat) (hn : n ≤ 200) : ev E0 24 [.lst 1 (cd x), i64 n] [] = some (.sl 0 0 (cutD x n).length, [some ⟨5, 1, 1, false, cd (cutD x n)⟩]) := by
  rw [e24]
  unfold runF
  have hd : ∀ k, (cd x).drop k = cd (x.drop k) := fun k => by simp [cd, List.map_drop]
  have hw : ∀ k : Nat, k ≤ 200 → IntKind.u8.wrap (k : Int) = k := by
    intro k hk
    simp only [IntKind.wrap, IntKind.bits, IntKind.signed, Bool.false_and, Bool.false_eq_true, if_false]
    omega
  have ht : ∀ k : Nat, List.take (x.length - k) (cd (x.drop k)) = cd (x.drop k) := fun k => List.take_of_length_le (by simp [cd])
  have hc : ∀ (y : List Int) (k : Int), cd y ++ [AV.v (.int .u8 k)] = cd (y ++ [k]) := fun y k => by simp [cd]
  have hy : ∀ k : Nat, (cd (x.drop k)).length = x.length - k := fun k => by simp [cd]
  by_cases h : (x.length : Int) < (n : Int)
  · have hm : min n x.length = x.length := by omega
    have h1 := hw x.length (by omega)
    unfold cutD
    rw [hm]
    have hz := hd x.length
    have hz2 := hc (x.drop x.length) x.length
    simp -implicitDefEqProofs [L24, cd_len, h, h1, hz, ht]
    rfl
  · have hm : min n x.length = n := by omega
    have h1 := hw n (by omega)
    have h2 : (n : Int) ≤ (x.length : Int) := by omega
    have h3 : n ≤ x.length := by omega
    unfold cutD
    rw [hm]
    have hz := hd n
    have hz2 := hc (x.drop n) n
    simp -implicitDefEqProofs [L24, cd_len, h, h1, h2, h3, hz, ht]
    have l1 : x.length ≤ 140737488355328 + n := by omega
    have l2 : x.length ≤ 140737488355327 + n := by omega
    rw [if_pos l1, if_pos l2, ← hz2]
    by_cases he : cd (x.drop n) = []
    · have he2 : x.length - n = 0 := by rw [← hy n, he]; rfl
      rw [if_pos he, he, he2]
      rfl
    · rw [if_neg he]
theorem two_vcut (x : List Int) (hx : okC x) (hl : x.length ≤ 65536) (n : Nat) (hn : n ≤ 200) : ev E1 24 [.lst 1 (cd x), i64 n] [] = some (.lst 1 (cd (cutD x n)), []) := by
  rw [g24]
  have e1 : List.take (cutD x n).length (cd (cutD x n)) = cd (cutD x n) := List.take_of_length_le (by rw [cd_len]; exact Nat.le_refl _)
  exact frz_to rfl (vcut x hx hl n hn) (by simp) (by simp [e1, cd_len])
theorem vbigR (x : List Int) : ev E0 5 [.lst 1 (cd x)] [] = some (bl (decide (65536 < (x.length : Int))), []) := by
  rw [e5]
  unfold runF
  simp -implicitDefEqProofs [L5, cd_len]
theorem two_big (x : List Int) : ev E1 5 [.lst 1 (cd x)] [] = some (bl (decide (65536 < (x.length : Int))), []) := by
  rw [g5]
  exact frz_to rfl (vbigR x) (by simp) (by simp)
def tA (ms : List ByteArray) : AV := .agg [.lst 1 (ms.map st)]
theorem bareW_s (s : ByteArray) (hs : s.size ≤ 1000000) : ev E0 28 [st s] [] = some (bl (okMarks s 0 40), []) := by
  have h := bare_s s hs
  rw [e28]
  unfold runF
  simp -implicitDefEqProofs [L28, h]
theorem flat_ge {ms : List ByteArray} (hv : VT ms) : ∀ w : List Nat, (∀ i ∈ w, i < ms.length) → w.length ≤ (flat ms w).length
  | [], _ => Nat.zero_le _
  | i :: w, h => by
    have h1 := flat_ge hv w (fun x hx => h x (List.mem_cons_of_mem _ hx))
    have hi := h i (List.mem_cons_self ..)
    have := hv.sz (mk_ ms i) (by rw [← mk_at hi]; exact List.getElem_mem hi)
    show _ ≤ (B (mk_ ms i) ++ flat ms w).length
    rw [List.length_append, B_len, List.length_cons]
    omega
theorem fb_of {ms : List ByteArray} {w : List Nat} {s : ByteArray} (h : flat ms w = B s) : fb ms w = s := B_eq (by rw [B_fb, h])
theorem two_bareI (s : ByteArray) (hs : s.size ≤ 1000000) : ev E1 27 [st s] [] = some (bl (okMarks s 0 40), []) := by
  rw [g27]
  exact frz_to rfl (bare_i s hs) (by simp) (by simp)
theorem two_bareS (s : ByteArray) (hs : s.size ≤ 1000000) : ev E1 28 [st s] [] = some (bl (okMarks s 0 40), []) := by
  rw [g28]
  exact frz_to rfl (bareW_s s hs) (by simp) (by simp)
theorem two_bareOf (ms : List ByteArray) (hm : ms.length ≤ 1000) (hz : ∀ m ∈ ms, m.size ≤ 1000) (ho : okTable ms = true) (w : List Nat) (hw : ∀ i ∈ w, i < ms.length) (hl : w.length ≤ 1000) : ev E1 15 [tA ms, st (ltx w)] [] = some (st (fb ms w), []) := by
  rw [g15]
  exact frz_to rfl (bareOf ms hm hz ho w hw hl) (by simp [tA]) (by simp)
theorem two_ci (ms : List ByteArray) (hm : ms.length ≤ 1000) (hz : ∀ m ∈ ms, m.size ≤ 1000) (s : ByteArray) (hs : s.size ≤ 1000000) : ev E1 12 [tA ms, st s] [] = some (.tup [i64 ((if okRead ms s = true then rds ms s else 0 : Nat) : Int), bl (okRead ms s)], []) := by
  rw [g12]
  exact frz_to rfl (count_i ms hm hz s hs) (by simp [tA]) (by simp)
theorem two_cs (ms : List ByteArray) (hm : ms.length ≤ 1000) (hz : ∀ m ∈ ms, m.size ≤ 1000) (s : ByteArray) (hs : s.size ≤ 1000000) : ev E1 18 [tA ms, st s] [] = some (.tup [i64 ((if okRead ms s = true then rds ms s else 0 : Nat) : Int), bl (okRead ms s)], []) := by
  rw [g18]
  exact frz_to rfl (count_s ms hm hz s hs) (by simp [tA]) (by simp)
theorem two_si (ms : List ByteArray) (hm : ms.length ≤ 1000) (hz : ∀ m ∈ ms, m.size ≤ 1000) (s : ByteArray) (hs : s.size ≤ 1000000) (t : ByteArray) (b : Bool) (hb : bstO false ms s = .tup [st t, bl b]) : ev E1 19 [tA ms, st s] [] = some (.tup [st t, bl b], []) := by
  have h := short_i ms hm hz s hs
  rw [hb] at h
  rw [g19]
  exact frz_to rfl h (by simp [tA]) (by simp)
theorem two_ss (ms : List ByteArray) (hm : ms.length ≤ 1000) (hz : ∀ m ∈ ms, m.size ≤ 1000) (s : ByteArray) (hs : s.size ≤ 1000000) (t : ByteArray) (b : Bool) (hb : bstO false ms s = .tup [st t, bl b]) : ev E1 20 [tA ms, st s] [] = some (.tup [st t, bl b], []) := by
  have h := short_s ms hm hz s hs
  rw [hb] at h
  rw [g20]
  exact frz_to rfl h (by simp [tA]) (by simp)
theorem two_li (ms : List ByteArray) (hm : ms.length ≤ 1000) (hz : ∀ m ∈ ms, m.size ≤ 1000) (s : ByteArray) (hs : s.size ≤ 1000000) (t : ByteArray) (b : Bool) (hb : bstO true ms s = .tup [st t, bl b]) : ev E1 21 [tA ms, st s] [] = some (.tup [st t, bl b], []) := by
  have h := long_i ms hm hz s hs
  rw [hb] at h
  rw [g21]
  exact frz_to rfl h (by simp [tA]) (by simp)
theorem two_ls (ms : List ByteArray) (hm : ms.length ≤ 1000) (hz : ∀ m ∈ ms, m.size ≤ 1000) (s : ByteArray) (hs : s.size ≤ 1000000) (t : ByteArray) (b : Bool) (hb : bstO true ms s = .tup [st t, bl b]) : ev E1 22 [tA ms, st s] [] = some (.tup [st t, bl b], []) := by
  have h := long_s ms hm hz s hs
  rw [hb] at h
  rw [g22]
  exact frz_to rfl h (by simp [tA]) (by simp)
theorem two_ri (ms : List ByteArray) (hm : ms.length ≤ 1000) (hz : ∀ m ∈ ms, m.size ≤ 1000) (m : ByteArray) (hs : m.size ≤ 1000) (r : Int) (b : Bool) (hb : rnk ms m = .tup [i64 r, bl b]) : ev E1 25 [tA ms, st m] [] = some (.tup [i64 r, bl b], []) := by
  have h := rank_i ms hm hz m (by omega)
  rw [hb] at h
  rw [g25]
  exact frz_to rfl h (by simp [tA]) (by simp)
theorem two_rs (ms : List ByteArray) (hm : ms.length ≤ 1000) (hz : ∀ m ∈ ms, m.size ≤ 1000) (m : ByteArray) (hs : m.size ≤ 1000) (r : Int) (b : Bool) (hb : rnk ms m = .tup [i64 r, bl b]) : ev E1 26 [tA ms, st m] [] = some (.tup [i64 r, bl b], []) := by
  have h := rank_s ms hm hz m (by omega)
  rw [hb] at h
  rw [g26]
  exact frz_to rfl h (by simp [tA]) (by simp)
theorem two_drawRA (x : List Int) (hx : okC x) : ∃ (m : ByteArray) (ms : List ByteArray) (k : Int), m.size ≤ 100 ∧ ms.length ≤ 30 ∧ (∀ t ∈ ms, t.size ≤ 20) ∧ ev E1 16 [.lst 1 (cd x)] [] = some (.tup [tA ms, st m, i64 k], []) := by
  obtain ⟨m, k, zm, e⟩ := drawRA x hx
  rcases e with e | ⟨ms, m1, m2, e⟩
  · refine ⟨m, [], k, zm, by simp, by simp, ?_⟩
    rw [g16]
    exact frz_to rfl e (by simp) (by simp [tA])
  · refine ⟨m, ms, k, zm, m1, m2, ?_⟩
    have e2 : List.take ms.length (ms.map st) = ms.map st := List.take_of_length_le (by simp)
    unfold tr at e
    rw [g16]
    exact frz_to rfl e (by simp) (by simp [tA, e2])
theorem two_drawRR (x : List Int) (hx : okC x) : ∃ (m : ByteArray) (ms : List ByteArray), m.size ≤ 100 ∧ ms.length ≤ 30 ∧ (∀ t ∈ ms, t.size ≤ 20) ∧ ev E1 23 [.lst 1 (cd x)] [] = some (.tup [tA ms, st m], []) := by
  obtain ⟨m, zm, e⟩ := drawRR x hx
  rcases e with e | ⟨ms, m1, m2, e⟩
  · refine ⟨m, [], zm, by simp, by simp, ?_⟩
    rw [g23]
    exact frz_to rfl e (by simp) (by simp [tA])
  · refine ⟨m, ms, zm, m1, m2, ?_⟩
    have e2 : List.take ms.length (ms.map st) = ms.map st := List.take_of_length_le (by simp)
    unfold tr at e
    rw [g23]
    exact frz_to rfl e (by simp) (by simp [tA, e2])
theorem two_at (ms : List ByteArray) (hm : ms.length ≤ 1000) (hz : ∀ m ∈ ms, m.size ≤ 1000) (s : ByteArray) (hs : s.size ≤ 1000000) (k : Int) (h : okRead ms s = true ∧ 0 ≤ k ∧ k < (rds ms s : Int)) : ∃ w : List Nat, (∀ i ∈ w, i < ms.length) ∧ flat ms w = B s ∧ (rk ms w (B s) : Int) = k ∧ w.length ≤ s.size ∧
    ev E1 14 [tA ms, st s, i64 k] [] = some (.tup [st (ltx w), bl true], []) ∧ ev E1 17 [tA ms, st s, i64 k] [] = some (.tup [st (ltx w), bl true], []) := by
  obtain ⟨w, h1, h2, h0, h3, h4⟩ := (readingAt_i ms hm hz s hs k).1 h
  obtain ⟨v, q1, q2, q0, q3, q4⟩ := (readingAt_s ms hm hz s hs k).1 h
  obtain ⟨hv, _⟩ := read_size h.1
  have hwv : w = v := rk_inj hv w v h1 q1 (by rw [h2, q2]) (by rw [h2]; omega)
  subst hwv
  refine ⟨w, h1, h2, h0, h3, ?_, ?_⟩
  · rw [g14]
    exact frz_to rfl h4 (by simp [tA]) (by simp)
  · rw [g17]
    exact frz_to rfl q4 (by simp [tA]) (by simp)
theorem two_no (ms : List ByteArray) (hm : ms.length ≤ 1000) (hz : ∀ m ∈ ms, m.size ≤ 1000) (s : ByteArray) (hs : s.size ≤ 1000000) (k : Int) (h : ¬ (okRead ms s = true ∧ 0 ≤ k ∧ k < (rds ms s : Int))) :
    ev E1 14 [tA ms, st s, i64 k] [] = some (.tup [st ⟨#[]⟩, bl false], []) ∧ ev E1 17 [tA ms, st s, i64 k] [] = some (.tup [st ⟨#[]⟩, bl false], []) := by
  have h4 := (readingAt_i ms hm hz s hs k).2 h
  have q4 := (readingAt_s ms hm hz s hs k).2 h
  constructor
  · rw [g14]
    exact frz_to rfl h4 (by simp [tA]) (by simp)
  · rw [g17]
    exact frz_to rfl q4 (by simp [tA]) (by simp)
end Go.Proofs.YtkdfgjijmnaljaaDoor.Ev
