/- Tables of chances, the chance that nothing is read; the reference's functions and the program's. -/
import Derived.Test.YtpfefmofecmjjaaDoorEvNoise2
set_option linter.unusedVariables false
set_option linter.unusedSimpArgs false
namespace Go.Proofs.YtpfefmofecmjjaaDoor.Ev
open Fr Nz
def pb (l : List (Nat × Nat)) : Blk := ⟨34, 2, 1, false, l.map pr⟩
def jth (ms : List ByteArray) (k : Int) : ByteArray := ms.getD k.toNat ⟨#[]⟩
theorem jth_get {ms : List ByteArray} {j : Nat} (h : j < ms.length) : ms[j] = jth ms j := by unfold jth; simp [h]
theorem jth_ok {ms : List ByteArray} (h : okTable ms = true) {j : Nat} (hj : j < ms.length) : okMarks (jth ms j) 1 5 = true := (okTable_b h).2.2 _ (by rw [← jth_get hj]; exact List.getElem_mem hj)
def nz1 (a : Int) : Nat := a.toNat
theorem mapB {ms : List ByteArray} (h : okTable ms = true) : (ms.map B).Nodup ∧ ∀ m ∈ ms.map B, ∀ y ∈ m, y = 46 ∨ y = 45 := by
  refine ⟨?_, fun m hm y hy => ?_⟩
  · have h1 := okTable_nodup h
    clear h
    induction ms with
    | nil => exact List.nodup_nil
    | cons x t ih =>
      rw [List.nodup_cons] at h1
      rw [List.map_cons, List.nodup_cons]
      refine ⟨fun hm => ?_, ih h1.2⟩
      obtain ⟨y, hy, e⟩ := List.mem_map.1 hm
      exact h1.1 (by rw [← (ByteArray.ext (Array.ext' e) : y = x)]; exact hy)
  · obtain ⟨x, hx, rfl⟩ := List.mem_map.1 hm
    exact (okMarks_b ((okTable_b h).2.2 x hx)).2.2 y hy
/-- The parts that are left. -/
theorem rest_le {ms : List ByteArray} (h : okTable ms = true) {n d : Nat} (hn : n ≤ d) (s : ByteArray) (hs : okMarks s 1 5 = true) : sumW (wh n d (B s)) (ms.map B) ≤ d ^ 5 := by
  obtain ⟨h1, h2⟩ := mapB h
  obtain ⟨k1, k2, k3⟩ := okMarks_b hs
  exact wh_sum n d hn (B s) k3 (by rw [B_len]; exact k2) _ h1 h2

theorem readTable_s (ms : List ByteArray) (hm : ms.length ≤ 100) (hs : ∀ x ∈ ms, x.size ≤ 1000) (a b k : Int) : ev E0 7 [.agg [.lst 1 (ms.map st)], nzA a b, i64 k] [] = (if (okNy ms a b && inR ms.length k) = true then some (.tup [.sl 0 0 ms.length, bl true], [some (pb (ms.map (rowF (nz1 a) (nz1 b) (jth ms k))))]) else some (.tup [.sl 0 0 0, bl false], [some ⟨34, 2, 1, false, []⟩])) := by
  have hc := l7letter ms (by omega) hs a b k
  rw [e7]
  unfold runF
  cases ho : (okNy ms a b && inR ms.length k) with
  | false =>
    rw [ho] at hc
    unfold nzA at hc ⊢
    simp -implicitDefEqProofs [L7, hc]
  | true =>
    rw [ho] at hc
    rw [Bool.and_eq_true] at ho
    obtain ⟨ho1, ho2⟩ := ho
    unfold okNy at ho1
    rw [Bool.and_eq_true] at ho1
    obtain ⟨n, d, rfl, rfl, d1, d2, d3⟩ := okNz_b ho1.2
    obtain ⟨j, rfl, hj⟩ := inR_b ho2
    have hok := jth_ok ho1.1 hj
    obtain ⟨m1, m2, m3⟩ := okMarks_b hok
    have hl := row_loop_s n d d3 d2 d1 ms (by omega) j hj (jth ms j) (jth_get hj) m2 ms 0 [] rfl rfl
    rw [List.nil_append, List.length_nil, List.map_nil, c0, List.length_map] at hl
    have e1 : nz1 (n : Int) = n := Int.toNat_natCast n
    have e2 : nz1 (d : Int) = d := Int.toNat_natCast d
    rw [if_pos rfl, e1, e2]
    unfold pb
    unfold nzA at hc ⊢
    generalize (ms.map (rowF n d (jth ms j))).map pr = R at *
    simp -implicitDefEqProofs [L7, hc, hl]

theorem unread_s (ms : List ByteArray) (hm : ms.length ≤ 100) (hs : ∀ x ∈ ms, x.size ≤ 1000) (a b k : Int) : ev E0 9 [.agg [.lst 1 (ms.map st)], nzA a b, i64 k] [] = some (if (okNy ms a b && inR ms.length k) = true then .tup [pr (cut (nz1 b ^ 5 - sumW (wh (nz1 a) (nz1 b) (B (jth ms k))) (ms.map B)) (nz1 b ^ 5)), bl true] else .tup [.agg [i64 0, i64 0], bl false], []) := by
  have hc := l7letter ms (by omega) hs a b k
  rw [e9]
  unfold runF
  cases ho : (okNy ms a b && inR ms.length k) with
  | false =>
    rw [ho] at hc
    unfold nzA at hc ⊢
    simp -implicitDefEqProofs [L9, hc]
  | true =>
    rw [ho] at hc
    rw [Bool.and_eq_true] at ho
    obtain ⟨ho1, ho2⟩ := ho
    unfold okNy at ho1
    rw [Bool.and_eq_true] at ho1
    obtain ⟨n, d, rfl, rfl, d1, d2, d3⟩ := okNz_b ho1.2
    obtain ⟨j, rfl, hj⟩ := inR_b ho2
    have hok := jth_ok ho1.1 hj
    obtain ⟨m1, m2, m3⟩ := okMarks_b hok
    have hb5 := pow_b (i := 5) d2 (by omega)
    have hl := rest_loop_s n d d3 d2 ms (by omega) j hj (jth ms j) (jth_get hj) m2 ms 0 ((d ^ 5 : Nat) : Int) rfl (by omega) (by omega)
    have hle := rest_le ho1.1 d3 (jth ms j) hok
    have hal := all_s (n : Int) d d2
    have hp0 : 0 < d ^ 5 := Nat.pow_pos (by omega)
    have hf := cut_s (d ^ 5 - sumW (wh n d (B (jth ms j))) (ms.map B)) (d ^ 5) hp0 (by omega) (by omega)
    have hsub : ((d ^ 5 - sumW (wh n d (B (jth ms j))) (ms.map B) : Nat) : Int) = ((d ^ 5 : Nat) : Int) - ((sumW (wh n d (B (jth ms j))) (ms.map B) : Nat) : Int) := by omega
    rw [hsub] at hf
    have e1 : nz1 (n : Int) = n := Int.toNat_natCast n
    have e2 : nz1 (d : Int) = d := Int.toNat_natCast d
    rw [c0] at hl
    rw [if_pos rfl, e1, e2]
    unfold nzA at hc hal ⊢
    unfold pr at hf ⊢
    clear hsub hle hb5 hp0
    generalize cut (d ^ 5 - sumW (wh n d (B (jth ms j))) (ms.map B)) (d ^ 5) = C at *
    generalize ((d ^ 5 : Nat) : Int) - ((sumW (wh n d (B (jth ms j))) (ms.map B) : Nat) : Int) = R at *
    generalize ((d ^ 5 : Nat) : Int) = d5 at *
    simp -implicitDefEqProofs [L9, hc, hl, hal, hf]

theorem readTable_i (ms : List ByteArray) (hm : ms.length ≤ 100) (hs : ∀ x ∈ ms, x.size ≤ 1000) (a b k : Int) : ev E0 6 [.agg [.lst 1 (ms.map st)], nzA a b, i64 k] [] = (if (okNy ms a b && inR ms.length k) = true then some (.tup [.sl 0 0 ms.length, bl true], [some (pb (ms.map (rowF (nz1 a) (nz1 b) (jth ms k))))]) else some (.tup [.v (.slice none 0 0), bl false], [])) := by
  have hc := noisy_i ms (by omega) hs a b [k] (by simp)
  rw [show [k].map i64 = [i64 k] from rfl, show [k].all (inR ms.length) = inR ms.length k by simp, Bool.and_comm] at hc
  rw [e6]
  unfold runF
  cases ho : (okNy ms a b && inR ms.length k) with
  | false =>
    rw [ho] at hc
    unfold nzA at hc ⊢
    simp -implicitDefEqProofs [L6, hc]
  | true =>
    rw [ho] at hc
    rw [Bool.and_eq_true] at ho
    obtain ⟨ho1, ho2⟩ := ho
    unfold okNy at ho1
    rw [Bool.and_eq_true] at ho1
    obtain ⟨n, d, rfl, rfl, d1, d2, d3⟩ := okNz_b ho1.2
    obtain ⟨j, rfl, hj⟩ := inR_b ho2
    have hok := jth_ok ho1.1 hj
    obtain ⟨m1, m2, m3⟩ := okMarks_b hok
    have hl := row_loop_i n d d3 d2 d1 ms (by omega) j hj (jth ms j) (jth_get hj) m2 ms 0 [] rfl rfl
    rw [List.nil_append, List.length_nil, List.map_nil, c0, List.length_map] at hl
    have e1 : nz1 (n : Int) = n := Int.toNat_natCast n
    have e2 : nz1 (d : Int) = d := Int.toNat_natCast d
    rw [if_pos rfl, e1, e2]
    unfold pb
    unfold nzA at hc ⊢
    generalize (ms.map (rowF n d (jth ms j))).map pr = R at *
    simp -implicitDefEqProofs [L6, hc, hl]

theorem unread_i (ms : List ByteArray) (hm : ms.length ≤ 100) (hs : ∀ x ∈ ms, x.size ≤ 1000) (a b k : Int) : ev E0 8 [.agg [.lst 1 (ms.map st)], nzA a b, i64 k] [] = some (if (okNy ms a b && inR ms.length k) = true then .tup [pr (cut (nz1 b ^ 5 - sumW (wh (nz1 a) (nz1 b) (B (jth ms k))) (ms.map B)) (nz1 b ^ 5)), bl true] else .tup [.agg [i64 0, i64 0], bl false], []) := by
  have hc := noisy_i ms (by omega) hs a b [k] (by simp)
  rw [show [k].map i64 = [i64 k] from rfl, show [k].all (inR ms.length) = inR ms.length k by simp, Bool.and_comm] at hc
  rw [e8]
  unfold runF
  cases ho : (okNy ms a b && inR ms.length k) with
  | false =>
    rw [ho] at hc
    unfold nzA at hc ⊢
    simp -implicitDefEqProofs [L8, hc]
  | true =>
    rw [ho] at hc
    rw [Bool.and_eq_true] at ho
    obtain ⟨ho1, ho2⟩ := ho
    unfold okNy at ho1
    rw [Bool.and_eq_true] at ho1
    obtain ⟨n, d, rfl, rfl, d1, d2, d3⟩ := okNz_b ho1.2
    obtain ⟨j, rfl, hj⟩ := inR_b ho2
    have hok := jth_ok ho1.1 hj
    obtain ⟨m1, m2, m3⟩ := okMarks_b hok
    have hb5 := pow_b (i := 5) d2 (by omega)
    have hl := rest_loop_i n d d3 d2 ms (by omega) j hj (jth ms j) (jth_get hj) m2 ms 0 ((d ^ 5 : Nat) : Int) rfl (by omega) (by omega)
    have hle := rest_le ho1.1 d3 (jth ms j) hok
    have hal := all_i (n : Int) d d2
    have hp0 : 0 < d ^ 5 := Nat.pow_pos (by omega)
    have hf := fraction_i (d ^ 5 - sumW (wh n d (B (jth ms j))) (ms.map B)) (d ^ 5) hp0 (by omega) (by omega)
    have hsub : ((d ^ 5 - sumW (wh n d (B (jth ms j))) (ms.map B) : Nat) : Int) = ((d ^ 5 : Nat) : Int) - ((sumW (wh n d (B (jth ms j))) (ms.map B) : Nat) : Int) := by omega
    rw [hsub] at hf
    have e1 : nz1 (n : Int) = n := Int.toNat_natCast n
    have e2 : nz1 (d : Int) = d := Int.toNat_natCast d
    rw [c0] at hl
    rw [if_pos rfl, e1, e2]
    unfold nzA at hc hal ⊢
    unfold pr at hf ⊢
    clear hsub hle hb5 hp0
    generalize cut (d ^ 5 - sumW (wh n d (B (jth ms j))) (ms.map B)) (d ^ 5) = C at *
    generalize ((d ^ 5 : Nat) : Int) - ((sumW (wh n d (B (jth ms j))) (ms.map B) : Nat) : Int) = R at *
    generalize ((d ^ 5 : Nat) : Int) = d5 at *
    simp -implicitDefEqProofs [L8, hc, hl, hal, hf]

theorem read_one (n d : Nat) (hn : n ≤ d) (hd : d ≤ 100) (hd0 : 1 ≤ d) (s m : ByteArray) (hs : s.size ≤ 5) : 0 < d ^ 5 ∧ d ^ 5 ≤ 1000000000000000 ∧ wh n d (B s) (B m) ≤ 1000000000000000 := by
  have h1 := pow_b (i := 5) hd (by omega)
  have h2 := wh_big hn hd s m hs
  exact ⟨Nat.pow_pos (by omega), by omega, by omega⟩

theorem chanceRead_s (ms : List ByteArray) (hm : ms.length ≤ 100) (hs : ∀ x ∈ ms, x.size ≤ 1000) (a b k q : Int) : ev E0 18 [.agg [.lst 1 (ms.map st)], nzA a b, i64 k, i64 q] [] = some (if (okNy ms a b && (inR ms.length k && inR ms.length q)) = true then .tup [pr (rowF (nz1 a) (nz1 b) (jth ms k) (jth ms q)), bl true] else .tup [.agg [i64 0, i64 0], bl false], []) := by
  have hc1 := l7letter ms (by omega) hs a b k
  have hc2 := l7letter ms (by omega) hs a b q
  rw [e18]
  unfold runF
  cases ho : (okNy ms a b && (inR ms.length k && inR ms.length q)) with
  | false =>

    cases h1 : (okNy ms a b && inR ms.length k) with
    | false => rw [h1] at hc1; unfold nzA at hc1 ⊢; simp -implicitDefEqProofs [L18, hc1]
    | true =>
      have h2 : (okNy ms a b && inR ms.length q) = false := by
        cases h2 : (okNy ms a b && inR ms.length q) with
        | false => rfl
        | true => rw [Bool.and_eq_true] at h1 h2; rw [h1.1, h1.2, h2.2] at ho; cases ho
      rw [h1] at hc1
      rw [h2] at hc2
      unfold nzA at hc1 hc2 ⊢
      simp -implicitDefEqProofs [L18, hc1, hc2]
  | true =>
    have hy : okNy ms a b = true := by rw [Bool.and_eq_true] at ho; exact ho.1
    have hk : inR ms.length k = true := by rw [Bool.and_eq_true, Bool.and_eq_true] at ho; exact ho.2.1
    have hq : inR ms.length q = true := by rw [Bool.and_eq_true, Bool.and_eq_true] at ho; exact ho.2.2
    rw [hy, hk] at hc1
    rw [hy, hq] at hc2
    simp only [Bool.and_self] at hc1 hc2
    unfold okNy at hy
    rw [Bool.and_eq_true] at hy
    obtain ⟨n, d, rfl, rfl, d1, d2, d3⟩ := okNz_b hy.2
    obtain ⟨j, rfl, hj⟩ := inR_b hk
    obtain ⟨i, rfl, hi⟩ := inR_b hq
    obtain ⟨m1, m2, m3⟩ := okMarks_b (jth_ok hy.1 hj)
    have f1 := whole_s n d d3 d2 (jth ms j) (jth ms i) m2
    have f2 := all_s (n : Int) d d2
    obtain ⟨p1, p2, p3⟩ := read_one n d d3 d2 d1 (jth ms j) (jth ms i) m2
    have f3 := cut_s (wh n d (B (jth ms j)) (B (jth ms i))) (d ^ 5) p1 p3 p2
    change _ = some (pr (rowF n d (jth ms j) (jth ms i)), []) at f3
    have hj2 : (j : Int) < (ms.length : Int) := by omega
    have hi2 : (i : Int) < (ms.length : Int) := by omega
    have gj : ∀ h, ms[j]'h = jth ms j := fun h => jth_get h
    have gi : ∀ h, ms[i]'h = jth ms i := fun h => jth_get h
    have e1 : nz1 (n : Int) = n := Int.toNat_natCast n
    have e2 : nz1 (d : Int) = d := Int.toNat_natCast d
    rw [if_pos rfl, e1, e2]
    unfold nzA at hc1  hc2 f1 f2 ⊢
    unfold pr at f3 ⊢
    clear p1 p2 p3
    generalize rowF n d (jth ms j) (jth ms i) = C at *
    generalize ((wh n d (B (jth ms j)) (B (jth ms i)) : Nat) : Int) = wv at *
    generalize ((d ^ 5 : Nat) : Int) = d5 at *
    generalize jth ms j = sj at *
    generalize jth ms i = si at *
    simp -implicitDefEqProofs [L18, hc1, hc2, hj, hi, hj2, hi2, gj, gi, f1, f2, f3]

theorem chanceRead_i (ms : List ByteArray) (hm : ms.length ≤ 100) (hs : ∀ x ∈ ms, x.size ≤ 1000) (a b k q : Int) : ev E0 17 [.agg [.lst 1 (ms.map st)], nzA a b, i64 k, i64 q] [] = some (if (okNy ms a b && (inR ms.length k && inR ms.length q)) = true then .tup [pr (rowF (nz1 a) (nz1 b) (jth ms k) (jth ms q)), bl true] else .tup [.agg [i64 0, i64 0], bl false], []) := by
  have hc := noisy_i ms (by omega) hs a b [k, q] (by simp)
  rw [show [k, q].map i64 = [i64 k, i64 q] from rfl, show ([k, q].all (inR ms.length) && okNy ms a b) = (okNy ms a b && (inR ms.length k && inR ms.length q)) by simp [Bool.and_comm, Bool.and_left_comm]] at hc
  rw [e17]
  unfold runF
  cases ho : (okNy ms a b && (inR ms.length k && inR ms.length q)) with
  | false =>

    rw [ho] at hc
    unfold nzA at hc ⊢
    simp -implicitDefEqProofs [L17, hc]
  | true =>
    have hy : okNy ms a b = true := by rw [Bool.and_eq_true] at ho; exact ho.1
    have hk : inR ms.length k = true := by rw [Bool.and_eq_true, Bool.and_eq_true] at ho; exact ho.2.1
    have hq : inR ms.length q = true := by rw [Bool.and_eq_true, Bool.and_eq_true] at ho; exact ho.2.2
    rw [ho] at hc
    unfold okNy at hy
    rw [Bool.and_eq_true] at hy
    obtain ⟨n, d, rfl, rfl, d1, d2, d3⟩ := okNz_b hy.2
    obtain ⟨j, rfl, hj⟩ := inR_b hk
    obtain ⟨i, rfl, hi⟩ := inR_b hq
    obtain ⟨m1, m2, m3⟩ := okMarks_b (jth_ok hy.1 hj)
    have f1 := whole_i n d d3 d2 (jth ms j) (jth ms i) m2
    have f2 := all_i (n : Int) d d2
    obtain ⟨p1, p2, p3⟩ := read_one n d d3 d2 d1 (jth ms j) (jth ms i) m2
    have f3 := fraction_i (wh n d (B (jth ms j)) (B (jth ms i))) (d ^ 5) p1 p3 p2
    change _ = some (pr (rowF n d (jth ms j) (jth ms i)), []) at f3
    have hj2 : (j : Int) < (ms.length : Int) := by omega
    have hi2 : (i : Int) < (ms.length : Int) := by omega
    have gj : ∀ h, ms[j]'h = jth ms j := fun h => jth_get h
    have gi : ∀ h, ms[i]'h = jth ms i := fun h => jth_get h
    have e1 : nz1 (n : Int) = n := Int.toNat_natCast n
    have e2 : nz1 (d : Int) = d := Int.toNat_natCast d
    rw [if_pos rfl, e1, e2]
    unfold nzA at hc f1 f2 ⊢
    unfold pr at f3 ⊢
    clear p1 p2 p3
    generalize rowF n d (jth ms j) (jth ms i) = C at *
    generalize ((wh n d (B (jth ms j)) (B (jth ms i)) : Nat) : Int) = wv at *
    generalize ((d ^ 5 : Nat) : Int) = d5 at *
    generalize jth ms j = sj at *
    generalize jth ms i = si at *
    simp -implicitDefEqProofs [L17, hc, hj, hi, hj2, hi2, gj, gi, f1, f2, f3]

theorem chanceComes_s (a b : Int) (u v : ByteArray) (hu : u.size ≤ 1000) (hv : v.size ≤ 1000) : ev E0 21 [nzA a b, st u, st v] [] = some (if (okNz a b && (okMarks u 1 5 && okMarks v 1 5)) = true then .tup [pr (rowF (nz1 a) (nz1 b) u v), bl true] else .tup [.agg [i64 0, i64 0], bl false], []) := by
  have h1 := noise_s a b
  have h2 := marks_s u (by omega) 1 5
  have h3 := marks_s v (by omega) 1 5
  rw [e21]
  unfold runF
  cases o1 : okNz a b with
  | false => rw [o1] at h1; unfold nzA at h1 ⊢; simp -implicitDefEqProofs [L21, h1]
  | true =>
    rw [o1] at h1
    cases o2 : okMarks u 1 5 with
    | false => rw [o2] at h2; unfold nzA at h1 ⊢; simp -implicitDefEqProofs [L21, h1, h2]
    | true =>
      rw [o2] at h2
      cases o3 : okMarks v 1 5 with
      | false => rw [o3] at h3; unfold nzA at h1 ⊢; simp -implicitDefEqProofs [L21, h1, h2, h3]
      | true =>
        rw [o3] at h3
        obtain ⟨n, d, rfl, rfl, d1, d2, d3⟩ := okNz_b o1
        obtain ⟨m1, m2, m3⟩ := okMarks_b o2
        have f1 := whole_s n d d3 d2 u v m2
        have f2 := all_s (n : Int) d d2
        obtain ⟨p1, p2, p3⟩ := read_one n d d3 d2 d1 u v m2
        have f3 := cut_s (wh n d (B u) (B v)) (d ^ 5) p1 p3 p2
        change _ = some (pr (rowF n d u v), []) at f3
        have e1 : nz1 (n : Int) = n := Int.toNat_natCast n
        have e2 : nz1 (d : Int) = d := Int.toNat_natCast d
        rw [Bool.and_self, Bool.and_self, if_pos rfl, e1, e2]
        unfold nzA at h1 f1 f2 ⊢
        unfold pr at f3 ⊢
        clear p1 p2 p3
        generalize rowF n d u v = C at *
        generalize ((wh n d (B u) (B v) : Nat) : Int) = wv at *
        generalize ((d ^ 5 : Nat) : Int) = d5 at *
        simp -implicitDefEqProofs [L21, h1, h2, h3, f1, f2, f3]

theorem chanceComes_i (a b : Int) (u v : ByteArray) (hu : u.size ≤ 1000) (hv : v.size ≤ 1000) : ev E0 20 [nzA a b, st u, st v] [] = some (if (okNz a b && (okMarks u 1 5 && okMarks v 1 5)) = true then .tup [pr (rowF (nz1 a) (nz1 b) u v), bl true] else .tup [.agg [i64 0, i64 0], bl false], []) := by
  have h1 := noise_i a b
  have h2 := letterMarks u (by omega)
  have h3 := letterMarks v (by omega)
  rw [e20]
  unfold runF
  cases o1 : okNz a b with
  | false => rw [o1] at h1; unfold nzA at h1 ⊢; simp -implicitDefEqProofs [L20, h1]
  | true =>
    rw [o1] at h1
    cases o2 : okMarks u 1 5 with
    | false => rw [o2] at h2; unfold nzA at h1 ⊢; simp -implicitDefEqProofs [L20, h1, h2]
    | true =>
      rw [o2] at h2
      cases o3 : okMarks v 1 5 with
      | false => rw [o3] at h3; unfold nzA at h1 ⊢; simp -implicitDefEqProofs [L20, h1, h2, h3]
      | true =>
        rw [o3] at h3
        obtain ⟨n, d, rfl, rfl, d1, d2, d3⟩ := okNz_b o1
        obtain ⟨m1, m2, m3⟩ := okMarks_b o2
        have f1 := whole_i n d d3 d2 u v m2
        have f2 := all_i (n : Int) d d2
        obtain ⟨p1, p2, p3⟩ := read_one n d d3 d2 d1 u v m2
        have f3 := fraction_i (wh n d (B u) (B v)) (d ^ 5) p1 p3 p2
        change _ = some (pr (rowF n d u v), []) at f3
        have e1 : nz1 (n : Int) = n := Int.toNat_natCast n
        have e2 : nz1 (d : Int) = d := Int.toNat_natCast d
        rw [Bool.and_self, Bool.and_self, if_pos rfl, e1, e2]
        unfold nzA at h1 f1 f2 ⊢
        unfold pr at f3 ⊢
        clear p1 p2 p3
        generalize rowF n d u v = C at *
        generalize ((wh n d (B u) (B v) : Nat) : Int) = wv at *
        generalize ((d ^ 5 : Nat) : Int) = d5 at *
        simp -implicitDefEqProofs [L20, h1, h2, h3, f1, f2, f3]

theorem marksOf_i (ms : List ByteArray) (hm : ms.length ≤ 100) (hs : ∀ x ∈ ms, x.size ≤ 1000) (k : Int) : ev E0 27 [.agg [.lst 1 (ms.map st)], i64 k] [] = some (if (okTable ms && inR ms.length k) = true then .tup [st (jth ms k), bl true] else .tup [st ⟨#[]⟩, bl false], []) := by
  have h1 := table_i ms (by omega) (fun x hx => by have := hs x hx; omega)
  have h2 := letter_in ms (by omega) k
  rw [e27]
  unfold runF
  cases o1 : okTable ms with
  | false => rw [o1] at h1; simp -implicitDefEqProofs [L27, h1]
  | true =>
    rw [o1] at h1
    cases o2 : inR ms.length k with
    | false => rw [o2] at h2; simp -implicitDefEqProofs [L27, h1, h2]
    | true =>
      rw [o2] at h2
      obtain ⟨j, rfl, hj⟩ := inR_b o2
      have hj2 : (j : Int) < (ms.length : Int) := by omega
      have gj : ∀ h, ms[j]'h = jth ms j := fun h => jth_get h
      rw [Bool.and_self, if_pos rfl]
      generalize jth ms j = sj at *
      simp -implicitDefEqProofs [L27, h1, h2, hj, hj2, gj]
end Go.Proofs.YtpfefmofecmjjaaDoor.Ev
