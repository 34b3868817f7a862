/- What the calls of the law on noises answer, told by themselves. -/
import Derived.Test.YtpfefmofecmjjaaDoorEvNoiseL
set_option linter.unusedVariables false
set_option linter.unusedSimpArgs false
namespace Go.Proofs.YtpfefmofecmjjaaDoor.Ev
open Fr Nz Dr
theorem isNoise_s (a b : Int) : ev E0 24 [nzA a b] [] = some (bl (okNz a b), []) := by
  have h := noise_s a b
  rw [e24]
  unfold runF
  unfold nzA at h ⊢
  simp -implicitDefEqProofs [L24, h]
def zz : AV := .agg [i64 0, i64 0]
theorem frow_eq (l : List (Nat × Nat)) : l.map pr = l.map pr := rfl
theorem rowsF (ms : List ByteArray) (n d : Nat) (s : ByteArray) : (ms.map (rowF n d s)).map pr = frow (ms.map fun m => wh n d (B s) (B m)) (d ^ 5) := by
  unfold frow
  rw [List.map_map, List.map_map]
  rfl
theorem rowsS (ms : List ByteArray) (n d : Nat) (c : ByteArray) (S : Nat) : (ms.map (sentF n d c S)).map pr = frow (ms.map (snt n d c)) S := by
  unfold frow
  rw [List.map_map, List.map_map]
  rfl
theorem sumN_W (n d : Nat) (s : ByteArray) : ∀ ms : List ByteArray, sumN (ms.map fun m => wh n d (B s) (B m)) = sumW (wh n d (B s)) (ms.map B)
  | [] => rfl
  | m :: t => by rw [List.map_cons, List.map_cons, sumN, sumW, sumN_W n d s t]
theorem sumN_S (n d : Nat) (c : ByteArray) : ∀ ms : List ByteArray, sumN (ms.map (snt n d c)) = sumS n d c ms
  | [] => rfl
  | m :: t => by rw [List.map_cons, sumN, sumS, sumN_S n d c t]
def rowV (ms : List ByteArray) (a b k : Int) : List AV := frow (ms.map fun m => wh (nz1 a) (nz1 b) (B (jth ms k)) (B m)) (nz1 b ^ 5)
def sntV (ms : List ByteArray) (a b : Int) (c : ByteArray) : List AV := frow (ms.map (snt (nz1 a) (nz1 b) c)) (sumO ms a b c)

theorem two_row_s (ms : List ByteArray) (hm : ms.length ≤ 100) (hs : ∀ x ∈ ms, x.size ≤ 1000) (a b k : Int) : ev E1 7 [.agg [.lst 1 (ms.map st)], nzA a b, i64 k] [] = some (.tup [.lst 2 (if (okNy ms a b && inR ms.length k) = true then rowV ms a b k else []), bl (okNy ms a b && inR ms.length k)], []) := by
  have h := readTable_s ms hm hs a b k
  have hl : (rowV ms a b k).length = ms.length := by unfold rowV; rw [frow_len, List.length_map]
  have ht : List.take ms.length (rowV ms a b k) = rowV ms a b k := List.take_of_length_le (by omega)
  rw [g7]
  cases hc : (okNy ms a b && inR ms.length k) with
  | false =>
    rw [hc, if_neg (by simp)] at h
    exact frz_to rfl h (by simp [nzA]) (by simp)
  | true =>
    rw [hc, if_pos rfl] at h
    unfold pb at h
    rw [rowsF] at h
    rw [show frow (ms.map fun m => wh (nz1 a) (nz1 b) (B (jth ms k)) (B m)) (nz1 b ^ 5) = rowV ms a b k from rfl] at h
    generalize rowV ms a b k = R at *
    exact frz_to rfl h (by simp [nzA]) (by simp [hl, ht])
theorem two_sent_s (ms : List ByteArray) (hm : ms.length ≤ 100) (hs : ∀ x ∈ ms, x.size ≤ 1000) (a b : Int) (c : ByteArray) (hc : c.size ≤ 1000) : ev E1 13 [.agg [.lst 1 (ms.map st)], nzA a b, st c] [] = some (.tup [.lst 2 (if (oks ms a b c && decide (0 < sumO ms a b c)) = true then sntV ms a b c else []), bl (oks ms a b c && decide (0 < sumO ms a b c))], []) := by
  have h := sent_s ms hm hs a b c hc
  have hl : (sntV ms a b c).length = ms.length := by unfold sntV; rw [frow_len, List.length_map]
  have ht : List.take ms.length (sntV ms a b c) = sntV ms a b c := List.take_of_length_le (by omega)
  rw [g13]
  cases hcc : (oks ms a b c && decide (0 < sumO ms a b c)) with
  | false =>
    rw [hcc, if_neg (by simp)] at h
    exact frz_to rfl h (by simp [nzA]) (by simp)
  | true =>
    rw [hcc, if_pos rfl] at h
    unfold pb at h
    rw [rowsS] at h
    rw [show frow (ms.map (snt (nz1 a) (nz1 b) c)) (sumO ms a b c) = sntV ms a b c from rfl] at h
    generalize sntV ms a b c = R at *
    exact frz_to rfl h (by simp [nzA]) (by simp [hl, ht])
theorem two_unread_s (ms : List ByteArray) (hm : ms.length ≤ 100) (hs : ∀ x ∈ ms, x.size ≤ 1000) (a b k : Int) : ev E1 9 [.agg [.lst 1 (ms.map st)], nzA a b, i64 k] [] = some (.tup [if (okNy ms a b && inR ms.length k) = true then pr (cut (nz1 b ^ 5 - sumW (wh (nz1 a) (nz1 b) (B (jth ms k))) (ms.map B)) (nz1 b ^ 5)) else zz, bl (okNy ms a b && inR ms.length k)], []) := by
  have h := unread_s ms hm hs a b k
  rw [g9]
  generalize cut (nz1 b ^ 5 - sumW (wh (nz1 a) (nz1 b) (B (jth ms k))) (ms.map B)) (nz1 b ^ 5) = C at *
  cases hc : (okNy ms a b && inR ms.length k) with
  | false => rw [hc, if_neg (by simp)] at h; exact frz_to rfl h (by simp [nzA]) (by simp [zz])
  | true => rw [hc, if_pos rfl] at h; exact frz_to rfl h (by simp [nzA]) (by simp [pr])
theorem two_guess_s (ms : List ByteArray) (hm : ms.length ≤ 100) (hs : ∀ x ∈ ms, x.size ≤ 1000) (a b : Int) (c : ByteArray) (hc : c.size ≤ 1000) : ev E1 15 [.agg [.lst 1 (ms.map st)], nzA a b, st c] [] = some (.tup [i64 (if (oks ms a b c && decide (0 < sumO ms a b c)) = true then ((gueO ms a b c : Nat) : Int) else 0), bl (oks ms a b c && decide (0 < sumO ms a b c))], []) := by
  have h := guess_s ms hm hs a b c hc
  rw [g15]
  cases hcc : (oks ms a b c && decide (0 < sumO ms a b c)) with
  | false => rw [hcc, if_neg (by simp)] at h; exact frz_to rfl h (by simp [nzA]) (by simp)
  | true => rw [hcc, if_pos rfl] at h; exact frz_to rfl h (by simp [nzA]) (by simp)
theorem two_chr_s (ms : List ByteArray) (hm : ms.length ≤ 100) (hs : ∀ x ∈ ms, x.size ≤ 1000) (a b k q : Int) : ev E1 18 [.agg [.lst 1 (ms.map st)], nzA a b, i64 k, i64 q] [] = some (.tup [if (okNy ms a b && (inR ms.length k && inR ms.length q)) = true then pr (rowF (nz1 a) (nz1 b) (jth ms k) (jth ms q)) else zz, bl (okNy ms a b && (inR ms.length k && inR ms.length q))], []) := by
  have h := chanceRead_s ms hm hs a b k q
  rw [g18]
  generalize rowF (nz1 a) (nz1 b) (jth ms k) (jth ms q) = C at *
  cases hc : (okNy ms a b && (inR ms.length k && inR ms.length q)) with
  | false => rw [hc, if_neg (by simp)] at h; exact frz_to rfl h (by simp [nzA]) (by simp [zz])
  | true => rw [hc, if_pos rfl] at h; exact frz_to rfl h (by simp [nzA]) (by simp [pr])
theorem two_chc_s (a b : Int) (u v : ByteArray) (hu : u.size ≤ 1000) (hv : v.size ≤ 1000) : ev E1 21 [nzA a b, st u, st v] [] = some (.tup [if (okNz a b && (okMarks u 1 5 && okMarks v 1 5)) = true then pr (rowF (nz1 a) (nz1 b) u v) else zz, bl (okNz a b && (okMarks u 1 5 && okMarks v 1 5))], []) := by
  have h := chanceComes_s a b u v hu hv
  rw [g21]
  generalize rowF (nz1 a) (nz1 b) u v = C at *
  cases hc : (okNz a b && (okMarks u 1 5 && okMarks v 1 5)) with
  | false => rw [hc, if_neg (by simp)] at h; exact frz_to rfl h (by simp [nzA]) (by simp [zz])
  | true => rw [hc, if_pos rfl] at h; exact frz_to rfl h (by simp [nzA]) (by simp [pr])
theorem two_nz_s (a b : Int) : ev E1 24 [nzA a b] [] = some (bl (okNz a b), []) := by
  rw [g24]
  exact frz_to rfl (isNoise_s a b) (by simp [nzA]) (by simp)

theorem two_row_i (ms : List ByteArray) (hm : ms.length ≤ 100) (hs : ∀ x ∈ ms, x.size ≤ 1000) (a b k : Int) : ev E1 6 [.agg [.lst 1 (ms.map st)], nzA a b, i64 k] [] = some (.tup [.lst 2 (if (okNy ms a b && inR ms.length k) = true then rowV ms a b k else []), bl (okNy ms a b && inR ms.length k)], []) := by
  have h := readTable_i ms hm hs a b k
  have hl : (rowV ms a b k).length = ms.length := by unfold rowV; rw [frow_len, List.length_map]
  have ht : List.take ms.length (rowV ms a b k) = rowV ms a b k := List.take_of_length_le (by omega)
  rw [g6]
  cases hc : (okNy ms a b && inR ms.length k) with
  | false =>
    rw [hc, if_neg (by simp)] at h
    exact frz_to rfl h (by simp [nzA]) (by simp)
  | true =>
    rw [hc, if_pos rfl] at h
    unfold pb at h
    rw [rowsF] at h
    rw [show frow (ms.map fun m => wh (nz1 a) (nz1 b) (B (jth ms k)) (B m)) (nz1 b ^ 5) = rowV ms a b k from rfl] at h
    generalize rowV ms a b k = R at *
    exact frz_to rfl h (by simp [nzA]) (by simp [hl, ht])
theorem two_sent_i (ms : List ByteArray) (hm : ms.length ≤ 100) (hs : ∀ x ∈ ms, x.size ≤ 1000) (a b : Int) (c : ByteArray) (hc : c.size ≤ 1000) : ev E1 12 [.agg [.lst 1 (ms.map st)], nzA a b, st c] [] = some (.tup [.lst 2 (if (oks ms a b c && decide (0 < sumO ms a b c)) = true then sntV ms a b c else []), bl (oks ms a b c && decide (0 < sumO ms a b c))], []) := by
  have h := sent_i ms hm hs a b c hc
  have hl : (sntV ms a b c).length = ms.length := by unfold sntV; rw [frow_len, List.length_map]
  have ht : List.take ms.length (sntV ms a b c) = sntV ms a b c := List.take_of_length_le (by omega)
  rw [g12]
  cases hcc : (oks ms a b c && decide (0 < sumO ms a b c)) with
  | false =>
    rw [hcc, if_neg (by simp)] at h
    exact frz_to rfl h (by simp [nzA]) (by simp)
  | true =>
    rw [hcc, if_pos rfl] at h
    unfold pb at h
    rw [rowsS] at h
    rw [show frow (ms.map (snt (nz1 a) (nz1 b) c)) (sumO ms a b c) = sntV ms a b c from rfl] at h
    generalize sntV ms a b c = R at *
    exact frz_to rfl h (by simp [nzA]) (by simp [hl, ht])
theorem two_unread_i (ms : List ByteArray) (hm : ms.length ≤ 100) (hs : ∀ x ∈ ms, x.size ≤ 1000) (a b k : Int) : ev E1 8 [.agg [.lst 1 (ms.map st)], nzA a b, i64 k] [] = some (.tup [if (okNy ms a b && inR ms.length k) = true then pr (cut (nz1 b ^ 5 - sumW (wh (nz1 a) (nz1 b) (B (jth ms k))) (ms.map B)) (nz1 b ^ 5)) else zz, bl (okNy ms a b && inR ms.length k)], []) := by
  have h := unread_i ms hm hs a b k
  rw [g8]
  generalize cut (nz1 b ^ 5 - sumW (wh (nz1 a) (nz1 b) (B (jth ms k))) (ms.map B)) (nz1 b ^ 5) = C at *
  cases hc : (okNy ms a b && inR ms.length k) with
  | false => rw [hc, if_neg (by simp)] at h; exact frz_to rfl h (by simp [nzA]) (by simp [zz])
  | true => rw [hc, if_pos rfl] at h; exact frz_to rfl h (by simp [nzA]) (by simp [pr])
theorem two_guess_i (ms : List ByteArray) (hm : ms.length ≤ 100) (hs : ∀ x ∈ ms, x.size ≤ 1000) (a b : Int) (c : ByteArray) (hc : c.size ≤ 1000) : ev E1 14 [.agg [.lst 1 (ms.map st)], nzA a b, st c] [] = some (.tup [i64 (if (oks ms a b c && decide (0 < sumO ms a b c)) = true then ((gueO ms a b c : Nat) : Int) else 0), bl (oks ms a b c && decide (0 < sumO ms a b c))], []) := by
  have h := guess_i ms hm hs a b c hc
  rw [g14]
  cases hcc : (oks ms a b c && decide (0 < sumO ms a b c)) with
  | false => rw [hcc, if_neg (by simp)] at h; exact frz_to rfl h (by simp [nzA]) (by simp)
  | true => rw [hcc, if_pos rfl] at h; exact frz_to rfl h (by simp [nzA]) (by simp)
theorem two_chr_i (ms : List ByteArray) (hm : ms.length ≤ 100) (hs : ∀ x ∈ ms, x.size ≤ 1000) (a b k q : Int) : ev E1 17 [.agg [.lst 1 (ms.map st)], nzA a b, i64 k, i64 q] [] = some (.tup [if (okNy ms a b && (inR ms.length k && inR ms.length q)) = true then pr (rowF (nz1 a) (nz1 b) (jth ms k) (jth ms q)) else zz, bl (okNy ms a b && (inR ms.length k && inR ms.length q))], []) := by
  have h := chanceRead_i ms hm hs a b k q
  rw [g17]
  generalize rowF (nz1 a) (nz1 b) (jth ms k) (jth ms q) = C at *
  cases hc : (okNy ms a b && (inR ms.length k && inR ms.length q)) with
  | false => rw [hc, if_neg (by simp)] at h; exact frz_to rfl h (by simp [nzA]) (by simp [zz])
  | true => rw [hc, if_pos rfl] at h; exact frz_to rfl h (by simp [nzA]) (by simp [pr])
theorem two_chc_i (a b : Int) (u v : ByteArray) (hu : u.size ≤ 1000) (hv : v.size ≤ 1000) : ev E1 20 [nzA a b, st u, st v] [] = some (.tup [if (okNz a b && (okMarks u 1 5 && okMarks v 1 5)) = true then pr (rowF (nz1 a) (nz1 b) u v) else zz, bl (okNz a b && (okMarks u 1 5 && okMarks v 1 5))], []) := by
  have h := chanceComes_i a b u v hu hv
  rw [g20]
  generalize rowF (nz1 a) (nz1 b) u v = C at *
  cases hc : (okNz a b && (okMarks u 1 5 && okMarks v 1 5)) with
  | false => rw [hc, if_neg (by simp)] at h; exact frz_to rfl h (by simp [nzA]) (by simp [zz])
  | true => rw [hc, if_pos rfl] at h; exact frz_to rfl h (by simp [nzA]) (by simp [pr])
theorem two_nz_i (a b : Int) : ev E1 23 [nzA a b] [] = some (bl (okNz a b), []) := by
  rw [g23]
  exact frz_to rfl (noise_i a b) (by simp [nzA]) (by simp)

theorem two_mk (ms : List ByteArray) (hm : ms.length ≤ 100) (hs : ∀ x ∈ ms, x.size ≤ 1000) (k : Int) : ev E1 27 [.agg [.lst 1 (ms.map st)], i64 k] [] = some (.tup [st (if (okTable ms && inR ms.length k) = true then jth ms k else ⟨#[]⟩), bl (okTable ms && inR ms.length k)], []) := by
  have h := marksOf_i ms hm hs k
  rw [g27]
  cases hc : (okTable ms && inR ms.length k) with
  | false => rw [hc, if_neg (by simp)] at h; exact frz_to rfl h (by simp) (by simp)
  | true => rw [hc, if_pos rfl] at h; exact frz_to rfl h (by simp) (by simp)
theorem two_vpairs (ps : List Nat) (N : Nat) (hp : ps.length ≤ 1000) : ev E1 22 [.lst 2 (frow ps N), .lst 2 (frow ps N)] [] = some (bl true, []) := by
  rw [g22]
  have h := vpairs (ps.map fun p => cut p N) (by rw [List.length_map]; exact hp)
  have e : (ps.map fun p => cut p N).map pr = frow ps N := by unfold frow; rw [List.map_map]; rfl
  rw [e] at h
  exact frz_to rfl h (by simp) (by simp)
theorem two_vbig (x : List Int) : ev E1 4 [.lst 1 (cd x)] [] = some (bl (decide (65536 < (x.length : Int))), []) := by
  rw [g4]
  exact frz_to rfl (vbig x) (by simp) (by simp)
theorem two_vcut (x : List Int) (hx : okC x) (hl : x.length ≤ 65536) (n : Nat) (hn : n ≤ 200) : ev E1 11 [.lst 1 (cd x), i64 n] [] = some (.lst 1 (cd (cutD x n)), []) := by
  rw [g11]
  have e1 : List.take (cutD x n).length (cd (cutD x n)) = cd (cutD x n) := List.take_of_length_le (by rw [cd_len]; exact Nat.le_refl _)
  exact frz_to rfl (vcut x hx hl n hn) (by simp) (by simp [e1, cd_len])
theorem two_drawRead (x : List Int) (hx : okC x) : ∃ (ms : List ByteArray) (u v k : Int), ms.length ≤ 30 ∧ (∀ t ∈ ms, t.size ≤ 20) ∧ ev E1 5 [.lst 1 (cd x)] [] = some (.tup [.agg [.lst 1 (ms.map st)], nzA u v, i64 k], []) := by
  obtain ⟨T, H, ms, u, v, k, h1, h2, hT, e⟩ := drawRead x hx
  refine ⟨ms, u, v, k, h1, h2, ?_⟩
  have t1 : List.take ms.length (ms.map st) = ms.map st := List.take_of_length_le (by simp)
  rw [g5]
  rcases hT with ⟨rfl, rfl, rfl⟩ | ⟨rfl, rfl⟩
  · exact frz_to rfl e (by simp) (by simp [nzA])
  · unfold tr at e; exact frz_to rfl e (by simp) (by simp [nzA, t1])
theorem two_drawCR (x : List Int) (hx : okC x) : ∃ (ms : List ByteArray) (u v k q : Int), ms.length ≤ 30 ∧ (∀ t ∈ ms, t.size ≤ 20) ∧ ev E1 16 [.lst 1 (cd x)] [] = some (.tup [.agg [.lst 1 (ms.map st)], nzA u v, i64 k, i64 q], []) := by
  obtain ⟨T, H, ms, u, v, k, q, h1, h2, hT, e⟩ := drawCR x hx
  refine ⟨ms, u, v, k, q, h1, h2, ?_⟩
  have t1 : List.take ms.length (ms.map st) = ms.map st := List.take_of_length_le (by simp)
  rw [g16]
  rcases hT with ⟨rfl, rfl, rfl⟩ | ⟨rfl, rfl⟩
  · exact frz_to rfl e (by simp) (by simp [nzA])
  · unfold tr at e; exact frz_to rfl e (by simp) (by simp [nzA, t1])
theorem two_drawSent (x : List Int) (hx : okC x) : ∃ (ms : List ByteArray) (u v : Int) (t : ByteArray), ms.length ≤ 30 ∧ (∀ t ∈ ms, t.size ≤ 20) ∧ t.size ≤ 20 ∧ ev E1 10 [.lst 1 (cd x)] [] = some (.tup [.agg [.lst 1 (ms.map st)], nzA u v, st t], []) := by
  obtain ⟨T, H, ms, u, v, t, h1, h2, h3, hT, e⟩ := drawSent x hx
  refine ⟨ms, u, v, t, h1, h2, h3, ?_⟩
  have t1 : List.take ms.length (ms.map st) = ms.map st := List.take_of_length_le (by simp)
  rw [g10]
  rcases hT with ⟨rfl, rfl, rfl⟩ | ⟨rfl, rfl⟩
  · exact frz_to rfl e (by simp) (by simp [nzA])
  · unfold tr at e; exact frz_to rfl e (by simp) (by simp [nzA, t1])
theorem two_drawComes (x : List Int) (hx : okC x) : ∃ (u v : Int) (t w : ByteArray), t.size ≤ 20 ∧ w.size ≤ 20 ∧ ev E1 19 [.lst 1 (cd x)] [] = some (.tup [nzA u v, st t, st w], []) := by
  obtain ⟨u, v, t, z, h1, h2, e⟩ := drawComes x hx
  refine ⟨u, v, t, z, h1, h2, ?_⟩
  rw [g19]
  exact frz_to rfl e (by simp) (by simp [nzA])
end Go.Proofs.YtpfefmofecmjjaaDoor.Ev
