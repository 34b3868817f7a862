/- The chances that letters were sent, the best guess; fractions added and held against each other. -/
import Derived.Test.YtpfefmofecmjjaaDoorEvNoise3
set_option linter.unusedVariables false
set_option linter.unusedSimpArgs false
namespace Go.Proofs.YtpfefmofecmjjaaDoor.Ev
open Fr Nz
def snt (n d : Nat) (c m : ByteArray) : Nat := wh n d (B m) (B c)
def sumS (n d : Nat) (c : ByteArray) : List ByteArray → Nat
  | [] => 0
  | m :: t => snt n d c m + sumS n d c t
def sentF (n d : Nat) (c : ByteArray) (S : Nat) (m : ByteArray) : Nat × Nat := cut (snt n d c m) S
theorem snt_b {n d : Nat} (hn : n ≤ d) (hd : d ≤ 100) (c m : ByteArray) (hm : m.size ≤ 5) : snt n d c m ≤ 10000000000 := wh_big hn hd m c hm
theorem sumS_b {n d : Nat} (hn : n ≤ d) (hd : d ≤ 100) (c : ByteArray) : ∀ (t : List ByteArray), (∀ m ∈ t, m.size ≤ 5) → sumS n d c t ≤ 10000000000 * t.length
  | [], _ => by simp [sumS]
  | m :: t, h => by
    have h1 := snt_b hn hd c m (h m (by simp))
    have h2 := sumS_b hn hd c t fun x hx => h x (by simp [hx])
    rw [sumS, List.length_cons]
    omega
theorem snt_le {n d : Nat} (c : ByteArray) : ∀ (t : List ByteArray) (m : ByteArray), m ∈ t → snt n d c m ≤ sumS n d c t
  | x :: t, m, h => by
    rw [sumS]
    rcases List.mem_cons.1 h with e | e
    · subst e; omega
    · have := snt_le (n := n) (d := d) c t m e; omega
theorem sent_loop (n d : Nat) (hn : n ≤ d) (hd : d ≤ 100) (ms : List ByteArray) (hm : ms.length ≤ 1000) (hs : ∀ m ∈ ms, m.size ≤ 5) (cc : ByteArray) : ∀ (t : List ByteArray) (i c : Nat), ms.drop i = t → c ≤ 10000000000 * i →
    packX 0 [2, 3, 4, 8] (loopW (bd E0 (ev E0) loopW 0 [2, 3, 4, 8, 24, 25, 26] L12b0) ⟨[(2, st cc), (3, .ptr 0 0 0), (4, .ptr 1 0 0), (8, i64 c), (24, .lst 1 (ms.map st)), (25, i64 ms.length), (26, i64 i)], [some ⟨26, 1, 0, false, [.agg [.lst 1 (ms.map st)]]⟩, some ⟨28, 2, 0, false, [.agg [i64 ((n : Nat) : Int), i64 ((d : Nat) : Int)]]⟩]⟩) = some (.ext 0, ⟨[(2, st cc), (3, .ptr 0 0 0), (4, .ptr 1 0 0), (8, i64 ((c + sumS n d cc t : Nat) : Int))], [some ⟨26, 1, 0, false, [.agg [.lst 1 (ms.map st)]]⟩, some ⟨28, 2, 0, false, [.agg [i64 ((n : Nat) : Int), i64 ((d : Nat) : Int)]]⟩]⟩) := by
  intro t
  induction t with
  | nil =>
    intro i c h h1
    have hi := not_drop h
    have hi2 : ¬ (i : Int) < (ms.length : Int) := by omega
    rw [sumS, Nat.add_zero, loopW_eq]
    generalize loopW (bd E0 (ev E0) loopW 0 [2, 3, 4, 8, 24, 25, 26] L12b0) = K
    simp -implicitDefEqProofs [bd, L12b0, hi, hi2]
  | cons m t ih =>
    intro i c h h1
    obtain ⟨hi, hx, hdr, hmem⟩ := at_drop h
    have hbw := snt_b hn hd cc m (hs m hmem)
    have hih := ih (i + 1) (c + snt n d cc m) hdr (by omega)
    have hi2 : (i : Int) < (ms.length : Int) := by omega
    have hw : IntKind.i64.wrap ((i : Int) + 1) = (i : Int) + 1 := wr64 (by omega) (by omega)
    have f1 := whole_i n d hn hd m cc (hs m hmem)
    change _ = some (i64 ((snt n d cc m : Nat) : Int), []) at f1
    have hws : IntKind.i64.wrap ((c : Int) + ((snt n d cc m : Nat) : Int)) = ((c + snt n d cc m : Nat) : Int) := by rw [wr64 (by omega) (by omega)]; omega
    rw [cs1] at hih
    unfold nzA at f1
    rw [sumS, ← Nat.add_assoc, loopW_eq]
    clear hbw
    generalize ((c + snt n d cc m + sumS n d cc t : Nat) : Int) = R at hih ⊢
    generalize ((c + snt n d cc m : Nat) : Int) = c2 at hih hws
    generalize ((snt n d cc m : Nat) : Int) = wv at *
    generalize loopW (bd E0 (ev E0) loopW 0 [2, 3, 4, 8, 24, 25, 26] L12b0) = K at hih ⊢
    simpa -implicitDefEqProofs [bd, L12b0, hi, hi2, hx, f1, hw, hws] using hih
theorem sentI_loop (n d : Nat) (hn : n ≤ d) (hd : d ≤ 100) (ms : List ByteArray) (hm : ms.length ≤ 1000) (hs : ∀ m ∈ ms, m.size ≤ 5) (cc : ByteArray) (S : Nat) (hS : 0 < S) (hSb : S ≤ 1000000000000000) : ∀ (t : List ByteArray) (i : Nat) (acc : List (Nat × Nat)), ms.drop i = t → acc.length = i →
    packX 0 [11] (loopW (bd E0 (ev E0) loopW 0 [2, 4, 8, 11, 41, 42, 43] L12b1) ⟨[(2, st cc), (4, .ptr 0 0 0), (8, i64 S), (11, .sl 1 0 acc.length), (41, .lst 1 (ms.map st)), (42, i64 ms.length), (43, i64 i)], [some ⟨28, 2, 0, false, [.agg [i64 ((n : Nat) : Int), i64 ((d : Nat) : Int)]]⟩, some ⟨34, 2, 1, false, acc.map pr⟩]⟩) = some (.ext 2, ⟨[(11, .sl 0 0 (acc ++ t.map (sentF n d cc S)).length)], [some ⟨34, 2, 1, false, (acc ++ t.map (sentF n d cc S)).map pr⟩]⟩) := by
  intro t
  induction t with
  | nil =>
    intro i acc h ha
    have hi := not_drop h
    have hi2 : ¬ (i : Int) < (ms.length : Int) := by omega
    rw [List.map_nil, List.append_nil, loopW_eq]
    generalize acc.map pr = A
    generalize loopW (bd E0 (ev E0) loopW 0 [2, 4, 8, 11, 41, 42, 43] L12b1) = K
    simp -implicitDefEqProofs [bd, L12b1, hi, hi2]
  | cons m t ih =>
    intro i acc h ha
    obtain ⟨hi, hx, hdr, hmem⟩ := at_drop h
    have hih := ih (i + 1) (acc ++ [sentF n d cc S m]) hdr (by rw [List.length_append, ha]; rfl)
    have hi2 : (i : Int) < (ms.length : Int) := by omega
    have hw : IntKind.i64.wrap ((i : Int) + 1) = (i : Int) + 1 := wr64 (by omega) (by omega)
    have f1 := whole_i n d hn hd m cc (hs m hmem)
    change _ = some (i64 ((snt n d cc m : Nat) : Int), []) at f1
    have hbw := snt_b hn hd cc m (hs m hmem)
    have f3 := fraction_i (snt n d cc m) S hS (by omega) hSb
    change _ = some (pr (sentF n d cc S m), []) at f3
    have hl1 : (acc.length + 1) * 16 ≤ 140737488355328 := by omega
    have hl2 : acc.length + 1 ≤ 140737488355328 := by omega
    have htk : List.take acc.length (acc.map pr) = acc.map pr := List.take_of_length_le (by simp)
    have hal : (acc.map pr).length = acc.length := List.length_map _
    have hap : (acc ++ [sentF n d cc S m]).map pr = acc.map pr ++ [pr (sentF n d cc S m)] := by simp
    have hcat : acc ++ (m :: t).map (sentF n d cc S) = acc ++ [sentF n d cc S m] ++ t.map (sentF n d cc S) := by simp
    have hpl : (acc ++ [sentF n d cc S m]).length = acc.length + 1 := by simp
    rw [cs1, hap, hpl] at hih
    unfold nzA at f1
    rw [hcat, loopW_eq]
    clear hbw hap hcat hpl
    generalize (acc ++ [sentF n d cc S m] ++ t.map (sentF n d cc S)).map pr = R at hih ⊢
    generalize (acc ++ [sentF n d cc S m] ++ t.map (sentF n d cc S)).length = Rn at hih ⊢
    generalize acc.map pr = A at hih htk hal ⊢
    generalize ((snt n d cc m : Nat) : Int) = wv at *
    have hol2 : acc.length ≤ A.length := by omega
    unfold pr at f3 hih
    generalize sentF n d cc S m = rv at *
    generalize loopW (bd E0 (ev E0) loopW 0 [2, 4, 8, 11, 41, 42, 43] L12b1) = K at hih ⊢
    simpa -implicitDefEqProofs [bd, L12b1, hi, hi2, hx, f1, f3, hw, hl1, hl2, htk, hal, hol2] using hih
def oks (ms : List ByteArray) (a b : Int) (c : ByteArray) : Bool := okNy ms a b && okMarks c 1 5
def sumO (ms : List ByteArray) (a b : Int) (c : ByteArray) : Nat := sumS (nz1 a) (nz1 b) c ms
theorem sent_i (ms : List ByteArray) (hm : ms.length ≤ 100) (hs : ∀ x ∈ ms, x.size ≤ 1000) (a b : Int) (c : ByteArray) (hc : c.size ≤ 1000) : ev E0 12 [.agg [.lst 1 (ms.map st)], nzA a b, st c] [] = (if (oks ms a b c && decide (0 < sumO ms a b c)) = true then some (.tup [.sl 0 0 ms.length, bl true], [some (pb (ms.map (sentF (nz1 a) (nz1 b) c (sumO ms a b c))))]) else some (.tup [.v (.slice none 0 0), bl false], [])) := by
  have h1 := noisy_none ms (by omega) hs a b
  have h2 := letterMarks c (by omega)
  rw [e12]
  unfold runF oks
  cases o1 : okNy ms a b with
  | false => rw [o1] at h1; unfold nzA at h1 ⊢; simp -implicitDefEqProofs [L12, h1]
  | true =>
    rw [o1] at h1
    cases o2 : okMarks c 1 5 with
    | false => rw [o2] at h2; unfold nzA at h1 ⊢; simp -implicitDefEqProofs [L12, h1, h2]
    | true =>
      rw [o2] at h2
      unfold okNy at o1
      rw [Bool.and_eq_true] at o1
      obtain ⟨n, d, rfl, rfl, d1, d2, d3⟩ := okNz_b o1.2
      obtain ⟨t1, t2, t3⟩ := okTable_b o1.1
      have hs5 : ∀ m ∈ ms, m.size ≤ 5 := fun m hm => (okMarks_b (t3 m hm)).2.1
      have hl := sent_loop n d d3 d2 ms (by omega) hs5 c ms 0 0 rfl (by omega)
      have hb := sumS_b d3 d2 c ms hs5
      rw [c0, Nat.zero_add] at hl
      have e1 : nz1 (n : Int) = n := Int.toNat_natCast n
      have e2 : nz1 (d : Int) = d := Int.toNat_natCast d
      unfold sumO
      rw [e1, e2, Bool.and_self, Bool.true_and]
      generalize hSq : sumS n d c ms = S at *
      by_cases hz : S = 0
      · subst hz
        rw [c0] at hl
        unfold nzA at h1 ⊢
        simp -implicitDefEqProofs [L12, h1, h2, hl]
      · have hS : 0 < S := by omega
        have hz2 : ¬ (S : Int) = 0 := by omega
        have hl2 := sentI_loop n d d3 d2 ms (by omega) hs5 c S hS (by omega) ms 0 [] rfl rfl
        rw [List.nil_append, List.length_nil, List.map_nil, c0, List.length_map] at hl2
        rw [decide_eq_true hS, if_pos rfl]
        unfold pb
        unfold nzA at h1 ⊢
        generalize (ms.map (sentF n d c S)).map pr = R at *
        simp -implicitDefEqProofs [L12, h1, h2, hl, hz, hz2, hl2]
def ints (l : List Nat) : List AV := l.map fun x => i64 ((x : Nat) : Int)
theorem ints_len (l : List Nat) : (ints l).length = l.length := by simp [ints]
theorem l7sent_loop (n d : Nat) (hn : n ≤ d) (hd : d ≤ 100) (ms : List ByteArray) (hm : ms.length ≤ 1000) (hs : ∀ m ∈ ms, m.size ≤ 5) (cc : ByteArray) : ∀ (t : List ByteArray) (i c : Nat) (acc : List Nat), ms.drop i = t → c ≤ 10000000000 * i → acc.length = i →
    packX 0 [8, 9] (loopW (bd E0 (ev E0) loopW 0 [2, 3, 4, 8, 9, 10] L46b0) ⟨[(2, st cc), (3, .ptr 0 0 0), (4, .ptr 1 0 0), (8, .sl 2 0 acc.length), (9, i64 c), (10, i64 i)], [some ⟨26, 1, 0, false, [.agg [.lst 1 (ms.map st)]]⟩, some ⟨28, 2, 0, false, [.agg [i64 ((n : Nat) : Int), i64 ((d : Nat) : Int)]]⟩, some ⟨3, 1, 1, false, ints acc⟩]⟩) = some (.ext 0, ⟨[(8, .sl 0 0 (acc ++ t.map (snt n d cc)).length), (9, i64 ((c + sumS n d cc t : Nat) : Int))], [some ⟨3, 1, 1, false, ints (acc ++ t.map (snt n d cc))⟩]⟩) := by
  intro t
  induction t with
  | nil =>
    intro i c acc h h1 ha
    have hi := not_drop h
    have hi2 : ¬ (i : Int) < (ms.length : Int) := by omega
    rw [sumS, Nat.add_zero, List.map_nil, List.append_nil, loopW_eq]
    generalize ints acc = A
    generalize loopW (bd E0 (ev E0) loopW 0 [2, 3, 4, 8, 9, 10] L46b0) = K
    simp -implicitDefEqProofs [bd, L46b0, hi, hi2]
  | cons m t ih =>
    intro i c acc h h1 ha
    obtain ⟨hi, hx, hdr, hmem⟩ := at_drop h
    have hbw := snt_b hn hd cc m (hs m hmem)
    have hih := ih (i + 1) (c + snt n d cc m) (acc ++ [snt n d cc m]) hdr (by omega) (by rw [List.length_append, ha]; rfl)
    have hi2 : (i : Int) < (ms.length : Int) := by omega
    have hw : IntKind.i64.wrap ((i : Int) + 1) = (i : Int) + 1 := wr64 (by omega) (by omega)
    have f1 := whole_s n d hn hd m cc (hs m hmem)
    change _ = some (i64 ((snt n d cc m : Nat) : Int), []) at f1
    have hws : IntKind.i64.wrap ((c : Int) + ((snt n d cc m : Nat) : Int)) = ((c + snt n d cc m : Nat) : Int) := by rw [wr64 (by omega) (by omega)]; omega
    have hl1 : (acc.length + 1) * 8 ≤ 140737488355328 := by omega
    have hl2 : acc.length + 1 ≤ 140737488355328 := by omega
    have htk : List.take acc.length (ints acc) = ints acc := List.take_of_length_le (by rw [ints_len]; exact Nat.le_refl _)
    have hal := ints_len acc
    have hap : ints (acc ++ [snt n d cc m]) = ints acc ++ [i64 ((snt n d cc m : Nat) : Int)] := by simp [ints]
    have hcat : acc ++ (m :: t).map (snt n d cc) = acc ++ [snt n d cc m] ++ t.map (snt n d cc) := by simp
    have hpl : (acc ++ [snt n d cc m]).length = acc.length + 1 := by simp
    rw [cs1, hap, hpl] at hih
    unfold nzA at f1
    rw [sumS, ← Nat.add_assoc, hcat, loopW_eq]
    clear hbw hap hcat hpl
    generalize ints (acc ++ [snt n d cc m] ++ t.map (snt n d cc)) = R2 at hih ⊢
    generalize (acc ++ [snt n d cc m] ++ t.map (snt n d cc)).length = Rn at hih ⊢
    generalize ((c + snt n d cc m + sumS n d cc t : Nat) : Int) = R at hih ⊢
    generalize ((c + snt n d cc m : Nat) : Int) = c2 at hih hws
    generalize ((snt n d cc m : Nat) : Int) = wv at *
    generalize ints acc = A at hih htk hal ⊢
    have hol2 : acc.length ≤ A.length := by omega
    generalize loopW (bd E0 (ev E0) loopW 0 [2, 3, 4, 8, 9, 10] L46b0) = K at hih ⊢
    simpa -implicitDefEqProofs [bd, L46b0, hi, hi2, hx, f1, hw, hws, hl1, hl2, htk, hal, hol2] using hih
theorem l7sent (n d : Nat) (hn : n ≤ d) (hd : d ≤ 100) (ms : List ByteArray) (hm : ms.length ≤ 1000) (hs : ∀ m ∈ ms, m.size ≤ 5) (c : ByteArray) : ev E0 46 [.agg [.lst 1 (ms.map st)], nzA n d, st c] [] = some (.tup [.sl 0 0 ms.length, i64 ((sumS n d c ms : Nat) : Int)], [some ⟨3, 1, 1, false, ints (ms.map (snt n d c))⟩]) := by
  have hl := l7sent_loop n d hn hd ms hm hs c ms 0 0 [] rfl (by omega) rfl
  rw [List.nil_append, List.length_nil, c0, Nat.zero_add, List.length_map, show ints [] = [] from rfl] at hl
  rw [e46]
  unfold runF nzA
  generalize ((sumS n d c ms : Nat) : Int) = S at *
  generalize ints (ms.map (snt n d c)) = R at *
  simp -implicitDefEqProofs [L46, hl]
theorem ints_at {l : List Nat} {i x : Nat} (hi : i < l.length) (h : l[i] = x) : ∀ h, (ints l)[i]'h = i64 ((x : Nat) : Int) := fun h2 => by
  have h3 : (ints l)[i]? = some (i64 ((x : Nat) : Int)) := by unfold ints; rw [List.getElem?_map, List.getElem?_eq_getElem hi, h]; rfl
  exact (List.getElem?_eq_some_iff.1 h3).2
theorem sentS_loop (ps : List Nat) (hp : ps.length ≤ 1000) (hb : ∀ p ∈ ps, p ≤ 10000000000) (S : Nat) (hS : 0 < S) (hSb : S ≤ 1000000000000000) : ∀ (t : List Nat) (i : Nat) (acc : List (Nat × Nat)), ps.drop i = t → acc.length = i →
    packX 0 [8, 10] (loopW (bd E0 (ev E0) loopW 0 [8, 9, 10, 11] L13b0) ⟨[(8, .sl 0 0 acc.length), (9, .sl 1 0 ps.length), (10, i64 S), (11, i64 i)], [some ⟨34, 2, 1, false, acc.map pr⟩, some ⟨3, 1, 1, false, ints ps⟩]⟩) = some (.ext 0, ⟨[(8, .sl 0 0 (acc ++ t.map (fun p => cut p S)).length), (10, i64 S)], [some ⟨34, 2, 1, false, (acc ++ t.map (fun p => cut p S)).map pr⟩]⟩) := by
  intro t
  have hpl2 := ints_len ps
  induction t with
  | nil =>
    intro i acc h ha
    have hi := not_drop h
    have hi2 : ¬ (i : Int) < (ps.length : Int) := by omega
    rw [List.map_nil, List.append_nil, loopW_eq]
    generalize acc.map pr = A
    generalize ints ps = P at *
    generalize loopW (bd E0 (ev E0) loopW 0 [8, 9, 10, 11] L13b0) = K
    simp -implicitDefEqProofs [bd, L13b0, hi, hi2, hpl2]
  | cons p t ih =>
    intro i acc h ha
    obtain ⟨hi, hx, hdr, hmem⟩ := at_drop h
    have hih := ih (i + 1) (acc ++ [cut p S]) hdr (by rw [List.length_append, ha]; rfl)
    have hi2 : (i : Int) < (ps.length : Int) := by omega
    have hS2 : (0 : Int) < (S : Int) := by omega
    have hw : IntKind.i64.wrap ((i : Int) + 1) = (i : Int) + 1 := wr64 (by omega) (by omega)
    have hpb := hb p hmem
    have f3 := cut_s p S hS (by omega) hSb
    have g1 := ints_at hi hx
    have hl1 : (acc.length + 1) * 16 ≤ 140737488355328 := by omega
    have hl2 : acc.length + 1 ≤ 140737488355328 := by omega
    have htk : List.take acc.length (acc.map pr) = acc.map pr := List.take_of_length_le (by simp)
    have hal : (acc.map pr).length = acc.length := List.length_map _
    have hap : (acc ++ [cut p S]).map pr = acc.map pr ++ [pr (cut p S)] := by simp
    have hcat : acc ++ (p :: t).map (fun p => cut p S) = acc ++ [cut p S] ++ t.map (fun p => cut p S) := by simp
    have hpl : (acc ++ [cut p S]).length = acc.length + 1 := by simp
    rw [cs1, hap, hpl] at hih
    rw [hcat, loopW_eq]
    clear hap hcat hpl
    generalize (acc ++ [cut p S] ++ t.map (fun p => cut p S)).map pr = R at hih ⊢
    generalize (acc ++ [cut p S] ++ t.map (fun p => cut p S)).length = Rn at hih ⊢
    generalize acc.map pr = A at hih htk hal ⊢
    have hol2 : acc.length ≤ A.length := by omega
    unfold pr at f3 hih
    generalize cut p S = rv at *
    generalize ints ps = P at *
    generalize loopW (bd E0 (ev E0) loopW 0 [8, 9, 10, 11] L13b0) = K at hih ⊢
    simpa -implicitDefEqProofs [bd, L13b0, hi, hi2, hS, hS2, hx, f3, g1, hw, hl1, hl2, htk, hal, hol2, hpl2] using hih
theorem sent_s (ms : List ByteArray) (hm : ms.length ≤ 100) (hs : ∀ x ∈ ms, x.size ≤ 1000) (a b : Int) (c : ByteArray) (hc : c.size ≤ 1000) : ev E0 13 [.agg [.lst 1 (ms.map st)], nzA a b, st c] [] = (if (oks ms a b c && decide (0 < sumO ms a b c)) = true then some (.tup [.sl 0 0 ms.length, bl true], [some (pb (ms.map (sentF (nz1 a) (nz1 b) c (sumO ms a b c))))]) else some (.tup [.sl 0 0 0, bl false], [some ⟨34, 2, 1, false, []⟩])) := by
  have h0 := table_s ms (by omega) (fun x hx => by have := hs x hx; omega)
  have h1 := noise_s a b
  have h2 := marks_s c (by omega) 1 5
  rw [e13]
  unfold runF oks okNy
  cases o0 : okTable ms with
  | false => rw [o0] at h0; unfold nzA at h1 ⊢; simp -implicitDefEqProofs [L13, h0]
  | true =>
    rw [o0] at h0
    cases o1 : okNz a b with
    | false => rw [o1] at h1; unfold nzA at h1 ⊢; simp -implicitDefEqProofs [L13, h0, h1]
    | true =>
      rw [o1] at h1
      cases o2 : okMarks c 1 5 with
      | false => rw [o2] at h2; unfold nzA at h1 ⊢; simp -implicitDefEqProofs [L13, h0, h1, h2]
      | true =>
        rw [o2] at h2
        obtain ⟨n, d, rfl, rfl, d1, d2, d3⟩ := okNz_b o1
        obtain ⟨t1, t2, t3⟩ := okTable_b o0
        have hs5 : ∀ m ∈ ms, m.size ≤ 5 := fun m hm => (okMarks_b (t3 m hm)).2.1
        have hb := sumS_b d3 d2 c ms hs5
        have h3 := l7sent n d d3 d2 ms (by omega) hs5 c
        have e1 : nz1 (n : Int) = n := Int.toNat_natCast n
        have e2 : nz1 (d : Int) = d := Int.toNat_natCast d
        have hps : ∀ p ∈ ms.map (snt n d c), p ≤ 10000000000 := fun p hp => by
          obtain ⟨m, hm, rfl⟩ := List.mem_map.1 hp
          exact snt_b d3 d2 c m (hs5 m hm)
        unfold sumO
        rw [e1, e2, Bool.and_self, Bool.and_self, Bool.true_and]
        have hmm : (ms.map (snt n d c)).map (fun p => cut p (sumS n d c ms)) = ms.map (sentF n d c (sumS n d c ms)) := by rw [List.map_map]; rfl
        generalize hSq : sumS n d c ms = S at *
        have hpsl : (ms.map (snt n d c)).length = ms.length := List.length_map _
        by_cases hz : S = 0
        · subst hz
          rw [c0] at h3
          have hpl2 := ints_len (ms.map (snt n d c))
          rw [hpsl] at hpl2
          unfold nzA at h1 h3 ⊢
          generalize ints (ms.map (snt n d c)) = P at *
          by_cases hm0 : 0 < ms.length
          · have hm1 : (0 : Int) < (ms.length : Int) := by omega
            simp -implicitDefEqProofs [L13, h0, h1, h2, h3, loopW_eq, bd, L13b0, hm0, hm1, hpl2]
          · omega
        · have hS : 0 < S := by omega
          have hS2 : (0 : Int) < (S : Int) := by omega
          have hl2 := sentS_loop (ms.map (snt n d c)) (by omega) hps S hS (by omega) (ms.map (snt n d c)) 0 [] rfl rfl
          rw [List.nil_append, List.length_nil, List.map_nil, c0, hmm, List.length_map, List.length_map] at hl2
          rw [decide_eq_true hS, if_pos rfl]
          unfold pb
          unfold nzA at h1 h3 ⊢
          generalize (ms.map (sentF n d c S)).map pr = R at *
          generalize ints (ms.map (snt n d c)) = P at *
          simp -implicitDefEqProofs [L13, h0, h1, h2, h3, hl2, hS, hS2]
end Go.Proofs.YtpfefmofecmjjaaDoor.Ev
