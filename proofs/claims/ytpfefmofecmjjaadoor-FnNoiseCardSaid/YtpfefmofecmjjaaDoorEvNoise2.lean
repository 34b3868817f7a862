/- What comes of letters with a noise; the reference's functions and the program's. -/
import Derived.Test.YtpfefmofecmjjaaDoorEvNoise1
set_option linter.unusedVariables false
set_option linter.unusedSimpArgs false
namespace Go.Proofs.YtpfefmofecmjjaaDoor.Ev
open Fr Nz
def inR (n : Nat) (k : Int) : Bool := decide (0 ≤ k) && decide (k ≤ (n : Int) - 1)
theorem inR_b {n : Nat} {k : Int} (h : inR n k = true) : ∃ j : Nat, k = j ∧ j < n := by
  unfold inR at h
  rw [Bool.and_eq_true, decide_eq_true_eq, decide_eq_true_eq] at h
  exact ⟨k.toNat, by omega, by omega⟩
theorem letter_in (ms : List ByteArray) (hm : ms.length ≤ 1000) (k : Int) : ev E0 49 [.agg [.lst 1 (ms.map st)], i64 k] [] = some (bl (inR ms.length k), []) := by
  have hw : IntKind.i64.wrap ((ms.length : Int) - 1) = (ms.length : Int) - 1 := wr64 (by omega) (by omega)
  have h := in_i k 0 ((ms.length : Int) - 1)
  rw [e49]
  unfold runF inR
  simp -implicitDefEqProofs [L49, hw, h]
theorem noisy_loop (ms : List ByteArray) (hm : ms.length ≤ 1000) (a b : Int) (ls : List Int) (hl : ls.length ≤ 1000) : ∀ (t : List Int) (i : Nat), ls.drop i = t →
    (t.all (inR ms.length) = true → packX 0 [3, 4, 6] (loopW (bd E0 (ev E0) loopW 0 [3, 4, 9, 10, 11] L31b0) ⟨[(3, .ptr 0 0 0), (4, .ptr 1 0 0), (9, .lst 1 (ls.map i64)), (10, i64 ls.length), (11, i64 i)], [some ⟨26, 1, 0, false, [.agg [.lst 1 (ms.map st)]]⟩, some ⟨28, 2, 0, false, [.agg [i64 a, i64 b]]⟩]⟩) = some (.ext 0, ⟨[(3, .ptr 0 0 0), (4, .ptr 1 0 0)], [some ⟨26, 1, 0, false, [.agg [.lst 1 (ms.map st)]]⟩, some ⟨28, 2, 0, false, [.agg [i64 a, i64 b]]⟩]⟩)) ∧
    (t.all (inR ms.length) = false → packX 0 [3, 4, 6] (loopW (bd E0 (ev E0) loopW 0 [3, 4, 9, 10, 11] L31b0) ⟨[(3, .ptr 0 0 0), (4, .ptr 1 0 0), (9, .lst 1 (ls.map i64)), (10, i64 ls.length), (11, i64 i)], [some ⟨26, 1, 0, false, [.agg [.lst 1 (ms.map st)]]⟩, some ⟨28, 2, 0, false, [.agg [i64 a, i64 b]]⟩]⟩) = some (.ret, ⟨[(3, .ptr 0 0 0), (4, .ptr 1 0 0), (6, bl false)], [some ⟨26, 1, 0, false, [.agg [.lst 1 (ms.map st)]]⟩, some ⟨28, 2, 0, false, [.agg [i64 a, i64 b]]⟩]⟩)) := by
  intro t
  induction t with
  | nil =>
    intro i h
    have hi := not_drop h
    have hi2 : ¬ (i : Int) < (ls.length : Int) := by omega
    rw [loopW_eq]
    generalize loopW (bd E0 (ev E0) loopW 0 [3, 4, 9, 10, 11] L31b0) = K
    refine ⟨fun _ => ?_, fun h => (by simp at h)⟩
    simp -implicitDefEqProofs [bd, L31b0, hi, hi2]
  | cons c t ih =>
    intro i h
    obtain ⟨hi, hx, hd, hmem⟩ := at_drop h
    have hi2 : (i : Int) < (ls.length : Int) := by omega
    have hw : IntKind.i64.wrap ((i : Int) + 1) = (i : Int) + 1 := wr64 (by omega) (by omega)
    obtain ⟨ih1, ih2⟩ := ih (i + 1) hd
    have hj := letter_in ms hm c
    rw [cs1] at ih1 ih2
    rw [loopW_eq, List.all_cons]
    generalize loopW (bd E0 (ev E0) loopW 0 [3, 4, 9, 10, 11] L31b0) = K at ih1 ih2 ⊢
    cases ho : inR ms.length c with
    | false =>
      rw [ho] at hj
      refine ⟨fun h => (by simp at h), fun _ => ?_⟩
      simp -implicitDefEqProofs [bd, L31b0, hi, hi2, hx, hj]
    | true =>
      rw [ho] at hj
      refine ⟨fun h => ?_, fun h => ?_⟩
      · simpa -implicitDefEqProofs [bd, L31b0, hi, hi2, hx, hj, hw] using ih1 (by simpa using h)
      · simpa -implicitDefEqProofs [bd, L31b0, hi, hi2, hx, hj, hw] using ih2 (by simpa using h)
def okNy (ms : List ByteArray) (a b : Int) : Bool := okTable ms && okNz a b
theorem noisy_i (ms : List ByteArray) (hm : ms.length ≤ 1000) (hs : ∀ x ∈ ms, x.size ≤ 1000) (a b : Int) (ls : List Int) (hl : ls.length ≤ 1000) : ev E0 31 [.agg [.lst 1 (ms.map st)], nzA a b, .lst 1 (ls.map i64)] [] = some (bl (ls.all (inR ms.length) && okNy ms a b), []) := by
  have ht := table_i ms (by omega) (fun x hx => by have := hs x hx; omega)
  have hn := noise_i a b
  obtain ⟨k1, k2⟩ := noisy_loop ms hm a b ls hl ls 0 rfl
  rw [c0] at k1 k2
  rw [e31]
  unfold runF okNy
  unfold nzA at hn ⊢
  cases hc : ls.all (inR ms.length) with
  | false => simp -implicitDefEqProofs [L31, k2 hc]
  | true =>
    cases ho : okTable ms with
    | false => rw [ho] at ht; simp -implicitDefEqProofs [L31, k1 hc, ht]
    | true => rw [ho] at ht; simp -implicitDefEqProofs [L31, k1 hc, ht, hn]
theorem noisy_none (ms : List ByteArray) (hm : ms.length ≤ 1000) (hs : ∀ x ∈ ms, x.size ≤ 1000) (a b : Int) : ev E0 31 [.agg [.lst 1 (ms.map st)], nzA a b, .v (.slice none 0 0)] [] = some (bl (okNy ms a b), []) := by
  have ht := table_i ms (by omega) (fun x hx => by have := hs x hx; omega)
  have hn := noise_i a b
  rw [e31]
  unfold runF okNy
  unfold nzA at hn ⊢
  cases ho : okTable ms with
  | false => rw [ho] at ht; simp -implicitDefEqProofs [L31, loopW_eq, bd, L31b0, ht]
  | true => rw [ho] at ht; simp -implicitDefEqProofs [L31, loopW_eq, bd, L31b0, ht, hn]
theorem l7letter (ms : List ByteArray) (hm : ms.length ≤ 1000) (hs : ∀ x ∈ ms, x.size ≤ 1000) (a b k : Int) : ev E0 35 [.agg [.lst 1 (ms.map st)], nzA a b, i64 k] [] = some (bl (okNy ms a b && inR ms.length k), []) := by
  have ht := table_s ms (by omega) (fun x hx => by have := hs x hx; omega)
  have hn := noise_s a b
  have hw : IntKind.i64.wrap ((ms.length : Int) - 1) = (ms.length : Int) - 1 := wr64 (by omega) (by omega)
  have h := in_s k 0 ((ms.length : Int) - 1)
  rw [e35]
  unfold runF okNy inR
  unfold nzA at hn ⊢
  cases ho : okTable ms with
  | false => rw [ho] at ht; simp -implicitDefEqProofs [L35, ht]
  | true =>
    rw [ho] at ht
    cases hz : okNz a b with
    | false => rw [hz] at hn; simp -implicitDefEqProofs [L35, ht, hn]
    | true => rw [hz] at hn; simp -implicitDefEqProofs [L35, ht, hn, hw, h]
theorem chk_marks : ∀ (t seen : List ByteArray), chk seen t = true → ∀ m ∈ t, okMarks m 1 5 = true
  | [], seen, h, m, hm => by cases hm
  | x :: t, seen, h, m, hm => by
    unfold chk at h
    simp only [Bool.and_eq_true] at h
    rcases List.mem_cons.1 hm with e | e
    · subst e; simp_all
    · exact chk_marks t _ h.2.2 m e
theorem chk_nodup : ∀ (t seen : List ByteArray), chk seen t = true → t.Nodup ∧ ∀ m ∈ t, m ∉ seen
  | [], seen, h => ⟨List.nodup_nil, fun m hm => by cases hm⟩
  | x :: t, seen, h => by
    unfold chk at h
    simp only [Bool.and_eq_true, Bool.not_eq_true', decide_eq_false_iff_not] at h
    obtain ⟨h1, h2, h3⟩ := h
    obtain ⟨k1, k2⟩ := chk_nodup t _ h3
    have hx : x ∉ seen := by
      rcases place_nat x seen 0 with ⟨_, h⟩ | ⟨h, _⟩
      · exact h
      · exact absurd h h2
    refine ⟨List.nodup_cons.2 ⟨fun hm => k2 x hm (by simp), k1⟩, fun m hm => ?_⟩
    rcases List.mem_cons.1 hm with e | e
    · subst e; exact hx
    · exact fun hs => k2 m e (by simp [hs])
theorem okTable_b {ms : List ByteArray} (h : okTable ms = true) : 1 ≤ ms.length ∧ ms.length ≤ 10 ∧ (∀ m ∈ ms, okMarks m 1 5 = true) := by
  unfold okTable at h
  rw [Bool.and_eq_true, Bool.and_eq_true, decide_eq_true_eq, decide_eq_true_eq] at h
  exact ⟨by omega, by omega, chk_marks ms [] h.2⟩
theorem okTable_nodup {ms : List ByteArray} (h : okTable ms = true) : ms.Nodup := by
  unfold okTable at h
  rw [Bool.and_eq_true] at h
  exact (chk_nodup ms [] h.2).1
theorem okMarks_b {m : ByteArray} (h : okMarks m 1 5 = true) : 1 ≤ m.size ∧ m.size ≤ 5 ∧ ∀ y ∈ B m, y = 46 ∨ y = 45 := by
  unfold okMarks at h
  rw [Bool.and_eq_true, Bool.and_eq_true, decide_eq_true_eq, decide_eq_true_eq] at h
  refine ⟨by omega, by omega, fun y hy => ?_⟩
  have := List.all_eq_true.1 h.1 y hy
  unfold okM at this
  simpa using this
/-- The chances of all letters out of one. -/
def rowF (n d : Nat) (s : ByteArray) (m : ByteArray) : Nat × Nat := cut (wh n d (B s) (B m)) (d ^ 5)
theorem wh_big {n d : Nat} (hn : n ≤ d) (hd : d ≤ 100) (s m : ByteArray) (hs : s.size ≤ 5) : wh n d (B s) (B m) ≤ 10000000000 := by
  have h1 := wh_le n d hn (B s) (B m) (by rw [B_len]; exact hs)
  have h2 := pow_b (i := 5) hd (by omega)
  omega

theorem row_loop_s (n d : Nat) (hn : n ≤ d) (hd : d ≤ 100) (hd0 : 1 ≤ d) (ms : List ByteArray) (hm : ms.length ≤ 1000) (j : Nat) (hj : j < ms.length) (s : ByteArray) (hs0 : ms[j] = s) (hs : s.size ≤ 5) : ∀ (t : List ByteArray) (i : Nat) (acc : List (Nat × Nat)), ms.drop i = t → acc.length = i →
    packX 0 [8] (loopW (bd E0 (ev E0) loopW 0 [2, 3, 4, 8, 9] L7b0) ⟨[(2, i64 j), (3, .ptr 0 0 0), (4, .ptr 1 0 0), (8, .sl 2 0 acc.length), (9, i64 i)], [some ⟨26, 1, 0, false, [.agg [.lst 1 (ms.map st)]]⟩, some ⟨28, 2, 0, false, [.agg [i64 ((n : Nat) : Int), i64 ((d : Nat) : Int)]]⟩, some ⟨34, 2, 1, false, (acc).map pr⟩]⟩) = some (.ext 0, ⟨[(8, .sl 0 0 (acc ++ t.map (rowF n d s)).length)], [some ⟨34, 2, 1, false, (acc ++ t.map (rowF n d s)).map pr⟩]⟩) := by
  have hjj : (j : Int) < (ms.length : Int) := by omega
  have hgj : ∀ h, ms[j]'h = s := fun _ => hs0
  intro t
  induction t with
  | nil =>
    intro i acc h ha
    have hi := not_drop h
    have hi2 : ¬ (i : Int) < (ms.length : Int) := by omega
    rw [List.map_nil, List.append_nil, loopW_eq]
    generalize acc.map pr = A
    generalize loopW (bd E0 (ev E0) loopW 0 [2, 3, 4, 8, 9] L7b0) = K
    simp -implicitDefEqProofs [bd, L7b0, hi, hi2]
  | cons m t ih =>
    intro i acc h ha
    obtain ⟨hi, hx, hdr, hmem⟩ := at_drop h
    have hih := ih (i + 1) (acc ++ [rowF n d s m]) hdr (by rw [List.length_append, ha]; rfl)
    have hi2 : (i : Int) < (ms.length : Int) := by omega
    have hw : IntKind.i64.wrap ((i : Int) + 1) = (i : Int) + 1 := wr64 (by omega) (by omega)
    have f1 := whole_s n d hn hd s m hs
    have f2 := all_s (n : Int) d hd
    have hp0 : 0 < d ^ 5 := Nat.pow_pos (by omega)
    have hb5 := pow_b (i := 5) hd (by omega)
    have hbw := wh_big hn hd s m hs
    have f3 := cut_s (wh n d (B s) (B m)) (d ^ 5) hp0 (by omega) (by omega)
    change _ = some (pr (rowF n d s m), []) at f3
    have hl1 : (acc.length + 1) * 16 ≤ 140737488355328 := by omega
    have hl2 : acc.length + 1 ≤ 140737488355328 := by omega
    have htk : List.take acc.length (acc.map pr) = acc.map pr := List.take_of_length_le (by simp)
    have hal : (acc.map pr).length = acc.length := List.length_map _
    have hap : (acc ++ [rowF n d s m]).map pr = acc.map pr ++ [pr (rowF n d s m)] := by simp
    have hcat : acc ++ (m :: t).map (rowF n d s) = acc ++ [rowF n d s m] ++ t.map (rowF n d s) := by simp
    have hpl : (acc ++ [rowF n d s m]).length = acc.length + 1 := by simp
    rw [cs1, hap, hpl] at hih
    unfold nzA at f1 f2
    rw [hcat, loopW_eq]
    clear hp0 hb5 hbw hap hcat hpl
    generalize (acc ++ [rowF n d s m] ++ t.map (rowF n d s)).map pr = R at hih ⊢
    generalize (acc ++ [rowF n d s m] ++ t.map (rowF n d s)).length = Rn at hih ⊢
    generalize acc.map pr = A at hih htk hal ⊢
    generalize ((d ^ 5 : Nat) : Int) = d5 at *
    generalize ((wh n d (B s) (B m) : Nat) : Int) = wv at *
    have hol2 : acc.length ≤ A.length := by omega
    unfold pr at f3 hih
    generalize rowF n d s m = rv at *
    generalize loopW (bd E0 (ev E0) loopW 0 [2, 3, 4, 8, 9] L7b0) = K at hih ⊢
    simpa -implicitDefEqProofs [bd, L7b0, hi, hi2, hx, hj, hjj, hgj, f1, f2, f3, hw, hl1, hl2, htk, hal, hol2] using hih

theorem row_loop_i (n d : Nat) (hn : n ≤ d) (hd : d ≤ 100) (hd0 : 1 ≤ d) (ms : List ByteArray) (hm : ms.length ≤ 1000) (j : Nat) (hj : j < ms.length) (s : ByteArray) (hs0 : ms[j] = s) (hs : s.size ≤ 5) : ∀ (t : List ByteArray) (i : Nat) (acc : List (Nat × Nat)), ms.drop i = t → acc.length = i →
    packX 0 [8] (loopW (bd E0 (ev E0) loopW 0 [2, 3, 4, 8, 19, 20, 21] L6b0) ⟨[(2, i64 j), (3, .ptr 0 0 0), (4, .ptr 1 0 0), (8, .sl 2 0 acc.length), (19, .lst 1 (ms.map st)), (20, i64 ms.length), (21, i64 i)], [some ⟨26, 1, 0, false, [.agg [.lst 1 (ms.map st)]]⟩, some ⟨28, 2, 0, false, [.agg [i64 ((n : Nat) : Int), i64 ((d : Nat) : Int)]]⟩, some ⟨34, 2, 1, false, (acc).map pr⟩]⟩) = some (.ext 0, ⟨[(8, .sl 0 0 (acc ++ t.map (rowF n d s)).length)], [some ⟨34, 2, 1, false, (acc ++ t.map (rowF n d s)).map pr⟩]⟩) := by
  have hjj : (j : Int) < (ms.length : Int) := by omega
  have hgj : ∀ h, ms[j]'h = s := fun _ => hs0
  intro t
  induction t with
  | nil =>
    intro i acc h ha
    have hi := not_drop h
    have hi2 : ¬ (i : Int) < (ms.length : Int) := by omega
    rw [List.map_nil, List.append_nil, loopW_eq]
    generalize acc.map pr = A
    generalize loopW (bd E0 (ev E0) loopW 0 [2, 3, 4, 8, 19, 20, 21] L6b0) = K
    simp -implicitDefEqProofs [bd, L6b0, hi, hi2]
  | cons m t ih =>
    intro i acc h ha
    obtain ⟨hi, hx, hdr, hmem⟩ := at_drop h
    have hih := ih (i + 1) (acc ++ [rowF n d s m]) hdr (by rw [List.length_append, ha]; rfl)
    have hi2 : (i : Int) < (ms.length : Int) := by omega
    have hw : IntKind.i64.wrap ((i : Int) + 1) = (i : Int) + 1 := wr64 (by omega) (by omega)
    have f1 := whole_i n d hn hd s m hs
    have f2 := all_i (n : Int) d hd
    have hp0 : 0 < d ^ 5 := Nat.pow_pos (by omega)
    have hb5 := pow_b (i := 5) hd (by omega)
    have hbw := wh_big hn hd s m hs
    have f3 := fraction_i (wh n d (B s) (B m)) (d ^ 5) hp0 (by omega) (by omega)
    change _ = some (pr (rowF n d s m), []) at f3
    have hl1 : (acc.length + 1) * 16 ≤ 140737488355328 := by omega
    have hl2 : acc.length + 1 ≤ 140737488355328 := by omega
    have htk : List.take acc.length (acc.map pr) = acc.map pr := List.take_of_length_le (by simp)
    have hal : (acc.map pr).length = acc.length := List.length_map _
    have hap : (acc ++ [rowF n d s m]).map pr = acc.map pr ++ [pr (rowF n d s m)] := by simp
    have hcat : acc ++ (m :: t).map (rowF n d s) = acc ++ [rowF n d s m] ++ t.map (rowF n d s) := by simp
    have hpl : (acc ++ [rowF n d s m]).length = acc.length + 1 := by simp
    rw [cs1, hap, hpl] at hih
    unfold nzA at f1 f2
    rw [hcat, loopW_eq]
    clear hp0 hb5 hbw hap hcat hpl
    generalize (acc ++ [rowF n d s m] ++ t.map (rowF n d s)).map pr = R at hih ⊢
    generalize (acc ++ [rowF n d s m] ++ t.map (rowF n d s)).length = Rn at hih ⊢
    generalize acc.map pr = A at hih htk hal ⊢
    generalize ((d ^ 5 : Nat) : Int) = d5 at *
    generalize ((wh n d (B s) (B m) : Nat) : Int) = wv at *
    have hol2 : acc.length ≤ A.length := by omega
    unfold pr at f3 hih
    generalize rowF n d s m = rv at *
    generalize loopW (bd E0 (ev E0) loopW 0 [2, 3, 4, 8, 19, 20, 21] L6b0) = K at hih ⊢
    simpa -implicitDefEqProofs [bd, L6b0, hi, hi2, hx, hj, hjj, hgj, f1, f2, f3, hw, hl1, hl2, htk, hal, hol2] using hih

theorem rest_loop_s (n d : Nat) (hn : n ≤ d) (hd : d ≤ 100) (ms : List ByteArray) (hm : ms.length ≤ 1000) (j : Nat) (hj : j < ms.length) (s : ByteArray) (hs0 : ms[j] = s) (hs : s.size ≤ 5) : ∀ (t : List ByteArray) (i : Nat) (c : Int), ms.drop i = t → c ≤ 10000000000 → -(10000000000 * i) ≤ c →
    packX 0 [4, 6, 8] (loopW (bd E0 (ev E0) loopW 0 [2, 3, 4, 6, 8, 9] L9b0) ⟨[(2, i64 j), (3, .ptr 0 0 0), (4, .ptr 1 0 0), (6, .ptr 2 0 0), (8, i64 c), (9, i64 i)], [some ⟨26, 1, 0, false, [.agg [.lst 1 (ms.map st)]]⟩, some ⟨28, 2, 0, false, [.agg [i64 ((n : Nat) : Int), i64 ((d : Nat) : Int)]]⟩, some ⟨34, 2, 0, false, [.agg [i64 0, i64 0]]⟩]⟩) = some (.ext 0, ⟨[(4, .ptr 0 0 0), (6, .ptr 1 0 0), (8, i64 (c - ((sumW (wh n d (B s)) (t.map B) : Nat) : Int)))], [some ⟨28, 2, 0, false, [.agg [i64 ((n : Nat) : Int), i64 ((d : Nat) : Int)]]⟩, some ⟨34, 2, 0, false, [.agg [i64 0, i64 0]]⟩]⟩) := by
  have hjj : (j : Int) < (ms.length : Int) := by omega
  have hgj : ∀ h, ms[j]'h = s := fun _ => hs0
  intro t
  induction t with
  | nil =>
    intro i c h h1 h2
    have hi := not_drop h
    have hi2 : ¬ (i : Int) < (ms.length : Int) := by omega
    rw [List.map_nil, sumW, c0, Int.sub_zero, loopW_eq]
    generalize loopW (bd E0 (ev E0) loopW 0 [2, 3, 4, 6, 8, 9] L9b0) = K
    simp -implicitDefEqProofs [bd, L9b0, hi, hi2]
  | cons m t ih =>
    intro i c h h1 h2
    obtain ⟨hi, hx, hdr, hmem⟩ := at_drop h
    have hbw := wh_big hn hd s m hs
    have hih := ih (i + 1) (c - ((wh n d (B s) (B m) : Nat) : Int)) hdr (by omega) (by omega)
    have hi2 : (i : Int) < (ms.length : Int) := by omega
    have hw : IntKind.i64.wrap ((i : Int) + 1) = (i : Int) + 1 := wr64 (by omega) (by omega)
    have f1 := whole_s n d hn hd s m hs
    have hws : IntKind.i64.wrap (c - ((wh n d (B s) (B m) : Nat) : Int)) = c - ((wh n d (B s) (B m) : Nat) : Int) := wr64 (by omega) (by omega)
    have hsum : c - ((sumW (wh n d (B s)) ((m :: t).map B) : Nat) : Int) = c - ((wh n d (B s) (B m) : Nat) : Int) - ((sumW (wh n d (B s)) (t.map B) : Nat) : Int) := by rw [List.map_cons, sumW]; omega
    rw [cs1] at hih
    unfold nzA at f1
    rw [hsum, loopW_eq]
    clear hsum hbw
    generalize c - ((wh n d (B s) (B m) : Nat) : Int) - ((sumW (wh n d (B s)) (t.map B) : Nat) : Int) = R at hih ⊢
    generalize ((wh n d (B s) (B m) : Nat) : Int) = wv at *
    generalize loopW (bd E0 (ev E0) loopW 0 [2, 3, 4, 6, 8, 9] L9b0) = K at hih ⊢
    simpa -implicitDefEqProofs [bd, L9b0, hi, hi2, hx, hj, hjj, hgj, f1, hw, hws] using hih

theorem rest_loop_i (n d : Nat) (hn : n ≤ d) (hd : d ≤ 100) (ms : List ByteArray) (hm : ms.length ≤ 1000) (j : Nat) (hj : j < ms.length) (s : ByteArray) (hs0 : ms[j] = s) (hs : s.size ≤ 5) : ∀ (t : List ByteArray) (i : Nat) (c : Int), ms.drop i = t → c ≤ 10000000000 → -(10000000000 * i) ≤ c →
    packX 0 [4, 6, 8] (loopW (bd E0 (ev E0) loopW 0 [2, 3, 4, 6, 8, 21, 22, 23] L8b0) ⟨[(2, i64 j), (3, .ptr 0 0 0), (4, .ptr 1 0 0), (6, .ptr 2 0 0), (8, i64 c), (21, .lst 1 (ms.map st)), (22, i64 ms.length), (23, i64 i)], [some ⟨26, 1, 0, false, [.agg [.lst 1 (ms.map st)]]⟩, some ⟨28, 2, 0, false, [.agg [i64 ((n : Nat) : Int), i64 ((d : Nat) : Int)]]⟩, some ⟨34, 2, 0, false, [.agg [i64 0, i64 0]]⟩]⟩) = some (.ext 0, ⟨[(4, .ptr 0 0 0), (6, .ptr 1 0 0), (8, i64 (c - ((sumW (wh n d (B s)) (t.map B) : Nat) : Int)))], [some ⟨28, 2, 0, false, [.agg [i64 ((n : Nat) : Int), i64 ((d : Nat) : Int)]]⟩, some ⟨34, 2, 0, false, [.agg [i64 0, i64 0]]⟩]⟩) := by
  have hjj : (j : Int) < (ms.length : Int) := by omega
  have hgj : ∀ h, ms[j]'h = s := fun _ => hs0
  intro t
  induction t with
  | nil =>
    intro i c h h1 h2
    have hi := not_drop h
    have hi2 : ¬ (i : Int) < (ms.length : Int) := by omega
    rw [List.map_nil, sumW, c0, Int.sub_zero, loopW_eq]
    generalize loopW (bd E0 (ev E0) loopW 0 [2, 3, 4, 6, 8, 21, 22, 23] L8b0) = K
    simp -implicitDefEqProofs [bd, L8b0, hi, hi2]
  | cons m t ih =>
    intro i c h h1 h2
    obtain ⟨hi, hx, hdr, hmem⟩ := at_drop h
    have hbw := wh_big hn hd s m hs
    have hih := ih (i + 1) (c - ((wh n d (B s) (B m) : Nat) : Int)) hdr (by omega) (by omega)
    have hi2 : (i : Int) < (ms.length : Int) := by omega
    have hw : IntKind.i64.wrap ((i : Int) + 1) = (i : Int) + 1 := wr64 (by omega) (by omega)
    have f1 := whole_i n d hn hd s m hs
    have hws : IntKind.i64.wrap (c - ((wh n d (B s) (B m) : Nat) : Int)) = c - ((wh n d (B s) (B m) : Nat) : Int) := wr64 (by omega) (by omega)
    have hsum : c - ((sumW (wh n d (B s)) ((m :: t).map B) : Nat) : Int) = c - ((wh n d (B s) (B m) : Nat) : Int) - ((sumW (wh n d (B s)) (t.map B) : Nat) : Int) := by rw [List.map_cons, sumW]; omega
    rw [cs1] at hih
    unfold nzA at f1
    rw [hsum, loopW_eq]
    clear hsum hbw
    generalize c - ((wh n d (B s) (B m) : Nat) : Int) - ((sumW (wh n d (B s)) (t.map B) : Nat) : Int) = R at hih ⊢
    generalize ((wh n d (B s) (B m) : Nat) : Int) = wv at *
    generalize loopW (bd E0 (ev E0) loopW 0 [2, 3, 4, 6, 8, 21, 22, 23] L8b0) = K at hih ⊢
    simpa -implicitDefEqProofs [bd, L8b0, hi, hi2, hx, hj, hjj, hgj, f1, hw, hws] using hih

end Go.Proofs.YtpfefmofecmjjaaDoor.Ev
