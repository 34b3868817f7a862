/- The reference's depth, in the evaluator's words. -/
import Derived.Test.YtkajcafnfdlgpaaDoorEvDepth
set_option linter.unusedVariables false
set_option linter.unusedSimpArgs false
namespace Go.Proofs.YtkajcafnfdlgpaaDoor.Ev
@[simp] theorem take_i64n (l : List Nat) : List.take l.length (i64n l) = i64n l := List.take_of_length_le (by rw [i64n_len]; exact Nat.le_refl _)
@[simp] theorem free_nats (l : List Nat) : okL (free 5) (i64n l) = true := okL_map (fun _ => rfl) l
theorem most_s (a b : Nat) : ev E0 78 [i64 a, i64 b] [] = some (i64 ((max a b : Nat) : Int), []) := by
  rw [e78]
  unfold runF
  by_cases h : b < a
  · have h1 : max a b = a := by omega
    have h2 : (b : Int) < (a : Int) := by omega
    rw [h1]
    simp -implicitDefEqProofs [L78, h, h2]
  · have h1 : max a b = b := by omega
    have h2 : ¬ (b : Int) < (a : Int) := by omega
    rw [h1]
    simp -implicitDefEqProofs [L78, h, h2]
def inS (ms : List ByteArray) (l : List Nat) (best first : Int) (q w k : Nat) (a b c : List Nat) : St :=
  ⟨[(1, .lst 1 (i64n l)), (2, .ptr 0 0 0), (6, i64 best), (7, i64 first), (8, i64 q), (9, .ptr 1 0 0), (10, i64 w), (11, i64 k)], [some ⟨26, 1, 0, false, [.agg [.lst 1 (ms.map st)]]⟩, some ⟨44, 3, 0, false, [.agg [.sl 2 0 a.length, .sl 3 0 b.length, .sl 4 0 c.length]]⟩, some ⟨3, 1, 1, false, i64n a⟩, some ⟨3, 1, 1, false, i64n b⟩, some ⟨3, 1, 1, false, i64n c⟩]⟩
def Knows (f : Nat) (ms : List ByteArray) (D : List Nat → Nat × Int) (p : List Nat) : Prop := p ≠ [] → ev E0 f [.agg [.lst 1 (ms.map st)], .lst 1 (i64n p)] [] = some (.tup [i64 (D p).1, i64 (D p).2], [])
theorem inS_step0 (ms : List ByteArray) (D : List Nat → Nat × Int) (l : List Nat) (best first : Int) (q w : Nat) (a b c : List Nat) (hA : Knows 70 ms D a) :
    bd E0 (ev E0) loopW 0 [1, 2, 6, 7, 8, 9, 10, 11] L70b0 (inS ms l best first q w 0 a b c) = some (.nrm, inS ms l best first q (max w (gw D a)) 1 a b c) := by
  have hw : IntKind.i64.wrap 1 = 1 := by decide
  by_cases h : a = []
  · subst h
    have hm : max w (gw D []) = w := by simp [gw]
    rw [hm]
    simp -implicitDefEqProofs [bd, L70b0, inS, hw, i64n_len]
  · have hp : 0 < a.length := List.length_pos_iff.2 h
    have he := hA h
    have hm : gw D a = (D a).1 := by simp [gw, h]
    rw [hm]
    simp -implicitDefEqProofs [bd, L70b0, inS, hw, i64n_len, hp, h, he, most_s]
theorem inS_step1 (ms : List ByteArray) (D : List Nat → Nat × Int) (l : List Nat) (best first : Int) (q w : Nat) (a b c : List Nat) (hA : Knows 70 ms D b) :
    bd E0 (ev E0) loopW 0 [1, 2, 6, 7, 8, 9, 10, 11] L70b0 (inS ms l best first q w 1 a b c) = some (.nrm, inS ms l best first q (max w (gw D b)) 2 a b c) := by
  have hw : IntKind.i64.wrap 2 = 2 := by decide
  by_cases h : b = []
  · subst h
    have hm : max w (gw D []) = w := by simp [gw]
    rw [hm]
    simp -implicitDefEqProofs [bd, L70b0, inS, hw, i64n_len]
  · have hp : 0 < b.length := List.length_pos_iff.2 h
    have he := hA h
    have hm : gw D b = (D b).1 := by simp [gw, h]
    rw [hm]
    simp -implicitDefEqProofs [bd, L70b0, inS, hw, i64n_len, hp, h, he, most_s]
theorem inS_step2 (ms : List ByteArray) (D : List Nat → Nat × Int) (l : List Nat) (best first : Int) (q w : Nat) (a b c : List Nat) (hA : Knows 70 ms D c) :
    bd E0 (ev E0) loopW 0 [1, 2, 6, 7, 8, 9, 10, 11] L70b0 (inS ms l best first q w 2 a b c) = some (.nrm, inS ms l best first q (max w (gw D c)) 3 a b c) := by
  have hw : IntKind.i64.wrap 3 = 3 := by decide
  by_cases h : c = []
  · subst h
    have hm : max w (gw D []) = w := by simp [gw]
    rw [hm]
    simp -implicitDefEqProofs [bd, L70b0, inS, hw, i64n_len]
  · have hp : 0 < c.length := List.length_pos_iff.2 h
    have he := hA h
    have hm : gw D c = (D c).1 := by simp [gw, h]
    rw [hm]
    simp -implicitDefEqProofs [bd, L70b0, inS, hw, i64n_len, hp, h, he, most_s]
theorem inS_loop (ms : List ByteArray) (D : List Nat → Nat × Int) (l : List Nat) (best first : Int) (q : Nat) (a b c : List Nat) (hA : Knows 70 ms D a) (hB : Knows 70 ms D b) (hC : Knows 70 ms D c) :
    packX 0 [1, 2, 6, 7, 8, 10] (loopW (bd E0 (ev E0) loopW 0 [1, 2, 6, 7, 8, 9, 10, 11] L70b0) (inS ms l best first q 0 0 a b c)) =
      some (.ext 2, ⟨[(1, .lst 1 (i64n l)), (2, .ptr 0 0 0), (6, i64 best), (7, i64 first), (8, i64 q), (10, i64 ((max (max (gw D a) (gw D b)) (gw D c) : Nat) : Int))], [some ⟨26, 1, 0, false, [.agg [.lst 1 (ms.map st)]]⟩]⟩) := by
  have hm : max (max (max 0 (gw D a)) (gw D b)) (gw D c) = max (max (gw D a) (gw D b)) (gw D c) := by omega
  rw [loopW_eq, inS_step0 ms D l best first q 0 a b c hA]
  show packX _ _ (loopW _ _) = _
  rw [loopW_eq, inS_step1 ms D l best first q _ a b c hB]
  show packX _ _ (loopW _ _) = _
  rw [loopW_eq, inS_step2 ms D l best first q _ a b c hC]
  show packX _ _ (loopW _ _) = _
  rw [hm, loopW_eq]
  generalize loopW (bd E0 (ev E0) loopW 0 [1, 2, 6, 7, 8, 9, 10, 11] L70b0) = K
  generalize max (max (gw D a) (gw D b)) (gw D c) = w
  simp -implicitDefEqProofs [bd, L70b0, inS]
def sB : Option (Nat × Nat) → Int
  | none => -1
  | some (_, w) => (w : Int)
def sF : Option (Nat × Nat) → Int
  | none => -1
  | some (p, _) => (p : Int)
theorem depthS_loop (ms : List ByteArray) (D : List Nat → Nat × Int) (l : List Nat) (hl : l.length ≤ 1073741824) (hv : ∀ n ∈ l, n < ms.length) (hne : l ≠ []) (hD : ∀ p, (D p).1 ≤ 1073741824) (hk : ∀ q a, vainB ms q l = false → Knows 70 ms D (partN ms q a l)) : ∀ (k q : Nat) (o : Option (Nat × Nat)), q + k = 5 →
    packX 0 [6, 7] (loopW (bd E0 (ev E0) loopW 0 [1, 2, 6, 7, 8] L70b1) ⟨[(1, .lst 1 (i64n l)), (2, .ptr 0 0 0), (6, i64 (sB o)), (7, i64 (sF o)), (8, i64 q)], [some ⟨26, 1, 0, false, [.agg [.lst 1 (ms.map st)]]⟩]⟩) = some (.ext 0, ⟨[(6, i64 (sB (scan ms D l k q o))), (7, i64 (sF (scan ms D l k q o)))], []⟩) := by
  intro k
  induction k with
  | zero =>
    intro q o h
    obtain rfl : q = 5 := by omega
    rw [loopW_eq]
    generalize loopW (bd E0 (ev E0) loopW 0 [1, 2, 6, 7, 8] L70b1) = K
    simp -implicitDefEqProofs [bd, L70b1, scan]
  | succ k ih =>
    intro q o h
    have hw : IntKind.i64.wrap ((q : Int) + 1) = (q : Int) + 1 := wr64 (by omega) (by omega)
    have hq : (q : Int) < 5 := by omega
    have hva := vain_s ms q l (by omega) hv hne
    cases hp : vainB ms q l with
    | true =>
      rw [hp] at hva
      have hih := ih (q + 1) o (by omega)
      rw [cs1] at hih
      have h5 : scan ms D l (k + 1) q o = scan ms D l k (q + 1) o := by simp [scan, hp]
      rw [h5, loopW_eq]
      generalize scan ms D l k (q + 1) o = o' at hih ⊢
      generalize loopW (bd E0 (ev E0) loopW 0 [1, 2, 6, 7, 8] L70b1) = K at hih ⊢
      simpa -implicitDefEqProofs [bd, L70b1, hq, hw, hva] using hih
    | false =>
      rw [hp] at hva
      have hih := ih (q + 1) (upd o q (wst ms D l q + 1)) (by omega)
      rw [cs1] at hih
      have h5 : scan ms D l (k + 1) q o = scan ms D l k (q + 1) (upd o q (wst ms D l q + 1)) := by simp [scan, hp]
      have hin := inS_loop ms D l (sB o) (sF o) q _ _ _ (hk q 0 hp) (hk q 1 hp) (hk q 2 hp)
      have hps := part_s ms q l hl hv
      have hwl := wst_le (ms := ms) hD l q
      have hmx : max (max (gw D (partN ms q 0 l)) (gw D (partN ms q 1 l))) (gw D (partN ms q 2 l)) = wst ms D l q := rfl
      rw [hmx] at hin
      generalize wst ms D l q = w at *
      have hww : IntKind.i64.wrap ((w : Int) + 1) = (w : Int) + 1 := wr64 (by omega) (by omega)
      rw [h5, loopW_eq]
      generalize scan ms D l k (q + 1) (upd o q (w + 1)) = o' at hih ⊢
      generalize loopW (bd E0 (ev E0) loopW 0 [1, 2, 6, 7, 8] L70b1) = K at hih ⊢
      generalize partN ms q 0 l = a at *
      generalize partN ms q 1 l = b at *
      generalize partN ms q 2 l = c at *
      unfold inS at hin
      rw [c0] at hin
      cases o with
      | none =>
        simp only [upd, sB, sF] at hih hin ⊢
        unfold bd
        simpa -implicitDefEqProofs [L70b1, hq, hw, hva, hps, hin, hww, i64n_len] using hih
      | some pb =>
        obtain ⟨p, b0⟩ := pb
        have hb0 : ¬ (b0 : Int) < 0 := by omega
        by_cases hlt : w + 1 < b0
        · have hlt2 : (w : Int) + 1 < (b0 : Int) := by omega
          simp only [upd, sB, sF, if_pos hlt] at hih hin ⊢
          unfold bd
          simpa -implicitDefEqProofs [L70b1, hq, hw, hva, hps, hin, hww, i64n_len, hb0, hlt, hlt2] using hih
        · have hlt2 : ¬ (w : Int) + 1 < (b0 : Int) := by omega
          simp only [upd, sB, sF, if_neg hlt] at hih hin ⊢
          unfold bd
          simpa -implicitDefEqProofs [L70b1, hq, hw, hva, hps, hin, hww, i64n_len, hb0, hlt, hlt2] using hih
theorem depth_s (ms : List ByteArray) : ∀ (n : Nat) (l : List Nat), l.length ≤ n → n ≤ 1073741824 → l ≠ [] → (∀ x ∈ l, x < ms.length) → Apart ms l → ev E0 70 [.agg [.lst 1 (ms.map st)], .lst 1 (i64n l)] [] = some (.tup [i64 (depN ms n l).1, i64 (depN ms n l).2], [])
  | 0, l, h, _, hne, _, _ => absurd (List.length_eq_zero_iff.1 (by omega)) hne
  | n + 1, l, h, hn, hne, hv, ha => by
    rw [e70]
    unfold runF
    have hpos : 0 < l.length := List.length_pos_iff.2 hne
    by_cases h1 : l.length = 1
    · have hd : depN ms (n + 1) l = (0, -1) := by simp [depN, h1]
      have h1' : (l.length : Int) = 1 := by omega
      rw [hd]
      simp -implicitDefEqProofs [L70, i64n_len, h1, h1']
    · have h1' : ¬ (l.length : Int) = 1 := by omega
      have hd : depN ms (n + 1) l = finD (scan ms (depN ms n) l 5 0 none) := by simp [depN, h1]
      have hlp := depthS_loop ms (depN ms n) l (by omega) hv hne (fun p => by have := dep_le ms n p; omega)
        (fun q a hq hp => depth_s ms n _ (by have := part_lt (a := a) hq; omega) (by omega) hp (fun x hx => hv x (List.mem_filter.1 hx).1) (ha.part q a)) 5 0 none rfl
      obtain ⟨j, hj, hj2⟩ := not_vain ha (by omega)
      obtain ⟨p, w, hs⟩ := scan_some ms (depN ms n) l 5 0 none ⟨j, by omega, by omega, hj2⟩
      rw [hd]
      rw [hs] at hlp ⊢
      simp only [sB, sF, c0] at hlp
      simp -implicitDefEqProofs [L70, i64n_len, h1, h1', hlp, finD]
end Go.Proofs.YtkajcafnfdlgpaaDoor.Ev
