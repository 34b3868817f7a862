/- The program's depth, in the evaluator's words. -/
import Derived.Test.YtkajcafnfdlgpaaDoorEvDepthS
set_option linter.unusedVariables false
set_option linter.unusedSimpArgs false
namespace Go.Proofs.YtkajcafnfdlgpaaDoor.Ev
theorem i64n_cons (x : Nat) (r : List Nat) : i64n (x :: r) = i64 x :: i64n r := rfl
def inI (ms : List ByteArray) (l : List Nat) (best least : Int) (q w k : Nat) (a b c : List Nat) : St :=
  ⟨[(1, .lst 1 (i64n l)), (2, .ptr 0 0 0), (6, i64 best), (7, i64 least), (8, i64 q), (9, i64 w), (17, i64 q), (28, rows3 1 a b c), (29, i64 k)], [some ⟨26, 1, 0, false, [.agg [.lst 1 (ms.map st)]]⟩] ++ (rb a ++ (rb b ++ rb c))⟩
def iw (D : List Nat → Nat × Int) (w : Nat) (p : List Nat) : Nat := if p = [] then w else max w ((D p).1 + 1)
theorem iw_nil (D : List Nat → Nat × Int) (w : Nat) : iw D w [] = w := rfl
theorem iw_lt {D : List Nat → Nat × Int} {w x d : Nat} {r : List Nat} (hd : (D (x :: r)).1 = d) (h : w < d + 1) : iw D w (x :: r) = d + 1 := by
  unfold iw
  rw [if_neg (by simp), hd]
  omega
theorem iw_ge {D : List Nat → Nat × Int} {w x d : Nat} {r : List Nat} (hd : (D (x :: r)).1 = d) (h : ¬ w < d + 1) : iw D w (x :: r) = w := by
  unfold iw
  rw [if_neg (by simp), hd]
  omega
theorem inI_step0 (ms : List ByteArray) (D : List Nat → Nat × Int) (hD : ∀ p, (D p).1 ≤ 1073741824) (l : List Nat) (best least : Int) (q w : Nat) (a b c : List Nat) (hA : Knows 69 ms D a) :
    bd E0 (ev E0) loopW 0 [1, 2, 6, 7, 8, 9, 17, 28, 29] L69b0 (inI ms l best least q w 0 a b c) = some (.nrm, inI ms l best least q (iw D w a) 1 a b c) := by
  have hw : IntKind.i64.wrap 1 = 1 := by decide
  cases a with
  | nil =>
    rw [iw_nil]
    cases b <;> cases c <;> simp -implicitDefEqProofs [bd, L69b0, inI, hw, rows3, rv, rb]
  | cons x r =>
    have he := hA (by simp)
    have hdl := hD (x :: r)
    rw [i64n_cons] at he
    generalize hd : (D (x :: r)).1 = d at *
    have hwd : IntKind.i64.wrap ((d : Int) + 1) = (d : Int) + 1 := wr64 (by omega) (by omega)
    by_cases h : w < d + 1
    · have h2 : (w : Int) < (d : Int) + 1 := by omega
      rw [iw_lt hd h]
      cases b <;> cases c <;> simp -implicitDefEqProofs [bd, L69b0, inI, hw, rows3, rv, rb, i64n_len, he, hwd, h, h2]
    · have h2 : ¬ (w : Int) < (d : Int) + 1 := by omega
      rw [iw_ge hd h]
      cases b <;> cases c <;> simp -implicitDefEqProofs [bd, L69b0, inI, hw, rows3, rv, rb, i64n_len, he, hwd, h, h2]
theorem inI_step1 (ms : List ByteArray) (D : List Nat → Nat × Int) (hD : ∀ p, (D p).1 ≤ 1073741824) (l : List Nat) (best least : Int) (q w : Nat) (a b c : List Nat) (hA : Knows 69 ms D b) :
    bd E0 (ev E0) loopW 0 [1, 2, 6, 7, 8, 9, 17, 28, 29] L69b0 (inI ms l best least q w 1 a b c) = some (.nrm, inI ms l best least q (iw D w b) 2 a b c) := by
  have hw : IntKind.i64.wrap 2 = 2 := by decide
  cases b with
  | nil =>
    rw [iw_nil]
    cases a <;> cases c <;> simp -implicitDefEqProofs [bd, L69b0, inI, hw, rows3, rv, rb]
  | cons x r =>
    have he := hA (by simp)
    have hdl := hD (x :: r)
    rw [i64n_cons] at he
    generalize hd : (D (x :: r)).1 = d at *
    have hwd : IntKind.i64.wrap ((d : Int) + 1) = (d : Int) + 1 := wr64 (by omega) (by omega)
    by_cases h : w < d + 1
    · have h2 : (w : Int) < (d : Int) + 1 := by omega
      rw [iw_lt hd h]
      cases a <;> cases c <;> simp -implicitDefEqProofs [bd, L69b0, inI, hw, rows3, rv, rb, i64n_len, he, hwd, h, h2]
    · have h2 : ¬ (w : Int) < (d : Int) + 1 := by omega
      rw [iw_ge hd h]
      cases a <;> cases c <;> simp -implicitDefEqProofs [bd, L69b0, inI, hw, rows3, rv, rb, i64n_len, he, hwd, h, h2]
theorem inI_step2 (ms : List ByteArray) (D : List Nat → Nat × Int) (hD : ∀ p, (D p).1 ≤ 1073741824) (l : List Nat) (best least : Int) (q w : Nat) (a b c : List Nat) (hA : Knows 69 ms D c) :
    bd E0 (ev E0) loopW 0 [1, 2, 6, 7, 8, 9, 17, 28, 29] L69b0 (inI ms l best least q w 2 a b c) = some (.nrm, inI ms l best least q (iw D w c) 3 a b c) := by
  have hw : IntKind.i64.wrap 3 = 3 := by decide
  cases c with
  | nil =>
    rw [iw_nil]
    cases a <;> cases b <;> simp -implicitDefEqProofs [bd, L69b0, inI, hw, rows3, rv, rb]
  | cons x r =>
    have he := hA (by simp)
    have hdl := hD (x :: r)
    rw [i64n_cons] at he
    generalize hd : (D (x :: r)).1 = d at *
    have hwd : IntKind.i64.wrap ((d : Int) + 1) = (d : Int) + 1 := wr64 (by omega) (by omega)
    by_cases h : w < d + 1
    · have h2 : (w : Int) < (d : Int) + 1 := by omega
      rw [iw_lt hd h]
      cases a <;> cases b <;> simp -implicitDefEqProofs [bd, L69b0, inI, hw, rows3, rv, rb, i64n_len, he, hwd, h, h2]
    · have h2 : ¬ (w : Int) < (d : Int) + 1 := by omega
      rw [iw_ge hd h]
      cases a <;> cases b <;> simp -implicitDefEqProofs [bd, L69b0, inI, hw, rows3, rv, rb, i64n_len, he, hwd, h, h2]
theorem inI_loop (ms : List ByteArray) (D : List Nat → Nat × Int) (hD : ∀ p, (D p).1 ≤ 1073741824) (l : List Nat) (best least : Int) (q : Nat) (a b c : List Nat) (hA : Knows 69 ms D a) (hB : Knows 69 ms D b) (hC : Knows 69 ms D c) (hne : a ≠ [] ∨ b ≠ [] ∨ c ≠ []) :
    packX 0 [1, 2, 6, 7, 8, 9, 17] (loopW (bd E0 (ev E0) loopW 0 [1, 2, 6, 7, 8, 9, 17, 28, 29] L69b0) (inI ms l best least q 0 0 a b c)) =
      some (.ext 2, ⟨[(1, .lst 1 (i64n l)), (2, .ptr 0 0 0), (6, i64 best), (7, i64 least), (8, i64 q), (9, i64 ((max (max (gw D a) (gw D b)) (gw D c) + 1 : Nat) : Int)), (17, i64 q)], [some ⟨26, 1, 0, false, [.agg [.lst 1 (ms.map st)]]⟩]⟩) := by
  have hm : iw D (iw D (iw D 0 a) b) c = max (max (gw D a) (gw D b)) (gw D c) + 1 := by
    unfold iw gw
    by_cases h1 : a = [] <;> by_cases h2 : b = [] <;> by_cases h3 : c = [] <;> simp [h1, h2, h3] at hne ⊢ <;> omega
  rw [loopW_eq, inI_step0 ms D hD l best least q 0 a b c hA]
  show packX _ _ (loopW _ _) = _
  rw [loopW_eq, inI_step1 ms D hD l best least q _ a b c hB]
  show packX _ _ (loopW _ _) = _
  rw [loopW_eq, inI_step2 ms D hD l best least q _ a b c hC]
  show packX _ _ (loopW _ _) = _
  rw [hm, loopW_eq]
  generalize loopW (bd E0 (ev E0) loopW 0 [1, 2, 6, 7, 8, 9, 17, 28, 29] L69b0) = K
  generalize max (max (gw D a) (gw D b)) (gw D c) + 1 = w
  cases a <;> cases b <;> cases c <;> simp -implicitDefEqProofs [bd, L69b0, inI, rows3, rv, rb]
def iB : Option (Nat × Nat) → Int
  | none => -1
  | some (p, _) => (p : Int)
def iL : Option (Nat × Nat) → Int
  | none => 0
  | some (_, w) => (w : Int)
theorem parts_i2 (ms : List ByteArray) (q : Nat) (l : List Nat) (hne : l ≠ []) (hl : l.length ≤ 1073741824) (hv : ∀ n ∈ l, n < ms.length) : ev E0 72 [.agg [.lst 1 (ms.map st)], .lst 1 (i64n l), i64 q] [] = some (bl (!vainB ms q l), []) := by
  cases l with
  | nil => exact absurd rfl hne
  | cons k0 t => exact parts_i ms q k0 t hl hv
theorem depthI_loop (ms : List ByteArray) (D : List Nat → Nat × Int) (l : List Nat) (hl : l.length ≤ 1073741824) (hv : ∀ n ∈ l, n < ms.length) (hne : l ≠ []) (hD : ∀ p, (D p).1 ≤ 1073741824) (hk : ∀ q a, vainB ms q l = false → Knows 69 ms D (partN ms q a l)) : ∀ (k q : Nat) (o : Option (Nat × Nat)), q + k = 5 →
    packX 0 [6, 7] (loopW (bd E0 (ev E0) loopW 0 [1, 2, 6, 7, 17] L69b1) ⟨[(1, .lst 1 (i64n l)), (2, .ptr 0 0 0), (6, i64 (iB o)), (7, i64 (iL o)), (17, i64 q)], [some ⟨26, 1, 0, false, [.agg [.lst 1 (ms.map st)]]⟩]⟩) = some (.ext 0, ⟨[(6, i64 (iB (scan ms D l k q o))), (7, i64 (iL (scan ms D l k q o)))], []⟩) := by
  intro k
  induction k with
  | zero =>
    intro q o h
    obtain rfl : q = 5 := by omega
    rw [loopW_eq]
    generalize loopW (bd E0 (ev E0) loopW 0 [1, 2, 6, 7, 17] L69b1) = K
    simp -implicitDefEqProofs [bd, L69b1, scan]
  | succ k ih =>
    intro q o h
    have hw : IntKind.i64.wrap ((q : Int) + 1) = (q : Int) + 1 := wr64 (by omega) (by omega)
    have hq : (q : Int) < 5 := by omega
    have hva := parts_i2 ms q l hne hl hv
    cases hp : vainB ms q l with
    | true =>
      rw [hp] at hva
      have hih := ih (q + 1) o (by omega)
      rw [cs1] at hih
      have h5 : scan ms D l (k + 1) q o = scan ms D l k (q + 1) o := by simp [scan, hp]
      rw [h5, loopW_eq]
      generalize scan ms D l k (q + 1) o = o' at hih ⊢
      generalize loopW (bd E0 (ev E0) loopW 0 [1, 2, 6, 7, 17] L69b1) = K at hih ⊢
      simpa -implicitDefEqProofs [bd, L69b1, hq, hw, hva] using hih
    | false =>
      rw [hp] at hva
      have hih := ih (q + 1) (upd o q (wst ms D l q + 1)) (by omega)
      rw [cs1] at hih
      have h5 : scan ms D l (k + 1) q o = scan ms D l k (q + 1) (upd o q (wst ms D l q + 1)) := by simp [scan, hp]
      have hin := inI_loop ms D hD l (iB o) (iL o) q _ _ _ (hk q 0 hp) (hk q 1 hp) (hk q 2 hp) (part_some ms q hne)
      have hps := part_i ms q l hl hv
      have hwl := wst_le (ms := ms) hD l q
      have hmx : max (max (gw D (partN ms q 0 l)) (gw D (partN ms q 1 l))) (gw D (partN ms q 2 l)) = wst ms D l q := rfl
      rw [hmx] at hin
      generalize wst ms D l q = w at *
      rw [h5, loopW_eq]
      generalize scan ms D l k (q + 1) (upd o q (w + 1)) = o' at hih ⊢
      generalize loopW (bd E0 (ev E0) loopW 0 [1, 2, 6, 7, 17] L69b1) = K at hih ⊢
      generalize partN ms q 0 l = a at *
      generalize partN ms q 1 l = b at *
      generalize partN ms q 2 l = c at *
      unfold inI at hin
      rw [c0, cs1] at hin
      cases o with
      | none =>
        simp only [upd, iB, iL, cs1] at hih hin ⊢
        unfold bd
        cases a <;> cases b <;> cases c <;> simp only [rows3, rv, rb, List.nil_append, List.cons_append, List.append_nil, List.length_nil, List.length_cons, Nat.zero_add, Nat.add_zero] at hps hin <;> simpa -implicitDefEqProofs [L69b1, hq, hw, hva, hps, hin, i64n_len] using hih
      | some pb =>
        obtain ⟨p, b0⟩ := pb
        have hb0 : ¬ (p : Int) < 0 := by omega
        by_cases hlt : w + 1 < b0
        · have hlt2 : (w : Int) + 1 < (b0 : Int) := by omega
          simp only [upd, iB, iL, if_pos hlt, cs1] at hih hin ⊢
          unfold bd
          cases a <;> cases b <;> cases c <;> simp only [rows3, rv, rb, List.nil_append, List.cons_append, List.append_nil, List.length_nil, List.length_cons, Nat.zero_add, Nat.add_zero] at hps hin <;> simpa -implicitDefEqProofs [L69b1, hq, hw, hva, hps, hin, i64n_len, hb0, hlt, hlt2] using hih
        · have hlt2 : ¬ (w : Int) + 1 < (b0 : Int) := by omega
          simp only [upd, iB, iL, if_neg hlt, cs1] at hih hin ⊢
          unfold bd
          cases a <;> cases b <;> cases c <;> simp only [rows3, rv, rb, List.nil_append, List.cons_append, List.append_nil, List.length_nil, List.length_cons, Nat.zero_add, Nat.add_zero] at hps hin <;> simpa -implicitDefEqProofs [L69b1, hq, hw, hva, hps, hin, i64n_len, hb0, hlt, hlt2] using hih
theorem depth_i (ms : List ByteArray) : ∀ (n : Nat) (l : List Nat), l.length ≤ n → n ≤ 1073741824 → l ≠ [] → (∀ x ∈ l, x < ms.length) → Apart ms l → ev E0 69 [.agg [.lst 1 (ms.map st)], .lst 1 (i64n l)] [] = some (.tup [i64 (depN ms n l).1, i64 (depN ms n l).2], [])
  | 0, l, h, _, hne, _, _ => absurd (List.length_eq_zero_iff.1 (by omega)) hne
  | n + 1, l, h, hn, hne, hv, ha => by
    rw [e69]
    unfold runF
    have hpos : 0 < l.length := List.length_pos_iff.2 hne
    by_cases h1 : l.length = 1
    · have hd : depN ms (n + 1) l = (0, -1) := by simp [depN, h1]
      have h1' : (l.length : Int) = 1 := by omega
      rw [hd]
      simp -implicitDefEqProofs [L69, i64n_len, h1, h1']
    · have h1' : ¬ (l.length : Int) = 1 := by omega
      have hd : depN ms (n + 1) l = finD (scan ms (depN ms n) l 5 0 none) := by simp [depN, h1]
      have hlp := depthI_loop ms (depN ms n) l (by omega) hv hne (fun p => by have := dep_le ms n p; omega)
        (fun q a hq hp => depth_i ms n _ (by have := part_lt (a := a) hq; omega) (by omega) hp (fun x hx => hv x (List.mem_filter.1 hx).1) (ha.part q a)) 5 0 none rfl
      obtain ⟨j, hj, hj2⟩ := not_vain ha (by omega)
      obtain ⟨p, w, hs⟩ := scan_some ms (depN ms n) l 5 0 none ⟨j, by omega, by omega, hj2⟩
      rw [hd]
      rw [hs] at hlp ⊢
      simp only [iB, iL, c0] at hlp
      simp -implicitDefEqProofs [L69, i64n_len, h1, h1', hlp, finD]
end Go.Proofs.YtkajcafnfdlgpaaDoor.Ev
