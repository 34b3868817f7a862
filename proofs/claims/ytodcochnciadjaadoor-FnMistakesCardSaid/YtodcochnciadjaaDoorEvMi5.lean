/- Letters by one mistake, joined letters, safe subsets: the program's and the reference's. -/
import Derived.Test.YtodcochnciadjaaDoorEvMi4
set_option linter.unusedVariables false
set_option linter.unusedSimpArgs false
namespace Go.Proofs.YtodcochnciadjaaDoor.Ev
-- ---------------------------------------------------------------- letters by a mistake of a kind
def kdI (k : Int) : Int := if k = 0 then 0 else if k = 1 then -1 else 1
/-- Whether marks come of others by one mistake of a kind. -/
def byP (a b : ByteArray) (k : Int) : Bool := decide (ds a b = 1) && decide ((b.size : Int) - (a.size : Int) = kdI k)
def byL (ms : List ByteArray) (c : Nat) (k : Int) (i r : Nat) : List Nat := (List.range' i r).filter (fun j => byP (mk_ ms c) (mk_ ms j) k)
theorem kind_of {k : Int} (h0 : 0 ≤ k) (h1 : k ≤ 2) : k = 0 ∨ k = 1 ∨ k = 2 := by omega
theorem by_s (a b : ByteArray) (ha : a.size ≤ 400) (hb : b.size ≤ 400) (k : Int) (h0 : 0 ≤ k) (h1 : k ≤ 2) : ev E0 61 [st a, st b, i64 k] [] = some (bl (byP a b k), []) := by
  have h := ds_s a b ha hb
  unfold byP
  generalize ds a b = d at *
  rw [e61]
  unfold runF
  rcases kind_of h0 h1 with rfl | rfl | rfl
  · have w : IntKind.i64.wrap ((a.size : Int) + 0) = a.size := by rw [wr64 (by omega) (by omega)]; omega
    have w' : IntKind.i64.wrap (a.size : Int) = a.size := wr64 (by omega) (by omega)
    have hk : kdI 0 = 0 := rfl
    by_cases e : b.size = a.size
    · have e2 : (b.size : Int) = (a.size : Int) := by omega
      by_cases e1 : d = 1
      · have e3 : (d : Int) = 1 := by omega
        simp -implicitDefEqProofs [L61, h, w, w', hk, e, e1, e2, e3]
      · have e3 : ¬ (d : Int) = 1 := by omega
        simp -implicitDefEqProofs [L61, h, w, w', hk, e, e1, e2, e3]
    · have e2 : ¬ (b.size : Int) = (a.size : Int) := by omega
      have e4 : ¬ (b.size : Int) - (a.size : Int) = 0 := by omega
      simp -implicitDefEqProofs [L61, h, w, w', hk, e, e2, e4]
  · have w : IntKind.i64.wrap ((a.size : Int) + -1) = (a.size : Int) + -1 := by rw [wr64 (by omega) (by omega)]
    have hk : kdI 1 = -1 := rfl
    by_cases e : (b.size : Int) = (a.size : Int) + -1
    · have e2 : (b.size : Int) - (a.size : Int) = -1 := by omega
      by_cases e1 : d = 1
      · have e3 : (d : Int) = 1 := by omega
        simp -implicitDefEqProofs [L61, h, w, hk, decide_eq_true e, decide_eq_true e2, e1, e3]
      · have e3 : ¬ (d : Int) = 1 := by omega
        simp -implicitDefEqProofs [L61, h, w, hk, decide_eq_true e, decide_eq_true e2, e1, e3]
    · have e4 : ¬ (b.size : Int) - (a.size : Int) = -1 := by omega
      simp -implicitDefEqProofs [L61, h, w, hk, e, e4]
  · have w : IntKind.i64.wrap ((a.size : Int) + 1) = (a.size : Int) + 1 := by rw [wr64 (by omega) (by omega)]
    have hk : kdI 2 = 1 := rfl
    by_cases e : (b.size : Int) = (a.size : Int) + 1
    · have e2 : (b.size : Int) - (a.size : Int) = 1 := by omega
      by_cases e1 : d = 1
      · have e3 : (d : Int) = 1 := by omega
        simp -implicitDefEqProofs [L61, h, w, hk, decide_eq_true e, decide_eq_true e2, e1, e3]
      · have e3 : ¬ (d : Int) = 1 := by omega
        simp -implicitDefEqProofs [L61, h, w, hk, decide_eq_true e, decide_eq_true e2, e1, e3]
    · have e4 : ¬ (b.size : Int) - (a.size : Int) = 1 := by omega
      simp -implicitDefEqProofs [L61, h, w, hk, e, e4]
theorem byS (ms : List ByteArray) (hm : ms.length ≤ 1000) (hz : ∀ m ∈ ms, m.size ≤ 400) (c : Nat) (hc : c < ms.length) (k : Int) (h0 : 0 ≤ k) (h1 : k ≤ 2) : ∀ (r i : Nat) (l : List Nat), i + r = ms.length → l.length ≤ i →
    packX 0 [8] (loopW (bd E0 (ev E0) loopW 0 [1, 2, 3, 8, 9] L19b0) ⟨[(1, i64 c), (2, i64 k), (3, .ptr 0 0 0), (8, .sl 1 0 l.length), (9, i64 i)], [some (tb ms), some (ib l)]⟩) =
      some (.ext 0, ⟨[(8, .sl 0 0 (l ++ byL ms c k i r).length)], [some (ib (l ++ byL ms c k i r))]⟩) := by
  unfold tb ib
  intro r
  induction r with
  | zero =>
    intro i l h hl
    obtain rfl : i = ms.length := by omega
    rw [loopW_eq]
    generalize loopW (bd E0 (ev E0) loopW 0 [1, 2, 3, 8, 9] L19b0) = K
    simp -implicitDefEqProofs [bd, L19b0, byL]
  | succ r ih =>
    intro i l h hl
    have hi : i < ms.length := by omega
    have hii : (i : Int) < (ms.length : Int) := by omega
    have hcc : (c : Int) < (ms.length : Int) := by omega
    have g1 := get_mk hi
    have g2 := get_mk hc
    have m1 := mk_at hi
    have m2 := mk_at hc
    have hby := by_s (mk_ ms c) (mk_ ms i) (mk_sz hz c) (mk_sz hz i) k h0 h1
    have hw : IntKind.i64.wrap ((i : Int) + 1) = (i : Int) + 1 := wr64 (by omega) (by omega)
    have l1 : l.length + 1 ≤ 140737488355328 := by omega
    have l2 : (l.length + 1) * 8 ≤ 140737488355328 := by omega
    have ht : List.take l.length (ns l) = ns l := List.take_of_length_le (by rw [ns_len]; exact Nat.le_refl _)
    have hnl := ns_len l
    have ha := ns_app l i
    unfold byL at ih ⊢
    rw [List.range'_succ, List.filter_cons]
    cases hp : byP (mk_ ms c) (mk_ ms i) k with
    | true =>
      rw [hp] at hby
      generalize mk_ ms i = x at *
      have hih := ih (i + 1) (l ++ [i]) (by omega) (by simp; omega)
      rw [if_pos rfl, loopW_eq, List.append_cons l]
      generalize (l ++ [i]) ++ List.filter _ _ = R at hih ⊢
      generalize mk_ ms c = y at *
      rw [cs1, ← ha, List.length_append, List.length_singleton] at hih
      generalize loopW (bd E0 (ev E0) loopW 0 [1, 2, 3, 8, 9] L19b0) = K at hih ⊢
      generalize ns l = nl at *
      simpa -implicitDefEqProofs [bd, L19b0, hi, hii, hc, hcc, g1, g2, m1, m2, hby, hw, l1, l2, ht, hnl] using hih
    | false =>
      rw [hp] at hby
      have hih := ih (i + 1) l (by omega) (by omega)
      rw [if_neg (by simp), loopW_eq]
      generalize l ++ List.filter _ _ = R at hih ⊢
      generalize mk_ ms i = x at *
      generalize mk_ ms c = y at *
      rw [cs1] at hih
      generalize loopW (bd E0 (ev E0) loopW 0 [1, 2, 3, 8, 9] L19b0) = K at hih ⊢
      generalize ns l = nl at *
      simpa -implicitDefEqProofs [bd, L19b0, hi, hii, hc, hcc, g1, g2, m1, m2, hby, hw] using hih
theorem byI (ms : List ByteArray) (hm : ms.length ≤ 1000) (hz : ∀ m ∈ ms, m.size ≤ 400) (c : Nat) (hc : c < ms.length) (k : Int) (h0 : 0 ≤ k) (h1 : k ≤ 2) : ∀ (r i : Nat) (l : List Nat), i + r = ms.length → l.length ≤ i →
    packX 0 [8] (loopW (bd E0 (ev E0) loopW 0 [1, 2, 3, 8, 28, 29, 30] L18b0) ⟨[(1, i64 c), (2, i64 k), (3, .ptr 0 0 0), (8, .sl 1 0 l.length), (28, .lst 1 (ms.map st)), (29, i64 ms.length), (30, i64 i)], [some (tb ms), some (ib l)]⟩) =
      some (.ext 0, ⟨[(8, .sl 0 0 (l ++ byL ms c k i r).length)], [some (ib (l ++ byL ms c k i r))]⟩) := by
  unfold tb ib
  intro r
  induction r with
  | zero =>
    intro i l h hl
    obtain rfl : i = ms.length := by omega
    rw [loopW_eq]
    generalize loopW (bd E0 (ev E0) loopW 0 [1, 2, 3, 8, 28, 29, 30] L18b0) = K
    simp -implicitDefEqProofs [bd, L18b0, byL]
  | succ r ih =>
    intro i l h hl
    have hi : i < ms.length := by omega
    have hii : (i : Int) < (ms.length : Int) := by omega
    have hcc : (c : Int) < (ms.length : Int) := by omega
    have g1 := get_mk hi
    have g2 := get_mk hc
    have m1 := mk_at hi
    have m2 := mk_at hc
    have z1 := mk_sz hz i
    have z2 := mk_sz hz c
    have hds := ds_i (mk_ ms i) (mk_ ms c) (mk_sz hz i) (mk_sz hz c)
    rw [ds_symm] at hds
    have hw : IntKind.i64.wrap ((i : Int) + 1) = (i : Int) + 1 := wr64 (by omega) (by omega)
    have w2 : IntKind.i64.wrap (((mk_ ms i).size : Int) - ((mk_ ms c).size : Int)) = ((mk_ ms i).size : Int) - ((mk_ ms c).size : Int) := wr64 (by omega) (by omega)
    have l1 : l.length + 1 ≤ 140737488355328 := by omega
    have l2 : (l.length + 1) * 8 ≤ 140737488355328 := by omega
    have ht : List.take l.length (ns l) = ns l := List.take_of_length_le (by rw [ns_len]; exact Nat.le_refl _)
    have hnl := ns_len l
    have ha := ns_app l i
    unfold byL at ih ⊢
    rw [List.range'_succ, List.filter_cons]
    have hby : byP (mk_ ms c) (mk_ ms i) k = (decide ((ds (mk_ ms c) (mk_ ms i) : Int) = 1) && decide (((mk_ ms i).size : Int) - ((mk_ ms c).size : Int) = kdI k)) := by
      unfold byP
      congr 1
      rw [decide_eq_decide]
      omega
    have yes := ih (i + 1) (l ++ [i]) (by omega) (by simp; omega)
    have no := ih (i + 1) l (by omega) (by omega)
    rw [loopW_eq]
    by_cases c1 : (ds (mk_ ms c) (mk_ ms i) : Int) = 1
    · by_cases c2 : ((mk_ ms i).size : Int) - ((mk_ ms c).size : Int) = kdI k
      · rw [decide_eq_true c1, decide_eq_true c2, Bool.true_and] at hby
        rw [hby, if_pos rfl, List.append_cons l]
        generalize (l ++ [i]) ++ List.filter _ _ = R at yes ⊢
        clear ih no hby
        rw [cs1, ← ha, List.length_append, List.length_singleton] at yes
        generalize loopW (bd E0 (ev E0) loopW 0 [1, 2, 3, 8, 28, 29, 30] L18b0) = K at yes ⊢
        rw [c2] at w2
        generalize ds (mk_ ms c) (mk_ ms i) = d at *
        generalize mk_ ms i = x at *
        generalize mk_ ms c = y at *
        generalize ns l = nl at *
        rcases kind_of h0 h1 with rfl | rfl | rfl
        · have hk : kdI 0 = 0 := rfl
          have d1 : d = 1 := by omega
          rw [hk] at c2 w2
          simpa -implicitDefEqProofs [bd, L18b0, hi, hii, hc, hcc, g1, g2, m1, m2, hds, hw, c1, d1, c2, w2, l1, l2, ht, hnl] using yes
        · have hk : kdI 1 = -1 := rfl
          have d1 : d = 1 := by omega
          rw [hk] at c2 w2
          simpa -implicitDefEqProofs [bd, L18b0, hi, hii, hc, hcc, g1, g2, m1, m2, hds, hw, c1, d1, c2, w2, l1, l2, ht, hnl] using yes
        · have hk : kdI 2 = 1 := rfl
          have d1 : d = 1 := by omega
          rw [hk] at c2 w2
          simpa -implicitDefEqProofs [bd, L18b0, hi, hii, hc, hcc, g1, g2, m1, m2, hds, hw, c1, d1, c2, w2, l1, l2, ht, hnl] using yes
      · rw [decide_eq_true c1, decide_eq_false c2] at hby
        rw [hby, if_neg (by simp)]
        generalize l ++ List.filter _ _ = R at no ⊢
        clear ih yes hby
        rw [cs1] at no
        generalize loopW (bd E0 (ev E0) loopW 0 [1, 2, 3, 8, 28, 29, 30] L18b0) = K at no ⊢
        generalize ds (mk_ ms c) (mk_ ms i) = d at *
        generalize mk_ ms i = x at *
        generalize mk_ ms c = y at *
        generalize ns l = nl at *
        rcases kind_of h0 h1 with rfl | rfl | rfl
        · have hk : kdI 0 = 0 := rfl
          have d1 : d = 1 := by omega
          rw [hk] at c2
          simpa -implicitDefEqProofs [bd, L18b0, hi, hii, hc, hcc, g1, g2, m1, m2, hds, hw, c1, d1, c2, w2] using no
        · have hk : kdI 1 = -1 := rfl
          have d1 : d = 1 := by omega
          rw [hk] at c2
          simpa -implicitDefEqProofs [bd, L18b0, hi, hii, hc, hcc, g1, g2, m1, m2, hds, hw, c1, d1, c2, w2] using no
        · have hk : kdI 2 = 1 := rfl
          have d1 : d = 1 := by omega
          rw [hk] at c2
          simpa -implicitDefEqProofs [bd, L18b0, hi, hii, hc, hcc, g1, g2, m1, m2, hds, hw, c1, d1, c2, w2] using no
    · rw [decide_eq_false c1] at hby
      rw [hby, if_neg (by simp)]
      generalize l ++ List.filter _ _ = R at no ⊢
      clear ih yes hby
      rw [cs1] at no
      generalize loopW (bd E0 (ev E0) loopW 0 [1, 2, 3, 8, 28, 29, 30] L18b0) = K at no ⊢
      generalize ds (mk_ ms c) (mk_ ms i) = d at *
      generalize mk_ ms i = x at *
      generalize mk_ ms c = y at *
      generalize ns l = nl at *
      have d1 : ¬ d = 1 := by omega
      simpa -implicitDefEqProofs [bd, L18b0, hi, hii, hc, hcc, g1, g2, m1, m2, hds, hw, c1, d1, w2] using no
def okBy (ms : List ByteArray) (c k : Int) : Bool := okTable ms && (okLetter ms c && (decide (0 ≤ k) && decide (k ≤ 2)))
def bys (ms : List ByteArray) (c k : Int) : List Nat := byL ms c.toNat k 0 ms.length
theorem l6letter_s (ms : List ByteArray) (hm : ms.length ≤ 1000) (hz : ∀ m ∈ ms, m.size ≤ 400) (c : Int) : ev E0 59 [.agg [.lst 1 (ms.map st)], i64 c] [] = some (bl (okTable ms && okLetter ms c), []) := by
  have h1 := table_s ms (by omega) (fun x hx => by have := hz x hx; omega)
  have w : IntKind.i64.wrap ((ms.length : Int) - 1) = (ms.length : Int) - 1 := wr64 (by omega) (by omega)
  have h2 := in_s c 0 ((ms.length : Int) - 1)
  change _ = some (bl (okLetter ms c), []) at h2
  rw [e59]
  unfold runF
  cases ho : okTable ms <;> rw [ho] at h1 <;> simp -implicitDefEqProofs [L59, h1, h2, w]
theorem lettersBy_i (ms : List ByteArray) (hm : ms.length ≤ 1000) (hz : ∀ m ∈ ms, m.size ≤ 400) (c k : Int) : ev E0 18 [.agg [.lst 1 (ms.map st)], i64 c, i64 k] [] = if okBy ms c k = true then some (.tup [.sl 0 0 (bys ms c k).length, bl true], [some (ib (bys ms c k))]) else some (.tup [.v (.slice none 0 0), bl false], []) := by
  have h1 := table_i ms (by omega) (fun x hx => by have := hz x hx; omega)
  have h2 := letter_i ms (by omega) c
  have h3 := in_i k 0 2
  rw [e18]
  unfold runF
  cases ho : okTable ms with
  | false =>
    rw [ho] at h1
    have hb : okBy ms c k = false := by unfold okBy; rw [ho]; rfl
    simp -implicitDefEqProofs [L18, h1, hb]
  | true =>
    rw [ho] at h1
    cases hl : okLetter ms c with
    | false =>
      rw [hl] at h2
      have hb : okBy ms c k = false := by unfold okBy; rw [ho, hl]; rfl
      simp -implicitDefEqProofs [L18, h1, h2, hb]
    | true =>
      rw [hl] at h2
      have hb : okBy ms c k = (decide (0 ≤ k) && decide (k ≤ 2)) := by unfold okBy; rw [ho, hl]; rfl
      cases hk : (decide (0 ≤ k) && decide (k ≤ 2)) with
      | false =>
        rw [hk] at h3 hb
        simp -implicitDefEqProofs [L18, h1, h2, h3, hb]
      | true =>
        rw [hk] at h3 hb
        rw [Bool.and_eq_true, decide_eq_true_eq, decide_eq_true_eq] at hk
        obtain ⟨b1, b2⟩ := okLetter_bounds hl
        obtain ⟨cn, rfl⟩ : ∃ cn : Nat, c = cn := ⟨c.toNat, by omega⟩
        have hh := byI ms hm hz cn (by omega) k hk.1 hk.2 ms.length 0 [] (by omega) (by simp)
        rw [c0, List.nil_append, List.length_nil] at hh
        change _ = some (Ex.ext 0, (⟨[(8, .sl 0 0 (bys ms cn k).length)], [some (ib (bys ms cn k))]⟩ : St)) at hh
        generalize bys ms cn k = R at *
        unfold ib tb at *
        rw [show ns [] = [] from rfl] at hh
        simp -implicitDefEqProofs [L18, h1, h2, h3, hb, hh]
theorem lettersBy_s (ms : List ByteArray) (hm : ms.length ≤ 1000) (hz : ∀ m ∈ ms, m.size ≤ 400) (c k : Int) : ev E0 19 [.agg [.lst 1 (ms.map st)], i64 c, i64 k] [] = if okBy ms c k = true then some (.tup [.sl 0 0 (bys ms c k).length, bl true], [some (ib (bys ms c k))]) else some (.tup [.sl 0 0 0, bl false], [some (ib [])]) := by
  have h2 := l6letter_s ms hm hz c
  have h3 := in_s k 0 2
  have hn : ns [] = [] := rfl
  rw [e19]
  unfold runF
  cases ho : (okTable ms && okLetter ms c) with
  | false =>
    rw [ho] at h2
    have hb : okBy ms c k = false := by unfold okBy; rw [← Bool.and_assoc, ho]; rfl
    unfold ib
    simp -implicitDefEqProofs [L19, h2, hb, hn]
  | true =>
    rw [ho] at h2
    have hb : okBy ms c k = (decide (0 ≤ k) && decide (k ≤ 2)) := by unfold okBy; rw [← Bool.and_assoc, ho]; rfl
    rw [Bool.and_eq_true] at ho
    cases hk : (decide (0 ≤ k) && decide (k ≤ 2)) with
    | false =>
      rw [hk] at h3 hb
      unfold ib
      simp -implicitDefEqProofs [L19, h2, h3, hb, hn]
    | true =>
      rw [hk] at h3 hb
      rw [Bool.and_eq_true, decide_eq_true_eq, decide_eq_true_eq] at hk
      obtain ⟨b1, b2⟩ := okLetter_bounds ho.2
      obtain ⟨cn, rfl⟩ : ∃ cn : Nat, c = cn := ⟨c.toNat, by omega⟩
      have hh := byS ms hm hz cn (by omega) k hk.1 hk.2 ms.length 0 [] (by omega) (by simp)
      rw [c0, List.nil_append, List.length_nil] at hh
      change _ = some (Ex.ext 0, (⟨[(8, .sl 0 0 (bys ms cn k).length)], [some (ib (bys ms cn k))]⟩ : St)) at hh
      generalize bys ms cn k = R at *
      unfold ib tb at *
      rw [hn] at hh
      simp -implicitDefEqProofs [L19, h2, h3, hb, hh]
end Go.Proofs.YtodcochnciadjaaDoor.Ev
