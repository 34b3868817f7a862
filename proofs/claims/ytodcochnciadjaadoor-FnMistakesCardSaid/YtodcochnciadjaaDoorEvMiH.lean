/- What the calls of the laws on mistakes answer, told by themselves. -/
import Derived.Test.YtodcochnciadjaaDoorEvMiA
import Derived.Test.YtodcochnciadjaaDoorEvDrawA6
import Derived.Test.YtodcochnciadjaaDoorEvE1
set_option linter.unusedVariables false
set_option linter.unusedSimpArgs false
namespace Go.Proofs.YtodcochnciadjaaDoor.Ev
open Dr
def tA (ms : List ByteArray) : AV := .agg [.lst 1 (ms.map st)]
def smallT (ms : List ByteArray) : Prop := ms.length ≤ 30 ∧ ∀ t ∈ ms, t.size ≤ 20
theorem sm1 {ms : List ByteArray} (h : smallT ms) : ms.length ≤ 1000 := by have := h.1; omega
theorem sm2 {ms : List ByteArray} (h : smallT ms) : ∀ m ∈ ms, m.size ≤ 400 := fun m hm => by have := h.2 m hm; omega
theorem rbig (x : List Int) : ev E0 5 [.lst 1 (cd x)] [] = some (bl (decide (65536 < (x.length : Int))), []) := by
  rw [e5]
  unfold runF
  simp -implicitDefEqProofs [L5, cd_len]
theorem two_rbig (x : List Int) : ev E1 5 [.lst 1 (cd x)] [] = some (bl (decide (65536 < (x.length : Int))), []) := by
  rw [g5]
  exact frz_to rfl (rbig x) (by simp) (by simp)
theorem tk_ns (R : List Nat) : List.take R.length (ns R) = ns R := List.take_of_length_le (by rw [ns_len]; exact Nat.le_refl _)
theorem tk_prs (R : List (Nat × Nat)) : List.take R.length (prs R) = prs R := List.take_of_length_le (by rw [prs_len]; exact Nat.le_refl _)
theorem tk_tr3s (R : List (Nat × Nat × Nat)) : List.take R.length (tr3s R) = tr3s R := List.take_of_length_le (by rw [tr3s_len]; exact Nat.le_refl _)
-- ---------------------------------------------------------------- rows held against themselves
theorem rI_loop (l : List Nat) (hl : l.length ≤ 140737488355328) : ∀ (t : List Nat) (i : Nat), l.drop i = t →
    packX 0 [4] (loopW (bd E0 (ev E0) loopW 0 [0, 1, 5] L20b0) ⟨[(0, .lst 1 (ns l)), (1, .lst 1 (ns l)), (5, i64 i)], []⟩) = some (.ext 0, ⟨[], []⟩) := by
  intro t
  induction t with
  | nil =>
    intro i h
    have hi := not_drop h
    have hii : ¬ (i : Int) < (l.length : Int) := by omega
    have hnl := ns_len l
    rw [loopW_eq]
    generalize loopW (bd E0 (ev E0) loopW 0 [0, 1, 5] L20b0) = K
    generalize ns l = nl at *
    simp -implicitDefEqProofs [bd, L20b0, hi, hii, hnl]
  | cons c t ih =>
    intro i h
    obtain ⟨hi, hx, hd, hmem⟩ := at_drop h
    have hih := ih (i + 1) hd
    have hii : (i : Int) < (l.length : Int) := by omega
    have g1 := get_ns hi hx
    have hnl := ns_len l
    have g2 : ∀ h, (ns l)[i]'h = i64 (c : Int) := fun h => (List.getElem?_eq_some_iff.1 g1).2
    have hw : IntKind.i64.wrap ((i : Int) + 1) = (i : Int) + 1 := wr64 (by omega) (by omega)
    rw [cs1] at hih
    rw [loopW_eq]
    clear ih
    generalize loopW (bd E0 (ev E0) loopW 0 [0, 1, 5] L20b0) = K at hih ⊢
    generalize ns l = nl at *
    simpa -implicitDefEqProofs [bd, L20b0, hi, hii, g1, g2, hnl, hw] using hih
theorem rI (l : List Nat) (hl : l.length ≤ 140737488355328) : ev E0 20 [.lst 1 (ns l), .lst 1 (ns l)] [] = some (bl true, []) := by
  have h := rI_loop l hl l 0 rfl
  rw [c0] at h
  rw [e20]
  unfold runF
  simp -implicitDefEqProofs [L20, ns_len, h]
theorem two_rI (l : List Nat) (hl : l.length ≤ 1000000) : ev E1 20 [.lst 1 (ns l), .lst 1 (ns l)] [] = some (bl true, []) := by
  rw [g20]
  exact frz_to rfl (rI l (by omega)) (by simp) (by simp)
theorem rP_loop (l : List (Nat × Nat)) (hl : l.length ≤ 140737488355328) : ∀ (t : List (Nat × Nat)) (i : Nat), l.drop i = t →
    packX 0 [4] (loopW (bd E0 (ev E0) loopW 0 [0, 1, 5] L14b0) ⟨[(0, .lst 2 (prs l)), (1, .lst 2 (prs l)), (5, i64 i)], []⟩) = some (.ext 0, ⟨[], []⟩) := by
  intro t
  induction t with
  | nil =>
    intro i h
    have hi := not_drop h
    have hii : ¬ (i : Int) < (l.length : Int) := by omega
    have hnl := prs_len l
    rw [loopW_eq]
    generalize loopW (bd E0 (ev E0) loopW 0 [0, 1, 5] L14b0) = K
    generalize prs l = nl at *
    simp -implicitDefEqProofs [bd, L14b0, hi, hii, hnl]
  | cons c t ih =>
    intro i h
    obtain ⟨hi, hx, hd, hmem⟩ := at_drop h
    have hih := ih (i + 1) hd
    obtain ⟨p, q⟩ := c
    have hii : (i : Int) < (l.length : Int) := by omega
    have g1 : (prs l)[i]? = some (.agg [i64 (p : Int), i64 (q : Int)]) := by unfold prs; rw [List.getElem?_map, List.getElem?_eq_getElem hi, hx]; rfl
    have hnl := prs_len l
    have g2 : ∀ h, (prs l)[i]'h = .agg [i64 (p : Int), i64 (q : Int)] := fun h => (List.getElem?_eq_some_iff.1 g1).2
    have hw : IntKind.i64.wrap ((i : Int) + 1) = (i : Int) + 1 := wr64 (by omega) (by omega)
    rw [cs1] at hih
    rw [loopW_eq]
    clear ih
    generalize loopW (bd E0 (ev E0) loopW 0 [0, 1, 5] L14b0) = K at hih ⊢
    generalize prs l = nl at *
    simpa -implicitDefEqProofs [bd, L14b0, hi, hii, g1, g2, hnl, hw] using hih
theorem rP (l : List (Nat × Nat)) (hl : l.length ≤ 140737488355328) : ev E0 14 [.lst 2 (prs l), .lst 2 (prs l)] [] = some (bl true, []) := by
  have h := rP_loop l hl l 0 rfl
  rw [c0] at h
  rw [e14]
  unfold runF
  simp -implicitDefEqProofs [L14, prs_len, h]
theorem two_rP (l : List (Nat × Nat)) (hl : l.length ≤ 1000000) : ev E1 14 [.lst 2 (prs l), .lst 2 (prs l)] [] = some (bl true, []) := by
  rw [g14]
  exact frz_to rfl (rP l (by omega)) (by simp) (by simp)
-- ---------------------------------------------------------------- the draws
theorem two_dSafe (x : List Int) (hx : okC x) : ∃ ms, smallT ms ∧ ev E1 6 [.lst 1 (cd x)] [] = some (tA ms, []) := by
  obtain ⟨T, H, hT, e⟩ := drawSafe x hx
  rcases hT with ⟨rfl, rfl⟩ | ⟨ms, z1, z2, rfl, rfl⟩
  · refine ⟨[], ⟨by simp, by simp⟩, ?_⟩
    rw [g6]
    exact frz_to rfl e (by simp) (by simp [tA])
  · refine ⟨ms, ⟨z1, z2⟩, ?_⟩
    have e2 : List.take ms.length (ms.map st) = ms.map st := List.take_of_length_le (by simp)
    unfold tr at e
    rw [g6]
    exact frz_to rfl e (by simp) (by simp [tA, e2])
theorem two_dJoin (x : List Int) (hx : okC x) : ∃ ms, smallT ms ∧ ev E1 21 [.lst 1 (cd x)] [] = some (tA ms, []) := by
  obtain ⟨T, H, hT, e⟩ := drawJoined x hx
  rcases hT with ⟨rfl, rfl⟩ | ⟨ms, z1, z2, rfl, rfl⟩
  · refine ⟨[], ⟨by simp, by simp⟩, ?_⟩
    rw [g21]
    exact frz_to rfl e (by simp) (by simp [tA])
  · refine ⟨ms, ⟨z1, z2⟩, ?_⟩
    have e2 : List.take ms.length (ms.map st) = ms.map st := List.take_of_length_le (by simp)
    unfold tr at e
    rw [g21]
    exact frz_to rfl e (by simp) (by simp [tA, e2])
theorem two_dSub (x : List Int) (hx : okC x) : ∃ ms, smallT ms ∧ ev E1 27 [.lst 1 (cd x)] [] = some (tA ms, []) := by
  obtain ⟨T, H, hT, e⟩ := drawSubset x hx
  rcases hT with ⟨rfl, rfl⟩ | ⟨ms, z1, z2, rfl, rfl⟩
  · refine ⟨[], ⟨by simp, by simp⟩, ?_⟩
    rw [g27]
    exact frz_to rfl e (by simp) (by simp [tA])
  · refine ⟨ms, ⟨z1, z2⟩, ?_⟩
    have e2 : List.take ms.length (ms.map st) = ms.map st := List.take_of_length_le (by simp)
    unfold tr at e
    rw [g27]
    exact frz_to rfl e (by simp) (by simp [tA, e2])
theorem two_dSplit (x : List Int) (hx : okC x) : ∃ ms k, smallT ms ∧ ev E1 24 [.lst 1 (cd x)] [] = some (.tup [tA ms, i64 k], []) := by
  obtain ⟨T, H, k, hT, e⟩ := drawSplit x hx
  rcases hT with ⟨rfl, rfl⟩ | ⟨ms, z1, z2, rfl, rfl⟩
  · refine ⟨[], k, ⟨by simp, by simp⟩, ?_⟩
    rw [g24]
    exact frz_to rfl e (by simp) (by simp [tA])
  · refine ⟨ms, k, ⟨z1, z2⟩, ?_⟩
    have e2 : List.take ms.length (ms.map st) = ms.map st := List.take_of_length_le (by simp)
    unfold tr at e
    rw [g24]
    exact frz_to rfl e (by simp) (by simp [tA, e2])
theorem two_dBy (x : List Int) (hx : okC x) : ∃ ms k q, smallT ms ∧ ev E1 17 [.lst 1 (cd x)] [] = some (.tup [tA ms, i64 k, i64 q], []) := by
  obtain ⟨T, H, k, q, hT, e⟩ := drawBy x hx
  rcases hT with ⟨rfl, rfl⟩ | ⟨ms, z1, z2, rfl, rfl⟩
  · refine ⟨[], k, q, ⟨by simp, by simp⟩, ?_⟩
    rw [g17]
    exact frz_to rfl e (by simp) (by simp [tA])
  · refine ⟨ms, k, q, ⟨z1, z2⟩, ?_⟩
    have e2 : List.take ms.length (ms.map st) = ms.map st := List.take_of_length_le (by simp)
    unfold tr at e
    rw [g17]
    exact frz_to rfl e (by simp) (by simp [tA, e2])
theorem two_dChain (x : List Int) (hx : okC x) : ∃ ms k q, smallT ms ∧ ev E1 30 [.lst 1 (cd x)] [] = some (.tup [tA ms, i64 k, i64 q], []) := by
  obtain ⟨T, H, k, q, hT, e⟩ := drawChain x hx
  rcases hT with ⟨rfl, rfl⟩ | ⟨ms, z1, z2, rfl, rfl⟩
  · refine ⟨[], k, q, ⟨by simp, by simp⟩, ?_⟩
    rw [g30]
    exact frz_to rfl e (by simp) (by simp [tA])
  · refine ⟨ms, k, q, ⟨z1, z2⟩, ?_⟩
    have e2 : List.take ms.length (ms.map st) = ms.map st := List.take_of_length_le (by simp)
    unfold tr at e
    rw [g30]
    exact frz_to rfl e (by simp) (by simp [tA, e2])
-- ---------------------------------------------------------------- the answers
theorem isTable_i (ms : List ByteArray) (h : smallT ms) : ev E0 9 [.agg [.lst 1 (ms.map st)]] [] = some (bl (okTable ms), []) := by
  have h1 := table_i ms (by have := h.1; omega) (fun x hx => by have := h.2 x hx; omega)
  rw [e9]
  unfold runF
  simp -implicitDefEqProofs [L9, h1]
theorem two_isT (ms : List ByteArray) (h : smallT ms) : ev E1 9 [tA ms] [] = some (bl (okTable ms), []) := by
  rw [g9]
  exact frz_to rfl (isTable_i ms h) (by simp [tA]) (by simp)
theorem two_safeI (ms : List ByteArray) (h : smallT ms) : ev E1 7 [tA ms] [] = some (.tup [bl (safe ms), bl (okTable ms)], []) := by
  rw [g7]
  exact frz_to rfl (safe_i ms (sm1 h) (sm2 h)) (by simp [tA]) (by simp)
theorem two_safeS (ms : List ByteArray) (h : smallT ms) : ev E1 8 [tA ms] [] = some (.tup [bl (safe ms), bl (okTable ms)], []) := by
  rw [g8]
  exact frz_to rfl (safe_s ms (sm1 h) (sm2 h)) (by simp [tA]) (by simp)
theorem two_leastI (ms : List ByteArray) (h : smallT ms) : ev E1 10 [tA ms] [] = some (.tup [i64 (if two ms = true then (lm ms : Int) else 0), bl (two ms)], []) := by
  rw [g10]
  exact frz_to rfl (leastD_i ms (sm1 h) (sm2 h)) (by simp [tA]) (by simp)
theorem two_leastS (ms : List ByteArray) (h : smallT ms) : ev E1 11 [tA ms] [] = some (.tup [i64 (if two ms = true then (lm ms : Int) else 0), bl (two ms)], []) := by
  rw [g11]
  exact frz_to rfl (leastD_s ms (sm1 h) (sm2 h)) (by simp [tA]) (by simp)
theorem two_repI (ms : List ByteArray) (h : smallT ms) : ev E1 15 [tA ms] [] = some (.tup [i64 (if two ms = true then (((lm ms - 1) / 2 : Nat) : Int) else 0), bl (two ms)], []) := by
  rw [g15]
  exact frz_to rfl (repair_i ms (sm1 h) (sm2 h)) (by simp [tA]) (by simp)
theorem two_repS (ms : List ByteArray) (h : smallT ms) : ev E1 16 [tA ms] [] = some (.tup [i64 (if two ms = true then (((lm ms - 1) / 2 : Nat) : Int) else 0), bl (two ms)], []) := by
  rw [g16]
  exact frz_to rfl (repair_s ms (sm1 h) (sm2 h)) (by simp [tA]) (by simp)
theorem two_pairs (ms : List ByteArray) (h : smallT ms) : ∃ R : List (Nat × Nat), R.length ≤ 1000 ∧ (two ms = true → R ≠ []) ∧ ev E1 12 [tA ms] [] = some (.tup [.lst 2 (prs R), bl (two ms)], []) ∧ ev E1 13 [tA ms] [] = some (.tup [.lst 2 (prs R), bl (two ms)], []) := by
  have h1 := pairs_i ms (sm1 h) (sm2 h)
  have h2 := pairs_s ms (sm1 h) (sm2 h)
  have hlen : (cps ms).length ≤ 1000 := by
    have := upF_len ms.length 0
    have h3 : (cps ms).length ≤ (upF ms.length 0).length := List.length_filter_le ..
    have h4 : ms.length * ms.length ≤ 30 * 30 := Nat.mul_le_mul h.1 h.1
    omega
  cases ht : two ms with
  | true =>
    rw [ht, if_pos rfl] at h1 h2
    have ⟨hv, h3, _⟩ := two_vt ht
    refine ⟨cps ms, hlen, fun _ => cps_ne hv h3, ?_, ?_⟩
    · unfold pb at h1
      rw [g12]
      exact frz_to rfl h1 (by simp [tA]) (by simp [tk_prs, prs_len])
    · unfold pb at h2
      rw [g13]
      exact frz_to rfl h2 (by simp [tA]) (by simp [tk_prs, prs_len])
  | false =>
    rw [ht, if_neg (by simp)] at h1 h2
    refine ⟨[], by simp, fun h => by simp at h, ?_, ?_⟩
    · rw [g12]
      exact frz_to rfl h1 (by simp [tA]) (by simp [prs])
    · unfold pb at h2
      rw [g13]
      exact frz_to rfl h2 (by simp [tA]) (by simp [prs])
theorem two_by (ms : List ByteArray) (h : smallT ms) (c k : Int) : ∃ (R : List Nat) (b : Bool), R.length ≤ 1000 ∧ (R ≠ [] → okTable ms = true ∧ 0 ≤ c ∧ c < ms.length) ∧ (∀ j ∈ R, j < ms.length ∧ ds (mk_ ms c.toNat) (mk_ ms j) = 1) ∧ ev E1 18 [tA ms, i64 c, i64 k] [] = some (.tup [.lst 1 (ns R), bl b], []) ∧ ev E1 19 [tA ms, i64 c, i64 k] [] = some (.tup [.lst 1 (ns R), bl b], []) := by
  have h1 := lettersBy_i ms (sm1 h) (sm2 h) c k
  have h2 := lettersBy_s ms (sm1 h) (sm2 h) c k
  cases ht : okBy ms c k with
  | true =>
    rw [ht, if_pos rfl] at h1 h2
    have hb := ht
    unfold okBy at hb
    rw [Bool.and_eq_true, Bool.and_eq_true] at hb
    have hc := okLetter_bounds hb.2.1
    refine ⟨bys ms c k, true, ?_, fun _ => ⟨hb.1, hc⟩, fun j hj => ?_, ?_, ?_⟩
    · have h3 : (bys ms c k).length ≤ (List.range' 0 ms.length).length := List.length_filter_le ..
      rw [List.length_range'] at h3
      have := h.1
      omega
    · unfold bys byL at hj
      rw [List.mem_filter] at hj
      have h4 := List.mem_range'_1.1 hj.1
      have h5 := hj.2
      unfold byP at h5
      rw [Bool.and_eq_true, decide_eq_true_eq] at h5
      exact ⟨by omega, h5.1⟩
    · unfold ib at h1
      rw [g18]
      exact frz_to rfl h1 (by simp [tA]) (by simp [tk_ns, ns_len])
    · unfold ib at h2
      rw [g19]
      exact frz_to rfl h2 (by simp [tA]) (by simp [tk_ns, ns_len])
  | false =>
    rw [ht, if_neg (by simp)] at h1 h2
    refine ⟨[], false, by simp, fun h => absurd rfl h, fun j hj => by simp at hj, ?_, ?_⟩
    · rw [g18]
      exact frz_to rfl h1 (by simp [tA]) (by simp [ns])
    · unfold ib at h2
      rw [g19]
      exact frz_to rfl h2 (by simp [tA]) (by simp [ns])
theorem two_join (ms : List ByteArray) (h : smallT ms) : ∃ (R : List (Nat × Nat × Nat)), R.length ≤ 1000000 ∧ ev E1 22 [tA ms] [] = some (.tup [.lst 3 (tr3s R), bl (okTable ms)], []) ∧ ev E1 23 [tA ms] [] = some (.tup [.lst 3 (tr3s R), bl (okTable ms)], []) := by
  have h1 := joined_i ms (sm1 h) (sm2 h)
  have h2 := joined_s ms (sm1 h) (sm2 h)
  cases ht : okTable ms with
  | true =>
    rw [ht, if_pos rfl] at h1 h2
    refine ⟨jns ms, jns_len ms (sm1 h), ?_, ?_⟩
    · unfold jb3 at h1
      rw [g22]
      exact frz_to rfl h1 (by simp [tA]) (by simp [tk_tr3s, tr3s_len])
    · unfold jb3 at h2
      rw [g23]
      exact frz_to rfl h2 (by simp [tA]) (by simp [tk_tr3s, tr3s_len])
  | false =>
    rw [ht, if_neg (by simp)] at h1 h2
    refine ⟨[], by simp, ?_, ?_⟩
    · rw [g22]
      exact frz_to rfl h1 (by simp [tA]) (by simp [tr3s])
    · unfold jb3 at h2
      rw [g23]
      exact frz_to rfl h2 (by simp [tA]) (by simp [tr3s])
theorem mem_jn1 (ms : List ByteArray) : ∀ (r i : Nat) (p : Nat × Nat × Nat), i + r = ms.length → p ∈ jn1 ms r i → p.1 < ms.length ∧ p.2.1 < ms.length ∧ place (mk_ ms p.1 ++ mk_ ms p.2.1) ms 0 = (p.2.2 : Int)
  | 0, i, p, _, h => by simp [jn1] at h
  | r + 1, i, p, hir, h => by
    rw [jn1, List.mem_append] at h
    rcases h with h | h
    · have key : ∀ (c j : Nat), j + c = ms.length → p ∈ jn0 ms i c j → p.1 < ms.length ∧ p.2.1 < ms.length ∧ place (mk_ ms p.1 ++ mk_ ms p.2.1) ms 0 = (p.2.2 : Int) := by
        intro c
        induction c with
        | zero => intro j _ hp; simp [jn0] at hp
        | succ c ih =>
          intro j hj hp
          rw [jn0, List.mem_append] at hp
          rcases hp with hp | hp
          · unfold jn at hp
            split at hp
            · rename_i h0
              rw [List.mem_singleton] at hp
              subst hp
              exact ⟨by dsimp only; omega, by dsimp only; omega, by dsimp only; omega⟩
            · simp at hp
          · exact ih (j + 1) (by omega) hp
      exact key ms.length 0 (by omega) h
    · exact mem_jn1 ms r (i + 1) p (by omega) h
theorem place_get (x : ByteArray) (ms : List ByteArray) (n : Nat) (h : place x ms 0 = (n : Int)) : mk_ ms n = x := by
  have key : ∀ (t : List ByteArray) (o : Nat), ms.drop o = t → place x t o = (n : Int) → mk_ ms n = x := by
    intro t
    induction t with
    | nil => intro o _ h; unfold place at h; omega
    | cons y t ih =>
      intro o ho h
      obtain ⟨hi, hx, hd, _⟩ := at_drop ho
      unfold place at h
      split at h
      · rename_i e
        have : o = n := by omega
        subst this
        rw [← mk_at hi, hx, e]
      · exact ih (o + 1) hd h
  exact key ms 0 rfl h
theorem two_split (ms : List ByteArray) (h : smallT ms) (c : Int) : ∃ (R : List (Nat × Nat)) (b : Bool), R.length ≤ 1000000 ∧ (b = true → 0 ≤ c ∧ c < ms.length ∧ ∀ p ∈ R, p.1 < ms.length ∧ p.2 < ms.length ∧ mk_ ms p.1 ++ mk_ ms p.2 = mk_ ms c.toNat) ∧ ev E1 25 [tA ms, i64 c] [] = some (.tup [.lst 2 (prs R), bl b], []) ∧ ev E1 26 [tA ms, i64 c] [] = some (.tup [.lst 2 (prs R), bl b], []) := by
  have h1 := split6_i ms (sm1 h) (sm2 h) c
  have h2 := split6_s ms (sm1 h) (sm2 h) c
  cases ht : (okTable ms && okLetter ms c) with
  | true =>
    rw [ht, if_pos rfl] at h1 h2
    rw [Bool.and_eq_true] at ht
    have hc := okLetter_bounds ht.2
    refine ⟨spL c (jns ms), true, ?_, fun _ => ⟨hc.1, hc.2, fun p hp => ?_⟩, ?_, ?_⟩
    · have := spL_len c (jns ms)
      have := jns_len ms (sm1 h)
      omega
    · unfold spL at hp
      obtain ⟨q, hq, rfl⟩ := List.mem_map.1 hp
      rw [List.mem_filter, decide_eq_true_eq] at hq
      obtain ⟨b1, b2, b3⟩ := mem_jn1 ms ms.length 0 q (by omega) hq.1
      refine ⟨b1, b2, ?_⟩
      have := place_get _ ms _ b3
      dsimp only
      rw [← this]
      congr 1
      omega
    · unfold pb at h1
      rw [g25]
      exact frz_to rfl h1 (by simp [tA]) (by simp [tk_prs, prs_len])
    · unfold pb at h2
      rw [g26]
      exact frz_to rfl h2 (by simp [tA]) (by simp [tk_prs, prs_len])
  | false =>
    rw [ht, if_neg (by simp)] at h1 h2
    refine ⟨[], false, by simp, fun h => by simp at h, ?_, ?_⟩
    · rw [g25]
      exact frz_to rfl h1 (by simp [tA]) (by simp [prs])
    · unfold pb at h2
      rw [g26]
      exact frz_to rfl h2 (by simp [tA]) (by simp [prs])
theorem sfF_len (ms : List ByteArray) : ∀ (r i : Nat) (l : List Nat), (sfF ms r i l).length ≤ l.length + r
  | 0, _, l => by rw [sfF]; omega
  | r + 1, i, l => by
    rw [sfF]
    refine Nat.le_trans (sfF_len ms r (i + 1) _) ?_
    split
    · omega
    · simp; omega
theorem two_sub (ms : List ByteArray) (h : smallT ms) : ∃ (R : List Nat) (b : Bool), R.length ≤ 1000 ∧ (R ≠ [] → okTable ms = true) ∧ (∀ j ∈ R, j < ms.length) ∧ (∀ a b, a < b → b < R.length → 2 ≤ ds (mk_ ms (Bf.Q R b)) (mk_ ms (Bf.Q R a))) ∧ ev E1 28 [tA ms] [] = some (.tup [.lst 1 (ns R), bl b], []) ∧ ev E1 29 [tA ms] [] = some (.tup [.lst 1 (ns R), bl b], []) := by
  have h1 := safeSub_i ms (sm1 h) (sm2 h)
  have h2 := safeSub_s ms (sm1 h) (sm2 h)
  cases ht : okTable ms with
  | true =>
    rw [ht, if_pos rfl] at h1 h2
    obtain ⟨k1, k2⟩ := sf_apart ms ms.length 0 [] (by simp) (by simp)
    have k3 := sfF_len ms ms.length 0 []
    refine ⟨sfs ms, true, ?_, fun _ => rfl, fun j hj => by have := k1 j hj; omega, k2, ?_, ?_⟩
    · unfold sfs
      have := h.1
      rw [List.length_nil] at k3
      omega
    · unfold ib at h1
      rw [g28]
      exact frz_to rfl h1 (by simp [tA]) (by simp [tk_ns, ns_len])
    · unfold ib at h2
      rw [g29]
      exact frz_to rfl h2 (by simp [tA]) (by simp [tk_ns, ns_len])
  | false =>
    rw [ht, if_neg (by simp)] at h1 h2
    refine ⟨[], false, by simp, fun h => absurd rfl h, fun j hj => by simp at hj, by simp, ?_, ?_⟩
    · rw [g28]
      exact frz_to rfl h1 (by simp [tA]) (by simp [ns])
    · unfold ib at h2
      rw [g29]
      exact frz_to rfl h2 (by simp [tA]) (by simp [ns])
theorem two_chain (ms : List ByteArray) (h : smallT ms) (c d : Int) : ∃ (R : List Nat) (b : Bool), R.length ≤ 1001 ∧ (b = true → okTable ms = true ∧ 1 ≤ R.length ∧ (Bf.Q R 0 : Int) = c ∧ (Bf.Q R (R.length - 1) : Int) = d) ∧ (∀ j ∈ R, j < ms.length) ∧ (∀ j, j + 1 < R.length → ds (mk_ ms (Bf.Q R j)) (mk_ ms (Bf.Q R (j + 1))) = 1) ∧ ev E1 31 [tA ms, i64 c, i64 d] [] = some (.tup [.lst 1 (ns R), bl b], []) ∧ ev E1 32 [tA ms, i64 c, i64 d] [] = some (.tup [.lst 1 (ns R), bl b], []) := by
  have none : ev E0 31 [.agg [.lst 1 (ms.map st)], i64 c, i64 d] [] = some (.tup [.v (.slice none 0 0), bl false], []) → ev E0 32 [.agg [.lst 1 (ms.map st)], i64 c, i64 d] [] = some (.tup [.sl 0 0 0, bl false], [some (ib [])]) →
      ev E1 31 [tA ms, i64 c, i64 d] [] = some (.tup [.lst 1 (ns []), bl false], []) ∧ ev E1 32 [tA ms, i64 c, i64 d] [] = some (.tup [.lst 1 (ns []), bl false], []) := by
    intro h1 h2
    constructor
    · rw [g31]
      exact frz_to rfl h1 (by simp [tA]) (by simp [ns])
    · unfold ib at h2
      rw [g32]
      exact frz_to rfl h2 (by simp [tA]) (by simp [ns])
  cases ht : okCh ms c d with
  | false =>
    obtain ⟨h1, h2⟩ := chain_no ms (sm1 h) (sm2 h) c d ht
    exact ⟨[], false, by simp, fun h => by simp at h, by simp, by simp, none h1 h2⟩
  | true =>
    have hb := ht
    unfold okCh at hb
    rw [Bool.and_eq_true, Bool.and_eq_true] at hb
    have ha := okLetter_bounds hb.2.1
    have hd := okLetter_bounds hb.2.2
    obtain ⟨cn, rfl⟩ : ∃ n : Nat, c = n := ⟨c.toNat, by omega⟩
    obtain ⟨dn, rfl⟩ : ∃ n : Nat, d = n := ⟨d.toNat, by omega⟩
    rcases chain_yes ms (sm1 h) (sm2 h) cn dn ht with ⟨L, k1, k2, k3, k4, k5, k6, h1, h2⟩ | ⟨h1, h2⟩
    · refine ⟨L, true, k1, fun _ => ⟨hb.1, k3, by rw [k4], by rw [k5]⟩, k2, k6, ?_, ?_⟩
      · unfold ib at h1
        rw [g31]
        exact frz_to rfl h1 (by simp [tA]) (by simp [tk_ns, ns_len])
      · unfold ib at h2
        rw [g32]
        exact frz_to rfl h2 (by simp [tA]) (by simp [tk_ns, ns_len])
    · exact ⟨[], false, by simp, fun h => by simp at h, by simp, by simp, none h1 h2⟩
theorem marks_in {ms : List ByteArray} (h : okTable ms = true) {i : Nat} (hi : i < ms.length) : okMarks (mk_ ms i) 0 5 = true := by
  have key : ∀ (t seen : List ByteArray), chk seen t = true → ∀ m ∈ t, okMarks m 1 5 = true := by
    intro t
    induction t with
    | nil => intro _ _ m hm; simp at hm
    | cons c t ih =>
      intro seen hc m hm
      rw [chk, Bool.and_eq_true, Bool.and_eq_true] at hc
      rcases List.mem_cons.1 hm with rfl | hm
      · exact hc.1
      · exact ih _ hc.2.2 m hm
  unfold okTable at h
  rw [Bool.and_eq_true] at h
  have hm : mk_ ms i ∈ ms := by rw [← mk_at hi]; exact List.getElem_mem hi
  have h5 := key ms [] h.2 _ hm
  unfold okMarks at h5 ⊢
  rw [Bool.and_eq_true, Bool.and_eq_true, decide_eq_true_eq, decide_eq_true_eq] at h5
  rw [h5.1, decide_eq_true (by omega), decide_eq_true h5.2.2]
  rfl
theorem two_dist (ms : List ByteArray) (h : smallT ms) (ho : okTable ms = true) {i j : Nat} (hi : i < ms.length) (hj : j < ms.length) : ev E1 33 [st (mk_ ms i), st (mk_ ms j)] [] = some (.tup [i64 (ds (mk_ ms i) (mk_ ms j) : Int), bl true], []) := by
  have h1 := markD_i (mk_ ms i) (mk_ ms j) (mk_sz (sm2 h) i) (mk_sz (sm2 h) j)
  rw [marks_in ho hi, marks_in ho hj] at h1
  rw [g33]
  exact frz_to rfl h1 (by simp) (by simp)
end Go.Proofs.YtodcochnciadjaaDoor.Ev
