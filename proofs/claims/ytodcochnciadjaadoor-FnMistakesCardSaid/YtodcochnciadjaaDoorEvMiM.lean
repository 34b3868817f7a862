/- What the calls of the law on mistakes answer, and its loops. -/
import Derived.Test.YtodcochnciadjaaDoorEvMiH
import Derived.Test.YtodcochnciadjaaDoorEvMiD
import Derived.Test.YtodcochnciadjaaDoorEvDrawA7
set_option linter.unusedVariables false
set_option linter.unusedSimpArgs false
namespace Go.Proofs.YtodcochnciadjaaDoor.Ev
open Dr
-- ---------------------------------------------------------------- small functions of the laws
theorem rH_loop (l : List Nat) (hl : l.length ≤ 140737488355328) (x : Nat) : ∀ (t : List Nat) (i : Nat), l.drop i = t →
    (x ∈ t → packX 0 [4] (loopW (bd E0 (ev E0) loopW 0 [0, 1, 5] L47b0) ⟨[(0, .lst 1 (ns l)), (1, i64 x), (5, i64 i)], []⟩) = some (.ret, ⟨[(4, bl true)], []⟩)) ∧
    (x ∉ t → packX 0 [4] (loopW (bd E0 (ev E0) loopW 0 [0, 1, 5] L47b0) ⟨[(0, .lst 1 (ns l)), (1, i64 x), (5, i64 i)], []⟩) = some (.ext 0, ⟨[], []⟩)) := by
  intro t
  induction t with
  | nil =>
    intro i h
    have hi := not_drop h
    refine ⟨fun h => by simp at h, fun _ => ?_⟩
    have hl2 := ns_len l
    have hi2 : ¬ (i : Int) < (l.length : Int) := by omega
    rw [loopW_eq]
    generalize loopW (bd E0 (ev E0) loopW 0 [0, 1, 5] L47b0) = K
    generalize ns l = nl at *
    simp -implicitDefEqProofs [bd, L47b0, hl2, hi, hi2]
  | cons c t ih =>
    intro i h
    obtain ⟨hi, hx, hd, hmem⟩ := at_drop h
    obtain ⟨ih1, ih2⟩ := ih (i + 1) hd
    rw [cs1] at ih1 ih2
    have hw : IntKind.i64.wrap ((i : Int) + 1) = (i : Int) + 1 := wr64 (by omega) (by omega)
    have hl2 := ns_len l
    have hi2 : (i : Int) < (l.length : Int) := by omega
    have g1 := get_ns hi hx
    have g2 : ∀ h, (ns l)[i]'h = i64 (c : Int) := fun h => (List.getElem?_eq_some_iff.1 g1).2
    rw [loopW_eq]
    clear ih
    generalize loopW (bd E0 (ev E0) loopW 0 [0, 1, 5] L47b0) = K at ih1 ih2 ⊢
    generalize ns l = nl at *
    by_cases hc : c = x
    · subst hc
      refine ⟨fun _ => ?_, fun h => absurd (List.mem_cons_self ..) h⟩
      simp -implicitDefEqProofs [bd, L47b0, hl2, hi, hi2, g1, g2]
    · have hci : ¬ (c : Int) = (x : Int) := by omega
      refine ⟨fun h => ?_, fun h => ?_⟩
      · have h2 : x ∈ t := by
          rcases List.mem_cons.1 h with e | h
          · exact absurd e.symm hc
          · exact h
        simpa -implicitDefEqProofs [bd, L47b0, hl2, hi, hi2, g1, g2, hc, hci, hw] using ih1 h2
      · simpa -implicitDefEqProofs [bd, L47b0, hl2, hi, hi2, g1, g2, hc, hci, hw] using ih2 (fun e => h (List.mem_cons_of_mem _ e))
theorem rH (l : List Nat) (hl : l.length ≤ 140737488355328) (x : Nat) : ev E0 47 [.lst 1 (ns l), i64 x] [] = some (bl (decide (x ∈ l)), []) := by
  obtain ⟨h1, h2⟩ := rH_loop l hl x l 0 rfl
  rw [c0] at h1 h2
  rw [e47]
  unfold runF
  by_cases h : x ∈ l
  · have h1 := h1 h
    rw [decide_eq_true h]
    simp -implicitDefEqProofs [L47, h1]
  · have h2 := h2 h
    rw [decide_eq_false h]
    simp -implicitDefEqProofs [L47, h2]
theorem two_rH (l : List Nat) (hl : l.length ≤ 1000000) (x : Nat) : ev E1 47 [.lst 1 (ns l), i64 x] [] = some (bl (decide (x ∈ l)), []) := by
  rw [g47]
  exact frz_to rfl (rH l (by omega) x) (by simp) (by simp)
theorem rT_loop (l : List ByteArray) (hl : l.length ≤ 140737488355328) : ∀ (t : List ByteArray) (i : Nat), l.drop i = t →
    packX 0 [4] (loopW (bd E0 (ev E0) loopW 0 [0, 1, 5] L80b0) ⟨[(0, .lst 1 (l.map st)), (1, .lst 1 (l.map st)), (5, i64 i)], []⟩) = some (.ext 0, ⟨[], []⟩) := by
  intro t
  induction t with
  | nil =>
    intro i h
    have hi := not_drop h
    have hii : ¬ (i : Int) < (l.length : Int) := by omega
    rw [loopW_eq]
    generalize loopW (bd E0 (ev E0) loopW 0 [0, 1, 5] L80b0) = K
    simp -implicitDefEqProofs [bd, L80b0, hi, hii]
  | cons c t ih =>
    intro i h
    obtain ⟨hi, hx, hd, hmem⟩ := at_drop h
    have hih := ih (i + 1) hd
    have hii : (i : Int) < (l.length : Int) := by omega
    have g1 := get_ms hi hx
    have g2 : ∀ h, (l.map st)[i]'h = st c := fun h => (List.getElem?_eq_some_iff.1 g1).2
    have hw : IntKind.i64.wrap ((i : Int) + 1) = (i : Int) + 1 := wr64 (by omega) (by omega)
    rw [cs1] at hih
    rw [loopW_eq]
    clear ih
    generalize loopW (bd E0 (ev E0) loopW 0 [0, 1, 5] L80b0) = K at hih ⊢
    simpa -implicitDefEqProofs [bd, L80b0, hi, hii, g1, g2, hw] using hih
theorem rTab (l : List ByteArray) (hl : l.length ≤ 140737488355328) : ev E0 42 [.agg [.lst 1 (l.map st)], .agg [.lst 1 (l.map st)]] [] = some (bl true, []) := by
  have h := rT_loop l hl l 0 rfl
  rw [c0] at h
  have h2 : ev E0 80 [.lst 1 (l.map st), .lst 1 (l.map st)] [] = some (bl true, []) := by
    rw [e80]
    unfold runF
    simp -implicitDefEqProofs [L80, h]
  rw [e42]
  unfold runF
  simp -implicitDefEqProofs [L42, h2]
theorem two_rTab (l : List ByteArray) (hl : l.length ≤ 1000000) : ev E1 42 [tA l, tA l] [] = some (bl true, []) := by
  rw [g42]
  exact frz_to rfl (rTab l (by omega)) (by simp [tA]) (by simp)
-- ---------------------------------------------------------------- draws and answers
theorem two_dMD (x : List Int) (hx : okC x) : ∃ (m k : ByteArray), m.size ≤ 20 ∧ k.size ≤ 20 ∧ ev E1 34 [.lst 1 (cd x)] [] = some (.tup [st m, st k], []) := by
  obtain ⟨m, k, z1, z2, e⟩ := drawMD x hx
  refine ⟨m, k, z1, z2, ?_⟩
  rw [g34]
  exact frz_to rfl e (by simp) (by simp)
theorem two_dNear (x : List Int) (hx : okC x) : ∃ ms k, smallT ms ∧ k.size ≤ 20 ∧ ev E1 36 [.lst 1 (cd x)] [] = some (.tup [tA ms, st k], []) := by
  obtain ⟨T, H, k, hT, zk, e⟩ := drawNear x hx
  rcases hT with ⟨rfl, rfl⟩ | ⟨ms, z1, z2, rfl, rfl⟩
  · refine ⟨[], k, ⟨by simp, by simp⟩, zk, ?_⟩
    rw [g36]
    exact frz_to rfl e (by simp) (by simp [tA])
  · refine ⟨ms, k, ⟨z1, z2⟩, zk, ?_⟩
    have e2 : List.take ms.length (ms.map st) = ms.map st := List.take_of_length_le (by simp)
    unfold tr at e
    rw [g36]
    exact frz_to rfl e (by simp) (by simp [tA, e2])
theorem two_dRead (x : List Int) (hx : okC x) : ∃ ms k, smallT ms ∧ k.size ≤ 300 ∧ ev E1 43 [.lst 1 (cd x)] [] = some (.tup [tA ms, st k], []) := by
  obtain ⟨T, H, k, hT, zk, e⟩ := drawRead x hx
  rcases hT with ⟨rfl, rfl⟩ | ⟨ms, z1, z2, rfl, rfl⟩
  · refine ⟨[], k, ⟨by simp, by simp⟩, zk, ?_⟩
    rw [g43]
    exact frz_to rfl e (by simp) (by simp [tA])
  · refine ⟨ms, k, ⟨z1, z2⟩, zk, ?_⟩
    have e2 : List.take ms.length (ms.map st) = ms.map st := List.take_of_length_le (by simp)
    unfold tr at e
    rw [g43]
    exact frz_to rfl e (by simp) (by simp [tA, e2])
theorem two_dEven (x : List Int) (hx : okC x) : ∃ ms, smallT ms ∧ ev E1 39 [.lst 1 (cd x)] [] = some (tA ms, []) := by
  obtain ⟨T, H, hT, e⟩ := drawEven x hx
  rcases hT with ⟨rfl, rfl⟩ | ⟨ms, z1, z2, rfl, rfl⟩
  · refine ⟨[], ⟨by simp, by simp⟩, ?_⟩
    rw [g39]
    exact frz_to rfl e (by simp) (by simp [tA])
  · refine ⟨ms, ⟨z1, z2⟩, ?_⟩
    have e2 : List.take ms.length (ms.map st) = ms.map st := List.take_of_length_le (by simp)
    unfold tr at e
    rw [g39]
    exact frz_to rfl e (by simp) (by simp [tA, e2])
def okMD (a b : ByteArray) : Bool := okMarks a 0 5 && okMarks b 0 5
theorem two_mdI (a b : ByteArray) (ha : a.size ≤ 400) (hb : b.size ≤ 400) : ev E1 33 [st a, st b] [] = some (.tup [i64 (if okMD a b = true then (ds a b : Int) else 0), bl (okMD a b)], []) := by
  rw [g33]
  exact frz_to rfl (markD_i a b ha hb) (by simp) (by simp [okMD])
theorem two_mdS (a b : ByteArray) (ha : a.size ≤ 400) (hb : b.size ≤ 400) : ev E1 35 [st a, st b] [] = some (.tup [i64 (if okMD a b = true then (ds a b : Int) else 0), bl (okMD a b)], []) := by
  rw [g35]
  exact frz_to rfl (markD_s a b ha hb) (by simp) (by simp [okMD])
theorem two_near (ms : List ByteArray) (h : smallT ms) (k : ByteArray) (hk : k.size ≤ 20) : ∃ (N : List Nat) (x : Int) (one : Bool), N.length ≤ 1000 ∧ (one = true → okTable ms = true ∧ okMarks k 0 5 = true ∧ ∀ i, i < ms.length → x ≤ (ds (mk_ ms i) k : Int) ∧ (decide ((ds (mk_ ms i) k : Int) = x) = decide (i ∈ N))) ∧ ev E1 37 [tA ms, st k] [] = some (.tup [.lst 1 (ns N), i64 x, bl one], []) ∧ ev E1 38 [tA ms, st k] [] = some (.tup [.lst 1 (ns N), i64 x, bl one], []) := by
  have h1 := nearL_i ms (sm1 h) (sm2 h) k (by omega)
  have h2 := nearL_s ms (sm1 h) (sm2 h) k (by omega)
  cases ht : (okTable ms && okMarks k 0 5) with
  | true =>
    rw [ht, if_pos rfl] at h1 h2
    rw [Bool.and_eq_true] at ht
    have hb := nr_ok ms (okTable_len ht.1).1 k
    refine ⟨(nrst ms k).1, (nrst ms k).2, true, ?_, fun _ => ⟨ht.1, ht.2, fun i hi => ⟨hb.le i (List.mem_range.2 hi), ?_⟩⟩, ?_, ?_⟩
    · rw [hb.eq]
      refine Nat.le_trans (List.length_filter_le ..) ?_
      rw [List.length_range]
      have := h.1
      omega
    · rw [hb.eq, decide_eq_decide, List.mem_filter, List.mem_range, decide_eq_true_eq]
      exact ⟨fun h => ⟨hi, h⟩, fun h => h.2⟩
    · unfold ib at h1
      rw [g37]
      exact frz_to rfl h1 (by simp [tA]) (by simp [tk_ns, ns_len])
    · unfold ib at h2
      rw [g38]
      exact frz_to rfl h2 (by simp [tA]) (by simp [tk_ns, ns_len])
  | false =>
    rw [ht, if_neg (by simp)] at h1 h2
    refine ⟨[], 0, false, by simp, fun h => by simp at h, ?_, ?_⟩
    · rw [g37]
      exact frz_to rfl h1 (by simp [tA]) (by simp [ns])
    · unfold ib at h2
      rw [g38]
      exact frz_to rfl h2 (by simp [tA]) (by simp [ns])
theorem two_even (ms : List ByteArray) (h : smallT ms) : ∃ (es : List ByteArray) (b : Bool), es.length ≤ 1000 ∧ (b = true → okTable ms = true ∧ okTable es = true ∧ es = evn ms) ∧ ev E1 40 [tA ms] [] = some (.tup [tA es, bl b], []) ∧ ev E1 41 [tA ms] [] = some (.tup [tA es, bl b], []) := by
  have h1 := even_i ms (by have := h.1; omega) (sm2 h)
  have h2 := even_s ms (by have := h.1; omega) (sm2 h)
  cases ht : okEv ms with
  | true =>
    rw [ht, if_pos rfl] at h1 h2
    unfold okEv at ht
    rw [Bool.and_eq_true] at ht
    have hl : (evn ms).length = ms.length := by unfold evn; rw [List.length_map]
    have e2 : List.take ms.length ((evn ms).map st) = (evn ms).map st := List.take_of_length_le (by rw [List.length_map]; omega)
    refine ⟨evn ms, true, by have := h.1; omega, fun _ => ⟨ht.1, ht.2, rfl⟩, ?_, ?_⟩
    · unfold sB at h1
      rw [g40]
      exact frz_to rfl h1 (by simp [tA]) (by simp [tA, e2, hl])
    · unfold sB at h2
      rw [g41]
      exact frz_to rfl h2 (by simp [tA]) (by simp [tA, e2, hl])
  | false =>
    rw [ht, if_neg (by simp)] at h1 h2
    refine ⟨[], false, by simp, fun h => by simp at h, ?_, ?_⟩
    · rw [g40]
      exact frz_to rfl h1 (by simp [tA]) (by simp [tA])
    · rw [g41]
      exact frz_to rfl h2 (by simp [tA]) (by simp [tA])
theorem two_read (ms : List ByteArray) (h : smallT ms) (k : ByteArray) (hk : k.size ≤ 300) : ∃ (M : ByteArray) (s : Nat) (b : Bool), ev E1 44 [tA ms, st k] [] = some (.tup [st M, i64 (s : Int), bl b], []) ∧ ev E1 45 [tA ms, st k] [] = some (.tup [st M, i64 (s : Int), bl b], []) ∧ (b = true → (s = 0 ∧ ev E1 46 [tA ms, st k] [] = some (.tup [st M, bl true], [])) ∨ (s ≠ 0 ∧ ev E1 46 [tA ms, st k] [] = some (.tup [st ⟨#[]⟩, bl false], []))) := by
  have h1 := read_i ms (by have := h.1; omega) (sm2 h) k (by omega)
  have h2 := read_s ms (by have := h.1; omega) (sm2 h) k (by omega)
  have h3 := decodeS_i ms (by have := h.1; omega) (sm2 h) k (by omega)
  cases ht : okRS ms k with
  | true =>
    rw [ht, if_pos rfl] at h1 h2
    obtain ⟨q1, q2⟩ := dec_read ht
    refine ⟨rdM ms k, rdS ms k, true, ?_, ?_, fun _ => ?_⟩
    · rw [g44]
      exact frz_to rfl h1 (by simp [tA]) (by simp)
    · rw [g45]
      exact frz_to rfl h2 (by simp [tA]) (by simp)
    · by_cases h0 : rdS ms k = 0
      · left
        rw [decide_eq_true h0] at q1
        rw [q1, if_pos rfl, q2 q1] at h3
        refine ⟨h0, ?_⟩
        rw [g46]
        exact frz_to rfl h3 (by simp [tA]) (by simp)
      · right
        rw [decide_eq_false h0] at q1
        rw [q1, if_neg (by simp)] at h3
        refine ⟨h0, ?_⟩
        rw [g46]
        exact frz_to rfl h3 (by simp [tA]) (by simp)
  | false =>
    rw [ht, if_neg (by simp)] at h1 h2
    refine ⟨⟨#[]⟩, 0, false, ?_, ?_, fun h => by simp at h⟩
    · rw [g44]
      exact frz_to rfl h1 (by simp [tA]) (by simp)
    · rw [g45]
      exact frz_to rfl h2 (by simp [tA]) (by simp)
-- ---------------------------------------------------------------- the loops
theorem mN (ts us es : List ByteArray) (a b k : ByteArray) (far x : Int) (ok tw : Bool) (N : List Nat) (hts : smallT ts) (hk : k.size ≤ 20) (ho : okTable ts = true) (hok : okMarks k 0 5 = true) (hN : N.length ≤ 1000) (hx : ∀ i, i < ts.length → x ≤ (ds (mk_ ts i) k : Int) ∧ (decide ((ds (mk_ ts i) k : Int) = x) = decide (i ∈ N))) : ∀ (r i : Nat), i + r = ts.length →
    packX 0 [2, 3, 4, 5, 6, 10, 17, 18, 19] (loopW (bd E1 (ev E1) loopW 0 [3, 4, 5, 6, 9, 10, 11, 12, 17, 18, 19, 32] L4b0) ⟨[(3, st a), (4, st b), (5, i64 far), (6, bl ok), (9, .ptr 0 0 0), (10, st k), (11, .lst 1 (ns N)), (12, i64 x), (17, .ptr 1 0 0), (18, .ptr 2 0 0), (19, bl tw), (32, i64 i)], [some (tb ts), some (tb us), some (tb es)]⟩) =
      some (.ext 0, ⟨[(3, st a), (4, st b), (5, i64 far), (6, bl ok), (10, st k), (17, .ptr 0 0 0), (18, .ptr 1 0 0), (19, bl tw)], [some (tb us), some (tb es)]⟩) := by
  unfold tb
  intro r
  induction r with
  | zero =>
    intro i h
    obtain rfl : i = ts.length := by omega
    rw [loopW_eq]
    generalize loopW (bd E1 (ev E1) loopW 0 [3, 4, 5, 6, 9, 10, 11, 12, 17, 18, 19, 32] L4b0) = K
    simp -implicitDefEqProofs [bd, L4b0]
  | succ r ih =>
    intro i h
    have hih := ih (i + 1) (by omega)
    have hi : i < ts.length := by omega
    have hii : (i : Int) < (ts.length : Int) := by omega
    obtain ⟨q1, q2⟩ := hx i hi
    have hts1 := hts.1
    have hz := mk_sz hts.2 i
    have hd := two_mdI (mk_ ts i) k (by omega) (by omega)
    have hmd : okMD (mk_ ts i) k = true := by unfold okMD; rw [marks_in ho hi, hok]; rfl
    rw [hmd, if_pos rfl] at hd
    have hh := two_rH N (by omega) i
    rw [← q2] at hh
    have g1 := get_mk hi
    have g1' := mk_at hi
    have hw : IntKind.i64.wrap ((i : Int) + 1) = (i : Int) + 1 := wr64 (by omega) (by omega)
    have q1' : ¬ (ds (mk_ ts i) k : Int) < x := by omega
    rw [cs1] at hih
    rw [loopW_eq]
    clear ih hx q2 hmd
    generalize loopW (bd E1 (ev E1) loopW 0 [3, 4, 5, 6, 9, 10, 11, 12, 17, 18, 19, 32] L4b0) = K at hih ⊢
    generalize ds (mk_ ts i) k = d at *
    generalize mk_ ts i = m at *
    generalize ns N = nn at *
    simpa -implicitDefEqProofs [bd, L4b0, hi, hii, g1, g1', hd, hh, hw, q1'] using hih
theorem evn_get {us : List ByteArray} {i : Nat} (h : i < us.length) : mk_ (evn us) i = evM (mk_ us i) := by
  have hl : (evn us).length = us.length := by unfold evn; rw [List.length_map]
  rw [← mk_at (show i < (evn us).length by omega), ← mk_at h]
  unfold evn
  rw [List.getElem_map]
theorem even_apart {us : List ByteArray} (ho : okTable us = true) {i k : Nat} (hi : i < us.length) (hk : k < us.length) (h1 : ds (mk_ us i) (mk_ us k) = 1) (hl : (mk_ us i).size = (mk_ us k).size) : 2 ≤ ds (mk_ (evn us) i) (mk_ (evn us) k) := by
  rw [evn_get hi, evn_get hk]
  have hc : ∀ j, j < us.length → ∀ c ∈ B (mk_ us j), c = 46 ∨ c = 45 := by
    intro j hj c hc
    have h := marks_in ho hj
    unfold okMarks at h
    rw [Bool.and_eq_true] at h
    have := List.all_eq_true.1 h.1 c hc
    unfold okM at this
    simpa using this
  have hb : ∀ m : ByteArray, B (evM m) = B m ++ [Ds.par (B m)] := fun m => by unfold evM; rw [B_append]; rfl
  unfold ds at h1 ⊢
  rw [hb, hb]
  exact Ds.par_apart (by rw [B_len, B_len]; exact hl) (hc i hi) (hc k hk) h1
theorem mE0 (us : List ByteArray) (a b k : ByteArray) (far : Int) (ok : Bool) (hus : smallT us) (ho : okTable us = true) (he : okTable (evn us) = true) (i : Nat) (hi : i < us.length) : ∀ (r j : Nat), j + r = i →
    packX 0 [2, 3, 4, 5, 6, 10, 17, 18, 35] (loopW (bd E1 (ev E1) loopW 0 [3, 4, 5, 6, 10, 17, 18, 35, 36] L4b1) ⟨[(3, st a), (4, st b), (5, i64 far), (6, bl ok), (10, st k), (17, .ptr 0 0 0), (18, .ptr 1 0 0), (35, i64 i), (36, i64 j)], [some (tb us), some (tb (evn us))]⟩) =
      some (.ext 4, ⟨[(3, st a), (4, st b), (5, i64 far), (6, bl ok), (10, st k), (17, .ptr 0 0 0), (18, .ptr 1 0 0), (35, i64 i)], [some (tb us), some (tb (evn us))]⟩) := by
  have hl : (evn us).length = us.length := by unfold evn; rw [List.length_map]
  unfold tb
  intro r
  induction r with
  | zero =>
    intro j h
    obtain rfl : j = i := by omega
    rw [loopW_eq]
    generalize loopW (bd E1 (ev E1) loopW 0 [3, 4, 5, 6, 10, 17, 18, 35, 36] L4b1) = K
    simp -implicitDefEqProofs [bd, L4b1]
  | succ r ih =>
    intro j h
    have hih := ih (j + 1) (by omega)
    have hj : j < us.length := by omega
    have hji : (j : Int) < (i : Int) := by omega
    have hii : (i : Int) < (us.length : Int) := by omega
    have hjj : (j : Int) < (us.length : Int) := by omega
    have z1 := mk_sz hus.2 i
    have z2 := mk_sz hus.2 j
    have ez := evn_sz hus.2
    have z3 := mk_sz ez i
    have z4 := mk_sz ez j
    have d1 := two_mdI (mk_ us i) (mk_ us j) (by omega) (by omega)
    have d2 := two_mdI (mk_ (evn us) i) (mk_ (evn us) j) (by omega) (by omega)
    have k1 : okMD (mk_ us i) (mk_ us j) = true := by unfold okMD; rw [marks_in ho hi, marks_in ho hj]; rfl
    have k2 : okMD (mk_ (evn us) i) (mk_ (evn us) j) = true := by unfold okMD; rw [marks_in he (by omega), marks_in he (by omega)]; rfl
    rw [k1, if_pos rfl] at d1
    rw [k2, if_pos rfl] at d2
    have g1 := get_mk hi
    have g1' := mk_at hi
    have g2 := get_mk hj
    have g2' := mk_at hj
    have e1 : i < (evn us).length := by omega
    have e2 : j < (evn us).length := by omega
    have g3 := get_mk e1
    have g3' := mk_at e1
    have g4 := get_mk e2
    have g4' := mk_at e2
    have hap : ds (mk_ us i) (mk_ us j) = 1 → (mk_ us i).size = (mk_ us j).size → 2 ≤ ds (mk_ (evn us) i) (mk_ (evn us) j) := even_apart ho hi hj
    have hus1 := hus.1
    have hw : IntKind.i64.wrap ((j : Int) + 1) = (j : Int) + 1 := wr64 (by omega) (by omega)
    rw [cs1] at hih
    rw [loopW_eq]
    clear ih k1 k2 ez z1 z2 z3 z4
    generalize loopW (bd E1 (ev E1) loopW 0 [3, 4, 5, 6, 10, 17, 18, 35, 36] L4b1) = K at hih ⊢
    generalize ds (mk_ us i) (mk_ us j) = q1 at *
    generalize ds (mk_ (evn us) i) (mk_ (evn us) j) = q2 at *
    generalize mk_ us i = m1 at *
    generalize mk_ us j = m2 at *
    generalize mk_ (evn us) i = m3 at *
    generalize mk_ (evn us) j = m4 at *
    generalize evn us = es at *
    by_cases c1 : q1 = 1
    · have c1' : (q1 : Int) = 1 := by omega
      by_cases c2 : m1.size = m2.size
      · have c2' : (m1.size : Int) = (m2.size : Int) := by omega
        have c3 := hap c1 c2
        have c3' : ¬ (q2 : Int) < 2 := by omega
        have c3'' : ¬ q2 < 2 := by omega
        simpa -implicitDefEqProofs [bd, L4b1, hi, hii, hj, hjj, hji, hl, e1, e2, g1, g1', g2, g2', g3, g3', g4, g4', d1, d2, hw, c1, c1', c2, c2', c3', c3''] using hih
      · have c2' : ¬ (m1.size : Int) = (m2.size : Int) := by omega
        simpa -implicitDefEqProofs [bd, L4b1, hi, hii, hj, hjj, hji, hl, e1, e2, g1, g1', g2, g2', g3, g3', g4, g4', d1, d2, hw, c1, c1', c2, c2'] using hih
    · have c1' : ¬ (q1 : Int) = 1 := by omega
      simpa -implicitDefEqProofs [bd, L4b1, hi, hii, hj, hjj, hji, hl, e1, e2, g1, g1', g2, g2', g3, g3', g4, g4', d1, d2, hw, c1, c1'] using hih
theorem mE1 (us : List ByteArray) (a b k : ByteArray) (far : Int) (ok : Bool) (hus : smallT us) (ho : okTable us = true) (he : okTable (evn us) = true) : ∀ (r i : Nat), i + r = us.length →
    packX 0 [2, 3, 4, 5, 6, 10] (loopW (bd E1 (ev E1) loopW 0 [3, 4, 5, 6, 10, 17, 18, 35] L4b2) ⟨[(3, st a), (4, st b), (5, i64 far), (6, bl ok), (10, st k), (17, .ptr 0 0 0), (18, .ptr 1 0 0), (35, i64 i)], [some (tb us), some (tb (evn us))]⟩) =
      some (.ext 2, ⟨[(3, st a), (4, st b), (5, i64 far), (6, bl ok), (10, st k)], []⟩) := by
  intro r
  induction r with
  | zero =>
    intro i h
    obtain rfl : i = us.length := by omega
    unfold tb
    rw [loopW_eq]
    generalize loopW (bd E1 (ev E1) loopW 0 [3, 4, 5, 6, 10, 17, 18, 35] L4b2) = K
    unfold bd
    simp -implicitDefEqProofs [L4b2]
  | succ r ih =>
    intro i h
    have hih := ih (i + 1) (by omega)
    have hi : i < us.length := by omega
    have hii : (i : Int) < (us.length : Int) := by omega
    have hin := mE0 us a b k far ok hus ho he i hi i 0 (by omega)
    have hus1 := hus.1
    have hw : IntKind.i64.wrap ((i : Int) + 1) = (i : Int) + 1 := wr64 (by omega) (by omega)
    rw [cs1] at hih
    rw [c0] at hin
    unfold tb at hin hih ⊢
    rw [loopW_eq]
    clear ih
    generalize loopW (bd E1 (ev E1) loopW 0 [3, 4, 5, 6, 10, 17, 18, 35] L4b2) = K at hih ⊢
    unfold bd
    simpa -implicitDefEqProofs [L4b2, hi, hii, hin, hw] using hih
end Go.Proofs.YtodcochnciadjaaDoor.Ev
