/- Records, checksums and numerals: the reference's functions and the program's, in the evaluator's words. -/
import Derived.Test.YtbbnecjaojobfaaDoorEvLogP
set_option linter.unusedVariables false
set_option linter.unusedSimpArgs false
namespace Go.Proofs.YtbbnecjaojobfaaDoor.Ev.Lg
theorem okB_int (c : UInt8) : (decide ((32 : Int) ≤ (c.toNat : Int)) && decide ((c.toNat : Int) ≤ 126)) = okB c := by
  unfold okB
  rw [show decide ((32 : Int) ≤ (c.toNat : Int)) = decide (32 ≤ c.toNat) from decide_eq_decide.2 (by omega), show decide ((c.toNat : Int) ≤ 126) = decide (c.toNat ≤ 126) from decide_eq_decide.2 (by omega)]
theorem bytes_loop (s : ByteArray) (hs : s.size ≤ 1073741824) (m : Int) : ∀ (t : List UInt8) (i : Nat), (B s).drop i = t →
    (packX 0 [0, 1, 4] (loopW (bd E0 (ev E0) loopW 0 [0, 1, 5] L73b0) ⟨[(0, st s), (1, i64 m), (5, i64 i)], []⟩) = some (.ret, ⟨[(0, st s), (1, i64 m), (4, bl false)], []⟩) ∧ t.all okC = false) ∨
    (packX 0 [0, 1, 4] (loopW (bd E0 (ev E0) loopW 0 [0, 1, 5] L73b0) ⟨[(0, st s), (1, i64 m), (5, i64 i)], []⟩) = some (.ext 0, ⟨[(0, st s), (1, i64 m)], []⟩) ∧ t.all okC = true) := by
  intro t
  induction t with
  | nil =>
    intro i h
    have hi := byte_end h
    rw [loopW_eq]
    generalize loopW (bd E0 (ev E0) loopW 0 [0, 1, 5] L73b0) = K
    simp -implicitDefEqProofs [bd, L73b0, hi]
  | cons c t ih =>
    intro i h
    obtain ⟨hi, hx, hd⟩ := byte_at h
    have hih := ih (i + 1) hd
    rw [cs1] at hih
    have hw : IntKind.i64.wrap ((i : Int) + 1) = (i : Int) + 1 := wr64 (by omega) (by omega)
    have hc256 := UInt8.toNat_lt c
    have hwc : IntKind.i64.wrap (c.toNat : Int) = (c.toNat : Int) := wr64 (by omega) (by omega)
    have hin := in_s (c.toNat : Int) 32 126
    rw [okB_int] at hin
    rw [loopW_eq]
    generalize loopW (bd E0 (ev E0) loopW 0 [0, 1, 5] L73b0) = K at hih ⊢
    cases hb : okB c with
    | false =>
      have hk : okC c = false := by simp [okC, hb]
      rw [hb] at hin
      simp -implicitDefEqProofs [bd, L73b0, hi, -List.getD_eq_getElem?_getD, hx, hwc, hin, hk]
    | true =>
      rw [hb] at hin
      by_cases h35 : c.toNat = 35
      · have h35' : (c.toNat : Int) = 35 := by omega
        have hk : okC c = false := by
          have : c = 35 := UInt8.toNat_inj.1 (by rw [show (35 : UInt8).toNat = 35 from rfl]; omega)
          simp [okC, this]
        have hdec : decide ((c.toNat : Int) = 35) = true := decide_eq_true h35'
        simp -implicitDefEqProofs [bd, L73b0, hi, -List.getD_eq_getElem?_getD, hx, hwc, hin, hk, hdec]
      · have h35' : ¬ (c.toNat : Int) = 35 := by omega
        have hk : okC c = true := by
          have : ¬ c = 35 := fun e => h35 (by rw [e]; rfl)
          simp [okC, hb, this]
        simpa -implicitDefEqProofs [bd, L73b0, hi, -List.getD_eq_getElem?_getD, hx, hwc, hin, hk, h35, h35', hw] using hih
theorem bytes_s (s : ByteArray) (hs : s.size ≤ 1073741824) (m : Int) : ev E0 73 [st s, i64 m] [] = some (bl ((B s).all okC && decide ((s.size : Int) ≤ m)), []) := by
  rw [e73]
  unfold runF
  have hl := bytes_loop s hs m (B s) 0 rfl
  rw [c0] at hl
  rcases hl with ⟨e, h⟩ | ⟨e, h⟩
  · rw [h]
    simp -implicitDefEqProofs [L73, e]
  · rw [h]
    simp -implicitDefEqProofs [L73, e]
theorem stands_loop (s : ByteArray) (hs : s.size ≤ 1073741824) (b : UInt8) : ∀ (t : List UInt8) (i : Nat), (B s).drop i = t →
    (packX 0 [4] (loopW (bd E0 (ev E0) loopW 0 [0, 1, 5] L69b0) ⟨[(0, st s), (1, .v (.int .u8 (b.toNat : Int))), (5, i64 i)], []⟩) = some (.ret, ⟨[(4, bl true)], []⟩) ∧ t.contains b = true) ∨
    (packX 0 [4] (loopW (bd E0 (ev E0) loopW 0 [0, 1, 5] L69b0) ⟨[(0, st s), (1, .v (.int .u8 (b.toNat : Int))), (5, i64 i)], []⟩) = some (.ext 0, ⟨[], []⟩) ∧ t.contains b = false) := by
  intro t
  induction t with
  | nil =>
    intro i h
    have hi := byte_end h
    rw [loopW_eq]
    generalize loopW (bd E0 (ev E0) loopW 0 [0, 1, 5] L69b0) = K
    simp -implicitDefEqProofs [bd, L69b0, hi]
  | cons c t ih =>
    intro i h
    obtain ⟨hi, hx, hd⟩ := byte_at h
    have hih := ih (i + 1) hd
    rw [cs1] at hih
    have hw : IntKind.i64.wrap ((i : Int) + 1) = (i : Int) + 1 := wr64 (by omega) (by omega)
    rw [loopW_eq]
    generalize loopW (bd E0 (ev E0) loopW 0 [0, 1, 5] L69b0) = K at hih ⊢
    by_cases h2 : c = b
    · subst h2
      left
      refine ⟨?_, by simp⟩
      simp -implicitDefEqProofs [bd, L69b0, hi, -List.getD_eq_getElem?_getD, hx]
    · have h3 : ¬ (c.toNat : Int) = (b.toNat : Int) := fun e => h2 (UInt8.toNat_inj.1 (by omega))
      have h4 : ¬ c.toNat = b.toNat := by omega
      have hk : (c :: t).contains b = t.contains b := by
        have : (b == c) = false := by simpa using fun e : b = c => h2 e.symm
        rw [List.contains_cons, this, Bool.false_or]
      rw [hk]
      simpa -implicitDefEqProofs [bd, L69b0, hi, -List.getD_eq_getElem?_getD, -List.contains_eq_mem, hx, h3, h4, h2, hw] using hih
theorem stands_s (s : ByteArray) (hs : s.size ≤ 1073741824) (b : UInt8) : ev E0 69 [st s, .v (.int .u8 (b.toNat : Int))] [] = some (bl ((B s).contains b), []) := by
  rw [e69]
  unfold runF
  have hl := stands_loop s hs b (B s) 0 rfl
  rw [c0] at hl
  rcases hl with ⟨e, h⟩ | ⟨e, h⟩
  · rw [h]
    simp -implicitDefEqProofs [L69, e]
  · rw [h]
    simp -implicitDefEqProofs [L69, e]
theorem nil_iff (c : ByteArray) : c = ⟨#[]⟩ ↔ B c = [] := ⟨fun h => by rw [h]; rfl, fun h => B_inj h⟩
theorem record_s (c r : ByteArray) (hc : c.size ≤ 1073741824) (hr : r.size ≤ 1073741824) : ev E0 51 [.agg [st c, st r]] [] = some (bl (okRec c r), []) := by
  rw [e51]
  unfold runF
  have b1 := bytes_s c hc 160
  have b2 := bytes_s r hr 250
  have b3 := stands_s c hc 64
  rw [show ((64 : UInt8).toNat : Int) = 64 from rfl] at b3
  unfold okRec
  generalize ((B c).all okC && decide ((c.size : Int) ≤ 160)) = x1 at *
  generalize ((B r).all okC && decide ((r.size : Int) ≤ 250)) = x2 at *
  generalize (B c).contains 64 = x3 at *
  by_cases h : c = ⟨#[]⟩
  · have h1 : (!(B c == [])) = false := by rw [(nil_iff c).1 h]; rfl
    rw [h1]
    simp -implicitDefEqProofs [L51, h]
  · have h1 : (!(B c == [])) = true := by
      have : ¬ B c = [] := fun e => h ((nil_iff c).2 e)
      simpa using this
    rw [h1]
    cases x1 <;> cases x3 <;> simp -implicitDefEqProofs [L51, h, b1, b2, b3]
theorem index_i (s : ByteArray) (c : UInt8) : ev E0 75 [st s, .v (.int .u8 (c.toNat : Int))] [] = some (i64 (Lib.indexByte (B s) c), []) := by
  rw [e75]
  show some (i64 (Lib.indexByte s.data.toList ((c.toNat : Int)).toNat.toUInt8), []) = _
  have : ((c.toNat : Int)).toNat.toUInt8 = c := by simp
  rw [this]
  rfl
theorem isText_loop (s but : ByteArray) (hs : s.size ≤ 1073741824) (lo up : Int) : ∀ (t : List UInt8) (i : Nat), (B s).drop i = t →
    (packX 0 [0, 1, 2, 8] (loopW (bd E0 (ev E0) loopW 0 [0, 1, 2, 3, 11, 12] L56b0) ⟨[(0, st s), (1, i64 lo), (2, i64 up), (3, st but), (11, i64 s.size), (12, i64 i)], []⟩) = some (.ret, ⟨[(0, st s), (1, i64 lo), (2, i64 up), (8, bl false)], []⟩) ∧ t.all (fun c => okB c && !(B but).contains c) = false) ∨
    (packX 0 [0, 1, 2, 8] (loopW (bd E0 (ev E0) loopW 0 [0, 1, 2, 3, 11, 12] L56b0) ⟨[(0, st s), (1, i64 lo), (2, i64 up), (3, st but), (11, i64 s.size), (12, i64 i)], []⟩) = some (.ext 0, ⟨[(0, st s), (1, i64 lo), (2, i64 up)], []⟩) ∧ t.all (fun c => okB c && !(B but).contains c) = true) := by
  intro t
  induction t with
  | nil =>
    intro i h
    have hi := byte_end h
    rw [loopW_eq]
    generalize loopW (bd E0 (ev E0) loopW 0 [0, 1, 2, 3, 11, 12] L56b0) = K
    simp -implicitDefEqProofs [bd, L56b0, hi]
  | cons c t ih =>
    intro i h
    obtain ⟨hi, hx, hd⟩ := byte_at h
    have hih := ih (i + 1) hd
    rw [cs1] at hih
    have hw : IntKind.i64.wrap ((i : Int) + 1) = (i : Int) + 1 := wr64 (by omega) (by omega)
    have hib := index_i but c
    have hidx := idx_neg (B but) c
    rw [List.all_cons]
    rw [loopW_eq]
    generalize loopW (bd E0 (ev E0) loopW 0 [0, 1, 2, 3, 11, 12] L56b0) = K at hih ⊢
    by_cases h1 : c.toNat < 32
    · have h1' : (c.toNat : Int) < 32 := by omega
      have hk : okB c = false := by simp only [okB, Bool.and_eq_false_iff, decide_eq_false_iff_not]; omega
      simp -implicitDefEqProofs [bd, L56b0, hi, -List.getD_eq_getElem?_getD, hx, h1, h1', hk]
    · have h1' : ¬ (c.toNat : Int) < 32 := by omega
      by_cases h2 : 126 < c.toNat
      · have h2' : (126 : Int) < (c.toNat : Int) := by omega
        have hk : okB c = false := by simp only [okB, Bool.and_eq_false_iff, decide_eq_false_iff_not]; omega
        simp -implicitDefEqProofs [bd, L56b0, hi, -List.getD_eq_getElem?_getD, hx, h1, h1', h2, h2', hk]
      · have h2' : ¬ (126 : Int) < (c.toNat : Int) := by omega
        have hk : okB c = true := by simp only [okB, Bool.and_eq_true, decide_eq_true_eq]; omega
        by_cases h3 : c ∈ B but
        · have h4 : 0 ≤ Lib.indexByte (B but) c := hidx.2 h3
          simp -implicitDefEqProofs [bd, L56b0, hi, -List.getD_eq_getElem?_getD, hx, h1, h1', h2, h2', hk, hib, h3, h4]
        · have h4 : ¬ 0 ≤ Lib.indexByte (B but) c := fun h => h3 (hidx.1 h)
          simpa -implicitDefEqProofs [bd, L56b0, hi, -List.getD_eq_getElem?_getD, hx, h1, h1', h2, h2', hk, hib, h3, h4, hw] using hih
theorem isText_i (s but : ByteArray) (hs : s.size ≤ 1073741824) (lo up : Int) : ev E0 56 [st s, i64 lo, i64 up, st but] [] = some (bl ((B s).all (fun c => okB c && !(B but).contains c) && (decide (lo ≤ (s.size : Int)) && decide ((s.size : Int) ≤ up))), []) := by
  rw [e56]
  unfold runF
  have hl := isText_loop s but hs lo up (B s) 0 rfl
  rw [c0] at hl
  have hin := in_i (s.size : Int) lo up
  rcases hl with ⟨e, h⟩ | ⟨e, h⟩
  · rw [h]
    simp -implicitDefEqProofs [L56, e]
  · rw [h]
    simp -implicitDefEqProofs [L56, e, hin]
theorem record_i (c r : ByteArray) (hc : c.size ≤ 1073741824) (hr : r.size ≤ 1073741824) : ev E0 21 [.agg [st c, st r]] [] = some (bl (okRec c r), []) := by
  rw [e21]
  unfold runF
  have t1 := isText_i c ⟨#[35, 64]⟩ hc 1 160
  have t2 := isText_i r ⟨#[35]⟩ hr 0 250
  have e1 : (B c).all (fun x => okB x && !(B ⟨#[35, 64]⟩).contains x) = ((B c).all okC && !(B c).contains 64) := by
    rw [← all_not, all_and]
    congr 1
    funext x
    have hl : B (⟨#[35, 64]⟩ : ByteArray) = [35, 64] := rfl
    simp only [hl, okC, List.contains_cons, List.contains_nil, Bool.or_false, Bool.not_or]
    rw [Bool.and_assoc]
  have e2 : (B r).all (fun x => okB x && !(B ⟨#[35]⟩).contains x) = (B r).all okC := by
    congr 1
    funext x
    have hl : B (⟨#[35]⟩ : ByteArray) = [35] := rfl
    simp only [hl, okC, List.contains_cons, List.contains_nil, Bool.or_false]
  have e3 : decide ((1 : Int) ≤ (c.size : Int)) = !(B c == []) := by
    have := B_len c
    cases hB : B c with
    | nil => rw [hB] at this; simp at this; simp [← this]
    | cons x l => rw [hB] at this; simp at this; simp; omega
  have h0 : decide ((0 : Int) ≤ (r.size : Int)) = true := decide_eq_true (by omega)
  rw [e1, e3] at t1
  rw [e2, h0, Bool.true_and] at t2
  have hk : okRec c r = ((((B c).all okC && !(B c).contains 64) && (!(B c == []) && decide ((c.size : Int) ≤ 160))) && ((B r).all okC && decide ((r.size : Int) ≤ 250))) := by
    unfold okRec
    cases (B c).all okC <;> cases (B c).contains 64 <;> cases (B c == []) <;> cases decide ((c.size : Int) ≤ 160) <;> cases (B r).all okC <;> cases decide ((r.size : Int) ≤ 250) <;> rfl
  rw [hk]
  generalize (((B c).all okC && !(B c).contains 64) && (!(B c == []) && decide ((c.size : Int) ≤ 160))) = x1 at *
  generalize ((B r).all okC && decide ((r.size : Int) ≤ 250)) = x2 at *
  cases x1 <;> simp -implicitDefEqProofs [L21, t1, t2]
-- ---------------------------------------------------------------- checksums, numerals
theorem sum_rem (h : Nat) (c : UInt8) : Int.tmod (41 * (h : Int) + (c.toNat : Int) + 1) 999979 = (((41 * h + c.toNat + 1) % 999979 : Nat) : Int) := by
  have : (41 * (h : Int) + (c.toNat : Int) + 1) = ((41 * h + c.toNat + 1 : Nat) : Int) := by omega
  rw [this]
  rfl
theorem sumS_loop (s : ByteArray) (hs : s.size ≤ 1073741824) : ∀ (t : List UInt8) (i h : Nat), (B s).drop i = t → h < 999979 →
    packX 0 [3] (loopW (bd E0 (ev E0) loopW 0 [0, 3, 4] L81b0) ⟨[(0, st s), (3, i64 h), (4, i64 i)], []⟩) = some (.ext 0, ⟨[(3, i64 ((sum t h : Nat) : Int))], []⟩) := by
  intro t
  induction t with
  | nil =>
    intro i h hd _
    have hi := byte_end hd
    rw [loopW_eq]
    generalize loopW (bd E0 (ev E0) loopW 0 [0, 3, 4] L81b0) = K
    simp -implicitDefEqProofs [bd, L81b0, hi, sum]
  | cons c t ih =>
    intro i h hd0 hh
    obtain ⟨hi, hx, hd⟩ := byte_at hd0
    have hih := ih (i + 1) ((41 * h + c.toNat + 1) % 999979) hd (Nat.mod_lt _ (by decide))
    rw [cs1] at hih
    have hw : IntKind.i64.wrap ((i : Int) + 1) = (i : Int) + 1 := wr64 (by omega) (by omega)
    have hc256 := UInt8.toNat_lt c
    have w1 : IntKind.i64.wrap (c.toNat : Int) = (c.toNat : Int) := wr64 (by omega) (by omega)
    have w2 : IntKind.i64.wrap (41 * (h : Int)) = 41 * (h : Int) := wr64 (by omega) (by omega)
    have w3 : IntKind.i64.wrap (41 * (h : Int) + (c.toNat : Int)) = 41 * (h : Int) + (c.toNat : Int) := wr64 (by omega) (by omega)
    have w4 : IntKind.i64.wrap (41 * (h : Int) + (c.toNat : Int) + 1) = 41 * (h : Int) + (c.toNat : Int) + 1 := wr64 (by omega) (by omega)
    have hr := sum_rem h c
    have hs1 : sum (c :: t) h = sum t ((41 * h + c.toNat + 1) % 999979) := rfl
    rw [hs1, loopW_eq]
    generalize (41 * h + c.toNat + 1) % 999979 = v at *
    generalize loopW (bd E0 (ev E0) loopW 0 [0, 3, 4] L81b0) = K at hih ⊢
    simpa -implicitDefEqProofs [bd, L81b0, hi, -List.getD_eq_getElem?_getD, hx, hw, w1, w2, w3, w4, hr] using hih
theorem sum_s (s : ByteArray) (hs : s.size ≤ 1073741824) : ev E0 81 [st s] [] = some (i64 ((sum (B s) 7 : Nat) : Int), []) := by
  rw [e81]
  unfold runF
  have hl := sumS_loop s hs (B s) 0 7 rfl (by decide)
  rw [c0, show ((7 : Nat) : Int) = 7 from rfl] at hl
  simp -implicitDefEqProofs [L81, hl]
theorem sumI_loop (s : ByteArray) (hs : s.size ≤ 1073741824) : ∀ (t : List UInt8) (i h : Nat), (B s).drop i = t → h < 999979 →
    packX 0 [3] (loopW (bd E0 (ev E0) loopW 0 [0, 3, 6, 7] L67b0) ⟨[(0, st s), (3, i64 h), (6, i64 s.size), (7, i64 i)], []⟩) = some (.ext 0, ⟨[(3, i64 ((sum t h : Nat) : Int))], []⟩) := by
  intro t
  induction t with
  | nil =>
    intro i h hd _
    have hi := byte_end hd
    rw [loopW_eq]
    generalize loopW (bd E0 (ev E0) loopW 0 [0, 3, 6, 7] L67b0) = K
    simp -implicitDefEqProofs [bd, L67b0, hi, sum]
  | cons c t ih =>
    intro i h hd0 hh
    obtain ⟨hi, hx, hd⟩ := byte_at hd0
    have hih := ih (i + 1) ((41 * h + c.toNat + 1) % 999979) hd (Nat.mod_lt _ (by decide))
    rw [cs1] at hih
    have hw : IntKind.i64.wrap ((i : Int) + 1) = (i : Int) + 1 := wr64 (by omega) (by omega)
    have hc256 := UInt8.toNat_lt c
    have w1 : IntKind.i64.wrap (c.toNat : Int) = (c.toNat : Int) := wr64 (by omega) (by omega)
    have w2 : IntKind.i64.wrap (41 * (h : Int)) = 41 * (h : Int) := wr64 (by omega) (by omega)
    have w3 : IntKind.i64.wrap (41 * (h : Int) + (c.toNat : Int)) = 41 * (h : Int) + (c.toNat : Int) := wr64 (by omega) (by omega)
    have w4 : IntKind.i64.wrap (41 * (h : Int) + (c.toNat : Int) + 1) = 41 * (h : Int) + (c.toNat : Int) + 1 := wr64 (by omega) (by omega)
    have hr := sum_rem h c
    have hs1 : sum (c :: t) h = sum t ((41 * h + c.toNat + 1) % 999979) := rfl
    rw [hs1, loopW_eq]
    generalize (41 * h + c.toNat + 1) % 999979 = v at *
    generalize loopW (bd E0 (ev E0) loopW 0 [0, 3, 6, 7] L67b0) = K at hih ⊢
    simpa -implicitDefEqProofs [bd, L67b0, hi, -List.getD_eq_getElem?_getD, hx, hw, w1, w2, w3, w4, hr] using hih
theorem sum_i (s : ByteArray) (hs : s.size ≤ 1073741824) : ev E0 67 [st s] [] = some (i64 ((sum (B s) 7 : Nat) : Int), []) := by
  rw [e67]
  unfold runF
  have hl := sumI_loop s hs (B s) 0 7 rfl (by decide)
  rw [c0, show ((7 : Nat) : Int) = 7 from rfl] at hl
  simp -implicitDefEqProofs [L67, hl]
theorem itoa_nat (n : Nat) : Lib.itoa (n : Int) = Lib.decDigits n := by
  unfold Lib.itoa
  rw [if_neg (by omega), Int.toNat_natCast]
theorem itoa_i (n : Nat) (hn : n ≤ 9223372036854775807) : ev E0 50 [i64 n] [] = some (st (mk (Lib.itoa n)), []) := by
  rw [e50]
  show (if _ then _ else _) = _
  rw [if_pos (by omega)]
  rfl
theorem num_s : ∀ (m n : Nat), n ≤ m → n ≤ 1073741824 → ev E0 62 [i64 n] [] = some (st (mk (Lib.decDigits n)), []) := by
  have hz : (⟨#[48, 49, 50, 51, 52, 53, 54, 55, 56, 57]⟩ : ByteArray).size = 10 := rfl
  intro m
  induction m with
  | zero =>
    intro n hn _
    obtain rfl : n = 0 := by omega
    rw [e62]
    unfold runF
    have hw : IntKind.i64.wrap 1 = 1 := by decide
    have hd : Lib.decDigits 0 = [48] := by rw [Lib.decDigits, dif_pos (by decide)]; rfl
    have hp := digit_piece (i := 0) (by decide)
    rw [hd]
    simp -implicitDefEqProofs [L62, hw, hz]
    exact hp
  | succ m ih =>
    intro n hn hb
    rw [e62]
    unfold runF
    have h0 : ¬ (n : Int) < 0 := by omega
    by_cases h : n < 10
    · have h1 : (n : Int) < 10 := by omega
      have hw : IntKind.i64.wrap ((n : Int) + 1) = (n : Int) + 1 := wr64 (by omega) (by omega)
      have hd : Lib.decDigits n = [UInt8.ofNat (48 + n)] := by rw [Lib.decDigits, dif_pos h]
      have hp := digit_piece (i := n) h
      have h2 : (n : Int) ≤ (n : Int) + 1 := by omega
      have h3 : (n : Int) + 1 ≤ 10 := by omega
      have h4 : ((n : Int) + 1).toNat = n + 1 := by omega
      rw [hd]
      generalize UInt8.ofNat (48 + n) = x at hp ⊢
      simp -implicitDefEqProofs [L62, hw, hz, h0, h, h1, h2, h3, h4]
      exact hp
    · have h1 : ¬ (n : Int) < 10 := by omega
      have t1 : Int.tdiv (n : Int) 10 = ((n / 10 : Nat) : Int) := rfl
      have t2 : Int.tmod (n : Int) 10 = ((n % 10 : Nat) : Int) := rfl
      have hih := ih (n / 10) (by omega) (by omega)
      have hd : Lib.decDigits n = Lib.decDigits (n / 10) ++ [UInt8.ofNat (48 + n % 10)] := by conv => lhs; rw [Lib.decDigits, dif_neg h]
      have hp := digit_piece (i := n % 10) (by omega)
      have hl := dec_len20 (u := n / 10) (by omega)
      generalize hq : n / 10 = q at *
      generalize hr : n % 10 = r at *
      have hr10 : r < 10 := by omega
      generalize UInt8.ofNat (48 + r) = x at *
      have w1 : IntKind.i64.wrap (q : Int) = (q : Int) := wr64 (by omega) (by omega)
      have w2 : IntKind.i64.wrap ((r : Int) + 1) = (r : Int) + 1 := wr64 (by omega) (by omega)
      have h2 : (r : Int) ≤ (r : Int) + 1 := by omega
      have h3 : (r : Int) + 1 ≤ 10 := by omega
      have h4 : ((r : Int) + 1).toNat = r + 1 := by omega
      have hsz : (mk (Lib.decDigits q)).size + (mk [x]).size ≤ 9223372036854775807 := by rw [mk_size, mk_size]; simp; omega
      have hp2 : (⟨#[48, 49, 50, 51, 52, 53, 54, 55, 56, 57]⟩ : ByteArray).extract r (r + 1) = mk [x] := hp
      have happ : mk (Lib.decDigits q) ++ mk [x] = mk (Lib.decDigits q ++ [x]) := app_mk _ _
      rw [hd]
      simp -implicitDefEqProofs [L62, hz, h0, h, h1, t1, t2, w1, w2, h2, h3, h4, hih, hp2, hsz, happ]
end Go.Proofs.YtbbnecjaojobfaaDoor.Ev.Lg
