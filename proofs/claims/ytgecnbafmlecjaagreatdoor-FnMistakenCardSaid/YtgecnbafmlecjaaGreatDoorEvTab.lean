/- Tables of texts in the evaluator's words: their size, whether they are valid; the reference's functions and the program's. -/
import Derived.Test.YtgecnbafmlecjaaGreatDoorEvE
import Derived.Test.YtgecnbafmlecjaaGreatDoorEvBC
set_option linter.unusedVariables false
set_option linter.unusedSimpArgs false
namespace Go.Proofs.YtgecnbafmlecjaaGreatDoor.Ev
def B (s : ByteArray) : List UInt8 := s.data.toList
theorem B_len (s : ByteArray) : (B s).length = s.size := by unfold B; simp
theorem at_drop {α : Type} {l t : List α} {x : α} {i : Nat} (h : l.drop i = x :: t) : ∃ hi : i < l.length, l[i] = x ∧ l.drop (i + 1) = t ∧ x ∈ l := by
  have h1 : l[i]? = some x := by
    have := congrArg (fun l => l[0]?) h
    simpa using this
  obtain ⟨hi, hx⟩ := List.getElem?_eq_some_iff.1 h1
  refine ⟨hi, hx, ?_, List.mem_of_getElem? h1⟩
  have := congrArg List.tail h
  simpa using this
theorem not_drop {α : Type} {l : List α} {i : Nat} (h : l.drop i = []) : ¬ i < l.length := by
  have := List.drop_eq_nil_iff.1 h
  omega
theorem byte_at {s : ByteArray} {i : Nat} {x : UInt8} {t : List UInt8} (h : (B s).drop i = x :: t) : i < s.size ∧ s.data.toList.getD i 0 = x ∧ (B s).drop (i + 1) = t := by
  obtain ⟨hi, hx, hd, _⟩ := at_drop h
  rw [B_len] at hi
  refine ⟨hi, ?_, hd⟩
  unfold B at hx
  have h1 : s.data.toList[i]? = some x := by rw [← hx]; exact List.getElem?_eq_getElem _
  rw [List.getD_eq_getElem?_getD, h1]
  rfl
theorem byte_end {s : ByteArray} {i : Nat} (h : (B s).drop i = []) : ¬ i < s.size := by
  have := not_drop h
  rwa [B_len] at this
theorem cs1 (i : Nat) : ((i + 1 : Nat) : Int) = (i : Int) + 1 := rfl
theorem c0 : ((0 : Nat) : Int) = 0 := rfl
@[simp] theorem take_map_all {α β : Type} (f : α → β) (l : List α) : List.take l.length (List.map f l) = List.map f l := List.take_of_length_le (by simp)
theorem in_s (a b c : Int) : ev E0 44 [i64 a, i64 b, i64 c] [] = some (bl (decide (b ≤ a) && decide (a ≤ c)), []) := by
  rw [e44]
  unfold runF
  by_cases h : b ≤ a <;> simp -implicitDefEqProofs [L44, h]
theorem in_i (a b c : Int) : ev E0 42 [i64 a, i64 b, i64 c] [] = some (bl (decide (b ≤ a) && decide (a ≤ c)), []) := by
  rw [e42]
  unfold runF
  by_cases h : b ≤ a <;> simp -implicitDefEqProofs [L42, h]
def okM (c : UInt8) : Bool := c == 46 || c == 45
/-- Marks, as many as told. -/
def okMarks (s : ByteArray) (lo up : Int) : Bool := (B s).all okM && (decide (lo ≤ (s.size : Int)) && decide ((s.size : Int) ≤ up))
theorem marks_loop (s : ByteArray) (hs : s.size ≤ 140737488355328) (lo up : Int) : ∀ (t : List UInt8) (i : Nat), (B s).drop i = t →
    (packX 0 [0, 1, 2, 6] (loopW (bd E0 (ev E0) loopW 0 [0, 1, 2, 7] L57b0) ⟨[(0, st s), (1, i64 lo), (2, i64 up), (7, i64 i)], []⟩) = some (.ret, ⟨[(0, st s), (1, i64 lo), (2, i64 up), (6, bl false)], []⟩) ∧ t.all okM = false) ∨
    (packX 0 [0, 1, 2, 6] (loopW (bd E0 (ev E0) loopW 0 [0, 1, 2, 7] L57b0) ⟨[(0, st s), (1, i64 lo), (2, i64 up), (7, i64 i)], []⟩) = some (.ext 0, ⟨[(0, st s), (1, i64 lo), (2, i64 up)], []⟩) ∧ (t.all okM = true ∨ up < s.size)) := by
  intro t
  induction t with
  | nil =>
    intro i h
    have hi := not_drop h
    rw [B_len] at hi
    rw [loopW_eq]
    generalize loopW (bd E0 (ev E0) loopW 0 [0, 1, 2, 7] L57b0) = K
    simp -implicitDefEqProofs [bd, L57b0, hi]
  | cons x t ih =>
    intro i h
    obtain ⟨hi, hx, hd⟩ := byte_at h
    have hih := ih (i + 1) hd
    rw [cs1] at hih
    rw [loopW_eq]
    generalize loopW (bd E0 (ev E0) loopW 0 [0, 1, 2, 7] L57b0) = K at hih ⊢
    by_cases hup : (i : Int) ≤ up
    · by_cases h1 : (x.toNat : Int) = 46
      · have hok : okM x = true := by
          have : x = 46 := by apply UInt8.toNat_inj.1; rw [show (46 : UInt8).toNat = 46 from rfl]; omega
          subst this; rfl
        simpa -implicitDefEqProofs (disch := omega) [bd, L57b0, hi, wr64, hup, -List.getD_eq_getElem?_getD, hx, h1, hok] using hih
      · by_cases h2 : (x.toNat : Int) = 45
        · have hok : okM x = true := by
            have : x = 45 := by apply UInt8.toNat_inj.1; rw [show (45 : UInt8).toNat = 45 from rfl]; omega
            subst this; rfl
          simpa -implicitDefEqProofs (disch := omega) [bd, L57b0, hi, wr64, hup, -List.getD_eq_getElem?_getD, hx, h1, h2, hok] using hih
        · have hok : okM x = false := by
            have a1 : ¬ x = 46 := fun e => h1 (by rw [e]; rfl)
            have a2 : ¬ x = 45 := fun e => h2 (by rw [e]; rfl)
            simp [okM, a1, a2]
          simp -implicitDefEqProofs (disch := omega) [bd, L57b0, hi, wr64, hup, -List.getD_eq_getElem?_getD, hx, h1, h2, hok]
    · simp -implicitDefEqProofs (disch := omega) [bd, L57b0, hi, wr64, hup]
      right
      omega
theorem marks_s (s : ByteArray) (hs : s.size ≤ 140737488355328) (lo up : Int) : ev E0 57 [st s, i64 lo, i64 up] [] = some (bl (okMarks s lo up), []) := by
  rw [e57]
  unfold runF
  have hl := marks_loop s hs lo up (B s) 0 rfl
  rw [c0] at hl
  rcases hl with ⟨e, h⟩ | ⟨e, h⟩
  · simp -implicitDefEqProofs [L57, e, okMarks, h]
  · simp -implicitDefEqProofs [L57, e, in_s, okMarks]
    rcases h with h | h
    · have h' := h
      simp only [List.all_eq_true] at h'
      intro _ _
      exact h'
    · have : ¬ (s.size : Int) ≤ up := by omega
      simp [this]
theorem all_dropWhile (p : UInt8 → Bool) : ∀ l : List UInt8, (l.dropWhile p = []) ↔ l.all p = true := by
  intro l
  induction l with
  | nil => simp
  | cons c t ih =>
    rw [List.dropWhile_cons, List.all_cons]
    cases h : p c with
    | true => rw [if_pos rfl, ih]; simp
    | false => rw [if_neg (by simp)]; simp
theorem all_rev (p : UInt8 → Bool) (l : List UInt8) : l.reverse.all p = l.all p := by rw [List.all_reverse]
theorem trim_nil (l cs : List UInt8) : (Lib.trimS l cs = []) ↔ l.all (cs.contains ·) = true := by
  unfold Lib.trimS Lib.trimLeftS Lib.trimRightS
  rw [all_dropWhile, all_rev]
  constructor
  · intro h
    rw [← all_rev]
    have e := List.takeWhile_append_dropWhile (p := (cs.contains ·)) (l := l.reverse)
    rw [← e, List.all_append, h, Bool.and_true]
    exact List.all_takeWhile
  · intro h
    rw [← all_rev] at h
    rw [(all_dropWhile _ _).2 h]
    rfl
theorem marks_i (s : ByteArray) (hs : s.size ≤ 140737488355328) (lo up : Int) : ev E0 75 [st s, i64 lo, i64 up] [] = some (bl (okMarks s lo up), []) := by
  rw [e75]
  unfold runF
  have h2 := trim_nil s.data.toList [46, 45]
  have e2 : s.data.toList.all ([46, 45].contains ·) = (B s).all okM := by
    unfold B
    congr 1
    funext c
    simp only [okM, List.contains_cons, List.contains_nil, Bool.or_false]
  rw [e2] at h2
  have hsz : s.size ≤ 9223372036854775807 := by omega
  have hc : (⟨#[46, 45]⟩ : ByteArray).size < 4294967281 ∧ (⟨#[46, 45]⟩ : ByteArray).data.toList.all (fun b => decide (b.toNat < 128)) = true := by decide
  cases h : (decide (lo ≤ (s.size : Int)) && decide ((s.size : Int) ≤ up)) with
  | false => simp -implicitDefEqProofs [L75, in_i, h, okMarks]
  | true =>
    have ht : trimP [.v (.string s), .v (.string ⟨#[46, 45]⟩)] [] = some (st ⟨(Lib.trimS s.data.toList [46, 45]).toArray⟩, []) := by
      show (if _ then _ else _) = _
      rw [if_pos ⟨hsz, hc⟩]
    simp -implicitDefEqProofs [L75, in_i, h, okMarks, e83, ht]
    cases hh : (B s).all okM with
    | true => simpa using h2.2 hh
    | false => simpa using fun e => by rw [h2.1 e] at hh; cases hh
theorem letterMarks (s : ByteArray) (hs : s.size ≤ 140737488355328) : ev E0 65 [st s] [] = some (bl (okMarks s 1 5), []) := by
  rw [e65]
  unfold runF
  simp -implicitDefEqProofs [L65, marks_i s hs]
-- ---------------------------------------------------------------- places in lists of texts
def place (x : ByteArray) : List ByteArray → Nat → Int
  | [], _ => -1
  | y :: t, i => if y = x then (i : Int) else place x t (i + 1)
theorem place_loop (ms : List ByteArray) (hm : ms.length ≤ 140737488355328) (x : ByteArray) : ∀ (t : List ByteArray) (i : Nat), ms.drop i = t →
    (packX 0 [4] (loopW (bd E0 (ev E0) loopW 0 [0, 1, 5] L48b0) ⟨[(0, .lst 1 (ms.map st)), (1, st x), (5, i64 i)], []⟩) = some (.ret, ⟨[(4, i64 (place x t i))], []⟩)) ∨
    (packX 0 [4] (loopW (bd E0 (ev E0) loopW 0 [0, 1, 5] L48b0) ⟨[(0, .lst 1 (ms.map st)), (1, st x), (5, i64 i)], []⟩) = some (.ext 0, ⟨[], []⟩) ∧ place x t i = -1) := by
  intro t
  induction t with
  | nil =>
    intro i h
    have hi := not_drop h
    rw [loopW_eq]
    generalize loopW (bd E0 (ev E0) loopW 0 [0, 1, 5] L48b0) = K
    simp -implicitDefEqProofs [bd, L48b0, hi, place]
  | cons y t ih =>
    intro i h
    obtain ⟨hi, hx, hd, hmem⟩ := at_drop h
    have hih := ih (i + 1) hd
    rw [cs1] at hih
    rw [loopW_eq]
    generalize loopW (bd E0 (ev E0) loopW 0 [0, 1, 5] L48b0) = K at hih ⊢
    by_cases h1 : y = x
    · left
      simp -implicitDefEqProofs (disch := omega) [bd, L48b0, hi, hx, wr64, h1, place]
    · simpa -implicitDefEqProofs (disch := omega) [bd, L48b0, hi, hx, wr64, h1, place] using hih
theorem place_s (ms : List ByteArray) (hm : ms.length ≤ 140737488355328) (x : ByteArray) : ev E0 48 [.lst 1 (ms.map st), st x] [] = some (i64 (place x ms 0), []) := by
  rw [e48]
  unfold runF
  have hl := place_loop ms hm x ms 0 rfl
  rw [c0] at hl
  rcases hl with e | ⟨e, h⟩
  · simp -implicitDefEqProofs [L48, e]
  · simp -implicitDefEqProofs [L48, e, h]
theorem index_loop (ms : List ByteArray) (hm : ms.length ≤ 140737488355328) (x : ByteArray) : ∀ (t : List ByteArray) (i : Nat), ms.drop i = t →
    (packX 0 [4] (loopW (bd E0 (ev E0) loopW 0 [0, 1, 7, 8] L76b0) ⟨[(0, .lst 1 (ms.map st)), (1, st x), (7, i64 ms.length), (8, i64 i)], []⟩) = some (.ret, ⟨[(4, i64 (place x t i))], []⟩)) ∨
    (packX 0 [4] (loopW (bd E0 (ev E0) loopW 0 [0, 1, 7, 8] L76b0) ⟨[(0, .lst 1 (ms.map st)), (1, st x), (7, i64 ms.length), (8, i64 i)], []⟩) = some (.ext 0, ⟨[], []⟩) ∧ place x t i = -1) := by
  intro t
  induction t with
  | nil =>
    intro i h
    have hi := not_drop h
    rw [loopW_eq]
    generalize loopW (bd E0 (ev E0) loopW 0 [0, 1, 7, 8] L76b0) = K
    simp -implicitDefEqProofs [bd, L76b0, hi, place]
  | cons y t ih =>
    intro i h
    obtain ⟨hi, hx, hd, hmem⟩ := at_drop h
    have hih := ih (i + 1) hd
    rw [cs1] at hih
    rw [loopW_eq]
    generalize loopW (bd E0 (ev E0) loopW 0 [0, 1, 7, 8] L76b0) = K at hih ⊢
    by_cases h1 : x = y
    · left
      simp -implicitDefEqProofs (disch := omega) [bd, L76b0, hi, hx, wr64, h1, place]
    · simpa -implicitDefEqProofs (disch := omega) [bd, L76b0, hi, hx, wr64, h1, Ne.symm h1, place] using hih
theorem index_s (ms : List ByteArray) (hm : ms.length ≤ 140737488355328) (x : ByteArray) : ev E0 76 [.lst 1 (ms.map st), st x] [] = some (i64 (place x ms 0), []) := by
  rw [e76]
  unfold runF
  have hl := index_loop ms hm x ms 0 rfl
  rw [c0] at hl
  rcases hl with e | ⟨e, h⟩
  · simp -implicitDefEqProofs [L76, e]
  · simp -implicitDefEqProofs [L76, e, h]
theorem place_nat (x : ByteArray) : ∀ (t : List ByteArray) (i : Nat), (place x t i = -1 ∧ x ∉ t) ∨ ((i : Int) ≤ place x t i ∧ x ∈ t) := by
  intro t
  induction t with
  | nil => intro i; exact Or.inl ⟨rfl, by simp⟩
  | cons c t ih =>
    intro i
    unfold place
    by_cases h : c = x
    · rw [if_pos h]
      exact Or.inr ⟨Int.le_refl _, by simp [h]⟩
    · rw [if_neg h]
      rcases ih (i + 1) with ⟨h1, h2⟩ | ⟨h1, h2⟩
      · exact Or.inl ⟨h1, by simp [h2, Ne.symm h]⟩
      · exact Or.inr ⟨by omega, List.mem_cons_of_mem _ h2⟩
theorem contains_s (ms : List ByteArray) (hm : ms.length ≤ 140737488355328) (x : ByteArray) : ev E0 66 [.lst 1 (ms.map st), st x] [] = some (bl (decide (0 ≤ place x ms 0)), []) := by
  rw [e66]
  unfold runF
  simp -implicitDefEqProofs [L66, index_s ms hm]
/-- The first place of what stands at a place. -/
theorem place_at (x : ByteArray) : ∀ (pre t : List ByteArray) (o : Nat), (place x (pre ++ x :: t) o = ((o + pre.length : Nat) : Int)) ↔ x ∉ pre := by
  intro pre
  induction pre with
  | nil => intro t o; simp [place]
  | cons c p ih =>
    intro t o
    rw [List.cons_append]
    unfold place
    by_cases h : c = x
    · rw [if_pos h]
      constructor
      · intro e; simp only [List.length_cons] at e; omega
      · intro e; exact absurd (by simp [h]) e
    · rw [if_neg h]
      have := ih t (o + 1)
      have e : o + 1 + p.length = o + (c :: p).length := by simp only [List.length_cons]; omega
      rw [e] at this
      rw [this]
      simp [Ne.symm h]
def chk : List ByteArray → List ByteArray → Bool
  | _, [] => true
  | seen, m :: t => okMarks m 1 5 && (!decide (0 ≤ place m seen 0) && chk (seen ++ [m]) t)
/-- A valid table. -/
def okTable (ms : List ByteArray) : Bool := (decide (1 ≤ (ms.length : Int)) && decide ((ms.length : Int) ≤ 10)) && chk [] ms
theorem isTable_loop (ms : List ByteArray) (hm : ms.length ≤ 140737488355328) (hs : ∀ x ∈ ms, x.size ≤ 140737488355328) : ∀ (t : List ByteArray) (i : Nat), ms.drop i = t →
    (packX 0 [1, 2] (loopW (bd E0 (ev E0) loopW 0 [1, 6, 7, 8] L41b0) ⟨[(1, .ptr 0 0 0), (6, .lst 1 (ms.map st)), (7, i64 ms.length), (8, i64 i)], [some ⟨26, 1, 0, false, [.agg [.lst 1 (ms.map st)]]⟩]⟩) = some (.ret, ⟨[(1, .ptr 0 0 0), (2, bl false)], [some ⟨26, 1, 0, false, [.agg [.lst 1 (ms.map st)]]⟩]⟩) ∧ chk (ms.take i) t = false) ∨
    (packX 0 [1, 2] (loopW (bd E0 (ev E0) loopW 0 [1, 6, 7, 8] L41b0) ⟨[(1, .ptr 0 0 0), (6, .lst 1 (ms.map st)), (7, i64 ms.length), (8, i64 i)], [some ⟨26, 1, 0, false, [.agg [.lst 1 (ms.map st)]]⟩]⟩) = some (.ext 0, ⟨[(1, .ptr 0 0 0)], [some ⟨26, 1, 0, false, [.agg [.lst 1 (ms.map st)]]⟩]⟩) ∧ chk (ms.take i) t = true) := by
  intro t
  induction t with
  | nil =>
    intro i h
    have hi := not_drop h
    rw [loopW_eq]
    generalize loopW (bd E0 (ev E0) loopW 0 [1, 6, 7, 8] L41b0) = K
    simp -implicitDefEqProofs [bd, L41b0, hi, chk]
  | cons c t ih =>
    intro i h
    obtain ⟨hi, hx, hd, hmem⟩ := at_drop h
    have hih := ih (i + 1) hd
    rw [cs1] at hih
    have hc := hs c hmem
    have e1 : ms.take i ++ [c] = ms.take (i + 1) := by rw [List.take_succ_eq_append_getElem hi, hx]
    rw [← e1] at hih
    have hl : (ms.take i).length ≤ 140737488355328 := by rw [List.length_take]; omega
    have hct := contains_s (ms.take i) hl c
    rw [List.map_take] at hct
    rw [loopW_eq]
    generalize loopW (bd E0 (ev E0) loopW 0 [1, 6, 7, 8] L41b0) = K at hih ⊢
    have hw : IntKind.i64.wrap ((i : Int) + 1) = (i : Int) + 1 := wr64 (by omega) (by omega)
    cases h1 : okMarks c 1 5 with
    | false => simp -implicitDefEqProofs [bd, L41b0, hi, hx, letterMarks c hc, h1, chk]
    | true =>
      have hle : i ≤ ms.length := by omega
      by_cases hp : 0 ≤ place c (ms.take i) 0
      · simp -implicitDefEqProofs [bd, L41b0, hi, hx, hw, letterMarks c hc, h1, chk, hle, hct, hp]
      · have hp2 : place c (ms.take i) 0 < 0 := by omega
        simpa -implicitDefEqProofs [bd, L41b0, hi, hx, hw, letterMarks c hc, h1, chk, hle, hct, hp, hp2] using hih
theorem table_i (ms : List ByteArray) (hm : ms.length ≤ 140737488355328) (hs : ∀ x ∈ ms, x.size ≤ 140737488355328) : ev E0 41 [.agg [.lst 1 (ms.map st)]] [] = some (bl (okTable ms), []) := by
  rw [e41]
  unfold runF
  have hl := isTable_loop ms hm hs ms 0 rfl
  rw [c0] at hl
  rcases hl with ⟨e, h⟩ | ⟨e, h⟩
  · rw [List.take_zero] at h
    simp -implicitDefEqProofs [L41, e, okTable, h]
  · rw [List.take_zero] at h
    simp -implicitDefEqProofs [L41, e, okTable, h, in_i]
theorem l2Table_loop (ms : List ByteArray) (hm : ms.length ≤ 140737488355328) (hs : ∀ x ∈ ms, x.size ≤ 140737488355328) : ∀ (t : List ByteArray) (i : Nat), ms.drop i = t →
    (packX 0 [2] (loopW (bd E0 (ev E0) loopW 0 [1, 3] L30b0) ⟨[(1, .ptr 0 0 0), (3, i64 i)], [some ⟨26, 1, 0, false, [.agg [.lst 1 (ms.map st)]]⟩]⟩) = some (.ret, ⟨[(2, bl false)], []⟩) ∧ chk (ms.take i) t = false) ∨
    (packX 0 [2] (loopW (bd E0 (ev E0) loopW 0 [1, 3] L30b0) ⟨[(1, .ptr 0 0 0), (3, i64 i)], [some ⟨26, 1, 0, false, [.agg [.lst 1 (ms.map st)]]⟩]⟩) = some (.ext 0, ⟨[], []⟩) ∧ chk (ms.take i) t = true) := by
  intro t
  induction t with
  | nil =>
    intro i h
    have hi := not_drop h
    rw [loopW_eq]
    generalize loopW (bd E0 (ev E0) loopW 0 [1, 3] L30b0) = K
    simp -implicitDefEqProofs [bd, L30b0, hi, chk]
  | cons c t ih =>
    intro i h
    obtain ⟨hi, hx, hd, hmem⟩ := at_drop h
    have hih := ih (i + 1) hd
    rw [cs1] at hih
    have hc := hs c hmem
    have e1 : ms.take i ++ [c] = ms.take (i + 1) := by rw [List.take_succ_eq_append_getElem hi, hx]
    rw [← e1] at hih
    have hw : IntKind.i64.wrap ((i : Int) + 1) = (i : Int) + 1 := wr64 (by omega) (by omega)
    have hp := place_at c (ms.take i) t 0
    have hn := place_nat c (ms.take i) 0
    have e2 : ms.take i ++ c :: t = ms := by rw [← h]; exact List.take_append_drop i ms
    have e3 : (ms.take i).length = i := by rw [List.length_take]; omega
    rw [e2, e3, Nat.zero_add] at hp
    rw [loopW_eq]
    generalize loopW (bd E0 (ev E0) loopW 0 [1, 3] L30b0) = K at hih ⊢
    cases h1 : okMarks c 1 5 with
    | false => simp -implicitDefEqProofs [bd, L30b0, hi, hx, marks_s c hc, h1, chk]
    | true =>
      by_cases h2 : c ∈ ms.take i
      · have h3 : ¬ place c ms 0 = (i : Int) := fun e => hp.1 e h2
        have h4 : 0 ≤ place c (ms.take i) 0 := by
          rcases hn with ⟨_, hn⟩ | ⟨hn, _⟩
          · exact absurd h2 hn
          · omega
        simp -implicitDefEqProofs [bd, L30b0, hi, hx, hw, marks_s c hc, h1, chk, place_s ms hm, h3, h4]
      · have h3 := hp.2 h2
        have h4 : ¬ 0 ≤ place c (ms.take i) 0 := by
          rcases hn with ⟨hn, _⟩ | ⟨_, hn⟩
          · omega
          · exact absurd hn h2
        have h5 : place c (ms.take i) 0 < 0 := by omega
        simpa -implicitDefEqProofs [bd, L30b0, hi, hx, hw, marks_s c hc, h1, chk, place_s ms hm, h3, h4, h5] using hih
theorem table_s (ms : List ByteArray) (hm : ms.length ≤ 140737488355328) (hs : ∀ x ∈ ms, x.size ≤ 140737488355328) : ev E0 30 [.agg [.lst 1 (ms.map st)]] [] = some (bl (okTable ms), []) := by
  rw [e30]
  unfold runF
  have hl := l2Table_loop ms hm hs ms 0 rfl
  rw [c0, List.take_zero] at hl
  cases h1 : (decide (1 ≤ (ms.length : Int)) && decide ((ms.length : Int) ≤ 10)) with
  | false => simp -implicitDefEqProofs [L30, okTable, in_s, h1]
  | true =>
    rcases hl with ⟨e, h⟩ | ⟨e, h⟩
    · simp -implicitDefEqProofs [L30, e, okTable, h, in_s, h1]
    · simp -implicitDefEqProofs [L30, e, okTable, h, in_s, h1]
/-- A letter of a table. -/
def okLetter (ms : List ByteArray) (k : Int) : Bool := decide (0 ≤ k) && decide (k ≤ (ms.length : Int) - 1)
theorem letter_i (ms : List ByteArray) (hm : ms.length ≤ 140737488355328) (k : Int) : ev E0 46 [.agg [.lst 1 (ms.map st)], i64 k] [] = some (bl (okLetter ms k), []) := by
  rw [e46]
  unfold runF
  have hw : IntKind.i64.wrap ((ms.length : Int) - 1) = (ms.length : Int) - 1 := wr64 (by omega) (by omega)
  simp -implicitDefEqProofs [L46, in_i, hw, okLetter]
theorem okLetter_bounds {ms : List ByteArray} {a : Int} (h : okLetter ms a = true) : 0 ≤ a ∧ a < (ms.length : Int) := by
  unfold okLetter at h
  simp only [Bool.and_eq_true, decide_eq_true_eq] at h
  omega
theorem okTable_len {ms : List ByteArray} (h : okTable ms = true) : 1 ≤ ms.length ∧ ms.length ≤ 10 := by
  unfold okTable at h
  simp only [Bool.and_eq_true, decide_eq_true_eq] at h
  omega
-- ---------------------------------------------------------------- copies, comparisons
theorem app_get {α : Type} {l r : List α} {y : α} {i : Nat} (h : l.length = i) : (l ++ y :: r)[i]? = some y := by
  rw [List.getElem?_append_right (by omega), h]
  simp
theorem app_set {α : Type} {l r : List α} {y z : α} {i : Nat} (h : l.length = i) : (l ++ y :: r).set i z = l ++ z :: r := by
  subst h
  simp
end Go.Proofs.YtgecnbafmlecjaaGreatDoor.Ev
