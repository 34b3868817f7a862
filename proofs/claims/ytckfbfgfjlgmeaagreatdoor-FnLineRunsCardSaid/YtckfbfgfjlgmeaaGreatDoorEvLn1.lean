/- Lines: what a line is, and its runs, both programs. -/
import Derived.Test.YtckfbfgfjlgmeaaGreatDoorEvTm
import Derived.Test.YtckfbfgfjlgmeaaGreatDoorEvParts
set_option linter.unusedVariables false
set_option linter.unusedSimpArgs false
namespace Go.Proofs.YtckfbfgfjlgmeaaGreatDoor.Ev
def o01 (c : UInt8) : Bool := [48, 49].contains c
theorem o01_or {c : UInt8} (h : o01 c = true) : c = 48 ∨ c = 49 := by
  unfold o01 at h
  simpa using h
def okLine (l : ByteArray) : Bool := decide ((l.size : Int) ≤ 200) && (B l).all o01
theorem isLine_i (l : ByteArray) (hl : l.size ≤ 1073741824) : ev E0 10 [st l] [] = some (bl (okLine l), []) := by
  rw [e10]
  unfold runF
  have h2 := trim_nil l.data.toList [48, 49]
  have hsz : l.size ≤ 9223372036854775807 := by omega
  have hc : (⟨#[48, 49]⟩ : ByteArray).size < 4294967281 ∧ (⟨#[48, 49]⟩ : ByteArray).data.toList.all (fun b => decide (b.toNat < 128)) = true := by decide
  have ht : ev E0 77 [.v (.string l), .v (.string ⟨#[48, 49]⟩)] [] = some (st ⟨(Lib.trimS l.data.toList [48, 49]).toArray⟩, []) := by
    rw [e77]
    show (if _ then _ else _) = _
    rw [if_pos ⟨hsz, hc⟩]
  unfold okLine
  have e2 : l.data.toList.all ([48, 49].contains ·) = (B l).all o01 := rfl
  rw [e2] at h2
  generalize Lib.trimS l.data.toList [48, 49] = T at *
  by_cases h : (l.size : Int) ≤ 200
  · have hn : l.size ≤ 200 := by omega
    cases hh : (B l).all o01 with
    | true =>
      have hT := h2.2 hh
      subst hT
      simp -implicitDefEqProofs [L10, h, hn, ht]
    | false =>
      have hT : ¬ T = [] := fun e => by rw [h2.1 e] at hh; cases hh
      simp -implicitDefEqProofs [L10, h, hn, ht, hT]
  · have hn : ¬ l.size ≤ 200 := by omega
    simp -implicitDefEqProofs [L10, h, hn]
theorem line_loop (l : ByteArray) (hl : l.size ≤ 1073741824) : ∀ (t : List UInt8) (i : Nat), (B l).drop i = t → i ≤ 201 →
    ((t.take (201 - i)).all o01 = true → packX 0 [0, 2] (loopW (bd E0 (ev E0) loopW 0 [0, 3] L75b0) ⟨[(0, st l), (3, i64 i)], []⟩) = some (.ext 0, ⟨[(0, st l)], []⟩)) ∧
    ((t.take (201 - i)).all o01 = false → packX 0 [0, 2] (loopW (bd E0 (ev E0) loopW 0 [0, 3] L75b0) ⟨[(0, st l), (3, i64 i)], []⟩) = some (.ret, ⟨[(0, st l), (2, bl false)], []⟩)) := by
  intro t
  induction t with
  | nil =>
    intro i h _
    have hi := byte_end h
    refine ⟨fun _ => ?_, fun h => (by simp at h)⟩
    have hii : ¬ (i : Int) < (l.size : Int) := by omega
    rw [loopW_eq]
    generalize loopW (bd E0 (ev E0) loopW 0 [0, 3] L75b0) = K
    simp -implicitDefEqProofs [bd, L75b0, hi, hii]
  | cons c t ih =>
    intro i h hb
    obtain ⟨hi, hx, hd⟩ := byte_at h
    have hii : (i : Int) < (l.size : Int) := by omega
    have hg0 : ∀ h, l.data[i]'h = c := by
      intro _
      have hi2 : i < l.data.toList.length := by simpa using hi
      rw [List.getD_eq_getElem?_getD, List.getElem?_eq_getElem hi2, Option.getD_some] at hx
      exact hx
    have hw : IntKind.i64.wrap ((i : Int) + 1) = (i : Int) + 1 := wr64 (by omega) (by omega)
    by_cases h201 : i = 201
    · refine ⟨fun _ => ?_, fun h => (by rw [h201] at h; simp at h)⟩
      have hle : ¬ (i : Int) ≤ 200 := by omega
      have hle2 : ¬ i ≤ 200 := by omega
      rw [loopW_eq]
      clear ih
      generalize loopW (bd E0 (ev E0) loopW 0 [0, 3] L75b0) = K
      simp -implicitDefEqProofs [bd, L75b0, hi, hii, hle, hle2]
    · have hle : (i : Int) ≤ 200 := by omega
      have hle2 : i ≤ 200 := by omega
      have ht : List.take (201 - i) (c :: t) = c :: List.take (201 - (i + 1)) t := by
        rw [show 201 - i = (201 - (i + 1)) + 1 by omega, List.take_succ_cons]
      obtain ⟨ih1, ih2⟩ := ih (i + 1) hd (by omega)
      rw [cs1] at ih1 ih2
      rw [ht, List.all_cons, loopW_eq]
      clear ih
      cases ho : o01 c with
      | false =>
        refine ⟨fun h => (by simp at h), fun _ => ?_⟩
        have n1 : ¬ c = 48 := fun e => by rw [e] at ho; exact absurd ho (by decide)
        have n2 : ¬ c = 49 := fun e => by rw [e] at ho; exact absurd ho (by decide)
        have m1 : ¬ c.toNat = 48 := fun e => n1 (UInt8.toNat_inj.1 e)
        have m2 : ¬ c.toNat = 49 := fun e => n2 (UInt8.toNat_inj.1 e)
        have k1 : ¬ (c.toNat : Int) = 48 := by omega
        have k2 : ¬ (c.toNat : Int) = 49 := by omega
        generalize loopW (bd E0 (ev E0) loopW 0 [0, 3] L75b0) = K
        simp -implicitDefEqProofs [bd, L75b0, hi, hii, hle, hle2, hx, hg0, m1, m2, k1, k2]
      | true =>
        rw [Bool.true_and]
        refine ⟨fun h => ?_, fun h => ?_⟩
        · have hh := ih1 h
          generalize loopW (bd E0 (ev E0) loopW 0 [0, 3] L75b0) = K at hh ⊢
          rcases o01_or ho with rfl | rfl <;> simpa -implicitDefEqProofs [bd, L75b0, hi, hii, hle, hle2, hx, hg0, hw] using hh
        · have hh := ih2 h
          generalize loopW (bd E0 (ev E0) loopW 0 [0, 3] L75b0) = K at hh ⊢
          rcases o01_or ho with rfl | rfl <;> simpa -implicitDefEqProofs [bd, L75b0, hi, hii, hle, hle2, hx, hg0, hw] using hh
theorem isLine_s (l : ByteArray) (hl : l.size ≤ 1073741824) : ev E0 75 [st l] [] = some (bl (okLine l), []) := by
  obtain ⟨l1, l2⟩ := line_loop l hl (B l) 0 rfl (by omega)
  rw [c0, Nat.sub_zero] at l1 l2
  rw [e75]
  unfold runF okLine
  by_cases h : (l.size : Int) ≤ 200
  · have hn : l.size ≤ 200 := by omega
    have ht : (B l).take 201 = B l := List.take_of_length_le (by rw [B_len]; omega)
    rw [ht] at l1 l2
    cases ho : (B l).all o01 with
    | true =>
      have l1 := l1 ho
      simp -implicitDefEqProofs [L75, l1, h, hn]
    | false =>
      have l2 := l2 ho
      simp -implicitDefEqProofs [L75, l2, h, hn]
  · have hn : ¬ l.size ≤ 200 := by omega
    cases ho : ((B l).take 201).all o01 with
    | true =>
      have l1 := l1 ho
      simp -implicitDefEqProofs [L75, l1, h, hn]
    | false =>
      have l2 := l2 ho
      simp -implicitDefEqProofs [L75, l2, h, hn]
-- ---------------------------------------------------------------- runs
abbrev R := Nat × Nat
def rn (p : R) : AV := .agg [i64 (p.1 : Int), i64 (p.2 : Int)]
@[simp] theorem free_rn (l : List R) : okL (free 5) (l.map rn) = true := okL_map (fun _ => rfl) l
def rB (l : List R) : Blk := ⟨45, 2, 1, false, l.map rn⟩
def runsF : Nat → Nat → List UInt8 → List R
  | v, n, [] => [(v, n)]
  | v, n, c :: t => if c.toNat - 48 = v then runsF v (n + 1) t else (v, n) :: runsF (c.toNat - 48) 1 t
def runs : List UInt8 → List R
  | [] => []
  | c :: t => runsF (c.toNat - 48) 1 t
theorem u0 : IntKind.u8.wrap 0 = 0 := rfl
theorem u1 : IntKind.u8.wrap 1 = 1 := rfl
theorem i0 : IntKind.i64.wrap 0 = 0 := rfl
theorem i1 : IntKind.i64.wrap 1 = 1 := rfl
theorem rs_loop (l : ByteArray) (hl : l.size ≤ 100000) (hok : (B l).all o01 = true) : ∀ (t : List UInt8) (i : Nat) (p : UInt8) (A : List R) (n : Nat), (B l).drop i = p :: t → A.length ≤ i → n ≤ i + 1 →
    packX 0 [3] (loopW (bd E0 (ev E0) loopW 0 [0, 3, 4] L76b0) ⟨[(0, st l), (3, .sl 0 0 (A.length + 1)), (4, i64 ((i : Int) + 1))], [some (rB (A ++ [(p.toNat - 48, n)]))]⟩) = some (.ext 0, ⟨[(3, .sl 0 0 (A ++ runsF (p.toNat - 48) n t).length)], [some (rB (A ++ runsF (p.toNat - 48) n t))]⟩) := by
  intro t
  induction t with
  | nil =>
    intro i p A n h hA hn
    obtain ⟨hi0, hx0, hd0⟩ := byte_at h
    have hi := byte_end hd0
    have hii : ¬ (i : Int) + 1 < (l.size : Int) := by omega
    rw [runsF, loopW_eq]
    unfold rB
    have hQ : ((A ++ [(p.toNat - 48, n)]).map rn).length = A.length + 1 := by simp
    have hQ2 : (A ++ [(p.toNat - 48, n)]).length = A.length + 1 := by simp
    rw [hQ2]
    generalize (A ++ [(p.toNat - 48, n)]).map rn = Q at *
    generalize loopW (bd E0 (ev E0) loopW 0 [0, 3, 4] L76b0) = K
    simp -implicitDefEqProofs [bd, L76b0, hi, hii, hQ]
  | cons c t ih =>
    intro i p A n h hA hn
    obtain ⟨hi0, hx0, hd0⟩ := byte_at h
    obtain ⟨hi, hx, hd⟩ := byte_at hd0
    have hgg : ∀ (j : Nat) (d : UInt8), l.data.toList.getD j 0 = d → j < l.size → ∀ h, l.data[j]'h = d := by
      intro j d hx hj h
      have hi2 : j < l.data.toList.length := by simpa using hj
      rw [List.getD_eq_getElem?_getD, List.getElem?_eq_getElem hi2, Option.getD_some] at hx
      exact hx
    have hg0 := hgg i p hx0 hi0
    have hg1 := hgg (i + 1) c hx hi
    have hii : (i : Int) + 1 < (l.size : Int) := by omega
    have hi00 : (i : Int) < (l.size : Int) := by omega
    have hp0 : (0 : Int) < (i : Int) + 1 := by omega
    have hp1 : (0 : Int) ≤ (i : Int) + 1 := by omega
    have hAl : (A.length : Int) < (A.length : Int) + 1 := by omega
    have hQl : A.length ≤ (A.map rn).length := by simp
    have hw : IntKind.i64.wrap ((i : Int) + 1 + 1) = (i : Int) + 1 + 1 := wr64 (by omega) (by omega)
    have hw0 : IntKind.i64.wrap (i : Int) = (i : Int) := wr64 (by omega) (by omega)
    have hwA : IntKind.i64.wrap (A.length : Int) = (A.length : Int) := wr64 (by omega) (by omega)
    have hwn : IntKind.i64.wrap ((n : Int) + 1) = (n : Int) + 1 := wr64 (by omega) (by omega)
    have hl1 : A.length + 1 + 1 ≤ 140737488355328 := by omega
    have hl2 : (A.length + 1 + 1) * 16 ≤ 140737488355328 := by omega
    have t1 : (i : Int) + 1 + 1 = ((i + 1 : Nat) : Int) + 1 := by omega
    have hmem : ∀ d ∈ B l, d = 48 ∨ d = 49 := fun d hd => o01_or (List.all_eq_true.1 hok d hd)
    have hpm : p = 48 ∨ p = 49 := hmem p (List.mem_of_mem_drop (by rw [h]; exact List.mem_cons_self ..))
    have hcm : c = 48 ∨ c = 49 := hmem c (List.mem_of_mem_drop (by rw [hd0]; exact List.mem_cons_self ..))
    rw [runsF, loopW_eq]
    have hget : ∀ q : AV, (A.map rn ++ [q])[A.length]? = some q := fun q => app_get (by simp)
    have hset : ∀ q r : AV, (A.map rn ++ [q]).set A.length r = A.map rn ++ [r] := fun q r => app_set (by simp)
    have htk : ∀ q : AV, List.take (A.length + 1) (A.map rn ++ [q]) = A.map rn ++ [q] := fun q => List.take_of_length_le (by simp)
    have hget2 : ∀ (q : AV) h, (A.map rn ++ [q])[A.length]'h = q := fun q h => (List.getElem?_eq_some_iff.1 (hget q)).2
    by_cases hc : c.toNat - 48 = p.toNat - 48
    · have hpc : c = p := by rcases hcm with rfl | rfl <;> rcases hpm with rfl | rfl <;> first | rfl | exact absurd hc (by decide)
      subst hpc
      have hih := ih (i + 1) c A (n + 1) hd0 (by omega) (by omega)
      rw [← t1] at hih
      rw [if_pos rfl]
      clear ih
      unfold rB at *
      rw [List.map_append, List.map_singleton] at hih ⊢
      unfold rn at hih hget hset htk hget2 hQl ⊢
      rw [cs1] at hih
      generalize (A ++ runsF (c.toNat - 48) (n + 1) t) = R at *
      generalize ((c.toNat - 48 : Nat) : Int) = v at *
      generalize A.map (fun p => AV.agg [i64 (p.1 : Int), i64 (p.2 : Int)]) = Q at *
      generalize loopW (bd E0 (ev E0) loopW 0 [0, 3, 4] L76b0) = K at hih ⊢
      simpa -implicitDefEqProofs [bd, L76b0, hi, hi0, hii, hi00, hp0, hp1, hAl, hQl, hx, hx0, hg0, hg1, hw, hw0, hwA, hwn, hget, hget2, hset] using hih
    · rw [if_neg hc]
      have hih := ih (i + 1) c (A ++ [(p.toNat - 48, n)]) 1 hd0 (by simp; omega) (by omega)
      rw [← t1, List.length_append, List.length_singleton, List.append_assoc (bs := [(p.toNat - 48, n)]) (cs := runsF _ _ _), List.singleton_append] at hih
      clear ih
      unfold rB at *
      rw [List.map_append, List.map_append, List.map_singleton, List.map_singleton] at hih
      rw [List.map_append, List.map_singleton]
      unfold rn at hih hget hset htk hget2 hQl ⊢
      generalize (A ++ (p.toNat - 48, n) :: runsF (c.toNat - 48) 1 t) = R at *
      generalize A.map (fun p => AV.agg [i64 (p.1 : Int), i64 (p.2 : Int)]) = Q at *
      generalize loopW (bd E0 (ev E0) loopW 0 [0, 3, 4] L76b0) = K at hih ⊢
      rcases hcm with rfl | rfl <;> rcases hpm with rfl | rfl <;> first | exact absurd rfl hc | simpa -implicitDefEqProofs [bd, L76b0, hi, hi0, hii, hi00, hp0, hp1, hAl, hQl, hx, hx0, hg0, hg1, hw, hw0, htk, hl1, hl2, u0, u1, i0, i1] using hih
end Go.Proofs.YtckfbfgfjlgmeaaGreatDoor.Ev
