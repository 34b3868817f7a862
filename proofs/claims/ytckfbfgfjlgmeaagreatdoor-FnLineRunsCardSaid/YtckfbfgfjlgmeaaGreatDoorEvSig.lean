/- Signals: the words of a text, whether it is a signal, the signal of a message (the reference's functions). -/
import Derived.Test.YtckfbfgfjlgmeaaGreatDoorEvStation
set_option linter.unusedVariables false
set_option linter.unusedSimpArgs false
namespace Go.Proofs.YtckfbfgfjlgmeaaGreatDoor.Ev
/-- A row of texts, as an element of another row. -/
def wd (w : List ByteArray) : AV := .lst 1 (w.map st)
def wordsOf (s : ByteArray) : List (List ByteArray) := (partsB 47 s).map (partsB 32)
theorem partsB_sz (b : UInt8) (s : ByteArray) : (partsB b s).length ≤ s.size + 1 ∧ ∀ x ∈ partsB b s, x.size ≤ s.size := by
  have h := partsB_lens b s
  have h2 := lensT_len (partsB b s)
  refine ⟨by omega, fun x hx => ?_⟩
  have := lensT_mem hx
  omega
theorem words_loop (ws : List ByteArray) (hz : ∀ w ∈ ws, w.size ≤ 1048576) (hm : ws.length ≤ 1048577) : ∀ (t : List ByteArray) (i : Nat) (acc : List (List ByteArray)), ws.drop i = t → acc.length = i →
    packX 0 [3] (loopW (bd E0 (ev E0) loopW 0 [3, 4, 5] L163b0) ⟨[(3, .sl 0 0 acc.length), (4, .sl 1 0 ws.length), (5, i64 i)], [some ⟨39, 1, 1, false, acc.map wd⟩, some ⟨9, 1, 1, false, ws.map st⟩]⟩) = some (.ext 0, ⟨[(3, .sl 0 0 (acc ++ t.map (partsB 32)).length)], [some ⟨39, 1, 1, false, (acc ++ t.map (partsB 32)).map wd⟩]⟩) := by
  intro t
  induction t with
  | nil =>
    intro i acc h ha
    have hi := not_drop h
    have hi2 : ¬ (i : Int) < (ws.length : Int) := by omega
    rw [loopW_eq]
    generalize loopW (bd E0 (ev E0) loopW 0 [3, 4, 5] L163b0) = K
    simp -implicitDefEqProofs [bd, L163b0, hi, hi2]
  | cons x t ih =>
    intro i acc h ha
    obtain ⟨hi, hx, hd, hmem⟩ := at_drop h
    have hih := ih (i + 1) (acc ++ [partsB 32 x]) hd (by rw [List.length_append, ha]; rfl)
    rw [cs1, List.append_assoc, List.singleton_append, ← List.map_cons, List.length_append, List.length_singleton] at hih
    have hw : IntKind.i64.wrap ((i : Int) + 1) = (i : Int) + 1 := wr64 (by omega) (by omega)
    have hi2 : (i : Int) < (ws.length : Int) := by omega
    have hx2 : ws[i]? = some x := by rw [List.getElem?_eq_getElem hi, hx]
    have hsp := split_s x (by have := hz x hmem; omega) 32
    rw [show ((32 : UInt8).toNat : Int) = 32 from rfl] at hsp
    have hl1 : (acc.length + 1) * 24 ≤ 140737488355328 := by omega
    have hl2 : acc.length + 1 ≤ 140737488355328 := by omega
    have ht : List.take acc.length (acc.map wd) = acc.map wd := List.take_of_length_le (by simp)
    have hmw : (acc ++ [partsB 32 x]).map wd = acc.map wd ++ [.lst 1 ((partsB 32 x).map st)] := by simp [wd]
    rw [hmw] at hih
    have hg : ∀ h, (ws.map st)[i]'h = st x := fun h => by simp [hx]
    rw [loopW_eq]
    generalize (acc ++ (x :: t).map (partsB 32)).map wd = R at hih ⊢
    generalize (acc ++ (x :: t).map (partsB 32)).length = Rn at hih ⊢
    generalize loopW (bd E0 (ev E0) loopW 0 [3, 4, 5] L163b0) = K at hih ⊢
    simpa -implicitDefEqProofs [bd, L163b0, hi, hi2, hx, hw, hsp, hl1, hl2, ht] using hih
theorem words_s (s : ByteArray) (hs : s.size ≤ 1048576) : ev E0 163 [st s] [] = some (.sl 0 0 (wordsOf s).length, [some ⟨39, 1, 1, false, (wordsOf s).map wd⟩]) := by
  obtain ⟨h1, h2⟩ := partsB_sz 47 s
  have hl := words_loop (partsB 47 s) (fun w hw => by have := h2 w hw; omega) (by omega) (partsB 47 s) 0 [] rfl rfl
  have hsp := split_s s (by omega) 47
  rw [show ((47 : UInt8).toNat : Int) = 47 from rfl] at hsp
  rw [c0, List.nil_append] at hl
  rw [e163]
  unfold runF wordsOf
  simp only [List.map_nil, List.length_nil] at hl
  simp -implicitDefEqProofs [L163, hsp, hl]
-- ---------------------------------------------------------------- signals
def cntW : List (List ByteArray) → Nat
  | [] => 0
  | w :: r => w.length + 1 + cntW r
def okLs (w : List ByteArray) : Bool := w.all (okMarks · 1 5)
def okSig (s : ByteArray) : Bool := decide (s = ⟨#[]⟩) || (decide (s.size ≤ 72) && (wordsOf s).all okLs && decide ((cntW (wordsOf s) : Int) - 1 ≤ 12))
theorem sigI_loop (W : List (List ByteArray)) (i : Nat) (hi : i < W.length) (w : List ByteArray) (hw0 : W[i] = w) (hwl : w.length ≤ 1048577) (hz : ∀ x ∈ w, x.size ≤ 1048576) (c : Int) : ∀ (t : List ByteArray) (k : Nat), w.drop k = t →
    (okLs t = true → packX 0 [2, 3, 4, 5] (loopW (bd E0 (ev E0) loopW 0 [3, 4, 5, 6] L133b0) ⟨[(3, .sl 0 0 W.length), (4, i64 c), (5, i64 i), (6, i64 k)], [some ⟨39, 1, 1, false, W.map wd⟩]⟩) = some (.ext 2, ⟨[(3, .sl 0 0 W.length), (4, i64 c), (5, i64 i)], [some ⟨39, 1, 1, false, W.map wd⟩]⟩)) ∧
    (okLs t = false → packX 0 [2, 3, 4, 5] (loopW (bd E0 (ev E0) loopW 0 [3, 4, 5, 6] L133b0) ⟨[(3, .sl 0 0 W.length), (4, i64 c), (5, i64 i), (6, i64 k)], [some ⟨39, 1, 1, false, W.map wd⟩]⟩) = some (.ret, ⟨[(2, bl false), (3, .sl 0 0 W.length), (4, i64 c), (5, i64 i)], [some ⟨39, 1, 1, false, W.map wd⟩]⟩)) := by
  have hi2 : (i : Int) < (W.length : Int) := by omega
  have hg : ∀ h, wd (W[i]'h) = .lst 1 (w.map st) := fun h => by rw [hw0]; rfl
  intro t
  induction t with
  | nil =>
    intro k h
    have hk := not_drop h
    have hk2 : ¬ (k : Int) < (w.length : Int) := by omega
    rw [loopW_eq]
    generalize loopW (bd E0 (ev E0) loopW 0 [3, 4, 5, 6] L133b0) = K
    refine ⟨fun _ => ?_, fun h => (by simp [okLs] at h)⟩
    simp -implicitDefEqProofs [bd, L133b0, hi, hi2, hg, hk, hk2]
  | cons x t ih =>
    intro k h
    obtain ⟨hk, hx, hd, hmem⟩ := at_drop h
    obtain ⟨ih1, ih2⟩ := ih (k + 1) hd
    rw [cs1] at ih1 ih2
    have hw : IntKind.i64.wrap ((k : Int) + 1) = (k : Int) + 1 := wr64 (by omega) (by omega)
    have hk2 : (k : Int) < (w.length : Int) := by omega
    have hm := marks_s x (by have := hz x hmem; omega) 1 5
    rw [loopW_eq]
    generalize loopW (bd E0 (ev E0) loopW 0 [3, 4, 5, 6] L133b0) = K at ih1 ih2 ⊢
    cases ho : okMarks x 1 5 with
    | false =>
      rw [ho] at hm
      refine ⟨fun h => (by simp [okLs, ho] at h), fun _ => ?_⟩
      simp -implicitDefEqProofs [bd, L133b0, hi, hi2, hg, hk, hk2, hx, hm]
    | true =>
      rw [ho] at hm
      have he : okLs (x :: t) = okLs t := by simp [okLs, ho]
      rw [he]
      refine ⟨fun h => ?_, fun h => ?_⟩
      · simpa -implicitDefEqProofs [bd, L133b0, hi, hi2, hg, hk, hk2, hx, hm, hw] using ih1 h
      · simpa -implicitDefEqProofs [bd, L133b0, hi, hi2, hg, hk, hk2, hx, hm, hw] using ih2 h
theorem sigO_loop (W : List (List ByteArray)) (hW : W.length ≤ 1048577) (hwl : ∀ w ∈ W, w.length ≤ 1048577) (hz : ∀ w ∈ W, ∀ x ∈ w, x.size ≤ 1048576) : ∀ (t : List (List ByteArray)) (i c : Nat), W.drop i = t → c ≤ i * 1048578 →
    (t.all okLs = true → packX 0 [2, 4] (loopW (bd E0 (ev E0) loopW 0 [3, 4, 5] L133b1) ⟨[(3, .sl 0 0 W.length), (4, i64 c), (5, i64 i)], [some ⟨39, 1, 1, false, W.map wd⟩]⟩) = some (.ext 0, ⟨[(4, i64 ((c + cntW t : Nat) : Int))], []⟩)) ∧
    (t.all okLs = false → ∃ c' : Int, packX 0 [2, 4] (loopW (bd E0 (ev E0) loopW 0 [3, 4, 5] L133b1) ⟨[(3, .sl 0 0 W.length), (4, i64 c), (5, i64 i)], [some ⟨39, 1, 1, false, W.map wd⟩]⟩) = some (.ret, ⟨[(2, bl false), (4, i64 c')], []⟩)) := by
  intro t
  induction t with
  | nil =>
    intro i c h hc
    have hi := not_drop h
    have hi2 : ¬ (i : Int) < (W.length : Int) := by omega
    rw [loopW_eq]
    generalize loopW (bd E0 (ev E0) loopW 0 [3, 4, 5] L133b1) = K
    refine ⟨fun _ => ?_, fun h => (by simp at h)⟩
    simp -implicitDefEqProofs [bd, L133b1, hi, hi2, cntW]
  | cons w t ih =>
    intro i c h hc
    obtain ⟨hi, hx, hd, hmem⟩ := at_drop h
    have hlw := hwl w hmem
    have hc2 : c + (w.length + 1) ≤ (i + 1) * 1048578 := by omega
    obtain ⟨ih1, ih2⟩ := ih (i + 1) (c + (w.length + 1)) hd hc2
    rw [cs1] at ih1 ih2
    have hin := sigI_loop W i hi w hx hlw (hz w hmem) c w 0 rfl
    rw [c0] at hin
    have hi2 : (i : Int) < (W.length : Int) := by omega
    have hw : IntKind.i64.wrap ((i : Int) + 1) = (i : Int) + 1 := wr64 (by omega) (by omega)
    have hi3 : i ≤ 1048577 := by omega
    have hc3 : (c : Int) ≤ 1099518771200 := by
      have : i * 1048578 ≤ 1048577 * 1048578 := Nat.mul_le_mul_right _ hi3
      omega
    have hw1 : IntKind.i64.wrap ((c : Int) + (w.length : Int)) = (c : Int) + (w.length : Int) := wr64 (by omega) (by omega)
    have hw2 : IntKind.i64.wrap ((c : Int) + (w.length : Int) + 1) = ((c + (w.length + 1) : Nat) : Int) := by rw [wr64 (by omega) (by omega)]; omega
    have hg : ∀ h, wd (W[i]'h) = .lst 1 (w.map st) := fun h => by rw [hx]; rfl
    have he : (w :: t).all okLs = (okLs w && t.all okLs) := List.all_cons
    have hcn : c + cntW (w :: t) = c + (w.length + 1) + cntW t := by rw [cntW]; omega
    rw [he, hcn, loopW_eq]
    generalize hM : ((c + (w.length + 1) : Nat) : Int) = m at ih1 ih2 hw2
    generalize loopW (bd E0 (ev E0) loopW 0 [3, 4, 5] L133b1) = K at ih1 ih2 ⊢
    unfold bd
    cases ho : okLs w with
    | false =>
      have hin2 := hin.2 ho
      refine ⟨fun h => (by simp at h), fun _ => ⟨c, ?_⟩⟩
      simp -implicitDefEqProofs [L133b1, hi, hi2, hin2]
    | true =>
      have hin1 := hin.1 ho
      refine ⟨fun h => ?_, fun h => ?_⟩
      · simpa -implicitDefEqProofs [L133b1, hi, hi2, hin1, hg, hw, hw1, hw2] using ih1 (by simpa using h)
      · obtain ⟨c', hc'⟩ := ih2 (by simpa using h)
        refine ⟨c', ?_⟩
        simpa -implicitDefEqProofs [L133b1, hi, hi2, hin1, hg, hw, hw1, hw2] using hc'
theorem wordsOf_sz (s : ByteArray) : (wordsOf s).length ≤ s.size + 1 ∧ (∀ w ∈ wordsOf s, w.length ≤ s.size + 1) ∧ ∀ w ∈ wordsOf s, ∀ x ∈ w, x.size ≤ s.size := by
  obtain ⟨h1, h2⟩ := partsB_sz 47 s
  unfold wordsOf
  refine ⟨by simpa using h1, fun w hw => ?_, fun w hw x hx => ?_⟩
  · obtain ⟨p, hp, rfl⟩ := List.mem_map.1 hw
    have := (partsB_sz 32 p).1
    have := h2 p hp
    omega
  · obtain ⟨p, hp, rfl⟩ := List.mem_map.1 hw
    have := (partsB_sz 32 p).2 x hx
    have := h2 p hp
    omega
theorem signal_s (s : ByteArray) (hs : s.size ≤ 1073741824) : ev E0 133 [st s] [] = some (bl (okSig s), []) := by
  rw [e133]
  unfold runF okSig
  by_cases h0 : s = ⟨#[]⟩
  · subst h0
    simp -implicitDefEqProofs [L133]
  · by_cases h1 : s.size ≤ 72
    · have h2 : ¬ 72 < s.size := by omega
      have h3 : ¬ (72 : Int) < (s.size : Int) := by omega
      obtain ⟨z1, z2, z3⟩ := wordsOf_sz s
      have hwd := words_s s (by omega)
      have hl := sigO_loop (wordsOf s) (by omega) (fun w hw => by have := z2 w hw; omega) (fun w hw x hx => by have := z3 w hw x hx; omega) (wordsOf s) 0 0 rfl (by omega)
      rw [c0, Nat.zero_add] at hl
      have hcb : (cntW (wordsOf s) : Int) ≤ 1000000 := by
        have : ∀ (W : List (List ByteArray)), (∀ w ∈ W, w.length ≤ s.size + 1) → cntW W ≤ W.length * (s.size + 2) := by
          intro W
          induction W with
          | nil => intro _; simp [cntW]
          | cons w W ih =>
            intro h
            have h1 := h w (by simp)
            have h2 := ih fun u hu => h u (by simp [hu])
            rw [cntW, List.length_cons, Nat.succ_mul]
            omega
        have h4 := this _ z2
        have h5 : (wordsOf s).length * (s.size + 2) ≤ 73 * 74 := Nat.mul_le_mul (by omega) (by omega)
        omega
      generalize wordsOf s = W at *
      generalize cntW W = c at *
      have hw1 : IntKind.i64.wrap ((c : Int) - 1) = (c : Int) - 1 := wr64 (by omega) (by omega)
      cases ho : W.all okLs with
      | false =>
        obtain ⟨c', hc'⟩ := hl.2 ho
        simp -implicitDefEqProofs [L133, h0, h1, h2, h3, hwd, hc']
      | true =>
        have hc' := hl.1 ho
        simp -implicitDefEqProofs [L133, h0, h1, h2, h3, hwd, hc', hw1]
    · have h2 : 72 < s.size := by omega
      have h3 : (72 : Int) < (s.size : Int) := by omega
      simp -implicitDefEqProofs [L133, h0, h1, h2, h3]
end Go.Proofs.YtckfbfgfjlgmeaaGreatDoor.Ev
