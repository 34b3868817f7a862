/- What the law on borders asks: certain borders are borders, readings have theirs there; the marks of letters; a number in a row. -/
import Derived.Test.YtkdfgjijmnaljaaDoorEvRd6
set_option linter.unusedVariables false
set_option linter.unusedSimpArgs false
namespace Go.Proofs.YtkdfgjijmnaljaaDoor.Ev
theorem mem_bo {ms : List ByteArray} {s : ByteArray} {all : Bool} {k x : Nat} : x ∈ bo ms s all k ↔ x < k ∧ bord ms s all x = true := by
  unfold bo
  rw [List.mem_filter, List.mem_range]
theorem bo_sub {ms : List ByteArray} {s : ByteArray} {k x : Nat} (h : x ∈ bo ms s true k) : x ∈ bo ms s false k := by
  rw [mem_bo] at h ⊢
  refine ⟨h.1, ?_⟩
  have := h.2
  unfold bord at this ⊢
  rw [Bool.and_eq_true] at this
  rw [this.1]
  rfl
theorem nb_zero (ms : List ByteArray) (s : ByteArray) : nb ms s 0 = rds ms s := by
  unfold nb rds
  rw [List.take_zero, List.drop_zero, Rd.wy_nil, Nat.one_mul]
theorem nb_end (ms : List ByteArray) (s : ByteArray) : nb ms s s.size = rds ms s := by
  unfold nb rds
  rw [List.take_of_length_le (by rw [B_len]; exact Nat.le_refl _), List.drop_of_length_le (by rw [B_len]; exact Nat.le_refl _), Rd.wy_nil, Nat.mul_one]
theorem bo_ends {ms : List ByteArray} {s : ByteArray} (h : 0 < rds ms s) (all : Bool) : 0 ∈ bo ms s all (s.size + 1) ∧ s.size ∈ bo ms s all (s.size + 1) := by
  constructor
  · rw [mem_bo]
    refine ⟨by omega, ?_⟩
    unfold bord
    rw [nb_zero, decide_eq_true h, decide_eq_true rfl]
    simp
  · rw [mem_bo]
    refine ⟨by omega, ?_⟩
    unfold bord
    rw [nb_end, decide_eq_true h, decide_eq_true rfl]
    simp
theorem bo_none {ms : List ByteArray} (hv : VT ms) {s : ByteArray} (h : rds ms s = 0) (all : Bool) (k : Nat) : bo ms s all k = [] := by
  apply List.eq_nil_iff_forall_not_mem.2
  intro x hx
  rw [mem_bo] at hx
  have h2 := hx.2
  unfold bord at h2
  rw [Bool.and_eq_true, decide_eq_true_eq] at h2
  have := nb_le hv s x
  omega
theorem bo_one {ms : List ByteArray} (hv : VT ms) {s : ByteArray} (h : rds ms s = 1) (k : Nat) : bo ms s true k = bo ms s false k := by
  unfold bo
  apply List.filter_congr
  intro x _
  unfold bord
  have := nb_le hv s x
  by_cases h0 : 0 < nb ms s x
  · rw [decide_eq_true h0, decide_eq_true (show nb ms s x = rds ms s by omega)]
    rfl
  · rw [decide_eq_false h0]
    rfl
theorem flat_app (ms : List ByteArray) (a b : List Nat) : flat ms (a ++ b) = flat ms a ++ flat ms b := by
  unfold flat
  rw [List.map_append, List.flatten_append]
theorem flat_pos {ms : List ByteArray} (hv : VT ms) (w : List Nat) (hw : ∀ i ∈ w, i < ms.length) : 0 < Rd.wy (ms.map B) (flat ms w) := by
  unfold flat
  refine Rd.wy_pos hv.ne _ fun m hm => ?_
  obtain ⟨i, hi, rfl⟩ := List.mem_map.1 hm
  have := hw i hi
  rw [← mk_at this]
  exact List.mem_map.2 ⟨_, List.getElem_mem this, rfl⟩
/-- A reading has its borders where borders are. -/
theorem cut_mem {ms : List ByteArray} (hv : VT ms) {s : ByteArray} {w : List Nat} (hw : ∀ i ∈ w, i < ms.length) (hf : flat ms w = B s) (j : Nat) : (flat ms (w.take j)).length ∈ bo ms s false (s.size + 1) := by
  have he : B s = flat ms (w.take j) ++ flat ms (w.drop j) := by rw [← flat_app, List.take_append_drop, hf]
  have hl : (flat ms (w.take j)).length ≤ s.size := by rw [← B_len, he, List.length_append]; omega
  rw [mem_bo]
  refine ⟨by omega, ?_⟩
  unfold bord nb
  rw [he, List.take_left, List.drop_left]
  have h1 := flat_pos hv (w.take j) (fun i hi => hw i (List.mem_of_mem_take hi))
  have h2 := flat_pos hv (w.drop j) (fun i hi => hw i (List.mem_of_mem_drop hi))
  rw [decide_eq_true (Nat.mul_pos h1 h2)]
  rfl
theorem sure_cut {ms : List ByteArray} (hv : VT ms) {s : ByteArray} {w : List Nat} (hw : ∀ i ∈ w, i < ms.length) (hf : flat ms w = B s) {x : Nat} (hx : x ∈ bo ms s true (s.size + 1)) : ∃ j, j ≤ w.length ∧ x = (flat ms (w.take j)).length := by
  rw [mem_bo] at hx
  obtain ⟨h1, h2⟩ := hx
  unfold bord at h2
  rw [Bool.and_eq_true, decide_eq_true_eq] at h2
  have h3 : nb ms s x = rds ms s := by simpa using h2.2
  apply Decidable.byContradiction
  intro hn
  have hlen := B_len s
  have hb := Rd.no_border hv.ne ((B s).drop x) (w.map fun i => B (mk_ ms i)) ((B s).take x) (fun m hm => by
    obtain ⟨i, hi, rfl⟩ := List.mem_map.1 hm
    have := hw i hi
    rw [← mk_at this]
    exact List.mem_map.2 ⟨_, List.getElem_mem this, rfl⟩) (by rw [List.take_append_drop]; exact hf) (fun i hi => by
    rw [← List.map_take] at hi
    have e : (flat ms (w.take i)).length = x := by
      show ((w.take i).map fun i => B (mk_ ms i)).flatten.length = x
      rw [hi, List.length_take]
      omega
    by_cases hil : i ≤ w.length
    · exact hn ⟨i, hil, e.symm⟩
    · refine hn ⟨w.length, Nat.le_refl _, ?_⟩
      rw [List.take_length, ← e, List.take_of_length_le (by omega)])
  rw [List.take_append_drop] at hb
  unfold nb rds at h3
  omega
/-- A number in a row. -/
theorem has_loop (l : List Nat) (hl : l.length ≤ 140737488355328) (x : Nat) : ∀ (t : List Nat) (i : Nat), l.drop i = t →
    (x ∈ t → packX 0 [4] (loopW (bd E0 (ev E0) loopW 0 [0, 1, 5] L13b0) ⟨[(0, .lst 1 (ns l)), (1, i64 x), (5, i64 i)], []⟩) = some (.ret, ⟨[(4, bl true)], []⟩)) ∧
    (x ∉ t → packX 0 [4] (loopW (bd E0 (ev E0) loopW 0 [0, 1, 5] L13b0) ⟨[(0, .lst 1 (ns l)), (1, i64 x), (5, i64 i)], []⟩) = some (.ext 0, ⟨[], []⟩)) := by
  intro t
  induction t with
  | nil =>
    intro i h
    have hi := not_drop h
    refine ⟨fun h => by simp at h, fun _ => ?_⟩
    have hl2 := ns_len l
    have hi2 : ¬ (i : Int) < (l.length : Int) := by omega
    rw [loopW_eq]
    generalize loopW (bd E0 (ev E0) loopW 0 [0, 1, 5] L13b0) = K
    simp -implicitDefEqProofs [bd, L13b0, hl2, hi, hi2]
  | cons c t ih =>
    intro i h
    obtain ⟨hi, hx, hd, hmem⟩ := at_drop h
    obtain ⟨ih1, ih2⟩ := ih (i + 1) hd
    rw [cs1] at ih1 ih2
    have hw : IntKind.i64.wrap ((i : Int) + 1) = (i : Int) + 1 := wr64 (by omega) (by omega)
    have hl2 := ns_len l
    have hi2 : (i : Int) < (l.length : Int) := by omega
    have g1 : (ns l)[i]? = some (i64 (c : Int)) := by unfold ns; rw [List.getElem?_map, List.getElem?_eq_getElem hi, hx]; rfl
    have g2 : ∀ h, (ns l)[i]'h = i64 (c : Int) := fun h => (List.getElem?_eq_some_iff.1 g1).2
    rw [loopW_eq]
    generalize loopW (bd E0 (ev E0) loopW 0 [0, 1, 5] L13b0) = K at ih1 ih2 ⊢
    by_cases hc : c = x
    · subst hc
      refine ⟨fun _ => ?_, fun h => absurd (List.mem_cons_self ..) h⟩
      simp -implicitDefEqProofs [bd, L13b0, hl2, hi, hi2, g1, g2]
    · have hci : ¬ (c : Int) = (x : Int) := by omega
      refine ⟨fun h => ?_, fun h => ?_⟩
      · have h2 : x ∈ t := by
          rcases List.mem_cons.1 h with e | h
          · exact absurd e.symm hc
          · exact h
        simpa -implicitDefEqProofs [bd, L13b0, hl2, hi, hi2, g1, g2, hc, hci, hw] using ih1 h2
      · simpa -implicitDefEqProofs [bd, L13b0, hl2, hi, hi2, g1, g2, hc, hci, hw] using ih2 (fun e => h (List.mem_cons_of_mem _ e))
theorem vhas (l : List Nat) (hl : l.length ≤ 140737488355328) (x : Nat) (h : x ∈ l) : ev E0 13 [.lst 1 (ns l), i64 x] [] = some (bl true, []) := by
  have h1 := (has_loop l hl x l 0 rfl).1 h
  rw [c0] at h1
  rw [e13]
  unfold runF
  simp -implicitDefEqProofs [L13, h1]
theorem nints_loop (l : List Nat) (hm : l.length ≤ 140737488355328) : ∀ (t : List Nat) (i : Nat), l.drop i = t →
    packX 0 [4] (loopW (bd E0 (ev E0) loopW 0 [0, 1, 5] L11b0) ⟨[(0, .lst 1 (ns l)), (1, .lst 1 (ns l)), (5, i64 i)], []⟩) = some (.ext 0, ⟨[], []⟩) := by
  intro t
  induction t with
  | nil =>
    intro i h
    have hi := not_drop h
    have hl2 := ns_len l
    rw [loopW_eq]
    generalize loopW (bd E0 (ev E0) loopW 0 [0, 1, 5] L11b0) = K
    simp -implicitDefEqProofs [bd, L11b0, hl2, hi]
  | cons c t ih =>
    intro i h
    obtain ⟨hi, hx, hd, hmem⟩ := at_drop h
    have hih := ih (i + 1) hd
    have hw : IntKind.i64.wrap ((i : Int) + 1) = (i : Int) + 1 := wr64 (by omega) (by omega)
    have hl2 := ns_len l
    have g1 : (ns l)[i]? = some (i64 (c : Int)) := by unfold ns; rw [List.getElem?_map, List.getElem?_eq_getElem hi, hx]; rfl
    have g2 : ∀ h, (ns l)[i]'h = i64 (c : Int) := fun h => (List.getElem?_eq_some_iff.1 g1).2
    rw [cs1] at hih
    rw [loopW_eq]
    generalize loopW (bd E0 (ev E0) loopW 0 [0, 1, 5] L11b0) = K at hih ⊢
    simpa -implicitDefEqProofs [bd, L11b0, hl2, hi, g1, g2, hw] using hih
theorem nints (l : List Nat) (hm : l.length ≤ 140737488355328) : ev E0 11 [.lst 1 (ns l), .lst 1 (ns l)] [] = some (bl true, []) := by
  rw [e11]
  unfold runF
  have h := nints_loop l hm l 0 rfl
  rw [c0] at h
  simp -implicitDefEqProofs [L11, ns_len, h]
theorem marksOf_n (ms : List ByteArray) (hm : ms.length ≤ 1000) (hz : ∀ m ∈ ms, m.size ≤ 1000) (ho : okTable ms = true) (k : Nat) (hk : k < ms.length) : ev E0 40 [.agg [.lst 1 (ms.map st)], i64 k] [] = some (.tup [st (mk_ ms k), bl true], []) := by
  have h1 := table_i ms (by omega) (fun x hx => by have := hz x hx; omega)
  have h2 := letter_i ms (by omega) k
  have h3 : okLetter ms k = true := by unfold okLetter; rw [Bool.and_eq_true, decide_eq_true_eq, decide_eq_true_eq]; omega
  rw [ho] at h1
  rw [h3] at h2
  have hx2 : (ms.map st)[k]? = some (st (mk_ ms k)) := by rw [List.getElem?_map, List.getElem?_eq_getElem hk, mk_at hk]; rfl
  have hki : (k : Int) < (ms.length : Int) := by omega
  have hm2 := mk_at hk
  rw [e40]
  unfold runF
  simp -implicitDefEqProofs [L40, h1, h2, hk, hki, hx2, hm2]
def fb (ms : List ByteArray) (w : List Nat) : ByteArray := ⟨(flat ms w).toArray⟩
theorem fb_size (ms : List ByteArray) (w : List Nat) : (fb ms w).size = (flat ms w).length := by simp [fb, ByteArray.size]
theorem flat_five {ms : List ByteArray} (hv : VT ms) : ∀ w : List Nat, (∀ i ∈ w, i < ms.length) → (flat ms w).length ≤ 5 * w.length
  | [], _ => Nat.le_refl _
  | i :: w, h => by
    have h1 := flat_five hv w (fun x hx => h x (List.mem_cons_of_mem _ hx))
    have hi := h i (List.mem_cons_self ..)
    have := hv.sz (mk_ ms i) (by rw [← mk_at hi]; exact List.getElem_mem hi)
    show (B (mk_ ms i) ++ flat ms w).length ≤ _
    rw [List.length_append, B_len, List.length_cons]
    omega
theorem ltx_at (w : List Nat) (i : Nat) (k : Nat) (h : w[i]? = some k) (hk : k ≤ 100) : (ltx w).data.toList.getD i 0 = UInt8.ofNat (97 + k) := by
  unfold ltx
  rw [List.getD_eq_getElem?_getD]
  simp [h]
theorem bareOf_loop (ms : List ByteArray) (hm : ms.length ≤ 1000) (hz : ∀ m ∈ ms, m.size ≤ 1000) (ho : okTable ms = true) (w : List Nat) (hw : ∀ i ∈ w, i < ms.length) (hl : w.length ≤ 1000) : ∀ (t : List Nat) (i : Nat), w.drop i = t →
    packX 0 [5] (loopW (bd E0 (ev E0) loopW 0 [1, 2, 5, 6] L15b0) ⟨[(1, st (ltx w)), (2, .ptr 0 0 0), (5, st (fb ms (w.take i))), (6, i64 i)], [some (tb ms)]⟩) = some (.ext 0, ⟨[(5, st (fb ms w))], []⟩) := by
  have hv := vt_of ho
  unfold tb
  intro t
  induction t with
  | nil =>
    intro i h
    have hi := not_drop h
    have hs := ltx_size w
    have e1 : w.take i = w := List.take_of_length_le (by omega)
    rw [e1, loopW_eq]
    generalize loopW (bd E0 (ev E0) loopW 0 [1, 2, 5, 6] L15b0) = K
    simp -implicitDefEqProofs [bd, L15b0, hs, hi]
  | cons k t ih =>
    intro i h
    obtain ⟨hi, hx, hd, hmem⟩ := at_drop h
    have hih := ih (i + 1) hd
    have hk := hw k hmem
    have hlen := hv.len
    have hs := ltx_size w
    have hb := ltx_at w i k (by rw [List.getElem?_eq_getElem hi, hx]) (by omega)
    have hm1 := marksOf_n ms hm hz ho k hk
    have hq : ((UInt8.ofNat (97 + k)).toNat : Int) = 97 + (k : Int) := by rw [UInt8.toNat_ofNat']; omega
    have w0 : IntKind.i64.wrap (97 + (k : Int)) = 97 + (k : Int) := wr64 (by omega) (by omega)
    have w1 : IntKind.i64.wrap (97 + (k : Int) - 97) = (k : Int) := by rw [wr64 (by omega) (by omega)]; omega
    have hw1 : IntKind.i64.wrap ((i : Int) + 1) = (i : Int) + 1 := wr64 (by omega) (by omega)
    have ht : w.take (i + 1) = w.take i ++ [k] := by rw [List.take_add_one, List.getElem?_eq_getElem hi, hx]; rfl
    have hcat : fb ms (w.take i) ++ mk_ ms k = fb ms (w.take i ++ [k]) := B_eq (by
      show B (fb ms (w.take i) ++ mk_ ms k) = flat ms (w.take i ++ [k])
      rw [flat_app]
      unfold B
      rw [ByteArray.data_append, Array.toList_append]
      show flat ms (w.take i) ++ (mk_ ms k).data.toList = flat ms (w.take i) ++ ((B (mk_ ms k)) ++ [])
      rw [List.append_nil]
      rfl)
    have hfl := flat_five hv (w.take i) (fun x hx => hw x (List.mem_of_mem_take hx))
    have hsz : (fb ms (w.take i)).size + (mk_ ms k).size ≤ 9223372036854775807 := by
      have := hv.sz (mk_ ms k) (by rw [← mk_at hk]; exact List.getElem_mem hk)
      rw [fb_size]
      rw [List.length_take] at hfl
      omega
    rw [ht, cs1] at hih
    rw [loopW_eq]
    generalize loopW (bd E0 (ev E0) loopW 0 [1, 2, 5, 6] L15b0) = K at hih ⊢
    generalize UInt8.ofNat (97 + k) = y at *
    simpa -implicitDefEqProofs [bd, L15b0, hs, hi, -List.getD_eq_getElem?_getD, hb, hq, w0, w1, hm1, hsz, hcat, hw1] using hih
theorem bareOf (ms : List ByteArray) (hm : ms.length ≤ 1000) (hz : ∀ m ∈ ms, m.size ≤ 1000) (ho : okTable ms = true) (w : List Nat) (hw : ∀ i ∈ w, i < ms.length) (hl : w.length ≤ 1000) : ev E0 15 [.agg [.lst 1 (ms.map st)], st (ltx w)] [] = some (st (fb ms w), []) := by
  have h := bareOf_loop ms hm hz ho w hw hl w 0 rfl
  rw [c0, List.take_zero, show fb ms [] = ⟨#[]⟩ from rfl] at h
  rw [e15]
  unfold runF
  simp only [tb] at h
  simp -implicitDefEqProofs [L15, h]
theorem ltx_take (w : List Nat) (i : Nat) : (ltx w).extract 0 i = ltx (w.take i) := B_eq (by
  rw [B_ext, List.drop_zero]
  unfold B ltx
  simp [List.map_take])
end Go.Proofs.YtkdfgjijmnaljaaDoor.Ev
