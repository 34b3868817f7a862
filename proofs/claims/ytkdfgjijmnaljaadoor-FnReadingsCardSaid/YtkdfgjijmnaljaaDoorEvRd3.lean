/- Borders of readings: valid tables and texts, what the program answers. -/
import Derived.Test.YtkdfgjijmnaljaaDoorEvRd2
set_option linter.unusedVariables false
set_option linter.unusedSimpArgs false
namespace Go.Proofs.YtkdfgjijmnaljaaDoor.Ev
theorem chk_vt : ∀ (t seen : List ByteArray), chk seen t = true → (∀ m ∈ t, 1 ≤ m.size ∧ m.size ≤ 5) ∧ (t.map B).Nodup ∧ ∀ m ∈ t, m ∉ seen
  | [], _, _ => ⟨fun _ h => by simp at h, List.nodup_nil, fun _ h => by simp at h⟩
  | m :: t, seen, h => by
    rw [chk, Bool.and_eq_true, Bool.and_eq_true] at h
    obtain ⟨h1, h2, h3⟩ := h
    obtain ⟨i1, i2, i3⟩ := chk_vt t (seen ++ [m]) h3
    have hm : m ∉ seen := by
      rcases place_nat m seen 0 with ⟨e, k⟩ | ⟨e, k⟩
      · exact k
      · rw [Bool.not_eq_true', decide_eq_false_iff_not] at h2
        exact absurd (by simpa using e) h2
    refine ⟨fun x hx => ?_, ?_, fun x hx => ?_⟩
    · rcases List.mem_cons.1 hx with rfl | hx
      · unfold okMarks at h1
        rw [Bool.and_eq_true, Bool.and_eq_true, decide_eq_true_eq, decide_eq_true_eq] at h1
        omega
      · exact i1 x hx
    · rw [List.map_cons, List.nodup_cons]
      refine ⟨fun hx => ?_, i2⟩
      obtain ⟨y, hy, e⟩ := List.mem_map.1 hx
      have hym : y = m := B_eq e
      rw [hym] at hy
      exact i3 m hy (by simp)
    · rcases List.mem_cons.1 hx with rfl | hx
      · exact hm
      · exact fun k => i3 x hx (List.mem_append_left _ k)
theorem vt_of {ms : List ByteArray} (h : okTable ms = true) : VT ms := by
  have hl := okTable_len h
  unfold okTable at h
  rw [Bool.and_eq_true] at h
  obtain ⟨i1, i2, _⟩ := chk_vt ms [] h.2
  refine ⟨by omega, i1, fun hx => ?_, i2⟩
  obtain ⟨y, hy, e⟩ := List.mem_map.1 hx
  have := i1 y hy
  have hz := B_len y
  rw [e] at hz
  simp at hz
  omega
/-- A table and a bare text, both valid. -/
def okRead (ms : List ByteArray) (s : ByteArray) : Bool := okTable ms && okMarks s 0 40
theorem read_size {ms : List ByteArray} {s : ByteArray} (h : okRead ms s = true) : VT ms ∧ s.size ≤ 40 := by
  unfold okRead at h
  rw [Bool.and_eq_true] at h
  refine ⟨vt_of h.1, ?_⟩
  have h2 := h.2
  unfold okMarks at h2
  rw [Bool.and_eq_true, Bool.and_eq_true, decide_eq_true_eq, decide_eq_true_eq] at h2
  omega
theorem bare_i (s : ByteArray) (hs : s.size ≤ 1000000) : ev E0 27 [st s] [] = some (bl (okMarks s 0 40), []) := by
  have h := marks_i s (by omega) 0 40
  rw [e27]
  unfold runF
  simp -implicitDefEqProofs [L27, h]
theorem bare_s (s : ByteArray) (hs : s.size ≤ 1000000) : ev E0 61 [st s] [] = some (bl (okMarks s 0 40), []) := by
  have h := marks_s s (by omega) 0 40
  rw [e61]
  unfold runF
  simp -implicitDefEqProofs [L61, h]
theorem isRead_i (ms : List ByteArray) (hm : ms.length ≤ 1000) (hz : ∀ m ∈ ms, m.size ≤ 1000) (s : ByteArray) (hs : s.size ≤ 1000000) : ev E0 35 [.agg [.lst 1 (ms.map st)], st s] [] = some (bl (okRead ms s), []) := by
  have h1 := table_i ms (by omega) (fun x hx => by have := hz x hx; omega)
  have h2 := bare_i s hs
  rw [e35]
  unfold runF okRead
  generalize okTable ms = b at *
  cases b <;> simp -implicitDefEqProofs [L35, h1, h2]
theorem good_s (ms : List ByteArray) (hm : ms.length ≤ 1000) (hz : ∀ m ∈ ms, m.size ≤ 1000) (s : ByteArray) (hs : s.size ≤ 1000000) : ev E0 32 [.agg [.lst 1 (ms.map st)], st s] [] = some (bl (okRead ms s), []) := by
  have h1 := table_s ms (by omega) (fun x hx => by have := hz x hx; omega)
  have h2 := bare_s s hs
  rw [e32]
  unfold runF okRead
  generalize okTable ms = b at *
  cases b <;> simp -implicitDefEqProofs [L32, h1, h2]
/-- The number of readings. -/
def rds (ms : List ByteArray) (s : ByteArray) : Nat := Rd.wy (ms.map B) (B s)
theorem vals_zero (ms : List ByteArray) (l : List UInt8) : (ns (Rd.vals (ms.map B) l))[0]? = some (i64 ((Rd.wy (ms.map B) l : Nat) : Int)) := by
  have h := Rd.vals_len (Ms := ms.map B) l
  unfold ns Rd.wy
  rw [List.getElem?_map, List.getElem?_eq_getElem (by omega), List.getD_eq_getElem?_getD, List.getElem?_eq_getElem (by omega)]
  rfl
theorem vals_k (ms : List ByteArray) (l : List UInt8) (k : Nat) (hk : k ≤ l.length) : (ns (Rd.vals (ms.map B) l))[k]? = some (i64 ((Rd.wy (ms.map B) (l.drop k) : Nat) : Int)) := by
  have h := Rd.vals_len (Ms := ms.map B) l
  rw [← Rd.vals_get k l hk]
  unfold ns
  rw [List.getElem?_map, List.getElem?_eq_getElem (by omega), List.getD_eq_getElem?_getD, List.getElem?_eq_getElem (by omega)]
  rfl
theorem count_i (ms : List ByteArray) (hm : ms.length ≤ 1000) (hz : ∀ m ∈ ms, m.size ≤ 1000) (s : ByteArray) (hs : s.size ≤ 1000000) : ev E0 12 [.agg [.lst 1 (ms.map st)], st s] [] = some (.tup [i64 ((if okRead ms s = true then rds ms s else 0 : Nat) : Int), bl (okRead ms s)], []) := by
  have h1 := isRead_i ms hm hz s hs
  rw [e12]
  unfold runF
  cases h : okRead ms s with
  | false => rw [h] at h1; simp -implicitDefEqProofs [L12, h1]
  | true =>
    rw [h] at h1
    obtain ⟨hv, hs2⟩ := read_size h
    have h2 := ways_i s hs2 ms hv
    have h3 := vals_zero ms (B s)
    have h4 : ∀ h, (ns (Rd.vals (ms.map B) (B s)))[0]'h = i64 ((Rd.wy (ms.map B) (B s) : Nat) : Int) := fun h => (List.getElem?_eq_some_iff.1 h3).2
    have hl := ns_len (Rd.vals (ms.map B) (B s))
    rw [Rd.vals_len, B_len] at hl
    unfold ib at h2
    unfold rds
    generalize ns (Rd.vals (ms.map B) (B s)) = V at *
    simp -implicitDefEqProofs [L12, h1, h2, h3, h4, hl]
/-- Of how many readings a place is a border. -/
def nb (ms : List ByteArray) (s : ByteArray) (k : Nat) : Nat := Rd.wy (ms.map B) ((B s).take k) * Rd.wy (ms.map B) ((B s).drop k)
theorem nb_le {ms : List ByteArray} (hv : VT ms) (s : ByteArray) (k : Nat) : nb ms s k ≤ rds ms s := by
  have h := Rd.wy_mul hv.ne ((B s).drop k) _ ((B s).take k) (Nat.le_refl _)
  rw [List.take_append_drop] at h
  exact h
def bord (ms : List ByteArray) (s : ByteArray) (all : Bool) (k : Nat) : Bool := decide (0 < nb ms s k) && (!all || decide (nb ms s k = rds ms s))
def bo (ms : List ByteArray) (s : ByteArray) (all : Bool) (k : Nat) : List Nat := (List.range k).filter (bord ms s all)
theorem bo_succ (ms : List ByteArray) (s : ByteArray) (all : Bool) (k : Nat) : bo ms s all (k + 1) = bo ms s all k ++ if bord ms s all k = true then [k] else [] := by
  unfold bo
  rw [List.range_succ, List.filter_append]
  congr 1
  by_cases h : bord ms s all k = true
  · rw [if_pos h, List.filter_cons_of_pos h]; rfl
  · rw [if_neg h, List.filter_cons_of_neg (by simpa using h)]; rfl
theorem bo_len (ms : List ByteArray) (s : ByteArray) (all : Bool) (k : Nat) : (bo ms s all k).length ≤ k := by
  unfold bo
  have := List.length_filter_le (bord ms s all) (List.range k)
  rwa [List.length_range] at this
theorem ns_app (a b : List Nat) : ns (a ++ b) = ns a ++ ns b := List.map_append
theorem so_A (a b : Int) : ev E0 31 [i64 a, i64 b] [] = some (bl true, []) := by
  rw [e31]
  unfold runF
  simp -implicitDefEqProofs [L31]
set_option maxHeartbeats 3200000 in
theorem bordA_loop (s : ByteArray) (hs : s.size ≤ 40) (ms : List ByteArray) (hv : VT ms) : ∀ (d k : Nat), k + d = s.size + 1 →
    packX 0 [9] (loopW (bd E0 (ev E0) loopW 0 [1, 2, 3, 8, 9, 23, 24] L30b0) ⟨[(1, st s), (2, .fn (.func 31) [] []), (3, .ptr 0 0 0), (8, .sl 1 0 (s.size + 1)), (9, .sl 2 0 (bo ms s false k).length), (23, i64 ((s.size + 1 : Nat) : Int)), (24, i64 k)], [some (tb ms), some (ib (Rd.vals (ms.map B) (B s))), some (ib (bo ms s false k))]⟩) =
      some (.ext 0, ⟨[(9, .sl 0 0 (bo ms s false (s.size + 1)).length)], [some (ib (bo ms s false (s.size + 1)))]⟩) := by
  unfold tb ib
  intro d
  induction d with
  | zero =>
    intro k hk
    obtain rfl : k = s.size + 1 := by omega
    have hi : ¬ ((s.size + 1 : Nat) : Int) < ((s.size + 1 : Nat) : Int) := by omega
    rw [loopW_eq]
    generalize loopW (bd E0 (ev E0) loopW 0 [1, 2, 3, 8, 9, 23, 24] L30b0) = K
    simp -implicitDefEqProofs [bd, L30b0, hi, -Int.natCast_add]
  | succ d ih =>
    intro k hk
    have hih := ih (k + 1) (by omega)
    have hks : k ≤ s.size := by omega
    have wz : IntKind.i64.wrap 0 = 0 := by decide
    have hi : (k : Int) < ((s.size + 1 : Nat) : Int) := by omega
    have hi2 : (k : Int) ≤ (s.size : Int) := by omega
    have hw : IntKind.i64.wrap ((k : Int) + 1) = ((k + 1 : Nat) : Int) := by rw [wr64 (by omega) (by omega)]; omega
    have hsz : (s.extract 0 k).size = k := by rw [ByteArray.size_extract]; omega
    have hBk : B (s.extract 0 k) = (B s).take k := by rw [B_ext, List.drop_zero]
    have hway := ways_i (s.extract 0 k) (by omega) ms hv
    rw [hBk, hsz] at hway
    unfold ib at hway
    have z1 := vals_zero ms ((B s).take k)
    have z2 := vals_k ms (B s) k (by rw [B_len]; exact hks)
    have z3 := vals_zero ms (B s)
    have l1 := ns_len (Rd.vals (ms.map B) ((B s).take k))
    rw [Rd.vals_len, List.length_take, B_len, Nat.min_eq_left hks] at l1
    have l2 := ns_len (Rd.vals (ms.map B) (B s))
    rw [Rd.vals_len, B_len] at l2
    have l3 := ns_len (bo ms s false k)
    have l4 := bo_len ms s false k
    have z4 : ∀ h, (ns (Rd.vals (ms.map B) ((B s).take k)))[0]'h = _ := fun h => (List.getElem?_eq_some_iff.1 z1).2
    have z5 : ∀ h, (ns (Rd.vals (ms.map B) (B s)))[k]'h = _ := fun h => (List.getElem?_eq_some_iff.1 z2).2
    have z6 : ∀ h, (ns (Rd.vals (ms.map B) (B s)))[0]'h = _ := fun h => (List.getElem?_eq_some_iff.1 z3).2
    have hnb := nb_le hv s k
    have hbd := wy_bound hv (B s) (by rw [B_len]; exact hs)
    have hA := wy_bound hv ((B s).take k) (by rw [List.length_take, B_len]; omega)
    have hbs := bo_succ ms s false k
    have hbk : bord ms s false k = (decide (0 < nb ms s k) && true) := by unfold bord; simp
    unfold nb rds at hnb
    unfold nb at hbk
    rw [hbk] at hbs
    clear hbk
    have hso := so_A
    rw [loopW_eq]
    generalize loopW (bd E0 (ev E0) loopW 0 [1, 2, 3, 8, 9, 23, 24] L30b0) = K at hih ⊢
    generalize Rd.wy (ms.map B) ((B s).take k) = a at *
    generalize Rd.wy (ms.map B) ((B s).drop k) = b at *
    generalize Rd.wy (ms.map B) (B s) = c at *
    generalize ns (Rd.vals (ms.map B) ((B s).take k)) = V1 at *
    generalize ns (Rd.vals (ms.map B) (B s)) = V2 at *
    have q1 : k < s.size + 1 := by omega
    have q0 : (0 : Int) < ((s.size + 1 : Nat) : Int) := by omega
    have q2 : (0 : Int) < ((k + 1 : Nat) : Int) := by omega
    by_cases hb0 : b = 0
    · subst hb0
      rw [Nat.mul_zero] at hbs
      have hbs2 : bo ms s false (k + 1) = bo ms s false k := by rw [hbs]; simp
      rw [hbs2] at hih
      have m1 : ¬ (1 : Int) < ((0 : Nat) : Int) := by omega
      simpa -implicitDefEqProofs [bd, L30b0, foldI, asI, wz, hi, hi2, hks, hw, hway, z1, z2, z3, z4, z5, z6, l1, l2, q0, q1, q2, -Int.natCast_add] using hih
    · have m0 : 1 ≤ b := by omega
      have m1 : ((1 : Int) < (b : Int)) ∨ b = 1 := by omega
      have hmin : (if (1 : Int) < (b : Int) then (1 : Int) else (b : Int)) = 1 := by split <;> omega
      by_cases ha0 : a = 0
      · subst ha0
        rw [Nat.zero_mul] at hbs
        have hbs2 : bo ms s false (k + 1) = bo ms s false k := by rw [hbs]; simp
        rw [hbs2] at hih
        simpa -implicitDefEqProofs [bd, L30b0, foldI, asI, wz, hi, hi2, hks, hw, hway, z1, z2, z3, z4, z5, z6, l1, l2, q0, q1, q2, hmin, -Int.natCast_add] using hih
      · have hab : 0 < a * b := Nat.mul_pos (by omega) m0
        have ha1 : (0 : Int) < (a : Int) := by omega
        have hc1 : (0 : Int) < (c : Int) := by omega
        have w1 : IntKind.i64.wrap (a : Int) = (a : Int) := wr64 (by omega) (by omega)
        have w2 : IntKind.i64.wrap ((a : Int) * (b : Int)) = ((a * b : Nat) : Int) := by rw [← Int.natCast_mul]; exact wr64 (by omega) (by omega)
        have ha2 : 0 < a := by omega
        have hc2 : 0 < c := by omega
        generalize a * b = ab at *
        have hns : ∀ x, ns [x] = [i64 (x : Int)] := fun x => rfl
        have hbs2 : bo ms s false (k + 1) = bo ms s false k ++ [k] := by rw [hbs]; simp [hab]
        rw [hbs2, ns_app, hns, List.length_append] at hih
        simp only [List.length_cons, List.length_nil, Nat.zero_add] at hih
        have l5 : (bo ms s false k).length + 1 ≤ 140737488355328 := by omega
        have l6 : ((bo ms s false k).length + 1) * 8 ≤ 140737488355328 := by omega
        have l7 : List.take (bo ms s false k).length (ns (bo ms s false k)) = ns (bo ms s false k) := List.take_of_length_le (by rw [l3]; exact Nat.le_refl _)
        simpa -implicitDefEqProofs [bd, L30b0, foldI, asI, wz, hi, hi2, hks, hw, hway, z1, z2, z3, z4, z5, z6, l1, l2, l3, l5, l6, l7, q0, q1, q2, hmin, ha0, ha1, ha2, hc1, hc2, w1, w2, hso, -Int.natCast_add] using hih
theorem bordersOfA (ms : List ByteArray) (hm : ms.length ≤ 1000) (hz : ∀ m ∈ ms, m.size ≤ 1000) (s : ByteArray) (hs : s.size ≤ 1000000) : ev E0 30 [.agg [.lst 1 (ms.map st)], st s, .fn (.func 31) [] []] [] =
    if okRead ms s = true then some (.tup [.sl 0 0 (bo ms s false (s.size + 1)).length, bl true], [some (ib (bo ms s false (s.size + 1)))]) else some (.tup [.v (.slice none 0 0), bl false], []) := by
  have h1 := isRead_i ms hm hz s hs
  cases h : okRead ms s with
  | false =>
    rw [h] at h1
    rw [e30]
    unfold runF
    simp -implicitDefEqProofs [L30, h1]
  | true =>
    rw [h] at h1
    obtain ⟨hv, hs2⟩ := read_size h
    have h2 := ways_i s hs2 ms hv
    have h3 := bordA_loop s hs2 ms hv (s.size + 1) 0 (by omega)
    have hw : IntKind.i64.wrap ((s.size : Int) + 1) = ((s.size + 1 : Nat) : Int) := by rw [wr64 (by omega) (by omega)]; omega
    rw [show bo ms s false 0 = [] from rfl, c0] at h3
    rw [if_pos rfl, e30]
    unfold runF
    simp only [ib, tb, ns, List.map_nil, List.length_nil] at h2 h3 ⊢
    simp -implicitDefEqProofs [L30, h1, h2, h3, hw, -Int.natCast_add]
theorem so_B (a b : Int) : ev E0 34 [i64 a, i64 b] [] = some (bl (decide (a = b)), []) := by
  rw [e34]
  unfold runF
  simp -implicitDefEqProofs [L34]
set_option maxHeartbeats 3200000 in
theorem bordB_loop (s : ByteArray) (hs : s.size ≤ 40) (ms : List ByteArray) (hv : VT ms) : ∀ (d k : Nat), k + d = s.size + 1 →
    packX 0 [9] (loopW (bd E0 (ev E0) loopW 0 [1, 2, 3, 8, 9, 23, 24] L30b0) ⟨[(1, st s), (2, .fn (.func 34) [] []), (3, .ptr 0 0 0), (8, .sl 1 0 (s.size + 1)), (9, .sl 2 0 (bo ms s true k).length), (23, i64 ((s.size + 1 : Nat) : Int)), (24, i64 k)], [some (tb ms), some (ib (Rd.vals (ms.map B) (B s))), some (ib (bo ms s true k))]⟩) =
      some (.ext 0, ⟨[(9, .sl 0 0 (bo ms s true (s.size + 1)).length)], [some (ib (bo ms s true (s.size + 1)))]⟩) := by
  unfold tb ib
  intro d
  induction d with
  | zero =>
    intro k hk
    obtain rfl : k = s.size + 1 := by omega
    have hi : ¬ ((s.size + 1 : Nat) : Int) < ((s.size + 1 : Nat) : Int) := by omega
    rw [loopW_eq]
    generalize loopW (bd E0 (ev E0) loopW 0 [1, 2, 3, 8, 9, 23, 24] L30b0) = K
    simp -implicitDefEqProofs [bd, L30b0, hi, -Int.natCast_add]
  | succ d ih =>
    intro k hk
    have hih := ih (k + 1) (by omega)
    have hks : k ≤ s.size := by omega
    have wz : IntKind.i64.wrap 0 = 0 := by decide
    have hi : (k : Int) < ((s.size + 1 : Nat) : Int) := by omega
    have hi2 : (k : Int) ≤ (s.size : Int) := by omega
    have hw : IntKind.i64.wrap ((k : Int) + 1) = ((k + 1 : Nat) : Int) := by rw [wr64 (by omega) (by omega)]; omega
    have hsz : (s.extract 0 k).size = k := by rw [ByteArray.size_extract]; omega
    have hBk : B (s.extract 0 k) = (B s).take k := by rw [B_ext, List.drop_zero]
    have hway := ways_i (s.extract 0 k) (by omega) ms hv
    rw [hBk, hsz] at hway
    unfold ib at hway
    have z1 := vals_zero ms ((B s).take k)
    have z2 := vals_k ms (B s) k (by rw [B_len]; exact hks)
    have z3 := vals_zero ms (B s)
    have l1 := ns_len (Rd.vals (ms.map B) ((B s).take k))
    rw [Rd.vals_len, List.length_take, B_len, Nat.min_eq_left hks] at l1
    have l2 := ns_len (Rd.vals (ms.map B) (B s))
    rw [Rd.vals_len, B_len] at l2
    have l3 := ns_len (bo ms s true k)
    have l4 := bo_len ms s true k
    have z4 : ∀ h, (ns (Rd.vals (ms.map B) ((B s).take k)))[0]'h = _ := fun h => (List.getElem?_eq_some_iff.1 z1).2
    have z5 : ∀ h, (ns (Rd.vals (ms.map B) (B s)))[k]'h = _ := fun h => (List.getElem?_eq_some_iff.1 z2).2
    have z6 : ∀ h, (ns (Rd.vals (ms.map B) (B s)))[0]'h = _ := fun h => (List.getElem?_eq_some_iff.1 z3).2
    have hnb := nb_le hv s k
    have hbd := wy_bound hv (B s) (by rw [B_len]; exact hs)
    have hA := wy_bound hv ((B s).take k) (by rw [List.length_take, B_len]; omega)
    have hbs := bo_succ ms s true k
    have hbk : bord ms s true k = (decide (0 < nb ms s k) && decide (nb ms s k = rds ms s)) := by unfold bord; simp
    unfold nb rds at hnb
    unfold nb rds at hbk
    rw [hbk] at hbs
    clear hbk
    have hso := so_B
    rw [loopW_eq]
    generalize loopW (bd E0 (ev E0) loopW 0 [1, 2, 3, 8, 9, 23, 24] L30b0) = K at hih ⊢
    generalize Rd.wy (ms.map B) ((B s).take k) = a at *
    generalize Rd.wy (ms.map B) ((B s).drop k) = b at *
    generalize Rd.wy (ms.map B) (B s) = c at *
    generalize ns (Rd.vals (ms.map B) ((B s).take k)) = V1 at *
    generalize ns (Rd.vals (ms.map B) (B s)) = V2 at *
    have q1 : k < s.size + 1 := by omega
    have q0 : (0 : Int) < ((s.size + 1 : Nat) : Int) := by omega
    have q2 : (0 : Int) < ((k + 1 : Nat) : Int) := by omega
    by_cases hb0 : b = 0
    · subst hb0
      rw [Nat.mul_zero] at hbs
      have hbs2 : bo ms s true (k + 1) = bo ms s true k := by rw [hbs]; simp
      rw [hbs2] at hih
      have m1 : ¬ (1 : Int) < ((0 : Nat) : Int) := by omega
      simpa -implicitDefEqProofs [bd, L30b0, foldI, asI, wz, hi, hi2, hks, hw, hway, z1, z2, z3, z4, z5, z6, l1, l2, q0, q1, q2, -Int.natCast_add] using hih
    · have m0 : 1 ≤ b := by omega
      have m1 : ((1 : Int) < (b : Int)) ∨ b = 1 := by omega
      have hmin : (if (1 : Int) < (b : Int) then (1 : Int) else (b : Int)) = 1 := by split <;> omega
      by_cases ha0 : a = 0
      · subst ha0
        rw [Nat.zero_mul] at hbs
        have hbs2 : bo ms s true (k + 1) = bo ms s true k := by rw [hbs]; simp
        rw [hbs2] at hih
        simpa -implicitDefEqProofs [bd, L30b0, foldI, asI, wz, hi, hi2, hks, hw, hway, z1, z2, z3, z4, z5, z6, l1, l2, q0, q1, q2, hmin, -Int.natCast_add] using hih
      · have hab : 0 < a * b := Nat.mul_pos (by omega) m0
        have ha1 : (0 : Int) < (a : Int) := by omega
        have hc1 : (0 : Int) < (c : Int) := by omega
        have w1 : IntKind.i64.wrap (a : Int) = (a : Int) := wr64 (by omega) (by omega)
        have w2 : IntKind.i64.wrap ((a : Int) * (b : Int)) = ((a * b : Nat) : Int) := by rw [← Int.natCast_mul]; exact wr64 (by omega) (by omega)
        have ha2 : 0 < a := by omega
        have hc2 : 0 < c := by omega
        generalize a * b = ab at *
        have hns : ∀ x, ns [x] = [i64 (x : Int)] := fun x => rfl
        by_cases he : ab = c
        · have hei : (ab : Int) = (c : Int) := by omega
          have hd : decide ((ab : Int) = (c : Int)) = true := decide_eq_true hei
          have hso2 := hso (ab : Int) (c : Int)
          rw [hd] at hso2
          have hbs2 : bo ms s true (k + 1) = bo ms s true k ++ [k] := by rw [hbs]; simp [hab, he]; omega
          rw [hbs2, ns_app, hns, List.length_append] at hih
          simp only [List.length_cons, List.length_nil, Nat.zero_add] at hih
          have l5 : (bo ms s true k).length + 1 ≤ 140737488355328 := by omega
          have l6 : ((bo ms s true k).length + 1) * 8 ≤ 140737488355328 := by omega
          have l7 : List.take (bo ms s true k).length (ns (bo ms s true k)) = ns (bo ms s true k) := List.take_of_length_le (by rw [l3]; exact Nat.le_refl _)
          simpa -implicitDefEqProofs [bd, L30b0, foldI, asI, wz, hi, hi2, hks, hw, hway, z1, z2, z3, z4, z5, z6, l1, l2, l3, l5, l6, l7, q0, q1, q2, hmin, ha0, ha1, ha2, hc1, hc2, w1, w2, hso2, -Int.natCast_add] using hih
        · have hei : ¬ (ab : Int) = (c : Int) := by omega
          have hd : decide ((ab : Int) = (c : Int)) = false := decide_eq_false hei
          have hso2 := hso (ab : Int) (c : Int)
          rw [hd] at hso2
          have hbs2 : bo ms s true (k + 1) = bo ms s true k := by rw [hbs]; simp [he]
          rw [hbs2] at hih
          simpa -implicitDefEqProofs [bd, L30b0, foldI, asI, wz, hi, hi2, hks, hw, hway, z1, z2, z3, z4, z5, z6, l1, l2, l3, q0, q1, q2, hmin, ha0, ha1, ha2, hc1, hc2, w1, w2, hso2, -Int.natCast_add] using hih
theorem bordersOfB (ms : List ByteArray) (hm : ms.length ≤ 1000) (hz : ∀ m ∈ ms, m.size ≤ 1000) (s : ByteArray) (hs : s.size ≤ 1000000) : ev E0 30 [.agg [.lst 1 (ms.map st)], st s, .fn (.func 34) [] []] [] =
    if okRead ms s = true then some (.tup [.sl 0 0 (bo ms s true (s.size + 1)).length, bl true], [some (ib (bo ms s true (s.size + 1)))]) else some (.tup [.v (.slice none 0 0), bl false], []) := by
  have h1 := isRead_i ms hm hz s hs
  cases h : okRead ms s with
  | false =>
    rw [h] at h1
    rw [e30]
    unfold runF
    simp -implicitDefEqProofs [L30, h1]
  | true =>
    rw [h] at h1
    obtain ⟨hv, hs2⟩ := read_size h
    have h2 := ways_i s hs2 ms hv
    have h3 := bordB_loop s hs2 ms hv (s.size + 1) 0 (by omega)
    have hw : IntKind.i64.wrap ((s.size : Int) + 1) = ((s.size + 1 : Nat) : Int) := by rw [wr64 (by omega) (by omega)]; omega
    rw [show bo ms s true 0 = [] from rfl, c0] at h3
    rw [if_pos rfl, e30]
    unfold runF
    simp only [ib, tb, ns, List.map_nil, List.length_nil] at h2 h3 ⊢
    simp -implicitDefEqProofs [L30, h1, h2, h3, hw, -Int.natCast_add]
end Go.Proofs.YtkdfgjijmnaljaaDoor.Ev
