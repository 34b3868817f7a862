/- Borders of readings, both; the reading of a rank; the text of letters. -/
import Derived.Test.YtkdfgjijmnaljaaDoorEvRd4
set_option linter.unusedVariables false
set_option linter.unusedSimpArgs false
namespace Go.Proofs.YtkdfgjijmnaljaaDoor.Ev
set_option maxHeartbeats 1600000 in
theorem places_loop (s : ByteArray) (hs : s.size ≤ 40) (ms : List ByteArray) (hv : VT ms) (all : Bool) : ∀ (d k : Nat), k + d = s.size + 1 →
    packX 0 [7] (loopW (bd E0 (ev E0) loopW 0 [2, 7, 8, 9, 10] L33b0) ⟨[(2, bl all), (7, .sl 0 0 (bo ms s all k).length), (8, .sl 1 0 (s.size + 1)), (9, i64 ((rds ms s : Nat) : Int)), (10, i64 k)], [some (ib (bo ms s all k)), some (ib (tab s.size (nb ms s)))]⟩) =
      some (.ext 0, ⟨[(7, .sl 0 0 (bo ms s all (s.size + 1)).length)], [some (ib (bo ms s all (s.size + 1)))]⟩) := by
  unfold ib
  intro d
  induction d with
  | zero =>
    intro k hk
    obtain rfl : k = s.size + 1 := by omega
    have hl := ns_len (tab s.size (nb ms s))
    rw [tab_len] at hl
    rw [loopW_eq]
    generalize loopW (bd E0 (ev E0) loopW 0 [2, 7, 8, 9, 10] L33b0) = K
    simp -implicitDefEqProofs [bd, L33b0, hl]
  | succ d ih =>
    intro k hk
    have hih := ih (k + 1) (by omega)
    rw [cs1] at hih
    have hks : k < s.size + 1 := by omega
    have hi : (k : Int) < (s.size : Int) + 1 := by omega
    have hw : IntKind.i64.wrap ((k : Int) + 1) = (k : Int) + 1 := wr64 (by omega) (by omega)
    have hl := ns_len (tab s.size (nb ms s))
    rw [tab_len] at hl
    have z1 := tab_at s.size (nb ms s) k (by omega)
    have z2 : ∀ h, (ns (tab s.size (nb ms s)))[k]'h = i64 ((nb ms s k : Nat) : Int) := fun h => (List.getElem?_eq_some_iff.1 z1).2
    have hnb := nb_le hv s k
    have hbs := bo_succ ms s all k
    have l3 := ns_len (bo ms s all k)
    have l4 := bo_len ms s all k
    have l5 : (bo ms s all k).length + 1 ≤ 140737488355328 := by omega
    have l6 : ((bo ms s all k).length + 1) * 8 ≤ 140737488355328 := by omega
    have l7 : List.take (bo ms s all k).length (ns (bo ms s all k)) = ns (bo ms s all k) := List.take_of_length_le (by rw [l3]; exact Nat.le_refl _)
    have hns : ∀ x, ns [x] = [i64 (x : Int)] := fun x => rfl
    unfold bord at hbs
    rw [loopW_eq]
    generalize loopW (bd E0 (ev E0) loopW 0 [2, 7, 8, 9, 10] L33b0) = K at hih ⊢
    generalize nb ms s k = a at *
    generalize rds ms s = c at *
    by_cases ha : a = 0
    · subst ha
      have hbs2 : bo ms s all (k + 1) = bo ms s all k := by rw [hbs]; simp
      rw [hbs2] at hih
      by_cases hc : c = 0
      · subst hc
        simpa -implicitDefEqProofs [bd, L33b0, hi, hks, hw, hl, z1, z2] using hih
      · have hc1 : 0 < c := by omega
        have hc2 : (0 : Int) < (c : Int) := by omega
        simpa -implicitDefEqProofs [bd, L33b0, hi, hks, hw, hl, z1, z2, hc1, hc2] using hih
    · have ha1 : 0 < a := by omega
      have ha2 : (0 : Int) < (a : Int) := by omega
      have hc1 : 0 < c := by omega
      have hc2 : (0 : Int) < (c : Int) := by omega
      cases all with
      | false =>
        have hbs2 : bo ms s false (k + 1) = bo ms s false k ++ [k] := by rw [hbs]; simp [ha1]
        rw [hbs2, ns_app, hns, List.length_append] at hih
        simp only [List.length_cons, List.length_nil, Nat.zero_add] at hih
        simpa -implicitDefEqProofs [bd, L33b0, hi, hks, hw, hl, z1, z2, hc1, hc2, ha1, ha2, l3, l5, l6, l7] using hih
      | true =>
        by_cases he : a = c
        · have hbs2 : bo ms s true (k + 1) = bo ms s true k ++ [k] := by rw [hbs]; simp [ha1, he]; omega
          rw [hbs2, ns_app, hns, List.length_append] at hih
          simp only [List.length_cons, List.length_nil, Nat.zero_add] at hih
          subst he
          simpa -implicitDefEqProofs [bd, L33b0, hi, hks, hw, hl, z1, z2, hc1, hc2, l3, l5, l6, l7] using hih
        · have hei : ¬ (a : Int) = (c : Int) := by omega
          have hbs2 : bo ms s true (k + 1) = bo ms s true k := by rw [hbs]; simp [he]
          rw [hbs2] at hih
          simpa -implicitDefEqProofs [bd, L33b0, hi, hks, hw, hl, z1, z2, hc1, hc2, ha1, ha2, he, hei] using hih
theorem places_s (s : ByteArray) (hs : s.size ≤ 40) (ms : List ByteArray) (hv : VT ms) (all : Bool) : ev E0 33 [.agg [.lst 1 (ms.map st)], st s, bl all] [] = some (.sl 0 0 (bo ms s all (s.size + 1)).length, [some (ib (bo ms s all (s.size + 1)))]) := by
  have h1 := borders_s s hs ms hv
  have h2 := places_loop s hs ms hv all (s.size + 1) 0 (by omega)
  rw [show bo ms s all 0 = [] from rfl, c0] at h2
  rw [e33]
  unfold runF
  simp only [ib, ns, List.map_nil, List.length_nil] at h1 h2 ⊢
  simp -implicitDefEqProofs [L33, h1, h2]
/-- What both give back for borders: of all readings, or of some. -/
def isBo (f : Nat) (ms : List ByteArray) (s : ByteArray) (all : Bool) : Prop := if okRead ms s = true then ev E0 f [.agg [.lst 1 (ms.map st)], st s] [] = some (.tup [.sl 0 0 (bo ms s all (s.size + 1)).length, bl true], [some (ib (bo ms s all (s.size + 1)))]) else
    ev E0 f [.agg [.lst 1 (ms.map st)], st s] [] = some (.tup [.v (.slice none 0 0), bl false], []) ∨ ev E0 f [.agg [.lst 1 (ms.map st)], st s] [] = some (.tup [.sl 0 0 0, bl false], [some (ib [])])
theorem bordersOf_i (ms : List ByteArray) (hm : ms.length ≤ 1000) (hz : ∀ m ∈ ms, m.size ≤ 1000) (s : ByteArray) (hs : s.size ≤ 1000000) : isBo 7 ms s false := by
  have h1 := bordersOfA ms hm hz s hs
  unfold isBo
  by_cases h : okRead ms s = true
  · rw [if_pos h] at h1 ⊢
    rw [e7]
    unfold runF
    simp only [ib] at h1 ⊢
    simp -implicitDefEqProofs [L7, h1]
  · rw [if_neg h] at h1 ⊢
    left
    rw [e7]
    unfold runF
    simp -implicitDefEqProofs [L7, h1]
theorem certain_i (ms : List ByteArray) (hm : ms.length ≤ 1000) (hz : ∀ m ∈ ms, m.size ≤ 1000) (s : ByteArray) (hs : s.size ≤ 1000000) : isBo 9 ms s true := by
  have h1 := bordersOfB ms hm hz s hs
  unfold isBo
  by_cases h : okRead ms s = true
  · rw [if_pos h] at h1 ⊢
    rw [e9]
    unfold runF
    simp only [ib] at h1 ⊢
    simp -implicitDefEqProofs [L9, h1]
  · rw [if_neg h] at h1 ⊢
    left
    rw [e9]
    unfold runF
    simp -implicitDefEqProofs [L9, h1]
theorem bordersOf_s (ms : List ByteArray) (hm : ms.length ≤ 1000) (hz : ∀ m ∈ ms, m.size ≤ 1000) (s : ByteArray) (hs : s.size ≤ 1000000) : isBo 8 ms s false := by
  have h1 := good_s ms hm hz s hs
  unfold isBo
  by_cases h : okRead ms s = true
  · obtain ⟨hv, hs2⟩ := read_size h
    have h2 := places_s s hs2 ms hv false
    rw [h] at h1
    rw [if_pos h]
    rw [e8]
    unfold runF
    simp only [ib] at h2 ⊢
    simp -implicitDefEqProofs [L8, h1, h2]
  · have h' : okRead ms s = false := by simpa using h
    rw [h'] at h1
    rw [if_neg h]
    right
    rw [e8]
    unfold runF
    simp only [ib, ns, List.map_nil]
    simp -implicitDefEqProofs [L8, h1]
theorem certain_s (ms : List ByteArray) (hm : ms.length ≤ 1000) (hz : ∀ m ∈ ms, m.size ≤ 1000) (s : ByteArray) (hs : s.size ≤ 1000000) : isBo 10 ms s true := by
  have h1 := good_s ms hm hz s hs
  unfold isBo
  by_cases h : okRead ms s = true
  · obtain ⟨hv, hs2⟩ := read_size h
    have h2 := places_s s hs2 ms hv true
    rw [h] at h1
    rw [if_pos h]
    rw [e10]
    unfold runF
    simp only [ib] at h2 ⊢
    simp -implicitDefEqProofs [L10, h1, h2]
  · have h' : okRead ms s = false := by simpa using h
    rw [h'] at h1
    rw [if_neg h]
    right
    rw [e10]
    unfold runF
    simp only [ib, ns, List.map_nil]
    simp -implicitDefEqProofs [L10, h1]
/-- A letter as a text, letters as a text. -/
def lt1 (k : Nat) : ByteArray := ⟨#[UInt8.ofNat (97 + k)]⟩
def ltx (w : List Nat) : ByteArray := ⟨(w.map fun k => UInt8.ofNat (97 + k)).toArray⟩
theorem ltx_size (w : List Nat) : (ltx w).size = w.length := by simp [ltx, ByteArray.size]
theorem ltx_snoc (w : List Nat) (k : Nat) : ltx w ++ lt1 k = ltx (w ++ [k]) := by
  refine B_eq ?_
  unfold B ltx lt1
  simp
theorem letterText_i (k : Nat) (hk : k ≤ 100) : ev E0 39 [i64 k] [] = some (st (lt1 k), []) := by
  have w1 : IntKind.i64.wrap (97 + (k : Int)) = ((97 + k : Nat) : Int) := by rw [wr64 (by omega) (by omega)]; omega
  have w2 : IntKind.u8.wrap ((97 + k : Nat) : Int) = ((97 + k : Nat) : Int) := by
    unfold IntKind.wrap
    simp [IntKind.bits, IntKind.signed]
    omega
  rw [e39]
  unfold runF lt1
  simp -implicitDefEqProofs [L39, w1, w2, b2sR, b2sL, bytesOf, -Int.natCast_add]
end Go.Proofs.YtkdfgjijmnaljaaDoor.Ev
