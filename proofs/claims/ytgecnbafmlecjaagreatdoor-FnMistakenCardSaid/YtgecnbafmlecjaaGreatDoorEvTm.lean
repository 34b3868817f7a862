/- Texts and tables told plainly. -/
import Derived.Test.YtgecnbafmlecjaaGreatDoorEvTab
set_option linter.unusedVariables false
set_option linter.unusedSimpArgs false
namespace Go.Proofs.YtgecnbafmlecjaaGreatDoor.Ev
theorem B_eq {a b : ByteArray} (h : B a = B b) : a = b := by
  obtain ⟨⟨x⟩⟩ := a
  obtain ⟨⟨y⟩⟩ := b
  simp only [B] at h
  rw [h]
theorem B_ext (s : ByteArray) (i j : Nat) : B (s.extract i j) = ((B s).take j).drop i := by
  unfold B
  rw [ByteArray.data_extract, Array.toList_extract, List.extract_eq_take_drop, List.drop_take]
/-- Numbers in a row. -/
def ns (l : List Nat) : List AV := l.map fun x : Nat => i64 (x : Int)
def ib (l : List Nat) : Blk := ⟨3, 1, 1, false, ns l⟩
def tb (ms : List ByteArray) : Blk := ⟨26, 1, 0, false, [.agg [.lst 1 (ms.map st)]]⟩
theorem ns_len (l : List Nat) : (ns l).length = l.length := by simp [ns]
/-- A table whose marks serve. -/
structure VT (ms : List ByteArray) : Prop where
  len : ms.length ≤ 10
  sz : ∀ m ∈ ms, 1 ≤ m.size ∧ m.size ≤ 5
  ne : [] ∉ ms.map B
  nd : (ms.map B).Nodup
theorem chk_vt : ∀ (t seen : List ByteArray), chk seen t = true → (∀ m ∈ t, 1 ≤ m.size ∧ m.size ≤ 5) ∧ (t.map B).Nodup ∧ ∀ m ∈ t, m ∉ seen
  | [], _, _ => ⟨fun _ h => by simp at h, List.nodup_nil, fun _ h => by simp at h⟩
  | m :: t, seen, h => by
    rw [chk, Bool.and_eq_true, Bool.and_eq_true] at h
    obtain ⟨h1, h2, h3⟩ := h
    obtain ⟨i1, i2, i3⟩ := chk_vt t (seen ++ [m]) h3
    have hm : m ∉ seen := by
      rcases place_nat m seen 0 with ⟨e, k⟩ | ⟨e, k⟩
      · exact k
      · rw [Bool.not_eq_true', decide_eq_false_iff_not] at h2
        exact absurd (by simpa using e) h2
    refine ⟨fun x hx => ?_, ?_, fun x hx => ?_⟩
    · rcases List.mem_cons.1 hx with rfl | hx
      · unfold okMarks at h1
        rw [Bool.and_eq_true, Bool.and_eq_true, decide_eq_true_eq, decide_eq_true_eq] at h1
        omega
      · exact i1 x hx
    · rw [List.map_cons, List.nodup_cons]
      refine ⟨fun hx => ?_, i2⟩
      obtain ⟨y, hy, e⟩ := List.mem_map.1 hx
      have hym : y = m := B_eq e
      rw [hym] at hy
      exact i3 m hy (by simp)
    · rcases List.mem_cons.1 hx with rfl | hx
      · exact hm
      · exact fun k => i3 x hx (List.mem_append_left _ k)
/-- A table and a bare text, both valid. -/
def okRead (ms : List ByteArray) (s : ByteArray) : Bool := okTable ms && okMarks s 0 40
theorem vt_of {ms : List ByteArray} (h : okTable ms = true) : VT ms := by
  have hl := okTable_len h
  unfold okTable at h
  rw [Bool.and_eq_true] at h
  obtain ⟨i1, i2, _⟩ := chk_vt ms [] h.2
  refine ⟨by omega, i1, fun hx => ?_, i2⟩
  obtain ⟨y, hy, e⟩ := List.mem_map.1 hx
  have := i1 y hy
  have hz := B_len y
  rw [e] at hz
  simp at hz
  omega
/-- A letter as a text, letters as a text. -/
def lt1 (k : Nat) : ByteArray := ⟨#[UInt8.ofNat (97 + k)]⟩
def mk_ (ms : List ByteArray) (i : Nat) : ByteArray := ms.getD i ⟨#[]⟩
theorem mk_at {ms : List ByteArray} {i : Nat} (h : i < ms.length) : ms[i] = mk_ ms i := by
  unfold mk_
  rw [List.getD_eq_getElem?_getD, List.getElem?_eq_getElem h]
  rfl
theorem letterText_s (k : Nat) (hk : k ≤ 100) : ev E0 52 [i64 k] [] = some (st (lt1 k), []) := by
  have w1 : IntKind.i64.wrap (97 + (k : Int)) = ((97 + k : Nat) : Int) := by rw [wr64 (by omega) (by omega)]; omega
  have w2 : IntKind.u8.wrap ((97 + k : Nat) : Int) = ((97 + k : Nat) : Int) := by
    unfold IntKind.wrap
    simp [IntKind.bits, IntKind.signed]
    omega
  rw [e52]
  unfold runF lt1
  simp -implicitDefEqProofs [L52, w1, w2, b2sR, b2sL, bytesOf, -Int.natCast_add]
end Go.Proofs.YtgecnbafmlecjaaGreatDoor.Ev
