/- Letters are told apart by their answers; how deep letters lie: plain words. -/
import Derived.Test.YtkajcafnfdlgpaaDoorEvPlaces
set_option linter.unusedVariables false
set_option linter.unusedSimpArgs false
namespace Go.Proofs.YtkajcafnfdlgpaaDoor.Ev
theorem chk_apart : ∀ (t seen : List ByteArray), chk seen t = true → t.Pairwise (· ≠ ·) ∧ (∀ m ∈ t, okMarks m 1 5 = true) ∧ ∀ m ∈ t, m ∉ seen
  | [], seen, _ => by simp
  | m :: t, seen, h => by
    unfold chk at h
    simp only [Bool.and_eq_true, Bool.not_eq_true', decide_eq_false_iff_not] at h
    obtain ⟨h1, h2, h3⟩ := h
    obtain ⟨i1, i2, i3⟩ := chk_apart t (seen ++ [m]) h3
    have hm : m ∉ seen := by
      rcases place_nat m seen 0 with ⟨_, h⟩ | ⟨h, _⟩
      · exact h
      · exact absurd h (by simpa using h2)
    refine ⟨List.pairwise_cons.2 ⟨fun x hx e => ?_, i1⟩, fun x hx => ?_, fun x hx => ?_⟩
    · subst e
      exact i3 _ hx (by simp)
    · rcases List.mem_cons.1 hx with rfl | hx
      · exact h1
      · exact i2 x hx
    · rcases List.mem_cons.1 hx with rfl | hx
      · exact hm
      · exact fun h => i3 x hx (by simp [h])
theorem ans_two {m : ByteArray} {q : Nat} : ans m q = 2 ↔ m.size ≤ q := by
  unfold ans
  split
  · simp [*]
  · split <;> simp [*] <;> omega
theorem okM_num {c : UInt8} (h : okM c = true) : c = 46 ∨ c = 45 := by
  unfold okM at h
  simpa using h
/-- Marks that differ are answered otherwise at some place. -/
theorem marks_apart {m m' : ByteArray} (h : okMarks m 1 5 = true) (h' : okMarks m' 1 5 = true) (hne : m ≠ m') : ∃ q, q < 5 ∧ ans m q ≠ ans m' q := by
  apply Classical.byContradiction
  intro hc
  have hall : ∀ q, q < 5 → ans m q = ans m' q := fun q hq => Classical.byContradiction fun hh => hc ⟨q, hq, hh⟩
  unfold okMarks at h h'
  simp only [Bool.and_eq_true, decide_eq_true_eq] at h h'
  obtain ⟨a1, a2, a3⟩ := h
  obtain ⟨b1, b2, b3⟩ := h'
  have hsz : m.size = m'.size := by
    rcases Nat.lt_trichotomy m.size m'.size with hlt | he | hlt
    · have := hall m.size (by omega)
      rw [ans_two.2 (Nat.le_refl _)] at this
      have := ans_two.1 this.symm
      omega
    · exact he
    · have := hall m'.size (by omega)
      rw [ans_two.2 (Nat.le_refl _)] at this
      have := ans_two.1 this
      omega
  refine hne ?_
  have hl : B m = B m' := by
    refine List.ext_getElem (by rw [B_len, B_len, hsz]) fun i h1 h2 => ?_
    rw [B_len] at h1 h2
    have hq := hall i (by omega)
    unfold ans at hq
    rw [if_neg (show ¬ m.size ≤ i by omega), if_neg (show ¬ m'.size ≤ i by omega)] at hq
    have e1 : m.data.toList.getD i 0 = (B m)[i]'(by rw [B_len]; exact h1) := by
      rw [List.getD_eq_getElem?_getD]
      show ((B m)[i]?).getD 0 = _
      rw [List.getElem?_eq_getElem (by rw [B_len]; exact h1)]
      rfl
    have e2 : m'.data.toList.getD i 0 = (B m')[i]'(by rw [B_len]; exact h2) := by
      rw [List.getD_eq_getElem?_getD]
      show ((B m')[i]?).getD 0 = _
      rw [List.getElem?_eq_getElem (by rw [B_len]; exact h2)]
      rfl
    rw [e1, e2] at hq
    have k1 := okM_num (List.all_eq_true.1 a1 _ (List.getElem_mem (by rw [B_len]; exact h1)))
    have k2 := okM_num (List.all_eq_true.1 b1 _ (List.getElem_mem (by rw [B_len]; exact h2)))
    generalize (B m)[i]'(by rw [B_len]; exact h1) = x at *
    generalize (B m')[i]'(by rw [B_len]; exact h2) = y at *
    rcases k1 with rfl | rfl <;> rcases k2 with rfl | rfl <;> simp at hq ⊢
  unfold B at hl
  exact ByteArray.ext (Array.ext' hl)
/-- Letters no two of which are answered alike everywhere. -/
def Apart (ms : List ByteArray) (l : List Nat) : Prop := l.Pairwise fun x y => ∃ q, q < 5 ∧ ansN ms q x ≠ ansN ms q y
theorem Apart.part {ms : List ByteArray} {l : List Nat} (h : Apart ms l) (q a : Nat) : Apart ms (partN ms q a l) := List.Pairwise.sublist List.filter_sublist h
theorem apart_of {ms : List ByteArray} (h : okTable ms = true) {l : List Nat} (hp : l.Pairwise (· < ·)) (hv : ∀ n ∈ l, n < ms.length) : Apart ms l := by
  unfold okTable at h
  simp only [Bool.and_eq_true] at h
  obtain ⟨c1, c2, _⟩ := chk_apart ms [] h.2
  refine List.Pairwise.imp_of_mem ?_ hp
  intro x y hx hy hxy
  have h1 := hv x hx
  have h2 := hv y hy
  have hne : ms.getD x ⟨#[]⟩ ≠ ms.getD y ⟨#[]⟩ := by
    rw [← getD_at h1, ← getD_at h2]
    exact List.pairwise_iff_getElem.1 c1 x y h1 h2 hxy
  have k1 := c2 _ (List.getElem_mem h1)
  have k2 := c2 _ (List.getElem_mem h2)
  rw [getD_at h1] at k1
  rw [getD_at h2] at k2
  exact marks_apart k1 k2 hne
theorem asc_pair (ms : List ByteArray) : ∀ (l : List Int) (lo : Int), asc ms lo l = true → (∀ c ∈ l, lo < c) ∧ l.Pairwise (· < ·)
  | [], _, _ => by simp
  | x :: t, lo, h => by
    unfold asc at h
    rw [Bool.and_eq_true, Bool.and_eq_true, decide_eq_true_eq] at h
    obtain ⟨i1, i2⟩ := asc_pair ms t x h.2.2
    refine ⟨fun c hc => ?_, List.pairwise_cons.2 ⟨i1, i2⟩⟩
    rcases List.mem_cons.1 hc with rfl | hc
    · exact h.2.1
    · exact Int.lt_trans h.2.1 (i1 c hc)
/-- A list of letters of a valid table is one of natural numbers, told apart by answers. -/
theorem okLetters_apart {ms : List ByteArray} {l : List Int} (h0 : okTable ms = true) (h : okLetters ms l = true) : ∃ ln : List Nat, i64s l = i64n ln ∧ ln ≠ [] ∧ (∀ n ∈ ln, n < ms.length) ∧ ln.length = l.length ∧ ln.length ≤ ms.length ∧ Apart ms ln := by
  unfold okLetters at h
  rw [Bool.and_eq_true, decide_eq_true_eq] at h
  obtain ⟨h1, h2⟩ := h
  have hl := asc_len ms l (-1) h1 (by omega) (by omega)
  have hm := asc_mem ms l (-1) h1
  have hv : ∀ n ∈ l.map Int.toNat, n < ms.length := by
    intro n hn
    obtain ⟨c, hc, rfl⟩ := List.mem_map.1 hn
    have := okLetter_bounds (hm c hc)
    omega
  have hp : (l.map Int.toNat).Pairwise (· < ·) := by
    rw [List.pairwise_map]
    refine List.Pairwise.imp_of_mem ?_ (asc_pair ms l (-1) h1).2
    intro a b ha hb hab
    have k1 := okLetter_bounds (hm a ha)
    have k2 := okLetter_bounds (hm b hb)
    omega
  refine ⟨l.map Int.toNat, ?_, ?_, hv, by simp, by simp; omega, apart_of h0 hp hv⟩
  · unfold i64s i64n
    rw [List.map_map]
    refine List.map_congr_left fun c hc => ?_
    have := okLetter_bounds (hm c hc)
    show i64 c = i64 ((c.toNat : Nat) : Int)
    rw [Int.toNat_of_nonneg this.1]
  · intro e
    rw [List.map_eq_nil_iff] at e
    rw [e] at h2
    simp at h2
theorem not_vain {ms : List ByteArray} {l : List Nat} (h : Apart ms l) (h2 : 2 ≤ l.length) : ∃ q, q < 5 ∧ vainB ms q l = false := by
  match l, h2 with
  | k0 :: k1 :: t, _ =>
    have h3 := (List.pairwise_cons.1 h).1 k1 (by simp)
    obtain ⟨q, hq, hne⟩ := h3
    refine ⟨q, hq, ?_⟩
    simp [vainB, Ne.symm hne]
theorem part_lt {ms : List ByteArray} {q a : Nat} {l : List Nat} (h : vainB ms q l = false) : (partN ms q a l).length < l.length := by
  cases l with
  | nil => simp [vainB] at h
  | cons k0 t =>
    unfold partN
    rw [List.length_filter_lt_length_iff_exists]
    apply Classical.byContradiction
    intro hc
    have hall : ∀ x ∈ k0 :: t, ansN ms q x = a := fun x hx => Classical.byContradiction fun hh => hc ⟨x, hx, by simpa using hh⟩
    have : vainB ms q (k0 :: t) = true := by
      unfold vainB
      rw [List.all_eq_true]
      intro x hx
      rw [hall x (by simp [hx]), hall k0 (by simp)]
      simp
    rw [this] at h
    cases h
theorem part_some (ms : List ByteArray) (q : Nat) {l : List Nat} (h : l ≠ []) : partN ms q 0 l ≠ [] ∨ partN ms q 1 l ≠ [] ∨ partN ms q 2 l ≠ [] := by
  cases l with
  | nil => exact absurd rfl h
  | cons k t => rcases ansN_cases ms q k with e | e | e <;> simp [partN, e]
-- ---------------------------------------------------------------- the depth
def gw (D : List Nat → Nat × Int) (p : List Nat) : Nat := if p = [] then 0 else (D p).1
def wst (ms : List ByteArray) (D : List Nat → Nat × Int) (l : List Nat) (q : Nat) : Nat := max (max (gw D (partN ms q 0 l)) (gw D (partN ms q 1 l))) (gw D (partN ms q 2 l))
def upd (o : Option (Nat × Nat)) (q w : Nat) : Option (Nat × Nat) :=
  match o with
  | none => some (q, w)
  | some (p, b) => if w < b then some (q, w) else some (p, b)
def scan (ms : List ByteArray) (D : List Nat → Nat × Int) (l : List Nat) : Nat → Nat → Option (Nat × Nat) → Option (Nat × Nat)
  | 0, _, o => o
  | k + 1, q, o => if vainB ms q l = true then scan ms D l k (q + 1) o else scan ms D l k (q + 1) (upd o q (wst ms D l q + 1))
def finD : Option (Nat × Nat) → Nat × Int
  | none => (0, -1)
  | some (p, w) => (w, (p : Int))
def depN (ms : List ByteArray) : Nat → List Nat → Nat × Int
  | 0, _ => (0, -1)
  | n + 1, l => if l.length = 1 then (0, -1) else finD (scan ms (depN ms n) l 5 0 none)
theorem upd_some (o : Option (Nat × Nat)) (q w : Nat) : ∃ p b, upd o q w = some (p, b) := by
  unfold upd
  split
  · exact ⟨_, _, rfl⟩
  · split <;> exact ⟨_, _, rfl⟩
theorem scan_keep (ms : List ByteArray) (D : List Nat → Nat × Int) (l : List Nat) : ∀ (k q p b : Nat), ∃ p' b', scan ms D l k q (some (p, b)) = some (p', b')
  | 0, q, p, b => ⟨p, b, rfl⟩
  | k + 1, q, p, b => by
    unfold scan
    split
    · exact scan_keep ms D l k (q + 1) p b
    · obtain ⟨p', b', e⟩ := upd_some (some (p, b)) q (wst ms D l q + 1)
      rw [e]
      exact scan_keep ms D l k (q + 1) p' b'
theorem scan_some (ms : List ByteArray) (D : List Nat → Nat × Int) (l : List Nat) : ∀ (k q : Nat) (o : Option (Nat × Nat)), (∃ j, q ≤ j ∧ j < q + k ∧ vainB ms j l = false) → ∃ p' b', scan ms D l k q o = some (p', b')
  | 0, q, o, ⟨j, h1, h2, _⟩ => by omega
  | k + 1, q, o, ⟨j, h1, h2, h3⟩ => by
    unfold scan
    split
    · rename_i h
      refine scan_some ms D l k (q + 1) o ⟨j, ?_, by omega, h3⟩
      rcases Nat.lt_or_ge q j with h4 | h4
      · exact h4
      · have : q = j := by omega
        subst this
        rw [h] at h3
        cases h3
    · obtain ⟨p', b', e⟩ := upd_some o q (wst ms D l q + 1)
      rw [e]
      exact scan_keep ms D l k (q + 1) p' b'
theorem gw_le {D : List Nat → Nat × Int} {c : Nat} (h : ∀ p, (D p).1 ≤ c) (p : List Nat) : gw D p ≤ c := by
  unfold gw
  split
  · omega
  · exact h p
theorem wst_le {ms : List ByteArray} {D : List Nat → Nat × Int} {c : Nat} (h : ∀ p, (D p).1 ≤ c) (l : List Nat) (q : Nat) : wst ms D l q ≤ c := by
  have h0 := gw_le h (partN ms q 0 l)
  have h1 := gw_le h (partN ms q 1 l)
  have h2 := gw_le h (partN ms q 2 l)
  unfold wst
  omega
def lowO (c : Nat) : Option (Nat × Nat) → Prop
  | none => True
  | some (_, w) => w ≤ c
theorem low_upd {c : Nat} {o : Option (Nat × Nat)} (h : lowO c o) {q w : Nat} (hw : w ≤ c) : lowO c (upd o q w) := by
  unfold upd
  split
  · exact hw
  · split
    · exact hw
    · exact h
theorem scan_low {ms : List ByteArray} {D : List Nat → Nat × Int} {c : Nat} (h : ∀ p, (D p).1 ≤ c) (l : List Nat) : ∀ (k q : Nat) (o : Option (Nat × Nat)), lowO (c + 1) o → lowO (c + 1) (scan ms D l k q o)
  | 0, q, o, ho => ho
  | k + 1, q, o, ho => by
    unfold scan
    split
    · exact scan_low h l k (q + 1) o ho
    · have := wst_le (ms := ms) h l q
      exact scan_low h l k (q + 1) _ (low_upd ho (by omega))
theorem dep_le (ms : List ByteArray) : ∀ (n : Nat) (l : List Nat), (depN ms n l).1 ≤ n
  | 0, l => by simp [depN]
  | n + 1, l => by
    unfold depN
    split
    · simp
    · have := scan_low (ms := ms) (dep_le ms n) l 5 0 none trivial
      generalize scan ms (depN ms n) l 5 0 none = o at this
      cases o with
      | none => simp [finD]
      | some p => exact this
end Go.Proofs.YtkajcafnfdlgpaaDoor.Ev
