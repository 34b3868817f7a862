/- Keys: what is plain, what is erased, a station with another table. -/
import Derived.Test.YtjagdiilcphhfaaGreatDoorEvTa5
import Derived.Test.YtjagdiilcphhfaaGreatDoorEvTm
set_option linter.unusedVariables false
set_option linter.unusedSimpArgs false
namespace Go.Proofs.YtjagdiilcphhfaaGreatDoor.Ev
def kA (k x y : Int) (m : ByteArray) : AV := .agg [i64 k, i64 x, i64 y, st m]
def sA (a b : ByteArray) (n : Int) : AV := .agg [st a, st b, i64 n]
/-- Is what does not count of a key nothing? -/
def okKey (k x y : Int) (m : ByteArray) : Bool :=
  if k = 1 ∨ k = 2 then decide (y = 0) && decide (m = ⟨#[]⟩) else if k = 4 then decide (x = 0) && decide (y = 0) else if k = 5 then decide (m = ⟨#[]⟩) else decide (x = 0) && (decide (y = 0) && decide (m = ⟨#[]⟩))
theorem plain_s (k x y : Int) (m : ByteArray) : ev E0 49 [kA k x y m] [] = some (bl (okKey k x y m), []) := by
  rw [e49]
  unfold runF okKey kA
  by_cases h1 : k = 1
  · subst h1; by_cases hy : y = 0 <;> by_cases hm : m = ⟨#[]⟩ <;> simp -implicitDefEqProofs [L49, hy, hm]
  · by_cases h2 : k = 2
    · subst h2; by_cases hy : y = 0 <;> by_cases hm : m = ⟨#[]⟩ <;> simp -implicitDefEqProofs [L49, hy, hm]
    · by_cases h4 : k = 4
      · subst h4; by_cases hx : x = 0 <;> by_cases hy : y = 0 <;> simp -implicitDefEqProofs [L49, hy, hx]
      · by_cases h5 : k = 5
        · subst h5; by_cases hm : m = ⟨#[]⟩ <;> simp -implicitDefEqProofs [L49, hm]
        · by_cases hx : x = 0 <;> by_cases hy : y = 0 <;> by_cases hm : m = ⟨#[]⟩ <;> simp -implicitDefEqProofs [L49, hx, hy, hm, h1, h2, h4, h5]
theorem plain_i (k x y : Int) (m : ByteArray) : ev E0 33 [kA k x y m] [] = some (bl (okKey k x y m), []) := by
  rw [e33]
  unfold runF okKey kA
  by_cases h1 : k = 1
  · subst h1; by_cases hy : y = 0 <;> by_cases hm : m = ⟨#[]⟩ <;> simp -implicitDefEqProofs [L33, hy, hm]
  · by_cases h2 : k = 2
    · subst h2; by_cases hy : y = 0 <;> by_cases hm : m = ⟨#[]⟩ <;> simp -implicitDefEqProofs [L33, hy, hm]
    · by_cases h4 : k = 4
      · subst h4; by_cases hx : x = 0 <;> by_cases hy : y = 0 <;> simp -implicitDefEqProofs [L33, hy, hx]
      · by_cases h5 : k = 5
        · subst h5; by_cases hm : m = ⟨#[]⟩ <;> simp -implicitDefEqProofs [L33, hm]
        · by_cases hx : x = 0 <;> by_cases hy : y = 0 <;> by_cases hm : m = ⟨#[]⟩ <;> simp -implicitDefEqProofs [L33, hx, hy, hm, h1, h2, h4, h5]
-- ---------------------------------------------------------------- the last letter
theorem last_one {e : ByteArray} {k : Nat} (h : e.size = k + 1) : e.extract k e.size = ⟨#[(B e).getD k 0]⟩ := by
  apply B_inj
  have hl : (B e).length = k + 1 := by rw [B_len, h]
  rw [B_from]
  have hk : k < (B e).length := by omega
  rw [List.drop_eq_getElem_cons hk, List.drop_of_length_le (by omega), List.getD_eq_getElem?_getD, List.getElem?_eq_getElem hk]
  rfl
theorem one_eq {c d : UInt8} : ((⟨#[c]⟩ : ByteArray) = ⟨#[d]⟩) ↔ c = d := by
  constructor
  · intro h
    have := congrArg B h
    simpa [B] using this
  · intro h; rw [h]
/-- A text without a space at its end. -/
def trimSp (e : ByteArray) : ByteArray := if 0 < e.size ∧ (B e).getD (e.size - 1) 0 = 32 then e.extract 0 (e.size - 1) else e
theorem suffix_i (e : ByteArray) (he : e.size ≤ 1073741824) : ev E0 55 [st e, st ⟨#[32]⟩] [] = some (st (trimSp e), []) := by
  have h32 : (⟨#[32]⟩ : ByteArray).size = 1 := rfl
  have key : ev E0 97 [st e, st ⟨#[32]⟩] [] = some (bl (decide (0 < e.size ∧ (B e).getD (e.size - 1) 0 = 32)), []) := by
    rw [e97]
    unfold runF
    cases hk : e.size with
    | zero =>
      simp -implicitDefEqProofs [L97, hk, h32]
    | succ k =>
      have hl := last_one hk
      rw [hk] at hl
      have w : IntKind.i64.wrap ((k : Int) + 1 - 1) = (k : Int) := by rw [show (k : Int) + 1 - 1 = (k : Int) by omega]; exact wr64 (by omega) (by omega)
      have w' : IntKind.i64.wrap (k : Int) = (k : Int) := wr64 (by omega) (by omega)
      have g1 : (1 : Int) ≤ (k : Int) + 1 := by omega
      have g2 : (k : Int) ≤ (k : Int) + 1 := by omega
      have e1 : decide (e.extract k (k + 1) = (⟨#[32]⟩ : ByteArray)) = decide ((B e).getD k 0 = 32) := by
        rw [hl]
        exact decide_eq_decide.2 one_eq
      have e2 : (decide (0 < k + 1 ∧ (B e).getD (k + 1 - 1) 0 = 32)) = decide ((B e).getD k 0 = 32) := decide_eq_decide.2 ⟨fun h => h.2, fun h => ⟨Nat.succ_pos _, h⟩⟩
      rw [e2]
      generalize (B e).getD k 0 = q at *
      simp -implicitDefEqProofs [L97, hk, h32, w, w', g1, g2, e1]
  have h2 : ev E0 79 [st e, st ⟨#[32]⟩] [] = some (st (trimSp e), []) := by
    unfold trimSp
    rw [e79]
    unfold runF
    by_cases hc : 0 < e.size ∧ (B e).getD (e.size - 1) 0 = 32
    · rw [if_pos hc]
      rw [decide_eq_true hc] at key
      obtain ⟨k, hk⟩ : ∃ k, e.size = k + 1 := ⟨e.size - 1, by omega⟩
      have w : IntKind.i64.wrap ((k : Int) + 1 - 1) = (k : Int) := by rw [show (k : Int) + 1 - 1 = (k : Int) by omega]; exact wr64 (by omega) (by omega)
      have w' : IntKind.i64.wrap (k : Int) = (k : Int) := wr64 (by omega) (by omega)
      have g2 : (k : Int) ≤ (k : Int) + 1 := by omega
      simp -implicitDefEqProofs [L79, key, hk, h32, w, w', g2]
    · rw [if_neg hc]
      rw [decide_eq_false hc] at key
      simp -implicitDefEqProofs [L79, key]
  rw [e55]
  unfold runF
  simp -implicitDefEqProofs [L55, h2]
-- ---------------------------------------------------------------- tables of stations
theorem join_c (ms : List ByteArray) (hm : ms.length ≤ 1000) (hs : ∀ x ∈ ms, x.size ≤ 1000) : ev E0 66 [.lst 1 (ms.map st), st ⟨#[44]⟩] [] = some (st (textL 0 ⟨#[]⟩ ms), []) := by
  have hL := lensT_le ms hs
  have hL2 : ms.length * (1000 + 1) ≤ 1000 * 1001 := Nat.mul_le_mul_right 1001 hm
  have hz := textL_size ms 0 ⟨#[]⟩
  have h0 : (⟨#[]⟩ : ByteArray).size = 0 := rfl
  rw [e66, textL_join]
  rw [textL_join] at hz
  have h1 : (joinB ms ⟨#[44]⟩).length ≤ 140737488355328 := by
    have : (⟨(joinB ms ⟨#[44]⟩).toArray⟩ : ByteArray).size = (joinB ms ⟨#[44]⟩).length := by rw [← B_len, B_mk]
    omega
  show joinQ ⟨#[44]⟩ [] (strsOf (ms.map st)) = _
  rw [strsOf_map]
  unfold joinQ
  simp only
  rw [if_pos ⟨by omega, h1⟩]
theorem with_i (a b : ByteArray) (n : Int) (l : List ByteArray) (ok : Bool) (hm : l.length ≤ 1000) (hs : ∀ x ∈ l, x.size ≤ 1000) : ev E0 56 [sA a b n, .agg [.lst 1 (l.map st)], bl ok] [] = some (.tup [sA (textL 0 ⟨#[]⟩ l) b n, bl ok], []) := by
  have hj := join_c l hm hs
  rw [e56]
  unfold runF sA
  simp -implicitDefEqProofs [L56, hj]
theorem with_nil (a b : ByteArray) (n : Int) (ok : Bool) : ev E0 56 [sA a b n, .agg [.v (.slice none 0 0)], bl ok] [] = some (.tup [sA ⟨#[]⟩ b n, bl ok], []) := by
  have hj : ev E0 66 [.v (.slice none 0 0), st ⟨#[44]⟩] [] = some (st ⟨#[]⟩, []) := by
    rw [e66]
    rfl
  rw [e56]
  unfold runF sA
  simp -implicitDefEqProofs [L56, hj]
theorem tab_i (a b : ByteArray) (n : Int) (ha : a.size ≤ 1073741824) (h : okCode a = true) : ev E0 43 [sA a b n] [] = some (.agg [.sl 0 0 (partsB 44 a).length], [some (sB (partsB 44 a))]) := by
  have hp := (parse_i a ha).2 h
  unfold sA sB
  rw [e43]
  unfold runF
  generalize partsB 44 a = P at *
  simp -implicitDefEqProofs [L43, hp]
theorem tab_s12 (a b : ByteArray) (n : Int) (ha : a.size ≤ 1073741824) (h : okCode a = true) : ev E0 44 [sA a b n] [] = some (.tup [.agg [.sl 0 0 (partsB 44 a).length], bl true], [some (sB (partsB 44 a))]) := by
  have hp := (parse_s a ha).2 h
  unfold sA sB
  rw [e44]
  unfold runF
  generalize partsB 44 a = P at *
  simp -implicitDefEqProofs [L44, hp]
end Go.Proofs.YtjagdiilcphhfaaGreatDoor.Ev
