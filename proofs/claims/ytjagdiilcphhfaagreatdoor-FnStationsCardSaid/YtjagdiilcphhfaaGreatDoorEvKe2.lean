/- Keys: what a key makes of a station, both programs. -/
import Derived.Test.YtjagdiilcphhfaaGreatDoorEvKe1
set_option linter.unusedVariables false
set_option linter.unusedSimpArgs false
namespace Go.Proofs.YtjagdiilcphhfaaGreatDoor.Ev
/-- What is said without its last letter. -/
def cutE (b : ByteArray) : ByteArray := trimSp (b.extract 0 (b.size - 1))
/-- The code and the text behind a key; none where it cannot be pressed. -/
def pr (a b : ByteArray) (k x y : Int) (m : ByteArray) : Option (ByteArray × ByteArray) :=
  if k = 1 then (if okLetter (partsB 44 a) x = true then some (a, b ++ lt1 x.toNat) else none)
  else if k = 2 then (if okLetter (partsB 44 a) x = true ∧ b ≠ ⟨#[]⟩ then some (a, (b ++ ⟨#[32]⟩) ++ lt1 x.toNat) else none)
  else if k = 3 then (if b ≠ ⟨#[]⟩ then some (a, cutE b) else none)
  else if k = 4 then (if addOk (partsB 44 a) m = true then some (textL 0 ⟨#[]⟩ (partsB 44 a ++ [m]), b) else none)
  else if k = 5 then (if swOk (partsB 44 a) x y = true then some (textL 0 ⟨#[]⟩ (swT (partsB 44 a) x.toNat y.toNat), b) else none)
  else if k = 6 then some (textL 0 ⟨#[]⟩ ((partsB 44 a).map oppB), b)
  else if k = 7 then some (textL 0 ⟨#[]⟩ ((partsB 44 a).map revB), b)
  else none
def prV (n : Int) : Option (ByteArray × ByteArray) → AV → Prop
  | some (a', b'), v => v = .tup [sA a' b' n, bl true]
  | none, v => ∃ (a' b' : ByteArray) (n' : Int), v = .tup [sA a' b' n', bl false]
theorem small_of {l : List ByteArray} (h : okTable l = true) : l.length ≤ 1000 ∧ ∀ t ∈ l, t.size ≤ 1000 := by
  obtain ⟨h1, h2, _⟩ := (tab_iff l).1 h
  exact ⟨by omega, fun t ht => by
    have := (marks_def.1 (h2 t ht)).2.2
    rw [B_len] at this
    omega⟩
theorem swOk_t {l : List ByteArray} {x y : Int} (h : swOk l x y = true) : okTable (swT l x.toNat y.toNat) = true := by
  unfold swOk at h
  rw [Bool.and_eq_true, Bool.and_eq_true] at h
  obtain ⟨a, rfl, ha, -⟩ := at_letter h.2.1
  obtain ⟨b, rfl, hb, -⟩ := at_letter h.2.2
  rw [Int.toNat_natCast, Int.toNat_natCast]
  exact swT_ok h.1 ha hb
theorem press_i (a b : ByteArray) (n k x y : Int) (m : ByteArray) (ha : a.size ≤ 1073741824) (hb : b.size ≤ 1073741824) (hm : m.size ≤ 1073741824) (hc : okCode a = true) : ∃ v, ev E0 34 [sA a b n, kA k x y m] [] = some (v, []) ∧ prV n (pr a b k x y m) v := by
  have ht := tab_i a b n ha hc
  have hT : okTable (partsB 44 a) = true := hc
  obtain ⟨hl, hz⟩ := small_of hT
  have hlet := letter_i (partsB 44 a) (by omega) x
  have tk : List.take (partsB 44 a).length ((partsB 44 a).map st) = (partsB 44 a).map st := List.take_of_length_le (by simp)
  have e0 : ev E0 34 [sA a b n, kA k x y m] [] = runF E0 (ev E0) loopW L34 [sA a b n, kA k x y m] [] := e34 _ _
  rw [e0]
  unfold pr
  by_cases h1 : k = 1
  · subst h1
    rw [if_pos rfl]
    cases ho : okLetter (partsB 44 a) x with
    | false =>
      rw [ho] at hlet
      refine ⟨_, ?_, ⟨#[]⟩, ⟨#[]⟩, 0, rfl⟩
      unfold runF sA kA sB at *
      generalize partsB 44 a = P at *
      simp -implicitDefEqProofs [L34, ht, tk, hlet]
    | true =>
      rw [ho] at hlet
      rw [if_pos rfl]
      obtain ⟨q, rfl, hq, -⟩ := at_letter ho
      rw [Int.toNat_natCast]
      have hlt := letterText_i q (by have := okTable_len hT; omega)
      have z1 : (lt1 q).size = 1 := rfl
      have z2 : b.size + (lt1 q).size ≤ 9223372036854775807 := by omega
      refine ⟨_, ?_, rfl⟩
      unfold runF sA kA sB at *
      generalize lt1 q = L at *
      generalize partsB 44 a = P at *
      simp -implicitDefEqProofs [L34, ht, tk, hlet, hlt, z2]
  · rw [if_neg h1]
    by_cases h2 : k = 2
    · subst h2
      rw [if_pos rfl]
      cases ho : okLetter (partsB 44 a) x with
      | false =>
        rw [ho] at hlet
        refine ⟨_, ?_, ⟨#[]⟩, ⟨#[]⟩, 0, rfl⟩
        unfold runF sA kA sB at *
        generalize partsB 44 a = P at *
        simp -implicitDefEqProofs [L34, ht, tk, hlet]
      | true =>
        rw [ho] at hlet
        by_cases hbe : b = ⟨#[]⟩
        · subst hbe
          rw [if_neg (by simp)]
          refine ⟨_, ?_, ⟨#[]⟩, ⟨#[]⟩, 0, rfl⟩
          unfold runF sA kA sB at *
          generalize partsB 44 a = P at *
          simp -implicitDefEqProofs [L34, ht, tk, hlet]
        · rw [if_pos ⟨rfl, hbe⟩]
          obtain ⟨q, rfl, hq, -⟩ := at_letter ho
          rw [Int.toNat_natCast]
          have hlt := letterText_i q (by have := okTable_len hT; omega)
          have z1 : (lt1 q).size = 1 := rfl
          have z3 : (⟨#[32]⟩ : ByteArray).size = 1 := rfl
          have z4 : (⟨#[32]⟩ : ByteArray).size + (lt1 q).size ≤ 9223372036854775807 := by omega
          have z5 : 1 + (lt1 q).size ≤ 9223372036854775807 := by omega
          have z2 : b.size + (1 + (lt1 q).size) ≤ 9223372036854775807 := by omega
          have z6 : b.size + ((⟨#[32]⟩ : ByteArray) ++ lt1 q).size ≤ 9223372036854775807 := by rw [ByteArray.size_append]; omega
          have asc : b ++ (⟨#[32]⟩ : ByteArray) ++ lt1 q = b ++ ((⟨#[32]⟩ : ByteArray) ++ lt1 q) := by apply B_inj; simp only [B_append, List.append_assoc]
          rw [asc]
          refine ⟨_, ?_, rfl⟩
          unfold runF sA kA sB at *
          clear asc
          generalize lt1 q = L at *
          generalize partsB 44 a = P at *
          simp -implicitDefEqProofs [L34, ht, tk, hlet, hlt, z2, z3, z4, z5, z6, hbe]
    · rw [if_neg h2]
      by_cases h3 : k = 3
      · subst h3
        rw [if_pos rfl]
        by_cases hbe : b = ⟨#[]⟩
        · subst hbe
          rw [if_neg (by simp)]
          refine ⟨_, ?_, ⟨#[]⟩, ⟨#[]⟩, 0, rfl⟩
          unfold runF sA kA sB at *
          generalize partsB 44 a = P at *
          simp -implicitDefEqProofs [L34, ht, tk]
        · rw [if_pos hbe]
          have hb0 : b.size ≠ 0 := fun e => hbe (by
            apply B_inj
            have : (B b).length = 0 := by rw [B_len, e]
            rw [List.eq_nil_of_length_eq_zero this]
            rfl)
          obtain ⟨q, hq⟩ : ∃ q, b.size = q + 1 := ⟨b.size - 1, by omega⟩
          have hs := suffix_i (b.extract 0 (b.size - 1)) (by rw [ByteArray.size_extract]; omega)
          unfold cutE
          rw [hq, Nat.add_sub_cancel] at hs ⊢
          have w : IntKind.i64.wrap ((q : Int) + 1 - 1) = (q : Int) := by rw [show (q : Int) + 1 - 1 = (q : Int) by omega]; exact wr64 (by omega) (by omega)
          have w' : IntKind.i64.wrap (q : Int) = (q : Int) := wr64 (by omega) (by omega)
          have g2 : (q : Int) ≤ (q : Int) + 1 := by omega
          refine ⟨_, ?_, rfl⟩
          unfold runF sA kA sB at *
          generalize trimSp (b.extract 0 q) = R at *
          generalize partsB 44 a = P at *
          simp -implicitDefEqProofs [L34, ht, tk, hbe, hq, w, w', g2, hs]
      · rw [if_neg h3]
        by_cases h4 : k = 4
        · subst h4
          rw [if_pos rfl]
          have had := add_i (partsB 44 a) hl hz m hm
          cases ho : addOk (partsB 44 a) m with
          | false =>
            rw [ho, if_neg (by decide)] at had
            have hw := with_nil a b n false
            refine ⟨_, ?_, ⟨#[]⟩, b, n, rfl⟩
            unfold runF sA kA sB at *
            generalize partsB 44 a = P at *
            simp -implicitDefEqProofs [L34, ht, tk, had, hw]
          | true =>
            rw [ho, if_pos rfl] at had
            rw [if_pos rfl]
            unfold addOk at ho
            rw [Bool.and_eq_true] at ho
            obtain ⟨q1, q2⟩ := small_of ho.2
            have hw := with_i a b n (partsB 44 a ++ [m]) true q1 q2
            have ql : (partsB 44 a).length + 1 ≤ (partsB 44 a ++ [m]).length := by simp
            have tk2 : List.take ((partsB 44 a).length + 1) ((partsB 44 a ++ [m]).map st) = (partsB 44 a ++ [m]).map st := List.take_of_length_le (by simp)
            refine ⟨_, ?_, rfl⟩
            unfold runF sA kA sB at *
            generalize partsB 44 a ++ [m] = Q at *
            generalize partsB 44 a = P at *
            simp -implicitDefEqProofs [L34, ht, tk, had, hw, tk2, ql]
        · rw [if_neg h4]
          by_cases h5 : k = 5
          · subst h5
            rw [if_pos rfl]
            have had := swap_i (partsB 44 a) hl hz x y
            cases ho : swOk (partsB 44 a) x y with
            | false =>
              rw [ho, if_neg (by decide)] at had
              have hw := with_nil a b n false
              refine ⟨_, ?_, ⟨#[]⟩, b, n, rfl⟩
              unfold runF sA kA sB at *
              generalize partsB 44 a = P at *
              simp -implicitDefEqProofs [L34, ht, tk, had, hw]
            | true =>
              rw [ho, if_pos rfl] at had
              rw [if_pos rfl]
              obtain ⟨q1, q2⟩ := small_of (swOk_t ho)
              have hw := with_i a b n (swT (partsB 44 a) x.toNat y.toNat) true q1 q2
              have ql : (partsB 44 a).length ≤ (swT (partsB 44 a) x.toNat y.toNat).length := by rw [swT_len]; exact Nat.le_refl _
              have tk2 : List.take (partsB 44 a).length ((swT (partsB 44 a) x.toNat y.toNat).map st) = (swT (partsB 44 a) x.toNat y.toNat).map st := List.take_of_length_le (by rw [List.length_map, swT_len]; omega)
              refine ⟨_, ?_, rfl⟩
              unfold runF sA kA sB at *
              generalize swT (partsB 44 a) x.toNat y.toNat = Q at *
              generalize partsB 44 a = P at *
              simp -implicitDefEqProofs [L34, ht, tk, had, hw, tk2, ql]
          · rw [if_neg h5]
            by_cases h6 : k = 6
            · subst h6
              rw [if_pos rfl]
              have had := opt_i (partsB 44 a) (by omega) (fun t h => by have := hz t h; omega)
              rw [hT, if_pos rfl] at had
              obtain ⟨q1, q2⟩ := small_of (turns_opp.tab hT)
              have hw := with_i a b n ((partsB 44 a).map oppB) true q1 q2
              have ql : (partsB 44 a).length ≤ ((partsB 44 a).map oppB).length := by simp
              have tk2 : List.take (partsB 44 a).length (((partsB 44 a).map oppB).map st) = ((partsB 44 a).map oppB).map st := List.take_of_length_le (by simp)
              refine ⟨_, ?_, rfl⟩
              unfold runF sA kA sB at *
              generalize (partsB 44 a).map oppB = Q at *
              generalize partsB 44 a = P at *
              simp -implicitDefEqProofs [L34, ht, tk, had, hw, tk2, ql]
            · rw [if_neg h6]
              by_cases h7 : k = 7
              · subst h7
                rw [if_pos rfl]
                have had := bkt_i (partsB 44 a) (by omega) (fun t h => by have := hz t h; omega)
                rw [hT, if_pos rfl] at had
                obtain ⟨q1, q2⟩ := small_of (turns_rev.tab hT)
                have hw := with_i a b n ((partsB 44 a).map revB) true q1 q2
                have ql : (partsB 44 a).length ≤ ((partsB 44 a).map revB).length := by simp
                have tk2 : List.take (partsB 44 a).length (((partsB 44 a).map revB).map st) = ((partsB 44 a).map revB).map st := List.take_of_length_le (by simp)
                refine ⟨_, ?_, rfl⟩
                unfold runF sA kA sB at *
                generalize (partsB 44 a).map revB = Q at *
                generalize partsB 44 a = P at *
                simp -implicitDefEqProofs [L34, ht, tk, had, hw, tk2, ql]
              · rw [if_neg h7]
                refine ⟨_, ?_, ⟨#[]⟩, ⟨#[]⟩, 0, rfl⟩
                unfold runF sA kA sB at *
                generalize partsB 44 a = P at *
                simp -implicitDefEqProofs [L34, ht, tk, h1, h2, h3, h4, h5, h6, h7]
end Go.Proofs.YtjagdiilcphhfaaGreatDoor.Ev
