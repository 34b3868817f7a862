/- Keys: DoKey, both programs. -/
import Derived.Test.YtjagdiilcphhfaaGreatDoorEvKe3
set_option linter.unusedVariables false
set_option linter.unusedSimpArgs false
namespace Go.Proofs.YtjagdiilcphhfaaGreatDoor.Ev
theorem make_s (a b : ByteArray) (n k x y : Int) (m : ByteArray) (ha : a.size ≤ 1073741824) (hb : b.size ≤ 1073741824) (hm : m.size ≤ 1073741824) (hc : okCode a = true) : ∃ v, ev E0 48 [sA a b n, kA k x y m] [] = some (v, []) ∧ prV n (pr a b k x y m) v := by
  have ht := tab_s12 a b n ha hc
  have hT : okTable (partsB 44 a) = true := hc
  obtain ⟨hl, hz⟩ := small_of hT
  have hlen := okTable_len hT
  have tk : List.take (partsB 44 a).length ((partsB 44 a).map st) = (partsB 44 a).map st := List.take_of_length_le (by simp)
  have e0 : ev E0 48 [sA a b n, kA k x y m] [] = runF E0 (ev E0) loopW L48 [sA a b n, kA k x y m] [] := e48 _ _
  rw [e0]
  have txt : ∀ l : List ByteArray, okTable l = true → ev E0 39 [.agg [.lst 1 (l.map st)]] [] = some (st (textL 0 ⟨#[]⟩ l), []) := fun l h => by
    obtain ⟨q1, q2⟩ := small_of h
    have hL := lensT_le l q2
    have hL2 : l.length * (1000 + 1) ≤ 1000 * 1001 := Nat.mul_le_mul_right 1001 q1
    exact text_s l (by omega) (by omega)
  by_cases h1 : k = 1
  · obtain ⟨v, hv, hp⟩ := say_s a b n k x y m hb (.inl h1) (partsB 44 a) (by omega) rfl
    subst h1
    generalize pr a b 1 x y m = R at *
    refine ⟨v, ?_, hp⟩
    unfold runF sA kA sB at *
    rcases R with _ | ⟨a', b'⟩
    · obtain ⟨a', b', n', rfl⟩ := hp
      generalize partsB 44 a = P at *
      unfold sA at *
      simp -implicitDefEqProofs [L48, ht, tk, hv]
    · obtain rfl := hp
      generalize partsB 44 a = P at *
      unfold sA at *
      simp -implicitDefEqProofs [L48, ht, tk, hv]
  · by_cases h2 : k = 2
    · obtain ⟨v, hv, hp⟩ := say_s a b n k x y m hb (.inr (.inl h2)) (partsB 44 a) (by omega) rfl
      subst h2
      generalize pr a b 2 x y m = R at *
      refine ⟨v, ?_, hp⟩
      unfold runF sA kA sB at *
      rcases R with _ | ⟨a', b'⟩
      · obtain ⟨a', b', n', rfl⟩ := hp
        generalize partsB 44 a = P at *
        unfold sA at *
        simp -implicitDefEqProofs [L48, ht, tk, hv]
      · obtain rfl := hp
        generalize partsB 44 a = P at *
        unfold sA at *
        simp -implicitDefEqProofs [L48, ht, tk, hv]
    · by_cases h3 : k = 3
      · obtain ⟨v, hv, hp⟩ := say_s a b n k x y m hb (.inr (.inr h3)) (partsB 44 a) (by omega) rfl
        subst h3
        generalize pr a b 3 x y m = R at *
        refine ⟨v, ?_, hp⟩
        unfold runF sA kA sB at *
        rcases R with _ | ⟨a', b'⟩
        · obtain ⟨a', b', n', rfl⟩ := hp
          generalize partsB 44 a = P at *
          unfold sA at *
          simp -implicitDefEqProofs [L48, ht, tk, hv]
        · obtain rfl := hp
          generalize partsB 44 a = P at *
          unfold sA at *
          simp -implicitDefEqProofs [L48, ht, tk, hv]
      · unfold pr
        rw [if_neg h1, if_neg h2, if_neg h3]
        by_cases h4 : k = 4
        · subst h4
          rw [if_pos rfl]
          have had := add_s (partsB 44 a) hl hz m hm
          cases ho : addOk (partsB 44 a) m with
          | false =>
            rw [ho, if_neg (by decide)] at had
            refine ⟨_, ?_, a, b, n, rfl⟩
            unfold runF sA kA sB at *
            generalize partsB 44 a = P at *
            simp -implicitDefEqProofs [L48, ht, tk, had]
          | true =>
            rw [ho, if_pos rfl] at had
            rw [if_pos rfl]
            unfold addOk at ho
            rw [Bool.and_eq_true] at ho
            have hw := txt _ ho.2
            have ql : (partsB 44 a).length + 1 ≤ (partsB 44 a ++ [m]).length := by simp
            have tk2 : List.take ((partsB 44 a).length + 1) ((partsB 44 a ++ [m]).map st) = (partsB 44 a ++ [m]).map st := List.take_of_length_le (by simp)
            refine ⟨_, ?_, rfl⟩
            unfold runF sA kA sB at *
            generalize partsB 44 a ++ [m] = Q at *
            generalize partsB 44 a = P at *
            simp -implicitDefEqProofs [L48, ht, tk, had, hw, tk2, ql]
        · rw [if_neg h4]
          by_cases h5 : k = 5
          · subst h5
            rw [if_pos rfl]
            have had := swap_s (partsB 44 a) hl hz x y
            cases ho : swOk (partsB 44 a) x y with
            | false =>
              rw [ho, if_neg (by decide)] at had
              refine ⟨_, ?_, a, b, n, rfl⟩
              unfold runF sA kA sB at *
              generalize partsB 44 a = P at *
              simp -implicitDefEqProofs [L48, ht, tk, had]
            | true =>
              rw [ho, if_pos rfl] at had
              rw [if_pos rfl]
              have hw := txt _ (swOk_t ho)
              have ql : (partsB 44 a).length ≤ (swT (partsB 44 a) x.toNat y.toNat).length := by rw [swT_len]; exact Nat.le_refl _
              have tk2 : List.take (partsB 44 a).length ((swT (partsB 44 a) x.toNat y.toNat).map st) = (swT (partsB 44 a) x.toNat y.toNat).map st := List.take_of_length_le (by rw [List.length_map, swT_len]; omega)
              refine ⟨_, ?_, rfl⟩
              unfold runF sA kA sB at *
              generalize swT (partsB 44 a) x.toNat y.toNat = Q at *
              generalize partsB 44 a = P at *
              simp -implicitDefEqProofs [L48, ht, tk, had, hw, tk2, ql]
          · rw [if_neg h5]
            by_cases h6 : k = 6
            · subst h6
              rw [if_pos rfl]
              have had := opt_s (partsB 44 a) (by omega) (fun t h => by have := hz t h; omega)
              rw [hT, if_pos rfl] at had
              have hw := txt _ (turns_opp.tab hT)
              have ql : (partsB 44 a).length ≤ ((partsB 44 a).map oppB).length := by simp
              have tk2 : List.take (partsB 44 a).length (((partsB 44 a).map oppB).map st) = ((partsB 44 a).map oppB).map st := List.take_of_length_le (by simp)
              refine ⟨_, ?_, rfl⟩
              unfold runF sA kA sB at *
              generalize (partsB 44 a).map oppB = Q at *
              generalize partsB 44 a = P at *
              simp -implicitDefEqProofs [L48, ht, tk, had, hw, tk2, ql]
            · rw [if_neg h6]
              by_cases h7 : k = 7
              · subst h7
                rw [if_pos rfl]
                have had := bkt_s (partsB 44 a) (by omega) (fun t h => by have := hz t h; omega)
                rw [hT, if_pos rfl] at had
                have hw := txt _ (turns_rev.tab hT)
                have ql : (partsB 44 a).length ≤ ((partsB 44 a).map revB).length := by simp
                have tk2 : List.take (partsB 44 a).length (((partsB 44 a).map revB).map st) = ((partsB 44 a).map revB).map st := List.take_of_length_le (by simp)
                refine ⟨_, ?_, rfl⟩
                unfold runF sA kA sB at *
                generalize (partsB 44 a).map revB = Q at *
                generalize partsB 44 a = P at *
                simp -implicitDefEqProofs [L48, ht, tk, had, hw, tk2, ql]
              · rw [if_neg h7]
                refine ⟨_, ?_, a, b, n, rfl⟩
                unfold runF sA kA sB at *
                generalize partsB 44 a = P at *
                simp -implicitDefEqProofs [L48, ht, tk, h1, h2, h3, h4, h5, h6, h7]
/-- The code and the text of the station behind a key, if it is possible. -/
def dk (a b : ByteArray) (n k x y : Int) (m : ByteArray) : Option (ByteArray × ByteArray) :=
  match pr a b k x y m with
  | none => none
  | some (a', b') => if okKey k x y m = true ∧ okSt a' b' (n + 1) = true then some (a', b') else none
def dkV (n : Int) : Option (ByteArray × ByteArray) → AV
  | some (a', b') => .tup [sA a' b' (n + 1), bl true]
  | none => .tup [sA ⟨#[]⟩ ⟨#[]⟩ 0, bl false]
theorem text_small {l : List ByteArray} (h : okTable l = true) : (textL 0 ⟨#[]⟩ l).size ≤ 1002000 := by
  obtain ⟨q1, q2⟩ := small_of h
  have hL := lensT_le l q2
  have hL2 : l.length * (1000 + 1) ≤ 1000 * 1001 := Nat.mul_le_mul_right 1001 q1
  have hz := textL_size l 0 ⟨#[]⟩
  have h0 : (⟨#[]⟩ : ByteArray).size = 0 := rfl
  omega
theorem okSt_small {a b : ByteArray} {n : Int} (h : okSt a b n = true) : okCode a = true ∧ a.size ≤ 59 ∧ b.size ≤ 12 ∧ 0 ≤ n ∧ n ≤ 1000 := by
  unfold okSt at h
  rw [Bool.and_eq_true, Bool.and_eq_true, Bool.and_eq_true, decide_eq_true_eq, decide_eq_true_eq] at h
  obtain ⟨h1, h2, h3⟩ := h
  unfold okMsg at h2
  rw [Bool.and_eq_true, decide_eq_true_eq] at h2
  exact ⟨h1, okCode_len h1, h2.2, h3⟩
theorem cutE_small (b : ByteArray) : (cutE b).size ≤ b.size := by
  unfold cutE trimSp
  split
  · rw [ByteArray.size_extract, ByteArray.size_extract]; omega
  · rw [ByteArray.size_extract]; omega
theorem pr_small {a b : ByteArray} {k x y : Int} {m a' b' : ByteArray} (hc : okCode a = true) (ha : a.size ≤ 59) (hb : b.size ≤ 12) (h : pr a b k x y m = some (a', b')) : a'.size ≤ 1002000 ∧ b'.size ≤ 20 := by
  have z1 : ∀ q, (lt1 q).size = 1 := fun _ => rfl
  have z3 : (⟨#[32]⟩ : ByteArray).size = 1 := rfl
  unfold pr at h
  split at h
  · split at h
    · cases h; exact ⟨by omega, by rw [ByteArray.size_append, z1]; omega⟩
    · cases h
  · split at h
    · split at h
      · cases h; exact ⟨by omega, by rw [ByteArray.size_append, ByteArray.size_append, z1, z3]; omega⟩
      · cases h
    · split at h
      · split at h
        · cases h; exact ⟨by omega, by have := cutE_small b; omega⟩
        · cases h
      · split at h
        · split at h
          · rename_i ho
            unfold addOk at ho
            rw [Bool.and_eq_true] at ho
            cases h; exact ⟨text_small ho.2, by omega⟩
          · cases h
        · split at h
          · split at h
            · rename_i ho
              cases h; exact ⟨text_small (swOk_t ho), by omega⟩
            · cases h
          · split at h
            · cases h; exact ⟨text_small (turns_opp.tab hc), by omega⟩
            · split at h
              · cases h; exact ⟨text_small (turns_rev.tab hc), by omega⟩
              · cases h
theorem do_s (a b : ByteArray) (n k x y : Int) (m : ByteArray) (hm : m.size ≤ 1073741824) (hs : okSt a b n = true) : ev E0 31 [sA a b n, kA k x y m] [] = some (dkV n (dk a b n k x y m), []) := by
  obtain ⟨hc, z1, z2, z3, z4⟩ := okSt_small hs
  obtain ⟨v, hv, hp⟩ := make_s a b n k x y m (by omega) (by omega) hm hc
  have hpl := plain_s k x y m
  have hw : IntKind.i64.wrap (n + 1) = n + 1 := wr64 (by omega) (by omega)
  have hsm := @pr_small a b k x y m
  unfold dk
  rw [e31]
  unfold runF
  generalize pr a b k x y m = R at *
  rcases R with _ | ⟨a', b'⟩
  · obtain ⟨a', b', n', rfl⟩ := hp
    unfold dkV sA kA at *
    simp -implicitDefEqProofs [L31, hv, hw]
  · obtain rfl := hp
    obtain ⟨q1, q2⟩ := hsm hc z1 z2 rfl
    have hst := station_s a' b' (n + 1) (by omega) (by omega)
    unfold dkV
    simp only
    unfold sA kA at *
    cases h1 : okKey k x y m with
    | false =>
      rw [h1] at hpl
      simp -implicitDefEqProofs [L31, hv, hw, hpl]
    | true =>
      rw [h1] at hpl
      cases h2 : okSt a' b' (n + 1) with
      | false =>
        rw [h2] at hst
        simp -implicitDefEqProofs [L31, hv, hw, hpl, hst]
      | true =>
        rw [h2] at hst
        simp -implicitDefEqProofs [L31, hv, hw, hpl, hst]
theorem key_s (a b : ByteArray) (n k x y : Int) (m : ByteArray) (ha : a.size ≤ 1073741824) (hb : b.size ≤ 1073741824) (hm : m.size ≤ 1073741824) : ev E0 8 [sA a b n, kA k x y m] [] = some (dkV n (if okSt a b n = true then dk a b n k x y m else none), []) := by
  have h1 := station_s a b n ha hb
  rw [e8]
  unfold runF
  cases hs : okSt a b n with
  | false =>
    rw [hs] at h1
    rw [if_neg (show ¬ (false = true) by decide)]
    unfold dkV sA kA at *
    simp -implicitDefEqProofs [L8, h1]
  | true =>
    rw [hs] at h1
    rw [if_pos (show true = true from rfl)]
    have h2 := do_s a b n k x y m hm hs
    generalize dk a b n k x y m = R at *
    unfold sA kA at *
    rcases R with _ | ⟨a', b'⟩
    · unfold dkV sA at *
      simp -implicitDefEqProofs [L8, h1, h2]
    · unfold dkV sA at *
      simp -implicitDefEqProofs [L8, h1, h2]
theorem key_i (a b : ByteArray) (n k x y : Int) (m : ByteArray) (ha : a.size ≤ 1073741824) (hb : b.size ≤ 1073741824) (hm : m.size ≤ 1073741824) : ev E0 11 [sA a b n, kA k x y m] [] = some (dkV n (if okSt a b n = true then dk a b n k x y m else none), []) := by
  have h1 := station_i a b n ha hb
  rw [e11]
  unfold runF
  cases hs : okSt a b n with
  | false =>
    rw [hs] at h1
    rw [if_neg (show ¬ (false = true) by decide)]
    unfold dkV sA kA at *
    simp -implicitDefEqProofs [L11, h1]
  | true =>
    rw [hs] at h1
    rw [if_pos (show true = true from rfl)]
    obtain ⟨hc, z1, z2, z3, z4⟩ := okSt_small hs
    obtain ⟨v, hv, hp⟩ := press_i a b n k x y m ha hb hm hc
    have hpl := plain_i k x y m
    have hw : IntKind.i64.wrap (n + 1) = n + 1 := wr64 (by omega) (by omega)
    have hsm := @pr_small a b k x y m
    unfold dk
    generalize pr a b k x y m = R at *
    cases h3 : okKey k x y m with
    | false =>
      rw [h3] at hpl
      have : (match R with | none => (none : Option (ByteArray × ByteArray)) | some (a', b') => if false = true ∧ okSt a' b' (n + 1) = true then some (a', b') else none) = none := by
        rcases R with _ | ⟨a', b'⟩
        · rfl
        · simp
      rw [this]
      unfold dkV sA kA at *
      simp -implicitDefEqProofs [L11, h1, hpl]
    | true =>
      rw [h3] at hpl
      rcases R with _ | ⟨a', b'⟩
      · obtain ⟨a', b', n', rfl⟩ := hp
        unfold dkV sA kA at *
        simp -implicitDefEqProofs [L11, h1, hv, hw, hpl]
      · obtain rfl := hp
        obtain ⟨q1, q2⟩ := hsm hc z1 z2 rfl
        have hst := station_i a' b' (n + 1) (by omega) (by omega)
        unfold dkV
        simp only
        unfold sA kA at *
        cases h2 : okSt a' b' (n + 1) with
        | false =>
          rw [h2] at hst
          simp -implicitDefEqProofs [L11, h1, hv, hw, hpl, hst]
        | true =>
          rw [h2] at hst
          simp -implicitDefEqProofs [L11, h1, hv, hw, hpl, hst]
end Go.Proofs.YtjagdiilcphhfaaGreatDoor.Ev
