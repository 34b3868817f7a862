/- Stations, plain: keys that lead back; the tables of stations. -/
import Derived.Test.YtjagdiilcphhfaaGreatDoorEvKe7
import Derived.Test.YtjagdiilcphhfaaGreatDoorEvTextOf
set_option linter.unusedVariables false
set_option linter.unusedSimpArgs false
namespace Go.Proofs.YtjagdiilcphhfaaGreatDoor.Ev
theorem parts_ne (b : UInt8) (l : List UInt8) : parts b l ≠ [] := by
  cases l with
  | nil => simp [parts]
  | cons c t =>
    rw [parts]
    split
    · simp
    · split <;> simp
theorem join_parts (b : UInt8) : ∀ l : List UInt8, Lib.join (parts b l) [b] = l
  | [] => by rw [parts, Lib.join_one]
  | c :: t => by
    have ih := join_parts b t
    have hne := parts_ne b t
    rw [parts]
    cases hq : parts b t with
    | nil => exact absurd hq hne
    | cons h r =>
      rw [hq, Lib.join_cons] at ih
      by_cases hc : c = b
      · rw [if_pos hc, Lib.join_cons]
        have e : Lib.joinTail [b] (h :: r) = b :: (h ++ Lib.joinTail [b] r) := by simp [Lib.joinTail]
        rw [e, ih, hc]
        rfl
      · rw [if_neg hc]
        show Lib.join ((c :: h) :: r) [b] = _
        rw [Lib.join_cons, List.cons_append, ih]
theorem tableOf_yes (a b : ByteArray) (n : Int) (ha : a.size ≤ 1073741824) (hb : b.size ≤ 1073741824) (h : okSt a b n = true) :
    ev E0 26 [.agg [st a, st b, i64 n]] [] = some (.tup [.agg [.sl 0 0 (partsB 44 a).length], bl true], [some ⟨9, 1, 1, false, (partsB 44 a).map st⟩]) ∧
    ev E0 25 [.agg [st a, st b, i64 n]] [] = some (.tup [.agg [.sl 0 0 (partsB 44 a).length], bl true], [some ⟨9, 1, 1, false, (partsB 44 a).map st⟩]) := by
  have h1 := station_s a b n ha hb
  have h2 := station_i a b n ha hb
  rw [h] at h1 h2
  have hc : okCode a = true := by
    unfold okSt at h
    rw [Bool.and_eq_true] at h
    exact h.1
  have p1 := (parse_s a ha).2 hc
  have p2 := (parse_i a ha).2 hc
  generalize partsB 44 a = P at *
  have h38 : ev E0 44 [.agg [st a, st b, i64 n]] [] = some (.tup [.agg [.sl 0 0 P.length], bl true], [some ⟨9, 1, 1, false, P.map st⟩]) := by
    rw [e44]
    unfold runF
    simp -implicitDefEqProofs [L44, p1]
  have h39 : ev E0 43 [.agg [st a, st b, i64 n]] [] = some (.agg [.sl 0 0 P.length], [some ⟨9, 1, 1, false, P.map st⟩]) := by
    rw [e43]
    unfold runF
    simp -implicitDefEqProofs [L43, p2]
  rw [e26, e25]
  unfold runF
  constructor
  · simp -implicitDefEqProofs [L26, h1, h38]
  · simp -implicitDefEqProofs [L25, h2, h39]
theorem tableOf_no (a b : ByteArray) (n : Int) (ha : a.size ≤ 1073741824) (hb : b.size ≤ 1073741824) (h : okSt a b n = false) :
    ev E0 26 [.agg [st a, st b, i64 n]] [] = some (.tup [.agg [.v (.slice none 0 0)], bl false], []) ∧
    ev E0 25 [.agg [st a, st b, i64 n]] [] = some (.tup [.agg [.v (.slice none 0 0)], bl false], []) := by
  have h1 := station_s a b n ha hb
  have h2 := station_i a b n ha hb
  rw [h] at h1 h2
  rw [e26, e25]
  unfold runF
  constructor
  · simp -implicitDefEqProofs [L26, h1]
  · simp -implicitDefEqProofs [L25, h2]
theorem text_back (a : ByteArray) : textL 0 ⟨#[]⟩ (partsB 44 a) = a := by
  rw [textL_join]
  apply B_inj
  rw [B_mk]
  unfold joinB partsB
  rw [List.map_map]
  have e3 : (parts 44 (B a)).map ((fun x => x.data.toList) ∘ mkB) = parts 44 (B a) := by
    conv => rhs; rw [← List.map_id (parts 44 (B a))]
    exact List.map_congr_left fun y _ => B_mkB y
  rw [e3]
  exact join_parts 44 (B a)
theorem msg_last {n : Nat} {b : ByteArray} (h : okMsg n b = true) (h0 : 0 < b.size) : (B b).getD (b.size - 1) 0 ≠ 32 := by
  have hm : msgL n b (B b) 0 = true := by
    unfold okMsg at h
    rw [Bool.and_eq_true] at h
    exact h.1
  have key : ∀ (t : List UInt8) (i : Nat), (B b).drop i = t → msgL n b t i = true → t ≠ [] → t.getLast? ≠ some 32 := by
    intro t
    induction t with
    | nil => intro _ _ _ h; exact absurd rfl h
    | cons c t ih =>
      intro i hd hk _
      rw [msgL, Bool.and_eq_true] at hk
      have hd2 : (B b).drop (i + 1) = t := by rw [← List.tail_drop, hd]; rfl
      have hlen : (B b).length = i + (t.length + 1) := by
        have := congrArg List.length hd
        rw [List.length_drop, List.length_cons] at this
        omega
      by_cases ht : t = []
      · subst ht
        intro e
        have hc : c = 32 := by simpa using e
        subst hc
        have h1 := hk.1
        unfold chOk at h1
        rw [if_pos (show UInt8.toNat 32 = 32 from rfl)] at h1
        unfold spOk at h1
        rw [Bool.not_eq_true', Bool.or_eq_false_iff, Bool.or_eq_false_iff, decide_eq_false_iff_not, decide_eq_false_iff_not] at h1
        rw [B_len, List.length_nil] at hlen
        omega
      · cases t with
        | nil => exact absurd rfl ht
        | cons d u =>
          rw [List.getLast?_cons_cons]
          exact ih (i + 1) hd2 hk.2 ht
  intro e
  have hne : B b ≠ [] := fun e2 => by
    have := congrArg List.length e2
    rw [B_len, List.length_nil] at this
    omega
  have := key (B b) 0 rfl hm hne
  apply this
  rw [List.getLast?_eq_getElem?, B_len, ← e, List.getD_eq_getElem?_getD]
  have hl : b.size - 1 < (B b).length := by rw [B_len]; omega
  rw [List.getElem?_eq_getElem hl]
  rfl
theorem trim_msg {n : Nat} {b : ByteArray} (h : okMsg n b = true) : trimSp b = b := by
  unfold trimSp
  rw [if_neg]
  intro hc
  exact msg_last h hc.1 hc.2
theorem ext_app (b c : ByteArray) : (b ++ c).extract 0 b.size = b := by
  apply B_inj
  rw [B_extract, B_append, List.drop_zero, ← B_len, List.take_left]
theorem cutE_one1 {n : Nat} {b : ByteArray} (h : okMsg n b = true) (q : Nat) : cutE (b ++ lt1 q) = b := by
  unfold cutE
  have hz : (b ++ lt1 q).size - 1 = b.size := by
    rw [ByteArray.size_append, show (lt1 q).size = 1 from rfl]
    omega
  rw [hz, ext_app, trim_msg h]
theorem cutE_word (b : ByteArray) (q : Nat) : cutE ((b ++ ⟨#[32]⟩) ++ lt1 q) = b := by
  unfold cutE
  have h1 : (lt1 q).size = 1 := rfl
  have h2 : (⟨#[32]⟩ : ByteArray).size = 1 := rfl
  have hz : ((b ++ (⟨#[32]⟩ : ByteArray)) ++ lt1 q).size - 1 = (b ++ (⟨#[32]⟩ : ByteArray)).size := by
    rw [ByteArray.size_append, h1]
    omega
  rw [hz, ext_app]
  unfold trimSp
  have hs : (b ++ (⟨#[32]⟩ : ByteArray)).size = b.size + 1 := by rw [ByteArray.size_append, h2]
  have hg : (B (b ++ (⟨#[32]⟩ : ByteArray))).getD b.size 0 = 32 := by
    rw [B_append, List.getD_eq_getElem?_getD, List.getElem?_append_right (by rw [B_len]; exact Nat.le_refl _), B_len, Nat.sub_self]
    rfl
  rw [hs, Nat.add_sub_cancel, if_pos ⟨by omega, hg⟩, ext_app]
theorem okSt_def {a b : ByteArray} {n : Int} : okSt a b n = true ↔ okCode a = true ∧ okMsg (partsB 44 a).length b = true ∧ 0 ≤ n ∧ n ≤ 1000 := by
  unfold okSt
  rw [Bool.and_eq_true, Bool.and_eq_true, Bool.and_eq_true, decide_eq_true_eq, decide_eq_true_eq]
theorem dk_def {a b : ByteArray} {n k x y : Int} {m a' b' : ByteArray} : dk a b n k x y m = some (a', b') ↔ pr a b k x y m = some (a', b') ∧ okKey k x y m = true ∧ okSt a' b' (n + 1) = true := by
  unfold dk
  cases hp : pr a b k x y m with
  | none => simp
  | some p =>
    obtain ⟨c, d⟩ := p
    show (if okKey k x y m = true ∧ okSt c d (n + 1) = true then some (c, d) else none) = _ ↔ _
    by_cases hc : okKey k x y m = true ∧ okSt c d (n + 1) = true
    · rw [if_pos hc]
      constructor
      · intro h; cases h; exact ⟨rfl, hc⟩
      · rintro ⟨h, _⟩; exact h
    · rw [if_neg hc]
      constructor
      · intro h; cases h
      · rintro ⟨h, h2⟩; cases h; exact absurd h2 hc
/-- The key that leads back. -/
def bk (k x y : Int) (m : ByteArray) : Int × Int × Int × ByteArray := if k = 1 ∨ k = 2 then (3, 0, 0, ⟨#[]⟩) else (k, x, y, m)
theorem key_back {a b : ByteArray} {n k x y : Int} {m a' b' : ByteArray} (hs : okSt a b n = true) (h : dk a b n k x y m = some (a', b')) (hn : n + 1 ≠ 1000) (h3 : k ≠ 3) (h4 : k ≠ 4) :
    dk a' b' (n + 1) (bk k x y m).1 (bk k x y m).2.1 (bk k x y m).2.2.1 (bk k x y m).2.2.2 = some (a, b) := by
  obtain ⟨hp, hk, hs2⟩ := dk_def.1 h
  obtain ⟨c1, c2, c3, c4⟩ := okSt_def.1 hs
  obtain ⟨d1, d2, d3, d4⟩ := okSt_def.1 hs2
  have hend : okSt a b (n + 1 + 1) = true := okSt_def.2 ⟨c1, c2, by omega, by omega⟩
  have hT : okTable (partsB 44 a) = true := c1
  unfold pr at hp
  by_cases h1 : k = 1
  · subst h1
    rw [if_pos rfl] at hp
    split at hp
    · cases hp
      refine dk_def.2 ⟨?_, rfl, hend⟩
      show pr a (b ++ lt1 x.toNat) 3 0 0 ⟨#[]⟩ = _
      unfold pr
      rw [if_neg (by decide), if_neg (by decide), if_pos rfl, if_pos, cutE_one1 c2]
      intro e
      have := congrArg ByteArray.size e
      rw [ByteArray.size_append, show (lt1 x.toNat).size = 1 from rfl] at this
      have h0 : (⟨#[]⟩ : ByteArray).size = 0 := rfl
      omega
    · cases hp
  · rw [if_neg h1] at hp
    by_cases h2 : k = 2
    · subst h2
      rw [if_pos rfl] at hp
      split at hp
      · cases hp
        refine dk_def.2 ⟨?_, rfl, hend⟩
        show pr a ((b ++ ⟨#[32]⟩) ++ lt1 x.toNat) 3 0 0 ⟨#[]⟩ = _
        unfold pr
        rw [if_neg (by decide), if_neg (by decide), if_pos rfl, if_pos, cutE_word]
        intro e
        have := congrArg ByteArray.size e
        rw [ByteArray.size_append, show (lt1 x.toNat).size = 1 from rfl] at this
        have h0 : (⟨#[]⟩ : ByteArray).size = 0 := rfl
        omega
      · cases hp
    · rw [if_neg h2, if_neg h3, if_neg h4] at hp
      have hb : bk k x y m = (k, x, y, m) := by unfold bk; rw [if_neg (by rintro (e | e); exact h1 e; exact h2 e)]
      rw [hb]
      show dk a' b' (n + 1) k x y m = _
      by_cases h5 : k = 5
      · subst h5
        rw [if_pos rfl] at hp
        split at hp
        · rename_i ho
          cases hp
          refine dk_def.2 ⟨?_, hk, hend⟩
          have ho2 := ho
          unfold swOk at ho2
          rw [Bool.and_eq_true, Bool.and_eq_true] at ho2
          obtain ⟨i, rfl, hi, -⟩ := at_letter ho2.2.1
          obtain ⟨j, rfl, hj, -⟩ := at_letter ho2.2.2
          unfold pr
          rw [if_neg (by decide), if_neg (by decide), if_neg (by decide), if_neg (by decide), if_pos rfl, text_parts (swOk_t ho)]
          rw [Int.toNat_natCast, Int.toNat_natCast]
          have hw : swOk (swT (partsB 44 a) i j) (i : Int) (j : Int) = true := by
            have q1 := ho2.2.1
            have q2 := ho2.2.2
            unfold swOk okLetter at *
            rw [swT_len, swT_ok hT hi hj, q1, q2]
            rfl
          rw [if_pos hw, swT_twice hi hj, text_back]
        · cases hp
      · rw [if_neg h5] at hp
        by_cases h6 : k = 6
        · subst h6
          rw [if_pos rfl] at hp
          cases hp
          refine dk_def.2 ⟨?_, hk, hend⟩
          unfold pr
          rw [if_neg (by decide), if_neg (by decide), if_neg (by decide), if_neg (by decide), if_neg (by decide), if_pos rfl, text_parts (turns_opp.tab hT), turns_opp.twice hT, text_back]
        · rw [if_neg h6] at hp
          by_cases h7 : k = 7
          · subst h7
            rw [if_pos rfl] at hp
            cases hp
            refine dk_def.2 ⟨?_, hk, hend⟩
            unfold pr
            rw [if_neg (by decide), if_neg (by decide), if_neg (by decide), if_neg (by decide), if_neg (by decide), if_neg (by decide), if_pos rfl, text_parts (turns_rev.tab hT), turns_rev.twice hT, text_back]
          · rw [if_neg h7] at hp
            cases hp
end Go.Proofs.YtjagdiilcphhfaaGreatDoor.Ev
