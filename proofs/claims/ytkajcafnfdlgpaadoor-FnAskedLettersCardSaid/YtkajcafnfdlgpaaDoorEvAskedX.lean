/- Parts, depths, places and games, told in full; and what is true of them. -/
import Derived.Test.YtkajcafnfdlgpaaDoorEvHeardX
import Derived.Test.YtkajcafnfdlgpaaDoorEvFirstI
import Derived.Test.YtkajcafnfdlgpaaDoorEvPartByH
set_option linter.unusedVariables false
set_option linter.unusedSimpArgs false
namespace Go.Proofs.YtkajcafnfdlgpaaDoor.Ev
-- ---------------------------------------------------------------- fuel
theorem dep_fuel {ms : List ByteArray} {l : List Nat} (hne : l ≠ []) (hv : ∀ x ∈ l, x < ms.length) (ha : Apart ms l) {n : Nat} (h : l.length ≤ n) (hn : n ≤ 1073741824) : depN ms n l = depN ms l.length l := by
  have h1 := depth_s ms n l h hn hne hv ha
  have h2 := depth_s ms l.length l (Nat.le_refl _) (by omega) hne hv ha
  rw [h1] at h2
  injection h2 with h2
  injection h2 with h2 h3
  injection h2 with h2
  injection h2 with h4 h5
  injection h5 with h5 h6
  injection h4 with h4
  injection h4 with h7 h8
  injection h5 with h5
  injection h5 with h9 h10
  exact Prod.ext (by omega) h10
/-- The scan takes the least. -/
def least (ms : List ByteArray) (D : List Nat → Nat × Int) (l : List Nat) (o : Option (Nat × Nat)) : Prop := ∀ p w, o = some (p, w) → vainB ms p l = false ∧ w = wst ms D l p + 1
theorem scan_least (ms : List ByteArray) (D : List Nat → Nat × Int) (l : List Nat) : ∀ (k q : Nat) (o : Option (Nat × Nat)), least ms D l o → least ms D l (scan ms D l k q o)
  | 0, q, o, h => h
  | k + 1, q, o, h => by
    unfold scan
    split
    · exact scan_least ms D l k (q + 1) o h
    · rename_i hv
      refine scan_least ms D l k (q + 1) _ ?_
      intro p w e
      unfold upd at e
      split at e
      · simp only [Option.some.injEq, Prod.mk.injEq] at e
        obtain ⟨rfl, rfl⟩ := e
        exact ⟨by simpa using hv, rfl⟩
      · rename_i p0 b0
        split at e
        · simp only [Option.some.injEq, Prod.mk.injEq] at e
          obtain ⟨rfl, rfl⟩ := e
          exact ⟨by simpa using hv, rfl⟩
        · exact h p w e
/-- What the depth is, of two letters at least. -/
theorem dep_best {ms : List ByteArray} {l : List Nat} (ha : Apart ms l) (h2 : 2 ≤ l.length) : ∃ p : Nat, p < 5 ∧ vainB ms p l = false ∧ depN ms l.length l = (wst ms (depN ms (l.length - 1)) l p + 1, (p : Int)) := by
  obtain ⟨n, hn⟩ : ∃ n, l.length = n + 1 := ⟨l.length - 1, by omega⟩
  obtain ⟨j, hj, hj2⟩ := not_vain ha h2
  obtain ⟨p, w, hs⟩ := scan_some ms (depN ms n) l 5 0 none ⟨j, by omega, by omega, hj2⟩
  obtain ⟨h3, h4⟩ := scan_least ms (depN ms n) l 5 0 none (fun p w h => by cases h) p w hs
  have hd : depN ms l.length l = finD (scan ms (depN ms n) l 5 0 none) := by rw [hn, depN, if_neg (by omega)]
  have hlt : ∀ (k q : Nat) (o : Option (Nat × Nat)), (∀ p w, o = some (p, w) → p < q) → ∀ p w, scan ms (depN ms n) l k q o = some (p, w) → p < q + k := by
    intro k
    induction k with
    | zero => intro q o h p w e; exact h p w e
    | succ k ih =>
      intro q o h p w e
      unfold scan at e
      split at e
      · have := ih (q + 1) o (fun p w e => by have := h p w e; omega) p w e
        omega
      · have := ih (q + 1) _ (fun p w e => by
          unfold upd at e
          split at e
          · simp only [Option.some.injEq, Prod.mk.injEq] at e; omega
          · split at e
            · simp only [Option.some.injEq, Prod.mk.injEq] at e; omega
            · have := h p w e; omega) p w e
        omega
  refine ⟨p, by have := hlt 5 0 none (fun p w h => by cases h) p w hs; omega, h3, ?_⟩
  rw [hd, hs, hn, Nat.add_sub_cancel]
  show (w, (p : Int)) = _
  rw [h4]
theorem part_nodup {ms : List ByteArray} {q a : Nat} {l : List Nat} : ∀ x ∈ partN ms q a l, x ∈ l := fun x hx => (List.mem_filter.1 hx).1
theorem dep_lt {ms : List ByteArray} : ∀ (n : Nat) (l : List Nat), l.length ≤ n → n ≤ 1073741824 → l ≠ [] → (∀ x ∈ l, x < ms.length) → Apart ms l → (depN ms l.length l).1 ≤ l.length - 1
  | 0, l, h, _, hne, _, _ => absurd (List.eq_nil_of_length_eq_zero (by omega)) hne
  | n + 1, l, h, hn, hne, hv, ha => by
    by_cases h1 : l.length ≤ 1
    · have h3 : l.length = 1 := by
        have : l.length ≠ 0 := fun e => hne (List.eq_nil_of_length_eq_zero e)
        omega
      rw [h3, depN, if_pos h3]
      exact Nat.zero_le _
    · obtain ⟨p, _, h3, h4⟩ := dep_best ha (by omega)
      rw [h4]
      have hg : ∀ a, gw (depN ms (l.length - 1)) (partN ms p a l) ≤ l.length - 2 := by
        intro a
        unfold gw
        split
        · exact Nat.zero_le _
        · rename_i hp
          have hlt := part_lt (a := a) h3
          have hv2 : ∀ x ∈ partN ms p a l, x < ms.length := fun x hx => hv x (part_nodup x hx)
          rw [dep_fuel hp hv2 (ha.part p a) (by omega) (by omega)]
          have := dep_lt n (partN ms p a l) (by omega) (by omega) hp hv2 (ha.part p a)
          omega
      have k0 := hg 0
      have k1 := hg 1
      have k2 := hg 2
      show wst ms (depN ms (l.length - 1)) l p + 1 ≤ l.length - 1
      unfold wst
      omega
/-- The depth of a part that is not empty; nothing else counts. -/
def gp (ms : List ByteArray) (p : List Nat) : Nat := if p = [] then 0 else (depN ms p.length p).1
theorem dep_parts {ms : List ByteArray} {l : List Nat} (hl : l.length ≤ 1073741824) (hv : ∀ x ∈ l, x < ms.length) (ha : Apart ms l) (h2 : 2 ≤ l.length) : ∃ p : Nat, p < 5 ∧ vainB ms p l = false ∧ (depN ms l.length l).2 = p ∧ (depN ms l.length l).1 = max (max (gp ms (partN ms p 0 l)) (gp ms (partN ms p 1 l))) (gp ms (partN ms p 2 l)) + 1 := by
  obtain ⟨p, h0, h3, h4⟩ := dep_best ha h2
  have hg : ∀ a, gw (depN ms (l.length - 1)) (partN ms p a l) = gp ms (partN ms p a l) := by
    intro a
    unfold gw gp
    split
    · rfl
    · rename_i hp
      have hlt := part_lt (a := a) h3
      rw [dep_fuel hp (fun x hx => hv x (part_nodup x hx)) (ha.part p a) (by omega) (by omega)]
  refine ⟨p, h0, h3, by rw [h4], ?_⟩
  rw [h4]
  show wst ms (depN ms (l.length - 1)) l p + 1 = _
  unfold wst
  rw [hg, hg, hg]
theorem vainP_mem (ms : List ByteArray) (l : List Nat) : ∀ (k q : Nat) (c : Int), c ∈ vainP ms l k q → ∃ j : Nat, c = j ∧ vainB ms j l = true
  | 0, q, c, h => by simp [vainP] at h
  | k + 1, q, c, h => by
    unfold vainP at h
    split at h
    · rename_i hv
      rcases List.mem_cons.1 h with rfl | h
      · exact ⟨q, rfl, hv⟩
      · exact vainP_mem ms l k (q + 1) c h
    · exact vainP_mem ms l k (q + 1) c h
-- ---------------------------------------------------------------- the game
theorem gp_two {ms : List ByteArray} {p : List Nat} (hv : ∀ x ∈ p, x < ms.length) (hl : p.length ≤ 1073741824) (ha : Apart ms p) (h : gp ms p = 0) : p.length < 2 := by
  rcases Nat.lt_or_ge p.length 2 with h2 | h2
  · exact h2
  · exfalso
    obtain ⟨q, _, _, _, h4⟩ := dep_parts hl hv ha h2
    unfold gp at h
    rw [if_neg (fun e => by rw [e] at h2; simp at h2)] at h
    omega
theorem fir_of {ms : List ByteArray} {F : List Nat → Bool} {l : List Nat} : ∀ (k q p : Nat), q ≤ p → p < q + k → vainB ms p l = false → winQ ms F l p = true → firS ms F l k q = true
  | 0, q, p, h1, h2, _, _ => by omega
  | k + 1, q, p, h1, h2, h3, h4 => by
    unfold firS
    by_cases h : p = q
    · subst h
      rw [h3, h4]
      rfl
    · rw [fir_of k (q + 1) p (by omega) (by omega) h3 h4, Bool.or_true]
theorem fir_one {ms : List ByteArray} {l : List Nat} (hl : l.length ≤ 1073741824) (hv : ∀ x ∈ l, x < ms.length) (ha : Apart ms l) (h2 : 2 ≤ l.length) (h : (depN ms l.length l).1 = 1) : firN ms l.length l = true := by
  obtain ⟨p, h0, h3, _, h5⟩ := dep_parts hl hv ha h2
  obtain ⟨n, hn⟩ : ∃ n, l.length = n + 1 := ⟨l.length - 1, by omega⟩
  have hk : ∀ a, gp ms (partN ms p a l) = 0 → ok1 (firN ms n) (partN ms p a l) = true := by
    intro a h
    have hlt := part_lt (a := a) h3
    have := gp_two (fun x hx => hv x (part_nodup x hx)) (by omega) (ha.part p a) h
    unfold ok1
    rw [decide_eq_true this]
    rfl
  rw [hn, firN]
  refine fir_of 5 0 p (by omega) (by omega) h3 ?_
  unfold winQ
  rw [hk 0 (by omega), hk 1 (by omega), hk 2 (by omega)]
  rfl
-- ---------------------------------------------------------------- what is asked
def sameA (ms : List ByteArray) (letter : Nat) (asks : List Int) (i : Nat) : Bool := asks.all fun p => ansN ms p.toNat i == ansN ms p.toNat letter
theorem ask_tells {ms : List ByteArray} {letter : Nat} : ∀ (n : Nat) (l : List Nat), l.length ≤ n → letter ∈ l → Apart ms l → (l.filter (sameA ms letter (askN ms letter n l))) = [letter]
  | 0, l, h, hm, _ => by
    have := List.eq_nil_of_length_eq_zero (Nat.le_zero.1 h)
    rw [this] at hm
    cases hm
  | n + 1, l, h, hm, ha => by
    unfold askN
    split
    · rename_i h1
      have : l = [letter] := len_one (by
        have : l.length ≠ 0 := fun e => by rw [List.eq_nil_of_length_eq_zero e] at hm; cases hm
        omega) hm
      rw [this]
      simp [sameA]
    · rename_i h1
      obtain ⟨p, hp, hv⟩ := dep_place ha (by omega)
      rw [hp, Int.toNat_natCast]
      have hlt := part_lt (a := ansN ms p letter) hv
      have ih := ask_tells n (partN ms p (ansN ms p letter) l) (by omega) (part_mem hm) (ha.part _ _)
      have hf : (sameA ms letter ((p : Int) :: askN ms letter n (partN ms p (ansN ms p letter) l))) = fun i => (ansN ms p i == ansN ms p letter) && sameA ms letter (askN ms letter n (partN ms p (ansN ms p letter) l)) i := by
        funext i
        unfold sameA
        rw [List.all_cons, Int.toNat_natCast]
      rw [hf]
      have hff : (l.filter fun i => (ansN ms p i == ansN ms p letter) && sameA ms letter (askN ms letter n (partN ms p (ansN ms p letter) l)) i) = (partN ms p (ansN ms p letter) l).filter (sameA ms letter (askN ms letter n (partN ms p (ansN ms p letter) l))) := by
        unfold partN
        rw [List.filter_filter]
        congr 1
        funext i
        exact Bool.and_comm _ _
      rw [hff]
      exact ih
theorem askN_places {ms : List ByteArray} {letter : Nat} : ∀ (n : Nat) (l : List Nat), Apart ms l → ∀ c ∈ askN ms letter n l, ∃ p : Nat, c = p ∧ p < 5
  | 0, l, _, c, h => by simp [askN] at h
  | n + 1, l, ha, c, h => by
    unfold askN at h
    split at h
    · simp at h
    · rename_i h1
      obtain ⟨p, h0, _, h4⟩ := dep_best ha (by omega)
      rcases List.mem_cons.1 h with rfl | h
      · exact ⟨p, by rw [h4], h0⟩
      · exact askN_places n _ (ha.part _ _) c h
-- ---------------------------------------------------------------- parts
theorem part_sum (ms : List ByteArray) (q : Nat) : ∀ l : List Nat, (partN ms q 0 l).length + (partN ms q 1 l).length + (partN ms q 2 l).length = l.length
  | [] => rfl
  | k :: t => by
    have ih := part_sum ms q t
    unfold partN at ih ⊢
    simp only [List.filter_cons]
    rcases ansN_cases ms q k with h | h | h <;> simp [h] <;> omega
theorem asc_mono {ms : List ByteArray} {lo lo' : Int} (h : lo' ≤ lo) : ∀ {l : List Int}, asc ms lo l = true → asc ms lo' l = true
  | [], _ => rfl
  | c :: t, hc => by
    unfold asc at hc ⊢
    simp only [Bool.and_eq_true, decide_eq_true_eq] at hc ⊢
    exact ⟨hc.1, by omega, hc.2.2⟩
theorem asc_filter {ms : List ByteArray} (f : Int → Bool) : ∀ (l : List Int) (lo : Int), asc ms lo l = true → asc ms lo (l.filter f) = true
  | [], _, _ => rfl
  | c :: t, lo, hc => by
    unfold asc at hc
    simp only [Bool.and_eq_true, decide_eq_true_eq] at hc
    have ih := asc_filter f t c hc.2.2
    rw [List.filter_cons]
    split
    · unfold asc
      simp only [Bool.and_eq_true, decide_eq_true_eq]
      exact ⟨hc.1, hc.2.1, ih⟩
    · exact asc_mono (by omega) ih
theorem i64_inj : ∀ {a b : List Int}, a.map i64 = b.map i64 → a = b
  | [], [], _ => rfl
  | [], y :: b, h => by simp at h
  | x :: a, [], h => by simp at h
  | x :: a, y :: b, h => by
    rw [List.map_cons, List.map_cons] at h
    injection h with h1 h2
    injection h1 with h1
    injection h1 with _ h1
    rw [h1, i64_inj h2]
/-- A part's letters are letters in order. -/
theorem part_letters {ms : List ByteArray} {l : List Int} {ln : List Nat} (h : okLetters ms l = true) (e : i64s l = i64n ln) (q a : Nat) (hne : partN ms q a ln ≠ []) : ∃ l' : List Int, i64s l' = i64n (partN ms q a ln) ∧ okLetters ms l' = true ∧ l'.length ≤ l.length := by
  unfold okLetters at h
  rw [Bool.and_eq_true] at h
  have hl : l = ln.map (fun n : Nat => (n : Int)) := by
    have h2 : l.map i64 = (ln.map (fun n : Nat => (n : Int))).map i64 := by
      rw [List.map_map]; exact e
    exact i64_inj h2
  refine ⟨l.filter (fun c => ansN ms q c.toNat == a), ?_, ?_, List.length_filter_le _ _⟩
  · subst hl
    unfold i64s i64n partN
    rw [List.filter_map, List.map_map]
    congr 1
  · unfold okLetters
    rw [Bool.and_eq_true]
    refine ⟨asc_filter _ _ _ h.1, ?_⟩
    rw [decide_eq_true_eq, List.length_pos_iff]
    subst hl
    rw [List.filter_map]
    intro hn
    rw [List.map_eq_nil_iff] at hn
    exact hne hn
end Go.Proofs.YtkajcafnfdlgpaaDoor.Ev
