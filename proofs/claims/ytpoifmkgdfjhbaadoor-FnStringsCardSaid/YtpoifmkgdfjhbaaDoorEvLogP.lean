/- Logs on lists of bytes: records, numerals, checksums, lines, the records at the start of a text, valid logs. -/
import Derived.Test.YtpoifmkgdfjhbaaDoorEvStation
import Derived.Lib.ItoaNum
import Derived.Lib.Bytealg
set_option linter.unusedVariables false
set_option linter.unusedSimpArgs false
namespace Go.Proofs.YtpoifmkgdfjhbaaDoor.Ev.Lg
def mk (l : List UInt8) : ByteArray := mkB l
theorem B_mk' (l : List UInt8) : B (mk l) = l := B_mk l
theorem mk_B (s : ByteArray) : mk (B s) = s := B_inj (B_mk _)
theorem mk_size (l : List UInt8) : (mk l).size = l.length := mkB_size l
theorem extract_mk (s : ByteArray) (i j : Nat) : s.extract i j = mk (((B s).take j).drop i) := B_inj (by rw [B_extract, B_mk'])
theorem from_mk (s : ByteArray) (i : Nat) : s.extract i s.size = mk ((B s).drop i) := B_inj (by rw [B_from, B_mk'])
theorem B_one (c : UInt8) : B ⟨#[c]⟩ = [c] := rfl
theorem size_one (c : UInt8) : (⟨#[c]⟩ : ByteArray).size = 1 := rfl
theorem size_list (l : List UInt8) : (⟨l.toArray⟩ : ByteArray).size = l.length := by simp [ByteArray.size]
theorem idx_neg (l : List UInt8) (c : UInt8) : (0 ≤ Lib.indexByte l c) ↔ c ∈ l := by
  induction l with
  | nil => simp [Lib.indexByte]
  | cons b l ih =>
    unfold Lib.indexByte
    by_cases h : b = c
    · subst h; simp
    · have hge := Lib.indexByte_ge l c
      rw [if_neg (by simpa using h)]
      by_cases h2 : Lib.indexByte l c = -1
      · rw [if_pos (by simpa using h2)]
        have h3 : c ∉ l := fun hm => by have := ih.2 hm; omega
        simp [h3, Ne.symm h]
      · rw [if_neg (by simpa using h2)]
        have h3 : c ∈ l := ih.1 (by omega)
        constructor
        · intro _; exact List.mem_cons_of_mem _ h3
        · intro _; omega
theorem upto_notin {b : UInt8} {l : List UInt8} (h : b ∉ l) : upto b l = l := by
  induction l with
  | nil => rfl
  | cons c t ih =>
    have hc : (c != b) = true := by
      rw [bne_iff_ne]
      intro e
      exact h (by simp [e])
    have h2 := ih (fun hm => h (List.mem_cons_of_mem _ hm))
    unfold upto at h2 ⊢
    rw [List.takeWhile_cons, hc, if_pos rfl, h2]
theorem upto_split {b : UInt8} {l : List UInt8} (h : b ∈ l) : l = upto b l ++ b :: l.drop ((upto b l).length + 1) := by
  induction l with
  | nil => cases h
  | cons c t ih =>
    by_cases hc : c = b
    · subst hc
      simp [upto]
    · have h2 : b ∈ t := by
        rcases List.mem_cons.1 h with h | h
        · exact absurd h.symm hc
        · exact h
      have h5 : (c != b) = true := by simpa using hc
      have e : upto b (c :: t) = c :: upto b t := by simp [upto, h5]
      rw [e]
      simp only [List.cons_append, List.length_cons, List.drop_succ_cons]
      rw [← ih h2]
theorem upto_append {b : UInt8} {l r : List UInt8} (h : b ∉ l) : upto b (l ++ b :: r) = l := by
  induction l with
  | nil => simp [upto]
  | cons c t ih =>
    have hc : ¬ c = b := fun e => h (by simp [e])
    have h5 : (c != b) = true := by simpa using hc
    simp only [List.cons_append]
    have e : upto b (c :: (t ++ b :: r)) = c :: upto b (t ++ b :: r) := by simp [upto, h5]
    rw [e, ih (fun hm => h (List.mem_cons_of_mem _ hm))]
theorem notin_upto (b : UInt8) (l : List UInt8) : b ∉ upto b l := by
  induction l with
  | nil => simp [upto]
  | cons c t ih =>
    unfold upto at ih ⊢
    rw [List.takeWhile_cons]
    by_cases hc : (c != b) = true
    · rw [if_pos hc]
      have : ¬ b = c := by
        rw [bne_iff_ne] at hc
        exact fun e => hc e.symm
      simp only [List.mem_cons, not_or]
      exact ⟨this, ih⟩
    · rw [if_neg hc]
      simp
theorem take_of_split {l a r : List UInt8} (h : l = a ++ r) : l.take a.length = a := by subst h; exact List.take_left' rfl
theorem drop_of_split {l a r : List UInt8} (h : l = a ++ r) : l.drop a.length = r := by subst h; exact List.drop_left' rfl
theorem cut_one (l : List UInt8) (b : UInt8) : Lib.cut l [b] = (upto b l, l.drop ((upto b l).length + 1), decide (b ∈ l)) := by
  unfold Lib.cut
  rw [index_one]
  by_cases h : b ∈ l
  · rw [if_pos h, if_pos (by omega)]
    have e : (((upto b l).length : Int)).toNat = (upto b l).length := by omega
    rw [e]
    have h2 := upto_split h
    have h3 : l.take (upto b l).length = upto b l := take_of_split h2
    rw [h3, decide_eq_true h]
    rfl
  · rw [if_neg h, if_neg (by omega), upto_notin h, decide_eq_false h, List.drop_eq_nil_of_le (by omega)]
theorem upto_len (b : UInt8) (l : List UInt8) : (upto b l).length ≤ l.length := by
  unfold upto
  exact (List.takeWhile_sublist _).length_le
theorem parts_len (b : UInt8) (l : List UInt8) : (parts b l).length = l.count b + 1 := by
  induction l with
  | nil => rfl
  | cons c t ih =>
    unfold parts
    by_cases h : c = b
    · rw [if_pos h, List.length_cons, ih]
      simp [h]
    · rw [if_neg h, List.count_cons_of_ne h]
      obtain ⟨r, hr⟩ := parts_head b t
      rw [hr] at ih ⊢
      simpa using ih
def okB (c : UInt8) : Bool := decide (32 ≤ c.toNat) && decide (c.toNat ≤ 126)
def okC (c : UInt8) : Bool := okB c && !(c == 35)
def okRec (c r : ByteArray) : Bool := !(B c == []) && ((B c).all okC && decide ((c.size : Int) ≤ 160)) && !(B c).contains 64 && ((B r).all okC && decide ((r.size : Int) ≤ 250))
theorem all_and (p q : UInt8 → Bool) (l : List UInt8) : (l.all p && l.all q) = l.all fun x => p x && q x := by
  induction l with
  | nil => rfl
  | cons c l ih =>
    simp only [List.all_cons, ← ih]
    cases p c <;> cases q c <;> cases l.all p <;> cases l.all q <;> rfl
theorem all_not (l : List UInt8) (b : UInt8) : l.all (fun c => !(c == b)) = !l.contains b := by
  induction l with
  | nil => rfl
  | cons c l ih =>
    simp only [List.all_cons, List.contains_cons, ih]
    rw [Bool.not_or]
    congr 1
    rw [Bool.beq_comm]
theorem dec_len : ∀ (k u : Nat), u < 10 ^ (k + 1) → (Lib.decDigits u).length ≤ k + 1 := by
  intro k
  induction k with
  | zero =>
    intro u h
    rw [Lib.decDigits, dif_pos (by simpa using h)]
    simp
  | succ k ih =>
    intro u h
    by_cases h1 : u < 10
    · rw [Lib.decDigits, dif_pos h1]
      simp
    · rw [Lib.decDigits, dif_neg h1]
      have h2 : u / 10 < 10 ^ (k + 1) := by
        rw [Nat.pow_succ] at h
        exact Nat.div_lt_of_lt_mul (by rw [Nat.mul_comm]; exact h)
      have := ih _ h2
      simp only [List.length_append, List.length_cons, List.length_nil]
      omega
theorem dec_len20 {u : Nat} (h : u ≤ 9223372036854775808) : (Lib.decDigits u).length ≤ 19 := dec_len 18 u (Nat.lt_of_le_of_lt h (by decide))
theorem itoa_len {n : Int} (h : -9223372036854775808 ≤ n ∧ n ≤ 9223372036854775807) : (Lib.itoa n).length ≤ 20 := by
  unfold Lib.itoa
  split
  · have := dec_len20 (u := n.natAbs) (by omega)
    simp only [List.length_cons]
    omega
  · have := dec_len20 (u := n.toNat) (by omega)
    omega
theorem digit_piece {i : Nat} (h : i < 10) : (⟨#[48, 49, 50, 51, 52, 53, 54, 55, 56, 57]⟩ : ByteArray).extract i (i + 1) = ⟨[UInt8.ofNat (48 + i)].toArray⟩ := by
  match i, h with
  | 0, _ | 1, _ | 2, _ | 3, _ | 4, _ | 5, _ | 6, _ | 7, _ | 8, _ | 9, _ => decide +kernel
theorem app_mk (a b : List UInt8) : (⟨a.toArray⟩ : ByteArray) ++ ⟨b.toArray⟩ = ⟨(a ++ b).toArray⟩ := by
  apply B_inj
  rw [B_append, B_mk, B_mk, B_mk]
def sum (l : List UInt8) (h : Nat) : Nat := l.foldl (fun h c => (41 * h + c.toNat + 1) % 999979) h
theorem sum_lt (l : List UInt8) (h : Nat) (hh : h < 999979) : sum l h < 999979 := by
  induction l generalizing h with
  | nil => exact hh
  | cons c l ih => exact ih _ (Nat.mod_lt _ (by decide))
theorem dec_bytes : ∀ (m u : Nat), u ≤ m → ∀ c ∈ Lib.decDigits u, 48 ≤ c.toNat ∧ c.toNat ≤ 57 := by
  intro m
  induction m with
  | zero =>
    intro u hu c hc
    rw [Lib.decDigits, dif_pos (by omega)] at hc
    obtain rfl := List.mem_singleton.1 hc
    obtain rfl : u = 0 := by omega
    decide
  | succ m ih =>
    intro u hu c hc
    by_cases h : u < 10
    · rw [Lib.decDigits, dif_pos h] at hc
      obtain rfl := List.mem_singleton.1 hc
      simp only [UInt8.toNat_ofNat']
      omega
    · rw [Lib.decDigits, dif_neg h] at hc
      rcases List.mem_append.1 hc with hc | hc
      · exact ih (u / 10) (by omega) c hc
      · obtain rfl := List.mem_singleton.1 hc
        simp only [UInt8.toNat_ofNat']
        omega
theorem itoa_bytes (n : Int) : ∀ c ∈ Lib.itoa n, 45 ≤ c.toNat ∧ c.toNat ≤ 57 := by
  intro c hc
  unfold Lib.itoa at hc
  split at hc
  · rcases List.mem_cons.1 hc with rfl | hc
    · decide
    · have := dec_bytes _ _ (Nat.le_refl _) c hc
      omega
  · have := dec_bytes _ _ (Nat.le_refl _) c hc
    omega
def seal_ (t : List UInt8) : List UInt8 := t ++ 35 :: Lib.itoa (sum t 7)
def body (n : Int) (c r : List UInt8) : List UInt8 := Lib.itoa n ++ 32 :: (c ++ 64 :: r)
def enc (n : Int) (c r : List UInt8) : List UInt8 := seal_ (body n c r) ++ [10]
theorem sum_int (t : List UInt8) : -9223372036854775808 ≤ ((sum t 7 : Nat) : Int) ∧ ((sum t 7 : Nat) : Int) ≤ 9223372036854775807 := by
  have := sum_lt t 7 (by decide)
  omega
theorem seal_len (t : List UInt8) : (seal_ t).length ≤ t.length + 21 := by
  have := itoa_len (sum_int t)
  unfold seal_
  simp only [List.length_append, List.length_cons]
  omega
theorem sealed (s N : ByteArray) (hN : B N = Lib.itoa ((sum (B s) 7 : Nat) : Int)) : (s ++ (⟨#[35]⟩ : ByteArray)) ++ N = mk (seal_ (B s)) := by
  apply B_inj
  rw [B_append, B_append, B_mk', hN, B_one]
  simp [seal_]
theorem app5 (a : ByteArray) (x b : ByteArray) : B (((a ++ (⟨#[32]⟩ : ByteArray)) ++ x ++ (⟨#[64]⟩ : ByteArray)) ++ b) = B a ++ 32 :: (B x ++ 64 :: B b) := by
  rw [B_append, B_append, B_append, B_append, B_one, B_one]
  simp
theorem not_hash {n : Int} {c r : ByteArray} (h : okRec c r = true) : 35 ∉ body n (B c) (B r) := by
  unfold okRec at h
  simp only [Bool.and_eq_true, List.all_eq_true] at h
  obtain ⟨⟨⟨_, hc, _⟩, _⟩, hr, _⟩ := h
  unfold body
  intro hm
  rcases List.mem_append.1 hm with hm | hm
  · have := itoa_bytes n _ hm
    revert this
    decide
  · rcases List.mem_cons.1 hm with hm | hm
    · revert hm
      decide
    · rcases List.mem_append.1 hm with hm | hm
      · have := hc _ hm
        revert this
        decide
      · rcases List.mem_cons.1 hm with hm | hm
        · revert hm
          decide
        · have := hr _ hm
          revert this
          decide
theorem okRec_sizes {c r : ByteArray} (h : okRec c r = true) : c.size ≤ 160 ∧ r.size ≤ 250 := by
  unfold okRec at h
  simp only [Bool.and_eq_true, decide_eq_true_eq] at h
  omega
theorem body_len {n : Int} (hn : -1000000 ≤ n ∧ n ≤ 1000000) {c r : ByteArray} (h : okRec c r = true) : (body n (B c) (B r)).length ≤ 432 := by
  have := okRec_sizes h
  have hi := itoa_len (n := n) (by omega)
  unfold body
  simp only [List.length_append, List.length_cons, B_len]
  omega
def encoded (n : Int) (c r : ByteArray) : ByteArray × Bool := if (0 ≤ n ∧ n ≤ 59) ∧ okRec c r = true then (mk (enc n (B c) (B r)), true) else (⟨#[]⟩, false)
abbrev R := ByteArray × ByteArray
def past (b : UInt8) (l : List UInt8) : List UInt8 := l.drop ((upto b l).length + 1)
def cand (line : List UInt8) : List UInt8 × List UInt8 := (upto 64 (past 32 (upto 35 line)), past 64 (past 32 (upto 35 line)))
theorem past_append {b : UInt8} {l r : List UInt8} (h : b ∉ l) : past b (l ++ b :: r) = r := by
  unfold past
  rw [upto_append h]
  have h1 : l ++ b :: r = (l ++ [b]) ++ r := by simp
  have h2 := drop_of_split h1
  rw [List.length_append, List.length_singleton] at h2
  exact h2
def dec (n : Int) (line : List UInt8) : Option (ByteArray × ByteArray) :=
  if okRec (mk (cand line).1) (mk (cand line).2) = true ∧ enc n (cand line).1 (cand line).2 = line ++ [10] then some (mk (cand line).1, mk (cand line).2) else none
theorem okRec_no64 {c r : ByteArray} (h : okRec c r = true) : (64 : UInt8) ∉ B c := by
  unfold okRec at h
  simp only [Bool.and_eq_true, Bool.not_eq_true', List.contains_eq_mem, decide_eq_false_iff_not] at h
  exact h.1.2
theorem itoa_no32 (n : Int) : (32 : UInt8) ∉ Lib.itoa n := by
  intro hm
  have := itoa_bytes n _ hm
  revert this
  decide
theorem line_of {n : Int} {c r line : List UInt8} (e : enc n c r = line ++ [10]) : line = seal_ (body n c r) := by
  unfold enc at e
  exact (List.append_cancel_right e).symm
theorem upto35 {n : Int} {c r : ByteArray} {line : List UInt8} (h : okRec c r = true) (e : enc n (B c) (B r) = line ++ [10]) : upto 35 line = body n (B c) (B r) := by
  rw [line_of e]
  unfold seal_
  exact upto_append (not_hash h)
theorem cand_of {n : Int} {c r : ByteArray} {line : List UInt8} (h : okRec c r = true) (e : enc n (B c) (B r) = line ++ [10]) : cand line = (B c, B r) := by
  unfold cand
  rw [upto35 h e]
  unfold body
  rw [past_append (itoa_no32 n), upto_append (okRec_no64 h), past_append (okRec_no64 h)]
theorem dec_of {n : Int} {c r : ByteArray} {line : List UInt8} (h : okRec c r = true) (e : enc n (B c) (B r) = line ++ [10]) : dec n line = some (c, r) := by
  unfold dec
  rw [cand_of h e, mk_B, mk_B, if_pos ⟨h, e⟩]
theorem dec_some {n : Int} {c r : ByteArray} {line : List UInt8} (h : dec n line = some (c, r)) : okRec c r = true ∧ enc n (B c) (B r) = line ++ [10] := by
  unfold dec at h
  split at h
  · rename_i hh
    injection h with h
    obtain ⟨rfl, rfl⟩ := Prod.mk.inj h
    rw [B_mk', B_mk']
    exact hh
  · cases h
theorem parts0 (b : UInt8) (l : List UInt8) : ∃ r, (parts b l).map mk = mk (upto b l) :: r := by
  obtain ⟨r, hr⟩ := parts_head b l
  exact ⟨r.map mk, by rw [hr]; rfl⟩
theorem mkB1 (x : UInt8) (l : List UInt8) : mk l ++ (⟨#[x]⟩ : ByteArray) = mk (l ++ [x]) := by
  apply B_inj
  rw [B_append, B_mk', B_mk', B_one]
theorem upto_mem {b : UInt8} {l : List UInt8} : (upto b l).length = l.length ↔ b ∉ l := by
  constructor
  · intro h hm
    have := upto_split hm
    have := congrArg List.length this
    simp only [List.length_append, List.length_cons, List.length_drop] at this
    omega
  · intro h
    rw [upto_notin h]
def step (n : Int) (l : List UInt8) : Option (R × Nat) := if 10 ∈ l then (dec n (upto 10 l)).map (fun p => (⟨p.1, p.2⟩, (upto 10 l).length + 1)) else none
def run : Nat → Nat → List UInt8 → List (R × Nat)
  | 0, _, _ => []
  | m + 1, n, l => match step n l with
    | none => []
    | some (e, z) => (e, z) :: run m (n + 1) (l.drop z)
def tot (x : List (R × Nat)) : Nat := (x.map (·.2)).sum
theorem step_len {n : Int} {l : List UInt8} {e : R} {z : Nat} (h : step n l = some (e, z)) : 0 < z ∧ z ≤ l.length := by
  unfold step at h
  split at h
  · rename_i hm
    cases hd : dec n (upto 10 l) with
    | none => rw [hd] at h; cases h
    | some p =>
      rw [hd] at h
      simp only [Option.map_some, Option.some.injEq, Prod.mk.injEq] at h
      obtain ⟨_, rfl⟩ := h
      have := congrArg List.length (upto_split hm)
      simp only [List.length_append, List.length_cons, List.length_drop] at this
      omega
  · cases h
theorem tot_le : ∀ (m n : Nat) (l : List UInt8), tot (run m n l) ≤ l.length := by
  intro m
  induction m with
  | zero => intro n l; exact Nat.zero_le _
  | succ m ih =>
    intro n l
    unfold run
    cases h : step n l with
    | none => exact Nat.zero_le _
    | some p =>
      obtain ⟨e, z⟩ := p
      have h1 := step_len h
      have h2 := ih (n + 1) (l.drop z)
      rw [List.length_drop] at h2
      simp only [tot, List.map_cons, List.sum_cons] at h2 ⊢
      omega
theorem run_len : ∀ (m n : Nat) (l : List UInt8), (run m n l).length ≤ m := by
  intro m
  induction m with
  | zero => intro n l; exact Nat.le_refl _
  | succ m ih =>
    intro n l
    unfold run
    cases h : step n l with
    | none => exact Nat.zero_le _
    | some p => exact Nat.succ_le_succ (ih _ _)
def ends : Nat → List (R × Nat) → List Int
  | _, [] => []
  | a, (_, z) :: x => ((a + z : Nat) : Int) :: ends (a + z) x
theorem ends_len : ∀ (x : List (R × Nat)) (a : Nat), (ends a x).length = x.length := by
  intro x
  induction x with
  | nil => intro a; rfl
  | cons p x ih => intro a; simp [ends, ih]
theorem upto_app {b : UInt8} {l r : List UInt8} (h : b ∈ l) : upto b (l ++ r) = upto b l := by
  have h1 := upto_split h
  conv => lhs; rw [h1]
  rw [List.append_assoc]
  exact upto_append (notin_upto b l)
theorem step_more {n : Int} {a b : List UInt8} {e : R} {z : Nat} (h : step n a = some (e, z)) : step n (a ++ b) = some (e, z) := by
  unfold step at h ⊢
  split at h
  · rename_i hm
    rw [if_pos (List.mem_append_left _ hm), upto_app hm]
    exact h
  · cases h
theorem step_less {n : Int} {a b : List UInt8} {e : R} {z : Nat} (h : step n (a ++ b) = some (e, z)) (hz : z ≤ a.length) : step n a = some (e, z) := by
  by_cases hm : (10 : UInt8) ∈ a
  · unfold step at h ⊢
    rw [if_pos (List.mem_append_left _ hm), upto_app hm] at h
    rw [if_pos hm]
    exact h
  · exfalso
    unfold step at h
    split at h
    · rename_i hm2
      cases hd : dec n (upto 10 (a ++ b)) with
      | none => rw [hd] at h; cases h
      | some p =>
        rw [hd] at h
        simp only [Option.map_some, Option.some.injEq, Prod.mk.injEq] at h
        obtain ⟨_, rfl⟩ := h
        have h3 : (upto 10 (a ++ b)).length < a.length := by omega
        have h4 := upto_split hm2
        have h5 : (a ++ b)[(upto 10 (a ++ b)).length]? = some 10 := by
          rw [h4]
          rw [upto_append (notin_upto 10 (a ++ b))]
          simp
        rw [List.getElem?_append_left h3] at h5
        exact hm (List.mem_of_getElem? h5)
    · cases h
theorem run_app : ∀ (m n : Nat) (a b : List UInt8), tot (run m n a) = a.length → ∃ x, run m n (a ++ b) = run m n a ++ x := by
  intro m
  induction m with
  | zero => intro n a b _; exact ⟨[], rfl⟩
  | succ m ih =>
    intro n a b h
    cases hs : step n a with
    | none =>
      refine ⟨run (m + 1) n (a ++ b), ?_⟩
      have : run (m + 1) n a = [] := by unfold run; rw [hs]
      rw [this]
      rfl
    | some p =>
      obtain ⟨e, z⟩ := p
      have hz := step_len hs
      have e1 : run (m + 1) n a = (e, z) :: run m (n + 1) (a.drop z) := by conv => lhs; unfold run; rw [hs]
      have e2 : run (m + 1) n (a ++ b) = (e, z) :: run m (n + 1) (a.drop z ++ b) := by
        conv => lhs; unfold run; rw [step_more hs]
        simp only
        rw [List.drop_append_of_le_length hz.2]
      rw [e1] at h
      simp only [tot, List.map_cons, List.sum_cons] at h
      obtain ⟨x, hx⟩ := ih (n + 1) (a.drop z) b (by rw [List.length_drop]; simp only [tot]; omega)
      refine ⟨x, ?_⟩
      rw [e1, e2, hx]
      rfl
theorem ends_app : ∀ (x y : List (R × Nat)) (a : Nat), ends a (x ++ y) = ends a x ++ ends (a + tot x) y := by
  intro x
  induction x with
  | nil => intro y a; simp [ends, tot]
  | cons p x ih =>
    intro y a
    obtain ⟨e, z⟩ := p
    simp only [List.cons_append, ends, ih, tot, List.map_cons, List.sum_cons, Nat.add_assoc]
theorem mem_ends : ∀ (x : List (R × Nat)) (a : Nat), ((a + tot x : Nat) : Int) ∈ ((a : Nat) : Int) :: ends a x := by
  intro x
  induction x with
  | nil => intro a; simp [tot]
  | cons p x ih =>
    intro a
    obtain ⟨e, z⟩ := p
    have h := ih (a + z)
    simp only [tot, List.map_cons, List.sum_cons] at h ⊢
    rw [← Nat.add_assoc]
    exact List.mem_cons_of_mem _ h
theorem less : ∀ (m n : Nat) (a b : List UInt8) (o : Nat), ((o + a.length : Nat) : Int) ∈ ((o : Nat) : Int) :: ends o (run m n (a ++ b)) → tot (run m n a) = a.length := by
  intro m
  induction m with
  | zero =>
    intro n a b o h
    simp only [run, ends, List.mem_cons, List.not_mem_nil, or_false] at h
    simp [run, tot]
    omega
  | succ m ih =>
    intro n a b o h
    by_cases h0 : a.length = 0
    · have := tot_le (m + 1) n a
      omega
    · rcases List.mem_cons.1 h with h | h
      · omega
      · cases hs : step n (a ++ b) with
        | none =>
          have : run (m + 1) n (a ++ b) = [] := by unfold run; rw [hs]
          rw [this] at h
          cases h
        | some p =>
          obtain ⟨e, z⟩ := p
          have hz := step_len hs
          have e2 : run (m + 1) n (a ++ b) = (e, z) :: run m (n + 1) ((a ++ b).drop z) := by conv => lhs; unfold run; rw [hs]
          rw [e2] at h
          simp only [ends] at h
          by_cases hza : z ≤ a.length
          · have hs' := step_less hs hza
            have e1 : run (m + 1) n a = (e, z) :: run m (n + 1) (a.drop z) := by conv => lhs; unfold run; rw [hs']
            rw [List.drop_append_of_le_length hza] at h
            have h2 := ih (n + 1) (a.drop z) b (o + z) (by
              rw [List.length_drop]
              have : o + z + (a.length - z) = o + a.length := by omega
              rw [this]
              exact h)
            rw [List.length_drop] at h2
            rw [e1]
            simp only [tot, List.map_cons, List.sum_cons] at h2 ⊢
            omega
          · exfalso
            have ge : ∀ (x : List (R × Nat)) (q : Nat) (v : Int), v ∈ ((q : Nat) : Int) :: ends q x → (q : Int) ≤ v := by
              intro x
              induction x with
              | nil => intro q v hv; simp [ends] at hv; omega
              | cons p x ihx =>
                intro q v hv
                obtain ⟨e, y⟩ := p
                rcases List.mem_cons.1 hv with hv | hv
                · omega
                · have := ihx (q + y) v hv
                  omega
            have := ge _ _ _ h
            omega
def okLog (d p : ByteArray) (n : Int) : Bool := decide (d.size + p.size ≤ 30000) && (decide (tot (run 60 0 (B d ++ B p)) = d.size + p.size) && (decide (tot (run 60 0 (B d)) = d.size) && decide (((run 60 0 (B d ++ B p)).length : Int) = n)))
theorem ends_iff (d p : ByteArray) (h : tot (run 60 0 (B d ++ B p)) = d.size + p.size) : ((d.size : Int) ∈ (0 : Int) :: ends 0 (run 60 0 (B d ++ B p))) ↔ tot (run 60 0 (B d)) = d.size := by
  constructor
  · intro hm
    have := less 60 0 (B d) (B p) 0 (by rw [B_len, Nat.zero_add]; exact hm)
    rw [B_len] at this
    exact this
  · intro hm
    obtain ⟨x, hx⟩ := run_app 60 0 (B d) (B p) (by rw [B_len]; exact hm)
    rw [hx, ends_app]
    have h2 := mem_ends (run 60 0 (B d)) 0
    rw [Nat.zero_add, hm] at h2
    rcases List.mem_cons.1 h2 with h2 | h2
    · exact List.mem_cons.2 (Or.inl h2)
    · exact List.mem_cons.2 (Or.inr (List.mem_append_left _ h2))
theorem okLog_sizes {d p : ByteArray} {n : Int} (h : okLog d p n = true) : d.size + p.size ≤ 30000 ∧ 0 ≤ n ∧ n ≤ 60 := by
  unfold okLog at h
  simp only [Bool.and_eq_true, decide_eq_true_eq] at h
  have := run_len 60 0 (B d ++ B p)
  omega
end Go.Proofs.YtpoifmkgdfjhbaaDoor.Ev.Lg
