/- The records at the start of a log: the reference's l12Open and the program's readRecords, one function on lists of bytes. -/
import Derived.Test.YtpknehbhbiofaaaDoorPAg62
import Derived.Test.YtpknehbhbiofaaaDoorLine
set_option linter.unusedVariables false
set_option linter.unusedSimpArgs false
namespace Go.Proofs.YtpknehbhbiofaaaDoor.Parse
open Go.RowKit Go.Proofs.YtpknehbhbiofaaaDoor.PA Go.Proofs.YtpknehbhbiofaaaDoorW.PrintWords Go.Proofs.YtpknehbhbiofaaaDoor.U Go.Proofs.YtpknehbhbiofaaaDoor.Num Go.Proofs.YtpknehbhbiofaaaDoor.Split Go.Proofs.YtpknehbhbiofaaaDoor.Rec Go.Proofs.YtpknehbhbiofaaaDoor.Line
abbrev R := S27
/-- What a line's command and reply can be alone. -/
def past (b : UInt8) (l : List UInt8) : List UInt8 := l.drop ((upto b l).length + 1)
def cand (line : List UInt8) : List UInt8 × List UInt8 := (upto 64 (past 32 (upto 35 line)), past 64 (past 32 (upto 35 line)))
theorem past_append {b : UInt8} {l r : List UInt8} (h : b ∉ l) : past b (l ++ b :: r) = r := by
  unfold past
  rw [upto_append h]
  have h1 : l ++ b :: r = (l ++ [b]) ++ r := by simp
  have h2 := drop_of_split h1
  rw [List.length_append, List.length_singleton] at h2
  exact h2
/-- A line that holds a record of the number n: its command and reply. -/
def dec (n : Int) (line : List UInt8) : Option (ByteArray × ByteArray) :=
  if okRec (mk (cand line).1) (mk (cand line).2) = true ∧ enc n (cand line).1 (cand line).2 = line ++ [10] then some (mk (cand line).1, mk (cand line).2) else none
theorem okRec_no64 {c r : ByteArray} (h : okRec c r = true) : (64 : UInt8) ∉ B c := by
  unfold okRec at h
  simp only [Bool.and_eq_true, Bool.not_eq_true', List.contains_eq_mem, decide_eq_false_iff_not] at h
  exact h.1.2
theorem itoa_no32 (n : Int) : (32 : UInt8) ∉ Lib.itoa n := by
  intro hm
  have := itoa_bytes n _ hm
  revert this
  decide
theorem line_of {n : Int} {c r line : List UInt8} (e : enc n c r = line ++ [10]) : line = seal_ (body n c r) := by
  unfold enc at e
  exact (List.append_cancel_right e).symm
theorem upto35 {n : Int} {c r : ByteArray} {line : List UInt8} (h : okRec c r = true) (e : enc n (B c) (B r) = line ++ [10]) : upto 35 line = body n (B c) (B r) := by
  rw [line_of e]
  unfold seal_
  exact upto_append (not_hash h)
theorem cand_of {n : Int} {c r : ByteArray} {line : List UInt8} (h : okRec c r = true) (e : enc n (B c) (B r) = line ++ [10]) : cand line = (B c, B r) := by
  unfold cand
  rw [upto35 h e]
  unfold body
  rw [past_append (itoa_no32 n), upto_append (okRec_no64 h), past_append (okRec_no64 h)]
theorem dec_of {n : Int} {c r : ByteArray} {line : List UInt8} (h : okRec c r = true) (e : enc n (B c) (B r) = line ++ [10]) : dec n line = some (c, r) := by
  unfold dec
  rw [cand_of h e, mk_B, mk_B, if_pos ⟨h, e⟩]
theorem dec_some {n : Int} {c r : ByteArray} {line : List UInt8} (h : dec n line = some (c, r)) : okRec c r = true ∧ enc n (B c) (B r) = line ++ [10] := by
  unfold dec at h
  split at h
  · rename_i hh
    injection h with h
    obtain ⟨rfl, rfl⟩ := Prod.mk.inj h
    rw [B_mk', B_mk']
    exact hh
  · cases h
theorem parts0 (b : UInt8) (l : List UInt8) : ∃ r, (parts b l).map mk = mk (upto b l) :: r := by
  obtain ⟨r, hr⟩ := parts_head b l
  exact ⟨r.map mk, by rw [hr]; rfl⟩
theorem rd0 (x : ByteArray) (r : List ByteArray) : rdOf ByteArray.empty (x :: r) 0 = x := rfl
theorem mkB1 (x : UInt8) (l : List UInt8) : mk l ++ (⟨#[x]⟩ : ByteArray) = mk (l ++ [x]) := by
  apply B_inj
  rw [B_append, B_mk', B_mk', B_one]
theorem upto_mem {b : UInt8} {l : List UInt8} : (upto b l).length = l.length ↔ b ∉ l := by
  constructor
  · intro h hm
    have := upto_split hm
    have := congrArg List.length this
    simp only [List.length_append, List.length_cons, List.length_drop] at this
    omega
  · intro h
    rw [upto_notin h]
theorem decode_j0 (s : ByteArray) (n : Int) (hn : 0 ≤ n ∧ n ≤ 60) (a t : ByteArray) (hs : s.size ≤ 1000000) (hb : B t = upto 35 (B s)) (ha : B a = Lib.itoa n ++ [32]) (k : Nat) (hk : 5100000 < k) (bad : Bool)
    (hbad : bad = true → ∀ c r, dec n (B s) ≠ some (c, r)) (hgood : bad = false → a.size ≤ t.size ∧ (B t).take a.size = B a) :
    ∃ c r ok, spec_l12Decode.j0 k s n a t bad = some (c, r, ok) ∧ dec n (B s) = if ok = true then some (c, r) else none := by
  obtain ⟨k, rfl⟩ := pred_of_lt hk
  simp only [spec_l12Decode.j0]
  cases bad with
  | true =>
    rw [if_pos rfl]
    refine ⟨_, _, _, rfl, ?_⟩
    rw [if_neg (by simp)]
    cases hd : dec n (B s) with
    | none => rfl
    | some p => exact absurd hd (hbad rfl p.1 p.2)
  | false =>
    obtain ⟨h1, h2⟩ := hgood rfl
    rw [if_neg (by simp), if_pos (by omega), if_pos (by omega), Option.bind_some]
    have e0 : ((a.size : Int)).toNat = a.size := by omega
    rw [e0, from_mk]
    have htl : (upto 35 (B s)).length ≤ (B s).length := upto_len 35 (B s)
    have hts : t.size ≤ 1000000 := by rw [← B_len, hb]; rw [B_len] at htl; omega
    have hrest : B t = Lib.itoa n ++ 32 :: (B t).drop a.size := by
      conv => lhs; rw [← List.take_append_drop a.size (B t)]
      rw [h2, ha]
      simp
    have hpast : past 32 (B t) = (B t).drop a.size := by
      conv => lhs; rw [hrest]
      exact past_append (itoa_no32 n)
    generalize hR : (B t).drop a.size = R at hrest hpast ⊢
    have hRl : R.length ≤ 1000000 := by rw [← hR, List.length_drop, B_len]; omega
    have hc : cand (B s) = (upto 64 R, past 64 R) := by
      unfold cand
      rw [← hb, hpast]
    rw [show (64 : Int) = ((64 : UInt8).toNat : Int) from rfl, l1Split (mk R) (by rw [mk_size]; omega) 64 k (by rw [mk_size]; omega), Option.bind_some, B_mk']
    obtain ⟨r, hr⟩ := parts0 64 R
    rw [hr, if_pos (by simp), rd0, mk_size, mk_size]
    by_cases h3 : ((upto 64 R).length : Int) = (R.length : Int)
    · rw [if_pos h3]
      refine ⟨_, _, _, rfl, ?_⟩
      rw [if_neg (by simp)]
      have h4 : (64 : UInt8) ∉ R := upto_mem.1 (by omega)
      cases hd : dec n (B s) with
      | none => rfl
      | some p =>
        exfalso
        obtain ⟨k1, k2⟩ := dec_some (c := p.1) (r := p.2) hd
        have k3 := upto35 k1 k2
        rw [← hb, hrest] at k3
        unfold body at k3
        have k4 := List.append_cancel_left k3
        injection k4 with _ k4
        rw [k4] at h4
        exact h4 (by simp)
    · rw [if_neg h3]
      have hul := upto_len 64 R
      rw [wrap_id (by omega), if_pos (by omega), if_pos (by omega), Option.bind_some]
      have e1 : ((((upto 64 R).length : Int) + 1)).toNat = (upto 64 R).length + 1 := by omega
      rw [e1]
      have e2 : (mk R).extract ((upto 64 R).length + 1) R.length = mk (past 64 R) := by
        have := from_mk (mk R) ((upto 64 R).length + 1)
        rw [mk_size, B_mk'] at this
        exact this
      rw [e2]
      have hpl : (past 64 R).length ≤ 1000000 := by unfold past; rw [List.length_drop]; omega
      rw [l12Record (mk (upto 64 R)) (mk (past 64 R)) (by rw [mk_size]; omega) (by rw [mk_size]; omega) k (by rw [mk_size]; omega) (by rw [mk_size]; omega), Option.bind_some]
      cases h5 : okRec (mk (upto 64 R)) (mk (past 64 R)) with
      | false =>
        rw [if_neg (by simp)]
        refine ⟨_, _, _, rfl, ?_⟩
        unfold dec
        rw [hc, if_neg (fun h => by
          have h9 : okRec (mk (upto 64 R)) (mk (past 64 R)) = true := h.1
          rw [h5] at h9
          cases h9)]
        rfl
      | true =>
        rw [if_pos rfl, l12Line n (by omega) _ _ (by rw [mk_size]; omega) (by rw [mk_size]; omega) k (by rw [mk_size, mk_size]; omega), Option.bind_some, if_pos (by omega)]
        refine ⟨_, _, _, rfl, ?_⟩
        unfold dec
        rw [hc, B_mk', B_mk', toList_B, toList_B, B_mk', B_append, B_one]
        by_cases h6 : enc n (upto 64 R) (past 64 R) = B s ++ [10]
        · rw [if_pos ⟨h5, h6⟩, if_pos (by rw [h6]; simp)]
        · rw [if_neg (fun h => h6 h.2), if_neg (by simpa using h6)]
theorem l12Decode (s : ByteArray) (n : Int) (hn : 0 ≤ n ∧ n ≤ 60) (hs : s.size ≤ 1000000) (k : Nat) (hk : 5100000 < k) :
    ∃ c r ok, spec_l12Decode.f k s n = some (c, r, ok) ∧ dec n (B s) = if ok = true then some (c, r) else none := by
  unfold spec_l12Decode.f
  have hi := itoa_len (n := n) (by omega)
  rw [num n (by omega) k (by omega), Option.bind_some, if_pos (by rw [size_list]; omega), Option.bind_some,
    show (35 : Int) = ((35 : UInt8).toNat : Int) from rfl, l1Split s (by omega) 35 k (by omega), Option.bind_some]
  obtain ⟨r, hr⟩ := parts0 35 (B s)
  rw [hr, if_pos (by simp), rd0]
  have hA : (⟨(Lib.itoa n).toArray⟩ : ByteArray) ++ (⟨#[32]⟩ : ByteArray) = mk (Lib.itoa n ++ [32]) := mkB1 32 (Lib.itoa n)
  rw [hA]
  have hbad : ∀ c r, dec n (B s) = some (c, r) → (upto 35 (B s)).take (Lib.itoa n ++ [32]).length = Lib.itoa n ++ [32] ∧ (Lib.itoa n ++ [32]).length ≤ (upto 35 (B s)).length := by
    intro c r hd
    obtain ⟨k1, k2⟩ := dec_some hd
    rw [upto35 k1 k2]
    unfold body
    have e : Lib.itoa n ++ 32 :: (B c ++ 64 :: B r) = (Lib.itoa n ++ [32]) ++ (B c ++ 64 :: B r) := by simp
    rw [e]
    refine ⟨List.take_left' rfl, ?_⟩
    generalize Lib.itoa n ++ [32] = q
    rw [List.length_append]
    omega
  rw [mk_size, mk_size]
  by_cases h1 : ((upto 35 (B s)).length : Int) < ((Lib.itoa n ++ [32]).length : Int)
  · rw [if_pos h1]
    exact decode_j0 s n hn _ _ hs (B_mk' _) (B_mk' _) k hk true (fun _ c r hd => by have := (hbad c r hd).2; omega) (fun h => by cases h)
  · rw [if_neg h1, if_pos (by omega), if_pos (by omega)]
    have e0 : (((Lib.itoa n ++ [32]).length : Int)).toNat = (Lib.itoa n ++ [32]).length := by omega
    rw [e0, toList_B, toList_B, B_extract, List.drop_zero, B_mk', B_mk']
    refine decode_j0 s n hn _ _ hs (B_mk' _) (B_mk' _) k hk _ (fun h c r hd => ?_) (fun h => ?_)
    · have := (hbad c r hd).1
      rw [this] at h
      simp at h
    · rw [mk_size, mk_size, B_mk', B_mk']
      refine ⟨by omega, ?_⟩
      simpa using h
/-- One record at the start of a text: it and its line's length with the newline. -/
def step (n : Int) (l : List UInt8) : Option (R × Nat) := if 10 ∈ l then (dec n (upto 10 l)).map (fun p => (⟨p.1, p.2⟩, (upto 10 l).length + 1)) else none
/-- The records at the start of a text, m at most, the first one numbered n. -/
def run : Nat → Nat → List UInt8 → List (R × Nat)
  | 0, _, _ => []
  | m + 1, n, l => match step n l with
    | none => []
    | some (e, z) => (e, z) :: run m (n + 1) (l.drop z)
def tot (x : List (R × Nat)) : Nat := (x.map (·.2)).sum
theorem step_len {n : Int} {l : List UInt8} {e : R} {z : Nat} (h : step n l = some (e, z)) : 0 < z ∧ z ≤ l.length := by
  unfold step at h
  split at h
  · rename_i hm
    cases hd : dec n (upto 10 l) with
    | none => rw [hd] at h; cases h
    | some p =>
      rw [hd] at h
      simp only [Option.map_some, Option.some.injEq, Prod.mk.injEq] at h
      obtain ⟨_, rfl⟩ := h
      have := congrArg List.length (upto_split hm)
      simp only [List.length_append, List.length_cons, List.length_drop] at this
      omega
  · cases h
theorem tot_le : ∀ (m n : Nat) (l : List UInt8), tot (run m n l) ≤ l.length := by
  intro m
  induction m with
  | zero => intro n l; exact Nat.zero_le _
  | succ m ih =>
    intro n l
    unfold run
    cases h : step n l with
    | none => exact Nat.zero_le _
    | some p =>
      obtain ⟨e, z⟩ := p
      have h1 := step_len h
      have h2 := ih (n + 1) (l.drop z)
      rw [List.length_drop] at h2
      simp only [tot, List.map_cons, List.sum_cons] at h2 ⊢
      omega
theorem run_len : ∀ (m n : Nat) (l : List UInt8), (run m n l).length ≤ m := by
  intro m
  induction m with
  | zero => intro n l; exact Nat.le_refl _
  | succ m ih =>
    intro n l
    unfold run
    cases h : step n l with
    | none => exact Nat.zero_le _
    | some p => exact Nat.succ_le_succ (ih _ _)
theorem open_l0 (s : ByteArray) (hs : s.size ≤ 1000000) : ∀ (m : Nat) (acc : List R) (at_ k : Nat), acc.length + m = 60 → at_ ≤ s.size → 5200000 + 2 * m < k →
    spec_l12Open.l0 k s acc (at_ : Int) = some (acc ++ (run m acc.length ((B s).drop at_)).map (·.1), ((at_ + tot (run m acc.length ((B s).drop at_)) : Nat) : Int)) := by
  intro m
  induction m with
  | zero =>
    intro acc at_ k ha hat hk
    obtain ⟨k, rfl⟩ := pred_of_lt hk
    obtain ⟨k, rfl⟩ := pred_of_lt (show 1 < k by omega)
    have hj : ∀ x, spec_l12Open.j1 (k + 1) s acc (at_ : Int) (decide ((acc.length : Int) < 60)) = some (acc ++ (run 0 x ((B s).drop at_)).map (·.1), ((at_ + tot (run 0 x ((B s).drop at_)) : Nat) : Int)) := by
      intro x
      simp only [spec_l12Open.j1]
      rw [if_neg (by simp; omega)]
      simp [run, tot]
    simp only [spec_l12Open.l0]
    by_cases h : (at_ : Int) < (s.size : Int)
    · rw [if_pos h]
      exact hj _
    · rw [if_neg h]
      simp only [spec_l12Open.j1]
      rw [if_neg (by simp)]
      simp [run, tot]
  | succ m ih =>
    intro acc at_ k ha hat hk
    obtain ⟨k, rfl⟩ := pred_of_lt hk
    obtain ⟨k, rfl⟩ := pred_of_lt (show 1 < k by omega)
    simp only [spec_l12Open.l0]
    by_cases h : (at_ : Int) < (s.size : Int)
    · rw [if_pos h]
      simp only [spec_l12Open.j1]
      have e0 : ((at_ : Int)).toNat = at_ := by omega
      rw [if_pos (by simp; omega), if_pos (by omega), if_pos (by omega), e0, from_mk]
      generalize hl : (B s).drop at_ = l
      have hll : l.length = s.size - at_ := by rw [← hl, List.length_drop, B_len]
      rw [show (10 : Int) = ((10 : UInt8).toNat : Int) from rfl, l1Split (mk l) (by rw [mk_size]; omega) 10 k (by rw [mk_size]; omega), Option.bind_some, B_mk']
      obtain ⟨r, hr⟩ := parts0 10 l
      have hcount : ((parts 10 l).map mk).length = l.count 10 + 1 := by rw [List.length_map, parts_len]
      rw [if_pos (by rw [hcount]; omega)]
      have hrd : rdOf ByteArray.empty ((parts 10 l).map mk) 0 = mk (upto 10 l) := by rw [hr]; rfl
      have hul := upto_len 10 l
      rw [hrd]
      obtain ⟨c, rr, ok, hd1, hd2⟩ := l12Decode (mk (upto 10 l)) (acc.length : Int) (by omega) (by rw [mk_size]; omega) k (by omega)
      rw [B_mk'] at hd2
      rw [hd1, Option.bind_some, hcount]
      by_cases hm : (10 : UInt8) ∈ l
      · have hpos : 0 < l.count 10 := List.count_pos_iff.2 hm
        rw [if_neg (by omega)]
        cases ok with
        | true =>
          rw [if_pos rfl] at hd2
          rw [if_pos rfl, if_pos (by omega), mk_size]
          have hst : step (acc.length : Int) l = some (⟨c, rr⟩, (upto 10 l).length + 1) := by
            unfold step
            rw [if_pos hm, hd2]
            rfl
          have hz := step_len hst
          rw [wrap_id (x := (at_ : Int) + ((upto 10 l).length : Int)) (by omega), wrap_id (by omega)]
          have e1 : (at_ : Int) + ((upto 10 l).length : Int) + 1 = ((at_ + ((upto 10 l).length + 1) : Nat) : Int) := by omega
          rw [e1, ih (acc ++ [(⟨c, rr⟩ : R)]) (at_ + ((upto 10 l).length + 1)) k (by simp; omega) (by omega) (by omega)]
          have e2 : (acc ++ [(⟨c, rr⟩ : R)]).length = acc.length + 1 := by simp
          have e3 : (B s).drop (at_ + ((upto 10 l).length + 1)) = l.drop ((upto 10 l).length + 1) := by rw [← hl, List.drop_drop]
          rw [e2, e3]
          conv => rhs; unfold run
          rw [hst]
          simp only [List.map_cons, tot, List.sum_cons, List.append_assoc, List.cons_append, List.nil_append]
          rw [Nat.add_assoc at_]
        | false =>
          rw [if_neg (by simp)]
          rw [if_neg (by simp)] at hd2
          have hst : step (acc.length : Int) l = none := by
            unfold step
            rw [if_pos hm, hd2]
            rfl
          unfold run
          rw [hst]
          simp [tot]
      · have hz : l.count 10 = 0 := List.count_eq_zero.2 hm
        rw [hz, if_pos (by omega)]
        have hst : step (acc.length : Int) l = none := by
          unfold step
          rw [if_neg hm]
        unfold run
        rw [hst]
        simp [tot]
    · rw [if_neg h]
      simp only [spec_l12Open.j1]
      rw [if_neg (by simp)]
      have hl : (B s).drop at_ = [] := List.drop_eq_nil_of_le (by rw [B_len]; omega)
      rw [hl]
      have hst : step (acc.length : Int) [] = none := by
        unfold step
        rw [if_neg (by simp)]
      unfold run
      rw [hst]
      simp [tot]
theorem l12Open (s : ByteArray) (hs : s.size ≤ 1000000) (k : Nat) (hk : 5300000 < k) : spec_l12Open.f k s = some ((run 60 0 (B s)).map (·.1), ((tot (run 60 0 (B s)) : Nat) : Int)) := by
  have := open_l0 s hs 60 [] 0 k rfl (Nat.zero_le _) (by omega)
  simpa [spec_l12Open.f] using this
/-- The ends of records, from a place on. -/
def ends : Nat → List (R × Nat) → List Int
  | _, [] => []
  | a, (_, z) :: x => ((a + z : Nat) : Int) :: ends (a + z) x
theorem ends_len : ∀ (x : List (R × Nat)) (a : Nat), (ends a x).length = x.length := by
  intro x
  induction x with
  | nil => intro a; rfl
  | cons p x ih => intro a; simp [ends, ih]
theorem cut_cut (s : ByteArray) (hs : s.size ≤ 1000000) (b : UInt8) : strings_Cut.f s ⟨#[b]⟩ = some (mk (upto b (B s)), mk (past b (B s)), decide (b ∈ B s)) := by
  unfold strings_Cut.f
  rw [if_pos (by omega)]
  have := cut_one (B s) b
  unfold B at this
  simp only [this]
  rfl
theorem read_l0 (s : ByteArray) (hs : s.size ≤ 1000000) : ∀ (m : Nat) (acc : List R) (es : List Int) (at_ k : Nat), acc.length + m = 60 → es.length = acc.length + 1 → at_ ≤ s.size → 5200000 + 2 * m < k →
    impl_readRecords.l0 k s acc es (at_ : Int) = some (acc ++ (run m acc.length ((B s).drop at_)).map (·.1), es ++ ends at_ (run m acc.length ((B s).drop at_))) := by
  intro m
  induction m with
  | zero =>
    intro acc es at_ k ha he hat hk
    obtain ⟨k, rfl⟩ := pred_of_lt hk
    simp only [impl_readRecords.l0]
    rw [if_neg (by omega)]
    simp [run, ends]
  | succ m ih =>
    intro acc es at_ k ha he hat hk
    obtain ⟨k, rfl⟩ := pred_of_lt hk
    simp only [impl_readRecords.l0]
    have e0 : ((at_ : Int)).toNat = at_ := by omega
    rw [if_pos (by omega), if_pos (by omega), if_pos (by omega), e0, from_mk]
    generalize hl : (B s).drop at_ = l
    have hll : l.length = s.size - at_ := by rw [← hl, List.length_drop, B_len]
    have hul := upto_len 10 l
    have hul2 := upto_len 35 (upto 10 l)
    rw [cut_cut (mk l) (by rw [mk_size]; omega) 10, Option.bind_some, B_mk']
    by_cases hm : (10 : UInt8) ∈ l
    · rw [if_pos (decide_eq_true hm), cut_cut (mk (upto 10 l)) (by rw [mk_size]; omega) 35, Option.bind_some, B_mk',
        cut_cut (mk (upto 35 (upto 10 l))) (by rw [mk_size]; omega) 32, Option.bind_some, B_mk']
      have hp1 : (past 32 (upto 35 (upto 10 l))).length ≤ 1000000 := by unfold past; rw [List.length_drop]; omega
      rw [cut_cut (mk (past 32 (upto 35 (upto 10 l)))) (by rw [mk_size]; omega) 64, Option.bind_some, B_mk']
      have hc : cand (upto 10 l) = (upto 64 (past 32 (upto 35 (upto 10 l))), past 64 (past 32 (upto 35 (upto 10 l)))) := rfl
      have hp2 := upto_len 64 (past 32 (upto 35 (upto 10 l)))
      have hp3 : (past 64 (past 32 (upto 35 (upto 10 l)))).length ≤ 1000000 := by
        have : (past 64 (past 32 (upto 35 (upto 10 l)))).length ≤ (past 32 (upto 35 (upto 10 l))).length := by
          generalize past 32 (upto 35 (upto 10 l)) = q
          unfold past
          rw [List.length_drop]
          omega
        omega
      generalize upto 64 (past 32 (upto 35 (upto 10 l))) = C at hc hp2 ⊢
      generalize past 64 (past 32 (upto 35 (upto 10 l))) = A at hc hp3 ⊢
      rw [implEncode (acc.length : Int) (mk C) (mk A) (by rw [mk_size]; omega) (by rw [mk_size]; omega) k (by rw [mk_size, mk_size]; omega), Option.bind_some]
      unfold encoded
      by_cases h5 : okRec (mk C) (mk A) = true
      · have h4 : (0 ≤ (acc.length : Int) ∧ (acc.length : Int) ≤ 59) ∧ okRec (mk C) (mk A) = true := ⟨⟨by omega, by omega⟩, h5⟩
        rw [if_pos h4, if_pos rfl, if_pos (by rw [mk_size]; omega), toList_B, toList_B, B_mk', B_mk', B_mk', mkB1, B_mk']
        by_cases h6 : enc (acc.length : Int) C A = upto 10 l ++ [10]
        · rw [if_pos h6, if_pos (by omega), if_pos (by omega), mk_size]
          have hst : step (acc.length : Int) l = some (⟨mk C, mk A⟩, (upto 10 l).length + 1) := by
            unfold step dec
            rw [if_pos hm, hc, if_pos ⟨h5, h6⟩]
            rfl
          have hz := step_len hst
          rw [wrap_id (x := ((upto 10 l).length : Int) + 1) (by omega), wrap_id (by omega)]
          have e1 : (at_ : Int) + (((upto 10 l).length : Int) + 1) = ((at_ + ((upto 10 l).length + 1) : Nat) : Int) := by omega
          rw [e1, ih (acc ++ [(⟨mk C, mk A⟩ : R)]) _ (at_ + ((upto 10 l).length + 1)) k (by simp; omega) (by simp [he]) (by omega) (by omega)]
          have e2 : (acc ++ [(⟨mk C, mk A⟩ : R)]).length = acc.length + 1 := by simp
          have e3 : (B s).drop (at_ + ((upto 10 l).length + 1)) = l.drop ((upto 10 l).length + 1) := by rw [← hl, List.drop_drop]
          rw [e2, e3]
          conv => rhs; unfold run
          rw [hst]
          simp only [List.map_cons, ends, List.append_assoc, List.cons_append, List.nil_append]
        · rw [if_neg h6]
          have hst : step (acc.length : Int) l = none := by
            unfold step dec
            rw [if_pos hm, hc, if_neg (fun h => h6 h.2)]
            rfl
          unfold run
          rw [hst]
          simp [ends]
      · have h4 : ¬ ((0 ≤ (acc.length : Int) ∧ (acc.length : Int) ≤ 59) ∧ okRec (mk C) (mk A) = true) := fun h => h5 h.2
        rw [if_neg h4, if_neg (by simp)]
        have hst : step (acc.length : Int) l = none := by
          unfold step dec
          rw [if_pos hm, hc, if_neg (fun h => h5 h.1)]
          rfl
        unfold run
        rw [hst]
        simp [ends]
    · rw [if_neg (by simpa using hm)]
      have hst : step (acc.length : Int) l = none := by
        unfold step
        rw [if_neg hm]
      unfold run
      rw [hst]
      simp [ends]
theorem readRecords (s : ByteArray) (hs : s.size ≤ 1000000) (k : Nat) (hk : 5300000 < k) : impl_readRecords.f k s = some ((run 60 0 (B s)).map (·.1), 0 :: ends 0 (run 60 0 (B s))) := by
  have := read_l0 s hs 60 [] [0] 0 k rfl rfl (Nat.zero_le _) (by omega)
  simpa [impl_readRecords.f] using this
/-- The last end is the whole. -/
theorem rd_last : ∀ (x : List (R × Nat)) (a : Nat), rd (((a : Nat) : Int) :: ends a x) (x.length : Int) = ((a + tot x : Nat) : Int) := by
  intro x
  induction x with
  | nil => intro a; simp [tot, rd]
  | cons p x ih =>
    intro a
    obtain ⟨e, z⟩ := p
    have h := ih (a + z)
    unfold rd at h ⊢
    have e1 : (((e, z) :: x).length : Int).toNat = (x.length : Int).toNat + 1 := by simp
    rw [e1]
    simp only [ends, tot, List.map_cons, List.sum_cons] at h ⊢
    rw [List.getD_cons_succ, h, Nat.add_assoc]
/-- Steps look at what they read alone. -/
theorem upto_app {b : UInt8} {l r : List UInt8} (h : b ∈ l) : upto b (l ++ r) = upto b l := by
  have h1 := upto_split h
  conv => lhs; rw [h1]
  rw [List.append_assoc]
  exact upto_append (notin_upto b l)
theorem step_more {n : Int} {a b : List UInt8} {e : R} {z : Nat} (h : step n a = some (e, z)) : step n (a ++ b) = some (e, z) := by
  unfold step at h ⊢
  split at h
  · rename_i hm
    rw [if_pos (List.mem_append_left _ hm), upto_app hm]
    exact h
  · cases h
theorem step_less {n : Int} {a b : List UInt8} {e : R} {z : Nat} (h : step n (a ++ b) = some (e, z)) (hz : z ≤ a.length) : step n a = some (e, z) := by
  by_cases hm : (10 : UInt8) ∈ a
  · unfold step at h ⊢
    rw [if_pos (List.mem_append_left _ hm), upto_app hm] at h
    rw [if_pos hm]
    exact h
  · exfalso
    unfold step at h
    split at h
    · rename_i hm2
      cases hd : dec n (upto 10 (a ++ b)) with
      | none => rw [hd] at h; cases h
      | some p =>
        rw [hd] at h
        simp only [Option.map_some, Option.some.injEq, Prod.mk.injEq] at h
        obtain ⟨_, rfl⟩ := h
        have h3 : (upto 10 (a ++ b)).length < a.length := by omega
        have h4 := upto_split hm2
        have h5 : (a ++ b)[(upto 10 (a ++ b)).length]? = some 10 := by
          rw [h4]
          rw [upto_append (notin_upto 10 (a ++ b))]
          simp
        rw [List.getElem?_append_left h3] at h5
        exact hm (List.mem_of_getElem? h5)
    · cases h
/-- A log whose records fill it: its ends go on in a longer one. -/
theorem run_app : ∀ (m n : Nat) (a b : List UInt8), tot (run m n a) = a.length → ∃ x, run m n (a ++ b) = run m n a ++ x := by
  intro m
  induction m with
  | zero => intro n a b _; exact ⟨[], rfl⟩
  | succ m ih =>
    intro n a b h
    cases hs : step n a with
    | none =>
      refine ⟨run (m + 1) n (a ++ b), ?_⟩
      have : run (m + 1) n a = [] := by unfold run; rw [hs]
      rw [this]
      rfl
    | some p =>
      obtain ⟨e, z⟩ := p
      have hz := step_len hs
      have e1 : run (m + 1) n a = (e, z) :: run m (n + 1) (a.drop z) := by conv => lhs; unfold run; rw [hs]
      have e2 : run (m + 1) n (a ++ b) = (e, z) :: run m (n + 1) (a.drop z ++ b) := by
        conv => lhs; unfold run; rw [step_more hs]
        simp only
        rw [List.drop_append_of_le_length hz.2]
      rw [e1] at h
      simp only [tot, List.map_cons, List.sum_cons] at h
      obtain ⟨x, hx⟩ := ih (n + 1) (a.drop z) b (by rw [List.length_drop]; simp only [tot]; omega)
      refine ⟨x, ?_⟩
      rw [e1, e2, hx]
      rfl
theorem ends_app : ∀ (x y : List (R × Nat)) (a : Nat), ends a (x ++ y) = ends a x ++ ends (a + tot x) y := by
  intro x
  induction x with
  | nil => intro y a; simp [ends, tot]
  | cons p x ih =>
    intro y a
    obtain ⟨e, z⟩ := p
    simp only [List.cons_append, ends, ih, tot, List.map_cons, List.sum_cons, Nat.add_assoc]
theorem mem_ends : ∀ (x : List (R × Nat)) (a : Nat), ((a + tot x : Nat) : Int) ∈ ((a : Nat) : Int) :: ends a x := by
  intro x
  induction x with
  | nil => intro a; simp [tot]
  | cons p x ih =>
    intro a
    obtain ⟨e, z⟩ := p
    have h := ih (a + z)
    simp only [tot, List.map_cons, List.sum_cons] at h ⊢
    rw [← Nat.add_assoc]
    exact List.mem_cons_of_mem _ h
theorem less : ∀ (m n : Nat) (a b : List UInt8) (o : Nat), ((o + a.length : Nat) : Int) ∈ ((o : Nat) : Int) :: ends o (run m n (a ++ b)) → tot (run m n a) = a.length := by
  intro m
  induction m with
  | zero =>
    intro n a b o h
    simp only [run, ends, List.mem_cons, List.not_mem_nil, or_false] at h
    simp [run, tot]
    omega
  | succ m ih =>
    intro n a b o h
    by_cases h0 : a.length = 0
    · have := tot_le (m + 1) n a
      omega
    · rcases List.mem_cons.1 h with h | h
      · omega
      · cases hs : step n (a ++ b) with
        | none =>
          have : run (m + 1) n (a ++ b) = [] := by unfold run; rw [hs]
          rw [this] at h
          cases h
        | some p =>
          obtain ⟨e, z⟩ := p
          have hz := step_len hs
          have e2 : run (m + 1) n (a ++ b) = (e, z) :: run m (n + 1) ((a ++ b).drop z) := by conv => lhs; unfold run; rw [hs]
          rw [e2] at h
          simp only [ends] at h
          by_cases hza : z ≤ a.length
          · have hs' := step_less hs hza
            have e1 : run (m + 1) n a = (e, z) :: run m (n + 1) (a.drop z) := by conv => lhs; unfold run; rw [hs']
            rw [List.drop_append_of_le_length hza] at h
            have h2 := ih (n + 1) (a.drop z) b (o + z) (by
              rw [List.length_drop]
              have : o + z + (a.length - z) = o + a.length := by omega
              rw [this]
              exact h)
            rw [List.length_drop] at h2
            rw [e1]
            simp only [tot, List.map_cons, List.sum_cons] at h2 ⊢
            omega
          · exfalso
            have ge : ∀ (x : List (R × Nat)) (q : Nat) (v : Int), v ∈ ((q : Nat) : Int) :: ends q x → (q : Int) ≤ v := by
              intro x
              induction x with
              | nil => intro q v hv; simp [ends] at hv; omega
              | cons p x ihx =>
                intro q v hv
                obtain ⟨e, y⟩ := p
                rcases List.mem_cons.1 hv with hv | hv
                · omega
                · have := ihx (q + y) v hv
                  omega
            have := ge _ _ _ h
            omega
/-- A valid log. -/
def okLog (d p : ByteArray) (n : Int) : Bool := decide (d.size + p.size ≤ 30000) && (decide (tot (run 60 0 (B d ++ B p)) = d.size + p.size) && (decide (tot (run 60 0 (B d)) = d.size) && decide (((run 60 0 (B d ++ B p)).length : Int) = n)))
theorem ends_iff (d p : ByteArray) (h : tot (run 60 0 (B d ++ B p)) = d.size + p.size) : ((d.size : Int) ∈ (0 : Int) :: ends 0 (run 60 0 (B d ++ B p))) ↔ tot (run 60 0 (B d)) = d.size := by
  constructor
  · intro hm
    have := less 60 0 (B d) (B p) 0 (by rw [B_len, Nat.zero_add]; exact hm)
    rw [B_len] at this
    exact this
  · intro hm
    obtain ⟨x, hx⟩ := run_app 60 0 (B d) (B p) (by rw [B_len]; exact hm)
    rw [hx, ends_app]
    have h2 := mem_ends (run 60 0 (B d)) 0
    rw [Nat.zero_add, hm] at h2
    rcases List.mem_cons.1 h2 with h2 | h2
    · exact List.mem_cons.2 (Or.inl h2)
    · exact List.mem_cons.2 (Or.inr (List.mem_append_left _ h2))
end Go.Proofs.YtpknehbhbiofaaaDoor.Parse
