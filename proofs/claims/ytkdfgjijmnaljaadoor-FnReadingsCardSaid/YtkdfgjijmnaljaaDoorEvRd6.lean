/- The reading of a rank: the program's; the marks of letters. -/
import Derived.Test.YtkdfgjijmnaljaaDoorEvRd5
set_option linter.unusedVariables false
set_option linter.unusedSimpArgs false
namespace Go.Proofs.YtkdfgjijmnaljaaDoor.Ev
/-- How many readings begin with a letter. -/
def fl (ms : List ByteArray) (l : List UInt8) (m : ByteArray) : Nat := if Rd.pre (B m) l = true then Rd.wy (ms.map B) (l.drop m.size) else 0
theorem wy_fl {ms : List ByteArray} (hv : VT ms) {l : List UInt8} (hl : l ≠ []) : Rd.wy (ms.map B) l = Rd.sm (fl ms l) ms := by
  rw [Rd.wy_cons hv.ne hl, sm_map]
  refine Rd.sm_congr fun m hm => ?_
  unfold fl
  rw [B_len]
def mk_ (ms : List ByteArray) (i : Nat) : ByteArray := ms.getD i ⟨#[]⟩
def flat (ms : List ByteArray) (w : List Nat) : List UInt8 := (w.map fun i => B (mk_ ms i)).flatten
/-- How many readings come before. -/
def rk (ms : List ByteArray) : List Nat → List UInt8 → Nat
  | [], _ => 0
  | i :: w, l => Rd.sm (fl ms l) (ms.take i) + rk ms w (l.drop (mk_ ms i).size)
theorem mk_at {ms : List ByteArray} {i : Nat} (h : i < ms.length) : ms[i] = mk_ ms i := by
  unfold mk_
  rw [List.getD_eq_getElem?_getD, List.getElem?_eq_getElem h]
  rfl
theorem at_in (s : ByteArray) (hs : s.size ≤ 40) (ms : List ByteArray) (hv : VT ms) (at_ : Nat) (ha : at_ < s.size) (out : ByteArray) (ho : out.size ≤ 100) : ∀ (t : List ByteArray) (j k : Nat), ms.drop j = t → k < Rd.sm (fl ms ((B s).drop at_)) t → k ≤ 1099511627776 →
    ∃ i k' : Nat, i < ms.length ∧ Rd.pre (B (mk_ ms i)) ((B s).drop at_) = true ∧ k' < Rd.wy (ms.map B) ((B s).drop (at_ + (mk_ ms i).size)) ∧ j ≤ i ∧ k = Rd.sm (fl ms ((B s).drop at_)) (t.take (i - j)) + k' ∧
    packX 0 [1, 2, 3, 8, 9, 10] (loopW (bd E0 (ev E0) loopW 0 [1, 2, 3, 8, 9, 10, 33, 34, 35] L14b0) ⟨[(1, st s), (2, i64 k), (3, .ptr 0 0 0), (8, .sl 1 0 (s.size + 1)), (9, st out), (10, i64 at_), (33, .lst 1 (ms.map st)), (34, i64 ms.length), (35, i64 j)], [some (tb ms), some (ib (Rd.vals (ms.map B) (B s)))]⟩) =
      some (.ext 2, ⟨[(1, st s), (2, i64 k'), (3, .ptr 0 0 0), (8, .sl 1 0 (s.size + 1)), (9, st (out ++ lt1 i)), (10, i64 ((at_ + (mk_ ms i).size : Nat) : Int))], [some (tb ms), some (ib (Rd.vals (ms.map B) (B s)))]⟩) := by
  unfold tb ib
  intro t
  induction t with
  | nil => intro j k _ h; exact absurd h (Nat.not_lt_zero _)
  | cons m t ih =>
    intro j k hj hb hk40
    obtain ⟨hi, hx, hd, hmem⟩ := at_drop hj
    obtain ⟨hm1, hm2⟩ := hv.sz m hmem
    have hlen := hv.len
    have hxm : mk_ ms j = m := by rw [← mk_at hi, hx]
    have hw : IntKind.i64.wrap ((j : Int) + 1) = (j : Int) + 1 := wr64 (by omega) (by omega)
    have hks : (at_ : Int) ≤ (s.size : Int) := by omega
    have hp := has_i (s.extract at_ s.size) m (by rw [ByteArray.size_extract]; omega) (by omega)
    have hBs : B (s.extract at_ s.size) = (B s).drop at_ := by rw [B_ext, ← B_len, List.take_length]
    rw [hBs] at hp
    have hx2 : (ms.map st)[j]? = some (st m) := by rw [List.getElem?_map, List.getElem?_eq_getElem hi, hx]; rfl
    have hl2 := ns_len (Rd.vals (ms.map B) (B s))
    rw [Rd.vals_len, B_len] at hl2
    by_cases h : Rd.pre (B m) ((B s).drop at_) = true
    · have hle := Rd.pre_len h
      rw [List.length_drop, B_len, B_len] at hle
      have hf : fl ms ((B s).drop at_) m = Rd.wy (ms.map B) ((B s).drop (at_ + m.size)) := by
        unfold fl
        rw [if_pos h, List.drop_drop]
      have z1 := vals_k ms (B s) (at_ + m.size) (by rw [B_len]; omega)
      have z2 : ∀ h, (ns (Rd.vals (ms.map B) (B s)))[at_ + m.size]'h = _ := fun h => (List.getElem?_eq_some_iff.1 z1).2
      have w1 : IntKind.i64.wrap ((at_ : Int) + (m.size : Int)) = ((at_ + m.size : Nat) : Int) := by rw [wr64 (by omega) (by omega)]; omega
      have q1 : at_ + m.size < s.size + 1 := by omega
      have q2 : ((at_ + m.size : Nat) : Int) < (s.size : Int) + 1 := by omega
      rw [Rd.sm, hf] at hb
      rw [h] at hp
      by_cases hk : k < Rd.wy (ms.map B) ((B s).drop (at_ + m.size))
      · refine ⟨j, k, hi, by rw [hxm]; exact h, by rw [hxm]; exact hk, Nat.le_refl _, by rw [Nat.sub_self, List.take_zero]; exact (Nat.zero_add _).symm, ?_⟩
        have hlt := letterText_i j (by omega)
        have hsz : out.size + (lt1 j).size ≤ 9223372036854775807 := by have : (lt1 j).size = 1 := rfl; omega
        rw [hxm, loopW_eq]
        generalize loopW (bd E0 (ev E0) loopW 0 [1, 2, 3, 8, 9, 10, 33, 34, 35] L14b0) = K
        generalize Rd.wy (ms.map B) ((B s).drop (at_ + m.size)) = y at *
        have hki : ¬ (y : Int) ≤ (k : Int) := by omega
        have hki2 : ¬ y ≤ k := by omega
        simp -implicitDefEqProofs [bd, L14b0, hi, hx, hx2, hks, hp, hw, w1, q1, q2, z1, z2, hl2, hki, hki2, hlt, hsz, -Int.natCast_add]
      · obtain ⟨i, k', p1, p2, p3, p4, p5, p6⟩ := ih (j + 1) (k - Rd.wy (ms.map B) ((B s).drop (at_ + m.size))) hd (by omega) (by omega)
        refine ⟨i, k', p1, p2, p3, by omega, ?_, ?_⟩
        · rw [show i - j = (i - (j + 1)) + 1 by omega, List.take_succ_cons, Rd.sm, hf]
          omega
        · rw [cs1] at p6
          have hc : ((k - Rd.wy (ms.map B) ((B s).drop (at_ + m.size)) : Nat) : Int) = (k : Int) - ((Rd.wy (ms.map B) ((B s).drop (at_ + m.size)) : Nat) : Int) := by omega
          rw [hc] at p6
          rw [loopW_eq]
          generalize loopW (bd E0 (ev E0) loopW 0 [1, 2, 3, 8, 9, 10, 33, 34, 35] L14b0) = K at p6 ⊢
          generalize Rd.wy (ms.map B) ((B s).drop (at_ + m.size)) = y at *
          have hki : (y : Int) ≤ (k : Int) := by omega
          have hki2 : y ≤ k := by omega
          have w2 : IntKind.i64.wrap ((k : Int) - (y : Int)) = (k : Int) - (y : Int) := wr64 (by omega) (by omega)
          simpa -implicitDefEqProofs [bd, L14b0, hi, hx, hx2, hks, hp, hw, w1, w2, q1, q2, z1, z2, hl2, hki, hki2, -Int.natCast_add] using p6
    · have h' : Rd.pre (B m) ((B s).drop at_) = false := by simpa using h
      have hf : fl ms ((B s).drop at_) m = 0 := by unfold fl; rw [if_neg h]
      rw [Rd.sm, hf, Nat.zero_add] at hb
      rw [h'] at hp
      obtain ⟨i, k', p1, p2, p3, p4, p5, p6⟩ := ih (j + 1) k hd hb hk40
      refine ⟨i, k', p1, p2, p3, by omega, ?_, ?_⟩
      · rw [show i - j = (i - (j + 1)) + 1 by omega, List.take_succ_cons, Rd.sm, hf, Nat.zero_add]
        exact p5
      · rw [cs1] at p6
        rw [loopW_eq]
        generalize loopW (bd E0 (ev E0) loopW 0 [1, 2, 3, 8, 9, 10, 33, 34, 35] L14b0) = K at p6 ⊢
        simpa -implicitDefEqProofs [bd, L14b0, hi, hx, hx2, hks, hp, hw, -Int.natCast_add] using p6
theorem at_out (s : ByteArray) (hs : s.size ≤ 40) (ms : List ByteArray) (hv : VT ms) : ∀ (n at_ k : Nat) (out : ByteArray), s.size - at_ ≤ n → at_ ≤ s.size → out.size ≤ at_ → k < Rd.wy (ms.map B) ((B s).drop at_) →
    ∃ w : List Nat, (∀ i ∈ w, i < ms.length) ∧ flat ms w = (B s).drop at_ ∧ rk ms w ((B s).drop at_) = k ∧ w.length ≤ s.size - at_ ∧
    packX 0 [9] (loopW (bd E0 (ev E0) loopW 0 [1, 2, 3, 8, 9, 10] L14b1) ⟨[(1, st s), (2, i64 k), (3, .ptr 0 0 0), (8, .sl 1 0 (s.size + 1)), (9, st out), (10, i64 at_)], [some (tb ms), some (ib (Rd.vals (ms.map B) (B s)))]⟩) = some (.ext 0, ⟨[(9, st (out ++ ltx w))], []⟩) := by
  have hend : ∀ (at_ k : Nat) (out : ByteArray), at_ = s.size → k < Rd.wy (ms.map B) ((B s).drop at_) → ∃ w : List Nat, (∀ i ∈ w, i < ms.length) ∧ flat ms w = (B s).drop at_ ∧ rk ms w ((B s).drop at_) = k ∧ w.length ≤ s.size - at_ ∧
    packX 0 [9] (loopW (bd E0 (ev E0) loopW 0 [1, 2, 3, 8, 9, 10] L14b1) ⟨[(1, st s), (2, i64 k), (3, .ptr 0 0 0), (8, .sl 1 0 (s.size + 1)), (9, st out), (10, i64 at_)], [some (tb ms), some (ib (Rd.vals (ms.map B) (B s)))]⟩) = some (.ext 0, ⟨[(9, st (out ++ ltx w))], []⟩) := by
    intro at_ k out e hk
    subst e
    have hd : (B s).drop s.size = [] := List.drop_of_length_le (by rw [B_len]; exact Nat.le_refl _)
    rw [hd, Rd.wy_nil] at hk
    have he : out ++ ltx [] = out := B_eq (by unfold B ltx; simp)
    refine ⟨[], by simp, by rw [hd]; rfl, by show 0 = k; omega, by simp, ?_⟩
    have hi : ¬ (s.size : Int) < (s.size : Int) := by omega
    rw [he, loopW_eq]
    generalize loopW (bd E0 (ev E0) loopW 0 [1, 2, 3, 8, 9, 10] L14b1) = K
    unfold bd
    simp -implicitDefEqProofs [L14b1, ib, tb, hi]
  intro n
  induction n with
  | zero => intro at_ k out h1 h2 h3 h4; exact hend at_ k out (by omega) h4
  | succ n ih =>
    intro at_ k out h1 h2 h3 h4
    by_cases he : at_ = s.size
    · exact hend at_ k out he h4
    · have hal : at_ < s.size := by omega
      have hne : (B s).drop at_ ≠ [] := fun e => by have := congrArg List.length e; rw [List.length_drop, B_len] at this; simp at this; omega
      have hbd := wy_bound hv ((B s).drop at_) (by rw [List.length_drop, B_len]; omega)
      have h5 := h4
      rw [wy_fl hv hne] at h5
      obtain ⟨i, k', p1, p2, p3, p4, p5, p6⟩ := at_in s hs ms hv at_ hal out (by omega) ms 0 k rfl h5 (by omega)
      rw [c0] at p6
      have hz := hv.sz (mk_ ms i) (by rw [← mk_at p1]; exact List.getElem_mem p1)
      have hle := Rd.pre_len p2
      rw [List.length_drop, B_len, B_len] at hle
      obtain ⟨w, r1, r2, r3, r4, r5⟩ := ih (at_ + (mk_ ms i).size) k' (out ++ lt1 i) (by omega) (by omega) (by rw [ByteArray.size_append]; have : (lt1 i).size = 1 := rfl; omega) p3
      refine ⟨i :: w, ?_, ?_, ?_, by rw [List.length_cons]; omega, ?_⟩
      · intro x hx
        rcases List.mem_cons.1 hx with rfl | hx
        · exact p1
        · exact r1 x hx
      · show B (mk_ ms i) ++ flat ms w = _
        rw [r2, ← List.drop_drop]
        conv => rhs; rw [Rd.pre_iff.1 p2]
        rw [B_len]
      · show Rd.sm _ (ms.take i) + rk ms w _ = k
        rw [List.drop_drop, r3, p5, Nat.sub_zero]
      · have hcat : (out ++ lt1 i) ++ ltx w = out ++ ltx (i :: w) := B_eq (by unfold B lt1 ltx; simp)
        rw [hcat] at r5
        have hai : (at_ : Int) < (s.size : Int) := by omega
        rw [loopW_eq]
        generalize out ++ lt1 i = o2 at *
        generalize loopW (bd E0 (ev E0) loopW 0 [1, 2, 3, 8, 9, 10] L14b1) = K at r5 ⊢
        unfold bd
        simp only [ib, tb] at p6 r5 ⊢
        simpa -implicitDefEqProofs [L14b1, p6, hai] using r5
theorem readingAt_i (ms : List ByteArray) (hm : ms.length ≤ 1000) (hz : ∀ m ∈ ms, m.size ≤ 1000) (s : ByteArray) (hs : s.size ≤ 1000000) (k : Int) :
    (okRead ms s = true ∧ 0 ≤ k ∧ k < (rds ms s : Int) → ∃ w : List Nat, (∀ i ∈ w, i < ms.length) ∧ flat ms w = B s ∧ (rk ms w (B s) : Int) = k ∧ w.length ≤ s.size ∧ ev E0 14 [.agg [.lst 1 (ms.map st)], st s, i64 k] [] = some (.tup [st (ltx w), bl true], [])) ∧
    (¬ (okRead ms s = true ∧ 0 ≤ k ∧ k < (rds ms s : Int)) → ev E0 14 [.agg [.lst 1 (ms.map st)], st s, i64 k] [] = some (.tup [st ⟨#[]⟩, bl false], [])) := by
  have h1 := isRead_i ms hm hz s hs
  by_cases h : okRead ms s = true
  · obtain ⟨hv, hs2⟩ := read_size h
    rw [h] at h1
    have h2 := ways_i s hs2 ms hv
    have z3 := vals_zero ms (B s)
    have hl2 := ns_len (Rd.vals (ms.map B) (B s))
    rw [Rd.vals_len, B_len] at hl2
    have hbd := wy_bound hv (B s) (by rw [B_len]; exact hs2)
    have hin := in_i k 0 (((Rd.wy (ms.map B) (B s) : Nat) : Int) - 1)
    have w1 : IntKind.i64.wrap (((Rd.wy (ms.map B) (B s) : Nat) : Int) - 1) = ((Rd.wy (ms.map B) (B s) : Nat) : Int) - 1 := wr64 (by omega) (by omega)
    have z4 : ∀ h, (ns (Rd.vals (ms.map B) (B s)))[0]'h = _ := fun h => (List.getElem?_eq_some_iff.1 z3).2
    constructor
    · rintro ⟨_, k0, k1⟩
      obtain ⟨kn, rfl⟩ : ∃ kn : Nat, k = kn := ⟨k.toNat, by omega⟩
      unfold rds at k1
      obtain ⟨w, r1, r2, r3, r4, r5⟩ := at_out s hs2 ms hv s.size 0 kn ⟨#[]⟩ (by omega) (Nat.zero_le _) (by decide) (by rw [List.drop_zero]; omega)
      rw [List.drop_zero] at r2 r3
      rw [c0, show (⟨#[]⟩ : ByteArray) ++ ltx w = ltx w from B_eq (by unfold B ltx; simp)] at r5
      refine ⟨w, r1, r2, by rw [r3], by omega, ?_⟩
      have d1 : decide ((kn : Int) ≤ ((Rd.wy (ms.map B) (B s) : Nat) : Int) - 1) = true := decide_eq_true (by omega)
      have d0 : decide ((0 : Int) ≤ (kn : Int)) = true := decide_eq_true k0
      rw [d1, d0] at hin
      rw [e14]
      unfold runF
      simp only [ib, tb] at h2 r5 ⊢
      generalize Rd.wy (ms.map B) (B s) = y at *
      generalize ns (Rd.vals (ms.map B) (B s)) = V at *
      simp -implicitDefEqProofs [L14, h1, h2, z3, z4, hl2, w1, hin, r5]
    · intro hn
      have d1 : (decide ((0 : Int) ≤ k) && decide (k ≤ ((Rd.wy (ms.map B) (B s) : Nat) : Int) - 1)) = false := by
        rw [Bool.eq_false_iff]
        intro e
        rw [Bool.and_eq_true, decide_eq_true_eq, decide_eq_true_eq] at e
        exact hn ⟨h, e.1, by unfold rds; omega⟩
      rw [d1] at hin
      rw [e14]
      unfold runF
      simp only [ib, tb] at h2 ⊢
      generalize Rd.wy (ms.map B) (B s) = y at *
      generalize ns (Rd.vals (ms.map B) (B s)) = V at *
      simp -implicitDefEqProofs [L14, h1, h2, z3, z4, hl2, w1, hin]
  · refine ⟨fun hh => absurd hh.1 h, fun _ => ?_⟩
    have h' : okRead ms s = false := by simpa using h
    rw [h'] at h1
    rw [e14]
    unfold runF
    simp -implicitDefEqProofs [L14, h1]
end Go.Proofs.YtkdfgjijmnaljaaDoor.Ev
