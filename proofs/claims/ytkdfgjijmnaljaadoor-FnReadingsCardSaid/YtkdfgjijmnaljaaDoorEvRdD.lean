/- Ranks of readings: each reading has its own; the reading of a rank, by the reference. -/
import Derived.Test.YtkdfgjijmnaljaaDoorEvRdC
set_option linter.unusedVariables false
set_option linter.unusedSimpArgs false
namespace Go.Proofs.YtkdfgjijmnaljaaDoor.Ev
theorem sm_take_le {α : Type} (f : α → Nat) : ∀ (l : List α) (i j : Nat), i ≤ j → Rd.sm f (l.take i) ≤ Rd.sm f (l.take j)
  | [], i, j, _ => by simp [Rd.sm]
  | x :: l, 0, j, _ => Nat.zero_le _
  | x :: l, i + 1, 0, h => by omega
  | x :: l, i + 1, j + 1, h => by
    rw [List.take_succ_cons, List.take_succ_cons, Rd.sm, Rd.sm]
    have := sm_take_le f l i j (by omega)
    omega
theorem sm_take_succ {α : Type} (f : α → Nat) : ∀ (l : List α) (i : Nat) (h : i < l.length), Rd.sm f (l.take (i + 1)) = Rd.sm f (l.take i) + f l[i]
  | [], i, h => by simp at h
  | x :: l, 0, h => by simp [Rd.sm]
  | x :: l, i + 1, h => by
    rw [List.take_succ_cons, List.take_succ_cons, Rd.sm, Rd.sm, sm_take_succ f l i (by simpa using h), List.getElem_cons_succ]
    omega
theorem flat_cons (ms : List ByteArray) (i : Nat) (w : List Nat) : flat ms (i :: w) = B (mk_ ms i) ++ flat ms w := rfl
theorem flat_head {ms : List ByteArray} (i : Nat) (w : List Nat) : Rd.pre (B (mk_ ms i)) (flat ms (i :: w)) = true ∧ (flat ms (i :: w)).drop (mk_ ms i).size = flat ms w := by
  rw [flat_cons]
  refine ⟨Rd.pre_iff.2 (by rw [List.drop_left]), by rw [← B_len, List.drop_left]⟩
theorem flat_ne {ms : List ByteArray} (hv : VT ms) {i : Nat} {w : List Nat} (hi : i < ms.length) : flat ms (i :: w) ≠ [] := by
  intro e
  have := congrArg List.length e
  have hz := hv.sz (mk_ ms i) (by rw [← mk_at hi]; exact List.getElem_mem hi)
  rw [flat_cons, List.length_append, B_len, List.length_nil] at this
  omega
theorem rk_lt {ms : List ByteArray} (hv : VT ms) : ∀ w : List Nat, (∀ i ∈ w, i < ms.length) → rk ms w (flat ms w) < Rd.wy (ms.map B) (flat ms w)
  | [], _ => Nat.one_pos
  | i :: w, hw => by
    have ih := rk_lt hv w (fun x hx => hw x (List.mem_cons_of_mem _ hx))
    have hi := hw i (List.mem_cons_self ..)
    obtain ⟨h1, h2⟩ := flat_head (ms := ms) i w
    rw [wy_fl hv (flat_ne hv hi)]
    have h3 := sm_take_succ (fl ms (flat ms (i :: w))) ms i hi
    have h4 := sm_take_le (fl ms (flat ms (i :: w))) ms (i + 1) ms.length (by omega)
    rw [List.take_length] at h4
    rw [mk_at hi] at h3
    have h5 : fl ms (flat ms (i :: w)) (mk_ ms i) = Rd.wy (ms.map B) (flat ms w) := by unfold fl; rw [if_pos h1, h2]
    show Rd.sm _ (ms.take i) + rk ms w ((flat ms (i :: w)).drop (mk_ ms i).size) < _
    rw [h2]
    omega
theorem rk_inj {ms : List ByteArray} (hv : VT ms) : ∀ (w v : List Nat), (∀ i ∈ w, i < ms.length) → (∀ i ∈ v, i < ms.length) → flat ms w = flat ms v → rk ms w (flat ms w) = rk ms v (flat ms w) → w = v
  | [], [], _, _, _, _ => rfl
  | [], j :: v, _, hv2, hf, _ => absurd hf.symm (flat_ne hv (hv2 j (List.mem_cons_self ..)))
  | i :: w, [], hw, _, hf, _ => absurd hf (flat_ne hv (hw i (List.mem_cons_self ..)))
  | i :: w, j :: v, hw, hv2, hf, hr => by
    have hi := hw i (List.mem_cons_self ..)
    have hj := hv2 j (List.mem_cons_self ..)
    obtain ⟨a1, a2⟩ := flat_head (ms := ms) i w
    obtain ⟨b1, b2⟩ := flat_head (ms := ms) j v
    rw [← hf] at b1 b2
    have li := rk_lt hv w (fun x hx => hw x (List.mem_cons_of_mem _ hx))
    have lj := rk_lt hv v (fun x hx => hv2 x (List.mem_cons_of_mem _ hx))
    have hr' : Rd.sm (fl ms (flat ms (i :: w))) (ms.take i) + rk ms w (flat ms w) = Rd.sm (fl ms (flat ms (i :: w))) (ms.take j) + rk ms v (flat ms v) := by
      have : Rd.sm (fl ms (flat ms (i :: w))) (ms.take i) + rk ms w ((flat ms (i :: w)).drop (mk_ ms i).size) = Rd.sm (fl ms (flat ms (i :: w))) (ms.take j) + rk ms v ((flat ms (i :: w)).drop (mk_ ms j).size) := hr
      rwa [a2, b2] at this
    have ei := sm_take_succ (fl ms (flat ms (i :: w))) ms i hi
    have ej := sm_take_succ (fl ms (flat ms (i :: w))) ms j hj
    rw [mk_at hi, show fl ms (flat ms (i :: w)) (mk_ ms i) = Rd.wy (ms.map B) (flat ms w) by unfold fl; rw [if_pos a1, a2]] at ei
    rw [mk_at hj, show fl ms (flat ms (i :: w)) (mk_ ms j) = Rd.wy (ms.map B) (flat ms v) by unfold fl; rw [if_pos b1, b2]] at ej
    have hij : i = j := by
      rcases Nat.lt_trichotomy i j with h | h | h
      · have := sm_take_le (fl ms (flat ms (i :: w))) ms (i + 1) j h
        omega
      · exact h
      · have := sm_take_le (fl ms (flat ms (i :: w))) ms (j + 1) i h
        omega
    subst hij
    have hfv : flat ms w = flat ms v := by rw [← a2, ← b2]
    have ih := rk_inj hv w v (fun x hx => hw x (List.mem_cons_of_mem _ hx)) (fun x hx => hv2 x (List.mem_cons_of_mem _ hx)) hfv (by rw [← hfv] at hr'; omega)
    rw [ih]
theorem atS_in (s : ByteArray) (hs : s.size ≤ 40) (ms : List ByteArray) (hv : VT ms) (at_ : Nat) (ha : at_ < s.size) (out : ByteArray) : ∀ (t : List ByteArray) (j k : Nat), ms.drop j = t → k < Rd.sm (fl ms ((B s).drop at_)) t → k ≤ 1099511627776 →
    ∃ i k' : Nat, i < ms.length ∧ Rd.pre (B (mk_ ms i)) ((B s).drop at_) = true ∧ k' < Rd.wy (ms.map B) ((B s).drop (at_ + (mk_ ms i).size)) ∧ j ≤ i ∧ k = Rd.sm (fl ms ((B s).drop at_)) (t.take (i - j)) + k' ∧
    packX 0 [1, 2, 3, 8, 9, 10, 11] (loopW (bd E0 (ev E0) loopW 0 [1, 2, 3, 8, 9, 10, 11] L17b0) ⟨[(1, st s), (2, i64 k), (3, .ptr 0 0 0), (8, .sl 1 0 (s.size + 1)), (9, st out), (10, i64 at_), (11, i64 j)], [some (tb ms), some (ib (Rd.vals (ms.map B) (B s)))]⟩) =
      some (.ext 2, ⟨[(1, st s), (2, i64 k'), (3, .ptr 0 0 0), (8, .sl 1 0 (s.size + 1)), (9, st out), (10, i64 at_), (11, i64 i)], [some (tb ms), some (ib (Rd.vals (ms.map B) (B s)))]⟩) := by
  unfold tb ib
  intro t
  induction t with
  | nil => intro j k _ h; exact absurd h (Nat.not_lt_zero _)
  | cons m t ih =>
    intro j k hj hb hk40
    obtain ⟨hi, hx, hd, hmem⟩ := at_drop hj
    obtain ⟨hm1, hm2⟩ := hv.sz m hmem
    have hlen := hv.len
    have hxm : mk_ ms j = m := by rw [← mk_at hi, hx]
    have hw : IntKind.i64.wrap ((j : Int) + 1) = (j : Int) + 1 := wr64 (by omega) (by omega)
    have hp := stands_s s m at_ (by omega) (by omega) (by omega)
    have hx2 : (ms.map st)[j]? = some (st m) := by rw [List.getElem?_map, List.getElem?_eq_getElem hi, hx]; rfl
    have hl2 := ns_len (Rd.vals (ms.map B) (B s))
    rw [Rd.vals_len, B_len] at hl2
    by_cases h : Rd.pre (B m) ((B s).drop at_) = true
    · have hle := Rd.pre_len h
      rw [List.length_drop, B_len, B_len] at hle
      have hf : fl ms ((B s).drop at_) m = Rd.wy (ms.map B) ((B s).drop (at_ + m.size)) := by
        unfold fl
        rw [if_pos h, List.drop_drop]
      have z1 := vals_k ms (B s) (at_ + m.size) (by rw [B_len]; omega)
      have z2 : ∀ h, (ns (Rd.vals (ms.map B) (B s)))[at_ + m.size]'h = _ := fun h => (List.getElem?_eq_some_iff.1 z1).2
      have w1 : IntKind.i64.wrap ((at_ : Int) + (m.size : Int)) = ((at_ + m.size : Nat) : Int) := by rw [wr64 (by omega) (by omega)]; omega
      have q1 : at_ + m.size < s.size + 1 := by omega
      have q2 : ((at_ + m.size : Nat) : Int) < (s.size : Int) + 1 := by omega
      rw [Rd.sm, hf] at hb
      rw [h] at hp
      by_cases hk : k < Rd.wy (ms.map B) ((B s).drop (at_ + m.size))
      · refine ⟨j, k, hi, by rw [hxm]; exact h, by rw [hxm]; exact hk, Nat.le_refl _, by rw [Nat.sub_self, List.take_zero]; exact (Nat.zero_add _).symm, ?_⟩
        rw [loopW_eq]
        generalize loopW (bd E0 (ev E0) loopW 0 [1, 2, 3, 8, 9, 10, 11] L17b0) = K
        generalize Rd.wy (ms.map B) ((B s).drop (at_ + m.size)) = y at *
        have hki : (k : Int) < (y : Int) := by omega
        simp -implicitDefEqProofs [bd, L17b0, hi, hx, hx2, hp, hw, w1, q1, q2, z1, z2, hl2, hki, hk, -Int.natCast_add]
      · obtain ⟨i, k', p1, p2, p3, p4, p5, p6⟩ := ih (j + 1) (k - Rd.wy (ms.map B) ((B s).drop (at_ + m.size))) hd (by omega) (by omega)
        refine ⟨i, k', p1, p2, p3, by omega, ?_, ?_⟩
        · rw [show i - j = (i - (j + 1)) + 1 by omega, List.take_succ_cons, Rd.sm, hf]
          omega
        · rw [cs1] at p6
          have hc : ((k - Rd.wy (ms.map B) ((B s).drop (at_ + m.size)) : Nat) : Int) = (k : Int) - ((Rd.wy (ms.map B) ((B s).drop (at_ + m.size)) : Nat) : Int) := by omega
          rw [hc] at p6
          rw [loopW_eq]
          generalize loopW (bd E0 (ev E0) loopW 0 [1, 2, 3, 8, 9, 10, 11] L17b0) = K at p6 ⊢
          generalize Rd.wy (ms.map B) ((B s).drop (at_ + m.size)) = y at *
          have hki : ¬ (k : Int) < (y : Int) := by omega
          have w2 : IntKind.i64.wrap ((k : Int) - (y : Int)) = (k : Int) - (y : Int) := wr64 (by omega) (by omega)
          simpa -implicitDefEqProofs [bd, L17b0, hi, hx, hx2, hp, hw, w1, w2, q1, q2, z1, z2, hl2, hki, hk, -Int.natCast_add] using p6
    · have h' : Rd.pre (B m) ((B s).drop at_) = false := by simpa using h
      have hf : fl ms ((B s).drop at_) m = 0 := by unfold fl; rw [if_neg h]
      rw [Rd.sm, hf, Nat.zero_add] at hb
      rw [h'] at hp
      obtain ⟨i, k', p1, p2, p3, p4, p5, p6⟩ := ih (j + 1) k hd hb hk40
      refine ⟨i, k', p1, p2, p3, by omega, ?_, ?_⟩
      · rw [show i - j = (i - (j + 1)) + 1 by omega, List.take_succ_cons, Rd.sm, hf, Nat.zero_add]
        exact p5
      · rw [cs1] at p6
        have hk0 : ¬ (k : Int) < 0 := by omega
        have w2 : IntKind.i64.wrap (k : Int) = (k : Int) := wr64 (by omega) (by omega)
        rw [loopW_eq]
        generalize loopW (bd E0 (ev E0) loopW 0 [1, 2, 3, 8, 9, 10, 11] L17b0) = K at p6 ⊢
        simpa -implicitDefEqProofs [bd, L17b0, hi, hx, hx2, hp, hw, hk0, w2, -Int.natCast_add] using p6
theorem atS_out (s : ByteArray) (hs : s.size ≤ 40) (ms : List ByteArray) (hv : VT ms) : ∀ (n at_ k : Nat) (out : ByteArray), s.size - at_ ≤ n → at_ ≤ s.size → out.size ≤ at_ → k < Rd.wy (ms.map B) ((B s).drop at_) →
    ∃ w : List Nat, (∀ i ∈ w, i < ms.length) ∧ flat ms w = (B s).drop at_ ∧ rk ms w ((B s).drop at_) = k ∧ w.length ≤ s.size - at_ ∧
    packX 0 [9] (loopW (bd E0 (ev E0) loopW 0 [1, 2, 3, 8, 9, 10] L17b1) ⟨[(1, st s), (2, i64 k), (3, .ptr 0 0 0), (8, .sl 1 0 (s.size + 1)), (9, st out), (10, i64 at_)], [some (tb ms), some (ib (Rd.vals (ms.map B) (B s)))]⟩) = some (.ext 0, ⟨[(9, st (out ++ ltx w))], []⟩) := by
  have hend : ∀ (at_ k : Nat) (out : ByteArray), at_ = s.size → k < Rd.wy (ms.map B) ((B s).drop at_) → ∃ w : List Nat, (∀ i ∈ w, i < ms.length) ∧ flat ms w = (B s).drop at_ ∧ rk ms w ((B s).drop at_) = k ∧ w.length ≤ s.size - at_ ∧
    packX 0 [9] (loopW (bd E0 (ev E0) loopW 0 [1, 2, 3, 8, 9, 10] L17b1) ⟨[(1, st s), (2, i64 k), (3, .ptr 0 0 0), (8, .sl 1 0 (s.size + 1)), (9, st out), (10, i64 at_)], [some (tb ms), some (ib (Rd.vals (ms.map B) (B s)))]⟩) = some (.ext 0, ⟨[(9, st (out ++ ltx w))], []⟩) := by
    intro at_ k out e hk
    subst e
    have hd : (B s).drop s.size = [] := List.drop_of_length_le (by rw [B_len]; exact Nat.le_refl _)
    rw [hd, Rd.wy_nil] at hk
    have he : out ++ ltx [] = out := B_eq (by unfold B ltx; simp)
    refine ⟨[], by simp, by rw [hd]; rfl, by show 0 = k; omega, by simp, ?_⟩
    have hi : ¬ (s.size : Int) < (s.size : Int) := by omega
    rw [he, loopW_eq]
    generalize loopW (bd E0 (ev E0) loopW 0 [1, 2, 3, 8, 9, 10] L17b1) = K
    unfold bd
    simp -implicitDefEqProofs [L17b1, ib, tb, hi]
  intro n
  induction n with
  | zero => intro at_ k out h1 h2 h3 h4; exact hend at_ k out (by omega) h4
  | succ n ih =>
    intro at_ k out h1 h2 h3 h4
    by_cases he : at_ = s.size
    · exact hend at_ k out he h4
    · have hal : at_ < s.size := by omega
      have hne : (B s).drop at_ ≠ [] := fun e => by have := congrArg List.length e; rw [List.length_drop, B_len] at this; simp at this; omega
      have hbd := wy_bound hv ((B s).drop at_) (by rw [List.length_drop, B_len]; omega)
      have h5 := h4
      rw [wy_fl hv hne] at h5
      obtain ⟨i, k', p1, p2, p3, p4, p5, p6⟩ := atS_in s hs ms hv at_ hal out ms 0 k rfl h5 (by omega)
      rw [c0] at p6
      have hlen := hv.len
      have hz := hv.sz (mk_ ms i) (by rw [← mk_at p1]; exact List.getElem_mem p1)
      have hle := Rd.pre_len p2
      rw [List.length_drop, B_len, B_len] at hle
      obtain ⟨w, r1, r2, r3, r4, r5⟩ := ih (at_ + (mk_ ms i).size) k' (out ++ lt1 i) (by omega) (by omega) (by rw [ByteArray.size_append]; have : (lt1 i).size = 1 := rfl; omega) p3
      refine ⟨i :: w, ?_, ?_, ?_, by rw [List.length_cons]; omega, ?_⟩
      · intro x hx
        rcases List.mem_cons.1 hx with rfl | hx
        · exact p1
        · exact r1 x hx
      · show B (mk_ ms i) ++ flat ms w = _
        rw [r2, ← List.drop_drop]
        conv => rhs; rw [Rd.pre_iff.1 p2]
        rw [B_len]
      · show Rd.sm _ (ms.take i) + rk ms w _ = k
        rw [List.drop_drop, r3, p5, Nat.sub_zero]
      · have hcat : (out ++ lt1 i) ++ ltx w = out ++ ltx (i :: w) := B_eq (by unfold B lt1 ltx; simp)
        rw [hcat] at r5
        have hai : (at_ : Int) < (s.size : Int) := by omega
        have hlt := letterText_s i (by omega)
        have hsz : out.size + (lt1 i).size ≤ 9223372036854775807 := by have : (lt1 i).size = 1 := rfl; omega
        have hx2 : (ms.map st)[i]? = some (st (mk_ ms i)) := by rw [List.getElem?_map, List.getElem?_eq_getElem p1, mk_at p1]; rfl
        have hx3 : ∀ h, ms[i]'h = mk_ ms i := fun h => mk_at h
        have w1 : IntKind.i64.wrap ((at_ : Int) + ((mk_ ms i).size : Int)) = ((at_ + (mk_ ms i).size : Nat) : Int) := by rw [wr64 (by omega) (by omega)]; omega
        rw [loopW_eq]
        generalize mk_ ms i = m at *
        generalize loopW (bd E0 (ev E0) loopW 0 [1, 2, 3, 8, 9, 10] L17b1) = K at r5 ⊢
        unfold bd
        simp only [ib, tb] at p6 r5 ⊢
        simpa -implicitDefEqProofs [L17b1, p6, hai, hlt, hsz, p1, hx2, hx3, w1, -Int.natCast_add, -ByteArray.size_append] using r5
theorem readingAt_s (ms : List ByteArray) (hm : ms.length ≤ 1000) (hz : ∀ m ∈ ms, m.size ≤ 1000) (s : ByteArray) (hs : s.size ≤ 1000000) (k : Int) :
    (okRead ms s = true ∧ 0 ≤ k ∧ k < (rds ms s : Int) → ∃ w : List Nat, (∀ i ∈ w, i < ms.length) ∧ flat ms w = B s ∧ (rk ms w (B s) : Int) = k ∧ w.length ≤ s.size ∧ ev E0 17 [.agg [.lst 1 (ms.map st)], st s, i64 k] [] = some (.tup [st (ltx w), bl true], [])) ∧
    (¬ (okRead ms s = true ∧ 0 ≤ k ∧ k < (rds ms s : Int)) → ev E0 17 [.agg [.lst 1 (ms.map st)], st s, i64 k] [] = some (.tup [st ⟨#[]⟩, bl false], [])) := by
  have h1 := good_s ms hm hz s hs
  by_cases h : okRead ms s = true
  · obtain ⟨hv, hs2⟩ := read_size h
    rw [h] at h1
    have h2 := ways_s s hs2 ms hv
    have z3 := vals_zero ms (B s)
    have hl2 := ns_len (Rd.vals (ms.map B) (B s))
    rw [Rd.vals_len, B_len] at hl2
    have hbd := wy_bound hv (B s) (by rw [B_len]; exact hs2)
    have hin := in_s k 0 (((Rd.wy (ms.map B) (B s) : Nat) : Int) - 1)
    have w1 : IntKind.i64.wrap (((Rd.wy (ms.map B) (B s) : Nat) : Int) - 1) = ((Rd.wy (ms.map B) (B s) : Nat) : Int) - 1 := wr64 (by omega) (by omega)
    have z4 : ∀ h, (ns (Rd.vals (ms.map B) (B s)))[0]'h = _ := fun h => (List.getElem?_eq_some_iff.1 z3).2
    constructor
    · rintro ⟨_, k0, k1⟩
      obtain ⟨kn, rfl⟩ : ∃ kn : Nat, k = kn := ⟨k.toNat, by omega⟩
      unfold rds at k1
      obtain ⟨w, r1, r2, r3, r4, r5⟩ := atS_out s hs2 ms hv s.size 0 kn ⟨#[]⟩ (by omega) (Nat.zero_le _) (by decide) (by rw [List.drop_zero]; omega)
      rw [List.drop_zero] at r2 r3
      rw [c0, show (⟨#[]⟩ : ByteArray) ++ ltx w = ltx w from B_eq (by unfold B ltx; simp)] at r5
      refine ⟨w, r1, r2, by rw [r3], by omega, ?_⟩
      have d1 : decide ((kn : Int) ≤ ((Rd.wy (ms.map B) (B s) : Nat) : Int) - 1) = true := decide_eq_true (by omega)
      have d0 : decide ((0 : Int) ≤ (kn : Int)) = true := decide_eq_true k0
      rw [d1, d0] at hin
      rw [e17]
      unfold runF
      simp only [ib, tb] at h2 r5 ⊢
      generalize Rd.wy (ms.map B) (B s) = y at *
      generalize ns (Rd.vals (ms.map B) (B s)) = V at *
      simp -implicitDefEqProofs [L17, h1, h2, z3, z4, hl2, w1, hin, r5]
    · intro hn
      have d1 : (decide ((0 : Int) ≤ k) && decide (k ≤ ((Rd.wy (ms.map B) (B s) : Nat) : Int) - 1)) = false := by
        rw [Bool.eq_false_iff]
        intro e
        rw [Bool.and_eq_true, decide_eq_true_eq, decide_eq_true_eq] at e
        exact hn ⟨h, e.1, by unfold rds; omega⟩
      rw [d1] at hin
      rw [e17]
      unfold runF
      simp only [ib, tb] at h2 ⊢
      generalize Rd.wy (ms.map B) (B s) = y at *
      generalize ns (Rd.vals (ms.map B) (B s)) = V at *
      simp -implicitDefEqProofs [L17, h1, h2, z3, z4, hl2, w1, hin]
  · refine ⟨fun hh => absurd hh.1 h, fun _ => ?_⟩
    have h' : okRead ms s = false := by simpa using h
    rw [h'] at h1
    rw [e17]
    unfold runF
    simp -implicitDefEqProofs [L17, h1]
theorem count_s (ms : List ByteArray) (hm : ms.length ≤ 1000) (hz : ∀ m ∈ ms, m.size ≤ 1000) (s : ByteArray) (hs : s.size ≤ 1000000) : ev E0 18 [.agg [.lst 1 (ms.map st)], st s] [] = some (.tup [i64 ((if okRead ms s = true then rds ms s else 0 : Nat) : Int), bl (okRead ms s)], []) := by
  have h1 := good_s ms hm hz s hs
  rw [e18]
  unfold runF
  cases h : okRead ms s with
  | false => rw [h] at h1; simp -implicitDefEqProofs [L18, h1]
  | true =>
    rw [h] at h1
    obtain ⟨hv, hs2⟩ := read_size h
    have h2 := ways_s s hs2 ms hv
    have h3 := vals_zero ms (B s)
    have h4 : ∀ h, (ns (Rd.vals (ms.map B) (B s)))[0]'h = i64 ((Rd.wy (ms.map B) (B s) : Nat) : Int) := fun h => (List.getElem?_eq_some_iff.1 h3).2
    have hl := ns_len (Rd.vals (ms.map B) (B s))
    rw [Rd.vals_len, B_len] at hl
    unfold ib at h2
    unfold rds
    generalize ns (Rd.vals (ms.map B) (B s)) = V at *
    simp -implicitDefEqProofs [L18, h1, h2, h3, h4, hl]
end Go.Proofs.YtkdfgjijmnaljaaDoor.Ev
