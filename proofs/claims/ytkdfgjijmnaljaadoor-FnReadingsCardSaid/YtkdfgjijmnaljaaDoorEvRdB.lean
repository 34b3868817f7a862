/- The best readings of the reference. -/
import Derived.Test.YtkdfgjijmnaljaaDoorEvRdA
set_option linter.unusedVariables false
set_option linter.unusedSimpArgs false
namespace Go.Proofs.YtkdfgjijmnaljaaDoor.Ev
theorem letterText_s (k : Nat) (hk : k ≤ 100) : ev E0 49 [i64 k] [] = some (st (lt1 k), []) := by
  have w1 : IntKind.i64.wrap (97 + (k : Int)) = ((97 + k : Nat) : Int) := by rw [wr64 (by omega) (by omega)]; omega
  have w2 : IntKind.u8.wrap ((97 + k : Nat) : Int) = ((97 + k : Nat) : Int) := by
    unfold IntKind.wrap
    simp [IntKind.bits, IntKind.signed]
    omega
  rw [e49]
  unfold runF lt1
  simp -implicitDefEqProofs [L49, w1, w2, b2sR, b2sL, bytesOf, -Int.natCast_add]
theorem good_not {most : Bool} {ms : List ByteArray} {l : List UInt8} {j : Nat} (h : j < pk most ms l) (hj : j < ms.length) : good most ms l (mk_ ms j) = false := by
  have := List.not_of_lt_findIdx h
  rw [mk_at hj] at this
  exact this
set_option maxHeartbeats 1600000 in
theorem pickS_loop (most : Bool) (s : ByteArray) (hs : s.size ≤ 40) (ms : List ByteArray) (hv : VT ms) (at_ : Nat) (ha : at_ < s.size) (hc : 0 ≤ cw most ms ((B s).drop at_)) (out : ByteArray) : ∀ (d j : Nat), j + d = pk most ms ((B s).drop at_) →
    packX 0 [1, 3, 8, 9, 10, 11] (loopW (bd E0 (ev E0) loopW 0 [1, 3, 8, 9, 10, 11] L52b0) ⟨[(1, st s), (3, .ptr 0 0 0), (8, .sl 1 0 (s.size + 1)), (9, st out), (10, i64 at_), (11, i64 j)], [some (tb ms), some (jb (cva most ms (B s)))]⟩) =
      some (.ext 2, ⟨[(1, st s), (3, .ptr 0 0 0), (8, .sl 1 0 (s.size + 1)), (9, st out), (10, i64 at_), (11, i64 (pk most ms ((B s).drop at_)))], [some (tb ms), some (jb (cva most ms (B s)))]⟩) := by
  have hne : (B s).drop at_ ≠ [] := fun e => by have := congrArg List.length e; rw [List.length_drop, B_len] at this; simp at this; omega
  obtain ⟨p1, p2, p3, p4⟩ := pk_ok hv hne hc
  have hlen := hv.len
  have hl := js_len (cva most ms (B s))
  rw [cva_len, B_len] at hl
  have z1 := js_at most ms (B s) at_ (by rw [B_len]; omega)
  have z2 : ∀ h, (js (cva most ms (B s)))[at_]'h = _ := fun h => (List.getElem?_eq_some_iff.1 z1).2
  have hcb := cw_b most ms ((B s).drop at_)
  rw [List.length_drop, B_len] at hcb
  have step : ∀ j : Nat, j < ms.length → ∃ (m : ByteArray), m = mk_ ms j ∧ 1 ≤ m.size ∧ m.size ≤ 5 ∧ (ms.map st)[j]? = some (st m) ∧ (∀ h, ms[j]'h = m) ∧ ev E0 48 [st s, st m, i64 at_] [] = some (bl (Rd.pre (B m) ((B s).drop at_)), []) ∧
      (Rd.pre (B m) ((B s).drop at_) = true → at_ + m.size ≤ s.size ∧ (js (cva most ms (B s)))[at_ + m.size]? = some (i64 (cw most ms (((B s).drop at_).drop m.size)))) := by
    intro j hj
    have hm := mk_at hj
    have hz := hv.sz (mk_ ms j) (by rw [← hm]; exact List.getElem_mem hj)
    refine ⟨mk_ ms j, rfl, hz.1, hz.2, by rw [List.getElem?_map, List.getElem?_eq_getElem hj, hm]; rfl, fun h => hm, stands_s s (mk_ ms j) at_ (by omega) (by omega) (by omega), fun hp => ?_⟩
    have hle := Rd.pre_len hp
    rw [List.length_drop, B_len, B_len] at hle
    refine ⟨by omega, ?_⟩
    rw [List.drop_drop]
    exact js_at most ms (B s) (at_ + (mk_ ms j).size) (by rw [B_len]; omega)
  unfold tb jb
  intro d
  induction d with
  | zero =>
    intro j hj
    obtain rfl : j = pk most ms ((B s).drop at_) := by omega
    obtain ⟨m, rfl, m1, m2, m3, m4, m5, m6⟩ := step _ p1
    obtain ⟨m7, m8⟩ := m6 p2
    rw [p2] at m5
    rw [p3] at m8
    generalize pk most ms ((B s).drop at_) = j at *
    generalize mk_ ms j = m at *
    have w1 : IntKind.i64.wrap ((at_ : Int) + (m.size : Int)) = ((at_ + m.size : Nat) : Int) := by rw [wr64 (by omega) (by omega)]; omega
    generalize cw most ms ((B s).drop at_) = c at *
    have w2 : IntKind.i64.wrap (c - 1) = c - 1 := wr64 (by omega) (by omega)
    have m9 : ∀ h, (js (cva most ms (B s)))[at_ + m.size]'h = _ := fun h => (List.getElem?_eq_some_iff.1 m8).2
    have q1 : at_ < s.size + 1 := by omega
    have q2 : at_ + m.size < s.size + 1 := by omega
    have q3 : (at_ : Int) < (s.size : Int) + 1 := by omega
    have q4 : ((at_ + m.size : Nat) : Int) < (s.size : Int) + 1 := by omega
    rw [loopW_eq]
    generalize loopW (bd E0 (ev E0) loopW 0 [1, 3, 8, 9, 10, 11] L52b0) = K
    generalize js (cva most ms (B s)) = V at *
    simp -implicitDefEqProofs [bd, L52b0, p1, m3, m4, m5, w1, w2, q1, q2, q3, q4, hl, z1, z2, m8, m9, -Int.natCast_add]
  | succ d ih =>
    intro j hj
    have hjl : j < pk most ms ((B s).drop at_) := by omega
    have hih := ih (j + 1) (by omega)
    rw [cs1] at hih
    have hgn := good_not hjl (by omega)
    have hji : j < ms.length := by omega
    obtain ⟨m, rfl, m1, m2, m3, m4, m5, m6⟩ := step j hji
    have hw : IntKind.i64.wrap ((j : Int) + 1) = (j : Int) + 1 := wr64 (by omega) (by omega)
    rw [loopW_eq]
    generalize loopW (bd E0 (ev E0) loopW 0 [1, 3, 8, 9, 10, 11] L52b0) = K at hih ⊢
    by_cases hp : Rd.pre (B (mk_ ms j)) ((B s).drop at_) = true
    · obtain ⟨m7, m8⟩ := m6 hp
      unfold good at hgn
      rw [hp, Bool.true_and, decide_eq_false_iff_not] at hgn
      rw [hp] at m5
      have hvb := cw_b most ms (((B s).drop at_).drop (mk_ ms j).size)
      generalize mk_ ms j = m at *
      have w1 : IntKind.i64.wrap ((at_ : Int) + (m.size : Int)) = ((at_ + m.size : Nat) : Int) := by rw [wr64 (by omega) (by omega)]; omega
      have m9 : ∀ h, (js (cva most ms (B s)))[at_ + m.size]'h = _ := fun h => (List.getElem?_eq_some_iff.1 m8).2
      generalize cw most ms (((B s).drop at_).drop m.size) = y at *
      generalize cw most ms ((B s).drop at_) = c at *
      have w2 : IntKind.i64.wrap (c - 1) = c - 1 := wr64 (by omega) (by omega)
      have q1 : at_ < s.size + 1 := by omega
      have q2 : at_ + m.size < s.size + 1 := by omega
      have q3 : (at_ : Int) < (s.size : Int) + 1 := by omega
      have q4 : ((at_ + m.size : Nat) : Int) < (s.size : Int) + 1 := by omega
      generalize js (cva most ms (B s)) = V at *
      generalize pk most ms ((B s).drop at_) = q at *
      simpa -implicitDefEqProofs [bd, L52b0, hji, m3, m4, m5, w1, w2, q1, q2, q3, q4, hl, z1, z2, m8, m9, hgn, hw, -Int.natCast_add] using hih
    · have hp' : Rd.pre (B (mk_ ms j)) ((B s).drop at_) = false := by simpa using hp
      rw [hp'] at m5
      generalize mk_ ms j = m at *
      generalize js (cva most ms (B s)) = V at *
      generalize pk most ms ((B s).drop at_) = q at *
      simpa -implicitDefEqProofs [bd, L52b0, hji, m3, m4, m5, hw, -Int.natCast_add] using hih
theorem readS_loop (most : Bool) (s : ByteArray) (hs : s.size ≤ 40) (ms : List ByteArray) (hv : VT ms) : ∀ (n at_ : Nat) (out : ByteArray), s.size - at_ ≤ n → at_ ≤ s.size → out.size ≤ at_ → 0 ≤ cw most ms ((B s).drop at_) →
    packX 0 [9] (loopW (bd E0 (ev E0) loopW 0 [1, 3, 8, 9, 10] L52b1) ⟨[(1, st s), (3, .ptr 0 0 0), (8, .sl 1 0 (s.size + 1)), (9, st out), (10, i64 at_)], [some (tb ms), some (jb (cva most ms (B s)))]⟩) = some (.ext 0, ⟨[(9, st (out ++ ltx (br most ms n ((B s).drop at_))))], []⟩) := by
  have hend : ∀ (n at_ : Nat) (out : ByteArray), at_ = s.size → packX 0 [9] (loopW (bd E0 (ev E0) loopW 0 [1, 3, 8, 9, 10] L52b1) ⟨[(1, st s), (3, .ptr 0 0 0), (8, .sl 1 0 (s.size + 1)), (9, st out), (10, i64 at_)], [some (tb ms), some (jb (cva most ms (B s)))]⟩) = some (.ext 0, ⟨[(9, st (out ++ ltx (br most ms n ((B s).drop at_))))], []⟩) := by
    intro n at_ out e
    subst e
    have hd : (B s).drop s.size = [] := List.drop_of_length_le (by rw [B_len]; exact Nat.le_refl _)
    have hb : br most ms n [] = [] := by cases n <;> simp [br]
    have he : out ++ ltx [] = out := B_eq (by unfold B ltx; simp)
    have hi : ¬ (s.size : Int) < (s.size : Int) := by omega
    rw [hd, hb, he, loopW_eq]
    generalize loopW (bd E0 (ev E0) loopW 0 [1, 3, 8, 9, 10] L52b1) = K
    unfold bd
    simp -implicitDefEqProofs [L52b1, jb, tb, hi]
  intro n
  induction n with
  | zero => intro at_ out h1 h2 h3 h4; exact hend 0 at_ out (by omega)
  | succ n ih =>
    intro at_ out h1 h2 h3 h4
    by_cases he : at_ = s.size
    · exact hend (n + 1) at_ out he
    · have hal : at_ < s.size := by omega
      have hne : (B s).drop at_ ≠ [] := fun e => by have := congrArg List.length e; rw [List.length_drop, B_len] at this; simp at this; omega
      obtain ⟨p1, p2, p3, p4⟩ := pk_ok hv hne h4
      have hlen := hv.len
      have hpl := pickS_loop most s hs ms hv at_ hal h4 out (pk most ms ((B s).drop at_)) 0 (by omega)
      rw [c0] at hpl
      have hz := hv.sz (mk_ ms (pk most ms ((B s).drop at_))) (by rw [← mk_at p1]; exact List.getElem_mem p1)
      have hle := Rd.pre_len p2
      rw [List.length_drop, B_len, B_len] at hle
      have hb : br most ms (n + 1) ((B s).drop at_) = pk most ms ((B s).drop at_) :: br most ms n ((B s).drop (at_ + (mk_ ms (pk most ms ((B s).drop at_))).size)) := by rw [br, if_neg hne, List.drop_drop]
      have hr := ih (at_ + (mk_ ms (pk most ms ((B s).drop at_))).size) (out ++ lt1 (pk most ms ((B s).drop at_))) (by omega) (by omega) (by rw [ByteArray.size_append]; have : ∀ k, (lt1 k).size = 1 := fun _ => rfl; rw [this]; omega) (by rw [← List.drop_drop, p3]; omega)
      have hcat : (out ++ lt1 (pk most ms ((B s).drop at_))) ++ ltx (br most ms n ((B s).drop (at_ + (mk_ ms (pk most ms ((B s).drop at_))).size))) = out ++ ltx (br most ms (n + 1) ((B s).drop at_)) := B_eq (by rw [hb]; unfold B lt1 ltx; simp)
      rw [hcat] at hr
      have hlt := letterText_s (pk most ms ((B s).drop at_)) (by omega)
      have hai : (at_ : Int) < (s.size : Int) := by omega
      have hx2 : (ms.map st)[pk most ms ((B s).drop at_)]? = some (st (mk_ ms (pk most ms ((B s).drop at_)))) := by rw [List.getElem?_map, List.getElem?_eq_getElem p1, mk_at p1]; rfl
      have hx3 : ∀ h, ms[pk most ms ((B s).drop at_)]'h = mk_ ms (pk most ms ((B s).drop at_)) := fun h => mk_at h
      generalize br most ms (n + 1) ((B s).drop at_) = w at *
      generalize pk most ms ((B s).drop at_) = q at *
      have hsz : out.size + (lt1 q).size ≤ 9223372036854775807 := by have : (lt1 q).size = 1 := rfl; omega
      generalize mk_ ms q = m at *
      have w1 : IntKind.i64.wrap ((at_ : Int) + (m.size : Int)) = ((at_ + m.size : Nat) : Int) := by rw [wr64 (by omega) (by omega)]; omega
      rw [loopW_eq]
      generalize loopW (bd E0 (ev E0) loopW 0 [1, 3, 8, 9, 10] L52b1) = K at hr ⊢
      unfold bd
      simp only [jb, tb] at hpl hr ⊢
      simpa -implicitDefEqProofs [L52b1, hpl, hai, hlt, hsz, p1, hx2, hx3, w1, -Int.natCast_add, -ByteArray.size_append] using hr
/-- What both give back: the best reading, if there is one. -/
def bst (most : Bool) (ms : List ByteArray) (s : ByteArray) : AV := if 0 ≤ cw most ms (B s) then .tup [st (ltx (br most ms s.size (B s))), bl true] else .tup [st ⟨#[]⟩, bl false]
theorem js0 (most : Bool) (ms : List ByteArray) (l : List UInt8) : (js (cva most ms l))[0]? = some (i64 (cw most ms l)) := by
  have := js_at most ms l 0 (Nat.zero_le _)
  rwa [List.drop_zero] at this
theorem reading_s (most : Bool) (s : ByteArray) (hs : s.size ≤ 40) (ms : List ByteArray) (hv : VT ms) : ev E0 52 [.agg [.lst 1 (ms.map st)], st s, bl most] [] = some (bst most ms s, []) := by
  have h1 := counts_s most s hs ms hv
  have z3 := js0 most ms (B s)
  have z4 : ∀ h, (js (cva most ms (B s)))[0]'h = _ := fun h => (List.getElem?_eq_some_iff.1 z3).2
  have hl := js_len (cva most ms (B s))
  rw [cva_len, B_len] at hl
  unfold bst
  by_cases hc : 0 ≤ cw most ms (B s)
  · have h2 := readS_loop most s hs ms hv s.size 0 ⟨#[]⟩ (by omega) (Nat.zero_le _) (by decide) (by rw [List.drop_zero]; exact hc)
    rw [c0, List.drop_zero, show (⟨#[]⟩ : ByteArray) ++ ltx (br most ms s.size (B s)) = ltx (br most ms s.size (B s)) from B_eq (by unfold B ltx; simp)] at h2
    have hn : ¬ cw most ms (B s) < 0 := by omega
    rw [if_pos hc, e52]
    unfold runF
    simp only [jb, tb] at h1 h2 ⊢
    generalize js (cva most ms (B s)) = V at *
    simp -implicitDefEqProofs [L52, h1, h2, z3, z4, hl, hn]
  · have hn : cw most ms (B s) < 0 := by omega
    rw [if_neg hc, e52]
    unfold runF
    simp only [jb, tb] at h1 ⊢
    generalize js (cva most ms (B s)) = V at *
    simp -implicitDefEqProofs [L52, h1, z3, z4, hl, hn]
def bstO (most : Bool) (ms : List ByteArray) (s : ByteArray) : AV := if okRead ms s = true then bst most ms s else .tup [st ⟨#[]⟩, bl false]
theorem bst_tup (most : Bool) (ms : List ByteArray) (s : ByteArray) : ∃ (t : ByteArray) (b : Bool), bst most ms s = .tup [st t, bl b] := by
  unfold bst
  split
  · exact ⟨_, _, rfl⟩
  · exact ⟨_, _, rfl⟩
theorem short_s (ms : List ByteArray) (hm : ms.length ≤ 1000) (hz : ∀ m ∈ ms, m.size ≤ 1000) (s : ByteArray) (hs : s.size ≤ 1000000) : ev E0 20 [.agg [.lst 1 (ms.map st)], st s] [] = some (bstO false ms s, []) := by
  have h1 := good_s ms hm hz s hs
  unfold bstO
  cases h : okRead ms s with
  | false => rw [h] at h1; rw [e20]; unfold runF; simp -implicitDefEqProofs [L20, h1]
  | true =>
    obtain ⟨hv, hs2⟩ := read_size h
    have h2 := reading_s false s hs2 ms hv
    rw [h] at h1
    obtain ⟨t, b, hb⟩ := bst_tup false ms s
    rw [hb] at h2 ⊢
    rw [if_pos rfl, e20]
    unfold runF
    simp -implicitDefEqProofs [L20, h1, h2]
theorem long_s (ms : List ByteArray) (hm : ms.length ≤ 1000) (hz : ∀ m ∈ ms, m.size ≤ 1000) (s : ByteArray) (hs : s.size ≤ 1000000) : ev E0 22 [.agg [.lst 1 (ms.map st)], st s] [] = some (bstO true ms s, []) := by
  have h1 := good_s ms hm hz s hs
  unfold bstO
  cases h : okRead ms s with
  | false => rw [h] at h1; rw [e22]; unfold runF; simp -implicitDefEqProofs [L22, h1]
  | true =>
    obtain ⟨hv, hs2⟩ := read_size h
    have h2 := reading_s true s hs2 ms hv
    rw [h] at h1
    obtain ⟨t, b, hb⟩ := bst_tup true ms s
    rw [hb] at h2 ⊢
    rw [if_pos rfl, e22]
    unfold runF
    simp -implicitDefEqProofs [L22, h1, h2]
end Go.Proofs.YtkdfgjijmnaljaaDoor.Ev
