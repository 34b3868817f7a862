/- The best readings of the program. -/
import Derived.Test.YtkdfgjijmnaljaaDoorEvRdB
set_option linter.unusedVariables false
set_option linter.unusedSimpArgs false
namespace Go.Proofs.YtkdfgjijmnaljaaDoor.Ev
def sb (s : ByteArray) : Blk := ⟨9, 1, 0, false, [st s]⟩
def lb (n : Nat) : Blk := ⟨29, 1, 0, false, [.agg [.sl 3 0 n]]⟩
def ab (k : Nat) : Blk := ⟨3, 1, 0, false, [.agg [i64 k]]⟩
/-- What the closure captures. -/
def caps (s : ByteArray) (k : Nat) (V : List AV) : List AV := [.el (.agg [st s]) 0, .el (.agg [i64 k]) 0, .el (.agg [.lst 1 V]) 0]
theorem clo (most : Bool) (s : ByteArray) (hs : s.size ≤ 40) (ms : List ByteArray) (hv : VT ms) (k : Nat) (hk : k < s.size) (hc : 0 ≤ cw most ms ((B s).drop k)) (m : ByteArray) (hm : m ∈ ms) : ev E0 70 (st m :: caps s k (js (cva most ms (B s)))) [] = some (bl (good most ms ((B s).drop k) m), []) := by
  have hne : (B s).drop k ≠ [] := fun e => by have := congrArg List.length e; rw [List.length_drop, B_len] at this; simp at this; omega
  obtain ⟨_, _, _, p4⟩ := pk_ok hv hne hc
  have hz := hv.sz m hm
  have hp := has_i (s.extract k s.size) m (by rw [ByteArray.size_extract]; omega) (by omega)
  have hBs : B (s.extract k s.size) = (B s).drop k := by rw [B_ext, ← B_len, List.take_length]
  rw [hBs] at hp
  have hl := js_len (cva most ms (B s))
  rw [cva_len, B_len] at hl
  have z1 := js_at most ms (B s) k (by rw [B_len]; omega)
  have z2 : ∀ h, (js (cva most ms (B s)))[k]'h = _ := fun h => (List.getElem?_eq_some_iff.1 z1).2
  have hcb := cw_b most ms ((B s).drop k)
  rw [List.length_drop, B_len] at hcb
  have q0 : (k : Int) ≤ (s.size : Int) := by omega
  have q1 : k < s.size + 1 := by omega
  have q3 : (k : Int) < (s.size : Int) + 1 := by omega
  rw [e70]
  unfold runF good caps
  by_cases h : Rd.pre (B m) ((B s).drop k) = true
  · have hle := Rd.pre_len h
    rw [List.length_drop, B_len, B_len] at hle
    have m8 := js_at most ms (B s) (k + m.size) (by rw [B_len]; omega)
    rw [← List.drop_drop] at m8
    have m9 : ∀ h, (js (cva most ms (B s)))[k + m.size]'h = _ := fun h => (List.getElem?_eq_some_iff.1 m8).2
    have hvb := cw_b most ms (((B s).drop k).drop m.size)
    rw [h] at hp ⊢
    have w1 : IntKind.i64.wrap ((k : Int) + (m.size : Int)) = ((k + m.size : Nat) : Int) := by rw [wr64 (by omega) (by omega)]; omega
    have q2 : k + m.size < s.size + 1 := by omega
    have q4 : ((k + m.size : Nat) : Int) < (s.size : Int) + 1 := by omega
    generalize cw most ms (((B s).drop k).drop m.size) = y at *
    generalize cw most ms ((B s).drop k) = c at *
    have w2 : IntKind.i64.wrap (c - 1) = c - 1 := wr64 (by omega) (by omega)
    generalize js (cva most ms (B s)) = V at *
    by_cases hy : y = c - 1
    · have hy0 : 0 ≤ y := by omega
      have hy1 : 0 ≤ c - 1 := by omega
      subst hy
      simp -implicitDefEqProofs [L70, hp, q0, q1, q2, q3, q4, w1, w2, hl, z1, z2, m8, m9, hy0, hy1, -Int.natCast_add]
      try omega
    · simp -implicitDefEqProofs [L70, hp, q0, q1, q2, q3, q4, w1, w2, hl, z1, z2, m8, m9, hy, -Int.natCast_add]
  · have h' : Rd.pre (B m) ((B s).drop k) = false := by simpa using h
    rw [h'] at hp ⊢
    generalize js (cva most ms (B s)) = V at *
    simp -implicitDefEqProofs [L70, hp, q0, q1, q3]
theorem idx_loop (most : Bool) (s : ByteArray) (hs : s.size ≤ 40) (ms : List ByteArray) (hv : VT ms) (k : Nat) (hk : k < s.size) (hc : 0 ≤ cw most ms ((B s).drop k)) : ∀ (d j : Nat), j + d = pk most ms ((B s).drop k) →
    packX 0 [4] (loopW (bd E0 (ev E0) loopW 0 [0, 1, 7, 8] L69b0) ⟨[(0, .lst 1 (ms.map st)), (1, .fn (.func 70) [] (caps s k (js (cva most ms (B s))))), (7, i64 ms.length), (8, i64 j)], []⟩) = some (.ret, ⟨[(4, i64 (pk most ms ((B s).drop k)))], []⟩) := by
  have hne : (B s).drop k ≠ [] := fun e => by have := congrArg List.length e; rw [List.length_drop, B_len] at this; simp at this; omega
  obtain ⟨p1, p2, p3, p4⟩ := pk_ok hv hne hc
  have hlen := hv.len
  have cl := clo most s hs ms hv k hk hc
  unfold caps at cl ⊢
  intro d
  induction d with
  | zero =>
    intro j hj
    obtain rfl : j = pk most ms ((B s).drop k) := by omega
    have hg : good most ms ((B s).drop k) (mk_ ms (pk most ms ((B s).drop k))) = true := by unfold good; rw [p2, decide_eq_true p3]; rfl
    have c1 := cl (mk_ ms (pk most ms ((B s).drop k))) (by rw [← mk_at p1]; exact List.getElem_mem p1)
    rw [hg] at c1
    have hx2 : (ms.map st)[pk most ms ((B s).drop k)]? = some (st (mk_ ms (pk most ms ((B s).drop k)))) := by rw [List.getElem?_map, List.getElem?_eq_getElem p1, mk_at p1]; rfl
    have hx3 : ∀ h, ms[pk most ms ((B s).drop k)]'h = mk_ ms (pk most ms ((B s).drop k)) := fun h => mk_at h
    generalize pk most ms ((B s).drop k) = j at *
    generalize js (cva most ms (B s)) = V at *
    rw [loopW_eq]
    generalize loopW (bd E0 (ev E0) loopW 0 [0, 1, 7, 8] L69b0) = K
    simp -implicitDefEqProofs [bd, L69b0, p1, hx2, hx3, c1]
  | succ d ih =>
    intro j hj
    have hjl : j < pk most ms ((B s).drop k) := by omega
    have hih := ih (j + 1) (by omega)
    rw [cs1] at hih
    have hji : j < ms.length := by omega
    have hg := good_not hjl hji
    have c1 := cl (mk_ ms j) (by rw [← mk_at hji]; exact List.getElem_mem hji)
    rw [hg] at c1
    have hx2 : (ms.map st)[j]? = some (st (mk_ ms j)) := by rw [List.getElem?_map, List.getElem?_eq_getElem hji, mk_at hji]; rfl
    have hx3 : ∀ h, ms[j]'h = mk_ ms j := fun h => mk_at h
    have hw : IntKind.i64.wrap ((j : Int) + 1) = (j : Int) + 1 := wr64 (by omega) (by omega)
    generalize pk most ms ((B s).drop k) = q at *
    generalize js (cva most ms (B s)) = V at *
    rw [loopW_eq]
    generalize loopW (bd E0 (ev E0) loopW 0 [0, 1, 7, 8] L69b0) = K at hih ⊢
    simpa -implicitDefEqProofs [bd, L69b0, hji, hx2, hx3, c1, hw] using hih
theorem indexF (most : Bool) (s : ByteArray) (hs : s.size ≤ 40) (ms : List ByteArray) (hv : VT ms) (k : Nat) (hk : k < s.size) (hc : 0 ≤ cw most ms ((B s).drop k)) : ev E0 69 [.lst 1 (ms.map st), .fn (.func 70) [] (caps s k (js (cva most ms (B s))))] [] = some (i64 (pk most ms ((B s).drop k)), []) := by
  have h := idx_loop most s hs ms hv k hk hc (pk most ms ((B s).drop k)) 0 (by omega)
  rw [c0] at h
  rw [e69]
  unfold runF
  unfold caps at h ⊢
  simp -implicitDefEqProofs [L69, h]
theorem bests_loop (most : Bool) (s : ByteArray) (hs : s.size ≤ 40) (ms : List ByteArray) (hv : VT ms) : ∀ (n at_ : Nat) (out : ByteArray), s.size - at_ ≤ n → at_ ≤ s.size → out.size ≤ at_ → 0 ≤ cw most ms ((B s).drop at_) →
    packX 0 [13] (loopW (bd E0 (ev E0) loopW 0 [3, 4, 8, 13, 14] L50b2) ⟨[(3, .ptr 0 0 0), (4, .ptr 1 0 0), (8, .ptr 2 0 0), (13, st out), (14, .ptr 4 0 0)], [some (tb ms), some (sb s), some (lb (s.size + 1)), some (jb (cva most ms (B s))), some (ab at_)]⟩) = some (.ext 4, ⟨[(13, st (out ++ ltx (br most ms n ((B s).drop at_))))], []⟩) := by
  have hend : ∀ (n at_ : Nat) (out : ByteArray), at_ = s.size → packX 0 [13] (loopW (bd E0 (ev E0) loopW 0 [3, 4, 8, 13, 14] L50b2) ⟨[(3, .ptr 0 0 0), (4, .ptr 1 0 0), (8, .ptr 2 0 0), (13, st out), (14, .ptr 4 0 0)], [some (tb ms), some (sb s), some (lb (s.size + 1)), some (jb (cva most ms (B s))), some (ab at_)]⟩) = some (.ext 4, ⟨[(13, st (out ++ ltx (br most ms n ((B s).drop at_))))], []⟩) := by
    intro n at_ out e
    subst e
    have hd : (B s).drop s.size = [] := List.drop_of_length_le (by rw [B_len]; exact Nat.le_refl _)
    have hb : br most ms n [] = [] := by cases n <;> simp [br]
    have he : out ++ ltx [] = out := B_eq (by unfold B ltx; simp)
    have hi : ¬ (s.size : Int) < (s.size : Int) := by omega
    rw [hd, hb, he, loopW_eq]
    generalize loopW (bd E0 (ev E0) loopW 0 [3, 4, 8, 13, 14] L50b2) = K
    unfold bd
    simp -implicitDefEqProofs [L50b2, jb, tb, sb, lb, ab, hi]
  intro n
  induction n with
  | zero => intro at_ out h1 h2 h3 h4; exact hend 0 at_ out (by omega)
  | succ n ih =>
    intro at_ out h1 h2 h3 h4
    by_cases he : at_ = s.size
    · exact hend (n + 1) at_ out he
    · have hal : at_ < s.size := by omega
      have hne : (B s).drop at_ ≠ [] := fun e => by have := congrArg List.length e; rw [List.length_drop, B_len] at this; simp at this; omega
      obtain ⟨p1, p2, p3, p4⟩ := pk_ok hv hne h4
      have hlen := hv.len
      have hpl := indexF most s hs ms hv at_ hal h4
      have hz := hv.sz (mk_ ms (pk most ms ((B s).drop at_))) (by rw [← mk_at p1]; exact List.getElem_mem p1)
      have hle := Rd.pre_len p2
      rw [List.length_drop, B_len, B_len] at hle
      have hb : br most ms (n + 1) ((B s).drop at_) = pk most ms ((B s).drop at_) :: br most ms n ((B s).drop (at_ + (mk_ ms (pk most ms ((B s).drop at_))).size)) := by rw [br, if_neg hne, List.drop_drop]
      have hr := ih (at_ + (mk_ ms (pk most ms ((B s).drop at_))).size) (out ++ lt1 (pk most ms ((B s).drop at_))) (by omega) (by omega) (by rw [ByteArray.size_append]; have : ∀ k, (lt1 k).size = 1 := fun _ => rfl; rw [this]; omega) (by rw [← List.drop_drop, p3]; omega)
      have hcat : (out ++ lt1 (pk most ms ((B s).drop at_))) ++ ltx (br most ms n ((B s).drop (at_ + (mk_ ms (pk most ms ((B s).drop at_))).size))) = out ++ ltx (br most ms (n + 1) ((B s).drop at_)) := B_eq (by rw [hb]; unfold B lt1 ltx; simp)
      rw [hcat] at hr
      have hlt := letterText_i (pk most ms ((B s).drop at_)) (by omega)
      have hai : (at_ : Int) < (s.size : Int) := by omega
      have hx2 : (ms.map st)[pk most ms ((B s).drop at_)]? = some (st (mk_ ms (pk most ms ((B s).drop at_)))) := by rw [List.getElem?_map, List.getElem?_eq_getElem p1, mk_at p1]; rfl
      have hx3 : ∀ h, ms[pk most ms ((B s).drop at_)]'h = mk_ ms (pk most ms ((B s).drop at_)) := fun h => mk_at h
      have hl := js_len (cva most ms (B s))
      rw [cva_len, B_len] at hl
      have htk : List.take (s.size + 1) (js (cva most ms (B s))) = js (cva most ms (B s)) := List.take_of_length_le (by omega)
      generalize br most ms (n + 1) ((B s).drop at_) = w at *
      generalize pk most ms ((B s).drop at_) = q at *
      have hsz : out.size + (lt1 q).size ≤ 9223372036854775807 := by have : (lt1 q).size = 1 := rfl; omega
      generalize mk_ ms q = m at *
      have w1 : IntKind.i64.wrap ((at_ : Int) + (m.size : Int)) = ((at_ + m.size : Nat) : Int) := by rw [wr64 (by omega) (by omega)]; omega
      rw [loopW_eq]
      generalize loopW (bd E0 (ev E0) loopW 0 [3, 4, 8, 13, 14] L50b2) = K at hr ⊢
      unfold bd
      simp only [jb, tb, sb, lb, ab, caps] at hpl hr ⊢
      generalize js (cva most ms (B s)) = V at *
      simpa (maxSteps := 1000000) -implicitDefEqProofs [L50b2, hpl, hai, hlt, hsz, p1, hx2, hx3, w1, hl, htk, -Int.natCast_add, -ByteArray.size_append] using hr
theorem betA (a b : Int) : ev E0 51 [i64 a, i64 b] [] = some (bl (decide (a < b)), []) := by
  rw [e51]
  unfold runF
  simp -implicitDefEqProofs [L51]
theorem betB (a b : Int) : ev E0 53 [i64 a, i64 b] [] = some (bl (decide (b < a)), []) := by
  rw [e53]
  unfold runF
  simp -implicitDefEqProofs [L53]
set_option maxHeartbeats 3200000 in
theorem cntA_loop (s : ByteArray) (hs : s.size ≤ 1000) (ms : List ByteArray) (hm : ms.length ≤ 1000) (hz : ∀ m ∈ ms, 1 ≤ m.size ∧ m.size ≤ 1000) (k : Nat) (hk : k < s.size) (vs : List Int) (hv : k + vs.length = s.size) (hb : ∀ i, -1 ≤ vs.getD i (-1) ∧ vs.getD i (-1) < 1000) : ∀ (t : List ByteArray) (j : Nat) (acc : Int), ms.drop j = t → -1 ≤ acc → acc ≤ 1000 →
    packX 0 [2, 3, 4, 8, 9] (loopW (bd E0 (ev E0) loopW 0 [2, 3, 4, 8, 9, 37, 38, 39] L50b0) ⟨[(2, .fn (.func 51) [] []), (3, .ptr 0 0 0), (4, .ptr 1 0 0), (8, .ptr 2 0 0), (9, i64 k), (37, .lst 1 (ms.map st)), (38, i64 ms.length), (39, i64 j)], [some (tb ms), some (sb s), some (lb (s.size + 1)), some (jb (arj (-1) k acc vs))]⟩) =
      some (.ext 2, ⟨[(2, .fn (.func 51) [] []), (3, .ptr 0 0 0), (4, .ptr 1 0 0), (8, .ptr 2 0 0), (9, i64 k)], [some (tb ms), some (sb s), some (lb (s.size + 1)), some (jb (arj (-1) k (t.foldl (fs false ((B s).drop k) vs) acc) vs))]⟩) := by
  unfold tb jb sb lb
  intro t
  induction t with
  | nil =>
    intro j acc hj _ _
    have hi := not_drop hj
    rw [loopW_eq]
    generalize loopW (bd E0 (ev E0) loopW 0 [2, 3, 4, 8, 9, 37, 38, 39] L50b0) = K
    simp -implicitDefEqProofs [bd, L50b0, hi]
  | cons m t ih =>
    intro j acc hj h1 h2
    obtain ⟨hi, hx, hd, hmem⟩ := at_drop hj
    obtain ⟨hm1, hm2⟩ := hz m hmem
    have hbm := hb (m.size - 1)
    have hfb : -1 ≤ fs false ((B s).drop k) vs acc m ∧ fs false ((B s).drop k) vs acc m ≤ 1000 := by
      unfold fs
      split
      · exact stp_b hbm.1 hbm.2 h1 h2
      · exact ⟨h1, h2⟩
    have hih := ih (j + 1) (fs false ((B s).drop k) vs acc m) hd hfb.1 hfb.2
    have hw : IntKind.i64.wrap ((j : Int) + 1) = (j : Int) + 1 := wr64 (by omega) (by omega)
    rw [cs1] at hih
    have hks : (k : Int) ≤ (s.size : Int) := by omega
    have hp := has_i (s.extract k s.size) m (by rw [ByteArray.size_extract]; omega) (by omega)
    have hBs : B (s.extract k s.size) = (B s).drop k := by rw [B_ext, ← B_len, List.take_length]
    rw [hBs] at hp
    rw [List.foldl_cons, loopW_eq]
    generalize loopW (bd E0 (ev E0) loopW 0 [2, 3, 4, 8, 9, 37, 38, 39] L50b0) = K at hih ⊢
    have hx2 : (ms.map st)[j]? = some (st m) := by rw [List.getElem?_map, List.getElem?_eq_getElem hi, hx]; rfl
    by_cases h : Rd.pre (B m) ((B s).drop k) = true
    · rw [h] at hp
      have hle := Rd.pre_len h
      rw [List.length_drop, B_len, B_len] at hle
      have ht : fs false ((B s).drop k) vs acc m = stp false (vs.getD (m.size - 1) (-1)) acc := by unfold fs; rw [if_pos h]
      rw [ht] at hih ⊢
      have g1 := arj_at (-1) k acc vs
      have g2 := arj_past (-1) k acc vs m.size hm1 (by omega)
      have hl := arj_len (-1) k acc vs
      have hl2 := js_len (arj (-1) k acc vs)
      have w1 : IntKind.i64.wrap ((k : Int) + (m.size : Int)) = ((k + m.size : Nat) : Int) := by rw [wr64 (by omega) (by omega)]; omega
      have q1 : k < s.size + 1 := by omega
      have q2 : k + m.size < s.size + 1 := by omega
      have q3 : (k : Int) < (s.size : Int) + 1 := by omega
      have q4 : ((k + m.size : Nat) : Int) < (s.size : Int) + 1 := by omega
      have g4 : ∀ h, (js (arj (-1) k acc vs))[k]'h = i64 acc := fun h => (List.getElem?_eq_some_iff.1 g1).2
      have g5 : ∀ h, (js (arj (-1) k acc vs))[k + m.size]'h = i64 (vs.getD (m.size - 1) (-1)) := fun h => (List.getElem?_eq_some_iff.1 g2).2
      generalize vs.getD (m.size - 1) (-1) = y at *
      by_cases hy : y < 0
      · have e1 : stp false y acc = acc := by unfold stp; rw [if_pos hy]
        rw [e1] at hih ⊢
        simpa -implicitDefEqProofs [bd, L50b0, hi, hx, hx2, hks, hp, hw, w1, q1, q2, q3, q4, g1, g2, g4, g5, hl, hl2, hy, -Int.natCast_add] using hih
      · have w2 : IntKind.i64.wrap (y + 1) = y + 1 := wr64 (by omega) (by omega)
        have g3 := arj_set (-1) k acc (y + 1) vs
        by_cases ha : acc < 0
        · have e1 : stp false y acc = y + 1 := by unfold stp; rw [if_neg hy, if_pos (.inl ha)]
          rw [e1] at hih ⊢
          simpa -implicitDefEqProofs [bd, L50b0, hi, hx, hx2, hks, hp, hw, w1, w2, q1, q2, q3, q4, g1, g2, g3, g4, g5, hl, hl2, hy, ha, -Int.natCast_add] using hih
        · have hbt := betA (y + 1) acc
          by_cases hc : y + 1 < acc
          · have e1 : stp false y acc = y + 1 := by unfold stp bt; rw [if_neg hy, if_pos (.inr (by simpa using hc))]
            rw [e1] at hih ⊢
            rw [decide_eq_true hc] at hbt
            simpa -implicitDefEqProofs [bd, L50b0, hi, hx, hx2, hks, hp, hw, w1, w2, q1, q2, q3, q4, g1, g2, g3, g4, g5, hl, hl2, hy, ha, hbt, -Int.natCast_add] using hih
          · have e1 : stp false y acc = acc := by unfold stp bt; rw [if_neg hy, if_neg (by rintro (e | e); exact ha e; exact hc (by simpa using e))]
            rw [e1] at hih ⊢
            rw [decide_eq_false hc] at hbt
            simpa -implicitDefEqProofs [bd, L50b0, hi, hx, hx2, hks, hp, hw, w1, w2, q1, q2, q3, q4, g1, g2, g3, g4, g5, hl, hl2, hy, ha, hbt, -Int.natCast_add] using hih
    · have h' : Rd.pre (B m) ((B s).drop k) = false := by simpa using h
      rw [h'] at hp
      have ht : fs false ((B s).drop k) vs acc m = acc := by unfold fs; rw [if_neg h]
      rw [ht] at hih ⊢
      simpa -implicitDefEqProofs [bd, L50b0, hi, hx, hx2, hks, hp, hw] using hih
theorem cntA_outer (s : ByteArray) (hs : s.size ≤ 40) (ms : List ByteArray) (hv : VT ms) : ∀ k : Nat, k ≤ s.size →
    packX 0 [3, 4, 8] (loopW (bd E0 (ev E0) loopW 0 [2, 3, 4, 8, 9] L50b1) ⟨[(2, .fn (.func 51) [] []), (3, .ptr 0 0 0), (4, .ptr 1 0 0), (8, .ptr 2 0 0), (9, i64 ((k : Int) - 1))], [some (tb ms), some (sb s), some (lb (s.size + 1)), some (jb (List.replicate k (-1) ++ cva false ms ((B s).drop k)))]⟩) =
      some (.ext 0, ⟨[(3, .ptr 0 0 0), (4, .ptr 1 0 0), (8, .ptr 2 0 0)], [some (tb ms), some (sb s), some (lb (s.size + 1)), some (jb (cva false ms (B s)))]⟩) := by
  intro k
  induction k with
  | zero =>
    intro _
    rw [loopW_eq]
    generalize loopW (bd E0 (ev E0) loopW 0 [2, 3, 4, 8, 9] L50b1) = K
    unfold bd
    simp -implicitDefEqProofs [L50b1, jb, tb, sb, lb]
  | succ k ih =>
    intro hk
    have hih := ih (by omega)
    have hvl : k + (cva false ms ((B s).drop (k + 1))).length = s.size := by rw [cva_len, List.length_drop, B_len]; omega
    have hin := cntA_loop s (by omega) ms (by have := hv.len; omega) (fun m hm => by have := hv.sz m hm; omega) k (by omega) _ hvl (fun i => by have := cva_b false ms ((B s).drop (k + 1)) i; rw [List.length_drop, B_len] at this; omega) ms 0 (-1) rfl (by omega) (by omega)
    rw [c0] at hin
    have he : arj (-1) k (ms.foldl (fs false ((B s).drop k) (cva false ms ((B s).drop (k + 1)))) (-1)) (cva false ms ((B s).drop (k + 1))) = List.replicate k (-1) ++ cva false ms ((B s).drop k) := by
      rw [cva_at false ms s k (by omega)]
      rfl
    rw [he] at hin
    have e0 : List.replicate (k + 1) (-1 : Int) ++ cva false ms ((B s).drop (k + 1)) = arj (-1) k (-1) (cva false ms ((B s).drop (k + 1))) := by
      unfold arj
      rw [List.replicate_succ', List.append_assoc]
      rfl
    rw [e0, show (((k + 1 : Nat) : Int) - 1) = (k : Int) by omega, loopW_eq]
    have hw : IntKind.i64.wrap ((k : Int) - 1) = (k : Int) - 1 := wr64 (by omega) (by omega)
    have hk0 : (0 : Int) ≤ (k : Int) := by omega
    simp only [jb, tb, sb, lb] at hin hih ⊢
    generalize js (arj (-1) k (-1) (cva false ms ((B s).drop (k + 1)))) = A1 at *
    generalize js (List.replicate k (-1) ++ cva false ms ((B s).drop k)) = A2 at *
    generalize loopW (bd E0 (ev E0) loopW 0 [2, 3, 4, 8, 9] L50b1) = K at hih ⊢
    unfold bd
    simpa -implicitDefEqProofs [L50b1, hin, hw, hk0] using hih
theorem bestA (ms : List ByteArray) (hm : ms.length ≤ 1000) (hz : ∀ m ∈ ms, m.size ≤ 1000) (s : ByteArray) (hs : s.size ≤ 1000000) : ev E0 50 [.agg [.lst 1 (ms.map st)], st s, .fn (.func 51) [] []] [] = some (bstO false ms s, []) := by
  have h1 := isRead_i ms hm hz s hs
  unfold bstO
  cases h : okRead ms s with
  | false => rw [h] at h1; rw [e50]; unfold runF; simp -implicitDefEqProofs [L50, h1]
  | true =>
    obtain ⟨hv, hs2⟩ := read_size h
    rw [h] at h1
    rw [if_pos rfl]
    have h2 := repeat_c (s.size + 1) (by omega) (by omega)
    have w1 : IntKind.i64.wrap ((s.size : Int) + 1) = ((s.size + 1 : Nat) : Int) := by rw [wr64 (by omega) (by omega)]; omega
    have w2 : IntKind.i64.wrap ((s.size : Int) - 1) = (s.size : Int) - 1 := wr64 (by omega) (by omega)
    have ho := cntA_outer s hs2 ms hv s.size (Nat.le_refl _)
    have hd : (B s).drop s.size = [] := List.drop_of_length_le (by rw [B_len]; exact Nat.le_refl _)
    rw [hd, show cva false ms [] = [0] from rfl] at ho
    have hfr : okL (free 5) (List.replicate (s.size + 1) (i64 (-1))) = true := by
      have := okL_map (f := free 5) (g := fun _ : Unit => i64 (-1)) (fun _ => rfl) (List.replicate (s.size + 1) ())
      rwa [List.map_replicate] at this
    have hset : (List.replicate (s.size + 1) (i64 (-1))).set s.size (i64 0) = js (List.replicate s.size (-1) ++ [0]) := by
      unfold js
      rw [List.replicate_succ', List.set_append_right _ _ (by simp), List.map_append, List.map_replicate]
      simp
    have z3 := js0 false ms (B s)
    have z4 : ∀ h, (js (cva false ms (B s)))[0]'h = _ := fun h => (List.getElem?_eq_some_iff.1 z3).2
    have hl := js_len (cva false ms (B s))
    rw [cva_len, B_len] at hl
    unfold bst
    by_cases hc : 0 ≤ cw false ms (B s)
    · have hr := bests_loop false s hs2 ms hv s.size 0 ⟨#[]⟩ (by omega) (Nat.zero_le _) (by decide) (by rw [List.drop_zero]; exact hc)
      rw [List.drop_zero, show (⟨#[]⟩ : ByteArray) ++ ltx (br false ms s.size (B s)) = ltx (br false ms s.size (B s)) from B_eq (by unfold B ltx; simp)] at hr
      have hn : ¬ cw false ms (B s) < 0 := by omega
      rw [if_pos hc, e50]
      unfold runF
      simp only [jb, tb, sb, lb, ab, c0] at ho hr ⊢
      generalize js (cva false ms (B s)) = V at *
      generalize js (List.replicate s.size (-1) ++ [0]) = U at *
      simp (maxSteps := 1000000) -implicitDefEqProofs [L50, h1, h2, hfr, hset, w1, w2, ho, hr, z3, z4, hl, hn, -Int.natCast_add]
    · have hn : cw false ms (B s) < 0 := by omega
      rw [if_neg hc, e50]
      unfold runF
      simp only [jb, tb, sb, lb] at ho ⊢
      generalize js (cva false ms (B s)) = V at *
      generalize js (List.replicate s.size (-1) ++ [0]) = U at *
      simp (maxSteps := 1000000) -implicitDefEqProofs [L50, h1, h2, hfr, hset, w1, w2, ho, z3, z4, hl, hn, -Int.natCast_add]
theorem short_i (ms : List ByteArray) (hm : ms.length ≤ 1000) (hz : ∀ m ∈ ms, m.size ≤ 1000) (s : ByteArray) (hs : s.size ≤ 1000000) : ev E0 19 [.agg [.lst 1 (ms.map st)], st s] [] = some (bstO false ms s, []) := by
  have h1 := bestA ms hm hz s hs
  obtain ⟨t, b, hb⟩ : ∃ (t : ByteArray) (b : Bool), bstO false ms s = .tup [st t, bl b] := by
    unfold bstO
    split
    · exact bst_tup false ms s
    · exact ⟨_, _, rfl⟩
  rw [hb] at h1 ⊢
  rw [e19]
  unfold runF
  simp -implicitDefEqProofs [L19, h1]
set_option maxHeartbeats 3200000 in
theorem cntB_loop (s : ByteArray) (hs : s.size ≤ 1000) (ms : List ByteArray) (hm : ms.length ≤ 1000) (hz : ∀ m ∈ ms, 1 ≤ m.size ∧ m.size ≤ 1000) (k : Nat) (hk : k < s.size) (vs : List Int) (hv : k + vs.length = s.size) (hb : ∀ i, -1 ≤ vs.getD i (-1) ∧ vs.getD i (-1) < 1000) : ∀ (t : List ByteArray) (j : Nat) (acc : Int), ms.drop j = t → -1 ≤ acc → acc ≤ 1000 →
    packX 0 [2, 3, 4, 8, 9] (loopW (bd E0 (ev E0) loopW 0 [2, 3, 4, 8, 9, 37, 38, 39] L50b0) ⟨[(2, .fn (.func 53) [] []), (3, .ptr 0 0 0), (4, .ptr 1 0 0), (8, .ptr 2 0 0), (9, i64 k), (37, .lst 1 (ms.map st)), (38, i64 ms.length), (39, i64 j)], [some (tb ms), some (sb s), some (lb (s.size + 1)), some (jb (arj (-1) k acc vs))]⟩) =
      some (.ext 2, ⟨[(2, .fn (.func 53) [] []), (3, .ptr 0 0 0), (4, .ptr 1 0 0), (8, .ptr 2 0 0), (9, i64 k)], [some (tb ms), some (sb s), some (lb (s.size + 1)), some (jb (arj (-1) k (t.foldl (fs true ((B s).drop k) vs) acc) vs))]⟩) := by
  unfold tb jb sb lb
  intro t
  induction t with
  | nil =>
    intro j acc hj _ _
    have hi := not_drop hj
    rw [loopW_eq]
    generalize loopW (bd E0 (ev E0) loopW 0 [2, 3, 4, 8, 9, 37, 38, 39] L50b0) = K
    simp -implicitDefEqProofs [bd, L50b0, hi]
  | cons m t ih =>
    intro j acc hj h1 h2
    obtain ⟨hi, hx, hd, hmem⟩ := at_drop hj
    obtain ⟨hm1, hm2⟩ := hz m hmem
    have hbm := hb (m.size - 1)
    have hfb : -1 ≤ fs true ((B s).drop k) vs acc m ∧ fs true ((B s).drop k) vs acc m ≤ 1000 := by
      unfold fs
      split
      · exact stp_b hbm.1 hbm.2 h1 h2
      · exact ⟨h1, h2⟩
    have hih := ih (j + 1) (fs true ((B s).drop k) vs acc m) hd hfb.1 hfb.2
    have hw : IntKind.i64.wrap ((j : Int) + 1) = (j : Int) + 1 := wr64 (by omega) (by omega)
    rw [cs1] at hih
    have hks : (k : Int) ≤ (s.size : Int) := by omega
    have hp := has_i (s.extract k s.size) m (by rw [ByteArray.size_extract]; omega) (by omega)
    have hBs : B (s.extract k s.size) = (B s).drop k := by rw [B_ext, ← B_len, List.take_length]
    rw [hBs] at hp
    rw [List.foldl_cons, loopW_eq]
    generalize loopW (bd E0 (ev E0) loopW 0 [2, 3, 4, 8, 9, 37, 38, 39] L50b0) = K at hih ⊢
    have hx2 : (ms.map st)[j]? = some (st m) := by rw [List.getElem?_map, List.getElem?_eq_getElem hi, hx]; rfl
    by_cases h : Rd.pre (B m) ((B s).drop k) = true
    · rw [h] at hp
      have hle := Rd.pre_len h
      rw [List.length_drop, B_len, B_len] at hle
      have ht : fs true ((B s).drop k) vs acc m = stp true (vs.getD (m.size - 1) (-1)) acc := by unfold fs; rw [if_pos h]
      rw [ht] at hih ⊢
      have g1 := arj_at (-1) k acc vs
      have g2 := arj_past (-1) k acc vs m.size hm1 (by omega)
      have hl := arj_len (-1) k acc vs
      have hl2 := js_len (arj (-1) k acc vs)
      have w1 : IntKind.i64.wrap ((k : Int) + (m.size : Int)) = ((k + m.size : Nat) : Int) := by rw [wr64 (by omega) (by omega)]; omega
      have q1 : k < s.size + 1 := by omega
      have q2 : k + m.size < s.size + 1 := by omega
      have q3 : (k : Int) < (s.size : Int) + 1 := by omega
      have q4 : ((k + m.size : Nat) : Int) < (s.size : Int) + 1 := by omega
      have g4 : ∀ h, (js (arj (-1) k acc vs))[k]'h = i64 acc := fun h => (List.getElem?_eq_some_iff.1 g1).2
      have g5 : ∀ h, (js (arj (-1) k acc vs))[k + m.size]'h = i64 (vs.getD (m.size - 1) (-1)) := fun h => (List.getElem?_eq_some_iff.1 g2).2
      generalize vs.getD (m.size - 1) (-1) = y at *
      by_cases hy : y < 0
      · have e1 : stp true y acc = acc := by unfold stp; rw [if_pos hy]
        rw [e1] at hih ⊢
        simpa -implicitDefEqProofs [bd, L50b0, hi, hx, hx2, hks, hp, hw, w1, q1, q2, q3, q4, g1, g2, g4, g5, hl, hl2, hy, -Int.natCast_add] using hih
      · have w2 : IntKind.i64.wrap (y + 1) = y + 1 := wr64 (by omega) (by omega)
        have g3 := arj_set (-1) k acc (y + 1) vs
        by_cases ha : acc < 0
        · have e1 : stp true y acc = y + 1 := by unfold stp; rw [if_neg hy, if_pos (.inl ha)]
          rw [e1] at hih ⊢
          simpa -implicitDefEqProofs [bd, L50b0, hi, hx, hx2, hks, hp, hw, w1, w2, q1, q2, q3, q4, g1, g2, g3, g4, g5, hl, hl2, hy, ha, -Int.natCast_add] using hih
        · have hbt := betB (y + 1) acc
          by_cases hc : acc < y + 1
          · have e1 : stp true y acc = y + 1 := by unfold stp bt; rw [if_neg hy, if_pos (.inr (by simpa using hc))]
            rw [e1] at hih ⊢
            rw [decide_eq_true hc] at hbt
            simpa -implicitDefEqProofs [bd, L50b0, hi, hx, hx2, hks, hp, hw, w1, w2, q1, q2, q3, q4, g1, g2, g3, g4, g5, hl, hl2, hy, ha, hbt, -Int.natCast_add] using hih
          · have e1 : stp true y acc = acc := by unfold stp bt; rw [if_neg hy, if_neg (by rintro (e | e); exact ha e; exact hc (by simpa using e))]
            rw [e1] at hih ⊢
            rw [decide_eq_false hc] at hbt
            simpa -implicitDefEqProofs [bd, L50b0, hi, hx, hx2, hks, hp, hw, w1, w2, q1, q2, q3, q4, g1, g2, g3, g4, g5, hl, hl2, hy, ha, hbt, -Int.natCast_add] using hih
    · have h' : Rd.pre (B m) ((B s).drop k) = false := by simpa using h
      rw [h'] at hp
      have ht : fs true ((B s).drop k) vs acc m = acc := by unfold fs; rw [if_neg h]
      rw [ht] at hih ⊢
      simpa -implicitDefEqProofs [bd, L50b0, hi, hx, hx2, hks, hp, hw] using hih
theorem cntB_outer (s : ByteArray) (hs : s.size ≤ 40) (ms : List ByteArray) (hv : VT ms) : ∀ k : Nat, k ≤ s.size →
    packX 0 [3, 4, 8] (loopW (bd E0 (ev E0) loopW 0 [2, 3, 4, 8, 9] L50b1) ⟨[(2, .fn (.func 53) [] []), (3, .ptr 0 0 0), (4, .ptr 1 0 0), (8, .ptr 2 0 0), (9, i64 ((k : Int) - 1))], [some (tb ms), some (sb s), some (lb (s.size + 1)), some (jb (List.replicate k (-1) ++ cva true ms ((B s).drop k)))]⟩) =
      some (.ext 0, ⟨[(3, .ptr 0 0 0), (4, .ptr 1 0 0), (8, .ptr 2 0 0)], [some (tb ms), some (sb s), some (lb (s.size + 1)), some (jb (cva true ms (B s)))]⟩) := by
  intro k
  induction k with
  | zero =>
    intro _
    rw [loopW_eq]
    generalize loopW (bd E0 (ev E0) loopW 0 [2, 3, 4, 8, 9] L50b1) = K
    unfold bd
    simp -implicitDefEqProofs [L50b1, jb, tb, sb, lb]
  | succ k ih =>
    intro hk
    have hih := ih (by omega)
    have hvl : k + (cva true ms ((B s).drop (k + 1))).length = s.size := by rw [cva_len, List.length_drop, B_len]; omega
    have hin := cntB_loop s (by omega) ms (by have := hv.len; omega) (fun m hm => by have := hv.sz m hm; omega) k (by omega) _ hvl (fun i => by have := cva_b true ms ((B s).drop (k + 1)) i; rw [List.length_drop, B_len] at this; omega) ms 0 (-1) rfl (by omega) (by omega)
    rw [c0] at hin
    have he : arj (-1) k (ms.foldl (fs true ((B s).drop k) (cva true ms ((B s).drop (k + 1)))) (-1)) (cva true ms ((B s).drop (k + 1))) = List.replicate k (-1) ++ cva true ms ((B s).drop k) := by
      rw [cva_at true ms s k (by omega)]
      rfl
    rw [he] at hin
    have e0 : List.replicate (k + 1) (-1 : Int) ++ cva true ms ((B s).drop (k + 1)) = arj (-1) k (-1) (cva true ms ((B s).drop (k + 1))) := by
      unfold arj
      rw [List.replicate_succ', List.append_assoc]
      rfl
    rw [e0, show (((k + 1 : Nat) : Int) - 1) = (k : Int) by omega, loopW_eq]
    have hw : IntKind.i64.wrap ((k : Int) - 1) = (k : Int) - 1 := wr64 (by omega) (by omega)
    have hk0 : (0 : Int) ≤ (k : Int) := by omega
    simp only [jb, tb, sb, lb] at hin hih ⊢
    generalize js (arj (-1) k (-1) (cva true ms ((B s).drop (k + 1)))) = A1 at *
    generalize js (List.replicate k (-1) ++ cva true ms ((B s).drop k)) = A2 at *
    generalize loopW (bd E0 (ev E0) loopW 0 [2, 3, 4, 8, 9] L50b1) = K at hih ⊢
    unfold bd
    simpa -implicitDefEqProofs [L50b1, hin, hw, hk0] using hih
theorem bestB (ms : List ByteArray) (hm : ms.length ≤ 1000) (hz : ∀ m ∈ ms, m.size ≤ 1000) (s : ByteArray) (hs : s.size ≤ 1000000) : ev E0 50 [.agg [.lst 1 (ms.map st)], st s, .fn (.func 53) [] []] [] = some (bstO true ms s, []) := by
  have h1 := isRead_i ms hm hz s hs
  unfold bstO
  cases h : okRead ms s with
  | false => rw [h] at h1; rw [e50]; unfold runF; simp -implicitDefEqProofs [L50, h1]
  | true =>
    obtain ⟨hv, hs2⟩ := read_size h
    rw [h] at h1
    rw [if_pos rfl]
    have h2 := repeat_c (s.size + 1) (by omega) (by omega)
    have w1 : IntKind.i64.wrap ((s.size : Int) + 1) = ((s.size + 1 : Nat) : Int) := by rw [wr64 (by omega) (by omega)]; omega
    have w2 : IntKind.i64.wrap ((s.size : Int) - 1) = (s.size : Int) - 1 := wr64 (by omega) (by omega)
    have ho := cntB_outer s hs2 ms hv s.size (Nat.le_refl _)
    have hd : (B s).drop s.size = [] := List.drop_of_length_le (by rw [B_len]; exact Nat.le_refl _)
    rw [hd, show cva true ms [] = [0] from rfl] at ho
    have hfr : okL (free 5) (List.replicate (s.size + 1) (i64 (-1))) = true := by
      have := okL_map (f := free 5) (g := fun _ : Unit => i64 (-1)) (fun _ => rfl) (List.replicate (s.size + 1) ())
      rwa [List.map_replicate] at this
    have hset : (List.replicate (s.size + 1) (i64 (-1))).set s.size (i64 0) = js (List.replicate s.size (-1) ++ [0]) := by
      unfold js
      rw [List.replicate_succ', List.set_append_right _ _ (by simp), List.map_append, List.map_replicate]
      simp
    have z3 := js0 true ms (B s)
    have z4 : ∀ h, (js (cva true ms (B s)))[0]'h = _ := fun h => (List.getElem?_eq_some_iff.1 z3).2
    have hl := js_len (cva true ms (B s))
    rw [cva_len, B_len] at hl
    unfold bst
    by_cases hc : 0 ≤ cw true ms (B s)
    · have hr := bests_loop true s hs2 ms hv s.size 0 ⟨#[]⟩ (by omega) (Nat.zero_le _) (by decide) (by rw [List.drop_zero]; exact hc)
      rw [List.drop_zero, show (⟨#[]⟩ : ByteArray) ++ ltx (br true ms s.size (B s)) = ltx (br true ms s.size (B s)) from B_eq (by unfold B ltx; simp)] at hr
      have hn : ¬ cw true ms (B s) < 0 := by omega
      rw [if_pos hc, e50]
      unfold runF
      simp only [jb, tb, sb, lb, ab, c0] at ho hr ⊢
      generalize js (cva true ms (B s)) = V at *
      generalize js (List.replicate s.size (-1) ++ [0]) = U at *
      simp (maxSteps := 1000000) -implicitDefEqProofs [L50, h1, h2, hfr, hset, w1, w2, ho, hr, z3, z4, hl, hn, -Int.natCast_add]
    · have hn : cw true ms (B s) < 0 := by omega
      rw [if_neg hc, e50]
      unfold runF
      simp only [jb, tb, sb, lb] at ho ⊢
      generalize js (cva true ms (B s)) = V at *
      generalize js (List.replicate s.size (-1) ++ [0]) = U at *
      simp (maxSteps := 1000000) -implicitDefEqProofs [L50, h1, h2, hfr, hset, w1, w2, ho, z3, z4, hl, hn, -Int.natCast_add]
theorem long_i (ms : List ByteArray) (hm : ms.length ≤ 1000) (hz : ∀ m ∈ ms, m.size ≤ 1000) (s : ByteArray) (hs : s.size ≤ 1000000) : ev E0 21 [.agg [.lst 1 (ms.map st)], st s] [] = some (bstO true ms s, []) := by
  have h1 := bestB ms hm hz s hs
  obtain ⟨t, b, hb⟩ : ∃ (t : ByteArray) (b : Bool), bstO true ms s = .tup [st t, bl b] := by
    unfold bstO
    split
    · exact bst_tup true ms s
    · exact ⟨_, _, rfl⟩
  rw [hb] at h1 ⊢
  rw [e21]
  unfold runF
  simp -implicitDefEqProofs [L21, h1]
end Go.Proofs.YtkdfgjijmnaljaaDoor.Ev
