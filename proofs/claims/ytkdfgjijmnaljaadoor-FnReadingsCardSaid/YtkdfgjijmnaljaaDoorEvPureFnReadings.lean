/- FnReadings: the law, run by the evaluator, answers true. -/
import Derived.Test.YtkdfgjijmnaljaaDoorEvRdH
set_option linter.unusedVariables false
set_option linter.unusedSimpArgs false
set_option maxRecDepth 4000
set_option maxHeartbeats 1000000
namespace Go.Proofs.YtkdfgjijmnaljaaDoor.Ev
open Dr
theorem law_read (ms : List ByteArray) (hm : ms.length ≤ 30) (hz : ∀ t ∈ ms, t.size ≤ 20) (s : ByteArray) (hs : s.size ≤ 100) (k : Int) : ∃ (M A Z : ByteArray) (okk th fine : Bool) (n : Int),
    (ev E1 14 [tA ms, st s, i64 k] [] = some (.tup [st M, bl okk], []) ∧ ev E1 17 [tA ms, st s, i64 k] [] = some (.tup [st M, bl okk], [])) ∧
    (ev E1 12 [tA ms, st s] [] = some (.tup [i64 n, bl fine], []) ∧ ev E1 18 [tA ms, st s] [] = some (.tup [i64 n, bl fine], [])) ∧
    (ev E1 19 [tA ms, st s] [] = some (.tup [st A, bl th], []) ∧ ev E1 20 [tA ms, st s] [] = some (.tup [st A, bl th], [])) ∧
    (ev E1 21 [tA ms, st s] [] = some (.tup [st Z, bl th], []) ∧ ev E1 22 [tA ms, st s] [] = some (.tup [st Z, bl th], [])) ∧
    (th = (fine && decide (0 < n)) ∧ okk = (fine && decide (0 ≤ k) && decide (k < n))) ∧
    ((okk = true → ev E1 25 [tA ms, st M] [] = some (.tup [i64 k, bl true], [])) ∧ (okk = true → ev E1 15 [tA ms, st M] [] = some (st s, [])) ∧ (okk = true → A.size ≤ M.size) ∧ (okk = true → M.size ≤ Z.size)) ∧
    (th = true → ev E1 15 [tA ms, st A] [] = some (st s, [])) ∧ (th = true → ev E1 15 [tA ms, st Z] [] = some (st s, [])) := by
  have hm' : ms.length ≤ 1000 := by omega
  have hz' : ∀ m ∈ ms, m.size ≤ 1000 := fun m h => by have := hz m h; omega
  have c1 := two_ci ms hm' hz' s (by omega)
  have c2 := two_cs ms hm' hz' s (by omega)
  have no : ∀ {P : Prop}, (false = true) → P := fun h => absurd h (by simp)
  by_cases hc : okRead ms s = true
  · obtain ⟨hv, hs2⟩ := read_size hc
    have ho : okTable ms = true := by have h := hc; unfold okRead at h; rw [Bool.and_eq_true] at h; exact h.1
    have hmk : okMarks s 0 40 = true := by have h := hc; unfold okRead at h; rw [Bool.and_eq_true] at h; exact h.2
    rw [if_pos hc, hc] at c1 c2
    by_cases hr : 0 < rds ms s
    · have p1 : ∀ most, 0 ≤ cw most ms (B s) := fun most => (cw_pos hv).2 hr
      have b1 : ∀ most, bstO most ms s = .tup [st (ltx (br most ms s.size (B s))), bl true] := fun most => by unfold bstO bst; rw [if_pos hc, if_pos (p1 most)]
      have ok1 := fun most => br_ok (most := most) hv s.size (B s) (by rw [B_len]; exact Nat.le_refl _) (p1 most)
      have a1 : ∀ most, ev E1 15 [tA ms, st (ltx (br most ms s.size (B s)))] [] = some (st s, []) := fun most => by
        obtain ⟨q1, q2, q3⟩ := ok1 most
        have hl := flat_ge hv _ q1
        rw [q2, B_len] at hl
        have := two_bareOf ms hm' hz' ho _ q1 (by omega)
        rwa [fb_of q2] at this
      have hth : true = (true && decide (0 < ((rds ms s : Nat) : Int))) := by rw [decide_eq_true (by omega)]; rfl
      by_cases hk : 0 ≤ k ∧ k < (rds ms s : Int)
      · obtain ⟨w, w1, w2, w3, w4, w5, w6⟩ := two_at ms hm' hz' s (by omega) k ⟨hc, hk⟩
        have hb := two_bareOf ms hm' hz' ho w w1 (by omega)
        rw [fb_of w2] at hb
        have g1 := (cw_best (most := false) hv w w1).2
        have g2 := (cw_best (most := true) hv w w1).2
        rw [w2] at g1 g2
        rw [if_neg (by simp)] at g1
        rw [if_pos rfl] at g2
        have o1 := (ok1 false).2.2
        have o2 := (ok1 true).2.2
        have hR : rnk ms (ltx w) = .tup [i64 k, bl true] := by
          have hlen := hv.len
          unfold rnk
          rw [if_pos ⟨ho, by rw [ltx_size]; omega⟩, lets_ltx (by omega) w1]
          unfold rnkW
          dsimp only
          rw [if_pos (by rw [fb_of w2]; exact hmk), w2, w3]
        refine ⟨ltx w, ltx (br false ms s.size (B s)), ltx (br true ms s.size (B s)), true, true, true, ((rds ms s : Nat) : Int), ⟨w5, w6⟩, ⟨c1, c2⟩, ⟨two_si ms hm' hz' s (by omega) _ _ (b1 false), two_ss ms hm' hz' s (by omega) _ _ (b1 false)⟩, ⟨two_li ms hm' hz' s (by omega) _ _ (b1 true), two_ls ms hm' hz' s (by omega) _ _ (b1 true)⟩, ⟨hth, ?_⟩, ⟨fun _ => two_ri ms hm' hz' (ltx w) (by rw [ltx_size]; omega) _ _ hR, fun _ => hb, fun _ => ?_, fun _ => ?_⟩, fun _ => a1 false, fun _ => a1 true⟩
        · rw [decide_eq_true hk.1, decide_eq_true hk.2]; rfl
        · rw [ltx_size, ltx_size]; omega
        · rw [ltx_size, ltx_size]; omega
      · obtain ⟨w5, w6⟩ := two_no ms hm' hz' s (by omega) k (fun h => hk h.2)
        refine ⟨⟨#[]⟩, ltx (br false ms s.size (B s)), ltx (br true ms s.size (B s)), false, true, true, ((rds ms s : Nat) : Int), ⟨w5, w6⟩, ⟨c1, c2⟩, ⟨two_si ms hm' hz' s (by omega) _ _ (b1 false), two_ss ms hm' hz' s (by omega) _ _ (b1 false)⟩, ⟨two_li ms hm' hz' s (by omega) _ _ (b1 true), two_ls ms hm' hz' s (by omega) _ _ (b1 true)⟩, ⟨hth, ?_⟩, ⟨no, no, no, no⟩, fun _ => a1 false, fun _ => a1 true⟩
        by_cases h1 : 0 ≤ k
        · have h2 : ¬ k < (rds ms s : Int) := fun h => hk ⟨h1, h⟩
          rw [decide_eq_false h2, Bool.and_false]
        · rw [decide_eq_false h1]; rfl
    · have p1 : ∀ most, ¬ 0 ≤ cw most ms (B s) := fun most h => hr ((cw_pos hv).1 h)
      have b1 : ∀ most, bstO most ms s = .tup [st ⟨#[]⟩, bl false] := fun most => by unfold bstO bst; rw [if_pos hc, if_neg (p1 most)]
      obtain ⟨w5, w6⟩ := two_no ms hm' hz' s (by omega) k (fun h => by omega)
      refine ⟨⟨#[]⟩, ⟨#[]⟩, ⟨#[]⟩, false, false, true, ((rds ms s : Nat) : Int), ⟨w5, w6⟩, ⟨c1, c2⟩, ⟨two_si ms hm' hz' s (by omega) _ _ (b1 false), two_ss ms hm' hz' s (by omega) _ _ (b1 false)⟩, ⟨two_li ms hm' hz' s (by omega) _ _ (b1 true), two_ls ms hm' hz' s (by omega) _ _ (b1 true)⟩, ⟨?_, ?_⟩, ⟨no, no, no, no⟩, no, no⟩
      · rw [decide_eq_false (by omega)]; rfl
      · by_cases h1 : 0 ≤ k
        · have h2 : ¬ k < (rds ms s : Int) := by omega
          rw [decide_eq_false h2, Bool.and_false]
        · rw [decide_eq_false h1]; rfl
  · have hc' : okRead ms s = false := by simpa using hc
    rw [if_neg hc, hc'] at c1 c2
    have b1 : ∀ most, bstO most ms s = .tup [st ⟨#[]⟩, bl false] := fun most => by unfold bstO; rw [if_neg hc]
    obtain ⟨w5, w6⟩ := two_no ms hm' hz' s (by omega) k (fun h => hc h.1)
    exact ⟨⟨#[]⟩, ⟨#[]⟩, ⟨#[]⟩, false, false, false, _, ⟨w5, w6⟩, ⟨c1, c2⟩, ⟨two_si ms hm' hz' s (by omega) _ _ (b1 false), two_ss ms hm' hz' s (by omega) _ _ (b1 false)⟩, ⟨two_li ms hm' hz' s (by omega) _ _ (b1 true), two_ls ms hm' hz' s (by omega) _ _ (b1 true)⟩, ⟨rfl, rfl⟩, ⟨no, no, no, no⟩, no, no⟩
theorem law_rank (us : List ByteArray) (hm : us.length ≤ 30) (hz : ∀ t ∈ us, t.size ≤ 20) (m : ByteArray) (hs : m.size ≤ 100) : ∃ (r : Int) (two : Bool) (b : ByteArray) (n : Int),
    (ev E1 25 [tA us, st m] [] = some (.tup [i64 r, bl two], []) ∧ ev E1 26 [tA us, st m] [] = some (.tup [i64 r, bl two], [])) ∧
    (two = true → ev E1 15 [tA us, st m] [] = some (st b, [])) ∧ (two = true → ev E1 14 [tA us, st b, i64 r] [] = some (.tup [st m, bl true], [])) ∧ (two = true → ev E1 12 [tA us, st b] [] = some (.tup [i64 n, bl true], [])) ∧ (two = true → r < n) := by
  have hm' : us.length ≤ 1000 := by omega
  have hz' : ∀ m ∈ us, m.size ≤ 1000 := fun m h => by have := hz m h; omega
  have no : ∀ {P : Prop}, (false = true) → P := fun h => absurd h (by simp)
  have non : rnk us m = noR → ∃ (r : Int) (two : Bool) (b : ByteArray) (n : Int),
    (ev E1 25 [tA us, st m] [] = some (.tup [i64 r, bl two], []) ∧ ev E1 26 [tA us, st m] [] = some (.tup [i64 r, bl two], [])) ∧
    (two = true → ev E1 15 [tA us, st m] [] = some (st b, [])) ∧ (two = true → ev E1 14 [tA us, st b, i64 r] [] = some (.tup [st m, bl true], [])) ∧ (two = true → ev E1 12 [tA us, st b] [] = some (.tup [i64 n, bl true], [])) ∧ (two = true → r < n) :=
    fun h => ⟨0, false, ⟨#[]⟩, 0, ⟨two_ri us hm' hz' m (by omega) _ _ h, two_rs us hm' hz' m (by omega) _ _ h⟩, no, no, no, no⟩
  by_cases h : okTable us = true ∧ m.size ≤ 40
  · cases hl : lets us (B m) with
    | none => exact non (by unfold rnk; rw [if_pos h, hl]; rfl)
    | some w =>
      by_cases ho : okMarks (fb us w) 0 40 = true
      · have hR : rnk us m = .tup [i64 ((rk us w (flat us w) : Nat) : Int), bl true] := by
          unfold rnk
          rw [if_pos h, hl]
          unfold rnkW
          dsimp only
          rw [if_pos ho]
        have hw := lets_lt hl
        have e := m_ltx hl
        have hc : okRead us (fb us w) = true := by unfold okRead; rw [h.1, ho]; rfl
        have hv := vt_of h.1
        have hlt := rk_lt hv w hw
        have hsz := marks_size ho
        have hwl := lets_len hl
        rw [B_len] at hwl
        have hr : rds us (fb us w) = Rd.wy (us.map B) (flat us w) := rfl
        obtain ⟨v, v1, v2, v3, v4, v5, v6⟩ := two_at us hm' hz' (fb us w) (by omega) ((rk us w (flat us w) : Nat) : Int) ⟨hc, by omega, by omega⟩
        rw [B_fb] at v2 v3
        have hwv : w = v := rk_inj hv w v hw v1 (by rw [v2]) (by omega)
        subst hwv
        have hci := two_ci us hm' hz' (fb us w) (by omega)
        rw [if_pos hc, hc] at hci
        refine ⟨_, true, fb us w, _, ⟨two_ri us hm' hz' m (by omega) _ _ hR, two_rs us hm' hz' m (by omega) _ _ hR⟩, fun _ => ?_, fun _ => ?_, fun _ => hci, fun _ => by omega⟩
        · rw [e]; exact two_bareOf us hm' hz' h.1 w hw (by omega)
        · rw [e]; exact v5
      · exact non (by unfold rnk; rw [if_pos h, hl]; unfold rnkW; dsimp only; rw [if_neg ho])
  · exact non (by unfold rnk; rw [if_neg h])
theorem FnReadings (x0 : List Int) (b0 : x0.length ≤ maxLen ∧ ∀ y ∈ x0, (Lit.int .u8 y).wf = true) : ev E1 4 [(AV.lst 1 (x0.map (fun q : Int => (AV.v (.int .u8 q)))))] [] = some (bl true, []) := by
  obtain ⟨hl, hw⟩ := b0
  show ev E1 4 [.lst 1 (cd x0)] [] = _
  have hb := two_big x0
  by_cases h0 : (65536 : Int) < (x0.length : Int)
  · rw [decide_eq_true h0] at hb
    rw [g4]
    unfold runF
    simp -implicitDefEqProofs [L4, hb]
  · rw [decide_eq_false h0] at hb
    have hx : okC x0 := by
      refine ⟨by omega, fun y hy => ?_⟩
      have h := hw y hy
      unfold Lit.wf at h
      rw [Bool.and_eq_true, decide_eq_true_eq, decide_eq_true_eq] at h
      exact h
    obtain ⟨s, ms, k, zs, zm, zz, eD⟩ := two_drawRA x0 hx
    obtain ⟨M, A, Z, okk, th, fine, n, ⟨r1, r2⟩, ⟨c1, c2⟩, ⟨s1, s2⟩, ⟨l1, l2⟩, ⟨hth, hok⟩, ⟨f1, f2, f3, f4⟩, f5, f6⟩ := law_read ms zm zz s zs k
    have hcut := two_vcut x0 hx (by omega) 1 (by omega)
    rw [show ((1 : Nat) : Int) = 1 from rfl] at hcut
    obtain ⟨m, us, ym, yu, yz, eU⟩ := two_drawRR (cutD x0 1) (cutD_ok hx (by omega) 1 (by omega))
    obtain ⟨r, two, b, nn, ⟨k1, k2⟩, f7, f8, f9, f10⟩ := law_rank us yu yz m ym
    have i1 := two_bareI s (by omega)
    have i2 := two_bareS s (by omega)
    have f3' : okk = true → ¬ M.size < A.size := fun h => by have := f3 h; omega
    have f4' : okk = true → ¬ Z.size < M.size := fun h => by have := f4 h; omega
    have f10' : two = true → ¬ nn ≤ r := fun h => by have := f10 h; omega
    rw [g4]
    unfold runF
    unfold tA at *
    cases fine with
    | false =>
      simp at hth hok
      subst hth
      subst hok
      cases two
      all_goals simp -implicitDefEqProofs [L4, hb, eD, r1, r2, c1, c2, s1, s2, l1, l2, hcut, eU, k1, k2, i1, i2, f7, f8, f9, f10']
    | true =>
      by_cases hk0 : 0 ≤ k
      · by_cases hk1 : k < n
        · have hn : 0 < n := by omega
          simp [hn, hk0, hk1] at hth hok
          subst hth
          subst hok
          cases two
          all_goals simp -implicitDefEqProofs [L4, hb, eD, r1, r2, c1, c2, s1, s2, l1, l2, hcut, eU, k1, k2, i1, i2, f1, f2, f3', f4', f5, f6, f7, f8, f9, f10', hn, hk0, hk1]
        · simp [hk0, hk1] at hth hok
          subst hok
          by_cases hn : 0 < n
          all_goals
            simp [hn] at hth
            subst hth
            cases two
            all_goals simp -implicitDefEqProofs [L4, hb, eD, r1, r2, c1, c2, s1, s2, l1, l2, hcut, eU, k1, k2, i1, i2, f5, f6, f7, f8, f9, f10', hn, hk0, hk1]
      · simp [hk0] at hth hok
        subst hok
        by_cases hn : 0 < n
        all_goals
          simp [hn] at hth
          subst hth
          cases two
          all_goals simp -implicitDefEqProofs [L4, hb, eD, r1, r2, c1, c2, s1, s2, l1, l2, hcut, eU, k1, k2, i1, i2, f5, f6, f7, f8, f9, f10', hn, hk0]
end Go.Proofs.YtkdfgjijmnaljaaDoor.Ev
