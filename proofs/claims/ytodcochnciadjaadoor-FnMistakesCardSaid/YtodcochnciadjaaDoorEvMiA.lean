/- Chains of single mistakes: what the program and the reference answer. -/
import Derived.Test.YtodcochnciadjaaDoorEvMi9
set_option linter.unusedVariables false
set_option linter.unusedSimpArgs false
namespace Go.Proofs.YtodcochnciadjaaDoor.Ev
open Bf
theorem nxS0 (ms : List ByteArray) (hm : ms.length ≤ 1000) (hz : ∀ m ∈ ms, m.size ≤ 400) (f : List Int) (hf : f.length = ms.length) (tg a : Nat) (ha : a < ms.length) (hfa : -1 ≤ G f a ∧ G f a ≤ 2000) (l : List Nat) (x : Nat) (hok : okn (adjM ms) f a x = true) (hno : ∀ j, j < x → okn (adjM ms) f a j = false) : ∀ (c : Nat) (y : Int), c ≤ ms.length →
    packX 0 [2, 3, 8, 9, 11] (loopW (bd E0 (ev E0) loopW 0 [2, 3, 8, 9, 10, 11, 12] L32b0) ⟨[(2, i64 tg), (3, .ptr 0 0 0), (8, .sl 1 0 ms.length), (9, .sl 2 0 l.length), (10, i64 a), (11, i64 y), (12, i64 ((c : Int) - 1))], [some (tb ms), some (fb6 f), some (ib l)]⟩) =
      some (.ext 2, ⟨[(2, i64 tg), (3, .ptr 0 0 0), (8, .sl 1 0 ms.length), (9, .sl 2 0 l.length), (11, i64 (if x < c then (x : Int) else y))], [some (tb ms), some (fb6 f), some (ib l)]⟩) := by
  unfold tb fb6 ib
  have hl := fi_len f
  rw [hf] at hl
  have g1 := fi_at (f := f) (v := a) (by omega)
  have g1' := fi_at' (f := f) (v := a) (by omega)
  have m1 := get_mk ha
  have m1' := mk_at ha
  have haa : (a : Int) < (ms.length : Int) := by omega
  have hw2 : IntKind.i64.wrap (G f a - 1) = G f a - 1 := wr64 (by omega) (by omega)
  intro c
  induction c with
  | zero =>
    intro y _
    have e : (if x < 0 then (x : Int) else y) = y := if_neg (by omega)
    rw [e, loopW_eq]
    generalize loopW (bd E0 (ev E0) loopW 0 [2, 3, 8, 9, 10, 11, 12] L32b0) = K
    simp -implicitDefEqProofs [bd, L32b0]
  | succ k ih =>
    intro y h
    have hk : k < ms.length := by omega
    have hkk : (k : Int) < (ms.length : Int) := by omega
    have g2 := fi_at (f := f) (v := k) (by omega)
    have g2' := fi_at' (f := f) (v := k) (by omega)
    have m2 := get_mk hk
    have m2' := mk_at hk
    have hds := ds_s (mk_ ms a) (mk_ ms k) (mk_sz hz a) (mk_sz hz k)
    have hq : okn (adjM ms) f a k = (decide (G f k = G f a - 1) && decide ((ds (mk_ ms a) (mk_ ms k) : Int) = 1)) := by
      unfold okn adjM
      congr 1
      rw [decide_eq_decide, ds_symm]
      omega
    have hw : IntKind.i64.wrap ((k : Int) - 1) = (k : Int) - 1 := wr64 (by omega) (by omega)
    have e0 : ((k + 1 : Nat) : Int) - 1 = (k : Int) := by omega
    rw [e0, loopW_eq]
    cases hc : okn (adjM ms) f a k with
    | true =>
      have hih := ih (k : Int) (by omega)
      have e : (if x < k + 1 then (x : Int) else y) = (if x < k then (x : Int) else (k : Int)) := by
        by_cases h1 : x < k
        · rw [if_pos h1, if_pos (by omega)]
        · by_cases h2 : x = k
          · rw [if_neg h1, if_pos (by omega), h2]
          · rw [hno k (by omega)] at hc; cases hc
      rw [e]
      generalize (if x < k then (x : Int) else (k : Int)) = r at hih ⊢
      rw [hc] at hq
      have hq := hq.symm
      rw [Bool.and_eq_true, decide_eq_true_eq, decide_eq_true_eq] at hq
      obtain ⟨q1, q2⟩ := hq
      generalize loopW (bd E0 (ev E0) loopW 0 [2, 3, 8, 9, 10, 11, 12] L32b0) = K at hih ⊢
      clear ih hok hno hc e
      generalize ds (mk_ ms a) (mk_ ms k) = d at *
      have q3 : d = 1 := by omega
      generalize mk_ ms k = b at *
      generalize mk_ ms a = e at *
      rw [q1] at g2 g2'
      generalize G f a = z at *
      generalize fi f = nf at *
      simpa -implicitDefEqProofs [bd, L32b0, ha, haa, hk, hkk, g1, g1', g2, g2', hl, m1, m1', m2, m2', hds, hw, hw2, q2, q3] using hih
    | false =>
      have hih := ih y (by omega)
      have e : (if x < k + 1 then (x : Int) else y) = (if x < k then (x : Int) else y) := by
        by_cases h1 : x < k
        · rw [if_pos h1, if_pos (by omega)]
        · by_cases h2 : x = k
          · rw [← h2, hok] at hc; cases hc
          · rw [if_neg h1, if_neg (by omega)]
      rw [e]
      generalize (if x < k then (x : Int) else y) = r at hih ⊢
      rw [hc] at hq
      generalize loopW (bd E0 (ev E0) loopW 0 [2, 3, 8, 9, 10, 11, 12] L32b0) = K at hih ⊢
      clear ih hok hno hc e
      generalize ds (mk_ ms a) (mk_ ms k) = d at *
      generalize mk_ ms k = b at *
      generalize mk_ ms a = e at *
      generalize G f a = z at *
      generalize G f k = u at *
      generalize fi f = nf at *
      by_cases q1 : u = z - 1
      · have q2 : ¬ (d : Int) = 1 := by
          intro q2
          rw [decide_eq_true q1, decide_eq_true q2] at hq
          cases hq
        have q3 : ¬ d = 1 := by omega
        simpa -implicitDefEqProofs [bd, L32b0, ha, haa, hk, hkk, g1, g1', g2, g2', hl, m1, m1', m2, m2', hds, hw, hw2, q1, q2, q3] using hih
      · simpa -implicitDefEqProofs [bd, L32b0, ha, haa, hk, hkk, g1, g1', g2, g2', hl, m1, m1', m2, m2', hds, hw, hw2, q1] using hih
theorem chaS (ms : List ByteArray) (hm : ms.length ≤ 1000) (hz : ∀ m ∈ ms, m.size ≤ 400) (f : List Int) (tg : Nat) (hL : Lv (adjM ms) ms.length tg f) : ∀ (m a : Nat) (l : List Nat), a < ms.length → G f a = (m : Int) → l.length + m ≤ 100000 →
    packX 0 [9] (loopW (bd E0 (ev E0) loopW 0 [2, 3, 8, 9, 10] L32b1) ⟨[(2, i64 tg), (3, .ptr 0 0 0), (8, .sl 1 0 ms.length), (9, .sl 2 0 l.length), (10, i64 a)], [some (tb ms), some (fb6 f), some (ib l)]⟩) =
      some (.ext 0, ⟨[(9, .sl 0 0 (l ++ way (adjM ms) ms.length f m a).length)], [some (ib (l ++ way (adjM ms) ms.length f m a))]⟩) := by
  intro m
  induction m with
  | zero =>
    intro a l ha h0 hl
    obtain rfl := at_to hL ha h0
    unfold tb fb6 ib
    rw [loopW_eq]
    generalize loopW (bd E0 (ev E0) loopW 0 [2, 3, 8, 9, 10] L32b1) = K
    unfold bd
    simp -implicitDefEqProofs [L32b1, way]
  | succ m ih =>
    intro a l ha h0 hl
    obtain ⟨hne, hx, h1, hadj⟩ := nx_next hL ha h0
    obtain ⟨_, hok, hno⟩ := nx_ok hL ha hne (by omega)
    have hle := lv_le hL a
    have hin := nxS0 ms hm hz f hL.len tg a ha ⟨by omega, by omega⟩ l _ hok hno ms.length (-1) (Nat.le_refl _)
    rw [if_pos hx] at hin
    have hih := ih (nx (adjM ms) ms.length f a) (l ++ [nx (adjM ms) ms.length f a]) hx h1 (by simp; omega)
    rw [way, List.append_cons l]
    clear ih hok hno
    generalize (l ++ [nx (adjM ms) ms.length f a]) ++ way _ _ _ _ _ = R at hih ⊢
    generalize nx (adjM ms) ms.length f a = x at *
    have ha' := ns_app l x
    have hnl := ns_len l
    have hfl := fi_len f
    have ht : List.take l.length (ns l) = ns l := List.take_of_length_le (by omega)
    have l1 : l.length + 1 ≤ 140737488355328 := by omega
    have l2 : (l.length + 1) * 8 ≤ 140737488355328 := by omega
    have hnei : ¬ (a : Int) = (tg : Int) := by omega
    have hw : IntKind.i64.wrap ((ms.length : Int) - 1) = (ms.length : Int) - 1 := wr64 (by omega) (by omega)
    unfold tb fb6 ib at hin hih ⊢
    rw [← ha', List.length_append, List.length_singleton] at hih
    rw [loopW_eq]
    generalize loopW (bd E0 (ev E0) loopW 0 [2, 3, 8, 9, 10] L32b1) = K at hih ⊢
    generalize ns l = nl at *
    generalize fi f = nf at *
    unfold bd
    simpa -implicitDefEqProofs [L32b1, hne, hnei, hin, hnl, ht, l1, l2, hw] using hih
def okCh (ms : List ByteArray) (a b : Int) : Bool := okTable ms && (okLetter ms a && okLetter ms b)
theorem chain_yes (ms : List ByteArray) (hm : ms.length ≤ 1000) (hz : ∀ m ∈ ms, m.size ≤ 400) (a b : Nat) (h : okCh ms a b = true) :
    (∃ L : List Nat, L.length ≤ 1001 ∧ (∀ x ∈ L, x < ms.length) ∧ 1 ≤ L.length ∧ Q L 0 = a ∧ Q L (L.length - 1) = b ∧ (∀ j, j + 1 < L.length → ds (mk_ ms (Q L j)) (mk_ ms (Q L (j + 1))) = 1) ∧
      ev E0 31 [.agg [.lst 1 (ms.map st)], i64 a, i64 b] [] = some (.tup [.sl 0 0 L.length, bl true], [some (ib L)]) ∧
      ev E0 32 [.agg [.lst 1 (ms.map st)], i64 a, i64 b] [] = some (.tup [.sl 0 0 L.length, bl true], [some (ib L)])) ∨
    (ev E0 31 [.agg [.lst 1 (ms.map st)], i64 a, i64 b] [] = some (.tup [.v (.slice none 0 0), bl false], []) ∧
      ev E0 32 [.agg [.lst 1 (ms.map st)], i64 a, i64 b] [] = some (.tup [.sl 0 0 0, bl false], [some (ib [])])) := by
  unfold okCh at h
  rw [Bool.and_eq_true, Bool.and_eq_true] at h
  obtain ⟨ho, ha, hb⟩ := h
  have ba := okLetter_bounds ha
  have bb := okLetter_bounds hb
  have h1 := table_i ms (by omega) (fun x hx => by have := hz x hx; omega)
  have h2 := letter_i ms (by omega) a
  have h3 := letter_i ms (by omega) b
  have h4 := l6letter_s ms hm hz a
  have h5 := l6letter_s ms hm hz b
  rw [ho] at h1
  rw [ha] at h2
  rw [hb] at h3
  rw [ho, ha] at h4
  rw [ho, hb] at h5
  have hrep := repeat_c ms.length (by omega) hm
  have hrf : List.replicate ms.length (i64 (-1)) = fi (List.replicate ms.length (-1)) := by unfold fi; rw [List.map_replicate]
  rw [hrf] at hrep
  obtain ⟨f, hL, hl1⟩ := bfs1 ms hm hz a b ms.length 0 _ [b] (by omega) (Inv.start (adjM ms) ms.length b (by omega))
  obtain ⟨g, hL', hs⟩ := steps_s ms hm hz b (by omega)
  obtain rfl := lv_unique hL hL' (by omega)
  have hse := fi_set (List.replicate ms.length (-1)) b 0
  have hg0 := fi_at (f := List.replicate ms.length (-1 : Int)) (v := b) (by simp; omega)
  have hg0' := fi_at' (f := List.replicate ms.length (-1 : Int)) (v := b) (by simp; omega)
  have hl0 : (fi (List.replicate ms.length (-1 : Int))).length = ms.length := by rw [fi_len]; simp
  have hf0 : okL (free 5) (fi (List.replicate ms.length (-1 : Int))) = true := free_i64 _
  have hlen := hL.len
  have hfl := fi_len f
  have g1 := fi_at (f := f) (v := a) (by omega)
  have g1' := fi_at' (f := f) (v := a) (by omega)
  have hai : (a : Int) < (ms.length : Int) := ba.2
  have hbi : (b : Int) < (ms.length : Int) := bb.2
  have han : a < ms.length := by omega
  have hbn : b < ms.length := by omega
  have hn1 : ns [b] = [i64 (b : Int)] := rfl
  have hn2 : ns [a] = [i64 (a : Int)] := rfl
  have hn0 : ns [] = [] := rfl
  rw [hlen] at hfl
  by_cases hneg : G f a < 0
  · right
    unfold tb fb6 ib at *
    rw [c0, List.length_singleton, hn1, ← hse] at hl1
    generalize fi (List.replicate ms.length (-1)) = R0 at *
    generalize G (List.replicate ms.length (-1)) b = y0 at *
    generalize G f a = y at *
    generalize fi f = nf at *
    constructor
    · rw [e31]
      unfold runF
      simp -implicitDefEqProofs [L31, h1, h2, h3, hrep, hl1, hf0, hg0, hg0', hl0, hfl, g1, g1', hai, hbi, han, hbn, hneg]
    · rw [e32]
      unfold runF
      simp -implicitDefEqProofs [L32, h4, h5, hs, hfl, g1, g1', hai, hbi, han, hbn, hneg, hn0]
  · left
    obtain ⟨m, hmm⟩ : ∃ m : Nat, G f a = (m : Int) := ⟨(G f a).toNat, by omega⟩
    have hle := lv_le hL a
    have c1 := cha3 ms hm hz f b hL m a [a] han hmm (by simp; omega)
    have c2 := chaS ms hm hz f b hL m a [a] han hmm (by simp; omega)
    have hwl := way_len (adj := adjM ms) (n := ms.length) (f := f) m a
    have hlast := way_last hL m a han hmm
    have hadj := way_adj hL m a han hmm
    have hlt := way_lt hL m a han hmm
    rw [List.singleton_append] at c1 c2
    refine ⟨a :: way (adjM ms) ms.length f m a, by rw [List.length_cons]; omega, ?_, by rw [List.length_cons]; omega, rfl, ?_, ?_, ?_⟩
    · intro x hx
      rcases List.mem_cons.1 hx with rfl | hx
      · exact han
      · exact hlt x hx
    · rw [List.length_cons, hwl, Nat.add_sub_cancel]
      exact hlast
    · intro j hj
      rw [List.length_cons, hwl] at hj
      have := hadj j (by omega)
      unfold adjM at this
      rw [decide_eq_true_eq, ds_symm] at this
      exact this
    clear hlast hadj hlt hwl
    generalize a :: way (adjM ms) ms.length f m a = R at *
    unfold tb fb6 ib at *
    rw [c0, List.length_singleton, hn1, ← hse] at hl1
    rw [List.length_singleton, hn2] at c1 c2
    generalize fi (List.replicate ms.length (-1)) = R0 at *
    generalize G (List.replicate ms.length (-1)) b = y0 at *
    generalize G f a = y at *
    generalize fi f = nf at *
    constructor
    · rw [e31]
      unfold runF
      simp -implicitDefEqProofs [L31, h1, h2, h3, hrep, hl1, hf0, hg0, hg0', hl0, hfl, g1, g1', hai, hbi, han, hbn, hneg, c1]
    · rw [e32]
      unfold runF
      simp -implicitDefEqProofs [L32, h4, h5, hs, hfl, g1, g1', hai, hbi, han, hbn, hneg, c2]
theorem chain_no (ms : List ByteArray) (hm : ms.length ≤ 1000) (hz : ∀ m ∈ ms, m.size ≤ 400) (a b : Int) (h : okCh ms a b = false) :
    ev E0 31 [.agg [.lst 1 (ms.map st)], i64 a, i64 b] [] = some (.tup [.v (.slice none 0 0), bl false], []) ∧
      ev E0 32 [.agg [.lst 1 (ms.map st)], i64 a, i64 b] [] = some (.tup [.sl 0 0 0, bl false], [some (ib [])]) := by
  unfold okCh at h
  have h1 := table_i ms (by omega) (fun x hx => by have := hz x hx; omega)
  have h2 := letter_i ms (by omega) a
  have h3 := letter_i ms (by omega) b
  have h4 := l6letter_s ms hm hz a
  have h5 := l6letter_s ms hm hz b
  have hn0 : ns [] = [] := rfl
  unfold ib
  cases ho : okTable ms with
  | false =>
    rw [ho] at h1 h4
    constructor
    · rw [e31]
      unfold runF
      simp -implicitDefEqProofs [L31, h1]
    · rw [e32]
      unfold runF
      simp -implicitDefEqProofs [L32, h4, hn0]
  | true =>
    rw [ho] at h1 h4 h5 h
    cases ha : okLetter ms a with
    | false =>
      rw [ha] at h2 h4
      constructor
      · rw [e31]
        unfold runF
        simp -implicitDefEqProofs [L31, h1, h2]
      · rw [e32]
        unfold runF
        simp -implicitDefEqProofs [L32, h4, hn0]
    | true =>
      rw [ha] at h2 h4 h
      have hb : okLetter ms b = false := by simpa using h
      rw [hb] at h3 h5
      constructor
      · rw [e31]
        unfold runF
        simp -implicitDefEqProofs [L31, h1, h2, h3]
      · rw [e32]
        unfold runF
        simp -implicitDefEqProofs [L32, h4, h5, hn0]
end Go.Proofs.YtodcochnciadjaaDoor.Ev
