/- The draw of a station, whole. -/
import Derived.Test.YtjagdiilcphhfaaGreatDoorEvDrawS4
set_option linter.unusedVariables false
set_option linter.unusedSimpArgs false
set_option maxHeartbeats 2000000
namespace Go.Proofs.YtjagdiilcphhfaaGreatDoor.Ev.Dr
def sN : Blk := sQ ⟨#[]⟩ ⟨#[]⟩ 0
theorem station_loop0 (x : List Int) (H : Hp) (id : Nat) (a0 s0 : Int) (h : hget H id = some (cu x a0 s0)) (hs : Stable H) (k : Nat) (a s : Int) (c d : ByteArray) (n : Int) :
    packX H.length [0, 2, 3] (loopW (bd E0 (ev E0) loopW H.length [0, 2, 3, 4, 5] L40b1) ⟨[(0, .ptr id 0 0), (2, .ptr H.length 0 0), (3, .ptr (H.length + 1) 0 0), (4, bl false), (5, i64 k)], H.set id (some (cu x a s)) ++ [some (sQ ⟨#[]⟩ ⟨#[]⟩ 0), some (sQ c d n)]⟩) =
      some (.ext 0, ⟨[(0, .ptr id 0 0), (2, .ptr H.length 0 0), (3, .ptr (H.length + 1) 0 0)], H.set id (some (cu x a s)) ++ [some (sQ ⟨#[]⟩ ⟨#[]⟩ 0), some (sQ c d n)]⟩) := by
  have hid := id_lt h
  have hP := pe_cu h hs
  have hP0 := pe_cu0 h hs
  rw [loopW_eq]
  unfold sQ
  generalize loopW (bd E0 (ev E0) loopW H.length [0, 2, 3, 4, 5] L40b1) = K
  by_cases hk : (0 : Int) < (k : Int)
  · have hk2 : 0 < k := by omega
    simp -implicitDefEqProofs [bd, L40b1, hk, hk2, -packH, hP0, hP, hid, nlt_add, List.idxOf?, List.findIdx?_cons]
  · have hk2 : ¬ 0 < k := by omega
    simp -implicitDefEqProofs [bd, L40b1, hk, hk2, -packH, hP0, hP, hid, nlt_add, List.idxOf?, List.findIdx?_cons]
def w4 : List ByteArray := [⟨#[32]⟩, ⟨#[97, 32]⟩, ⟨#[97, 97, 97, 97, 97, 97, 97, 97, 97, 97, 97, 97, 97]⟩, ⟨#[122]⟩]
def w5 : List ByteArray := [⟨#[]⟩, ⟨#[46, 44]⟩, ⟨#[46, 44, 46]⟩, ⟨#[97]⟩, ⟨#[46, 45]⟩]
theorem w4_small : ∀ t ∈ w4, t.size ≤ 20 := by decide
theorem w5_small : ∀ t ∈ w5, t.size ≤ 20 := by decide
theorem station_ok (x : List Int) (hx : okC x) (H : Hp) (id : Nat) (a s : Int) (h : hget H id = some (cu x a s)) (hs : Stable H) (h0 : 0 ≤ a) (h1 : a ≤ 1000000) :
    ∃ (a' s' : Int) (c d : ByteArray) (n : Int), a ≤ a' ∧ a' ≤ a + 10000 ∧ c.size ≤ 2000000 ∧ d.size ≤ 30 ∧ -10 ≤ n ∧ n ≤ 1001 ∧ ev E0 40 [.ptr id 0 0] H = some (sA c d n, H.set id (some (cu x a' s'))) := by
  have hid := id_lt h
  have hP := pe_cu h hs
  have hP0 := pe_cu0 h hs
  have S2 : ∀ (a s : Int) (c d : ByteArray) (n : Int), Stable (H.set id (some (cu x a s)) ++ [some (sQ ⟨#[]⟩ ⟨#[]⟩ 0), some (sQ c d n)]) := fun a s c d n => stable_leaves (stable_cu hs h a s) [sQ ⟨#[]⟩ ⟨#[]⟩ 0, sQ c d n] (by intro q hq; simp at hq; rcases hq with rfl | rfl <;> exact ⟨rfl, fun _ => rfl⟩)
  have S3 : ∀ (a s : Int) (ms : List ByteArray) (c d : ByteArray) (n : Int), Stable (H.set id (some (cu x a s)) ++ [some (sQ ⟨#[]⟩ ⟨#[]⟩ 0), some (tr ms), some (sQ c d n)]) := fun a s ms c d n => stable_leaves (stable_cu hs h a s) [sQ ⟨#[]⟩ ⟨#[]⟩ 0, tr ms, sQ c d n] (by
    intro q hq
    simp at hq
    rcases hq with rfl | rfl | rfl <;> first | exact leaf_tr ms | exact ⟨rfl, fun _ => rfl⟩)
  obtain ⟨a1, s1, p1, q1, e1⟩ := free_g x hx (H ++ [some (sQ ⟨#[]⟩ ⟨#[]⟩ 0)]) id a s (hget_app h) (stable_leaf hs ⟨rfl, fun _ => rfl⟩) h0 h1
  rw [set_app h] at e1
  obtain ⟨a2, s2, r7, p2, q2, l7, u7, e2⟩ := pick_u x hx a1 s1 (by omega) (by omega) 7
  obtain ⟨k, rfl⟩ : ∃ k : Nat, r7 = k := ⟨r7.toNat, by omega⟩
  have hk : k ≤ 6 := by omega
  rw [e40]
  unfold runF
  rcases e1 with e1 | ⟨ms, m1, m2, e1⟩
  · have hn := newSt_nil
    have g2 := use_pick e2 h (S2 a1 s1 ⟨#[]⟩ ⟨#[]⟩ 0)
    have g3 := station_loop0 x H id a s h hs k a2 s2 ⟨#[]⟩ ⟨#[]⟩ 0
    obtain ⟨a4, s4, r, p4, q4, _, _, e4⟩ := pick_u x hx a2 s2 (by omega) (by omega) 48
    have g4 := use_pick e4 h (S2 a2 s2 ⟨#[]⟩ ⟨#[]⟩ 0)
    by_cases r0 : r = 0
    · subst r0
      obtain ⟨a5, s5, t, p5, q5, ht, e5⟩ := among_u x hx a4 s4 (by omega) (by omega) [-1, 1000, 1001] (by decide)
      have g5 := use_among e5 h (S2 a4 s4 ⟨#[]⟩ ⟨#[]⟩ 0)
      simp only [List.mem_cons, List.not_mem_nil, or_false] at ht
      refine ⟨a5, s5, ⟨#[]⟩, ⟨#[]⟩, t, by omega, by omega, by decide, by decide, by omega, by omega, ?_⟩
      simp only [sQ, tr, ib, w4, w5, List.map_cons, List.map_nil, List.cons_append, List.nil_append, List.length_cons, List.length_nil, Nat.zero_add, Nat.reduceAdd] at e1 g2 g3 g4 g5
      unfold sA
      simp (maxSteps := 1000000) -implicitDefEqProofs [L40, newSt_nil, hn, e1, g2, g3, g4, g5, -packH, hP, hP0, hid, nlt_add, List.idxOf?, List.findIdx?_cons]
    · by_cases r1 : r = 1
      · subst r1
        obtain ⟨a5, s5, t, p5, q5, ht, e5⟩ := of_u x hx a4 s4 (by omega) (by omega) w4 (by decide)
        have g5 := use_of e5 h (S2 a4 s4 ⟨#[]⟩ ⟨#[]⟩ 0)
        have hz := w4_small t ht
        refine ⟨a5, s5, ⟨#[]⟩, t, 0, by omega, by omega, by decide, by omega, by decide, by decide, ?_⟩
        simp only [sQ, tr, ib, w4, w5, List.map_cons, List.map_nil, List.cons_append, List.nil_append, List.length_cons, List.length_nil, Nat.zero_add, Nat.reduceAdd] at e1 g2 g3 g4 g5
        unfold sA
        simp (maxSteps := 1000000) -implicitDefEqProofs [L40, newSt_nil, hn, e1, g2, g3, g4, g5, -packH, hP, hP0, hid, nlt_add, List.idxOf?, List.findIdx?_cons]
      · by_cases r2 : r = 2
        · subst r2
          obtain ⟨a5, s5, t, p5, q5, ht, e5⟩ := of_u x hx a4 s4 (by omega) (by omega) w5 (by decide)
          have g5 := use_of e5 h (S2 a4 s4 ⟨#[]⟩ ⟨#[]⟩ 0)
          have hz := w5_small t ht
          refine ⟨a5, s5, t, ⟨#[]⟩, 0, by omega, by omega, by omega, by decide, by decide, by decide, ?_⟩
          simp only [sQ, tr, ib, w4, w5, List.map_cons, List.map_nil, List.cons_append, List.nil_append, List.length_cons, List.length_nil, Nat.zero_add, Nat.reduceAdd] at e1 g2 g3 g4 g5
          unfold sA
          simp (maxSteps := 1000000) -implicitDefEqProofs [L40, newSt_nil, hn, e1, g2, g3, g4, g5, -packH, hP, hP0, hid, nlt_add, List.idxOf?, List.findIdx?_cons]
        · refine ⟨a4, s4, ⟨#[]⟩, ⟨#[]⟩, 0, by omega, by omega, by decide, by decide, by decide, by decide, ?_⟩
          simp only [sQ, tr, ib, w4, w5, List.map_cons, List.map_nil, List.cons_append, List.nil_append, List.length_cons, List.length_nil, Nat.zero_add, Nat.reduceAdd] at e1 g2 g3 g4
          unfold sA
          simp (maxSteps := 1000000) -implicitDefEqProofs [L40, newSt_nil, hn, e1, g2, g3, g4, r0, r1, r2, -packH, hP, hP0, hid, nlt_add, List.idxOf?, List.findIdx?_cons]
  · have hn := newSt_s ms (by omega) (fun t ht => by have := m2 t ht; omega)
    have tk : List.take ms.length (ms.map st) = ms.map st := List.take_of_length_le (by simp)
    rw [List.append_assoc, List.length_append] at e1
    cases ho : okTable ms with
    | false =>
      rw [ho, if_neg (show ¬ (false = true) by decide)] at hn
      have g2 := use_pick e2 h (S3 a1 s1 ms ⟨#[]⟩ ⟨#[]⟩ 0)
      have g3 := station_loop0 x H id a s h hs k a2 s2 ⟨#[]⟩ ⟨#[]⟩ 0
      obtain ⟨a4, s4, r, p4, q4, _, _, e4⟩ := pick_u x hx a2 s2 (by omega) (by omega) 48
      have g4 := use_pick e4 h (S2 a2 s2 ⟨#[]⟩ ⟨#[]⟩ 0)
      by_cases r0 : r = 0
      · subst r0
        obtain ⟨a5, s5, t, p5, q5, ht, e5⟩ := among_u x hx a4 s4 (by omega) (by omega) [-1, 1000, 1001] (by decide)
        have g5 := use_among e5 h (S2 a4 s4 ⟨#[]⟩ ⟨#[]⟩ 0)
        simp only [List.mem_cons, List.not_mem_nil, or_false] at ht
        refine ⟨a5, s5, ⟨#[]⟩, ⟨#[]⟩, t, by omega, by omega, by decide, by decide, by omega, by omega, ?_⟩
        simp only [sQ, tr, ib, w4, w5, List.map_cons, List.map_nil, List.cons_append, List.nil_append, List.length_cons, List.length_nil, Nat.zero_add, Nat.reduceAdd] at e1 g2 g3 g4 g5
        unfold sA
        simp (maxSteps := 1000000) -implicitDefEqProofs [L40, newSt_nil, hn, tk, e1, g2, g3, g4, g5, -packH, hP, hP0, hid, nlt_add, List.idxOf?, List.findIdx?_cons]
      · by_cases r1 : r = 1
        · subst r1
          obtain ⟨a5, s5, t, p5, q5, ht, e5⟩ := of_u x hx a4 s4 (by omega) (by omega) w4 (by decide)
          have g5 := use_of e5 h (S2 a4 s4 ⟨#[]⟩ ⟨#[]⟩ 0)
          have hz := w4_small t ht
          refine ⟨a5, s5, ⟨#[]⟩, t, 0, by omega, by omega, by decide, by omega, by decide, by decide, ?_⟩
          simp only [sQ, tr, ib, w4, w5, List.map_cons, List.map_nil, List.cons_append, List.nil_append, List.length_cons, List.length_nil, Nat.zero_add, Nat.reduceAdd] at e1 g2 g3 g4 g5
          unfold sA
          simp (maxSteps := 1000000) -implicitDefEqProofs [L40, newSt_nil, hn, tk, e1, g2, g3, g4, g5, -packH, hP, hP0, hid, nlt_add, List.idxOf?, List.findIdx?_cons]
        · by_cases r2 : r = 2
          · subst r2
            obtain ⟨a5, s5, t, p5, q5, ht, e5⟩ := of_u x hx a4 s4 (by omega) (by omega) w5 (by decide)
            have g5 := use_of e5 h (S2 a4 s4 ⟨#[]⟩ ⟨#[]⟩ 0)
            have hz := w5_small t ht
            refine ⟨a5, s5, t, ⟨#[]⟩, 0, by omega, by omega, by omega, by decide, by decide, by decide, ?_⟩
            simp only [sQ, tr, ib, w4, w5, List.map_cons, List.map_nil, List.cons_append, List.nil_append, List.length_cons, List.length_nil, Nat.zero_add, Nat.reduceAdd] at e1 g2 g3 g4 g5
            unfold sA
            simp (maxSteps := 1000000) -implicitDefEqProofs [L40, newSt_nil, hn, tk, e1, g2, g3, g4, g5, -packH, hP, hP0, hid, nlt_add, List.idxOf?, List.findIdx?_cons]
          · refine ⟨a4, s4, ⟨#[]⟩, ⟨#[]⟩, 0, by omega, by omega, by decide, by decide, by decide, by decide, ?_⟩
            simp only [sQ, tr, ib, w4, w5, List.map_cons, List.map_nil, List.cons_append, List.nil_append, List.length_cons, List.length_nil, Nat.zero_add, Nat.reduceAdd] at e1 g2 g3 g4
            unfold sA
            simp (maxSteps := 1000000) -implicitDefEqProofs [L40, newSt_nil, hn, tk, e1, g2, g3, g4, r0, r1, r2, -packH, hP, hP0, hid, nlt_add, List.idxOf?, List.findIdx?_cons]
    | true =>
      rw [ho, if_pos (show true = true from rfl)] at hn
      have hok := newSt_ok ho
      have hz := text_small ho
      generalize textL 0 ⟨#[]⟩ ms = C at *
      have g2 := use_pick e2 h (S3 a1 s1 ms C ⟨#[]⟩ 0)
      obtain ⟨a3, s3, c, d, n, p3, q3, hok3, g3⟩ := station_loop x hx H id a s h hs k a2 s2 C ⟨#[]⟩ 0 (by omega) (by omega) hok
      obtain ⟨_, y1, y2, y3, y4⟩ := okSt_small hok3
      obtain ⟨a4, s4, r, p4, q4, _, _, e4⟩ := pick_u x hx a3 s3 (by omega) (by omega) 48
      have g4 := use_pick e4 h (S2 a3 s3 c d n)
      by_cases r0 : r = 0
      · subst r0
        obtain ⟨a5, s5, t, p5, q5, ht, e5⟩ := among_u x hx a4 s4 (by omega) (by omega) [-1, 1000, 1001] (by decide)
        have g5 := use_among e5 h (S2 a4 s4 c d n)
        simp only [List.mem_cons, List.not_mem_nil, or_false] at ht
        refine ⟨a5, s5, c, d, t, by omega, by omega, by omega, by omega, by omega, by omega, ?_⟩
        simp only [sQ, tr, ib, w4, w5, List.map_cons, List.map_nil, List.cons_append, List.nil_append, List.length_cons, List.length_nil, Nat.zero_add, Nat.reduceAdd] at e1 g2 g3 g4 g5
        unfold sA
        simp (maxSteps := 1000000) -implicitDefEqProofs [L40, newSt_nil, hn, tk, e1, g2, g3, g4, g5, -packH, hP, hP0, hid, nlt_add, List.idxOf?, List.findIdx?_cons]
      · by_cases r1 : r = 1
        · subst r1
          obtain ⟨a5, s5, t, p5, q5, ht, e5⟩ := of_u x hx a4 s4 (by omega) (by omega) w4 (by decide)
          have g5 := use_of e5 h (S2 a4 s4 c d n)
          have hz := w4_small t ht
          refine ⟨a5, s5, c, t, n, by omega, by omega, by omega, by omega, by omega, by omega, ?_⟩
          simp only [sQ, tr, ib, w4, w5, List.map_cons, List.map_nil, List.cons_append, List.nil_append, List.length_cons, List.length_nil, Nat.zero_add, Nat.reduceAdd] at e1 g2 g3 g4 g5
          unfold sA
          simp (maxSteps := 1000000) -implicitDefEqProofs [L40, newSt_nil, hn, tk, e1, g2, g3, g4, g5, -packH, hP, hP0, hid, nlt_add, List.idxOf?, List.findIdx?_cons]
        · by_cases r2 : r = 2
          · subst r2
            obtain ⟨a5, s5, t, p5, q5, ht, e5⟩ := of_u x hx a4 s4 (by omega) (by omega) w5 (by decide)
            have g5 := use_of e5 h (S2 a4 s4 c d n)
            have hz := w5_small t ht
            refine ⟨a5, s5, t, d, n, by omega, by omega, by omega, by omega, by omega, by omega, ?_⟩
            simp only [sQ, tr, ib, w4, w5, List.map_cons, List.map_nil, List.cons_append, List.nil_append, List.length_cons, List.length_nil, Nat.zero_add, Nat.reduceAdd] at e1 g2 g3 g4 g5
            unfold sA
            simp (maxSteps := 1000000) -implicitDefEqProofs [L40, newSt_nil, hn, tk, e1, g2, g3, g4, g5, -packH, hP, hP0, hid, nlt_add, List.idxOf?, List.findIdx?_cons]
          · refine ⟨a4, s4, c, d, n, by omega, by omega, by omega, by omega, by omega, by omega, ?_⟩
            simp only [sQ, tr, ib, w4, w5, List.map_cons, List.map_nil, List.cons_append, List.nil_append, List.length_cons, List.length_nil, Nat.zero_add, Nat.reduceAdd] at e1 g2 g3 g4
            unfold sA
            simp (maxSteps := 1000000) -implicitDefEqProofs [L40, newSt_nil, hn, tk, e1, g2, g3, g4, r0, r1, r2, -packH, hP, hP0, hid, nlt_add, List.idxOf?, List.findIdx?_cons]
end Go.Proofs.YtjagdiilcphhfaaGreatDoor.Ev.Dr
