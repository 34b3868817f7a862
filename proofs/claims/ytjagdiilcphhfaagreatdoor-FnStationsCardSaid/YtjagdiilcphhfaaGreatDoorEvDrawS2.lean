/- The draw of a key of a station without a table. -/
import Derived.Test.YtjagdiilcphhfaaGreatDoorEvDrawS1
set_option linter.unusedVariables false
set_option linter.unusedSimpArgs false
set_option maxHeartbeats 2000000
namespace Go.Proofs.YtjagdiilcphhfaaGreatDoor.Ev.Dr
theorem stab_nil {x : List Int} {H : Hp} {id : Nat} {a s : Int} (h : hget H id = some (cu x a s)) (hs : Stable H) (c d : ByteArray) (n : Int) :
    (∀ a s : Int, Stable (H.set id (some (cu x a s)) ++ [some (sQ c d n), some (kQ 0 0 0 ⟨#[]⟩), some t0])) ∧ (∀ (k u v : Int) (m : ByteArray) (a s : Int), Stable (H.set id (some (cu x a s)) ++ [some (sQ c d n), some (kQ 0 0 0 ⟨#[]⟩), some t0, some (ib l9), some (kQ k u v m)])) ∧ (∀ (k u v : Int) (m : ByteArray) (a s : Int), TabM (H.set id (some (cu x a s)) ++ [some (sQ c d n), some (kQ 0 0 0 ⟨#[]⟩), some t0, some (ib l9), some (kQ k u v m)]) id [] (.v (.slice none 0 0))) := by
  refine ⟨fun a s => stable_leaves (stable_cu hs h a s) [sQ c d n, kQ 0 0 0 ⟨#[]⟩, t0] (by intro q hq; simp at hq; rcases hq with rfl | rfl | rfl <;> exact ⟨rfl, fun _ => rfl⟩), fun k u v m a s => stable_leaves (stable_cu hs h a s) [sQ c d n, kQ 0 0 0 ⟨#[]⟩, t0, ib l9, kQ k u v m] (by intro q hq; simp at hq; rcases hq with rfl | rfl | rfl | rfl | rfl <;> exact ⟨rfl, fun _ => rfl⟩), fun _ _ _ _ _ _ => .inl ⟨rfl, rfl⟩⟩
theorem key12_nil (x : List Int) (hx : okC x) (a s : Int) (h0 : 0 ≤ a) (h1 : a ≤ 100000000) (c d : ByteArray) (n : Int) (ht : ev E0 44 [sA c d n] [] = some (.tup [.agg [.v (.slice none 0 0)], bl false], [])) :
    ∃ (a' s' k u v : Int) (m : ByteArray), a ≤ a' ∧ a' ≤ a + 300 ∧ m.size ≤ 20 ∧ KeyU x c d n a s a' s' k u v m := by
  obtain ⟨a1, s1, kk, p1, q1, hk, e1⟩ := among_u x hx a s h0 (by omega) l9 (by decide)
  simp only [l9, List.mem_cons, List.not_mem_nil, or_false] at hk
  have hk7 : kk = 1 ∨ kk = 2 ∨ kk = 3 ∨ kk = 4 ∨ kk = 5 ∨ kk = 6 ∨ kk = 7 := by omega
  clear hk
  unfold sA at ht
  rcases hk7 with rfl | rfl | rfl | rfl | rfl | rfl | rfl
  · obtain ⟨a2, s2, u, p2, q2, e2⟩ := letter7_u x hx a1 s1 (by omega) (by omega) [] (by simp)
    obtain ⟨a3, s3, r, p3, q3, _, _, e3⟩ := pick_u x hx a2 s2 (by omega) (by omega) 40
    by_cases r0 : r = 0
    · subst r0
      obtain ⟨a4, s4, t, p4, q4, _, e4⟩ := among_u x hx a3 s3 (by omega) (by omega) [-1, 1, 9] (by decide)
      refine ⟨a4, s4, 1, u, t, ⟨#[]⟩, by omega, by omega, by decide, fun H id h hs => ?_⟩
      have hid := id_lt h
      have hP := pe_cu h hs
      have hP0 := pe_cu0 h hs
      have hse : H.set id (some (cu x a s)) = H := set_same h
      obtain ⟨S0, S1, T1⟩ := stab_nil h hs c d n
      have g1 := use_among e1 h (S0 a s)
      rw [hse] at g1
      have g2 := use_let7 e2 h (S1 1 0 0 ⟨#[]⟩ a1 s1) (T1 1 0 0 ⟨#[]⟩ a1 s1)
      have g3 := use_pick e3 h (S1 1 u 0 ⟨#[]⟩ a2 s2)
      have g4 := use_among e4 h (S1 1 u 0 ⟨#[]⟩ a3 s3)
      simp only [sQ, kQ, tr, tv, t0, ib, l9, List.map_cons, List.map_nil, List.cons_append, List.nil_append, List.length_cons, List.length_nil, Nat.zero_add, Nat.reduceAdd] at g1 g2 g3 g4
      rw [e41]
      unfold runF sA kA
      simp (maxSteps := 1000000) -implicitDefEqProofs [L41, ht, g1, g2, g3, g4, -packH, hP, hP0, hid, nlt_add, List.idxOf?, List.findIdx?_cons]
    · by_cases r1 : r = 1
      · subst r1
        obtain ⟨a4, s4, t, p4, q4, _, e4⟩ := among_u x hx a3 s3 (by omega) (by omega) [0, 8, -1] (by decide)
        refine ⟨a4, s4, t, u, 0, ⟨#[]⟩, by omega, by omega, by decide, fun H id h hs => ?_⟩
        have hid := id_lt h
        have hP := pe_cu h hs
        have hP0 := pe_cu0 h hs
        have hse : H.set id (some (cu x a s)) = H := set_same h
        obtain ⟨S0, S1, T1⟩ := stab_nil h hs c d n
        have g1 := use_among e1 h (S0 a s)
        rw [hse] at g1
        have g2 := use_let7 e2 h (S1 1 0 0 ⟨#[]⟩ a1 s1) (T1 1 0 0 ⟨#[]⟩ a1 s1)
        have g3 := use_pick e3 h (S1 1 u 0 ⟨#[]⟩ a2 s2)
        have g4 := use_among e4 h (S1 1 u 0 ⟨#[]⟩ a3 s3)
        simp only [sQ, kQ, tr, tv, t0, ib, l9, List.map_cons, List.map_nil, List.cons_append, List.nil_append, List.length_cons, List.length_nil, Nat.zero_add, Nat.reduceAdd] at g1 g2 g3 g4
        rw [e41]
        unfold runF sA kA
        simp (maxSteps := 1000000) -implicitDefEqProofs [L41, ht, g1, g2, g3, g4, -packH, hP, hP0, hid, nlt_add, List.idxOf?, List.findIdx?_cons]
      · by_cases r2 : r = 2
        · subst r2
          obtain ⟨a4, s4, t, p4, q4, zt, e4⟩ := marks_u x hx a3 s3 (by omega) (by omega) 2 (by omega)
          refine ⟨a4, s4, 1, u, 0, t, by omega, by omega, zt, fun H id h hs => ?_⟩
          have hid := id_lt h
          have hP := pe_cu h hs
          have hP0 := pe_cu0 h hs
          have hse : H.set id (some (cu x a s)) = H := set_same h
          obtain ⟨S0, S1, T1⟩ := stab_nil h hs c d n
          have g1 := use_among e1 h (S0 a s)
          rw [hse] at g1
          have g2 := use_let7 e2 h (S1 1 0 0 ⟨#[]⟩ a1 s1) (T1 1 0 0 ⟨#[]⟩ a1 s1)
          have g3 := use_pick e3 h (S1 1 u 0 ⟨#[]⟩ a2 s2)
          have g4 := use_marks e4 h (S1 1 u 0 ⟨#[]⟩ a3 s3)
          simp only [sQ, kQ, tr, tv, t0, ib, l9, List.map_cons, List.map_nil, List.cons_append, List.nil_append, List.length_cons, List.length_nil, Nat.zero_add, Nat.reduceAdd] at g1 g2 g3 g4
          rw [e41]
          unfold runF sA kA
          simp (maxSteps := 1000000) -implicitDefEqProofs [L41, ht, g1, g2, g3, g4, -packH, hP, hP0, hid, nlt_add, List.idxOf?, List.findIdx?_cons]
        · refine ⟨a3, s3, 1, u, 0, ⟨#[]⟩, by omega, by omega, by decide, fun H id h hs => ?_⟩
          have hid := id_lt h
          have hP := pe_cu h hs
          have hP0 := pe_cu0 h hs
          have hse : H.set id (some (cu x a s)) = H := set_same h
          obtain ⟨S0, S1, T1⟩ := stab_nil h hs c d n
          have g1 := use_among e1 h (S0 a s)
          rw [hse] at g1
          have g2 := use_let7 e2 h (S1 1 0 0 ⟨#[]⟩ a1 s1) (T1 1 0 0 ⟨#[]⟩ a1 s1)
          have g3 := use_pick e3 h (S1 1 u 0 ⟨#[]⟩ a2 s2)
          simp only [sQ, kQ, tr, tv, t0, ib, l9, List.map_cons, List.map_nil, List.cons_append, List.nil_append, List.length_cons, List.length_nil, Nat.zero_add, Nat.reduceAdd] at g1 g2 g3
          rw [e41]
          unfold runF sA kA
          simp (maxSteps := 1000000) -implicitDefEqProofs [L41, ht, g1, g2, g3, r0, r1, r2, -packH, hP, hP0, hid, nlt_add, List.idxOf?, List.findIdx?_cons]
  · obtain ⟨a2, s2, u, p2, q2, e2⟩ := letter7_u x hx a1 s1 (by omega) (by omega) [] (by simp)
    obtain ⟨a3, s3, r, p3, q3, _, _, e3⟩ := pick_u x hx a2 s2 (by omega) (by omega) 40
    by_cases r0 : r = 0
    · subst r0
      obtain ⟨a4, s4, t, p4, q4, _, e4⟩ := among_u x hx a3 s3 (by omega) (by omega) [-1, 1, 9] (by decide)
      refine ⟨a4, s4, 2, u, t, ⟨#[]⟩, by omega, by omega, by decide, fun H id h hs => ?_⟩
      have hid := id_lt h
      have hP := pe_cu h hs
      have hP0 := pe_cu0 h hs
      have hse : H.set id (some (cu x a s)) = H := set_same h
      obtain ⟨S0, S1, T1⟩ := stab_nil h hs c d n
      have g1 := use_among e1 h (S0 a s)
      rw [hse] at g1
      have g2 := use_let7 e2 h (S1 2 0 0 ⟨#[]⟩ a1 s1) (T1 2 0 0 ⟨#[]⟩ a1 s1)
      have g3 := use_pick e3 h (S1 2 u 0 ⟨#[]⟩ a2 s2)
      have g4 := use_among e4 h (S1 2 u 0 ⟨#[]⟩ a3 s3)
      simp only [sQ, kQ, tr, tv, t0, ib, l9, List.map_cons, List.map_nil, List.cons_append, List.nil_append, List.length_cons, List.length_nil, Nat.zero_add, Nat.reduceAdd] at g1 g2 g3 g4
      rw [e41]
      unfold runF sA kA
      simp (maxSteps := 1000000) -implicitDefEqProofs [L41, ht, g1, g2, g3, g4, -packH, hP, hP0, hid, nlt_add, List.idxOf?, List.findIdx?_cons]
    · by_cases r1 : r = 1
      · subst r1
        obtain ⟨a4, s4, t, p4, q4, _, e4⟩ := among_u x hx a3 s3 (by omega) (by omega) [0, 8, -1] (by decide)
        refine ⟨a4, s4, t, u, 0, ⟨#[]⟩, by omega, by omega, by decide, fun H id h hs => ?_⟩
        have hid := id_lt h
        have hP := pe_cu h hs
        have hP0 := pe_cu0 h hs
        have hse : H.set id (some (cu x a s)) = H := set_same h
        obtain ⟨S0, S1, T1⟩ := stab_nil h hs c d n
        have g1 := use_among e1 h (S0 a s)
        rw [hse] at g1
        have g2 := use_let7 e2 h (S1 2 0 0 ⟨#[]⟩ a1 s1) (T1 2 0 0 ⟨#[]⟩ a1 s1)
        have g3 := use_pick e3 h (S1 2 u 0 ⟨#[]⟩ a2 s2)
        have g4 := use_among e4 h (S1 2 u 0 ⟨#[]⟩ a3 s3)
        simp only [sQ, kQ, tr, tv, t0, ib, l9, List.map_cons, List.map_nil, List.cons_append, List.nil_append, List.length_cons, List.length_nil, Nat.zero_add, Nat.reduceAdd] at g1 g2 g3 g4
        rw [e41]
        unfold runF sA kA
        simp (maxSteps := 1000000) -implicitDefEqProofs [L41, ht, g1, g2, g3, g4, -packH, hP, hP0, hid, nlt_add, List.idxOf?, List.findIdx?_cons]
      · by_cases r2 : r = 2
        · subst r2
          obtain ⟨a4, s4, t, p4, q4, zt, e4⟩ := marks_u x hx a3 s3 (by omega) (by omega) 2 (by omega)
          refine ⟨a4, s4, 2, u, 0, t, by omega, by omega, zt, fun H id h hs => ?_⟩
          have hid := id_lt h
          have hP := pe_cu h hs
          have hP0 := pe_cu0 h hs
          have hse : H.set id (some (cu x a s)) = H := set_same h
          obtain ⟨S0, S1, T1⟩ := stab_nil h hs c d n
          have g1 := use_among e1 h (S0 a s)
          rw [hse] at g1
          have g2 := use_let7 e2 h (S1 2 0 0 ⟨#[]⟩ a1 s1) (T1 2 0 0 ⟨#[]⟩ a1 s1)
          have g3 := use_pick e3 h (S1 2 u 0 ⟨#[]⟩ a2 s2)
          have g4 := use_marks e4 h (S1 2 u 0 ⟨#[]⟩ a3 s3)
          simp only [sQ, kQ, tr, tv, t0, ib, l9, List.map_cons, List.map_nil, List.cons_append, List.nil_append, List.length_cons, List.length_nil, Nat.zero_add, Nat.reduceAdd] at g1 g2 g3 g4
          rw [e41]
          unfold runF sA kA
          simp (maxSteps := 1000000) -implicitDefEqProofs [L41, ht, g1, g2, g3, g4, -packH, hP, hP0, hid, nlt_add, List.idxOf?, List.findIdx?_cons]
        · refine ⟨a3, s3, 2, u, 0, ⟨#[]⟩, by omega, by omega, by decide, fun H id h hs => ?_⟩
          have hid := id_lt h
          have hP := pe_cu h hs
          have hP0 := pe_cu0 h hs
          have hse : H.set id (some (cu x a s)) = H := set_same h
          obtain ⟨S0, S1, T1⟩ := stab_nil h hs c d n
          have g1 := use_among e1 h (S0 a s)
          rw [hse] at g1
          have g2 := use_let7 e2 h (S1 2 0 0 ⟨#[]⟩ a1 s1) (T1 2 0 0 ⟨#[]⟩ a1 s1)
          have g3 := use_pick e3 h (S1 2 u 0 ⟨#[]⟩ a2 s2)
          simp only [sQ, kQ, tr, tv, t0, ib, l9, List.map_cons, List.map_nil, List.cons_append, List.nil_append, List.length_cons, List.length_nil, Nat.zero_add, Nat.reduceAdd] at g1 g2 g3
          rw [e41]
          unfold runF sA kA
          simp (maxSteps := 1000000) -implicitDefEqProofs [L41, ht, g1, g2, g3, r0, r1, r2, -packH, hP, hP0, hid, nlt_add, List.idxOf?, List.findIdx?_cons]
  · obtain ⟨a3, s3, r, p3, q3, _, _, e3⟩ := pick_u x hx a1 s1 (by omega) (by omega) 40
    by_cases r0 : r = 0
    · subst r0
      obtain ⟨a4, s4, t, p4, q4, _, e4⟩ := among_u x hx a3 s3 (by omega) (by omega) [-1, 1, 9] (by decide)
      refine ⟨a4, s4, 3, 0, t, ⟨#[]⟩, by omega, by omega, by decide, fun H id h hs => ?_⟩
      have hid := id_lt h
      have hP := pe_cu h hs
      have hP0 := pe_cu0 h hs
      have hse : H.set id (some (cu x a s)) = H := set_same h
      obtain ⟨S0, S1, T1⟩ := stab_nil h hs c d n
      have g1 := use_among e1 h (S0 a s)
      rw [hse] at g1
      have g3 := use_pick e3 h (S1 3 0 0 ⟨#[]⟩ a1 s1)
      have g4 := use_among e4 h (S1 3 0 0 ⟨#[]⟩ a3 s3)
      simp only [sQ, kQ, tr, tv, t0, ib, l9, List.map_cons, List.map_nil, List.cons_append, List.nil_append, List.length_cons, List.length_nil, Nat.zero_add, Nat.reduceAdd] at g1 g3 g4
      rw [e41]
      unfold runF sA kA
      simp (maxSteps := 1000000) -implicitDefEqProofs [L41, ht, g1, g3, g4, -packH, hP, hP0, hid, nlt_add, List.idxOf?, List.findIdx?_cons]
    · by_cases r1 : r = 1
      · subst r1
        obtain ⟨a4, s4, t, p4, q4, _, e4⟩ := among_u x hx a3 s3 (by omega) (by omega) [0, 8, -1] (by decide)
        refine ⟨a4, s4, t, 0, 0, ⟨#[]⟩, by omega, by omega, by decide, fun H id h hs => ?_⟩
        have hid := id_lt h
        have hP := pe_cu h hs
        have hP0 := pe_cu0 h hs
        have hse : H.set id (some (cu x a s)) = H := set_same h
        obtain ⟨S0, S1, T1⟩ := stab_nil h hs c d n
        have g1 := use_among e1 h (S0 a s)
        rw [hse] at g1
        have g3 := use_pick e3 h (S1 3 0 0 ⟨#[]⟩ a1 s1)
        have g4 := use_among e4 h (S1 3 0 0 ⟨#[]⟩ a3 s3)
        simp only [sQ, kQ, tr, tv, t0, ib, l9, List.map_cons, List.map_nil, List.cons_append, List.nil_append, List.length_cons, List.length_nil, Nat.zero_add, Nat.reduceAdd] at g1 g3 g4
        rw [e41]
        unfold runF sA kA
        simp (maxSteps := 1000000) -implicitDefEqProofs [L41, ht, g1, g3, g4, -packH, hP, hP0, hid, nlt_add, List.idxOf?, List.findIdx?_cons]
      · by_cases r2 : r = 2
        · subst r2
          obtain ⟨a4, s4, t, p4, q4, zt, e4⟩ := marks_u x hx a3 s3 (by omega) (by omega) 2 (by omega)
          refine ⟨a4, s4, 3, 0, 0, t, by omega, by omega, zt, fun H id h hs => ?_⟩
          have hid := id_lt h
          have hP := pe_cu h hs
          have hP0 := pe_cu0 h hs
          have hse : H.set id (some (cu x a s)) = H := set_same h
          obtain ⟨S0, S1, T1⟩ := stab_nil h hs c d n
          have g1 := use_among e1 h (S0 a s)
          rw [hse] at g1
          have g3 := use_pick e3 h (S1 3 0 0 ⟨#[]⟩ a1 s1)
          have g4 := use_marks e4 h (S1 3 0 0 ⟨#[]⟩ a3 s3)
          simp only [sQ, kQ, tr, tv, t0, ib, l9, List.map_cons, List.map_nil, List.cons_append, List.nil_append, List.length_cons, List.length_nil, Nat.zero_add, Nat.reduceAdd] at g1 g3 g4
          rw [e41]
          unfold runF sA kA
          simp (maxSteps := 1000000) -implicitDefEqProofs [L41, ht, g1, g3, g4, -packH, hP, hP0, hid, nlt_add, List.idxOf?, List.findIdx?_cons]
        · refine ⟨a3, s3, 3, 0, 0, ⟨#[]⟩, by omega, by omega, by decide, fun H id h hs => ?_⟩
          have hid := id_lt h
          have hP := pe_cu h hs
          have hP0 := pe_cu0 h hs
          have hse : H.set id (some (cu x a s)) = H := set_same h
          obtain ⟨S0, S1, T1⟩ := stab_nil h hs c d n
          have g1 := use_among e1 h (S0 a s)
          rw [hse] at g1
          have g3 := use_pick e3 h (S1 3 0 0 ⟨#[]⟩ a1 s1)
          simp only [sQ, kQ, tr, tv, t0, ib, l9, List.map_cons, List.map_nil, List.cons_append, List.nil_append, List.length_cons, List.length_nil, Nat.zero_add, Nat.reduceAdd] at g1 g3
          rw [e41]
          unfold runF sA kA
          simp (maxSteps := 1000000) -implicitDefEqProofs [L41, ht, g1, g3, r0, r1, r2, -packH, hP, hP0, hid, nlt_add, List.idxOf?, List.findIdx?_cons]
  · obtain ⟨a2, s2, m, p2, q2, zm, e2⟩ := marks_u x hx a1 s1 (by omega) (by omega) 5 (by omega)
    obtain ⟨a3, s3, r, p3, q3, _, _, e3⟩ := pick_u x hx a2 s2 (by omega) (by omega) 40
    by_cases r0 : r = 0
    · subst r0
      obtain ⟨a4, s4, t, p4, q4, _, e4⟩ := among_u x hx a3 s3 (by omega) (by omega) [-1, 1, 9] (by decide)
      refine ⟨a4, s4, 4, 0, t, m, by omega, by omega, zm, fun H id h hs => ?_⟩
      have hid := id_lt h
      have hP := pe_cu h hs
      have hP0 := pe_cu0 h hs
      have hse : H.set id (some (cu x a s)) = H := set_same h
      obtain ⟨S0, S1, T1⟩ := stab_nil h hs c d n
      have g1 := use_among e1 h (S0 a s)
      rw [hse] at g1
      have g2 := use_marks e2 h (S1 4 0 0 ⟨#[]⟩ a1 s1)
      have g3 := use_pick e3 h (S1 4 0 0 m a2 s2)
      have g4 := use_among e4 h (S1 4 0 0 m a3 s3)
      simp only [sQ, kQ, tr, tv, t0, ib, l9, List.map_cons, List.map_nil, List.cons_append, List.nil_append, List.length_cons, List.length_nil, Nat.zero_add, Nat.reduceAdd] at g1 g2 g3 g4
      rw [e41]
      unfold runF sA kA
      simp (maxSteps := 1000000) -implicitDefEqProofs [L41, ht, g1, g2, g3, g4, -packH, hP, hP0, hid, nlt_add, List.idxOf?, List.findIdx?_cons]
    · by_cases r1 : r = 1
      · subst r1
        obtain ⟨a4, s4, t, p4, q4, _, e4⟩ := among_u x hx a3 s3 (by omega) (by omega) [0, 8, -1] (by decide)
        refine ⟨a4, s4, t, 0, 0, m, by omega, by omega, zm, fun H id h hs => ?_⟩
        have hid := id_lt h
        have hP := pe_cu h hs
        have hP0 := pe_cu0 h hs
        have hse : H.set id (some (cu x a s)) = H := set_same h
        obtain ⟨S0, S1, T1⟩ := stab_nil h hs c d n
        have g1 := use_among e1 h (S0 a s)
        rw [hse] at g1
        have g2 := use_marks e2 h (S1 4 0 0 ⟨#[]⟩ a1 s1)
        have g3 := use_pick e3 h (S1 4 0 0 m a2 s2)
        have g4 := use_among e4 h (S1 4 0 0 m a3 s3)
        simp only [sQ, kQ, tr, tv, t0, ib, l9, List.map_cons, List.map_nil, List.cons_append, List.nil_append, List.length_cons, List.length_nil, Nat.zero_add, Nat.reduceAdd] at g1 g2 g3 g4
        rw [e41]
        unfold runF sA kA
        simp (maxSteps := 1000000) -implicitDefEqProofs [L41, ht, g1, g2, g3, g4, -packH, hP, hP0, hid, nlt_add, List.idxOf?, List.findIdx?_cons]
      · by_cases r2 : r = 2
        · subst r2
          obtain ⟨a4, s4, t, p4, q4, zt, e4⟩ := marks_u x hx a3 s3 (by omega) (by omega) 2 (by omega)
          refine ⟨a4, s4, 4, 0, 0, t, by omega, by omega, zt, fun H id h hs => ?_⟩
          have hid := id_lt h
          have hP := pe_cu h hs
          have hP0 := pe_cu0 h hs
          have hse : H.set id (some (cu x a s)) = H := set_same h
          obtain ⟨S0, S1, T1⟩ := stab_nil h hs c d n
          have g1 := use_among e1 h (S0 a s)
          rw [hse] at g1
          have g2 := use_marks e2 h (S1 4 0 0 ⟨#[]⟩ a1 s1)
          have g3 := use_pick e3 h (S1 4 0 0 m a2 s2)
          have g4 := use_marks e4 h (S1 4 0 0 m a3 s3)
          simp only [sQ, kQ, tr, tv, t0, ib, l9, List.map_cons, List.map_nil, List.cons_append, List.nil_append, List.length_cons, List.length_nil, Nat.zero_add, Nat.reduceAdd] at g1 g2 g3 g4
          rw [e41]
          unfold runF sA kA
          simp (maxSteps := 1000000) -implicitDefEqProofs [L41, ht, g1, g2, g3, g4, -packH, hP, hP0, hid, nlt_add, List.idxOf?, List.findIdx?_cons]
        · refine ⟨a3, s3, 4, 0, 0, m, by omega, by omega, zm, fun H id h hs => ?_⟩
          have hid := id_lt h
          have hP := pe_cu h hs
          have hP0 := pe_cu0 h hs
          have hse : H.set id (some (cu x a s)) = H := set_same h
          obtain ⟨S0, S1, T1⟩ := stab_nil h hs c d n
          have g1 := use_among e1 h (S0 a s)
          rw [hse] at g1
          have g2 := use_marks e2 h (S1 4 0 0 ⟨#[]⟩ a1 s1)
          have g3 := use_pick e3 h (S1 4 0 0 m a2 s2)
          simp only [sQ, kQ, tr, tv, t0, ib, l9, List.map_cons, List.map_nil, List.cons_append, List.nil_append, List.length_cons, List.length_nil, Nat.zero_add, Nat.reduceAdd] at g1 g2 g3
          rw [e41]
          unfold runF sA kA
          simp (maxSteps := 1000000) -implicitDefEqProofs [L41, ht, g1, g2, g3, r0, r1, r2, -packH, hP, hP0, hid, nlt_add, List.idxOf?, List.findIdx?_cons]
  · obtain ⟨a20, s20, u, p20, q20, e20⟩ := letter7_u x hx a1 s1 (by omega) (by omega) [] (by simp)
    obtain ⟨a2, s2, v, p2, q2, e2⟩ := letter7_u x hx a20 s20 (by omega) (by omega) [] (by simp)
    obtain ⟨a3, s3, r, p3, q3, _, _, e3⟩ := pick_u x hx a2 s2 (by omega) (by omega) 40
    by_cases r0 : r = 0
    · subst r0
      obtain ⟨a4, s4, t, p4, q4, _, e4⟩ := among_u x hx a3 s3 (by omega) (by omega) [-1, 1, 9] (by decide)
      refine ⟨a4, s4, 5, u, t, ⟨#[]⟩, by omega, by omega, by decide, fun H id h hs => ?_⟩
      have hid := id_lt h
      have hP := pe_cu h hs
      have hP0 := pe_cu0 h hs
      have hse : H.set id (some (cu x a s)) = H := set_same h
      obtain ⟨S0, S1, T1⟩ := stab_nil h hs c d n
      have g1 := use_among e1 h (S0 a s)
      rw [hse] at g1
      have g20 := use_let7 e20 h (S1 5 0 0 ⟨#[]⟩ a1 s1) (T1 5 0 0 ⟨#[]⟩ a1 s1)
      have g2 := use_let7 e2 h (S1 5 u 0 ⟨#[]⟩ a20 s20) (T1 5 u 0 ⟨#[]⟩ a20 s20)
      have g3 := use_pick e3 h (S1 5 u v ⟨#[]⟩ a2 s2)
      have g4 := use_among e4 h (S1 5 u v ⟨#[]⟩ a3 s3)
      simp only [sQ, kQ, tr, tv, t0, ib, l9, List.map_cons, List.map_nil, List.cons_append, List.nil_append, List.length_cons, List.length_nil, Nat.zero_add, Nat.reduceAdd] at g1 g20 g2 g3 g4
      rw [e41]
      unfold runF sA kA
      simp (maxSteps := 1000000) -implicitDefEqProofs [L41, ht, g1, g20, g2, g3, g4, -packH, hP, hP0, hid, nlt_add, List.idxOf?, List.findIdx?_cons]
    · by_cases r1 : r = 1
      · subst r1
        obtain ⟨a4, s4, t, p4, q4, _, e4⟩ := among_u x hx a3 s3 (by omega) (by omega) [0, 8, -1] (by decide)
        refine ⟨a4, s4, t, u, v, ⟨#[]⟩, by omega, by omega, by decide, fun H id h hs => ?_⟩
        have hid := id_lt h
        have hP := pe_cu h hs
        have hP0 := pe_cu0 h hs
        have hse : H.set id (some (cu x a s)) = H := set_same h
        obtain ⟨S0, S1, T1⟩ := stab_nil h hs c d n
        have g1 := use_among e1 h (S0 a s)
        rw [hse] at g1
        have g20 := use_let7 e20 h (S1 5 0 0 ⟨#[]⟩ a1 s1) (T1 5 0 0 ⟨#[]⟩ a1 s1)
        have g2 := use_let7 e2 h (S1 5 u 0 ⟨#[]⟩ a20 s20) (T1 5 u 0 ⟨#[]⟩ a20 s20)
        have g3 := use_pick e3 h (S1 5 u v ⟨#[]⟩ a2 s2)
        have g4 := use_among e4 h (S1 5 u v ⟨#[]⟩ a3 s3)
        simp only [sQ, kQ, tr, tv, t0, ib, l9, List.map_cons, List.map_nil, List.cons_append, List.nil_append, List.length_cons, List.length_nil, Nat.zero_add, Nat.reduceAdd] at g1 g20 g2 g3 g4
        rw [e41]
        unfold runF sA kA
        simp (maxSteps := 1000000) -implicitDefEqProofs [L41, ht, g1, g20, g2, g3, g4, -packH, hP, hP0, hid, nlt_add, List.idxOf?, List.findIdx?_cons]
      · by_cases r2 : r = 2
        · subst r2
          obtain ⟨a4, s4, t, p4, q4, zt, e4⟩ := marks_u x hx a3 s3 (by omega) (by omega) 2 (by omega)
          refine ⟨a4, s4, 5, u, v, t, by omega, by omega, zt, fun H id h hs => ?_⟩
          have hid := id_lt h
          have hP := pe_cu h hs
          have hP0 := pe_cu0 h hs
          have hse : H.set id (some (cu x a s)) = H := set_same h
          obtain ⟨S0, S1, T1⟩ := stab_nil h hs c d n
          have g1 := use_among e1 h (S0 a s)
          rw [hse] at g1
          have g20 := use_let7 e20 h (S1 5 0 0 ⟨#[]⟩ a1 s1) (T1 5 0 0 ⟨#[]⟩ a1 s1)
          have g2 := use_let7 e2 h (S1 5 u 0 ⟨#[]⟩ a20 s20) (T1 5 u 0 ⟨#[]⟩ a20 s20)
          have g3 := use_pick e3 h (S1 5 u v ⟨#[]⟩ a2 s2)
          have g4 := use_marks e4 h (S1 5 u v ⟨#[]⟩ a3 s3)
          simp only [sQ, kQ, tr, tv, t0, ib, l9, List.map_cons, List.map_nil, List.cons_append, List.nil_append, List.length_cons, List.length_nil, Nat.zero_add, Nat.reduceAdd] at g1 g20 g2 g3 g4
          rw [e41]
          unfold runF sA kA
          simp (maxSteps := 1000000) -implicitDefEqProofs [L41, ht, g1, g20, g2, g3, g4, -packH, hP, hP0, hid, nlt_add, List.idxOf?, List.findIdx?_cons]
        · refine ⟨a3, s3, 5, u, v, ⟨#[]⟩, by omega, by omega, by decide, fun H id h hs => ?_⟩
          have hid := id_lt h
          have hP := pe_cu h hs
          have hP0 := pe_cu0 h hs
          have hse : H.set id (some (cu x a s)) = H := set_same h
          obtain ⟨S0, S1, T1⟩ := stab_nil h hs c d n
          have g1 := use_among e1 h (S0 a s)
          rw [hse] at g1
          have g20 := use_let7 e20 h (S1 5 0 0 ⟨#[]⟩ a1 s1) (T1 5 0 0 ⟨#[]⟩ a1 s1)
          have g2 := use_let7 e2 h (S1 5 u 0 ⟨#[]⟩ a20 s20) (T1 5 u 0 ⟨#[]⟩ a20 s20)
          have g3 := use_pick e3 h (S1 5 u v ⟨#[]⟩ a2 s2)
          simp only [sQ, kQ, tr, tv, t0, ib, l9, List.map_cons, List.map_nil, List.cons_append, List.nil_append, List.length_cons, List.length_nil, Nat.zero_add, Nat.reduceAdd] at g1 g20 g2 g3
          rw [e41]
          unfold runF sA kA
          simp (maxSteps := 1000000) -implicitDefEqProofs [L41, ht, g1, g20, g2, g3, r0, r1, r2, -packH, hP, hP0, hid, nlt_add, List.idxOf?, List.findIdx?_cons]
  · obtain ⟨a3, s3, r, p3, q3, _, _, e3⟩ := pick_u x hx a1 s1 (by omega) (by omega) 40
    by_cases r0 : r = 0
    · subst r0
      obtain ⟨a4, s4, t, p4, q4, _, e4⟩ := among_u x hx a3 s3 (by omega) (by omega) [-1, 1, 9] (by decide)
      refine ⟨a4, s4, 6, 0, t, ⟨#[]⟩, by omega, by omega, by decide, fun H id h hs => ?_⟩
      have hid := id_lt h
      have hP := pe_cu h hs
      have hP0 := pe_cu0 h hs
      have hse : H.set id (some (cu x a s)) = H := set_same h
      obtain ⟨S0, S1, T1⟩ := stab_nil h hs c d n
      have g1 := use_among e1 h (S0 a s)
      rw [hse] at g1
      have g3 := use_pick e3 h (S1 6 0 0 ⟨#[]⟩ a1 s1)
      have g4 := use_among e4 h (S1 6 0 0 ⟨#[]⟩ a3 s3)
      simp only [sQ, kQ, tr, tv, t0, ib, l9, List.map_cons, List.map_nil, List.cons_append, List.nil_append, List.length_cons, List.length_nil, Nat.zero_add, Nat.reduceAdd] at g1 g3 g4
      rw [e41]
      unfold runF sA kA
      simp (maxSteps := 1000000) -implicitDefEqProofs [L41, ht, g1, g3, g4, -packH, hP, hP0, hid, nlt_add, List.idxOf?, List.findIdx?_cons]
    · by_cases r1 : r = 1
      · subst r1
        obtain ⟨a4, s4, t, p4, q4, _, e4⟩ := among_u x hx a3 s3 (by omega) (by omega) [0, 8, -1] (by decide)
        refine ⟨a4, s4, t, 0, 0, ⟨#[]⟩, by omega, by omega, by decide, fun H id h hs => ?_⟩
        have hid := id_lt h
        have hP := pe_cu h hs
        have hP0 := pe_cu0 h hs
        have hse : H.set id (some (cu x a s)) = H := set_same h
        obtain ⟨S0, S1, T1⟩ := stab_nil h hs c d n
        have g1 := use_among e1 h (S0 a s)
        rw [hse] at g1
        have g3 := use_pick e3 h (S1 6 0 0 ⟨#[]⟩ a1 s1)
        have g4 := use_among e4 h (S1 6 0 0 ⟨#[]⟩ a3 s3)
        simp only [sQ, kQ, tr, tv, t0, ib, l9, List.map_cons, List.map_nil, List.cons_append, List.nil_append, List.length_cons, List.length_nil, Nat.zero_add, Nat.reduceAdd] at g1 g3 g4
        rw [e41]
        unfold runF sA kA
        simp (maxSteps := 1000000) -implicitDefEqProofs [L41, ht, g1, g3, g4, -packH, hP, hP0, hid, nlt_add, List.idxOf?, List.findIdx?_cons]
      · by_cases r2 : r = 2
        · subst r2
          obtain ⟨a4, s4, t, p4, q4, zt, e4⟩ := marks_u x hx a3 s3 (by omega) (by omega) 2 (by omega)
          refine ⟨a4, s4, 6, 0, 0, t, by omega, by omega, zt, fun H id h hs => ?_⟩
          have hid := id_lt h
          have hP := pe_cu h hs
          have hP0 := pe_cu0 h hs
          have hse : H.set id (some (cu x a s)) = H := set_same h
          obtain ⟨S0, S1, T1⟩ := stab_nil h hs c d n
          have g1 := use_among e1 h (S0 a s)
          rw [hse] at g1
          have g3 := use_pick e3 h (S1 6 0 0 ⟨#[]⟩ a1 s1)
          have g4 := use_marks e4 h (S1 6 0 0 ⟨#[]⟩ a3 s3)
          simp only [sQ, kQ, tr, tv, t0, ib, l9, List.map_cons, List.map_nil, List.cons_append, List.nil_append, List.length_cons, List.length_nil, Nat.zero_add, Nat.reduceAdd] at g1 g3 g4
          rw [e41]
          unfold runF sA kA
          simp (maxSteps := 1000000) -implicitDefEqProofs [L41, ht, g1, g3, g4, -packH, hP, hP0, hid, nlt_add, List.idxOf?, List.findIdx?_cons]
        · refine ⟨a3, s3, 6, 0, 0, ⟨#[]⟩, by omega, by omega, by decide, fun H id h hs => ?_⟩
          have hid := id_lt h
          have hP := pe_cu h hs
          have hP0 := pe_cu0 h hs
          have hse : H.set id (some (cu x a s)) = H := set_same h
          obtain ⟨S0, S1, T1⟩ := stab_nil h hs c d n
          have g1 := use_among e1 h (S0 a s)
          rw [hse] at g1
          have g3 := use_pick e3 h (S1 6 0 0 ⟨#[]⟩ a1 s1)
          simp only [sQ, kQ, tr, tv, t0, ib, l9, List.map_cons, List.map_nil, List.cons_append, List.nil_append, List.length_cons, List.length_nil, Nat.zero_add, Nat.reduceAdd] at g1 g3
          rw [e41]
          unfold runF sA kA
          simp (maxSteps := 1000000) -implicitDefEqProofs [L41, ht, g1, g3, r0, r1, r2, -packH, hP, hP0, hid, nlt_add, List.idxOf?, List.findIdx?_cons]
  · obtain ⟨a3, s3, r, p3, q3, _, _, e3⟩ := pick_u x hx a1 s1 (by omega) (by omega) 40
    by_cases r0 : r = 0
    · subst r0
      obtain ⟨a4, s4, t, p4, q4, _, e4⟩ := among_u x hx a3 s3 (by omega) (by omega) [-1, 1, 9] (by decide)
      refine ⟨a4, s4, 7, 0, t, ⟨#[]⟩, by omega, by omega, by decide, fun H id h hs => ?_⟩
      have hid := id_lt h
      have hP := pe_cu h hs
      have hP0 := pe_cu0 h hs
      have hse : H.set id (some (cu x a s)) = H := set_same h
      obtain ⟨S0, S1, T1⟩ := stab_nil h hs c d n
      have g1 := use_among e1 h (S0 a s)
      rw [hse] at g1
      have g3 := use_pick e3 h (S1 7 0 0 ⟨#[]⟩ a1 s1)
      have g4 := use_among e4 h (S1 7 0 0 ⟨#[]⟩ a3 s3)
      simp only [sQ, kQ, tr, tv, t0, ib, l9, List.map_cons, List.map_nil, List.cons_append, List.nil_append, List.length_cons, List.length_nil, Nat.zero_add, Nat.reduceAdd] at g1 g3 g4
      rw [e41]
      unfold runF sA kA
      simp (maxSteps := 1000000) -implicitDefEqProofs [L41, ht, g1, g3, g4, -packH, hP, hP0, hid, nlt_add, List.idxOf?, List.findIdx?_cons]
    · by_cases r1 : r = 1
      · subst r1
        obtain ⟨a4, s4, t, p4, q4, _, e4⟩ := among_u x hx a3 s3 (by omega) (by omega) [0, 8, -1] (by decide)
        refine ⟨a4, s4, t, 0, 0, ⟨#[]⟩, by omega, by omega, by decide, fun H id h hs => ?_⟩
        have hid := id_lt h
        have hP := pe_cu h hs
        have hP0 := pe_cu0 h hs
        have hse : H.set id (some (cu x a s)) = H := set_same h
        obtain ⟨S0, S1, T1⟩ := stab_nil h hs c d n
        have g1 := use_among e1 h (S0 a s)
        rw [hse] at g1
        have g3 := use_pick e3 h (S1 7 0 0 ⟨#[]⟩ a1 s1)
        have g4 := use_among e4 h (S1 7 0 0 ⟨#[]⟩ a3 s3)
        simp only [sQ, kQ, tr, tv, t0, ib, l9, List.map_cons, List.map_nil, List.cons_append, List.nil_append, List.length_cons, List.length_nil, Nat.zero_add, Nat.reduceAdd] at g1 g3 g4
        rw [e41]
        unfold runF sA kA
        simp (maxSteps := 1000000) -implicitDefEqProofs [L41, ht, g1, g3, g4, -packH, hP, hP0, hid, nlt_add, List.idxOf?, List.findIdx?_cons]
      · by_cases r2 : r = 2
        · subst r2
          obtain ⟨a4, s4, t, p4, q4, zt, e4⟩ := marks_u x hx a3 s3 (by omega) (by omega) 2 (by omega)
          refine ⟨a4, s4, 7, 0, 0, t, by omega, by omega, zt, fun H id h hs => ?_⟩
          have hid := id_lt h
          have hP := pe_cu h hs
          have hP0 := pe_cu0 h hs
          have hse : H.set id (some (cu x a s)) = H := set_same h
          obtain ⟨S0, S1, T1⟩ := stab_nil h hs c d n
          have g1 := use_among e1 h (S0 a s)
          rw [hse] at g1
          have g3 := use_pick e3 h (S1 7 0 0 ⟨#[]⟩ a1 s1)
          have g4 := use_marks e4 h (S1 7 0 0 ⟨#[]⟩ a3 s3)
          simp only [sQ, kQ, tr, tv, t0, ib, l9, List.map_cons, List.map_nil, List.cons_append, List.nil_append, List.length_cons, List.length_nil, Nat.zero_add, Nat.reduceAdd] at g1 g3 g4
          rw [e41]
          unfold runF sA kA
          simp (maxSteps := 1000000) -implicitDefEqProofs [L41, ht, g1, g3, g4, -packH, hP, hP0, hid, nlt_add, List.idxOf?, List.findIdx?_cons]
        · refine ⟨a3, s3, 7, 0, 0, ⟨#[]⟩, by omega, by omega, by decide, fun H id h hs => ?_⟩
          have hid := id_lt h
          have hP := pe_cu h hs
          have hP0 := pe_cu0 h hs
          have hse : H.set id (some (cu x a s)) = H := set_same h
          obtain ⟨S0, S1, T1⟩ := stab_nil h hs c d n
          have g1 := use_among e1 h (S0 a s)
          rw [hse] at g1
          have g3 := use_pick e3 h (S1 7 0 0 ⟨#[]⟩ a1 s1)
          simp only [sQ, kQ, tr, tv, t0, ib, l9, List.map_cons, List.map_nil, List.cons_append, List.nil_append, List.length_cons, List.length_nil, Nat.zero_add, Nat.reduceAdd] at g1 g3
          rw [e41]
          unfold runF sA kA
          simp (maxSteps := 1000000) -implicitDefEqProofs [L41, ht, g1, g3, r0, r1, r2, -packH, hP, hP0, hid, nlt_add, List.idxOf?, List.findIdx?_cons]
end Go.Proofs.YtjagdiilcphhfaaGreatDoor.Ev.Dr
