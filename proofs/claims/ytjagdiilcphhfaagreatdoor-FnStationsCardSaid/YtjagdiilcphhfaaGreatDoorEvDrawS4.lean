/- The draw of a station: a table that may be free, the keys pressed. -/
import Derived.Test.YtjagdiilcphhfaaGreatDoorEvDrawS2
import Derived.Test.YtjagdiilcphhfaaGreatDoorEvDrawS3
import Derived.Test.YtjagdiilcphhfaaGreatDoorEvKe6
set_option linter.unusedVariables false
set_option linter.unusedSimpArgs false
set_option maxHeartbeats 2000000
namespace Go.Proofs.YtjagdiilcphhfaaGreatDoor.Ev.Dr
theorem key12_u (x : List Int) (hx : okC x) (a s : Int) (h0 : 0 ≤ a) (h1 : a ≤ 100000000) (c d : ByteArray) (n : Int) (hc : c.size ≤ 1073741824) :
    ∃ (a' s' k u v : Int) (m : ByteArray), a ≤ a' ∧ a' ≤ a + 300 ∧ m.size ≤ 20 ∧ KeyU x c d n a s a' s' k u v m := by
  cases ho : okCode c with
  | false => exact key12_nil x hx a s h0 h1 c d n (tab_none c d n hc ho)
  | true =>
    have hl := okTable_len (show okTable (partsB 44 c) = true from ho)
    exact key12_tab x hx a s h0 h1 c d n (partsB 44 c) (by omega) (tab_s12 c d n hc ho)
def frees : List ByteArray := [⟨#[46, 44, 45, 46, 44, 45, 45]⟩, ⟨#[46, 46, 44, 46, 45, 44, 45]⟩, ⟨#[46, 44, 45, 46]⟩, ⟨#[46, 45, 44, 45, 46, 44, 46, 46, 45, 44, 45]⟩, ⟨#[46, 46, 44, 46, 46, 45, 44, 45, 45, 46, 44, 45]⟩, ⟨#[46, 44, 46, 45, 44, 45, 46]⟩, ⟨#[46, 45, 44, 46, 44, 45, 45]⟩, ⟨#[45, 44, 45, 46, 46, 44, 46, 45, 45]⟩]
theorem frees_parts : ∀ t ∈ frees, (partsB 44 t).length ≤ 30 ∧ (∀ u ∈ partsB 44 t, u.size ≤ 20) ∧ t.size ≤ 20 := by
  intro t ht
  simp only [frees, List.mem_cons, List.not_mem_nil, or_false] at ht
  rcases ht with h | h | h | h | h | h | h | h <;> subst h <;> refine ⟨by decide, by decide, by decide⟩
theorem free_g (x : List Int) (hx : okC x) (H : Hp) (id : Nat) (a s : Int) (h : hget H id = some (cu x a s)) (hs : Stable H) (h0 : 0 ≤ a) (h1 : a ≤ 1000000) :
    ∃ (a' s' : Int), a ≤ a' ∧ a' ≤ a + 3000 ∧ (ev E0 68 [.ptr id 0 0] H = some (.agg [.v (.slice none 0 0)], H.set id (some (cu x a' s'))) ∨
      ∃ ms : List ByteArray, ms.length ≤ 30 ∧ (∀ t ∈ ms, t.size ≤ 20) ∧ ev E0 68 [.ptr id 0 0] H = some (.agg [.sl H.length 0 ms.length], H.set id (some (cu x a' s')) ++ [some (tr ms)])) := by
  have hid := id_lt h
  have hP := pe_cu h hs
  have hP0 := pe_cu0 h hs
  have hse : H.set id (some (cu x a s)) = H := set_same h
  have S0 : ∀ a s : Int, Stable (H.set id (some (cu x a s)) ++ [some t0]) := fun a s => stable_leaf (stable_cu hs h a s) (b := t0) ⟨rfl, fun _ => rfl⟩
  have S1 : ∀ a s : Int, Stable (H.set id (some (cu x a s)) ++ [some t0, some (tr frees)]) := fun a s => by
    have := stable_leaf (S0 a s) (leaf_tr frees)
    rwa [List.append_assoc] at this
  obtain ⟨a1, s1, b, p1, q1, e1⟩ := one_u x hx a s h0 (by omega) 3
  have g1 : ev E0 89 [.ptr id 0 0, i64 3] (H ++ [some t0, some (tr frees)]) = some (bl b, H.set id (some (cu x a1 s1)) ++ [some t0, some (tr frees)]) := by
    have := S1 a s
    rw [hse] at this
    rw [e1 _ id (hget_app h) this, set_app h]
  cases b with
  | true =>
    obtain ⟨a2, s2, t, p2, q2, ht, e2⟩ := of_u x hx a1 s1 (by omega) (by omega) frees (by decide)
    have g2 := use_of e2 h (S0 a1 s1)
    obtain ⟨f1, f2, f3⟩ := frees_parts t ht
    have e3 := split_s t (by omega) 44
    rw [show ((44 : UInt8).toNat : Int) = 44 from rfl] at e3
    refine ⟨a2, s2, by omega, by omega, .inr ⟨partsB 44 t, f1, f2, ?_⟩⟩
    generalize partsB 44 t = ps at *
    simp only [t0, tr, frees, List.map_cons, List.map_nil, List.cons_append, List.nil_append, List.length_cons, List.length_nil, Nat.zero_add, Nat.reduceAdd] at g1 g2 ⊢
    rw [e68]
    unfold runF
    simp (maxSteps := 1000000) -implicitDefEqProofs [L68, g1, g2, e3, -packH, hP, hP0, hid, nlt_add, List.idxOf?, List.findIdx?_cons]
  | false =>
    have hg : hget (H.set id (some (cu x a1 s1))) id = some (cu x a1 s1) := hget_cu hid
    obtain ⟨a2, s2, p2, q2, e2⟩ := table_ok x hx (H.set id (some (cu x a1 s1)) ++ [some t0, some (tr frees)]) id a1 s1 (hget_app hg) (S1 a1 s1) (by omega) (by omega)
    refine ⟨a2, s2, by omega, by omega, ?_⟩
    rw [set_app hg, List.set_set] at e2
    rcases e2 with e2 | ⟨ms, m1, m2, e2⟩
    · left
      simp only [t0, tr, frees, List.map_cons, List.map_nil] at g1 e2
      rw [e68]
      unfold runF
      simp (maxSteps := 1000000) -implicitDefEqProofs [L68, g1, e2, -packH, hP, hP0, hid, nlt_add, List.idxOf?, List.findIdx?_cons]
    · refine .inr ⟨ms, m1, m2, ?_⟩
      rw [List.append_assoc, List.length_append, List.length_set] at e2
      simp only [t0, tr, frees, List.map_cons, List.map_nil, List.cons_append, List.nil_append, List.length_cons, List.length_nil, Nat.zero_add, Nat.reduceAdd] at g1 e2 ⊢
      rw [e68]
      unfold runF
      simp (maxSteps := 1000000) -implicitDefEqProofs [L68, g1, e2, -packH, hP, hP0, hid, nlt_add, List.idxOf?, List.findIdx?_cons]
theorem newSt_s (ms : List ByteArray) (hm : ms.length ≤ 1000) (hz : ∀ t ∈ ms, t.size ≤ 1000) : ev E0 21 [.agg [.lst 1 (ms.map st)]] [] = some (.tup [.agg [st (if okTable ms = true then textL 0 ⟨#[]⟩ ms else ⟨#[]⟩), st ⟨#[]⟩, i64 0], bl (okTable ms)], []) := by
  have t1 := table_s ms (by omega) (fun x hx => by have := hz x hx; omega)
  have hL := lensT_le ms hz
  have hL2 : ms.length * (1000 + 1) ≤ 1000 * 1001 := Nat.mul_le_mul_right 1001 hm
  have t2 := text_s ms (by omega) (by omega)
  rw [e21]
  unfold runF
  cases h1 : okTable ms with
  | false =>
    rw [h1] at t1
    rw [if_neg (show ¬ (false = true) by decide)]
    simp -implicitDefEqProofs [L21, t1]
  | true =>
    rw [h1] at t1
    rw [if_pos (show true = true from rfl)]
    simp -implicitDefEqProofs [L21, t1, t2]
theorem newSt_nil : ev E0 21 [.agg [.v (.slice none 0 0)]] [] = some (.tup [.agg [st ⟨#[]⟩, st ⟨#[]⟩, i64 0], bl false], []) := by
  have tn := table_nil
  rw [e21]
  unfold runF
  simp -implicitDefEqProofs [L21, tn]
theorem newSt_ok {ms : List ByteArray} (h : okTable ms = true) : okSt (textL 0 ⟨#[]⟩ ms) ⟨#[]⟩ 0 = true := by
  unfold okSt okCode
  rw [text_parts h, h]
  rfl
theorem station_loop (x : List Int) (hx : okC x) (H : Hp) (id : Nat) (a0 s0 : Int) (h : hget H id = some (cu x a0 s0)) (hs : Stable H) : ∀ (k : Nat) (a s : Int) (c d : ByteArray) (n : Int), 0 ≤ a → a + 400 * k ≤ 10000000 → okSt c d n = true →
    ∃ (a' s' : Int) (c' d' : ByteArray) (n' : Int), a ≤ a' ∧ a' ≤ a + 400 * k ∧ okSt c' d' n' = true ∧
    packX H.length [0, 2, 3] (loopW (bd E0 (ev E0) loopW H.length [0, 2, 3, 4, 5] L40b1) ⟨[(0, .ptr id 0 0), (2, .ptr H.length 0 0), (3, .ptr (H.length + 1) 0 0), (4, bl true), (5, i64 k)], H.set id (some (cu x a s)) ++ [some (sQ ⟨#[]⟩ ⟨#[]⟩ 0), some (sQ c d n)]⟩) =
      some (.ext 0, ⟨[(0, .ptr id 0 0), (2, .ptr H.length 0 0), (3, .ptr (H.length + 1) 0 0)], H.set id (some (cu x a' s')) ++ [some (sQ ⟨#[]⟩ ⟨#[]⟩ 0), some (sQ c' d' n')]⟩) := by
  have hid := id_lt h
  have hP := pe_cu h hs
  have hP0 := pe_cu0 h hs
  intro k
  induction k with
  | zero =>
    intro a s c d n h0 h1 h2
    refine ⟨a, s, c, d, n, by omega, by omega, h2, ?_⟩
    rw [loopW_eq]
    unfold sQ
    generalize loopW (bd E0 (ev E0) loopW H.length [0, 2, 3, 4, 5] L40b1) = K
    simp -implicitDefEqProofs [bd, L40b1, -packH, hP0, hP, hid, nlt_add, List.idxOf?, List.findIdx?_cons]
  | succ k ih =>
    intro a s c d n h0 h1 h2
    obtain ⟨hc, z1, z2, z3, z4⟩ := okSt_small h2
    obtain ⟨a1, s1, kk, u, v, m, p1, q1, zm, e1⟩ := key12_u x hx a s h0 (by omega) c d n (by omega)
    have hg : hget (H.set id (some (cu x a s))) id = some (cu x a s) := hget_cu hid
    have S2 : Stable (H.set id (some (cu x a s)) ++ [some (sQ ⟨#[]⟩ ⟨#[]⟩ 0), some (sQ c d n)]) := stable_leaves (stable_cu hs h a s) [sQ ⟨#[]⟩ ⟨#[]⟩ 0, sQ c d n] (by intro q hq; simp at hq; rcases hq with rfl | rfl <;> exact ⟨rfl, fun _ => rfl⟩)
    have S3 : Stable (H.set id (some (cu x a s)) ++ [some (sQ ⟨#[]⟩ ⟨#[]⟩ 0), some (sQ c d n), some (sQ ⟨#[]⟩ ⟨#[]⟩ 0)]) := stable_leaves (stable_cu hs h a s) [sQ ⟨#[]⟩ ⟨#[]⟩ 0, sQ c d n, sQ ⟨#[]⟩ ⟨#[]⟩ 0] (by intro q hq; simp at hq; rcases hq with rfl | rfl | rfl <;> exact ⟨rfl, fun _ => rfl⟩)
    have f1 := e1 _ id (hget_app hg) S2
    rw [set_app hg, List.set_set] at f1
    have f2 := e1 _ id (hget_app hg) S3
    rw [set_app hg, List.set_set] at f2
    have hdo := do_s c d n kk u v m (by omega) h2
    have hw : IntKind.i64.wrap (((k + 1 : Nat) : Int) - 1) = k := by rw [wr64 (by omega) (by omega)]; omega
    rw [cs1] at hw
    have hp0 : (0 : Int) < (k : Int) + 1 := by omega
    have hp1 : 0 < k + 1 := by omega
    have hw2 : IntKind.i64.wrap (k : Int) = k := wr64 (by omega) (by omega)
    cases hdk : dk c d n kk u v m with
    | none =>
      rw [hdk] at hdo
      obtain ⟨a', s', c', d', n', k1, k2, k3, k4⟩ := ih a1 s1 c d n (by omega) (by omega) h2
      refine ⟨a', s', c', d', n', by omega, by omega, k3, ?_⟩
      rw [loopW_eq, cs1]
      unfold dkV sA kA sQ at *
      generalize loopW (bd E0 (ev E0) loopW H.length [0, 2, 3, 4, 5] L40b1) = K at k4 ⊢
      simpa (maxSteps := 2000000) -implicitDefEqProofs [bd, L40b1, L40b0, f1, f2, hdo, hw, hw2, hp0, hp1, -packH, hP0, hP, hid, nlt_add, List.idxOf?, List.findIdx?_cons] using k4
    | some p =>
      obtain ⟨c2, d2⟩ := p
      rw [hdk] at hdo
      obtain ⟨a', s', c', d', n', k1, k2, k3, k4⟩ := ih a1 s1 c2 d2 (n + 1) (by omega) (by omega) (dk_ok hdk)
      refine ⟨a', s', c', d', n', by omega, by omega, k3, ?_⟩
      rw [loopW_eq, cs1]
      unfold dkV sA kA sQ at *
      generalize loopW (bd E0 (ev E0) loopW H.length [0, 2, 3, 4, 5] L40b1) = K at k4 ⊢
      simpa (maxSteps := 2000000) -implicitDefEqProofs [bd, L40b1, L40b0, f1, f2, hdo, hw, hw2, hp0, hp1, -packH, hP0, hP, hid, nlt_add, List.idxOf?, List.findIdx?_cons] using k4
end Go.Proofs.YtjagdiilcphhfaaGreatDoor.Ev.Dr
