/- The draws of free tables and bare texts, whole; the draw of the law on borders. -/
import Derived.Test.YtkdfgjijmnaljaaDoorEvDrawB
set_option linter.unusedVariables false
set_option linter.unusedSimpArgs false
namespace Go.Proofs.YtkdfgjijmnaljaaDoor.Ev.Dr
def odd3 : List ByteArray := [⟨#[120]⟩, ⟨#[32]⟩, ⟨#[46, 46, 46, 46, 46, 46, 46, 46, 46, 46, 46, 46, 46, 46, 46, 46, 46, 46, 46, 46, 46, 46, 46, 46, 46, 46, 46, 46, 46, 46, 46, 46, 46, 46, 46, 46, 46, 46, 46, 46, 46]⟩]
theorem bare_ok (x : List Int) (hx : okC x) (H : Hp) (id : Nat) (a s : Int) (h : hget H id = some (cu x a s)) (hs : Stable H) (h0 : 0 ≤ a) (h1 : a ≤ 200000000000) (ms : List ByteArray) (hm : ms.length ≤ 500) (hz : ∀ m ∈ ms, m.size ≤ 20) (T : AV) (hT : TabM H id ms T) :
    ∃ (a' s' : Int) (m : ByteArray), a ≤ a' ∧ a' ≤ a + 100 ∧ m.size ≤ 100 ∧ ev E0 42 [.ptr id 0 0, .agg [T]] H = some (st m, H.set id (some (cu x a' s'))) := by
  have hid := id_lt h
  have hP := pe_cu h hs
  have hP0 := pe_cu0 h hs
  obtain ⟨a1, s1, k, p1, q1, hk, e1⟩ := among_fx x hx H [some (tv T), some (⟨3, 1, 1, false, ([3, 5, 2, 1, 8, 0, 12] : List Int).map i64⟩ : Blk)] id a s h (by
    have h1 := stable_leaf (stable_tv hs hT) (b := (⟨3, 1, 1, false, ([3, 5, 2, 1, 8, 0, 12] : List Int).map i64⟩ : Blk)) ⟨rfl, fun _ => rfl⟩
    rwa [List.append_assoc] at h1) h0 (by omega) 1 [3, 5, 2, 1, 8, 0, 12] 7 rfl (by decide) rfl
  obtain ⟨n, rfl⟩ : ∃ n : Nat, k = n := ⟨k.toNat, by simp only [List.mem_cons, List.not_mem_nil, or_false] at hk; omega⟩
  have hn : n ≤ 12 := by simp only [List.mem_cons, List.not_mem_nil, or_false] at hk; omega
  obtain ⟨a2, s2, m, p2, q2, zm, e2⟩ := bare_loop x hx H id a s h hs ms hm hz T hT n a1 s1 ⟨#[]⟩ (by omega) (by omega) (by decide)
  have hs2 := stable_cu hs h a2 s2
  have hg2 : hget (H.set id (some (cu x a2 s2))) id = some (cu x a2 s2) := hget_cu hid
  obtain ⟨a3, s3, r, p3, q3, r0, r1, e3⟩ := pick_ok x hx _ id a2 s2 hg2 hs2 (by omega) (by omega) 40
  rw [List.set_set] at e3
  have hs3 := stable_cu hs h a3 s3
  have hg3 : hget (H.set id (some (cu x a3 s3))) id = some (cu x a3 s3) := hget_cu hid
  obtain ⟨a4, s4, u, p4, q4, hu, e4⟩ := of_fr x hx _ [] id a3 s3 hg3 hs3 (by simp) (by omega) (by omega) odd3 (by decide)
  have hlen : (H.set id (some (cu x a3 s3))).length = H.length := List.length_set
  simp only [List.map_nil, List.append_nil, List.set_set, List.length_set, Nat.add_zero, List.length_nil, List.nil_append, hlen] at e4
  have hu41 : u.size ≤ 41 := by
    simp only [odd3, List.mem_cons, List.not_mem_nil, or_false] at hu
    rcases hu with h | h | h <;> subst h <;> decide
  unfold tv at e1 e2
  simp only [odd3, List.map_cons, List.map_nil, List.length_cons, List.length_nil, Nat.zero_add, Nat.reduceAdd] at e1 e4
  have z1 : m.size + u.size ≤ 9223372036854775807 := by omega
  have o1 : (⟨#[46]⟩ : ByteArray).size = 1 := rfl
  have z2 : m.size ≤ 9223372036854775806 := by omega
  rw [e42]
  unfold runF
  by_cases hr0 : r = 0
  · refine ⟨a4, s4, m ++ u, by omega, by omega, by rw [ByteArray.size_append]; omega, ?_⟩
    rcases hT with ⟨rfl, rfl⟩ | ⟨j, rfl, hjn, hjb⟩
    · simp -implicitDefEqProofs [-ByteArray.size_append, L42, e1, e2, e3, e4, hr0, z1, -packH, hP, hP0, hid, nlt_add, List.idxOf?, List.findIdx?_cons]
    · have hj := id_lt hjb
      simp -implicitDefEqProofs [-ByteArray.size_append, L42, e1, e2, e3, e4, hr0, z1, -packH, hP, hP0, hid, hj, nlt_add, List.idxOf?, List.findIdx?_cons]
  · by_cases hr1 : r = 1
    · refine ⟨a3, s3, m ++ ⟨#[46]⟩, by omega, by omega, by rw [ByteArray.size_append]; omega, ?_⟩
      rcases hT with ⟨rfl, rfl⟩ | ⟨j, rfl, hjn, hjb⟩
      · simp -implicitDefEqProofs [-ByteArray.size_append, L42, e1, e2, e3, hr0, hr1, o1, z2, -packH, hP, hP0, hid, nlt_add, List.idxOf?, List.findIdx?_cons]
      · have hj := id_lt hjb
        simp -implicitDefEqProofs [-ByteArray.size_append, L42, e1, e2, e3, hr0, hr1, o1, z2, -packH, hP, hP0, hid, hj, nlt_add, List.idxOf?, List.findIdx?_cons]
    · by_cases hr2 : r = 2
      · refine ⟨a3, s3, ⟨#[46, 46, 46, 46, 46, 46, 46, 46, 46, 46, 46, 46, 46, 46, 46, 46, 46, 46, 46, 46, 46, 46, 46, 46, 46, 46, 46, 46, 46, 46, 46, 46, 46, 46, 46, 46, 46, 46, 46, 46]⟩, by omega, by omega, by decide, ?_⟩
        rcases hT with ⟨rfl, rfl⟩ | ⟨j, rfl, hjn, hjb⟩
        · simp -implicitDefEqProofs [-ByteArray.size_append, L42, e1, e2, e3, hr0, hr1, hr2, -packH, hP, hP0, hid, nlt_add, List.idxOf?, List.findIdx?_cons]
        · have hj := id_lt hjb
          simp -implicitDefEqProofs [-ByteArray.size_append, L42, e1, e2, e3, hr0, hr1, hr2, -packH, hP, hP0, hid, hj, nlt_add, List.idxOf?, List.findIdx?_cons]
      · refine ⟨a3, s3, m, by omega, by omega, by omega, ?_⟩
        rcases hT with ⟨rfl, rfl⟩ | ⟨j, rfl, hjn, hjb⟩
        · simp -implicitDefEqProofs [-ByteArray.size_append, L42, e1, e2, e3, hr0, hr1, hr2, -packH, hP, hP0, hid, nlt_add, List.idxOf?, List.findIdx?_cons]
        · have hj := id_lt hjb
          simp -implicitDefEqProofs [-ByteArray.size_append, L42, e1, e2, e3, hr0, hr1, hr2, -packH, hP, hP0, hid, hj, nlt_add, List.idxOf?, List.findIdx?_cons]
def frees : List ByteArray := [⟨#[46, 44, 45, 46, 44, 45, 45]⟩, ⟨#[46, 46, 44, 46, 45, 44, 45]⟩, ⟨#[46, 44, 45, 46]⟩, ⟨#[46, 45, 44, 45, 46, 44, 46, 46, 45, 44, 45]⟩, ⟨#[46, 46, 44, 46, 46, 45, 44, 45, 45, 46, 44, 45]⟩, ⟨#[46, 44, 46, 45, 44, 45, 46]⟩, ⟨#[46, 45, 44, 46, 44, 45, 45]⟩, ⟨#[45, 44, 45, 46, 46, 44, 46, 45, 45]⟩]
theorem frees_parts : ∀ t ∈ frees, (partsB 44 t).length ≤ 30 ∧ (∀ u ∈ partsB 44 t, u.size ≤ 20) ∧ t.size ≤ 20 := by
  intro t ht
  simp only [frees, List.mem_cons, List.not_mem_nil, or_false] at ht
  rcases ht with h | h | h | h | h | h | h | h <;> subst h <;> refine ⟨by decide, by decide, by decide⟩
/-- A table that may be free, drawn behind an empty result. -/
theorem free_ok (x : List Int) (hx : okC x) (a s : Int) (h0 : 0 ≤ a) (h1 : a ≤ 1000) :
    ∃ (a' s' : Int), a ≤ a' ∧ a' ≤ a + 3000 ∧ (ev E0 41 [.ptr 1 0 0] [some t0, some (cu x a s)] = some (.agg [.v (.slice none 0 0)], [some t0, some (cu x a' s')]) ∨
      ∃ ms : List ByteArray, ms.length ≤ 30 ∧ (∀ t ∈ ms, t.size ≤ 20) ∧ ev E0 41 [.ptr 1 0 0] [some t0, some (cu x a s)] = some (.agg [.sl 2 0 ms.length], [some t0, some (cu x a' s'), some (tr ms)])) := by
  have lf : ∀ (a s : Int), Stable [some t0, some (cu x a s), some t0, some (tr frees)] := fun a s => stable_leaves (H := []) ⟨by simp [oldIds], rfl⟩ [t0, cu x a s, t0, tr frees] (by
    intro q hq
    simp at hq
    rcases hq with rfl | rfl | rfl | rfl <;> exact ⟨rfl, fun _ => rfl⟩)
  obtain ⟨a1, s1, b, p1, q1, e1⟩ := one_ok x hx [some t0, some (cu x a s), some t0, some (tr frees)] 1 a s rfl (lf a s) h0 (by omega) 3
  cases b with
  | true =>
    obtain ⟨a2, s2, t, p2, q2, ht, e2⟩ := of_ok x hx [some t0, some (cu x a1 s1), some t0, some (tr frees)] 1 a1 s1 rfl (lf a1 s1) (by omega) (by omega) 3 (by decide) frees 8 rfl (by decide) rfl
    obtain ⟨f1, f2, f3⟩ := frees_parts t ht
    have e3 := split_s t (by omega) 44
    rw [show ((44 : UInt8).toNat : Int) = 44 from rfl] at e3
    refine ⟨a2, s2, by omega, by omega, .inr ⟨partsB 44 t, f1, f2, ?_⟩⟩
    generalize partsB 44 t = ps at *
    simp only [t0, tr, cu, frees, List.map_cons, List.map_nil, List.set_cons_succ, List.set_cons_zero] at e1 e2 ⊢
    rw [e41]
    unfold runF
    simp -implicitDefEqProofs [L41, e1, e2, e3]
  | false =>
    obtain ⟨a2, s2, p2, q2, e2⟩ := table_ok x hx [some t0, some (cu x a1 s1), some t0, some (tr frees)] 1 a1 s1 rfl (lf a1 s1) (by omega) (by omega)
    refine ⟨a2, s2, by omega, by omega, ?_⟩
    rcases e2 with e2 | ⟨ms, m1, m2, e2⟩
    · left
      simp only [t0, tr, cu, frees, List.map_cons, List.map_nil, List.set_cons_succ, List.set_cons_zero] at e1 e2 ⊢
      rw [e41]
      unfold runF
      simp -implicitDefEqProofs [L41, e1, e2]
    · refine .inr ⟨ms, m1, m2, ?_⟩
      simp only [t0, tr, cu, frees, List.map_cons, List.map_nil, List.set_cons_succ, List.set_cons_zero, List.length_cons, List.length_nil, List.cons_append, List.nil_append, Nat.zero_add, Nat.reduceAdd] at e1 e2 ⊢
      rw [e41]
      unfold runF
      simp -implicitDefEqProofs [L41, e1, e2]
/-- The draw: a table, and a text. -/
theorem drawC (x : List Int) (hx : okC x) : ∃ (m : ByteArray), m.size ≤ 100 ∧ (ev E0 29 [.lst 1 (cd x)] [] = some (.tup [.agg [.v (.slice none 0 0)], st m], []) ∨
    ∃ ms : List ByteArray, ms.length ≤ 30 ∧ (∀ t ∈ ms, t.size ≤ 20) ∧ ev E0 29 [.lst 1 (cd x)] [] = some (.tup [.agg [.sl 0 0 ms.length], st m], [some (tr ms)])) := by
  obtain ⟨a1, s1, p1, q1, e1⟩ := free_ok x hx 0 0 (by omega) (by omega)
  rcases e1 with e1 | ⟨ms, m1, m2, e1⟩
  · have hsA : ∀ a s : Int, Stable [some t0, some (cu x a s), some t0] := fun a s => stable_leaves (H := []) ⟨by simp [oldIds], rfl⟩ [t0, cu x a s, t0] (by
      intro q hq
      simp at hq
      rcases hq with rfl | rfl | rfl <;> exact ⟨rfl, fun _ => rfl⟩)
    obtain ⟨a2, s2, m, p2, q2, zm, e2⟩ := bare_ok x hx [some t0, some (cu x a1 s1), some t0] 1 a1 s1 rfl (hsA a1 s1) (by omega) (by omega) [] (by simp) (by simp) (.v (.slice none 0 0)) (.inl ⟨rfl, rfl⟩)
    refine ⟨m, zm, .inl ?_⟩
    simp only [t0, tr, cu, List.set_cons_succ, List.set_cons_zero] at e1 e2
    rw [e29]
    unfold runF
    simp -implicitDefEqProofs [L29, e1, e2]
  · have hsB : ∀ a s : Int, Stable ([some t0, some (cu x a s), some (tr ms)] ++ [some (tv (.sl 2 0 ms.length))]) := fun a s => stable_tv (id := 1) (ms := ms) (stable_leaves (H := []) ⟨by simp [oldIds], rfl⟩ [t0, cu x a s, tr ms] (by
      intro q hq
      simp at hq
      rcases hq with rfl | rfl | rfl <;> exact ⟨rfl, fun _ => rfl⟩)) (.inr ⟨2, rfl, by decide, rfl⟩)
    obtain ⟨a2, s2, m, p2, q2, zm, e2⟩ := bare_ok x hx [some t0, some (cu x a1 s1), some (tr ms), some (tv (.sl 2 0 ms.length))] 1 a1 s1 rfl (hsB a1 s1) (by omega) (by omega) ms (by omega) m2 (.sl 2 0 ms.length) (.inr ⟨2, rfl, by decide, rfl⟩)
    refine ⟨m, zm, .inr ⟨ms, m1, m2, ?_⟩⟩
    simp only [t0, tr, tv, cu, List.set_cons_succ, List.set_cons_zero] at e1 e2 ⊢
    rw [e29]
    unfold runF
    simp (maxSteps := 1000000) -implicitDefEqProofs [L29, e1, e2]
theorem drawB (x : List Int) (hx : okC x) : ∃ (m : ByteArray), m.size ≤ 100 ∧ (ev E0 6 [.lst 1 (cd x)] [] = some (.tup [.agg [.v (.slice none 0 0)], st m], []) ∨
    ∃ ms : List ByteArray, ms.length ≤ 30 ∧ (∀ t ∈ ms, t.size ≤ 20) ∧ ev E0 6 [.lst 1 (cd x)] [] = some (.tup [.agg [.sl 0 0 ms.length], st m], [some (tr ms)])) := by
  obtain ⟨m, zm, e⟩ := drawC x hx
  refine ⟨m, zm, ?_⟩
  rcases e with e | ⟨ms, m1, m2, e⟩
  · left
    rw [e6]
    unfold runF
    simp -implicitDefEqProofs [L6, e]
  · refine .inr ⟨ms, m1, m2, ?_⟩
    unfold tr at e ⊢
    rw [e6]
    unfold runF
    simp -implicitDefEqProofs [L6, e]
end Go.Proofs.YtkdfgjijmnaljaaDoor.Ev.Dr
