/- The draws of letters of a table, and of the laws' arguments. -/
import Derived.Test.YtkajcafnfdlgpaaDoorEvDrawT
set_option linter.unusedVariables false
set_option linter.unusedSimpArgs false
namespace Go.Proofs.YtkajcafnfdlgpaaDoor.Ev.Dr
def ib (r : List Int) : Blk := ⟨3, 1, 1, false, r.map i64⟩
def tv (T : AV) : Blk := ⟨26, 1, 0, false, [.agg [T]]⟩
/-- A table's rows, as a value: none, or a slice of the memory's first blocks. -/
def TabAt (H : Hp) (id : Nat) (n : Nat) (T : AV) : Prop := (T = .v (.slice none 0 0) ∧ n = 0) ∨ ∃ i b, T = .sl i 0 n ∧ i ≠ id ∧ hget H i = some b
theorem tab_live {H : Hp} {id i : Nat} {b : Blk} (hne : i ≠ id) (h : hget H i = some b) : ∀ (c : Option Blk) (ex : Hp), (H.set id c ++ ex)[i]? = some (some b) := by
  intro c ex
  rw [List.getElem?_append_left (by rw [List.length_set]; exact id_lt h), List.getElem?_set_ne (fun e => hne e.symm)]
  exact hget_some h
theorem stable_L {H : Hp} (hs : Stable H) {id n : Nat} {T : AV} (hT : TabAt H id n T) (r : List Int) : Stable (H ++ [some (tv T), some (ib r)]) := by
  rcases hT with ⟨rfl, _⟩ | ⟨i, b, rfl, _, hb⟩
  · exact stable_leaves hs [tv _, ib r] (by intro b hb; simp at hb; rcases hb with rfl | rfl <;> exact ⟨rfl, fun _ => rfl⟩)
  · have hi := id_lt hb
    refine stable_ex hs (fun q hq => ?_) ?_
    · rw [List.mem_singleton.1 (show q ∈ [i] from hq)]
      simp; omega
    · have h3 : newId (H.length + [some (tv (.sl i 0 n)), some (ib r)].length) [] i = some i := by
        unfold newId
        rw [if_pos (by simp; omega)]
      generalize newId (H.length + [some (tv (.sl i 0 n)), some (ib r)].length) [] = f at h3
      simp -implicitDefEqProofs [tv, ib, h3]
theorem letters_loop (x : List Int) (hx : okC x) (H : Hp) (id : Nat) (a0 s0 : Int) (h : hget H id = some (cu x a0 s0)) (hs : Stable H) (n : Nat) (hn : n ≤ 1000) (T : AV) (hT : TabAt H id n T) : ∀ (k i : Nat) (a s : Int) (r : List Int), i + k = n → 0 ≤ a → a + 2 * k ≤ 200000000000 → r.length ≤ i → (∀ y ∈ r, -1 ≤ y ∧ y ≤ n) →
    ∃ (a' s' : Int) (r' : List Int), a ≤ a' ∧ a' ≤ a + 2 * k ∧ r'.length ≤ n ∧ (∀ y ∈ r', -1 ≤ y ∧ y ≤ n) ∧
    packX H.length [0, 3, 5] (loopW (bd E0 (ev E0) loopW H.length [0, 3, 5, 6] L61b0) ⟨[(0, .ptr id 0 0), (3, .ptr H.length 0 0), (5, .sl (H.length + 1) 0 r.length), (6, i64 i)], H.set id (some (cu x a s)) ++ [some (tv T), some (ib r)]⟩) =
      some (.ext 0, ⟨[(0, .ptr id 0 0), (3, .ptr H.length 0 0), (5, .sl (H.length + 1) 0 r'.length)], H.set id (some (cu x a' s')) ++ [some (tv T), some (ib r')]⟩) := by
  have hid := id_lt h
  have hP := pe_cu h hs
  have hP0 := pe_cu0 h hs
  intro k
  induction k with
  | zero =>
    intro i a s r h0 h1 h2 h3 h4
    refine ⟨a, s, r, by omega, by omega, by omega, h4, ?_⟩
    have hi : ¬ i < n := by omega
    have hi2 : ¬ (i : Int) < (n : Int) := by omega
    have hi3 : n ≤ i := by omega
    rw [loopW_eq]
    generalize loopW (bd E0 (ev E0) loopW H.length [0, 3, 5, 6] L61b0) = K
    rcases hT with ⟨rfl, rfl⟩ | ⟨j, bj, rfl, hjn, hjb⟩
    · have hi4 : ¬ (i : Int) < 0 := by omega
      simp -implicitDefEqProofs [tv, ib, bd, L61b0, hi, hi2, hi3, hi4, -packH, hP, hP0, hid, nlt_add, List.idxOf?, List.findIdx?_cons]
    · have hj := id_lt hjb
      have hlv := tab_live hjn hjb
      simp -implicitDefEqProofs [tv, ib, bd, L61b0, hi, hi2, hi3, hlv, -packH, hP, hP0, hid, hj, nlt_add, List.idxOf?, List.findIdx?_cons]
  | succ k ih =>
    intro i a s r h0 h1 h2 h3 h4
    have hi : i < n := by omega
    have hi2 : (i : Int) < (n : Int) := by omega
    rcases hT with ⟨rfl, rfl⟩ | ⟨j, bj, rfl, hjn, hjb⟩
    · omega
    have hj := id_lt hjb
    have hlv := tab_live hjn hjb
    have hsa := stable_cu hs h a s
    have hga : hget (H.set id (some (cu x a s))) id = some (cu x a s) := hget_cu hid
    have hsL := stable_L hsa (n := n) (T := .sl j 0 n) (id := id) (.inr ⟨j, bj, rfl, hjn, by rw [hget_ne (fun e => hjn e.symm)]; exact hjb⟩) r
    obtain ⟨a1, s1, q, p1, q1, e1⟩ := one_fx x hx _ _ id a s hga hsL (by omega) (by omega) 4
    rw [List.set_set] at e1
    have hw : IntKind.i64.wrap ((i : Int) + 1) = (i : Int) + 1 := wr64 (by omega) (by omega)
    unfold tv ib at e1
    cases q with
    | true =>
      obtain ⟨a', s', r', k1, k2, k3, k4, k5⟩ := ih (i + 1) a1 s1 r (by omega) (by omega) (by omega) (by omega) h4
      refine ⟨a', s', r', by omega, by omega, k3, k4, ?_⟩
      unfold tv ib at k5 ⊢
      rw [cs1] at k5
      rw [loopW_eq]
      generalize loopW (bd E0 (ev E0) loopW H.length [0, 3, 5, 6] L61b0) = K at k5 ⊢
      simpa -implicitDefEqProofs [bd, L61b0, hi, hi2, hw, e1, hlv, -packH, hP, hP0, hid, hj, nlt_add, List.idxOf?, List.findIdx?_cons] using k5
    | false =>
      obtain ⟨a', s', r', k1, k2, k3, k4, k5⟩ := ih (i + 1) a1 s1 (r ++ [(i : Int)]) (by omega) (by omega) (by omega) (by simp; omega) (by
        intro y hy
        rcases List.mem_append.1 hy with hy | hy
        · exact h4 y hy
        · rw [List.mem_singleton.1 hy]; omega)
      refine ⟨a', s', r', by omega, by omega, k3, k4, ?_⟩
      have hl1 : (r.length + 1) * 8 ≤ 140737488355328 := by omega
      have hl2 : r.length + 1 ≤ 140737488355328 := by omega
      have htk : List.take r.length (r.map i64) = r.map i64 := List.take_of_length_le (by simp)
      unfold tv ib at k5 ⊢
      rw [cs1, List.map_append, List.length_append, List.length_singleton] at k5
      rw [loopW_eq]
      generalize loopW (bd E0 (ev E0) loopW H.length [0, 3, 5, 6] L61b0) = K at k5 ⊢
      simpa -implicitDefEqProofs [bd, L61b0, hi, hi2, hw, e1, hlv, hl1, hl2, htk, -packH, hP, hP0, hid, hj, nlt_add, List.idxOf?, List.findIdx?_cons] using k5
theorem letters_ok (x : List Int) (hx : okC x) (H : Hp) (id : Nat) (a s : Int) (h : hget H id = some (cu x a s)) (hs : Stable H) (h0 : 0 ≤ a) (h1 : a ≤ 100000000000) (n : Nat) (hn : n ≤ 500) (T : AV) (hT : TabAt H id n T) :
    ∃ (a' s' : Int) (r : List Int), a ≤ a' ∧ a' ≤ a + 2000 ∧ r.length ≤ n + 1 ∧ (∀ y ∈ r, -1 ≤ y ∧ y ≤ n) ∧ ev E0 61 [.ptr id 0 0, .agg [T]] H = some (.sl H.length 0 r.length, H.set id (some (cu x a' s')) ++ [some (ib r)]) := by
  have hid := id_lt h
  have hP := pe_cu h hs
  have hP0 := pe_cu0 h hs
  have hse : H.set id (some (cu x a s)) = H := set_same h
  obtain ⟨a1, s1, r, p1, q1, zr, hr, e1⟩ := letters_loop x hx H id a s h hs n (by omega) T hT n 0 a s [] (by omega) (by omega) (by omega) (by simp) (by simp)
  rw [hse, c0] at e1
  have hs1 := stable_cu hs h a1 s1
  have hg1 : hget (H.set id (some (cu x a1 s1))) id = some (cu x a1 s1) := hget_cu hid
  have hTl : ∀ c : Option Blk, TabAt (H.set id c) id n T := by
    intro c
    rcases hT with hT | ⟨i, b, h1, h2, h3⟩
    · exact .inl hT
    · exact .inr ⟨i, b, h1, h2, by rw [hget_ne (fun e => h2 e.symm)]; exact h3⟩
  obtain ⟨a2, s2, q, p2, q2, e2⟩ := one_fx x hx _ _ id a1 s1 hg1 (stable_L hs1 (hTl _) r) (by omega) (by omega) 24
  rw [List.set_set] at e2
  have hs2 := stable_cu hs h a2 s2
  have hg2 : hget (H.set id (some (cu x a2 s2))) id = some (cu x a2 s2) := hget_cu hid
  have pkH : ∀ ex roots, packH H.length (H ++ ex) roots = packE H.length H ex roots := fun ex roots => packH_E rfl hs roots
  have hl1 : (r.length + 1) * 8 ≤ 140737488355328 := by omega
  have hl2 : r.length + 1 ≤ 140737488355328 := by omega
  have htk : List.take r.length (r.map i64) = r.map i64 := List.take_of_length_le (by simp)
  unfold tv ib at e1 e2
  simp only [List.map_nil, List.length_nil] at e1
  cases q with
  | false =>
    refine ⟨a2, s2, r, by omega, by omega, by omega, hr, ?_⟩
    rw [e61]
    unfold runF
    rcases hT with ⟨rfl, rfl⟩ | ⟨j, bj, rfl, hjn, hjb⟩
    · simp -implicitDefEqProofs [ib, L61, e1, e2, -packH, pkH, hP, hP0, hid, nlt_add, List.idxOf?, List.findIdx?_cons]
    · have hj := id_lt hjb
      have hlv := tab_live hjn hjb
      simp -implicitDefEqProofs [ib, L61, e1, e2, hlv, -packH, pkH, hP, hP0, hid, hj, nlt_add, List.idxOf?, List.findIdx?_cons]
  | true =>
    have hsM : Stable (H.set id (some (cu x a2 s2)) ++ [some (tv T), some (ib r), some (ib [0, (n : Int), -1])]) := by
      have h1 := stable_L hs2 (hTl _) r
      have h2 := stable_leaf h1 (b := ib [0, (n : Int), -1]) ⟨rfl, fun _ => rfl⟩
      rw [List.append_assoc] at h2
      exact h2
    obtain ⟨a3, s3, t, p3, q3, ht, e3⟩ := among_fx x hx _ _ id a2 s2 hg2 hsM (by omega) (by omega) 2 [0, (n : Int), -1] 3 rfl (by decide) rfl
    rw [List.set_set, List.length_set] at e3
    unfold tv ib at e3
    simp only [List.map_cons, List.map_nil] at e3
    refine ⟨a3, s3, r ++ [t], by omega, by omega, by simp; omega, fun y hy => ?_, ?_⟩
    · rcases List.mem_append.1 hy with hy | hy
      · exact hr y hy
      · rw [List.mem_singleton.1 hy]
        simp only [List.mem_cons, List.not_mem_nil, or_false] at ht
        omega
    rw [e61]
    unfold runF
    rcases hT with ⟨rfl, rfl⟩ | ⟨j, bj, rfl, hjn, hjb⟩
    · rw [c0] at e3
      simp -implicitDefEqProofs [ib, L61, e1, e2, e3, hl1, hl2, htk, -packH, pkH, hP, hP0, hid, nlt_add, List.idxOf?, List.findIdx?_cons]
    · have hj := id_lt hjb
      have hlv := tab_live hjn hjb
      simp -implicitDefEqProofs [ib, L61, e1, e2, e3, hlv, hl1, hl2, htk, -packH, pkH, hP, hP0, hid, hj, nlt_add, List.idxOf?, List.findIdx?_cons]
end Go.Proofs.YtkajcafnfdlgpaaDoor.Ev.Dr
