/- The draws of free tables and bare texts. -/
import Derived.Test.YtkdfgjijmnaljaaDoorEvDrawT
import Derived.Test.YtkdfgjijmnaljaaDoorEvParts
set_option linter.unusedVariables false
set_option linter.unusedSimpArgs false
namespace Go.Proofs.YtkdfgjijmnaljaaDoor.Ev.Dr
def tv (T : AV) : Blk := ⟨26, 1, 0, false, [.agg [T]]⟩
/-- A table's rows, as a value: none, or a slice of the memory's first blocks. -/
def TabM (H : Hp) (id : Nat) (ms : List ByteArray) (T : AV) : Prop := (T = .v (.slice none 0 0) ∧ ms = []) ∨ ∃ i, T = .sl i 0 ms.length ∧ i ≠ id ∧ hget H i = some (tr ms)
theorem tab_live {H : Hp} {id i : Nat} {b : Blk} (hne : i ≠ id) (h : hget H i = some b) : ∀ (c : Option Blk) (ex : Hp), (H.set id c ++ ex)[i]? = some (some b) := by
  intro c ex
  rw [List.getElem?_append_left (by rw [List.length_set]; exact id_lt h), List.getElem?_set_ne (fun e => hne e.symm)]
  exact hget_some h
theorem stable_tv {H : Hp} (hs : Stable H) {id : Nat} {ms : List ByteArray} {T : AV} (hT : TabM H id ms T) : Stable (H ++ [some (tv T)]) := by
  rcases hT with ⟨rfl, _⟩ | ⟨i, rfl, _, hb⟩
  · exact stable_leaves hs [tv _] (by intro b hb; simp at hb; subst hb; exact ⟨rfl, fun _ => rfl⟩)
  · have hi := id_lt hb
    refine stable_ex hs (fun q hq => ?_) ?_
    · rw [List.mem_singleton.1 (show q ∈ [i] from hq)]
      simp; omega
    · have h3 : newId (H.length + [some (tv (.sl i 0 ms.length))].length) [] i = some i := by
        unfold newId
        rw [if_pos (by simp; omega)]
      generalize newId (H.length + [some (tv (.sl i 0 ms.length))].length) [] = f at h3
      simp -implicitDefEqProofs [tv, h3]
theorem TabM.set {H : Hp} {id : Nat} {ms : List ByteArray} {T : AV} (hT : TabM H id ms T) (c : Option Blk) : TabM (H.set id c) id ms T := by
  rcases hT with hT | ⟨i, h1, h2, h3⟩
  · exact .inl hT
  · exact .inr ⟨i, h1, h2, by rw [hget_ne (fun e => h2 e.symm)]; exact h3⟩
theorem bare_loop (x : List Int) (hx : okC x) (H : Hp) (id : Nat) (a0 s0 : Int) (h : hget H id = some (cu x a0 s0)) (hs : Stable H) (ms : List ByteArray) (hm : ms.length ≤ 500) (hz : ∀ m ∈ ms, m.size ≤ 20) (T : AV) (hT : TabM H id ms T) : ∀ (k : Nat) (a s : Int) (m : ByteArray), 0 ≤ a → a + 4 * k ≤ 500000000000 → m.size ≤ 40 →
    ∃ (a' s' : Int) (m' : ByteArray), a ≤ a' ∧ a' ≤ a + 4 * k ∧ m'.size ≤ 40 ∧
    packX H.length [0, 5] (loopW (bd E0 (ev E0) loopW H.length [0, 3, 5, 6] L42b0) ⟨[(0, .ptr id 0 0), (3, .ptr H.length 0 0), (5, st m), (6, i64 k)], H.set id (some (cu x a s)) ++ [some (tv T)]⟩) = some (.ext 0, ⟨[(0, .ptr id 0 0), (5, st m')], H.set id (some (cu x a' s'))⟩) := by
  have hid := id_lt h
  have hP := pe_cu h hs
  have hP0 := pe_cu0 h hs
  intro k
  induction k with
  | zero =>
    intro a s m h0 h1 h2
    refine ⟨a, s, m, by omega, by omega, h2, ?_⟩
    rw [loopW_eq]
    generalize loopW (bd E0 (ev E0) loopW H.length [0, 3, 5, 6] L42b0) = K
    unfold tv
    rcases hT with ⟨rfl, rfl⟩ | ⟨i, rfl, h3, h4⟩ <;> simp -implicitDefEqProofs [bd, L42b0, -packH, hP0, hP, hid, nlt_add, List.idxOf?, List.findIdx?_cons]
  | succ k ih =>
    intro a s m h0 h1 h2
    have hsa := stable_cu hs h a s
    have hga : hget (H.set id (some (cu x a s))) id = some (cu x a s) := hget_cu hid
    have hw : IntKind.i64.wrap (((k + 1 : Nat) : Int) - 1) = k := by rw [wr64 (by omega) (by omega)]; omega
    rw [cs1] at hw
    have hp0 : (0 : Int) < (k : Int) + 1 := by omega
    have hp1 : 0 < k + 1 := by omega
    have hw2 : IntKind.i64.wrap (k : Int) = k := wr64 (by omega) (by omega)
    have more : ∀ (a1 s1 : Int) (u : ByteArray), a ≤ a1 → a1 ≤ a + 2 → u.size ≤ 1000 → ∃ (a' s' : Int) (m' : ByteArray), a ≤ a' ∧ a' ≤ a + 4 * (k + 1 : Nat) ∧ m'.size ≤ 40 ∧
        packX H.length [0, 5] (loopW (bd E0 (ev E0) loopW H.length [0, 3, 5, 6] L42b0) ⟨[(0, .ptr id 0 0), (3, .ptr H.length 0 0), (5, st (if m.size + u.size ≤ 40 then m ++ u else m)), (6, i64 k)], H.set id (some (cu x a1 s1)) ++ [some (tv T)]⟩) = some (.ext 0, ⟨[(0, .ptr id 0 0), (5, st m')], H.set id (some (cu x a' s'))⟩) := by
      intro a1 s1 u l1 l2 l3
      obtain ⟨a', s', m', k1, k2, k3, k4⟩ := ih a1 s1 (if m.size + u.size ≤ 40 then m ++ u else m) (by omega) (by omega) (by split; (rw [ByteArray.size_append]; omega); omega)
      exact ⟨a', s', m', by omega, by omega, k3, k4⟩
    rw [loopW_eq, cs1]
    rcases hT with ⟨rfl, rfl⟩ | ⟨i, rfl, h3, h4⟩
    · obtain ⟨a', s', m', k1, k2, k3, k4⟩ := more a s ⟨#[46]⟩ (by omega) (by omega) (by decide)
      refine ⟨a', s', m', k1, k2, k3, ?_⟩
      have o1 : (⟨#[46]⟩ : ByteArray).size = 1 := rfl
      rw [o1] at k4
      have wsz : IntKind.i64.wrap ((m.size : Int) + 1) = (m.size : Int) + 1 := wr64 (by omega) (by omega)
      generalize loopW (bd E0 (ev E0) loopW H.length [0, 3, 5, 6] L42b0) = K at k4 ⊢
      unfold tv at k4 ⊢
      by_cases hq : m.size + 1 ≤ 40
      · have hq1 : (m.size : Int) + 1 ≤ 40 := by omega
        have hq2 : m.size ≤ 9223372036854775806 := by omega
        rw [if_pos hq] at k4
        simpa -implicitDefEqProofs [-ByteArray.size_append, bd, L42b0, hp0, hp1, o1, wsz, hq1, hq2, hw, hw2, -packH, hP, hP0, hid, nlt_add, List.idxOf?, List.findIdx?_cons] using k4
      · have hq1 : ¬ (m.size : Int) + 1 ≤ 40 := by omega
        rw [if_neg hq] at k4
        simpa -implicitDefEqProofs [-ByteArray.size_append, bd, L42b0, hp0, hp1, o1, wsz, hq1, hw, hw2, -packH, hP, hP0, hid, nlt_add, List.idxOf?, List.findIdx?_cons] using k4
    · have hi := id_lt h4
      have hlv : (H.set id (some (cu x a s)) ++ [some (tv (.sl i 0 ms.length))])[i]? = some (some (tr ms)) := tab_live h3 h4 _ _
      by_cases hml : ms.length = 0
      · obtain rfl : ms = [] := List.eq_nil_of_length_eq_zero hml
        obtain ⟨a', s', m', k1, k2, k3, k4⟩ := more a s ⟨#[46]⟩ (by omega) (by omega) (by decide)
        refine ⟨a', s', m', k1, k2, k3, ?_⟩
        have o1 : (⟨#[46]⟩ : ByteArray).size = 1 := rfl
        rw [o1] at k4
        have wsz : IntKind.i64.wrap ((m.size : Int) + 1) = (m.size : Int) + 1 := wr64 (by omega) (by omega)
        generalize loopW (bd E0 (ev E0) loopW H.length [0, 3, 5, 6] L42b0) = K at k4 ⊢
        unfold tv at k4 hlv ⊢
        unfold tr at hlv
        simp only [List.length_nil, List.map_nil] at k4 hlv ⊢
        by_cases hq : m.size + 1 ≤ 40
        · have hq1 : (m.size : Int) + 1 ≤ 40 := by omega
          have hq2 : m.size ≤ 9223372036854775806 := by omega
          rw [if_pos hq] at k4
          simpa -implicitDefEqProofs [-ByteArray.size_append, bd, L42b0, hp0, hp1, o1, wsz, hq1, hq2, hw, hw2, hlv, hi, -packH, hP, hP0, hid, nlt_add, List.idxOf?, List.findIdx?_cons] using k4
        · have hq1 : ¬ (m.size : Int) + 1 ≤ 40 := by omega
          rw [if_neg hq] at k4
          simpa -implicitDefEqProofs [-ByteArray.size_append, bd, L42b0, hp0, hp1, o1, wsz, hq1, hw, hw2, hlv, hi, -packH, hP, hP0, hid, nlt_add, List.idxOf?, List.findIdx?_cons] using k4
      · have hsT : Stable (H.set id (some (cu x a s)) ++ [some (tv (.sl i 0 ms.length))]) := stable_tv hsa (id := id) (ms := ms) (TabM.set (.inr ⟨i, rfl, h3, h4⟩) _)
        obtain ⟨a1, s1, u, p1, q1, hu, e1⟩ := of_ok x hx _ id a s (hget_app hga) hsT h0 (by omega) i (fun e => h3 e.symm) ms ms.length rfl (by omega) (by unfold hget; rw [hlv]; rfl)
        rw [set_app hga, List.set_set] at e1
        have huz := hz u hu
        obtain ⟨a', s', m', k1, k2, k3, k4⟩ := more a1 s1 u p1 q1 (by omega)
        refine ⟨a', s', m', k1, k2, k3, ?_⟩
        have hm0 : (0 : Int) < (ms.length : Int) := by omega
        have hm1 : 0 < ms.length := by omega
        have wsz : IntKind.i64.wrap ((m.size : Int) + (u.size : Int)) = ((m.size + u.size : Nat) : Int) := by rw [wr64 (by omega) (by omega)]; omega
        generalize loopW (bd E0 (ev E0) loopW H.length [0, 3, 5, 6] L42b0) = K at k4 ⊢
        unfold tv at k4 hlv e1 ⊢
        by_cases hq : m.size + u.size ≤ 40
        · have hq1 : ((m.size + u.size : Nat) : Int) ≤ 40 := by omega
          have hq2 : m.size + u.size ≤ 9223372036854775807 := by omega
          rw [if_pos hq] at k4
          simpa -implicitDefEqProofs [-ByteArray.size_append, -Int.natCast_add, bd, L42b0, hp0, hp1, e1, wsz, hq1, hq2, hw, hw2, hlv, hm0, hm1, hi, -packH, hP, hP0, hid, nlt_add, List.idxOf?, List.findIdx?_cons] using k4
        · have hq1 : ¬ ((m.size + u.size : Nat) : Int) ≤ 40 := by omega
          rw [if_neg hq] at k4
          simpa -implicitDefEqProofs [-ByteArray.size_append, -Int.natCast_add, bd, L42b0, hp0, hp1, e1, wsz, hq1, hw, hw2, hlv, hm0, hm1, hi, -packH, hP, hP0, hid, nlt_add, List.idxOf?, List.findIdx?_cons] using k4
end Go.Proofs.YtkdfgjijmnaljaaDoor.Ev.Dr
