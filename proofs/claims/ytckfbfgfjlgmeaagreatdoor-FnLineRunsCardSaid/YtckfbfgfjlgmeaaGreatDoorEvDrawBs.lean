/- What the draws of tables share. -/
import Derived.Test.YtckfbfgfjlgmeaaGreatDoorEvDrawT
set_option linter.unusedVariables false
set_option linter.unusedSimpArgs false
namespace Go.Proofs.YtckfbfgfjlgmeaaGreatDoor.Ev.Dr
def ib (r : List Int) : Blk := ⟨3, 1, 1, false, r.map i64⟩
def tv (T : AV) : Blk := ⟨48, 1, 0, false, [.agg [T]]⟩
/-- A table's rows, as a value: none, or a slice of the memory's first blocks. -/
def TabM (H : Hp) (id : Nat) (ms : List ByteArray) (T : AV) : Prop := (T = .v (.slice none 0 0) ∧ ms = []) ∨ ∃ i ro, T = .sl i 0 ms.length ∧ i ≠ id ∧ hget H i = some ⟨9, 1, 1, ro, ms.map st⟩
theorem tab_live {H : Hp} {id i : Nat} {b : Blk} (hne : i ≠ id) (h : hget H i = some b) : ∀ (c : Option Blk) (ex : Hp), (H.set id c ++ ex)[i]? = some (some b) := by
  intro c ex
  rw [List.getElem?_append_left (by rw [List.length_set]; exact id_lt h), List.getElem?_set_ne (fun e => hne e.symm)]
  exact hget_some h
theorem stable_tv {H : Hp} (hs : Stable H) {id : Nat} {ms : List ByteArray} {T : AV} (hT : TabM H id ms T) : Stable (H ++ [some (tv T)]) := by
  rcases hT with ⟨rfl, _⟩ | ⟨i, ro, rfl, _, hb⟩
  · exact stable_leaves hs [tv _] (by intro b hb; simp at hb; subst hb; exact ⟨rfl, fun _ => rfl⟩)
  · have hi := id_lt hb
    refine stable_ex hs (fun q hq => ?_) ?_
    · rw [List.mem_singleton.1 (show q ∈ [i] from hq)]
      simp; omega
    · have h3 : newId (H.length + [some (tv (.sl i 0 ms.length))].length) [] i = some i := by
        unfold newId
        rw [if_pos (by simp; omega)]
      generalize newId (H.length + [some (tv (.sl i 0 ms.length))].length) [] = f at h3
      simp -implicitDefEqProofs [tv, h3]
theorem TabM.set {H : Hp} {id : Nat} {ms : List ByteArray} {T : AV} (hT : TabM H id ms T) (c : Option Blk) : TabM (H.set id c) id ms T := by
  rcases hT with hT | ⟨i, ro, h1, h2, h3⟩
  · exact .inl hT
  · exact .inr ⟨i, ro, h1, h2, by rw [hget_ne (fun e => h2 e.symm)]; exact h3⟩
theorem TabM.app {H : Hp} {id : Nat} {ms : List ByteArray} {T : AV} (hT : TabM H id ms T) (ex : Hp) : TabM (H ++ ex) id ms T := by
  rcases hT with hT | ⟨i, ro, h1, h2, h3⟩
  · exact .inl hT
  · exact .inr ⟨i, ro, h1, h2, hget_app h3⟩
theorem most_d (a b : Int) : ev E0 89 [i64 a, i64 b] [] = some (i64 (if b < a then a else b), []) := by
  rw [e89]
  unfold runF
  by_cases h : b < a
  · simp -implicitDefEqProofs [L89, h]
  · simp -implicitDefEqProofs [L89, h]
theorem table_nil : ev E0 96 [.agg [.v (.slice none 0 0)]] [] = some (bl false, []) := by
  rw [e96]
  unfold runF
  simp -implicitDefEqProofs [L96, in_s]
theorem among_ls (x : List Int) (hx : okC x) (H : Hp) (id : Nat) (a s : Int) (h : hget H id = some (cu x a s)) (hs : Stable H) (h0 : 0 ≤ a) (h1 : a ≤ 549755813888) (l : List Int) (hp : 0 < l.length) :
    ∃ (a' s' : Int) (t : Int), a ≤ a' ∧ a' ≤ a + 2 ∧ t ∈ l ∧ ev E0 80 [.ptr id 0 0, .lst 1 (l.map i64)] H = some (i64 t, H.set id (some (cu x a' s'))) := by
  obtain ⟨a', s', r, k1, k2, r0, r1, e⟩ := pick_ok x hx H id a s h hs h0 h1 l.length
  obtain ⟨k, rfl⟩ : ∃ k : Nat, r = k := ⟨r.toNat, by omega⟩
  have hk : k < l.length := by omega
  refine ⟨a', s', l[k], k1, k2, List.getElem_mem hk, ?_⟩
  have hx2 : l[k]? = some l[k] := List.getElem?_eq_getElem hk
  generalize l[k] = t at *
  have hx3 : ∀ h, l[k]'h = t := fun h => (List.getElem?_eq_some_iff.1 hx2).2
  have hki : (k : Int) < (l.length : Int) := by omega
  have pk2 := pk_cu h hs
  rw [e80]
  unfold runF
  simp -implicitDefEqProofs [L80, e, hx3, hk, hki, -pack, -packH, pk2]
theorem of_ls (x : List Int) (hx : okC x) (H : Hp) (id : Nat) (a s : Int) (h : hget H id = some (cu x a s)) (hs : Stable H) (h0 : 0 ≤ a) (h1 : a ≤ 549755813888) (l : List ByteArray) (hp : 0 < l.length) :
    ∃ (a' s' : Int) (t : ByteArray), a ≤ a' ∧ a' ≤ a + 2 ∧ t ∈ l ∧ ev E0 157 [.ptr id 0 0, .lst 1 (l.map st)] H = some (st t, H.set id (some (cu x a' s'))) := by
  obtain ⟨a', s', r, k1, k2, r0, r1, e⟩ := pick_ok x hx H id a s h hs h0 h1 l.length
  obtain ⟨k, rfl⟩ : ∃ k : Nat, r = k := ⟨r.toNat, by omega⟩
  have hk : k < l.length := by omega
  refine ⟨a', s', l[k], k1, k2, List.getElem_mem hk, ?_⟩
  have hx2 : l[k]? = some l[k] := List.getElem?_eq_getElem hk
  generalize l[k] = t at *
  have hx3 : ∀ h, l[k]'h = t := fun h => (List.getElem?_eq_some_iff.1 hx2).2
  have hki : (k : Int) < (l.length : Int) := by omega
  have pk2 := pk_cu h hs
  rw [e157]
  unfold runF
  simp -implicitDefEqProofs [L157, e, hx3, hk, hki, -pack, -packH, pk2]
end Go.Proofs.YtckfbfgfjlgmeaaGreatDoor.Ev.Dr
