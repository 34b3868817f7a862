/- The draw of a key: facts. -/
import Derived.Test.YtjagdiilcphhfaaGreatDoorEvDrawUn
import Derived.Test.YtjagdiilcphhfaaGreatDoorEvKe4
set_option linter.unusedVariables false
set_option linter.unusedSimpArgs false
namespace Go.Proofs.YtjagdiilcphhfaaGreatDoor.Ev.Dr
def sQ (a b : ByteArray) (n : Int) : Blk := ⟨28, 3, 0, false, [.agg [st a, st b, i64 n]]⟩
def kQ (k u v : Int) (m : ByteArray) : Blk := ⟨32, 4, 0, false, [.agg [i64 k, i64 u, i64 v, st m]]⟩
def l9 : List Int := [1, 1, 1, 2, 3, 4, 5, 6, 7]
theorem tab_none (a b : ByteArray) (n : Int) (ha : a.size ≤ 1073741824) (h : okCode a = false) : ev E0 44 [sA a b n] [] = some (.tup [.agg [.v (.slice none 0 0)], bl false], []) := by
  have hp := (parse_s a ha).1 h
  unfold sA
  rw [e44]
  unfold runF
  simp -implicitDefEqProofs [L44, hp]
theorem use_pick {x : List Int} {a s n a' s' r : Int} (e : PickU x a s n a' s' r) {H L : Hp} {id : Nat} {b : Blk} (h : hget H id = some b) (hst : Stable (H.set id (some (cu x a s)) ++ L)) : ev E0 42 [.ptr id 0 0, i64 n] (H.set id (some (cu x a s)) ++ L) = some (i64 r, H.set id (some (cu x a' s')) ++ L) := by
  have hid := id_lt h
  have hg : hget (H.set id (some (cu x a s))) id = some (cu x a s) := hget_cu hid
  rw [e _ id (hget_app hg) hst, set_app hg, List.set_set]
theorem use_marks {x : List Int} {a s n a' s' : Int} {t : ByteArray} (e : MarksU x a s n a' s' t) {H L : Hp} {id : Nat} {b : Blk} (h : hget H id = some b) (hst : Stable (H.set id (some (cu x a s)) ++ L)) : ev E0 62 [.ptr id 0 0, i64 n] (H.set id (some (cu x a s)) ++ L) = some (st t, H.set id (some (cu x a' s')) ++ L) := by
  have hid := id_lt h
  have hg : hget (H.set id (some (cu x a s))) id = some (cu x a s) := hget_cu hid
  rw [e _ id (hget_app hg) hst, set_app hg, List.set_set]
theorem use_let7 {x : List Int} {a s a' s' k : Int} {ms : List ByteArray} (e : Let7U x a s ms a' s' k) {H L : Hp} {id : Nat} {b : Blk} {T : AV} (h : hget H id = some b) (hst : Stable (H.set id (some (cu x a s)) ++ L)) (hT : TabM (H.set id (some (cu x a s)) ++ L) id ms T) : ev E0 70 [.ptr id 0 0, .agg [T]] (H.set id (some (cu x a s)) ++ L) = some (i64 k, H.set id (some (cu x a' s')) ++ L) := by
  have hid := id_lt h
  have hg : hget (H.set id (some (cu x a s))) id = some (cu x a s) := hget_cu hid
  rw [e _ id T (hget_app hg) hst hT, set_app hg, List.set_set]
theorem use_among {x : List Int} {a s a' s' t : Int} {l : List Int} (e : AmongU x a s l a' s' t) {H L : Hp} {id : Nat} {b : Blk} (h : hget H id = some b) (hst : Stable (H.set id (some (cu x a s)) ++ L)) : ev E0 61 [.ptr id 0 0, .sl (H.length + L.length) 0 l.length] (H.set id (some (cu x a s)) ++ (L ++ [some (ib l)])) = some (i64 t, H.set id (some (cu x a' s')) ++ (L ++ [some (ib l)])) := by
  have hid := id_lt h
  have hg : hget (H.set id (some (cu x a s))) id = some (cu x a s) := hget_cu hid
  have := e _ id (hget_app hg) hst
  rwa [set_app hg, List.set_set, List.length_append, List.length_set, List.append_assoc, List.append_assoc] at this
theorem use_of {x : List Int} {a s a' s' : Int} {t : ByteArray} {l : List ByteArray} (e : OfU x a s l a' s' t) {H L : Hp} {id : Nat} {b : Blk} (h : hget H id = some b) (hst : Stable (H.set id (some (cu x a s)) ++ L)) : ev E0 69 [.ptr id 0 0, .sl (H.length + L.length) 0 l.length] (H.set id (some (cu x a s)) ++ (L ++ [some (tr l)])) = some (st t, H.set id (some (cu x a' s')) ++ (L ++ [some (tr l)])) := by
  have hid := id_lt h
  have hg : hget (H.set id (some (cu x a s))) id = some (cu x a s) := hget_cu hid
  have := e _ id (hget_app hg) hst
  rwa [set_app hg, List.set_set, List.length_append, List.length_set, List.append_assoc, List.append_assoc] at this
theorem stable_tab {H : Hp} (hs : Stable H) (id : Nat) (hid : id < H.length) (c d : ByteArray) (n : Int) (P : List ByteArray) (ls : List Blk) (hl : ∀ b ∈ ls, leafB b) :
    Stable (H ++ ([some (sQ c d n), some (kQ 0 0 0 ⟨#[]⟩), some (tr P), some (tv (.sl (H.length + 2) 0 P.length))] ++ ls.map some)) ∧ TabM (H ++ ([some (sQ c d n), some (kQ 0 0 0 ⟨#[]⟩), some (tr P), some (tv (.sl (H.length + 2) 0 P.length))] ++ ls.map some)) id P (.sl (H.length + 2) 0 P.length) := by
  have hT : TabM (H ++ [some (sQ c d n), some (kQ 0 0 0 ⟨#[]⟩), some (tr P)]) id P (.sl (H.length + 2) 0 P.length) := .inr ⟨H.length + 2, false, rfl, by omega, by
    unfold hget
    rw [List.getElem?_append_right (by omega), Nat.add_sub_cancel_left]
    rfl⟩
  have s1 : Stable (H ++ [some (sQ c d n), some (kQ 0 0 0 ⟨#[]⟩), some (tr P)]) := stable_leaves hs [sQ c d n, kQ 0 0 0 ⟨#[]⟩, tr P] (by
    intro q hq
    simp at hq
    rcases hq with rfl | rfl | rfl <;> first | exact ⟨rfl, fun _ => rfl⟩ | exact ⟨by simp [blkIds, tr], fun _ => by simp [rnmB, tr]⟩)
  have s2 := stable_leaves (stable_tv s1 hT) ls hl
  rw [List.append_assoc, List.append_assoc] at s2
  exact ⟨s2, by
    have := hT.app ([some (tv (.sl (H.length + 2) 0 P.length))] ++ ls.map some)
    rwa [List.append_assoc] at this⟩
theorem leaf2 (k u v : Int) (m : ByteArray) : ∀ b ∈ [ib l9, kQ k u v m], leafB b := by
  intro q hq
  simp at hq
  rcases hq with rfl | rfl <;> exact ⟨rfl, fun _ => rfl⟩
def KeyU (x : List Int) (c d : ByteArray) (n : Int) (a s a' s' k u v : Int) (m : ByteArray) : Prop := ∀ (H : Hp) (id : Nat), hget H id = some (cu x a s) → Stable H → ev E0 41 [.ptr id 0 0, sA c d n] H = some (kA k u v m, H.set id (some (cu x a' s')))
end Go.Proofs.YtjagdiilcphhfaaGreatDoor.Ev.Dr
