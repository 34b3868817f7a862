/- Marks and letters of a table, letters added and swapped, times of marks. -/
import Derived.Test.YtjagdiilcphhfaaGreatDoorEvTa2
import Derived.Test.YtjagdiilcphhfaaGreatDoorEvDrawBs
set_option linter.unusedVariables false
set_option linter.unusedSimpArgs false
namespace Go.Proofs.YtjagdiilcphhfaaGreatDoor.Ev
def okMk (ms : List ByteArray) (k : Int) : Bool := okTable ms && okLetter ms k
theorem at_letter {ms : List ByteArray} {k : Int} (h : okLetter ms k = true) : ∃ n : Nat, k = n ∧ n < ms.length ∧ (ms.map st)[n]? = some (st (mk_ ms n)) := by
  obtain ⟨h0, h1⟩ := okLetter_bounds h
  obtain ⟨n, rfl⟩ : ∃ n : Nat, k = n := ⟨k.toNat, by omega⟩
  have hn : n < ms.length := by omega
  exact ⟨n, rfl, hn, by rw [List.getElem?_map, List.getElem?_eq_getElem hn, mk_at hn]; rfl⟩
theorem letter_in (ms : List ByteArray) (hm : ms.length ≤ 100000) (k : Int) : IntKind.i64.wrap ((ms.length : Int) - 1) = (ms.length : Int) - 1 ∧ ev E0 47 [i64 k, i64 0, i64 ((ms.length : Int) - 1)] [] = some (bl (okLetter ms k), []) := by
  refine ⟨wr64 (by omega) (by omega), ?_⟩
  rw [in_s]
  rfl
def okLt (ms : List ByteArray) (x : ByteArray) : Bool := okTable ms && okMarks x 1 5
def ltOf (ms : List ByteArray) (x : ByteArray) : AV := .tup [i64 (if okLt ms x = true then (if place x ms 0 < 0 then 0 else place x ms 0) else 0), bl (okLt ms x && decide (0 ≤ place x ms 0))]
theorem own_s (ms : List ByteArray) (h0 : 0 < ms.length) (hm : ms.length ≤ 100000) : ev E0 93 [.lst 1 (ms.map st)] [] = some (.sl 0 0 ms.length, [some (sB ms)]) := by
  obtain ⟨m, t, rfl⟩ : ∃ m t, ms = m :: t := by
    cases ms with
    | nil => simp at h0
    | cons m t => exact ⟨m, t, rfl⟩
  rw [List.length_cons] at hm
  have l1 : t.length + 1 ≤ 140737488355328 := by omega
  have l2 : (t.length + 1) * 16 ≤ 140737488355328 := by omega
  have hl : (t.map st).length = t.length := List.length_map _
  rw [e93]
  unfold runF sB
  rw [List.map_cons, List.length_cons]
  generalize t.map st = R at *
  simp -implicitDefEqProofs [L93, l1, l2, hl]
theorem clone_i (ms : List ByteArray) (h0 : 0 < ms.length) (hm : ms.length ≤ 100000) : ev E0 80 [.lst 1 (ms.map st)] [] = some (.sl 0 0 ms.length, [some (sB ms)]) := by
  obtain ⟨m, t, rfl⟩ : ∃ m t, ms = m :: t := by
    cases ms with
    | nil => simp at h0
    | cons m t => exact ⟨m, t, rfl⟩
  rw [List.length_cons] at hm
  have l1 : t.length + 1 ≤ 140737488355328 := by omega
  have l2 : (t.length + 1) * 16 ≤ 140737488355328 := by omega
  have hl : (t.map st).length = t.length := List.length_map _
  rw [e80]
  unfold runF sB
  rw [List.map_cons, List.length_cons]
  generalize t.map st = R at *
  simp -implicitDefEqProofs [L80, l1, l2, hl]
def addOk (ms : List ByteArray) (x : ByteArray) : Bool := okTable ms && okTable (ms ++ [x])
theorem add_s (ms : List ByteArray) (hm : ms.length ≤ 1000) (hz : ∀ m ∈ ms, m.size ≤ 1000) (x : ByteArray) (hx : x.size ≤ 1073741824) : ev E0 74 [.agg [.lst 1 (ms.map st)], st x] [] = if addOk ms x = true then some (.tup [.agg [.sl 0 0 (ms.length + 1)], bl true], [some (sB (ms ++ [x]))]) else some (.tup [.agg [.v (.slice none 0 0)], bl false], []) := by
  have h1 := table_s ms (by omega) (fun x hx => by have := hz x hx; omega)
  unfold addOk
  rw [e74]
  unfold runF
  cases ho : okTable ms with
  | false => rw [ho] at h1; simp -implicitDefEqProofs [L74, h1]
  | true =>
    rw [ho] at h1
    have hl := okTable_len ho
    have h2 := own_s ms (by omega) (by omega)
    have h3 := table_s (ms ++ [x]) (by simp; omega) (fun y hy => by
      rcases List.mem_append.1 hy with hy | hy
      · have := hz y hy; omega
      · rw [List.mem_singleton.1 hy]; omega)
    have l1 : ms.length + 1 ≤ 140737488355328 := by omega
    have l2 : (ms.length + 1) * 16 ≤ 140737488355328 := by omega
    rw [List.map_append, List.map_singleton] at h3
    unfold sB at h2 ⊢
    rw [List.map_append, List.map_singleton]
    have ht : List.take (ms.length + 1) (ms.map st ++ [st x]) = ms.map st ++ [st x] := List.take_of_length_le (by simp)
    cases h4 : okTable (ms ++ [x]) with
    | false => rw [h4] at h3; simp -implicitDefEqProofs [L74, h1, h2, h3, l1, l2, ht]
    | true => rw [h4] at h3; simp -implicitDefEqProofs [L74, h1, h2, h3, l1, l2, ht]
theorem add_i (ms : List ByteArray) (hm : ms.length ≤ 1000) (hz : ∀ m ∈ ms, m.size ≤ 1000) (x : ByteArray) (hx : x.size ≤ 1073741824) : ev E0 57 [.agg [.lst 1 (ms.map st)], st x] [] = if addOk ms x = true then some (.tup [.agg [.sl 0 0 (ms.length + 1)], bl true], [some (sB (ms ++ [x]))]) else some (.tup [.agg [.v (.slice none 0 0)], bl false], []) := by
  have h1 := table_i ms (by omega) (fun x hx => by have := hz x hx; omega)
  unfold addOk
  rw [e57]
  unfold runF
  cases ho : okTable ms with
  | false => rw [ho] at h1; simp -implicitDefEqProofs [L57, h1]
  | true =>
    rw [ho] at h1
    have hl := okTable_len ho
    have h2 := clone_i ms (by omega) (by omega)
    have h3 := table_i (ms ++ [x]) (by simp; omega) (fun y hy => by
      rcases List.mem_append.1 hy with hy | hy
      · have := hz y hy; omega
      · rw [List.mem_singleton.1 hy]; omega)
    have l1 : ms.length + 1 ≤ 140737488355328 := by omega
    have l2 : (ms.length + 1) * 16 ≤ 140737488355328 := by omega
    rw [List.map_append, List.map_singleton] at h3
    unfold sB at h2 ⊢
    rw [List.map_append, List.map_singleton]
    have ht : List.take (ms.length + 1) (ms.map st ++ [st x]) = ms.map st ++ [st x] := List.take_of_length_le (by simp)
    cases h4 : okTable (ms ++ [x]) with
    | false => rw [h4] at h3; simp -implicitDefEqProofs [L57, h1, h2, h3, l1, l2, ht]
    | true => rw [h4] at h3; simp -implicitDefEqProofs [L57, h1, h2, h3, l1, l2, ht]
def swOk (ms : List ByteArray) (i j : Int) : Bool := okTable ms && (okLetter ms i && okLetter ms j)
def swT (ms : List ByteArray) (i j : Nat) : List ByteArray := (ms.set i (mk_ ms j)).set j (mk_ ms i)
theorem swap_s (ms : List ByteArray) (hm : ms.length ≤ 1000) (hz : ∀ m ∈ ms, m.size ≤ 1000) (i j : Int) : ev E0 75 [.agg [.lst 1 (ms.map st)], i64 i, i64 j] [] = if swOk ms i j = true then some (.tup [.agg [.sl 0 0 ms.length], bl true], [some (sB (swT ms i.toNat j.toNat))]) else some (.tup [.agg [.v (.slice none 0 0)], bl false], []) := by
  have h1 := table_s ms (by omega) (fun x hx => by have := hz x hx; omega)
  obtain ⟨hw, h2⟩ := letter_in ms (by omega) i
  obtain ⟨-, h3⟩ := letter_in ms (by omega) j
  unfold swOk
  rw [e75]
  unfold runF
  cases ho : okTable ms with
  | false => rw [ho] at h1; simp -implicitDefEqProofs [L75, h1]
  | true =>
    rw [ho] at h1
    cases hi : okLetter ms i with
    | false => rw [hi] at h2; simp -implicitDefEqProofs [L75, h1, h2, hw]
    | true =>
      rw [hi] at h2
      cases hj : okLetter ms j with
      | false => rw [hj] at h3; simp -implicitDefEqProofs [L75, h1, h2, h3, hw]
      | true =>
        rw [hj] at h3
        obtain ⟨a, rfl, ha, ga⟩ := at_letter hi
        obtain ⟨b, rfl, hb, gb⟩ := at_letter hj
        have h4 := own_s ms (by omega) (by omega)
        have ga2 : ∀ h, (ms.map st)[a]'h = st (mk_ ms a) := fun h => (List.getElem?_eq_some_iff.1 ga).2
        have gb2 : ∀ h, (ms.map st)[b]'h = st (mk_ ms b) := fun h => (List.getElem?_eq_some_iff.1 gb).2
        have a2 : (a : Int) < (ms.length : Int) := by omega
        have b2 : (b : Int) < (ms.length : Int) := by omega
        have hl : (ms.map st).length = ms.length := List.length_map _
        have hS : ((ms.map st).set a (st (mk_ ms b))).set b (st (mk_ ms a)) = (swT ms a b).map st := by unfold swT; rw [List.map_set, List.map_set]
        have gs : ∀ h, ((ms.map st).set a (.v (.string (mk_ ms b))))[b]'h = .v (.string (mk_ ms b)) := fun h => by
          rw [List.getElem_set]
          split
          · rfl
          · exact gb2 _
        unfold sB at h4 ⊢
        rw [Int.toNat_natCast, Int.toNat_natCast, ← hS]
        generalize mk_ ms a = ma at *
        generalize mk_ ms b = mb at *
        simp -implicitDefEqProofs [L75, h1, h2, h3, h4, hw, ha, hb, a2, b2, ga, gb, ga2, gb2, gs, hl]
theorem swap_i (ms : List ByteArray) (hm : ms.length ≤ 1000) (hz : ∀ m ∈ ms, m.size ≤ 1000) (i j : Int) : ev E0 58 [.agg [.lst 1 (ms.map st)], i64 i, i64 j] [] = if swOk ms i j = true then some (.tup [.agg [.sl 0 0 ms.length], bl true], [some (sB (swT ms i.toNat j.toNat))]) else some (.tup [.agg [.v (.slice none 0 0)], bl false], []) := by
  have h1 := table_i ms (by omega) (fun x hx => by have := hz x hx; omega)
  have h2 := letter_i ms (by omega) i
  have h3 := letter_i ms (by omega) j
  unfold swOk
  rw [e58]
  unfold runF
  cases ho : okTable ms with
  | false => rw [ho] at h1; simp -implicitDefEqProofs [L58, h1]
  | true =>
    rw [ho] at h1
    cases hi : okLetter ms i with
    | false => rw [hi] at h2; simp -implicitDefEqProofs [L58, h1, h2]
    | true =>
      rw [hi] at h2
      cases hj : okLetter ms j with
      | false => rw [hj] at h3; simp -implicitDefEqProofs [L58, h1, h2, h3]
      | true =>
        rw [hj] at h3
        obtain ⟨a, rfl, ha, ga⟩ := at_letter hi
        obtain ⟨b, rfl, hb, gb⟩ := at_letter hj
        have h4 := clone_i ms (by omega) (by omega)
        have ga2 : ∀ h, (ms.map st)[a]'h = st (mk_ ms a) := fun h => (List.getElem?_eq_some_iff.1 ga).2
        have gb2 : ∀ h, (ms.map st)[b]'h = st (mk_ ms b) := fun h => (List.getElem?_eq_some_iff.1 gb).2
        have a2 : (a : Int) < (ms.length : Int) := by omega
        have b2 : (b : Int) < (ms.length : Int) := by omega
        have hl : (ms.map st).length = ms.length := List.length_map _
        have hS : ((ms.map st).set a (st (mk_ ms b))).set b (st (mk_ ms a)) = (swT ms a b).map st := by unfold swT; rw [List.map_set, List.map_set]
        have gs : ∀ h, ((ms.map st).set a (.v (.string (mk_ ms b))))[b]'h = .v (.string (mk_ ms b)) := fun h => by
          rw [List.getElem_set]
          split
          · rfl
          · exact gb2 _
        unfold sB at h4 ⊢
        rw [Int.toNat_natCast, Int.toNat_natCast, ← hS]
        generalize mk_ ms a = ma at *
        generalize mk_ ms b = mb at *
        simp (maxSteps := 4000000) -implicitDefEqProofs [L58, h1, h2, h3, h4, ha, hb, a2, b2, ga, gb, ga2, gb2, gs, hl]
end Go.Proofs.YtjagdiilcphhfaaGreatDoor.Ev
