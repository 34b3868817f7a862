/- Packing behind a memory that names nothing new: what simp can compute. -/
import Derived.Test.YtgecnbafmlecjaaGreatDoorEvDraw
import Derived.Test.YtgecnbafmlecjaaGreatDoorEvParts
set_option linter.unusedVariables false
set_option linter.unusedSimpArgs false
namespace Go.Proofs.YtgecnbafmlecjaaGreatDoor.Ev.Dr
def blkAt (h0 : Nat) (ex : Hp) (id : Nat) : Option Blk := hget ex (id - h0)
def reachE (h0 : Nat) (ex : Hp) : Nat → List Nat → List Nat → List Nat
  | 0, _, acc => acc
  | _ + 1, [], acc => acc
  | d + 1, id :: r, acc => if id < h0 || acc.contains id then reachE h0 ex d r acc else
      match blkAt h0 ex id with
      | none => reachE h0 ex d r acc
      | some b => reachE h0 ex d (blkIds b ++ r) (acc ++ [id])
def pickedE (h0 : Nat) (ex : Hp) : List Nat → Hp
  | [] => []
  | id :: r => blkAt h0 ex id :: pickedE h0 ex r
def outE (H : Hp) (acc : List Nat) : Option Hp → Option (List Nat × Hp)
  | some B => some (acc, H ++ B)
  | none => none
def packE (h0 : Nat) (H ex : Hp) (roots : List Nat) : Option (List Nat × Hp) :=
  outE H (reachE h0 ex 64 roots []) (rnmH (newId h0 (reachE h0 ex 64 roots [])) (pickedE h0 ex (reachE h0 ex 64 roots [])))
theorem reach_E {H ex : Hp} {old : List Nat} (ho : ∀ q ∈ old, q < H.length) : ∀ (d : Nat) (l acc : List Nat), reach (H ++ ex) H.length d (l ++ old) acc = reachE H.length ex d l acc
  | 0, l, acc => by cases l <;> rfl
  | d + 1, [], acc => by
    have low : ∀ (d : Nat) (l acc : List Nat), (∀ q ∈ l, q < H.length) → reach (H ++ ex) H.length d l acc = acc := by
      intro d
      induction d with
      | zero => intro l acc _; rfl
      | succ d ih =>
        intro l acc hl
        cases l with
        | nil => rfl
        | cons q l =>
          have hq := hl q (by simp)
          simp only [reach, hq, decide_true, Bool.true_or, if_true]
          exact ih l acc fun z hz => hl z (by simp [hz])
    rw [List.nil_append, low _ _ _ ho]
    rfl
  | d + 1, id :: r, acc => by
    rw [List.cons_append]
    simp only [reach, reachE]
    split
    · exact reach_E ho d r acc
    · rename_i hc
      have hge : H.length ≤ id := by
        simp only [Bool.or_eq_true, decide_eq_true_eq] at hc
        omega
      have hb : hget (H ++ ex) id = blkAt H.length ex id := by
        unfold blkAt hget
        rw [List.getElem?_append_right hge]
      rw [hb]
      cases blkAt H.length ex id with
      | none => exact reach_E ho d r acc
      | some b =>
        simp only []
        rw [← List.append_assoc]
        exact reach_E ho d (blkIds b ++ r) (acc ++ [id])
theorem reachE_ge (h0 : Nat) (ex : Hp) : ∀ (d : Nat) (l acc : List Nat), (∀ q ∈ acc, h0 ≤ q) → ∀ q ∈ reachE h0 ex d l acc, h0 ≤ q
  | 0, l, acc, h => by cases l <;> exact h
  | d + 1, [], acc, h => h
  | d + 1, id :: r, acc, h => by
    simp only [reachE]
    split
    · exact reachE_ge h0 ex d r acc h
    · rename_i hc
      have hge : h0 ≤ id := by
        simp only [Bool.or_eq_true, decide_eq_true_eq] at hc
        omega
      cases blkAt h0 ex id with
      | none => exact reachE_ge h0 ex d r acc h
      | some b =>
        refine reachE_ge h0 ex d _ _ fun q hq => ?_
        rcases List.mem_append.1 hq with hq | hq
        · exact h q hq
        · rw [List.mem_singleton.1 hq]; exact hge
theorem picked_E {H ex : Hp} : ∀ (acc : List Nat), (∀ q ∈ acc, H.length ≤ q) → picked (H ++ ex) acc = pickedE H.length ex acc
  | [], _ => rfl
  | id :: r, h => by
    have hge := h id (by simp)
    have hb : hget (H ++ ex) id = blkAt H.length ex id := by
      unfold blkAt hget
      rw [List.getElem?_append_right hge]
    simp only [picked, pickedE]
    rw [hb, picked_E r fun q hq => h q (by simp [hq])]
theorem packH_E {H ex : Hp} {h0 : Nat} (hh : H.length = h0) (hs : Stable H) (roots : List Nat) : packH h0 (H ++ ex) roots = packE h0 H ex roots := by
  subst hh
  unfold packH packE
  have h1 : (H ++ ex).take H.length = H := by simp
  rw [h1]
  simp only []
  rw [reach_E hs.1, picked_E _ (reachE_ge _ _ _ _ _ (by simp))]
  generalize reachE H.length ex 64 roots [] = acc
  have h3 : rnmH (newId H.length acc) H = some H := by
    refine rnmH_le (fun i j hi => ?_) _ _ hs.2
    unfold newId at hi ⊢
    by_cases hlt : i < H.length
    · rw [if_pos hlt] at hi ⊢; exact hi
    · rw [if_neg hlt] at hi; simp at hi
  rw [h3]
  cases rnmH (newId H.length acc) (pickedE H.length ex acc) <;> rfl
theorem pe_cu {H : Hp} {id : Nat} {x : List Int} {a s : Int} (h : hget H id = some (cu x a s)) (hs : Stable H) : ∀ (a' s' : Int) (ex : Hp) roots, packH H.length (H.set id (some (cu x a' s')) ++ ex) roots = packE H.length (H.set id (some (cu x a' s'))) ex roots :=
  fun a' s' ex roots => packH_E List.length_set (stable_cu hs h a' s') roots
theorem pe_cu0 {H : Hp} {id : Nat} {x : List Int} {a s : Int} (h : hget H id = some (cu x a s)) (hs : Stable H) : ∀ (a' s' : Int) roots, packH H.length (H.set id (some (cu x a' s'))) roots = packE H.length (H.set id (some (cu x a' s'))) [] roots :=
  fun a' s' roots => by have := pe_cu h hs a' s' [] roots; rwa [List.append_nil] at this
attribute [simp] packE.eq_1 reachE.eq_1 reachE.eq_2 reachE.eq_3 pickedE.eq_1 pickedE.eq_2 outE.eq_1 outE.eq_2 blkAt.eq_1
end Go.Proofs.YtgecnbafmlecjaaGreatDoor.Ev.Dr

namespace Go.Proofs.YtgecnbafmlecjaaGreatDoor.Ev.Dr
theorem marks_loop (x : List Int) (hx : okC x) (H : Hp) (id : Nat) (a0 s0 : Int) (h : hget H id = some (cu x a0 s0)) (hs : Stable H) : ∀ (m : Nat) (a s : Int) (t : ByteArray), 0 ≤ a → a + 2 * m ≤ 500000000000 → t.size + m ≤ 1000 →
    ∃ (a' s' : Int) (t' : ByteArray), a ≤ a' ∧ a' ≤ a + 2 * m ∧ t'.size ≤ t.size + m ∧
    packX H.length [0, 5] (loopW (bd E0 (ev E0) loopW H.length [0, 5, 6] L47b0) ⟨[(0, .ptr id 0 0), (5, st t), (6, i64 m)], H.set id (some (cu x a s))⟩) = some (.ext 0, ⟨[(0, .ptr id 0 0), (5, st t')], H.set id (some (cu x a' s'))⟩) := by
  have hid := id_lt h
  have hP := pe_cu h hs
  have hP0 := pe_cu0 h hs
  intro m
  induction m with
  | zero =>
    intro a s t h0 h1 h2
    refine ⟨a, s, t, by omega, by omega, by omega, ?_⟩
    rw [loopW_eq]
    generalize loopW (bd E0 (ev E0) loopW H.length [0, 5, 6] L47b0) = K
    simp -implicitDefEqProofs [bd, L47b0, -packH, hP0, hP, hid]
  | succ m ih =>
    intro a s t h0 h1 h2
    have hsa := stable_cu hs h a s
    have hga : hget (H.set id (some (cu x a s))) id = some (cu x a s) := hget_cu hid
    obtain ⟨a1, s1, c, p1, q1, hc, e1⟩ := of_fr x hx _ [] id a s hga hsa (by simp) h0 (by omega) [⟨#[46]⟩, ⟨#[45]⟩] (by decide)
    rw [List.set_set, List.length_set] at e1
    simp only [List.map_cons, List.map_nil, List.length_cons, List.length_nil, List.nil_append, Nat.zero_add, Nat.add_zero, Nat.reduceAdd] at e1
    have hcz : c.size = 1 := by
      simp only [List.mem_cons, List.not_mem_nil, or_false] at hc
      rcases hc with rfl | rfl <;> rfl
    obtain ⟨a', s', t', k1, k2, k3, k4⟩ := ih a1 s1 (t ++ c) (by omega) (by omega) (by rw [ByteArray.size_append]; omega)
    refine ⟨a', s', t', by omega, by omega, by rw [ByteArray.size_append] at k3; omega, ?_⟩
    have hw : IntKind.i64.wrap (((m + 1 : Nat) : Int) - 1) = m := by rw [wr64 (by omega) (by omega)]; omega
    rw [cs1] at hw
    have hp0 : (0 : Int) < (m : Int) + 1 := by omega
    have hp1 : 0 < m + 1 := by omega
    have hw2 : IntKind.i64.wrap (m : Int) = m := wr64 (by omega) (by omega)
    have hsz : t.size + c.size ≤ 9223372036854775807 := by omega
    rw [loopW_eq, cs1]
    generalize loopW (bd E0 (ev E0) loopW H.length [0, 5, 6] L47b0) = K at k4 ⊢
    simpa -implicitDefEqProofs [bd, L47b0, e1, hw, hw2, hp0, hp1, hsz, -packH, hP0, hP, hid] using k4
theorem marks_ok (x : List Int) (hx : okC x) (H : Hp) (id : Nat) (a s : Int) (h : hget H id = some (cu x a s)) (hs : Stable H) (h0 : 0 ≤ a) (h1 : a ≤ 250000000000) (n : Int) (hn : 1 ≤ n ∧ n ≤ 10) :
    ∃ (a' s' : Int) (t : ByteArray), a ≤ a' ∧ a' ≤ a + 30 ∧ t.size ≤ 20 ∧ ev E0 47 [.ptr id 0 0, i64 n] H = some (st t, H.set id (some (cu x a' s'))) := by
  have hid := id_lt h
  have hP := pe_cu h hs
  have hP0 := pe_cu0 h hs
  obtain ⟨a1, s1, r, p1, q1, r0, r1, e1⟩ := pick_ok x hx H id a s h hs h0 (by omega) n
  obtain ⟨m, rfl⟩ : ∃ m : Nat, r = m := ⟨r.toNat, by omega⟩
  obtain ⟨a2, s2, t, p2, q2, zt, e2⟩ := marks_loop x hx H id a s h hs (1 + m) a1 s1 ⟨#[]⟩ (by omega) (by omega) (by show 0 + _ ≤ _; omega)
  have hz : (⟨#[]⟩ : ByteArray).size = 0 := rfl
  rw [hz] at zt
  have hs2 := stable_cu hs h a2 s2
  have hg2 : hget (H.set id (some (cu x a2 s2))) id = some (cu x a2 s2) := hget_cu hid
  obtain ⟨a3, s3, k, p3, q3, k0, k1, e3⟩ := pick_ok x hx _ id a2 s2 hg2 hs2 (by omega) (by omega) 60
  rw [List.set_set] at e3
  have hs3 := stable_cu hs h a3 s3
  have hg3 : hget (H.set id (some (cu x a3 s3))) id = some (cu x a3 s3) := hget_cu hid
  obtain ⟨a4, s4, c, p4, q4, hc, e4⟩ := of_fr x hx _ [] id a3 s3 hg3 hs3 (by simp) (by omega) (by omega) [⟨#[120]⟩, ⟨#[32]⟩, ⟨#[47]⟩] (by decide)
  rw [List.set_set, List.length_set] at e4
  simp only [List.map_cons, List.map_nil, List.length_cons, List.length_nil, List.nil_append, Nat.zero_add, Nat.add_zero, Nat.reduceAdd] at e4
  have hcz : c.size = 1 := by
    simp only [List.mem_cons, List.not_mem_nil, or_false] at hc
    rcases hc with rfl | rfl | rfl <;> rfl
  have hw : IntKind.i64.wrap (1 + (m : Int)) = ((1 + m : Nat) : Int) := by rw [wr64 (by omega) (by omega)]; omega
  have hsz : t.size + c.size ≤ 9223372036854775807 := by omega
  have h6 : (⟨#[46, 46, 46, 46, 46, 46]⟩ : ByteArray).size = 6 := rfl
  have hsz6 : t.size + (⟨#[46, 46, 46, 46, 46, 46]⟩ : ByteArray).size ≤ 9223372036854775807 := by rw [h6]; omega
  rw [e47]
  unfold runF
  by_cases hk0 : k = 0
  · refine ⟨a3, s3, ⟨#[]⟩, by omega, by omega, by decide, ?_⟩
    simp -implicitDefEqProofs [-Int.natCast_add, L47, e1, e2, e3, hw, hk0, -packH, hP, hP0, hid]
  · by_cases hk1 : k = 1
    · refine ⟨a3, s3, t ++ ⟨#[46, 46, 46, 46, 46, 46]⟩, by omega, by omega, by rw [ByteArray.size_append, h6]; omega, ?_⟩
      simp -implicitDefEqProofs [-Int.natCast_add, L47, e1, e2, e3, hw, hk0, hk1, hsz6, -packH, hP, hP0, hid]
    · by_cases hk2 : k = 2
      · refine ⟨a4, s4, t ++ c, by omega, by omega, by rw [ByteArray.size_append]; omega, ?_⟩
        simp -implicitDefEqProofs [-Int.natCast_add, L47, e1, e2, e3, e4, hw, hk0, hk1, hk2, hsz, -packH, hP, hP0, hid]
      · refine ⟨a3, s3, t, by omega, by omega, by omega, ?_⟩
        simp -implicitDefEqProofs [-Int.natCast_add, L47, e1, e2, e3, hw, hk0, hk1, hk2, -packH, hP, hP0, hid]
theorem rnmH_app (f : Nat → Option Nat) : ∀ (H ex : Hp), rnmH f H = some H → rnmH f ex = some ex → rnmH f (H ++ ex) = some (H ++ ex)
  | [], ex, _, h => h
  | o :: r, ex, h, h2 => by
    simp only [rnmH] at h
    cases h1 : rnmO f o with
    | none => rw [h1] at h; cases h
    | some p =>
      rw [h1] at h
      cases h3 : rnmH f r with
      | none => rw [h3] at h; cases h
      | some q =>
        rw [h3] at h
        simp at h
        rw [h.2] at h3
        rw [List.cons_append, rnmH, h1, rnmH_app f r ex h3 h2, h.1]
        rfl
theorem stable_ex {H ex : Hp} (hs : Stable H) (h1 : ∀ q ∈ oldIds ex, q < H.length + ex.length) (h2 : rnmH (newId (H.length + ex.length) []) ex = some ex) : Stable (H ++ ex) := by
  unfold Stable
  rw [List.length_append]
  refine ⟨fun q hq => ?_, rnmH_app _ _ _ (rnmH_le (fun i j hi => ?_) _ _ hs.2) h2⟩
  · rw [oldIds_append] at hq
    rcases List.mem_append.1 hq with h | h
    · have := hs.1 q h; omega
    · exact h1 q h
  · unfold newId at hi ⊢
    by_cases hlt : i < H.length
    · rw [if_pos hlt] at hi
      rw [if_pos (by omega)]
      exact hi
    · rw [if_neg hlt] at hi; simp at hi
theorem marks_fr (x : List Int) (hx : okC x) (H ex : Hp) (id : Nat) (a s : Int) (h : hget H id = some (cu x a s)) (hs : Stable (H ++ ex)) (h0 : 0 ≤ a) (h1 : a ≤ 250000000000) (n : Int) (hn : 1 ≤ n ∧ n ≤ 10) :
    ∃ (a' s' : Int) (t : ByteArray), a ≤ a' ∧ a' ≤ a + 30 ∧ t.size ≤ 20 ∧ ev E0 47 [.ptr id 0 0, i64 n] (H ++ ex) = some (st t, H.set id (some (cu x a' s')) ++ ex) := by
  obtain ⟨a', s', t, k1, k2, k3, e⟩ := marks_ok x hx (H ++ ex) id a s (hget_app h) hs h0 h1 n hn
  exact ⟨a', s', t, k1, k2, k3, by rw [e, set_app h]⟩
theorem nlt_add (n k : Nat) : (n + k < n) = False := by simp
def tc (o : Nat) (n : Nat) : Blk := ⟨26, 1, 0, false, [.agg [.sl o 0 n]]⟩
def t0 : Blk := ⟨26, 1, 0, false, [.agg [.v (.slice none 0 0)]]⟩
def tr (ms : List ByteArray) : Blk := ⟨9, 1, 1, false, ms.map st⟩
theorem stable_T {H : Hp} (hs : Stable H) (ms : List ByteArray) : Stable (H ++ [some t0, some (tc (H.length + 2) ms.length), some (tr ms)]) := by
  refine stable_ex hs (fun q hq => ?_) ?_
  · have h : oldIds [some t0, some (tc (H.length + 2) ms.length), some (tr ms)] = [H.length + 2] := rfl
    rw [h, List.mem_singleton] at hq
    subst hq
    simp
  · have h3 : newId (H.length + [some t0, some (tc (H.length + 2) ms.length), some (tr ms)].length) [] (H.length + 2) = some (H.length + 2) := by
      unfold newId
      rw [if_pos (by simp)]
    generalize newId (H.length + [some t0, some (tc (H.length + 2) ms.length), some (tr ms)].length) [] = f at h3
    simp -implicitDefEqProofs [t0, tc, tr, h3]
theorem table_loop (x : List Int) (hx : okC x) (H : Hp) (id : Nat) (a0 s0 : Int) (h : hget H id = some (cu x a0 s0)) (hs : Stable H) (most : Int) (hmo : 1 ≤ most ∧ most ≤ 10) : ∀ (m : Nat) (a s : Int) (ms : List ByteArray), 0 ≤ a → a + 30 * m ≤ 200000000000 → ms.length + m ≤ 1000 → (∀ t ∈ ms, t.size ≤ 20) →
    ∃ (a' s' : Int) (ms' : List ByteArray), a ≤ a' ∧ a' ≤ a + 30 * m ∧ ms'.length ≤ ms.length + m ∧ (∀ t ∈ ms', t.size ≤ 20) ∧ (1 ≤ ms.length + m → 1 ≤ ms'.length) ∧
    packX H.length [0, 2, 3] (loopW (bd E0 (ev E0) loopW H.length [0, 2, 3, 4, 5] L22b0) ⟨[(0, .ptr id 0 0), (2, .ptr H.length 0 0), (3, .ptr (H.length + 1) 0 0), (4, i64 most), (5, i64 m)], H.set id (some (cu x a s)) ++ [some t0, some (tc (H.length + 2) ms.length), some (tr ms)]⟩) =
      some (.ext 0, ⟨[(0, .ptr id 0 0), (2, .ptr H.length 0 0), (3, .ptr (H.length + 1) 0 0)], H.set id (some (cu x a' s')) ++ [some t0, some (tc (H.length + 2) ms'.length), some (tr ms')]⟩) := by
  have hid := id_lt h
  have hP := pe_cu h hs
  have hP0 := pe_cu0 h hs
  unfold t0 tc tr
  intro m
  induction m with
  | zero =>
    intro a s ms h0 h1 h2 h3
    refine ⟨a, s, ms, by omega, by omega, by omega, h3, by omega, ?_⟩
    rw [loopW_eq]
    generalize loopW (bd E0 (ev E0) loopW H.length [0, 2, 3, 4, 5] L22b0) = K
    simp -implicitDefEqProofs [bd, L22b0, -packH, hP, hP0, hid, nlt_add, List.idxOf?, List.findIdx?_cons]
  | succ m ih =>
    intro a s ms h0 h1 h2 h3
    have hsa := stable_cu hs h a s
    have hga : hget (H.set id (some (cu x a s))) id = some (cu x a s) := hget_cu hid
    have hsT := stable_T hsa ms
    rw [List.length_set] at hsT
    obtain ⟨a1, s1, t, p1, q1, zt, e1⟩ := marks_fr x hx _ _ id a s hga hsT h0 (by omega) most hmo
    rw [List.set_set] at e1
    have e2 := place_s ms (by omega) t
    have hw : IntKind.i64.wrap (((m + 1 : Nat) : Int) - 1) = m := by rw [wr64 (by omega) (by omega)]; omega
    rw [cs1] at hw
    have hp0 : (0 : Int) < (m : Int) + 1 := by omega
    have hp1 : 0 < m + 1 := by omega
    have hw2 : IntKind.i64.wrap (m : Int) = m := wr64 (by omega) (by omega)
    have htk : List.take ms.length (ms.map st) = ms.map st := List.take_of_length_le (by simp)
    unfold t0 tc tr at e1
    by_cases hpl : place t ms 0 < 0
    · obtain ⟨a', s', ms', k1, k2, k3, k4, k5, k6⟩ := ih a1 s1 (ms ++ [t]) (by omega) (by omega) (by simp; omega) (by
        intro u hu
        rcases List.mem_append.1 hu with hu | hu
        · exact h3 u hu
        · rw [List.mem_singleton.1 hu]; exact zt)
      rw [List.length_append, List.length_singleton] at k3 k5
      refine ⟨a', s', ms', by omega, by omega, by omega, k4, fun _ => k5 (by omega), ?_⟩
      have hl1 : (ms.length + 1) * 16 ≤ 140737488355328 := by omega
      have hl2 : ms.length + 1 ≤ 140737488355328 := by omega
      rw [List.map_append, List.length_append, List.length_singleton] at k6
      rw [loopW_eq, cs1]
      generalize loopW (bd E0 (ev E0) loopW H.length [0, 2, 3, 4, 5] L22b0) = K at k6 ⊢
      simpa -implicitDefEqProofs [bd, L22b0, e1, e2, hpl, hw, hw2, hp0, hp1, htk, hl1, hl2, -packH, hP, hP0, hid, nlt_add, List.idxOf?, List.findIdx?_cons] using k6
    · obtain ⟨a', s', ms', k1, k2, k3, k4, k5, k6⟩ := ih a1 s1 ms (by omega) (by omega) (by omega) h3
      have hms : 1 ≤ ms.length := by
        cases ms with
        | nil => exact absurd (show (-1 : Int) < 0 by decide) hpl
        | cons u v => simp
      refine ⟨a', s', ms', by omega, by omega, by omega, k4, fun _ => k5 (by omega), ?_⟩
      rw [loopW_eq, cs1]
      generalize loopW (bd E0 (ev E0) loopW H.length [0, 2, 3, 4, 5] L22b0) = K at k6 ⊢
      simpa -implicitDefEqProofs [bd, L22b0, e1, e2, hpl, hw, hw2, hp0, hp1, htk, -packH, hP, hP0, hid, nlt_add, List.idxOf?, List.findIdx?_cons] using k6
theorem pick_fx (x : List Int) (hx : okC x) (H ex : Hp) (id : Nat) (a s : Int) (h : hget H id = some (cu x a s)) (hs : Stable (H ++ ex)) (h0 : 0 ≤ a) (h1 : a ≤ 549755813888) (n : Int) :
    ∃ a' s' r : Int, a ≤ a' ∧ a' ≤ a + 2 ∧ 0 ≤ r ∧ (r < n ∨ r = 0) ∧ ev E0 40 [.ptr id 0 0, i64 n] (H ++ ex) = some (i64 r, H.set id (some (cu x a' s')) ++ ex) := by
  obtain ⟨a', s', r, k1, k2, k3, k4, e⟩ := pick_ok x hx (H ++ ex) id a s (hget_app h) hs h0 h1 n
  exact ⟨a', s', r, k1, k2, k3, k4, by rw [e, set_app h]⟩
theorem one_fx (x : List Int) (hx : okC x) (H ex : Hp) (id : Nat) (a s : Int) (h : hget H id = some (cu x a s)) (hs : Stable (H ++ ex)) (h0 : 0 ≤ a) (h1 : a ≤ 549755813888) (n : Int) :
    ∃ (a' s' : Int) (q : Bool), a ≤ a' ∧ a' ≤ a + 2 ∧ ev E0 51 [.ptr id 0 0, i64 n] (H ++ ex) = some (bl q, H.set id (some (cu x a' s')) ++ ex) := by
  obtain ⟨a', s', q, k1, k2, e⟩ := one_ok x hx (H ++ ex) id a s (hget_app h) hs h0 h1 n
  exact ⟨a', s', q, k1, k2, by rw [e, set_app h]⟩
/-- A row of numbers behind the memory, one of them taken. -/
theorem among_fx (x : List Int) (hx : okC x) (H ex : Hp) (id : Nat) (a s : Int) (h : hget H id = some (cu x a s)) (hs : Stable (H ++ ex)) (h0 : 0 ≤ a) (h1 : a ≤ 549755813888) (j : Nat) (l : List Int) (n : Nat) (hn : l.length = n) (hp : 0 < n) (hg : ex[j]? = some (some ⟨3, 1, 1, false, l.map i64⟩)) :
    ∃ (a' s' : Int) (t : Int), a ≤ a' ∧ a' ≤ a + 2 ∧ t ∈ l ∧ ev E0 39 [.ptr id 0 0, .sl (H.length + j) 0 n] (H ++ ex) = some (i64 t, H.set id (some (cu x a' s')) ++ ex) := by
  have hid := id_lt h
  obtain ⟨a', s', t, k1, k2, k3, e⟩ := among_ok x hx (H ++ ex) id a s (hget_app h) hs h0 h1 (H.length + j) (by omega) l n hn hp (by
    unfold hget
    rw [List.getElem?_append_right (by omega), Nat.add_sub_cancel_left, hg])
  exact ⟨a', s', t, k1, k2, k3, by rw [e, set_app h]⟩
def alph : ByteArray := ⟨#[46, 44, 45, 44, 46, 46, 44, 46, 45, 44, 45, 46, 44, 45, 45, 44, 46, 46, 46, 44, 46, 46, 45, 44, 46, 45, 46, 44, 46, 45, 45, 44, 45, 46, 46]⟩
theorem alph_parts : (partsB 44 alph).length = 11 ∧ ∀ t ∈ partsB 44 alph, t.size ≤ 20 := by
  have h := parts_lens 44 (B alph)
  refine ⟨by decide, by decide⟩
theorem table_ok (x : List Int) (hx : okC x) (H : Hp) (id : Nat) (a s : Int) (h : hget H id = some (cu x a s)) (hs : Stable H) (h0 : 0 ≤ a) (h1 : a ≤ 100000000000) :
    ∃ (a' s' : Int), a ≤ a' ∧ a' ≤ a + 2000 ∧ (ev E0 22 [.ptr id 0 0] H = some (.agg [.v (.slice none 0 0)], H.set id (some (cu x a' s'))) ∨
      ∃ ms : List ByteArray, ms.length ≤ 30 ∧ (∀ t ∈ ms, t.size ≤ 20) ∧ ev E0 22 [.ptr id 0 0] H = some (.agg [.sl H.length 0 ms.length], H.set id (some (cu x a' s')) ++ [some (tr ms)])) := by
  have hid := id_lt h
  have hP := pe_cu h hs
  have hP0 := pe_cu0 h hs
  have lf : ∀ (bs : List Blk) (H : Hp), Stable H → (∀ b ∈ bs, leafB b) → Stable (H ++ bs.map some) := fun bs H hs hb => stable_leaves hs bs hb
  have hb1 : ∀ b ∈ [t0, tr [], (⟨3, 1, 1, false, ([2, 3, 4, 5, 3] : List Int).map i64⟩ : Blk)], leafB b := by
    intro b hb
    simp at hb
    rcases hb with rfl | rfl | rfl <;> exact ⟨rfl, fun _ => rfl⟩
  obtain ⟨a1, s1, most, p1, q1, hmo, e1⟩ := among_fx x hx H _ id a s h (lf _ H hs hb1) h0 (by omega) 2 [2, 3, 4, 5, 3] 5 rfl (by decide) rfl
  have hs1 := stable_cu hs h a1 s1
  have hg1 : hget (H.set id (some (cu x a1 s1))) id = some (cu x a1 s1) := hget_cu hid
  have hs5 : Stable (H.set id (some (cu x a1 s1)) ++ [some t0, some (tr []), some (⟨3, 1, 1, false, ([2, 3, 4, 5, 3] : List Int).map i64⟩ : Blk), some (tc (H.length + 1) 0), some (⟨3, 1, 1, false, ([3, 4, 2, 5, 6, 8, 1, 10] : List Int).map i64⟩ : Blk)]) := by
    refine stable_ex hs1 (fun q hq => ?_) ?_
    · rw [List.mem_singleton.1 (show q ∈ [H.length + 1] from hq), List.length_set]
      simp
    · rw [List.length_set]
      have h3 : newId (H.length + [some t0, some (tr []), some (⟨3, 1, 1, false, ([2, 3, 4, 5, 3] : List Int).map i64⟩ : Blk), some (tc (H.length + 1) 0), some (⟨3, 1, 1, false, ([3, 4, 2, 5, 6, 8, 1, 10] : List Int).map i64⟩ : Blk)].length) [] (H.length + 1) = some (H.length + 1) := by
        unfold newId
        rw [if_pos (by simp)]
      generalize newId (H.length + [some t0, some (tr []), some (⟨3, 1, 1, false, ([2, 3, 4, 5, 3] : List Int).map i64⟩ : Blk), some (tc (H.length + 1) 0), some (⟨3, 1, 1, false, ([3, 4, 2, 5, 6, 8, 1, 10] : List Int).map i64⟩ : Blk)].length) [] = f at h3
      simp -implicitDefEqProofs [t0, tc, tr, h3]
  obtain ⟨a2, s2, n, p2, q2, hn, e2⟩ := among_fx x hx _ _ id a1 s1 hg1 hs5 (by omega) (by omega) 4 [3, 4, 2, 5, 6, 8, 1, 10] 8 rfl (by decide) rfl
  rw [List.set_set, List.length_set] at e2
  have hmo2 : 1 ≤ most ∧ most ≤ 10 := by
    simp only [List.mem_cons, List.not_mem_nil, or_false] at hmo
    omega
  obtain ⟨m, rfl⟩ : ∃ m : Nat, n = m := ⟨n.toNat, by simp only [List.mem_cons, List.not_mem_nil, or_false] at hn; omega⟩
  have hm2 : 1 ≤ m ∧ m ≤ 10 := by
    simp only [List.mem_cons, List.not_mem_nil, or_false] at hn
    omega
  obtain ⟨a3, s3, ms, p3, q3, zl, zt, zne, e3⟩ := table_loop x hx H id a s h hs most hmo2 m a2 s2 [] (by omega) (by omega) (by simp; omega) (by simp)
  have hs3 := stable_cu hs h a3 s3
  have hg3 : hget (H.set id (some (cu x a3 s3))) id = some (cu x a3 s3) := hget_cu hid
  have hsT := stable_T hs3 ms
  rw [List.length_set] at hsT
  obtain ⟨a4, s4, k, p4, q4, k0, k1, e4⟩ := pick_fx x hx _ _ id a3 s3 hg3 hsT (by omega) (by omega) 60
  rw [List.set_set] at e4
  rw [List.length_nil] at zl zne
  have hne : 1 ≤ ms.length := zne (by omega)
  unfold t0 tr at e1
  unfold t0 tr tc at e2 e3 e4
  simp only [List.map_cons, List.map_nil, List.length_nil] at e1 e2 e3
  have htk : List.take ms.length (ms.map st) = ms.map st := List.take_of_length_le (by simp)
  refine ⟨a4, s4, by omega, by omega, ?_⟩
  rw [e22]
  unfold runF
  by_cases hk0 : k = 0
  · left
    simp -implicitDefEqProofs [L22, e1, e2, e3, e4, hk0, -packH, hP, hP0, hid, nlt_add, List.idxOf?, List.findIdx?_cons]
  · right
    by_cases hk1 : k = 1
    · obtain ⟨u, v, rfl⟩ : ∃ u v, ms = u :: v := by
        cases ms with
        | nil => simp at hne
        | cons u v => exact ⟨u, v, rfl⟩
      refine ⟨u :: v ++ [u], by simp at zl ⊢; omega, fun t ht => ?_, ?_⟩
      · rcases List.mem_append.1 ht with ht | ht
        · exact zt t ht
        · rw [List.mem_singleton.1 ht]; exact zt u (by simp)
      · have hl1 : (v.length + 1 + 1) * 16 ≤ 140737488355328 := by simp at zl; omega
        have hl2 : v.length + 1 + 1 ≤ 140737488355328 := by simp at zl; omega
        have htv : List.take v.length (v.map st) = v.map st := List.take_of_length_le (by simp)
        simp only [List.map_cons, List.length_cons] at e3 e4
        simp -implicitDefEqProofs [L22, e1, e2, e3, e4, hk0, hk1, hl1, hl2, htk, htv, tr, -packH, hP, hP0, hid, nlt_add, List.idxOf?, List.findIdx?_cons]
    · by_cases hk2 : k = 2
      · obtain ⟨c1, c2⟩ := alph_parts
        have hsp := split_s alph (by decide) 44
        rw [show ((44 : UInt8).toNat : Int) = 44 from rfl, c1] at hsp
        unfold alph at hsp
        refine ⟨partsB 44 alph, by omega, c2, ?_⟩
        rw [c1]
        unfold alph tr
        simp -implicitDefEqProofs [L22, e1, e2, e3, e4, hk0, hk1, hk2, hsp, -packH, hP, hP0, hid, nlt_add, List.idxOf?, List.findIdx?_cons]
      · refine ⟨ms, by omega, zt, ?_⟩
        simp -implicitDefEqProofs [L22, e1, e2, e3, e4, hk0, hk1, hk2, tr, -packH, hP, hP0, hid, nlt_add, List.idxOf?, List.findIdx?_cons]
end Go.Proofs.YtgecnbafmlecjaaGreatDoor.Ev.Dr

namespace Go.Proofs.YtgecnbafmlecjaaGreatDoor.Ev.Dr
def ib (r : List Int) : Blk := ⟨3, 1, 1, false, r.map i64⟩
def tv (T : AV) : Blk := ⟨26, 1, 0, false, [.agg [T]]⟩
/-- A table's rows, as a value: none, or a slice of the memory's first blocks. -/
def TabM (H : Hp) (id : Nat) (ms : List ByteArray) (T : AV) : Prop := (T = .v (.slice none 0 0) ∧ ms = []) ∨ ∃ i ro, T = .sl i 0 ms.length ∧ i ≠ id ∧ hget H i = some ⟨9, 1, 1, ro, ms.map st⟩
theorem tab_live {H : Hp} {id i : Nat} {b : Blk} (hne : i ≠ id) (h : hget H i = some b) : ∀ (c : Option Blk) (ex : Hp), (H.set id c ++ ex)[i]? = some (some b) := by
  intro c ex
  rw [List.getElem?_append_left (by rw [List.length_set]; exact id_lt h), List.getElem?_set_ne (fun e => hne e.symm)]
  exact hget_some h
theorem stable_tv {H : Hp} (hs : Stable H) {id : Nat} {ms : List ByteArray} {T : AV} (hT : TabM H id ms T) : Stable (H ++ [some (tv T)]) := by
  rcases hT with ⟨rfl, _⟩ | ⟨i, ro, rfl, _, hb⟩
  · exact stable_leaves hs [tv _] (by intro b hb; simp at hb; subst hb; exact ⟨rfl, fun _ => rfl⟩)
  · have hi := id_lt hb
    refine stable_ex hs (fun q hq => ?_) ?_
    · rw [List.mem_singleton.1 (show q ∈ [i] from hq)]
      simp; omega
    · have h3 : newId (H.length + [some (tv (.sl i 0 ms.length))].length) [] i = some i := by
        unfold newId
        rw [if_pos (by simp; omega)]
      generalize newId (H.length + [some (tv (.sl i 0 ms.length))].length) [] = f at h3
      simp -implicitDefEqProofs [tv, h3]
theorem TabM.set {H : Hp} {id : Nat} {ms : List ByteArray} {T : AV} (hT : TabM H id ms T) (c : Option Blk) : TabM (H.set id c) id ms T := by
  rcases hT with hT | ⟨i, ro, h1, h2, h3⟩
  · exact .inl hT
  · exact .inr ⟨i, ro, h1, h2, by rw [hget_ne (fun e => h2 e.symm)]; exact h3⟩
theorem TabM.app {H : Hp} {id : Nat} {ms : List ByteArray} {T : AV} (hT : TabM H id ms T) (ex : Hp) : TabM (H ++ ex) id ms T := by
  rcases hT with hT | ⟨i, ro, h1, h2, h3⟩
  · exact .inl hT
  · exact .inr ⟨i, ro, h1, h2, hget_app h3⟩
theorem most_d (a b : Int) : ev E0 50 [i64 a, i64 b] [] = some (i64 (if b < a then a else b), []) := by
  rw [e50]
  unfold runF
  by_cases h : b < a
  · simp -implicitDefEqProofs [L50, h]
  · simp -implicitDefEqProofs [L50, h]
theorem table_nil : ev E0 30 [.agg [.v (.slice none 0 0)]] [] = some (bl false, []) := by
  rw [e30]
  unfold runF
  simp -implicitDefEqProofs [L30, in_s]
theorem among_ls (x : List Int) (hx : okC x) (H : Hp) (id : Nat) (a s : Int) (h : hget H id = some (cu x a s)) (hs : Stable H) (h0 : 0 ≤ a) (h1 : a ≤ 549755813888) (l : List Int) (hp : 0 < l.length) :
    ∃ (a' s' : Int) (t : Int), a ≤ a' ∧ a' ≤ a + 2 ∧ t ∈ l ∧ ev E0 39 [.ptr id 0 0, .lst 1 (l.map i64)] H = some (i64 t, H.set id (some (cu x a' s'))) := by
  obtain ⟨a', s', r, k1, k2, r0, r1, e⟩ := pick_ok x hx H id a s h hs h0 h1 l.length
  obtain ⟨k, rfl⟩ : ∃ k : Nat, r = k := ⟨r.toNat, by omega⟩
  have hk : k < l.length := by omega
  refine ⟨a', s', l[k], k1, k2, List.getElem_mem hk, ?_⟩
  have hx2 : l[k]? = some l[k] := List.getElem?_eq_getElem hk
  generalize l[k] = t at *
  have hx3 : ∀ h, l[k]'h = t := fun h => (List.getElem?_eq_some_iff.1 hx2).2
  have hki : (k : Int) < (l.length : Int) := by omega
  have pk2 := pk_cu h hs
  rw [e39]
  unfold runF
  simp -implicitDefEqProofs [L39, e, hx3, hk, hki, -pack, -packH, pk2]
theorem of_ls (x : List Int) (hx : okC x) (H : Hp) (id : Nat) (a s : Int) (h : hget H id = some (cu x a s)) (hs : Stable H) (h0 : 0 ≤ a) (h1 : a ≤ 549755813888) (l : List ByteArray) (hp : 0 < l.length) :
    ∃ (a' s' : Int) (t : ByteArray), a ≤ a' ∧ a' ≤ a + 2 ∧ t ∈ l ∧ ev E0 67 [.ptr id 0 0, .lst 1 (l.map st)] H = some (st t, H.set id (some (cu x a' s'))) := by
  obtain ⟨a', s', r, k1, k2, r0, r1, e⟩ := pick_ok x hx H id a s h hs h0 h1 l.length
  obtain ⟨k, rfl⟩ : ∃ k : Nat, r = k := ⟨r.toNat, by omega⟩
  have hk : k < l.length := by omega
  refine ⟨a', s', l[k], k1, k2, List.getElem_mem hk, ?_⟩
  have hx2 : l[k]? = some l[k] := List.getElem?_eq_getElem hk
  generalize l[k] = t at *
  have hx3 : ∀ h, l[k]'h = t := fun h => (List.getElem?_eq_some_iff.1 hx2).2
  have hki : (k : Int) < (l.length : Int) := by omega
  have pk2 := pk_cu h hs
  rw [e67]
  unfold runF
  simp -implicitDefEqProofs [L67, e, hx3, hk, hki, -pack, -packH, pk2]
end Go.Proofs.YtgecnbafmlecjaaGreatDoor.Ev.Dr

namespace Go.Proofs.YtgecnbafmlecjaaGreatDoor.Ev.Dr
/-- A table's rows, as a value: none, or a slice of the memory's first blocks. -/
def TabAt (H : Hp) (id : Nat) (n : Nat) (T : AV) : Prop := (T = .v (.slice none 0 0) ∧ n = 0) ∨ ∃ i b, T = .sl i 0 n ∧ i ≠ id ∧ hget H i = some b
theorem stable_L {H : Hp} (hs : Stable H) {id n : Nat} {T : AV} (hT : TabAt H id n T) (r : List Int) : Stable (H ++ [some (tv T), some (ib r)]) := by
  rcases hT with ⟨rfl, _⟩ | ⟨i, b, rfl, _, hb⟩
  · exact stable_leaves hs [tv _, ib r] (by intro b hb; simp at hb; rcases hb with rfl | rfl <;> exact ⟨rfl, fun _ => rfl⟩)
  · have hi := id_lt hb
    refine stable_ex hs (fun q hq => ?_) ?_
    · rw [List.mem_singleton.1 (show q ∈ [i] from hq)]
      simp; omega
    · have h3 : newId (H.length + [some (tv (.sl i 0 n)), some (ib r)].length) [] i = some i := by
        unfold newId
        rw [if_pos (by simp; omega)]
      generalize newId (H.length + [some (tv (.sl i 0 n)), some (ib r)].length) [] = f at h3
      simp -implicitDefEqProofs [tv, ib, h3]
end Go.Proofs.YtgecnbafmlecjaaGreatDoor.Ev.Dr

namespace Go.Proofs.YtgecnbafmlecjaaGreatDoor.Ev.Dr
theorem st1 (x : List Int) (a s : Int) : Stable [some t0, some (cu x a s)] := ⟨by simp [oldIds, t0, cu], rfl⟩
theorem st2 (x : List Int) (a s : Int) : Stable [some t0, some (cu x a s), some t0] := ⟨by simp [oldIds, t0, cu], rfl⟩
theorem st3 (x : List Int) (a s : Int) (ms : List ByteArray) (n : Nat) : Stable [some t0, some (cu x a s), some (tr ms), some (tc 2 n)] := ⟨by simp [oldIds, t0, cu, tr, tc], rfl⟩
/-- A table drawn by the first cursor: none, or one. -/
theorem pre_tab (x : List Int) (hx : okC x) (a0 s0 : Int) (h0 : 0 ≤ a0) (h1 : a0 ≤ 100000000000) : ∃ a s : Int, a0 ≤ a ∧ a ≤ a0 + 2000 ∧ (ev E0 22 [.ptr 1 0 0] [some t0, some (cu x a0 s0)] = some (.agg [.v (.slice none 0 0)], [some t0, some (cu x a s)]) ∨
    ∃ ms : List ByteArray, ms.length ≤ 30 ∧ (∀ t ∈ ms, t.size ≤ 20) ∧ ev E0 22 [.ptr 1 0 0] [some t0, some (cu x a0 s0)] = some (.agg [.sl 2 0 ms.length], [some t0, some (cu x a s), some (tr ms)])) := by
  obtain ⟨a, s, p1, p2, h⟩ := table_ok x hx [some t0, some (cu x a0 s0)] 1 a0 s0 rfl (st1 x a0 s0) h0 h1
  exact ⟨a, s, p1, p2, h⟩
theorem pick_at (x : List Int) (hx : okC x) (H : Hp) (a s : Int) (h : hget H 1 = some (cu x a s)) (hs : Stable H) (h0 : 0 ≤ a) (h1 : a ≤ 100000000000) (n : Int) :
    ∃ a' s' r : Int, a ≤ a' ∧ a' ≤ a + 2 ∧ 0 ≤ r ∧ (r < n ∨ r = 0) ∧ ev E0 40 [.ptr 1 0 0, i64 n] H = some (i64 r, H.set 1 (some (cu x a' s'))) := by
  obtain ⟨a', s', r, k⟩ := pick_ok x hx H 1 a s h hs h0 (by omega) n
  exact ⟨a', s', r, k⟩
/-- What a table is, behind a draw. -/
def TabR (T : AV) (H : Hp) : Prop := (T = .agg [.v (.slice none 0 0)] ∧ H = []) ∨ ∃ ms : List ByteArray, ms.length ≤ 30 ∧ (∀ t ∈ ms, t.size ≤ 20) ∧ T = .agg [.sl 0 0 ms.length] ∧ H = [some (tr ms)]
/-- What a table and numbers are, behind a draw. -/
def TabL (T L : AV) (H : Hp) (r : List Int) : Prop := (T = .agg [.v (.slice none 0 0)] ∧ L = .sl 0 0 r.length ∧ H = [some (ib r)]) ∨ ∃ ms : List ByteArray, ms.length ≤ 30 ∧ (∀ t ∈ ms, t.size ≤ 20) ∧ T = .agg [.sl 0 0 ms.length] ∧ L = .sl 1 0 r.length ∧ H = [some (tr ms), some (ib r)]
end Go.Proofs.YtgecnbafmlecjaaGreatDoor.Ev.Dr

