/- The draws of noises, letters, and of the laws on noises. -/
import Derived.Test.YtpfefmofecmjjaaDoorEvDrawT
set_option linter.unusedVariables false
set_option linter.unusedSimpArgs false
namespace Go.Proofs.YtpfefmofecmjjaaDoor.Ev.Dr
def ib (r : List Int) : Blk := ⟨3, 1, 1, false, r.map i64⟩
def tv (T : AV) : Blk := ⟨26, 1, 0, false, [.agg [T]]⟩
/-- A table's rows, as a value: none, or a slice of the memory's first blocks. -/
def TabM (H : Hp) (id : Nat) (ms : List ByteArray) (T : AV) : Prop := (T = .v (.slice none 0 0) ∧ ms = []) ∨ ∃ i ro, T = .sl i 0 ms.length ∧ i ≠ id ∧ hget H i = some ⟨9, 1, 1, ro, ms.map st⟩
theorem tab_live {H : Hp} {id i : Nat} {b : Blk} (hne : i ≠ id) (h : hget H i = some b) : ∀ (c : Option Blk) (ex : Hp), (H.set id c ++ ex)[i]? = some (some b) := by
  intro c ex
  rw [List.getElem?_append_left (by rw [List.length_set]; exact id_lt h), List.getElem?_set_ne (fun e => hne e.symm)]
  exact hget_some h
theorem stable_tv {H : Hp} (hs : Stable H) {id : Nat} {ms : List ByteArray} {T : AV} (hT : TabM H id ms T) : Stable (H ++ [some (tv T)]) := by
  rcases hT with ⟨rfl, _⟩ | ⟨i, ro, rfl, _, hb⟩
  · exact stable_leaves hs [tv _] (by intro b hb; simp at hb; subst hb; exact ⟨rfl, fun _ => rfl⟩)
  · have hi := id_lt hb
    refine stable_ex hs (fun q hq => ?_) ?_
    · rw [List.mem_singleton.1 (show q ∈ [i] from hq)]
      simp; omega
    · have h3 : newId (H.length + [some (tv (.sl i 0 ms.length))].length) [] i = some i := by
        unfold newId
        rw [if_pos (by simp; omega)]
      generalize newId (H.length + [some (tv (.sl i 0 ms.length))].length) [] = f at h3
      simp -implicitDefEqProofs [tv, h3]
theorem TabM.set {H : Hp} {id : Nat} {ms : List ByteArray} {T : AV} (hT : TabM H id ms T) (c : Option Blk) : TabM (H.set id c) id ms T := by
  rcases hT with hT | ⟨i, ro, h1, h2, h3⟩
  · exact .inl hT
  · exact .inr ⟨i, ro, h1, h2, by rw [hget_ne (fun e => h2 e.symm)]; exact h3⟩
theorem TabM.app {H : Hp} {id : Nat} {ms : List ByteArray} {T : AV} (hT : TabM H id ms T) (ex : Hp) : TabM (H ++ ex) id ms T := by
  rcases hT with hT | ⟨i, ro, h1, h2, h3⟩
  · exact .inl hT
  · exact .inr ⟨i, ro, h1, h2, hget_app h3⟩
theorem most_d (a b : Int) : ev E0 54 [i64 a, i64 b] [] = some (i64 (if b < a then a else b), []) := by
  rw [e54]
  unfold runF
  by_cases h : b < a
  · simp -implicitDefEqProofs [L54, h]
  · simp -implicitDefEqProofs [L54, h]
def nb (a b : Int) : Blk := ⟨28, 2, 0, false, [.agg [i64 a, i64 b]]⟩
theorem leaf_nb (a b : Int) : leafB (nb a b) := ⟨rfl, fun _ => rfl⟩
theorem leaf_ib (l : List Int) : leafB (ib l) := ⟨rfl, fun _ => rfl⟩
theorem stab {H : Hp} (hs : Stable H) (bs : List Blk) (hb : ∀ b ∈ bs, leafB b) : Stable (H ++ bs.map some) := stable_leaves hs bs hb
theorem among_ls (x : List Int) (hx : okC x) (H : Hp) (id : Nat) (a s : Int) (h : hget H id = some (cu x a s)) (hs : Stable H) (h0 : 0 ≤ a) (h1 : a ≤ 549755813888) (l : List Int) (hp : 0 < l.length) :
    ∃ (a' s' : Int) (t : Int), a ≤ a' ∧ a' ≤ a + 2 ∧ t ∈ l ∧ ev E0 50 [.ptr id 0 0, .lst 1 (l.map i64)] H = some (i64 t, H.set id (some (cu x a' s'))) := by
  obtain ⟨a', s', r, k1, k2, r0, r1, e⟩ := pick_ok x hx H id a s h hs h0 h1 l.length
  obtain ⟨k, rfl⟩ : ∃ k : Nat, r = k := ⟨r.toNat, by omega⟩
  have hk : k < l.length := by omega
  refine ⟨a', s', l[k], k1, k2, List.getElem_mem hk, ?_⟩
  have hx2 : l[k]? = some l[k] := List.getElem?_eq_getElem hk
  generalize l[k] = t at *
  have hx3 : ∀ h, l[k]'h = t := fun h => (List.getElem?_eq_some_iff.1 hx2).2
  have hki : (k : Int) < (l.length : Int) := by omega
  have pk2 := pk_cu h hs
  rw [e50]
  unfold runF
  simp -implicitDefEqProofs [L50, e, hx3, hk, hki, -pack, -packH, pk2]
theorem noise7_ok (x : List Int) (hx : okC x) (H : Hp) (id : Nat) (a s : Int) (h : hget H id = some (cu x a s)) (hs : Stable H) (h0 : 0 ≤ a) (h1 : a ≤ 200000000000) :
    ∃ (a' s' u v : Int), a ≤ a' ∧ a' ≤ a + 20 ∧ ev E0 29 [.ptr id 0 0] H = some (.agg [i64 u, i64 v], H.set id (some (cu x a' s'))) := by
  have hid := id_lt h
  have hP := pe_cu h hs
  have hP0 := pe_cu0 h hs
  have lf : ∀ (G : Hp) (bs : List Blk), Stable G → (∀ b ∈ bs, leafB b) → Stable (G ++ bs.map some) := fun G bs hG hb => stable_leaves hG bs hb
  obtain ⟨a1, s1, v0, p1, q1, hv0, e1⟩ := among_fx x hx H [some (nb 0 0), some (ib [10, 4, 2, 3, 1, 100, 7])] id a s h (lf H [nb 0 0, ib [10, 4, 2, 3, 1, 100, 7]] hs (by intro b hb; simp at hb; rcases hb with rfl | rfl; exact leaf_nb _ _; exact leaf_ib _)) h0 (by omega) 1 [10, 4, 2, 3, 1, 100, 7] 7 rfl (by decide) rfl
  have hg : ∀ a' s' : Int, hget (H.set id (some (cu x a' s'))) id = some (cu x a' s') := fun a' s' => hget_cu hid
  have hst : ∀ a' s' : Int, Stable (H.set id (some (cu x a' s'))) := fun a' s' => stable_cu hs h a' s'
  obtain ⟨a2, s2, r, p2, q2, r0, r1, e2⟩ := pick_fx x hx _ [some (nb 0 0), some (ib [10, 4, 2, 3, 1, 100, 7]), some (nb 0 v0)] id a1 s1 (hg a1 s1) (lf _ [nb 0 0, ib [10, 4, 2, 3, 1, 100, 7], nb 0 v0] (hst a1 s1) (by intro b hb; simp at hb; rcases hb with rfl | rfl | rfl; exact leaf_nb _ _; exact leaf_ib _; exact leaf_nb _ _)) (by omega) (by omega) (IntKind.i64.wrap (v0 + 1))
  rw [List.set_set] at e2
  obtain ⟨a3, s3, u0, p3, q3, hu0, e3⟩ := among_ls x hx (H.set id (some (cu x a2 s2)) ++ [some (nb 0 0), some (ib [10, 4, 2, 3, 1, 100, 7]), some (nb 0 v0)]) id a2 s2 (hget_app (hg a2 s2)) (lf _ [nb 0 0, ib [10, 4, 2, 3, 1, 100, 7], nb 0 v0] (hst a2 s2) (by intro b hb; simp at hb; rcases hb with rfl | rfl | rfl; exact leaf_nb _ _; exact leaf_ib _; exact leaf_nb _ _)) (by omega) (by omega) [0, 1, 1, 1, v0, IntKind.i64.wrap (v0.tdiv 2), r] (by simp)
  rw [set_app (hg a2 s2), List.set_set] at e3
  -- the numerator is no more than the denominator
  obtain ⟨u1, hu1⟩ : ∃ u1 : Int, (if v0 < u0 then v0 else u0) = u1 := ⟨_, rfl⟩
  have lf4 : ∀ a' s' u v : Int, Stable (H.set id (some (cu x a' s')) ++ [some (nb 0 0), some (ib [10, 4, 2, 3, 1, 100, 7]), some (nb u v)]) := fun a' s' u v => lf _ [nb 0 0, ib [10, 4, 2, 3, 1, 100, 7], nb u v] (hst a' s') (by intro b hb; simp at hb; rcases hb with rfl | rfl | rfl; exact leaf_nb _ _; exact leaf_ib _; exact leaf_nb _ _)
  have lf5 : ∀ (a' s' u v : Int) (l : List Int), Stable (H.set id (some (cu x a' s')) ++ [some (nb 0 0), some (ib [10, 4, 2, 3, 1, 100, 7]), some (nb u v), some (ib l)]) := fun a' s' u v l => lf _ [nb 0 0, ib [10, 4, 2, 3, 1, 100, 7], nb u v, ib l] (hst a' s') (by intro b hb; simp at hb; rcases hb with rfl | rfl | rfl | rfl; exact leaf_nb _ _; exact leaf_ib _; exact leaf_nb _ _; exact leaf_ib _)
  obtain ⟨a4, s4, k, p4, q4, k0, k1, e4⟩ := pick_fx x hx _ _ id a3 s3 (hg a3 s3) (lf4 a3 s3 u1 v0) (by omega) (by omega) 40
  rw [List.set_set] at e4
  obtain ⟨a5, s5, v1, p5, q5, hv1, e5⟩ := among_fx x hx _ _ id a4 s4 (hg a4 s4) (lf5 a4 s4 u1 v0 [0, -1, 101]) (by omega) (by omega) 3 [0, -1, 101] 3 rfl (by decide) rfl
  rw [List.set_set, List.length_set] at e5
  obtain ⟨a6, s6, u2, p6, q6, hu2, e6⟩ := among_fx x hx _ _ id a4 s4 (hg a4 s4) (lf5 a4 s4 u1 v0 [-1, IntKind.i64.wrap (v0 + 1)]) (by omega) (by omega) 3 [-1, IntKind.i64.wrap (v0 + 1)] 2 rfl (by decide) rfl
  rw [List.set_set, List.length_set] at e6
  unfold nb ib at e1 e2 e3 e4 e5 e6
  simp only [List.map_cons, List.map_nil] at e1 e2 e3 e4 e5 e6
  rw [e29]
  unfold runF
  by_cases hk0 : k = 0
  · refine ⟨a5, s5, u1, v1, by omega, by omega, ?_⟩
    by_cases hc : v0 < u0
    · rw [if_pos hc] at hu1
      subst hu1
      simp (maxSteps := 1000000) -implicitDefEqProofs [L29, e1, e2, e3, e4, e5, hc, hk0, -packH, hP, hP0, hid, nlt_add, List.idxOf?, List.findIdx?_cons]
    · rw [if_neg hc] at hu1
      subst hu1
      simp (maxSteps := 1000000) -implicitDefEqProofs [L29, e1, e2, e3, e4, e5, hc, hk0, -packH, hP, hP0, hid, nlt_add, List.idxOf?, List.findIdx?_cons]
  · by_cases hk1 : k = 1
    · refine ⟨a6, s6, u2, v0, by omega, by omega, ?_⟩
      by_cases hc : v0 < u0
      · rw [if_pos hc] at hu1
        subst hu1
        simp (maxSteps := 1000000) -implicitDefEqProofs [L29, e1, e2, e3, e4, e6, hc, hk0, hk1, -packH, hP, hP0, hid, nlt_add, List.idxOf?, List.findIdx?_cons]
      · rw [if_neg hc] at hu1
        subst hu1
        simp (maxSteps := 1000000) -implicitDefEqProofs [L29, e1, e2, e3, e4, e6, hc, hk0, hk1, -packH, hP, hP0, hid, nlt_add, List.idxOf?, List.findIdx?_cons]
    · refine ⟨a4, s4, u1, v0, by omega, by omega, ?_⟩
      by_cases hc : v0 < u0
      · rw [if_pos hc] at hu1
        subst hu1
        simp (maxSteps := 1000000) -implicitDefEqProofs [L29, e1, e2, e3, e4, hc, hk0, hk1, -packH, hP, hP0, hid, nlt_add, List.idxOf?, List.findIdx?_cons]
      · rw [if_neg hc] at hu1
        subst hu1
        simp (maxSteps := 1000000) -implicitDefEqProofs [L29, e1, e2, e3, e4, hc, hk0, hk1, -packH, hP, hP0, hid, nlt_add, List.idxOf?, List.findIdx?_cons]
theorem letter7_ok (x : List Int) (hx : okC x) (H : Hp) (id : Nat) (a s : Int) (h : hget H id = some (cu x a s)) (hs : Stable H) (h0 : 0 ≤ a) (h1 : a ≤ 200000000000) (ms : List ByteArray) (hm : ms.length ≤ 500) (T : AV) (hT : TabM H id ms T) :
    ∃ (a' s' k : Int), a ≤ a' ∧ a' ≤ a + 20 ∧ ev E0 30 [.ptr id 0 0, .agg [T]] H = some (i64 k, H.set id (some (cu x a' s'))) := by
  have hid := id_lt h
  have hP := pe_cu h hs
  have hP0 := pe_cu0 h hs
  have hsm := most_d 1 (ms.length : Int)
  obtain ⟨a1, s1, q, p1, q1, e1⟩ := one_fx x hx H [some (tv T)] id a s h (stable_tv hs hT) h0 (by omega) 30
  have hs1 := stable_cu hs h a1 s1
  have hg1 : hget (H.set id (some (cu x a1 s1))) id = some (cu x a1 s1) := hget_cu hid
  have hsT1 := stable_tv hs1 (hT.set (some (cu x a1 s1)))
  obtain ⟨a2, s2, k, p2, q2, hk, e2⟩ := among_fx x hx (H.set id (some (cu x a1 s1))) [some (tv T), some (ib [-1, (ms.length : Int), 4611686018427387904])] id a1 s1 hg1 (by
    have h1 := stable_leaf hsT1 (b := ib [-1, (ms.length : Int), 4611686018427387904]) ⟨rfl, fun _ => rfl⟩
    rwa [List.append_assoc] at h1) (by omega) (by omega) 1 [-1, (ms.length : Int), 4611686018427387904] 3 rfl (by decide) rfl
  rw [List.set_set, List.length_set] at e2
  obtain ⟨many, hmq⟩ : ∃ many : Int, (if (ms.length : Int) < 1 then (1 : Int) else (ms.length : Int)) = many := ⟨_, rfl⟩
  rw [hmq] at hsm
  obtain ⟨a3, s3, k3, p3, q3, _, _, e3⟩ := pick_fx x hx (H.set id (some (cu x a1 s1))) [some (tv T)] id a1 s1 hg1 hsT1 (by omega) (by omega) many
  rw [List.set_set] at e3
  unfold tv at e1 e2 e3
  unfold ib at e2
  simp only [List.map_cons, List.map_nil] at e2
  rw [e30]
  unfold runF
  cases q with
  | true =>
    refine ⟨a2, s2, k, by omega, by omega, ?_⟩
    rcases hT with ⟨rfl, rfl⟩ | ⟨j, ro, rfl, hjn, hjb⟩
    · simp only [List.length_nil] at e2
      rw [c0] at e2
      simp -implicitDefEqProofs [L30, e1, e2, -packH, hP, hP0, hid, nlt_add, List.idxOf?, List.findIdx?_cons]
    · have hj := id_lt hjb
      have hlv := tab_live hjn hjb
      simp -implicitDefEqProofs [L30, e1, e2, hlv, -packH, hP, hP0, hid, hj, nlt_add, List.idxOf?, List.findIdx?_cons]
  | false =>
    refine ⟨a3, s3, k3, by omega, by omega, ?_⟩
    rcases hT with ⟨rfl, rfl⟩ | ⟨j, ro, rfl, hjn, hjb⟩
    · simp only [List.length_nil] at hsm
      rw [c0] at hsm
      simp -implicitDefEqProofs [L30, e1, e3, hsm, -packH, hP, hP0, hid, nlt_add, List.idxOf?, List.findIdx?_cons]
    · have hj := id_lt hjb
      have hlv := tab_live hjn hjb
      simp -implicitDefEqProofs [L30, e1, e3, hsm, hlv, -packH, hP, hP0, hid, hj, nlt_add, List.idxOf?, List.findIdx?_cons]

/-- What a table drawn is: none, or one, in the memory behind the cursor. -/
theorem table_tab (x : List Int) (hx : okC x) (H : Hp) (id : Nat) (a s : Int) (h : hget H id = some (cu x a s)) (hs : Stable H) (h0 : 0 ≤ a) (h1 : a ≤ 100000000000) :
    ∃ (a' s' : Int) (ms : List ByteArray) (T : AV) (ex : Hp), a ≤ a' ∧ a' ≤ a + 2000 ∧ ms.length ≤ 30 ∧ (∀ t ∈ ms, t.size ≤ 20) ∧ ((T = .v (.slice none 0 0) ∧ ms = [] ∧ ex = []) ∨ (T = .sl H.length 0 ms.length ∧ ex = [some (tr ms)])) ∧ ev E0 28 [.ptr id 0 0] H = some (.agg [T], H.set id (some (cu x a' s')) ++ ex) := by
  obtain ⟨a1, s1, p1, q1, hh⟩ := table_ok x hx H id a s h hs h0 h1
  rcases hh with hh | ⟨ms, z1, z2, hh⟩
  · exact ⟨a1, s1, [], _, [], p1, q1, by simp, by simp, .inl ⟨rfl, rfl, rfl⟩, by simpa using hh⟩
  · exact ⟨a1, s1, ms, _, _, p1, q1, z1, z2, .inr ⟨rfl, rfl⟩, hh⟩
end Go.Proofs.YtpfefmofecmjjaaDoor.Ev.Dr
