/- The draws of noises, letters, and of the laws on noises. -/
import Derived.Test.YtgecnbafmlecjaaGreatDoorEvMDr
set_option linter.unusedVariables false
set_option linter.unusedSimpArgs false
namespace Go.Proofs.YtgecnbafmlecjaaGreatDoor.Ev.Dr
def nb (a b : Int) : Blk := ⟨28, 2, 0, false, [.agg [i64 a, i64 b]]⟩
theorem leaf_nb (a b : Int) : leafB (nb a b) := ⟨rfl, fun _ => rfl⟩
theorem leaf_ib (l : List Int) : leafB (ib l) := ⟨rfl, fun _ => rfl⟩
theorem stab {H : Hp} (hs : Stable H) (bs : List Blk) (hb : ∀ b ∈ bs, leafB b) : Stable (H ++ bs.map some) := stable_leaves hs bs hb
theorem noise7_ok (x : List Int) (hx : okC x) (H : Hp) (id : Nat) (a s : Int) (h : hget H id = some (cu x a s)) (hs : Stable H) (h0 : 0 ≤ a) (h1 : a ≤ 200000000000) :
    ∃ (a' s' u v : Int), a ≤ a' ∧ a' ≤ a + 20 ∧ ev E0 23 [.ptr id 0 0] H = some (.agg [i64 u, i64 v], H.set id (some (cu x a' s'))) := by
  have hid := id_lt h
  have hP := pe_cu h hs
  have hP0 := pe_cu0 h hs
  have lf : ∀ (G : Hp) (bs : List Blk), Stable G → (∀ b ∈ bs, leafB b) → Stable (G ++ bs.map some) := fun G bs hG hb => stable_leaves hG bs hb
  obtain ⟨a1, s1, v0, p1, q1, hv0, e1⟩ := among_fx x hx H [some (nb 0 0), some (ib [10, 4, 2, 3, 1, 100, 7])] id a s h (lf H [nb 0 0, ib [10, 4, 2, 3, 1, 100, 7]] hs (by intro b hb; simp at hb; rcases hb with rfl | rfl; exact leaf_nb _ _; exact leaf_ib _)) h0 (by omega) 1 [10, 4, 2, 3, 1, 100, 7] 7 rfl (by decide) rfl
  have hg : ∀ a' s' : Int, hget (H.set id (some (cu x a' s'))) id = some (cu x a' s') := fun a' s' => hget_cu hid
  have hst : ∀ a' s' : Int, Stable (H.set id (some (cu x a' s'))) := fun a' s' => stable_cu hs h a' s'
  obtain ⟨a2, s2, r, p2, q2, r0, r1, e2⟩ := pick_fx x hx _ [some (nb 0 0), some (ib [10, 4, 2, 3, 1, 100, 7]), some (nb 0 v0)] id a1 s1 (hg a1 s1) (lf _ [nb 0 0, ib [10, 4, 2, 3, 1, 100, 7], nb 0 v0] (hst a1 s1) (by intro b hb; simp at hb; rcases hb with rfl | rfl | rfl; exact leaf_nb _ _; exact leaf_ib _; exact leaf_nb _ _)) (by omega) (by omega) (IntKind.i64.wrap (v0 + 1))
  rw [List.set_set] at e2
  obtain ⟨a3, s3, u0, p3, q3, hu0, e3⟩ := among_ls x hx (H.set id (some (cu x a2 s2)) ++ [some (nb 0 0), some (ib [10, 4, 2, 3, 1, 100, 7]), some (nb 0 v0)]) id a2 s2 (hget_app (hg a2 s2)) (lf _ [nb 0 0, ib [10, 4, 2, 3, 1, 100, 7], nb 0 v0] (hst a2 s2) (by intro b hb; simp at hb; rcases hb with rfl | rfl | rfl; exact leaf_nb _ _; exact leaf_ib _; exact leaf_nb _ _)) (by omega) (by omega) [0, 1, 1, 1, v0, IntKind.i64.wrap (v0.tdiv 2), r] (by simp)
  rw [set_app (hg a2 s2), List.set_set] at e3
  -- the numerator is no more than the denominator
  obtain ⟨u1, hu1⟩ : ∃ u1 : Int, (if v0 < u0 then v0 else u0) = u1 := ⟨_, rfl⟩
  have lf4 : ∀ a' s' u v : Int, Stable (H.set id (some (cu x a' s')) ++ [some (nb 0 0), some (ib [10, 4, 2, 3, 1, 100, 7]), some (nb u v)]) := fun a' s' u v => lf _ [nb 0 0, ib [10, 4, 2, 3, 1, 100, 7], nb u v] (hst a' s') (by intro b hb; simp at hb; rcases hb with rfl | rfl | rfl; exact leaf_nb _ _; exact leaf_ib _; exact leaf_nb _ _)
  have lf5 : ∀ (a' s' u v : Int) (l : List Int), Stable (H.set id (some (cu x a' s')) ++ [some (nb 0 0), some (ib [10, 4, 2, 3, 1, 100, 7]), some (nb u v), some (ib l)]) := fun a' s' u v l => lf _ [nb 0 0, ib [10, 4, 2, 3, 1, 100, 7], nb u v, ib l] (hst a' s') (by intro b hb; simp at hb; rcases hb with rfl | rfl | rfl | rfl; exact leaf_nb _ _; exact leaf_ib _; exact leaf_nb _ _; exact leaf_ib _)
  obtain ⟨a4, s4, k, p4, q4, k0, k1, e4⟩ := pick_fx x hx _ _ id a3 s3 (hg a3 s3) (lf4 a3 s3 u1 v0) (by omega) (by omega) 40
  rw [List.set_set] at e4
  obtain ⟨a5, s5, v1, p5, q5, hv1, e5⟩ := among_fx x hx _ _ id a4 s4 (hg a4 s4) (lf5 a4 s4 u1 v0 [0, -1, 101]) (by omega) (by omega) 3 [0, -1, 101] 3 rfl (by decide) rfl
  rw [List.set_set, List.length_set] at e5
  obtain ⟨a6, s6, u2, p6, q6, hu2, e6⟩ := among_fx x hx _ _ id a4 s4 (hg a4 s4) (lf5 a4 s4 u1 v0 [-1, IntKind.i64.wrap (v0 + 1)]) (by omega) (by omega) 3 [-1, IntKind.i64.wrap (v0 + 1)] 2 rfl (by decide) rfl
  rw [List.set_set, List.length_set] at e6
  unfold nb ib at e1 e2 e3 e4 e5 e6
  simp only [List.map_cons, List.map_nil] at e1 e2 e3 e4 e5 e6
  rw [e23]
  unfold runF
  by_cases hk0 : k = 0
  · refine ⟨a5, s5, u1, v1, by omega, by omega, ?_⟩
    by_cases hc : v0 < u0
    · rw [if_pos hc] at hu1
      subst hu1
      simp (maxSteps := 1000000) -implicitDefEqProofs [L23, e1, e2, e3, e4, e5, hc, hk0, -packH, hP, hP0, hid, nlt_add, List.idxOf?, List.findIdx?_cons]
    · rw [if_neg hc] at hu1
      subst hu1
      simp (maxSteps := 1000000) -implicitDefEqProofs [L23, e1, e2, e3, e4, e5, hc, hk0, -packH, hP, hP0, hid, nlt_add, List.idxOf?, List.findIdx?_cons]
  · by_cases hk1 : k = 1
    · refine ⟨a6, s6, u2, v0, by omega, by omega, ?_⟩
      by_cases hc : v0 < u0
      · rw [if_pos hc] at hu1
        subst hu1
        simp (maxSteps := 1000000) -implicitDefEqProofs [L23, e1, e2, e3, e4, e6, hc, hk0, hk1, -packH, hP, hP0, hid, nlt_add, List.idxOf?, List.findIdx?_cons]
      · rw [if_neg hc] at hu1
        subst hu1
        simp (maxSteps := 1000000) -implicitDefEqProofs [L23, e1, e2, e3, e4, e6, hc, hk0, hk1, -packH, hP, hP0, hid, nlt_add, List.idxOf?, List.findIdx?_cons]
    · refine ⟨a4, s4, u1, v0, by omega, by omega, ?_⟩
      by_cases hc : v0 < u0
      · rw [if_pos hc] at hu1
        subst hu1
        simp (maxSteps := 1000000) -implicitDefEqProofs [L23, e1, e2, e3, e4, hc, hk0, hk1, -packH, hP, hP0, hid, nlt_add, List.idxOf?, List.findIdx?_cons]
      · rw [if_neg hc] at hu1
        subst hu1
        simp (maxSteps := 1000000) -implicitDefEqProofs [L23, e1, e2, e3, e4, hc, hk0, hk1, -packH, hP, hP0, hid, nlt_add, List.idxOf?, List.findIdx?_cons]
/-- What a table drawn is: none, or one, in the memory behind the cursor. -/
theorem table_tab (x : List Int) (hx : okC x) (H : Hp) (id : Nat) (a s : Int) (h : hget H id = some (cu x a s)) (hs : Stable H) (h0 : 0 ≤ a) (h1 : a ≤ 100000000000) :
    ∃ (a' s' : Int) (ms : List ByteArray) (T : AV) (ex : Hp), a ≤ a' ∧ a' ≤ a + 2000 ∧ ms.length ≤ 30 ∧ (∀ t ∈ ms, t.size ≤ 20) ∧ ((T = .v (.slice none 0 0) ∧ ms = [] ∧ ex = []) ∨ (T = .sl H.length 0 ms.length ∧ ex = [some (tr ms)])) ∧ ev E0 22 [.ptr id 0 0] H = some (.agg [T], H.set id (some (cu x a' s')) ++ ex) := by
  obtain ⟨a1, s1, p1, q1, hh⟩ := table_ok x hx H id a s h hs h0 h1
  rcases hh with hh | ⟨ms, z1, z2, hh⟩
  · exact ⟨a1, s1, [], _, [], p1, q1, by simp, by simp, .inl ⟨rfl, rfl, rfl⟩, by simpa using hh⟩
  · exact ⟨a1, s1, ms, _, _, p1, q1, z1, z2, .inr ⟨rfl, rfl⟩, hh⟩
end Go.Proofs.YtgecnbafmlecjaaGreatDoor.Ev.Dr
