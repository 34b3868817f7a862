/- The draw of keys. -/
import Derived.Test.YtjagdiilcphhfaaGreatDoorEvDrawS6
set_option linter.unusedVariables false
set_option linter.unusedSimpArgs false
set_option maxHeartbeats 2000000
namespace Go.Proofs.YtjagdiilcphhfaaGreatDoor.Ev.Dr
theorem drawKeys (x : List Int) (hx : okC x) : ∃ (c d : ByteArray) (n : Int) (l : List K), c.size ≤ 2000000 ∧ d.size ≤ 30 ∧ -10 ≤ n ∧ n ≤ 1001 ∧ l.length ≤ 100 ∧ (∀ q ∈ l, q.2.2.2.size ≤ 20) ∧ ev E0 24 [.lst 1 (cd x)] [] = some (.tup [sA c d n, .sl 0 0 l.length], [some (kR l)]) := by
  have S0 : ∀ a s : Int, Stable [some (sQ ⟨#[]⟩ ⟨#[]⟩ 0), some (cu x a s)] := fun a s => ⟨by simp [oldIds, sQ, cu], rfl⟩
  obtain ⟨a1, s1, c, d, n, p1, q1, z1, z2, z3, z4, e1⟩ := station_ok x hx [some (sQ ⟨#[]⟩ ⟨#[]⟩ 0), some (cu x 0 0)] 1 0 0 rfl (S0 0 0) (by omega) (by omega)
  obtain ⟨a2, s2, r, p2, q2, l2, u2, e2⟩ := pick_u x hx a1 s1 (by omega) (by omega) 6
  obtain ⟨k, rfl⟩ : ∃ k : Nat, r = k := ⟨r.toNat, by omega⟩
  have hk : k ≤ 5 := by omega
  have S5 : Stable [some (sQ ⟨#[]⟩ ⟨#[]⟩ 0), some (cu x a1 s1), some (sQ c d n), some (kR []), some (sQ c d n)] := by
    have := stable_leaves (H := []) ⟨by simp [oldIds], rfl⟩ [sQ ⟨#[]⟩ ⟨#[]⟩ 0, cu x a1 s1, sQ c d n, kR [], sQ c d n] (by
      intro q hq
      simp at hq
      rcases hq with rfl | rfl | rfl | rfl | rfl <;> first | exact leaf_kR [] | exact ⟨rfl, fun _ => rfl⟩)
    exact this
  have g2 := e2 _ 1 rfl S5
  obtain ⟨l, k1, k2, k3⟩ := keys_loop x hx k a2 s2 c d n c d n [] (by omega) (by omega) z1 z2 (by show 0 + k ≤ 100; omega) (by simp)
  have hfr := free_kb l
  have hlf := leaf_kR l
  have hQ : (l.map kb).length = l.length := List.length_map _
  rw [List.length_nil] at k3
  refine ⟨c, d, n, l, z1, z2, z3, z4, by rw [List.length_nil] at k1; omega, k2, ?_⟩
  unfold kR at *
  simp only [sQ, cu, sA, List.set_cons_succ, List.set_cons_zero, List.map_nil] at e1 g2 k3 ⊢
  rw [e24]
  unfold runF
  generalize l.map kb = Q at *
  simp (maxSteps := 1000000) -implicitDefEqProofs [L24, e1, g2, k3, hfr, hlf.1, hlf.2]
end Go.Proofs.YtjagdiilcphhfaaGreatDoor.Ev.Dr
