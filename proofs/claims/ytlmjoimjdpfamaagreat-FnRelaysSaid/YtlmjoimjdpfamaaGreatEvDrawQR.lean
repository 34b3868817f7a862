/- The draws' steps behind a memory that names old blocks. -/
import Derived.Test.YtlmjoimjdpfamaaGreatEvDrawPR
set_option linter.unusedVariables false
set_option linter.unusedSimpArgs false
namespace Go.Proofs.YtlmjoimjdpfamaaGreat.Ev.Dr
theorem rnmH_app (f : Nat → Option Nat) : ∀ (H ex : Hp), rnmH f H = some H → rnmH f ex = some ex → rnmH f (H ++ ex) = some (H ++ ex)
  | [], ex, _, h => h
  | o :: r, ex, h, h2 => by
    simp only [rnmH] at h
    cases h1 : rnmO f o with
    | none => rw [h1] at h; cases h
    | some p =>
      rw [h1] at h
      cases h3 : rnmH f r with
      | none => rw [h3] at h; cases h
      | some q =>
        rw [h3] at h
        simp at h
        rw [h.2] at h3
        rw [List.cons_append, rnmH, h1, rnmH_app f r ex h3 h2, h.1]
        rfl
theorem stable_ex {H ex : Hp} (hs : Stable H) (h1 : ∀ q ∈ oldIds ex, q < H.length + ex.length) (h2 : rnmH (newId (H.length + ex.length) []) ex = some ex) : Stable (H ++ ex) := by
  unfold Stable
  rw [List.length_append]
  refine ⟨fun q hq => ?_, rnmH_app _ _ _ (rnmH_le (fun i j hi => ?_) _ _ hs.2) h2⟩
  · rw [oldIds_append] at hq
    rcases List.mem_append.1 hq with h | h
    · have := hs.1 q h; omega
    · exact h1 q h
  · unfold newId at hi ⊢
    by_cases hlt : i < H.length
    · rw [if_pos hlt] at hi
      rw [if_pos (by omega)]
      exact hi
    · rw [if_neg hlt] at hi; simp at hi
theorem nlt_add (n k : Nat) : (n + k < n) = False := by simp
theorem pick_fx (x : List Int) (hx : okC x) (H ex : Hp) (id : Nat) (a s : Int) (h : hget H id = some (cu x a s)) (hs : Stable (H ++ ex)) (h0 : 0 ≤ a) (h1 : a ≤ 549755813888) (n : Int) :
    ∃ a' s' r : Int, a ≤ a' ∧ a' ≤ a + 2 ∧ 0 ≤ r ∧ (r < n ∨ r = 0) ∧ ev E0 23 [.ptr id 0 0, i64 n] (H ++ ex) = some (i64 r, H.set id (some (cu x a' s')) ++ ex) := by
  obtain ⟨a', s', r, k1, k2, k3, k4, e⟩ := pick_ok x hx (H ++ ex) id a s (hget_app h) hs h0 h1 n
  exact ⟨a', s', r, k1, k2, k3, k4, by rw [e, set_app h]⟩
theorem one_fx (x : List Int) (hx : okC x) (H ex : Hp) (id : Nat) (a s : Int) (h : hget H id = some (cu x a s)) (hs : Stable (H ++ ex)) (h0 : 0 ≤ a) (h1 : a ≤ 549755813888) (n : Int) :
    ∃ (a' s' : Int) (q : Bool), a ≤ a' ∧ a' ≤ a + 2 ∧ ev E0 25 [.ptr id 0 0, i64 n] (H ++ ex) = some (bl q, H.set id (some (cu x a' s')) ++ ex) := by
  obtain ⟨a', s', q, k1, k2, e⟩ := one_ok x hx (H ++ ex) id a s (hget_app h) hs h0 h1 n
  exact ⟨a', s', q, k1, k2, by rw [e, set_app h]⟩
/-- A row of numbers behind the memory, one of them taken. -/
theorem among_fx (x : List Int) (hx : okC x) (H ex : Hp) (id : Nat) (a s : Int) (h : hget H id = some (cu x a s)) (hs : Stable (H ++ ex)) (h0 : 0 ≤ a) (h1 : a ≤ 549755813888) (j : Nat) (l : List Int) (n : Nat) (hn : l.length = n) (hp : 0 < n) (hg : ex[j]? = some (some ⟨3, 1, 1, false, l.map i64⟩)) :
    ∃ (a' s' : Int) (t : Int), a ≤ a' ∧ a' ≤ a + 2 ∧ t ∈ l ∧ ev E0 26 [.ptr id 0 0, .sl (H.length + j) 0 n] (H ++ ex) = some (i64 t, H.set id (some (cu x a' s')) ++ ex) := by
  have hid := id_lt h
  obtain ⟨a', s', t, k1, k2, k3, e⟩ := among_ok x hx (H ++ ex) id a s (hget_app h) hs h0 h1 (H.length + j) (by omega) l n hn hp (by
    unfold hget
    rw [List.getElem?_append_right (by omega), Nat.add_sub_cancel_left, hg])
  exact ⟨a', s', t, k1, k2, k3, by rw [e, set_app h]⟩
end Go.Proofs.YtlmjoimjdpfamaaGreat.Ev.Dr
