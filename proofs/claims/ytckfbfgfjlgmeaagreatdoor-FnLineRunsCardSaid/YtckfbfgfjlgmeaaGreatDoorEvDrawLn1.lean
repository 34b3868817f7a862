/- The draw of a line: its parts. -/
import Derived.Test.YtckfbfgfjlgmeaaGreatDoorEvTim
import Derived.Test.YtckfbfgfjlgmeaaGreatDoorEvDrawM
import Derived.Test.YtckfbfgfjlgmeaaGreatDoorEvDrawV
import Derived.Test.YtckfbfgfjlgmeaaGreatDoorEvLn3
set_option linter.unusedVariables false
set_option linter.unusedSimpArgs false
namespace Go.Proofs.YtckfbfgfjlgmeaaGreatDoor.Ev.Dr
theorem manyG_loop (g : ByteArray) (hg : g.size ≤ 10) (n : Nat) (hn : n ≤ 10000) : ∀ (k i : Nat) (s : ByteArray), i + k = n → s.size ≤ 10 * i →
    ∃ r : ByteArray, r.size ≤ s.size + 10 * k ∧ packX 0 [5] (loopW (bd E0 (ev E0) loopW 0 [0, 1, 5, 6] L85b0) ⟨[(0, st g), (1, i64 n), (5, st s), (6, i64 i)], []⟩) = some (.ext 0, ⟨[(5, st r)], []⟩) := by
  intro k
  induction k with
  | zero =>
    intro i s h hs
    have hi : ¬ (i : Int) < (n : Int) := by omega
    have hi2 : ¬ i < n := by omega
    refine ⟨s, by omega, ?_⟩
    rw [loopW_eq]
    generalize loopW (bd E0 (ev E0) loopW 0 [0, 1, 5, 6] L85b0) = K
    simp -implicitDefEqProofs [bd, L85b0, hi, hi2]
  | succ k ih =>
    intro i s h hs
    have hi : (i : Int) < (n : Int) := by omega
    have hi2 : i < n := by omega
    have hsz : s.size + g.size ≤ 9223372036854775807 := by omega
    have hw : IntKind.i64.wrap ((i : Int) + 1) = (i : Int) + 1 := wr64 (by omega) (by omega)
    obtain ⟨r, h1, hih⟩ := ih (i + 1) (s ++ g) (by omega) (by rw [ByteArray.size_append]; omega)
    rw [cs1] at hih
    refine ⟨r, by rw [ByteArray.size_append] at h1; omega, ?_⟩
    rw [loopW_eq]
    clear ih
    generalize loopW (bd E0 (ev E0) loopW 0 [0, 1, 5, 6] L85b0) = K at hih ⊢
    simpa -implicitDefEqProofs [bd, L85b0, hi, hi2, hsz, hw] using hih
theorem many_g (g : ByteArray) (hg : g.size ≤ 10) (n : Nat) (hn : n ≤ 10000) : ∃ r : ByteArray, r.size ≤ 10 * n ∧ ev E0 85 [st g, i64 n] [] = some (st r, []) := by
  obtain ⟨r, h1, h⟩ := manyG_loop g hg n hn n 0 ⟨#[]⟩ (by omega) (by decide)
  rw [c0] at h
  have h0 : (⟨#[]⟩ : ByteArray).size = 0 := rfl
  refine ⟨r, by omega, ?_⟩
  rw [e85]
  unfold runF
  simp -implicitDefEqProofs [L85, h]
-- ---------------------------------------------------------------- runs of any text
def vU (c : UInt8) : Int := IntKind.i64.wrap (IntKind.u8.wrap ((c.toNat : Int) - 48))
def pB (l : List P) : Blk := ⟨45, 2, 1, false, l.map pn⟩
theorem rg_loop (l : ByteArray) (hl : l.size ≤ 100000) : ∀ (t : List UInt8) (i : Nat) (p : UInt8) (A : List P) (n : Nat), (B l).drop i = p :: t → A.length ≤ i → n ≤ i + 1 →
    ∃ D : List P, D.length ≤ A.length + 1 + t.length ∧ packX 0 [3] (loopW (bd E0 (ev E0) loopW 0 [0, 3, 4] L76b0) ⟨[(0, st l), (3, .sl 0 0 (A.length + 1)), (4, i64 ((i : Int) + 1))], [some (pB (A ++ [(vU p, (n : Int))]))]⟩) = some (.ext 0, ⟨[(3, .sl 0 0 D.length)], [some (pB D)]⟩) := by
  intro t
  induction t with
  | nil =>
    intro i p A n h hA hn
    obtain ⟨hi0, hx0, hd0⟩ := byte_at h
    have hi := byte_end hd0
    have hii : ¬ (i : Int) + 1 < (l.size : Int) := by omega
    refine ⟨A ++ [(vU p, (n : Int))], by simp, ?_⟩
    rw [loopW_eq]
    unfold pB
    have hQ : ((A ++ [(vU p, (n : Int))]).map pn).length = A.length + 1 := by simp
    have hQ2 : (A ++ [(vU p, (n : Int))]).length = A.length + 1 := by simp
    have hf := free_pn (A ++ [(vU p, (n : Int))])
    rw [hQ2]
    generalize (A ++ [(vU p, (n : Int))]).map pn = Q at *
    generalize loopW (bd E0 (ev E0) loopW 0 [0, 3, 4] L76b0) = K
    simp -implicitDefEqProofs [bd, L76b0, hi, hii, hQ, hf]
  | cons c t ih =>
    intro i p A n h hA hn
    obtain ⟨hi0, hx0, hd0⟩ := byte_at h
    obtain ⟨hi, hx, hd⟩ := byte_at hd0
    have hg0 := byte_g hx0 hi0
    have hg1 := byte_g hx hi
    have hii : (i : Int) + 1 < (l.size : Int) := by omega
    have hi00 : (i : Int) < (l.size : Int) := by omega
    have hp0 : (0 : Int) < (i : Int) + 1 := by omega
    have hp1 : (0 : Int) ≤ (i : Int) + 1 := by omega
    have hAl : (A.length : Int) < (A.length : Int) + 1 := by omega
    have hQl : A.length ≤ (A.map pn).length := by simp
    have hw : IntKind.i64.wrap ((i : Int) + 1 + 1) = (i : Int) + 1 + 1 := wr64 (by omega) (by omega)
    have hw0 : IntKind.i64.wrap (i : Int) = (i : Int) := wr64 (by omega) (by omega)
    have hwA : IntKind.i64.wrap (A.length : Int) = (A.length : Int) := wr64 (by omega) (by omega)
    have hwn : IntKind.i64.wrap ((n : Int) + 1) = (n : Int) + 1 := wr64 (by omega) (by omega)
    have hl1 : A.length + 1 + 1 ≤ 140737488355328 := by omega
    have hl2 : (A.length + 1 + 1) * 16 ≤ 140737488355328 := by omega
    have t1 : (i : Int) + 1 + 1 = ((i + 1 : Nat) : Int) + 1 := by omega
    have hget : ∀ q : AV, (A.map pn ++ [q])[A.length]? = some q := fun q => app_get (by simp)
    have hset : ∀ q r : AV, (A.map pn ++ [q]).set A.length r = A.map pn ++ [r] := fun q r => app_set (by simp)
    have htk : ∀ q : AV, List.take (A.length + 1) (A.map pn ++ [q]) = A.map pn ++ [q] := fun q => List.take_of_length_le (by simp)
    have hget2 : ∀ (q : AV) h, (A.map pn ++ [q])[A.length]'h = q := fun q h => (List.getElem?_eq_some_iff.1 (hget q)).2
    have hf := free_pn A
    by_cases hc : c = p
    · subst hc
      obtain ⟨D, k1, hih⟩ := ih (i + 1) c A (n + 1) hd0 (by omega) (by omega)
      rw [← t1] at hih
      refine ⟨D, by rw [List.length_cons]; omega, ?_⟩
      rw [loopW_eq]
      clear ih
      unfold pB at *
      rw [List.map_append, List.map_singleton] at hih ⊢
      rw [cs1] at hih
      have hpn : ∀ k : Int, pn (vU c, k) = .agg [i64 (vU c), i64 k] := fun k => rfl
      rw [hpn] at hih ⊢
      generalize vU c = v at *
      generalize A.map pn = Q at *
      generalize D.map pn = Q2 at *
      generalize loopW (bd E0 (ev E0) loopW 0 [0, 3, 4] L76b0) = K at hih ⊢
      simpa -implicitDefEqProofs [bd, L76b0, hi, hi0, hii, hi00, hp0, hp1, hAl, hQl, hx, hx0, hg0, hg1, hw, hw0, hwA, hwn, hget, hget2, hset, hf] using hih
    · obtain ⟨D, k1, hih⟩ := ih (i + 1) c (A ++ [(vU p, (n : Int))]) 1 hd0 (by simp; omega) (by omega)
      rw [← t1, List.length_append, List.length_singleton] at hih
      rw [List.length_append, List.length_singleton] at k1
      refine ⟨D, by rw [List.length_cons]; omega, ?_⟩
      have n1 : ¬ c.toNat = p.toNat := fun e => hc (UInt8.toNat_inj.1 e)
      have n2 : ¬ (c.toNat : Int) = (p.toNat : Int) := by omega
      rw [loopW_eq]
      clear ih
      unfold pB at *
      rw [List.map_append, List.map_append, List.map_singleton, List.map_singleton] at hih
      rw [List.map_append, List.map_singleton]
      have hpn : pn (vU p, (n : Int)) = .agg [i64 (vU p), i64 (n : Int)] := rfl
      have hpc : pn (vU c, ((1 : Nat) : Int)) = .agg [i64 (IntKind.i64.wrap (IntKind.u8.wrap ((c.toNat : Int) - 48))), i64 1] := rfl
      rw [hpn, hpc] at hih
      rw [hpn]
      generalize vU p = v at *
      generalize A.map pn = Q at *
      generalize D.map pn = Q2 at *
      generalize loopW (bd E0 (ev E0) loopW 0 [0, 3, 4] L76b0) = K at hih ⊢
      simpa -implicitDefEqProofs [bd, L76b0, hi, hi0, hii, hi00, hp0, hp1, hAl, hQl, hx, hx0, hg0, hg1, hw, hw0, htk, hl1, hl2, n1, n2, hf] using hih
theorem runs_g (l : ByteArray) (hl : l.size ≤ 100000) : ∃ D : List P, D.length ≤ l.size ∧ ev E0 76 [st l] [] = some (.sl 0 0 D.length, [some (pB D)]) := by
  have first : ∃ D : List P, D.length ≤ l.size ∧ packX 0 [3] (loopW (bd E0 (ev E0) loopW 0 [0, 3, 4] L76b0) ⟨[(0, st l), (3, .sl 0 0 0), (4, i64 0)], [some ⟨45, 2, 1, false, []⟩]⟩) = some (.ext 0, ⟨[(3, .sl 0 0 D.length)], [some (pB D)]⟩) := by
    cases hB : B l with
    | nil =>
      have hi := byte_end (show (B l).drop 0 = [] from hB)
      have hii : ¬ (0 : Int) < (l.size : Int) := by omega
      refine ⟨[], by simp, ?_⟩
      unfold pB
      rw [loopW_eq]
      generalize loopW (bd E0 (ev E0) loopW 0 [0, 3, 4] L76b0) = K
      simp -implicitDefEqProofs [bd, L76b0, hi, hii]
    | cons c t =>
      obtain ⟨hi, hx, hd⟩ := byte_at (show (B l).drop 0 = c :: t from hB)
      have hg := byte_g hx hi
      have hii : (0 : Int) < (l.size : Int) := by omega
      obtain ⟨D, k1, hl⟩ := rg_loop l hl t 0 c [] 1 hB (Nat.le_refl _) (by omega)
      have hlen : l.size = t.length + 1 := by rw [← B_len, hB]; rfl
      refine ⟨D, by simp at k1; omega, ?_⟩
      unfold pB at *
      rw [loopW_eq]
      rw [List.nil_append, List.map_singleton] at hl
      have hpc : pn (vU c, ((1 : Nat) : Int)) = .agg [i64 (IntKind.i64.wrap (IntKind.u8.wrap ((c.toNat : Int) - 48))), i64 1] := rfl
      rw [hpc] at hl
      generalize D.map pn = Q2 at *
      generalize loopW (bd E0 (ev E0) loopW 0 [0, 3, 4] L76b0) = K at hl ⊢
      simpa -implicitDefEqProofs [bd, L76b0, hi, hii, hx, hg, i1] using hl
  obtain ⟨D, k1, first⟩ := first
  refine ⟨D, k1, ?_⟩
  have hf := free_pn D
  have hQ : (D.map pn).length = D.length := List.length_map _
  rw [e76]
  unfold runF
  unfold pB at *
  generalize D.map pn = Q at *
  simp -implicitDefEqProofs [L76, first, hf, hQ]
theorem table_tab (x : List Int) (hx : okC x) (H : Hp) (id : Nat) (a s : Int) (h : hget H id = some (cu x a s)) (hs : Stable H) (h0 : 0 ≤ a) (h1 : a ≤ 100000000000) :
    ∃ (a' s' : Int) (ms : List ByteArray) (T : AV) (ex : Hp), a ≤ a' ∧ a' ≤ a + 2000 ∧ ms.length ≤ 30 ∧ (∀ t ∈ ms, t.size ≤ 20) ∧ ((T = .v (.slice none 0 0) ∧ ms = [] ∧ ex = []) ∨ (T = .sl H.length 0 ms.length ∧ ex = [some (tr ms)])) ∧ ev E0 102 [.ptr id 0 0] H = some (.agg [T], H.set id (some (cu x a' s')) ++ ex) := by
  obtain ⟨a1, s1, p1, q1, hh⟩ := table_ok x hx H id a s h hs h0 h1
  rcases hh with hh | ⟨ms, z1, z2, hh⟩
  · exact ⟨a1, s1, [], _, [], p1, q1, by simp, by simp, .inl ⟨rfl, rfl, rfl⟩, by simpa using hh⟩
  · exact ⟨a1, s1, ms, _, _, p1, q1, z1, z2, .inr ⟨rfl, rfl⟩, hh⟩
/-- A line with each sign so many times. -/
theorem stretch_loop (x : List Int) (H : Hp) (id : Nat) (a0 s0 : Int) (h : hget H id = some (cu x a0 s0)) (hs : Stable H) (a s : Int) (l : ByteArray) (hl : l.size ≤ 1000) (k : Nat) (hk : k ≤ 10) : ∀ (r i : Nat) (w : ByteArray), i + r = l.size → w.size ≤ 1 + 100 * i →
    ∃ u : ByteArray, u.size ≤ w.size + 100 * r ∧ packX H.length [0, 7] (loopW (bd E0 (ev E0) loopW H.length [0, 4, 6, 7, 8] L78b0) ⟨[(0, .ptr id 0 0), (4, st l), (6, i64 k), (7, st w), (8, i64 i)], H.set id (some (cu x a s))⟩) = some (.ext 1, ⟨[(0, .ptr id 0 0), (7, st u)], H.set id (some (cu x a s))⟩) := by
  have hid := id_lt h
  have hP := pe_cu h hs
  have hP0 := pe_cu0 h hs
  intro r
  induction r with
  | zero =>
    intro i w h1 h2
    have hi : ¬ (i : Int) < (l.size : Int) := by omega
    have hi2 : ¬ i < l.size := by omega
    refine ⟨w, by omega, ?_⟩
    rw [loopW_eq]
    generalize loopW (bd E0 (ev E0) loopW H.length [0, 4, 6, 7, 8] L78b0) = K
    simp -implicitDefEqProofs [bd, L78b0, hi, hi2, -packH, hP0, hP, hid]
  | succ r ih =>
    intro i w h1 h2
    have hi : (i : Int) < (l.size : Int) := by omega
    have hi2 : i < l.size := by omega
    have hle : (i : Int) ≤ (i : Int) + 1 := by omega
    have hle2 : (i : Int) + 1 ≤ (l.size : Int) := by omega
    have htn : ((i : Int) + 1).toNat = i + 1 := by omega
    have hw : IntKind.i64.wrap ((i : Int) + 1) = (i : Int) + 1 := wr64 (by omega) (by omega)
    obtain ⟨g, hg1, hg2⟩ := many_g (l.extract i (i + 1)) (by rw [ByteArray.size_extract]; omega) k (by omega)
    have hsz : w.size + g.size ≤ 9223372036854775807 := by omega
    obtain ⟨u, k1, hih⟩ := ih (i + 1) (w ++ g) (by omega) (by rw [ByteArray.size_append]; omega)
    rw [cs1] at hih
    refine ⟨u, by rw [ByteArray.size_append] at k1; omega, ?_⟩
    rw [loopW_eq]
    clear ih
    generalize loopW (bd E0 (ev E0) loopW H.length [0, 4, 6, 7, 8] L78b0) = K at hih ⊢
    simpa -implicitDefEqProofs [bd, L78b0, hi, hi2, hle, hle2, htn, hw, hg2, hsz, -packH, hP0, hP, hid] using hih
end Go.Proofs.YtckfbfgfjlgmeaaGreatDoor.Ev.Dr
