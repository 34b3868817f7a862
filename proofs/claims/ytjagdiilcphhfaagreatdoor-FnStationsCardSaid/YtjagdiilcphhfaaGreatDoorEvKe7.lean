/- DoKeys, whole. -/
import Derived.Test.YtjagdiilcphhfaaGreatDoorEvKe6
set_option linter.unusedVariables false
set_option linter.unusedSimpArgs false
namespace Go.Proofs.YtjagdiilcphhfaaGreatDoor.Ev
theorem dks_i : ∀ (t : List K) (a b : ByteArray) (n : Int) (i : Nat), (dks a b n i t).stop = false → (dks a b n i t).i = i + t.length
  | [], a, b, n, i, h => rfl
  | q :: t, a, b, n, i, h => by
    rw [dks] at h ⊢
    cases hd : dk a b n q.1 q.2.1 q.2.2.1 q.2.2.2 with
    | none => rw [hd] at h; cases h
    | some p =>
      rw [hd] at h
      have := dks_i t p.1 p.2 (n + 1) (i + 1) h
      show (dks p.1 p.2 (n + 1) (i + 1) t).i = _
      rw [this, List.length_cons]
      omega
def ksV (a b : ByteArray) (n : Int) (l : List K) : AV := if okSt a b n = true then .tup [sA (dks a b n 0 l).a (dks a b n 0 l).b (dks a b n 0 l).n, i64 ((dks a b n 0 l).i : Nat), bl true] else .tup [sA ⟨#[]⟩ ⟨#[]⟩ 0, i64 0, bl false]
theorem keys_s (a b : ByteArray) (n : Int) (ha : a.size ≤ 1073741824) (hb : b.size ≤ 1073741824) (l : List K) (hl : l.length ≤ 1048576) (hz : ∀ q ∈ l, q.2.2.2.size ≤ 1048576) : ev E0 14 [sA a b n, .lst 4 (l.map kb)] [] = some (ksV a b n l, []) := by
  have h1 := station_s a b n ha hb
  unfold ksV
  rw [e14]
  unfold runF
  cases hs : okSt a b n with
  | false =>
    rw [hs] at h1
    rw [if_neg (show ¬ (false = true) by decide)]
    unfold sA at *
    simp -implicitDefEqProofs [L14, h1]
  | true =>
    rw [hs] at h1
    rw [if_pos (show true = true from rfl)]
    have hlp := keysS_loop l hl hz l 0 a b n rfl hs
    rw [c0] at hlp
    have hi := dks_i l a b n 0
    have hfr := free_kb l
    have hQ : (l.map kb).length = l.length := List.length_map _
    generalize dks a b n 0 l = R at *
    unfold sA sBl at *
    generalize l.map kb = Q at *
    cases hst : R.stop with
    | true =>
      rw [hst, if_pos (show true = true from rfl)] at hlp
      simp -implicitDefEqProofs [L14, h1, hlp, hfr, hQ]
    | false =>
      rw [hst, if_neg (show ¬ (false = true) by decide)] at hlp
      have hi := hi hst
      rw [Nat.zero_add] at hi
      rw [hi]
      simp -implicitDefEqProofs [L14, h1, hlp, hfr, hQ]
theorem keys_i (a b : ByteArray) (n : Int) (ha : a.size ≤ 1073741824) (hb : b.size ≤ 1073741824) (l : List K) (hl : l.length ≤ 1048576) (hz : ∀ q ∈ l, q.2.2.2.size ≤ 1048576) : ev E0 16 [sA a b n, .lst 4 (l.map kb)] [] = some (ksV a b n l, []) := by
  have h1 := station_i a b n ha hb
  unfold ksV
  rw [e16]
  unfold runF
  cases hs : okSt a b n with
  | false =>
    rw [hs] at h1
    rw [if_neg (show ¬ (false = true) by decide)]
    unfold sA at *
    simp -implicitDefEqProofs [L16, h1]
  | true =>
    rw [hs] at h1
    rw [if_pos (show true = true from rfl)]
    have hlp := keysI_loop l hl hz l 0 a b n rfl hs
    rw [c0] at hlp
    have hi := dks_i l a b n 0
    have hfr := free_kb l
    have hQ : (l.map kb).length = l.length := List.length_map _
    generalize dks a b n 0 l = R at *
    unfold sA sBl at *
    generalize l.map kb = Q at *
    cases hst : R.stop with
    | true =>
      rw [hst, if_pos (show true = true from rfl)] at hlp
      simp -implicitDefEqProofs [L16, h1, hlp, hfr, hQ]
    | false =>
      rw [hst, if_neg (show ¬ (false = true) by decide)] at hlp
      have hi := hi hst
      rw [Nat.zero_add] at hi
      rw [hi]
      simp -implicitDefEqProofs [L16, h1, hlp, hfr, hQ]
end Go.Proofs.YtjagdiilcphhfaaGreatDoor.Ev
