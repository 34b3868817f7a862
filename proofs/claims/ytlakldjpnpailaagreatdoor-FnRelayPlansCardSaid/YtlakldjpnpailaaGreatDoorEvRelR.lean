/- Draws of plans: the test of an order. -/
import Derived.Test.YtlakldjpnpailaaGreatDoorEvRelQ
import Derived.Test.YtlakldjpnpailaaGreatDoorEvRelM
set_option linter.unusedVariables false
set_option linter.unusedSimpArgs false
namespace Go.Proofs.YtlakldjpnpailaaGreatDoor.Ev
def hasB (l : List Int) (y : Int) : Bool := l.any fun z => decide (z = y)
theorem has_loop (l : List Int) (hl : l.length ≤ 1099511627776) (y : Int) : ∀ (t : List Int) (i : Nat), l.drop i = t →
    packX 0 [4] (loopW (bd E0 (ev E0) loopW 0 [0, 1, 5] L54b0) ⟨[(0, .lst 1 (l.map i64)), (1, i64 y), (5, i64 i)], []⟩) = (if hasB t y = true then some (.ret, ⟨[(4, bl true)], []⟩) else some (.ext 0, ⟨[], []⟩)) := by
  intro t
  induction t with
  | nil =>
    intro i h
    have hi := not_drop h
    rw [loopW_eq]
    generalize loopW (bd E0 (ev E0) loopW 0 [0, 1, 5] L54b0) = K
    simp -implicitDefEqProofs [bd, L54b0, hi, hasB]
  | cons z t ih =>
    intro i h
    obtain ⟨hi, hx, hd, hmem⟩ := at_drop h
    have hih := ih (i + 1) hd
    have hw : IntKind.i64.wrap ((i : Int) + 1) = (i : Int) + 1 := wr64 (by omega) (by omega)
    rw [cs1] at hih
    rw [loopW_eq]
    generalize loopW (bd E0 (ev E0) loopW 0 [0, 1, 5] L54b0) = K at hih ⊢
    have hc : hasB (z :: t) y = (decide (z = y) || hasB t y) := rfl
    rw [hc]
    by_cases hz : z = y
    · subst hz
      simp -implicitDefEqProofs [bd, L54b0, hi, hx]
    · rw [decide_eq_false hz, Bool.false_or]
      generalize hasB t y = q at hih ⊢
      cases q <;> simpa -implicitDefEqProofs [bd, L54b0, hi, hx, hw, hz] using hih
theorem has_s (l : List Int) (hl : l.length ≤ 1099511627776) (y : Int) : ev E0 54 [.lst 1 (l.map i64), i64 y] [] = some (bl (hasB l y), []) := by
  rw [e54]
  unfold runF
  have h := has_loop l hl y l 0 rfl
  rw [c0] at h
  cases hq : hasB l y with
  | true =>
    rw [hq, if_pos rfl] at h
    simp -implicitDefEqProofs [L54, h]
  | false =>
    rw [hq, if_neg (by simp)] at h
    simp -implicitDefEqProofs [L54, h]
def ordB (n : Int) : List Int → List Int → Bool
  | _, [] => true
  | p, y :: t => (btw y 0 (n - 1) && !hasB p y) && ordB n (p ++ [y]) t
theorem ordB_in {n : Int} : ∀ (t p : List Int), ordB n p t = true → ∀ y ∈ t, 0 ≤ y ∧ y < n
  | [], _, _ => fun y h => by cases h
  | z :: t, p, h => by
    unfold ordB btw at h
    simp only [Bool.and_eq_true, decide_eq_true_eq] at h
    intro y hy
    rcases List.mem_cons.1 hy with e | e
    · subst e; omega
    · exact ordB_in t _ h.2 y e
theorem ord_loop (o : List Int) (ho : o.length ≤ 1000) : ∀ (t p : List Int), p ++ t = o →
    packX 0 [4] (loopW (bd E0 (ev E0) loopW 0 [0, 1, 5] L25b0) ⟨[(0, .lst 1 (o.map i64)), (1, i64 o.length), (5, i64 p.length)], []⟩) = (if ordB o.length p t = true then some (.ext 0, ⟨[], []⟩) else some (.ret, ⟨[(4, bl false)], []⟩)) := by
  intro t
  induction t with
  | nil =>
    intro p hp0
    rw [List.append_nil] at hp0
    subst hp0
    rw [loopW_eq]
    generalize loopW (bd E0 (ev E0) loopW 0 [0, 1, 5] L25b0) = K
    simp -implicitDefEqProofs [bd, L25b0, ordB]
  | cons y t ih =>
    intro p hp0
    have hi : p.length < o.length := by rw [← hp0]; simp
    have hi2 : (p.length : Int) < (o.length : Int) := by omega
    have hx : o[p.length] = y := by subst hp0; simp
    have htk : List.take p.length (o.map i64) = p.map i64 := by rw [← List.map_take, ← hp0]; simp
    have hih := ih (p ++ [y]) (by rw [← hp0]; simp)
    rw [show (p ++ [y]).length = p.length + 1 by simp, cs1] at hih
    have hw : IntKind.i64.wrap ((p.length : Int) + 1) = (p.length : Int) + 1 := wr64 (by omega) (by omega)
    have hwl : IntKind.i64.wrap ((o.length : Int) - 1) = (o.length : Int) - 1 := wr64 (by omega) (by omega)
    have n1 := in_s y 0 ((o.length : Int) - 1)
    have n2 := has_s p (by omega) y
    have hle : (p.length : Int) ≤ (o.length : Int) := by omega
    rw [loopW_eq, ordB]
    generalize loopW (bd E0 (ev E0) loopW 0 [0, 1, 5] L25b0) = K at hih ⊢
    generalize btw y 0 ((o.length : Int) - 1) = q1 at *
    generalize hasB p y = q2 at *
    generalize ordB o.length (p ++ [y]) t = q3 at *
    cases q1 with
    | false => simp -implicitDefEqProofs [bd, L25b0, hi, hi2, hx, hwl, n1]
    | true =>
      cases q2 with
      | true => simp -implicitDefEqProofs [bd, L25b0, hi, hi2, hx, hwl, n1, n2, htk, hle]
      | false =>
        cases q3 <;> simpa -implicitDefEqProofs [bd, L25b0, hi, hi2, hx, hw, hwl, n1, n2, htk, hle] using hih
theorem order_s (o : List Int) (ho : o.length ≤ 1000) : ev E0 25 [.lst 1 (o.map i64), i64 o.length] [] = some (bl (ordB o.length [] o), []) := by
  rw [e25]
  unfold runF
  have h := ord_loop o ho o [] rfl
  rw [List.length_nil, c0] at h
  cases hq : ordB o.length [] o with
  | true =>
    rw [hq, if_pos rfl] at h
    simp -implicitDefEqProofs [L25, h]
  | false =>
    rw [hq, if_neg (by simp)] at h
    simp -implicitDefEqProofs [L25, h]
/-- A list of numbers in range, as places. -/
theorem as_nats : ∀ (o : List Int), (∀ y ∈ o, 0 ≤ y) → ∃ ns : List Nat, o = ns.map fun k : Nat => (k : Int)
  | [], _ => ⟨[], rfl⟩
  | y :: o, h => by
    obtain ⟨ns, e⟩ := as_nats o fun z hz => h z (by simp [hz])
    exact ⟨y.toNat :: ns, by rw [e, List.map_cons, Int.toNat_of_nonneg (h y (by simp))]⟩
end Go.Proofs.YtlakldjpnpailaaGreatDoor.Ev
