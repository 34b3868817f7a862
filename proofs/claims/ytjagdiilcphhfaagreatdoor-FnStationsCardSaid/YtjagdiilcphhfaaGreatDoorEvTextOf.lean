/- The text of a table: its marks with commas between; the new station. -/
import Derived.Test.YtjagdiilcphhfaaGreatDoorEvTab
set_option linter.unusedVariables false
set_option linter.unusedSimpArgs false
namespace Go.Proofs.YtjagdiilcphhfaaGreatDoor.Ev
theorem B_append (s t : ByteArray) : B (s ++ t) = B s ++ B t := by unfold B; simp
theorem B_inj {s t : ByteArray} (h : B s = B t) : s = t := ByteArray.ext (Array.ext' h)
theorem B_mk (l : List UInt8) : B ⟨l.toArray⟩ = l := by unfold B; simp
def stepT (i : Nat) (s m : ByteArray) : ByteArray := if i = 0 then s ++ m else (s ++ ⟨#[44]⟩) ++ m
def textL : Nat → ByteArray → List ByteArray → ByteArray
  | _, s, [] => s
  | i, s, m :: t => textL (i + 1) (stepT i s m) t
def lensT : List ByteArray → Nat
  | [] => 0
  | m :: t => (m.size + 1) + lensT t
theorem lensT_le {c : Nat} : ∀ (t : List ByteArray), (∀ x ∈ t, x.size ≤ c) → lensT t ≤ t.length * (c + 1)
  | [], _ => by simp [lensT]
  | m :: t, h => by
    have h1 := lensT_le t (fun x hx => h x (by simp [hx]))
    have h2 := h m (by simp)
    rw [lensT, List.length_cons, Nat.succ_mul]
    omega
theorem stepT_size (i : Nat) (s m : ByteArray) : (stepT i s m).size ≤ s.size + (m.size + 1) := by
  have h1 : (⟨#[44]⟩ : ByteArray).size = 1 := rfl
  unfold stepT
  split <;> simp only [ByteArray.size_append, h1] <;> omega
theorem text_loop (ms : List ByteArray) (hm : ms.length ≤ 140737488355328) : ∀ (t : List ByteArray) (i : Nat) (s : ByteArray), ms.drop i = t → s.size + lensT t ≤ 140737488355328 →
    packX 0 [3] (loopW (bd E0 (ev E0) loopW 0 [1, 3, 4] L39b0) ⟨[(1, .ptr 0 0 0), (3, st s), (4, i64 i)], [some ⟨48, 1, 0, false, [.agg [.lst 1 (ms.map st)]]⟩]⟩) = some (.ext 0, ⟨[(3, st (textL i s t))], []⟩) := by
  intro t
  induction t with
  | nil =>
    intro i s h _
    have hi := not_drop h
    rw [loopW_eq]
    generalize loopW (bd E0 (ev E0) loopW 0 [1, 3, 4] L39b0) = K
    simp -implicitDefEqProofs [bd, L39b0, hi, textL]
  | cons m t ih =>
    intro i s h hs
    obtain ⟨hi, hx, hd, hmem⟩ := at_drop h
    rw [lensT] at hs
    have hz := stepT_size i s m
    have hih := ih (i + 1) (stepT i s m) hd (by omega)
    have hw : IntKind.i64.wrap ((i : Int) + 1) = (i : Int) + 1 := wr64 (by omega) (by omega)
    have h1 : (⟨#[44]⟩ : ByteArray).size = 1 := rfl
    rw [cs1] at hih
    rw [textL, loopW_eq]
    generalize textL (i + 1) (stepT i s m) t = q at hih ⊢
    generalize loopW (bd E0 (ev E0) loopW 0 [1, 3, 4] L39b0) = K at hih ⊢
    by_cases h0 : i = 0
    · subst h0
      have hb : s.size + m.size ≤ 9223372036854775807 := by omega
      have hst : stepT 0 s m = s ++ m := rfl
      rw [hst] at hih
      simp at hw
      simpa -implicitDefEqProofs [bd, L39b0, hi, hx, hb, hw] using hih
    · have hst : stepT i s m = (s ++ ⟨#[44]⟩) ++ m := by unfold stepT; rw [if_neg h0]
      have hb1 : s.size + (⟨#[44]⟩ : ByteArray).size ≤ 9223372036854775807 := by omega
      have hb2 : (s ++ ⟨#[44]⟩).size + m.size ≤ 9223372036854775807 := by rw [ByteArray.size_append]; omega
      have hb3 : s.size + (⟨#[44]⟩ : ByteArray).size + m.size ≤ 9223372036854775807 := by omega
      have hp : (0 : Int) < (i : Int) := by omega
      have hp2 : 0 < i := by omega
      rw [hst] at hih
      simpa -implicitDefEqProofs [bd, L39b0, hi, hx, hb1, hb2, hb3, hw, hp, hp2] using hih
theorem text_s (ms : List ByteArray) (hm : ms.length ≤ 140737488355328) (hs : lensT ms ≤ 140737488355328) : ev E0 39 [.agg [.lst 1 (ms.map st)]] [] = some (st (textL 0 ⟨#[]⟩ ms), []) := by
  rw [e39]
  unfold runF
  have h0 : (⟨#[]⟩ : ByteArray).size = 0 := rfl
  have hl := text_loop ms hm ms 0 ⟨#[]⟩ rfl (by omega)
  rw [c0] at hl
  simp -implicitDefEqProofs [L39, hl]
theorem textL_tail : ∀ (t : List ByteArray) (i : Nat) (s : ByteArray), B (textL (i + 1) s t) = B s ++ Lib.joinTail [44] (t.map (·.data.toList))
  | [], i, s => by simp [textL, Lib.joinTail]
  | m :: t, i, s => by
    have h1 : stepT (i + 1) s m = (s ++ ⟨#[44]⟩) ++ m := by unfold stepT; rw [if_neg (by omega)]
    have h2 : B (⟨#[44]⟩ : ByteArray) = [44] := rfl
    rw [textL, textL_tail t (i + 1), h1, B_append, B_append, h2]
    simp [Lib.joinTail, B]
/-- The library's Join gives the same. -/
theorem textL_join (ms : List ByteArray) : textL 0 ⟨#[]⟩ ms = ⟨(joinB ms ⟨#[44]⟩).toArray⟩ := by
  refine B_inj (Eq.trans ?_ (B_mk _).symm)
  cases ms with
  | nil => rfl
  | cons m t =>
    have h1 : stepT 0 ⟨#[]⟩ m = m := by
      unfold stepT
      rw [if_pos rfl]
      refine B_inj ?_
      rw [B_append]
      rfl
    have h2 : (⟨#[44]⟩ : ByteArray).data.toList = [44] := rfl
    rw [textL, h1, textL_tail]
    unfold joinB
    rw [List.map_cons, Lib.join_cons, h2]
    rfl
theorem textL_size : ∀ (t : List ByteArray) (i : Nat) (s : ByteArray), (textL i s t).size ≤ s.size + lensT t
  | [], i, s => by simp [textL, lensT]
  | m :: t, i, s => by
    have h1 := textL_size t (i + 1) (stepT i s m)
    have h2 := stepT_size i s m
    rw [textL, lensT]
    omega
theorem tableText (ms : List ByteArray) (hm : ms.length ≤ 140737488355328) (hs : ∀ x ∈ ms, x.size ≤ 140737488355328) (hL : lensT ms ≤ 140737488355328) : ev E0 37 [.agg [.lst 1 (ms.map st)]] [] = some (.tup [st (if okTable ms = true then textL 0 ⟨#[]⟩ ms else ⟨#[]⟩), bl (okTable ms)], []) := by
  rw [e37]
  unfold runF
  have t2 := table_i ms hm hs
  have hj : ev E0 66 [.lst 1 (ms.map st), st ⟨#[44]⟩] [] = some (st (textL 0 ⟨#[]⟩ ms), []) := by
    have hz := textL_size ms 0 ⟨#[]⟩
    have h0 : (⟨#[]⟩ : ByteArray).size = 0 := rfl
    have hb : (joinB ms ⟨#[44]⟩).length ≤ 140737488355328 := by
      have hq : (joinB ms ⟨#[44]⟩).length = (textL 0 ⟨#[]⟩ ms).size := by
        have h3 := congrArg (fun s => (B s).length) (textL_join ms)
        simp only [B_len] at h3
        rw [h3]
        simp [ByteArray.size]
      omega
    rw [e66, textL_join]
    show joinQ _ _ (strsOf _) = _
    rw [strsOf_map]
    show (if _ then _ else _) = _
    rw [if_pos ⟨hm, hb⟩]
  cases h1 : okTable ms with
  | false =>
    rw [h1] at t2
    simp -implicitDefEqProofs [L37, t2]
  | true =>
    rw [h1] at t2
    simp -implicitDefEqProofs [L37, t2, hj]
theorem newStation (ms : List ByteArray) (hm : ms.length ≤ 140737488355328) (hs : ∀ x ∈ ms, x.size ≤ 140737488355328) (hL : lensT ms ≤ 140737488355328) : ∃ s ok,
    ev E0 21 [.agg [.lst 1 (ms.map st)]] [] = some (.tup [.agg [st s, st ⟨#[]⟩, i64 0], bl ok], []) ∧
    ev E0 20 [.agg [.lst 1 (ms.map st)]] [] = some (.tup [.agg [st s, st ⟨#[]⟩, i64 0], bl ok], []) := by
  rw [e21, e20]
  unfold runF
  have t1 := table_s ms hm hs
  have t2 := text_s ms hm hL
  have t3 := tableText ms hm hs hL
  cases h1 : okTable ms with
  | false =>
    rw [h1] at t1 t3
    rw [if_neg (by simp)] at t3
    refine ⟨⟨#[]⟩, false, ?_, ?_⟩
    · simp -implicitDefEqProofs [L21, t1]
    · simp -implicitDefEqProofs [L20, t3]
  | true =>
    rw [h1] at t1 t3
    rw [if_pos rfl] at t3
    refine ⟨textL 0 ⟨#[]⟩ ms, true, ?_, ?_⟩
    · simp -implicitDefEqProofs [L21, t1, t2]
    · simp -implicitDefEqProofs [L20, t3]
theorem eq_station (a b : ByteArray) (n : Int) : ev E0 12 [.agg [st a, st b, i64 n], .agg [st a, st b, i64 n]] [] = some (bl true, []) := by
  rw [e12]
  unfold runF
  simp -implicitDefEqProofs [L12]
end Go.Proofs.YtjagdiilcphhfaaGreatDoor.Ev
