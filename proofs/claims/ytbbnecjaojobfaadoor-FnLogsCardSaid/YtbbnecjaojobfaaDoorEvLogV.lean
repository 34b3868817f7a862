/- Valid logs: the reference's l12Valid and the program's IsValidLog; valid consoles. -/
import Derived.Test.YtbbnecjaojobfaaDoorEvLogO
set_option linter.unusedVariables false
set_option linter.unusedSimpArgs false
namespace Go.Proofs.YtbbnecjaojobfaaDoor.Ev.Lg
theorem add_log (d p : ByteArray) (h : d.size + p.size ≤ 30000) : d.size + p.size ≤ 9223372036854775807 := by omega
theorem valid_s (d p : ByteArray) (n : Int) (hd : d.size ≤ 1073741824) (hp : p.size ≤ 1073741824) : ev E0 45 [.agg [st d, st p, i64 n]] [] = some (bl (okLog d p n), []) := by
  rw [e45]
  unfold runF
  have hw : IntKind.i64.wrap ((d.size : Int) + (p.size : Int)) = (d.size : Int) + (p.size : Int) := wr64 (by omega) (by omega)
  have hb : d.size + p.size ≤ 9223372036854775807 := by omega
  by_cases h0 : d.size + p.size ≤ 30000
  · have h1 : ¬ (30000 : Int) < (d.size : Int) + (p.size : Int) := by omega
    have o1 := open_s (d ++ p) (by rw [ByteArray.size_append]; omega)
    have o2 := open_s d (by omega)
    rw [B_append] at o1
    have hk : okLog d p n = (decide (tot (run 60 0 (B d ++ B p)) = d.size + p.size) && (decide (tot (run 60 0 (B d)) = d.size) && decide (((run 60 0 (B d ++ B p)).length : Int) = n))) := by
      unfold okLog
      rw [decide_eq_true h0, Bool.true_and]
    rw [hk]
    generalize ((run 60 0 (B d ++ B p)).map (·.1)).map recE = X1 at *
    generalize ((run 60 0 (B d)).map (·.1)).map recE = X2 at *
    generalize (run 60 0 (B d ++ B p)).length = z1 at *
    generalize (run 60 0 (B d)).length = z2 at *
    generalize tot (run 60 0 (B d ++ B p)) = t1 at *
    generalize tot (run 60 0 (B d)) = t2 at *
    have e1 : decide ((t1 : Int) = (d.size : Int) + (p.size : Int)) = decide (t1 = d.size + p.size) := decide_eq_decide.2 (by omega)
    have e2 : decide ((t2 : Int) = (d.size : Int)) = decide (t2 = d.size) := decide_eq_decide.2 (by omega)
    cases h3 : decide (t1 = d.size + p.size) with
    | false =>
      rw [h3] at e1
      simp -implicitDefEqProofs [L45, hw, hb, h1, o1, o2, e1]
    | true =>
      rw [h3] at e1
      cases h4 : decide (t2 = d.size) with
      | false =>
        rw [h4] at e2
        have h5 : ¬ t2 = d.size := of_decide_eq_false h4
        simp -implicitDefEqProofs [L45, hw, hb, h1, o1, o2, e1, e2, h5]
      | true =>
        rw [h4] at e2
        have h5 : decide (t2 = d.size) = true := h4
        simp -implicitDefEqProofs [L45, hw, hb, h1, o1, o2, e1, e2, h5]
  · have h1 : (30000 : Int) < (d.size : Int) + (p.size : Int) := by omega
    have hk : okLog d p n = false := by
      unfold okLog
      rw [decide_eq_false h0, Bool.false_and]
    rw [hk]
    simp -implicitDefEqProofs [L45, hw, h1]
theorem records_loop (d p : ByteArray) (n : Int) (X : List AV) (z : Nat) (es : List Int) (hes : es.length ≤ 1000) : ∀ (t : List Int) (i : Nat), es.drop i = t →
    packX 0 [2, 3] (loopW (bd E0 (ev E0) loopW 0 [1, 5, 37, 38, 39] L57b0) ⟨[(1, .ptr 0 0 0), (5, .sl 1 0 z), (37, .sl 2 0 es.length), (38, i64 es.length), (39, i64 i)], [some ⟨27, 3, 0, false, [.agg [st d, st p, i64 n]]⟩, some ⟨33, 2, 1, false, X⟩, some ⟨3, 1, 1, false, es.map i64⟩]⟩) =
      if (d.size : Int) ∈ t then some (.ret, ⟨[(2, .sl 0 0 z), (3, bl true)], [some ⟨33, 2, 1, false, X⟩]⟩) else some (.ext 0, ⟨[], []⟩) := by
  intro t
  induction t with
  | nil =>
    intro i h
    have hi := not_drop h
    rw [loopW_eq]
    generalize loopW (bd E0 (ev E0) loopW 0 [1, 5, 37, 38, 39] L57b0) = K
    simp -implicitDefEqProofs [bd, L57b0, hi]
  | cons c t ih =>
    intro i h
    obtain ⟨hi, hx, hd, hmem⟩ := at_drop h
    have hih := ih (i + 1) hd
    rw [cs1] at hih
    have hw : IntKind.i64.wrap ((i : Int) + 1) = (i : Int) + 1 := wr64 (by omega) (by omega)
    rw [loopW_eq]
    generalize loopW (bd E0 (ev E0) loopW 0 [1, 5, 37, 38, 39] L57b0) = K at hih ⊢
    by_cases h1 : c = (d.size : Int)
    · have h2 : (d.size : Int) ∈ c :: t := by rw [h1]; simp
      have h3 : decide (c = (d.size : Int)) = true := decide_eq_true h1
      rw [if_pos h2]
      simp -implicitDefEqProofs [bd, L57b0, hi, hx, h3]
    · have e2 : ((d.size : Int) ∈ c :: t) ↔ ((d.size : Int) ∈ t) := by
        rw [List.mem_cons]
        constructor
        · rintro (h | h)
          · exact absurd h.symm h1
          · exact h
        · exact Or.inr
      have h3 : decide (c = (d.size : Int)) = false := decide_eq_false h1
      simp only [e2]
      generalize (if (d.size : Int) ∈ t then some (Ex.ret, (⟨[(2, .sl 0 0 z), (3, bl true)], [some ⟨33, 2, 1, false, X⟩]⟩ : St)) else some (.ext 0, ⟨[], []⟩)) = W at hih ⊢
      simpa -implicitDefEqProofs [bd, L57b0, hi, hx, h3, hw] using hih
theorem ends_last : ∀ (x : List (R × Nat)) (a : Nat), (((a : Nat) : Int) :: ends a x)[x.length]? = some ((a + tot x : Nat) : Int)
  | [], a => by simp [tot]
  | (e, z) :: x, a => by
    have h := ends_last x (a + z)
    rw [List.length_cons, List.getElem?_cons_succ, ends, h]
    simp [tot, Nat.add_assoc]
theorem records_i (d p : ByteArray) (n : Int) (hd : d.size ≤ 1073741824) (hp : p.size ≤ 1073741824) : (okLog d p n = true → ev E0 57 [.agg [st d, st p, i64 n]] [] = some (.tup [.sl 0 0 (run 60 0 (B d ++ B p)).length, bl true], [some ⟨33, 2, 1, false, ((run 60 0 (B d ++ B p)).map (·.1)).map recE⟩])) ∧
    (okLog d p n = false → ev E0 57 [.agg [st d, st p, i64 n]] [] = some (.tup [.v (.slice none 0 0), bl false], [])) := by
  rw [e57]
  unfold runF
  have hb : d.size + p.size ≤ 9223372036854775807 := by omega
  by_cases h0 : d.size + p.size ≤ 30000
  · have h1 : ¬ (30000 : Int) < (d.size : Int) + (p.size : Int) := by omega
    have h1' : ¬ 30000 < d.size + p.size := by omega
    have o1 := read_i (d ++ p) (by rw [ByteArray.size_append]; omega)
    rw [B_append] at o1
    have hk : okLog d p n = (decide (tot (run 60 0 (B d ++ B p)) = d.size + p.size) && (decide (tot (run 60 0 (B d)) = d.size) && decide (((run 60 0 (B d ++ B p)).length : Int) = n))) := by
      unfold okLog
      rw [decide_eq_true h0, Bool.true_and]
    have hel := ends_len (run 60 0 (B d ++ B p)) 0
    have hrl := run_len 60 0 (B d ++ B p)
    have hlast := ends_last (run 60 0 (B d ++ B p)) 0
    have hif := ends_iff d p
    have hlen : ((0 : Int) :: ends 0 (run 60 0 (B d ++ B p))).length = (run 60 0 (B d ++ B p)).length + 1 := by rw [List.length_cons, hel]
    rw [hk]
    rw [Nat.zero_add, c0] at hlast
    have hlp := records_loop d p n (((run 60 0 (B d ++ B p)).map (·.1)).map recE) (run 60 0 (B d ++ B p)).length ((0 : Int) :: ends 0 (run 60 0 (B d ++ B p))) (by omega) _ 0 rfl
    rw [List.drop_zero] at hlp
    generalize (0 : Int) :: ends 0 (run 60 0 (B d ++ B p)) = ES at *
    generalize ((run 60 0 (B d ++ B p)).map (·.1)).map recE = X1 at *
    generalize (run 60 0 (B d ++ B p)).length = z1 at *
    generalize tot (run 60 0 (B d ++ B p)) = t1 at *
    have hz : z1 < ES.length := by omega
    have hgz : ES[z1] = (t1 : Int) := by
      rw [List.getElem?_eq_getElem hz] at hlast
      exact Option.some.inj hlast
    have hz' : (z1 : Int) < (ES.length : Int) := by omega
    rw [c0] at hlp
    by_cases h3 : t1 = d.size + p.size
    · have h3' : decide ((t1 : Int) = (d.size : Int) + (p.size : Int)) = true := decide_eq_true (by omega)
      have hi := hif h3
      by_cases h4 : (z1 : Int) = n
      · have h4' : decide ((z1 : Int) = n) = true := decide_eq_true h4
        by_cases h5 : tot (run 60 0 (B d)) = d.size
        · rw [if_pos (hi.2 h5)] at hlp
          rw [decide_eq_true h3, decide_eq_true h5, h4']
          refine ⟨fun _ => ?_, fun h => (by cases h)⟩
          simp -implicitDefEqProofs [L57, hb, h1, h1', o1, hz, hz', hgz, h3', h4', hlp]
        · rw [if_neg (fun h => h5 (hi.1 h))] at hlp
          rw [decide_eq_true h3, decide_eq_false h5]
          refine ⟨fun h => (by cases h), fun _ => ?_⟩
          simp -implicitDefEqProofs [L57, hb, h1, h1', o1, hz, hz', hgz, h3', h4', hlp]
      · have h4' : decide ((z1 : Int) = n) = false := decide_eq_false h4
        rw [h4', Bool.and_false, Bool.and_false]
        refine ⟨fun h => (by cases h), fun _ => ?_⟩
        simp -implicitDefEqProofs [L57, hb, h1, h1', o1, hz, hz', hgz, h3', h4']
    · have h3' : decide ((t1 : Int) = (d.size : Int) + (p.size : Int)) = false := decide_eq_false (by omega)
      rw [decide_eq_false h3, Bool.false_and]
      refine ⟨fun h => (by cases h), fun _ => ?_⟩
      simp -implicitDefEqProofs [L57, hb, h1, h1', o1, hz, hz', hgz, h3']
  · have h1 : (30000 : Int) < (d.size : Int) + (p.size : Int) := by omega
    have h1' : 30000 < d.size + p.size := by omega
    have hk : okLog d p n = false := by
      unfold okLog
      rw [decide_eq_false h0, Bool.false_and]
    rw [hk]
    refine ⟨fun h => (by cases h), fun _ => ?_⟩
    simp -implicitDefEqProofs [L57, hb, h1, h1']
theorem valid_i (d p : ByteArray) (n : Int) (hd : d.size ≤ 1073741824) (hp : p.size ≤ 1073741824) : ev E0 23 [.agg [st d, st p, i64 n]] [] = some (bl (okLog d p n), []) := by
  rw [e23]
  unfold runF
  obtain ⟨r1, r0⟩ := records_i d p n hd hp
  cases hk : okLog d p n with
  | false =>
    have := r0 hk
    simp -implicitDefEqProofs [L23, this]
  | true =>
    have := r1 hk
    generalize ((run 60 0 (B d ++ B p)).map (·.1)).map recE = X1 at *
    simp -implicitDefEqProofs [L23, this]
end Go.Proofs.YtbbnecjaojobfaaDoor.Ev.Lg
