/- The best readings: the reference's, and what they are. -/
import Derived.Test.YtkdfgjijmnaljaaDoorEvRd9
set_option linter.unusedVariables false
set_option linter.unusedSimpArgs false
namespace Go.Proofs.YtkdfgjijmnaljaaDoor.Ev
theorem cntS_outer (most : Bool) (s : ByteArray) (hs : s.size ≤ 40) (ms : List ByteArray) (hv : VT ms) : ∀ k : Nat, k ≤ s.size →
    packX 0 [7] (loopW (bd E0 (ev E0) loopW 0 [1, 2, 3, 7, 8] L71b1) ⟨[(1, st s), (2, bl most), (3, .ptr 0 0 0), (7, .sl 1 0 (s.size + 1)), (8, i64 ((k : Int) - 1))], [some (tb ms), some (jb (List.replicate k 0 ++ cva most ms ((B s).drop k)))]⟩) =
      some (.ext 0, ⟨[(7, .sl 0 0 (s.size + 1))], [some (jb (cva most ms (B s)))]⟩) := by
  intro k
  induction k with
  | zero =>
    intro _
    rw [loopW_eq]
    generalize loopW (bd E0 (ev E0) loopW 0 [1, 2, 3, 7, 8] L71b1) = K
    unfold bd
    simp -implicitDefEqProofs [L71b1, jb, tb]
  | succ k ih =>
    intro hk
    have hih := ih (by omega)
    have hvl : k + (cva most ms ((B s).drop (k + 1))).length = s.size := by rw [cva_len, List.length_drop, B_len]; omega
    have hin := cntS_loop most s (by omega) ms (by have := hv.len; omega) (fun m hm => by have := hv.sz m hm; omega) k (by omega) _ hvl (fun i => by have := cva_b most ms ((B s).drop (k + 1)) i; rw [List.length_drop, B_len] at this; omega) ms 0 (-1) rfl (by omega) (by omega)
    rw [c0] at hin
    have he : arj 0 k (ms.foldl (fs most ((B s).drop k) (cva most ms ((B s).drop (k + 1)))) (-1)) (cva most ms ((B s).drop (k + 1))) = List.replicate k 0 ++ cva most ms ((B s).drop k) := by
      rw [cva_at most ms s k (by omega)]
      rfl
    rw [he] at hin
    have e0 : List.replicate (k + 1) (0 : Int) ++ cva most ms ((B s).drop (k + 1)) = arj 0 k 0 (cva most ms ((B s).drop (k + 1))) := by
      unfold arj
      rw [List.replicate_succ', List.append_assoc]
      rfl
    have hset := arj_set 0 k 0 (-1) (cva most ms ((B s).drop (k + 1)))
    have g1 := arj_at 0 k 0 (cva most ms ((B s).drop (k + 1)))
    have g4 : ∀ h, (js (arj 0 k 0 (cva most ms ((B s).drop (k + 1)))))[k]'h = i64 0 := fun h => (List.getElem?_eq_some_iff.1 g1).2
    have hl := arj_len 0 k 0 (cva most ms ((B s).drop (k + 1)))
    have hl2 := js_len (arj 0 k 0 (cva most ms ((B s).drop (k + 1))))
    rw [hl] at hl2
    have hl3 : k + (cva most ms ((B s).drop (k + 1))).length + 1 = s.size + 1 := by omega
    rw [hl3] at hl2
    rw [e0, show (((k + 1 : Nat) : Int) - 1) = (k : Int) by omega, loopW_eq]
    have hw : IntKind.i64.wrap ((k : Int) - 1) = (k : Int) - 1 := wr64 (by omega) (by omega)
    have hk0 : (0 : Int) ≤ (k : Int) := by omega
    have q1 : k < s.size + 1 := by omega
    have q3 : (k : Int) < (s.size : Int) + 1 := by omega
    simp only [jb, tb] at hin hih ⊢
    generalize js (arj 0 k 0 (cva most ms ((B s).drop (k + 1)))) = A0 at *
    generalize js (arj 0 k (-1) (cva most ms ((B s).drop (k + 1)))) = A1 at *
    generalize js (List.replicate k 0 ++ cva most ms ((B s).drop k)) = A2 at *
    generalize loopW (bd E0 (ev E0) loopW 0 [1, 2, 3, 7, 8] L71b1) = K at hih ⊢
    unfold bd
    simpa -implicitDefEqProofs [L71b1, hin, hw, hk0, q1, q3, g1, g4, hset, hl2] using hih
theorem counts_s (most : Bool) (s : ByteArray) (hs : s.size ≤ 40) (ms : List ByteArray) (hv : VT ms) : ev E0 71 [.agg [.lst 1 (ms.map st)], st s, bl most] [] = some (.sl 0 0 (s.size + 1), [some (jb (cva most ms (B s)))]) := by
  have ho := cntS_outer most s hs ms hv s.size (Nat.le_refl _)
  have hd : (B s).drop s.size = [] := List.drop_of_length_le (by rw [B_len]; exact Nat.le_refl _)
  rw [hd, show cva most ms [] = [0] from rfl] at ho
  have w1 : IntKind.i64.wrap ((s.size : Int) + 1) = ((s.size + 1 : Nat) : Int) := by rw [wr64 (by omega) (by omega)]; omega
  have w2 : IntKind.i64.wrap ((s.size : Int) - 1) = (s.size : Int) - 1 := wr64 (by omega) (by omega)
  have hset : List.replicate (s.size + 1) (i64 0) = js (List.replicate s.size 0 ++ [0]) := by
    unfold js
    rw [List.replicate_succ', List.map_append, List.map_replicate]
    rfl
  have q1 : ((s.size + 1 : Nat) : Int) * 8 ≤ 140737488355328 := by omega
  have q2 : ((s.size + 1 : Nat) : Int) ≤ 140737488355328 := by omega
  have q3 : (0 : Int) ≤ ((s.size + 1 : Nat) : Int) := by omega
  rw [e71]
  unfold runF
  simp only [jb, tb] at ho ⊢
  simp -implicitDefEqProofs [L71, w1, w2, q1, q2, q3, hset, ho, -Int.natCast_add]
-- ---------------------------------------------------------------- what the best numbers are
theorem fold_some (most : Bool) (l : List UInt8) (vs : List Int) : ∀ (t : List ByteArray) (acc : Int), t.foldl (fs most l vs) acc = acc ∨ ∃ m ∈ t, Rd.pre (B m) l = true ∧ 0 ≤ vs.getD (m.size - 1) (-1) ∧ t.foldl (fs most l vs) acc = vs.getD (m.size - 1) (-1) + 1 := by
  intro t
  induction t with
  | nil => intro acc; exact .inl rfl
  | cons m t ih =>
    intro acc
    rw [List.foldl_cons]
    rcases ih (fs most l vs acc m) with h | ⟨x, hx, h1, h2, h3⟩
    · rw [h]
      unfold fs
      by_cases hp : Rd.pre (B m) l = true
      · rw [if_pos hp]
        unfold stp
        by_cases hy : vs.getD (m.size - 1) (-1) < 0
        · rw [if_pos hy]; exact .inl rfl
        · rw [if_neg hy]
          split
          · exact .inr ⟨m, List.mem_cons_self .., hp, by omega, rfl⟩
          · exact .inl rfl
      · rw [if_neg hp]; exact .inl rfl
    · exact .inr ⟨x, List.mem_cons_of_mem _ hx, h1, h2, h3⟩
/-- a is no better than r. -/
def ge (most : Bool) (r a : Int) : Prop := 0 ≤ r ∧ if most = true then a ≤ r else r ≤ a
theorem stp_ge {most : Bool} {v acc : Int} : (0 ≤ acc → ge most (stp most v acc) acc) ∧ (0 ≤ v → ge most (stp most v acc) (v + 1)) := by
  unfold stp ge bt
  cases most <;> by_cases h1 : v < 0 <;> by_cases h2 : acc < 0 <;> simp [h1, h2] <;> (try omega) <;> (first | (by_cases h3 : v + 1 < acc <;> simp [h3] <;> omega) | (by_cases h3 : acc < v + 1 <;> simp [h3] <;> omega))
theorem ge_trans {most : Bool} {a b c : Int} (h1 : ge most a b) (h2 : ge most b c) : ge most a c := by
  unfold ge at *
  cases most <;> simp at * <;> omega
theorem fold_ge (most : Bool) (l : List UInt8) (vs : List Int) : ∀ (t : List ByteArray) (acc : Int), (0 ≤ acc → ge most (t.foldl (fs most l vs) acc) acc) ∧ ∀ m ∈ t, Rd.pre (B m) l = true → 0 ≤ vs.getD (m.size - 1) (-1) → ge most (t.foldl (fs most l vs) acc) (vs.getD (m.size - 1) (-1) + 1) := by
  intro t
  induction t with
  | nil => intro acc; exact ⟨fun h => by unfold ge; cases most <;> simp [h], fun m hm => by simp at hm⟩
  | cons m t ih =>
    intro acc
    rw [List.foldl_cons]
    obtain ⟨i1, i2⟩ := ih (fs most l vs acc m)
    constructor
    · intro h
      by_cases hp : Rd.pre (B m) l = true
      · have h1 := (stp_ge (most := most) (v := vs.getD (m.size - 1) (-1)) (acc := acc)).1 h
        have h2 : fs most l vs acc m = stp most (vs.getD (m.size - 1) (-1)) acc := by unfold fs; rw [if_pos hp]
        rw [h2] at i1 ⊢
        exact ge_trans (i1 h1.1) h1
      · have h2 : fs most l vs acc m = acc := by unfold fs; rw [if_neg hp]
        rw [h2] at i1 ⊢
        exact i1 h
    · intro x hx hp h0
      rcases List.mem_cons.1 hx with rfl | hx
      · have h1 := (stp_ge (most := most) (v := vs.getD (x.size - 1) (-1)) (acc := acc)).2 h0
        have h2 : fs most l vs acc x = stp most (vs.getD (x.size - 1) (-1)) acc := by unfold fs; rw [if_pos hp]
        rw [h2] at i1 ⊢
        exact ge_trans (i1 h1.1) h1
      · exact i2 x hx hp h0
theorem cw_cons (most : Bool) (ms : List ByteArray) (c : UInt8) (t : List UInt8) : cw most ms (c :: t) = ms.foldl (fs most (c :: t) (cva most ms t)) (-1) := rfl
theorem cva_m {most : Bool} {ms : List ByteArray} (hv : VT ms) {c : UInt8} {t : List UInt8} {m : ByteArray} (hm : m ∈ ms) (hp : Rd.pre (B m) (c :: t) = true) : (cva most ms t).getD (m.size - 1) (-1) = cw most ms ((c :: t).drop m.size) := by
  have h1 := hv.sz m hm
  have h2 := Rd.pre_len hp
  rw [B_len, List.length_cons] at h2
  rw [cva_get most ms (m.size - 1) t (by omega)]
  obtain ⟨z, hz⟩ : ∃ z, m.size = z + 1 := ⟨m.size - 1, by omega⟩
  rw [hz, List.drop_succ_cons, Nat.add_sub_cancel]
/-- A letter that is best. -/
theorem cw_some {most : Bool} {ms : List ByteArray} (hv : VT ms) {l : List UInt8} (hl : l ≠ []) (h : 0 ≤ cw most ms l) : ∃ m ∈ ms, Rd.pre (B m) l = true ∧ 0 ≤ cw most ms (l.drop m.size) ∧ cw most ms (l.drop m.size) = cw most ms l - 1 := by
  cases l with
  | nil => exact absurd rfl hl
  | cons c t =>
    rcases fold_some most (c :: t) (cva most ms t) ms (-1) with e | ⟨m, hm, h1, h2, h3⟩
    · rw [cw_cons, e] at h; omega
    · rw [cva_m hv hm h1] at h2 h3
      refine ⟨m, hm, h1, h2, ?_⟩
      rw [cw_cons, h3]
      omega
theorem cw_best {most : Bool} {ms : List ByteArray} (hv : VT ms) : ∀ (w : List Nat), (∀ i ∈ w, i < ms.length) → ge most (cw most ms (flat ms w)) w.length
  | [], _ => by unfold ge; cases most <;> simp [flat, cw, cva]
  | i :: w, hw => by
    have ih := cw_best (most := most) hv w (fun x hx => hw x (List.mem_cons_of_mem _ hx))
    have hi := hw i (List.mem_cons_self ..)
    have hm : mk_ ms i ∈ ms := by rw [← mk_at hi]; exact List.getElem_mem hi
    have hz := hv.sz _ hm
    have hf : flat ms (i :: w) = B (mk_ ms i) ++ flat ms w := rfl
    have hp : Rd.pre (B (mk_ ms i)) (flat ms (i :: w)) = true := Rd.pre_iff.2 (by rw [hf, List.drop_left])
    have hd : (flat ms (i :: w)).drop (mk_ ms i).size = flat ms w := by rw [hf, ← B_len, List.drop_left]
    cases hL : flat ms (i :: w) with
    | nil =>
      have := congrArg List.length hL
      rw [hf, List.length_append, B_len, List.length_nil] at this
      omega
    | cons c t =>
      rw [hL] at hp hd
      have h1 := (fold_ge most (c :: t) (cva most ms t) ms (-1)).2 _ hm hp (by rw [cva_m hv hm hp, hd]; exact ih.1)
      rw [cva_m hv hm hp, hd] at h1
      rw [cw_cons]
      refine ge_trans h1 ?_
      unfold ge at ih ⊢
      rw [List.length_cons]
      cases most <;> simp at ih ⊢ <;> omega
/-- The letter that is taken. -/
def good (most : Bool) (ms : List ByteArray) (l : List UInt8) (m : ByteArray) : Bool := Rd.pre (B m) l && decide (cw most ms (l.drop m.size) = cw most ms l - 1)
def pk (most : Bool) (ms : List ByteArray) (l : List UInt8) : Nat := ms.findIdx (good most ms l)
def br (most : Bool) (ms : List ByteArray) : Nat → List UInt8 → List Nat
  | 0, _ => []
  | n + 1, l => if l = [] then [] else pk most ms l :: br most ms n (l.drop (mk_ ms (pk most ms l)).size)
theorem pk_ok {most : Bool} {ms : List ByteArray} (hv : VT ms) {l : List UInt8} (hl : l ≠ []) (h : 0 ≤ cw most ms l) : pk most ms l < ms.length ∧ Rd.pre (B (mk_ ms (pk most ms l))) l = true ∧ cw most ms (l.drop (mk_ ms (pk most ms l)).size) = cw most ms l - 1 ∧ 1 ≤ cw most ms l := by
  obtain ⟨m, hm, h1, h2, h3⟩ := cw_some hv hl h
  have hlt : pk most ms l < ms.length := List.findIdx_lt_length_of_exists ⟨m, hm, by unfold good; rw [h1, decide_eq_true h3]; rfl⟩
  have hg : good most ms l (ms[pk most ms l]'hlt) = true := List.findIdx_getElem (w := hlt)
  rw [mk_at hlt] at hg
  unfold good at hg
  rw [Bool.and_eq_true, decide_eq_true_eq] at hg
  exact ⟨hlt, hg.1, hg.2, by omega⟩
theorem br_ok {most : Bool} {ms : List ByteArray} (hv : VT ms) : ∀ (n : Nat) (l : List UInt8), l.length ≤ n → 0 ≤ cw most ms l → (∀ i ∈ br most ms n l, i < ms.length) ∧ flat ms (br most ms n l) = l ∧ ((br most ms n l).length : Int) = cw most ms l := by
  intro n
  induction n with
  | zero =>
    intro l hl _
    obtain rfl : l = [] := List.eq_nil_of_length_eq_zero (by omega)
    exact ⟨by simp [br], rfl, rfl⟩
  | succ n ih =>
    intro l hl h
    by_cases he : l = []
    · subst he
      refine ⟨by simp [br], by simp [br, flat], by simp [br]; rfl⟩
    · obtain ⟨h1, h2, h3, h4⟩ := pk_ok hv he h
      have hz := hv.sz (mk_ ms (pk most ms l)) (by rw [← mk_at h1]; exact List.getElem_mem h1)
      have hp := Rd.pre_iff.1 h2
      rw [B_len] at hp
      obtain ⟨i1, i2, i3⟩ := ih (l.drop (mk_ ms (pk most ms l)).size) (by rw [List.length_drop]; have := List.length_pos_iff.2 he; omega) (by omega)
      rw [br, if_neg he]
      refine ⟨fun x hx => ?_, ?_, ?_⟩
      · rcases List.mem_cons.1 hx with rfl | hx
        · exact h1
        · exact i1 x hx
      · show B (mk_ ms (pk most ms l)) ++ flat ms _ = l
        rw [i2]
        exact hp.symm
      · rw [List.length_cons]
        omega
theorem cw_pos {most : Bool} {ms : List ByteArray} (hv : VT ms) {l : List UInt8} : 0 ≤ cw most ms l ↔ 0 < Rd.wy (ms.map B) l := by
  constructor
  · intro h
    obtain ⟨h1, h2, _⟩ := br_ok hv l.length l (Nat.le_refl _) h
    have := flat_pos hv _ h1
    rwa [h2] at this
  · intro h
    obtain ⟨w, w1, w2⟩ : ∃ w : List Nat, (∀ i ∈ w, i < ms.length) ∧ flat ms w = l := by
      have key : ∀ (n : Nat) (l : List UInt8), l.length ≤ n → 0 < Rd.wy (ms.map B) l → ∃ w : List Nat, (∀ i ∈ w, i < ms.length) ∧ flat ms w = l := by
        intro n
        induction n with
        | zero =>
          intro l hl _
          obtain rfl : l = [] := List.eq_nil_of_length_eq_zero (by omega)
          exact ⟨[], by simp, rfl⟩
        | succ n ih =>
          intro l hl h
          by_cases he : l = []
          · subst he; exact ⟨[], by simp, rfl⟩
          · rw [wy_fl hv he] at h
            have hex : ∃ m ∈ ms, 0 < fl ms l m := by
              apply Decidable.byContradiction
              intro hn
              have : Rd.sm (fl ms l) ms = 0 := (Rd.sm_congr (g := fun _ => 0) fun m hm => by
                apply Decidable.byContradiction
                intro h0
                exact hn ⟨m, hm, by omega⟩).trans (Rd.sm_zero ms)
              omega
            obtain ⟨m, hm, hf⟩ := hex
            unfold fl at hf
            split at hf
            · rename_i hp
              have hz := hv.sz m hm
              obtain ⟨w, w1, w2⟩ := ih (l.drop m.size) (by rw [List.length_drop]; have := List.length_pos_iff.2 he; omega) hf
              obtain ⟨i, hi, hx⟩ := List.mem_iff_getElem.1 hm
              have hmi : mk_ ms i = m := by rw [← mk_at hi, hx]
              refine ⟨i :: w, fun x hx => ?_, ?_⟩
              · rcases List.mem_cons.1 hx with rfl | hx
                · exact hi
                · exact w1 x hx
              · show B (mk_ ms i) ++ flat ms w = l
                rw [hmi, w2]
                have := Rd.pre_iff.1 hp
                rw [B_len] at this
                exact this.symm
            · omega
      exact key l.length l (Nat.le_refl _) h
    have := (cw_best (most := most) hv w w1).1
    rwa [w2] at this
end Go.Proofs.YtkdfgjijmnaljaaDoor.Ev
