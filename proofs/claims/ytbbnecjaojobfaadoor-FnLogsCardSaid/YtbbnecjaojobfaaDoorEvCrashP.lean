/- What is read behind a crash, on lists of bytes. -/
import Derived.Test.YtbbnecjaojobfaaDoorEvLogV
set_option linter.unusedVariables false
set_option linter.unusedSimpArgs false
namespace Go.Proofs.YtbbnecjaojobfaaDoor.Ev.Lg
theorem run_cons {m n : Nat} {l : List UInt8} {e : R} {z : Nat} (h : step n l = some (e, z)) : run (m + 1) n l = (e, z) :: run m (n + 1) (l.drop z) := by
  conv => lhs; unfold run
  rw [h]
theorem run_stop {m n : Nat} {l : List UInt8} (h : step n l = none) : run (m + 1) n l = [] := by
  unfold run
  rw [h]
theorem tot_cons (e : R) (z : Nat) (x : List (R × Nat)) : tot ((e, z) :: x) = z + tot x := by simp [tot]
/-- What is read is read of what was read alone. -/
theorem run_take : ∀ (m n : Nat) (l : List UInt8), run m n (l.take (tot (run m n l))) = run m n l
  | 0, n, l => rfl
  | m + 1, n, l => by
    cases hs : step n l with
    | none =>
      rw [run_stop hs]
      have hz : step n (l.take (tot [])) = none := by
        have : l.take (tot []) = [] := by simp [tot]
        rw [this]
        unfold step
        rw [if_neg (by simp)]
      rw [run_stop hz]
    | some p =>
      obtain ⟨e, z⟩ := p
      have hz := step_len hs
      have ih := run_take m (n + 1) (l.drop z)
      rw [run_cons hs, tot_cons]
      have hle := tot_le m (n + 1) (l.drop z)
      rw [List.length_drop] at hle
      have h1 : l = l.take (z + tot (run m (n + 1) (l.drop z))) ++ l.drop (z + tot (run m (n + 1) (l.drop z))) := (List.take_append_drop _ _).symm
      have hs2 : step n (l.take (z + tot (run m (n + 1) (l.drop z)))) = some (e, z) := by
        refine step_less (b := l.drop (z + tot (run m (n + 1) (l.drop z)))) ?_ ?_
        · rw [← h1]; exact hs
        · rw [List.length_take]; omega
      rw [run_cons hs2, List.drop_take, Nat.add_sub_cancel_left, ih]
/-- Texts that begin alike are read alike, as far as that goes. -/
theorem run_prefix : ∀ (m n : Nat) (a b c : List UInt8), tot (run m n (a ++ b)) ≤ a.length → ∃ y, run m n (a ++ c) = run m n (a ++ b) ++ y
  | 0, n, a, b, c, _ => ⟨[], rfl⟩
  | m + 1, n, a, b, c, h => by
    cases hs : step n (a ++ b) with
    | none => rw [run_stop hs]; exact ⟨_, rfl⟩
    | some p =>
      obtain ⟨e, z⟩ := p
      rw [run_cons hs, tot_cons] at h
      have hs1 := step_less hs (by omega)
      have hs2 := step_more (b := c) hs1
      have hd : ∀ q : List UInt8, (a ++ q).drop z = a.drop z ++ q := fun q => by rw [List.drop_append_of_le_length (by omega)]
      rw [hd] at h
      obtain ⟨y, hy⟩ := run_prefix m (n + 1) (a.drop z) b c (by rw [List.length_drop]; omega)
      refine ⟨y, ?_⟩
      rw [run_cons hs, run_cons hs2, hd, hd, hy]
      rfl
theorem step_end {n : Int} {l : List UInt8} {e : R} {z : Nat} (h : step n l = some (e, z)) : l[z - 1]? = some 10 := by
  unfold step at h
  split at h
  · rename_i hm
    cases hd : dec n (upto 10 l) with
    | none => rw [hd] at h; cases h
    | some p =>
      rw [hd] at h
      simp only [Option.map_some, Option.some.injEq, Prod.mk.injEq] at h
      obtain ⟨_, rfl⟩ := h
      rw [Nat.add_sub_cancel]
      conv => lhs; rw [upto_split hm]
      rw [upto_append (notin_upto 10 l), List.getElem?_append_right (Nat.le_refl _), Nat.sub_self]
      rfl
  · cases h
/-- What is read ends with a line's end. -/
theorem run_end : ∀ (m n : Nat) (l : List UInt8), 0 < tot (run m n l) → l[tot (run m n l) - 1]? = some 10
  | 0, n, l, h => by simp [run, tot] at h
  | m + 1, n, l, h => by
    cases hs : step n l with
    | none => rw [run_stop hs] at h; simp [tot] at h
    | some p =>
      obtain ⟨e, z⟩ := p
      have hz := step_len hs
      rw [run_cons hs, tot_cons]
      by_cases h0 : tot (run m (n + 1) (l.drop z)) = 0
      · rw [h0]
        exact step_end hs
      · have ih := run_end m (n + 1) (l.drop z) (by omega)
        rw [List.getElem?_drop] at ih
        rw [← ih]
        congr 1
        omega
theorem okC_le {c : UInt8} (h : okC c = true) : c.toNat ≤ 126 := by
  unfold okC okB at h
  simp only [Bool.and_eq_true, decide_eq_true_eq] at h
  exact h.1.2
theorem enc_bytes {n : Int} {c r : ByteArray} (h : okRec c r = true) : ∀ x ∈ enc n (B c) (B r), x.toNat ≤ 126 := by
  unfold okRec at h
  simp only [Bool.and_eq_true, List.all_eq_true] at h
  obtain ⟨⟨⟨_, hc, _⟩, _⟩, hr, _⟩ := h
  intro x hx
  unfold enc seal_ body at hx
  have it : ∀ (k : Int) (y : UInt8), y ∈ Lib.itoa k → y.toNat ≤ 126 := fun k y hy => by have := itoa_bytes k y hy; omega
  rcases List.mem_append.1 hx with hx | hx
  · rcases List.mem_append.1 hx with hx | hx
    · rcases List.mem_append.1 hx with hx | hx
      · exact it _ _ hx
      · rcases List.mem_cons.1 hx with rfl | hx
        · decide
        · rcases List.mem_append.1 hx with hx | hx
          · exact okC_le (hc _ hx)
          · rcases List.mem_cons.1 hx with rfl | hx
            · decide
            · exact okC_le (hr _ hx)
    · rcases List.mem_cons.1 hx with rfl | hx
      · decide
      · exact it _ _ hx
  · rcases List.mem_cons.1 hx with rfl | hx
    · decide
    · cases hx
theorem run_bytes : ∀ (m n : Nat) (l : List UInt8), ∀ x ∈ l.take (tot (run m n l)), x.toNat ≤ 126
  | 0, n, l, x, hx => by simp [run, tot] at hx
  | m + 1, n, l, x, hx => by
    cases hs : step n l with
    | none => rw [run_stop hs] at hx; simp [tot] at hx
    | some p =>
      obtain ⟨e, z⟩ := p
      rw [run_cons hs, tot_cons, List.take_add] at hx
      rcases List.mem_append.1 hx with hx | hx
      · unfold step at hs
        split at hs
        · rename_i hm
          cases hd : dec n (upto 10 l) with
          | none => rw [hd] at hs; cases hs
          | some p =>
            rw [hd] at hs
            simp only [Option.map_some, Option.some.injEq, Prod.mk.injEq] at hs
            obtain ⟨_, rfl⟩ := hs
            obtain ⟨h1, h2⟩ := dec_some (c := p.1) (r := p.2) hd
            have ht : l.take ((upto 10 l).length + 1) = upto 10 l ++ [10] := by
              conv => lhs; rw [upto_split hm]
              rw [upto_append (notin_upto 10 l)]
              rw [List.take_append, List.take_of_length_le (by omega), Nat.add_sub_cancel_left]
              rfl
            rw [ht, ← h2] at hx
            exact enc_bytes h1 x hx
        · cases hs
      · exact run_bytes m (n + 1) (l.drop z) x hx
/-- The bytes that survive: the durable ones, and some pending ones, the last of which may be turned. -/
def crashed (d p : List UInt8) (keep : Nat) (torn : Bool) : List UInt8 :=
  if torn = true ∧ 0 < keep then d ++ (p.take keep).set (keep - 1) (255 - (p.take keep).getD (keep - 1) 0) else d ++ p.take keep
theorem crashed_len {d p : List UInt8} {keep : Nat} (hk : keep ≤ p.length) (torn : Bool) : (crashed d p keep torn).length = d.length + keep := by
  unfold crashed
  split <;> simp <;> omega
theorem crash_read (d p : ByteArray) (n : Int) (h : okLog d p n = true) (keep : Nat) (hk : keep ≤ p.size) (torn : Bool) :
    d.size ≤ tot (run 60 0 (crashed (B d) (B p) keep torn)) ∧ (∃ y, run 60 0 (B d ++ B p) = run 60 0 (crashed (B d) (B p) keep torn) ++ y) ∧ (torn = false → keep = p.size → run 60 0 (crashed (B d) (B p) keep torn) = run 60 0 (B d ++ B p)) := by
  have hk' : keep ≤ (B p).length := by rw [B_len]; exact hk
  unfold okLog at h
  simp only [Bool.and_eq_true, decide_eq_true_eq] at h
  obtain ⟨h0, h1, h2, h3⟩ := h
  have hd : ∀ q : List UInt8, d.size ≤ tot (run 60 0 (B d ++ q)) := fun q => by
    obtain ⟨x, hx⟩ := run_app 60 0 (B d) q (by rw [B_len]; exact h2)
    rw [hx]
    unfold tot at h2 ⊢
    rw [List.map_append, List.sum_append, h2]
    omega
  have hall : ∀ x ∈ B p, x.toNat ≤ 126 := fun x hx => by
    have := run_bytes 60 0 (B d ++ B p) x
    rw [h1] at this
    refine this ?_
    rw [List.take_of_length_le (by rw [List.length_append, B_len, B_len]; exact Nat.le_refl _)]
    exact List.mem_append_right _ hx
  by_cases ht : torn = true ∧ 0 < keep
  · have hc : crashed (B d) (B p) keep torn = (B d ++ (B p).take (keep - 1)) ++ [255 - ((B p).take keep).getD (keep - 1) 0] := by
      unfold crashed
      rw [if_pos ht, List.append_assoc]
      congr 1
      obtain ⟨k, rfl⟩ : ∃ k, keep = k + 1 := ⟨keep - 1, by omega⟩
      have hlt : k < (B p).length := by omega
      rw [Nat.add_sub_cancel, List.take_succ_eq_append_getElem hlt]
      have hl : ((B p).take k).length = k := by rw [List.length_take]; omega
      rw [List.set_append_right _ _ (by omega), hl, Nat.sub_self]
      simp [hl, List.getD]
    have hT : B d ++ B p = (B d ++ (B p).take (keep - 1)) ++ (B p).drop (keep - 1) := by rw [List.append_assoc, List.take_append_drop]
    refine ⟨?_, ?_, fun hf => by rw [hf] at ht; cases ht.1⟩
    · rw [hc, List.append_assoc]
      exact hd _
    · rw [hc]
      have hlast : ¬ (255 - ((B p).take keep).getD (keep - 1) 0) = (10 : UInt8) := by
        intro e
        have hm : ((B p).take keep).getD (keep - 1) 0 ∈ B p := by
          have hlt : keep - 1 < ((B p).take keep).length := by rw [List.length_take]; omega
          rw [List.getD_eq_getElem?_getD, List.getElem?_eq_getElem hlt]
          exact List.mem_of_mem_take (List.getElem_mem hlt)
        have h126 := hall _ hm
        generalize ((B p).take keep).getD (keep - 1) 0 = x at *
        have h5 := congrArg UInt8.toNat e
        rw [UInt8.toNat_sub_of_le _ _ (by rw [UInt8.le_iff_toNat_le]; show x.toNat ≤ 255; omega)] at h5
        have h6 : (255 : UInt8).toNat = 255 := rfl
        have h7 : (10 : UInt8).toNat = 10 := rfl
        omega
      have hle := tot_le 60 0 ((B d ++ (B p).take (keep - 1)) ++ [255 - ((B p).take keep).getD (keep - 1) 0])
      rw [hT]
      refine run_prefix 60 0 _ _ _ ?_
      rw [List.length_append, List.length_singleton] at hle
      apply Classical.byContradiction
      intro hn
      have htt : tot (run 60 0 ((B d ++ (B p).take (keep - 1)) ++ [255 - ((B p).take keep).getD (keep - 1) 0])) = (B d ++ (B p).take (keep - 1)).length + 1 := by omega
      have he := run_end 60 0 ((B d ++ (B p).take (keep - 1)) ++ [255 - ((B p).take keep).getD (keep - 1) 0]) (by omega)
      rw [htt, Nat.add_sub_cancel, List.getElem?_append_right (Nat.le_refl _), Nat.sub_self] at he
      exact hlast (Option.some.inj he)
  · have hc : crashed (B d) (B p) keep torn = B d ++ (B p).take keep := by unfold crashed; rw [if_neg ht]
    have hT : B d ++ B p = (B d ++ (B p).take keep) ++ (B p).drop keep := by rw [List.append_assoc, List.take_append_drop]
    refine ⟨by rw [hc]; exact hd _, ?_, fun _ he => ?_⟩
    · rw [hc, hT]
      have := run_prefix 60 0 (B d ++ (B p).take keep) [] ((B p).drop keep) (by rw [List.append_nil]; exact tot_le _ _ _)
      rwa [List.append_nil] at this
    · rw [hc, he, List.take_of_length_le (by rw [B_len]; exact Nat.le_refl _)]
/-- What is kept of what was read is a log. -/
theorem read_log (l : List UInt8) (hl : l.length ≤ 30000) : okLog (mk (l.take (tot (run 60 0 l)))) ⟨#[]⟩ ((run 60 0 l).length : Int) = true := by
  have hle := tot_le 60 0 l
  have hB : B (mk (l.take (tot (run 60 0 l)))) = l.take (tot (run 60 0 l)) := B_mk' _
  have h0 : B (⟨#[]⟩ : ByteArray) = [] := rfl
  have hz : (⟨#[]⟩ : ByteArray).size = 0 := rfl
  have hs : (mk (l.take (tot (run 60 0 l)))).size = tot (run 60 0 l) := by rw [mk_size, List.length_take]; omega
  unfold okLog
  rw [hB, h0, List.append_nil, run_take, hs, hz]
  simp
  omega
end Go.Proofs.YtbbnecjaojobfaaDoor.Ev.Lg
