/- Logs behind an appended record, and behind a sync. -/
import Derived.Test.YtbbnecjaojobfaaDoorEvCrashP
import Derived.Test.YtbbnecjaojobfaaDoorEvLogA
set_option linter.unusedVariables false
set_option linter.unusedSimpArgs false
namespace Go.Proofs.YtbbnecjaojobfaaDoor.Ev.Lg
theorem enc_line (n : Int) (c r : ByteArray) : enc n (B c) (B r) = seal_ (body n (B c) (B r)) ++ [10] := rfl
theorem no10 {n : Int} {c r : ByteArray} (h : okRec c r = true) : (10 : UInt8) ∉ seal_ (body n (B c) (B r)) := by
  unfold okRec at h
  simp only [Bool.and_eq_true, List.all_eq_true] at h
  obtain ⟨⟨⟨_, hc, _⟩, _⟩, hr, _⟩ := h
  have ok : ∀ c : UInt8, okC c = true → c ≠ 10 := by
    intro c hc e
    subst e
    simp [okC, okB] at hc
  have it : ∀ (k : Int), (10 : UInt8) ∉ Lib.itoa k := fun k hk => by
    have := itoa_bytes k _ hk
    have h10 : (10 : UInt8).toNat = 10 := rfl
    omega
  unfold seal_ body
  intro hx
  rcases List.mem_append.1 hx with hx | hx
  · rcases List.mem_append.1 hx with hx | hx
    · exact it _ hx
    · rcases List.mem_cons.1 hx with hx | hx
      · exact absurd hx (by decide)
      · rcases List.mem_append.1 hx with hx | hx
        · exact ok _ (hc _ hx) rfl
        · rcases List.mem_cons.1 hx with hx | hx
          · exact absurd hx (by decide)
          · exact ok _ (hr _ hx) rfl
  · rcases List.mem_cons.1 hx with hx | hx
    · exact absurd hx (by decide)
    · exact it _ hx
theorem step_enc {n : Int} {c r : ByteArray} (h : okRec c r = true) : step n (enc n (B c) (B r)) = some ((c, r), (enc n (B c) (B r)).length) := by
  have hu : upto 10 (enc n (B c) (B r)) = seal_ (body n (B c) (B r)) := by rw [enc_line]; exact upto_append (no10 h)
  unfold step
  rw [if_pos (by rw [enc_line]; simp), hu, dec_of h (enc_line n c r), enc_line]
  simp
theorem run_snoc {c r : ByteArray} (h : okRec c r = true) : ∀ (m k : Nat) (a : List UInt8), tot (run m k a) = a.length → (run m k a).length < m →
    run m k (a ++ enc ((k + (run m k a).length : Nat) : Int) (B c) (B r)) = run m k a ++ [((c, r), (enc ((k + (run m k a).length : Nat) : Int) (B c) (B r)).length)]
  | 0, k, a, _, hl => by omega
  | m + 1, k, a, ht, hl => by
    cases hs : step k a with
    | none =>
      rw [run_stop hs] at ht hl ⊢
      have ha : a = [] := by
        apply List.eq_nil_of_length_eq_zero
        rw [← ht]
        rfl
      subst ha
      rw [List.nil_append, List.nil_append]
      have he := step_enc (n := ((k + ([] : List (R × Nat)).length : Nat) : Int)) h
      simp only [List.length_nil, Nat.add_zero] at he ⊢
      rw [run_cons he, List.drop_length]
      cases m with
      | zero => rfl
      | succ m =>
        rw [run_stop (by unfold step; rw [if_neg (by simp)])]
    | some p =>
      obtain ⟨e, z⟩ := p
      have hz := step_len hs
      rw [run_cons hs, tot_cons] at ht
      rw [run_cons hs, List.length_cons] at hl ⊢
      have hs2 := step_more (b := enc ((k + ((run m (k + 1) (a.drop z)).length + 1) : Nat) : Int) (B c) (B r)) hs
      rw [run_cons hs2, List.drop_append_of_le_length (by omega)]
      have ih := run_snoc h m (k + 1) (a.drop z) (by rw [List.length_drop]; omega) (by omega)
      rw [show k + 1 + (run m (k + 1) (a.drop z)).length = k + ((run m (k + 1) (a.drop z)).length + 1) by omega] at ih
      rw [ih]
      rfl
theorem tot_bound : ∀ (m k : Nat) (l : List UInt8), k + m ≤ 60 → tot (run m k l) ≤ 460 * (run m k l).length
  | 0, k, l, _ => by simp [run, tot]
  | m + 1, k, l, hk => by
    cases hs : step k l with
    | none => rw [run_stop hs]; simp [tot]
    | some p =>
      obtain ⟨e, z⟩ := p
      have ih := tot_bound m (k + 1) (l.drop z) (by omega)
      rw [run_cons hs, tot_cons, List.length_cons]
      have hzz : z ≤ 460 := by
        unfold step at hs
        split at hs
        · cases hd : dec k (upto 10 l) with
          | none => rw [hd] at hs; cases hs
          | some p =>
            rw [hd] at hs
            simp only [Option.map_some, Option.some.injEq, Prod.mk.injEq] at hs
            obtain ⟨_, rfl⟩ := hs
            obtain ⟨h1, h2⟩ := dec_some (c := p.1) (r := p.2) hd
            have h3 := enc_len (n := (k : Int)) (by omega) h1
            rw [h2, List.length_append, List.length_singleton] at h3
            exact h3
        · cases hs
      omega
theorem tot_append (x y : List (R × Nat)) : tot (x ++ y) = tot x + tot y := by simp [tot]
theorem append_log {d p : ByteArray} {n : Int} {c r : ByteArray} (h : okLog d p n = true) (hr : okRec c r = true) (hn : n ≠ 60) :
    okLog d (p ++ mk (enc n (B c) (B r))) (n + 1) = true ∧ run 60 0 (B d ++ B (p ++ mk (enc n (B c) (B r)))) = run 60 0 (B d ++ B p) ++ [((c, r), (enc n (B c) (B r)).length)] := by
  have hz := okLog_sizes h
  unfold okLog at h
  simp only [Bool.and_eq_true, decide_eq_true_eq] at h
  obtain ⟨h0, h1, h2, h3⟩ := h
  have hlen : (B d ++ B p).length = d.size + p.size := by rw [List.length_append, B_len, B_len]
  have he := enc_len (n := n) (by omega) hr
  have hs := run_snoc hr 60 0 (B d ++ B p) (by rw [h1, hlen]) (by omega)
  rw [Nat.zero_add, h3] at hs
  have hb := tot_bound 60 0 (B d ++ B p) (by omega)
  rw [h1] at hb
  have hB : B d ++ B (p ++ mk (enc n (B c) (B r))) = (B d ++ B p) ++ enc n (B c) (B r) := by rw [B_append, B_mk', List.append_assoc]
  refine ⟨?_, by rw [hB, hs]⟩
  unfold okLog
  have ht : tot [((c, r), (enc n (B c) (B r)).length)] = (enc n (B c) (B r)).length := by simp [tot]
  have hll : (run 60 0 (B d ++ B p) ++ [((c, r), (enc n (B c) (B r)).length)]).length = (run 60 0 (B d ++ B p)).length + 1 := by simp
  rw [hB, hs, tot_append, ByteArray.size_append, mk_size, h1, h2, ht, hll]
  generalize (enc n (B c) (B r)).length = z at he ⊢
  generalize (run 60 0 (B d ++ B p)).length = y at hb h3 ⊢
  simp only [Bool.and_eq_true, decide_eq_true_eq]
  refine ⟨by omega, by omega, trivial, by omega⟩
theorem sync_log {d p : ByteArray} {n : Int} (h : okLog d p n = true) : okLog (d ++ p) ⟨#[]⟩ n = true ∧ run 60 0 (B (d ++ p) ++ B (⟨#[]⟩ : ByteArray)) = run 60 0 (B d ++ B p) := by
  have hB : B (d ++ p) ++ B (⟨#[]⟩ : ByteArray) = B d ++ B p := by
    rw [B_append]
    exact List.append_nil _
  refine ⟨?_, by rw [hB]⟩
  unfold okLog at h ⊢
  simp only [Bool.and_eq_true, decide_eq_true_eq] at h ⊢
  obtain ⟨h0, h1, h2, h3⟩ := h
  rw [hB, B_append, h1]
  have hz : (⟨#[]⟩ : ByteArray).size = 0 := rfl
  rw [ByteArray.size_append, hz]
  exact ⟨by omega, by omega, rfl, h3⟩
theorem nil_log : okLog ⟨#[]⟩ ⟨#[]⟩ 0 = true := by
  have h : run 60 0 [] = [] := run_stop (by unfold step; rw [if_neg (by simp)])
  have hB : B (⟨#[]⟩ : ByteArray) = [] := rfl
  have hz : (⟨#[]⟩ : ByteArray).size = 0 := rfl
  unfold okLog
  rw [hB, List.append_nil, h, hz]
  rfl
theorem nil_run : run 60 0 (B (⟨#[]⟩ : ByteArray) ++ B (⟨#[]⟩ : ByteArray)) = [] := run_stop (by unfold step; rw [if_neg (by decide)])
theorem encode_s (k : Int) (c r : ByteArray) (hc : c.size ≤ 500000) (hr : r.size ≤ 500000) : ev E0 16 [i64 k, .agg [st c, st r]] [] = some (if (0 ≤ k ∧ k ≤ 59) ∧ okRec c r = true then .tup [st (mk (enc k (B c) (B r))), bl true] else .tup [st ⟨#[]⟩, bl false], []) := by
  obtain ⟨V, hV⟩ : ∃ V : AV, (if (0 ≤ k ∧ k ≤ 59) ∧ okRec c r = true then .tup [st (mk (enc k (B c) (B r))), bl true] else .tup [st ⟨#[]⟩, bl false]) = V := ⟨_, rfl⟩
  rw [hV, e16]
  unfold runF
  have hi := in_s k 0 59
  have hw := record_s c r (by omega) (by omega)
  by_cases hk : 0 ≤ k ∧ k ≤ 59
  · rw [decide_eq_true hk.1, decide_eq_true hk.2] at hi
    cases hr2 : okRec c r with
    | false =>
      rw [hr2] at hw
      rw [if_neg (by rw [hr2]; simp)] at hV
      subst hV
      simp -implicitDefEqProofs [L16, hi, hw]
    | true =>
      rw [hr2] at hw
      rw [if_pos ⟨hk, hr2⟩] at hV
      subst hV
      obtain ⟨m, rfl⟩ : ∃ m : Nat, k = m := ⟨k.toNat, by omega⟩
      have hl := line_s m (by omega) c r hc hr
      generalize mk (enc (m : Int) (B c) (B r)) = q at *
      simp -implicitDefEqProofs [L16, hi, hw, hl]
  · have h2 : (decide (0 ≤ k) && decide (k ≤ 59)) = false := by
      rw [← Bool.not_eq_true, Bool.and_eq_true, decide_eq_true_eq, decide_eq_true_eq]
      exact hk
    rw [h2] at hi
    rw [if_neg (fun h => hk h.1)] at hV
    subst hV
    simp -implicitDefEqProofs [L16, hi]
theorem encode_all (k : Int) (c r : ByteArray) (hc : c.size ≤ 500000) (hr : r.size ≤ 500000) : ev E0 15 [i64 k, .agg [st c, st r]] [] = some (if (0 ≤ k ∧ k ≤ 59) ∧ okRec c r = true then .tup [st (mk (enc k (B c) (B r))), bl true] else .tup [st ⟨#[]⟩, bl false], []) := by
  by_cases hk : 0 ≤ k ∧ k ≤ 59
  · obtain ⟨m, rfl⟩ : ∃ m : Nat, k = m := ⟨k.toNat, by omega⟩
    rw [encode_i m (by omega) c r hc hr]
    cases okRec c r with
    | false => rw [if_neg (by decide), if_neg (by simp)]
    | true => rw [if_pos rfl, if_pos ⟨hk, rfl⟩]
  · have hi := in_i k 0 59
    have h2 : (decide (0 ≤ k) && decide (k ≤ 59)) = false := by
      rw [← Bool.not_eq_true, Bool.and_eq_true, decide_eq_true_eq, decide_eq_true_eq]
      exact hk
    rw [h2] at hi
    rw [if_neg (fun h => hk h.1), e15]
    unfold runF
    simp -implicitDefEqProofs [L15, hi]
theorem isValidRecord_s (c r : ByteArray) (hc : c.size ≤ 1073741824) (hr : r.size ≤ 1073741824) : ev E0 22 [.agg [st c, st r]] [] = some (bl (okRec c r), []) := by
  rw [e22]
  unfold runF
  have h := record_s c r hc hr
  simp -implicitDefEqProofs [L22, h]
theorem isValidLog_s (d p : ByteArray) (n : Int) (hd : d.size ≤ 1073741824) (hp : p.size ≤ 1073741824) : ev E0 24 [.agg [st d, st p, i64 n]] [] = some (bl (okLog d p n), []) := by
  rw [e24]
  unfold runF
  have h := valid_s d p n hd hp
  simp -implicitDefEqProofs [L24, h]
end Go.Proofs.YtbbnecjaojobfaaDoor.Ev.Lg
