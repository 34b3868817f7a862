/- Lines of logs: sealed texts, encodings of records; a line decoded. -/
import Derived.Test.YtbbnecjaojobfaaDoorEvLogR
set_option linter.unusedVariables false
set_option linter.unusedSimpArgs false
namespace Go.Proofs.YtbbnecjaojobfaaDoor.Ev.Lg
theorem seal_s (s : ByteArray) (hs : s.size ≤ 1048576) : ev E0 70 [st s] [] = some (st (mk (seal_ (B s))), []) := by
  rw [e70]
  unfold runF
  have h1 := sum_s s (by omega)
  have hlt := sum_lt (B s) 7 (by decide)
  have h2 := num_s (sum (B s) 7) (sum (B s) 7) (Nat.le_refl _) (by omega)
  have hl := dec_len20 (u := sum (B s) 7) (by omega)
  have hB : B (mk (Lib.decDigits (sum (B s) 7))) = Lib.itoa ((sum (B s) 7 : Nat) : Int) := by rw [B_mk', itoa_nat]
  have hsz : (mk (Lib.decDigits (sum (B s) 7))).size ≤ 19 := by rw [mk_size]; exact hl
  generalize mk (Lib.decDigits (sum (B s) 7)) = N at *
  have hse := sealed s N hB
  have h35 : (⟨#[35]⟩ : ByteArray).size = 1 := rfl
  have b1 : s.size + (⟨#[35]⟩ : ByteArray).size ≤ 9223372036854775807 := by omega
  have b2 : s.size + (⟨#[35]⟩ : ByteArray).size + N.size ≤ 9223372036854775807 := by omega
  simp -implicitDefEqProofs [L70, h1, h2, b1, b2, hse]
theorem contains_i (s : ByteArray) (c : UInt8) : ev E0 68 [st s, st ⟨#[c]⟩] [] = some (bl (decide (c ∈ B s)), []) := by
  have h := idx_neg (B s) c
  have h2 : decide (0 ≤ Lib.indexByte (B s) c) = decide (c ∈ B s) := decide_eq_decide.2 h
  rw [e68, ← h2]
  rfl
theorem append_i (s : ByteArray) (hs : s.size ≤ 1048576) : ev E0 41 [st s] [] = some (if 35 ∈ B s then .tup [st ⟨#[]⟩, bl false] else if (seal_ (B s)).length ≤ 4000 then .tup [st (mk (seal_ (B s))), bl true] else .tup [st ⟨#[]⟩, bl false], []) := by
  rw [e41]
  unfold runF
  have h1 := sum_i s (by omega)
  have hlt := sum_lt (B s) 7 (by decide)
  have h2 := itoa_i (sum (B s) 7) (by omega)
  have hl := itoa_len (n := ((sum (B s) 7 : Nat) : Int)) (by omega)
  have hB : B (mk (Lib.itoa ((sum (B s) 7 : Nat) : Int))) = Lib.itoa ((sum (B s) 7 : Nat) : Int) := B_mk' _
  have hsz : (mk (Lib.itoa ((sum (B s) 7 : Nat) : Int))).size ≤ 20 := by rw [mk_size]; exact hl
  generalize mk (Lib.itoa ((sum (B s) 7 : Nat) : Int)) = N at *
  have hse := sealed s N hB
  have h35 : (⟨#[35]⟩ : ByteArray).size = 1 := rfl
  have b1 : s.size + (⟨#[35]⟩ : ByteArray).size ≤ 9223372036854775807 := by omega
  have b2 : s.size + (⟨#[35]⟩ : ByteArray).size + N.size ≤ 9223372036854775807 := by omega
  have hc := contains_i s 35
  have hms : (mk (seal_ (B s))).size = (seal_ (B s)).length := mk_size _
  generalize mk (seal_ (B s)) = T at *
  by_cases h : (35 : UInt8) ∈ B s
  · rw [decide_eq_true h] at hc
    rw [if_pos h]
    simp -implicitDefEqProofs [L41, h1, h2, b1, b2, hse, hc]
  · rw [decide_eq_false h] at hc
    rw [if_neg h]
    by_cases h3 : (seal_ (B s)).length ≤ 4000
    · have h4 : ¬ 4000 < T.size := by omega
      have h5 : ¬ (4000 : Int) < (T.size : Int) := by omega
      rw [if_pos h3]
      simp -implicitDefEqProofs [L41, h1, h2, b1, b2, hse, hc, h4, h5]
    · have h4 : 4000 < T.size := by omega
      have h5 : (4000 : Int) < (T.size : Int) := by omega
      rw [if_neg h3]
      simp -implicitDefEqProofs [L41, h1, h2, b1, b2, hse, hc, h4, h5]
theorem line_s (n : Nat) (hn : n ≤ 1000000) (c r : ByteArray) (hc : c.size ≤ 500000) (hr : r.size ≤ 500000) : ev E0 52 [i64 n, .agg [st c, st r]] [] = some (st (mk (enc n (B c) (B r))), []) := by
  rw [e52]
  unfold runF
  have h2 := num_s n n (Nat.le_refl _) (by omega)
  have hl := dec_len20 (u := n) (by omega)
  have hB : B (mk (Lib.decDigits n)) = Lib.itoa (n : Int) := by rw [B_mk', itoa_nat]
  have hsz : (mk (Lib.decDigits n)).size ≤ 19 := by rw [mk_size]; exact hl
  generalize mk (Lib.decDigits n) = N at *
  have s1 : (⟨#[32]⟩ : ByteArray).size = 1 := rfl
  have s2 : (⟨#[64]⟩ : ByteArray).size = 1 := rfl
  have s3 : (⟨#[10]⟩ : ByteArray).size = 1 := rfl
  have hs : ((N ++ (⟨#[32]⟩ : ByteArray)) ++ c ++ (⟨#[64]⟩ : ByteArray) ++ r).size = N.size + c.size + r.size + 2 := by
    rw [ByteArray.size_append, ByteArray.size_append, ByteArray.size_append, ByteArray.size_append, s1, s2]
    omega
  have hb : B ((N ++ (⟨#[32]⟩ : ByteArray)) ++ c ++ (⟨#[64]⟩ : ByteArray) ++ r) = body n (B c) (B r) := by rw [app5, hB]; rfl
  have hse := seal_s ((N ++ (⟨#[32]⟩ : ByteArray)) ++ c ++ (⟨#[64]⟩ : ByteArray) ++ r) (by omega)
  have h5 := seal_len (body n (B c) (B r))
  have h6 : (body n (B c) (B r)).length = N.size + c.size + r.size + 2 := by rw [← hb, B_len, hs]
  rw [hb] at hse
  have hms : (mk (seal_ (body n (B c) (B r)))).size = (seal_ (body n (B c) (B r))).length := mk_size _
  have he : mk (seal_ (body n (B c) (B r))) ++ (⟨#[10]⟩ : ByteArray) = mk (enc n (B c) (B r)) := mkB1 10 _
  generalize mk (seal_ (body n (B c) (B r))) = T at *
  have b1 : N.size + (⟨#[32]⟩ : ByteArray).size ≤ 9223372036854775807 := by omega
  have b2 : N.size + (⟨#[32]⟩ : ByteArray).size + c.size ≤ 9223372036854775807 := by omega
  have b3 : N.size + (⟨#[32]⟩ : ByteArray).size + c.size + (⟨#[64]⟩ : ByteArray).size ≤ 9223372036854775807 := by omega
  have b4 : N.size + (⟨#[32]⟩ : ByteArray).size + c.size + (⟨#[64]⟩ : ByteArray).size + r.size ≤ 9223372036854775807 := by omega
  have b5 : T.size + (⟨#[10]⟩ : ByteArray).size ≤ 9223372036854775807 := by omega
  simp -implicitDefEqProofs [L52, h2, b1, b2, b3, b4, b5, hse, he]
theorem encode_i (n : Nat) (hn : n ≤ 59) (c r : ByteArray) (hc : c.size ≤ 500000) (hr : r.size ≤ 500000) : ev E0 15 [i64 n, .agg [st c, st r]] [] = some (if okRec c r = true then .tup [st (mk (enc n (B c) (B r))), bl true] else .tup [st ⟨#[]⟩, bl false], []) := by
  rw [e15]
  unfold runF
  have hin := in_i (n : Int) 0 59
  have hin2 : (decide ((0 : Int) ≤ (n : Int)) && decide ((n : Int) ≤ 59)) = true := by simp; omega
  rw [hin2] at hin
  have hrec := record_i c r (by omega) (by omega)
  cases hok : okRec c r with
  | false =>
    rw [hok] at hrec
    rw [if_neg (show ¬ (false = true) by simp)]
    simp -implicitDefEqProofs [L15, hin, hrec]
  | true =>
    rw [hok] at hrec
    rw [if_pos rfl]
    have h2 := itoa_i n (by omega)
    have hl := itoa_len (n := (n : Int)) (by omega)
    have hB : B (mk (Lib.itoa (n : Int))) = Lib.itoa (n : Int) := B_mk' _
    have hsz : (mk (Lib.itoa (n : Int))).size ≤ 20 := by rw [mk_size]; exact hl
    generalize mk (Lib.itoa (n : Int)) = N at *
    have s1 : (⟨#[32]⟩ : ByteArray).size = 1 := rfl
    have s2 : (⟨#[64]⟩ : ByteArray).size = 1 := rfl
    have s3 : (⟨#[10]⟩ : ByteArray).size = 1 := rfl
    have hs : ((N ++ (⟨#[32]⟩ : ByteArray)) ++ c ++ (⟨#[64]⟩ : ByteArray) ++ r).size = N.size + c.size + r.size + 2 := by
      rw [ByteArray.size_append, ByteArray.size_append, ByteArray.size_append, ByteArray.size_append, s1, s2]
      omega
    have hb : B ((N ++ (⟨#[32]⟩ : ByteArray)) ++ c ++ (⟨#[64]⟩ : ByteArray) ++ r) = body n (B c) (B r) := by rw [app5, hB]; rfl
    have hse := append_i ((N ++ (⟨#[32]⟩ : ByteArray)) ++ c ++ (⟨#[64]⟩ : ByteArray) ++ r) (by omega)
    have h5 := seal_len (body n (B c) (B r))
    have h6 := body_len (n := (n : Int)) (by omega) hok
    rw [hb, if_neg (not_hash hok), if_pos (by omega)] at hse
    have hms : (mk (seal_ (body n (B c) (B r)))).size = (seal_ (body n (B c) (B r))).length := mk_size _
    have he : mk (seal_ (body n (B c) (B r))) ++ (⟨#[10]⟩ : ByteArray) = mk (enc n (B c) (B r)) := mkB1 10 _
    generalize mk (seal_ (body n (B c) (B r))) = T at *
    have b1 : N.size + (⟨#[32]⟩ : ByteArray).size ≤ 9223372036854775807 := by omega
    have b2 : N.size + (⟨#[32]⟩ : ByteArray).size + c.size ≤ 9223372036854775807 := by omega
    have b3 : N.size + (⟨#[32]⟩ : ByteArray).size + c.size + (⟨#[64]⟩ : ByteArray).size ≤ 9223372036854775807 := by omega
    have b4 : N.size + (⟨#[32]⟩ : ByteArray).size + c.size + (⟨#[64]⟩ : ByteArray).size + r.size ≤ 9223372036854775807 := by omega
    have b5 : T.size + (⟨#[10]⟩ : ByteArray).size ≤ 9223372036854775807 := by omega
    simp -implicitDefEqProofs [L15, hin, hrec, h2, b1, b2, b3, b4, b5, hse, he]
-- ---------------------------------------------------------------- a line decoded
theorem partsB_cons (b : UInt8) (s : ByteArray) : ∃ r, partsB b s = mk (upto b (B s)) :: r := parts0 b (B s)
/-- What the reference makes of a line: a record, or what it is not. -/
theorem decode_s (s : ByteArray) (hs : s.size ≤ 400000) (n : Nat) (hn : n ≤ 60) : ∃ c r ok, ev E0 77 [st s, i64 n] [] = some (.tup [.agg [st c, st r], bl ok], []) ∧ dec n (B s) = if ok = true then some (c, r) else none := by
  rw [e77]
  unfold runF
  have h2 := num_s n n (Nat.le_refl _) (by omega)
  have hl := dec_len20 (u := n) (by omega)
  have hNB : B (mk (Lib.decDigits n)) = Lib.itoa (n : Int) := by rw [B_mk', itoa_nat]
  have hsz : (mk (Lib.decDigits n)).size ≤ 19 := by rw [mk_size]; exact hl
  generalize mk (Lib.decDigits n) = N at *
  have s1 : (⟨#[32]⟩ : ByteArray).size = 1 := rfl
  have s3 : (⟨#[10]⟩ : ByteArray).size = 1 := rfl
  have b1 : N.size + (⟨#[32]⟩ : ByteArray).size ≤ 9223372036854775807 := by omega
  have hA : B (N ++ (⟨#[32]⟩ : ByteArray)) = Lib.itoa (n : Int) ++ [32] := by rw [B_append, hNB]; rfl
  have hAs : (N ++ (⟨#[32]⟩ : ByteArray)).size = N.size + 1 := by rw [ByteArray.size_append, s1]
  generalize hAA : N ++ (⟨#[32]⟩ : ByteArray) = A at *
  have sp1 := split_s s (by omega) 35
  rw [show ((35 : UInt8).toNat : Int) = 35 from rfl] at sp1
  obtain ⟨q1, hq1⟩ := partsB_cons 35 s
  rw [hq1] at sp1
  have htB : B (mk (upto 35 (B s))) = upto 35 (B s) := B_mk' _
  have htl : (upto 35 (B s)).length ≤ (B s).length := upto_len 35 (B s)
  rw [B_len] at htl
  have hts : (mk (upto 35 (B s))).size = (upto 35 (B s)).length := mk_size _
  generalize hT : mk (upto 35 (B s)) = T at *
  by_cases hlen : T.size < A.size
  · have hlen2 : (T.size : Int) < (A.size : Int) := by omega
    refine ⟨⟨#[]⟩, ⟨#[]⟩, false, ?_, ?_⟩
    · simp -implicitDefEqProofs [L77, h2, b1, hAA, sp1, hlen, hlen2]
    · rw [if_neg (by simp)]
      cases hd : dec n (B s) with
      | none => rfl
      | some p =>
        exfalso
        obtain ⟨h3, h4⟩ := dec_some (c := p.1) (r := p.2) hd
        have h5 := upto35 h3 h4
        rw [h5] at hts
        unfold body at hts
        have hNl : (B N).length = (Lib.itoa (n : Int)).length := by rw [hNB]
        rw [B_len] at hNl
        simp at hts
        omega
  · have hlen2 : ¬ (T.size : Int) < (A.size : Int) := by omega
    have hle : A.size ≤ T.size := by omega
    by_cases hpre : T.extract 0 A.size = A
    · have htk : (B T).take A.size = B A := by
        have := congrArg B hpre
        rw [B_extract] at this
        simpa using this
      have hrest : B T = Lib.itoa (n : Int) ++ 32 :: (B T).drop A.size := by
        conv => lhs; rw [← List.take_append_drop A.size (B T)]
        rw [htk, hA]
        simp
      have hpast : past 32 (B T) = (B T).drop A.size := by
        conv => lhs; rw [hrest]
        exact past_append (itoa_no32 n)
      have hex : T.extract A.size T.size = mk ((B T).drop A.size) := from_mk T A.size
      generalize hR : (B T).drop A.size = R at hrest hpast hex
      have hRl : R.length ≤ 400000 := by rw [← hR, List.length_drop, B_len]; omega
      have hcand : cand (B s) = (upto 64 R, past 64 R) := by
        unfold cand
        rw [← htB, hpast]
      have hRs : (mk R).size = R.length := mk_size R
      have hRB : B (mk R) = R := B_mk' R
      have sp2 := split_s (mk R) (by omega) 64
      rw [show ((64 : UInt8).toNat : Int) = 64 from rfl] at sp2
      obtain ⟨q2, hq2⟩ := partsB_cons 64 (mk R)
      rw [hq2, hRB] at sp2
      have hAsk : (mk (upto 64 R)).size = (upto 64 R).length := mk_size _
      have hAl := upto_len 64 R
      have hAB : B (mk (upto 64 R)) = upto 64 R := B_mk' _
      by_cases h64 : (64 : UInt8) ∈ R
      · have hne : ¬ (upto 64 R).length = R.length := fun h => (upto_mem.1 h) h64
        have hrs : (mk R).extract ((upto 64 R).length + 1) (mk R).size = mk (past 64 R) := by
          rw [from_mk, hRB]
          rfl
        generalize hC : mk (upto 64 R) = C at *
        generalize hP : mk (past 64 R) = P at *
        have hPs : P.size ≤ 400000 := by
          rw [← hP, mk_size]
          unfold past
          rw [List.length_drop]
          omega
        have hPB : B P = past 64 R := by rw [← hP, B_mk']
        have hrec := record_s C P (by omega) (by omega)
        have hline := line_s n (by omega) C P (by omega) (by omega)
        rw [hAB, hPB] at hline
        have hd : dec n (B s) = if okRec C P = true ∧ enc n (upto 64 R) (past 64 R) = B s ++ [10] then some (C, P) else none := by
          unfold dec
          rw [hcand, hC, hP]
        generalize hRR : mk R = RR at *
        have k1 : ¬ (C.size : Int) = (RR.size : Int) := by omega
        have k2 : ¬ C.size = RR.size := by omega
        have kw : IntKind.i64.wrap ((C.size : Int) + 1) = (C.size : Int) + 1 := wr64 (by omega) (by omega)
        have k3 : (C.size : Int) + 1 ≤ (RR.size : Int) := by omega
        have k4 : ((C.size : Int) + 1).toNat = C.size + 1 := by omega
        have k5 : (0 : Int) ≤ (C.size : Int) + 1 := by omega
        rw [← hAsk] at hrs
        cases hok : okRec C P with
        | false =>
          rw [hok] at hrec hd
          refine ⟨C, P, false, ?_, ?_⟩
          · simp -implicitDefEqProofs [L77, h2, b1, hAA, sp1, hlen, hlen2, hle, hpre, hex, sp2, k1, k2, kw, k3, k4, k5, hrs, hrec]
          · rw [hd, if_neg (by simp), if_neg (by simp)]
        | true =>
          rw [hok] at hrec hd
          have b2 : s.size + (⟨#[10]⟩ : ByteArray).size ≤ 9223372036854775807 := by omega
          have hs10 : s ++ (⟨#[10]⟩ : ByteArray) = mk (B s ++ [10]) := by
            have := mkB1 10 (B s)
            rwa [mk_B] at this
          by_cases heq : enc n (upto 64 R) (past 64 R) = B s ++ [10]
          · rw [if_pos ⟨rfl, heq⟩] at hd
            rw [heq, ← hs10] at hline
            refine ⟨C, P, true, ?_, by rw [hd, if_pos rfl]⟩
            simp -implicitDefEqProofs [L77, h2, b1, hAA, sp1, hlen, hlen2, hle, hpre, hex, sp2, k1, k2, kw, k3, k4, k5, hrs, hrec, hline, b2]
          · rw [if_neg (fun h => heq h.2)] at hd
            have hne2 : ¬ mk (enc n (upto 64 R) (past 64 R)) = s ++ (⟨#[10]⟩ : ByteArray) := fun h => heq (by
              have := congrArg B h
              rwa [hs10, B_mk', B_mk'] at this)
            refine ⟨C, P, false, ?_, by rw [hd, if_neg (by simp)]⟩
            simp -implicitDefEqProofs [L77, h2, b1, hAA, sp1, hlen, hlen2, hle, hpre, hex, sp2, k1, k2, kw, k3, k4, k5, hrs, hrec, hline, b2, hne2]
      · have heq : (upto 64 R).length = R.length := upto_mem.2 h64
        generalize hC : mk (upto 64 R) = C at *
        generalize hRR : mk R = RR at *
        have k1 : (C.size : Int) = (RR.size : Int) := by omega
        have k1' : decide ((C.size : Int) = (RR.size : Int)) = true := decide_eq_true k1
        have k2 : C.size = RR.size := by omega
        have k2' : decide (C.size = RR.size) = true := decide_eq_true k2
        refine ⟨⟨#[]⟩, ⟨#[]⟩, false, ?_, ?_⟩
        · simp -implicitDefEqProofs [L77, h2, b1, hAA, sp1, hlen, hlen2, hle, hpre, hex, sp2, k1', k2']
        · rw [if_neg (by simp)]
          cases hd : dec n (B s) with
          | none => rfl
          | some p =>
            exfalso
            obtain ⟨h3, h4⟩ := dec_some (c := p.1) (r := p.2) hd
            have h5 := upto35 h3 h4
            rw [← htB, hrest] at h5
            unfold body at h5
            have h6 := List.append_cancel_left h5
            have h7 : R = B p.1 ++ 64 :: B p.2 := (List.cons.inj h6).2
            exact h64 (by rw [h7]; simp)
    · refine ⟨⟨#[]⟩, ⟨#[]⟩, false, ?_, ?_⟩
      · simp -implicitDefEqProofs [L77, h2, b1, hAA, sp1, hlen, hlen2, hle, hpre]
      · rw [if_neg (by simp)]
        cases hd : dec n (B s) with
        | none => rfl
        | some p =>
          exfalso
          obtain ⟨h3, h4⟩ := dec_some (c := p.1) (r := p.2) hd
          have h5 := upto35 h3 h4
          refine hpre (B_inj ?_)
          rw [B_extract, htB, h5, hA]
          unfold body
          have hNl : (Lib.itoa (n : Int)).length + 1 = A.size := by
            rw [← B_len, hA]
            simp
          rw [← hNl]
          simp [List.take_append]
          exact List.take_of_length_le (by omega)
end Go.Proofs.YtbbnecjaojobfaaDoor.Ev.Lg
