/- FnCrashes: the law, run by the evaluator, answers true. -/
import Derived.Test.YtbbnecjaojobfaaDoorEvDrawC
set_option linter.unusedVariables false
set_option linter.unusedSimpArgs false
namespace Go.Proofs.YtbbnecjaojobfaaDoor.Ev
open Dr
theorem FnCrashes (x0 : List Int) (b0 : x0.length ≤ maxLen ∧ ∀ y ∈ x0, (Lit.int .u8 y).wf = true) : ev E0 5 [(AV.lst 1 (x0.map (fun q : Int => (AV.v (.int .u8 q)))))] [] = some (bl true, []) := by
  obtain ⟨hl, hw⟩ := b0
  show ev E0 5 [.lst 1 (cd x0)] [] = _
  have hb := vbig x0
  rw [e5]
  unfold runF
  by_cases h0 : (65536 : Int) < (x0.length : Int)
  · rw [decide_eq_true h0] at hb
    simp -implicitDefEqProofs [L5, hb]
  · rw [decide_eq_false h0] at hb
    have hx := okC_of (by omega) hw
    have hx2 := cutD_ok hx (by omega) 1 (by omega)
    have hc := vcut x0 hx (by omega) 1 (by omega)
    rw [show ((1 : Nat) : Int) = 1 from rfl] at hc
    generalize cutD x0 1 = x1 at hx2 hc
    obtain ⟨d, p, n, k, torn, zd, zp, e1⟩ := drawCrash x0 hx
    obtain ⟨t, zt, e2⟩ := drawRecover x1 hx2
    have hcl : (cd x1).length = x1.length := cd_len x1
    have htk : List.take x1.length (cd x1) = cd x1 := List.take_of_length_le (by rw [hcl]; exact Nat.le_refl _)
    have r1 := Lg.recover_s t (by omega)
    have r2 := Lg.recover_i t (by omega)
    obtain ⟨s1, s0⟩ := Lg.crash_s d p n k torn (by omega) (by omega)
    obtain ⟨i1, i0⟩ := Lg.crash_i d p n k torn (by omega) (by omega)
    obtain ⟨td, tp, tn, ta, tb, hr⟩ := Lg.recvd_parts t
    rw [hr] at r1 r2
    cases hk : Lg.okCrash d p n k with
    | false =>
      have k1 := s0 hk
      have k2 := i0 hk
      simp -implicitDefEqProofs [L5, hb, e1, hc, hcl, htk, e2, r1, r2, k1, k2]
    | true =>
      have k1 := s1 hk
      have k2 := i1 hk
      unfold Lg.okCrash at hk
      simp only [Bool.and_eq_true, decide_eq_true_eq] at hk
      obtain ⟨hlog, hk0, hk1⟩ := hk
      obtain ⟨m, rfl⟩ : ∃ m : Nat, k = m := ⟨k.toNat, by omega⟩
      rw [Int.toNat_natCast] at k1 k2
      have hsz := Lg.okLog_sizes hlog
      have hcr := Lg.crash_read d p n hlog m (by omega) torn
      have hcl2 := Lg.crashed_len (d := B d) (p := B p) (keep := m) (by rw [B_len]; omega) torn
      rw [B_len] at hcl2
      generalize hS : Lg.crashed (B d) (B p) m torn = S at *
      have hSs : (Lg.mk S).size = S.length := Lg.mk_size S
      have r3 := Lg.recover_i (Lg.mk S) (by omega)
      unfold Lg.recvd at r3
      rw [if_pos (by omega), Lg.B_mk'] at r3
      have hlog2 := Lg.read_log S (by omega)
      have hms : (Lg.mk (S.take (Lg.tot (Lg.run 60 0 S)))).size = Lg.tot (Lg.run 60 0 S) := by
        rw [Lg.mk_size, List.length_take]
        have := Lg.tot_le 60 0 S
        omega
      have hv := Lg.valid_i (Lg.mk (S.take (Lg.tot (Lg.run 60 0 S)))) ⟨#[]⟩ ((Lg.run 60 0 S).length : Int) (by rw [hms]; have := Lg.tot_le 60 0 S; omega) (by decide)
      rw [hlog2] at hv
      have q1 := Lg.records_ok_i d p n (by omega) (by omega) hlog
      have q2 := Lg.records_ok_i _ _ _ (by rw [hms]; have := Lg.tot_le 60 0 S; omega) (by decide) hlog2
      have hB : B (Lg.mk (S.take (Lg.tot (Lg.run 60 0 S)))) ++ B (⟨#[]⟩ : ByteArray) = S.take (Lg.tot (Lg.run 60 0 S)) := by
        rw [Lg.B_mk']
        exact List.append_nil _
      unfold Lg.recs at q1 q2
      rw [hB, Lg.run_take] at q2
      obtain ⟨c1, ⟨y, c2⟩, c3⟩ := hcr
      have hle : (Lg.run 60 0 S).length ≤ (Lg.run 60 0 (B d ++ B p)).length := by rw [c2, List.length_append]; omega
      have hlim := Lg.run_len 60 0 S
      have hlim2 := Lg.run_len 60 0 (B d ++ B p)
      have hX : ((Lg.run 60 0 (B d ++ B p)).map (·.1)).take (Lg.run 60 0 S).length = (Lg.run 60 0 S).map (·.1) := by
        rw [c2, List.map_append]
        exact List.take_left' (by simp)
      have hvr := vrecs ((Lg.run 60 0 S).map (·.1)) (by rw [List.length_map]; omega)
      have hXX : (((Lg.run 60 0 (B d ++ B p)).map (·.1)).map Lg.recE).take (Lg.run 60 0 S).length = ((Lg.run 60 0 S).map (·.1)).map Lg.recE := by rw [← List.map_take, hX]
      have hY : List.take (Lg.run 60 0 S).length (((Lg.run 60 0 S).map (·.1)).map Lg.recE) = ((Lg.run 60 0 S).map (·.1)).map Lg.recE := List.take_of_length_le (by simp)
      have hlast : torn = true ∨ (m : Int) < (p.size : Int) ∨ (Lg.run 60 0 S).length = (Lg.run 60 0 (B d ++ B p)).length := by
        cases torn with
        | true => exact .inl rfl
        | false =>
          by_cases hm : m < p.size
          · exact .inr (.inl (by omega))
          · exact .inr (.inr (by rw [c3 rfl (by omega)]))
      have hli : ((Lg.run 60 0 S).length : Int) ≤ ((Lg.run 60 0 (B d ++ B p)).length : Int) := by omega
      have hlx : (((Lg.run 60 0 S).map (·.1)).map Lg.recE).length = (Lg.run 60 0 S).length := by simp
      have hlx2 : (((Lg.run 60 0 (B d ++ B p)).map (·.1)).map Lg.recE).length = (Lg.run 60 0 (B d ++ B p)).length := by simp
      have hdz : ¬ ((Lg.tot (Lg.run 60 0 S) : Nat) : Int) < (d.size : Int) := by omega
      generalize (((Lg.run 60 0 S).map (·.1)).map Lg.recE) = XS at *
      generalize (((Lg.run 60 0 (B d ++ B p)).map (·.1)).map Lg.recE) = XA at *
      generalize Lg.mk (S.take (Lg.tot (Lg.run 60 0 S))) = bk at *
      generalize (Lg.run 60 0 S).length = zs at *
      generalize (Lg.run 60 0 (B d ++ B p)).length = za at *
      generalize Lg.tot (Lg.run 60 0 S) = ts at *
      generalize Lg.mk S = sv at *
      have hdz2 : ¬ ts < d.size := by omega
      cases torn with
      | true => simp -implicitDefEqProofs [L5, hb, e1, hc, hcl, htk, e2, r1, r2, k1, k2, r3, hv, hms, hdz, hdz2, q1, q2, hlx, hlx2, hle, hli, hvr, hXX, hY]
      | false =>
        rcases hlast with hl | hl | hl
        · cases hl
        · have hl2 : m < p.size := by omega
          simp -implicitDefEqProofs [L5, hb, e1, hc, hcl, htk, e2, r1, r2, k1, k2, r3, hv, hms, hdz, hdz2, q1, q2, hlx, hlx2, hle, hli, hvr, hXX, hY, hl, hl2]
        · have hl2 : decide ((zs : Int) = (za : Int)) = true := decide_eq_true (by omega)
          have hl3 : zs = za := hl
          by_cases hmp : m < p.size
          · have hl4 : (m : Int) < (p.size : Int) := by omega
            simp -implicitDefEqProofs [L5, hb, e1, hc, hcl, htk, e2, r1, r2, k1, k2, r3, hv, hms, hdz, hdz2, q1, q2, hlx, hlx2, hle, hli, hvr, hXX, hY, hmp, hl4]
          · have hl4 : ¬ (m : Int) < (p.size : Int) := by omega
            simp -implicitDefEqProofs [L5, hb, e1, hc, hcl, htk, e2, r1, r2, k1, k2, r3, hv, hms, hdz, hdz2, q1, q2, hlx, hlx2, hle, hli, hvr, hXX, hY, hl2, hmp, hl4]
end Go.Proofs.YtbbnecjaojobfaaDoor.Ev
