/- Loads and the least end: both functions, whole. -/
import Derived.Test.YtlmjoimjdpfamaaGreatEvRelZ7
set_option linter.unusedVariables false
set_option linter.unusedSimpArgs false
namespace Go.Proofs.YtlmjoimjdpfamaaGreat.Ev
theorem okJobs_nb {n : Int} {js : List J} (h : okJobs n js = true) : 2 ≤ n ∧ n ≤ 6 ∧ (n.toNat : Int) = n ∧ ∀ j ∈ js, NB n.toNat j := by
  obtain ⟨_, hj⟩ := okJobs_jb h
  unfold okJobs at h
  simp only [Bool.and_eq_true, decide_eq_true_eq, List.all_eq_true] at h
  obtain ⟨h1, h2, h3⟩ := h
  unfold btw at h1
  simp only [Bool.and_eq_true, decide_eq_true_eq] at h1
  have hn : (n.toNat : Int) = n := Int.toNat_of_nonneg (by omega)
  refine ⟨h1.1, h1.2, hn, fun j hm => ⟨hj j hm, ?_, ?_⟩⟩
  all_goals
    have := h3 j hm
    unfold okJob btw at this
    simp only [Bool.and_eq_true, decide_eq_true_eq] at this
    omega
def ldsV (n : Int) (js : List J) : List Int := if okJobs n js = true then loadL n js else []
theorem loadsOf_s (n : Int) (js : List J) : ev E0 14 [i64 n, .lst 4 (js.map jb)] [] = some (.tup [.sl 0 0 (ldsV n js).length, bl (okJobs n js)], [rwI (ldsV n js)]) := by
  have hg := good_s n js
  rw [e14]
  unfold runF ldsV
  cases h : okJobs n js with
  | false =>
    rw [h] at hg
    unfold rwI
    simp -implicitDefEqProofs [L14, hg]
  | true =>
    rw [h] at hg
    obtain ⟨hl, hj⟩ := okJobs_jb h
    obtain ⟨n1, n2, hn, hJ⟩ := okJobs_nb h
    have hs := loads_s js hl n.toNat (by omega) hJ
    have hln : (ldJs js (List.replicate n.toNat 0)).length = n.toNat := by rw [ldJs_len, List.length_replicate]
    rw [ldJs_load hJ] at hs hln
    rw [hn] at hs hln
    rw [if_pos rfl, hln]
    unfold rwI at *
    generalize (loadL n js).map i64 = Z at *
    simp -implicitDefEqProofs [L14, hg, hs]
theorem loadsOf_i (n : Int) (js : List J) : ev E0 13 [i64 n, .lst 4 (js.map jb)] [] = if okJobs n js = true then some (.tup [.sl 0 0 (ldsV n js).length, bl true], [rwI (ldsV n js)]) else some (.tup [nilS, bl false], []) := by
  have hg := areJobs_i n js
  rw [e13]
  unfold runF ldsV
  cases h : okJobs n js with
  | false =>
    rw [h] at hg
    simp -implicitDefEqProofs [L13, hg]
  | true =>
    rw [h] at hg
    obtain ⟨hl, hj⟩ := okJobs_jb h
    obtain ⟨n1, n2, hn, hJ⟩ := okJobs_nb h
    have hs := loads_i js hl n.toNat (by omega) hJ
    have hln : (ldJs js (List.replicate n.toNat 0)).length = n.toNat := by rw [ldJs_len, List.length_replicate]
    rw [ldJs_load hJ] at hs hln
    rw [hn] at hs hln
    rw [if_pos rfl, if_pos rfl, hln]
    unfold rwI at *
    generalize (loadL n js).map i64 = Z at *
    simp -implicitDefEqProofs [L13, hg, hs]
def leV (n : Int) (js : List J) : Int := if okJobs n js = true then leastV n js else 0
theorem leastEnd_s (n : Int) (js : List J) : ev E0 9 [i64 n, .lst 4 (js.map jb)] [] = some (.tup [i64 (leV n js), bl (okJobs n js)], []) := by
  have hg := good_s n js
  rw [e9]
  unfold runF leV
  cases h : okJobs n js with
  | false =>
    rw [h] at hg
    simp -implicitDefEqProofs [L9, hg]
  | true =>
    rw [h] at hg
    obtain ⟨hl, hj⟩ := okJobs_jb h
    obtain ⟨n1, n2, hn, hJ⟩ := okJobs_nb h
    have hs := loads_s js hl n.toNat (by omega) hJ
    have hln : (ldJs js (List.replicate n.toNat 0)).length = n.toNat := by rw [ldJs_len, List.length_replicate]
    rw [ldJs_load hJ, hn] at hs hln
    have l0 := leastS_loop0 (js.map jb) n.toNat (by omega) (loadL n js) hln (loadL n js) 0 0 rfl
    have l1 := leastS_loop1 js hl hj js 0 (maxL (loadL n js) 0) rfl
    rw [c0] at l0 l1
    rw [hn] at l0
    rw [if_pos rfl]
    unfold leastV
    rw [show (js.map fun j => j.2.2.2 + many j * j.2.2.1) = js.map jobE from rfl]
    unfold rwI at *
    generalize maxL (js.map jobE) (maxL (loadL n js) 0) = ZZ at *
    generalize maxL (loadL n js) 0 = YY at *
    generalize (loadL n js).map i64 = Z at *
    generalize js.map jb = JL at *
    simp -implicitDefEqProofs [L9, hg, hs, l0, l1]
theorem leastEnd_i (n : Int) (js : List J) : ev E0 8 [i64 n, .lst 4 (js.map jb)] [] = some (.tup [i64 (leV n js), bl (okJobs n js)], []) := by
  have hg := areJobs_i n js
  rw [e8]
  unfold runF leV
  cases h : okJobs n js with
  | false =>
    rw [h] at hg
    simp -implicitDefEqProofs [L8, hg]
  | true =>
    rw [h] at hg
    obtain ⟨hl, hj⟩ := okJobs_jb h
    obtain ⟨n1, n2, hn, hJ⟩ := okJobs_nb h
    have hs := loads_i js hl n.toNat (by omega) hJ
    have hln : (ldJs js (List.replicate n.toNat 0)).length = n.toNat := by rw [ldJs_len, List.length_replicate]
    rw [ldJs_load hJ, hn] at hs hln
    have hbd := load_bd hl hJ
    rw [hn] at hbd
    have fI : okL (free 5) ((loadL n js).map i64) = true := okL_map (fun _ => rfl) _
    have hmx : ev E0 33 [.lst 1 ((loadL n js).map i64)] [] = some (i64 (maxL (loadL n js) 0), []) := by
      cases hL : loadL n js with
      | nil => rw [hL] at hln; simp at hln; omega
      | cons x t =>
        rw [hL] at hbd hln
        have hx := hbd x (List.mem_cons_self ..)
        rw [maxL_first t hx.1]
        exact max_i x t (by simp at hln; omega)
    have l1 := leastI_loop js hl hj js 0 (maxL (loadL n js) 0) rfl
    rw [c0] at l1
    rw [if_pos rfl]
    unfold leastV
    rw [show (js.map fun j => j.2.2.2 + many j * j.2.2.1) = js.map jobE from rfl]
    have tk : List.take n.toNat ((loadL n js).map i64) = (loadL n js).map i64 := List.take_of_length_le (by simp; omega)
    have kl : n.toNat ≤ ((loadL n js).map i64).length := by simp; omega
    have hjm : (js.map jb).length = js.length := by simp
    have fJ : okL (free 5) (js.map jb) = true := okL_map (fun _ => rfl) _
    unfold rwI at *
    generalize maxL (js.map jobE) (maxL (loadL n js) 0) = ZZ at *
    generalize maxL (loadL n js) 0 = YY at *
    generalize (loadL n js).map i64 = Z at *
    generalize js.map jb = JL at *
    simp -implicitDefEqProofs [L8, hg, hs, hmx, tk, kl, fI, hjm, l1]
end Go.Proofs.YtlmjoimjdpfamaaGreat.Ev
