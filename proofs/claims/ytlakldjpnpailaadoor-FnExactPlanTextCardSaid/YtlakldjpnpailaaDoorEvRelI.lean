/- Plans: their text, whole; copies and sizes of jobs and hops. -/
import Derived.Test.YtlakldjpnpailaaDoorEvRelH
set_option linter.unusedVariables false
set_option linter.unusedSimpArgs false
namespace Go.Proofs.YtlakldjpnpailaaDoor.Ev
theorem textL_tail : ∀ (t : List ByteArray) (i : Nat) (s : ByteArray), B (textL (i + 1) s t) = B s ++ Lib.joinTail [32] (t.map (·.data.toList))
  | [], i, s => by simp [textL, Lib.joinTail]
  | m :: t, i, s => by
    have h1 : stepT (i + 1) s m = (s ++ ⟨#[32]⟩) ++ m := by unfold stepT; rw [if_neg (by omega)]
    have h2 : B (⟨#[32]⟩ : ByteArray) = [32] := rfl
    rw [textL, textL_tail t (i + 1), h1, B_append, B_append, h2]
    simp [Lib.joinTail, B]
theorem textL_join (ms : List ByteArray) : textL 0 ⟨#[]⟩ ms = ⟨(joinB ms ⟨#[32]⟩).toArray⟩ := by
  refine B_inj (Eq.trans ?_ (B_mk _).symm)
  cases ms with
  | nil => rfl
  | cons m t =>
    have h1 : stepT 0 ⟨#[]⟩ m = m := by
      unfold stepT
      rw [if_pos rfl]
      refine B_inj ?_
      rw [B_append]
      rfl
    have h2 : (⟨#[32]⟩ : ByteArray).data.toList = [32] := rfl
    rw [textL, h1, textL_tail]
    unfold joinB
    rw [List.map_cons, Lib.join_cons, h2]
    rfl
theorem textL_size : ∀ (t : List ByteArray) (i : Nat) (s : ByteArray), (∀ x ∈ t, x.size ≤ 82) → (textL i s t).size ≤ s.size + 100 * t.length
  | [], i, s, _ => by simp [textL]
  | m :: t, i, s, h => by
    have h1 := textL_size t (i + 1) (stepT i s m) (fun x hx => h x (by simp [hx]))
    have h2 : (stepT i s m).size ≤ s.size + 83 := by
      have o1 : (⟨#[32]⟩ : ByteArray).size = 1 := rfl
      have := h m (by simp)
      unfold stepT
      split <;> simp only [ByteArray.size_append, o1] <;> omega
    rw [textL, List.length_cons]
    omega
theorem join_i (ms : List ByteArray) (hm : ms.length ≤ 1099511627776) (hs : ∀ x ∈ ms, x.size ≤ 82) : ev E0 21 [.lst 1 (ms.map st), st ⟨#[32]⟩] [] = some (st (textL 0 ⟨#[]⟩ ms), []) := by
  have hz := textL_size ms 0 ⟨#[]⟩ hs
  have h0 : (⟨#[]⟩ : ByteArray).size = 0 := rfl
  have hb : (joinB ms ⟨#[32]⟩).length ≤ 140737488355328 := by
    have hq : (joinB ms ⟨#[32]⟩).length = (textL 0 ⟨#[]⟩ ms).size := by
      have h3 := congrArg (fun s => (B s).length) (textL_join ms)
      simp only [B_len] at h3
      rw [h3]
      simp [ByteArray.size]
    omega
  rw [e21, textL_join]
  show joinQ _ _ (strsOf _) = _
  rw [strsOf_map]
  show (if _ then _ else _) = _
  rw [if_pos ⟨by omega, hb⟩]
theorem plan_tb {js : List J} (hj : ∀ j ∈ js, JB j) {pl : List Hh} (h : planS js pl = true) : ∀ h ∈ pl, TB js h := by
  obtain ⟨h1, h2, _⟩ := (planS_iff js pl).1 h
  have hb := runs_hb hj h1 h2
  intro x hx
  have hB := hb x hx
  refine ⟨hB, ?_⟩
  have hk : x.1.toNat < js.length := by
    have q1 := hB.1
    have q2 := hB.2.1
    omega
  obtain ⟨q, e1, _⟩ := h2 _ hk
  have hJ := hj _ (List.getElem_mem hk)
  have := runK_hops hJ pl _ _ q e1 hJ.b0 x hx (by have q1 := hB.1; omega)
  exact ⟨this.1, this.2.1⟩
def planT (n : Int) (js : List J) (pl : List Hh) : Bool := okJobs n js && planS js pl
def planTx (n : Int) (js : List J) (pl : List Hh) : ByteArray := if planT n js pl = true then textL 0 ⟨#[]⟩ (pl.map (word js)) else ⟨#[]⟩
theorem okJobs_jb {n : Int} {js : List J} (h : okJobs n js = true) : js.length ≤ 5 ∧ ∀ j ∈ js, JB j := by
  unfold okJobs at h
  rw [Bool.and_eq_true, Bool.and_eq_true, decide_eq_true_eq, List.all_eq_true] at h
  exact ⟨h.2.1, fun j hj => okJob_jb h.1 (h.2.2 j hj)⟩
theorem planText_s (n : Int) (js : List J) (pl : List Hh) (hpl : pl.length ≤ 1099511627776) : ev E0 6 [i64 n, .lst 4 (js.map jb), .lst 3 (pl.map hp)] [] = some (.tup [st (planTx n js pl), bl (planT n js pl)], []) := by
  rw [e6]
  unfold runF planTx planT
  have hg := good_s n js
  cases h1 : okJobs n js with
  | false =>
    rw [h1] at hg
    simp -implicitDefEqProofs [L6, hg]
  | true =>
    rw [h1] at hg
    obtain ⟨hl, hj⟩ := okJobs_jb h1
    have hp := isPlan_s js hj hl pl hpl
    cases h2 : planS js pl with
    | false =>
      rw [h2] at hp
      simp -implicitDefEqProofs [L6, hg, hp]
    | true =>
      rw [h2] at hp
      have ht := text_loop js hj hl pl (plan_tb hj h2) hpl pl 0 ⟨#[]⟩ rfl (by decide)
      rw [c0] at ht
      simp -implicitDefEqProofs [L6, hg, hp, ht]
theorem arePlanned_i (n : Int) (js : List J) (pl : List Hh) (hpl : pl.length ≤ 1099511627776) : ev E0 18 [i64 n, .lst 4 (js.map jb), .lst 3 (pl.map hp)] [] = some (bl (planT n js pl), []) := by
  rw [e18]
  unfold runF planT
  have hg := areJobs_i n js
  cases h1 : okJobs n js with
  | false =>
    rw [h1] at hg
    simp -implicitDefEqProofs [L18, hg]
  | true =>
    rw [h1] at hg
    obtain ⟨hl, hj⟩ := okJobs_jb h1
    have hp := isPlan_i js hj hl pl hpl
    rw [plan_eq hj] at hp
    simp -implicitDefEqProofs [L18, hg, hp]
theorem planText_i (n : Int) (js : List J) (pl : List Hh) (hpl : pl.length ≤ 1099511627776) : ev E0 9 [i64 n, .lst 4 (js.map jb), .lst 3 (pl.map hp)] [] = some (.tup [st (planTx n js pl), bl (planT n js pl)], []) := by
  rw [e9]
  unfold runF planTx
  have hg := arePlanned_i n js pl hpl
  cases h1 : planT n js pl with
  | false =>
    rw [h1] at hg
    simp -implicitDefEqProofs [L9, hg]
  | true =>
    rw [h1] at hg
    unfold planT at h1
    rw [Bool.and_eq_true] at h1
    obtain ⟨hl, hj⟩ := okJobs_jb h1.1
    have hb := plan_tb hj h1.2
    have hw := words_loop js hj hl pl hb hpl pl 0 [] rfl rfl
    have hjn := join_i (pl.map (word js)) (by simpa using hpl) (by
      intro x hx
      obtain ⟨h, hh, rfl⟩ := List.mem_map.1 hx
      exact (word_size hl (hb h hh)).2.2.2.2)
    rw [c0] at hw
    simp only [List.nil_append, List.length_nil, List.length_map] at hw
    generalize hW : pl.map (word js) = W at *
    have hWl : W.length = pl.length := by rw [← hW]; simp
    have hle : pl.length ≤ W.length := by omega
    have t1 : List.take pl.length (W.map st) = W.map st := List.take_of_length_le (by simp [hWl])
    unfold rs at hw
    simp only [List.map_nil] at hw
    simp -implicitDefEqProofs [L9, hg, hw, hjn, t1, hle]
-- ---------------------------------------------------------------- copies
theorem to_job (j : J) : ev E0 16 [jb j] [] = some (jb j, []) := by
  rw [e16]
  unfold runF jb
  simp -implicitDefEqProofs [L16]
theorem to_hop (h : Hh) : ev E0 17 [hp h] [] = some (hp h, []) := by
  rw [e17]
  unfold runF hp
  simp -implicitDefEqProofs [L17]
theorem eq_job (j : J) : ev E0 22 [jb j, jb j] [] = some (bl true, []) := by
  rw [e22]
  unfold runF jb
  simp -implicitDefEqProofs [L22]
theorem eq_hop (h : Hh) : ev E0 23 [hp h, hp h] [] = some (bl true, []) := by
  rw [e23]
  unfold runF hp
  simp -implicitDefEqProofs [L23]
theorem sz_jobs (l : List J) (hl : l.length ≤ 9223372036854775807) (c : Int) (h0 : 0 ≤ c) (hc : c ≤ 1048576) : ∃ r, ev E0 4 [.lst 4 (l.map jb), i64 c] [] = some (i64 r, []) ∧ (r < 0 ∨ (0 ≤ r ∧ r ≤ c ∧ (l.length : Int) ≤ c)) := by
  have hw : IntKind.i64.wrap (c - (l.length : Int)) = c - (l.length : Int) := wr64 (by omega) (by omega)
  by_cases h : c - (l.length : Int) < 0
  · refine ⟨-1, ?_, .inl (by omega)⟩
    rw [e4]
    unfold runF
    simp -implicitDefEqProofs [L4, hw, h]
  · refine ⟨c - (l.length : Int), ?_, .inr ⟨by omega, by omega, by omega⟩⟩
    rw [e4]
    unfold runF
    simp -implicitDefEqProofs [L4, hw, h]
theorem copy_jobs_loop (ms : List J) (hm : ms.length ≤ 140737488355328) : ∀ (t : List J) (i : Nat), ms.drop i = t →
    packX 0 [3] (loopW (bd E0 (ev E0) loopW 0 [0, 3, 4] L7b0) ⟨[(0, .lst 4 (ms.map jb)), (3, .sl 0 0 ms.length), (4, i64 i)], [some ⟨42, 4, 1, false, (ms.take i).map jb ++ List.replicate t.length (.agg [i64 0, i64 0, i64 0, i64 0])⟩]⟩) = some (.ext 0, ⟨[(3, .sl 0 0 ms.length)], [some ⟨42, 4, 1, false, ms.map jb⟩]⟩) := by
  intro t
  induction t with
  | nil =>
    intro i h
    have hi := not_drop h
    have ht : ms.take i = ms := List.take_of_length_le (by omega)
    rw [ht, List.length_nil, List.replicate_zero, List.append_nil, loopW_eq]
    generalize loopW (bd E0 (ev E0) loopW 0 [0, 3, 4] L7b0) = K
    simp -implicitDefEqProofs [bd, L7b0, hi]
  | cons c t ih =>
    intro i h
    obtain ⟨hi, hx, hd, hmem⟩ := at_drop h
    have hih := ih (i + 1) hd
    rw [List.length_cons, List.replicate_succ]
    generalize List.replicate t.length (AV.agg [i64 0, i64 0, i64 0, i64 0]) = r at hih ⊢
    have e1 : ms.take (i + 1) = ms.take i ++ [c] := by rw [List.take_succ_eq_append_getElem hi, hx]
    rw [cs1, e1] at hih
    have hw : IntKind.i64.wrap ((i : Int) + 1) = (i : Int) + 1 := wr64 (by omega) (by omega)
    have hj := to_job c
    rw [loopW_eq]
    generalize loopW (bd E0 (ev E0) loopW 0 [0, 3, 4] L7b0) = K at hih ⊢
    have hg : (List.take i (List.map jb ms) ++ .agg [i64 0, i64 0, i64 0, i64 0] :: r)[i]? = some (.agg [i64 0, i64 0, i64 0, i64 0]) := app_get (by simp; omega)
    have hst : (List.take i (List.map jb ms) ++ .agg [i64 0, i64 0, i64 0, i64 0] :: r).set i (jb c) = List.take i (List.map jb ms) ++ jb c :: r := app_set (by simp; omega)
    rw [List.map_append, List.append_assoc, List.map_take] at hih
    unfold jb at *
    simpa -implicitDefEqProofs [bd, L7b0, hi, hx, hw, hg, hst, hj] using hih
theorem copy_jobs (ms : List J) (hm : ms.length ≤ 1099511627776) : ev E0 7 [.lst 4 (ms.map jb)] [] = some (.sl 0 0 ms.length, [some ⟨42, 4, 1, false, ms.map jb⟩]) := by
  rw [e7]
  unfold runF
  have hl := copy_jobs_loop ms (by omega) ms 0 rfl
  rw [c0, List.take_zero, List.map_nil, List.nil_append] at hl
  have h1 : (ms.length : Int) * 32 ≤ 140737488355328 := by omega
  have h2 : (ms.length : Int) ≤ 140737488355328 := by omega
  simp -implicitDefEqProofs [L7, hl, h1, h2]
theorem eq_jobs_loop (l : List J) (hm : l.length ≤ 140737488355328) : ∀ (t : List J) (i : Nat), l.drop i = t →
    packX 0 [4] (loopW (bd E0 (ev E0) loopW 0 [0, 1, 5] L10b0) ⟨[(0, .lst 4 (l.map jb)), (1, .lst 4 (l.map jb)), (5, i64 i)], []⟩) = some (.ext 0, ⟨[], []⟩) := by
  intro t
  induction t with
  | nil =>
    intro i h
    have hi := not_drop h
    rw [loopW_eq]
    generalize loopW (bd E0 (ev E0) loopW 0 [0, 1, 5] L10b0) = K
    simp -implicitDefEqProofs [bd, L10b0, hi]
  | cons x t ih =>
    intro i h
    obtain ⟨hi, hx, hd, hmem⟩ := at_drop h
    have hih := ih (i + 1) hd
    rw [cs1] at hih
    have hw : IntKind.i64.wrap ((i : Int) + 1) = (i : Int) + 1 := wr64 (by omega) (by omega)
    have he := eq_job x
    rw [loopW_eq]
    generalize loopW (bd E0 (ev E0) loopW 0 [0, 1, 5] L10b0) = K at hih ⊢
    unfold jb at *
    simpa -implicitDefEqProofs [bd, L10b0, hi, hx, hw, he] using hih
theorem eq_jobs (l : List J) (hm : l.length ≤ 140737488355328) : ev E0 10 [.lst 4 (l.map jb), .lst 4 (l.map jb)] [] = some (bl true, []) := by
  rw [e10]
  unfold runF
  have hl := eq_jobs_loop l hm l 0 rfl
  rw [c0] at hl
  simp -implicitDefEqProofs [L10, hl]
theorem sz_hops (l : List Hh) (hl : l.length ≤ 9223372036854775807) (c : Int) (h0 : 0 ≤ c) (hc : c ≤ 1048576) : ∃ r, ev E0 5 [.lst 3 (l.map hp), i64 c] [] = some (i64 r, []) ∧ (r < 0 ∨ (0 ≤ r ∧ r ≤ c ∧ (l.length : Int) ≤ c)) := by
  have hw : IntKind.i64.wrap (c - (l.length : Int)) = c - (l.length : Int) := wr64 (by omega) (by omega)
  by_cases h : c - (l.length : Int) < 0
  · refine ⟨-1, ?_, .inl (by omega)⟩
    rw [e5]
    unfold runF
    simp -implicitDefEqProofs [L5, hw, h]
  · refine ⟨c - (l.length : Int), ?_, .inr ⟨by omega, by omega, by omega⟩⟩
    rw [e5]
    unfold runF
    simp -implicitDefEqProofs [L5, hw, h]
theorem copy_hops_loop (ms : List Hh) (hm : ms.length ≤ 140737488355328) : ∀ (t : List Hh) (i : Nat), ms.drop i = t →
    packX 0 [3] (loopW (bd E0 (ev E0) loopW 0 [0, 3, 4] L8b0) ⟨[(0, .lst 3 (ms.map hp)), (3, .sl 0 0 ms.length), (4, i64 i)], [some ⟨39, 3, 1, false, (ms.take i).map hp ++ List.replicate t.length (.agg [i64 0, i64 0, i64 0])⟩]⟩) = some (.ext 0, ⟨[(3, .sl 0 0 ms.length)], [some ⟨39, 3, 1, false, ms.map hp⟩]⟩) := by
  intro t
  induction t with
  | nil =>
    intro i h
    have hi := not_drop h
    have ht : ms.take i = ms := List.take_of_length_le (by omega)
    rw [ht, List.length_nil, List.replicate_zero, List.append_nil, loopW_eq]
    generalize loopW (bd E0 (ev E0) loopW 0 [0, 3, 4] L8b0) = K
    simp -implicitDefEqProofs [bd, L8b0, hi]
  | cons c t ih =>
    intro i h
    obtain ⟨hi, hx, hd, hmem⟩ := at_drop h
    have hih := ih (i + 1) hd
    rw [List.length_cons, List.replicate_succ]
    generalize List.replicate t.length (AV.agg [i64 0, i64 0, i64 0]) = r at hih ⊢
    have e1 : ms.take (i + 1) = ms.take i ++ [c] := by rw [List.take_succ_eq_append_getElem hi, hx]
    rw [cs1, e1] at hih
    have hw : IntKind.i64.wrap ((i : Int) + 1) = (i : Int) + 1 := wr64 (by omega) (by omega)
    have hj := to_hop c
    rw [loopW_eq]
    generalize loopW (bd E0 (ev E0) loopW 0 [0, 3, 4] L8b0) = K at hih ⊢
    have hg : (List.take i (List.map hp ms) ++ .agg [i64 0, i64 0, i64 0] :: r)[i]? = some (.agg [i64 0, i64 0, i64 0]) := app_get (by simp; omega)
    have hst : (List.take i (List.map hp ms) ++ .agg [i64 0, i64 0, i64 0] :: r).set i (hp c) = List.take i (List.map hp ms) ++ hp c :: r := app_set (by simp; omega)
    rw [List.map_append, List.append_assoc, List.map_take] at hih
    unfold hp at *
    simpa -implicitDefEqProofs [bd, L8b0, hi, hx, hw, hg, hst, hj] using hih
theorem copy_hops (ms : List Hh) (hm : ms.length ≤ 1099511627776) : ev E0 8 [.lst 3 (ms.map hp)] [] = some (.sl 0 0 ms.length, [some ⟨39, 3, 1, false, ms.map hp⟩]) := by
  rw [e8]
  unfold runF
  have hl := copy_hops_loop ms (by omega) ms 0 rfl
  rw [c0, List.take_zero, List.map_nil, List.nil_append] at hl
  have h1 : (ms.length : Int) * 24 ≤ 140737488355328 := by omega
  have h2 : (ms.length : Int) ≤ 140737488355328 := by omega
  simp -implicitDefEqProofs [L8, hl, h1, h2]
theorem eq_hops_loop (l : List Hh) (hm : l.length ≤ 140737488355328) : ∀ (t : List Hh) (i : Nat), l.drop i = t →
    packX 0 [4] (loopW (bd E0 (ev E0) loopW 0 [0, 1, 5] L11b0) ⟨[(0, .lst 3 (l.map hp)), (1, .lst 3 (l.map hp)), (5, i64 i)], []⟩) = some (.ext 0, ⟨[], []⟩) := by
  intro t
  induction t with
  | nil =>
    intro i h
    have hi := not_drop h
    rw [loopW_eq]
    generalize loopW (bd E0 (ev E0) loopW 0 [0, 1, 5] L11b0) = K
    simp -implicitDefEqProofs [bd, L11b0, hi]
  | cons x t ih =>
    intro i h
    obtain ⟨hi, hx, hd, hmem⟩ := at_drop h
    have hih := ih (i + 1) hd
    rw [cs1] at hih
    have hw : IntKind.i64.wrap ((i : Int) + 1) = (i : Int) + 1 := wr64 (by omega) (by omega)
    have he := eq_hop x
    rw [loopW_eq]
    generalize loopW (bd E0 (ev E0) loopW 0 [0, 1, 5] L11b0) = K at hih ⊢
    unfold hp at *
    simpa -implicitDefEqProofs [bd, L11b0, hi, hx, hw, he] using hih
theorem eq_hops (l : List Hh) (hm : l.length ≤ 140737488355328) : ev E0 11 [.lst 3 (l.map hp), .lst 3 (l.map hp)] [] = some (bl true, []) := by
  rw [e11]
  unfold runF
  have hl := eq_hops_loop l hm l 0 rfl
  rw [c0] at hl
  simp -implicitDefEqProofs [L11, hl]
end Go.Proofs.YtlakldjpnpailaaDoor.Ev
