/- Plans: their text, whole; copies and sizes of jobs and hops. -/
import Derived.Test.YtlakldjpnpailaaGreatDoorEvRelH
set_option linter.unusedVariables false
set_option linter.unusedSimpArgs false
namespace Go.Proofs.YtlakldjpnpailaaGreatDoor.Ev
theorem textL_tail : ∀ (t : List ByteArray) (i : Nat) (s : ByteArray), B (textL (i + 1) s t) = B s ++ Lib.joinTail [32] (t.map (·.data.toList))
  | [], i, s => by simp [textL, Lib.joinTail]
  | m :: t, i, s => by
    have h1 : stepT (i + 1) s m = (s ++ ⟨#[32]⟩) ++ m := by unfold stepT; rw [if_neg (by omega)]
    have h2 : B (⟨#[32]⟩ : ByteArray) = [32] := rfl
    rw [textL, textL_tail t (i + 1), h1, B_append, B_append, h2]
    simp [Lib.joinTail, B]
theorem textL_join (ms : List ByteArray) : textL 0 ⟨#[]⟩ ms = ⟨(joinB ms ⟨#[32]⟩).toArray⟩ := by
  refine B_inj (Eq.trans ?_ (B_mk _).symm)
  cases ms with
  | nil => rfl
  | cons m t =>
    have h1 : stepT 0 ⟨#[]⟩ m = m := by
      unfold stepT
      rw [if_pos rfl]
      refine B_inj ?_
      rw [B_append]
      rfl
    have h2 : (⟨#[32]⟩ : ByteArray).data.toList = [32] := rfl
    rw [textL, h1, textL_tail]
    unfold joinB
    rw [List.map_cons, Lib.join_cons, h2]
    rfl
theorem textL_size : ∀ (t : List ByteArray) (i : Nat) (s : ByteArray), (∀ x ∈ t, x.size ≤ 82) → (textL i s t).size ≤ s.size + 100 * t.length
  | [], i, s, _ => by simp [textL]
  | m :: t, i, s, h => by
    have h1 := textL_size t (i + 1) (stepT i s m) (fun x hx => h x (by simp [hx]))
    have h2 : (stepT i s m).size ≤ s.size + 83 := by
      have o1 : (⟨#[32]⟩ : ByteArray).size = 1 := rfl
      have := h m (by simp)
      unfold stepT
      split <;> simp only [ByteArray.size_append, o1] <;> omega
    rw [textL, List.length_cons]
    omega
theorem join_i (ms : List ByteArray) (hm : ms.length ≤ 1099511627776) (hs : ∀ x ∈ ms, x.size ≤ 82) : ev E0 41 [.lst 1 (ms.map st), st ⟨#[32]⟩] [] = some (st (textL 0 ⟨#[]⟩ ms), []) := by
  have hz := textL_size ms 0 ⟨#[]⟩ hs
  have h0 : (⟨#[]⟩ : ByteArray).size = 0 := rfl
  have hb : (joinB ms ⟨#[32]⟩).length ≤ 140737488355328 := by
    have hq : (joinB ms ⟨#[32]⟩).length = (textL 0 ⟨#[]⟩ ms).size := by
      have h3 := congrArg (fun s => (B s).length) (textL_join ms)
      simp only [B_len] at h3
      rw [h3]
      simp [ByteArray.size]
    omega
  rw [e41, textL_join]
  show joinQ _ _ (strsOf _) = _
  rw [strsOf_map]
  show (if _ then _ else _) = _
  rw [if_pos ⟨by omega, hb⟩]
theorem plan_tb {js : List J} (hj : ∀ j ∈ js, JB j) {pl : List Hh} (h : planS js pl = true) : ∀ h ∈ pl, TB js h := by
  obtain ⟨h1, h2, _⟩ := (planS_iff js pl).1 h
  have hb := runs_hb hj h1 h2
  intro x hx
  have hB := hb x hx
  refine ⟨hB, ?_⟩
  have hk : x.1.toNat < js.length := by
    have q1 := hB.1
    have q2 := hB.2.1
    omega
  obtain ⟨q, e1, _⟩ := h2 _ hk
  have hJ := hj _ (List.getElem_mem hk)
  have := runK_hops hJ pl _ _ q e1 hJ.b0 x hx (by have q1 := hB.1; omega)
  exact ⟨this.1, this.2.1⟩
def planT (n : Int) (js : List J) (pl : List Hh) : Bool := okJobs n js && planS js pl
def planTx (n : Int) (js : List J) (pl : List Hh) : ByteArray := if planT n js pl = true then textL 0 ⟨#[]⟩ (pl.map (word js)) else ⟨#[]⟩
theorem okJobs_jb {n : Int} {js : List J} (h : okJobs n js = true) : js.length ≤ 5 ∧ ∀ j ∈ js, JB j := by
  unfold okJobs at h
  rw [Bool.and_eq_true, Bool.and_eq_true, decide_eq_true_eq, List.all_eq_true] at h
  exact ⟨h.2.1, fun j hj => okJob_jb h.1 (h.2.2 j hj)⟩
theorem planText_s (n : Int) (js : List J) (pl : List Hh) (hpl : pl.length ≤ 1099511627776) : ev E0 14 [i64 n, .lst 4 (js.map jb), .lst 3 (pl.map hp)] [] = some (.tup [st (planTx n js pl), bl (planT n js pl)], []) := by
  rw [e14]
  unfold runF planTx planT
  have hg := good_s n js
  cases h1 : okJobs n js with
  | false =>
    rw [h1] at hg
    simp -implicitDefEqProofs [L14, hg]
  | true =>
    rw [h1] at hg
    obtain ⟨hl, hj⟩ := okJobs_jb h1
    have hp := isPlan_s js hj hl pl hpl
    cases h2 : planS js pl with
    | false =>
      rw [h2] at hp
      simp -implicitDefEqProofs [L14, hg, hp]
    | true =>
      rw [h2] at hp
      have ht := text_loop js hj hl pl (plan_tb hj h2) hpl pl 0 ⟨#[]⟩ rfl (by decide)
      rw [c0] at ht
      simp -implicitDefEqProofs [L14, hg, hp, ht]
theorem arePlanned_i (n : Int) (js : List J) (pl : List Hh) (hpl : pl.length ≤ 1099511627776) : ev E0 34 [i64 n, .lst 4 (js.map jb), .lst 3 (pl.map hp)] [] = some (bl (planT n js pl), []) := by
  rw [e34]
  unfold runF planT
  have hg := areJobs_i n js
  cases h1 : okJobs n js with
  | false =>
    rw [h1] at hg
    simp -implicitDefEqProofs [L34, hg]
  | true =>
    rw [h1] at hg
    obtain ⟨hl, hj⟩ := okJobs_jb h1
    have hp := isPlan_i js hj hl pl hpl
    rw [plan_eq hj] at hp
    simp -implicitDefEqProofs [L34, hg, hp]
theorem planText_i (n : Int) (js : List J) (pl : List Hh) (hpl : pl.length ≤ 1099511627776) : ev E0 13 [i64 n, .lst 4 (js.map jb), .lst 3 (pl.map hp)] [] = some (.tup [st (planTx n js pl), bl (planT n js pl)], []) := by
  rw [e13]
  unfold runF planTx
  have hg := arePlanned_i n js pl hpl
  cases h1 : planT n js pl with
  | false =>
    rw [h1] at hg
    simp -implicitDefEqProofs [L13, hg]
  | true =>
    rw [h1] at hg
    unfold planT at h1
    rw [Bool.and_eq_true] at h1
    obtain ⟨hl, hj⟩ := okJobs_jb h1.1
    have hb := plan_tb hj h1.2
    have hw := words_loop js hj hl pl hb hpl pl 0 [] rfl rfl
    have hjn := join_i (pl.map (word js)) (by simpa using hpl) (by
      intro x hx
      obtain ⟨h, hh, rfl⟩ := List.mem_map.1 hx
      exact (word_size hl (hb h hh)).2.2.2.2)
    rw [c0] at hw
    simp only [List.nil_append, List.length_nil, List.length_map] at hw
    generalize hW : pl.map (word js) = W at *
    have hWl : W.length = pl.length := by rw [← hW]; simp
    have hle : pl.length ≤ W.length := by omega
    have t1 : List.take pl.length (W.map st) = W.map st := List.take_of_length_le (by simp [hWl])
    unfold rs at hw
    simp only [List.map_nil] at hw
    simp -implicitDefEqProofs [L13, hg, hw, hjn, t1, hle]
-- ---------------------------------------------------------------- copies
end Go.Proofs.YtlakldjpnpailaaGreatDoor.Ev
