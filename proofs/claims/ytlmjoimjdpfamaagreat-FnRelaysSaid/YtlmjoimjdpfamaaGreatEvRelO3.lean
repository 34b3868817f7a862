/- The best order, as the program finds it: memory with the best so far. -/
import Derived.Test.YtlmjoimjdpfamaaGreatEvRelO2
set_option linter.unusedVariables false
set_option linter.unusedSimpArgs false
namespace Go.Proofs.YtlmjoimjdpfamaaGreat.Ev
def rI (l : List Nat) : Option Blk := some ⟨3, 1, 1, false, l.map iN⟩
def bestBx (p n : Nat) : Option Blk := some ⟨25, 1, 0, false, [.agg [.sl p 0 n]]⟩
def leastBx (e : Int) : Option Blk := some ⟨3, 1, 0, false, [.agg [i64 e]]⟩
def foundBx (f : Bool) : Option Blk := some ⟨4, 1, 0, false, [.agg [bl f]]⟩
def hdB (js : List J) (p n : Nat) (le : Int) (f : Bool) : Hp := [jbx js, rI [], bestBx p n, leastBx le, foundBx f]
def Smp (R : Hp) : Prop := ∀ o ∈ R, o = none ∨ ∃ b : Blk, o = some b ∧ b.kd ≠ 0
structure Sg where
  b : List Nat
  le : Int
  f : Bool
def Mem (js : List J) (g : Sg) (R M : Hp) : Prop := ∃ p, M = hdB js p g.b.length g.le g.f ++ R ∧ M[p]? = some (rI g.b) ∧ Smp R
theorem smp_ids : ∀ {R : Hp}, Smp R → oldIds R = []
  | [], _ => rfl
  | none :: r, h => by rw [oldIds]; exact smp_ids fun o ho => h o (List.mem_cons_of_mem _ ho)
  | some b :: r, h => by
    rw [oldIds, smp_ids fun o ho => h o (List.mem_cons_of_mem _ ho), List.append_nil]
    rcases h _ (List.mem_cons_self ..) with h | ⟨c, h, hc⟩
    · cases h
    · cases h
      unfold blkIds
      rw [if_neg hc]
theorem smp_rnm (f : Nat → Option Nat) : ∀ {R : Hp}, Smp R → rnmH f R = some R
  | [], _ => rfl
  | none :: r, h => by
    rw [rnmH, smp_rnm f fun o ho => h o (List.mem_cons_of_mem _ ho)]
    rfl
  | some b :: r, h => by
    rw [rnmH, smp_rnm f fun o ho => h o (List.mem_cons_of_mem _ ho)]
    rcases h _ (List.mem_cons_self ..) with h | ⟨c, h, hc⟩
    · cases h
    · cases h
      have : rnmO f (some b) = some (some b) := by simp [rnmO, rnmB, hc]
      rw [this]
      rfl
theorem Smp.app {R X : Hp} (h : Smp R) (k : Smp X) : Smp (R ++ X) := fun o ho => (List.mem_append.1 ho).elim (h o) (k o)
theorem Smp.left {R X : Hp} (h : Smp (R ++ X)) : Smp R := fun o ho => h o (List.mem_append_left _ ho)
theorem Smp.right {R X : Hp} (h : Smp (R ++ X)) : Smp X := fun o ho => h o (List.mem_append_right _ ho)
theorem smp_rI (l : List Nat) : Smp [rI l] := fun o ho => .inr ⟨_, List.mem_singleton.1 ho, Nat.one_ne_zero⟩
theorem smp_none : Smp [none] := fun o ho => .inl (List.mem_singleton.1 ho)
theorem smp_nil : Smp [] := fun o ho => by cases ho
theorem reach_skip (H : Hp) (h0 : Nat) : ∀ (l r : List Nat) (d : Nat) (acc : List Nat), (∀ x ∈ l, x < h0) → reach H h0 (d + l.length) (l ++ r) acc = reach H h0 d r acc
  | [], r, d, acc, _ => rfl
  | id :: l, r, d, acc, h => by
    have h1 := h id (by simp)
    rw [List.length_cons, ← Nat.add_assoc, List.cons_append, reach]
    simp only [h1, decide_true, Bool.true_or, if_true]
    exact reach_skip H h0 l r d acc fun x hx => h x (by simp [hx])
theorem hd_get {js : List J} {p n p' n' : Nat} {le le' : Int} {f f' : Bool} {R : Hp} : ∀ {a : Nat} {l : List Nat}, (hdB js p n le f ++ R)[a]? = some (rI l) → (hdB js p' n' le' f' ++ R)[a]? = some (rI l)
  | 0, l, h => by simp [hdB, jbx, rI] at h
  | 1, l, h => h
  | 2, l, h => by simp [hdB, bestBx, rI] at h
  | 3, l, h => by simp [hdB, leastBx, rI] at h
  | 4, l, h => by simp [hdB, foundBx, rI] at h
  | a + 5, l, h => h
theorem hd_ids (js : List J) (p n : Nat) (le : Int) (f : Bool) : oldIds (hdB js p n le f) = [p] := by
  unfold hdB jbx rI bestBx leastBx foundBx
  simp
theorem hd_rnm {js : List J} {p n q : Nat} {le : Int} {f : Bool} {g : Nat → Option Nat} (hq : g p = some q) : rnmH g (hdB js p n le f) = some (hdB js q n le f) := by
  unfold hdB jbx rI bestBx leastBx foundBx
  simp [hq]
theorem mem_pack {js : List J} {g : Sg} {R X M : Hp} (h : Mem js g (R ++ X) M) : ∃ M' X' acc, Mem js g (R ++ X') M' ∧ ∀ roots, (∀ q ∈ roots, q < R.length + 5) → roots.length ≤ 10 → packH (R.length + 5) M roots = some (acc, M') := by
  obtain ⟨p, hM, hp, hS⟩ := h
  have hR := hS.left
  have hX := hS.right
  have ht : M.take (R.length + 5) = hdB js p g.b.length g.le g.f ++ R := by
    rw [hM, ← List.append_assoc, List.take_append_of_le_length (by simp [hdB])]
    exact List.take_of_length_le (by simp [hdB])
  have hids : oldIds (M.take (R.length + 5)) = [p] := by rw [ht, oldIds_append, hd_ids, smp_ids hR, List.append_nil]
  by_cases hlt : p < R.length + 5
  · refine ⟨hdB js p g.b.length g.le g.f ++ R, [], [], ⟨p, by rw [List.append_nil], ?_, by rw [List.append_nil]; exact hR⟩, ?_⟩
    · rw [← ht, List.getElem?_take_of_lt hlt, hp]
    · intro roots hr hl
      unfold packH
      rw [hids]
      have h1 : reach M (R.length + 5) 64 (roots ++ [p]) [] = [] := reach_low _ _ _ _ fun x hx => by
        rcases List.mem_append.1 hx with h | h
        · exact hr x h
        · rw [List.mem_singleton.1 h]; exact hlt
      rw [h1, ht]
      have h2 : rnmH (newId (R.length + 5) []) (hdB js p g.b.length g.le g.f ++ R) = some (hdB js p g.b.length g.le g.f ++ R) := rnmH_append (hd_rnm (by unfold newId; rw [if_pos hlt])) (smp_rnm _ hR)
      simp only [h2]
      simp [picked, rnmH, packP]
  · refine ⟨hdB js (R.length + 5) g.b.length g.le g.f ++ (R ++ [rI g.b]), [rI g.b], [p], ⟨R.length + 5, rfl, ?_, hR.app (smp_rI _)⟩, ?_⟩
    · rw [← List.append_assoc, List.getElem?_append_right (by simp [hdB])]
      simp [hdB]
    · intro roots hr hl
      unfold packH
      rw [hids]
      have hg : hget M p = some ⟨3, 1, 1, false, g.b.map iN⟩ := by unfold hget; rw [hp]; rfl
      have h1 : reach M (R.length + 5) 64 (roots ++ [p]) [] = [p] := by
        have := reach_skip M (R.length + 5) roots [p] (64 - roots.length) [] hr
        rw [show 64 - roots.length + roots.length = 64 by omega] at this
        rw [this]
        obtain ⟨d, hd⟩ : ∃ d, 64 - roots.length = d + 2 := ⟨62 - roots.length, by omega⟩
        rw [hd, reach]
        have hp' : M[p]? = some (some ⟨3, 1, 1, false, g.b.map iN⟩) := hp
        simp [hlt, hp']
      rw [h1, ht]
      have h2 : rnmH (newId (R.length + 5) [p]) (hdB js p g.b.length g.le g.f ++ R) = some (hdB js (R.length + 5) g.b.length g.le g.f ++ R) := rnmH_append (hd_rnm (by unfold newId; rw [if_neg hlt]; simp)) (smp_rnm _ hR)
      simp only [h2]
      have h3 : rnmH (newId (R.length + 5) [p]) (picked M [p]) = some [rI g.b] := by
        rw [picked, picked, hg]
        exact smp_rnm _ (smp_rI _)
      rw [h3]
      simp [packP]
def stepG (js : List J) (g : Sg) (od : List Nat) : Sg := if g.f = false ∨ endO js od < g.le then ⟨od, endO js od, true⟩ else g
def fnB : AV := .fn (.func 40) [] [.ptr 0 0 0, .ptr 4 0 0, .ptr 3 0 0, .ptr 2 0 0]
theorem mem_low {js : List J} {g : Sg} {R M : Hp} (h : Mem js g R M) : M.length = R.length + 5 := by
  obtain ⟨p, rfl, _⟩ := h
  simp [hdB]
noncomputable def softK (E : Env) (C : Clo) (r : List (LOper × Bool × Nat)) (acc : List Ck) (p : Nat) (o : LOper) (s : List (Nat × AV)) (e : Nat) : Option St → Option St
  | none => none
  | some u => evX E C r (⟨o, s, u.s, e⟩ :: acc) (p + 1) u
open Classical in
noncomputable def fullK (E : Env) (C : Clo) (r : List (LOper × Bool × Nat)) (acc : List Ck) (p : Nat) : Option St → Option St
  | none => none
  | some u => if ckOk E C u p acc then evX E C r acc (p + 1) u else none
open Classical in
theorem fullK_some (E : Env) (C : Clo) (r : List (LOper × Bool × Nat)) (acc : List Ck) (p : Nat) (s : List (Nat × AV)) (h : Hp) : fullK E C r acc p (some ⟨s, h⟩) = if ckOk E C ⟨s, h⟩ p acc then evX E C r acc (p + 1) ⟨s, h⟩ else none := rfl
theorem softK_some (E : Env) (C : Clo) (r : List (LOper × Bool × Nat)) (acc : List Ck) (p : Nat) (o : LOper) (s : List (Nat × AV)) (e : Nat) (s' : List (Nat × AV)) (h' : Hp) : softK E C r acc p o s e (some ⟨s', h'⟩) = evX E C r (⟨o, s, s', e⟩ :: acc) (p + 1) ⟨s', h'⟩ := rfl
theorem evX_s (E : Env) (C : Clo) (o : LOper) (e : Nat) (r : List (LOper × Bool × Nat)) (acc : List Ck) (p : Nat) (s : List (Nat × AV)) (h : Hp) : evX E C ((o, false, e) :: r) acc p ⟨s, h⟩ = softK E C r acc p o s e (oneSoft E C o ⟨s, h⟩) := by
  rw [evX]
  cases oneSoft E C o ⟨s, h⟩ <;> rfl
theorem evX_f (E : Env) (C : Clo) (o : LOper) (e : Nat) (r : List (LOper × Bool × Nat)) (acc : List Ck) (p : Nat) (s : List (Nat × AV)) (h : Hp) : evX E C ((o, true, e) :: r) acc p ⟨s, h⟩ = fullK E C r acc p (oneFull E C o ⟨s, h⟩) := by
  rw [evX]
  cases oneFull E C o ⟨s, h⟩ <;> rfl
theorem leaf36 (js : List J) (hj : ∀ j ∈ js, JB j) {g : Sg} {R M : Hp} (h : Mem js g R M) (a : Nat) (l : List Nat) (ha : M[a]? = some (rI l)) (hl : l.length ≤ 100) (hk : ∀ k ∈ l, k < js.length) (hn : l.Nodup) :
    ∃ M' Y, ev E0 40 [.sl a 0 l.length, .ptr 0 0 0, .ptr 4 0 0, .ptr 3 0 0, .ptr 2 0 0] M = some (.tup [], M') ∧ Mem js (stepG js g l) (R ++ Y) M' := by
  have p1 := plannedF_i js hj l hk hl hn
  obtain ⟨q1, q2, _⟩ := plan_s js hj l hk hl
  have p2 := end_i js hj (planF js l []) (fun x hx => (q1 x hx).1) (by omega)
  have hlen := mem_low h
  have hal : a < R.length + 5 := by
    have := (List.getElem?_eq_some_iff.1 ha).1
    omega
  obtain ⟨p, hM, hpp, hS⟩ := h
  have hM1 : Mem js ⟨l, endO js l, true⟩ R (hdB js a l.length (endO js l) true ++ R) := ⟨a, rfl, by rw [hM] at ha; exact hd_get ha, hS⟩
  have f0 : M[0]? = some (jbx js) := by rw [hM]; rfl
  have f2 : M[2]? = some (bestBx p g.b.length) := by rw [hM]; rfl
  have f3 : M[3]? = some (leastBx g.le) := by rw [hM]; rfl
  have f4 : M[4]? = some (foundBx g.f) := by rw [hM]; rfl
  have n0 : 0 < M.length := by omega
  have n2 : 2 < M.length := by omega
  have n3 : 3 < M.length := by omega
  have n4 : 4 < M.length := by omega
  have hset : ∀ x : Hp, (((M ++ x).set 2 (bestBx a l.length)).set 3 (leastBx (endO js l))).set 4 (foundBx true) = (hdB js a l.length (endO js l) true ++ R) ++ x := by
    intro x
    rw [hM]
    rfl
  have hM0 : hdB js p g.b.length g.le g.f ++ R = M := hM.symm
  have hpk : ∀ x : Hp, Smp x → stepG js g l = ⟨l, endO js l, true⟩ → ∃ M' Y acc, Mem js (stepG js g l) (R ++ Y) M' ∧ packH M.length ((hdB js a l.length (endO js l) true ++ R) ++ x) [] = some (acc, M') := by
    intro x hx he
    obtain ⟨p', e1, e2, e3⟩ := hM1
    have hm : Mem js ⟨l, endO js l, true⟩ (R ++ x) ((hdB js a l.length (endO js l) true ++ R) ++ x) := ⟨a, by rw [List.append_assoc], by rw [List.getElem?_append_left (by simp [hdB]; omega)]; rw [hM] at ha; exact hd_get ha, e3.app hx⟩
    obtain ⟨M', X', acc, m1, m2⟩ := mem_pack hm
    exact ⟨M', X', acc, by rw [he]; exact m1, by rw [hlen]; exact m2 [] (fun _ h => by cases h) (by simp)⟩
  have hpk0 : ∀ x : Hp, Smp x → ∃ M' Y acc, Mem js g (R ++ Y) M' ∧ packH M.length (M ++ x) [] = some (acc, M') := by
    intro x hx
    have hm : Mem js g (R ++ x) (M ++ x) := ⟨p, by rw [← hM0, List.append_assoc], by rw [List.getElem?_append_left (List.getElem?_eq_some_iff.1 hpp).1]; exact hpp, hS.app hx⟩
    obtain ⟨M', X', acc, m1, m2⟩ := mem_pack hm
    exact ⟨M', X', acc, m1, by rw [hlen]; exact m2 [] (fun _ h => by cases h) (by simp)⟩
  have hsm : Smp [rh (planF js l [])] := fun o ho => .inr ⟨_, List.mem_singleton.1 ho, Nat.one_ne_zero⟩
  have fI : okL (free 5) ((planF js l []).map hp) = true := okL_map (fun _ => rfl) _
  have ql : (planF js l []).length ≤ ((planF js l []).map hp).length := by simp
  have tk : List.take (planF js l []).length ((planF js l []).map hp) = (planF js l []).map hp := List.take_of_length_le (by simp)
  have fL : okL (free 5) (l.map iN) = true := okL_map (fun _ => rfl) _
  have ll : l.length ≤ (l.map iN).length := by simp
  have tl : List.take l.length (l.map iN) = l.map iN := List.take_of_length_le (by simp)
  have g0 : ∀ x, (M ++ [x])[0]? = some (jbx js) := fun x => by rw [List.getElem?_append_left n0, f0]
  have gz : ∀ x (h : 0 < (M ++ [x]).length), (M ++ [x])[0]'h = jbx js := fun x h => Option.some.inj ((List.getElem?_eq_getElem h).symm.trans (g0 x))
  have g2 : ∀ x, (M ++ [x])[2]? = some (bestBx p g.b.length) := fun x => by rw [List.getElem?_append_left n2, f2]
  have g3 : ∀ x, (M ++ [x])[3]? = some (leastBx g.le) := fun x => by rw [List.getElem?_append_left n3, f3]
  have g4 : ∀ x, (M ++ [x])[4]? = some (foundBx g.f) := fun x => by rw [List.getElem?_append_left n4, f4]
  have gl : ∀ x, (M ++ [x])[M.length]? = some x := fun x => by simp
  have hs1 := hset [rh (planF js l [])]
  obtain ⟨hpk1⟩ : Nonempty (_ → _) := ⟨hpk [rh (planF js l [])] hsm⟩
  obtain ⟨M0, Y0, acc0, m01, m02⟩ := hpk0 [rh (planF js l [])] hsm
  have hstep : stepG js g l = if g.f = false ∨ endO js l < g.le then ⟨l, endO js l, true⟩ else g := rfl
  change ev E0 41 _ _ = some (i64 (endO js l), []) at p2
  rw [e40]
  unfold runF
  by_cases hc : g.f = false ∨ endO js l < g.le
  · rw [if_pos hc] at hstep
    obtain ⟨M1, Y1, acc1, m11, m12⟩ := hpk1 hstep
    refine ⟨M1, Y1, ?_, m11⟩
    generalize hdB js a l.length (endO js l) true ++ R = MB at *
    clear hM hM0 hM1 hset hpk hpk0 hpk1 m01 m02 m11 q1 q2 hpp
    unfold rI rh jbx bestBx leastBx foundBx at *
    generalize endO js l = EE at *
    generalize planF js l [] = Q at *
    generalize Q.map hp = QL at *
    generalize js.map jb = JL at *
    generalize l.map iN = LL at *
    cases hf : g.f with
    | false =>
      rw [hf] at f4 g4
      simp -implicitDefEqProofs [L40, p1, p2, f0, f2, f3, f4, g0, g2, g3, g4, gl, fI, ql, tk, fL, ll, tl, ha, -packH, hs1, m12, gz, -evX.eq_2, -evX.eq_3, evX_s, evX_f, softK_some, fullK_some]
    | true =>
      rw [hf] at hc f4 g4
      have hc2 : EE < g.le := by simpa using hc
      simp -implicitDefEqProofs [L40, p1, p2, f0, f2, f3, f4, g0, g2, g3, g4, gl, fI, ql, tk, fL, ll, tl, ha, hc2, -packH, hs1, m12, gz, -evX.eq_2, -evX.eq_3, evX_s, evX_f, softK_some, fullK_some]
  · rw [if_neg hc] at hstep
    refine ⟨M0, Y0, ?_, by rw [hstep]; exact m01⟩
    have hf : g.f = true := by cases h : g.f with
      | false => exact absurd (.inl h) hc
      | true => rfl
    have hc2 : ¬ endO js l < g.le := fun h => hc (.inr h)
    rw [hf] at f4 g4
    clear hM hM0 hM1 hset hpk hpk0 hpk1 m01 q1 q2 hpp
    unfold rI rh jbx bestBx leastBx foundBx at *
    generalize endO js l = EE at *
    generalize planF js l [] = Q at *
    generalize Q.map hp = QL at *
    generalize js.map jb = JL at *
    generalize l.map iN = LL at *
    simp -implicitDefEqProofs [L40, p1, p2, f0, f2, f3, f4, g0, g2, g3, g4, gl, fI, ql, tk, fL, ll, tl, ha, hc2, -packH, m02, gz, -evX.eq_2, -evX.eq_3, evX_s, evX_f, softK_some, fullK_some]
end Go.Proofs.YtlmjoimjdpfamaaGreat.Ev
