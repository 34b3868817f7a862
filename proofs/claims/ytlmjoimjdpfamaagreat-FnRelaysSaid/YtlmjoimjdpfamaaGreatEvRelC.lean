/- Plans: what the reference's test and the program's test say, in plain words, and that both say the same. -/
import Derived.Test.YtlmjoimjdpfamaaGreatEvRelB
set_option linter.unusedVariables false
set_option linter.unusedSimpArgs false
namespace Go.Proofs.YtlmjoimjdpfamaaGreat.Ev
/-- One hop of a job: when it is ready behind it, and how many hops it has. -/
def stepK (j : J) (h : Hh) (r : Int) (c : Nat) : Option (Int × Nat) :=
  if (c : Int) < many j ∧ h.2.1 = j.1 + way j * c ∧ r ≤ h.2.2 ∧ h.2.2 ≤ 9999 then some (h.2.2 + j.2.2.1, c + 1) else none
def runK (j : J) (k : Nat) : List Hh → Int → Nat → Option (Int × Nat)
  | [], r, c => some (r, c)
  | h :: t, r, c => if h.1 = (k : Int) then (stepK j h r c).bind fun q => runK j k t q.1 q.2 else runK j k t r c
def okPairs (js : List J) : List Hh → List Hh → Bool
  | _, [] => true
  | p, h :: t => (!(p.any fun x => clash js x h) && (match p.getLast? with | none => true | some x => bef x h)) && okPairs js (p ++ [h]) t
/-- The reference's count of all hops, where each job's are its own. -/
def specJ (pl : List Hh) : List J → Nat → Int → Option Int
  | [], _, a => some a
  | j :: t, k, a => match runK j k pl j.2.2.2 0 with
    | none => none
    | some q => if (q.2 : Int) = many j then specJ pl t (k + 1) (a + many j) else none
def planS (js : List J) (pl : List Hh) : Bool := match specJ pl js 0 0 with
  | none => false
  | some a => decide ((pl.length : Int) = a) && okPairs js [] pl
/-- The program's walk over the hops. -/
def okHop (js : List J) (p : List Hh) (ats rds : List Int) (h : Hh) : Bool :=
  (btw h.1 0 ((js.length : Int) - 1) && (btw h.2.2 0 9999 && (match p.getLast? with | none => true | some x => bef x h))) &&
  (!(decide (ats.getD h.1.toNat 0 = (jat js h.1).2.1) || (!decide (h.2.1 = ats.getD h.1.toNat 0) || decide (h.2.2 < rds.getD h.1.toNat 0))) && !(p.any fun x => clash js x h))
def runI (js : List J) : List Hh → List Int → List Int → List Hh → Option (List Int)
  | _, ats, _, [] => some ats
  | p, ats, rds, h :: t => if okHop js p ats rds h = true then runI js (p ++ [h]) (ats.set h.1.toNat (nxt js h)) (rds.set h.1.toNat (h.2.2 + (jat js h.1).2.2.1)) t else none
def planI (js : List J) (pl : List Hh) : Bool := match runI js [] (js.map (·.1)) (js.map (·.2.2.2)) pl with
  | none => false
  | some ats => decide (ats = js.map (·.2.1))
theorem JB.many_pos {j : J} (h : JB j) : 1 ≤ many j ∧ many j ≤ 5 := by
  unfold many
  obtain ⟨h1, h2, h3, h4, h5, h6, h7, h8, h9⟩ := h
  split <;> omega
theorem JB.way_cases {j : J} : way j = 1 ∨ way j = -1 := by
  unfold way
  split <;> simp
theorem JB.to_eq {j : J} (h : JB j) : j.2.1 = j.1 + way j * many j := by
  obtain ⟨h1, h2, h3, h4, h5, h6, h7, h8, h9⟩ := h
  unfold way many
  split <;> omega
theorem at_to {j : J} (h : JB j) (c : Nat) : (j.1 + way j * c = j.2.1) ↔ (c : Int) = many j := by
  rw [h.to_eq]
  rcases JB.way_cases (j := j) with w | w <;> rw [w] <;> omega
theorem runK_cnt {j : J} {k : Nat} : ∀ (pl : List Hh) (r : Int) (c : Nat) (q : Int × Nat), runK j k pl r c = some q → q.2 = c + (pl.filter fun h => decide (h.1 = (k : Int))).length
  | [], r, c, q, h => by simp only [runK, Option.some.injEq] at h; subst h; simp
  | h0 :: t, r, c, q, h => by
    unfold runK at h
    split at h
    · rename_i hk
      cases hs : stepK j h0 r c with
      | none => rw [hs] at h; cases h
      | some s =>
        rw [hs] at h
        have := runK_cnt t s.1 s.2 q h
        unfold stepK at hs
        split at hs
        · cases hs
          simp only [List.filter_cons, hk, decide_true, if_true, List.length_cons] at this ⊢
          omega
        · cases hs
    · rename_i hk
      have := runK_cnt t r c q h
      simp only [List.filter_cons, hk, decide_false, Bool.false_eq_true, if_false]
      exact this
/-- Hops of the first n jobs. -/
def inR (n : Nat) (h : Hh) : Bool := decide (0 ≤ h.1) && decide (h.1 < (n : Int))
theorem inR_succ (n : Nat) (pl : List Hh) : (pl.filter (inR (n + 1))).length = (pl.filter (inR n)).length + (pl.filter fun h => decide (h.1 = (n : Int))).length := by
  induction pl with
  | nil => rfl
  | cons h t ih =>
    simp only [List.filter_cons]
    by_cases h1 : h.1 = (n : Int)
    · have h2 : inR (n + 1) h = true := by unfold inR; simp; omega
      have h3 : inR n h = false := by unfold inR; simp; omega
      simp only [h1, h2, h3, decide_true, if_true, Bool.false_eq_true, if_false, List.length_cons]
      omega
    · have h2 : inR (n + 1) h = inR n h := by
        unfold inR
        congr 1
        exact decide_eq_decide.2 (by omega)
      rw [h2]
      simp only [h1, decide_false, Bool.false_eq_true, if_false]
      cases inR n h <;> simp <;> omega
theorem specJ_spec (pl : List Hh) : ∀ (js : List J) (k : Nat) (a b : Int), specJ pl js k a = some b → (∀ i (hi : i < js.length), ∃ q, runK js[i] (k + i) pl js[i].2.2.2 0 = some q ∧ (q.2 : Int) = many js[i]) ∧ b + ((pl.filter (inR k)).length : Int) = a + ((pl.filter (inR (k + js.length))).length : Int)
  | [], k, a, b, h => by
    simp only [specJ, Option.some.injEq] at h
    subst h
    exact ⟨fun i hi => by simp at hi, by simp⟩
  | j :: t, k, a, b, h => by
    unfold specJ at h
    cases hr : runK j k pl j.2.2.2 0 with
    | none => rw [hr] at h; cases h
    | some q =>
      rw [hr] at h
      simp only at h
      split at h
      · rename_i hq
        obtain ⟨h1, h2⟩ := specJ_spec pl t (k + 1) (a + many j) b h
        have h3 := runK_cnt pl _ _ q hr
        have h4 := inR_succ k pl
        refine ⟨fun i hi => ?_, ?_⟩
        · cases i with
          | zero => exact ⟨q, hr, hq⟩
          | succ i =>
            obtain ⟨q', e1, e2⟩ := h1 i (by simpa using hi)
            exact ⟨q', by rw [show k + (i + 1) = k + 1 + i by omega]; exact e1, e2⟩
        · rw [List.length_cons, show k + (t.length + 1) = k + 1 + t.length by omega]
          omega
      · cases h
theorem specJ_back (pl : List Hh) : ∀ (js : List J) (k : Nat) (a : Int), (∀ i (hi : i < js.length), ∃ q, runK js[i] (k + i) pl js[i].2.2.2 0 = some q ∧ (q.2 : Int) = many js[i]) → ∃ b, specJ pl js k a = some b
  | [], k, a, _ => ⟨a, rfl⟩
  | j :: t, k, a, h => by
    obtain ⟨q, e1, e2⟩ := h 0 (by simp)
    simp only [List.getElem_cons_zero, Nat.add_zero] at e1 e2
    obtain ⟨b, hb⟩ := specJ_back pl t (k + 1) (a + many j) fun i hi => by
      obtain ⟨q', u1, u2⟩ := h (i + 1) (by simpa using hi)
      simp only [List.getElem_cons_succ] at u1 u2
      exact ⟨q', by rw [show k + 1 + i = k + (i + 1) by omega]; exact u1, u2⟩
    refine ⟨b, ?_⟩
    unfold specJ
    rw [e1]
    simp only [e2, if_true]
    exact hb
theorem filter_all {p : Hh → Bool} : ∀ l : List Hh, (l.filter p).length = l.length ↔ ∀ h ∈ l, p h = true
  | [] => by simp
  | h :: t => by
    have ih := filter_all (p := p) t
    have hle := List.length_filter_le p t
    simp only [List.filter_cons, List.mem_cons, forall_eq_or_imp]
    cases hp : p h with
    | true =>
      simp only [if_true, List.length_cons, true_and, Nat.add_right_cancel_iff]
      exact ih
    | false =>
      simp only [Bool.false_eq_true, if_false, List.length_cons, false_and, iff_false]
      omega
/-- What a plan is, in few words. -/
def Plan (js : List J) (pl : List Hh) : Prop := (∀ h ∈ pl, inR js.length h = true) ∧ (∀ i (hi : i < js.length), ∃ q, runK js[i] i pl js[i].2.2.2 0 = some q ∧ (q.2 : Int) = many js[i]) ∧ okPairs js [] pl = true
theorem planS_iff (js : List J) (pl : List Hh) : planS js pl = true ↔ Plan js pl := by
  have h0 : (pl.filter (inR 0)).length = 0 := by
    rw [List.length_eq_zero_iff, List.filter_eq_nil_iff]
    intro h _
    unfold inR
    simp only [Bool.and_eq_true, decide_eq_true_eq]
    omega
  constructor
  · intro h
    unfold planS at h
    cases hs : specJ pl js 0 0 with
    | none => rw [hs] at h; cases h
    | some a =>
      rw [hs] at h
      simp only [Bool.and_eq_true, decide_eq_true_eq] at h
      obtain ⟨h1, h2⟩ := specJ_spec pl js 0 0 a hs
      rw [h0, Nat.zero_add] at h2
      refine ⟨(filter_all pl).1 (by omega), fun i hi => ?_, h.2⟩
      have := h1 i hi
      rwa [Nat.zero_add] at this
  · rintro ⟨h1, h2, h3⟩
    obtain ⟨b, hb⟩ := specJ_back pl js 0 0 fun i hi => by rw [Nat.zero_add]; exact h2 i hi
    obtain ⟨_, h4⟩ := specJ_spec pl js 0 0 b hb
    rw [h0, Nat.zero_add, (filter_all pl).2 h1] at h4
    unfold planS
    rw [hb]
    simp only [Bool.and_eq_true, decide_eq_true_eq]
    exact ⟨by omega, h3⟩
-- ---------------------------------------------------------------- the program's walk
structure Walk (js : List J) (ats rds : List Int) (cs : List Nat) : Prop where
  la : ats.length = js.length
  lr : rds.length = js.length
  lc : cs.length = js.length
  at_ : ∀ i (hi : i < js.length), ats.getD i 0 = js[i].1 + way js[i] * ((cs.getD i 0 : Nat) : Int) ∧ ((cs.getD i 0 : Nat) : Int) ≤ many js[i] ∧ 0 ≤ rds.getD i 0
theorem getD_set {α : Type} (l : List α) (i j : Nat) (x d : α) (hi : i < l.length) : (l.set i x).getD j d = if j = i then x else l.getD j d := by
  rw [List.getD_eq_getElem?_getD, List.getD_eq_getElem?_getD, List.getElem?_set]
  by_cases h : i = j
  · subst h; simp [hi]
  · have h2 : ¬ j = i := fun e => h e.symm
    simp [h, h2]
theorem runI_iff {js : List J} (hj : ∀ j ∈ js, JB j) : ∀ (t p : List Hh) (ats rds : List Int) (cs : List Nat), Walk js ats rds cs →
    ((∃ ats', runI js p ats rds t = some ats' ∧ ats' = js.map (·.2.1)) ↔ ((∀ h ∈ t, inR js.length h = true) ∧ (∀ i (hi : i < js.length), ∃ q, runK js[i] i t (rds.getD i 0) (cs.getD i 0) = some q ∧ (q.2 : Int) = many js[i]) ∧ okPairs js p t = true))
  | [], p, ats, rds, cs, hW => by
    constructor
    · rintro ⟨ats', h1, h2⟩
      simp only [runI, Option.some.injEq] at h1
      subst h1
      refine ⟨fun h hh => (by cases hh), fun i hi => ⟨_, rfl, ?_⟩, rfl⟩
      obtain ⟨a1, a2, a3⟩ := hW.at_ i hi
      have h3 : ats.getD i 0 = js[i].2.1 := by rw [h2]; simp [hi]
      rw [h3] at a1
      exact (at_to (hj _ (List.getElem_mem hi)) _).1 a1.symm
    · rintro ⟨_, h2, _⟩
      refine ⟨ats, rfl, List.ext_getElem (by rw [hW.la]; simp) fun i h1 h3 => ?_⟩
      have hi : i < js.length := by rw [← hW.la]; exact h1
      obtain ⟨q, e1, e2⟩ := h2 i hi
      simp only [runK, Option.some.injEq] at e1
      subst e1
      obtain ⟨a1, a2, a3⟩ := hW.at_ i hi
      rw [(at_to (hj _ (List.getElem_mem hi)) _).2 e2] at a1
      rw [List.getD_eq_getElem?_getD, List.getElem?_eq_getElem h1] at a1
      simpa using a1
  | h :: t, p, ats, rds, cs, hW => by
    by_cases hr : inR js.length h = true
    · have hr2 := hr
      unfold inR at hr2
      simp only [Bool.and_eq_true, decide_eq_true_eq] at hr2
      obtain ⟨a, b, c⟩ := h
      obtain ⟨k, rfl⟩ : ∃ k : Nat, a = k := ⟨a.toNat, by simp at hr2; omega⟩
      have hk : k < js.length := by simp at hr2; omega
      have hJ := hj _ (List.getElem_mem hk)
      obtain ⟨a1, a2, a3⟩ := hW.at_ k hk
      have hjat := jat_get hk
      -- the hop's own test is the step's
      have hst : okHop js p ats rds ((k : Int), b, c) = ((stepK js[k] ((k : Int), b, c) (rds.getD k 0) (cs.getD k 0)).isSome && (!(p.any fun x => clash js x ((k : Int), b, c)) && (match p.getLast? with | none => true | some x => bef x ((k : Int), b, c)))) := by
        unfold okHop stepK btw
        simp only [Int.toNat_natCast, hjat, a1]
        have h1 : decide (js[k].1 + way js[k] * ((cs.getD k 0 : Nat) : Int) = js[k].2.1) = !decide (((cs.getD k 0 : Nat) : Int) < many js[k]) := by
          have := at_to hJ (cs.getD k 0)
          by_cases hc : ((cs.getD k 0 : Nat) : Int) < many js[k]
          · rw [decide_eq_false (fun e => by have := this.1 e; omega), decide_eq_true hc]; rfl
          · rw [decide_eq_true (this.2 (by omega)), decide_eq_false hc]; rfl
        rw [h1]
        have h2 : (decide (0 ≤ (k : Int)) && decide ((k : Int) ≤ (js.length : Int) - 1)) = true := by
          simp only [Bool.and_eq_true, decide_eq_true_eq]; omega
        rw [h2]
        generalize (match p.getLast? with | none => true | some x => bef x ((k : Int), b, c)) = m1
        generalize (p.any fun x => clash js x ((k : Int), b, c)) = m2
        have e1 : decide (0 ≤ c) = true ∨ decide (rds.getD k 0 ≤ c) = false := by
          by_cases q : 0 ≤ c
          · exact .inl (decide_eq_true q)
          · exact .inr (decide_eq_false (by omega))
        have e2 : decide (c < rds.getD k 0) = !decide (rds.getD k 0 ≤ c) := by
          by_cases q : rds.getD k 0 ≤ c
          · rw [decide_eq_true q, decide_eq_false (by omega)]; rfl
          · rw [decide_eq_false q, decide_eq_true (by omega)]; rfl
        have e3 : ∀ (P : Prop) [Decidable P] (x : Int × Nat), (if P then some x else none).isSome = decide P := by
          intro P _ x
          split <;> simp [*]
        rw [e3, e2]
        simp only [Bool.decide_and]
        rcases e1 with e1 | e1 <;> rw [e1] <;> generalize decide (((cs.getD k 0 : Nat) : Int) < many js[k]) = x1 <;> generalize decide (b = js[k].1 + way js[k] * ((cs.getD k 0 : Nat) : Int)) = x2 <;> generalize decide (c ≤ 9999) = x3 <;> (try generalize decide (rds.getD k 0 ≤ c) = x4) <;> (try generalize decide (0 ≤ c) = x5) <;> cases x1 <;> cases x2 <;> cases x3 <;> cases m1 <;> cases m2 <;> simp
      unfold runI okPairs
      rw [hst]
      cases hs : stepK js[k] ((k : Int), b, c) (rds.getD k 0) (cs.getD k 0) with
      | none =>
        simp only [Option.isSome_none, Bool.false_and, Bool.false_eq_true, if_false]
        constructor
        · rintro ⟨_, h, _⟩; cases h
        · rintro ⟨_, h2, _⟩
          obtain ⟨q, e1, _⟩ := h2 k hk
          unfold runK at e1
          rw [if_pos rfl, hs] at e1
          cases e1
      | some s =>
        have hs2 := hs
        unfold stepK at hs2
        split at hs2
        · rename_i hc
          cases hs2
          obtain ⟨c1, c2, c3, c4⟩ := hc
          dsimp only at c2 c3 c4
          simp only [Option.isSome_some, Bool.true_and, Int.toNat_natCast, hjat]
          cases hp : (!(p.any fun x => clash js x ((k : Int), b, c)) && (match p.getLast? with | none => true | some x => bef x ((k : Int), b, c))) with
          | false =>
            simp only [Bool.false_eq_true, if_false, Bool.false_and, and_false]
            constructor
            · rintro ⟨_, h, _⟩; cases h
            · rintro ⟨_, _, h⟩
          | true =>
            simp only [if_true, Bool.true_and]
            have hW' : Walk js (ats.set k (nxt js ((k : Int), b, c))) (rds.set k (c + js[k].2.2.1)) (cs.set k (cs.getD k 0 + 1)) := by
              refine ⟨by simp [hW.la], by simp [hW.lr], by simp [hW.lc], fun i hi => ?_⟩
              rw [getD_set _ _ _ _ _ (by rw [hW.la]; exact hk), getD_set _ _ _ _ _ (by rw [hW.lc]; exact hk), getD_set _ _ _ _ _ (by rw [hW.lr]; exact hk)]
              by_cases hik : i = k
              · subst hik
                simp only [if_true]
                have s0 := hJ.s0
                refine ⟨?_, by omega, by omega⟩
                unfold nxt
                simp only [hjat, c2]
                rcases JB.way_cases (j := js[i]) with w | w <;> rw [w] <;> push_cast <;> (try omega)
              · simp only [if_neg hik]
                exact hW.at_ i hi
            rw [runI_iff hj t (p ++ [((k : Int), b, c)]) _ _ _ hW']
            refine and_congr ?_ (and_congr ?_ Iff.rfl)
            · simp only [List.mem_cons, forall_eq_or_imp, hr, true_and]
            · refine forall_congr' fun i => forall_congr' fun hi => ?_
              rw [getD_set _ _ _ _ _ (by rw [hW.lr]; exact hk), getD_set _ _ _ _ _ (by rw [hW.lc]; exact hk)]
              by_cases hik : i = k
              · subst hik
                simp only [if_true]
                rw [runK, if_pos rfl, hs]
                rfl
              · have hki : ¬ (k : Int) = (i : Int) := by omega
                simp only [if_neg hik]
                rw [runK, if_neg hki]
        · cases hs2
    · have ho : okHop js p ats rds h = false := by
        have : btw h.1 0 ((js.length : Int) - 1) = false := by
          unfold inR at hr
          unfold btw
          simp only [Bool.and_eq_true, decide_eq_true_eq] at hr
          cases hb : decide (0 ≤ h.1) && decide (h.1 ≤ (js.length : Int) - 1) with
          | false => rfl
          | true =>
            simp only [Bool.and_eq_true, decide_eq_true_eq] at hb
            exact absurd ⟨hb.1, by omega⟩ hr
        unfold okHop
        rw [this]
        rfl
      unfold runI
      rw [ho]
      simp only [Bool.false_eq_true, if_false]
      constructor
      · rintro ⟨_, h, _⟩; cases h
      · rintro ⟨h1, _⟩
        exact absurd (h1 h (by simp)) hr
theorem planI_iff {js : List J} (hj : ∀ j ∈ js, JB j) (pl : List Hh) : planI js pl = true ↔ Plan js pl := by
  have hW : Walk js (js.map (·.1)) (js.map (·.2.2.2)) (js.map fun _ => 0) := by
    refine ⟨by simp, by simp, by simp, fun i hi => ?_⟩
    have h1 := (hj _ (List.getElem_mem hi)).many_pos
    have h2 := (hj _ (List.getElem_mem hi)).b0
    simp [hi]
    omega
  have h := runI_iff hj pl [] _ _ _ hW
  have hp : planI js pl = true ↔ ∃ ats', runI js [] (js.map (·.1)) (js.map (·.2.2.2)) pl = some ats' ∧ ats' = js.map (·.2.1) := by
    unfold planI
    cases runI js [] (js.map (·.1)) (js.map (·.2.2.2)) pl with
    | none => simp
    | some a => simp
  rw [hp, h]
  unfold Plan
  refine and_congr Iff.rfl (and_congr ?_ Iff.rfl)
  refine forall_congr' fun i => forall_congr' fun hi => ?_
  simp [hi]
theorem plan_eq {js : List J} (hj : ∀ j ∈ js, JB j) (pl : List Hh) : planI js pl = planS js pl := by
  rw [Bool.eq_iff_iff, planI_iff hj, planS_iff]
end Go.Proofs.YtlmjoimjdpfamaaGreat.Ev
