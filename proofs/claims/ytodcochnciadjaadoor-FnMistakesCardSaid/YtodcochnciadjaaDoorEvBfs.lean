/- Steps from a place: two ways to reckon them, one answer. Plain law. -/
import Derived.Test.YtodcochnciadjaaDoorEvBD
set_option linter.unusedVariables false
set_option linter.unusedSimpArgs false
namespace Go.Proofs.YtodcochnciadjaaDoor.Ev.Bf
def G (f : List Int) (v : Nat) : Int := f.getD v (-1)
def Q (q : List Nat) (i : Nat) : Nat := q.getD i 0
theorem G_at {f : List Int} {v : Nat} (h : v < f.length) : G f v = f[v] := by unfold G; rw [List.getD_eq_getElem?_getD, List.getElem?_eq_getElem h]; rfl
theorem G_out {f : List Int} {v : Nat} (h : f.length ≤ v) : G f v = -1 := by unfold G; rw [List.getD_eq_getElem?_getD, List.getElem?_eq_none h]; rfl
theorem G_set (f : List Int) (k v : Nat) (x : Int) (h : k < f.length) : G (f.set k x) v = if k = v then x else G f v := by
  unfold G
  rw [List.getD_eq_getElem?_getD, List.getD_eq_getElem?_getD, List.getElem?_set]
  by_cases e : k = v
  · rw [if_pos e, if_pos e, if_pos (e ▸ h)]; rfl
  · rw [if_neg e, if_neg e]
theorem Q_app {q : List Nat} {k a : Nat} (h : a < q.length) : Q (q ++ [k]) a = Q q a := by
  unfold Q
  rw [List.getD_eq_getElem?_getD, List.getD_eq_getElem?_getD, List.getElem?_append_left h]
theorem Q_last (q : List Nat) (k : Nat) : Q (q ++ [k]) q.length = k := by
  unfold Q
  rw [List.getD_eq_getElem?_getD, List.getElem?_append_right (Nat.le_refl _), Nat.sub_self]
  rfl
theorem Q_at {q : List Nat} {a : Nat} (h : a < q.length) : Q q a = q[a] := by
  unfold Q
  rw [List.getD_eq_getElem?_getD, List.getElem?_eq_getElem h]
  rfl
theorem Q_mem {q : List Nat} {a : Nat} (h : a < q.length) : Q q a ∈ q := by
  rw [Q_at h]
  exact List.getElem_mem h
theorem mem_Q {q : List Nat} {v : Nat} (h : v ∈ q) : ∃ a, a < q.length ∧ Q q a = v := by
  obtain ⟨a, ha, e⟩ := List.mem_iff_getElem.1 h
  exact ⟨a, ha, by rw [Q_at ha, e]⟩
/-- What the steps from a place must be. -/
structure Lv (adj : Nat → Nat → Bool) (n to : Nat) (f : List Int) : Prop where
  len : f.length = n
  zero : G f to = 0
  low : ∀ v, -1 ≤ G f v
  next : ∀ u v, u < n → v < n → adj u v = true → 0 ≤ G f u → 0 ≤ G f v ∧ G f v ≤ G f u + 1
  pred : ∀ v, v < n → v ≠ to → 0 ≤ G f v → ∃ u, u < n ∧ adj u v = true ∧ 0 ≤ G f u ∧ G f v = G f u + 1
theorem lv_half {adj : Nat → Nat → Bool} {n to : Nat} {f g : List Int} (hf : Lv adj n to f) (hg : Lv adj n to g) (ht : to < n) : ∀ (m : Nat), (∀ j, j < m → ∀ v, v < n → (G f v = (j : Int) ↔ G g v = (j : Int))) → ∀ v, v < n → G f v = (m : Int) → G g v = (m : Int) := by
  intro m ih v hv h
  by_cases e : v = to
  · subst e
    rw [hf.zero] at h
    rw [hg.zero]
    exact h
  · obtain ⟨u, hu, ha, h0, h1⟩ := hf.pred v hv e (by omega)
    have hm : m ≠ 0 := by omega
    have h2 : G f u = ((m - 1 : Nat) : Int) := by omega
    have h3 := (ih (m - 1) (by omega) u hu).1 h2
    have h4 := hg.next u v hu hv ha (by omega)
    by_cases h5 : G g v = (m : Int)
    · exact h5
    · exfalso
      have h6 : G g v = ((G g v).toNat : Int) := by omega
      have := (ih (G g v).toNat (by omega) v hv).2 h6
      omega
theorem lv_unique {adj : Nat → Nat → Bool} {n to : Nat} {f g : List Int} (hf : Lv adj n to f) (hg : Lv adj n to g) (ht : to < n) : f = g := by
  have key : ∀ m : Nat, ∀ j, j < m → ∀ v, v < n → (G f v = (j : Int) ↔ G g v = (j : Int)) := by
    intro m
    induction m with
    | zero => intro j hj; omega
    | succ m ih =>
      intro j hj v hv
      by_cases h : j < m
      · exact ih j h v hv
      · obtain rfl : j = m := by omega
        exact ⟨fun h => lv_half hf hg ht j ih v hv h, fun h => lv_half hg hf ht j (fun i hi v hv => (ih i hi v hv).symm) v hv h⟩
  have hG : ∀ v, v < n → G f v = G g v := by
    intro v hv
    by_cases h : 0 ≤ G f v
    · have := (key ((G f v).toNat + 1) (G f v).toNat (by omega) v hv).1 (by omega)
      omega
    · by_cases h' : 0 ≤ G g v
      · have := (key ((G g v).toNat + 1) (G g v).toNat (by omega) v hv).2 (by omega)
        omega
      · have := hf.low v
        have := hg.low v
        omega
  apply List.ext_getElem (by rw [hf.len, hg.len])
  intro v h1 h2
  have := hG v (by rw [← hf.len]; exact h1)
  rwa [G_at h1, G_at h2] at this
-- ---------------------------------------------------------------- counting
theorem nd_len : ∀ (q l : List Nat), q.Nodup → (∀ v ∈ q, v ∈ l) → q.length ≤ l.length := by
  intro q
  induction q with
  | nil => intro l _ _; simp
  | cons v q ih =>
    intro l hn hs
    rw [List.nodup_cons] at hn
    have h := ih (l.erase v) hn.2 (fun x hx => by
      have hne : x ≠ v := fun e => hn.1 (e ▸ hx)
      exact (List.mem_erase_of_ne hne).2 (hs x (List.mem_cons_of_mem _ hx)))
    have hm := hs v (List.mem_cons_self ..)
    have hl := List.length_erase_of_mem hm
    have := List.length_pos_of_mem hm
    rw [List.length_cons]
    omega
theorem pig : ∀ (r : Nat) (l : List Int), (∀ j : Nat, j < r → (j : Int) ∈ l) → r ≤ l.length := by
  intro r
  induction r with
  | zero => intro l _; omega
  | succ r ih =>
    intro l h
    have hm := h r (by omega)
    have hl := List.length_erase_of_mem hm
    have hp := List.length_pos_of_mem hm
    have := ih (l.erase (r : Int)) (fun j hj => (List.mem_erase_of_ne (by omega)).2 (h j (by omega)))
    omega
-- ---------------------------------------------------------------- the queue
structure Inv (adj : Nat → Nat → Bool) (n to : Nat) (f : List Int) (q : List Nat) (i k : Nat) : Prop where
  len : f.length = n
  zero : G f to = 0
  low : ∀ v, -1 ≤ G f v
  mem : ∀ v, v < n → (0 ≤ G f v ↔ v ∈ q)
  lt : ∀ v ∈ q, v < n
  nd : q.Nodup
  mono : ∀ a b, a ≤ b → b < q.length → G f (Q q a) ≤ G f (Q q b)
  top : ∀ a, a < q.length → i < q.length → G f (Q q a) ≤ G f (Q q i) + 1
  done : ∀ a, a < i → a < q.length → ∀ v, v < n → adj (Q q a) v = true → 0 ≤ G f v ∧ G f v ≤ G f (Q q a) + 1
  part : ∀ v, v < k → i < q.length → adj (Q q i) v = true → 0 ≤ G f v ∧ G f v ≤ G f (Q q i) + 1
  pred : ∀ v, v < n → v ≠ to → 0 ≤ G f v → ∃ u, u < n ∧ adj u v = true ∧ 0 ≤ G f u ∧ G f v = G f u + 1
variable {adj : Nat → Nat → Bool} {n to : Nat} {f : List Int} {q : List Nat} {i k : Nat}
theorem Inv.short (h : Inv adj n to f q i k) : q.length ≤ n := by
  have := nd_len q (List.range n) h.nd (fun v hv => List.mem_range.2 (h.lt v hv))
  rwa [List.length_range] at this
theorem Inv.pos (h : Inv adj n to f q i k) {a : Nat} (ha : a < q.length) : 0 ≤ G f (Q q a) := (h.mem _ (h.lt _ (Q_mem ha))).2 (Q_mem ha)
def hit (adj : Nat → Nat → Bool) (f : List Int) (q : List Nat) (i k : Nat) : Bool := decide (G f k < 0) && adj (Q q i) k
theorem Inv.miss (h : Inv adj n to f q i k) (hk : k < n) (hn : hit adj f q i k = false) : Inv adj n to f q i (k + 1) := by
  refine { h with part := ?_ }
  intro v hv hi ha
  by_cases e : v = k
  · subst e
    have h0 : 0 ≤ G f v := by
      apply Decidable.byContradiction
      intro hc
      unfold hit at hn
      rw [ha, decide_eq_true (show G f v < 0 by omega)] at hn
      cases hn
    obtain ⟨a, ha', e⟩ := mem_Q ((h.mem v hk).1 h0)
    have := h.top a ha' hi
    rw [e] at this
    exact ⟨h0, this⟩
  · exact h.part v (by omega) hi ha
theorem Inv.hit (h : Inv adj n to f q i k) (hi : i < q.length) (hk : k < n) (hn : hit adj f q i k = true) : Inv adj n to (f.set k (G f (Q q i) + 1)) (q ++ [k]) i (k + 1) := by
  unfold Bf.hit at hn
  rw [Bool.and_eq_true, decide_eq_true_eq] at hn
  obtain ⟨hk0, hadj⟩ := hn
  have hkq : k ∉ q := fun e => by have := (h.mem k hk).2 e; omega
  have hl : k < f.length := by rw [h.len]; exact hk
  have gs : ∀ v, G (f.set k (G f (Q q i) + 1)) v = if k = v then G f (Q q i) + 1 else G f v := fun v => G_set f k v _ hl
  have gq : ∀ a, a < q.length → G (f.set k (G f (Q q i) + 1)) (Q (q ++ [k]) a) = G f (Q q a) := fun a ha => by
    rw [Q_app ha, gs, if_neg]
    intro e
    exact hkq (e ▸ Q_mem ha)
  have gl : G (f.set k (G f (Q q i) + 1)) (Q (q ++ [k]) q.length) = G f (Q q i) + 1 := by rw [Q_last, gs, if_pos rfl]
  have p0 := h.pos hi
  have up : ∀ v, 0 ≤ G f v → G (f.set k (G f (Q q i) + 1)) v = G f v := fun v hv => by
    rw [gs, if_neg]
    intro e
    subst e
    omega
  refine ⟨by rw [List.length_set]; exact h.len, ?_, ?_, ?_, ?_, ?_, ?_, ?_, ?_, ?_, ?_⟩
  · rw [up _ (by rw [h.zero]; omega), h.zero]
  · intro v
    rw [gs]
    have := h.low v
    split <;> omega
  · intro v hv
    rw [gs, List.mem_append, List.mem_singleton]
    have := h.mem v hv
    by_cases e : k = v
    · rw [if_pos e]; exact ⟨fun _ => .inr e.symm, fun _ => by omega⟩
    · rw [if_neg e, this]
      exact ⟨fun h => .inl h, fun h => h.resolve_right (fun h => e h.symm)⟩
  · intro v hv
    rcases List.mem_append.1 hv with hv | hv
    · exact h.lt v hv
    · rw [List.mem_singleton.1 hv]; exact hk
  · rw [List.nodup_append]
    exact ⟨h.nd, by simp, fun a ha b hb e => hkq (by rw [List.mem_singleton.1 hb] at e; exact e ▸ ha)⟩
  · intro a b hab hb
    rw [List.length_append, List.length_singleton] at hb
    by_cases hb' : b < q.length
    · rw [gq a (by omega), gq b hb']
      exact h.mono a b hab hb'
    · obtain rfl : b = q.length := by omega
      rw [gl]
      by_cases ha : a < q.length
      · rw [gq a ha]
        exact h.top a ha hi
      · obtain rfl : a = q.length := by omega
        rw [gl]
        exact Int.le_refl _
  · intro a ha _
    rw [List.length_append, List.length_singleton] at ha
    rw [gq i hi]
    by_cases ha' : a < q.length
    · rw [gq a ha']
      exact h.top a ha' hi
    · obtain rfl : a = q.length := by omega
      rw [gl]
      exact Int.le_refl _
  · intro a hai _ v hv ha
    have haq : a < q.length := by omega
    rw [Q_app haq] at ha
    rw [gq a haq]
    obtain ⟨h1, h2⟩ := h.done a hai haq v hv ha
    rw [up v h1]
    exact ⟨h1, h2⟩
  · intro v hv _ ha
    rw [Q_app hi] at ha
    rw [gq i hi]
    by_cases e : v = k
    · subst e
      rw [gs, if_pos rfl]
      omega
    · obtain ⟨h1, h2⟩ := h.part v (by omega) hi ha
      rw [up v h1]
      exact ⟨h1, h2⟩
  · intro v hv hto h0
    by_cases e : v = k
    · subst e
      refine ⟨Q q i, h.lt _ (Q_mem hi), hadj, ?_, ?_⟩
      · rw [up _ p0]; exact p0
      · rw [up _ p0, gs, if_pos rfl]
    · rw [gs, if_neg (fun x => e x.symm)] at h0
      obtain ⟨u, hu, h1, h2, h3⟩ := h.pred v hv hto h0
      refine ⟨u, hu, h1, ?_, ?_⟩
      · rw [up _ h2]; exact h2
      · rw [up _ h2, up _ h0]; exact h3
theorem Inv.next (h : Inv adj n to f q i n) (hi : i < q.length) : Inv adj n to f q (i + 1) 0 := by
  refine { h with part := fun v hv => by omega, top := ?_, done := ?_ }
  · intro a ha hi1
    have h1 := h.top a ha hi
    have h2 := h.mono i (i + 1) (by omega) hi1
    omega
  · intro a ha haq v hv hadj
    by_cases e : a = i
    · subst e
      exact h.part v hv haq hadj
    · exact h.done a (by omega) haq v hv hadj
theorem Inv.fin (h : Inv adj n to f q i 0) (hi : ¬ i < q.length) : Lv adj n to f := by
  refine ⟨h.len, h.zero, h.low, ?_, h.pred⟩
  intro u v hu hv ha h0
  obtain ⟨a, ha', rfl⟩ := mem_Q ((h.mem u hu).1 h0)
  exact h.done a (by omega) ha' v hv ha
theorem rep_G (n to v : Nat) (h : to < n) : G ((List.replicate n (-1 : Int)).set to 0) v = if to = v then 0 else -1 := by
  rw [G_set _ _ _ _ (by simpa using h)]
  by_cases e : to = v
  · rw [if_pos e, if_pos e]
  · rw [if_neg e, if_neg e]
    unfold G
    rw [List.getD_eq_getElem?_getD, List.getElem?_replicate]
    split <;> rfl
theorem Inv.start (adj : Nat → Nat → Bool) (n to : Nat) (h : to < n) : Inv adj n to ((List.replicate n (-1 : Int)).set to 0) [to] 0 0 := by
  have gs := fun v => rep_G n to v h
  have hq : ∀ a, a < [to].length → Q [to] a = to := fun a ha => by
    obtain rfl : a = 0 := by simpa using ha
    rfl
  refine ⟨by simp, ?_, ?_, ?_, ?_, by simp, ?_, ?_, fun a ha => by omega, fun v hv => by omega, ?_⟩
  · rw [gs, if_pos rfl]
  · intro v; rw [gs]; split <;> omega
  · intro v hv
    rw [gs, List.mem_singleton]
    split
    · rename_i e; exact ⟨fun _ => e.symm, fun _ => by omega⟩
    · rename_i e; exact ⟨fun h => by omega, fun h => absurd h.symm e⟩
  · intro v hv; rw [List.mem_singleton.1 hv]; exact h
  · intro a b hab hb
    rw [hq b hb, hq a (by omega)]
    exact Int.le_refl _
  · intro a ha hi
    rw [hq a ha, hq 0 hi]
    omega
  · intro v hv hto h0
    rw [gs, if_neg (fun e => hto e.symm)] at h0
    omega
-- ---------------------------------------------------------------- the rounds
/-- Before round r, at the pair (i, k): all places nearer than r are done, of round r the first i, and of i the first k. -/
structure Rnd (adj : Nat → Nat → Bool) (n to : Nat) (f : List Int) (r i k : Nat) : Prop where
  len : f.length = n
  zero : G f to = 0
  low : ∀ v, -1 ≤ G f v
  high : ∀ v, G f v ≤ r + 1
  pred : ∀ v, v < n → v ≠ to → 0 ≤ G f v → ∃ u, u < n ∧ adj u v = true ∧ 0 ≤ G f u ∧ G f v = G f u + 1
  done : ∀ u v, u < n → v < n → adj u v = true → 0 ≤ G f u → G f u < r ∨ G f u = r ∧ (u < i ∨ u = i ∧ v < k) → 0 ≤ G f v ∧ G f v ≤ G f u + 1
def hits (adj : Nat → Nat → Bool) (f : List Int) (r i k : Nat) : Bool := decide (G f i = r) && decide (G f k < 0) && adj i k
variable {r : Nat}
theorem Rnd.miss (h : Rnd adj n to f r i k) (hi : i < n) (hk : k < n) (hn : hits adj f r i k = false) : Rnd adj n to f r i (k + 1) := by
  refine { h with done := ?_ }
  intro u v hu hv ha h0 hc
  by_cases e : u = i ∧ v = k
  · obtain ⟨rfl, rfl⟩ := e
    by_cases hr : G f u = r
    · have hv0 : 0 ≤ G f v := by
        apply Decidable.byContradiction
        intro hc
        unfold hits at hn
        rw [ha, decide_eq_true hr, decide_eq_true (show G f v < 0 by omega)] at hn
        cases hn
      have := h.high v
      exact ⟨hv0, by omega⟩
    · exact h.done u v hu hv ha h0 (by omega)
  · exact h.done u v hu hv ha h0 (by omega)
theorem Rnd.hit (h : Rnd adj n to f r i k) (hi : i < n) (hk : k < n) (hn : hits adj f r i k = true) : Rnd adj n to (f.set k ((r : Int) + 1)) r i (k + 1) := by
  unfold hits at hn
  rw [Bool.and_eq_true, Bool.and_eq_true, decide_eq_true_eq, decide_eq_true_eq] at hn
  obtain ⟨⟨hir, hk0⟩, hadj⟩ := hn
  have hl : k < f.length := by rw [h.len]; exact hk
  have gs : ∀ v, G (f.set k ((r : Int) + 1)) v = if k = v then (r : Int) + 1 else G f v := fun v => G_set f k v _ hl
  have up : ∀ v, 0 ≤ G f v → G (f.set k ((r : Int) + 1)) v = G f v := fun v hv => by
    rw [gs, if_neg]
    intro e
    subst e
    omega
  refine ⟨by rw [List.length_set]; exact h.len, ?_, ?_, ?_, ?_, ?_⟩
  · rw [up _ (by rw [h.zero]; omega), h.zero]
  · intro v
    rw [gs]
    have := h.low v
    split <;> omega
  · intro v
    rw [gs]
    have := h.high v
    split <;> omega
  · intro v hv hto h0
    by_cases e : v = k
    · subst e
      refine ⟨i, hi, hadj, ?_, ?_⟩
      · rw [up i (by omega)]; omega
      · rw [up i (by omega), gs, if_pos rfl]; omega
    · rw [gs, if_neg (fun x => e x.symm)] at h0
      obtain ⟨u, hu, h1, h2, h3⟩ := h.pred v hv hto h0
      refine ⟨u, hu, h1, ?_, ?_⟩
      · rw [up _ h2]; exact h2
      · rw [up _ h2, up _ h0]; exact h3
  · intro u v hu hv ha h0 hc
    have huk : u ≠ k := by
      rintro rfl
      rw [gs, if_pos rfl] at hc
      omega
    have gu : G (f.set k ((r : Int) + 1)) u = G f u := by rw [gs, if_neg (fun x => huk x.symm)]
    rw [gu] at h0 hc ⊢
    by_cases e : v = k
    · subst e
      rw [gs, if_pos rfl]
      by_cases hr : G f u = r
      · omega
      · have := h.done u v hu hv ha h0 (by omega)
        omega
    · obtain ⟨h1, h2⟩ := h.done u v hu hv ha h0 (by omega)
      rw [up v h1]
      exact ⟨h1, h2⟩
theorem Rnd.row (h : Rnd adj n to f r i n) : Rnd adj n to f r (i + 1) 0 := by
  refine { h with done := ?_ }
  intro u v hu hv ha h0 hc
  exact h.done u v hu hv ha h0 (by omega)
theorem Rnd.next (h : Rnd adj n to f r n 0) : Rnd adj n to f (r + 1) 0 0 := by
  refine { h with high := fun v => by have := h.high v; omega, done := ?_ }
  intro u v hu hv ha h0 hc
  exact h.done u v hu hv ha h0 (by omega)
theorem Rnd.start (adj : Nat → Nat → Bool) (n to : Nat) (h : to < n) : Rnd adj n to ((List.replicate n (-1 : Int)).set to 0) 0 0 0 := by
  have gs := fun v => rep_G n to v h
  refine ⟨by simp, ?_, ?_, ?_, ?_, ?_⟩
  · rw [gs, if_pos rfl]
  · intro v; rw [gs]; split <;> omega
  · intro v; rw [gs]; split <;> omega
  · intro v hv hto h0
    rw [gs, if_neg (fun e => hto e.symm)] at h0
    omega
  · intro u v hu hv ha h0 hc
    omega
theorem Rnd.below (h : Rnd adj n to f r i k) (ht : to < n) : ∀ (m : Nat) (v : Nat), v < n → G f v = (m : Int) → ∀ j : Nat, j ≤ m → (j : Int) ∈ f := by
  intro m
  induction m with
  | zero =>
    intro v hv hm j hj
    obtain rfl : j = 0 := by omega
    have hz := h.zero
    rw [G_at (by rw [h.len]; exact ht)] at hz
    show (0 : Int) ∈ f
    rw [← hz]
    exact List.getElem_mem _
  | succ m ih =>
    intro v hv hm j hj
    by_cases e : j = m + 1
    · subst e
      rw [G_at (by rw [h.len]; exact hv)] at hm
      exact hm ▸ List.getElem_mem _
    · have hto : v ≠ to := by
        rintro rfl
        rw [h.zero] at hm
        omega
      obtain ⟨u, hu, _, h2, h3⟩ := h.pred v hv hto (by omega)
      exact ih u hu (by omega) j (by omega)
theorem Rnd.fin (h : Rnd adj n to f n 0 0) (ht : to < n) : Lv adj n to f := by
  refine ⟨h.len, h.zero, h.low, ?_, h.pred⟩
  intro u v hu hv ha h0
  refine h.done u v hu hv ha h0 (.inl ?_)
  apply Decidable.byContradiction
  intro hc
  have hb := h.below ht (G f u).toNat u hu (by omega)
  have := pig ((G f u).toNat + 1) f (fun j hj => hb j (by omega))
  rw [h.len] at this
  omega
-- ---------------------------------------------------------------- the way
def okn (adj : Nat → Nat → Bool) (f : List Int) (at_ k : Nat) : Bool := decide (G f k = G f at_ - 1) && adj k at_
/-- The first place one step nearer. -/
def nx (adj : Nat → Nat → Bool) (n : Nat) (f : List Int) (a : Nat) : Nat := (List.range n).findIdx (okn adj f a)
theorem nx_ok (h : Lv adj n to f) {a : Nat} (ha : a < n) (hne : a ≠ to) (h0 : 0 ≤ G f a) : nx adj n f a < n ∧ okn adj f a (nx adj n f a) = true ∧ ∀ j, j < nx adj n f a → okn adj f a j = false := by
  obtain ⟨u, hu, h1, h2, h3⟩ := h.pred a ha hne h0
  have hlt : nx adj n f a < (List.range n).length := List.findIdx_lt_length_of_exists ⟨u, List.mem_range.2 hu, by unfold okn; rw [h1, decide_eq_true (by omega)]; rfl⟩
  have hg : okn adj f a ((List.range n)[nx adj n f a]'hlt) = true := List.findIdx_getElem (w := hlt)
  rw [List.getElem_range] at hg
  rw [List.length_range] at hlt
  refine ⟨hlt, hg, fun j hj => ?_⟩
  have := List.not_of_lt_findIdx hj
  rw [List.getElem_range] at this
  simpa using this
/-- The way: its places behind the first one. -/
def way (adj : Nat → Nat → Bool) (n : Nat) (f : List Int) : Nat → Nat → List Nat
  | 0, _ => []
  | m + 1, a => nx adj n f a :: way adj n f m (nx adj n f a)
theorem nx_next (h : Lv adj n to f) {a m : Nat} (ha : a < n) (hm : G f a = ((m + 1 : Nat) : Int)) : a ≠ to ∧ nx adj n f a < n ∧ G f (nx adj n f a) = (m : Int) ∧ adj (nx adj n f a) a = true := by
  have hne : a ≠ to := by rintro rfl; rw [h.zero] at hm; omega
  obtain ⟨h1, h2, _⟩ := nx_ok h ha hne (by omega)
  unfold okn at h2
  rw [Bool.and_eq_true, decide_eq_true_eq] at h2
  exact ⟨hne, h1, by omega, h2.2⟩
theorem at_to (h : Lv adj n to f) {a : Nat} (ha : a < n) (hm : G f a = 0) : a = to := by
  apply Decidable.byContradiction
  intro hne
  obtain ⟨u, _, _, h2, h3⟩ := h.pred a ha hne (by omega)
  omega
theorem way_len : ∀ (m a : Nat), (way adj n f m a).length = m
  | 0, _ => rfl
  | m + 1, a => by rw [way, List.length_cons, way_len m]
theorem way_lt (h : Lv adj n to f) : ∀ (m a : Nat), a < n → G f a = (m : Int) → ∀ x ∈ way adj n f m a, x < n
  | 0, a, _, _, x, hx => by simp [way] at hx
  | m + 1, a, ha, hm, x, hx => by
    obtain ⟨_, h1, h2, _⟩ := nx_next h ha hm
    rw [way] at hx
    rcases List.mem_cons.1 hx with rfl | hx
    · exact h1
    · exact way_lt h m _ h1 h2 x hx
theorem way_adj (h : Lv adj n to f) : ∀ (m a : Nat), a < n → G f a = (m : Int) → ∀ j, j < m → adj (Q (a :: way adj n f m a) (j + 1)) (Q (a :: way adj n f m a) j) = true
  | 0, a, _, _, j, hj => by omega
  | m + 1, a, ha, hm, j, hj => by
    obtain ⟨_, h1, h2, h3⟩ := nx_next h ha hm
    rw [way]
    cases j with
    | zero => exact h3
    | succ j => exact way_adj h m _ h1 h2 j (by omega)
theorem way_last (h : Lv adj n to f) : ∀ (m a : Nat), a < n → G f a = (m : Int) → Q (a :: way adj n f m a) m = to
  | 0, a, ha, hm => at_to h ha hm
  | m + 1, a, ha, hm => by
    obtain ⟨_, h1, h2, h3⟩ := nx_next h ha hm
    rw [way]
    exact way_last h m _ h1 h2
end Go.Proofs.YtodcochnciadjaaDoor.Ev.Bf
