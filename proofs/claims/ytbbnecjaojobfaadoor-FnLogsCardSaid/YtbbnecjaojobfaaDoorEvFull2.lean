/- The operations that make and write memory, held against the model (second part). -/
import Derived.Test.YtbbnecjaojobfaaDoorEvFull
set_option linter.unusedVariables false
set_option linter.unusedSimpArgs false
set_option linter.constructorNameAsVariable false
namespace Go.Proofs.YtbbnecjaojobfaaDoor.Ev
variable {P : Program} {base : Nat} {M : Nat → Prop} {ρ : Rho} {w : World}
/-- A block of the state's own in a place that nothing else names. -/
theorem HR.place {H : Hp} (hH : HR base M ρ H w) {w' : World} {g : Nat} (hb : base ≤ g) (hnM : ¬ M g) (hfree : ∀ (id : Nat) (L : Loc), ρ[id]? = some (some L) → L.g ≠ g) (hsize : w.heap.size ≤ w'.heap.size)
    (old : ∀ g', g' < w.heap.size → g' ≠ g → w'.heap[g']? = w.heap[g']?) {cur : Array Value} {fr : Nat × Nat} {b : Blk} {cap : Nat} (hp : w'.heap[g]? = some (.cells cur b.ty fr)) (hsz : cur.size = cap * b.k) (hk : 0 < b.k) (hro : b.ro = false)
    (hfr : fr = (0, 0) ∨ (b.kd = 2 ∧ cur.size ≤ fr.1)) (hcm : cap ≤ maxLen) (hle : b.es.length ≤ cap) (hek : ∀ (i : Nat) (e : AV), b.es[i]? = some e → e.cells.length = b.k)
    (hc : ∀ (i : Nat) (e : AV) (j : Nat) (c : AV), b.es[i]? = some e → e.cells[j]? = some c → ∃ u, cur[i * b.k + j]? = some u ∧ u.oneCell' = true ∧ VR M w (if b.kd = 0 then ρ else []) c u) :
    HR base M (ρ ++ [some ⟨g, cap, b.k⟩]) (H ++ [some b]) w' := by
  have hM : ∀ g', M g' → w'.heap[g']? = w.heap[g']? := fun g' hg => old g' (hH.mlt g' hg) (fun e => hnM (e ▸ hg))
  have lt : ∀ {id : Nat} {L : Loc}, ρ[id]? = some (some L) → L.g < w.heap.size := fun h => by
    obtain ⟨b', hb'⟩ := hH.back h
    exact (hH.blk _ b' _ hb' h).lt
  refine { len := by simp [hH.len], dead := fun id => ?_, blk := fun id b' L hb' hL => ?_, inj := fun id id' L L' h1 h2 hne => ?_, mlt := fun g' hg => by have := hH.mlt g' hg; omega }
  · rw [getElem?_snoc, getElem?_snoc, hH.dead]
    simp
  · rcases (getElem?_snoc _ _ _ _).1 hb' with h1 | ⟨rfl, h1⟩
    · rcases (getElem?_snoc _ _ _ _).1 hL with h2 | ⟨h2, _⟩
      · have q := hH.blk id b' L h1 h2
        obtain ⟨cur', fr', a1, a2, a3, a4⟩ := q.cur
        exact { lo := q.lo, kk := q.kk, kp := q.kp, ro := q.ro, capm := q.capm, len := q.len, ek := q.ek,
                cur := ⟨cur', fr', by rw [old _ q.lt (hfree id L h2)]; exact a1, a2, a3, fun i e j c he hcc => by
                  obtain ⟨u, c1, c2, c3⟩ := a4 i e j c he hcc
                  refine ⟨u, c1, c2, ?_⟩
                  split
                  · rename_i hk0; rw [if_pos hk0] at c3; exact c3.mono (fun _ h => h) hM (Rle.append _ _)
                  · rename_i hk0; rw [if_neg hk0] at c3; exact c3.mono (fun _ h => h) hM (Rle.refl _)⟩ }
      · have := (List.getElem?_eq_some_iff.1 h1).1
        rw [hH.len] at this
        omega
    · cases h1
      have hL' : some L = some (⟨g, cap, b.k⟩ : Loc) := by
        rcases (getElem?_snoc _ _ _ _).1 hL with h2 | ⟨_, h2⟩
        · have := (List.getElem?_eq_some_iff.1 h2).1
          rw [← hH.len] at this
          omega
        · exact h2.symm
      cases hL'
      exact { lo := hb, kk := rfl, kp := hk, ro := ⟨fun h => absurd (hro.symm.trans h) (by simp), fun h => absurd h hnM⟩, capm := hcm, len := hle, ek := hek,
              cur := ⟨cur, fr, hp, hsz, hfr, fun i e j c he hcc => by
                obtain ⟨u, c1, c2, c3⟩ := hc i e j c he hcc
                refine ⟨u, c1, c2, ?_⟩
                split
                · rename_i hk0; rw [if_pos hk0] at c3; exact c3.mono (fun _ h => h) hM (Rle.append _ _)
                · rename_i hk0; rw [if_neg hk0] at c3; exact c3.mono (fun _ h => h) hM (Rle.refl _)⟩ }
  · rcases (getElem?_snoc _ _ _ _).1 h1 with a1 | ⟨a1, a2⟩ <;> rcases (getElem?_snoc _ _ _ _).1 h2 with b1 | ⟨b1, b2⟩
    · exact hH.inj id id' L L' a1 b1 hne
    · cases b2; exact hfree id L a1
    · cases a2; exact fun h => hfree id' L' b1 h.symm
    · omega
theorem Rle.kill (ρ : Rho) (id : Nat) : Rle ρ (ρ.set id none) := by
  intro id' o h
  rw [List.getElem?_set]
  by_cases hid : id = id'
  · subst hid
    rw [if_pos rfl, if_pos (List.getElem?_eq_some_iff.1 h).1]
    exact .inr rfl
  · rw [if_neg hid]; exact .inl h
/-- A name given up. -/
theorem HR.kill {H : Hp} (hH : HR base M ρ H w) (id : Nat) : HR base M (ρ.set id none) (H.set id none) w := by
  refine { len := by simp [hH.len], dead := fun id' => ?_, blk := fun id' b L hb hL => ?_, inj := fun a b L L' h1 h2 hne => ?_, mlt := hH.mlt }
  · rw [List.getElem?_set, List.getElem?_set]
    by_cases hid : id = id'
    · subst hid
      rw [if_pos rfl, if_pos rfl, hH.len]
      by_cases hl : id < ρ.length <;> simp [hl]
    · rw [if_neg hid, if_neg hid]; exact hH.dead id'
  · rw [List.getElem?_set] at hb hL
    by_cases hid : id = id'
    · rw [if_pos hid] at hb; split at hb <;> cases hb
    · rw [if_neg hid] at hb hL
      have q := hH.blk id' b L hb hL
      obtain ⟨cur, fr, a1, a2, a3, a4⟩ := q.cur
      exact { lo := q.lo, kk := q.kk, kp := q.kp, ro := q.ro, capm := q.capm, len := q.len, ek := q.ek,
              cur := ⟨cur, fr, a1, a2, a3, fun i e j c he hc => by
                obtain ⟨u, c1, c2, c3⟩ := a4 i e j c he hc
                refine ⟨u, c1, c2, ?_⟩
                split
                · rename_i hk0; rw [if_pos hk0] at c3; exact c3.mono (fun _ h => h) (fun _ _ => rfl) (Rle.kill _ _)
                · rename_i hk0; rw [if_neg hk0] at c3; exact c3⟩ }
  · rw [List.getElem?_set] at h1 h2
    split at h1
    · split at h1 <;> cases h1
    · split at h2
      · split at h2 <;> cases h2
      · exact hH.inj a b L L' h1 h2 hne
theorem kill_some {H : Hp} {id id' : Nat} {b : Blk} (h : (H.set id none)[id']? = some (some b)) : id' ≠ id ∧ H[id']? = some (some b) := by
  rw [List.getElem?_set] at h
  by_cases hid : id = id'
  · rw [if_pos hid] at h; split at h <;> cases h
  · rw [if_neg hid] at h; exact ⟨fun e => hid e.symm, h⟩
theorem killρ_some {ρ : Rho} {id id' : Nat} {L : Loc} (h : (ρ.set id none)[id']? = some (some L)) : id' ≠ id ∧ ρ[id']? = some (some L) := by
  rw [List.getElem?_set] at h
  by_cases hid : id = id'
  · rw [if_pos hid] at h; split at h <;> cases h
  · rw [if_neg hid] at h; exact ⟨fun e => hid e.symm, h⟩
-- ---------------------------------------------------------------- appends
theorem run_append_empty {t ty e : TypeId} {i : TypeInfo} (ht : P.underlying t = some (.slice e)) (hi : P.info? e = some i) (A B : Option Addr) (n c c' : Nat) (hn : n ≤ c) :
    (Builtin.append_ #[t, t] ty #[.slice A n c, .slice B 0 c']).run P w = .ok (.slice A n c) w := by
  cases A <;> cases B <;> simp [Builtin.append_, run_und ht, sizeOf, typeInfo, hi, Builtin.lenOf, hn, Builtin.firstCells, loadCells, loadCellsFrom, storeCells]
/-- A row's cells, in a list. -/
theorem row_cells {b o k : Nat} {xs : List AV} (hk : 0 < k) (h : ∀ (i : Nat) (e : AV), xs[i]? = some e → e.cells.length = k ∧ CA M w [] b (o + i * k) e.cells) :
    ∃ news : List Value, news.length = xs.length * k ∧ (∀ (j : Nat) (u : Value), news[j]? = some u → w.cell? ⟨b, o + j, none⟩ = some u ∧ u.oneCell' = true) ∧
      ∀ (i : Nat) (e : AV) (j : Nat) (c : AV), xs[i]? = some e → e.cells[j]? = some c → ∃ u, news[i * k + j]? = some u ∧ u.oneCell' = true ∧ VR M w [] c u := by
  have cell : ∀ j, j < xs.length * k → ∃ u, w.cell? ⟨b, o + j, none⟩ = some u ∧ u.oneCell' = true := by
    intro j hj
    have hi : j / k < xs.length := (Nat.div_lt_iff_lt_mul hk).2 hj
    obtain ⟨h1, h2⟩ := h (j / k) _ (List.getElem?_eq_getElem hi)
    have hjk : j % k < (xs[j / k]).cells.length := by rw [h1]; exact Nat.mod_lt _ hk
    obtain ⟨u, a1, a2, _⟩ := h2 (j % k) _ (List.getElem?_eq_getElem hjk)
    refine ⟨u, ?_, a2⟩
    have : j / k * k + j % k = j := by rw [Nat.mul_comm]; exact Nat.div_add_mod j k
    rw [Nat.add_assoc, this] at a1
    exact a1
  refine ⟨(List.range (xs.length * k)).map fun j => (w.cell? ⟨b, o + j, none⟩).getD undef, by simp, fun j u hj => ?_, fun i e j c he hc => ?_⟩
  · rw [List.getElem?_map] at hj
    cases hr : (List.range (xs.length * k))[j]? with
    | none => rw [hr] at hj; cases hj
    | some j' =>
      have hlt := (List.getElem?_eq_some_iff.1 hr).1
      rw [List.getElem?_range (by simpa using hlt)] at hr
      cases hr
      rw [List.getElem?_range (by simpa using hlt)] at hj
      cases hj
      obtain ⟨u, a1, a2⟩ := cell j (by simpa using hlt)
      show _ = some ((w.cell? ⟨b, o + j, none⟩).getD undef) ∧ ((w.cell? ⟨b, o + j, none⟩).getD undef).oneCell' = true
      rw [a1]
      exact ⟨rfl, a2⟩
  · obtain ⟨h1, h2⟩ := h i e he
    obtain ⟨u, a1, a2, a3⟩ := h2 j c hc
    refine ⟨u, ?_, a2, a3⟩
    have hi : i < xs.length := (List.getElem?_eq_some_iff.1 he).1
    have hj : j < k := by rw [← h1]; exact (List.getElem?_eq_some_iff.1 hc).1
    have hlt : i * k + j < xs.length * k := by
      have : (i + 1) * k ≤ xs.length * k := Nat.mul_le_mul_right k hi
      rw [Nat.add_mul] at this
      omega
    rw [List.getElem?_map, List.getElem?_range hlt, Option.map_some, ← Nat.add_assoc, a1]
    rfl
theorem append_cells {k : Nat} {xs ys : List AV} {us vs : List Value} (hl : us.length = xs.length * k) (hx : ∀ (i : Nat) (e : AV) (j : Nat) (c : AV), xs[i]? = some e → e.cells[j]? = some c → ∃ u, us[i * k + j]? = some u ∧ u.oneCell' = true ∧ VR M w [] c u)
    (hy : ∀ (i : Nat) (e : AV) (j : Nat) (c : AV), ys[i]? = some e → e.cells[j]? = some c → ∃ u, vs[i * k + j]? = some u ∧ u.oneCell' = true ∧ VR M w [] c u) :
    ∀ (i : Nat) (e : AV) (j : Nat) (c : AV), (xs ++ ys)[i]? = some e → e.cells[j]? = some c → ∃ u, (us ++ vs)[i * k + j]? = some u ∧ u.oneCell' = true ∧ VR M w [] c u := by
  intro i e j c he hc
  by_cases hi : i < xs.length
  · rw [List.getElem?_append_left hi] at he
    obtain ⟨u, a1, a2, a3⟩ := hx i e j c he hc
    exact ⟨u, by rw [List.getElem?_append_left (List.getElem?_eq_some_iff.1 a1).1]; exact a1, a2, a3⟩
  · rw [List.getElem?_append_right (by omega)] at he
    obtain ⟨u, a1, a2, a3⟩ := hy _ e j c he hc
    have hge : xs.length * k ≤ i * k := Nat.mul_le_mul_right k (by omega)
    refine ⟨u, ?_, a2, a3⟩
    rw [List.getElem?_append_right (by omega), hl]
    rw [Nat.sub_mul] at a1
    rwa [show i * k + j - xs.length * k = i * k - xs.length * k + j by omega]
/-- What a full operation owes. -/
def Does (P : Program) (base : Nat) (M : Nat → Prop) (ρ : Rho) (H : Hp) (w : World) (S : Sem Value) (av : AV) (H' : Hp) : Prop :=
  ∃ v w' M' ρ', S.run P w = .ok v w' ∧ HR base M' ρ' H' w' ∧ Ext M ρ H w M' ρ' H' w' ∧ VR M' w' ρ' av v
theorem setRow_world (w : World) (g : Nat) (cs : Array Value) : (w.setRow g cs).os = w.os ∧ (w.setRow g cs).tape = w.tape ∧ (w.setRow g cs).output = w.output ∧ (w.setRow g cs).heap.size = w.heap.size := by
  refine ⟨rfl, rfl, rfl, ?_⟩
  simp [World.setRow]
theorem append_sound {H : Hp} (hH : HR base M ρ H w) (hB : base ≤ w.heap.size) {t ty e : TypeId} {i : TypeInfo} {z : Value} (ht : P.underlying t = some (.slice e)) (hi : P.info? e = some i) (hz : i.zero = some z) (hzs : z.cells.size = i.size) (hk0 : 0 < i.size)
    {A X r : AV} {va vx : Value} {H' : Hp} (ha : VR M w ρ A va) (hx : VR M w ρ X vx) (h : appendA H e i.size i.bytes A X = some (r, H')) : Does P base M ρ H w (Builtin.append_ #[t, t] ty #[va, vx]) r H' := by
  unfold appendA at h
  cases hq : rowElems H X with
  | none => rw [hq] at h; cases h
  | some q =>
    obtain ⟨k', xs⟩ := q
    rw [hq] at h
    obtain ⟨Bx, cx, rfl, hrow⟩ := row_read hH hx hq
    simp only [appendL] at h
    split at h
    · rename_i he
      have hnil : xs = [] := by simpa using he
      subst hnil
      unfold appendN at h
      split at h
      · cases h
        obtain rfl := vr_v ha
        exact ⟨_, w, M, ρ, run_append_empty ht hi none Bx 0 0 cx (Nat.le_refl _), hH, Ext.refl _ _ _ _, .v⟩
      · rename_i id n
        cases hb : hget H id with
        | none => rw [hb] at h; cases h
        | some b =>
          rw [hb] at h
          cases h
          obtain ⟨L, Aa, c, hL, h1, h2, hA, rfl⟩ := live_sl hH ha hb
          exact ⟨_, w, M, ρ, run_append_empty ht hi Aa Bx n c cx h2, hH, Ext.refl _ _ _ _, ha⟩
      · cases h
    · rename_i he
      have hne : xs ≠ [] := fun hn => he (by simp [hn])
      have hm0 : 0 < xs.length := List.length_pos_iff.2 hne
      split at h
      · cases h
      · rename_i hkk
        have hkk : k' = i.size := Classical.not_not.1 hkk
        subst hkk
        obtain ⟨ax, rfl, hsx, hall⟩ := hrow hne
        obtain ⟨news, hnl, hnc, hnr⟩ := row_cells hk0 hall
        have hadd : ∀ j u, news[j]? = some u → w.cell? (ax.add j) = some u := fun j u hu => by rw [add_spot hsx]; exact (hnc j u hu).1
        have hone : ∀ u ∈ news, u.oneCell' = true := fun u hu => by obtain ⟨j, hj⟩ := List.getElem?_of_mem hu; exact (hnc j u hj).2
        unfold appendM at h
        split at h
        · split at h
          · rename_i hbd
            cases h
            obtain rfl := vr_v ha
            have hrun := run_append_nil (P := P) w t ty e i z ht hi hz ax xs.length cx news hnl hadd hm0 (by omega) (by omega)
            have hge := grownCap_ge w xs.length 0 e
            have hcl : grownCap w xs.length 0 e ≤ maxLen := grownCap_le_maxLen w xs.length 0 e (by unfold maxLen; omega)
            have hcs : (news.toArray ++ Builtin.zeroCells z.cells (grownCap w xs.length 0 e - xs.length)).size = grownCap w xs.length 0 e * i.size := by
              simp only [Array.size_append, List.size_toArray, size_zeroCells, hzs, hnl, ← Nat.add_mul]
              congr 1
              omega
            obtain ⟨p1, p2⟩ := HR.push (w' := w.drew.alloc (.cells (news.toArray ++ Builtin.zeroCells z.cells (grownCap w xs.length 0 e - xs.length)) e)) (fr := (0, 0)) (b := ⟨e, i.size, 1, false, xs⟩) (cap := grownCap w xs.length 0 e)
              hH hB rfl rfl rfl rfl hcs hk0 rfl (.inl rfl) hcl hge (fun x el hx => (hall x el hx).1) (fun x el j c hx hc => by
                obtain ⟨u, c1, c2, c3⟩ := hnr x el j c hx hc
                refine ⟨u, ?_, c2, c3⟩
                have hlt := (List.getElem?_eq_some_iff.1 c1).1
                rw [Array.getElem?_append_left (by simpa using hlt)]
                simpa using c1)
            refine ⟨_, _, _, _, hrun, p1, p2, ?_⟩
            have := VR.sl (M := M) (w := w.drew.alloc (.cells (news.toArray ++ Builtin.zeroCells z.cells (grownCap w xs.length 0 e - xs.length)) e)) (ρ := ρ ++ [some ⟨w.heap.size, grownCap w xs.length 0 e, i.size⟩]) (id := H.length) (off := 0) (len := xs.length) (c := grownCap w xs.length 0 e)
              (A := some ⟨w.heap.size, 0, none⟩) _ (push_ref hH _) (Nat.zero_add _) hge (.inr (by simp))
            exact this
          · cases h
        · rename_i id n
          cases hb : hget H id with
          | none => rw [hb] at h; cases h
          | some b =>
            rw [hb] at h
            simp only [appendO] at h
            split at h
            · rename_i hcd
              obtain ⟨hkd, hro, hty, hbk, hnl', hbd1, hbd2⟩ := hcd
              cases h
              have hb' := hget_some hb
              obtain ⟨L, Aa, c, hL, h1, h2, hA, rfl⟩ := live_sl hH ha hb
              have hA' : Aa = some ⟨L.g, 0, none⟩ := by
                rcases hA with hA | hA
                · exact absurd rfl hA.1
                · rw [hA]; simp
              subst hA'
              have hLc : c = L.cap := by omega
              subst hLc
              have q := hH.blk id b L hb' hL
              obtain ⟨cur, fr, a1, a2, a3, a4⟩ := q.cur
              have hfr : fr = (0, 0) := by
                rcases a3 with a3 | a3
                · exact a3
                · omega
              subst hfr
              rw [hty] at a1
              rw [hbk] at a2 a4
              have hnM := hH.notM (⟨id, b, L, hb', hro, hL, rfl⟩ : Wr ρ H L.g)
              have hkill := hH.kill id
              have hfree : ∀ (id' : Nat) (L' : Loc), (ρ.set id none)[id']? = some (some L') → L'.g ≠ L.g := fun id' L' h' => by
                obtain ⟨e1, e2⟩ := killρ_some h'
                exact hH.inj id' id L' L e2 hL e1
              have hoc : ∀ (x : Nat) (el : AV) (j : Nat) (cc : AV), (b.es.take n)[x]? = some el → el.cells[j]? = some cc → ∃ u, (cur.toList.take (n * i.size))[x * i.size + j]? = some u ∧ u.oneCell' = true ∧ VR M w [] cc u := by
                intro x el j cc hx hc
                rw [List.getElem?_take] at hx
                split at hx
                · rename_i hxn
                  obtain ⟨u, c1, c2, c3⟩ := a4 x el j cc hx hc
                  rw [if_neg (by omega)] at c3
                  refine ⟨u, ?_, c2, c3⟩
                  have hj : j < i.size := by rw [← hbk, ← q.ek x el hx]; exact (List.getElem?_eq_some_iff.1 hc).1
                  have hlt : x * i.size + j < n * i.size := by
                    have : (x + 1) * i.size ≤ n * i.size := Nat.mul_le_mul_right _ hxn
                    rw [Nat.add_mul] at this
                    omega
                  rw [List.getElem?_take, if_pos hlt]
                  simpa using c1
                · cases hx
              have hnc : n ≤ L.cap := h2
              have htl : (cur.toList.take (n * i.size)).length = (b.es.take n).length * i.size := by
                have : n * i.size ≤ L.cap * i.size := Nat.mul_le_mul_right _ hnc
                simp only [List.length_take, Array.length_toList, a2]
                rw [Nat.min_eq_left this, Nat.min_eq_left hnl']
              have hcells := append_cells (k := i.size) htl hoc hnr
              have hek : ∀ (x : Nat) (el : AV), (b.es.take n ++ xs)[x]? = some el → el.cells.length = i.size := by
                intro x el hx
                by_cases hxl : x < (b.es.take n).length
                · rw [List.getElem?_append_left hxl, List.getElem?_take] at hx
                  split at hx
                  · rw [q.ek x el hx, hbk]
                  · cases hx
                · rw [List.getElem?_append_right (by omega)] at hx
                  exact (hall _ el hx).1
              have hlen2 : (b.es.take n ++ xs).length = n + xs.length := by simp; omega
              by_cases hroom : n + xs.length ≤ L.cap
              · have hfit : n * i.size + news.length ≤ cur.size := by rw [hnl, a2, ← Nat.add_mul]; exact Nat.mul_le_mul_right _ hroom
                have hrun := run_append_room (P := P) w t ty e i ht hi L.g n L.cap cur a1 ax xs.length cx news hnl hadd hone hroom hfit
                obtain ⟨s1, s2, s3, s4⟩ := setRow_world w L.g (cur.toList.take (n * i.size) ++ news ++ cur.toList.drop (n * i.size + news.length)).toArray
                have hnew : (w.setRow L.g (cur.toList.take (n * i.size) ++ news ++ cur.toList.drop (n * i.size + news.length)).toArray).heap[L.g]? = some (.cells (cur.toList.take (n * i.size) ++ news ++ cur.toList.drop (n * i.size + news.length)).toArray e (0, 0)) := setRow_heap w L.g cur _ e (0, 0) a1
                have old : ∀ g', g' < w.heap.size → g' ≠ L.g → (w.setRow L.g (cur.toList.take (n * i.size) ++ news ++ cur.toList.drop (n * i.size + news.length)).toArray).heap[g']? = w.heap[g']? := fun g' _ hne => setRow_other w L.g g' _ hne
                have p1 := HR.place (w' := w.setRow L.g (cur.toList.take (n * i.size) ++ news ++ cur.toList.drop (n * i.size + news.length)).toArray) (b := ⟨e, i.size, 1, false, b.es.take n ++ xs⟩) (cap := L.cap) (fr := (0, 0)) hkill q.lo hnM hfree (by omega) old hnew
                  (by simp only [List.size_toArray, List.length_append, List.length_take, List.length_drop, Array.length_toList]; omega) hk0 rfl (.inl rfl) q.capm (by rw [hlen2]; exact hroom) hek
                  (fun x el j cc hx hc => by
                    obtain ⟨u, c1, c2, c3⟩ := hcells x el j cc hx hc
                    refine ⟨u, ?_, c2, c3⟩
                    have hlt := (List.getElem?_eq_some_iff.1 c1).1
                    simp only [List.getElem?_toArray]
                    rw [List.getElem?_append_left hlt]
                    exact c1)
                refine ⟨_, _, _, _, hrun, p1, ⟨s1, s2, s3, by omega, fun g' hg hn => old g' hg (fun e => hn (e ▸ ⟨id, b, L, hb', hro, hL, rfl⟩)), fun _ h => h, fun _ h => .inl h, fun g' hg => ?_, (Rle.kill ρ id).trans (Rle.append _ _)⟩, ?_⟩
                · obtain ⟨id', b', L', e1, e2, e3, rfl⟩ := hg
                  rcases (getElem?_snoc _ _ _ _).1 e3 with f3 | ⟨f3, f4⟩
                  · obtain ⟨g1, g2⟩ := killρ_some f3
                    rcases (getElem?_snoc _ _ _ _).1 e1 with f1 | ⟨f1, _⟩
                    · exact .inl ⟨id', b', L', (kill_some f1).2, e2, g2, rfl⟩
                    · have := (List.getElem?_eq_some_iff.1 g2).1
                      rw [← hH.len] at this
                      simp at f1
                      omega
                  · cases f4
                    exact .inl ⟨id, b, L, hb', hro, hL, rfl⟩
                · have hlen3 : (H.set id none).length = H.length := by simp
                  have hr := push_ref hkill (⟨L.g, L.cap, i.size⟩ : Loc)
                  rw [hlen3] at hr
                  exact VR.sl (A := some ⟨L.g, 0, none⟩) _ hr (Nat.zero_add _) hroom (.inr (by simp))
              · have holds : ∀ j u, (cur.toList.take (n * i.size))[j]? = some u → w.cell? ((⟨L.g, 0, none⟩ : Addr).add j) = some u := by
                  intro j u hu
                  rw [add_none, Nat.zero_add, cell_of_row w L.g j cur e (0, 0) a1]
                  rw [List.getElem?_take] at hu
                  split at hu
                  · simpa using hu
                  · cases hu
                have hlo : (cur.toList.take (n * i.size)).length = n * i.size := by rw [htl]; simp; rw [Nat.min_eq_left hnl']
                have hrun := run_append_grow (P := P) w t ty e i z ht hi hz ⟨L.g, 0, none⟩ n L.cap (cur.toList.take (n * i.size)) hlo holds ax xs.length cx news hnl hadd (by omega) (by omega) (growslice_fits (by omega) (by omega))
                have hge := grownCap_ge w (n + xs.length) L.cap e
                have hcl : grownCap w (n + xs.length) L.cap e ≤ maxLen := grownCap_le_maxLen w _ _ e (by unfold maxLen; omega)
                have hnewlt : ∀ (id' : Nat) (L' : Loc), (ρ.set id none)[id']? = some (some L') → L'.g ≠ w.heap.size := fun id' L' h' => by
                  obtain ⟨b', hb2⟩ := hkill.back h'
                  have := (hkill.blk _ b' _ hb2 h').lt
                  omega
                have hcs : ((cur.toList.take (n * i.size)).toArray ++ news.toArray ++ Builtin.zeroCells z.cells (grownCap w (n + xs.length) L.cap e - (n + xs.length))).size = grownCap w (n + xs.length) L.cap e * i.size := by
                  simp only [Array.size_append, List.size_toArray, size_zeroCells, hzs, hnl, hlo, ← Nat.add_mul]
                  congr 1
                  omega
                obtain ⟨p1, p2⟩ := HR.push (w' := w.drew.alloc (.cells ((cur.toList.take (n * i.size)).toArray ++ news.toArray ++ Builtin.zeroCells z.cells (grownCap w (n + xs.length) L.cap e - (n + xs.length))) e)) (fr := (0, 0)) (b := ⟨e, i.size, 1, false, b.es.take n ++ xs⟩) (cap := grownCap w (n + xs.length) L.cap e)
                  hkill hB rfl rfl rfl rfl hcs hk0 rfl (.inl rfl) hcl (by rw [hlen2]; exact hge) hek (fun x el j cc hx hc => by
                    obtain ⟨u, c1, c2, c3⟩ := hcells x el j cc hx hc
                    refine ⟨u, ?_, c2, c3⟩
                    have hlt := (List.getElem?_eq_some_iff.1 c1).1
                    rw [Array.getElem?_append_left (by simpa using hlt), List.append_toArray]
                    simpa using c1)
                have hkw : ∀ g', Wr (ρ.set id none) (H.set id none) g' → Wr ρ H g' := by
                  rintro g' ⟨id', b', L', e1, e2, e3, rfl⟩
                  exact ⟨id', b', L', (kill_some e1).2, e2, (killρ_some e3).2, rfl⟩
                refine ⟨_, _, _, _, hrun, p1, ⟨p2.os, p2.tape, p2.output, p2.size, fun g' hg hn => p2.keep g' hg (fun hw => hn (hkw g' hw)), p2.mle, fun g' hg => (p2.mnew g' hg).imp (fun h => h) (Or.imp (hkw g') fun h => h), fun g' hg => (p2.wr g' hg).imp (hkw g') fun h => h, (Rle.kill ρ id).trans p2.rle⟩, ?_⟩
                have hlen3 : (H.set id none).length = H.length := by simp
                have hr := push_ref hkill (⟨w.heap.size, grownCap w (n + xs.length) L.cap e, i.size⟩ : Loc)
                rw [hlen3] at hr
                exact VR.sl (A := some ⟨w.heap.size, 0, none⟩) _ hr (Nat.zero_add _) hge (.inr (by simp))
            · cases h
        · cases h
end Go.Proofs.YtbbnecjaojobfaaDoor.Ev
