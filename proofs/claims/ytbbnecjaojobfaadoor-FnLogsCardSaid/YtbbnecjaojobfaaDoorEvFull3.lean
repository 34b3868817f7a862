/- The operations that make and write memory, held against the model (third part). -/
import Derived.Test.YtbbnecjaojobfaaDoorEvFull2
set_option linter.unusedVariables false
set_option linter.unusedSimpArgs false
set_option linter.unnecessarySimpa false
set_option linter.constructorNameAsVariable false
namespace Go.Proofs.YtbbnecjaojobfaaDoor.Ev
variable {P : Program} {base : Nat} {M : Nat → Prop} {ρ : Rho} {w : World}
theorem elemOk_some {k : Nat} {a : AV} (h : elemOk k a = true) : a.cells.length = k ∧ allOne a.cells = true := by
  unfold elemOk at h
  simp only [Bool.and_eq_true, beq_iff_eq] at h
  exact h
theorem run_newVar (t : TypeId) (v : Value) (w : World) : (do pure (.pointer (some (← newVar t v))) : Sem Value).run P w = .ok (.pointer (some ⟨w.heap.size, 0, none⟩)) (w.alloc (.cells v.cells t)) := by
  simp [newVar, newRow]
theorem var_sound {H : Hp} (hH : HR base M ρ H w) (hB : base ≤ w.heap.size) {t : TypeId} {k : Nat} (hk : 0 < k) {e : AV} {v : Value} (hl : e.cells.length = k) (hrc : RC M w ρ e.cells v.cells.toList) :
    Does P base M ρ H w (do pure (.pointer (some (← newVar t v)))) (.ptr H.length 0 0) (H ++ [some ⟨t, k, 0, false, [e]⟩]) := by
  have hsz : v.cells.size = k := by have := hrc.len; simp at this; omega
  obtain ⟨p1, p2⟩ := HR.push (w' := w.alloc (.cells v.cells t)) (fr := (0, 0)) (b := ⟨t, k, 0, false, [e]⟩) (cap := 1) hH hB rfl rfl rfl rfl (by simp [hsz]) hk rfl (.inl rfl) (by unfold maxLen; omega) (by simp)
    (fun i x hx => by
      cases i with
      | zero => simp at hx; subst hx; exact hl
      | succ i => simp at hx)
    (fun i x j c hx hc => by
      cases i with
      | zero =>
        simp at hx
        subst hx
        have hj : j < v.cells.size := by rw [hsz, ← hl]; exact (List.getElem?_eq_some_iff.1 hc).1
        have hv : v.cells[j]? = some v.cells[j] := Array.getElem?_eq_getElem hj
        have hv' : v.cells.toList[j]? = some v.cells[j] := by rw [Array.getElem?_toList]; exact hv
        refine ⟨v.cells[j], by simpa using hv, hrc.one _ (List.mem_of_getElem? hv'), ?_⟩
        exact hrc.all j c _ hc hv'
      | succ i => simp at hx)
  refine ⟨_, _, _, _, run_newVar t v w, p1, p2, ?_⟩
  have := VR.ptr (M := M) (w := w.alloc (.cells v.cells t)) (i := 0) (j := 0) _ (push_ref hH (⟨w.heap.size, 1, k⟩ : Loc))
  simpa using this
theorem alloc_sound {H : Hp} (hH : HR base M ρ H w) (hB : base ≤ w.heap.size) {t : TypeId} {k : Nat} (hk : szOf P t = some k) {zs : List AV} (hz : zeroOf P t = some zs) :
    Does P base M ρ H w (Instr.alloc t true (.tuple #[])) (.ptr H.length 0 0) (H ++ [some ⟨t, k, 0, false, [.agg zs]⟩]) := by
  obtain ⟨i, hi, rfl, hk0⟩ := szOf_some hk
  obtain ⟨i', z, hi', hiz, hsz, rfl, hone⟩ := zeroOf_some hz
  rw [hi] at hi'
  cases hi'
  have hvals : RC M w ρ (z.cells.toList.map .v) z.cells.toList := RC.vals hone
  obtain ⟨v, w', M', ρ', h1, h2, h3, h4⟩ := var_sound (P := P) (t := t) hH hB hk0 (e := .agg (z.cells.toList.map .v)) (v := z) (by simp [AV.cells, hsz]) hvals
  refine ⟨v, w', M', ρ', ?_, h2, h3, h4⟩
  rw [← h1]
  simp [Instr.alloc, zeroValue, typeInfo, hi, hiz]
theorem box_sound {H : Hp} (hH : HR base M ρ H w) (hB : base ≤ w.heap.size) {t : TypeId} {k : Nat} (hk : szOf P t = some k) {A r : AV} {va : Value} (ha : VR M w ρ A va) {H' : Hp} (h : boxA t k H A = some (r, H')) :
    Does P base M ρ H w (Instr.box t va) r H' := by
  obtain ⟨i, hi, rfl, hk0⟩ := szOf_some hk
  unfold boxA at h
  split at h
  · rename_i hok
    cases h
    obtain ⟨h1, h2⟩ := elemOk_some hok
    exact var_sound hH hB hk0 h1 (RC.cells ha h2)
  · cases h
-- ---------------------------------------------------------------- stores
theorem setCells_heap (g : Nat) (t : TypeId) (fr : Nat × Nat) : ∀ (vs : List Value) (o : Nat) (w : World) (cur : Array Value), w.heap[g]? = some (.cells cur t fr) → o + vs.length ≤ cur.size →
    ∃ cur', (w.setCells g o vs).heap[g]? = some (.cells cur' t fr) ∧ cur'.toList = cur.toList.take o ++ vs ++ cur.toList.drop (o + vs.length) ∧ (∀ g', g' ≠ g → (w.setCells g o vs).heap[g']? = w.heap[g']?) ∧
      (w.setCells g o vs).os = w.os ∧ (w.setCells g o vs).tape = w.tape ∧ (w.setCells g o vs).output = w.output ∧ (w.setCells g o vs).heap.size = w.heap.size
  | [], o, w, cur, h, _ => ⟨cur, h, by simp, fun _ _ => rfl, rfl, rfl, rfl, rfl⟩
  | v :: vs, o, w, cur, h, hl => by
    simp only [List.length_cons] at hl
    have h1 : (w.setCell ⟨g, o, none⟩ v).heap[g]? = some (.cells (cur.setIfInBounds o v) t fr) := by
      simp only [World.setCell, Array.getElem?_modify, if_true, h, Option.map_some]
      rfl
    obtain ⟨cur', a1, a2, a3, a4, a5, a6, a7⟩ := setCells_heap g t fr vs (o + 1) (w.setCell ⟨g, o, none⟩ v) (cur.setIfInBounds o v) h1 (by simp; omega)
    refine ⟨cur', a1, ?_, fun g' hg => ?_, a4, a5, a6, ?_⟩
    · rw [a2]
      simp only [Array.toList_setIfInBounds, List.length_cons]
      have hlt : o < cur.toList.length := by simp; omega
      rw [List.take_succ_eq_append_getElem (by simpa using hlt), List.drop_set_of_lt (by omega), List.take_set_of_le (Nat.le_refl _), show o + 1 + vs.length = o + (vs.length + 1) by omega]
      simp
    · rw [show w.setCells g o (v :: vs) = (w.setCell ⟨g, o, none⟩ v).setCells g (o + 1) vs from rfl, a3 g' hg]
      exact RowKit.Below.heap_setCell w ⟨g, o, none⟩ v g' hg
    · rw [show w.setCells g o (v :: vs) = (w.setCell ⟨g, o, none⟩ v).setCells g (o + 1) vs from rfl, a7]
      simp [World.setCell]
theorem partsOf_some {k : Nat} {ag : Bool} {a : AV} {cs : List AV} (h : partsOf k ag a = some cs) : cs.length = k ∧ allOne cs = true ∧ ∀ {M : Nat → Prop} {w : World} {ρ : Rho} {v : Value}, VR M w ρ a v → RC M w ρ cs v.cells.toList := by
  unfold partsOf at h
  split at h
  · rename_i cs'
    split at h
    · rename_i hc
      cases h
      exact ⟨hc.1, hc.2, fun hv => RC.cells hv (by simpa [AV.cells] using hc.2)⟩
    · cases h
  · split at h
    · rename_i hc
      cases h
      refine ⟨by simpa using hc.1.symm, by simp [allOne, hc.2], fun {M w ρ v} hv => ?_⟩
      have hcells : a.cells = [a] := by cases a <;> first | rfl | (simp [AV.one] at hc; done)
      have := RC.cells hv (by rw [hcells]; simp [allOne, hc.2])
      rwa [hcells] at this
    · cases h
  · cases h
theorem putE_cells {e : AV} {j : Nat} {cs : List AV} (hl : j + cs.length ≤ e.cells.length) (h0 : 0 < cs.length) (ho : allOne cs = true) : (putE e j cs).cells = e.cells.take j ++ cs ++ e.cells.drop (j + cs.length) := by
  have single : e.cells = [e] → (∀ x, e ≠ .agg x) → (putE e j cs).cells = e.cells.take j ++ cs ++ e.cells.drop (j + cs.length) := by
    intro he hne
    rw [he] at hl ⊢
    simp at hl
    match cs, h0, hl, ho with
    | [c], _, hl, ho =>
      have hj : j = 0 := by simp at hl; omega
      subst hj
      have hc : c.cells = [c] := by
        simp [allOne] at ho
        cases c <;> first | rfl | (simp [AV.one] at ho; done)
      have : putE e 0 [c] = c := by cases e <;> first | rfl | exact absurd rfl (hne _)
      rw [this, hc]
      simp
    | c :: d :: r, _, hl, _ => simp only [List.length_cons] at hl; omega
  cases e with
  | agg x => rfl
  | _ => exact single rfl (fun x h => by cases h)
theorem elem_apart {i i' k j j' n : Nat} (h : i' ≠ i) (hj : j' < k) (hn : j + n ≤ k) : i' * k + j' < i * k + j ∨ i * k + j + n ≤ i' * k + j' := by
  rcases Nat.lt_or_gt_of_ne h with h | h
  · have := Nat.mul_le_mul_right k (show i' + 1 ≤ i from h)
    rw [Nat.add_mul] at this
    omega
  · have := Nat.mul_le_mul_right k (show i + 1 ≤ i' from h)
    rw [Nat.add_mul] at this
    omega
theorem storeV_hr {H : Hp} (hH : HR base M ρ H w) {id : Nat} {b : Blk} (hb : H[id]? = some (some b)) {L : Loc} (hL : ρ[id]? = some (some L)) (hro : b.ro = false) {i : Nat} {e : AV} (he : b.es[i]? = some e) {j : Nat} {cs : List AV} {vs : List Value}
    (hrc : RC M w (if b.kd = 0 then ρ else []) cs vs) (hl : j + cs.length ≤ e.cells.length) (h0 : 0 < cs.length) (ho : allOne cs = true) :
    HR base M ρ (H.set id (some { b with es := b.es.set i (putE e j cs) })) (w.setCells L.g (i * L.k + j) vs) ∧ Ext M ρ H w M ρ (H.set id (some { b with es := b.es.set i (putE e j cs) })) (w.setCells L.g (i * L.k + j) vs) ∧
      (∀ x, x < vs.length → (w.cell? ⟨L.g, i * L.k + j + x, none⟩).isSome = true) ∧ ∀ x, x < vs.length → w.frozen? ⟨L.g, i * L.k + j + x, none⟩ = false := by
  have q := hH.blk id b L hb hL
  obtain ⟨cur, fr, a1, a2, a3, a4⟩ := q.cur
  have hek := q.ek i e he
  have hi : i < b.es.length := (List.getElem?_eq_some_iff.1 he).1
  have hvl := hrc.len
  have hmul : (i + 1) * b.k ≤ L.cap * b.k := Nat.mul_le_mul_right _ (by have := q.len; omega)
  rw [Nat.add_mul, Nat.one_mul] at hmul
  have hfit : i * L.k + j + vs.length ≤ cur.size := by rw [q.kk, a2]; omega
  obtain ⟨cur', c1, c2, c3, c4, c5, c6, c7⟩ := setCells_heap L.g b.ty fr vs (i * L.k + j) w cur a1 hfit
  have hcs' : cur'.size = cur.size := by
    have := congrArg List.length c2
    simp at this
    omega
  have hnM := hH.notM (⟨id, b, L, hb, hro, hL, rfl⟩ : Wr ρ H L.g)
  have hM : ∀ g, M g → (w.setCells L.g (i * L.k + j) vs).heap[g]? = w.heap[g]? := fun g hg => c3 g (fun e => hnM (e ▸ hg))
  have hput := putE_cells hl h0 ho
  have hput_len : (putE e j cs).cells.length = b.k := by rw [hput]; simp; omega
  have atcur : ∀ x, cur'[x]? = if x < i * L.k + j then cur[x]? else if x < i * L.k + j + vs.length then vs[x - (i * L.k + j)]? else cur[x]? := by
    intro x
    rw [← Array.getElem?_toList, c2, getElem?_splice cur.toList vs _ (by simpa using hfit)]
    simp
  rw [q.kk] at atcur
  have hset : ∀ id', (H.set id (some { b with es := b.es.set i (putE e j cs) }))[id']? = if id = id' then some (some { b with es := b.es.set i (putE e j cs) }) else H[id']? := by
    intro id'
    rw [List.getElem?_set]
    by_cases h : id = id'
    · rw [if_pos h, if_pos h, if_pos (List.getElem?_eq_some_iff.1 hb).1]
    · rw [if_neg h, if_neg h]
  refine ⟨{ len := by simp [hH.len], dead := fun id' => ?_, blk := fun id' b' L' hb' hL' => ?_, inj := hH.inj, mlt := fun g hg => by rw [c7]; exact hH.mlt g hg }, ⟨c4, c5, c6, by omega, fun g hg hn => c3 g (fun e => hn (e ▸ ⟨id, b, L, hb, hro, hL, rfl⟩)), fun _ h => h, fun _ h => .inl h, fun g hg => ?_, Rle.refl _⟩, fun x hx => ?_, fun x hx => ?_⟩
  · rw [hset]
    by_cases h : id = id'
    · subst h
      rw [if_pos rfl, hL]
      simp
    · rw [if_neg h]; exact hH.dead id'
  · rw [hset] at hb'
    by_cases h : id = id'
    · subst h
      rw [if_pos rfl] at hb'
      cases hb'
      rw [hL] at hL'
      cases hL'
      refine { lo := q.lo, kk := q.kk, kp := q.kp, ro := q.ro, capm := q.capm, len := by simpa using q.len, ek := fun x y hx => ?_, cur := ⟨cur', fr, c1, by rw [hcs', a2], ?_, fun x y z c hx hc => ?_⟩ }
      · rcases a3 with a3 | a3
        · exact .inl a3
        · exact .inr (by rw [hcs']; exact a3)
      · simp only at hx
        rw [List.getElem?_set] at hx
        simp only
        rw [atcur]
        by_cases hxi : i = x
        · subst hxi
          rw [if_pos rfl, if_pos hi] at hx
          cases hx
          rw [hput, getElem?_splice e.cells cs j hl] at hc
          by_cases hz1 : z < j
          · rw [if_pos hz1] at hc
            rw [if_pos (by omega)]
            obtain ⟨u, d1, d2, d3⟩ := a4 i e z c he hc
            exact ⟨u, d1, d2, d3.mono (fun _ h => h) hM (Rle.refl _)⟩
          · rw [if_neg hz1] at hc
            rw [if_neg (by omega)]
            by_cases hz2 : z < j + cs.length
            · rw [if_pos hz2] at hc
              rw [if_pos (by omega)]
              obtain ⟨u, hu⟩ := get_of_len hvl.symm hc
              have hidx : i * b.k + z - (i * b.k + j) = z - j := by omega
              rw [hidx]
              exact ⟨u, hu, hrc.one u (List.mem_of_getElem? hu), (hrc.all _ c u hc hu).mono (fun _ h => h) hM (Rle.refl _)⟩
            · rw [if_neg hz2] at hc
              rw [if_neg (by omega)]
              obtain ⟨u, d1, d2, d3⟩ := a4 i e z c he hc
              exact ⟨u, d1, d2, d3.mono (fun _ h => h) hM (Rle.refl _)⟩
        · rw [if_neg hxi] at hx
          obtain ⟨u, d1, d2, d3⟩ := a4 x y z c hx hc
          have hzk : z < b.k := by rw [← q.ek x y hx]; exact (List.getElem?_eq_some_iff.1 hc).1
          have hap := elem_apart (i := i) (i' := x) (k := b.k) (j := j) (j' := z) (n := vs.length) (fun e => hxi e.symm) hzk (by omega)
          refine ⟨u, ?_, d2, d3.mono (fun _ h => h) hM (Rle.refl _)⟩
          rcases hap with hap | hap
          · rw [if_pos hap]; exact d1
          · rw [if_neg (by omega), if_neg (by omega)]; exact d1
      · simp only at hx
        rw [List.getElem?_set] at hx
        by_cases hxi : i = x
        · rw [if_pos hxi, if_pos hi] at hx
          cases hx
          exact hput_len
        · rw [if_neg hxi] at hx; exact q.ek x y hx
    · rw [if_neg h] at hb'
      have q' := hH.blk id' b' L' hb' hL'
      obtain ⟨cur2, fr2, b1, b2, b3, b4⟩ := q'.cur
      exact { lo := q'.lo, kk := q'.kk, kp := q'.kp, ro := q'.ro, capm := q'.capm, len := q'.len, ek := q'.ek,
              cur := ⟨cur2, fr2, by rw [c3 _ (hH.inj id' id L' L hL' hL (fun e => h e.symm))]; exact b1, b2, b3, fun x y z c hx hc =>
                let ⟨u, d1, d2, d3⟩ := b4 x y z c hx hc; ⟨u, d1, d2, d3.mono (fun _ h => h) hM (Rle.refl _)⟩⟩ }
  · obtain ⟨id', b', L', e1, e2, e3, rfl⟩ := hg
    rw [hset] at e1
    by_cases h : id = id'
    · subst h
      rw [if_pos rfl] at e1
      cases e1
      exact .inl ⟨id, b, L', hb, hro, e3, rfl⟩
    · rw [if_neg h] at e1
      exact .inl ⟨id', b', L', e1, e2, e3, rfl⟩
  · rw [cell_of_row w L.g _ cur b.ty fr a1, Array.getElem?_eq_getElem (by omega)]
    rfl
  · simp only [World.frozen?, a1]
    rcases a3 with a3 | a3
    · subst a3; simp
    · simp; omega
/-- What a store owes. -/
def DoesU (P : Program) (base : Nat) (M : Nat → Prop) (ρ : Rho) (H : Hp) (w : World) (S : Sem Unit) (H' : Hp) : Prop :=
  ∃ w' M' ρ', S.run P w = .ok () w' ∧ HR base M' ρ' H' w' ∧ Ext M ρ H w M' ρ' H' w'
theorem run_storeVar {t : TypeId} {i : TypeInfo} (hi : P.info? t = some i) {g o : Nat} {v : Value} (hs : v.cells.size = i.size) (hc : ∀ x, x < v.cells.toList.length → (w.cell? ⟨g, o + x, none⟩).isSome = true)
    (hf : ∀ x, x < v.cells.toList.length → w.frozen? ⟨g, o + x, none⟩ = false) (h1 : ∀ u ∈ v.cells.toList, u.oneCell' = true) : (storeVar t ⟨g, o, none⟩ v).run P w = .ok () (w.setCells g o v.cells.toList) := by
  have hst := run_storeCells_cells (P := P) g o v.cells.toList 0 w (by simpa using hc) (by simpa using hf) h1
  have hn : ¬ v.cells.size ≠ i.size := fun h => h hs
  unfold storeVar
  rw [Sem.run_bind, run_size hi, Result.andThen_ok]
  simp only [hn, if_false]
  exact hst
theorem store_sound {H : Hp} (hH : HR base M ρ H w) {t : TypeId} {k : Nat} (hk : szOf P t = some k) {ag : Bool} {p A : AV} {pv va : Value} (hp : VR M w ρ p pv) (ha : VR M w ρ A va) {H' : Hp} (h : storeA H k ag p A = some H') :
    DoesU P base M ρ H w (Instr.storeAt t pv va) H' := by
  obtain ⟨i, hi, rfl, hk0⟩ := szOf_some hk
  unfold storeA at h
  split at h
  · rename_i id n j
    cases hb : hget H id with
    | none => rw [hb] at h; cases h
    | some b =>
      rw [hb] at h
      simp only [storeB] at h
      obtain ⟨L, hL, rfl⟩ := live_ptr hH hp hb
      cases he : b.es[n]? with
      | none => rw [he] at h; cases h
      | some e =>
        rw [he] at h
        simp only [storeE] at h
        have fin : ∀ {cs : List AV} {a' : AV}, RC M w (if b.kd = 0 then ρ else []) cs va.cells.toList → cs.length = i.size → allOne cs = true → b.ro = false → j + i.size ≤ e.cells.length →
            DoesU P base M ρ H w (Instr.storeAt t (.pointer (some ⟨L.g, n * L.k + j, none⟩)) va) (H.set id (some { b with es := b.es.set n (putE e j cs) })) := by
          intro cs a' hrc hcl hone hro hje
          obtain ⟨p1, p2, p3, p4⟩ := storeV_hr hH (hget_some hb) hL hro he (j := j) hrc (by omega) (by omega) hone
          have hsz : va.cells.size = i.size := by have := hrc.len; simp at this; omega
          refine ⟨_, M, ρ, ?_, p1, p2⟩
          simp only [Instr.storeAt, Instr.sureAddr, Sem.run_bind, Sem.run_pure, Result.andThen_ok]
          exact run_storeVar hi hsz p3 p4 hrc.one
        split at h
        · rename_i hc
          split at h
          · rename_i hk0'
            unfold storeV at h
            split at h
            · cases h
            · rename_i cs hcs
              cases h
              obtain ⟨q1, q2, q3⟩ := partsOf_some hcs
              exact fin (a' := A) (by rw [if_pos hk0']; exact q3 ha) q1 q2 hc.1 hc.2
          · rename_i hk0'
            cases hf : fz H fzd A with
            | none => rw [hf] at h; cases h
            | some q =>
              rw [hf] at h
              obtain ⟨a', l⟩ := q
              simp only [storeQ] at h
              split at h
              · rename_i hl
                subst hl
                unfold storeV at h
                split at h
                · cases h
                · rename_i cs hcs
                  cases h
                  obtain ⟨q1, q2, q3⟩ := partsOf_some hcs
                  have hv := fz_ok hH fzd A va a' [] hf ha
                  have hv' : VR M w [] a' va := hv.wide fun g hg => by
                    rcases hg with hg | ⟨x, hx, _⟩
                    · exact hg
                    · cases hx
                  exact fin (a' := A) (by rw [if_neg hk0']; exact q3 hv') q1 q2 hc.1 hc.2
              · cases h
        · cases h
  · cases h
end Go.Proofs.YtbbnecjaojobfaaDoor.Ev
