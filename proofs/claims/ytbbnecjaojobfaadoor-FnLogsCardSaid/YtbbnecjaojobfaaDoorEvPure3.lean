/- The operations that read alone, held against the model (third part): literals, and all of them together. -/
import Derived.Test.YtbbnecjaojobfaaDoorEvPure2
set_option linter.unusedVariables false
set_option linter.unusedSimpArgs false
set_option linter.constructorNameAsVariable false
namespace Go.Proofs.YtbbnecjaojobfaaDoor.Ev
variable {P : Program} {base : Nat} {M : Nat → Prop} {ρ : Rho} {w : World}
theorem run_mapM_list {α β : Type} (f : α → Sem β) (g : α → β) : ∀ (l : List α), (∀ x ∈ l, (f x).run P w = .ok (g x) w) → (l.mapM f).run P w = .ok (l.map g) w
  | [], _ => rfl
  | a :: l, h => by
    rw [List.mapM_cons, Sem.run_bind, h a (by simp), Result.andThen_ok, Sem.run_bind, run_mapM_list f g l (fun x hx => h x (by simp [hx])), Result.andThen_ok]
    rfl
theorem run_mapM_array {α β : Type} (f : α → Sem β) (g : α → β) (xs : Array α) (h : ∀ x ∈ xs.toList, (f x).run P w = .ok (g x) w) : (xs.mapM f).run P w = .ok (xs.map g) w := by
  rw [Array.mapM_eq_mapM_toList, Sem.run_map, run_mapM_list f g _ h, Result.andThen_ok]
  congr 1
  apply Array.ext'
  simp
theorem setAll (off : Nat) : ∀ (vs : List Value) (k : Nat) (Z : Array Value), off + k + vs.length ≤ Z.size →
    ((vs.zipIdx k).foldl (fun cs p => cs.setIfInBounds (off + p.2) p.1) Z).toList = Z.toList.take (off + k) ++ vs ++ Z.toList.drop (off + k + vs.length)
  | [], k, Z, h => by simp
  | v :: vs, k, Z, h => by
    simp only [List.length_cons] at h
    rw [List.zipIdx_cons, List.foldl_cons, setAll off vs (k + 1) _ (by simp; omega)]
    simp only [Array.toList_setIfInBounds, List.length_cons]
    have h1 : off + (k + 1) = off + k + 1 := by omega
    have h2 : off + (k + 1) + vs.length = off + k + (vs.length + 1) := by omega
    rw [h1, h2.symm.trans (by omega : off + (k + 1) + vs.length = off + k + 1 + vs.length)]
    have hlt : off + k < Z.toList.length := by simp; omega
    rw [List.take_succ_eq_append_getElem (by simpa using hlt), List.drop_set_of_lt (by omega), List.take_set_of_le (Nat.le_refl _)]
    simp
structure RC (M : Nat → Prop) (w : World) (ρ : Rho) (cs : List AV) (vs : List Value) : Prop where
  len : cs.length = vs.length
  one : ∀ u ∈ vs, u.oneCell' = true
  all : ∀ (i : Nat) (c : AV) (u : Value), cs[i]? = some c → vs[i]? = some u → VR M w ρ c u
theorem RC.cells {a : AV} {v : Value} (h : VR M w ρ a v) (ho : allOne a.cells = true) : RC M w ρ a.cells v.cells.toList := by
  have single : a.one = true → a.cells = [a] → RC M w ρ a.cells v.cells.toList := by
    intro h1 h2
    have hv := h.one h1
    have hc : v.cells.toList = [v] := by cases v <;> first | rfl | (simp [Value.oneCell'] at hv; done)
    rw [h2, hc]
    exact ⟨rfl, fun u hu => by simp at hu; subst hu; exact hv, fun i c u h3 h4 => by
      cases i with
      | zero => simp at h3 h4; subst h3; subst h4; exact h
      | succ i => simp at h3⟩
  cases h with
  | agg hl hone hall => exact ⟨by simpa [AV.cells, Value.cells] using hl, hone, hall⟩
  | x => simp [AV.cells, allOne, AV.one] at ho
  | tup => simp [AV.cells, allOne, AV.one] at ho
  | v => exact single (by simpa [AV.cells, allOne] using ho) rfl
  | lst => exact single rfl rfl
  | sl => exact single rfl rfl
  | dsl => exact single rfl rfl
  | ptr => exact single rfl rfl
  | dptr => exact single rfl rfl
  | el => exact single rfl rfl
  | fn => exact single rfl rfl
theorem RC.agg {cs : List AV} {vs : Array Value} (h : RC M w ρ cs vs.toList) : VR M w ρ (.agg cs) (.agg vs) := .agg (by simpa using h.len) h.one h.all
theorem getElem?_splice {α : Type} (l m : List α) (off : Nat) (h : off + m.length ≤ l.length) (i : Nat) : (l.take off ++ m ++ l.drop (off + m.length))[i]? = if i < off then l[i]? else if i < off + m.length then m[i - off]? else l[i]? := by
  have hlt : (l.take off).length = off := by simp; omega
  rw [List.append_assoc]
  by_cases h1 : i < off
  · rw [if_pos h1, List.getElem?_append_left (by omega), List.getElem?_take, if_pos h1]
  · rw [if_neg h1, List.getElem?_append_right (by omega), hlt]
    by_cases h2 : i < off + m.length
    · rw [if_pos h2, List.getElem?_append_left (by omega)]
    · rw [if_neg h2, List.getElem?_append_right (by omega), List.getElem?_drop]
      congr 1
      omega
theorem RC.splice {cs ds : List AV} {vs us : List Value} (h : RC M w ρ cs vs) (k : RC M w ρ ds us) {off : Nat} (hl : off + ds.length ≤ cs.length) :
    RC M w ρ (cs.take off ++ ds ++ cs.drop (off + ds.length)) (vs.take off ++ us ++ vs.drop (off + us.length)) where
  len := by simp; have := h.len; have := k.len; omega
  one u hu := by
    simp only [List.mem_append] at hu
    rcases hu with (hu | hu) | hu
    · exact h.one u (List.mem_of_mem_take hu)
    · exact k.one u hu
    · exact h.one u (List.mem_of_mem_drop hu)
  all i c u h1 h2 := by
    have e1 := h.len
    have e2 := k.len
    rw [getElem?_splice cs ds off hl] at h1
    rw [getElem?_splice vs us off (by omega)] at h2
    by_cases a : i < off
    · rw [if_pos a] at h1 h2; exact h.all i c u h1 h2
    · rw [if_neg a] at h1 h2
      by_cases b : i < off + ds.length
      · rw [if_pos b] at h1; rw [if_pos (by omega)] at h2; exact k.all _ c u h1 h2
      · rw [if_neg b] at h1; rw [if_neg (by omega)] at h2; exact h.all i c u h1 h2
theorem fill_sound (place : Nat → Option (Nat × Nat)) : ∀ (ps : List (Nat × Nat × AV)) (parts : List (Nat × Value)) (zs cs : List AV) (Z : Array Value), RC M w ρ zs Z.toList → ps.length = parts.length →
    (∀ (i : Nat) (p : Nat × Nat × AV) (q : Nat × Value), ps[i]? = some p → parts[i]? = some q → place q.1 = some (p.1, p.2.1) ∧ VR M w ρ p.2.2 q.2) → fillP zs ps = some cs →
    ∃ Z', Instr.fill place Z parts = some Z' ∧ RC M w ρ cs Z'.toList
  | [], [], zs, cs, Z, hz, _, _, h => by cases h; exact ⟨Z, rfl, hz⟩
  | (off, n, a) :: ps, (i, v) :: parts, zs, cs, Z, hz, hl, hall, h => by
    obtain ⟨hp, hv⟩ := hall 0 _ _ rfl rfl
    simp only [fillP] at h
    split at h
    · rename_i hc
      have hr : RC M w ρ a.cells v.cells.toList := RC.cells hv hc.2.2
      have e1 : a.cells.length = n := hc.1
      have e2 : off + n ≤ zs.length := hc.2.1
      have hsz : v.cells.size = n := by have h1 := hr.len; have h2 := hc.1; rw [Array.length_toList] at h1; exact h1.symm.trans h2
      have hzl := hz.len
      simp only [Array.length_toList] at hzl
      have hnot : (decide (v.cells.size ≠ n) || decide (off + v.cells.size > Z.size)) = false := by simp; omega
      have hset : (v.cells.zipIdx.foldl (fun cs (c, j) => cs.setIfInBounds (off + j) c) Z).toList = Z.toList.take off ++ v.cells.toList ++ Z.toList.drop (off + v.cells.toList.length) := by
        have := setAll off v.cells.toList 0 Z (by simp; omega)
        rw [Nat.add_zero] at this
        rw [← this, ← Array.foldl_toList]
        simp
      have hnew := RC.splice hz hr (off := off) (by omega)
      rw [e1] at hnew
      rw [← hset] at hnew
      obtain ⟨Z', h1, h2⟩ := fill_sound place ps parts _ cs _ hnew (by simpa using hl) (fun j p q hp hq => hall (j + 1) p q hp hq) h
      refine ⟨Z', ?_, h2⟩
      simp only [Instr.fill]
      rw [show place i = some (off, n) from hp]
      simp only [hnot, Bool.false_eq_true, if_false]
      exact h1
    · cases h
  | [], _ :: _, _, _, _, _, hl, _, _ => by simp at hl
  | _ :: _, [], _, _, _, _, hl, _, _ => by simp at hl
theorem zeroOf_some {t : TypeId} {zs : List AV} (h : zeroOf P t = some zs) : ∃ i z, P.info? t = some i ∧ i.zero = some z ∧ z.cells.size = i.size ∧ zs = z.cells.toList.map .v ∧ ∀ u ∈ z.cells.toList, u.oneCell' = true := by
  unfold zeroOf at h
  obtain ⟨i, hi, h2⟩ := bind_iff.1 h
  obtain ⟨z, hz, h3⟩ := bind_iff.1 h2
  split at h3
  · rename_i hc
    cases h3
    exact ⟨i, z, hi, hz, hc.1, rfl, fun u hu => List.all_eq_true.1 hc.2 u hu⟩
  · cases h3
theorem RC.vals {vs : List Value} (h : ∀ u ∈ vs, u.oneCell' = true) : RC M w ρ (vs.map .v) vs :=
  ⟨by simp, h, fun i c u h1 h2 => by rw [List.getElem?_map, h2] at h1; cases h1; exact .v⟩
theorem mapO_some {α β : Type} {f : α → Option β} : ∀ {l : List α} {r : List β}, mapO f l = some r → r.length = l.length ∧ ∀ (i : Nat) (a : α) (b : β), l[i]? = some a → r[i]? = some b → f a = some b
  | [], r, h => by cases h; exact ⟨rfl, fun i a b h1 _ => by simp at h1⟩
  | a :: l, r, h => by
    simp only [mapO] at h
    obtain ⟨b, hb, h2⟩ := bind_iff.1 h
    obtain ⟨s, hs, h3⟩ := bind_iff.1 h2
    cases h3
    obtain ⟨h4, h5⟩ := mapO_some hs
    refine ⟨by simp [h4], fun i x y hx hy => ?_⟩
    cases i with
    | zero => simp at hx hy; subst hx; subst hy; exact hb
    | succ i => exact h5 i x y (by simpa using hx) (by simpa using hy)
theorem build_sound {s : List (Nat × AV)} {a : Act} {t : TypeId} {parts : Array (Nat × Operand)} (hS : Opd M ρ w s a (parts.toList.map (·.2))) {zs : List AV} {ps : List (Nat × Nat × LO)} (hc : compOp P (.build t parts) = some (.build zs ps)) {cs : List AV}
    (h : fillP zs (ps.map fun p => (p.1, p.2.1, p.2.2.ev s)) = some cs) : ∃ v, (Instr.build t (parts.map fun (i, x) => (i, a.eval x))).run P w = .ok v w ∧ VR M w ρ (.agg cs) v := by
  simp only [compOp] at hc
  obtain ⟨zs', hz, h2⟩ := bind_iff.1 hc
  obtain ⟨i, z, hi, hiz, hsz, rfl, hone⟩ := zeroOf_some hz
  have hzero : (zeroValue t).run P w = .ok z w := by simp [zeroValue, typeInfo, hi, hiz]
  have hvals : RC M w ρ (z.cells.toList.map .v) z.cells.toList := RC.vals hone
  have hparts : (parts.map fun (i, x) => (i, a.eval x)).toList = parts.toList.map fun p => (p.1, a.eval p.2) := by simp
  split at h2
  · rename_i fs hu
    split at h2
    · rename_i hall
      obtain ⟨ps', hps, h3⟩ := bind_iff.1 h2
      cases h3
      obtain ⟨hl, hat⟩ := mapO_some hps
      have hfs : ∀ f ∈ fs.toList, ((do pure (f.offset, ← sizeOf f.type) : Sem (Nat × Nat))).run P w = .ok (f.offset, (szOf P f.type).getD 0) w := by
        intro f hf
        obtain ⟨k, hk⟩ := Option.isSome_iff_exists.1 (List.all_eq_true.1 hall f hf)
        obtain ⟨j, hj, rfl, _⟩ := szOf_some hk
        rw [Sem.run_bind, run_size hj, Result.andThen_ok, hk]
        rfl
      have hmap := run_mapM_array (P := P) (w := w) (fun f : Field => (do pure (f.offset, ← sizeOf f.type) : Sem (Nat × Nat))) (fun f => (f.offset, (szOf P f.type).getD 0)) fs hfs
      obtain ⟨Z', h4, h5⟩ := fill_sound (M := M) (w := w) (ρ := ρ) (fun x => (fs.map fun f => (f.offset, (szOf P f.type).getD 0))[x]?) (ps.map fun p => (p.1, p.2.1, p.2.2.ev s)) (parts.toList.map fun p => (p.1, a.eval p.2)) _ cs z.cells hvals (by simp [hl])
        (fun j p q hp hq => by
          rw [List.getElem?_map] at hp hq
          cases hpp : ps[j]? with
          | none => rw [hpp] at hp; cases hp
          | some p0 =>
            cases hqq : parts.toList[j]? with
            | none => rw [hqq] at hq; cases hq
            | some q0 =>
              rw [hpp] at hp
              rw [hqq] at hq
              cases hp
              cases hq
              have := hat j q0 p0 hqq hpp
              obtain ⟨f, hf, h6⟩ := bind_iff.1 this
              obtain ⟨n, hn, h7⟩ := bind_iff.1 h6
              cases h7
              refine ⟨?_, hS q0.2 (List.mem_map_of_mem (List.mem_of_getElem? hqq))⟩
              simp [hf, hn]) h
      refine ⟨.agg Z', ?_, h5.agg⟩
      simp only [Instr.build, Sem.run_bind, hzero, Result.andThen_ok, run_und hu, hmap, hparts, h4, Sem.run_pure]
    · cases h2
  · rename_i n e hu
    obtain ⟨k, hk, h3⟩ := bind_iff.1 h2
    cases h3
    obtain ⟨j, hj, rfl, hk0⟩ := szOf_some hk
    obtain ⟨Z', h4, h5⟩ := fill_sound (M := M) (w := w) (ρ := ρ) (fun x => some (x * j.size, j.size)) ((parts.toList.map fun p => (p.1 * j.size, j.size, loOf p.2)).map fun p => (p.1, p.2.1, p.2.2.ev s)) (parts.toList.map fun p => (p.1, a.eval p.2)) _ cs z.cells hvals (by simp)
      (fun x p q hp hq => by
        simp only [List.getElem?_map] at hp hq
        cases hqq : parts.toList[x]? with
        | none => rw [hqq] at hq; cases hq
        | some q0 =>
          rw [hqq] at hp hq
          cases hp
          cases hq
          exact ⟨rfl, hS q0.2 (List.mem_map_of_mem (List.mem_of_getElem? hqq))⟩) h
    refine ⟨.agg Z', ?_, h5.agg⟩
    simp only [Instr.build, Sem.run_bind, hzero, Result.andThen_ok, run_und hu, run_size hj, hparts, h4, Sem.run_pure]
  · cases h2
theorem run_value {S : Sem Value} {v : Value} {w' : World} (h : S.run P w = .ok v w') : ((do pure (.value (← S)) : Sem Next)).run P w = .ok (.value v) w' := by
  rw [Sem.run_bind, h, Result.andThen_ok]
  rfl
theorem run_unit {S : Sem Unit} {w' : World} (h : S.run P w = .ok () w') : ((do S; pure .skip : Sem Next)).run P w = .ok .skip w' := by
  rw [Sem.run_bind, h, Result.andThen_ok]
  rfl
theorem ex_of {S : Sem Value} {o : Oper} {a : Act} (he : execOp a.eval o = (do pure (.value (← S)) : Sem Next)) {r : AV} (h : ∃ v, S.run P w = .ok v w ∧ VR M w ρ r v) : ∃ v, (execOp a.eval o).run P w = .ok (.value v) w ∧ VR M w ρ r v := by
  obtain ⟨v, h1, h2⟩ := h
  exact ⟨v, by rw [he]; exact run_value h1, h2⟩
theorem call_builtin {o : Oper} {c : Call} (ho : o.op = .call c) {b : Builtin} (hb : c.callee = .builtin b) (ρ' : Operand → Value) : execOp ρ' o = (do pure (); Go.builtin b c.argTypes o.type (c.args.map fun | .const _ => true | _ => false) (c.args.map ρ') : Sem Next) := by
  unfold execOp
  rw [ho]
  simp only [resolve, hb]
  rfl
theorem compCall_pure {z : St} {a : Act} (hH : HR base M ρ z.h w) {o : Oper} {c : Call} (hS : Opd M ρ w z.s a c.args.toList) (ho : o.op = .call c) {l : LOp} (hc : compCall P c = some l) {av : AV} (he : pureOp z l = some av) :
    ∃ v, (execOp a.eval o).run P w = .ok (.value v) w ∧ VR M w ρ av v := by
  unfold compCall at hc
  split at hc
  · cases hc; cases he
  · cases hc; cases he
  · rename_i hb
    have hex := call_builtin ho hb a.eval
    split at hc
    · rename_i x t hargs htys
      have hA : c.args = #[x] := by apply Array.ext'; simpa using hargs
      have hx : VR M w ρ ((loOf x).ev z.s) (a.eval x) := hS x (by rw [hargs]; simp)
      have hT : c.argTypes = #[t] := by apply Array.ext'; simpa using htys
      have run : ∀ {v : Value}, (Builtin.len_ #[t] o.type #[a.eval x]).run P w = .ok v w → (execOp a.eval o).run P w = .ok (.value v) w := by
        intro v hv
        rw [hex, hA, hT]
        simp only [Go.builtin, pure_bind]
        exact run_value (by simpa using hv)
      split at hc
      · rename_i hu
        cases hc
        obtain ⟨v, h1, h2⟩ := len_sound (ty := o.type) hH (sk := .str) hu hx he
        exact ⟨v, run h1, h2⟩
      · rename_i e hu
        cases hc
        obtain ⟨v, h1, h2⟩ := len_sound (ty := o.type) hH (sk := .row 1) ⟨e, hu⟩ hx he
        exact ⟨v, run h1, h2⟩
      · rename_i n e hu
        cases hc
        obtain ⟨v, h1, h2⟩ := len_sound (ty := o.type) hH (sk := .arr n 1) ⟨e, hu⟩ hx he
        exact ⟨v, run h1, h2⟩
      · cases hc
    · cases hc
  · split at hc
    · split at hc
      · split at hc
        · obtain ⟨k, _, h2⟩ := bind_iff.1 hc
          obtain ⟨b, _, h3⟩ := bind_iff.1 h2
          obtain ⟨z0, _, h4⟩ := bind_iff.1 h3
          split at h4
          · cases h4; cases he
          · cases h4
        · cases hc
      · cases hc
    · cases hc
  · rename_i hb
    cases hc
    have hex := call_builtin ho hb a.eval
    obtain ⟨hl, hall⟩ := vr_args c.args hS
    simp only [pureOp] at he
    rw [hex]
    simp only [Go.builtin, pure_bind, Builtin.max_]
    have hlist : (c.args.map a.eval).toList.length = (evs z.s (c.args.toList.map loOf)).length := by rw [hl]; simp
    generalize (c.args.map a.eval).toList = vs at *
    generalize evs z.s (c.args.toList.map loOf) = as at *
    unfold foldI at he
    split at he
    · rename_i k n r
      cases vs with
      | nil => simp at hlist
      | cons u vs =>
        obtain rfl := vr_v (hall 0 _ _ rfl rfl)
        obtain ⟨v, h1, h2⟩ := foldI_sound (P := P) (w := w) (M := M) (ρ := ρ) (g := Builtin.max2) (fun k x y => rfl) r k n vs av (by simpa using hlist.symm) (fun i c u h1 h2 => hall (i + 1) c u h1 h2) he
        exact ⟨v, run_value h1, h2⟩
    · cases he
  · rename_i hb
    cases hc
    have hex := call_builtin ho hb a.eval
    obtain ⟨hl, hall⟩ := vr_args c.args hS
    simp only [pureOp] at he
    rw [hex]
    simp only [Go.builtin, pure_bind, Builtin.min_]
    have hlist : (c.args.map a.eval).toList.length = (evs z.s (c.args.toList.map loOf)).length := by rw [hl]; simp
    generalize (c.args.map a.eval).toList = vs at *
    generalize evs z.s (c.args.toList.map loOf) = as at *
    unfold foldI at he
    split at he
    · rename_i k n r
      cases vs with
      | nil => simp at hlist
      | cons u vs =>
        obtain rfl := vr_v (hall 0 _ _ rfl rfl)
        obtain ⟨v, h1, h2⟩ := foldI_sound (P := P) (w := w) (M := M) (ρ := ρ) (g := Builtin.min2) (fun k x y => rfl) r k n vs av (by simpa using hlist.symm) (fun i c u h1 h2 => hall (i + 1) c u h1 h2) he
        exact ⟨v, run_value h1, h2⟩
    · cases he
  · cases hc
theorem pure_sound {z : St} {a : Act} (hH : HR base M ρ z.h w) {o : Oper} (hS : Opd M ρ w z.s a o.op.operands.toList) {l : LOp} (hc : compOp P o.op = some l) {av : AV} (he : pureOp z l = some av) :
    ∃ v, (execOp a.eval o).run P w = .ok (.value v) w ∧ VR M w ρ av v := by
  cases hop : o.op with
  | move x =>
    rw [hop] at hc
    cases hc
    cases he
    exact ⟨a.eval x, by unfold execOp; rw [hop]; rfl, hS x (by rw [hop]; simp [Op.operands])⟩
  | assign x =>
    rw [hop] at hc
    cases hc
    cases he
    exact ⟨a.eval x, by unfold execOp; rw [hop]; rfl, hS x (by rw [hop]; simp [Op.operands])⟩
  | pick c x y =>
    rw [hop] at hc
    cases hc
    obtain ⟨v, h1, h2⟩ := pick_sound (P := P) (hS c (by rw [hop]; simp [Op.operands])) (hS x (by rw [hop]; simp [Op.operands])) (hS y (by rw [hop]; simp [Op.operands])) he
    exact ⟨v, by unfold execOp; rw [hop]; exact h1, h2⟩
  | build t parts =>
    rw [hop] at hc
    have hc' := hc
    simp only [compOp] at hc
    obtain ⟨zs, _, h2⟩ := bind_iff.1 hc
    have hl : ∃ ps, l = .build zs ps := by
      split at h2
      · split at h2
        · obtain ⟨ps, _, h3⟩ := bind_iff.1 h2; cases h3; exact ⟨ps, rfl⟩
        · cases h2
      · obtain ⟨k, _, h3⟩ := bind_iff.1 h2; cases h3; exact ⟨_, rfl⟩
      · cases h2
    obtain ⟨ps, rfl⟩ := hl
    simp only [pureOp] at he
    cases hf : fillP zs (ps.map fun p => (p.1, p.2.1, p.2.2.ev z.s)) with
    | none => rw [hf] at he; cases he
    | some cs =>
      rw [hf] at he
      cases he
      exact ex_of (S := Instr.build t (parts.map fun (i, x) => (i, a.eval x))) (by unfold execOp; rw [hop]) (build_sound (fun x hx => hS x (by rw [hop]; simpa [Op.operands] using hx)) hc' hf)
  | load t x =>
    rw [hop] at hc
    obtain ⟨k, hk, h2⟩ := bind_iff.1 hc
    obtain ⟨ag, hag, h3⟩ := bind_iff.1 h2
    cases h3
    obtain ⟨i, hi, rfl, _⟩ := szOf_some hk
    obtain ⟨d, hd, rfl⟩ := isAg_some hag
    exact ex_of (S := Instr.loadAt t (a.eval x)) (by unfold execOp; rw [hop]) (loadA_sound hH hi hd (hS x (by rw [hop]; simp [Op.operands])) he)
  | nilCheck x =>
    rw [hop] at hc
    cases hc
    exact nilck_sound hH hop (hS x (by rw [hop]; simp [Op.operands])) he
  | binOp op t x y ty =>
    rw [hop] at hc
    simp only [compOp] at hc
    split at hc
    · rename_i hu
      cases hc
      exact ex_of (S := do eqGuard op t x y (a.eval x) (a.eval y); Go.binOp op t (a.eval x) (a.eval y)) (by unfold execOp; rw [hop]) (binb_sound hu (hS x (by rw [hop]; simp [Op.operands])) (hS y (by rw [hop]; simp [Op.operands])) he)
    · cases hc
      exact ex_of (S := do eqGuard op t x y (a.eval x) (a.eval y); Go.binOp op t (a.eval x) (a.eval y)) (by unfold execOp; rw [hop]) (bin_sound (hS x (by rw [hop]; simp [Op.operands])) (hS y (by rw [hop]; simp [Op.operands])) he)
    · cases hc
      exact ex_of (S := do eqGuard op t x y (a.eval x) (a.eval y); Go.binOp op t (a.eval x) (a.eval y)) (by unfold execOp; rw [hop]) (bin_sound (hS x (by rw [hop]; simp [Op.operands])) (hS y (by rw [hop]; simp [Op.operands])) he)
    · obtain ⟨ks, hk, hc⟩ := bind_iff.1 hc
      cases hc
      exact ex_of (S := do eqGuard op t x y (a.eval x) (a.eval y); Go.binOp op t (a.eval x) (a.eval y)) (by unfold execOp; rw [hop]) (binf_sound hk (hS x (by rw [hop]; simp [Op.operands])) (hS y (by rw [hop]; simp [Op.operands])) he)
  | unOp op t x =>
    rw [hop] at hc
    cases hc
    exact ex_of (S := Op.unary op (a.eval x)) (by unfold execOp; rw [hop]) (un_sound (hS x (by rw [hop]; simp [Op.operands])) he)
  | convert s d x =>
    rw [hop] at hc
    simp only [compOp] at hc
    have fin : ∀ {r : AV}, (∃ v, (Go.convert s d (a.eval x)).run P w = .ok v w ∧ VR M w ρ r v) → ∃ v, (execOp a.eval o).run P w = .ok (.value v) w ∧ VR M w ρ r v :=
      fun h => ex_of (S := Go.convert s d (a.eval x)) (by unfold execOp; rw [hop]) h
    split at hc
    · rename_i h1 h2; cases hc; exact fin (conv_sound h1 h2 (hS x (by rw [hop]; simp [Op.operands])) he)
    · rename_i h1 h2; cases hc; exact fin (s2s_sound h1 h2 (hS x (by rw [hop]; simp [Op.operands])) he)
    · split at hc
      · cases hc; cases he
      · cases hc
    · rename_i e h1 h2
      split at hc
      · rename_i h3; cases hc; exact fin (b2s_sound hH h1 h3 h2 (hS x (by rw [hop]; simp [Op.operands])) he)
      · cases hc
    · cases hc
  | makeFunc f x y =>
    rw [hop] at hc
    cases hc
    cases he
    obtain ⟨l1, h1⟩ := vr_args x (fun q hq => hS q (by rw [hop]; simp only [Op.operands, Array.toList_append, List.mem_append]; exact .inl hq))
    obtain ⟨l2, h2⟩ := vr_args y (fun q hq => hS q (by rw [hop]; simp only [Op.operands, Array.toList_append, List.mem_append]; exact .inr hq))
    exact ex_of (S := Instr.makeFunc f (x.map a.eval) (y.map a.eval)) (by unfold execOp; rw [hop]) ⟨_, rfl, .fn l1 l2 h1 h2⟩
  | slice t x lo hi mx =>
    rw [hop] at hc
    cases mx with
    | some m => cases hc
    | none =>
      simp only [compOp] at hc
      have fin : ∀ {r : AV}, (∃ v, (Instr.sliceAt t (a.eval x) (lo.map a.eval) (hi.map a.eval) none).run P w = .ok v w ∧ VR M w ρ r v) → ∃ v, (execOp a.eval o).run P w = .ok (.value v) w ∧ VR M w ρ r v :=
        fun h => ex_of (S := Instr.sliceAt t (a.eval x) (lo.map a.eval) (hi.map a.eval) none) (by unfold execOp; rw [hop]; rfl) h
      split at hc
      · rename_i h1; cases hc; exact fin (slice_str_sound h1 (hS x (by rw [hop]; simp [Op.operands])) (vo_lo lo fun q hq => hS q (by rw [hop]; simp [Op.operands] at hq ⊢; simp [hq])) (vo_lo hi fun q hq => hS q (by rw [hop]; simp [Op.operands] at hq ⊢; simp [hq])) he)
      · rename_i e h1
        obtain ⟨k, hk, h2⟩ := bind_iff.1 hc
        cases h2
        exact fin (slice_row_sound hH h1 hk (hS x (by rw [hop]; simp [Op.operands])) (vo_lo lo fun q hq => hS q (by rw [hop]; simp [Op.operands] at hq ⊢; simp [hq])) (vo_lo hi fun q hq => hS q (by rw [hop]; simp [Op.operands] at hq ⊢; simp [hq])) he)
      · split at hc
        · obtain ⟨k, _, h2⟩ := bind_iff.1 hc
          split at h2
          · cases h2; cases he
          · cases h2
        · cases hc
      · cases hc
  | fieldAddr t x f =>
    rw [hop] at hc
    simp only [compOp] at hc
    split at hc
    · rename_i fs hu
      obtain ⟨g, hg, h2⟩ := bind_iff.1 hc
      obtain ⟨k, hk, h3⟩ := bind_iff.1 h2
      cases h3
      exact ex_of (S := Instr.fieldAt t (a.eval x) f) (by unfold execOp; rw [hop]) (faddr_sound hH hu hg hk (hS x (by rw [hop]; simp [Op.operands])) he)
    · cases hc
  | field t x f =>
    rw [hop] at hc
    simp only [compOp] at hc
    split at hc
    · rename_i fs hu
      obtain ⟨g, hg, h2⟩ := bind_iff.1 hc
      obtain ⟨k, hk, h3⟩ := bind_iff.1 h2
      obtain ⟨ag, hag, h4⟩ := bind_iff.1 h3
      cases h4
      exact ex_of (S := Instr.field t (a.eval x) f) (by unfold execOp; rw [hop]) (field_sound hu hg hk hag (hS x (by rw [hop]; simp [Op.operands])) he)
    · cases hc
  | indexAddr t x i =>
    rw [hop] at hc
    simp only [compOp] at hc
    split at hc
    · rename_i e hu
      obtain ⟨k, hk, h2⟩ := bind_iff.1 hc
      cases h2
      exact ex_of (S := Instr.indexAt t (a.eval x) (a.eval i)) (by unfold execOp; rw [hop]) (iaddr_row_sound hH hu hk (hS x (by rw [hop]; simp [Op.operands])) (hS i (by rw [hop]; simp [Op.operands])) he)
    · rename_i n e hu
      obtain ⟨k, hk, h2⟩ := bind_iff.1 hc
      cases h2
      exact ex_of (S := Instr.indexAt t (a.eval x) (a.eval i)) (by unfold execOp; rw [hop]) (iaddr_arr_sound hH hu hk (hS x (by rw [hop]; simp [Op.operands])) (hS i (by rw [hop]; simp [Op.operands])) he)
    · cases hc
  | index t x i =>
    rw [hop] at hc
    simp only [compOp] at hc
    split at hc
    · rename_i hu
      cases hc
      exact ex_of (S := Instr.index t (a.eval x) (a.eval i)) (by unfold execOp; rw [hop]) (index_str_sound hu (hS x (by rw [hop]; simp [Op.operands])) (hS i (by rw [hop]; simp [Op.operands])) he)
    · rename_i n e hu
      obtain ⟨k, hk, h2⟩ := bind_iff.1 hc
      obtain ⟨ag, hag, h3⟩ := bind_iff.1 h2
      cases h3
      exact ex_of (S := Instr.index t (a.eval x) (a.eval i)) (by unfold execOp; rw [hop]) (index_arr_sound hu hk hag (hS x (by rw [hop]; simp [Op.operands])) (hS i (by rw [hop]; simp [Op.operands])) he)
    · cases hc
  | extract x i =>
    rw [hop] at hc
    cases hc
    exact ex_of (S := Instr.extract (a.eval x) i) (by unfold execOp; rw [hop]) (extract_sound (hS x (by rw [hop]; simp [Op.operands])) he)
  | call c =>
    rw [hop] at hc
    exact compCall_pure hH (fun x hx => hS x (by rw [hop]; simp only [Op.operands, Call.operands, Array.toList_append, List.mem_append]; exact .inr hx)) hop hc he
  | alloc e =>
    rw [hop] at hc
    obtain ⟨k, _, h2⟩ := bind_iff.1 hc
    obtain ⟨z0, _, h3⟩ := bind_iff.1 h2
    obtain ⟨ag, _, h4⟩ := bind_iff.1 h3
    cases h4; cases he
  | box e x =>
    rw [hop] at hc
    obtain ⟨k, _, h2⟩ := bind_iff.1 hc
    cases h2; cases he
  | buildSlice t n parts =>
    rw [hop] at hc
    simp only [compOp] at hc
    split at hc
    · obtain ⟨k, _, h2⟩ := bind_iff.1 hc
      obtain ⟨z0, _, h3⟩ := bind_iff.1 h2
      split at h3
      · cases h3; cases he
      · cases h3
    · cases hc
  | store t x y =>
    rw [hop] at hc
    obtain ⟨k, _, h2⟩ := bind_iff.1 hc
    obtain ⟨ag, _, h3⟩ := bind_iff.1 h2
    cases h3; cases he
  | makeSlice t x y =>
    rw [hop] at hc
    simp only [compOp] at hc
    split at hc
    · obtain ⟨k, _, h2⟩ := bind_iff.1 hc
      obtain ⟨b, _, h3⟩ := bind_iff.1 h2
      obtain ⟨z0, _, h4⟩ := bind_iff.1 h3
      cases h4; cases he
    · cases hc
  | _ => rw [hop] at hc; cases hc
end Go.Proofs.YtbbnecjaojobfaaDoor.Ev
