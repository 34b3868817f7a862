/- The operations that read alone, held against the model (second part). -/
import Derived.Test.YtbbnecjaojobfaaDoorEvPure
set_option linter.unusedVariables false
set_option linter.unusedSimpArgs false
set_option linter.constructorNameAsVariable false
namespace Go.Proofs.YtbbnecjaojobfaaDoor.Ev
variable {P : Program} {base : Nat} {M : Nat → Prop} {ρ : Rho} {w : World}
theorem field_sound {t : TypeId} {f : Nat} {fs : Array Field} {g : Field} (ht : P.underlying t = some (.struct fs)) (hf : fs[f]? = some g) {k : Nat} (hk : szOf P g.type = some k) {ag : Bool} (hag : isAg P g.type = some ag)
    {A r : AV} {va : Value} (ha : VR M w ρ A va) (h : fieldA g.offset k ag A = some r) : ∃ v, (Instr.field t va f).run P w = .ok v w ∧ VR M w ρ r v := by
  obtain ⟨i, hi, rfl, hk0⟩ := szOf_some hk
  obtain ⟨d, hd, rfl⟩ := isAg_some hag
  unfold fieldA at h
  split at h
  · rename_i cs
    split at h
    · rename_i hl
      cases ha with
      | @agg _ _ vs hl' ho hall =>
        obtain ⟨v, hv, hr⟩ := part_sound hi hd (.agg hl' ho hall) hl h
        refine ⟨v, ?_, hr⟩
        simp only [Instr.field, Sem.run_bind, run_und ht, Result.andThen_ok, hf, asAgg, Sem.run_pure]
        exact hv
    · cases h
  · cases h
theorem bt_getD (s : ByteArray) (n : Nat) (h : n < s.size) : s[n]? = some (s.data.toList.getD n 0) := by
  rw [ByteArray.getElem?_lt' s n h]
  congr 1
  rw [getD_getElem?, List.getElem?_eq_getElem (by simpa using h)]
  rfl
theorem index_str_sound {t : TypeId} (ht : P.underlying t = some .string) {ag : Bool} {A I r : AV} {va vi : Value} (ha : VR M w ρ A va) (hi : VR M w ρ I vi) (h : indexA ag .str A I = some r) :
    ∃ v, (Instr.index t va vi).run P w = .ok v w ∧ VR M w ρ r v := by
  unfold indexA at h
  split at h
  · rename_i s kk n heq
    obtain rfl := vr_v ha
    obtain rfl := vr_v hi
    split at h
    · rename_i hn
      cases h
      have hs : s[n.toNat]? = some (s.data.toList.getD n.toNat 0) := bt_getD s _ (by omega)
      simp only [Instr.index, asIntOf, Sem.run_bind, Sem.run_pure, Result.andThen_ok, run_und ht, if_pos hn.1, hs]
      exact ⟨_, rfl, .v⟩
    · cases h
  · rename_i heq; cases heq
  · cases h
theorem index_arr_sound {t e : TypeId} {len : Nat} (ht : P.underlying t = some (.array len e)) {k : Nat} (hk : szOf P e = some k) {ag : Bool} (hag : isAg P e = some ag) {A I r : AV} {va vi : Value} (ha : VR M w ρ A va) (hi : VR M w ρ I vi) (h : indexA ag (.arr len k) A I = some r) :
    ∃ v, (Instr.index t va vi).run P w = .ok v w ∧ VR M w ρ r v := by
  obtain ⟨i, hi', rfl, hk0⟩ := szOf_some hk
  obtain ⟨d, hd, rfl⟩ := isAg_some hag
  unfold indexA at h
  split at h
  · rename_i heq; cases heq
  · rename_i len' k' cs kk n heq
    cases heq
    obtain rfl := vr_v hi
    split at h
    · rename_i hn
      split at h
      · rename_i hl
        cases ha with
        | @agg _ _ vs hl' ho hall =>
          obtain ⟨v, hv, hr⟩ := part_sound hi' hd (.agg hl' ho hall) hl h
          refine ⟨v, ?_, hr⟩
          simp only [Instr.index, asIntOf, Sem.run_bind, Sem.run_pure, Result.andThen_ok, run_und ht, if_pos hn, run_size hi']
          exact hv
      · cases h
    · cases h
  · cases h
theorem extract_sound {A r : AV} {i : Nat} {va : Value} (ha : VR M w ρ A va) (h : extractA i A = some r) : ∃ v, (Instr.extract va i).run P w = .ok v w ∧ VR M w ρ r v := by
  unfold extractA at h
  split at h
  · rename_i vs
    cases ha with
    | @tup _ _ us hl hall =>
      have hlt : i < us.size := by rw [← hl]; exact (List.getElem?_eq_some_iff.1 h).1
      have hv : us[i]? = some us[i] := Array.getElem?_eq_getElem hlt
      simp only [Instr.extract, hv, Sem.run_pure]
      exact ⟨_, rfl, hall i r _ h (by rw [Array.getElem?_toList]; exact hv)⟩
  · cases h
theorem len_sound {H : Hp} (hH : HR base M ρ H w) {t : TypeId} {sk : SK} {ty : TypeId} (ht : match sk with | .str => P.underlying t = some .string | .row _ => ∃ e, P.underlying t = some (.slice e) | .arr n _ => ∃ e, P.underlying t = some (.array n e))
    {A r : AV} {va : Value} (ha : VR M w ρ A va) (h : lenA H sk A = some r) : ∃ v, (Builtin.len_ #[t] ty #[va]).run P w = .ok v w ∧ VR M w ρ r v := by
  unfold lenA at h
  split at h
  · obtain rfl := vr_v ha
    cases h
    exact ⟨_, by simp [Builtin.len_, run_und ht, goInt], .v⟩
  · obtain ⟨e, ht⟩ := ht
    obtain rfl := vr_v ha
    cases h
    exact ⟨_, by simp [Builtin.len_, run_und ht, goInt], .v⟩
  · obtain ⟨e, ht⟩ := ht
    cases h
    cases ha with
    | lst U hc ha hk hm hr => exact ⟨_, by simp [Builtin.len_, run_und ht, goInt], .v⟩
  · obtain ⟨e, ht⟩ := ht
    obtain ⟨⟨b, hb⟩, rfl⟩ := liv_some h
    obtain ⟨L, A, c, hL, h1, h2, hA, rfl⟩ := live_sl hH ha hb
    exact ⟨_, by simp [Builtin.len_, run_und ht, goInt], .v⟩
  · obtain ⟨e, ht⟩ := ht
    cases h
    exact ⟨_, by simp [Builtin.len_, run_und ht, goInt], .v⟩
  · cases h
theorem nil_run {o : Oper} {X : Operand} {a : Act} (ho : o.op = .nilCheck X) {v : Value} (hv : a.eval X = v) (hp : (∃ q, v = .pointer (some q)) ∨ ∃ f x y, v = .func (.func f) x y) :
    (execOp a.eval o).run P w = .ok (.value v) w := by
  unfold execOp
  rw [ho]
  simp only [hv]
  rcases hp with ⟨q, rfl⟩ | ⟨f, x, y, rfl⟩ <;> rfl
theorem nilck_sound {H : Hp} (hH : HR base M ρ H w) {o : Oper} {X : Operand} {a : Act} (ho : o.op = .nilCheck X) {A r : AV} (ha : VR M w ρ A (a.eval X)) (h : nilckA H A = some r) :
    ∃ v, (execOp a.eval o).run P w = .ok (.value v) w ∧ VR M w ρ r v := by
  obtain ⟨v, hv⟩ : ∃ v, a.eval X = v := ⟨_, rfl⟩
  rw [hv] at ha
  refine ⟨v, nil_run ho hv ?_, ?_⟩
  · unfold nilckA at h
    split at h
    · obtain ⟨⟨b, hb⟩, rfl⟩ := liv_some h
      obtain ⟨L, hL, hv⟩ := live_ptr hH ha hb
      exact .inl ⟨_, hv⟩
    · cases ha with
      | el U hs hM hm hr => exact .inl ⟨_, rfl⟩
    · cases ha with
      | fn hla hlb h1 h2 => exact .inr ⟨_, _, _, rfl⟩
    · cases h
  · unfold nilckA at h
    split at h
    · obtain ⟨⟨b, hb⟩, rfl⟩ := liv_some h
      exact ha
    · cases h; exact ha
    · cases h; exact ha
    · cases h
theorem vr_args {s : List (Nat × AV)} {a : Act} (xs : Array Operand) (hS : Opd M ρ w s a xs.toList) : (evs s (xs.toList.map loOf)).length = (xs.map a.eval).size ∧
    ∀ (i : Nat) (c : AV) (u : Value), (evs s (xs.toList.map loOf))[i]? = some c → (xs.map a.eval).toList[i]? = some u → VR M w ρ c u := by
  unfold evs
  refine ⟨by simp, fun i c u h1 h2 => ?_⟩
  simp only [List.getElem?_map, Array.toList_map] at h1 h2
  cases hx : xs.toList[i]? with
  | none => rw [hx] at h1; cases h1
  | some x =>
    rw [hx] at h1 h2
    cases h1
    cases h2
    exact hS x (List.mem_of_getElem? hx)
theorem own_closed {H : Hp} (hH : HR base M ρ H w) {id : Nat} {b : Blk} (hb : H[id]? = some (some b)) (hk : b.kd ≠ 0) {L : Loc} (hL : ρ[id]? = some (some L)) {i : Nat} {e : AV} (he : b.es[i]? = some e) : CA M w [] L.g (i * L.k) e.cells := by
  intro j c hc
  have q := hH.blk id b L hb hL
  obtain ⟨cur, fr, h1, _, _, h4⟩ := q.cur
  obtain ⟨u, a1, a2, a3⟩ := h4 i e j c he hc
  rw [if_neg hk] at a3
  exact ⟨u, by rw [cell_of_row w L.g _ cur b.ty fr h1, q.kk]; exact a1, a2, a3⟩
/-- The rows of elements that a value names. -/
theorem row_read {H : Hp} (hH : HR base M ρ H w) {A : AV} {va : Value} (ha : VR M w ρ A va) {k : Nat} {xs : List AV} (h : rowElems H A = some (k, xs)) :
    ∃ B c, va = .slice B xs.length c ∧ (xs ≠ [] → ∃ a, B = some a ∧ a.spot = none ∧ ∀ (i : Nat) (e : AV), xs[i]? = some e → e.cells.length = k ∧ CA M w [] a.block (a.off + i * k) e.cells) := by
  unfold rowElems at h
  split at h
  · cases h
    obtain rfl := vr_v ha
    exact ⟨none, 0, rfl, fun hn => absurd rfl hn⟩
  · cases h
    cases ha with
    | @lst _ _ _ A cap U hc hx hk hm hr =>
      refine ⟨A, cap, rfl, fun hn => ?_⟩
      obtain ⟨a, rfl, hs, hM⟩ := hx hn
      refine ⟨a, rfl, hs, fun i e he => ⟨hk i e he, fun j c hj => ?_⟩⟩
      obtain ⟨q1, q2⟩ := hm a rfl i e j c he hj
      exact ⟨U i j, by rw [Nat.add_assoc]; exact q1, q2, hr i e j c he hj⟩
  · rename_i id off n
    cases hb : hget H id with
    | none => rw [hb] at h; cases h
    | some b =>
      rw [hb] at h
      simp only [rowB] at h
      split at h
      · rename_i hl
        cases h
        obtain ⟨L, A, c, hL, h1, h2, hA, rfl⟩ := live_sl hH ha hb
        have q := hH.blk id b L (hget_some hb) hL
        have hlen : ((b.es.drop off).take n).length = n := by simp; omega
        have hat : ∀ (i : Nat) (e : AV), ((b.es.drop off).take n)[i]? = some e → b.es[off + i]? = some e := by
          intro i e he
          rw [List.getElem?_take] at he
          split at he
          · rwa [List.getElem?_drop] at he
          · cases he
        refine ⟨A, c, by rw [hlen], fun hn => ?_⟩
        have hn0 : 0 < n := by
          cases n with
          | zero => simp at hn
          | succ n => omega
        obtain rfl : A = some ⟨L.g, off * L.k, none⟩ := by
          rcases hA with hA | hA
          · omega
          · exact hA
        refine ⟨_, rfl, rfl, fun i e he => ?_⟩
        have he' := hat i e he
        refine ⟨q.ek _ _ he', ?_⟩
        have := own_closed hH (hget_some hb) hl.1 hL he'
        rw [q.kk] at this ⊢
        rwa [Nat.add_mul] at this
      · cases h
  · cases h
theorem bytesOf_some : ∀ {xs : List AV} {l : List UInt8}, bytesOf xs = some l → ∃ ns : List Int, xs = ns.map (fun n => .v (.int .u8 n)) ∧ l = ns.map fun n => UInt8.ofNat n.toNat
  | [], l, h => by cases h; exact ⟨[], rfl, rfl⟩
  | a :: r, l, h => by
    unfold bytesOf at h
    split at h
    · rename_i heq; cases heq
    · rename_i n r' heq
      cases heq
      obtain ⟨l', hl, h2⟩ := bind_iff.1 h
      cases h2
      obtain ⟨ns, rfl, rfl⟩ := bytesOf_some hl
      exact ⟨n :: ns, rfl, rfl⟩
    · cases h
theorem push_foldl : ∀ (ns : List Int) (s : ByteArray), ns.foldl (fun r n => r.push (UInt8.ofNat n.toNat)) s = ⟨s.data ++ (ns.map fun n => UInt8.ofNat n.toNat).toArray⟩
  | [], s => by cases s; simp
  | n :: ns, s => by
    rw [List.foldl_cons, push_foldl ns]
    congr 1
    apply Array.ext'
    simp [ByteArray.push]
theorem b2s_sound {H : Hp} (hH : HR base M ρ H w) {s d e : TypeId} (hs : P.underlying s = some (.slice e)) (he : P.underlying e = some (.int .u8)) (hd : P.underlying d = some .string) {A r : AV} {va : Value} (ha : VR M w ρ A va)
    (h : b2sR (rowElems H A) = some r) : ∃ v, (convert s d va).run P w = .ok v w ∧ VR M w ρ r v := by
  cases hx : rowElems H A with
  | none => rw [hx] at h; cases h
  | some q =>
    obtain ⟨k, xs⟩ := q
    rw [hx] at h
    simp only [b2sR] at h
    cases hl : bytesOf xs with
    | none => rw [hl] at h; cases h
    | some l =>
      rw [hl] at h
      cases h
      obtain ⟨B, c, rfl, hB⟩ := row_read hH ha hx
      obtain ⟨ns, rfl, rfl⟩ := bytesOf_some hl
      rw [run_convert_bytes_string w s d e _ _ _ hs he hd]
      refine ⟨_, ?_, .v⟩
      cases hn : ns with
      | nil =>
        subst hn
        cases B with
        | none => rfl
        | some a => rfl
      | cons n0 ns0 =>
        rw [← hn]
        obtain ⟨a, rfl, hsp, hall⟩ := hB (by rw [hn]; simp)
        have hk : k = 1 := by
          obtain ⟨q, _⟩ := hall 0 (.v (.int .u8 n0)) (by rw [hn]; rfl)
          rw [← q]; rfl
        subst hk
        have hload : (loadCells a (ns.map fun n => AV.v (.int .u8 n)).length).run P w = .ok (ns.map (Value.int .u8)).toArray w := by
          rw [List.length_map, ← List.length_map (f := Value.int .u8) (as := ns)]
          refine run_loadCells_list w a _ fun j v hv => ?_
          rw [List.getElem?_map] at hv
          cases hj : ns[j]? with
          | none => rw [hj] at hv; cases hv
          | some n =>
            rw [hj] at hv
            cases hv
            obtain ⟨_, hca⟩ := hall j (.v (.int .u8 n)) (by rw [List.getElem?_map, hj]; rfl)
            obtain ⟨u, h1, _, h3⟩ := hca 0 (.v (.int .u8 n)) rfl
            obtain rfl := vr_v h3
            rw [add_spot hsp]
            rw [Nat.mul_one, Nat.add_zero] at h1
            exact h1
        rw [run_bytesToString w a _ c ns hload, push_foldl]
        simp
/-- Slices of slices and of strings. -/
def VO (M : Nat → Prop) (w : World) (ρ : Rho) : Option AV → Option Value → Prop
  | none, none => True
  | some a, some v => VR M w ρ a v
  | _, _ => False
theorem vo_lo {s : List (Nat × AV)} {a : Act} (o : Option Operand) (hS : Opd M ρ w s a o.toList) : VO M w ρ (optO s (o.map loOf)) (o.map a.eval) := by
  cases o with
  | none => trivial
  | some o => exact hS o (by simp)
theorem vo_int {d : Int} {A : Option AV} {v : Option Value} (h : VO M w ρ A v) {l : Int} (hl : intO d A = some l) : (v = none ∧ l = d) ∨ ∃ k, v = some (.int k l) := by
  cases A with
  | none =>
    cases v with
    | none => simp only [intO, Option.some.injEq] at hl; exact .inl ⟨rfl, hl.symm⟩
    | some v => exact h.elim
  | some A =>
    cases v with
    | none => exact h.elim
    | some v =>
      unfold intO at hl
      split at hl
      · rename_i heq; cases heq
      · rename_i k n heq
        cases heq
        obtain rfl := vr_v (show VR M w ρ (.v (.int k n)) v from h)
        cases hl
        exact .inr ⟨k, rfl⟩
      · cases hl
theorem bounds_run {isS : Bool} {len cap : Nat} {lo hi : Option AV} {vlo vhi : Option Value} (hlo : VO M w ρ lo vlo) (hhi : VO M w ρ hi vhi) {l h : Int} (h1 : intO 0 lo = some l) (h2 : intO len hi = some h) (c1 : 0 ≤ l) (c2 : l ≤ h) (c3 : h ≤ cap) :
    (Instr.sliceBounds isS len cap vlo vhi none).run P w = .ok (l.toNat, h.toNat, cap) w := by
  have e1 : (0 : Int) ≤ h ∧ h ≤ (cap : Int) := by omega
  have e2 : (0 : Int) ≤ l ∧ l ≤ ((h.toNat : Nat) : Int) := by omega
  unfold Instr.sliceBounds
  rcases vo_int hlo h1 with ⟨rfl, rfl⟩ | ⟨kl, rfl⟩ <;> rcases vo_int hhi h2 with ⟨rfl, rfl⟩ | ⟨kh, rfl⟩
  · simp
  · simp only [Instr.sliceBound, asIntOf, Sem.run_bind, Sem.run_pure, Result.andThen_ok, if_pos e1]; rfl
  · simp only [Int.toNat_natCast] at e2 ⊢
    simp only [Instr.sliceBound, asIntOf, Sem.run_bind, Sem.run_pure, Result.andThen_ok, if_pos e2]
  · simp only [Instr.sliceBound, asIntOf, Sem.run_bind, Sem.run_pure, Result.andThen_ok, if_pos e1, if_pos e2]
theorem slice_str_sound {t : TypeId} (ht : P.underlying t = some .string) {H : Hp} {A r : AV} {va : Value} (ha : VR M w ρ A va) {lo hi : Option AV} {vlo vhi : Option Value} (hlo : VO M w ρ lo vlo) (hhi : VO M w ρ hi vhi)
    (h : sliceA H lo hi .str A = some r) : ∃ v, (Instr.sliceAt t va vlo vhi none).run P w = .ok v w ∧ VR M w ρ r v := by
  unfold sliceA at h
  split at h
  · rename_i s heq
    obtain rfl := vr_v ha
    unfold sliceStr at h
    split at h
    · rename_i l u hl hu
      split at h
      · rename_i hc
        cases h
        have := bounds_run (P := P) (isS := false) hlo hhi hl hu hc.1 hc.2.1 hc.2.2
        refine ⟨_, ?_, .v⟩
        simp only [Instr.sliceAt, Instr.slice, Sem.run_bind, run_und ht, Result.andThen_ok, Option.isSome_none, Bool.false_eq_true, if_false, this, Sem.run_pure]
      · cases h
    · cases h
  · rename_i heq; cases heq
  · rename_i heq; cases heq
  · rename_i heq; cases heq
  · cases h
theorem slice_row_sound {H : Hp} (hH : HR base M ρ H w) {t e : TypeId} (ht : P.underlying t = some (.slice e)) {k : Nat} (hk : szOf P e = some k) {A r : AV} {va : Value} (ha : VR M w ρ A va) {lo hi : Option AV} {vlo vhi : Option Value}
    (hlo : VO M w ρ lo vlo) (hhi : VO M w ρ hi vhi) (h : sliceA H lo hi (.row k) A = some r) : ∃ v, (Instr.sliceAt t va vlo vhi none).run P w = .ok v w ∧ VR M w ρ r v := by
  obtain ⟨i, hi', rfl, hk0⟩ := szOf_some hk
  have run : ∀ (B : Option Addr) (n c : Nat) (l u : Int), intO 0 lo = some l → intO n hi = some u → 0 ≤ l → l ≤ u → u ≤ c →
      (Instr.sliceAt t (.slice B n c) vlo vhi none).run P w = .ok (.slice (if c = l.toNat then B else B.map (·.add (l.toNat * i.size))) (u.toNat - l.toNat) (c - l.toNat)) w := by
    intro B n c l u hl hu h1 h2 h3
    have := bounds_run (P := P) (isS := true) hlo hhi hl hu h1 h2 h3
    simp only [Instr.sliceAt, Instr.slice, Sem.run_bind, run_und ht, Result.andThen_ok, this, run_size hi', Sem.run_pure]
  unfold sliceA at h
  split at h
  · rename_i heq; cases heq
  · rename_i k' xs heq
    cases heq
    split at h
    · rename_i hkk
      subst hkk
      unfold sliceLst at h
      split at h
      · rename_i l u hl hu
        split at h
        · rename_i hc
          cases h
          cases ha with
          | @lst _ _ _ A cap U hcap hx hkk hm hr =>
            refine ⟨_, run A xs.length cap l u hl hu hc.1 hc.2.1 (by omega), ?_⟩
            have hlen : ((xs.drop l.toNat).take (u.toNat - l.toNat)).length = u.toNat - l.toNat := by simp; omega
            have hat : ∀ (i : Nat) (e : AV), ((xs.drop l.toNat).take (u.toNat - l.toNat))[i]? = some e → xs[l.toNat + i]? = some e ∧ i < u.toNat - l.toNat := by
              intro i e he
              rw [List.getElem?_take] at he
              split at he
              · rename_i hi; exact ⟨by rwa [List.getElem?_drop] at he, hi⟩
              · cases he
            have hcap' : ((xs.drop l.toNat).take (u.toNat - l.toNat)).length ≤ cap - l.toNat := by rw [hlen]; omega
            suffices key : VR M w ρ (.lst i.size ((xs.drop l.toNat).take (u.toNat - l.toNat))) (.slice (if cap = l.toNat then A else A.map (·.add (l.toNat * i.size))) ((xs.drop l.toNat).take (u.toNat - l.toNat)).length (cap - l.toNat)) by rwa [hlen] at key
            refine .lst (fun x j => U (l.toNat + x) j) hcap' (fun hn => ?_) (fun x e he => hkk _ e (hat x e he).1) (fun a hA x e j c he hcc => ?_) (fun x e j c he hcc => hr _ e j c (hat x e he).1 hcc)
            · obtain ⟨a, rfl, hs, hM⟩ := hx (fun hq => by simp [hq] at hn)
              split
              · exact ⟨a, rfl, hs, hM⟩
              · exact ⟨_, rfl, by simp only [add_spot hs], by simp only [add_spot hs]; exact hM⟩
            · obtain ⟨he', hlt⟩ := hat x e he
              obtain ⟨a0, rfl, hs, hM⟩ := hx (fun hq => by simp [hq] at he')
              have := hm a0 rfl _ e j c he' hcc
              have hne : ¬ cap = l.toNat := by omega
              rw [if_neg hne] at hA
              cases hA
              simp only [add_spot hs]
              refine ⟨?_, this.2⟩
              have := this.1
              rw [Nat.add_mul] at this
              simp only [Nat.add_assoc] at this ⊢
              exact this
        · cases h
      · cases h
    · cases h
  · rename_i k' id off n heq
    cases heq
    cases hb : hget H id with
    | none => rw [hb] at h; cases h
    | some b =>
      rw [hb] at h
      simp only [sliceB] at h
      unfold sliceSl at h
      split at h
      · rename_i l u hl hu
        split at h
        · rename_i hc
          cases h
          obtain ⟨L, A, c, hL, h1, h2, hA, rfl⟩ := live_sl hH ha hb
          refine ⟨_, run A n c l u hl hu hc.2.1 hc.2.2.1 (by omega), .sl L hL (by omega) (by omega) ?_⟩
          have hLk : L.k = i.size := by rw [(hH.blk id b L (hget_some hb) hL).kk, hc.1]
          by_cases hcl : c = l.toNat
          · rw [if_pos hcl]
            by_cases hl0 : l.toNat = 0
            · rcases hA with hA | hA
              · exact .inl ⟨by omega, by omega⟩
              · exact .inr (by rw [hA, hl0, Nat.add_zero])
            · exact .inl ⟨by omega, by omega⟩
          · rw [if_neg hcl]
            rcases hA with hA | hA
            · exact .inl ⟨by omega, by omega⟩
            · right
              rw [hA, Option.map_some, add_none, hLk, Nat.add_mul]
        · cases h
      · cases h
  · rename_i k' heq
    cases heq
    obtain rfl := vr_v ha
    unfold sliceNil at h
    split at h
    · rename_i l u hl hu
      split at h
      · rename_i hc
        cases h
        refine ⟨_, run none 0 0 l u hl hu (by omega) (by omega) (by omega), ?_⟩
        obtain ⟨rfl, rfl⟩ := hc
        exact .v
      · cases h
    · cases h
  · cases h
theorem foldI_sound {f : Int → Int → Int} {g : Value → Value → Sem Value} (hg : ∀ k x y, (g (.int k x) (.int k y)).run P w = .ok (.int k (f x y)) w) : ∀ (as : List AV) (k : IntKind) (n : Int) (vs : List Value) (r : AV),
    as.length = vs.length → (∀ (i : Nat) (c : AV) (u : Value), as[i]? = some c → vs[i]? = some u → VR M w ρ c u) → foldI.go f k n as = some r → ∃ v, (vs.foldlM g (.int k n)).run P w = .ok v w ∧ VR M w ρ r v
  | [], k, n, [], r, _, _, h => by cases h; exact ⟨_, rfl, .v⟩
  | a :: as, k, n, u :: vs, r, hl, hall, h => by
    unfold foldI.go at h
    split at h
    · rename_i heq; cases heq
    · rename_i k' m r' heq
      cases heq
      split at h
      · rename_i hk
        subst hk
        obtain rfl := vr_v (hall 0 _ _ rfl rfl)
        obtain ⟨v, hv, hr⟩ := foldI_sound hg as k (f n m) vs r (by simpa using hl) (fun i c u h1 h2 => hall (i + 1) c u h1 h2) h
        refine ⟨v, ?_, hr⟩
        rw [List.foldlM_cons, Sem.run_bind, hg, Result.andThen_ok]
        exact hv
      · cases h
    · cases h
  | [], k, n, u :: vs, r, hl, _, _ => by simp at hl
  | a :: as, k, n, [], r, hl, _, _ => by simp at hl
end Go.Proofs.YtbbnecjaojobfaaDoor.Ev
