/- The operations that read alone, held against the model. -/
import Derived.Test.YtbbnecjaojobfaaDoorEvRel
set_option linter.unusedVariables false
set_option linter.unusedSimpArgs false
set_option linter.constructorNameAsVariable false
namespace Go.Proofs.YtbbnecjaojobfaaDoor.Ev
variable {P : Program} {base : Nat} {M : Nat → Prop} {ρ : Rho} {w : World}
theorem vr_v {c u : Value} (h : VR M w ρ (.v c) u) : u = c := by cases h; rfl
theorem bind_iff {α β : Type} {a : Option α} {f : α → Option β} {r : β} : a.bind f = some r ↔ ∃ x, a = some x ∧ f x = some r := bind_some_iff
theorem add_none (b o n : Nat) : (⟨b, o, none⟩ : Addr).add n = ⟨b, o + n, none⟩ := by unfold Addr.add; split <;> simp_all
theorem add_spot {a : Addr} (h : a.spot = none) (n : Nat) : a.add n = ⟨a.block, a.off + n, none⟩ := by
  obtain ⟨b, o, s⟩ := a
  cases h
  exact add_none b o n
theorem run_und {t : TypeId} {d : TypeDesc} (h : P.underlying t = some d) (w : World) : (underlying t).run P w = .ok d w := run_underlying h w
theorem run_size {t : TypeId} {i : TypeInfo} (h : P.info? t = some i) (w : World) : (sizeOf t).run P w = .ok i.size w := by simp [sizeOf, typeInfo, h]
theorem run_ag {t : TypeId} {d : TypeDesc} (h : P.underlying t = some d) (w : World) : (Go.isAgg t).run P w = .ok (descAg d) w := by
  unfold Go.isAgg
  rw [Sem.run_bind, run_und h]
  cases d <;> simp [descAg]
theorem szOf_some {t k : Nat} (h : szOf P t = some k) : ∃ i, P.info? t = some i ∧ i.size = k ∧ 0 < k := by
  unfold szOf at h
  obtain ⟨i, hi, h2⟩ := bind_iff.1 h
  split at h2
  · cases h2
  · cases h2; exact ⟨i, hi, rfl, by omega⟩
theorem isAg_some {t : Nat} {b : Bool} (h : isAg P t = some b) : ∃ d, P.underlying t = some d ∧ descAg d = b := by
  unfold isAg at h
  cases hu : P.underlying t with
  | none => rw [hu] at h; cases h
  | some d => rw [hu] at h; exact ⟨d, rfl, by simpa using h⟩
theorem mk_true {cs : List AV} {r : AV} (h : mk true cs = some r) : r = .agg cs := by simp [mk] at h; exact h.symm
theorem mk_false {cs : List AV} {r : AV} (h : mk false cs = some r) : cs = [r] := by
  match cs, h with
  | [c], h => simp [mk] at h; rw [h]
  | [], h => simp [mk] at h
  | a :: b :: l, h => simp [mk] at h
/-- Cells in memory, and what they are. -/
def CA (M : Nat → Prop) (w : World) (ρ : Rho) (b o : Nat) (cs : List AV) : Prop :=
  ∀ (j : Nat) (c : AV), cs[j]? = some c → ∃ u, w.cell? ⟨b, o + j, none⟩ = some u ∧ u.oneCell' = true ∧ VR M w ρ c u
theorem CA.sub {b o : Nat} {cs : List AV} (h : CA M w ρ b o cs) (j k : Nat) : CA M w ρ b (o + j) ((cs.drop j).take k) := by
  intro i c hi
  rw [List.getElem?_take] at hi
  split at hi
  · rw [List.getElem?_drop] at hi
    have := h (j + i) c hi
    rwa [show o + (j + i) = o + j + i by omega] at this
  · cases hi
theorem CA.up {b o : Nat} {cs : List AV} (h : CA M w [] b o cs) (ρ : Rho) : CA M w ρ b o cs := fun j c hj => let ⟨u, h1, h2, h3⟩ := h j c hj; ⟨u, h1, h2, h3.up ρ⟩
/-- The cells of an element of a block of the state's own. -/
theorem own_cells {H : Hp} (hH : HR base M ρ H w) {id : Nat} {b : Blk} (hb : H[id]? = some (some b)) {L : Loc} (hL : ρ[id]? = some (some L)) {i : Nat} {e : AV} (he : b.es[i]? = some e) : CA M w ρ L.g (i * L.k) e.cells := by
  intro j c hc
  have q := hH.blk id b L hb hL
  obtain ⟨cur, fr, h1, _, _, h4⟩ := q.cur
  obtain ⟨u, a1, a2, a3⟩ := h4 i e j c he hc
  refine ⟨u, ?_, a2, ?_⟩
  · rw [cell_of_row w L.g _ cur b.ty fr h1, q.kk]
    exact a1
  · split at a3
    · exact a3
    · exact a3.up ρ
theorem lst_cells {k : Nat} {xs : List AV} {A : Option Addr} {n c : Nat} (h : VR M w ρ (.lst k xs) (.slice A n c)) {i : Nat} {e : AV} (he : xs[i]? = some e) :
    ∃ a, A = some a ∧ a.spot = none ∧ M a.block ∧ e.cells.length = k ∧ CA M w [] a.block (a.off + i * k) e.cells := by
  cases h with
  | lst U hc ha hk hm hr =>
    obtain ⟨a, h1, h2, h3⟩ := ha (fun hn => by simp [hn] at he)
    refine ⟨a, h1, h2, h3, hk i e he, fun j c hj => ?_⟩
    obtain ⟨q1, q2⟩ := hm a h1 i e j c he hj
    exact ⟨U i j, by rw [Nat.add_assoc]; exact q1, q2, hr i e j c he hj⟩
/-- Loads. -/
theorem loadVar_sound {t : TypeId} {i : TypeInfo} {d : TypeDesc} (hi : P.info? t = some i) (hd : P.underlying t = some d) {b o : Nat} {cs : List AV} (hl : cs.length = i.size) (hca : CA M w ρ b o cs) {r : AV} (hr : mk (descAg d) cs = some r) :
    ∃ v, (loadVar t ⟨b, o, none⟩).run P w = .ok v w ∧ VR M w ρ r v := by
  have hch : ∀ j, j < i.size → ∃ u, w.cell? ⟨b, o + j, none⟩ = some u ∧ u.oneCell' = true ∧ ∀ c, cs[j]? = some c → VR M w ρ c u := by
    intro j hj
    have hj' : j < cs.length := by omega
    obtain ⟨u, h1, h2, h3⟩ := hca j _ (List.getElem?_eq_getElem hj')
    exact ⟨u, h1, h2, fun c hc => by rw [List.getElem?_eq_getElem hj'] at hc; cases hc; exact h3⟩
  unfold loadVar
  rw [Sem.run_bind, run_ag hd]
  cases hg : descAg d with
  | true =>
    rw [hg] at hr
    obtain rfl := mk_true hr
    have hex : ∃ f : Nat → Value, ∀ j, j < i.size → w.cell? ⟨b, o + j, none⟩ = some (f j) ∧ (f j).oneCell' = true ∧ ∀ c, cs[j]? = some c → VR M w ρ c (f j) := by
      classical
      refine ⟨fun j => if h : j < i.size then (hch j h).choose else undef, fun j hj => ?_⟩
      simp only [dif_pos hj]
      exact (hch j hj).choose_spec
    obtain ⟨f, hf⟩ := hex
    have hrun := run_loadCells (P := P) w ⟨b, o, none⟩ i.size f (fun j hj => by rw [add_none]; exact (hf j hj).1)
    simp only [Result.andThen_ok, if_true, Sem.run_bind, run_size hi, hrun, Sem.run_pure]
    refine ⟨_, rfl, .agg (by simp [hl]) (fun u hu => ?_) (fun j c u h1 h2 => ?_)⟩
    · simp only [List.mem_map, List.mem_range] at hu
      obtain ⟨j, hj, rfl⟩ := hu
      exact (hf j hj).2.1
    · have hj : j < i.size := by rw [← hl]; exact (List.getElem?_eq_some_iff.1 h1).1
      rw [List.getElem?_map, List.getElem?_range hj] at h2
      cases h2
      exact (hf j hj).2.2 c h1
  | false =>
    rw [hg] at hr
    obtain rfl := mk_false hr
    obtain ⟨u, h1, h2, h3⟩ := hca 0 r rfl
    simp only [Result.andThen_ok, Bool.false_eq_true, if_false, run_load]
    rw [Nat.add_zero] at h1
    rw [h1]
    exact ⟨u, rfl, h3⟩
theorem loadE_some {k : Nat} {ag : Bool} {e r : AV} {j : Nat} (h : loadE k ag e j = some r) : ((e.cells.drop j).take k).length = k ∧ mk ag ((e.cells.drop j).take k) = some r := by
  unfold loadE at h
  split at h
  · exact ⟨by simp; omega, h⟩
  · cases h
theorem loadA_sound {H : Hp} (hH : HR base M ρ H w) {t : TypeId} {i : TypeInfo} {d : TypeDesc} (hi : P.info? t = some i) (hd : P.underlying t = some d) {p r : AV} {pv : Value} (hp : VR M w ρ p pv) (h : loadA H i.size (descAg d) p = some r) :
    ∃ v, (Instr.loadAt t pv).run P w = .ok v w ∧ VR M w ρ r v := by
  unfold loadA at h
  split at h
  · rename_i id n j
    unfold loadB at h
    split at h
    · cases h
    · rename_i b hb
      have hb' := hget_some hb
      unfold loadO at h
      split at h
      · cases h
      · rename_i e he
        obtain ⟨h1, h2⟩ := loadE_some h
        cases hp with
        | ptr L hL =>
          have hc := (own_cells hH hb' hL he).sub j i.size
          obtain ⟨v, hv, hr⟩ := loadVar_sound hi hd h1 hc h2
          exact ⟨v, by simpa [Instr.loadAt, Instr.sureAddr] using hv, hr⟩
        | dptr h0 => rw [← hH.dead, hb'] at h0; cases h0
  · rename_i e j
    obtain ⟨h1, h2⟩ := loadE_some h
    cases hp with
    | @el _ _ _ a U hs hM hm hr =>
      have hc : CA M w ρ a.block a.off ((e.cells.drop j).take i.size) := by
        intro x c hx
        rw [List.getElem?_take] at hx
        split at hx
        · rw [List.getElem?_drop] at hx
          obtain ⟨q1, q2⟩ := hm (j + x) c (by omega) hx
          exact ⟨U (j + x), by rwa [show j + x - j = x by omega] at q1, q2, (hr _ c hx).up ρ⟩
        · cases hx
      obtain ⟨v, hv, hr'⟩ := loadVar_sound hi hd h1 hc h2
      have ha : a = ⟨a.block, a.off, none⟩ := by obtain ⟨b, o, s⟩ := a; cases hs; rfl
      exact ⟨v, by rw [ha]; simpa [Instr.loadAt, Instr.sureAddr] using hv, hr'⟩
  · cases h
/-- Parts of a struct or an array. -/
theorem part_sound {t : TypeId} {i : TypeInfo} {d : TypeDesc} (hi : P.info? t = some i) (hd : P.underlying t = some d) {cs : List AV} {vs : Array Value} (hv : VR M w ρ (.agg cs) (.agg vs)) {off : Nat} {r : AV}
    (hlen : off + i.size ≤ cs.length) (hr : mk (descAg d) ((cs.drop off).take i.size) = some r) : ∃ v, (part t vs off).run P w = .ok v w ∧ VR M w ρ r v := by
  cases hv with
  | agg hl ho hall =>
    unfold part
    rw [Sem.run_bind, run_ag hd]
    cases hg : descAg d with
    | true =>
      rw [hg] at hr
      obtain rfl := mk_true hr
      simp only [Result.andThen_ok, if_true, Sem.run_bind, run_size hi, Sem.run_pure]
      refine ⟨_, rfl, .agg (by simp; omega) (fun u hu => ho u ?_) (fun j c u h1 h2 => ?_)⟩
      · rw [Array.toList_extract] at hu
        exact List.mem_of_mem_drop (List.mem_of_mem_take (by simpa [List.extract_eq_take_drop] using hu))
      · rw [List.getElem?_take] at h1
        split at h1
        · rw [List.getElem?_drop] at h1
          refine hall _ c u h1 ?_
          simp only [Array.toList_extract, List.extract_eq_take_drop, List.getElem?_take, List.getElem?_drop] at h2
          split at h2
          · exact h2
          · cases h2
        · cases h1
    | false =>
      rw [hg] at hr
      have hc := mk_false hr
      have h0 : cs[off]? = some r := by
        have : ((cs.drop off).take i.size)[0]? = some r := by rw [hc]; rfl
        rw [List.getElem?_take] at this
        split at this
        · rw [List.getElem?_drop] at this; simpa using this
        · cases this
      have hlt : off < vs.size := by rw [← hl]; exact (List.getElem?_eq_some_iff.1 h0).1
      have hv : vs[off]? = some vs[off] := Array.getElem?_eq_getElem hlt
      simp only [Result.andThen_ok, Bool.false_eq_true, if_false, hv]
      exact ⟨_, rfl, hall off r _ h0 (by rw [Array.getElem?_toList]; exact hv)⟩
theorem toList_data (s : ByteArray) : s.toList = s.data.toList := by
  have go : ∀ (d i : Nat) (r : List UInt8), s.size - i = d → ByteArray.toList.loop s i r = r.reverse ++ s.data.toList.drop i := by
    intro d
    induction d with
    | zero =>
      intro i r h
      unfold ByteArray.toList.loop
      have h' : ¬ i < s.size := by omega
      rw [if_neg h', List.drop_eq_nil_of_le (by rw [Array.length_toList]; exact Nat.not_lt.1 h')]
      simp
    | succ d ih =>
      intro i r h
      unfold ByteArray.toList.loop
      have h' : i < s.size := by omega
      have h2 : i < s.data.toList.length := h'
      rw [if_pos h', ih (i + 1) _ (by omega), List.drop_eq_getElem_cons h2]
      have e : s.get! i = s.data.toList[i] := by
        simp only [ByteArray.get!, Array.getElem_toList]
        exact getElem!_pos s.data i h'
      simp [e]
  unfold ByteArray.toList
  rw [go _ 0 [] rfl]
  simp
theorem beq_toList (a b : ByteArray) : (a.toList == b.toList) = decide (a = b) := by
  rw [toList_data, toList_data, Bool.eq_iff_iff]
  simp only [beq_iff_eq, decide_eq_true_eq]
  constructor
  · intro h
    obtain ⟨a⟩ := a
    obtain ⟨b⟩ := b
    simp only at h
    rw [Array.toList_inj.1 h]
  · rintro rfl; rfl
theorem bin_sound {op : BinOp} {t : TypeId} {X Y : Operand} {A B r : AV} {va vb : Value} (ha : VR M w ρ A va) (hb : VR M w ρ B vb) (h : bin op A B = some r) :
    ∃ v, (do eqGuard op t X Y va vb; Go.binOp op t va vb : Sem Value).run P w = .ok v w ∧ VR M w ρ r v := by
  unfold bin at h
  split at h
  · rename_i k a k' b
    obtain rfl := vr_v ha
    obtain rfl := vr_v hb
    have hg : (eqGuard op t X Y (.int k a) (.int k' b)).run P w = .ok () w := by unfold eqGuard; split <;> rfl
    rw [Sem.run_bind, hg, Result.andThen_ok]
    split at h
    · rename_i hs
      unfold shiftBin at h
      split at h
      · cases h
      · rename_i hb0
        cases op <;> simp [isShift] at hs <;> simp only [Option.some.injEq] at h <;> subst h <;> simp only [Go.binOp, Op.shift, if_neg hb0, Sem.run_pure] <;> exact ⟨_, rfl, .v⟩
    · rename_i hs
      split at h
      · rename_i hk
        subst hk
        cases op <;> simp only [intBin] at h <;> first
          | (simp [isShift] at hs; done)
          | (cases h; done)
          | (simp only [Option.some.injEq] at h; subst h; simp only [Go.binOp, ne_eq, not_true_eq_false, if_false, Op.intArith, Op.intBits, Op.intCmp, Sem.run_pure]; exact ⟨_, rfl, by first | exact .v | (simp only [bne, beq_eq_decide]; exact .v)⟩)
          | (by_cases hz : b = 0
             · rw [if_pos hz] at h; cases h
             · rw [if_neg hz] at h
               simp only [Option.some.injEq] at h
               subst h
               simp only [Go.binOp, ne_eq, not_true_eq_false, if_false, Op.intDiv, if_neg hz, Sem.run_pure]
               exact ⟨_, rfl, .v⟩)
      · cases h
  · rename_i a b
    obtain rfl := vr_v ha
    obtain rfl := vr_v hb
    have hg : (eqGuard op t X Y (.string a) (.string b)).run P w = .ok () w := by unfold eqGuard; split <;> rfl
    rw [Sem.run_bind, hg, Result.andThen_ok]
    cases op <;> simp only [strBin] at h <;> first
      | (cases h; done)
      | (simp only [Option.some.injEq] at h; subst h; simp only [Go.binOp, Op.stringOp, beq_toList, Sem.run_pure]; (try simp only [toList_data]); exact ⟨_, rfl, .v⟩)
      | (split at h
         · rename_i hz
           simp only [Option.some.injEq] at h
           subst h
           have hm : IntKind.i64.max = 9223372036854775807 := rfl
           have hz' : ¬ ((a.size + b.size : Nat) : Int) > IntKind.i64.max := by rw [hm]; omega
           simp only [Go.binOp, Op.stringOp, if_neg hz', Sem.run_pure]
           exact ⟨_, rfl, .v⟩
         · cases h)
  · cases h
theorem binb_sound {op : BinOp} {t : TypeId} (ht : P.underlying t = some .bool) {X Y : Operand} {A B r : AV} {va vb : Value} (ha : VR M w ρ A va) (hb : VR M w ρ B vb) (h : binb op A B = some r) :
    ∃ v, (do eqGuard op t X Y va vb; Go.binOp op t va vb : Sem Value).run P w = .ok v w ∧ VR M w ρ r v := by
  unfold binb at h
  split at h
  · rename_i a b
    obtain rfl := vr_v ha
    obtain rfl := vr_v hb
    have hg : (eqGuard op t X Y (.bool a) (.bool b)).run P w = .ok () w := by unfold eqGuard; split <;> rfl
    have he : (Op.equal t (.bool a) (.bool b)).run P w = .ok (a == b) w := by
      unfold Op.equal Op.maxDepth Op.equalIn
      rw [Sem.run_bind, run_und ht, Result.andThen_ok]
      rfl
    rw [Sem.run_bind, hg, Result.andThen_ok]
    cases op <;> simp only [boolBin] at h <;> first
      | (cases h; done)
      | (simp only [Option.some.injEq] at h; subst h; simp only [Go.binOp, Sem.run_bind, he, Result.andThen_ok, Sem.run_pure]; exact ⟨_, rfl, .v⟩)
  · cases h
theorem drop_cons {α : Type} {l : List α} {i : Nat} {a : α} {r : List α} (h : l.drop i = a :: r) : l[i]? = some a ∧ l.drop (i + 1) = r := by
  have h1 : (l.drop i)[0]? = some a := by rw [h]; rfl
  rw [List.getElem?_drop, Nat.add_zero] at h1
  refine ⟨h1, ?_⟩
  have h2 : (l.drop i).drop 1 = r := by rw [h]; rfl
  rw [List.drop_drop] at h2
  exact h2
theorem leafT_some {t : TypeId} {c : Nat} (h : leafT P t = some c) : (c = 0 ∧ P.underlying t = some .bool) ∨ (c = 1 ∧ ∃ k, P.underlying t = some (.int k)) ∨ (c = 2 ∧ P.underlying t = some .string) := by
  unfold leafT at h
  split at h
  · rename_i hu; cases h; exact .inl ⟨rfl, hu⟩
  · rename_i k hu; cases h; exact .inr (.inl ⟨rfl, k, hu⟩)
  · rename_i hu; cases h; exact .inr (.inr ⟨rfl, hu⟩)
  · cases h
theorem part_leaf {t : TypeId} {c : Nat} (h : leafT P t = some c) {xs : Array Value} {off : Nat} {v : Value} (hx : xs[off]? = some v) : (part t xs off).run P w = .ok v w := by
  rcases leafT_some h with ⟨_, hu⟩ | ⟨_, k, hu⟩ | ⟨_, hu⟩ <;> simp [part, isAgg, run_underlying hu, hx]
theorem leaf_sound {t : TypeId} {c : Nat} (h : leafT P t = some c) (d : Nat) {a b : AV} {va vb : Value} (ha : VR M w ρ a va) (hb : VR M w ρ b vb) {r : Bool} (hr : leafEq c a b = some r) : (Op.equalIn (d + 1) t va vb).run P w = .ok r w := by
  unfold leafEq at hr
  split at hr
  · obtain rfl := vr_v ha
    obtain rfl := vr_v hb
    cases hr
    rcases leafT_some h with ⟨_, hu⟩ | ⟨h1, _⟩ | ⟨h1, _⟩
    · exact run_equalIn_bool' w d t _ _ hu
    · cases h1
    · cases h1
  · obtain rfl := vr_v ha
    obtain rfl := vr_v hb
    split at hr
    · rename_i hk
      subst hk
      cases hr
      rcases leafT_some h with ⟨h1, _⟩ | ⟨_, k, hu⟩ | ⟨h1, _⟩
      · cases h1
      · rw [run_equalIn_int w d t _ _ _ _ hu]; congr 1
      · cases h1
    · cases hr
  · obtain rfl := vr_v ha
    obtain rfl := vr_v hb
    cases hr
    rcases leafT_some h with ⟨h1, _⟩ | ⟨h1, _⟩ | ⟨_, hu⟩
    · cases h1
    · cases h1
    · rw [run_equalIn_string w d t _ _ hu, beq_toList]
  · cases hr
section
variable {xs ys : Array Value} {cs ds : List AV}
theorem fields_sound (hc : ∀ (i : Nat) (c : AV) (u : Value), cs[i]? = some c → xs.toList[i]? = some u → VR M w ρ c u) (hlc : cs.length = xs.size) (hd : ∀ (i : Nat) (c : AV) (u : Value), ds[i]? = some c → ys.toList[i]? = some u → VR M w ρ c u) (hld : ds.length = ys.size) (d : Nat) :
    ∀ (fs : List Field) (i : Nat) (ks : List Nat) (r : Bool), fieldsK P fs i = some ks → leavesEq ks (cs.drop i) (ds.drop i) = some r → (Op.eqFields (d + 1) xs ys fs).run P w = .ok r w
  | [], i, ks, r, hk, h => by
    cases hk
    unfold leavesEq at h
    split at h
    · cases h; rfl
    · rename_i h1 _ _; cases h1
    · cases h
  | f :: fs, i, ks, r, hk, h => by
    unfold fieldsK at hk
    split at hk
    · rename_i hf
      obtain ⟨hn, ho⟩ := hf
      obtain ⟨c, hl, hk⟩ := bind_iff.1 hk
      obtain ⟨ks', hk', hk⟩ := bind_iff.1 hk
      cases hk
      unfold leavesEq at h
      split at h
      · rename_i h1 _ _; cases h1
      · rename_i c' cs' a r1 b r2 h1 h2 h3
        cases h1
        obtain ⟨a1, a2⟩ := drop_cons h2
        obtain ⟨b1, b2⟩ := drop_cons h3
        obtain ⟨e, he, h⟩ := bind_iff.1 h
        obtain ⟨q, hq, h⟩ := bind_iff.1 h
        cases h
        rw [← a2, ← b2] at hq
        have hi1 : i < xs.size := by rw [← hlc]; exact (List.getElem?_eq_some_iff.1 a1).1
        have hi2 : i < ys.size := by rw [← hld]; exact (List.getElem?_eq_some_iff.1 b1).1
        have u1 : xs[i]? = some xs[i] := Array.getElem?_eq_getElem hi1
        have u2 : ys[i]? = some ys[i] := Array.getElem?_eq_getElem hi2
        have v1 := hc i a xs[i] a1 (by rw [Array.getElem?_toList]; exact u1)
        have v2 := hd i b ys[i] b1 (by rw [Array.getElem?_toList]; exact u2)
        have ih := fields_sound hc hlc hd hld d fs (i + 1) ks' q hk' hq
        subst ho
        simp only [Op.eqFields, if_pos hn, Sem.run_bind, part_leaf hl u1, part_leaf hl u2, Result.andThen_ok, leaf_sound hl d v1 v2 he]
        cases e
        · simp
        · simpa using ih
      · cases h
    · cases hk
theorem items_sound (hc : ∀ (i : Nat) (c : AV) (u : Value), cs[i]? = some c → xs.toList[i]? = some u → VR M w ρ c u) (hlc : cs.length = xs.size) (hd : ∀ (i : Nat) (c : AV) (u : Value), ds[i]? = some c → ys.toList[i]? = some u → VR M w ρ c u) (hld : ds.length = ys.size) (d : Nat) {e : TypeId} {c : Nat} (hl : leafT P e = some c) :
    ∀ (n i : Nat) (r : Bool), leavesEq (List.replicate n c) (cs.drop i) (ds.drop i) = some r → (Op.eqItems (d + 1) e 1 xs ys (List.range' i n)).run P w = .ok r w
  | 0, i, r, h => by
    rw [List.replicate_zero] at h
    unfold leavesEq at h
    split at h
    · cases h; rfl
    · rename_i h1 _ _; cases h1
    · cases h
  | n + 1, i, r, h => by
    rw [List.replicate_succ] at h
    unfold leavesEq at h
    split at h
    · rename_i h1 _ _; cases h1
    · rename_i c' cs' a r1 b r2 h1 h2 h3
      cases h1
      obtain ⟨a1, a2⟩ := drop_cons h2
      obtain ⟨b1, b2⟩ := drop_cons h3
      obtain ⟨x, he, h⟩ := bind_iff.1 h
      obtain ⟨q, hq, h⟩ := bind_iff.1 h
      cases h
      rw [← a2, ← b2] at hq
      have hi1 : i < xs.size := by rw [← hlc]; exact (List.getElem?_eq_some_iff.1 a1).1
      have hi2 : i < ys.size := by rw [← hld]; exact (List.getElem?_eq_some_iff.1 b1).1
      have u1 : xs[i]? = some xs[i] := Array.getElem?_eq_getElem hi1
      have u2 : ys[i]? = some ys[i] := Array.getElem?_eq_getElem hi2
      have v1 := hc i a xs[i] a1 (by rw [Array.getElem?_toList]; exact u1)
      have v2 := hd i b ys[i] b1 (by rw [Array.getElem?_toList]; exact u2)
      have ih := items_sound hc hlc hd hld d hl n (i + 1) q hq
      rw [List.range'_succ]
      simp only [Op.eqItems, Nat.mul_one, Sem.run_bind, part_leaf hl u1, part_leaf hl u2, Result.andThen_ok, leaf_sound hl d v1 v2 he]
      cases x
      · simp
      · simpa using ih
    · cases h
end
theorem binf_sound {op : BinOp} {t : TypeId} {ks : List Nat} (ht : flatK P t = some ks) {X Y : Operand} {A B r : AV} {va vb : Value} (ha : VR M w ρ A va) (hb : VR M w ρ B vb) (h : binf op ks A B = some r) :
    ∃ v, (do eqGuard op t X Y va vb; Go.binOp op t va vb : Sem Value).run P w = .ok v w ∧ VR M w ρ r v := by
  unfold binf at h
  split at h
  · rename_i cs ds
    obtain ⟨q, hq, h⟩ := bind_iff.1 h
    cases ha with
    | @agg _ _ xs hlc _ hc =>
      cases hb with
      | @agg _ _ ys hld _ hd =>
        have both : P.eqGuardType P.depth t = false ∧ (Op.equalIn 10000 t (.agg xs) (.agg ys)).run P w = .ok q w := by
          unfold flatK at ht
          split at ht
          · rename_i fs hu
            split at ht
            · rename_i hs
              refine ⟨hs.2, ?_⟩
              have hf : P.fieldsOf t = fs := by simp [Program.fieldsOf, hu]
              rw [show (10000 : Nat) = 9998 + 1 + 1 from rfl, run_equalIn_struct w (9998 + 1) t xs ys (by rw [hf]; exact hu) hs.1, hf]
              exact fields_sound hc hlc hd hld 9998 fs.toList 0 ks q ht (by simpa using hq)
            · cases ht
          · rename_i n e hu
            split at ht
            · rename_i hs
              refine ⟨hs.1, ?_⟩
              obtain ⟨c, hl, ht⟩ := bind_iff.1 ht
              cases ht
              obtain ⟨i, hi, h1, _⟩ := szOf_some hs.2
              have hce : P.cellsOf e = 1 := by rw [Program.cellsOf, hi]; simpa using h1
              rw [show (10000 : Nat) = 9998 + 1 + 1 from rfl, run_equalIn_array w (9998 + 1) xs ys hu hi, hce, List.range_eq_range']
              exact items_sound hc hlc hd hld 9998 hl n 0 q (by simpa using hq)
            · cases ht
          · cases ht
        obtain ⟨hg, he⟩ := both
        rw [Sem.run_bind, run_eqGuard_agg w op t X Y xs ys hg, Result.andThen_ok]
        unfold eqOp at h
        split at h
        · cases h
          rw [run_eql_struct, he]
          exact ⟨_, rfl, .v⟩
        · cases h
          rw [run_neq_struct, he]
          exact ⟨_, rfl, .v⟩
        · cases h
  · cases h
theorem un_sound {op : UnOp} {A r : AV} {va : Value} (ha : VR M w ρ A va) (h : un op A = some r) : ∃ v, (Op.unary op va).run P w = .ok v w ∧ VR M w ρ r v := by
  unfold un at h
  split at h
  · obtain rfl := vr_v ha
    split at h
    · cases h; exact ⟨_, rfl, .v⟩
    · cases h
  · obtain rfl := vr_v ha
    split at h
    · cases h; exact ⟨_, rfl, .v⟩
    · cases h
  · cases h
theorem pick_sound {C A B r : AV} {vc va vb : Value} (hc : VR M w ρ C vc) (ha : VR M w ρ A va) (hb : VR M w ρ B vb) (h : pickA C A B = some r) :
    ∃ v, (do pure (.value (if ← asBool vc then va else vb)) : Sem Next).run P w = .ok (.value v) w ∧ VR M w ρ r v := by
  unfold pickA at h
  split at h
  · rename_i p
    obtain rfl := vr_v hc
    cases h
    cases p
    · exact ⟨vb, rfl, hb⟩
    · exact ⟨va, rfl, ha⟩
  · cases h
theorem conv_sound {s d : TypeId} {ks k : IntKind} (hs : P.underlying s = some (.int ks)) (hd : P.underlying d = some (.int k)) {A r : AV} {va : Value} (ha : VR M w ρ A va) (h : convA k A = some r) :
    ∃ v, (convert s d va).run P w = .ok v w ∧ VR M w ρ r v := by
  unfold convA at h
  split at h
  · obtain rfl := vr_v ha
    cases h
    exact ⟨_, by simp only [convert, Sem.run_bind, run_und hs, run_und hd, Result.andThen_ok, Conv.intToInt, Sem.run_pure], .v⟩
  · cases h
theorem s2s_sound {s d : TypeId} (hs : P.underlying s = some .string) (hd : P.underlying d = some .string) {A r : AV} {va : Value} (ha : VR M w ρ A va) (h : s2sA A = some r) :
    ∃ v, (convert s d va).run P w = .ok v w ∧ VR M w ρ r v := by
  unfold s2sA at h
  split at h
  · obtain rfl := vr_v ha
    cases h
    exact ⟨_, by simp only [convert, Sem.run_bind, run_und hs, run_und hd, Result.andThen_ok, Sem.run_pure], .v⟩
  · cases h
theorem liv_some {a r : AV} {o : Option Blk} (h : liv a o = some r) : (∃ b, o = some b) ∧ r = a := by
  cases o with
  | none => cases h
  | some b => cases h; exact ⟨⟨b, rfl⟩, rfl⟩
theorem live_ptr {H : Hp} (hH : HR base M ρ H w) {id i j : Nat} {v : Value} (h : VR M w ρ (.ptr id i j) v) {b : Blk} (hb : hget H id = some b) :
    ∃ L, ρ[id]? = some (some L) ∧ v = .pointer (some ⟨L.g, i * L.k + j, none⟩) := by
  cases h with
  | ptr L hL => exact ⟨L, hL, rfl⟩
  | dptr h0 _ => rw [← hH.dead, hget_some hb] at h0; cases h0
theorem live_sl {H : Hp} (hH : HR base M ρ H w) {id off n : Nat} {v : Value} (h : VR M w ρ (.sl id off n) v) {b : Blk} (hb : hget H id = some b) :
    ∃ L A c, ρ[id]? = some (some L) ∧ off + c = L.cap ∧ n ≤ c ∧ ((off ≠ 0 ∧ c = 0) ∨ A = some ⟨L.g, off * L.k, none⟩) ∧ v = .slice A n c := by
  cases h with
  | sl L hL h1 h2 hA => exact ⟨L, _, _, hL, h1, h2, hA, rfl⟩
  | dsl h0 _ => rw [← hH.dead, hget_some hb] at h0; cases h0
theorem faddr_sound {H : Hp} (hH : HR base M ρ H w) {t : TypeId} {f : Nat} {fs : Array Field} {g : Field} (ht : P.underlying t = some (.struct fs)) (hf : fs[f]? = some g) {k : Nat} (hk : szOf P g.type = some k) {A r : AV} {va : Value} (ha : VR M w ρ A va)
    (h : faddrA H g.offset A = some r) : ∃ v, (Instr.fieldAt t va f).run P w = .ok v w ∧ VR M w ρ r v := by
  obtain ⟨i, hi, rfl, hk0⟩ := szOf_some hk
  have key : ∀ (a : Addr), a.spot = none → (Instr.fieldAt t (.pointer (some a)) f).run P w = .ok (.pointer (some ⟨a.block, a.off + g.offset, none⟩)) w := by
    intro a hs
    have h0 : ¬ i.size = 0 := by omega
    simp [Instr.fieldAt, run_und ht, hf, Instr.sureAddr, fieldPlace, run_size hi, h0, add_spot hs]
  unfold faddrA at h
  split at h
  · rename_i id n j
    obtain ⟨⟨b, hb⟩, rfl⟩ := liv_some h
    obtain ⟨L, hL, rfl⟩ := live_ptr hH ha hb
    exact ⟨_, key _ rfl, by rw [Nat.add_assoc]; exact .ptr L hL⟩
  · rename_i e j
    cases h
    cases ha with
    | @el _ _ _ a U hs hM hm hr =>
      refine ⟨_, key _ hs, .el U rfl hM (fun x c hx hc => ?_) hr⟩
      obtain ⟨q1, q2⟩ := hm x c (by omega) hc
      exact ⟨by simp only [Nat.add_assoc]; rwa [show g.offset + (x - (j + g.offset)) = x - j by omega], q2⟩
  · cases h
theorem iaddr_row_sound {H : Hp} (hH : HR base M ρ H w) {t e : TypeId} (ht : P.underlying t = some (.slice e)) {k : Nat} (hk : szOf P e = some k) {A I r : AV} {va vi : Value} (ha : VR M w ρ A va) (hi : VR M w ρ I vi)
    (h : iaddrA H (.row k) A I = some r) : ∃ v, (Instr.indexAt t va vi).run P w = .ok v w ∧ VR M w ρ r v := by
  obtain ⟨i, hi', rfl, hk0⟩ := szOf_some hk
  have key : ∀ (a : Addr) (kk : IntKind) (n : Int) (len c : Nat), 0 ≤ n ∧ n < len → (Instr.indexAt t (.slice (some a) len c) (.int kk n)).run P w = .ok (.pointer (some (a.add (n.toNat * i.size)))) w := by
    intro a kk n len c hn
    simp only [Instr.indexAt, asIntOf, Sem.run_bind, Sem.run_pure, Result.andThen_ok, run_und ht]
    simp only [if_pos hn, Sem.run_bind, run_size hi', Result.andThen_ok, Sem.run_pure]
  unfold iaddrA at h
  split at h
  · rename_i k k' xs kk n heq
    cases heq
    obtain rfl := vr_v hi
    split at h
    · rename_i hkk
      subst hkk
      unfold elAt at h
      split at h
      · rename_i hn
        cases hx : xs[n.toNat]? with
        | none => rw [hx] at h; cases h
        | some el =>
          rw [hx] at h
          cases h
          cases ha with
          | @lst _ _ _ A cap U hc ha hk' hm hr =>
            obtain ⟨a, rfl, hs, hM⟩ := ha (fun hq => by simp [hq] at hx)
            refine ⟨_, key a kk n xs.length cap hn, ?_⟩
            rw [add_spot hs]
            refine .el (U n.toNat) rfl hM (fun j c _ hc' => ?_) (fun j c hc' => hr _ _ _ _ hx hc')
            have := hm a rfl _ _ _ _ hx hc'
            simp only [Nat.sub_zero, Nat.add_assoc]
            exact this
      · cases h
    · cases h
  · rename_i k id off len kk n heq
    cases heq
    obtain rfl := vr_v hi
    split at h
    · rename_i hn
      cases hb : hget H id with
      | none => rw [hb] at h; cases h
      | some b =>
        rw [hb] at h
        simp only [iaddrB] at h
        split at h
        · rename_i hbk
          cases h
          obtain ⟨L, A, c, hL, h1, h2, hA, rfl⟩ := live_sl hH ha hb
          have hlen : 0 < len := by omega
          obtain rfl : A = some ⟨L.g, off * L.k, none⟩ := by
            rcases hA with hA | hA
            · omega
            · exact hA
          refine ⟨_, key _ kk n len c hn, ?_⟩
          have hLk : L.k = i.size := by rw [(hH.blk id b L (hget_some hb) hL).kk, hbk]
          rw [add_none, hLk]
          have : (VR M w ρ (.ptr id (off + n.toNat) 0) (.pointer (some ⟨L.g, (off + n.toNat) * L.k + 0, none⟩))) := .ptr L hL
          rw [hLk, Nat.add_mul, Nat.add_zero] at this
          exact this
        · cases h
    · cases h
  · rename_i heq; cases heq
  · rename_i heq; cases heq
  · cases h
theorem iaddr_arr_sound {H : Hp} (hH : HR base M ρ H w) {t e : TypeId} {len : Nat} (ht : P.underlying t = some (.array len e)) {k : Nat} (hk : szOf P e = some k) {A I r : AV} {va vi : Value} (ha : VR M w ρ A va) (hi : VR M w ρ I vi)
    (h : iaddrA H (.arr len k) A I = some r) : ∃ v, (Instr.indexAt t va vi).run P w = .ok v w ∧ VR M w ρ r v := by
  obtain ⟨i, hi', rfl, hk0⟩ := szOf_some hk
  have key : ∀ (a : Addr) (kk : IntKind) (n : Int), 0 ≤ n ∧ n < len → (Instr.indexAt t (.pointer (some a)) (.int kk n)).run P w = .ok (.pointer (some (a.add (n.toNat * i.size)))) w := by
    intro a kk n hn
    simp only [Instr.indexAt, asIntOf, Sem.run_bind, Sem.run_pure, Result.andThen_ok, run_und ht, Instr.sureAddr]
    simp only [if_pos hn, Sem.run_bind, run_size hi', Result.andThen_ok, Sem.run_pure]
  unfold iaddrA at h
  split at h
  · rename_i heq; cases heq
  · rename_i heq; cases heq
  · rename_i len' k' id n0 j kk n heq
    cases heq
    obtain rfl := vr_v hi
    split at h
    · rename_i hn
      obtain ⟨⟨b, hb⟩, rfl⟩ := liv_some h
      obtain ⟨L, hL, rfl⟩ := live_ptr hH ha hb
      refine ⟨_, key _ kk n hn, ?_⟩
      rw [add_none, Nat.add_assoc]
      exact .ptr L hL
    · cases h
  · rename_i len' k' el j kk n heq
    cases heq
    obtain rfl := vr_v hi
    split at h
    · rename_i hn
      cases h
      cases ha with
      | @el _ _ _ a U hs hM hm hr =>
        refine ⟨_, key a kk n hn, ?_⟩
        rw [add_spot hs]
        refine .el U rfl hM (fun x c hx hc => ?_) hr
        obtain ⟨q1, q2⟩ := hm x c (by omega) hc
        exact ⟨by simp only [Nat.add_assoc]; rwa [show n.toNat * i.size + (x - (j + n.toNat * i.size)) = x - j by omega], q2⟩
    · cases h
  · cases h
end Go.Proofs.YtbbnecjaojobfaaDoor.Ev
