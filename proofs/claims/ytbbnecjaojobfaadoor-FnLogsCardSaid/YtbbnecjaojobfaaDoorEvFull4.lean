/- The operations that make and write memory, held against the model (fourth part): rows. -/
import Derived.Test.YtbbnecjaojobfaaDoorEvFull3
set_option linter.unusedVariables false
set_option linter.unusedSimpArgs false
set_option linter.constructorNameAsVariable false
namespace Go.Proofs.YtbbnecjaojobfaaDoor.Ev
variable {P : Program} {base : Nat} {M : Nat → Prop} {ρ : Rho} {w : World}
theorem wr64 {x : Int} (h1 : -9223372036854775808 ≤ x) (h2 : x ≤ 9223372036854775807) : IntKind.i64.wrap x = x := by
  have hb : IntKind.i64.bits = 64 := rfl
  have hs : IntKind.i64.signed = true := rfl
  unfold IntKind.wrap
  rw [hb, hs]
  simp only [Bool.true_and, decide_eq_true_eq]
  have e1 : (2 : Int) ^ 64 = 18446744073709551616 := rfl
  have e2 : (2 : Int) ^ (64 - 1) = 9223372036854775808 := rfl
  rw [e1, e2]
  split <;> omega
def rows (k : Nat) : Nat → List AV → List (Nat × Nat × AV)
  | _, [] => []
  | i, a :: r => (i * k, k, a) :: rows k (i + 1) r
theorem fillRow {k : Nat} : ∀ (as : List AV) (i : Nat) (pre rest : List AV), pre.length = i * k → rest.length = as.length * k → okL (elemOk k) as = true → fillP (pre ++ rest) (rows k i as) = some (pre ++ as.flatMap AV.cells)
  | [], i, pre, rest, _, h2, _ => by
    have : rest = [] := List.eq_nil_of_length_eq_zero (by simpa using h2)
    simp [rows, fillP, this]
  | a :: as, i, pre, rest, h1, h2, h3 => by
    simp only [okL, Bool.and_eq_true] at h3
    obtain ⟨q1, q2⟩ := elemOk_some h3.1
    simp only [List.length_cons, Nat.add_mul, Nat.one_mul] at h2
    simp only [rows, fillP]
    rw [if_pos ⟨q1, by simp; omega, q2⟩]
    have e1 : (pre ++ rest).take (i * k) = pre := by rw [← h1]; simp
    have e2 : (pre ++ rest).drop (i * k + k) = rest.drop k := by rw [← h1]; simp
    rw [e1, e2, fillRow as (i + 1) (pre ++ a.cells) (rest.drop k) (by simp [h1, q1, Nat.add_mul]) (by simp; omega) h3.2]
    simp
theorem flat_at {k : Nat} : ∀ (as : List AV) (i j : Nat) (e c : AV), okL (elemOk k) as = true → as[i]? = some e → e.cells[j]? = some c → (as.flatMap AV.cells)[i * k + j]? = some c
  | [], i, j, e, c, _, h, _ => by simp at h
  | a :: as, i, j, e, c, h3, h, hc => by
    simp only [okL, Bool.and_eq_true] at h3
    obtain ⟨q1, q2⟩ := elemOk_some h3.1
    rw [List.flatMap_cons]
    cases i with
    | zero =>
      simp at h
      subst h
      rw [List.getElem?_append_left (by have := (List.getElem?_eq_some_iff.1 hc).1; omega)]
      simpa using hc
    | succ i =>
      have := flat_at as i j e c h3.2 (by simpa using h) hc
      rw [Nat.add_mul, Nat.one_mul, List.getElem?_append_right (by omega), q1]
      rwa [show i * k + k + j - k = i * k + j by omega]
theorem flat_len {k : Nat} : ∀ (as : List AV), okL (elemOk k) as = true → (as.flatMap AV.cells).length = as.length * k
  | [], _ => by simp
  | a :: as, h3 => by
    simp only [okL, Bool.and_eq_true] at h3
    obtain ⟨q1, q2⟩ := elemOk_some h3.1
    rw [List.flatMap_cons, List.length_append, flat_len as h3.2, q1, List.length_cons, Nat.add_mul]
    omega
theorem okL_at {f : AV → Bool} : ∀ {as : List AV}, okL f as = true → ∀ (i : Nat) (e : AV), as[i]? = some e → f e = true
  | [], _, i, e, h => by simp at h
  | a :: as, h3, i, e, h => by
    simp only [okL, Bool.and_eq_true] at h3
    cases i with
    | zero => simp at h; subst h; exact h3.1
    | succ i => exact okL_at h3.2 i e (by simpa using h)
theorem rows_get {k : Nat} : ∀ (as : List AV) (i x : Nat) (p : Nat × Nat × AV), (rows k i as)[x]? = some p → ∃ a, as[x]? = some a ∧ p = ((i + x) * k, k, a)
  | [], i, x, p, h => by simp [rows] at h
  | a :: as, i, x, p, h => by
    cases x with
    | zero => simp [rows] at h; exact ⟨a, rfl, by rw [← h]; simp⟩
    | succ x =>
      obtain ⟨a', h1, h2⟩ := rows_get as (i + 1) x p (by simpa [rows] using h)
      exact ⟨a', by simpa using h1, by rw [h2, show i + 1 + x = i + (x + 1) by omega]⟩
theorem rows_len {k : Nat} : ∀ (as : List AV) (i : Nat), (rows k i as).length = as.length
  | [], _ => rfl
  | a :: as, i => by simp [rows, rows_len as]
theorem bslice_run {t e : TypeId} {i : TypeInfo} {z : Value} (ht : P.underlying t = some (.slice e)) (hi : P.info? e = some i) (hz : i.zero = some z) (hzs : z.cells.size = i.size) (hz1 : ∀ u ∈ z.cells.toList, u.oneCell' = true) (hk0 : 0 < i.size) {n : Nat} (hn : n * i.size ≤ 16777216)
    {as : List AV} (hlen : as.length = n) (hok : okL (elemOk i.size) as = true) {parts : Array (Nat × Value)} (hidx : parts.toList.map (·.1) = List.range n) (hrel : ∀ (x : Nat) (a : AV) (q : Nat × Value), as[x]? = some a → parts.toList[x]? = some q → VR M w [] a q.2) :
    ∃ Z : Array Value, (Instr.buildSlice t n parts).run P w = .ok (.slice (some ⟨w.heap.size, 0, none⟩) n n) (w.alloc (.cells Z e)) ∧ Z.size = n * i.size ∧
      ∀ (x : Nat) (el : AV) (j : Nat) (c : AV), as[x]? = some el → el.cells[j]? = some c → ∃ u, Z[x * i.size + j]? = some u ∧ u.oneCell' = true ∧ VR M w [] c u := by
  obtain ⟨zc, hzc⟩ : ∃ zc : Array Value, zc = (if n * i.size = 0 then #[] else z.cells) := ⟨_, rfl⟩
  obtain ⟨Z0, hZ0⟩ : ∃ Z0 : Array Value, Z0 = (Array.range (n * i.size)).map (fun x => zc[x % zc.size]!) := ⟨_, rfl⟩
  have hZ0s : Z0.size = n * i.size := by rw [hZ0]; simp
  have hZ01 : ∀ u ∈ Z0.toList, u.oneCell' = true := by
    intro u hu
    rw [hZ0] at hu
    simp only [Array.toList_map, List.mem_map] at hu
    obtain ⟨x, hx, rfl⟩ := hu
    have hx' : x < n * i.size := by simpa using hx
    have hnz : ¬ n * i.size = 0 := by omega
    rw [hzc, if_neg hnz]
    have hlt : x % z.cells.size < z.cells.size := Nat.mod_lt _ (by omega)
    rw [getElem!_pos z.cells _ hlt]
    exact hz1 _ (by rw [← Array.getElem_toList]; exact List.getElem_mem _)
  have hvals : RC M w [] (Z0.toList.map .v) Z0.toList := RC.vals hZ01
  have hfill := fillRow (k := i.size) as 0 [] (Z0.toList.map .v) (by simp) (by simp [hZ0s, hlen]) hok
  simp only [List.nil_append] at hfill
  have hpl : parts.toList.length = n := by have := congrArg List.length hidx; simpa using this
  obtain ⟨Z', h1, h2⟩ := fill_sound (M := M) (w := w) (ρ := []) (fun x => some (x * i.size, i.size)) (rows i.size 0 as) parts.toList _ _ Z0 hvals (by rw [rows_len, hlen, hpl]) (fun x p q hp hq => by
    obtain ⟨a, ha, rfl⟩ := rows_get as 0 x p hp
    have hq1 : q.1 = x := by
      have h3 : (parts.toList.map (·.1))[x]? = some q.1 := by rw [List.getElem?_map, hq]; rfl
      rw [hidx] at h3
      have hx : x < n := by have := (List.getElem?_eq_some_iff.1 hq).1; omega
      rw [List.getElem?_range hx] at h3
      cases h3
      rfl
    refine ⟨by simp [hq1], hrel x a q ha hq⟩) hfill
  have hZs : Z'.size = n * i.size := by have := h2.len; rw [flat_len as hok, hlen] at this; simpa using this.symm
  refine ⟨Z', ?_, hZs, fun x el j c hx hc => ?_⟩
  · have hgt : ¬ n * i.size > 16777216 := by omega
    have hz2 : (zeroValue e).run P w = .ok z w := by simp [zeroValue, typeInfo, hi, hz]
    rw [hZ0, hzc] at h1
    simp only [Instr.buildSlice, Sem.run_bind, run_und ht, Result.andThen_ok, run_size hi]
    have hgt' : ¬ n * i.size > 2 ^ 24 := by omega
    rw [if_neg hgt']
    by_cases hz0 : n * i.size = 0
    · rw [if_pos hz0] at h1
      simp only [hz0, if_true, Sem.run_bind, Sem.run_pure, Result.andThen_ok] at h1 ⊢
      simp only [h1, newRow, Sem.run_bind, run_newObj, Result.andThen_ok, Sem.run_pure]
      rfl
    · rw [if_neg hz0] at h1
      simp only [hz0, if_false, Sem.run_bind, hz2, Sem.run_pure, Result.andThen_ok] at h1 ⊢
      simp only [h1, newRow, Sem.run_bind, run_newObj, Result.andThen_ok, Sem.run_pure]
      rfl
  · have hf := flat_at as x j el c hok hx hc
    obtain ⟨u, hu⟩ := get_of_len h2.len.symm hf
    exact ⟨u, by rw [← Array.getElem?_toList]; exact hu, h2.one u (List.mem_of_getElem? hu), h2.all _ c u hf hu⟩
/-- A row of literals, its parts frozen first. -/
theorem bslice_sound {H : Hp} (hH : HR base M ρ H w) (hB : base ≤ w.heap.size) {s : List (Nat × AV)} {a : Act} {t : TypeId} {n : Nat} {parts : Array (Nat × Operand)} (hS : Opd M ρ w s a (parts.toList.map (·.2))) {e k : Nat} {los : List LO} (hc : compOp P (.buildSlice t n parts) = some (.bslice e k los))
    {r : AV} {H' : Hp} (h : bsliceA e k H (fzL (fz H fzd) (evs s los)) = some (r, H')) : Does P base M ρ H w (Instr.buildSlice t n (parts.map fun (i, x) => (i, a.eval x))) r H' := by
  simp only [compOp] at hc
  split at hc
  · rename_i e' hu
    obtain ⟨k', hk, h2⟩ := bind_iff.1 hc
    obtain ⟨zs, hz, h3⟩ := bind_iff.1 h2
    split at h3
    · rename_i hcd
      cases h3
      obtain ⟨i, hi, rfl, hk0⟩ := szOf_some hk
      obtain ⟨i', z, hi', hiz, hsz, rfl, hone⟩ := zeroOf_some hz
      rw [hi] at hi'
      cases hi'
      cases hq : fzL (fz H fzd) (evs s (parts.toList.map fun p => loOf p.2)) with
      | none => rw [hq] at h; cases h
      | some q =>
        obtain ⟨as, l⟩ := q
        rw [hq] at h
        simp only [bsliceA] at h
        split at h
        · rename_i hok
          cases h
          obtain ⟨m1, m2⟩ := hH.mark l
          have hlen : as.length = n := by
            have h5 := fzL_len hq
            have h6 := congrArg List.length hcd.2.2
            simp [evs] at h5 h6
            omega
          have hpl : (parts.map fun (i, x) => (i, a.eval x)).toList.map (·.1) = List.range n := by rw [← hcd.2.2]; simp
          obtain ⟨Z, r1, r2, r3⟩ := bslice_run (M := Mu M ρ l) (w := w) hu hi hiz hsz hone hk0 hcd.2.1 hlen hok hpl (fun x av q ha hq' => by
            have hps : (parts.map fun (i, x) => (i, a.eval x)).toList = parts.toList.map fun p => (p.1, a.eval p.2) := by simp
            rw [hps, List.getElem?_map] at hq'
            cases hpx : parts.toList[x]? with
            | none => rw [hpx] at hq'; cases hq'
            | some p0 =>
              rw [hpx] at hq'
              cases hq'
              refine fzL_ok (fz_ok hH fzd) hq x _ av _ ?_ ha (hS p0.2 (List.mem_map_of_mem (List.mem_of_getElem? hpx)))
              simp [evs, hpx])
          obtain ⟨p1, p2⟩ := HR.push (w' := w.alloc (.cells Z e)) (fr := (0, 0)) (b := ⟨e, i.size, 1, false, as⟩) (cap := n) m1 hB rfl rfl rfl rfl r2 hk0 rfl (.inl rfl) (by
              have : n * 1 ≤ n * i.size := Nat.mul_le_mul_left n hk0
              have := hcd.2.1
              unfold maxLen
              omega) (by simp [hlen]) (fun x el hx => (elemOk_some (okL_at hok x el hx)).1) r3
          refine ⟨_, _, _, _, r1, p1, m2.trans p2, ?_⟩
          have hr := push_ref m1 (⟨w.heap.size, n, i.size⟩ : Loc)
          rw [markRo_len] at hr
          rw [hlen]
          exact VR.sl (A := some ⟨w.heap.size, 0, none⟩) _ hr (Nat.zero_add _) (Nat.le_refl _) (.inr (by simp))
        · cases h
    · cases h3
  · cases hc
theorem allOne_at : ∀ {l : List AV}, allOne l = true → ∀ (i : Nat) (c : AV), l[i]? = some c → c.one = true
  | [], _, i, c, h => by simp at h
  | a :: r, ho, i, c, h => by
    have ho' : (a.one && allOne r) = true := ho
    rw [Bool.and_eq_true] at ho'
    cases i with
    | zero => simp at h; subst h; exact ho'.1
    | succ i => exact allOne_at ho'.2 i c (by simpa using h)
theorem one_cells {c : AV} (h : c.one = true) : c.cells = [c] := by
  cases c <;> first | rfl | (simp [AV.one] at h; done)
/-- A whole array as a row, frozen first. -/
theorem aslice_sound {H : Hp} (hH : HR base M ρ H w) {t e : TypeId} {n : Nat} (hu : P.underlying t = some (.array n e)) (hk : szOf P e = some 1) {A r : AV} {va : Value} (ha : VR M w ρ A va) {H' : Hp}
    (h : asliceA n H (fz H fzd A) = some (r, H')) : Does P base M ρ H w (Instr.sliceAt t va none none none) r H' := by
  obtain ⟨i, hi, hi1, hk0⟩ := szOf_some hk
  cases hq : fz H fzd A with
  | none => rw [hq] at h; cases h
  | some q =>
    obtain ⟨b, l⟩ := q
    rw [hq] at h
    have hz := fz_ok hH fzd A va b l hq ha
    unfold asliceA at h
    split at h
    · rename_i el l' heq
      cases heq
      split at h
      · rename_i hc
        cases h
        obtain ⟨m1, m2⟩ := hH.mark l
        cases hz with
        | @el _ _ _ ad U hs hM hm hr =>
          have hrun : (Instr.sliceAt t (.pointer (some ad)) none none none).run P w = .ok (.slice (some ad) n n) w := by
            have hb := bounds_run (P := P) (M := M) (ρ := ρ) (w := w) (isS := false) (len := n) (cap := n) (lo := none) (hi := none) (vlo := none) (vhi := none) trivial trivial (l := 0) (h := (n : Int)) rfl rfl (by omega) (by omega) (by omega)
            have hn0 : ¬ n = 0 := by omega
            simp only [Int.toNat_natCast] at hb
            simp only [Instr.sliceAt, Sem.run_bind, run_und hu, Result.andThen_ok, Instr.sureAddr, Sem.run_pure, hb, run_size hi]
            have had : ad.add 0 = ad := by
              rw [add_spot hs]
              cases ad
              simp at hs
              subst hs
              rfl
            simp [hn0, had]
          refine ⟨_, _, _, _, hrun, m1, m2, ?_⟩
          have one : ∀ (x : Nat) (c : AV), el.cells[x]? = some c → c.cells = [c] := fun x c hx => one_cells (allOne_at hc.2.2 x c hx)
          have key : VR (Mu M ρ l) w [] (.lst 1 el.cells) (.slice (some ad) el.cells.length n) := by
            refine .lst (fun x _ => U x) (by omega) (fun _ => ⟨ad, rfl, hs, hM⟩) (fun x c hx => by rw [one x c hx]; rfl) (fun a' ha' x c j c' hx hj => ?_) (fun x c j c' hx hj => ?_)
            · cases ha'
              rw [one x c hx] at hj
              have hj0 : j = 0 := by have := (List.getElem?_eq_some_iff.1 hj).1; simp at this; omega
              subst hj0
              have := hm x c (Nat.zero_le _) hx
              rw [Nat.sub_zero] at this
              simpa using this
            · rw [one x c hx] at hj
              have hj0 : j = 0 := by have := (List.getElem?_eq_some_iff.1 hj).1; simp at this; omega
              subst hj0
              simp at hj
              subst hj
              exact hr x c hx
          rw [hc.1] at key
          exact key.up ρ
      · cases h
    · cases h
theorem bytesWorld_heap (w : World) (e : TypeId) (s : ByteArray) : (Lib.bytesWorld w e s).heap = w.heap.push (.cells (Lib.bytesCells w e s) e ((Lib.bytesCells w e s).size, (Lib.bytesCells w e s).size + 1)) := by
  apply Array.ext_getElem?
  intro j
  rw [Array.getElem?_push]
  by_cases h1 : j = w.heap.size
  · subst h1
    rw [if_pos rfl]
    exact Lib.bytesWorld_at_new w e s
  · rw [if_neg h1]
    by_cases h2 : j < w.heap.size
    · exact Lib.bytesWorld_at_old w e s j h2
    · rw [Array.getElem?_eq_none (by rw [Lib.bytesWorld_size]; omega), Array.getElem?_eq_none (by omega)]
theorem s2b_sound {H : Hp} (hH : HR base M ρ H w) (hB : base ≤ w.heap.size) {s d e : TypeId} (hs : P.underlying s = some .string) (hd : P.underlying d = some (.slice e)) (he : P.underlying e = some (.int .u8)) {A r : AV} {va : Value} (ha : VR M w ρ A va) {H' : Hp}
    (h : s2bA e H A = some (r, H')) : Does P base M ρ H w (convert s d va) r H' := by
  unfold s2bA at h
  split at h
  · rename_i x
    split at h
    · rename_i hl
      cases h
      obtain rfl := vr_v ha
      have hrun := Lib.run_convert_string_bytes (P := P) w s d e x hs hd he
      have hge : x.size ≤ grownCap w x.size 0 e := grownCap_ge w x.size 0 e
      have hcs : (Lib.bytesCells w e x).size = grownCap w x.size 0 e * 1 := by
        simp only [Lib.bytesCells, Array.size_append, Array.size_map, Array.size_replicate]
        have : x.data.size = x.size := rfl
        omega
      obtain ⟨p1, p2⟩ := HR.push (w' := Lib.bytesWorld w e x) (b := ⟨e, 1, 2, false, u8s x.data.toList⟩) (cap := grownCap w x.size 0 e) hH hB (bytesWorld_heap w e x) rfl rfl rfl hcs Nat.one_pos rfl (.inr ⟨rfl, Nat.le_refl _⟩)
        (grownCap_le_maxLen w _ _ _ (by unfold maxLen; omega)) (by simp [u8s]; exact hge) (fun i y hy => by
          simp only [u8s, List.getElem?_map] at hy
          cases hx : x.data.toList[i]? with
          | none => rw [hx] at hy; cases hy
          | some b => rw [hx] at hy; cases hy; rfl) (fun i y j c hy hc => by
          simp only [u8s, List.getElem?_map] at hy
          cases hx : x.data.toList[i]? with
          | none => rw [hx] at hy; cases hy
          | some b =>
            rw [hx] at hy
            cases hy
            cases j with
            | succ j => simp [AV.cells] at hc
            | zero =>
              simp [AV.cells] at hc
              subst hc
              refine ⟨.int .u8 b.toNat, ?_, rfl, .v⟩
              have hlt : i < x.data.size := by simpa using (List.getElem?_eq_some_iff.1 hx).1
              simp only [Lib.bytesCells, Nat.mul_one, Nat.add_zero]
              rw [Array.getElem?_append_left (by simpa using hlt), Array.getElem?_map, ← Array.getElem?_toList, hx]
              rfl)
      refine ⟨_, _, _, _, hrun, p1, p2, ?_⟩
      have hr := push_ref hH (⟨w.heap.size, grownCap w x.size 0 e, 1⟩ : Loc)
      exact VR.sl (A := some ⟨w.heap.size, 0, none⟩) _ hr (Nat.zero_add _) hge (.inr (by simp))
    · cases h
  · cases h
theorem zeroEl_some {t : TypeId} {zz : AV} (h : zeroEl P t = some zz) : ∃ i z, P.info? t = some i ∧ i.zero = some z ∧ z.cells.size = i.size ∧ (∀ u ∈ z.cells.toList, u.oneCell' = true) ∧ zz.cells = z.cells.toList.map .v := by
  unfold zeroEl at h
  obtain ⟨zs, hz, h2⟩ := bind_iff.1 h
  obtain ⟨ag, hag, h3⟩ := bind_iff.1 h2
  obtain ⟨i, z, hi, hiz, hsz, rfl, hone⟩ := zeroOf_some hz
  refine ⟨i, z, hi, hiz, hsz, hone, ?_⟩
  cases ag with
  | true => rw [mk_true h3]; rfl
  | false =>
    have h4 := mk_false h3
    have hzz : ∃ c, zz = .v c ∧ c.oneCell' = true := by
      cases hl : z.cells.toList with
      | nil => rw [hl] at h4; cases h4
      | cons c r =>
        rw [hl] at h4
        simp only [List.map_cons, List.cons.injEq] at h4
        exact ⟨c, h4.1.symm, hone c (by rw [hl]; simp)⟩
    obtain ⟨c, rfl, hc⟩ := hzz
    rw [h4]
    cases c <;> first | rfl | (simp [Value.oneCell'] at hc; done)
theorem mkslice_sound {H : Hp} (hH : HR base M ρ H w) (hB : base ≤ w.heap.size) {t e : TypeId} (hu : P.underlying t = some (.slice e)) {k : Nat} (hk : szOf P e = some k) {b : Nat} (hb : bytesOfT P e = some b) {zz : AV} (hz : zeroEl P e = some zz) {A C r : AV} {va vc : Value}
    (ha : VR M w ρ A va) (hc : VR M w ρ C vc) {H' : Hp} (h : mksliceA e k b zz H A C = some (r, H')) : Does P base M ρ H w (Instr.makeSlice t va vc) r H' := by
  obtain ⟨i, hi, rfl, hk0⟩ := szOf_some hk
  obtain ⟨i', z, hi', hiz, hsz, hone, hcells⟩ := zeroEl_some hz
  rw [hi] at hi'
  cases hi'
  have hbb : b = i.bytes := by
    unfold bytesOfT at hb
    rw [hi] at hb
    simpa using hb.symm
  subst hbb
  unfold mksliceA at h
  split at h
  · rename_i k1 n k2 m
    split at h
    · rename_i hcd
      obtain ⟨c1, c2, c3, c4⟩ := hcd
      cases h
      obtain rfl := vr_v ha
      obtain rfl := vr_v hc
      obtain ⟨mm, rfl⟩ : ∃ mm : Nat, m = mm := ⟨m.toNat, by omega⟩
      obtain ⟨nn, rfl⟩ : ∃ nn : Nat, n = nn := ⟨n.toNat, by omega⟩
      have w1 : IntKind.i64.wrap (nn : Int) = nn := wr64 (by omega) (by omega)
      have w2 : IntKind.i64.wrap (mm : Int) = mm := wr64 (by omega) (by omega)
      have hbm : (i.bytes : Int) * mm ≤ 140737488355328 := by rw [Int.mul_comm]; exact c3
      obtain ⟨zc, hzc⟩ : ∃ zc : Array Value, zc = (if mm * i.size = 0 then #[] else z.cells) := ⟨_, rfl⟩
      obtain ⟨Z, hZ⟩ : ∃ Z : Array Value, Z = (Array.range (mm * i.size)).map (fun x => zc[x % zc.size]!) := ⟨_, rfl⟩
      have hZs : Z.size = mm * i.size := by rw [hZ]; simp
      have hrun : (Instr.makeSlice t (.int k1 nn) (.int k2 mm)).run P w = .ok (.slice (some ⟨w.heap.size, 0, none⟩) nn mm) (w.alloc (.cells Z e)) := by
        simp only [Instr.makeSlice, Sem.run_bind, run_und hu, Result.andThen_ok, asInt, asIntOf, Sem.run_pure, typeInfo, run_program, hi, w1, w2]
        have hf : ((decide ((mm : Int) < 0) || decide ((i.bytes : Int) * mm > 2 ^ 48)) || decide ((nn : Int) < 0) || decide ((nn : Int) > mm)) = false := by
          simp only [Bool.or_eq_false_iff, decide_eq_false_iff_not]
          omega
        have hz2 : (zeroValue e).run P w = .ok z w := by simp [zeroValue, typeInfo, hi, hiz]
        simp only [hf, Bool.false_eq_true, if_false, Sem.run_bind, run_askRoom, Result.andThen_ok, run_size hi, Int.toNat_natCast, Sem.run_ite, Sem.run_pure, hz2]
        rw [hZ, hzc]
        by_cases hz0 : mm * i.size = 0
        · simp [hz0, newRow]
        · simp [hz0, newRow]
      have hcell : ∀ (x : Nat) (el : AV) (j : Nat) (c : AV), (List.replicate nn zz)[x]? = some el → el.cells[j]? = some c → ∃ u, Z[x * i.size + j]? = some u ∧ u.oneCell' = true ∧ VR M w [] c u := by
        intro x el j c hx hcc
        rw [List.getElem?_replicate] at hx
        split at hx
        · rename_i hxn
          cases hx
          rw [hcells, List.getElem?_map] at hcc
          cases hzj : z.cells.toList[j]? with
          | none => rw [hzj] at hcc; cases hcc
          | some u =>
            rw [hzj] at hcc
            cases hcc
            have hj : j < i.size := by rw [← hsz]; simpa using (List.getElem?_eq_some_iff.1 hzj).1
            have hlt : x * i.size + j < mm * i.size := by
              have : (x + 1) * i.size ≤ mm * i.size := Nat.mul_le_mul_right _ (by omega)
              rw [Nat.add_mul] at this
              omega
            refine ⟨u, ?_, hone u (List.mem_of_getElem? hzj), .v⟩
            have hnz : ¬ mm * i.size = 0 := by omega
            rw [hZ, Array.getElem?_map, Array.getElem?_range, if_pos hlt]
            simp only [Option.map_some, Option.some.injEq]
            rw [hzc, if_neg hnz, hsz, Nat.mul_comm x, Nat.mul_add_mod, Nat.mod_eq_of_lt hj, getElem!_pos z.cells j (by omega)]
            rw [Array.getElem?_toList, Array.getElem?_eq_getElem (by omega)] at hzj
            exact Option.some.inj hzj
        · cases hx
      obtain ⟨p1, p2⟩ := HR.push (w' := w.alloc (.cells Z e)) (fr := (0, 0)) (b := ⟨e, i.size, 1, false, List.replicate nn zz⟩) (cap := mm) hH hB rfl rfl rfl rfl hZs hk0 rfl (.inl rfl) (by unfold maxLen; omega) (by simp; omega) (fun x el hx => by
        rw [List.getElem?_replicate] at hx
        split at hx
        · cases hx; rw [hcells]; simp [hsz]
        · cases hx) hcell
      refine ⟨_, _, _, _, hrun, p1, p2, ?_⟩
      have hr := push_ref hH (⟨w.heap.size, mm, i.size⟩ : Loc)
      rw [Int.toNat_natCast]
      exact VR.sl (A := some ⟨w.heap.size, 0, none⟩) _ hr (Nat.zero_add _) (by omega) (.inr (by simp))
    · cases h
  · cases h
end Go.Proofs.YtbbnecjaojobfaaDoor.Ev
