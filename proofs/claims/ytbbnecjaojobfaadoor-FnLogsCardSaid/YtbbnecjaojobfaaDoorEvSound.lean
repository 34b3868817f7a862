/- One operation, and a region of them, held against the model. -/
import Derived.Test.YtbbnecjaojobfaaDoorEvCall
set_option linter.unusedVariables false
set_option linter.unusedSimpArgs false
set_option linter.constructorNameAsVariable false
namespace Go.Proofs.YtbbnecjaojobfaaDoor.Ev
variable {P : Program} {base : Nat} {M : Nat → Prop} {ρ : Rho} {w : World}
/-- What stands behind an operation that makes or writes memory, but is no call. -/
def Gives (P : Program) (base : Nat) (M : Nat → Prop) (ρ : Rho) (H : Hp) (w : World) (o : Oper) (a : Act) (av : AV) (H' : Hp) : Prop :=
  ∃ v w' M' ρ', ((execOp a.eval o).run P w = .ok (.value v) w' ∨ (execOp a.eval o).run P w = .ok .skip w' ∧ v = undef) ∧ HR base M' ρ' H' w' ∧ Ext M ρ H w M' ρ' H' w' ∧ VR M' w' ρ' av v
theorem Does.gives {S : Sem Value} {H H' : Hp} {o : Oper} {a : Act} {av : AV} (he : execOp a.eval o = (do pure (.value (← S)) : Sem Next)) (h : Does P base M ρ H w S av H') : Gives P base M ρ H w o a av H' := by
  obtain ⟨v, w', M', ρ', h1, h2, h3, h4⟩ := h
  exact ⟨v, w', M', ρ', .inl (by rw [he]; exact run_value h1), h2, h3, h4⟩
def isCall : LOp → Bool
  | .call .. | .callv .. => true
  | _ => false
theorem opd_mem {s : List (Nat × AV)} {a : Act} {xs : List Operand} (h : Opd M ρ w s a xs) {x : Operand} (hx : x ∈ xs) : VR M w ρ ((loOf x).ev s) (a.eval x) := h x hx
theorem pure_gives {z : St} {a : Act} (hH : HR base M ρ z.h w) {o : Oper} (hS : Opd M ρ w z.s a o.op.operands.toList) {l : LOp} (hc : compOp P o.op = some l) {av : AV} {H' : Hp} (he : withH z.h (pureOp z l) = some (av, H')) : Gives P base M ρ z.h w o a av H' := by
  cases hp : pureOp z l with
  | none => rw [hp] at he; cases he
  | some x =>
    rw [hp] at he
    cases he
    obtain ⟨v, h1, h2⟩ := pure_sound hH hS hc hp
    exact ⟨v, w, M, ρ, .inl h1, hH, Ext.refl _ _ _ _, h2⟩
set_option maxHeartbeats 4000000 in
theorem full_gives {E : Env} {C : Clo} {z : St} {a : Act} (hH : HR base M ρ z.h w) (hB : base ≤ w.heap.size) {o : Oper} (hS : Opd M ρ w z.s a o.op.operands.toList) {l : LOp} (hc : compOp P o.op = some l) (hn : isCall l = false) {av : AV} {H' : Hp}
    (he : fullOp E C z l = some (av, H')) : Gives P base M ρ z.h w o a av H' := by
  have pure_case : fullOp E C z l = withH z.h (pureOp z l) → Gives P base M ρ z.h w o a av H' := fun h => pure_gives hH hS hc (h ▸ he)
  cases hop : o.op with
  | alloc e =>
    rw [hop] at hc
    obtain ⟨k, hk, h2⟩ := bind_iff.1 hc
    obtain ⟨zs, hz, h3⟩ := bind_iff.1 h2
    obtain ⟨ag, _, h4⟩ := bind_iff.1 h3
    cases h4
    have he' : some (AV.ptr z.h.length 0 0, z.h ++ [some (⟨e, k, 0, false, [.agg zs]⟩ : Blk)]) = some (av, H') := he
    cases he'
    exact (alloc_sound hH hB hk hz).gives (S := Instr.alloc e true (.tuple #[])) (by unfold execOp; rw [hop])
  | box e x =>
    rw [hop] at hc
    obtain ⟨k, hk, h2⟩ := bind_iff.1 hc
    cases h2
    have he' : boxA e k z.h ((loOf x).ev z.s) = some (av, H') := he
    have hx := hS x (by rw [hop]; simp [Op.operands])
    exact (box_sound hH hB hk hx he').gives (S := Instr.box e (a.eval x)) (by unfold execOp; rw [hop])
  | buildSlice t n parts =>
    rw [hop] at hc
    have hl : ∃ e k, l = .bslice e k (parts.toList.map fun p => loOf p.2) := by
      simp only [compOp] at hc
      split at hc
      · obtain ⟨k, _, h2⟩ := bind_iff.1 hc
        obtain ⟨z0, _, h3⟩ := bind_iff.1 h2
        split at h3
        · exact ⟨_, _, (Option.some.inj h3).symm⟩
        · cases h3
      · cases hc
    obtain ⟨e, k, rfl⟩ := hl
    have he' : bsliceA e k z.h (fzL (fz z.h fzd) (evs z.s (parts.toList.map fun p => loOf p.2))) = some (av, H') := he
    have hS' : Opd M ρ w z.s a (parts.toList.map (·.2)) := fun x hx => hS x (by rw [hop]; simpa [Op.operands] using hx)
    exact (bslice_sound hH hB hS' hc he').gives (S := Instr.buildSlice t n (parts.map fun (i, x) => (i, a.eval x))) (by unfold execOp; rw [hop])
  | store t x y =>
    rw [hop] at hc
    obtain ⟨k, hk, h2⟩ := bind_iff.1 hc
    obtain ⟨ag, _, h3⟩ := bind_iff.1 h2
    cases h3
    simp only [fullOp] at he
    cases hs : storeA z.h k ag ((loOf x).ev z.s) ((loOf y).ev z.s) with
    | none => rw [hs] at he; cases he
    | some H =>
      rw [hs] at he
      cases he
      obtain ⟨w', M', ρ', h1, h2, h3⟩ := store_sound (P := P) (t := t) hH hk (hS x (by rw [hop]; simp [Op.operands])) (hS y (by rw [hop]; simp [Op.operands])) hs
      exact ⟨undef, w', M', ρ', .inr ⟨by unfold execOp; rw [hop]; exact run_unit h1, rfl⟩, h2, h3, .x⟩
  | makeSlice t x y =>
    rw [hop] at hc
    simp only [compOp] at hc
    split at hc
    · rename_i e hu
      obtain ⟨k, hk, h2⟩ := bind_iff.1 hc
      obtain ⟨b, hb, h3⟩ := bind_iff.1 h2
      obtain ⟨zz, hz, h4⟩ := bind_iff.1 h3
      cases h4
      have he' : mksliceA e k b zz z.h ((loOf x).ev z.s) ((loOf y).ev z.s) = some (av, H') := he
      have hx := hS x (by rw [hop]; simp [Op.operands])
      have hy := hS y (by rw [hop]; simp [Op.operands])
      exact (mkslice_sound hH hB hu hk hb hz hx hy he').gives (S := Instr.makeSlice t (a.eval x) (a.eval y)) (by unfold execOp; rw [hop])
    · cases hc
  | convert s d x =>
    rw [hop] at hc
    have hc' := hc
    simp only [compOp] at hc
    split at hc
    · cases hc; exact pure_case rfl
    · cases hc; exact pure_case rfl
    · rename_i e h1 h2
      split at hc
      · rename_i h3
        cases hc
        have he' : s2bA e z.h ((loOf x).ev z.s) = some (av, H') := he
        have hx := hS x (by rw [hop]; simp [Op.operands])
        exact (s2b_sound hH hB h1 h2 h3 hx he').gives (S := Go.convert s d (a.eval x)) (by unfold execOp; rw [hop])
      · cases hc
    · split at hc
      · cases hc; exact pure_case rfl
      · cases hc
    · cases hc
  | call c =>
    rw [hop] at hc
    have hc0 : compOp P o.op = compCall P c := by rw [hop]; rfl
    have hc' : compCall P c = some l := hc
    unfold compCall at hc'
    split at hc'
    · cases hc'; cases hn
    · cases hc'; cases hn
    · split at hc'
      · split at hc' <;> first | (cases hc'; exact pure_case rfl) | cases hc'
      · cases hc'
    · rename_i hb
      split at hc'
      · rename_i s x t u hargs htys
        split at hc'
        · rename_i htu
          subst htu
          split at hc'
          · rename_i e hu
            obtain ⟨k, hk, h2⟩ := bind_iff.1 hc'
            obtain ⟨b, hbb, h3⟩ := bind_iff.1 h2
            obtain ⟨zs, hz, h4⟩ := bind_iff.1 h3
            split at h4
            · rename_i hzl
              cases h4
              obtain ⟨i, hi, rfl, hk0⟩ := szOf_some hk
              obtain ⟨i', z0, hi', hiz, hsz, rfl, hone⟩ := zeroOf_some hz
              rw [hi] at hi'
              cases hi'
              have hbi : b = i.bytes := by
                unfold bytesOfT at hbb
                rw [hi] at hbb
                simpa using hbb.symm
              subst hbi
              have hA : c.args = #[s, x] := by apply Array.ext'; simpa using hargs
              have hT : c.argTypes = #[t, t] := by apply Array.ext'; simpa using htys
              have hs : VR M w ρ ((loOf s).ev z.s) (a.eval s) := hS s (by rw [hop]; simp [Op.operands, Call.operands, hb, hA])
              have hx : VR M w ρ ((loOf x).ev z.s) (a.eval x) := hS x (by rw [hop]; simp [Op.operands, Call.operands, hb, hA])
              have he' : appendA z.h e i.size i.bytes ((loOf s).ev z.s) ((loOf x).ev z.s) = some (av, H') := he
              obtain ⟨v, w', M', ρ', r1, r2, r3, r4⟩ := append_sound (P := P) (ty := o.type) hH hB hu hi hiz hsz hk0 hs hx he'
              refine ⟨v, w', M', ρ', .inl ?_, r2, r3, r4⟩
              rw [call_builtin hop hb a.eval, hA, hT]
              simp only [Go.builtin, pure_bind]
              exact run_value (by simpa using r1)
            · cases h4
          · cases hc'
        · cases hc'
      · cases hc'
    · cases hc'; exact pure_case rfl
    · cases hc'; exact pure_case rfl
    · cases hc'
  | move x => rw [hop] at hc; cases hc; exact pure_case rfl
  | assign x => rw [hop] at hc; cases hc; exact pure_case rfl
  | pick c x y => rw [hop] at hc; cases hc; exact pure_case rfl
  | build t parts =>
    rw [hop] at hc
    have hl : ∃ zs ps, l = .build zs ps := by
      simp only [compOp] at hc
      obtain ⟨zs, _, h2⟩ := bind_iff.1 hc
      split at h2
      · split at h2
        · obtain ⟨ps, _, h3⟩ := bind_iff.1 h2; cases h3; exact ⟨_, ps, rfl⟩
        · cases h2
      · obtain ⟨k, _, h3⟩ := bind_iff.1 h2; cases h3; exact ⟨_, _, rfl⟩
      · cases h2
    obtain ⟨zs, ps, rfl⟩ := hl
    exact pure_case rfl
  | load t x =>
    rw [hop] at hc
    obtain ⟨k, _, h2⟩ := bind_iff.1 hc
    obtain ⟨ag, _, h3⟩ := bind_iff.1 h2
    cases h3
    exact pure_case rfl
  | nilCheck x => rw [hop] at hc; cases hc; exact pure_case rfl
  | binOp op t x y ty =>
    rw [hop] at hc
    simp only [compOp] at hc
    split at hc <;> first | (cases hc; exact pure_case rfl) | (obtain ⟨_, _, hc⟩ := bind_iff.1 hc; cases hc; exact pure_case rfl) | cases hc
  | unOp op t x => rw [hop] at hc; cases hc; exact pure_case rfl
  | makeFunc f x y => rw [hop] at hc; cases hc; exact pure_case rfl
  | slice t x lo hi mx =>
    rw [hop] at hc
    cases mx with
    | some m => cases hc
    | none =>
      simp only [compOp] at hc
      split at hc
      · cases hc; exact pure_case rfl
      · obtain ⟨k, _, h2⟩ := bind_iff.1 hc; cases h2; exact pure_case rfl
      · rename_i n e hu
        split at hc
        · rename_i hnn
          obtain ⟨k, hk, h2⟩ := bind_iff.1 hc
          split at h2
          · rename_i hk1
            cases h2
            subst hk1
            obtain rfl : lo = none := by simpa using hnn.1
            obtain rfl : hi = none := by simpa using hnn.2
            exact (aslice_sound hH hu hk (hS x (by rw [hop]; simp [Op.operands])) he).gives (S := Instr.sliceAt t (a.eval x) none none none) (by unfold execOp; rw [hop]; rfl)
          · cases h2
        · cases hc
      · cases hc
  | fieldAddr t x f =>
    rw [hop] at hc
    simp only [compOp] at hc
    split at hc
    · obtain ⟨g, _, h2⟩ := bind_iff.1 hc
      obtain ⟨k, _, h3⟩ := bind_iff.1 h2
      cases h3
      exact pure_case rfl
    · cases hc
  | field t x f =>
    rw [hop] at hc
    simp only [compOp] at hc
    split at hc
    · obtain ⟨g, _, h2⟩ := bind_iff.1 hc
      obtain ⟨k, _, h3⟩ := bind_iff.1 h2
      obtain ⟨ag, _, h4⟩ := bind_iff.1 h3
      cases h4
      exact pure_case rfl
    · cases hc
  | indexAddr t x i =>
    rw [hop] at hc
    simp only [compOp] at hc
    split at hc
    · obtain ⟨k, _, h2⟩ := bind_iff.1 hc; cases h2; exact pure_case rfl
    · obtain ⟨k, _, h2⟩ := bind_iff.1 hc; cases h2; exact pure_case rfl
    · cases hc
  | index t x i =>
    rw [hop] at hc
    simp only [compOp] at hc
    split at hc
    · cases hc; exact pure_case rfl
    · obtain ⟨k, _, h2⟩ := bind_iff.1 hc
      obtain ⟨ag, _, h3⟩ := bind_iff.1 h2
      cases h3
      exact pure_case rfl
    · cases hc
  | extract x i => rw [hop] at hc; cases hc; exact pure_case rfl
  | _ => rw [hop] at hc; cases hc
/-- Calls of functions and of function values. -/
theorem exec_call {o : Oper} {c : Call} (ho : o.op = .call c) {a : Act} {x : Operand} (hcal : c.callee = .value x) {g : Nat} {va vb : Array Value} (hx : a.eval x = .func (.func g) va vb) (hg : Callable P g) :
    (execOp a.eval o).run P w = .ok (.enter g (va ++ c.args.map a.eval ++ vb)) w := by
  obtain ⟨fn, h1, h2, h3⟩ := hg
  have h3' : (fn.name == "runtime.NumGoroutine") = false := by simpa [bne] using h3
  have h2' : fn.body.isNone = false := by cases hb : fn.body <;> simp_all
  unfold execOp
  rw [ho]
  simp only [resolve, hcal, hx, Deferred.ofValue, pure_bind, invoke, callFunc, Sem.run_bind, run_program, Result.andThen_ok, h1, h3', h2', Bool.false_eq_true, if_false, Sem.run_pure]
theorem args_of {s : List (Nat × AV)} {a : Act} (xs : Array Operand) (hS : Opd M ρ w s a xs.toList) : Args M ρ w (evs s (xs.toList.map loOf)) (xs.map a.eval) := vr_args xs hS
theorem Args.append {as bs : List AV} {us vs : Array Value} (h : Args M ρ w as us) (k : Args M ρ w bs vs) : Args M ρ w (as ++ bs) (us ++ vs) := by
  refine ⟨by simp [h.1, k.1], fun i c u h1 h2 => ?_⟩
  rw [Array.toList_append] at h2
  by_cases hi : i < as.length
  · rw [List.getElem?_append_left hi] at h1
    rw [List.getElem?_append_left (by rw [Array.length_toList]; have := h.1; omega)] at h2
    exact h.2 i c u h1 h2
  · have := h.1
    rw [List.getElem?_append_right (by omega)] at h1
    rw [List.getElem?_append_right (by rw [Array.length_toList]; omega), Array.length_toList, ← this] at h2
    exact k.2 _ c u h1 h2
theorem comp_shape {op : Op} {l : LOp} (hc : compOp P op = some l) : (∃ c, op = .call c) ∨ isCall l = false := by
  cases op with
  | call c => exact .inl ⟨c, rfl⟩
  | move x => cases hc; exact .inr rfl
  | assign x => cases hc; exact .inr rfl
  | pick c x y => cases hc; exact .inr rfl
  | alloc e =>
    obtain ⟨k, _, h2⟩ := bind_iff.1 hc
    obtain ⟨zs, _, h3⟩ := bind_iff.1 h2
    obtain ⟨ag, _, h4⟩ := bind_iff.1 h3
    cases h4; exact .inr rfl
  | box e x => obtain ⟨k, _, h2⟩ := bind_iff.1 hc; cases h2; exact .inr rfl
  | build t parts =>
    simp only [compOp] at hc
    obtain ⟨zs, _, h2⟩ := bind_iff.1 hc
    split at h2
    · split at h2
      · obtain ⟨ps, _, h3⟩ := bind_iff.1 h2; cases h3; exact .inr rfl
      · cases h2
    · obtain ⟨k, _, h3⟩ := bind_iff.1 h2; cases h3; exact .inr rfl
    · cases h2
  | buildSlice t n parts =>
    simp only [compOp] at hc
    split at hc
    · obtain ⟨k, _, h2⟩ := bind_iff.1 hc
      obtain ⟨z0, _, h3⟩ := bind_iff.1 h2
      split at h3
      · cases h3; exact .inr rfl
      · cases h3
    · cases hc
  | load t x =>
    obtain ⟨k, _, h2⟩ := bind_iff.1 hc
    obtain ⟨ag, _, h3⟩ := bind_iff.1 h2
    cases h3; exact .inr rfl
  | store t x y =>
    obtain ⟨k, _, h2⟩ := bind_iff.1 hc
    obtain ⟨ag, _, h3⟩ := bind_iff.1 h2
    cases h3; exact .inr rfl
  | nilCheck x => cases hc; exact .inr rfl
  | binOp op t x y ty =>
    simp only [compOp] at hc
    split at hc <;> first | (cases hc; exact .inr rfl) | (obtain ⟨_, _, hc⟩ := bind_iff.1 hc; cases hc; exact .inr rfl) | cases hc
  | unOp op t x => cases hc; exact .inr rfl
  | convert s d x =>
    simp only [compOp] at hc
    split at hc
    · cases hc; exact .inr rfl
    · cases hc; exact .inr rfl
    · split at hc
      · cases hc; exact .inr rfl
      · cases hc
    · split at hc
      · cases hc; exact .inr rfl
      · cases hc
    · cases hc
  | makeFunc f x y => cases hc; exact .inr rfl
  | makeSlice t x y =>
    simp only [compOp] at hc
    split at hc
    · obtain ⟨k, _, h2⟩ := bind_iff.1 hc
      obtain ⟨b, _, h3⟩ := bind_iff.1 h2
      obtain ⟨zz, _, h4⟩ := bind_iff.1 h3
      cases h4; exact .inr rfl
    · cases hc
  | slice t x lo hi mx =>
    cases mx with
    | some m => cases hc
    | none =>
      simp only [compOp] at hc
      split at hc
      · cases hc; exact .inr rfl
      · obtain ⟨k, _, h2⟩ := bind_iff.1 hc; cases h2; exact .inr rfl
      · split at hc
        · obtain ⟨k, _, h2⟩ := bind_iff.1 hc
          split at h2
          · cases h2; exact .inr rfl
          · cases h2
        · cases hc
      · cases hc
  | fieldAddr t x f =>
    simp only [compOp] at hc
    split at hc
    · obtain ⟨g, _, h2⟩ := bind_iff.1 hc
      obtain ⟨k, _, h3⟩ := bind_iff.1 h2
      cases h3; exact .inr rfl
    · cases hc
  | field t x f =>
    simp only [compOp] at hc
    split at hc
    · obtain ⟨g, _, h2⟩ := bind_iff.1 hc
      obtain ⟨k, _, h3⟩ := bind_iff.1 h2
      obtain ⟨ag, _, h4⟩ := bind_iff.1 h3
      cases h4; exact .inr rfl
    · cases hc
  | indexAddr t x i =>
    simp only [compOp] at hc
    split at hc
    · obtain ⟨k, _, h2⟩ := bind_iff.1 hc; cases h2; exact .inr rfl
    · obtain ⟨k, _, h2⟩ := bind_iff.1 hc; cases h2; exact .inr rfl
    · cases hc
  | index t x i =>
    simp only [compOp] at hc
    split at hc
    · cases hc; exact .inr rfl
    · obtain ⟨k, _, h2⟩ := bind_iff.1 hc
      obtain ⟨ag, _, h3⟩ := bind_iff.1 h2
      cases h3; exact .inr rfl
    · cases hc
  | extract x i => cases hc; exact .inr rfl
  | _ => cases hc
def isBs : LOp → Bool
  | .bslice .. => true
  | _ => false
theorem bs_shape {op : Op} {l : LOp} (hc : compOp P op = some l) : (∃ c, op = .call c) ∨ (∃ t n parts, op = .buildSlice t n parts) ∨ isBs l = false := by
  cases op with
  | call c => exact .inl ⟨c, rfl⟩
  | move x => cases hc; exact .inr (.inr rfl)
  | assign x => cases hc; exact .inr (.inr rfl)
  | pick c x y => cases hc; exact .inr (.inr rfl)
  | alloc e =>
    obtain ⟨k, _, h2⟩ := bind_iff.1 hc
    obtain ⟨zs, _, h3⟩ := bind_iff.1 h2
    obtain ⟨ag, _, h4⟩ := bind_iff.1 h3
    cases h4; exact .inr (.inr rfl)
  | box e x => obtain ⟨k, _, h2⟩ := bind_iff.1 hc; cases h2; exact .inr (.inr rfl)
  | build t parts =>
    simp only [compOp] at hc
    obtain ⟨zs, _, h2⟩ := bind_iff.1 hc
    split at h2
    · split at h2
      · obtain ⟨ps, _, h3⟩ := bind_iff.1 h2; cases h3; exact .inr (.inr rfl)
      · cases h2
    · obtain ⟨k, _, h3⟩ := bind_iff.1 h2; cases h3; exact .inr (.inr rfl)
    · cases h2
  | buildSlice t n parts => exact .inr (.inl ⟨t, n, parts, rfl⟩)
  | load t x =>
    obtain ⟨k, _, h2⟩ := bind_iff.1 hc
    obtain ⟨ag, _, h3⟩ := bind_iff.1 h2
    cases h3; exact .inr (.inr rfl)
  | store t x y =>
    obtain ⟨k, _, h2⟩ := bind_iff.1 hc
    obtain ⟨ag, _, h3⟩ := bind_iff.1 h2
    cases h3; exact .inr (.inr rfl)
  | nilCheck x => cases hc; exact .inr (.inr rfl)
  | binOp op t x y ty =>
    simp only [compOp] at hc
    split at hc <;> first | (cases hc; exact .inr (.inr rfl)) | (obtain ⟨_, _, hc⟩ := bind_iff.1 hc; cases hc; exact .inr (.inr rfl)) | cases hc
  | unOp op t x => cases hc; exact .inr (.inr rfl)
  | convert s d x =>
    simp only [compOp] at hc
    split at hc
    · cases hc; exact .inr (.inr rfl)
    · cases hc; exact .inr (.inr rfl)
    · split at hc
      · cases hc; exact .inr (.inr rfl)
      · cases hc
    · split at hc
      · cases hc; exact .inr (.inr rfl)
      · cases hc
    · cases hc
  | makeFunc f x y => cases hc; exact .inr (.inr rfl)
  | makeSlice t x y =>
    simp only [compOp] at hc
    split at hc
    · obtain ⟨k, _, h2⟩ := bind_iff.1 hc
      obtain ⟨b, _, h3⟩ := bind_iff.1 h2
      obtain ⟨zz, _, h4⟩ := bind_iff.1 h3
      cases h4; exact .inr (.inr rfl)
    · cases hc
  | slice t x lo hi mx =>
    cases mx with
    | some m => cases hc
    | none =>
      simp only [compOp] at hc
      split at hc
      · cases hc; exact .inr (.inr rfl)
      · obtain ⟨k, _, h2⟩ := bind_iff.1 hc; cases h2; exact .inr (.inr rfl)
      · split at hc
        · obtain ⟨k, _, h2⟩ := bind_iff.1 hc
          split at h2
          · cases h2; exact .inr (.inr rfl)
          · cases h2
        · cases hc
      · cases hc
  | fieldAddr t x f =>
    simp only [compOp] at hc
    split at hc
    · obtain ⟨g, _, h2⟩ := bind_iff.1 hc
      obtain ⟨k, _, h3⟩ := bind_iff.1 h2
      cases h3; exact .inr (.inr rfl)
    · cases hc
  | field t x f =>
    simp only [compOp] at hc
    split at hc
    · obtain ⟨g, _, h2⟩ := bind_iff.1 hc
      obtain ⟨k, _, h3⟩ := bind_iff.1 h2
      obtain ⟨ag, _, h4⟩ := bind_iff.1 h3
      cases h4; exact .inr (.inr rfl)
    · cases hc
  | indexAddr t x i =>
    simp only [compOp] at hc
    split at hc
    · obtain ⟨k, _, h2⟩ := bind_iff.1 hc; cases h2; exact .inr (.inr rfl)
    · obtain ⟨k, _, h2⟩ := bind_iff.1 hc; cases h2; exact .inr (.inr rfl)
    · cases hc
  | index t x i =>
    simp only [compOp] at hc
    split at hc
    · cases hc; exact .inr (.inr rfl)
    · obtain ⟨k, _, h2⟩ := bind_iff.1 hc
      obtain ⟨ag, _, h3⟩ := bind_iff.1 h2
      cases h3; exact .inr (.inr rfl)
    · cases hc
  | extract x i => cases hc; exact .inr (.inr rfl)
  | _ => cases hc
theorem no_bslice {op : Op} {e k : Nat} {ps : List LO} (hc : compOp P op = some (.bslice e k ps)) (h1 : ∀ t n parts, op ≠ .buildSlice t n parts) (h2 : ∀ c, op ≠ .call c) : False := by
  rcases bs_shape hc with ⟨c, h⟩ | ⟨t, n, parts, h⟩ | h
  · exact h2 c h
  · exact h1 t n parts h
  · cases h
theorem callee_of {z : St} {a : Act} {o : Oper} (hS : Opd M ρ w z.s a o.op.operands.toList) {l : LOp} (hc : compOp P o.op = some l) (hn : isCall l = true) :
    ∃ (c : Call) (x : Operand), o.op = .call c ∧ c.callee = .value x ∧ Args M ρ w (evs z.s (c.args.toList.map loOf)) (c.args.map a.eval) ∧
      ((∃ f, l = .call f (c.args.toList.map loOf) ∧ a.eval x = .func (.func f) #[] #[]) ∨ (l = .callv (loOf x) (c.args.toList.map loOf) ∧ VR M w ρ ((loOf x).ev z.s) (a.eval x))) := by
  cases hop : o.op with
  | call c =>
    rw [hop] at hc
    have hc' : compCall P c = some l := hc
    unfold compCall at hc'
    have hargs : Opd M ρ w z.s a c.args.toList := fun x hx => hS x (by rw [hop]; simp only [Op.operands, Call.operands, Array.toList_append, List.mem_append]; exact .inr hx)
    split at hc'
    · rename_i f hcal
      cases hc'
      exact ⟨c, _, rfl, hcal, args_of c.args hargs, .inl ⟨f, rfl, rfl⟩⟩
    · rename_i t hcal
      cases hc'
      exact ⟨c, _, rfl, hcal, args_of c.args hargs, .inr ⟨rfl, hS (.tmp t) (by rw [hop]; simp [Op.operands, Call.operands, hcal])⟩⟩
    · split at hc'
      · split at hc' <;> first | (cases hc'; cases hn) | cases hc'
      · cases hc'
    · split at hc'
      · split at hc'
        · split at hc'
          · obtain ⟨k, _, h2⟩ := bind_iff.1 hc'
            obtain ⟨b, _, h3⟩ := bind_iff.1 h2
            obtain ⟨zs, _, h4⟩ := bind_iff.1 h3
            split at h4
            · cases h4; cases hn
            · cases h4
          · cases hc'
        · cases hc'
      · cases hc'
    · cases hc'; cases hn
    · cases hc'; cases hn
    · cases hc'
  | _ =>
    exfalso
    rw [hop] at hc
    rcases comp_shape hc with ⟨c, h⟩ | h
    · cases h
    · rw [h] at hn; cases hn
end Go.Proofs.YtbbnecjaojobfaaDoor.Ev
