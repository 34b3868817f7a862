/- A call that comes back has drawn no less than it had: over every step of the machine. -/
import Derived.Calls
set_option linter.unusedVariables false
set_option linter.unusedSimpArgs false
namespace Go.Proofs.YtlmjoimjdpfamaaGreat.Ev
theorem ask_drawn {α : Type} : ∀ (a : Ask α) (w : World), w.drawn ≤ (w.ask a).2.drawn
  | .done a, w => Nat.le_refl _
  | .ask what range k, w => by
    unfold World.ask
    simp only
    split
    · exact ask_drawn (k 0) w
    · exact Nat.le_trans (Nat.le_succ _) (ask_drawn _ { w with drawn := w.drawn + 1 })
theorem sys_drawn (w : World) (c : Sys) : w.drawn ≤ (w.sys c).2.drawn := by
  unfold World.sys
  have h := ask_drawn (Kernel.perform c w.os) w
  generalize w.ask (Kernel.perform c w.os) = q at h
  split
  · exact Nat.le_refl _
  · rename_i r os w' heq; exact h
theorem viewStore_drawn {p : Program} {w w' : World} {a : Addr} {u : TypeId} {k : Addr} {v : Value} {at_ : Bool} {l : List Addr} (h : w.viewStore p a u k v at_ = .ok (w', l)) : w'.drawn = w.drawn := by
  unfold World.viewStore at h
  simp only [bind, Except.bind, pure, Except.pure] at h
  repeat' (first | (cases h; done) | (cases h; rfl) | (split at h))
theorem farStore_drawn {p : Program} {w w' : World} {a : Addr} {v : Value} {at_ : Bool} {l : List Addr} (h : w.farStore p a v at_ = .ok (w', l)) : w'.drawn = w.drawn := by
  unfold World.farStore at h
  split at h
  · split at h
    · rename_i r hr; cases h; exact viewStore_drawn hr
    · cases h
  · cases h
def resW {α : Type} : Result α → World
  | .ok _ w => w
  | .halt _ w => w
theorem run_drawn {α : Type} (p : Program) : ∀ (s : Sem α) (w : World), w.drawn ≤ (resW (s.run p w)).drawn := by
  intro s
  induction s with
  | pure a => intro w; exact Nat.le_refl _
  | load m a k ih =>
    intro w
    unfold Sem.run
    split
    · exact ih _ w
    · split
      · exact ih _ w
      · exact Nat.le_refl _
  | store m a v k ih =>
    intro w
    have key : ∀ v : Value, w.drawn ≤ (resW (match w.cell? a with
        | some _ => if w.frozen? a then (.halt (.unsupported (.unsafePointer "a write to bytes that a string shares")) w : Result α) else k.run p (w.setCell a v)
        | none => match w.farStore p a v (m == Mode.atomic) with
          | .ok (w, _) => k.run p w
          | .error h => .halt h w)).drawn := by
      intro v
      split
      · split
        · exact Nat.le_refl _
        · exact ih (w.setCell a v)
      · split
        · rename_i hh
          exact Nat.le_trans (Nat.le_of_eq (farStore_drawn hh).symm) (ih _)
        · exact Nat.le_refl _
    cases v <;> first | exact Nat.le_refl _ | exact key _
  | new o k ih => intro w; exact ih _ { w with heap := w.heap.push o }
  | shape r k ih => intro w; exact ih _ w
  | freeze a n k ih =>
    intro w
    refine Nat.le_trans (Nat.le_of_eq ?_) (ih (w.freeze a n))
    unfold World.freeze
    split <;> rfl
  | frozen a k ih => intro w; exact ih _ w
  | getObj r k ih =>
    intro w
    unfold Sem.run
    split
    · exact Nat.le_refl _
    · exact ih _ w
    · exact Nat.le_refl _
  | setObj r o k ih =>
    intro w
    unfold Sem.run
    split
    · exact Nat.le_refl _
    · exact ih { w with heap := w.heap.setIfInBounds r o }
    · exact Nat.le_refl _
  | choose q k ih =>
    intro w
    unfold Sem.run
    split
    · exact ih _ w
    · exact Nat.le_trans (Nat.le_succ _) (ih _ { w with drawn := w.drawn + 1 })
  | sys c k ih => intro w; exact Nat.le_trans (sys_drawn w c) (ih _ _)
  | program k ih => intro w; exact ih _ w
  | mark m k ih => intro w; exact ih w
  | halt h => intro w; exact Nat.le_refl _
theorem runT_run {α : Type} (p : Program) : ∀ (s : Sem α) (w : World) (es : Array Event), (resW ((s.runT p w es).1)) = (resW (s.run p w)) := by
  intro s
  induction s with
  | pure a => intro w es; rfl
  | load m a k ih =>
    intro w es
    unfold Sem.run Sem.runT
    split
    · rename_i h; exact ih _ w _
    · rename_i h
      split
      · exact ih _ w _
      · rfl
  | store m a v k ih =>
    intro w es
    have key : ∀ v : Value, (resW ((match w.cell? a with
        | some _ => if w.frozen? a then ((.halt (.unsupported (.unsafePointer "a write to bytes that a string shares")) w : Result α), es) else k.runT p (w.setCell a v) (es.push ⟨.cell a, true, m == Mode.atomic⟩)
        | none => match w.farStore p a v (m == Mode.atomic) with
          | .ok (w, touched) => k.runT p w (es ++ touched.toArray.map (fun x => (⟨.cell x, true, m == Mode.atomic⟩ : Event)))
          | .error h => (.halt h w, es)).1)) = (resW (match w.cell? a with
        | some _ => if w.frozen? a then (.halt (.unsupported (.unsafePointer "a write to bytes that a string shares")) w : Result α) else k.run p (w.setCell a v)
        | none => match w.farStore p a v (m == Mode.atomic) with
          | .ok (w, _) => k.run p w
          | .error h => .halt h w)) := by
      intro v
      split
      · split
        · rfl
        · exact ih (w.setCell a v) _
      · split
        · exact ih _ _
        · rfl
    cases v <;> first | rfl | exact key _
  | new o k ih => intro w es; exact ih _ { w with heap := w.heap.push o } es
  | shape r k ih => intro w es; exact ih _ w es
  | freeze a n k ih => intro w es; exact ih (w.freeze a n) es
  | frozen a k ih => intro w es; exact ih _ w es
  | getObj r k ih =>
    intro w es
    unfold Sem.run Sem.runT
    split
    · rfl
    · exact ih _ w _
    · rfl
  | setObj r o k ih =>
    intro w es
    unfold Sem.run Sem.runT
    split
    · rfl
    · exact ih { w with heap := w.heap.setIfInBounds r o } _
    · rfl
  | choose q k ih =>
    intro w es
    unfold Sem.run Sem.runT
    split
    · exact ih _ w es
    · exact ih _ { w with drawn := w.drawn + 1 } es
  | sys c k ih => intro w es; exact ih _ _ _
  | program k ih => intro w es; exact ih _ w es
  | mark m k ih => intro w es; exact ih w _
  | halt h => intro w es; rfl
theorem runT_drawn {α : Type} (p : Program) (s : Sem α) (w : World) (es : Array Event) : w.drawn ≤ (resW ((s.runT p w es).1)).drawn := by
  rw [runT_run]; exact run_drawn p s w
theorem run_ok {α : Type} {p : Program} {s : Sem α} {w w' : World} {a : α} (h : s.run p w = .ok a w') : w.drawn ≤ w'.drawn := by
  have := run_drawn p s w; rw [h] at this; exact this
theorem run_halt {α : Type} {p : Program} {s : Sem α} {w w' : World} {a : Halt} (h : s.run p w = .halt a w') : w.drawn ≤ w'.drawn := by
  have := run_drawn p s w; rw [h] at this; exact this
def gsW : GStep → World
  | .go _ w _ => w
  | .comm _ _ _ _ w _ => w
  | .spawn _ _ w _ => w
  | .count _ w _ => w
  | .timer _ _ w _ => w
  | .alone _ _ w _ => w
  | .newcoro _ _ _ w _ => w
  | .coroswitch _ _ _ w _ => w
  | .collect _ w _ => w
  | .watch _ w _ => w
  | .ended _ w _ => w
@[simp] theorem after_world (es : Array Event) (s : GStep) : (gsW (GStep.after es s)) = (gsW s) := by cases s <;> rfl
theorem endWith_drawn (w : World) (fd : Nat) (t : ByteArray) (o : Outcome) : w.drawn ≤ (gsW (endWith w fd t o)).drawn := by
  unfold endWith
  have h := sys_drawn w (.write fd t)
  generalize w.sys (.write fd t) = q at h
  obtain ⟨r, w'⟩ := q
  dsimp only
  split
  · rename_i heq; cases heq; split <;> exact h
  · rename_i heq; cases heq; exact h
  · rename_i heq; cases heq; exact h
theorem dieOf_world (fr : Frame) (a : List ByteArray) (m : String) (b : Bool) (w : World) : (gsW (dieOf fr a m b w)) = w := rfl
theorem endThrow_world (fr : Frame) (m : String) (w : World) : (gsW (endThrow fr m w)) = w := rfl
theorem endPrinting_world (p : Program) (fr : Frame) (v : Value) (w : World) : (gsW (endPrinting p fr v w)) = w := by
  unfold endPrinting
  dsimp only
  split
  · rfl
  · rfl
theorem endFatal_drawn (p : Program) (fr : Frame) (cs : List Frame) (d : Option Dying) (m : String) (w : World) : w.drawn ≤ (gsW (endFatal p fr cs d m w)).drawn := by
  unfold endFatal
  dsimp only
  split
  · rename_i heq; exact run_ok heq
  · rename_i heq; exact run_halt heq
  · rename_i heq; exact run_halt heq
theorem writeOn_drawn (p : Program) (fr : Frame) (d : Dying) (f : Fatal) (w : World) : w.drawn ≤ (gsW (writeOn p fr d f w)).drawn := by
  unfold writeOn
  dsimp only
  split
  · exact Nat.le_refl _
  · rename_i piece rest hp
    generalize hs : (do
      if !(f.whole && f.begun) then
        mark .disable
        if ← Extern.PrintPieces.held then .halt .blocked                                                
        if f.whole then store (printLock (← program)) (.bool true) .atomic                       
        mark .enable
      if piece.size > 65536 then unsupported (.noEntry "a report of more than 65536 bytes")                              
      match ← sys (.write 2 piece) with                                                          
      | .int n => if n != piece.size then unsupported (.noEntry "a report that its descriptor cannot take whole")             
      | .err _ => pure ()
      | _ => unsupported (.noEntry "a report that its descriptor cannot take whole") : Sem Unit) = S
    have h := runT_drawn p S w #[]
    generalize S.runT p w #[] = q at h
    obtain ⟨r, es⟩ := q
    cases r with
    | ok u w' => exact h
    | halt hh w' => cases hh <;> exact h
theorem die_drawn (p : Program) (fr : Frame) (d : Dying) (w : World) : w.drawn ≤ (gsW (die p fr d w)).drawn := by
  unfold die
  split
  · exact writeOn_drawn p fr d _ w
  · split
    · split
      · exact Nat.le_refl _
      · exact endWith_drawn w _ _ _
    · dsimp only
      split
      · exact Nat.le_refl _
      · split
        · rename_i heq; exact run_ok heq
        · rename_i heq; exact run_halt heq
      · rename_i t recv name heq0
        have h := runT_drawn p (invoke (.fn (.method name) #[]) #[.iface t recv]) w #[]
        generalize (invoke (.fn (.method name) #[]) #[.iface t recv]).runT p w #[] = q at h
        obtain ⟨r, es⟩ := q
        rw [after_world]
        dsimp only at h ⊢
        split
        · exact h
        · exact h
        · exact h
        · rw [endPrinting_world]; exact h
        · first | exact h | exact Nat.le_refl _
      · exact Nat.le_refl _
theorem doReturn_world (p : Program) (m : Bool) (fr : Frame) (cs : List Frame) (d : Option Dying) (v : Value) (w : World) : (gsW (doReturn p m fr cs d v w)) = w := by
  unfold doReturn
  repeat' (first | rfl | split)
theorem ite_drawn {c : Prop} [Decidable c] {w : World} {a b : GStep} (h : w.drawn ≤ (gsW a).drawn) (k : w.drawn ≤ (gsW b).drawn) : w.drawn ≤ (gsW (if c then a else b)).drawn := by
  by_cases hc : c
  · rw [if_pos hc]; exact h
  · rw [if_neg hc]; exact k
theorem callDeferred_drawn (p : Program) (fr : Frame) (cs : List Frame) (dy : Option Dying) (d : Deferred) (w : World) : w.drawn ≤ (gsW (callDeferred p fr cs dy d w)).drawn := by
  unfold callDeferred
  refine ite_drawn (Nat.le_refl _) ?_
  · have h := runT_drawn p (invoke d.target d.args) w #[]
    generalize (invoke d.target d.args).runT p w #[] = q at h
    obtain ⟨r, es⟩ := q
    dsimp only
    rw [after_world]
    cases r with
    | ok n w' =>
      cases n with
      | recover => dsimp only; split <;> exact h
      | alone on v => cases on <;> exact h
      | coroswitch c e => cases e <;> exact h
      | _ => exact h
    | halt hh w' =>
      cases hh with
      | fatal m => exact Nat.le_trans h (endFatal_drawn p fr cs dy m w')
      | _ => exact h
theorem unwind_drawn (p : Program) (m : Bool) (fr : Frame) (cs : List Frame) (dy : Option Dying) (w : World) : w.drawn ≤ (gsW (unwind p m fr cs dy w)).drawn := by
  unfold unwind
  split
  · rename_i block args ds heq
    have h := runT_drawn p (Instr.takeDeferred block) w #[]
    generalize (Instr.takeDeferred block).runT p w #[] = q at h
    obtain ⟨r, es⟩ := q
    dsimp only
    rw [after_world]
    cases r <;> exact h
  · exact callDeferred_drawn p _ cs dy _ w
  · split
    · exact Nat.le_refl _
    · split
      · exact Nat.le_refl _
      · split
        · exact Nat.le_refl _
        · split
          · split
            · exact Nat.le_refl _
            · split
              · rename_i heq; exact run_ok heq
              · rename_i heq; exact run_halt heq
              · rename_i heq; exact run_halt heq
          · split
            · rw [endPrinting_world]; exact Nat.le_refl _
            · exact Nat.le_refl _
    · split
      · rw [doReturn_world]; exact Nat.le_refl _
      · rename_i fn heq
        have h := runT_drawn p (results fn fr.tmps) w #[]
        generalize (results fn fr.tmps).runT p w #[] = q at h
        obtain ⟨r, es⟩ := q
        dsimp only
        rw [after_world]
        cases r with
        | ok v w' => rw [doReturn_world]; exact h
        | halt hh w' => cases hh <;> exact h
theorem early_drawn (p : Program) (fr : Frame) (cs : List Frame) (dy : Option Dying) (g : Nat) (w : World) : w.drawn ≤ (gsW (early p fr cs dy g w)).drawn := by
  have hn : ∀ w1 : World, w.drawn ≤ w1.drawn → w.drawn ≤ (gsW (match w1.heap[g]? with
    | some (.pending c elem) => (.go { frame := fr, callers := cs, status := .running, dying := dy } { w1 with heap := w1.heap.setIfInBounds g (.cells c elem) } : GStep)
    | _ => .ended (.stuck "early: the variable does not wait" (fr.pos p)) w1)).drawn := by
    intro w1 h1
    split <;> exact h1
  unfold early
  dsimp only
  repeat' (first | exact hn _ (Nat.le_refl _) | exact Nat.le_refl _ | (rename_i heq; exact hn _ (run_ok heq)) | (rename_i heq; exact run_ok heq) | (rename_i heq; exact run_halt heq) | split)
theorem apply_drawn (p : Program) (listen : Bool) (fr : Frame) (cs : List Frame) (dy : Option Dying) (s : Sem Next) (w : World) : w.drawn ≤ (gsW (stepG.apply p listen fr cs dy s w)).drawn := by
  unfold stepG.apply
  dsimp only
  have h : w.drawn ≤ (resW ((if listen = true then s.runT p w #[] else (s.run p w, #[])).1)).drawn := by
    split
    · exact runT_drawn p s w #[]
    · exact run_drawn p s w
  generalize (if listen = true then s.runT p w #[] else (s.run p w, #[])) = q at h
  obtain ⟨r, es⟩ := q
  dsimp only
  rw [after_world]
  cases r with
  | ok n w' =>
    cases n with
    | recover => dsimp only; (repeat' split) <;> exact h
    | callThen d r s wr => dsimp only; (repeat' split) <;> exact h
    | row r s => dsimp only; (repeat' split) <;> exact h
    | stack r s => dsimp only; (repeat' split) <;> exact h
    | spawn d => exact ite_drawn h h
    | _ => exact h
  | halt hh w' =>
    cases hh with
    | fatal m => exact Nat.le_trans h (endFatal_drawn p fr cs dy m w')
    | unsupported u =>
      cases u with
      | initOrder g => exact Nat.le_trans h (early_drawn p fr cs dy g w')
      | _ => exact h
    | _ => exact h
theorem oper_drawn (p : Program) (listen : Bool) (fr : Frame) (cs : List Frame) (dy : Option Dying) (w : World) : w.drawn ≤ (gsW (stepG.oper p listen fr cs dy w)).drawn := by
  unfold stepG.oper
  split
  · exact Nat.le_refl _
  · split <;> exact apply_drawn _ _ _ _ _ _ _
theorem exec_drawn (p : Program) (m : Bool) (listen : Bool) (fr : Frame) (cs : List Frame) (dy : Option Dying) (w : World) : w.drawn ≤ (gsW (stepG.exec p m listen fr cs dy w)).drawn := by
  have hl : ∀ jump : Option Code, w.drawn ≤ (gsW (match fr.roundOf with
      | none => if jump matches none | some .ret then (.go { frame := { fr with mode := .returning }, callers := cs, status := .running, dying := dy } w : GStep) else .ended (.stuck "exit, goto: no such block or label" (fr.pos p)) w
      | some l =>
        let (r, es) := (Instr.endRound l jump).runT p w #[]
        GStep.after (seen p fr.fn es) <| match r with
        | .ok v w => doReturn p m fr cs dy v w
        | .halt _ w => .ended (.stuck "range over a function: no such loop" (fr.pos p)) w)).drawn := by
    intro jump
    split
    · exact ite_drawn (Nat.le_refl _) (Nat.le_refl _)
    · rename_i l hr
      have h := runT_drawn p (Instr.endRound l jump) w #[]
      generalize (Instr.endRound l jump).runT p w #[] = q at h
      obtain ⟨r, es⟩ := q
      dsimp only
      rw [after_world]
      cases r with
      | ok v w' => rw [doReturn_world]; exact h
      | halt hh w' => exact h
  unfold stepG.exec
  dsimp only
  split
  · exact hl none
  · exact hl (some .ret)
  · exact Nat.le_refl _
  · exact Nat.le_refl _
  · exact Nat.le_refl _
  · exact Nat.le_refl _
  · exact Nat.le_refl _
  · split <;> exact Nat.le_refl _
  · exact Nat.le_refl _
  · exact Nat.le_refl _
  · exact Nat.le_refl _
  · exact Nat.le_refl _
  · rename_i id k heq
    cases hx : exitTo id k with
    | none => exact hl (some (.exit id))
    | some t => exact Nat.le_refl _
  · rename_i l k heq
    cases hx : gotoIn l k with
    | none => exact hl (some (.goto l))
    | some t => exact Nat.le_refl _
  · rename_i f params assign body k heq
    have h := runT_drawn p (Instr.enterLoop fr.fn fr.tmps params assign body fr.roundOf) w #[]
    generalize (Instr.enterLoop fr.fn fr.tmps params assign body fr.roundOf).runT p w #[] = q at h
    obtain ⟨r, es⟩ := q
    dsimp only
    rw [after_world]
    cases r with
    | ok v w' => exact Nat.le_trans h (apply_drawn _ _ _ _ _ _ _)
    | halt hh w' => exact h
  · exact Nat.le_refl _
  · exact apply_drawn _ _ _ _ _ _ _
  · rename_i l k heq
    have h := runT_drawn p (Instr.endLoop l) w #[]
    generalize (Instr.endLoop l).runT p w #[] = q at h
    obtain ⟨r, es⟩ := q
    dsimp only
    rw [after_world]
    cases r with
    | ok v w' => exact h
    | halt hh w' => cases hh <;> exact h
  · exact Nat.le_refl _
  · exact apply_drawn _ _ _ _ _ _ _
  · rename_i row args k heq
    cases hx : Extern.next row with
    | none => exact Nat.le_refl _
    | some e => exact apply_drawn _ _ _ _ _ _ _
  · split
    · exact Nat.le_refl _
    · split
      · rename_i heq; exact run_ok heq
      · rename_i heq; exact run_halt heq
  · exact Nat.le_refl _
  · refine ite_drawn (oper_drawn _ _ _ _ _ _) (Nat.le_refl _)
theorem stepG_drawn (p : Program) (m : Bool) (g : Goroutine) (w : World) (listen : Bool) : w.drawn ≤ (gsW (stepG p m g w listen)).drawn := by
  unfold stepG
  dsimp only
  split
  · exact die_drawn _ _ _ _
  · exact exec_drawn _ _ _ _ _ _ _
  · exact unwind_drawn _ _ _ _ _ _
def stG (d : Nat) : Stepped → Prop
  | .next m => d ≤ m.world.drawn
  | .ended _ _ => True
theorem retime_drawn (m : Machine) (k : Nat) (t : Timer) (a b : Nat) : (retime m k t a b).2.world.drawn = m.world.drawn := by
  unfold retime
  dsimp only
  cases t.chan with
  | none => rfl
  | some c =>
    dsimp only
    unfold drain
    split <;> rfl
theorem timerOp_drawn {m m' : Machine} {op : TimerOp} {v : Value} (h : timerOp m op = .ok (v, m')) : m'.world.drawn = m.world.drawn := by
  unfold timerOp at h
  have hn : ∀ (var : Addr) (f : Nat → Timer → Value × Machine), (∀ k t, (f k t).2.world.drawn = m.world.drawn) → timerOp.named m var f = .ok (v, m') → m'.world.drawn = m.world.drawn := by
    intro var f hf hh
    unfold timerOp.named at hh
    split at hh
    · rename_i k hk
      have h2 := hf k (m.rest.timers.getD k default)
      generalize f k (m.rest.timers.getD k default) = q at hh h2
      cases hh
      exact h2
    · cases hh
  split at h
  · split at h
    · cases h; rfl
    · split at h
      · split at h
        · cases h
        · cases h; rfl
      · cases h
  · exact hn _ _ (fun k t => retime_drawn m k t _ _) h
  · split at h
    · rename_i m2 hm
      have hw : m2.world.drawn = m.world.drawn := by
        unfold timerOp.opened at hm
        split at hm
        · split at hm
          · cases hm; rfl
          · cases hm
        · cases hm; rfl
      exact hn _ _ (fun k t => (retime_drawn m2 k t _ _).trans hw) h
    · cases h
  · cases h; rfl
theorem communicate_ge (p : Program) (rest : Rest) (gs : Array Goroutine) (i : Nat) (g : Goroutine) (cases_ : Array CommCase) (blocking : Bool) (shape : CommShape) (w : World) : stG w.drawn (communicate p rest gs i g cases_ blocking shape w).1 := by
  unfold communicate
  dsimp only
  split
  · trivial
  · split
    · split
      · split
        · rename_i w2 hw
          unfold waitingAt at hw
          split at hw
          · split at hw
            · cases hw; exact Nat.le_refl _
            · cases hw
          · cases hw; exact Nat.le_refl _
        · trivial
      · exact Nat.le_refl _
    · split
      · trivial
      · rename_i k c way w' heq
        have h := run_ok heq
        split
        · split
          · rename_i hq; exact Nat.le_trans h (run_halt hq)
          · trivial
        · exact h
        · exact h
        · split
          · exact h
          · split
            · rename_i hq; have h2 := run_ok hq; exact Nat.le_trans h h2
            · trivial
        · exact h
        · exact h
        · trivial
theorem look_ge (p : Program) (gs : Array Goroutine) (rest : Rest) (w : World) : stG w.drawn (look p gs rest w) := by
  unfold look
  split
  · dsimp only
    split
    · trivial
    · split
      · trivial
      · split
        · rename_i hq; have h2 := run_ok hq; exact h2
        · trivial
        · trivial
  · trivial
theorem runT_ge (p : Program) (m : Machine) (i : Nat) (listen : Bool) : stG m.world.drawn (runT p m i listen).1 := by
  unfold runT
  dsimp only
  have h := stepG_drawn p (i == 0) (m.gs.swapAt! i { (default : Goroutine) with status := .finished }).1 m.world listen
  generalize stepG p (i == 0) (m.gs.swapAt! i { (default : Goroutine) with status := .finished }).1 m.world listen = s at h
  cases s with
  | ended o w es => trivial
  | comm g cs b sh w es =>
    have h2 := communicate_ge p m.rest (m.gs.swapAt! i { (default : Goroutine) with status := .finished }).2 i g cs b sh w
    dsimp only
    generalize communicate p m.rest (m.gs.swapAt! i { (default : Goroutine) with status := .finished }).2 i g cs b sh w = q at h2
    obtain ⟨r, more⟩ := q
    cases r with
    | next m' => exact Nat.le_trans h h2
    | ended o w => trivial
  | go g w es => exact h
  | spawn g c w es => exact h
  | count g w es => dsimp only; split <;> first | trivial | exact h
  | alone g on w es => exact h
  | collect g w es =>
    have h2 := look_ge p ((m.gs.swapAt! i { (default : Goroutine) with status := .finished }).2.setIfInBounds i g) m.rest w
    dsimp only
    generalize look p ((m.gs.swapAt! i { (default : Goroutine) with status := .finished }).2.setIfInBounds i g) m.rest w = q at h2
    cases q with
    | next m' => exact Nat.le_trans h h2
    | ended o w => trivial
  | watch g w es => exact h
  | newcoro g c d w es => exact h
  | coroswitch g c e w es =>
    dsimp only
    split
    · exact h
    · exact h
    · trivial
  | timer g op w es =>
    dsimp only
    split
    · rename_i hq
      have := timerOp_drawn hq
      exact Nat.le_trans h (Nat.le_of_eq this.symm)
    · exact h
    · trivial
    · trivial
theorem serve_ge (p : Program) (m : Machine) (k : Nat) : stG m.world.drawn (serve p m k) := by
  unfold serve
  split
  · trivial
  · exact Nat.le_refl _
  · dsimp only
    split
    · trivial
    · exact Nat.le_refl _
def mvG (d : Nat) : Move → Prop
  | .goroutine m _ => d ≤ m.world.drawn
  | .machine s _ => stG d s
theorem stG_le {d e : Nat} (h : d ≤ e) {s : Stepped} (k : stG e s) : stG d s := by
  cases s with
  | next m => exact Nat.le_trans h k
  | ended o w => trivial
theorem mvG_le {d e : Nat} (h : d ≤ e) {s : Move} (k : mvG e s) : mvG d s := by
  cases s with
  | goroutine m i => exact Nat.le_trans h k
  | machine s ops => exact stG_le h k
theorem askOn_ge (p : Program) (m : Machine) : mvG m.world.drawn (askOn p m) := by
  have hp : ∀ m' : Machine, m.world.drawn ≤ m'.world.drawn → ∀ rs : List Nat, mvG m.world.drawn (match (choose (.sched rs.length)).run p m'.world with
      | .halt _ w => .machine (.ended (.stuck "sched" "") w)
      | .ok k world =>
        if rs.length ≤ 1 then .goroutine { m' with world } (rs.getD k 0) else
        match (choose (.extern "sched.slice" 65536)).run p world with
        | .halt _ w => .machine (.ended (.stuck "sched.slice" "") w)
        | .ok n world => .goroutine { m' with world, rest := { m'.rest with slice := if n = 0 then none else some (rs.getD k 0, n) } } (rs.getD k 0)) := by
    intro m' h rs
    split
    · trivial
    · rename_i k world hq
      have h1 := run_ok hq
      split
      · exact Nat.le_trans h h1
      · split
        · trivial
        · rename_i n world2 hq2
          have h2 := run_ok hq2
          exact Nat.le_trans h (Nat.le_trans h1 h2)
  unfold askOn
  dsimp only
  split
  · trivial
  · rename_i k world hq
    have h1 := run_ok hq
    split
    · exact stG_le (by exact h1) (serve_ge p { m with world := world } _)
    · split
      · split
        · exact h1
        · split
          · exact h1
          · split
            · trivial
            · trivial
      · split
        · exact hp { m with world := world } h1 _
        · split
          · trivial
          · rename_i wq hq2; have h2 := run_ok hq2; exact hp { m with world := wq } (Nat.le_trans h1 h2) (runnable m.gs m.world.os.mono)
          · rename_i hq2; have h2 := run_ok hq2; exact Nat.le_trans h1 h2
          · rename_i kq wq hq2; have h2 := run_ok hq2; exact hp _ (Nat.le_trans h1 h2) (runnable m.gs m.world.os.mono)
theorem ask_ge (p : Program) (m : Machine) : mvG m.world.drawn (ask p m) := by
  unfold ask
  split
  · split
    · trivial
    · rename_i world hq
      have h1 := run_ok hq
      have h2 := look_ge p m.gs m.rest world
      generalize look p m.gs m.rest world = s at h2
      cases s with
      | next m' => exact mvG_le (Nat.le_trans h1 h2) (askOn_ge p m')
      | ended o w => trivial
    · rename_i world hne hq
      have h1 := run_ok hq
      exact mvG_le (by exact h1) (askOn_ge p { m with world := world })
  · exact askOn_ge p m
theorem move_ge (p : Program) (m : Machine) : mvG m.world.drawn (move p m) := by
  unfold move
  split
  · split
    · exact Nat.le_refl _
    · trivial
  · split
    · split
      · exact Nat.le_refl _
      · exact ask_ge p { m with rest := { m.rest with slice := none } }
    · exact ask_ge p m
theorem step_drawn {p : Program} {m m' : Machine} (h : step p m = .next m') : m.world.drawn ≤ m'.world.drawn := by
  unfold step stepT at h
  have h1 := move_ge p m
  generalize move p m = v at h h1
  cases v with
  | goroutine m2 i =>
    have h2 := runT_ge p m2 i true
    dsimp only at h
    rw [h] at h2
    exact Nat.le_trans h1 h2
  | machine s ops =>
    dsimp only at h
    subst h
    exact h1
theorem steps_drawn {p : Program} {m m' : Machine} (h : Steps p m m') : m.world.drawn ≤ m'.world.drawn := by
  obtain ⟨n, hn⟩ := h
  induction n generalizing m with
  | zero => simp only [runN, Stepped.next.injEq] at hn; rw [hn]; exact Nat.le_refl _
  | succ n ih =>
    simp only [runN] at hn
    cases hs : step p m with
    | next m2 => rw [hs] at hn; exact Nat.le_trans (step_drawn hs) (ih hn)
    | ended o w => rw [hs] at hn; simp at hn
/-- A call that comes back has drawn no less than it had. -/
theorem calls_drawn {P : Program} {f : FuncId} {args : Array Value} {w : World} {R : Ending → World → Prop} (h : Calls P f args w R) (hr : ∀ e w', R e w' → ∃ v, e = .returned v) : Calls P f args w fun e w' => R e w' ∧ w.drawn ≤ w'.drawn := by
  intro cs
  obtain ⟨e, w', fr, hR, hC, h3, h4⟩ := h cs
  obtain ⟨v, rfl⟩ := hr e w' hR
  exact ⟨_, w', fr, ⟨hR, steps_drawn hC⟩, hC, h3, h4⟩
end Go.Proofs.YtlmjoimjdpfamaaGreat.Ev
