/- The translated code, made plain: what the evaluator takes of a function of a program. -/
import Derived.Test.YtbbnecjaojobfaaDoorEvCore
set_option linter.unusedVariables false
set_option linter.unusedSimpArgs false
set_option linter.constructorNameAsVariable false
namespace Go.Proofs.YtbbnecjaojobfaaDoor.Ev
def ofV : Value → AV
  | .agg cs => if cs.toList.all Value.oneCell' = true then .agg (cs.toList.map .v) else .v (.agg cs)
  | c => .v c
def loOf : Operand → LO
  | .tmp t => .t t
  | .const v => .c (ofV v)
  | .global g => .c (.v (.pointer (some ⟨g, 0, none⟩)))
  | .func f => .c (.fn (.func f) [] [])
def descAg : TypeDesc → Bool
  | .struct _ => true
  | .array _ _ => true
  | _ => false
def isAg (P : Program) (t : TypeId) : Option Bool := (P.underlying t).map descAg
def szOf (P : Program) (t : TypeId) : Option Nat := (P.info? t).bind fun i => if i.size = 0 then none else some i.size
def zeroOf (P : Program) (t : TypeId) : Option (List AV) := (P.info? t).bind fun i => i.zero.bind fun z =>
  if z.cells.size = i.size ∧ (z.cells.toList.all Value.oneCell') = true then some (z.cells.toList.map .v) else none
def zeroEl (P : Program) (t : TypeId) : Option AV := (zeroOf P t).bind fun zs => (isAg P t).bind fun ag => mk ag zs
def bytesOfT (P : Program) (t : TypeId) : Option Nat := (P.info? t).map (·.bytes)
def mapO {α β : Type} (f : α → Option β) : List α → Option (List β)
  | [] => some []
  | a :: r => (f a).bind fun b => (mapO f r).bind fun s => some (b :: s)
def isNilC : Operand → Bool
  | .tmp _ => true
  | _ => false
def compCall (P : Program) (c : Call) : Option LOp :=
  match c.callee with
  | .value (.func f) => some (.call f (c.args.toList.map loOf))
  | .value (.tmp t) => some (.callv (.t t) (c.args.toList.map loOf))
  | .builtin .len => match c.args.toList, c.argTypes.toList with
    | [x], [t] => match P.underlying t with
      | some .string => some (.len .str (loOf x))
      | some (.slice _) => some (.len (.row 1) (loOf x))
      | some (.array n _) => some (.len (.arr n 1) (loOf x))
      | _ => none
    | _, _ => none
  | .builtin .append => match c.args.toList, c.argTypes.toList with
    | [s, x], [t, u] => if t = u then match P.underlying t with
      | some (.slice e) => (szOf P e).bind fun k => (bytesOfT P e).bind fun b => (zeroOf P e).bind fun z => if z.length = k then some (.append e k b (loOf s) (loOf x)) else none
      | _ => none else none
    | _, _ => none
  | .builtin .max => some (.maxi (c.args.toList.map loOf))
  | .builtin .min => some (.mini (c.args.toList.map loOf))
  | _ => none
def leafT (P : Program) (t : TypeId) : Option Nat :=
  match P.underlying t with
  | some .bool => some 0
  | some (.int _) => some 1
  | some .string => some 2
  | _ => none
def fieldsK (P : Program) : List Field → Nat → Option (List Nat)
  | [], _ => some []
  | f :: r, i => if f.name ≠ "_" ∧ f.offset = i then (leafT P f.type).bind fun c => (fieldsK P r (i + 1)).bind fun ks => some (c :: ks) else none
/-- The kinds of the parts of a struct or an array that is flat. -/
def flatK (P : Program) (t : TypeId) : Option (List Nat) :=
  match P.underlying t with
  | some (.struct fs) => if P.stoodInHeld t = false ∧ P.eqGuardType P.depth t = false then fieldsK P fs.toList 0 else none
  | some (.array n e) => if P.eqGuardType P.depth t = false ∧ szOf P e = some 1 then (leafT P e).bind fun c => some (List.replicate n c) else none
  | _ => none
def compOp (P : Program) : Op → Option LOp
  | .move x | .assign x => some (.mov (loOf x))
  | .pick c a b => some (.pick (loOf c) (loOf a) (loOf b))
  | .alloc e => (szOf P e).bind fun k => (zeroOf P e).bind fun z => (isAg P e).bind fun ag => some (.alloc e k z ag)
  | .box e x => (szOf P e).bind fun k => some (.box e k (loOf x))
  | .build t parts => (zeroOf P t).bind fun z => match P.underlying t with
    | some (.struct fs) => if fs.toList.all (fun f => (szOf P f.type).isSome) = true then (mapO (fun p : Nat × Operand => (fs[p.1]?).bind fun f => (szOf P f.type).bind fun n => some (f.offset, n, loOf p.2)) parts.toList).bind fun ps => some (.build z ps) else none
    | some (.array n e) => (szOf P e).bind fun k => some (.build z (parts.toList.map fun p => (p.1 * k, k, loOf p.2)))
    | _ => none
  | .buildSlice t n parts => match P.underlying t with
    | some (.slice e) => (szOf P e).bind fun k => (zeroOf P e).bind fun z =>
      if z.length = k ∧ n * k ≤ 16777216 ∧ parts.toList.map (·.1) = List.range n then some (.bslice e k (parts.toList.map fun p => loOf p.2)) else none
    | _ => none
  | .load t x => (szOf P t).bind fun k => (isAg P t).bind fun ag => some (.load k ag (loOf x))
  | .store t a x => (szOf P t).bind fun k => (isAg P t).bind fun ag => some (.store k ag (loOf a) (loOf x))
  | .nilCheck x => some (.nilck (loOf x))
  | .binOp op t x y _ => match P.underlying t with
    | some .bool => some (.binb op (loOf x) (loOf y))
    | some (.int _) | some .string => some (.bin op (loOf x) (loOf y))
    | _ => (flatK P t).bind fun ks => some (.binf op ks (loOf x) (loOf y))
  | .unOp op _ x => some (.un op (loOf x))
  | .convert s d x => match P.underlying s, P.underlying d with
    | some (.int _), some (.int k) => some (.conv k (loOf x))
    | some .string, some .string => some (.s2s (loOf x))
    | some .string, some (.slice e) => match P.underlying e with
      | some (.int .u8) => some (.s2b e (loOf x))
      | _ => none
    | some (.slice e), some .string => match P.underlying e with
      | some (.int .u8) => some (.b2s (loOf x))
      | _ => none
    | _, _ => none
  | .makeFunc f a b => some (.mkfn f (a.toList.map loOf) (b.toList.map loOf))
  | .makeSlice t l c => match P.underlying t with
    | some (.slice e) => (szOf P e).bind fun k => (bytesOfT P e).bind fun b => (zeroEl P e).bind fun z => some (.mkslice e k b z (loOf l) (loOf c))
    | _ => none
  | .slice t x lo hi none => match P.underlying t with
    | some .string => some (.slice .str (loOf x) (lo.map loOf) (hi.map loOf))
    | some (.slice e) => (szOf P e).bind fun k => some (.slice (.row k) (loOf x) (lo.map loOf) (hi.map loOf))
    | some (.array n e) => if lo.isNone = true ∧ hi.isNone = true then (szOf P e).bind fun k => if k = 1 then some (.aslice n (loOf x)) else none else none
    | _ => none
  | .fieldAddr t x f => match P.underlying t with
    | some (.struct fs) => (fs[f]?).bind fun g => (szOf P g.type).bind fun _ => some (.faddr g.offset (loOf x))
    | _ => none
  | .field t x f => match P.underlying t with
    | some (.struct fs) => (fs[f]?).bind fun g => (szOf P g.type).bind fun k => (isAg P g.type).bind fun ag => some (.field g.offset k ag (loOf x))
    | _ => none
  | .indexAddr t x i => match P.underlying t with
    | some (.slice e) => (szOf P e).bind fun k => some (.iaddr (.row k) (loOf x) (loOf i))
    | some (.array n e) => (szOf P e).bind fun k => some (.iaddr (.arr n k) (loOf x) (loOf i))
    | _ => none
  | .index t x i => match P.underlying t with
    | some .string => some (.index .str false (loOf x) (loOf i))
    | some (.array n e) => (szOf P e).bind fun k => (isAg P e).bind fun ag => some (.index (.arr n k) ag (loOf x) (loOf i))
    | _ => none
  | .extract x i => some (.extract (loOf x) i)
  | .call c => compCall P c
  | _ => none
-- ---------------------------------------------------------------- regions whose order is open
def hardOp (P : Program) : Op → Bool
  | .assign _ | .store .. | .box .. | .alloc _ | .makeSlice .. => true
  | .call { callee := .builtin .append, .. } => true
  | .call { callee := .value (.func _), argTypes := ts, .. } => ts.toList.any fun t => match P.underlying t with | some (.pointer _) => true | _ => false
  | .convert _ d _ => match P.underlying d with
    | some (.slice _) => true
    | _ => false
  | _ => false
def floatOp : Op → Bool
  | .move _ | .pick .. | .binOp .. | .unOp .. | .extract .. | .field .. => true
  | _ => false
def readsOf (ops : Array Oper) (o : Oper) : List Tmp := o.looksAt ops
def dstIn (d : Option Tmp) (l : List Tmp) : Bool := match d with | some t => l.contains t | none => false
def sameDst (a b : Option Tmp) : Bool := match a, b with | some t, some u => t == u | _, _ => false
def softLen (P : Program) (ops : Array Oper) : Nat := (ops.toList.takeWhile fun o => !hardOp P o.op).length
/-- What an operation waits for, near and far. -/
def maskOf (o : Oper) (acc : List Nat) : Nat := o.after.toList.foldl (fun s e => if Region.binds .any e then s ||| 2 ^ e.on ||| acc.getD e.on 0 else s) 0
def masks : List Oper → List Nat → List Nat
  | [], acc => acc
  | o :: r, acc => masks r (acc ++ [maskOf o acc])
def pairOk (ops : Array Oper) (b : List Nat) (m : Nat) (o : Oper) (j : Nat) (q : Oper) (i : Nat) : Bool :=
  !sameDst o.dst q.dst &&
  (!(dstIn q.dst (readsOf ops o)) || (b.getD j 0).testBit i) &&
  (!(dstIn o.dst (readsOf ops q)) || (b.getD j 0).testBit i) &&
  (decide (j < m) || (b.getD j 0).testBit i || (decide (i < m) && floatOp q.op))
def drawOk (P : Program) (ops : Array Oper) : Bool :=
  let b := masks ops.toList []
  let m := softLen P ops
  let l := ops.toList.zipIdx
  l.all fun (o, j) =>
    (o.after.toList.all fun e => !Region.binds .any e || decide (e.on < j)) &&
    l.all fun (q, i) => !(decide (i < j)) || pairOk ops b m o j q i
/-- The same for operations that write and operations that read, mixed. -/
def pairX (P : Program) (ops : Array Oper) (b : List Nat) (o : Oper) (j : Nat) (q : Oper) (i : Nat) : Bool :=
  !sameDst o.dst q.dst &&
  (!(dstIn q.dst (readsOf ops o)) || (b.getD j 0).testBit i) &&
  (!(dstIn o.dst (readsOf ops q)) || (b.getD j 0).testBit i) &&
  (!hardOp P q.op || (b.getD j 0).testBit i || (!hardOp P o.op && floatOp o.op))
def drawX (P : Program) (ops : Array Oper) : Bool :=
  let b := masks ops.toList []
  let l := ops.toList.zipIdx
  l.all fun (o, j) =>
    (o.after.toList.all fun e => !Region.binds .any e || decide (e.on < j)) &&
    l.all fun (q, i) => !(decide (i < j)) || pairX P ops b o j q i
def hardAt (P : Program) (ops : Array Oper) (i : Nat) : Bool := match ops[i]? with | some o => hardOp P o.op | none => false
/-- The first writing operation from the h-th on that waits for the i-th. -/
def firstB (P : Program) (ops : Array Oper) (b : List Nat) (i : Nat) : Nat → Nat → Nat
  | h, 0 => h
  | h, d + 1 => if (hardAt P ops h && (b.getD h 0).testBit i) = true then h else firstB P ops b i (h + 1) d
def markX (P : Program) (ops : Array Oper) (b : List Nat) (p : Oper × Nat) : Bool × Nat := (hardOp P p.1.op, if floatOp p.1.op then 0 else firstB P ops b p.2 (p.2 + 1) (ops.size - (p.2 + 1)))
def marksX (P : Program) (ops : Array Oper) : List (Bool × Nat) := let b := masks ops.toList []; ops.toList.zipIdx.map (markX P ops b)
def guardOf (ops : Array Oper) : Option (Nat × Bool) → Option (Option (Nat × Bool))
  | none => some none
  | some (j, w) => match ((ops[j]?).bind (·.dst)) with
    | some t => some (some (t, w))
    | none => none
def dstOk (nt : Nat) : Option Tmp → Bool
  | some d => decide (d < nt)
  | none => true
def compOper (P : Program) (nt : Nat) (ops : Array Oper) (o : Oper) : Option LOper :=
  if dstOk nt o.dst = true then
    (guardOf ops o.guard).bind fun g => (compOp P o.op).bind fun l => some ⟨o.dst, g, l⟩
  else none
def firstRegion : Code → Nat
  | .region id _ _ => id
  | .seq a _ => firstRegion a
  | .block _ c => firstRegion c
  | .loop c => firstRegion c
  | _ => 1000000
def lvAt : List (Nat × List Nat × List Nat) → Nat → List Nat × List Nat
  | [], _ => ([], [])
  | (k, p) :: r, n => if k = n then p else lvAt r n
def compC (P : Program) (nt : Nat) (lv : List (Nat × List Nat × List Nat)) : Code → Option LCode
  | .skip => some .skip
  | .region _ ops d => (mapO (compOper P nt ops) ops.toList).bind fun l =>
      if d then (if drawOk P ops then some (.ops (softLen P ops) l) else if drawX P ops then some (.opsX (l.zip (marksX P ops))) else none) else some (.ops 0 l)
  | .seq a b => (compC P nt lv a).bind fun x => (compC P nt lv b).bind fun y => some (.seq x y)
  | .cond c a b => (compC P nt lv a).bind fun x => (compC P nt lv b).bind fun y => some (.cond (loOf c) x y)
  | .block id c => (compC P nt lv c).bind fun x => some (.block id x)
  | .exit id => some (.exit id)
  | .loop c => (compC P nt lv c).bind fun x => some (.loop (lvAt lv (firstRegion c)).1 (lvAt lv (firstRegion c)).2 x)
  | .ret => some .ret
  | _ => none
def compRes (P : Program) : ResultVar → Option LRes
  | .tmp t => some (.tmp t)
  | .cell a t => (szOf P t).bind fun k => (isAg P t).bind fun ag => some (.cell a k ag)
def compF (P : Program) (lv : List (Nat × List Nat × List Nat)) (fn : Func) : Option LFunc :=
  if decide (fn.nfree + fn.params.size ≤ fn.ntmps) && (fn.name != "runtime.NumGoroutine") then
  fn.body.bind fun c => (compC P fn.ntmps lv c).bind fun b => (mapO (compRes P) fn.results.toList).bind fun r => some ⟨fn.params.size + fn.nfree, r, b⟩
  else none
end Go.Proofs.YtbbnecjaojobfaaDoor.Ev
