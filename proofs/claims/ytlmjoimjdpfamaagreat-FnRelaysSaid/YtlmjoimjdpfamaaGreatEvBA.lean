/- An evaluator of the translated code over values that carry their own lists: definitions. -/
import Derived.LoopN
import Derived.Orders
import Derived.WalkKit
import Derived.Laws.AppendOwn
import Derived.Laws.AppendOwnNone
import Derived.Below
import Derived.Laws.IdiomCopy
import Derived.Lib.ConvBytes
import Derived.Laws.BytesString
import Derived.Laws.StructEq
import Derived.ChangeKeysEq
set_option linter.unusedVariables false
set_option linter.unusedSimpArgs false
set_option linter.constructorNameAsVariable false
set_option linter.unnecessarySimpa false
namespace Go.Proofs.YtlmjoimjdpfamaaGreat.Ev
/-- A value told apart from memory: 'lst' a row that is never written again, 'sl'/'ptr' into a block of the state's own. -/
inductive AV where
  | x
  | v (c : Value)
  | lst (k : Nat) (xs : List AV)
  | sl (id off len : Nat)
  | ptr (id i j : Nat)
  | el (e : AV) (j : Nat)
  | agg (cs : List AV)
  | tup (vs : List AV)
  | fn (f : Fn) (first cap : List AV)
  deriving Inhabited
/-- A block of the state's own: its elements' type, cells an element, kind (0 a variable, 1 a row, 2 a row of bytes), read only, elements. -/
structure Blk where
  ty : TypeId
  k : Nat
  kd : Nat
  ro : Bool
  es : List AV
abbrev Hp := List (Option Blk)
structure St where
  s : List (Nat × AV)
  h : Hp
inductive LO where
  | t (n : Nat)
  | c (a : AV)
inductive SK where
  | str
  | row (k : Nat)
  | arr (n k : Nat)
inductive LOp where
  | mov (a : LO)
  | pick (c a b : LO)
  | alloc (ty k : Nat) (z : List AV) (ag : Bool)
  | box (ty k : Nat) (a : LO)
  | build (zs : List AV) (parts : List (Nat × Nat × LO))
  | bslice (ty k : Nat) (parts : List LO)
  | load (k : Nat) (ag : Bool) (a : LO)
  | store (k : Nat) (ag : Bool) (a b : LO)
  | nilck (a : LO)
  | bin (op : BinOp) (a b : LO)
  | binb (op : BinOp) (a b : LO)
  | binf (op : BinOp) (ks : List Nat) (a b : LO)
  | isnil (op : BinOp) (a b : LO)
  | un (op : UnOp) (a : LO)
  | conv (k : IntKind) (a : LO)
  | s2s (a : LO)
  | s2b (ty : Nat) (a : LO)
  | b2s (a : LO)
  | mkfn (f : Fn) (first cap : List LO)
  | mkslice (ty k bytes : Nat) (z : AV) (l c : LO)
  | mkapp (ty k bytes : Nat) (z : AV) (s n : LO)
  | copy (d s : LO)
  | slice (sk : SK) (a : LO) (lo hi : Option LO)
  | aslice (n : Nat) (a : LO)
  | faddr (off : Nat) (a : LO)
  | field (off k : Nat) (ag : Bool) (a : LO)
  | iaddr (sk : SK) (a i : LO)
  | index (sk : SK) (ag : Bool) (a i : LO)
  | extract (a : LO) (i : Nat)
  | len (sk : SK) (a : LO)
  | capn (a : LO)
  | append (ty k bytes : Nat) (a b : LO)
  | maxi (as : List LO)
  | mini (as : List LO)
  | call (f : Nat) (as : List LO)
  | callv (f : LO) (as : List LO)
  | bad
structure LOper where
  dst : Option Nat
  g : Option (Nat × Bool)
  op : LOp
inductive LCode where
  | skip
  | ops (soft : Nat) (os : List LOper)
  | opsX (os : List (LOper × Bool × Nat))
  | seq (a b : LCode)
  | cond (c : LO) (a b : LCode)
  | block (id : Nat) (c : LCode)
  | exit (id : Nat)
  | loop (li lo : List Nat) (c : LCode)
  | ret
  | alt (li : List Nat) (a b : List (LOper × Bool × Nat))
inductive LRes where
  | tmp (t : Nat)
  | cell (t k : Nat) (ag : Bool)
structure LFunc where
  np : Nat
  res : List LRes
  body : LCode
-- ---------------------------------------------------------------- values
def AV.cells : AV → List AV
  | .agg cs => cs
  | a => [a]
def AV.one : AV → Bool
  | .agg _ | .tup _ | .x => false
  | .v (.agg _) | .v (.tuple _) => false
  | _ => true
abbrev i64 (n : Int) : AV := .v (.int .i64 n)
abbrev bl (b : Bool) : AV := .v (.bool b)
abbrev st (s : ByteArray) : AV := .v (.string s)
abbrev nilS : AV := .v (.slice none 0 0)
def hget (H : Hp) (id : Nat) : Option Blk := match H[id]? with | some (some b) => some b | _ => none
def sget : List (Nat × AV) → Nat → AV
  | [], _ => .x
  | (u, a) :: r, t => if u = t then a else sget r t
def mk (ag : Bool) (cs : List AV) : Option AV := if ag then some (.agg cs) else match cs with | [c] => some c | _ => none
def LO.ev (s : List (Nat × AV)) : LO → AV
  | .t n => sget s n
  | .c a => a
def evs (s : List (Nat × AV)) (l : List LO) : List AV := l.map (LO.ev s)
-- ---------------------------------------------------------------- freezing: a value that stands without the state
def fzC (a : AV) (l : List Nat) : Option (List AV × List Nat) → Option (List AV × List Nat)
  | none => none
  | some (cs, m) => some (a :: cs, l ++ m)
def fzK (r : Option (List AV × List Nat)) : Option (AV × List Nat) → Option (List AV × List Nat)
  | none => none
  | some (a, l) => fzC a l r
def fzL (f : AV → Option (AV × List Nat)) : List AV → Option (List AV × List Nat)
  | [] => some ([], [])
  | a :: r => fzK (fzL f r) (f a)
def fzS (id off n : Nat) : Option Blk → Option (AV × List Nat)
  | none => none
  | some b => if b.kd ≠ 0 ∧ off + n ≤ b.es.length then some (.lst b.k ((b.es.drop off).take n), [id]) else none
def fzW (g : List AV → AV) (l : List Nat) : Option (List AV × List Nat) → Option (AV × List Nat)
  | none => none
  | some (cs, m) => some (g cs, l ++ m)
def fzE (f : AV → Option (AV × List Nat)) (b : Blk) (id j : Nat) : Option AV → Option (AV × List Nat)
  | none => none
  | some e => if b.kd = 0 then fzW (fun cs => .el (.agg cs) j) [id] (fzL f e.cells) else some (.el e j, [id])
def fzB (f : AV → Option (AV × List Nat)) (id i j : Nat) : Option Blk → Option (AV × List Nat)
  | none => none
  | some b => fzE f b id j (b.es[i]?)
def fzF (g : Fn) (q : Option (List AV × List Nat)) : Option (List AV × List Nat) → Option (AV × List Nat)
  | none => none
  | some (a, l) => fzW (fun b => .fn g a b) l q
def fz (H : Hp) : Nat → AV → Option (AV × List Nat)
  | 0, _ => none
  | d + 1, .x => none
  | d + 1, .v c => some (.v c, [])
  | d + 1, .lst k xs => some (.lst k xs, [])
  | d + 1, .el e j => some (.el e j, [])
  | d + 1, .sl id off n => fzS id off n (hget H id)
  | d + 1, .ptr id i j => fzB (fz H d) id i j (hget H id)
  | d + 1, .agg cs => fzW .agg [] (fzL (fz H d) cs)
  | d + 1, .tup cs => fzW .tup [] (fzL (fz H d) cs)
  | d + 1, .fn f a b => fzF f (fzL (fz H d) b) (fzL (fz H d) a)
def fzd : Nat := 5
/-- The blocks named are read only from here on. -/
def markRo : List Nat → Hp → Hp
  | [], H => H
  | id :: r, H => markRo r (match hget H id with | some b => H.set id (some { b with ro := true }) | none => H)
-- ---------------------------------------------------------------- renaming
def rnmL (g : AV → Option AV) : List AV → Option (List AV)
  | [] => some []
  | a :: r => (g a).bind fun b => (rnmL g r).bind fun s => some (b :: s)
def rnm (f : Nat → Option Nat) : Nat → AV → Option AV
  | 0, _ => none
  | d + 1, .sl id off len => (f id).bind fun i => some (.sl i off len)
  | d + 1, .ptr id i j => (f id).bind fun n => some (.ptr n i j)
  | d + 1, .agg cs => (rnmL (rnm f d) cs).bind fun r => some (.agg r)
  | d + 1, .tup cs => (rnmL (rnm f d) cs).bind fun r => some (.tup r)
  | d + 1, .fn g a b => (rnmL (rnm f d) a).bind fun p => (rnmL (rnm f d) b).bind fun q => some (.fn g p q)
  | d + 1, .x => none
  | d + 1, .v c => some (.v c)
  | d + 1, .lst k xs => some (.lst k xs)
  | d + 1, .el e j => some (.el e j)
def rnmB (f : Nat → Option Nat) (b : Blk) : Option Blk := if b.kd = 0 then (rnmL (rnm f fzd) b.es).bind fun e => some { b with es := e } else some b
def rnmO (f : Nat → Option Nat) : Option Blk → Option (Option Blk)
  | none => some none
  | some b => (rnmB f b).bind fun c => some (some c)
def rnmH (f : Nat → Option Nat) : Hp → Option Hp
  | [] => some []
  | o :: r => (rnmO f o).bind fun p => (rnmH f r).bind fun q => some (p :: q)
def addId (n : Nat) (id : Nat) : Option Nat := some (n + id)
def okL (f : AV → Bool) : List AV → Bool
  | [] => true
  | a :: r => f a && okL f r
/-- Whole of itself: no memory behind it. -/
def leaf : Nat → AV → Bool
  | 0, _ => false
  | d + 1, .v _ => true
  | d + 1, .agg cs => okL (leaf d) cs
  | d + 1, .tup cs => okL (leaf d) cs
  | d + 1, _ => false
def idsL (f : AV → List Nat) : List AV → List Nat
  | [] => []
  | a :: r => f a ++ idsL f r
def ids : Nat → AV → List Nat
  | 0, _ => []
  | d + 1, .sl id _ _ => [id]
  | d + 1, .ptr id _ _ => [id]
  | d + 1, .agg cs => idsL (ids d) cs
  | d + 1, .tup cs => idsL (ids d) cs
  | d + 1, .fn _ a b => idsL (ids d) a ++ idsL (ids d) b
  | d + 1, _ => []
def blkIds (b : Blk) : List Nat := if b.kd = 0 then idsL (ids fzd) b.es else []
def reach (H : Hp) (h0 : Nat) : Nat → List Nat → List Nat → List Nat
  | 0, _, acc => acc
  | d + 1, [], acc => acc
  | d + 1, id :: r, acc => if id < h0 || acc.contains id then reach H h0 d r acc else
      match hget H id with
      | none => reach H h0 d r acc
      | some b => reach H h0 d (blkIds b ++ r) (acc ++ [id])
def newId (h0 : Nat) (acc : List Nat) (id : Nat) : Option Nat := if id < h0 then some id else (acc.idxOf? id).map (h0 + ·)
def oldIds : Hp → List Nat
  | [] => []
  | none :: r => oldIds r
  | some b :: r => blkIds b ++ oldIds r
def picked (H : Hp) : List Nat → Hp
  | [] => []
  | id :: r => (hget H id) :: picked H r
def packP (acc : List Nat) : Option Hp → Option Hp → Option (List Nat × Hp)
  | some A, some B => some (acc, A ++ B)
  | _, _ => none
/-- The blocks that some values still name, renamed in order; the first h0 keep their names. -/
def packH (h0 : Nat) (H : Hp) (roots : List Nat) : Option (List Nat × Hp) :=
  let acc := reach H h0 64 (roots ++ oldIds (H.take h0)) []
  packP acc (rnmH (newId h0 acc) (H.take h0)) (rnmH (newId h0 acc) (picked H acc))
def keep (s : List (Nat × AV)) : List Nat → List (Nat × AV)
  | [] => []
  | t :: r => (t, sget s t) :: keep s r
def slotIds : List (Nat × AV) → List Nat
  | [] => []
  | (_, a) :: r => ids fzd a ++ slotIds r
def renS (h0 : Nat) (acc : List Nat) : List (Nat × AV) → List (Nat × AV)
  | [] => []
  | (t, a) :: r => match rnm (newId h0 acc) fzd a with
    | some b => (t, b) :: renS h0 acc r
    | none => renS h0 acc r
def packQ (h0 : Nat) (s : List (Nat × AV)) : Option (List Nat × Hp) → Option St
  | none => none
  | some (l, H) => some ⟨renS h0 l s, H⟩
def pack (h0 : Nat) (live : List Nat) (z : St) : Option St :=
  packQ h0 (keep z.s live) (packH h0 z.h (slotIds (keep z.s live)))
-- ---------------------------------------------------------------- operations
def intBin (op : BinOp) (k : IntKind) (a b : Int) : Option AV :=
  match op with
  | .add => some (.v (.int k (k.wrap (a + b))))
  | .sub => some (.v (.int k (k.wrap (a - b))))
  | .mul => some (.v (.int k (k.wrap (a * b))))
  | .quo => if b = 0 then none else some (.v (.int k (k.wrap (a.tdiv b))))
  | .rem => if b = 0 then none else some (.v (.int k (a.tmod b)))
  | .eql => some (bl (decide (a = b)))
  | .neq => some (bl (!decide (a = b)))
  | .lss => some (bl (decide (a < b)))
  | .leq => some (bl (decide (a ≤ b)))
  | .gtr => some (bl (decide (b < a)))
  | .geq => some (bl (decide (b ≤ a)))
  | .xor => some (.v (.int k (k.wrap (BitVec.ofInt k.bits a ^^^ BitVec.ofInt k.bits b).toNat)))
  | .and => some (.v (.int k (k.wrap (BitVec.ofInt k.bits a &&& BitVec.ofInt k.bits b).toNat)))
  | .or => some (.v (.int k (k.wrap (BitVec.ofInt k.bits a ||| BitVec.ofInt k.bits b).toNat)))
  | _ => none
def strBin (op : BinOp) (a b : ByteArray) : Option AV :=
  match op with
  | .add => if (a.size + b.size : Nat) ≤ 9223372036854775807 then some (st (a ++ b)) else none
  | .eql => some (bl (decide (a = b)))
  | .neq => some (bl (!decide (a = b)))
  | .lss => some (bl (Op.bytesLess a.data.toList b.data.toList))
  | .leq => some (bl (Op.bytesLess a.data.toList b.data.toList || decide (a = b)))
  | .gtr => some (bl (!(Op.bytesLess a.data.toList b.data.toList || decide (a = b))))
  | .geq => some (bl (!Op.bytesLess a.data.toList b.data.toList))
  | _ => none
def shiftBin (op : BinOp) (k : IntKind) (a b : Int) : Option AV :=
  if b < 0 then none else
  match op with
  | .shl => some (.v (.int k (k.wrap (a * 2 ^ (min b.toNat k.bits)))))
  | .shr => some (.v (.int k (a.fdiv (2 ^ (min b.toNat k.bits)))))
  | _ => none
def isShift : BinOp → Bool
  | .shl | .shr => true
  | _ => false
def bin (op : BinOp) : AV → AV → Option AV
  | .v (.int k a), .v (.int k' b) => if isShift op = true then shiftBin op k a b else if k = k' then intBin op k a b else none
  | .v (.string a), .v (.string b) => strBin op a b
  | _, _ => none
def boolBin (op : BinOp) (a b : Bool) : Option AV :=
  match op with
  | .eql => some (bl (a == b))
  | .neq => some (bl (!(a == b)))
  | _ => none
def binb (op : BinOp) : AV → AV → Option AV
  | .v (.bool a), .v (.bool b) => boolBin op a b
  | _, _ => none
/-- Two parts of a struct or an array, compared: 0 a truth value, 1 a number, 2 a text. -/
def leafEq : Nat → AV → AV → Option Bool
  | 0, .v (.bool a), .v (.bool b) => some (a == b)
  | 1, .v (.int k a), .v (.int k' b) => if k = k' then some (decide (a = b)) else none
  | 2, .v (.string a), .v (.string b) => some (decide (a = b))
  | _, _, _ => none
def leavesEq : List Nat → List AV → List AV → Option Bool
  | [], [], [] => some true
  | c :: cs, a :: r, b :: s => (leafEq c a b).bind fun e => (leavesEq cs r s).bind fun q => some (e && q)
  | _, _, _ => none
def eqOp (op : BinOp) (r : Bool) : Option AV :=
  match op with
  | .eql => some (bl r)
  | .neq => some (bl (!r))
  | _ => none
def binf (op : BinOp) (ks : List Nat) : AV → AV → Option AV
  | .agg xs, .agg ys => (leavesEq ks xs ys).bind (eqOp op)
  | _, _ => none
/-- A slice held against nil. -/
def isnilA (op : BinOp) : AV → AV → Option AV
  | .v (.slice none 0 0), .v (.slice none 0 0) => eqOp op true
  | .lst _ (_ :: _), .v (.slice none 0 0) => eqOp op false
  | _, _ => none
def un (op : UnOp) : AV → Option AV
  | .v (.bool b) => match op with | .not => some (bl (!b)) | _ => none
  | .v (.int k n) => match op with | .neg => some (.v (.int k (k.wrap (0 - n)))) | _ => none
  | _ => none
def asI : AV → Option Int
  | .v (.int _ n) => some n
  | _ => none
def asB : AV → Option Bool
  | .v (.bool b) => some b
  | _ => none
def loadE (k : Nat) (ag : Bool) (e : AV) (j : Nat) : Option AV := if j + k ≤ e.cells.length then mk ag ((e.cells.drop j).take k) else none
def loadO (k : Nat) (ag : Bool) (j : Nat) : Option AV → Option AV
  | none => none
  | some e => loadE k ag e j
def loadB (k : Nat) (ag : Bool) (i j : Nat) : Option Blk → Option AV
  | none => none
  | some b => loadO k ag j (b.es[i]?)
def loadA (H : Hp) (k : Nat) (ag : Bool) : AV → Option AV
  | .ptr id i j => loadB k ag i j (hget H id)
  | .el e j => loadE k ag e j
  | _ => none
def putE (e : AV) (j : Nat) (vs : List AV) : AV :=
  match e with
  | .agg cs => .agg (cs.take j ++ vs ++ cs.drop (j + vs.length))
  | e => match vs with | [c] => c | _ => e
def allOne : List AV → Bool
  | [] => true
  | a :: r => a.one && allOne r
def partsOf (k : Nat) (ag : Bool) (a : AV) : Option (List AV) :=
  match ag, a with
  | true, .agg cs => if cs.length = k ∧ allOne cs = true then some cs else none
  | false, a => if k = 1 ∧ a.one = true then some [a] else none
  | _, _ => none
/-- An element: k cells, each one cell. -/
def elemOk (k : Nat) (a : AV) : Bool := a.cells.length == k && allOne a.cells
def storeV (H : Hp) (id i j : Nat) (b : Blk) (e : AV) : Option (List AV) → Option Hp
  | none => none
  | some cs => some (H.set id (some { b with es := b.es.set i (putE e j cs) }))
def storeQ (H : Hp) (id i j k : Nat) (ag : Bool) (b : Blk) (e : AV) : Option (AV × List Nat) → Option Hp
  | none => none
  | some (a, l) => if l = [] then storeV H id i j b e (partsOf k ag a) else none
def storeE (H : Hp) (id i j k : Nat) (ag : Bool) (a : AV) (b : Blk) : Option AV → Option Hp
  | none => none
  | some e => if b.ro = false ∧ j + k ≤ e.cells.length then
      (if b.kd = 0 then storeV H id i j b e (partsOf k ag a) else storeQ H id i j k ag b e (fz H fzd a)) else none
def storeB (H : Hp) (id i j k : Nat) (ag : Bool) (a : AV) : Option Blk → Option Hp
  | none => none
  | some b => storeE H id i j k ag a b (b.es[i]?)
def storeA (H : Hp) (k : Nat) (ag : Bool) (p a : AV) : Option Hp :=
  match p with
  | .ptr id i j => storeB H id i j k ag a (hget H id)
  | _ => none
def fillP : List AV → List (Nat × Nat × AV) → Option (List AV)
  | zs, [] => some zs
  | zs, (off, n, a) :: r => if a.cells.length = n ∧ off + n ≤ zs.length ∧ allOne a.cells = true then fillP (zs.take off ++ a.cells ++ zs.drop (off + n)) r else none
def bytesOf : List AV → Option (List UInt8)
  | [] => some []
  | .v (.int .u8 n) :: r => (bytesOf r).bind fun l => some (UInt8.ofNat n.toNat :: l)
  | _ :: _ => none
def u8s (l : List UInt8) : List AV := l.map fun b => .v (.int .u8 b.toNat)
def rowB (off n : Nat) : Option Blk → Option (Nat × List AV)
  | none => none
  | some b => if b.kd ≠ 0 ∧ off + n ≤ b.es.length then some (b.k, (b.es.drop off).take n) else none
def rowElems (H : Hp) : AV → Option (Nat × List AV)
  | .v (.slice none 0 0) => some (0, [])
  | .lst k xs => some (k, xs)
  | .sl id off n => rowB off n (hget H id)
  | _ => none
/-- Where the block still is. -/
def liv (a : AV) : Option Blk → Option AV
  | none => none
  | some _ => some a
def liv2 (a : AV) (H : Hp) : Option Blk → Option (AV × Hp)
  | none => none
  | some _ => some (a, H)
def appendN (H : Hp) (s : AV) : Option (AV × Hp) :=
  match s with
  | .v (.slice none 0 0) => some (s, H)
  | .sl id 0 n => liv2 s H (hget H id)
  | _ => none
def appendO (ty k bytes n : Nat) (H : Hp) (id : Nat) (xs : List AV) : Option Blk → Option (AV × Hp)
  | none => none
  | some b => if b.kd = 1 ∧ b.ro = false ∧ b.ty = ty ∧ b.k = k ∧ n ≤ b.es.length ∧ (n + xs.length) * bytes ≤ 140737488355328 ∧ n + xs.length ≤ 140737488355328
      then some (.sl H.length 0 (n + xs.length), H.set id none ++ [some ⟨ty, k, 1, false, b.es.take n ++ xs⟩]) else none
def appendM (ty k bytes : Nat) (H : Hp) (xs : List AV) (s : AV) : Option (AV × Hp) :=
  match s with
  | .v (.slice none 0 0) => if xs.length * bytes ≤ 140737488355328 ∧ xs.length ≤ 140737488355328 then some (.sl H.length 0 xs.length, H ++ [some ⟨ty, k, 1, false, xs⟩]) else none
  | .sl id 0 n => appendO ty k bytes n H id xs (hget H id)
  | _ => none
def appendL (ty k bytes : Nat) (H : Hp) (s : AV) : Option (Nat × List AV) → Option (AV × Hp)
  | none => none
  | some (k', xs) => if xs.isEmpty then appendN H s else if k' ≠ k then none else appendM ty k bytes H xs s
def appendA (H : Hp) (ty k bytes : Nat) (s x : AV) : Option (AV × Hp) := appendL ty k bytes H s (rowElems H x)
def chunks (k : Nat) (cs : List AV) : Nat → List AV
  | 0 => []
  | n + 1 => .agg (cs.take k) :: chunks k (cs.drop k) n
def intO (d : Int) : Option AV → Option Int
  | none => some d
  | some (.v (.int _ n)) => some n
  | _ => none
def sliceStr (s : ByteArray) : Option Int → Option Int → Option AV
  | some l, some h => if 0 ≤ l ∧ l ≤ h ∧ h ≤ s.size then some (st (s.extract l.toNat h.toNat)) else none
  | _, _ => none
def sliceLst (k : Nat) (xs : List AV) : Option Int → Option Int → Option AV
  | some l, some h => if 0 ≤ l ∧ l ≤ h ∧ h ≤ xs.length then some (.lst k ((xs.drop l.toNat).take (h.toNat - l.toNat))) else none
  | _, _ => none
def sliceSl (id off n : Nat) (b : Blk) (k : Nat) : Option Int → Option Int → Option AV
  | some l, some h => if b.k = k ∧ 0 ≤ l ∧ l ≤ h ∧ h ≤ n then some (.sl id (off + l.toNat) (h.toNat - l.toNat)) else none
  | _, _ => none
def sliceB (id off n k : Nat) (lo hi : Option AV) : Option Blk → Option AV
  | none => none
  | some b => sliceSl id off n b k (intO 0 lo) (intO n hi)
def sliceNil : Option Int → Option Int → Option AV
  | some l, some h => if l = 0 ∧ h = 0 then some nilS else none
  | _, _ => none
def sliceA (H : Hp) (lo hi : Option AV) : SK → AV → Option AV
  | .str, .v (.string s) => sliceStr s (intO 0 lo) (intO s.size hi)
  | .row k, .lst k' xs => if k = k' then sliceLst k xs (intO 0 lo) (intO xs.length hi) else none
  | .row k, .sl id off n => sliceB id off n k lo hi (hget H id)
  | .row k, .v (.slice none 0 0) => sliceNil (intO 0 lo) (intO 0 hi)
  | _, _ => none
def foldI (f : Int → Int → Int) : List AV → Option AV
  | .v (.int k n) :: r => go k n r
  | _ => none
where go (k : IntKind) (n : Int) : List AV → Option AV
  | [] => some (.v (.int k n))
  | .v (.int k' m) :: r => if k = k' then go k (f n m) r else none
  | _ :: _ => none
-- ---------------------------------------------------------------- the environment
abbrev Clo := Nat → List AV → Hp → Option (AV × Hp)
structure Env where
  opn : Nat → Bool
  fn : Nat → Option LFunc
  prim : Nat → Option (List AV → Hp → Option (AV × Hp))
def leafR (a : AV) (H : Hp) : Bool := leaf fzd a && H.isEmpty
def callR (H : Hp) : Option AV → Option Hp → Option (AV × Hp)
  | some a, some h => some (a, H ++ h)
  | _, _ => none
/-- Free of what was lent: no row that is only read, no element of one. -/
def free : Nat → AV → Bool
  | 0, _ => false
  | d + 1, .lst _ xs => xs.isEmpty
  | d + 1, .el _ _ => false
  | d + 1, .agg cs => okL (free d) cs
  | d + 1, .tup cs => okL (free d) cs
  | d + 1, .fn _ a b => okL (free d) a && okL (free d) b
  | d + 1, .x => true
  | d + 1, .v _ => true
  | d + 1, .sl _ _ _ => true
  | d + 1, .ptr _ _ _ => true
def freeH : Hp → Bool
  | [] => true
  | none :: r => freeH r
  | some b :: r => okL (free fzd) b.es && freeH r
def callH (H : Hp) (l : List Nat) : Option (AV × Hp) → Option (AV × Hp)
  | none => none
  | some (a, h) => if leafR a h then some (a, H) else callR (if free fzd a && freeH h then H else markRo l H) (rnm (addId H.length) fzd a) (rnmH (addId H.length) h)
def callG (C : Clo) (f : Nat) (H : Hp) : Option (List AV × List Nat) → Option (AV × Hp)
  | none => none
  | some (as, l) => callH H l (C f as [])
def callF (E : Env) (C : Clo) (f : Nat) (as : List AV) (H : Hp) : Option (AV × Hp) :=
  if E.opn f then C f as H else callG C f H (fzL (fz H fzd) as)
def callSH (l : List Nat) : Option (AV × Hp) → Option AV
  | none => none
  | some (a, h) => if leafR a h then some a else if l = [] then (fz h fzd a).bind fun p => some p.1 else if free fzd a && freeH h then (fz h fzd a).bind fun p => some p.1 else none
def callSG (C : Clo) (f : Nat) : Option (List AV × List Nat) → Option AV
  | none => none
  | some (as, l) => callSH l (C f as [])
/-- A call in a region whose order is open: its answer stands by itself. -/
def callS (E : Env) (C : Clo) (f : Nat) (as : List AV) (H : Hp) : Option AV :=
  if E.opn f then none else callSG C f (fzL (fz H fzd) as)
def optO (s : List (Nat × AV)) : Option LO → Option AV
  | none => none
  | some o => some (o.ev s)
def aggO : Option (List AV) → Option AV
  | none => none
  | some cs => some (.agg cs)
def pickA : AV → AV → AV → Option AV
  | .v (.bool p), a, b => some (if p then a else b)
  | _, _, _ => none
def nilckA (H : Hp) : AV → Option AV
  | .ptr id i j => liv (.ptr id i j) (hget H id)
  | .el e j => some (.el e j)
  | .fn (.func f) a b => some (.fn (.func f) a b)
  | _ => none
def faddrA (H : Hp) (off : Nat) : AV → Option AV
  | .ptr id i j => liv (.ptr id i (j + off)) (hget H id)
  | .el e j => some (.el e (j + off))
  | _ => none
def fieldA (off k : Nat) (ag : Bool) : AV → Option AV
  | .agg cs => if off + k ≤ cs.length then mk ag ((cs.drop off).take k) else none
  | _ => none
def elO : Option AV → Option AV
  | none => none
  | some e => some (.el e 0)
def elAt (k : Nat) (xs : List AV) (n : Int) : Option AV := if 0 ≤ n ∧ n < xs.length then elO (xs[n.toNat]?) else none
def iaddrB (k id i : Nat) : Option Blk → Option AV
  | none => none
  | some b => if b.k = k then some (.ptr id i 0) else none
def iaddrA (H : Hp) : SK → AV → AV → Option AV
  | .row k, .lst k' xs, .v (.int _ n) => if k = k' then elAt k xs n else none
  | .row k, .sl id off len, .v (.int _ n) => if 0 ≤ n ∧ n < len then iaddrB k id (off + n.toNat) (hget H id) else none
  | .arr len k, .ptr id i j, .v (.int _ n) => if 0 ≤ n ∧ n < len then liv (.ptr id i (j + n.toNat * k)) (hget H id) else none
  | .arr len k, .el e j, .v (.int _ n) => if 0 ≤ n ∧ n < len then some (.el e (j + n.toNat * k)) else none
  | _, _, _ => none
def indexA (ag : Bool) : SK → AV → AV → Option AV
  | .str, .v (.string s), .v (.int _ n) => if 0 ≤ n ∧ n < s.size then some (.v (.int .u8 (s.data.toList.getD n.toNat 0).toNat)) else none
  | .arr len k, .agg cs, .v (.int _ n) => if 0 ≤ n ∧ n < len then (if n.toNat * k + k ≤ cs.length then mk ag ((cs.drop (n.toNat * k)).take k) else none) else none
  | _, _, _ => none
def extractA (i : Nat) : AV → Option AV
  | .tup vs => vs[i]?
  | _ => none
def lenA (H : Hp) : SK → AV → Option AV
  | .str, .v (.string s) => some (i64 s.size)
  | .row _, .v (.slice none 0 0) => some (i64 0)
  | .row _, .lst _ xs => some (i64 xs.length)
  | .row _, .sl id _ n => liv (i64 n) (hget H id)
  | .arr n _, _ => some (i64 n)
  | _, _ => none
/-- The capacity, of no slice alone. -/
def capA : AV → Option AV
  | .v (.slice none 0 0) => some (i64 0)
  | _ => none
def b2sL : Option (List UInt8) → Option AV
  | none => none
  | some l => some (st ⟨l.toArray⟩)
def b2sR : Option (Nat × List AV) → Option AV
  | none => none
  | some (_, xs) => b2sL (bytesOf xs)
def convA (k : IntKind) : AV → Option AV
  | .v (.int _ n) => some (.v (.int k (k.wrap n)))
  | _ => none
def s2sA : AV → Option AV
  | .v (.string s) => some (st s)
  | _ => none
/-- What an operation gives that neither writes nor makes memory. -/
def pureOp (z : St) : LOp → Option AV
  | .mov a => some (a.ev z.s)
  | .pick c a b => pickA (c.ev z.s) (a.ev z.s) (b.ev z.s)
  | .build zs parts => aggO (fillP zs (parts.map fun p => (p.1, p.2.1, p.2.2.ev z.s)))
  | .load k ag a => loadA z.h k ag (a.ev z.s)
  | .nilck a => nilckA z.h (a.ev z.s)
  | .bin op a b => bin op (a.ev z.s) (b.ev z.s)
  | .binb op a b => binb op (a.ev z.s) (b.ev z.s)
  | .binf op ks a b => binf op ks (a.ev z.s) (b.ev z.s)
  | .isnil op a b => isnilA op (a.ev z.s) (b.ev z.s)
  | .un op a => un op (a.ev z.s)
  | .conv k a => convA k (a.ev z.s)
  | .s2s a => s2sA (a.ev z.s)
  | .b2s a => b2sR (rowElems z.h (a.ev z.s))
  | .mkfn f a b => some (.fn f (evs z.s a) (evs z.s b))
  | .slice sk a lo hi => sliceA z.h (optO z.s lo) (optO z.s hi) sk (a.ev z.s)
  | .faddr off a => faddrA z.h off (a.ev z.s)
  | .field off k ag a => fieldA off k ag (a.ev z.s)
  | .iaddr sk a i => iaddrA z.h sk (a.ev z.s) (i.ev z.s)
  | .index sk ag a i => indexA ag sk (a.ev z.s) (i.ev z.s)
  | .extract a i => extractA i (a.ev z.s)
  | .len sk a => lenA z.h sk (a.ev z.s)
  | .capn a => capA (a.ev z.s)
  | .maxi as => foldI (fun x y => if y > x then y else x) (evs z.s as)
  | .mini as => foldI (fun x y => if y < x then y else x) (evs z.s as)
  | _ => none
def withH (H : Hp) : Option AV → Option (AV × Hp)
  | none => none
  | some a => some (a, H)
def callVF (E : Env) (C : Clo) (as : List AV) (H : Hp) : AV → Option (AV × Hp)
  | .fn (.func g) a b => callF E C g (a ++ as ++ b) H
  | _ => none
def callVS (E : Env) (C : Clo) (as : List AV) (H : Hp) : AV → Option AV
  | .fn (.func g) a b => callS E C g (a ++ as ++ b) H
  | _ => none
def boxA (ty k : Nat) (H : Hp) (a : AV) : Option (AV × Hp) := if elemOk k a then some (.ptr H.length 0 0, H ++ [some ⟨ty, k, 0, false, [a]⟩]) else none
def bsliceA (ty k : Nat) (H : Hp) : Option (List AV × List Nat) → Option (AV × Hp)
  | none => none
  | some (as, l) => if okL (elemOk k) as then some (.sl H.length 0 as.length, markRo l H ++ [some ⟨ty, k, 1, false, as⟩]) else none
def bsliceS (k : Nat) : Option (List AV × List Nat) → Option AV
  | none => none
  | some (as, l) => if okL (elemOk k) as ∧ l = [] then some (.lst k as) else none
/-- A whole array as a row, frozen. -/
def asliceA (n : Nat) (H : Hp) : Option (AV × List Nat) → Option (AV × Hp)
  | some (.el e 0, l) => if e.cells.length = n ∧ 0 < n ∧ allOne e.cells = true then some (.lst 1 e.cells, markRo l H) else none
  | _ => none
def storeR : Option Hp → Option (AV × Hp)
  | none => none
  | some H => some (.x, H)
def s2bA (ty : Nat) (H : Hp) : AV → Option (AV × Hp)
  | .v (.string s) => if s.size ≤ 140737488355328 then some (.sl H.length 0 s.size, H ++ [some ⟨ty, 1, 2, false, u8s s.data.toList⟩]) else none
  | _ => none
def mksliceA (ty k bytes : Nat) (zz : AV) (H : Hp) : AV → AV → Option (AV × Hp)
  | .v (.int _ n), .v (.int _ m) => if 0 ≤ n ∧ n ≤ m ∧ m * bytes ≤ 140737488355328 ∧ m ≤ 140737488355328 then some (.sl H.length 0 n.toNat, H ++ [some ⟨ty, k, 1, false, List.replicate n.toNat zz⟩]) else none
  | _, _ => none
/-- Noughts put behind nothing: append(nil, make(..)...). -/
def mkappA (ty k bytes : Nat) (zz : AV) (H : Hp) : AV → AV → Option (AV × Hp)
  | .v (.slice none 0 0), .v (.int _ n) => if 0 < n ∧ n * bytes ≤ 140737488355328 ∧ n ≤ 140737488355328 then some (.sl H.length 0 n.toNat, H ++ [some ⟨ty, k, 1, false, List.replicate n.toNat zz⟩]) else none
  | _, _ => none
/-- Cells one by one, each a value. -/
def allV : List AV → Bool
  | [] => true
  | .v x :: r => (AV.v x).one && allV r
  | _ => false
def putN : List AV → Nat → List AV → List AV
  | es, _, [] => es
  | es, i, c :: r => putN (es.set i (putE (es.getD i .x) 0 [c])) (i + 1) r
/-- copy: of rows whose elements are one cell each; something goes over. -/
def copyB (H : Hp) (id off n : Nat) : Option Blk → Option (Nat × List AV) → Option (AV × Hp)
  | some b, some (k', xs) => if k' = 1 ∧ b.k = 1 ∧ b.ro = false ∧ 0 < (xs.take n).length ∧ off + n ≤ b.es.length ∧ allV (xs.take n) = true then some (i64 ((xs.take n).length : Int), H.set id (some { b with es := putN b.es off (xs.take n) })) else none
  | _, _ => none
def copyA (H : Hp) (d s : AV) : Option (AV × Hp) :=
  match d with
  | .sl id off n => copyB H id off n (hget H id) (rowElems H s)
  | _ => none
/-- The operations that make or write memory, or call. -/
def fullOp (E : Env) (C : Clo) (z : St) : LOp → Option (AV × Hp)
  | .alloc ty k zs ag => some (.ptr z.h.length 0 0, z.h ++ [some ⟨ty, k, 0, false, [.agg zs]⟩])
  | .box ty k a => boxA ty k z.h (a.ev z.s)
  | .bslice ty k parts => bsliceA ty k z.h (fzL (fz z.h fzd) (evs z.s parts))
  | .store k ag a b => storeR (storeA z.h k ag (a.ev z.s) (b.ev z.s))
  | .s2b ty a => s2bA ty z.h (a.ev z.s)
  | .aslice n a => asliceA n z.h (fz z.h fzd (a.ev z.s))
  | .mkslice ty k bytes zz l c => mksliceA ty k bytes zz z.h (l.ev z.s) (c.ev z.s)
  | .mkapp ty k bytes zz a n => mkappA ty k bytes zz z.h (a.ev z.s) (n.ev z.s)
  | .append ty k bytes a b => appendA z.h ty k bytes (a.ev z.s) (b.ev z.s)
  | .copy a b => copyA z.h (a.ev z.s) (b.ev z.s)
  | .call f as => callF E C f (evs z.s as) z.h
  | .callv f as => callVF E C (evs z.s as) z.h (f.ev z.s)
  | op => withH z.h (pureOp z op)
def softOp (E : Env) (C : Clo) (z : St) : LOp → Option AV
  | .bslice ty k parts => bsliceS k (fzL (fz z.h fzd) (evs z.s parts))
  | .call f as => callS E C f (evs z.s as) z.h
  | .callv f as => callVS E C (evs z.s as) z.h (f.ev z.s)
  | op => pureOp z op
def putS (s : List (Nat × AV)) : Option Nat → AV → List (Nat × AV)
  | none, _ => s
  | some d, a => (d, a) :: s
def asB' (w : Bool) : AV → Option Bool
  | .v (.bool b) => some (b == w)
  | .v (.tuple _) => some false
  | _ => none
/-- Is an operation wanted? -/
def wants (s : List (Nat × AV)) : Option (Nat × Bool) → Option Bool
  | none => some true
  | some (t, w) => asB' w (sget s t)
def putR (s : List (Nat × AV)) (d : Option Nat) : Option (AV × Hp) → Option St
  | none => none
  | some (a, h) => some ⟨putS s d a, h⟩
def putA (z : St) (d : Option Nat) : Option AV → Option St
  | none => none
  | some a => some ⟨putS z.s d a, z.h⟩
def oneFW (E : Env) (C : Clo) (o : LOper) (z : St) : Option Bool → Option St
  | none => none
  | some b => if b then putR z.s o.dst (fullOp E C z o.op) else some ⟨putS z.s o.dst (.v undef), z.h⟩
def oneSW (E : Env) (C : Clo) (o : LOper) (z : St) : Option Bool → Option St
  | none => none
  | some b => if b then putA z o.dst (softOp E C z o.op) else some ⟨putS z.s o.dst (.v undef), z.h⟩
def oneFull (E : Env) (C : Clo) (o : LOper) (z : St) : Option St := oneFW E C o z (wants z.s o.g)
def oneSoft (E : Env) (C : Clo) (o : LOper) (z : St) : Option St := oneSW E C o z (wants z.s o.g)
def evOps (E : Env) (C : Clo) : Nat → List LOper → St → Option St
  | _, [], z => some z
  | 0, o :: r, z => (oneFull E C o z).bind (evOps E C 0 r)
  | n + 1, o :: r, z => (oneSoft E C o z).bind (evOps E C n r)
/-- What was told ahead of a writing operation, and must be told again behind it. -/
structure Ck where
  o : LOper
  s : List (Nat × AV)
  s' : List (Nat × AV)
  n : Nat
def ckOk (E : Env) (C : Clo) (u : St) (h : Nat) : List Ck → Prop
  | [] => True
  | c :: r => (h < c.n → oneSoft E C c.o ⟨c.s, u.h⟩ = some ⟨c.s', u.h⟩) ∧ ckOk E C u h r
open Classical in
noncomputable def evX (E : Env) (C : Clo) : List (LOper × Bool × Nat) → List Ck → Nat → St → Option St
  | [], _, _, z => some z
  | (o, true, _) :: r, acc, p, z => (oneFull E C o z).bind fun u => if ckOk E C u p acc then evX E C r acc (p + 1) u else none
  | (o, false, e) :: r, acc, p, z => (oneSoft E C o z).bind fun u => evX E C r (⟨o, z.s, u.s, e⟩ :: acc) (p + 1) u
inductive Ex where
  | nrm
  | ext (id : Nat)
  | ret
  deriving DecidableEq
abbrev Rr := Option (Ex × St)
abbrev Lp := (St → Rr) → St → Rr
def Rr.thn : Rr → (St → Rr) → Rr
  | none, _ => none
  | some (.nrm, u), k => k u
  | some (.ext i, u), _ => some (.ext i, u)
  | some (.ret, u), _ => some (.ret, u)
def nrmR : Option St → Rr
  | none => none
  | some y => some (.nrm, y)
def condR (z : St) (f g : St → Rr) : AV → Rr
  | .v (.bool p) => if p then f z else g z
  | _ => none
def outB (id : Nat) : Rr → Rr
  | none => none
  | some (.ext j, u) => if j = id then some (.nrm, u) else some (.ext j, u)
  | some (.nrm, u) => some (.nrm, u)
  | some (.ret, u) => some (.ret, u)
def exR (e : Ex) : Option St → Rr
  | none => none
  | some v => some (e, v)
def packN (h0 : Nat) (li : List Nat) : Rr → Rr
  | none => none
  | some (.nrm, w) => exR .nrm (pack h0 li w)
  | some (.ext i, w) => some (.ext i, w)
  | some (.ret, w) => some (.ret, w)
def packX (h0 : Nat) (lo : List Nat) : Rr → Rr
  | none => none
  | some (e, w) => exR e (pack h0 lo w)
def lpR (L : Lp) (f : St → Rr) : Option St → Rr
  | none => none
  | some y => L f y
def packO (h0 : Nat) (l : List Nat) : Option St → Option St
  | none => none
  | some z => pack h0 l z
open Classical in
/-- Two ways that come to the same. -/
noncomputable def altR : Option St → Option St → Option St
  | some a, some b => if a = b then some a else none
  | _, _ => none
theorem altR_some {a b : Option St} {y : St} (h : altR a b = some y) : a = some y ∧ b = some y := by
  cases a with
  | none => simp [altR] at h
  | some x =>
    cases b with
    | none => simp [altR] at h
    | some z =>
      simp only [altR] at h
      split at h
      · rename_i hxz
        cases h
        rw [hxz]
        exact ⟨rfl, rfl⟩
      · cases h
theorem altR_same (a : St) : altR (some a) (some a) = some a := by simp [altR]
theorem packO_some {h0 : Nat} {l : List Nat} {o : Option St} {y : St} (h : packO h0 l o = some y) : ∃ z, o = some z ∧ pack h0 l z = some y := by
  cases o with
  | none => cases h
  | some z => exact ⟨z, rfl, h⟩
noncomputable def evC (E : Env) (C : Clo) (L : Lp) (h0 : Nat) : LCode → St → Rr
  | .skip, z => some (.nrm, z)
  | .ops n os, z => nrmR (evOps E C n os z)
  | .opsX os, z => nrmR (evX E C os [] 0 z)
  | .seq a b, z => (evC E C L h0 a z).thn (evC E C L h0 b)
  | .cond c a b, z => condR z (evC E C L h0 a) (evC E C L h0 b) (c.ev z.s)
  | .block id c, z => outB id (evC E C L h0 c z)
  | .exit id, z => some (.ext id, z)
  | .loop li lo c, z => packX h0 lo (lpR L (fun u => packN h0 li (evC E C L h0 c u)) (pack h0 li z))
  | .ret, z => some (.ret, z)
  | .alt li a b, z => nrmR (altR (packO h0 li (evX E C a [] 0 z)) (packO h0 li (evX E C b [] 0 z)))
/-- A loop's round, its state told by what lives on. -/
noncomputable def bd (E : Env) (C : Clo) (L : Lp) (h0 : Nat) (li : List Nat) (c : LCode) (u : St) : Rr := packN h0 li (evC E C L h0 c u)
def resOne (z : St) : LRes → Option AV
  | .tmp t => some (sget z.s t)
  | .cell t k ag => loadA z.h k ag (sget z.s t)
def resAll (z : St) : List LRes → Option (List AV)
  | [] => some []
  | r :: rs => (resOne z r).bind fun a => (resAll z rs).bind fun l => some (a :: l)
def resOf : List AV → AV
  | [a] => a
  | l => .tup l
def params : Nat → List AV → List (Nat × AV)
  | _, [] => []
  | i, a :: r => (i, a) :: params (i + 1) r
def finA (h0 : Nat) (a : AV) : Option (List Nat × Hp) → Option (AV × Hp)
  | none => none
  | some (l, H) => match rnm (newId h0 l) fzd a with
    | none => none
    | some b => some (b, H)
def finL (h0 : Nat) (H : Hp) : Option (List AV) → Option (AV × Hp)
  | none => none
  | some l => finA h0 (resOf l) (packH h0 H (ids fzd (resOf l)))
def finR (h0 : Nat) (rs : List LRes) : Rr → Option (AV × Hp)
  | none => none
  | some (.ext _, _) => none
  | some (.nrm, u) => finL h0 u.h (resAll u rs)
  | some (.ret, u) => finL h0 u.h (resAll u rs)
noncomputable def runF (E : Env) (C : Clo) (L : Lp) (lf : LFunc) (as : List AV) (H : Hp) : Option (AV × Hp) :=
  if as.length ≠ lf.np then none else finR H.length lf.res (evC E C L H.length lf.body ⟨params 0 as, H⟩)
noncomputable def evF (E : Env) (C : Clo) (L : Lp) (f : Nat) (as : List AV) (H : Hp) : Option (AV × Hp) :=
  match E.prim f with
  | some p => p as H
  | none => (E.fn f).bind fun lf => runF E C L lf as H
def loopN : Nat → Lp
  | 0, _, _ => none
  | n + 1, b, z => (b z).thn (loopN n b)
noncomputable def evK (E : Env) : Nat → Clo
  | 0 => fun _ _ _ => none
  | n + 1 => evF E (evK E n) (loopN n)
end Go.Proofs.YtlmjoimjdpfamaaGreat.Ev
namespace Go.Proofs.YtlmjoimjdpfamaaGreat.Ev
def ofV : Value → AV
  | .agg cs => if cs.toList.all Value.oneCell' = true then .agg (cs.toList.map .v) else .v (.agg cs)
  | c => .v c
def loOf : Operand → LO
  | .tmp t => .t t
  | .const v => .c (ofV v)
  | .global g => .c (.v (.pointer (some ⟨g, 0, none⟩)))
  | .func f => .c (.fn (.func f) [] [])
def descAg : TypeDesc → Bool
  | .struct _ => true
  | .array _ _ => true
  | _ => false
def isAg (P : Program) (t : TypeId) : Option Bool := (P.underlying t).map descAg
def szOf (P : Program) (t : TypeId) : Option Nat := (P.info? t).bind fun i => if i.size = 0 then none else some i.size
def zeroOf (P : Program) (t : TypeId) : Option (List AV) := (P.info? t).bind fun i => i.zero.bind fun z =>
  if z.cells.size = i.size ∧ (z.cells.toList.all Value.oneCell') = true then some (z.cells.toList.map .v) else none
def zeroEl (P : Program) (t : TypeId) : Option AV := (zeroOf P t).bind fun zs => (isAg P t).bind fun ag => mk ag zs
def bytesOfT (P : Program) (t : TypeId) : Option Nat := (P.info? t).map (·.bytes)
def mapO {α β : Type} (f : α → Option β) : List α → Option (List β)
  | [] => some []
  | a :: r => (f a).bind fun b => (mapO f r).bind fun s => some (b :: s)
def isNilC : Operand → Bool
  | .tmp _ => true
  | _ => false
def compCall (P : Program) (c : Call) : Option LOp :=
  match c.callee with
  | .value (.func f) => some (.call f (c.args.toList.map loOf))
  | .value (.tmp t) => some (.callv (.t t) (c.args.toList.map loOf))
  | .builtin .len => match c.args.toList, c.argTypes.toList with
    | [x], [t] => match P.underlying t with
      | some .string => some (.len .str (loOf x))
      | some (.slice _) => some (.len (.row 1) (loOf x))
      | some (.array n _) => some (.len (.arr n 1) (loOf x))
      | _ => none
    | _, _ => none
  | .builtin .cap => match c.args.toList, c.argTypes.toList with
    | [x], [t] => match P.underlying t with
      | some (.slice _) => some (.capn (loOf x))
      | _ => none
    | _, _ => none
  | .builtin .append => match c.args.toList, c.argTypes.toList with
    | [s, x], [t, u] => if t = u then match P.underlying t with
      | some (.slice e) => (szOf P e).bind fun k => (bytesOfT P e).bind fun b => (zeroOf P e).bind fun z => if z.length = k then some (.append e k b (loOf s) (loOf x)) else none
      | _ => none else match P.underlying t, P.underlying u with
      | some (.slice e), some (.int _) => (szOf P e).bind fun k => (bytesOfT P e).bind fun b => (zeroEl P e).bind fun z => some (.mkapp e k b z (loOf s) (loOf x))
      | _, _ => none
    | _, _ => none
  | .builtin .copy => match c.args.toList, c.argTypes.toList with
    | [s, x], [t, u] => if t = u then match P.underlying t with
      | some (.slice e) => (szOf P e).bind fun k => if k = 1 then some (.copy (loOf s) (loOf x)) else none
      | _ => none else none
    | _, _ => none
  | .builtin .max => some (.maxi (c.args.toList.map loOf))
  | .builtin .min => some (.mini (c.args.toList.map loOf))
  | _ => none
def leafT (P : Program) (t : TypeId) : Option Nat :=
  match P.underlying t with
  | some .bool => some 0
  | some (.int _) => some 1
  | some .string => some 2
  | _ => none
def fieldsK (P : Program) : List Field → Nat → Option (List Nat)
  | [], _ => some []
  | f :: r, i => if f.name ≠ "_" ∧ f.offset = i then (leafT P f.type).bind fun c => (fieldsK P r (i + 1)).bind fun ks => some (c :: ks) else none
/-- The kinds of the parts of a struct or an array that is flat. -/
def flatK (P : Program) (t : TypeId) : Option (List Nat) :=
  match P.underlying t with
  | some (.struct fs) => if P.stoodInHeld t = false ∧ P.eqGuardType P.depth t = false then fieldsK P fs.toList 0 else none
  | some (.array n e) => if P.eqGuardType P.depth t = false ∧ szOf P e = some 1 then (leafT P e).bind fun c => some (List.replicate n c) else none
  | _ => none
def compOp (P : Program) : Op → Option LOp
  | .move x | .assign x => some (.mov (loOf x))
  | .pick c a b => some (.pick (loOf c) (loOf a) (loOf b))
  | .alloc e => (szOf P e).bind fun k => (zeroOf P e).bind fun z => (isAg P e).bind fun ag => some (.alloc e k z ag)
  | .box e x => (szOf P e).bind fun k => some (.box e k (loOf x))
  | .build t parts => (zeroOf P t).bind fun z => match P.underlying t with
    | some (.struct fs) => if fs.toList.all (fun f => (szOf P f.type).isSome) = true then (mapO (fun p : Nat × Operand => (fs[p.1]?).bind fun f => (szOf P f.type).bind fun n => some (f.offset, n, loOf p.2)) parts.toList).bind fun ps => some (.build z ps) else none
    | some (.array n e) => (szOf P e).bind fun k => some (.build z (parts.toList.map fun p => (p.1 * k, k, loOf p.2)))
    | _ => none
  | .buildSlice t n parts => match P.underlying t with
    | some (.slice e) => (szOf P e).bind fun k => (zeroOf P e).bind fun z =>
      if z.length = k ∧ n * k ≤ 16777216 ∧ parts.toList.map (·.1) = List.range n then some (.bslice e k (parts.toList.map fun p => loOf p.2)) else none
    | _ => none
  | .load t x => (szOf P t).bind fun k => (isAg P t).bind fun ag => some (.load k ag (loOf x))
  | .store t a x => (szOf P t).bind fun k => (isAg P t).bind fun ag => some (.store k ag (loOf a) (loOf x))
  | .nilCheck x => some (.nilck (loOf x))
  | .binOp op t x y _ => match P.underlying t with
    | some .bool => some (.binb op (loOf x) (loOf y))
    | some (.int _) | some .string => some (.bin op (loOf x) (loOf y))
    | some (.slice _) => some (.isnil op (loOf x) (loOf y))
    | _ => (flatK P t).bind fun ks => some (.binf op ks (loOf x) (loOf y))
  | .unOp op _ x => some (.un op (loOf x))
  | .convert s d x => match P.underlying s, P.underlying d with
    | some (.int _), some (.int k) => some (.conv k (loOf x))
    | some .string, some .string => some (.s2s (loOf x))
    | some .string, some (.slice e) => match P.underlying e with
      | some (.int .u8) => some (.s2b e (loOf x))
      | _ => none
    | some (.slice e), some .string => match P.underlying e with
      | some (.int .u8) => some (.b2s (loOf x))
      | _ => none
    | _, _ => none
  | .makeFunc f a b => some (.mkfn f (a.toList.map loOf) (b.toList.map loOf))
  | .makeSlice t l c => match P.underlying t with
    | some (.slice e) => (szOf P e).bind fun k => (bytesOfT P e).bind fun b => (zeroEl P e).bind fun z => some (.mkslice e k b z (loOf l) (loOf c))
    | _ => none
  | .slice t x lo hi none => match P.underlying t with
    | some .string => some (.slice .str (loOf x) (lo.map loOf) (hi.map loOf))
    | some (.slice e) => (szOf P e).bind fun k => some (.slice (.row k) (loOf x) (lo.map loOf) (hi.map loOf))
    | some (.array n e) => if lo.isNone = true ∧ hi.isNone = true then (szOf P e).bind fun k => if k = 1 then some (.aslice n (loOf x)) else none else none
    | _ => none
  | .fieldAddr t x f => match P.underlying t with
    | some (.struct fs) => (fs[f]?).bind fun g => (szOf P g.type).bind fun _ => some (.faddr g.offset (loOf x))
    | _ => none
  | .field t x f => match P.underlying t with
    | some (.struct fs) => (fs[f]?).bind fun g => (szOf P g.type).bind fun k => (isAg P g.type).bind fun ag => some (.field g.offset k ag (loOf x))
    | _ => none
  | .indexAddr t x i => match P.underlying t with
    | some (.slice e) => (szOf P e).bind fun k => some (.iaddr (.row k) (loOf x) (loOf i))
    | some (.array n e) => (szOf P e).bind fun k => some (.iaddr (.arr n k) (loOf x) (loOf i))
    | _ => none
  | .index t x i => match P.underlying t with
    | some .string => some (.index .str false (loOf x) (loOf i))
    | some (.array n e) => (szOf P e).bind fun k => (isAg P e).bind fun ag => some (.index (.arr n k) ag (loOf x) (loOf i))
    | _ => none
  | .extract x i => some (.extract (loOf x) i)
  | .call c => compCall P c
  | _ => none
-- ---------------------------------------------------------------- regions whose order is open
/-- Does a function give back a row of structs? It is the caller's own to write. -/
def rowOfStruct (P : Program) (t : TypeId) : Bool := match P.underlying t with
  | some (.slice e) => match P.underlying e with
    | some (.struct _) => true
    | _ => false
  | _ => false
def isRow (P : Program) (t : TypeId) : Bool := match P.underlying t with
  | some (.slice _) => true
  | _ => false
/-- Does a function of rows give back a row of rows? -/
def rowOfRow (P : Program) (t : TypeId) : Bool := match P.underlying t with
  | some (.slice e) => isRow P e
  | _ => false
def madeRows (P : Program) (f : Nat) : Bool := match P.funcs[f]? with
  | some fn => (fn.resultTypes.toList.any (rowOfRow P) && fn.params.toList.any (isRow P)) || fn.resultTypes.toList.any (rowOfStruct P) || (match fn.resultTypes.toList, fn.params.toList with
    | [t], [u] => t == u && (match P.underlying t with | some (.slice _) => true | _ => false)
    | _, _ => false)
  | none => false
def hardOp (P : Program) : Op → Bool
  | .assign _ | .store .. | .box .. | .alloc _ | .makeSlice .. | .buildSlice _ 0 _ => true
  | .call { callee := .builtin .append, .. } => true
  | .call { callee := .builtin .copy, .. } => true
  | .call { callee := .value (.func f), argTypes := ts, .. } => (ts.toList.any fun t => match P.underlying t with | some (.pointer _) => true | _ => false) || madeRows P f
  | .convert _ d _ => match P.underlying d with
    | some (.slice _) => true
    | _ => false
  | _ => false
/-- A literal row that another operation of the region appends to must be the caller's own. -/
def madeHere (ops : Array Oper) (o : Oper) : Bool := match o.op, o.dst with
  | .buildSlice .., some t => ops.toList.any fun q => match q.op with
    | .call { callee := .builtin .append, args := as, .. } => (match as.toList with
      | .tmp u :: _ => u == t
      | _ => false)
    | _ => false
  | _, _ => false
/-- A literal row that holds what a writing operation of the region made. -/
def holdsMade (P : Program) (ops : Array Oper) (o : Oper) : Bool := match o.op with
  | .buildSlice _ _ parts => parts.toList.any fun p => match p.2 with
    | .tmp u => ops.toList.any fun q => (match q.dst with | some t => t == u | none => false) && hardOp P q.op
    | _ => false
  | _ => false
def hardB (P : Program) (ops : Array Oper) (o : Oper) : Bool := hardOp P o.op || madeHere ops o || holdsMade P ops o
def floatOp : Op → Bool
  | .move _ | .pick .. | .binOp .. | .unOp .. | .extract .. | .field .. => true
  | _ => false
def readsOf (ops : Array Oper) (o : Oper) : List Tmp := o.looksAt ops
def dstIn (d : Option Tmp) (l : List Tmp) : Bool := match d with | some t => l.contains t | none => false
def sameDst (a b : Option Tmp) : Bool := match a, b with | some t, some u => t == u | _, _ => false
def softLen (P : Program) (ops : Array Oper) : Nat := (ops.toList.takeWhile fun o => !hardB P ops o).length
/-- What an operation waits for, near and far. -/
def maskOf (o : Oper) (acc : List Nat) : Nat := o.after.toList.foldl (fun s e => if Region.binds .any e then s ||| 2 ^ e.on ||| acc.getD e.on 0 else s) 0
def masks : List Oper → List Nat → List Nat
  | [], acc => acc
  | o :: r, acc => masks r (acc ++ [maskOf o acc])
def pairOk (ops : Array Oper) (b : List Nat) (m : Nat) (o : Oper) (j : Nat) (q : Oper) (i : Nat) : Bool :=
  !sameDst o.dst q.dst &&
  (!(dstIn q.dst (readsOf ops o)) || (b.getD j 0).testBit i) &&
  (!(dstIn o.dst (readsOf ops q)) || (b.getD j 0).testBit i) &&
  (decide (j < m) || (b.getD j 0).testBit i || (decide (i < m) && floatOp q.op))
def drawOk (P : Program) (ops : Array Oper) : Bool :=
  let b := masks ops.toList []
  let m := softLen P ops
  let l := ops.toList.zipIdx
  l.all fun (o, j) =>
    (o.after.toList.all fun e => !Region.binds .any e || decide (e.on < j)) &&
    l.all fun (q, i) => !(decide (i < j)) || pairOk ops b m o j q i
/-- The same for operations that write and operations that read, mixed. -/
def pairX (P : Program) (ops : Array Oper) (b : List Nat) (o : Oper) (j : Nat) (q : Oper) (i : Nat) : Bool :=
  !sameDst o.dst q.dst &&
  (!(dstIn q.dst (readsOf ops o)) || (b.getD j 0).testBit i) &&
  (!(dstIn o.dst (readsOf ops q)) || (b.getD j 0).testBit i) &&
  (!hardB P ops q || (b.getD j 0).testBit i || (!hardB P ops o && floatOp o.op))
def drawX (P : Program) (ops : Array Oper) : Bool :=
  let b := masks ops.toList []
  let l := ops.toList.zipIdx
  l.all fun (o, j) =>
    (o.after.toList.all fun e => !Region.binds .any e || decide (e.on < j)) &&
    l.all fun (q, i) => !(decide (i < j)) || pairX P ops b o j q i
def hardAt (P : Program) (ops : Array Oper) (i : Nat) : Bool := match ops[i]? with | some o => hardB P ops o | none => false
/-- The first writing operation from the h-th on that waits for the i-th. -/
def firstB (P : Program) (ops : Array Oper) (b : List Nat) (i : Nat) : Nat → Nat → Nat
  | h, 0 => h
  | h, d + 1 => if (hardAt P ops h && (b.getD h 0).testBit i) = true then h else firstB P ops b i (h + 1) d
def markX (P : Program) (ops : Array Oper) (b : List Nat) (p : Oper × Nat) : Bool × Nat := (hardB P ops p.1, if floatOp p.1.op then 0 else firstB P ops b p.2 (p.2 + 1) (ops.size - (p.2 + 1)))
def marksX (P : Program) (ops : Array Oper) : List (Bool × Nat) := let b := masks ops.toList []; ops.toList.zipIdx.map (markX P ops b)
-- regions whose operations are laid in another order
def edged (ops : Array Oper) : List Nat → Array Oper
  | [p, q] => ops.modify q fun o => { o with after := o.after.push ⟨p, .phase⟩ }
  | _ => ops
def chg (σ : List Nat) (o : Oper) : Oper := { o with after := o.after.map fun e => { e with on := σ.idxOf e.on }, guard := o.guard.map fun g => (σ.idxOf g.1, g.2) }
def moved (ops : Array Oper) (σ : List Nat) : Array Oper := (σ.map fun i => match ops[i]? with | some o => chg σ o | none => default).toArray
def permOk (n : Nat) (σ : List Nat) : Bool := decide (σ.length = n) && σ.all (fun i => decide (i < n)) && decide σ.Nodup && (List.range n).all (fun i => σ.contains i)
def guardOf (ops : Array Oper) : Option (Nat × Bool) → Option (Option (Nat × Bool))
  | none => some none
  | some (j, w) => match ((ops[j]?).bind (·.dst)) with
    | some t => some (some (t, w))
    | none => none
def dstOk (nt : Nat) : Option Tmp → Bool
  | some d => decide (d < nt)
  | none => true
def compOper (P : Program) (nt : Nat) (ops : Array Oper) (o : Oper) : Option LOper :=
  if dstOk nt o.dst = true then
    (guardOf ops o.guard).bind fun g => some ⟨o.dst, g, (compOp P o.op).getD .bad⟩
  else none
def firstRegion : Code → Nat
  | .region id _ _ => id
  | .seq a _ => firstRegion a
  | .block _ c => firstRegion c
  | .loop c => firstRegion c
  | _ => 1000000
def lvAt : List (Nat × List Nat × List Nat) → Nat → List Nat × List Nat
  | [], _ => ([], [])
  | (k, p) :: r, n => if k = n then p else lvAt r n
/-- A region in another order of its list; or in two, where a pair of its operations may come up either way. -/
def compAlt (P : Program) (nt : Nat) (lv : List (Nat × List Nat × List Nat)) (id : Nat) (ops : Array Oper) : Option LCode :=
  let d := lvAt lv (id + 1000000)
  let e := lvAt lv (id + 2000000)
  match d.2 with
  | [p, q] =>
    let a := moved (edged ops [p, q]) e.1
    let b := moved (edged ops [q, p]) e.2
    if p ≠ q ∧ permOk ops.size e.1 = true ∧ permOk ops.size e.2 = true ∧ drawX P a = true ∧ drawX P b = true then
      (mapO (compOper P nt a) a.toList).bind fun l => (mapO (compOper P nt b) b.toList).bind fun m => some (.alt d.1 (l.zip (marksX P a)) (m.zip (marksX P b)))
    else none
  | _ =>
    let a := moved ops e.1
    if permOk ops.size e.1 = true ∧ drawX P a = true then (mapO (compOper P nt a) a.toList).bind fun l => some (.opsX (l.zip (marksX P a))) else none
def compC (P : Program) (nt : Nat) (lv : List (Nat × List Nat × List Nat)) : Code → Option LCode
  | .skip => some .skip
  | .region id ops d => (mapO (compOper P nt ops) ops.toList).bind fun l =>
      if d then (if drawOk P ops then some (.ops (softLen P ops) l) else if drawX P ops then some (.opsX (l.zip (marksX P ops))) else compAlt P nt lv id ops) else some (.ops 0 l)
  | .seq a b => (compC P nt lv a).bind fun x => (compC P nt lv b).bind fun y => some (.seq x y)
  | .cond c a b => (compC P nt lv a).bind fun x => (compC P nt lv b).bind fun y => some (.cond (loOf c) x y)
  | .block id c => (compC P nt lv c).bind fun x => some (.block id x)
  | .exit id => some (.exit id)
  | .loop c => (compC P nt lv c).bind fun x => some (.loop (lvAt lv (firstRegion c)).1 (lvAt lv (firstRegion c)).2 x)
  | .ret => some .ret
  | _ => none
def compRes (P : Program) : ResultVar → Option LRes
  | .tmp t => some (.tmp t)
  | .cell a t => (szOf P t).bind fun k => (isAg P t).bind fun ag => some (.cell a k ag)
def compF (P : Program) (lv : List (Nat × List Nat × List Nat)) (fn : Func) : Option LFunc :=
  if decide (fn.nfree + fn.params.size ≤ fn.ntmps) && (fn.name != "runtime.NumGoroutine") then
  fn.body.bind fun c => (compC P fn.ntmps lv c).bind fun b => (mapO (compRes P) fn.results.toList).bind fun r => some ⟨fn.params.size + fn.nfree, r, b⟩
  else none
end Go.Proofs.YtlmjoimjdpfamaaGreat.Ev
namespace Go.Proofs.YtlmjoimjdpfamaaGreat.Ev
def Le {α : Type} (a b : Option α) : Prop := ∀ r, a = some r → b = some r
theorem Le.refl {α : Type} (a : Option α) : Le a a := fun _ h => h
theorem Le.bind {α β : Type} {a b : Option α} {f g : α → Option β} (h : Le a b) (k : ∀ x, Le (f x) (g x)) : Le (a.bind f) (b.bind g) := by
  intro r hr
  cases ha : a with
  | none => rw [ha] at hr; cases hr
  | some x => rw [ha] at hr; rw [h x ha]; exact k x r hr
theorem Le.ite {α : Type} {p : Prop} [Decidable p] {a b c d : Option α} (h : Le a b) (k : Le c d) : Le (if p then a else c) (if p then b else d) := by
  split
  · exact h
  · exact k
theorem Le.iteb {α : Type} {p : Bool} {a b c d : Option α} (h : Le a b) (k : Le c d) : Le (if p then a else c) (if p then b else d) := by
  split
  · exact h
  · exact k
def CLe (C D : Clo) : Prop := ∀ f as H, Le (C f as H) (D f as H)
def LLe (L M : Lp) : Prop := ∀ b c z, (∀ u, Le (b u) (c u)) → Le (L b z) (M c z)
theorem callH_mono {H : Hp} {l : List Nat} {a b : Option (AV × Hp)} (h : Le a b) : Le (callH H l a) (callH H l b) := by
  intro r hr
  cases a with
  | none => cases hr
  | some p => rw [h p rfl]; exact hr
theorem callSH_mono {l : List Nat} {a b : Option (AV × Hp)} (h : Le a b) : Le (callSH l a) (callSH l b) := by
  intro r hr
  cases a with
  | none => cases hr
  | some p => rw [h p rfl]; exact hr
theorem callG_mono {C D : Clo} (h : CLe C D) (f : Nat) (H : Hp) (q : Option (List AV × List Nat)) : Le (callG C f H q) (callG D f H q) := by
  cases q with
  | none => exact Le.refl _
  | some p => exact callH_mono (h _ _ _)
theorem callSG_mono {C D : Clo} (h : CLe C D) (f : Nat) (q : Option (List AV × List Nat)) : Le (callSG C f q) (callSG D f q) := by
  cases q with
  | none => exact Le.refl _
  | some p => exact callSH_mono (h _ _ _)
theorem callF_mono {E : Env} {C D : Clo} (h : CLe C D) (f : Nat) (as : List AV) (H : Hp) : Le (callF E C f as H) (callF E D f as H) := by
  unfold callF
  exact Le.iteb (h _ _ _) (callG_mono h _ _ _)
theorem callS_mono {E : Env} {C D : Clo} (h : CLe C D) (f : Nat) (as : List AV) (H : Hp) : Le (callS E C f as H) (callS E D f as H) := by
  unfold callS
  exact Le.iteb (Le.refl _) (callSG_mono h _ _)
theorem fullOp_mono {E : Env} {C D : Clo} (h : CLe C D) (z : St) (o : LOp) : Le (fullOp E C z o) (fullOp E D z o) := by
  cases o <;> first
    | exact Le.refl _
    | (simp only [fullOp]; exact callF_mono h _ _ _)
    | (simp only [fullOp, callVF]; split <;> first | exact callF_mono h _ _ _ | exact Le.refl _)
theorem softOp_mono {E : Env} {C D : Clo} (h : CLe C D) (z : St) (o : LOp) : Le (softOp E C z o) (softOp E D z o) := by
  cases o <;> first
    | exact Le.refl _
    | (simp only [softOp]; exact callS_mono h _ _ _)
    | (simp only [softOp, callVS]; split <;> first | exact callS_mono h _ _ _ | exact Le.refl _)
theorem putR_mono {s : List (Nat × AV)} {d : Option Nat} {a b : Option (AV × Hp)} (h : Le a b) : Le (putR s d a) (putR s d b) := by
  intro r hr
  cases a with
  | none => cases hr
  | some p => rw [h p rfl]; exact hr
theorem putA_mono {z : St} {d : Option Nat} {a b : Option AV} (h : Le a b) : Le (putA z d a) (putA z d b) := by
  intro r hr
  cases a with
  | none => cases hr
  | some p => rw [h p rfl]; exact hr
theorem oneFull_mono {E : Env} {C D : Clo} (h : CLe C D) (o : LOper) (z : St) : Le (oneFull E C o z) (oneFull E D o z) := by
  unfold oneFull
  cases wants z.s o.g with
  | none => exact Le.refl _
  | some b => exact Le.iteb (putR_mono (fullOp_mono h _ _)) (Le.refl _)
theorem oneSoft_mono {E : Env} {C D : Clo} (h : CLe C D) (o : LOper) (z : St) : Le (oneSoft E C o z) (oneSoft E D o z) := by
  unfold oneSoft
  cases wants z.s o.g with
  | none => exact Le.refl _
  | some b => exact Le.iteb (putA_mono (softOp_mono h _ _)) (Le.refl _)
theorem evOps_mono {E : Env} {C D : Clo} (h : CLe C D) : ∀ (os : List LOper) (n : Nat) (z : St), Le (evOps E C n os z) (evOps E D n os z) := by
  intro os
  induction os with
  | nil => intro n z; cases n <;> exact Le.refl _
  | cons o r ih =>
    intro n z
    cases n with
    | zero => exact Le.bind (oneFull_mono h o z) fun y => ih 0 y
    | succ n => exact Le.bind (oneSoft_mono h o z) fun y => ih n y
theorem ckOk_mono {E : Env} {C D : Clo} (h : CLe C D) (u : St) (k : Nat) : ∀ l : List Ck, ckOk E C u k l → ckOk E D u k l
  | [], _ => trivial
  | c :: r, hc => ⟨fun hn => oneSoft_mono h _ _ _ (hc.1 hn), ckOk_mono h u k r hc.2⟩
theorem evX_mono {E : Env} {C D : Clo} (h : CLe C D) : ∀ (os : List (LOper × Bool × Nat)) (acc : List Ck) (k : Nat) (z : St), Le (evX E C os acc k z) (evX E D os acc k z) := by
  intro os
  induction os with
  | nil => intro acc k z; exact Le.refl _
  | cons o r ih =>
    intro acc k z
    obtain ⟨o, b, e⟩ := o
    cases b with
    | true =>
      simp only [evX]
      refine Le.bind (oneFull_mono h o z) fun y => ?_
      intro q hq
      split at hq
      · rename_i hc
        rw [if_pos (ckOk_mono h y k acc hc)]
        exact ih _ _ y q hq
      · cases hq
    | false =>
      simp only [evX]
      exact Le.bind (oneSoft_mono h o z) fun y => ih _ _ y
theorem thn_mono {a b : Rr} {f g : St → Rr} (h : Le a b) (k : ∀ u, Le (f u) (g u)) : Le (a.thn f) (b.thn g) := by
  intro r hr
  cases a with
  | none => cases hr
  | some p =>
    rw [h p rfl]
    obtain ⟨e, u⟩ := p
    cases e with
    | nrm => exact k u r hr
    | ext i => exact hr
    | ret => exact hr
theorem map_mono {α β : Type} (F : Option α → Option β) (h0 : F none = none) {a b : Option α} (h : Le a b) : Le (F a) (F b) := by
  intro r hr
  cases a with
  | none => rw [h0] at hr; cases hr
  | some p => rw [h p rfl]; exact hr
theorem evC_mono {E : Env} {C D : Clo} {L M : Lp} (h : CLe C D) (hl : LLe L M) (h0 : Nat) : ∀ (c : LCode) (z : St), Le (evC E C L h0 c z) (evC E D M h0 c z) := by
  intro c
  induction c with
  | skip => intro z; exact Le.refl _
  | ops n os => intro z; exact map_mono nrmR rfl (evOps_mono h _ _ _)
  | opsX os => intro z; exact map_mono nrmR rfl (evX_mono h _ _ _ _)
  | seq a b iha ihb => intro z; exact thn_mono (iha z) ihb
  | cond c a b iha ihb =>
    intro z
    simp only [evC, condR]
    split
    · exact Le.iteb (iha z) (ihb z)
    · exact Le.refl _
  | block id c ih => intro z; exact map_mono (outB id) rfl (ih z)
  | exit id => intro z; exact Le.refl _
  | loop li lo c ih =>
    intro z
    refine map_mono (packX h0 lo) rfl ?_
    cases pack h0 li z with
    | none => exact Le.refl _
    | some y => exact hl _ _ _ fun u => map_mono (packN h0 li) rfl (ih u)
  | ret => intro z; exact Le.refl _
  | alt li p q =>
    intro z
    refine map_mono nrmR rfl ?_
    intro r hr
    obtain ⟨h1, h2⟩ := altR_some hr
    rw [map_mono (packO h0 li) rfl (evX_mono h p [] 0 z) r h1, map_mono (packO h0 li) rfl (evX_mono h q [] 0 z) r h2]
    exact altR_same r
theorem evF_mono {E : Env} {C D : Clo} {L M : Lp} (h : CLe C D) (hl : LLe L M) (f : Nat) (as : List AV) (H : Hp) : Le (evF E C L f as H) (evF E D M f as H) := by
  unfold evF
  split
  · exact Le.refl _
  · refine Le.bind (Le.refl _) fun lf => ?_
    unfold runF
    exact Le.ite (Le.refl _) (map_mono (finR H.length lf.res) rfl (evC_mono h hl _ _ _))
theorem loopN_mono1 : ∀ n, LLe (loopN n) (loopN (n + 1)) := by
  intro n
  induction n with
  | zero => intro b c z h r hr; cases hr
  | succ n ih => intro b c z h; exact thn_mono (h z) fun u => ih b c u h
theorem LLe.self : ∀ n, LLe (loopN n) (loopN n) := by
  intro n
  induction n with
  | zero => intro b c z h r hr; cases hr
  | succ n ih => intro b c z h; exact thn_mono (h z) fun u => ih b c u h
theorem LLe.trans {L M N : Lp} (h : LLe L M) (hm : LLe M N) : LLe L N := fun b c z hb r hr => hm c c z (fun _ => Le.refl _) r (h b c z hb r hr)
theorem loopN_mono {n m : Nat} (h : n ≤ m) : LLe (loopN n) (loopN m) := by
  induction m with
  | zero => have : n = 0 := by omega
            subst this; exact LLe.self 0
  | succ m ih =>
    by_cases e : n = m + 1
    · subst e; exact LLe.self _
    · exact (ih (by omega)).trans (loopN_mono1 m)
theorem evK_mono1 (E : Env) : ∀ n, CLe (evK E n) (evK E (n + 1)) := by
  intro n
  induction n with
  | zero => intro f as H r hr; cases hr
  | succ n ih => intro f as H; exact evF_mono ih (loopN_mono1 n) f as H
theorem evK_mono (E : Env) {n m : Nat} (h : n ≤ m) : CLe (evK E n) (evK E m) := by
  induction m with
  | zero => have : n = 0 := by omega
            subst this; exact fun _ _ _ => Le.refl _
  | succ m ih =>
    by_cases e : n = m + 1
    · subst e; exact fun _ _ _ => Le.refl _
    · exact fun f as H r hr => evK_mono1 E m f as H r (ih (by omega) f as H r hr)
/-- The common answer of a row of answers that only grows. -/
noncomputable def lim {α : Type} (f : Nat → Option α) : Option α := open Classical in if h : ∃ n r, f n = some r then some h.choose_spec.choose else none
theorem lim_iff {α : Type} {f : Nat → Option α} (hm : ∀ n m, n ≤ m → Le (f n) (f m)) {r : α} : lim f = some r ↔ ∃ n, f n = some r := by
  unfold lim
  constructor
  · intro h
    split at h
    · rename_i hx
      cases h
      exact ⟨_, hx.choose_spec.choose_spec⟩
    · cases h
  · rintro ⟨n, hn⟩
    have hx : ∃ n r, f n = some r := ⟨n, r, hn⟩
    rw [dif_pos hx]
    have h2 := hx.choose_spec.choose_spec
    have h3 := hm _ (max hx.choose n) (Nat.le_max_left _ _) _ h2
    have h4 := hm _ (max hx.choose n) (Nat.le_max_right _ _) _ hn
    rw [h3] at h4
    exact h4
noncomputable def ev (E : Env) : Clo := fun f as H => lim fun n => evK E n f as H
noncomputable def loopW : Lp := fun b z => lim fun n => loopN n b z
theorem ev_iff {E : Env} {f : Nat} {as : List AV} {H : Hp} {r : AV × Hp} : ev E f as H = some r ↔ ∃ n, evK E n f as H = some r :=
  lim_iff fun _ _ h => evK_mono E h f as H
theorem loopW_iff {b : St → Rr} {z : St} {r : Ex × St} : loopW b z = some r ↔ ∃ n, loopN n b z = some r :=
  lim_iff fun _ _ h => loopN_mono h b b z fun _ => Le.refl _
/-- The loop's equation. -/
theorem loopW_eq (b : St → Rr) (z : St) : loopW b z = (b z).thn (loopW b) := by
  cases h : loopW b z with
  | some r =>
    obtain ⟨n, hn⟩ := loopW_iff.1 h
    cases n with
    | zero => cases hn
    | succ n =>
      symm
      refine thn_mono (Le.refl _) (fun u r hr => loopW_iff.2 ⟨n, hr⟩) r hn
  | none =>
    symm
    cases hb : (b z).thn (loopW b) with
    | none => rfl
    | some r =>
      exfalso
      have : ∃ n, loopN (n + 1) b z = some r := by
        cases hbz : b z with
        | none => rw [hbz] at hb; cases hb
        | some p =>
          rw [hbz] at hb
          obtain ⟨e, u⟩ := p
          cases e with
          | nrm =>
            obtain ⟨n, hn⟩ := loopW_iff.1 (show loopW b u = some r from hb)
            exact ⟨n, by simp [loopN, Rr.thn, hbz, hn]⟩
          | ext id => exact ⟨0, by simpa [loopN, Rr.thn, hbz] using hb⟩
          | ret => exact ⟨0, by simpa [loopN, Rr.thn, hbz] using hb⟩
      obtain ⟨n, hn⟩ := this
      rw [loopW_iff.2 ⟨_, hn⟩] at h
      cases h
theorem ev_ge (E : Env) (n : Nat) : CLe (evK E n) (ev E) := fun f as H r hr => ev_iff.2 ⟨n, hr⟩
theorem loopW_ge (n : Nat) : LLe (loopN n) loopW := fun b c z h r hr => loopW_iff.2 ⟨n, LLe.self n b c z h r hr⟩
/-- What the unbounded evaluator says, a bound says. -/
def Fin (A : Nat → Rr) (a : Rr) : Prop := ∀ r, a = some r → ∃ n, A n = some r
theorem bind_some_iff {α β : Type} {a : Option α} {f : α → Option β} {r : β} : a.bind f = some r ↔ ∃ x, a = some x ∧ f x = some r := by
  cases a <;> simp
theorem map_some {α β : Type} (F : Option α → Option β) (h0 : F none = none) {a : Option α} {r : β} (h : F a = some r) : ∃ x, a = some x ∧ F (some x) = some r := by
  cases a with
  | none => rw [h0] at h; cases h
  | some x => exact ⟨x, rfl, h⟩
theorem fin_map (E : Env) {β : Type} (F : Option (AV × Hp) → Option β) (h0 : F none = none) (f : Nat) (as : List AV) (H : Hp) (r : β) (h : F (ev E f as H) = some r) : ∃ n, F (evK E n f as H) = some r := by
  obtain ⟨q, hq, hr⟩ := map_some F h0 h
  obtain ⟨n, hn⟩ := ev_iff.1 hq
  exact ⟨n, by rw [hn]; exact hr⟩
theorem fin_callF (E : Env) (f : Nat) (as : List AV) (H : Hp) (r : AV × Hp) (h : callF E (ev E) f as H = some r) : ∃ n, callF E (evK E n) f as H = some r := by
  unfold callF at h ⊢
  by_cases ho : E.opn f = true
  · rw [if_pos ho] at h
    obtain ⟨n, hn⟩ := ev_iff.1 h
    exact ⟨n, by rw [if_pos ho]; exact hn⟩
  · rw [if_neg ho] at h
    cases hq : fzL (fz H fzd) as with
    | none => rw [hq] at h; cases h
    | some q =>
      rw [hq] at h
      obtain ⟨n, hn⟩ := fin_map E (callH H q.2) rfl f q.1 [] r h
      exact ⟨n, by rw [if_neg ho]; exact hn⟩
theorem fin_callS (E : Env) (f : Nat) (as : List AV) (H : Hp) (r : AV) (h : callS E (ev E) f as H = some r) : ∃ n, callS E (evK E n) f as H = some r := by
  unfold callS at h ⊢
  by_cases ho : E.opn f = true
  · rw [if_pos ho] at h; cases h
  · rw [if_neg ho] at h
    cases hq : fzL (fz H fzd) as with
    | none => rw [hq] at h; cases h
    | some q =>
      rw [hq] at h
      obtain ⟨n, hn⟩ := fin_map E (callSH q.2) rfl f q.1 [] r h
      exact ⟨n, by rw [if_neg ho]; exact hn⟩
theorem fin_full (E : Env) (z : St) (o : LOp) (r : AV × Hp) (h : fullOp E (ev E) z o = some r) : ∃ n, fullOp E (evK E n) z o = some r := by
  cases o <;> first
    | exact ⟨0, h⟩
    | (simp only [fullOp] at h ⊢; exact fin_callF E _ _ _ _ h)
    | (simp only [fullOp, callVF] at h ⊢; split at h <;> first | exact fin_callF E _ _ _ _ h | cases h)
theorem fin_soft (E : Env) (z : St) (o : LOp) (r : AV) (h : softOp E (ev E) z o = some r) : ∃ n, softOp E (evK E n) z o = some r := by
  cases o <;> first
    | exact ⟨0, h⟩
    | (simp only [softOp] at h ⊢; exact fin_callS E _ _ _ _ h)
    | (simp only [softOp, callVS] at h ⊢; split at h <;> first | exact fin_callS E _ _ _ _ h | cases h)
theorem fin_oneF (E : Env) (o : LOper) (z u : St) (h : oneFull E (ev E) o z = some u) : ∃ n, oneFull E (evK E n) o z = some u := by
  unfold oneFull at h ⊢
  cases hw : wants z.s o.g with
  | none => rw [hw] at h; cases h
  | some b =>
    rw [hw] at h
    cases b with
    | false => exact ⟨0, h⟩
    | true =>
      obtain ⟨q, hq, hr⟩ := map_some (putR z.s o.dst) rfl (show putR z.s o.dst (fullOp E (ev E) z o.op) = some u from h)
      obtain ⟨n, hn⟩ := fin_full E z o.op q hq
      exact ⟨n, show putR z.s o.dst (fullOp E (evK E n) z o.op) = some u by rw [hn]; exact hr⟩
theorem fin_oneS (E : Env) (o : LOper) (z u : St) (h : oneSoft E (ev E) o z = some u) : ∃ n, oneSoft E (evK E n) o z = some u := by
  unfold oneSoft at h ⊢
  cases hw : wants z.s o.g with
  | none => rw [hw] at h; cases h
  | some b =>
    rw [hw] at h
    cases b with
    | false => exact ⟨0, h⟩
    | true =>
      obtain ⟨q, hq, hr⟩ := map_some (putA z o.dst) rfl (show putA z o.dst (softOp E (ev E) z o.op) = some u from h)
      obtain ⟨n, hn⟩ := fin_soft E z o.op q hq
      exact ⟨n, show putA z o.dst (softOp E (evK E n) z o.op) = some u by rw [hn]; exact hr⟩
theorem fin_ops (E : Env) : ∀ (os : List LOper) (n : Nat) (z y : St), evOps E (ev E) n os z = some y → ∃ m, evOps E (evK E m) n os z = some y := by
  intro os
  induction os with
  | nil => intro n z y h; exact ⟨0, by cases n <;> exact h⟩
  | cons o r ih =>
    intro n z y h
    cases n with
    | zero =>
      obtain ⟨u, hu, hr⟩ := bind_some_iff.1 h
      obtain ⟨m, hm⟩ := ih 0 u y hr
      obtain ⟨k, hk⟩ := fin_oneF E o z u hu
      exact ⟨max k m, bind_some_iff.2 ⟨u, oneFull_mono (evK_mono E (Nat.le_max_left k m)) _ _ _ hk, evOps_mono (evK_mono E (Nat.le_max_right k m)) _ _ _ _ hm⟩⟩
    | succ n =>
      obtain ⟨u, hu, hr⟩ := bind_some_iff.1 h
      obtain ⟨m, hm⟩ := ih n u y hr
      obtain ⟨k, hk⟩ := fin_oneS E o z u hu
      exact ⟨max k m, bind_some_iff.2 ⟨u, oneSoft_mono (evK_mono E (Nat.le_max_left k m)) _ _ _ hk, evOps_mono (evK_mono E (Nat.le_max_right k m)) _ _ _ _ hm⟩⟩
theorem fin_ck (E : Env) (u : St) (k : Nat) : ∀ l : List Ck, ckOk E (ev E) u k l → ∃ m, ckOk E (evK E m) u k l
  | [], _ => ⟨0, trivial⟩
  | c :: r, hc => by
    obtain ⟨m, hm⟩ := fin_ck E u k r hc.2
    by_cases hn : k < c.n
    · obtain ⟨j, hj⟩ := fin_oneS E _ _ _ (hc.1 hn)
      exact ⟨max j m, fun _ => oneSoft_mono (evK_mono E (Nat.le_max_left j m)) _ _ _ hj, ckOk_mono (evK_mono E (Nat.le_max_right j m)) u k r hm⟩
    · exact ⟨m, fun h => absurd h hn, hm⟩
theorem fin_X (E : Env) : ∀ (os : List (LOper × Bool × Nat)) (acc : List Ck) (k : Nat) (z y : St), evX E (ev E) os acc k z = some y → ∃ m, evX E (evK E m) os acc k z = some y := by
  intro os
  induction os with
  | nil => intro acc k z y h; exact ⟨0, h⟩
  | cons o r ih =>
    intro acc k z y h
    obtain ⟨o, b, e⟩ := o
    cases b with
    | true =>
      simp only [evX] at h
      obtain ⟨u, hu, hr⟩ := bind_some_iff.1 h
      split at hr
      · rename_i hc
        obtain ⟨m, hm⟩ := ih _ _ u y hr
        obtain ⟨j, hj⟩ := fin_oneF E o z u hu
        obtain ⟨i, hi⟩ := fin_ck E u k acc hc
        have l1 : j ≤ max j (max m i) := Nat.le_max_left _ _
        have l2 : m ≤ max j (max m i) := Nat.le_trans (Nat.le_max_left _ _) (Nat.le_max_right _ _)
        have l3 : i ≤ max j (max m i) := Nat.le_trans (Nat.le_max_right _ _) (Nat.le_max_right _ _)
        refine ⟨max j (max m i), ?_⟩
        simp only [evX]
        refine bind_some_iff.2 ⟨u, oneFull_mono (evK_mono E l1) _ _ _ hj, ?_⟩
        rw [if_pos (ckOk_mono (evK_mono E l3) u k acc hi)]
        exact evX_mono (evK_mono E l2) _ _ _ _ _ hm
      · cases hr
    | false =>
      simp only [evX] at h
      obtain ⟨u, hu, hr⟩ := bind_some_iff.1 h
      obtain ⟨m, hm⟩ := ih _ _ u y hr
      obtain ⟨j, hj⟩ := fin_oneS E o z u hu
      refine ⟨max j m, ?_⟩
      simp only [evX]
      exact bind_some_iff.2 ⟨u, oneSoft_mono (evK_mono E (Nat.le_max_left j m)) _ _ _ hj, evX_mono (evK_mono E (Nat.le_max_right j m)) _ _ _ _ _ hm⟩
theorem thn_iff {a : Rr} {f : St → Rr} {r : Ex × St} : a.thn f = some r ↔ (∃ u, a = some (.nrm, u) ∧ f u = some r) ∨ (a = some r ∧ r.1 ≠ .nrm) := by
  cases a with
  | none => simp [Rr.thn]
  | some p =>
    obtain ⟨e, u⟩ := p
    cases e with
    | nrm =>
      simp only [Rr.thn, Option.some.injEq, Prod.mk.injEq, true_and]
      constructor
      · intro h; exact .inl ⟨u, rfl, h⟩
      · rintro (⟨_, rfl, h⟩ | ⟨rfl, h⟩)
        · exact h
        · exact absurd rfl h
    | ext id =>
      simp only [Rr.thn, Option.some.injEq, Prod.mk.injEq]
      constructor
      · rintro rfl; exact .inr ⟨rfl, by simp⟩
      · rintro (⟨_, ⟨h, _⟩, _⟩ | ⟨rfl, _⟩)
        · cases h
        · rfl
    | ret =>
      simp only [Rr.thn, Option.some.injEq, Prod.mk.injEq]
      constructor
      · rintro rfl; exact .inr ⟨rfl, by simp⟩
      · rintro (⟨_, ⟨h, _⟩, _⟩ | ⟨rfl, _⟩)
        · cases h
        · rfl
theorem fin_C (E : Env) (h0 : Nat) : ∀ (c : LCode) (z : St) (r : Ex × St), evC E (ev E) loopW h0 c z = some r → ∃ n, evC E (evK E n) (loopN n) h0 c z = some r := by
  intro c
  induction c with
  | skip => intro z r h; exact ⟨0, h⟩
  | ops n os =>
    intro z r h
    obtain ⟨y, hy, hr⟩ := map_some nrmR rfl (show nrmR (evOps E (ev E) n os z) = some r from h)
    obtain ⟨m, hm⟩ := fin_ops E os n z y hy
    exact ⟨m, show nrmR (evOps E (evK E m) n os z) = some r by rw [hm]; exact hr⟩
  | opsX os =>
    intro z r h
    obtain ⟨y, hy, hr⟩ := map_some nrmR rfl (show nrmR (evX E (ev E) os [] 0 z) = some r from h)
    obtain ⟨m, hm⟩ := fin_X E os [] 0 z y hy
    exact ⟨m, show nrmR (evX E (evK E m) os [] 0 z) = some r by rw [hm]; exact hr⟩
  | seq a b iha ihb =>
    intro z r h
    rcases thn_iff.1 h with ⟨u, hu, hr⟩ | ⟨hu, hr⟩
    · obtain ⟨n, hn⟩ := iha z _ hu
      obtain ⟨m, hm⟩ := ihb u _ hr
      refine ⟨max n m, thn_iff.2 (.inl ⟨u, evC_mono (evK_mono E (Nat.le_max_left n m)) (loopN_mono (Nat.le_max_left n m)) _ _ _ _ hn, evC_mono (evK_mono E (Nat.le_max_right n m)) (loopN_mono (Nat.le_max_right n m)) _ _ _ _ hm⟩)⟩
    · obtain ⟨n, hn⟩ := iha z _ hu
      exact ⟨n, thn_iff.2 (.inr ⟨hn, hr⟩)⟩
  | cond c a b iha ihb =>
    intro z r h
    simp only [evC, condR] at h ⊢
    split at h
    · rename_i p hp
      cases p with
      | true =>
        obtain ⟨n, hn⟩ := iha z r h
        exact ⟨n, hn⟩
      | false =>
        obtain ⟨n, hn⟩ := ihb z r h
        exact ⟨n, hn⟩
    · cases h
  | block id c ih =>
    intro z r h
    obtain ⟨p, hp, hr⟩ := map_some (outB id) rfl (show outB id (evC E (ev E) loopW h0 c z) = some r from h)
    obtain ⟨n, hn⟩ := ih z p hp
    exact ⟨n, show outB id (evC E (evK E n) (loopN n) h0 c z) = some r by rw [hn]; exact hr⟩
  | exit id => intro z r h; exact ⟨0, h⟩
  | loop li lo c ih =>
    intro z r h
    obtain ⟨p, hp', hq⟩ := map_some (packX h0 lo) rfl (show packX h0 lo (lpR loopW (bd E (ev E) loopW h0 li c) (pack h0 li z)) = some r from h)
    cases hy : pack h0 li z with
    | none => rw [hy] at hp'; cases hp'
    | some y =>
    rw [hy] at hp'
    obtain ⟨n, hn⟩ := loopW_iff.1 (show loopW (bd E (ev E) loopW h0 li c) y = some p from hp')
    have step : ∀ (y : St) (q : Ex × St), bd E (ev E) loopW h0 li c y = some q → ∃ k, bd E (evK E k) (loopN k) h0 li c y = some q := by
      intro y q hq
      obtain ⟨u, hu, hv⟩ := map_some (packN h0 li) rfl (show packN h0 li (evC E (ev E) loopW h0 c y) = some q from hq)
      obtain ⟨k, hk⟩ := ih y _ hu
      exact ⟨k, show packN h0 li (evC E (evK E k) (loopN k) h0 c y) = some q by rw [hk]; exact hv⟩
    have bmono : ∀ {a b : Nat}, a ≤ b → ∀ u, Le (bd E (evK E a) (loopN a) h0 li c u) (bd E (evK E b) (loopN b) h0 li c u) := fun hab u =>
      map_mono (packN h0 li) rfl (evC_mono (evK_mono E hab) (loopN_mono hab) _ _ _)
    have key : ∀ (n : Nat) (y : St) (p : Ex × St), loopN n (bd E (ev E) loopW h0 li c) y = some p → ∃ k, loopN n (bd E (evK E k) (loopN k) h0 li c) y = some p := by
      intro n
      induction n with
      | zero => intro y p h; cases h
      | succ n ihn =>
        intro y p h
        simp only [loopN] at h ⊢
        rcases thn_iff.1 h with ⟨u, hu, hv⟩ | ⟨hu, hv⟩
        · obtain ⟨k, hk⟩ := step y _ hu
          obtain ⟨m, hm⟩ := ihn u p hv
          refine ⟨max k m, thn_iff.2 (.inl ⟨u, bmono (Nat.le_max_left k m) _ _ hk, ?_⟩)⟩
          exact LLe.self n _ _ _ (bmono (Nat.le_max_right k m)) _ hm
        · obtain ⟨k, hk⟩ := step y _ hu
          exact ⟨k, thn_iff.2 (.inr ⟨hk, hv⟩)⟩
    obtain ⟨k, hk⟩ := key n y p hn
    have l2 := Nat.le_max_right k n
    refine ⟨max k n, ?_⟩
    show packX h0 lo (lpR (loopN (max k n)) (bd E (evK E (max k n)) (loopN (max k n)) h0 li c) (pack h0 li z)) = some r
    rw [hy]
    have : loopN (max k n) (bd E (evK E (max k n)) (loopN (max k n)) h0 li c) y = some p := loopN_mono l2 _ _ _ (bmono (Nat.le_max_left k n)) _ hk
    simp only [lpR, this]
    exact hq
  | ret => intro z r h; exact ⟨0, h⟩
  | alt li p q =>
    intro z r h
    obtain ⟨y, hy, hr⟩ := map_some nrmR rfl (show nrmR (altR (packO h0 li (evX E (ev E) p [] 0 z)) (packO h0 li (evX E (ev E) q [] 0 z))) = some r from h)
    obtain ⟨h1, h2⟩ := altR_some hy
    obtain ⟨u, hu, hu2⟩ := packO_some h1
    obtain ⟨v, hv, hv2⟩ := packO_some h2
    obtain ⟨m, hm⟩ := fin_X E p [] 0 z u hu
    obtain ⟨n, hn⟩ := fin_X E q [] 0 z v hv
    refine ⟨max m n, show nrmR (altR (packO h0 li (evX E (evK E (max m n)) p [] 0 z)) (packO h0 li (evX E (evK E (max m n)) q [] 0 z))) = some r from ?_⟩
    rw [evX_mono (evK_mono E (Nat.le_max_left m n)) p [] 0 z u hm, evX_mono (evK_mono E (Nat.le_max_right m n)) q [] 0 z v hn]
    simp only [packO, hu2, hv2, altR_same]
    exact hr
/-- The evaluator's equation: no bound in sight. -/
theorem ev_eq (E : Env) (f : Nat) (as : List AV) (H : Hp) : ev E f as H = evF E (ev E) loopW f as H := by
  cases h : ev E f as H with
  | some r =>
    obtain ⟨n, hn⟩ := ev_iff.1 h
    cases n with
    | zero => cases hn
    | succ n => exact (evF_mono (ev_ge E n) (loopW_ge n) f as H r hn).symm
  | none =>
    symm
    cases hb : evF E (ev E) loopW f as H with
    | none => rfl
    | some r =>
      exfalso
      have : ∃ n, evF E (evK E n) (loopN n) f as H = some r := by
        unfold evF at hb ⊢
        cases hp : E.prim f with
        | some p => rw [hp] at hb; exact ⟨0, hb⟩
        | none =>
          rw [hp] at hb
          obtain ⟨lf, hl, hr⟩ := bind_some_iff.1 hb
          unfold runF at hr
          by_cases ha : as.length ≠ lf.np
          · rw [if_pos ha] at hr; cases hr
          · rw [if_neg ha] at hr
            obtain ⟨p, hc, hx⟩ := map_some (finR H.length lf.res) rfl hr
            obtain ⟨n, hn⟩ := fin_C E H.length lf.body _ p hc
            refine ⟨n, bind_some_iff.2 ⟨lf, hl, ?_⟩⟩
            unfold runF
            rw [if_neg ha, hn]
            exact hx
      obtain ⟨n, hn⟩ := this
      rw [ev_iff.2 ⟨n + 1, hn⟩] at h
      cases h
end Go.Proofs.YtlmjoimjdpfamaaGreat.Ev
namespace Go.Proofs.YtlmjoimjdpfamaaGreat.Ev
structure Loc where
  g : Nat
  cap : Nat
  k : Nat
abbrev Rho := List (Option Loc)
inductive VR (M : Nat → Prop) (w : World) : Rho → AV → Value → Prop
  | x {ρ : Rho} {v : Value} : VR M w ρ .x v
  | v {ρ : Rho} {c : Value} : VR M w ρ (.v c) c
  | lst {ρ : Rho} {k : Nat} {xs : List AV} {A : Option Addr} {cap : Nat} (U : Nat → Nat → Value) (hc : xs.length ≤ cap)
      (ha : xs ≠ [] → ∃ a, A = some a ∧ a.spot = none ∧ M a.block) (hk : ∀ (i : Nat) (e : AV), xs[i]? = some e → e.cells.length = k)
      (hm : ∀ a, A = some a → ∀ (i : Nat) (e : AV) (j : Nat) (c : AV), xs[i]? = some e → e.cells[j]? = some c → w.cell? ⟨a.block, a.off + (i * k + j), none⟩ = some (U i j) ∧ (U i j).oneCell' = true)
      (hr : ∀ (i : Nat) (e : AV) (j : Nat) (c : AV), xs[i]? = some e → e.cells[j]? = some c → VR M w [] c (U i j)) : VR M w ρ (.lst k xs) (.slice A xs.length cap)
  | sl {ρ : Rho} {id off len c : Nat} {A : Option Addr} (L : Loc) (hL : ρ[id]? = some (some L)) (h1 : off + c = L.cap) (h2 : len ≤ c)
      (hA : (off ≠ 0 ∧ c = 0) ∨ A = some ⟨L.g, off * L.k, none⟩) : VR M w ρ (.sl id off len) (.slice A len c)
  | dsl {ρ : Rho} {id off len : Nat} {v : Value} (h : ρ[id]? = some none) (ho : v.oneCell' = true) : VR M w ρ (.sl id off len) v
  | ptr {ρ : Rho} {id i j : Nat} (L : Loc) (hL : ρ[id]? = some (some L)) : VR M w ρ (.ptr id i j) (.pointer (some ⟨L.g, i * L.k + j, none⟩))
  | dptr {ρ : Rho} {id i j : Nat} {v : Value} (h : ρ[id]? = some none) (ho : v.oneCell' = true) : VR M w ρ (.ptr id i j) v
  | el {ρ : Rho} {e : AV} {j : Nat} {a : Addr} (U : Nat → Value) (hs : a.spot = none) (hM : M a.block)
      (hm : ∀ (i : Nat) (c : AV), j ≤ i → e.cells[i]? = some c → w.cell? ⟨a.block, a.off + (i - j), none⟩ = some (U i) ∧ (U i).oneCell' = true)
      (hr : ∀ (i : Nat) (c : AV), e.cells[i]? = some c → VR M w [] c (U i)) : VR M w ρ (.el e j) (.pointer (some a))
  | agg {ρ : Rho} {cs : List AV} {vs : Array Value} (hl : cs.length = vs.size) (ho : ∀ u ∈ vs.toList, u.oneCell' = true)
      (hr : ∀ (i : Nat) (c : AV) (u : Value), cs[i]? = some c → vs.toList[i]? = some u → VR M w ρ c u) : VR M w ρ (.agg cs) (.agg vs)
  | tup {ρ : Rho} {cs : List AV} {vs : Array Value} (hl : cs.length = vs.size)
      (hr : ∀ (i : Nat) (c : AV) (u : Value), cs[i]? = some c → vs.toList[i]? = some u → VR M w ρ c u) : VR M w ρ (.tup cs) (.tuple vs)
  | fn {ρ : Rho} {f : Fn} {a b : List AV} {va vb : Array Value} (hla : a.length = va.size) (hlb : b.length = vb.size)
      (ha : ∀ (i : Nat) (c : AV) (u : Value), a[i]? = some c → va.toList[i]? = some u → VR M w ρ c u)
      (hb : ∀ (i : Nat) (c : AV) (u : Value), b[i]? = some c → vb.toList[i]? = some u → VR M w ρ c u) : VR M w ρ (.fn f a b) (.func f va vb)
/-- Names keep what they meant, or mean nothing any more. -/
def Rle (ρ ρ' : Rho) : Prop := ∀ (id : Nat) (o : Option Loc), ρ[id]? = some o → ρ'[id]? = some o ∨ ρ'[id]? = some none
theorem Rle.refl (ρ : Rho) : Rle ρ ρ := fun _ _ h => .inl h
theorem Rle.nil (ρ : Rho) : Rle [] ρ := fun _ _ h => by simp at h
theorem Rle.trans {a b c : Rho} (h : Rle a b) (k : Rle b c) : Rle a c := by
  intro id o ho
  rcases h id o ho with h1 | h1
  · exact k id o h1
  · rcases k id none h1 with h2 | h2 <;> exact .inr h2
theorem Rle.append (ρ r : Rho) : Rle ρ (ρ ++ r) := by
  intro id o h
  have : id < ρ.length := (List.getElem?_eq_some_iff.1 h).1
  exact .inl (by rw [List.getElem?_append_left this]; exact h)
theorem VR.mono {M M' : Nat → Prop} {w w' : World} (hM : ∀ g, M g → M' g) (hw : ∀ g, M g → w'.heap[g]? = w.heap[g]?) {ρ : Rho} {a : AV} {u : Value} (h : VR M w ρ a u) :
    ∀ {ρ' : Rho}, Rle ρ ρ' → VR M' w' ρ' a u := by
  have cell : ∀ {a : Addr}, M a.block → ∀ {o : Nat}, w'.cell? ⟨a.block, o, none⟩ = w.cell? ⟨a.block, o, none⟩ := fun h _ => World.cell?_of_block (hw _ h)
  induction h with
  | x => intro ρ' hr; exact .x
  | v => intro ρ' hr; exact .v
  | @lst ρ k xs A cap U hc ha hk hm hr ih =>
    intro ρ' hρ
    refine .lst U hc (fun hx => let ⟨a, h1, h2, h3⟩ := ha hx; ⟨a, h1, h2, hM _ h3⟩) hk (fun a hA i e j c he hcc => ?_) (fun i e j c he hcc => ih i e j c he hcc (Rle.refl _))
    have hx : xs ≠ [] := fun hn => by simp [hn] at he
    obtain ⟨a', h1, h2, h3⟩ := ha hx
    rw [hA] at h1
    cases h1
    rw [cell h3]
    exact hm a hA i e j c he hcc
  | sl L hL h1 h2 hA =>
    intro ρ' hρ
    rcases hρ _ _ hL with h | h
    · exact .sl L h h1 h2 hA
    · exact .dsl h rfl
  | dsl h ho =>
    intro ρ' hρ
    rcases hρ _ _ h with h | h <;> exact .dsl h ho
  | ptr L hL =>
    intro ρ' hρ
    rcases hρ _ _ hL with h | h
    · exact .ptr L h
    · exact .dptr h rfl
  | dptr h ho =>
    intro ρ' hρ
    rcases hρ _ _ h with h | h <;> exact .dptr h ho
  | el U hs hM' hm hr ih =>
    intro ρ' hρ
    refine .el U hs (hM _ hM') (fun i c hj he => ?_) (fun i c he => ih i c he (Rle.refl _))
    rw [cell hM']
    exact hm i c hj he
  | agg hl ho hr ih => intro ρ' hρ; exact .agg hl ho fun i c u h1 h2 => ih i c u h1 h2 hρ
  | tup hl hr ih => intro ρ' hρ; exact .tup hl fun i c u h1 h2 => ih i c u h1 h2 hρ
  | fn hla hlb ha hb iha ihb => intro ρ' hρ; exact .fn hla hlb (fun i c u h1 h2 => iha i c u h1 h2 hρ) (fun i c u h1 h2 => ihb i c u h1 h2 hρ)
theorem VR.up {M : Nat → Prop} {w : World} {a : AV} {u : Value} (h : VR M w [] a u) (ρ : Rho) : VR M w ρ a u := h.mono (fun _ h => h) (fun _ _ => rfl) (Rle.nil ρ)
/-- A value of one cell. -/
theorem VR.one {M : Nat → Prop} {w : World} {ρ : Rho} {a : AV} {u : Value} (h : VR M w ρ a u) (ho : a.one = true) : u.oneCell' = true := by
  cases h with
  | v => cases u <;> first | rfl | (simp [AV.one] at ho; done)
  | x => simp [AV.one] at ho
  | dsl _ h => exact h
  | dptr _ h => exact h
  | agg => simp [AV.one] at ho
  | tup => simp [AV.one] at ho
  | _ => rfl
/-- What a block of the state's own is in memory. -/
structure BR (base : Nat) (M : Nat → Prop) (ρ : Rho) (w : World) (b : Blk) (L : Loc) : Prop where
  lo : base ≤ L.g
  kk : L.k = b.k
  kp : 0 < b.k
  ro : b.ro = true ↔ M L.g
  cur : ∃ cur fr, w.heap[L.g]? = some (.cells cur b.ty fr) ∧ cur.size = L.cap * b.k ∧ (fr = (0, 0) ∨ (b.kd = 2 ∧ cur.size ≤ fr.1)) ∧
    ∀ (i : Nat) (e : AV) (j : Nat) (c : AV), b.es[i]? = some e → e.cells[j]? = some c → ∃ u, cur[i * b.k + j]? = some u ∧ u.oneCell' = true ∧ VR M w (if b.kd = 0 then ρ else []) c u
  capm : L.cap ≤ maxLen
  len : b.es.length ≤ L.cap
  ek : ∀ (i : Nat) (e : AV), b.es[i]? = some e → e.cells.length = b.k
structure HR (base : Nat) (M : Nat → Prop) (ρ : Rho) (H : Hp) (w : World) : Prop where
  len : H.length = ρ.length
  dead : ∀ (id : Nat), H[id]? = some none ↔ ρ[id]? = some none
  blk : ∀ (id : Nat) (b : Blk) (L : Loc), H[id]? = some (some b) → ρ[id]? = some (some L) → BR base M ρ w b L
  inj : ∀ (id id' : Nat) (L L' : Loc), ρ[id]? = some (some L) → ρ[id']? = some (some L') → id ≠ id' → L.g ≠ L'.g
  mlt : ∀ g, M g → g < w.heap.size
theorem HR.loc {base : Nat} {M : Nat → Prop} {ρ : Rho} {H : Hp} {w : World} (h : HR base M ρ H w) {id : Nat} {b : Blk} (hb : H[id]? = some (some b)) : ∃ L, ρ[id]? = some (some L) ∧ BR base M ρ w b L := by
  have hl : id < ρ.length := by rw [← h.len]; exact (List.getElem?_eq_some_iff.1 hb).1
  cases ho : ρ[id]'hl with
  | none =>
    have : ρ[id]? = some none := by rw [List.getElem?_eq_getElem hl, ho]
    rw [← h.dead] at this
    rw [hb] at this
    cases this
  | some L =>
    have hL : ρ[id]? = some (some L) := by rw [List.getElem?_eq_getElem hl, ho]
    exact ⟨L, hL, h.blk id b L hb hL⟩
theorem HR.back {base : Nat} {M : Nat → Prop} {ρ : Rho} {H : Hp} {w : World} (h : HR base M ρ H w) {id : Nat} {L : Loc} (hL : ρ[id]? = some (some L)) : ∃ b, H[id]? = some (some b) := by
  have hl : id < H.length := by rw [h.len]; exact (List.getElem?_eq_some_iff.1 hL).1
  cases ho : H[id]'hl with
  | none =>
    have : H[id]? = some none := by rw [List.getElem?_eq_getElem hl, ho]
    rw [h.dead] at this
    rw [hL] at this
    cases this
  | some b => exact ⟨b, by rw [List.getElem?_eq_getElem hl, ho]⟩
theorem hget_some {H : Hp} {id : Nat} {b : Blk} (h : hget H id = some b) : H[id]? = some (some b) := by
  unfold hget at h
  split at h
  · rename_i c hc; cases h; exact hc
  · cases h
theorem BR.lt {base : Nat} {M : Nat → Prop} {ρ : Rho} {w : World} {b : Blk} {L : Loc} (h : BR base M ρ w b L) : L.g < w.heap.size := by
  obtain ⟨cur, fr, hg, _⟩ := h.cur
  exact (Array.getElem?_eq_some_iff.1 hg).1
/-- What may be written. -/
def Wr (ρ : Rho) (H : Hp) (g : Nat) : Prop := ∃ (id : Nat) (b : Blk) (L : Loc), H[id]? = some (some b) ∧ b.ro = false ∧ ρ[id]? = some (some L) ∧ L.g = g
theorem HR.notM {base : Nat} {M : Nat → Prop} {ρ : Rho} {H : Hp} {w : World} (h : HR base M ρ H w) {g : Nat} (hg : Wr ρ H g) : ¬ M g := by
  obtain ⟨id, b, L, hb, hr, hL, rfl⟩ := hg
  intro hm
  have := (h.blk id b L hb hL).ro.2 hm
  rw [hr] at this
  cases this
/-- What a step does to the world and to what is known of it. -/
structure Ext (M : Nat → Prop) (ρ : Rho) (H : Hp) (w : World) (M' : Nat → Prop) (ρ' : Rho) (H' : Hp) (w' : World) : Prop where
  os : w'.os = w.os
  tape : w'.tape = w.tape
  output : w'.output = w.output
  size : w.heap.size ≤ w'.heap.size
  keep : ∀ g, g < w.heap.size → ¬ Wr ρ H g → w'.heap[g]? = w.heap[g]?
  mle : ∀ g, M g → M' g
  mnew : ∀ g, M' g → M g ∨ Wr ρ H g ∨ w.heap.size ≤ g
  wr : ∀ g, Wr ρ' H' g → Wr ρ H g ∨ w.heap.size ≤ g
  rle : Rle ρ ρ'
theorem Ext.refl (M : Nat → Prop) (ρ : Rho) (H : Hp) (w : World) : Ext M ρ H w M ρ H w :=
  ⟨rfl, rfl, rfl, Nat.le_refl _, fun _ _ _ => rfl, fun _ h => h, fun _ h => .inl h, fun _ h => .inl h, Rle.refl _⟩
theorem Ext.trans {M M' M'' : Nat → Prop} {ρ ρ' ρ'' : Rho} {H H' H'' : Hp} {w w' w'' : World} (h : Ext M ρ H w M' ρ' H' w') (k : Ext M' ρ' H' w' M'' ρ'' H'' w'') : Ext M ρ H w M'' ρ'' H'' w'' where
  os := k.os.trans h.os
  tape := k.tape.trans h.tape
  output := k.output.trans h.output
  size := Nat.le_trans h.size k.size
  keep g hg hn := (k.keep g (Nat.lt_of_lt_of_le hg h.size) (fun hw => (h.wr g hw).elim hn (fun h1 => by omega))).trans (h.keep g hg hn)
  mle g hg := k.mle g (h.mle g hg)
  mnew g hg := by
    have := h.size
    rcases k.mnew g hg with h1 | h1 | h1
    · exact h.mnew g h1
    · exact .inr (h.wr g h1)
    · exact .inr (.inr (by omega))
  wr g hg := by
    have := h.size
    rcases k.wr g hg with h1 | h1
    · exact h.wr g h1
    · exact .inr (by omega)
  rle := h.rle.trans k.rle
theorem HR.keepM {base : Nat} {M : Nat → Prop} {ρ : Rho} {H : Hp} {w : World} (h : HR base M ρ H w) {M' : Nat → Prop} {ρ' : Rho} {H' : Hp} {w' : World} (e : Ext M ρ H w M' ρ' H' w') :
    ∀ g, M g → w'.heap[g]? = w.heap[g]? := fun g hg => e.keep g (h.mlt g hg) (fun hw => h.notM hw hg)
theorem VR.ext {base : Nat} {M : Nat → Prop} {ρ : Rho} {H : Hp} {w : World} (h : HR base M ρ H w) {M' : Nat → Prop} {ρ' : Rho} {H' : Hp} {w' : World} (e : Ext M ρ H w M' ρ' H' w') {a : AV} {u : Value}
    (hv : VR M w ρ a u) : VR M' w' ρ' a u := hv.mono e.mle (h.keepM e) e.rle
/-- The draws of an order touch nothing. -/
theorem VR.world {M : Nat → Prop} {w w' : World} (hw : w'.heap = w.heap) {ρ : Rho} {a : AV} {u : Value} (h : VR M w ρ a u) : VR M w' ρ a u := h.mono (fun _ h => h) (fun g _ => by rw [hw]) (Rle.refl _)
theorem HR.world {base : Nat} {M : Nat → Prop} {ρ : Rho} {H : Hp} {w w' : World} (hw : w'.heap = w.heap) (h : HR base M ρ H w) : HR base M ρ H w' where
  len := h.len
  dead := h.dead
  inj := h.inj
  mlt g hg := by rw [hw]; exact h.mlt g hg
  blk id b L hb hL := by
    have q := h.blk id b L hb hL
    obtain ⟨cur, fr, h1, h2, h3, h4⟩ := q.cur
    exact { lo := q.lo, kk := q.kk, kp := q.kp, ro := q.ro, capm := q.capm, len := q.len, ek := q.ek,
            cur := ⟨cur, fr, by rw [hw]; exact h1, h2, h3, fun i e j c he hc => let ⟨u, a1, a2, a3⟩ := h4 i e j c he hc; ⟨u, a1, a2, a3.world hw⟩⟩ }
/-- The state's slots in a frame. -/
def SL (M : Nat → Prop) (ρ : Rho) (w : World) (s : List (Nat × AV)) (a : Act) : Prop := ∀ t, VR M w ρ (sget s t) (a.tmps.getD t undef)
theorem SL.put {M : Nat → Prop} {ρ : Rho} {w : World} {s : List (Nat × AV)} {a : Act} (h : SL M ρ w s a) {d : Option Nat} {av : AV} {v : Value} (hv : VR M w ρ av v) (hd : ∀ t, d = some t → t < a.tmps.size) : SL M ρ w (putS s d av) (a.put d v) := by
  cases d with
  | none => exact h
  | some t =>
    intro u
    have ht := hd t rfl
    simp only [putS, sget, Act.put]
    by_cases hu : t = u
    · subst hu
      rw [if_pos rfl, Array.getD_eq_getD_getElem?, Array.getElem?_setIfInBounds, if_pos rfl, if_pos ht]
      exact hv
    · rw [if_neg hu]
      have := h u
      rw [Array.getD_eq_getD_getElem?] at this ⊢
      rw [Array.getElem?_setIfInBounds, if_neg hu]
      exact this
theorem put_size (a : Act) (d : Option Nat) (v : Value) : (a.put d v).tmps.size = a.tmps.size := by cases d <;> simp [Act.put]
theorem put_defers (a : Act) (d : Option Nat) (v : Value) : (a.put d v).defers = a.defers := by cases d <;> rfl
theorem SL.mono {M M' : Nat → Prop} {ρ ρ' : Rho} {w w' : World} {s : List (Nat × AV)} {a : Act} (h : SL M ρ w s a) (hM : ∀ g, M g → M' g) (hw : ∀ g, M g → w'.heap[g]? = w.heap[g]?) (hr : Rle ρ ρ') : SL M' ρ' w' s a :=
  fun t => (h t).mono hM hw hr
theorem getD_getElem? {α : Type} (l : List α) (i : Nat) (d : α) : l.getD i d = (l[i]?).getD d := by simp [List.getD]
/-- Some operands of an operation, and what they are. -/
def Opd (M : Nat → Prop) (ρ : Rho) (w : World) (s : List (Nat × AV)) (a : Act) (xs : List Operand) : Prop := ∀ x ∈ xs, VR M w ρ ((loOf x).ev s) (a.eval x)
/-- Operands. -/
theorem vr_ofV {M : Nat → Prop} {ρ : Rho} {w : World} (c : Value) : VR M w ρ (ofV c) c := by
  unfold ofV
  split
  · rename_i cs
    split
    · rename_i h
      refine .agg (by simp) (fun u hu => by have := List.all_eq_true.1 h u hu; exact this) (fun i c u h1 h2 => ?_)
      rw [List.getElem?_map] at h1
      rw [h2] at h1
      cases h1
      exact .v
    · exact .v
  · exact .v
theorem vr_lo {M : Nat → Prop} {ρ : Rho} {w : World} {s : List (Nat × AV)} {a : Act} (h : SL M ρ w s a) (o : Operand) : VR M w ρ ((loOf o).ev s) (a.eval o) := by
  cases o with
  | tmp t => exact h t
  | const v => exact vr_ofV v
  | global g => exact .v
  | func f => exact .fn rfl rfl (fun i c u h1 h2 => by simp at h1) (fun i c u h1 h2 => by simp at h1)
end Go.Proofs.YtlmjoimjdpfamaaGreat.Ev
namespace Go.Proofs.YtlmjoimjdpfamaaGreat.Ev
variable {P : Program} {base : Nat} {M : Nat → Prop} {ρ : Rho} {w : World}
theorem vr_v {c u : Value} (h : VR M w ρ (.v c) u) : u = c := by cases h; rfl
theorem bind_iff {α β : Type} {a : Option α} {f : α → Option β} {r : β} : a.bind f = some r ↔ ∃ x, a = some x ∧ f x = some r := bind_some_iff
theorem add_none (b o n : Nat) : (⟨b, o, none⟩ : Addr).add n = ⟨b, o + n, none⟩ := by unfold Addr.add; split <;> simp_all
theorem add_spot {a : Addr} (h : a.spot = none) (n : Nat) : a.add n = ⟨a.block, a.off + n, none⟩ := by
  obtain ⟨b, o, s⟩ := a
  cases h
  exact add_none b o n
theorem run_und {t : TypeId} {d : TypeDesc} (h : P.underlying t = some d) (w : World) : (underlying t).run P w = .ok d w := run_underlying h w
theorem run_size {t : TypeId} {i : TypeInfo} (h : P.info? t = some i) (w : World) : (sizeOf t).run P w = .ok i.size w := by simp [sizeOf, typeInfo, h]
theorem run_ag {t : TypeId} {d : TypeDesc} (h : P.underlying t = some d) (w : World) : (Go.isAgg t).run P w = .ok (descAg d) w := by
  unfold Go.isAgg
  rw [Sem.run_bind, run_und h]
  cases d <;> simp [descAg]
theorem szOf_some {t k : Nat} (h : szOf P t = some k) : ∃ i, P.info? t = some i ∧ i.size = k ∧ 0 < k := by
  unfold szOf at h
  obtain ⟨i, hi, h2⟩ := bind_iff.1 h
  split at h2
  · cases h2
  · cases h2; exact ⟨i, hi, rfl, by omega⟩
theorem isAg_some {t : Nat} {b : Bool} (h : isAg P t = some b) : ∃ d, P.underlying t = some d ∧ descAg d = b := by
  unfold isAg at h
  cases hu : P.underlying t with
  | none => rw [hu] at h; cases h
  | some d => rw [hu] at h; exact ⟨d, rfl, by simpa using h⟩
theorem mk_true {cs : List AV} {r : AV} (h : mk true cs = some r) : r = .agg cs := by simp [mk] at h; exact h.symm
theorem mk_false {cs : List AV} {r : AV} (h : mk false cs = some r) : cs = [r] := by
  match cs, h with
  | [c], h => simp [mk] at h; rw [h]
  | [], h => simp [mk] at h
  | a :: b :: l, h => simp [mk] at h
/-- Cells in memory, and what they are. -/
def CA (M : Nat → Prop) (w : World) (ρ : Rho) (b o : Nat) (cs : List AV) : Prop :=
  ∀ (j : Nat) (c : AV), cs[j]? = some c → ∃ u, w.cell? ⟨b, o + j, none⟩ = some u ∧ u.oneCell' = true ∧ VR M w ρ c u
theorem CA.sub {b o : Nat} {cs : List AV} (h : CA M w ρ b o cs) (j k : Nat) : CA M w ρ b (o + j) ((cs.drop j).take k) := by
  intro i c hi
  rw [List.getElem?_take] at hi
  split at hi
  · rw [List.getElem?_drop] at hi
    have := h (j + i) c hi
    rwa [show o + (j + i) = o + j + i by omega] at this
  · cases hi
theorem CA.up {b o : Nat} {cs : List AV} (h : CA M w [] b o cs) (ρ : Rho) : CA M w ρ b o cs := fun j c hj => let ⟨u, h1, h2, h3⟩ := h j c hj; ⟨u, h1, h2, h3.up ρ⟩
/-- The cells of an element of a block of the state's own. -/
theorem own_cells {H : Hp} (hH : HR base M ρ H w) {id : Nat} {b : Blk} (hb : H[id]? = some (some b)) {L : Loc} (hL : ρ[id]? = some (some L)) {i : Nat} {e : AV} (he : b.es[i]? = some e) : CA M w ρ L.g (i * L.k) e.cells := by
  intro j c hc
  have q := hH.blk id b L hb hL
  obtain ⟨cur, fr, h1, _, _, h4⟩ := q.cur
  obtain ⟨u, a1, a2, a3⟩ := h4 i e j c he hc
  refine ⟨u, ?_, a2, ?_⟩
  · rw [cell_of_row w L.g _ cur b.ty fr h1, q.kk]
    exact a1
  · split at a3
    · exact a3
    · exact a3.up ρ
theorem lst_cells {k : Nat} {xs : List AV} {A : Option Addr} {n c : Nat} (h : VR M w ρ (.lst k xs) (.slice A n c)) {i : Nat} {e : AV} (he : xs[i]? = some e) :
    ∃ a, A = some a ∧ a.spot = none ∧ M a.block ∧ e.cells.length = k ∧ CA M w [] a.block (a.off + i * k) e.cells := by
  cases h with
  | lst U hc ha hk hm hr =>
    obtain ⟨a, h1, h2, h3⟩ := ha (fun hn => by simp [hn] at he)
    refine ⟨a, h1, h2, h3, hk i e he, fun j c hj => ?_⟩
    obtain ⟨q1, q2⟩ := hm a h1 i e j c he hj
    exact ⟨U i j, by rw [Nat.add_assoc]; exact q1, q2, hr i e j c he hj⟩
/-- Loads. -/
theorem loadVar_sound {t : TypeId} {i : TypeInfo} {d : TypeDesc} (hi : P.info? t = some i) (hd : P.underlying t = some d) {b o : Nat} {cs : List AV} (hl : cs.length = i.size) (hca : CA M w ρ b o cs) {r : AV} (hr : mk (descAg d) cs = some r) :
    ∃ v, (loadVar t ⟨b, o, none⟩).run P w = .ok v w ∧ VR M w ρ r v := by
  have hch : ∀ j, j < i.size → ∃ u, w.cell? ⟨b, o + j, none⟩ = some u ∧ u.oneCell' = true ∧ ∀ c, cs[j]? = some c → VR M w ρ c u := by
    intro j hj
    have hj' : j < cs.length := by omega
    obtain ⟨u, h1, h2, h3⟩ := hca j _ (List.getElem?_eq_getElem hj')
    exact ⟨u, h1, h2, fun c hc => by rw [List.getElem?_eq_getElem hj'] at hc; cases hc; exact h3⟩
  unfold loadVar
  rw [Sem.run_bind, run_ag hd]
  cases hg : descAg d with
  | true =>
    rw [hg] at hr
    obtain rfl := mk_true hr
    have hex : ∃ f : Nat → Value, ∀ j, j < i.size → w.cell? ⟨b, o + j, none⟩ = some (f j) ∧ (f j).oneCell' = true ∧ ∀ c, cs[j]? = some c → VR M w ρ c (f j) := by
      classical
      refine ⟨fun j => if h : j < i.size then (hch j h).choose else undef, fun j hj => ?_⟩
      simp only [dif_pos hj]
      exact (hch j hj).choose_spec
    obtain ⟨f, hf⟩ := hex
    have hrun := run_loadCells (P := P) w ⟨b, o, none⟩ i.size f (fun j hj => by rw [add_none]; exact (hf j hj).1)
    simp only [Result.andThen_ok, if_true, Sem.run_bind, run_size hi, hrun, Sem.run_pure]
    refine ⟨_, rfl, .agg (by simp [hl]) (fun u hu => ?_) (fun j c u h1 h2 => ?_)⟩
    · simp only [List.mem_map, List.mem_range] at hu
      obtain ⟨j, hj, rfl⟩ := hu
      exact (hf j hj).2.1
    · have hj : j < i.size := by rw [← hl]; exact (List.getElem?_eq_some_iff.1 h1).1
      rw [List.getElem?_map, List.getElem?_range hj] at h2
      cases h2
      exact (hf j hj).2.2 c h1
  | false =>
    rw [hg] at hr
    obtain rfl := mk_false hr
    obtain ⟨u, h1, h2, h3⟩ := hca 0 r rfl
    simp only [Result.andThen_ok, Bool.false_eq_true, if_false, run_load]
    rw [Nat.add_zero] at h1
    rw [h1]
    exact ⟨u, rfl, h3⟩
theorem loadE_some {k : Nat} {ag : Bool} {e r : AV} {j : Nat} (h : loadE k ag e j = some r) : ((e.cells.drop j).take k).length = k ∧ mk ag ((e.cells.drop j).take k) = some r := by
  unfold loadE at h
  split at h
  · exact ⟨by simp; omega, h⟩
  · cases h
theorem loadA_sound {H : Hp} (hH : HR base M ρ H w) {t : TypeId} {i : TypeInfo} {d : TypeDesc} (hi : P.info? t = some i) (hd : P.underlying t = some d) {p r : AV} {pv : Value} (hp : VR M w ρ p pv) (h : loadA H i.size (descAg d) p = some r) :
    ∃ v, (Instr.loadAt t pv).run P w = .ok v w ∧ VR M w ρ r v := by
  unfold loadA at h
  split at h
  · rename_i id n j
    unfold loadB at h
    split at h
    · cases h
    · rename_i b hb
      have hb' := hget_some hb
      unfold loadO at h
      split at h
      · cases h
      · rename_i e he
        obtain ⟨h1, h2⟩ := loadE_some h
        cases hp with
        | ptr L hL =>
          have hc := (own_cells hH hb' hL he).sub j i.size
          obtain ⟨v, hv, hr⟩ := loadVar_sound hi hd h1 hc h2
          exact ⟨v, by simpa [Instr.loadAt, Instr.sureAddr] using hv, hr⟩
        | dptr h0 => rw [← hH.dead, hb'] at h0; cases h0
  · rename_i e j
    obtain ⟨h1, h2⟩ := loadE_some h
    cases hp with
    | @el _ _ _ a U hs hM hm hr =>
      have hc : CA M w ρ a.block a.off ((e.cells.drop j).take i.size) := by
        intro x c hx
        rw [List.getElem?_take] at hx
        split at hx
        · rw [List.getElem?_drop] at hx
          obtain ⟨q1, q2⟩ := hm (j + x) c (by omega) hx
          exact ⟨U (j + x), by rwa [show j + x - j = x by omega] at q1, q2, (hr _ c hx).up ρ⟩
        · cases hx
      obtain ⟨v, hv, hr'⟩ := loadVar_sound hi hd h1 hc h2
      have ha : a = ⟨a.block, a.off, none⟩ := by obtain ⟨b, o, s⟩ := a; cases hs; rfl
      exact ⟨v, by rw [ha]; simpa [Instr.loadAt, Instr.sureAddr] using hv, hr'⟩
  · cases h
/-- Parts of a struct or an array. -/
theorem part_sound {t : TypeId} {i : TypeInfo} {d : TypeDesc} (hi : P.info? t = some i) (hd : P.underlying t = some d) {cs : List AV} {vs : Array Value} (hv : VR M w ρ (.agg cs) (.agg vs)) {off : Nat} {r : AV}
    (hlen : off + i.size ≤ cs.length) (hr : mk (descAg d) ((cs.drop off).take i.size) = some r) : ∃ v, (part t vs off).run P w = .ok v w ∧ VR M w ρ r v := by
  cases hv with
  | agg hl ho hall =>
    unfold part
    rw [Sem.run_bind, run_ag hd]
    cases hg : descAg d with
    | true =>
      rw [hg] at hr
      obtain rfl := mk_true hr
      simp only [Result.andThen_ok, if_true, Sem.run_bind, run_size hi, Sem.run_pure]
      refine ⟨_, rfl, .agg (by simp; omega) (fun u hu => ho u ?_) (fun j c u h1 h2 => ?_)⟩
      · rw [Array.toList_extract] at hu
        exact List.mem_of_mem_drop (List.mem_of_mem_take (by simpa [List.extract_eq_take_drop] using hu))
      · rw [List.getElem?_take] at h1
        split at h1
        · rw [List.getElem?_drop] at h1
          refine hall _ c u h1 ?_
          simp only [Array.toList_extract, List.extract_eq_take_drop, List.getElem?_take, List.getElem?_drop] at h2
          split at h2
          · exact h2
          · cases h2
        · cases h1
    | false =>
      rw [hg] at hr
      have hc := mk_false hr
      have h0 : cs[off]? = some r := by
        have : ((cs.drop off).take i.size)[0]? = some r := by rw [hc]; rfl
        rw [List.getElem?_take] at this
        split at this
        · rw [List.getElem?_drop] at this; simpa using this
        · cases this
      have hlt : off < vs.size := by rw [← hl]; exact (List.getElem?_eq_some_iff.1 h0).1
      have hv : vs[off]? = some vs[off] := Array.getElem?_eq_getElem hlt
      simp only [Result.andThen_ok, Bool.false_eq_true, if_false, hv]
      exact ⟨_, rfl, hall off r _ h0 (by rw [Array.getElem?_toList]; exact hv)⟩
theorem toList_data (s : ByteArray) : s.toList = s.data.toList := by
  have go : ∀ (d i : Nat) (r : List UInt8), s.size - i = d → ByteArray.toList.loop s i r = r.reverse ++ s.data.toList.drop i := by
    intro d
    induction d with
    | zero =>
      intro i r h
      unfold ByteArray.toList.loop
      have h' : ¬ i < s.size := by omega
      rw [if_neg h', List.drop_eq_nil_of_le (by rw [Array.length_toList]; exact Nat.not_lt.1 h')]
      simp
    | succ d ih =>
      intro i r h
      unfold ByteArray.toList.loop
      have h' : i < s.size := by omega
      have h2 : i < s.data.toList.length := h'
      rw [if_pos h', ih (i + 1) _ (by omega), List.drop_eq_getElem_cons h2]
      have e : s.get! i = s.data.toList[i] := by
        simp only [ByteArray.get!, Array.getElem_toList]
        exact getElem!_pos s.data i h'
      simp [e]
  unfold ByteArray.toList
  rw [go _ 0 [] rfl]
  simp
theorem beq_toList (a b : ByteArray) : (a.toList == b.toList) = decide (a = b) := by
  rw [toList_data, toList_data, Bool.eq_iff_iff]
  simp only [beq_iff_eq, decide_eq_true_eq]
  constructor
  · intro h
    obtain ⟨a⟩ := a
    obtain ⟨b⟩ := b
    simp only at h
    rw [Array.toList_inj.1 h]
  · rintro rfl; rfl
theorem bin_sound {op : BinOp} {t : TypeId} {X Y : Operand} {A B r : AV} {va vb : Value} (ha : VR M w ρ A va) (hb : VR M w ρ B vb) (h : bin op A B = some r) :
    ∃ v, (do eqGuard op t X Y va vb; Go.binOp op t va vb : Sem Value).run P w = .ok v w ∧ VR M w ρ r v := by
  unfold bin at h
  split at h
  · rename_i k a k' b
    obtain rfl := vr_v ha
    obtain rfl := vr_v hb
    have hg : (eqGuard op t X Y (.int k a) (.int k' b)).run P w = .ok () w := by unfold eqGuard; split <;> rfl
    rw [Sem.run_bind, hg, Result.andThen_ok]
    split at h
    · rename_i hs
      unfold shiftBin at h
      split at h
      · cases h
      · rename_i hb0
        cases op <;> simp [isShift] at hs <;> simp only [Option.some.injEq] at h <;> subst h <;> simp only [Go.binOp, Op.shift, if_neg hb0, Sem.run_pure] <;> exact ⟨_, rfl, .v⟩
    · rename_i hs
      split at h
      · rename_i hk
        subst hk
        cases op <;> simp only [intBin] at h <;> first
          | (simp [isShift] at hs; done)
          | (cases h; done)
          | (simp only [Option.some.injEq] at h; subst h; simp only [Go.binOp, ne_eq, not_true_eq_false, if_false, Op.intArith, Op.intBits, Op.intCmp, Sem.run_pure]; exact ⟨_, rfl, by first | exact .v | (simp only [bne, beq_eq_decide]; exact .v)⟩)
          | (by_cases hz : b = 0
             · rw [if_pos hz] at h; cases h
             · rw [if_neg hz] at h
               simp only [Option.some.injEq] at h
               subst h
               simp only [Go.binOp, ne_eq, not_true_eq_false, if_false, Op.intDiv, if_neg hz, Sem.run_pure]
               exact ⟨_, rfl, .v⟩)
      · cases h
  · rename_i a b
    obtain rfl := vr_v ha
    obtain rfl := vr_v hb
    have hg : (eqGuard op t X Y (.string a) (.string b)).run P w = .ok () w := by unfold eqGuard; split <;> rfl
    rw [Sem.run_bind, hg, Result.andThen_ok]
    cases op <;> simp only [strBin] at h <;> first
      | (cases h; done)
      | (simp only [Option.some.injEq] at h; subst h; simp only [Go.binOp, Op.stringOp, beq_toList, Sem.run_pure]; (try simp only [toList_data]); exact ⟨_, rfl, .v⟩)
      | (split at h
         · rename_i hz
           simp only [Option.some.injEq] at h
           subst h
           have hm : IntKind.i64.max = 9223372036854775807 := rfl
           have hz' : ¬ ((a.size + b.size : Nat) : Int) > IntKind.i64.max := by rw [hm]; omega
           simp only [Go.binOp, Op.stringOp, if_neg hz', Sem.run_pure]
           exact ⟨_, rfl, .v⟩
         · cases h)
  · cases h
theorem binb_sound {op : BinOp} {t : TypeId} (ht : P.underlying t = some .bool) {X Y : Operand} {A B r : AV} {va vb : Value} (ha : VR M w ρ A va) (hb : VR M w ρ B vb) (h : binb op A B = some r) :
    ∃ v, (do eqGuard op t X Y va vb; Go.binOp op t va vb : Sem Value).run P w = .ok v w ∧ VR M w ρ r v := by
  unfold binb at h
  split at h
  · rename_i a b
    obtain rfl := vr_v ha
    obtain rfl := vr_v hb
    have hg : (eqGuard op t X Y (.bool a) (.bool b)).run P w = .ok () w := by unfold eqGuard; split <;> rfl
    have he : (Op.equal t (.bool a) (.bool b)).run P w = .ok (a == b) w := by
      unfold Op.equal Op.maxDepth Op.equalIn
      rw [Sem.run_bind, run_und ht, Result.andThen_ok]
      rfl
    rw [Sem.run_bind, hg, Result.andThen_ok]
    cases op <;> simp only [boolBin] at h <;> first
      | (cases h; done)
      | (simp only [Option.some.injEq] at h; subst h; simp only [Go.binOp, Sem.run_bind, he, Result.andThen_ok, Sem.run_pure]; exact ⟨_, rfl, .v⟩)
  · cases h
theorem isnil_sound {op : BinOp} {t e : TypeId} (ht : P.underlying t = some (.slice e)) {X Y : Operand} {A B r : AV} {va vb : Value} (ha : VR M w ρ A va) (hb : VR M w ρ B vb) (h : isnilA op A B = some r) :
    ∃ v, (do eqGuard op t X Y va vb; Go.binOp op t va vb : Sem Value).run P w = .ok v w ∧ VR M w ρ r v := by
  have key : ∀ (q : Bool), (∃ u n c, va = .slice u n c) → vb = .slice none 0 0 → (Op.equal t va vb).run P w = .ok q w → eqOp op q = some r → ∃ v, (do eqGuard op t X Y va vb; Go.binOp op t va vb : Sem Value).run P w = .ok v w ∧ VR M w ρ r v := by
    rintro q ⟨u, n, c, rfl⟩ rfl he h
    have hg : (eqGuard op t X Y (.slice u n c) (.slice none 0 0)).run P w = .ok () w := by unfold eqGuard; split <;> rfl
    rw [Sem.run_bind, hg, Result.andThen_ok]
    cases op <;> simp only [eqOp] at h <;> first
      | (cases h; done)
      | (simp only [Option.some.injEq] at h; subst h; simp only [Go.binOp, Sem.run_bind, he, Result.andThen_ok, Sem.run_pure]; exact ⟨_, rfl, .v⟩)
  unfold isnilA at h
  split at h
  · obtain rfl := vr_v ha
    obtain rfl := vr_v hb
    refine key true ⟨_, _, _, rfl⟩ rfl ?_ h
    unfold Op.equal Op.maxDepth Op.equalIn
    rw [Sem.run_bind, run_und ht, Result.andThen_ok]
    rfl
  · obtain rfl := vr_v hb
    cases ha with
    | @lst _ _ _ A cap U hc hA hk hm hr =>
      obtain ⟨a, rfl, _⟩ := hA (by simp)
      refine key false ⟨_, _, _, rfl⟩ rfl ?_ h
      unfold Op.equal Op.maxDepth Op.equalIn
      rw [Sem.run_bind, run_und ht, Result.andThen_ok]
      rfl
  · cases h
theorem drop_cons {α : Type} {l : List α} {i : Nat} {a : α} {r : List α} (h : l.drop i = a :: r) : l[i]? = some a ∧ l.drop (i + 1) = r := by
  have h1 : (l.drop i)[0]? = some a := by rw [h]; rfl
  rw [List.getElem?_drop, Nat.add_zero] at h1
  refine ⟨h1, ?_⟩
  have h2 : (l.drop i).drop 1 = r := by rw [h]; rfl
  rw [List.drop_drop] at h2
  exact h2
theorem leafT_some {t : TypeId} {c : Nat} (h : leafT P t = some c) : (c = 0 ∧ P.underlying t = some .bool) ∨ (c = 1 ∧ ∃ k, P.underlying t = some (.int k)) ∨ (c = 2 ∧ P.underlying t = some .string) := by
  unfold leafT at h
  split at h
  · rename_i hu; cases h; exact .inl ⟨rfl, hu⟩
  · rename_i k hu; cases h; exact .inr (.inl ⟨rfl, k, hu⟩)
  · rename_i hu; cases h; exact .inr (.inr ⟨rfl, hu⟩)
  · cases h
theorem part_leaf {t : TypeId} {c : Nat} (h : leafT P t = some c) {xs : Array Value} {off : Nat} {v : Value} (hx : xs[off]? = some v) : (part t xs off).run P w = .ok v w := by
  rcases leafT_some h with ⟨_, hu⟩ | ⟨_, k, hu⟩ | ⟨_, hu⟩ <;> simp [part, isAgg, run_underlying hu, hx]
theorem leaf_sound {t : TypeId} {c : Nat} (h : leafT P t = some c) (d : Nat) {a b : AV} {va vb : Value} (ha : VR M w ρ a va) (hb : VR M w ρ b vb) {r : Bool} (hr : leafEq c a b = some r) : (Op.equalIn (d + 1) t va vb).run P w = .ok r w := by
  unfold leafEq at hr
  split at hr
  · obtain rfl := vr_v ha
    obtain rfl := vr_v hb
    cases hr
    rcases leafT_some h with ⟨_, hu⟩ | ⟨h1, _⟩ | ⟨h1, _⟩
    · exact run_equalIn_bool' w d t _ _ hu
    · cases h1
    · cases h1
  · obtain rfl := vr_v ha
    obtain rfl := vr_v hb
    split at hr
    · rename_i hk
      subst hk
      cases hr
      rcases leafT_some h with ⟨h1, _⟩ | ⟨_, k, hu⟩ | ⟨h1, _⟩
      · cases h1
      · rw [run_equalIn_int w d t _ _ _ _ hu]; congr 1
      · cases h1
    · cases hr
  · obtain rfl := vr_v ha
    obtain rfl := vr_v hb
    cases hr
    rcases leafT_some h with ⟨h1, _⟩ | ⟨h1, _⟩ | ⟨_, hu⟩
    · cases h1
    · cases h1
    · rw [run_equalIn_string w d t _ _ hu, beq_toList]
  · cases hr
section
variable {xs ys : Array Value} {cs ds : List AV}
theorem fields_sound (hc : ∀ (i : Nat) (c : AV) (u : Value), cs[i]? = some c → xs.toList[i]? = some u → VR M w ρ c u) (hlc : cs.length = xs.size) (hd : ∀ (i : Nat) (c : AV) (u : Value), ds[i]? = some c → ys.toList[i]? = some u → VR M w ρ c u) (hld : ds.length = ys.size) (d : Nat) :
    ∀ (fs : List Field) (i : Nat) (ks : List Nat) (r : Bool), fieldsK P fs i = some ks → leavesEq ks (cs.drop i) (ds.drop i) = some r → (Op.eqFields (d + 1) xs ys fs).run P w = .ok r w
  | [], i, ks, r, hk, h => by
    cases hk
    unfold leavesEq at h
    split at h
    · cases h; rfl
    · rename_i h1 _ _; cases h1
    · cases h
  | f :: fs, i, ks, r, hk, h => by
    unfold fieldsK at hk
    split at hk
    · rename_i hf
      obtain ⟨hn, ho⟩ := hf
      obtain ⟨c, hl, hk⟩ := bind_iff.1 hk
      obtain ⟨ks', hk', hk⟩ := bind_iff.1 hk
      cases hk
      unfold leavesEq at h
      split at h
      · rename_i h1 _ _; cases h1
      · rename_i c' cs' a r1 b r2 h1 h2 h3
        cases h1
        obtain ⟨a1, a2⟩ := drop_cons h2
        obtain ⟨b1, b2⟩ := drop_cons h3
        obtain ⟨e, he, h⟩ := bind_iff.1 h
        obtain ⟨q, hq, h⟩ := bind_iff.1 h
        cases h
        rw [← a2, ← b2] at hq
        have hi1 : i < xs.size := by rw [← hlc]; exact (List.getElem?_eq_some_iff.1 a1).1
        have hi2 : i < ys.size := by rw [← hld]; exact (List.getElem?_eq_some_iff.1 b1).1
        have u1 : xs[i]? = some xs[i] := Array.getElem?_eq_getElem hi1
        have u2 : ys[i]? = some ys[i] := Array.getElem?_eq_getElem hi2
        have v1 := hc i a xs[i] a1 (by rw [Array.getElem?_toList]; exact u1)
        have v2 := hd i b ys[i] b1 (by rw [Array.getElem?_toList]; exact u2)
        have ih := fields_sound hc hlc hd hld d fs (i + 1) ks' q hk' hq
        subst ho
        simp only [Op.eqFields, if_pos hn, Sem.run_bind, part_leaf hl u1, part_leaf hl u2, Result.andThen_ok, leaf_sound hl d v1 v2 he]
        cases e
        · simp
        · simpa using ih
      · cases h
    · cases hk
theorem items_sound (hc : ∀ (i : Nat) (c : AV) (u : Value), cs[i]? = some c → xs.toList[i]? = some u → VR M w ρ c u) (hlc : cs.length = xs.size) (hd : ∀ (i : Nat) (c : AV) (u : Value), ds[i]? = some c → ys.toList[i]? = some u → VR M w ρ c u) (hld : ds.length = ys.size) (d : Nat) {e : TypeId} {c : Nat} (hl : leafT P e = some c) :
    ∀ (n i : Nat) (r : Bool), leavesEq (List.replicate n c) (cs.drop i) (ds.drop i) = some r → (Op.eqItems (d + 1) e 1 xs ys (List.range' i n)).run P w = .ok r w
  | 0, i, r, h => by
    rw [List.replicate_zero] at h
    unfold leavesEq at h
    split at h
    · cases h; rfl
    · rename_i h1 _ _; cases h1
    · cases h
  | n + 1, i, r, h => by
    rw [List.replicate_succ] at h
    unfold leavesEq at h
    split at h
    · rename_i h1 _ _; cases h1
    · rename_i c' cs' a r1 b r2 h1 h2 h3
      cases h1
      obtain ⟨a1, a2⟩ := drop_cons h2
      obtain ⟨b1, b2⟩ := drop_cons h3
      obtain ⟨x, he, h⟩ := bind_iff.1 h
      obtain ⟨q, hq, h⟩ := bind_iff.1 h
      cases h
      rw [← a2, ← b2] at hq
      have hi1 : i < xs.size := by rw [← hlc]; exact (List.getElem?_eq_some_iff.1 a1).1
      have hi2 : i < ys.size := by rw [← hld]; exact (List.getElem?_eq_some_iff.1 b1).1
      have u1 : xs[i]? = some xs[i] := Array.getElem?_eq_getElem hi1
      have u2 : ys[i]? = some ys[i] := Array.getElem?_eq_getElem hi2
      have v1 := hc i a xs[i] a1 (by rw [Array.getElem?_toList]; exact u1)
      have v2 := hd i b ys[i] b1 (by rw [Array.getElem?_toList]; exact u2)
      have ih := items_sound hc hlc hd hld d hl n (i + 1) q hq
      rw [List.range'_succ]
      simp only [Op.eqItems, Nat.mul_one, Sem.run_bind, part_leaf hl u1, part_leaf hl u2, Result.andThen_ok, leaf_sound hl d v1 v2 he]
      cases x
      · simp
      · simpa using ih
    · cases h
end
theorem binf_sound {op : BinOp} {t : TypeId} {ks : List Nat} (ht : flatK P t = some ks) {X Y : Operand} {A B r : AV} {va vb : Value} (ha : VR M w ρ A va) (hb : VR M w ρ B vb) (h : binf op ks A B = some r) :
    ∃ v, (do eqGuard op t X Y va vb; Go.binOp op t va vb : Sem Value).run P w = .ok v w ∧ VR M w ρ r v := by
  unfold binf at h
  split at h
  · rename_i cs ds
    obtain ⟨q, hq, h⟩ := bind_iff.1 h
    cases ha with
    | @agg _ _ xs hlc _ hc =>
      cases hb with
      | @agg _ _ ys hld _ hd =>
        have both : P.eqGuardType P.depth t = false ∧ (Op.equalIn 10000 t (.agg xs) (.agg ys)).run P w = .ok q w := by
          unfold flatK at ht
          split at ht
          · rename_i fs hu
            split at ht
            · rename_i hs
              refine ⟨hs.2, ?_⟩
              have hf : P.fieldsOf t = fs := by simp [Program.fieldsOf, hu]
              rw [show (10000 : Nat) = 9998 + 1 + 1 from rfl, run_equalIn_struct w (9998 + 1) t xs ys (by rw [hf]; exact hu) hs.1, hf]
              exact fields_sound hc hlc hd hld 9998 fs.toList 0 ks q ht (by simpa using hq)
            · cases ht
          · rename_i n e hu
            split at ht
            · rename_i hs
              refine ⟨hs.1, ?_⟩
              obtain ⟨c, hl, ht⟩ := bind_iff.1 ht
              cases ht
              obtain ⟨i, hi, h1, _⟩ := szOf_some hs.2
              have hce : P.cellsOf e = 1 := by rw [Program.cellsOf, hi]; simpa using h1
              rw [show (10000 : Nat) = 9998 + 1 + 1 from rfl, run_equalIn_array w (9998 + 1) xs ys hu hi, hce, List.range_eq_range']
              exact items_sound hc hlc hd hld 9998 hl n 0 q (by simpa using hq)
            · cases ht
          · cases ht
        obtain ⟨hg, he⟩ := both
        rw [Sem.run_bind, run_eqGuard_agg w op t X Y xs ys hg, Result.andThen_ok]
        unfold eqOp at h
        split at h
        · cases h
          rw [run_eql_struct, he]
          exact ⟨_, rfl, .v⟩
        · cases h
          rw [run_neq_struct, he]
          exact ⟨_, rfl, .v⟩
        · cases h
  · cases h
theorem un_sound {op : UnOp} {A r : AV} {va : Value} (ha : VR M w ρ A va) (h : un op A = some r) : ∃ v, (Op.unary op va).run P w = .ok v w ∧ VR M w ρ r v := by
  unfold un at h
  split at h
  · obtain rfl := vr_v ha
    split at h
    · cases h; exact ⟨_, rfl, .v⟩
    · cases h
  · obtain rfl := vr_v ha
    split at h
    · cases h; exact ⟨_, rfl, .v⟩
    · cases h
  · cases h
theorem pick_sound {C A B r : AV} {vc va vb : Value} (hc : VR M w ρ C vc) (ha : VR M w ρ A va) (hb : VR M w ρ B vb) (h : pickA C A B = some r) :
    ∃ v, (do pure (.value (if ← asBool vc then va else vb)) : Sem Next).run P w = .ok (.value v) w ∧ VR M w ρ r v := by
  unfold pickA at h
  split at h
  · rename_i p
    obtain rfl := vr_v hc
    cases h
    cases p
    · exact ⟨vb, rfl, hb⟩
    · exact ⟨va, rfl, ha⟩
  · cases h
theorem conv_sound {s d : TypeId} {ks k : IntKind} (hs : P.underlying s = some (.int ks)) (hd : P.underlying d = some (.int k)) {A r : AV} {va : Value} (ha : VR M w ρ A va) (h : convA k A = some r) :
    ∃ v, (convert s d va).run P w = .ok v w ∧ VR M w ρ r v := by
  unfold convA at h
  split at h
  · obtain rfl := vr_v ha
    cases h
    exact ⟨_, by simp only [convert, Sem.run_bind, run_und hs, run_und hd, Result.andThen_ok, Conv.intToInt, Sem.run_pure], .v⟩
  · cases h
theorem s2s_sound {s d : TypeId} (hs : P.underlying s = some .string) (hd : P.underlying d = some .string) {A r : AV} {va : Value} (ha : VR M w ρ A va) (h : s2sA A = some r) :
    ∃ v, (convert s d va).run P w = .ok v w ∧ VR M w ρ r v := by
  unfold s2sA at h
  split at h
  · obtain rfl := vr_v ha
    cases h
    exact ⟨_, by simp only [convert, Sem.run_bind, run_und hs, run_und hd, Result.andThen_ok, Sem.run_pure], .v⟩
  · cases h
theorem liv_some {a r : AV} {o : Option Blk} (h : liv a o = some r) : (∃ b, o = some b) ∧ r = a := by
  cases o with
  | none => cases h
  | some b => cases h; exact ⟨⟨b, rfl⟩, rfl⟩
theorem live_ptr {H : Hp} (hH : HR base M ρ H w) {id i j : Nat} {v : Value} (h : VR M w ρ (.ptr id i j) v) {b : Blk} (hb : hget H id = some b) :
    ∃ L, ρ[id]? = some (some L) ∧ v = .pointer (some ⟨L.g, i * L.k + j, none⟩) := by
  cases h with
  | ptr L hL => exact ⟨L, hL, rfl⟩
  | dptr h0 _ => rw [← hH.dead, hget_some hb] at h0; cases h0
theorem live_sl {H : Hp} (hH : HR base M ρ H w) {id off n : Nat} {v : Value} (h : VR M w ρ (.sl id off n) v) {b : Blk} (hb : hget H id = some b) :
    ∃ L A c, ρ[id]? = some (some L) ∧ off + c = L.cap ∧ n ≤ c ∧ ((off ≠ 0 ∧ c = 0) ∨ A = some ⟨L.g, off * L.k, none⟩) ∧ v = .slice A n c := by
  cases h with
  | sl L hL h1 h2 hA => exact ⟨L, _, _, hL, h1, h2, hA, rfl⟩
  | dsl h0 _ => rw [← hH.dead, hget_some hb] at h0; cases h0
theorem faddr_sound {H : Hp} (hH : HR base M ρ H w) {t : TypeId} {f : Nat} {fs : Array Field} {g : Field} (ht : P.underlying t = some (.struct fs)) (hf : fs[f]? = some g) {k : Nat} (hk : szOf P g.type = some k) {A r : AV} {va : Value} (ha : VR M w ρ A va)
    (h : faddrA H g.offset A = some r) : ∃ v, (Instr.fieldAt t va f).run P w = .ok v w ∧ VR M w ρ r v := by
  obtain ⟨i, hi, rfl, hk0⟩ := szOf_some hk
  have key : ∀ (a : Addr), a.spot = none → (Instr.fieldAt t (.pointer (some a)) f).run P w = .ok (.pointer (some ⟨a.block, a.off + g.offset, none⟩)) w := by
    intro a hs
    have h0 : ¬ i.size = 0 := by omega
    simp [Instr.fieldAt, run_und ht, hf, Instr.sureAddr, fieldPlace, run_size hi, h0, add_spot hs]
  unfold faddrA at h
  split at h
  · rename_i id n j
    obtain ⟨⟨b, hb⟩, rfl⟩ := liv_some h
    obtain ⟨L, hL, rfl⟩ := live_ptr hH ha hb
    exact ⟨_, key _ rfl, by rw [Nat.add_assoc]; exact .ptr L hL⟩
  · rename_i e j
    cases h
    cases ha with
    | @el _ _ _ a U hs hM hm hr =>
      refine ⟨_, key _ hs, .el U rfl hM (fun x c hx hc => ?_) hr⟩
      obtain ⟨q1, q2⟩ := hm x c (by omega) hc
      exact ⟨by simp only [Nat.add_assoc]; rwa [show g.offset + (x - (j + g.offset)) = x - j by omega], q2⟩
  · cases h
theorem iaddr_row_sound {H : Hp} (hH : HR base M ρ H w) {t e : TypeId} (ht : P.underlying t = some (.slice e)) {k : Nat} (hk : szOf P e = some k) {A I r : AV} {va vi : Value} (ha : VR M w ρ A va) (hi : VR M w ρ I vi)
    (h : iaddrA H (.row k) A I = some r) : ∃ v, (Instr.indexAt t va vi).run P w = .ok v w ∧ VR M w ρ r v := by
  obtain ⟨i, hi', rfl, hk0⟩ := szOf_some hk
  have key : ∀ (a : Addr) (kk : IntKind) (n : Int) (len c : Nat), 0 ≤ n ∧ n < len → (Instr.indexAt t (.slice (some a) len c) (.int kk n)).run P w = .ok (.pointer (some (a.add (n.toNat * i.size)))) w := by
    intro a kk n len c hn
    simp only [Instr.indexAt, asIntOf, Sem.run_bind, Sem.run_pure, Result.andThen_ok, run_und ht]
    simp only [if_pos hn, Sem.run_bind, run_size hi', Result.andThen_ok, Sem.run_pure]
  unfold iaddrA at h
  split at h
  · rename_i k k' xs kk n heq
    cases heq
    obtain rfl := vr_v hi
    split at h
    · rename_i hkk
      subst hkk
      unfold elAt at h
      split at h
      · rename_i hn
        cases hx : xs[n.toNat]? with
        | none => rw [hx] at h; cases h
        | some el =>
          rw [hx] at h
          cases h
          cases ha with
          | @lst _ _ _ A cap U hc ha hk' hm hr =>
            obtain ⟨a, rfl, hs, hM⟩ := ha (fun hq => by simp [hq] at hx)
            refine ⟨_, key a kk n xs.length cap hn, ?_⟩
            rw [add_spot hs]
            refine .el (U n.toNat) rfl hM (fun j c _ hc' => ?_) (fun j c hc' => hr _ _ _ _ hx hc')
            have := hm a rfl _ _ _ _ hx hc'
            simp only [Nat.sub_zero, Nat.add_assoc]
            exact this
      · cases h
    · cases h
  · rename_i k id off len kk n heq
    cases heq
    obtain rfl := vr_v hi
    split at h
    · rename_i hn
      cases hb : hget H id with
      | none => rw [hb] at h; cases h
      | some b =>
        rw [hb] at h
        simp only [iaddrB] at h
        split at h
        · rename_i hbk
          cases h
          obtain ⟨L, A, c, hL, h1, h2, hA, rfl⟩ := live_sl hH ha hb
          have hlen : 0 < len := by omega
          obtain rfl : A = some ⟨L.g, off * L.k, none⟩ := by
            rcases hA with hA | hA
            · omega
            · exact hA
          refine ⟨_, key _ kk n len c hn, ?_⟩
          have hLk : L.k = i.size := by rw [(hH.blk id b L (hget_some hb) hL).kk, hbk]
          rw [add_none, hLk]
          have : (VR M w ρ (.ptr id (off + n.toNat) 0) (.pointer (some ⟨L.g, (off + n.toNat) * L.k + 0, none⟩))) := .ptr L hL
          rw [hLk, Nat.add_mul, Nat.add_zero] at this
          exact this
        · cases h
    · cases h
  · rename_i heq; cases heq
  · rename_i heq; cases heq
  · cases h
theorem iaddr_arr_sound {H : Hp} (hH : HR base M ρ H w) {t e : TypeId} {len : Nat} (ht : P.underlying t = some (.array len e)) {k : Nat} (hk : szOf P e = some k) {A I r : AV} {va vi : Value} (ha : VR M w ρ A va) (hi : VR M w ρ I vi)
    (h : iaddrA H (.arr len k) A I = some r) : ∃ v, (Instr.indexAt t va vi).run P w = .ok v w ∧ VR M w ρ r v := by
  obtain ⟨i, hi', rfl, hk0⟩ := szOf_some hk
  have key : ∀ (a : Addr) (kk : IntKind) (n : Int), 0 ≤ n ∧ n < len → (Instr.indexAt t (.pointer (some a)) (.int kk n)).run P w = .ok (.pointer (some (a.add (n.toNat * i.size)))) w := by
    intro a kk n hn
    simp only [Instr.indexAt, asIntOf, Sem.run_bind, Sem.run_pure, Result.andThen_ok, run_und ht, Instr.sureAddr]
    simp only [if_pos hn, Sem.run_bind, run_size hi', Result.andThen_ok, Sem.run_pure]
  unfold iaddrA at h
  split at h
  · rename_i heq; cases heq
  · rename_i heq; cases heq
  · rename_i len' k' id n0 j kk n heq
    cases heq
    obtain rfl := vr_v hi
    split at h
    · rename_i hn
      obtain ⟨⟨b, hb⟩, rfl⟩ := liv_some h
      obtain ⟨L, hL, rfl⟩ := live_ptr hH ha hb
      refine ⟨_, key _ kk n hn, ?_⟩
      rw [add_none, Nat.add_assoc]
      exact .ptr L hL
    · cases h
  · rename_i len' k' el j kk n heq
    cases heq
    obtain rfl := vr_v hi
    split at h
    · rename_i hn
      cases h
      cases ha with
      | @el _ _ _ a U hs hM hm hr =>
        refine ⟨_, key a kk n hn, ?_⟩
        rw [add_spot hs]
        refine .el U rfl hM (fun x c hx hc => ?_) hr
        obtain ⟨q1, q2⟩ := hm x c (by omega) hc
        exact ⟨by simp only [Nat.add_assoc]; rwa [show n.toNat * i.size + (x - (j + n.toNat * i.size)) = x - j by omega], q2⟩
    · cases h
  · cases h
end Go.Proofs.YtlmjoimjdpfamaaGreat.Ev
namespace Go.Proofs.YtlmjoimjdpfamaaGreat.Ev
variable {P : Program} {base : Nat} {M : Nat → Prop} {ρ : Rho} {w : World}
theorem field_sound {t : TypeId} {f : Nat} {fs : Array Field} {g : Field} (ht : P.underlying t = some (.struct fs)) (hf : fs[f]? = some g) {k : Nat} (hk : szOf P g.type = some k) {ag : Bool} (hag : isAg P g.type = some ag)
    {A r : AV} {va : Value} (ha : VR M w ρ A va) (h : fieldA g.offset k ag A = some r) : ∃ v, (Instr.field t va f).run P w = .ok v w ∧ VR M w ρ r v := by
  obtain ⟨i, hi, rfl, hk0⟩ := szOf_some hk
  obtain ⟨d, hd, rfl⟩ := isAg_some hag
  unfold fieldA at h
  split at h
  · rename_i cs
    split at h
    · rename_i hl
      cases ha with
      | @agg _ _ vs hl' ho hall =>
        obtain ⟨v, hv, hr⟩ := part_sound hi hd (.agg hl' ho hall) hl h
        refine ⟨v, ?_, hr⟩
        simp only [Instr.field, Sem.run_bind, run_und ht, Result.andThen_ok, hf, asAgg, Sem.run_pure]
        exact hv
    · cases h
  · cases h
theorem bt_getD (s : ByteArray) (n : Nat) (h : n < s.size) : s[n]? = some (s.data.toList.getD n 0) := by
  rw [ByteArray.getElem?_lt' s n h]
  congr 1
  rw [getD_getElem?, List.getElem?_eq_getElem (by simpa using h)]
  rfl
theorem index_str_sound {t : TypeId} (ht : P.underlying t = some .string) {ag : Bool} {A I r : AV} {va vi : Value} (ha : VR M w ρ A va) (hi : VR M w ρ I vi) (h : indexA ag .str A I = some r) :
    ∃ v, (Instr.index t va vi).run P w = .ok v w ∧ VR M w ρ r v := by
  unfold indexA at h
  split at h
  · rename_i s kk n heq
    obtain rfl := vr_v ha
    obtain rfl := vr_v hi
    split at h
    · rename_i hn
      cases h
      have hs : s[n.toNat]? = some (s.data.toList.getD n.toNat 0) := bt_getD s _ (by omega)
      simp only [Instr.index, asIntOf, Sem.run_bind, Sem.run_pure, Result.andThen_ok, run_und ht, if_pos hn.1, hs]
      exact ⟨_, rfl, .v⟩
    · cases h
  · rename_i heq; cases heq
  · cases h
theorem index_arr_sound {t e : TypeId} {len : Nat} (ht : P.underlying t = some (.array len e)) {k : Nat} (hk : szOf P e = some k) {ag : Bool} (hag : isAg P e = some ag) {A I r : AV} {va vi : Value} (ha : VR M w ρ A va) (hi : VR M w ρ I vi) (h : indexA ag (.arr len k) A I = some r) :
    ∃ v, (Instr.index t va vi).run P w = .ok v w ∧ VR M w ρ r v := by
  obtain ⟨i, hi', rfl, hk0⟩ := szOf_some hk
  obtain ⟨d, hd, rfl⟩ := isAg_some hag
  unfold indexA at h
  split at h
  · rename_i heq; cases heq
  · rename_i len' k' cs kk n heq
    cases heq
    obtain rfl := vr_v hi
    split at h
    · rename_i hn
      split at h
      · rename_i hl
        cases ha with
        | @agg _ _ vs hl' ho hall =>
          obtain ⟨v, hv, hr⟩ := part_sound hi' hd (.agg hl' ho hall) hl h
          refine ⟨v, ?_, hr⟩
          simp only [Instr.index, asIntOf, Sem.run_bind, Sem.run_pure, Result.andThen_ok, run_und ht, if_pos hn, run_size hi']
          exact hv
      · cases h
    · cases h
  · cases h
theorem extract_sound {A r : AV} {i : Nat} {va : Value} (ha : VR M w ρ A va) (h : extractA i A = some r) : ∃ v, (Instr.extract va i).run P w = .ok v w ∧ VR M w ρ r v := by
  unfold extractA at h
  split at h
  · rename_i vs
    cases ha with
    | @tup _ _ us hl hall =>
      have hlt : i < us.size := by rw [← hl]; exact (List.getElem?_eq_some_iff.1 h).1
      have hv : us[i]? = some us[i] := Array.getElem?_eq_getElem hlt
      simp only [Instr.extract, hv, Sem.run_pure]
      exact ⟨_, rfl, hall i r _ h (by rw [Array.getElem?_toList]; exact hv)⟩
  · cases h
theorem len_sound {H : Hp} (hH : HR base M ρ H w) {t : TypeId} {sk : SK} {ty : TypeId} (ht : match sk with | .str => P.underlying t = some .string | .row _ => ∃ e, P.underlying t = some (.slice e) | .arr n _ => ∃ e, P.underlying t = some (.array n e))
    {A r : AV} {va : Value} (ha : VR M w ρ A va) (h : lenA H sk A = some r) : ∃ v, (Builtin.len_ #[t] ty #[va]).run P w = .ok v w ∧ VR M w ρ r v := by
  unfold lenA at h
  split at h
  · obtain rfl := vr_v ha
    cases h
    exact ⟨_, by simp [Builtin.len_, run_und ht, goInt], .v⟩
  · obtain ⟨e, ht⟩ := ht
    obtain rfl := vr_v ha
    cases h
    exact ⟨_, by simp [Builtin.len_, run_und ht, goInt], .v⟩
  · obtain ⟨e, ht⟩ := ht
    cases h
    cases ha with
    | lst U hc ha hk hm hr => exact ⟨_, by simp [Builtin.len_, run_und ht, goInt], .v⟩
  · obtain ⟨e, ht⟩ := ht
    obtain ⟨⟨b, hb⟩, rfl⟩ := liv_some h
    obtain ⟨L, A, c, hL, h1, h2, hA, rfl⟩ := live_sl hH ha hb
    exact ⟨_, by simp [Builtin.len_, run_und ht, goInt], .v⟩
  · obtain ⟨e, ht⟩ := ht
    cases h
    exact ⟨_, by simp [Builtin.len_, run_und ht, goInt], .v⟩
  · cases h
theorem nil_run {o : Oper} {X : Operand} {a : Act} (ho : o.op = .nilCheck X) {v : Value} (hv : a.eval X = v) (hp : (∃ q, v = .pointer (some q)) ∨ ∃ f x y, v = .func (.func f) x y) :
    (execOp a.eval o).run P w = .ok (.value v) w := by
  unfold execOp
  rw [ho]
  simp only [hv]
  rcases hp with ⟨q, rfl⟩ | ⟨f, x, y, rfl⟩ <;> rfl
theorem nilck_sound {H : Hp} (hH : HR base M ρ H w) {o : Oper} {X : Operand} {a : Act} (ho : o.op = .nilCheck X) {A r : AV} (ha : VR M w ρ A (a.eval X)) (h : nilckA H A = some r) :
    ∃ v, (execOp a.eval o).run P w = .ok (.value v) w ∧ VR M w ρ r v := by
  obtain ⟨v, hv⟩ : ∃ v, a.eval X = v := ⟨_, rfl⟩
  rw [hv] at ha
  refine ⟨v, nil_run ho hv ?_, ?_⟩
  · unfold nilckA at h
    split at h
    · obtain ⟨⟨b, hb⟩, rfl⟩ := liv_some h
      obtain ⟨L, hL, hv⟩ := live_ptr hH ha hb
      exact .inl ⟨_, hv⟩
    · cases ha with
      | el U hs hM hm hr => exact .inl ⟨_, rfl⟩
    · cases ha with
      | fn hla hlb h1 h2 => exact .inr ⟨_, _, _, rfl⟩
    · cases h
  · unfold nilckA at h
    split at h
    · obtain ⟨⟨b, hb⟩, rfl⟩ := liv_some h
      exact ha
    · cases h; exact ha
    · cases h; exact ha
    · cases h
theorem vr_args {s : List (Nat × AV)} {a : Act} (xs : Array Operand) (hS : Opd M ρ w s a xs.toList) : (evs s (xs.toList.map loOf)).length = (xs.map a.eval).size ∧
    ∀ (i : Nat) (c : AV) (u : Value), (evs s (xs.toList.map loOf))[i]? = some c → (xs.map a.eval).toList[i]? = some u → VR M w ρ c u := by
  unfold evs
  refine ⟨by simp, fun i c u h1 h2 => ?_⟩
  simp only [List.getElem?_map, Array.toList_map] at h1 h2
  cases hx : xs.toList[i]? with
  | none => rw [hx] at h1; cases h1
  | some x =>
    rw [hx] at h1 h2
    cases h1
    cases h2
    exact hS x (List.mem_of_getElem? hx)
theorem own_closed {H : Hp} (hH : HR base M ρ H w) {id : Nat} {b : Blk} (hb : H[id]? = some (some b)) (hk : b.kd ≠ 0) {L : Loc} (hL : ρ[id]? = some (some L)) {i : Nat} {e : AV} (he : b.es[i]? = some e) : CA M w [] L.g (i * L.k) e.cells := by
  intro j c hc
  have q := hH.blk id b L hb hL
  obtain ⟨cur, fr, h1, _, _, h4⟩ := q.cur
  obtain ⟨u, a1, a2, a3⟩ := h4 i e j c he hc
  rw [if_neg hk] at a3
  exact ⟨u, by rw [cell_of_row w L.g _ cur b.ty fr h1, q.kk]; exact a1, a2, a3⟩
/-- The rows of elements that a value names. -/
theorem row_read {H : Hp} (hH : HR base M ρ H w) {A : AV} {va : Value} (ha : VR M w ρ A va) {k : Nat} {xs : List AV} (h : rowElems H A = some (k, xs)) :
    ∃ B c, va = .slice B xs.length c ∧ (xs ≠ [] → ∃ a, B = some a ∧ a.spot = none ∧ ∀ (i : Nat) (e : AV), xs[i]? = some e → e.cells.length = k ∧ CA M w [] a.block (a.off + i * k) e.cells) := by
  unfold rowElems at h
  split at h
  · cases h
    obtain rfl := vr_v ha
    exact ⟨none, 0, rfl, fun hn => absurd rfl hn⟩
  · cases h
    cases ha with
    | @lst _ _ _ A cap U hc hx hk hm hr =>
      refine ⟨A, cap, rfl, fun hn => ?_⟩
      obtain ⟨a, rfl, hs, hM⟩ := hx hn
      refine ⟨a, rfl, hs, fun i e he => ⟨hk i e he, fun j c hj => ?_⟩⟩
      obtain ⟨q1, q2⟩ := hm a rfl i e j c he hj
      exact ⟨U i j, by rw [Nat.add_assoc]; exact q1, q2, hr i e j c he hj⟩
  · rename_i id off n
    cases hb : hget H id with
    | none => rw [hb] at h; cases h
    | some b =>
      rw [hb] at h
      simp only [rowB] at h
      split at h
      · rename_i hl
        cases h
        obtain ⟨L, A, c, hL, h1, h2, hA, rfl⟩ := live_sl hH ha hb
        have q := hH.blk id b L (hget_some hb) hL
        have hlen : ((b.es.drop off).take n).length = n := by simp; omega
        have hat : ∀ (i : Nat) (e : AV), ((b.es.drop off).take n)[i]? = some e → b.es[off + i]? = some e := by
          intro i e he
          rw [List.getElem?_take] at he
          split at he
          · rwa [List.getElem?_drop] at he
          · cases he
        refine ⟨A, c, by rw [hlen], fun hn => ?_⟩
        have hn0 : 0 < n := by
          cases n with
          | zero => simp at hn
          | succ n => omega
        obtain rfl : A = some ⟨L.g, off * L.k, none⟩ := by
          rcases hA with hA | hA
          · omega
          · exact hA
        refine ⟨_, rfl, rfl, fun i e he => ?_⟩
        have he' := hat i e he
        refine ⟨q.ek _ _ he', ?_⟩
        have := own_closed hH (hget_some hb) hl.1 hL he'
        rw [q.kk] at this ⊢
        rwa [Nat.add_mul] at this
      · cases h
  · cases h
theorem bytesOf_some : ∀ {xs : List AV} {l : List UInt8}, bytesOf xs = some l → ∃ ns : List Int, xs = ns.map (fun n => .v (.int .u8 n)) ∧ l = ns.map fun n => UInt8.ofNat n.toNat
  | [], l, h => by cases h; exact ⟨[], rfl, rfl⟩
  | a :: r, l, h => by
    unfold bytesOf at h
    split at h
    · rename_i heq; cases heq
    · rename_i n r' heq
      cases heq
      obtain ⟨l', hl, h2⟩ := bind_iff.1 h
      cases h2
      obtain ⟨ns, rfl, rfl⟩ := bytesOf_some hl
      exact ⟨n :: ns, rfl, rfl⟩
    · cases h
theorem push_foldl : ∀ (ns : List Int) (s : ByteArray), ns.foldl (fun r n => r.push (UInt8.ofNat n.toNat)) s = ⟨s.data ++ (ns.map fun n => UInt8.ofNat n.toNat).toArray⟩
  | [], s => by cases s; simp
  | n :: ns, s => by
    rw [List.foldl_cons, push_foldl ns]
    congr 1
    apply Array.ext'
    simp [ByteArray.push]
theorem b2s_sound {H : Hp} (hH : HR base M ρ H w) {s d e : TypeId} (hs : P.underlying s = some (.slice e)) (he : P.underlying e = some (.int .u8)) (hd : P.underlying d = some .string) {A r : AV} {va : Value} (ha : VR M w ρ A va)
    (h : b2sR (rowElems H A) = some r) : ∃ v, (convert s d va).run P w = .ok v w ∧ VR M w ρ r v := by
  cases hx : rowElems H A with
  | none => rw [hx] at h; cases h
  | some q =>
    obtain ⟨k, xs⟩ := q
    rw [hx] at h
    simp only [b2sR] at h
    cases hl : bytesOf xs with
    | none => rw [hl] at h; cases h
    | some l =>
      rw [hl] at h
      cases h
      obtain ⟨B, c, rfl, hB⟩ := row_read hH ha hx
      obtain ⟨ns, rfl, rfl⟩ := bytesOf_some hl
      rw [run_convert_bytes_string w s d e _ _ _ hs he hd]
      refine ⟨_, ?_, .v⟩
      cases hn : ns with
      | nil =>
        subst hn
        cases B with
        | none => rfl
        | some a => rfl
      | cons n0 ns0 =>
        rw [← hn]
        obtain ⟨a, rfl, hsp, hall⟩ := hB (by rw [hn]; simp)
        have hk : k = 1 := by
          obtain ⟨q, _⟩ := hall 0 (.v (.int .u8 n0)) (by rw [hn]; rfl)
          rw [← q]; rfl
        subst hk
        have hload : (loadCells a (ns.map fun n => AV.v (.int .u8 n)).length).run P w = .ok (ns.map (Value.int .u8)).toArray w := by
          rw [List.length_map, ← List.length_map (f := Value.int .u8) (as := ns)]
          refine run_loadCells_list w a _ fun j v hv => ?_
          rw [List.getElem?_map] at hv
          cases hj : ns[j]? with
          | none => rw [hj] at hv; cases hv
          | some n =>
            rw [hj] at hv
            cases hv
            obtain ⟨_, hca⟩ := hall j (.v (.int .u8 n)) (by rw [List.getElem?_map, hj]; rfl)
            obtain ⟨u, h1, _, h3⟩ := hca 0 (.v (.int .u8 n)) rfl
            obtain rfl := vr_v h3
            rw [add_spot hsp]
            rw [Nat.mul_one, Nat.add_zero] at h1
            exact h1
        rw [run_bytesToString w a _ c ns hload, push_foldl]
        simp
/-- Slices of slices and of strings. -/
def VO (M : Nat → Prop) (w : World) (ρ : Rho) : Option AV → Option Value → Prop
  | none, none => True
  | some a, some v => VR M w ρ a v
  | _, _ => False
theorem vo_lo {s : List (Nat × AV)} {a : Act} (o : Option Operand) (hS : Opd M ρ w s a o.toList) : VO M w ρ (optO s (o.map loOf)) (o.map a.eval) := by
  cases o with
  | none => trivial
  | some o => exact hS o (by simp)
theorem vo_int {d : Int} {A : Option AV} {v : Option Value} (h : VO M w ρ A v) {l : Int} (hl : intO d A = some l) : (v = none ∧ l = d) ∨ ∃ k, v = some (.int k l) := by
  cases A with
  | none =>
    cases v with
    | none => simp only [intO, Option.some.injEq] at hl; exact .inl ⟨rfl, hl.symm⟩
    | some v => exact h.elim
  | some A =>
    cases v with
    | none => exact h.elim
    | some v =>
      unfold intO at hl
      split at hl
      · rename_i heq; cases heq
      · rename_i k n heq
        cases heq
        obtain rfl := vr_v (show VR M w ρ (.v (.int k n)) v from h)
        cases hl
        exact .inr ⟨k, rfl⟩
      · cases hl
theorem bounds_run {isS : Bool} {len cap : Nat} {lo hi : Option AV} {vlo vhi : Option Value} (hlo : VO M w ρ lo vlo) (hhi : VO M w ρ hi vhi) {l h : Int} (h1 : intO 0 lo = some l) (h2 : intO len hi = some h) (c1 : 0 ≤ l) (c2 : l ≤ h) (c3 : h ≤ cap) :
    (Instr.sliceBounds isS len cap vlo vhi none).run P w = .ok (l.toNat, h.toNat, cap) w := by
  have e1 : (0 : Int) ≤ h ∧ h ≤ (cap : Int) := by omega
  have e2 : (0 : Int) ≤ l ∧ l ≤ ((h.toNat : Nat) : Int) := by omega
  unfold Instr.sliceBounds
  rcases vo_int hlo h1 with ⟨rfl, rfl⟩ | ⟨kl, rfl⟩ <;> rcases vo_int hhi h2 with ⟨rfl, rfl⟩ | ⟨kh, rfl⟩
  · simp
  · simp only [Instr.sliceBound, asIntOf, Sem.run_bind, Sem.run_pure, Result.andThen_ok, if_pos e1]; rfl
  · simp only [Int.toNat_natCast] at e2 ⊢
    simp only [Instr.sliceBound, asIntOf, Sem.run_bind, Sem.run_pure, Result.andThen_ok, if_pos e2]
  · simp only [Instr.sliceBound, asIntOf, Sem.run_bind, Sem.run_pure, Result.andThen_ok, if_pos e1, if_pos e2]
theorem slice_str_sound {t : TypeId} (ht : P.underlying t = some .string) {H : Hp} {A r : AV} {va : Value} (ha : VR M w ρ A va) {lo hi : Option AV} {vlo vhi : Option Value} (hlo : VO M w ρ lo vlo) (hhi : VO M w ρ hi vhi)
    (h : sliceA H lo hi .str A = some r) : ∃ v, (Instr.sliceAt t va vlo vhi none).run P w = .ok v w ∧ VR M w ρ r v := by
  unfold sliceA at h
  split at h
  · rename_i s heq
    obtain rfl := vr_v ha
    unfold sliceStr at h
    split at h
    · rename_i l u hl hu
      split at h
      · rename_i hc
        cases h
        have := bounds_run (P := P) (isS := false) hlo hhi hl hu hc.1 hc.2.1 hc.2.2
        refine ⟨_, ?_, .v⟩
        simp only [Instr.sliceAt, Instr.slice, Sem.run_bind, run_und ht, Result.andThen_ok, Option.isSome_none, Bool.false_eq_true, if_false, this, Sem.run_pure]
      · cases h
    · cases h
  · rename_i heq; cases heq
  · rename_i heq; cases heq
  · rename_i heq; cases heq
  · cases h
theorem slice_row_sound {H : Hp} (hH : HR base M ρ H w) {t e : TypeId} (ht : P.underlying t = some (.slice e)) {k : Nat} (hk : szOf P e = some k) {A r : AV} {va : Value} (ha : VR M w ρ A va) {lo hi : Option AV} {vlo vhi : Option Value}
    (hlo : VO M w ρ lo vlo) (hhi : VO M w ρ hi vhi) (h : sliceA H lo hi (.row k) A = some r) : ∃ v, (Instr.sliceAt t va vlo vhi none).run P w = .ok v w ∧ VR M w ρ r v := by
  obtain ⟨i, hi', rfl, hk0⟩ := szOf_some hk
  have run : ∀ (B : Option Addr) (n c : Nat) (l u : Int), intO 0 lo = some l → intO n hi = some u → 0 ≤ l → l ≤ u → u ≤ c →
      (Instr.sliceAt t (.slice B n c) vlo vhi none).run P w = .ok (.slice (if c = l.toNat then B else B.map (·.add (l.toNat * i.size))) (u.toNat - l.toNat) (c - l.toNat)) w := by
    intro B n c l u hl hu h1 h2 h3
    have := bounds_run (P := P) (isS := true) hlo hhi hl hu h1 h2 h3
    simp only [Instr.sliceAt, Instr.slice, Sem.run_bind, run_und ht, Result.andThen_ok, this, run_size hi', Sem.run_pure]
  unfold sliceA at h
  split at h
  · rename_i heq; cases heq
  · rename_i k' xs heq
    cases heq
    split at h
    · rename_i hkk
      subst hkk
      unfold sliceLst at h
      split at h
      · rename_i l u hl hu
        split at h
        · rename_i hc
          cases h
          cases ha with
          | @lst _ _ _ A cap U hcap hx hkk hm hr =>
            refine ⟨_, run A xs.length cap l u hl hu hc.1 hc.2.1 (by omega), ?_⟩
            have hlen : ((xs.drop l.toNat).take (u.toNat - l.toNat)).length = u.toNat - l.toNat := by simp; omega
            have hat : ∀ (i : Nat) (e : AV), ((xs.drop l.toNat).take (u.toNat - l.toNat))[i]? = some e → xs[l.toNat + i]? = some e ∧ i < u.toNat - l.toNat := by
              intro i e he
              rw [List.getElem?_take] at he
              split at he
              · rename_i hi; exact ⟨by rwa [List.getElem?_drop] at he, hi⟩
              · cases he
            have hcap' : ((xs.drop l.toNat).take (u.toNat - l.toNat)).length ≤ cap - l.toNat := by rw [hlen]; omega
            suffices key : VR M w ρ (.lst i.size ((xs.drop l.toNat).take (u.toNat - l.toNat))) (.slice (if cap = l.toNat then A else A.map (·.add (l.toNat * i.size))) ((xs.drop l.toNat).take (u.toNat - l.toNat)).length (cap - l.toNat)) by rwa [hlen] at key
            refine .lst (fun x j => U (l.toNat + x) j) hcap' (fun hn => ?_) (fun x e he => hkk _ e (hat x e he).1) (fun a hA x e j c he hcc => ?_) (fun x e j c he hcc => hr _ e j c (hat x e he).1 hcc)
            · obtain ⟨a, rfl, hs, hM⟩ := hx (fun hq => by simp [hq] at hn)
              split
              · exact ⟨a, rfl, hs, hM⟩
              · exact ⟨_, rfl, by simp only [add_spot hs], by simp only [add_spot hs]; exact hM⟩
            · obtain ⟨he', hlt⟩ := hat x e he
              obtain ⟨a0, rfl, hs, hM⟩ := hx (fun hq => by simp [hq] at he')
              have := hm a0 rfl _ e j c he' hcc
              have hne : ¬ cap = l.toNat := by omega
              rw [if_neg hne] at hA
              cases hA
              simp only [add_spot hs]
              refine ⟨?_, this.2⟩
              have := this.1
              rw [Nat.add_mul] at this
              simp only [Nat.add_assoc] at this ⊢
              exact this
        · cases h
      · cases h
    · cases h
  · rename_i k' id off n heq
    cases heq
    cases hb : hget H id with
    | none => rw [hb] at h; cases h
    | some b =>
      rw [hb] at h
      simp only [sliceB] at h
      unfold sliceSl at h
      split at h
      · rename_i l u hl hu
        split at h
        · rename_i hc
          cases h
          obtain ⟨L, A, c, hL, h1, h2, hA, rfl⟩ := live_sl hH ha hb
          refine ⟨_, run A n c l u hl hu hc.2.1 hc.2.2.1 (by omega), .sl L hL (by omega) (by omega) ?_⟩
          have hLk : L.k = i.size := by rw [(hH.blk id b L (hget_some hb) hL).kk, hc.1]
          by_cases hcl : c = l.toNat
          · rw [if_pos hcl]
            by_cases hl0 : l.toNat = 0
            · rcases hA with hA | hA
              · exact .inl ⟨by omega, by omega⟩
              · exact .inr (by rw [hA, hl0, Nat.add_zero])
            · exact .inl ⟨by omega, by omega⟩
          · rw [if_neg hcl]
            rcases hA with hA | hA
            · exact .inl ⟨by omega, by omega⟩
            · right
              rw [hA, Option.map_some, add_none, hLk, Nat.add_mul]
        · cases h
      · cases h
  · rename_i k' heq
    cases heq
    obtain rfl := vr_v ha
    unfold sliceNil at h
    split at h
    · rename_i l u hl hu
      split at h
      · rename_i hc
        cases h
        refine ⟨_, run none 0 0 l u hl hu (by omega) (by omega) (by omega), ?_⟩
        obtain ⟨rfl, rfl⟩ := hc
        exact .v
      · cases h
    · cases h
  · cases h
theorem foldI_sound {f : Int → Int → Int} {g : Value → Value → Sem Value} (hg : ∀ k x y, (g (.int k x) (.int k y)).run P w = .ok (.int k (f x y)) w) : ∀ (as : List AV) (k : IntKind) (n : Int) (vs : List Value) (r : AV),
    as.length = vs.length → (∀ (i : Nat) (c : AV) (u : Value), as[i]? = some c → vs[i]? = some u → VR M w ρ c u) → foldI.go f k n as = some r → ∃ v, (vs.foldlM g (.int k n)).run P w = .ok v w ∧ VR M w ρ r v
  | [], k, n, [], r, _, _, h => by cases h; exact ⟨_, rfl, .v⟩
  | a :: as, k, n, u :: vs, r, hl, hall, h => by
    unfold foldI.go at h
    split at h
    · rename_i heq; cases heq
    · rename_i k' m r' heq
      cases heq
      split at h
      · rename_i hk
        subst hk
        obtain rfl := vr_v (hall 0 _ _ rfl rfl)
        obtain ⟨v, hv, hr⟩ := foldI_sound hg as k (f n m) vs r (by simpa using hl) (fun i c u h1 h2 => hall (i + 1) c u h1 h2) h
        refine ⟨v, ?_, hr⟩
        rw [List.foldlM_cons, Sem.run_bind, hg, Result.andThen_ok]
        exact hv
      · cases h
    · cases h
  | [], k, n, u :: vs, r, hl, _, _ => by simp at hl
  | a :: as, k, n, [], r, hl, _, _ => by simp at hl
end Go.Proofs.YtlmjoimjdpfamaaGreat.Ev
namespace Go.Proofs.YtlmjoimjdpfamaaGreat.Ev
variable {P : Program} {base : Nat} {M : Nat → Prop} {ρ : Rho} {w : World}
theorem run_mapM_list {α β : Type} (f : α → Sem β) (g : α → β) : ∀ (l : List α), (∀ x ∈ l, (f x).run P w = .ok (g x) w) → (l.mapM f).run P w = .ok (l.map g) w
  | [], _ => rfl
  | a :: l, h => by
    rw [List.mapM_cons, Sem.run_bind, h a (by simp), Result.andThen_ok, Sem.run_bind, run_mapM_list f g l (fun x hx => h x (by simp [hx])), Result.andThen_ok]
    rfl
theorem run_mapM_array {α β : Type} (f : α → Sem β) (g : α → β) (xs : Array α) (h : ∀ x ∈ xs.toList, (f x).run P w = .ok (g x) w) : (xs.mapM f).run P w = .ok (xs.map g) w := by
  rw [Array.mapM_eq_mapM_toList, Sem.run_map, run_mapM_list f g _ h, Result.andThen_ok]
  congr 1
  apply Array.ext'
  simp
theorem setAll (off : Nat) : ∀ (vs : List Value) (k : Nat) (Z : Array Value), off + k + vs.length ≤ Z.size →
    ((vs.zipIdx k).foldl (fun cs p => cs.setIfInBounds (off + p.2) p.1) Z).toList = Z.toList.take (off + k) ++ vs ++ Z.toList.drop (off + k + vs.length)
  | [], k, Z, h => by simp
  | v :: vs, k, Z, h => by
    simp only [List.length_cons] at h
    rw [List.zipIdx_cons, List.foldl_cons, setAll off vs (k + 1) _ (by simp; omega)]
    simp only [Array.toList_setIfInBounds, List.length_cons]
    have h1 : off + (k + 1) = off + k + 1 := by omega
    have h2 : off + (k + 1) + vs.length = off + k + (vs.length + 1) := by omega
    rw [h1, h2.symm.trans (by omega : off + (k + 1) + vs.length = off + k + 1 + vs.length)]
    have hlt : off + k < Z.toList.length := by simp; omega
    rw [List.take_succ_eq_append_getElem (by simpa using hlt), List.drop_set_of_lt (by omega), List.take_set_of_le (Nat.le_refl _)]
    simp
structure RC (M : Nat → Prop) (w : World) (ρ : Rho) (cs : List AV) (vs : List Value) : Prop where
  len : cs.length = vs.length
  one : ∀ u ∈ vs, u.oneCell' = true
  all : ∀ (i : Nat) (c : AV) (u : Value), cs[i]? = some c → vs[i]? = some u → VR M w ρ c u
theorem RC.cells {a : AV} {v : Value} (h : VR M w ρ a v) (ho : allOne a.cells = true) : RC M w ρ a.cells v.cells.toList := by
  have single : a.one = true → a.cells = [a] → RC M w ρ a.cells v.cells.toList := by
    intro h1 h2
    have hv := h.one h1
    have hc : v.cells.toList = [v] := by cases v <;> first | rfl | (simp [Value.oneCell'] at hv; done)
    rw [h2, hc]
    exact ⟨rfl, fun u hu => by simp at hu; subst hu; exact hv, fun i c u h3 h4 => by
      cases i with
      | zero => simp at h3 h4; subst h3; subst h4; exact h
      | succ i => simp at h3⟩
  cases h with
  | agg hl hone hall => exact ⟨by simpa [AV.cells, Value.cells] using hl, hone, hall⟩
  | x => simp [AV.cells, allOne, AV.one] at ho
  | tup => simp [AV.cells, allOne, AV.one] at ho
  | v => exact single (by simpa [AV.cells, allOne] using ho) rfl
  | lst => exact single rfl rfl
  | sl => exact single rfl rfl
  | dsl => exact single rfl rfl
  | ptr => exact single rfl rfl
  | dptr => exact single rfl rfl
  | el => exact single rfl rfl
  | fn => exact single rfl rfl
theorem RC.agg {cs : List AV} {vs : Array Value} (h : RC M w ρ cs vs.toList) : VR M w ρ (.agg cs) (.agg vs) := .agg (by simpa using h.len) h.one h.all
theorem getElem?_splice {α : Type} (l m : List α) (off : Nat) (h : off + m.length ≤ l.length) (i : Nat) : (l.take off ++ m ++ l.drop (off + m.length))[i]? = if i < off then l[i]? else if i < off + m.length then m[i - off]? else l[i]? := by
  have hlt : (l.take off).length = off := by simp; omega
  rw [List.append_assoc]
  by_cases h1 : i < off
  · rw [if_pos h1, List.getElem?_append_left (by omega), List.getElem?_take, if_pos h1]
  · rw [if_neg h1, List.getElem?_append_right (by omega), hlt]
    by_cases h2 : i < off + m.length
    · rw [if_pos h2, List.getElem?_append_left (by omega)]
    · rw [if_neg h2, List.getElem?_append_right (by omega), List.getElem?_drop]
      congr 1
      omega
theorem RC.splice {cs ds : List AV} {vs us : List Value} (h : RC M w ρ cs vs) (k : RC M w ρ ds us) {off : Nat} (hl : off + ds.length ≤ cs.length) :
    RC M w ρ (cs.take off ++ ds ++ cs.drop (off + ds.length)) (vs.take off ++ us ++ vs.drop (off + us.length)) where
  len := by simp; have := h.len; have := k.len; omega
  one u hu := by
    simp only [List.mem_append] at hu
    rcases hu with (hu | hu) | hu
    · exact h.one u (List.mem_of_mem_take hu)
    · exact k.one u hu
    · exact h.one u (List.mem_of_mem_drop hu)
  all i c u h1 h2 := by
    have e1 := h.len
    have e2 := k.len
    rw [getElem?_splice cs ds off hl] at h1
    rw [getElem?_splice vs us off (by omega)] at h2
    by_cases a : i < off
    · rw [if_pos a] at h1 h2; exact h.all i c u h1 h2
    · rw [if_neg a] at h1 h2
      by_cases b : i < off + ds.length
      · rw [if_pos b] at h1; rw [if_pos (by omega)] at h2; exact k.all _ c u h1 h2
      · rw [if_neg b] at h1; rw [if_neg (by omega)] at h2; exact h.all i c u h1 h2
theorem fill_sound (place : Nat → Option (Nat × Nat)) : ∀ (ps : List (Nat × Nat × AV)) (parts : List (Nat × Value)) (zs cs : List AV) (Z : Array Value), RC M w ρ zs Z.toList → ps.length = parts.length →
    (∀ (i : Nat) (p : Nat × Nat × AV) (q : Nat × Value), ps[i]? = some p → parts[i]? = some q → place q.1 = some (p.1, p.2.1) ∧ VR M w ρ p.2.2 q.2) → fillP zs ps = some cs →
    ∃ Z', Instr.fill place Z parts = some Z' ∧ RC M w ρ cs Z'.toList
  | [], [], zs, cs, Z, hz, _, _, h => by cases h; exact ⟨Z, rfl, hz⟩
  | (off, n, a) :: ps, (i, v) :: parts, zs, cs, Z, hz, hl, hall, h => by
    obtain ⟨hp, hv⟩ := hall 0 _ _ rfl rfl
    simp only [fillP] at h
    split at h
    · rename_i hc
      have hr : RC M w ρ a.cells v.cells.toList := RC.cells hv hc.2.2
      have e1 : a.cells.length = n := hc.1
      have e2 : off + n ≤ zs.length := hc.2.1
      have hsz : v.cells.size = n := by have h1 := hr.len; have h2 := hc.1; rw [Array.length_toList] at h1; exact h1.symm.trans h2
      have hzl := hz.len
      simp only [Array.length_toList] at hzl
      have hnot : (decide (v.cells.size ≠ n) || decide (off + v.cells.size > Z.size)) = false := by simp; omega
      have hset : (v.cells.zipIdx.foldl (fun cs (c, j) => cs.setIfInBounds (off + j) c) Z).toList = Z.toList.take off ++ v.cells.toList ++ Z.toList.drop (off + v.cells.toList.length) := by
        have := setAll off v.cells.toList 0 Z (by simp; omega)
        rw [Nat.add_zero] at this
        rw [← this, ← Array.foldl_toList]
        simp
      have hnew := RC.splice hz hr (off := off) (by omega)
      rw [e1] at hnew
      rw [← hset] at hnew
      obtain ⟨Z', h1, h2⟩ := fill_sound place ps parts _ cs _ hnew (by simpa using hl) (fun j p q hp hq => hall (j + 1) p q hp hq) h
      refine ⟨Z', ?_, h2⟩
      simp only [Instr.fill]
      rw [show place i = some (off, n) from hp]
      simp only [hnot, Bool.false_eq_true, if_false]
      exact h1
    · cases h
  | [], _ :: _, _, _, _, _, hl, _, _ => by simp at hl
  | _ :: _, [], _, _, _, _, hl, _, _ => by simp at hl
theorem zeroOf_some {t : TypeId} {zs : List AV} (h : zeroOf P t = some zs) : ∃ i z, P.info? t = some i ∧ i.zero = some z ∧ z.cells.size = i.size ∧ zs = z.cells.toList.map .v ∧ ∀ u ∈ z.cells.toList, u.oneCell' = true := by
  unfold zeroOf at h
  obtain ⟨i, hi, h2⟩ := bind_iff.1 h
  obtain ⟨z, hz, h3⟩ := bind_iff.1 h2
  split at h3
  · rename_i hc
    cases h3
    exact ⟨i, z, hi, hz, hc.1, rfl, fun u hu => List.all_eq_true.1 hc.2 u hu⟩
  · cases h3
theorem RC.vals {vs : List Value} (h : ∀ u ∈ vs, u.oneCell' = true) : RC M w ρ (vs.map .v) vs :=
  ⟨by simp, h, fun i c u h1 h2 => by rw [List.getElem?_map, h2] at h1; cases h1; exact .v⟩
theorem mapO_some {α β : Type} {f : α → Option β} : ∀ {l : List α} {r : List β}, mapO f l = some r → r.length = l.length ∧ ∀ (i : Nat) (a : α) (b : β), l[i]? = some a → r[i]? = some b → f a = some b
  | [], r, h => by cases h; exact ⟨rfl, fun i a b h1 _ => by simp at h1⟩
  | a :: l, r, h => by
    simp only [mapO] at h
    obtain ⟨b, hb, h2⟩ := bind_iff.1 h
    obtain ⟨s, hs, h3⟩ := bind_iff.1 h2
    cases h3
    obtain ⟨h4, h5⟩ := mapO_some hs
    refine ⟨by simp [h4], fun i x y hx hy => ?_⟩
    cases i with
    | zero => simp at hx hy; subst hx; subst hy; exact hb
    | succ i => exact h5 i x y (by simpa using hx) (by simpa using hy)
theorem build_sound {s : List (Nat × AV)} {a : Act} {t : TypeId} {parts : Array (Nat × Operand)} (hS : Opd M ρ w s a (parts.toList.map (·.2))) {zs : List AV} {ps : List (Nat × Nat × LO)} (hc : compOp P (.build t parts) = some (.build zs ps)) {cs : List AV}
    (h : fillP zs (ps.map fun p => (p.1, p.2.1, p.2.2.ev s)) = some cs) : ∃ v, (Instr.build t (parts.map fun (i, x) => (i, a.eval x))).run P w = .ok v w ∧ VR M w ρ (.agg cs) v := by
  simp only [compOp] at hc
  obtain ⟨zs', hz, h2⟩ := bind_iff.1 hc
  obtain ⟨i, z, hi, hiz, hsz, rfl, hone⟩ := zeroOf_some hz
  have hzero : (zeroValue t).run P w = .ok z w := by simp [zeroValue, typeInfo, hi, hiz]
  have hvals : RC M w ρ (z.cells.toList.map .v) z.cells.toList := RC.vals hone
  have hparts : (parts.map fun (i, x) => (i, a.eval x)).toList = parts.toList.map fun p => (p.1, a.eval p.2) := by simp
  split at h2
  · rename_i fs hu
    split at h2
    · rename_i hall
      obtain ⟨ps', hps, h3⟩ := bind_iff.1 h2
      cases h3
      obtain ⟨hl, hat⟩ := mapO_some hps
      have hfs : ∀ f ∈ fs.toList, ((do pure (f.offset, ← sizeOf f.type) : Sem (Nat × Nat))).run P w = .ok (f.offset, (szOf P f.type).getD 0) w := by
        intro f hf
        obtain ⟨k, hk⟩ := Option.isSome_iff_exists.1 (List.all_eq_true.1 hall f hf)
        obtain ⟨j, hj, rfl, _⟩ := szOf_some hk
        rw [Sem.run_bind, run_size hj, Result.andThen_ok, hk]
        rfl
      have hmap := run_mapM_array (P := P) (w := w) (fun f : Field => (do pure (f.offset, ← sizeOf f.type) : Sem (Nat × Nat))) (fun f => (f.offset, (szOf P f.type).getD 0)) fs hfs
      obtain ⟨Z', h4, h5⟩ := fill_sound (M := M) (w := w) (ρ := ρ) (fun x => (fs.map fun f => (f.offset, (szOf P f.type).getD 0))[x]?) (ps.map fun p => (p.1, p.2.1, p.2.2.ev s)) (parts.toList.map fun p => (p.1, a.eval p.2)) _ cs z.cells hvals (by simp [hl])
        (fun j p q hp hq => by
          rw [List.getElem?_map] at hp hq
          cases hpp : ps[j]? with
          | none => rw [hpp] at hp; cases hp
          | some p0 =>
            cases hqq : parts.toList[j]? with
            | none => rw [hqq] at hq; cases hq
            | some q0 =>
              rw [hpp] at hp
              rw [hqq] at hq
              cases hp
              cases hq
              have := hat j q0 p0 hqq hpp
              obtain ⟨f, hf, h6⟩ := bind_iff.1 this
              obtain ⟨n, hn, h7⟩ := bind_iff.1 h6
              cases h7
              refine ⟨?_, hS q0.2 (List.mem_map_of_mem (List.mem_of_getElem? hqq))⟩
              simp [hf, hn]) h
      refine ⟨.agg Z', ?_, h5.agg⟩
      simp only [Instr.build, Sem.run_bind, hzero, Result.andThen_ok, run_und hu, hmap, hparts, h4, Sem.run_pure]
    · cases h2
  · rename_i n e hu
    obtain ⟨k, hk, h3⟩ := bind_iff.1 h2
    cases h3
    obtain ⟨j, hj, rfl, hk0⟩ := szOf_some hk
    obtain ⟨Z', h4, h5⟩ := fill_sound (M := M) (w := w) (ρ := ρ) (fun x => some (x * j.size, j.size)) ((parts.toList.map fun p => (p.1 * j.size, j.size, loOf p.2)).map fun p => (p.1, p.2.1, p.2.2.ev s)) (parts.toList.map fun p => (p.1, a.eval p.2)) _ cs z.cells hvals (by simp)
      (fun x p q hp hq => by
        simp only [List.getElem?_map] at hp hq
        cases hqq : parts.toList[x]? with
        | none => rw [hqq] at hq; cases hq
        | some q0 =>
          rw [hqq] at hp hq
          cases hp
          cases hq
          exact ⟨rfl, hS q0.2 (List.mem_map_of_mem (List.mem_of_getElem? hqq))⟩) h
    refine ⟨.agg Z', ?_, h5.agg⟩
    simp only [Instr.build, Sem.run_bind, hzero, Result.andThen_ok, run_und hu, run_size hj, hparts, h4, Sem.run_pure]
  · cases h2
theorem run_value {S : Sem Value} {v : Value} {w' : World} (h : S.run P w = .ok v w') : ((do pure (.value (← S)) : Sem Next)).run P w = .ok (.value v) w' := by
  rw [Sem.run_bind, h, Result.andThen_ok]
  rfl
theorem run_unit {S : Sem Unit} {w' : World} (h : S.run P w = .ok () w') : ((do S; pure .skip : Sem Next)).run P w = .ok .skip w' := by
  rw [Sem.run_bind, h, Result.andThen_ok]
  rfl
theorem ex_of {S : Sem Value} {o : Oper} {a : Act} (he : execOp a.eval o = (do pure (.value (← S)) : Sem Next)) {r : AV} (h : ∃ v, S.run P w = .ok v w ∧ VR M w ρ r v) : ∃ v, (execOp a.eval o).run P w = .ok (.value v) w ∧ VR M w ρ r v := by
  obtain ⟨v, h1, h2⟩ := h
  exact ⟨v, by rw [he]; exact run_value h1, h2⟩
theorem call_builtin {o : Oper} {c : Call} (ho : o.op = .call c) {b : Builtin} (hb : c.callee = .builtin b) (ρ' : Operand → Value) : execOp ρ' o = (do pure (); Go.builtin b c.argTypes o.type (c.args.map fun | .const _ => true | _ => false) (c.args.map ρ') : Sem Next) := by
  unfold execOp
  rw [ho]
  simp only [resolve, hb]
  rfl
theorem compCall_pure {z : St} {a : Act} (hH : HR base M ρ z.h w) {o : Oper} {c : Call} (hS : Opd M ρ w z.s a c.args.toList) (ho : o.op = .call c) {l : LOp} (hc : compCall P c = some l) {av : AV} (he : pureOp z l = some av) :
    ∃ v, (execOp a.eval o).run P w = .ok (.value v) w ∧ VR M w ρ av v := by
  unfold compCall at hc
  split at hc
  · cases hc; cases he
  · cases hc; cases he
  · rename_i hb
    have hex := call_builtin ho hb a.eval
    split at hc
    · rename_i x t hargs htys
      have hA : c.args = #[x] := by apply Array.ext'; simpa using hargs
      have hx : VR M w ρ ((loOf x).ev z.s) (a.eval x) := hS x (by rw [hargs]; simp)
      have hT : c.argTypes = #[t] := by apply Array.ext'; simpa using htys
      have run : ∀ {v : Value}, (Builtin.len_ #[t] o.type #[a.eval x]).run P w = .ok v w → (execOp a.eval o).run P w = .ok (.value v) w := by
        intro v hv
        rw [hex, hA, hT]
        simp only [Go.builtin, pure_bind]
        exact run_value (by simpa using hv)
      split at hc
      · rename_i hu
        cases hc
        obtain ⟨v, h1, h2⟩ := len_sound (ty := o.type) hH (sk := .str) hu hx he
        exact ⟨v, run h1, h2⟩
      · rename_i e hu
        cases hc
        obtain ⟨v, h1, h2⟩ := len_sound (ty := o.type) hH (sk := .row 1) ⟨e, hu⟩ hx he
        exact ⟨v, run h1, h2⟩
      · rename_i n e hu
        cases hc
        obtain ⟨v, h1, h2⟩ := len_sound (ty := o.type) hH (sk := .arr n 1) ⟨e, hu⟩ hx he
        exact ⟨v, run h1, h2⟩
      · cases hc
    · cases hc
  · rename_i hb
    have hex := call_builtin ho hb a.eval
    split at hc
    · rename_i x t hargs htys
      have hA : c.args = #[x] := by apply Array.ext'; simpa using hargs
      have hx : VR M w ρ ((loOf x).ev z.s) (a.eval x) := hS x (by rw [hargs]; simp)
      have hT : c.argTypes = #[t] := by apply Array.ext'; simpa using htys
      split at hc
      · rename_i e hu
        cases hc
        simp only [pureOp] at he
        unfold capA at he
        split at he
        · rename_i hax
          rw [hax] at hx
          cases he
          refine ⟨_, ?_, .v⟩
          rw [hex, hA, hT]
          simp only [Go.builtin, pure_bind]
          refine run_value (v := .int .i64 0) ?_
          rw [show (#[x].map a.eval) = #[.slice none 0 0] by rw [← vr_v hx]; simp]
          simp [Builtin.cap_, run_und hu, goInt]
        · cases he
      · cases hc
    · cases hc
  · split at hc
    · split at hc
      · split at hc
        · obtain ⟨k, _, h2⟩ := bind_iff.1 hc
          obtain ⟨b, _, h3⟩ := bind_iff.1 h2
          obtain ⟨z0, _, h4⟩ := bind_iff.1 h3
          split at h4
          · cases h4; cases he
          · cases h4
        · cases hc
      · split at hc
        · obtain ⟨k, _, h2⟩ := bind_iff.1 hc
          obtain ⟨b, _, h3⟩ := bind_iff.1 h2
          obtain ⟨z0, _, h4⟩ := bind_iff.1 h3
          cases h4; cases he
        · cases hc
    · cases hc
  · split at hc
    · split at hc
      · split at hc
        · obtain ⟨k, _, h2⟩ := bind_iff.1 hc
          split at h2
          · cases h2; cases he
          · cases h2
        · cases hc
      · cases hc
    · cases hc
  · rename_i hb
    cases hc
    have hex := call_builtin ho hb a.eval
    obtain ⟨hl, hall⟩ := vr_args c.args hS
    simp only [pureOp] at he
    rw [hex]
    simp only [Go.builtin, pure_bind, Builtin.max_]
    have hlist : (c.args.map a.eval).toList.length = (evs z.s (c.args.toList.map loOf)).length := by rw [hl]; simp
    generalize (c.args.map a.eval).toList = vs at *
    generalize evs z.s (c.args.toList.map loOf) = as at *
    unfold foldI at he
    split at he
    · rename_i k n r
      cases vs with
      | nil => simp at hlist
      | cons u vs =>
        obtain rfl := vr_v (hall 0 _ _ rfl rfl)
        obtain ⟨v, h1, h2⟩ := foldI_sound (P := P) (w := w) (M := M) (ρ := ρ) (g := Builtin.max2) (fun k x y => rfl) r k n vs av (by simpa using hlist.symm) (fun i c u h1 h2 => hall (i + 1) c u h1 h2) he
        exact ⟨v, run_value h1, h2⟩
    · cases he
  · rename_i hb
    cases hc
    have hex := call_builtin ho hb a.eval
    obtain ⟨hl, hall⟩ := vr_args c.args hS
    simp only [pureOp] at he
    rw [hex]
    simp only [Go.builtin, pure_bind, Builtin.min_]
    have hlist : (c.args.map a.eval).toList.length = (evs z.s (c.args.toList.map loOf)).length := by rw [hl]; simp
    generalize (c.args.map a.eval).toList = vs at *
    generalize evs z.s (c.args.toList.map loOf) = as at *
    unfold foldI at he
    split at he
    · rename_i k n r
      cases vs with
      | nil => simp at hlist
      | cons u vs =>
        obtain rfl := vr_v (hall 0 _ _ rfl rfl)
        obtain ⟨v, h1, h2⟩ := foldI_sound (P := P) (w := w) (M := M) (ρ := ρ) (g := Builtin.min2) (fun k x y => rfl) r k n vs av (by simpa using hlist.symm) (fun i c u h1 h2 => hall (i + 1) c u h1 h2) he
        exact ⟨v, run_value h1, h2⟩
    · cases he
  · cases hc
theorem pure_sound {z : St} {a : Act} (hH : HR base M ρ z.h w) {o : Oper} (hS : Opd M ρ w z.s a o.op.operands.toList) {l : LOp} (hc : compOp P o.op = some l) {av : AV} (he : pureOp z l = some av) :
    ∃ v, (execOp a.eval o).run P w = .ok (.value v) w ∧ VR M w ρ av v := by
  cases hop : o.op with
  | move x =>
    rw [hop] at hc
    cases hc
    cases he
    exact ⟨a.eval x, by unfold execOp; rw [hop]; rfl, hS x (by rw [hop]; simp [Op.operands])⟩
  | assign x =>
    rw [hop] at hc
    cases hc
    cases he
    exact ⟨a.eval x, by unfold execOp; rw [hop]; rfl, hS x (by rw [hop]; simp [Op.operands])⟩
  | pick c x y =>
    rw [hop] at hc
    cases hc
    obtain ⟨v, h1, h2⟩ := pick_sound (P := P) (hS c (by rw [hop]; simp [Op.operands])) (hS x (by rw [hop]; simp [Op.operands])) (hS y (by rw [hop]; simp [Op.operands])) he
    exact ⟨v, by unfold execOp; rw [hop]; exact h1, h2⟩
  | build t parts =>
    rw [hop] at hc
    have hc' := hc
    simp only [compOp] at hc
    obtain ⟨zs, _, h2⟩ := bind_iff.1 hc
    have hl : ∃ ps, l = .build zs ps := by
      split at h2
      · split at h2
        · obtain ⟨ps, _, h3⟩ := bind_iff.1 h2; cases h3; exact ⟨ps, rfl⟩
        · cases h2
      · obtain ⟨k, _, h3⟩ := bind_iff.1 h2; cases h3; exact ⟨_, rfl⟩
      · cases h2
    obtain ⟨ps, rfl⟩ := hl
    simp only [pureOp] at he
    cases hf : fillP zs (ps.map fun p => (p.1, p.2.1, p.2.2.ev z.s)) with
    | none => rw [hf] at he; cases he
    | some cs =>
      rw [hf] at he
      cases he
      exact ex_of (S := Instr.build t (parts.map fun (i, x) => (i, a.eval x))) (by unfold execOp; rw [hop]) (build_sound (fun x hx => hS x (by rw [hop]; simpa [Op.operands] using hx)) hc' hf)
  | load t x =>
    rw [hop] at hc
    obtain ⟨k, hk, h2⟩ := bind_iff.1 hc
    obtain ⟨ag, hag, h3⟩ := bind_iff.1 h2
    cases h3
    obtain ⟨i, hi, rfl, _⟩ := szOf_some hk
    obtain ⟨d, hd, rfl⟩ := isAg_some hag
    exact ex_of (S := Instr.loadAt t (a.eval x)) (by unfold execOp; rw [hop]) (loadA_sound hH hi hd (hS x (by rw [hop]; simp [Op.operands])) he)
  | nilCheck x =>
    rw [hop] at hc
    cases hc
    exact nilck_sound hH hop (hS x (by rw [hop]; simp [Op.operands])) he
  | binOp op t x y ty =>
    rw [hop] at hc
    simp only [compOp] at hc
    split at hc
    · rename_i hu
      cases hc
      exact ex_of (S := do eqGuard op t x y (a.eval x) (a.eval y); Go.binOp op t (a.eval x) (a.eval y)) (by unfold execOp; rw [hop]) (binb_sound hu (hS x (by rw [hop]; simp [Op.operands])) (hS y (by rw [hop]; simp [Op.operands])) he)
    · cases hc
      exact ex_of (S := do eqGuard op t x y (a.eval x) (a.eval y); Go.binOp op t (a.eval x) (a.eval y)) (by unfold execOp; rw [hop]) (bin_sound (hS x (by rw [hop]; simp [Op.operands])) (hS y (by rw [hop]; simp [Op.operands])) he)
    · cases hc
      exact ex_of (S := do eqGuard op t x y (a.eval x) (a.eval y); Go.binOp op t (a.eval x) (a.eval y)) (by unfold execOp; rw [hop]) (bin_sound (hS x (by rw [hop]; simp [Op.operands])) (hS y (by rw [hop]; simp [Op.operands])) he)
    · rename_i hu
      cases hc
      exact ex_of (S := do eqGuard op t x y (a.eval x) (a.eval y); Go.binOp op t (a.eval x) (a.eval y)) (by unfold execOp; rw [hop]) (isnil_sound hu (hS x (by rw [hop]; simp [Op.operands])) (hS y (by rw [hop]; simp [Op.operands])) he)
    · obtain ⟨ks, hk, hc⟩ := bind_iff.1 hc
      cases hc
      exact ex_of (S := do eqGuard op t x y (a.eval x) (a.eval y); Go.binOp op t (a.eval x) (a.eval y)) (by unfold execOp; rw [hop]) (binf_sound hk (hS x (by rw [hop]; simp [Op.operands])) (hS y (by rw [hop]; simp [Op.operands])) he)
  | unOp op t x =>
    rw [hop] at hc
    cases hc
    exact ex_of (S := Op.unary op (a.eval x)) (by unfold execOp; rw [hop]) (un_sound (hS x (by rw [hop]; simp [Op.operands])) he)
  | convert s d x =>
    rw [hop] at hc
    simp only [compOp] at hc
    have fin : ∀ {r : AV}, (∃ v, (Go.convert s d (a.eval x)).run P w = .ok v w ∧ VR M w ρ r v) → ∃ v, (execOp a.eval o).run P w = .ok (.value v) w ∧ VR M w ρ r v :=
      fun h => ex_of (S := Go.convert s d (a.eval x)) (by unfold execOp; rw [hop]) h
    split at hc
    · rename_i h1 h2; cases hc; exact fin (conv_sound h1 h2 (hS x (by rw [hop]; simp [Op.operands])) he)
    · rename_i h1 h2; cases hc; exact fin (s2s_sound h1 h2 (hS x (by rw [hop]; simp [Op.operands])) he)
    · split at hc
      · cases hc; cases he
      · cases hc
    · rename_i e h1 h2
      split at hc
      · rename_i h3; cases hc; exact fin (b2s_sound hH h1 h3 h2 (hS x (by rw [hop]; simp [Op.operands])) he)
      · cases hc
    · cases hc
  | makeFunc f x y =>
    rw [hop] at hc
    cases hc
    cases he
    obtain ⟨l1, h1⟩ := vr_args x (fun q hq => hS q (by rw [hop]; simp only [Op.operands, Array.toList_append, List.mem_append]; exact .inl hq))
    obtain ⟨l2, h2⟩ := vr_args y (fun q hq => hS q (by rw [hop]; simp only [Op.operands, Array.toList_append, List.mem_append]; exact .inr hq))
    exact ex_of (S := Instr.makeFunc f (x.map a.eval) (y.map a.eval)) (by unfold execOp; rw [hop]) ⟨_, rfl, .fn l1 l2 h1 h2⟩
  | slice t x lo hi mx =>
    rw [hop] at hc
    cases mx with
    | some m => cases hc
    | none =>
      simp only [compOp] at hc
      have fin : ∀ {r : AV}, (∃ v, (Instr.sliceAt t (a.eval x) (lo.map a.eval) (hi.map a.eval) none).run P w = .ok v w ∧ VR M w ρ r v) → ∃ v, (execOp a.eval o).run P w = .ok (.value v) w ∧ VR M w ρ r v :=
        fun h => ex_of (S := Instr.sliceAt t (a.eval x) (lo.map a.eval) (hi.map a.eval) none) (by unfold execOp; rw [hop]; rfl) h
      split at hc
      · rename_i h1; cases hc; exact fin (slice_str_sound h1 (hS x (by rw [hop]; simp [Op.operands])) (vo_lo lo fun q hq => hS q (by rw [hop]; simp [Op.operands] at hq ⊢; simp [hq])) (vo_lo hi fun q hq => hS q (by rw [hop]; simp [Op.operands] at hq ⊢; simp [hq])) he)
      · rename_i e h1
        obtain ⟨k, hk, h2⟩ := bind_iff.1 hc
        cases h2
        exact fin (slice_row_sound hH h1 hk (hS x (by rw [hop]; simp [Op.operands])) (vo_lo lo fun q hq => hS q (by rw [hop]; simp [Op.operands] at hq ⊢; simp [hq])) (vo_lo hi fun q hq => hS q (by rw [hop]; simp [Op.operands] at hq ⊢; simp [hq])) he)
      · split at hc
        · obtain ⟨k, _, h2⟩ := bind_iff.1 hc
          split at h2
          · cases h2; cases he
          · cases h2
        · cases hc
      · cases hc
  | fieldAddr t x f =>
    rw [hop] at hc
    simp only [compOp] at hc
    split at hc
    · rename_i fs hu
      obtain ⟨g, hg, h2⟩ := bind_iff.1 hc
      obtain ⟨k, hk, h3⟩ := bind_iff.1 h2
      cases h3
      exact ex_of (S := Instr.fieldAt t (a.eval x) f) (by unfold execOp; rw [hop]) (faddr_sound hH hu hg hk (hS x (by rw [hop]; simp [Op.operands])) he)
    · cases hc
  | field t x f =>
    rw [hop] at hc
    simp only [compOp] at hc
    split at hc
    · rename_i fs hu
      obtain ⟨g, hg, h2⟩ := bind_iff.1 hc
      obtain ⟨k, hk, h3⟩ := bind_iff.1 h2
      obtain ⟨ag, hag, h4⟩ := bind_iff.1 h3
      cases h4
      exact ex_of (S := Instr.field t (a.eval x) f) (by unfold execOp; rw [hop]) (field_sound hu hg hk hag (hS x (by rw [hop]; simp [Op.operands])) he)
    · cases hc
  | indexAddr t x i =>
    rw [hop] at hc
    simp only [compOp] at hc
    split at hc
    · rename_i e hu
      obtain ⟨k, hk, h2⟩ := bind_iff.1 hc
      cases h2
      exact ex_of (S := Instr.indexAt t (a.eval x) (a.eval i)) (by unfold execOp; rw [hop]) (iaddr_row_sound hH hu hk (hS x (by rw [hop]; simp [Op.operands])) (hS i (by rw [hop]; simp [Op.operands])) he)
    · rename_i n e hu
      obtain ⟨k, hk, h2⟩ := bind_iff.1 hc
      cases h2
      exact ex_of (S := Instr.indexAt t (a.eval x) (a.eval i)) (by unfold execOp; rw [hop]) (iaddr_arr_sound hH hu hk (hS x (by rw [hop]; simp [Op.operands])) (hS i (by rw [hop]; simp [Op.operands])) he)
    · cases hc
  | index t x i =>
    rw [hop] at hc
    simp only [compOp] at hc
    split at hc
    · rename_i hu
      cases hc
      exact ex_of (S := Instr.index t (a.eval x) (a.eval i)) (by unfold execOp; rw [hop]) (index_str_sound hu (hS x (by rw [hop]; simp [Op.operands])) (hS i (by rw [hop]; simp [Op.operands])) he)
    · rename_i n e hu
      obtain ⟨k, hk, h2⟩ := bind_iff.1 hc
      obtain ⟨ag, hag, h3⟩ := bind_iff.1 h2
      cases h3
      exact ex_of (S := Instr.index t (a.eval x) (a.eval i)) (by unfold execOp; rw [hop]) (index_arr_sound hu hk hag (hS x (by rw [hop]; simp [Op.operands])) (hS i (by rw [hop]; simp [Op.operands])) he)
    · cases hc
  | extract x i =>
    rw [hop] at hc
    cases hc
    exact ex_of (S := Instr.extract (a.eval x) i) (by unfold execOp; rw [hop]) (extract_sound (hS x (by rw [hop]; simp [Op.operands])) he)
  | call c =>
    rw [hop] at hc
    exact compCall_pure hH (fun x hx => hS x (by rw [hop]; simp only [Op.operands, Call.operands, Array.toList_append, List.mem_append]; exact .inr hx)) hop hc he
  | alloc e =>
    rw [hop] at hc
    obtain ⟨k, _, h2⟩ := bind_iff.1 hc
    obtain ⟨z0, _, h3⟩ := bind_iff.1 h2
    obtain ⟨ag, _, h4⟩ := bind_iff.1 h3
    cases h4; cases he
  | box e x =>
    rw [hop] at hc
    obtain ⟨k, _, h2⟩ := bind_iff.1 hc
    cases h2; cases he
  | buildSlice t n parts =>
    rw [hop] at hc
    simp only [compOp] at hc
    split at hc
    · obtain ⟨k, _, h2⟩ := bind_iff.1 hc
      obtain ⟨z0, _, h3⟩ := bind_iff.1 h2
      split at h3
      · cases h3; cases he
      · cases h3
    · cases hc
  | store t x y =>
    rw [hop] at hc
    obtain ⟨k, _, h2⟩ := bind_iff.1 hc
    obtain ⟨ag, _, h3⟩ := bind_iff.1 h2
    cases h3; cases he
  | makeSlice t x y =>
    rw [hop] at hc
    simp only [compOp] at hc
    split at hc
    · obtain ⟨k, _, h2⟩ := bind_iff.1 hc
      obtain ⟨b, _, h3⟩ := bind_iff.1 h2
      obtain ⟨z0, _, h4⟩ := bind_iff.1 h3
      cases h4; cases he
    · cases hc
  | _ => rw [hop] at hc; cases hc
end Go.Proofs.YtlmjoimjdpfamaaGreat.Ev
