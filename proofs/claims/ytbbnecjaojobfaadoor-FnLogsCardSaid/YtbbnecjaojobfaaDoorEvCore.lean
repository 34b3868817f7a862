/- An evaluator of the translated code over values that carry their own lists: definitions. -/
import Derived.LoopN
import Derived.Orders
import Derived.WalkKit
import Derived.Laws.AppendOwn
import Derived.Laws.AppendOwnNone
import Derived.Below
set_option linter.unusedVariables false
set_option linter.unusedSimpArgs false
set_option linter.constructorNameAsVariable false
namespace Go.Proofs.YtbbnecjaojobfaaDoor.Ev
/-- A value told apart from memory: 'lst' a row that is never written again, 'sl'/'ptr' into a block of the state's own. -/
inductive AV where
  | x
  | v (c : Value)
  | lst (k : Nat) (xs : List AV)
  | sl (id off len : Nat)
  | ptr (id i j : Nat)
  | el (e : AV) (j : Nat)
  | agg (cs : List AV)
  | tup (vs : List AV)
  | fn (f : Fn) (first cap : List AV)
  deriving Inhabited
/-- A block of the state's own: its elements' type, cells an element, kind (0 a variable, 1 a row, 2 a row of bytes), read only, elements. -/
structure Blk where
  ty : TypeId
  k : Nat
  kd : Nat
  ro : Bool
  es : List AV
abbrev Hp := List (Option Blk)
structure St where
  s : List (Nat × AV)
  h : Hp
inductive LO where
  | t (n : Nat)
  | c (a : AV)
inductive SK where
  | str
  | row (k : Nat)
  | arr (n k : Nat)
inductive LOp where
  | mov (a : LO)
  | pick (c a b : LO)
  | alloc (ty k : Nat) (z : List AV) (ag : Bool)
  | box (ty k : Nat) (a : LO)
  | build (zs : List AV) (parts : List (Nat × Nat × LO))
  | bslice (ty k : Nat) (parts : List LO)
  | load (k : Nat) (ag : Bool) (a : LO)
  | store (k : Nat) (ag : Bool) (a b : LO)
  | nilck (a : LO)
  | bin (op : BinOp) (a b : LO)
  | binb (op : BinOp) (a b : LO)
  | binf (op : BinOp) (ks : List Nat) (a b : LO)
  | un (op : UnOp) (a : LO)
  | conv (k : IntKind) (a : LO)
  | s2s (a : LO)
  | s2b (ty : Nat) (a : LO)
  | b2s (a : LO)
  | mkfn (f : Fn) (first cap : List LO)
  | mkslice (ty k bytes : Nat) (z : AV) (l c : LO)
  | slice (sk : SK) (a : LO) (lo hi : Option LO)
  | aslice (n : Nat) (a : LO)
  | faddr (off : Nat) (a : LO)
  | field (off k : Nat) (ag : Bool) (a : LO)
  | iaddr (sk : SK) (a i : LO)
  | index (sk : SK) (ag : Bool) (a i : LO)
  | extract (a : LO) (i : Nat)
  | len (sk : SK) (a : LO)
  | append (ty k bytes : Nat) (a b : LO)
  | maxi (as : List LO)
  | mini (as : List LO)
  | call (f : Nat) (as : List LO)
  | callv (f : LO) (as : List LO)
structure LOper where
  dst : Option Nat
  g : Option (Nat × Bool)
  op : LOp
inductive LCode where
  | skip
  | ops (soft : Nat) (os : List LOper)
  | opsX (os : List (LOper × Bool × Nat))
  | seq (a b : LCode)
  | cond (c : LO) (a b : LCode)
  | block (id : Nat) (c : LCode)
  | exit (id : Nat)
  | loop (li lo : List Nat) (c : LCode)
  | ret
inductive LRes where
  | tmp (t : Nat)
  | cell (t k : Nat) (ag : Bool)
structure LFunc where
  np : Nat
  res : List LRes
  body : LCode
-- ---------------------------------------------------------------- values
def AV.cells : AV → List AV
  | .agg cs => cs
  | a => [a]
def AV.one : AV → Bool
  | .agg _ | .tup _ | .x => false
  | .v (.agg _) | .v (.tuple _) => false
  | _ => true
abbrev i64 (n : Int) : AV := .v (.int .i64 n)
abbrev bl (b : Bool) : AV := .v (.bool b)
abbrev st (s : ByteArray) : AV := .v (.string s)
abbrev nilS : AV := .v (.slice none 0 0)
def hget (H : Hp) (id : Nat) : Option Blk := match H[id]? with | some (some b) => some b | _ => none
def sget : List (Nat × AV) → Nat → AV
  | [], _ => .x
  | (u, a) :: r, t => if u = t then a else sget r t
def mk (ag : Bool) (cs : List AV) : Option AV := if ag then some (.agg cs) else match cs with | [c] => some c | _ => none
def LO.ev (s : List (Nat × AV)) : LO → AV
  | .t n => sget s n
  | .c a => a
def evs (s : List (Nat × AV)) (l : List LO) : List AV := l.map (LO.ev s)
-- ---------------------------------------------------------------- freezing: a value that stands without the state
def fzC (a : AV) (l : List Nat) : Option (List AV × List Nat) → Option (List AV × List Nat)
  | none => none
  | some (cs, m) => some (a :: cs, l ++ m)
def fzK (r : Option (List AV × List Nat)) : Option (AV × List Nat) → Option (List AV × List Nat)
  | none => none
  | some (a, l) => fzC a l r
def fzL (f : AV → Option (AV × List Nat)) : List AV → Option (List AV × List Nat)
  | [] => some ([], [])
  | a :: r => fzK (fzL f r) (f a)
def fzS (id off n : Nat) : Option Blk → Option (AV × List Nat)
  | none => none
  | some b => if b.kd ≠ 0 ∧ off + n ≤ b.es.length then some (.lst b.k ((b.es.drop off).take n), [id]) else none
def fzW (g : List AV → AV) (l : List Nat) : Option (List AV × List Nat) → Option (AV × List Nat)
  | none => none
  | some (cs, m) => some (g cs, l ++ m)
def fzE (f : AV → Option (AV × List Nat)) (b : Blk) (id j : Nat) : Option AV → Option (AV × List Nat)
  | none => none
  | some e => if b.kd = 0 then fzW (fun cs => .el (.agg cs) j) [id] (fzL f e.cells) else some (.el e j, [id])
def fzB (f : AV → Option (AV × List Nat)) (id i j : Nat) : Option Blk → Option (AV × List Nat)
  | none => none
  | some b => fzE f b id j (b.es[i]?)
def fzF (g : Fn) (q : Option (List AV × List Nat)) : Option (List AV × List Nat) → Option (AV × List Nat)
  | none => none
  | some (a, l) => fzW (fun b => .fn g a b) l q
def fz (H : Hp) : Nat → AV → Option (AV × List Nat)
  | 0, _ => none
  | d + 1, .x => none
  | d + 1, .v c => some (.v c, [])
  | d + 1, .lst k xs => some (.lst k xs, [])
  | d + 1, .el e j => some (.el e j, [])
  | d + 1, .sl id off n => fzS id off n (hget H id)
  | d + 1, .ptr id i j => fzB (fz H d) id i j (hget H id)
  | d + 1, .agg cs => fzW .agg [] (fzL (fz H d) cs)
  | d + 1, .tup cs => fzW .tup [] (fzL (fz H d) cs)
  | d + 1, .fn f a b => fzF f (fzL (fz H d) b) (fzL (fz H d) a)
def fzd : Nat := 5
/-- The blocks named are read only from here on. -/
def markRo : List Nat → Hp → Hp
  | [], H => H
  | id :: r, H => markRo r (match hget H id with | some b => H.set id (some { b with ro := true }) | none => H)
-- ---------------------------------------------------------------- renaming
def rnmL (g : AV → Option AV) : List AV → Option (List AV)
  | [] => some []
  | a :: r => (g a).bind fun b => (rnmL g r).bind fun s => some (b :: s)
def rnm (f : Nat → Option Nat) : Nat → AV → Option AV
  | 0, _ => none
  | d + 1, .sl id off len => (f id).bind fun i => some (.sl i off len)
  | d + 1, .ptr id i j => (f id).bind fun n => some (.ptr n i j)
  | d + 1, .agg cs => (rnmL (rnm f d) cs).bind fun r => some (.agg r)
  | d + 1, .tup cs => (rnmL (rnm f d) cs).bind fun r => some (.tup r)
  | d + 1, .fn g a b => (rnmL (rnm f d) a).bind fun p => (rnmL (rnm f d) b).bind fun q => some (.fn g p q)
  | d + 1, .x => none
  | d + 1, .v c => some (.v c)
  | d + 1, .lst k xs => some (.lst k xs)
  | d + 1, .el e j => some (.el e j)
def rnmB (f : Nat → Option Nat) (b : Blk) : Option Blk := if b.kd = 0 then (rnmL (rnm f fzd) b.es).bind fun e => some { b with es := e } else some b
def rnmO (f : Nat → Option Nat) : Option Blk → Option (Option Blk)
  | none => some none
  | some b => (rnmB f b).bind fun c => some (some c)
def rnmH (f : Nat → Option Nat) : Hp → Option Hp
  | [] => some []
  | o :: r => (rnmO f o).bind fun p => (rnmH f r).bind fun q => some (p :: q)
def addId (n : Nat) (id : Nat) : Option Nat := some (n + id)
def okL (f : AV → Bool) : List AV → Bool
  | [] => true
  | a :: r => f a && okL f r
/-- Whole of itself: no memory behind it. -/
def leaf : Nat → AV → Bool
  | 0, _ => false
  | d + 1, .v _ => true
  | d + 1, .agg cs => okL (leaf d) cs
  | d + 1, .tup cs => okL (leaf d) cs
  | d + 1, _ => false
def idsL (f : AV → List Nat) : List AV → List Nat
  | [] => []
  | a :: r => f a ++ idsL f r
def ids : Nat → AV → List Nat
  | 0, _ => []
  | d + 1, .sl id _ _ => [id]
  | d + 1, .ptr id _ _ => [id]
  | d + 1, .agg cs => idsL (ids d) cs
  | d + 1, .tup cs => idsL (ids d) cs
  | d + 1, .fn _ a b => idsL (ids d) a ++ idsL (ids d) b
  | d + 1, _ => []
def blkIds (b : Blk) : List Nat := if b.kd = 0 then idsL (ids fzd) b.es else []
def reach (H : Hp) (h0 : Nat) : Nat → List Nat → List Nat → List Nat
  | 0, _, acc => acc
  | d + 1, [], acc => acc
  | d + 1, id :: r, acc => if id < h0 || acc.contains id then reach H h0 d r acc else
      match hget H id with
      | none => reach H h0 d r acc
      | some b => reach H h0 d (blkIds b ++ r) (acc ++ [id])
def newId (h0 : Nat) (acc : List Nat) (id : Nat) : Option Nat := if id < h0 then some id else (acc.idxOf? id).map (h0 + ·)
def oldIds : Hp → List Nat
  | [] => []
  | none :: r => oldIds r
  | some b :: r => blkIds b ++ oldIds r
def picked (H : Hp) : List Nat → Hp
  | [] => []
  | id :: r => (hget H id) :: picked H r
def packP (acc : List Nat) : Option Hp → Option Hp → Option (List Nat × Hp)
  | some A, some B => some (acc, A ++ B)
  | _, _ => none
/-- The blocks that some values still name, renamed in order; the first h0 keep their names. -/
def packH (h0 : Nat) (H : Hp) (roots : List Nat) : Option (List Nat × Hp) :=
  let acc := reach H h0 64 (roots ++ oldIds (H.take h0)) []
  packP acc (rnmH (newId h0 acc) (H.take h0)) (rnmH (newId h0 acc) (picked H acc))
def keep (s : List (Nat × AV)) : List Nat → List (Nat × AV)
  | [] => []
  | t :: r => (t, sget s t) :: keep s r
def slotIds : List (Nat × AV) → List Nat
  | [] => []
  | (_, a) :: r => ids fzd a ++ slotIds r
def renS (h0 : Nat) (acc : List Nat) : List (Nat × AV) → List (Nat × AV)
  | [] => []
  | (t, a) :: r => match rnm (newId h0 acc) fzd a with
    | some b => (t, b) :: renS h0 acc r
    | none => renS h0 acc r
def packQ (h0 : Nat) (s : List (Nat × AV)) : Option (List Nat × Hp) → Option St
  | none => none
  | some (l, H) => some ⟨renS h0 l s, H⟩
def pack (h0 : Nat) (live : List Nat) (z : St) : Option St :=
  packQ h0 (keep z.s live) (packH h0 z.h (slotIds (keep z.s live)))
-- ---------------------------------------------------------------- operations
def intBin (op : BinOp) (k : IntKind) (a b : Int) : Option AV :=
  match op with
  | .add => some (.v (.int k (k.wrap (a + b))))
  | .sub => some (.v (.int k (k.wrap (a - b))))
  | .mul => some (.v (.int k (k.wrap (a * b))))
  | .quo => if b = 0 then none else some (.v (.int k (k.wrap (a.tdiv b))))
  | .rem => if b = 0 then none else some (.v (.int k (a.tmod b)))
  | .eql => some (bl (decide (a = b)))
  | .neq => some (bl (!decide (a = b)))
  | .lss => some (bl (decide (a < b)))
  | .leq => some (bl (decide (a ≤ b)))
  | .gtr => some (bl (decide (b < a)))
  | .geq => some (bl (decide (b ≤ a)))
  | .xor => some (.v (.int k (k.wrap (BitVec.ofInt k.bits a ^^^ BitVec.ofInt k.bits b).toNat)))
  | .and => some (.v (.int k (k.wrap (BitVec.ofInt k.bits a &&& BitVec.ofInt k.bits b).toNat)))
  | .or => some (.v (.int k (k.wrap (BitVec.ofInt k.bits a ||| BitVec.ofInt k.bits b).toNat)))
  | _ => none
def strBin (op : BinOp) (a b : ByteArray) : Option AV :=
  match op with
  | .add => if (a.size + b.size : Nat) ≤ 9223372036854775807 then some (st (a ++ b)) else none
  | .eql => some (bl (decide (a = b)))
  | .neq => some (bl (!decide (a = b)))
  | .lss => some (bl (Op.bytesLess a.data.toList b.data.toList))
  | .leq => some (bl (Op.bytesLess a.data.toList b.data.toList || decide (a = b)))
  | .gtr => some (bl (!(Op.bytesLess a.data.toList b.data.toList || decide (a = b))))
  | .geq => some (bl (!Op.bytesLess a.data.toList b.data.toList))
  | _ => none
def shiftBin (op : BinOp) (k : IntKind) (a b : Int) : Option AV :=
  if b < 0 then none else
  match op with
  | .shl => some (.v (.int k (k.wrap (a * 2 ^ (min b.toNat k.bits)))))
  | .shr => some (.v (.int k (a.fdiv (2 ^ (min b.toNat k.bits)))))
  | _ => none
def isShift : BinOp → Bool
  | .shl | .shr => true
  | _ => false
def bin (op : BinOp) : AV → AV → Option AV
  | .v (.int k a), .v (.int k' b) => if isShift op = true then shiftBin op k a b else if k = k' then intBin op k a b else none
  | .v (.string a), .v (.string b) => strBin op a b
  | _, _ => none
def boolBin (op : BinOp) (a b : Bool) : Option AV :=
  match op with
  | .eql => some (bl (a == b))
  | .neq => some (bl (!(a == b)))
  | _ => none
def binb (op : BinOp) : AV → AV → Option AV
  | .v (.bool a), .v (.bool b) => boolBin op a b
  | _, _ => none
/-- Two parts of a struct or an array, compared: 0 a truth value, 1 a number, 2 a text. -/
def leafEq : Nat → AV → AV → Option Bool
  | 0, .v (.bool a), .v (.bool b) => some (a == b)
  | 1, .v (.int k a), .v (.int k' b) => if k = k' then some (decide (a = b)) else none
  | 2, .v (.string a), .v (.string b) => some (decide (a = b))
  | _, _, _ => none
def leavesEq : List Nat → List AV → List AV → Option Bool
  | [], [], [] => some true
  | c :: cs, a :: r, b :: s => (leafEq c a b).bind fun e => (leavesEq cs r s).bind fun q => some (e && q)
  | _, _, _ => none
def eqOp (op : BinOp) (r : Bool) : Option AV :=
  match op with
  | .eql => some (bl r)
  | .neq => some (bl (!r))
  | _ => none
def binf (op : BinOp) (ks : List Nat) : AV → AV → Option AV
  | .agg xs, .agg ys => (leavesEq ks xs ys).bind (eqOp op)
  | _, _ => none
def un (op : UnOp) : AV → Option AV
  | .v (.bool b) => match op with | .not => some (bl (!b)) | _ => none
  | .v (.int k n) => match op with | .neg => some (.v (.int k (k.wrap (0 - n)))) | _ => none
  | _ => none
def asI : AV → Option Int
  | .v (.int _ n) => some n
  | _ => none
def asB : AV → Option Bool
  | .v (.bool b) => some b
  | _ => none
def loadE (k : Nat) (ag : Bool) (e : AV) (j : Nat) : Option AV := if j + k ≤ e.cells.length then mk ag ((e.cells.drop j).take k) else none
def loadO (k : Nat) (ag : Bool) (j : Nat) : Option AV → Option AV
  | none => none
  | some e => loadE k ag e j
def loadB (k : Nat) (ag : Bool) (i j : Nat) : Option Blk → Option AV
  | none => none
  | some b => loadO k ag j (b.es[i]?)
def loadA (H : Hp) (k : Nat) (ag : Bool) : AV → Option AV
  | .ptr id i j => loadB k ag i j (hget H id)
  | .el e j => loadE k ag e j
  | _ => none
def putE (e : AV) (j : Nat) (vs : List AV) : AV :=
  match e with
  | .agg cs => .agg (cs.take j ++ vs ++ cs.drop (j + vs.length))
  | e => match vs with | [c] => c | _ => e
def allOne : List AV → Bool
  | [] => true
  | a :: r => a.one && allOne r
def partsOf (k : Nat) (ag : Bool) (a : AV) : Option (List AV) :=
  match ag, a with
  | true, .agg cs => if cs.length = k ∧ allOne cs = true then some cs else none
  | false, a => if k = 1 ∧ a.one = true then some [a] else none
  | _, _ => none
/-- An element: k cells, each one cell. -/
def elemOk (k : Nat) (a : AV) : Bool := a.cells.length == k && allOne a.cells
def storeV (H : Hp) (id i j : Nat) (b : Blk) (e : AV) : Option (List AV) → Option Hp
  | none => none
  | some cs => some (H.set id (some { b with es := b.es.set i (putE e j cs) }))
def storeQ (H : Hp) (id i j k : Nat) (ag : Bool) (b : Blk) (e : AV) : Option (AV × List Nat) → Option Hp
  | none => none
  | some (a, l) => if l = [] then storeV H id i j b e (partsOf k ag a) else none
def storeE (H : Hp) (id i j k : Nat) (ag : Bool) (a : AV) (b : Blk) : Option AV → Option Hp
  | none => none
  | some e => if b.ro = false ∧ j + k ≤ e.cells.length then
      (if b.kd = 0 then storeV H id i j b e (partsOf k ag a) else storeQ H id i j k ag b e (fz H fzd a)) else none
def storeB (H : Hp) (id i j k : Nat) (ag : Bool) (a : AV) : Option Blk → Option Hp
  | none => none
  | some b => storeE H id i j k ag a b (b.es[i]?)
def storeA (H : Hp) (k : Nat) (ag : Bool) (p a : AV) : Option Hp :=
  match p with
  | .ptr id i j => storeB H id i j k ag a (hget H id)
  | _ => none
def fillP : List AV → List (Nat × Nat × AV) → Option (List AV)
  | zs, [] => some zs
  | zs, (off, n, a) :: r => if a.cells.length = n ∧ off + n ≤ zs.length ∧ allOne a.cells = true then fillP (zs.take off ++ a.cells ++ zs.drop (off + n)) r else none
def bytesOf : List AV → Option (List UInt8)
  | [] => some []
  | .v (.int .u8 n) :: r => (bytesOf r).bind fun l => some (UInt8.ofNat n.toNat :: l)
  | _ :: _ => none
def u8s (l : List UInt8) : List AV := l.map fun b => .v (.int .u8 b.toNat)
def rowB (off n : Nat) : Option Blk → Option (Nat × List AV)
  | none => none
  | some b => if b.kd ≠ 0 ∧ off + n ≤ b.es.length then some (b.k, (b.es.drop off).take n) else none
def rowElems (H : Hp) : AV → Option (Nat × List AV)
  | .v (.slice none 0 0) => some (0, [])
  | .lst k xs => some (k, xs)
  | .sl id off n => rowB off n (hget H id)
  | _ => none
/-- Where the block still is. -/
def liv (a : AV) : Option Blk → Option AV
  | none => none
  | some _ => some a
def liv2 (a : AV) (H : Hp) : Option Blk → Option (AV × Hp)
  | none => none
  | some _ => some (a, H)
def appendN (H : Hp) (s : AV) : Option (AV × Hp) :=
  match s with
  | .v (.slice none 0 0) => some (s, H)
  | .sl id 0 n => liv2 s H (hget H id)
  | _ => none
def appendO (ty k bytes n : Nat) (H : Hp) (id : Nat) (xs : List AV) : Option Blk → Option (AV × Hp)
  | none => none
  | some b => if b.kd = 1 ∧ b.ro = false ∧ b.ty = ty ∧ b.k = k ∧ n ≤ b.es.length ∧ (n + xs.length) * bytes ≤ 140737488355328 ∧ n + xs.length ≤ 140737488355328
      then some (.sl H.length 0 (n + xs.length), H.set id none ++ [some ⟨ty, k, 1, false, b.es.take n ++ xs⟩]) else none
def appendM (ty k bytes : Nat) (H : Hp) (xs : List AV) (s : AV) : Option (AV × Hp) :=
  match s with
  | .v (.slice none 0 0) => if xs.length * bytes ≤ 140737488355328 ∧ xs.length ≤ 140737488355328 then some (.sl H.length 0 xs.length, H ++ [some ⟨ty, k, 1, false, xs⟩]) else none
  | .sl id 0 n => appendO ty k bytes n H id xs (hget H id)
  | _ => none
def appendL (ty k bytes : Nat) (H : Hp) (s : AV) : Option (Nat × List AV) → Option (AV × Hp)
  | none => none
  | some (k', xs) => if xs.isEmpty then appendN H s else if k' ≠ k then none else appendM ty k bytes H xs s
def appendA (H : Hp) (ty k bytes : Nat) (s x : AV) : Option (AV × Hp) := appendL ty k bytes H s (rowElems H x)
def chunks (k : Nat) (cs : List AV) : Nat → List AV
  | 0 => []
  | n + 1 => .agg (cs.take k) :: chunks k (cs.drop k) n
def intO (d : Int) : Option AV → Option Int
  | none => some d
  | some (.v (.int _ n)) => some n
  | _ => none
def sliceStr (s : ByteArray) : Option Int → Option Int → Option AV
  | some l, some h => if 0 ≤ l ∧ l ≤ h ∧ h ≤ s.size then some (st (s.extract l.toNat h.toNat)) else none
  | _, _ => none
def sliceLst (k : Nat) (xs : List AV) : Option Int → Option Int → Option AV
  | some l, some h => if 0 ≤ l ∧ l ≤ h ∧ h ≤ xs.length then some (.lst k ((xs.drop l.toNat).take (h.toNat - l.toNat))) else none
  | _, _ => none
def sliceSl (id off n : Nat) (b : Blk) (k : Nat) : Option Int → Option Int → Option AV
  | some l, some h => if b.k = k ∧ 0 ≤ l ∧ l ≤ h ∧ h ≤ n then some (.sl id (off + l.toNat) (h.toNat - l.toNat)) else none
  | _, _ => none
def sliceB (id off n k : Nat) (lo hi : Option AV) : Option Blk → Option AV
  | none => none
  | some b => sliceSl id off n b k (intO 0 lo) (intO n hi)
def sliceNil : Option Int → Option Int → Option AV
  | some l, some h => if l = 0 ∧ h = 0 then some nilS else none
  | _, _ => none
def sliceA (H : Hp) (lo hi : Option AV) : SK → AV → Option AV
  | .str, .v (.string s) => sliceStr s (intO 0 lo) (intO s.size hi)
  | .row k, .lst k' xs => if k = k' then sliceLst k xs (intO 0 lo) (intO xs.length hi) else none
  | .row k, .sl id off n => sliceB id off n k lo hi (hget H id)
  | .row k, .v (.slice none 0 0) => sliceNil (intO 0 lo) (intO 0 hi)
  | _, _ => none
def foldI (f : Int → Int → Int) : List AV → Option AV
  | .v (.int k n) :: r => go k n r
  | _ => none
where go (k : IntKind) (n : Int) : List AV → Option AV
  | [] => some (.v (.int k n))
  | .v (.int k' m) :: r => if k = k' then go k (f n m) r else none
  | _ :: _ => none
-- ---------------------------------------------------------------- the environment
abbrev Clo := Nat → List AV → Hp → Option (AV × Hp)
structure Env where
  opn : Nat → Bool
  fn : Nat → Option LFunc
  prim : Nat → Option (List AV → Hp → Option (AV × Hp))
def leafR (a : AV) (H : Hp) : Bool := leaf fzd a && H.isEmpty
def callR (H : Hp) : Option AV → Option Hp → Option (AV × Hp)
  | some a, some h => some (a, H ++ h)
  | _, _ => none
/-- Free of what was lent: no row that is only read, no element of one. -/
def free : Nat → AV → Bool
  | 0, _ => false
  | d + 1, .lst _ xs => xs.isEmpty
  | d + 1, .el _ _ => false
  | d + 1, .agg cs => okL (free d) cs
  | d + 1, .tup cs => okL (free d) cs
  | d + 1, .fn _ a b => okL (free d) a && okL (free d) b
  | d + 1, .x => true
  | d + 1, .v _ => true
  | d + 1, .sl _ _ _ => true
  | d + 1, .ptr _ _ _ => true
def freeH : Hp → Bool
  | [] => true
  | none :: r => freeH r
  | some b :: r => okL (free fzd) b.es && freeH r
def callH (H : Hp) (l : List Nat) : Option (AV × Hp) → Option (AV × Hp)
  | none => none
  | some (a, h) => if leafR a h then some (a, H) else callR (if free fzd a && freeH h then H else markRo l H) (rnm (addId H.length) fzd a) (rnmH (addId H.length) h)
def callG (C : Clo) (f : Nat) (H : Hp) : Option (List AV × List Nat) → Option (AV × Hp)
  | none => none
  | some (as, l) => callH H l (C f as [])
def callF (E : Env) (C : Clo) (f : Nat) (as : List AV) (H : Hp) : Option (AV × Hp) :=
  if E.opn f then C f as H else callG C f H (fzL (fz H fzd) as)
def callSH (l : List Nat) : Option (AV × Hp) → Option AV
  | none => none
  | some (a, h) => if leafR a h then some a else if l = [] then (fz h fzd a).bind fun p => some p.1 else if free fzd a && freeH h then (fz h fzd a).bind fun p => some p.1 else none
def callSG (C : Clo) (f : Nat) : Option (List AV × List Nat) → Option AV
  | none => none
  | some (as, l) => callSH l (C f as [])
/-- A call in a region whose order is open: its answer stands by itself. -/
def callS (E : Env) (C : Clo) (f : Nat) (as : List AV) (H : Hp) : Option AV :=
  if E.opn f then none else callSG C f (fzL (fz H fzd) as)
def optO (s : List (Nat × AV)) : Option LO → Option AV
  | none => none
  | some o => some (o.ev s)
def aggO : Option (List AV) → Option AV
  | none => none
  | some cs => some (.agg cs)
def pickA : AV → AV → AV → Option AV
  | .v (.bool p), a, b => some (if p then a else b)
  | _, _, _ => none
def nilckA (H : Hp) : AV → Option AV
  | .ptr id i j => liv (.ptr id i j) (hget H id)
  | .el e j => some (.el e j)
  | .fn (.func f) a b => some (.fn (.func f) a b)
  | _ => none
def faddrA (H : Hp) (off : Nat) : AV → Option AV
  | .ptr id i j => liv (.ptr id i (j + off)) (hget H id)
  | .el e j => some (.el e (j + off))
  | _ => none
def fieldA (off k : Nat) (ag : Bool) : AV → Option AV
  | .agg cs => if off + k ≤ cs.length then mk ag ((cs.drop off).take k) else none
  | _ => none
def elO : Option AV → Option AV
  | none => none
  | some e => some (.el e 0)
def elAt (k : Nat) (xs : List AV) (n : Int) : Option AV := if 0 ≤ n ∧ n < xs.length then elO (xs[n.toNat]?) else none
def iaddrB (k id i : Nat) : Option Blk → Option AV
  | none => none
  | some b => if b.k = k then some (.ptr id i 0) else none
def iaddrA (H : Hp) : SK → AV → AV → Option AV
  | .row k, .lst k' xs, .v (.int _ n) => if k = k' then elAt k xs n else none
  | .row k, .sl id off len, .v (.int _ n) => if 0 ≤ n ∧ n < len then iaddrB k id (off + n.toNat) (hget H id) else none
  | .arr len k, .ptr id i j, .v (.int _ n) => if 0 ≤ n ∧ n < len then liv (.ptr id i (j + n.toNat * k)) (hget H id) else none
  | .arr len k, .el e j, .v (.int _ n) => if 0 ≤ n ∧ n < len then some (.el e (j + n.toNat * k)) else none
  | _, _, _ => none
def indexA (ag : Bool) : SK → AV → AV → Option AV
  | .str, .v (.string s), .v (.int _ n) => if 0 ≤ n ∧ n < s.size then some (.v (.int .u8 (s.data.toList.getD n.toNat 0).toNat)) else none
  | .arr len k, .agg cs, .v (.int _ n) => if 0 ≤ n ∧ n < len then (if n.toNat * k + k ≤ cs.length then mk ag ((cs.drop (n.toNat * k)).take k) else none) else none
  | _, _, _ => none
def extractA (i : Nat) : AV → Option AV
  | .tup vs => vs[i]?
  | _ => none
def lenA (H : Hp) : SK → AV → Option AV
  | .str, .v (.string s) => some (i64 s.size)
  | .row _, .v (.slice none 0 0) => some (i64 0)
  | .row _, .lst _ xs => some (i64 xs.length)
  | .row _, .sl id _ n => liv (i64 n) (hget H id)
  | .arr n _, _ => some (i64 n)
  | _, _ => none
def b2sL : Option (List UInt8) → Option AV
  | none => none
  | some l => some (st ⟨l.toArray⟩)
def b2sR : Option (Nat × List AV) → Option AV
  | none => none
  | some (_, xs) => b2sL (bytesOf xs)
def convA (k : IntKind) : AV → Option AV
  | .v (.int _ n) => some (.v (.int k (k.wrap n)))
  | _ => none
def s2sA : AV → Option AV
  | .v (.string s) => some (st s)
  | _ => none
/-- What an operation gives that neither writes nor makes memory. -/
def pureOp (z : St) : LOp → Option AV
  | .mov a => some (a.ev z.s)
  | .pick c a b => pickA (c.ev z.s) (a.ev z.s) (b.ev z.s)
  | .build zs parts => aggO (fillP zs (parts.map fun p => (p.1, p.2.1, p.2.2.ev z.s)))
  | .load k ag a => loadA z.h k ag (a.ev z.s)
  | .nilck a => nilckA z.h (a.ev z.s)
  | .bin op a b => bin op (a.ev z.s) (b.ev z.s)
  | .binb op a b => binb op (a.ev z.s) (b.ev z.s)
  | .binf op ks a b => binf op ks (a.ev z.s) (b.ev z.s)
  | .un op a => un op (a.ev z.s)
  | .conv k a => convA k (a.ev z.s)
  | .s2s a => s2sA (a.ev z.s)
  | .b2s a => b2sR (rowElems z.h (a.ev z.s))
  | .mkfn f a b => some (.fn f (evs z.s a) (evs z.s b))
  | .slice sk a lo hi => sliceA z.h (optO z.s lo) (optO z.s hi) sk (a.ev z.s)
  | .faddr off a => faddrA z.h off (a.ev z.s)
  | .field off k ag a => fieldA off k ag (a.ev z.s)
  | .iaddr sk a i => iaddrA z.h sk (a.ev z.s) (i.ev z.s)
  | .index sk ag a i => indexA ag sk (a.ev z.s) (i.ev z.s)
  | .extract a i => extractA i (a.ev z.s)
  | .len sk a => lenA z.h sk (a.ev z.s)
  | .maxi as => foldI (fun x y => if y > x then y else x) (evs z.s as)
  | .mini as => foldI (fun x y => if y < x then y else x) (evs z.s as)
  | _ => none
def withH (H : Hp) : Option AV → Option (AV × Hp)
  | none => none
  | some a => some (a, H)
def callVF (E : Env) (C : Clo) (as : List AV) (H : Hp) : AV → Option (AV × Hp)
  | .fn (.func g) a b => callF E C g (a ++ as ++ b) H
  | _ => none
def callVS (E : Env) (C : Clo) (as : List AV) (H : Hp) : AV → Option AV
  | .fn (.func g) a b => callS E C g (a ++ as ++ b) H
  | _ => none
def boxA (ty k : Nat) (H : Hp) (a : AV) : Option (AV × Hp) := if elemOk k a then some (.ptr H.length 0 0, H ++ [some ⟨ty, k, 0, false, [a]⟩]) else none
def bsliceA (ty k : Nat) (H : Hp) : Option (List AV × List Nat) → Option (AV × Hp)
  | none => none
  | some (as, l) => if okL (elemOk k) as then some (.sl H.length 0 as.length, markRo l H ++ [some ⟨ty, k, 1, false, as⟩]) else none
def bsliceS (k : Nat) : Option (List AV × List Nat) → Option AV
  | none => none
  | some (as, l) => if okL (elemOk k) as ∧ l = [] then some (.lst k as) else none
/-- A whole array as a row, frozen. -/
def asliceA (n : Nat) (H : Hp) : Option (AV × List Nat) → Option (AV × Hp)
  | some (.el e 0, l) => if e.cells.length = n ∧ 0 < n ∧ allOne e.cells = true then some (.lst 1 e.cells, markRo l H) else none
  | _ => none
def storeR : Option Hp → Option (AV × Hp)
  | none => none
  | some H => some (.x, H)
def s2bA (ty : Nat) (H : Hp) : AV → Option (AV × Hp)
  | .v (.string s) => if s.size ≤ 140737488355328 then some (.sl H.length 0 s.size, H ++ [some ⟨ty, 1, 2, false, u8s s.data.toList⟩]) else none
  | _ => none
def mksliceA (ty k bytes : Nat) (zz : AV) (H : Hp) : AV → AV → Option (AV × Hp)
  | .v (.int _ n), .v (.int _ m) => if 0 ≤ n ∧ n ≤ m ∧ m * bytes ≤ 140737488355328 ∧ m ≤ 140737488355328 then some (.sl H.length 0 n.toNat, H ++ [some ⟨ty, k, 1, false, List.replicate n.toNat zz⟩]) else none
  | _, _ => none
/-- The operations that make or write memory, or call. -/
def fullOp (E : Env) (C : Clo) (z : St) : LOp → Option (AV × Hp)
  | .alloc ty k zs ag => some (.ptr z.h.length 0 0, z.h ++ [some ⟨ty, k, 0, false, [.agg zs]⟩])
  | .box ty k a => boxA ty k z.h (a.ev z.s)
  | .bslice ty k parts => bsliceA ty k z.h (fzL (fz z.h fzd) (evs z.s parts))
  | .store k ag a b => storeR (storeA z.h k ag (a.ev z.s) (b.ev z.s))
  | .s2b ty a => s2bA ty z.h (a.ev z.s)
  | .aslice n a => asliceA n z.h (fz z.h fzd (a.ev z.s))
  | .mkslice ty k bytes zz l c => mksliceA ty k bytes zz z.h (l.ev z.s) (c.ev z.s)
  | .append ty k bytes a b => appendA z.h ty k bytes (a.ev z.s) (b.ev z.s)
  | .call f as => callF E C f (evs z.s as) z.h
  | .callv f as => callVF E C (evs z.s as) z.h (f.ev z.s)
  | op => withH z.h (pureOp z op)
def softOp (E : Env) (C : Clo) (z : St) : LOp → Option AV
  | .bslice ty k parts => bsliceS k (fzL (fz z.h fzd) (evs z.s parts))
  | .call f as => callS E C f (evs z.s as) z.h
  | .callv f as => callVS E C (evs z.s as) z.h (f.ev z.s)
  | op => pureOp z op
def putS (s : List (Nat × AV)) : Option Nat → AV → List (Nat × AV)
  | none, _ => s
  | some d, a => (d, a) :: s
def asB' (w : Bool) : AV → Option Bool
  | .v (.bool b) => some (b == w)
  | .v (.tuple _) => some false
  | _ => none
/-- Is an operation wanted? -/
def wants (s : List (Nat × AV)) : Option (Nat × Bool) → Option Bool
  | none => some true
  | some (t, w) => asB' w (sget s t)
def putR (s : List (Nat × AV)) (d : Option Nat) : Option (AV × Hp) → Option St
  | none => none
  | some (a, h) => some ⟨putS s d a, h⟩
def putA (z : St) (d : Option Nat) : Option AV → Option St
  | none => none
  | some a => some ⟨putS z.s d a, z.h⟩
def oneFW (E : Env) (C : Clo) (o : LOper) (z : St) : Option Bool → Option St
  | none => none
  | some b => if b then putR z.s o.dst (fullOp E C z o.op) else some ⟨putS z.s o.dst (.v undef), z.h⟩
def oneSW (E : Env) (C : Clo) (o : LOper) (z : St) : Option Bool → Option St
  | none => none
  | some b => if b then putA z o.dst (softOp E C z o.op) else some ⟨putS z.s o.dst (.v undef), z.h⟩
def oneFull (E : Env) (C : Clo) (o : LOper) (z : St) : Option St := oneFW E C o z (wants z.s o.g)
def oneSoft (E : Env) (C : Clo) (o : LOper) (z : St) : Option St := oneSW E C o z (wants z.s o.g)
def evOps (E : Env) (C : Clo) : Nat → List LOper → St → Option St
  | _, [], z => some z
  | 0, o :: r, z => (oneFull E C o z).bind (evOps E C 0 r)
  | n + 1, o :: r, z => (oneSoft E C o z).bind (evOps E C n r)
/-- What was told ahead of a writing operation, and must be told again behind it. -/
structure Ck where
  o : LOper
  s : List (Nat × AV)
  s' : List (Nat × AV)
  n : Nat
def ckOk (E : Env) (C : Clo) (u : St) (h : Nat) : List Ck → Prop
  | [] => True
  | c :: r => (h < c.n → oneSoft E C c.o ⟨c.s, u.h⟩ = some ⟨c.s', u.h⟩) ∧ ckOk E C u h r
open Classical in
noncomputable def evX (E : Env) (C : Clo) : List (LOper × Bool × Nat) → List Ck → Nat → St → Option St
  | [], _, _, z => some z
  | (o, true, _) :: r, acc, p, z => (oneFull E C o z).bind fun u => if ckOk E C u p acc then evX E C r acc (p + 1) u else none
  | (o, false, e) :: r, acc, p, z => (oneSoft E C o z).bind fun u => evX E C r (⟨o, z.s, u.s, e⟩ :: acc) (p + 1) u
inductive Ex where
  | nrm
  | ext (id : Nat)
  | ret
  deriving DecidableEq
abbrev Rr := Option (Ex × St)
abbrev Lp := (St → Rr) → St → Rr
def Rr.thn : Rr → (St → Rr) → Rr
  | none, _ => none
  | some (.nrm, u), k => k u
  | some (.ext i, u), _ => some (.ext i, u)
  | some (.ret, u), _ => some (.ret, u)
def nrmR : Option St → Rr
  | none => none
  | some y => some (.nrm, y)
def condR (z : St) (f g : St → Rr) : AV → Rr
  | .v (.bool p) => if p then f z else g z
  | _ => none
def outB (id : Nat) : Rr → Rr
  | none => none
  | some (.ext j, u) => if j = id then some (.nrm, u) else some (.ext j, u)
  | some (.nrm, u) => some (.nrm, u)
  | some (.ret, u) => some (.ret, u)
def exR (e : Ex) : Option St → Rr
  | none => none
  | some v => some (e, v)
def packN (h0 : Nat) (li : List Nat) : Rr → Rr
  | none => none
  | some (.nrm, w) => exR .nrm (pack h0 li w)
  | some (.ext i, w) => some (.ext i, w)
  | some (.ret, w) => some (.ret, w)
def packX (h0 : Nat) (lo : List Nat) : Rr → Rr
  | none => none
  | some (e, w) => exR e (pack h0 lo w)
def lpR (L : Lp) (f : St → Rr) : Option St → Rr
  | none => none
  | some y => L f y
noncomputable def evC (E : Env) (C : Clo) (L : Lp) (h0 : Nat) : LCode → St → Rr
  | .skip, z => some (.nrm, z)
  | .ops n os, z => nrmR (evOps E C n os z)
  | .opsX os, z => nrmR (evX E C os [] 0 z)
  | .seq a b, z => (evC E C L h0 a z).thn (evC E C L h0 b)
  | .cond c a b, z => condR z (evC E C L h0 a) (evC E C L h0 b) (c.ev z.s)
  | .block id c, z => outB id (evC E C L h0 c z)
  | .exit id, z => some (.ext id, z)
  | .loop li lo c, z => packX h0 lo (lpR L (fun u => packN h0 li (evC E C L h0 c u)) (pack h0 li z))
  | .ret, z => some (.ret, z)
/-- A loop's round, its state told by what lives on. -/
noncomputable def bd (E : Env) (C : Clo) (L : Lp) (h0 : Nat) (li : List Nat) (c : LCode) (u : St) : Rr := packN h0 li (evC E C L h0 c u)
def resOne (z : St) : LRes → Option AV
  | .tmp t => some (sget z.s t)
  | .cell t k ag => loadA z.h k ag (sget z.s t)
def resAll (z : St) : List LRes → Option (List AV)
  | [] => some []
  | r :: rs => (resOne z r).bind fun a => (resAll z rs).bind fun l => some (a :: l)
def resOf : List AV → AV
  | [a] => a
  | l => .tup l
def params : Nat → List AV → List (Nat × AV)
  | _, [] => []
  | i, a :: r => (i, a) :: params (i + 1) r
def finA (h0 : Nat) (a : AV) : Option (List Nat × Hp) → Option (AV × Hp)
  | none => none
  | some (l, H) => match rnm (newId h0 l) fzd a with
    | none => none
    | some b => some (b, H)
def finL (h0 : Nat) (H : Hp) : Option (List AV) → Option (AV × Hp)
  | none => none
  | some l => finA h0 (resOf l) (packH h0 H (ids fzd (resOf l)))
def finR (h0 : Nat) (rs : List LRes) : Rr → Option (AV × Hp)
  | none => none
  | some (.ext _, _) => none
  | some (.nrm, u) => finL h0 u.h (resAll u rs)
  | some (.ret, u) => finL h0 u.h (resAll u rs)
noncomputable def runF (E : Env) (C : Clo) (L : Lp) (lf : LFunc) (as : List AV) (H : Hp) : Option (AV × Hp) :=
  if as.length ≠ lf.np then none else finR H.length lf.res (evC E C L H.length lf.body ⟨params 0 as, H⟩)
noncomputable def evF (E : Env) (C : Clo) (L : Lp) (f : Nat) (as : List AV) (H : Hp) : Option (AV × Hp) :=
  match E.prim f with
  | some p => p as H
  | none => (E.fn f).bind fun lf => runF E C L lf as H
def loopN : Nat → Lp
  | 0, _, _ => none
  | n + 1, b, z => (b z).thn (loopN n b)
noncomputable def evK (E : Env) : Nat → Clo
  | 0 => fun _ _ _ => none
  | n + 1 => evF E (evK E n) (loopN n)
end Go.Proofs.YtbbnecjaojobfaaDoor.Ev
