/- The abstract machine: values, heap, operations and the evaluator. No program in sight. -/
import GoSem.Core.Code
import GoSem.Core.View
import GoSem.Op.String
import GoSem.Core.Utf8
set_option linter.all false
namespace Am
open Go (IntKind BinOp UnOp FuncId TypeId)

/-- What is known of a slice's capacity: exact, or 'to the end of its block' (elements of so many cells). -/
inductive Cap where
  | ex (n : Nat)
  | op (esz : Nat)
  deriving DecidableEq, Repr

inductive Val where
  | undef
  | bool (b : Bool)
  | int (k : IntKind) (n : Int)
  | str (s : List UInt8)
  | ptr (a : Option (Nat × Nat))
  | slice (a : Option (Nat × Nat)) (len : Nat) (cap : Cap)
  | map (r : Option Nat)
  | fn (f : FuncId) (first captured : List Val)
  | nilFn
  /-- the function that a range over a function hands on: of the loop at a block -/
  | yld (l : Nat)
  | nilIface
  | iface (t : TypeId) (v : Val)
  | agg (cs : List Val)
  | tup (vs : List Val)
  deriving Repr, Inhabited

def Val.cells : Val → List Val
  | .agg cs => cs
  | v => [v]

/-- A value that lies in one cell. -/
def Val.one : Val → Bool
  | .agg _ | .tup _ | .undef => false
  | _ => true

mutual
def vbeq : Val → Val → Bool
  | .undef, .undef => true
  | .bool a, .bool b => a == b
  | .int k a, .int l b => k == l && a == b
  | .str a, .str b => a == b
  | .ptr a, .ptr b => a == b
  | .slice a n c, .slice b m d => a == b && n == m && decide (c = d)
  | .map a, .map b => a == b
  | .fn f p q, .fn g r t => f == g && vsbeq p r && vsbeq q t
  | .nilFn, .nilFn => true
  | .yld a, .yld b => a == b
  | .nilIface, .nilIface => true
  | .iface t a, .iface u b => t == u && vbeq a b
  | .agg a, .agg b => vsbeq a b
  | .tup a, .tup b => vsbeq a b
  | _, _ => false
def vsbeq : List Val → List Val → Bool
  | [], [] => true
  | a :: r, b :: t => vbeq a b && vsbeq r t
  | _, _ => false
end

def Val.known : Val → Bool
  | .undef => false
  | _ => true

/-- A map by numbers that the kernel walks fast. -/
inductive PM (α : Type) where
  | leaf
  | node (l : PM α) (v : Option α) (r : PM α)
  deriving Repr

namespace PM
variable {α : Type}
def get : PM α → Nat → Option α
  | leaf, _ => none
  | node l v r, k => if k = 0 then v else if k % 2 = 1 then l.get (k / 2) else r.get (k / 2 - 1)
def single : Nat → Nat → α → PM α
  | 0, _, v => node leaf (some v) leaf
  | f + 1, k, v => if k = 0 then node leaf (some v) leaf else if k % 2 = 1 then node (single f (k / 2) v) none leaf else node leaf none (single f (k / 2 - 1) v)
def set : PM α → Nat → α → PM α
  | leaf, k, x => single k k x
  | node l v r, k, x => if k = 0 then node l (some x) r else if k % 2 = 1 then node (l.set (k / 2) x) v r else node l v (r.set (k / 2 - 1) x)
def del : PM α → Nat → PM α
  | leaf, _ => leaf
  | node l v r, k => if k = 0 then node l none r else if k % 2 = 1 then node (l.del (k / 2)) v r else node l v (r.del (k / 2 - 1))
end PM

/-! ### Operations -/

inductive AOpd where
  | t (i : Nat)
  | c (v : Val)
  deriving Repr, Inhabited

/-- the kinds of cells that are compared -/
inductive LK where
  | bool | int | str | ptr
  deriving DecidableEq, Repr

inductive NK where
  | slice | map | func | iface
  deriving DecidableEq, Repr

/-- How two values are compared: cells at places, of an aggregate of so many cells. -/
inductive EqK where
  | leaf (k : LK)
  | cells (size : Nat) (ls : List (Nat × LK))
  | nilc (k : NK)
  deriving DecidableEq, Repr, Inhabited

inductive LenK where
  | str | slice | arr (n : Nat) | map
  deriving DecidableEq, Repr

/-- operations whose value is known at once -/
inductive AOp where
  | move (x : AOpd)
  | pick (c a b : AOpd)
  | newRow (e : TypeId) (zero : List Val)
  | box (e : TypeId) (x : AOpd)
  | build (zero : List Val) (parts : List (Nat × Nat × AOpd))
  | buildSlice (e : TypeId) (cells : List Val) (len : Nat) (parts : List (Nat × Nat × AOpd))
  | load (n : Option Nat) (a : AOpd)
  | store (n : Nat) (a x : AOpd)
  | nilCheck (x : AOpd)
  | bin (op : BinOp) (x y : AOpd)
  | eq (k : EqK) (neg : Bool) (x y : AOpd)
  | un (op : UnOp) (x : AOpd)
  | toInt (k : IntKind) (x : AOpd)
  | sameStr (x : AOpd)
  | toBytes (e : TypeId) (x : AOpd)
  | runeStr (x : AOpd)
  | fromBytes (x : AOpd)
  | mkIface (t : TypeId) (x : AOpd)
  | mkFn (f : FuncId) (first captured : List AOpd)
  | mkMap
  | mkSlice (e : TypeId) (zero : List Val) (bytes : Nat) (l c : AOpd)
  | sliceStr (x : AOpd) (lo hi : Option AOpd)
  | sliceSl (size : Nat) (x : AOpd) (lo hi mx : Option AOpd)
  | sliceArr (len size : Nat) (x : AOpd) (lo hi mx : Option AOpd)
  | addOff (n : Nat) (x : AOpd)
  | fieldOf (off : Nat) (n : Option Nat) (x : AOpd)
  | idxSl (size : Nat) (x i : AOpd)
  | idxArr (len size : Nat) (x i : AOpd)
  | idxAgg (len size : Nat) (n : Option Nat) (x i : AOpd)
  | idxStr (x i : AOpd)
  | lookup (kt : EqK) (zero : Val) (ok : Bool) (x i : AOpd)
  | mapSet (kt : EqK) (m k x : AOpd)
  | extract (x : AOpd) (i : Nat)
  | append (e : TypeId) (size bytes : Nat) (s x : AOpd)
  | copy (size : Nat) (d x : AOpd)
  | len (k : LenK) (x : AOpd)
  | cap (x : AOpd)
  | mm (max : Bool) (xs : List AOpd)
  | idxByte (x c : AOpd)
  /-- a pointer to a variable of type u seen as an unsafe.Pointer, and back -/
  | toUnsafe (x : AOpd)
  | fromUnsafe (u : TypeId) (size : Nat) (x : AOpd)
  | sliceData (x : AOpd)
  | unsafeStr (u : TypeId) (x n : AOpd)
  | noZero (e : TypeId) (n : AOpd)
  | rangeStr (x : AOpd)
  | rangeMap (x : AOpd)
  | nextStr (x : AOpd)
  | entry (x : AOpd)
  | clearSl (zero : List Val) (x : AOpd)
  | appendMk (e : TypeId) (zero : List Val) (size bytes : Nat) (s n : AOpd)
  | cntByte (x c : AOpd)
  | cmpStr (x y : AOpd)
  /-- never done -/
  | fail
  deriving Repr, Inhabited

/-! ### Code -/

/-- light reads: their slots, guards and operations -/
abbrev Chk := List (Option Nat × Option (Nat × Bool) × AOp)

inductive AOper where
  | op (dst : Option Nat) (guard : Option (Nat × Bool)) (o : AOp) (chk : Chk)
  | call (dst : Option Nat) (guard : Option (Nat × Bool)) (f : FuncId) (args : List AOpd) (chk : Chk)
  | callv (dst : Option Nat) (guard : Option (Nat × Bool)) (f : AOpd) (args : List AOpd) (chk : Chk)
  | pan (dst : Option Nat) (guard : Option (Nat × Bool)) (x : AOpd)
  | dfr (dst : Option Nat) (guard : Option (Nat × Bool)) (f : AOpd) (args : List AOpd)
  | nextMap (dst : Option Nat) (guard : Option (Nat × Bool)) (it : AOpd)
  deriving Repr, Inhabited

inductive ACode where
  | skip
  /-- of a region that draws its order: what is not known of it when it panics -/
  | ops (mask : List Nat) (l : List AOper)
  | seq (a b : ACode)
  | cond (c : AOpd) (a b : ACode)
  | block (id : Nat) (a : ACode)
  | loop (a : ACode)
  | exit (id : Nat)
  | ret
  | rangeFunc (g : AOpd) (ps : List Nat) (as body : ACode)
  /-- forget these slots (only at a loop's head and where ways meet) -/
  | drop (l : List Nat)
  | fail
  deriving Repr, Inhabited

/-! ### The state -/

inductive LState where
  | ready | busy | done | exhausted
  deriving DecidableEq, Repr

/-- how a round has left the loop -/
inductive Jump where
  | exit (id : Nat)
  | ret
  deriving DecidableEq, Repr

structure Row where
  cs : List Val
  /-- the block may hold more cells than these -/
  opn : Bool
  ro : Bool
  /-- cells below this one may be frozen -/
  frz : Nat
  /-- no cell and no end of it was ever frozen -/
  clean : Bool := true
  /-- the block's element type, if known -/
  elem : Option TypeId := none
  deriving Repr

structure MEnt where
  key : Val
  val : Val
  born : Nat
  deriving Repr

inductive Blk where
  | row (r : Row)
  | map (es : List MEnt) (clock : Nat)
  | sIter (s : List UInt8) (pos : Nat)
  | mIter (m : Option Nat) (since : Nat) (seen : List Nat) (last : Nat)
  /-- the block of the deferred calls of a range over a function: none; taken or not -/
  | dfr (taken : Bool)
  | loop (st : LState) (pend : Option Jump) (E : PM Val) (ps : List Nat) (as body : ACode) (d : Nat)
  deriving Repr

structure St where
  heap : PM Blk
  next : Nat
  /-- blocks below this one are not written -/
  floor : Nat
  deriving Repr

def St.alloc (s : St) (b : Blk) : St := { s with heap := s.heap.set s.next b, next := s.next + 1 }
def St.put (s : St) (r : Nat) (b : Blk) : St := { s with heap := s.heap.set r b }
def St.kill (s : St) (r : Nat) : St := { s with heap := s.heap.del r }

def St.row? (s : St) (b : Nat) : Option Row :=
  match s.heap.get b with
  | some (.row r) => some r
  | _ => none

def St.load1 (s : St) (a : Nat × Nat) : Option Val :=
  match s.row? a.1 with
  | some r => r.cs[a.2]?
  | none => none

def seg (l : List Val) (o n : Nat) : List Val := (l.drop o).take n

def St.loadN (s : St) (a : Nat × Nat) (n : Nat) : Option (List Val) :=
  match s.row? a.1 with
  | some r => if a.2 + n ≤ r.cs.length then some (seg r.cs a.2 n) else none
  | none => none

def St.loadK (s : St) (k : Option Nat) (a : Nat × Nat) : Option Val :=
  match k with
  | none => s.load1 a
  | some n => (s.loadN a n).map .agg

def splice (l : List Val) (o : Nat) (vs : List Val) : List Val := l.take o ++ vs ++ l.drop (o + vs.length)

def St.storeN (s : St) (a : Nat × Nat) (vs : List Val) : Option St :=
  match s.row? a.1 with
  | some r =>
    if s.floor ≤ a.1 ∧ r.ro = false ∧ r.frz ≤ a.2 ∧ a.2 + vs.length ≤ r.cs.length ∧ vs.all Val.one = true then
      some (s.put a.1 (.row { r with cs := splice r.cs a.2 vs }))
    else none
  | none => none

inductive ADef where
  | fn (f : FuncId) (args : List Val)
  | coll (d : Nat)
  deriving Repr

/-- an activation: its temporaries, its deferred calls -/
structure Env where
  m : PM Val
  ds : List ADef := []
def Env.get (E : Env) (i : Nat) : Val := (PM.get E.m i).getD .undef
def Env.set (E : Env) (i : Nat) (v : Val) : Env := { E with m := E.m.set i v }
def AOpd.ev (E : Env) : AOpd → Val
  | .t i => E.get i
  | .c v => v

/-- two addresses are one: told where they lie in one block, or in two of which one is no argument's and neither was ever made a string's -/
def eqAddr (s : St) (a b : Nat × Nat) : Option Bool :=
  match s.row? a.1 with
  | some r => if a.1 = b.1 then some (a.2 == b.2) else match s.row? b.1 with
    | some r' => if (r.ro = false ∨ r'.ro = false) ∧ r.clean = true ∧ r'.clean = true then some false else none
    | none => none
  | none => none
def eqLeaf (s : St) : LK → Val → Val → Option Bool
  | .bool, .bool a, .bool b => some (a == b)
  | .int, .int k a, .int k' b => if k = k' then some (a == b) else none
  | .str, .str a, .str b => some (a == b)
  | .ptr, .ptr none, .ptr b => some b.isNone
  | .ptr, .ptr (some _), .ptr none => some false
  | .ptr, .ptr (some a), .ptr (some b) => eqAddr s a b
  | _, _, _ => none
def eqCells (s : St) (xs ys : List Val) : List (Nat × LK) → Option Bool
  | [] => some true
  | (o, k) :: r => match xs[o]?, ys[o]? with
    | some a, some b => match eqLeaf s k a b with
      | some true => eqCells s xs ys r
      | some false => some false
      | none => none
    | _, _ => none
def eqNil : NK → Val → Val → Option Bool
  | .slice, .slice none _ _, .slice b _ _ => some b.isNone
  | .slice, .slice (some _) _ _, .slice none _ _ => some false
  | .map, .map none, .map b => some b.isNone
  | .map, .map (some _), .map none => some false
  | .func, .nilFn, .nilFn => some true
  | .func, .nilFn, .fn _ _ _ => some false
  | .func, .fn _ _ _, .nilFn => some false
  | .iface, .nilIface, .nilIface => some true
  | .iface, .nilIface, .iface _ _ => some false
  | .iface, .iface _ _, .nilIface => some false
  | _, _, _ => none
def eqAgg (s : St) (n : Nat) (ls : List (Nat × LK)) : Val → Val → Option Bool
  | .agg a, .agg b => if a.length = n ∧ b.length = n then eqCells s a b ls else none
  | _, _ => none
def eqV (s : St) : EqK → Val → Val → Option Bool
  | .leaf k, x, y => eqLeaf s k x y
  | .cells n ls, x, y => eqAgg s n ls x y
  | .nilc k, x, y => eqNil k x y

def intCmp (op : BinOp) (x y : Int) : Option Bool :=
  match op with
  | .eql => some (x == y)
  | .neq => some (x != y)
  | .lss => some (decide (x < y))
  | .leq => some (decide (x ≤ y))
  | .gtr => some (decide (x > y))
  | .geq => some (decide (x ≥ y))
  | _ => none

def intOp (op : BinOp) (k : IntKind) (x y : Int) : Option Val :=
  match op with
  | .add => some (.int k (k.wrap (x + y)))
  | .sub => some (.int k (k.wrap (x - y)))
  | .mul => some (.int k (k.wrap (x * y)))
  | .quo => if y = 0 then none else some (.int k (k.wrap (x.tdiv y)))
  | .rem => if y = 0 then none else some (.int k (x.tmod y))
  | .and => some (.int k (k.wrap (BitVec.ofInt k.bits x &&& BitVec.ofInt k.bits y).toNat))
  | .or => some (.int k (k.wrap (BitVec.ofInt k.bits x ||| BitVec.ofInt k.bits y).toNat))
  | .xor => some (.int k (k.wrap (BitVec.ofInt k.bits x ^^^ BitVec.ofInt k.bits y).toNat))
  | .andNot => some (.int k (k.wrap (BitVec.ofInt k.bits x &&& ~~~ BitVec.ofInt k.bits y).toNat))
  | .shl | .shr => none
  | _ => (intCmp op x y).map .bool

def shiftOp (op : BinOp) (k : IntKind) (x y : Int) : Option Val :=
  if y < 0 then none else
  match op with
  | .shl => some (.int k (k.wrap (x * 2 ^ (min y.toNat k.bits))))
  | .shr => some (.int k (x.fdiv (2 ^ (min y.toNat k.bits))))
  | _ => none

def strOp (op : BinOp) (x y : List UInt8) : Option Val :=
  match op with
  | .add => if x.length + y.length ≤ 9223372036854775807 then some (.str (x ++ y)) else none
  | .eql => some (.bool (x == y))
  | .neq => some (.bool !(x == y))
  | .lss => some (.bool (Go.Op.bytesLess x y))
  | .leq => some (.bool (Go.Op.bytesLess x y || x == y))
  | .gtr => some (.bool !(Go.Op.bytesLess x y || x == y))
  | .geq => some (.bool !(Go.Op.bytesLess x y))
  | _ => none

def binOp (op : BinOp) : Val → Val → Option Val
  | .int k a, .int k' b =>
    match op with
    | .shl | .shr => shiftOp op k a b
    | _ => if k = k' then intOp op k a b else none
  | .str a, .str b => strOp op a b
  | .bool a, .bool b => match op with
    | .eql => some (.bool (a == b))
    | .neq => some (.bool !(a == b))
    | _ => none
  | _, _ => none

def unOp (op : UnOp) : Val → Option Val
  | .int k n => match op with
    | .neg => some (.int k (k.wrap (0 - n)))
    | .xor => some (.int k (k.wrap (BitVec.ofInt k.bits (if k.signed then -1 else k.max) ^^^ BitVec.ofInt k.bits n).toNat))
    | _ => none
  | .bool b => match op with
    | .not => some (.bool !b)
    | _ => none
  | _ => none

/-- a bound of a slice expression -/
def bound (x : Val) (y : Nat) : Option Nat :=
  match x with
  | .int _ i => if 0 ≤ i ∧ i ≤ y then some i.toNat else none
  | _ => none
def boundO (x : Option Val) (y d : Nat) : Option Nat :=
  match x with
  | some v => bound v y
  | none => some d

def optBytes : List Val → Option (List UInt8)
  | [] => some []
  | .int .u8 n :: r => (optBytes r).map (UInt8.ofNat n.toNat :: ·)
  | _ => none

def fillL (cells : List Val) : List (Nat × Nat × Val) → Option (List Val)
  | [] => some cells
  | (off, size, v) :: rest =>
    if v.known = true ∧ v.cells.length = size ∧ off + size ≤ cells.length then fillL (splice cells off v.cells) rest else none

def mapFind (s : St) (kt : EqK) (k : Val) : List MEnt → Nat → Option (Option (Nat × MEnt))
  | [], _ => some none
  | e :: es, i => match eqV s kt k e.key with
    | some true => some (some (i, e))
    | some false => mapFind s kt k es (i + 1)
    | none => none

def allOne (vs : List Val) : Bool := vs.all Val.one

/-- a cell whose abstract value tells the model's -/
def firm (s : St) : Val → Bool
  | .bool _ | .int _ _ | .str _ | .ptr none => true
  | .ptr (some a) => (s.row? a.1).isSome
  | _ => false
/-- a key that the abstract machine takes -/
def keyB (s : St) : EqK → Val → Bool
  | .leaf .bool, .bool _ => true
  | .leaf .int, .int _ _ => true
  | .leaf .str, .str _ => true
  | .cells n _, .agg cs => cs.length == n && cs.all (firm s)
  | _, _ => false
def sameCell : Val → Val → Bool
  | .bool a, .bool b => a == b
  | .int k a, .int k' b => k == k' && a == b
  | .str a, .str b => a == b
  | .ptr a, .ptr b => a == b
  | _, _ => false
def sameCells : List Val → List Val → Bool
  | [], [] => true
  | a :: r, b :: r' => sameCell a b && sameCells r r'
  | _, _ => false
def sameKey : Val → Val → Bool
  | .agg a, .agg b => sameCells a b
  | a, b => sameCell a b

def lookupV (s : St) (kt : EqK) (zero : Val) (ok : Bool) (m k : Val) : Option Val :=
  if keyB s kt k then
    match m with
    | .map none => some (if ok then .tup [zero, .bool false] else zero)
    | .map (some r) => match s.heap.get r with
      | some (.map es _) => match mapFind s kt k es 0 with
        | some (some (_, e)) => some (if ok then .tup [e.val, .bool true] else e.val)
        | some none => some (if ok then .tup [zero, .bool false] else zero)
        | none => none
      | _ => none
    | _ => none
  else none

def mapSetV (s : St) (kt : EqK) (m k x : Val) : Option St :=
  if keyB s kt k then
    match m with
    | .map (some r) => match s.heap.get r with
      | some (.map es clock) =>
        if s.floor ≤ r then
          match mapFind s kt k es 0 with
          | some (some (i, e)) => if sameKey e.key k then some (s.put r (.map (es.modify i fun e => { e with key := k, val := x }) clock)) else none
          | some none => some (s.put r (.map (es ++ [{ key := k, val := x, born := clock }]) (clock + 1)))
          | none => none
        else none
      | _ => none
    | _ => none
  else none

def evs (E : Env) (l : List AOpd) : List Val := l.map (AOpd.ev E)

def partN (n : Option Nat) (cs : List Val) (off : Nat) : Option Val :=
  match n with
  | none => cs[off]?
  | some n => if off + n ≤ cs.length then some (.agg (seg cs off n)) else none

def zeros (zero : List Val) : Nat → List Val
  | 0 => []
  | n + 1 => zero ++ zeros zero n

def bytesVals (s : List UInt8) : List Val := s.map fun b => .int .u8 b.toNat

/-- the cells of an appended or copied source: so many elements -/
def srcCells (s : St) (size : Nat) : Val → Option (Nat × List Val)
  | .slice none n _ => if n = 0 then some (0, []) else none
  | .slice (some a) n _ => (s.loadN a (n * size)).map fun l => (n, l)
  | .str x => if size = 1 then some (x.length, bytesVals x) else none
  | _ => none

def srcLen : Val → Option Nat
  | .slice _ n _ => some n
  | .str x => some x.length
  | _ => none
/-- so many of a source's elements -/
def srcTake (s : St) (size m : Nat) : Val → Option (List Val)
  | .slice (some a) _ _ => s.loadN a (m * size)
  | .str x => if size = 1 then some (bytesVals (x.take m)) else none
  | _ => none

def appendV (s : St) (el : TypeId) (size bytes : Nat) (x : Val) (n : Nat) (news : List Val) : Option (Val × St) :=
  match x with
  | .slice a len cap =>
    if (len + n) * bytes ≤ 140737488355328 ∧ len + n ≤ 140737488355328 then
      match cap, a with
      | .ex c, none =>
        if len = 0 ∧ c = 0 then
          if n = 0 then some (x, s)
          else some (.slice (some (s.next, 0)) n (.op size), s.alloc (.row { cs := news, opn := true, ro := false, frz := 0, elem := some el }))
        else none
      | .ex c, some a =>
        if len + n ≤ c then
          if n = 0 then some (x, s)
          else (s.storeN (a.1, a.2 + len * size) news).map fun s' => (.slice (some a) (len + n) cap, s')
        else match s.loadN a (len * size) with
          | some old => some (.slice (some (s.next, 0)) (len + n) (.op size), s.alloc (.row { cs := old ++ news, opn := true, ro := false, frz := 0, elem := some el }))
          | none => none
      | .op e, some a =>
        if e = size ∧ a.2 = 0 then
          if n = 0 then some (x, s) else
          match s.row? a.1 with
          | some r =>
            if (len + n) * size ≤ r.cs.length then
              (s.storeN (a.1, len * size) news).map fun s' => (.slice (some a) (len + n) cap, s')
            else if s.floor ≤ a.1 ∧ r.ro = false ∧ r.frz ≤ len * size ∧ len * size ≤ r.cs.length ∧ allOne news = true then
              some (.slice (some (s.next, 0)) (len + n) (.op size), (s.kill a.1).alloc (.row { cs := r.cs.take (len * size) ++ news, opn := true, ro := false, frz := r.frz, clean := r.clean, elem := if r.elem = some el then some el else none }))
            else none
          | none => none
        else none
      | .op _, none => none
    else none
  | _ => none

def sliceV (s : St) (size : Nat) (x : Val) (lo hi mx : Option Val) : Option Val :=
  if mx.isSome = true ∧ hi.isSome = false then none else
  match x with
  | .slice a len cap =>
    match cap with
    | .ex c =>
      match boundO mx c c with
      | some m => match boundO hi m len with
        | some h => match boundO lo h 0 with
          | some l => if h ≤ m then some (.slice (if m = l then a else a.map fun a => (a.1, a.2 + l * size)) (h - l) (.ex (m - l))) else none
          | none => none
        | none => none
      | none => none
    | .op e =>
      match a with
      | none => none
      | some a => match s.row? a.1 with
        | none => none
        | some r =>
          if e = size ∧ 0 < size ∧ a.2 ≤ r.cs.length then
            let known := (r.cs.length - a.2) / size
            match mx with
            | some mv => match bound mv known with
              | some m => match boundO hi m len with
                | some h => match boundO lo h 0 with
                  | some l => if h ≤ m ∧ 0 < known then some (.slice (some (if m = l then a else (a.1, a.2 + l * size))) (h - l) (.ex (m - l))) else none
                  | none => none
                | none => none
              | none => none
            | none => match boundO hi known len with
              | some h => match boundO lo h 0 with
                | some l => some (.slice (some (a.1, a.2 + l * size)) (h - l) (.op e))
                | none => none
              | none => none
          else none
  | _ => none

def minmax (max : Bool) : Val → List Val → Option Val
  | v, [] => some v
  | .int k x, .int k' y :: r => if k = k' then minmax max (.int k (if max then (if x < y then y else x) else (if y < x then y else x))) r else none
  | _, _ => none

def copyV (s : St) (size : Nat) (d x : Val) : Option (Val × St) :=
  match d with
  | .slice a dl _ => match srcLen x with
    | some n =>
      if Nat.min n dl = 0 then some (.int .i64 0, s) else
      match a, srcTake s size (Nat.min n dl) x with
      | some a, some l => (s.storeN a l).map fun s' => (.int .i64 (Nat.min n dl : Nat), s')
      | _, _ => none
    | none => none
  | _ => none

def unsafeStrV (s : St) (u : TypeId) (x n : Val) : Option (Val × St) :=
  match n with
  | .int _ n =>
    if 0 ≤ n ∧ n ≤ 140737488355328 then
      match x with
      | .ptr none => if n = 0 then some (.str [], s) else none
      | .ptr (some a) =>
        if n = 0 then some (.str [], s) else
        match s.row? a.1, s.loadN a n.toNat with
        | some r, some l => if r.elem = some u ∧ s.floor ≤ a.1 ∧ r.ro = false ∧ r.clean = true then match optBytes l with
            | some b => some (.str b, s.put a.1 (.row { r with frz := Nat.max r.frz (a.2 + n.toNat), clean := false }))
            | none => none
          else none
        | _, _ => none
      | _ => none
    else none
  | _ => none

def findByte : List UInt8 → UInt8 → Nat → Int
  | [], _, _ => -1
  | b :: r, c, i => if b = c then i else findByte r c (i + 1)

def cntB (c : UInt8) : List UInt8 → Nat
  | [] => 0
  | b :: r => (if b = c then 1 else 0) + cntB c r

def cmpB : List UInt8 → List UInt8 → Int
  | [], [] => 0
  | [], _ :: _ => -1
  | _ :: _, [] => 1
  | a :: r, b :: t => if a = b then cmpB r t else if a < b then -1 else 1

def rangeMapV (s : St) : Val → Option (Val × St)
  | .map none => some (.ptr (some (s.next, 0)), s.alloc (.mIter none 0 [] 0))
  | .map (some r) => match s.heap.get r with
    | some (.map _ clock) => some (.ptr (some (s.next, 0)), s.alloc (.mIter (some r) clock [] clock))
    | _ => none
  | _ => none

def nextStrV (s : St) : Val → Option (Val × St)
  | .ptr (some (r, 0)) => match s.heap.get r with
    | some (.sIter b pos) =>
      if pos < b.length then
        if s.floor ≤ r then some (.tup [.bool true, .int .i64 pos, .int .i32 (Go.Utf8.decode ⟨b.toArray⟩ pos).1], s.put r (.sIter b (pos + (Go.Utf8.decode ⟨b.toArray⟩ pos).2))) else none
      else some (.tup [.bool false], s)
    | _ => none
  | _ => none

def entryV (s : St) : Val → Option Val
  | .ptr (some (r, 0)) => match s.heap.get r with
    | some (.mIter (some m) _ seen last) => match seen.getLast?, s.heap.get m with
      | some stamp, some (.map es clock) => if clock = last then (es.find? fun e => e.born == stamp).map fun e => .tup [e.key, e.val] else none
      | _, _ => none
    | _ => none
  | _ => none

/-- the value of an operation, and the state behind it -/
def evOp (o : AOp) (E : Env) (s : St) : Option (Val × St) :=
  match o with
  | .move x => some (x.ev E, s)
  | .pick c a b => match c.ev E with
    | .bool t => some (if t then a.ev E else b.ev E, s)
    | _ => none
  | .newRow e zero => some (.ptr (some (s.next, 0)), s.alloc (.row { cs := zero, opn := false, ro := false, frz := 0, elem := some e }))
  | .box e x =>
    let cs := (x.ev E).cells
    if allOne cs then some (.ptr (some (s.next, 0)), s.alloc (.row { cs := cs, opn := false, ro := false, frz := 0, elem := some e })) else none
  | .build zero parts => (fillL zero (parts.map fun p => (p.1, p.2.1, p.2.2.ev E))).map fun cs => (.agg cs, s)
  | .buildSlice e cells len parts =>
    match fillL cells (parts.map fun p => (p.1, p.2.1, p.2.2.ev E)) with
    | some cs => if allOne cs then some (.slice (some (s.next, 0)) len (.ex len), s.alloc (.row { cs := cs, opn := false, ro := false, frz := 0, elem := some e })) else none
    | none => none
  | .load n a => match a.ev E with
    | .ptr (some a) => (s.loadK n a).map fun v => (v, s)
    | _ => none
  | .store n a x => match a.ev E with
    | .ptr (some a) => if (x.ev E).cells.length = n then (s.storeN a (x.ev E).cells).map fun s' => (.tup [], s') else none
    | _ => none
  | .nilCheck x => match x.ev E with
    | .ptr (some a) => some (.ptr (some a), s)
    | .fn f p q => some (.fn f p q, s)
    | .iface t v => some (.iface t v, s)
    | _ => none
  | .bin op x y => (binOp op (x.ev E) (y.ev E)).map fun v => (v, s)
  | .eq k neg x y => (eqV s k (x.ev E) (y.ev E)).map fun b => (.bool (if neg then !b else b), s)
  | .un op x => (unOp op (x.ev E)).map fun v => (v, s)
  | .toInt k x => match x.ev E with
    | .int _ n => some (.int k (k.wrap n), s)
    | _ => none
  | .sameStr x => match x.ev E with
    | .str b => some (.str b, s)
    | _ => none
  | .runeStr x => match x.ev E with
    | .int _ n => some (.str (Go.Utf8.encode n).data.toList, s)
    | _ => none
  | .toBytes e x => match x.ev E with
    | .str b => if b.length ≤ 140737488355328 then some (.slice (some (s.next, 0)) b.length (.op 1), s.alloc (.row { cs := bytesVals b, opn := true, ro := false, frz := 0, clean := false, elem := some e })) else none
    | _ => none
  | .fromBytes x => match x.ev E with
    | .slice none n _ => if n = 0 then some (.str [], s) else none
    | .slice (some a) n _ => match s.loadN a n with
      | some l => (optBytes l).map fun b => (.str b, s)
      | none => none
    | _ => none
  | .mkIface t x => if (x.ev E).one || !(x.ev E).one then some (.iface t (x.ev E), s) else none
  | .mkFn f first captured => some (.fn f (evs E first) (evs E captured), s)
  | .mkMap => some (.map (some s.next), s.alloc (.map [] 0))
  | .mkSlice e zero bytes l c => match l.ev E, c.ev E with
    | .int .i64 l, .int .i64 c => if 0 ≤ l ∧ l ≤ c ∧ c * bytes ≤ 281474976710656 ∧ c ≤ 281474976710656 then
        some (.slice (some (s.next, 0)) l.toNat (.ex c.toNat), s.alloc (.row { cs := zeros zero c.toNat, opn := false, ro := false, frz := 0, elem := some e }))
      else none
    | _, _ => none
  | .sliceStr x lo hi => match x.ev E with
    | .str b => match boundO (hi.map (AOpd.ev E)) b.length b.length with
      | some h => match boundO (lo.map (AOpd.ev E)) h 0 with
        | some l => some (.str ((b.drop l).take (h - l)), s)
        | none => none
      | none => none
    | _ => none
  | .sliceSl size x lo hi mx => (sliceV s size (x.ev E) (lo.map (AOpd.ev E)) (hi.map (AOpd.ev E)) (mx.map (AOpd.ev E))).map fun v => (v, s)
  | .sliceArr len size x lo hi mx => match x.ev E with
    | .ptr (some a) => (sliceV s size (.slice (some a) len (.ex len)) (lo.map (AOpd.ev E)) (hi.map (AOpd.ev E)) (mx.map (AOpd.ev E))).map fun v => (v, s)
    | _ => none
  | .addOff n x => match x.ev E with
    | .ptr (some a) => some (.ptr (some (a.1, a.2 + n)), s)
    | _ => none
  | .fieldOf off n x => match x.ev E with
    | .agg cs => (partN n cs off).map fun v => (v, s)
    | _ => none
  | .idxSl size x i => match x.ev E, i.ev E with
    | .slice (some a) len _, .int _ i => if 0 ≤ i ∧ i < len then some (.ptr (some (a.1, a.2 + i.toNat * size)), s) else none
    | _, _ => none
  | .idxArr len size x i => match x.ev E, i.ev E with
    | .ptr (some a), .int _ i => if 0 ≤ i ∧ i < len then some (.ptr (some (a.1, a.2 + i.toNat * size)), s) else none
    | _, _ => none
  | .idxAgg len size n x i => match x.ev E, i.ev E with
    | .agg cs, .int _ i => if 0 ≤ i ∧ i < len then (partN n cs (i.toNat * size)).map fun v => (v, s) else none
    | _, _ => none
  | .idxStr x i => match x.ev E, i.ev E with
    | .str b, .int _ i => if 0 ≤ i then (b[i.toNat]?).map fun c => (.int .u8 c.toNat, s) else none
    | _, _ => none
  | .lookup kt zero ok x i => (lookupV s kt zero ok (x.ev E) (i.ev E)).map fun v => (v, s)
  | .mapSet kt m k x => (mapSetV s kt (m.ev E) (k.ev E) (x.ev E)).map fun s' => (.tup [], s')
  | .extract x i => match x.ev E with
    | .tup vs => (vs[i]?).map fun v => (v, s)
    | _ => none
  | .append e size bytes x y =>
    match srcCells s size (y.ev E) with
    | some (n, news) => appendV s e size bytes (x.ev E) n news
    | none => none
  | .copy size d x => copyV s size (d.ev E) (x.ev E)
  | .len k x => match k with
    | .str => match x.ev E with
      | .str b => some (.int .i64 b.length, s)
      | _ => none
    | .slice => match x.ev E with
      | .slice _ n _ => some (.int .i64 n, s)
      | _ => none
    | .arr n => some (.int .i64 n, s)
    | .map => match x.ev E with
      | .map none => some (.int .i64 0, s)
      | .map (some r) => match s.heap.get r with
        | some (.map es _) => some (.int .i64 es.length, s)
        | _ => none
      | _ => none
  | .cap x => match x.ev E with
    | .slice _ _ (.ex c) => some (.int .i64 c, s)
    | _ => none
  | .mm mx xs => match evs E xs with
    | v :: r => (minmax mx v r).map fun v => (v, s)
    | [] => none
  | .idxByte x c => match x.ev E, c.ev E with
    | .str b, .int .u8 c => some (.int .i64 (findByte b (UInt8.ofNat c.toNat) 0), s)
    | _, _ => none
  | .toUnsafe x => match x.ev E with
    | .ptr none => some (.ptr none, s)
    | .ptr (some a) => match s.row? a.1 with
      | some r => if a.2 < r.cs.length then some (.ptr (some a), s) else none
      | none => none
    | _ => none
  | .fromUnsafe u size x => match x.ev E with
    | .ptr none => some (.ptr none, s)
    | .ptr (some a) => match s.row? a.1 with
      | some r => if a.2 = 0 ∧ r.elem = some u ∧ size ≤ r.cs.length then some (.ptr (some a), s) else none
      | none => none
    | _ => none
  | .sliceData x => match x.ev E with
    | .slice none _ _ => some (.ptr none, s)
    | .slice (some a) n c => if 0 < n ∧ c ≠ .ex 0 then some (.ptr (some a), s) else none
    | _ => none
  | .unsafeStr u x n => unsafeStrV s u (x.ev E) (n.ev E)
  | .noZero e n => match n.ev E with
    | .int .i64 n => if 0 ≤ n ∧ n ≤ 140737488355328 then
        some (.slice (some (s.next, 0)) n.toNat (.op 1), s.alloc (.row { cs := List.replicate n.toNat .undef, opn := true, ro := false, frz := 0, elem := some e }))
      else none
    | _ => none
  | .rangeStr x => match x.ev E with
    | .str b => some (.ptr (some (s.next, 0)), s.alloc (.sIter b 0))
    | _ => none
  | .rangeMap x => rangeMapV s (x.ev E)
  | .nextStr x => nextStrV s (x.ev E)
  | .entry x => (entryV s (x.ev E)).map fun v => (v, s)
  | .clearSl zero x => match x.ev E with
    | .slice none _ _ => some (.tup [], s)
    | .slice (some a) n _ => if n = 0 then some (.tup [], s) else (s.storeN a (zeros zero n)).map fun s' => (.tup [], s')
    | _ => none
  | .appendMk e zero size bytes x y => match y.ev E with
    | .int .i64 n => if 0 ≤ n ∧ n ≤ 140737488355328 ∧ n * bytes ≤ 140737488355328 then appendV s e size bytes (x.ev E) n.toNat (zeros zero n.toNat) else none
    | _ => none
  | .cntByte x c => match x.ev E, c.ev E with
    | .str b, .int .u8 c => some (.int .i64 (cntB (UInt8.ofNat c.toNat) b), s)
    | _, _ => none
  | .cmpStr x y => match x.ev E, y.ev E with
    | .str a, .str b => some (.int .i64 (cmpB a b), s)
    | _, _ => none
  | .fail => none

inductive Ex where
  | normal
  | exit (id : Nat)
  | ret
  | panic (v : Val)

/-- how a call ends -/
inductive Res where
  | ret (v : Val)
  | pan (v : Val)

/-- what is called -/
inductive Tgt where
  | fn (f : FuncId)
  /-- a function that is deferred; what recover has for it -/
  | dfn (f : FuncId) (p : Val)
  | yld (l : Nat)

inductive ARes where
  | tmp (t : Nat)
  | cell (t : Nat) (n : Option Nat)
  deriving Repr

structure AFunc where
  nparams : Nat
  /-- a function whose first operation is a call of recover: the slot -/
  rcv : Option Nat := none
  /-- a function that is told by a contract -/
  nat : Option (List Val → St → Option (Val × St)) := none
  body : ACode
  res : List ARes

def natFunc (g : List Val → St → Option (Val × St)) : AFunc := { nparams := 0, nat := some g, body := .fail, res := [] }

universe u
class Ans (ρ : Sort u) where
  fail : ρ
  pick : Nat → (Nat → ρ) → ρ

instance : Ans Prop := ⟨False, fun n k => ∀ i, i < n → k i⟩
instance {α : Type} : Ans (Option α) := ⟨none, fun n k => if n = 1 then k 0 else none⟩

section
variable {ρ : Sort u} [Ans ρ]

def setO (E : Env) (d : Option Nat) (v : Val) : Env :=
  match d with
  | some d => E.set d v
  | none => E

inductive Want where
  | yes | no | unknown

def wanted (E : Env) : Option (Nat × Bool) → Want
  | none => .yes
  | some (j, b) => match E.get j with
    | .bool c => if c == b then .yes else .no
    | .tup [] => .no
    | _ => .unknown

variable (call : Tgt → List Val → (Res → St → ρ) → St → ρ)

/-- the light reads that could run behind this operation give the same value there -/
def chkOk (E : Env) (s : St) : Chk → Bool
  | [] => true
  | (d, g, o) :: r => (match wanted E g with
    | .no => true
    | .yes => match evOp o E s with
      | some (v, _) => match d with
        | some d => vbeq (E.get d) v
        | none => true
      | none => false
    | .unknown => false) && chkOk E s r

/-- go on, if the light reads are as they were -/
def goOn (chk : Chk) (E : Env) (s : St) (K : Env → St → ρ) : ρ :=
  match chk with
  | [] => K E s
  | _ => if chkOk E s chk = true then K E s else Ans.fail

def upon (X : Val → St → ρ) (Ky : Val → St → ρ) : Res → St → ρ
  | .ret v, s => Ky v s
  | .pan v, s => X v s

/-- one operation: made, or passed over. X: where it panics -/
def denOne (x : AOper) (E : Env) (X : Val → St → ρ) (Ky : Val → St → ρ) (Kn : ρ) (s : St) : ρ :=
  match x with
  | .op _ g o _ => match wanted E g with
    | .yes => match evOp o E s with
      | some (v, s') => Ky v s'
      | none => Ans.fail
    | .no => Kn
    | .unknown => Ans.fail
  | .call _ g f args _ => match wanted E g with
    | .yes => call (.fn f) (evs E args) (upon X Ky) s
    | .no => Kn
    | .unknown => Ans.fail
  | .callv _ g f args _ => match wanted E g with
    | .yes => match f.ev E with
      | .fn f first captured => call (.fn f) (first ++ evs E args ++ captured) (upon X Ky) s
      | .yld l => call (.yld l) (evs E args) (upon X Ky) s
      | _ => Ans.fail
    | .no => Kn
    | .unknown => Ans.fail
  | .pan _ g x => match wanted E g with
    | .yes => match x.ev E with
      | .iface t v => X (.iface t v) s
      | _ => Ans.fail
    | .no => Kn
    | .unknown => Ans.fail
  | .dfr .. | .nextMap .. => Ans.fail

def AOper.dst : AOper → Option Nat
  | .op d _ _ _ | .call d _ _ _ _ | .callv d _ _ _ _ | .pan d _ _ | .dfr d _ _ _ | .nextMap d _ _ => d
def AOper.guard : AOper → Option (Nat × Bool)
  | .op _ g _ _ | .call _ g _ _ _ | .callv _ g _ _ _ | .pan _ g _ | .dfr _ g _ _ | .nextMap _ g _ => g
def AOper.chk : AOper → Chk
  | .op _ _ _ c | .call _ _ _ _ c | .callv _ _ _ _ c => c
  | _ => []

/-- the entry that a range over a map hands on next: which can be -/
def mapCands (es : List MEnt) (since : Nat) (seen : List Nat) : List (Option MEnt) :=
  let left := es.filter fun e => !seen.contains e.born
  let old := left.filter fun e => e.born < since
  let new := left.filter fun e => since ≤ e.born
  (if old.isEmpty then [none] else []) ++ (old ++ new).map some

def denNext (E : Env) (it : AOpd) (K : Val → St → ρ) (s : St) : ρ :=
  match it.ev E with
  | .ptr (some (r, 0)) => match s.heap.get r with
    | some (.mIter none _ _ _) => K (.tup [.bool false]) s
    | some (.mIter (some m) since seen last) => match s.heap.get m with
      | some (.map es clock) =>
        if !seen.isEmpty && !es.isEmpty && es.all (fun e => last ≤ e.born) then Ans.fail
        else if s.floor ≤ r then
          Ans.pick (mapCands es since seen).length fun i => match (mapCands es since seen)[i]? with
            | some (some e) => K (.tup [.bool true, e.key, e.val]) (s.put r (.mIter (some m) since (seen ++ [e.born]) clock))
            | some none => K (.tup [.bool false]) s
            | none => Ans.fail
        else Ans.fail
      | _ => Ans.fail
    | _ => Ans.fail
  | _ => Ans.fail

def denOps : List AOper → Env → (Val → Env → St → ρ) → (Env → St → ρ) → St → ρ
  | [], E, _, K, s => K E s
  | .dfr d g f args :: r, E, X, K, s => match wanted E g with
    | .yes => match f.ev E with
      | .fn f first captured => denOps r { setO E d (.tup []) with ds := .fn f (first ++ evs E args ++ captured) :: E.ds } X K s
      | _ => Ans.fail
    | .no => denOps r (setO E d (.tup [])) X K s
    | .unknown => Ans.fail
  | .nextMap d g it :: r, E, X, K, s => match wanted E g with
    | .yes => denNext E it (fun v s => denOps r (setO E d v) X K s) s
    | .no => denOps r (setO E d (.tup [])) X K s
    | .unknown => Ans.fail
  | x :: r, E, X, K, s => denOne call x E (fun v s => X v E s) (fun v s' => goOn x.chk (setO E x.dst v) s' fun E s => denOps r E X K s) (denOps r (setO E x.dst (.tup [])) X K s) s

def loopN (B : Env → (Ex → Env → St → ρ) → St → ρ) : Nat → Env → (Ex → Env → St → ρ) → St → ρ
  | 0, _, _, _ => Ans.fail
  | n + 1, E, Q, s => B E (fun e E' s' => match e with
    | .normal => loopN B n E' Q s'
    | e => Q e E' s') s

def dropL (E : Env) : List Nat → Env
  | [] => E
  | i :: r => dropL (E.set i .undef) r

/-- behind a range over a function: the jump that a round has left -/
def afterLoop (Q : Ex → Env → St → ρ) (E : Env) (l : Nat) (s : St) : ρ :=
  match s.heap.get l with
  | some (.loop st pend E0 ps as body d) =>
    if st = .busy ∨ l < s.floor then Ans.fail else
    match pend with
    | none => Q .normal E (s.put l (.loop .exhausted none E0 ps as body d))
    | some .ret => Q .ret E (s.put l (.loop .exhausted pend E0 ps as body d))
    | some (.exit i) => Q (.exit i) E (s.put l (.loop .exhausted pend E0 ps as body d))
  | _ => Ans.fail

def den (iters : Nat) : ACode → Env → (Ex → Env → St → ρ) → St → ρ
  | .skip, E, Q, s => Q .normal E s
  | .ops mask l, E, Q, s => denOps call l E (fun v E s => Q (.panic v) (dropL E mask) s) (fun E s => Q .normal E s) s
  | .seq a b, E, Q, s => den iters a E (fun e E' s' => match e with
    | .normal => den iters b E' Q s'
    | e => Q e E' s') s
  | .cond c a b, E, Q, s => match c.ev E with
    | .bool true => den iters a E Q s
    | .bool false => den iters b E Q s
    | _ => Ans.fail
  | .block id a, E, Q, s => den iters a E (fun e E' s' => match e with
    | .exit i => if i = id then Q .normal E' s' else Q (.exit i) E' s'
    | e => Q e E' s') s
  | .loop a, E, Q, s => loopN (fun E Q s => den iters a E Q s) iters E Q s
  | .exit id, E, Q, s => Q (.exit id) E s
  | .ret, E, Q, s => Q .ret E s
  | .rangeFunc g ps as body, E, Q, s => match g.ev E with
    | .fn f first captured =>
      call (.fn f) (first ++ [.yld (s.next + 1)] ++ captured) (fun r s' => match r with
        | .ret _ => afterLoop Q { E with ds := .coll s.next :: E.ds } (s.next + 1) s'
        | .pan v => Q (.panic v) { E with ds := .coll s.next :: E.ds } s')
        ((s.alloc (.dfr false)).alloc (.loop .ready none E.m ps as body s.next))
    | _ => Ans.fail
  | .drop l, E, Q, s => Q .normal (dropL E l) s
  | .fail, _, _, _ => Ans.fail

def envOf : List Val → Nat → PM Val
  | [], _ => .leaf
  | v :: r, i => PM.set (envOf r (i + 1)) i v

def setL (m : PM Val) : List Nat → List Val → PM Val
  | i :: r, v :: t => setL (m.set i v) r t
  | _, _ => m

def resVals (E : Env) (s : St) : List ARes → Option (List Val)
  | [] => some []
  | .tmp t :: r => (resVals E s r).map (E.get t :: ·)
  | .cell t n :: r => match E.get t with
    | .ptr (some a) => match s.loadK n a with
      | some v => (resVals E s r).map (v :: ·)
      | none => none
    | _ => none

def resVal : List Val → Val
  | [v] => v
  | vs => .tup vs

/-- an activation ends: its deferred calls, last first; p: the panic that passes -/
def leave (res : List ARes) (E : Env) (K : Res → St → ρ) : List ADef → Option Val → St → ρ
  | [], some v, s => K (.pan v) s
  | [], none, s => match resVals E s res with
    | some vs => K (.ret (resVal vs)) s
    | none => Ans.fail
  | .coll d :: r, p, s => match s.heap.get d with
    | some (.dfr false) => if s.floor ≤ d then leave res E K r p (s.put d (.dfr true)) else Ans.fail
    | _ => Ans.fail
  | .fn f args :: r, p, s => call (.dfn f (p.getD .nilIface)) args (fun e s' => match e with
    /- what a deferred call gives: whether it has called recover -/
    | .ret (.bool rec) => leave res E K r (if rec then none else p) s'
    | _ => Ans.fail) s

/-- the end of a round -/
def endRound (K : Res → St → ρ) (l : Nat) (e : Ex) (s : St) : ρ :=
  match e with
  | .panic _ => Ans.fail
  | _ => match s.heap.get l with
    | some (.loop _ _ E0 ps as body d) =>
      if s.floor ≤ l then
        match e with
        | .exit i => K (.ret (.bool false)) (s.put l (.loop .done (some (.exit i)) E0 ps as body d))
        | .ret => K (.ret (.bool false)) (s.put l (.loop .done (some .ret) E0 ps as body d))
        | _ => K (.ret (.bool true)) (s.put l (.loop .ready none E0 ps as body d))
      else Ans.fail
    | _ => Ans.fail

def beginRound (K : St → ρ) (l : Nat) (s : St) : ρ :=
  match s.heap.get l with
  | some (.loop .ready pend E0 ps as body d) => if s.floor ≤ l then K (s.put l (.loop .busy pend E0 ps as body d)) else Ans.fail
  | _ => Ans.fail

def callN (fns : FuncId → Option AFunc) : Nat → Tgt → List Val → (Res → St → ρ) → St → ρ
  | 0, _, _, _, _ => Ans.fail
  | n + 1, .fn f, args, K, s => match fns f with
    | some fn => match fn.nat with
      | some g => match g args s with
        | some (v, s') => K (.ret v) s'
        | none => Ans.fail
      | none =>
      if args.length = fn.nparams ∧ fn.rcv = none then
        den (callN fns n) n fn.body { m := envOf args 0 } (fun e E s' => match e with
          | .exit _ => Ans.fail
          | .panic (.iface t v) => leave (callN fns n) fn.res E K E.ds (some (.iface t v)) s'
          | .panic _ => Ans.fail
          | _ => leave (callN fns n) fn.res E K E.ds none s') s
      else Ans.fail
    | none => Ans.fail
  | n + 1, .dfn f p, args, K, s => match fns f with
    | some fn =>
      if args.length = fn.nparams then
        den (callN fns n) n fn.body (match fn.rcv with
          | some d => { m := (envOf args 0).set d p }
          | none => { m := envOf args 0 }) (fun e E s' => match e with
          | .exit _ | .panic _ => Ans.fail
          | _ => match E.ds, resVals E s' fn.res with
            | [], some _ => K (.ret (.bool fn.rcv.isSome)) s'
            | _, _ => Ans.fail) s
      else Ans.fail
    | none => Ans.fail
  | n + 1, .yld l, args, K, s => match s.heap.get l with
    | some (.loop _ _ E0 ps as body _) =>
      if args.length = ps.length then
        den (callN fns n) n as { m := setL E0 ps args } (fun e E s' => match e with
          | .normal => beginRound (fun s => den (callN fns n) n body E (fun e _ s' => endRound K l e s') s) l s'
          | _ => Ans.fail) s
      else Ans.fail
    | _ => Ans.fail
end
end Am
