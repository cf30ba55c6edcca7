/- From the model's code to the abstract machine's. -/
import Derived.Test.YtbmfehgkbgdajaaGreatDoorAmCore
import GoSem.Core.Region
import GoSem.Core.Layout
import GoSem.Core.View
import GoSem.Op.Equal
set_option linter.all false
namespace Am
open Go (IntKind BinOp UnOp FuncId TypeId Program Operand Oper Op Code Func Value Region.Mode)

def listM {α β : Type} (f : α → Option β) : List α → Option (List β)
  | [] => some []
  | a :: r => match f a with
    | some b => match listM f r with
      | some l => some (b :: l)
      | none => none
    | none => none

def valOf : Nat → Value → Option Val
  | 0, _ => none
  | _ + 1, .bool b => some (.bool b)
  | _ + 1, .int k n => some (.int k n)
  | _ + 1, .string s => some (.str s.data.toList)
  | _ + 1, .pointer none => some (.ptr none)
  | _ + 1, .slice none 0 0 => some (.slice none 0 (.ex 0))
  | _ + 1, .map none => some (.map none)
  | _ + 1, .nilFunc => some .nilFn
  | _ + 1, .nilIface => some .nilIface
  | n + 1, .agg cs => (listM (valOf n) cs.toList).map .agg
  | _, _ => none

def opdOf (P : Program) : Operand → Option AOpd
  | .tmp t => some (.t t)
  | .const v => (valOf 4 v).map .c
  | .global g => if g < P.globals.size then some (.c (.ptr (some (g, 0)))) else none
  | .func f => some (.c (.fn f [] []))

def opdO (P : Program) : Option Operand → Option (Option AOpd)
  | none => some none
  | some x => (opdOf P x).map some

def zeroOf (P : Program) (t : TypeId) : Option (List Val) :=
  match P.info? t with
  | some i => match i.zero with
    | some z => match valOf 4 z with
      | some v => if v.cells.length = i.size ∧ v.cells.all Val.one = true then some v.cells else none
      | none => none
    | none => none
  | none => none

def zeroV (P : Program) (t : TypeId) : Option Val :=
  match P.info? t with
  | some i => match i.zero with
    | some z => valOf 4 z
    | none => none
  | none => none

def sizeOf (P : Program) (t : TypeId) : Option Nat := (P.info? t).map (·.size)
def bytesOf (P : Program) (t : TypeId) : Option Nat := (P.info? t).map (·.bytes)
def isAgg (P : Program) (t : TypeId) : Option Bool :=
  match P.underlying t with
  | some (.struct _) | some (.array _ _) => some true
  | some _ => some false
  | none => none
/-- how many cells a variable of the type is loaded as: none, if one and no aggregate -/
def loadK (P : Program) (t : TypeId) : Option (Option Nat) :=
  match isAgg P t with
  | some true => (sizeOf P t).map some
  | some false => some none
  | none => none

/-- the cells that a comparison of two values of the type compares: their places in the value -/
def leaves (P : Program) : Nat → TypeId → Option (List (Nat × LK))
  | 0, _ => none
  | d + 1, t => match P.underlying t, sizeOf P t with
    | some .bool, some 1 => some [(0, .bool)]
    | some (.int _), some 1 => some [(0, .int)]
    | some .string, some 1 => some [(0, .str)]
    | some (.pointer e), some 1 => match sizeOf P e with
      | some (_ + 1) => some [(0, .ptr)]
      | _ => none
    | some (.struct fs), some n =>
      if P.stoodInHeld t then none else
      (listM (fun (f : Go.Field) => if f.name = "_" then none else match leaves P d f.type, sizeOf P f.type with
        | some l, some k => if f.offset + k ≤ n ∧ l.all (fun p => decide (p.1 < k)) = true then some (l.map fun p => (f.offset + p.1, p.2)) else none
        | _, _ => none) fs.toList).map List.flatten
    | some (.array m e), some n => match leaves P d e, sizeOf P e with
      | some l, some k => if m * k ≤ n ∧ l.all (fun p => decide (p.1 < k)) = true then some ((List.range m).flatMap fun i => l.map fun p => (i * k + p.1, p.2)) else none
      | _, _ => none
    | _, _ => none

def isConstNil : Operand → Bool
  | .const _ => true
  | _ => false

/-- how two values of a type are compared -/
def keyKind (P : Program) (t : TypeId) : Option EqK :=
  match P.underlying t with
  | some .bool => some (.leaf .bool)
  | some (.int _) => some (.leaf .int)
  | some .string => some (.leaf .str)
  | some (.struct _) | some (.array _ _) => match sizeOf P t, leaves P 5 t with
    | some n, some l => if 5 ≤ P.depth ∧ P.eqGuardType P.depth t = false then some (.cells n l) else none
    | _, _ => none
  | _ => none

def eqKind (P : Program) (t : TypeId) (x y : Operand) : Option EqK :=
  match P.underlying t with
  | some (.pointer e) => match sizeOf P e with
    | some (_ + 1) => some (.leaf .ptr)
    | _ => none
  | some (.slice _) => some (.nilc .slice)
  | some (.map _ _) => some (.nilc .map)
  | some (.func _ _ _) => some (.nilc .func)
  | some (.interface _) => if (isConstNil x || isConstNil y) = true then some (.nilc .iface) else none
  | _ => keyKind P t

def partsOf (P : Program) (places : Nat → Option (Nat × Nat)) (ps : List (Nat × Operand)) : Option (List (Nat × Nat × AOpd)) :=
  listM (fun p => match places p.1, opdOf P p.2 with
    | some (o, s), some x => some (o, s, x)
    | _, _ => none) ps

def isU8T (P : Program) (e : TypeId) : Bool :=
  match P.underlying e with
  | some (.int .u8) => true
  | _ => false

def notInt : Option Go.TypeDesc → Bool
  | some (.int _) => false
  | some _ => true
  | none => false

def under0 (P : Program) (ts : Array TypeId) : Option Go.TypeDesc := (ts[0]?).bind P.underlying
def under1 (P : Program) (ts : Array TypeId) : Option Go.TypeDesc := (ts[1]?).bind P.underlying

def compAppend (P : Program) (ts : Array TypeId) (s x : AOpd) : Option AOp :=
  match under0 P ts with
  | some (.slice e) => match zeroOf P e, sizeOf P e, bytesOf P e with
    | some _, some n, some b => if 0 < n ∧ notInt (under1 P ts) = true then some (.append e n b s x) else none
    | _, _, _ => none
  | _ => none

def compAppendMk (P : Program) (ts : Array TypeId) (s x : AOpd) : Option AOp :=
  match under0 P ts with
  | some (.slice e) => match zeroOf P e, sizeOf P e, bytesOf P e, under1 P ts with
    | some z, some n, some b, some (.int .i64) => if 0 < n then some (.appendMk e z n b s x) else none
    | _, _, _, _ => none
  | _ => none

def compClear (P : Program) (ts : Array TypeId) (x : AOpd) : Option AOp :=
  match under0 P ts with
  | some (.slice e) => (zeroOf P e).map fun z => .clearSl z x
  | _ => none

def compCopy (P : Program) (ts : Array TypeId) (d x : AOpd) : Option AOp :=
  match under0 P ts with
  | some (.slice e) => (sizeOf P e).map fun n => .copy n d x
  | _ => none

def compLen (P : Program) (ts : Array TypeId) (x : AOpd) : Option AOp :=
  match under0 P ts with
  | some .string => some (.len .str x)
  | some (.slice _) => some (.len .slice x)
  | some (.array n _) => some (.len (.arr n) x)
  | some (.map _ _) => some (.len .map x)
  | _ => none

def compCap (P : Program) (ts : Array TypeId) (x : AOpd) : Option AOp :=
  match under0 P ts with
  | some (.slice _) => some (.cap x)
  | _ => none

def compUnsafeStr (P : Program) (ts : Array TypeId) (x n : AOpd) : Option AOp :=
  match under0 P ts with
  | some (.pointer u) => match P.underlying u, sizeOf P u with
    | some (.int .u8), some 1 => some (.unsafeStr u x n)
    | _, _ => none
  | _ => none

def compBuiltin (P : Program) (b : Go.Builtin) (ts : Array TypeId) (l : List AOpd) : Option AOp :=
  match b, l with
  | .append, [s, x] => match compAppend P ts s x with
    | some o => some o
    | none => compAppendMk P ts s x
  | .clear, [x] => compClear P ts x
  | .copy, [d, x] => compCopy P ts d x
  | .len, [x] => compLen P ts x
  | .cap, [x] => compCap P ts x
  | .unsafeSliceData, [x] => some (.sliceData x)
  | .unsafeString, [x, n] => compUnsafeStr P ts x n
  | .min, xs => some (.mm false xs)
  | .max, xs => some (.mm true xs)
  | _, _ => none

def compMapSet (P : Program) (t : TypeId) (m k x : Operand) : Option AOp :=
  match P.underlying t with
  | some (.map kt _) => match keyKind P kt, opdOf P m, opdOf P k, opdOf P x with
    | some kt, some m, some k, some x => some (.mapSet kt m k x)
    | _, _, _, _ => none
  | _ => none

def fieldPlaces (P : Program) (fs : Array Go.Field) (i : Nat) : Option (Nat × Nat) :=
  match fs[i]? with
  | some f => (sizeOf P f.type).map fun s => (f.offset, s)
  | none => none

def compOp (P : Program) (o : Oper) : Option AOp :=
  match o.op with
  | .move x | .assign x => (opdOf P x).map .move
  | .pick c a b => match opdOf P c, opdOf P a, opdOf P b with
    | some c, some a, some b => some (.pick c a b)
    | _, _, _ => none
  | .alloc e => (zeroOf P e).map (.newRow e)
  | .box e x => (opdOf P x).map (.box e)
  | .build t ps => match zeroOf P t, P.underlying t with
    | some z, some (.struct fs) => if fs.toList.all (fun f => (sizeOf P f.type).isSome) = true then (partsOf P (fieldPlaces P fs) ps.toList).map (.build z) else none
    | some z, some (.array _ e) => match sizeOf P e with
      | some s => (partsOf P (fun i => some (i * s, s)) ps.toList).map (.build z)
      | none => none
    | _, _ => none
  | .buildSlice t len ps => match P.underlying t with
    | some (.slice e) => match zeroOf P e, sizeOf P e with
      | some z, some s => if len * s ≤ 16777216 then (partsOf P (fun i => some (i * s, s)) ps.toList).map (.buildSlice e (zeros z len) len) else none
      | _, _ => none
    | _ => none
  | .load t a => match loadK P t, opdOf P a with
    | some n, some a => some (.load n a)
    | _, _ => none
  | .store t a x => match sizeOf P t, opdOf P a, opdOf P x with
    | some n, some a, some x => some (.store n a x)
    | _, _, _ => none
  | .nilCheck x => (opdOf P x).map .nilCheck
  | .binOp b t x y _ => match opdOf P x, opdOf P y with
    | some x', some y' =>
      match b with
      | .eql | .neq => match eqKind P t x y with
        | some k => some (.eq k (b == .neq) x' y')
        | none => none
      | _ => match P.underlying t with
        | some (.int _) | some .string | some .bool => some (.bin b x' y')
        | _ => none
    | _, _ => none
  | .unOp u _ x => match u, opdOf P x with
    | .plus, _ => none
    | u, some x => some (.un u x)
    | _, _ => none
  | .convert s d x => match P.underlying s, P.underlying d, opdOf P x with
    | some (.int _), some (.int k), some x => some (.toInt k x)
    | some (.int _), some .string, some x => some (.runeStr x)
    | some .string, some .string, some x => some (.sameStr x)
    | some .string, some (.slice e), some x => if isU8T P e = true then some (.toBytes e x) else none
    | some (.slice e), some .string, some x => if isU8T P e = true then some (.fromBytes x) else none
    | some (.pointer e), some .unsafePointer, some x => match sizeOf P e with
      | some 0 | none => none
      | _ => some (.toUnsafe x)
    | some .unsafePointer, some (.pointer u), some x => match sizeOf P u with
      | some 0 | none => none
      | some n => some (.fromUnsafe u n x)
    | _, _, _ => none
  | .makeInterface t x => match P.underlying t, opdOf P x with
    | some (.interface _), _ => none
    | some _, some x => some (.mkIface t x)
    | _, _ => none
  | .makeFunc (.func f) first cap => match listM (opdOf P) first.toList, listM (opdOf P) cap.toList with
    | some p, some q => some (.mkFn f p q)
    | _, _ => none
  | .makeMap _ none => some .mkMap
  | .makeSlice t l c => match P.underlying t with
    | some (.slice e) => match zeroOf P e, bytesOf P e, opdOf P l, opdOf P c with
      | some z, some b, some l, some c => some (.mkSlice e z b l c)
      | _, _, _, _ => none
    | _ => none
  | .slice t x lo hi mx => match P.underlying t, opdOf P x, opdO P lo, opdO P hi, opdO P mx with
    | some .string, some x, some lo, some hi, some none => some (.sliceStr x lo hi)
    | some (.slice e), some x, some lo, some hi, some mx => match sizeOf P e with
      | some s => some (.sliceSl s x lo hi mx)
      | none => none
    | some (.array n e), some x, some lo, some hi, some mx => match sizeOf P e with
      | some s => some (.sliceArr n s x lo hi mx)
      | none => none
    | _, _, _, _, _ => none
  | .fieldAddr t x i => match P.underlying t, opdOf P x with
    | some (.struct fs), some x => match fs[i]? with
      | some f => match sizeOf P f.type with
        | some 0 => none
        | some _ => some (.addOff f.offset x)
        | none => none
      | none => none
    | _, _ => none
  | .field t x i => match P.underlying t, opdOf P x with
    | some (.struct fs), some x => match fs[i]? with
      | some f => (loadK P f.type).map fun n => .fieldOf f.offset n x
      | none => none
    | _, _ => none
  | .indexAddr t x i => match P.underlying t, opdOf P x, opdOf P i with
    | some (.slice e), some x, some i => (sizeOf P e).map fun s => .idxSl s x i
    | some (.array n e), some x, some i => (sizeOf P e).map fun s => .idxArr n s x i
    | _, _, _ => none
  | .index t x i => match P.underlying t, opdOf P x, opdOf P i with
    | some .string, some x, some i => some (.idxStr x i)
    | some (.array n e), some x, some i => match sizeOf P e, loadK P e with
      | some s, some k => some (.idxAgg n s k x i)
      | _, _ => none
    | _, _, _ => none
  | .lookup t x i ok => match P.underlying t with
    | some (.map k e) => match keyKind P k, zeroV P e, opdOf P x, opdOf P i with
      | some kt, some z, some x, some i => some (.lookup kt z ok x i)
      | _, _, _, _ => none
    | _ => none
  | .mapUpdate t m k x => compMapSet P t m k x
  | .insert t m k x => compMapSet P t m k x
  | .extract x i => (opdOf P x).map fun x => .extract x i
  | .range t x => match P.underlying t, opdOf P x with
    | some .string, some x => some (.rangeStr x)
    | some (.map _ _), some x => some (.rangeMap x)
    | _, _ => none
  | .next x true => (opdOf P x).map .nextStr
  | .entry x => (opdOf P x).map .entry
  | .panic _ => some .fail
  | .call { callee := .builtin b, args, argTypes } => match listM (opdOf P) args.toList with
    | some l => compBuiltin P b argTypes l
    | none => none
  | _ => none

/-- a function that the abstract machine enters -/
def hasBody (P : Program) (f : FuncId) : Bool :=
  match P.funcs[f]? with
  | some fn => fn.body.isSome && fn.name != "runtime.NumGoroutine"
  | none => false

/-- a function without a body that the abstract machine knows -/
def compExtern (P : Program) (f : FuncId) (l : List AOpd) : Option AOp :=
  match P.funcs[f]? with
  | some fn =>
    if fn.body.isNone = true ∧ fn.origin = "" then
      if fn.name = "internal/bytealg.IndexByteString" then match l with
        | [x, c] => some (.idxByte x c)
        | _ => none
      else if fn.name = "internal/abi.NoEscape" then match l with
        | [x] => some (.move x)
        | _ => none
      else if fn.name = "internal/bytealg.MakeNoZero" then match l, under0 P fn.resultTypes with
        | [n], some (.slice e) => match sizeOf P e with
          | some 1 => some (.noZero e n)
          | _ => none
        | _, _ => none
      else if fn.name = "internal/bytealg.CountString" then match l with
        | [x, c] => some (.cntByte x c)
        | _ => none
      else if fn.name = "internal/bytealg.abigen_runtime_cmpstring" then match l with
        | [x, y] => some (.cmpStr x y)
        | _ => none
      else none
    else none
  | none => none

inductive Kind where
  | pure | read | alloc | heavy
  deriving DecidableEq, Repr

def AOp.kind : AOp → Kind
  | .load .. | .fromBytes _ | .lookup .. | .len .map _ | .sliceSl .. | .eq .. | .toUnsafe .. | .fromUnsafe .. | .entry _ => .read
  | .newRow .. | .buildSlice .. | .mkSlice .. => .alloc
  | .box .. | .toBytes .. | .mkMap | .noZero .. | .rangeStr _ | .rangeMap _ | .nextStr _ | .clearSl .. | .appendMk .. => .heavy
  | .store .. | .mapSet .. | .append .. | .copy .. | .unsafeStr .. | .fail => .heavy
  | _ => .pure

def AOper.kind : AOper → Kind
  | .op _ _ o _ => o.kind
  | _ => .heavy
def AOper.light (x : AOper) : Bool := x.kind != .heavy

/-- a new block, and what is known of where it lies -/
def allocOf (o : AOp) (E : Env) : Option ((Nat → Val) × Blk) :=
  match o with
  | .newRow e zero => some (fun n => .ptr (some (n, 0)), .row { cs := zero, opn := false, ro := false, frz := 0, elem := some e })
  | .buildSlice e cells len parts =>
    match fillL cells (parts.map fun p => (p.1, p.2.1, p.2.2.ev E)) with
    | some cs => if allOne cs then some (fun n => .slice (some (n, 0)) len (.ex len), .row { cs := cs, opn := false, ro := false, frz := 0, elem := some e }) else none
    | none => none
  | .mkSlice e zero bytes l c => match l.ev E, c.ev E with
    | .int .i64 l, .int .i64 c => if 0 ≤ l ∧ l ≤ c ∧ c * bytes ≤ 281474976710656 ∧ c ≤ 281474976710656 then
        some (fun n => .slice (some (n, 0)) l.toNat (.ex c.toNat), .row { cs := zeros zero c.toNat, opn := false, ro := false, frz := 0, elem := some e })
      else none
    | _, _ => none
  | _ => none

/-- the operands of an operation -/
def AOp.opds : AOp → List AOpd
  | .move x | .box _ x | .load _ x | .nilCheck x | .un _ x | .toInt _ x | .sameStr x | .toBytes _ x | .runeStr x | .fromBytes x | .mkIface _ x
  | .addOff _ x | .fieldOf _ _ x | .extract x _ | .len _ x | .cap x | .toUnsafe x | .fromUnsafe _ _ x | .sliceData x | .noZero _ x | .rangeStr x | .rangeMap x | .nextStr x | .entry x | .clearSl _ x => [x]
  | .store _ x y | .bin _ x y | .eq _ _ x y | .mkSlice _ _ _ x y | .idxSl _ x y | .idxArr _ _ x y | .idxAgg _ _ _ x y | .idxStr x y | .lookup _ _ _ x y
  | .append _ _ _ x y | .copy _ x y | .idxByte x y | .unsafeStr _ x y | .appendMk _ _ _ _ x y | .cntByte x y | .cmpStr x y => [x, y]
  | .pick x y z | .mapSet _ x y z => [x, y, z]
  | .newRow .. | .mkMap | .fail => []
  | .build _ ps | .buildSlice _ _ _ ps => ps.map fun p => p.2.2
  | .mkFn _ f c => f ++ c
  | .sliceStr x lo hi => x :: (lo.toList ++ hi.toList)
  | .sliceSl _ x lo hi mx | .sliceArr _ _ x lo hi mx => x :: (lo.toList ++ hi.toList ++ mx.toList)
  | .mm _ xs => xs

def AOper.opds : AOper → List AOpd
  | .op _ _ o _ => o.opds
  | .call _ _ _ args _ => args
  | .callv _ _ f args _ | .dfr _ _ f args => f :: args
  | .pan _ _ x | .nextMap _ _ x => [x]

def AOpd.slot : AOpd → Option Nat
  | .t i => some i
  | .c _ => none

def AOper.slots (x : AOper) : List Nat :=
  match x.guard with
  | some (j, _) => j :: x.opds.filterMap AOpd.slot
  | none => x.opds.filterMap AOpd.slot

/-- the guard's slot; its operation has been made before -/
def guardOf (ops : Array Oper) : Option (Nat × Bool) → Option (Option (Nat × Bool))
  | none => some none
  | some (j, b) => match ops[j]? with
    | some o => match o.dst with
      | some d => some (some (d, b))
      | none => none
    | none => none

def compOper0 (P : Program) (ops : Array Oper) (rnd : Bool) (o : Oper) : Option AOper :=
  match guardOf ops o.guard with
  | none => none
  | some g =>
    match o.op with
    | .call { callee := .value (.func f), args, .. } =>
      if hasBody P f then (listM (opdOf P) args.toList).map fun a => .call o.dst g f a []
      else match listM (opdOf P) args.toList with
        | some l => (compExtern P f l).map fun a => .op o.dst g a []
        | none => none
    | .call { callee := .value x, args, .. } => match opdOf P x, listM (opdOf P) args.toList with
      | some x, some a => some (.callv o.dst g x a [])
      | _, _ => none
    | .panic x => (opdOf P x).map fun x => .pan o.dst g x
    | .defer { callee := .value x, args, .. } =>
      if rnd then none else match opdOf P x, listM (opdOf P) args.toList with
      | some x, some a => some (.dfr o.dst g x a)
      | _, _ => none
    | .next it false => (opdOf P it).map fun x => .nextMap o.dst g x
    | _ => (compOp P o).map fun a => .op o.dst g a []

/-- what is not known is never done -/
def compOper (P : Program) (ops : Array Oper) (rnd : Bool) (o : Oper) : AOper :=
  match compOper0 P ops rnd o with
  | some x => x
  | none => .op o.dst none .fail []

/-- an operation that a region may make that draws its order -/
def AOper.calm : AOper → Bool
  | .dfr .. | .nextMap .. => false
  | _ => true

/-! ### Regions that draw their order -/

/-- an operation of a region: where it stands, what it is -/
structure It where
  i : Nat
  o : Oper
  x : AOper

/-- an operation that may be made before its place in the model's order -/
def It.light (c : It) : Bool :=
  match c.o.op with
  | .assign _ => false
  | _ => c.x.light

def bindsAny (e : Go.Edge) : Bool := Go.Region.binds .any e

def maskOf (o : Oper) (acc : List Nat) : Nat := o.after.toList.foldl (fun s e => if bindsAny e then s ||| 2 ^ e.on ||| acc.getD e.on 0 else s) 0
/-- which operations must have been made before each -/
def masks : List Oper → List Nat → List Nat
  | [], acc => acc
  | o :: r, acc => masks r (acc ++ [maskOf o acc])

def bit (mask : List Nat) (j i : Nat) : Bool := (mask.getD j 0).testBit i

def dstIn (x y : AOper) : Bool :=
  match x.dst with
  | some d => y.slots.contains d
  | none => false
def dstSame (x y : AOper) : Bool :=
  match x.dst with
  | some d => y.dst == some d
  | none => false

/-- a is made before b in the order that the abstract machine takes -/
def pairOk (mask : List Nat) (a b : It) : Bool :=
  a.i != b.i && (!dstIn b.x a.x || (!b.light && bit mask b.i a.i)) && !dstSame a.x b.x && (!dstIn a.x b.x || bit mask b.i a.i) && (a.light || b.light || bit mask b.i a.i)

def stepOk (mask : List Nat) (done : List It) (b : It) (r : List It) : Bool :=
  (!b.light || !dstIn b.x b.x) &&
  done.all (fun a => pairOk mask a b) &&
  b.o.after.toList.all (fun e => !bindsAny e || done.any fun a => a.i == e.on) &&
  (b.light || r.all fun c => !c.light || c.o.after.toList.any fun e => bindsAny e && done.all fun a => a.i != e.on)

/-- the light reads that could be made behind b -/
def chks (mask : List Nat) (done : List It) (b : It) : Chk :=
  if b.light && b.x.kind != .alloc then [] else
  done.filterMap fun a => match a.x with
    | .op d g o _ => if a.light && o.kind == .read && (b.light || !bit mask b.i a.i) then some (d, g, o) else none
    | _ => none

def withChk (a : AOper) (c : Chk) : AOper :=
  match a with
  | .op d g o _ => .op d g o c
  | .call d g f x _ => .call d g f x c
  | .callv d g f x _ => .callv d g f x c
  | x => x

def order (mask : List Nat) : List It → List It → Option (List AOper)
  | [], _ => some []
  | b :: r, done => if stepOk mask done b r = true then (order mask r (b :: done)).map fun xs => withChk b.x (chks mask done b) :: xs else none

/-- those that can be made now, light ones first; it is only looked for, and `order` looks at it again -/
def refOrder (n : Nat) : Nat → List It → List It → List It
  | 0, acc, _ => acc.reverse
  | fuel + 1, acc, todo =>
    let ready (c : It) : Bool := c.o.after.toList.all fun e => !bindsAny e || acc.any fun a => a.i == e.on
    match todo.find? (fun c => c.light && ready c) with
    | some c => refOrder n fuel (c :: acc) (todo.filter fun d => d.i != c.i)
    | none => match todo.find? ready with
      | some c => refOrder n fuel (c :: acc) (todo.filter fun d => d.i != c.i)
      | none => acc.reverse

def items (l : List (Oper × AOper)) : List It := l.zipIdx.map fun p => { i := p.2, o := p.1.1, x := p.1.2 }

def compDrawn (l : List (Oper × AOper)) : Option (List AOper) :=
  let its := items l
  let ord := refOrder l.length l.length [] its
  if (its.all fun c => ord.any fun d => d.i == c.i) = true ∧ (ord.all fun c => match l[c.i]? with | some _ => true | none => false) = true then
    order (masks (l.map (·.1)) []) (ord.filterMap fun c => (l[c.i]?).map fun p => { i := c.i, o := p.1, x := p.2 }) []
  else none

def dstsOf (l : List AOper) : List Nat := l.filterMap AOper.dst

def compRegion (P : Program) (N : Nat) (ops : Array Oper) (rnd draw : Bool) : ACode :=
  let l := ops.toList.map (compOper P ops rnd)
  if (l.all fun x => match x.dst with | some d => decide (d < N) | none => true) = true then
    if draw then
      if l.all AOper.calm = true then
        match compDrawn (ops.toList.map fun o => (o, compOper P ops rnd o)) with
        | some xs => .ops (dstsOf l) xs
        | none => .fail
      else .fail
    else .ops [] l
  else .fail

def compCode (P : Program) (N : Nat) (rnd : Bool) : Code → ACode
  | .skip => .skip
  | .region _ ops draw => compRegion P N ops rnd draw
  | .seq a b => .seq (compCode P N rnd a) (compCode P N rnd b)
  | .cond c a b => match opdOf P c with
    | some c => .cond c (compCode P N rnd a) (compCode P N rnd b)
    | none => .fail
  | .block id a => .block id (compCode P N rnd a)
  | .loop a => .loop (compCode P N rnd a)
  | .exit id => .exit id
  | .ret => .ret
  | .label _ => .skip
  | .rangeFunc g ps as body =>
    if rnd = true ∨ (ps.toList.all fun p => decide (p < N)) = false then .fail else
    match opdOf P g with
    | some g => .rangeFunc g ps.toList (compCode P N true as) (compCode P N true body)
    | none => .fail
  | _ => .fail

def compRes (P : Program) : List Go.ResultVar → Option (List ARes)
  | [] => some []
  | .tmp t :: r => (compRes P r).map (.tmp t :: ·)
  | .cell a t :: r => match loadK P t with
    | some n => (compRes P r).map (.cell a n :: ·)
    | none => none

/-- the body of a function that begins with a call of recover, and of one that does not -/
def splitRec : Code → Option (Option Nat × Array Oper × Code)
  | .seq (.region _ ops false) rest => match ops[0]? with
    | some o => match o.op, o.guard with
      | .call { callee := .builtin .recover, .. }, none => some (o.dst, ops, rest)
      | _, _ => none
    | none => none
  | _ => none

/-- an operation of the abstract machine's own -/
def AOper.still : AOper → Bool
  | .op .. => true
  | _ => false

/-- behind recover, in the same region: no call -/
def recOps (P : Program) (N : Nat) (ops : Array Oper) : ACode :=
  if ((ops.toList.drop 1).all fun o => match o.dst with | some d => decide (d < N) | none => true) = true ∧ ((ops.toList.drop 1).all fun o => (compOper P ops true o).still) = true then
    .ops [] ((ops.toList.drop 1).map (compOper P ops true)) else .fail

def compFunc (P : Program) (fn : Func) : Option AFunc :=
  match fn.body, compRes P fn.results.toList with
  | some c, some r => match splitRec c with
    | some (some d, ops, rest) =>
      if d < fn.ntmps then
        some { nparams := fn.params.size + fn.nfree, rcv := some d, res := r,
               body := .seq (recOps P fn.ntmps ops) (compCode P fn.ntmps true rest) }
      else none
    | some (none, _, _) => none
    | none => some { nparams := fn.params.size + fn.nfree, body := compCode P fn.ntmps false c, res := r }
  | _, _ => none
end Am
