/- Abstract operations: what they answer, and how an operation of a program is one of them. -/
import Derived.Test.YthdkclkiegkabaaAdmB
namespace Go.Adm

def cellsV : AV → List AV
  | .agg l => l
  | v => [v]
def splice (cells : List AV) (o : Nat) (new : List AV) : List AV := cells.take o ++ new ++ cells.drop (o + new.length)
def rep (n : Nat) (zero : List AV) : List AV := (List.replicate n zero).flatten

/-- An operand. -/
inductive AX where
  | t (n : Nat)
  | c (v : AV)

/-- Kinds of cells that '==' can look at. -/
inductive CK where
  | b
  | i
  | s

/-- Kinds of one-cell types that '==' can look at. -/
inductive EK where
  | bool
  | int
  | str
  | ptr
  | slice
  | fn

/-- Kinds of operations, with all that the type table says of them. -/
inductive AK where
  | mv
  | pick
  | nilCheck
  | arith (op : BinOp)
  | shift (op : BinOp)
  | cmp (op : BinOp)
  | eq (neg : Bool) (e : EK)
  | eqAgg (neg : Bool) (ks : List CK)
  | not
  | neg
  | bnot
  | conv (k : IntKind)
  | arrPtr (n : Nat)
  | mkFn (f : Fn) (nfirst : Nat)
  | slice (size : Nat) (lo hi mx : Bool)
  | sliceArr (n size : Nat) (lo hi mx : Bool)
  | fieldAddr (off : Nat)
  | part (off size : Nat) (agg : Bool)
  | idxAddr (size : Nat)
  | idxAddrArr (n size : Nat)
  | idxArr (n size : Nat) (agg : Bool)
  | idxStr
  | extract (i : Nat)
  | build (zero : List AV) (places : List (Nat × Nat))
  | len
  | lenStr
  | lenArr (n : Nat)
  | min
  | max
  | iface (t : TypeId)
  | load (agg : Bool) (n : Nat)
  | alloc (zero : List AV)
  | box
  | mkSlice (zero : List AV) (bytes : Nat)
  | mkSl (len : Nat) (zero : List AV) (places : List (Nat × Nat))
  | store (n : Nat)
  | append (size bytes : Nat)
  | copy (size : Nat)
  | call (f : FuncId)
  | callv

inductive Cls where
  | pure
  | read
  | make
  | write
  | call

def AK.cls : AK → Cls
  | .load .. => .read
  | .alloc _ => .make
  | .box => .make
  | .mkSlice .. => .make
  | .mkSl .. => .make
  | .store _ => .write
  | .append .. => .write
  | .copy _ => .write
  | .call _ => .call
  | .callv => .call
  | _ => .pure

def aArith (op : BinOp) (k : IntKind) (x y : Int) : Option Int :=
  match op with
  | .add => some (k.wrap (x + y))
  | .sub => some (k.wrap (x - y))
  | .mul => some (k.wrap (x * y))
  | .quo => if y = 0 then none else some (k.wrap (x.tdiv y))
  | .rem => if y = 0 then none else some (x.tmod y)
  | .and => some (k.wrap (BitVec.ofInt k.bits x &&& BitVec.ofInt k.bits y).toNat)
  | .or => some (k.wrap (BitVec.ofInt k.bits x ||| BitVec.ofInt k.bits y).toNat)
  | .xor => some (k.wrap (BitVec.ofInt k.bits x ^^^ BitVec.ofInt k.bits y).toNat)
  | .andNot => some (k.wrap (BitVec.ofInt k.bits x &&& ~~~ BitVec.ofInt k.bits y).toNat)
  | _ => none

def aShift (op : BinOp) (k : IntKind) (x y : Int) : Option Int :=
  match op with
  | .shl => if y < 0 then none else some (k.wrap (x * 2 ^ Nat.min y.toNat k.bits))
  | .shr => if y < 0 then none else some (x.fdiv (2 ^ Nat.min y.toNat k.bits))
  | _ => none

def aCmp (op : BinOp) (x y : Int) : Option Bool :=
  match op with
  | .lss => some (decide (x < y))
  | .leq => some (decide (x ≤ y))
  | .gtr => some (decide (x > y))
  | .geq => some (decide (x ≥ y))
  | _ => none

def aEqCk : CK → AV → AV → Option Bool
  | .b, .bool a, .bool b => some (a == b)
  | .i, .int k a, .int k' b => if k = k' then some (a == b) else none
  | .s, .str a, .str b => some (a == b)
  | _, _, _ => none
def aEqCells : List CK → List AV → List AV → Option Bool
  | [], [], [] => some true
  | c :: ks, a :: as, b :: bs => (aEqCk c a b).bind fun x => (aEqCells ks as bs).map fun y => x && y
  | _, _, _ => none

def aEq : EK → AV → AV → Option Bool
  | .bool, .bool x, .bool y => some (x == y)
  | .int, .int k x, .int k' y => if k = k' then some (x == y) else none
  | .str, .str x, .str y => some (x == y)
  | .ptr, .nilp, .nilp => some true
  | .ptr, .nilp, .ptr .. => some false
  | .ptr, .ptr .., .nilp => some false
  | .slice, .nils, .nils => some true
  | .slice, .nils, .sl .. => some false
  | .slice, .sl .., .nils => some false
  | .fn, .nilf, .nilf => some true
  | .fn, .nilf, .fn .. => some false
  | .fn, .fn .., .nilf => some false
  | _, _, _ => none

def bnd (v : AV) (y : Nat) : Option Nat :=
  match v with
  | .int _ i => if 0 ≤ i ∧ i ≤ y then some i.toNat else none
  | _ => none

/-- low, high, max of a slice expression: 'cap' bounds max, 'top' bounds high where no max is given. -/
def bounds (lo hi mx : Bool) (len cap : Nat) (vs : List AV) : Option (Nat × Nat × Nat) :=
  match lo, hi, mx, vs with
  | false, false, false, [] => some (0, len, cap)
  | true, false, false, [l] => (bnd l len).map fun l => (l, len, cap)
  | false, true, false, [h] => (bnd h cap).map fun h => (0, h, cap)
  | true, true, false, [l, h] => (bnd h cap).bind fun h => (bnd l h).map fun l => (l, h, cap)
  | false, true, true, [h, m] => (bnd m cap).bind fun m => (bnd h m).map fun h => (0, h, m)
  | true, true, true, [l, h, m] => (bnd m cap).bind fun m => (bnd h m).bind fun h => (bnd l h).map fun l => (l, h, m)
  | _, _, _, _ => none

def aPart (off size : Nat) (agg : Bool) (l : List AV) : Option AV :=
  match agg with
  | true => if off + size ≤ l.length then some (.agg ((l.drop off).take size)) else none
  | false => l[off]?

def aFill : List AV → List (Nat × Nat) → List AV → Option (List AV)
  | cells, [], [] => some cells
  | cells, (off, sz) :: ps, v :: vs => if (cellsV v).length = sz ∧ off + sz ≤ cells.length ∧ v.solid = true then aFill (splice cells off (cellsV v)) ps vs else none
  | _, _, _ => none

def aPick (c : Bool) (a b : AV) : AV :=
  match c with
  | true => a
  | false => b

def pMv : List AV → Option AV
  | [v] => some v
  | _ => none
def pPick : List AV → Option AV
  | [.bool c, a, b] => some (aPick c a b)
  | _ => none
def pNil : List AV → Option AV
  | [.ptr b o] => some (.ptr b o)
  | [.fn (.func f) a b] => some (.fn (.func f) a b)
  | _ => none
def pArith (op : BinOp) : List AV → Option AV
  | [.int k a, .int k' b] => if k = k' then (aArith op k a b).map (.int k) else none
  | _ => none
def pShift (op : BinOp) : List AV → Option AV
  | [.int k a, .int _ b] => (aShift op k a b).map (.int k)
  | _ => none
def pCmp (op : BinOp) : List AV → Option AV
  | [.int k a, .int k' b] => if k = k' then (aCmp op a b).map .bool else none
  | _ => none
def pEq (neg : Bool) (e : EK) : List AV → Option AV
  | [a, b] => (aEq e a b).map fun r => .bool (if neg then !r else r)
  | _ => none
def pEqAgg (neg : Bool) (ks : List CK) : List AV → Option AV
  | [.agg a, .agg b] => (aEqCells ks a b).map fun r => .bool (if neg then !r else r)
  | _ => none
def pNot : List AV → Option AV
  | [.bool b] => some (.bool !b)
  | _ => none
def pNeg : List AV → Option AV
  | [.int k n] => some (.int k (k.wrap (0 - n)))
  | _ => none
def pBnot : List AV → Option AV
  | [.int k n] => (aArith .xor k (if k.signed then -1 else k.max) n).map (.int k)
  | _ => none
def pConv (k : IntKind) : List AV → Option AV
  | [.int _ n] => some (.int k (k.wrap n))
  | _ => none
def pArrPtr (n : Nat) : List AV → Option AV
  | [.sl b o len _ _] => if 0 < n ∧ n ≤ len then some (.ptr b o) else none
  | _ => none
def pSlice (size : Nat) (lo hi mx : Bool) : List AV → Option AV
  | .sl b o len cap s :: vs =>
    if s = 0 ∨ s = size then (bounds lo hi mx len cap vs).map fun (l, h, m) => .sl b (o + l * size) (h - l) (m - l) (if mx then 0 else s) else none
  | .nils :: vs => (bounds lo hi mx 0 0 vs).map fun _ => .nils
  | _ => none
def pSliceArr (n size : Nat) (lo hi mx : Bool) : List AV → Option AV
  | .ptr b o :: vs => (bounds lo hi mx n n vs).map fun (l, h, m) => .sl b (o + l * size) (h - l) (m - l) 0
  | _ => none
def pFieldAddr (off : Nat) : List AV → Option AV
  | [.ptr b o] => some (.ptr b (o + off))
  | _ => none
def pPart (off size : Nat) (agg : Bool) : List AV → Option AV
  | [.agg l] => aPart off size agg l
  | _ => none
def pIdxAddr (size : Nat) : List AV → Option AV
  | [.sl b o len _ _, .int _ i] => if 0 ≤ i ∧ i < len then some (.ptr b (o + i.toNat * size)) else none
  | _ => none
def pIdxAddrArr (n size : Nat) : List AV → Option AV
  | [.ptr b o, .int _ i] => if 0 ≤ i ∧ i < n then some (.ptr b (o + i.toNat * size)) else none
  | _ => none
def pIdxArr (n size : Nat) (agg : Bool) : List AV → Option AV
  | [.agg l, .int _ i] => if 0 ≤ i ∧ i < n then aPart (i.toNat * size) size agg l else none
  | _ => none
def pIdxStr : List AV → Option AV
  | [.str s, .int _ i] => if 0 ≤ i then (s[i.toNat]?).map fun b => .int .u8 b.toNat else none
  | _ => none
def pExtract (i : Nat) : List AV → Option AV
  | [.tup l] => l[i]?
  | _ => none
def pLen : List AV → Option AV
  | [.sl _ _ len _ _] => some (.int .i64 len)
  | [.nils] => some (.int .i64 0)
  | _ => none
def pLenStr : List AV → Option AV
  | [.str s] => some (.int .i64 s.size)
  | _ => none
def pLenArr (n : Nat) : List AV → Option AV
  | [_] => some (.int .i64 n)
  | _ => none
def pMin : List AV → Option AV
  | [.int k a, .int _ b] => some (.int k (if b < a then b else a))
  | _ => none
def pMax : List AV → Option AV
  | [.int k a, .int _ b] => some (.int k (if b > a then b else a))
  | _ => none
def pIface (t : TypeId) : List AV → Option AV
  | [v] => some (.iface t v)
  | _ => none

def aP : AK → List AV → Option AV
  | .mv => pMv
  | .pick => pPick
  | .nilCheck => pNil
  | .arith op => pArith op
  | .shift op => pShift op
  | .cmp op => pCmp op
  | .eq neg e => pEq neg e
  | .eqAgg neg ks => pEqAgg neg ks
  | .not => pNot
  | .neg => pNeg
  | .bnot => pBnot
  | .conv k => pConv k
  | .arrPtr n => pArrPtr n
  | .mkFn f nf => fun vs => some (.fn f (vs.take nf) (vs.drop nf))
  | .slice size lo hi mx => pSlice size lo hi mx
  | .sliceArr n size lo hi mx => pSliceArr n size lo hi mx
  | .fieldAddr off => pFieldAddr off
  | .part off size agg => pPart off size agg
  | .idxAddr size => pIdxAddr size
  | .idxAddrArr n size => pIdxAddrArr n size
  | .idxArr n size agg => pIdxArr n size agg
  | .idxStr => pIdxStr
  | .extract i => pExtract i
  | .build zero places => fun vs => (aFill zero places vs).map .agg
  | .len => pLen
  | .lenStr => pLenStr
  | .lenArr n => pLenArr n
  | .min => pMin
  | .max => pMax
  | .iface t => pIface t
  | _ => fun _ => none

def rowOf (m : Mem) (b : Nat) : Option (List AV) :=
  match m[b]? with
  | some (.row cells _) => some cells
  | _ => none
/-- The cells of a row that may be written. -/
def own (m : Mem) (b : Nat) : Option (List AV) :=
  match m[b]? with
  | some (.row cells false) => some cells
  | _ => none

def rLoad (agg : Bool) (n : Nat) (m : Mem) : List AV → Option AV
  | [.ptr b o] => (rowOf m b).bind (aPart o n agg)
  | _ => none
def aR : AK → List AV → Mem → Option AV
  | .load agg n => fun vs m => rLoad agg n m vs
  | _ => fun _ _ => none

def mkAlloc (zero : List AV) : List AV → Option (Blk × (Nat → AV))
  | [] => some (.row zero false, fun id => .ptr id 0)
  | _ => none
def mkBox : List AV → Option (Blk × (Nat → AV))
  | [v] => if v.solid = true then some (.row (cellsV v) false, fun id => .ptr id 0) else none
  | _ => none
def mkMake (zero : List AV) (bytes : Nat) : List AV → Option (Blk × (Nat → AV))
  | [.int _ l, .int _ c] =>
    if 0 ≤ l ∧ l ≤ c ∧ c * bytes ≤ 1099511627776 ∧ c ≤ 1099511627776 then some (.row (rep c.toNat zero) false, fun id => .sl id 0 l.toNat c.toNat 0) else none
  | _ => none
def aA : AK → List AV → Option (Blk × (Nat → AV))
  | .alloc zero => mkAlloc zero
  | .box => mkBox
  | .mkSlice zero bytes => mkMake zero bytes
  | .mkSl n zero places => fun vs => (aFill zero places vs).map fun cells => (.row cells false, fun id => .sl id 0 n n 0)
  | _ => fun _ => none

/-- The first n elements of a slice. -/
def elems (size n : Nat) (v : AV) (m : Mem) : Option (List AV) :=
  match v with
  | .nils => if n = 0 then some [] else none
  | .sl b o len _ _ => if n = 0 then some [] else if n ≤ len then (rowOf m b).bind fun cells => if o + n * size ≤ cells.length then some ((cells.drop o).take (n * size)) else none else none
  | _ => none
def lenA : AV → Option Nat
  | .nils => some 0
  | .sl _ _ len _ _ => some len
  | _ => none

def aAppend (size bytes : Nat) (s x : AV) (m : Mem) : Option (AV × Mem) :=
  (lenA x).bind fun n =>
  if n = 0 then (if (lenA s).isSome then some (s, m) else none) else
  (elems size n x m).bind fun new =>
  match s with
  | .nils => if n * bytes ≤ 1099511627776 ∧ n ≤ 1099511627776 then some (.sl m.length 0 n n size, m ++ [.row new false]) else none
  | .sl b o len cap sz =>
    if len + n ≤ cap then
      (own m b).bind fun cells => if o + (len + n) * size ≤ cells.length ∧ (sz = 0 ∨ sz = size) then some (.sl b o (len + n) cap sz, m.set b (.row (splice cells (o + len * size) new) false)) else none
    else if (len + n) * bytes ≤ 1099511627776 ∧ len + n ≤ 1099511627776 then
      (elems size len s m).bind fun old =>
      match sz with
      | 0 => some (.sl m.length 0 (len + n) (len + n) size, m ++ [.row (old ++ new) false])
      | _ + 1 => (own m b).bind fun cells => if o + cap * size = cells.length ∧ sz = size then some (.sl m.length 0 (len + n) (len + n) size, m.set b .dead ++ [.row (old ++ new) false]) else none
    else none
  | _ => none

def aCopy (size : Nat) (d x : AV) (m : Mem) : Option (AV × Mem) :=
  (lenA x).bind fun ln => (lenA d).bind fun ld =>
  let n := Nat.min ln ld
  if n = 0 then some (.int .i64 0, m) else
  (elems size n x m).bind fun new =>
  match d with
  | .sl b o _ _ _ => (own m b).bind fun cells => if o + n * size ≤ cells.length then some (.int .i64 n, m.set b (.row (splice cells o new) false)) else none
  | _ => none

def aStore (n : Nat) (p v : AV) (m : Mem) : Option (AV × Mem) :=
  match p with
  | .ptr b o => (own m b).bind fun cells =>
    if (cellsV v).length = n ∧ o + n ≤ cells.length ∧ v.solid = true then some (.tup [], m.set b (.row (splice cells o (cellsV v)) false)) else none
  | _ => none

def w2 (f : AV → AV → Mem → Option (AV × Mem)) (m : Mem) : List AV → Option (AV × Mem)
  | [a, b] => f a b m
  | _ => none
def aW : AK → List AV → Mem → Option (AV × Mem)
  | .store n => fun vs m => w2 (aStore n) m vs
  | .append size bytes => fun vs m => w2 (aAppend size bytes) m vs
  | .copy size => fun vs m => w2 (aCopy size) m vs
  | _ => fun _ _ => none

/-! ## An operation of a program as an abstract one -/

def ofCell : Value → Option AV
  | .bool b => some (.bool b)
  | .int k n => some (.int k n)
  | .string s => some (.str s)
  | .pointer none => some .nilp
  | .slice none 0 0 => some .nils
  | .map none => some .mapn
  | .nilFunc => some .nilf
  | .nilIface => some .nili
  | _ => none
def ofCells : List Value → Option (List AV)
  | [] => some []
  | v :: r => (ofCell v).bind fun a => (ofCells r).map (a :: ·)
def ofConst : Value → Option AV
  | .agg cs => (ofCells cs.toList).map .agg
  | v => ofCell v

def ckX : Operand → Option AX
  | .tmp n => some (.t n)
  | .const v => (ofConst v).map .c
  | .func f => some (.c (.fn (.func f) [] []))
  | .global _ => none
def ckXs : List Operand → Option (List AX)
  | [] => some []
  | x :: r => (ckX x).bind fun a => (ckXs r).map (a :: ·)

section
variable (P : Program)
def aggD (t : TypeId) : Option Bool :=
  match P.underlying t with
  | some (.struct _) => some true
  | some (.array _ _) => some true
  | some _ => some false
  | none => none
def sizeD (t : TypeId) : Option Nat := (P.info? t).map (·.size)
def bytesD (t : TypeId) : Option Nat := (P.info? t).map (·.bytes)
def zeroD (t : TypeId) : Option (List AV) := (P.info? t).bind fun i => i.zero.bind fun z => ofCells z.cells.toList

def plainFs (F : TypeId → Option (List CK)) : Nat → List Field → Option (List CK)
  | _, [] => some []
  | off, f :: r => (F f.type).bind fun ks => if f.offset = off ∧ f.name ≠ "_" ∧ sizeD P f.type = some ks.length then (plainFs F (off + ks.length) r).map (ks ++ ·) else none
/-- Types whose values are compared cell by cell: the kinds of their cells. -/
def plainD : Nat → TypeId → Option (List CK)
  | 0, _ => none
  | d + 1, t =>
    match P.underlying t with
    | some .bool => some [.b]
    | some (.int _) => some [.i]
    | some .string => some [.s]
    | some (.array n e) => (plainD d e).bind fun ks => if sizeD P e = some ks.length ∧ 0 < ks.length then some (List.replicate n ks).flatten else none
    | some (.struct fs) => if P.stoodInHeld t then none else plainFs P (plainD d) 0 fs.toList
    | _ => none

/-- Kinds of types for '==' on one cell. -/
def eqOk (t : TypeId) : Option EK :=
  match P.underlying t with
  | some .bool => some .bool
  | some (.int _) => some .int
  | some .string => some .str
  | some (.pointer _) => some .ptr
  | some (.slice _) => some .slice
  | some (.func ..) => some .fn
  | _ => none
def ckEq (neg : Bool) (t : TypeId) (xs : List Operand) : Option (AK × List Operand) :=
  match aggD P t with
  | some true => if P.eqGuardType P.depth t then none else (plainD P 8 t).map fun ks => (.eqAgg neg ks, xs)
  | _ => (eqOk P t).map fun e => (.eq neg e, xs)

def optL (x : Option Operand) : List Operand := x.toList

def ckOp : Op → Option (AK × List Operand)
  | .move x => some (.mv, [x])
  | .assign x => some (.mv, [x])
  | .pick c a b => some (.pick, [c, a, b])
  | .nilCheck x => some (.nilCheck, [x])
  | .binOp op t x y _ =>
    match op with
    | .shl => some (.shift .shl, [x, y])
    | .shr => some (.shift .shr, [x, y])
    | .lss => some (.cmp .lss, [x, y])
    | .leq => some (.cmp .leq, [x, y])
    | .gtr => some (.cmp .gtr, [x, y])
    | .geq => some (.cmp .geq, [x, y])
    | .eql => ckEq P false t [x, y]
    | .neq => ckEq P true t [x, y]
    | op => some (.arith op, [x, y])
  | .unOp .not _ x => some (.not, [x])
  | .unOp .neg _ x => some (.neg, [x])
  | .unOp .xor _ x => some (.bnot, [x])
  | .convert src dst x =>
    match P.underlying src, P.underlying dst with
    | some (.int _), some (.int k) => some (.conv k, [x])
    | _, _ => none
  | .sliceToArrayPointer arr x =>
    match P.underlying arr with
    | some (.array n _) => some (.arrPtr n, [x])
    | _ => none
  | .makeFunc (.func f) first captured => some (.mkFn (.func f) first.size, first.toList ++ captured.toList)
  | .slice t x lo hi mx =>
    match P.underlying t with
    | some (.slice e) => (sizeD P e).bind fun s => if 0 < s then some (.slice s lo.isSome hi.isSome mx.isSome, x :: (optL lo ++ optL hi ++ optL mx)) else none
    | some (.array n e) => (sizeD P e).bind fun s => if 0 < s then some (.sliceArr n s lo.isSome hi.isSome mx.isSome, x :: (optL lo ++ optL hi ++ optL mx)) else none
    | _ => none
  | .fieldAddr t x f =>
    match P.underlying t with
    | some (.struct fs) => (fs[f]?).bind fun g => match sizeD P g.type with
      | some (_ + 1) => some (.fieldAddr g.offset, [x])
      | _ => none
    | _ => none
  | .field t x f =>
    match P.underlying t with
    | some (.struct fs) => (fs[f]?).bind fun g => (sizeD P g.type).bind fun s => (aggD P g.type).map fun a => (.part g.offset s a, [x])
    | _ => none
  | .indexAddr t x i =>
    match P.underlying t with
    | some (.slice e) => (sizeD P e).map fun s => (.idxAddr s, [x, i])
    | some (.array n e) => (sizeD P e).map fun s => (.idxAddrArr n s, [x, i])
    | _ => none
  | .index t x i =>
    match P.underlying t with
    | some (.array n e) => (sizeD P e).bind fun s => (aggD P e).map fun a => (.idxArr n s a, [x, i])
    | some .string => some (.idxStr, [x, i])
    | _ => none
  | .extract x i => some (.extract i, [x])
  | .build t parts =>
    (zeroD P t).bind fun z =>
    match P.underlying t with
    | some (.struct fs) =>
      ((parts.toList.map (·.1)).mapM fun i => (fs[i]?).bind fun (g : Field) => (sizeD P g.type).map fun s => (g.offset, s)).bind fun ps =>
        if fs.toList.all (fun f => (sizeD P f.type).isSome) then some (.build z ps, parts.toList.map (·.2)) else none
    | some (.array _ e) => (sizeD P e).map fun s => (.build z ((parts.toList.map (·.1)).map fun i => (i * s, s)), parts.toList.map (·.2))
    | _ => none
  | .makeInterface t x =>
    match P.underlying t with
    | some (.interface _) => none
    | some _ => some (.iface t, [x])
    | none => none
  | .load t a => (sizeD P t).bind fun s => (aggD P t).bind fun g => if g || s == 1 then some (.load g s, [a]) else none
  | .alloc t => (zeroD P t).map fun z => (.alloc z, [])
  | .box _ x => some (.box, [x])
  | .makeSlice t l c =>
    match P.underlying t with
    | some (.slice e) => (zeroD P e).bind fun z => (bytesD P e).bind fun b => if sizeD P e = some z.length ∧ 0 < z.length then some (.mkSlice z b, [l, c]) else none
    | _ => none
  | .buildSlice t n parts =>
    match P.underlying t with
    | some (.slice e) => (zeroD P e).bind fun z =>
      if sizeD P e = some z.length ∧ 0 < z.length ∧ n * z.length ≤ 16777216 then some (.mkSl n (rep n z) (parts.toList.map fun p => (p.1 * z.length, z.length)), parts.toList.map (·.2)) else none
    | _ => none
  | .store t a v => (sizeD P t).map fun s => (.store s, [a, v])
  | .call c =>
    match c.callee with
    | .builtin .len =>
      match (c.argTypes[0]?).bind P.underlying, c.args.toList with
      | some (.slice _), [x] => some (.len, [x])
      | some .string, [x] => some (.lenStr, [x])
      | some (.array n _), [x] => some (.lenArr n, [x])
      | _, _ => none
    | .builtin .min => match c.args.toList with
      | [x, y] => some (.min, [x, y])
      | _ => none
    | .builtin .max => match c.args.toList with
      | [x, y] => some (.max, [x, y])
      | _ => none
    | .builtin .append =>
      match c.argTypes.toList, c.args.toList with
      | [st, xt], [s, x] =>
        match P.underlying st, P.underlying xt with
        | some (.slice e), some (.slice _) => (zeroD P e).bind fun z => (bytesD P e).bind fun b => if sizeD P e = some z.length ∧ 0 < z.length then some (.append z.length b, [s, x]) else none
        | _, _ => none
      | _, _ => none
    | .builtin .copy =>
      match c.argTypes.toList, c.args.toList with
      | [st, _], [s, x] =>
        match P.underlying st with
        | some (.slice e) => (sizeD P e).bind fun z => if 0 < z then some (.copy z, [s, x]) else none
        | _ => none
      | _, _ => none
    | .value (.func f) => some (.call f, c.args.toList)
    | .value x => some (.callv, x :: c.args.toList)
    | _ => none
  | _ => none
end
end Go.Adm
