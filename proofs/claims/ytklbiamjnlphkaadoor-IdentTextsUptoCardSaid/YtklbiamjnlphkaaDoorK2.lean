/-
  The small machine's operations: what each asks of its operands alone ('actOf'), and what it does to the rows ('Act').
-/
import Derived.Test.YtklbiamjnlphkaaDoorK1
set_option linter.unusedVariables false
namespace Go.PM
open Go

/-- A struct or an array. -/
def isAggD : TypeDesc → Bool
  | .struct _ => true
  | .array _ _ => true
  | _ => false

/-! ### Types, as far as an operation asks for them -/
section
variable (P : Program)

/-- One cell (none), or an aggregate of so many. -/
def aggN (t : TypeId) : Option (Option Nat) :=
  match P.info? t with
  | none => none
  | some i =>
    match P.underlying t with
    | some (.struct _) => some (some i.size)
    | some (.array _ _) => some (some i.size)
    | some _ => if i.size = 1 then some none else none
    | none => none

/-- A field's first cell. -/
def fOff (s : TypeId) (f : Nat) : Option Nat :=
  match P.underlying s with
  | some (.struct fs) =>
    match fs[f]? with
    | some fd => match P.info? fd.type with
      | some i => if i.size = 0 then none else some fd.offset
      | none => none
    | none => none
  | _ => none

/-- A field's first cell, and whether it is an aggregate. -/
def fPart (s : TypeId) (f : Nat) : Option (Nat × Option Nat) :=
  match P.underlying s with
  | some (.struct fs) =>
    match fs[f]? with
    | some fd => (aggN P fd.type).map fun n => (fd.offset, n)
    | none => none
  | _ => none

/-- A slice type: its elements' type, their cells and bytes. -/
def slOf (t : TypeId) : Option (TypeId × Nat × Nat) :=
  match P.underlying t with
  | some (.slice e) => match P.info? e with
    | some i => some (e, i.size, i.bytes)
    | none => none
  | _ => none

/-- An array type: how long, the elements' cells. -/
def arrOf (t : TypeId) : Option (Nat × Nat) :=
  match P.underlying t with
  | some (.array n e) => match P.info? e with
    | some i => some (n, i.size)
    | none => none
  | _ => none

/-- The cells of a type's zero value. -/
def zeroOf (t : TypeId) : Option (List Value) :=
  match P.info? t with
  | some i => match i.zero with
    | some z => if z.cells.toList.all (·.oneCell') then some z.cells.toList else none
    | none => none
  | none => none

/-- Where a composite's parts lie: none: an array of elements of so many cells. -/
def placesOf (t : TypeId) : Option (Sum (List (Nat × Nat)) Nat) :=
  match P.underlying t with
  | some (.struct fs) => (fs.toList.mapM fun f => (P.info? f.type).map fun i => (f.offset, i.size)).map .inl
  | some (.array _ e) => (P.info? e).map fun i => .inr i.size
  | _ => none

def placeAt : Sum (List (Nat × Nat)) Nat → Nat → Option (Nat × Nat)
  | .inl l, i => l[i]?
  | .inr n, i => some (i * n, n)

/-- Kinds of cells that '==' holds against each other one by one. -/
inductive FK where | i | b | s
  deriving DecidableEq

def flatFields (g : TypeId → Option (List FK)) : List Field → Nat → Option (List FK)
  | [], _ => some []
  | f :: fs, off =>
    if f.offset = off && f.name != "_" then
      match g f.type with
      | some ks => (flatFields g fs (off + ks.length)).map (ks ++ ·)
      | none => none
    else none

def flatT : Nat → TypeId → Option (List FK)
  | 0, _ => none
  | d + 1, t =>
    match P.info? t with
    | none => none
    | some i =>
      match P.underlying t with
      | some (.int _) => if i.size = 1 then some [.i] else none
      | some .bool => if i.size = 1 then some [.b] else none
      | some .string => if i.size = 1 then some [.s] else none
      | some (.struct fs) =>
        if P.stoodInHeld t then none else
        match flatFields (flatT d) fs.toList 0 with
        | some ks => if i.size = ks.length then some ks else none
        | none => none
      | some (.array n e) =>
        match flatT d e with
        | some ks => if i.size = n * ks.length then some (List.replicate n ks).flatten else none
        | none => none
      | _ => none

/-- '==' on a type is cell by cell. -/
def eqKinds (t : TypeId) : Option (List FK) := if P.eqGuardType P.depth t then none else flatT P 12 t

end

/-- One by one. -/
def eqCells : List FK → List PCell → List PCell → Option Bool
  | [], [], [] => some true
  | .i :: ks, .sc (.int k a) :: xs, .sc (.int k' b) :: ys => if k = k' then (eqCells ks xs ys).map fun r => (a == b) && r else none
  | .b :: ks, .sc (.bool a) :: xs, .sc (.bool b) :: ys => (eqCells ks xs ys).map fun r => (a == b) && r
  | .s :: ks, .sc (.string a) :: xs, .sc (.string b) :: ys => (eqCells ks xs ys).map fun r => (a == b) && r
  | _, _, _ => none

/-! ### Numbers, truths, texts -/
def intBin (op : BinOp) (k : IntKind) (a b : Int) : Option Value :=
  match op with
  | .add => some (.int k (k.wrap (a + b)))
  | .sub => some (.int k (k.wrap (a - b)))
  | .mul => some (.int k (k.wrap (a * b)))
  | .quo => if b = 0 then none else some (.int k (k.wrap (a.tdiv b)))
  | .rem => if b = 0 then none else some (.int k (a.tmod b))
  | .and => some (.int k (k.wrap (BitVec.ofInt k.bits a &&& BitVec.ofInt k.bits b).toNat))
  | .or => some (.int k (k.wrap (BitVec.ofInt k.bits a ||| BitVec.ofInt k.bits b).toNat))
  | .xor => some (.int k (k.wrap (BitVec.ofInt k.bits a ^^^ BitVec.ofInt k.bits b).toNat))
  | .andNot => some (.int k (k.wrap (BitVec.ofInt k.bits a &&& ~~~ BitVec.ofInt k.bits b).toNat))
  | .eql => some (.bool (a == b))
  | .neq => some (.bool (a != b))
  | .lss => some (.bool (a < b))
  | .leq => some (.bool (a ≤ b))
  | .gtr => some (.bool (a > b))
  | .geq => some (.bool (a ≥ b))
  | _ => none

def strBin (op : BinOp) (x y : ByteArray) : Option Value :=
  match op with
  | .add => if ((x.size + y.size : Nat) : Int) > IntKind.i64.max then none else some (.string (x ++ y))
  | .eql => some (.bool (x.toList == y.toList))
  | .neq => some (.bool (!(x.toList == y.toList)))
  | .lss => some (.bool (Op.bytesLess x.toList y.toList))
  | .leq => some (.bool (Op.bytesLess x.toList y.toList || x.toList == y.toList))
  | .gtr => some (.bool !(Op.bytesLess x.toList y.toList || x.toList == y.toList))
  | .geq => some (.bool !(Op.bytesLess x.toList y.toList))
  | _ => none

def shiftBin (op : BinOp) (k : IntKind) (a b : Int) : Option Value :=
  if b < 0 then none else
  match op with
  | .shl => some (.int k (k.wrap (a * 2 ^ (min b.toNat k.bits))))
  | .shr => some (.int k (a.fdiv (2 ^ (min b.toNat k.bits))))
  | _ => none

def isShift : BinOp → Bool
  | .shl | .shr => true
  | _ => false

/-- Is it nil? (a value held against the nil of its type) -/
def isNil (d : TypeDesc) (x y : PCell) : Option Bool :=
  match d, y with
  | .pointer _, .sc (.pointer none) => match x with
    | .ptr .. => some false
    | .tp .. => some false
    | .sc (.pointer none) => some true
    | _ => none
  | .slice _, .sc (.slice none 0 0) => match x with
    | .sl .. => some false
    | .tr _ _ els => if els.isEmpty then none else some false
    | .sc (.slice none _ _) => some true
    | _ => none
  | .func .., .sc .nilFunc => match x with
    | .fn .. => some false
    | .sc .nilFunc => some true
    | _ => none
  | .interface _, .sc .nilIface => match x with
    | .sc (.iface _ _) => some false
    | _ => none
  | _, _ => none

def binP (P : Program) (op : BinOp) (t : TypeId) (x y : PVal) : Option PVal :=
  match x, y with
  | .c (.sc (.int k a)), .c (.sc (.int k' b)) =>
    if isShift op then (shiftBin op k a b).map fun v => .c (.sc v)
    else if k = k' then (intBin op k a b).map fun v => .c (.sc v) else none
  | .c (.sc (.bool a)), .c (.sc (.bool b)) =>
    match P.underlying t with
    | some .bool => match op with
      | .eql => some (.c (.sc (.bool (a == b))))
      | .neq => some (.c (.sc (.bool (!(a == b)))))
      | _ => none
    | _ => none
  | .c (.sc (.string a)), .c (.sc (.string b)) => (strBin op a b).map fun v => .c (.sc v)
  | .agg xs, .agg ys =>
    match aggN P t, eqKinds P t with
    | some (some _), some ks => match op with
      | .eql => (eqCells ks xs ys).map fun b => .c (.sc (.bool b))
      | .neq => (eqCells ks xs ys).map fun b => .c (.sc (.bool !b))
      | _ => none
    | _, _ => none
  | .c x, .c y =>
    match P.underlying t with
    | some d =>
      match op with
      | .eql => (isNil d x y).map fun b => .c (.sc (.bool b))
      | .neq => (isNil d x y).map fun b => .c (.sc (.bool !b))
      | _ => none
    | none => none
  | _, _ => none

def unP (op : UnOp) (x : PVal) : Option PVal :=
  match op, x with
  | .neg, .c (.sc (.int k n)) => some (.c (.sc (.int k (k.wrap (0 - n)))))
  | .xor, .c (.sc (.int k n)) => (intBin .xor k (if k.signed then -1 else k.max) n).map fun v => .c (.sc v)
  | .not, .c (.sc (.bool b)) => some (.c (.sc (.bool !b)))
  | _, _ => none

/-! ### Composites -/
def setFrom (cells : List PCell) (off : Nat) : List PCell → List PCell
  | [] => cells
  | c :: cs => setFrom (cells.set off c) (off + 1) cs

def cellsOf : PVal → Option (List PCell)
  | .c x => some [x]
  | .agg cs => some cs
  | _ => none

def fillP (place : Nat → Option (Nat × Nat)) (cells : List PCell) : List (Nat × PVal) → Option (List PCell)
  | [] => some cells
  | (i, v) :: rest =>
    match place i, cellsOf v with
    | some (off, size), some cs => if cs.length ≠ size || off + cs.length > cells.length then none else fillP place (setFrom cells off cs) rest
    | _, _ => none

/-- A constant. -/
def ofConst : Value → PVal
  | .agg cs => if cs.toList.all (·.oneCell') then .agg (cs.toList.map .sc) else .un
  | .tuple _ => .un
  | v => .c (.sc v)

/-- A part of some cells. -/
def partP (cs : List PCell) (off : Nat) : Option Nat → Option PVal
  | some n => if off + n ≤ cs.length then some (.agg ((cs.drop off).take n)) else none
  | none => (cs[off]?).map .c

/-- Cells, so many an element. -/
def chunks (sz : Nat) : Nat → List PCell → List (List PCell)
  | 0, _ => []
  | n + 1, cs => cs.take sz :: chunks sz n (cs.drop sz)

/-! ### What an operation does -/
inductive LK where | cell | agg (n : Nat) | str (n : Nat)

def lkOf : Option Nat → LK
  | some n => .agg n
  | none => .cell

/-- The elements of what is appended. -/
inductive Src where
  | cells (cs : List PCell) (n : Nat)
  | row (r ver off sz n : Nat)

inductive Actn where
  | val (v : PVal)
  | load (r ver off : Nat) (k : LK)
  | store (r ver off : Nat) (cs : List PCell)
  /-- a new variable -/
  | new (elem : TypeId) (cs : List PCell)
  /-- a new slice that nobody writes to -/
  | lit (elem : TypeId) (sz len : Nat) (cs : List PCell)
  /-- a new row of a slice: these cells, and those behind them -/
  | grow (elem : TypeId) (sz : Nat) (bytes : Nat) (cs : List PCell) (n : Nat) (src : Src)
  /-- a row goes on -/
  | app (r ver : Nat) (elem : TypeId) (sz len bytes : Nat) (src : Src)
  | call (f : FuncId) (args : List PVal)
  | pan (v : Value)

def intOf? : PVal → Option Int
  | .c (.sc (.int _ n)) => some n
  | _ => none

/-- A bound of a slice expression. -/
def bnd (ev : Operand → PVal) : Option Operand → Option (Option Int)
  | none => some none
  | some x => (intOf? (ev x)).map some

/-- [lo : hi : max] of so many. -/
def bounds (n : Nat) (lo hi mx : Option Int) : Option (Nat × Nat × Bool) :=
  let m : Int := mx.getD n
  let h : Int := hi.getD n
  let l : Int := lo.getD 0
  if mx.isSome && hi.isNone then none else
  if 0 ≤ l ∧ l ≤ h ∧ h ≤ m ∧ m ≤ n then some (l.toNat, h.toNat, mx.isSome && decide (h = m)) else none

def sliceP (P : Program) (t : TypeId) (x : PVal) (lo hi mx : Option Int) : Option PVal :=
  match x with
  | .c (.sc (.string s)) =>
    match P.underlying t with
    | some .string => if mx.isSome then none else (bounds s.size lo hi none).map fun (l, h, _) => .c (.sc (.string (s.extract l h)))
    | _ => none
  | .c (.sc (.slice none 0 0)) =>
    match slOf P t with
    | some _ => (bounds 0 lo hi mx).map fun _ => .c (.sc (.slice none 0 0))
    | none => none
  | .c (.tr tt sz els) =>
    match slOf P t with
    | some (_, sz', _) => if sz' = sz then
        (bounds els.length lo hi mx).map fun (l, h, e) => .c (.tr (e || (tt && mx.isNone && decide (h = els.length))) sz ((els.drop l).take (h - l)))
      else none
    | none => none
  | .c (.sl r ver off sz len) =>
    match slOf P t with
    | some (_, sz', _) => if sz' = sz then
        (bounds len lo hi mx).map fun (l, h, e) => if l = 0 || l < h then .c (.sl r ver (off + l * sz) sz (h - l)) else .c (.tr e sz [])
      else none
    | none => none
  | _ => none

def indexAddrP (P : Program) (t : TypeId) (x i : PVal) : Option PVal :=
  match intOf? i with
  | none => none
  | some i =>
    match x with
    | .c (.ptr r ver off) => match arrOf P t with
      | some (n, sz) => if 0 ≤ i ∧ i < n then some (.c (.ptr r ver (off + i.toNat * sz))) else none
      | none => none
    | .c (.tp cs off) => match arrOf P t with
      | some (n, sz) => if 0 ≤ i ∧ i < n then some (.c (.tp cs (off + i.toNat * sz))) else none
      | none => none
    | .c (.sl r ver off sz len) => match slOf P t with
      | some (_, sz', _) => if sz' = sz ∧ 0 ≤ i ∧ i < len then some (.c (.ptr r ver (off + i.toNat * sz))) else none
      | none => none
    | .c (.tr _ sz els) => match slOf P t with
      | some (_, sz', _) => if sz' = sz ∧ 0 ≤ i then (els[i.toNat]?).map fun c => .c (.tp c 0) else none
      | none => none
    | _ => none

def lenP : PVal → Option Int
  | .c (.sc (.slice none n _)) => some n
  | .c (.tr _ _ els) => some els.length
  | .c (.sl _ _ _ _ len) => some len
  | _ => none

def maxInt (k : IntKind) : Int → List PVal → Option PVal
  | x, [] => some (.c (.sc (.int k x)))
  | x, .c (.sc (.int _ y)) :: r => maxInt k (if y > x then y else x) r
  | _, _ => none

def minInt (k : IntKind) : Int → List PVal → Option PVal
  | x, [] => some (.c (.sc (.int k x)))
  | x, .c (.sc (.int _ y)) :: r => minInt k (if y < x then y else x) r
  | _, _ => none

/-- What is appended. -/
def srcOf (sz : Nat) : PVal → Option Src
  | .c (.sc (.slice none n _)) => if n = 0 then some (.cells [] 0) else none
  | .c (.tr _ sz' els) => if sz' = sz then some (.cells els.flatten els.length) else none
  | .c (.sl r ver off sz' len) => if sz' = sz then some (.row r ver off sz len) else none
  | _ => none

def Src.n : Src → Nat
  | .cells _ n => n
  | .row _ _ _ _ n => n

def appendP (P : Program) (t : TypeId) (xt : Option TypeId) (s x : PVal) : Option Actn :=
  match slOf P t, zeroOf P (((slOf P t).map (·.1)).getD 0) with
  | some (e, sz, bytes), some z =>
    if z.length ≠ sz || bytes = 0 || sz = 0 then none else
    let src : Option Src := match xt.bind P.underlying with
      | some (.int _) => match intOf? x with
        | some n => if 0 ≤ n ∧ n * bytes ≤ 2 ^ 47 then some (.cells (List.replicate n.toNat (z.map PCell.sc)).flatten n.toNat) else none
        | none => none
      | some (.slice _) => srcOf sz x
      | _ => none
    match src with
    | none => none
    | some src =>
      match s with
      | .c (.sc (.slice none 0 0)) => if src.n = 0 then some (.val s) else if src.n * bytes ≤ 2 ^ 47 then some (.grow e sz bytes [] 0 src) else none
      | .c (.tr tt sz' els) =>
        if sz' ≠ sz then none
        else if src.n = 0 then some (.val s)
        else if tt && decide ((els.length + src.n) * bytes ≤ 2 ^ 47) then some (.grow e sz bytes els.flatten els.length src) else none
      | .c (.sl r ver off sz' len) =>
        if sz' ≠ sz then none
        else if src.n = 0 then some (.val s)
        else if off = 0 ∧ (len + src.n) * bytes ≤ 2 ^ 47 ∧ (match xt with | some xt => xt == t | none => false) = true then some (.app r ver e sz len bytes src) else none
      | _ => none
  | _, _ => none

/-- Octets of cells. -/
def bytesOfCells : List PCell → Option (List UInt8)
  | [] => some []
  | .sc (.int .u8 n) :: r => (bytesOfCells r).map (UInt8.ofNat n.toNat :: ·)
  | _ => none

def convP (P : Program) (src dst : TypeId) (x : PVal) : Option Actn :=
  match P.underlying src, P.underlying dst with
  | some _, some (.int k) => match x with
    | .c (.sc (.int _ n)) => some (.val (.c (.sc (.int k (k.wrap n)))))
    | _ => none
  | some (.slice e), some .string =>
    match P.underlying e, P.info? e with
    | some (.int .u8), some i => if i.size ≠ 1 then none else match x with
      | .c (.sc (.slice none _ _)) => some (.val (.c (.sc (.string .empty))))
      | .c (.tr _ sz els) => if sz = 1 then (bytesOfCells els.flatten).map fun l => .val (.c (.sc (.string ⟨l.toArray⟩))) else none
      | .c (.sl r ver off sz len) => if sz = 1 then some (.load r ver off (.str len)) else none
      | _ => none
    | _, _ => none
  | some .string, some .string => match x with
    | .c (.sc (.string s)) => some (.val x)
    | _ => none
  | _, _ => none

def capCells : List PVal → Option (List PCell)
  | [] => some []
  | .c x :: r => (capCells r).map (x :: ·)
  | _ => none

/-- What an operation asks of its operands alone. -/
def actOf (P : Program) (o : Oper) (ev : Operand → PVal) : Option Actn :=
  match o.op with
  | .move x => some (.val (ev x))
  | .assign x => some (.val (ev x))
  | .pick c a b => match ev c with
    | .c (.sc (.bool t)) => some (.val (if t then ev a else ev b))
    | _ => none
  | .alloc e => (zeroOf P e).map fun z => .new e (z.map .sc)
  | .box e x => (cellsOf (ev x)).map fun cs => .new e cs
  | .build t parts => match placesOf P t, zeroOf P t with
    | some pl, some z => (fillP (placeAt pl) (z.map .sc) (parts.toList.map fun p => (p.1, ev p.2))).map fun cs => .val (.agg cs)
    | _, _ => none
  | .buildSlice t len parts => match slOf P t with
    | some (e, sz, _) => match zeroOf P e with
      | some z => if z.length ≠ sz || len * sz > 2 ^ 24 then none else
        (fillP (placeAt (.inr sz)) (List.replicate len (z.map PCell.sc)).flatten (parts.toList.map fun p => (p.1, ev p.2))).map fun cs => .lit e sz len cs
      | none => none
    | none => none
  | .load t a => match aggN P t with
    | some k => match ev a with
      | .c (.ptr r ver off) => some (.load r ver off (lkOf k))
      | .c (.tp cs off) => (partP cs off k).map .val
      | _ => none
    | none => none
  | .store t a x => match aggN P t, ev a, cellsOf (ev x) with
    | some k, .c (.ptr r ver off), some cs => if cs.length = k.getD 1 then some (.store r ver off cs) else none
    | _, _, _ => none
  | .nilCheck x => match ev x with
    | .c (.ptr r ver off) => some (.val (.c (.ptr r ver off)))
    | .c (.tp cs off) => some (.val (.c (.tp cs off)))
    | .c (.fn f caps) => some (.val (.c (.fn f caps)))
    | _ => none
  | .binOp op t x y _ => (binP P op t (ev x) (ev y)).map .val
  | .unOp op _ x => (unP op (ev x)).map .val
  | .convert s d x => convP P s d (ev x)
  | .makeInterface t x => match P.underlying t with
    | some (.interface _) => none
    | some _ => match ev x with
      | .c (.sc v) => some (.val (.c (.sc (.iface t v))))
      | _ => none
    | none => none
  | .makeFunc fn first caps => match fn with
    | .func f => if first.isEmpty then (capCells (caps.toList.map ev)).map fun cs => .val (.c (.fn f cs)) else none
    | _ => none
  | .slice t x lo hi mx => match bnd ev lo, bnd ev hi, bnd ev mx with
    | some l, some h, some m => (sliceP P t (ev x) l h m).map .val
    | _, _, _ => none
  | .fieldAddr s x f => match fOff P s f, ev x with
    | some off, .c (.ptr r ver o) => some (.val (.c (.ptr r ver (o + off))))
    | some off, .c (.tp cs o) => some (.val (.c (.tp cs (o + off))))
    | _, _ => none
  | .field t x f => match fPart P t f, ev x with
    | some (off, k), .agg cs => (partP cs off k).map .val
    | _, _ => none
  | .indexAddr t x i => (indexAddrP P t (ev x) (ev i)).map .val
  | .index t x i => match arrOf P t, P.underlying t, ev x, intOf? (ev i) with
    | some (n, sz), some (.array _ e), .agg cs, some i =>
      match aggN P e with
      | some k => if 0 ≤ i ∧ i < n then (partP cs (i.toNat * sz) k).map .val else none
      | none => none
    | _, some .string, .c (.sc (.string s)), some i =>
      if 0 ≤ i then match s[i.toNat]? with
        | some b => some (.val (.c (.sc (.int .u8 b.toNat))))
        | none => none
      else none
    | _, _, _, _ => none
  | .extract t i => match ev t with
    | .tup vs => (vs[i]?).map .val
    | _ => none
  | .call c => match c.callee with
    | .value f => match ev f with
      | .c (.fn g caps) => some (.call g (c.args.toList.map ev ++ caps.map .c))
      | _ => none
    | .builtin .len => match c.args.toList, c.argTypes.toList with
      | [x], [t] => match P.underlying t with
        | some (.slice _) => (lenP (ev x)).map fun n => .val (.c (.sc (.int .i64 n)))
        | some .string => match ev x with
          | .c (.sc (.string s)) => some (.val (.c (.sc (.int .i64 s.size))))
          | _ => none
        | _ => none
      | _, _ => none
    | .builtin .cap => match c.args.toList, c.argTypes.toList with
      | [x], [t] => match P.underlying t, ev x with
        | some (.slice _), .c (.sc (.slice none n k)) => some (.val (.c (.sc (.int .i64 k))))
        | some (.slice _), .c (.tr true _ els) => some (.val (.c (.sc (.int .i64 els.length))))
        | _, _ => none
      | _, _ => none
    | .builtin .max => match c.args.toList.map ev with
      | .c (.sc (.int k x)) :: r => (maxInt k x r).map .val
      | _ => none
    | .builtin .min => match c.args.toList.map ev with
      | .c (.sc (.int k x)) :: r => (minInt k x r).map .val
      | _ => none
    | .builtin .append => match c.args.toList, c.argTypes[0]? with
      | [s, x], some t => appendP P t c.argTypes[1]? (ev s) (ev x)
      | _, _ => none
    | .builtin .panic => match c.args.toList with
      | [x] => match ev x with
        | .c (.sc (.iface t v)) => some (.pan (.iface t v))
        | _ => none
      | _ => none
    | _ => none
  | .panic x => match ev x with
    | .c (.sc (.iface t v)) => some (.pan (.iface t v))
    | _ => none
  | _ => none

end Go.PM
