/- An abstract machine for the Go model: values by content, a small heap, and the weakest precondition of code over them (definitions). -/
import Derived.Calls
import Derived.Scope
import Derived.Orders
import Derived.Laws.Sem
set_option autoImplicit false
namespace Go.AM

/-- Data by content. A slice of them can't be written any more. -/
inductive Dat where
  | bool (b : Bool)
  | int (k : IntKind) (n : Int)
  | str (s : ByteArray)
  | sl (nl : Bool) (l : List (List Dat))

/-- Abstract values. -/
inductive AV where
  | d (x : Dat)
  | lit (l : List (List Dat))
  | nilptr
  | ptr (i ver e off : Nat)
  | vptr (cs : List Dat) (off : Nat)
  | rs (i ver sz off len : Nat)
  | nilmap
  | map (i : Nat)
  | it (i : Nat)
  | func (f : FuncId) (first caps : List AV)
  | nilfunc
  | nilif
  | agg (l : List AV)
  | tup (l : List AV)
  | junk

instance : Inhabited AV := ⟨.junk⟩
instance : Inhabited Dat := ⟨.bool false⟩

structure MEnt where
  key : Dat
  val : AV
  born : Nat

inductive AObj where
  | mem (ver fro esz : Nat) (l : List (List AV))
  | map (es : List MEnt) (clock : Nat)
  | iter (m : Nat) (since : Nat) (seen : List Nat) (stepped : Nat)
  | iter0

abbrev AHeap := Nat → Option AObj
abbrev Env := Nat → AV

def AHeap.set (H : AHeap) (i : Nat) (o : AObj) : AHeap := fun j => if j = i then some o else H j
abbrev Ups := List (Nat × AObj)
def AHeap.sets (H : AHeap) : Ups → AHeap
  | [] => H
  | (i, o) :: us => AHeap.sets (H.set i o) us
def AHeap.le (H H' : AHeap) : Prop := ∀ i o, H i = some o → H' i = some o
def upd (e : Env) (d : Option Nat) (v : AV) : Env := match d with | some d => fun i => if i = d then v else e i | none => e

def AV.storable : AV → Bool
  | .tup _ => false
  | .junk => false
  | _ => true
def AV.cells : AV → List AV | .agg l => l | v => [v]
def AV.toDat : AV → Option Dat
  | .d x => some x
  | .lit l => some (.sl false l)
  | _ => none
def toDats : List AV → Option (List Dat)
  | [] => some []
  | v :: l => match v.toDat, toDats l with | some x, some xs => some (x :: xs) | _, _ => none
def toDatss : List (List AV) → Option (List (List Dat))
  | [] => some []
  | v :: l => match toDats v, toDatss l with | some x, some xs => some (x :: xs) | _, _ => none

/-- What a value of the program's text is. -/
def cvt : Value → AV
  | .bool b => .d (.bool b)
  | .int k n => .d (.int k n)
  | .string s => .d (.str s)
  | .pointer none => .nilptr
  | .slice none 0 0 => .d (.sl true [])
  | .map none => .nilmap
  | .nilFunc => .nilfunc
  | .nilIface => .nilif
  | _ => .junk
def cvtC : Value → AV
  | .agg cs => if cs.toList.all (·.oneCell') then .agg (cs.toList.map cvt) else .junk
  | .tuple vs => .tup (vs.toList.map cvt)
  | v => cvt v

def ev (e : Env) : Operand → AV
  | .tmp t => e t
  | .const v => cvtC v
  | .global _ => .junk
  | .func f => .func f [] []

/-! ### types -/
inductive TK where
  | bool | int (k : IntKind) | str
  | struct (fs : List (Nat × TypeId)) | slice (e : TypeId) | array (n : Nat) (e : TypeId) | map (k e : TypeId) | ptr (e : TypeId) | func | other

structure TI where
  agg : Bool
  size : Nat
  bytes : Nat
  zero : List AV
  k : TK

def tkOf : TypeDesc → TK
  | .bool => .bool
  | .int k => .int k
  | .string => .str
  | .struct fs => .struct (fs.toList.map fun f => (f.offset, f.type))
  | .slice e => .slice e
  | .array n e => .array n e
  | .map k e => .map k e
  | .pointer e => .ptr e
  | .func _ _ _ => .func
  | _ => .other
def isAggD : TypeDesc → Bool
  | .struct _ => true
  | .array _ _ => true
  | _ => false
def aggOk (b : Bool) : Value → Bool
  | .agg _ => b
  | v => !b && v.oneCell'
def fieldsOk (P : Program) : TypeDesc → Bool
  | .struct fs => fs.toList.all fun f => (P.info? f.type).isSome
  | .array _ e => (P.info? e).isSome
  | .slice e => (P.info? e).isSome
  | _ => true
def tiOf (P : Program) (t : TypeId) : Option TI :=
  match P.info? t, P.underlying t with
  | some i, some d => match i.zero with
    | some z => if (z.cells.toList.all (·.oneCell') && aggOk (isAggD d) z && fieldsOk P d && z.cells.size == i.size) = true then some { agg := isAggD d, size := i.size, bytes := i.bytes, zero := z.cells.toList.map cvt, k := tkOf d } else none
    | none => none
  | _, _ => none

/-! ### reading and writing -/
def partV (agg : Bool) (size : Nat) (cs : List AV) (off : Nat) : Option AV :=
  let l := (cs.drop off).take size
  if l.length = size then (if agg then some (.agg l) else match l with | [v] => some v | _ => none) else none
def ldV (agg : Bool) (size : Nat) (v : AV) (H : AHeap) : Option AV :=
  match v with
  | .ptr i ver e off => match H i with
    | some (.mem ver' _ _ l) => if ver = ver' then (match l[e]? with | some cs => partV agg size cs off | none => none) else none
    | _ => none
  | .vptr cs off => partV agg size (cs.map AV.d) off
  | _ => none
def setCells (cs : List AV) (off : Nat) (vs : List AV) : List AV := cs.take off ++ vs ++ cs.drop (off + vs.length)
def stA (size : Nat) (p v : AV) (H : AHeap) : Option Ups :=
  match p with
  | .ptr i ver e off => match H i with
    | some (.mem ver' fro esz l) => if ver = ver' ∧ fro ≤ e ∧ v.storable = true ∧ v.cells.length = size then (match l[e]? with
      | some cs => if off + size ≤ cs.length then some [(i, .mem ver' fro esz (l.set e (setCells cs off v.cells)))] else none
      | none => none) else none
    | _ => none
  | _ => none

/-! ### slices that are given away lose the right to be written -/
def frz (v : AV) (H : AHeap) : Option (AV × Ups) :=
  match v with
  | .rs i ver _ off len => match H i with
    | some (.mem ver' fro esz l) =>
      if ver = ver' then (match toDatss ((l.drop off).take len) with
        | some ds => if ds.length = len then some (.d (.sl false ds), [(i, .mem ver' (max fro (off + len)) esz l)]) else none
        | none => none) else none
    | _ => none
  | .lit l => some (.d (.sl false l), [])
  | v => some (v, [])
def frzL : List AV → AHeap → Option (List AV × Ups)
  | [], _ => some ([], [])
  | v :: l, H => match frz v H with
    | some (v', us) => match frzL l (H.sets us) with
      | some (l', us') => some (v' :: l', us ++ us')
      | none => none
    | none => none
def frzA (v : AV) (H : AHeap) : Option (AV × Ups) :=
  match v with
  | .agg l => match frzL l H with | some (l', us) => some (.agg l', us) | none => none
  | v => frz v H
def frzAL : List AV → AHeap → Option (List AV × Ups)
  | [], _ => some ([], [])
  | v :: l, H => match frzA v H with
    | some (v', us) => match frzAL l (H.sets us) with
      | some (l', us') => some (v' :: l', us ++ us')
      | none => none
    | none => none

/-! ### operators -/
def eqDat : TypeDesc → Dat → Dat → Option Bool
  | .bool, .bool a, .bool b => some (a == b)
  | .int _, .int k a, .int k' b => if k = k' then some (a == b) else none
  | .string, .str a, .str b => some (a == b)
  | _, _, _ => none
/-- '==' by the type, on cells. -/
def eqT (P : Program) : Nat → TypeId → List AV → List AV → Option Bool
  | 0, _, _, _ => none
  | d + 1, t, xs, ys =>
    match P.underlying t with
    | some (.struct fs) => if P.stoodInHeld t then none else
      fs.toList.foldr (fun f acc => if f.name ≠ "_" then
        (match eqT P d f.type ((xs.drop f.offset).take (P.cellsOf f.type)) ((ys.drop f.offset).take (P.cellsOf f.type)), acc with
        | some a, some b => some (a && b)
        | _, _ => none) else acc) (some true)
    | some (.array n e) =>
      if n = 0 then none else (List.range n).foldr (fun i acc =>
        (match eqT P d e ((xs.drop (i * P.cellsOf e)).take (P.cellsOf e)) ((ys.drop (i * P.cellsOf e)).take (P.cellsOf e)), acc with
        | some a, some b => some (a && b)
        | _, _ => none)) (some true)
    | some d => match xs, ys with
      | [.d x], [.d y] => eqDat d x y
      | _, _ => none
    | none => none
/-- Is it nil? By kinds: 0 slices, 1 maps, 2 functions, 3 pointers. -/
def isNil : Nat → AV → Option Bool
  | 0, .d (.sl nl _) => some nl
  | 0, .lit _ => some false
  | 0, .rs .. => some false
  | 1, .nilmap => some true
  | 1, .map _ => some false
  | 2, .nilfunc => some true
  | 2, .func .. => some false
  | 3, .nilptr => some true
  | 3, .ptr .. => some false
  | 3, .vptr .. => some false
  | _, _ => none
def intBin (op : BinOp) (k : IntKind) (a b : Int) : Option AV :=
  match op with
  | .add => some (.d (.int k (k.wrap (a + b))))
  | .sub => some (.d (.int k (k.wrap (a - b))))
  | .mul => some (.d (.int k (k.wrap (a * b))))
  | .quo => if b = 0 then none else some (.d (.int k (k.wrap (a.tdiv b))))
  | .rem => if b = 0 then none else some (.d (.int k (a.tmod b)))
  | .and => some (.d (.int k (k.wrap (BitVec.ofInt k.bits a &&& BitVec.ofInt k.bits b).toNat)))
  | .or => some (.d (.int k (k.wrap (BitVec.ofInt k.bits a ||| BitVec.ofInt k.bits b).toNat)))
  | .xor => some (.d (.int k (k.wrap (BitVec.ofInt k.bits a ^^^ BitVec.ofInt k.bits b).toNat)))
  | .andNot => some (.d (.int k (k.wrap (BitVec.ofInt k.bits a &&& ~~~ BitVec.ofInt k.bits b).toNat)))
  | .eql => some (.d (.bool (a == b)))
  | .neq => some (.d (.bool (a != b)))
  | .lss => some (.d (.bool (decide (a < b))))
  | .leq => some (.d (.bool (decide (a ≤ b))))
  | .gtr => some (.d (.bool (decide (a > b))))
  | .geq => some (.d (.bool (decide (a ≥ b))))
  | _ => none
def shiftBin (op : BinOp) (k : IntKind) (a b : Int) : Option AV :=
  if b < 0 then none else match op with
  | .shl => some (.d (.int k (k.wrap (a * 2 ^ (min b.toNat k.bits)))))
  | .shr => some (.d (.int k (a.fdiv (2 ^ (min b.toNat k.bits)))))
  | _ => none
def strBin (op : BinOp) (x y : ByteArray) : Option AV :=
  match op with
  | .eql => some (.d (.bool (x.toList == y.toList)))
  | .neq => some (.d (.bool (!(x.toList == y.toList))))
  | .lss => some (.d (.bool (Op.bytesLess x.toList y.toList)))
  | .leq => some (.d (.bool (Op.bytesLess x.toList y.toList || x.toList == y.toList)))
  | .gtr => some (.d (.bool (!(Op.bytesLess x.toList y.toList || x.toList == y.toList))))
  | .geq => some (.d (.bool (!(Op.bytesLess x.toList y.toList))))
  | .add => if ((x.size + y.size : Nat) : Int) > IntKind.i64.max then none else some (.d (.str (x ++ y)))
  | _ => none
def isShift : BinOp → Bool
  | .shl => true
  | .shr => true
  | _ => false
def intA (op : BinOp) (x y : AV) : Option AV :=
  match x, y with
  | .d (.int k a), .d (.int k' b) => if isShift op then shiftBin op k a b else if k = k' then intBin op k a b else none
  | _, _ => none
def strA (op : BinOp) (x y : AV) : Option AV :=
  match x, y with
  | .d (.str a), .d (.str b) => strBin op a b
  | _, _ => none
def boolA (op : BinOp) (x y : AV) : Option AV :=
  match x, y with
  | .d (.bool a), .d (.bool b) => match op with
    | .eql => some (.d (.bool (a == b)))
    | .neq => some (.d (.bool (!(a == b))))
    | _ => none
  | _, _ => none
def nilA (k : Nat) (op : BinOp) (x y : AV) : Option AV :=
  match isNil k x, isNil k y with
  | some true, some b => match op with
    | .eql => some (.d (.bool b))
    | .neq => some (.d (.bool (!b)))
    | _ => none
  | some false, some true => match op with
    | .eql => some (.d (.bool false))
    | .neq => some (.d (.bool (!false)))
    | _ => none
  | _, _ => none
def aggA (P : Program) (op : BinOp) (t : TypeId) (x y : AV) : Option AV :=
  match x, y with
  | .agg xs, .agg ys => if P.eqGuardType P.depth t = false then (match eqT P Op.maxDepth t xs ys with
    | some b => match op with
      | .eql => some (.d (.bool b))
      | .neq => some (.d (.bool (!b)))
      | _ => none
    | none => none) else none
  | _, _ => none
def binA (P : Program) (op : BinOp) (t : TypeId) (x y : AV) : Option AV :=
  match P.underlying t with
  | some (.int _) => intA op x y
  | some .string => strA op x y
  | some .bool => boolA op x y
  | some (.slice _) => nilA 0 op x y
  | some (.map _ _) => nilA 1 op x y
  | some (.func _ _ _) => nilA 2 op x y
  | some (.pointer _) => nilA 3 op x y
  | some (.struct _) => aggA P op t x y
  | some (.array _ _) => aggA P op t x y
  | _ => none
def unA (op : UnOp) (x : AV) : Option AV :=
  match op, x with
  | .not, .d (.bool b) => some (.d (.bool (!b)))
  | .neg, .d (.int k n) => some (.d (.int k (k.wrap (0 - n))))
  | .xor, .d (.int k n) => intBin .xor k (if k.signed then -1 else k.max) n
  | _, _ => none

/-! ### bytes and strings -/
def byteOfDat : List Dat → Option UInt8
  | [.int .u8 n] => some (UInt8.ofNat n.toNat)
  | _ => none
def bytesOfDats : List (List Dat) → Option (List UInt8)
  | [] => some []
  | c :: l => match byteOfDat c, bytesOfDats l with | some x, some xs => some (x :: xs) | _, _ => none
def datsOfStr (s : ByteArray) : List (List Dat) := s.data.toList.map fun b => [.int .u8 b.toNat]
/-- A slice's elements, if they are data. -/
def elemsOf (v : AV) (H : AHeap) : Option (List (List Dat)) :=
  match v with
  | .d (.sl _ l) => some l
  | .lit l => some l
  | .rs i ver _ off len => match H i with
    | some (.mem ver' _ _ l) => if ver = ver' then (match toDatss ((l.drop off).take len) with
        | some ds => if ds.length = len then some ds else none
        | none => none) else none
    | _ => none
  | _ => none
def elemsA (v : AV) (H : AHeap) : Option (List (List AV)) :=
  match v with
  | .d (.sl _ l) => some (l.map (·.map AV.d))
  | .lit l => some (l.map (·.map AV.d))
  | .rs i ver _ off len => match H i with
    | some (.mem ver' _ _ l) => if ver = ver' then (if ((l.drop off).take len).length = len then some ((l.drop off).take len) else none) else none
    | _ => none
  | _ => none
def cvI (k : IntKind) (x : AV) : Option AV :=
  match x with
  | .d (.int _ n) => some (.d (.int k (k.wrap n)))
  | _ => none
def cvSS (x : AV) : Option AV :=
  match x with
  | .d (.str s) => some (.d (.str s))
  | _ => none
def cvBS (x : AV) (H : AHeap) : Option AV :=
  match elemsOf x H with
  | some l => match bytesOfDats l with | some bs => some (.d (.str ⟨bs.toArray⟩)) | none => none
  | none => none
def cvA (P : Program) (src dst : TypeId) (x : AV) (H : AHeap) : Option AV :=
  match P.underlying src, P.underlying dst with
  | some (.int _), some (.int k) => cvI k x
  | some .string, some .string => cvSS x
  | some (.slice e), some .string => match P.underlying e with
    | some (.int .u8) => cvBS x H
    | _ => none
  | _, _ => none

/-! ### addresses, parts -/
def fieldA (ti : TI) (x : AV) (f : Nat) : Option AV :=
  match ti.k with
  | .struct fs => match fs[f]? with
    | some (o, _) => match x with
      | .ptr i ver e off => some (.ptr i ver e (off + o))
      | .vptr cs off => some (.vptr cs (off + o))
      | _ => none
    | none => none
  | _ => none
def indexAddrA (ti : TI) (esz : Nat) (x ix : AV) : Option AV :=
  match ix with
  | .d (.int _ n) => match ti.k, x with
    | .slice _, .rs i ver sz off len => if sz = esz ∧ 0 ≤ n ∧ n < len then some (.ptr i ver (off + n.toNat) 0) else none
    | .slice _, .d (.sl _ l) => if 0 ≤ n then (match l[n.toNat]? with | some c => if c.length = esz then some (.vptr c 0) else none | none => none) else none
    | .slice _, .lit l => if 0 ≤ n then (match l[n.toNat]? with | some c => if c.length = esz then some (.vptr c 0) else none | none => none) else none
    | .array m _, .ptr i ver e off => if 0 ≤ n ∧ n < m then some (.ptr i ver e (off + n.toNat * esz)) else none
    | .array m _, .vptr cs off => if 0 ≤ n ∧ n < m then some (.vptr cs (off + n.toNat * esz)) else none
    | _, _ => none
  | _ => none
def indexA (ti : TI) (ei : TI) (x ix : AV) : Option AV :=
  match ix with
  | .d (.int _ n) => match ti.k, x with
    | .array m _, .agg cs => if 0 ≤ n ∧ n < m then partV ei.agg ei.size cs (n.toNat * ei.size) else none
    | _, _ => none
  | _ => none
def indexStrA (x ix : AV) : Option AV :=
  match x, ix with
  | .d (.str s), .d (.int _ n) => if 0 ≤ n then (match s[n.toNat]? with | some b => some (.d (.int .u8 b.toNat)) | none => none) else none
  | _, _ => none
def bnd (o : Option AV) (dflt : Nat) : Option Nat :=
  match o with
  | none => some dflt
  | some (.d (.int _ n)) => if 0 ≤ n then some n.toNat else none
  | _ => none
/-- The first element's size says that of all. -/
def headLen (esz : Nat) : List (List Dat) → Bool
  | [] => true
  | c :: _ => c.length == esz
/-- 'x[l:h]'; of what was given away no more than it has. -/
def sliceStrA (x : AV) (lo hi : Option AV) : Option AV :=
  match x with
  | .d (.str s) => match bnd hi s.size with
      | some h => match bnd lo 0 with
        | some l => if l ≤ h ∧ h ≤ s.size then some (.d (.str (s.extract l h))) else none
        | none => none
      | none => none
  | _ => none
def sliceA (esz : Nat) (x : AV) (lo hi mx : Option AV) (H : AHeap) : Option AV :=
  match x with
  | .d (.sl nl el) => match bnd hi el.length, bnd lo 0 with
    | some h, some l => if l ≤ h ∧ h ≤ el.length ∧ (l = 0 ∨ headLen esz el = true) then (match mx with
        | none => some (.d (.sl nl ((el.drop l).take (h - l))))
        | some _ => match bnd mx 0 with
          | some m => if m = h then some (if nl = true then .d (.sl true ((el.drop l).take (h - l))) else .lit ((el.drop l).take (h - l))) else none
          | none => none) else none
    | _, _ => none
  | .lit el => match bnd hi el.length, bnd lo 0 with
    | some h, some l => if l ≤ h ∧ h ≤ el.length ∧ (l = 0 ∨ headLen esz el = true) then (match mx with
        | none => if h = el.length then some (.lit ((el.drop l).take (h - l))) else some (.d (.sl false ((el.drop l).take (h - l))))
        | some _ => match bnd mx 0 with
          | some m => if m = h then some (.lit ((el.drop l).take (h - l))) else none
          | none => none) else none
    | _, _ => none
  | .rs i ver sz off len => match H i with
    | some (.mem ver' _ _ el) => if ver = ver' then (match bnd hi len, bnd lo 0 with
        | some h, some l => (match mx with
          | none => if l ≤ h ∧ off + h ≤ el.length ∧ sz = esz then some (.rs i ver sz (off + l) (h - l)) else none
          | some _ => match bnd mx 0 with
            | some m => if l ≤ h ∧ h ≤ m ∧ off + m ≤ el.length then some .junk else none
            | none => none)
        | _, _ => none) else none
    | _ => none
  | _ => none
def fillA (place : Nat → Option (Nat × Nat)) (cells : List AV) : List (Nat × AV) → Option (List AV)
  | [] => some cells
  | (i, v) :: rest => match place i with
    | none => none
    | some (off, size) => if v.storable = true ∧ v.cells.length = size ∧ off + size ≤ cells.length then fillA place (setCells cells off v.cells) rest else none
def buildA (P : Program) (ti : TI) (parts : List (Nat × AV)) : Option AV :=
  match ti.k with
  | .struct fs => (fillA (fun i => (fs[i]?).map fun f => (f.1, P.cellsOf f.2)) ti.zero parts).map .agg
  | .array _ e => (fillA (fun i => some (i * P.cellsOf e, P.cellsOf e)) ti.zero parts).map .agg
  | _ => none
def repl (n : Nat) (z : List AV) : List (List AV) := List.replicate n z
def chunk (sz : Nat) : Nat → List AV → List (List AV)
  | 0, _ => []
  | n + 1, l => l.take sz :: chunk sz n (l.drop sz)
def buildSlA (ei : TI) (len : Nat) (parts : List (Nat × AV)) : Option (List (List AV)) :=
  if len * ei.size ≤ 2 ^ 24 ∧ 0 < ei.size then
    (fillA (fun i => some (i * ei.size, ei.size)) (repl len ei.zero).flatten parts).map (chunk ei.size len)
  else none
def extractA (x : AV) (i : Nat) : Option AV :=
  match x with
  | .tup l => l[i]?
  | _ => none

/-! ### maps -/
def oneCell0 : AV → Bool
  | .agg _ => false
  | .tup _ => false
  | _ => true
def keyEq : Dat → Dat → Option Bool
  | .int k a, .int k' b => if k = k' then some (a == b) else none
  | .str a, .str b => some (a == b)
  | .bool a, .bool b => some (a == b)
  | _, _ => none
def keyOk : TypeDesc → Dat → Bool
  | .int k, .int k' _ => decide (k = k')
  | .string, .str _ => true
  | .bool, .bool _ => true
  | _, _ => false
def findE (k : Dat) : List MEnt → Nat → Option (Option (Nat × AV))
  | [], _ => some none
  | e :: es, i => match keyEq k e.key with
    | some true => some (some (i, e.val))
    | some false => findE k es (i + 1)
    | none => none
def lookA (zero : AV) (m k : AV) (ok : Bool) (H : AHeap) : Option AV :=
  match k with
  | .d kd => match m with
    | .nilmap => some (if ok then .tup [zero, .d (.bool false)] else zero)
    | .map i => match H i with
      | some (.map es _) => match findE kd es 0 with
        | some (some (_, v)) => some (if ok then .tup [v, .d (.bool true)] else v)
        | some none => some (if ok then .tup [zero, .d (.bool false)] else zero)
        | none => none
      | _ => none
    | _ => none
  | _ => none
def zeroA (ti : TI) : Option AV := if ti.agg then some (.agg ti.zero) else match ti.zero with | [v] => some v | _ => none
def modifyE (es : List MEnt) (i : Nat) (f : MEnt → MEnt) : List MEnt := es.modify i f
def mapSetA (m k v : AV) (H : AHeap) : Option Ups :=
  match k with
  | .d kd => match m with
    | .map i => match H i with
      | some (.map es cl) => match findE kd es 0 with
        | some (some (j, _)) => some [(i, .map (es.modify j fun e => { e with key := kd, val := v }) cl)]
        | some none => some [(i, .map (es ++ [⟨kd, v, cl⟩]) (cl + 1))]
        | none => none
      | _ => none
    | _ => none
  | _ => none
def mapDelA (m k : AV) (H : AHeap) : Option Ups :=
  match k with
  | .d kd => match m with
    | .nilmap => some []
    | .map i => match H i with
      | some (.map es cl) => match findE kd es 0 with
        | some (some (j, _)) => some [(i, .map (es.eraseIdx j) cl)]
        | some none => some []
        | none => none
      | _ => none
    | _ => none
  | _ => none

/-- What the last step of a ranged map came to. -/
def entA (x : AV) (H : AHeap) : Option AV :=
  match x with
  | .it j => match H j with
    | some (.iter m _ seen stepped) => match H m with
      | some (.map es cl) => if cl = stepped then (match seen.getLast? with
        | some b => (match es.find? (fun e => e.born == b) with
          | some e => some (.tup [.d e.key, e.val])
          | none => none)
        | none => none) else none
      | _ => none
    | _ => none
  | _ => none
/-- A field of a value. -/
def fldA (agg : Bool) (size off : Nat) (x : AV) : Option AV :=
  match x with
  | .agg cs => partV agg size cs off
  | _ => none
/-- A map's place for a key, made if it was not there. -/
def meA (P : Program) (kt : TypeId) (z m k : AV) (H : AHeap) : Option (AV × Ups) :=
  match k with
  | .d kk => match P.underlying kt with
    | some kd => if keyOk kd kk = true ∧ z.storable = true then (match m with
      | .map i => match H i with
        | some (.map es cl) => match findE kk es 0 with
          | some (some (j, v)) => match es[j]? with
            | some e => some (.tup [v, .d (.int .i64 e.born)], [(i, .map (es.modify j fun e => { e with key := kk }) cl)])
            | none => none
          | some none => some (.tup [z, .d (.int .i64 cl)], [(i, .map (es ++ [⟨kk, z, cl⟩]) (cl + 1))])
          | none => none
        | _ => none
      | _ => none) else none
    | none => none
  | _ => none
/-- What is written at that place. -/
def esA (m s v : AV) (H : AHeap) : Option (AV × Ups) :=
  match m, s with
  | .map i, .d (.int _ b) => if v.storable = true ∧ oneCell0 v = true then (match H i with
    | some (.map es cl) => match es.findIdx? (fun e => decide ((e.born : Int) = b)) with
      | some j => some (.junk, [(i, .map (es.modify j fun e => { e with val := v }) cl)])
      | none => none
    | _ => none) else none
  | _, _ => none

/-! ### new memory: under the name n -/
def mostBytes : Nat := 2 ^ 47
/-- 'append': what was there goes over into a new version. -/
def appA (esz bytes : Nat) (s : AV) (ys : List (List AV)) (H : AHeap) (n : Nat) : Option (AV × Ups) :=
  match s with
  | .d (.sl true []) => match ys with
    | [] => some (.d (.sl true []), [])
    | y :: r => if (y :: r).length * bytes ≤ mostBytes then some (.rs n 0 esz 0 (y :: r).length, [(n, .mem 0 0 esz (y :: r))]) else none
  | .lit l => match ys with
    | [] => some (.lit l, [])
    | y :: r => if (l.length + (y :: r).length) * bytes ≤ mostBytes ∧ (l.all fun c => c.length == esz) = true then
        some (.rs n 0 esz 0 (l.length + (y :: r).length), [(n, .mem 0 0 esz (l.map (·.map AV.d) ++ (y :: r)))]) else none
  | .rs i ver _ off len => match H i with
    | some (.mem ver' fro esz' l) => if ver = ver' ∧ esz' = esz ∧ fro ≤ off + len ∧ off + len + ys.length ≤ l.length then
        some (.rs i ver esz off (len + ys.length), [(i, .mem ver fro esz (l.take (off + len) ++ ys ++ l.drop (off + len + ys.length)))])
      else if ver = ver' ∧ esz' = esz ∧ fro ≤ off + len ∧ off + len ≤ l.length ∧ (len + ys.length) * bytes ≤ mostBytes then
        some (.rs i (ver + 1) esz 0 (len + ys.length), [(i, .mem (ver + 1) (fro - off) esz ((l.drop off).take len ++ ys))]) else none
    | _ => none
  | _ => none
def lenSl (v : AV) : Option AV :=
  match v with
  | .d (.sl _ l) => some (.d (.int .i64 l.length))
  | .lit l => some (.d (.int .i64 l.length))
  | .rs _ _ _ _ len => some (.d (.int .i64 len))
  | _ => none
def lenStr (v : AV) : Option AV :=
  match v with
  | .d (.str s) => some (.d (.int .i64 s.size))
  | _ => none
def lenMp (v : AV) (H : AHeap) : Option AV :=
  match v with
  | .nilmap => some (.d (.int .i64 0))
  | .map i => match H i with | some (.map es _) => some (.d (.int .i64 es.length)) | _ => none
  | _ => none
def min2A : AV → AV → Option AV
  | .d (.int k x), .d (.int _ y) => some (.d (.int k (if y < x then y else x)))
  | _, _ => none
def max2A : AV → AV → Option AV
  | .d (.int k x), .d (.int _ y) => some (.d (.int k (if y > x then y else x)))
  | _, _ => none
def foldA (f : AV → AV → Option AV) : List AV → Option AV
  | [] => none
  | x :: rest => rest.foldl (fun a y => match a with | some x => f x y | none => none) (some x)

/-! ### operations that leave the heap alone -/
def oneCell : AV → Bool
  | .agg _ => false
  | .tup _ => false
  | _ => true
def noRs : AV → Bool
  | .rs .. => false
  | .agg l => l.all fun v => match v with | .rs .. => false | _ => true
  | _ => true
def nilCkA (x : AV) : Option AV :=
  match x with
  | .ptr i v e o => some (.ptr i v e o)
  | .vptr cs o => some (.vptr cs o)
  | .func f [] b => some (.func f [] b)
  | _ => none
def capA (x : AV) : Option AV :=
  match x with
  | .d (.sl true []) => some (.d (.int .i64 0))
  | .lit l => some (.d (.int .i64 l.length))
  | _ => none
def lookKA (P : Program) (k : TypeId) (x : AV) (f : AV → Option AV) : Option AV :=
  match x with
  | .d kk => match P.underlying k with
    | some kd => if keyOk kd kk then f (.d kk) else none
    | none => none
  | _ => none
def evalN (P : Program) (ρ : Operand → AV) (H : AHeap) (op : Op) : Option AV :=
  match op with
  | .load t x => match tiOf P t with | some i => ldV i.agg i.size (ρ x) H | none => none
  | .binOp op t x y _ => binA P op t (ρ x) (ρ y)
  | .unOp op _ x => unA op (ρ x)
  | .convert s t x => cvA P s t (ρ x) H
  | .fieldAddr s x f => match tiOf P s with
    | some i => match i.k with
      | .struct fs => match fs[f]? with | some (_, ft) => if P.cellsOf ft = 0 then none else fieldA i (ρ x) f | none => none
      | _ => none
    | none => none
  | .indexAddr t x ix => match tiOf P t with
    | some i => match i.k with
      | .slice e => if P.cellsOf e = 0 then none else indexAddrA i (P.cellsOf e) (ρ x) (ρ ix)
      | .array _ e => if P.cellsOf e = 0 then none else indexAddrA i (P.cellsOf e) (ρ x) (ρ ix)
      | _ => none
    | none => none
  | .index t x ix => match tiOf P t with
    | some i => match i.k with
      | .array _ e => match tiOf P e with | some ei => indexA i ei (ρ x) (ρ ix) | none => none
      | .str => indexStrA (ρ x) (ρ ix)
      | _ => none
    | none => none
  | .extract x i => extractA (ρ x) i
  | .slice t x lo hi mx => match tiOf P t with
    | some i => match i.k with
      | .slice e => match hi, mx with
        | none, some _ => none
        | _, _ => if P.cellsOf e = 0 then none else sliceA (P.cellsOf e) (ρ x) (lo.map ρ) (hi.map ρ) (mx.map ρ) H
      | .str => match mx with | none => sliceStrA (ρ x) (lo.map ρ) (hi.map ρ) | some _ => none
      | _ => none
    | none => none
  | .lookup t x ix ok => match tiOf P t with
    | some i => match i.k with
      | .map k e => match tiOf P e with
        | some ei => match zeroA ei with
          | some z => lookKA P k (ρ ix) fun kk => lookA z (ρ x) kk ok H
          | none => none
        | none => none
      | _ => none
    | none => none
  | .nilCheck x => nilCkA (ρ x)
  | .entry x => entA (ρ x) H
  | .field t x f => match tiOf P t with
    | some i => match i.k with
      | .struct fs => match fs[f]? with
        | some (o, ft) => match tiOf P ft with | some fi => fldA fi.agg fi.size o (ρ x) | none => none
        | none => none
      | _ => none
    | none => none
  | .call c => match c.callee with
    | .builtin .len => match c.args.toList, c.argTypes.toList with
      | [x], [t] => match tiOf P t with
        | some i => match i.k with
          | .array n _ => some (.d (.int .i64 n))
          | .slice _ => lenSl (ρ x)
          | .str => lenStr (ρ x)
          | .map _ _ => lenMp (ρ x) H
          | _ => none
        | none => none
      | _, _ => none
    | .builtin .cap => match c.args.toList, c.argTypes.toList with
      | [x], [t] => match tiOf P t with
        | some i => match i.k with
          | .slice _ => capA (ρ x)
          | _ => none
        | none => none
      | _, _ => none
    | .builtin .min => foldA min2A (c.args.toList.map ρ)
    | .builtin .max => foldA max2A (c.args.toList.map ρ)
    | _ => none
  | _ => none
def optA {α : Type} (o : Option α) (K : α → Prop) : Prop := match o with | some v => K v | none => False
def ifA (v : AV) (X Y : Prop) : Prop :=
  match v with
  | .d (.bool true) => X
  | .d (.bool false) => Y
  | _ => False
def frzLK (l : List AV) (H : AHeap) (K : List AV → AHeap → Prop) : Prop := optA (frzAL l H) fun r => K r.1 (H.sets r.2)

/-- What calls do. -/
abbrev Calld := FuncId → List AV → AHeap → (AV → AHeap → Prop) → Prop
/-- Which functions get slices by content; which slots are frozen ahead of a region that draws its order. -/
structure Pol where
  lend : FuncId → Bool
  keep : List Nat
  frz : Nat → List Nat
  perm : Nat → List Nat
  bf : Nat → List Nat
  ret : Bool
  tail : Nat → Bool := fun _ => false
  jn : List (Nat × List Nat) := []
  eff : Nat → Bool := fun _ => false
  fz : Bool := false
  fzr : Nat → Bool := fun _ => false

def argsA (pol : Pol) (g : FuncId) (l : List AV) (H : AHeap) (K : List AV → AHeap → Prop) : Prop :=
  if pol.lend g then frzLK l H K else K l H
def boxA (x : AV) (n : Nat) : Option (AV × Ups) := if x.storable then some (.ptr n 0 0 0, [(n, .mem 0 0 x.cells.length [x.cells])]) else none
def stoA (agg : Bool) (size : Nat) (p v : AV) (H : AHeap) : Option (AV × Ups) :=
  if agg then (match v with
    | .agg l => (match frzL l H with
      | some (l', us) => match stA size p (.agg l') (H.sets us) with
        | some us' => some (.junk, us ++ us')
        | none => none
      | none => none)
    | _ => none)
  else match stA size p v H with
    | some us => some (.junk, us)
    | none => none
def bdA (P : Program) (i : TI) (ix : List Nat) (vs : List AV) (H : AHeap) : Option (AV × Ups) :=
  match frzAL vs H with
  | some (vs', us) => match buildA P i (List.zip ix vs') with
    | some v => some (v, us)
    | none => none
  | none => none
def bsA (ei : TI) (len : Nat) (ix : List Nat) (vs : List AV) (H : AHeap) (n : Nat) : Option (AV × Ups) :=
  match frzAL vs H with
  | some (vs', us) => match buildSlA ei len (List.zip ix vs') with
    | some cs => match toDatss cs with
      | some ds => some (.lit ds, us)
      | none => some (.rs n 0 ei.size 0 len, us ++ [(n, .mem 0 0 ei.size cs)])
    | none => none
  | none => none
def mkSlA (ei : TI) (k c : AV) (n : Nat) : Option (AV × Ups) :=
  match k, c with
  | .d (.int _ k), .d (.int _ c) => if 0 ≤ k ∧ k ≤ c ∧ c.toNat * ei.bytes ≤ mostBytes ∧ 0 < ei.size ∧ 0 < ei.bytes then
      some (.rs n 0 ei.size 0 k.toNat, [(n, .mem 0 0 ei.size (repl k.toNat ei.zero))]) else none
  | _, _ => none
def muA (P : Program) (kt : TypeId) (m k v : AV) (H : AHeap) : Option (AV × Ups) :=
  match k with
  | .d kk => match P.underlying kt with
    | some kd => if keyOk kd kk = true ∧ v.storable = true then (match v with
      | .agg l => (match frzL l H with
        | some (l', us) => match mapSetA m (.d kk) (.agg l') (H.sets us) with
          | some us' => some (.junk, us ++ us')
          | none => none
        | none => none)
      | v => match mapSetA m (.d kk) v H with
        | some us => some (.junk, us)
        | none => none) else none
    | none => none
  | _ => none
def sbA (x : AV) : Option (AV × Ups) :=
  match x with
  | .d (.str b) => some (.d (.sl false (datsOfStr b)), [])
  | _ => none
def rgA (m : AV) (H : AHeap) (n : Nat) : Option (AV × Ups) :=
  match m with
  | .nilmap => some (.it n, [(n, .iter0)])
  | .map m => match H m with
    | some (.map _ cl) => some (.it n, [(n, .iter m cl [] cl)])
    | _ => none
  | _ => none
def apA (esz bytes : Nat) (s x : AV) (H : AHeap) (n : Nat) : Option (AV × Ups) :=
  match elemsA x H with
  | some ys => if 0 < esz ∧ 0 < bytes ∧ (ys.all fun y => y.length == esz) = true then appA esz bytes s ys H n else none
  | none => none
def apzA (ei : TI) (s k : AV) (H : AHeap) (n : Nat) : Option (AV × Ups) :=
  match k with
  | .d (.int _ k) => if 0 ≤ k ∧ 0 < ei.size ∧ 0 < ei.bytes ∧ k.toNat * ei.bytes ≤ mostBytes then appA ei.size ei.bytes s (repl k.toNat ei.zero) H n else none
  | _ => none
/-- clear(s). -/
def clrA (ei : TI) (d : AV) (H : AHeap) : Option Ups :=
  match d with
  | .d (.sl _ []) => some []
  | .lit [] => some []
  | .rs i ver sz off len => if len = 0 then some [] else match H i with
    | some (.mem v fro z l) => if v = ver ∧ z = sz ∧ sz = ei.size ∧ 0 < ei.size ∧ fro ≤ off ∧ off + len ≤ l.length then some [(i, .mem v fro z (l.take off ++ repl len ei.zero ++ l.drop (off + len)))] else none
    | _ => none
  | _ => none
/-- clear(s), as a step. -/
def clA (ei : TI) (d : AV) (H : AHeap) : Option (AV × Ups) :=
  match clrA ei d H with
  | some us => some (.tup [], us)
  | none => none
/-- copy(d, s). -/
def cpyA (esz : Nat) (d s : AV) (H : AHeap) : Option (AV × Ups) :=
  match elemsA s H with
  | some ys => if (ys.all fun y => y.length == esz) = true ∧ 0 < esz then match d with
    | .d (.sl _ []) => some (.d (.int .i64 0), [])
    | .lit [] => some (.d (.int .i64 0), [])
    | .rs i ver sz off len => if Nat.min ys.length len = 0 then some (.d (.int .i64 0), []) else match H i with
      | some (.mem v fro z l) => if v = ver ∧ z = sz ∧ sz = esz ∧ fro ≤ off ∧ off + len ≤ l.length then some (.d (.int .i64 (Nat.min ys.length len)), [(i, .mem v fro z (l.take off ++ ys.take (Nat.min ys.length len) ++ l.drop (off + Nat.min ys.length len)))]) else none
      | _ => none
    | _ => none
    else none
  | none => none
def mdA (P : Program) (kt : TypeId) (m k : AV) (H : AHeap) : Option (AV × Ups) :=
  match k with
  | .d kk => match P.underlying kt with
    | some kd => if keyOk kd kk = true then (match mapDelA m (.d kk) H with
      | some us => some (.tup [], us)
      | none => none) else none
    | none => none
  | _ => none
def noUps (o : Option AV) : Option (AV × Ups) := match o with | some v => some (v, []) | none => none
/-- May it make an object of its own? -/
def makes : Op → Bool
  | .alloc _ => true
  | .box .. => true
  | .buildSlice .. => true
  | .makeSlice .. => true
  | .makeMap .. => true
  | .range .. => true
  | .call c => match c.callee with | .builtin .append => true | _ => false
  | _ => false
/-- An operation that is no call of a function: its value, and what becomes of the heap. -/
def stepA (P : Program) (ρ : Operand → AV) (op : Op) (H : AHeap) (n : Nat) : Option (AV × Ups) :=
  match op with
  | .alloc t => match tiOf P t with
    | some i => some (.ptr n 0 0 0, [(n, .mem 0 0 i.size [i.zero])])
    | none => none
  | .box _ x => boxA (ρ x) n
  | .store t p v => match tiOf P t with
    | some i => stoA i.agg i.size (ρ p) (ρ v) H
    | none => none
  | .build t parts => match tiOf P t with
    | some i => bdA P i (parts.toList.map (·.1)) (parts.toList.map fun p => ρ p.2) H
    | none => none
  | .buildSlice t len parts => match tiOf P t with
    | some i => match i.k with
      | .slice e => match tiOf P e with
        | some ei => bsA ei len (parts.toList.map (·.1)) (parts.toList.map fun p => ρ p.2) H n
        | none => none
      | _ => none
    | none => none
  | .makeSlice t l c => match tiOf P t with
    | some i => match i.k with
      | .slice e => match tiOf P e with
        | some ei => mkSlA ei (ρ l) (ρ c) n
        | none => none
      | _ => none
    | none => none
  | .makeMap _ r => match r with
    | none => some (.map n, [(n, .map [] 0)])
    | some _ => none
  | .mapUpdate t m k v => match tiOf P t with
    | some i => match i.k with
      | .map kt _ => muA P kt (ρ m) (ρ k) (ρ v) H
      | _ => none
    | none => none
  | .insert t m k v => match tiOf P t with
    | some i => match i.k with
      | .map kt _ => muA P kt (ρ m) (ρ k) (ρ v) H
      | _ => none
    | none => none
  | .mapEntry t m k => match tiOf P t with
    | some i => match i.k with
      | .map kt e => match tiOf P e with
        | some ei => match zeroA ei with
          | some z => meA P kt z (ρ m) (ρ k) H
          | none => none
        | none => none
      | _ => none
    | none => none
  | .entryStore _ m s v => esA (ρ m) (ρ s) (ρ v) H
  | .convert s t x => match P.underlying s, P.underlying t with
    | some .string, some (.slice e) => match P.underlying e with
      | some (.int .u8) => sbA (ρ x)
      | _ => none
    | _, _ => noUps (evalN P ρ H (.convert s t x))
  | .range t x => match tiOf P t with
    | some i => match i.k with
      | .map _ _ => rgA (ρ x) H n
      | _ => none
    | none => none
  | .call c => match c.callee with
    | .builtin .append => match c.args.toList, c.argTypes.toList with
      | [s, x], [st, xt] => match tiOf P st with
        | some si => match si.k with
          | .slice e => match tiOf P e with
            | some ei => match P.underlying xt with
              | some (.int _) => apzA ei (ρ s) (ρ x) H n
              | some (.slice _) => apA ei.size ei.bytes (ρ s) (ρ x) H n
              | _ => none
            | none => none
          | _ => none
        | none => none
      | _, _ => none
    | .builtin .delete => match c.args.toList, c.argTypes.toList with
      | [m, k], mt :: _ => match tiOf P mt with
        | some i => match i.k with
          | .map kt _ => mdA P kt (ρ m) (ρ k) H
          | _ => none
        | none => none
      | _, _ => none
    | .builtin .clear => match c.args.toList, c.argTypes.toList with
      | [x], [st] => match tiOf P st with
        | some si => match si.k with
          | .slice e => match tiOf P e with
            | some ei => clA ei (ρ x) H
            | none => none
          | _ => none
        | none => none
      | _, _ => none
    | .builtin .copy => match c.args.toList, c.argTypes.toList with
      | [d, x], [st, _] => match tiOf P st with
        | some si => match si.k with
          | .slice e => match tiOf P e with
            | some ei => cpyA ei.size (ρ d) (ρ x) H
            | none => none
          | _ => none
        | none => none
      | _, _ => none
    | _ => noUps (evalN P ρ H (.call c))
  | op => noUps (evalN P ρ H op)
def nxA (x : AV) (H : AHeap) (K : AV → AHeap → Prop) : Prop :=
  match x with
  | .it j => match H j with
    | some .iter0 => K (.tup [.d (.bool false)]) H
    | some (.iter m since seen stepped) => match H m with
      | some (.map es cl) =>
        (seen ≠ [] → es ≠ [] → es.all (fun x => decide (stepped ≤ x.born)) = false) ∧
        ((∀ x ∈ es, x.born ∉ seen → ¬ x.born < since) → K (.tup [.d (.bool false)]) H) ∧
        ∀ x ∈ es, x.born ∉ seen → K (.tup [.d (.bool true), .d x.key, x.val]) (H.set j (.iter m since (seen ++ [x.born]) cl))
      | _ => False
    | _ => False
  | _ => False
def callA (γ : Calld) (pol : Pol) (f : AV) (as : List AV) (H : AHeap) (K : AV → AHeap → Prop) : Prop :=
  match f with
  | .func g first caps => argsA pol g (first ++ as ++ caps) H fun as H' => γ g as H' K
  | _ => False
def newA (H : AHeap) (X : Nat → Prop) : Prop := ∀ n, H n = none → X n
def stepK (o : Option (AV × Ups)) (H : AHeap) (K : AV → AHeap → Prop) : Prop := optA o fun r => K r.1 (H.sets r.2)
def newK (H : AHeap) (f : Nat → Option (AV × Ups)) (K : AV → AHeap → Prop) : Prop := newA H fun n => stepK (f n) H K
/-- It only reads. -/
def pureOp (P : Program) : Op → Bool
  | .load .. => true
  | .binOp .. => true
  | .unOp .. => true
  | .convert _ t _ => match P.underlying t with | some (.slice _) => false | _ => true
  | .fieldAddr .. => true
  | .indexAddr .. => true
  | .index .. => true
  | .extract .. => true
  | .slice .. => true
  | .lookup .. => true
  | .nilCheck _ => true
  | .entry _ => true
  | .field .. => true
  | .call c => match c.callee with
    | .builtin .len => true
    | .builtin .cap => true
    | .builtin .min => true
    | .builtin .max => true
    | _ => false
  | _ => false
def genX (P : Program) (ρ : Operand → AV) (op : Op) (H : AHeap) (K : AV → AHeap → Prop) : Prop :=
  match op with
  | .move x => K (ρ x) H
  | .assign x => K (ρ x) H
  | .pick c a b => ifA (ρ c) (K (ρ a) H) (K (ρ b) H)
  | .makeFunc (.func f) first caps => K (.func f (first.toList.map ρ) (caps.toList.map ρ)) H
  | op => if pureOp P op then optA (evalN P ρ H op) fun v => K v H
  else if makes op then newK H (fun n => stepA P ρ op H n) K
  else stepK (stepA P ρ op H 0) H K
def isCall : Op → Option (Operand × Array Operand)
  | .call c => match c.callee with | .value f => some (f, c.args) | _ => none
  | _ => none
def opX (P : Program) (γ : Calld) (pol : Pol) (ρ : Operand → AV) (op : Op) (H : AHeap) (K : AV → AHeap → Prop) : Prop :=
  match isCall op with
  | some (f, as) => callA γ pol (ρ f) (as.toList.map ρ) H K
  | none => match op with
    | .next x isStr => if isStr then False else nxA (ρ x) H K
    | op => genX P ρ op H K

/-- The slot whose bool a guard asks. -/
def guardSlot (all : List Oper) (j : Nat) : Option Nat := (all[j]?).bind (·.dst)

/-- Does a guard ask operation number i? -/
def isG (all : List Oper) (i : Nat) : Bool := all.any fun o => match o.guard with | some (j, _) => j == i | none => false
/-- A bool that a guard will ask is told apart at once. -/
def splitK (b : Bool) (v : AV) (K : AV → Prop) : Prop := if b then ifA v (K (.d (.bool true))) (K (.d (.bool false))) else K v
/-- The bytes of a constant: a row, and behind it its conversion to its own type. -/
structure LitPair where
  t : TypeId
  len : Nat
  parts : Array (Nat × Operand)
  d : Nat
  d2 : Nat
def litPair (all : List Oper) (i : Nat) : Option LitPair :=
  match all[i]?, all[i + 1]? with
  | some o, some o' => match o.op, o.dst, o.guard, o'.op, o'.dst, o'.guard with
    | .buildSlice t len parts, some d, none, .convert t1 t2 (.tmp d'), some d2, none =>
      if t1 = t ∧ t2 = t ∧ d' = d ∧ isG all i = false ∧ isG all (i + 1) = false then some ⟨t, len, parts, d, d2⟩ else none
    | _, _, _, _, _, _ => none
  | _, _ => none
def litA (P : Program) (ρ : Operand → AV) (q : LitPair) (H : AHeap) : Option (List (List Dat)) :=
  match P.underlying q.t with
  | some (.slice e) => match P.underlying e with
    | some (.int .u8) => match tiOf P e with
      | some ei => match bsA ei q.len (q.parts.toList.map (·.1)) (q.parts.toList.map fun p => ρ p.2) H 0 with
        | some (.lit ds, []) => some ds
        | _ => none
      | none => none
    | _ => none
  | _ => none
/-- The operations from number i on ('all': the region's; 'fuel': how many at most). -/
def opsX (P : Program) (γ : Calld) (pol : Pol) (all : List Oper) : Nat → Nat → Env → AHeap → (Env → AHeap → Prop) → Prop
  | 0, _, e, H, K => K e H
  | fuel + 1, i, e, H, K =>
    match litPair all i with
    | some q => (match fuel with
      | 0 => False
      | fuel' + 1 => optA (litA P (ev e) q H) fun ds => opsX P γ pol all fuel' (i + 2) (upd (upd e (some q.d) .junk) (some q.d2) (.d (.sl false ds))) H K)
    | none =>
    match all[i]? with
    | none => K e H
    | some o =>
      match o.guard with
      | none => opX P γ pol (ev e) o.op H fun v H' => splitK (isG all i) v fun v => opsX P γ pol all fuel (i + 1) (upd e o.dst v) H' K
      | some (j, want) => match guardSlot all j with
        | none => False
        | some s => match e s with
          | .d (.bool b) => if b = want then opX P γ pol (ev e) o.op H fun v H' => splitK (isG all i) v fun v => opsX P γ pol all fuel (i + 1) (upd e o.dst v) H' K
            else opsX P γ pol all fuel (i + 1) (upd e o.dst (.tup [])) H K
          | .tup [] => opsX P γ pol all fuel (i + 1) (upd e o.dst (.tup [])) H K
          | _ => False

/-! ### regions that draw their order -/
def idOf : AV → Option Nat
  | .ptr i _ _ _ => some i
  | .rs i _ _ _ _ => some i
  | .map i => some i
  | .it i => some i
  | _ => none
/-- Two values that don't lead to one object; 'junk' stands for whatever there is, nil for nothing. -/
def apart (a b : AV) : Prop :=
  match a, b with
  | .nilptr, _ => True
  | _, .nilptr => True
  | .junk, _ => False
  | _, .junk => False
  | a, b => match idOf a, idOf b with
    | some i, some j => i ≠ j
    | _, _ => True
/-- The values through which an operation reads objects. -/
def readsA (ρ : Operand → AV) : Op → List AV
  | .load _ x => [ρ x]
  | .lookup _ x _ _ => [ρ x]
  | .slice _ x _ _ _ => [ρ x]
  | .convert _ _ x => [ρ x]
  | .range _ x => [ρ x]
  | .next x _ => [ρ x, .junk]
  | .entry x => [ρ x, .junk]
  | .call c => match c.callee with
    | .value _ => [.junk]
    | .builtin .len => c.args.toList.map ρ
    | .builtin .append => c.args.toList.map ρ
    | .builtin .copy => c.args.toList.map ρ
    | .builtin .clear => []
    | .builtin .min => []
    | .builtin .max => []
    | _ => [.junk]
  | _ => []
/-- A slice that would be frozen. -/
def rsOf : AV → AV
  | .rs i v z o n => .rs i v z o n
  | _ => .nilptr
/-- The values through which it writes objects. -/
def writesA (ρ : Operand → AV) : Op → List AV
  | .store _ p _ => [ρ p]
  | .build _ parts => parts.toList.map fun p => rsOf (ρ p.2)
  | .buildSlice _ _ parts => parts.toList.map fun p => rsOf (ρ p.2)
  | .mapUpdate _ m _ _ => [ρ m]
  | .insert _ m _ _ => [ρ m]
  | .mapEntry _ m _ => [ρ m]
  | .entryStore _ m _ _ => [ρ m]
  | .next x _ => [ρ x, .junk]
  | .call c => match c.callee with
    | .builtin .append => match c.args.toList with | s :: _ => [ρ s] | [] => []
    | .builtin .delete => match c.args.toList with | s :: _ => [ρ s] | [] => []
    | .builtin .clear => match c.args.toList with | s :: _ => [ρ s] | [] => []
    | .builtin .copy => match c.args.toList with | s :: _ => [ρ s] | [] => []
    | .value _ => c.args.toList.map fun x => rsOf (ρ x)
    | .builtin .len => []
    | .builtin .min => []
    | .builtin .max => []
    | _ => [.junk]
  | _ => []
def aggL : AV → List AV
  | .agg l => l
  | _ => []
/-- What must hold no mutable slice in such a region. -/
def plainA (ρ : Operand → AV) : Op → List (List AV)
  | .build _ parts => parts.toList.map fun p => aggL (ρ p.2)
  | .buildSlice _ _ parts => parts.toList.map fun p => aggL (ρ p.2)
  | .store _ _ v => [aggL (ρ v)]
  | .mapUpdate _ _ _ v => [aggL (ρ v)]
  | .insert _ _ _ v => [aggL (ρ v)]
  | _ => []
structure LogE where
  ix : Nat
  rd : List AV
  wr : List AV
def pairsA (as bs : List AV) : List (AV × AV) := as.flatMap fun a => bs.map fun b => (a, b)
def obA : List (AV × AV) → Prop → Prop
  | [], X => X
  | (a, b) :: ps, X => apart a b ∧ obA ps X
def noRsA : List AV → Prop → Prop
  | [], X => X
  | v :: l, X => noRs v = true ∧ noRsA l X
def noRsAA : List (List AV) → Prop → Prop
  | [], X => X
  | l :: ls, X => noRsA l (noRsAA ls X)
/-- Does operation j wait for i, over others too? -/
def waitsT (bf : List Nat) (j i : Nat) : Bool := (bf.getD j 0).testBit i
def clash (bf : List Nat) (j : Nat) (rd wr : List AV) : List LogE → List (AV × AV)
  | [] => []
  | e :: log => (if waitsT bf j e.ix then [] else pairsA wr (e.rd ++ e.wr) ++ pairsA e.wr rd) ++ clash bf j rd wr log
def clN (γ : Calld) (f : AV) (as : List AV) (H : AHeap) (K : AV → AHeap → Prop) : Prop :=
  match f with
  | .func g first caps => noRsA (first ++ caps) (noRsAA ((first ++ as ++ caps).map aggL) (frzLK (first ++ as ++ caps) H fun l H' => ∃ r, γ g l H' (fun v H2 => v = r ∧ AHeap.le H' H2) ∧ K r H'))
  | _ => False
def opD (P : Program) (γ : Calld) (ρ : Operand → AV) (op : Op) (H : AHeap) (K : AV → AHeap → Prop) : Prop :=
  match isCall op with
  | some (f, as) => clN γ (ρ f) (as.toList.map ρ) H K
  | none => noRsAA (plainA ρ op) (genX P ρ op H K)
def newOf (op : Op) (v : AV) : List AV := if makes op then [v] else []
def opsD (P : Program) (γ : Calld) (all : List Oper) (bf : List Nat) : List Nat → List LogE → Env → AHeap → (Env → AHeap → Prop) → Prop
  | [], _, e, H, K => K e H
  | j :: js, log, e, H, K =>
    match all[j]? with
    | none => False
    | some o =>
      let act : Prop := obA (clash bf j (readsA (ev e) o.op) (writesA (ev e) o.op) log) (opD P γ (ev e) o.op H fun v H' => splitK (isG all j) v fun v =>
        opsD P γ all bf js (⟨j, readsA (ev e) o.op, writesA (ev e) o.op ++ newOf o.op v⟩ :: log) (upd e o.dst v) H' K)
      let off : Prop := opsD P γ all bf js log (upd e o.dst (.tup [])) H K
      match o.guard with
      | none => act
      | some (g, want) => match guardSlot all g with
        | none => False
        | some s => match e s with
          | .d (.bool b) => if b = want then act else off
          | .tup [] => off
          | _ => False
/-- Slots frozen ahead. -/
def frzSlots : List Nat → Env → AHeap → (Env → AHeap → Prop) → Prop
  | [], e, H, K => K e H
  | s :: ss, e, H, K => optA (frzA (e s) H) fun r => frzSlots ss (upd e (some s) r.1) (H.sets r.2) K

def ofL (keep : List Nat) (vs : List AV) : Env := fun i => match keep.idxOf? i with | some n => vs.getD n .junk | none => .junk
def loopA (B : (List AV → AHeap → Prop) → List AV → AHeap → Prop) (vs : List AV) (H : AHeap) : Prop := ∀ X : List AV → AHeap → Prop, (∀ vs H, B X vs H → X vs H) → X vs H
def thenK (K : Env → AHeap → Prop) (Q : Exit → Env → AHeap → Prop) : Exit → Env → AHeap → Prop
  | .normal => K
  | x => Q x
def inBlk (id : Nat) (Q : Exit → Env → AHeap → Prop) : Exit → Env → AHeap → Prop
  | .exit id' => if id' = id then Q .normal else Q (.exit id')
  | x => Q x

/-- The static look at a region that draws: 'bf' (who waits for whom, over others too) fits the edges; the order in which it is told ('perm') is one that the edges allow; each operation writes a slot of its own; who reads the slot of another one waits for it, or is waited for. -/
def pairB (f : Nat → Nat → Bool) : List Nat → Bool
  | [] => true
  | x :: l => l.all (f x) && pairB f l
def hasEdge (all : List Oper) (j i : Nat) : Bool := match all[j]? with
  | some o => o.after.toList.any fun x => Region.binds .any x && x.on == i
  | none => false
def waitsOk (all : List Oper) (bf : List Nat) (i x : Nat) : Bool := !waitsT bf i x || match all[i]? with
  | some o => o.after.toList.any fun e => Region.binds .any e && (e.on == x || waitsT bf e.on x)
  | none => false
def slotsOk (all : List Oper) (bf : List Nat) (j i : Nat) : Bool := match all[j]?, all[i]? with
  | some o, some o' => match o.dst with
    | some d => decide (o'.dst ≠ some d) && (!((o'.looksAt all.toArray).contains d) || waitsT bf i j || waitsT bf j i)
    | none => true
  | _, _ => true
def drawOk (all : List Oper) (bf perm : List Nat) : Bool :=
  perm.length == all.length && (perm.all fun j => decide (j < all.length)) && decide perm.Nodup &&
  (all.all fun o => match o.op with | .select .. => false | _ => true) &&
  (all.all fun o => o.after.toList.all fun x => !Region.binds .any x || decide (x.on < all.length)) &&
  ((List.range all.length).all fun i => (List.range all.length).all fun x => waitsOk all bf i x) &&
  pairB (fun j j' => !waitsT bf j j' && !hasEdge all j j') perm &&
  ((List.range all.length).all fun i => !hasEdge all i i) &&
  ((List.range all.length).all fun i => (List.range all.length).all fun j => i == j || slotsOk all bf j i)

/-- The last one waits for all others: it may be any call. -/
def tailOk (bf perm : List Nat) : Bool := match perm.getLast? with | some j => perm.dropLast.all fun i => waitsT bf j i | none => false
def opsT (P : Program) (γ : Calld) (pol : Pol) (all : List Oper) (bf perm : List Nat) (e : Env) (H : AHeap) (K : Env → AHeap → Prop) : Prop :=
  opsD P γ all bf perm.dropLast [] e H fun e H => match perm.getLast? with
    | some j => match all[j]? with
      | some o => match o.guard with
        | none => opX P γ pol (ev e) o.op H fun v H' => K (upd e o.dst v) H'
        | some _ => False
      | none => False
    | none => False
/-- Regions whose calls change things: the calls are told one behind the other (each later operation waits for them), and what else is open beside a call only reads, and nothing that the call changes. -/
def effOk (all : List Oper) (bf : List Nat) : List Nat → Bool
  | [] => true
  | j :: js => (match all[j]? with | some o => !(isCall o.op).isSome || js.all fun i => waitsT bf i j | none => false) && effOk all bf js
def kp (v : AV) (H H' : AHeap) : Prop := match v with
  | .junk => False
  | v => match idOf v with | some i => H' i = H i | none => True
def keepA (H H' : AHeap) : List AV → Prop → Prop
  | [], X => X
  | v :: l, X => kp v H H' ∧ keepA H H' l X
def qt (v : AV) : Prop := match v with
  | .junk => False
  | v => match idOf v with | some _ => False | none => True
def quietW : List AV → Prop → Prop
  | [], X => X
  | v :: l, X => qt v ∧ quietW l X
def openRd (bf : List Nat) (j : Nat) : List LogE → List AV
  | [] => []
  | e :: log => (if waitsT bf j e.ix then [] else e.rd) ++ openRd bf j log
/-- Did it make an object, and nothing else? -/
def isNew (all : List Oper) (l : LogE) : Bool := match all[l.ix]? with | some o => (match o.op with | .alloc _ => true | _ => false) | none => false
def openWr (all : List Oper) (bf : List Nat) (j : Nat) : List LogE → List AV
  | [] => []
  | e :: log => (if waitsT bf j e.ix then [] else if isNew all e then [] else e.wr) ++ openWr all bf j log
def openNew (all : List Oper) (bf : List Nat) (j : Nat) : List LogE → List AV
  | [] => []
  | e :: log => (if waitsT bf j e.ix then [] else if isNew all e then e.wr else []) ++ openNew all bf j log
/-- A heap without an object; with it, as another heap has it. -/
def delV (v : AV) (H : AHeap) : AHeap := match v with | .ptr n _ _ _ => fun i => if i = n then none else H i | _ => H
def putV (v : AV) (H H' : AHeap) : AHeap := match v with | .ptr n _ _ _ => fun i => if i = n then H i else H' i | _ => H'
def delL : List AV → AHeap → AHeap
  | [], H => H
  | v :: l, H => delL l (delV v H)
def putL : List AV → AHeap → AHeap → AHeap
  | [], _, H' => H'
  | v :: l, H, H' => putL l H (putV v H H')
/-- What the call was not shown, it did not make. -/
def noV (v : AV) (H H' : AHeap) : Prop := match v with | .ptr n _ _ _ => (H n).isSome → H' n = none | _ => True
def noL : List AV → AHeap → AHeap → Prop → Prop
  | [], _, _, X => X
  | v :: l, H, H', X => noV v H H' → noL l H H' X
def opsE (P : Program) (γ : Calld) (pol : Pol) (all : List Oper) (bf : List Nat) : List Nat → List LogE → Env → AHeap → (Env → AHeap → Prop) → Prop
  | [], _, e, H, K => K e H
  | j :: js, log, e, H, K =>
    match all[j]? with
    | none => False
    | some o =>
      let act : Prop := match isCall o.op with
        | some (f, as) => quietW (openWr all bf j log) (callA γ pol (ev e f) (as.toList.map (ev e)) (delL (openNew all bf j log) H) fun v H' => noL (openNew all bf j log) H H' (keepA (delL (openNew all bf j log) H) H' (openRd bf j log) (splitK (isG all j) v fun v =>
            opsE P γ pol all bf js log (upd e o.dst v) (putL (openNew all bf j log) H H') K)))
        | none => obA (clash bf j (readsA (ev e) o.op) (writesA (ev e) o.op) log) (noRsAA (plainA (ev e) o.op) (genX P (ev e) o.op H fun v H' => splitK (isG all j) v fun v =>
            opsE P γ pol all bf js (⟨j, readsA (ev e) o.op, writesA (ev e) o.op ++ newOf o.op v⟩ :: log) (upd e o.dst v) H' K))
      let off : Prop := opsE P γ pol all bf js log (upd e o.dst (.tup [])) H K
      match o.guard with
      | none => act
      | some (g, want) => match guardSlot all g with
        | none => False
        | some s => match e s with
          | .d (.bool b) => if b = want then act else off
          | .tup [] => off
          | _ => False
def drA (b : Bool) (X : Prop) : Prop := b = true ∧ X
/-- The region with which code begins. -/
def firstReg : Code → Option Nat
  | .region id _ _ => some id
  | .seq a _ => firstReg a
  | .cond _ a b => (firstReg a).orElse fun _ => firstReg b
  | .block _ c => firstReg c
  | .loop c => firstReg c
  | .scope c => firstReg c
  | _ => none
/-- The slots that are kept where several ways go on with one text. -/
def jnAt (pol : Pol) (b : Code) : Option (List Nat) := match pol.jn with
  | [] => none
  | l => match firstReg b with
    | some id => (l.find? fun x => x.1 == id).map (·.2)
    | none => none
/-- A join: what follows is told once. -/
def jnX (R : List AV → AHeap → Prop) (B : (List AV → AHeap → Prop) → Prop) : Prop := ∀ X : List AV → AHeap → Prop, (∀ vs H, R vs H → X vs H) → B X
/-- A slice that a cell keeps is given away: from here on it stands there by content. -/
def FzC (H H1 : AHeap) : Prop := ∃ k e off v v' us ver fro0 fro esz l cs, frz v H = some (v', us) ∧ H k = some (.mem ver fro0 esz l) ∧ H.sets us k = some (.mem ver fro esz l) ∧ l[e]? = some cs ∧ cs[off]? = some v ∧ H1 = (H.sets us).set k (.mem ver fro esz (l.set e (cs.set off v')))
inductive Fz : AHeap → AHeap → Prop
  | refl (H : AHeap) : Fz H H
  | step {H H1 H2 : AHeap} : FzC H H1 → Fz H1 H2 → Fz H H2
def regX (P : Program) (γ : Calld) (pol : Pol) (id : Nat) (ops : Array Oper) (draw : Bool) (K : Env → AHeap → Prop) (e : Env) (H : AHeap) : Prop :=
  if draw then
    drA (drawOk ops.toList (pol.bf id) (pol.perm id) && P.follows .mixedOrders && (!pol.tail id || tailOk (pol.bf id) (pol.perm id)) && (!pol.eff id || effOk ops.toList (pol.bf id) (pol.perm id))) <| frzSlots (pol.frz id) e H fun e H =>
      if pol.eff id then opsE P γ pol ops.toList (pol.bf id) (pol.perm id) [] e H K
      else if pol.tail id then opsT P γ pol ops.toList (pol.bf id) (pol.perm id) e H K
      else opsD P γ ops.toList (pol.bf id) (pol.perm id) [] e H K
  else opsX P γ pol ops.toList ops.size 0 e H K
/-- Ahead of a region cells may be given away. -/
def fzX (b : Bool) (H : AHeap) (X : AHeap → Prop) : Prop := if b then ∃ H1, Fz H H1 ∧ X H1 else X H
def exec (P : Program) (γ : Calld) (pol : Pol) : Code → (Exit → Env → AHeap → Prop) → Env → AHeap → Prop
  | .skip, Q, e, H => Q .normal e H
  | .label _, Q, e, H => Q .normal e H
  | .region id ops draw, Q, e, H => fzX (pol.fzr id) H fun H => regX P γ pol id ops draw (Q .normal) e H
  | .seq a b, Q, e, H => match jnAt pol b with
    | some live => jnX (fun vs H => exec P γ pol b Q (ofL live vs) H) fun X => exec P γ pol a (thenK (fun e H => X (live.map e) H) Q) e H
    | none => exec P γ pol a (thenK (exec P γ pol b Q) Q) e H
  | .cond c a b, Q, e, H => ifA (ev e c) (exec P γ pol a Q e H) (exec P γ pol b Q e H)
  | .block id c, Q, e, H => exec P γ pol c (inBlk id Q) e H
  | .loop c, Q, e, H => loopA (fun X vs H => exec P γ pol c (thenK (fun e H => X (pol.keep.map e) H) Q) (ofL pol.keep vs) H) (pol.keep.map e) H
  | .scope c, Q, e, H => exec P γ pol c (fun x => match x with | .goto _ => fun _ _ => False | x => Q x) e H
  | .exit id, Q, e, H => Q (.exit id) e H
  | .ret, Q, e, H => Q .ret e H
  | _, _, _, _ => False

/-- The result, by content if the policy says so; whatever of the heap is left out. -/
def finA (v : AV) (H : AHeap) (K : AV → AHeap → Prop) : Prop := ∃ H', AHeap.le H' H ∧ K v H'
def resK (P : Program) (e : Env) (H : AHeap) : List ResultVar → (List AV → Prop) → Prop
  | [], K => K []
  | .tmp t :: rs, K => resK P e H rs fun vs => K (e t :: vs)
  | .cell a t :: rs, K => match tiOf P t with
    | some i => optA (ldV i.agg i.size (e a) H) fun v => resK P e H rs fun vs => K (v :: vs)
    | none => False
def one1 (vs : List AV) : AV := match vs with | [v] => v | vs => .tup vs
def retF (vs : List AV) (H : AHeap) (K : AV → AHeap → Prop) : Prop := frzLK vs H fun vs H' => finA (one1 vs) H' K
def finZ (v : AV) (H : AHeap) (K : AV → AHeap → Prop) : Prop := ∃ H1, Fz H H1 ∧ finA v H1 K
def retZ (vs : List AV) (H : AHeap) (K : AV → AHeap → Prop) : Prop := frzLK vs H fun vs H' => finZ (one1 vs) H' K
def retK (pol : Pol) (vs : List AV) (H : AHeap) (K : AV → AHeap → Prop) : Prop :=
  if pol.fz then retZ vs H K else if pol.ret then retF vs H K else finA (one1 vs) H K
def retA (P : Program) (pol : Pol) (fn : Func) (K : AV → AHeap → Prop) (x : Exit) (e : Env) (H : AHeap) : Prop :=
  match x with
  | .normal => resK P e H fn.results.toList fun vs => retK pol vs H K
  | .ret => resK P e H fn.results.toList fun vs => retK pol vs H K
  | _ => False
def argE (as : List AV) : Env := fun i => as.getD i .junk
def execF (P : Program) (γ : Calld) (pol : Pol) (fn : Func) (as : List AV) (H : AHeap) (K : AV → AHeap → Prop) : Prop :=
  match fn.body with
  | some c => exec P γ pol c (retA P pol fn K) (argE as) H
  | none => False

/-! ### a code's regions, by number: so that its text can be written again with one constant an operation -/
def regions : Code → List (List Oper)
  | .seq a b => regions a ++ regions b
  | .cond _ a b => regions a ++ regions b
  | .block _ a => regions a
  | .loop a => regions a
  | .scope a => regions a
  | .region _ o _ => [o.toList]
  | _ => []
def regOps (f : Func) (n : Nat) : List Oper := (((f.body.map regions).getD [])[n]?).getD []
def opAt (l : List Oper) (i : Nat) : Oper := (l[i]?).getD default
def execC (P : Program) (γ : Calld) (pol : Pol) (fn : Func) (c : Code) (as : List AV) (H : AHeap) (K : AV → AHeap → Prop) : Prop :=
  exec P γ pol c (retA P pol fn K) (argE as) H
theorem execF_of {P : Program} {γ : Calld} {pol : Pol} {fn : Func} {c : Code} (h : fn.body = some c) (as : List AV) (H : AHeap) (K : AV → AHeap → Prop) :
    execF P γ pol fn as H K = execC P γ pol fn c as H K := by unfold execF execC; rw [h]

end Go.AM
