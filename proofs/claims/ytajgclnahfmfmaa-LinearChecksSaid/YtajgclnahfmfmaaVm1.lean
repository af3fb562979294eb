/- The abstract machine: immutable trees, a small heap of own objects, and a weakest-precondition reading of the model's code over them. Definitions only. -/
import Derived.OwnWalk
import Derived.Below
namespace Go.Vm
open Go

/-- An immutable value. -/
inductive Tr where
  | int (k : IntKind) (n : Int)
  | bool (b : Bool)
  | str (s : ByteArray)
  | agg (l : List Tr)
  | tup (l : List Tr)
  | sl (nn : Bool) (l : List Tr)
  | fn (f : FuncId) (caps : List Tr)
  | nilp
  | ptr (cs : List Tr)
  deriving Inhabited

abbrev Id := Nat × Nat

/-- A value of the machine: a tree, an address of immutable memory, a reference to an own object, .. -/
inductive PV where
  | t (x : Tr)
  | ro (cs : List Tr)
  | rf (id : Id) (n : Nat)
  | ad (id : Id) (n off : Nat)
  | agg (l : List PV)
  | tup (l : List PV)
  | fn (f : FuncId) (caps : List PV)
  | skip
  | undef
  | mp (id : Id)
  | it (id : Id)
  deriving Inhabited

def Tr.cells : Tr → List Tr
  | .agg l => l
  | x => [x]
def PV.cells : PV → List PV
  | .t (.agg l) => l.map .t
  | .agg l => l
  | v => [v]
/-- Is it surely the value of one cell? -/
def PV.one : PV → Bool
  | .t (.agg _) | .t (.tup _) | .agg _ | .tup _ | .skip | .undef => false
  | _ => true
def flat (l : List Tr) : List Tr := l.flatMap Tr.cells
def Tr.scalar : Tr → Bool
  | .int .. | .bool _ | .str _ => true
  | .tup l => scalars l
  | _ => false
where scalars : List Tr → Bool
  | [] => true
  | .int .. :: r | .bool _ :: r | .str _ :: r => scalars r
  | _ :: _ => false

def trees : List PV → Option (List Tr)
  | [] => some []
  | .t x :: r => match trees r with | some ts => some (x :: ts) | none => none
  | _ :: _ => none
def mkAgg (l : List PV) : PV := match trees l with | some ts => .t (.agg ts) | none => .agg l
def mkTup (l : List PV) : PV := match trees l with | some ts => .t (.tup ts) | none => .tup l
/-- an address of immutable memory, as a value that is captured -/
def PV.lift : PV → PV
  | .ro cs => .t (.ptr cs)
  | v => v
def Tr.pv : Tr → PV
  | .ptr cs => .ro cs
  | x => .t x
def mkFn (f : FuncId) (l : List PV) : PV := match trees (l.map PV.lift) with | some ts => .t (.fn f ts) | none => .fn f l

/-- An own object: a row of len elements of esz cells each. -/
structure Obj where
  cs : List PV
  esz : Nat
  len : Nat
  elem : TypeId
  ag : Bool
  live : Bool
  deriving Inhabited

abbrev Hp := Nat → List Obj
abbrev Sl := Nat → PV
structure St where
  sl : Sl
  hp : Hp

def upd {α : Type} (f : Nat → α) (t : Nat) (v : α) : Nat → α := fun u => if u = t then v else f u
@[simp] theorem upd_eq {α : Type} (f : Nat → α) (t : Nat) (v : α) : upd f t v t = v := by simp [upd]
theorem upd_ne {α : Type} (f : Nat → α) (t u : Nat) (v : α) (h : u ≠ t) : upd f t v u = f u := by simp [upd, h]

def hget (h : Hp) (id : Id) : Option Obj := (h id.1)[id.2]?
def hset (h : Hp) (id : Id) (o : Obj) : Hp := upd h id.1 ((h id.1).set id.2 o)
def hnew (h : Hp) (s : Nat) (o : Obj) : Hp := upd h s (h s ++ [o])
def hnext (h : Hp) (s : Nat) : Id := (s, (h s).length)

def St.put (s : St) (d : Option Tmp) (v : PV) : St := match d with | some t => { s with sl := upd s.sl t v } | none => s

/-! what is asked of a type -/
section
variable (P : Program)
/-- is it a struct or an array? -/
def aggB (t : TypeId) : Option Bool := match P.underlying t with | some (.struct _) | some (.array ..) => some true | some _ => some false | none => none
def fieldB (s : TypeId) (i : Nat) : Option (Nat × TypeId) := match P.underlying s with
  | some (.struct fs) => match fs[i]? with | some f => if (P.info? f.type).isSome ∧ P.cellsOf f.type ≠ 0 then some (f.offset, f.type) else none | none => none
  | _ => none
def elemB (t : TypeId) : Option TypeId := match P.underlying t with | some (.slice e) => if (P.info? e).isSome then some e else none | _ => none
def intB (t : TypeId) : Option IntKind := match P.underlying t with | some (.int k) => some k | _ => none
def isStrB (t : TypeId) : Bool := match P.underlying t with | some .string => true | _ => false
def isBoolB (t : TypeId) : Bool := match P.underlying t with | some .bool => true | _ => false
def cvV : Value → Option Tr
  | .int k n => some (.int k n)
  | .bool b => some (.bool b)
  | .string s => some (.str s)
  | .slice none 0 0 => some (.sl false [])
  | .pointer none => some .nilp
  | _ => none
def cvs : List Value → Option (List Tr)
  | [] => some []
  | v :: r => match cvV v, cvs r with | some x, some ts => some (x :: ts) | _, _ => none
def zeroB (t : TypeId) : Option (List Tr) := match (P.info? t).bind (·.zero) with | some z => cvs z.cells.toList | none => none
end

def ev (s : Sl) : Operand → PV
  | .tmp t => s t
  | .const v => match cvV v with | some x => .t x | none => .undef
  | .func f => .t (.fn f [])
  | .global _ => .undef
def evs (s : Sl) : List Operand → List PV
  | [] => []
  | x :: r => ev s x :: evs s r

/-! snapshots -/
def chunk (esz : Nat) : Nat → List Tr → List Tr
  | 0, _ => []
  | n + 1, ts => .agg (ts.take esz) :: chunk esz n (ts.drop esz)
def elems (ag : Bool) (esz n : Nat) (ts : List Tr) : List Tr := if ag then chunk esz n ts else ts

def mapO {α β : Type} (f : α → Option β) : List α → Option (List β)
  | [] => some []
  | a :: r => match f a, mapO f r with | some b, some bs => some (b :: bs) | _, _ => none
/-- What a value reads as now, as a tree. -/
def toTr (h : Hp) : Nat → PV → Option Tr
  | 0, p => match p with | .t x => some x | _ => none
  | k + 1, p => match p with
    | .t x => some x
    | .rf id n => match hget h id with
      | some o => if o.len = n then (match mapO (toTr h k) o.cs with | some ts => some (.sl true (elems o.ag o.esz o.len ts)) | none => none) else none
      | none => none
    | .agg l => match mapO (toTr h k) l with | some ts => some (.agg ts) | none => none
    | .tup l => match mapO (toTr h k) l with | some ts => some (.tup ts) | none => none
    | .fn f l => match mapO (toTr h k) l with | some ts => some (.fn f ts) | none => none
    | .ro cs => some (.ptr cs)
    | _ => none
/-- The objects that a value leads to. -/
def reach (h : Hp) : Nat → PV → List Id
  | 0, _ => []
  | k + 1, p => match p with
    | .rf id _ => id :: (match hget h id with | some o => o.cs.flatMap (reach h k) | none => [])
    | .agg l => l.flatMap (reach h k)
    | .tup l => l.flatMap (reach h k)
    | .fn _ l => l.flatMap (reach h k)
    | _ => []
def frz1 (h : Hp) (id : Id) : Hp := match hget h id with | some o => hset h id { o with live := false } | none => h
def frz (h : Hp) (ids : List Id) : Hp := ids.foldl frz1 h
/-- how deep a snapshot may go -/
def dep : Nat := 6

/-! ## Operations -/
section
variable (P : Program)

def boolOf : PV → Option Bool
  | .t (.bool b) => some b
  | _ => none
def intOf : PV → Option Int
  | .t (.int _ n) => some n
  | _ => none

/-- does this reference speak of the object as it is now? -/
def valid (h : Hp) (id : Id) (n : Nat) : Bool := match hget h id with | some o => o.len == n | none => false

def loadPV (t : TypeId) (p : PV) (h : Hp) : Option PV :=
  match aggB P t, p with
  | some true, .ro cs => if (cs.take (P.cellsOf t)).length = P.cellsOf t then some (.t (.agg (cs.take (P.cellsOf t)))) else none
  | some false, .ro (c :: _) => some (.t c)
  | some true, .ad id n off => match hget h id with
    | some o => if o.len = n ∧ ((o.cs.drop off).take (P.cellsOf t)).length = P.cellsOf t then some (mkAgg ((o.cs.drop off).take (P.cellsOf t))) else none
    | none => none
  | some false, .ad id n off => match hget h id with
    | some o => if o.len = n then o.cs[off]? else none
    | none => none
  | _, _ => none

def splice (l : List PV) (off : Nat) (vs : List PV) : List PV := l.take off ++ vs ++ l.drop (off + vs.length)

def storePV (t : TypeId) (p v : PV) (h : Hp) : Option Hp :=
  match p with
  | .ad id n off => match hget h id with
    | some o => if o.len = n ∧ o.live = true ∧ (P.info? t).isSome ∧ v.cells.length = P.cellsOf t ∧ off + v.cells.length ≤ o.cs.length ∧ v.cells.all PV.one = true
      then some (hset h id { o with cs := splice o.cs off v.cells }) else none
    | none => none
  | _ => none

def fieldAddrPV (s : TypeId) (i : Nat) (p : PV) (h : Hp) : Option PV :=
  match fieldB P s i with
  | some (off, _) => match p with
    | .ro cs => some (.ro (cs.drop off))
    | .ad id n o => if valid h id n then some (.ad id n (o + off)) else none
    | _ => none
  | none => none

def fieldPV (s : TypeId) (i : Nat) (p : PV) : Option PV :=
  match fieldB P s i with
  | some (off, ft) => match aggB P ft, p with
    | some true, .t (.agg l) => some (.t (.agg ((l.drop off).take (P.cellsOf ft))))
    | some false, .t (.agg l) => (match l[off]? with | some x => some (.t x) | none => none)
    | some true, .agg l => some (mkAgg ((l.drop off).take (P.cellsOf ft)))
    | some false, .agg l => l[off]?
    | _, _ => none
  | none => none

def indexAddrPV (t : TypeId) (x i : PV) (h : Hp) : Option PV :=
  match elemB P t with
  | some e => match x, i with
    | .t (.sl _ l), .t (.int _ i) => if 0 ≤ i then (match l[i.toNat]? with | some y => if y.cells.length = P.cellsOf e ∧ 0 < P.cellsOf e then some (.ro y.cells) else none | none => none) else none
    | .rf id n, .t (.int _ i) => match hget h id with
      | some o => if o.len = n ∧ o.esz = P.cellsOf e ∧ 0 ≤ i ∧ i.toNat < n then some (.ad id n (i.toNat * o.esz)) else none
      | none => none
    | _, _ => none
  | none => none

def indexPV (t : TypeId) (x i : PV) : Option PV :=
  match x, i with
  | .t (.str s), .t (.int _ i) => if isStrB P t = true ∧ 0 ≤ i then (match s[i.toNat]? with | some b => some (.t (.int .u8 b.toNat)) | none => none) else none
  | _, _ => none

def lenPV (h : Hp) : PV → Option PV
  | .t (.sl _ l) => some (.t (.int .i64 l.length))
  | .rf id n => if valid h id n then some (.t (.int .i64 n)) else none
  | _ => none

def arith (k : IntKind) : BinOp → Int → Int → Option PV
  | .add, a, b => some (.t (.int k (k.wrap (a + b))))
  | .sub, a, b => some (.t (.int k (k.wrap (a - b))))
  | .mul, a, b => some (.t (.int k (k.wrap (a * b))))
  | .quo, a, b => if b = 0 then none else some (.t (.int k (k.wrap (a.tdiv b))))
  | .rem, a, b => if b = 0 then none else some (.t (.int k (a.tmod b)))
  | .and, a, b => some (.t (.int k (k.wrap ((BitVec.ofInt k.bits a &&& BitVec.ofInt k.bits b).toNat))))
  | .or, a, b => some (.t (.int k (k.wrap ((BitVec.ofInt k.bits a ||| BitVec.ofInt k.bits b).toNat))))
  | .xor, a, b => some (.t (.int k (k.wrap ((BitVec.ofInt k.bits a ^^^ BitVec.ofInt k.bits b).toNat))))
  | .andNot, a, b => some (.t (.int k (k.wrap ((BitVec.ofInt k.bits a &&& ~~~BitVec.ofInt k.bits b).toNat))))
  | .eql, a, b => some (.t (.bool (a == b)))
  | .neq, a, b => some (.t (.bool (a != b)))
  | .lss, a, b => some (.t (.bool (decide (a < b))))
  | .leq, a, b => some (.t (.bool (decide (a ≤ b))))
  | .gtr, a, b => some (.t (.bool (decide (a > b))))
  | .geq, a, b => some (.t (.bool (decide (a ≥ b))))
  | _, _, _ => none

def shiftPV (k : IntKind) (left : Bool) (a b : Int) : Option PV :=
  if b < 0 then none else
  if left then some (.t (.int k (k.wrap (a * 2 ^ (min b.toNat k.bits))))) else some (.t (.int k (a.fdiv (2 ^ (min b.toNat k.bits)))))

def isNilPV (h : Hp) : PV → Option Bool
  | .t (.sl nn _) => some (!nn)
  | .rf id n => if valid h id n then some false else none
  | _ => none

def binPV (h : Hp) (op : BinOp) (xt : TypeId) (x y : PV) : Option PV :=
  match x, y with
  | .t (.int k a), .t (.int k' b) => match op with
    | .shl => shiftPV k true a b
    | .shr => shiftPV k false a b
    | op => if k = k' then arith k op a b else none
  | .t (.bool a), .t (.bool b) => if isBoolB P xt = true then (match op with | .eql => some (.t (.bool (a == b))) | .neq => some (.t (.bool (a != b))) | _ => none) else none
  | .t (.str a), .t (.str b) => match op with
    | .add => if ((a.size + b.size : Nat) : Int) ≤ 9223372036854775807 then some (.t (.str (a ++ b))) else none
    | .eql => some (.t (.bool (a.toList == b.toList)))
    | .neq => some (.t (.bool (!(a.toList == b.toList))))
    | .lss => some (.t (.bool (Op.bytesLess a.toList b.toList)))
    | .geq => some (.t (.bool (!Op.bytesLess a.toList b.toList)))
    | _ => none
  | x, .t (.sl false []) => match elemB P xt, isNilPV h x with
    | some _, some b => (match op with | .eql => some (.t (.bool b)) | .neq => some (.t (.bool (!b))) | _ => none)
    | _, _ => none
  | _, _ => none

def unPV (op : UnOp) (x : PV) : Option PV :=
  match op, x with
  | .neg, .t (.int k n) => some (.t (.int k (k.wrap (0 - n))))
  | .not, .t (.bool b) => some (.t (.bool (!b)))
  | .xor, .t (.int k n) => some (.t (.int k (k.wrap ((BitVec.ofInt k.bits (if k.signed then -1 else k.max) ^^^ BitVec.ofInt k.bits n).toNat))))
  | _, _ => none

def convPV (dst : TypeId) (src : TypeId) (x : PV) : Option PV :=
  match intB P src, intB P dst, x with
  | some _, some k, .t (.int _ n) => some (.t (.int k (k.wrap n)))
  | _, _, _ => none

/-- the places of a value's parts: (offset, cells) -/
def fillPV (place : Nat → Option (Nat × Nat)) (cells : List PV) : List (Nat × PV) → Option (List PV)
  | [] => some cells
  | (i, v) :: rest => match place i with
    | some (off, size) => if v.cells.length = size ∧ off + v.cells.length ≤ cells.length ∧ v.cells.all PV.one = true then fillPV place (splice cells off v.cells) rest else none
    | none => none

/-- the places of a struct's fields -/
def placesB (t : TypeId) : Option (List (Nat × Nat)) := match P.underlying t with
  | some (.struct fs) => fs.toList.mapM fun f => (P.info? f.type).map fun i => (f.offset, i.size)
  | _ => none

def buildPV (t : TypeId) (parts : List (Nat × PV)) : Option PV :=
  match placesB P t, zeroB P t with
  | some pl, some z => match fillPV (fun i => pl[i]?) (z.map .t) parts with | some cs => some (mkAgg cs) | none => none
  | _, _ => none

def zrow (z : List Tr) : Nat → List Tr
  | 0 => []
  | n + 1 => z ++ zrow z n

/-- a new row: an object of the site, or at once a tree -/
def newRowPV (mu : Nat → Bool) (dst : Option Tmp) (e : TypeId) (len : Nat) (cs : List PV) (h : Hp) : Option (PV × Hp) :=
  match dst, aggB P e with
  | some d, some ag => if ag = false ∧ P.cellsOf e ≠ 1 then none else
    if mu d then some (.rf (hnext h d) len, hnew h d ⟨cs, P.cellsOf e, len, e, ag, true⟩)
    else match trees cs with | some ts => some (.t (.sl true (elems ag (P.cellsOf e) len ts)), h) | none => none
  | _, _ => none

def buildSlicePV (mu : Nat → Bool) (dst : Option Tmp) (t : TypeId) (len : Nat) (parts : List (Nat × PV)) (h : Hp) : Option (PV × Hp) :=
  match elemB P t with
  | some e => match zeroB P e with
    | some z => if z.length = P.cellsOf e ∧ 0 < P.cellsOf e ∧ len * P.cellsOf e ≤ 16777216 then
        match fillPV (fun i => some (i * P.cellsOf e, P.cellsOf e)) ((zrow z len).map .t) parts with
        | some cs => if cs.all PV.one = true then newRowPV P mu dst e len cs h else none
        | none => none
      else none
    | none => none
  | none => none

def makeSlicePV (mu : Nat → Bool) (dst : Option Tmp) (t : TypeId) (n m : PV) (h : Hp) : Option (PV × Hp) :=
  match elemB P t, n, m with
  | some e, .t (.int .i64 n), .t (.int .i64 m) => match zeroB P e with
    | some z => if z.length = P.cellsOf e ∧ 0 < P.cellsOf e ∧ m = n ∧ 0 ≤ n ∧ n * P.bytesOf e ≤ 281474976710656 ∧ n ≤ 4611686018427387904 then newRowPV P mu dst e n.toNat ((zrow z n.toNat).map .t) h else none
    | none => none
  | _, _, _ => none

/-- a variable in memory -/
def newVarPV (mu : Nat → Bool) (dst : Option Tmp) (t : TypeId) (cs : List PV) (h : Hp) : Option (PV × Hp) :=
  match dst, aggB P t with
  | some d, some ag => if cs.length = P.cellsOf t ∧ 0 < P.cellsOf t ∧ (ag = true ∨ P.cellsOf t = 1) ∧ cs.all PV.one = true then
      if mu d then some (.ad (hnext h d) 1 0, hnew h d ⟨cs, P.cellsOf t, 1, t, ag, true⟩)
      else match trees cs with | some ts => some (.ro ts, h) | none => none
    else none
  | _, _ => none

/-- the cells that are appended: how many elements, the cells -/
def srcPV (e : TypeId) (x : PV) (h : Hp) : Option (Nat × List PV) :=
  match x with
  | .t (.sl _ l) => if (flat l).length = l.length * P.cellsOf e then some (l.length, (flat l).map .t) else none
  | .rf id n => match hget h id with
    | some o => if o.len = n ∧ o.esz = P.cellsOf e then some (n, o.cs) else none
    | none => none
  | _ => none

def appendPV (mu : Nat → Bool) (dst : Option Tmp) (t : TypeId) (s x : PV) (h : Hp) : Option (PV × Hp) :=
  match elemB P t with
  | some e => match zeroB P e, srcPV P e x h with
    | some z, some (m, news) => if z.length = P.cellsOf e ∧ 0 < P.cellsOf e then
        match s with
        | .t (.sl nn _) => if m = 0 then some (s, h) else
            (if nn = false ∧ m * P.bytesOf e ≤ 140737488355328 ∧ m ≤ 4611686018427387904 then newRowPV P mu dst e m news h else none)
        | .rf id n => match hget h id with
          | some o => if o.len = n ∧ o.live = true ∧ o.elem = e ∧ o.esz = P.cellsOf e ∧ (n + m) * P.bytesOf e ≤ 140737488355328 ∧ n + m ≤ 4611686018427387904 then
              (if m = 0 then some (s, h) else some (.rf id (n + m), hset h id { o with cs := o.cs ++ news, len := n + m })) else none
          | none => none
        | _ => none
      else none
    | _, _ => none
  | none => none

/-- a part of a slice or a string -/
def slicePV (t : TypeId) (x : PV) (lo hi : Option PV) (h : Hp) : Option (PV × Hp) :=
  match x with
  | .t (.sl nn l) => match elemB P t with
    | some e => if (flat l).length = l.length * P.cellsOf e then
        match lo.elim (some 0) intOf, hi.elim (some (l.length : Int)) intOf with
        | some a, some b => if 0 ≤ a ∧ a ≤ b ∧ b ≤ l.length then some (.t (.sl nn ((l.take b.toNat).drop a.toNat)), h) else none
        | _, _ => none
      else none
    | none => none
  | .rf id n => match elemB P t, hget h id, toTr h dep (.rf id n) with
    | some e, some o, some (.sl _ l) => if o.len = n ∧ o.esz = P.cellsOf e then
        match lo.elim (some 0) intOf, hi.elim (some (n : Int)) intOf with
        | some a, some b => if 0 ≤ a ∧ a ≤ b ∧ b ≤ n then some (.t (.sl true ((l.take b.toNat).drop a.toNat)), frz h (reach h dep (.rf id n))) else none
        | _, _ => none
      else none
    | _, _, _ => none
  | .t (.str s) => if isStrB P t then
      match lo.elim (some 0) intOf, hi.elim (some (s.size : Int)) intOf with
      | some a, some b => if 0 ≤ a ∧ a ≤ b ∧ b ≤ s.size then some (.t (.str (s.extract a.toNat b.toNat)), h) else none
      | _, _ => none
    else none
  | _ => none

/-! maps from integers to integers; an object of elements of no cells: a map (ag), or what goes through one -/
def kvC : List (Int × Int) → List PV
  | [] => []
  | x :: r => .t (.int .i64 x.1) :: .t (.int .i64 x.2) :: kvC r
def kvP : List PV → Option (List (Int × Int))
  | [] => some []
  | .t (.int .i64 k) :: .t (.int .i64 v) :: r => match kvP r with | some l => some ((k, v) :: l) | none => none
  | _ => none
def kvIdx (k : Int) : Nat → List (Int × Int) → Option (Nat × Int)
  | _, [] => none
  | i, x :: r => if k = x.1 then some (i, x.2) else kvIdx k (i + 1) r
def flC (l : List Bool) : List PV := l.map fun b => .t (.bool b)
def flP : List PV → Option (List Bool)
  | [] => some []
  | .t (.bool b) :: r => match flP r with | some l => some (b :: l) | none => none
  | _ => none
/-- a type of maps from integers to integers -/
def mapB (t : TypeId) : Bool := match P.underlying t with
  | some (.map k e) => (intB P k == some .i64) && (match (P.info? e).bind (·.zero) with | some (.int .i64 0) => true | _ => false)
  | _ => false
def makeMapPV (mu : Nat → Bool) (dst : Option Tmp) (t : TypeId) (h : Hp) : Option (PV × Hp) :=
  match dst with
  | some d => if mu d = true ∧ mapB P t = true then some (.mp (hnext h d), hnew h d ⟨[], 0, 0, t, true, true⟩) else none
  | none => none
def mapEntryPV (t : TypeId) (m k : PV) (h : Hp) : Option (PV × Hp) :=
  match m, k with
  | .mp id, .t (.int .i64 k) => match hget h id with
    | some o => if o.esz = 0 ∧ o.ag = true ∧ o.live = true ∧ mapB P t = true then
        match kvP o.cs with
        | some kv => match kvIdx k 0 kv with
          | some (i, v) => some (.t (.tup [.int .i64 v, .int .i64 i]), h)
          | none => some (.t (.tup [.int .i64 0, .int .i64 kv.length]), hset h id { o with cs := kvC (kv ++ [(k, 0)]) })
        | none => none
      else none
    | none => none
  | _, _ => none
def entryStorePV (m i x : PV) (h : Hp) : Option Hp :=
  match m, i, x with
  | .mp id, .t (.int .i64 i), .t (.int .i64 x) => match hget h id with
    | some o => if o.esz = 0 ∧ o.ag = true ∧ o.live = true ∧ 0 ≤ i then
        match kvP o.cs with
        | some kv => match kv[i.toNat]? with
          | some y => some (hset h id { o with cs := kvC (kv.set i.toNat (y.1, x)) })
          | none => none
        | none => none
      else none
    | none => none
  | _, _, _ => none
def rangePV (mu : Nat → Bool) (dst : Option Tmp) (t : TypeId) (m : PV) (h : Hp) : Option (PV × Hp) :=
  match dst, m with
  | some d, .mp id => match hget h id with
    | some o => if mu d = true ∧ o.esz = 0 ∧ o.ag = true ∧ mapB P t = true then
        match kvP o.cs with
        | some kv => some (.it (hnext h d), hnew h d ⟨.mp id :: flC (List.replicate kv.length false), 0, 0, t, false, true⟩)
        | none => none
      else none
    | none => none
  | _, _ => none

def still (p : Option PV) (h : Hp) : Option (PV × Hp) := match p with | some v => some (v, h) | none => none

def minPV : PV → PV → Option PV
  | .t (.int k x), .t (.int k' y) => if k = k' then some (.t (.int k (if y < x then y else x))) else none
  | _, _ => none
def maxPV : PV → PV → Option PV
  | .t (.int k x), .t (.int k' y) => if k = k' then some (.t (.int k (if x < y then y else x))) else none
  | _, _ => none

/-- An operation that is no call of a function: its value, and the heap behind it. -/
def evalOp (mu : Nat → Bool) (o : Oper) (s : St) : Option (PV × Hp) :=
  match o.op with
  | .move x => some (ev s.sl x, s.hp)
  | .assign x => some (ev s.sl x, s.hp)
  | .pick c a b => match boolOf (ev s.sl c) with | some c => some (if c then ev s.sl a else ev s.sl b, s.hp) | none => none
  | .alloc t => match zeroB P t with | some z => newVarPV P mu o.dst t (z.map .t) s.hp | none => none
  | .box t x => newVarPV P mu o.dst t (ev s.sl x).cells s.hp
  | .build t parts => still (buildPV P t (parts.toList.map fun p => (p.1, ev s.sl p.2))) s.hp
  | .buildSlice t len parts => buildSlicePV P mu o.dst t len (parts.toList.map fun p => (p.1, ev s.sl p.2)) s.hp
  | .load t x => still (loadPV P t (ev s.sl x) s.hp) s.hp
  | .store t a x => match storePV P t (ev s.sl a) (ev s.sl x) s.hp with | some h => some (.skip, h) | none => none
  | .nilCheck x => match ev s.sl x with | .ro cs => some (.ro cs, s.hp) | .ad id n off => if valid s.hp id n then some (.ad id n off, s.hp) else none | _ => none
  | .binOp op xt x y _ => still (binPV P s.hp op xt (ev s.sl x) (ev s.sl y)) s.hp
  | .unOp op _ x => still (unPV op (ev s.sl x)) s.hp
  | .convert src dst x => still (convPV P dst src (ev s.sl x)) s.hp
  | .makeFunc (.func f) first captured => if first.toList.isEmpty then some (mkFn f (evs s.sl captured.toList), s.hp) else none
  | .makeSlice t n m => makeSlicePV P mu o.dst t (ev s.sl n) (ev s.sl m) s.hp
  | .slice t x lo hi none => slicePV P t (ev s.sl x) (lo.map (ev s.sl)) (hi.map (ev s.sl)) s.hp
  | .fieldAddr st x i => still (fieldAddrPV P st i (ev s.sl x) s.hp) s.hp
  | .field st x i => still (fieldPV P st i (ev s.sl x)) s.hp
  | .indexAddr t x i => still (indexAddrPV P t (ev s.sl x) (ev s.sl i) s.hp) s.hp
  | .index t x i => still (indexPV P t (ev s.sl x) (ev s.sl i)) s.hp
  | .makeMap t none => makeMapPV P mu o.dst t s.hp
  | .mapEntry t m k => mapEntryPV P t (ev s.sl m) (ev s.sl k) s.hp
  | .entryStore _ m i x => match entryStorePV (ev s.sl m) (ev s.sl i) (ev s.sl x) s.hp with | some h => some (.skip, h) | none => none
  | .range t m => rangePV P mu o.dst t (ev s.sl m) s.hp
  | .extract x i => match ev s.sl x with
    | .t (.tup l) => (match l[i]? with | some y => some (.t y, s.hp) | none => none)
    | .tup l => (match l[i]? with | some y => some (y, s.hp) | none => none)
    | _ => none
  | .call c => match c.callee, c.args.toList, c.argTypes.toList with
    | .builtin .len, [x], t :: _ => if isStrB P t then (match ev s.sl x with | .t (.str b) => some (.t (.int .i64 b.size), s.hp) | _ => none) else if (elemB P t).isSome then still (lenPV s.hp (ev s.sl x)) s.hp else none
    | .builtin .append, [x, y], [t, u] => if t = u then appendPV P mu o.dst t (ev s.sl x) (ev s.sl y) s.hp else none
    | .builtin .min, [x, y], _ => still (minPV (ev s.sl x) (ev s.sl y)) s.hp
    | .builtin .max, [x, y], _ => still (maxPV (ev s.sl x) (ev s.sl y)) s.hp
    | _, _, _ => none
  | _ => none
end

/-! ## Reading trees in memory, and the contract of a call -/

/-- The value v reads as the tree x in the world w; no cell that is read lies in a block of L. -/
inductive Reads (w : World) (L : Nat → Prop) : Tr → Value → Prop where
  | int (k : IntKind) (n : Int) : Reads w L (.int k n) (.int k n)
  | bool (b : Bool) : Reads w L (.bool b) (.bool b)
  | str (s : ByteArray) : Reads w L (.str s) (.string s)
  | agg {l : List Tr} {vs : Array Value} (hl : l.length = vs.size) (h : ∀ i x, l[i]? = some x → Reads w L x (vs.getD i undef)) : Reads w L (.agg l) (.agg vs)
  | tup {l : List Tr} {vs : Array Value} (hl : l.length = vs.size) (h : ∀ i x, l[i]? = some x → Reads w L x (vs.getD i undef)) : Reads w L (.tup l) (.tuple vs)
  | nil : Reads w L (.sl false []) (.slice none 0 0)
  | sl {l : List Tr} {a : Addr} {cap esz : Nat} {vals : Nat → Value} (hs : flat l ≠ [] → a.spot = none) (hc : l.length ≤ cap) (hm : cap ≤ maxLen) (he : ∀ x ∈ l, x.cells.length = esz)
      (hcell : ∀ k x, (flat l)[k]? = some x → ¬ L a.block ∧ w.cell? (a.add k) = some (vals k) ∧ (vals k).oneCell' = true)
      (h : ∀ k x, (flat l)[k]? = some x → Reads w L x (vals k)) : Reads w L (.sl true l) (.slice (some a) l.length cap)
  | fn {f : FuncId} {l : List Tr} {vs : Array Value} (hl : l.length = vs.size) (h : ∀ i x, l[i]? = some x → Reads w L x (vs.getD i undef)) : Reads w L (.fn f l) (.func (.func f) #[] vs)
  | nilp : Reads w L .nilp (.pointer none)
  | ptr {cs : List Tr} {a : Addr} {vals : Nat → Value} (hs : a.spot = none)
      (hcell : ∀ k x, cs[k]? = some x → ¬ L a.block ∧ w.cell? (a.add k) = some (vals k) ∧ (vals k).oneCell' = true)
      (h : ∀ k x, cs[k]? = some x → Reads w L x (vals k)) : Reads w L (.ptr cs) (.pointer (some a))

def ReadsL (w : World) (L : Nat → Prop) (l : List Tr) (vs : Array Value) : Prop := l.length = vs.size ∧ ∀ i x, l[i]? = some x → Reads w L x (vs.getD i undef)

/-! ## Relations -/
def Lv (h : Hp) (μ : Id → Nat) (b : Nat) : Prop := ∃ id o, hget h id = some o ∧ o.live = true ∧ μ id = b
def LL (A : Nat → Prop) (h : Hp) (μ : Id → Nat) (b : Nat) : Prop := A b ∨ Lv h μ b

inductive VR (h : Hp) (μ : Id → Nat) (w : World) (L : Nat → Prop) : PV → Value → Prop where
  | t {x : Tr} {v : Value} (hr : Reads w L x v) : VR h μ w L (.t x) v
  | ro {cs : List Tr} {a : Addr} {vals : Nat → Value} (hs : a.spot = none)
      (hcell : ∀ k x, cs[k]? = some x → ¬ L a.block ∧ w.cell? (a.add k) = some (vals k) ∧ (vals k).oneCell' = true)
      (hr : ∀ k x, cs[k]? = some x → Reads w L x (vals k)) : VR h μ w L (.ro cs) (.pointer (some a))
  | rf {id : Id} {n : Nat} {v : Value} {o : Obj} (ho : hget h id = some o) (hz : o.esz ≠ 0) (hn : n ≤ o.len) (h1 : v.oneCell' = true)
      (hv : o.len = n → ∃ cap cur et fz, v = .slice (some ⟨μ id, 0, none⟩) n cap ∧ w.heap[μ id]? = some (.cells cur et fz) ∧ cur.size = cap * o.esz) : VR h μ w L (.rf id n) v
  | ad {id : Id} {n off : Nat} {v : Value} {o : Obj} (ho : hget h id = some o) (hz : o.esz ≠ 0) (hn : n ≤ o.len) (h1 : v.oneCell' = true)
      (hv : o.len = n → v = .pointer (some ⟨μ id, off, none⟩)) : VR h μ w L (.ad id n off) v
  | mp {id : Id} {o : Obj} (ho : hget h id = some o) (hz : o.esz = 0) (hg : o.ag = true) : VR h μ w L (.mp id) (.map (some (μ id)))
  | it {id : Id} {o : Obj} (ho : hget h id = some o) (hz : o.esz = 0) (hg : o.ag = false) : VR h μ w L (.it id) (.pointer (some ⟨μ id, 0, none⟩))
  | agg {l : List PV} {vs : Array Value} (hl : l.length = vs.size) (hr : ∀ i x, l[i]? = some x → VR h μ w L x (vs.getD i undef)) : VR h μ w L (.agg l) (.agg vs)
  | tup {l : List PV} {vs : Array Value} (hl : l.length = vs.size) (hr : ∀ i x, l[i]? = some x → VR h μ w L x (vs.getD i undef)) : VR h μ w L (.tup l) (.tuple vs)
  | fn {f : FuncId} {l : List PV} {vs : Array Value} (hl : l.length = vs.size) (hr : ∀ i x, l[i]? = some x → VR h μ w L x (vs.getD i undef)) : VR h μ w L (.fn f l) (.func (.func f) #[] vs)
  | skip : VR h μ w L .skip undef
  | undef {v : Value} : VR h μ w L .undef v

/-- a map's entries in the model -/
def entA : Nat → List (Int × Int) → List MapEntry
  | _, [] => []
  | i, x :: r => ⟨.int .i64 x.1, .int .i64 x.2, i⟩ :: entA (i + 1) r
/-- how a map lies, and what goes through one -/
def MapLay (_h : Hp) (μ : Id → Nat) (w : World) (id : Id) (o : Obj) : Prop := ∃ kv : List (Int × Int), o.cs = kvC kv ∧ w.heap[μ id]? = some (.map (entA 0 kv).toArray kv.length)
def IterLay (h : Hp) (μ : Id → Nat) (w : World) (id : Id) (o : Obj) : Prop := ∃ (m : Id) (om : Obj) (fs : List Bool) (seen : Array Nat) (c0 : Nat),
  o.cs = .mp m :: flC fs ∧ hget h m = some om ∧ om.esz = 0 ∧ om.ag = true ∧ w.heap[μ id]? = some (.mapIter (some (μ m)) fs.length seen c0) ∧ fs.length ≤ c0 ∧ ∀ i, seen.contains i = fs.getD i false

structure HR (A : Nat → Prop) (h : Hp) (μ : Id → Nat) (w : World) : Prop where
  spec : ∀ id o, hget h id = some o → o.esz = 0 → o.len = 0 ∧ (o.ag = true → MapLay h μ w id o) ∧ (o.ag = false → IterLay h μ w id o)
  obj : ∀ id o, hget h id = some o → o.esz ≠ 0 → ∃ cur cap, w.heap[μ id]? = some (.cells cur o.elem (0, 0)) ∧ 0 < o.esz ∧ (o.ag = false → o.esz = 1) ∧ o.cs.length = o.len * o.esz ∧ cur.size = cap * o.esz ∧ o.len ≤ cap ∧ cap ≤ maxLen ∧
    ∀ k p, o.cs[k]? = some p → VR h μ w (LL A h μ) p (cur.getD k undef) ∧ (cur.getD k undef).oneCell' = true
  inj : ∀ id id' o o', hget h id = some o → hget h id' = some o' → o.live = true → μ id = μ id' → id = id'
  dis : ∀ id o, hget h id = some o → ¬ A (μ id)
  old : ∀ b, A b → b < w.heap.size

structure Ext (h : Hp) (μ : Id → Nat) (w : World) (h' : Hp) (μ' : Id → Nat) (w' : World) : Prop where
  os : w'.os = w.os
  tape : w'.tape = w.tape
  output : w'.output = w.output
  size : w.heap.size ≤ w'.heap.size
  old : ∀ b : Nat, b < w.heap.size → ¬ Lv h μ b → w'.heap[b]? = w.heap[b]?
  bsz : ∀ (b : Nat) (cur : Array Value) (et : TypeId) (fz : Nat × Nat), w.heap[b]? = some (.cells cur et fz) → ∃ (cur' : Array Value) (et' : TypeId) (fz' : Nat × Nat), w'.heap[b]? = some (.cells cur' et' fz') ∧ cur'.size = cur.size
  obj : ∀ id o, hget h id = some o → ∃ o', hget h' id = some o' ∧ o.len ≤ o'.len ∧ o'.esz = o.esz ∧ (o'.len = o.len → μ' id = μ id) ∧ (o'.live = true → o.live = true) ∧ o'.ag = o.ag ∧ (o.esz = 0 → o'.len = o.len)
  lv : ∀ b, Lv h' μ' b → Lv h μ b ∨ w.heap.size ≤ b

/-- a function that a call enters -/
def Enters (P : Program) (g : FuncId) : Prop := ∃ fn, P.funcs[g]? = some fn ∧ (fn.name == "runtime.NumGoroutine") = false ∧ fn.body.isNone = false

/-- CALLED WITH VALUES THAT READ AS args, function g returns a value that reads as r; it has changed nothing that was there. -/
structure DCall (P : Program) (g : FuncId) (args : List Tr) (r : Tr) : Prop where
  enters : Enters P g
  run : ∀ (w : World) (A : Nat → Prop) (vs : Array Value), (∀ b, A b → b < w.heap.size) → ReadsL w A args vs →
    Calls P g vs w fun e w' => ∃ v, e = .returned v ∧ Reads w' A r v ∧ RowKit.Below w.heap.size w w'

/-- CALLED IN THE HEAP h WITH VALUES THAT READ AS args, function g returns a value and leaves a heap that Q speaks of; but for the objects of h it has changed nothing that was there. -/
def ICall (P : Program) (g : FuncId) (args : List PV) (h : Hp) (Q : PV → Hp → Prop) : Prop :=
  Enters P g ∧ ∀ (w : World) (A : Nat → Prop) (μ : Id → Nat) (vs : Array Value), HR A h μ w → args.length = vs.size → (∀ i p, args[i]? = some p → VR h μ w (LL A h μ) p (vs.getD i undef)) →
    Calls P g vs w fun e w' => ∃ v r h' μ', e = .returned v ∧ Q r h' ∧ HR A h' μ' w' ∧ Ext h μ w h' μ' w' ∧ VR h' μ' w' (LL A h' μ') r v

/-- a call with one outcome: it shares the heap, or it takes what its arguments lead to as it is from then on -/
def Exact (P : Program) (g : FuncId) (args : List PV) (h : Hp) (v : PV) (h' : Hp) : Prop :=
  ICall P g args h (fun v' h'' => v' = v ∧ h'' = h') ∨ ∃ ts r, mapO (toTr h dep) args = some ts ∧ DCall P g ts r ∧ v = .t r ∧ h' = frz h (args.flatMap (reach h dep))

/-! ## The code -/
inductive Ex where
  | normal
  | exit (id : Nat)
  | ret
def Ex.of : Ex → Exit
  | .normal => .normal
  | .exit id => .exit id
  | .ret => .ret

section
variable (P : Program) (mu : Nat → Bool)

/-- A call of a function value: which function, which arguments. -/
def calleeOf (s : Sl) (f : Operand) (args : List Operand) : Option (FuncId × List PV) :=
  match ev s f with
  | .t (.fn g caps) => some (g, evs s args ++ caps.map .t)
  | .fn g caps => some (g, evs s args ++ caps)
  | _ => none

/-- may a call with this destination touch the own heap in a drawn region? -/
def fatB (d : Option Tmp) : Bool := match d with | some d => mu d | none => true

/-- One call: the arguments' snapshots; what they lead to is not written from then on, unless the result leads nowhere; or a call that shares the heap. dr: in a region that draws its order: then the arguments are trees, or the call's outcome is one. -/
def callW (dr : Bool) (o : Oper) (s : St) (g : FuncId) (args : List PV) (K : St → Prop) : Prop :=
  if dr then (∃ ts r, trees args = some ts ∧ DCall P g ts r ∧ K (St.put s o.dst (.t r))) ∨
    (fatB mu o.dst = true ∧ ∃ v h', Exact P g args s.hp v h' ∧ K (St.put { s with hp := h' } o.dst v))
  else (∃ ts r, mapO (toTr s.hp dep) args = some ts ∧ DCall P g ts r ∧
    (if r.scalar then K (St.put s o.dst (.t r)) else K (St.put { s with hp := frz s.hp (args.flatMap (reach s.hp dep)) } o.dst (.t r)))) ∨
    ICall P g args s.hp (fun v h' => K (St.put { s with hp := h' } o.dst v))

def PV.isRef : PV → Bool
  | .rf .. | .ad .. => true
  | _ => false
/-- a slot that no site of this function's own objects fills -/
def outer : Operand → Bool
  | .tmp t => mu t
  | _ => false
/-- a slot that is said to hold a tree where it is sliced (mu says so at 2000000 further on) -/
def treeX : Operand → Bool
  | .tmp t => mu (2000000 + t)
  | _ => false
/-- what an operation does with the heap: 0 nothing, 1 reads, 2 makes an object of its own site, 3 more -/
def hkind (o : Oper) : Nat :=
  match o.op with
  | .move _ | .assign _ | .pick .. | .build .. | .unOp .. | .convert .. | .makeFunc .. | .field .. | .index .. | .extract .. => 0
  | .load _ x | .nilCheck x | .fieldAddr _ x _ | .indexAddr _ x _ => if outer mu x then 1 else 0
  | .binOp _ _ x y _ => if outer mu x || outer mu y then 1 else 0
  | .alloc _ | .box .. | .makeSlice .. | .buildSlice .. => match o.dst with | some d => if mu d then 2 else 0 | none => 0
  | .slice _ x _ _ _ => if treeX mu x then 0 else 3
  | .call c => match c.callee, c.args.toList with
    | .value _, _ => if fatB mu o.dst then 3 else 0
    | .builtin .len, [x] => if outer mu x then 1 else 0
    | .builtin .min, _ | .builtin .max, _ => 0
    | _, _ => 3
  | _ => 3
/-- the slot that an operation loads or stores through, if it is said to hold an object of its own site (mu says so at 1000000 further on) -/
def homeX (x : Operand) : Option Nat := match x with
  | .tmp d => if mu (1000000 + d) then some d else none
  | _ => none
def home (o : Oper) : Option Nat := match o.op with
  | .load _ x => homeX mu x
  | .store _ a _ => homeX mu a
  | _ => none
def PV.at_ (d : Nat) : PV → Bool
  | .ad id _ _ => id.1 == d
  | _ => false
def homedX (x : Operand) (s : Sl) : Bool := match homeX mu x with
  | some d => (s d).at_ d
  | none => true
def homed (o : Oper) (s : Sl) : Bool := match home mu o with
  | some d => (s d).at_ d
  | none => true
/-- the operands that must lead to no object where an operation is counted as one that does nothing with the heap -/
def bare0 (o : Oper) (s : Sl) : Bool :=
  match o.op with
  | .load _ x | .nilCheck x | .fieldAddr _ x _ | .indexAddr _ x _ => outer mu x || !(ev s x).isRef
  | .binOp _ _ x y _ => outer mu x || outer mu y || (!(ev s x).isRef && !(ev s y).isRef)
  | .slice _ x _ _ _ => !treeX mu x || !(ev s x).isRef
  | .call c => match c.callee, c.args.toList with
    | .builtin .len, [x] => outer mu x || !(ev s x).isRef
    | _, _ => true
  | _ => true

def bare (o : Oper) (s : Sl) : Bool := homed mu o s && bare0 mu o s

/-- a step through a map: which one -/
def nextPart (s : Sl) (o : Oper) : Option PV := match o.op with
  | .next x false => some (ev s x)
  | _ => none
/-- the states that a step through a map may lead to -/
def nextTo (o : Oper) (s : St) (id : Id) (s' : St) : Prop := ∃ ob m fs om kv, hget s.hp id = some ob ∧ ob.cs = .mp m :: flC fs ∧ hget s.hp m = some om ∧ om.cs = kvC kv ∧
  ((fs.all (fun b => b) = true ∧ s' = St.put s o.dst (.t (.tup [.bool false]))) ∨
   ∃ i, fs[i]? = some false ∧ s' = St.put { s with hp := hset s.hp id { ob with cs := .mp m :: flC (fs.set i true) } } o.dst (.t (.tup [.bool true, .int .i64 (kv.getD i (0, 0)).1, .int .i64 (kv.getD i (0, 0)).2])))
/-- may a step be taken? -/
def nextOk (s : St) (id : Id) : Prop := ∃ ob m fs om kv, hget s.hp id = some ob ∧ ob.esz = 0 ∧ ob.ag = false ∧ ob.live = true ∧ ob.cs = .mp m :: flC fs ∧ hget s.hp m = some om ∧ om.esz = 0 ∧ om.ag = true ∧ om.cs = kvC kv ∧ kv.length = fs.length
def nextW (dr : Bool) (o : Oper) (s : St) (p : PV) (K : St → Prop) : Prop := match p with
  | .it id => dr = false ∧ nextOk s id ∧ ∀ s', nextTo o s id s' → K s'
  | _ => False

def plainW (dr : Bool) (o : Oper) (s : St) (K : St → Prop) : Prop :=
  match nextPart s.sl o with
  | some p => nextW dr o s p K
  | none => (dr = true → bare mu o s.sl = true) ∧ match evalOp P mu o s with | some (v, h) => K (St.put { s with hp := h } o.dst v) | none => False

/-- is it a call of a function value? of which? -/
def callPart (s : Sl) (o : Oper) : Option (Option (FuncId × List PV)) :=
  match o.op with
  | .call c => match c.callee with
    | .value f => some (calleeOf s f c.args.toList)
    | _ => none
  | _ => none

def opW (dr : Bool) (o : Oper) (s : St) (K : St → Prop) : Prop :=
  match callPart s.sl o with
  | some (some (g, args)) => callW P mu dr o s g args K
  | some none => False
  | none => plainW P mu dr o s K

/-- the guard's slot: 'none' where it is not known what it holds -/
def guardPV (all : List Oper) (s : Sl) (j : Nat) : Option (Option Bool) :=
  match all[j]? with
  | some o => match o.dst with
    | some d => match s d with | .t (.bool b) => some (some b) | .skip => some none | _ => none
    | none => none
  | none => none
/-- is the operation carried out? -/
def guardRun (all : List Oper) (s : Sl) (o : Oper) : Option Bool :=
  match o.guard with
  | none => some true
  | some (j, want) => match guardPV all s j with
    | some (some b) => some (b == want)
    | some none => some false
    | none => none

def opG (dr : Bool) (all : List Oper) (o : Oper) (s : St) (K : St → Prop) : Prop :=
  match guardRun all s.sl o with
  | some r => (r = true → opW P mu dr o s K) ∧ (r = false → K (St.put s o.dst .skip))
  | none => False

def opsW (dr : Bool) (all : List Oper) : List Oper → St → (St → Prop) → Prop
  | [], s, K => K s
  | o :: r, s, K => opG P mu dr all o s fun s' => opsW dr all r s' K

def wp : Code → St → (Ex → St → Prop) → Prop
  | .skip, s, K => K .normal s
  | .ret, s, K => K .ret s
  | .exit n, s, K => K (.exit n) s
  | .region _ ops dr, s, K => opsW P mu dr ops.toList ops.toList s (K .normal)
  | .seq a b, s, K => wp a s fun e s' => match e with | .normal => wp b s' K | .exit n => K (.exit n) s' | .ret => K .ret s'
  | .cond c a b, s, K => match boolOf (ev s.sl c) with | some x => (x = true → wp a s K) ∧ (x = false → wp b s K) | none => False
  | .block id b, s, K => wp b s fun e s' => match e with | .normal => K .normal s' | .exit n => if n = id then K .normal s' else K (.exit n) s' | .ret => K .ret s'
  | .loop b, s, K => ∃ (I : Nat → St → Prop) (n : Nat), I n s ∧ ∀ n s, I n s → wp b s fun e s' => match e with | .normal => ∃ m, m < n ∧ I m s' | .exit n => K (.exit n) s' | .ret => K .ret s'
  | _, _, _ => False
end

/-! ## A function -/
def initSl (args : List Tr) : Sl := fun t => match args[t]? with | some x => x.pv | none => .undef
def initSt (args : List Tr) : St := ⟨initSl args, fun _ => []⟩
def resPV (P : Program) (s : St) : ResultVar → Option PV
  | .tmp t => some (s.sl t)
  | .cell a t => loadPV P t (s.sl a) s.hp
def resTr (P : Program) (s : St) (l : List ResultVar) : Option Tr :=
  match mapO (fun r => match resPV P s r with | some p => toTr s.hp dep p | none => none) l with
  | some [x] => some x
  | some ts => some (.tup ts)
  | none => none
/-- the function's end -/
def endK (P : Program) (fn : Func) (r : Tr) : Ex → St → Prop := fun e s => match e with
  | .exit _ => False
  | _ => resTr P s fn.results.toList = some r
end Go.Vm
