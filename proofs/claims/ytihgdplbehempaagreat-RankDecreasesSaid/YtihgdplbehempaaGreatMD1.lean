import Derived.Test.YtihgdplbehempaaGreatRows
import Derived.OwnWalk
import Derived.Below
import Derived.Attr
import Derived.Test.YtihgdplbehempaaGreatProg
import Derived.KernelRfl
import Derived.Great.BuildSlice
import Derived.Laws.Cover3
import Derived.Laws.AppendOwn
import Derived.MapKept
import Derived.Maps.RangeRun
import Derived.Orders
import Derived.Deep.LoopGhost
import Derived.DataReads
import GoSem.ClaimChange
import Derived.WalkKit
import Derived.ProofKit
import Derived.OpenShut
import Derived.SizedLaws
import Derived.JoinedOf
import Derived.ShutString
import Derived.ChangeOld
set_option linter.unusedSimpArgs false
set_option linter.unusedVariables false
set_option maxRecDepth 10000
section
namespace Go.Vm
open Go
inductive Tr where
 |int (k:IntKind) (n:Int)
 |bool (b:Bool)
 |str (s:ByteArray)
 |agg (l:List Tr)
 |tup (l:List Tr)
 |sl (nn:Bool) (l:List Tr)
 |fn (f:FuncId) (caps:List Tr)
 |uq
 |ptr (cs:List Tr)
 deriving Inhabited
abbrev Id:=Nat × Nat
inductive PV where
 |t (x:Tr)
 |ro (cs:List Tr)
 |rf (id:Id) (n:Nat)
 |ad (id:Id) (n off:Nat)
 |agg (l:List PV)
 |tup (l:List PV)
 |fn (f:FuncId) (caps:List PV)
 |skip
 |undef
 |mp (id:Id)
 |it (id:Id)
 deriving Inhabited
def Tr.cells:Tr->List Tr
 |.agg l=>l
 |x=>[x]
def PV.cells:PV->List PV
 |.t (.agg l)=>l.map .t
 |.agg l=>l
 |v=>[v]
def PV.one:PV->Bool
 |.t (.agg _)|.t (.tup _)|.agg _|.tup _|.skip|.undef=>false
 |_=>true
def flat (l:List Tr):List Tr:=l.flatMap Tr.cells
def Tr.scalar:Tr->Bool
 |.int ..|.bool _|.str _=>true
 |.tup l=>scalars l
 |_=>false
where scalars:List Tr->Bool
 |[]=>true
 |.int ..::r|.bool _::r|.str _::r=>scalars r
 |_::_=>false
def trees:List PV->Option (List Tr)
 |[]=>some []
 |.t x::r=>match trees r with|some ts=>some (x::ts)|none=>none
 |_::_=>none
def gV (l:List PV):PV:=match trees l with|some ts=>.t (.agg ts)|none=>.agg l
def tV (l:List PV):PV:=match trees l with|some ts=>.t (.tup ts)|none=>.tup l
def PV.lift:PV->PV
 |.ro cs=>.t (.ptr cs)
 |v=>v
def Tr.pv:Tr->PV
 |.ptr cs=>.ro cs
 |x=>.t x
def C9 (f:FuncId) (l:List PV):PV:=match trees (l.map PV.lift) with|some ts=>.t (.fn f ts)|none=>.fn f l
structure Obj where
 cs:List PV
 esz:Nat
 len:Nat
 elem:TypeId
 ag:Bool
 live:Bool
 deriving Inhabited
abbrev Hp:=Nat->List Obj
abbrev Sl:=Nat->PV
structure St where
 sl:Sl
 hp:Hp
def upd {α:Type} (f:Nat->α) (t:Nat) (v:α):Nat->α:=fun u=>if u=t then v else f u
@[simp] theorem EL {α:Type} (f:Nat->α) (t:Nat) (v:α):upd f t v t=v:=by simp[upd]
theorem upd_ne {α:Type} (f:Nat->α) (t u:Nat) (v:α) (h:u≠t):upd f t v u=f u:=by simp[upd,h]
def hget (h:Hp) (id:Id):Option Obj:=(h id.1)[id.2]?
def hset (h:Hp) (id:Id) (o:Obj):Hp:=upd h id.1 ((h id.1).set id.2 o)
def hnew (h:Hp) (s:Nat) (o:Obj):Hp:=upd h s (h s++[o])
def hnext (h:Hp) (s:Nat):Id:=(s,(h s).length)
def St.put (s:St) (d:Option Tmp) (v:PV):St:=match d with|some t=>{ s with sl:=upd s.sl t v }|none=>s
section
variable (P:Program)
def bR (t:TypeId):Option Bool:=match P.underlying t with|some (.struct _)|some (.array ..)=>some true|some _=>some false|none=>none
def bU (s:TypeId) (i:Nat):Option (Nat × TypeId):=match P.underlying s with
 |some (.struct fs)=>match fs[i]? with|some f=>if (P.info? f.type).isSome/\P.cellsOf f.type≠0 then some (f.offset,f.type) else none|none=>none
 |_=>none
def bg (t:TypeId):Option TypeId:=match P.underlying t with|some (.slice e)=>if (P.info? e).isSome then some e else none|_=>none
def uw (t:TypeId):Option IntKind:=match P.underlying t with|some (.int k)=>some k|_=>none
def fT (t:TypeId):Bool:=match P.underlying t with|some .string=>true|_=>false
def Aj (t:TypeId):Bool:=match P.underlying t with|some .bool=>true|_=>false
def cvV:Value->Option Tr
 |.int k n=>some (.int k n)
 |.bool b=>some (.bool b)
 |.string s=>some (.str s)
 |.slice none 0 0=>some (.sl false [])
 |.pointer none=>some .uq
 |.nilFunc=>some .uq
 |.map none=>some .uq
 |_=>none
def cvs:List Value->Option (List Tr)
 |[]=>some []
 |v::r=>match cvV v,cvs r with|some x,some ts=>some (x::ts)|_,_=>none
def aW (t:TypeId):Option (List Tr):=match (P.info? t).bind (·.zero) with|some z=>cvs z.cells.toList|none=>none
end
def ev (s:Sl):Operand->PV
 |.tmp t=>s t
 |.const v=>match cvV v with|some x=>.t x|none=>.undef
 |.func f=>.t (.fn f [])
 |.global _=>.undef
def evs (s:Sl):List Operand->List PV
 |[]=>[]
 |x::r=>ev s x::evs s r
def chunk (esz:Nat):Nat->List Tr->List Tr
 |0,_=>[]
 |n+1,ts=>.agg (ts.take esz)::chunk esz n (ts.drop esz)
def elems (ag:Bool) (esz n:Nat) (ts:List Tr):List Tr:=if ag then chunk esz n ts else ts
def bA {α β:Type} (f:α->Option β):List α->Option (List β)
 |[]=>some []
 |a::r=>match f a,bA f r with|some b,some bs=>some (b::bs)|_,_=>none
def aS (h:Hp):Nat->PV->Option Tr
 |0,p=>match p with|.t x=>some x|_=>none
 |k+1,p=>match p with
  |.t x=>some x
  |.rf id n=>match hget h id with
   |some o=>if o.len=n then (match bA (aS h k) o.cs with|some ts=>some (.sl true (elems o.ag o.esz o.len ts))|none=>none) else none
   |none=>none
  |.agg l=>match bA (aS h k) l with|some ts=>some (.agg ts)|none=>none
  |.tup l=>match bA (aS h k) l with|some ts=>some (.tup ts)|none=>none
  |.fn f l=>match bA (aS h k) l with|some ts=>some (.fn f ts)|none=>none
  |.ro cs=>some (.ptr cs)
  |.ad id n off=>match hget h id with
   |some o=>if o.len=n then (match bA (aS h k) o.cs with|some ts=>some (.ptr (ts.drop off))|none=>none) else none
   |none=>none
  |_=>none
def reach (h:Hp):Nat->PV->List Id
 |0,_=>[]
 |k+1,p=>match p with
  |.rf id _=>id::(match hget h id with|some o=>o.cs.flatMap (reach h k)|none=>[])
  |.agg l=>l.flatMap (reach h k)
  |.tup l=>l.flatMap (reach h k)
  |.fn _ l=>l.flatMap (reach h k)
  |.ad id _ _=>id::(match hget h id with|some o=>o.cs.flatMap (reach h k)|none=>[])
  |_=>[]
def Rh (h:Hp) (id:Id):Hp:=match hget h id with|some o=>hset h id { o with live:=false }|none=>h
def frz (h:Hp) (ids:List Id):Hp:=ids.foldl Rh h
def dep:Nat:=6
section
variable (P:Program)
def uG:PV->Option Bool
 |.t (.bool b)=>some b
 |_=>none
def intOf:PV->Option Int
 |.t (.int _ n)=>some n
 |_=>none
def valid (h:Hp) (id:Id) (n:Nat):Bool:=match hget h id with|some o=>o.len==n|none=>false
def gB (t:TypeId) (p:PV) (h:Hp):Option PV :=
 match bR P t,p with
 |some true,.ro cs=>if (cs.take (P.cellsOf t)).length=P.cellsOf t then some (.t (.agg (cs.take (P.cellsOf t)))) else none
 |some false,.ro (c::_)=>some (.t c)
 |some true,.ad id n off=>match hget h id with
  |some o=>if o.len=n/\((o.cs.drop off).take (P.cellsOf t)).length=P.cellsOf t then some (gV ((o.cs.drop off).take (P.cellsOf t))) else none
  |none=>none
 |some false,.ad id n off=>match hget h id with
  |some o=>if o.len=n then o.cs[off]? else none
  |none=>none
 |_,_=>none
def splice (l:List PV) (off:Nat) (vs:List PV):List PV:=l.take off++vs++l.drop (off+vs.length)
def lH (t:TypeId) (p v:PV) (h:Hp):Option Hp :=
 match p with
 |.ad id n off=>match hget h id with
  |some o=>if o.len=n/\o.live=true/\(P.info? t).isSome/\v.cells.length=P.cellsOf t/\off+v.cells.length<=o.cs.length/\v.cells.all PV.one=true
   then some (hset h id { o with cs:=splice o.cs off v.cells }) else none
  |none=>none
 |_=>none
def dV (s:TypeId) (i:Nat) (p:PV) (h:Hp):Option PV :=
 match bU P s i with
 |some (off,_)=>match p with
  |.ro cs=>some (.ro (cs.drop off))
  |.ad id n o=>if valid h id n then some (.ad id n (o+off)) else none
  |_=>none
 |none=>none
def Ak (s:TypeId) (i:Nat) (p:PV):Option PV :=
 match bU P s i with
 |some (off,ft)=>match bR P ft,p with
  |some true,.t (.agg l)=>some (.t (.agg ((l.drop off).take (P.cellsOf ft))))
  |some false,.t (.agg l)=>(match l[off]? with|some x=>some (.t x)|none=>none)
  |some true,.agg l=>some (gV ((l.drop off).take (P.cellsOf ft)))
  |some false,.agg l=>l[off]?
  |_,_=>none
 |none=>none
def bP (t:TypeId) (x i:PV) (h:Hp):Option PV :=
 match bg P t with
 |some e=>match x,i with
  |.t (.sl _ l),.t (.int _ i)=>if 0<=i then (match l[i.toNat]? with|some y=>if y.cells.length=P.cellsOf e/\0 < P.cellsOf e then some (.ro y.cells) else none|none=>none) else none
  |.rf id n,.t (.int _ i)=>match hget h id with
   |some o=>if o.len=n/\o.esz=P.cellsOf e/\0<=i/\i.toNat < n then some (.ad id n (i.toNat*o.esz)) else none
   |none=>none
  |_,_=>none
 |none=>none
def Kn (t:TypeId) (x i:PV):Option PV :=
 match x,i with
 |.t (.str s),.t (.int _ i)=>if fT P t=true/\0<=i then (match s[i.toNat]? with|some b=>some (.t (.int .u8 b.toNat))|none=>none) else none
 |_,_=>none
def rF (h:Hp):PV->Option PV
 |.t (.sl _ l)=>some (.t (.int .i64 l.length))
 |.rf id n=>if valid h id n then some (.t (.int .i64 n)) else none
 |_=>none
def arith (k:IntKind):BinOp->Int->Int->Option PV
 |.add,a,b=>some (.t (.int k (k.wrap (a+b))))
 |.sub,a,b=>some (.t (.int k (k.wrap (a-b))))
 |.mul,a,b=>some (.t (.int k (k.wrap (a*b))))
 |.quo,a,b=>if b=0 then none else some (.t (.int k (k.wrap (a.tdiv b))))
 |.rem,a,b=>if b=0 then none else some (.t (.int k (a.tmod b)))
 |.and,a,b=>some (.t (.int k (k.wrap ((BitVec.ofInt k.bits a &&& BitVec.ofInt k.bits b).toNat))))
 |.or,a,b=>some (.t (.int k (k.wrap ((BitVec.ofInt k.bits a ||| BitVec.ofInt k.bits b).toNat))))
 |.xor,a,b=>some (.t (.int k (k.wrap ((BitVec.ofInt k.bits a ^^^ BitVec.ofInt k.bits b).toNat))))
 |.andNot,a,b=>some (.t (.int k (k.wrap ((BitVec.ofInt k.bits a &&& ~~~BitVec.ofInt k.bits b).toNat))))
 |.eql,a,b=>some (.t (.bool (a==b)))
 |.neq,a,b=>some (.t (.bool (a != b)))
 |.lss,a,b=>some (.t (.bool (decide (a < b))))
 |.leq,a,b=>some (.t (.bool (decide (a<=b))))
 |.gtr,a,b=>some (.t (.bool (decide (a > b))))
 |.geq,a,b=>some (.t (.bool (decide (a>=b))))
 |_,_,_=>none
def xO (k:IntKind) (left:Bool) (a b:Int):Option PV :=
 if b < 0 then none else
 if left then some (.t (.int k (k.wrap (a*2 ^ (min b.toNat k.bits))))) else some (.t (.int k (a.fdiv (2 ^ (min b.toNat k.bits)))))
def nk (h:Hp):PV->Option Bool
 |.t (.sl nn _)=>some (!nn)
 |.rf id n=>if valid h id n then some false else none
 |_=>none
def cK (h:Hp) (op:BinOp) (xt:TypeId) (x y:PV):Option PV :=
 match x,y with
 |.t (.int k a),.t (.int k' b)=>match op with
  |.shl=>xO k true a b
  |.shr=>xO k false a b
  |op=>if k=k' then arith k op a b else none
 |.t (.bool a),.t (.bool b)=>if Aj P xt=true then (match op with|.eql=>some (.t (.bool (a==b)))|.neq=>some (.t (.bool (a != b)))|_=>none) else none
 |.t (.str a),.t (.str b)=>match op with
  |.add=>if ((a.size+b.size:Nat):Int)<=9223372036854775807 then some (.t (.str (a++b))) else none
  |.eql=>some (.t (.bool (a.toList==b.toList)))
  |.neq=>some (.t (.bool (!(a.toList==b.toList))))
  |.lss=>some (.t (.bool (Op.bytesLess a.toList b.toList)))
  |.geq=>some (.t (.bool (!Op.bytesLess a.toList b.toList)))
  |_=>none
 |x,.t (.sl false [])=>match bg P xt,nk h x with
  |some _,some b=>(match op with|.eql=>some (.t (.bool b))|.neq=>some (.t (.bool (!b)))|_=>none)
  |_,_=>none
 |_,_=>none
def Ig (op:UnOp) (x:PV):Option PV :=
 match op,x with
 |.neg,.t (.int k n)=>some (.t (.int k (k.wrap (0-n))))
 |.not,.t (.bool b)=>some (.t (.bool (!b)))
 |.xor,.t (.int k n)=>some (.t (.int k (k.wrap ((BitVec.ofInt k.bits (if k.signed then -1 else k.max) ^^^ BitVec.ofInt k.bits n).toNat))))
 |_,_=>none
def Ci (dst:TypeId) (src:TypeId) (x:PV):Option PV :=
 match uw P src,uw P dst,x with
 |some _,some k,.t (.int _ n)=>some (.t (.int k (k.wrap n)))
 |_,_,_=>none
def jr (place:Nat->Option (Nat × Nat)) (cells:List PV):List (Nat × PV)->Option (List PV)
 |[]=>some cells
 |(i,v)::rest=>match place i with
  |some (off,size)=>if v.cells.length=size/\off+v.cells.length<=cells.length/\v.cells.all PV.one=true then jr place (splice cells off v.cells) rest else none
  |none=>none
def gW (t:TypeId):Option (List (Nat × Nat)):=match P.underlying t with
 |some (.struct fs)=>fs.toList.mapM fun f=>(P.info? f.type).map fun i=>(f.offset,i.size)
 |_=>none
def xP (t:TypeId) (parts:List (Nat × PV)):Option PV :=
 match gW P t,aW P t with
 |some pl,some z=>match jr (fun i=>pl[i]?) (z.map .t) parts with|some cs=>some (gV cs)|none=>none
 |_,_=>none
def gX (z:List Tr):Nat->List Tr
 |0=>[]
 |n+1=>z++gX z n
def dG (mu:Nat->Bool) (dst:Option Tmp) (e:TypeId) (len:Nat) (cs:List PV) (h:Hp):Option (PV × Hp) :=
 match dst,bR P e with
 |some d,some ag=>if ag=false/\P.cellsOf e≠1 then none else
  if mu d then some (.rf (hnext h d) len,hnew h d ⟨cs,P.cellsOf e,len,e,ag,true⟩)
  else match trees cs with|some ts=>some (.t (.sl true (elems ag (P.cellsOf e) len ts)),h)|none=>none
 |_,_=>none
def jT (mu:Nat->Bool) (dst:Option Tmp) (t:TypeId) (len:Nat) (parts:List (Nat × PV)) (h:Hp):Option (PV × Hp) :=
 match bg P t with
 |some e=>match aW P e with
  |some z=>if z.length=P.cellsOf e/\0 < P.cellsOf e/\len*P.cellsOf e<=16777216 then
    match jr (fun i=>some (i*P.cellsOf e,P.cellsOf e)) ((gX z len).map .t) parts with
    |some cs=>if cs.all PV.one=true then dG P mu dst e len cs h else none
    |none=>none
   else none
  |none=>none
 |none=>none
def kJ (mu:Nat->Bool) (dst:Option Tmp) (t:TypeId) (n m:PV) (h:Hp):Option (PV × Hp) :=
 match bg P t,n,m with
 |some e,.t (.int .i64 n),.t (.int .i64 m)=>match aW P e with
  |some z=>if z.length=P.cellsOf e/\0 < P.cellsOf e/\m=n/\0<=n/\n*P.bytesOf e<=281474976710656/\n<=4611686018427387904 then dG P mu dst e n.toNat ((gX z n.toNat).map .t) h else none
  |none=>none
 |_,_,_=>none
def iC (mu:Nat->Bool) (dst:Option Tmp) (t:TypeId) (cs:List PV) (h:Hp):Option (PV × Hp) :=
 match dst,bR P t with
 |some d,some ag=>if cs.length=P.cellsOf t/\0 < P.cellsOf t/\(ag=true\/P.cellsOf t=1)/\cs.all PV.one=true then
   if mu d then some (.ad (hnext h d) 1 0,hnew h d ⟨cs,P.cellsOf t,1,t,ag,true⟩)
   else match trees cs with|some ts=>some (.ro ts,h)|none=>none
  else none
 |_,_=>none
def iP (e:TypeId) (x:PV) (h:Hp):Option (Nat × List PV) :=
 match x with
 |.t (.sl _ l)=>if (flat l).length=l.length*P.cellsOf e then some (l.length,(flat l).map .t) else none
 |.rf id n=>match hget h id with
  |some o=>if o.len=n/\o.esz=P.cellsOf e then some (n,o.cs) else none
  |none=>none
 |_=>none
def zEl (z:List Tr):Tr:=match z with|[.int k n]=>.int k n|[.sl b l]=>.sl b l|[.bool b]=>.bool b|_=>.agg z
def Gt (by_:Nat) (z:Option (List Tr)) (n:Int):PV:=match z with
 |some z=>if 0<=n/\n<=1099511627776/\n.toNat*by_<=140737488355328 then .t (.sl true (List.replicate n.toNat (zEl z))) else .undef
 |none=>.undef
def ofMake (t u:TypeId) (q:PV):PV:=match q,uw P u,bg P t with
 |.t (.int .i64 n),some .i64,some e=>Gt (P.bytesOf e) (aW P e) n
 |_,_,_=>.undef
def DL (t u:TypeId) (q:PV):PV:=if t=u then q else ofMake P t u q
def aT (mu:Nat->Bool) (dst:Option Tmp) (t:TypeId) (s x:PV) (h:Hp):Option (PV × Hp) :=
 match bg P t with
 |some e=>match aW P e,iP P e x h with
  |some z,some (m,news)=>if z.length=P.cellsOf e/\0 < P.cellsOf e then
    match s with
    |.t (.sl nn _)=>if m=0 then some (s,h) else
      (if nn=false/\m*P.bytesOf e<=140737488355328/\m<=4611686018427387904 then dG P mu dst e m news h else none)
    |.rf id n=>match hget h id with
     |some o=>if o.len=n/\o.live=true/\o.elem=e/\o.esz=P.cellsOf e/\(n+m)*P.bytesOf e<=140737488355328/\n+m<=4611686018427387904 then
       (if m=0 then some (s,h) else some (.rf id (n+m),hset h id { o with cs:=o.cs++news,len:=n+m })) else none
     |none=>none
    |_=>none
   else none
  |_,_=>none
 |none=>none
def kK (t:TypeId) (x:PV) (lo hi:Option PV) (h:Hp):Option (PV × Hp) :=
 match x with
 |.t (.sl nn l)=>match bg P t with
  |some e=>if (flat l).length=l.length*P.cellsOf e then
    match lo.elim (some 0) intOf,hi.elim (some (l.length:Int)) intOf with
    |some a,some b=>if 0<=a/\a<=b/\b<=l.length then some (.t (.sl nn ((l.take b.toNat).drop a.toNat)),h) else none
    |_,_=>none
   else none
  |none=>none
 |.rf id n=>match bg P t,hget h id,aS h dep (.rf id n) with
  |some e,some o,some (.sl _ l)=>if o.len=n/\o.esz=P.cellsOf e then
    match lo.elim (some 0) intOf,hi.elim (some (n:Int)) intOf with
    |some a,some b=>if 0<=a/\a<=b/\b<=n then some (.t (.sl true ((l.take b.toNat).drop a.toNat)),frz h (reach h dep (.rf id n))) else none
    |_,_=>none
   else none
  |_,_,_=>none
 |.t (.str s)=>if fT P t then
   match lo.elim (some 0) intOf,hi.elim (some (s.size:Int)) intOf with
   |some a,some b=>if 0<=a/\a<=b/\b<=s.size then some (.t (.str (s.extract a.toNat b.toNat)),h) else none
   |_,_=>none
  else none
 |_=>none
def kvC:List (Int × Int)->List PV
 |[]=>[]
 |x::r=>.t (.int .i64 x.1)::.t (.int .i64 x.2)::kvC r
def kvP:List PV->Option (List (Int × Int))
 |[]=>some []
 |.t (.int .i64 k)::.t (.int .i64 v)::r=>match kvP r with|some l=>some ((k,v)::l)|none=>none
 |_=>none
def iQ (k:Int):Nat->List (Int × Int)->Option (Nat × Int)
 |_,[]=>none
 |i,x::r=>if k=x.1 then some (i,x.2) else iQ k (i+1) r
def flC (l:List Bool):List PV:=l.map fun b=>.t (.bool b)
def Ih (t:TypeId):Bool:=match P.underlying t with
 |some (.map k e)=>(uw P k==some .i64)&&(match (P.info? e).bind (·.zero) with|some (.int .i64 0)=>true|_=>false)
 |_=>false
def rG (mu:Nat->Bool) (dst:Option Tmp) (t:TypeId) (h:Hp):Option (PV × Hp) :=
 match dst with
 |some d=>if mu d=true/\Ih P t=true then some (.mp (hnext h d),hnew h d ⟨[],0,0,t,true,true⟩) else none
 |none=>none
def Al (t:TypeId) (m k:PV) (h:Hp):Option (PV × Hp) :=
 match m,k with
 |.mp id,.t (.int .i64 k)=>match hget h id with
  |some o=>if o.esz=0/\o.ag=true/\o.live=true/\Ih P t=true then
    match kvP o.cs with
    |some kv=>match iQ k 0 kv with
     |some (i,v)=>some (.t (.tup [.int .i64 v,.int .i64 i]),h)
     |none=>some (.t (.tup [.int .i64 0,.int .i64 kv.length]),hset h id { o with cs:=kvC (kv++[(k,0)]) })
    |none=>none
   else none
  |none=>none
 |_,_=>none
def xq (m i x:PV) (h:Hp):Option Hp :=
 match m,i,x with
 |.mp id,.t (.int .i64 i),.t (.int .i64 x)=>match hget h id with
  |some o=>if o.esz=0/\o.ag=true/\o.live=true/\0<=i then
    match kvP o.cs with
    |some kv=>match kv[i.toNat]? with
     |some y=>some (hset h id { o with cs:=kvC (kv.set i.toNat (y.1,x)) })
     |none=>none
    |none=>none
   else none
  |none=>none
 |_,_,_=>none
def nT (t:TypeId) (m k:PV) (h:Hp):Option PV :=
 match m,k with
 |.mp id,.t (.int .i64 k)=>match hget h id with
  |some o=>if o.esz=0/\o.ag=true/\Ih P t=true then
    match kvP o.cs with
    |some kv=>match iQ k 0 kv with
     |some (_,v)=>some (.t (.int .i64 v))
     |none=>some (.t (.int .i64 0))
    |none=>none
   else none
  |none=>none
 |_,_=>none
def gU (k x:Int):List (Int × Int)->List (Int × Int)
 |[]=>[(k,x)]
 |y::r=>if k=y.1 then (k,x)::r else y::gU k x r
def je (t:TypeId) (m k x:PV) (h:Hp):Option Hp :=
 match m,k,x with
 |.mp id,.t (.int .i64 k),.t (.int .i64 x)=>match hget h id with
  |some o=>if o.esz=0/\o.ag=true/\o.live=true/\Ih P t=true then
    match kvP o.cs with
    |some kv=>some (hset h id { o with cs:=kvC (gU k x kv) })
    |none=>none
   else none
  |none=>none
 |_,_,_=>none
def xQ (i:PV) (h:Hp):Option (PV × Hp) :=
 match i with
 |.it id=>match hget h id with
  |some o=>match o.cs with
   |.mp m::.t (.int .i64 last)::fl=>match hget h m with
    |some om=>if o.esz=0/\o.ag=false/\om.esz=0/\om.ag=true/\0<=last/\o.live=true then
      match kvP om.cs with
      |some kv=>if kv.length=fl.length then (match kv[last.toNat]? with|some y=>some (.t (.tup [.int .i64 y.1,.int .i64 y.2]),hset h id { o with cs:=.mp m::.t (.int .i64 (-1))::fl })|none=>none) else none
      |none=>none
     else none
    |none=>none
   |_=>none
  |none=>none
 |_=>none
def xR (mu:Nat->Bool) (dst:Option Tmp) (t:TypeId) (m:PV) (h:Hp):Option (PV × Hp) :=
 match dst,m with
 |some d,.mp id=>match hget h id with
  |some o=>if mu d=true/\o.esz=0/\o.ag=true/\Ih P t=true then
    match kvP o.cs with
    |some kv=>some (.it (hnext h d),hnew h d ⟨.mp id::.t (.int .i64 (-1))::flC (List.replicate kv.length false),0,0,t,false,true⟩)
    |none=>none
   else none
  |none=>none
 |_,_=>none
def still (p:Option PV) (h:Hp):Option (PV × Hp):=match p with|some v=>some (v,h)|none=>none
def Gu:PV->PV->Option PV
 |.t (.int k x),.t (.int k' y)=>if k=k' then some (.t (.int k (if y < x then y else x))) else none
 |_,_=>none
def Gv:PV->PV->Option PV
 |.t (.int k x),.t (.int k' y)=>if k=k' then some (.t (.int k (if x < y then y else x))) else none
 |_,_=>none
def evalOp (mu:Nat->Bool) (o:Oper) (s:St):Option (PV × Hp) :=
 match o.op with
 |.move x=>some (ev s.sl x,s.hp)
 |.assign x=>some (ev s.sl x,s.hp)
 |.pick c a b=>match uG (ev s.sl c) with|some c=>some (if c then ev s.sl a else ev s.sl b,s.hp)|none=>none
 |.alloc t=>match aW P t with|some z=>iC P mu o.dst t (z.map .t) s.hp|none=>none
 |.box t x=>iC P mu o.dst t (ev s.sl x).cells s.hp
 |.build t parts=>still (xP P t (parts.toList.map fun p=>(p.1,ev s.sl p.2))) s.hp
 |.buildSlice t len parts=>jT P mu o.dst t len (parts.toList.map fun p=>(p.1,ev s.sl p.2)) s.hp
 |.load t x=>still (gB P t (ev s.sl x) s.hp) s.hp
 |.store t a x=>match lH P t (ev s.sl a) (ev s.sl x) s.hp with|some h=>some (.skip,h)|none=>none
 |.nilCheck x=>match ev s.sl x with|.ro cs=>some (.ro cs,s.hp)|.ad id n off=>if valid s.hp id n then some (.ad id n off,s.hp) else none|_=>none
 |.binOp op xt x y _=>still (cK P s.hp op xt (ev s.sl x) (ev s.sl y)) s.hp
 |.unOp op _ x=>still (Ig op (ev s.sl x)) s.hp
 |.convert src dst x=>still (Ci P dst src (ev s.sl x)) s.hp
 |.makeFunc (.func f) first captured=>if first.toList.isEmpty then some (C9 f (evs s.sl captured.toList),s.hp) else none
 |.makeSlice t n m=>kJ P mu o.dst t (ev s.sl n) (ev s.sl m) s.hp
 |.slice t x lo hi none=>kK P t (ev s.sl x) (lo.map (ev s.sl)) (hi.map (ev s.sl)) s.hp
 |.fieldAddr st x i=>still (dV P st i (ev s.sl x) s.hp) s.hp
 |.field st x i=>still (Ak P st i (ev s.sl x)) s.hp
 |.indexAddr t x i=>still (bP P t (ev s.sl x) (ev s.sl i) s.hp) s.hp
 |.index t x i=>still (Kn P t (ev s.sl x) (ev s.sl i)) s.hp
 |.makeMap t none=>rG P mu o.dst t s.hp
 |.mapEntry t m k=>Al P t (ev s.sl m) (ev s.sl k) s.hp
 |.entryStore _ m i x=>match xq (ev s.sl m) (ev s.sl i) (ev s.sl x) s.hp with|some h=>some (.skip,h)|none=>none
 |.range t m=>xR P mu o.dst t (ev s.sl m) s.hp
 |.lookup t m k false=>still (nT P t (ev s.sl m) (ev s.sl k) s.hp) s.hp
 |.mapUpdate t m k x=>match je P t (ev s.sl m) (ev s.sl k) (ev s.sl x) s.hp with|some h=>some (.skip,h)|none=>none
 |.entry i=>xQ (ev s.sl i) s.hp
 |.extract x i=>match ev s.sl x with
  |.t (.tup l)=>(match l[i]? with|some y=>some (.t y,s.hp)|none=>none)
  |.tup l=>(match l[i]? with|some y=>some (y,s.hp)|none=>none)
  |_=>none
 |.call c=>match c.callee,c.args.toList,c.argTypes.toList with
  |.builtin .len,[x],t::_=>if fT P t then (match ev s.sl x with|.t (.str b)=>some (.t (.int .i64 b.size),s.hp)|_=>none) else if (bg P t).isSome then still (rF s.hp (ev s.sl x)) s.hp else none
  |.builtin .append,[x,y],[t,u]=>aT P mu o.dst t (ev s.sl x) (DL P t u (ev s.sl y)) s.hp
  |.builtin .min,[x,y],_=>still (Gu (ev s.sl x) (ev s.sl y)) s.hp
  |.builtin .max,[x,y],_=>still (Gv (ev s.sl x) (ev s.sl y)) s.hp
  |_,_,_=>none
 |_=>none
end
inductive Reads (w:World) (L:Nat->Prop):Tr->Value->Prop where
 |int (k:IntKind) (n:Int):Reads w L (.int k n) (.int k n)
 |bool (b:Bool):Reads w L (.bool b) (.bool b)
 |str (s:ByteArray):Reads w L (.str s) (.string s)
 |agg {l:List Tr}{vs:Array Value} (hl:l.length=vs.size) (h:∀i x,l[i]?=some x->Reads w L x (vs.getD i undef)):Reads w L (.agg l) (.agg vs)
 |tup {l:List Tr}{vs:Array Value} (hl:l.length=vs.size) (h:∀i x,l[i]?=some x->Reads w L x (vs.getD i undef)):Reads w L (.tup l) (.tuple vs)
 |nil:Reads w L (.sl false []) (.slice none 0 0)
 |sl {l:List Tr}{a:Addr}{cap esz:Nat}{vals:Nat->Value} (hs:flat l≠[]->a.spot=none) (hc:l.length<=cap) (hm:cap<=maxLen) (he:∀x∈l,x.cells.length=esz)
   (hcell:∀k x,(flat l)[k]?=some x->¬L a.block/\w.cell? (a.add k)=some (vals k)/\(vals k).oneCell'=true)
   (h:∀k x,(flat l)[k]?=some x->Reads w L x (vals k)):Reads w L (.sl true l) (.slice (some a) l.length cap)
 |fn {f:FuncId}{l:List Tr}{vs:Array Value} (hl:l.length=vs.size) (h:∀i x,l[i]?=some x->Reads w L x (vs.getD i undef)):Reads w L (.fn f l) (.func (.func f) #[] vs)
 |uq:Reads w L .uq (.pointer none)
 |Ri:Reads w L .uq .nilFunc
 |Rj:Reads w L .uq (.map none)
 |ptr {cs:List Tr}{a:Addr}{vals:Nat->Value} (hs:a.spot=none)
   (hcell:∀k x,cs[k]?=some x->¬L a.block/\w.cell? (a.add k)=some (vals k)/\(vals k).oneCell'=true)
   (h:∀k x,cs[k]?=some x->Reads w L x (vals k)):Reads w L (.ptr cs) (.pointer (some a))
def J3 (w:World) (L:Nat->Prop) (l:List Tr) (vs:Array Value):Prop:=l.length=vs.size/\∀i x,l[i]?=some x->Reads w L x (vs.getD i undef)
def Lv (h:Hp) (μ:Id->Nat) (b:Nat):Prop:=∃id o,hget h id=some o/\o.live=true/\μ id=b
def LL (A:Nat->Prop) (h:Hp) (μ:Id->Nat) (b:Nat):Prop:=A b\/Lv h μ b
inductive VR (h:Hp) (μ:Id->Nat) (w:World) (L:Nat->Prop):PV->Value->Prop where
 |t {x:Tr}{v:Value} (hr:Reads w L x v):VR h μ w L (.t x) v
 |ro {cs:List Tr}{a:Addr}{vals:Nat->Value} (hs:a.spot=none)
   (hcell:∀k x,cs[k]?=some x->¬L a.block/\w.cell? (a.add k)=some (vals k)/\(vals k).oneCell'=true)
   (hr:∀k x,cs[k]?=some x->Reads w L x (vals k)):VR h μ w L (.ro cs) (.pointer (some a))
 |rf {id:Id}{n:Nat}{v:Value}{o:Obj} (ho:hget h id=some o) (hz:o.esz≠0) (hn:n<=o.len) (h1:v.oneCell'=true)
   (hv:o.len=n->∃cap cur et fz,v=.slice (some ⟨μ id,0,none⟩) n cap/\w.heap[μ id]?=some (.cells cur et fz)/\cur.size=cap*o.esz):VR h μ w L (.rf id n) v
 |ad {id:Id}{n off:Nat}{v:Value}{o:Obj} (ho:hget h id=some o) (hz:o.esz≠0) (hn:n<=o.len) (h1:v.oneCell'=true)
   (hv:o.len=n->v=.pointer (some ⟨μ id,off,none⟩)):VR h μ w L (.ad id n off) v
 |mp {id:Id}{o:Obj} (ho:hget h id=some o) (hz:o.esz=0) (hg:o.ag=true):VR h μ w L (.mp id) (.map (some (μ id)))
 |it {id:Id}{o:Obj} (ho:hget h id=some o) (hz:o.esz=0) (hg:o.ag=false):VR h μ w L (.it id) (.pointer (some ⟨μ id,0,none⟩))
 |agg {l:List PV}{vs:Array Value} (hl:l.length=vs.size) (hr:∀i x,l[i]?=some x->VR h μ w L x (vs.getD i undef)):VR h μ w L (.agg l) (.agg vs)
 |tup {l:List PV}{vs:Array Value} (hl:l.length=vs.size) (hr:∀i x,l[i]?=some x->VR h μ w L x (vs.getD i undef)):VR h μ w L (.tup l) (.tuple vs)
 |fn {f:FuncId}{l:List PV}{vs:Array Value} (hl:l.length=vs.size) (hr:∀i x,l[i]?=some x->VR h μ w L x (vs.getD i undef)):VR h μ w L (.fn f l) (.func (.func f) #[] vs)
 |skip:VR h μ w L .skip undef
 |undef {v:Value}:VR h μ w L .undef v
def eZ:Nat->List (Int × Int)->List MapEntry
 |_,[]=>[]
 |i,x::r=>⟨.int .i64 x.1,.int .i64 x.2,i⟩::eZ (i+1) r
def Pf (_h:Hp) (μ:Id->Nat) (w:World) (id:Id) (o:Obj):Prop:=∃kv:List (Int × Int),o.cs=kvC kv/\w.heap[μ id]?=some (.map (eZ 0 kv).toArray kv.length)
def Ko (h:Hp) (μ:Id->Nat) (w:World) (id:Id) (o:Obj):Prop:=∃(m:Id) (om:Obj) (last:Int) (fs:List Bool) (seen:Array Nat),
 o.cs=.mp m::.t (.int .i64 last)::flC fs/\hget h m=some om/\om.esz=0/\om.ag=true/\w.heap[μ id]?=some (.mapIter (some (μ m)) fs.length seen fs.length)/\(0<=last->∃sn,seen=Array.push sn last.toNat)/\∀i,seen.contains i=fs.getD i false
structure HR (A:Nat->Prop) (h:Hp) (μ:Id->Nat) (w:World):Prop where
 spec:∀id o,hget h id=some o->o.esz=0->o.len=0/\(o.ag=true->Pf h μ w id o)/\(o.ag=false->Ko h μ w id o)
 obj:∀id o,hget h id=some o->o.esz≠0->∃cur cap,w.heap[μ id]?=some (.cells cur o.elem (0,0))/\0 < o.esz/\(o.ag=false->o.esz=1)/\o.cs.length=o.len*o.esz/\cur.size=cap*o.esz/\o.len<=cap/\cap<=maxLen /\
  ∀k p,o.cs[k]?=some p->VR h μ w (LL A h μ) p (cur.getD k undef)/\(cur.getD k undef).oneCell'=true
 inj:∀id id' o o',hget h id=some o->hget h id'=some o'->o.live=true->μ id=μ id'->id=id'
 dis:∀id o,hget h id=some o->¬A (μ id)
 old:∀b,A b->b < w.heap.size
structure Ext (h:Hp) (μ:Id->Nat) (w:World) (h':Hp) (μ':Id->Nat) (w':World):Prop where
 os:w'.os=w.os
 tape:w'.tape=w.tape
 output:w'.output=w.output
 size:w.heap.size<=w'.heap.size
 old:∀b:Nat,b < w.heap.size->¬Lv h μ b->w'.heap[b]?=w.heap[b]?
 bsz:∀(b:Nat) (cur:Array Value) (et:TypeId) (fz:Nat × Nat),w.heap[b]?=some (.cells cur et fz)->∃(cur':Array Value) (et':TypeId) (fz':Nat × Nat),w'.heap[b]?=some (.cells cur' et' fz')/\cur'.size=cur.size
 obj:∀id o,hget h id=some o->∃o',hget h' id=some o'/\o.len<=o'.len/\o'.esz=o.esz/\(o'.len=o.len->μ' id=μ id)/\(o'.live=true->o.live=true)/\o'.ag=o.ag/\(o.esz=0->o'.len=o.len)
 lv:∀b,Lv h' μ' b->Lv h μ b\/w.heap.size<=b
def Enters (P:Program) (g:FuncId):Prop:=∃fn,P.funcs[g]?=some fn/\(fn.name=="runtime.NumGoroutine")=false/\fn.body.isNone=false
structure aB (P:Program) (g:FuncId) (args:List Tr) (r:Tr):Prop where
 enters:Enters P g
 run:∀(w:World) (A:Nat->Prop) (vs:Array Value),(∀b,A b->b < w.heap.size)->J3 w A args vs ->
  Calls P g vs w fun e w'=>∃v,e=.returned v/\Reads w' A r v/\RowKit.Below w.heap.size w w'
def dM (P:Program) (g:FuncId) (args:List PV) (h:Hp) (Q:PV->Hp->Prop):Prop :=
 Enters P g/\∀(w:World) (A:Nat->Prop) (μ:Id->Nat) (vs:Array Value),HR A h μ w->args.length=vs.size->(∀i p,args[i]?=some p->VR h μ w (LL A h μ) p (vs.getD i undef)) ->
  Calls P g vs w fun e w'=>∃v r h' μ',e=.returned v/\Q r h'/\HR A h' μ' w'/\Ext h μ w h' μ' w'/\VR h' μ' w' (LL A h' μ') r v
def Exact (P:Program) (g:FuncId) (args:List PV) (h:Hp) (v:PV) (h':Hp):Prop :=
 dM P g args h (fun v' h''=>v'=v/\h''=h')\/∃ts r,bA (aS h dep) args=some ts/\aB P g ts r/\v=.t r/\h'=frz h (args.flatMap (reach h dep))
def adds (l:List (Nat × Obj)) (h:Hp):Hp:=l.foldl (fun h p=>hnew h p.1 p.2) h
def Wi (P:Program) (mu:Nat->Bool) (g:FuncId) (args:List PV) (h:Hp) (v:PV) (h':Hp):Prop :=
 Exact P g args h v h'/\(mu 4999999=true->mu (11000000+g)=false->(∀c,mu (5000000+c)=true->(h' c).length=(h c).length)/\(∀c,mu (10000000+c)=true->h' c=h c)/\∀l:List (Nat × Obj),(∀p∈l,mu (5000000+p.1)=true)->Exact P g args (adds l h) v (adds l h'))
inductive Ex where
 |normal
 |exit (id:Nat)
 |ret
def Ex.of:Ex->Exit
 |.normal=>.normal
 |.exit id=>.exit id
 |.ret=>.ret
section
variable (P:Program) (mu:Nat->Bool)
def mI (s:Sl) (f:Operand) (args:List Operand):Option (FuncId × List PV) :=
 match ev s f with
 |.t (.fn g caps)=>some (g,evs s args++caps.map .t)
 |.fn g caps=>some (g,evs s args++caps)
 |_=>none
def EM (d:Option Tmp):Bool:=match d with|some d=>mu d|none=>true
def rdB (d:Option Tmp):Bool:=match d with|some d=>mu (4000000+d)|none=>false
def mR (dr:Bool) (o:Oper) (s:St) (g:FuncId) (args:List PV) (K:St->Prop):Prop :=
 if dr then (∃ts r,trees args=some ts/\aB P g ts r/\K (St.put s o.dst (.t r))) \/
  (EM mu o.dst=true/\∃v h',Wi P mu g args s.hp v h'/\K (St.put { s with hp:=h' } o.dst v)) \/
  (rdB mu o.dst=true/\∃ts r,bA (aS s.hp dep) args=some ts/\aB P g ts r/\r.scalar=true/\K (St.put s o.dst (.t r)))
 else (∃ts r,bA (aS s.hp dep) args=some ts/\aB P g ts r /\
  (if r.scalar then K (St.put s o.dst (.t r)) else K (St.put { s with hp:=frz s.hp (args.flatMap (reach s.hp dep)) } o.dst (.t r)))) \/
  dM P g args s.hp (fun v h'=>K (St.put { s with hp:=h' } o.dst v))
def PV.isRef:PV->Bool
 |.rf ..|.ad ..=>true
 |_=>false
def outer:Operand->Bool
 |.tmp t=>mu t
 |_=>false
def Pg:Operand->Bool
 |.tmp t=>mu (2000000+t)
 |_=>false
def Da (d:Option Tmp):Bool:=match d with|some d=>mu (3000000+d)|none=>false
def PV.site:PV->Option Nat
 |.rf id _=>some id.1
 |.ad id _ _=>some id.1
 |_=>none
def DR (p:PV):Bool:=match p.site with|some d=>!mu (3000000+d)|none=>true
def awX (p:PV):Bool:=!mu 3999999||DR mu p
def apX (d:Option Tmp) (x y:PV):Bool:=!mu 3999999||!Da mu d||(match d with
 |some d=>(match x with|.t (.sl false [])=>true|.rf id _=>mu (3000000+id.1)|_=>false)&&(match y with|.t _=>true|.rf id _=>id.1 != d|_=>false)
 |none=>false)
def hkind (o:Oper):Nat :=
 match o.op with
 |.move _|.assign _|.pick ..|.build ..|.unOp ..|.convert ..|.makeFunc ..|.field ..|.index ..|.extract ..=>0
 |.load _ x|.nilCheck x|.fieldAddr _ x _|.indexAddr _ x _=>if outer mu x then 1 else 0
 |.lookup _ _ _ false=>1
 |.binOp _ _ x y _=>if outer mu x||outer mu y then 1 else 0
 |.alloc _|.box ..|.makeSlice ..|.buildSlice ..=>match o.dst with|some d=>if mu d then 2 else 0|none=>0
 |.slice _ x _ _ _=>if Pg mu x then 0 else 3
 |.call c=>match c.callee,c.args.toList with
  |.value _,_=>if EM mu o.dst then 3 else if rdB mu o.dst then 1 else 0
  |.builtin .append,_=>if Da mu o.dst then 4 else 3
  |.builtin .len,[x]=>if outer mu x then 1 else 0
  |.builtin .min,_|.builtin .max,_=>0
  |_,_=>3
 |_=>3
def Am (x:Operand):Option Nat:=match x with
 |.tmp d=>if mu (1000000+d) then some d else none
 |_=>none
def home (o:Oper):Option Nat:=match o.op with
 |.load _ x=>Am mu x
 |.store _ a _=>Am mu a
 |_=>none
def PV.at_ (d:Nat):PV->Bool
 |.ad id _ _=>id.1==d
 |_=>false
def Cj (x:Operand) (s:Sl):Bool:=match Am mu x with
 |some d=>(s d).at_ d
 |none=>true
def Gw (o:Oper) (s:Sl):Bool:=match home mu o with
 |some d=>(s d).at_ d
 |none=>true
def Ul (o:Oper) (s:Sl):Bool :=
 match o.op with
 |.load _ x|.nilCheck x|.fieldAddr _ x _|.indexAddr _ x _=>outer mu x||!(ev s x).isRef
 |.binOp _ _ x y _=>outer mu x||outer mu y||(!(ev s x).isRef&&!(ev s y).isRef)
 |.slice _ x _ _ _=>!Pg mu x||!(ev s x).isRef
 |.call c=>match c.callee,c.args.toList with
  |.builtin .len,[x]=>outer mu x||!(ev s x).isRef
  |_,_=>true
 |_=>true
def Kq (d:Option Tmp):Bool:=match d with|some d=>mu (6000000+d)|none=>false
def awY (p:PV):Bool:=!mu 8999999||(match p.site with|some d=>!mu (8000000+d)|none=>true)
def rH (x:Operand):Bool:=match x with
 |.tmp t=>mu (7000000+t)
 |_=>false
def xu (o:Oper) (s:Sl):Bool :=
 match o.op with
 |.load _ x|.nilCheck x|.fieldAddr _ x _|.indexAddr _ x _=>rH mu x||awX mu (ev s x)
 |.call c=>match c.callee,c.args.toList with
  |.builtin .append,[x,y]=>apX mu o.dst (ev s x) (ev s y)
  |.builtin .len,[x]=>!Kq mu o.dst||awY mu (ev s x)
  |_,_=>true
 |_=>true
def bare (o:Oper) (s:Sl):Bool:=xu mu o s&&Gw mu o s&&Ul mu o s
def kG (s:Sl) (o:Oper):Option PV:=match o.op with
 |.next x false=>some (ev s x)
 |_=>none
def Ph (o:Oper) (s:St) (id:Id) (s':St):Prop:=∃ob m last fs om kv,hget s.hp id=some ob/\ob.cs=.mp m::.t (.int .i64 last)::flC fs/\hget s.hp m=some om/\om.cs=kvC kv /\
 ((fs.all (fun b=>b)=true/\s'=St.put { s with hp:=hset s.hp id { ob with cs:=.mp m::.t (.int .i64 (-1))::flC fs } } o.dst (.t (.tup [.bool false]))) \/
  ∃i,fs[i]?=some false/\s'=St.put { s with hp:=hset s.hp id { ob with cs:=.mp m::.t (.int .i64 (i:Nat))::flC (fs.set i true) } } o.dst (.t (.tup [.bool true,.int .i64 (kv.getD i (0,0)).1,.int .i64 (kv.getD i (0,0)).2])))
def Pj (s:St) (id:Id):Prop:=∃ob m last fs om kv,hget s.hp id=some ob/\ob.esz=0/\ob.ag=false/\ob.live=true/\ob.cs=.mp m::.t (.int .i64 last)::flC fs/\hget s.hp m=some om/\om.esz=0/\om.ag=true/\om.cs=kvC kv/\kv.length=fs.length
def Kr (dr:Bool) (o:Oper) (s:St) (p:PV) (K:St->Prop):Prop:=match p with
 |.it id=>dr=false/\Pj s id/\∀s',Ph o s id s'->K s'
 |_=>False
def sJ (dr:Bool) (o:Oper) (s:St) (K:St->Prop):Prop :=
 match kG s.sl o with
 |some p=>Kr dr o s p K
 |none=>(dr=true->bare mu o s.sl=true)/\match evalOp P mu o s with|some (v,h)=>K (St.put { s with hp:=h } o.dst v)|none=>False
def bN (s:Sl) (o:Oper):Option (Option (FuncId × List PV)) :=
 match o.op with
 |.call c=>match c.callee with
  |.value f=>some (mI s f c.args.toList)
  |_=>none
 |_=>none
def opW (dr:Bool) (o:Oper) (s:St) (K:St->Prop):Prop :=
 match bN s.sl o with
 |some (some (g,args))=>mR P mu dr o s g args K
 |some none=>False
 |none=>sJ P mu dr o s K
def oI (all:List Oper) (s:Sl) (j:Nat):Option (Option Bool) :=
 match all[j]? with
 |some o=>match o.dst with
  |some d=>match s d with|.t (.bool b)=>some (some b)|.skip=>some none|_=>none
  |none=>none
 |none=>none
def jv (all:List Oper) (s:Sl) (o:Oper):Option Bool :=
 match o.guard with
 |none=>some true
 |some (j,want)=>match oI all s j with
  |some (some b)=>some (b==want)
  |some none=>some false
  |none=>none
def opG (dr:Bool) (all:List Oper) (o:Oper) (s:St) (K:St->Prop):Prop :=
 match jv all s.sl o with
 |some r=>(r=true->opW P mu dr o s K)/\(r=false->K (St.put s o.dst .skip))
 |none=>False
def ql (dr:Bool) (all:List Oper):List Oper->St->(St->Prop)->Prop
 |[],s,K=>K s
 |o::r,s,K=>opG P mu dr all o s fun s'=>ql dr all r s' K
def wp:Code->St->(Ex->St->Prop)->Prop
 |.skip,s,K=>K .normal s
 |.ret,s,K=>K .ret s
 |.exit n,s,K=>K (.exit n) s
 |.region _ ops dr,s,K=>ql P mu dr ops.toList ops.toList s (K .normal)
 |.seq a b,s,K=>wp a s fun e s'=>match e with|.normal=>wp b s' K|.exit n=>K (.exit n) s'|.ret=>K .ret s'
 |.cond c a b,s,K=>match uG (ev s.sl c) with|some x=>(x=true->wp a s K)/\(x=false->wp b s K)|none=>False
 |.block id b,s,K=>wp b s fun e s'=>match e with|.normal=>K .normal s'|.exit n=>if n=id then K .normal s' else K (.exit n) s'|.ret=>K .ret s'
 |.loop b,s,K=>∃(I:Nat->St->Prop) (n:Nat),I n s/\∀n s,I n s->wp b s fun e s'=>match e with|.normal=>∃m,m < n/\I m s'|.exit n=>K (.exit n) s'|.ret=>K .ret s'
 |_,_,_=>False
end
def J4 (args:List Tr):Sl:=fun t=>match args[t]? with|some x=>x.pv|none=>.undef
def qm (args:List Tr):St:=⟨J4 args,fun _=>[]⟩
def kD (P:Program) (s:St):ResultVar->Option PV
 |.tmp t=>some (s.sl t)
 |.cell a t=>gB P t (s.sl a) s.hp
def Ao (P:Program) (s:St) (l:List ResultVar):Option Tr :=
 match bA (fun r=>match kD P s r with|some p=>aS s.hp dep p|none=>none) l with
 |some [x]=>some x
 |some ts=>some (.tup ts)
 |none=>none
def Wj (P:Program) (fn:Func) (r:Tr):Ex->St->Prop:=fun e s=>match e with
 |.exit _=>False
 |_=>Ao P s fn.results.toList=some r
end Go.Vm
end
section
namespace Go.Vm
open Go Go.Proofs
namespace ama
@[go_sem] theorem ag2:bR Tryz.prog 2=some false:=by kernel_rfl
@[go_sem] theorem sz2:Tryz.prog.cellsOf 2=1:=by kernel_rfl
@[go_sem] theorem by2:Tryz.prog.bytesOf 2=8:=by kernel_rfl
@[go_sem] theorem in2:(Tryz.prog.info? 2).isSome=true:=by kernel_rfl
@[go_sem] theorem ze2:aW Tryz.prog 2=some [.int .i64 0]:=by kernel_rfl
@[go_sem] theorem it2:uw Tryz.prog 2=some .i64:=by kernel_rfl
@[go_sem] theorem ag3:bR Tryz.prog 3=some false:=by kernel_rfl
@[go_sem] theorem sz3:Tryz.prog.cellsOf 3=1:=by kernel_rfl
@[go_sem] theorem by3:Tryz.prog.bytesOf 3=8:=by kernel_rfl
@[go_sem] theorem in3:(Tryz.prog.info? 3).isSome=true:=by kernel_rfl
@[go_sem] theorem ze3:aW Tryz.prog 3=some [.int .i64 0]:=by kernel_rfl
@[go_sem] theorem it3:uw Tryz.prog 3=some .i64:=by kernel_rfl
@[go_sem] theorem ag4:bR Tryz.prog 4=some false:=by kernel_rfl
@[go_sem] theorem sz4:Tryz.prog.cellsOf 4=1:=by kernel_rfl
@[go_sem] theorem by4:Tryz.prog.bytesOf 4=1:=by kernel_rfl
@[go_sem] theorem in4:(Tryz.prog.info? 4).isSome=true:=by kernel_rfl
@[go_sem] theorem ze4:aW Tryz.prog 4=some [.bool false]:=by kernel_rfl
@[go_sem] theorem bo4:Aj Tryz.prog 4=true:=by kernel_rfl
@[go_sem] theorem ajY:bR Tryz.prog 22=some false:=by kernel_rfl
@[go_sem] theorem ajZ:Tryz.prog.cellsOf 22=1:=by kernel_rfl
@[go_sem] theorem aj0:bg Tryz.prog 22=some 37:=by kernel_rfl
@[go_sem] theorem aj1:fT Tryz.prog 22=false:=by kernel_rfl
@[go_sem] theorem aj2:bg Tryz.prog 23=some 137:=by kernel_rfl
@[go_sem] theorem aj3:bR Tryz.prog 24=some false:=by kernel_rfl
@[go_sem] theorem aj4:Tryz.prog.cellsOf 24=1:=by kernel_rfl
@[go_sem] theorem aj5:bg Tryz.prog 24=some 38:=by kernel_rfl
@[go_sem] theorem aj6:fT Tryz.prog 24=false:=by kernel_rfl
@[go_sem] theorem aj7:bR Tryz.prog 35=some false:=by kernel_rfl
@[go_sem] theorem aj8:Tryz.prog.cellsOf 35=1:=by kernel_rfl
@[go_sem] theorem aj9:(Tryz.prog.info? 35).isSome=true:=by kernel_rfl
@[go_sem] theorem akb:aW Tryz.prog 35=some [.sl false []]:=by kernel_rfl
@[go_sem] theorem akc:bg Tryz.prog 35=some 2:=by kernel_rfl
@[go_sem] theorem akd:fT Tryz.prog 35=false:=by kernel_rfl
@[go_sem] theorem ake:bR Tryz.prog 37=some true:=by kernel_rfl
@[go_sem] theorem akf:Tryz.prog.cellsOf 37=2:=by kernel_rfl
@[go_sem] theorem akg:(Tryz.prog.info? 37).isSome=true:=by kernel_rfl
@[go_sem] theorem akh:aW Tryz.prog 37=some [.sl false [],.int .i64 0]:=by kernel_rfl
@[go_sem] theorem ahS:bU Tryz.prog 37 0=some (0,35):=by kernel_rfl
@[go_sem] theorem ahT:bU Tryz.prog 37 1=some (1,2):=by kernel_rfl
@[go_sem] theorem aki:gW Tryz.prog 37=some [(0,1),(1,1)]:=by kernel_rfl
@[go_sem] theorem akj:bR Tryz.prog 38=some false:=by kernel_rfl
@[go_sem] theorem akk:Tryz.prog.cellsOf 38=1:=by kernel_rfl
@[go_sem] theorem akl:aW Tryz.prog 38=some [.int .u64 0]:=by kernel_rfl
@[go_sem] theorem akm:uw Tryz.prog 38=some .u64:=by kernel_rfl
@[go_sem] theorem akn:bR Tryz.prog 40=some true:=by kernel_rfl
@[go_sem] theorem ako:Tryz.prog.cellsOf 40=2:=by kernel_rfl
@[go_sem] theorem akp:(Tryz.prog.info? 40).isSome=true:=by kernel_rfl
@[go_sem] theorem akq:aW Tryz.prog 40=some [.int .u64 0,.sl false []]:=by kernel_rfl
@[go_sem] theorem ahU:bU Tryz.prog 40 0=some (0,38):=by kernel_rfl
@[go_sem] theorem ahV:bU Tryz.prog 40 1=some (1,24):=by kernel_rfl
@[go_sem] theorem akr:gW Tryz.prog 40=some [(0,1),(1,1)]:=by kernel_rfl
@[go_sem] theorem aks:bR Tryz.prog 48=some false:=by kernel_rfl
@[go_sem] theorem akt:Tryz.prog.cellsOf 48=1:=by kernel_rfl
@[go_sem] theorem aku:bg Tryz.prog 48=some 215:=by kernel_rfl
@[go_sem] theorem akv:fT Tryz.prog 48=false:=by kernel_rfl
@[go_sem] theorem akw:bR Tryz.prog 49=some false:=by kernel_rfl
@[go_sem] theorem akx:Tryz.prog.cellsOf 49=1:=by kernel_rfl
@[go_sem] theorem aky:(Tryz.prog.info? 49).isSome=true:=by kernel_rfl
@[go_sem] theorem akz:bg Tryz.prog 49=some 215:=by kernel_rfl
@[go_sem] theorem akA:fT Tryz.prog 49=false:=by kernel_rfl
@[go_sem] theorem akB:bR Tryz.prog 51=some true:=by kernel_rfl
@[go_sem] theorem akC:Tryz.prog.cellsOf 51=2:=by kernel_rfl
@[go_sem] theorem akD:Tryz.prog.bytesOf 51=48:=by kernel_rfl
@[go_sem] theorem akE:(Tryz.prog.info? 51).isSome=true:=by kernel_rfl
@[go_sem] theorem akF:aW Tryz.prog 51=some [.sl false [],.sl false []]:=by kernel_rfl
@[go_sem] theorem ahW:bU Tryz.prog 51 0=some (0,49):=by kernel_rfl
@[go_sem] theorem ahX:bU Tryz.prog 51 1=some (1,49):=by kernel_rfl
@[go_sem] theorem akG:gW Tryz.prog 51=some [(0,1),(1,1)]:=by kernel_rfl
@[go_sem] theorem akH:bR Tryz.prog 54=some false:=by kernel_rfl
@[go_sem] theorem akI:Tryz.prog.cellsOf 54=1:=by kernel_rfl
@[go_sem] theorem akJ:bg Tryz.prog 54=some 101:=by kernel_rfl
@[go_sem] theorem akK:fT Tryz.prog 54=false:=by kernel_rfl
@[go_sem] theorem akL:bR Tryz.prog 56=some true:=by kernel_rfl
@[go_sem] theorem akM:Tryz.prog.cellsOf 56=4:=by kernel_rfl
@[go_sem] theorem akN:(Tryz.prog.info? 56).isSome=true:=by kernel_rfl
@[go_sem] theorem akO:aW Tryz.prog 56=some [.int .i64 0,.int .i64 0,.int .i64 0,.sl false []]:=by kernel_rfl
@[go_sem] theorem ahY:bU Tryz.prog 56 0=some (0,3):=by kernel_rfl
@[go_sem] theorem ahZ:bU Tryz.prog 56 1=some (1,3):=by kernel_rfl
@[go_sem] theorem ah0:bU Tryz.prog 56 2=some (2,3):=by kernel_rfl
@[go_sem] theorem ah1:bU Tryz.prog 56 3=some (3,54):=by kernel_rfl
@[go_sem] theorem akP:gW Tryz.prog 56=some [(0,1),(1,1),(2,1),(3,1)]:=by kernel_rfl
@[go_sem] theorem akQ:bR Tryz.prog 58=some true:=by kernel_rfl
@[go_sem] theorem akR:Tryz.prog.cellsOf 58=2:=by kernel_rfl
@[go_sem] theorem akS:(Tryz.prog.info? 58).isSome=true:=by kernel_rfl
@[go_sem] theorem akT:aW Tryz.prog 58=some [.int .i64 0,.sl false []]:=by kernel_rfl
@[go_sem] theorem ah2:bU Tryz.prog 58 0=some (0,3):=by kernel_rfl
@[go_sem] theorem ah3:bU Tryz.prog 58 1=some (1,35):=by kernel_rfl
@[go_sem] theorem akU:gW Tryz.prog 58=some [(0,1),(1,1)]:=by kernel_rfl
@[go_sem] theorem akV:bR Tryz.prog 59=some false:=by kernel_rfl
@[go_sem] theorem akW:Tryz.prog.cellsOf 59=1:=by kernel_rfl
@[go_sem] theorem akX:(Tryz.prog.info? 59).isSome=true:=by kernel_rfl
@[go_sem] theorem akY:aW Tryz.prog 59=some [.sl false []]:=by kernel_rfl
@[go_sem] theorem akZ:bg Tryz.prog 59=some 3:=by kernel_rfl
@[go_sem] theorem ak0:fT Tryz.prog 59=false:=by kernel_rfl
@[go_sem] theorem ak1:bg Tryz.prog 65=some 58:=by kernel_rfl
@[go_sem] theorem ak2:bR Tryz.prog 78=some false:=by kernel_rfl
@[go_sem] theorem ak3:Tryz.prog.cellsOf 78=1:=by kernel_rfl
@[go_sem] theorem ak4:(Tryz.prog.info? 78).isSome=true:=by kernel_rfl
@[go_sem] theorem ak5:bg Tryz.prog 78=some 93:=by kernel_rfl
@[go_sem] theorem ak6:fT Tryz.prog 78=false:=by kernel_rfl
@[go_sem] theorem ak7:bR Tryz.prog 80=some true:=by kernel_rfl
@[go_sem] theorem ak8:Tryz.prog.cellsOf 80=1:=by kernel_rfl
@[go_sem] theorem ak9:(Tryz.prog.info? 80).isSome=true:=by kernel_rfl
@[go_sem] theorem ala:aW Tryz.prog 80=some [.sl false []]:=by kernel_rfl
@[go_sem] theorem ah4:bU Tryz.prog 80 0=some (0,78):=by kernel_rfl
@[go_sem] theorem alb:gW Tryz.prog 80=some [(0,1)]:=by kernel_rfl
@[go_sem] theorem alc:bR Tryz.prog 91=some false:=by kernel_rfl
@[go_sem] theorem ald:Tryz.prog.cellsOf 91=1:=by kernel_rfl
@[go_sem] theorem ale:(Tryz.prog.info? 91).isSome=true:=by kernel_rfl
@[go_sem] theorem alf:bg Tryz.prog 91=some 40:=by kernel_rfl
@[go_sem] theorem alg:fT Tryz.prog 91=false:=by kernel_rfl
@[go_sem] theorem alh:bR Tryz.prog 93=some true:=by kernel_rfl
@[go_sem] theorem ali:Tryz.prog.cellsOf 93=4:=by kernel_rfl
@[go_sem] theorem alj:(Tryz.prog.info? 93).isSome=true:=by kernel_rfl
@[go_sem] theorem alk:aW Tryz.prog 93=some [.sl false [],.sl false [],.sl false [],.sl false []]:=by kernel_rfl
@[go_sem] theorem ah5:bU Tryz.prog 93 0=some (0,22):=by kernel_rfl
@[go_sem] theorem ah6:bU Tryz.prog 93 1=some (1,59):=by kernel_rfl
@[go_sem] theorem ah7:bU Tryz.prog 93 2=some (2,91):=by kernel_rfl
@[go_sem] theorem ah8:bU Tryz.prog 93 3=some (3,91):=by kernel_rfl
@[go_sem] theorem alm:gW Tryz.prog 93=some [(0,1),(1,1),(2,1),(3,1)]:=by kernel_rfl
@[go_sem] theorem aln:bR Tryz.prog 99=some false:=by kernel_rfl
@[go_sem] theorem alo:Tryz.prog.cellsOf 99=1:=by kernel_rfl
@[go_sem] theorem alp:bg Tryz.prog 99=some 228:=by kernel_rfl
@[go_sem] theorem alq:fT Tryz.prog 99=false:=by kernel_rfl
@[go_sem] theorem aiy:bR Tryz.prog 101=some true:=by kernel_rfl
@[go_sem] theorem aiz:Tryz.prog.cellsOf 101=4:=by kernel_rfl
@[go_sem] theorem aiA:(Tryz.prog.info? 101).isSome=true:=by kernel_rfl
@[go_sem] theorem aiB:aW Tryz.prog 101=some [.int .i64 0,.int .i64 0,.sl false [],.sl false []]:=by kernel_rfl
@[go_sem] theorem agm:bU Tryz.prog 101 0=some (0,3):=by kernel_rfl
@[go_sem] theorem agn:bU Tryz.prog 101 1=some (1,3):=by kernel_rfl
@[go_sem] theorem agp:bU Tryz.prog 101 2=some (2,22):=by kernel_rfl
@[go_sem] theorem agq:bU Tryz.prog 101 3=some (3,99):=by kernel_rfl
@[go_sem] theorem aiC:gW Tryz.prog 101=some [(0,1),(1,1),(2,1),(3,1)]:=by kernel_rfl
@[go_sem] theorem aiD:bR Tryz.prog 118=some false:=by kernel_rfl
@[go_sem] theorem aiE:Tryz.prog.cellsOf 118=1:=by kernel_rfl
@[go_sem] theorem aiF:Tryz.prog.bytesOf 118=24:=by kernel_rfl
@[go_sem] theorem aiG:(Tryz.prog.info? 118).isSome=true:=by kernel_rfl
@[go_sem] theorem aiH:aW Tryz.prog 118=some [.sl false []]:=by kernel_rfl
@[go_sem] theorem aiI:bg Tryz.prog 118=some 131:=by kernel_rfl
@[go_sem] theorem aiJ:fT Tryz.prog 118=false:=by kernel_rfl
@[go_sem] theorem aiK:bR Tryz.prog 121=some false:=by kernel_rfl
@[go_sem] theorem aiL:Tryz.prog.cellsOf 121=1:=by kernel_rfl
@[go_sem] theorem aiM:(Tryz.prog.info? 121).isSome=true:=by kernel_rfl
@[go_sem] theorem aiN:bg Tryz.prog 121=some 118:=by kernel_rfl
@[go_sem] theorem aiO:fT Tryz.prog 121=false:=by kernel_rfl
@[go_sem] theorem aiP:bR Tryz.prog 129=some true:=by kernel_rfl
@[go_sem] theorem aiQ:Tryz.prog.cellsOf 129=2:=by kernel_rfl
@[go_sem] theorem aiR:Tryz.prog.bytesOf 129=32:=by kernel_rfl
@[go_sem] theorem aiS:(Tryz.prog.info? 129).isSome=true:=by kernel_rfl
@[go_sem] theorem aiT:aW Tryz.prog 129=some [.sl false [],.bool false]:=by kernel_rfl
@[go_sem] theorem agr:bU Tryz.prog 129 0=some (0,48):=by kernel_rfl
@[go_sem] theorem ags:bU Tryz.prog 129 1=some (1,4):=by kernel_rfl
@[go_sem] theorem aiU:gW Tryz.prog 129=some [(0,1),(1,1)]:=by kernel_rfl
@[go_sem] theorem aiV:bR Tryz.prog 131=some true:=by kernel_rfl
@[go_sem] theorem aiW:Tryz.prog.cellsOf 131=6:=by kernel_rfl
@[go_sem] theorem aiX:Tryz.prog.bytesOf 131=80:=by kernel_rfl
@[go_sem] theorem aiY:(Tryz.prog.info? 131).isSome=true:=by kernel_rfl
@[go_sem] theorem aiZ:aW Tryz.prog 131=some [.int .i64 0,.int .i64 0,.sl false [],.bool false,.sl false [],.bool false]:=by kernel_rfl
@[go_sem] theorem agt:bU Tryz.prog 131 0=some (0,2):=by kernel_rfl
@[go_sem] theorem agu:bU Tryz.prog 131 1=some (1,2):=by kernel_rfl
@[go_sem] theorem agv:bU Tryz.prog 131 2=some (2,129):=by kernel_rfl
@[go_sem] theorem agw:bU Tryz.prog 131 3=some (4,129):=by kernel_rfl
@[go_sem] theorem ai0:gW Tryz.prog 131=some [(0,1),(1,1),(2,2),(4,2)]:=by kernel_rfl
@[go_sem] theorem ai1:bR Tryz.prog 137=some true:=by kernel_rfl
@[go_sem] theorem ai2:Tryz.prog.cellsOf 137=2:=by kernel_rfl
@[go_sem] theorem ai3:Tryz.prog.bytesOf 137=16:=by kernel_rfl
@[go_sem] theorem ai4:(Tryz.prog.info? 137).isSome=true:=by kernel_rfl
@[go_sem] theorem ai5:aW Tryz.prog 137=some [.int .i64 0,.int .i64 0]:=by kernel_rfl
@[go_sem] theorem ai6:gW Tryz.prog 137=some [(0,1),(1,1)]:=by kernel_rfl
@[go_sem] theorem ai7:bg Tryz.prog 140=some 51:=by kernel_rfl
@[go_sem] theorem ai8:fT Tryz.prog 140=false:=by kernel_rfl
@[go_sem] theorem ai9:bg Tryz.prog 188=some 4:=by kernel_rfl
@[go_sem] theorem aja:fT Tryz.prog 188=false:=by kernel_rfl
@[go_sem] theorem ajb:bR Tryz.prog 194=some true:=by kernel_rfl
@[go_sem] theorem ajc:Tryz.prog.cellsOf 194=4:=by kernel_rfl
@[go_sem] theorem ajd:aW Tryz.prog 194=some [.sl false [],.sl false [],.sl false [],.int .i64 0]:=by kernel_rfl
@[go_sem] theorem agx:bU Tryz.prog 194 0=some (0,121):=by kernel_rfl
@[go_sem] theorem agy:bU Tryz.prog 194 1=some (1,118):=by kernel_rfl
@[go_sem] theorem agz:bU Tryz.prog 194 2=some (2,59):=by kernel_rfl
@[go_sem] theorem agA:bU Tryz.prog 194 3=some (3,3):=by kernel_rfl
@[go_sem] theorem aje:gW Tryz.prog 194=some [(0,1),(1,1),(2,1),(3,1)]:=by kernel_rfl
@[go_sem] theorem ajf:bg Tryz.prog 198=some 129:=by kernel_rfl
@[go_sem] theorem ajg:fT Tryz.prog 198=false:=by kernel_rfl
@[go_sem] theorem ajh:bR Tryz.prog 215=some false:=by kernel_rfl
@[go_sem] theorem aji:Tryz.prog.cellsOf 215=1:=by kernel_rfl
@[go_sem] theorem ajj:Tryz.prog.bytesOf 215=4:=by kernel_rfl
@[go_sem] theorem ajk:(Tryz.prog.info? 215).isSome=true:=by kernel_rfl
@[go_sem] theorem ajl:aW Tryz.prog 215=some [.int .u32 0]:=by kernel_rfl
@[go_sem] theorem ajm:uw Tryz.prog 215=some .u32:=by kernel_rfl
@[go_sem] theorem ajn:bR Tryz.prog 228=some true:=by kernel_rfl
@[go_sem] theorem ajo:Tryz.prog.cellsOf 228=3:=by kernel_rfl
@[go_sem] theorem ajp:(Tryz.prog.info? 228).isSome=true:=by kernel_rfl
@[go_sem] theorem ajq:aW Tryz.prog 228=some [.bool false,.sl false [],.int .i64 0]:=by kernel_rfl
@[go_sem] theorem agB:bU Tryz.prog 228 0=some (0,4):=by kernel_rfl
@[go_sem] theorem agC:bU Tryz.prog 228 1=some (1,37):=by kernel_rfl
@[go_sem] theorem ajr:gW Tryz.prog 228=some [(0,1),(1,2)]:=by kernel_rfl
@[go_sem] theorem ajs:bR Tryz.prog 268=some false:=by kernel_rfl
@[go_sem] theorem ajt:Tryz.prog.cellsOf 268=1:=by kernel_rfl
@[go_sem] theorem aju:(Tryz.prog.info? 268).isSome=true:=by kernel_rfl
@[go_sem] theorem ajv:aW Tryz.prog 268=some [.uq]:=by kernel_rfl
@[go_sem] theorem ajw:bR Tryz.prog 274=some false:=by kernel_rfl
@[go_sem] theorem ajx:Tryz.prog.cellsOf 274=1:=by kernel_rfl
@[go_sem] theorem ajy:bR Tryz.prog 275=some false:=by kernel_rfl
@[go_sem] theorem ajz:Tryz.prog.cellsOf 275=1:=by kernel_rfl
@[go_sem] theorem ajA:(Tryz.prog.info? 275).isSome=true:=by kernel_rfl
@[go_sem] theorem ajB:bg Tryz.prog 275=some 35:=by kernel_rfl
@[go_sem] theorem ajC:fT Tryz.prog 275=false:=by kernel_rfl
@[go_sem] theorem ajD:bR Tryz.prog 277=some true:=by kernel_rfl
@[go_sem] theorem ajE:Tryz.prog.cellsOf 277=7:=by kernel_rfl
@[go_sem] theorem ajF:aW Tryz.prog 277=some [.int .i64 0,.int .i64 0,.int .i64 0,.sl false [],.int .i64 0,.sl false [],.sl false []]:=by kernel_rfl
@[go_sem] theorem agD:bU Tryz.prog 277 0=some (0,56):=by kernel_rfl
@[go_sem] theorem agE:bU Tryz.prog 277 1=some (4,3):=by kernel_rfl
@[go_sem] theorem agF:bU Tryz.prog 277 2=some (5,275):=by kernel_rfl
@[go_sem] theorem agG:bU Tryz.prog 277 3=some (6,35):=by kernel_rfl
@[go_sem] theorem ajG:gW Tryz.prog 277=some [(0,4),(4,1),(5,1),(6,1)]:=by kernel_rfl
@[go_sem] theorem ajH:bR Tryz.prog 303=some false:=by kernel_rfl
@[go_sem] theorem ajI:Tryz.prog.cellsOf 303=1:=by kernel_rfl
@[go_sem] theorem ajJ:bR Tryz.prog 305=some true:=by kernel_rfl
@[go_sem] theorem ajK:Tryz.prog.cellsOf 305=2:=by kernel_rfl
@[go_sem] theorem ajL:aW Tryz.prog 305=some [.uq,.int .i64 0]:=by kernel_rfl
@[go_sem] theorem agH:bU Tryz.prog 305 0=some (0,303):=by kernel_rfl
@[go_sem] theorem agI:bU Tryz.prog 305 1=some (1,2):=by kernel_rfl
@[go_sem] theorem ajM:gW Tryz.prog 305=some [(0,1),(1,1)]:=by kernel_rfl
end ama
end Go.Vm
end
section
namespace Go.Vm
open Go
theorem Reads.frame {w w':World}{L L':Nat->Prop} (hc:∀(a:Addr) v,¬L a.block->w.cell? a=some v->¬L' a.block/\w'.cell? a=some v) {x:Tr}{v:Value}
  (h:Reads w L x v):Reads w' L' x v:=by
 induction h with
 |int k n=>exact .int k n
 |bool b=>exact .bool b
 |str s=>exact .str s
 |agg hl _ ih=>exact .agg hl ih
 |tup hl _ ih=>exact .tup hl ih
 |nil=>exact .nil
 |uq=>exact .uq
 |Ri=>exact .Ri
 |Rj=>exact .Rj
 |@ptr cs a vals hs hcell _ ih =>
  refine .ptr hs (fun k x hk=>?_) ih;obtain ⟨h1,h2,h3⟩:=hcell k x hk;have hb:(a.add k).block=a.block:=by unfold Addr.add;split<;>rfl
  have:=hc (a.add k) (vals k) (by rw[hb];exact h1) h2;rw[hb]at this;exact ⟨this.1,this.2,h3⟩
 |fn hl _ ih=>exact .fn hl ih
 |@sl l a cap esz vals hs hcap hm he hcell _ ih =>
  refine .sl hs hcap hm he (fun k x hk=>?_) ih;obtain ⟨h1,h2,h3⟩:=hcell k x hk;have hb:(a.add k).block=a.block:=by unfold Addr.add;split<;>rfl
  have:=hc (a.add k) (vals k) (by rw[hb];exact h1) h2;rw[hb]at this;exact ⟨this.1,this.2,h3⟩
theorem Reads.mono {w:World}{L L':Nat->Prop} (hL:∀b,L' b->L b) {x:Tr}{v:Value} (h:Reads w L x v):Reads w L' x v :=
 h.frame fun _ _ h1 h2=>⟨fun h=>h1 (hL _ h),h2⟩
theorem Reads.scalar {w w':World}{L L':Nat->Prop}{x:Tr}{v:Value} (h:Reads w L x v) (hs:x.scalar=true):Reads w' L' x v:=by
 have key:∀l:List Tr,Tr.scalar.scalars l=true->∀(i:Nat) (x:Tr),l[i]?=some x->∀v,Reads w L x v->Reads w' L' x v:=by
  intro l
  induction l with
  |nil=>intro _ i x hi;simp at hi
  |cons y r ih =>
   intro hl i x hi v hv;have hy:(∃k n,y=.int k n)\/(∃b,y=.bool b)\/(∃s,y=.str s):=by
    cases y<;>simp[Tr.scalar.scalars]at hl ⊢
   have hr:Tr.scalar.scalars r=true:=by
    rcases hy with ⟨_,_,rfl⟩|⟨_,rfl⟩|⟨_,rfl⟩<;>simpa[Tr.scalar.scalars] using hl
   cases i with
   |zero =>
    simp at hi;subst hi
    rcases hy with ⟨_,_,rfl⟩|⟨_,rfl⟩|⟨_,rfl⟩<;>cases hv
    ·exact .int _ _
    ·exact .bool _
    ·exact .str _
   |succ i=>exact ih hr i x (by simpa using hi) v hv
 cases h with
 |int k n=>exact .int k n
 |bool b=>exact .bool b
 |str s=>exact .str s
 |tup hl h=>exact .tup hl fun i x hi=>key _ hs i x hi _ (h i x hi)
 |_=>simp[Tr.scalar]at hs
theorem Ext.refl (h:Hp) (μ:Id->Nat) (w:World):Ext h μ w h μ w :=
 ⟨rfl,rfl,rfl,Nat.le_refl _,fun _ _ _=>rfl,fun _ cur et fz hb=>⟨cur,et,fz,hb,rfl⟩,fun _ o ho=>⟨o,ho,Nat.le_refl _,rfl,fun _=>rfl,id,rfl,fun _=>rfl⟩,fun _=>.inl⟩
theorem Ext.trans {h:Hp}{μ:Id->Nat}{w:World}{h':Hp}{μ':Id->Nat}{w':World}{h'':Hp}{μ'':Id->Nat}{w'':World}
  (e:Ext h μ w h' μ' w') (f:Ext h' μ' w' h'' μ'' w''):Ext h μ w h'' μ'' w'' where
 os:=f.os.trans e.os
 tape:=f.tape.trans e.tape
 output:=f.output.trans e.output
 size:=Nat.le_trans e.size f.size
 old b hb hl:=by
  rw[f.old b (Nat.lt_of_lt_of_le hb e.size) (fun hl'=>(e.lv b hl').elim hl (fun h=>absurd hb (by omega)))];exact e.old b hb hl
 bsz b cur et fz hb:=by
  obtain ⟨c1,e1,f1,h1,s1⟩:=e.bsz b cur et fz hb;obtain ⟨c2,e2,f2,h2,s2⟩:=f.bsz b c1 e1 f1 h1;exact ⟨c2,e2,f2,h2,s2.trans s1⟩
 obj id o ho:=by
  obtain ⟨o1,h1,l1,s1,m1,v1,a1,z1⟩:=e.obj id o ho;obtain ⟨o2,h2,l2,s2,m2,v2,a2,z2⟩:=f.obj id o1 h1;refine ⟨o2,h2,Nat.le_trans l1 l2,s2.trans s1,fun hl=>?_,fun hv=>v1 (v2 hv),a2.trans a1,fun hz=>(z2 (s1.trans hz)).trans (z1 hz)⟩;exact (m2 (by omega)).trans (m1 (by omega))
 lv b hb:=by
  rcases f.lv b hb with h|h
  ·exact e.lv b h
  ·exact .inr (Nat.le_trans e.size h)
theorem block_add (a:Addr) (k:Nat):(a.add k).block=a.block:=by unfold Addr.add;split<;>rfl
theorem Um {w w':World}{a:Addr} (h:w'.heap[a.block]?=w.heap[a.block]?):w'.cell? a=w.cell? a:=by simp[World.cell?,h]
section
variable {A:Nat->Prop}{h h':Hp}{μ μ':Id->Nat}{w w':World}
theorem Ext.cell (e:Ext h μ w h' μ' w') (a:Addr) (v:Value) (hl:¬LL A h μ a.block) (hc:w.cell? a=some v):¬LL A h' μ' a.block/\w'.cell? a=some v:=by
 have hlt:=block_lt_of_cell hc;refine ⟨fun hl'=>?_,?_⟩
 ·rcases hl' with ha|hv
  ·exact hl (.inl ha)
  ·rcases e.lv _ hv with h1|h1
   ·exact hl (.inr h1)
   ·omega
 ·rw[Um (e.old _ hlt (fun h1=>hl (.inr h1)))];exact hc
theorem VR.ext (e:Ext h μ w h' μ' w') {p:PV}{v:Value} (hv:VR h μ w (LL A h μ) p v):VR h' μ' w' (LL A h' μ') p v:=by
 induction hv with
 |t hr=>exact .t (hr.frame (e.cell))
 |@ro cs a vals hs hcell hr =>
  refine .ro hs (fun k x hk=>?_) (fun k x hk=>(hr k x hk).frame e.cell);obtain ⟨h1,h2,h3⟩:=hcell k x hk;have:=e.cell (A:=A) (a.add k) (vals k) (by rw[block_add];exact h1) h2;rw[block_add]at this;exact ⟨this.1,this.2,h3⟩
 |@rf id n v o ho hz hn h1 hv =>
  obtain ⟨o',ho',hl,hs,hm,_⟩:=e.obj id o ho;refine .rf ho' (by rw[hs];exact hz) (by omega) h1 (fun he=>?_);obtain ⟨cap,cur,et,fz,hv,hb,hsz⟩:=hv (by omega);obtain ⟨c1,e1,f1,hb1,hs1⟩:=e.bsz _ cur et fz hb;rw[hm (by omega)];exact ⟨cap,c1,e1,f1,hv,hb1,by rw[hs1,hsz,hs]⟩
 |@ad id n off v o ho hz hn h1 hv =>
  obtain ⟨o',ho',hl,hs,hm,_⟩:=e.obj id o ho;refine .ad ho' (by rw[hs];exact hz) (by omega) h1 (fun he=>?_);rw[hm (by omega)];exact hv (by omega)
 |@mp id o ho hz hg =>
  obtain ⟨o',ho',hl,hs,hm,_,ha,hz'⟩:=e.obj id o ho;rw[<- hm (hz' hz)];exact .mp ho' (hs.trans hz) (ha.trans hg)
 |@it id o ho hz hg =>
  obtain ⟨o',ho',hl,hs,hm,_,ha,hz'⟩:=e.obj id o ho;rw[<- hm (hz' hz)];exact .it ho' (hs.trans hz) (ha.trans hg)
 |agg hl _ ih=>exact .agg hl ih
 |tup hl _ ih=>exact .tup hl ih
 |fn hl _ ih=>exact .fn hl ih
 |skip=>exact .skip
 |undef=>exact .undef
end
end Go.Vm
end
section
namespace Go.Vm
open Go
theorem rJ {α β:Type}{f:α->Option β}:∀ {l:List α}{r:List β},bA f l=some r->r.length=l.length/\∀(i:Nat) a,l[i]?=some a->∃b,f a=some b/\r[i]?=some b
 |[],r,h=>by simp[bA]at h;subst h;exact ⟨rfl,fun i a hi=>by simp at hi⟩
 |a::l,r,h=>by
  simp only[bA]at h;split at h
  ·rename_i b bs hb hbs
   simp at h;subst h
   obtain ⟨h1,h2⟩:=rJ hbs;refine ⟨by simp[h1],fun i x hi=>?_⟩;cases i with
   |zero=>simp at hi;subst hi;exact ⟨b,hb,rfl⟩
   |succ i=>simpa using h2 i x (by simpa using hi)
  ·cases h
theorem uZ {α β:Type}{f:α->Option β}{l:List α}{r:List β} (h:bA f l=some r) (i:Nat) (b:β) (hb:r[i]?=some b):∃a,l[i]?=some a/\f a=some b:=by
 obtain ⟨h1,h2⟩:=rJ h;have hi:i < l.length:=by rw[<- h1];exact (List.getElem?_eq_some_iff.1 hb).1
 obtain ⟨b',hb',hr⟩:=h2 i l[i] (List.getElem?_eq_getElem hi);rw[hb]at hr;cases hr
 exact ⟨l[i],List.getElem?_eq_getElem hi,hb'⟩
theorem Gx (w:World) (o:Go.Obj):(w.alloc o).heap[w.heap.size]?=some o:=by
 show (w.heap.push o)[w.heap.size]?=_
 simp
theorem Un (w:World) (o:Go.Obj) (i:Nat) (h:i < w.heap.size):(w.alloc o).heap[i]?=w.heap[i]?:=by
 show (w.heap.push o)[i]?=_
 rw[Array.getElem?_push_lt h,Array.getElem?_eq_getElem h]
theorem yY {h:Hp}{k:Nat}:∀l:List Tr,bA (aS h k) (l.map .t)=some l
 |[]=>rfl
 |x::l=>by
  have:aS h k (.t x)=some x:=by cases k<;>rfl
  simp[bA,this,yY l]
theorem Ap (esz:Nat):∀(n:Nat) (ts:List Tr),ts.length=n*esz->flat (chunk esz n ts)=ts/\(chunk esz n ts).length=n/\∀x∈chunk esz n ts,x.cells.length=esz
 |0,ts,h=>by
  have:ts=[]:=List.eq_nil_of_length_eq_zero (by omega);subst this;simp[chunk,flat]
 |n+1,ts,h=>by
  have hl:(ts.drop esz).length=n*esz:=by rw[List.length_drop,h,Nat.succ_mul];omega
  obtain ⟨h1,h2,h3⟩:=Ap esz n (ts.drop esz) hl;refine ⟨?_,by simp[chunk,h2],?_⟩
  ·simp only[chunk,flat,List.flatMap_cons,Tr.cells]
   simp only[flat]at h1;rw[h1,List.take_append_drop]
  ·intro x hx
   simp only[chunk,List.mem_cons]at hx;rcases hx with rfl|hx
   ·simp only[Tr.cells,List.length_take,h,Nat.succ_mul];omega
   ·exact h3 x hx
theorem uS (ts:List Tr) (h:∀x∈ts,x.cells=[x]):flat ts=ts:=by
 induction ts with
 |nil=>rfl
 |cons x r ih =>
  have:=ih (fun y hy=>h y (by simp[hy]));simp only[flat]at this;simp[flat,h x (by simp),this]
theorem Ii {ag:Bool}{esz n:Nat}{ts:List Tr} (hl:ts.length=n*esz) (h1:ag=false->esz=1) (hone:∀x∈ts,x.cells=[x]) :
  flat (elems ag esz n ts)=ts/\(elems ag esz n ts).length=n/\∀x∈elems ag esz n ts,x.cells.length=esz:=by
 cases ag with
 |true=>exact Ap esz n ts hl
 |false =>
  have:esz=1:=h1 rfl;subst this;exact ⟨uS ts hone,by simpa[elems] using hl,fun x hx=>by simp[elems]at hx;simp[hone x hx]⟩
theorem Reads.one {w:World}{L:Nat->Prop}{x:Tr}{v:Value} (h:Reads w L x v) (h1:v.oneCell'=true):x.cells=[x]:=by
 cases h<;>first|rfl|(simp[Value.oneCell']at h1)
theorem iR (h:Hp) (id id':Id) (o:Obj):hget (hset h id o) id'=if id'=id then (if (hget h id).isSome then some o else none) else hget h id':=by
 obtain ⟨s,g⟩:=id;obtain ⟨s',g'⟩:=id'
 simp only[hget,hset,upd]
 by_cases hs:s'=s
 ·subst hs
  simp only[if_true,Prod.mk.injEq,true_and];rw[List.getElem?_set]
  by_cases hg:g'=g
  ·subst hg
   by_cases hlt:g' < (h s').length
   ·simp[hlt]
   ·simp[hlt]
  ·rw[if_neg (fun e=>hg e.symm),if_neg hg]
 ·rw[if_neg hs,if_neg (fun e=>hs (by cases e;rfl))]
theorem dz (h:Hp) (s:Nat) (o:Obj) (id:Id):hget (hnew h s o) id=if id=hnext h s then some o else hget h id:=by
 obtain ⟨s',g'⟩:=id;have hd:((s',g')=hnext h s)=(s'=s/\g'=(h s).length):=by simp[hnext]
 simp only[hget,hnew,upd,hd]
 by_cases hs:s'=s
 ·subst hs
  simp only[if_true,true_and]
  by_cases hg:g'=(h s').length
  ·subst hg;simp
  ·rw[if_neg hg,List.getElem?_append]
   split
   ·rfl
   ·rw[List.getElem?_eq_none (by simp;omega),List.getElem?_eq_none (by omega)]
 ·rw[if_neg hs,if_neg (fun e=>hs e.1)]
theorem kL (h:Hp) (s:Nat):hget h (hnext h s)=none:=by simp[hget,hnext]
theorem mJ:∀(ids:List Id) (h:Hp) (id:Id),hget (frz h ids) id=(hget h id).map fun o=>{ o with live:=o.live&&!(ids.contains id) }
 |[],h,id=>by cases hh:hget h id<;>simp[frz,hh]
 |i::ids,h,id=>by
  have ih:=mJ ids (Rh h i) id;simp only[frz,List.foldl_cons]at ih ⊢;rw[ih];unfold Rh;cases hi:hget h i with
  |none =>
   simp only;cases hh:hget h id with
   |none=>rfl
   |some o =>
    have:id≠i:=fun e=>by subst e;rw[hi]at hh;cases hh
    simp[this]
  |some o' =>
   simp only[iR,hi,Option.isSome_some,if_true]
   by_cases he:id=i
   ·subst he;simp[hi]
   ·rw[if_neg he]
    cases hh:hget h id with
    |none=>rfl
    |some o=>simp[he]
theorem HR.YO {A:Nat->Prop}{h:Hp}{μ:Id->Nat}{w:World} (hr:HR A h μ w) {id:Id}{o:Obj} (ho:hget h id=some o) {cur:Array Value}{et:TypeId}{fz:Nat × Nat} (hb:w.heap[μ id]?=some (.cells cur et fz)):o.esz≠0:=by
 intro hz;obtain ⟨_,h1,h2⟩:=hr.spec id o ho hz;cases hag:o.ag with
 |true =>
  obtain ⟨kv,_,hm⟩:=h1 hag;rw[hb]at hm;cases hm
 |false =>
  obtain ⟨m,om,last,fs,seen,_,_,_,_,hm,_⟩:=h2 hag;rw[hb]at hm;cases hm
theorem HR.Ij {A:Nat->Prop}{h:Hp}{μ:Id->Nat}{w:World} (hr:HR A h μ w) {id:Id}{o:Obj} (ho:hget h id=some o) (hz:o.esz=0):o.len=0:=(hr.spec id o ho hz).1
theorem wz {A:Nat->Prop}{h:Hp}{μ:Id->Nat}{w:World} (hr:HR A h μ w) {L':Nat->Prop}:∀(k:Nat) (p:PV) (v:Value) (x:Tr),
  VR h μ w (LL A h μ) p v->aS h k p=some x->(∀b,L' b->LL A h μ b)->(∀b,L' b->∀id∈reach h k p,μ id≠b)->Reads w L' x v:=by
 intro k
 induction k with
 |zero =>
  intro p v x hv ht hL _;cases p<;>simp[aS]at ht
  subst ht;cases hv with
  |t h=>exact h.mono hL
 |succ k ih =>
  intro p v x hv ht hL hid;have lists:∀(l:List PV) (ts:List Tr) (vs:Array Value),bA (aS h k) l=some ts->l.length=vs.size->(∀(i:Nat) p,l[i]?=some p->VR h μ w (LL A h μ) p (vs.getD i undef)) ->
    (∀b,L' b->∀p∈l,∀id∈reach h k p,μ id≠b)->ts.length=vs.size/\∀(i:Nat) x,ts[i]?=some x->Reads w L' x (vs.getD i undef):=by
   intro l ts vs hm hl hvs hb;refine ⟨by rw[(rJ hm).1,hl],fun i x hx=>?_⟩;obtain ⟨p,hp,hpx⟩:=uZ hm i x hx;exact ih p _ x (hvs i p hp) hpx hL (fun b hb' id sZ=>hb b hb' p (List.mem_of_getElem? hp) id sZ)
  cases hv with
  |t hh=>simp[aS]at ht;subst ht;exact hh.mono hL
  |@ro cs a vals hs hcell hrd =>
   simp only[aS,Option.some.injEq]at ht;subst ht;exact .ptr hs (fun k x hk=>by obtain ⟨h1,h2,h3⟩:=hcell k x hk;exact ⟨fun hb=>h1 (hL _ hb),h2,h3⟩) (fun k x hk=>(hrd k x hk).mono hL)
  |@ad id n off v o ho hz hn h1 hv =>
   simp only[aS,ho]at ht;split at ht
   ·rename_i hlen
    split at ht
    ·rename_i ts hm
     simp only[Option.some.injEq]at ht;subst ht
     have:=hv hlen;subst this
     obtain ⟨cur',cap',hblk',jU,hag,hcl,hcs,hle,hmax,hcell⟩:=hr.obj id o ho hz;have hmem:id∈reach h (k+1) (.ad id n off):=by simp[reach]
     have hsub:∀p∈o.cs,∀i∈reach h k p,i∈reach h (k+1) (.ad id n off):=by
      intro p hp i hi;simp only[reach,ho,List.mem_cons,List.mem_flatMap];exact .inr ⟨p,hp,hi⟩
     have hlts:ts.length=o.len*o.esz:=by rw[(rJ hm).1,hcl]
     have hts:∀(i:Nat) x,ts[i]?=some x->Reads w L' x (cur'.getD i undef)/\(cur'.getD i undef).oneCell'=true:=by
      intro i x hx;obtain ⟨p,hp,hpx⟩:=uZ hm i x hx;obtain ⟨hvr,h1c⟩:=hcell i p hp;exact ⟨ih p _ x hvr hpx hL (fun b hb i' hi'=>hid b hb i' (hsub p (List.mem_of_getElem? hp) i' hi')),h1c⟩
     refine @Reads.ptr w L' (ts.drop off) ⟨μ id,off,none⟩ (fun k=>cur'.getD (off+k) undef) rfl (fun i x hx=>?_) (fun i x hx=>?_)
     ·rw[List.getElem?_drop]at hx
      refine ⟨fun hb=>hid _ hb id hmem rfl,?_,(hts _ x hx).2⟩;have hi:off+i < cur'.size:=by
       have:off+i < ts.length:=(List.getElem?_eq_some_iff.1 hx).1;have:o.len*o.esz<=cap'*o.esz:=Nat.mul_le_mul_right _ hle;omega
      have hadd:(⟨μ id,off,none⟩:Addr).add i=⟨μ id,off+i,none⟩:=by unfold Addr.add;split<;>simp_all
      rw[hadd];simp[World.cell?,hblk',hi,Array.getD]
     ·rw[List.getElem?_drop]at hx
      exact (hts _ x hx).1
    ·cases ht
   ·cases ht
  |mp=>simp[aS]at ht
  |it=>simp[aS]at ht
  |skip=>simp[aS]at ht
  |undef=>simp[aS]at ht
  |@agg l vs hl hvs =>
   simp only[aS]at ht;split at ht
   ·rename_i ts hm
    simp at ht;subst ht
    obtain ⟨h1,h2⟩:=lists l ts vs hm hl hvs (fun b hb p hp id sZ=>hid b hb id (by simp only[reach,List.mem_flatMap];exact ⟨p,hp,sZ⟩));exact .agg h1 h2
   ·cases ht
  |@tup l vs hl hvs =>
   simp only[aS]at ht;split at ht
   ·rename_i ts hm
    simp at ht;subst ht
    obtain ⟨h1,h2⟩:=lists l ts vs hm hl hvs (fun b hb p hp id sZ=>hid b hb id (by simp only[reach,List.mem_flatMap];exact ⟨p,hp,sZ⟩));exact .tup h1 h2
   ·cases ht
  |@fn f l vs hl hvs =>
   simp only[aS]at ht;split at ht
   ·rename_i ts hm
    simp at ht;subst ht
    obtain ⟨h1,h2⟩:=lists l ts vs hm hl hvs (fun b hb p hp id sZ=>hid b hb id (by simp only[reach,List.mem_flatMap];exact ⟨p,hp,sZ⟩));exact .fn h1 h2
   ·cases ht
  |@rf id n v o ho hz hn h1 hv =>
   simp only[aS,ho]at ht;split at ht
   ·rename_i hlen
    split at ht
    ·rename_i ts hm
     simp at ht;subst ht
     obtain ⟨cap,cur,et,fz,rfl,hblk,hcur⟩:=hv hlen;obtain ⟨cur',cap',hblk',jU,hag,hcl,hcs,hle,hmax,hcell⟩:=hr.obj id o ho hz;rw[hblk]at hblk';cases hblk'
     have hcap:cap=cap':=Nat.eq_of_mul_eq_mul_right jU (hcur.symm.trans hcs);subst hcap;have hmem:id∈reach h (k+1) (.rf id n):=by simp[reach]
     have hsub:∀p∈o.cs,∀i∈reach h k p,i∈reach h (k+1) (.rf id n):=by
      intro p hp i hi;simp only[reach,ho,List.mem_cons,List.mem_flatMap];exact .inr ⟨p,hp,hi⟩
     have hts:∀(i:Nat) x,ts[i]?=some x->Reads w L' x (cur.getD i undef)/\(cur.getD i undef).oneCell'=true:=by
      intro i x hx;obtain ⟨p,hp,hpx⟩:=uZ hm i x hx;obtain ⟨hvr,h1c⟩:=hcell i p hp;exact ⟨ih p _ x hvr hpx hL (fun b hb i' hi'=>hid b hb i' (hsub p (List.mem_of_getElem? hp) i' hi')),h1c⟩
     have hone:∀x∈ts,x.cells=[x]:=by
      intro x hx;obtain ⟨i,hi,rfl⟩:=List.mem_iff_getElem.1 hx;obtain ⟨a,b⟩:=hts i ts[i] (List.getElem?_eq_getElem hi);exact a.one b
     have hlts:ts.length=o.len*o.esz:=by rw[(rJ hm).1,hcl]
     obtain ⟨hf,hfl,hfe⟩:=Ii hlts hag hone;have:=@Reads.sl w L' (elems o.ag o.esz o.len ts) ⟨μ id,0,none⟩ cap o.esz (fun k=>cur.getD k undef) (fun _=>rfl) (by rw[hfl];omega) hmax hfe
      (fun i x hx=>by
       rw[hf]at hx;refine ⟨fun hb=>hid _ hb id hmem rfl,?_,(hts i x hx).2⟩;have hi:i < cur.size:=by
        have:i < ts.length:=(List.getElem?_eq_some_iff.1 hx).1;have:o.len*o.esz<=cap*o.esz:=Nat.mul_le_mul_right _ hle;omega
       have hadd:(⟨μ id,0,none⟩:Addr).add i=⟨μ id,i,none⟩:=by unfold Addr.add;split<;>simp_all
       rw[hadd];simp[World.cell?,hblk,hi,Array.getD])
      (fun i x hx=>by rw[hf]at hx;exact (hts i x hx).1)
     rw[hfl,hlen]at this;rw[hlen];exact this
    ·cases ht
   ·cases ht
section
variable {A:Nat->Prop}{h:Hp}{μ:Id->Nat}{w w':World}
theorem HR.lt (hr:HR A h μ w) {id:Id}{o:Obj} (ho:hget h id=some o):μ id < w.heap.size:=by
 by_cases hz:o.esz=0
 ·obtain ⟨_,h1,h2⟩:=hr.spec id o ho hz
  cases hag:o.ag with
  |true =>
   obtain ⟨kv,_,hm⟩:=h1 hag;exact (Array.getElem?_eq_some_iff.1 hm).1
  |false =>
   obtain ⟨m,om,last,fs,seen,_,_,_,_,hm,_⟩:=h2 hag;exact (Array.getElem?_eq_some_iff.1 hm).1
 ·obtain ⟨cur,cap,hb,_⟩:=hr.obj id o ho hz
  exact (Array.getElem?_eq_some_iff.1 hb).1
theorem Spec.keep {h':Hp}{μ':Id->Nat}{id:Id}{o:Obj} (hl:o.len=0/\(o.ag=true->Pf h μ w id o)/\(o.ag=false->Ko h μ w id o)) (hb:w'.heap[μ' id]?=w.heap[μ id]?)
  (hm:∀m om,hget h m=some om->om.esz=0->om.ag=true->∃om',hget h' m=some om'/\om'.esz=0/\om'.ag=true/\μ' m=μ m) :
  o.len=0/\(o.ag=true->Pf h' μ' w' id o)/\(o.ag=false->Ko h' μ' w' id o):=by
 obtain ⟨h0,h1,h2⟩:=hl;refine ⟨h0,fun hag=>?_,fun hag=>?_⟩
 ·obtain ⟨kv,e1,e2⟩:=h1 hag
  exact ⟨kv,e1,by rw[hb];exact e2⟩
 ·obtain ⟨m,om,last,fs,seen,e1,e2,e3,e4,e5,e6,e7⟩:=h2 hag
  obtain ⟨om',g1,g2,g3,g4⟩:=hm m om e2 e3 e4;exact ⟨m,om',last,fs,seen,e1,g1,g2,g3,by rw[hb,g4];exact e5,e6,e7⟩
theorem Ext.grow (hr:HR A h μ w) (hb:RowKit.Below w.heap.size w w'):HR A h μ w'/\Ext h μ w h μ w':=by
 have e:Ext h μ w h μ w':=⟨hb.os,hb.tape,hb.output,hb.size,fun b hlt _=>hb.block b hlt,fun b cur et fz hc=>⟨cur,et,fz,by rw[hb.block b (Array.getElem?_eq_some_iff.1 hc).1];exact hc,rfl⟩,
  fun _ o ho=>⟨o,ho,Nat.le_refl _,rfl,fun _=>rfl,id,rfl,fun _=>rfl⟩,fun _=>.inl⟩
 refine ⟨⟨fun id o ho hz=>Spec.keep (hr.spec id o ho hz) (hb.block _ (hr.lt ho)) (fun m om h1 h2 h3=>⟨om,h1,h2,h3,rfl⟩),fun id o ho hz=>?_,hr.inj,hr.dis,fun b hA=>Nat.lt_of_lt_of_le (hr.old b hA) hb.size⟩,e⟩;obtain ⟨cur,cap,hblk,h2,h3,h4,h5,h6,h7,h8⟩:=hr.obj id o ho hz;exact ⟨cur,cap,by rw[hb.block _ (hr.lt ho)];exact hblk,h2,h3,h4,h5,h6,h7,fun k p hp=>⟨(h8 k p hp).1.ext e,(h8 k p hp).2⟩⟩
def setμ (μ:Id->Nat) (id:Id) (b:Nat):Id->Nat:=fun i=>if i=id then b else μ i
theorem setμ_same (μ:Id->Nat) (id:Id) (b:Nat):setμ μ id b id=b:=by simp[setμ]
theorem setμ_ne (μ:Id->Nat) {id i:Id} (b:Nat) (h:i≠id):setμ μ id b i=μ i:=by simp[setμ,h]
theorem HR.new (hr:HR A h μ w) (d b:Nat) (o:Obj) (cur:Array Value) (cap:Nat)
  (hw:w'.os=w.os/\w'.tape=w.tape/\w'.output=w.output) (hsz:w.heap.size<=w'.heap.size) (hold:∀k:Nat,k < w.heap.size->w'.heap[k]?=w.heap[k]?)
  (hb:w.heap.size<=b) (hcur:w'.heap[b]?=some (.cells cur o.elem (0,0))) (jU:0 < o.esz) (hag:o.ag=false->o.esz=1) (hcs:o.cs.length=o.len*o.esz) (hcap:cur.size=cap*o.esz) (hle:o.len<=cap) (hmax:cap<=maxLen)
  (hcell:∀k p,o.cs[k]?=some p->VR h μ w (LL A h μ) p (cur.getD k undef)/\(cur.getD k undef).oneCell'=true) :
  HR A (hnew h d o) (setμ μ (hnext h d) b) w'/\Ext h μ w (hnew h d o) (setμ μ (hnext h d) b) w':=by
 have hne:∀id o',hget h id=some o'->id≠hnext h d:=fun id o' ho e=>by rw[e,kL]at ho;cases ho
 have hbA:¬A b:=fun hA=>by have:=hr.old b hA;omega
 have e:Ext h μ w (hnew h d o) (setμ μ (hnext h d) b) w':=by
  refine ⟨hw.1,hw.2.1,hw.2.2,hsz,fun k hk _=>hold k hk,fun k c et fz hc=>⟨c,et,fz,by rw[hold k (Array.getElem?_eq_some_iff.1 hc).1];exact hc,rfl⟩,fun id o' ho=>?_,?_⟩
  ·refine ⟨o',by rw[dz,if_neg (hne id o' ho)];exact ho,Nat.le_refl _,rfl,fun _=>setμ_ne _ _ (hne id o' ho),fun hh=>hh,rfl,fun _=>rfl⟩
  ·rintro k ⟨id,o',ho,hl,rfl⟩
   rw[dz]at ho;split at ho
   ·rename_i he;subst he;rw[setμ_same];exact .inr hb
   ·rename_i he;rw[setμ_ne _ _ he];exact .inl ⟨id,o',ho,hl,rfl⟩
 refine ⟨⟨fun id o' ho hz=>?_,fun id o' ho hz=>?_,fun id id' o1 o2 h1 h2 hl heq=>?_,fun id o' ho=>?_,fun k hA=>Nat.lt_of_lt_of_le (hr.old k hA) hsz⟩,e⟩
 ·rw[dz]at ho
  split at ho
  ·cases ho;omega
  ·rename_i he
   exact Spec.keep (hr.spec id o' ho hz) (by rw[setμ_ne _ _ he];exact hold _ (hr.lt ho)) (fun m om h1 h2 h3=>⟨om,by rw[dz,if_neg (hne m om h1)];exact h1,h2,h3,setμ_ne _ _ (hne m om h1)⟩)
 ·rw[dz]at ho
  split at ho
  ·rename_i he;subst he;cases ho
   rw[setμ_same];exact ⟨cur,cap,hcur,jU,hag,hcs,hcap,hle,hmax,fun k p hp=>⟨(hcell k p hp).1.ext e,(hcell k p hp).2⟩⟩
  ·rename_i he
   obtain ⟨cur',cap',hblk,h2,h3,h4,h5,h6,h7,h8⟩:=hr.obj id o' ho hz;rw[setμ_ne _ _ he];exact ⟨cur',cap',by rw[hold _ (hr.lt ho)];exact hblk,h2,h3,h4,h5,h6,h7,fun k p hp=>⟨(h8 k p hp).1.ext e,(h8 k p hp).2⟩⟩
 ·rw[dz]at h1 h2
  by_cases e1:id=hnext h d
  ·by_cases e2:id'=hnext h d
   ·rw[e1,e2]
   ·rw[if_neg e2]at h2
    rw[e1,setμ_same,setμ_ne _ _ e2]at heq;have:=hr.lt h2;omega
  ·rw[if_neg e1]at h1
   by_cases e2:id'=hnext h d
   ·rw[e2,setμ_same,setμ_ne _ _ e1]at heq
    have:=hr.lt h1;omega
   ·rw[if_neg e2]at h2
    rw[setμ_ne _ _ e1,setμ_ne _ _ e2]at heq;exact hr.inj id id' o1 o2 h1 h2 hl heq
 ·rw[dz]at ho
  split at ho
  ·rename_i he;rw[he,setμ_same];exact hbA
  ·rename_i he;rw[setμ_ne _ _ he];exact hr.dis id o' ho
theorem HR.set (hr:HR A h μ w) (id:Id) (o o':Obj) (b:Nat) (cur:Array Value) (cap:Nat) (ho:hget h id=some o) (hnz:o.esz≠0) (hlive:o.live=true)
  (hw:w'.os=w.os/\w'.tape=w.tape/\w'.output=w.output) (hsz:w.heap.size<=w'.heap.size) (hold:∀k:Nat,k < w.heap.size->k≠μ id->w'.heap[k]?=w.heap[k]?)
  (hbs:∀(c:Array Value) (et:TypeId) (fz:Nat × Nat),w.heap[μ id]?=some (.cells c et fz)->∃(c':Array Value) (et':TypeId) (fz':Nat × Nat),w'.heap[μ id]?=some (.cells c' et' fz')/\c'.size=c.size)
  (hb:b=μ id\/w.heap.size<=b) (hcur:w'.heap[b]?=some (.cells cur o.elem (0,0))) (hcs:o'.cs.length=o'.len*o.esz) (hcap:cur.size=cap*o.esz) (hle:o'.len<=cap) (hmax:cap<=maxLen)
  (hlen:o.len<=o'.len) (hsame:o'.len=o.len->b=μ id) (hf:o'.esz=o.esz/\o'.elem=o.elem/\o'.ag=o.ag/\o'.live=true)
  (hcell:∀k p,o'.cs[k]?=some p->VR h μ w (LL A h μ) p (cur.getD k undef)/\(cur.getD k undef).oneCell'=true) :
  HR A (hset h id o') (setμ μ id b) w'/\Ext h μ w (hset h id o') (setμ μ id b) w':=by
 obtain ⟨hf1,hf2,hf3,hf4⟩:=hf;obtain ⟨_,_,_,jU,hag,_⟩:=hr.obj id o ho hnz;have hbA:¬A b:=by
  rcases hb with rfl|hb
  ·exact hr.dis id o ho
  ·exact fun hA=>by have:=hr.old b hA;omega
 have hg:∀i,hget (hset h id o') i=if i=id then some o' else hget h i:=fun i=>by rw[iR,ho];simp
 have e:Ext h μ w (hset h id o') (setμ μ id b) w':=by
  refine ⟨hw.1,hw.2.1,hw.2.2,hsz,fun k hk hl=>hold k hk (fun e=>hl ⟨id,o,ho,hlive,e.symm⟩),fun k c et fz hc=>?_,fun i oi hi=>?_,?_⟩
  ·by_cases hk:k=μ id
   ·subst hk;exact hbs c et fz hc
   ·exact ⟨c,et,fz,by rw[hold k (Array.getElem?_eq_some_iff.1 hc).1 hk];exact hc,rfl⟩
  ·by_cases hi':i=id
   ·subst hi'
    rw[ho]at hi;cases hi
    exact ⟨o',by rw[hg,if_pos rfl],hlen,hf1,fun hl=>by rw[setμ_same];exact hsame hl,fun _=>hlive,hf3,fun hz=>absurd hz hnz⟩
   ·exact ⟨oi,by rw[hg,if_neg hi'];exact hi,Nat.le_refl _,rfl,fun _=>setμ_ne _ _ hi',fun h=>h,rfl,fun _=>rfl⟩
  ·rintro k ⟨i,oi,hi,hl,rfl⟩
   rw[hg]at hi;split at hi
   ·rename_i he;subst he;rw[setμ_same]
    rcases hb with rfl|hb
    ·exact .inl ⟨i,o,ho,hlive,rfl⟩
    ·exact .inr hb
   ·rename_i he;rw[setμ_ne _ _ he];exact .inl ⟨i,oi,hi,hl,rfl⟩
 refine ⟨⟨fun i oi hi hz=>?_,fun i oi hi hz=>?_,fun i i' o1 o2 h1 h2 hl heq=>?_,fun i oi hi=>?_,fun k hA=>Nat.lt_of_lt_of_le (hr.old k hA) hsz⟩,e⟩
 ·rw[hg]at hi
  split at hi
  ·cases hi;omega
  ·rename_i he
   refine Spec.keep (hr.spec i oi hi hz) ?_ (fun m om h1 h2 h3=>?_)
   ·rw[setμ_ne _ _ he]
    exact hold _ (hr.lt hi) (fun e'=>he (hr.inj id i o oi ho hi hlive e'.symm).symm)
   ·have hne:m≠id:=fun e=>by subst e;rw[ho]at h1;cases h1;exact hnz h2
    exact ⟨om,by rw[hg,if_neg hne];exact h1,h2,h3,setμ_ne _ _ hne⟩
 ·rw[hg]at hi
  split at hi
  ·rename_i he;subst he;cases hi
   rw[setμ_same,hf1,hf2,hf3];exact ⟨cur,cap,hcur,jU,hag,hcs,hcap,hle,hmax,fun k p hp=>⟨(hcell k p hp).1.ext e,(hcell k p hp).2⟩⟩
  ·rename_i he
   obtain ⟨cur',cap',hblk,h2,h3,h4,h5,h6,h7,h8⟩:=hr.obj i oi hi hz;rw[setμ_ne _ _ he];refine ⟨cur',cap',by rw[hold _ (hr.lt hi) (fun e'=>he (hr.inj id i o oi ho hi hlive e'.symm).symm)];exact hblk,h2,h3,h4,h5,h6,h7,fun k p hp=>⟨(h8 k p hp).1.ext e,(h8 k p hp).2⟩⟩
 ·rw[hg]at h1 h2
  by_cases e1:i=id
  ·by_cases e2:i'=id
   ·rw[e1,e2]
   ·rw[if_neg e2]at h2
    rw[e1,setμ_same,setμ_ne _ _ e2]at heq;rcases hb with hb|hb
    ·rw[hb]at heq;rw[e1];exact hr.inj id i' o o2 ho h2 hlive heq
    ·have:=hr.lt h2;omega
  ·rw[if_neg e1]at h1
   by_cases e2:i'=id
   ·rw[e2,setμ_same,setμ_ne _ _ e1]at heq
    rcases hb with hb|hb
    ·rw[hb]at heq;rw[e2];exact hr.inj i id o1 o h1 ho hl heq
    ·have:=hr.lt h1;omega
   ·rw[if_neg e2]at h2
    rw[setμ_ne _ _ e1,setμ_ne _ _ e2]at heq;exact hr.inj i i' o1 o2 h1 h2 hl heq
 ·rw[hg]at hi
  split at hi
  ·rename_i he;rw[he,setμ_same];exact hbA
  ·rename_i he;rw[setμ_ne _ _ he];exact hr.dis i oi hi
theorem HR.frz (hr:HR A h μ w) (ids:List Id):HR A (frz h ids) μ w/\Ext h μ w (frz h ids) μ w:=by
 have e:Ext h μ w (Vm.frz h ids) μ w:=by
  refine ⟨rfl,rfl,rfl,Nat.le_refl _,fun _ _ _=>rfl,fun _ c et fz hc=>⟨c,et,fz,hc,rfl⟩,fun i oi hi=>?_,?_⟩
  ·exact ⟨{ oi with live:=oi.live&&!(ids.contains i) },by rw[mJ,hi];rfl,Nat.le_refl _,rfl,fun _=>rfl,fun h=>by simp at h;exact h.1,rfl,fun _=>rfl⟩
  ·rintro k ⟨i,oi,hi,hl,rfl⟩
   rw[mJ]at hi;cases hh:hget h i with
   |none=>simp[hh]at hi
   |some o=>simp[hh]at hi;subst hi;simp at hl;exact .inl ⟨i,o,hh,hl.1,rfl⟩
 have back:∀i oi,hget (Vm.frz h ids) i=some oi->∃o,hget h i=some o/\oi={ o with live:=o.live&&!(ids.contains i) }:=by
  intro i oi hi;rw[mJ]at hi;cases hh:hget h i with
  |none=>simp[hh]at hi
  |some o=>simp[hh]at hi;exact ⟨o,rfl,by rw[<- hi];simp⟩
 refine ⟨⟨fun i oi hi hz=>?_,fun i oi hi hz=>?_,fun i i' o1 o2 h1 h2 hl heq=>?_,fun i oi hi=>?_,hr.old⟩,e⟩
 ·obtain ⟨o,ho,rfl⟩:=back i oi hi
  exact Spec.keep (o:={ o with live:=o.live&&!(ids.contains i) }) (hr.spec i o ho hz) rfl (fun m om h1 h2 h3=>⟨{ om with live:=om.live&&!(ids.contains m) },by rw[mJ,h1];rfl,h2,h3,rfl⟩)
 ·obtain ⟨o,ho,rfl⟩:=back i oi hi
  obtain ⟨cur',cap',hblk,h2,h3,h4,h5,h6,h7,h8⟩:=hr.obj i o ho hz;exact ⟨cur',cap',hblk,h2,h3,h4,h5,h6,h7,fun k p hp=>⟨(h8 k p hp).1.ext e,(h8 k p hp).2⟩⟩
 ·obtain ⟨o,ho,rfl⟩:=back i o1 h1
  obtain ⟨o',ho',rfl⟩:=back i' o2 h2;simp at hl;exact hr.inj i i' o o' ho ho' hl.1 heq
 ·obtain ⟨o,ho,rfl⟩:=back i oi hi
  exact hr.dis i o ho
theorem Rk (hr:HR A h μ w) {ids:List Id}{b:Nat} (hb:LL A (frz h ids) μ b) {id:Id} (hid:id∈ids) (hex:(hget h id).isSome):μ id≠b:=by
 intro he;obtain ⟨o,ho⟩:=Option.isSome_iff_exists.1 hex;rcases hb with hA|⟨i,oi,hi,hl,hμ⟩
 ·rw[<- he]at hA;exact hr.dis id o ho hA
 ·rw[mJ]at hi
  cases hh:hget h i with
  |none=>simp[hh]at hi
  |some o' =>
   simp[hh]at hi;subst hi;simp at hl
   have:i=id:=hr.inj i id o' o hh ho hl.1 (hμ.trans he.symm);subst this;exact hl.2 hid
theorem HR.newS (hr:HR A h μ w) (d:Nat) (o:Obj) (X:Go.Obj) (jU:o.esz=0) (hlen:o.len=0) (_hX:∀c et fz,X≠.cells c et fz)
  (hm:o.ag=true->∃kv:List (Int × Int),o.cs=kvC kv/\X=.map (eZ 0 kv).toArray kv.length)
  (hi:o.ag=false->∃(m:Id) (om:Obj) (last:Int) (fs:List Bool) (seen:Array Nat),o.cs=.mp m::.t (.int .i64 last)::flC fs/\hget h m=some om/\om.esz=0/\om.ag=true/\X=.mapIter (some (μ m)) fs.length seen fs.length/\(0<=last->∃sn,seen=Array.push sn last.toNat)/\∀i,seen.contains i=fs.getD i false) :
  HR A (hnew h d o) (setμ μ (hnext h d) w.heap.size) (w.alloc X)/\Ext h μ w (hnew h d o) (setμ μ (hnext h d) w.heap.size) (w.alloc X):=by
 have hpush:(w.alloc X).heap=w.heap.push X:=rfl;have hsz:w.heap.size<=(w.alloc X).heap.size:=by rw[hpush];simp
 have hold:∀k:Nat,k < w.heap.size->(w.alloc X).heap[k]?=w.heap[k]?:=fun k hk=>by rw[hpush];simp[Array.getElem?_push,Nat.ne_of_lt hk]
 have hcur:(w.alloc X).heap[w.heap.size]?=some X:=by rw[hpush];simp
 have hne:∀id o',hget h id=some o'->id≠hnext h d:=fun id o' ho e=>by rw[e,kL]at ho;cases ho
 have hbA:¬A w.heap.size:=fun hA=>by have:=hr.old _ hA;omega
 have e:Ext h μ w (hnew h d o) (setμ μ (hnext h d) w.heap.size) (w.alloc X):=by
  refine ⟨rfl,rfl,rfl,hsz,fun k hk _=>hold k hk,fun k c et fz hc=>⟨c,et,fz,by rw[hold k (Array.getElem?_eq_some_iff.1 hc).1];exact hc,rfl⟩,fun id o' ho=>?_,?_⟩
  ·exact ⟨o',by rw[dz,if_neg (hne id o' ho)];exact ho,Nat.le_refl _,rfl,fun _=>setμ_ne _ _ (hne id o' ho),fun hh=>hh,rfl,fun _=>rfl⟩
  ·rintro k ⟨id,o',ho,hl,rfl⟩
   rw[dz]at ho;split at ho
   ·rename_i he;subst he;rw[setμ_same];exact .inr (Nat.le_refl _)
   ·rename_i he;rw[setμ_ne _ _ he];exact .inl ⟨id,o',ho,hl,rfl⟩
 refine ⟨⟨fun id o' ho hz=>?_,fun id o' ho hz=>?_,fun id id' o1 o2 h1 h2 hl heq=>?_,fun id o' ho=>?_,fun k hA=>Nat.lt_of_lt_of_le (hr.old k hA) hsz⟩,e⟩
 ·rw[dz]at ho
  split at ho
  ·rename_i he;subst he;cases ho
   refine ⟨hlen,fun hag=>?_,fun hag=>?_⟩
   ·obtain ⟨kv,e1,e2⟩:=hm hag
    exact ⟨kv,e1,by rw[setμ_same,hcur,e2]⟩
   ·obtain ⟨m,om,last,fs,seen,e1,e2,e3,e4,e5,e6,e7⟩:=hi hag
    exact ⟨m,om,last,fs,seen,e1,by rw[dz,if_neg (hne m om e2)];exact e2,e3,e4,by rw[setμ_same,hcur,e5,setμ_ne _ _ (hne m om e2)],e6,e7⟩
  ·rename_i he
   exact Spec.keep (hr.spec id o' ho hz) (by rw[setμ_ne _ _ he];exact hold _ (hr.lt ho)) (fun m om h1 h2 h3=>⟨om,by rw[dz,if_neg (hne m om h1)];exact h1,h2,h3,setμ_ne _ _ (hne m om h1)⟩)
 ·rw[dz]at ho
  split at ho
  ·cases ho;exact absurd jU hz
  ·rename_i he
   obtain ⟨cur',cap',hblk,h2,h3,h4,h5,h6,h7,h8⟩:=hr.obj id o' ho hz;rw[setμ_ne _ _ he];exact ⟨cur',cap',by rw[hold _ (hr.lt ho)];exact hblk,h2,h3,h4,h5,h6,h7,fun k p hp=>⟨(h8 k p hp).1.ext e,(h8 k p hp).2⟩⟩
 ·rw[dz]at h1 h2
  by_cases e1:id=hnext h d
  ·by_cases e2:id'=hnext h d
   ·rw[e1,e2]
   ·rw[if_neg e2]at h2
    rw[e1,setμ_same,setμ_ne _ _ e2]at heq;have:=hr.lt h2;omega
  ·rw[if_neg e1]at h1
   by_cases e2:id'=hnext h d
   ·rw[e2,setμ_same,setμ_ne _ _ e1]at heq
    have:=hr.lt h1;omega
   ·rw[if_neg e2]at h2
    rw[setμ_ne _ _ e1,setμ_ne _ _ e2]at heq;exact hr.inj id id' o1 o2 h1 h2 hl heq
 ·rw[dz]at ho
  split at ho
  ·rename_i he;rw[he,setμ_same];exact hbA
  ·rename_i he;rw[setμ_ne _ _ he];exact hr.dis id o' ho
theorem HR.NH (hr:HR A h μ w) (id:Id) (o o':Obj) (X:Go.Obj) (ho:hget h id=some o) (hz0:o.esz=0) (hlive:o.live=true) (hf:o'.esz=0/\o'.len=0/\o'.ag=o.ag/\o'.live=true)
  (hw:w'.os=w.os/\w'.tape=w.tape/\w'.output=w.output) (hsz:w'.heap.size=w.heap.size) (hold:∀k:Nat,k≠μ id->w'.heap[k]?=w.heap[k]?) (hcur:w'.heap[μ id]?=some X)
  (hm:o.ag=true->∃kv:List (Int × Int),o'.cs=kvC kv/\X=.map (eZ 0 kv).toArray kv.length)
  (hi:o.ag=false->∃(m:Id) (om:Obj) (last:Int) (fs:List Bool) (seen:Array Nat),o'.cs=.mp m::.t (.int .i64 last)::flC fs/\hget h m=some om/\om.esz=0/\om.ag=true/\X=.mapIter (some (μ m)) fs.length seen fs.length/\(0<=last->∃sn,seen=Array.push sn last.toNat)/\∀i,seen.contains i=fs.getD i false) :
  HR A (hset h id o') μ w'/\Ext h μ w (hset h id o') μ w':=by
 obtain ⟨hf1,hf2,hf3,hf4⟩:=hf;have hl0:=hr.Ij ho hz0;have hg:∀i,hget (hset h id o') i=if i=id then some o' else hget h i:=fun i=>by rw[iR,ho];simp
 have hmk:∀m om,hget h m=some om->om.esz=0->om.ag=true->∃om',hget (hset h id o') m=some om'/\om'.esz=0/\om'.ag=true/\μ m=μ m:=fun m om h1 h2 h3=>by
  by_cases e:m=id
  ·subst e
   rw[ho]at h1;cases h1
   exact ⟨o',by rw[hg,if_pos rfl],hf1,hf3.trans h3,rfl⟩
  ·exact ⟨om,by rw[hg,if_neg e];exact h1,h2,h3,rfl⟩
 have hcell:∀c et fz,w.heap[μ id]?≠some (.cells c et fz):=fun c et fz hc=>hr.YO ho hc hz0
 have e:Ext h μ w (hset h id o') μ w':=by
  refine ⟨hw.1,hw.2.1,hw.2.2,Nat.le_of_eq hsz.symm,fun k hk hl=>hold k (fun e=>hl ⟨id,o,ho,hlive,e.symm⟩),fun k c et fz hc=>?_,fun i oi hi=>?_,?_⟩
  ·by_cases hk:k=μ id
   ·subst hk;exact absurd hc (hcell c et fz)
   ·exact ⟨c,et,fz,by rw[hold k hk];exact hc,rfl⟩
  ·by_cases hi':i=id
   ·subst hi'
    rw[ho]at hi;cases hi
    exact ⟨o',by rw[hg,if_pos rfl],by omega,hf1.trans hz0.symm,fun _=>rfl,fun _=>hlive,hf3,fun _=>by omega⟩
   ·exact ⟨oi,by rw[hg,if_neg hi'];exact hi,Nat.le_refl _,rfl,fun _=>rfl,fun h=>h,rfl,fun _=>rfl⟩
  ·rintro k ⟨i,oi,hi,hl,rfl⟩
   rw[hg]at hi;split at hi
   ·rename_i he;subst he;exact .inl ⟨i,o,ho,hlive,rfl⟩
   ·exact .inl ⟨i,oi,hi,hl,rfl⟩
 refine ⟨⟨fun i oi hi' hz=>?_,fun i oi hi' hz=>?_,fun i i' o1 o2 h1 h2 hl heq=>?_,fun i oi hi'=>?_,fun k hA=>by rw[hsz];exact hr.old k hA⟩,e⟩
 ·rw[hg]at hi'
  split at hi'
  ·rename_i he;subst he;cases hi'
   refine ⟨hf2,fun hag=>?_,fun hag=>?_⟩
   ·obtain ⟨kv,e1,e2⟩:=hm (hf3.symm.trans hag)
    exact ⟨kv,e1,by rw[hcur,e2]⟩
   ·obtain ⟨m,om,last,fs,seen,e1,e2,e3,e4,e5,e6,e7⟩:=hi (hf3.symm.trans hag)
    obtain ⟨om',g1,g2,g3,_⟩:=hmk m om e2 e3 e4;exact ⟨m,om',last,fs,seen,e1,g1,g2,g3,by rw[hcur,e5],e6,e7⟩
  ·rename_i he
   exact Spec.keep (hr.spec i oi hi' hz) (hold _ (fun e'=>he (hr.inj id i o oi ho hi' hlive e'.symm).symm)) hmk
 ·rw[hg]at hi'
  split at hi'
  ·cases hi';exact absurd hf1 hz
  ·rename_i he
   obtain ⟨cur',cap',hblk,h2,h3,h4,h5,h6,h7,h8⟩:=hr.obj i oi hi' hz;exact ⟨cur',cap',by rw[hold _ (fun e'=>he (hr.inj id i o oi ho hi' hlive e'.symm).symm)];exact hblk,h2,h3,h4,h5,h6,h7,fun k p hp=>⟨(h8 k p hp).1.ext e,(h8 k p hp).2⟩⟩
 ·rw[hg]at h1 h2
  by_cases e1:i=id
  ·by_cases e2:i'=id
   ·rw[e1,e2]
   ·rw[if_neg e2]at h2
    rw[e1];rw[e1]at heq
    exact hr.inj id i' o o2 ho h2 hlive heq
  ·rw[if_neg e1]at h1
   by_cases e2:i'=id
   ·rw[e2]at heq ⊢;exact hr.inj i id o1 o h1 ho hl heq
   ·rw[if_neg e2]at h2
    exact hr.inj i i' o1 o2 h1 h2 hl heq
 ·rw[hg]at hi'
  split at hi'
  ·rename_i he;rw[he];exact hr.dis id o ho
  ·exact hr.dis i oi hi'
theorem Ext.still (hr:HR A h μ w) (hh:w'.heap=w.heap) (hw:w'.os=w.os/\w'.tape=w.tape/\w'.output=w.output):HR A h μ w'/\Ext h μ w h μ w':=by
 have e:Ext h μ w h μ w':=⟨hw.1,hw.2.1,hw.2.2,by rw[hh];exact Nat.le_refl _,fun b _ _=>by rw[hh],fun b cur et fz hc=>⟨cur,et,fz,by rw[hh];exact hc,rfl⟩,
  fun _ o ho=>⟨o,ho,Nat.le_refl _,rfl,fun _=>rfl,id,rfl,fun _=>rfl⟩,fun _=>.inl⟩
 refine ⟨⟨fun id o ho hz=>Spec.keep (hr.spec id o ho hz) (by rw[hh]) (fun m om h1 h2 h3=>⟨om,h1,h2,h3,rfl⟩),fun id o ho hz=>?_,hr.inj,hr.dis,fun b hA=>by rw[hh];exact hr.old b hA⟩,e⟩;obtain ⟨cur,cap,hblk,h2,h3,h4,h5,h6,h7,h8⟩:=hr.obj id o ho hz;exact ⟨cur,cap,by rw[hh];exact hblk,h2,h3,h4,h5,h6,h7,fun k p hp=>⟨(h8 k p hp).1.ext e,(h8 k p hp).2⟩⟩
end
end Go.Vm
end
section
namespace Go.Vm
open Go
section
variable {P:Program}{t:TypeId}
theorem info_of_underlying {d:TypeDesc} (h:P.underlying t=some d):∃i,P.info? t=some i:=by
 unfold Program.underlying at h;cases hi:P.info? t with
 |none=>simp[hi]at h
 |some i=>exact ⟨i,rfl⟩
theorem gJ (w:World) (h:(P.info? t).isSome):(sizeOf t).run P w=.ok (P.cellsOf t) w:=by
 obtain ⟨i,hi⟩:=Option.isSome_iff_exists.1 h;simp[sizeOf,typeInfo,hi,Program.cellsOf]
theorem Kt {b:Bool} (h:bR P t=some b):∃d,P.underlying t=some d/\(match d with|.struct _|.array _ _=>true|_=>false)=b:=by
 unfold bR at h;cases hu:P.underlying t with
 |none=>simp[hu]at h
 |some d=>cases d<;>simp[hu]at h<;>exact ⟨_,rfl,by simp[h]⟩
theorem NI {b:Bool} (h:bR P t=some b):(P.info? t).isSome:=by
 obtain ⟨d,hd,_⟩:=Kt h;obtain ⟨i,hi⟩:=info_of_underlying hd;simp[hi]
theorem DT (w:World) {b:Bool} (h:bR P t=some b):(isAgg t).run P w=.ok b w:=by
 obtain ⟨d,hd,hb⟩:=Kt h;unfold isAgg;rw[Sem.run_bind,run_underlying hd w];cases d<;>simp_all
theorem kM {e:TypeId} (h:bg P t=some e):P.underlying t=some (.slice e)/\(P.info? e).isSome:=by
 unfold bg at h;cases hu:P.underlying t with
 |none=>simp[hu]at h
 |some d=>cases d<;>simp[hu]at h;obtain ⟨h1,rfl⟩:=h;exact ⟨rfl,h1⟩
theorem EN {i off:Nat}{ft:TypeId} (h:bU P t i=some (off,ft)):∃fs f,P.underlying t=some (.struct fs)/\fs[i]?=some f/\f.offset=off/\f.type=ft/\(P.info? ft).isSome/\P.cellsOf ft≠0:=by
 unfold bU at h;cases hu:P.underlying t with
 |none=>simp[hu]at h
 |some d =>
  cases d<;>simp[hu]at h
  rename_i fs;cases hf:fs[i]? with
  |none=>simp[hf]at h
  |some f=>simp[hf]at h;obtain ⟨⟨h1,h2⟩,rfl,rfl⟩:=h;exact ⟨fs,f,rfl,hf,rfl,rfl,h1,h2⟩
end
theorem Ku {w:World}{L:Nat->Prop}{v:Value}{x:Tr} (h:cvV v=some x):Reads w L x v:=by
 unfold cvV at h;split at h<;>simp at h<;>subst h
 ·exact .int _ _
 ·exact .bool _
 ·exact .str _
 ·exact .nil
 ·exact .uq
 ·exact .Ri
 ·exact .Rj
theorem YP {v:Value}{x:Tr} (h:cvV v=some x):v.oneCell'=true:=by
 unfold cvV at h;split at h<;>simp at h<;>rfl
theorem Rl:∀ {l:List Value}{r:List Tr},cvs l=some r->r.length=l.length/\∀(i:Nat) x,r[i]?=some x->∃v,l[i]?=some v/\cvV v=some x
 |[],r,h=>by simp[cvs]at h;subst h;exact ⟨rfl,fun i x hi=>by simp at hi⟩
 |v::l,r,h=>by
  simp only[cvs]at h;split at h
  ·rename_i x ts hx hts
   simp at h;subst h
   obtain ⟨h1,h2⟩:=Rl hts;refine ⟨by simp[h1],fun i y hi=>?_⟩;cases i with
   |zero=>simp at hi;subst hi;exact ⟨v,rfl,hx⟩
   |succ i=>simpa using h2 i y (by simpa using hi)
  ·cases h
section
variable {A:Nat->Prop}{h:Hp}{μ:Id->Nat}{w:World}{L:Nat->Prop}
theorem Aq {sl:Sl}{a:Act} (hs:∀t,VR h μ w L (sl t) (a.tmps.getD t undef)) (x:Operand):VR h μ w L (ev sl x) (a.eval x):=by
 cases x with
 |tmp t=>exact hs t
 |const v =>
  simp only[ev,Act.eval];cases hc:cvV v with
  |none=>exact .undef
  |some y=>exact .t (Ku hc)
 |global g=>exact .undef
 |func f=>exact .t (.fn (by simp) (fun i x hi=>by simp at hi))
theorem VR.one {p:PV}{v:Value} (hv:VR h μ w L p v) (h1:p.one=true):v.oneCell'=true:=by
 cases hv with
 |t hr=>cases hr<;>first|rfl|simp[PV.one]at h1
 |ro=>rfl
 |rf _ _ _ h1=>exact h1
 |ad _ _ _ h1=>exact h1
 |fn=>rfl
 |mp=>rfl
 |it=>rfl
 |_=>simp[PV.one]at h1
theorem VR.cells {p:PV}{v:Value} (hv:VR h μ w L p v) (h1:p.cells.all PV.one=true) :
  p.cells.length=v.cells.size/\∀(k:Nat) q,p.cells[k]?=some q->VR h μ w L q (v.cells.getD k Go.undef)/\(v.cells.getD k Go.undef).oneCell'=true:=by
 have single:p.cells=[p]->v.cells=#[v]->p.cells.length=v.cells.size/\∀(k:Nat) q,p.cells[k]?=some q->VR h μ w L q (v.cells.getD k Go.undef)/\(v.cells.getD k Go.undef).oneCell'=true:=by
  intro e1 e2;rw[e1,e2];refine ⟨rfl,fun k q hk=>?_⟩;cases k with
  |zero=>simp at hk;subst hk;rw[e1]at h1;exact ⟨hv,by simp at h1;exact hv.one h1⟩
  |succ k=>simp at hk
 cases hv with
 |@t x v hr =>
  cases hr with
  |@agg l vs hl hh =>
   refine ⟨by simp[PV.cells,Value.cells,hl],fun k q hk=>?_⟩;simp only[PV.cells]at hk h1;rw[List.getElem?_map]at hk;cases hx:l[k]? with
   |none=>simp[hx]at hk
   |some y =>
    simp[hx]at hk;subst hk
    have hy:PV.one (.t y)=true:=by
     rw[List.all_eq_true]at h1;exact h1 _ (List.mem_map.2 ⟨y,List.mem_of_getElem? hx,rfl⟩)
    have hv':VR h μ w L (.t y) (vs.getD k Go.undef):=.t (hh k y hx);exact ⟨hv',hv'.one hy⟩
  |tup=>simp[PV.cells,PV.one]at h1
  |_=>exact single rfl rfl
 |@agg l vs hl hh =>
  refine ⟨by simp[PV.cells,Value.cells,hl],fun k q hk=>?_⟩;simp only[PV.cells]at hk h1;have hy:PV.one q=true:=by
   rw[List.all_eq_true]at h1;exact h1 _ (List.mem_of_getElem? hk)
  exact ⟨hh k q hk,(hh k q hk).one hy⟩
 |tup=>simp[PV.cells,PV.one]at h1
 |skip=>simp[PV.cells,PV.one]at h1
 |undef=>simp[PV.cells,PV.one]at h1
 |rf ho hz hn h1' hv'=>exact single rfl (by cases v<;>first|rfl|(simp[Value.oneCell']at h1'))
 |ad ho hz hn h1' hv'=>exact single rfl (by cases v<;>first|rfl|(simp[Value.oneCell']at h1'))
 |_=>exact single rfl rfl
theorem kY:∀ {l:List PV}{ts:List Tr},trees l=some ts->l=ts.map .t
 |[],ts,hh=>by simp[trees]at hh;subst hh;rfl
 |p::r,ts,hh=>by
  cases p<;>simp[trees]at hh
  split at hh
  ·rename_i us hus
   simp at hh;subst hh
   simp[kY hus]
  ·cases hh
theorem VR.tree {x:Tr}{v:Value} (hv:VR h μ w L (.t x) v):Reads w L x v:=by cases hv;assumption
theorem VR.gV {l:List PV}{vs:Array Value} (hl:l.length=vs.size) (hr:∀(i:Nat) x,l[i]?=some x->VR h μ w L x (vs.getD i Go.undef)):VR h μ w L (gV l) (.agg vs):=by
 unfold Vm.gV;split
 ·rename_i ts hts
  have:=kY hts;subst this
  refine .t (.agg (by simpa using hl) fun i x hx=>(hr i (.t x) (by rw[List.getElem?_map,hx];rfl)).tree)
 ·exact .agg hl hr
theorem VR.lift {p:PV}{v:Value} (hv:VR h μ w L p v):VR h μ w L p.lift v:=by
 cases hv with
 |ro hs hcell hr=>exact .t (.ptr hs hcell hr)
 |t hr=>exact .t hr
 |rf ho hz hn h1 hv=>exact .rf ho hz hn h1 hv
 |ad ho hz hn h1 hv=>exact .ad ho hz hn h1 hv
 |mp ho hz hg=>exact .mp ho hz hg
 |it ho hz hg=>exact .it ho hz hg
 |agg hl hr=>exact .agg hl hr
 |tup hl hr=>exact .tup hl hr
 |fn hl hr=>exact .fn hl hr
 |skip=>exact .skip
 |undef=>exact .undef
theorem VR.C9 {f:FuncId}{l:List PV}{vs:Array Value} (hl:l.length=vs.size) (hr:∀(i:Nat) x,l[i]?=some x->VR h μ w L x (vs.getD i Go.undef)):VR h μ w L (C9 f l) (.func (.func f) #[] vs):=by
 unfold Vm.C9;split
 ·rename_i ts hts
  have hm:=kY hts;have hlen:ts.length=l.length:=by have:=congrArg List.length hm;simpa using this.symm
  refine .t (.fn (by rw[hlen];exact hl) fun i x hx=>?_);have h1:(l.map PV.lift)[i]?=some (.t x):=by rw[hm,List.getElem?_map,hx];rfl
  rw[List.getElem?_map]at h1;cases hp:l[i]? with
  |none=>rw[hp]at h1;cases h1
  |some p =>
   rw[hp]at h1;have h2:=(hr i p hp).lift;simp only[Option.map_some,Option.some.injEq]at h1;rw[h1]at h2;exact h2.tree
 ·exact .fn hl hr
end
def Good (A:Nat->Prop) (h:Hp) (μ:Id->Nat) (w:World) (r:Result Next) (v:PV) (h':Hp):Prop :=
 ∃nx v' w' μ',r=.ok nx w'/\(nx=.value v'\/(nx=.skip/\v'=undef))/\HR A h' μ' w'/\Ext h μ w h' μ' w'/\VR h' μ' w' (LL A h' μ') v v'
section
variable {P:Program}{A:Nat->Prop}{h:Hp}{μ:Id->Nat}{w:World}
theorem Good.quiet (hr:HR A h μ w) {v:PV}{v':Value} (hv:VR h μ w (LL A h μ) v v'):Good A h μ w (.ok (.value v') w) v h :=
 ⟨_,v',w,μ,rfl,.inl rfl,hr,Ext.refl h μ w,hv⟩
theorem add_lit (b o k:Nat):(⟨b,o,none⟩:Addr).add k=⟨b,o+k,none⟩:=by unfold Addr.add;split<;>simp_all
theorem add_add (a:Addr) (hs:a.spot=none) (i j:Nat):(a.add i).add j=a.add (i+j):=by
 obtain ⟨b,o,s⟩:=a;simp only at hs;subst hs
 rw[add_lit,add_lit,add_lit,Nat.add_assoc]
theorem Gy (a:Addr) (hs:a.spot=none) (i:Nat):(a.add i).spot=none:=by
 obtain ⟨b,o,s⟩:=a;simp only at hs;subst hs
 rw[add_lit]
theorem xS {t:TypeId} (a:Addr) (vals:List Value) (hag:bR P t=some true) (hl:vals.length=P.cellsOf t) (hc:∀(j:Nat) v,vals[j]?=some v->w.cell? (a.add j)=some v) :
  (loadVar t a).run P w=.ok (.agg vals.toArray) w:=by
 have:=run_loadCells_list (P:=P) w a vals hc;rw[hl]at this;simp[loadVar,DT w hag,gJ w (NI hag),this]
theorem wB {t:TypeId} (a:Addr) (v:Value) (hag:bR P t=some false) (hc:w.cell? a=some v):(loadVar t a).run P w=.ok v w:=by
 simp[loadVar,DT w hag,run_load,hc]
theorem dZ (l:List Value) (k:Nat):l.toArray.getD k Go.undef=l.getD k Go.undef:=by simp[Array.getD,List.getD];split<;>simp_all
theorem NJ {g off k:Nat}{cur:Array Value}{et:TypeId}{fz:Nat × Nat} (hb:w.heap[g]?=some (.cells cur et fz)) (hk:off+k < cur.size) :
  w.cell? ((⟨g,off,none⟩:Addr).add k)=some (cur.getD (off+k) Go.undef):=by
 rw[add_lit];simp[World.cell?,hb,hk,Array.getD]
theorem DU (hr:HR A h μ w) {t:TypeId}{p v:PV}{u:Value} (hp:VR h μ w (LL A h μ) p u) (hl:gB P t p h=some v) :
  ∃v',(Instr.loadAt t u).run P w=.ok v' w/\VR h μ w (LL A h μ) v v':=by
 unfold gB at hl;split at hl
 ·-- ro,agg
  rename_i cs hag;split at hl<;>simp at hl
  subst hl;rename_i hlen;cases hp with
  |@ro _ a vals hs hcell hrd =>
   refine ⟨.agg ((List.range (P.cellsOf t)).map vals).toArray,?_,?_⟩
   ·simp only[Instr.loadAt,Instr.sureAddr,Sem.run_bind,Sem.run_pure,Result.andThen_ok]
    refine xS a _ hag (by simp) fun j v hj=>?_
    rw[List.getElem?_map]at hj
    by_cases hjl:j < P.cellsOf t
    ·have hjc:j < cs.length:=by rw[List.length_take]at hlen;omega
     rw[List.getElem?_range hjl]at hj;simp at hj;subst hj
     exact (hcell j cs[j] (List.getElem?_eq_getElem hjc)).2.1
    ·simp[List.getElem?_eq_none (by simp;omega:(List.range (P.cellsOf t)).length<=j)]at hj
   ·refine .t (.agg (by simp only[List.size_toArray,List.length_map,List.length_range];exact hlen) fun i x hx=>?_)
    rw[List.getElem?_take]at hx;split at hx
    ·rename_i hi
     rw[dZ];simp only[List.getD,List.getElem?_map,List.getElem?_range hi,Option.map_some,Option.getD_some];exact hrd i x hx
    ·cases hx
 ·-- ro,one cell
  rename_i c cs hag;simp at hl;subst hl
  cases hp with
  |@ro _ a vals hs hcell hrd =>
   have h0:=hcell 0 c rfl;refine ⟨vals 0,?_,.t (hrd 0 c rfl)⟩;simp only[Instr.loadAt,Instr.sureAddr,Sem.run_bind,Sem.run_pure,Result.andThen_ok];exact wB a _ hag (by have:=h0.2.1;simpa[Addr.add] using this)
 ·-- ad,agg
  rename_i id n off hag;cases ho:hget h id with
  |none=>simp[ho]at hl
  |some o =>
   simp only[ho]at hl;split at hl<;>simp at hl
   subst hl;rename_i hcond;obtain ⟨hlen,hsz⟩:=hcond;cases hp with
   |@ad _ _ _ _ o' ho' hz hn h1 hv =>
    rw[ho]at ho';cases ho'
    have:=hv hlen;subst this
    obtain ⟨cur,cap,hblk,jU,agJ,hcl,hcs,hle,hmax,hcell⟩:=hr.obj id o ho hz;have hcur:o.cs.length<=cur.size:=by rw[hcl,hcs];exact Nat.mul_le_mul_right _ hle
    have hoff:P.cellsOf t=0\/off+P.cellsOf t<=o.cs.length:=by
     rw[List.length_take,List.length_drop]at hsz;omega
    refine ⟨.agg ((List.range (P.cellsOf t)).map fun k=>cur.getD (off+k) Go.undef).toArray,?_,?_⟩
    ·simp only[Instr.loadAt,Instr.sureAddr,Sem.run_bind,Sem.run_pure,Result.andThen_ok]
     refine xS _ _ hag (by simp) fun j v hj=>?_
     rw[List.getElem?_map]at hj
     by_cases hjl:j < P.cellsOf t
     ·rw[List.getElem?_range hjl]at hj
      simp only[Option.map_some,Option.some.injEq]at hj;subst hj
      exact NJ hblk (by omega)
     ·simp[List.getElem?_eq_none (by simp;omega:(List.range (P.cellsOf t)).length<=j)]at hj
    ·refine VR.gV (by simp only[List.size_toArray,List.length_map,List.length_range];exact hsz) fun i x hx=>?_
     rw[List.getElem?_take]at hx;split at hx
     ·rename_i hi
      rw[List.getElem?_drop]at hx;rw[dZ];simp only[List.getD,List.getElem?_map,List.getElem?_range hi,Option.map_some,Option.getD_some];exact (hcell _ x hx).1
     ·cases hx
 ·-- ad,one cell
  rename_i id n off hag;cases ho:hget h id with
  |none=>simp[ho]at hl
  |some o =>
   simp only[ho]at hl;split at hl<;>try (simp at hl;done)
   rename_i hlen;cases hp with
   |@ad _ _ _ _ o' ho' hz hn h1 hv =>
    rw[ho]at ho';cases ho'
    have:=hv hlen;subst this
    obtain ⟨cur,cap,hblk,jU,agJ,hcl,hcs,hle,hmax,hcell⟩:=hr.obj id o ho hz;have hcur:o.cs.length<=cur.size:=by rw[hcl,hcs];exact Nat.mul_le_mul_right _ hle
    have hoff:off < o.cs.length:=(List.getElem?_eq_some_iff.1 hl).1;refine ⟨cur.getD off Go.undef,?_,(hcell off v hl).1⟩;simp only[Instr.loadAt,Instr.sureAddr,Sem.run_bind,Sem.run_pure,Result.andThen_ok];have:=NJ (w:=w) (off:=off) (k:=0) hblk (by omega);rw[add_lit]at this;exact wB _ _ hag (by simpa using this)
 ·cases hl
theorem Ar {h:Hp}{id:Id}{n:Nat} (hv:valid h id n=true):∃o,hget h id=some o/\o.len=n:=by
 unfold valid at hv;cases ho:hget h id with
 |none=>simp[ho]at hv
 |some o=>simp[ho]at hv;exact ⟨o,rfl,hv⟩
theorem VR.EO {id:Id}{n off:Nat}{u:Value} (hp:VR h μ w (LL A h μ) (.ad id n off) u) (hv:valid h id n=true):u=.pointer (some ⟨μ id,off,none⟩):=by
 obtain ⟨o,ho,hl⟩:=Ar hv;cases hp with
 |ad ho' hz hn h1 hv=>rw[ho]at ho';cases ho';exact hv hl
theorem VR.J5 {id:Id}{n:Nat}{u:Value} (hp:VR h μ w (LL A h μ) (.rf id n) u) (hv:valid h id n=true):∃cap,u=.slice (some ⟨μ id,0,none⟩) n cap:=by
 obtain ⟨o,ho,hl⟩:=Ar hv;cases hp with
 |rf ho' hz hn h1 hv =>
  rw[ho]at ho';cases ho'
  obtain ⟨cap,_,_,_,h,_⟩:=hv hl;exact ⟨cap,h⟩
theorem JM {s:TypeId}{i:Nat}{p v:PV}{u:Value} (hp:VR h μ w (LL A h μ) p u) (hl:dV P s i p h=some v) :
  ∃v',(Instr.fieldAt s u i).run P w=.ok v' w/\VR h μ w (LL A h μ) v v':=by
 unfold dV at hl;split at hl<;>try (simp at hl;done)
 rename_i off ft hf;obtain ⟨fs,f,hu,hfs,rfl,rfl,hi,hz⟩:=EN hf;have hrun:∀a:Addr,(Instr.fieldAt s (.pointer (some a)) i).run P w=.ok (.pointer (some (a.add f.offset))) w:=fun a=>by
  simp[Instr.fieldAt,run_underlying hu,hfs,Instr.sureAddr,fieldPlace,gJ w hi,hz]
 split at hl<;>simp at hl
 ·subst hl
  cases hp with
  |@ro cs a vals hs hcell hrd =>
   refine ⟨_,hrun a,?_⟩;refine .ro (vals:=fun k=>vals (f.offset+k)) (Gy a hs _) (fun k x hk=>?_) (fun k x hk=>?_)
   ·rw[List.getElem?_drop]at hk
    rw[add_add a hs,block_add];exact hcell _ x hk
   ·rw[List.getElem?_drop]at hk
    exact hrd _ x hk
 ·obtain ⟨hv,rfl⟩:=hl
  rename_i id n o;have:=hp.EO hv;subst this
  refine ⟨_,hrun _,?_⟩;cases hp with
  |ad ho hz hn h1 hv' =>
   rw[add_lit];exact .ad ho hz hn rfl fun _=>rfl
theorem Wm {w:World}{L:Nat->Prop}{l:List Tr}{v:Value} (h:Reads w L (.agg l) v):∃vs,v=.agg vs/\l.length=vs.size/\∀(i:Nat) x,l[i]?=some x->Reads w L x (vs.getD i Go.undef):=by
 cases h with
 |agg hl hh=>exact ⟨_,rfl,hl,hh⟩
theorem getD_extract (vs:Array Value) (a b i:Nat) (hi:i < min b vs.size-a):(vs.extract a b).getD i Go.undef=vs.getD (a+i) Go.undef:=by
 have h2:a+i < vs.size:=by omega
 simp[Array.getD,h2,hi]
theorem Ck {ft:TypeId} (vs:Array Value) (off:Nat) {b:Bool} (hag:bR P ft=some b) (hoff:b=false->off < vs.size) :
  (part ft vs off).run P w=.ok (if b then .agg (vs.extract off (off+P.cellsOf ft)) else vs.getD off Go.undef) w:=by
 unfold part;rw[Sem.run_bind,DT w hag];cases b with
 |true=>simp[gJ w (NI hag)]
 |false =>
  have:=hoff rfl;simp[this,Array.getD]
theorem Rm {s:TypeId}{i:Nat}{p v:PV}{u:Value} (hp:VR h μ w (LL A h μ) p u) (hl:Ak P s i p=some v) :
  ∃v',(Instr.field s u i).run P w=.ok v' w/\VR h μ w (LL A h μ) v v':=by
 unfold Ak at hl;split at hl<;>try (simp at hl;done)
 rename_i off ft hf;obtain ⟨fs,f,hu,hfs,rfl,rfl,hi,hz⟩:=EN hf;have hrun:∀vs,(Instr.field s (.agg vs) i).run P w=(part f.type vs f.offset).run P w:=fun vs=>by
  simp[Instr.field,run_underlying hu,hfs,asAgg]
 split at hl
 ·rename_i l hag
  simp at hl;subst hl
  obtain ⟨vs,rfl,hsz,hh⟩:=Wm hp.tree;refine ⟨_,(hrun vs).trans (Ck vs _ hag (by simp)),?_⟩;simp only[if_true];refine .t (.agg (by simp[List.length_take,List.length_drop,hsz];omega) fun k x hk=>?_);rw[List.getElem?_take]at hk;split at hk
  ·rw[List.getElem?_drop]at hk
   have:=(List.getElem?_eq_some_iff.1 hk).1;rw[getD_extract _ _ _ _ (by omega)];exact hh _ x hk
  ·cases hk
 ·rename_i l hag
  split at hl<;>simp at hl
  rename_i x hx;subst hl;obtain ⟨vs,rfl,hsz,hh⟩:=Wm hp.tree;have:=(List.getElem?_eq_some_iff.1 hx).1;refine ⟨_,(hrun vs).trans (Ck vs _ hag (fun _=>by omega)),?_⟩;simp only[Bool.false_eq_true,if_false];exact .t (hh _ x hx)
 ·rename_i l hag
  simp at hl;subst hl
  cases hp with
  |@agg _ vs hsz hh =>
   refine ⟨_,(hrun vs).trans (Ck vs _ hag (by simp)),?_⟩;simp only[if_true];refine VR.gV (by simp[List.length_take,List.length_drop,hsz];omega) fun k x hk=>?_
   rw[List.getElem?_take]at hk;split at hk
   ·rw[List.getElem?_drop]at hk
    have:=(List.getElem?_eq_some_iff.1 hk).1;rw[getD_extract _ _ _ _ (by omega)];exact hh _ x hk
   ·cases hk
 ·rename_i l hag
  cases hp with
  |@agg _ vs hsz hh =>
   have:=(List.getElem?_eq_some_iff.1 hl).1;refine ⟨_,(hrun vs).trans (Ck vs _ hag (fun _=>by omega)),?_⟩;simp only[Bool.false_eq_true,if_false];exact hh _ v hl
 ·cases hl
theorem flat_get (l:List Tr) (esz:Nat) (he:∀x∈l,x.cells.length=esz):∀(i:Nat) y,l[i]?=some y->∀k x,y.cells[k]?=some x->(flat l)[i*esz+k]?=some x:=by
 induction l with
 |nil=>intro i y hi;simp at hi
 |cons z r ih =>
  intro i y hi k x hk;have hz:z.cells.length=esz:=he z (by simp);simp only[flat,List.flatMap_cons];cases i with
  |zero =>
   simp at hi;subst hi
   rw[Nat.zero_mul,Nat.zero_add,List.getElem?_append_left (List.getElem?_eq_some_iff.1 hk).1];exact hk
  |succ i =>
   have:=ih (fun x hx=>he x (by simp[hx])) i y (by simpa using hi) k x hk;rw[List.getElem?_append_right (by rw[hz,Nat.succ_mul];omega)];rw[hz,Nat.succ_mul,show i*esz+esz+k-esz=i*esz+k by omega];exact this
theorem yZ {w:World}{L:Nat->Prop}{nn:Bool}{l:List Tr}{v:Value} (h:Reads w L (.sl nn l) v) :
  (nn=false/\l=[]/\v=.slice none 0 0)\/(nn=true/\∃(a:Addr) (cap esz:Nat) (vals:Nat->Value),v=.slice (some a) l.length cap/\(flat l≠[]->a.spot=none)/\l.length<=cap/\cap<=maxLen/\(∀x∈l,x.cells.length=esz) /\
   (∀(k:Nat) x,(flat l)[k]?=some x->¬L a.block/\w.cell? (a.add k)=some (vals k)/\(vals k).oneCell'=true)/\∀(k:Nat) x,(flat l)[k]?=some x->Reads w L x (vals k)):=by
 cases h with
 |nil=>exact .inl ⟨rfl,rfl,rfl⟩
 |@sl _ a cap esz vals hs hc hm he hcell hh=>exact .inr ⟨rfl,a,cap,esz,vals,rfl,hs,hc,hm,he,hcell,hh⟩
theorem jf {w:World}{L:Nat->Prop}{k:IntKind}{n:Int}{v:Value} (h:Reads w L (.int k n) v):v=.int k n:=by cases h;rfl
theorem xU {w:World}{L:Nat->Prop}{b:Bool}{v:Value} (h:Reads w L (.bool b) v):v=.bool b:=by cases h;rfl
theorem EP {w:World}{L:Nat->Prop}{b:ByteArray}{v:Value} (h:Reads w L (.str b) v):v=.string b:=by cases h;rfl
theorem JN {t:TypeId}{p q v:PV}{u i:Value} (hp:VR h μ w (LL A h μ) p u) (hq:VR h μ w (LL A h μ) q i) (hl:bP P t p q h=some v) :
  ∃v',(Instr.indexAt t u i).run P w=.ok v' w/\VR h μ w (LL A h μ) v v':=by
 unfold bP at hl;split at hl<;>try (simp at hl;done)
 rename_i e he;obtain ⟨hu,hi⟩:=kM he;have hrun:∀(a:Addr) (len cap:Nat) (k:IntKind) (n:Int),0<=n->n.toNat < len->(Instr.indexAt t (.slice (some a) len cap) (.int k n)).run P w=.ok (.pointer (some (a.add (n.toNat*P.cellsOf e)))) w:=by
  intro a len cap k n h0 h1;have h2:n < (len:Int):=by omega
  simp[Instr.indexAt,asIntOf,run_underlying hu,h0,h2,gJ w hi]
 split at hl
 ·rename_i nn l k n
  have:=jf hq.tree;subst this
  split at hl<;>try (simp at hl;done)
  rename_i h0;split at hl<;>try (simp at hl;done)
  rename_i y hy;split at hl<;>simp at hl
  rename_i hsz0;obtain ⟨hsz,ajN⟩:=hsz0;subst hl;have hlt:=(List.getElem?_eq_some_iff.1 hy).1;rcases yZ hp.tree with ⟨_,rfl,_⟩|⟨_,a,cap,esz,vals,rfl,hs0,hc,hm,jU,hcell,hh⟩
  ·simp at hy
  have hs:a.spot=none:=hs0 (by
   intro e0;have hyc:y.cells≠[]:=by intro e1;rw[e1]at hsz;simp at hsz;omega
   obtain ⟨z,hz⟩:=List.exists_mem_of_ne_nil _ hyc;have:z∈flat l:=List.mem_flatMap.2 ⟨y,List.mem_of_getElem? hy,hz⟩;rw[e0]at this;cases this)
  ·refine ⟨_,hrun a _ _ _ _ h0 hlt,?_⟩
   have hye:esz=P.cellsOf e:=by rw[<- hsz];exact (jU y (List.mem_of_getElem? hy)).symm
   refine .ro (vals:=fun j=>vals (n.toNat*P.cellsOf e+j)) (Gy a hs _) (fun j x hj=>?_) (fun j x hj=>?_)
   ·have:=flat_get l esz jU _ y hy j x hj
    rw[hye]at this;rw[add_add a hs,block_add];exact hcell _ x this
   ·have:=flat_get l esz jU _ y hy j x hj
    rw[hye]at this;exact hh _ x this
 ·rename_i id m k n
  have:=jf hq.tree;subst this
  cases ho:hget h id with
  |none=>simp[ho]at hl
  |some o =>
   simp only[ho]at hl;split at hl<;>simp at hl
   subst hl;rename_i hc;obtain ⟨hlen,jU,h0,hlt⟩:=hc;cases hp with
   |rf ho' hz hn h1 hv =>
    rw[ho]at ho';cases ho'
    obtain ⟨cap,_,_,_,rfl,_⟩:=hv hlen;refine ⟨_,hrun _ _ _ _ _ h0 hlt,?_⟩;rw[add_lit,<- jU,Nat.zero_add];exact .ad ho hz (by omega) rfl fun _=>rfl
 ·cases hl
end
end Go.Vm
end
section
namespace Go.Vm
open Go
section
variable {P:Program}{A:Nat->Prop}{h:Hp}{μ:Id->Nat}{w:World}
theorem Rn {k:IntKind}{op:BinOp}{a b:Int}{v:PV} (hl:arith k op a b=some v) {xt:TypeId}{x y:Operand} (hs:op≠.shl/\op≠.shr) :
  ∃v',(do eqGuard op xt x y (.int k a) (.int k b);binOp op xt (.int k a) (.int k b):Sem Value).run P w=.ok v' w/\∀(h:Hp) μ L,VR h μ w L v v':=by
 cases op<;>simp only[arith]at hl
 case quo =>
  split at hl<;>simp at hl
  rename_i hb;subst hl
  exact ⟨.int k (k.wrap (a.tdiv b)),by simp[eqGuard,binOp,Op.intDiv,hb],fun h μ L=>.t (.int _ _)⟩
 case rem =>
  split at hl<;>simp at hl
  rename_i hb;subst hl
  exact ⟨.int k (a.tmod b),by simp[eqGuard,binOp,Op.intDiv,hb],fun h μ L=>.t (.int _ _)⟩
 case add=>cases hl;exact ⟨.int k (k.wrap (a+b)),by simp[eqGuard,binOp,Op.intArith],fun h μ L=>.t (.int _ _)⟩
 case sub=>cases hl;exact ⟨.int k (k.wrap (a-b)),by simp[eqGuard,binOp,Op.intArith],fun h μ L=>.t (.int _ _)⟩
 case mul=>cases hl;exact ⟨.int k (k.wrap (a*b)),by simp[eqGuard,binOp,Op.intArith],fun h μ L=>.t (.int _ _)⟩
 case and=>cases hl;exact ⟨_,by simp[eqGuard,binOp,Op.intBits],fun h μ L=>.t (.int _ _)⟩
 case or=>cases hl;exact ⟨_,by simp[eqGuard,binOp,Op.intBits],fun h μ L=>.t (.int _ _)⟩
 case xor=>cases hl;exact ⟨_,by simp[eqGuard,binOp,Op.intBits],fun h μ L=>.t (.int _ _)⟩
 case andNot=>cases hl;exact ⟨_,by simp[eqGuard,binOp,Op.intBits],fun h μ L=>.t (.int _ _)⟩
 case eql=>cases hl;exact ⟨.bool (a==b),by simp[eqGuard,binOp,Op.intCmp],fun h μ L=>.t (.bool _)⟩
 case neq=>cases hl;exact ⟨.bool (a != b),by simp[eqGuard,binOp,Op.intCmp],fun h μ L=>.t (.bool _)⟩
 case lss=>cases hl;exact ⟨.bool (decide (a < b)),by simp[eqGuard,binOp,Op.intCmp],fun h μ L=>.t (.bool _)⟩
 case leq=>cases hl;exact ⟨.bool (decide (a<=b)),by simp[eqGuard,binOp,Op.intCmp],fun h μ L=>.t (.bool _)⟩
 case gtr=>cases hl;exact ⟨.bool (decide (a > b)),by simp[eqGuard,binOp,Op.intCmp],fun h μ L=>.t (.bool _)⟩
 case geq=>cases hl;exact ⟨.bool (decide (a>=b)),by simp[eqGuard,binOp,Op.intCmp],fun h μ L=>.t (.bool _)⟩
 all_goals (cases hl)
theorem Ik {k k':IntKind}{left:Bool}{a b:Int}{v:PV} (hl:xO k left a b=some v) {xt:TypeId}{x y:Operand} :
  ∃v',(do eqGuard (if left then .shl else .shr) xt x y (.int k a) (.int k' b);binOp (if left then .shl else .shr) xt (.int k a) (.int k' b):Sem Value).run P w=.ok v' w/\∀(h:Hp) μ L,VR h μ w L v v':=by
 unfold xO at hl;split at hl<;>try (simp at hl;done)
 rename_i hb;cases left<;>simp at hl<;>subst hl
 ·exact ⟨_,by simp[eqGuard,binOp,Op.shift,hb],fun h μ L=>.t (.int _ _)⟩
 ·exact ⟨_,by simp[eqGuard,binOp,Op.shift,hb],fun h μ L=>.t (.int _ _)⟩
theorem Xu {op:BinOp}{xt:TypeId}{p q v:PV}{u u':Value} (hp:VR h μ w (LL A h μ) p u) (hq:VR h μ w (LL A h μ) q u') (hl:cK P h op xt p q=some v) {x y:Operand} :
  ∃v',(do eqGuard op xt x y u u';binOp op xt u u':Sem Value).run P w=.ok v' w/\VR h μ w (LL A h μ) v v':=by
 unfold cK at hl;split at hl
 ·rename_i k a k' b
  have:=jf hp.tree;subst this
  have:=jf hq.tree;subst this
  have go:∀op:BinOp,op≠.shl/\op≠.shr->(if k=k' then arith k op a b else none)=some v->∃v',(do eqGuard op xt x y (.int k a) (.int k' b);binOp op xt (.int k a) (.int k' b):Sem Value).run P w=.ok v' w/\VR h μ w (LL A h μ) v v':=by
   intro op hs hl2
   by_cases hk:k=k'
   case neg=>rw[if_neg hk]at hl2;cases hl2
   rw[if_pos hk]at hl2;obtain ⟨v',h1,h2⟩:=Rn (P:=P) (w:=w) hl2 (xt:=xt) (x:=x) (y:=y) hs;exact ⟨v',by rw[<- hk];exact h1,h2 _ _ _⟩
  split at hl
  ·obtain ⟨v',h1,h2⟩:=Ik (P:=P) (w:=w) (k':=k') hl (xt:=xt) (x:=x) (y:=y)
   exact ⟨v',h1,h2 _ _ _⟩
  ·obtain ⟨v',h1,h2⟩:=Ik (P:=P) (w:=w) (k':=k') hl (xt:=xt) (x:=x) (y:=y)
   exact ⟨v',h1,h2 _ _ _⟩
  ·rename_i h1 h2
   exact go op ⟨h1,h2⟩ hl
 ·rename_i a b
  have:=xU hp.tree;subst this
  have:=xU hq.tree;subst this
  split at hl<;>try (simp at hl;done)
  rename_i hb;have hu:P.underlying xt=some .bool:=by
   unfold Aj at hb;split at hb<;>first|assumption|(simp at hb)
  have he:(Op.equal xt (.bool a) (.bool b)).run P w=.ok (a==b) w:=by
   unfold Op.equal Op.maxDepth Op.equalIn;simp[run_underlying hu]
  split at hl<;>simp at hl<;>subst hl
  ·exact ⟨.bool (a==b),by simp[eqGuard,binOp,he],.t (.bool _)⟩
  ·refine ⟨.bool (a != b),by simp[eqGuard,binOp,he,bne],.t (.bool _)⟩
 ·rename_i a b
  have:=EP hp.tree;subst this
  have:=EP hq.tree;subst this
  split at hl<;>simp at hl
  ·obtain ⟨hb,rfl⟩:=hl
   have hm:IntKind.i64.max=9223372036854775807:=rfl;exact ⟨.string (a++b),by
    simp[eqGuard,binOp,Op.stringOp];omega,.t (.str _)⟩
  all_goals (subst hl;refine ⟨.bool _,?_,.t (.bool _)⟩;simp[eqGuard,binOp,Op.stringOp])
 ·split at hl<;>try (simp at hl;done)
  rename_i e b he hb;obtain ⟨hu,_⟩:=kM he;have hq':u'=.slice none 0 0:=by
   rcases yZ hq.tree with ⟨_,_,rfl⟩|⟨h,_⟩
   ·rfl
   ·cases h
  subst hq';have hp':∃a len cap,u=.slice a len cap/\a.isNone=b:=by
   unfold nk at hb;split at hb<;>simp at hb
   ·rcases yZ hp.tree with ⟨rfl,_,rfl⟩|⟨rfl,a,cap,_,_,rfl,_⟩
    ·exact ⟨none,0,0,rfl,by simpa using hb⟩
    ·exact ⟨some a,_,_,rfl,by simpa using hb⟩
   ·obtain ⟨hv,rfl⟩:=hb
    obtain ⟨cap,rfl⟩:=hp.J5 hv;exact ⟨_,_,_,rfl,rfl⟩
  obtain ⟨a,len,cap,rfl,rfl⟩:=hp';have he:=run_equal_slice_nil (P:=P) w xt e a len cap hu;split at hl<;>simp at hl<;>subst hl
  ·exact ⟨.bool a.isNone,by simp[eqGuard,binOp,he],.t (.bool _)⟩
  ·refine ⟨.bool (!a.isNone),by simp[eqGuard,binOp,he],?_⟩
   have:(!a.isNone)=a.isSome:=by cases a<;>rfl
   first|exact .t (.bool _)|(rw[this];exact .t (.bool _))
 ·cases hl
theorem YQ {op:UnOp}{p v:PV}{u:Value} (hp:VR h μ w (LL A h μ) p u) (hl:Ig op p=some v) :
  ∃v',(Op.unary op u).run P w=.ok v' w/\VR h μ w (LL A h μ) v v':=by
 unfold Ig at hl;split at hl<;>simp at hl<;>subst hl
 ·have:=jf hp.tree;subst this
  exact ⟨_,by simp[Op.unary,Op.intArith],.t (.int _ _)⟩
 ·have:=xU hp.tree;subst this
  exact ⟨_,by simp[Op.unary],.t (.bool _)⟩
 ·have:=jf hp.tree;subst this
  exact ⟨_,by simp[Op.unary,Op.intBits],.t (.int _ _)⟩
theorem DV {t:TypeId}{k:IntKind} (hk:uw P t=some k):P.underlying t=some (.int k):=by
 unfold uw at hk;split at hk<;>simp at hk
 subst hk;assumption
theorem Uo {src dst:TypeId}{p v:PV}{u:Value} (hp:VR h μ w (LL A h μ) p u) (hl:Ci P dst src p=some v) :
  ∃v',(convert src dst u).run P w=.ok v' w/\VR h μ w (LL A h μ) v v':=by
 unfold Ci at hl;split at hl<;>simp at hl
 subst hl;rename_i ks k kk n hs hd;have:=jf hp.tree;subst this
 exact ⟨_,by simp[convert,run_underlying (DV hs),run_underlying (DV hd),Conv.intToInt],.t (.int _ _)⟩
theorem DW {t:TypeId} (hk:fT P t=true):P.underlying t=some .string:=by
 unfold fT at hk;split at hk<;>first|assumption|(simp at hk)
theorem Ro {t:TypeId}{p q v:PV}{u i:Value} (hp:VR h μ w (LL A h μ) p u) (hq:VR h μ w (LL A h μ) q i) (hl:Kn P t p q=some v) :
  ∃v',(Instr.index t u i).run P w=.ok v' w/\VR h μ w (LL A h μ) v v':=by
 unfold Kn at hl;split at hl<;>try (simp at hl;done)
 rename_i s k n;split at hl<;>try (simp at hl;done)
 rename_i hc;split at hl<;>simp at hl
 subst hl;rename_i b hb;have:=EP hp.tree;subst this
 have:=jf hq.tree;subst this
 exact ⟨_,by simp[Instr.index,asIntOf,run_underlying (DW hc.1),hc.2,hb],.t (.int _ _)⟩
theorem Il (l vs:List PV) (off:Nat) (ho:off+vs.length<=l.length) (k:Nat) :
  (splice l off vs)[k]?=if k < off then l[k]? else if k < off+vs.length then vs[k-off]? else l[k]?:=by
 unfold splice;have htl:(l.take off).length=off:=by rw[List.length_take];omega
 split
 ·rename_i hk
  rw[List.append_assoc,List.getElem?_append_left (by rw[htl];exact hk),List.getElem?_take,if_pos hk]
 ·rename_i hk
  split
  ·rename_i hk2
   rw[List.append_assoc,List.getElem?_append_right (by rw[htl];omega),htl,List.getElem?_append_left (by omega)]
  ·rename_i hk2
   rw[List.append_assoc,List.getElem?_append_right (by rw[htl];omega),htl,List.getElem?_append_right (by omega),List.getElem?_drop];congr 1;omega
theorem qo (l vs:List PV) (off:Nat) (ho:off+vs.length<=l.length):(splice l off vs).length=l.length:=by
 simp[splice];omega
theorem Rp (hr:HR A h μ w) {t:TypeId}{p q:PV}{u x:Value}{h':Hp} (hp:VR h μ w (LL A h μ) p u) (hq:VR h μ w (LL A h μ) q x) (hl:lH P t p q h=some h') :
  ∃w' μ',(Instr.storeAt t u x).run P w=.ok () w'/\HR A h' μ' w'/\Ext h μ w h' μ' w':=by
 unfold lH at hl;split at hl<;>try (simp at hl;done)
 rename_i id n off;cases ho:hget h id with
 |none=>simp[ho]at hl
 |some o =>
  simp only[ho]at hl;split at hl<;>simp at hl
  subst hl;rename_i hc;obtain ⟨hlen,hlive,hi,hsz,hoff,hone⟩:=hc;have hu:u=.pointer (some ⟨μ id,off,none⟩):=hp.EO (by simp[valid,ho,hlen]);subst hu;obtain ⟨hcl,hcell⟩:=hq.cells hone;have hnz:o.esz≠0:=by
   cases hp with
   |ad ho' hz _ _ _=>rw[ho]at ho';cases ho';exact hz
  obtain ⟨cur,cap,hblk,jU,hag,hcs,hcur,hle,hmax,hcells⟩:=hr.obj id o ho hnz;have YR:o.cs.length<=cur.size:=by rw[hcs,hcur];exact Nat.mul_le_mul_right _ hle
  have h1:∀v∈x.cells.toList,v.oneCell'=true:=by
   intro v hv;obtain ⟨k,hk,rfl⟩:=List.mem_iff_getElem.1 hv;have hk':k < q.cells.length:=by rw[hcl];simpa using hk
   have:=(hcell k q.cells[k] (List.getElem?_eq_getElem hk')).2;have hkk:k < x.cells.size:=by simpa using hk
   simpa[Array.getD,hkk] using this
  have hst:=run_storeCells_at (P:=P) (μ id) off o.elem x.cells.toList 0 cur w hblk (by simp;omega) h1;simp only[Nat.add_zero]at hst;refine ⟨w.setRow (μ id) (cur.toList.take off++x.cells.toList++cur.toList.drop (off+x.cells.toList.length)).toArray,setμ μ id (μ id),?_,?_⟩
  ·simp only[Instr.storeAt,Instr.sureAddr,storeVar,Sem.run_bind,Sem.run_pure,Result.andThen_ok,gJ w hi]
   rw[if_neg (by rw[<- hsz];simp[hcl])];exact hst
  refine HR.set hr id o { o with cs:=splice o.cs off q.cells } (μ id) (cur.toList.take off++x.cells.toList++cur.toList.drop (off+x.cells.toList.length)).toArray cap ho hnz hlive ⟨rfl,rfl,rfl⟩ (by simp) (fun k _ hk=>setRow_other w (μ id) k _ hk)
   (fun c et fz hc=>⟨_,_,_,setRow_heap w (μ id) cur _ o.elem (0,0) hblk,by
    rw[hblk]at hc;cases hc
    simp;omega⟩) (.inl rfl) (setRow_heap w (μ id) cur _ o.elem (0,0) hblk) (by rw[qo _ _ _ hoff];exact hcs) (by rw[<- hcur];simp;omega) hle hmax (Nat.le_refl _) (fun _=>rfl) ⟨rfl,rfl,rfl,hlive⟩ ?_
  intro k p hk;rw[Il _ _ _ hoff]at hk;have hget:∀j,j < cur.size->(cur.toList.take off++x.cells.toList++cur.toList.drop (off+x.cells.toList.length)).toArray.getD j Go.undef=if j < off then cur.getD j Go.undef else if j < off+q.cells.length then x.cells.getD (j-off) Go.undef else cur.getD j Go.undef:=by
   intro j hj;have htl:(cur.toList.take off).length=off:=by rw[List.length_take];simp;omega
   rw[dZ];simp only[List.getD,Array.getD];split
   ·rename_i hk
    rw[List.append_assoc,List.getElem?_append_left (by rw[htl];exact hk),List.getElem?_take,if_pos hk];simp[hj]
   ·rename_i hk
    split
    ·rename_i hk2
     rw[List.append_assoc,List.getElem?_append_right (by rw[htl];omega),htl,List.getElem?_append_left (by simp;omega)];have:j-off < x.cells.size:=by omega
     simp[this]
    ·rename_i hk2
     rw[List.append_assoc,List.getElem?_append_right (by rw[htl];omega),htl,List.getElem?_append_right (by simp;omega),List.getElem?_drop];have e:off+x.cells.toList.length+(j-off-x.cells.toList.length)=j:=by simp;omega
     rw[e];simp[hj]
  split at hk
  ·have:=(List.getElem?_eq_some_iff.1 hk).1
   rw[hget k (by omega),if_pos (by assumption)];exact hcells k p hk
  ·split at hk
   ·rename_i a b
    rw[hget k (by omega),if_neg a,if_pos b];exact hcell _ p hk
   ·rename_i a b
    have:=(List.getElem?_eq_some_iff.1 hk).1;rw[hget k (by omega),if_neg a,if_neg b];exact hcells k p hk
end
end Go.Vm
end
section
namespace Go.Vm
open Go
section
variable {P:Program}{A:Nat->Prop}{h:Hp}{μ:Id->Nat}{w:World}
def Cells (h:Hp) (μ:Id->Nat) (w:World) (L:Nat->Prop) (cs:List PV) (vs:Array Value):Prop :=
 cs.length<=vs.size/\∀(k:Nat) p,cs[k]?=some p->VR h μ w L p (vs.getD k Go.undef)/\(vs.getD k Go.undef).oneCell'=true
theorem pK {t:TypeId}{z:List Tr} (hz:aW P t=some z) (L:Nat->Prop):∃i v,P.info? t=some i/\i.zero=some v/\v.cells.size=z.length/\Cells h μ w L (z.map .t) v.cells:=by
 unfold aW at hz;cases hi:P.info? t with
 |none=>simp[hi]at hz
 |some i =>
  cases hv:i.zero with
  |none=>simp[hi,hv]at hz
  |some v =>
   simp[hi,hv]at hz;obtain ⟨h1,h2⟩:=Rl hz;refine ⟨i,v,rfl,hv,by simpa using h1.symm,by simp[h1],fun k p hk=>?_⟩;rw[List.getElem?_map]at hk;cases hx:z[k]? with
   |none=>simp[hx]at hk
   |some x =>
    simp[hx]at hk;subst hk
    obtain ⟨u,hu,hc⟩:=h2 k x hx;have:v.cells.getD k Go.undef=u:=by
     have hk:k < v.cells.size:=by
      have:=(List.getElem?_eq_some_iff.1 hu).1;simpa using this
     simp at hu;simp[Array.getD,hk];rw[Array.getElem?_eq_getElem hk]at hu;exact Option.some.inj hu
    rw[this];exact ⟨.t (Ku hc),YP hc⟩
theorem Xv (vs:List Value) (off:Nat):∀(j:Nat) (cells:Array Value),off+j+vs.length<=cells.size ->
  let r:=(vs.zipIdx j).foldl (fun cs (c,j)=>cs.setIfInBounds (off+j) c) cells
  r.size=cells.size/\∀k,r[k]?=if off+j<=k/\k < off+j+vs.length then vs[k-(off+j)]? else cells[k]?:=by
 induction vs with
 |nil=>intro j cells _;refine ⟨rfl,fun k=>?_⟩;simp;omega
 |cons v r ih =>
  intro j cells hl;simp only[List.length_cons]at hl;obtain ⟨h1,h2⟩:=ih (j+1) (cells.setIfInBounds (off+j) v) (by simp;omega);refine ⟨by simpa using h1,fun k=>?_⟩;have:=h2 k;simp only[List.zipIdx_cons,List.foldl_cons]at this ⊢;rw[this];simp only[List.length_cons]
  by_cases hk:k=off+j
  ·subst hk
   rw[if_neg (by omega),if_pos (by omega)];have:off+j < cells.size:=by omega
   simp[this]
  ·by_cases hin:off+(j+1)<=k/\k < off+(j+1)+r.length
   ·rw[if_pos hin,if_pos (by omega)]
    rw[show k-(off+j)=(k-(off+(j+1)))+1 by omega];simp
   ·rw[if_neg hin,if_neg (by omega)]
    rw[Array.getElem?_setIfInBounds_ne (by omega)]
theorem Kv {L:Nat->Prop}{place:Nat->Option (Nat × Nat)}:∀(parts:List (Nat × PV)) (gY:List (Nat × Value)) (cs:List PV) (vs:Array Value) (r:List PV),
  parts.length=gY.length->(∀(i:Nat) x y,parts[i]?=some x->gY[i]?=some y->x.1=y.1/\VR h μ w L x.2 y.2)->cs.length=vs.size->Cells h μ w L cs vs->jr place cs parts=some r ->
  ∃r',Instr.fill place vs gY=some r'/\r.length=r'.size/\Cells h μ w L r r':=by
 intro parts
 induction parts with
 |nil =>
  intro gY cs vs r hl _ hsz hc hf;have:gY=[]:=List.eq_nil_of_length_eq_zero (by simpa using hl.symm);subst this;simp[jr]at hf;subst hf
  exact ⟨vs,rfl,hsz,hc⟩
 |cons x parts ih =>
  intro gY cs vs r hl hp hsz hc hf;cases gY with
  |nil=>simp at hl
  |cons y gY =>
   obtain ⟨i,p⟩:=x;obtain ⟨i',v⟩:=y;obtain ⟨h1,h2⟩:=hp 0 _ _ rfl rfl;simp only at h1 h2;subst h1
   simp only[jr]at hf;cases hpl:place i with
   |none=>simp[hpl]at hf
   |some os =>
    obtain ⟨off,size⟩:=os;simp only[hpl]at hf;split at hf<;>try (simp at hf;done)
    rename_i hcond;obtain ⟨hs1,hs2,hs3⟩:=hcond;obtain ⟨hcl,hcell⟩:=h2.cells hs3;have YS:=Xv v.cells.toList off 0 vs (by simp;omega);simp only[Nat.add_zero]at YS;obtain ⟨hr1,hr2⟩:=YS;have hcells:Cells h μ w L (splice cs off p.cells) (v.cells.zipIdx.foldl (fun cs (c,j)=>cs.setIfInBounds (off+j) c) vs):=by
     have hsz':(v.cells.zipIdx.foldl (fun cs (c,j)=>cs.setIfInBounds (off+j) c) vs).size=vs.size:=by rw[<- Array.foldl_toList];simpa using hr1
     have Uq:∀k:Nat,(v.cells.zipIdx.foldl (fun cs (c,j)=>cs.setIfInBounds (off+j) c) vs)[k]?=if off<=k/\k < off+v.cells.toList.length then v.cells.toList[k-off]? else vs[k]?:=by
      intro k;rw[<- Array.foldl_toList];simpa using hr2 k
     refine ⟨by rw[qo _ _ _ hs2,hsz',hsz];exact Nat.le_refl _,fun k q hk=>?_⟩;rw[Il _ _ _ hs2]at hk;have hD:∀u,(v.cells.zipIdx.foldl (fun cs (c,j)=>cs.setIfInBounds (off+j) c) vs)[k]?=some u->(v.cells.zipIdx.foldl (fun cs (c,j)=>cs.setIfInBounds (off+j) c) vs).getD k Go.undef=u:=by
      intro u hu;have:=(Array.getElem?_eq_some_iff.1 hu).1;simp only[Array.getD,this,dite_true];rw[Array.getElem?_eq_getElem this]at hu;exact Option.some.inj hu
     have hsome:∀(a:Array Value) (k:Nat),k < a.size->a[k]?=some (a.getD k Go.undef):=by
      intro a k hk;simp[Array.getD,hk]
     split at hk
     ·rename_i hlt
      have hkl:=(List.getElem?_eq_some_iff.1 hk).1;rw[hD (vs.getD k Go.undef) (by rw[Uq k,if_neg (by omega)];exact hsome _ _ (by omega))];exact hc.2 k q hk
     ·split at hk
      ·rename_i h3 h4
       rw[hD (v.cells.getD (k-off) Go.undef) (by
        have hkk:k-off < v.cells.size:=by omega
        rw[Uq k,if_pos ⟨by omega,by simp;omega⟩,Array.getElem?_toList];exact hsome _ _ hkk)]
       exact hcell _ q hk
      ·rename_i h3 h4
       have hkl:=(List.getElem?_eq_some_iff.1 hk).1;rw[hD (vs.getD k Go.undef) (by rw[Uq k,if_neg (by simp;omega)];exact hsome _ _ (by omega))];exact hc.2 k q hk
    obtain ⟨r',hr',hrl,hrc⟩:=ih gY (splice cs off p.cells) (v.cells.zipIdx.foldl (fun cs (c,j)=>cs.setIfInBounds (off+j) c) vs) r (by simpa using hl)
     (fun i x y hx hy=>hp (i+1) x y (by simpa using hx) (by simpa using hy))
     (by rw[qo _ _ _ hs2,hsz];rw[<- Array.foldl_toList];simpa using hr1.symm) hcells hf
    refine ⟨r',?_,hrl,hrc⟩;simp only[Instr.fill,hpl];rw[if_neg (by rw[Bool.or_eq_true,not_or];simp;omega)];exact hr'
theorem Rq {t:TypeId}{parts:List (Nat × PV)}{gY:Array (Nat × Value)}{v:PV} (hl:parts.length=gY.toList.length)
  (hp:∀(i:Nat) x y,parts[i]?=some x->gY.toList[i]?=some y->x.1=y.1/\VR h μ w (LL A h μ) x.2 y.2) (hb:xP P t parts=some v) :
  ∃v',(Instr.build t gY).run P w=.ok v' w/\VR h μ w (LL A h μ) v v':=by
 unfold xP at hb;split at hb<;>try (simp at hb;done)
 rename_i pl z hpl hz;split at hb<;>simp at hb
 subst hb;rename_i cs hcs;obtain ⟨i,zv,hi,hzv,hzs,hzc⟩:=pK (h:=h) (μ:=μ) (w:=w) hz (LL A h μ);obtain ⟨r',hr',hrl,hrc⟩:=Kv parts gY.toList (z.map .t) zv.cells cs hl hp (by simp[hzs]) hzc hcs;refine ⟨.agg r',run_build w t gY r' ?_,VR.gV hrl fun i x hx=>(hrc.2 i x hx).1⟩;unfold gW at hpl;split at hpl<;>try (simp at hpl;done)
 rename_i fs hu;unfold Program.built;simp only[hi,hu,hzv,hpl];simpa using hr'
theorem Kw (hr:HR A h μ w) {b:Nat} (hb:w.heap.size<=b):¬LL A h μ b:=by
 rintro (hA|⟨id,o,ho,_,hμ⟩)
 ·have:=hr.old b hA;omega
 ·have:=hr.lt ho;omega
theorem ER (hr:HR A h μ w) {mu:Nat->Bool}{dst:Option Tmp}{t:TypeId}{cs:List PV}{vs:Array Value}{v:PV}{h':Hp} (hsz:cs.length=vs.size) (hc:Cells h μ w (LL A h μ) cs vs)
  (hn:iC P mu dst t cs h=some (v,h')):∃ μ',HR A h' μ' (w.alloc (.cells vs t))/\Ext h μ w h' μ' (w.alloc (.cells vs t))/\VR h' μ' (w.alloc (.cells vs t)) (LL A h' μ') v (.pointer (some ⟨w.heap.size,0,none⟩)):=by
 unfold iC at hn;split at hn<;>try (simp at hn;done)
 rename_i d ag hag;split at hn<;>try (simp at hn;done)
 rename_i hcond;obtain ⟨hl,hpos,ES,hone⟩:=hcond;split at hn
 ·simp at hn
  obtain ⟨rfl,rfl⟩:=hn;obtain ⟨h1,h2⟩:=HR.new (w':=w.alloc (.cells vs t)) hr d w.heap.size ⟨cs,P.cellsOf t,1,t,ag,true⟩ vs 1 ⟨rfl,rfl,rfl⟩ (by simp) (fun k hk=>Un w _ k hk) (Nat.le_refl _) (Gx w _) hpos
   (fun e=>ES.resolve_left (by rw[show ag=false from e];simp)) (by simpa using hl) (by simpa[hl] using hsz.symm) (Nat.le_refl _) (by decide) hc.2
  refine ⟨_,h1,h2,.ad (o:=⟨cs,P.cellsOf t,1,t,ag,true⟩) (by rw[dz,if_pos rfl]) (by show P.cellsOf t≠0;omega) (Nat.le_refl _) rfl fun _=>by rw[setμ_same]⟩
 ·split at hn<;>simp at hn
  obtain ⟨rfl,rfl⟩:=hn;rename_i ts hts;have:=kY hts;subst this
  obtain ⟨h1,h2⟩:=Ext.grow hr (w':=w.alloc (.cells vs t)) ((RowKit.Below.refl _ _).alloc (Nat.le_refl _) _);refine ⟨μ,h1,h2,.ro (vals:=fun k=>vs.getD k Go.undef) rfl (fun k x hk=>⟨Kw hr (Nat.le_refl _),?_,?_⟩) (fun k x hk=>?_)⟩
  ·have hkl:=(List.getElem?_eq_some_iff.1 hk).1
   have:k < vs.size:=by rw[<- hsz];simpa using hkl
   have hnew:=Gx w (.cells vs t);rw[add_lit,Nat.zero_add,cell_of_row (w.alloc (.cells vs t)) w.heap.size k vs t (0,0) hnew];simp[this,Array.getD]
  ·exact (hc.2 k (.t x) (by rw[List.getElem?_map,hk];rfl)).2
  ·exact ((hc.2 k (.t x) (by rw[List.getElem?_map,hk];rfl)).1.ext h2).tree
theorem y8 (hr:HR A h μ w) {w':World}{mu:Nat->Bool}{dst:Option Tmp}{e:TypeId}{len cap g:Nat}{cs:List PV}{cur:Array Value}{v:PV}{h':Hp}
  (hw:w'.os=w.os/\w'.tape=w.tape/\w'.output=w.output) (hsz:w.heap.size<=w'.heap.size) (hold:∀k:Nat,k < w.heap.size->w'.heap[k]?=w.heap[k]?) (hg:w.heap.size<=g)
  (hcur:w'.heap[g]?=some (.cells cur e (0,0))) (hpos:0 < P.cellsOf e) (hcs:cs.length=len*P.cellsOf e) (hcap:cur.size=cap*P.cellsOf e) (hle:len<=cap) (hmax:cap<=maxLen)
  (hc:∀(k:Nat) p,cs[k]?=some p->VR h μ w (LL A h μ) p (cur.getD k Go.undef)/\(cur.getD k Go.undef).oneCell'=true) (hn:dG P mu dst e len cs h=some (v,h')) :
  ∃ μ',HR A h' μ' w'/\Ext h μ w h' μ' w'/\VR h' μ' w' (LL A h' μ') v (.slice (some ⟨g,0,none⟩) len cap):=by
 unfold dG at hn;split at hn<;>try (simp at hn;done)
 rename_i d ag hag;split at hn<;>try (simp at hn;done)
 rename_i ES;have ES:ag=false->P.cellsOf e=1:=fun h=>Decidable.byContradiction fun h2=>ES ⟨h,h2⟩
 split at hn
 ·simp at hn
  obtain ⟨rfl,rfl⟩:=hn;obtain ⟨h1,h2⟩:=HR.new hr d g ⟨cs,P.cellsOf e,len,e,ag,true⟩ cur cap hw hsz hold hg hcur hpos ES hcs hcap hle hmax hc;refine ⟨_,h1,h2,.rf (o:=⟨cs,P.cellsOf e,len,e,ag,true⟩) (by rw[dz,if_pos rfl]) (by show P.cellsOf e≠0;omega) (Nat.le_refl _) rfl fun _=>⟨cap,cur,e,(0,0),by rw[setμ_same],by rw[setμ_same];exact hcur,hcap⟩⟩
 ·split at hn<;>simp at hn
  obtain ⟨rfl,rfl⟩:=hn;rename_i ts hts;have:=kY hts;subst this
  obtain ⟨h1,h2⟩:=Ext.grow hr (w':=w') ⟨hw.1,hw.2.1,hw.2.2,hsz,hold⟩;have hrd:∀(k:Nat) x,ts[k]?=some x->Reads w' (LL A h μ) x (cur.getD k Go.undef)/\(cur.getD k Go.undef).oneCell'=true:=fun k x hk=>by
   have:=hc k (.t x) (by rw[List.getElem?_map,hk];rfl);exact ⟨(this.1.ext h2).tree,this.2⟩
  have hone:∀x∈ts,x.cells=[x]:=by
   intro x hx;obtain ⟨i,hi,rfl⟩:=List.mem_iff_getElem.1 hx;obtain ⟨a,b⟩:=hrd i ts[i] (List.getElem?_eq_getElem hi);exact a.one b
  have hlts:ts.length=len*P.cellsOf e:=by simpa using hcs
  obtain ⟨hf,hfl,hfe⟩:=Ii hlts ES hone;refine ⟨μ,h1,h2,?_⟩;have:=@Reads.sl w' (LL A h μ) (elems ag (P.cellsOf e) len ts) ⟨g,0,none⟩ cap (P.cellsOf e) (fun k=>cur.getD k Go.undef) (fun _=>rfl) (by rw[hfl];exact hle) hmax hfe
   (fun i x hx=>by
    rw[hf]at hx;refine ⟨Kw hr hg,?_,(hrd i x hx).2⟩;have hi:i < cur.size:=by
     have:i < ts.length:=(List.getElem?_eq_some_iff.1 hx).1;have:len*P.cellsOf e<=cap*P.cellsOf e:=Nat.mul_le_mul_right _ hle;omega
    rw[add_lit];simp[World.cell?,hcur,hi,Array.getD])
   (fun i x hx=>by rw[hf]at hx;exact (hrd i x hx).1)
  rw[hfl]at this;exact .t this
theorem xV (z:List Tr):∀(n:Nat),(gX z n).length=n*z.length/\∀k,k < n*z.length->(gX z n)[k]?=z[k % z.length]?
 |0=>⟨by simp[gX],fun k hk=>by simp at hk⟩
 |n+1=>by
  obtain ⟨h1,h2⟩:=xV z n;refine ⟨by simp[gX,h1,Nat.succ_mul];omega,fun k hk=>?_⟩;simp only[gX]
  by_cases hk1:k < z.length
  ·rw[List.getElem?_append_left hk1,Nat.mod_eq_of_lt hk1]
  ·rw[List.getElem?_append_right (by omega),h2 _ (by rw[Nat.succ_mul]at hk;omega)]
   have e:k=(k-z.length)+z.length:=by omega
   have e2:k % z.length=(k-z.length) % z.length:=by
    conv=>lhs;rw[e,Nat.add_mod_right]
   rw[e2]
theorem Au {L:Nat->Prop}{z:List Tr}{zv:Array Value} (hz:zv.size=z.length) (hc:Cells h μ w L (z.map .t) zv) (n:Nat) :
  Cells h μ w L ((gX z n).map .t) ((Array.range (n*z.length)).map (zv[· % zv.size]!)):=by
 obtain ⟨h1,h2⟩:=xV z n;refine ⟨by simp[h1],fun k p hk=>?_⟩;rw[List.getElem?_map]at hk;have hkl:k < n*z.length:=by
  have hh:=hk;cases hx:(gX z n)[k]? with
  |none=>simp[hx]at hh
  |some x=>rw[<- h1];exact (List.getElem?_eq_some_iff.1 hx).1
 rw[h2 k hkl]at hk;have hzp:0 < z.length:=by
  rcases Nat.eq_zero_or_pos z.length with h0|h0
  ·rw[h0]at hkl;omega
  ·exact h0
 have hm:k % z.length < z.length:=Nat.mod_lt _ hzp;have:=hc.2 (k % z.length) p (by rw[List.getElem?_map];exact hk);have e:((Array.range (n*z.length)).map (zv[· % zv.size]!)).getD k Go.undef=zv.getD (k % z.length) Go.undef:=by
  simp[Array.getD,hkl,hz,hm]
 rw[e];exact this
end
end Go.Vm
end
section
namespace Go.Vm
open Go
section
variable {P:Program}{A:Nat->Prop}{h:Hp}{μ:Id->Nat}{w:World}
theorem xX {e:TypeId} (hi:(P.info? e).isSome):∃i,P.info? e=some i/\i.size=P.cellsOf e/\i.bytes=P.bytesOf e:=by
 obtain ⟨i,hi⟩:=Option.isSome_iff_exists.1 hi;exact ⟨i,hi,by simp[Program.cellsOf,hi],by simp[Program.bytesOf,hi]⟩
theorem ET (w:World) (o:Go.Obj):((w.alloc o).os=w.os/\(w.alloc o).tape=w.tape/\(w.alloc o).output=w.output)/\w.heap.size<=(w.alloc o).heap.size/\(∀k:Nat,k < w.heap.size->(w.alloc o).heap[k]?=w.heap[k]?) :=
 ⟨⟨rfl,rfl,rfl⟩,by simp,fun k hk=>Un w o k hk⟩
theorem Gz (hr:HR A h μ w) {mu:Nat->Bool}{dst:Option Tmp}{t:TypeId}{len:Nat}{parts:List (Nat × PV)}{gY:Array (Nat × Value)}{v:PV}{h':Hp} (hl:parts.length=gY.toList.length)
  (hp:∀(i:Nat) x y,parts[i]?=some x->gY.toList[i]?=some y->x.1=y.1/\VR h μ w (LL A h μ) x.2 y.2) (hb:jT P mu dst t len parts h=some (v,h')) :
  ∃v' w' μ',(Instr.buildSlice t len gY).run P w=.ok v' w'/\HR A h' μ' w'/\Ext h μ w h' μ' w'/\VR h' μ' w' (LL A h' μ') v v':=by
 unfold jT at hb;split at hb<;>try (simp at hb;done)
 rename_i e he;obtain ⟨hu,hie⟩:=kM he;split at hb<;>try (simp at hb;done)
 rename_i z hz;split at hb<;>try (simp at hb;done)
 rename_i hcond;obtain ⟨hzl,hpos,hsmall⟩:=hcond;split at hb<;>try (simp at hb;done)
 rename_i cs hcs;split at hb<;>try (simp at hb;done)
 obtain ⟨i,zv,hi,hzv,hzs,hzc⟩:=pK (h:=h) (μ:=μ) (w:=w) hz (LL A h μ);obtain ⟨i',hi',his,hib⟩:=xX hie;rw[hi]at hi';cases hi'
 have Rs:=Au hzs hzc len;rw[hzl]at Rs;have Pk:((gX z len).map PV.t).length=len*P.cellsOf e:=by rw[List.length_map,(xV z len).1,hzl]
 obtain ⟨r',hr',hrl,hrc⟩:=Kv parts gY.toList ((gX z len).map .t) ((Array.range (len*P.cellsOf e)).map (zv.cells[· % zv.cells.size]!)) cs hl hp (by rw[Pk];simp) Rs hcs;have hcl:cs.length=len*P.cellsOf e:=by
  have:∀(parts:List (Nat × PV)) (c r:List PV),jr (fun i=>some (i*P.cellsOf e,P.cellsOf e)) c parts=some r->r.length=c.length:=by
   intro parts
   induction parts with
   |nil=>intro c r hh;simp[jr]at hh;rw[hh]
   |cons x parts ih =>
    intro c r hh;simp only[jr]at hh;split at hh<;>try (simp at hh;done)
    rename_i hc;rw[ih _ _ hh,qo _ _ _ hc.2.1]
  rw[this _ _ _ hcs,Pk]
 have hrun:(Instr.buildSlice t len gY).run P w=.ok (.slice (some ⟨w.heap.size,0,none⟩) len len) (w.alloc (.cells r' e)):=by
  by_cases h0:len*i.size=0
  ·have hf:Instr.fill (fun i=>some (i*P.cellsOf e,P.cellsOf e)) #[] gY.toList=some r':=by
    rw[<- his]at hr';rw[h0]at hr';rw[<- his];simpa[Array.range_zero'] using hr'
   rw[<- his]at hf;simp[Instr.buildSlice,run_underlying hu,sizeOf,typeInfo,hi,h0,newRow,Array.range_zero',hf]
  ·refine run_buildSlice w t e len gY r' i zv hu hi hzv (by rw[his];omega) h0 ?_
   rw[his];exact hr'
 obtain ⟨f1,f2,f3⟩:=ET w (.cells r' e);obtain ⟨μ',a,b,c⟩:=y8 hr (w':=w.alloc (.cells r' e)) (g:=w.heap.size) (cap:=len) f1 f2 f3 (Nat.le_refl _) (Gx w _) hpos hcl (by rw[<- hrl];exact hcl) (Nat.le_refl _)
  (by simp only[maxLen];have:len*1<=len*P.cellsOf e:=Nat.mul_le_mul_left _ hpos;omega) hrc.2 hb
 exact ⟨_,_,μ',hrun,a,b,c⟩
theorem JO (hr:HR A h μ w) {mu:Nat->Bool}{dst:Option Tmp}{t:TypeId}{p q v:PV}{u u':Value}{h':Hp} (hp:VR h μ w (LL A h μ) p u) (hq:VR h μ w (LL A h μ) q u')
  (hb:kJ P mu dst t p q h=some (v,h')) :
  ∃v' w' μ',(Instr.makeSlice t u u').run P w=.ok v' w'/\HR A h' μ' w'/\Ext h μ w h' μ' w'/\VR h' μ' w' (LL A h' μ') v v':=by
 unfold kJ at hb;split at hb<;>try (simp at hb;done)
 rename_i e n m he;obtain ⟨hu,hie⟩:=kM he;have:=jf hp.tree;subst this
 have:=jf hq.tree;subst this
 split at hb<;>try (simp at hb;done)
 rename_i z hz;split at hb<;>try (simp at hb;done)
 rename_i hcond;obtain ⟨hzl,hpos,rfl,h0,hbytes,hmax⟩:=hcond;obtain ⟨i,zv,hi,hzv,hzs,hzc⟩:=pK (h:=h) (μ:=μ) (w:=w) hz (LL A h μ);obtain ⟨i',hi',his,hib⟩:=xX hie;rw[hi]at hi';cases hi'
 have Rs:=Au hzs hzc m.toNat;rw[hzl]at Rs;have Pk:((gX z m.toNat).map PV.t).length=m.toNat*P.cellsOf e:=by rw[List.length_map,(xV z m.toNat).1,hzl]
 have hrun:=run_make (P:=P) w t e i zv hu hi hzv .i64 .i64 m m h0 (Int.le_refl _) (by rw[hib,Int.mul_comm];exact hbytes) (by omega);rw[his]at hrun;obtain ⟨f1,f2,f3⟩:=ET w (.cells (madeCells zv.cells (m.toNat*P.cellsOf e)) e);obtain ⟨μ',a,b,c⟩:=y8 hr (g:=w.heap.size) (cap:=m.toNat) f1 f2 f3 (Nat.le_refl _) (Gx w _) hpos Pk (size_madeCells _ _) (Nat.le_refl _)
  (by simp only[maxLen];omega) Rs.2 hb
 exact ⟨_,_,μ',hrun,a,b,c⟩
theorem Xw (hr:HR A h μ w) {e:TypeId}{p:PV}{u:Value}{m:Nat}{news:List PV} (hp:VR h μ w (LL A h μ) p u) (hs:iP P e p h=some (m,news)) :
  news.length=m*P.cellsOf e/\∃a c,u=.slice a m c/\(m≠0->∃(ad:Addr) (vals:List Value),a=some ad/\vals.length=m*P.cellsOf e/\(∀(j:Nat) v,vals[j]?=some v->w.cell? (ad.add j)=some v) /\
   (∀v∈vals,v.oneCell'=true)/\∀(k:Nat) q,news[k]?=some q->VR h μ w (LL A h μ) q (vals.getD k Go.undef)):=by
 unfold iP at hs;split at hs
 ·rename_i nn l
  split at hs<;>simp at hs
  rename_i hfl;obtain ⟨rfl,rfl⟩:=hs;refine ⟨by simpa using hfl,?_⟩;rcases yZ hp.tree with ⟨_,rfl,rfl⟩|⟨_,a,cap,esz,vals,rfl,hs,hc,hm,he,hcell,hh⟩
  ·exact ⟨none,0,rfl,fun h0=>absurd rfl h0⟩
  ·refine ⟨some a,cap,rfl,fun _=>⟨a,(List.range (flat l).length).map vals,rfl,by simpa using hfl,fun j v hj=>?_,fun v hv=>?_,fun k q hk=>?_⟩⟩
   ·rw[List.getElem?_map]at hj
    by_cases hjl:j < (flat l).length
    ·rw[List.getElem?_range hjl]at hj
     simp only[Option.map_some,Option.some.injEq]at hj;subst hj
     exact (hcell j (flat l)[j] (List.getElem?_eq_getElem hjl)).2.1
    ·simp[List.getElem?_eq_none (by simp;omega:(List.range (flat l).length).length<=j)]at hj
   ·simp only[List.mem_map,List.mem_range]at hv
    obtain ⟨j,hj,rfl⟩:=hv;exact (hcell j (flat l)[j] (List.getElem?_eq_getElem hj)).2.2
   ·rw[List.getElem?_map]at hk
    cases hx:(flat l)[k]? with
    |none=>simp[hx]at hk
    |some x =>
     simp[hx]at hk;subst hk
     have hkl:=(List.getElem?_eq_some_iff.1 hx).1;simp only[List.getD,List.getElem?_map,List.getElem?_range hkl,Option.map_some,Option.getD_some];exact .t (hh k x hx)
 ·rename_i id n
  cases ho:hget h id with
  |none=>simp[ho]at hs
  |some o =>
   simp only[ho]at hs;split at hs<;>simp at hs
   obtain ⟨rfl,rfl⟩:=hs;rename_i hc;obtain ⟨hlen,jU⟩:=hc;obtain ⟨cur,cap,hblk,hep,hag,hcs,hcur,hle,hmax,hcells⟩:=hr.obj id o ho (by cases hp with|rf ho' hz _ _ _=>rw[ho]at ho';cases ho';exact hz);cases hp with
   |rf ho' hz hn h1 hv =>
    rw[ho]at ho';cases ho'
    obtain ⟨cap',_,_,_,rfl,_⟩:=hv hlen;have YR:o.cs.length<=cur.size:=by rw[hcs,hcur];exact Nat.mul_le_mul_right _ hle
    rw[hlen,jU]at hcs;refine ⟨hcs,some ⟨μ id,0,none⟩,cap',rfl,fun _=>⟨_,cur.toList.take o.cs.length,rfl,by rw[List.length_take];simp;omega,fun j v hj=>?_,fun v hv=>?_,fun k q hk=>?_⟩⟩
    ·rw[List.getElem?_take]at hj
     split at hj
     ·rename_i hjl
      rw[add_lit,Nat.zero_add,cell_of_row w _ _ _ _ _ hblk];simpa using hj
     ·cases hj
    ·obtain ⟨j,hj,rfl⟩:=List.mem_iff_getElem.1 hv
     simp only[List.length_take,Array.length_toList]at hj;have hjo:j < o.cs.length:=by omega
     have:=(hcells j o.cs[j] (List.getElem?_eq_getElem hjo)).2;have hjc:j < cur.size:=by omega
     simpa[Array.getD,hjc] using this
    ·have hkl:=(List.getElem?_eq_some_iff.1 hk).1
     have:=(hcells k q hk).1;have hkc:k < cur.size:=by omega
     simp only[List.getD,List.getElem?_take,hkl,if_true];simpa[Array.getD,hkc] using this
 ·cases hs
theorem run_append_nothing {t ty e:TypeId} (hu:P.underlying t=some (.slice e)) (hi:(P.info? e).isSome) (base a:Option Addr) (sLen sCap c:Nat) (hle:sLen<=sCap) :
  (Builtin.append_ #[t,t] ty #[.slice base sLen sCap,.slice a 0 c]).run P w=.ok (.slice base sLen sCap) w:=by
 have hf:∀size,(Builtin.firstCells size 0 (.slice a 0 c)).run P w=.ok #[] w:=by
  intro size;cases a with
  |none=>simp[Builtin.firstCells]
  |some a=>simp[Builtin.firstCells,loadCells,loadCellsFrom]
 cases base with
 |none=>simp[Builtin.append_,run_underlying hu,gJ w hi,Builtin.lenOf,hle,hf]
 |some b=>simp[Builtin.append_,run_underlying hu,gJ w hi,Builtin.lenOf,hle,hf,storeCells]
structure Wn (P:Program) (w:World) (t tu ty e:TypeId) (i:TypeInfo) (zv x:Value) (m:Nat) (vals:List Value):Prop where
 nothing:m=0->∀(base:Option Addr) (sLen sCap:Nat),sLen<=sCap->(Builtin.append_ #[t,tu] ty #[.slice base sLen sCap,x]).run P w=.ok (.slice base sLen sCap) w
 nil:0 < m->(m:Int)<=9223372036854775807->m*i.bytes<=281474976710656->(Builtin.append_ #[t,tu] ty #[.slice none 0 0,x]).run P w =
  .ok (.slice (some ⟨w.heap.size,0,none⟩) m (grownCap w m 0 e)) (w.drew.alloc (.cells (vals.toArray++Builtin.zeroCells zv.cells (grownCap w m 0 e-m)) e))
 room:0 < m->∀(g sLen sCap:Nat) (cur:Array Value),w.heap[g]?=some (.cells cur e (0,0))->sLen+m<=sCap->sLen*i.size+vals.length<=cur.size ->
  (Builtin.append_ #[t,tu] ty #[.slice (some ⟨g,0,none⟩) sLen sCap,x]).run P w =
   .ok (.slice (some ⟨g,0,none⟩) (sLen+m) sCap) (w.setRow g (cur.toList.take (sLen*i.size)++vals++cur.toList.drop (sLen*i.size+vals.length)).toArray)
 grow:0 < m->∀(b:Addr) (sLen sCap:Nat) (olds:List Value),olds.length=sLen*i.size->(∀(j:Nat) v,olds[j]?=some v->w.cell? (b.add j)=some v)->sCap < sLen+m->((sLen+m:Nat):Int)<=9223372036854775807->Builtin.nextslicecap (sLen+m) sCap*i.bytes<=281474976710656 ->
  (Builtin.append_ #[t,tu] ty #[.slice (some b) sLen sCap,x]).run P w =
   .ok (.slice (some ⟨w.heap.size,0,none⟩) (sLen+m) (grownCap w (sLen+m) sCap e))
    (w.drew.alloc (.cells (olds.toArray++vals.toArray++Builtin.zeroCells zv.cells (grownCap w (sLen+m) sCap e-(sLen+m))) e))
theorem EU (hr:HR A h μ w) {mu:Nat->Bool}{dst:Option Tmp}{t tu ty:TypeId}{p q v:PV}{u x:Value}{h':Hp} (hp:VR h μ w (LL A h μ) p u)
  (hb:aT P mu dst t p q h=some (v,h'))
  (aef:∀e i zv m news,bg P t=some e->P.info? e=some i->i.zero=some zv->iP P e q h=some (m,news)->(∃z,aW P e=some z/\z.length=P.cellsOf e/\0 < P.cellsOf e)->news.length=m*P.cellsOf e/\∃vals:List Value,Wn P w t tu ty e i zv x m vals/\(m≠0->vals.length=m*P.cellsOf e /\
   (∀v∈vals,v.oneCell'=true)/\∀(k:Nat) q,news[k]?=some q->VR h μ w (LL A h μ) q (vals.getD k Go.undef))) :
  ∃v' w' μ',(Builtin.append_ #[t,tu] ty #[u,x]).run P w=.ok v' w'/\HR A h' μ' w'/\Ext h μ w h' μ' w'/\VR h' μ' w' (LL A h' μ') v v':=by
 unfold aT at hb;split at hb<;>try (simp at hb;done)
 rename_i e he;obtain ⟨hu,hie⟩:=kM he;split at hb<;>try (simp at hb;done)
 rename_i z m news hz hsrc;split at hb<;>try (simp at hb;done)
 rename_i hcond;obtain ⟨hzl,hpos⟩:=hcond;obtain ⟨i,zv,hi,hzv,hzs,_⟩:=pK (h:=h) (μ:=μ) (w:=w) hz (LL A h μ);obtain ⟨i',hi',his,hib⟩:=xX hie;rw[hi]at hi';cases hi'
 obtain ⟨hnl,vals,Ky,hsome⟩:=aef e i zv m news he hi hzv hsrc ⟨z,hz,hzl,hpos⟩;have YT:∀o:Go.Obj,(((w.drew.alloc o).os=w.os/\(w.drew.alloc o).tape=w.tape/\(w.drew.alloc o).output=w.output)/\w.heap.size<=(w.drew.alloc o).heap.size/\(∀k:Nat,k < w.heap.size->(w.drew.alloc o).heap[k]?=w.heap[k]?)) :=
  fun o=>⟨⟨rfl,rfl,rfl⟩,by simp,fun k hk=>Un w.drew o k hk⟩
 split at hb
 ·rename_i nn l
  split at hb
  ·simp at hb
   obtain ⟨rfl,rfl⟩:=hb;rename_i hm;subst hm
   have hval:∃b n c',u=.slice b n c'/\n<=c':=by
    rcases yZ hp.tree with ⟨_,_,rfl⟩|⟨_,b,cap,_,_,rfl,_,hc,_⟩
    ·exact ⟨_,_,_,rfl,Nat.le_refl _⟩
    ·exact ⟨_,_,_,rfl,hc⟩
   obtain ⟨b,n,c',rfl,hle⟩:=hval;exact ⟨_,w,μ,Ky.nothing rfl b n c' hle,hr,Ext.refl _ _ _,hp⟩
  ·split at hb<;>try (simp at hb;done)
   rename_i hm hc;obtain ⟨rfl,hbytes,hmax⟩:=hc;have:u=.slice none 0 0:=by
    rcases yZ hp.tree with ⟨_,_,rfl⟩|⟨h,_⟩
    ·rfl
    ·cases h
   subst this;obtain ⟨hvl,hone,hvr⟩:=hsome hm;have hrun:=Ky.nil (by omega) (by omega) (by rw[hib];omega);obtain ⟨f1,f2,f3⟩:=YT (.cells (vals.toArray++Builtin.zeroCells zv.cells (grownCap w m 0 e-m)) e);have hge:=grownCap_ge w m 0 e;obtain ⟨μ',ha,hb',hc'⟩:=y8 hr (g:=w.heap.size) (cap:=grownCap w m 0 e) f1 f2 f3 (Nat.le_refl _) (Gx w.drew _) hpos hnl
    (by rw[Array.size_append,List.size_toArray,size_zeroCells,hzs,hzl,hvl,<- Nat.add_mul];congr 1;omega) hge (grownCap_le_maxLen w m 0 e (by simp only[maxLen];omega))
    (fun k p hk=>by
     have hkl:=(List.getElem?_eq_some_iff.1 hk).1;have hkv:k < vals.length:=by rw[hvl,<- hnl];exact hkl
     have e1:(vals.toArray++Builtin.zeroCells zv.cells (grownCap w m 0 e-m)).getD k Go.undef=vals.getD k Go.undef:=by
      simp[Array.getD,hkv,List.getD];omega
     rw[e1];refine ⟨hvr k p hk,?_⟩;have:=hone vals[k] (List.getElem_mem hkv);simpa[List.getD,hkv] using this) hb
   exact ⟨_,_,μ',hrun,ha,hb',hc'⟩
 ·rename_i id n
  cases ho:hget h id with
  |none=>simp[ho]at hb
  |some o =>
   simp only[ho]at hb;split at hb<;>try (simp at hb;done)
   rename_i hc;obtain ⟨hlen,hlive,hel,jU,hbytes,hmax⟩:=hc;have hnz:o.esz≠0:=by
    cases hp with
    |rf ho' hz _ _ _=>rw[ho]at ho';cases ho';exact hz
   obtain ⟨cur,cap,hblk,hep,hag,hcs,hcur,hle,hcm,hcells⟩:=hr.obj id o ho hnz;have hval:u=.slice (some ⟨μ id,0,none⟩) n cap:=by
    cases hp with
    |rf ho' hz hn h1 hv =>
     rw[ho]at ho';cases ho'
     obtain ⟨cap',cur',et,fz,rfl,hblk',hcs'⟩:=hv hlen;rw[hblk]at hblk';cases hblk'
     rw[Nat.eq_of_mul_eq_mul_right hep (hcs'.symm.trans hcur)]
   subst hval;rw[hlen]at hle;have YR:o.cs.length<=cur.size:=by rw[hcs,hcur];exact Nat.mul_le_mul_right _ (by omega)
   split at hb
   ·simp at hb
    obtain ⟨rfl,rfl⟩:=hb;rename_i hm;subst hm
    exact ⟨_,w,μ,Ky.nothing rfl _ n cap hle,hr,Ext.refl _ _ _,hp⟩
   ·rename_i hm
    simp at hb;obtain ⟨rfl,rfl⟩:=hb;obtain ⟨hvl,hone,hvr⟩:=hsome hm;have hcs2:o.cs.length=n*P.cellsOf e:=by rw[hcs,hlen,jU]
    by_cases hroom:n+m<=cap
    ·have hfit:n*i.size+vals.length<=cur.size:=by rw[hvl,his,hcur,jU,<- Nat.add_mul];exact Nat.mul_le_mul_right _ hroom
     rw[hel]at hblk;have hrun:=Ky.room (by omega) (μ id) n cap cur hblk hroom hfit;have hg:∀(k:Nat) p,(o.cs++news)[k]?=some p->VR h μ w (LL A h μ) p ((cur.toList.take (n*i.size)++vals++cur.toList.drop (n*i.size+vals.length)).toArray.getD k Go.undef)/\((cur.toList.take (n*i.size)++vals++cur.toList.drop (n*i.size+vals.length)).toArray.getD k Go.undef).oneCell'=true:=by
      intro k p hk;have hkl:=(List.getElem?_eq_some_iff.1 hk).1;simp only[List.length_append]at hkl;have htl:(cur.toList.take (n*i.size)).length=n*i.size:=by rw[List.length_take];simp;omega
      rw[dZ];rw[List.getElem?_append]at hk;split at hk
      ·rename_i hko
       have hkc:k < cur.size:=by omega
       have e1:(cur.toList.take (n*i.size)++vals++cur.toList.drop (n*i.size+vals.length)).getD k Go.undef=cur.getD k Go.undef:=by
        rw[his,<- hcs2]at htl ⊢;rw[List.append_assoc];simp only[List.getD];rw[List.getElem?_append_left (by rw[htl];exact hko),List.getElem?_take,if_pos hko];simp[Array.getD,hkc]
       rw[e1];exact hcells k p hk
      ·rename_i hko
       have hkv:k-o.cs.length < vals.length:=by rw[hvl];omega
       have e1:(cur.toList.take (n*i.size)++vals++cur.toList.drop (n*i.size+vals.length)).getD k Go.undef=vals.getD (k-o.cs.length) Go.undef:=by
        rw[his,<- hcs2]at htl ⊢;rw[List.append_assoc];simp only[List.getD];rw[List.getElem?_append_right (by rw[htl];omega),htl,List.getElem?_append_left hkv]
       rw[e1];refine ⟨hvr _ p hk,?_⟩;have:=hone vals[k-o.cs.length] (List.getElem_mem hkv);simpa[List.getD,hkv] using this
     obtain ⟨ha,hb'⟩:=HR.set hr (w':=w.setRow (μ id) (cur.toList.take (n*i.size)++vals++cur.toList.drop (n*i.size+vals.length)).toArray) id o { o with cs:=o.cs++news,len:=n+m } (μ id) _ cap ho hnz hlive ⟨rfl,rfl,rfl⟩ (by simp) (fun k _ hk=>setRow_other w (μ id) k _ hk)
      (fun c et fz hc=>⟨_,_,_,setRow_heap w (μ id) cur _ e (0,0) hblk,by rw[hblk]at hc;cases hc;simp;omega⟩)
      (.inl rfl) (by rw[hel];exact setRow_heap w (μ id) cur _ e (0,0) hblk) (by simp only[List.length_append];rw[hcs2,hnl,jU,<- Nat.add_mul]) (by rw[<- hcur];simp;omega) hroom hcm (by show o.len<=n+m;omega) (fun _=>rfl) ⟨rfl,rfl,rfl,hlive⟩ hg
     refine ⟨_,_,_,hrun,ha,hb',.rf (o:={ o with cs:=o.cs++news,len:=n+m }) (by rw[iR,ho];simp) hnz (Nat.le_refl _) rfl fun _=>⟨cap,_,_,_,by rw[setμ_same],by rw[setμ_same];exact setRow_heap w (μ id) cur _ e (0,0) hblk,by rw[<- hcur];simp;omega⟩⟩
    ·have holds:∀(j:Nat) v,(cur.toList.take o.cs.length)[j]?=some v->w.cell? ((⟨μ id,0,none⟩:Addr).add j)=some v:=by
      intro j v hj;rw[List.getElem?_take]at hj;split at hj
      ·rw[add_lit,Nat.zero_add,cell_of_row w _ _ _ _ _ hblk];simpa using hj
      ·cases hj
     have hol:(cur.toList.take o.cs.length).length=n*i.size:=by rw[List.length_take,his,<- hcs2];simp;omega
     have hrun:=Ky.grow (by omega) ⟨μ id,0,none⟩ n cap (cur.toList.take o.cs.length) hol holds (by omega) (by omega) (growslice_fits (by omega) (by rw[hib];exact hbytes));have hge:=grownCap_ge w (n+m) cap e;have YU:((cur.toList.take o.cs.length).toArray++vals.toArray++Builtin.zeroCells zv.cells (grownCap w (n+m) cap e-(n+m))).size=grownCap w (n+m) cap e*o.esz:=by
      rw[Array.size_append,Array.size_append,List.size_toArray,List.size_toArray,hol,hvl,size_zeroCells,hzs,hzl,his,jU,<- Nat.add_mul,<- Nat.add_mul];congr 1;omega
     have hnew:=Gx w.drew (.cells ((cur.toList.take o.cs.length).toArray++vals.toArray++Builtin.zeroCells zv.cells (grownCap w (n+m) cap e-(n+m))) e);obtain ⟨f1,f2,f3⟩:=YT (.cells ((cur.toList.take o.cs.length).toArray++vals.toArray++Builtin.zeroCells zv.cells (grownCap w (n+m) cap e-(n+m))) e);have hlt:=hr.lt ho;obtain ⟨ha,hb'⟩:=HR.set hr (w':=w.drew.alloc (.cells ((cur.toList.take o.cs.length).toArray++vals.toArray++Builtin.zeroCells zv.cells (grownCap w (n+m) cap e-(n+m))) e)) id o { o with cs:=o.cs++news,len:=n+m } w.heap.size _ (grownCap w (n+m) cap e) ho hnz hlive f1 f2 (fun k hk _=>f3 k hk)
      (fun c et fz hc=>⟨c,et,fz,by rw[f3 _ hlt];exact hc,rfl⟩)
      (.inr (Nat.le_refl _)) (by rw[hel];exact hnew) (by simp only[List.length_append];rw[hcs2,hnl,jU,<- Nat.add_mul]) YU hge (grownCap_le_maxLen w (n+m) cap e (by simp only[maxLen];omega)) (by show o.len<=n+m;omega) (fun hh=>by simp only at hh;omega) ⟨rfl,rfl,rfl,hlive⟩
      (fun k p hk=>by
       have hkl:=(List.getElem?_eq_some_iff.1 hk).1;simp only[List.length_append]at hkl;rw[List.getElem?_append]at hk;have hsl:(cur.toList.take o.cs.length).length=o.cs.length:=by rw[List.length_take];simp;omega
       split at hk
       ·rename_i hko
        have hkc:k < cur.size:=by omega
        have e1:((cur.toList.take o.cs.length).toArray++vals.toArray++Builtin.zeroCells zv.cells (grownCap w (n+m) cap e-(n+m))).getD k Go.undef=cur.getD k Go.undef:=by
         have hb1:k < ((cur.toList.take o.cs.length).toArray++vals.toArray++Builtin.zeroCells zv.cells (grownCap w (n+m) cap e-(n+m))).size:=by
          rw[Array.size_append,Array.size_append,List.size_toArray,hsl];omega
         rw[<- Option.some_inj,show ∀(a:Array Value) (h:k < a.size),some (a.getD k Go.undef)=a[k]? from fun a h=>by simp[Array.getD,h],show ∀(a:Array Value) (h:k < a.size),some (a.getD k Go.undef)=a[k]? from fun a h=>by simp[Array.getD,h]]
         ·rw[Array.getElem?_append_left (by rw[Array.size_append,List.size_toArray,hsl];omega),Array.getElem?_append_left (by rw[List.size_toArray,hsl];omega)]
          rw[List.getElem?_toArray,List.getElem?_take,if_pos hko,Array.getElem?_toList]
         ·exact hkc
         ·exact hb1
        rw[e1];exact hcells k p hk
       ·rename_i hko
        have hkv:k-o.cs.length < vals.length:=by rw[hvl];omega
        have e1:((cur.toList.take o.cs.length).toArray++vals.toArray++Builtin.zeroCells zv.cells (grownCap w (n+m) cap e-(n+m))).getD k Go.undef=vals.getD (k-o.cs.length) Go.undef:=by
         have hb1:k < ((cur.toList.take o.cs.length).toArray++vals.toArray++Builtin.zeroCells zv.cells (grownCap w (n+m) cap e-(n+m))).size:=by
          rw[Array.size_append,Array.size_append,List.size_toArray,List.size_toArray,hsl];omega
         rw[<- Option.some_inj,show ∀(a:Array Value) (h:k < a.size),some (a.getD k Go.undef)=a[k]? from fun a h=>by simp[Array.getD,h]]
         ·rw[Array.getElem?_append_left (by rw[Array.size_append,List.size_toArray,List.size_toArray,hsl];omega),Array.getElem?_append_right (by rw[List.size_toArray,hsl];omega)]
          have e0:k-(cur.toList.take o.cs.length).toArray.size=k-o.cs.length:=by rw[List.size_toArray,hsl]
          rw[e0];simp[List.getD,hkv]
         ·exact hb1
        rw[e1];refine ⟨hvr _ p hk,?_⟩;have:=hone vals[k-o.cs.length] (List.getElem_mem hkv);simpa[List.getD,hkv] using this)
     refine ⟨_,_,_,hrun,ha,hb',.rf (o:={ o with cs:=o.cs++news,len:=n+m }) (by rw[iR,ho];simp) hnz (Nat.le_refl _) rfl fun _=>⟨grownCap w (n+m) cap e,_,_,_,by rw[setμ_same],by rw[setμ_same];exact hnew,YU⟩⟩
 ·cases hb
theorem Pm (hr:HR A h μ w) {mu:Nat->Bool}{dst:Option Tmp}{t ty:TypeId}{p q v:PV}{u x:Value}{h':Hp} (hp:VR h μ w (LL A h μ) p u) (hq:VR h μ w (LL A h μ) q x)
  (hb:aT P mu dst t p q h=some (v,h')) :
  ∃v' w' μ',(Builtin.append_ #[t,t] ty #[u,x]).run P w=.ok v' w'/\HR A h' μ' w'/\Ext h μ w h' μ' w'/\VR h' μ' w' (LL A h' μ') v v':=by
 refine EU hr hp hb fun e i zv m news he hi hzv hsrc _=>?_
 obtain ⟨hu,hie⟩:=kM he;obtain ⟨i',hi',his,hib⟩:=xX hie;rw[hi]at hi';cases hi'
 obtain ⟨hnl,a,c,rfl,hsome⟩:=Xw hr hq hsrc;refine ⟨hnl,?_⟩
 by_cases hm:m=0
 ·subst hm
  exact ⟨[],⟨fun _ base sLen sCap hle=>run_append_nothing hu hie base a sLen sCap c hle,fun h=>absurd h (by omega),fun h=>absurd h (by omega),fun h=>absurd h (by omega)⟩,fun h=>absurd rfl h⟩
 ·obtain ⟨ad,vals,rfl,hvl,hcell,hone,hvr⟩:=hsome hm
  refine ⟨vals,⟨fun h=>absurd h hm,fun h0 h1 h2=>run_append_nil (P:=P) w t ty e i zv hu hi hzv ad m c vals (by rw[his];exact hvl) hcell h0 h1 h2,
   fun h0 g sLen sCap cur hg hroom hfit=>run_append_room (P:=P) w t ty e i hu hi g sLen sCap cur hg ad m c vals (by rw[his];exact hvl) hcell hone hroom hfit,
   fun h0 b sLen sCap olds ho hc hg h63 hfit=>run_append_grow (P:=P) w t ty e i zv hu hi hzv b sLen sCap olds ho hc ad m c vals (by rw[his];exact hvl) hcell hg h63 hfit⟩,fun _=>⟨hvl,hone,hvr⟩⟩
theorem Av {z:Value}{n:Nat} (hone:∀v∈z.cells.toList,v.oneCell'=true):∀v∈(Builtin.zeroCells z.cells n).toList,v.oneCell'=true:=by
 intro v hv;simp only[Builtin.zeroCells,Array.toList_map,List.mem_map]at hv;obtain ⟨j,hj,rfl⟩:=hv;have hj':j < n*z.cells.size:=by simpa using hj
 have hp:0 < z.cells.size:=by
  rcases Nat.eq_zero_or_pos z.cells.size with h|h
  ·rw[h,Nat.mul_zero]at hj';omega
  ·exact h
 have hm:=Nat.mod_lt j hp;rw[getElem!_pos z.cells _ hm];exact hone _ (by simp)
theorem Rt {n:Nat} (hn:n<=1099511627776):IntKind.i64.wrap (n:Int)=n:=by
 have h1:IntKind.i64.wrap (n:Int)=(if (true&&decide ((n:Int) % 18446744073709551616>=9223372036854775808))=true then (n:Int) % 18446744073709551616-18446744073709551616 else (n:Int) % 18446744073709551616):=rfl;rw[h1,if_neg (by simp;omega)];omega
theorem Pn {t tu ty e:TypeId}{i:TypeInfo}{z:Value} (ht:P.underlying t=some (.slice e)) (htu:P.underlying tu=some (.int .i64)) (hi:P.info? e=some i) (hz:i.zero=some z) (hone:∀v∈z.cells.toList,v.oneCell'=true) (hpos:0 < i.size) (n:Nat) (hn:n<=1099511627776) (hby:n*i.bytes<=140737488355328) :
  Wn P w t tu ty e i z (.int .i64 (n:Int)) n (Builtin.zeroCells z.cells n).toList:=by
 have hw:IntKind.i64.wrap (n:Int)=n:=Go.Vm.Rt hn;have h48:¬((281474976710656:Int) < (n:Int)*(i.bytes:Int)):=by
  have:(n:Int)*(i.bytes:Int)=((n*i.bytes:Nat):Int):=by simp
  rw[this];omega
 have hneg:¬((n:Int) < 0):=by omega
 have hnz:0 < n->¬(n*i.size=0):=fun h0 h=>by rcases Nat.mul_eq_zero.1 h with h|h<;>omega
 refine ⟨fun h0 base sLen sCap hle=>?_,fun h0 h63 hb=>?_,fun h0 g sLen sCap cur hg hroom hfit=>?_,fun h0 b sLen sCap olds ho hc hg h63 hfit=>?_⟩
 ·subst h0
  have hw0:IntKind.i64.wrap 0=0:=by decide
  cases base with
  |none=>simp[Builtin.append_,run_underlying ht,run_underlying htu,sizeOf,typeInfo,hi,asInt,asIntOf,hw0,hle]
  |some b=>simp[Builtin.append_,run_underlying ht,run_underlying htu,sizeOf,typeInfo,hi,asInt,asIntOf,hw0,hle,storeCells]
 ·have hn0:n≠0:=by omega
  have hi0:i.size≠0:=by omega
  have h63':¬(9223372036854775807 < (n:Int)):=by omega
  have h48':¬(281474976710656 < Builtin.nextslicecap n 0*i.bytes):=by rw[nextslicecap_zero h0];omega
  simp[Builtin.append_,run_underlying ht,run_underlying htu,sizeOf,typeInfo,zeroValue,hi,hz,asInt,asIntOf,hw,h48,hneg,hn0,hi0,h63',h48',Question.forced,run_firstCells_none,newRow,grownCap];exact fun h=>absurd h (hnz h0)
 ·have hn0:n≠0:=by omega
  have hi0:i.size≠0:=by omega
  have hst:=run_storeCells_at P g (sLen*i.size) e (Builtin.zeroCells z.cells n).toList 0 cur w hg (by simpa using hfit) (Av hone);simp only[Nat.add_zero]at hst;simp[Builtin.append_,run_underlying ht,run_underlying htu,sizeOf,typeInfo,zeroValue,hi,hz,asInt,asIntOf,hw,h48,hneg,hn0,hi0,hroom,Addr.add_lit,hst];exact fun h=>absurd h (hnz h0)
 ·have hn0:n≠0:=by omega
  have hi0:i.size≠0:=by omega
  have hnr:¬(sLen+n<=sCap):=by omega
  have h63':¬(9223372036854775807 < ((sLen:Int)+(n:Int))):=by omega
  have h48':¬(281474976710656 < Builtin.nextslicecap (sLen+n) sCap*i.bytes):=by omega
  have hfo:=run_firstCells_some (P:=P) w.drew i.size sLen b sLen sCap olds ho (by simpa using hc);simp[Builtin.append_,run_underlying ht,run_underlying htu,sizeOf,typeInfo,zeroValue,hi,hz,asInt,asIntOf,hw,h48,hneg,hn0,hi0,hnr,h63',h48',Question.forced,hfo,newRow,grownCap];exact fun h=>absurd h (hnz h0)
theorem NK (z:List Tr):∀n,flat (List.replicate n (zEl z))=gX z n
 |0=>rfl
 |n+1=>by
  rw[List.replicate_succ,gX,<- NK z n]
  show (zEl z).cells++flat _=_
  congr 1;unfold zEl;split<;>rfl
theorem Po (hr:HR A h μ w) {mu:Nat->Bool}{dst:Option Tmp}{t tu ty:TypeId}{p q v:PV}{u x:Value}{h':Hp} (hp:VR h μ w (LL A h μ) p u) (hq:VR h μ w (LL A h μ) q x)
  (hb:aT P mu dst t p (ofMake P t tu q) h=some (v,h')) :
  ∃v' w' μ',(Builtin.append_ #[t,tu] ty #[u,x]).run P w=.ok v' w'/\HR A h' μ' w'/\Ext h μ w h' μ' w'/\VR h' μ' w' (LL A h' μ') v v':=by
 refine EU hr hp hb fun e i zv m news he hi hzv hsrc hzs=>?_
 obtain ⟨hu,hie⟩:=kM he;obtain ⟨i',hi',his,hib⟩:=xX hie;rw[hi]at hi';cases hi'
 obtain ⟨z,hz,aeg,hpos⟩:=hzs;obtain ⟨i',zv',hi',acN,YV,hzc⟩:=pK (h:=h) (μ:=μ) (w:=w) hz (LL A h μ);rw[hi]at hi';cases hi'
 rw[hzv]at acN;cases acN
 unfold ofMake at hsrc;split at hsrc<;>try (simp[iP]at hsrc;done)
 rename_i n e' hint hel;rw[he]at hel;cases hel
 unfold Gt at hsrc;rw[hz]at hsrc;simp only at hsrc;split at hsrc<;>try (simp[iP]at hsrc;done)
 rename_i hc;obtain ⟨hn0,hn1,hn2⟩:=hc;obtain ⟨k,rfl⟩:∃k:Nat,n=k:=⟨n.toNat,by omega⟩
 rw[Int.toNat_natCast]at hsrc hn2;have htu:=DV hint;have hx:x=.int .i64 (k:Int):=by
  cases hq.tree
  rfl
 subst hx;unfold iP at hsrc;simp only[List.length_replicate,NK]at hsrc;split at hsrc<;>try (simp at hsrc;done)
 rename_i hfl;simp only[Option.some.injEq,Prod.mk.injEq]at hsrc;obtain ⟨rfl,rfl⟩:=hsrc;obtain ⟨hzl,hzg⟩:=xV z k;have hone:∀v∈zv.cells.toList,v.oneCell'=true:=by
  intro v hv;obtain ⟨j,hj,rfl⟩:=List.mem_iff_getElem.1 hv;have hj':j < zv.cells.size:=by simpa using hj
  have hjz:j < z.length:=by omega
  have:=(hzc.2 j (.t z[j]) (by rw[List.getElem?_map,List.getElem?_eq_getElem hjz];rfl)).2;simpa[Array.getD,hj'] using this
 refine ⟨by simpa using hfl,(Builtin.zeroCells zv.cells k).toList,Pn hu htu hi hzv hone (by omega) k (by omega) (by rw[hib];exact hn2),fun hk0=>⟨?_,Av hone,fun j p hp=>?_⟩⟩
 ·have:=size_zeroCells zv.cells k
  simp only[Array.length_toList,this,YV,aeg]
 ·have hcz:=(Au YV hzc k).2 j p hp
  have e1:(Builtin.zeroCells zv.cells k).toList.getD j Go.undef=((Array.range (k*z.length)).map (zv.cells[· % zv.cells.size]!)).getD j Go.undef:=by
   have e0:∀a:Array Value,a.toList.getD j Go.undef=a.getD j Go.undef:=fun a=>by
    rw[Array.getD_eq_getD_getElem?,List.getD_eq_getElem?_getD,Array.getElem?_toList]
   rw[e0,<- YV];rfl
  rw[e1];exact hcz.1
end
end Go.Vm
end
section
namespace Go.Vm
open Go
section
variable {P:Program}{A:Nat->Prop}{h:Hp}{μ:Id->Nat}{w:World}
theorem Ur (l:List Tr) (esz:Nat) (he:∀x∈l,x.cells.length=esz):∀a,a<=l.length->flat (l.drop a)=(flat l).drop (a*esz):=by
 induction l with
 |nil=>intro a _;simp[flat]
 |cons x r ih =>
  intro a ha;cases a with
  |zero=>simp
  |succ a =>
   have h1:=ih (fun y hy=>he y (by simp[hy])) a (by simpa using ha);simp only[List.drop_succ_cons,h1];simp only[flat,List.flatMap_cons];have hx:=he x (by simp);rw[Nat.succ_mul,List.drop_append];have e1:List.drop (a*esz+esz) x.cells=[]:=List.drop_eq_nil_of_le (by rw[hx];omega);rw[e1,List.nil_append,hx];congr 1;omega
theorem Us (l:List Tr) (esz:Nat) (he:∀x∈l,x.cells.length=esz):∀a,a<=l.length->flat (l.take a)=(flat l).take (a*esz):=by
 induction l with
 |nil=>intro a _;simp[flat]
 |cons x r ih =>
  intro a ha;cases a with
  |zero=>simp[flat]
  |succ a =>
   have h1:=ih (fun y hy=>he y (by simp[hy])) a (by simpa using ha);simp only[flat]at h1;simp only[flat,List.take_succ_cons,List.flatMap_cons,h1];have hx:=he x (by simp);rw[Nat.succ_mul,List.take_append];have e1:x.cells.take (a*esz+esz)=x.cells:=List.take_of_length_le (by rw[hx];omega);rw[e1,hx];congr 2;omega
theorem bJ (l:List Tr) (esz:Nat) (he:∀x∈l,x.cells.length=esz):(flat l).length=l.length*esz:=by
 induction l with
 |nil=>simp[flat]
 |cons x r ih =>
  have:=ih (fun y hy=>he y (by simp[hy]));simp only[flat]at this;simp only[flat,List.flatMap_cons,List.length_append,this,he x (by simp),List.length_cons,Nat.succ_mul];omega
def Bnd (v:Option Value) (d:Int) (a:Int):Prop:=(v=none/\a=d)\/∃k,v=some (.int k a)
theorem xY (b:Bool) {len cap:Nat}{lo hi:Option Value}{i j:Int} (h1:Bnd lo 0 i) (h2:Bnd hi len j) (h0:0<=i) (hij:i<=j) (hj:j<=len) (hc:len<=cap) :
  (Instr.sliceBounds b len cap lo hi none).run P w=.ok (i.toNat,j.toNat,cap) w:=by
 have hjc:j<=(cap:Int):=by omega
 have hj0:0<=j:=by omega
 have hmax:max j 0=j:=by omega
 rcases h1 with ⟨rfl,rfl⟩|⟨k,rfl⟩<;>rcases h2 with ⟨rfl,rfl⟩|⟨k',rfl⟩ <;>
  simp[Instr.sliceBounds,Instr.sliceBound,asIntOf,h0,hij,hjc,hj0,hmax]
theorem Im {L:Nat->Prop}{t e:TypeId}{nn:Bool}{l:List Tr}{u:Value} (hr:Reads w L (.sl nn l) u) (he:bg P t=some e) (hfl:(flat l).length=l.length*P.cellsOf e)
  {lo hi:Option Value}{i j:Int} (h1:Bnd lo 0 i) (h2:Bnd hi l.length j) (h0:0<=i) (hij:i<=j) (hj:j<=l.length) :
  ∃u',(Instr.sliceAt t u lo hi none).run P w=.ok u' w/\Reads w L (.sl nn ((l.take j.toNat).drop i.toNat)) u':=by
 obtain ⟨hu,hi'⟩:=kM he;have hrun:∀(a:Option Addr) (cap:Nat),l.length<=cap->(Instr.sliceAt t (.slice a l.length cap) lo hi none).run P w=.ok (.slice (if cap=i.toNat then a else a.map (·.add (i.toNat*P.cellsOf e))) (j.toNat-i.toNat) (cap-i.toNat)) w:=by
  intro a cap hc;simp[Instr.sliceAt,run_underlying hu,Instr.slice,xY (P:=P) (w:=w) true h1 h2 h0 hij hj hc,gJ w hi']
 rcases yZ hr with ⟨rfl,rfl,rfl⟩|⟨rfl,a,cap,esz,vals,rfl,hs,hc,hm,jU,hcell,hh⟩
 ·simp at hj
  have hi0:i=0:=by omega
  have hj0:j=0:=by omega
  subst hi0;subst hj0
  exact ⟨_,hrun none 0 (by simp),by simpa using .nil⟩
 ·refine ⟨_,hrun (some a) cap hc,?_⟩
  have hlen:((l.take j.toNat).drop i.toNat).length=j.toNat-i.toNat:=by rw[List.length_drop,List.length_take];omega
  rw[<- hlen]
  by_cases hne:(l.take j.toNat).drop i.toNat=[]
  ·rw[hne]
   have Wo:∀(k:Nat) (x:Tr),(flat ([]:List Tr))[k]?=some x->False:=by intro k x h;simp[flat]at h
   split
   ·exact .sl (esz:=0) (vals:=vals) (fun h=>absurd rfl h) (by simp) (by omega) (by simp) (fun k x h=>(Wo k x h).elim) (fun k x h=>(Wo k x h).elim)
   ·exact .sl (esz:=0) (vals:=vals) (fun h=>absurd rfl h) (by simp) (by omega) (by simp) (fun k x h=>(Wo k x h).elim) (fun k x h=>(Wo k x h).elim)
  ·have hpos:0 < ((l.take j.toNat).drop i.toNat).length:=by
    cases hx:(l.take j.toNat).drop i.toNat with
    |nil=>exact absurd hx hne
    |cons _ _=>simp
   rw[hlen]at hpos;have hl0:0 < l.length:=by omega
   have hez:esz=P.cellsOf e:=by
    rw[bJ l esz jU]at hfl;exact Nat.eq_of_mul_eq_mul_left hl0 hfl
   rw[if_neg (by omega)];have hf:flat ((l.take j.toNat).drop i.toNat)=((flat l).take (j.toNat*esz)).drop (i.toNat*esz):=by
    rw[Ur _ esz (fun x hx=>jU x (List.mem_of_mem_take hx)) _ (by rw[List.length_take];omega),Us _ esz jU _ (by omega)]
   have hget:∀(k:Nat) (x:Tr),(flat ((l.take j.toNat).drop i.toNat))[k]?=some x->(flat l)[i.toNat*esz+k]?=some x:=by
    intro k x hk;rw[hf,List.getElem?_drop,List.getElem?_take]at hk;split at hk
    ·exact hk
    ·cases hk
   refine .sl (esz:=esz) (vals:=fun k=>vals (i.toNat*esz+k)) (fun hne'=>Gy a (hs (fun e0=>hne' (by rw[hf,e0];simp))) _) (by omega) (by omega) (fun x hx=>jU x (List.mem_of_mem_take (List.mem_of_mem_drop hx))) (fun k x hk=>?_) (fun k x hk=>hh _ x (hget k x hk));have:=hcell _ x (hget k x hk);have hs1:a.spot=none:=hs (fun e0=>by have:=hget k x hk;rw[e0]at this;simp at this);rw[<- hez,add_add a hs1,block_add];exact this
theorem GA (hr:HR A h μ w) {L:Nat->Prop}:∀(k:Nat) (p:PV) (v:Value),VR h μ w L p v->∀id∈reach h k p,(hget h id).isSome:=by
 intro k
 induction k generalizing L with
 |zero=>intro p v _ id hid;simp[reach]at hid
 |succ k ih =>
  intro p v hv id hid;have lists:∀(l:List PV) (vs:Array Value),(∀(i:Nat) p,l[i]?=some p->VR h μ w L p (vs.getD i Go.undef))->id∈l.flatMap (reach h k)->(hget h id).isSome:=by
   intro l vs hvs hm;obtain ⟨p,hp,sZ⟩:=List.mem_flatMap.1 hm;obtain ⟨i,hi,rfl⟩:=List.mem_iff_getElem.1 hp;exact ih _ _ (hvs i _ (List.getElem?_eq_getElem hi)) id sZ
  cases hv with
  |t _=>simp[reach]at hid
  |ro=>simp[reach]at hid
  |@ad id' n off v o ho hz hn h1 hv' =>
   simp only[reach,ho,List.mem_cons,List.mem_flatMap]at hid;rcases hid with rfl|⟨p,hp,sZ⟩
   ·simp[ho]
   ·obtain ⟨cur,cap,_,_,_,_,_,_,_,hcells⟩:=hr.obj id' o ho hz
    obtain ⟨i,hi,rfl⟩:=List.mem_iff_getElem.1 hp;exact ih _ _ (hcells i _ (List.getElem?_eq_getElem hi)).1 id sZ
  |mp=>simp[reach]at hid
  |it=>simp[reach]at hid
  |skip=>simp[reach]at hid
  |undef=>simp[reach]at hid
  |agg hl hvs=>exact lists _ _ hvs (by simpa[reach] using hid)
  |tup hl hvs=>exact lists _ _ hvs (by simpa[reach] using hid)
  |fn hl hvs=>exact lists _ _ hvs (by simpa[reach] using hid)
  |@rf id' n v o ho hz hn h1 hv' =>
   simp only[reach,ho,List.mem_cons,List.mem_flatMap]at hid;rcases hid with rfl|⟨p,hp,sZ⟩
   ·simp[ho]
   ·obtain ⟨cur,cap,_,_,_,_,_,_,_,hcells⟩:=hr.obj id' o ho hz
    obtain ⟨i,hi,rfl⟩:=List.mem_iff_getElem.1 hp;exact ih _ _ (hcells i _ (List.getElem?_eq_getElem hi)).1 id sZ
theorem YW (h:Hp) (k:Nat) (id:Id) (n:Nat):aS h (k+1) (.rf id n)=match hget h id with
  |some o=>if o.len=n then (match bA (aS h k) o.cs with|some ts=>some (.sl true (elems o.ag o.esz o.len ts))|none=>none) else none
  |none=>none:=rfl
theorem Wp (ids:List Id) {b:Nat} (hb:LL A (frz h ids) μ b):LL A h μ b:=by
 rcases hb with hA|⟨i,oi,hi,hl,hμ⟩
 ·exact .inl hA
 ·rw[mJ]at hi
  cases hh:hget h i with
  |none=>simp[hh]at hi
  |some o=>simp[hh]at hi;subst hi;simp at hl;exact .inr ⟨i,o,hh,hl.1,hμ⟩
theorem Xx (hr:HR A h μ w) {ids:List Id}{k:Nat}{p:PV}{v:Value}{x:Tr} (hv:VR h μ w (LL A h μ) p v) (ht:aS h k p=some x) (hsub:∀id∈reach h k p,id∈ids):Reads w (LL A (frz h ids) μ) x v :=
 wz hr k p v x hv ht (fun _ hb=>Wp ids hb) (fun _ hb id hid=>Rk hr hb (hsub id hid) (GA hr k p v hv id hid))
theorem Cm {sl:Sl}{a:Act} (hs:∀t,VR h μ w (LL A h μ) (sl t) (a.tmps.getD t undef)) {lo:Option Operand}{d i:Int} (hl:(lo.map (ev sl)).elim (some d) intOf=some i):Bnd (lo.map a.eval) d i:=by
 cases lo with
 |none=>simp at hl;exact .inl ⟨rfl,hl.symm⟩
 |some x =>
  simp only[Option.map_some,Option.elim]at hl;have hv:=Aq hs x;unfold intOf at hl;split at hl<;>simp at hl
  subst hl;rename_i k n he;rw[he]at hv;exact .inr ⟨k,by rw[Option.map_some,jf hv.tree]⟩
theorem Ru (hr:HR A h μ w) {sl:Sl}{a:Act} (hs:∀t,VR h μ w (LL A h μ) (sl t) (a.tmps.getD t undef)) {t:TypeId}{x:Operand}{lo hi:Option Operand}{v:PV}{h':Hp}
  (hb:kK P t (ev sl x) (lo.map (ev sl)) (hi.map (ev sl)) h=some (v,h')) :
  ∃v' w' μ',(Instr.sliceAt t (a.eval x) (lo.map a.eval) (hi.map a.eval) none).run P w=.ok v' w'/\HR A h' μ' w'/\Ext h μ w h' μ' w'/\VR h' μ' w' (LL A h' μ') v v':=by
 have hx:=Aq hs x;unfold kK at hb;split at hb
 ·rename_i nn l he
  rw[he]at hx;split at hb<;>try (simp at hb;done)
  rename_i e hel;split at hb<;>try (simp at hb;done)
  rename_i hfl;split at hb<;>try (simp at hb;done)
  rename_i i j hlo hhi;split at hb<;>simp at hb
  obtain ⟨rfl,rfl⟩:=hb;rename_i hc;obtain ⟨u',h1,h2⟩:=Im hx.tree hel hfl (Cm hs hlo) (Cm hs hhi) hc.1 hc.2.1 hc.2.2;exact ⟨u',w,μ,h1,hr,Ext.refl _ _ _,.t h2⟩
 ·rename_i id n he
  rw[he]at hx;split at hb<;>try (simp at hb;done)
  rename_i e o nn l hel ho htr;split at hb<;>try (simp at hb;done)
  rename_i hc0;obtain ⟨hlen,jU⟩:=hc0;split at hb<;>try (simp at hb;done)
  rename_i i j hlo hhi;split at hb<;>simp at hb
  obtain ⟨rfl,rfl⟩:=hb;rename_i hc;obtain ⟨f1,f2⟩:=hr.frz (reach h dep (.rf id n));have hrd:=Xx hr hx htr (fun _ h=>h);have hshape:nn=true/\l.length=n/\(flat l).length=l.length*P.cellsOf e:=by
   rcases yZ hrd with ⟨rfl,rfl,hv⟩|⟨rfl,b,cap,esz,vals,hv,hs',hc',hm,YX,_,_⟩
   ·obtain ⟨cap,hv'⟩:=hx.J5 (by simp[valid,ho,hlen])
    rw[hv]at hv';cases hv'
   ·obtain ⟨cap',hv'⟩:=hx.J5 (by simp[valid,ho,hlen])
    rw[hv]at hv';have hln:l.length=n:=by cases hv';rfl
    refine ⟨rfl,hln,?_⟩;rw[show dep=5+1 from rfl,YW]at htr;simp only[ho,hlen,if_true]at htr;split at htr
    ·rename_i ts hm'
     simp at htr;obtain ⟨cur,cap,hblk,hep,hag,hcl,hcs,hle,hmax,hcell⟩:=hr.obj id o ho (by cases hx with|rf ho' hz _ _ _=>rw[ho]at ho';cases ho';exact hz);rw[bJ l esz YX]
     by_cases hl0:l.length=0
     ·simp[hl0]
     ·congr 1
      obtain ⟨x0,hmem⟩:∃y,y∈l:=by
       cases hll:l with
       |nil=>rw[hll]at hl0;exact absurd rfl hl0
       |cons y r=>exact ⟨y,by simp⟩
      rw[<- YX _ hmem,<- jU];have hlts:ts.length=o.len*o.esz:=by rw[(rJ hm').1,hcl]
      have aeh:ts.length=n*o.esz:=by rw[hlts,hlen]
      cases YZ:o.ag with
      |true =>
       rw[YZ]at htr;have:=(Ap o.esz n ts aeh).2.2;exact this x0 (by rw[<- htr]at hmem;simpa[elems] using hmem)
      |false =>
       rw[YZ]at htr;have h1:=hag YZ;simp only[elems,Bool.false_eq_true,if_false]at htr;subst htr;obtain ⟨k,hk,rfl⟩:=List.mem_iff_getElem.1 hmem;obtain ⟨p,hp,hpx⟩:=uZ hm' k _ (List.getElem?_eq_getElem hk);have hp0:=hcell k p hp;have hrr:=wz hr (L':=fun _=>False) _ _ _ _ hp0.1 hpx (fun _ h=>h.elim) (fun _ h=>h.elim);rw[hrr.one hp0.2,h1];rfl
    ·cases htr
  obtain ⟨rfl,hln,hfl⟩:=hshape;rw[<- hln]at hhi hc;obtain ⟨u',h1,h2⟩:=Im hrd hel hfl (Cm hs hlo) (Cm hs hhi) hc.1 hc.2.1 hc.2.2;exact ⟨u',w,μ,h1,f1,f2,.t h2⟩
 ·rename_i s he
  rw[he]at hx;split at hb<;>try (simp at hb;done)
  rename_i hst;split at hb<;>try (simp at hb;done)
  rename_i i j hlo hhi;split at hb<;>simp at hb
  obtain ⟨rfl,rfl⟩:=hb;rename_i hc;have hu:=DW hst;have hv:=EP hx.tree;refine ⟨.string (s.extract i.toNat j.toNat),w,μ,?_,hr,Ext.refl _ _ _,.t (.str _)⟩;rw[hv];simp[Instr.sliceAt,run_underlying hu,Instr.slice,xY (P:=P) (w:=w) false (Cm hs hlo) (Cm hs hhi) hc.1 hc.2.1 hc.2.2 (Nat.le_refl _)]
 ·cases hb
end
end Go.Vm
end
section
namespace Go.Vm
open Go
theorem lI:∀kv:List (Int × Int),kvP (kvC kv)=some kv
 |[]=>rfl
 |(k,v)::r=>by simp only[kvC,kvP,lI r]
theorem Rv {a b:List (Int × Int)} (h:kvC a=kvC b):a=b:=by
 have:=congrArg kvP h;rw[lI,lI]at this;exact Option.some.inj this
theorem Rw {a b:List Bool} (h:flC a=flC b):a=b:=by
 induction a generalizing b with
 |nil=>cases b with
  |nil=>rfl
  |cons=>simp[flC]at h
 |cons x a ih =>
  cases b with
  |nil=>simp[flC]at h
  |cons y b =>
   simp only[flC,List.map_cons,List.cons.injEq,PV.t.injEq,Tr.bool.injEq]at h;rw[h.1,ih h.2]
theorem nU:∀(kv:List (Int × Int)) (i j:Nat),(eZ i kv)[j]?=(kv[j]?).map fun x=>⟨.int .i64 x.1,.int .i64 x.2,i+j⟩
 |[],_,_=>rfl
 |x::r,i,0=>rfl
 |x::r,i,j+1=>by
  simp only[eZ,List.getElem?_cons_succ,nU r (i+1) j];rw[show i+1+j=i+(j+1) by omega]
theorem DX:∀(kv:List (Int × Int)) (x:Int × Int) (i:Nat),eZ i (kv++[x])=eZ i kv++[⟨.int .i64 x.1,.int .i64 x.2,i+kv.length⟩]
 |[],_,_=>rfl
 |y::r,x,i=>by
  simp only[List.cons_append,eZ,DX r x (i+1),List.length_cons];rw[show i+1+r.length=i+(r.length+1) by omega]
theorem wC (d k:Int):∀(kv:List (Int × Int)) (a i:Nat),Instr.findNow (.int .i64) (.int .i64 k) (eZ a kv) i=some ((iQ k i kv).map fun x=>(x.1,Value.int .i64 x.2))
 |[],_,_=>rfl
 |x::r,a,i=>by
  have ih:=wC d k r (a+1) (i+1);simp only[eZ,Instr.findNow,Instr.sameNow,if_true,iQ]
  by_cases h:k=x.1
  ·simp[h]
  ·have:(k==x.1)=false:=by simpa using h
   rw[this,if_neg h];exact ih
theorem wD {k:Int}:∀ {kv:List (Int × Int)}{i j:Nat}{v:Int},iQ k i kv=some (j,v)->∃n,j=i+n/\kv[n]?=some (k,v)
 |[],_,_,_,h=>by simp[iQ]at h
 |x::r,i,j,v,h=>by
  simp only[iQ]at h;split at h
  ·rename_i e
   simp only[Option.some.injEq,Prod.mk.injEq]at h;exact ⟨0,by omega,by rw[e,<- h.2];rfl⟩
  ·obtain ⟨n,h1,h2⟩:=wD h
   exact ⟨n+1,by omega,by simpa using h2⟩
section
variable {P:Program}{A:Nat->Prop}{h:Hp}{μ:Id->Nat}{w:World}
theorem y9 {t:TypeId} (hb:Ih P t=true):∃k e i,P.underlying t=some (.map k e)/\P.underlying k=some (.int .i64)/\P.info? e=some i/\i.zero=some (.int .i64 0):=by
 unfold Ih at hb;split at hb
 ·rename_i k e hu
  simp only[Bool.and_eq_true,beq_iff_eq]at hb;obtain ⟨h1,h2⟩:=hb;have hk:P.underlying k=some (.int .i64):=by
   unfold uw at h1;split at h1
   ·rename_i hk;cases h1;exact hk
   ·cases h1
  split at h2
  ·rename_i hz
   cases hi:P.info? e with
   |none=>simp[hi]at hz
   |some i=>exact ⟨k,e,i,hu,hk,hi,by simpa[hi] using hz⟩
  ·cases h2
 ·cases hb
theorem EW {e:TypeId}{i:TypeInfo} (hi:P.info? e=some i) (hz:i.zero=some (.int .i64 0)) (w:World):(zeroValue e).run P w=.ok (.int .i64 0) w:=by
 simp[zeroValue,typeInfo,hi,hz]
theorem HR.map (hr:HR A h μ w) {id:Id}{o:Obj} (ho:hget h id=some o) (hz:o.esz=0) (hg:o.ag=true):∃kv,o.cs=kvC kv/\w.heap[μ id]?=some (.map (eZ 0 kv).toArray kv.length):=(hr.spec id o ho hz).2.1 hg
theorem M9 (hr:HR A h μ w) {mu:Nat->Bool}{dst:Option Tmp}{t:TypeId}{v:PV}{h':Hp} (he:rG P mu dst t h=some (v,h')) :
  ∃v' w' μ',(Instr.makeMap t none).run P w=.ok v' w'/\HR A h' μ' w'/\Ext h μ w h' μ' w'/\VR h' μ' w' (LL A h' μ') v v':=by
 unfold rG at he;split at he<;>try (cases he;done)
 rename_i d;split at he<;>cases he
 obtain ⟨h1,h2⟩:=HR.newS hr d ⟨[],0,0,t,true,true⟩ (.map #[] 0) rfl rfl (fun _ _ _=>by simp) (fun _=>⟨[],rfl,rfl⟩) (fun h=>by cases h);refine ⟨_,_,_,rfl,h1,h2,?_⟩;have:=VR.mp (h:=hnew h d ⟨[],0,0,t,true,true⟩) (μ:=setμ μ (hnext h d) w.heap.size) (w:=w.alloc (.map #[] 0)) (L:=LL A (hnew h d ⟨[],0,0,t,true,true⟩) (setμ μ (hnext h d) w.heap.size)) (id:=hnext h d) (o:=⟨[],0,0,t,true,true⟩) (by rw[dz,if_pos rfl]) rfl rfl;rw[setμ_same]at this;exact this
theorem Rx (hr:HR A h μ w) {mu:Nat->Bool}{dst:Option Tmp}{t:TypeId}{m v:PV}{u:Value}{h':Hp} (hm:VR h μ w (LL A h μ) m u) (he:xR P mu dst t m h=some (v,h')) :
  ∃v' w' μ',(Instr.range t u).run P w=.ok v' w'/\HR A h' μ' w'/\Ext h μ w h' μ' w'/\VR h' μ' w' (LL A h' μ') v v':=by
 unfold xR at he;split at he<;>try (cases he;done)
 rename_i d id;split at he<;>try (cases he;done)
 rename_i o ho;split at he<;>try (cases he;done)
 rename_i hc;obtain ⟨_,hz,hg,hb⟩:=hc;obtain ⟨kv,hcs,hheap⟩:=hr.map ho hz hg;rw[hcs,lI]at he;simp only[Option.some.injEq,Prod.mk.injEq]at he;obtain ⟨rfl,rfl⟩:=he;obtain ⟨k,e,i,hu,_⟩:=y9 hb;have hval:u=.map (some (μ id)):=by cases hm;rfl
 subst hval;obtain ⟨h1,h2⟩:=HR.newS hr d ⟨.mp id::.t (.int .i64 (-1))::flC (List.replicate kv.length false),0,0,t,false,true⟩ (.mapIter (some (μ id)) kv.length #[] kv.length) rfl rfl (fun _ _ _=>by simp) (fun h=>by cases h)
  (fun _=>⟨id,o,-1,List.replicate kv.length false,#[],rfl,ho,hz,hg,by simp,fun h=>by omega,fun i=>by simp[List.getD,List.getElem?_replicate];split<;>rfl⟩)
 refine ⟨_,_,_,run_range_map w t k e (μ id) _ _ hu hheap,h1,h2,?_⟩;have:=VR.it (h:=hnew h d ⟨.mp id::.t (.int .i64 (-1))::flC (List.replicate kv.length false),0,0,t,false,true⟩) (μ:=setμ μ (hnext h d) w.heap.size) (w:=w.alloc (.mapIter (some (μ id)) kv.length #[] kv.length)) (L:=LL A (hnew h d ⟨.mp id::.t (.int .i64 (-1))::flC (List.replicate kv.length false),0,0,t,false,true⟩) (setμ μ (hnext h d) w.heap.size)) (id:=hnext h d) (o:=⟨.mp id::.t (.int .i64 (-1))::flC (List.replicate kv.length false),0,0,t,false,true⟩) (by rw[dz,if_pos rfl]) rfl rfl;rw[setμ_same]at this;exact this
theorem Ut {w:World}{r:Nat}{o:Go.Obj} (hb:w.heap[r]?=some o):({ w with heap:=w.heap.setIfInBounds r o }:World)=w:=by
 have:w.heap.setIfInBounds r o=w.heap:=by
  apply Array.ext_getElem?;intro i;rw[Array.getElem?_setIfInBounds];split
  ·rename_i e;subst e
   have:=(Array.getElem?_eq_some_iff.1 hb).1;rw[if_pos this,hb]
  ·rfl
 rw[this]
theorem qw {w:World}{r k:Nat}{o:Go.Obj} (hk:k≠r):({ w with heap:=w.heap.setIfInBounds r o }:World).heap[k]?=w.heap[k]?:=by
 simp[Ne.symm hk]
theorem sK {w:World}{r:Nat}{o o':Go.Obj} (hb:w.heap[r]?=some o'):({ w with heap:=w.heap.setIfInBounds r o }:World).heap[r]?=some o:=by
 have:=(Array.getElem?_eq_some_iff.1 hb).1;simp[this]
theorem Kz (hr:HR A h μ w) {t:TypeId}{m k v:PV}{u y:Value}{h':Hp} (hm:VR h μ w (LL A h μ) m u) (hk:VR h μ w (LL A h μ) k y) (he:Al P t m k h=some (v,h')) :
  ∃v' w' μ',(Instr.mapEntry t u y).run P w=.ok v' w'/\HR A h' μ' w'/\Ext h μ w h' μ' w'/\VR h' μ' w' (LL A h' μ') v v':=by
 unfold Al at he;split at he<;>try (cases he;done)
 rename_i id k;split at he<;>try (cases he;done)
 rename_i o ho;split at he<;>try (cases he;done)
 rename_i hc;obtain ⟨hz,hg,hlive,hb⟩:=hc;obtain ⟨kv,hcs,hheap⟩:=hr.map ho hz hg;rw[hcs,lI]at he;simp only at he;obtain ⟨kt,et,i,hu,hkt,hi,hz0⟩:=y9 hb;have hval:u=.map (some (μ id)):=by cases hm;rfl
 subst hval;have hy:=jf hk.tree;subst hy;have hfind:=wC 0 k kv 0 0;cases hx:iQ k 0 kv with
 |some q =>
  obtain ⟨j,x⟩:=q;rw[hx]at he hfind;simp only[Option.some.injEq,Prod.mk.injEq]at he;obtain ⟨rfl,rfl⟩:=he;obtain ⟨n,hn,hkn⟩:=wD hx;have hn:j=n:=by omega
  subst hn;have hent:(eZ 0 kv)[j]?=some ⟨.int .i64 k,.int .i64 x,j⟩:=by rw[nU,hkn];simp
  have hmod:(eZ 0 kv).toArray.modify j (fun e=>{ e with key:=Value.int .i64 k })=(eZ 0 kv).toArray:=by
   apply Array.ext_getElem?;intro i';rw[Array.getElem?_modify];split
   ·rename_i e;subst e
    simp[hent]
   ·rfl
  refine ⟨.tuple #[.int .i64 x,.int .i64 j],w,μ,?_,hr,Ext.refl _ _ _,.t (.tup rfl fun i' y hy=>?_)⟩
  ·have hrun:(Instr.mapEntry t (.map (some (μ id))) (.int .i64 k)).run P w=.ok (.tuple #[.int .i64 x,.int .i64 j]) { w with heap:=w.heap.setIfInBounds (μ id) (.map ((eZ 0 kv).toArray.modify j (fun e=>{ e with key:=Value.int .i64 k })) kv.length) }:=by
    simp[Instr.mapEntry,run_underlying hu,MapKept.run_getObj_map hheap,MapKept.run_checkKey hkt (show MapKept.IsKey (.int .i64) (.int .i64 k) from rfl),MapKept.run_findKey hkt hfind,hent,MapKept.run_keyThatStays (show MapKept.IsKey (.int .i64) (.int .i64 k) from rfl),MapKept.run_setObj_map _ hheap,Result.andThen,goInt]
   rw[hrun,hmod,Ut hheap]
  ·match i',hy with
   |0,hy=>simp at hy;subst hy;exact .int _ _
   |1,hy=>simp at hy;subst hy;exact .int _ _
   |n+2,hy=>simp at hy
 |none =>
  rw[hx]at he hfind;simp only[Option.some.injEq,Prod.mk.injEq]at he;obtain ⟨rfl,rfl⟩:=he;have hpush:(eZ 0 kv).toArray.push ⟨.int .i64 k,.int .i64 0,kv.length⟩=(eZ 0 (kv++[(k,0)])).toArray:=by
   rw[DX];simp
  have hrun:(Instr.mapEntry t (.map (some (μ id))) (.int .i64 k)).run P w=.ok (.tuple #[.int .i64 0,.int .i64 kv.length]) { w with heap:=w.heap.setIfInBounds (μ id) (.map (eZ 0 (kv++[(k,0)])).toArray (kv++[(k,0)]).length) }:=by
   rw[<- hpush];simp[Instr.mapEntry,run_underlying hu,MapKept.run_getObj_map hheap,MapKept.run_checkKey hkt (show MapKept.IsKey (.int .i64) (.int .i64 k) from rfl),MapKept.run_findKey hkt hfind,EW hi hz0,MapKept.run_setObj_map _ hheap,Result.andThen,goInt]
  obtain ⟨h1,h2⟩:=HR.NH (w':={ w with heap:=w.heap.setIfInBounds (μ id) (.map (eZ 0 (kv++[(k,0)])).toArray (kv++[(k,0)]).length) }) hr id o { o with cs:=kvC (kv++[(k,0)]) } (.map (eZ 0 (kv++[(k,0)])).toArray (kv++[(k,0)]).length) ho hz hlive ⟨hz,(show o.len=0 from hr.Ij ho hz),rfl,hlive⟩ ⟨rfl,rfl,rfl⟩ (by simp) (fun k hk=>qw hk) (sK hheap)
   (fun _=>⟨_,rfl,rfl⟩) (fun hf=>by rw[hg]at hf;cases hf)
  refine ⟨_,_,μ,hrun,h1,h2,.t (.tup rfl fun i' y hy=>?_)⟩
  match i',hy with
  |0,hy=>simp at hy;subst hy;exact .int _ _
  |1,hy=>simp at hy;subst hy;exact .int _ _
  |n+2,hy=>simp at hy
theorem findIdx_born:∀(kv:List (Int × Int)) (a n:Nat),n < kv.length->(eZ a kv).findIdx? (fun e=>(e.born:Int)==((a+n:Nat):Int))=some n
 |[],_,_,h=>by simp at h
 |x::r,a,0,_=>by simp[eZ,List.findIdx?_cons]
 |x::r,a,n+1,h=>by
  have ih:=findIdx_born r (a+1) n (by simpa using h);rw[show a+1+n=a+(n+1) by omega]at ih;have h0:((a:Int)==((a+(n+1):Nat):Int))=false:=by rw[beq_eq_false_iff_ne];omega
  simp only[eZ,List.findIdx?_cons,h0,ih];rfl
theorem NM:∀(kv:List (Int × Int)) (a n:Nat) (y:Int × Int) (x:Int),kv[n]?=some y->(eZ a kv).modify n (fun e=>{ e with val:=Value.int .i64 x })=eZ a (kv.set n (y.1,x))
 |[],_,_,_,_,h=>by simp at h
 |z::r,a,0,y,x,h=>by simp at h;subst h;rfl
 |z::r,a,n+1,y,x,h=>by
  have ih:=NM r (a+1) n y x (by simpa using h);simp only[List.set_cons_succ,eZ,List.modify_succ_cons,ih]
theorem GD (hr:HR A h μ w) {t:TypeId}{m i x:PV}{u y z:Value}{h':Hp} (hm:VR h μ w (LL A h μ) m u) (hi:VR h μ w (LL A h μ) i y) (hx:VR h μ w (LL A h μ) x z) (he:xq m i x h=some h') :
  ∃w' μ',(Instr.entryStore t u y z).run P w=.ok () w'/\HR A h' μ' w'/\Ext h μ w h' μ' w':=by
 unfold xq at he;split at he<;>try (cases he;done)
 rename_i id i x;split at he<;>try (cases he;done)
 rename_i o ho;split at he<;>try (cases he;done)
 rename_i hc;obtain ⟨hz,hg,hlive,h0⟩:=hc;obtain ⟨kv,hcs,hheap⟩:=hr.map ho hz hg;rw[hcs,lI]at he;simp only at he;split at he<;>cases he
 rename_i q hq;obtain ⟨n,rfl⟩:∃n:Nat,i=n:=⟨i.toNat,by omega⟩
 rw[Int.toNat_natCast]at hq ⊢;have hval:u=.map (some (μ id)):=by cases hm;rfl
 subst hval;have hy:=jf hi.tree;subst hy;have hzz:=jf hx.tree;subst hzz;have hn:n < kv.length:=(List.getElem?_eq_some_iff.1 hq).1;have hidx:=findIdx_born kv 0 n hn;rw[Nat.zero_add]at hidx;have hmod:(eZ 0 kv).toArray.modify n (fun e=>{ e with val:=Value.int .i64 x })=(eZ 0 (kv.set n (q.1,x))).toArray:=by
  rw[<- NM kv 0 n q x hq];simp
 have hrun:(Instr.entryStore t (.map (some (μ id))) (.int .i64 n) (.int .i64 x)).run P w=.ok () { w with heap:=w.heap.setIfInBounds (μ id) (.map (eZ 0 (kv.set n (q.1,x))).toArray (kv.set n (q.1,x)).length) }:=by
  rw[<- hmod,List.length_set];simp[Instr.entryStore,MapKept.run_getObj_map hheap,asInt,asIntOf,hidx,MapKept.run_setObj_map _ hheap,Result.andThen]
 obtain ⟨h1,h2⟩:=HR.NH (w':={ w with heap:=w.heap.setIfInBounds (μ id) (.map (eZ 0 (kv.set n (q.1,x))).toArray (kv.set n (q.1,x)).length) }) hr id o { o with cs:=kvC (kv.set n (q.1,x)) } (.map (eZ 0 (kv.set n (q.1,x))).toArray (kv.set n (q.1,x)).length) ho hz hlive ⟨hz,(show o.len=0 from hr.Ij ho hz),rfl,hlive⟩ ⟨rfl,rfl,rfl⟩ (by simp) (fun k hk=>qw hk) (sK hheap)
  (fun _=>⟨_,rfl,rfl⟩) (fun hf=>by rw[hg]at hf;cases hf)
 exact ⟨_,μ,hrun,h1,h2⟩
theorem Io {k:Int} (x:Int):∀ {kv:List (Int × Int)}{i j:Nat}{v:Int},iQ k i kv=some (j,v)->gU k x kv=kv.set (j-i) (k,x)
 |[],_,_,_,h=>by simp[iQ]at h
 |y::r,i,j,v,h=>by
  simp only[iQ]at h;simp only[gU];split at h
  ·rename_i e
   simp only[Option.some.injEq,Prod.mk.injEq]at h;rw[if_pos e,<- h.1,Nat.sub_self];rfl
  ·rename_i e
   rw[if_neg e];obtain ⟨n,h1,_⟩:=wD h;have ih:=Io x h;rw[show j-i=(j-(i+1))+1 by omega,List.set_cons_succ,ih]
theorem Ip {k:Int} (x:Int):∀ {kv:List (Int × Int)}{i:Nat},iQ k i kv=none->gU k x kv=kv++[(k,x)]
 |[],_,_=>rfl
 |y::r,i,h=>by
  simp only[iQ]at h;simp only[gU];split at h
  ·cases h
  ·rename_i e
   rw[if_neg e,Ip x h];rfl
theorem Pp (hr:HR A h μ w) {t:TypeId}{m k v:PV}{u y:Value} (hm:VR h μ w (LL A h μ) m u) (hk:VR h μ w (LL A h μ) k y) (he:nT P t m k h=some v) :
  ∃v',(Instr.lookup t u y false).run P w=.ok v' w/\VR h μ w (LL A h μ) v v':=by
 unfold nT at he;split at he<;>try (cases he;done)
 rename_i id k;split at he<;>try (cases he;done)
 rename_i o ho;split at he<;>try (cases he;done)
 rename_i hc;obtain ⟨hz,hg,hb⟩:=hc;obtain ⟨kv,hcs,hheap⟩:=hr.map ho hz hg;rw[hcs,lI]at he;simp only at he;obtain ⟨kt,et,i,hu,hkt,hi,hz0⟩:=y9 hb;have hval:u=.map (some (μ id)):=by cases hm;rfl
 subst hval;have hy:=jf hk.tree;subst hy;have hfind:=wC 0 k kv 0 0;cases hx:iQ k 0 kv with
 |some q =>
  rw[hx]at he hfind;simp only[Option.some.injEq]at he;subst he;refine ⟨.int .i64 q.2,?_,.t (.int _ _)⟩;simp[Instr.lookup,run_underlying hu,MapKept.run_getObj_map hheap,MapKept.run_checkKey hkt (show MapKept.IsKey (.int .i64) (.int .i64 k) from rfl),MapKept.run_findKey hkt hfind,Result.andThen]
 |none =>
  rw[hx]at he hfind;simp only[Option.some.injEq]at he;subst he;refine ⟨.int .i64 0,?_,.t (.int _ _)⟩;simp[Instr.lookup,run_underlying hu,MapKept.run_getObj_map hheap,MapKept.run_checkKey hkt (show MapKept.IsKey (.int .i64) (.int .i64 k) from rfl),MapKept.run_findKey hkt hfind,EW hi hz0,Result.andThen]
theorem JQ (hr:HR A h μ w) {t:TypeId}{m k x:PV}{u y z:Value}{h':Hp} (hm:VR h μ w (LL A h μ) m u) (hk:VR h μ w (LL A h μ) k y) (hx:VR h μ w (LL A h μ) x z) (he:je P t m k x h=some h') :
  ∃w' μ',(Instr.mapUpdate t u y z).run P w=.ok () w'/\HR A h' μ' w'/\Ext h μ w h' μ' w':=by
 unfold je at he;split at he<;>try (cases he;done)
 rename_i id k x;split at he<;>try (cases he;done)
 rename_i o ho;split at he<;>try (cases he;done)
 rename_i hc;obtain ⟨hz,hg,hlive,hb⟩:=hc;obtain ⟨kv,hcs,hheap⟩:=hr.map ho hz hg;rw[hcs,lI]at he;simp only[Option.some.injEq]at he;subst he;obtain ⟨kt,et,i,hu,hkt,hi,hz0⟩:=y9 hb;have hval:u=.map (some (μ id)):=by cases hm;rfl
 subst hval;have hy:=jf hk.tree;subst hy;have hzz:=jf hx.tree;subst hzz;have hfind:=wC 0 k kv 0 0;have hrun:(Instr.mapUpdate t (.map (some (μ id))) (.int .i64 k) (.int .i64 x)).run P w=.ok () { w with heap:=w.heap.setIfInBounds (μ id) (.map (eZ 0 (gU k x kv)).toArray (gU k x kv).length) }:=by
  cases hq:iQ k 0 kv with
  |some q =>
   obtain ⟨j,v⟩:=q;rw[hq]at hfind;obtain ⟨n,hn,hkn⟩:=wD hq;have hn:j=n:=by omega
   subst hn;have hput:gU k x kv=kv.set j (k,x):=Io x hq;have hent:(eZ 0 kv)[j]?=some ⟨.int .i64 k,.int .i64 v,j⟩:=by rw[nU,hkn];simp
   have hmod:(eZ 0 kv).toArray.modify j (fun e=>{ e with key:=Value.int .i64 k,val:=Value.int .i64 x })=(eZ 0 (gU k x kv)).toArray:=by
    rw[hput];apply Array.ext_getElem?;intro i';rw[Array.getElem?_modify,List.getElem?_toArray,List.getElem?_toArray,nU,nU,List.getElem?_set];have hjl:=(List.getElem?_eq_some_iff.1 hkn).1
    by_cases e:j=i'
    ·subst e
     rw[if_pos rfl,if_pos rfl,if_pos hjl,hkn];simp
    ·rw[if_neg e,if_neg e]
   have hlen:(gU k x kv).length=kv.length:=by rw[hput,List.length_set]
   rw[<- hmod,hlen];simp[Instr.mapUpdate,run_underlying hu,MapKept.run_getObj_map hheap,MapKept.run_checkKey hkt (show MapKept.IsKey (.int .i64) (.int .i64 k) from rfl),MapKept.run_findKey hkt hfind,hent,MapKept.run_keyThatStays (show MapKept.IsKey (.int .i64) (.int .i64 k) from rfl),MapKept.run_setObj_map _ hheap,Result.andThen]
  |none =>
   rw[hq]at hfind;have hput:=Ip x hq;have hpush:(eZ 0 kv).toArray.push ⟨.int .i64 k,.int .i64 x,kv.length⟩=(eZ 0 (gU k x kv)).toArray:=by
    rw[hput,DX];simp
   have hlen:(gU k x kv).length=kv.length+1:=by rw[hput];simp
   rw[<- hpush,hlen];simp[Instr.mapUpdate,run_underlying hu,MapKept.run_getObj_map hheap,MapKept.run_checkKey hkt (show MapKept.IsKey (.int .i64) (.int .i64 k) from rfl),MapKept.run_findKey hkt hfind,MapKept.run_setObj_map _ hheap,Result.andThen]
 obtain ⟨h1,h2⟩:=HR.NH (w':={ w with heap:=w.heap.setIfInBounds (μ id) (.map (eZ 0 (gU k x kv)).toArray (gU k x kv).length) }) hr id o { o with cs:=kvC (gU k x kv) } (.map (eZ 0 (gU k x kv)).toArray (gU k x kv).length) ho hz hlive ⟨hz,(show o.len=0 from hr.Ij ho hz),rfl,hlive⟩ ⟨rfl,rfl,rfl⟩ (by simp) (fun k hk=>qw hk) (sK hheap)
  (fun _=>⟨_,rfl,rfl⟩) (fun hf=>by rw[hg]at hf;cases hf)
 exact ⟨_,μ,hrun,h1,h2⟩
theorem Iq:∀(kv:List (Int × Int)) (i:Nat),((eZ i kv).map (·.born)).Nodup/\∀b∈(eZ i kv).map (·.born),i<=b
 |[],i=>by simp[eZ]
 |x::r,i=>by
  obtain ⟨h1,h2⟩:=Iq r (i+1);simp only[eZ,List.map_cons,List.nodup_cons,List.mem_cons];exact ⟨⟨fun hm=>by have:=h2 _ hm;omega,h1⟩,fun b hb=>hb.elim (fun e=>by omega) (fun hb=>by have:=h2 b hb;omega)⟩
theorem Ry (hr:HR A h μ w) {i v:PV}{u:Value}{h':Hp} (hi:VR h μ w (LL A h μ) i u) (he:xQ i h=some (v,h')):∃v' w' μ',(Instr.entry u).run P w=.ok v' w'/\HR A h' μ' w'/\Ext h μ w h' μ' w'/\VR h' μ' w' (LL A h' μ') v v':=by
 unfold xQ at he;split at he<;>try (cases he;done)
 rename_i id;split at he<;>try (cases he;done)
 rename_i o ho;split at he<;>try (cases he;done)
 rename_i m last fl hcs;split at he<;>try (cases he;done)
 rename_i om hom;split at he<;>try (cases he;done)
 rename_i hc;obtain ⟨hz,hg,hmz,hmg,hl0,hlive⟩:=hc;obtain ⟨kv,Rz,hheap⟩:=hr.map hom hmz hmg;rw[Rz,lI]at he;simp only at he;split at he<;>try (cases he;done)
 rename_i hlen;split at he<;>cases he
 rename_i y hy;have hval:u=.pointer (some ⟨μ id,0,none⟩):=by cases hi;rfl
 subst hval;obtain ⟨m',om',last',fs,seen,g1,g2,_,_,g5,g6,g7⟩:=(hr.spec id o ho hz).2.2 hg;rw[hcs]at g1;simp only[List.cons.injEq,PV.mp.injEq,PV.t.injEq,Tr.int.injEq,true_and]at g1;obtain ⟨rfl,rfl,rfl⟩:=g1;obtain ⟨sn,rfl⟩:=g6 hl0;have hfl:kv.length=fs.length:=by rw[hlen];simp[flC]
 rw[<- hfl]at g5;have hent:(⟨.int .i64 y.1,.int .i64 y.2,last.toNat⟩:MapEntry)∈(eZ 0 kv).toArray.toList:=List.mem_of_getElem? (i:=last.toNat) (by
  show (eZ 0 kv)[last.toNat]?=_
  rw[nU,hy];simp)
 obtain ⟨k1,k2⟩:=HR.NH (w':=w) hr id o { o with cs:=.mp m::.t (.int .i64 (-1))::flC fs } (.mapIter (some (μ m)) kv.length (Array.push sn last.toNat) kv.length) ho hz hlive ⟨hz,(show o.len=0 from hr.Ij ho hz),rfl,hlive⟩ ⟨rfl,rfl,rfl⟩ rfl (fun _ _=>rfl) g5
  (fun hf=>by rw[hg]at hf;cases hf) (fun _=>⟨m,om,-1,fs,Array.push sn last.toNat,rfl,hom,hmz,hmg,by rw[hfl],fun h=>by omega,g7⟩)
 refine ⟨_,w,μ,run_entry_at w (μ id) (μ m) kv.length sn _ _ _ g5 hheap hent (Iq kv 0).1,k1,k2,.t (.tup rfl fun i' z hz=>?_)⟩
 match i',hz with
 |0,hz=>simp at hz;subst hz;exact .int _ _
 |1,hz=>simp at hz;subst hz;exact .int _ _
 |n+2,hz=>simp at hz
theorem Uu (hr:HR A h μ w) {id:Id}{u:Value}{sl:Sl}{o:Oper} (hm:VR h μ w (LL A h μ) (.it id) u) (hok:Pj ⟨sl,h⟩ id) (ty:TypeId) :
  ∃v' w' μ' s' v h',(Instr.next u false ty).run P w=.ok v' w'/\Ph o ⟨sl,h⟩ id s'/\s'=St.put ⟨sl,h'⟩ o.dst v/\HR A h' μ' w'/\Ext h μ w h' μ' w'/\VR h' μ' w' (LL A h' μ') v v':=by
 obtain ⟨ob,m,last,fs,om,kv,ho,hz,hg,hlive,hcs,hom,hmz,hmg,Rz,hlen⟩:=hok;simp only at ho hom;have hval:u=.pointer (some ⟨μ id,0,none⟩):=by cases hm;rfl
 subst hval;obtain ⟨kv',e1,hheap⟩:=hr.map hom hmz hmg;have:=Rv (Rz.symm.trans e1);subst this;obtain ⟨m',om',last',fs',seen,g1,g2,_,_,g5,g6,g7⟩:=(hr.spec id ob ho hz).2.2 hg;rw[hcs]at g1;simp only[List.cons.injEq,PV.mp.injEq,PV.t.injEq,Tr.int.injEq,true_and]at g1;obtain ⟨rfl,rfl,g1⟩:=g1;have:=Rw g1;subst this;have hold:∀x∈((eZ 0 kv).toArray).toList,x.born < fs.length:=by
  intro x hx;obtain ⟨j,hj⟩:=List.mem_iff_getElem?.1 (by simpa using hx:x∈eZ 0 kv);rw[nU]at hj;cases hkj:kv[j]? with
  |none=>simp[hkj]at hj
  |some y =>
   simp[hkj]at hj;have:=(List.getElem?_eq_some_iff.1 hkj).1;rw[<- hj];simp only;omega
 rcases run_next_at (P:=P) w ty (μ id) (μ m) fs.length fs.length seen _ _ g5 hheap hold (Nat.le_refl _) with ⟨hl0,hrun⟩|⟨e,he,w1,hw1,hrun⟩
 ·obtain ⟨h1,h2⟩:=HR.NH (w':=w) hr id ob { ob with cs:=.mp m::.t (.int .i64 (-1))::flC fs } (.mapIter (some (μ m)) fs.length seen fs.length) ho hz hlive ⟨hz,(show ob.len=0 from hr.Ij ho hz),rfl,hlive⟩ ⟨rfl,rfl,rfl⟩ rfl (fun _ _=>rfl) g5
   (fun hf=>by rw[hg]at hf;cases hf) (fun _=>⟨m,om,-1,fs,seen,rfl,hom,hmz,hmg,rfl,fun h=>by omega,g7⟩)
  refine ⟨_,w,μ,_,.t (.tup [.bool false]),_,hrun,⟨ob,m,last,fs,om,kv,ho,hcs,hom,Rz,.inl ⟨?_,rfl⟩⟩,rfl,h1,h2,.t (.tup rfl fun i' y hy=>?_)⟩
  ·rw[List.all_eq_true]
   intro b hb;obtain ⟨j,hj⟩:=List.mem_iff_getElem?.1 hb;have hjl:j < fs.length:=(List.getElem?_eq_some_iff.1 hj).1;have Pq:=g7 j;have hb2:fs.getD j false=b:=by simp[List.getD,hj]
   rw[hb2]at Pq;cases b with
   |true=>rfl
   |false =>
    exfalso;obtain ⟨y,hy⟩:∃y,kv[j]?=some y:=⟨kv[j]'(by omega),List.getElem?_eq_getElem (by omega)⟩
    have hmem:(⟨.int .i64 y.1,.int .i64 y.2,j⟩:MapEntry)∈leftOf (eZ 0 kv).toArray seen:=by
     unfold leftOf;rw[Array.mem_filter];refine ⟨?_,by simpa using Pq⟩;rw[List.mem_toArray];exact List.mem_of_getElem? (i:=j) (by rw[nU,hy];simp)
    have:=Array.size_pos_of_mem hmem;omega
  ·match i',hy with
   |0,hy=>simp at hy;subst hy;exact .bool _
   |n+1,hy=>simp at hy
 ·have hmem:e∈leftOf (eZ 0 kv).toArray seen:=by simpa using he
  unfold leftOf at hmem;rw[Array.mem_filter,List.mem_toArray]at hmem;obtain ⟨hm1,hm2⟩:=hmem;obtain ⟨j,hj⟩:=List.mem_iff_getElem?.1 hm1;rw[nU]at hj;cases hkj:kv[j]? with
  |none=>simp[hkj]at hj
  |some y =>
   simp[hkj]at hj;subst hj;simp only at hm2 hrun;have hjl:j < kv.length:=(List.getElem?_eq_some_iff.1 hkj).1;have hfj:fs[j]?=some false:=by
    have hs:=g7 j;have:seen.contains j=false:=by simpa using hm2
    rw[this]at hs;rw[List.getElem?_eq_getElem (by omega)];simp[List.getD,show j < fs.length by omega]at hs;rw[<- hs]
   have hst:HR A h μ w1/\Ext h μ w h μ w1:=by
    rcases hw1 with rfl|rfl
    ·exact ⟨hr,Ext.refl _ _ _⟩
    ·exact Ext.still hr rfl ⟨rfl,rfl,rfl⟩
   obtain ⟨hr1,hx1⟩:=hst;have abz:w1.heap=w.heap:=by rcases hw1 with rfl|rfl<;>rfl
   have Pq:∀i',(seen.push j).contains i'=(fs.set j true).getD i' false:=by
    intro i';have hs:=g7 i';rw[Array.contains_push,hs];simp only[List.getD,List.getElem?_set]
    by_cases e:j=i'
    ·subst e
     simp[show j < fs.length by omega]
    ·rw[if_neg e]
     have:(i'==j)=false:=by simpa using fun h=>e h.symm
     simp[this]
   obtain ⟨h1,h2⟩:=HR.NH (w':=ChangeMaps.setBlock w1 (μ id) (.mapIter (some (μ m)) fs.length (seen.push j) kv.length)) hr1 id ob { ob with cs:=.mp m::.t (.int .i64 (j:Nat))::flC (fs.set j true) } (.mapIter (some (μ m)) fs.length (seen.push j) kv.length) ho hz hlive ⟨hz,(show ob.len=0 from hr.Ij ho hz),rfl,hlive⟩ ⟨rfl,rfl,rfl⟩ (by simp[ChangeMaps.setBlock]) (fun k hk=>qw hk) (sK (by rw[abz];exact g5))
    (fun hf=>by rw[hg]at hf;cases hf) (fun _=>⟨m,om,(j:Int),fs.set j true,seen.push j,rfl,hom,hmz,hmg,by simp[hlen],fun _=>⟨seen,by simp⟩,Pq⟩)
   ·refine ⟨_,_,μ,_,.t (.tup [.bool true,.int .i64 (kv.getD j (0,0)).1,.int .i64 (kv.getD j (0,0)).2]),_,hrun,⟨ob,m,last,fs,om,kv,ho,hcs,hom,Rz,.inr ⟨j,hfj,rfl⟩⟩,rfl,h1,hx1.trans h2,.t (.tup rfl fun i' z hz=>?_)⟩
    have hyd:kv.getD j (0,0)=y:=by simp[List.getD,hkj]
    rw[hyd]at hz
    match i',hz with
    |0,hz=>simp at hz;subst hz;exact .bool _
    |1,hz=>simp at hz;subst hz;exact .int _ _
    |2,hz=>simp at hz;subst hz;exact .int _ _
    |n+3,hz=>simp at hz
end
end Go.Vm
end
section
namespace Go.Vm
open Go
section
variable {P:Program}{A:Nat->Prop}{μ:Id->Nat}{w:World}{mu:Nat->Bool}
theorem KA {s:St}{a:Act} (hs:∀t,VR s.hp μ w (LL A s.hp μ) (s.sl t) (a.tmps.getD t undef)) (parts:Array (Nat × Operand)) :
  (parts.toList.map fun p=>(p.1,ev s.sl p.2)).length=(parts.map fun (i,x)=>(i,a.eval x)).toList.length /\
  ∀(i:Nat) x y,(parts.toList.map fun p=>(p.1,ev s.sl p.2))[i]?=some x->(parts.map fun (i,x)=>(i,a.eval x)).toList[i]?=some y->x.1=y.1/\VR s.hp μ w (LL A s.hp μ) x.2 y.2:=by
 refine ⟨by simp,fun i x y hx hy=>?_⟩;rw[List.getElem?_map]at hx;simp only[Array.toList_map,List.getElem?_map]at hy;cases hp:parts.toList[i]? with
 |none=>simp[hp]at hx
 |some p =>
  rw[hp]at hx hy;simp only[Option.map_some,Option.some.injEq]at hx hy;subst hx;subst hy
  exact ⟨rfl,Aq hs p.2⟩
theorem KC (sl:Sl):∀(l:List Operand) (i:Nat),(evs sl l)[i]?=(l[i]?).map (ev sl)
 |[],i=>by simp[evs]
 |x::l,0=>by simp[evs]
 |x::l,i+1=>by simpa[evs] using KC sl l i
theorem tq (sl:Sl):∀(l:List Operand),(evs sl l).length=l.length
 |[]=>rfl
 |_::l=>by simp[evs,tq sl l]
def Cn:PV->Value
 |.t (.int k n)=>.int k n
 |_=>undef
theorem Uv {P:Program}{h:Hp}{p q v:PV}{u u':Value} (hp:VR h μ w (LL A h μ) p u) (hq:VR h μ w (LL A h μ) q u') (hl:Gu p q=some v) :
  (Builtin.min2 u u').run P w=.ok (Cn v) w/\VR h μ w (LL A h μ) v (Cn v):=by
 unfold Gu at hl;split at hl<;>try (simp at hl;done)
 rename_i k x k' y;split at hl<;>simp at hl
 rename_i hk;subst hk
 subst hl;have:=jf hp.tree;subst this
 have:=jf hq.tree;subst this
 exact ⟨by simp[Builtin.min2,Cn],.t (.int _ _)⟩
theorem Uw {P:Program}{h:Hp}{p q v:PV}{u u':Value} (hp:VR h μ w (LL A h μ) p u) (hq:VR h μ w (LL A h μ) q u') (hl:Gv p q=some v) :
  (Builtin.max2 u u').run P w=.ok (Cn v) w/\VR h μ w (LL A h μ) v (Cn v):=by
 unfold Gv at hl;split at hl<;>try (simp at hl;done)
 rename_i k x k' y;split at hl<;>simp at hl
 rename_i hk;subst hk
 subst hl;have:=jf hp.tree;subst this
 have:=jf hq.tree;subst this
 exact ⟨by simp[Builtin.max2,Cn],.t (.int _ _)⟩
theorem Pt {s:St}{a:Act}{o:Oper}{v:PV}{h':Hp} (hs:∀t,VR s.hp μ w (LL A s.hp μ) (s.sl t) (a.tmps.getD t undef)) (hr:HR A s.hp μ w) (he:evalOp P mu o s=some (v,h')) :
  Good A s.hp μ w ((execOp a.eval o).run P w) v h':=by
 have E:=fun x=>Aq hs x
 have quiet:∀ {v:PV}{v':Value}{r:Result Next},r=.ok (.value v') w->VR s.hp μ w (LL A s.hp μ) v v'->Good A s.hp μ w r v s.hp:=fun hr' hv=>by rw[hr'];exact Good.quiet hr hv
 unfold evalOp at he;cases hop:o.op<;>simp only[hop]at he<;>try (simp at he;done)
 case move x=>cases he;exact quiet (by simp[execOp,hop]) (E x)
 case assign x=>cases he;exact quiet (by simp[execOp,hop]) (E x)
 case pick c x y =>
  split at he<;>simp at he
  rename_i b hb;obtain ⟨rfl,rfl⟩:=he;have hc:=E c;unfold uG at hb;split at hb<;>simp at hb
  subst hb;rename_i b hcb;rw[hcb]at hc;have hc:=xU hc.tree;cases b
  ·exact quiet (v':=a.eval y) (by simp[execOp,hop,hc,asBool]) (by simpa using E y)
  ·exact quiet (v':=a.eval x) (by simp[execOp,hop,hc,asBool]) (by simpa using E x)
 case alloc t =>
  split at he<;>try (simp at he;done)
  rename_i z hz;obtain ⟨i,zv,hi,hzv,hzs,hzc⟩:=pK (h:=s.hp) (μ:=μ) (w:=w) hz (LL A s.hp μ);obtain ⟨μ',h1,h2,h3⟩:=ER hr (by simp[hzs]) hzc he;exact ⟨_,_,_,μ',by simp[execOp,hop,Instr.alloc,zeroValue,typeInfo,hi,hzv,newVar,newRow],.inl rfl,h1,h2,h3⟩
 case box t x =>
  have hone:(ev s.sl x).cells.all PV.one=true:=by
   unfold iC at he;split at he<;>try (simp at he;done)
   split at he<;>try (simp at he;done)
   rename_i hc;exact hc.2.2.2
  obtain ⟨h1,h2⟩:=(E x).cells hone;obtain ⟨μ',g1,g2,g3⟩:=ER hr h1 ⟨by rw[h1];exact Nat.le_refl _,h2⟩ he;exact ⟨_,_,_,μ',by simp[execOp,hop,Instr.box,newVar,newRow],.inl rfl,g1,g2,g3⟩
 case build t parts =>
  unfold still at he;split at he<;>simp at he
  obtain ⟨rfl,rfl⟩:=he;rename_i v hv;obtain ⟨hl,hp⟩:=KA hs parts;obtain ⟨v',h1,h2⟩:=Rq (P:=P) hl hp hv;exact quiet (by simp only[execOp,hop,Sem.run_bind,h1,Result.andThen_ok,Sem.run_pure]) h2
 case buildSlice t len parts =>
  obtain ⟨hl,hp⟩:=KA hs parts;obtain ⟨v',w',μ',h1,h2,h3,h4⟩:=Gz (P:=P) hr hl hp he;exact ⟨_,v',w',μ',by simp only[execOp,hop,Sem.run_bind,h1,Result.andThen_ok,Sem.run_pure],.inl rfl,h2,h3,h4⟩
 case load t x =>
  unfold still at he;split at he<;>simp at he
  obtain ⟨rfl,rfl⟩:=he;rename_i v hv;obtain ⟨v',h1,h2⟩:=DU (P:=P) hr (E x) hv;exact quiet (by simp only[execOp,hop,Sem.run_bind,h1,Result.andThen_ok,Sem.run_pure]) h2
 case store t x y =>
  split at he<;>simp at he
  obtain ⟨rfl,rfl⟩:=he;rename_i h' hst;obtain ⟨w',μ',h1,h2,h3⟩:=Rp (P:=P) hr (E x) (E y) hst;exact ⟨_,undef,w',μ',by simp only[execOp,hop,Sem.run_bind,h1,Result.andThen_ok,Sem.run_pure],.inr ⟨rfl,rfl⟩,h2,h3,.skip⟩
 case nilCheck x =>
  have hx:=E x;split at he<;>try (simp at he;done)
  ·cases he
   rename_i cs hcs;rw[hcs]at hx;have hval:∃ad:Addr,a.eval x=.pointer (some ad):=by
    generalize a.eval x=u at hx;cases hx;exact ⟨_,rfl⟩
   obtain ⟨ad,hval⟩:=hval;rw[hval]at hx;exact quiet (by simp[execOp,hop,hval]) hx
  ·rename_i id n off hcs
   split at he<;>simp at he
   obtain ⟨rfl,rfl⟩:=he;rename_i hv;rw[hcs]at hx;have hval:=hx.EO hv;rw[hval]at hx;exact quiet (by simp[execOp,hop,hval]) hx
 case binOp op xt x y yt =>
  unfold still at he;split at he<;>simp at he
  obtain ⟨rfl,rfl⟩:=he;rename_i v hv;obtain ⟨v',h1,h2⟩:=Xu (P:=P) (E x) (E y) hv (x:=x) (y:=y);exact quiet (by simp only[execOp,hop];rw[Sem.run_bind,h1,Result.andThen_ok,Sem.run_pure]) h2
 case unOp op xt x =>
  unfold still at he;split at he<;>simp at he
  obtain ⟨rfl,rfl⟩:=he;rename_i v hv;obtain ⟨v',h1,h2⟩:=YQ (P:=P) (E x) hv;exact quiet (by simp only[execOp,hop,Sem.run_bind,h1,Result.andThen_ok,Sem.run_pure]) h2
 case convert src dst x =>
  unfold still at he;split at he<;>simp at he
  obtain ⟨rfl,rfl⟩:=he;rename_i v hv;obtain ⟨v',h1,h2⟩:=Uo (P:=P) (E x) hv;exact quiet (by simp only[execOp,hop,Sem.run_bind,h1,Result.andThen_ok,Sem.run_pure]) h2
 case makeFunc fn first captured =>
  cases fn<;>simp only at he<;>try (simp at he;done)
  rename_i f;split at he<;>simp at he
  rename_i hf;obtain ⟨rfl,rfl⟩:=he;have hfe:first.map a.eval=#[]:=by
   have:first=#[]:=by
    apply Array.ext';simpa[List.isEmpty_iff] using hf
   rw[this];simp
  refine quiet (v':=.func (.func f) #[] (captured.map a.eval)) (by simp[execOp,hop,Instr.makeFunc,hfe]) ?_;refine VR.C9 (by rw[tq];simp) fun i x hx=>?_
  rw[KC]at hx;cases hp:captured.toList[i]? with
  |none=>simp[hp]at hx
  |some p =>
   rw[hp]at hx;simp only[Option.map_some,Option.some.injEq]at hx;subst hx
   have hlt:i < captured.size:=by
    have:=(List.getElem?_eq_some_iff.1 hp).1;simpa using this
   have hp':captured[i]=p:=by
    have:=(List.getElem?_eq_some_iff.1 hp).2;simpa using this
   have:(captured.map a.eval).getD i Go.undef=a.eval p:=by simp[Array.getD,hlt,hp']
   rw[this];exact E p
 case makeSlice t n m =>
  obtain ⟨v',w',μ',h1,h2,h3,h4⟩:=JO (P:=P) hr (E n) (E m) he;exact ⟨_,v',w',μ',by simp only[execOp,hop,Sem.run_bind,h1,Result.andThen_ok,Sem.run_pure],.inl rfl,h2,h3,h4⟩
 case slice t x lo hi mx =>
  cases mx<;>simp only at he<;>try (simp at he;done)
  obtain ⟨v',w',μ',h1,h2,h3,h4⟩:=Ru (P:=P) hr hs he;exact ⟨_,v',w',μ',by simp only[execOp,hop,Sem.run_bind,Option.map_none,h1,Result.andThen_ok,Sem.run_pure],.inl rfl,h2,h3,h4⟩
 case fieldAddr st x i =>
  unfold still at he;split at he<;>simp at he
  obtain ⟨rfl,rfl⟩:=he;rename_i v hv;obtain ⟨v',h1,h2⟩:=JM (P:=P) (E x) hv;exact quiet (by simp only[execOp,hop,Sem.run_bind,h1,Result.andThen_ok,Sem.run_pure]) h2
 case field st x i =>
  unfold still at he;split at he<;>simp at he
  obtain ⟨rfl,rfl⟩:=he;rename_i v hv;obtain ⟨v',h1,h2⟩:=Rm (P:=P) (E x) hv;exact quiet (by simp only[execOp,hop,Sem.run_bind,h1,Result.andThen_ok,Sem.run_pure]) h2
 case indexAddr t x i =>
  unfold still at he;split at he<;>simp at he
  obtain ⟨rfl,rfl⟩:=he;rename_i v hv;obtain ⟨v',h1,h2⟩:=JN (P:=P) (E x) (E i) hv;exact quiet (by simp only[execOp,hop,Sem.run_bind,h1,Result.andThen_ok,Sem.run_pure]) h2
 case index t x i =>
  unfold still at he;split at he<;>simp at he
  obtain ⟨rfl,rfl⟩:=he;rename_i v hv;obtain ⟨v',h1,h2⟩:=Ro (P:=P) (E x) (E i) hv;exact quiet (by simp only[execOp,hop,Sem.run_bind,h1,Result.andThen_ok,Sem.run_pure]) h2
 case makeMap t r =>
  cases r<;>simp only at he<;>try (simp at he;done)
  obtain ⟨v',w',μ',h1,h2,h3,h4⟩:=M9 (P:=P) hr he;exact ⟨_,v',w',μ',by simp only[execOp,hop,Sem.run_bind,Option.map_none,h1,Result.andThen_ok,Sem.run_pure],.inl rfl,h2,h3,h4⟩
 case mapEntry t m k =>
  obtain ⟨v',w',μ',h1,h2,h3,h4⟩:=Kz (P:=P) hr (E m) (E k) he;exact ⟨_,v',w',μ',by simp only[execOp,hop,Sem.run_bind,h1,Result.andThen_ok,Sem.run_pure],.inl rfl,h2,h3,h4⟩
 case entryStore t m i x =>
  split at he<;>simp at he
  obtain ⟨rfl,rfl⟩:=he;rename_i h' hst;obtain ⟨w',μ',h1,h2,h3⟩:=GD (P:=P) (t:=t) hr (E m) (E i) (E x) hst;exact ⟨_,undef,w',μ',by simp only[execOp,hop,Sem.run_bind,h1,Result.andThen_ok,Sem.run_pure],.inr ⟨rfl,rfl⟩,h2,h3,.skip⟩
 case range t m =>
  obtain ⟨v',w',μ',h1,h2,h3,h4⟩:=Rx (P:=P) hr (E m) he;exact ⟨_,v',w',μ',by simp only[execOp,hop,Sem.run_bind,h1,Result.andThen_ok,Sem.run_pure],.inl rfl,h2,h3,h4⟩
 case lookup t m k c =>
  cases c<;>simp only at he<;>try (simp at he;done)
  unfold still at he;split at he<;>simp at he
  obtain ⟨rfl,rfl⟩:=he;rename_i v hv;obtain ⟨v',h1,h2⟩:=Pp (P:=P) hr (E m) (E k) hv;exact quiet (by simp only[execOp,hop,Sem.run_bind,h1,Result.andThen_ok,Sem.run_pure]) h2
 case mapUpdate t m k x =>
  split at he<;>simp at he
  obtain ⟨rfl,rfl⟩:=he;rename_i h' hst;obtain ⟨w',μ',h1,h2,h3⟩:=JQ (P:=P) hr (E m) (E k) (E x) hst;exact ⟨_,undef,w',μ',by simp only[execOp,hop,Sem.run_bind,h1,Result.andThen_ok,Sem.run_pure],.inr ⟨rfl,rfl⟩,h2,h3,.skip⟩
 case entry i =>
  obtain ⟨v',w',μ',h1,h2,h3,h4⟩:=Ry (P:=P) hr (E i) he;exact ⟨_,v',w',μ',by simp only[execOp,hop,Sem.run_bind,h1,Result.andThen_ok,Sem.run_pure],.inl rfl,h2,h3,h4⟩
 case extract x i =>
  have hx:=E x;split at he
  ·rename_i l hl
   split at he<;>simp at he
   obtain ⟨rfl,rfl⟩:=he;rename_i y hy;rw[hl]at hx;have hval:∃vs:Array Value,a.eval x=.tuple vs/\l.length=vs.size/\Reads w (LL A s.hp μ) y (vs.getD i Go.undef):=by
    generalize a.eval x=u at hx;have:=hx.tree;cases this with
    |tup hl' hh=>exact ⟨_,rfl,hl',hh i y hy⟩
   obtain ⟨vs,hval,hsz,hrd⟩:=hval;have hlt:i < vs.size:=by rw[<- hsz];exact (List.getElem?_eq_some_iff.1 hy).1
   exact quiet (by simp[execOp,hop,hval,Instr.extract,hlt];rfl) (.t (by simpa[Array.getD,hlt] using hrd))
  ·rename_i l hl
   split at he<;>simp at he
   obtain ⟨rfl,rfl⟩:=he;rename_i y hy;rw[hl]at hx;have hval:∃vs:Array Value,a.eval x=.tuple vs/\l.length=vs.size/\VR s.hp μ w (LL A s.hp μ) y (vs.getD i Go.undef):=by
    generalize a.eval x=u at hx;cases hx with
    |tup hl' hh=>exact ⟨_,rfl,hl',hh i y hy⟩
   obtain ⟨vs,hval,hsz,hrd⟩:=hval;have hlt:i < vs.size:=by rw[<- hsz];exact (List.getElem?_eq_some_iff.1 hy).1
   exact quiet (by simp[execOp,hop,hval,Instr.extract,hlt];rfl) (by simpa[Array.getD,hlt] using hrd)
  ·simp at he
 case call c =>
  obtain ⟨callee,args,argTypes⟩:=c;simp only at he;split at he
  ·-- len
   rename_i x t rest hargs EX;have ha:args=#[x]:=Array.ext' hargs;have hat:argTypes[0]?=some t:=by rw[<- Array.getElem?_toList,EX];rfl
   subst ha;split at he
   ·rename_i hst
    split at he<;>simp at he
    obtain ⟨rfl,rfl⟩:=he;rename_i b hb;have hx:=E x;rw[hb]at hx;have:=EP hx.tree;exact quiet (by simp[execOp,hop,resolve,invoke,builtin,Builtin.len_,hat,run_underlying (DW hst),this,goInt]) (.t (.int _ _))
   ·split at he<;>try (simp at he;done)
    rename_i hel;unfold still at he;split at he<;>simp at he
    obtain ⟨rfl,rfl⟩:=he;rename_i v hv;obtain ⟨e,he'⟩:=Option.isSome_iff_exists.1 hel;obtain ⟨hu,_⟩:=kM he';have hx:=E x;have hval:∃b n c,a.eval x=.slice b n c/\v=.t (.int .i64 n):=by
     unfold rF at hv;split at hv<;>simp at hv
     ·subst hv
      rename_i l hl;rw[hl]at hx;rcases yZ hx.tree with ⟨_,rfl,h⟩|⟨_,b,cap,_,_,h,_⟩
      ·exact ⟨_,_,_,h,rfl⟩
      ·exact ⟨_,_,_,h,rfl⟩
     ·obtain ⟨hv,rfl⟩:=hv
      rename_i hl;rw[hl]at hx;obtain ⟨cap,h⟩:=hx.J5 hv;exact ⟨_,_,_,h,rfl⟩
    obtain ⟨b,n,c,hval,rfl⟩:=hval;exact quiet (by simp[execOp,hop,resolve,invoke,builtin,Builtin.len_,hat,run_underlying hu,hval,goInt]) (.t (.int _ _))
  ·-- append
   rename_i x y t u hargs EX;have ha:args=#[x,y]:=Array.ext' hargs;have hat:argTypes=#[t,u]:=Array.ext' EX;subst ha;subst hat
   have hg:∃v' w' μ',(Builtin.append_ #[t,u] o.type #[a.eval x,a.eval y]).run P w=.ok v' w'/\HR A h' μ' w'/\Ext s.hp μ w h' μ' w'/\VR h' μ' w' (LL A h' μ') v v':=by
    unfold DL at he;split at he
    ·rename_i htu;subst htu
     exact Pm (P:=P) (ty:=o.type) hr (E x) (E y) he
    ·exact Po (P:=P) (ty:=o.type) hr (E x) (E y) he
   obtain ⟨v',w',μ',h1,h2,h3,h4⟩:=hg;exact ⟨_,v',w',μ',by
    simp only[execOp,hop,resolve,invoke,builtin,Sem.run_bind,Sem.run_pure,Result.andThen_ok,List.map_toArray,List.map_cons,List.map_nil,h1],.inl rfl,h2,h3,h4⟩
  ·rename_i x y hargs
   have ha:args=#[x,y]:=Array.ext' hargs;subst ha;unfold still at he;split at he<;>simp at he
   obtain ⟨rfl,rfl⟩:=he;rename_i v hv;obtain ⟨h1,h2⟩:=Uv (P:=P) (E x) (E y) hv;exact quiet (by simp[execOp,hop,resolve,invoke,builtin,Builtin.min_,h1]) h2
  ·rename_i x y hargs
   have ha:args=#[x,y]:=Array.ext' hargs;subst ha;unfold still at he;split at he<;>simp at he
   obtain ⟨rfl,rfl⟩:=he;rename_i v hv;obtain ⟨h1,h2⟩:=Uw (P:=P) (E x) (E y) hv;exact quiet (by simp[execOp,hop,resolve,invoke,builtin,Builtin.max_,h1]) h2
  ·simp at he
end
end Go.Vm
end
section
namespace Go.Vm
open Go
section
variable {P:Program}{A:Nat->Prop}{mu:Nat->Bool}{h0:Hp}{μ0:Id->Nat}{w0:World}{N:Nat}
structure Rel (A:Nat->Prop) (h0:Hp) (μ0:Id->Nat) (w0:World) (N:Nat) (s:St) (μ:Id->Nat) (a:Act) (w:World):Prop where
 sz:a.tmps.size=N
 df:a.defers=[]
 sl:∀t,VR s.hp μ w (LL A s.hp μ) (s.sl t) (a.tmps.getD t undef)
 hp:HR A s.hp μ w
 ext:Ext h0 μ0 w0 s.hp μ w
def u6 (N:Nat) (o:Oper):Bool:=match o.dst with|some d=>decide (d < N)|none=>true
theorem Xy (a:Act) (d:Tmp) (v:Value) (t:Nat) (hd:d < a.tmps.size):(a.put (some d) v).tmps.getD t Go.undef=if t=d then v else a.tmps.getD t Go.undef:=by
 have key:∀b:Array Value,b.getD t Go.undef=(b[t]?).getD Go.undef:=fun b=>by simp[Array.getD];split<;>simp_all
 rw[key,key]
 by_cases ht:t=d
 ·subst ht;simp[Act.put,hd]
 ·rw[if_neg ht]
  simp only[Act.put];rw[Array.getElem?_setIfInBounds_ne (fun e=>ht e.symm)]
theorem Rel.step {s:St}{μ μ':Id->Nat}{a:Act}{w w':World}{o:Oper}{h':Hp}{v:PV}{v':Value} (hr:Rel A h0 μ0 w0 N s μ a w) (hd:u6 N o=true) (hp:HR A h' μ' w') (he:Ext s.hp μ w h' μ' w')
  (hv:VR h' μ' w' (LL A h' μ') v v'):Rel A h0 μ0 w0 N (St.put { s with hp:=h' } o.dst v) μ' (a.put o.dst v') w':=by
 have hb:=hr.ext.trans he;cases hdst:o.dst with
 |none=>exact ⟨hr.sz,hr.df,fun t=>(hr.sl t).ext he,hp,hb⟩
 |some d =>
  simp only[u6,hdst,decide_eq_true_eq]at hd;refine ⟨by simp[Act.put,hr.sz],hr.df,fun t=>?_,hp,hb⟩;simp only[St.put];rw[Xy _ _ _ _ (by rw[hr.sz];exact hd)]
  by_cases ht:t=d
  ·subst ht;rw[if_pos rfl,EL];exact hv
  ·rw[if_neg ht,upd_ne _ _ _ _ ht];exact (hr.sl t).ext he
theorem DY {h:Hp}{μ:Id->Nat}{w:World} (hr:HR A h μ w) {L':Nat->Prop}{k:Nat}{l:List PV}{ts:List Tr}{vs:List Value} (hm:bA (aS h k) l=some ts) (hl:l.length=vs.length)
  (hv:∀(i:Nat) p,l[i]?=some p->VR h μ w (LL A h μ) p (vs.getD i Go.undef)) (hL:∀b,L' b->LL A h μ b) (hid:∀b,L' b->∀id∈l.flatMap (reach h k),μ id≠b) :
  J3 w L' ts vs.toArray:=by
 refine ⟨by rw[(rJ hm).1,hl];simp,fun i x hx=>?_⟩;obtain ⟨p,hp,hpx⟩:=uZ hm i x hx;rw[dZ];exact wz hr k p _ x (hv i p hp) hpx hL (fun b hb id sZ=>hid b hb id (List.mem_flatMap.2 ⟨p,List.mem_of_getElem? hp,sZ⟩))
theorem Na {g:FuncId} (he:Enters P g) (args:Array Value) (w:World):(callFunc g args).run P w=.ok (.enter g args) w:=by
 obtain ⟨fn,h1,h2,h3⟩:=he;have h2':fn.name≠"runtime.NumGoroutine":=by simpa using h2
 have h3':fn.body≠none:=by intro e;rw[e]at h3;cases h3
 simp[callFunc,h1,h2',h3']
theorem Ux {s:St}{μ:Id->Nat}{a:Act}{w:World} (hs:∀t,VR s.hp μ w (LL A s.hp μ) (s.sl t) (a.tmps.getD t undef)) {f:Operand}{args:List Operand}{g:FuncId}{pvs:List PV}
  (hc:mI s.sl f args=some (g,pvs)):∃caps:Array Value,a.eval f=.func (.func g) #[] caps/\pvs.length=(args.map a.eval++caps.toList).length/\∀(i:Nat) p,pvs[i]?=some p->VR s.hp μ w (LL A s.hp μ) p ((args.map a.eval++caps.toList).getD i Go.undef):=by
 have hf:=Aq hs f;have hargs:∀(i:Nat) p,(evs s.sl args)[i]?=some p->VR s.hp μ w (LL A s.hp μ) p ((args.map a.eval).getD i Go.undef):=by
  intro i p hp;rw[KC]at hp;cases hx:args[i]? with
  |none=>simp[hx]at hp
  |some x =>
   rw[hx]at hp;simp only[Option.map_some,Option.some.injEq]at hp;subst hp
   simp only[List.getD,List.getElem?_map,hx,Option.map_some,Option.getD_some];exact Aq hs x
 have join:∀(caps:List PV) (vs:Array Value),caps.length=vs.size->(∀(i:Nat) p,caps[i]?=some p->VR s.hp μ w (LL A s.hp μ) p (vs.getD i Go.undef)) ->
   (evs s.sl args++caps).length=(args.map a.eval++vs.toList).length/\∀(i:Nat) p,(evs s.sl args++caps)[i]?=some p->VR s.hp μ w (LL A s.hp μ) p ((args.map a.eval++vs.toList).getD i Go.undef):=by
  intro caps vs hl hv;refine ⟨by simp[tq,hl],fun i p hp=>?_⟩;rw[List.getElem?_append]at hp;simp only[List.getD];split at hp
  ·rename_i hi
   rw[tq]at hi;rw[List.getElem?_append_left (by simpa using hi)];exact hargs i p hp
  ·rename_i hi
   rw[tq]at hi hp;rw[List.getElem?_append_right (by simpa using hi)];have:=hv _ p hp;have hlt:=(List.getElem?_eq_some_iff.1 hp).1;simpa[Array.getD,<- hl,hlt] using this
 unfold mI at hc;split at hc<;>simp at hc
 ·rename_i caps he
  obtain ⟨rfl,rfl⟩:=hc;rw[he]at hf;have:=hf.tree;generalize hu:a.eval f=u at this;cases this with
  |@fn _ _ vs hl hh =>
   obtain ⟨h1,h2⟩:=join (caps.map .t) vs (by simpa using hl) (fun i p hp=>by
    rw[List.getElem?_map]at hp;cases hx:caps[i]? with
    |none=>simp[hx]at hp
    |some x=>simp[hx]at hp;subst hp;exact .t (hh i x hx))
   exact ⟨vs,rfl,h1,h2⟩
 ·rename_i caps he
  obtain ⟨rfl,rfl⟩:=hc;rw[he]at hf;generalize hu:a.eval f=u at hf;cases hf with
  |@fn _ _ vs hl hh =>
   obtain ⟨h1,h2⟩:=join caps vs hl hh;exact ⟨vs,rfl,h1,h2⟩
theorem NP {a:Act}{o:Oper}{c:Call}{f:Operand} (hop:o.op=.call c) (hc:c.callee=.value f) {g:FuncId}{caps:Array Value} (hf:a.eval f=.func (.func g) #[] caps) (he:Enters P g) (w:World) :
  (execOp a.eval o).run P w=.ok (.enter g (c.args.toList.map a.eval++caps.toList).toArray) w:=by
 have hargs:#[]++c.args.map a.eval++caps=(c.args.toList.map a.eval++caps.toList).toArray:=by
  apply Array.ext';simp
 simp only[execOp,hop,resolve,hc,hf,Deferred.ofValue,Sem.run_bind,Sem.run_pure,Result.andThen_ok,invoke];rw[Na he,hargs]
theorem RA {s:St}{μ:Id->Nat}{a:Act}{w:World}{o:Oper}{c:Call}{f:Operand}{g:FuncId}{pvs:List PV}{dr:Bool}{K:St->Prop} (hr:Rel A h0 μ0 w0 N s μ a w) (hd:u6 N o=true) (hop:o.op=.call c) (hcv:c.callee=.value f)
  (hc:mI s.sl f c.args.toList=some (g,pvs)) (hK:mR P mu dr o s g pvs K) {Q:Exit->Act->World->Prop} :
  o.wp P a w (fun a' w'=>∃s' μ',K s'/\Rel A h0 μ0 w0 N s' μ' a' w') Q:=by
 obtain ⟨caps,hf,hlen,hvr⟩:=Ux hr.sl hc;have hlt:∀(h:Hp),HR A h μ w->∀b,LL A h μ b->b < w.heap.size:=by
  intro h hh b hb;rcases hb with hA|⟨id,oo,ho,_,rfl⟩
  ·exact hh.old b hA
  ·exact hh.lt ho
 have finish:∀(ts:List Tr) (r:Tr) (h2:Hp) (L':Nat->Prop),aB P g ts r->HR A h2 μ w->Ext s.hp μ w h2 μ w->(∀b,L' b->b < w.heap.size)->J3 w L' ts (c.args.toList.map a.eval++caps.toList).toArray ->
   (∀w' v,Reads w' L' r v->Reads w' (LL A h2 μ) r v)->K (St.put { s with hp:=h2 } o.dst (.t r))->o.wp P a w (fun a' w'=>∃s' μ',K s'/\Rel A h0 μ0 w0 N s' μ' a' w') Q:=by
  intro ts r h2 L' hcall hh2 he2 hL' hrd hres hK2;have hrun:=NP (P:=P) hop hcv hf hcall.1 w;unfold Oper.wp;rw[hrun,Oper.upon_enter];refine (hcall.2 w L' _ hL' hrd).mono fun e w'' ⟨v,he,hrv,hb⟩=>?_
  subst he;obtain ⟨g1,g2⟩:=Ext.grow hh2 hb;exact ⟨_,μ,hK2,hr.step hd g1 (he2.trans g2) (.t (hres _ _ hrv))⟩
 have shared:∀(Q2:PV->Hp->Prop),dM P g pvs s.hp Q2->(∀v h',Q2 v h'->K (St.put { s with hp:=h' } o.dst v))->o.wp P a w (fun a' w'=>∃s' μ',K s'/\Rel A h0 μ0 w0 N s' μ' a' w') Q:=by
  intro Q2 hcall hK2;have hrun:=NP (P:=P) hop hcv hf hcall.1 w;unfold Oper.wp;rw[hrun,Oper.upon_enter];refine (hcall.2 w A μ _ hr.hp (by simpa using hlen) (fun i p hp=>by rw[dZ];exact hvr i p hp)).mono fun e w'' ⟨v,x,h',μ',he,hq,g1,g2,g3⟩=>?_
  subst he;exact ⟨_,μ',hK2 _ _ hq,hr.step hd g1 g2 g3⟩
 have frozen:∀ts r,bA (aS s.hp dep) pvs=some ts->aB P g ts r->K (St.put { s with hp:=frz s.hp (pvs.flatMap (reach s.hp dep)) } o.dst (.t r))->o.wp P a w (fun a' w'=>∃s' μ',K s'/\Rel A h0 μ0 w0 N s' μ' a' w') Q:=by
  intro ts r hm hcall hK;obtain ⟨g1,g2⟩:=hr.hp.frz (pvs.flatMap (reach s.hp dep));refine finish ts r _ (LL A (frz s.hp (pvs.flatMap (reach s.hp dep))) μ) hcall g1 g2 (hlt _ g1) (DY hr.hp hm hlen hvr (fun _ hb=>Wp _ hb) (fun b hb id hid=>?_)) (fun _ _ h=>h) hK;obtain ⟨p,hp,sZ⟩:=List.mem_flatMap.1 hid;obtain ⟨i,hi,rfl⟩:=List.mem_iff_getElem.1 hp;exact Rk hr.hp hb hid (GA hr.hp _ _ _ (hvr i _ (List.getElem?_eq_getElem hi)) id sZ)
 unfold mR at hK;split at hK
 ·rcases hK with ⟨ts,r,htr,hcall,hK⟩|⟨_,v,h',hcall,hK⟩|⟨_,ts,r,hm,hcall,hsc,hK⟩
  ·have:=kY htr;subst this
   refine finish ts r s.hp (LL A s.hp μ) hcall hr.hp (Ext.refl _ _ _) (hlt _ hr.hp) ⟨by simpa using hlen,fun i x hx=>?_⟩ (fun _ _ h=>h) hK;rw[dZ];exact (hvr i (.t x) (by rw[List.getElem?_map,hx];rfl)).tree
  ·rcases hcall.1 with hc1|⟨ts,r,hm,hc1,rfl,rfl⟩
   ·exact shared _ hc1 (fun v' h'' ⟨e1,e2⟩=>by rw[e1,e2];exact hK)
   ·exact frozen ts r hm hc1 hK
  ·exact finish ts r s.hp (fun _=>False) hcall hr.hp (Ext.refl _ _ _) (fun _ h=>h.elim) (DY hr.hp hm hlen hvr (fun _ h=>h.elim) (fun _ h=>h.elim)) (fun w' v h=>h.scalar hsc) hK
 ·rcases hK with ⟨ts,r,hm,hcall,hK⟩|hcall
  ·split at hK
   ·rename_i hsc
    exact finish ts r s.hp (fun _=>False) hcall hr.hp (Ext.refl _ _ _) (fun _ h=>h.elim) (DY hr.hp hm hlen hvr (fun _ h=>h.elim) (fun _ h=>h.elim)) (fun w' v h=>h.scalar hsc) hK
   ·exact frozen ts r hm hcall hK
  ·exact shared _ hcall (fun _ _ h=>h)
theorem RB {s:St}{μ:Id->Nat}{a:Act}{w:World}{o:Oper}{dr:Bool}{p:PV}{K:St->Prop} (hr:Rel A h0 μ0 w0 N s μ a w) (hd:u6 N o=true) (hp:kG s.sl o=some p) (hK:Kr dr o s p K) {Q:Exit->Act->World->Prop} :
  o.wp P a w (fun a' w'=>∃s' μ',K s'/\Rel A h0 μ0 w0 N s' μ' a' w') Q:=by
 unfold kG at hp;split at hp<;>cases hp
 rename_i x hop;unfold Kr at hK;split at hK
 ·rename_i id hx
  obtain ⟨_,hok,hall⟩:=hK;have hv:=Aq hr.sl x;rw[hx]at hv;obtain ⟨v',w',μ',s',v,h',h1,h2,h3,h4,h5,h6⟩:=Uu (P:=P) (o:=o) (sl:=s.sl) hr.hp hv hok o.type;unfold Oper.wp;have hrun:(execOp a.eval o).run P w=.ok (.value v') w':=by simp only[execOp,hop,Sem.run_bind,h1,Result.andThen_ok,Sem.run_pure]
  rw[hrun,Oper.upon_value];refine ⟨s',μ',hall s' h2,?_⟩;rw[h3];exact hr.step hd h4 h5 h6
 ·exact hK.elim
theorem Xz {s:St}{μ:Id->Nat}{a:Act}{w:World}{o:Oper}{dr:Bool}{K:St->Prop} (hr:Rel A h0 μ0 w0 N s μ a w) (hd:u6 N o=true) (hK:opW P mu dr o s K) {Q:Exit->Act->World->Prop} :
  o.wp P a w (fun a' w'=>∃s' μ',K s'/\Rel A h0 μ0 w0 N s' μ' a' w') Q:=by
 have plain:sJ P mu dr o s K->o.wp P a w (fun a' w'=>∃s' μ',K s'/\Rel A h0 μ0 w0 N s' μ' a' w') Q:=by
  intro hh;unfold sJ at hh;cases hnp:kG s.sl o with
  |some p =>
   rw[hnp]at hh;exact RB hr hd hnp hh
  |none =>
  rw[hnp]at hh;have hh:=hh.2;split at hh
  ·rename_i v h' he
   obtain ⟨nx,v',w',μ',h1,h2,h3,h4,h5⟩:=Pt (P:=P) hr.sl hr.hp he;unfold Oper.wp;rw[h1];rcases h2 with rfl|⟨rfl,rfl⟩
   ·rw[Oper.upon_value];exact ⟨_,μ',hh,hr.step hd h3 h4 h5⟩
   ·rw[Oper.upon_skip];exact ⟨_,μ',hh,hr.step hd h3 h4 h5⟩
  ·exact hh.elim
 unfold opW at hK;cases hcp:bN s.sl o with
 |none=>rw[hcp]at hK;exact plain hK
 |some q =>
  rw[hcp]at hK;cases q with
  |none=>exact hK.elim
  |some q =>
   obtain ⟨g,pvs⟩:=q;unfold bN at hcp;split at hcp<;>try (simp at hcp;done)
   rename_i c hop;split at hcp<;>try (simp at hcp;done)
   rename_i f hcv;exact RA hr hd hop hcv (Option.some.inj hcp) hK
theorem NQ {ops:Array Oper}{s:St}{μ:Id->Nat}{a:Act}{w:World}{i:Nat}{o:Oper}{dr:Bool}{K:St->Prop} (hi:ops[i]?=some o) (hr:Rel A h0 μ0 w0 N s μ a w) (hd:∀o∈ops.toList,u6 N o=true) (hK:opG P mu dr ops.toList o s K) {Q:Exit->Act->World->Prop} :
  wpOp P ops Q i (fun a' w'=>∃s' μ',K s'/\Rel A h0 μ0 w0 N s' μ' a' w') a w:=by
 have hdo:u6 N o=true:=hd o (by
  have:=Array.mem_of_getElem? hi;exact Array.mem_toList_iff.2 this)
 have skip:Rel A h0 μ0 w0 N (St.put s o.dst .skip) μ (a.put o.dst undef) w:=by
  have:=hr.step (h':=s.hp) (v:=.skip) (v':=undef) hdo hr.hp (Ext.refl _ _ _) .skip;exact this
 unfold wpOp;simp only[hi];unfold opG at hK;cases hgr:jv ops.toList s.sl o with
 |none=>rw[hgr]at hK;exact hK.elim
 |some r =>
  rw[hgr]at hK;have hw:Region.wanted o (yielded ops a.tmps)=r:=by
   unfold jv at hgr;split at hgr
   ·rename_i hg
    cases hgr
    simp[Region.wanted,hg]
   ·rename_i j want hg
    unfold oI at hgr;cases hj:ops[j]? with
    |none=>rw[<- Array.getElem?_toList]at hj;simp[hj]at hgr
    |some oj =>
     rw[<- Array.getElem?_toList]at hj;simp only[hj]at hgr;rw[Array.getElem?_toList]at hj;cases hdj:oj.dst with
     |none=>simp[hdj]at hgr
     |some d =>
      simp only[hdj]at hgr;have hlt:d < a.tmps.size:=by
       have:=hd oj (Array.mem_toList_iff.2 (Array.mem_of_getElem? hj));simp only[u6,hdj,decide_eq_true_eq]at this;rw[hr.sz];exact this
      have hy':yielded ops a.tmps j=(match a.tmps.getD d Go.undef with|.bool b=>some b|_=>none):=by
       simp only[yielded,hj,Option.bind_some,hdj];have e:a.tmps.getD d Go.undef=a.tmps[d]:=by simp[Array.getD,hlt]
       rw[Array.getElem?_eq_getElem hlt,e];generalize a.tmps[d]=u;cases u<;>rfl
      have hsl:=hr.sl d;split at hgr<;>simp at hgr
      ·rename_i b heq
       split at heq<;>simp at heq
       subst heq;rename_i b hb;rw[hb]at hsl;have hv:=xU hsl.tree;rw[hv]at hy';subst hgr;simp[Region.wanted,hg,hy']
      ·rename_i heq
       split at heq<;>simp at heq
       rename_i hb;rw[hb]at hsl;have hv:a.tmps.getD d Go.undef=Go.undef:=by
        generalize a.tmps.getD d Go.undef=u at hsl;cases hsl;rfl
       rw[hv]at hy';subst hgr;simp[Region.wanted,hg,hy',Go.undef]
  cases r with
  |true=>rw[if_pos hw];exact .inl (Xz hr hdo (hK.1 rfl))
  |false=>rw[if_neg (by rw[hw];simp)];exact ⟨_,μ,hK.2 rfl,skip⟩
theorem Uy {ops:Array Oper} (hd:∀o∈ops.toList,u6 N o=true) {dr:Bool}{Q:Exit->Act->World->Prop}{K:St->Prop}:∀(l:List Nat) (ol:List Oper) (s:St) (μ:Id->Nat) (a:Act) (w:World),
  l.length=ol.length->(∀(k:Nat) i o,l[k]?=some i->ol[k]?=some o->ops[i]?=some o)->Rel A h0 μ0 w0 N s μ a w->ql P mu dr ops.toList ol s K->(∀s' μ' a' w',K s'->Rel A h0 μ0 w0 N s' μ' a' w'->Q .normal a' w') ->
  wpOps P ops Q l a w:=by
 intro l
 induction l with
 |nil =>
  intro ol s μ a w hl _ hr hK hQ;have:ol=[]:=List.eq_nil_of_length_eq_zero (by simpa using hl.symm);subst this;simp only[wpOps];exact hQ s μ a w hK hr
 |cons i l ih =>
  intro ol s μ a w hl hi hr hK hQ;cases ol with
  |nil=>simp at hl
  |cons o ol =>
   rw[wpOps_cons];simp only[ql]at hK;refine wpOp_mono (fun a' w' ⟨s',μ',hK',hr'⟩=>?_) (NQ (hi 0 i o rfl rfl) hr hd hK);exact ih ol s' μ' a' w' (by simpa using hl) (fun k i o h1 h2=>hi (k+1) i o (by simpa using h1) (by simpa using h2)) hr' hK' hQ
end
end Go.Vm
end
