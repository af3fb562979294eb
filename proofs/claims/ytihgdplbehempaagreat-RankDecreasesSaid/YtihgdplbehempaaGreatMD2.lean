import Derived.Test.YtihgdplbehempaaGreatMD1
set_option linter.unusedSimpArgs false
set_option linter.unusedVariables false
set_option maxRecDepth 10000
section
namespace Go.Vm
open Go
def hfree (a b:Nat):Bool:=a==0||b==0||(a==1&&b==1)||(a==1&&b==2)||(a==2&&b==2)
def Y0:Option Nat->Option Nat->Bool
 |some a,some b=>a != b
 |_,_=>false
def jA (o:Oper):Bool:=match o.op with
 |.load ..|.nilCheck _|.fieldAddr ..|.indexAddr ..=>true
 |_=>false
def KD (mu:Nat->Bool) (o:Oper):Bool:=match o.op with
 |.call c=>(match c.callee,c.args.toList with
  |.builtin .len,[_]=>Kq mu o.dst
  |_,_=>false)
 |_=>false
def Uz (mu:Nat->Bool) (o:Oper):Bool:=match o.op with
 |.load _ x|.nilCheck x|.fieldAddr _ x _|.indexAddr _ x _=>rH mu x
 |_=>false
def xZ (mu:Nat->Bool) (o:Oper):Bool:=jA o&&!Uz mu o
def RD (mu:Nat->Bool) (x y:Oper):Bool:=hkind mu x==2&&mu 8999999&&(match x.dst with|some d=>mu (8000000+d)|none=>false)&&KD mu y
def Wq (mu:Nat->Bool) (x y:Oper):Bool:=(hkind mu x==4&&mu 3999999&&((hkind mu y==1&&xZ mu y)||(hkind mu y==2&&!Da mu y.dst)))||(hkind mu x==2&&mu 3999999&&Da mu x.dst&&hkind mu y==1&&xZ mu y)
def ajO (o:Oper):Bool:=match o.op with
 |.call c=>(match c.callee with|.value _=>true|_=>false)
 |_=>false
def Pv (mu:Nat->Bool) (o:Oper):Bool:=match o.op with
 |.call c=>(match c.callee with|.value (.func g)=>!mu (11000000+g)|_=>false)
 |_=>false
theorem Ir {mu:Nat->Bool}{o:Oper} (h:Pv mu o=true) (sl:Sl):∃g args,bN sl o=some (some (g,args))/\mu (11000000+g)=false:=by
 unfold Pv at h;split at h<;>try (cases h;done)
 rename_i c hop;split at h<;>try (cases h;done)
 rename_i g hcf;refine ⟨g,evs sl c.args.toList++[],?_,by simpa using h⟩;unfold bN;rw[hop];simp only[hcf];rfl
def Ws (mu:Nat->Bool) (x y:Oper):Bool:=Pv mu x&&hkind mu x==3&&mu 4999999&&hkind mu y==2&&(match y.dst with|some c=>mu (5000000+c)|none=>false)
def Y1 (o:Oper):Bool:=match o.op with
 |.load ..=>true
 |_=>false
def Wt (mu:Nat->Bool) (x y:Oper):Bool:=Pv mu x&&mu 4999999&&Y1 y&&(match home mu y with|some d=>mu (10000000+d)|none=>false)
def sliceB (o:Oper):Bool:=match o.op with
 |.slice ..=>true
 |_=>false
def Wu (x y:Oper):Bool:=(sliceB x&&jA y)||(jA x&&sliceB y)
def Co (mu:Nat->Bool) (ops:Array Oper) (x y:Oper):Bool:=x.apart ops y&&(hfree (hkind mu x) (hkind mu y)||Y0 (home mu x) (home mu y)||Wq mu x y||Ws mu x y||Wu x y||RD mu x y||Wt mu x y)
def UA (ops:List Oper):List Nat :=
 ops.foldl (fun acc o=>acc++[o.after.toList.foldl (fun s e=>if Region.binds .any e then s ||| 2 ^ e.on ||| acc.getD e.on 0 else s) 0]) []
def J6 (mu:Nat->Bool) (ops:Array Oper):Bool :=
 let l:=ops.toList
 let ps:=UA l
 (ps.length==l.length)&&l.zipIdx.all fun (oj,j)=>oj.after.toList.all (fun e=>!Region.binds .any e||decide (e.on < j)) &&
  (l.take j).zipIdx.all fun (oi,i)=>(ps.getD j 0).testBit i||Co mu ops oi oj
def kN (mu:Nat->Bool) (N:Nat):Code->Bool
 |.region _ ops dr=>ops.toList.all (u6 N)&&(!dr||(J6 mu ops&&Region.noSelect ops))
 |.seq a b=>kN mu N a&&kN mu N b
 |.cond _ a b=>kN mu N a&&kN mu N b
 |.block _ b=>kN mu N b
 |.loop b=>kN mu N b
 |.skip|.ret|.exit _=>true
 |_=>false
section
variable {P:Program}{mu:Nat->Bool}
def EY (P:Program) (mu:Nat->Bool) (o:Oper) (s:St) (g:FuncId) (args:List PV) (v:PV) (h':Hp):Prop:=(∃ts r,trees args=some ts/\aB P g ts r/\v=.t r/\h'=s.hp)\/(EM mu o.dst=true/\Wi P mu g args s.hp v h')\/(rdB mu o.dst=true/\∃ts r,bA (aS s.hp dep) args=some ts/\aB P g ts r/\r.scalar=true/\v=.t r/\h'=s.hp)
def GH (P:Program) (mu:Nat->Bool) (o:Oper) (s:St) (v:PV) (h':Hp):Prop:=bare mu o s.sl=true/\evalOp P mu o s=some (v,h')
def ow (P:Program) (mu:Nat->Bool) (o:Oper) (s:St) (v:PV) (h':Hp):Prop :=
 match bN s.sl o with
 |some (some (g,args))=>EY P mu o s g args v h'
 |some none=>False
 |none=>GH P mu o s v h'
def Out (P:Program) (mu:Nat->Bool) (all:List Oper) (o:Oper) (s:St) (v:PV) (h':Hp):Prop :=
 (jv all s.sl o=some true/\ow P mu o s v h')\/(jv all s.sl o=some false/\v=.skip/\h'=s.hp)
def Step (P:Program) (mu:Nat->Bool) (all:List Oper) (o:Oper) (s s':St):Prop:=∃v h',Out P mu all o s v h'/\s'=St.put { s with hp:=h' } o.dst v
theorem Y2 {o:Oper}{s:St}{K:St->Prop}:opW P mu true o s K↔∃v h',ow P mu o s v h'/\K (St.put { s with hp:=h' } o.dst v):=by
 have plain:sJ P mu true o s K↔∃v h',GH P mu o s v h'/\K (St.put { s with hp:=h' } o.dst v):=by
  unfold sJ GH;cases hnp:kG s.sl o with
  |some p =>
   have he:evalOp P mu o s=none:=by
    unfold kG at hnp;split at hnp
    ·rename_i x hop;unfold evalOp;simp only[hop]
    ·cases hnp
   simp only;constructor
   ·intro hh
    unfold Kr at hh;split at hh
    ·exact absurd hh.1 (by simp)
    ·exact hh.elim
   ·rintro ⟨v,h',⟨_,hh⟩,_⟩
    rw[he]at hh;cases hh
  |none =>
  simp only;constructor
  ·rintro ⟨hb,he⟩
   split at he
   ·rename_i v h' hh;exact ⟨v,h',⟨hb trivial,hh⟩,he⟩
   ·exact he.elim
  ·rintro ⟨v,h',⟨hb,hh⟩,hK⟩
   refine ⟨fun _=>hb,?_⟩;rw[hh];exact hK
 unfold opW ow;cases bN s.sl o with
 |none=>exact plain
 |some q =>
  cases q with
  |none=>simp
  |some q =>
   obtain ⟨g,args⟩:=q;simp only;unfold mR EY;simp only[if_true];constructor
   ·rintro (⟨ts,r,h1,h2,h3⟩|⟨h0,v,h',h1,h2⟩|⟨h0,ts,r,h1,h2,h4,h3⟩)
    ·exact ⟨_,_,.inl ⟨ts,r,h1,h2,rfl,rfl⟩,h3⟩
    ·exact ⟨_,_,.inr (.inl ⟨h0,h1⟩),h2⟩
    ·exact ⟨_,_,.inr (.inr ⟨h0,ts,r,h1,h2,h4,rfl,rfl⟩),h3⟩
   ·rintro ⟨v,h',⟨ts,r,h1,h2,rfl,rfl⟩|⟨h0,h1⟩|⟨h0,ts,r,h1,h2,h4,rfl,rfl⟩,h3⟩
    ·exact .inl ⟨ts,r,h1,h2,h3⟩
    ·exact .inr (.inl ⟨h0,v,h',h1,h3⟩)
    ·exact .inr (.inr ⟨h0,ts,r,h1,h2,h4,h3⟩)
theorem NR {all:List Oper}{o:Oper}{s:St}{K:St->Prop}:opG P mu true all o s K↔∃s',Step P mu all o s s'/\K s':=by
 have key:opG P mu true all o s K↔∃v h',Out P mu all o s v h'/\K (St.put { s with hp:=h' } o.dst v):=by
  unfold opG Out;cases jv all s.sl o with
  |none=>simp
  |some r =>
   cases r with
   |true =>
    simp only[true_implies,Bool.true_eq_false,false_implies,and_true,Option.some.injEq,true_and,false_and,or_false];exact Y2
   |false =>
    simp only[Bool.false_eq_true,false_implies,true_implies,true_and,Option.some.injEq,false_and,false_or];constructor
    ·intro h;exact ⟨_,_,⟨rfl,rfl⟩,h⟩
    ·rintro ⟨_,_,⟨rfl,rfl⟩,h⟩;exact h
 rw[key];constructor
 ·rintro ⟨v,h',h1,h2⟩;exact ⟨_,⟨v,h',h1,rfl⟩,h2⟩
 ·rintro ⟨_,⟨v,h',h1,rfl⟩,h2⟩;exact ⟨v,h',h1,h2⟩
def Steps (P:Program) (mu:Nat->Bool) (all:List Oper):List Oper->St->St->Prop
 |[],s,s'=>s'=s
 |o::r,s,s'=>∃s1,Step P mu all o s s1/\Steps P mu all r s1 s'
theorem Aw {all:List Oper}{K:St->Prop}:∀(l:List Oper) (s:St),ql P mu true all l s K↔∃s',Steps P mu all l s s'/\K s'
 |[],s=>by simp[ql,Steps]
 |o::r,s=>by
  simp only[ql,Steps,NR];constructor
  ·rintro ⟨s1,h1,h2⟩
   obtain ⟨s',h3,h4⟩:=(Aw r s1).1 h2;exact ⟨s',⟨s1,h1,h3⟩,h4⟩
  ·rintro ⟨s',⟨s1,h1,h3⟩,h4⟩
   exact ⟨s1,h1,(Aw r s1).2 ⟨s',h3,h4⟩⟩
def gQ (ops:Array Oper) (o:Oper) (a b:Sl):Prop:=∀t∈o.looksAt ops,a t=b t
theorem gQ.ev {ops:Array Oper}{o:Oper}{a b:Sl} (h:gQ ops o a b) (x:Operand) (hx:x∈o.op.operands):ev a x=ev b x:=by
 cases x with
 |tmp t =>
  refine h t (List.mem_append_left _ (List.mem_filterMap.2 ⟨.tmp t,by simpa using hx,rfl⟩))
 |_=>rfl
theorem DZ {a b:Sl}:∀(l:List Operand),(∀x∈l,ev a x=ev b x)->evs a l=evs b l
 |[],_=>rfl
 |x::l,h=>by simp only[evs];rw[h x (by simp),DZ l (fun y hy=>h y (by simp[hy]))]
theorem kZ {ops:Array Oper}{o:Oper}{a b:Sl}{h:Hp} (hs:gQ ops o a b):evalOp P mu o ⟨a,h⟩=evalOp P mu o ⟨b,h⟩:=by
 have E:=hs.ev;have parts:∀ps:Array (Nat × Operand),(∀x∈(ps.toList.map (·.2)).toArray,ev a x=ev b x)->(ps.toList.map fun p=>(p.1,ev a p.2))=(ps.toList.map fun p=>(p.1,ev b p.2)):=by
  intro ps hp;apply List.map_congr_left;intro p hm;rw[hp p.2 (by simp only[List.mem_toArray,List.mem_map];exact ⟨p,hm,rfl⟩)]
 unfold evalOp;cases hop:o.op<;>simp only<;>(try rfl)<;>rw[hop]at E<;>simp only[Op.operands]at E
 case move x=>rw[E x (by simp)]
 case assign x=>rw[E x (by simp)]
 case pick c x y=>rw[E c (by simp),E x (by simp),E y (by simp)]
 case box t x=>rw[E x (by simp)]
 case build t ps=>rw[parts ps E]
 case buildSlice t n ps=>rw[parts ps E]
 case load t x=>rw[E x (by simp)]
 case store t x y=>rw[E x (by simp),E y (by simp)]
 case nilCheck x=>rw[E x (by simp)]
 case binOp op xt x y yt=>rw[E x (by simp),E y (by simp)]
 case unOp op xt x=>rw[E x (by simp)]
 case convert s d x=>rw[E x (by simp)]
 case makeFunc fn first captured =>
  cases fn<;>simp only
  rw[DZ captured.toList (fun x hx=>E x (by simp;exact .inr (by simpa using hx)))]
 case makeSlice t n m=>rw[E n (by simp),E m (by simp)]
 case slice t x lo hi mx =>
  cases mx<;>simp only
  have hlo:lo.map (ev a)=lo.map (ev b):=by cases lo<;>simp;exact E _ (by simp)
  have hhi:hi.map (ev a)=hi.map (ev b):=by cases hi<;>simp;exact E _ (by simp)
  rw[E x (by simp),hlo,hhi]
 case fieldAddr t x i=>rw[E x (by simp)]
 case field t x i=>rw[E x (by simp)]
 case indexAddr t x i=>rw[E x (by simp),E i (by simp)]
 case index t x i=>rw[E x (by simp),E i (by simp)]
 case lookup t m k c=>cases c<;>simp only;rw[E m (by simp),E k (by simp)]
 case mapUpdate t m k x=>rw[E m (by simp),E k (by simp),E x (by simp)]
 case entry i=>rw[E i (by simp)]
 case makeMap t r=>cases r<;>rfl
 case mapEntry t m k=>rw[E m (by simp),E k (by simp)]
 case entryStore t m i x=>rw[E m (by simp),E i (by simp),E x (by simp)]
 case range t m=>rw[E m (by simp)]
 case extract x i=>rw[E x (by simp)]
 case call c =>
  have hargs:∀x∈c.args.toList,ev a x=ev b x:=fun x hx=>E x (by simp only[Call.operands];exact Array.mem_append.2 (.inr (by simpa using hx)))
  split
  ·rename_i x t rest _ hc _;rw[hargs x (by rw[hc];simp)]
  ·rename_i x y t u _ hc _;rw[hargs x (by rw[hc];simp),hargs y (by rw[hc];simp)]
  ·rename_i x y _ hc;rw[hargs x (by rw[hc];simp),hargs y (by rw[hc];simp)]
  ·rename_i x y _ hc;rw[hargs x (by rw[hc];simp),hargs y (by rw[hc];simp)]
  ·rfl
theorem bT {ops:Array Oper}{o:Oper}{a b:Sl} (hs:gQ ops o a b):jv ops.toList a o=jv ops.toList b o:=by
 unfold jv;cases hg:o.guard with
 |none=>rfl
 |some q =>
  obtain ⟨j,want⟩:=q;simp only;have:oI ops.toList a j=oI ops.toList b j:=by
   unfold oI;rw[Array.getElem?_toList];cases hj:ops[j]? with
   |none=>rfl
   |some oj =>
    simp only;cases hd:oj.dst with
    |none=>rfl
    |some d=>simp only;rw[hs d (List.mem_append_right _ (by simp[hg,hj,hd]))]
  rw[this]
theorem iF {ops:Array Oper}{o:Oper}{a b:Sl} (hs:gQ ops o a b):bN a o=bN b o:=by
 unfold bN;cases hop:o.op<;>simp only
 rename_i c;cases hc:c.callee<;>simp only
 rename_i f;have E:=hs.ev;rw[hop]at E;simp only[Op.operands,Call.operands,hc]at E;have h1:ev a f=ev b f:=E f (by simp);have h2:evs a c.args.toList=evs b c.args.toList:=DZ _ (fun x hx=>E x (by simp;exact .inr (by simpa using hx)));unfold mI;rw[h1,h2]
theorem RF {ops:Array Oper}{o:Oper}{d:Nat} (hd:home mu o=some d) {a b:Sl} (hs:gQ ops o a b):a d=b d:=by
 have E:=hs.ev;unfold home at hd;have key:∀x:Operand,x∈o.op.operands->Am mu x=some d->a d=b d:=by
  intro x hx hh;unfold Am at hh;split at hh<;>try (simp at hh;done)
  split at hh<;>simp at hh
  subst hh;exact E _ hx
 cases hop:o.op<;>simp only[hop]at hd<;>(try (simp at hd;done))<;>rw[hop]at key<;>simp only[Op.operands]at key
 case load t x=>exact key x (by simp) hd
 case store t x y=>exact key x (by simp) hd
theorem Pw {ops:Array Oper}{o:Oper}{a b:Sl} (hs:gQ ops o a b):Gw mu o a=Gw mu o b:=by
 unfold Gw;cases hd:home mu o with
 |none=>rfl
 |some d=>simp only;rw[RF hd hs]
theorem nu {ops:Array Oper}{o:Oper}{a b:Sl} (hs:gQ ops o a b):bare mu o a=bare mu o b:=by
 have E:=hs.ev;unfold bare;rw[Pw hs];have haw:xu mu o a=xu mu o b:=by
  unfold xu;cases hop:o.op<;>simp only<;>(try rfl)<;>rw[hop]at E<;>simp only[Op.operands]at E
  case load t x=>rw[E x (by simp)]
  case nilCheck x=>rw[E x (by simp)]
  case fieldAddr t x i=>rw[E x (by simp)]
  case indexAddr t x i=>rw[E x (by simp)]
  case call c =>
   split
   ·rename_i x y _ hc
    have hm:∀z∈c.args.toList,ev a z=ev b z:=fun z hz=>E z (by simp only[Call.operands];exact Array.mem_append.2 (.inr (by simpa using hz)))
    rw[hm x (by rw[hc];simp),hm y (by rw[hc];simp)]
   ·rename_i x _ hc
    have hm:∀z∈c.args.toList,ev a z=ev b z:=fun z hz=>E z (by simp only[Call.operands];exact Array.mem_append.2 (.inr (by simpa using hz)))
    rw[hm x (by rw[hc];simp)]
   ·rfl
 rw[haw];congr 1;unfold Ul;cases hop:o.op<;>simp only<;>(try rfl)<;>rw[hop]at E<;>simp only[Op.operands]at E
 case load t x=>rw[E x (by simp)]
 case nilCheck x=>rw[E x (by simp)]
 case fieldAddr t x i=>rw[E x (by simp)]
 case indexAddr t x i=>rw[E x (by simp)]
 case binOp op xt x y yt=>rw[E x (by simp),E y (by simp)]
 case slice t x lo hi mx=>rw[E x (by simp)]
 case call c =>
  split
  ·rename_i x _ hc
   rw[E x (by simp only[Call.operands];exact Array.mem_append.2 (.inr (by rw[<- Array.mem_toList_iff,hc];simp)))]
  ·rfl
theorem Out.congr {ops:Array Oper}{o:Oper}{s s2:St}{v:PV}{h':Hp} (h:Out P mu ops.toList o s v h') (hs:gQ ops o s.sl s2.sl) (hh:s2.hp=s.hp):Out P mu ops.toList o s2 v h':=by
 rcases h with ⟨h1,h2⟩|⟨h1,h2,h3⟩
 ·refine .inl ⟨(bT hs)▸h1,?_⟩
  unfold ow at h2 ⊢;rw[<- iF hs];cases hc:bN s.sl o with
  |none =>
   rw[hc]at h2;obtain ⟨h3,h4⟩:=h2;refine ⟨(nu hs)▸h3,?_⟩;obtain ⟨sl,hp⟩:=s;obtain ⟨sl2,hp2⟩:=s2
   simp only at hh hs;subst hh
   rw[<- kZ hs];exact h4
  |some q =>
   rw[hc]at h2;cases q with
   |none=>exact h2.elim
   |some q =>
    obtain ⟨g,args⟩:=q;simp only at h2 ⊢;unfold EY at h2 ⊢;rw[hh];exact h2
 ·exact .inr ⟨(bT hs)▸h1,h2,h3.trans hh.symm⟩
def Z0 (P:Program) (mu:Nat->Bool) (ops:Array Oper) (o:Oper) (s:St) (v:PV) (h':Hp):Prop:=h'=s.hp/\∀s2:St,gQ ops o s.sl s2.sl->Out P mu ops.toList o s2 v s2.hp
def Sub (h h2:Hp):Prop:=∀id o,hget h id=some o->hget h2 id=some o
def Z1 (P:Program) (mu:Nat->Bool) (ops:Array Oper) (o:Oper) (s:St) (v:PV) (h':Hp):Prop:=h'=s.hp/\∀s2:St,gQ ops o s.sl s2.sl->Sub s.hp s2.hp->Out P mu ops.toList o s2 v s2.hp
def Z2 (P:Program) (mu:Nat->Bool) (ops:Array Oper) (o:Oper) (s:St) (v:PV) (h':Hp):Prop :=
 ∃d ob,∃mk:Id->PV,o.dst=some d/\v=mk (hnext s.hp d)/\h'=hnew s.hp d ob/\∀s2:St,gQ ops o s.sl s2.sl->Out P mu ops.toList o s2 (mk (hnext s2.hp d)) (hnew s2.hp d ob)
theorem RG {t:TypeId}{p v:PV}{h h2:Hp} (hl:gB P t p h=some v) (hs:Sub h h2):gB P t p h2=some v:=by
 unfold gB at hl ⊢;split at hl
 ·exact hl
 ·exact hl
 ·rename_i id n off _
  cases ho:hget h id with
  |none=>simp[ho]at hl
  |some o=>simp only[ho]at hl;simp only[hs _ _ ho];exact hl
 ·rename_i id n off _
  cases ho:hget h id with
  |none=>simp[ho]at hl
  |some o=>simp only[ho]at hl;simp only[hs _ _ ho];exact hl
 ·cases hl
theorem Px {t:TypeId}{p v:PV}{h:Hp} (hb:p.isRef=false) (hl:gB P t p h=some v) (h2:Hp):gB P t p h2=some v:=by
 unfold gB at hl ⊢;split at hl
 ·exact hl
 ·exact hl
 ·simp[PV.isRef]at hb
 ·simp[PV.isRef]at hb
 ·cases hl
theorem ze {h h2:Hp}{id:Id}{n:Nat} (hv:valid h id n=true) (hs:Sub h h2):valid h2 id n=true:=by
 obtain ⟨o,ho,hl⟩:=Ar hv;simp[valid,hs _ _ ho,hl]
theorem GI {t:TypeId}{i:Nat}{p v:PV}{h h2:Hp} (hl:dV P t i p h=some v) (hs:Sub h h2):dV P t i p h2=some v:=by
 unfold dV at hl ⊢;split at hl<;>try (simp at hl;done)
 split at hl<;>simp at hl
 ·simp[hl]
 ·simp[ze hl.1 hs,hl.2]
theorem EZ {t:TypeId}{i:Nat}{p v:PV}{h:Hp} (hb:p.isRef=false) (hl:dV P t i p h=some v) (h2:Hp):dV P t i p h2=some v:=by
 unfold dV at hl ⊢;split at hl<;>try (simp at hl;done)
 split at hl<;>simp at hl
 ·simp[hl]
 ·simp[PV.isRef]at hb
theorem GJ {t:TypeId}{p q v:PV}{h h2:Hp} (hl:bP P t p q h=some v) (hs:Sub h h2):bP P t p q h2=some v:=by
 unfold bP at hl ⊢;split at hl<;>try (simp at hl;done)
 split at hl<;>try (simp at hl;done)
 ·exact hl
 ·split at hl<;>try (simp at hl;done)
  rename_i o ho;simp only[hs _ _ ho];exact hl
theorem E5 {t:TypeId}{p q v:PV}{h:Hp} (hb:p.isRef=false) (hl:bP P t p q h=some v) (h2:Hp):bP P t p q h2=some v:=by
 unfold bP at hl ⊢;split at hl<;>try (simp at hl;done)
 split at hl<;>try (simp at hl;done)
 ·exact hl
 ·simp[PV.isRef]at hb
theorem UC {p v:PV}{h h2:Hp} (hl:rF h p=some v) (hs:Sub h h2):rF h2 p=some v:=by
 unfold rF at hl ⊢;split at hl<;>simp at hl
 ·simp[hl]
 ·simp[ze hl.1 hs,hl.2]
theorem RH {p v:PV}{h:Hp} (hb:p.isRef=false) (hl:rF h p=some v) (h2:Hp):rF h2 p=some v:=by
 unfold rF at hl ⊢;split at hl<;>simp at hl
 ·simp[hl]
 ·simp[PV.isRef]at hb
theorem UD {p:PV}{b:Bool}{h h2:Hp} (hl:nk h p=some b) (hs:Sub h h2):nk h2 p=some b:=by
 unfold nk at hl ⊢;split at hl<;>simp at hl
 ·simp[hl]
 ·simp[ze hl.1 hs,hl.2]
theorem RI {p:PV}{b:Bool}{h:Hp} (hb:p.isRef=false) (hl:nk h p=some b) (h2:Hp):nk h2 p=some b:=by
 unfold nk at hl ⊢;split at hl<;>simp at hl
 ·simp[hl]
 ·simp[PV.isRef]at hb
theorem Iu {op:BinOp}{xt:TypeId}{p q v:PV}{h h2:Hp} (hl:cK P h op xt p q=some v) (hn:∀b,nk h p=some b->nk h2 p=some b):cK P h2 op xt p q=some v:=by
 unfold cK at hl ⊢;split at hl
 ·exact hl
 ·exact hl
 ·exact hl
 ·split at hl<;>try (simp at hl;done)
  rename_i e b he hb;simp only[he,hn b hb];exact hl
 ·cases hl
theorem bI {p:Option PV}{h:Hp}{v:PV}{h':Hp} (he:still p h=some (v,h')):p=some v/\h'=h:=by
 unfold still at he;split at he<;>simp at he
 obtain ⟨rfl,rfl⟩:=he;exact ⟨rfl,rfl⟩
theorem dH {p:Option PV}{h:Hp}{v:PV} (hp:p=some v):still p h=some (v,h):=by simp[still,hp]
theorem Nb {t:TypeId}{p v:PV}{lo hi:Option PV}{h h':Hp} (hb:p.isRef=false) (hl:kK P t p lo hi h=some (v,h')):h'=h/\∀h2,kK P t p lo hi h2=some (v,h2):=by
 unfold kK at hl ⊢;split at hl
 ·split at hl<;>try (simp at hl;done)
  split at hl<;>try (simp at hl;done)
  rename_i hc;split at hl<;>try (simp at hl;done)
  split at hl<;>simp at hl
  rename_i hd;refine ⟨hl.2.symm,fun h2=>?_⟩;rw[if_pos hc];simp only[hd,and_self,if_true,hl.1]
 ·simp[PV.isRef]at hb
 ·split at hl<;>try (simp at hl;done)
  rename_i hc;split at hl<;>try (simp at hl;done)
  split at hl<;>simp at hl
  rename_i hd;refine ⟨hl.2.symm,fun h2=>?_⟩;rw[if_pos hc];simp only[hd,and_self,if_true,hl.1]
 ·simp at hl
theorem UE {o:Oper}{sl:Sl}{h h':Hp}{v:PV} (hk:hkind mu o=0) (hb:bare mu o sl=true) (he:evalOp P mu o ⟨sl,h⟩=some (v,h')):h'=h/\∀h2,evalOp P mu o ⟨sl,h2⟩=some (v,h2):=by
 unfold evalOp at he ⊢;unfold hkind at hk;simp only[bare,Bool.and_eq_true]at hb;replace hb:=hb.2;unfold Ul at hb;have site:∀d,o.dst=some d->(match o.dst with|some d=>if mu d then 2 else 0|none=>0)=0->mu d=false:=by
  intro d hd hh;rw[hd]at hh;simp only at hh;split at hh<;>simp_all
 have newVar:∀t cs,iC P mu o.dst t cs h=some (v,h')->(match o.dst with|some d=>if mu d then 2 else 0|none=>0)=0->h'=h/\∀h2,iC P mu o.dst t cs h2=some (v,h2):=by
  intro t cs hn hh;unfold iC at hn ⊢;split at hn<;>try (simp at hn;done)
  rename_i d ag hd hag;split at hn<;>try (simp at hn;done)
  rename_i hc;rw[hd]at hh;simp only at hh;split at hh<;>try (simp at hh;done)
  rename_i hm;simp only[hm,if_false,Bool.false_eq_true]at hn ⊢;split at hn<;>simp at hn
  rename_i ts hts;refine ⟨hn.2.symm,fun h2=>?_⟩;simp only[hd,hag,hc,and_self,if_true,hts,hn.1]
 have newRow:∀e len cs,dG P mu o.dst e len cs h=some (v,h')->(match o.dst with|some d=>if mu d then 2 else 0|none=>0)=0->h'=h/\∀h2,dG P mu o.dst e len cs h2=some (v,h2):=by
  intro e len cs hn hh;unfold dG at hn ⊢;split at hn<;>try (simp at hn;done)
  rename_i d ag hd hag;split at hn<;>try (simp at hn;done)
  rename_i hc;rw[hd]at hh;simp only at hh;split at hh<;>try (simp at hh;done)
  rename_i hm;simp only[hm,if_false,Bool.false_eq_true]at hn ⊢;split at hn<;>simp at hn
  rename_i ts hts;refine ⟨hn.2.symm,fun h2=>?_⟩;simp only[hd,hag,hc,if_false,hts,hn.1]
 cases hop:o.op<;>simp only[hop]at he hk hb ⊢<;>try (simp at he;done)
 case move x=>simp at he;exact ⟨he.2.symm,fun _=>by simp[he.1]⟩
 case assign x=>simp at he;exact ⟨he.2.symm,fun _=>by simp[he.1]⟩
 case pick c x y =>
  split at he<;>simp at he
  exact ⟨he.2.symm,fun _=>by simp[he.1]⟩
 case alloc t =>
  split at he<;>try (simp at he;done)
  exact newVar _ _ he hk
 case box t x=>exact newVar _ _ he hk
 case build t ps=>obtain ⟨h1,h2⟩:=bI he;exact ⟨h2,fun _=>dH h1⟩
 case buildSlice t n ps =>
  unfold jT at he ⊢;split at he<;>try (simp at he;done)
  split at he<;>try (simp at he;done)
  split at he<;>try (simp at he;done)
  rename_i hc;split at he<;>try (simp at he;done)
  rename_i hcs;split at he<;>try (simp at he;done)
  rename_i hone;obtain ⟨h1,h2⟩:=newRow _ _ _ he hk;exact ⟨h1,fun hh=>by simp only[hc,and_self,if_true,hcs,hone];exact h2 hh⟩
 case load t x =>
  obtain ⟨h1,h2⟩:=bI he;split at hk<;>try (simp at hk;done)
  rename_i hm;simp only[hm,Bool.false_or,Bool.not_eq_true']at hb;exact ⟨h2,fun _=>dH (Px hb h1 _)⟩
 case makeMap=>simp at hk
 case lookup t m k c=>cases c<;>simp at hk he
 case mapUpdate=>simp at hk
 case entry=>simp at hk
 case mapEntry=>simp at hk
 case entryStore=>simp at hk
 case range=>simp at hk
 case store=>simp at hk
 case nilCheck x =>
  split at hk<;>try (simp at hk;done)
  rename_i hm;simp only[hm,Bool.false_or,Bool.not_eq_true']at hb;split at he
  ·simp at he;exact ⟨he.2.symm,fun _=>by simp[he.1]⟩
  ·rename_i hx;rw[hx]at hb;simp[PV.isRef]at hb
  ·simp at he
 case binOp op xt x y yt =>
  obtain ⟨h1,h2⟩:=bI he;split at hk<;>try (simp at hk;done)
  rename_i hm;simp only[Bool.or_eq_true,not_or,Bool.not_eq_true]at hm;simp only[hm.1,hm.2,Bool.false_or,Bool.and_eq_true,Bool.not_eq_true']at hb;exact ⟨h2,fun _=>dH (Iu h1 (fun b hh=>RI hb.1 hh _))⟩
 case unOp op xt x=>obtain ⟨h1,h2⟩:=bI he;exact ⟨h2,fun _=>dH h1⟩
 case convert s d x=>obtain ⟨h1,h2⟩:=bI he;exact ⟨h2,fun _=>dH h1⟩
 case makeFunc fn first captured =>
  cases fn<;>simp only at he ⊢<;>try (simp at he;done)
  split at he<;>simp at he
  rename_i hf;exact ⟨he.2.symm,fun _=>by rw[if_pos (by simpa using hf),he.1]⟩
 case makeSlice t n m =>
  unfold kJ at he ⊢;split at he<;>try (simp at he;done)
  split at he<;>try (simp at he;done)
  split at he<;>try (simp at he;done)
  rename_i hc;obtain ⟨h1,h2⟩:=newRow _ _ _ he hk;exact ⟨h1,fun hh=>by simp only[hc,and_self,if_true];exact h2 hh⟩
 case slice t x lo hi mx =>
  split at hk<;>try (simp at hk;done)
  rename_i hm;simp only[hm,Bool.not_true,Bool.false_or,Bool.not_eq_true']at hb;cases mx with
  |none=>exact Nb hb he
  |some _=>simp at he
 case fieldAddr t x i =>
  obtain ⟨h1,h2⟩:=bI he;split at hk<;>try (simp at hk;done)
  rename_i hm;simp only[hm,Bool.false_or,Bool.not_eq_true']at hb;exact ⟨h2,fun _=>dH (EZ hb h1 _)⟩
 case field t x i=>obtain ⟨h1,h2⟩:=bI he;exact ⟨h2,fun _=>dH h1⟩
 case indexAddr t x i =>
  obtain ⟨h1,h2⟩:=bI he;split at hk<;>try (simp at hk;done)
  rename_i hm;simp only[hm,Bool.false_or,Bool.not_eq_true']at hb;exact ⟨h2,fun _=>dH (E5 hb h1 _)⟩
 case index t x i=>obtain ⟨h1,h2⟩:=bI he;exact ⟨h2,fun _=>dH h1⟩
 case extract x i =>
  split at he
  ·split at he<;>simp at he
   rename_i hy;exact ⟨he.2.symm,fun _=>by simp[hy,he.1]⟩
  ·split at he<;>simp at he
   rename_i hy;exact ⟨he.2.symm,fun _=>by simp[hy,he.1]⟩
  ·simp at he
 case call c =>
  split at he
  ·rename_i x t rest hc hargs EX
   simp only[hc,hargs]at hk hb;split at hk<;>try (simp at hk;done)
   rename_i hm;simp only[hm,Bool.false_or,Bool.not_eq_true']at hb;split at he
   ·rename_i hst
    simp only[hst,if_true];split at he<;>simp at he
    exact ⟨he.2.symm,fun _=>by simp[he.1]⟩
   ·rename_i hst
    simp only[hst,if_false,Bool.false_eq_true];split at he<;>try (simp at he;done)
    rename_i hel;obtain ⟨h1,h2⟩:=bI he;exact ⟨h2,fun _=>by rw[if_pos hel];exact dH (RH hb h1 _)⟩
  ·rename_i x y t u hc hargs EX
   simp only[hc,hargs]at hk;split at hk<;>simp at hk
  ·obtain ⟨h1,h2⟩:=bI he;exact ⟨h2,fun _=>dH h1⟩
  ·obtain ⟨h1,h2⟩:=bI he;exact ⟨h2,fun _=>dH h1⟩
  ·simp at he
theorem Nc {t:TypeId}{m k v:PV}{h h2:Hp} (hl:nT P t m k h=some v) (hs:Sub h h2):nT P t m k h2=some v:=by
 unfold nT at hl ⊢;split at hl<;>try (simp at hl;done)
 split at hl<;>try (simp at hl;done)
 rename_i o ho;simp only[hs _ _ ho];exact hl
theorem KE {o:Oper}{sl:Sl}{h h':Hp}{v:PV} (hk:hkind mu o=1) (he:evalOp P mu o ⟨sl,h⟩=some (v,h')):h'=h/\∀h2,Sub h h2->evalOp P mu o ⟨sl,h2⟩=some (v,h2):=by
 unfold evalOp at he ⊢;unfold hkind at hk;cases hop:o.op<;>simp only[hop]at he hk ⊢<;>try (simp at hk;done)
 case slice=>split at hk<;>simp at hk
 case lookup t m k c=>cases c<;>simp only at he<;>first|(simp at he;done)|(obtain ⟨h1,h2⟩:=bI he;exact ⟨h2,fun _ hs=>dH (Nc h1 hs)⟩)
 case load t x=>obtain ⟨h1,h2⟩:=bI he;exact ⟨h2,fun _ hs=>dH (RG h1 hs)⟩
 case nilCheck x =>
  split at he
  ·simp at he;exact ⟨he.2.symm,fun _ _=>by simp[he.1]⟩
  ·split at he<;>simp at he
   rename_i hv;exact ⟨he.2.symm,fun _ hs=>by simp[ze hv hs,he.1]⟩
  ·simp at he
 case binOp op xt x y yt=>obtain ⟨h1,h2⟩:=bI he;exact ⟨h2,fun _ hs=>dH (Iu h1 (fun b hh=>UD hh hs))⟩
 case fieldAddr t x i=>obtain ⟨h1,h2⟩:=bI he;exact ⟨h2,fun _ hs=>dH (GI h1 hs)⟩
 case indexAddr t x i=>obtain ⟨h1,h2⟩:=bI he;exact ⟨h2,fun _ hs=>dH (GJ h1 hs)⟩
 case alloc t =>
  split at hk<;>try (simp at hk;done)
  split at hk<;>simp at hk
 case box t x =>
  split at hk<;>try (simp at hk;done)
  split at hk<;>simp at hk
 case makeSlice t n m =>
  split at hk<;>try (simp at hk;done)
  split at hk<;>simp at hk
 case buildSlice t n ps =>
  split at hk<;>try (simp at hk;done)
  split at hk<;>simp at hk
 case call c =>
  split at he
  ·rename_i x t rest hc hargs EX
   split at he
   ·rename_i hst
    simp only[hst,if_true];split at he<;>simp at he
    exact ⟨he.2.symm,fun _ _=>by simp[he.1]⟩
   ·rename_i hst
    simp only[hst,if_false,Bool.false_eq_true];split at he<;>try (simp at he;done)
    rename_i hel;obtain ⟨h1,h2⟩:=bI he;exact ⟨h2,fun _ hs=>by rw[if_pos hel];exact dH (UC h1 hs)⟩
  ·rename_i x y t u hc hargs EX
   simp only[hc,hargs]at hk;split at hk<;>simp at hk
  ·obtain ⟨h1,h2⟩:=bI he;exact ⟨h2,fun _ _=>dH h1⟩
  ·obtain ⟨h1,h2⟩:=bI he;exact ⟨h2,fun _ _=>dH h1⟩
  ·simp at he
theorem UF {o:Oper}{sl:Sl}{h h':Hp}{v:PV} (hk:hkind mu o=2) (he:evalOp P mu o ⟨sl,h⟩=some (v,h')) :
  ∃d ob,∃mk:Id->PV,o.dst=some d/\v=mk (hnext h d)/\h'=hnew h d ob/\∀h2,evalOp P mu o ⟨sl,h2⟩=some (mk (hnext h2 d),hnew h2 d ob):=by
 unfold evalOp at he ⊢;unfold hkind at hk;have newVar:∀t cs,iC P mu o.dst t cs h=some (v,h')->(match o.dst with|some d=>if mu d then 2 else 0|none=>0)=2 ->
   ∃d ob,∃mk:Id->PV,o.dst=some d/\v=mk (hnext h d)/\h'=hnew h d ob/\∀h2,iC P mu o.dst t cs h2=some (mk (hnext h2 d),hnew h2 d ob):=by
  intro t cs hn hh;unfold iC at hn ⊢;split at hn<;>try (simp at hn;done)
  rename_i d ag hd hag;split at hn<;>try (simp at hn;done)
  rename_i hc;rw[hd]at hh;simp only at hh;split at hh<;>try (simp at hh;done)
  rename_i hm;simp only[hm,if_true]at hn;simp at hn;refine ⟨d,_,fun id=>.ad id 1 0,hd,hn.1.symm,hn.2.symm,fun h2=>?_⟩;simp only[hd,hag,hc,and_self,if_true,hm]
 have newRow:∀e len cs,dG P mu o.dst e len cs h=some (v,h')->(match o.dst with|some d=>if mu d then 2 else 0|none=>0)=2 ->
   ∃d ob,∃mk:Id->PV,o.dst=some d/\v=mk (hnext h d)/\h'=hnew h d ob/\∀h2,dG P mu o.dst e len cs h2=some (mk (hnext h2 d),hnew h2 d ob):=by
  intro e len cs hn hh;unfold dG at hn ⊢;split at hn<;>try (simp at hn;done)
  rename_i d ag hd hag;split at hn<;>try (simp at hn;done)
  rename_i hc;rw[hd]at hh;simp only at hh;split at hh<;>try (simp at hh;done)
  rename_i hm;simp only[hm,if_true]at hn;simp at hn;refine ⟨d,_,fun id=>.rf id len,hd,hn.1.symm,hn.2.symm,fun h2=>?_⟩;simp only[hd,hag,hc,if_false,hm,if_true]
 cases hop:o.op<;>simp only[hop]at he hk ⊢<;>try (simp at hk;done)
 case slice=>split at hk<;>simp at hk
 case load t x=>split at hk<;>simp at hk
 case nilCheck x=>split at hk<;>simp at hk
 case fieldAddr t x i=>split at hk<;>simp at hk
 case indexAddr t x i=>split at hk<;>simp at hk
 case binOp op xt x y yt=>split at hk<;>simp at hk
 case lookup t m k c=>cases c<;>simp at hk
 case call c=>split at hk<;>first|(simp at hk;done)|(split at hk<;>first|(simp at hk;done)|(split at hk<;>simp at hk;done))
 case alloc t =>
  split at he<;>try (simp at he;done)
  exact newVar _ _ he hk
 case box t x=>exact newVar _ _ he hk
 case buildSlice t n ps =>
  unfold jT at he ⊢;split at he<;>try (simp at he;done)
  split at he<;>try (simp at he;done)
  split at he<;>try (simp at he;done)
  rename_i hc;split at he<;>try (simp at he;done)
  rename_i hcs;split at he<;>try (simp at he;done)
  rename_i hone;obtain ⟨d,ob,mk,h1,h2,h3,h4⟩:=newRow _ _ _ he hk;exact ⟨d,ob,mk,h1,h2,h3,fun hh=>by simp only[hc,and_self,if_true,hcs,hone];exact h4 hh⟩
 case makeSlice t n m =>
  unfold kJ at he ⊢;split at he<;>try (simp at he;done)
  split at he<;>try (simp at he;done)
  split at he<;>try (simp at he;done)
  rename_i hc;obtain ⟨d,ob,mk,h1,h2,h3,h4⟩:=newRow _ _ _ he hk;exact ⟨d,ob,mk,h1,h2,h3,fun hh=>by simp only[hc,and_self,if_true];exact h4 hh⟩
theorem XA {h h2:Hp} (hs:Sub h h2):∀(k:Nat) (p:PV) (x:Tr),aS h k p=some x->aS h2 k p=some x:=by
 intro k
 induction k with
 |zero=>intro p x ht;cases p<;>simp[aS]at ht ⊢;exact ht
 |succ k ih =>
  have lists:∀(l:List PV) (ts:List Tr),bA (aS h k) l=some ts->bA (aS h2 k) l=some ts:=by
   intro l
   induction l with
   |nil=>intro ts hm;exact hm
   |cons a l ihl =>
    intro ts hm;simp only[bA]at hm ⊢;split at hm<;>try (simp at hm;done)
    rename_i b bs hb hbs;rw[ih _ _ hb,ihl _ hbs];exact hm
  intro p x ht;cases p<;>simp only[aS]at ht ⊢<;>try (simp at ht;done)
  case t=>exact ht
  case ro=>exact ht
  case rf id n =>
   split at ht<;>try (simp at ht;done)
   rename_i o ho;rw[hs _ _ ho];simp only;split at ht<;>try (simp at ht;done)
   rename_i hl;rw[if_pos hl];split at ht<;>try (simp at ht;done)
   rename_i ts hm;rw[lists _ _ hm];exact ht
  case ad id n off =>
   split at ht<;>try (simp at ht;done)
   rename_i o ho;rw[hs _ _ ho];simp only;split at ht<;>try (simp at ht;done)
   rename_i hl;rw[if_pos hl];split at ht<;>try (simp at ht;done)
   rename_i ts hm;rw[lists _ _ hm];exact ht
  all_goals
   split at ht<;>try (simp at ht;done)
   rename_i ts hm;rw[lists _ _ hm];exact ht
theorem GK {h h2:Hp} (hs:Sub h h2) {k:Nat}:∀ {l:List PV}{ts:List Tr},bA (aS h k) l=some ts->bA (aS h2 k) l=some ts
 |[],_,hm=>hm
 |a::l,ts,hm=>by
  simp only[bA]at hm ⊢;split at hm<;>try (simp at hm;done)
  rename_i b bs hb hbs;rw[XA hs _ _ _ hb,GK hs hbs];exact hm
theorem Py {o:Oper}{sl:Sl}{h h':Hp}{v:PV} (hk:hkind mu o=1) (hl:xZ mu o=true) (h39:mu 3999999=true) (hb:bare mu o sl=true) (he:evalOp P mu o ⟨sl,h⟩=some (v,h')) :
  h'=h/\∀h2:Hp,(∀c,mu (3000000+c)=false->h2 c=h c)->evalOp P mu o ⟨sl,h2⟩=some (v,h2):=by
 have e1:=(KE hk he).1;refine ⟨e1,fun h2 hh=>?_⟩;subst e1;have haw:xu mu o sl=true:=by simp only[bare,Bool.and_eq_true]at hb;exact hb.1.1
 have key:∀p:PV,awX mu p=true->∀id,p.site=some id.1->hget h2 id=hget h' id:=by
  intro p hp id hs;unfold awX DR at hp;rw[h39,hs]at hp;simp only[Bool.not_true,Bool.false_or,Bool.not_eq_true']at hp;unfold hget;rw[hh _ hp]
 unfold xu at haw;unfold xZ jA Uz at hl;unfold evalOp at he ⊢;cases hop:o.op<;>simp only[hop]at hl haw he ⊢<;>try (simp at hl;done)
 case load t x =>
  have haw:awX mu (ev sl x)=true:=by cases hn:rH mu x<;>simp[hn]at hl haw ⊢<;>exact haw
  obtain ⟨g1,_⟩:=bI he;refine dH ?_;rw[<- g1];unfold gB;cases hp:ev sl x with
  |ad id n off =>
   rw[hp]at haw;cases bR P t with
   |none=>rfl
   |some b=>cases b<;>simp only[key _ haw id rfl]
  |ro cs =>
   cases bR P t with
   |none=>rfl
   |some b=>cases b<;>cases cs<;>rfl
  |_ =>
   cases bR P t with
   |none=>rfl
   |some b=>cases b<;>rfl
 case nilCheck x =>
  have haw:awX mu (ev sl x)=true:=by cases hn:rH mu x<;>simp[hn]at hl haw ⊢<;>exact haw
  cases hp:ev sl x with
  |ad id n off =>
   rw[hp]at haw he;have hv2:valid h2 id n=valid h' id n:=by unfold valid;rw[key _ haw id rfl]
   simp only at he ⊢;rw[hv2];cases hv:valid h' id n with
   |true=>rw[hv]at he;simp at he ⊢;exact he
   |false=>rw[hv]at he;simp at he
  |ro cs=>rw[hp]at he;simp only at he ⊢;simp at he;rw[he]
  |_=>rw[hp]at he;simp at he
 case fieldAddr t x i =>
  have haw:awX mu (ev sl x)=true:=by cases hn:rH mu x<;>simp[hn]at hl haw ⊢<;>exact haw
  obtain ⟨g1,_⟩:=bI he;refine dH ?_;rw[<- g1];unfold dV;cases hp:ev sl x with
  |ad id n off=>rw[hp]at haw;unfold valid;simp only[key _ haw id rfl]
  |_=>rfl
 case indexAddr t x i =>
  have haw:awX mu (ev sl x)=true:=by cases hn:rH mu x<;>simp[hn]at hl haw ⊢<;>exact haw
  obtain ⟨g1,_⟩:=bI he;refine dH ?_;rw[<- g1];have hfree:∀p:PV,(∀id n,p≠.rf id n)->∀q:PV,bP P t p q h2=bP P t p q h':=by
   intro p hp q;unfold bP;cases bg P t with
   |none=>rfl
   |some e =>
    cases p with
    |rf id n=>exact absurd rfl (hp id n)
    |t y =>
     cases y with
     |sl nn l =>
      cases q with
      |t z=>cases z<;>rfl
      |_=>rfl
     |_=>rfl
    |_=>rfl
  cases hp:ev sl x with
  |rf id n =>
   rw[hp]at haw;unfold bP;cases bg P t with
   |none=>rfl
   |some e =>
    cases ev sl i with
    |t z =>
     cases z with
     |int k m=>simp only[key _ haw id rfl]
     |_=>rfl
    |_=>rfl
  |_=>exact hfree _ (fun _ _ e=>by cases e) _
theorem UG {o:Oper}{sl:Sl}{h h':Hp}{v:PV} (hk:hkind mu o=4) (h39:mu 3999999=true) (hb:bare mu o sl=true) (he:evalOp P mu o ⟨sl,h⟩=some (v,h')) :
  ∃e L,mu (3000000+e)=true/\h'=upd h e L/\∀h2:Hp,h2 e=h e->Sub h h2->evalOp P mu o ⟨sl,h2⟩=some (v,upd h2 e L):=by
 have haw:xu mu o sl=true:=by simp only[bare,Bool.and_eq_true]at hb;exact hb.1.1
 have self:∀(f:Hp) (a:Nat),upd f a (f a)=f:=fun f a=>by
  funext u;unfold upd;split
  ·rename_i h;rw[h]
  ·rfl
 unfold hkind at hk;unfold xu at haw;unfold evalOp at he ⊢;cases hop:o.op<;>simp only[hop]at hk haw he ⊢<;>try (simp at hk;done)
 all_goals try (split at hk<;>simp at hk;done)
 case alloc =>
  split at hk<;>try (simp at hk;done)
  split at hk<;>simp at hk
 case box =>
  split at hk<;>try (simp at hk;done)
  split at hk<;>simp at hk
 case buildSlice =>
  split at hk<;>try (simp at hk;done)
  split at hk<;>simp at hk
 case makeSlice =>
  split at hk<;>try (simp at hk;done)
  split at hk<;>simp at hk
 case lookup t m k c=>cases c<;>simp at hk
 case call c =>
  obtain ⟨callee,args,argTypes⟩:=c;simp only at hk haw he ⊢;split at he
  ·rename_i x t rest hargs EX
   simp only[hargs]at hk;split at hk<;>simp at hk
  ·rename_i x y t u hargs EX
   simp only[hargs]at hk haw;have hres:Da mu o.dst=true:=by
    cases hr:Da mu o.dst with
    |true=>rfl
    |false=>rw[hr]at hk;simp at hk
   unfold apX at haw;rw[h39,hres]at haw;simp only[Bool.not_true,Bool.false_or]at haw;cases hd:o.dst with
   |none=>rw[hd]at hres;simp[Da]at hres
   |some d =>
    rw[hd]at haw hres he;simp only[Bool.and_eq_true]at haw;obtain ⟨hx,hy⟩:=haw;generalize DL P t u (ev sl y)=yy at *;have hsrc:∀e (h2:Hp),Sub h h2->∀q,iP P e yy h=some q->iP P e yy h2=some q:=by
     intro e h2 hs q hq;unfold iP at hq ⊢;split at hq
     ·exact hq
     ·split at hq<;>try (simp at hq;done)
      rename_i o' ho';simp only[hs _ _ ho'];exact hq
     ·simp at hq
    unfold aT at he ⊢;split at he<;>try (simp at he;done)
    rename_i e hel;split at he<;>try (simp at he;done)
    rename_i z m news hz hsr;split at he<;>try (simp at he;done)
    rename_i hzl;split at he
    ·-- nil
     rename_i nn l hxs;rw[hxs]at hx;split at he
     ·rename_i hm
      simp only[Option.some.injEq,Prod.mk.injEq]at he;obtain ⟨rfl,rfl⟩:=he;refine ⟨d,h d,hres,(self _ _).symm,fun h2 h3 hs=>?_⟩;simp only[hz,hsrc _ _ hs _ hsr,hzl,and_self,if_true,hxs,hm];rw[<- h3,self]
     ·rename_i hm
      split at he<;>try (simp at he;done)
      rename_i hc;unfold dG at he
      try simp only at he
      split at he<;>try (simp at he;done)
      rename_i d' ag hdd hag;cases hdd
      split at he<;>try (simp at he;done)
      rename_i ES;split at he
      ·rename_i hmu
       simp only[Option.some.injEq,Prod.mk.injEq]at he;obtain ⟨rfl,rfl⟩:=he;refine ⟨d,h d++[⟨news,P.cellsOf e,m,e,ag,true⟩],hres,rfl,fun h2 h3 hs=>?_⟩;simp only[hz,hsrc _ _ hs _ hsr,hzl,and_self,if_true,hxs,hm,if_false,hc,dG,hag,ES,hmu];simp only[hnext,hnew,h3]
      ·rename_i hmu
       split at he<;>simp at he
       rename_i ts hts;obtain ⟨rfl,rfl⟩:=he;refine ⟨d,h d,hres,(self _ _).symm,fun h2 h3 hs=>?_⟩;simp only[hz,hsrc _ _ hs _ hsr,hzl,and_self,if_true,hxs,hm,if_false,hc,dG,hag,ES,hmu,hts,Bool.false_eq_true];rw[<- h3,self]
    ·rename_i id n hxs
     rw[hxs]at hx;have hres2:mu (3000000+id.1)=true:=hx;split at he<;>try (simp at he;done)
     rename_i ob hob;split at he<;>try (simp at he;done)
     rename_i hc;have hg:∀h2:Hp,h2 id.1=h id.1->hget h2 id=some ob:=fun h2 h3=>by
      unfold hget at hob ⊢;rw[h3];exact hob
     split at he
     ·rename_i hm
      simp only[Option.some.injEq,Prod.mk.injEq]at he;obtain ⟨rfl,rfl⟩:=he;refine ⟨id.1,h id.1,hres2,(self _ _).symm,fun h2 h3 hs=>?_⟩;simp only[hz,hsrc _ _ hs _ hsr,hzl,and_self,if_true,hxs,hg h2 h3,hm];rw[if_pos (by rw[hm]at hc;exact hc),<- h3,self]
     ·rename_i hm
      simp only[Option.some.injEq,Prod.mk.injEq]at he;obtain ⟨rfl,rfl⟩:=he;refine ⟨id.1,(h id.1).set id.2 { ob with cs:=ob.cs++news,len:=n+m },hres2,rfl,fun h2 h3 hs=>?_⟩;simp only[hz,hsrc _ _ hs _ hsr,hzl,and_self,if_true,hxs,hg h2 h3,hm,if_false];rw[if_pos hc];unfold hset;rw[h3]
    ·simp at he
  ·rename_i x y hargs
   simp at hk
  ·rename_i x y hargs
   simp at hk
  ·simp at he
theorem Out.kind {ops:Array Oper}{o:Oper}{s:St}{v:PV}{h':Hp} (h:Out P mu ops.toList o s v h') :
  Z0 P mu ops o s v h'\/(hkind mu o=1/\Z1 P mu ops o s v h')\/(hkind mu o=2/\Z2 P mu ops o s v h')\/(hkind mu o≠0/\hkind mu o≠1/\hkind mu o≠2):=by
 rcases h with ⟨h1,h2⟩|⟨h1,rfl,rfl⟩
 ·have hcall:∀q,bN s.sl o=some q->hkind mu o=if EM mu o.dst then 3 else if rdB mu o.dst then 1 else 0:=by
   intro q hq;unfold bN at hq;split at hq<;>try (simp at hq;done)
   rename_i c hop;split at hq<;>try (simp at hq;done)
   rename_i f hc;unfold hkind;simp only[hop,hc]
  unfold ow at h2;cases hc:bN s.sl o with
  |some q =>
   rw[hc]at h2;cases q with
   |none=>exact h2.elim
   |some q =>
    obtain ⟨g,args⟩:=q;rcases h2 with ⟨ts,r,t1,t2,rfl,rfl⟩|⟨t0,t1⟩|⟨t0,ts,r,t1,t2,t3,rfl,rfl⟩
    ·refine .inl ⟨rfl,fun s2 hs=>.inl ⟨(bT hs)▸h1,?_⟩⟩
     unfold ow;rw[<- iF hs,hc];exact .inl ⟨ts,r,t1,t2,rfl,rfl⟩
    ·have hk:=hcall _ hc
     rw[t0,if_pos rfl]at hk;exact .inr (.inr (.inr ⟨by omega,by omega,by omega⟩))
    ·have hk:=hcall _ hc
     by_cases hf:EM mu o.dst=true
     ·rw[hf,if_pos rfl]at hk
      exact .inr (.inr (.inr ⟨by omega,by omega,by omega⟩))
     ·rw[if_neg hf,t0,if_pos rfl]at hk
      refine .inr (.inl ⟨hk,rfl,fun s2 hs hsub=>.inl ⟨(bT hs)▸h1,?_⟩⟩);unfold ow;rw[<- iF hs,hc];exact .inr (.inr ⟨t0,ts,r,GK hsub t1,t2,t3,rfl,rfl⟩)
  |none =>
   rw[hc]at h2;obtain ⟨h3,h4⟩:=h2;obtain ⟨sl,hp⟩:=s;have GL:∀(s2:St) (v:PV) (h':Hp),gQ ops o sl s2.sl->evalOp P mu o ⟨sl,s2.hp⟩=some (v,h')->Out P mu ops.toList o s2 v h':=by
    intro s2 v h' hs hev;refine .inl ⟨(bT hs)▸h1,?_⟩;unfold ow;rw[<- iF hs,hc];refine ⟨(nu hs)▸h3,?_⟩;obtain ⟨sl2,hp2⟩:=s2;rw[<- kZ hs];exact hev
   by_cases k0:hkind mu o=0
   ·obtain ⟨e1,e2⟩:=UE k0 h3 h4
    exact .inl ⟨e1,fun s2 hs=>GL s2 _ _ hs (e2 _)⟩
   ·by_cases k1:hkind mu o=1
    ·obtain ⟨e1,e2⟩:=KE k1 h4
     exact .inr (.inl ⟨k1,e1,fun s2 hs hsub=>GL s2 _ _ hs (e2 _ hsub)⟩)
    ·by_cases k2:hkind mu o=2
     ·obtain ⟨d,ob,mk,e1,e2,e3,e4⟩:=UF k2 h4
      exact .inr (.inr (.inl ⟨k2,d,ob,mk,e1,e2,e3,fun s2 hs=>GL s2 _ _ hs (e4 _)⟩))
     ·exact .inr (.inr (.inr ⟨k0,k1,k2⟩))
 ·exact .inl ⟨rfl,fun s2 hs=>.inr ⟨(bT hs)▸h1,rfl,rfl⟩⟩
def Zh (P:Program) (mu:Nat->Bool) (ops:Array Oper) (o:Oper) (d:Nat) (s:St) (v:PV) (h':Hp):Prop :=
 ∃L,h'=upd s.hp d L/\∀s2:St,gQ ops o s.sl s2.sl->s2.hp d=s.hp d->Out P mu ops.toList o s2 v (upd s2.hp d L)
theorem x9 {α:Type} (f:Nat->α) (a:Nat):upd f a (f a)=f:=by
 funext u;unfold upd;split
 ·rename_i h;rw[h]
 ·rfl
theorem Out.home {ops:Array Oper}{o:Oper}{s:St}{v:PV}{h':Hp}{d:Nat} (h:Out P mu ops.toList o s v h') (hd:home mu o=some d):Zh P mu ops o d s v h':=by
 rcases h with ⟨h1,h2⟩|⟨h1,rfl,rfl⟩
 ·have hc:bN s.sl o=none:=by
   unfold Vm.home at hd;unfold bN;cases hop:o.op<;>simp only[hop]at hd<;>first|rfl|(simp at hd)
  unfold ow at h2;rw[hc]at h2;obtain ⟨h3,h4⟩:=h2;have hh:Gw mu o s.sl=true:=by simp only[bare,Bool.and_eq_true]at h3;exact h3.1.2
  have GL:∀(s2:St) (v:PV) (h':Hp),gQ ops o s.sl s2.sl->evalOp P mu o ⟨s.sl,s2.hp⟩=some (v,h')->Out P mu ops.toList o s2 v h':=by
   intro s2 v h' hs hev;refine .inl ⟨(bT hs)▸h1,?_⟩;unfold ow;rw[<- iF hs,hc];refine ⟨(nu hs)▸h3,?_⟩;obtain ⟨sl2,hp2⟩:=s2;rw[<- kZ hs];exact hev
  unfold Gw at hh;rw[hd]at hh;simp only at hh;have hval:∃id n off,s.sl d=.ad id n off/\id.1=d:=by
   unfold PV.at_ at hh;split at hh
   ·rename_i id n off heq;exact ⟨id,n,off,heq,by simpa using hh⟩
   ·cases hh
  obtain ⟨id,n,off,hsl,hid⟩:=hval;have hgeq:∀h2:Hp,h2 d=s.hp d->hget h2 id=hget s.hp id:=fun h2 he=>by unfold hget;rw[hid,he]
  have acO:∀x:Operand,Am mu x=some d->ev s.sl x=.ad id n off:=by
   intro x hx;unfold Am at hx;split at hx<;>try (simp at hx;done)
   split at hx<;>simp at hx
   subst hx;exact hsl
  unfold Vm.home at hd;cases hop:o.op<;>simp only[hop]at hd<;>try (simp at hd;done)
  case load t x =>
   have hx:=acO x hd;have hev:∀h2:Hp,evalOp P mu o ⟨s.sl,h2⟩=still (gB P t (.ad id n off) h2) h2:=fun h2=>by unfold evalOp;simp only[hop,hx]
   have h4':evalOp P mu o ⟨s.sl,s.hp⟩=some (v,h'):=h4;rw[hev]at h4';obtain ⟨e1,e2⟩:=bI h4';refine ⟨s.hp d,by rw[e2,x9],fun s2 hs he=>GL s2 _ _ hs ?_⟩;rw[hev,<- he,x9];refine dH ?_;rw[<- e1];unfold gB;cases bR P t with
   |none=>rfl
   |some b=>cases b<;>simp only[hgeq _ he]
  case store t x y =>
   have hx:=acO x hd;have hev:∀h2:Hp,evalOp P mu o ⟨s.sl,h2⟩=(match lH P t (.ad id n off) (ev s.sl y) h2 with|some h=>some (.skip,h)|none=>none):=fun h2=>by
    unfold evalOp;simp only[hop,hx]
    cases lH P t (.ad id n off) (ev s.sl y) h2<;>rfl
   have h4':evalOp P mu o ⟨s.sl,s.hp⟩=some (v,h'):=h4;rw[hev]at h4';split at h4'<;>simp at h4'
   rename_i hh2 hst;obtain ⟨rfl,rfl⟩:=h4';unfold lH at hst;cases ho:hget s.hp id with
   |none=>simp[ho]at hst
   |some ob =>
    simp only[ho]at hst;split at hst<;>simp at hst
    rename_i hcond;subst hst;refine ⟨(s.hp d).set id.2 { ob with cs:=splice ob.cs off (ev s.sl y).cells },by unfold hset;rw[hid],fun s2 hs he=>GL s2 _ _ hs ?_⟩;rw[hev];have:lH P t (.ad id n off) (ev s.sl y) s2.hp=some (upd s2.hp d ((s.hp d).set id.2 { ob with cs:=splice ob.cs off (ev s.sl y).cells })):=by
     unfold lH;simp only[hgeq _ he,ho];rw[if_pos hcond];unfold hset;rw[hid,he]
    rw[this]
 ·exact ⟨s.hp d,(x9 _ _).symm,fun s2 hs he=>by rw[<- he,x9];exact .inr ⟨(bT hs)▸h1,rfl,rfl⟩⟩
theorem Cq {α:Type} (f:Nat->α) {a b:Nat} (x y:α) (h:a≠b):upd (upd f a x) b y=upd (upd f b y) a x:=by
 funext u;simp only[upd]
 by_cases h1:u=b
 ·subst h1;simp[Ne.symm h]
 ·simp[h1]
theorem put_comm (s:St) (h1 h2:Hp) {a b:Option Tmp} (x y:PV) (hne:∀d,a=some d->b≠some d) :
  St.put { (St.put { s with hp:=h1 } a x) with hp:=h2 } b y=St.put { (St.put { s with hp:=h1 } b y) with hp:=h2 } a x:=by
 cases a with
 |none=>cases b<;>rfl
 |some d =>
  cases b with
  |none=>rfl
  |some e =>
   have hde:d≠e:=fun h=>hne d rfl (h▸rfl)
   simp only[St.put];rw[Cq _ _ _ hde]
theorem Iw {ops:Array Oper}{o:Oper}{s:St}{d:Option Tmp}{v:PV}{h:Hp} (hd:∀t,d=some t->t∉o.looksAt ops):gQ ops o (St.put { s with hp:=h } d v).sl s.sl:=by
 intro t ht;cases d with
 |none=>rfl
 |some e =>
  simp only[St.put];exact upd_ne _ _ _ _ (fun h=>hd e rfl (h▸ht))
theorem bD (s:St) (h:Hp) (d:Option Tmp) (v:PV):(St.put { s with hp:=h } d v).hp=h:=by cases d<;>rfl
theorem RJ (s:St) (h h2:Hp) (d e:Option Tmp) (v x:PV):St.put { (St.put { s with hp:=h } d v) with hp:=h2 } e x=St.put { (St.put { s with hp:=h2 } d v) with hp:=h2 } e x:=by
 cases d<;>cases e<;>rfl
theorem Out.rd {ops:Array Oper}{o:Oper}{s:St}{v:PV}{h':Hp} (h:Out P mu ops.toList o s v h') (hk:hkind mu o=1) (hl:xZ mu o=true) (h39:mu 3999999=true) :
  h'=s.hp/\∀s2:St,gQ ops o s.sl s2.sl->(∀c,mu (3000000+c)=false->s2.hp c=s.hp c)->Out P mu ops.toList o s2 v s2.hp:=by
 rcases h with ⟨h1,h2⟩|⟨h1,rfl,rfl⟩
 ·have hc:bN s.sl o=none:=by
   unfold xZ jA Uz at hl;unfold bN;cases hop:o.op<;>simp only[hop]at hl<;>first|rfl|(simp at hl)
  unfold ow at h2;rw[hc]at h2;obtain ⟨h3,h4⟩:=h2;obtain ⟨e1,e2⟩:=Py (h:=s.hp) hk hl h39 h3 h4;refine ⟨e1,fun s2 hs hh=>.inl ⟨(bT hs)▸h1,?_⟩⟩;unfold ow;rw[<- iF hs,hc];refine ⟨(nu hs)▸h3,?_⟩;have:=e2 s2.hp hh;obtain ⟨sl2,hp2⟩:=s2;rw[<- kZ hs];exact this
 ·exact ⟨rfl,fun s2 hs _=>.inr ⟨(bT hs)▸h1,rfl,rfl⟩⟩
theorem Out.ap {ops:Array Oper}{o:Oper}{s:St}{v:PV}{h':Hp} (h:Out P mu ops.toList o s v h') (hk:hkind mu o=4) (h39:mu 3999999=true) :
  Z0 P mu ops o s v h'\/∃d L,mu (3000000+d)=true/\h'=upd s.hp d L/\∀s2:St,gQ ops o s.sl s2.sl->s2.hp d=s.hp d->Sub s.hp s2.hp->Out P mu ops.toList o s2 v (upd s2.hp d L):=by
 rcases h with ⟨h1,h2⟩|⟨h1,rfl,rfl⟩
 ·right
  have hc:bN s.sl o=none:=by
   unfold hkind at hk;unfold bN;cases hop:o.op<;>simp only[hop]at hk<;>try rfl
   rename_i c;cases hcc:c.callee with
   |value f =>
    rw[hcc]at hk;simp only at hk;split at hk
    ·simp at hk
    ·split at hk<;>simp at hk
   |_=>simp only[hcc]
  unfold ow at h2;rw[hc]at h2;obtain ⟨h3,h4⟩:=h2;obtain ⟨d,L,e2,e3,e4⟩:=UG (h:=s.hp) hk h39 h3 h4;refine ⟨d,L,e2,e3,fun s2 hs hd hsub=>.inl ⟨(bT hs)▸h1,?_⟩⟩;unfold ow;rw[<- iF hs,hc];refine ⟨(nu hs)▸h3,?_⟩;have:=e4 s2.hp hd hsub;obtain ⟨sl2,hp2⟩:=s2;rw[<- kZ hs];exact this
 ·exact .inl ⟨rfl,fun s2 hs=>.inr ⟨(bT hs)▸h1,rfl,rfl⟩⟩
def Live (h h2:Hp):Prop:=∀id,(hget h2 id).map (fun o=>{ o with live:=true })=(hget h id).map (fun o=>{ o with live:=true })
theorem Live.refl (h:Hp):Live h h:=fun _=>rfl
theorem Live.symm {h h2:Hp} (hl:Live h h2):Live h2 h:=fun id=>(hl id).symm
theorem Live.get {h h2:Hp} (hl:Live h h2) {id:Id}:(hget h id=none/\hget h2 id=none)\/∃o o2,hget h id=some o/\hget h2 id=some o2/\o2.cs=o.cs/\o2.esz=o.esz/\o2.len=o.len/\o2.elem=o.elem/\o2.ag=o.ag:=by
 have:=hl id;cases h1:hget h id with
 |none =>
  rw[h1]at this;cases h2':hget h2 id with
  |none=>exact .inl ⟨rfl,rfl⟩
  |some o=>rw[h2']at this;cases this
 |some o =>
  rw[h1]at this;cases h2':hget h2 id with
  |none=>rw[h2']at this;cases this
  |some o2 =>
   rw[h2']at this;simp only[Option.map_some,Option.some.injEq,Obj.mk.injEq,and_true]at this;obtain ⟨e1,e2,e3,e4,e5⟩:=this;exact .inr ⟨o,o2,rfl,rfl,e1,e2,e3,e4,e5⟩
theorem Live.frz (h:Hp) (ids:List Id):Live h (frz h ids):=fun id=>by
 rw[mJ];cases hget h id<;>rfl
theorem Pz {t:TypeId}{p:PV}{h h2:Hp} (hl:Live h h2):gB P t p h2=gB P t p h:=by
 cases p with
 |ad id n off =>
  unfold gB;cases hagg:bR P t with
  |none=>rfl
  |some b =>
   rcases hl.get (id:=id) with ⟨e1,e2⟩|⟨o,o2,e1,e2,f1,f2,f3,f4,f5⟩
   ·cases b<;>simp only[e1,e2]
   ·cases b<;>simp only[e1,e2,f1,f3]
 |ro cs=>unfold gB;(cases bR P t with|none=>rfl|some b=>cases b<;>cases cs<;>rfl)
 |_=>unfold gB;(cases bR P t with|none=>rfl|some b=>cases b<;>rfl)
theorem Iy {h h2:Hp} (hl:Live h h2) (id:Id) (n:Nat):valid h2 id n=valid h id n:=by
 unfold valid;rcases hl.get (id:=id) with ⟨e1,e2⟩|⟨o,o2,e1,e2,f1,f2,f3,f4,f5⟩
 ·rw[e1,e2]
 ·rw[e1,e2];simp only[f3]
theorem E8 {t:TypeId}{i:Nat}{p:PV}{h h2:Hp} (hl:Live h h2):dV P t i p h2=dV P t i p h:=by
 cases p with
 |ad id n off=>unfold dV;(cases bU P t i with|none=>rfl|some q=>simp only[Iy hl])
 |_=>unfold dV;(cases bU P t i with|none=>rfl|some q=>rfl)
theorem E9 {t:TypeId}{p q:PV}{h h2:Hp} (hl:Live h h2):bP P t p q h2=bP P t p q h:=by
 cases p with
 |rf id n =>
  unfold bP;cases hagg:bg P t with
  |none=>rfl
  |some e =>
   cases q with
   |t x =>
    cases x with
    |int k i =>
     rcases hl.get (id:=id) with ⟨e1,e2⟩|⟨o,o2,e1,e2,f1,f2,f3,f4,f5⟩
     ·simp only[e1,e2]
     ·simp only[e1,e2,f2,f3]
    |_=>rfl
   |_=>rfl
 |t x=>unfold bP;(cases bg P t with|none=>rfl|some e=>cases x<;>cases q<;>(first|rfl|(rename_i y;cases y<;>rfl)))
 |_=>unfold bP;(cases bg P t with|none=>rfl|some e=>rfl)
theorem Fa {o:Oper}{sl:Sl}{h h' h2:Hp}{v:PV} (hr:jA o=true) (hl:Live h h2) (he:evalOp P mu o ⟨sl,h⟩=some (v,h')):h'=h/\evalOp P mu o ⟨sl,h2⟩=some (v,h2):=by
 unfold jA at hr;split at hr<;>try (cases hr;done)
 ·rename_i t x hop
  unfold evalOp at he ⊢;simp only[hop]at he ⊢;obtain ⟨e1,e2⟩:=bI he;exact ⟨e2,by rw[Pz hl];exact dH e1⟩
 ·rename_i x hop
  unfold evalOp at he ⊢;simp only[hop]at he ⊢;split at he
  ·rename_i cs hx
   cases he
   exact ⟨rfl,by simp⟩
  ·rename_i id n off hx
   split at he
   ·rename_i hv
    cases he
    refine ⟨rfl,?_⟩;rw[if_pos (by rw[Iy hl];exact hv)]
   ·cases he
  ·cases he
 ·rename_i t x i hop
  unfold evalOp at he ⊢;simp only[hop]at he ⊢;obtain ⟨e1,e2⟩:=bI he;exact ⟨e2,by rw[E8 hl];exact dH e1⟩
 ·rename_i t x i hop
  unfold evalOp at he ⊢;simp only[hop]at he ⊢;obtain ⟨e1,e2⟩:=bI he;exact ⟨e2,by rw[E9 hl];exact dH e1⟩
theorem Ae {o:Oper} (hr:jA o=true) (sl:Sl):bN sl o=none:=by
 unfold jA at hr;unfold bN;cases hop:o.op<;>simp only[hop]at hr<;>first|rfl|(simp at hr)
theorem Out.read {ops:Array Oper}{o:Oper}{s:St}{v:PV}{h':Hp} (h:Out P mu ops.toList o s v h') (hr:jA o=true) :
  h'=s.hp/\∀s2:St,gQ ops o s.sl s2.sl->Live s.hp s2.hp->Out P mu ops.toList o s2 v s2.hp:=by
 rcases h with ⟨h1,h2⟩|⟨h1,rfl,rfl⟩
 ·unfold ow at h2
  rw[Ae hr]at h2;obtain ⟨h3,h4⟩:=h2;obtain ⟨sl,hp⟩:=s;refine ⟨(Fa hr (Live.refl _) h4).1,fun s2 hs hl=>.inl ⟨(bT hs)▸h1,?_⟩⟩;unfold ow;rw[Ae hr];refine ⟨(nu hs)▸h3,?_⟩;obtain ⟨sl2,hp2⟩:=s2;rw[<- kZ hs];exact (Fa hr hl h4).2
 ·exact ⟨rfl,fun s2 hs _=>.inr ⟨(bT hs)▸h1,rfl,rfl⟩⟩
theorem Nf {t:TypeId}{x v:PV}{lo hi:Option PV}{h h':Hp} (he:kK P t x lo hi h=some (v,h')):Live h h':=by
 unfold kK at he
 repeat' split at he
 all_goals first
  |(cases he;done)
  |(simp only[Option.some.injEq,Prod.mk.injEq]at he;obtain ⟨_,rfl⟩:=he;first|exact Live.refl _|exact Live.frz _ _)
theorem Out.part {ops:Array Oper}{o:Oper}{s:St}{v:PV}{h':Hp} (h:Out P mu ops.toList o s v h') (hr:sliceB o=true):Live s.hp h':=by
 rcases h with ⟨h1,h2⟩|⟨h1,rfl,rfl⟩
 ·unfold sliceB at hr
  split at hr<;>try (cases hr;done)
  rename_i t x lo hi mx hop;unfold ow at h2;have hc:bN s.sl o=none:=by unfold bN;simp only[hop]
  rw[hc]at h2;obtain ⟨_,h4⟩:=h2;unfold evalOp at h4;simp only[hop]at h4;cases mx with
  |none=>exact Nf h4
  |some m=>cases h4
 ·exact Live.refl _
theorem Out.len {ops:Array Oper}{o:Oper}{s:St}{v:PV}{h':Hp} (h:Out P mu ops.toList o s v h') (hl:KD mu o=true) (h89:mu 8999999=true) :
  h'=s.hp/\∀s2:St,gQ ops o s.sl s2.sl->(∀c,mu (8000000+c)=false->s2.hp c=s.hp c)->Out P mu ops.toList o s2 v s2.hp:=by
 unfold KD at hl;split at hl<;>try (cases hl;done)
 rename_i c hop;split at hl<;>try (cases hl;done)
 rename_i x hc1 hc2;have hcp:∀sl,bN sl o=none:=fun sl=>by unfold bN;simp only[hop,hc1]
 rcases h with ⟨h1,h2⟩|⟨h1,rfl,rfl⟩
 ·unfold ow at h2
  rw[hcp]at h2;obtain ⟨h3,h4⟩:=h2;have haw:awY mu (ev s.sl x)=true:=by
   have:xu mu o s.sl=true:=by simp only[bare,Bool.and_eq_true]at h3;exact h3.1.1
   unfold xu at this;simp only[hop,hc1,hc2,hl,Bool.not_true,Bool.false_or]at this;exact this
  have hev:∀h:Hp,evalOp P mu o ⟨s.sl,h⟩=(match c.argTypes.toList with
    |t::_=>if fT P t then (match ev s.sl x with|.t (.str b)=>some (.t (.int .i64 b.size),h)|_=>none) else if (bg P t).isSome then still (rF h (ev s.sl x)) h else none
    |[]=>none):=fun h=>by
   unfold evalOp;simp only[hop,hc1,hc2];cases c.argTypes.toList<;>rfl
  have key:∀h2:Hp,(∀c,mu (8000000+c)=false->h2 c=s.hp c)->rF h2 (ev s.sl x)=rF s.hp (ev s.sl x):=by
   intro h2 hh;cases hx:ev s.sl x with
   |rf id n =>
    rw[hx]at haw;unfold awY at haw;simp only[h89,Bool.not_true,Bool.false_or,PV.site,Bool.not_eq_true']at haw;have e:valid h2 id n=valid s.hp id n:=by unfold valid hget;rw[hh _ haw]
    show (if valid h2 id n=true then some (PV.t (.int .i64 n)) else none)=(if valid s.hp id n=true then some (PV.t (.int .i64 n)) else none)
    rw[e]
   |t y=>cases y<;>rfl
   |_=>rfl
  have fin:∀h2:Hp,(∀c,mu (8000000+c)=false->h2 c=s.hp c)->h'=s.hp/\evalOp P mu o ⟨s.sl,h2⟩=some (v,h2):=by
   intro h2 hh;have h4':evalOp P mu o ⟨s.sl,s.hp⟩=some (v,h'):=h4;rw[hev]at h4';rw[hev];cases hat:c.argTypes.toList with
   |nil=>rw[hat]at h4';simp at h4'
   |cons t ts =>
    rw[hat]at h4';simp only at h4' ⊢;split
    ·rename_i hs
     rw[if_pos hs]at h4';split at h4'
     ·rename_i b hb
      simp only[Option.some.injEq,Prod.mk.injEq]at h4';exact ⟨h4'.2.symm,by simp[hb,h4'.1]⟩
     ·cases h4'
    ·rename_i hs
     rw[if_neg hs]at h4';split
     ·rename_i he2
      rw[if_pos he2]at h4';obtain ⟨g1,g2⟩:=bI h4';exact ⟨g2,by rw[key h2 hh];exact dH g1⟩
     ·rename_i he2
      rw[if_neg he2]at h4';cases h4'
  refine ⟨(fin s.hp (fun _ _=>rfl)).1,fun s2 hs hh=>.inl ⟨(bT hs)▸h1,?_⟩⟩;unfold ow;rw[hcp];refine ⟨(nu hs)▸h3,?_⟩;have:=(fin s2.hp hh).2;obtain ⟨sl2,hp2⟩:=s2;rw[<- kZ hs];exact this
 ·exact ⟨rfl,fun s2 hs _=>.inr ⟨(bT hs)▸h1,rfl,rfl⟩⟩
theorem Step.swap {ops:Array Oper}{x y:Oper}{s s1 s2:St} (hi:Co mu ops x y=true) (h1:Step P mu ops.toList x s s1) (h2:Step P mu ops.toList y s1 s2) :
  ∃t,Step P mu ops.toList y s t/\Step P mu ops.toList x t s2:=by
 simp only[Co,Bool.and_eq_true]at hi;obtain ⟨hap,hfr⟩:=hi;obtain ⟨a1,a2,a3⟩:=Oper.apart_spec hap;obtain ⟨vx,hx,ox,rfl⟩:=h1;obtain ⟨vy,hy,oy,rfl⟩:=h2;have sy:gQ ops y (St.put { s with hp:=hx } x.dst vx).sl s.sl:=Iw a1;have sx:∀h v,gQ ops x s.sl (St.put { s with hp:=h } y.dst v).sl:=fun h v t ht=>(Iw (s:=s) (h:=h) (v:=v) a3 t ht).symm
 have fin:∀(h:Hp) (t:St),t=St.put { s with hp:=h } y.dst vy->Out P mu ops.toList y s vy h->(∀h'',Out P mu ops.toList x t vx h''->h''=hy->∃t,Step P mu ops.toList y s t/\Step P mu ops.toList x t (St.put { (St.put { s with hp:=hx } x.dst vx) with hp:=hy } y.dst vy)):=by
  intro h t ht o1 h'' o2 he;subst ht;subst he
  refine ⟨_,⟨vy,h,o1,rfl⟩,vx,h'',o2,?_⟩;rw[RJ,RJ s h,put_comm _ _ _ _ _ a2]
 rw[Bool.or_eq_true,Bool.or_eq_true,Bool.or_eq_true,Bool.or_eq_true,Bool.or_eq_true,Bool.or_eq_true]at hfr;rcases hfr with (((((hfr|hst)|acP)|hex)|hfz)|hln)|hkp
 rotate_left 6
 ·-- a call that leaves a site as it is;then a load from there
  simp only[Wt,Bool.and_eq_true]at hkp;obtain ⟨⟨⟨hcb,h49⟩,hlb⟩,hm⟩:=hkp;have hlr:jA y=true:=by
   unfold Y1 at hlb;split at hlb<;>try (cases hlb;done)
   rename_i hop;unfold jA;rw[hop]
  obtain ⟨e1,_⟩:=oy.read hlr;rw[bD]at e1;cases hh:home mu y with
  |none=>rw[hh]at hm;cases hm
  |some d =>
   rw[hh]at hm;simp only at hm;have hkeep:hx d=s.hp d:=by
    rcases ox with ⟨h1,h2⟩|⟨h1,rfl,rfl⟩
    ·unfold ow at h2
     obtain ⟨g0,aei,hc0,hg0⟩:=Ir hcb s.sl;cases hc:bN s.sl x with
     |none =>
      exfalso;rw[hc]at hc0;cases hc0
     |some q =>
      rw[hc]at h2;cases q with
      |none=>exact h2.elim
      |some q =>
       obtain ⟨g,args⟩:=q;rcases h2 with ⟨ts,r,t1,t2,rfl,rfl⟩|⟨t0,t1⟩|⟨t0,ts,r,t1,t2,t3,rfl,rfl⟩
       ·rfl
       ·have hgg:g=g0:=by rw[hc]at hc0;injection hc0 with hc0;injection hc0 with hc0;injection hc0
        exact (t1.2 h49 (hgg▸hg0)).2.1 d hm
       ·rfl
    ·rfl
   obtain ⟨L,g1,g2⟩:=oy.home hh;rw[bD]at g1 g2;have hL:L=s.hp d:=by
    have:=congrFun g1 d;rw[e1]at this;simp only[EL]at this;rw[<- this,hkeep]
   have oy':=g2 s sy hkeep.symm;rw[hL,x9]at oy';exact fin s.hp _ rfl oy' hx (ox.congr (sx _ _) (bD _ _ _ _)) e1.symm
 rotate_left 5
 ·-- an object is made;then a length is asked for
  simp only[RD,Bool.and_eq_true,beq_iff_eq]at hln;obtain ⟨⟨⟨hk2,h89⟩,hm⟩,hlr⟩:=hln;obtain ⟨e1,e2⟩:=oy.len hlr h89;rw[bD]at e1;rcases ox.kind with z|⟨ky,z⟩|⟨ky,z⟩|ky
  ·obtain ⟨f1,f2⟩:=z
   have oy':Out P mu ops.toList y s vy hy:=oy.congr sy (by rw[bD,f1]);refine fin hy _ rfl oy' hy ?_ rfl;have:=f2 (St.put { s with hp:=hy } y.dst vy) (sx _ _)
   rwa [bD]at this
  ·omega
  ·obtain ⟨c,ob,mk,k1,k2,k3,k4⟩:=z
   rw[k1]at hm;simp only at hm;have oy':=e2 s sy (fun c' hc=>by
    rw[bD,k3];unfold hnew;exact (upd_ne _ _ _ _ (fun e=>by rw[e,hm]at hc;cases hc)).symm)
   refine fin s.hp _ rfl oy' _ (by
    have:=k4 (St.put { s with hp:=s.hp } y.dst vy) (sx _ _);rw[bD]at this;rw[<- k2]at this;exact this) ?_
   rw[e1,k3]
  ·omega
 rotate_left 4
 ·-- a part of a row,and something that is read
  simp only[Wu,Bool.or_eq_true,Bool.and_eq_true]at hfz;rcases hfz with ⟨hx1,hy1⟩|⟨hx1,hy1⟩
  ·obtain ⟨e1,e2⟩:=oy.read hy1
   rw[bD]at e1 e2;have hl:=ox.part hx1;refine fin s.hp _ rfl (e2 s sy hl.symm) hx (ox.congr (sx _ _) (bD _ _ _ _)) e1.symm
  ·obtain ⟨e1,e2⟩:=ox.read hx1
   have oy':Out P mu ops.toList y s vy hy:=oy.congr sy (by rw[bD,e1]);have hl:=oy'.part hy1;refine fin hy _ rfl oy' hy ?_ rfl;have:=e2 (St.put { s with hp:=hy } y.dst vy) (sx _ _) (by rw[bD];exact hl)
   rwa [bD]at this
 rotate_left 3
 ·-- an object that may be made ahead of a call
  simp only[Ws,Bool.and_eq_true,beq_iff_eq]at hex;obtain ⟨⟨⟨⟨hcb,hk3⟩,h49⟩,hky⟩,hm⟩:=hex;rcases oy.kind with z|⟨ky,z⟩|⟨ky,z⟩|ky
  ·obtain ⟨e1,e2⟩:=z
   rw[bD]at e1;refine fin s.hp _ rfl (e2 s sy) hx (ox.congr (sx _ _) (bD _ _ _ _)) e1.symm
  ·omega
  ·obtain ⟨c,ob,mk,k1,k2,k3,k4⟩:=z
   rw[bD]at k2 k3;rw[k1]at hm;simp only at hm;have key:hnext hx c=hnext s.hp c/\∀s2:St,gQ ops x s.sl s2.sl->s2.hp=hnew s.hp c ob->Out P mu ops.toList x s2 vx (hnew hx c ob):=by
    rcases ox with ⟨h1,h2⟩|⟨h1,rfl,rfl⟩
    ·unfold ow at h2
     obtain ⟨g0,aei,hc0,hg0⟩:=Ir hcb s.sl;cases hc:bN s.sl x with
     |none =>
      exfalso;rw[hc]at hc0;cases hc0
     |some q =>
      rw[hc]at h2;cases q with
      |none=>exact h2.elim
      |some q =>
       obtain ⟨g,args⟩:=q;have mk1:∀s2:St,gQ ops x s.sl s2.sl->EY P mu x s2 g args vx (hnew hx c ob)->Out P mu ops.toList x s2 vx (hnew hx c ob):=fun s2 hs ho=>by
        refine .inl ⟨(bT hs)▸h1,?_⟩;unfold ow;rw[<- iF hs,hc];exact ho
       rcases h2 with ⟨ts,r,t1,t2,rfl,rfl⟩|⟨t0,t1⟩|⟨t0,ts,r,t1,t2,t3,rfl,rfl⟩
       ·exact ⟨rfl,fun s2 hs he=>mk1 s2 hs (.inl ⟨ts,r,t1,t2,rfl,he.symm⟩)⟩
       ·obtain ⟨u1,u2⟩:=t1
        have hgg:g=g0:=by rw[hc]at hc0;injection hc0 with hc0;injection hc0 with hc0;injection hc0
        obtain ⟨u3,u5,u4⟩:=u2 h49 (hgg▸hg0);have hl:=u3 c hm;refine ⟨by simp only[hnext,hl],fun s2 hs he=>mk1 s2 hs (.inr (.inl ⟨t0,?_⟩))⟩;rw[he];refine ⟨u4 [(c,ob)] (fun p hp=>by simp at hp;subst hp;exact hm),fun _ _=>⟨fun c' hc'=>?_,fun c' hc'=>by
         have e:=u5 c' hc';unfold hnew upd;split
         ·rename_i e2;subst e2;rw[e]
         ·exact e,fun l hl'=>?_⟩⟩
        ·simp only[hnew,upd]
         split
         ·simp[hl]
         ·exact u3 c' hc'
        ·exact u4 ((c,ob)::l) (fun p hp=>by
          rcases List.mem_cons.1 hp with rfl|hp
          ·exact hm
          ·exact hl' p hp)
       ·refine ⟨rfl,fun s2 hs he=>mk1 s2 hs (.inr (.inr ⟨t0,ts,r,?_,t2,t3,rfl,he.symm⟩))⟩
        rw[he];exact GK (fun id o ho=>by
         rw[dz,if_neg (fun e=>by rw[e,kL]at ho;cases ho)];exact ho) t1
    ·exact ⟨rfl,fun s2 hs he=>.inr ⟨(bT hs)▸h1,rfl,he.symm⟩⟩
   obtain ⟨hn,hxo⟩:=key;have oy':Out P mu ops.toList y s vy (hnew s.hp c ob):=by
    have:=k4 s sy;rw[k2,hn];exact this
   refine fin (hnew s.hp c ob) _ rfl oy' _ (hxo (St.put { s with hp:=hnew s.hp c ob } y.dst vy) (sx _ _) (bD _ _ _ _)) ?_;rw[k3]
  ·omega
 rotate_left 2
 ·-- a row that is kept apart
  simp only[Wq,Bool.and_eq_true,beq_iff_eq,Bool.or_eq_true,Bool.not_eq_true']at acP;rcases acP with ⟨⟨hk4,h39⟩,hy2⟩|⟨⟨⟨⟨hk2,h39⟩,hrs⟩,hk1⟩,hlr⟩
  rotate_left 1
  ·-- an object is made at a site of rows kept apart;then something else is read
   obtain ⟨e1,e2⟩:=oy.rd hk1 hlr h39;rw[bD]at e1;rcases ox.kind with z|⟨ky,z⟩|⟨ky,z⟩|ky
   ·obtain ⟨f1,f2⟩:=z
    have oy':Out P mu ops.toList y s vy hy:=oy.congr sy (by rw[bD,f1]);refine fin hy _ rfl oy' hy ?_ rfl;have:=f2 (St.put { s with hp:=hy } y.dst vy) (sx _ _)
    rwa [bD]at this
   ·omega
   ·obtain ⟨c,ob,mk,k1,k2,k3,k4⟩:=z
    have hmk:mu (3000000+c)=true:=by rw[k1]at hrs;simpa only[Da] using hrs
    have oy':=e2 s sy (fun c' hc=>by
     rw[bD,k3];unfold hnew;exact (upd_ne _ _ _ _ (fun e=>by rw[e,hmk]at hc;cases hc)).symm)
    refine fin s.hp _ rfl oy' _ (by
     have:=k4 (St.put { s with hp:=s.hp } y.dst vy) (sx _ _);rw[bD]at this;rw[<- k2]at this;exact this) ?_
    rw[e1,k3]
   ·omega
  rcases ox.ap hk4 h39 with ⟨f1,f2⟩|⟨d,L,g2,g3,g4⟩
  ·have oy':Out P mu ops.toList y s vy hy:=oy.congr sy (by rw[bD,f1])
   refine fin hy _ rfl oy' hy ?_ rfl;have:=f2 (St.put { s with hp:=hy } y.dst vy) (sx _ _)
   rwa [bD]at this
  ·rcases hy2 with ⟨hk1,hlr⟩|⟨hk2,hrs⟩
   ·obtain ⟨e1,e2⟩:=oy.rd hk1 hlr h39
    rw[bD]at e1;have oy':=e2 s sy (fun c hc=>by
     rw[bD,g3,upd_ne];intro e;rw[e,g2]at hc;cases hc)
    refine fin s.hp _ rfl oy' _ (g4 (St.put { s with hp:=s.hp } y.dst vy) (sx _ _) (by rw[bD]) (by rw[bD];exact fun _ _ h=>h)) ?_;rw[bD,e1,g3]
   ·rcases oy.kind with z|⟨ky,z⟩|⟨ky,z⟩|ky
    ·obtain ⟨e1,e2⟩:=z
     rw[bD]at e1;refine fin s.hp _ rfl (e2 s sy) hx (ox.congr (sx _ _) (bD _ _ _ _)) e1.symm
    ·omega
    ·obtain ⟨c,ob,mk,k1,k2,k3,k4⟩:=z
     rw[bD]at k2 k3;have hcd:c≠d:=by
      intro e;subst e
      rw[k1]at hrs;simp only[Da]at hrs;rw[g2]at hrs;cases hrs
     have hxc:hx c=s.hp c:=by rw[g3];exact upd_ne _ _ _ _ hcd
     have hn:hnext hx c=hnext s.hp c:=by simp only[hnext,hxc]
     have oy':Out P mu ops.toList y s vy (hnew s.hp c ob):=by
      have:=k4 s sy;rw[k2,hn];exact this
     refine fin (hnew s.hp c ob) _ rfl oy' _ (g4 (St.put { s with hp:=hnew s.hp c ob } y.dst vy) (sx _ _) (by rw[bD];exact upd_ne _ _ _ _ (Ne.symm hcd)) (by
      rw[bD];intro id o ho;rw[dz,if_neg (fun e=>by rw[e,kL]at ho;cases ho)];exact ho)) ?_
     rw[bD,k3];simp only[hnew];rw[hxc,g3,Cq _ _ _ hcd]
    ·omega
 rotate_left
 ·-- two sites
  unfold Y0 at hst;split at hst<;>try (simp at hst;done)
  rename_i dx dy hdx hdy;have hne:dx≠dy:=by simpa using hst
  obtain ⟨Lx,gx,fx⟩:=ox.home hdx;obtain ⟨Ly,gy,fy⟩:=oy.home hdy;rw[bD]at gy fy;have hxy:hx dy=s.hp dy:=by rw[gx];exact upd_ne _ _ _ _ (Ne.symm hne)
  have oy':=fy s sy hxy.symm;refine fin (upd s.hp dy Ly) _ rfl oy' _ (fx (St.put { s with hp:=upd s.hp dy Ly } y.dst vy) (sx _ _) (by rw[bD];exact upd_ne _ _ _ _ hne)) ?_;rw[bD,gy,gx,Cq _ _ _ hne]
 rcases oy.kind with z|⟨ky,z⟩|⟨ky,z⟩|ky
 ·-- y does nothing with the heap
  obtain ⟨e1,e2⟩:=z;rw[bD]at e1;refine fin s.hp _ rfl (e2 s sy) hx (ox.congr (sx _ _) (bD _ _ _ _)) e1.symm
 ·rcases ox.kind with zx|⟨kx,zx⟩|⟨kx,zx⟩|kx
  ·obtain ⟨f1,f2⟩:=zx
   have oy':Out P mu ops.toList y s vy hy:=oy.congr sy (by rw[bD,f1]);refine fin hy _ rfl oy' hy ?_ rfl;have:=f2 (St.put { s with hp:=hy } y.dst vy) (sx _ _)
   rwa [bD]at this
  ·obtain ⟨f1,f2⟩:=zx
   have oy':Out P mu ops.toList y s vy hy:=oy.congr sy (by rw[bD,f1]);have hy':hy=s.hp:=by rw[z.1,bD,f1]
   refine fin hy _ rfl oy' hy ?_ rfl;have:=f2 (St.put { s with hp:=hy } y.dst vy) (sx _ _) (by rw[bD,hy'];exact fun _ _ h=>h)
   rwa [bD]at this
  ·simp[hfree,ky,kx]at hfr
  ·simp[hfree,ky]at hfr
   exact absurd hfr (by omega)
 ·rcases ox.kind with zx|⟨kx,zx⟩|⟨kx,zx⟩|kx
  ·obtain ⟨f1,f2⟩:=zx
   have oy':Out P mu ops.toList y s vy hy:=oy.congr sy (by rw[bD,f1]);refine fin hy _ rfl oy' hy ?_ rfl;have:=f2 (St.put { s with hp:=hy } y.dst vy) (sx _ _)
   rwa [bD]at this
  ·obtain ⟨f1,f2⟩:=zx
   have oy':Out P mu ops.toList y s vy hy:=oy.congr sy (by rw[bD,f1]);obtain ⟨d,ob,mk,g1,g2,g3,g4⟩:=z;rw[bD,f1]at g3;refine fin hy _ rfl oy' hy ?_ rfl;have:=f2 (St.put { s with hp:=hy } y.dst vy) (sx _ _) (by
    rw[bD,g3];intro id o ho;rw[dz,if_neg (fun e=>by rw[e,kL]at ho;cases ho)];exact ho)
   rwa [bD]at this
  ·obtain ⟨d,ob,mk,g1,g2,g3,g4⟩:=z
   obtain ⟨d',ob',mk',f1,f2,f3,f4⟩:=zx;have hdd:d'≠d:=fun e=>a2 d' f1 (by rw[g1,e])
   rw[bD,f3]at g2 g3;have hn:hnext (hnew s.hp d' ob') d=hnext s.hp d:=by simp[hnext,hnew,upd_ne _ _ _ _ (Ne.symm hdd)]
   have oy':Out P mu ops.toList y s vy (hnew s.hp d ob):=by
    have:=g4 s sy;rw[g2,hn];exact this
   have hn2:hnext (hnew s.hp d ob) d'=hnext s.hp d':=by simp[hnext,hnew,upd_ne _ _ _ _ hdd]
   have ox':=f4 (St.put { s with hp:=hnew s.hp d ob } y.dst vy) (sx _ _);rw[bD,hn2,<- f2]at ox';refine fin (hnew s.hp d ob) _ rfl oy' _ ox' ?_;rw[g3];simp only[hnew];rw[upd_ne _ _ _ _ hdd,upd_ne _ _ _ _ (Ne.symm hdd),Cq _ _ _ hdd]
  ·simp[hfree,ky]at hfr
   exact absurd hfr (by omega)
 ·rcases ox.kind with zx|⟨kx,zx⟩|⟨kx,zx⟩|kx
  ·obtain ⟨f1,f2⟩:=zx
   have oy':Out P mu ops.toList y s vy hy:=oy.congr sy (by rw[bD,f1]);refine fin hy _ rfl oy' hy ?_ rfl;have:=f2 (St.put { s with hp:=hy } y.dst vy) (sx _ _)
   rwa [bD]at this
  ·simp[hfree,kx]at hfr
   exact absurd hfr (by omega)
  ·simp[hfree,kx]at hfr
   exact absurd hfr (by omega)
  ·simp[hfree]at hfr
   exact absurd hfr (by omega)
end
end Go.Vm
end
section
namespace Go.Vm
open Go
section
variable {P:Program}{mu:Nat->Bool}
def opAt (ops:Array Oper) (i:Nat):Oper:=ops.toList.getD i default
def wE (P:Program) (mu:Nat->Bool) (ops:Array Oper):List Nat->St->St->Prop
 |[],s,s'=>s'=s
 |i::r,s,s'=>∃s1,Step P mu ops.toList (opAt ops i) s s1/\wE P mu ops r s1 s'
theorem Steps.toI {ops:Array Oper}:∀(l:List Oper) (k:Nat) (s s':St),(∀j,l[j]?=ops.toList[k+j]?)->Steps P mu ops.toList l s s'->wE P mu ops (List.range' k l.length) s s'
 |[],k,s,s',_,h=>h
 |o::l,k,s,s',hl,h=>by
  obtain ⟨s1,h1,h2⟩:=h;have h0:ops.toList[k]?=some o:=by simpa using (hl 0).symm
  refine ⟨s1,by simp only[opAt,List.getD,h0,Option.getD_some];exact h1,?_⟩;exact Steps.toI l (k+1) s1 s' (fun j=>by have:=hl (j+1);simpa[Nat.add_assoc,Nat.add_comm 1 j] using this) h2
theorem wE.pull {ops:Array Oper}{j:Nat}:∀(pre post:List Nat) (s s':St),(∀i∈pre,Co mu ops (opAt ops i) (opAt ops j)=true)->wE P mu ops (pre++j::post) s s' ->
  ∃t,Step P mu ops.toList (opAt ops j) s t/\wE P mu ops (pre++post) t s'
 |[],post,s,s',_,h=>h
 |i::pre,post,s,s',hi,h=>by
  obtain ⟨s1,h1,h2⟩:=h;obtain ⟨t,h3,h4⟩:=wE.pull pre post s1 s' (fun k hk=>hi k (by simp[hk])) h2;obtain ⟨u,h5,h6⟩:=Step.swap (hi i (by simp)) h1 h3;exact ⟨u,h5,t,h6,h4⟩
theorem Db {ops:Array Oper}{listed:Array Bool} (hcl:∀(j:Nat) (o:Oper),ops.toList[j]?=some o->listed.getD j false=true->∀e∈o.after,Region.binds .any e=true->listed.getD e.on false=true) :
  ∀(l:List Oper) (acc:List Nat),(∀j,l[j]?=ops.toList[acc.length+j]?) ->
   (∀(k:Nat),k < acc.length->∀i,(acc.getD k 0).testBit i=true->listed.getD k false=true->listed.getD i false=true) ->
   ∀(k:Nat),∀i,((l.foldl (fun acc (o:Oper)=>acc++[o.after.toList.foldl (fun s e=>if Region.binds .any e then s ||| 2 ^ e.on ||| acc.getD e.on 0 else s) 0]) acc).getD k 0).testBit i=true ->
    k < acc.length+l.length->listed.getD k false=true->listed.getD i false=true
 |[],acc,_,ha,k,i,hb,hk,hlk=>ha k (by simpa using hk) i hb hlk
 |o::l,acc,hl,ha,k,i,hb,hk,hlk=>by
  simp only[List.foldl_cons]at hb;refine Db hcl l (acc++[o.after.toList.foldl (fun s e=>if Region.binds .any e then s ||| 2 ^ e.on ||| acc.getD e.on 0 else s) 0]) (fun j=>by
   have:=hl (j+1);simp only[List.length_append,List.length_cons,List.length_nil,Nat.zero_add];simpa[Nat.add_assoc,Nat.add_comm 1 j] using this) ?_ k i hb (by simp at hk ⊢;omega) hlk
  intro k hk i hb hlk;simp only[List.length_append,List.length_cons,List.length_nil,Nat.zero_add]at hk
  by_cases hka:k < acc.length
  ·have:(acc++[o.after.toList.foldl (fun s e=>if Region.binds .any e then s ||| 2 ^ e.on ||| acc.getD e.on 0 else s) 0]).getD k 0=acc.getD k 0:=by
    simp[List.getD,List.getElem?_append_left hka]
   rw[this]at hb;exact ha k hka i hb hlk
  ·have hke:k=acc.length:=by omega
   subst hke;have h0:ops.toList[acc.length]?=some o:=by simpa using (hl 0).symm
   have hcl':=hcl _ o h0 hlk;have hg:(acc++[o.after.toList.foldl (fun s e=>if Region.binds .any e then s ||| 2 ^ e.on ||| acc.getD e.on 0 else s) 0]).getD acc.length 0=o.after.toList.foldl (fun s e=>if Region.binds .any e then s ||| 2 ^ e.on ||| acc.getD e.on 0 else s) 0:=by
    simp[List.getD]
   rw[hg]at hb;have fold:∀(es:List Edge) (s:Nat),(∀e∈es,Region.binds .any e=true->listed.getD e.on false=true)->(∀i,s.testBit i=true->listed.getD i false=true) ->
     ∀i,(es.foldl (fun s e=>if Region.binds .any e then s ||| 2 ^ e.on ||| acc.getD e.on 0 else s) s).testBit i=true->listed.getD i false=true:=by
    intro es
    induction es with
    |nil=>intro s _ hs i hb;exact hs i hb
    |cons e es ih =>
     intro s he hs i hb;simp only[List.foldl_cons]at hb;refine ih _ (fun e' he'=>he e' (by simp[he'])) ?_ i hb;intro i hb;split at hb
     ·rename_i hbd
      have hle:=he e (by simp) hbd;rw[Nat.testBit_or,Nat.testBit_or,Bool.or_eq_true,Bool.or_eq_true]at hb;rcases hb with (hb|hb)|hb
      ·exact hs i hb
      ·rw[Nat.testBit_two_pow]at hb
       have:e.on=i:=by simpa using hb
       rw[<- this];exact hle
      ·by_cases hea:e.on < acc.length
       ·exact ha e.on hea i hb hle
       ·rw[show acc.getD e.on 0=0 by simp[List.getD,List.getElem?_eq_none (Nat.le_of_not_lt hea)]]at hb
        simp at hb
     ·exact hs i hb
   exact fold o.after.toList 0 (fun e he hbd=>hcl' e (by simpa using he) hbd) (fun i hb=>by simp at hb) i hb
theorem Fb {ops:Array Oper} (h:J6 mu ops=true) (j:Nat) (oj:Oper) (hj:ops.toList[j]?=some oj) :
  (∀e∈oj.after,Region.binds .any e=true->e.on < j)/\∀(i:Nat) (oi:Oper),i < j->ops.toList[i]?=some oi->((UA ops.toList).getD j 0).testBit i=true\/Co mu ops oi oj=true:=by
 simp only[J6,Bool.and_eq_true,List.all_eq_true]at h;obtain ⟨hlen,hall⟩:=h;have hz:(oj,j)∈ops.toList.zipIdx:=by
  rw[List.mem_iff_getElem?];exact ⟨j,by simp[List.getElem?_zipIdx,hj]⟩
 have h1:=hall _ hz;simp only[Bool.and_eq_true,List.all_eq_true,Bool.or_eq_true,Bool.not_eq_true',decide_eq_true_eq]at h1;refine ⟨fun e he hb=>?_,fun i oi hij hi=>?_⟩
 ·rcases h1.1 e (by simpa using he) with h|h
  ·rw[hb]at h;cases h
  ·exact h
 ·refine h1.2 (oi,i) ?_
  rw[List.mem_iff_getElem?];refine ⟨i,?_⟩;rw[List.getElem?_zipIdx,List.getElem?_take,if_pos hij,hi];simp
section
variable {A:Nat->Prop}{h0:Hp}{μ0:Id->Nat}{w0:World}{N:Nat}{Q:Exit->Act->World->Prop}
theorem UH {ops:Array Oper} (hd:∀o∈ops.toList,u6 N o=true) (hok:J6 mu ops=true) {sf:St} (hQ:∀ μ a w,Rel A h0 μ0 w0 N sf μ a w->Q .normal a w) :
  ∀(fuel:Nat) (R:List Nat) (listed:Array Bool) (s:St) (μ:Id->Nat) (a:Act) (w:World),R.length<=fuel->listed.size=ops.size ->
   (∀j,j∈R↔(j < ops.size/\listed.getD j true=false))->R.Pairwise (· < ·) ->
   (∀(j:Nat) (o:Oper),ops.toList[j]?=some o->listed.getD j false=true->∀e∈o.after,Region.binds .any e=true->listed.getD e.on false=true) ->
   Rel A h0 μ0 w0 N s μ a w->wE P mu ops R s sf->wpAny P .any ops Q fuel listed a w:=by
 have dflt:∀(listed:Array Bool) (j:Nat),j < listed.size->listed.getD j true=listed.getD j false:=fun listed j hj=>by simp[Array.getD,hj]
 have Y3:∀(R:List Nat) (listed:Array Bool),listed.size=ops.size->(∀j,j∈R↔(j < ops.size/\listed.getD j true=false))->R.Pairwise (· < ·)->Region.ready .any ops listed=[]->R=[]:=by
  intro R listed hsz hR hp hr;cases R with
  |nil=>rfl
  |cons j r =>
   exfalso;obtain ⟨hj1,hj2⟩:=(hR j).1 (by simp);have hjo:ops.toList[j]?=some ops[j]:=by simp[hj1]
   have hmem:j∈Region.ready .any ops listed:=by
    rw[mem_ready];refine ⟨hj2,ops[j],Array.getElem?_eq_getElem hj1,fun e he hb=>?_⟩;have hlt:=(Fb hok j _ hjo).1 e he hb;cases hl:listed.getD e.on false with
    |true=>rfl
    |false =>
     exfalso;have:e.on∈j::r:=(hR e.on).2 ⟨by omega,by rw[dflt _ _ (by omega)];exact hl⟩;rcases List.mem_cons.1 this with h|h
     ·omega
     ·have:=(List.pairwise_cons.1 hp).1 e.on h;omega
   rw[hr]at hmem;cases hmem
 intro fuel
 induction fuel with
 |zero =>
  intro R listed s μ a w hl hsz hR hp hcl hr hs;have:R=[]:=List.eq_nil_of_length_eq_zero (by omega);subst this;have hs':sf=s:=hs;subst hs';refine ⟨?_,hQ μ a w hr⟩;cases hrd:Region.ready .any ops listed with
  |nil=>rfl
  |cons j r =>
   have:j∈Region.ready .any ops listed:=by rw[hrd];simp
   rw[mem_ready]at this;obtain ⟨h1,o,h2,_⟩:=this;have:=(hR j).2 ⟨(Array.getElem?_eq_some_iff.1 h2).1,h1⟩;simp at this
 |succ fuel ih =>
  intro R listed s μ a w hl hsz hR hp hcl hr hs;refine ⟨fun hrd=>?_,fun j hj=>?_⟩
  ·have:=Y3 R listed hsz hR hp hrd
   subst this;have hs':sf=s:=hs;subst hs';exact hQ μ a w hr
  ·obtain ⟨hun,oj,hoj,hall⟩:=mem_ready.1 hj
   have hjlt:=(Array.getElem?_eq_some_iff.1 hoj).1;have hjR:j∈R:=(hR j).2 ⟨hjlt,hun⟩;have Y4:ops.toList[j]?=some oj:=by rw[Array.getElem?_toList];exact hoj
   have hat:opAt ops j=oj:=by simp only[opAt,List.getD,Y4,Option.getD_some]
   obtain ⟨pre,post,rfl⟩:=List.append_of_mem hjR;have hcl':∀(k:Nat) (o:Oper),ops.toList[k]?=some o->(listed.setIfInBounds j true).getD k false=true->∀e∈o.after,Region.binds .any e=true->(listed.setIfInBounds j true).getD e.on false=true:=by
    intro k o hk hlk e he hb
    by_cases hkj:k=j
    ·subst hkj
     rw[Y4]at hk;cases hk
     exact getD_set_true (hall e he hb)
    ·rw[getD_set_ne false (Ne.symm hkj)]at hlk
     exact getD_set_true (hcl k o hk hlk e he hb)
   have agK:∀i∈pre,Co mu ops (opAt ops i) (opAt ops j)=true:=by
    intro i hi;have hiR:i∈pre++j::post:=by simp[hi]
    obtain ⟨h1,h2⟩:=(hR i).1 hiR;have hij:i < j:=(List.pairwise_append.1 hp).2.2 i hi j (by simp);have hio:ops.toList[i]?=some ops[i]:=by simp[h1]
    rcases (Fb hok j oj Y4).2 i ops[i] hij hio with hb|hb
    ·exfalso
     have hnone:(UA ops.toList).getD j 0=((ops.toList.foldl (fun acc (o:Oper)=>acc++[o.after.toList.foldl (fun s e=>if Region.binds .any e then s ||| 2 ^ e.on ||| acc.getD e.on 0 else s) 0]) [])).getD j 0:=rfl;rw[hnone]at hb;have:=Db hcl' ops.toList [] (fun k=>by simp) (fun k hk=>by simp at hk) j i hb (by simpa using hjlt) (by
      have:j < listed.size:=by omega
      simp[Array.getD,this])
     rw[getD_set_ne false (by omega)]at this;rw[dflt _ _ (by omega)]at h2;rw[h2]at this;cases this
    ·have:opAt ops i=ops[i]:=by simp only[opAt,List.getD,hio,Option.getD_some]
     rw[this,hat];exact hb
   obtain ⟨t,h1,h2⟩:=wE.pull pre post s sf agK hs;rw[hat]at h1;refine wpOp_mono (fun a' w' ⟨s',μ',he,hr'⟩=>?_) (NQ (K:=fun x=>x=t) hoj hr hd (NR.2 ⟨t,h1,rfl⟩));subst he;refine ih (pre++post) (listed.setIfInBounds j true) s' μ' a' w' (by simp at hl ⊢;omega) (by simpa using hsz) (fun k=>?_) ?_ hcl' hr' h2
   ·have hk:=hR k
    simp only[List.mem_append,List.mem_cons]at hk ⊢
    by_cases hkj:k=j
    ·subst hkj
     have hno:¬(k∈pre\/k∈post):=by
      obtain ⟨p1,p2,p3⟩:=List.pairwise_append.1 hp
      rintro (h|h)
      ·have:=p3 k h k (by simp);omega
      ·have:=(List.pairwise_cons.1 p2).1 k h;omega
     have:(listed.setIfInBounds k true).getD k true=true:=by
      have:k < listed.size:=by omega
      simp[Array.getD,this]
     simp[hno,this]
    ·rw[getD_set_ne true (Ne.symm hkj),<- hk]
     simp[hkj]
   ·obtain ⟨p1,p2,p3⟩:=List.pairwise_append.1 hp
    exact List.pairwise_append.2 ⟨p1,(List.pairwise_cons.1 p2).2,fun x hx y hy=>p3 x hx y (by simp[hy])⟩
theorem RL (hm:P.follows .mixedOrders=true):∀(c:Code) (s:St) (K:Ex->St->Prop) (μ:Id->Nat) (a:Act) (w:World),kN mu N c=true->Rel A h0 μ0 w0 N s μ a w->wp P mu c s K ->
  c.wp P (fun e a' w'=>∃e' s' μ',e=Ex.of e'/\K e' s'/\Rel A h0 μ0 w0 N s' μ' a' w') a w:=by
 intro c
 induction c with
 |skip=>intro s K μ a w _ hr hK;exact wp_skip ⟨.normal,s,μ,rfl,hK,hr⟩
 |ret=>intro s K μ a w _ hr hK;exact wp_ret ⟨.ret,s,μ,rfl,hK,hr⟩
 |exit n=>intro s K μ a w _ hr hK;exact wp_exit ⟨.exit n,s,μ,rfl,hK,hr⟩
 |region id ops dr =>
  intro s K μ a w hok hr hK;simp only[kN,Bool.and_eq_true,List.all_eq_true]at hok;simp only[Vm.wp]at hK;cases dr with
  |false =>
   refine wp_region ?_;have hl:(List.range ops.size).length=ops.toList.length:=by simp
   refine Uy hok.1 (List.range ops.size) ops.toList s μ a w hl (fun k i o h1 h2=>?_) hr hK (fun s' μ' a' w' h1 h2=>⟨.normal,s',μ',rfl,h1,h2⟩);have hk:k < ops.size:=by
    have:=(List.getElem?_eq_some_iff.1 h2).1;simpa using this
   rw[List.getElem?_range hk]at h1;cases h1
   rw[<- Array.getElem?_toList];exact h2
  |true =>
   simp only[Bool.not_true,Bool.false_or,Bool.and_eq_true]at hok;obtain ⟨sf,h1,h2⟩:=(Aw ops.toList s).1 hK;refine wp_region_any hm ?_;have hr':Rel A h0 μ0 w0 N s μ a { w with drawn:=w.drawn+1 }:=by
    have hb:RowKit.Below w.heap.size w { w with drawn:=w.drawn+1 }:=⟨rfl,rfl,rfl,Nat.le_refl _,fun _ _=>rfl⟩
    obtain ⟨g1,g2⟩:=Ext.grow hr.hp hb;exact ⟨hr.sz,hr.df,fun t=>(hr.sl t).ext g2,g1,hr.ext.trans g2⟩
   have hI:=Steps.toI ops.toList 0 s sf (fun j=>by simp) h1;rw[<- List.range_eq_range',Array.length_toList]at hI;refine UH hok.1 hok.2.1 (fun μ a w h=>⟨.normal,sf,μ,rfl,h2,h⟩) ops.size (List.range ops.size) (Array.replicate ops.size false) s μ a _ (by simp) (by simp) (fun j=>?_) List.pairwise_lt_range (fun j o hj hl=>?_) hr' hI
   ·simp only[List.mem_range]
    constructor
    ·intro h;exact ⟨h,by simp[Array.getD,h]⟩
    ·exact fun h=>h.1
   ·have:j < ops.size:=by
     have:=(List.getElem?_eq_some_iff.1 hj).1;simpa using this
    simp[Array.getD,this]at hl
 |seq x y ihx ihy =>
  intro s K μ a w hok hr hK;simp only[kN,Bool.and_eq_true]at hok;simp only[Vm.wp]at hK;refine wp_seq (wp_mono (ihx s _ μ a w hok.1 hr hK) ?_)
  rintro e a' w' ⟨e',s',μ',rfl,hk,hr'⟩
  cases e' with
  |normal=>exact ihy s' K μ' a' w' hok.2 hr' hk
  |exit n=>exact ⟨.exit n,s',μ',rfl,hk,hr'⟩
  |ret=>exact ⟨.ret,s',μ',rfl,hk,hr'⟩
 |cond c x y ihx ihy =>
  intro s K μ a w hok hr hK;simp only[kN,Bool.and_eq_true]at hok;simp only[Vm.wp]at hK;split at hK
  ·rename_i b hb
   have hc:=Aq hr.sl c;unfold uG at hb;split at hb<;>simp at hb
   subst hb;rename_i b hb;rw[hb]at hc;refine wp_cond_split (xU hc.tree) (fun h=>ihx s K μ a w hok.1 hr (hK.1 h)) (fun h=>ihy s K μ a w hok.2 hr (hK.2 h))
  ·exact hK.elim
 |block id x ih =>
  intro s K μ a w hok hr hK;simp only[kN]at hok;simp only[Vm.wp]at hK;refine wp_block (wp_mono (ih s _ μ a w hok hr hK) ?_)
  rintro e a' w' ⟨e',s',μ',rfl,hk,hr'⟩
  cases e' with
  |normal=>exact ⟨.normal,s',μ',rfl,hk,hr'⟩
  |exit n =>
   simp only[Ex.of,Exit.inBlock];simp only at hk;split
   ·rename_i h;rw[if_pos h]at hk;exact ⟨.normal,s',μ',rfl,hk,hr'⟩
   ·rename_i h;rw[if_neg h]at hk;exact ⟨.exit n,s',μ',rfl,hk,hr'⟩
  |ret=>exact ⟨.ret,s',μ',rfl,hk,hr'⟩
 |loop x ih =>
  intro s K μ a w hok hr hK;simp only[kN]at hok;simp only[Vm.wp]at hK;obtain ⟨I,n,hI0,abA⟩:=hK;refine wp_loop_ghost (fun n a w=>∃s μ,I n s/\Rel A h0 μ0 w0 N s μ a w) n ⟨s,μ,hI0,hr⟩ ?_
  rintro n a w ⟨s,μ,hI,hr⟩
  refine wp_mono (ih s _ μ a w hok hr (abA n s hI)) ?_
  rintro e a' w' ⟨e',s',μ',rfl,hk,hr'⟩
  cases e' with
  |normal =>
   obtain ⟨m,hlt,hm⟩:=hk;exact ⟨m,hlt,s',μ',hm,hr'⟩
  |exit n=>exact ⟨.exit n,s',μ',rfl,hk,hr'⟩
  |ret=>exact ⟨.ret,s',μ',rfl,hk,hr'⟩
 |_=>intro s K μ a w hok;simp[kN]at hok
end
end
end Go.Vm
end
section
namespace Go.Vm
open Go
section
variable {P:Program}{mu:Nat->Bool}{A:Nat->Prop}{h:Hp}{μ:Id->Nat}{w:World}
theorem NS {t:TypeId}{p v:PV}{u:Value} (hp:VR h μ w (LL A h μ) p u) (hl:gB P t p h=some v):∃a,u=.pointer (some a):=by
 unfold gB at hl;split at hl
 ·cases hp;exact ⟨_,rfl⟩
 ·cases hp;exact ⟨_,rfl⟩
 ·split at hl<;>try (simp at hl;done)
  rename_i ho;split at hl<;>try (simp at hl;done)
  rename_i hn;exact ⟨_,hp.EO (by simp[valid,ho,hn.1])⟩
 ·split at hl<;>try (simp at hl;done)
  rename_i ho;split at hl<;>try (simp at hl;done)
  rename_i hn;exact ⟨_,hp.EO (by simp[valid,ho,hn])⟩
 ·simp at hl
def jG (P:Program) (s:St) (r:ResultVar):Option Tr:=match kD P s r with|some p=>aS s.hp dep p|none=>none
def zf (tmps:Array Value):ResultVar->Sem Value
 |.tmp t=>pure (tmps.getD t undef)
 |.cell a t=>do loadVar t (<- asAddr (tmps.getD a undef))
theorem RN {h0:Hp}{μ0:Id->Nat}{w0:World}{N:Nat}{s:St}{μ:Id->Nat}{a:Act}{w:World} (hr:Rel A h0 μ0 w0 N s μ a w):∀(l:List ResultVar) (ts:List Tr),bA (jG P s) l=some ts ->
  ∃vs:List Value,(l.mapM (zf a.tmps)).run P w=.ok vs w/\vs.length=ts.length/\∀(i:Nat) x,ts[i]?=some x->Reads w A x (vs.getD i Go.undef)
 |[],ts,h=>by
  simp[bA]at h;subst h
  exact ⟨[],by simp,rfl,fun i x hx=>by simp at hx⟩
 |r::l,ts,h=>by
  simp only[bA]at h;split at h<;>simp at h
  subst h;rename_i x xs hx hxs;obtain ⟨vs,h1,h2,h3⟩:=RN hr l xs hxs;have one:∃v,(zf a.tmps r).run P w=.ok v w/\Reads w A x v:=by
   unfold jG at hx;split at hx<;>try (simp at hx;done)
   rename_i p hp;have fin:∀v,VR s.hp μ w (LL A s.hp μ) p v->Reads w A x v:=fun v hv =>
    wz hr.hp dep p v x hv hx (fun b hb=>.inl hb) (fun b hb id hid e=>by
     obtain ⟨o,ho⟩:=Option.isSome_iff_exists.1 (GA hr.hp dep p v hv id hid);exact hr.hp.dis id o ho (e▸hb))
   cases r with
   |tmp t =>
    have hp:some (s.sl t)=some p:=hp;simp only[Option.some.injEq]at hp;subst hp;exact ⟨a.tmps.getD t Go.undef,by simp[zf],fin _ (hr.sl t)⟩
   |cell c t =>
    simp only[kD]at hp;obtain ⟨b,hb⟩:=NS (hr.sl c) hp;obtain ⟨v',h4,h5⟩:=DU hr.hp (hr.sl c) hp;refine ⟨v',?_,fin _ h5⟩;rw[hb]at h4;simp only[Instr.loadAt,Instr.sureAddr,Sem.run_bind,Sem.run_pure,Result.andThen_ok]at h4;simp only[zf,hb,asAddr,Sem.run_bind,Sem.run_pure,Result.andThen_ok,h4]
  obtain ⟨v,h4,h5⟩:=one;refine ⟨v::vs,by simp[List.mapM_cons,h4,h1],by simp[h2],fun i y hy=>?_⟩;cases i with
  |zero=>simp at hy;subst hy;simpa using h5
  |succ i=>simpa using h3 i y (by simpa using hy)
theorem Iz (tmps:Array Value) (f:ResultVar->Sem Value) (h1:∀u,f (.tmp u)=pure (tmps.getD u undef)) (h2:∀c t,f (.cell c t)=(do loadVar t (<- asAddr (tmps.getD c undef)))) (l:List ResultVar) :
  l.mapM f=l.mapM (zf tmps):=by
 congr 1;funext x;cases x with
 |tmp u=>rw[h1];rfl
 |cell c t=>rw[h2];rfl
theorem Ng {h0:Hp}{μ0:Id->Nat}{w0:World}{N:Nat}{s:St}{μ:Id->Nat}{a:Act}{w:World} (hr:Rel A h0 μ0 w0 N s μ a w) {fn:Func}{r:Tr} (hres:Ao P s fn.results.toList=some r) :
  ∃v,(results fn a.tmps).run P w=.ok v w/\Reads w A r v:=by
 have key:∀ts,bA (jG P s) fn.results.toList=some ts->∃vs:List Value,(results fn a.tmps).run P w=.ok (if h:vs.length=1 then vs[0] else .tuple vs.toArray) w/\vs.length=ts.length/\∀(i:Nat) x,ts[i]?=some x->Reads w A x (vs.getD i Go.undef):=by
  intro ts hts;obtain ⟨vs,h1,h2,h3⟩:=RN hr fn.results.toList ts hts;refine ⟨vs,?_,h2,h3⟩;unfold results;rw[show fn.results=fn.results.toList.toArray by simp,List.mapM_toArray];simp only[Sem.run_bind,Sem.run_map];rw[Iz a.tmps _ (fun _=>rfl) (fun _ _=>rfl)];rw[h1];simp
 unfold Ao at hres;change (match bA (jG P s) fn.results.toList with|some [x]=>some x|some ts=>some (.tup ts)|none=>none)=some r at hres;split at hres
 ·rename_i x hx
  simp at hres;subst hres
  obtain ⟨vs,h1,h2,h3⟩:=key _ hx;have hl:vs.length=1:=h2;rw[dif_pos hl]at h1;refine ⟨_,h1,?_⟩;have:=h3 0 x rfl;simpa[List.getD,hl] using this
 ·rename_i ts hx hne
  simp at hres;subst hres
  obtain ⟨vs,h1,h2,h3⟩:=key _ hne;have hl:vs.length≠1:=by
   rw[h2];intro e;obtain ⟨x,rfl⟩:=List.length_eq_one_iff.1 e;exact hx x rfl
  rw[dif_neg hl]at h1;exact ⟨_,h1,.tup (by simpa using h2.symm) (fun i x hx=>by rw[dZ];exact h3 i x hx)⟩
 ·simp at hres
theorem rM (id:Id):hget (fun _=>([]:List Obj)) id=none:=by simp[hget]
theorem Reads.pv {h:Hp}{μ:Id->Nat}{w:World}{L:Nat->Prop}{x:Tr}{v:Value} (hr:Reads w L x v):VR h μ w L x.pv v:=by
 cases hr with
 |ptr hs hcell hr=>exact .ro hs hcell hr
 |int k n=>exact .t (.int k n)
 |bool b=>exact .t (.bool b)
 |str b=>exact .t (.str b)
 |agg hl hr=>exact .t (.agg hl hr)
 |tup hl hr=>exact .t (.tup hl hr)
 |nil=>exact .t .nil
 |sl h1 h2 h3 h4 h5 h6=>exact .t (.sl h1 h2 h3 h4 h5 h6)
 |fn hl hr=>exact .t (.fn hl hr)
 |uq=>exact .t .uq
 |Ri=>exact .t .Ri
 |Rj=>exact .t .Rj
theorem XB {args:List Tr}{vs:Array Value}{N:Nat} (hA:∀b,A b->b < w.heap.size) (hr:J3 w A args vs) (hn:args.length<=N) :
  Rel A (fun _=>[]) (fun _=>0) w N (qm args) (fun _=>0) { tmps:=vs++Array.replicate (N-vs.size) undef,defers:=[] } w where
 sz:=by simp;have:=hr.1;omega
 df:=rfl
 sl t:=by
  simp only[qm,J4];split
  ·rename_i x hx
   have hlt:t < vs.size:=by rw[<- hr.1];exact (List.getElem?_eq_some_iff.1 hx).1
   have:=hr.2 t x hx;have e:(vs++Array.replicate (N-vs.size) undef).getD t Go.undef=vs.getD t Go.undef:=by
    have hl2:t < vs.size+(N-vs.size):=by omega
    simp[Array.getD,hlt,hl2]
   rw[e];exact Reads.pv (this.mono (L':=LL A (fun _=>[]) fun _=>0) fun b hb=>by
    rcases hb with hb|⟨id,o,ho,_⟩
    ·exact hb
    ·rw[rM]at ho;cases ho)
  ·exact .undef
 hp:=⟨fun id o ho=>by simp[qm,rM]at ho,fun id o ho=>by simp[qm,rM]at ho,fun id id' o o' ho=>by simp[qm,rM]at ho,fun id o ho=>by simp[qm,rM]at ho,hA⟩
 ext:=Ext.refl _ _ _
theorem Ext.below {μ μ':Id->Nat}{h':Hp}{w w':World} (e:Ext (fun _=>[]) μ w h' μ' w'):RowKit.Below w.heap.size w w' :=
 ⟨e.os,e.tape,e.output,e.size,fun b hb=>e.old b hb fun ⟨id,o,ho,_⟩=>by rw[rM]at ho;cases ho⟩
theorem PD {g:FuncId}{fn:Func}{c:Code}{args:List Tr}{r:Tr} (hm:P.follows .mixedOrders=true) (hf:P.funcs[g]?=some fn) (hb:fn.body=some c) (hname:(fn.name=="runtime.NumGoroutine")=false)
  (mu:Nat->Bool) (hok:kN mu fn.ntmps c=true) (hn:args.length<=fn.ntmps) (hw:wp P mu c (qm args) (Wj P fn r)):aB P g args r:=by
 refine ⟨⟨fn,hf,hname,by simp[hb]⟩,fun w A vs hA hr=>calls_of_wp hf hb ?_⟩;refine wp_mono (RL hm c (qm args) (Wj P fn r) _ _ w hok (XB hA hr hn) hw) ?_
 rintro e a' w' ⟨e',s',μ',rfl,hk,hr'⟩
 have fin:∀(s':St),Ao P s' fn.results.toList=some r->Rel A (fun _=>[]) (fun _=>0) w fn.ntmps s' μ' a' w'->a'.defers=[]/\∃v,(results fn a'.tmps).run P w'=.ok v w'/\∃v',Ending.returned v=.returned v'/\Reads w' A r v'/\RowKit.Below w.heap.size w w':=by
  intro s' hk hr';obtain ⟨v,h1,h2⟩:=Ng hr' hk;exact ⟨hr'.df,v,h1,v,rfl,h2,hr'.ext.below⟩
 cases e' with
 |normal=>exact fin s' hk hr'
 |ret=>exact fin s' hk hr'
 |exit n=>exact hk.elim
def PV.un:PV->PV
 |.t x=>x.pv
 |v=>v
theorem VR.un {h:Hp}{μ:Id->Nat}{w:World}{L:Nat->Prop}{p:PV}{v:Value} (hv:VR h μ w L p v):VR h μ w L p.un v:=by
 cases p with
 |t x=>exact Reads.pv hv.tree
 |_=>exact hv
def Fe (args:List PV):Sl:=fun t=>match args[t]? with|some x=>x.un|none=>.undef
def u7 (args:List PV) (h:Hp):St:=⟨Fe args,h⟩
theorem UJ {args:List PV}{h:Hp}{μ:Id->Nat}{vs:Array Value}{N:Nat} (hr:HR A h μ w) (hl:args.length=vs.size) (hv:∀i p,args[i]?=some p->VR h μ w (LL A h μ) p (vs.getD i Go.undef)) (hn:args.length<=N) :
  Rel A h μ w N (u7 args h) μ { tmps:=vs++Array.replicate (N-vs.size) undef,defers:=[] } w where
 sz:=by simp;omega
 df:=rfl
 sl t:=by
  simp only[u7,Fe];split
  ·rename_i x hx
   have hlt:t < vs.size:=by rw[<- hl];exact (List.getElem?_eq_some_iff.1 hx).1
   have:=hv t x hx;have e:(vs++Array.replicate (N-vs.size) undef).getD t Go.undef=vs.getD t Go.undef:=by
    have hl2:t < vs.size+(N-vs.size):=by omega
    simp[Array.getD,hlt,hl2]
   rw[e];exact this.un
  ·exact .undef
 hp:=hr
 ext:=Ext.refl _ _ _
theorem NT {h0:Hp}{μ0:Id->Nat}{w0:World}{N:Nat}{s:St}{μ:Id->Nat}{a:Act}{w:World} (hr:Rel A h0 μ0 w0 N s μ a w):∀(l:List ResultVar) (ps:List PV),bA (kD P s) l=some ps ->
  ∃vs:List Value,(l.mapM (zf a.tmps)).run P w=.ok vs w/\vs.length=ps.length/\∀(i:Nat) x,ps[i]?=some x->VR s.hp μ w (LL A s.hp μ) x (vs.getD i Go.undef)
 |[],ps,h=>by
  simp[bA]at h;subst h
  exact ⟨[],by simp,rfl,fun i x hx=>by simp at hx⟩
 |r::l,ps,h=>by
  simp only[bA]at h;split at h<;>simp at h
  subst h;rename_i p xs hp hxs;obtain ⟨vs,h1,h2,h3⟩:=NT hr l xs hxs;have one:∃v,(zf a.tmps r).run P w=.ok v w/\VR s.hp μ w (LL A s.hp μ) p v:=by
   cases r with
   |tmp t =>
    have hp:some (s.sl t)=some p:=hp;simp only[Option.some.injEq]at hp;subst hp;exact ⟨a.tmps.getD t Go.undef,by simp[zf],hr.sl t⟩
   |cell c t =>
    simp only[kD]at hp;obtain ⟨b,hb⟩:=NS (hr.sl c) hp;obtain ⟨v',h4,h5⟩:=DU hr.hp (hr.sl c) hp;refine ⟨v',?_,h5⟩;rw[hb]at h4;simp only[Instr.loadAt,Instr.sureAddr,Sem.run_bind,Sem.run_pure,Result.andThen_ok]at h4;simp only[zf,hb,asAddr,Sem.run_bind,Sem.run_pure,Result.andThen_ok,h4]
  obtain ⟨v,h4,h5⟩:=one;refine ⟨v::vs,by simp[List.mapM_cons,h4,h1],by simp[h2],fun i y hy=>?_⟩;cases i with
  |zero=>simp at hy;subst hy;simpa using h5
  |succ i=>simpa using h3 i y (by simpa using hy)
def Dc (P:Program) (s:St) (l:List ResultVar):Option PV :=
 match bA (kD P s) l with
 |some [x]=>some x
 |some ps=>some (tV ps)
 |none=>none
theorem VR.tV {h:Hp}{μ:Id->Nat}{w:World}{L:Nat->Prop}{ps:List PV}{vs:List Value} (hl:ps.length=vs.length) (hv:∀(i:Nat) x,ps[i]?=some x->VR h μ w L x (vs.getD i Go.undef)):VR h μ w L (tV ps) (.tuple vs.toArray):=by
 unfold Vm.tV;split
 ·rename_i ts ht
  have:=kY ht;subst this
  refine .t (.tup (by simpa using hl) fun i x hx=>?_);rw[dZ];exact (hv i (.t x) (by rw[List.getElem?_map,hx];rfl)).tree
 ·exact .tup (by simpa using hl) fun i x hx=>by rw[dZ];exact hv i x hx
theorem KF {h0:Hp}{μ0:Id->Nat}{w0:World}{N:Nat}{s:St}{μ:Id->Nat}{a:Act}{w:World} (hr:Rel A h0 μ0 w0 N s μ a w) {fn:Func}{r:PV} (hres:Dc P s fn.results.toList=some r) :
  ∃v,(results fn a.tmps).run P w=.ok v w/\VR s.hp μ w (LL A s.hp μ) r v:=by
 have key:∀ps,bA (kD P s) fn.results.toList=some ps->∃vs:List Value,(results fn a.tmps).run P w=.ok (if h:vs.length=1 then vs[0] else .tuple vs.toArray) w/\vs.length=ps.length/\∀(i:Nat) x,ps[i]?=some x->VR s.hp μ w (LL A s.hp μ) x (vs.getD i Go.undef):=by
  intro ps hps;obtain ⟨vs,h1,h2,h3⟩:=NT hr fn.results.toList ps hps;refine ⟨vs,?_,h2,h3⟩;unfold results;rw[show fn.results=fn.results.toList.toArray by simp,List.mapM_toArray];simp only[Sem.run_bind,Sem.run_map];rw[Iz a.tmps _ (fun _=>rfl) (fun _ _=>rfl)];rw[h1];simp
 unfold Dc at hres;split at hres
 ·rename_i x hx
  simp at hres;subst hres
  obtain ⟨vs,h1,h2,h3⟩:=key _ hx;have hl:vs.length=1:=h2;rw[dif_pos hl]at h1;refine ⟨_,h1,?_⟩;have:=h3 0 x rfl;simpa[List.getD,hl] using this
 ·rename_i ps hx hne
  simp at hres;subst hres
  obtain ⟨vs,h1,h2,h3⟩:=key _ hne;have hl:vs.length≠1:=by
   rw[h2];intro e;obtain ⟨x,rfl⟩:=List.length_eq_one_iff.1 e;exact hx x rfl
  rw[dif_neg hl]at h1;exact ⟨_,h1,.tV h2.symm h3⟩
 ·simp at hres
def RO (P:Program) (fn:Func) (Q:PV->Hp->Prop):Ex->St->Prop:=fun e s=>match e with
 |.exit _=>False
 |_=>∃r,Dc P s fn.results.toList=some r/\Q r s.hp
theorem PE {g:FuncId}{fn:Func}{c:Code}{args:List PV}{h:Hp}{Q:PV->Hp->Prop} (hm:P.follows .mixedOrders=true) (hf:P.funcs[g]?=some fn) (hb:fn.body=some c) (hname:(fn.name=="runtime.NumGoroutine")=false)
  (mu:Nat->Bool) (hok:kN mu fn.ntmps c=true) (hn:args.length<=fn.ntmps) (hw:wp P mu c (u7 args h) (RO P fn Q)):dM P g args h Q:=by
 refine ⟨⟨fn,hf,hname,by simp[hb]⟩,fun w A μ vs hr hl hv=>calls_of_wp hf hb ?_⟩;refine wp_mono (RL hm c (u7 args h) (RO P fn Q) _ _ w hok (UJ hr hl hv hn) hw) ?_
 rintro e a' w' ⟨e',s',μ',rfl,hk,hr'⟩
 have fin:∀(s':St),(∃r,Dc P s' fn.results.toList=some r/\Q r s'.hp)->Rel A h μ w fn.ntmps s' μ' a' w'->a'.defers=[]/\∃v,(results fn a'.tmps).run P w'=.ok v w' /\
   ∃v' r h' μ',Ending.returned v=.returned v'/\Q r h'/\HR A h' μ' w'/\Ext h μ w h' μ' w'/\VR h' μ' w' (LL A h' μ') r v':=by
  rintro s' ⟨r,hk,hq⟩ hr'
  obtain ⟨v,h1,h2⟩:=KF hr' hk;exact ⟨hr'.df,v,h1,v,r,s'.hp,μ',rfl,hq,hr'.hp,hr'.ext,h2⟩
 cases e' with
 |normal=>exact fin s' hk hr'
 |ret=>exact fin s' hk hr'
 |exit n=>exact hk.elim
end
end Go.Vm
end
section
attribute [go_sem_proc] Nat.reduceBEq Nat.reduceAdd Nat.reduceMul Nat.reduceSub Nat.reduceLeDiff Nat.reduceLT Nat.reduceEqDiff Int.reduceEq Int.reduceBEq Int.reduceBNe Int.reduceLT Int.reduceLE
namespace Go.Vm
open Go
section
variable {P:Program}{mu:Nat->Bool}
theorem dM.mono {g:FuncId}{args:List PV}{h:Hp}{Q Q':PV->Hp->Prop} (hi:dM P g args h Q) (hq:∀v h',Q v h'->Q' v h'):dM P g args h Q' :=
 ⟨hi.1,fun w A μ vs h1 h2 h3=>(hi.2 w A μ vs h1 h2 h3).mono fun e w' ⟨v,r,h',μ',e1,e2,e3⟩=>⟨v,r,h',μ',e1,hq _ _ e2,e3⟩⟩
theorem XC {dr:Bool}{o:Oper}{s:St}{K K':St->Prop} (h:∀s',(∀t,o.dst≠some t->s'.sl t=s.sl t)->K s'->K' s') (hw:opW P mu dr o s K):opW P mu dr o s K':=by
 have put:∀(h2:Hp) (v:PV),∀t,o.dst≠some t->(St.put { s with hp:=h2 } o.dst v).sl t=s.sl t:=by
  intro h2 v t ht;cases hd:o.dst with
  |none=>rfl
  |some d=>exact upd_ne _ _ _ _ (by rw[hd]at ht;exact fun e=>ht (by rw[e]))
 unfold opW at hw ⊢;cases heq:bN s.sl o with
 |none =>
  rw[heq]at hw;replace hw:sJ P mu dr o s K:=hw;change sJ P mu dr o s K';unfold sJ at hw ⊢;cases hnp:kG s.sl o with
  |some p =>
   rw[hnp]at hw;simp only at hw ⊢;unfold Kr at hw ⊢;split
   ·simp only at hw
    refine ⟨hw.1,hw.2.1,fun s' hs'=>h _ ?_ (hw.2.2 s' hs')⟩;obtain ⟨ob,m,last,fs,om,kv,_,_,_,_,hh⟩:=hs';rcases hh with ⟨_,rfl⟩|⟨i,_,rfl⟩
    ·exact put _ _
    ·exact put _ _
   ·rename_i hne
    split at hw
    ·exact absurd rfl (hne _)
    ·exact hw
  |none =>
  rw[hnp]at hw;refine ⟨hw.1,?_⟩;have hw:=hw.2;cases he:evalOp P mu o s with
  |none=>rw[he]at hw;exact hw
  |some q=>rw[he]at hw;exact h _ (put _ _) hw
 |some q =>
  rw[heq]at hw;cases q with
  |none=>exact hw
  |some q =>
   replace hw:mR P mu dr o s q.1 q.2 K:=hw;change mR P mu dr o s q.1 q.2 K';unfold mR at hw ⊢
   by_cases hdr:dr=true
   ·rw[if_pos hdr]at hw ⊢
    rcases hw with ⟨ts,r,h1,h2,h3⟩|⟨h0,v,h',h1,h2⟩|⟨h0,ts,r,h1,h2,h4,h3⟩
    ·exact .inl ⟨ts,r,h1,h2,h _ (put s.hp _) h3⟩
    ·exact .inr (.inl ⟨h0,v,h',h1,h _ (put _ _) h2⟩)
    ·exact .inr (.inr ⟨h0,ts,r,h1,h2,h4,h _ (put s.hp _) h3⟩)
   ·rw[if_neg hdr]at hw ⊢
    rcases hw with ⟨ts,r,h1,h2,h3⟩|hw
    ·refine .inl ⟨ts,r,h1,h2,?_⟩
     by_cases hsc:r.scalar=true
     ·rw[if_pos hsc]at h3 ⊢;exact h _ (put s.hp _) h3
     ·rw[if_neg hsc]at h3 ⊢;exact h _ (put _ _) h3
    ·exact .inr (hw.mono fun v h' hq=>h _ (put _ _) hq)
theorem GN {dr:Bool}{all:List Oper}{o:Oper}{s:St}{K K':St->Prop} (h:∀s',(∀t,o.dst≠some t->s'.sl t=s.sl t)->K s'->K' s') (hw:opG P mu dr all o s K):opG P mu dr all o s K':=by
 unfold opG at hw ⊢;cases hr:jv all s.sl o with
 |none=>rw[hr]at hw;exact hw
 |some r =>
  rw[hr]at hw;refine ⟨fun e=>XC h (hw.1 e),fun e=>h _ ?_ (hw.2 e)⟩;intro t ht;cases hd:o.dst with
  |none=>rfl
  |some d=>exact upd_ne _ _ _ _ (by rw[hd]at ht;exact fun e=>ht (by rw[e]))
def KG:List Oper->List Nat
 |[]=>[]
 |o::r=>match o.dst with|some d=>d::KG r|none=>KG r
def writes:Code->List Nat
 |.region _ ops _=>KG ops.toList
 |.seq a b=>writes a++writes b
 |.cond _ a b=>writes a++writes b
 |.block _ b=>writes b
 |.loop b=>writes b
 |_=>[]
theorem IB {dr:Bool}{all:List Oper}:∀(l:List Oper) (s:St) (K:St->Prop),ql P mu dr all l s K->ql P mu dr all l s (fun s'=>K s'/\∀t,t∉KG l->s'.sl t=s.sl t)
 |[],s,K,h=>⟨h,fun _ _=>rfl⟩
 |o::r,s,K,h=>by
  simp only[ql]at h ⊢;refine GN (fun s' hs hk=>?_) h;have:=IB r s' K hk;have mono:∀(l:List Oper) (s:St) (K K':St->Prop),(∀s',K s'->K' s')->ql P mu dr all l s K->ql P mu dr all l s K':=by
   intro l
   induction l with
   |nil=>intro s K K' hk h;exact hk s h
   |cons o l ih=>intro s K K' hk h;exact GN (fun s' _ h=>ih s' K K' hk h) h
  refine mono r s' _ _ (fun s'' ⟨h1,h2⟩=>⟨h1,fun t ht=>?_⟩) this;simp only[KG]at ht;cases hd:o.dst with
  |none=>rw[hd]at ht;rw[h2 t ht,hs t (by rw[hd];simp)]
  |some d =>
   rw[hd]at ht;simp only[List.mem_cons,not_or]at ht;rw[h2 t ht.2,hs t (by rw[hd];simp;exact fun e=>ht.1 e.symm)]
theorem KH {dr:Bool}{all:List Oper}:∀(l:List Oper) (s:St) (K K':St->Prop),(∀s',K s'->K' s')->ql P mu dr all l s K->ql P mu dr all l s K'
 |[],s,_,_,hk,h=>hk s h
 |_::l,_,K,K',hk,h=>GN (fun s' _ h=>KH l s' K K' hk h) h
theorem nV:∀(c:Code) (s:St) (K K':Ex->St->Prop),(∀e s',K e s'->K' e s')->Vm.wp P mu c s K->Vm.wp P mu c s K':=by
 intro c
 induction c with
 |skip=>intro s K K' h hw;exact h _ _ hw
 |ret=>intro s K K' h hw;exact h _ _ hw
 |exit n=>intro s K K' h hw;exact h _ _ hw
 |region id ops dr=>intro s K K' h hw;exact KH _ _ _ _ (fun s'=>h _ s') hw
 |seq a b iha ihb =>
  intro s K K' h hw;simp only[Vm.wp]at hw ⊢;refine iha _ _ _ (fun e s'=>?_) hw;cases e with
  |normal=>exact ihb _ _ _ h
  |exit n=>exact h _ _
  |ret=>exact h _ _
 |cond c a b iha ihb =>
  intro s K K' h hw;simp only[Vm.wp]at hw ⊢;split
  ·rename_i x hx;rw[hx]at hw;exact ⟨fun e=>iha _ _ _ h (hw.1 e),fun e=>ihb _ _ _ h (hw.2 e)⟩
  ·rename_i hx;rw[hx]at hw;exact hw
 |block id b ih =>
  intro s K K' h hw;simp only[Vm.wp]at hw ⊢;refine ih _ _ _ (fun e s'=>?_) hw;cases e with
  |normal=>exact h _ _
  |exit n=>simp only;split<;>exact h _ _
  |ret=>exact h _ _
 |loop b ih =>
  intro s K K' h hw;simp only[Vm.wp]at hw ⊢;obtain ⟨I,n,h0,hr⟩:=hw;refine ⟨I,n,h0,fun n s hI=>ih _ _ _ (fun e s'=>?_) (hr n s hI)⟩;cases e with
  |normal=>exact id
  |exit n=>exact h _ _
  |ret=>exact h _ _
 |_=>intro s K K' h hw;exact hw.elim
theorem KI:∀(c:Code) (s:St) (K:Ex->St->Prop),Vm.wp P mu c s K->Vm.wp P mu c s (fun e s'=>K e s'/\∀t,t∉writes c->s'.sl t=s.sl t):=by
 intro c
 induction c with
 |skip=>intro s K hw;exact ⟨hw,fun _ _=>rfl⟩
 |ret=>intro s K hw;exact ⟨hw,fun _ _=>rfl⟩
 |exit n=>intro s K hw;exact ⟨hw,fun _ _=>rfl⟩
 |region id ops dr=>intro s K hw;exact IB _ _ _ hw
 |seq a b iha ihb =>
  intro s K hw;simp only[Vm.wp]at hw ⊢;refine nV _ _ _ _ (fun e s' ⟨h1,h2⟩=>?_) (iha _ _ hw);cases e with
  |normal =>
   refine nV _ _ _ _ (fun e s'' ⟨h3,h4⟩=>⟨h3,fun t ht=>?_⟩) (ihb _ _ h1);simp only[writes,List.mem_append,not_or]at ht;rw[h4 t ht.2,h2 t ht.1]
  |exit n=>exact ⟨h1,fun t ht=>h2 t (by simp only[writes,List.mem_append,not_or]at ht;exact ht.1)⟩
  |ret=>exact ⟨h1,fun t ht=>h2 t (by simp only[writes,List.mem_append,not_or]at ht;exact ht.1)⟩
 |cond c a b iha ihb =>
  intro s K hw;simp only[Vm.wp]at hw ⊢;split
  ·rename_i x hx
   rw[hx]at hw;exact ⟨fun e=>nV _ _ _ _ (fun e s'' ⟨h3,h4⟩=>⟨h3,fun t ht=>h4 t (by simp only[writes,List.mem_append,not_or]at ht;exact ht.1)⟩) (iha _ _ (hw.1 e)),
    fun e=>nV _ _ _ _ (fun e s'' ⟨h3,h4⟩=>⟨h3,fun t ht=>h4 t (by simp only[writes,List.mem_append,not_or]at ht;exact ht.2)⟩) (ihb _ _ (hw.2 e))⟩
  ·rename_i hx;rw[hx]at hw;exact hw
 |block id b ih =>
  intro s K hw;simp only[Vm.wp]at hw ⊢;refine nV _ _ _ _ (fun e s' ⟨h1,h2⟩=>?_) (ih _ _ hw);cases e with
  |normal=>exact ⟨h1,h2⟩
  |exit n=>simp only at h1 ⊢;split<;>rename_i hn<;>simp only[hn,if_true,if_false]at h1<;>exact ⟨h1,h2⟩
  |ret=>exact ⟨h1,h2⟩
 |loop b ih =>
  intro s K hw;simp only[Vm.wp]at hw ⊢;obtain ⟨I,n,h0,hr⟩:=hw;refine ⟨fun n s'=>I n s'/\∀t,t∉writes b->s'.sl t=s.sl t,n,⟨h0,fun _ _=>rfl⟩,fun n s' ⟨hI,hf⟩=>?_⟩;refine nV _ _ _ _ (fun e s'' ⟨h1,h2⟩=>?_) (ih _ _ (hr n s' hI));have h3:∀t,t∉writes b->s''.sl t=s.sl t:=fun t ht=>(h2 t ht).trans (hf t ht)
  cases e with
  |normal=>obtain ⟨m,hlt,hm⟩:=h1;exact ⟨m,hlt,hm,h3⟩
  |exit n=>exact ⟨h1,h3⟩
  |ret=>exact ⟨h1,h3⟩
 |_=>intro s K hw;exact hw.elim
theorem aR {α:Type}{a b:α} (h:a=b):a=b:=h
theorem jH {a b:Prop} (h:a=b):a=b:=h
inductive Item where
 |code (c:Code)
 |ops (dr:Bool) (all rest:List Oper)
 |blk (id:Nat)
 |back (G:St->Prop)
section
variable (P:Program) (mu:Nat->Bool) (F:Ex->St->Prop)
def aI:List Item->Ex->St->Prop
 |[],e,s=>F e s
 |.code c::r,e,s=>match e with|.normal=>Vm.wp P mu c s (aI r)|.exit n=>aI r (.exit n) s|.ret=>aI r .ret s
 |.ops dr all os::r,e,s=>match e with|.normal=>ql P mu dr all os s (aI r .normal)|.exit n=>aI r (.exit n) s|.ret=>aI r .ret s
 |.blk id::r,e,s=>match e with|.normal=>aI r .normal s|.exit n=>if n=id then aI r .normal s else aI r (.exit n) s|.ret=>aI r .ret s
 |.back G::r,e,s=>match e with|.normal=>G s|.exit n=>aI r (.exit n) s|.ret=>aI r .ret s
def stK (x:Option PV) (d:Option Tmp) (r:List Item) (s:St):Prop:=match x with|some v=>aI P mu F r .normal (St.put s d v)|none=>False
def hpK (x:Option (PV × Hp)) (d:Option Tmp) (r:List Item) (s:St):Prop:=match x with|some (v,h)=>aI P mu F r .normal (St.put { s with hp:=h } d v)|none=>False
def wrK (x:Option Hp) (d:Option Tmp) (r:List Item) (s:St):Prop:=match x with|some h=>aI P mu F r .normal (St.put { s with hp:=h } d .skip)|none=>False
def cdK (x:Option Bool) (a b:Code) (r:List Item) (s:St):Prop:=match x with|some true=>aI P mu F (.code a::r) .normal s|some false=>aI P mu F (.code b::r) .normal s|none=>False
def gdK (x:Option (Option Bool)) (want dr:Bool) (all:List Oper) (o:Oper) (os:List Oper) (r:List Item) (s:St):Prop:=match x with
 |some (some b)=>if b=want then aI P mu F (.ops dr all (o::os)::r) .normal s else aI P mu F (.ops dr all os::r) .normal (St.put s o.dst .skip)
 |some none=>aI P mu F (.ops dr all os::r) .normal (St.put s o.dst .skip)
 |none=>False
def clK (dr:Bool) (d:Option Tmp) (q:Option (FuncId × List PV)) (r:List Item) (s:St):Prop:=match q with
 |some (g,args)=>mR P mu dr { dst:=d,op:=.move (.tmp 0),type:=0,pos:="",after:=#[],guard:=none } s g args (aI P mu F r .normal)
 |none=>False
end
variable {F:Ex->St->Prop}{r:List Item}{s:St}
theorem IC {c:Code}:Vm.wp P mu c s F=aI P mu F [.code c] .normal s:=by
 simp only[aI]
@[go_sem ↓] theorem afx (e:Ex):aI P mu F [] e s=F e s:=jH rfl
@[go_sem ↓] theorem NU (a b:Code):aI P mu F (.code (.seq a b)::r) .normal s=aI P mu F (.code a::.code b::r) .normal s:=by
 simp only[aI,Vm.wp];congr 1
@[go_sem ↓] theorem UK:aI P mu F (.code .skip::r) .normal s=aI P mu F r .normal s:=jH rfl
@[go_sem ↓] theorem UL (n:Nat):aI P mu F (.code (.exit n)::r) .normal s=aI P mu F r (.exit n) s:=jH rfl
@[go_sem ↓] theorem afy:aI P mu F (.code .ret::r) .normal s=aI P mu F r .ret s:=jH rfl
@[go_sem ↓] theorem Fg (id:Nat) (ops:Array Oper) (dr:Bool):aI P mu F (.code (.region id ops dr)::r) .normal s=aI P mu F (.ops dr ops.toList ops.toList::r) .normal s:=jH rfl
@[go_sem ↓] theorem RP (id:Nat) (b:Code):aI P mu F (.code (.block id b)::r) .normal s=aI P mu F (.code b::.blk id::r) .normal s:=by
 simp only[aI,Vm.wp];congr 1
@[go_sem ↓] theorem UM (c:Operand) (a b:Code):aI P mu F (.code (.cond c a b)::r) .normal s=cdK P mu F (uG (ev s.sl c)) a b r s:=by
 simp only[aI,Vm.wp,cdK];cases uG (ev s.sl c) with
 |none=>rfl
 |some x=>cases x<;>simp
@[go_sem ↓] theorem JR (c:Code) (n:Nat):aI P mu F (.code c::r) (.exit n) s=aI P mu F r (.exit n) s:=jH rfl
@[go_sem ↓] theorem Y5 (c:Code):aI P mu F (.code c::r) .ret s=aI P mu F r .ret s:=jH rfl
@[go_sem ↓] theorem afz (id:Nat):aI P mu F (.blk id::r) .normal s=aI P mu F r .normal s:=jH rfl
@[go_sem ↓] theorem abj (id:Nat):aI P mu F (.blk id::r) .ret s=aI P mu F r .ret s:=jH rfl
@[go_sem ↓] theorem Ay (id n:Nat):aI P mu F (.blk id::r) (.exit n) s=if n=id then aI P mu F r .normal s else aI P mu F r (.exit n) s:=jH rfl
@[go_sem ↓] theorem UN (G:St->Prop):aI P mu F (.back G::r) .normal s=G s:=jH rfl
@[go_sem ↓] theorem Y6 (G:St->Prop):aI P mu F (.back G::r) .ret s=aI P mu F r .ret s:=jH rfl
@[go_sem ↓] theorem JU (G:St->Prop) (n:Nat):aI P mu F (.back G::r) (.exit n) s=aI P mu F r (.exit n) s:=jH rfl
@[go_sem ↓] theorem Df (dr:Bool) (all:List Oper):aI P mu F (.ops dr all []::r) .normal s=aI P mu F r .normal s:=jH rfl
@[go_sem] theorem NV (v:PV) (d:Option Tmp):stK P mu F (some v) d r s=aI P mu F r .normal (St.put s d v):=jH rfl
@[go_sem] theorem Cr (v:PV) (h:Hp) (d:Option Tmp):hpK P mu F (some (v,h)) d r s=aI P mu F r .normal (St.put { s with hp:=h } d v):=jH rfl
@[go_sem] theorem afA (h:Hp) (d:Option Tmp):wrK P mu F (some h) d r s=aI P mu F r .normal (St.put { s with hp:=h } d .skip):=jH rfl
@[go_sem] theorem afB (a b:Code):cdK P mu F (some true) a b r s=aI P mu F (.code a::r) .normal s:=jH rfl
@[go_sem] theorem aej (a b:Code):cdK P mu F (some false) a b r s=aI P mu F (.code b::r) .normal s:=jH rfl
@[go_sem] theorem ah9 (dr:Bool) (all:List Oper) (o:Oper) (os:List Oper):gdK P mu F (some (some true)) true dr all o os r s=aI P mu F (.ops dr all (o::os)::r) .normal s:=jH rfl
@[go_sem] theorem aia (dr:Bool) (all:List Oper) (o:Oper) (os:List Oper):gdK P mu F (some (some false)) false dr all o os r s=aI P mu F (.ops dr all (o::os)::r) .normal s:=jH rfl
@[go_sem] theorem aib (dr:Bool) (all:List Oper) (o:Oper) (os:List Oper):gdK P mu F (some (some true)) false dr all o os r s=aI P mu F (.ops dr all os::r) .normal (St.put s o.dst .skip):=jH rfl
@[go_sem] theorem aic (dr:Bool) (all:List Oper) (o:Oper) (os:List Oper):gdK P mu F (some (some false)) true dr all o os r s=aI P mu F (.ops dr all os::r) .normal (St.put s o.dst .skip):=jH rfl
@[go_sem] theorem afC (want dr:Bool) (all:List Oper) (o:Oper) (os:List Oper):gdK P mu F (some none) want dr all o os r s=aI P mu F (.ops dr all os::r) .normal (St.put s o.dst .skip):=jH rfl
theorem sD {x:Bool}{a b:Code} (ht:x=true->aI P mu F (.code a::r) .normal s) (hf:x=false->aI P mu F (.code b::r) .normal s):cdK P mu F (some x) a b r s:=by
 cases x
 ·exact hf rfl
 ·exact ht rfl
theorem sE {x dr:Bool}{all:List Oper}{o:Oper}{os:List Oper} (ht:x=true->aI P mu F (.ops dr all (o::os)::r) .normal s) (hf:x=false->aI P mu F (.ops dr all os::r) .normal (St.put s o.dst .skip)) :
  gdK P mu F (some (some x)) true dr all o os r s:=by
 cases x
 ·exact hf rfl
 ·exact ht rfl
theorem sF {x dr:Bool}{all:List Oper}{o:Oper}{os:List Oper} (hf:x=false->aI P mu F (.ops dr all (o::os)::r) .normal s) (ht:x=true->aI P mu F (.ops dr all os::r) .normal (St.put s o.dst .skip)) :
  gdK P mu F (some (some x)) false dr all o os r s:=by
 cases x
 ·exact hf rfl
 ·exact ht rfl
theorem sA {x:Bool}{a b:Code} (ht:x=false->aI P mu F (.code a::r) .normal s) (hf:x=true->aI P mu F (.code b::r) .normal s):cdK P mu F (some (!x)) a b r s:=by
 cases x
 ·exact ht rfl
 ·exact hf rfl
theorem sB {x dr:Bool}{all:List Oper}{o:Oper}{os:List Oper} (ht:x=false->aI P mu F (.ops dr all (o::os)::r) .normal s) (hf:x=true->aI P mu F (.ops dr all os::r) .normal (St.put s o.dst .skip)) :
  gdK P mu F (some (some (!x))) true dr all o os r s:=by
 cases x
 ·exact ht rfl
 ·exact hf rfl
theorem sC {x dr:Bool}{all:List Oper}{o:Oper}{os:List Oper} (hf:x=true->aI P mu F (.ops dr all (o::os)::r) .normal s) (ht:x=false->aI P mu F (.ops dr all os::r) .normal (St.put s o.dst .skip)) :
  gdK P mu F (some (some (!x))) false dr all o os r s:=by
 cases x
 ·exact ht rfl
 ·exact hf rfl
structure SpG (g:Prop):Type
structure SpR (g a b:Prop):Type where
 spr:a->b->g
abbrev Sp (g a b:Prop):=HAnd (SpG g) Unit (SpR g a b)
instance (priority:=100) spD {x:Bool}{a b:Code}:Sp (cdK P mu F (some x) a b r s) (x=true->aI P mu F (.code a::r) .normal s) (x=false->aI P mu F (.code b::r) .normal s):=⟨fun _ _=>⟨sD⟩⟩
instance (priority:=100) spE {x dr:Bool}{all:List Oper}{o:Oper}{os:List Oper}:Sp (gdK P mu F (some (some x)) true dr all o os r s) (x=true->aI P mu F (.ops dr all (o::os)::r) .normal s) (x=false->aI P mu F (.ops dr all os::r) .normal (St.put s o.dst .skip)):=⟨fun _ _=>⟨sE⟩⟩
instance (priority:=100) spF {x dr:Bool}{all:List Oper}{o:Oper}{os:List Oper}:Sp (gdK P mu F (some (some x)) false dr all o os r s) (x=false->aI P mu F (.ops dr all (o::os)::r) .normal s) (x=true->aI P mu F (.ops dr all os::r) .normal (St.put s o.dst .skip)):=⟨fun _ _=>⟨sF⟩⟩
instance (priority:=200) spA {x:Bool}{a b:Code}:Sp (cdK P mu F (some (!x)) a b r s) (x=false->aI P mu F (.code a::r) .normal s) (x=true->aI P mu F (.code b::r) .normal s):=⟨fun _ _=>⟨sA⟩⟩
instance (priority:=200) spB {x dr:Bool}{all:List Oper}{o:Oper}{os:List Oper}:Sp (gdK P mu F (some (some (!x))) true dr all o os r s) (x=false->aI P mu F (.ops dr all (o::os)::r) .normal s) (x=true->aI P mu F (.ops dr all os::r) .normal (St.put s o.dst .skip)):=⟨fun _ _=>⟨sB⟩⟩
instance (priority:=200) spC {x dr:Bool}{all:List Oper}{o:Oper}{os:List Oper}:Sp (gdK P mu F (some (some (!x))) false dr all o os r s) (x=true->aI P mu F (.ops dr all (o::os)::r) .normal s) (x=false->aI P mu F (.ops dr all os::r) .normal (St.put s o.dst .skip)):=⟨fun _ _=>⟨sC⟩⟩
theorem sX {g a b:Prop} [h:Sp g a b] (x:a) (y:b):g:=(h.hAnd ⟨⟩ ()).spr x y
theorem jD {b:Code} (I:Nat->St->Prop) (n:Nat) (h0:I n s)
  (hr:∀(n:Nat) (s':St),I n s'->(∀t,(writes b).contains t=false->s'.sl t=s.sl t)->∀G:St->Prop,(∀m s'',m < n->I m s''->G s'')->aI P mu F (.code b::.back G::r) .normal s') :
  aI P mu F (.code (.loop b)::r) .normal s:=by
 simp only[aI,Vm.wp];refine ⟨fun n s'=>I n s'/\∀t,(writes b).contains t=false->s'.sl t=s.sl t,n,⟨h0,fun _ _=>rfl⟩,fun n s' ⟨hI,hf⟩=>?_⟩;have:=hr n s' hI hf (fun s''=>∃m,m < n/\I m s'') (fun m s'' h1 h2=>⟨m,h1,h2⟩);simp only[aI]at this;refine nV _ _ _ _ (fun e s'' ⟨h1,h2⟩=>?_) (KI _ _ _ this);cases e with
 |normal =>
  obtain ⟨m,hlt,hm⟩:=h1;refine ⟨m,hlt,hm,fun t ht=>?_⟩;rw[h2 t (by simpa using ht),hf t ht]
 |exit n=>exact h1
 |ret=>exact h1
section
variable {dr:Bool}{all os:List Oper}{d:Option Tmp}{ty:TypeId}{ps:String}{af:Array Edge}
theorem KJ {o:Oper} (hc:bN s.sl o=none) (hg:o.guard=none) (hn:kG s.sl o=none):aI P mu F (.ops dr all (o::os)::r) .normal s=((dr=true->bare mu o s.sl=true)/\hpK P mu F (evalOp P mu o s) o.dst (.ops dr all os::r) s):=by
 simp only[aI,ql,opG,jv,hg,opW,hc,sJ,hn,hpK];simp only[forall_const,reduceCtorEq,false_implies,and_true];rfl
theorem kH {o:Oper} (hc:bN s.sl o=none) (hg:o.guard=none) (hn:kG s.sl o=none:=by rfl):aI P mu F (.ops false all (o::os)::r) .normal s=hpK P mu F (evalOp P mu o s) o.dst (.ops false all os::r) s:=by
 rw[KJ hc hg hn];simp
theorem gK {o:Oper} (hc:bN s.sl o=none) (hg:o.guard=none) (hb:bare mu o s.sl=true) (hn:kG s.sl o=none:=by rfl):aI P mu F (.ops dr all (o::os)::r) .normal s=hpK P mu F (evalOp P mu o s) o.dst (.ops dr all os::r) s:=by
 rw[KJ hc hg hn];simp[hb]
@[go_sem ↓] theorem acQ (op:Op) (j:Nat) (want:Bool):aI P mu F (.ops dr all (⟨d,op,ty,ps,af,some (j,want)⟩::os)::r) .normal s=gdK P mu F (oI all s.sl j) want dr all ⟨d,op,ty,ps,af,none⟩ os r s:=by
 simp only[aI,ql,opG,jv,gdK];cases hg:oI all s.sl j with
 |none=>rfl
 |some x =>
  cases x with
  |none=>simp
  |some b =>
   by_cases hb:b=want
   ·subst hb
    simp only[beq_self_eq_true,true_implies,Bool.true_eq_false,false_implies,and_true,if_true];exact propext Iff.rfl
   ·have:(b==want)=false:=by simpa using hb
    simp[this,hb]
theorem eB (x:Option PV):hpK P mu F (still x s.hp) d r s=stK P mu F x d r s:=by
 cases x<;>rfl
@[go_sem ↓] theorem UO (x:Operand):aI P mu F (.ops dr all (⟨d,.move x,ty,ps,af,none⟩::os)::r) .normal s=stK P mu F (some (ev s.sl x)) d (.ops dr all os::r) s:=by rw[gK rfl rfl rfl];rfl
@[go_sem ↓] theorem abB (x:Operand):aI P mu F (.ops dr all (⟨d,.assign x,ty,ps,af,none⟩::os)::r) .normal s=stK P mu F (some (ev s.sl x)) d (.ops dr all os::r) s:=by rw[gK rfl rfl rfl];rfl
def J7 (c:Option Bool) (a b:PV):Option PV:=match c with|some c=>some (if c then a else b)|none=>none
@[go_sem] theorem abC (a b:PV):J7 (some true) a b=some a:=aR rfl
@[go_sem] theorem abk (a b:PV):J7 (some false) a b=some b:=aR rfl
@[go_sem] theorem abD (c x y:Bool):J7 (some c) (.t (.bool x)) (.t (.bool y))=some (.t (.bool (if c then x else y))):=by cases c<;>rfl
@[go_sem ↓] theorem aek (c a b:Operand):aI P mu F (.ops dr all (⟨d,.pick c a b,ty,ps,af,none⟩::os)::r) .normal s=stK P mu F (J7 (uG (ev s.sl c)) (ev s.sl a) (ev s.sl b)) d (.ops dr all os::r) s:=by
 rw[gK rfl rfl rfl];simp only[evalOp];cases uG (ev s.sl c)<;>rfl
@[go_sem ↓] theorem acR (t:TypeId) (parts:Array (Nat × Operand)):aI P mu F (.ops dr all (⟨d,.build t parts,ty,ps,af,none⟩::os)::r) .normal s=stK P mu F (xP P t (parts.toList.map fun p=>(p.1,ev s.sl p.2))) d (.ops dr all os::r) s:=by
 rw[gK rfl rfl rfl];exact eB _
@[go_sem ↓] theorem ael (op:UnOp) (t:TypeId) (x:Operand):aI P mu F (.ops dr all (⟨d,.unOp op t x,ty,ps,af,none⟩::os)::r) .normal s=stK P mu F (Ig op (ev s.sl x)) d (.ops dr all os::r) s:=by
 rw[gK rfl rfl rfl];exact eB _
@[go_sem ↓] theorem abl (a b:TypeId) (x:Operand):aI P mu F (.ops dr all (⟨d,.convert a b x,ty,ps,af,none⟩::os)::r) .normal s=stK P mu F (Ci P b a (ev s.sl x)) d (.ops dr all os::r) s:=by
 rw[gK rfl rfl rfl];exact eB _
@[go_sem ↓] theorem acS (t:TypeId) (x:Operand) (i:Nat):aI P mu F (.ops dr all (⟨d,.field t x i,ty,ps,af,none⟩::os)::r) .normal s=stK P mu F (Ak P t i (ev s.sl x)) d (.ops dr all os::r) s:=by
 rw[gK rfl rfl rfl];exact eB _
def o9 (x:PV) (i:Nat):Option PV:=match x with
 |.t (.tup l)=>(match l[i]? with|some y=>some (.t y)|none=>none)
 |.tup l=>l[i]?
 |_=>none
@[go_sem ↓] theorem abm (x:Operand) (i:Nat):aI P mu F (.ops dr all (⟨d,.extract x i,ty,ps,af,none⟩::os)::r) .normal s=stK P mu F (o9 (ev s.sl x) i) d (.ops dr all os::r) s:=by
 rw[gK rfl rfl rfl];simp only[evalOp,o9];generalize ev s.sl x=u;cases u with
 |t y =>
  cases y with
  |tup l=>simp only;cases l[i]?<;>rfl
  |_=>rfl
 |tup l=>simp only;cases l[i]?<;>rfl
 |_=>rfl
@[go_sem ↓] theorem Y7 (f:FuncId) (caps:Array Operand):aI P mu F (.ops dr all (⟨d,.makeFunc (.func f) #[] caps,ty,ps,af,none⟩::os)::r) .normal s=stK P mu F (some (C9 f (evs s.sl caps.toList))) d (.ops dr all os::r) s:=by
 rw[gK rfl rfl rfl];rfl
@[go_sem ↓] theorem afD (t:TypeId) (x:Operand):aI P mu F (.ops dr all (⟨d,.box t x,ty,ps,af,none⟩::os)::r) .normal s=hpK P mu F (iC P mu d t (ev s.sl x).cells s.hp) d (.ops dr all os::r) s:=by rw[gK rfl rfl rfl];rfl
def RQ (z:Option (List Tr)) (P:Program) (mu:Nat->Bool) (d:Option Tmp) (t:TypeId) (h:Hp):Option (PV × Hp):=match z with|some z=>iC P mu d t (z.map .t) h|none=>none
@[go_sem] theorem abn (z:List Tr) (t:TypeId) (h:Hp):RQ (some z) P mu d t h=iC P mu d t (z.map .t) h:=aR rfl
@[go_sem ↓] theorem acT (t:TypeId):aI P mu F (.ops dr all (⟨d,.alloc t,ty,ps,af,none⟩::os)::r) .normal s=hpK P mu F (RQ (aW P t) P mu d t s.hp) d (.ops dr all os::r) s:=by rw[gK rfl rfl rfl];rfl
@[go_sem ↓] theorem XD (t:TypeId) (len:Nat) (parts:Array (Nat × Operand)):aI P mu F (.ops dr all (⟨d,.buildSlice t len parts,ty,ps,af,none⟩::os)::r) .normal s=hpK P mu F (jT P mu d t len (parts.toList.map fun p=>(p.1,ev s.sl p.2)) s.hp) d (.ops dr all os::r) s:=by rw[gK rfl rfl rfl];rfl
@[go_sem ↓] theorem YE (t:TypeId) (n m:Operand):aI P mu F (.ops dr all (⟨d,.makeSlice t n m,ty,ps,af,none⟩::os)::r) .normal s=hpK P mu F (kJ P mu d t (ev s.sl n) (ev s.sl m) s.hp) d (.ops dr all os::r) s:=by rw[gK rfl rfl rfl];rfl
@[go_sem ↓] theorem acU (t:TypeId) (x:Operand) (lo hi:Option Operand):aI P mu F (.ops false all (⟨d,.slice t x lo hi none,ty,ps,af,none⟩::os)::r) .normal s=hpK P mu F (kK P t (ev s.sl x) (lo.map (ev s.sl)) (hi.map (ev s.sl)) s.hp) d (.ops false all os::r) s:=by rw[kH rfl rfl];rfl
@[go_sem] theorem aie (p:PV) (h:mu 3999999=false):awX mu p=true:=by unfold awX;rw[h];rfl
def drK (b:Bool) (X:Prop):Prop:=b=true/\X
@[go_sem] theorem afE (X:Prop):drK true X=X:=by simp[drK]
@[go_sem ↓] theorem aem (t:TypeId) (x:Operand):aI P mu F (.ops false all (⟨d,.load t x,ty,ps,af,none⟩::os)::r) .normal s=stK P mu F (gB P t (ev s.sl x) s.hp) d (.ops false all os::r) s:=by rw[kH rfl rfl];exact eB _
@[go_sem ↓] theorem YF (t:TypeId) (x:Operand) (i:Nat):aI P mu F (.ops false all (⟨d,.fieldAddr t x i,ty,ps,af,none⟩::os)::r) .normal s=stK P mu F (dV P t i (ev s.sl x) s.hp) d (.ops false all os::r) s:=by rw[kH rfl rfl];exact eB _
@[go_sem ↓] theorem YG (t:TypeId) (x i:Operand):aI P mu F (.ops false all (⟨d,.indexAddr t x i,ty,ps,af,none⟩::os)::r) .normal s=stK P mu F (bP P t (ev s.sl x) (ev s.sl i) s.hp) d (.ops false all os::r) s:=by rw[kH rfl rfl];exact eB _
@[go_sem ↓] theorem IE (op:BinOp) (t t':TypeId) (x y:Operand):aI P mu F (.ops false all (⟨d,.binOp op t x y t',ty,ps,af,none⟩::os)::r) .normal s=stK P mu F (cK P s.hp op t (ev s.sl x) (ev s.sl y)) d (.ops false all os::r) s:=by rw[kH rfl rfl];exact eB _
def pO (h:Hp) (x:PV):Option PV:=match x with|.ro cs=>some (.ro cs)|.ad id n off=>if valid h id n then some (.ad id n off) else none|_=>none
theorem Az (x:Operand):evalOp P mu ⟨d,.nilCheck x,ty,ps,af,none⟩ s=still (pO s.hp (ev s.sl x)) s.hp:=by
 simp only[evalOp,pO];split
 ·rename_i h;rw[h];rfl
 ·rename_i h;rw[h];simp only;split<;>rfl
 ·rename_i h1 h2
  split
  ·rename_i h;exact absurd h (h1 _)
  ·rename_i h;exact absurd h (h2 _ _ _)
  ·rfl
@[go_sem ↓] theorem Y8 (x:Operand):aI P mu F (.ops false all (⟨d,.nilCheck x,ty,ps,af,none⟩::os)::r) .normal s=stK P mu F (pO s.hp (ev s.sl x)) d (.ops false all os::r) s:=by rw[kH rfl rfl,Az];exact eB _
theorem ji {o:Oper} (hc:bN s.sl o=none) (hg:o.guard=none) (hn:kG s.sl o=none:=by rfl):aI P mu F (.ops true all (o::os)::r) .normal s=drK (bare mu o s.sl) (hpK P mu F (evalOp P mu o s) o.dst (.ops true all os::r) s):=by
 rw[KJ hc hg hn];simp[drK]
@[go_sem ↓] theorem acV (t:TypeId) (a x:Operand):aI P mu F (.ops false all (⟨d,.store t a x,ty,ps,af,none⟩::os)::r) .normal s=wrK P mu F (lH P t (ev s.sl a) (ev s.sl x) s.hp) d (.ops false all os::r) s:=by
 rw[kH rfl rfl];simp only[evalOp];cases lH P t (ev s.sl a) (ev s.sl x) s.hp<;>rfl
@[go_sem ↓] theorem abE (t:TypeId) (a x:Operand):aI P mu F (.ops true all (⟨d,.store t a x,ty,ps,af,none⟩::os)::r) .normal s=drK (Cj mu a s.sl) (wrK P mu F (lH P t (ev s.sl a) (ev s.sl x) s.hp) d (.ops true all os::r) s):=by
 rw[ji rfl rfl];have e:bare mu ⟨d,.store t a x,ty,ps,af,none⟩ s.sl=Cj mu a s.sl:=by
  show (true&&Cj mu a s.sl&&true)=_
  rw[Bool.and_true,Bool.true_and]
 rw[e];refine congrArg _ ?_;simp only[evalOp];cases lH P t (ev s.sl a) (ev s.sl x) s.hp<;>rfl
@[go_sem ↓] theorem acW (t:TypeId) (x:Operand):aI P mu F (.ops true all (⟨d,.load t x,ty,ps,af,none⟩::os)::r) .normal s=drK ((rH mu x||awX mu (ev s.sl x))&&Cj mu x s.sl&&(outer mu x||!(ev s.sl x).isRef)) (stK P mu F (gB P t (ev s.sl x) s.hp) d (.ops true all os::r) s):=by rw[ji rfl rfl];exact congrArg _ (eB _)
@[go_sem ↓] theorem XE (t:TypeId) (x:Operand) (i:Nat):aI P mu F (.ops true all (⟨d,.fieldAddr t x i,ty,ps,af,none⟩::os)::r) .normal s=drK ((rH mu x||awX mu (ev s.sl x))&&true&&(outer mu x||!(ev s.sl x).isRef)) (stK P mu F (dV P t i (ev s.sl x) s.hp) d (.ops true all os::r) s):=by rw[ji rfl rfl];exact congrArg _ (eB _)
@[go_sem ↓] theorem XF (t:TypeId) (x i:Operand):aI P mu F (.ops true all (⟨d,.indexAddr t x i,ty,ps,af,none⟩::os)::r) .normal s=drK ((rH mu x||awX mu (ev s.sl x))&&true&&(outer mu x||!(ev s.sl x).isRef)) (stK P mu F (bP P t (ev s.sl x) (ev s.sl i) s.hp) d (.ops true all os::r) s):=by rw[ji rfl rfl];exact congrArg _ (eB _)
@[go_sem ↓] theorem abF (op:BinOp) (t t':TypeId) (x y:Operand):aI P mu F (.ops true all (⟨d,.binOp op t x y t',ty,ps,af,none⟩::os)::r) .normal s=drK (outer mu x||outer mu y||(!(ev s.sl x).isRef&&!(ev s.sl y).isRef)) (stK P mu F (cK P s.hp op t (ev s.sl x) (ev s.sl y)) d (.ops true all os::r) s):=by rw[ji rfl rfl];exact congrArg _ (eB _)
@[go_sem ↓] theorem YH (x:Operand):aI P mu F (.ops true all (⟨d,.nilCheck x,ty,ps,af,none⟩::os)::r) .normal s=drK ((rH mu x||awX mu (ev s.sl x))&&true&&(outer mu x||!(ev s.sl x).isRef)) (stK P mu F (pO s.hp (ev s.sl x)) d (.ops true all os::r) s):=by rw[ji rfl rfl,Az];exact congrArg _ (eB _)
@[go_sem ↓] theorem abG (t:TypeId) (x:Operand) (lo hi:Option Operand):aI P mu F (.ops true all (⟨d,.slice t x lo hi none,ty,ps,af,none⟩::os)::r) .normal s=drK (!Pg mu x||!(ev s.sl x).isRef) (hpK P mu F (kK P t (ev s.sl x) (lo.map (ev s.sl)) (hi.map (ev s.sl)) s.hp) d (.ops true all os::r) s):=by rw[ji rfl rfl];rfl
@[go_sem ↓] theorem aen (f:Operand) (args:Array Operand) (ats:Array TypeId):aI P mu F (.ops dr all (⟨d,.call ⟨.value f,args,ats⟩,ty,ps,af,none⟩::os)::r) .normal s=clK P mu F dr d (mI s.sl f args.toList) (.ops dr all os::r) s:=by
 simp only[aI,ql,opG,jv,opW,bN,clK];cases mI s.sl f args.toList with
 |none=>simp
 |some q=>simp[mR,aI]
end
end
end Go.Vm
end
section
namespace Go.Vm
open Go
section
variable {P:Program}{mu:Nat->Bool}{F:Ex->St->Prop}{r:List Item}{s:St}{h:Hp}
attribute [go_sem] Option.map_some Option.map_none List.map_cons List.map_nil List.length_map List.length_cons List.length_nil List.take_succ_cons List.take_zero List.drop_succ_cons List.drop_zero List.take_nil List.drop_nil List.getElem?_cons_zero List.getElem?_cons_succ List.getElem?_nil List.getElem?_map List.all_cons List.all_nil List.cons_append List.nil_append List.flatMap_cons List.flatMap_nil Bool.and_true Bool.true_and Bool.and_false Bool.false_and Bool.or_false Bool.false_or Bool.or_true Bool.true_or Bool.not_true Bool.not_false and_true true_and and_false false_and if_true if_false ite_true ite_false reduceIte Int.toNat_natCast Int.natCast_nonneg reduceCtorEq Bool.false_eq_true Bool.true_eq_false true_or or_true false_or or_false not_true_eq_false not_false_eq_true ne_eq Option.isSome_some decide_true decide_false List.toList_toArray
@[go_sem] theorem agL {α:Type} (f:Nat->α) (t u:Nat) (v:α):upd f t v u=bif u==t then v else f u:=by
 unfold upd
 by_cases hu:u=t
 ·subst hu;simp
 ·rw[beq_false_of_ne hu,if_neg hu];rfl
@[go_sem] theorem aif {α:Type} (a b:α):(bif true then a else b)=a:=aR rfl
@[go_sem] theorem aii {α:Type} (a b:α):(bif false then a else b)=b:=aR rfl
@[go_sem] theorem NW (d:Tmp) (v:PV):St.put s (some d) v=⟨upd s.sl d v,s.hp⟩:=aR rfl
@[go_sem] theorem afF (v:PV):St.put s none v=s:=aR rfl
@[go_sem] theorem Wv (sl:Sl) (t:Tmp):ev sl (.tmp t)=sl t:=aR rfl
@[go_sem] theorem agM (sl:Sl) (f:FuncId):ev sl (.func f)=.t (.fn f []):=aR rfl
@[go_sem] theorem abH (sl:Sl) (k:IntKind) (n:Int):ev sl (.const (.int k n))=.t (.int k n):=aR rfl
@[go_sem] theorem agN (sl:Sl) (b:Bool):ev sl (.const (.bool b))=.t (.bool b):=aR rfl
@[go_sem] theorem aij (sl:Sl):ev sl (.const (.slice none 0 0))=.t (.sl false []):=aR rfl
@[go_sem] theorem agO (sl:Sl):ev sl (.const (.pointer none))=.t .uq:=aR rfl
@[go_sem] theorem agP (sl:Sl):evs sl []=[]:=aR rfl
@[go_sem] theorem afG (sl:Sl) (x:Operand) (l:List Operand):evs sl (x::l)=ev sl x::evs sl l:=aR rfl
@[go_sem] theorem PG (b:Bool):uG (.t (.bool b))=some b:=aR rfl
@[go_sem] theorem acX (args:List Tr) (t:Nat):J4 args t=(match args[t]? with|some x=>x.pv|none=>.undef):=aR rfl
@[go_sem] theorem aeo (args:List Tr):(qm args).sl=J4 args:=aR rfl
@[go_sem] theorem aep (args:List Tr):(qm args).hp=fun _=>[]:=aR rfl
@[go_sem] theorem aik (k:IntKind) (n:Int):(Tr.int k n).pv=.t (.int k n):=aR rfl
@[go_sem] theorem agQ (b:Bool):(Tr.bool b).pv=.t (.bool b):=aR rfl
@[go_sem] theorem ail (l:List Tr):(Tr.agg l).pv=.t (.agg l):=aR rfl
@[go_sem] theorem ajP (nn:Bool) (l:List Tr):(Tr.sl nn l).pv=.t (.sl nn l):=aR rfl
@[go_sem] theorem ajQ (f:FuncId) (l:List Tr):(Tr.fn f l).pv=.t (.fn f l):=aR rfl
@[go_sem] theorem ain (cs:List Tr):(Tr.ptr cs).pv=.ro cs:=aR rfl
@[go_sem] theorem agR (cs:List Tr):(PV.ro cs).lift=.t (.ptr cs):=aR rfl
def PI (p:PV):Option (Option Bool):=match p with|.t (.bool b)=>some (some b)|.skip=>some none|_=>none
@[go_sem] theorem abI (b:Bool):PI (.t (.bool b))=some (some b):=aR rfl
@[go_sem] theorem abJ:PI .skip=some none:=aR rfl
@[go_sem] theorem abo (o:Oper) (l:List Oper) (sl:Sl) (j:Nat):oI (o::l) sl (j+1)=oI l sl j:=aR rfl
@[go_sem] theorem abp (d:Tmp) (op:Op) (ty:TypeId) (ps:String) (af:Array Edge) (g:Option (Nat × Bool)) (l:List Oper) (sl:Sl):oI (⟨some d,op,ty,ps,af,g⟩::l) sl 0=PI (sl d):=aR rfl
@[go_sem] theorem acY (sl:Sl) (d:Tmp):Cj mu (.tmp d) sl=bif mu (1000000+d) then (sl d).at_ d else true:=by
 unfold Cj Am;cases h:mu (1000000+d)<;>simp[h]
@[go_sem] theorem ajR (id:Id) (n off d:Nat):(PV.ad id n off).at_ d=(id.1==d):=aR rfl
@[go_sem] theorem aer (k:IntKind) (n:Int):(PV.t (.int k n)).cells=[.t (.int k n)]:=aR rfl
@[go_sem] theorem acZ (b:Bool):(PV.t (.bool b)).cells=[.t (.bool b)]:=aR rfl
@[go_sem] theorem afH (nn:Bool) (l:List Tr):(PV.t (.sl nn l)).cells=[.t (.sl nn l)]:=aR rfl
@[go_sem] theorem afI (f:FuncId) (l:List Tr):(PV.t (.fn f l)).cells=[.t (.fn f l)]:=aR rfl
@[go_sem] theorem aes (l:List Tr):(PV.t (.agg l)).cells=l.map .t:=aR rfl
@[go_sem] theorem afJ (id:Id) (n:Nat):(PV.rf id n).cells=[.rf id n]:=aR rfl
@[go_sem] theorem afK (id:Id) (n off:Nat):(PV.ad id n off).cells=[.ad id n off]:=aR rfl
@[go_sem] theorem ac0 (k:IntKind) (n:Int):(Tr.int k n).cells=[.int k n]:=aR rfl
@[go_sem] theorem abK (b:Bool):(Tr.bool b).cells=[.bool b]:=aR rfl
@[go_sem] theorem aeu (nn:Bool) (l:List Tr):(Tr.sl nn l).cells=[.sl nn l]:=aR rfl
@[go_sem] theorem ac1 (l:List Tr):(Tr.agg l).cells=l:=aR rfl
@[go_sem] theorem agS (k:IntKind) (n:Int):(PV.t (.int k n)).one=true:=aR rfl
@[go_sem] theorem afL (b:Bool):(PV.t (.bool b)).one=true:=aR rfl
@[go_sem] theorem aio (nn:Bool) (l:List Tr):(PV.t (.sl nn l)).one=true:=aR rfl
@[go_sem] theorem aip (f:FuncId) (l:List Tr):(PV.t (.fn f l)).one=true:=aR rfl
@[go_sem] theorem afM:(PV.t .uq).one=true:=aR rfl
@[go_sem] theorem aiq (id:Id) (n:Nat):(PV.rf id n).one=true:=aR rfl
@[go_sem] theorem air (id:Id) (n off:Nat):(PV.ad id n off).one=true:=aR rfl
@[go_sem] theorem aev:trees []=some []:=aR rfl
@[go_sem] theorem ac2 (x:Tr) (l:List PV):trees (.t x::l)=(trees l).map (x::·):=by simp only[trees];cases trees l<;>rfl
@[go_sem] theorem UQ (l:List Tr):trees (l.map .t)=some l:=by induction l with|nil=>rfl|cons a l ih=>simp[trees,ih]
@[go_sem] theorem ac3 {l:List PV} (hl:(trees l).isSome=true):gV l=.t (.agg ((trees l).getD [])):=by
 unfold gV;cases h:trees l with
 |none=>rw[h]at hl;cases hl
 |some ts=>rfl
@[go_sem] theorem ac4 {l:List PV} (hl:(trees l).isSome=true):tV l=.t (.tup ((trees l).getD [])):=by
 unfold tV;cases h:trees l with
 |none=>rw[h]at hl;cases hl
 |some ts=>rfl
@[go_sem] theorem aew {f:FuncId}{l:List PV} (hl:(trees (l.map PV.lift)).isSome=true):C9 f l=.t (.fn f ((trees (l.map PV.lift)).getD [])):=by
 unfold C9;cases h:trees (l.map PV.lift) with
 |none=>rw[h]at hl;cases hl
 |some ts=>rfl
attribute [go_sem] Option.getD_some
@[go_sem] theorem abL (l:List PV):(gV l).cells=l:=by
 unfold gV;cases h:trees l with
 |none=>rfl
 |some ts=>rw[kY h];rfl
def Y9 (x:Option (List Tr)):Option Tr:=match x with|some ts=>some (.agg ts)|none=>none
@[go_sem] theorem aex (ts:List Tr):Y9 (some ts)=some (.agg ts):=aR rfl
theorem RS (k:Nat) (l:List PV):aS h (k+1) (gV l)=Y9 (bA (aS h k) l):=by
 unfold gV;cases e:trees l with
 |none=>rfl
 |some ts=>rw[kY e,yY];rfl
@[go_sem] theorem YI (l:List PV):aS h dep (gV l)=Y9 (bA (aS h 5) l):=RS 5 l
@[go_sem] theorem agT (x:Tr):(PV.t x).isRef=false:=aR rfl
@[go_sem] theorem afN (x:List Tr):(PV.ro x).isRef=false:=aR rfl
@[go_sem] theorem afO (id:Id) (n:Nat):(PV.rf id n).isRef=true:=aR rfl
@[go_sem] theorem afP (id:Id) (n off:Nat):(PV.ad id n off).isRef=true:=aR rfl
@[go_sem] theorem aey (t:Tmp):outer mu (.tmp t)=mu t:=aR rfl
@[go_sem] theorem abM (v:Value):outer mu (.const v)=false:=aR rfl
@[go_sem] theorem aez (t:Tmp):Pg mu (.tmp t)=mu (2000000+t):=aR rfl
theorem uH (l:List PV) (off:Nat) (vs:List PV):splice l off vs=l.take off++vs++l.drop (off+vs.length):=rfl
@[go_sem] theorem ac5 (l:List PV) (n:Nat) (vs:List PV):splice l (no_index (OfNat.ofNat n)) vs=l.take (OfNat.ofNat n)++vs++l.drop (OfNat.ofNat n+vs.length):=aR rfl
theorem ny {α:Type} (l:List α) (k:Nat) (a:α) (hk:k < l.length):l.take k++[a]++l.drop (k+1)=l.set k a:=by
 induction l generalizing k with
 |nil=>simp at hk
 |cons b l ih =>
  cases k with
  |zero=>rfl
  |succ k=>simp only[List.take_succ_cons,List.cons_append,List.drop_succ_cons,List.set_cons_succ];rw[<- ih k (by simpa using hk)]
@[go_sem] theorem abN {kd:IntKind}{k:Nat}{cur:List Int}{x:Int} (hk:k < cur.length):splice ((cur.map (Tr.int kd)).map .t) k [.t (.int kd x)]=((cur.set k x).map (Tr.int kd)).map .t:=by
 rw[uH,List.map_set,List.map_set];exact ny _ k _ (by simpa using hk)
attribute [go_sem] Nat.mul_one
@[go_sem] theorem aeA (kd:IntKind) (n:Nat):gX [Tr.int kd 0] n=(List.replicate n (0:Int)).map (Tr.int kd):=by
 induction n with
 |zero=>rfl
 |succ n ih=>simp only[gX,ih,List.replicate_succ,List.map_cons,List.cons_append,List.nil_append]
def KL (ag:Option Bool) (n:Nat) (p:PV) (h:Hp):Option PV:=match ag,p with
 |some true,.ro cs=>if (cs.take n).length=n then some (.t (.agg (cs.take n))) else none
 |some false,.ro (c::_)=>some (.t c)
 |some true,.ad id m off=>match hget h id with
  |some o=>if o.len=m/\((o.cs.drop off).take n).length=n then some (gV ((o.cs.drop off).take n)) else none
  |none=>none
 |some false,.ad id m off=>match hget h id with
  |some o=>if o.len=m then o.cs[off]? else none
  |none=>none
 |_,_=>none
@[go_sem] theorem afQ (t:TypeId) (p:PV):gB P t p h=KL (bR P t) (P.cellsOf t) p h:=aR rfl
@[go_sem] theorem abq (n:Nat) (cs:List Tr):KL (some true) n (.ro cs) h=if (cs.take n).length=n then some (.t (.agg (cs.take n))) else none:=aR rfl
@[go_sem] theorem afR (n:Nat) (c:Tr) (cs:List Tr):KL (some false) n (.ro (c::cs)) h=some (.t c):=aR rfl
def ldO (o:Option Obj) (m off:Nat):Option PV:=match o with|some o=>if o.len=m then o.cs[off]? else none|none=>none
def ldA (o:Option Obj) (m off n:Nat):Option PV:=match o with|some o=>if o.len=m/\((o.cs.drop off).take n).length=n then some (gV ((o.cs.drop off).take n)) else none|none=>none
@[go_sem] theorem afS (n:Nat) (id:Id) (m off:Nat):KL (some false) n (.ad id m off) h=ldO (hget h id) m off:=aR rfl
@[go_sem] theorem abr (n:Nat) (id:Id) (m off:Nat):KL (some true) n (.ad id m off) h=ldA (hget h id) m off n:=aR rfl
@[go_sem] theorem afT (o:Obj) (m off:Nat):ldO (some o) m off=if o.len=m then o.cs[off]? else none:=aR rfl
@[go_sem] theorem afU (o:Obj) (m off n:Nat):ldA (some o) m off n=if o.len=m/\((o.cs.drop off).take n).length=n then some (gV ((o.cs.drop off).take n)) else none:=aR rfl
def stX (o:Option Obj) (h:Hp) (id:Id) (m off:Nat) (ok:Bool) (n:Nat) (cs:List PV):Option Hp:=match o with
 |some o=>if o.len=m/\o.live=true/\ok=true/\cs.length=n/\off+cs.length<=o.cs.length/\cs.all PV.one=true then some (hset h id { o with cs:=splice o.cs off cs }) else none
 |none=>none
@[go_sem] theorem aeB (t:TypeId) (id:Id) (m off:Nat) (v:PV):lH P t (.ad id m off) v h=stX (hget h id) h id m off (P.info? t).isSome (P.cellsOf t) v.cells:=aR rfl
@[go_sem] theorem afV (o:Obj) (id:Id) (m off:Nat) (ok:Bool) (n:Nat) (cs:List PV):stX (some o) h id m off ok n cs=if o.len=m/\o.live=true/\ok=true/\cs.length=n/\off+cs.length<=o.cs.length/\cs.all PV.one=true then some (hset h id { o with cs:=splice o.cs off cs }) else none:=aR rfl
def Za (o:Option Obj) (n:Nat):Bool:=match o with|some o=>o.len==n|none=>false
@[go_sem] theorem agU (id:Id) (n:Nat):valid h id n=Za (hget h id) n:=aR rfl
@[go_sem] theorem aeC (o:Obj) (n:Nat):Za (some o) n=(o.len==n):=aR rfl
def AA (f:Option (Nat × TypeId)) (p:PV) (h:Hp):Option PV:=match f with
 |some (off,_)=>(match p with
  |.ro cs=>some (.ro (cs.drop off))
  |.ad id n o=>if valid h id n then some (.ad id n (o+off)) else none
  |_=>none)
 |none=>none
@[go_sem] theorem Zb (t:TypeId) (i:Nat) (p:PV):dV P t i p h=AA (bU P t i) p h:=aR rfl
@[go_sem] theorem Zc (off:Nat) (ft:TypeId) (cs:List Tr):AA (some (off,ft)) (.ro cs) h=some (.ro (cs.drop off)):=aR rfl
@[go_sem] theorem Zd (off:Nat) (ft:TypeId) (id:Id) (n o:Nat):AA (some (off,ft)) (.ad id n o) h=if valid h id n=true then some (.ad id n (o+off)) else none:=aR rfl
@[go_sem] theorem Ze (cs:List Tr):pO h (.ro cs)=some (.ro cs):=aR rfl
@[go_sem] theorem Zf (id:Id) (n off:Nat):pO h (.ad id n off)=if valid h id n=true then some (.ad id n off) else none:=aR rfl
def Ww (e:Option TypeId) (P:Program) (y:Option Tr) (i:Int):Option PV:=match e with
 |some e=>if 0<=i then (match y with|some y=>if y.cells.length=P.cellsOf e/\0 < P.cellsOf e then some (.ro y.cells) else none|none=>none) else none
 |none=>none
def Zg (e:Option TypeId) (P:Program) (o:Option Obj) (id:Id) (n:Nat) (i:Int):Option PV:=match e with
 |some e=>(match o with|some o=>if o.len=n/\o.esz=P.cellsOf e/\0<=i/\i.toNat < n then some (.ad id n (i.toNat*o.esz)) else none|none=>none)
 |none=>none
@[go_sem] theorem YJ (t:TypeId) (nn:Bool) (l:List Tr) (k:IntKind) (i:Int):bP P t (.t (.sl nn l)) (.t (.int k i)) h=Ww (bg P t) P l[i.toNat]? i:=by
 unfold bP Ww;cases bg P t<;>rfl
@[go_sem] theorem YK (t:TypeId) (id:Id) (n:Nat) (k:IntKind) (i:Int):bP P t (.rf id n) (.t (.int k i)) h=Zg (bg P t) P (hget h id) id n i:=by
 unfold bP Zg;cases bg P t<;>rfl
@[go_sem] theorem aeD (e:TypeId) (y:Tr) (i:Int):Ww (some e) P (some y) i=if 0<=i/\y.cells.length=P.cellsOf e/\0 < P.cellsOf e then some (.ro y.cells) else none:=by
 unfold Ww;by_cases h1:0<=i<;>simp[h1]
@[go_sem] theorem aeE (e:TypeId) (o:Obj) (id:Id) (n:Nat) (i:Int):Zg (some e) P (some o) id n i=if o.len=n/\o.esz=P.cellsOf e/\0<=i/\i.toNat < n then some (.ad id n (i.toNat*o.esz)) else none:=aR rfl
def PK (f:Option (Nat × TypeId)) (P:Program) (p:PV):Option PV:=match f with
 |some (off,ft)=>(match bR P ft,p with
  |some true,.t (.agg l)=>some (.t (.agg ((l.drop off).take (P.cellsOf ft))))
  |some false,.t (.agg l)=>(match l[off]? with|some x=>some (.t x)|none=>none)
  |some true,.agg l=>some (gV ((l.drop off).take (P.cellsOf ft)))
  |some false,.agg l=>l[off]?
  |_,_=>none)
 |none=>none
def fld (ag:Option Bool) (n off:Nat) (p:PV):Option PV:=match ag,p with
 |some true,.t (.agg l)=>some (.t (.agg ((l.drop off).take n)))
 |some false,.t (.agg l)=>(l[off]?).map .t
 |some true,.agg l=>some (gV ((l.drop off).take n))
 |some false,.agg l=>l[off]?
 |_,_=>none
@[go_sem] theorem aeF (t:TypeId) (i:Nat) (p:PV):Ak P t i p=PK (bU P t i) P p:=aR rfl
@[go_sem] theorem abO (off:Nat) (ft:TypeId) (p:PV):PK (some (off,ft)) P p=fld (bR P ft) (P.cellsOf ft) off p:=by
 unfold PK fld;simp only;generalize bR P ft=ag;cases ag with
 |none=>rfl
 |some b =>
  cases b with
  |true=>cases p with
   |t y=>cases y<;>rfl
   |_=>rfl
  |false=>cases p with
   |t y=>cases y with
    |agg l=>simp only;cases l[off]?<;>rfl
    |_=>rfl
   |_=>rfl
@[go_sem] theorem ais (n off:Nat) (l:List Tr):fld (some false) n off (.t (.agg l))=(l[off]?).map .t:=aR rfl
@[go_sem] theorem abP (l:List Tr) (i:Nat):o9 (.t (.tup l)) i=(l[i]?).map .t:=by
 unfold o9;cases h:l[i]?<;>simp[h]
@[go_sem] theorem abQ (l:List PV) (i:Nat):o9 (.tup l) i=l[i]?:=aR rfl
section
variable (t:TypeId) (k:IntKind) (a b:Int)
@[go_sem] theorem Zi:cK P h .add t (.t (.int k a)) (.t (.int k b))=some (.t (.int k (k.wrap (a+b)))):=by simp[cK,arith]
@[go_sem] theorem agV:cK P h .sub t (.t (.int k a)) (.t (.int k b))=some (.t (.int k (k.wrap (a-b)))):=by simp[cK,arith]
@[go_sem] theorem agW:cK P h .mul t (.t (.int k a)) (.t (.int k b))=some (.t (.int k (k.wrap (a*b)))):=by simp[cK,arith]
@[go_sem] theorem agX:cK P h .quo t (.t (.int k a)) (.t (.int k b))=if b=0 then none else some (.t (.int k (k.wrap (a.tdiv b)))):=by simp[cK,arith]
@[go_sem] theorem agY:cK P h .rem t (.t (.int k a)) (.t (.int k b))=if b=0 then none else some (.t (.int k (a.tmod b))):=by simp[cK,arith]
@[go_sem] theorem KM:cK P h .and t (.t (.int k a)) (.t (.int k b))=some (.t (.int k (k.wrap ((BitVec.ofInt k.bits a &&& BitVec.ofInt k.bits b).toNat)))):=by simp[cK,arith]
@[go_sem] theorem PL:cK P h .or t (.t (.int k a)) (.t (.int k b))=some (.t (.int k (k.wrap ((BitVec.ofInt k.bits a ||| BitVec.ofInt k.bits b).toNat)))):=by simp[cK,arith]
@[go_sem] theorem Zj:cK P h .xor t (.t (.int k a)) (.t (.int k b))=some (.t (.int k (k.wrap ((BitVec.ofInt k.bits a ^^^ BitVec.ofInt k.bits b).toNat)))):=by simp[cK,arith]
@[go_sem] theorem agZ:cK P h .eql t (.t (.int k a)) (.t (.int k b))=some (.t (.bool (a==b))):=by simp[cK,arith]
@[go_sem] theorem ag0:cK P h .neq t (.t (.int k a)) (.t (.int k b))=some (.t (.bool (a != b))):=by simp[cK,arith]
@[go_sem] theorem Zk:cK P h .lss t (.t (.int k a)) (.t (.int k b))=some (.t (.bool (decide (a < b)))):=by simp[cK,arith]
@[go_sem] theorem ag1:cK P h .leq t (.t (.int k a)) (.t (.int k b))=some (.t (.bool (decide (a<=b)))):=by simp[cK,arith]
@[go_sem] theorem ag5:cK P h .gtr t (.t (.int k a)) (.t (.int k b))=some (.t (.bool (decide (a > b)))):=by simp[cK,arith]
@[go_sem] theorem ag6:cK P h .geq t (.t (.int k a)) (.t (.int k b))=some (.t (.bool (decide (a>=b)))):=by simp[cK,arith]
@[go_sem] theorem ag7 (k':IntKind):cK P h .shl t (.t (.int k a)) (.t (.int k' b))=if b < 0 then none else some (.t (.int k (k.wrap (a*2 ^ (min b.toNat k.bits))))):=by simp[cK,xO]
@[go_sem] theorem RU (k':IntKind):cK P h .shr t (.t (.int k a)) (.t (.int k' b))=if b < 0 then none else some (.t (.int k (a.fdiv (2 ^ (min b.toNat k.bits))))):=by simp[cK,xO]
@[go_sem] theorem ait:Ig .neg (.t (.int k a))=some (.t (.int k (k.wrap (0-a)))):=aR rfl
@[go_sem] theorem aiu (x:Bool):Ig .not (.t (.bool x))=some (.t (.bool (!x))):=aR rfl
end
def bEq (isB:Bool) (x:Bool):Option PV:=if isB=true then some (.t (.bool x)) else none
@[go_sem] theorem afW (t:TypeId) (a b:Bool):cK P h .eql t (.t (.bool a)) (.t (.bool b))=bEq (Aj P t) (a==b):=by simp[cK,bEq]
@[go_sem] theorem afX (t:TypeId) (a b:Bool):cK P h .neq t (.t (.bool a)) (.t (.bool b))=bEq (Aj P t) (a != b):=by simp[cK,bEq]
@[go_sem] theorem afY (x:Bool):bEq true x=some (.t (.bool x)):=aR rfl
def ac6 (e:Option TypeId) (b:Option Bool):Option PV:=match e,b with|some _,some b=>some (.t (.bool b))|_,_=>none
@[go_sem] theorem aeG (e:TypeId) (b:Bool):ac6 (some e) (some b)=some (.t (.bool b)):=aR rfl
@[go_sem] theorem aeH (t:TypeId) (nn:Bool) (l:List Tr):cK P h .eql t (.t (.sl nn l)) (.t (.sl false []))=ac6 (bg P t) (some (!nn)):=by
 simp only[cK,nk];cases bg P t<;>rfl
def UR (a b:Option IntKind) (n:Int):Option PV:=match a,b with|some _,some k=>some (.t (.int k (k.wrap n)))|_,_=>none
@[go_sem] theorem aiv (dst src:TypeId) (k:IntKind) (n:Int):Ci P dst src (.t (.int k n))=UR (uw P src) (uw P dst) n:=by
 unfold Ci UR;cases uw P src<;>cases uw P dst<;>rfl
@[go_sem] theorem ac7 (a b:IntKind) (n:Int):UR (some a) (some b) n=some (.t (.int b (b.wrap n))):=aR rfl
def yc (ag:Option Bool) (n:Nat) (m:Bool) (d:Tmp) (t:TypeId) (cs:List PV) (h:Hp):Option (PV × Hp):=match ag with
 |some ag=>if cs.length=n/\0 < n/\(ag=true\/n=1)/\cs.all PV.one=true then
   if m then some (.ad (hnext h d) 1 0,hnew h d ⟨cs,n,1,t,ag,true⟩)
   else match trees cs with|some ts=>some (.ro ts,h)|none=>none
  else none
 |none=>none
@[go_sem] theorem ac8 (d:Tmp) (t:TypeId) (cs:List PV):iC P mu (some d) t cs h=yc (bR P t) (P.cellsOf t) (mu d) d t cs h:=by
 unfold iC yc;cases bR P t<;>rfl
def roX (ts:Option (List Tr)) (h:Hp):Option (PV × Hp):=match ts with|some ts=>some (.ro ts,h)|none=>none
@[go_sem] theorem afZ (ts:List Tr):roX (some ts) h=some (.ro ts,h):=aR rfl
@[go_sem] theorem aeI (ag:Bool) (n:Nat) (d:Tmp) (t:TypeId) (cs:List PV):yc (some ag) n false d t cs h=if cs.length=n/\0 < n/\(ag=true\/n=1)/\cs.all PV.one=true then roX (trees cs) h else none:=by
 simp only[yc,roX,Bool.false_eq_true,if_false]
@[go_sem] theorem aeJ (ag:Bool) (n:Nat) (d:Tmp) (t:TypeId) (cs:List PV):yc (some ag) n true d t cs h=if cs.length=n/\0 < n/\(ag=true\/n=1)/\cs.all PV.one=true then some (.ad (hnext h d) 1 0,hnew h d ⟨cs,n,1,t,ag,true⟩) else none:=by
 simp only[yc,if_true]
def yh (ag:Option Bool) (n:Nat) (m:Bool) (d:Tmp) (e:TypeId) (len:Nat) (cs:List PV) (h:Hp):Option (PV × Hp):=match ag with
 |some ag=>if ag=false/\n≠1 then none else
  if m then some (.rf (hnext h d) len,hnew h d ⟨cs,n,len,e,ag,true⟩)
  else match trees cs with|some ts=>some (.t (.sl true (elems ag n len ts)),h)|none=>none
 |none=>none
@[go_sem] theorem ac9 (d:Tmp) (e:TypeId) (len:Nat) (cs:List PV):dG P mu (some d) e len cs h=yh (bR P e) (P.cellsOf e) (mu d) d e len cs h:=by
 unfold dG yh;cases bR P e<;>rfl
def slX (ag:Bool) (n len:Nat) (ts:Option (List Tr)) (h:Hp):Option (PV × Hp):=match ts with|some ts=>some (.t (.sl true (elems ag n len ts)),h)|none=>none
@[go_sem] theorem af0 (ag:Bool) (n len:Nat) (ts:List Tr):slX ag n len (some ts) h=some (.t (.sl true (elems ag n len ts)),h):=aR rfl
@[go_sem] theorem aeK (ag:Bool) (n:Nat) (d:Tmp) (e:TypeId) (len:Nat) (cs:List PV):yh (some ag) n false d e len cs h=if ag=false/\n≠1 then none else slX ag n len (trees cs) h:=by
 simp only[yh,slX,Bool.false_eq_true,if_false]
@[go_sem] theorem aeL (ag:Bool) (n:Nat) (d:Tmp) (e:TypeId) (len:Nat) (cs:List PV):yh (some ag) n true d e len cs h=if ag=false/\n≠1 then none else some (.rf (hnext h d) len,hnew h d ⟨cs,n,len,e,ag,true⟩):=by
 simp only[yh,if_true]
@[go_sem] theorem ag8 (n len:Nat) (ts:List Tr):elems false n len ts=ts:=aR rfl
@[go_sem] theorem ag9 (n len:Nat) (ts:List Tr):elems true n len ts=chunk n len ts:=aR rfl
@[go_sem] theorem ada (n:Nat) (ts:List Tr):chunk n 0 ts=[]:=aR rfl
@[go_sem] theorem adb (n len:Nat) (ts:List Tr):chunk n (len+1) ts=.agg (ts.take n)::chunk n len (ts.drop n):=aR rfl
@[go_sem] theorem aeM (z:List Tr):gX z 0=[]:=aR rfl
@[go_sem] theorem aeN (z:List Tr) (n:Nat):gX z (n+1)=z++gX z n:=aR rfl
def fpX (q:Option (Nat × Nat)) (place:Nat->Option (Nat × Nat)) (cells:List PV) (v:PV) (rest:List (Nat × PV)):Option (List PV):=match q with
 |some (off,size)=>if v.cells.length=size/\off+v.cells.length<=cells.length/\v.cells.all PV.one=true then jr place (splice cells off v.cells) rest else none
 |none=>none
@[go_sem] theorem ade (place:Nat->Option (Nat × Nat)) (cells:List PV):jr place cells []=some cells:=aR rfl
@[go_sem] theorem abR (place:Nat->Option (Nat × Nat)) (cells:List PV) (i:Nat) (v:PV) (rest:List (Nat × PV)):jr place cells ((i,v)::rest)=fpX (place i) place cells v rest:=aR rfl
@[go_sem] theorem af2 (off size:Nat) (place:Nat->Option (Nat × Nat)) (cells:List PV) (v:PV) (rest:List (Nat × PV)):fpX (some (off,size)) place cells v rest=if v.cells.length=size/\off+v.cells.length<=cells.length/\v.cells.all PV.one=true then jr place (splice cells off v.cells) rest else none:=aR rfl
def PN (pl:Option (List (Nat × Nat))) (z:Option (List Tr)) (parts:List (Nat × PV)):Option PV:=match pl,z with
 |some pl,some z=>(jr (fun i=>pl[i]?) (z.map .t) parts).map gV
 |_,_=>none
@[go_sem] theorem aeO (t:TypeId) (parts:List (Nat × PV)):xP P t parts=PN (gW P t) (aW P t) parts:=by
 unfold xP PN;cases gW P t with
 |none=>rfl
 |some pl =>
  cases aW P t with
  |none=>rfl
  |some z=>simp only;cases jr (fun i=>pl[i]?) (z.map .t) parts<;>rfl
@[go_sem] theorem abS (pl:List (Nat × Nat)) (z:List Tr) (parts:List (Nat × PV)):PN (some pl) (some z) parts=(jr (fun i=>pl[i]?) (z.map .t) parts).map gV:=aR rfl
def bsX (e:TypeId) (n:Nat) (len:Nat) (P:Program) (mu:Nat->Bool) (d:Option Tmp) (cs:Option (List PV)) (h:Hp):Option (PV × Hp):=match cs with
 |some cs=>if cs.all PV.one=true then dG P mu d e len cs h else none
 |none=>none
@[go_sem] theorem af3 (e:TypeId) (n len:Nat) (d:Option Tmp) (cs:List PV):bsX e n len P mu d (some cs) h=if cs.all PV.one=true then dG P mu d e len cs h else none:=aR rfl
def zh (e:Option TypeId) (P:Program) (mu:Nat->Bool) (d:Option Tmp) (len:Nat) (parts:List (Nat × PV)) (h:Hp):Option (PV × Hp):=match e with
 |some e=>(match aW P e with
  |some z=>if z.length=P.cellsOf e/\0 < P.cellsOf e/\len*P.cellsOf e<=16777216 then bsX e (P.cellsOf e) len P mu d (jr (fun i=>some (i*P.cellsOf e,P.cellsOf e)) ((gX z len).map .t) parts) h else none
  |none=>none)
 |none=>none
def bsZ (z:Option (List Tr)) (n:Nat) (e:TypeId) (P:Program) (mu:Nat->Bool) (d:Option Tmp) (len:Nat) (parts:List (Nat × PV)) (h:Hp):Option (PV × Hp):=match z with
 |some z=>if z.length=n/\0 < n/\len*n<=16777216 then bsX e n len P mu d (jr (fun i=>some (i*n,n)) ((gX z len).map .t) parts) h else none
 |none=>none
@[go_sem] theorem YL (t:TypeId) (d:Option Tmp) (len:Nat) (parts:List (Nat × PV)):jT P mu d t len parts h=zh (bg P t) P mu d len parts h:=by
 unfold jT zh;cases bg P t with
 |none=>rfl
 |some e =>
  simp only;cases aW P e with
  |none=>rfl
  |some z =>
   simp only;split
   ·cases jr (fun i=>some (i*P.cellsOf e,P.cellsOf e)) ((gX z len).map .t) parts<;>rfl
   ·rfl
@[go_sem] theorem Wx (e:TypeId) (d:Option Tmp) (len:Nat) (parts:List (Nat × PV)):zh (some e) P mu d len parts h=bsZ (aW P e) (P.cellsOf e) e P mu d len parts h:=aR rfl
@[go_sem] theorem af4 (z:List Tr) (n:Nat) (e:TypeId) (d:Option Tmp) (len:Nat) (parts:List (Nat × PV)):bsZ (some z) n e P mu d len parts h=if z.length=n/\0 < n/\len*n<=16777216 then bsX e n len P mu d (jr (fun i=>some (i*n,n)) ((gX z len).map .t) parts) h else none:=aR rfl
def msX (e:Option TypeId) (P:Program) (mu:Nat->Bool) (d:Option Tmp) (n m:Int) (h:Hp):Option (PV × Hp):=match e with
 |some e=>(match aW P e with
  |some z=>if z.length=P.cellsOf e/\0 < P.cellsOf e/\m=n/\0<=n/\n*P.bytesOf e<=281474976710656/\n<=4611686018427387904 then dG P mu d e n.toNat ((gX z n.toNat).map .t) h else none
  |none=>none)
 |none=>none
def msZ (z:Option (List Tr)) (c by_:Nat) (e:TypeId) (P:Program) (mu:Nat->Bool) (d:Option Tmp) (n m:Int) (h:Hp):Option (PV × Hp):=match z with
 |some z=>if z.length=c/\0 < c/\m=n/\0<=n/\n*by_<=281474976710656/\n<=4611686018427387904 then dG P mu d e n.toNat ((gX z n.toNat).map .t) h else none
 |none=>none
@[go_sem] theorem Zl (t:TypeId) (d:Option Tmp) (n m:Int):kJ P mu d t (.t (.int .i64 n)) (.t (.int .i64 m)) h=msX (bg P t) P mu d n m h:=by
 unfold kJ msX;cases bg P t<;>rfl
@[go_sem] theorem af5 (e:TypeId) (d:Option Tmp) (n m:Int):msX (some e) P mu d n m h=msZ (aW P e) (P.cellsOf e) (P.bytesOf e) e P mu d n m h:=aR rfl
@[go_sem] theorem af6 (z:List Tr) (c by_:Nat) (e:TypeId) (d:Option Tmp) (n m:Int):msZ (some z) c by_ e P mu d n m h=if z.length=c/\0 < c/\m=n/\0<=n/\n*by_<=281474976710656/\n<=4611686018427387904 then dG P mu d e n.toNat ((gX z n.toNat).map .t) h else none:=aR rfl
def Dg (is el:Bool) (h:Hp) (x:PV):Option PV:=if is=true then (match x with|.t (.str b)=>some (.t (.int .i64 b.size))|_=>none) else if el=true then rF h x else none
@[go_sem] theorem aha (nn:Bool) (l:List Tr):Dg false true h (.t (.sl nn l))=some (.t (.int .i64 l.length)):=aR rfl
@[go_sem] theorem ahb (id:Id) (n:Nat):Dg false true h (.rf id n)=if valid h id n=true then some (.t (.int .i64 n)) else none:=aR rfl
variable {dr:Bool}{all os:List Oper}{d:Option Tmp}{ty:TypeId}{ps:String}{af:Array Edge}
theorem GQ (x:Operand) (t:TypeId):evalOp P mu ⟨d,.call ⟨.builtin .len,#[x],#[t]⟩,ty,ps,af,none⟩ s=still (Dg (fT P t) (bg P t).isSome s.hp (ev s.sl x)) s.hp:=by
 simp only[evalOp,Dg];split
 ·generalize ev s.sl x=u
  cases u with
  |t y=>cases y<;>rfl
  |_=>rfl
 ·split<;>rfl
@[go_sem ↓] theorem af7 (x:Operand) (t:TypeId):aI P mu F (.ops false all (⟨d,.call ⟨.builtin .len,#[x],#[t]⟩,ty,ps,af,none⟩::os)::r) .normal s=stK P mu F (Dg (fT P t) (bg P t).isSome s.hp (ev s.sl x)) d (.ops false all os::r) s:=by
 rw[kH rfl rfl,GQ];exact eB _
@[go_sem] theorem aeP (t:Tmp):Kq mu (some t)=mu (6000000+t):=aR rfl
theorem NY (x:Operand) (t:TypeId) (ty:TypeId) (ps:String) (af:Array Edge):bare mu ⟨d,.call ⟨.builtin .len,#[x],#[t]⟩,ty,ps,af,none⟩ s.sl=((!Kq mu d||awY mu (ev s.sl x))&&(outer mu x||!(ev s.sl x).isRef)):=by
 show ((!Kq mu d||awY mu (ev s.sl x))&&true&&(outer mu x||!(ev s.sl x).isRef))=_
 simp
@[go_sem ↓] theorem aeQ (x:Operand) (t:TypeId) (h6:Kq mu d=false):aI P mu F (.ops true all (⟨d,.call ⟨.builtin .len,#[x],#[t]⟩,ty,ps,af,none⟩::os)::r) .normal s=drK (outer mu x||!(ev s.sl x).isRef) (stK P mu F (Dg (fT P t) (bg P t).isSome s.hp (ev s.sl x)) d (.ops true all os::r) s):=by
 rw[ji rfl rfl,GQ,NY,h6];exact congrArg _ (eB _)
@[go_sem ↓] theorem aeR (x:Operand) (t:TypeId) (h6:Kq mu d=true):aI P mu F (.ops true all (⟨d,.call ⟨.builtin .len,#[x],#[t]⟩,ty,ps,af,none⟩::os)::r) .normal s=drK (awY mu (ev s.sl x)&&(outer mu x||!(ev s.sl x).isRef)) (stK P mu F (Dg (fT P t) (bg P t).isSome s.hp (ev s.sl x)) d (.ops true all os::r) s):=by
 rw[ji rfl rfl,GQ,NY,h6];exact congrArg _ (eB _)
theorem IG (t:TypeId) (q:PV):DL P t t q=q:=by unfold DL;rw[if_pos rfl]
theorem RX {t u:TypeId} (q:PV) (h:(t==u)=false):DL P t u q=ofMake P t u q:=by unfold DL;rw[if_neg (by simpa using h)]
theorem Fh (x y:Operand) (t u:TypeId) (ty:TypeId) (ps:String) (af:Array Edge):bare mu ⟨d,.call ⟨.builtin .append,#[x,y],#[t,u]⟩,ty,ps,af,none⟩ s.sl=apX mu d (ev s.sl x) (ev s.sl y):=by
 show (apX mu d (ev s.sl x) (ev s.sl y)&&true&&true)=_
 simp
@[go_sem ↓] theorem abT (x y:Operand) (t:TypeId):aI P mu F (.ops false all (⟨d,.call ⟨.builtin .append,#[x,y],#[t,t]⟩,ty,ps,af,none⟩::os)::r) .normal s=hpK P mu F (aT P mu d t (ev s.sl x) (ev s.sl y) s.hp) d (.ops false all os::r) s:=by
 rw[kH rfl rfl];simp only[evalOp,IG]
@[go_sem ↓] theorem abt (x y:Operand) (t:TypeId):aI P mu F (.ops true all (⟨d,.call ⟨.builtin .append,#[x,y],#[t,t]⟩,ty,ps,af,none⟩::os)::r) .normal s=drK (apX mu d (ev s.sl x) (ev s.sl y)) (hpK P mu F (aT P mu d t (ev s.sl x) (ev s.sl y) s.hp) d (.ops true all os::r) s):=by
 rw[ji rfl rfl,Fh];simp only[evalOp,IG]
@[go_sem ↓] theorem Zm (x y:Operand) (t u:TypeId) (h:(t==u)=false):aI P mu F (.ops true all (⟨d,.call ⟨.builtin .append,#[x,y],#[t,u]⟩,ty,ps,af,none⟩::os)::r) .normal s=drK (apX mu d (ev s.sl x) (ev s.sl y)) (hpK P mu F (aT P mu d t (ev s.sl x) (ofMake P t u (ev s.sl y)) s.hp) d (.ops true all os::r) s):=by
 rw[ji rfl rfl,Fh];simp only[evalOp,RX _ h]
def ofX (k:Option IntKind) (e:Option TypeId) (q:PV):PV:=match q,k,e with
 |.t (.int .i64 n),some .i64,some e=>Gt (P.bytesOf e) (aW P e) n
 |_,_,_=>.undef
@[go_sem] theorem af8 (t u:TypeId) (q:PV):ofMake P t u q=ofX (P:=P) (uw P u) (bg P t) q:=aR rfl
@[go_sem] theorem af9 (e:TypeId) (n:Int):ofX (P:=P) (some .i64) (some e) (.t (.int .i64 n))=Gt (P.bytesOf e) (aW P e) n:=aR rfl
@[go_sem] theorem adf (b:Nat) (z:List Tr) (n:Nat):Gt b (some z) (n:Int)=if n<=1099511627776/\n*b<=140737488355328 then .t (.sl true (List.replicate n (zEl z))) else .undef:=by
 unfold Gt;simp only[Int.toNat_natCast]
 by_cases h:n<=1099511627776/\n*b<=140737488355328
 ·rw[if_pos h,if_pos ⟨by omega,by omega,h.2⟩]
 ·rw[if_neg h,if_neg (fun h2=>h ⟨by omega,h2.2.2⟩)]
@[go_sem] theorem ahc (k:IntKind) (n:Int):zEl [.int k n]=.int k n:=aR rfl
@[go_sem] theorem aiw (p q:PV) (h:mu 3999999=false):apX mu d p q=true:=by unfold apX;rw[h];rfl
theorem fC (q:Tr) (d:Nat) (id:Id) (n:Nat) (h:mu (3000000+id.1)=true):apX mu (some d) (.rf id n) (.t q)=true:=by simp[apX,h]
theorem jI (d:Nat) (id id':Id) (n n':Nat) (h:mu (3000000+id.1)=true) (h2:(id'.1==d)=false):apX mu (some d) (.rf id n) (.rf id' n')=true:=by
 have:id'.1≠d:=by simpa using h2
 simp[apX,h,this]
theorem jJ (d:Nat) (id':Id) (n':Nat) (h2:(id'.1==d)=false):apX mu (some d) (.t (.sl false [])) (.rf id' n')=true:=by
 have:id'.1≠d:=by simpa using h2
 simp[apX,this]
theorem RY (q:Tr) (d:Nat):apX mu (some d) (.t (.sl false [])) (.t q)=true:=by simp[apX]
@[go_sem ↓] theorem abu (t:TypeId):aI P mu F (.ops false all (⟨d,.makeMap t none,ty,ps,af,none⟩::os)::r) .normal s=hpK P mu F (rG P mu d t s.hp) d (.ops false all os::r) s:=by
 rw[kH rfl rfl];rfl
@[go_sem ↓] theorem adg (t:TypeId) (x:Operand):aI P mu F (.ops false all (⟨d,.range t x,ty,ps,af,none⟩::os)::r) .normal s=hpK P mu F (xR P mu d t (ev s.sl x) s.hp) d (.ops false all os::r) s:=by
 rw[kH rfl rfl];rfl
@[go_sem ↓] theorem adh (x:Operand):aI P mu F (.ops false all (⟨d,.entry x,ty,ps,af,none⟩::os)::r) .normal s=hpK P mu F (xQ (ev s.sl x) s.hp) d (.ops false all os::r) s:=by
 rw[kH rfl rfl];rfl
@[go_sem ↓] theorem abU (t:TypeId) (m k:Operand):aI P mu F (.ops dr all (⟨d,.lookup t m k false,ty,ps,af,none⟩::os)::r) .normal s=stK P mu F (nT P t (ev s.sl m) (ev s.sl k) s.hp) d (.ops dr all os::r) s:=by
 rw[gK rfl rfl rfl];exact eB _
@[go_sem ↓] theorem YM (t:TypeId) (m k x:Operand):aI P mu F (.ops dr all (⟨d,.mapUpdate t m k x,ty,ps,af,none⟩::os)::r) .normal s=wrK P mu F (je P t (ev s.sl m) (ev s.sl k) (ev s.sl x) s.hp) d (.ops dr all os::r) s:=by
 rw[gK rfl rfl rfl];simp only[evalOp];cases je P t (ev s.sl m) (ev s.sl k) (ev s.sl x) s.hp<;>rfl
theorem UU {x:Operand}{id:Id} (hx:ev s.sl x=.it id) (hok:Pj s id) (hk:∀s',Ph ⟨d,.next x false,ty,ps,af,none⟩ s id s'->aI P mu F (.ops false all os::r) .normal s') :
  aI P mu F (.ops false all (⟨d,.next x false,ty,ps,af,none⟩::os)::r) .normal s:=by
 simp only[aI,ql,opG,jv,opW,bN,sJ,kG];refine ⟨fun _=>?_,fun h=>by cases h⟩;rw[hx];exact ⟨rfl,hok,hk⟩
@[go_sem ↓] theorem aga (x y:Operand) (ts:Array TypeId):aI P mu F (.ops dr all (⟨d,.call ⟨.builtin .min,#[x,y],ts⟩,ty,ps,af,none⟩::os)::r) .normal s=stK P mu F (Gu (ev s.sl x) (ev s.sl y)) d (.ops dr all os::r) s:=by
 rw[gK rfl rfl rfl];exact eB _
@[go_sem ↓] theorem agb (x y:Operand) (ts:Array TypeId):aI P mu F (.ops dr all (⟨d,.call ⟨.builtin .max,#[x,y],ts⟩,ty,ps,af,none⟩::os)::r) .normal s=stK P mu F (Gv (ev s.sl x) (ev s.sl y)) d (.ops dr all os::r) s:=by
 rw[gK rfl rfl rfl];exact eB _
@[go_sem] theorem aeS (k:IntKind) (x y:Int):Gu (.t (.int k x)) (.t (.int k y))=some (.t (.int k (if y < x then y else x))):=by simp[Gu]
@[go_sem] theorem aeT (k:IntKind) (x y:Int):Gv (.t (.int k x)) (.t (.int k y))=some (.t (.int k (if x < y then y else x))):=by simp[Gv]
@[go_sem] theorem Zn (sl:Sl) (g:FuncId) (args:List Operand):mI sl (.func g) args=some (g,evs sl args):=by simp[mI,ev]
def KN (f:PV) (vs:List PV):Option (FuncId × List PV):=match f with
 |.t (.fn g caps)=>some (g,vs++caps.map .t)
 |.fn g caps=>some (g,vs++caps)
 |_=>none
@[go_sem] theorem abv (sl:Sl) (t:Tmp) (args:List Operand):mI sl (.tmp t) args=KN (sl t) (evs sl args):=aR rfl
@[go_sem] theorem aeU (g:FuncId) (caps:List Tr) (vs:List PV):KN (.t (.fn g caps)) vs=some (g,vs++caps.map .t):=aR rfl
@[go_sem] theorem adi (g:FuncId) (caps:List PV) (vs:List PV):KN (.fn g caps) vs=some (g,vs++caps):=aR rfl
theorem qx (k:Nat) (x:Tr):reach h k (.t x)=[]:=by cases k<;>rfl
theorem qy (k:Nat) (x:Tr):aS h k (.t x)=some x:=by cases k<;>rfl
theorem AB (ts:List Tr) (k:Nat):(ts.map PV.t).flatMap (reach h k)=[]:=by
 induction ts with
 |nil=>rfl
 |cons a l ih=>simp[qx,ih]
theorem aj {g:FuncId}{ts:List Tr}{x:Tr}{args:List PV} (hd:aB P g ts x) (ha:args=ts.map .t) (hk:aI P mu F r .normal (St.put s d (.t x))):clK P mu F dr d (some (g,args)) r s:=by
 subst ha;simp only[clK,mR];split
 ·exact .inl ⟨ts,x,UQ ts,hd,hk⟩
 ·refine .inl ⟨ts,x,yY ts,hd,?_⟩
  rw[AB];simp only[frz,List.foldl_nil,ite_self];exact hk
theorem Fj {g:FuncId}{ts:List Tr}{x:Tr}{args:List PV} (hd:aB P g ts x) (ha:bA (aS s.hp dep) args=some ts) (hs:x.scalar=true) (hk:aI P mu F r .normal (St.put s d (.t x))):clK P mu F false d (some (g,args)) r s:=by
 simp only[clK,mR,Bool.false_eq_true,if_false];exact .inl ⟨ts,x,ha,hd,by rw[if_pos hs];exact hk⟩
theorem mX {g:FuncId}{ts:List Tr}{x:Tr}{args:List PV} (hd:aB P g ts x) (ha:bA (aS s.hp dep) args=some ts) (hs:x.scalar=false) (hk:aI P mu F r .normal (St.put { s with hp:=frz s.hp (args.flatMap (reach s.hp dep)) } d (.t x))):clK P mu F false d (some (g,args)) r s:=by
 simp only[clK,mR,Bool.false_eq_true,if_false];exact .inl ⟨ts,x,ha,hd,by rw[hs];simpa using hk⟩
theorem Ct {g:FuncId}{ts:List Tr}{x:Tr}{args:List PV} (hd:aB P g ts x) (ha:bA (aS s.hp dep) args=some ts) (hf:EM mu d=true) (hk:aI P mu F r .normal (St.put { s with hp:=frz s.hp (args.flatMap (reach s.hp dep)) } d (.t x))) (h49:mu 4999999=false:=by rfl):clK P mu F true d (some (g,args)) r s:=by
 simp only[clK,mR,if_true];exact .inr (.inl ⟨hf,_,_,⟨.inr ⟨ts,x,ha,hd,rfl,rfl⟩,fun h=>by rw[h49]at h;cases h⟩,hk⟩)
theorem Wy {g:FuncId}{ts:List Tr}{x:Tr}{args:List PV} (hd:aB P g ts x) (ha:bA (aS s.hp dep) args=some ts) (hf:EM mu d=true) (h11:mu (11000000+g)=true) (hk:aI P mu F r .normal (St.put { s with hp:=frz s.hp (args.flatMap (reach s.hp dep)) } d (.t x))):clK P mu F true d (some (g,args)) r s:=by
 simp only[clK,mR,if_true];exact .inr (.inl ⟨hf,_,_,⟨.inr ⟨ts,x,ha,hd,rfl,rfl⟩,fun _ h=>by rw[h11]at h;cases h⟩,hk⟩)
theorem Wz {g:FuncId}{ts:List Tr}{x:Tr}{args:List PV} (hd:aB P g ts x) (ha:bA (aS s.hp dep) args=some ts) (hs:x.scalar=true) (hf:rdB mu d=true) (hk:aI P mu F r .normal (St.put s d (.t x))):clK P mu F true d (some (g,args)) r s:=by
 simp only[clK,mR,if_true];exact .inr (.inr ⟨hf,ts,x,ha,hd,hs,hk⟩)
theorem iH {g:FuncId}{args:List PV}{Q:PV->Hp->Prop} (hd:dM P g args s.hp Q) (hk:∀v h',Q v h'->aI P mu F r .normal (St.put { s with hp:=h' } d v)):clK P mu F false d (some (g,args)) r s:=by
 simp only[clK,mR,Bool.false_eq_true,if_false];exact .inr (hd.mono hk)
theorem lT {g:FuncId}{args:List PV}{v:PV}{h':Hp} (hd:dM P g args s.hp fun v' h''=>v'=v/\h''=h') (hf:EM mu d=true) (hk:aI P mu F r .normal (St.put { s with hp:=h' } d v)) (h49:mu 4999999=false:=by rfl):clK P mu F dr d (some (g,args)) r s:=by
 simp only[clK,mR];split
 ·exact .inr (.inl ⟨hf,v,h',⟨.inl hd,fun h=>by rw[h49]at h;cases h⟩,hk⟩)
 ·exact .inr (hd.mono fun v' h'' ⟨e1,e2⟩=>by rw[e1,e2];exact hk)
theorem PO {g:FuncId}{args:List PV}{v:PV}{h':Hp} (hd:∀l:List (Nat × Obj),(∀p∈l,mu (5000000+p.1)=true)->dM P g args (adds l s.hp) fun v' h''=>v'=v/\h''=adds l h') (hl:∀c,mu (5000000+c)=true->(h' c).length=(s.hp c).length) (hf:EM mu d=true) (hk:aI P mu F r .normal (St.put { s with hp:=h' } d v)) (hkp:∀c,mu (10000000+c)=true->h' c=s.hp c:=by intro c hc;simp only[Bool.or_eq_true,beq_iff_eq]at hc;omega):clK P mu F true d (some (g,args)) r s:=by
 simp only[clK,mR,if_true];exact .inr (.inl ⟨hf,v,h',⟨.inl (hd [] (fun _ h=>nomatch h)),fun _ _=>⟨hl,hkp,fun l hl=>.inl (hd l hl)⟩⟩,hk⟩)
@[go_sem] theorem aJ (s':Nat) (o:Obj):hget (hnew h s' o) (hnext h s')=some o:=by rw[dz,if_pos rfl]
theorem zi {s':Nat}{o:Obj}{id:Id} (hn:id.1≠s'):hget (hnew h s' o) id=hget h id:=by
 rw[dz,if_neg];intro e;exact hn (by rw[e];rfl)
theorem gL (s':Nat) (o o':Obj):hset (hnew h s' o) (hnext h s') o'=hnew h s' o':=by
 funext u;unfold hset hnew hnext upd
 by_cases hu:u=s'
 ·subst hu;simp
 ·simp[hu]
attribute [go_sem] gL
@[go_sem] theorem Zo {h':Hp}{s1 s2:Nat} (o:Obj) (hs:(s2==s1)=false):hget (hnew h s1 o) (hnext h' s2)=hget h (hnext h' s2):=by
 refine zi ?_;simpa[hnext] using hs
@[go_sem] theorem aV (s':Nat):(hnext h s').1=s':=aR rfl
@[go_sem] theorem agc (fn:Func) (x:Tr):Wj P fn x .ret s=(Ao P s fn.results.toList=some x):=aR rfl
def adj (l:Option (List Tr)):Option Tr:=match l with|some ts=>some (.tup ts)|none=>none
@[go_sem] theorem aeV (l:List Tr):adj (some l)=some (.tup l):=aR rfl
theorem NZ (l:List ResultVar):Ao P s l=(match bA (jG P s) l with|some [x]=>some x|some ts=>some (.tup ts)|none=>none):=rfl
@[go_sem] theorem aeW (a:ResultVar):Ao P s [a]=jG P s a:=by
 rw[NZ];simp only[bA];cases jG P s a<;>rfl
@[go_sem] theorem adk (a b:ResultVar) (l:List ResultVar):Ao P s (a::b::l)=adj (bA (jG P s) (a::b::l)):=by
 rw[NZ];simp only[bA];cases jG P s a<;>cases jG P s b<;>cases bA (jG P s) l<;>rfl
def KO (a:Option Tr) (l:Option (List Tr)):Option (List Tr):=match a,l with|some b,some bs=>some (b::bs)|_,_=>none
@[go_sem] theorem adl (a:Tr) (l:List Tr):KO (some a) (some l)=some (a::l):=aR rfl
@[go_sem] theorem abw:bA (jG P s) []=some []:=aR rfl
@[go_sem] theorem Zp (a:ResultVar) (l:List ResultVar):bA (jG P s) (a::l)=KO (jG P s a) (bA (jG P s) l):=by
 simp only[bA,KO];cases jG P s a<;>cases bA (jG P s) l<;>rfl
@[go_sem] theorem abV (k:Nat):bA (aS h k) []=some []:=aR rfl
@[go_sem] theorem abx (k:Nat) (a:PV) (l:List PV):bA (aS h k) (a::l)=KO (aS h k a) (bA (aS h k) l):=by
 simp only[bA,KO];cases aS h k a<;>cases bA (aS h k) l<;>rfl
@[go_sem] theorem adn (t:Tmp):jG P s (.tmp t)=aS s.hp dep (s.sl t):=aR rfl
def Zq (h:Hp) (x:Option PV):Option Tr:=match x with|some p=>aS h dep p|none=>none
@[go_sem] theorem ado (x:PV):Zq h (some x)=aS h dep x:=aR rfl
@[go_sem] theorem abW (a:Tmp) (t:TypeId):jG P s (.cell a t)=Zq s.hp (gB P t (s.sl a) s.hp):=aR rfl
attribute [go_sem] qy qx
theorem wrap_i64 {n:Int} (h1:-9223372036854775808<=n) (h2:n<=9223372036854775807):IntKind.i64.wrap n=n:=by
 have e1:(2:Int) ^ IntKind.i64.bits=18446744073709551616:=by decide
 have e2:(2:Int) ^ (IntKind.i64.bits-1)=9223372036854775808:=by decide
 unfold IntKind.wrap;simp only[e1,e2]
 by_cases hn:n % 18446744073709551616>=9223372036854775808
 ·rw[if_pos (by simp[IntKind.signed,hn])];omega
 ·rw[if_neg (by simp[IntKind.signed,hn])];omega
end
end Go.Vm
end
section
namespace Go.Vm
open Go
section
variable {P:Program}{mu:Nat->Bool}{F:Ex->St->Prop}{r:List Item}{s:St}{h:Hp}
theorem lg {k:Nat} (hk:k < 9223372036854775807):IntKind.i64.wrap ((k:Int)+1)=((k+1:Nat):Int):=by
 rw[wrap_i64 (by omega) (by omega)];rfl
theorem RZ (c:Code) (G:St->Prop) (b:Nat) (body:Code):aI P mu F (.code body::.blk b::.back (aI P mu F (.code c::.back G::r) .normal)::r) .normal s=aI P mu F (.code body::.blk b::.code c::.back G::r) .normal s:=by
 show Vm.wp P mu body s (aI P mu F (.blk b::_))=Vm.wp P mu body s (aI P mu F (.blk b::_))
 congr 1
theorem R3 {G:St->Prop}{b:Nat}{body:Code} (hk:aI P mu F (.code body::.blk b::.back G::r) .normal s) :
  aI P mu F (.code body::.blk b::.back (fun s''=>G s''/\∀t,(writes body).contains t=false->s''.sl t=s.sl t)::r) .normal s:=by
 refine nV _ _ _ _ (fun e s'' ⟨h1,h2⟩=>?_) (KI _ _ _ hk);have h3:∀t,(writes body).contains t=false->s''.sl t=s.sl t:=fun t ht=>h2 t (by simpa using ht)
 cases e with
 |normal=>exact ⟨h1,h3⟩
 |exit n =>
  rw[Ay]at h1 ⊢
  by_cases hn:n=b
  ·rw[if_pos hn]at h1 ⊢;exact ⟨h1,h3⟩
  ·rw[if_neg hn]at h1 ⊢;exact h1
 |ret=>exact h1
theorem JV {G G':St->Prop}{b:Nat}{body:Code} (hg:∀s,G s->G' s) (hk:aI P mu F (.code body::.blk b::.back G::r) .normal s):aI P mu F (.code body::.blk b::.back G'::r) .normal s:=by
 refine nV _ _ _ _ (fun e s'' h1=>?_) hk;cases e with
 |normal=>exact hg _ h1
 |exit n =>
  rw[Ay]at h1 ⊢
  by_cases hn:n=b
  ·rw[if_pos hn]at h1 ⊢;exact hg _ h1
  ·rw[if_neg hn]at h1 ⊢;exact h1
 |ret=>exact h1
def adp (c nx ix ln:Nat) (body:Code):Bool:=!(c==ix)&&!(c==ln)&&!(nx==ix)&&!(nx==ln)&&!(ix==ln)&&!(writes body).contains ix&&!(writes body).contains ln
theorem aC {α:Type} (l:List α) (J:Nat->St->Prop) {a1 a2 b b1 c nx ix ln:Nat}{body:Code}{t1 t2 t3 t4 t5 t6 t7:TypeId}{p1 p2 p3:String}{f1 f2 f3:Array Edge}
  (hix:s.sl ix=.t (.int .i64 0)) (hln:s.sl ln=.t (.int .i64 l.length)) (hmax:l.length<=9223372036854775807) (hsep:adp c nx ix ln body=true)
  (hst:∀k s' v w,J k s'->J k ⟨upd (upd s'.sl nx v) ix w,s'.hp⟩) (adq:∀k s' u,J k s'->J k ⟨upd s'.sl c u,s'.hp⟩) (h0:J 0 s)
  (hr:∀(k:Nat) (x:α) (s':St),l[k]?=some x->l.drop k=x::l.drop (k+1)->k < l.length->J k s'->s'.sl ix=.t (.int .i64 k) ->
   (∀t,(c::nx::ix::writes body).contains t=false->s'.sl t=s.sl t)->∀G:St->Prop,(∀s'',J (k+1) s''->G s'')->aI P mu F (.code body::.blk b1::.back G::r) .normal s')
  (he:∀s',J l.length s'->(∀t,(c::nx::ix::writes body).contains t=false->s'.sl t=s.sl t)->aI P mu F r (.exit b) s') :
  aI P mu F (.code (.loop (.seq (.region a1 #[⟨some c,.binOp .lss t1 (.tmp ix) (.tmp ln) t2,t3,p1,f1,none⟩] false) (.seq (.cond (.tmp c) .skip (.exit b)) (.seq (.block b1 body)
   (.region a2 #[⟨some nx,.binOp .add t4 (.tmp ix) (.const (.int .i64 1)) t5,t6,p2,f2,none⟩,⟨some ix,.move (.tmp nx),t7,p3,f3,none⟩] false)))))::r) .normal s:=by
 simp only[adp,Bool.and_eq_true,Bool.not_eq_true',beq_eq_false_iff_ne,ne_eq]at hsep;obtain ⟨⟨⟨⟨⟨⟨d1,d2⟩,d3⟩,d4⟩,d5⟩,d6⟩,d7⟩:=hsep;refine jD (fun m s'=>∃k:Nat,k<=l.length/\m=l.length-k/\s'.sl ix=.t (.int .i64 k)/\s'.sl ln=.t (.int .i64 l.length)/\J k s'/\(∀t,(c::nx::ix::writes body).contains t=false->s'.sl t=s.sl t)) l.length
  ⟨0,Nat.zero_le _,rfl,hix,hln,h0,fun _ _=>rfl⟩ ?_
 rintro _ s' ⟨k,hk,rfl,h1,h2,hJ,hf⟩ _ G hG
 have hf':∀t u,(c::nx::ix::writes body).contains t=false->(upd s'.sl c u) t=s.sl t:=fun t u ht=>by
  rw[upd_ne _ _ _ _ (by intro e;subst e;simp at ht)];exact hf t ht
 simp only[NU,Fg,IE,Wv,h1,h2,Zk,NV,Df,UM,NW,EL,PG];refine sD (fun hc=>?_) (fun hc=>?_)
 ·have hlt:k < l.length:=by simpa using hc
  simp only[NU,UK,RP];rw[<- RZ];have hs1:(upd s'.sl c (.t (.bool (decide ((k:Int) < l.length))))) ix=.t (.int .i64 k):=by rw[upd_ne _ _ _ _ (Ne.symm d1)];exact h1
  have hs2:(upd s'.sl c (.t (.bool (decide ((k:Int) < l.length))))) ln=.t (.int .i64 l.length):=by rw[upd_ne _ _ _ _ (Ne.symm d2)];exact h2
  refine JV (fun s'' ⟨hJ',hfr⟩=>?_) (R3 (hr k l[k] ⟨upd s'.sl c (.t (.bool (decide ((k:Int) < l.length)))),s'.hp⟩ (List.getElem?_eq_getElem hlt) (List.drop_eq_getElem_cons hlt) hlt (adq _ _ _ hJ) hs1 (fun t ht=>hf' t _ ht) (J (k+1)) (fun s'' hJ'=>hJ')));have e1:s''.sl ix=.t (.int .i64 k):=(hfr ix d6).trans hs1;have e2:s''.sl ln=.t (.int .i64 l.length):=(hfr ln d7).trans hs2;simp only[Fg,List.toList_toArray,IE,Wv,abH,e1,Zi,NV,NW,UO,EL,Df,UN,lg (Nat.lt_of_lt_of_le hlt hmax)];refine hG (l.length-(k+1)) _ (by omega) ⟨k+1,hlt,rfl,EL _ _ _,?_,hst _ _ _ _ hJ',fun t ht=>?_⟩
  ·simp only;rw[upd_ne _ _ _ _ (Ne.symm d5),upd_ne _ _ _ _ (Ne.symm d4)];exact e2
  ·have h5:(writes body).contains t=false:=by simp only[List.contains_cons,Bool.or_eq_false_iff]at ht;exact ht.2.2.2
   have h6:t≠ix:=by intro e;subst e;simp at ht
   have h7:t≠nx:=by intro e;subst e;simp at ht
   simp only;rw[upd_ne _ _ _ _ h6,upd_ne _ _ _ _ h7,hfr t h5];exact hf' t _ ht
 ·have hkl:k=l.length:=by simp at hc;omega
  subst hkl;simp only[UL,JR,JU];exact he _ (adq _ _ _ hJ) (fun t ht=>hf' t _ ht)
mutual
def Tr.sized:Tr->Bool
 |.agg l=>dJ l
 |.tup l=>dJ l
 |.sl _ l=>decide (l.length<=9223372036854775807)&&dJ l
 |.fn _ l=>dJ l
 |_=>true
def dJ:List Tr->Bool
 |[]=>true
 |x::r=>x.sized&&dJ r
end
theorem pQ {l:List Tr}:dJ l=true↔∀x∈l,x.sized=true:=by
 induction l with
 |nil=>simp[dJ]
 |cons a l ih=>simp[dJ,ih]
theorem JW {x:Tr} (hx:∀y∈x.cells,y.sized=true) (h:∀l,x=.agg l->x.cells=l):x.sized=true:=by
 cases x with
 |agg l=>simp only[Tr.sized,pQ];exact hx
 |_=>exact hx _ (by simp[Tr.cells])
theorem N7 {l:List Tr}{x y:Tr} (hx:x∈l) (hy:y∈x.cells):y∈flat l:=List.mem_flatMap.2 ⟨x,hx,hy⟩
theorem Reads.sized {w:World}{L:Nat->Prop}{x:Tr}{v:Value} (hr:Reads w L x v):x.sized=true:=by
 induction hr with
 |agg hl h ih=>simp only[Tr.sized,pQ];intro x hx;obtain ⟨i,hi⟩:=List.mem_iff_getElem?.1 hx;exact ih i x hi
 |tup hl h ih=>simp only[Tr.sized,pQ];intro x hx;obtain ⟨i,hi⟩:=List.mem_iff_getElem?.1 hx;exact ih i x hi
 |fn hl h ih=>simp only[Tr.sized,pQ];intro x hx;obtain ⟨i,hi⟩:=List.mem_iff_getElem?.1 hx;exact ih i x hi
 |@sl l a cap esz vals hs hc hm he hcell h ih =>
  simp only[Tr.sized,Bool.and_eq_true,decide_eq_true_eq,pQ];refine ⟨Nat.le_trans hc (by simpa[maxLen] using hm),fun x hx=>JW (fun y hy=>?_) (fun l e=>by subst e;rfl)⟩;obtain ⟨i,hi⟩:=List.mem_iff_getElem?.1 (N7 hx hy);exact ih i y hi
 |nil=>rfl
 |_=>rfl
theorem PS {g:FuncId}{args:List Tr}{x:Tr} (he:Enters P g) (hd:dJ args=true->aB P g args x):aB P g args x:=by
 refine ⟨he,fun w A vs hA hr=>?_⟩;refine (hd (pQ.2 fun y hy=>?_)).2 w A vs hA hr;obtain ⟨i,hi⟩:=List.mem_iff_getElem?.1 hy;exact (hr.2 i y hi).sized
theorem au {g:FuncId}{fn:Func}{c:Code}{args:List Tr}{x:Tr} (hm:P.follows .mixedOrders=true) (hf:P.funcs[g]?=some fn) (hb:fn.body=some c) (hname:(fn.name=="runtime.NumGoroutine")=false)
  (mu:Nat->Bool) (hok:kN mu fn.ntmps c=true) (hn:Nat.ble args.length fn.ntmps=true) (hw:dJ args=true->aI P mu (Wj P fn x) [.code c] .normal (qm args)):aB P g args x :=
 PS ⟨fn,hf,hname,by simp[hb]⟩ fun hs=>PD hm hf hb hname mu hok (Nat.le_of_ble_eq_true hn) (by rw[IC];exact hw hs)
attribute [go_sem] dJ Tr.sized
def dh (ag:Bool) (esz:Nat) (x:Tr):Prop:=(ag=true->x=.agg x.cells)/\(ag=false->x.cells=[x])/\x.cells.length=esz
structure Own (h:Hp) (site:Nat) (e:TypeId) (esz:Nat) (ag:Bool) (v:PV) (nn:Bool) (l:List Tr):Prop where
 ok:∀x∈l,dh ag esz x
 is:(nn=false/\l=[]/\v=.t (.sl false []))\/(nn=true/\∃id:Id,id.1=site/\v=.rf id l.length/\hget h id=some ⟨(flat l).map .t,esz,l.length,e,ag,true⟩)
theorem Own.nil {site:Nat}{e:TypeId}{esz:Nat}{ag:Bool}:Own h site e esz ag (.t (.sl false [])) false []:=⟨fun _ h=>by simp at h,.inl ⟨rfl,rfl,rfl⟩⟩
theorem Own.frame {h':Hp}{site:Nat}{e:TypeId}{esz:Nat}{ag nn:Bool}{v:PV}{l:List Tr} (ho:Own h site e esz ag v nn l) (hs:h' site=h site):Own h' site e esz ag v nn l:=by
 refine ⟨ho.ok,?_⟩;rcases ho.is with h1|⟨h0,id,h1,h2,h3⟩
 ·exact .inl h1
 ·refine .inr ⟨h0,id,h1,h2,?_⟩
  unfold hget at h3 ⊢;rw[h1,hs,<- h1];exact h3
theorem kP (a b:List Tr):flat (a++b)=flat a++flat b:=by simp[flat]
theorem N8 {ag:Bool}{esz:Nat}{l:List Tr} (hl:∀x∈l,dh ag esz x):(flat l).length=l.length*esz:=bJ l esz fun x hx=>(hl x hx).2.2
theorem II {esz:Nat}:∀ {l:List Tr},(∀x∈l,dh true esz x)->chunk esz l.length (flat l)=l
 |[],_=>rfl
 |a::l,hl=>by
  have ha:=hl a (by simp);have ih:=II (fun x hx=>hl x (List.mem_cons_of_mem _ hx));simp only[flat]at ih;simp only[List.length_cons,chunk,flat,List.flatMap_cons];rw[List.take_left' ha.2.2,List.drop_left' ha.2.2,ih,<- ha.1 rfl]
theorem wF {ag:Bool}{esz:Nat}{l:List Tr} (hl:∀x∈l,dh ag esz x):elems ag esz l.length (flat l)=l:=by
 cases ag with
 |true=>exact II hl
 |false=>exact uS l fun x hx=>(hl x hx).2.1 rfl
theorem rO (k:Nat) (id:Id) (n:Nat):aS h (k+1) (.rf id n)=(match hget h id with|some o=>if o.len=n then (match bA (aS h k) o.cs with|some ts=>some (.sl true (elems o.ag o.esz o.len ts))|none=>none) else none|none=>none):=rfl
theorem Own.aS {site:Nat}{e:TypeId}{esz:Nat}{ag nn:Bool}{v:PV}{l:List Tr} (ho:Own h site e esz ag v nn l) (k:Nat):aS h (k+1) v=some (.sl nn l):=by
 rcases ho.is with ⟨h0,h1,h2⟩|⟨h0,id,h1,h2,h3⟩
 ·subst h0;subst h1;subst h2;rfl
 ·subst h2;subst h0
  rw[rO,h3];simp only[if_true,yY,wF ho.ok]
theorem Own.dep {site:Nat}{e:TypeId}{esz:Nat}{ag nn:Bool}{v:PV}{l:List Tr} (ho:Own h site e esz ag v nn l):Go.Vm.aS h dep v=some (.sl nn l):=ho.aS 5
theorem Own.one {site:Nat}{e:TypeId}{esz:Nat}{ag nn:Bool}{v:PV}{l:List Tr} (ho:Own h site e esz ag v nn l):v.one=true/\v.cells=[v]:=by
 rcases ho.is with ⟨_,_,rfl⟩|⟨_,_,_,rfl,_⟩<;>exact ⟨rfl,rfl⟩
@[go_sem] theorem jB {s' d:Nat} (o:Obj) (hd:(d==s')=false):hnew h s' o d=h d:=by
 unfold hnew upd;rw[if_neg (by simpa using hd)]
theorem fA {id:Id}{d:Nat} (o:Obj) (hd:(d==id.1)=false):hset h id o d=h d:=by
 unfold hset upd;rw[if_neg (by simpa using hd)]
theorem AJ {d:Nat}{t e:TypeId}{esz:Nat}{ag nn nn':Bool}{v:PV}{l xs:List Tr} (hmu:mu d=true) (hel:bg P t=some e) (hsz:P.cellsOf e=esz) (hpos:0 < esz) (hz:∃z,aW P e=some z/\z.length=esz) (hag:bR P e=some ag) (h1:ag=true\/esz=1)
  (ho:Own h d e esz ag v nn l) (hx:∀x∈xs,dh ag esz x) (hb:(l.length+xs.length)*P.bytesOf e<=140737488355328/\l.length+xs.length<=4611686018427387904) :
  ∃v' h',aT P mu (some d) t v (.t (.sl nn' xs)) h=some (v',h')/\Own h' d e esz ag v' (nn||!xs.isEmpty) (l++xs)/\∀site,(site==d)=false->h' site=h site:=by
 obtain ⟨z,hz1,hz2⟩:=hz;have hfl:(flat xs).length=xs.length*esz:=N8 hx;have hsrc:iP P e (.t (.sl nn' xs)) h=some (xs.length,(flat xs).map .t):=by
  simp only[iP,hfl,hsz,if_true]
 have hempty:xs.length=0↔xs=[]:=by constructor<;>intro h<;>simp_all
 unfold aT;simp only[hel,hz1,hsrc,hz2,hsz,hpos,and_self,if_true];rcases ho.is with ⟨h0,h2,h3⟩|⟨h0,id,h2,h3,h4⟩
 ·subst h2;subst h3;subst h0
  simp only
  by_cases hx0:xs.length=0
  ·rw[if_pos hx0]
   have:=hempty.1 hx0;subst this
   exact ⟨_,_,rfl,Own.nil,fun _ _=>rfl⟩
  ·rw[if_neg hx0,if_pos ⟨trivial,by simpa using hb.1,by simpa using hb.2⟩]
   have hne:xs≠[]:=fun e=>hx0 (hempty.2 e)
   refine ⟨.rf (hnext h d) xs.length,hnew h d ⟨(flat xs).map .t,esz,xs.length,e,ag,true⟩,?_,⟨by simpa using hx,.inr ⟨by cases xs<;>simp_all,hnext h d,rfl,by simp,by rw[aJ];simp⟩⟩,fun site hs=>jB _ hs⟩
   ·unfold dG
    simp only[hag,hsz,hmu,if_true];rw[if_neg]
    rintro ⟨h5,h6⟩
    rcases h1 with h1|h1
    ·rw[h5]at h1;cases h1
    ·exact h6 h1
 ·subst h3;subst h0
  simp only[h4,Bool.true_or];rw[if_pos ⟨trivial,trivial,trivial,trivial,by simpa using hb.1,by simpa using hb.2⟩]
  by_cases hx0:xs.length=0
  ·rw[if_pos hx0]
   have:=hempty.1 hx0;subst this
   refine ⟨_,_,rfl,?_,fun _ _=>rfl⟩;simpa using ho
  ·rw[if_neg hx0]
   refine ⟨_,_,rfl,⟨fun x hx'=>(List.mem_append.1 hx').elim (ho.ok x) (hx x),.inr ⟨rfl,id,h2,by simp,?_⟩⟩,fun site hs=>fA _ (by rw[h2];exact hs)⟩;rw[iR,if_pos rfl,h4];simp[kP]
theorem cB {d:Nat}{t e:TypeId}{esz:Nat}{ag nn nn':Bool}{v:PV}{l xs:List Tr} (ho:Own h d e esz ag v nn l) (hmu:mu d=true) (hel:bg P t=some e) (hsz:P.cellsOf e=esz) (hz:(aW P e).map List.length=some esz) (hag:bR P e=some ag) (h1:(Nat.blt 0 esz&&(ag||esz==1))=true)
  (hby:Nat.ble (P.bytesOf e) 128=true) (hx:∀x∈xs,dh ag esz x) (hb:l.length+xs.length<=1099511627776)
  (hk:∀v' h',Own h' d e esz ag v' (nn||!xs.isEmpty) (l++xs)->(∀site,(site==d)=false->h' site=h site)->aI P mu F r .normal ⟨upd s.sl d v',h'⟩) :
  hpK P mu F (aT P mu (some d) t v (.t (.sl nn' xs)) h) (some d) r s:=by
 simp only[Bool.and_eq_true,Bool.or_eq_true,beq_iff_eq]at h1;obtain ⟨v',h',h2,h3,h4⟩:=AJ (nn':=nn') hmu hel hsz (by have:=h1.1;simp[Nat.blt]at this;omega) (by
  cases hzz:aW P e with
  |none=>rw[hzz]at hz;cases hz
  |some z=>rw[hzz]at hz;exact ⟨z,rfl,by simpa using hz⟩) hag h1.2 ho hx ⟨by
   have:=Nat.mul_le_mul hb (Nat.le_of_ble_eq_true hby);omega,by omega⟩
 rw[h2,Cr];exact hk v' h' h3 h4
theorem Own.snoc {α:Type}{f:α->Tr}{xs:List α}{a:α}{d:Nat}{e:TypeId}{esz:Nat}{ag nn:Bool}{v:PV} (ho:Own h d e esz ag v (nn||!([f a]:List Tr).isEmpty) (xs.map f++[f a])):Own h d e esz ag v (!(xs++[a]).isEmpty) ((xs++[a]).map f):=by
 have e1:(!(xs++[a]).isEmpty)=(nn||!([f a]:List Tr).isEmpty):=by cases xs<;>simp
 rw[e1,List.map_append];exact ho
theorem ok_int (k:IntKind) (n:Int):∀x∈[Tr.int k n],dh false 1 x:=by intro x hx;simp at hx;subst hx;exact ⟨(fun h=>nomatch h),fun _=>rfl,rfl⟩
theorem PU (cs:List Tr) (n:Nat) (h:cs.length=n):∀x∈[Tr.agg cs],dh true n x:=by intro x hx;simp at hx;subst hx;exact ⟨fun _=>rfl,(fun h=>nomatch h),h⟩
theorem IJ {d site:Nat}{t e:TypeId}{esz:Nat}{ag nn':Bool}{v:PV}{l xs:List Tr} (hel:bg P t=some e) (hsz:P.cellsOf e=esz) (hpos:0 < esz) (hz:∃z,aW P e=some z/\z.length=esz)
  (ho:Own h site e esz ag v true l) (hx:∀x∈xs,dh ag esz x) (hb:(l.length+xs.length)*P.bytesOf e<=140737488355328/\l.length+xs.length<=4611686018427387904) :
  ∃v' h',aT P mu (some d) t v (.t (.sl nn' xs)) h=some (v',h')/\Own h' site e esz ag v' true (l++xs)/\∀s',(s'==site)=false->h' s'=h s':=by
 obtain ⟨z,hz1,hz2⟩:=hz;have hfl:(flat xs).length=xs.length*esz:=N8 hx;have hsrc:iP P e (.t (.sl nn' xs)) h=some (xs.length,(flat xs).map .t):=by
  simp only[iP,hfl,hsz,if_true]
 have hempty:xs.length=0↔xs=[]:=by constructor<;>intro h<;>simp_all
 unfold aT;simp only[hel,hz1,hsrc,hz2,hsz,hpos,and_self,if_true];rcases ho.is with ⟨h0,h2,h3⟩|⟨h0,id,h2,h3,h4⟩
 ·cases h0
 ·subst h3
  simp only[h4];rw[if_pos ⟨trivial,trivial,trivial,trivial,by simpa using hb.1,by simpa using hb.2⟩]
  by_cases hx0:xs.length=0
  ·rw[if_pos hx0]
   have:=hempty.1 hx0;subst this
   refine ⟨_,_,rfl,?_,fun _ _=>rfl⟩;simpa using ho
  ·rw[if_neg hx0]
   refine ⟨_,_,rfl,⟨fun x hx'=>(List.mem_append.1 hx').elim (ho.ok x) (hx x),.inr ⟨rfl,id,h2,by simp,?_⟩⟩,fun s' hs=>fA _ (by rw[h2];exact hs)⟩;rw[iR,if_pos rfl,h4];simp[kP]
theorem mh {d site:Nat}{t e:TypeId}{esz:Nat}{ag nn':Bool}{v:PV}{l xs:List Tr} (ho:Own h site e esz ag v true l) (hel:bg P t=some e) (hsz:P.cellsOf e=esz) (hz:(aW P e).map List.length=some esz) (h1:Nat.blt 0 esz=true)
  (hby:Nat.ble (P.bytesOf e) 128=true) (hx:∀x∈xs,dh ag esz x) (hb:l.length+xs.length<=1099511627776)
  (hk:∀v' h',Own h' site e esz ag v' true (l++xs)->(∀s',(s'==site)=false->h' s'=h s')->aI P mu F r .normal ⟨upd s.sl d v',h'⟩) :
  hpK P mu F (aT P mu (some d) t v (.t (.sl nn' xs)) h) (some d) r s:=by
 obtain ⟨v',h',h2,h3,h4⟩:=IJ (mu:=mu) (d:=d) (nn':=nn') hel hsz (by simp[Nat.blt]at h1;omega) (by
  cases hzz:aW P e with
  |none=>rw[hzz]at hz;cases hz
  |some z=>rw[hzz]at hz;exact ⟨z,rfl,by simpa using hz⟩) ho hx ⟨by
   have:=Nat.mul_le_mul hb (Nat.le_of_ble_eq_true hby);omega,by omega⟩
 rw[h2,Cr];exact hk v' h' h3 h4
theorem Own.fresh {d:Nat}{e:TypeId}{esz:Nat}{ag:Bool}{l:List Tr} (hl:∀x∈l,dh ag esz x):Own (hnew h d ⟨(flat l).map .t,esz,l.length,e,ag,true⟩) d e esz ag (.rf (hnext h d) l.length) true l :=
 ⟨hl,.inr ⟨rfl,_,rfl,rfl,aJ _ _⟩⟩
theorem yj (k:IntKind) (l:List Int):∀x∈l.map (Tr.int k),dh false 1 x:=by
 intro x hx;obtain ⟨n,_,rfl⟩:=List.mem_map.1 hx;exact ⟨(fun h=>nomatch h),fun _=>rfl,rfl⟩
mutual
def Tr.wf:Tr->Bool
 |.agg l=>wfL l
 |.tup l=>wfL l
 |.sl nn l=>(nn||l.isEmpty)&&wfL l
 |.fn _ l=>wfL l
 |.ptr l=>wfL l
 |_=>true
def wfL:List Tr->Bool
 |[]=>true
 |x::r=>x.wf&&wfL r
end
theorem vg {l:List Tr}:wfL l=true↔∀x∈l,x.wf=true:=by
 induction l with
 |nil=>simp[wfL]
 |cons a l ih=>simp[wfL,ih]
theorem Reads.wf {w:World}{L:Nat->Prop}{x:Tr}{v:Value} (hr:Reads w L x v):x.wf=true:=by
 induction hr with
 |agg hl h ih=>simp only[Tr.wf,vg];intro x hx;obtain ⟨i,hi⟩:=List.mem_iff_getElem?.1 hx;exact ih i x hi
 |tup hl h ih=>simp only[Tr.wf,vg];intro x hx;obtain ⟨i,hi⟩:=List.mem_iff_getElem?.1 hx;exact ih i x hi
 |fn hl h ih=>simp only[Tr.wf,vg];intro x hx;obtain ⟨i,hi⟩:=List.mem_iff_getElem?.1 hx;exact ih i x hi
 |ptr hs hcell h ih=>simp only[Tr.wf,vg];intro x hx;obtain ⟨i,hi⟩:=List.mem_iff_getElem?.1 hx;exact ih i x hi
 |@sl l a cap esz vals hs hc hm he hcell h ih =>
  simp only[Tr.wf,Bool.true_or,Bool.true_and,vg];intro x hx;have key:∀y∈x.cells,y.wf=true:=fun y hy=>by
   obtain ⟨i,hi⟩:=List.mem_iff_getElem?.1 (N7 hx hy);exact ih i y hi
  cases x with
  |agg l=>simp only[Tr.wf,vg];exact key
  |_=>exact key _ (by simp[Tr.cells])
 |nil=>rfl
 |_=>rfl
theorem yu {g:FuncId}{args:List Tr}{x:Tr} (he:Enters P g) (hd:wfL args=true->aB P g args x):aB P g args x:=by
 refine ⟨he,fun w A vs hA hr=>?_⟩;refine (hd (vg.2 fun y hy=>?_)).2 w A vs hA hr;obtain ⟨i,hi⟩:=List.mem_iff_getElem?.1 hy;exact (hr.2 i y hi).wf
theorem iT {id:Id}{l:List Tr}{esz n:Nat}{e:TypeId}{lv:Bool} (k:Nat) (hg:hget h id=some ⟨l.map .t,esz,n,e,false,lv⟩):aS h (k+1) (.rf id n)=some (.sl true l):=by
 rw[rO,hg];simp only[if_true,yY];rfl
def Zr (c:Option Nat) (fl:Nat) (nn:Bool) (l:List Tr) (a b:Option Int) (h:Hp):Option (PV × Hp):=match c,a,b with
 |some c,some a,some b=>if fl=l.length*c/\0<=a/\a<=b/\b<=l.length then some (.t (.sl nn ((l.take b.toNat).drop a.toNat)),h) else none
 |_,_,_=>none
@[go_sem] theorem adr (t:TypeId) (nn:Bool) (l:List Tr) (lo hi:Option PV):kK P t (.t (.sl nn l)) lo hi h=Zr ((bg P t).map P.cellsOf) (flat l).length nn l (lo.elim (some 0) intOf) (hi.elim (some (l.length:Int)) intOf) h:=by
 simp only[kK,Zr];cases bg P t with
 |none=>rfl
 |some e =>
  simp only[Option.map_some];cases lo.elim (some 0) intOf<;>cases hi.elim (some (l.length:Int)) intOf<;>simp only<;>(try (split<;>rfl))
  rename_i a b
  by_cases h1:(flat l).length=l.length*P.cellsOf e
  ·rw[if_pos h1]
   by_cases h2:0<=a/\a<=b/\b<=l.length
   ·rw[if_pos h2,if_pos ⟨h1,h2⟩]
   ·rw[if_neg h2,if_neg (fun h3=>h2 h3.2)]
  ·rw[if_neg h1,if_neg (fun h3=>h1 h3.1)]
@[go_sem] theorem aeX (c:Nat) (fl:Nat) (nn:Bool) (l:List Tr) (a b:Int):Zr (some c) fl nn l (some a) (some b) h=if fl=l.length*c/\0<=a/\a<=b/\b<=l.length then some (.t (.sl nn ((l.take b.toNat).drop a.toNat)),h) else none:=aR rfl
@[go_sem] theorem intOf_int (k:IntKind) (n:Int):intOf (.t (.int k n))=some n:=aR rfl
attribute [go_sem] Option.elim_some Option.elim_none
@[go_sem] theorem rP (k:IntKind) (l:List Int):flat (l.map (Tr.int k))=l.map (Tr.int k):=uS _ (by simp[Tr.cells])
theorem dS {c:Prop} [Decidable c] {x:PV × Hp}{d:Option Tmp} (hc:c) (hk:hpK P mu F (some x) d r s):hpK P mu F (if c then some x else none) d r s:=by rw[if_pos hc];exact hk
@[go_sem] theorem KP (id:Id) (o:Obj):hget (hset h id o) id=(hget h id).map fun _=>o:=by
 rw[iR,if_pos rfl];cases hget h id<;>rfl
@[go_sem] theorem lU {id id':Id} (o:Obj) (hn:(id'.1==id.1)=false):hget (hset h id o) id'=hget h id':=by
 rw[iR,if_neg];intro e;subst e;simp at hn
@[go_sem] theorem aby {a b s':Nat} (o:Obj) (hn:(a==s')=false):hget (hnew h s' o) (a,b)=hget h (a,b):=by
 refine zi ?_;simpa using hn
attribute [go_sem] fA
theorem aX {h':Hp}{id:Id} (hs:h' id.1=h id.1):hget h' id=hget h id:=by unfold hget;rw[hs]
end
end Go.Vm
end
section
namespace Go.Vm
open Go Go.Proofs
namespace ama
open Go.Proofs.Tryz
abbrev bf:Nat->Bool:=fun _=>false
abbrev i64 (n:Int):Tr:=.int .i64 n
theorem orders:Tryz.prog.follows .mixedOrders=true:=by kernel_rfl
attribute [go_sem] Tryz.results149 Tryz.results71 Tryz.results54 Tryz.results124 Tryz.results103 Tryz.results173 Tryz.results93 Tryz.results131 Tryz.results205 Tryz.results133 Tryz.results206 Tryz.results132 Tryz.results207 Tryz.results135 Tryz.results238 Tryz.results239 Tryz.results196 Tryz.results119 Tryz.results64
structure Row where
 nn:Bool
 av:List Int
 const:Int
def Row.tr (r:Row):Tr:=.agg [.sl r.nn (r.av.map (Tr.int .i64)),.int .i64 r.const]
structure Upd where
 any:Bool
 expr:Row
def Upd.tr (u:Upd):Tr:=.agg [.bool u.any,.sl u.expr.nn (u.expr.av.map (Tr.int .i64)),.int .i64 u.expr.const]
structure Trans where
 from_:Int
 to_:Int
 gnn:Bool
 guard:List Row
 nnn:Bool
 next:List Upd
def Trans.tr (t:Trans):Tr:=.agg [.int .i64 t.from_,.int .i64 t.to_,.sl t.gnn (t.guard.map Row.tr),.sl t.nnn (t.next.map Upd.tr)]
structure Flow where
 vars:Int
 dD:Int
 start:Int
 tnn:Bool
 trans:List Trans
def Flow.cs (f:Flow):List Tr:=[.int .i64 f.vars,.int .i64 f.dD,.int .i64 f.start,.sl f.tnn (f.trans.map Trans.tr)]
def Flow.tr (f:Flow):Tr:=.agg f.cs
structure State where
 loc:Int
 vnn:Bool
 vals:List Int
def State.cs (s:State):List Tr:=[.int .i64 s.loc,.sl s.vnn (s.vals.map (Tr.int .i64))]
def State.tr (s:State):Tr:=.agg s.cs
attribute [go_sem] Row.tr Upd.tr Trans.tr Flow.tr Flow.cs State.tr State.cs
def aU (k:Int):Bool:=decide (k>=-1048576)&&decide (k<=1048576)
theorem R4 (k:Int):aB Tryz.prog 149 [i64 k] (.bool (aU k)):=by
 refine au orders Tryz.func149 rfl (by kernel_rfl) bf (by kernel_rfl) rfl (fun hs=>?_)
 repeat' (first|refine sX ?_ ?_<;>intro h|simp only[go_sem, *,aU])
def bC (vars:Int) (r:Row):Bool:=!((r.av.length:Int) != vars)&&(aU r.const&&r.av.all aU)
theorem AL (vars:Int) (r:Row):aB Tryz.prog 71 [i64 vars,r.tr] (.bool (bC vars r)):=by
 refine au orders Tryz.func71 rfl (by kernel_rfl) bf (by kernel_rfl) rfl (fun hs=>?_);simp[dJ,Tr.sized,Row.tr]at hs
 repeat' (first|refine sX ?_ ?_<;>intro h|refine aj (R4 _) rfl ?_|simp only[go_sem, *])
 ·simp_all[bC]
 ·refine aC r.av (fun k s'=>r.av.all aU=(r.av.drop k).all aU) rfl rfl (by first|assumption|omega) (by kernel_rfl) (fun _ _ _ _ hj=>hj) (fun _ _ _ hj=>hj) ?_ (fun k x s' hx hd hk hJ hix hfr G hG=>?_) (fun s' hJ hfr=>?_)
  ·rfl
  ·have c19:=hfr 19 (by kernel_rfl)
   clear hfr;simp only[go_sem]at c19;rw[hd,List.all_cons]at hJ
   repeat' (first|refine sX ?_ ?_<;>intro h|refine aj (R4 _) rfl ?_|simp only[go_sem, *])
   try any_goals (refine congrArg some ?_;first|rfl|(simp only[go_sem,bC, *];done)|(simp only[go_sem,bC, *];rfl)|(simp_all[bC];done))
   try any_goals (refine hG _ ?_;simp only[go_sem,bC, *];done)
  ·repeat' (first|refine sX ?_ ?_<;>intro h|simp only[go_sem, *])
   simp_all[bC]
 ·simp_all[bC]
def pz (x:Int):Bool:=decide (x>=-274877906944)&&decide (x<=274877906944)
def pR (vars:Int) (u:Upd):Bool:=if u.any then !(decide ((u.expr.av.length:Int) > 0)||u.expr.const != 0) else bC vars u.expr
def dU (f:Flow) (t:Trans):Int :=
 if decide (t.from_ < 0)||decide (t.from_>=f.dD)||decide (t.to_ < 0)||decide (t.to_>=f.dD) then 8
 else if decide ((t.guard.length:Int) > 16) then 3
 else if !(t.guard.all (bC f.vars)) then 2
 else if (t.next.length:Int) != f.vars then 2
 else if t.next.all (pR f.vars) then 0 else 2
set_option maxRecDepth 4000 in
theorem Nh (f:Flow) (t:Trans):aB Tryz.prog 124 [f.tr,t.tr] (i64 (dU f t)):=by
 refine au orders Tryz.func124 rfl (by kernel_rfl) (fun d=>d==6||d==8) (by kernel_rfl) rfl (fun hs=>?_);simp[dJ,Tr.sized,Flow.tr,Flow.cs,Trans.tr]at hs;obtain ⟨_,⟨hs1,_⟩,hs2,_⟩:=hs
 repeat' (first|refine sX ?_ ?_<;>intro h|simp only[go_sem, *])
 try any_goals (refine congrArg some ?_;first|rfl|(simp only[go_sem,dU, *];done)|(simp only[go_sem,dU, *];rfl)|(simp_all[dU];done))
 refine aC t.guard (fun k s'=>t.guard.all (bC f.vars)=(t.guard.drop k).all (bC f.vars)) rfl rfl (by first|assumption|omega) (by kernel_rfl) (fun _ _ _ _ hj=>hj) (fun _ _ _ hj=>hj) ?_ (fun k x s' hx hd hk hJ hix hfr G hG=>?_) (fun s' hJ hfr=>?_)
 ·rfl
 ·have c2:=hfr 2 (by kernel_rfl)
  have c36:=hfr 36 (by kernel_rfl);clear hfr;simp only[go_sem]at c2 c36;rw[hd,List.all_cons]at hJ
  repeat' (first|refine sX ?_ ?_<;>intro h|refine aj (AL f.vars x) rfl ?_|simp only[go_sem, *])
  try any_goals (refine congrArg some ?_;first|rfl|(simp only[go_sem,dU, *];done)|(simp only[go_sem,dU, *];rfl)|(simp_all[dU];done))
  try any_goals (refine hG _ ?_;simp only[go_sem,dU, *];done)
 ·have c2:=hfr 2 (by kernel_rfl)
  have c3:=hfr 3 (by kernel_rfl);clear hfr;simp only[go_sem]at c2 c3;have e2:=c2;simp only[List.drop_length,List.all_nil]at hJ
  repeat' (first|refine sX ?_ ?_<;>intro h|simp only[go_sem, *])
  try any_goals (refine congrArg some ?_;first|rfl|(simp only[go_sem,dU, *];done)|(simp only[go_sem,dU, *];rfl)|(simp_all[dU];done))
  refine aC t.next (fun k s'=>t.next.all (pR f.vars)=(t.next.drop k).all (pR f.vars)) rfl rfl (by first|assumption|omega) (by kernel_rfl) (fun _ _ _ _ hj=>hj) (fun _ _ _ hj=>hj) ?_ (fun k x s' hx hd hk hJ hix hfr G hG=>?_) (fun s' hJ hfr=>?_)
  ·rfl
  ·have c2:=hfr 2 (by kernel_rfl)
   have c55:=hfr 55 (by kernel_rfl);clear hfr;simp only[go_sem]at c2 c55;rw[e2]at c2;rw[hd,List.all_cons]at hJ
   repeat' (first|refine sX ?_ ?_<;>intro h|refine aj (AL f.vars x.expr) rfl ?_|simp only[go_sem, *])
   try any_goals (refine congrArg some ?_;first|rfl|(simp only[go_sem,dU,pR, *];done)|(simp only[go_sem,dU,pR, *];rfl)|(simp_all[dU,pR];done))
   try any_goals (refine hG _ ?_;simp only[go_sem,dU,pR, *];done)
  ·simp only[List.drop_length,List.all_nil]at hJ
   repeat' (first|refine sX ?_ ?_<;>intro h|simp only[go_sem, *])
   try any_goals (refine congrArg some ?_;first|rfl|(simp only[go_sem,dU, *];done)|(simp only[go_sem,dU, *];rfl)|(simp_all[dU];done))
def oQ (f:Flow):List Trans->Int
 |[]=>0
 |t::r=>if dU f t != 0 then dU f t else oQ f r
def aY (f:Flow):Int :=
 if decide (f.vars < 0)||decide (f.vars > 8)||decide (f.dD < 1)||decide (f.dD > 16)||decide (f.start < 0)||decide (f.start>=f.dD) then 2
 else if decide ((f.trans.length:Int) > 32) then 3
 else oQ f f.trans
theorem JX (f:Flow):aB Tryz.prog 54 [f.tr] (i64 (aY f)):=by
 refine au orders Tryz.func54 rfl (by kernel_rfl) (fun d=>d==4) (by kernel_rfl) rfl (fun hs=>?_);simp[dJ,Tr.sized,Flow.tr,Flow.cs]at hs
 repeat' (first|refine sX ?_ ?_<;>intro h|simp only[go_sem, *])
 try any_goals (refine congrArg some ?_;first|rfl|(simp only[go_sem,aY, *];done)|(simp only[go_sem,aY, *];rfl)|(simp_all[aY];done))
 refine aC f.trans (fun k s'=>oQ f f.trans=oQ f (f.trans.drop k)) rfl rfl (by first|assumption|omega) (by kernel_rfl) (fun _ _ _ _ hj=>hj) (fun _ _ _ hj=>hj) ?_ (fun k x s' hx hd hk hJ hix hfr G hG=>?_) (fun s' hJ hfr=>?_)
 ·rfl
 ·have c1:=hfr 1 (by kernel_rfl)
  have c41:=hfr 41 (by kernel_rfl);clear hfr;simp only[go_sem]at c1 c41;rw[hd,oQ]at hJ
  repeat' (first|refine sX ?_ ?_<;>intro h|refine aj (Nh f x) rfl ?_|simp only[go_sem, *])
  try any_goals (refine congrArg some ?_;first|rfl|(simp only[go_sem,aY, *];done)|(simp only[go_sem,aY, *];rfl)|(simp_all[aY];done))
  try any_goals (refine hG _ ?_;simp only[go_sem,aY, *];done)
 ·simp only[List.drop_length,oQ]at hJ
  repeat' (first|refine sX ?_ ?_<;>intro h|simp only[go_sem, *])
  try any_goals (refine congrArg some ?_;first|rfl|(simp only[go_sem,aY, *];done)|(simp only[go_sem,aY, *];rfl)|(simp_all[aY];done))
def idxFrom {α:Type} (p:α->Bool):Nat->List α->Int
 |_,[]=>-1
 |k,x::r=>if p x then k else idxFrom p (k+1) r
theorem lV {α:Type} (p:α->Bool):∀(l:List α) (k:Nat),decide (idxFrom p k l>=0)=l.any p
 |[],k=>by simp[idxFrom]
 |x::r,k=>by
  simp only[idxFrom,List.any_cons]
  by_cases hp:p x=true
  ·simp[hp]
  ·have:=lV p r (k+1)
   simp_all
theorem PW (nn:Bool) (l:List Int) (g:FuncId) (caps:List Tr) (p:Int->Bool) (hp:∀x∈l,aB Tryz.prog g (i64 x::caps) (.bool (p x))) :
  aB Tryz.prog 205 [.sl nn (l.map (Tr.int .i64)),.fn g caps] (i64 (idxFrom p 0 l)):=by
 refine au orders Tryz.func205 rfl (by kernel_rfl) bf (by kernel_rfl) rfl (fun hs=>?_);simp[dJ,Tr.sized]at hs;obtain ⟨hs1,_⟩:=hs
 repeat' (first|refine sX ?_ ?_<;>intro h|simp only[go_sem, *])
 refine aC l (fun k s'=>idxFrom p 0 l=idxFrom p k (l.drop k)) rfl rfl (by first|assumption|omega) (by kernel_rfl) (fun _ _ _ _ hj=>hj) (fun _ _ _ hj=>hj) ?_ (fun k x s' hx hd hk hJ hix hfr G hG=>?_) (fun s' hJ hfr=>?_)
 ·rfl
 ·have c0:=hfr 0 (by kernel_rfl)
  have c1:=hfr 1 (by kernel_rfl);clear hfr;simp only[go_sem]at c0 c1;rw[hd,idxFrom]at hJ
  repeat' (first|refine sX ?_ ?_<;>intro h|refine aj (hp x (List.mem_of_getElem? hx)) rfl ?_|simp only[go_sem, *])
  try any_goals (refine congrArg some ?_;first|rfl|(simp only[go_sem,idxFrom, *];done)|(simp only[go_sem,idxFrom, *];rfl)|(simp_all[idxFrom];done))
  try any_goals (refine hG _ ?_;simp only[go_sem,idxFrom, *];done)
 ·simp only[List.drop_length,idxFrom]at hJ
  repeat' (first|refine sX ?_ ?_<;>intro h|simp only[go_sem, *])
theorem mq (nn:Bool) (l:List Int) (g:FuncId) (caps:List Tr) (p:Int->Bool) (hp:∀x∈l,aB Tryz.prog g (i64 x::caps) (.bool (p x))) :
  aB Tryz.prog 131 [.sl nn (l.map (Tr.int .i64)),.fn g caps] (.bool (l.any p)):=by
 refine au orders Tryz.func131 rfl (by kernel_rfl) bf (by kernel_rfl) rfl (fun hs=>?_);rw[<- lV p l 0]
 repeat' (first|refine sX ?_ ?_<;>intro h|refine aj (PW nn l g caps p hp) rfl ?_|simp only[go_sem, *])
theorem PX (nn:Bool) (l:List Row) (g:FuncId) (caps:List Tr) (p:Row->Bool) (hp:∀x∈l,aB Tryz.prog g (x.tr::caps) (.bool (p x))) :
  aB Tryz.prog 206 [.sl nn (l.map Row.tr),.fn g caps] (i64 (idxFrom p 0 l)):=by
 refine au orders Tryz.func206 rfl (by kernel_rfl) bf (by kernel_rfl) rfl (fun hs=>?_);simp[dJ,Tr.sized]at hs;obtain ⟨⟨hs1,_⟩,_⟩:=hs
 repeat' (first|refine sX ?_ ?_<;>intro h|simp only[go_sem, *])
 refine aC l (fun k s'=>idxFrom p 0 l=idxFrom p k (l.drop k)) rfl rfl (by first|assumption|omega) (by kernel_rfl) (fun _ _ _ _ hj=>hj) (fun _ _ _ hj=>hj) ?_ (fun k x s' hx hd hk hJ hix hfr G hG=>?_) (fun s' hJ hfr=>?_)
 ·rfl
 ·have c0:=hfr 0 (by kernel_rfl)
  have c1:=hfr 1 (by kernel_rfl);clear hfr;simp only[go_sem]at c0 c1;rw[hd,idxFrom]at hJ
  repeat' (first|refine sX ?_ ?_<;>intro h|refine aj (hp x (List.mem_of_getElem? hx)) rfl ?_|simp only[go_sem, *])
  try any_goals (refine congrArg some ?_;first|rfl|(simp only[go_sem,idxFrom, *];done)|(simp only[go_sem,idxFrom, *];rfl)|(simp_all[idxFrom];done))
  try any_goals (refine hG _ ?_;simp only[go_sem,idxFrom, *];done)
 ·simp only[List.drop_length,idxFrom]at hJ
  repeat' (first|refine sX ?_ ?_<;>intro h|simp only[go_sem, *])
theorem oU (nn:Bool) (l:List Row) (g:FuncId) (caps:List Tr) (p:Row->Bool) (hp:∀x∈l,aB Tryz.prog g (x.tr::caps) (.bool (p x))) :
  aB Tryz.prog 133 [.sl nn (l.map Row.tr),.fn g caps] (.bool (l.any p)):=by
 refine au orders Tryz.func133 rfl (by kernel_rfl) bf (by kernel_rfl) rfl (fun hs=>?_);rw[<- lV p l 0]
 repeat' (first|refine sX ?_ ?_<;>intro h|refine aj (PX nn l g caps p hp) rfl ?_|simp only[go_sem, *])
theorem Zt (k:Int):aB Tryz.prog 207 [i64 k] (.bool (!aU k)):=by
 rw[show (!aU k)=(decide (k < -1048576)||decide (k > 1048576)) by rw[Bool.eq_iff_iff];simp[aU]];refine au orders Tryz.func207 rfl (by kernel_rfl) bf (by kernel_rfl) rfl (fun hs=>?_)
 repeat' (first|refine sX ?_ ?_<;>intro h|simp only[go_sem, *])
theorem D5 (k:Int):aB Tryz.prog 132 [i64 k] (.bool (!pz k)):=by
 rw[show (!pz k)=(decide (k < -274877906944)||decide (k > 274877906944)) by rw[Bool.eq_iff_iff];simp[pz]];refine au orders Tryz.func132 rfl (by kernel_rfl) bf (by kernel_rfl) rfl (fun hs=>?_)
 repeat' (first|refine sX ?_ ?_<;>intro h|simp only[go_sem, *])
theorem mD {α:Type} (p:α->Bool) (l:List α):l.any (fun x=>!p x)=!l.all p:=by
 induction l with|nil=>rfl|cons a l ih=>simp[ih]
theorem KQ (vars:Int) (r:Row):aB Tryz.prog 135 [i64 vars,r.tr] (.bool (bC vars r)):=by
 refine au orders Tryz.func135 rfl (by kernel_rfl) bf (by kernel_rfl) rfl (fun hs=>?_);have hc:=mq r.nn r.av 207 [] (fun x=>!aU x) (fun x _=>Zt x)
 repeat' (first|refine sX ?_ ?_<;>intro h|refine aj (Zt _) rfl ?_|refine aj (hc) rfl ?_|simp only[go_sem, *])
 all_goals simp_all[bC,mD]
def inB (f:Flow) (l:Int):Bool:=decide (l>=0)&&decide (l < f.dD)
theorem jg (f:Flow) (t:Trans):dU f t=if !inB f t.from_||!inB f t.to_ then 8
  else if decide ((t.guard.length:Int) > 16) then 3
  else if !(t.guard.all (bC f.vars)) then 2
  else if (t.next.length:Int) != f.vars then 2
  else if t.next.all (pR f.vars) then 0 else 2:=by
 have e:(decide (t.from_ < 0)||decide (t.from_>=f.dD)||decide (t.to_ < 0)||decide (t.to_>=f.dD))=(!inB f t.from_||!inB f t.to_):=by
  rw[Bool.eq_iff_iff];simp[inB];omega
 unfold dU;rw[e]
theorem XG (f:Flow) (l:Int):aB Tryz.prog 238 [i64 l,.ptr f.cs] (.bool (inB f l)):=by
 refine au orders Tryz.func238 rfl (by kernel_rfl) bf (by kernel_rfl) rfl (fun hs=>?_)
 repeat' (first|refine sX ?_ ?_<;>intro h|simp only[go_sem, *,inB])
theorem Zu (f:Flow) (r:Row):aB Tryz.prog 239 [r.tr,.ptr f.cs] (.bool (!bC f.vars r)):=by
 refine au orders Tryz.func239 rfl (by kernel_rfl) bf (by kernel_rfl) rfl (fun hs=>?_)
 repeat' (first|refine sX ?_ ?_<;>intro h|refine aj (KQ _ r) rfl ?_|simp only[go_sem, *])
set_option maxRecDepth 4000 in
theorem Ni (f:Flow) (t:Trans):aB Tryz.prog 196 [f.tr,t.tr] (i64 (dU f t)):=by
 refine au orders Tryz.func196 rfl (by kernel_rfl) (fun d=>d==8) (by kernel_rfl) rfl (fun hs=>?_);simp[dJ,Tr.sized,Flow.tr,Flow.cs,Trans.tr]at hs;obtain ⟨_,⟨hs1,_⟩,hs2,_⟩:=hs;have hc:=oU t.gnn t.guard 239 [.ptr f.cs] (fun x=>!bC f.vars x) (fun x _=>Zu f x);rw[mD]at hc
 repeat' (first|refine sX ?_ ?_<;>intro h|refine aj (XG f _) rfl ?_|refine aj (hc) rfl ?_|simp only[go_sem, *])
 try any_goals (refine congrArg some ?_;first|rfl|(simp only[go_sem,jg, *];done)|(simp only[go_sem,jg, *];rfl)|(simp_all[jg];done))
 refine aC t.next (fun k s'=>t.next.all (pR f.vars)=(t.next.drop k).all (pR f.vars)) rfl rfl (by first|assumption|omega) (by kernel_rfl) (fun _ _ _ _ hj=>hj) (fun _ _ _ hj=>hj) ?_ (fun k x s' hx hd hk hJ hix hfr G hG=>?_) (fun s' hJ hfr=>?_)
 ·rfl
 ·have c6:=hfr 6 (by kernel_rfl)
  have c43:=hfr 43 (by kernel_rfl);clear hfr;simp only[go_sem]at c6 c43;rw[hd,List.all_cons]at hJ
  repeat' (first|refine sX ?_ ?_<;>intro h|refine aj (Zu f x.expr) rfl ?_|simp only[go_sem, *])
  try any_goals (refine congrArg some ?_;first|rfl|(simp only[go_sem,jg,pR, *];done)|(simp only[go_sem,jg,pR, *];rfl)|(simp_all[jg,pR];done))
  try any_goals (refine hG _ ?_;simp only[go_sem,jg,pR, *];done)
 ·simp only[List.drop_length,List.all_nil]at hJ
  repeat' (first|refine sX ?_ ?_<;>intro h|simp only[go_sem, *])
  try any_goals (refine congrArg some ?_;first|rfl|(simp only[go_sem,jg, *];done)|(simp only[go_sem,jg, *];rfl)|(simp_all[jg];done))
theorem uI (f:Flow):aB Tryz.prog 119 [f.tr] (i64 (aY f)):=by
 refine au orders Tryz.func119 rfl (by kernel_rfl) (fun d=>d==4) (by kernel_rfl) rfl (fun hs=>?_);simp[dJ,Tr.sized,Flow.tr,Flow.cs]at hs
 repeat' (first|refine sX ?_ ?_<;>intro h|simp only[go_sem, *])
 try any_goals (refine congrArg some ?_;first|rfl|(simp only[go_sem,aY, *];done)|(simp only[go_sem,aY, *];rfl)|(simp_all[aY];done))
 refine aC f.trans (fun k s'=>oQ f f.trans=oQ f (f.trans.drop k)) rfl rfl (by first|assumption|omega) (by kernel_rfl) (fun _ _ _ _ hj=>hj) (fun _ _ _ hj=>hj) ?_ (fun k x s' hx hd hk hJ hix hfr G hG=>?_) (fun s' hJ hfr=>?_)
 ·rfl
 ·have c1:=hfr 1 (by kernel_rfl)
  have c43:=hfr 43 (by kernel_rfl);clear hfr;simp only[go_sem]at c1 c43;rw[hd,oQ]at hJ
  repeat' (first|refine sX ?_ ?_<;>intro h|refine aj (Ni f x) rfl ?_|simp only[go_sem, *])
  try any_goals (refine congrArg some ?_;first|rfl|(simp only[go_sem,aY, *];done)|(simp only[go_sem,aY, *];rfl)|(simp_all[aY];done))
  try any_goals (refine hG _ ?_;simp only[go_sem,aY, *];done)
 ·simp only[List.drop_length,oQ]at hJ
  repeat' (first|refine sX ?_ ?_<;>intro h|simp only[go_sem, *])
  try any_goals (refine congrArg some ?_;first|rfl|(simp only[go_sem,aY, *];done)|(simp only[go_sem,aY, *];rfl)|(simp_all[aY];done))
def gM (f:Flow) (s:State):Int :=
 if aY f != 0 then aY f
 else if decide (s.loc < 0)||decide (s.loc>=f.dD) then 8
 else if (s.vals.length:Int) != f.vars then 2
 else if s.vals.all pz then 0 else 2
theorem IK (f:Flow) (s:State):aB Tryz.prog 64 [f.tr,s.tr] (i64 (gM f s)):=by
 refine au orders Tryz.func64 rfl (by kernel_rfl) bf (by kernel_rfl) rfl (fun hs=>?_);have hc:=mq s.vnn s.vals 132 [] (fun x=>!pz x) (fun x _=>D5 x);rw[mD]at hc
 repeat' (first|refine sX ?_ ?_<;>intro h|refine aj (uI f) rfl ?_|refine aj (hc) rfl ?_|simp only[go_sem, *])
 try any_goals (refine congrArg some ?_;first|rfl|(simp only[go_sem,gM, *];done)|(simp only[go_sem,gM, *];rfl)|(simp_all[gM];done))
attribute [go_sem] Tryz.results63 Tryz.results101 Tryz.results127 Tryz.results177 Tryz.results202 Tryz.results248 Tryz.results128 Tryz.results60 Tryz.results61 Tryz.results39 Tryz.results44 Tryz.results38
abbrev rD:TypeId:=3
abbrev zk:TypeId:=58
abbrev w64 (n:Int):Int:=IntKind.i64.wrap n
def sM:Int->List Int->List Int->Int
 |x,c::cs,v::vs=>sM (w64 (x+w64 (c*v))) cs vs
 |x,_,_=>x
def iG (r:Row) (vals:List Int):Int:=sM r.const r.av vals
theorem AO (x:Int) (l:List Int):sM x [] l=x:=by cases l<;>rfl
theorem aF {α:Type} (l:List α) (k:Nat) (h:k < l.length):∃v,l[k]?=some v/\l.drop k=v::l.drop (k+1):=⟨l[k],List.getElem?_eq_getElem h,List.drop_eq_getElem_cons h⟩
theorem KR (r:Row) (vnn:Bool) (vals:List Int) (hl:r.av.length<=vals.length):aB Tryz.prog 63 [r.tr,.sl vnn (vals.map (Tr.int .i64))] (i64 (iG r vals)):=by
 refine au orders Tryz.func63 rfl (by kernel_rfl) bf (by kernel_rfl) rfl (fun hs=>?_);simp[dJ,Tr.sized,Row.tr]at hs;obtain ⟨⟨hs1,_⟩,_⟩:=hs
 repeat' (first|refine sX ?_ ?_<;>intro h|simp only[go_sem, *])
 refine aC r.av (fun k s'=>∃acc,s'.sl 5=.t (i64 acc)/\iG r vals=sM acc (r.av.drop k) (vals.drop k)) rfl rfl (by first|assumption|omega) (by kernel_rfl) (fun _ _ _ _ hj=>hj) (fun _ _ _ hj=>hj) ?_ (fun k x s' hx hd hk hJ hix hfr G hG=>?_) (fun s' hJ hfr=>?_)
 ·exact ⟨_,rfl,rfl⟩
 ·have c1:=hfr 1 (by kernel_rfl)
  have c11:=hfr 11 (by kernel_rfl);clear hfr;simp only[go_sem]at c1 c11;obtain ⟨acc,hacc,hJ⟩:=hJ;obtain ⟨v,hv,hdv⟩:=aF vals k (by omega);rw[hd,hdv,sM]at hJ
  repeat' (first|refine sX ?_ ?_<;>intro h|simp only[go_sem, *])
  exact hG _ ⟨_,rfl,hJ⟩
 ·obtain ⟨acc,hacc,hJ⟩:=hJ
  rw[List.drop_length,AO]at hJ
  repeat' (first|refine sX ?_ ?_<;>intro h|simp only[go_sem, *])
theorem KS (r:Row) (vnn:Bool) (vals:List Int) (hl:r.av.length<=vals.length):aB Tryz.prog 101 [r.tr,.sl vnn (vals.map (Tr.int .i64))] (i64 (iG r vals)):=by
 refine au orders Tryz.func101 rfl (by kernel_rfl) bf (by kernel_rfl) rfl (fun hs=>?_);simp[dJ,Tr.sized,Row.tr]at hs;obtain ⟨⟨hs1,_⟩,_⟩:=hs
 repeat' (first|refine sX ?_ ?_<;>intro h|simp only[go_sem, *])
 refine aC r.av (fun k s'=>∃acc,s'.sl 5=.t (i64 acc)/\iG r vals=sM acc (r.av.drop k) (vals.drop k)) rfl rfl (by first|assumption|omega) (by kernel_rfl) (fun _ _ _ _ hj=>hj) (fun _ _ _ hj=>hj) ?_ (fun k x s' hx hd hk hJ hix hfr G hG=>?_) (fun s' hJ hfr=>?_)
 ·exact ⟨_,rfl,rfl⟩
 ·have c1:=hfr 1 (by kernel_rfl)
  have c11:=hfr 11 (by kernel_rfl);clear hfr;simp only[go_sem]at c1 c11;obtain ⟨acc,hacc,hJ⟩:=hJ;obtain ⟨v,hv,hdv⟩:=aF vals k (by omega);rw[hd,hdv,sM]at hJ
  repeat' (first|refine sX ?_ ?_<;>intro h|simp only[go_sem, *])
  exact hG _ ⟨_,rfl,hJ⟩
 ·obtain ⟨acc,hacc,hJ⟩:=hJ
  rw[List.drop_length,AO]at hJ
  repeat' (first|refine sX ?_ ?_<;>intro h|simp only[go_sem, *])
def UW (vals:List Int) (r:Row):Prop:=r.av.length<=vals.length
def holdB (vals:List Int) (r:Row):Bool:=!decide (iG r vals < 0)
def xw (s:State) (t:Trans):Bool:=(t.from_==s.loc)&&t.guard.all (holdB s.vals)
def KT (s:State) (t:Trans):Prop:=∀r∈t.guard,UW s.vals r
theorem Zv (r:Row) (s:State) (hl:UW s.vals r):aB Tryz.prog 248 [r.tr,.ptr s.cs] (.bool (!holdB s.vals r)):=by
 refine au orders Tryz.func248 rfl (by kernel_rfl) bf (by kernel_rfl) rfl (fun hs=>?_)
 repeat' (first|refine sX ?_ ?_<;>intro h|refine aj (KS r s.vnn s.vals hl) rfl ?_|simp only[go_sem, *,holdB,Bool.not_not])
theorem WA (t:Trans) (s:State) (hl:KT s t):aB Tryz.prog 202 [t.tr,s.tr] (.bool (xw s t)):=by
 refine au orders Tryz.func202 rfl (by kernel_rfl) bf (by kernel_rfl) rfl (fun hs=>?_);have hc:=oU t.gnn t.guard 248 [.ptr s.cs] (fun x=>!holdB s.vals x) (fun x hx=>Zv x s (hl x hx));rw[mD]at hc
 repeat' (first|refine sX ?_ ?_<;>intro h|refine aj (hc) rfl ?_|simp only[go_sem, *])
 try any_goals (refine congrArg some ?_;first|rfl|(simp only[go_sem,xw,Bool.not_not, *];done)|(simp only[go_sem,xw,Bool.not_not, *];rfl)|(simp_all[xw,Bool.not_not];done))
def chF (s:State):Nat->List Trans->List Int
 |_,[]=>[]
 |k,t::r=>if xw s t then (k:Int)::chF s (k+1) r else chF s (k+1) r
def choices (f:Flow) (s:State):List Int:=chF s 0 f.trans
abbrev ints (l:List Int):List Tr:=l.map (Tr.int .i64)
abbrev nA (l:List Int):Tr:=.sl (!l.isEmpty) (ints l)
theorem UY (f:Flow) (s:State) (hl:∀t∈f.trans,KT s t) (hlen:f.trans.length<=1048576):aB Tryz.prog 128 [f.tr,s.tr] (nA (choices f s)):=by
 refine au orders Tryz.func128 rfl (by kernel_rfl) (fun d=>d==7||d==22) (by kernel_rfl) rfl (fun hs=>?_)
 repeat' (first|refine sX ?_ ?_<;>intro h|simp only[go_sem, *])
 refine aC f.trans (fun k s'=>∃acc:List Int,Own s'.hp 22 rD 1 false (s'.sl 5) (!acc.isEmpty) (ints acc)/\acc.length<=k/\choices f s=acc++chF s k (f.trans.drop k)) rfl rfl (by first|assumption|omega) (by kernel_rfl) (fun _ _ _ _ hj=>hj) (fun _ _ _ hj=>hj) ?_ (fun k x s' hx hd hk hJ hix hfr G hG=>?_) (fun s' hJ hfr=>?_)
 ·exact ⟨[],Own.nil,Nat.le_refl _,rfl⟩
 ·have c3:=hfr 3 (by kernel_rfl)
  have c9:=hfr 9 (by kernel_rfl);clear hfr;simp only[go_sem]at c3 c9;obtain ⟨acc,hown,hal,hJ⟩:=hJ;have hm:=List.mem_of_getElem? hx;rw[hd,chF]at hJ
  repeat' (first|refine sX ?_ ?_<;>intro h|refine aj (WA x s (hl x hm)) rfl ?_|simp only[go_sem, *])
  ·refine cB (hown.frame (by simp only[go_sem])) rfl (by kernel_rfl) (by kernel_rfl) (by kernel_rfl) (by kernel_rfl) rfl (by kernel_rfl) (ok_int _ _) (by simp;omega) (fun v' h' ho hf=>?_)
   repeat' (first|refine sX ?_ ?_<;>intro h|simp only[go_sem, *])
   refine hG _ ⟨acc++[(k:Int)],ho.snoc,by simp;omega,?_⟩;rw[hJ];simp[*]
  all_goals
   refine hG _ ⟨acc,hown.frame (by simp only[go_sem]),by omega,?_⟩;rw[hJ];simp[*]
 ·obtain ⟨acc,hown,hal,hJ⟩:=hJ
  rw[List.drop_length,chF,List.append_nil]at hJ;have ht:=hown.dep
  repeat' (first|refine sX ?_ ?_<;>intro h|simp only[go_sem, *])
structure UZ (f:Flow) (t:Trans):Prop where
 qA:0<=t.from_
 nC:t.from_ < f.dD
 to1:0<=t.to_
 to2:t.to_ < f.dD
 guard:t.guard.length<=16
 right:∀r∈t.guard,bC f.vars r=true
 next:(t.next.length:Int)=f.vars
 upd:∀u∈t.next,pR f.vars u=true
structure jk (f:Flow):Prop where
 KU:0<=f.vars
 qB:f.vars<=8
 dD:f.dD<=16
 wG:0<=f.start
 wH:f.start < f.dD
 len:f.trans.length<=32
 all:∀t∈f.trans,UZ f t
structure Good (f:Flow) (s:State):Prop where
 flow:jk f
 KV:0<=s.loc
 KW:s.loc < f.dD
 vals:(s.vals.length:Int)=f.vars
 word:∀v∈s.vals,pz v=true
theorem aeY {f:Flow}{t:Trans} (h:dU f t=0):UZ f t:=by
 unfold dU at h;split at h;· cases h
 rename_i h1;split at h;· cases h
 rename_i h2;split at h;· cases h
 rename_i h3;split at h;· cases h
 rename_i h4;split at h
 ·rename_i h5
  simp at h1 h2 h3 h4 h5;exact ⟨by omega,by omega,by omega,by omega,by omega,h3,h4,h5⟩
 ·cases h
theorem WB {f:Flow}:∀ {l:List Trans},oQ f l=0->∀t∈l,UZ f t
 |[],_,t,ht=>by simp at ht
 |x::l,h,t,ht=>by
  unfold oQ at h;split at h
  ·rename_i h1;simp[h]at h1
  ·rename_i h1
   simp at h1;rcases List.mem_cons.1 ht with rfl|ht
   ·exact aeY h1
   ·exact WB h t ht
theorem D6 {f:Flow} (h:aY f=0):jk f:=by
 unfold aY at h;split at h;· cases h
 rename_i h1;split at h;· cases h
 rename_i h2;simp at h1 h2;exact ⟨by omega,by omega,by omega,by omega,by omega,by omega,WB h⟩
theorem good {f:Flow}{s:State} (h:gM f s=0):Good f s:=by
 unfold gM at h;split at h;· rename_i h1;simp[h]at h1
 rename_i h1;split at h;· cases h
 rename_i h2;split at h;· cases h
 rename_i h3;split at h
 ·rename_i h4
  simp at h1 h2 h3 h4;exact ⟨D6 h1,by omega,by omega,h3,h4⟩
 ·cases h
theorem iU {v:Int}{r:Row} (h:bC v r=true):(r.av.length:Int)=v:=by simp[bC]at h;exact h.1
theorem Good.okT {f:Flow}{s:State} (h:Good f s) {t:Trans} (ht:t∈f.trans):KT s t:=fun r hr=>by
 have:=iU ((h.flow.all t ht).right r hr);have:=h.vals
 unfold UW;omega
theorem GR (nn:Bool) (l:List Int) (z:Int):aB Tryz.prog 61 [.sl nn (ints l),i64 z] (.bool (l.any (fun y=>z==y))):=by
 refine au orders Tryz.func61 rfl (by kernel_rfl) bf (by kernel_rfl) rfl (fun hs=>?_);simp[dJ,Tr.sized]at hs
 repeat' (first|refine sX ?_ ?_<;>intro h|simp only[go_sem, *])
 refine aC l (fun k s'=>l.any (fun y=>z==y)=(l.drop k).any (fun y=>z==y)) rfl rfl (by first|assumption|omega) (by kernel_rfl) (fun _ _ _ _ hj=>hj) (fun _ _ _ hj=>hj) ?_ (fun k x s' hx hd hk hJ hix hfr G hG=>?_) (fun s' hJ hfr=>?_)
 ·rfl
 ·have c1:=hfr 1 (by kernel_rfl)
  have c7:=hfr 7 (by kernel_rfl);clear hfr;simp only[go_sem]at c1 c7;rw[hd,List.any_cons]at hJ
  repeat' (first|refine sX ?_ ?_<;>intro h|simp only[go_sem, *])
  try any_goals (refine congrArg some ?_;first|rfl|(simp only[go_sem,hJ, *];done)|(simp only[go_sem,hJ, *];rfl)|(simp_all[hJ];done))
  try any_goals (refine hG _ ?_;simp only[go_sem,hJ, *];done)
 ·simp only[List.drop_length,List.any_nil]at hJ
  repeat' (first|refine sX ?_ ?_<;>intro h|simp only[go_sem, *])
abbrev states (l:List State):List Tr:=l.map State.tr
inductive Reach (f:Flow) (keep:List Int) (a:Int):Int->Prop where
 |refl:Reach f keep a a
 |step {i:Int}{t:Trans} (hi:i∈keep) (ht:f.trans[i.toNat]?=some t) (h:Reach f keep a t.from_):Reach f keep a t.to_
noncomputable def qC (f:Flow) (keep:List Int) (a b:Int):Bool:=@decide (Reach f keep a b) (Classical.propDecidable _)
theorem nD {f:Flow}{keep:List Int}{a b:Int}:qC f keep a b=true↔Reach f keep a b:=by
 unfold qC;exact @decide_eq_true_iff _ (Classical.propDecidable _)
theorem Reach.trans {f:Flow}{keep:List Int}{a b c:Int} (h:Reach f keep a b) (h2:Reach f keep b c):Reach f keep a c:=by
 induction h2 with
 |refl=>exact h
 |step hi ht _ ih=>exact .step hi ht ih
theorem Reach.mono {f:Flow}{keep keep':List Int} (hk:∀i∈keep,i∈keep') {a b:Int} (h:Reach f keep a b):Reach f keep' a b:=by
 induction h with
 |refl=>exact .refl
 |step hi ht _ ih=>exact .step (hk _ hi) ht ih
noncomputable def qD (f:Flow) (keep:List Int) (i:Int):Bool:=match f.trans[i.toNat]? with
 |some t=>qC f keep t.to_ t.from_
 |none=>false
noncomputable def cyc (f:Flow) (keep:List Int):List Int:=keep.filter (qD f keep)
def sw1 (f:Flow) (seen:List Bool) (i:Int):List Bool:=match f.trans[i.toNat]? with
 |some t=>if seen.getD t.from_.toNat false then seen.set t.to_.toNat true else seen
 |none=>seen
def mU (f:Flow) (keep:List Int) (seen:List Bool):List Bool:=keep.foldl (sw1 f) seen
def oV (f:Flow) (keep:List Int):Nat->List Bool->List Bool
 |0,s=>s
 |n+1,s=>oV f keep n (mU f keep s)
def start (n a:Nat):List Bool:=(List.replicate n false).set a true
def jL (l:List Bool):Nat:=l.countP (fun b=>b)
def Le (a b:List Bool):Prop:=a.length=b.length/\∀k:Nat,a.getD k false=true->b.getD k false=true
theorem Le.refl (a:List Bool):Le a a:=⟨rfl,fun _ h=>h⟩
theorem Le.trans {a b c:List Bool} (h:Le a b) (h2:Le b c):Le a c:=⟨h.1.trans h2.1,fun k hk=>h2.2 k (h.2 k hk)⟩
theorem Le.cnt:∀ {a b:List Bool},Le a b->jL a<=jL b/\(jL a=jL b->a=b)
 |[],[],_=>⟨Nat.le_refl _,fun _=>rfl⟩
 |[],_::_,h=>by have:=h.1;simp at this
 |_::_,[],h=>by have:=h.1;simp at this
 |x::a,y::b,h=>by
  have ih:=Le.cnt (a:=a) (b:=b) ⟨by have:=h.1;simpa using this,fun k hk=>by have:=h.2 (k+1);simpa using this (by simpa using hk)⟩;have h0:=h.2 0;simp only[List.getD_cons_zero]at h0;unfold jL at ih ⊢;cases x<;>cases y<;>simp at h0 ⊢
  ·exact ⟨ih.1,ih.2⟩
  ·exact ⟨by omega,fun e=>by omega⟩
  ·exact ⟨ih.1,ih.2⟩
theorem Le.set {a:List Bool} (i:Nat):Le a (a.set i true):=⟨by simp,fun k hk=>by
 simp only[List.getD,List.getElem?_set]at hk ⊢
 by_cases e:i=k
 ·subst e
  by_cases hi:i < a.length
  ·simp[hi]
  ·rw[List.getElem?_eq_none (by omega)]at hk;simp at hk
 ·rw[if_neg e];exact hk⟩
theorem WC (f:Flow) (s:List Bool) (i:Int):Le s (sw1 f s i):=by
 unfold sw1;split
 ·split
  ·exact Le.set _
  ·exact Le.refl _
 ·exact Le.refl _
theorem Cu (f:Flow):∀(keep:List Int) (s:List Bool),Le s (mU f keep s)
 |[],s=>Le.refl s
 |i::r,s=>(WC f s i).trans (Cu f r _)
theorem N9 (l:List Bool):jL l<=l.length:=List.countP_le_length
def Closed (f:Flow) (keep:List Int) (s:List Bool):Prop:=∀i∈keep,∀t,f.trans[i.toNat]?=some t->s.getD t.from_.toNat false=true->s.getD t.to_.toNat false=true
theorem D7 {f:Flow}{n:Nat} (hin:∀(i:Nat) (t:Trans),f.trans[i]?=some t->t.to_.toNat < n):∀ {keep:List Int}{s:List Bool},s.length=n->mU f keep s=s->Closed f keep s
 |[],s,_,_=>fun i hi=>by simp at hi
 |i::r,s,hl,h=>by
  have h1:=WC f s i;have h2:=Cu f r (sw1 f s i);have h3:mU f r (sw1 f s i)=s:=h;rw[h3]at h2;have e:sw1 f s i=s:=by
   have a1:=h1.cnt;have a2:=h2.cnt;exact (a1.2 (by omega)).symm
  have ih:=D7 (n:=n) hin (keep:=r) hl (by rw[e]at h3;exact h3);intro j hj t ht hs;rcases List.mem_cons.1 hj with rfl|hj
  ·unfold sw1 at e
   rw[ht]at e;simp only[hs,if_true]at e;rw[<- e];have:=hin _ _ ht;simp[List.getD,hl,this]
  ·exact ih j hj t ht hs
theorem IL (f:Flow) (keep:List Int):∀(n:Nat) (s:List Bool),Le s (oV f keep n s)
 |0,s=>Le.refl s
 |n+1,s=>(Cu f keep s).trans (IL f keep n _)
theorem AP {f:Flow}{n:Nat} (hin:∀(i:Nat) (t:Trans),f.trans[i]?=some t->t.to_.toNat < n) {keep:List Int}:∀(m:Nat) (s:List Bool),s.length=n->n < jL s+m->Closed f keep (oV f keep m s)
 |0,s,hl,h=>by have:=N9 s;omega
 |m+1,s,hl,h=>by
  have hle:=Cu f keep s
  by_cases e:mU f keep s=s
  ·have hfix:∀k,oV f keep k s=s:=by
    intro k
    induction k with
    |zero=>rfl
    |succ k ih=>simp only[oV,e,ih]
   rw[hfix];exact D7 hin hl e
  ·have h1:=hle.cnt
   have:jL s < jL (mU f keep s):=by
    have h2:jL s≠jL (mU f keep s):=fun hh=>e (h1.2 hh).symm
    have h3:=h1.1;omega
   exact AP hin m (mU f keep s) (by rw[<- hle.1];exact hl) (by omega)
def Marks (f:Flow) (keep:List Int) (a:Int) (s:List Bool):Prop:=∀k:Nat,s.getD k false=true->Reach f keep a k
theorem U0 {f:Flow}{keep:List Int}{a:Int}{s:List Bool} (h:Marks f keep a s) {k:Nat} (hk:Reach f keep a k):Marks f keep a (s.set k true):=fun j hj=>by
 simp only[List.getD,List.getElem?_set]at hj
 by_cases e:k=j
 ·subst e;exact hk
 ·rw[if_neg e]at hj;exact h j hj
theorem U3 {f:Flow}{keep:List Int}{a:Int} (hin:∀(i:Nat) (t:Trans),f.trans[i]?=some t->0<=t.from_/\0<=t.to_) {s:List Bool} (h:Marks f keep a s) {i:Int} (hi:i∈keep):Marks f keep a (sw1 f s i):=by
 unfold sw1;split
 ·rename_i t ht
  split
  ·rename_i hs
   obtain ⟨h1,h2⟩:=hin _ _ ht;refine U0 h ?_;have:=h _ hs;rw[Int.toNat_of_nonneg h1]at this;have:=Reach.step hi ht this;rw[Int.toNat_of_nonneg h2];exact this
  ·exact h
 ·exact h
theorem zl {f:Flow}{keep:List Int}{a:Int} (hin:∀(i:Nat) (t:Trans),f.trans[i]?=some t->0<=t.from_/\0<=t.to_):∀(l:List Int) (s:List Bool),(∀i∈l,i∈keep)->Marks f keep a s->Marks f keep a (l.foldl (sw1 f) s)
 |[],s,_,h=>h
 |i::r,s,hl,h=>zl hin r _ (fun j hj=>hl j (by simp[hj])) (U3 hin h (hl i (by simp)))
theorem Dh {f:Flow}{keep:List Int}{a:Int} (hin:∀(i:Nat) (t:Trans),f.trans[i]?=some t->0<=t.from_/\0<=t.to_):∀(n:Nat) (s:List Bool),Marks f keep a s->Marks f keep a (oV f keep n s)
 |0,s,h=>h
 |n+1,s,h=>Dh hin n _ (zl hin keep s (fun _ h=>h) h)
theorem Fp (f:Flow) (keep:List Int) (n a:Nat):Marks f keep a (start n a):=fun k hk=>by
 unfold start at hk;simp only[List.getD,List.getElem?_set]at hk
 by_cases e:a=k
 ·subst e;exact .refl
 ·rw[if_neg e,List.getElem?_replicate]at hk
  split at hk<;>simp at hk
theorem Di {f:Flow}{n:Nat}{keep:List Int}{a:Nat}{s:List Bool} (hin:∀(i:Nat) (t:Trans),f.trans[i]?=some t->0<=t.from_/\0<=t.to_) (h1:Marks f keep a s) (h2:Closed f keep s) (ha:s.getD a false=true) (k:Nat):s.getD k false=qC f keep a k:=by
 have key:∀b:Int,Reach f keep a b->0<=b->s.getD b.toNat false=true:=by
  intro b hb
  induction hb with
  |refl=>intro _;simpa using ha
  |step hi ht _ ih=>intro _;exact h2 _ hi _ ht (ih (hin _ _ ht).1)
 rw[Bool.eq_iff_iff,nD];constructor
 ·exact h1 k
 ·intro hr
  have:=key _ hr (by omega);simpa using this
theorem KX {n a:Nat} (ha:a < n):(start n a).getD a false=true:=by simp[start,List.getD,ha]
theorem PY {n a:Nat} (ha:a < n):0 < jL (start n a):=by
 unfold jL;rw[List.countP_pos_iff];exact ⟨true,by
  unfold start;exact List.mem_iff_getElem?.2 ⟨a,by simp[ha]⟩,rfl⟩
theorem Nj {f:Flow} (hf:jk f) {n:Nat} (hn:f.dD=n) (keep:List Int) {a:Nat} (ha:a < n):oV f keep n (start n a)=(List.range n).map (fun (l:Nat)=>qC f keep a (l:Int)):=by
 have hin:∀(i:Nat) (t:Trans),f.trans[i]?=some t->0<=t.from_/\0<=t.to_:=fun i t h=>⟨(hf.all t (List.mem_of_getElem? h)).qA,(hf.all t (List.mem_of_getElem? h)).to1⟩
 have hin2:∀(i:Nat) (t:Trans),f.trans[i]?=some t->t.to_.toNat < n:=fun i t h=>by have:=(hf.all t (List.mem_of_getElem? h)).to2;have:=(hf.all t (List.mem_of_getElem? h)).to1;omega
 have hl:(start n a).length=n:=by simp[start]
 have h1:=AP hin2 (keep:=keep) n (start n a) hl (by have:=PY ha;omega);have h2:=Dh (a:=(a:Int)) hin n _ (Fp f keep n a);have h3:=IL f keep n (start n a);have h4:=h3.2 a (KX ha);have h5:=Di hin h2 h1 h4 (n:=n);apply List.ext_getElem?;intro k
 by_cases hk:k < n
 ·rw[List.getElem?_map,List.getElem?_range hk]
  have:=h5 k;have hk2:k < (oV f keep n (start n a)).length:=by rw[<- h3.1,hl];exact hk
  rw[List.getElem?_eq_getElem hk2];simp only[Option.map_some,Option.some.injEq];rw[<- this];simp[List.getD,hk2]
 ·rw[List.getElem?_eq_none (by rw[<- h3.1,hl];omega),List.getElem?_eq_none (by simp;omega)]
theorem Zw {f:Flow}{keep:List Int}{i:Int} (h:i∈cyc f keep):i∈keep:=(List.mem_filter.1 h).1
theorem R5 {f:Flow}{keep keep':List Int} (hk:∀i∈keep,i∈keep') {i:Int} (h:qD f keep i=true):qD f keep' i=true:=by
 unfold qD at h ⊢;split at h
 ·exact nD.2 ((nD.1 h).mono hk)
 ·cases h
theorem Oa {f:Flow}{keep keep':List Int} (hk:∀i∈keep,i∈keep') {i:Int} (h:i∈cyc f keep):i∈cyc f keep':=by
 obtain ⟨h1,h2⟩:=List.mem_filter.1 h;exact List.mem_filter.2 ⟨hk i h1,R5 hk h2⟩
end ama
end Go.Vm
end
section
namespace Go.Vm
open Go
section
variable {P:Program}{w:World}
inductive Typed (P:Program):TypeId->List Tr->Prop where
 |bool {t:TypeId}{b:Bool} (h:P.underlying t=some .bool):Typed P t [.bool b]
 |int {t:TypeId}{k:IntKind}{n:Int} (h:P.underlying t=some (.int k)) (hw:(Lit.int k n).wf=true):Typed P t [.int k n]
 |str {t:TypeId}{s:ByteArray} (h:P.underlying t=some .string) (hs:s.size<=maxLen):Typed P t [.str s]
 |KY {t e:TypeId} (h:P.underlying t=some (.slice e)):Typed P t [.sl false []]
 |sl {t e:TypeId}{l:List Tr} (h:P.underlying t=some (.slice e)) (hel:∀x∈l,Typed P e x.cells) (hag:∀x∈l,bR P e=some true->x=.agg x.cells) (hln:∀x∈l,x.cells.length=P.cellsOf e) (hna:∀x∈l,bR P e=some false->x.cells=[x]):Typed P t [.sl true l]
 |struct {t:TypeId}{fs:Array Field}{cs:List Tr} (h:P.underlying t=some (.struct fs)) (hl:cs.length=P.cellsOf t) (hf:∀f∈fs.toList,Typed P f.type ((cs.drop f.offset).take (P.cellsOf f.type))):Typed P t cs
def laid (P:Program):Nat->List Field->Option Nat
 |o,[]=>some o
 |o,f::r=>if f.offset=o then laid P (o+P.cellsOf f.type) r else none
def sN (P:Program):Nat->TypeId->Bool
 |0,_=>false
 |n+1,t=>match P.underlying t with
  |some .bool|some (.int _)|some .string=>P.cellsOf t==1&&bR P t==some false
  |some (.slice e)=>P.cellsOf t==1&&bR P t==some false&&Nat.blt 0 (P.cellsOf e)&&sN P n e
  |some (.struct fs)=>bR P t==some true&&laid P 0 fs.toList==some (P.cellsOf t)&&fs.toList.all fun f=>sN P n f.type
  |_=>false
def sO (w:World) (xs:List Tr) (cs:List Value):Prop:=xs.length=cs.length/\∀(k:Nat) x,xs[k]?=some x->Reads w (fun _=>False) x (cs.getD k undef)/\x.cells=[x]/\(cs.getD k undef).oneCell'=true
theorem sO.one {x:Tr}{v:Value} (hr:Reads w (fun _=>False) x v) (hx:x.cells=[x]) (hv:v.oneCell'=true):sO w [x] [v]:=by
 refine ⟨rfl,fun k y hk=>?_⟩;cases k with
 |zero=>simp at hk;subst hk;exact ⟨hr,hx,hv⟩
 |succ k=>simp at hk
theorem Zx {l:List Tr}{esz:Nat} (hpos:0 < esz) (he:∀x∈l,x.cells.length=esz) {k:Nat}{x:Tr} (hk:(flat l)[k]?=some x):∃y,l[k / esz]?=some y/\y.cells[k % esz]?=some x:=by
 have hlt:=(List.getElem?_eq_some_iff.1 hk).1;rw[bJ l esz he]at hlt;have hi:k / esz < l.length:=(Nat.div_lt_iff_lt_mul hpos).2 hlt;refine ⟨l[k / esz],List.getElem?_eq_getElem hi,?_⟩;have hy:=he _ (List.getElem_mem hi);have hj:k % esz < (l[k / esz]).cells.length:=by rw[hy];exact Nat.mod_lt _ hpos
 have:=flat_get l esz he (k / esz) _ (List.getElem?_eq_getElem hi) (k % esz) _ (List.getElem?_eq_getElem hj);rw[Nat.mul_comm,Nat.div_add_mod]at this;rw[List.getElem?_eq_getElem hj];rw[this]at hk;exact hk
variable {H:Type}{enc:TypeId × Value->H}{base:Nat}{spare:Nat->Bool}{held:Bool}
theorem Dj {R:TypeId->List Value->Prop} (hR:∀t cs,R t cs->∃xs,Typed P t xs/\sO w xs cs) {cs:List Value}:∀(fs:List Field) (o n:Nat),laid P o fs=some n->o<=cs.length->n=cs.length ->
  (∀f∈fs,R f.type ((cs.drop f.offset).take (P.cellsOf f.type)))->∃zs,sO w zs (cs.drop o)/\∀f∈fs,o<=f.offset/\Typed P f.type ((zs.drop (f.offset-o)).take (P.cellsOf f.type))
 |[],o,n,hl,ho,hn,_=>by
  simp only[laid,Option.some.injEq]at hl;refine ⟨[],?_,by simp⟩;subst hl;rw[hn,List.drop_length];exact ⟨rfl,fun k x hk=>by simp at hk⟩
 |f::r,o,n,hl,ho,hn,hf=>by
  unfold laid at hl;split at hl
  ·rename_i hoff
   have hmono:∀(fs:List Field) (o n:Nat),laid P o fs=some n->o<=n:=by
    intro fs
    induction fs with
    |nil=>intro o n h;simp[laid]at h;omega
    |cons g r ih =>
     intro o n h;unfold laid at h;split at h
     ·have:=ih _ _ h;omega
     ·cases h
   have hle:=hmono _ _ _ hl;obtain ⟨xs,h1,h2⟩:=hR _ _ (hf f (by simp));obtain ⟨zs,h3,h4⟩:=Dj hR r (o+P.cellsOf f.type) n hl (by omega) hn (fun g hg=>hf g (by simp[hg]));have hxl:xs.length=P.cellsOf f.type:=by rw[h2.1];simp;omega
   refine ⟨xs++zs,⟨?_,?_⟩,?_⟩
   ·rw[List.length_append,hxl,h3.1];simp;omega
   ·intro k x hk
    rw[List.getElem?_append]at hk;split at hk
    ·rename_i hlt
     have:=h2.2 k x hk;have e:((cs.drop f.offset).take (P.cellsOf f.type)).getD k undef=(cs.drop o).getD k undef:=by
      simp[List.getD,List.getElem?_take,hoff,show k < P.cellsOf f.type by omega]
     rw[e]at this;exact this
    ·rename_i hge
     have:=h3.2 _ x hk;have e:(cs.drop (o+P.cellsOf f.type)).getD (k-xs.length) undef=(cs.drop o).getD k undef:=by
      simp only[List.getD,List.getElem?_drop];congr 2;omega
     rw[e]at this;exact this
   ·intro g hg
    rcases List.mem_cons.1 hg with rfl|hg
    ·refine ⟨by omega,?_⟩
     rw[hoff,Nat.sub_self,List.drop_zero,List.take_left' hxl];exact h1
    ·obtain ⟨g1,g2⟩:=h4 g hg
     refine ⟨by omega,?_⟩;have e:(xs++zs).drop (g.offset-o)=zs.drop (g.offset-(o+P.cellsOf f.type)):=by
      rw[List.drop_append,List.drop_of_length_le (by omega),List.nil_append];congr 1;omega
     rw[e];exact g2
  ·cases hl
theorem XH {m:Nat}{e:TypeId} (h:sN P m e=true):bR P e=some true\/(bR P e=some false/\P.cellsOf e=1):=by
 cases m with
 |zero=>simp[sN]at h
 |succ m =>
  unfold sN at h;split at h<;>simp_all
def R6 (ag:Option Bool) (xs:List Tr):Tr:=match ag with|some true=>.agg xs|_=>xs.headD default
theorem R7 {ag:Option Bool}{xs:List Tr}{cs:List Value} (h:sO w xs cs) (ha:ag=some true\/(ag=some false/\xs.length=1)):(R6 ag xs).cells=xs:=by
 rcases ha with rfl|⟨rfl,hl⟩
 ·rfl
 ·obtain ⟨x,rfl⟩:=List.length_eq_one_iff.1 hl
  exact (h.2 0 x rfl).2.1
theorem IQ:∀(fuel m:Nat) (t:TypeId) (cs:List Value) (d:DataW H) (ps:List MemPlace),DataW.trod enc P w base spare held fuel t cs=some (d,ps)->sN P m t=true->∃xs,Typed P t xs/\sO w xs cs:=by
 intro fuel
 induction fuel with
 |zero=>intro m t cs d ps h;simp[DataW.trod]at h
 |succ fuel ih =>
  intro m t cs d ps h hp;cases m with
  |zero=>simp[sN]at hp
  |succ m =>
   unfold sN at hp;unfold DataW.trod at h;split at hp
   ·rename_i hu
    rw[hu]at h;split at h<;>simp_all
    rename_i b;exact ⟨[.bool b],.bool hu,.one (.bool b) rfl rfl⟩
   ·rename_i k hu
    rw[hu]at h;split at h<;>simp_all
    obtain ⟨⟨rfl,hw⟩,_⟩:=h;exact ⟨_,.int hu hw,.one (.int _ _) rfl rfl⟩
   ·rename_i hu
    rw[hu]at h;split at h<;>simp_all
    rename_i b;exact ⟨[.str b],.str hu h.1,.one (.str b) rfl rfl⟩
   ·rename_i e hu
    rw[hu]at h;simp only[Bool.and_eq_true,beq_iff_eq]at hp;obtain ⟨⟨⟨_,_⟩,hpos⟩,hpe⟩:=hp;have hpos':0 < P.cellsOf e:=by simp[Nat.blt]at hpos;omega
    split at h<;>try (simp_all;done)
    ·rename_i hu2;injection hu2 with hu2;injection hu2 with hu2;subst hu2
     exact ⟨_,.KY hu,.one .nil rfl rfl⟩
    ·rename_i e' a len cap hu2
     injection hu2 with hu2;injection hu2 with hu2;subst hu2
     simp only at h;split at h<;>try (cases h;done)
     rename_i hc;obtain ⟨hb,hlc,hcm⟩:=hc;cases hmm:(List.range len).mapM (fun i=>(w.cells? base (a.add (i*P.cellsOf e)) (P.cellsOf e)).bind (DataW.trod enc P w base spare held fuel e)) with
     |none=>rw[hmm]at h;cases h
     |some ys =>
      clear h;have hyl:=mapM_some_length hmm;have each:∀i,i < len->∃xs,∃ci,w.cells? base (a.add (i*P.cellsOf e)) (P.cellsOf e)=some ci/\Typed P e xs/\sO w xs ci:=by
       intro i hi;have h1:=mapM_some_get hmm i i (by simp[hi]);have h2:ys[i]?=some (ys[i]'(by rw[hyl];simpa using hi)):=List.getElem?_eq_getElem _;rw[h2]at h1;cases hcc:w.cells? base (a.add (i*P.cellsOf e)) (P.cellsOf e) with
       |none=>rw[hcc]at h1;cases h1
       |some ci =>
        rw[hcc]at h1;simp only[Option.bind_some]at h1;obtain ⟨xs,g1,g2⟩:=ih m e ci _ _ (by rw[h1]) hpe;exact ⟨xs,ci,rfl,g1,g2⟩
      obtain ⟨X,hX⟩:∃X:Nat->List Tr,∀i,i < len->∃ci,w.cells? base (a.add (i*P.cellsOf e)) (P.cellsOf e)=some ci/\Typed P e (X i)/\sO w (X i) ci :=
       ⟨fun i=>if h:i < len then Classical.choose (each i h) else [],fun i h=>by simp only[dif_pos h];exact Classical.choose_spec (each i h)⟩
      have hXl:∀i,i < len->(X i).length=P.cellsOf e:=fun i h=>by
       obtain ⟨ci,h1,_,h3⟩:=hX i h;rw[h3.1];exact (World.cells?_some h1).2.1
      have hag:=XH hpe;have hcell:∀i,i < len->(R6 (bR P e) (X i)).cells=X i:=fun i h=>by
       obtain ⟨ci,h1,_,h3⟩:=hX i h;refine R7 h3 (hag.imp id fun h4=>⟨h4.1,by rw[hXl i h];exact h4.2⟩)
      generalize Zy:(List.range len).map (fun i=>R6 (bR P e) (X i))=l;have hl:l.length=len:=by rw[<- Zy];simp
      have hget:∀(i:Nat) y,l[i]?=some y->i < len/\y=R6 (bR P e) (X i):=by
       intro i y hy;have hi:=(List.getElem?_eq_some_iff.1 hy).1;rw[hl]at hi;rw[<- Zy,List.getElem?_map,List.getElem?_range hi]at hy;simp only[Option.map_some,Option.some.injEq]at hy;exact ⟨hi,hy.symm⟩
      have hmem:∀y∈l,∃i,i < len/\y=R6 (bR P e) (X i):=by
       intro y hy;obtain ⟨i,hi⟩:=List.mem_iff_getElem?.1 hy;exact ⟨i,hget i y hi⟩
      have hlen:∀x∈l,x.cells.length=P.cellsOf e:=by
       intro y hy;obtain ⟨i,hi,rfl⟩:=hmem y hy;rw[hcell i hi,hXl i hi]
      have hspot:flat l≠[]->a.spot=none:=by
       intro hne;have hpl:0 < len:=by
        rcases Nat.eq_zero_or_pos len with h0|h0
        ·rw[h0]at hl;have:=List.eq_nil_of_length_eq_zero hl;subst this;exact absurd rfl hne
        ·exact h0
       obtain ⟨ci,h1,_,_⟩:=hX 0 hpl;obtain ⟨_,h5,h6⟩:=World.cells?_some h1;have h7:=h6 0 hpos';rw[List.getElem?_eq_getElem (by omega:0 < ci.length)]at h7;have:=World.cell?_spot h7;simpa[Addr.add] using this
      refine ⟨[.sl true l],.sl hu (fun y hy=>?_) (fun y hy WE=>?_) hlen (fun y hy WE=>?_),.one ?_ rfl rfl⟩
      ·obtain ⟨i,hi,rfl⟩:=hmem y hy
       rw[hcell i hi];obtain ⟨ci,_,h2,_⟩:=hX i hi;exact h2
      ·obtain ⟨i,hi,rfl⟩:=hmem y hy
       rw[WE];rfl
      ·obtain ⟨i,hi,rfl⟩:=hmem y hy
       obtain ⟨ci,_,_,h3⟩:=hX i hi;have hx1:(X i).length=1:=by
        rcases hag with h9|h9
        ·rw[WE]at h9;cases h9
        ·rw[hXl i hi];exact h9.2
       obtain ⟨x,hx⟩:=List.length_eq_one_iff.1 hx1;rw[hx]at h3 ⊢;rw[WE];exact (h3.2 0 x rfl).2.1
      ·have key:∀(k:Nat) x,(flat l)[k]?=some x->∃v,w.cell? (a.add k)=some v/\Reads w (fun _=>False) x v/\v.oneCell'=true:=by
        intro k x hk;have hs:=hspot (by intro e0;rw[e0]at hk;simp at hk);obtain ⟨y,hy,hyk⟩:=Zx hpos' hlen hk;obtain ⟨hi,rfl⟩:=hget _ y hy;rw[hcell _ hi]at hyk;obtain ⟨ci,h1,_,h3⟩:=hX _ hi;obtain ⟨_,h5,h6⟩:=World.cells?_some h1;have hj:k % P.cellsOf e < P.cellsOf e:=Nat.mod_lt _ hpos';have h7:=h6 _ hj;rw[add_add a hs,Nat.mul_comm,Nat.div_add_mod]at h7;have h8:=h3.2 _ x hyk;refine ⟨ci.getD (k % P.cellsOf e) undef,?_,h8.1,h8.2.2⟩;rw[h7];simp[List.getD,List.getElem?_eq_getElem (by omega:k % P.cellsOf e < ci.length)]
       have:=Reads.sl (w:=w) (L:=fun _=>False) (l:=l) (a:=a) (cap:=cap) (esz:=P.cellsOf e) (vals:=fun k=>(w.cell? (a.add k)).getD undef) hspot (by omega) hcm hlen
        (fun k x hk=>by obtain ⟨v,h1,h2,h3⟩:=key k x hk;rw[h1];exact ⟨id,rfl,h3⟩) (fun k x hk=>by obtain ⟨v,h1,h2,h3⟩:=key k x hk;rw[h1];exact h2)
       rw[hl]at this;exact this
   ·rename_i fs hu
    rw[hu]at h;simp only[Bool.and_eq_true,beq_iff_eq,List.all_eq_true]at hp;obtain ⟨⟨hag,hlaid⟩,hall⟩:=hp;have h:(if cs.length=P.cellsOf t then (fs.toList.mapM fun f=>DataW.trod enc P w base spare held fuel f.type ((cs.drop f.offset).take (P.cellsOf f.type))).map fun xs=>(DataW.agg (xs.map (·.1)),xs.flatMap (·.2)) else none)=some (d,ps):=by
     split at h<;>simp_all
    split at h<;>try (cases h;done)
    rename_i hcl;cases hmm:fs.toList.mapM (fun f=>DataW.trod enc P w base spare held fuel f.type ((cs.drop f.offset).take (P.cellsOf f.type))) with
    |none=>rw[hmm]at h;cases h
    |some ys =>
     have hf:∀f∈fs.toList,∃xs,Typed P f.type xs/\sO w xs ((cs.drop f.offset).take (P.cellsOf f.type)):=by
      intro f hfm;obtain ⟨i,hi⟩:=List.mem_iff_getElem?.1 hfm;have h1:=mapM_some_get hmm i f hi;have hlt:i < ys.length:=by rw[mapM_some_length hmm];exact (List.getElem?_eq_some_iff.1 hi).1
      rw[List.getElem?_eq_getElem hlt]at h1;exact ih m f.type _ _ _ (by rw[h1]) (hall f hfm)
     obtain ⟨zs,g1,g2⟩:=Dj (P:=P) (w:=w) (R:=fun t c=>∃xs,Typed P t xs/\sO w xs c) (fun _ _ h=>h) (cs:=cs) fs.toList 0 _ hlaid (Nat.zero_le _) hcl.symm hf;refine ⟨zs,.struct hu (by rw[g1.1];simpa using hcl) (fun f hfm=>?_),by simpa using g1⟩;simpa using (g2 f hfm).2
   ·cases hp
theorem arg_agg {m:Nat}{t:TypeId}{vs:Array Value}{d:DataW H}{ps:List MemPlace} (h:DataW.Trod enc P w base spare held t (.agg vs) d ps) (hp:sN P m t=true):∃xs,Typed P t xs/\Reads w (fun _=>False) (.agg xs) (.agg vs):=by
 obtain ⟨fuel,hf⟩:=h;obtain ⟨xs,h1,h2⟩:=IQ fuel m t _ d ps hf hp;refine ⟨xs,h1,.agg (by rw[h2.1];simp[Value.cells]) fun i x hx=>?_⟩;have:=(h2.2 i x hx).1;have e:((Value.agg vs).cells.toList).getD i undef=vs.getD i undef:=by simp[Value.cells,List.getD,Array.getD];split<;>simp_all
 rw[e]at this;exact this
theorem arg_one {m:Nat}{t:TypeId}{v:Value}{d:DataW H}{ps:List MemPlace} (h:DataW.Trod enc P w base spare held t v d ps) (hp:sN P m t=true) (hv:v.cells=#[v]):∃x,Typed P t [x]/\Reads w (fun _=>False) x v:=by
 obtain ⟨fuel,hf⟩:=h;obtain ⟨xs,h1,h2⟩:=IQ fuel m t _ d ps hf hp;rw[hv]at h2;obtain ⟨x,rfl⟩:=List.length_eq_one_iff.1 (by rw[h2.1];rfl);exact ⟨x,h1,by simpa using (h2.2 0 x rfl).1⟩
end
end Go.Vm
end
section
namespace Go.Vm
open Go
section
variable {P:Program}{mu:Nat->Bool}{F:Ex->St->Prop}{r:List Item}{s:St}{h:Hp}
@[go_sem] theorem alr (x:Tr):(PV.t x).un=x.pv:=aR rfl
@[go_sem] theorem ajS (id:Id) (n:Nat):(PV.rf id n).un=.rf id n:=aR rfl
@[go_sem] theorem ajT (id:Id) (n off:Nat):(PV.ad id n off).un=.ad id n off:=aR rfl
@[go_sem] theorem ajU (cs:List Tr):(PV.ro cs).un=.ro cs:=aR rfl
@[go_sem] theorem ajV (f:FuncId) (l:List PV):(PV.fn f l).un=.fn f l:=aR rfl
@[go_sem] theorem abX (args:List PV) (t:Nat):Fe args t=(match args[t]? with|some x=>x.un|none=>.undef):=aR rfl
@[go_sem] theorem ads (args:List PV) (h:Hp):(u7 args h).sl=Fe args:=aR rfl
@[go_sem] theorem adt (args:List PV) (h:Hp):(u7 args h).hp=h:=aR rfl
def R8 (x:Option PV) (Q:PV->Hp->Prop) (h:Hp):Prop:=match x with|some r=>Q r h|none=>False
@[go_sem] theorem aeZ (x:PV) (Q:PV->Hp->Prop) (h:Hp):R8 (some x) Q h=Q x h:=aR rfl
theorem R9 (x:Option PV) (Q:PV->Hp->Prop) (h:Hp):(∃r,x=some r/\Q r h)=R8 x Q h:=by
 cases x<;>simp[R8]
@[go_sem] theorem agd (fn:Func) (Q:PV->Hp->Prop):RO P fn Q .ret s=R8 (Dc P s fn.results.toList) Q s.hp:=R9 _ _ _
@[go_sem] theorem abY (fn:Func) (Q:PV->Hp->Prop):RO P fn Q .normal s=R8 (Dc P s fn.results.toList) Q s.hp:=R9 _ _ _
def adu (l:Option (List PV)):Option PV:=match l with|some ts=>some (tV ts)|none=>none
@[go_sem] theorem ae0 (l:List PV):adu (some l)=some (tV l):=aR rfl
theorem Sb (l:List ResultVar):Dc P s l=(match bA (kD P s) l with|some [x]=>some x|some ts=>some (tV ts)|none=>none):=rfl
@[go_sem] theorem agf (a:ResultVar):Dc P s [a]=kD P s a:=by
 rw[Sb];simp only[bA];cases kD P s a<;>rfl
@[go_sem] theorem ae1 (a b:ResultVar) (l:List ResultVar):Dc P s (a::b::l)=adu (bA (kD P s) (a::b::l)):=by
 rw[Sb];simp only[bA];cases kD P s a<;>cases kD P s b<;>cases bA (kD P s) l<;>rfl
@[go_sem] theorem agh:Dc P s []=some (.t (.tup [])):=aR rfl
def U4 (a:Option PV) (l:Option (List PV)):Option (List PV):=match a,l with|some b,some bs=>some (b::bs)|_,_=>none
@[go_sem] theorem adv (a:PV) (l:List PV):U4 (some a) (some l)=some (a::l):=aR rfl
@[go_sem] theorem Zz:bA (kD P s) []=some []:=aR rfl
@[go_sem] theorem YN (a:ResultVar) (l:List ResultVar):bA (kD P s) (a::l)=U4 (kD P s a) (bA (kD P s) l):=by
 simp only[bA,U4];cases kD P s a<;>cases bA (kD P s) l<;>rfl
@[go_sem] theorem ae2 (t:Tmp):kD P s (.tmp t)=some (s.sl t):=aR rfl
@[go_sem] theorem adw (a:Tmp) (t:TypeId):kD P s (.cell a t)=gB P t (s.sl a) s.hp:=aR rfl
theorem KZ (l:List PV) (i:Nat):o9 (tV l) i=l[i]?:=by
 unfold tV o9;cases h:trees l with
 |none=>rfl
 |some ts =>
  have:=kY h;subst this
  simp only[List.getElem?_map];cases ts[i]?<;>rfl
attribute [go_sem ↓] KZ
theorem PZ {g:FuncId}{args:List PV}{Q:PV->Hp->Prop} (he:Enters P g) (hd:(∀x,PV.t x∈args->x.sized=true)->(∀id o,hget h id=some o->o.len<=9223372036854775807)->dM P g args h Q):dM P g args h Q:=by
 refine ⟨he,fun w A μ vs hr hl hv=>?_⟩;refine (hd (fun x hx=>?_) (fun id o ho=>?_)).2 w A μ vs hr hl hv
 ·obtain ⟨i,hi⟩:=List.mem_iff_getElem?.1 hx
  exact (hv i _ hi).tree.sized
 ·by_cases hz:o.esz=0
  ·rw[hr.Ij ho hz];decide
  obtain ⟨cur,cap,h1,h2,h3,h4,h5,h6,h7,_⟩:=hr.obj id o ho hz;exact Nat.le_trans h6 (by simpa[maxLen] using h7)
theorem dI {g:FuncId}{fn:Func}{c:Code}{args:List PV}{Q:PV->Hp->Prop} (hm:P.follows .mixedOrders=true) (hf:P.funcs[g]?=some fn) (hb:fn.body=some c) (hname:(fn.name=="runtime.NumGoroutine")=false)
  (mu:Nat->Bool) (hok:kN mu fn.ntmps c=true) (hn:Nat.ble args.length fn.ntmps=true)
  (hw:(∀x,PV.t x∈args->x.sized=true)->(∀id o,hget h id=some o->o.len<=9223372036854775807)->aI P mu (RO P fn Q) [.code c] .normal (u7 args h)):dM P g args h Q :=
 PZ ⟨fn,hf,hname,by simp[hb]⟩ fun hs ho=>PE hm hf hb hname mu hok (Nat.le_of_ble_eq_true hn) (by rw[IC];exact hw hs ho)
end
def Same (h h':Hp) (ids:List Id):Prop:=∀id o,id∉ids->hget h id=some o->hget h' id=some o
theorem Same.refl (h:Hp) (ids:List Id):Same h h ids:=fun _ _ _ ho=>ho
theorem Same.trans {h h' h'':Hp}{ids Sc:List Id} (a:Same h h' ids) (b:Same h' h'' Sc):Same h h'' (ids++Sc):=fun id o hn ho=>b id o (fun e=>hn (by simp[e])) (a id o (fun e=>hn (by simp[e])) ho)
theorem Same.mono {h h':Hp}{ids Sc:List Id} (a:Same h h' ids) (hs:∀i∈ids,i∈Sc):Same h h' Sc:=fun id o hn ho=>a id o (fun e=>hn (hs _ e)) ho
theorem Same.set (h:Hp) (id:Id) (o:Obj):Same h (hset h id o) [id]:=fun i o' hn ho=>by
 rw[iR,if_neg (by simpa using hn)];exact ho
theorem Same.new (h:Hp) (d:Nat) (o:Obj):Same h (hnew h d o) []:=fun i o' _ ho=>by
 rw[dz,if_neg]
 ·exact ho
 ·intro e;rw[e,kL]at ho;cases ho
end Go.Vm
namespace Go.Vm
open Go
theorem pE {h:Hp}{id:Id}{l:List Tr}{esz n m:Nat}{e:TypeId}{ag lv:Bool} (k:Nat) (hg:hget h id=some ⟨l.map .t,esz,n,e,ag,lv⟩):reach h (k+1) (.rf id m)=[id]:=by
 simp only[reach,hg];rw[AB]
theorem lW {h:Hp}{ids:List Id}{id:Id}{o:Obj} (hg:hget h id=some o) (hn:ids.contains id=false):hget (frz h ids) id=some o:=by
 rw[mJ,hg];simp only[Option.map_some,hn,Bool.not_false,Bool.and_true]
theorem K3 {h:Hp}{id id':Id}{l:List Tr}{esz n m:Nat}{e:TypeId}{ag lv:Bool}{o:Obj} (hg:hget h id=some ⟨l.map .t,esz,n,e,ag,lv⟩) (ho:hget h id'=some o) (hne:(id==id')=false) :
  hget (frz h (reach h dep (.rf id m)++[])) id'=some o:=by
 refine lW ho ?_;rw[show dep=5+1 from rfl,pE 5 hg];have:(id'==id)=false:=by
  rw[beq_eq_false_iff_ne]at hne ⊢;exact fun e=>hne e.symm
 simp[this];intro e;simp[e]at this
end Go.Vm
end
section
namespace Go.Whole
open Go
def B:Nat:=4294967296
theorem eu:B=4294967296:=rfl
theorem fQ:0 < B:=by decide
def val:List Nat->Nat
 |[]=>0
 |d::r=>d+B*val r
def strip:List Nat->List Nat
 |[]=>[]
 |d::r=>if strip r=[] then (if d=0 then [] else [d]) else d::strip r
def okD (l:List Nat):Prop:=∀d∈l,d < B
def aO (n:Nat):List Nat:=if n=0 then [] else n % B::aO (n / B)
termination_by n
decreasing_by exact Nat.div_lt_self (by omega) (by decide)
theorem gF:aO 0=[]:=by unfold aO;rfl
theorem yw {n:Nat} (h:n≠0):aO n=n % B::aO (n / B):=by
 conv=>lhs;unfold aO
 rw[if_neg h]
theorem bG {d:Nat}{l:List Nat}:okD (d::l)↔d < B/\okD l:=by simp[okD]
theorem qE:okD []:=by simp[okD]
theorem IU {a b:List Nat}:okD (a++b)↔okD a/\okD b:=by
 simp only[okD,List.mem_append];exact ⟨fun h=>⟨fun d hd=>h d (.inl hd),fun d hd=>h d (.inr hd)⟩,fun h d hd=>hd.elim (h.1 d) (h.2 d)⟩
theorem Ob {l:List Nat} (h:okD l) (n:Nat):okD (l.take n):=fun d hd=>h d (List.mem_of_mem_take hd)
theorem rQ {l:List Nat} (h:okD l) (n:Nat):okD (l.drop n):=fun d hd=>h d (List.mem_of_mem_drop hd)
theorem GU {l:List Nat} (h:okD l):okD l.tail:=by cases l with|nil=>exact h|cons=>exact (bG.1 h).2
theorem mK {l:List Nat} (h:okD l):l.headD 0 < B:=by cases l with|nil=>exact fQ|cons=>exact (bG.1 h).1
theorem dR:∀n,okD (aO n):=by
 intro n
 induction n using Nat.strongRecOn with
 |ind n ih =>
  by_cases h:n=0
  ·subst h;rw[gF];exact qE
  ·rw[yw h,bG]
   exact ⟨Nat.mod_lt _ fQ,ih _ (Nat.div_lt_self (by omega) (by decide))⟩
theorem bW:∀n,val (aO n)=n:=by
 intro n
 induction n using Nat.strongRecOn with
 |ind n ih =>
  by_cases h:n=0
  ·subst h;rw[gF];rfl
  ·rw[yw h]
   simp only[val,ih _ (Nat.div_lt_self (by omega:0 < n) (by decide:1 < B))];exact Nat.mod_add_div n B
theorem yx {n:Nat}:aO n=[]↔n=0:=by
 constructor
 ·intro h;have:=bW n;rw[h]at this;exact this.symm
 ·intro h;subst h;exact gF
theorem pU:∀ {l:List Nat},okD l->strip l=aO (val l)
 |[],_=>by simp[strip,val,gF]
 |d::r,h=>by
  have hd:=(bG.1 h).1;have ih:=pU (bG.1 h).2;simp only[strip,ih,yx,val]
  by_cases hr:val r=0
  ·rw[if_pos hr,hr,Nat.mul_zero,Nat.add_zero]
   by_cases h0:d=0
   ·rw[if_pos h0,h0,gF]
   ·rw[if_neg h0,yw h0,Nat.mod_eq_of_lt hd,Nat.div_eq_of_lt hd,gF]
  ·rw[if_neg hr]
   have hpos:d+B*val r≠0:=by
    have:=Nat.mul_pos fQ (Nat.pos_of_ne_zero hr);omega
   rw[yw hpos,Nat.add_mul_mod_self_left,Nat.mod_eq_of_lt hd,Nat.add_mul_div_left _ _ fQ,Nat.div_eq_of_lt hd,Nat.zero_add]
theorem val_append:∀(a b:List Nat),val (a++b)=val a+B ^ a.length*val b
 |[],b=>by simp[val]
 |d::a,b=>by
  simp only[List.cons_append,val,val_append a b,List.length_cons,Nat.pow_succ,Nat.mul_add];rw[Nat.mul_comm (B ^ a.length) B,Nat.mul_assoc];omega
theorem Cv:∀ {l:List Nat},okD l->val l < B ^ l.length
 |[],_=>by simp[val]
 |d::r,h=>by
  have h1:=(bG.1 h).1;have h2:=Cv (bG.1 h).2;simp only[val,List.length_cons,Nat.pow_succ];have:B*val r+B<=B ^ r.length*B:=by
   rw[Nat.mul_comm (B ^ r.length),<- Nat.mul_succ];exact Nat.mul_le_mul_left _ h2
  omega
theorem zm:∀n,val (List.replicate n 0)=0
 |0=>rfl
 |n+1=>by simp[List.replicate_succ,val,zm n]
theorem zn (n:Nat):okD (List.replicate n 0):=fun d hd=>by rw[(List.mem_replicate.1 hd).2];exact fQ
theorem cZ {n k:Nat} (h:n < B ^ k):(aO n).length<=k:=by
 induction k generalizing n with
 |zero =>
  have:n=0:=by simpa using h
  subst this;simp[gF]
 |succ k ih =>
  by_cases h0:n=0
  ·subst h0;simp[gF]
  ·rw[yw h0,List.length_cons]
   have:n / B < B ^ k:=by
    rw[Nat.div_lt_iff_lt_mul fQ];rw[Nat.pow_succ]at h;exact h
   have:=ih this;omega
theorem eP {n k:Nat} (h:(aO n).length<=k):n < B ^ k:=by
 have:=Cv (dR n);rw[bW]at this;exact Nat.lt_of_lt_of_le this (Nat.pow_le_pow_right fQ h)
theorem Fu {n k:Nat}:(aO n).length<=k↔n < B ^ k:=⟨eP,cZ⟩
theorem eF {a b:Nat} (h:a<=b):(aO a).length<=(aO b).length :=
 cZ (Nat.lt_of_le_of_lt h (eP (Nat.le_refl _)))
theorem oW {a b:List Nat} (ha:okD a) (hb:okD b) (hl:a.length=b.length) {i:Nat} (hi:i < a.length) (hd:a.drop (i+1)=b.drop (i+1)) (hx:a[i]! < b[i]!):val a < val b:=by
 have hib:i < b.length:=by omega
 have ea:a=a.take i++a[i]::a.drop (i+1):=by rw[<- List.drop_eq_getElem_cons hi,List.take_append_drop]
 have eb:b=b.take i++b[i]::b.drop (i+1):=by rw[<- List.drop_eq_getElem_cons hib,List.take_append_drop]
 rw[ea,eb,val_append,val_append,hd];have h1:=Cv (Ob ha i);have la:(a.take i).length=i:=by rw[List.length_take];omega
 have lb:(b.take i).length=i:=by rw[List.length_take];omega
 rw[la]at h1 ⊢;rw[lb]
 simp only[val,Nat.mul_add];simp only[hi,hib,getElem!_pos]at hx;have:B ^ i*a[i]+B ^ i<=B ^ i*b[i]:=by rw[<- Nat.mul_succ];exact Nat.mul_le_mul_left _ hx
 omega
def AQ (a b:List Nat):Int:=if a.length≠b.length then (a.length:Int)-b.length else if val a < val b then -1 else if val b < val a then 1 else 0
theorem zo (x y:Nat):(0<=AQ (aO x) (aO y))↔y<=x:=by
 unfold AQ;rw[bW,bW]
 by_cases hl:(aO x).length=(aO y).length
 ·rw[if_neg (by simp[hl])]
  split
  ·constructor
   ·intro h;omega
   ·intro h;omega
  ·split<;>constructor<;>intros<;>omega
 ·rw[if_pos (by simpa using hl)]
  constructor
  ·intro h
   refine Decidable.byContradiction fun hn=>?_
   have:=eF (a:=x) (b:=y) (by omega);omega
  ·intro h
   have:=eF h;omega
def uy:List Nat->List Nat->Nat->List Nat
 |[],_,c=>[c]
 |x::a,b,c=>(x+b.headD 0+c) % B::uy a b.tail ((x+b.headD 0+c) / B)
theorem qF (b:List Nat):val b=b.headD 0+B*val b.tail:=by cases b<;>simp[val]
theorem D8:∀ {a b:List Nat}{c:Nat},okD a->okD b->c<=1->b.length<=a.length->val (uy a b c)=val a+val b+c/\okD (uy a b c)/\(uy a b c).length=a.length+1
 |[],b,c,_,_,hc,hl=>by
  have:b=[]:=List.eq_nil_of_length_eq_zero (by simpa using hl);subst this;simp only[uy,val];exact ⟨by omega,by rw[bG];exact ⟨by rw[eu];omega,qE⟩,rfl⟩
 |x::a,b,c,ha,hb,hc,hl=>by
  have h1:=(bG.1 ha).1;have h2:=mK hb;have hc':(x+b.headD 0+c) / B<=1:=by
   have:x+b.headD 0+c < 2*B:=by omega
   have:=(Nat.div_lt_iff_lt_mul fQ).2 this;omega
  obtain ⟨e1,e2,e3⟩:=D8 (a:=a) (b:=b.tail) (bG.1 ha).2 (GU hb) hc' (by simp only[List.length_tail,List.length_cons]at hl ⊢;omega);simp only[uy,val,e1,bG,List.length_cons,e3];refine ⟨?_,⟨Nat.mod_lt _ fQ,e2⟩,trivial⟩;rw[qF b];have:=Nat.mod_add_div (x+b.headD 0+c) B;simp only[Nat.mul_add];omega
def sb (x y c:Nat):Nat:=(x+B-y+B-c) % B
def bw (x y c:Nat):Nat:=if x < y+c then 1 else 0
def vk:List Nat->List Nat->Nat->List Nat
 |[],_,_=>[]
 |x::a,b,c=>sb x (b.headD 0) c::vk a b.tail (bw x (b.headD 0) c)
theorem K4:∀ {a b:List Nat}{c:Nat},okD a->okD b->c<=1->b.length<=a.length->okD (vk a b c)/\(vk a b c).length=a.length/\∃c',val (vk a b c)+val b+c=val a+c'*B ^ a.length
 |[],b,c,_,_,hc,hl=>by
  have:b=[]:=List.eq_nil_of_length_eq_zero (by simpa using hl);subst this;exact ⟨qE,rfl,c,by simp[vk,val]⟩
 |x::a,b,c,ha,hb,hc,hl=>by
  have h1:=(bG.1 ha).1;have h2:=mK hb;obtain ⟨e1,e2,c',e3⟩:=K4 (a:=a) (b:=b.tail) (c:=bw x (b.headD 0) c) (bG.1 ha).2 (GU hb) (by unfold bw;split<;>omega) (by simp only[List.length_tail,List.length_cons]at hl ⊢;omega);simp only[bw]at e1 e2 e3;simp only[vk,sb,bw,val,bG,List.length_cons,e2];refine ⟨⟨Nat.mod_lt _ fQ,e1⟩,trivial,c',?_⟩;rw[qF b];have key:(x+B-b.headD 0+B-c) % B+b.headD 0+c=x+B*(if x < b.headD 0+c then 1 else 0):=by
   split
   ·rename_i hlt
    have e:x+B-b.headD 0+B-c=(x+B-b.headD 0-c)+B:=by omega
    rw[e,Nat.add_mod_right,Nat.mod_eq_of_lt (by omega)];omega
   ·rename_i hlt
    have e:x+B-b.headD 0+B-c=(x-b.headD 0-c)+B+B:=by omega
    rw[e,Nat.add_mod_right,Nat.add_mod_right,Nat.mod_eq_of_lt (by omega)];omega
  have e4:B*(val (vk a b.tail (if x < b.headD 0+c then 1 else 0))+val b.tail+(if x < b.headD 0+c then 1 else 0))=B*(val a+c'*B ^ a.length):=by rw[e3]
  have e5:c'*B ^ (a.length+1)=B*(c'*B ^ a.length):=by rw[Nat.pow_succ,<- Nat.mul_assoc,Nat.mul_comm]
  rw[e5];simp only[Nat.mul_add]at e4;generalize B*(if x < b.headD 0+c then 1 else 0)=q at *;omega
theorem XI {a b:List Nat} (ha:okD a) (hb:okD b) (hl:b.length<=a.length) (hv:val b<=val a):val (vk a b 0)=val a-val b/\okD (vk a b 0)/\(vk a b 0).length=a.length:=by
 obtain ⟨h1,h2,c',h3⟩:=K4 ha hb (Nat.zero_le _) hl;refine ⟨?_,h1,h2⟩;have h4:=Cv h1;rw[h2]at h4;have h5:=Cv ha;have:c'=0:=by
  rcases Nat.eq_zero_or_pos c' with h|h
  ·exact h
  ·have:1*B ^ a.length<=c'*B ^ a.length:=Nat.mul_le_mul_right _ h
   omega
 subst this;omega
def qG (a:Nat):List Nat->List Nat->Nat->List Nat
 |[],o,c=>c % B::o.tail
 |b::y,o,c=>(c+a*b+o.headD 0) % B::qG a y o.tail ((c+a*b+o.headD 0) / B)
theorem K5 {a:Nat} (ha:a < B):∀ {y o:List Nat}{c:Nat},okD y->okD o->c < B->y.length < o.length->(∀d∈o.drop y.length,d=0) ->
  val (qG a y o c)=a*val y+val o+c/\okD (qG a y o c)/\(qG a y o c).length=o.length/\∀d∈(qG a y o c).drop (y.length+1),d=0
 |[],o,c,_,ho,hc,hl,hz=>by
  cases o with
  |nil=>simp at hl
  |cons x o =>
   have hx:x=0:=hz x (by simp);subst hx;simp only[qG,val,List.tail_cons,Nat.mod_eq_of_lt hc,bG,List.length_cons,List.length_nil];refine ⟨by omega,⟨hc,(bG.1 ho).2⟩,trivial,fun d hd=>hz d ?_⟩;simp only[List.length_nil,List.drop_zero];simp at hd;exact List.mem_cons_of_mem _ hd
 |b::y,o,c,hy,ho,hc,hl,hz=>by
  cases o with
  |nil=>simp at hl
  |cons x o =>
   have hb:=(bG.1 hy).1;have hx:=(bG.1 ho).1;have hab:a*b<=(B-1)*(B-1):=Nat.mul_le_mul (by omega) (by omega);have hc':(c+a*b+x) / B < B:=by
    rw[Nat.div_lt_iff_lt_mul fQ];have:(B-1)*(B-1)=18446744065119617025:=by decide
    have:B*B=18446744073709551616:=by decide
    rw[eu]at hc hx;omega
   obtain ⟨e1,e2,e3,e4⟩:=K5 ha (y:=y) (o:=o) (c:=(c+a*b+x) / B) (bG.1 hy).2 (bG.1 ho).2 hc' (by simpa using hl) (fun d hd=>hz d (by simpa using hd));simp only[qG,List.headD_cons,List.tail_cons,val,e1,bG,List.length_cons,e3];refine ⟨?_,⟨Nat.mod_lt _ fQ,e2⟩,trivial,fun d hd=>e4 d (by simpa using hd)⟩;have:=Nat.mod_add_div (c+a*b+x) B;have e5:a*(b+B*val y)=a*b+B*(a*val y):=by rw[Nat.mul_add,Nat.mul_left_comm]
   rw[e5];simp only[Nat.mul_add];omega
def mulL:List Nat->List Nat->List Nat->List Nat
 |[],_,o=>o
 |a::x,y,o=>(qG a y o 0).headD 0::mulL x y (qG a y o 0).tail
theorem K6:∀ {x y o:List Nat},okD x->okD y->okD o->o.length=x.length+y.length->(∀d∈o.drop y.length,d=0)->val (mulL x y o)=val x*val y+val o/\okD (mulL x y o)
 |[],y,o,_,_,ho,_,_=>by simp[mulL,val,ho]
 |a::x,y,o,hx,hy,ho,hl,hz=>by
  simp only[List.length_cons]at hl;obtain ⟨e1,e2,e3,e4⟩:=K5 (bG.1 hx).1 hy ho fQ (by omega) hz;obtain ⟨f1,f2⟩:=K6 (x:=x) (y:=y) (o:=(qG a y o 0).tail) (bG.1 hx).2 hy (GU e2) (by rw[List.length_tail,e3];omega) (fun d hd=>e4 d (by rw[<- List.drop_one,List.drop_drop,Nat.add_comm]at hd;exact hd));simp only[mulL,val,f1,bG];refine ⟨?_,mK e2,f2⟩;have:=qF (qG a y o 0);rw[e1]at this;have e5:(a+B*val x)*val y=a*val y+B*(val x*val y):=by rw[Nat.add_mul,Nat.mul_assoc]
  rw[e5];simp only[Nat.mul_add];omega
end Go.Whole
namespace Go.Whole
theorem ae3 (b:BitVec 32):b.toNat / 2147483648=if b.msb then 1 else 0:=by
 have h:=b.isLt;have:=BitVec.msb_eq_decide b;rw[this]
 by_cases hc:2147483648<=b.toNat
 ·rw[if_pos (by simpa using hc)];omega
 ·rw[if_neg (by simpa using hc)];omega
theorem XJ (X Y D:BitVec 32) (c:Nat) (hc:c<=1) (hD:D.toNat=(X.toNat+4294967296-Y.toNat+4294967296-c) % 4294967296) :
  ((~~~X &&& Y) ||| (~~~(X ^^^ Y) &&& D)).toNat / 2147483648=if X.toNat < Y.toNat+c then 1 else 0:=by
 rw[ae3];have hX:=X.isLt;have hY:=Y.isLt;simp only[BitVec.msb_or,BitVec.msb_and,BitVec.msb_not,BitVec.msb_xor,BitVec.msb_eq_decide X,BitVec.msb_eq_decide Y,BitVec.msb_eq_decide D,hD]
 by_cases h1:2147483648<=X.toNat<;>by_cases h2:2147483648<=Y.toNat<;>by_cases h3:2147483648<=(X.toNat+4294967296-Y.toNat+4294967296-c) % 4294967296 <;>
  by_cases h4:X.toNat < Y.toNat+c<;>simp[h1,h2,h3,h4]<;>omega
theorem zq:B=2 ^ 32:=by decide
theorem yA:∀ {l:List Nat} (_:okD l) (k:Nat),l.getD k 0=val l / B ^ k % B
 |[],_,k=>by simp[val]
 |d::r,h,0=>by
  simp only[val,List.getD_cons_zero,Nat.pow_zero,Nat.div_one];rw[Nat.add_mul_mod_self_left,Nat.mod_eq_of_lt (bG.1 h).1]
 |d::r,h,k+1=>by
  have ih:=yA (bG.1 h).2 k;simp only[val,List.getD_cons_succ,ih];rw[Nat.pow_succ,Nat.mul_comm (B ^ k) B,<- Nat.div_div_eq_div_mul,Nat.add_mul_div_left _ _ fQ,Nat.div_eq_of_lt (bG.1 h).1,Nat.zero_add]
theorem P5 (a r:Nat) (hr:r < 32):a % B / 2 ^ r % 2=a / 2 ^ r % 2:=by
 have e:B=2 ^ r*2 ^ (32-r):=by rw[<- Nat.pow_add,zq];congr 1;omega
 rw[e,Nat.mod_mul_right_div_self,Nat.mod_mod_of_dvd];have:2 ^ (32-r)=2*2 ^ (31-r):=by rw[<- Nat.pow_succ'];congr 1;omega
 rw[this];exact Nat.dvd_mul_right _ _
theorem K7 (i:Nat):(2:Nat) ^ i=B ^ (i / 32)*2 ^ (i % 32):=by
 rw[zq,<- Nat.pow_mul,<- Nat.pow_add];congr 1;omega
theorem ZA {l:List Nat} (h:okD l) (i:Nat):l.getD (i / 32) 0 / 2 ^ (i % 32) % 2=val l / 2 ^ i % 2:=by
 rw[yA h,P5 _ _ (Nat.mod_lt _ (by decide)),Nat.div_div_eq_div_mul,<- K7]
theorem U5 (x i:Nat):x / 2 ^ i=2*(x / 2 ^ (i+1))+x / 2 ^ i % 2:=by
 have:x / 2 ^ (i+1)=x / 2 ^ i / 2:=by rw[Nat.pow_succ,Nat.div_div_eq_div_mul]
 rw[this];omega
theorem XK (x y i:Nat) (hy:0 < y):let r:=2*(x / 2 ^ (i+1) % y)+x / 2 ^ i % 2
  x / 2 ^ i % y=(if y<=r then r-y else r)/\x / 2 ^ i / y=2*(x / 2 ^ (i+1) / y)+(if y<=r then 1 else 0):=by
 intro r;have h1:=U5 x i;have h2:=Nat.div_add_mod (x / 2 ^ (i+1)) y;have h3:=Nat.mod_lt (x / 2 ^ (i+1)) hy;have hb:x / 2 ^ i % 2 < 2:=Nat.mod_lt _ (by decide);have e:x / 2 ^ i=y*(2*(x / 2 ^ (i+1) / y))+r:=by
  rw[h1];have:y*(2*(x / 2 ^ (i+1) / y))=2*(y*(x / 2 ^ (i+1) / y)):=by rw[Nat.mul_left_comm]
  rw[this]
  show _=_+(2*(x / 2 ^ (i+1) % y)+x / 2 ^ i % 2)
  omega
 have hr:r < 2*y:=by show 2*(x / 2 ^ (i+1) % y)+x / 2 ^ i % 2 < 2*y;omega
 by_cases hc:y<=r
 ·rw[if_pos hc,if_pos hc]
  have e2:x / 2 ^ i=(r-y)+y*(2*(x / 2 ^ (i+1) / y)+1):=by rw[e,Nat.mul_succ];omega
  rw[e2,Nat.add_mul_mod_self_left,Nat.add_mul_div_left _ _ hy,Nat.mod_eq_of_lt (by omega),Nat.div_eq_of_lt (by omega)];exact ⟨rfl,by omega⟩
 ·rw[if_neg hc,if_neg hc]
  have e2:x / 2 ^ i=r+y*(2*(x / 2 ^ (i+1) / y)):=by rw[e];omega
  rw[e2,Nat.add_mul_mod_self_left,Nat.add_mul_div_left _ _ hy,Nat.mod_eq_of_lt (by omega),Nat.div_eq_of_lt (by omega)];exact ⟨rfl,by omega⟩
theorem Sd:∀(l:List Nat) (k e:Nat),k < l.length->val (l.set k (l.getD k 0+e))=val l+e*B ^ k
 |[],k,e,h=>by simp at h
 |d::r,0,e,_=>by simp[val];omega
 |d::r,k+1,e,h=>by
  have:=Sd r k e (by simpa using h);simp only[List.set_cons_succ,List.getD_cons_succ,val,this,Nat.mul_add,Nat.pow_succ];rw[Nat.mul_left_comm,Nat.mul_comm (B ^ k) B];omega
theorem or_bit {q r:Nat} (h:q % 2 ^ (r+1)=0):q ||| 2 ^ r=q+2 ^ r:=by
 obtain ⟨m,rfl⟩:=Nat.dvd_of_mod_eq_zero h;rw[Nat.two_pow_add_eq_or_of_lt];exact Nat.pow_lt_pow_right (by decide) (by omega)
theorem D9 {l:List Nat} (h:okD l) {i:Nat} (hv:val l % 2 ^ (i+1)=0):l.getD (i / 32) 0 % 2 ^ (i % 32+1)=0:=by
 rw[yA h];have hr:i % 32+1<=32:=by have:=Nat.mod_lt i (by decide:0 < 32);omega
 have hd:(2:Nat) ^ (i % 32+1)∣B:=by rw[zq];exact Nat.pow_dvd_pow 2 hr
 rw[Nat.mod_mod_of_dvd _ hd];obtain ⟨m,hm⟩:=Nat.dvd_of_mod_eq_zero hv;have e:(2:Nat) ^ (i+1)=B ^ (i / 32)*2 ^ (i % 32+1):=by rw[zq,<- Nat.pow_mul,<- Nat.pow_add];congr 1;omega
 rw[hm,e,Nat.mul_assoc,Nat.mul_div_cancel_left _ (Nat.pow_pos fQ)];exact Nat.mul_mod_right _ _
theorem IV {l:List Nat} (h:okD l) {i:Nat} (hv:val l % 2 ^ (i+1)=0):l.getD (i / 32) 0+2 ^ (i % 32) < B:=by
 have h1:=D9 h hv;have h2:l.getD (i / 32) 0 < B:=by rw[yA h];exact Nat.mod_lt _ fQ
 have hr:i % 32+1<=32:=by have:=Nat.mod_lt i (by decide:0 < 32);omega
 obtain ⟨m,hm⟩:=Nat.dvd_of_mod_eq_zero h1;have e:B=2 ^ (i % 32+1)*2 ^ (32-(i % 32+1)):=by rw[zq,<- Nat.pow_add];congr 1;omega
 rw[hm]at h2 ⊢;rw[e]at h2 ⊢;have h3:=Nat.lt_of_mul_lt_mul_left h2;have h4:2 ^ (i % 32+1)*m+2 ^ (i % 32+1)<=2 ^ (i % 32+1)*2 ^ (32-(i % 32+1)):=by rw[<- Nat.mul_succ];exact Nat.mul_le_mul_left _ h3
 have h5:(2:Nat) ^ (i % 32) < 2 ^ (i % 32+1):=Nat.pow_lt_pow_right (by decide) (by omega);omega
theorem XL {l:List Nat} (h:okD l) {i:Nat} (hv:val l % 2 ^ (i+1)=0) (hi:i / 32 < l.length) :
  okD (l.set (i / 32) (l.getD (i / 32) 0 ||| 2 ^ (i % 32)))/\val (l.set (i / 32) (l.getD (i / 32) 0 ||| 2 ^ (i % 32)))=val l+2 ^ i:=by
 rw[or_bit (D9 h hv),Sd _ _ _ hi,Nat.mul_comm,<- K7];refine ⟨fun d hd=>?_,rfl⟩;rcases List.mem_or_eq_of_mem_set hd with h1|h1
 ·exact h d h1
 ·rw[h1];exact IV h hv
def sP:List Nat->Nat->List Nat
 |[],c=>[c]
 |x::d,c=>(x*2 % B+c)::sP d (x / 2 ^ 31)
theorem Fv:∀ {d:List Nat}{c:Nat},okD d->c<=1->val (sP d c)=2*val d+c/\okD (sP d c)/\(sP d c).length=d.length+1
 |[],c,_,hc=>by
  simp only[sP,val];exact ⟨by omega,by rw[bG];exact ⟨by rw[eu];omega,qE⟩,rfl⟩
 |x::d,c,h,hc=>by
  have hx:=(bG.1 h).1;rw[eu]at hx;obtain ⟨e1,e2,e3⟩:=Fv (d:=d) (c:=x / 2 ^ 31) (bG.1 h).2 (by omega);simp only[sP,val,e1,bG,List.length_cons,e3];rw[eu];exact ⟨by omega,⟨by omega,e2⟩,trivial⟩
end Go.Whole
end
