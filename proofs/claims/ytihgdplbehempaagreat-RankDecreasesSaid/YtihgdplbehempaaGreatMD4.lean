import Derived.Test.YtihgdplbehempaaGreatMD3
set_option linter.unusedSimpArgs false
set_option linter.unusedVariables false
set_option maxRecDepth 10000
section
namespace Go.bB
def gI (b:Rat):Bool:=decide (b < 0)
def kE (f:Bool) (x:Rat):Rat:=if f then -x else x
def entry (ak W i:Nat) (r:List Rat) (b:Rat) (j:Nat):Rat :=
 if j=ak+i then 1 else kE (gI b) (if j < ak then r.getD j 0 else if j=W-1 then b else 0)
def Bj (ak W i:Nat) (r:List Rat) (b:Rat):List Rat:=(List.range W).map (entry ak W i r b)
def counts (ak W j:Nat):Bool:=decide (j < ak)||decide (j=W-1)
def jl (ak W:Nat):List (List Rat)->List Rat->Nat->List (List Rat)
 |[],_,_=>[]
 |r::m,rhs,i=>Bj ak W i r (rhs.headD 0)::jl ak W m rhs.tail (i+1)
def iD (ak W:Nat) (cost row:List Rat):List Rat:=(List.range W).map fun j=>if counts ak W j then cost.getD j 0-row.getD j 0 else cost.getD j 0
def vG (ak W:Nat):List (List Rat)->List Rat->List Rat
 |[],c=>c
 |r::l,c=>vG ak W l (iD ak W c r)
def iq (m:List (List Rat)) (rhs:List Rat):Tab :=
 let ak:=(m.headD []).length
 let W:=ak+m.length+1
 ⟨jl ak W m rhs 0,vG ak W (jl ak W m rhs 0) (List.replicate W 0),(List.range m.length).map (ak+·),ak⟩
theorem Bl {W:Nat} (f:Nat->Rat) (j:Nat):((List.range W).map f).getD j 0=if j < W then f j else 0:=by
 simp only[List.getD,List.getElem?_map]
 by_cases h:j < W
 ·rw[if_pos h,List.getElem?_range h];rfl
 ·rw[if_neg h,List.getElem?_eq_none (by simp;omega)];rfl
theorem Ej {ak W:Nat}:∀(m:List (List Rat)) (rhs:List Rat) (i k:Nat),k < m.length->(jl ak W m rhs i).getD k []=Bj ak W (i+k) (m.getD k []) (rhs.getD k 0)
 |[],_,_,k,h=>by simp at h
 |r::m,rhs,i,0,_=>by cases rhs<;>simp[jl]
 |r::m,rhs,i,k+1,h=>by
  have:=Ej (ak:=ak) (W:=W) m rhs.tail (i+1) k (by simpa using h);simp only[jl,List.getD_cons_succ,this];rw[show i+1+k=i+(k+1) by omega];congr 1;cases rhs<;>simp
theorem vH {ak W:Nat}:∀(m:List (List Rat)) (rhs:List Rat) (i:Nat),(jl ak W m rhs i).length=m.length/\∀r∈jl ak W m rhs i,r.length=W
 |[],_,_=>by simp[jl]
 |r::m,rhs,i=>by
  obtain ⟨h1,h2⟩:=vH (ak:=ak) (W:=W) m rhs.tail (i+1);simp only[jl,List.length_cons,h1,List.mem_cons];refine ⟨trivial,fun x hx=>hx.elim (fun e=>by rw[e];simp[Bj]) (h2 x)⟩
theorem LB {ak W:Nat}:∀(l:List (List Rat)) (c:List Rat),c.length=W->(vG ak W l c).length=W
 |[],c,h=>h
 |r::l,c,_=>LB l _ (by simp[iD])
theorem LC {ak W:Nat}:∀(l:List (List Rat)) (c:List Rat) (j:Nat),j < W->c.length=W->(vG ak W l c).getD j 0=c.getD j 0-if counts ak W j then aN l.length (fun i=>(l.getD i []).getD j 0) else 0
 |[],c,j,_,_=>by simp only[vG,List.length_nil,aN];split<;>grind
 |r::l,c,j,hj,hc=>by
  have hlen:(iD ak W c r).length=W:=by simp[iD]
  rw[vG,LC l _ j hj hlen];have h1:(iD ak W c r).getD j 0=if counts ak W j then c.getD j 0-r.getD j 0 else c.getD j 0:=by
   unfold iD;rw[Bl,if_pos hj]
  rw[h1];have hs:∀(m:Nat) (f:Nat->Rat),aN (m+1) f=f 0+aN m (fun i=>f (i+1)):=by
   intro m f
   induction m with
   |zero=>simp only[aN];grind
   |succ m ih =>
    have:aN (m+1+1) f=aN (m+1) f+f (m+1):=rfl;rw[this,ih];simp only[aN];grind
  have h2:aN (r::l).length (fun i=>((r::l).getD i []).getD j 0)=r.getD j 0+aN l.length (fun i=>(l.getD i []).getD j 0):=by
   rw[List.length_cons,hs];simp only[List.getD_cons_zero,List.getD_cons_succ]
  rw[h2];split<;>grind
variable {m:List (List Rat)}{rhs:List Rat}
theorem XZ:(iq m rhs).Ok m.length ((m.headD []).length+m.length+1) :=
 ⟨(vH m rhs 0).1,by simp[iq],LB _ _ (by simp),(vH m rhs 0).2,rfl⟩
def A0 (m:List (List Rat)) (rhs:List Rat) (k j:Nat):Rat:=(toS (iq m rhs)).r k j
theorem Qt {k:Nat} (hk:k < m.length) {j:Nat} (hj:j<=(m.headD []).length+m.length) :
  A0 m rhs k j=entry (m.headD []).length ((m.headD []).length+m.length+1) k (m.getD k []) (rhs.getD k 0) j:=by
 have:(iq m rhs).row k=Bj (m.headD []).length ((m.headD []).length+m.length+1) k (m.getD k []) (rhs.getD k 0):=by
  have:=Ej (ak:=(m.headD []).length) (W:=(m.headD []).length+m.length+1) m rhs 0 k hk;simpa[Tab.row,iq] using this
 unfold A0;simp only[toS];rw[this];unfold Bj;rw[Bl,if_pos (by omega)]
theorem zC {k:Nat} (hk:k < m.length) {l:Nat} (hl:l < m.length):A0 m rhs k ((m.headD []).length+l)=if k=l then 1 else 0:=by
 rw[Qt hk (by omega)];unfold entry
 by_cases e:k=l
 ·rw[if_pos (by omega),if_pos e]
 ·rw[if_neg (by omega),if_neg e,if_neg (by omega),if_neg (by omega)]
  unfold kE;split<;>grind
theorem Qu {k:Nat} (hk:k < m.length) {j:Nat} (hj:j < (m.headD []).length):A0 m rhs k j=kE (gI (rhs.getD k 0)) ((m.getD k []).getD j 0):=by
 rw[Qt hk (by omega)];unfold entry;rw[if_neg (by omega),if_pos hj]
theorem LD {k:Nat} (hk:k < m.length):A0 m rhs k ((m.headD []).length+m.length)=kE (gI (rhs.getD k 0)) (rhs.getD k 0):=by
 rw[Qt hk (Nat.le_refl _)];unfold entry;rw[if_neg (by omega),if_neg (by omega),if_pos (by omega)]
theorem nX {i:Nat} (hi:i < m.length):(toS (iq m rhs)).b i=(m.headD []).length+i:=by
 simp[toS,iq,List.getD,hi]
theorem Bn {j:Nat} (hj:j<=(m.headD []).length+m.length):(toS (iq m rhs)).c j=c0 m.length (m.headD []).length j-aN m.length (fun k=>A0 m rhs k j):=by
 have h1:(toS (iq m rhs)).c j=- if counts (m.headD []).length ((m.headD []).length+m.length+1) j then aN m.length (fun k=>A0 m rhs k j) else 0:=by
  simp only[toS,iq];rw[LC _ _ j (by omega) (by simp)];have:(List.replicate ((m.headD []).length+m.length+1) (0:Rat)).getD j 0=0:=by
   simp[List.getD,List.getElem?_replicate];split<;>rfl
  rw[this,(vH m rhs 0).1];have h2:∀k,((jl (m.headD []).length ((m.headD []).length+m.length+1) m rhs 0).getD k []).getD j 0=A0 m rhs k j:=fun k=>rfl
  simp only[h2];split<;>grind
 rw[h1]
 by_cases hc:counts (m.headD []).length ((m.headD []).length+m.length+1) j=true
 ·rw[if_pos hc]
  have:c0 m.length (m.headD []).length j=0:=by
   simp only[counts,Bool.or_eq_true,decide_eq_true_eq]at hc;exact if_neg (by omega)
  rw[this];grind
 ·rw[if_neg hc]
  simp only[counts,Bool.or_eq_true,decide_eq_true_eq,not_or]at hc;obtain ⟨l,rfl⟩:∃l,j=(m.headD []).length+l:=⟨j-(m.headD []).length,by omega⟩
  have hl:l < m.length:=by omega
  have h3:c0 m.length (m.headD []).length ((m.headD []).length+l)=1:=if_pos ⟨by omega,by omega⟩;rw[h3,aL (g:=fun k=>1*(if k=l then 1 else 0)) (fun k hk=>by rw[zC hk hl];split<;>grind),nE hl];grind
theorem Vi:Inv m.length (m.headD []).length (A0 m rhs) (toS (iq m rhs)):=by
 have hr:∀i j,(toS (iq m rhs)).r i j=A0 m rhs i j:=fun _ _=>rfl
 refine ⟨fun i hi j hj=>?_,fun j hj=>?_,fun k hk j hj=>?_,fun i hi l hl=>?_,fun j hj=>?_,fun i hi=>?_,fun i hi=>?_⟩
 ·simp only[hr]
  rw[aL (g:=fun k=>A0 m rhs k j*(if k=i then 1 else 0)) (fun k hk=>by
   rw[zC hi hk]
   by_cases e:k=i
   ·rw[if_pos e,if_pos e.symm];grind
   ·rw[if_neg e,if_neg (fun h=>e h.symm)];grind),nE hi]
 ·rw[Bn hj]
  congr 1;refine aL fun k hk=>?_
  have:(toS (iq m rhs)).c ((m.headD []).length+k)=0:=by
   rw[Bn (by omega)];have h3:c0 m.length (m.headD []).length ((m.headD []).length+k)=1:=if_pos ⟨by omega,by omega⟩;rw[h3,aL (g:=fun i=>1*(if i=k then 1 else 0)) (fun i hi=>by rw[zC hi hk];split<;>grind),nE hk];grind
  rw[this];grind
 ·simp only[hr]
  rw[aL (g:=fun i=>A0 m rhs i j*(if i=k then 1 else 0)) (fun i hi=>by
   rw[nX hi,zC hk hi]
   by_cases e:i=k
   ·rw[if_pos e,if_pos e.symm];grind
   ·rw[if_neg e,if_neg (fun h=>e h.symm)];grind),nE hk]
 ·rw[nX hl,hr,zC hi hl]
 ·rw[Bn hj]
  congr 1;refine aL fun i hi=>?_
  have h3:c0 m.length (m.headD []).length ((m.headD []).length+i)=1:=if_pos ⟨by omega,by omega⟩;rw[nX hi,h3,hr];grind
 ·rw[hr,LD hi]
  unfold kE gI
  by_cases hb:rhs.getD i 0 < 0
  ·rw[if_pos (by simpa using hb)];grind
  ·rw[if_neg (by simpa using hb)];grind
 ·rw[nX hi];omega
def iL (ak last:Nat):List (List Rat)->List Nat->List Rat->List Rat
 |r::rows,b::bs,y=>iL ak last rows bs (if b < ak then y.set b (r.getD last 0) else y)
 |_,_,y=>y
def qM (ak:Nat) (T:Tab) (rhs:List Rat) (n:Nat):List Rat:=(List.range n).map fun i=>kE (gI (rhs.getD i 0)) (T.cost.getD (ak+i) 0-1)
def nL (T:Tab) (rhs:List Rat) (n:Nat):List Rat ⊕ List Rat :=
 if T.cost.getD (T.cost.length-1) 0=0 then .inl (iL T.ak (T.cost.length-1) T.rows T.basis (List.replicate T.ak 0)) else .inr (qM T.ak T rhs n)
theorem FK {ak last:Nat}:∀(rows:List (List Rat)) (bs:List Nat) (y:List Rat) (v:Nat),v < ak->y.length=ak->rows.length=bs.length->bs.Nodup ->
  (iL ak last rows bs y).length=ak/\(iL ak last rows bs y).getD v 0=if v∈bs then aN bs.length (fun i=>if bs.getD i 0=v then (rows.getD i []).getD last 0 else 0) else y.getD v 0
 |[],[],y,v,_,hy,_,_=>by simp[iL,hy]
 |[],b::bs,_,_,_,_,h,_=>by simp at h
 |r::rows,[],_,_,_,_,h,_=>by simp at h
 |r::rows,b::bs,y,v,hv,hy,hl,hn=>by
  obtain ⟨hn1,hn2⟩:=List.nodup_cons.1 hn;have hs:∀(m:Nat) (f:Nat->Rat),aN (m+1) f=f 0+aN m (fun i=>f (i+1)):=by
   intro m f
   induction m with
   |zero=>simp only[aN];grind
   |succ m ih =>
    have:aN (m+1+1) f=aN (m+1) f+f (m+1):=rfl;rw[this,ih];simp only[aN];grind
  obtain ⟨e1,e2⟩:=FK (last:=last) rows bs (if b < ak then y.set b (r.getD last 0) else y) v hv (by split<;>simp[hy]) (by simpa using hl) hn2;simp only[iL];refine ⟨e1,?_⟩;rw[e2,List.length_cons,hs];simp only[List.getD_cons_zero,List.getD_cons_succ,List.mem_cons]
  by_cases h1:v∈bs
  ·have hvb:b≠v:=fun e=>hn1 (e▸h1)
   rw[if_pos h1,if_pos (.inr h1),if_neg hvb];grind
  ·rw[if_neg h1]
   have hz:aN bs.length (fun i=>if bs.getD i 0=v then (rows.getD i []).getD last 0 else 0)=0:=by
    rw[aL (g:=fun _=>0) (fun i hi=>if_neg (fun e=>h1 (by
     rw[<- e,List.getD_eq_getElem?_getD,List.getElem?_eq_getElem hi];exact List.getElem_mem hi))),gG]
   rw[hz]
   by_cases h2:b=v
   ·subst h2
    rw[if_pos hv,if_pos (Or.inl rfl),if_pos rfl];simp[List.getD,hy,hv];grind
   ·have hnot:¬(v=b\/v∈bs):=fun h=>h.elim (fun e=>h2 e.symm) h1
    by_cases hb:b < ak
    ·rw[if_pos hb,if_neg hnot]
     simp[List.getD,List.getElem?_set,h2]
    ·rw[if_neg hb,if_neg hnot]
theorem Nn {T:Tab} (h:T.Ok m.length ((m.headD []).length+m.length+1)) (hc:T.ak=(m.headD []).length) (hi:Inv m.length (m.headD []).length (A0 m rhs) (toS T)) (he:d9 T=none) :
  match nL T rhs m.length with
  |.inl y=>y.length=(m.headD []).length/\(∀j,j < (m.headD []).length->0<=y.getD j 0)/\∀k,k < m.length->aN (m.headD []).length (fun j=>(m.getD k []).getD j 0*y.getD j 0)=rhs.getD k 0
  |.inr u=>u.length=m.length/\(∀j,j < (m.headD []).length->0<=aN m.length (fun k=>u.getD k 0*(m.getD k []).getD j 0))/\aN m.length (fun k=>u.getD k 0*rhs.getD k 0) < 0:=by
 have hlast:T.cost.length-1=(m.headD []).length+m.length:=by rw[h.cw];omega
 have hTc:T.cost.getD ((m.headD []).length+m.length) 0=(toS T).c ((m.headD []).length+m.length):=rfl;unfold nL;rw[hlast,hTc];have acf:∀(f:Bool) (x y:Rat),kE f x=kE f y->x=y:=by
  intro f x y hh;unfold kE at hh;split at hh<;>grind
 by_cases hz:(toS T).c ((m.headD []).length+m.length)=0
 ·rw[if_pos hz]
  simp only;have hnd:T.basis.Nodup:=by
   rw[List.nodup_iff_pairwise_ne,List.pairwise_iff_getElem];intro i j h1 h2 hlt e;have:i=j:=hi.Lb (by rw[<- h.bn];exact h1) (by rw[<- h.bn];exact h2) (by simp[toS,List.getD,h1,h2,e]);omega
  have hget:∀v,v < (m.headD []).length->(iL T.ak ((m.headD []).length+m.length) T.rows T.basis (List.replicate T.ak 0)).getD v 0=value m.length (toS T) ((m.headD []).length+m.length) v:=by
   intro v hv;obtain ⟨_,e⟩:=FK (ak:=T.ak) (last:=(m.headD []).length+m.length) T.rows T.basis (List.replicate T.ak 0) v (by rw[hc];exact hv) (by simp) (by rw[h.rn,h.bn]) hnd;rw[e]
   by_cases hm:v∈T.basis
   ·rw[if_pos hm,h.bn];rfl
   ·rw[if_neg hm]
    have:value m.length (toS T) ((m.headD []).length+m.length) v=0:=La (fun i hi e=>hm (by
     rw[<- e];have hb:i < T.basis.length:=by rw[h.bn];exact hi
     simp only[toS,List.getD,List.getElem?_eq_getElem hb,Option.getD_some];exact List.getElem_mem hb)) _
    rw[this];simp[List.getD,List.getElem?_replicate];split<;>rfl
  refine ⟨?_,fun j hj=>by rw[hget j hj];exact hi.Nk j,fun k hk=>?_⟩
  ·have hv0:∀(rows:List (List Rat)) (bs:List Nat) (y:List Rat),(iL T.ak ((m.headD []).length+m.length) rows bs y).length=y.length:=by
    intro rows
    induction rows with
    |nil=>intro bs y;cases bs<;>rfl
    |cons r rows ih =>
     intro bs y;cases bs with
     |nil=>rfl
     |cons b bs=>simp only[iL];rw[ih];split<;>simp
   rw[hv0];simp[hc]
  ·have h1:=hi.solves hz hk
   rw[LD hk]at h1;have h2:aN (m.headD []).length (fun j=>A0 m rhs k j*value m.length (toS T) ((m.headD []).length+m.length) j)=kE (gI (rhs.getD k 0)) (aN (m.headD []).length (fun j=>(m.getD k []).getD j 0*(iL T.ak ((m.headD []).length+m.length) T.rows T.basis (List.replicate T.ak 0)).getD j 0)):=by
    have h3:=iV (m.headD []).length (fun j=>(m.getD k []).getD j 0*(iL T.ak ((m.headD []).length+m.length) T.rows T.basis (List.replicate T.ak 0)).getD j 0) (-1);unfold kE;split
    ·rename_i hf
     rw[show ∀x:Rat,-x=x*(-1) by intro x;grind,<- h3];refine aL fun j hj=>?_
     rw[Qu hk hj,hget j hj];unfold kE;rw[if_pos hf];grind
    ·rename_i hf
     refine aL fun j hj=>?_
     rw[Qu hk hj,hget j hj];unfold kE;rw[if_neg hf]
   rw[h2]at h1;exact acf _ _ _ h1
 ·rw[if_neg hz]
  simp only;have hneg:(toS T).c ((m.headD []).length+m.length) < 0:=by have:=hi.P7;grind
  have hu:∀k,k < m.length->(qM T.ak T rhs m.length).getD k 0=kE (gI (rhs.getD k 0)) ((toS T).c ((m.headD []).length+k)-1):=by
   intro k hk;unfold qM;rw[Bl,if_pos hk,hc];rfl
  have hff:∀(f:Bool) (x y:Rat),kE f x*y=x*kE f y:=by
   intro f x y;unfold kE;split<;>grind
  refine ⟨by simp[qM],fun j hj=>?_,?_⟩
  ·have h1:=Qs he j (by rw[hc];exact hj)
   rw[hi.cost j (by omega),P6 hj]at h1;have h2:aN m.length (fun k=>(qM T.ak T rhs m.length).getD k 0*(m.getD k []).getD j 0)=0-aN m.length (fun k=>(1-(toS T).c ((m.headD []).length+k))*A0 m rhs k j):=by
    have:=iV m.length (fun k=>(1-(toS T).c ((m.headD []).length+k))*A0 m rhs k j) (-1);rw[show ∀x:Rat,0-x=x*(-1) by intro x;grind,<- this];refine aL fun k hk=>?_
    rw[hu k hk,hff,Qu hk hj];grind
   rw[h2];exact h1
  ·rw[hi.cost _ (Nat.le_refl _),K8]at hneg
   have h2:aN m.length (fun k=>(qM T.ak T rhs m.length).getD k 0*rhs.getD k 0)=0-aN m.length (fun k=>(1-(toS T).c ((m.headD []).length+k))*A0 m rhs k ((m.headD []).length+m.length)):=by
    have:=iV m.length (fun k=>(1-(toS T).c ((m.headD []).length+k))*A0 m rhs k ((m.headD []).length+m.length)) (-1);rw[show ∀x:Rat,0-x=x*(-1) by intro x;grind,<- this];refine aL fun k hk=>?_
    rw[hu k hk,hff,LD hk];grind
   rw[h2];exact hneg
end Go.bB
end
section
namespace Go.Vm
open Go Go.Proofs Go.Whole
namespace ama
open Go.Proofs.Tryz
def dK:List Int->List Rat->Rat
 |c::cs,x::xs=>(c:Rat)*x+dK cs xs
 |_,_=>0
def dL (r:Row) (p:List Rat):Rat:=dK r.av p+(r.const:Rat)
def IX:List Row->List Nat->List Rat->Rat
 |r::rows,m::ms,p=>(m:Rat)*dL r p+IX rows ms p
 |_,_,_=>0
theorem yE (l:List Int):dK l []=0:=by cases l<;>rfl
theorem Ot (m:Nat):∀(l cs:List Int) (p:List Rat),l.length=cs.length->dK (List.zipWith (fun (v c:Int)=>v+m*c) l cs) p=dK l p+(m:Rat)*dK cs p
 |[],[],p,_=>by cases p<;>simp only[List.zipWith,dK]<;>grind
 |[],c::cs,_,h=>by simp at h
 |v::l,[],_,h=>by simp at h
 |v::l,c::cs,[],_=>by rw[yE,yE,yE];grind
 |v::l,c::cs,x::p,h=>by
  have ih:=Ot m l cs p (by simpa using h);simp only[List.zipWith_cons_cons,dK,ih,Rat.intCast_add,Rat.intCast_mul];have:((m:Int):Rat)=(m:Rat):=rfl;rw[this];grind
theorem Bo (V:Nat) (p:List Rat):∀(rows:List Row) (ms:List Nat) (out:List WI) (last:WI),out.length=V->(∀r∈rows,r.av.length=V) ->
  dK ((bF out last rows ms).1.map WI.z) p+((bF out last rows ms).2.z:Rat)=dK (out.map WI.z) p+(last.z:Rat)+IX rows ms p
 |[],ms,out,last,_,_=>by cases ms<;>simp only[bF,IX]<;>grind
 |r::rows,[],out,last,_,_=>by simp only[bF,IX];grind
 |r::rows,m::ms,out,last,hl,hr=>by
  have hrl:=hr r (by simp);simp only[bF,IX];split
  ·rename_i h0
   subst h0;rw[Bo V p rows ms out last hl (fun x hx=>hr x (by simp[hx]))];have:((0:Nat):Rat)=0:=rfl;rw[this];grind
  ·rw[Bo V p rows ms _ _ (by simp[oK,hl,hrl]) (fun x hx=>hr x (by simp[hx])),Qp,Ot m _ _ p (by simp[hl,hrl])]
   simp only[dL,Rat.intCast_add,Rat.intCast_mul];have:((m:Int):Rat)=(m:Rat):=rfl;rw[this];grind
theorem aad (m:Nat):(0:Rat)<=(m:Rat):=by
 have:((0:Int):Rat)<=((m:Int):Rat):=Rat.intCast_le_intCast.2 (by omega);exact this
theorem zD {p:List Rat}:∀(rows:List Row) (ms:List Nat),(∀r∈rows,0<=dL r p)->0<=IX rows ms p
 |[],ms,_=>by cases ms<;>exact Rat.le_refl
 |r::rows,[],_=>Rat.le_refl
 |r::rows,m::ms,h=>by
  have h1:=Rat.mul_nonneg (aad m) (h r (by simp));have h2:=zD rows ms (fun x hx=>h x (by simp[hx]));simp only[IX];grind
theorem El:∀(l:List Int) (p:List Rat),(∀z∈l,z=0)->dK l p=0
 |[],p,_=>by cases p<;>rfl
 |z::l,[],_=>rfl
 |z::l,x::p,h=>by
  simp only[dK,h z (by simp),El l p (fun y hy=>h y (by simp[hy]))];have:((0:Int):Rat)=0:=rfl;rw[this];grind
theorem SQ (sc:Nat) (p:List Rat):∀(out:List WI) (l:List Int),out.length=l.length->eqW out l sc=true->dK (out.map WI.z) p=(sc:Rat)*dK l p
 |[],[],_,_=>by cases p<;>simp only[List.map_nil,dK]<;>grind
 |[],c::l,h,_=>by simp at h
 |x::out,[],h,_=>by simp at h
 |x::out,c::l,hl,h=>by
  simp only[eqW,Bool.and_eq_true,decide_eq_true_eq]at h;cases p with
  |nil=>rw[yE,yE];grind
  |cons y p =>
   have ih:=SQ sc p out l (by simpa using hl) h.2;simp only[List.map_cons,dK,ih,h.1,Rat.intCast_mul];have:((sc:Int):Rat)=(sc:Rat):=rfl;rw[this];grind
theorem SS (V:Nat) (p:List Rat):dK ((List.replicate V zW).map WI.z) p=0:=El _ _ fun z hz=>by
 rw[List.map_replicate]at hz;exact (List.mem_replicate.1 hz).2
theorem IY (V:Nat) (rows:List Row) (ms:List Nat) (p:List Rat) (hr:∀r∈rows,r.av.length=V) :
  dK ((bF (List.replicate V zW) ⟨true,0⟩ rows ms).1.map WI.z) p+((bF (List.replicate V zW) ⟨true,0⟩ rows ms).2.z:Rat)=IX rows ms p:=by
 rw[Bo V p rows ms _ _ (by simp) hr,SS];have:((0:Int):Rat)=0:=rfl;simp only;rw[this];grind
theorem Dn {V:Nat}{rows:List Row}{ms:List Nat}{p:List Rat} (hr:∀r∈rows,r.av.length=V) (hp:∀r∈rows,0<=dL r p) :
  kQ (bF (List.replicate V zW) ⟨true,0⟩ rows ms).1 (bF (List.replicate V zW) ⟨true,0⟩ rows ms).2=false:=by
 rw[Bool.eq_false_iff];intro hc;have h1:=IY V rows ms p hr;have h2:=zD rows ms hp;generalize bF (List.replicate V zW) ⟨true,0⟩ rows ms=q at *;simp only[kQ,Bool.and_eq_true,decide_eq_true_eq,List.all_eq_true]at hc;rw[El _ _ (fun z hz=>by obtain ⟨x,hx,rfl⟩:=List.mem_map.1 hz;exact hc.2 x hx)]at h1;have h3:(q.2.z:Rat) < ((0:Int):Rat):=Rat.intCast_lt_intCast.2 hc.1;have:((0:Int):Rat)=0:=rfl;rw[this]at h3;grind
theorem Np {V:Nat}{rows:List Row}{ms:List Nat}{sc:Nat}{row:Row}{p:List Rat} (hr:∀r∈rows,r.av.length=V) (hrow:row.av.length=V) (hp:∀r∈rows,0<=dL r p)
  (hc:gZ (bF (List.replicate V zW) ⟨true,0⟩ rows ms) row sc=true):0<=dL row p:=by
 unfold gZ at hc;split at hc
 ·rw[Dn hr hp]at hc;cases hc
 ·rename_i h0
  have h1:=IY V rows ms p hr;have h2:=zD rows ms hp;have h3:=nK rows ms (List.replicate V zW) ⟨true,0⟩ (by simp) hr;generalize bF (List.replicate V zW) ⟨true,0⟩ rows ms=q at *;simp only[Bool.and_eq_true,decide_eq_true_eq]at hc;rw[SQ sc p q.1 row.av (by omega) hc.1]at h1;have h4:(q.2.z:Rat)<=(((sc:Int)*row.const:Int):Rat):=Rat.intCast_le_intCast.2 hc.2;rw[Rat.intCast_mul]at h4;have h5:((sc:Int):Rat)=(sc:Rat):=rfl;rw[h5]at h4;have h6:0<=(sc:Rat)*dL row p:=by unfold dL;grind
  have h7:(0:Rat) < (sc:Rat):=by
   have:((0:Int):Rat) < ((sc:Int):Rat):=Rat.intCast_lt_intCast.2 (by omega);exact this
  refine Rat.not_lt.1 fun hn=>?_
  have:=Rat.mul_pos h7 (show 0 < - dL row p by grind);grind
end ama
end Go.Vm
end
section
namespace Go.Vm
open Go Go.Proofs
namespace ama
open Go.Proofs.Tryz
attribute [go_sem] Tryz.results174 Tryz.results104 Tryz.results188 Tryz.results203 Tryz.results102 Tryz.results204
def Qv (s:State) (draws:List Int):List Upd->Nat->Bool->List Int->List Int × Nat × Int
 |[],used,late,acc=>if late then ([],0,3) else (acc,used,0)
 |u::r,used,late,acc=>if u.any then (if pz (draws.getD used 0) then Qv s draws r (used+1) late (acc++[draws.getD used 0]) else ([],0,2))
  else Qv s draws r used (if late then true else !pz (iG u.expr s.vals)) (acc++[iG u.expr s.vals])
abbrev fU:TypeId:=2
def ko:State:=⟨0,false,[]⟩
def stepOf (to_:Int) (q:List Int × Nat × Int):State × Nat × Int:=if q.2.2=0 then (⟨to_,!q.1.isEmpty,q.1⟩,q.2.1,0) else (ko,0,q.2.2)
def ajW (f:Flow) (s:State) (t:Int) (draws:List Int):State × Nat × Int :=
 if t < 0 then (ko,0,8) else match f.trans[t.toNat]? with
 |none=>(ko,0,8)
 |some x=>if xw s x then stepOf x.to_ (Qv s draws x.next 0 false []) else (ko,0,9)
def jP (q:State × Nat × Int):Tr:=.tup [q.1.tr,i64 q.2.1,i64 q.2.2]
theorem acg {nn:Bool}{l:List Int} (h:(Tr.sl nn (ints l)).wf=true):nn=false->l=[]:=by
 intro h1;subst h1;simp[Tr.wf]at h;exact h.1
theorem enters (g:FuncId) (h:(match Tryz.prog.funcs[g]? with|some fn=>!(fn.name=="runtime.NumGoroutine")&&!fn.body.isNone|none=>false)=true):Enters Tryz.prog g:=by
 cases hf:Tryz.prog.funcs[g]? with
 |none=>rw[hf]at h;cases h
 |some fn=>rw[hf]at h;simp only[Bool.and_eq_true,Bool.not_eq_true']at h;exact ⟨fn,hf,h.1,h.2⟩
theorem Qw (nn:Bool) (l:List Int) (hlen:l.length<=1048576):aB Tryz.prog 188 [.sl nn (ints l)] (.sl nn (ints l)):=by
 refine yu (enters _ (by kernel_rfl)) fun hw=>?_
 have hnil:=acg (nn:=nn) (l:=l) (by simpa[wfL] using hw);refine au orders Tryz.func188 rfl (by kernel_rfl) (fun d=>d==5||d==7) (by kernel_rfl) rfl (fun hs=>?_)
 repeat' (first|refine sX ?_ ?_<;>intro h|simp only[go_sem, *])
 ·refine mh (Own.fresh (l:=[]) (by simp)) (by kernel_rfl) (by kernel_rfl) (by kernel_rfl) rfl (by kernel_rfl) (yj _ _) (by simp;omega) (fun v' h' ho hf=>?_)
  have dN:=ho.dep
  repeat' (first|refine sX ?_ ?_<;>intro h|simp only[go_sem, *])
theorem aae (a:State) (hlen:a.vals.length<=1048576):aB Tryz.prog 203 [a.tr] a.tr:=by
 refine au orders Tryz.func203 rfl (by kernel_rfl) (fun d=>d==2) (by kernel_rfl) rfl (fun hs=>?_)
 repeat' (first|refine sX ?_ ?_<;>intro h|refine aj (Qw a.vnn a.vals hlen) rfl ?_|simp only[go_sem, *])
def do1 (draws:List Int):List Upd->Nat->List Int->Option (List Int × Nat)
 |[],n,acc=>some (acc,n)
 |u::r,n,acc=>if u.any then (if pz (draws.getD n 0) then do1 draws r (n+1) (acc++[draws.getD n 0]) else none) else do1 draws r n (acc++[0])
def do2 (s:State):List Upd->List Int->List Int
 |u::r,v::q=>(if u.any then v else iG u.expr s.vals)::do2 s r q
 |_,_=>[]
def doR (s:State) (draws:List Int) (y:Trans):State × Nat × Int:=match do1 draws y.next 0 [] with
 |none=>(ko,0,2)
 |some q=>if (do2 s y.next q.1).all pz then (⟨y.to_,true,do2 s y.next q.1⟩,q.2,0) else (ko,0,3)
theorem Ag {α:Type} (l:List α) (k:Nat) (a:α) (hk:k < l.length):(l.set k a).take (k+1)=l.take k++[a]:=by
 rw[List.take_add_one,List.getElem?_set_self hk,List.take_set_of_le (Nat.le_refl _)];rfl
theorem Em {l:List Int}{n k:Nat} (h:l.drop k=List.replicate (n-k) 0):l.drop (k+1)=List.replicate (n-(k+1)) 0:=by
 have:=congrArg (List.drop 1) h;rw[List.drop_drop,List.drop_replicate]at this;rw[this];congr 1
theorem ahp (y:Trans) (s:State) (dnn:Bool) (draws:List Int) (hn:y.next.length=s.vals.length) (hlen:y.next.length<=1048576) (hu:∀u∈y.next,u.any=false->u.expr.av.length<=s.vals.length) :
  aB Tryz.prog 102 [y.tr,s.tr,.sl dnn (ints draws)] (jP (doR s draws y)):=by
 refine au orders Tryz.func102 rfl (by kernel_rfl) (fun d=>d==6||d==9||d==12||d==14||d==20||d==36||d==37||d==43||d==65||d==66||d==68||d==73) (by kernel_rfl) rfl (fun hs=>?_);simp[dJ,Tr.sized,Trans.tr]at hs;have hn1:y.next.length<=s.vals.length:=by omega
 have hn2:s.vals.length<=y.next.length:=by omega
 clear hn
 repeat' (first|refine sX ?_ ?_<;>intro h|simp only[go_sem, *])
 refine dS ⟨by omega,by omega⟩ ?_
 repeat' (first|refine sX ?_ ?_<;>intro h|simp only[go_sem, *])
 refine aC y.next (fun k s'=>∃(used:Nat) (cur:List Int),s'.sl 10=.t (i64 used)/\hget s'.hp (20,0)=some ⟨(ints cur).map .t,1,s.vals.length,fU,false,true⟩/\hget s'.hp (9,0)=some ⟨[.t (i64 y.to_),.rf (20,0) s.vals.length],2,1,zk,true,true⟩/\hget s'.hp (6,0)=some ⟨[.t (i64 0),.t (.sl false [])],2,1,zk,true,true⟩/\cur.length=s.vals.length/\used<=k/\cur.drop k=List.replicate (s.vals.length-k) 0/\do1 draws y.next 0 []=do1 draws (y.next.drop k) used (cur.take k)) rfl rfl (by first|assumption|omega) (by kernel_rfl) (fun _ _ _ _ hj=>hj) (fun _ _ _ hj=>hj) ?_ (fun k x s' hx hd hk hJ hix hfr G hG=>?_) (fun s' hJ hfr=>?_)
 ·refine ⟨0,List.replicate s.vals.length 0,rfl,?_,?_,?_,by simp,Nat.le_refl _,rfl,by simp⟩
  ·show hget _ _=_
   rfl
  ·show hget _ _=_
   rfl
  ·show hget _ _=_
   rfl
 ·have c2:=hfr 2 (by kernel_rfl)
  have c6:=hfr 6 (by kernel_rfl);have c9:=hfr 9 (by kernel_rfl);have c23:=hfr 23 (by kernel_rfl);clear hfr;simp only[go_sem]at c2 c6 c9 c23;obtain ⟨used,cur,h10,h20,h9,h6,hcl,hul,hrest,hJ⟩:=hJ;change _=PV.ad (6,0) 1 0 at c6;change _=PV.ad (9,0) 1 0 at c9;rw[hd]at hJ;have hdr:decide ((used:Int) < draws.length)=true->draws[used]?=some (draws.getD used 0):=fun h=>by
   have:used < draws.length:=by simpa using h
   simp[this]
  have alv:decide ((used:Int) < draws.length)=false->draws.getD used 0=0:=fun h=>by
   have:draws.length<=used:=by simpa using h
   simp[this]
  have hkn:k < s.vals.length:=by omega
  have hkc:k < cur.length:=by omega
  have hc0:cur[k]?=some 0:=by
   have:=congrArg (fun l=>l[0]?) hrest;simp only[List.getElem?_drop,Nat.add_zero]at this;rw[this,List.getElem?_replicate,if_pos (by omega)]
  have adC:k+1<=s.vals.length:=hkn
  repeat' (first|refine sX ?_ ?_<;>intro h|refine aj (D5 _) rfl ?_|simp only[go_sem, *,lg (Nat.lt_of_le_of_lt hul (Nat.lt_of_lt_of_le hk (by omega))),List.getElem?_set_self hkc])
  try any_goals (refine congrArg some ?_;first|rfl|(simp only[go_sem,jP,doR,do1,ko, *];done)|(simp only[go_sem,jP,doR,do1,ko, *];rfl)|(simp_all[jP,doR,do1,ko];done))
  ·refine hG _ ⟨used+1,cur.set k (draws.getD used 0),rfl,?_,?_,?_,by simp[hcl],by omega,?_,?_⟩
   ·simp only[go_sem,h20,List.getElem?_set_self hkc]
   ·simp only[go_sem,h9]
   ·simp only[go_sem,h6]
   ·rw[List.drop_set_of_lt (by omega)];exact Em hrest
   ·rw[Ag _ _ _ hkc]
    simp only[go_sem,hJ,do1, *]
  ·refine hG _ ⟨used+1,cur,rfl,?_,?_,?_,hcl,by omega,Em hrest,?_⟩
   ·simp only[go_sem,h20]
   ·simp only[go_sem,h9]
   ·simp only[go_sem,h6]
   ·rw[List.take_add_one,hc0]
    simp only[go_sem,hJ,do1,Option.toList_some, *]
  ·refine hG _ ⟨used,cur,h10,?_,?_,?_,hcl,by omega,Em hrest,?_⟩
   ·simp only[go_sem,h20]
   ·simp only[go_sem,h9]
   ·simp only[go_sem,h6]
   ·rw[List.take_add_one,hc0]
    simp only[go_sem,hJ,do1,Option.toList_some, *]
 ·obtain ⟨used,cur,h10,h20,h9,h6,hcl,hul,hrest,hJ⟩:=hJ
  have c3:=hfr 3 (by kernel_rfl);have c4:=hfr 4 (by kernel_rfl);have c6:=hfr 6 (by kernel_rfl);have c9:=hfr 9 (by kernel_rfl);clear hfr;simp only[go_sem]at c3 c4 c6 c9;change _=PV.ad (6,0) 1 0 at c6;change _=PV.ad (9,0) 1 0 at c9;rw[List.drop_length,do1,List.take_of_length_le (by omega)]at hJ;have e3:=c3;have e4:=c4;have e6:=c6;have e9:=c9;have e10:=h10
  repeat' (first|refine sX ?_ ?_<;>intro h|simp only[go_sem, *])
  refine aC y.next (fun k s'=>∃yF:List Int,hget s'.hp (20,0)=some ⟨(ints yF).map .t,1,s.vals.length,fU,false,true⟩/\hget s'.hp (9,0)=some ⟨[.t (i64 y.to_),.rf (20,0) s.vals.length],2,1,zk,true,true⟩/\hget s'.hp (6,0)=some ⟨[.t (i64 0),.t (.sl false [])],2,1,zk,true,true⟩/\yF.length=s.vals.length/\yF.drop k=cur.drop k/\do2 s y.next cur=yF.take k++do2 s (y.next.drop k) (cur.drop k)) rfl rfl (by first|assumption|omega) (by kernel_rfl) (fun _ _ _ _ hj=>hj) (fun _ _ _ hj=>hj) ?_ (fun k x s' hx hd hk hJ hix hfr G hG=>?_) (fun s' hJ hfr=>?_)
  ·exact ⟨cur,h20,h9,h6,hcl,rfl,rfl⟩
  ·have c4:=hfr 4 (by kernel_rfl)
   have c9:=hfr 9 (by kernel_rfl);have c55:=hfr 55 (by kernel_rfl);clear hfr;simp only[go_sem]at c4 c9 c55;obtain ⟨yF,h20,h9,h6,SV,Qx,hJ2⟩:=hJ;rw[e4]at c4;rw[e9]at c9;have hkn:k < s.vals.length:=by omega
   have hkc:k < yF.length:=by omega
   have adC:k+1<=s.vals.length:=hkn;obtain ⟨v,hv,hdv⟩:=aF cur k (by omega);have hv2:yF[k]?=some v:=by
    have:=congrArg (fun l=>l[0]?) Qx;simp only[List.getElem?_drop,Nat.add_zero]at this;rw[this,hv]
   have hrest3:yF.drop (k+1)=cur.drop (k+1):=by
    have:=congrArg (List.drop 1) Qx;simpa only[List.drop_drop] using this
   rw[hd,hdv,do2]at hJ2
   repeat' (first|refine sX ?_ ?_<;>intro h|refine aj (KS x.expr s.vnn s.vals (hu x (List.mem_of_getElem? hx) (by assumption))) rfl ?_|simp only[go_sem, *])
   ·refine hG _ ⟨yF.set k (iG x.expr s.vals),?_,?_,?_,by simp[SV],?_,?_⟩
    ·simp only[go_sem,h20]
    ·simp only[go_sem,h9]
    ·simp only[go_sem,h6]
    ·rw[List.drop_set_of_lt (by omega)];exact hrest3
    ·rw[Ag _ _ _ hkc,hJ2]
     simp only[h,Bool.false_eq_true,if_false,List.append_assoc,List.cons_append,List.nil_append]
   ·refine hG _ ⟨yF,?_,?_,?_,SV,hrest3,?_⟩
    ·simp only[go_sem,h20]
    ·simp only[go_sem,h9]
    ·simp only[go_sem,h6]
    ·rw[List.take_add_one,hv2,hJ2]
     simp only[h,if_true,Option.toList_some,List.append_assoc,List.cons_append,List.nil_append]
  ·obtain ⟨yF,h20,h9,h6,SV,Qx,hJ2⟩:=hJ
   have c6:=hfr 6 (by kernel_rfl);have c9:=hfr 9 (by kernel_rfl);have c10:=hfr 10 (by kernel_rfl);clear hfr;simp only[go_sem]at c6 c9 c10;rw[e6]at c6;rw[e9]at c9;rw[e10]at c10;rw[List.drop_length,List.take_of_length_le (by omega)]at hJ2;simp only[do2,List.append_nil]at hJ2;have dN:=iT (k:=5) h20;change aS s'.hp dep _=_ at dN;have hc:=mq true yF 132 [] (fun x=>!pz x) (fun x _=>D5 x);rw[mD]at hc
   repeat' (first|refine sX ?_ ?_<;>intro h|refine Fj (hc) (by simp only[go_sem, *]) rfl ?_|simp only[go_sem, *])
   ·try any_goals (refine congrArg some ?_;first|rfl|(simp only[go_sem,jP,doR,ko, *];done)|(simp only[go_sem,jP,doR,ko, *];rfl)|(simp_all[jP,doR,ko];done))
   ·have hd5:aS (hset s'.hp (6,0) ⟨[.t (i64 y.to_),.rf (20,0) s.vals.length],2,1,zk,true,true⟩) 5 (.rf (20,0) s.vals.length)=some (.sl true (ints yF)):=iT (k:=4) (esz:=1) (e:=fU) (lv:=true) (by simp only[go_sem,h20])
    rw[hd5];simp only[go_sem,jP,doR, *]
def jQ (f:Flow) (s:State) (t:Int) (draws:List Int):State × Nat × Int :=
 if t < 0 then (ko,0,8) else match f.trans[t.toNat]? with
 |none=>(ko,0,8)
 |some x=>if xw s x then doR s draws x else (ko,0,9)
theorem Ou (f:Flow) (s:State) (t:Int) (dnn:Bool) (draws:List Int) (ht:t < 0\/t>=f.trans.length):aB Tryz.prog 204 [f.tr,s.tr,i64 t,.sl dnn (ints draws)] (jP (ko,0,8)):=by
 refine au orders Tryz.func204 rfl (by kernel_rfl) (fun d=>d==8) (by kernel_rfl) rfl (fun hs=>?_)
 repeat' (first|refine sX ?_ ?_<;>intro h|simp only[go_sem, *])
 try any_goals (refine congrArg some ?_;first|rfl|(simp only[go_sem,jP,ko, *];done)|(simp only[go_sem,jP,ko, *];rfl)|(simp_all[jP,ko];done))
 all_goals (exfalso;rename_i h1;simp at h h1;omega)
theorem aaf (f:Flow) (s:State) (n:Nat) (y:Trans) (hx0:f.trans[n]?=some y) (dnn:Bool) (draws:List Int) (hg:Good f s):aB Tryz.prog 204 [f.tr,s.tr,i64 n,.sl dnn (ints draws)] (jP (if xw s y then doR s draws y else (ko,0,9))):=by
 refine au orders Tryz.func204 rfl (by kernel_rfl) (fun d=>d==8) (by kernel_rfl) rfl (fun hs=>?_);have hn:n < f.trans.length:=(List.getElem?_eq_some_iff.1 hx0).1;have d1:decide ((n:Int) < 0)=false:=by simp
 have d2:decide ((n:Int)>=f.trans.length)=false:=by simp;omega
 have hy:=List.mem_of_getElem? hx0;have hT:=hg.flow.all y hy;have hv:=hg.vals;have hv2:=hg.flow.qB;have hdo:=ahp y s dnn draws (by have:=hT.next;omega) (by have:=hT.next;omega) (fun u hu ha=>by
  have:=hT.upd u hu;simp only[pR,ha,Bool.false_eq_true,if_false]at this;have:=iU this;omega)
 unfold jP at hdo;clear hv hv2 hT
 repeat' (first|refine sX ?_ ?_<;>intro h|refine aj (WA y s (hg.okT hy)) rfl ?_|refine aj (hdo) rfl ?_|simp only[go_sem, *])
 try any_goals (refine congrArg some ?_;first|rfl|(simp only[go_sem,jP,ko, *];done)|(simp only[go_sem,jP,ko, *];rfl)|(simp_all[jP,ko];done))
theorem ach (f:Flow) (s:State) (t:Int) (dnn:Bool) (draws:List Int) (hg:Good f s):aB Tryz.prog 204 [f.tr,s.tr,i64 t,.sl dnn (ints draws)] (jP (jQ f s t draws)):=by
 unfold jQ;split
 ·exact Ou f s t dnn draws (.inl (by assumption))
 ·rename_i h0
  obtain ⟨n,rfl⟩:∃n:Nat,t=n:=⟨t.toNat,by omega⟩
  rw[Int.toNat_natCast];split
  ·rename_i hn
   exact Ou f s n dnn draws (.inr (by have:=List.getElem?_eq_none_iff.1 hn;omega))
  ·rename_i x hx
   exact aaf f s n x hx dnn draws hg
attribute [go_sem] Tryz.results129 Tryz.results130 Tryz.results225 Tryz.results62 Tryz.results166 Tryz.results110 Tryz.results94
theorem wO (draws:List Int):∀(l:List Upd) (n:Nat) (a:List Int) (q:List Int × Nat),do1 draws l n a=some q->q.1.length=a.length+l.length
 |[],n,a,q,h=>by simp[do1]at h;subst h;simp
 |u::r,n,a,q,h=>by
  unfold do1 at h;split at h
  ·split at h
   ·have:=wO draws r _ _ q h;simp at this ⊢;omega
   ·cases h
  ·have:=wO draws r _ _ q h;simp at this ⊢;omega
theorem IZ (s:State):∀(l:List Upd) (v:List Int),v.length=l.length->(do2 s l v).length=l.length
 |[],v,_=>by cases v<;>rfl
 |u::r,[],h=>by simp at h
 |u::r,v::q,h=>by simp[do2,IZ s r q (by simpa using h)]
theorem Bp {f:Flow}{s:State}{t:Int}{draws:List Int} (hg:Good f s) (he:(jQ f s t draws).2.2=0):Good f (jQ f s t draws).1:=by
 unfold jQ at he ⊢;split at he;· cases he
 rename_i h1;rw[if_neg h1];cases hx:f.trans[t.toNat]? with
 |none=>rw[hx]at he;cases he
 |some y =>
  rw[hx]at he;simp only at he ⊢;split at he
  ·rename_i ho
   rw[if_pos ho];have hT:=hg.flow.all y (List.mem_of_getElem? hx);unfold doR at he ⊢;cases hd:do1 draws y.next 0 [] with
   |none=>rw[hd]at he;cases he
   |some q =>
    rw[hd]at he;simp only at he ⊢;split at he
    ·rename_i hw
     rw[if_pos hw];have h2:=wO draws y.next 0 [] q hd;have h3:=IZ s y.next q.1 (by simpa using h2);refine ⟨hg.flow,hT.to1,hT.to2,?_,by simpa using hw⟩
     show ((do2 s y.next q.1).length:Int)=f.vars
     rw[h3];exact hT.next
    ·cases he
  ·cases he
def kR (f:Flow) (c:Nat->State->Int × Bool):Nat->Nat->State->List Int->List State->List Int->List State × List Int × Int
 |0,_,_,_,_,_=>([],[],0)
 |n+1,i,s,draws,S,T=>if (c i s).2 then (if (jQ f s (c i s).1 draws).2.2 != 0 then ([],[],(jQ f s (c i s).1 draws).2.2)
   else kR f c n (i+1) (jQ f s (c i s).1 draws).1 (draws.drop (jQ f s (c i s).1 draws).2.1) (S++[(jQ f s (c i s).1 draws).1]) (T++[(c i s).1])) else (S,T,0)
abbrev SX (l:List State):Tr:=.sl (!l.isEmpty) (states l)
def kS (q:List State × List Int × Int):Tr:=.tup [SX q.1,nA q.2.1,i64 q.2.2]
theorem Vj (l:List State):∀x∈states l,dh true 2 x:=by
 intro x hx;obtain ⟨n,_,rfl⟩:=List.mem_map.1 hx;exact ⟨fun _=>rfl,(fun h=>nomatch h),rfl⟩
theorem SY (l:List Int) (n:Nat):(List.drop (if (l.length:Int) < n then (l.length:Int) else n).toNat (List.take l.length (ints l)))=ints (l.drop n):=by
 have:(ints l).take l.length=ints l:=List.take_of_length_le (by simp);rw[this,<- List.map_drop];split
 ·rw[Int.toNat_natCast,List.drop_length,List.drop_of_length_le (by omega)]
 ·rfl
theorem aci (f:Flow) (s:State) (dnn:Bool) (draws:List Int) (g:FuncId) (caps:List Tr) (c:Nat->State->Int × Bool) (N:Nat) (hN:N<=4096) (hg:Good f s)
  (hc:∀(i:Nat) (st:State),i<=N->Good f st->aB Tryz.prog g (i64 i::st.tr::caps) (.tup [i64 (c i st).1,.bool (c i st).2])) (hend:∀st,(c N st).2=false) :
  aB Tryz.prog 129 [f.tr,s.tr,.sl dnn (ints draws),.fn g caps] (kS (kR f c (N+1) 0 s draws [s] [])):=by
 refine au orders Tryz.func129 rfl (by kernel_rfl) (fun d=>d==5||d==16||d==21||d==58||d==62) (by kernel_rfl) rfl (fun hs=>?_);have hv:=hg.vals;have hv2:=hg.flow.qB;generalize hR:kR f c (N+1) 0 s draws [s] []=R
 repeat' (first|refine sX ?_ ?_<;>intro h|refine aj (aae s (by omega)) rfl ?_|simp only[go_sem, *])
 refine jD (fun m s'=>∃(i:Nat) (st:State) (ds:List Int) (S:List State) (T:List Int) (vS vT:PV),m=N+1-i/\i<=N/\s'.sl 13=.t (i64 i)/\s'.sl 2=.t (.sl dnn (ints ds))/\hget s'.hp (5,0)=some ⟨[.t (i64 st.loc),.t (.sl st.vnn (ints st.vals))],2,1,zk,true,true⟩ /\
  s'.sl 11=vS/\Own s'.hp 21 zk 2 true vS true (states S)/\s'.sl 12=vT/\Own s'.hp 62 rD 1 false vT (!T.isEmpty) (ints T)/\S.length=i+1/\T.length=i/\Good f st/\R=kR f c (N+1-i) i st ds S T) (N+1)
  ⟨0,s,draws,[s],[],_,_,rfl,Nat.zero_le _,rfl,rfl,rfl,rfl,Own.fresh (l:=states [s]) (Vj [s]),rfl,Own.nil,rfl,rfl,hg,hR.symm⟩ ?_
 rintro _ s' ⟨i,st,ds,S,T,vS,vT,rfl,hi,h13,h2,h5,h11,hS,h12,hT,hSl,hTl,hst,hJ⟩ hfr G hG
 have c3:=hfr 3 (by kernel_rfl);have c4:=hfr 4 (by kernel_rfl);have c5:=hfr 5 (by kernel_rfl);clear hfr;simp only[go_sem]at c3 c4 c5;change _=PV.ad (5,0) 1 0 at c5;have e1:N+1-i=(N-i)+1:=by omega
 rw[e1,kR]at hJ;have hcall:=hc i st hi hst;have hstep:=fun t=>ach f st t dnn ds hst
 unfold jP at hstep;have hvs:=hst.vals;clear hv
 repeat' (first|refine sX ?_ ?_<;>intro h|refine aj (hcall) rfl ?_|refine aj (hstep _) rfl ?_|simp only[go_sem, *])
 ·rw[hS.dep,hT.dep]
  have hne:(!S.isEmpty)=true:=by cases S<;>simp at hSl ⊢
  simp only[go_sem,kS,hJ,h,SX,nA,hne]
 ·try any_goals (refine congrArg some ?_;first|rfl|(simp only[go_sem,kS,hJ, *];done)|(simp only[go_sem,kS,hJ, *];rfl)|(simp_all[kS,hJ];done))
 ·have he0:(jQ f st (c i st).1 ds).2.2=0:=by simpa using h
  have hgq:=Bp hst he0;rename_i hok;have hJ2:R=kR f c (N-i) (i+1) (jQ f st (c i st).1 ds).1 (ds.drop (jQ f st (c i st).1 ds).2.1) (S++[(jQ f st (c i st).1 ds).1]) (T++[(c i st).1]):=by
   rw[hJ,if_pos hok,h];rfl
  have hiN:i < N:=by
   rcases Nat.lt_or_ge i N with h'|h'
   ·exact h'
   ·have:i=N:=by omega
    subst this;rw[hend]at hok;cases hok
  clear hJ hstep hcall;generalize jQ f st (c i st).1 ds=q at *;refine dS (by repeat' (first|omega|apply And.intro|split)) ?_;have e2:=SY ds q.2.1;have hqv:=hgq.vals;have hlen:q.1.vals.length<=1048576:=by omega
  repeat' (first|refine sX ?_ ?_<;>intro h|refine aj (aae q.1 hlen) rfl ?_|simp only[go_sem, *])
  refine mh (hS.frame (by simp only[go_sem])) (by kernel_rfl) (by kernel_rfl) (by kernel_rfl) rfl (by kernel_rfl) (PU _ _ rfl) (by simp;omega) (fun v' h' ho hf=>?_)
  repeat' (first|refine sX ?_ ?_<;>intro h|simp only[go_sem, *])
  have hT2:=hT.frame (h':=h') ((hf 62 rfl).trans (by simp only[go_sem]));refine cB (hT2) rfl (by kernel_rfl) (by kernel_rfl) (by kernel_rfl) (by kernel_rfl) rfl (by kernel_rfl) (ok_int _ _) (by simp;omega) (fun v' h' ho hf=>?_);rename_i v1 h1 ho1 hf1;have e5:hget h' (5,0)=_:=(aX (id:=(5,0)) (hf 5 rfl)).trans (aX (id:=(5,0)) (hf1 5 rfl));have hw:i < 9223372036854775807:=by omega
  repeat' (first|refine sX ?_ ?_<;>intro h|simp only[go_sem, *,lg hw])
  refine hG (N+1-(i+1)) _ (by omega) ⟨i+1,q.1,ds.drop q.2.1,S++[q.1],T++[(c i st).1],v1,v',rfl,hiN,?_,?_,?_,?_,?_,?_,ho.snoc,by simp[hSl],by simp[hTl],hgq,?_⟩
  ·rfl
  ·rfl
  ·rw[e5];simp only[go_sem,h5]
  ·rfl
  ·have:=ho1.frame (hf 21 rfl)
   rw[show states (S++[q.1])=states S++[q.1.tr] from by simp];exact this
  ·rfl
  ·rw[hJ2];congr 1;omega
def zF (p:Int) (L:Nat):Int:=if p.tmod L < 0 then p.tmod L+L else p.tmod L
theorem Vk (p:Int) {L:Nat} (hL:0 < L):0<=zF p L/\zF p L < L:=by
 have h1:p.tmod L < L:=Int.tmod_lt_of_pos p (by omega);have h2:-(L:Int) < p.tmod L:=by
  have:=Int.neg_tmod p L;have h3:(-p).tmod L < L:=Int.tmod_lt_of_pos (-p) (by omega);omega
 unfold zF;split<;>omega
theorem I4 (s:State):∀(l:List Trans) (k:Nat),(chF s k l).length<=l.length
 |[],_=>Nat.le_refl _
 |x::l,k=>by
  have:=I4 s l (k+1);unfold chF;split<;>simp<;>omega
def oL (f:Flow) (picks:List Int) (i:Nat) (st:State):Int × Bool :=
 if i=picks.length then (0,false) else if (choices f st).length=0 then (0,false) else ((choices f st).getD (zF (picks.getD i 0) (choices f st).length).toNat 0,true)
theorem Vl (f:Flow) (pnn:Bool) (picks:List Int) (i:Nat) (st:State) (hi:i<=picks.length) (hp:picks.length<=4096) (hg:Good f st) :
  aB Tryz.prog 130 [i64 i,st.tr,.ptr f.cs,.ptr [.sl pnn (ints picks)]] (.tup [i64 (oL f picks i st).1,.bool (oL f picks i st).2]):=by
 have hch:=UY f st (fun t ht=>hg.okT ht) (by have:=hg.flow.len;omega);unfold oL;have hcl:(choices f st).length<=32:=Nat.le_trans (I4 st f.trans 0) hg.flow.len;generalize choices f st=l at *
 by_cases h1:i=picks.length
 ·subst h1
  refine au orders Tryz.func130 rfl (by kernel_rfl) bf (by kernel_rfl) rfl (fun hs=>?_);have hb:((picks.length:Int)==picks.length)=true:=by simp
  repeat' (first|refine sX ?_ ?_<;>intro h|refine aj (hch) rfl ?_|simp only[go_sem, *])
 ·by_cases h2:l.length=0
  ·have hl:l=[]:=List.eq_nil_of_length_eq_zero h2
   subst hl;refine au orders Tryz.func130 rfl (by kernel_rfl) bf (by kernel_rfl) rfl (fun hs=>?_);have hb:((i:Int)==picks.length)=false:=by simp;omega
   have hb4:(((0:Nat):Int)==0)=true:=rfl
   repeat' (first|refine sX ?_ ?_<;>intro h|refine aj (hch) rfl ?_|simp only[go_sem, *])
  ·obtain ⟨p,hpk,_⟩:=aF picks i (by omega)
   have hgd:picks.getD i 0=p:=by simp[hpk]
   have hL:0 < l.length:=by omega
   obtain ⟨hx1,hx2⟩:=Vk p hL;obtain ⟨v,hv,_⟩:=aF l (zF p l.length).toNat (by omega);have hvd:l.getD (zF p l.length).toNat 0=v:=by simp[hv]
   rw[if_neg h1,if_neg h2,hgd,hvd];have hb:((i:Int)==picks.length)=false:=by simp;omega
   have hb2:((l.length:Int)==0)=false:=by rw[beq_eq_false_iff_ne];omega
   have hb3:¬((l.length:Int)=0):=by omega
   clear hgd hvd;unfold zF at hx1 hx2 hv;refine au orders Tryz.func130 rfl (by kernel_rfl) bf (by kernel_rfl) rfl (fun hs=>?_)
   by_cases hneg:p.tmod l.length < 0
   ·rw[if_pos hneg]at hx1 hx2 hv
    have hw:w64 (p.tmod l.length+l.length)=p.tmod l.length+l.length:=wrap_i64 (by omega) (by omega);have hd:decide (p.tmod l.length < 0)=true:=by simpa using hneg
    repeat' (first|refine sX ?_ ?_<;>intro h|refine aj (hch) rfl ?_|simp only[go_sem, *])
   ·rw[if_neg hneg]at hx1 hx2 hv
    have hd:decide (p.tmod l.length < 0)=false:=by simpa using hneg
    repeat' (first|refine sX ?_ ?_<;>intro h|refine aj (hch) rfl ?_|simp only[go_sem, *])
def kT (f:Flow) (s:State) (picks draws:List Int):List State × List Int × Int :=
 if gM f s != 0 then ([],[],gM f s) else if decide ((picks.length:Int) > 4096) then ([],[],3) else kR f (oL f picks) (picks.length+1) 0 s draws [s] []
theorem X0 (f:Flow) (s:State) (pnn dnn:Bool) (picks draws:List Int) :
  aB Tryz.prog 62 [f.tr,s.tr,.sl pnn (ints picks),.sl dnn (ints draws)] (kS (kT f s picks draws)):=by
 unfold kT;have hr:=IK f s
 by_cases he:gM f s=0
 ·rw[he]at hr ⊢
  by_cases hp:picks.length<=4096
  ·have hg:=good he
   have hb:decide ((picks.length:Int) > 4096)=false:=by simp;omega
   have hw:=aci f s dnn draws 130 [.ptr f.cs,.ptr [.sl pnn (ints picks)]] (oL f picks) picks.length hp hg (fun i st hi hst=>Vl f pnn picks i st hi hp hst) (fun st=>by simp[oL]);rw[hb];generalize kR f (oL f picks) (picks.length+1) 0 s draws [s] []=R at *;unfold kS at hw;refine au orders Tryz.func62 rfl (by kernel_rfl) bf (by kernel_rfl) rfl (fun hs=>?_)
   repeat' (first|refine sX ?_ ?_<;>intro h|refine aj (hr) rfl ?_|refine aj (hw) rfl ?_|simp only[go_sem, *])
   try any_goals (refine congrArg some ?_;first|rfl|(simp only[go_sem,kS, *];done)|(simp only[go_sem,kS, *];rfl)|(simp_all[kS];done))
  ·have hb:decide ((picks.length:Int) > 4096)=true:=by simp;omega
   rw[hb];refine au orders Tryz.func62 rfl (by kernel_rfl) bf (by kernel_rfl) rfl (fun hs=>?_)
   repeat' (first|refine sX ?_ ?_<;>intro h|refine aj (hr) rfl ?_|simp only[go_sem, *])
   try any_goals (refine congrArg some ?_;first|rfl|(simp only[go_sem,kS,List.isEmpty_nil, *];done)|(simp only[go_sem,kS,List.isEmpty_nil, *];rfl)|(simp_all[kS,List.isEmpty_nil];done))
 ·have hb:(gM f s != 0)=true:=by simpa using he
  rw[hb];refine au orders Tryz.func62 rfl (by kernel_rfl) bf (by kernel_rfl) rfl (fun hs=>?_)
  repeat' (first|refine sX ?_ ?_<;>intro h|refine aj (hr) rfl ?_|simp only[go_sem, *])
  try any_goals (refine congrArg some ?_;first|rfl|(simp only[go_sem,kS,List.isEmpty_nil, *];done)|(simp only[go_sem,kS,List.isEmpty_nil, *];rfl)|(simp_all[kS,List.isEmpty_nil];done))
end ama
end Go.Vm
end
section
namespace Go.Vm
open Go Go.Proofs Go.Whole
namespace ama
open Go.Proofs.Tryz
def jw:List Int->List Int->Int
 |c::cs,v::vs=>c*v+jw cs vs
 |_,_=>0
def nM (r:Row) (vals:List Int):Int:=jw r.av vals+r.const
theorem He (l:List Int):jw l []=0:=by cases l<;>rfl
theorem vI (l:List Int):jw [] l=0:=by cases l<;>rfl
theorem uK:∀(a x b y:List Int),a.length=x.length->jw (a++b) (x++y)=jw a x+jw b y
 |[],[],b,y,_=>by simp[jw]
 |[],_::_,_,_,h=>by simp at h
 |_::_,[],_,_,h=>by simp at h
 |a::ar,x::xs,b,y,h=>by
  have:=uK ar xs b y (by simpa using h);simp only[List.cons_append,jw,this];omega
theorem Ov (k:Int):∀(cs ds x:List Int),cs.length=ds.length->jw (List.zipWith (fun c a=>c-k*a) cs ds) x=jw cs x-k*jw ds x
 |[],[],x,_=>by cases x<;>simp[jw]
 |[],_::_,_,h=>by simp at h
 |_::_,[],_,h=>by simp at h
 |c::cs,d::ds,[],_=>by simp[He]
 |c::cs,d::ds,v::x,h=>by
  have:=Ov k cs ds x (by simpa using h);simp only[List.zipWith_cons_cons,jw,this,Int.sub_mul,Int.mul_add,Int.mul_assoc];omega
theorem En {a b:Int}{A B:Nat} (ha:a.natAbs<=A) (hb:b.natAbs<=B):(a*b).natAbs<=A*B:=by
 rw[Int.natAbs_mul];exact Nat.mul_le_mul ha hb
theorem WR {n:Int} (h:n.natAbs<=9223372036854775807):w64 n=n:=wrap_i64 (by omega) (by omega)
theorem Dp:∀(cs vs:List Int) (x:Int) (k:Nat),(∀c∈cs,c.natAbs<=1048576)->(∀v∈vs,v.natAbs<=274877906944)->x.natAbs<=(k+1)*288230376151711744->k+cs.length<=30->sM x cs vs=x+jw cs vs
 |[],vs,x,k,_,_,_,_=>by rw[AO,vI];omega
 |c::cs,[],x,k,_,_,_,_=>by simp[sM,jw]
 |c::cs,v::vs,x,k,hc,hv,hx,hk=>by
  have h1:=En (hc c (by simp)) (hv v (by simp));simp only[List.length_cons]at hk;rw[sM,WR (n:=c*v) (by omega),WR (n:=x+c*v) (by omega),Dp cs vs _ (k+1) (fun y hy=>hc y (by simp[hy])) (fun y hy=>hv y (by simp[hy])) (by omega) (by omega)];simp only[jw];omega
theorem LG {v:Int} (h:pz v=true):v.natAbs<=274877906944:=by simp[pz]at h;omega
theorem tF {v:Int}{r:Row} (h:bC v r=true):(r.av.length:Int)=v/\r.const.natAbs<=1048576/\∀c∈r.av,c.natAbs<=1048576:=by
 simp only[bC,Bool.and_eq_true,Bool.not_eq_true',bne_eq_false_iff_eq,List.all_eq_true]at h;exact ⟨h.1,aZ h.2.1,fun c hc=>aZ (h.2.2 c hc)⟩
theorem uL {r:Row}{v:Int}{vals:List Int} (h:bC v r=true) (hv:v<=8) (hw:∀x∈vals,pz x=true):iG r vals=nM r vals:=by
 obtain ⟨h1,h2,h3⟩:=tF h;unfold iG nM;rw[Dp r.av vals r.const 0 h3 (fun x hx=>LG (hw x hx)) (by omega) (by omega)];omega
def bK:List Upd->List Int->List Int × Int × List Int->List Int × Int × List Int
 |u::us,b::bs,q=>if u.any then bK us bs (q.1,q.2.1,q.2.2++[-b]) else bK us bs (List.zipWith (fun x a=>x-b*a) q.1 u.expr.av,q.2.1-b*u.expr.const,q.2.2)
 |_,_,q=>q
def dB (nn:Bool) (next:List Upd) (a b:Row) (d:Int):Row :=
 ⟨nn,(bK next b.av (a.av,a.const-b.const-d,[])).1++(bK next b.av (a.av,a.const-b.const-d,[])).2.2,(bK next b.av (a.av,a.const-b.const-d,[])).2.1⟩
def yG:List Upd->List Int->List Int->Prop
 |u::us,vals,n::ns=>(u.any=false->n=nM u.expr vals)/\yG us vals ns
 |[],_,[]=>True
 |_,_,_=>False
def tH:List Upd->List Int->List Int
 |u::us,n::ns=>if u.any then n::tH us ns else tH us ns
 |_,_=>[]
theorem pX:∀(us:List Upd) (bs:List Int) (q:List Int × Int × List Int),(∀u∈us,u.any=false->u.expr.av.length=q.1.length)->(bK us bs q).1.length=q.1.length
 |[],bs,q,_=>by cases bs<;>rfl
 |u::us,[],q,_=>rfl
 |u::us,b::bs,q,h=>by
  simp only[bK];split
  ·exact pX us bs _ (fun x hx=>h x (by simp[hx]))
  ·rename_i hu
   have hl:(List.zipWith (fun x a=>x-b*a) q.1 u.expr.av).length=q.1.length:=by
    rw[List.length_zipWith,h u (by simp) (by simpa using hu),Nat.min_self]
   rw[pX us bs _ (fun x hx=>by simp only[hl];exact h x (by simp[hx])),hl]
theorem Bq:∀(us:List Upd) (bs ns vals:List Int) (q:List Int × Int × List Int) (e:List Int),us.length=bs.length->yG us vals ns->(∀u∈us,u.any=false->u.expr.av.length=q.1.length)->q.2.2.length=e.length ->
  jw (bK us bs q).1 vals+jw (bK us bs q).2.2 (e++tH us ns)+(bK us bs q).2.1=jw q.1 vals+jw q.2.2 e+q.2.1-jw bs ns
 |[],[],ns,vals,q,e,_,_,_,_=>by simp only[bK,tH,List.append_nil,vI];omega
 |[],_::_,_,_,_,_,h,_,_,_=>by simp at h
 |_::_,[],_,_,_,_,h,_,_,_=>by simp at h
 |u::us,b::bs,[],vals,q,e,_,hn,_,_=>by simp[yG]at hn
 |u::us,b::bs,n::ns,vals,q,e,hl,hn,hc,he=>by
  obtain ⟨h1,h2⟩:=hn;simp only[bK,tH,jw]
  by_cases hu:u.any=true
  ·rw[if_pos hu,if_pos hu]
   have ih:=Bq us bs ns vals (q.1,q.2.1,q.2.2++[-b]) (e++[n]) (by simpa using hl) h2 (fun x hx=>hc x (by simp[hx])) (by simp[he]);rw[List.append_assoc,List.singleton_append]at ih;rw[ih];simp only;rw[uK _ _ _ _ he];simp only[jw,Int.neg_mul];omega
  ·rw[if_neg hu,if_neg hu]
   have hu:u.any=false:=by simpa using hu
   have hcl:=hc u (by simp) hu;have hzl:(List.zipWith (fun x a=>x-b*a) q.1 u.expr.av).length=q.1.length:=by rw[List.length_zipWith,hcl,Nat.min_self]
   have ih:=Bq us bs ns vals (List.zipWith (fun x a=>x-b*a) q.1 u.expr.av,q.2.1-b*u.expr.const,q.2.2) e (by simpa using hl) h2 (fun x hx=>by simp only[hzl];exact hc x (by simp[hx])) he;rw[ih];simp only;rw[Ov b _ _ _ hcl.symm,h1 hu];simp only[nM,Int.mul_add];omega
theorem X3 {nn:Bool}{next:List Upd}{a b:Row}{d:Int}{vals ns:List Int} (hb:b.av.length=next.length) (hn:yG next vals ns) (hc:∀u∈next,u.any=false->u.expr.av.length=a.av.length) (hv:vals.length=a.av.length) :
  nM (dB nn next a b d) (vals++tH next ns)=nM a vals-nM b ns-d:=by
 have h1:=Bq next b.av ns vals (a.av,a.const-b.const-d,[]) [] hb.symm hn hc rfl
 have h2:(bK next b.av (a.av,a.const-b.const-d,[])).1.length=a.av.length:=pX next b.av (a.av,a.const-b.const-d,[]) hc
 simp only[List.nil_append,vI]at h1
 show jw ((bK next b.av (a.av,a.const-b.const-d,[])).1++(bK next b.av (a.av,a.const-b.const-d,[])).2.2) (vals++tH next ns)+(bK next b.av (a.av,a.const-b.const-d,[])).2.1=(jw a.av vals+a.const)-(jw b.av ns+b.const)-d
 rw[uK _ _ _ _ (by omega)];omega
theorem Ow:∀(cs vs:List Int),dK cs (vs.map fun v=>((v:Int):Rat))=((jw cs vs:Int):Rat)
 |[],vs=>by cases vs<;>rfl
 |c::cs,[]=>by simp only[List.map_nil,dK,jw];rfl
 |c::cs,v::vs=>by simp only[List.map_cons,dK,jw,Ow cs vs,Rat.intCast_add,Rat.intCast_mul]
theorem X4 (r:Row) (vs:List Int):dL r (vs.map fun v=>((v:Int):Rat))=((nM r vs:Int):Rat):=by
 unfold dL nM;rw[Ow,Rat.intCast_add]
theorem FL {r:Row}{vs:List Int}:0<=dL r (vs.map fun v=>((v:Int):Rat))↔0<=nM r vs:=by
 rw[X4];have:((0:Int):Rat)=0:=rfl;rw[<- this];exact Rat.intCast_le_intCast
theorem S9 {V:Nat}{rows:List Row}{ms:List Nat}{sc:Nat}{row:Row}{vs:List Int} (hr:∀r∈rows,r.av.length=V) (hrow:row.av.length=V) (hp:∀r∈rows,0<=nM r vs)
  (hc:gZ (bF (List.replicate V zW) ⟨true,0⟩ rows ms) row sc=true):0<=nM row vs :=
 FL.1 (Np hr hrow (fun r h=>FL.2 (hp r h)) hc)
end ama
end Go.Vm
end
section
namespace Go.Vm
open Go Go.Proofs
namespace ama
open Go.Proofs.Tryz
theorem lZ {t:TypeId}{k:IntKind}{xs:List Tr} (hu:Tryz.prog.underlying t=some (.int k)) (h:Typed Tryz.prog t xs):∃n,xs=[.int k n]:=by
 cases h with
 |int h=>rw[hu]at h;injection h with h;injection h with h;subst h;exact ⟨_,rfl⟩
 |bool h=>rw[hu]at h;cases h
 |str h=>rw[hu]at h;cases h
 |KY h=>rw[hu]at h;cases h
 |sl h=>rw[hu]at h;cases h
 |struct h=>rw[hu]at h;cases h
theorem Ta {t:TypeId}{xs:List Tr} (hu:Tryz.prog.underlying t=some .bool) (h:Typed Tryz.prog t xs):∃b,xs=[.bool b]:=by
 cases h with
 |bool h=>exact ⟨_,rfl⟩
 |int h=>rw[hu]at h;cases h
 |str h=>rw[hu]at h;cases h
 |KY h=>rw[hu]at h;cases h
 |sl h=>rw[hu]at h;cases h
 |struct h=>rw[hu]at h;cases h
theorem pY {α:Type}{t e:TypeId}{xs:List Tr} (hu:Tryz.prog.underlying t=some (.slice e)) (f:α->Tr) (hel:∀x,Typed Tryz.prog e x.cells->(bR Tryz.prog e=some true->x=.agg x.cells)->x.cells.length=Tryz.prog.cellsOf e->(bR Tryz.prog e=some false->x.cells=[x])->∃a,x=f a) (h:Typed Tryz.prog t xs):∃nn l,xs=[.sl nn (List.map f l)]:=by
 cases h with
 |KY h=>exact ⟨false,[],rfl⟩
 |@sl _ e' l h h1 h2 h3 h4 =>
  rw[hu]at h;injection h with h;injection h with h;subst h
  have:∃q:List α,l=q.map f:=by
   induction l with
   |nil=>exact ⟨[],rfl⟩
   |cons x l ih =>
    obtain ⟨q,rfl⟩:=ih (fun y hy=>h1 y (by simp[hy])) (fun y hy=>h2 y (by simp[hy])) (fun y hy=>h3 y (by simp[hy])) (fun y hy=>h4 y (by simp[hy]));obtain ⟨a,rfl⟩:=hel x (h1 x (by simp)) (h2 x (by simp)) (h3 x (by simp)) (h4 x (by simp));exact ⟨a::q,rfl⟩
  obtain ⟨q,rfl⟩:=this;exact ⟨true,q,rfl⟩
 |bool h=>rw[hu]at h;cases h
 |int h=>rw[hu]at h;cases h
 |str h=>rw[hu]at h;cases h
 |struct h=>rw[hu]at h;cases h
theorem jV {t:TypeId}{fs:Array Field}{xs:List Tr} (hu:Tryz.prog.underlying t=some (.struct fs)) (h:Typed Tryz.prog t xs):xs.length=Tryz.prog.cellsOf t/\∀f∈fs.toList,Typed Tryz.prog f.type ((xs.drop f.offset).take (Tryz.prog.cellsOf f.type)):=by
 cases h with
 |struct h h1 h2=>rw[hu]at h;injection h with h;injection h with h;subst h;exact ⟨h1,h2⟩
 |bool h=>rw[hu]at h;cases h
 |int h=>rw[hu]at h;cases h
 |str h=>rw[hu]at h;cases h
 |KY h=>rw[hu]at h;cases h
 |sl h=>rw[hu]at h;cases h
theorem typed_ints {t:TypeId}{xs:List Tr} (hu:Tryz.prog.underlying t=some (.slice 2)) (h:Typed Tryz.prog t xs):∃nn l,xs=[.sl nn (ints l)]:=by
 refine pY hu (Tr.int .i64) (fun x h1 _ _ h4=>?_) h;obtain ⟨n,hn⟩:=lZ (k:=.i64) (by kernel_rfl) h1;have:=h4 (by kernel_rfl);rw[hn]at this;injection this with h5
 exact ⟨n,h5.symm⟩
theorem len2 {xs:List Tr} (h:xs.length=2):∃a b,xs=[a,b]:=by
 match xs,h with
 |[a,b],_=>exact ⟨a,b,rfl⟩
theorem len3 {xs:List Tr} (h:xs.length=3):∃a b c,xs=[a,b,c]:=by
 match xs,h with
 |[a,b,c],_=>exact ⟨a,b,c,rfl⟩
theorem len4 {xs:List Tr} (h:xs.length=4):∃a b c d,xs=[a,b,c,d]:=by
 match xs,h with
 |[a,b,c,d],_=>exact ⟨a,b,c,d,rfl⟩
theorem LH {xs:List Tr} (h:Typed Tryz.prog 37 xs):∃r:Row,.agg xs=r.tr:=by
 obtain ⟨hl,hf⟩:=jV Tryz.underlying37 h;obtain ⟨a,b,rfl⟩:=len2 (hl.trans (by kernel_rfl));simp only[List.mem_cons,List.not_mem_nil,or_false,forall_eq_or_imp,forall_eq]at hf;simp only[go_sem]at hf;obtain ⟨h1,h2⟩:=hf;obtain ⟨nn,l,e1⟩:=typed_ints (by kernel_rfl) h1;obtain ⟨n,e2⟩:=lZ (k:=.i64) (by kernel_rfl) h2;injection e1 with e1;injection e2 with e2
 subst e1;subst e2
 exact ⟨⟨nn,l,n⟩,rfl⟩
theorem I5 {t:TypeId}{xs:List Tr} (hu:Tryz.prog.underlying t=some (.slice 37)) (h:Typed Tryz.prog t xs):∃nn l,xs=[.sl nn (List.map Row.tr l)]:=by
 refine pY hu Row.tr (fun x h1 h2 _ _=>?_) h;obtain ⟨r,hr⟩:=LH h1;exact ⟨r,(h2 (by kernel_rfl)).trans hr⟩
theorem LJ {t:TypeId}{xs:List Tr} (hu:Tryz.prog.underlying t=some (.int .u64)) (h:Typed Tryz.prog t xs):∃m:Nat,m < 18446744073709551616/\xs=[jE m]:=by
 cases h with
 |int h hw =>
  rename_i k n;rw[hu]at h;injection h with h;injection h with h;subst h
  simp[Lit.wf,IntKind.min,IntKind.max,IntKind.bits,IntKind.signed]at hw;exact ⟨n.toNat,by omega,by simp only[jE];rw[Int.toNat_of_nonneg (by omega)]⟩
 |bool h=>rw[hu]at h;cases h
 |str h=>rw[hu]at h;cases h
 |KY h=>rw[hu]at h;cases h
 |sl h=>rw[hu]at h;cases h
 |struct h=>rw[hu]at h;cases h
theorem Tc {t:TypeId}{xs:List Tr} (hu:Tryz.prog.underlying t=some (.slice 38)) (h:Typed Tryz.prog t xs):∃nn l,(∀m∈l,m < 18446744073709551616)/\(nn=false->l=[])/\xs=[.sl nn (List.map jE l)]:=by
 have hnil:∀nn (l:List Tr),Typed Tryz.prog t [.sl nn l]->nn=false->l=[]:=by
  intro nn l hh he;cases hh with
  |KY h=>rfl
  |sl h=>cases he
  |struct h=>rw[hu]at h;cases h
 obtain ⟨nn,l,e⟩:=pY (α:={m:Nat // m < 18446744073709551616}) hu (fun m=>jE m.1) (fun x h1 _ _ h4=>by
  obtain ⟨m,hm,hx⟩:=LJ (by kernel_rfl) h1;have:=h4 (by kernel_rfl);rw[hx]at this;injection this with h5
  exact ⟨⟨m,hm⟩,h5.symm⟩) h
 refine ⟨nn,l.map Subtype.val,fun m hm=>?_,fun hn=>?_,?_⟩
 ·obtain ⟨y,_,rfl⟩:=List.mem_map.1 hm
  exact y.2
 ·have:=hnil nn _ (e▸h) hn
  rw[List.map_eq_nil_iff]at this;rw[this];rfl
 ·rw[e,List.map_map];rfl
theorem Td {xs:List Tr} (h:Typed Tryz.prog 40 xs):∃f:Cert,f.scale < 18446744073709551616/\(∀m∈f.ms,m < 18446744073709551616)/\(f.mnn=false->f.ms=[])/\.agg xs=f.tr:=by
 obtain ⟨hl,hf⟩:=jV Tryz.underlying40 h;obtain ⟨a,b,rfl⟩:=len2 (hl.trans (by kernel_rfl));simp only[List.mem_cons,List.not_mem_nil,or_false,forall_eq_or_imp,forall_eq]at hf;simp only[go_sem]at hf;obtain ⟨h1,h2⟩:=hf;obtain ⟨m,hm,e1⟩:=LJ (by kernel_rfl) h1;obtain ⟨nn,l,h3,h4,e2⟩:=Tc (by kernel_rfl) h2;injection e1 with e1;injection e2 with e2
 subst e1;subst e2
 exact ⟨⟨m,nn,l⟩,hm,h3,h4,rfl⟩
end ama
end Go.Vm
end
section
namespace Go.Vm
open Go Go.Proofs Go.Whole
section
variable {P:Program}{mu:Nat->Bool}{F:Ex->St->Prop}{r:List Item}{s:St}{h:Hp}
theorem yH {d site:Nat}{t e:TypeId}{esz by_:Nat}{ag nn':Bool}{v:PV}{l xs:List Tr} (ho:Own h site e esz ag v true l) (hel:bg P t=some e) (hsz:P.cellsOf e=esz) (hz:(aW P e).map List.length=some esz) (h1:Nat.blt 0 esz=true)
  (hby:P.bytesOf e=by_) (hx:∀x∈xs,dh ag esz x) (hb:(l.length+xs.length)*by_<=140737488355328/\l.length+xs.length<=4611686018427387904)
  (hk:∀v' h',Own h' site e esz ag v' true (l++xs)->(∀s',(s'==site)=false->h' s'=h s')->aI P mu F r .normal ⟨upd s.sl d v',h'⟩) :
  hpK P mu F (aT P mu (some d) t v (.t (.sl nn' xs)) h) (some d) r s:=by
 obtain ⟨v',h',h2,h3,h4⟩:=IJ (mu:=mu) (d:=d) (nn':=nn') hel hsz (by simp[Nat.blt]at h1;omega) (by
  cases hzz:aW P e with
  |none=>rw[hzz]at hz;cases hz
  |some z=>rw[hzz]at hz;exact ⟨z,rfl,by simpa using hz⟩) ho hx (by rw[hby];exact hb)
 rw[h2,Cr];exact hk v' h' h3 h4
end
namespace ama
open Go.Proofs.Tryz
theorem p9 {P:Program}{mu:Nat->Bool}{h:Hp}{d:Option Tmp}{t e:TypeId}{id:Id}{n by_:Nat}{nn':Bool}{cs:List PV}{ag:Bool}{xs:List Tr}{esz:Nat} (hel:bg P t=some e) (hsz:P.cellsOf e=esz) (hz:(aW P e).map List.length=some esz) (h1:Nat.blt 0 esz=true) (hby:P.bytesOf e=by_)
  (hx:∀x∈xs,x.cells.length=esz) (hg:hget h id=some ⟨cs,esz,n,e,ag,true⟩) (hb:(n+xs.length)*by_<=140737488355328/\n+xs.length<=4611686018427387904) (hne:xs≠[]) :
  aT P mu d t (.rf id n) (.t (.sl nn' xs)) h=some (.rf id (n+xs.length),hset h id ⟨cs++(flat xs).map .t,esz,n+xs.length,e,ag,true⟩):=by
 have hpos:0 < esz:=by simp[Nat.blt]at h1;omega
 have hzz:∃z,aW P e=some z/\z.length=esz:=by
  cases hzz:aW P e with
  |none=>rw[hzz]at hz;cases hz
  |some z=>rw[hzz]at hz;exact ⟨z,rfl,by simpa using hz⟩
 obtain ⟨z,hz1,hz2⟩:=hzz;have hfl:=bJ xs esz hx;have hl0:xs.length≠0:=fun e=>hne (List.eq_nil_of_length_eq_zero e)
 unfold aT;simp only[hel,hz1,iP,hfl,hsz,if_true,hz2,true_and,hg,hby];rw[if_pos hpos,if_pos hb,if_neg hl0]
theorem Dq (l:List Row) (h:Hp) (hlen:l.length<=4398046511104) :
  dM Tryz.prog 159 [.t (.sl true (l.map Row.tr))] h (fun v h'=>v=.rf (hnext h 5) l.length/\h'=hnew h 5 ⟨(flat (l.map Row.tr)).map .t,2,l.length,dX,true,true⟩):=by
 by_cases hne:l=[]
 ·subst hne
  exact Dk [] h (by simp)
 ·have hempty:¬l=[]:=hne
  refine dI orders Tryz.func159 rfl (by kernel_rfl) (fun d=>d==5||d==7) (by kernel_rfl) rfl (fun hs hlen=>?_);clear hs
  repeat' (first|refine sX ?_ ?_<;>intro h|simp only[go_sem, *])
  rw[p9 (esz:=2) (e:=dX) (ag:=true) (by_:=32) (by kernel_rfl) (by kernel_rfl) (by kernel_rfl) rfl (by kernel_rfl) (fun x hx=>(vC l x hx).2.2) (aJ _ _) (by rw[List.length_map];omega) (by simpa using hne)];simp only[Nat.zero_add,List.length_map,List.nil_append,gL]
  repeat' (first|refine sX ?_ ?_<;>intro h|simp only[go_sem, *])
theorem aag (rnn:Bool) (rows:List Row) (row:Row) (hlen:rows.length<=4398046511103):aB Tryz.prog 29 [.sl rnn (rows.map Row.tr),row.tr] (.sl true ((rows++[row]).map Row.tr)):=by
 refine au orders Tryz.func29 rfl (by kernel_rfl) (fun d=>d==5||d==7||d==10) (by kernel_rfl) rfl (fun hs=>?_);clear hs
 repeat' (first|refine sX ?_ ?_<;>intro h|simp only[go_sem, *])
 refine yH (by_:=32) (Own.fresh (l:=[]) (by simp)) (by kernel_rfl) (by kernel_rfl) (by kernel_rfl) rfl (by kernel_rfl) (vC rows) (by simp;omega) (fun v' h' ho hf=>?_)
 repeat' (first|refine sX ?_ ?_<;>intro h|simp only[go_sem, *])
 refine yH (by_:=32) ho (by kernel_rfl) (by kernel_rfl) (by kernel_rfl) rfl (by kernel_rfl) (vC [row]) (by simp;omega) (fun v'' h'' ho2 hf2=>?_);have dN:=ho2.dep
 repeat' (first|refine sX ?_ ?_<;>intro h|simp only[go_sem, *])
 all_goals simp[Row.tr]
theorem I6 (vars:Int) (rnn:Bool) (rows:List Row) (row:Row) (hlen:rows.length<=4398046511103):aB Tryz.prog 78 [i64 vars,.sl rnn (rows.map Row.tr),row.tr] (i64 (bQ vars (rows++[row]))):=by
 by_cases hsm:rows.length<=900000
 ·exact zw vars rnn rows row hsm
 refine yu (enters' _ (by kernel_rfl)) fun hw=>?_
 have hnil:rnn=false->rows=[]:=fun h=>by
  subst h;simp[wfL,Tr.wf]at hw;exact hw.1.1
 cases rnn with
 |false =>
  have:=hnil rfl;subst this;simp at hsm
 |true =>
  have hc:=CB vars true (rows++[row]);have hi:=Dq rows (fun _=>[]) (by omega);clear hw hnil hsm;refine au orders Tryz.func78 rfl (by kernel_rfl) (fun d=>d==9||d==13) (by kernel_rfl) rfl (fun hs=>?_);clear hs
  repeat' (first|refine sX ?_ ?_<;>intro h|simp only[go_sem, *])
  refine lT hi rfl ?_
  repeat' (first|refine sX ?_ ?_<;>intro h|simp only[go_sem, *])
  rw[p9 (esz:=2) (e:=dX) (ag:=true) (by_:=32) (by kernel_rfl) (by kernel_rfl) (by kernel_rfl) rfl (by kernel_rfl) (fun x hx=>by rw[List.mem_singleton.1 hx];rfl) (aJ _ _) (by simp;omega) (by simp)];have hcells:List.map PV.t (flat (List.map Row.tr rows))++List.map PV.t (flat [Tr.agg [.sl row.nn (List.map (Tr.int .i64) row.av),.int .i64 row.const]])=List.map PV.t (flat ((rows++[row]).map Row.tr)):=by
   rw[List.map_append,kP,List.map_append];rfl
  rw[hcells,gL];have dN:∀n,n=(rows++[row]).length->aS (hnew (fun _=>[]) 5 ⟨List.map PV.t (flat ((rows++[row]).map Row.tr)),2,n,dX,true,true⟩) dep (.rf (hnext (fun _=>[]) 5) n)=some (.sl true ((rows++[row]).map Row.tr)):=fun n hn=>iX 5 (vC _) (by simp[hn]) (aJ _ _)
  have vD:=dN (rows.length+1) (by simp);simp only[List.length_cons,List.length_nil]
  repeat' (first|refine sX ?_ ?_<;>intro h|simp only[go_sem, *])
  refine Ct hc (by simp only[go_sem,vD]) rfl ?_
  repeat' (first|refine sX ?_ ?_<;>intro h|simp only[go_sem, *])
theorem Nq (vars:Int) (rnn:Bool) (rows:List Row) (row:Row) (f:Cert) (hlen:rows.length<=4398046511103) (he:bQ vars (rows++[row])≠0):aB Tryz.prog 73 [i64 vars,.sl rnn (rows.map Row.tr),row.tr,f.tr] (.tup [.bool false,i64 (bQ vars (rows++[row]))]):=by
 have hck:=I6 vars rnn rows row hlen;have g:(bQ vars (rows++[row]) != 0)=true:=by simpa using he
 generalize bQ vars (rows++[row])=e at *;clear he;refine au orders Tryz.func73 rfl (by kernel_rfl) (fun d=>d==12||d==13||d==33||d==38) (by kernel_rfl) rfl (fun hs=>?_);clear hs
 repeat' (first|refine sX ?_ ?_<;>intro h|refine aj (hck) rfl ?_|simp only[go_sem, *])
theorem Vn (vars:Int) (rnn:Bool) (rows:List Row) (row:Row) (f:Cert) (hlen:rows.length<=4398046511103) (hnil:f.mnn=false->f.ms=[]) :
  aB Tryz.prog 73 [i64 vars,.sl rnn (rows.map Row.tr),row.tr,f.tr] (.tup [.bool (wM vars rows row f).1,i64 (wM vars rows row f).2]):=by
 unfold wM
 by_cases he:bQ vars (rows++[row])=0
 ·rw[if_neg (fun h=>h he)]
  obtain ⟨V,rfl,hS⟩:=CG he;have hn:=hS.n;simp only[List.length_append,List.length_cons,List.length_nil]at hn;obtain ⟨sc,mnn,ms⟩:=f;simp only at hnil
  by_cases hc:lY rows ⟨sc,mnn,ms⟩=true
  ·rw[if_pos hc]
   simp only[lY,nJ,Bool.and_eq_true,decide_eq_true_eq,List.all_eq_true]at hc;exact SK V rnn rows row sc mnn ms he hS hc.1.1 (by
    simp only[List.all_eq_true,List.mem_append,List.mem_singleton,decide_eq_true_eq];exact fun m hm=>hm.elim (fun hm=>hc.1.2 m hm) (fun hm=>hm▸hc.2)) hnil
  ·rw[if_neg hc]
   by_cases hl:ms.length=rows.length
   ·refine Qo V rnn rows row sc mnn ms (by omega) he hl ?_ hnil
    rw[Bool.eq_false_iff];intro ha;simp only[List.all_eq_true,List.mem_append,List.mem_singleton,decide_eq_true_eq]at ha;exact hc (by simp only[lY,nJ,Bool.and_eq_true,decide_eq_true_eq,List.all_eq_true];exact ⟨⟨hl,fun m hm=>ha m (.inl hm)⟩,ha sc (.inr rfl)⟩)
   ·exact Qn V rnn rows row ⟨sc,mnn,ms⟩ (by omega) he hl
 ·rw[if_pos he]
  exact Nq vars rnn rows row f hlen he
end ama
end Go.Vm
end
section
namespace Go.Vm
open Go Go.Proofs Go.Whole
namespace ama
open Go.Proofs.Tryz
structure bq where
 fnn:Bool
 funcs:List Row
 snn:Bool
 strict:List Int
 bnn:Bool
 bounds:List Cert
 dnn:Bool
 drops:List Cert
def bq.tr (s:bq):Tr:=.agg [.sl s.fnn (s.funcs.map Row.tr),.sl s.snn (ints s.strict),.sl s.bnn (s.bounds.map Cert.tr),.sl s.dnn (s.drops.map Cert.tr)]
structure bY where
 nn:Bool
 stages:List bq
def bY.tr (r:bY):Tr:=.agg [.sl r.nn (r.stages.map bq.tr)]
attribute [go_sem] bq.tr bY.tr
def bV (V:Int) (rows:List Row) (row:Row) (f:Cert):Bool :=
 decide (bQ V (rows++[row])=0)&&lY rows f&&gZ (bF (List.replicate V.toNat zW) ⟨true,0⟩ rows f.ms) row f.scale
def strip (r:Row):Row:={ r with nn:=true }
theorem Nr (V:Int) (rows:List Row):bQ V (rows.map strip)=bQ V rows:=by
 unfold bQ;rw[List.length_map,List.all_map];rfl
theorem zG:∀(rows:List Row) (ms:List Nat) (out:List WI) (last:WI),bF out last (rows.map strip) ms=bF out last rows ms
 |[],ms,out,last=>by cases ms<;>rfl
 |r::rows,[],out,last=>rfl
 |r::rows,m::ms,out,last=>by
  simp only[List.map_cons,bF];rw[zG rows ms,zG rows ms];rfl
theorem Dr (V:Int) (rows:List Row) (row:Row) (f:Cert):bV V (rows.map strip) (strip row) f=bV V rows row f:=by
 unfold bV;have e1:bQ V (rows.map strip++[strip row])=bQ V (rows++[row]):=by
  rw[<- Nr V (rows++[row]),List.map_append];rfl
 have e2:lY (rows.map strip) f=lY rows f:=by unfold lY nJ;rw[List.length_map]
 rw[e1,e2,zG];rfl
theorem FM {V:Int}{rows rows':List Row}{row row':Row}{f:Cert} (h1:rows.map strip=rows'.map strip) (h2:strip row=strip row'):bV V rows row f=bV V rows' row' f:=by
 rw[<- Dr V rows,<- Dr V rows',h1,h2]
theorem Dt {V:Int}{rows:List Row}{row:Row}{f:Cert}{vs:List Int} (h:bV V rows row f=true) (hp:∀r∈rows,0<=nM r vs):0<=nM row vs:=by
 simp only[bV,Bool.and_eq_true,decide_eq_true_eq]at h;obtain ⟨⟨h1,h2⟩,h3⟩:=h;obtain ⟨W,rfl,hS⟩:=CG h1;obtain ⟨hsl,hr1,_,_⟩:=hS.left;rw[Int.toNat_natCast]at h3;exact S9 (fun r hr=>(hsl.r r hr).1) hr1 hp h3
def vJ:Row:=⟨false,[],0⟩
def rowAt (l:List Row) (i:Int):Row:=l.getD i.toNat vJ
def aG (l:List Upd):Nat:=(l.filter (fun u=>u.any)).length
def wide (n:Nat) (r:Row):Row:=⟨true,r.av++List.replicate n 0,r.const⟩
def hasB (l:List Int) (t:Int):Bool:=l.any (fun y=>t==y)
def dw (strict:List Int) (t:Int):Int:=if hasB strict t then 1 else 0
def aK (f:Flow) (t:Int):Trans:=f.trans.getD t.toNat ⟨0,0,false,[],false,[]⟩
def dO (f:Flow) (funcs:List Row) (t:Int) (d:Int):Row:=dB true (aK f t).next (rowAt funcs (aK f t).from_) (rowAt funcs (aK f t).to_) d
def cu (r:Row):Bool:=aU r.const&&r.av.all aU
def bO (n:Int):Int->List Int->Bool
 |_,[]=>true
 |last,x::r=>if x<=last\/x>=n then false else bO n x r
def gN (f:Flow) (s:bq) (left:List Int):Int :=
 if ((s.funcs.length:Int) != f.dD)||!(s.funcs.all (bC f.vars)) then 4
 else if s.strict.isEmpty||!bO f.trans.length (-1) s.strict||!(s.strict.all (hasB left)) then 4
 else if ((s.bounds.length:Int) != s.strict.length)||((s.drops.length:Int) != left.length) then 4
 else if left.all (fun t=>cu (dO f s.funcs t (dw s.strict t))) then 0 else 3
def fK (f:Flow) (s:bq):List Int->List Cert->Bool
 |t::l,c::cs=>bV f.vars (aK f t).guard (rowAt s.funcs (aK f t).from_) c&&fK f s l cs
 |_,_=>true
def iw (f:Flow) (s:bq):List Int->List Cert->Bool
 |t::l,c::cs=>bV (f.vars+aG (aK f t).next) ((aK f t).guard.map (wide (aG (aK f t).next))) (dO f s.funcs t (dw s.strict t)) c&&iw f s l cs
 |_,_=>true
def jm (f:Flow) (s:bq) (left:List Int):Bool:=fK f s s.strict s.bounds&&iw f s left s.drops
def without (left strict:List Int):List Int:=left.filter (fun t=>!hasB strict t)
def allT (f:Flow):List Int:=(List.range f.trans.length).map (fun (n:Nat)=>(n:Int))
noncomputable def gD (f:Flow) (all:Bool):List bq->List Int->List Int × Int
 |[],left=>(left,0)
 |s::r,left=>if gN f s left≠0 then ([],gN f s left) else if (all&&!jm f s left)=true then ([],11) else gD f all r (cyc f (without left s.strict))
noncomputable def mV (f:Flow) (r:bY) (all:Bool):List Int × Int :=
 if aY f≠0 then ([],aY f) else if (r.stages.length:Int) > 32 then ([],3) else gD f all r.stages (cyc f (allT f))
noncomputable def eX (f:Flow) (r:bY):Int:=if (mV f r true).2=0/\(mV f r true).1≠[] then 11 else (mV f r true).2
noncomputable def pI (f:Flow):List bq->List Int->List Int
 |[],left=>left
 |s::r,left=>pI f r (cyc f (without left s.strict))
noncomputable def remaining (f:Flow) (l:List bq):List Int:=pI f l (cyc f (allT f))
theorem Br {f:Flow}{all:Bool}:∀ {l:List bq}{left:List Int},(gD f all l left).2=0->(gD f all l left).1=pI f l left
 |[],left,_=>rfl
 |s::r,left,h=>by
  unfold gD at h ⊢;split at h
  ·rename_i hne;exact absurd h hne
  ·split at h
   ·cases h
   ·rename_i h1 h2
    rw[if_neg h1,if_neg h2];exact Br h
theorem xE (f:Flow):∀(a b:List bq) (left:List Int),pI f (a++b) left=pI f b (pI f a left)
 |[],_,_=>rfl
 |s::a,b,left=>by simp only[List.cons_append,pI];exact xE f a b _
theorem Du {f:Flow}{all:Bool}:∀ {l:List bq}{left:List Int},(gD f all l left).2=0->∀(i:Nat) s,l[i]?=some s->gN f s (pI f (l.take i) left)=0/\(all=true->jm f s (pI f (l.take i) left)=true)
 |[],_,_,i,s,hs=>by simp at hs
 |x::r,left,h,i,s,hs=>by
  unfold gD at h;split at h
  ·rename_i hne;exact absurd h hne
  ·rename_i h1
   split at h
   ·cases h
   ·rename_i h2
    cases i with
    |zero =>
     simp at hs;subst hs
     exact ⟨Decidable.not_not.1 h1,fun ha=>by simp[ha]at h2;exact h2⟩
    |succ i=>exact Du h i s (by simpa using hs)
theorem kI {l:List Int}{t:Int}:hasB l t=true↔t∈l:=by simp[hasB]
theorem Qy {left strict:List Int}{t:Int}:t∈without left strict↔t∈left/\t∉strict:=by
 unfold without;rw[List.mem_filter];simp only[Bool.not_eq_true',Bool.eq_false_iff,ne_eq,kI]
structure CJ (f:Flow) (s:bq) (left:List Int):Prop where
 dD:(s.funcs.length:Int)=f.dD
 right:∀r∈s.funcs,bC f.vars r=true
 ne:s.strict≠[]
 incr:bO f.trans.length (-1) s.strict=true
 sub:∀t∈s.strict,t∈left
 bl:s.bounds.length=s.strict.length
 dl:s.drops.length=left.length
 small:∀t∈left,cu (dO f s.funcs t (dw s.strict t))=true
theorem Ke {f:Flow}{s:bq}{left:List Int} (h:gN f s left=0):CJ f s left:=by
 unfold gN at h;split at h;· cases h
 rename_i h1;split at h;· cases h
 rename_i h2;split at h;· cases h
 rename_i h3;split at h
 ·rename_i h4
  simp only[Bool.or_eq_true,Bool.not_eq_true',not_or,Bool.not_eq_true,Bool.not_eq_false,bne_eq_false_iff_eq,List.all_eq_true]at h1 h2 h3 h4;exact ⟨h1.1,h1.2,by simpa using h2.1.1,h2.1.2,fun t ht=>kI.1 (h2.2 t ht),by omega,by omega,h4⟩
 ·cases h
theorem xG {f:Flow}{s:bq}:∀ {l:List Int}{cs:List Cert},fK f s l cs=true->l.length<=cs.length->∀t∈l,∃c,bV f.vars (aK f t).guard (rowAt s.funcs (aK f t).from_) c=true
 |[],_,_,_,t,ht=>by simp at ht
 |_::_,[],_,hl,_,_=>by simp at hl
 |x::l,c::cs,h,hl,t,ht=>by
  simp only[fK,Bool.and_eq_true]at h;rcases List.mem_cons.1 ht with rfl|ht
  ·exact ⟨c,h.1⟩
  ·exact xG h.2 (by simpa using hl) t ht
theorem zH {f:Flow}{s:bq}:∀ {l:List Int}{cs:List Cert},iw f s l cs=true->l.length<=cs.length->∀t∈l,∃c,bV (f.vars+aG (aK f t).next) ((aK f t).guard.map (wide (aG (aK f t).next))) (dO f s.funcs t (dw s.strict t)) c=true
 |[],_,_,_,t,ht=>by simp at ht
 |_::_,[],_,hl,_,_=>by simp at hl
 |x::l,c::cs,h,hl,t,ht=>by
  simp only[iw,Bool.and_eq_true]at h;rcases List.mem_cons.1 ht with rfl|ht
  ·exact ⟨c,h.1⟩
  ·exact zH h.2 (by simpa using hl) t ht
structure Vo (f:Flow) (s:State):Prop where
 flow:jk f
 KV:0<=s.loc
 KW:s.loc < f.dD
 vals:(s.vals.length:Int)=f.vars
theorem Good.z {f:Flow}{s:State} (h:Good f s):Vo f s:=⟨h.flow,h.KV,h.KW,h.vals⟩
def Kg (f:Flow) (s:State) (t:Int) (s':State):Prop:=∃(n:Nat) (x:Trans),t=n/\f.trans[n]?=some x/\x.from_=s.loc/\(∀r∈x.guard,0<=nM r s.vals)/\s'.loc=x.to_/\yG x.next s.vals s'.vals/\Vo f s/\Vo f s'
theorem Vp {r:Row}{vals e:List Int}{n:Nat} (h:vals.length=r.av.length):nM (wide n r) (vals++e)=nM r vals:=by
 unfold nM wide;simp only;rw[uK _ _ _ _ h.symm];have:∀(m:Nat) (l:List Int),jw (List.replicate m 0) l=0:=by
  intro m
  induction m with
  |zero=>intro l;exact vI l
  |succ m ih =>
   intro l;cases l with
   |nil=>exact He _
   |cons x l=>simp only[List.replicate_succ,jw,ih];omega
 rw[this];omega
theorem LK {l:List Row}{i:Int} (h0:0<=i) (h1:i < l.length):rowAt l i∈l:=by
 unfold rowAt;rw[List.getD_eq_getElem?_getD,List.getElem?_eq_getElem (by omega)];exact List.getElem_mem _
theorem fu {f:Flow}{n:Nat}{x:Trans} (h:f.trans[n]?=some x):aK f (n:Int)=x:=by
 unfold aK;simp[List.getD,h]
def lJ (s:bq) (a:State):Int:=nM (rowAt s.funcs a.loc) a.vals
theorem I7 {f:Flow}{s:bq}{left:List Int} (hf:CJ f s left) (hp:jm f s left=true) {a b:State}{t:Int} (h:Kg f a t b) (ht:t∈left) :
  lJ s b<=lJ s a/\(t∈s.strict->0<=lJ s a/\lJ s b<=lJ s a-1):=by
 simp only[jm,Bool.and_eq_true]at hp;obtain ⟨n,x,rfl,hx,Eo,hguard,hloc,U8,hg,hg'⟩:=h;have hxm:=List.mem_of_getElem? hx;have hT:=hg.flow.all x hxm;have htr:=fu hx;have hva:=hg.vals;have hvb:=hg'.vals;have hR:∀l:Int,0<=l->l < f.dD->bC f.vars (rowAt s.funcs l)=true:=fun l h0 h1=>hf.right _ (LK h0 (by rw[hf.dD];exact h1))
 have ha:=iU (hR a.loc hg.KV hg.KW);have hb:=iU (hR b.loc hg'.KV hg'.KW);have hnext:=hT.next;have hup:∀u∈x.next,u.any=false->u.expr.av.length=(rowAt s.funcs a.loc).av.length:=fun u hu hany=>by
  have:=hT.upd u hu;simp only[pR,hany,Bool.false_eq_true,if_false]at this;have:=iU this;omega
 have hval:=X3 (nn:=true) (next:=x.next) (a:=rowAt s.funcs a.loc) (b:=rowAt s.funcs b.loc) (d:=dw s.strict n) (vals:=a.vals) (ns:=b.vals) (by omega) U8 hup (by omega);obtain ⟨c,hc⟩:=zH hp.2 (by rw[hf.dl];exact Nat.le_refl _) _ ht;rw[htr]at hc;have hdrop:dO f s.funcs n (dw s.strict n)=dB true x.next (rowAt s.funcs a.loc) (rowAt s.funcs b.loc) (dw s.strict n):=by
  unfold dO;rw[htr,Eo,hloc]
 have h0:=Dt (vs:=a.vals++tH x.next b.vals) hc (fun r hr=>by
  obtain ⟨g,hgm,rfl⟩:=List.mem_map.1 hr;have:=iU (hT.right g hgm);rw[Vp (by omega)];exact hguard g hgm)
 rw[hdrop,hval]at h0;have hby:0<=dw s.strict n:=by unfold dw;split<;>omega
 refine ⟨by unfold lJ;omega,fun hs=>?_⟩;have alx:dw s.strict n=1:=if_pos (kI.2 hs);obtain ⟨c2,hc2⟩:=xG hp.1 (by rw[hf.bl];exact Nat.le_refl _) _ hs;rw[htr,Eo]at hc2;have h1:=Dt (vs:=a.vals) hc2 hguard;unfold lJ;exact ⟨h1,by omega⟩
attribute [go_sem] Tryz.results121 Tryz.results197 Tryz.results120 Tryz.results231 Tryz.results201 Tryz.results125 Tryz.results126 Tryz.results200 Tryz.results247 Tryz.results123 Tryz.results57
abbrev bls (l:List Bool):List Tr:=l.map Tr.bool
abbrev LM:TypeId:=4
@[go_sem] theorem agl (n:Nat):gX [Tr.bool false] n=bls (List.replicate n false):=by
 induction n with
 |zero=>rfl
 |succ n ih=>rw[gX,ih];rfl
@[go_sem] theorem adD {k:Nat}{cur:List Bool}{x:Bool} (hk:k < cur.length):splice ((bls cur).map .t) k [.t (.bool x)]=(bls (cur.set k x)).map .t:=by
 have:=ny ((bls cur).map PV.t) k (PV.t (.bool x)) (by simpa using hk);rw[uH]
 show List.take k _++[_]++List.drop (k+1) _=_
 rw[this];simp[bls,List.map_set]
theorem Vq {l:List Bool}{k:Nat} (h:l[k]?=some false):jL l < jL (l.set k true):=by
 have h1:=(Le.set (a:=l) k).cnt;have h2:jL l≠jL (l.set k true):=fun e=>by
  have h3:=h1.2 e;have h4:(l.set k true)[k]?=some true:=by
   have:=(List.getElem?_eq_some_iff.1 h).1;simp[this]
  rw[<- h3,h]at h4;cases h4
 omega
theorem jk.tr {f:Flow} (hf:jk f) {n:Nat} (hn:f.dD=n) {i:Nat}{t:Trans} (ht:f.trans[i]?=some t):∃a b:Nat,t.from_=a/\a < n/\t.to_=b/\b < n:=by
 have h:=hf.all t (List.mem_of_getElem? ht);have h1:=h.qA;have h2:=h.nC;have h3:=h.to1;have h4:=h.to2
 exact ⟨t.from_.toNat,t.to_.toNat,by omega,by omega,by omega,by omega⟩
def InF (f:Flow) (keep:List Int):Prop:=∀i∈keep,0<=i/\i < f.trans.length
theorem InF.get {f:Flow}{keep:List Int} (h:InF f keep) {i:Int} (hi:i∈keep):∃(j:Nat) (t:Trans),i=j/\f.trans[j]?=some t:=by
 obtain ⟨h1,h2⟩:=h i hi;have h3:i.toNat < f.trans.length:=by omega
 exact ⟨i.toNat,_,by omega,List.getElem?_eq_getElem h3⟩
noncomputable def iI (f:Flow) (keep:List Int) (a n:Nat):List Bool:=(List.range n).map (fun (l:Nat)=>qC f keep a (l:Int))
theorem LP {f:Flow} (hf:jk f) {n:Nat}{keep:List Int}{a:Nat} (ha:a < n) {cur:List Bool} (hl:cur.length=n) (h1:Le (start n a) cur) (h2:Marks f keep a cur) (h3:Closed f keep cur):iI f keep a n=cur:=by
 have hin:∀(i:Nat) (t:Trans),f.trans[i]?=some t->0<=t.from_/\0<=t.to_:=fun i t h=>⟨(hf.all t (List.mem_of_getElem? h)).qA,(hf.all t (List.mem_of_getElem? h)).to1⟩
 have h5:=Di hin h2 h3 (h1.2 a (KX ha)) (n:=n);apply List.ext_getElem?;intro k;unfold iI
 by_cases hk:k < n
 ·rw[List.getElem?_map,List.getElem?_range hk,List.getElem?_eq_getElem (by omega:k < cur.length)]
  simp only[Option.map_some,Option.some.injEq];rw[<- h5 k];simp[List.getD,(by omega:k < cur.length)]
 ·rw[List.getElem?_eq_none (by simp;omega),List.getElem?_eq_none (by omega)]
theorem aah (f:Flow) (hf:jk f) {n:Nat} (hn:f.dD=n) (knn:Bool) (keep:List Int) (hkf:InF f keep) (hkl:keep.length<=1048576) {a:Nat} (ha:a < n) :
  aB Tryz.prog 197 [f.tr,i64 a,.sl knn (ints keep)] (.sl true (bls (iI f keep a n))):=by
 have hn16:n<=16:=by have:=hf.dD;omega
 have hft:=hf.len;refine au orders Tryz.func197 rfl (by kernel_rfl) (fun d=>d==11||d==31||d==37||d==44||d==14) (by kernel_rfl) rfl (fun hs=>?_);clear hs;have ha1:a+1<=n:=ha
 repeat' (first|refine sX ?_ ?_<;>intro h|simp only[go_sem, *])
 refine dS ⟨by omega,by omega⟩ ?_
 repeat' (first|refine sX ?_ ?_<;>intro h|simp only[go_sem, *,List.length_replicate])
 refine jD (fun m s'=>∃(cur:List Bool) (b:Bool),m=(n-jL cur)+(if b then 1 else 0)/\s'.sl 8=.t (.bool b)/\hget s'.hp (14,0)=some ⟨(bls cur).map .t,1,n,LM,false,true⟩/\cur.length=n/\Le (start n a) cur/\Marks f keep a cur/\(b=false->Closed f keep cur)) (n-jL (start n a)+1)
  ⟨start n a,true,rfl,rfl,rfl,by simp[start],Le.refl _,Fp f keep n a,fun h=>nomatch h⟩ ?_
 rintro m s' ⟨cur,b,hm,c8,h14,hcl,hle,hmk,hcd⟩ hfr G hG
 have c2:=hfr 2 (by kernel_rfl);have c3:=hfr 3 (by kernel_rfl);have c7:=hfr 7 (by kernel_rfl);clear hfr;simp only[go_sem]at c2 c3 c7;change _=PV.rf (14,0) n at c7;cases b with
 |false =>
  have hres:=LP hf ha hcl hle hmk (hcd rfl);rw[hres];have dN:aS s'.hp dep (.rf (14,0) n)=some (.sl true (bls cur)):=iT (k:=5) h14;clear hres hm hle hmk hcd hG
  repeat' (first|refine sX ?_ ?_<;>intro h|simp only[go_sem, *])
 |true =>
  have hin:∀(i:Nat) (t:Trans),f.trans[i]?=some t->0<=t.from_/\0<=t.to_:=fun i t h=>⟨(hf.all t (List.mem_of_getElem? h)).qA,(hf.all t (List.mem_of_getElem? h)).to1⟩
  have hin2:∀(i:Nat) (t:Trans),f.trans[i]?=some t->t.to_.toNat < n:=fun i t h=>by have:=(hf.all t (List.mem_of_getElem? h)).to2;have:=(hf.all t (List.mem_of_getElem? h)).to1;omega
  have e7:=c7
  repeat' (first|refine sX ?_ ?_<;>intro h|simp only[go_sem, *])
  refine aC keep (fun k s'=>∃(c:List Bool) (b:Bool),s'.sl 8=.t (.bool b)/\hget s'.hp (14,0)=some ⟨(bls c).map .t,1,n,LM,false,true⟩/\c.length=n/\Le cur c/\mU f keep cur=mU f (keep.drop k) c/\(b=true->jL cur < jL c)/\(b=false->c=cur)) rfl rfl (by first|assumption|omega) (by kernel_rfl) (fun _ _ _ _ hj=>hj) (fun _ _ _ hj=>hj) ?_ (fun k x s' hx hd hk hJ hix hfr G hG=>?_) (fun s' hJ hfr=>?_)
  ·exact ⟨cur,false,rfl,h14,hcl,Le.refl _,rfl,(fun h=>nomatch h),fun _=>rfl⟩
  ·have c3:=hfr 3 (by kernel_rfl)
   have c7:=hfr 7 (by kernel_rfl);have c19:=hfr 19 (by kernel_rfl);clear hfr;simp only[go_sem]at c3 c7 c19;rw[e7]at c7;obtain ⟨c,b,c8,h14,hcl',hle',hsw,hbt,hbf⟩:=hJ;rw[hd]at hsw;obtain ⟨i,y,rfl,hy⟩  :=hkf.get (List.mem_of_getElem? hx);obtain ⟨u,v,hu,hun,hv,hvn⟩:=hf.tr hn hy;have hcu:c[u]?=some (c.getD u false):=by simp[List.getD,List.getElem?_eq_getElem (by omega:u < c.length)]
   have hcv:c[v]?=some (c.getD v false):=by simp[List.getD,List.getElem?_eq_getElem (by omega:v < c.length)]
   have LQ:sw1 f c i=if c.getD u false then c.set v true else c:=by
    unfold sw1;rw[Int.toNat_natCast,hy];simp only[hu,hv,Int.toNat_natCast]
   have Ah:mU f keep cur=mU f (keep.drop (k+1)) (sw1 f c i):=hsw;rw[LQ]at Ah;have ahq:v+1<=n:=hvn;have adE:u+1<=n:=hun;have Vr:Le c (c.set v true):=Le.set v;generalize hb1:c.getD u false=b1 at *;generalize hb2:c.getD v false=b2 at *;cases b1 with
   |false =>
    clear hsw LQ Vr hb1 hb2 hin hin2
    repeat' (first|refine sX ?_ ?_<;>intro h|simp only[go_sem, *])
    refine hG _ ⟨c,b,c8,?_,hcl',hle',Ah,hbt,hbf⟩;simp only[go_sem,h14]
   |true =>
    cases b2 with
    |true =>
     have hs:c.set v true=c:=by
      apply List.ext_getElem?;intro j;rw[List.getElem?_set];split
      ·rename_i e;subst e;rw[if_pos (by omega),hcv]
      ·rfl
     simp only[if_true]at Ah;rw[hs]at Ah;clear hsw LQ Vr hb1 hb2 hin hin2 hs
     repeat' (first|refine sX ?_ ?_<;>intro h|simp only[go_sem, *])
     refine hG _ ⟨c,b,c8,?_,hcl',hle',Ah,hbt,hbf⟩;simp only[go_sem,h14]
    |false =>
     have hlt:=Vq hcv;simp only[if_true]at Ah;have SV:v < c.length:=by omega
     have ahr:jL cur < jL (c.set v true):=by
      have:=hle'.cnt.1;omega
     clear hsw LQ hb1 hb2 hin hin2 hlt
     repeat' (first|refine sX ?_ ?_<;>intro h|simp only[go_sem, *])
     refine hG _ ⟨c.set v true,true,rfl,?_,by simp[hcl'],hle'.trans Vr,Ah,fun _=>ahr,fun h=>nomatch h⟩;simp only[go_sem,h14]
  ·obtain ⟨c,b,c8,h14,hcl',hle',hsw,hbt,hbf⟩:=hJ
   rw[List.drop_length]at hsw;have hsw:mU f keep cur=c:=hsw;have hmk':Marks f keep a c:=hsw▸zl hin keep cur (fun _ h=>h) hmk;have htc:=N9 c;have ahs:b=false->Closed f keep c:=fun hb=>by
    have e:=hbf hb;rw[e]at hsw ⊢;exact D7 hin2 hcl hsw
   have hm':(n-jL c)+(if b then 1 else 0) < m:=by
    subst hm;cases b with
    |true=>have:=hbt rfl;simp only[if_true];omega
    |false=>rw[hbf rfl];simp
   clear hm hsw hmk hcd hin hin2
   repeat' (first|refine sX ?_ ?_<;>intro h|simp only[go_sem, *])
   refine hG _ _ hm' ⟨c,b,rfl,c8,h14,hcl',hle.trans hle',hmk',ahs⟩
theorem lK (f:Flow):(allT f).length=f.trans.length:=by simp[allT]
theorem Ox (f:Flow) {k:Nat} (h:k < f.trans.length):(allT f)[k]?=some (k:Int):=by
 unfold allT;rw[List.getElem?_map,List.getElem?_range h];rfl
theorem LU (f:Flow) (hlen:f.trans.length<=1048576):aB Tryz.prog 121 [f.tr] (.sl true (ints (allT f))):=by
 have hal:=lK f;have hag:=fun k h=>Ox f (k:=k) h
 generalize allT f=A at *;refine au orders Tryz.func121 rfl (by kernel_rfl) (fun d=>d==8) (by kernel_rfl) rfl (fun hs=>?_);clear hs
 repeat' (first|refine sX ?_ ?_<;>intro h|simp only[go_sem, *])
 refine dS ⟨by omega,by omega⟩ ?_
 repeat' (first|refine sX ?_ ?_<;>intro h|simp only[go_sem, *,beq_self_eq_true])
 refine aC f.trans (fun k s'=>∃cur:List Int,hget s'.hp (8,0)=some ⟨(ints cur).map .t,1,f.trans.length,rD,false,true⟩/\cur.length=f.trans.length/\cur.take k=A.take k) rfl rfl (by first|assumption|omega) (by kernel_rfl) (fun _ _ _ _ hj=>hj) (fun _ _ _ hj=>hj) ?_ (fun k x s' hx hd hk hJ hix hfr G hG=>?_) (fun s' hJ hfr=>?_)
 ·exact ⟨List.replicate f.trans.length 0,rfl,by simp,rfl⟩
 ·have c3:=hfr 3 (by kernel_rfl)
  clear hfr;simp only[go_sem]at c3;change _=PV.rf (8,0) f.trans.length at c3;obtain ⟨cur,h8,hcl,htk⟩:=hJ;have hkn:k < f.trans.length:=by omega
  have adC:k+1<=f.trans.length:=hkn;have hkc:k < cur.length:=by omega
  have hset:(cur.set k (k:Int)).take (k+1)=A.take (k+1):=by
   rw[aP _ _ _ hkc,htk,List.take_add_one,hag k hkn];rfl
  clear hag htk
  repeat' (first|refine sX ?_ ?_<;>intro h|simp only[go_sem, *])
  refine hG _ ⟨cur.set k k,?_,by simp[hcl],hset⟩;simp only[go_sem,h8]
 ·have c3:=hfr 3 (by kernel_rfl)
  clear hfr;simp only[go_sem]at c3;change _=PV.rf (8,0) f.trans.length at c3;obtain ⟨cur,h8,hcl,htk⟩:=hJ;rw[List.take_of_length_le (by omega),List.take_of_length_le (by omega)]at htk;have dN:aS s'.hp dep (.rf (8,0) f.trans.length)=some (.sl true (ints cur)):=iT (k:=5) h8;rw[<- htk];clear hag htk
  repeat' (first|refine sX ?_ ?_<;>intro h|simp only[go_sem, *])
theorem X5 (f:Flow) (hlen:f.trans.length<=1048576):aB Tryz.prog 126 [f.tr] (nA (allT f)):=by
 have hal:=lK f;have hag:=fun k h=>Ox f (k:=k) h
 generalize allT f=L at *;refine au orders Tryz.func126 rfl (by kernel_rfl) (fun d=>d==14) (by kernel_rfl) rfl (fun hs=>?_);clear hs
 repeat' (first|refine sX ?_ ?_<;>intro h|simp only[go_sem, *])
 refine aC f.trans (fun k s'=>Own s'.hp 14 rD 1 false (s'.sl 3) (!(L.take k).isEmpty) (ints (L.take k))) rfl rfl (by first|assumption|omega) (by kernel_rfl) (fun _ _ _ _ hj=>hj) (fun _ _ _ hj=>hj) ?_ (fun k x s' hx hd hk hJ hix hfr G hG=>?_) (fun s' hJ hfr=>?_)
 ·exact Own.nil
 ·have hL:L.take (k+1)=L.take k++[(k:Int)]:=by rw[List.take_add_one,hag k (by omega)];rfl
  repeat' (first|refine sX ?_ ?_<;>intro h|simp only[go_sem, *])
  refine cB (hJ) rfl (by kernel_rfl) (by kernel_rfl) (by kernel_rfl) (by kernel_rfl) rfl (by kernel_rfl) (ok_int _ _) (by simp;omega) (fun v' h' ho hf=>?_)
  repeat' (first|refine sX ?_ ?_<;>intro h|simp only[go_sem, *])
  refine hG _ ?_;rw[hL];exact ho.snoc
 ·rw[List.take_of_length_le (by omega)]at hJ
  have ht:=hJ.dep;clear hag
  repeat' (first|refine sX ?_ ?_<;>intro h|simp only[go_sem, *])
theorem X6 (nn:Bool) (l:List Int) (z:Int):aB Tryz.prog 247 [.sl nn (ints l),i64 z] (i64 (idxFrom (fun y=>z==y) 0 l)):=by
 refine au orders Tryz.func247 rfl (by kernel_rfl) bf (by kernel_rfl) rfl (fun hs=>?_);simp[dJ,Tr.sized]at hs
 repeat' (first|refine sX ?_ ?_<;>intro h|simp only[go_sem, *])
 refine aC l (fun k s'=>idxFrom (fun y=>z==y) 0 l=idxFrom (fun y=>z==y) k (l.drop k)) rfl rfl (by first|assumption|omega) (by kernel_rfl) (fun _ _ _ _ hj=>hj) (fun _ _ _ hj=>hj) ?_ (fun k x s' hx hd hk hJ hix hfr G hG=>?_) (fun s' hJ hfr=>?_)
 ·rfl
 ·have c0:=hfr 0 (by kernel_rfl)
  have c1:=hfr 1 (by kernel_rfl);clear hfr;simp only[go_sem]at c0 c1;rw[hd,idxFrom]at hJ
  repeat' (first|refine sX ?_ ?_<;>intro h|simp only[go_sem, *])
  try any_goals (refine congrArg some ?_;first|rfl|(simp only[go_sem,idxFrom, *];done)|(simp only[go_sem,idxFrom, *];rfl)|(simp_all[idxFrom];done))
  try any_goals (refine hG _ ?_;simp only[go_sem,idxFrom, *];done)
 ·simp only[List.drop_length,idxFrom]at hJ
  repeat' (first|refine sX ?_ ?_<;>intro h|simp only[go_sem, *])
theorem zI (nn:Bool) (l:List Int) (z:Int):aB Tryz.prog 200 [.sl nn (ints l),i64 z] (.bool (hasB l z)):=by
 have h1:=X6 nn l z;rw[show hasB l z=l.any (fun y=>z==y) from rfl,<- lV _ l 0];refine au orders Tryz.func200 rfl (by kernel_rfl) bf (by kernel_rfl) rfl (fun hs=>?_);clear hs
 repeat' (first|refine sX ?_ ?_<;>intro h|refine aj (h1) rfl ?_|simp only[go_sem, *])
theorem X7 (n:Int) (nn:Bool) (l:List Int):aB Tryz.prog 231 [i64 n,.sl nn (ints l)] (.bool (bO n (-1) l)):=by
 refine au orders Tryz.func231 rfl (by kernel_rfl) bf (by kernel_rfl) rfl (fun hs=>?_);simp[dJ,Tr.sized]at hs
 repeat' (first|refine sX ?_ ?_<;>intro h|simp only[go_sem, *])
 refine aC l (fun k s'=>∃last:Int,s'.sl 5=.t (i64 last)/\bO n (-1) l=bO n last (l.drop k)) rfl rfl (by first|assumption|omega) (by kernel_rfl) (fun _ _ _ _ hj=>hj) (fun _ _ _ hj=>hj) ?_ (fun k x s' hx hd hk hJ hix hfr G hG=>?_) (fun s' hJ hfr=>?_)
 ·exact ⟨-1,rfl,rfl⟩
 ·have c0:=hfr 0 (by kernel_rfl)
  have c8:=hfr 8 (by kernel_rfl);clear hfr;simp only[go_sem]at c0 c8;obtain ⟨last,c5,hJ⟩:=hJ;rw[hd,bO]at hJ
  repeat' (first|refine sX ?_ ?_<;>intro h|simp only[go_sem, *])
  ·have e:(if x<=last\/x>=n then false else bO n x (List.drop (k+1) l))=false:=if_pos (.inr (of_decide_eq_true h))
   rw[e]
  ·rename_i h0
   refine hG _ ⟨x,rfl,?_⟩;rw[hJ,if_neg];have:=of_decide_eq_false h;have:=of_decide_eq_false h0;omega
  ·have e:(if x<=last\/x>=n then false else bO n x (List.drop (k+1) l))=false:=if_pos (.inl (of_decide_eq_true h))
   rw[e]
 ·obtain ⟨last,c5,hJ⟩:=hJ
  rw[List.drop_length,bO]at hJ
  repeat' (first|refine sX ?_ ?_<;>intro h|simp only[go_sem, *])
theorem I8 (f:Flow) (keep:List Int) (a:Nat) {n b:Nat} (hb:b < n):(iI f keep a n)[b]?=some (qC f keep a b):=by
 unfold iI;rw[List.getElem?_map,List.getElem?_range hb];rfl
theorem CK (f:Flow) (hf:jk f) (knn:Bool) (keep:List Int) (hkf:InF f keep) (hkl:keep.length<=1048576) :
  aB Tryz.prog 120 [f.tr,.sl knn (ints keep)] (nA (cyc f keep)):=by
 refine au orders Tryz.func120 rfl (by kernel_rfl) (fun d=>d==8||d==21||d==25||d==32) (by kernel_rfl) rfl (fun hs=>?_);clear hs
 repeat' (first|refine sX ?_ ?_<;>intro h|simp only[go_sem, *])
 refine aC keep (fun k s'=>∃acc:List Int,Own s'.hp 32 rD 1 false (s'.sl 5) (!acc.isEmpty) (ints acc)/\acc.length<=k/\cyc f keep=acc++(keep.drop k).filter (qD f keep)) rfl rfl (by first|assumption|omega) (by kernel_rfl) (fun _ _ _ _ hj=>hj) (fun _ _ _ hj=>hj) ?_ (fun k x s' hx hd hk hJ hix hfr G hG=>?_) (fun s' hJ hfr=>?_)
 ·exact ⟨[],Own.nil,Nat.le_refl _,rfl⟩
 ·have c1:=hfr 1 (by kernel_rfl)
  have c2:=hfr 2 (by kernel_rfl);have c9:=hfr 9 (by kernel_rfl);clear hfr;simp only[go_sem]at c1 c2 c9;obtain ⟨acc,hown,hal,hJ⟩:=hJ;obtain ⟨i,y,rfl,hy⟩:=hkf.get (List.mem_of_getElem? hx);obtain ⟨n,hn⟩:∃n:Nat,f.dD=n:=⟨f.dD.toNat,by have:=hf.wG;have:=hf.wH;omega⟩
  obtain ⟨u,v,hu,hun,hv,hvn⟩:=hf.tr hn hy;have hr:=aah f hf hn knn keep hkf hkl hvn;have hg:=I8 f keep v hun;have hl:(iI f keep v n).length=n:=by simp[iI]
  have ho:qD f keep (i:Int)=qC f keep v u:=by
   unfold qD;rw[Int.toNat_natCast,hy];simp only[hu,hv]
  rw[hd,List.filter_cons,ho]at hJ;generalize iI f keep v n=L at *;generalize qC f keep v u=b at *;have adE:u+1<=n:=hun;clear ho hn;cases b with
  |true =>
   repeat' (first|refine sX ?_ ?_<;>intro h|refine aj (hr) rfl ?_|simp only[go_sem, *])
   refine cB (hown.frame (by simp only[go_sem])) rfl (by kernel_rfl) (by kernel_rfl) (by kernel_rfl) (by kernel_rfl) rfl (by kernel_rfl) (ok_int _ _) (by simp;omega) (fun v' h' ho hf=>?_)
   repeat' (first|refine sX ?_ ?_<;>intro h|simp only[go_sem, *])
   refine hG _ ⟨acc++[(i:Int)],ho.snoc,by simp;omega,?_⟩;rw[hJ];simp
  |false =>
   repeat' (first|refine sX ?_ ?_<;>intro h|refine aj (hr) rfl ?_|simp only[go_sem, *])
   refine hG _ ⟨acc,hown.frame (by simp only[go_sem]),by omega,?_⟩;rw[hJ];simp
 ·obtain ⟨acc,hown,hal,hJ⟩:=hJ
  rw[List.drop_length,List.filter_nil,List.append_nil]at hJ;rw[hJ];have ht:=hown.dep
  repeat' (first|refine sX ?_ ?_<;>intro h|simp only[go_sem, *])
theorem LV (lnn:Bool) (left:List Int) (snn:Bool) (strict:List Int) (hl:left.length<=1048576):aB Tryz.prog 123 [.sl lnn (ints left),.sl snn (ints strict)] (nA (without left strict)):=by
 refine au orders Tryz.func123 rfl (by kernel_rfl) (fun d=>d==21) (by kernel_rfl) rfl (fun hs=>?_);clear hs
 repeat' (first|refine sX ?_ ?_<;>intro h|simp only[go_sem, *])
 refine aC left (fun k s'=>∃acc:List Int,Own s'.hp 21 rD 1 false (s'.sl 5) (!acc.isEmpty) (ints acc)/\acc.length<=k/\without left strict=acc++without (left.drop k) strict) rfl rfl (by first|assumption|omega) (by kernel_rfl) (fun _ _ _ _ hj=>hj) (fun _ _ _ hj=>hj) ?_ (fun k x s' hx hd hk hJ hix hfr G hG=>?_) (fun s' hJ hfr=>?_)
 ·exact ⟨[],Own.nil,Nat.le_refl _,rfl⟩
 ·have c1:=hfr 1 (by kernel_rfl)
  have c8:=hfr 8 (by kernel_rfl);clear hfr;simp only[go_sem]at c1 c8;obtain ⟨acc,hown,hal,hJ⟩:=hJ;have hc:=zI snn strict x;rw[hd,without,without,List.filter_cons]at hJ;cases hb:hasB strict x with
  |true =>
   rw[hb]at hJ hc
   repeat' (first|refine sX ?_ ?_<;>intro h|refine aj (hc) rfl ?_|simp only[go_sem, *])
   refine hG _ ⟨acc,hown.frame (by simp only[go_sem]),by omega,?_⟩;exact hJ
  |false =>
   rw[hb]at hJ hc
   repeat' (first|refine sX ?_ ?_<;>intro h|refine aj (hc) rfl ?_|simp only[go_sem, *])
   refine cB (hown.frame (by simp only[go_sem])) rfl (by kernel_rfl) (by kernel_rfl) (by kernel_rfl) (by kernel_rfl) rfl (by kernel_rfl) (ok_int _ _) (by simp;omega) (fun v' h' ho hf=>?_)
   repeat' (first|refine sX ?_ ?_<;>intro h|simp only[go_sem, *])
   refine hG _ ⟨acc++[x],ho.snoc,by simp;omega,?_⟩;rw[List.append_assoc];exact hJ
 ·obtain ⟨acc,hown,hal,hJ⟩:=hJ
  rw[List.drop_length,without,without,List.filter_nil,List.append_nil]at hJ;have hJ:without left strict=acc:=hJ;rw[hJ];have ht:=hown.dep
  repeat' (first|refine sX ?_ ?_<;>intro h|simp only[go_sem, *])
theorem Ns (lnn:Bool) (left:List Int) (snn:Bool) (strict:List Int) (hl:left.length<=1048576):aB Tryz.prog 57 [.sl lnn (ints left),.sl snn (ints strict)] (nA (without left strict)):=by
 refine au orders Tryz.func57 rfl (by kernel_rfl) (fun d=>d==21) (by kernel_rfl) rfl (fun hs=>?_);clear hs
 repeat' (first|refine sX ?_ ?_<;>intro h|simp only[go_sem, *])
 refine aC left (fun k s'=>∃acc:List Int,Own s'.hp 21 rD 1 false (s'.sl 5) (!acc.isEmpty) (ints acc)/\acc.length<=k/\without left strict=acc++without (left.drop k) strict) rfl rfl (by first|assumption|omega) (by kernel_rfl) (fun _ _ _ _ hj=>hj) (fun _ _ _ hj=>hj) ?_ (fun k x s' hx hd hk hJ hix hfr G hG=>?_) (fun s' hJ hfr=>?_)
 ·exact ⟨[],Own.nil,Nat.le_refl _,rfl⟩
 ·have c1:=hfr 1 (by kernel_rfl)
  have c8:=hfr 8 (by kernel_rfl);clear hfr;simp only[go_sem]at c1 c8;obtain ⟨acc,hown,hal,hJ⟩:=hJ;have hc:=GR snn strict x;rw[show strict.any (fun y=>x==y)=hasB strict x from rfl]at hc;rw[hd,without,without,List.filter_cons]at hJ;cases hb:hasB strict x with
  |true =>
   rw[hb]at hJ hc
   repeat' (first|refine sX ?_ ?_<;>intro h|refine aj (hc) rfl ?_|simp only[go_sem, *])
   refine hG _ ⟨acc,hown.frame (by simp only[go_sem]),by omega,?_⟩;exact hJ
  |false =>
   rw[hb]at hJ hc
   repeat' (first|refine sX ?_ ?_<;>intro h|refine aj (hc) rfl ?_|simp only[go_sem, *])
   refine cB (hown.frame (by simp only[go_sem])) rfl (by kernel_rfl) (by kernel_rfl) (by kernel_rfl) (by kernel_rfl) rfl (by kernel_rfl) (ok_int _ _) (by simp;omega) (fun v' h' ho hf=>?_)
   repeat' (first|refine sX ?_ ?_<;>intro h|simp only[go_sem, *])
   refine hG _ ⟨acc++[x],ho.snoc,by simp;omega,?_⟩;rw[List.append_assoc];exact hJ
 ·obtain ⟨acc,hown,hal,hJ⟩:=hJ
  rw[List.drop_length,without,without,List.filter_nil,List.append_nil]at hJ;have hJ:without left strict=acc:=hJ;rw[hJ];have ht:=hown.dep
  repeat' (first|refine sX ?_ ?_<;>intro h|simp only[go_sem, *])
def iJ:Nat->List Bool->List Int
 |_,[]=>[]
 |k,b::r=>if b then (k:Int)::iJ (k+1) r else iJ (k+1) r
theorem I9:∀(R:List Bool) (k u:Nat),hasB (iJ k R) (u:Int)=(decide (k<=u)&&R.getD (u-k) false)
 |[],k,u=>by simp[iJ,hasB]
 |b::r,k,u=>by
  have ih:=I9 r (k+1) u;have key:hasB (iJ (k+1) r) (u:Int)=(decide (k+1<=u)&&r.getD (u-(k+1)) false):=ih;unfold iJ;rcases Nat.lt_trichotomy u k with h|h|h
  ·have e1:decide (k<=u)=false:=decide_eq_false (by omega)
   have e2:decide (k+1<=u)=false:=decide_eq_false (by omega);rw[e2]at key;rw[e1];cases b with
   |false=>simpa using key
   |true =>
    simp only[if_true]
    show ((u:Int)==(k:Int)||hasB (iJ (k+1) r) (u:Int))=_
    rw[key];have:((u:Int)==(k:Int))=false:=by simp;omega
    rw[this];rfl
  ·subst h
   rw[Nat.sub_self,List.getD_cons_zero];have e2:decide (u+1<=u)=false:=decide_eq_false (by omega);rw[e2]at key;cases b with
   |false=>simpa using key
   |true =>
    simp only[if_true]
    show ((u:Int)==(u:Int)||hasB (iJ (u+1) r) (u:Int))=_
    simp
  ·have e1:decide (k<=u)=true:=decide_eq_true (by omega)
   have e2:decide (k+1<=u)=true:=decide_eq_true (by omega);rw[e2]at key;have e3:u-k=(u-(k+1))+1:=by omega
   rw[e1,e3,List.getD_cons_succ];cases b with
   |false=>simpa using key
   |true =>
    simp only[if_true]
    show ((u:Int)==(k:Int)||hasB (iJ (k+1) r) (u:Int))=_
    rw[key];have:((u:Int)==(k:Int))=false:=by simp;omega
    rw[this];rfl
theorem Ja:∀(R:List Bool) (k:Nat),(iJ k R).length<=R.length
 |[],k=>Nat.le_refl _
 |b::r,k=>by
  have:=Ja r (k+1);unfold iJ;split<;>simp only[List.length_cons]<;>omega
theorem Vs (f:Flow) (hf:jk f) {n:Nat} (hn:f.dD=n) (knn:Bool) (keep:List Int) (hkf:InF f keep) (hkl:keep.length<=1048576) {a:Nat} (ha:a < n) :
  aB Tryz.prog 201 [f.tr,.sl knn (ints keep),i64 a] (nA (iJ 0 (iI f keep a n))):=by
 have hn16:n<=16:=by have:=hf.dD;omega
 have hft:=hf.len;have hsr:oV f keep n (start n a)=iI f keep a n:=Nj hf hn keep ha;have hRl:(iI f keep a n).length=n:=by simp[iI]
 have ha1:a+1<=n:=ha;generalize iI f keep a n=R at *;obtain ⟨L,rfl⟩:∃L:List Unit,L.length=n:=⟨List.replicate n (),by simp⟩
 have hst:(start L.length a).length=L.length:=by simp[start]
 refine au orders Tryz.func201 rfl (by kernel_rfl) (fun d=>d==15||d==59) (by kernel_rfl) rfl (fun hs=>?_);clear hs
 repeat' (first|refine sX ?_ ?_<;>intro h|simp only[go_sem, *])
 refine dS ⟨by omega,by omega⟩ ?_
 repeat' (first|refine sX ?_ ?_<;>intro h|simp only[go_sem, *,List.length_replicate])
 refine aC L (fun k s'=>∃c:List Bool,hget s'.hp (15,0)=some ⟨(bls c).map .t,1,L.length,LM,false,true⟩/\c.length=L.length/\oV f keep (L.length-k) c=R) rfl rfl (by first|assumption|omega) (by kernel_rfl) (fun _ _ _ _ hj=>hj) (fun _ _ _ hj=>hj) ?_ (fun k x s' hx hd hk hJ hix hfr G hG=>?_) (fun s' hJ hfr=>?_)
 ·exact ⟨start L.length a,rfl,hst,hsr⟩
 ·have c1:=hfr 1 (by kernel_rfl)
  have c3:=hfr 3 (by kernel_rfl);have c7:=hfr 7 (by kernel_rfl);have c20:=hfr 20 (by kernel_rfl);clear hfr;simp only[go_sem]at c1 c3 c7 c20;change _=PV.rf (15,0) L.length at c7;obtain ⟨c0,h15,hcl,hJ⟩:=hJ;rw[show L.length-k=(L.length-(k+1))+1 by omega,oV]at hJ;have e7:=c7;clear hst hsr
  repeat' (first|refine sX ?_ ?_<;>intro h|simp only[go_sem, *])
  obtain ⟨m,hm⟩:∃m,m=L.length-(k+1):=⟨_,rfl⟩
  rw[<- hm]at hJ hG;refine aC keep (fun k s'=>∃c:List Bool,hget s'.hp (15,0)=some ⟨(bls c).map .t,1,L.length,LM,false,true⟩/\c.length=L.length/\mU f keep c0=mU f (keep.drop k) c) rfl rfl (by first|assumption|omega) (by kernel_rfl) (fun _ _ _ _ hj=>hj) (fun _ _ _ hj=>hj) ?_ (fun k x s' hx hd hk hJ hix hfr G hG=>?_) (fun s' hJ hfr=>?_)
  ·exact ⟨c0,h15,hcl,rfl⟩
  ·have c3:=hfr 3 (by kernel_rfl)
   have c7:=hfr 7 (by kernel_rfl);have c23:=hfr 23 (by kernel_rfl);clear hfr;simp only[go_sem]at c3 c7 c23;rw[e7]at c7;obtain ⟨c,h15,hcl',hsw⟩:=hJ;rw[hd]at hsw;obtain ⟨i,y,rfl,hy⟩:=hkf.get (List.mem_of_getElem? hx);obtain ⟨u,v,hu,hun,hv,hvn⟩:=hf.tr hn hy;have hcu:c[u]?=some (c.getD u false):=by simp[List.getD,List.getElem?_eq_getElem (by omega:u < c.length)]
   have LQ:sw1 f c i=if c.getD u false then c.set v true else c:=by
    unfold sw1;rw[Int.toNat_natCast,hy];simp only[hu,hv,Int.toNat_natCast]
   have Ah:mU f keep c0=mU f (keep.drop (k+1)) (sw1 f c i):=hsw;rw[LQ]at Ah;have ahq:v+1<=L.length:=hvn;have adE:u+1<=L.length:=hun;have SV:v < c.length:=by omega
   generalize hb1:c.getD u false=b1 at *;clear hsw LQ hb1 hn;cases b1 with
   |false =>
    repeat' (first|refine sX ?_ ?_<;>intro h|simp only[go_sem, *])
    refine hG _ ⟨c,h15,hcl',Ah⟩
   |true =>
    simp only[if_true]at Ah
    repeat' (first|refine sX ?_ ?_<;>intro h|simp only[go_sem, *])
    refine hG _ ⟨c.set v true,?_,by simp[hcl'],Ah⟩;simp only[go_sem,h15]
  ·obtain ⟨c,h15,hcl',hsw⟩:=hJ
   rw[List.drop_length]at hsw;have hsw:mU f keep c0=c:=hsw;rw[hsw]at hJ;clear hsw hn
   repeat' (first|refine sX ?_ ?_<;>intro h|simp only[go_sem, *])
   refine hG _ ⟨c,h15,hcl',hJ⟩
 ·have c7:=hfr 7 (by kernel_rfl)
  clear hfr;simp only[go_sem]at c7;change _=PV.rf (15,0) L.length at c7;obtain ⟨c,h15,hcl,hJ⟩:=hJ;rw[Nat.sub_self,oV]at hJ;subst hJ;have e7:=c7;clear hsr hst hn
  repeat' (first|refine sX ?_ ?_<;>intro h|simp only[go_sem, *,beq_self_eq_true])
  refine aC L (fun k s'=>∃acc:List Int,hget s'.hp (15,0)=some ⟨(bls c).map .t,1,L.length,LM,false,true⟩/\Own s'.hp 59 rD 1 false (s'.sl 10) (!acc.isEmpty) (ints acc)/\acc.length<=k/\iJ 0 c=acc++iJ k (c.drop k)) rfl rfl (by first|assumption|omega) (by kernel_rfl) (fun _ _ _ _ hj=>hj) (fun _ _ _ hj=>hj) ?_ (fun k x s' hx hd hk hJ hix hfr G hG=>?_) (fun s' hJ hfr=>?_)
  ·exact ⟨[],h15,Own.nil,Nat.le_refl _,rfl⟩
  ·have c48:=hfr 48 (by kernel_rfl)
   clear hfr;simp only[go_sem]at c48;obtain ⟨acc,h15,hown,hal,hJ⟩:=hJ;obtain ⟨b,hb1,hb2⟩:=aF c k (by omega);rw[hb2,iJ]at hJ;have hkL:k+1<=L.length:=by omega
   clear hb2;cases b with
   |false =>
    repeat' (first|refine sX ?_ ?_<;>intro h|simp only[go_sem, *])
    refine hG _ ⟨acc,h15,hown,by omega,hJ⟩
   |true =>
    repeat' (first|refine sX ?_ ?_<;>intro h|simp only[go_sem, *])
    refine cB (hown.frame (by simp only[go_sem])) rfl (by kernel_rfl) (by kernel_rfl) (by kernel_rfl) (by kernel_rfl) rfl (by kernel_rfl) (ok_int _ _) (by simp;omega) (fun v' h' ho hf=>?_)
    repeat' (first|refine sX ?_ ?_<;>intro h|simp only[go_sem, *])
    refine hG _ ⟨acc++[(k:Int)],?_,ho.snoc,by simp;omega,by rw[List.append_assoc];exact hJ⟩;rw[<- h15];exact aX (hf 15 rfl)
  ·obtain ⟨acc,h15,hown,hal,hJ⟩:=hJ
   rw[<- hcl,List.drop_length,iJ,List.append_nil]at hJ;rw[hJ];have ht:=hown.dep;clear hJ
   repeat' (first|refine sX ?_ ?_<;>intro h|simp only[go_sem, *])
theorem Oy (f:Flow) (hf:jk f) (knn:Bool) (keep:List Int) (hkf:InF f keep) (hkl:keep.length<=1048576) :
  aB Tryz.prog 125 [f.tr,.sl knn (ints keep)] (nA (cyc f keep)):=by
 refine au orders Tryz.func125 rfl (by kernel_rfl) (fun d=>d==33) (by kernel_rfl) rfl (fun hs=>?_);clear hs
 repeat' (first|refine sX ?_ ?_<;>intro h|simp only[go_sem, *])
 refine aC keep (fun k s'=>∃acc:List Int,Own s'.hp 33 rD 1 false (s'.sl 5) (!acc.isEmpty) (ints acc)/\acc.length<=k/\cyc f keep=acc++(keep.drop k).filter (qD f keep)) rfl rfl (by first|assumption|omega) (by kernel_rfl) (fun _ _ _ _ hj=>hj) (fun _ _ _ hj=>hj) ?_ (fun k x s' hx hd hk hJ hix hfr G hG=>?_) (fun s' hJ hfr=>?_)
 ·exact ⟨[],Own.nil,Nat.le_refl _,rfl⟩
 ·have c1:=hfr 1 (by kernel_rfl)
  have c2:=hfr 2 (by kernel_rfl);have c8:=hfr 8 (by kernel_rfl);clear hfr;simp only[go_sem]at c1 c2 c8;obtain ⟨acc,hown,hal,hJ⟩:=hJ;obtain ⟨i,y,rfl,hy⟩:=hkf.get (List.mem_of_getElem? hx);obtain ⟨n,hn⟩:∃n:Nat,f.dD=n:=⟨f.dD.toNat,by have:=hf.wG;have:=hf.wH;omega⟩
  obtain ⟨u,v,hu,hun,hv,hvn⟩:=hf.tr hn hy;have hr:=Vs f hf hn knn keep hkf hkl hvn;have hg:=I8 f keep v hun;have hh:=GR (!(iJ 0 (iI f keep v n)).isEmpty) (iJ 0 (iI f keep v n)) (u:Int);have hh2:=I9 (iI f keep v n) 0 u;rw[show hasB (iJ 0 (iI f keep v n)) (u:Int)=(iJ 0 (iI f keep v n)).any (fun y=>(u:Int)==y) from rfl]at hh2;rw[hh2,Nat.sub_zero,List.getD_eq_getElem?_getD,hg]at hh;have hl:(iJ 0 (iI f keep v n)).length<=n:=by have:=Ja (iI f keep v n) 0;simpa[iI] using this
  have ho:qD f keep (i:Int)=qC f keep v u:=by
   unfold qD;rw[Int.toNat_natCast,hy];simp only[hu,hv]
  rw[hd,List.filter_cons,ho]at hJ;generalize iJ 0 (iI f keep v n)=L at *;generalize qC f keep v u=b at *;have e:(decide (0<=u)&&(some b).getD false)=b:=by simp
  rw[e]at hh;clear ho hn hh2 hg e;cases b with
  |true =>
   repeat' (first|refine sX ?_ ?_<;>intro h|refine aj (hr) rfl ?_|refine aj (hh) rfl ?_|simp only[go_sem, *])
   refine cB (hown.frame (by simp only[go_sem])) rfl (by kernel_rfl) (by kernel_rfl) (by kernel_rfl) (by kernel_rfl) rfl (by kernel_rfl) (ok_int _ _) (by simp;omega) (fun v' h' ho hf=>?_)
   repeat' (first|refine sX ?_ ?_<;>intro h|simp only[go_sem, *])
   refine hG _ ⟨acc++[(i:Int)],ho.snoc,by simp;omega,?_⟩;rw[hJ];simp
  |false =>
   repeat' (first|refine sX ?_ ?_<;>intro h|refine aj (hr) rfl ?_|refine aj (hh) rfl ?_|simp only[go_sem, *])
   refine hG _ ⟨acc,hown.frame (by simp only[go_sem]),by omega,?_⟩;rw[hJ];simp
 ·obtain ⟨acc,hown,hal,hJ⟩:=hJ
  rw[List.drop_length,List.filter_nil,List.append_nil]at hJ;rw[hJ];have ht:=hown.dep
  repeat' (first|refine sX ?_ ?_<;>intro h|simp only[go_sem, *])
theorem yI {f:Flow}{keep:List Int} (h:InF f keep):InF f (cyc f keep):=fun i hi=>h i (Zw hi)
theorem nY {f:Flow}{keep strict:List Int} (h:InF f keep):InF f (without keep strict):=fun i hi=>h i (List.mem_filter.1 hi).1
theorem uV (f:Flow):InF f (allT f):=fun i hi=>by
 obtain ⟨n,hn,rfl⟩:=List.mem_map.1 hi;have:=List.mem_range.1 hn;omega
theorem oM (f:Flow) (keep:List Int):(cyc f keep).length<=keep.length:=List.length_filter_le _ _
theorem nZ (keep strict:List Int):(without keep strict).length<=keep.length:=List.length_filter_le _ _
attribute [go_sem] Tryz.results168 Tryz.results261 Tryz.results237 Tryz.results234 Tryz.results235 Tryz.results236 Tryz.results175 Tryz.results193 Tryz.results194 Tryz.results195
theorem wP (u:Upd) (l:List Upd):aG (u::l)=(if u.any then 1 else 0)+aG l:=by
 unfold aG;rw[List.filter_cons];split<;>simp<;>omega
theorem WS (t:Trans) (hl:t.next.length<=1048576):aB Tryz.prog 168 [t.tr] (i64 (aG t.next)):=by
 refine au orders Tryz.func168 rfl (by kernel_rfl) (fun d=>d==5||d==13) (by kernel_rfl) rfl (fun hs=>?_);clear hs
 repeat' (first|refine sX ?_ ?_<;>intro h|simp only[go_sem, *])
 refine aC t.next (fun k s'=>∃n:Nat,s'.sl 3=.t (i64 n)/\n<=k/\aG t.next=n+aG (t.next.drop k)) rfl rfl (by first|assumption|omega) (by kernel_rfl) (fun _ _ _ _ hj=>hj) (fun _ _ _ hj=>hj) ?_ (fun k x s' hx hd hk hJ hix hfr G hG=>?_) (fun s' hJ hfr=>?_)
 ·exact ⟨0,rfl,Nat.le_refl _,by simp⟩
 ·have c7:=hfr 7 (by kernel_rfl)
  clear hfr;simp only[go_sem]at c7;obtain ⟨n,c3,hnk,hJ⟩:=hJ;rw[hd,wP]at hJ;have hw:=lg (k:=n) (by omega);cases hb:x.any with
  |true =>
   rw[hb]at hJ
   repeat' (first|refine sX ?_ ?_<;>intro h|simp only[go_sem, *])
   refine hG _ ⟨n+1,rfl,by omega,by simp only[if_true]at hJ;omega⟩
  |false =>
   rw[hb]at hJ
   repeat' (first|refine sX ?_ ?_<;>intro h|simp only[go_sem, *])
   refine hG _ ⟨n,c3,by omega,by simpa using hJ⟩
 ·obtain ⟨n,c3,hnk,hJ⟩:=hJ
  rw[List.drop_length]at hJ;have hJ:aG t.next=n:=hJ;rw[hJ]
  repeat' (first|refine sX ?_ ?_<;>intro h|simp only[go_sem, *])
theorem acj (t:Trans) (hl:t.next.length<=1048576):aB Tryz.prog 175 [t.tr] (i64 (aG t.next)):=by
 refine au orders Tryz.func175 rfl (by kernel_rfl) (fun d=>d==5||d==13) (by kernel_rfl) rfl (fun hs=>?_);clear hs
 repeat' (first|refine sX ?_ ?_<;>intro h|simp only[go_sem, *])
 refine aC t.next (fun k s'=>∃n:Nat,s'.sl 3=.t (i64 n)/\n<=k/\aG t.next=n+aG (t.next.drop k)) rfl rfl (by first|assumption|omega) (by kernel_rfl) (fun _ _ _ _ hj=>hj) (fun _ _ _ hj=>hj) ?_ (fun k x s' hx hd hk hJ hix hfr G hG=>?_) (fun s' hJ hfr=>?_)
 ·exact ⟨0,rfl,Nat.le_refl _,by simp⟩
 ·have c7:=hfr 7 (by kernel_rfl)
  clear hfr;simp only[go_sem]at c7;obtain ⟨n,c3,hnk,hJ⟩:=hJ;rw[hd,wP]at hJ;have hw:=lg (k:=n) (by omega);cases hb:x.any with
  |true =>
   rw[hb]at hJ
   repeat' (first|refine sX ?_ ?_<;>intro h|simp only[go_sem, *])
   refine hG _ ⟨n+1,rfl,by omega,by simp only[if_true]at hJ;omega⟩
  |false =>
   rw[hb]at hJ
   repeat' (first|refine sX ?_ ?_<;>intro h|simp only[go_sem, *])
   refine hG _ ⟨n,c3,by omega,by simpa using hJ⟩
 ·obtain ⟨n,c3,hnk,hJ⟩:=hJ
  rw[List.drop_length]at hJ;have hJ:aG t.next=n:=hJ;rw[hJ]
  repeat' (first|refine sX ?_ ?_<;>intro h|simp only[go_sem, *])
theorem FN (k:Int):aB Tryz.prog 236 [i64 k] (.bool (!aU k)):=by
 rw[show (!aU k)=(decide (k < -1048576)||decide (k > 1048576)) by rw[Bool.eq_iff_iff];simp[aU]];refine au orders Tryz.func236 rfl (by kernel_rfl) bf (by kernel_rfl) rfl (fun hs=>?_)
 repeat' (first|refine sX ?_ ?_<;>intro h|simp only[go_sem, *])
theorem Bt (h:Hp):dM Tryz.prog 188 [.t (.sl false [])] h (fun v h'=>v=.t (.sl false [])/\h'=h):=by
 refine dI orders Tryz.func188 rfl (by kernel_rfl) (fun d=>d==5||d==7) (by kernel_rfl) rfl (fun hs hlen=>?_);clear hs
 repeat' (first|refine sX ?_ ?_<;>intro h|simp only[go_sem, *])
theorem Oz (l:List Int) (h:Hp) (hlen:l.length<=1000000) :
  dM Tryz.prog 188 [.t (.sl true (ints l))] h (fun v h'=>v=.rf (hnext h 5) l.length/\h'=hnew h 5 ⟨(ints l).map .t,1,l.length,fU,false,true⟩):=by
 by_cases hne:l=[]
 ·subst hne
  refine dI orders Tryz.func188 rfl (by kernel_rfl) (fun d=>d==5||d==7) (by kernel_rfl) rfl (fun hs hlen=>?_);clear hs
  repeat' (first|refine sX ?_ ?_<;>intro h|simp only[go_sem, *])
  rw[wL (esz:=1) (e:=fU) (ag:=false) (by kernel_rfl) (by kernel_rfl) (by kernel_rfl) rfl (by kernel_rfl) (aJ _ _) (by decide)]
  repeat' (first|refine sX ?_ ?_<;>intro h|simp only[go_sem, *])
 ·skip
  refine dI orders Tryz.func188 rfl (by kernel_rfl) (fun d=>d==5||d==7) (by kernel_rfl) rfl (fun hs hlen=>?_);clear hs
  repeat' (first|refine sX ?_ ?_<;>intro h|simp only[go_sem, *])
  rw[pG (esz:=1) (e:=fU) (ag:=false) (by kernel_rfl) (by kernel_rfl) (by kernel_rfl) rfl (by kernel_rfl) (fun x hx=>(yj _ _ x hx).2.2) (aJ _ _) (by rw[List.length_map];omega) (by simpa using hne)];simp only[Nat.zero_add,List.length_map,List.nil_append,gL,rP]
  repeat' (first|refine sX ?_ ?_<;>intro h|simp only[go_sem, *])
theorem CO (k:Nat):∀x∈List.replicate k (Tr.int .i64 0),dh false 1 x:=by
 intro x hx;rw[(List.mem_replicate.1 hx).2];exact ⟨(fun h=>nomatch h),fun _=>rfl,rfl⟩
theorem X8 {h:Hp}{d:Nat}{e:TypeId}{l:List Int}{n:Nat} (hn:n=l.length):Own (hnew h d ⟨(ints l).map .t,1,n,e,false,true⟩) d e 1 false (.rf (hnext h d) n) true (ints l):=by
 have:=Own.fresh (h:=h) (d:=d) (e:=e) (yj .i64 l);rw[rP,List.length_map,<- hn]at this;exact this
def Jb (r:Row) (k:Nat):Row:=⟨r.nn||decide (k≠0),r.av++List.replicate k 0,r.const⟩
theorem afg (r:Row) (k:Nat) (hl:r.av.length<=100000) (hk:k<=100000):aB Tryz.prog 261 [r.tr,i64 k] (Jb r k).tr:=by
 refine yu (enters' _ (by kernel_rfl)) fun hw=>?_
 have hnil:r.nn=false->r.av=[]:=fun h=>by
  obtain ⟨nn,l,c⟩:=r;subst h;simp[wfL,Tr.wf,Row.tr]at hw;exact hw.1
 clear hw;obtain ⟨nn,l,c⟩:=r;cases nn with
 |false =>
  have:=hnil rfl;simp only at this;subst this;clear hnil;unfold Jb;simp only[List.nil_append,Bool.false_or];refine au orders Tryz.func261 rfl (by kernel_rfl) (fun d=>d==4||d==7||d==9) (by kernel_rfl) rfl (fun hs=>?_);clear hs
  repeat' (first|refine sX ?_ ?_<;>intro h|simp only[go_sem, *])
  refine lT (Bt _) rfl ?_
  repeat' (first|refine sX ?_ ?_<;>intro h|simp only[go_sem, *])
  rw[if_pos ⟨by omega,by omega⟩];refine cB (xs:=List.replicate k (Tr.int .i64 0)) (Own.nil (e:=fU) (esz:=1) (ag:=false)) rfl (by kernel_rfl) (by kernel_rfl) (by kernel_rfl) (by kernel_rfl) rfl (by kernel_rfl) (CO k) (by simp;omega) (fun v' h' ho hf=>?_);have e4:hnext (fun _=>([]:List Obj)) 4=(4,0):=rfl;have hd5:=fun o=>(ho.frame (h':=hset h' (4,0) o) (by simp only[go_sem])).aS 4
  have hvo:=ho.one;have h4:hget h' (4,0)=some ⟨[.t (.sl false []),.t (i64 0)],2,1,dX,true,true⟩:=by rw[aX (hf 4 rfl)];rfl
  repeat' (first|refine sX ?_ ?_<;>intro h|simp only[go_sem, *])
  cases k<;>simp[List.replicate_succ]
 |true =>
  clear hnil;simp only at hl;refine au orders Tryz.func261 rfl (by kernel_rfl) (fun d=>d==4||d==7||d==9) (by kernel_rfl) rfl (fun hs=>?_);clear hs
  repeat' (first|refine sX ?_ ?_<;>intro h|simp only[go_sem, *])
  refine lT (Oz l _ (by omega)) rfl ?_
  repeat' (first|refine sX ?_ ?_<;>intro h|simp only[go_sem, *])
  rw[if_pos ⟨by omega,by omega⟩];refine mh (xs:=List.replicate k (Tr.int .i64 0)) (X8 rfl) (by kernel_rfl) (by kernel_rfl) (by kernel_rfl) rfl (by kernel_rfl) (CO k) (by simp;omega) (fun v' h' ho hf=>?_);have e4:hnext (fun _=>([]:List Obj)) 4=(4,0):=rfl;have hd5:=fun o=>(ho.frame (h':=hset h' (4,0) o) (by simp only[go_sem])).aS 4
  have hvo:=ho.one;have h4:hget h' (4,0)=some ⟨[.t (.sl false []),.t (i64 0)],2,1,dX,true,true⟩:=by rw[aX (hf 4 rfl)];rfl
  repeat' (first|refine sX ?_ ?_<;>intro h|simp only[go_sem, *])
  simp[Jb,ints]
def jR (t:Trans):List Row:=t.guard.map (fun r=>Jb r (aG t.next))
theorem Te (t:Trans) (hn:t.next.length<=100000) (hl:t.guard.length<=100000) (hg:∀r∈t.guard,r.av.length<=100000):aB Tryz.prog 237 [t.tr] (.sl (!t.guard.isEmpty) ((jR t).map Row.tr)):=by
 have ha:=WS t (by omega);have hak:aG t.next<=100000:=Nat.le_trans (List.length_filter_le _ _) hn;have hgr:∀(k:Nat) (x:Row),t.guard[k]?=some x->(jR t)[k]?=some (Jb x (aG t.next)):=fun k x hx=>by unfold jR;rw[List.getElem?_map,hx];rfl
 have hRl:(jR t).length<=t.guard.length:=by simp[jR]
 have hne:t.guard.isEmpty=(jR t).isEmpty:=by unfold jR;cases t.guard<;>rfl
 rw[hne];generalize aG t.next=n at *;generalize jR t=R at *;clear hne;refine au orders Tryz.func237 rfl (by kernel_rfl) (fun d=>d==5||d==19) (by kernel_rfl) rfl (fun hs=>?_);clear hs hn
 repeat' (first|refine sX ?_ ?_<;>intro h|simp only[go_sem, *])
 refine aC t.guard (fun k s'=>Own s'.hp 19 dX 2 true (s'.sl 3) (!(R.take k).isEmpty) ((R.take k).map Row.tr)) rfl rfl (by first|assumption|omega) (by kernel_rfl) (fun _ _ _ _ hj=>hj) (fun _ _ _ hj=>hj) ?_ (fun k x s' hx hd hk hJ hix hfr G hG=>?_) (fun s' hJ hfr=>?_)
 ·exact Own.nil
 ·have c1:=hfr 1 (by kernel_rfl)
  have c7:=hfr 7 (by kernel_rfl);clear hfr;simp only[go_sem]at c1 c7;have hp:=afg x n (hg x (List.mem_of_getElem? hx)) hak;have hR:R.take (k+1)=R.take k++[Jb x n]:=by rw[List.take_add_one,hgr k x hx];rfl
  generalize Jb x n=y at *;clear hgr
  repeat' (first|refine sX ?_ ?_<;>intro h|refine aj (ha) rfl ?_|refine aj (hp) rfl ?_|simp only[go_sem, *])
  refine cB (hJ.frame (by simp only[go_sem])) rfl (by kernel_rfl) (by kernel_rfl) (by kernel_rfl) (by kernel_rfl) rfl (by kernel_rfl) (PU _ 2 rfl) (by simp;omega) (fun v' h' ho hf=>?_)
  repeat' (first|refine sX ?_ ?_<;>intro h|simp only[go_sem, *])
  refine hG _ ?_;rw[hR];exact ho.snoc
 ·rw[List.take_of_length_le hRl]at hJ
  have ht:=hJ.dep;clear hgr
  repeat' (first|refine sX ?_ ?_<;>intro h|simp only[go_sem, *])
theorem Tf (nn:Bool) (l:List Int) (t:Int):aB Tryz.prog 194 [.sl nn (ints l),i64 t] (i64 (dw l t)):=by
 have hh:=GR nn l t;rw[show l.any (fun y=>t==y)=hasB l t from rfl]at hh;unfold dw;cases hb:hasB l t with
 |true =>
  rw[hb]at hh;refine au orders Tryz.func194 rfl (by kernel_rfl) bf (by kernel_rfl) rfl (fun hs=>?_);clear hs
  repeat' (first|refine sX ?_ ?_<;>intro h|refine aj (hh) rfl ?_|simp only[go_sem, *])
 |false =>
  rw[hb]at hh;refine au orders Tryz.func194 rfl (by kernel_rfl) bf (by kernel_rfl) rfl (fun hs=>?_);clear hs
  repeat' (first|refine sX ?_ ?_<;>intro h|refine aj (hh) rfl ?_|simp only[go_sem, *])
theorem adF (s:bq) (t:Int):aB Tryz.prog 235 [s.tr,i64 t] (i64 (dw s.strict t)):=by
 have hh:=zI s.snn s.strict t;unfold dw;cases hb:hasB s.strict t with
 |true =>
  rw[hb]at hh;refine au orders Tryz.func235 rfl (by kernel_rfl) bf (by kernel_rfl) rfl (fun hs=>?_);clear hs
  repeat' (first|refine sX ?_ ?_<;>intro h|refine aj (hh) rfl ?_|simp only[go_sem, *])
 |false =>
  rw[hb]at hh;refine au orders Tryz.func235 rfl (by kernel_rfl) bf (by kernel_rfl) rfl (fun hs=>?_);clear hs
  repeat' (first|refine sX ?_ ?_<;>intro h|refine aj (hh) rfl ?_|simp only[go_sem, *])
theorem fV {mu:Nat->Bool} (id:Id) (n off:Nat) (h:mu (3000000+id.1)=false):awX mu (.ad id n off)=true:=by unfold awX DR;simp[PV.site,h]
theorem dP {mu:Nat->Bool} (d:Nat) (p q:PV) (h:mu (3000000+d)=false):apX mu (some d) p q=true:=by unfold apX;simp[Da,h]
theorem aV (h:Hp) (d:Nat):(hnext h d).1=d:=rfl
def oN (d:Nat):Nat->List Row->List PV
 |_,[]=>[]
 |j,r::l=>.rf (d,j) r.av.length::.t (i64 r.const)::oN d (j+1) l
def wQ (h:Hp) (d:Nat):Nat->List Row->Prop
 |_,[]=>True
 |j,r::l=>hget h (d,j)=some ⟨(ints r.av).map .t,1,r.av.length,fU,false,true⟩/\wQ h d (j+1) l
theorem Dv (d:Nat) (r:Row):∀(l:List Row) (j:Nat),oN d j (l++[r])=oN d j l++[.rf (d,j+l.length) r.av.length,.t (i64 r.const)]
 |[],j=>rfl
 |x::l,j=>by simp only[List.cons_append,oN,Dv d r l (j+1),List.length_cons];rw[show j+1+l.length=j+(l.length+1) by omega]
theorem zJ {h:Hp}{d:Nat}{r:Row}:∀ {l:List Row}{j:Nat},wQ h d j l->hget h (d,j+l.length)=some ⟨(ints r.av).map .t,1,r.av.length,fU,false,true⟩->wQ h d j (l++[r])
 |[],j,_,h2=>⟨h2,trivial⟩
 |x::l,j,h1,h2=>⟨h1.1,zJ h1.2 (by rw[show j+1+l.length=j+(l.length+1) by omega];exact h2)⟩
theorem wQ.keep {h h':Hp}{d:Nat}:∀ {l:List Row}{j:Nat},wQ h d j l->(∀i,j<=i->i < j+l.length->hget h' (d,i)=hget h (d,i))->wQ h' d j l
 |[],_,_,_=>trivial
 |x::l,j,h1,h2=>⟨by rw[h2 j (by omega) (by simp)];exact h1.1,h1.2.keep fun i hi1 hi2=>h2 i (by omega) (by simp only[List.length_cons];omega)⟩
def tru (r:Row):Row:={ r with nn:=true }
theorem Jc {h:Hp}{d k:Nat}:∀ {l:List Row}{j:Nat},wQ h d j l->bA (aS h (k+1)) (oN d j l)=some (flat (l.map fun r=>(tru r).tr))
 |[],_,_=>rfl
 |x::l,j,h1=>by
  have e1:=iT (esz:=1) (e:=fU) (lv:=true) k h1.1;have ih:=Jc (k:=k) h1.2;simp only[oN,bA,e1,qy,ih];rfl
theorem LW {h:Hp}{id:Id}{o:Obj} (ho:hget h id=some o):hset h id o=h:=by
 unfold hset;funext c;unfold upd;split
 ·rename_i e
  subst e;unfold hget at ho;apply List.ext_getElem?;intro j;rw[List.getElem?_set];split
  ·rename_i e2
   subst e2;rw[ho,if_pos (List.getElem?_eq_some_iff.1 ho).1]
  ·rfl
 ·rfl
section
variable {P:Program}{mu:Nat->Bool}{h:Hp}{t e:TypeId}{esz by_:Nat}{ag ag':Bool}{cs cs':List PV}{id id':Id}{n m:Nat}
theorem jW {d:Option Tmp}{nn':Bool}{xs:List Tr} (hel:bg P t=some e) (hsz:P.cellsOf e=esz) (hz:(aW P e).map List.length=some esz) (h1:Nat.blt 0 esz=true) (hby:P.bytesOf e=by_)
  (hx:∀x∈xs,x.cells.length=esz) (hg:hget h id=some ⟨cs,esz,n,e,ag,true⟩) (hb:(n+xs.length)*by_<=140737488355328/\n+xs.length<=4611686018427387904) :
  aT P mu d t (.rf id n) (.t (.sl nn' xs)) h=some (.rf id (n+xs.length),hset h id ⟨cs++(flat xs).map .t,esz,n+xs.length,e,ag,true⟩):=by
 by_cases hne:xs=[]
 ·subst hne
  have hpos:0 < esz:=by simp[Nat.blt]at h1;omega
  have hzz:∃z,aW P e=some z/\z.length=esz:=by
   cases hzz:aW P e with
   |none=>rw[hzz]at hz;cases hz
   |some z=>rw[hzz]at hz;exact ⟨z,rfl,by simpa using hz⟩
  obtain ⟨z,hz1,hz2⟩:=hzz;unfold aT;simp only[hel,hz1,iP,flat,List.flatMap_nil,List.length_nil,Nat.zero_mul,hsz,if_true,hz2,true_and,hg,hby,Nat.add_zero,List.map_nil,List.append_nil]at hb ⊢;rw[if_pos hpos,if_pos hb,LW hg]
 ·exact p9 hel hsz hz h1 hby hx hg hb hne
theorem LX {d:Option Tmp} (hel:bg P t=some e) (hsz:P.cellsOf e=esz) (hz:(aW P e).map List.length=some esz) (h1:Nat.blt 0 esz=true) (hby:P.bytesOf e=by_)
  (hg:hget h id=some ⟨cs,esz,n,e,ag,true⟩) (hg':hget h id'=some ⟨cs',esz,m,e,ag',true⟩) (hm:Nat.blt 0 m=true) (hb:(n+m)*by_<=140737488355328/\n+m<=4611686018427387904) :
  aT P mu d t (.rf id n) (.rf id' m) h=some (.rf id (n+m),hset h id ⟨cs++cs',esz,n+m,e,ag,true⟩):=by
 have hpos:0 < esz:=by simp[Nat.blt]at h1;omega
 have hm0:m≠0:=by simp[Nat.blt]at hm;omega
 have hzz:∃z,aW P e=some z/\z.length=esz:=by
  cases hzz:aW P e with
  |none=>rw[hzz]at hz;cases hz
  |some z=>rw[hzz]at hz;exact ⟨z,rfl,by simpa using hz⟩
 obtain ⟨z,hz1,hz2⟩:=hzz;unfold aT;simp only[hel,hz1,iP,hg',hsz,and_self,if_true,hz2,true_and,hg,hby];rw[if_pos hpos,if_pos hb,if_neg hm0]
theorem Vt {d:Option Tmp} (hel:bg P t=some e) (hsz:P.cellsOf e=esz) (hz:(aW P e).map List.length=some esz) (h1:Nat.blt 0 esz=true) (hby:P.bytesOf e=by_)
  (hg':hget h id'=some ⟨cs',esz,m,e,ag',true⟩) (hm:Nat.blt 0 m=true) (hb:m*by_<=140737488355328/\m<=4611686018427387904) :
  aT P mu d t (.t (.sl false [])) (.rf id' m) h=dG P mu d e m cs' h:=by
 have hpos:0 < esz:=by simp[Nat.blt]at h1;omega
 have hm0:m≠0:=by simp[Nat.blt]at hm;omega
 have hzz:∃z,aW P e=some z/\z.length=esz:=by
  cases hzz:aW P e with
  |none=>rw[hzz]at hz;cases hz
  |some z=>rw[hzz]at hz;exact ⟨z,rfl,by simpa using hz⟩
 obtain ⟨z,hz1,hz2⟩:=hzz;unfold aT;simp only[hel,hz1,iP,hg',hsz,and_self,if_true,hz2,true_and,hby];rw[if_pos hpos,if_neg hm0,if_pos hb]
end
theorem acn (gnn:Bool) (l:List Row) (n:Nat) (hl:l.length<=100000) (hr:∀r∈l,r.av.length<=100000) (hn:n<=100000):aB Tryz.prog 195 [.sl gnn (l.map Row.tr),i64 n] (.sl (!l.isEmpty) ((l.map (wide n)).map Row.tr)):=by
 obtain ⟨W,hW⟩:∃W,W=l.map (wide n):=⟨_,rfl⟩
 have hWg:∀(k:Nat) (x:Row),l[k]?=some x->W[k]?=some (wide n x):=fun k x hx=>by rw[hW,List.getElem?_map,hx];rfl
 have hWl:W.length=l.length:=by rw[hW];simp
 have hWt:W.map (fun r=>(tru r).tr)=W.map Row.tr:=by rw[hW,List.map_map,List.map_map];rfl
 have hne:l.isEmpty=W.isEmpty:=by rw[hW];cases l<;>rfl
 rw[hne,<- hW,<- hWt];clear hne hWt hW;refine au orders Tryz.func195 rfl (by kernel_rfl) (fun d=>d==7||d==16||d==21||d==15||d==18||d==20||d==24||d==25||d==3000015||d==3000018||d==3000020||d==3999999) (by kernel_rfl) rfl (fun hs=>?_);clear hs
 repeat' (first|refine sX ?_ ?_<;>intro h|simp only[go_sem, *])
 refine aC l (fun k s'=>(s'.hp 15).length=k/\wQ s'.hp 15 0 (W.take k)/\((k=0/\s'.sl 5=.t (.sl false []))\/(0 < k/\∃id:Id,id.1=25/\s'.sl 5=.rf id k/\hget s'.hp id=some ⟨oN 15 0 (W.take k),2,k,dX,true,true⟩))) rfl rfl (by first|assumption|omega) (by kernel_rfl) (fun _ _ _ _ hj=>hj) (fun _ _ _ hj=>hj) ?_ (fun k x s' hx hd hk hJ hix hfr G hG=>?_) (fun s' hJ hfr=>?_)
 ·exact ⟨rfl,trivial,.inl ⟨rfl,rfl⟩⟩
 ·have c1:=hfr 1 (by kernel_rfl)
  have c8:=hfr 8 (by kernel_rfl);clear hfr;simp only[go_sem]at c1 c8;obtain ⟨h15,hH,hcase⟩:=hJ;have hxl:=hr x (List.mem_of_getElem? hx);have hT:W.take (k+1)=W.take k++[wide n x]:=by rw[List.take_add_one,hWg k x hx];rfl
  have hcw:List.map PV.t (List.map (Tr.int .i64) x.av)++List.map PV.t (flat (List.replicate n (Tr.int .i64 0)))=(ints (wide n x).av).map .t:=by
   rw[uS _ (fun y hy=>by rw[(List.mem_replicate.1 hy).2];rfl)];simp[wide]
  have htl:(W.take k).length=k:=by rw[List.length_take];omega
  rcases hcase with ⟨rfl,c5⟩|⟨hk0,id,hid,c5,hrow⟩
  ·repeat' (first|refine sX ?_ ?_<;>intro h|simp only[go_sem, *,fV,fC,jI,jJ,aV])
   rw[jW (esz:=1) (e:=fU) (ag:=false) (by_:=8) (by kernel_rfl) (by kernel_rfl) (by kernel_rfl) rfl (by kernel_rfl) (fun y hy=>(yj _ _ y hy).2.2) (aJ _ _) (by rw[List.length_map];omega)];simp only[Nat.zero_add,List.length_map,List.nil_append,gL,rP]
   repeat' (first|refine sX ?_ ?_<;>intro h|simp only[go_sem, *,fV,fC,jI,jJ,aV])
   rw[if_pos ⟨by omega,by omega⟩,jW (xs:=List.replicate n (Tr.int .i64 0)) (esz:=1) (e:=fU) (ag:=false) (by_:=8) (by kernel_rfl) (by kernel_rfl) (by kernel_rfl) rfl (by kernel_rfl) (fun y hy=>(CO n y hy).2.2) (aJ _ _) (by rw[List.length_replicate];omega)];simp only[List.length_replicate,gL,hcw]
   repeat' (first|refine sX ?_ ?_<;>intro h|simp only[go_sem, *,fV,dP,fC,aV])
   rw[Vt (esz:=2) (e:=dX) (ag':=true) (by_:=32) (by kernel_rfl) (by kernel_rfl) (by kernel_rfl) rfl (by kernel_rfl) (aJ _ _) rfl (by decide)]
   repeat' (first|refine sX ?_ ?_<;>intro h|simp only[go_sem, *,fV,dP,fC,aV])
   refine hG _ ⟨?_,?_,.inr ⟨by omega,(25,(s'.hp 25).length),rfl,rfl,?_⟩⟩
   ·simp[hnew,upd,h15]
   ·rw[hT]
    refine zJ (hH.keep fun i _ hi=>?_) ?_
    ·simp at hi
    ·simp[hget,hnew,upd,h15,wide]
   ·simp[hget,hnew,upd,hT,oN,hnext,h15,wide]
  ·repeat' (first|refine sX ?_ ?_<;>intro h|simp only[go_sem, *,fV,fC,jI,jJ,aV])
   rw[jW (esz:=1) (e:=fU) (ag:=false) (by_:=8) (by kernel_rfl) (by kernel_rfl) (by kernel_rfl) rfl (by kernel_rfl) (fun y hy=>(yj _ _ y hy).2.2) (aJ _ _) (by rw[List.length_map];omega)];simp only[Nat.zero_add,List.length_map,List.nil_append,gL,rP]
   repeat' (first|refine sX ?_ ?_<;>intro h|simp only[go_sem, *,fV,fC,jI,jJ,aV])
   rw[if_pos ⟨by omega,by omega⟩,jW (xs:=List.replicate n (Tr.int .i64 0)) (esz:=1) (e:=fU) (ag:=false) (by_:=8) (by kernel_rfl) (by kernel_rfl) (by kernel_rfl) rfl (by kernel_rfl) (fun y hy=>(CO n y hy).2.2) (aJ _ _) (by rw[List.length_replicate];omega)];simp only[List.length_replicate,gL,hcw]
   repeat' (first|refine sX ?_ ?_<;>intro h|simp only[go_sem, *,fV,dP,fC,aV])
   rw[LX (esz:=2) (e:=dX) (ag:=true) (ag':=true) (by_:=32) (cs:=oN 15 0 (List.take k W)) (by kernel_rfl) (by kernel_rfl) (by kernel_rfl) rfl (by kernel_rfl) (by rw[aX (h':=_) (h:=s'.hp) (by simp[hnew,upd,hid])];exact hrow) (aJ _ _) rfl (by omega)]
   repeat' (first|refine sX ?_ ?_<;>intro h|simp only[go_sem, *,fV,dP,fC,aV])
   refine hG _ ⟨?_,?_,.inr ⟨by omega,id,hid,rfl,?_⟩⟩
   ·simp[hset,hnew,upd,h15,hid]
   ·rw[hT]
    refine zJ (hH.keep fun i _ hi=>?_) ?_
    ·simp only[hget,hset,hnew,upd,hid]
     simp only[Nat.reduceEqDiff,if_true,if_false];rw[List.getElem?_append_left (by rw[h15];omega)]
    ·rw[htl]
     simp[hget,hset,hnew,upd,h15,wide,hid]
   ·rw[hT,Dv,htl]
    have aht:id.2 < (s'.hp 25).length:=by
     have:=hrow;unfold hget at this;rw[hid]at this;exact (List.getElem?_eq_some_iff.1 this).1
    simp[hget,hset,hnew,upd,hnext,h15,wide,hid,aht]
 ·obtain ⟨h15,hH,hcase⟩:=hJ
  rw[List.take_of_length_le (by omega)]at hH hcase;rcases hcase with ⟨hk0,c5⟩|⟨hk0,id,hid,c5,hrow⟩
  ·have hW0:W=[]:=List.eq_nil_of_length_eq_zero (by omega)
   subst hW0
   repeat' (first|refine sX ?_ ?_<;>intro h|simp only[go_sem, *])
   rfl
  ·have hWn:W.isEmpty=false:=by cases W with|nil=>simp at hWl;omega|cons a b=>rfl
   rw[hWn];have hmo:bA (aS s'.hp 5) (oN 15 0 W)=some (flat (W.map fun r=>(tru r).tr)):=Jc hH;have dN:aS s'.hp dep (.rf id l.length)=some (.sl true (W.map fun r=>(tru r).tr)):=by
    show aS s'.hp (5+1) _=_
    rw[rO,hrow];simp only[if_true,hmo];have e:=wF (ag:=true) (esz:=2) (l:=W.map fun r=>(tru r).tr) (fun x hx=>by obtain ⟨r,_,rfl⟩:=List.mem_map.1 hx;exact ⟨fun _=>rfl,(fun h=>nomatch h),rfl⟩);rw[List.length_map,hWl]at e;rw[e]
   clear hmo hrow hH
   repeat' (first|refine sX ?_ ?_<;>intro h|simp only[go_sem, *])
end ama
end Go.Vm
end
section
namespace Go.Vm
open Go Go.Proofs Go.Whole
namespace ama
open Go.Proofs.Tryz
def Ep (h:Hp) (v:PV) (l:List Int):Prop:=(v=.t (.sl false [])/\l=[])\/(∃id:Id,(id.1=5\/id.1=9)/\v=.rf id l.length/\hget h id=some ⟨(ints l).map .t,1,l.length,fU,false,true⟩)
theorem LY (k:Nat):flat (List.replicate k (Tr.int .i64 0))=ints (List.replicate k 0):=by
 rw[uS _ (fun y hy=>by rw[(List.mem_replicate.1 hy).2];rfl)];simp
theorem aco (l:List Int) (c:Int) (k:Nat) (h:Hp) (hl:l.length<=100000) (hk:k<=100000):dM Tryz.prog 261 [.t (Row.tr ⟨true,l,c⟩),.t (i64 k)] h (fun v' h'=>v'=gV [.rf (hnext h 5) (l.length+k),.t (i64 c)]/\h'=hnew (hnew h 4 ⟨[.rf (hnext h 5) (l.length+k),.t (i64 c)],2,1,dX,true,true⟩) 5 ⟨(ints (l++List.replicate k 0)).map .t,1,l.length+k,fU,false,true⟩):=by
 refine dI orders Tryz.func261 rfl (by kernel_rfl) (fun d=>d==4||d==7||d==9) (by kernel_rfl) rfl (fun hs hlen=>?_);clear hs
 repeat' (first|refine sX ?_ ?_<;>intro h|simp only[go_sem, *])
 refine lT (Oz l _ (by omega)) rfl ?_
 repeat' (first|refine sX ?_ ?_<;>intro h|simp only[go_sem, *])
 rw[if_pos ⟨by omega,by omega⟩,jW (xs:=List.replicate k (Tr.int .i64 0)) (esz:=1) (e:=fU) (ag:=false) (by_:=8) (by kernel_rfl) (by kernel_rfl) (by kernel_rfl) rfl (by kernel_rfl) (fun y hy=>(CO k y hy).2.2) (aJ _ _) (by rw[List.length_replicate];omega)]
 repeat' (first|refine sX ?_ ?_<;>intro h|simp only[go_sem, *])
 rw[LY];refine ⟨by simp[hnext,hnew,upd],?_⟩;funext s;simp only[hset,hnew,upd,hnext];split
 ·rename_i e;subst e;simp
 ·split<;>simp
theorem Bu {h:Hp}{d:Nat}:∀ {l:List (Nat × Obj)},(∀p∈l,p.1≠d)->hnext (adds l h) d=hnext h d
 |[],_=>rfl
 |p::l,hp=>by
  show hnext (adds l (hnew h p.1 p.2)) d=_
  rw[Bu (fun q hq=>hp q (List.mem_cons_of_mem _ hq))];simp only[hnext,hnew,upd];rw[if_neg (fun e=>hp p (by simp) e.symm)]
theorem rV {d:Nat}{o:Obj}:∀ {l:List (Nat × Obj)}{h:Hp},(∀p∈l,p.1≠d)->hnew (adds l h) d o=adds l (hnew h d o)
 |[],_,_=>rfl
 |p::l,h,hp=>by
  show hnew (adds l (hnew h p.1 p.2)) d o=adds l (hnew (hnew h d o) p.1 p.2)
  rw[rV (fun q hq=>hp q (List.mem_cons_of_mem _ hq))];congr 1;funext s;have:=hp p (by simp);simp only[hnew,upd]
  by_cases e1:s=d
  ·subst e1
   rw[if_pos rfl,if_neg (fun e=>this e.symm),if_neg (fun e=>this e.symm),if_pos rfl]
  ·rw[if_neg e1]
   split<;>rfl
def Qz (r:Row) (k:Nat) (h:Hp) (V:PV) (H:Hp):Prop:=∀l:List (Nat × Obj),(∀p∈l,p.1=7)->dM Tryz.prog 261 [.t r.tr,.t (i64 k)] (adds l h) (fun v' h'=>v'=gV [V,.t (i64 r.const)]/\h'=adds l H)
theorem afh (l:List Int) (c:Int) (k:Nat) (h:Hp) (hl:l.length<=100000) (hk:k<=100000):∃V H,Qz ⟨true,l,c⟩ k h V H/\V.one=true/\(true||decide (k≠0))=V.isRef/\Ep H V (l++List.replicate k 0)/\∀s,(s==4)=false->(s==5)=false->(s==9)=false->H s=h s:=by
 refine ⟨.rf (hnext h 5) (l.length+k),hnew (hnew h 4 ⟨[.rf (hnext h 5) (l.length+k),.t (i64 c)],2,1,dX,true,true⟩) 5 ⟨(ints (l++List.replicate k 0)).map .t,1,l.length+k,fU,false,true⟩,?_,rfl,rfl,?_,?_⟩
 ·intro q hq
  simp only;rw[<- Bu (h:=h) (d:=5) (l:=q) (fun p hp=>by rw[hq p hp];decide),<- rV (fun p hp=>by rw[hq p hp];decide),<- rV (fun p hp=>by rw[hq p hp];decide)];generalize adds q h=h;clear hq;exact aco l c k h hl hk
 ·refine .inr ⟨hnext h 5,.inl rfl,by simp,?_⟩
  simp[hget,hnew,upd,hnext]
 ·intro s h1 h2 _
  simp only[hnew,upd];rw[if_neg (by simpa using h2),if_neg (by simpa using h1)]
theorem Vu {P:Program}{mu:Nat->Bool}{h:Hp}{d:Option Tmp}{t e:TypeId}{esz:Nat}{nn nn':Bool}{l:List Tr} (hel:bg P t=some e) (hsz:P.cellsOf e=esz) (hz:(aW P e).map List.length=some esz) (h1:Nat.blt 0 esz=true) :
  aT P mu d t (.t (.sl nn l)) (.t (.sl nn' [])) h=some (.t (.sl nn l),h):=by
 have hpos:0 < esz:=by simp[Nat.blt]at h1;omega
 have hzz:∃z,aW P e=some z/\z.length=esz:=by
  cases hzz:aW P e with
  |none=>rw[hzz]at hz;cases hz
  |some z=>rw[hzz]at hz;exact ⟨z,rfl,by simpa using hz⟩
 obtain ⟨z,hz1,hz2⟩:=hzz;unfold aT;simp[hel,hz1,iP,hsz,hz2,hpos,flat]
theorem acp (c:Int) (h:Hp):dM Tryz.prog 261 [.t (Row.tr ⟨false,[],c⟩),.t (i64 (0:Nat))] h (fun v' h'=>v'=gV [.t (.sl false []),.t (i64 c)]/\h'=hnew h 4 ⟨[.t (.sl false []),.t (i64 c)],2,1,dX,true,true⟩):=by
 refine dI orders Tryz.func261 rfl (by kernel_rfl) (fun d=>d==4||d==7||d==9) (by kernel_rfl) rfl (fun hs hlen=>?_);clear hs
 repeat' (first|refine sX ?_ ?_<;>intro h|simp only[go_sem, *])
 refine lT (Bt _) rfl ?_
 repeat' (first|refine sX ?_ ?_<;>intro h|simp only[go_sem, *])
 rw[List.replicate_zero,Vu (e:=fU) (esz:=1) (by kernel_rfl) (by kernel_rfl) (by kernel_rfl) rfl]
 repeat' (first|refine sX ?_ ?_<;>intro h|simp only[go_sem, *])
theorem acr (c:Int) (k:Nat) (h:Hp) (hk:k<=100000) (hk0:¬k=0):dM Tryz.prog 261 [.t (Row.tr ⟨false,[],c⟩),.t (i64 k)] h (fun v' h'=>v'=gV [.rf (hnext h 9) k,.t (i64 c)]/\h'=hnew (hnew h 4 ⟨[.rf (hnext h 9) k,.t (i64 c)],2,1,dX,true,true⟩) 9 ⟨(ints (List.replicate k 0)).map .t,1,k,fU,false,true⟩):=by
 refine dI orders Tryz.func261 rfl (by kernel_rfl) (fun d=>d==4||d==7||d==9) (by kernel_rfl) rfl (fun hs hlen=>?_);clear hs
 repeat' (first|refine sX ?_ ?_<;>intro h|simp only[go_sem, *])
 refine lT (Bt _) rfl ?_
 repeat' (first|refine sX ?_ ?_<;>intro h|simp only[go_sem, *])
 rw[if_pos ⟨by omega,by omega⟩,qL (esz:=1) (e:=fU) (by kernel_rfl) (by kernel_rfl) (by kernel_rfl) rfl (by kernel_rfl) (fun y hy=>(CO k y hy).2.2) (by simp;omega) (by simpa using hk0)];rw[LY,List.length_replicate]
 repeat' (first|refine sX ?_ ?_<;>intro h|simp only[go_sem, *])
 refine ⟨by simp[hnext,hnew,upd],?_⟩;funext s;simp only[hset,hnew,upd,hnext];split
 ·rename_i e;subst e;simp
 ·split<;>simp
theorem afi (c:Int) (k:Nat) (h:Hp) (hk:k<=100000):∃V H,Qz ⟨false,[],c⟩ k h V H/\V.one=true/\(false||decide (k≠0))=V.isRef/\Ep H V ([]++List.replicate k 0)/\∀s,(s==4)=false->(s==5)=false->(s==9)=false->H s=h s:=by
 by_cases hk0:k=0
 ·subst hk0
  refine ⟨.t (.sl false []),hnew h 4 ⟨[.t (.sl false []),.t (i64 c)],2,1,dX,true,true⟩,?_,rfl,rfl,.inl ⟨rfl,rfl⟩,fun s h1 _ _=>?_⟩
  ·intro q hq
   simp only;rw[<- rV (fun p hp=>by rw[hq p hp];decide)];exact acp c _
  ·simp only[hnew,upd]
   rw[if_neg (by simpa using h1)]
 ·refine ⟨.rf (hnext h 9) k,hnew (hnew h 4 ⟨[.rf (hnext h 9) k,.t (i64 c)],2,1,dX,true,true⟩) 9 ⟨(ints (List.replicate k 0)).map .t,1,k,fU,false,true⟩,?_,rfl,by simp[hk0,PV.isRef],.inr ⟨hnext h 9,.inr rfl,by simp,?_⟩,fun s h1 _ h2=>?_⟩
  ·intro q hq
   simp only;rw[<- Bu (h:=h) (d:=9) (l:=q) (fun p hp=>by rw[hq p hp];decide),<- rV (fun p hp=>by rw[hq p hp];decide),<- rV (fun p hp=>by rw[hq p hp];decide)];exact acr c k _ hk hk0
  ·simp[hget,hnew,upd,hnext]
  ·simp only[hnew,upd]
   rw[if_neg (by simpa using h2),if_neg (by simpa using h1)]
theorem afj (r:Row) (hw:r.nn=false->r.av=[]) (k:Nat) (h:Hp) (hl:r.av.length<=100000) (hk:k<=100000):∃V H,Qz r k h V H/\V.one=true/\(r.nn||decide (k≠0))=V.isRef/\Ep H V (r.av++List.replicate k 0)/\∀s,(s==4)=false->(s==5)=false->(s==9)=false->H s=h s:=by
 obtain ⟨nn,l,c⟩:=r;cases nn with
 |false =>
  have:=hw rfl;simp only at this;subst this;exact afi c k h hk
 |true=>exact afh l c k h hl hk
def aai (l:List Int):Prop:=∀c∈l,c.natAbs<=1048576
theorem qb {x y z:Int}{k:Nat} (hx:x.natAbs<=(k+1)*4398046511104) (hy:y.natAbs<=1048576) (hz:z.natAbs<=1048576) (hk:k<=100):IntKind.i64.wrap (y*z)=y*z/\IntKind.i64.wrap (x-y*z)=x-y*z/\(x-y*z).natAbs<=(k+2)*4398046511104:=by
 have h1:=En hy hz;refine ⟨wrap_i64 (by omega) (by omega),wrap_i64 (by omega) (by omega),by omega⟩
structure Kh (next:List Upd) (a b:Row) (d:Int):Prop where
 wf:a.nn=false->a.av=[]
 la:a.av.length=next.length
 lb:b.av.length=next.length
 ln:next.length<=8
 ca:aai a.av
 cb:aai b.av
 ka:a.const.natAbs<=1048576
 kb:b.const.natAbs<=1048576
 kd:d.natAbs<=1
 ups:∀u∈next,u.any=false->u.expr.av.length=next.length/\aai u.expr.av/\u.expr.const.natAbs<=1048576
theorem Ep.keep {h h':Hp}{v:PV}{l:List Int} (hr:Ep h v l) (h5:h' 5=h 5) (h9:h' 9=h 9):Ep h' v l:=by
 rcases hr with hr|⟨id,hid,h1,h2⟩
 ·exact .inl hr
 ·refine .inr ⟨id,hid,h1,?_⟩
  rw[aX (h':=h') (h:=h) (by rcases hid with e|e<;>rw[e]<;>assumption)];exact h2
abbrev aaj:TypeId:=228
theorem og {h:Hp}{s':Nat}{o:Obj}{id:Id} (hn:(id.1==s')=false):hget (hnew h s' o) id=hget h id:=zi (by simpa using hn)
theorem QA (t:Trans) (fnn:Bool) (funcs:List Row) (d:Int) (a b:Row) (u v:Nat) (hu:t.from_=u) (hv:t.to_=v) (ha:funcs[u]?=some a) (hb:funcs[v]?=some b) (ho:Kh t.next a b d) :
  aB Tryz.prog 234 [t.tr,.sl fnn (funcs.map Row.tr),i64 d] (dB (a.nn||decide (aG t.next≠0)) t.next a b d).tr:=by
 obtain ⟨fr,to,gnn,gd,nnn,next⟩:=t;simp only at hu hv ho;subst hu;subst hv
 obtain ⟨hw,hla,hlb,hl,hca,hcb,hka,hkb,hkd,hup⟩:=ho;have h1:=WS ⟨u,v,gnn,gd,nnn,next⟩ (by simp only;omega);simp only at h1 ⊢;have hun:u < funcs.length:=(List.getElem?_eq_some_iff.1 ha).1;have hvn:v < funcs.length:=(List.getElem?_eq_some_iff.1 hb).1;have hak:aG next<=8:=Nat.le_trans (List.length_filter_le _ _) hl
 have hR:dB (a.nn||decide (aG next≠0)) next a b d=⟨a.nn||decide (aG next≠0),(bK next b.av (a.av,a.const-b.const-d,[])).1++(bK next b.av (a.av,a.const-b.const-d,[])).2.2,(bK next b.av (a.av,a.const-b.const-d,[])).2.1⟩:=rfl
 rw[hR];clear hR;generalize hRR:bK next b.av (a.av,a.const-b.const-d,[])=R
 generalize hA:aG next=A at *
 have hw1:IntKind.i64.wrap (b.const+d)=b.const+d:=wrap_i64 (by omega) (by omega);have hw2:IntKind.i64.wrap (a.const-(b.const+d))=a.const-(b.const+d):=wrap_i64 (by omega) (by omega);have hw3:a.const-(b.const+d)=a.const-b.const-d:=by omega
 rw[hw3]at hw2;refine au orders Tryz.func234 rfl (by kernel_rfl) (fun d=>d==6||d==7||d==8||d==12||d==31||d==33||d==38||d==47||d==49||d==56||d==65||d==66||d==74||d==79||d==89||d==91||d==96||d==97||d==101||d==22||d==50||d==54||d==62||d==75||d==77||d==87||d==4999999||d==5000007) (by kernel_rfl) rfl (fun hs=>?_);clear hs
 repeat' (first|refine sX ?_ ?_<;>intro h|refine aj (h1) rfl ?_|simp only[go_sem, *])
 obtain ⟨V,H,hp,hV1,adG,hrow,FP⟩:=afj a hw A (hnew (fun _=>[]) 6 ⟨[.t (.sl false []),.t (i64 0)],2,1,dX,true,true⟩) (by omega) (by omega);refine PO (h':=H) (v:=gV [V,.t (i64 a.const)]) (fun l hl=>hp l fun p hp'=>by have:=hl p hp';simp only[Bool.or_eq_true,beq_iff_eq]at this;omega) (fun c hc=>?_) rfl ?_
 ·have:c=7:=by simp only[Bool.or_eq_true,beq_iff_eq]at hc;omega
  subst this;rw[FP 7 rfl rfl rfl]
 have e7:H 7=[]:=(FP 7 rfl rfl rfl).trans rfl;have e6:H 6=[⟨[.t (.sl false []),.t (i64 0)],2,1,dX,true,true⟩]:=(FP 6 rfl rfl rfl).trans rfl;have e8:H 8=[]:=(FP 8 rfl rfl rfl).trans rfl;rw[adG];clear FP hp adG
 repeat' (first|refine sX ?_ ?_<;>intro h|simp only[go_sem, *])
 have n7:hnext H 7=(7,0):=by simp[hnext,e7]
 have n8:∀o o',hnext (hset (hnew H 7 o) (hnext H 7) o') 8=(8,0):=fun o o'=>by simp[hnext,hset,hnew,upd,e8]
 refine aC next (fun k s'=>∃(C:List Int) (K:Int) (n:Nat),s'.sl 10=.t (i64 n)/\hget s'.hp (7,0)=some ⟨[V,.t (i64 K)],2,1,dX,true,true⟩/\hget s'.hp (8,0)=some ⟨[.t (.sl b.nn (ints b.av)),.t (i64 b.const)],2,1,dX,true,true⟩/\hget s'.hp (6,0)=some ⟨[.t (.sl false []),.t (i64 0)],2,1,dX,true,true⟩/\Ep s'.hp V C/\C.length=next.length+A/\n+aG (next.drop k)=A/\C.drop (next.length+n)=List.replicate (A-n) 0/\bK (next.drop k) (b.av.drop k) (C.take next.length,K,(C.drop next.length).take n)=R/\(∀c∈C,c.natAbs<=(k+1)*4398046511104)/\K.natAbs<=(k+1)*4398046511104) rfl rfl (by first|assumption|omega) (by kernel_rfl) (fun _ _ _ _ hj=>hj) (fun _ _ _ hj=>hj) ?_ (fun k x s' hx hd hk hJ hix hfr G hG=>?_) (fun s' hJ hfr=>?_)
 ·refine ⟨a.av++List.replicate A 0,a.const-b.const-d,0,rfl,?_,?_,?_,?_,by simp[hla],by simpa using hA,?_,?_,?_,by omega⟩
  ·simp[hget,hset,hnew,upd,hnext,e7]
  ·simp[hget,hset,hnew,upd,hnext,e7,e8]
  ·simp[hget,hset,hnew,upd,hnext,e6]
  ·exact hrow.keep (by simp[hset,hnew,upd,hnext]) (by simp[hset,hnew,upd,hnext])
  ·rw[Nat.add_zero,List.drop_left' hla];simp
  ·rw[List.take_left' hla,List.drop_zero,List.drop_zero,List.take_zero];exact hRR
  ·intro c hc
   rcases List.mem_append.1 hc with hc|hc
   ·have:=hca c hc;omega
   ·rw[(List.mem_replicate.1 hc).2];simp
 ·have c7:=hfr 7 (by kernel_rfl)
  have c8:=hfr 8 (by kernel_rfl);have c9:=hfr 9 (by kernel_rfl);have c40:=hfr 40 (by kernel_rfl);clear hfr;simp only[go_sem]at c7 c8 c9 c40;obtain ⟨C,K,n,c10,h7,h8,h6,hrw,hCl,hn,hz,hJ,hbC,hbK⟩:=hJ;rw[n7]at c7;have c8':s'.sl 8=.ad (8,0) 1 0:=by
   rw[c8];simp[hnext,hset,hnew,upd,e8]
  clear c8;obtain ⟨bk,hbk1,hbk2⟩:=aF b.av k (by omega);rw[hd,hbk2,bK]at hJ;rw[hd,wP]at hn;have hbk:=hcb bk (List.mem_of_getElem? hbk1);have hk8:k<=100:=by omega
  rcases hrw with ⟨_,h0⟩|⟨id,hid,hV,hrow'⟩
  ·rw[h0]at hCl;simp at hCl;omega
  subst hV;have i7:((7:Nat)==id.1)=false:=by rcases hid with e|e<;>rw[e]<;>rfl
  have i6:((6:Nat)==id.1)=false:=by rcases hid with e|e<;>rw[e]<;>rfl
  have i8:((8:Nat)==id.1)=false:=by rcases hid with e|e<;>rw[e]<;>rfl
  have i7':(id.1==(7:Nat))=false:=by rcases hid with e|e<;>rw[e]<;>rfl
  have adH:(id.1==(12:Nat))=false:=by rcases hid with e|e<;>rw[e]<;>rfl
  have i12:((12:Nat)==id.1)=false:=by rcases hid with e|e<;>rw[e]<;>rfl
  have hxu:=hup x (List.mem_of_getElem? hx);cases hxa:x.any with
  |true =>
   simp only[hxa,if_true]at hJ hn;have hnA:n < A:=by omega
   have ahu:next.length+n < C.length:=by omega
   have hC0:C[next.length+n]?=some 0:=by
    have e1:=congrArg (fun l=>l[0]?) hz;simp only[List.getElem?_drop,Nat.add_zero]at e1;rw[e1,List.getElem?_replicate,if_pos (by omega)]
   have g1:IntKind.i64.wrap ((next.length:Int)+(n:Int))=((next.length+n:Nat):Int):=by rw[<- Int.natCast_add];exact wrap_i64 (by omega) (by omega)
   have g2:IntKind.i64.wrap (0-bk)=0-bk:=wrap_i64 (by omega) (by omega);have g3:IntKind.i64.wrap ((n:Int)+1)=((n+1:Nat):Int):=wrap_i64 (by omega) (by omega);have hq1:next.length+n < next.length+A:=by omega
   have hq2:next.length+n+1<=next.length+A:=by omega
   clear ahu;have f1:n+1+aG (next.drop (k+1))=A:=by omega
   have f2:(C.set (next.length+n) (0-bk)).drop (next.length+(n+1))=List.replicate (A-(n+1)) 0:=by
    rw[List.drop_set_of_lt (by omega)];have e1:=congrArg (List.drop 1) hz;rw[List.drop_drop,List.drop_replicate]at e1;rw[show next.length+(n+1)=next.length+n+1 by omega,e1];congr 1
   have f3:bK (next.drop (k+1)) (b.av.drop (k+1)) ((C.set (next.length+n) (0-bk)).take next.length,K,((C.set (next.length+n) (0-bk)).drop next.length).take (n+1))=R:=by
    rw[<- hJ,List.take_set_of_le (by omega),List.drop_set,if_neg (by omega),show next.length+n-next.length=n by omega,aP _ _ _ (by simp;omega)];simp
   have f4:∀c∈C.set (next.length+n) (0-bk),c.natAbs<=(k+1+1)*4398046511104:=by
    intro c hc;rcases List.mem_or_eq_of_mem_set hc with hc|rfl
    ·exact Nat.le_trans (hbC c hc) (Nat.mul_le_mul_right _ (Nat.le_succ _))
    ·have e0:(0-bk).natAbs<=1048576:=by omega
     exact Nat.le_trans e0 (Nat.le_trans (by decide:1048576<=1*4398046511104) (Nat.mul_le_mul_right _ (by omega)))
   have f5:K.natAbs<=(k+1+1)*4398046511104:=Nat.le_trans hbK (Nat.mul_le_mul_right _ (Nat.le_succ _));clear hd hn hup hbC hbK hxu hca hz hJ
   repeat' (first|refine sX ?_ ?_<;>intro h|simp only[go_sem, *,og])
   refine hG _ ⟨C.set (next.length+n) (0-bk),K,n+1,rfl,?_,?_,?_,.inr ⟨id,hid,by simp[hCl],?_⟩,by simp[hCl],f1,f2,f3,f4,f5⟩
   ·simp only[go_sem,h7,i7]
   ·simp only[go_sem,h8,i8]
   ·simp only[go_sem,h6,i6]
   ·simp only[go_sem,og,hrow',hCl,List.length_set,adH]
  |false =>
   simp only[hxa,Bool.false_eq_true,if_false,Nat.zero_add]at hJ hn;obtain ⟨hel,hec,hek⟩:=hxu hxa;have e7':=c7;have e8':=c8';have aak:x.expr.av.length<=next.length:=by omega
   have aal:next.length<=x.expr.av.length:=by omega
   obtain ⟨kk,hkk⟩:∃kk,kk=k:=⟨_,rfl⟩
   subst hkk;obtain ⟨y,hyx⟩:∃y,y=x:=⟨_,rfl⟩
   subst hyx;have hWC:(C.take next.length).length=next.length:=by rw[List.length_take];omega
   obtain ⟨Z,hZ⟩:∃Z,Z=List.zipWith (fun q e=>q-bk*e) (C.take next.length) y.expr.av:=⟨_,rfl⟩
   have hZl:Z.length=next.length:=by rw[hZ,List.length_zipWith];omega
   have hZg:∀i q e,C[i]?=some q->y.expr.av[i]?=some e->i < next.length->Z[i]?=some (q-bk*e):=fun i q e h1 h2 h3=>by
    rw[hZ,List.getElem?_zipWith,List.getElem?_take,if_pos h3,h1,h2]
   have hZb:∀c∈Z,c.natAbs<=(kk+1+1)*4398046511104:=by
    rw[hZ];intro c hc;obtain ⟨i,hi⟩:=List.mem_iff_getElem?.1 hc;rw[List.getElem?_zipWith]at hi;cases h1:(C.take next.length)[i]? with
    |none=>simp[h1]at hi
    |some q =>
     cases h2:y.expr.av[i]? with
     |none=>simp[h1,h2]at hi
     |some e =>
      simp[h1,h2]at hi;rw[<- hi];exact (qb (hbC q (List.mem_of_mem_take (List.mem_of_getElem? h1))) hbk (hec e (List.mem_of_getElem? h2)) hk8).2.2
   rw[<- hZ]at hJ;have hJo:=hJ;have e10:=c10;have hGo:=hG;clear hJ c10 hG;clear hup hxu hca hel hZ hWC
   repeat' (first|refine sX ?_ ?_<;>intro h|simp only[go_sem, *,og])
   obtain ⟨H0,hH0⟩:∃H0,H0=s'.hp:=⟨_,rfl⟩
   rw[<- hH0]at h7 h8 h6 hrow' ⊢;clear hH0;refine aC y.expr.av (fun k s'=>∃D:List Int,hget s'.hp (7,0)=some ⟨[.rf id C.length,.t (i64 K)],2,1,dX,true,true⟩/\hget s'.hp (8,0)=some ⟨[.t (.sl b.nn (ints b.av)),.t (i64 b.const)],2,1,dX,true,true⟩/\hget s'.hp (6,0)=some ⟨[.t (.sl false []),.t (i64 0)],2,1,dX,true,true⟩/\hget s'.hp (hnext H0 12)=some ⟨[.t (.bool false),.t (.sl y.expr.nn (ints y.expr.av)),.t (i64 y.expr.const)],3,1,aaj,true,true⟩/\hget s'.hp id=some ⟨(ints D).map .t,1,C.length,fU,false,true⟩/\D.length=C.length/\D.drop k=C.drop k/\D.take k=Z.take k) rfl rfl (by first|assumption|omega) (by kernel_rfl) (fun _ _ _ _ hj=>hj) (fun _ _ _ hj=>hj) ?_ (fun k x s' hx hd hk hJ hix hfr G hG=>?_) (fun s' hJ hfr=>?_)
   ·refine ⟨C,?_,?_,?_,aJ _ _,?_,rfl,rfl,by simp⟩
    ·simp only[go_sem,h7]
    ·simp only[go_sem,h8]
    ·simp only[go_sem,h6]
    ·simp only[go_sem,og,hrow',adH]
   ·have c7:=hfr 7 (by kernel_rfl)
    have c8:=hfr 8 (by kernel_rfl);have c11:=hfr 11 (by kernel_rfl);have c67:=hfr 67 (by kernel_rfl);clear hfr;simp only[go_sem]at c7 c8 c11 c67;rw[e7']at c7;rw[e8']at c8;obtain ⟨D,h7,h8,h6,h12,hrow',hDl,hdr,htk⟩:=hJ;have hkW:k < next.length:=by omega
    obtain ⟨q,hq1,_⟩:=aF C k (by omega);have hDk:D[k]?=some q:=by
     have:=congrArg (fun l=>l[0]?) hdr;simp only[List.getElem?_drop,Nat.add_zero]at this;rw[this,hq1]
    obtain ⟨g1,g2,g3⟩:=qb (hbC q (List.mem_of_getElem? hq1)) hbk (hec x (List.mem_of_getElem? hx)) hk8;have hZk:=hZg k q x hq1 hx hkW;have hset:(D.set k (q-bk*x)).take (k+1)=Z.take (k+1):=by
     rw[aP _ _ _ (by omega),htk,List.take_add_one,hZk];rfl
    have Lr:(D.set k (q-bk*x)).drop (k+1)=C.drop (k+1):=by
     rw[List.drop_set_of_lt (by omega)];have:=congrArg (List.drop 1) hdr;simpa only[List.drop_drop] using this
    have hq3:k < next.length+A:=by omega
    have hq4:k+1<=next.length+A:=by omega
    clear hd hdr htk hZg hbC hbK hz hec g3 hZk hrow hbk2
    repeat' (first|refine sX ?_ ?_<;>intro h|simp only[go_sem, *,og])
    refine hG _ ⟨D.set k (q-bk*x),?_,?_,?_,?_,?_,by simp[hDl],Lr,hset⟩
    ·simp only[go_sem,h7,i7]
    ·simp only[go_sem,h8,i8]
    ·simp only[go_sem,h6,i6]
    ·have e:=lU (h:=s'.hp) (id:=id) (id':=hnext H0 12) ⟨List.map .t (ints (D.set k (q-bk*x))),1,next.length+A,fU,false,true⟩ i12
     exact e.trans h12
    ·simp only[go_sem,hrow',hCl]
   ·have c7:=hfr 7 (by kernel_rfl)
    have c8:=hfr 8 (by kernel_rfl);have c10:=hfr 10 (by kernel_rfl);have c11:=hfr 11 (by kernel_rfl);have c12:=hfr 12 (by kernel_rfl);clear hfr;simp only[go_sem]at c7 c8 c10 c11 c12;rw[e7']at c7;rw[e8']at c8;rw[e10]at c10;obtain ⟨D,h7,h8,h6,h12,hrow',hDl,hdr,htk⟩:=hJ;have hLW:y.expr.av.length=next.length:=by omega
    rw[hLW]at hdr htk;rw[List.take_of_length_le (by omega:Z.length<=next.length)]at htk;obtain ⟨g1,g2,g3⟩:=qb hbK hbk hek hk8;have f2:D.drop (next.length+n)=List.replicate (A-n) 0:=by
     rw[<- hz,<- List.drop_drop,hdr,List.drop_drop]
    have f3:bK (next.drop (kk+1)) (b.av.drop (kk+1)) (D.take next.length,K-bk*y.expr.const,(D.drop next.length).take n)=R:=by
     rw[htk,hdr];exact hJo
    have f4:∀c∈D,c.natAbs<=(kk+1+1)*4398046511104:=by
     intro c hc;rw[<- List.take_append_drop next.length D,htk,hdr]at hc;rcases List.mem_append.1 hc with hc|hc
     ·exact hZb c hc
     ·exact Nat.le_trans (hbC c (List.mem_of_mem_drop hc)) (Nat.mul_le_mul_right _ (Nat.le_succ _))
    have f5:(K-bk*y.expr.const).natAbs<=(kk+1+1)*4398046511104:=g3;clear hz hJo hdr htk hZb hbC hZg hec hLW aak aal hrow hbk2 hd g3
    repeat' (first|refine sX ?_ ?_<;>intro h|simp only[go_sem, *,og])
    refine hGo _ ⟨D,K-bk*y.expr.const,n,c10,?_,?_,?_,.inr ⟨id,hid,by rw[hDl],?_⟩,by omega,hn,f2,f3,f4,f5⟩
    ·simp only[go_sem,h7,hCl]
    ·simp only[go_sem,h8]
    ·simp only[go_sem,h6]
    ·simp only[go_sem,hrow',hDl,i7']
 ·have c6:=hfr 6 (by kernel_rfl)
  have c7:=hfr 7 (by kernel_rfl);clear hfr;simp only[go_sem]at c6 c7;rw[n7]at c7;change _=PV.ad (6,0) 1 0 at c6;obtain ⟨C,K,n,c10,h7,h8,h6,hrw,hCl,hn,hz,hJ,hbC,hbK⟩:=hJ;rw[List.drop_length]at hn hJ;have hnA:n=A:=by have:aG []=0:=rfl;omega
  subst hnA;have hJ:(C.take next.length,K,(C.drop next.length).take n)=R:=by rw[<- hJ];rfl
  subst hJ;have hCC:C.take next.length++(C.drop next.length).take n=C:=by
   rw[List.take_of_length_le (l:=C.drop next.length) (by rw[List.length_drop];omega),List.take_append_drop]
  simp only[hCC];have hdv:∀o,aS (hset s'.hp (6,0) o) 5 V=some (.sl V.isRef (ints C)):=fun o=>by
   rcases hrw with ⟨rfl,rfl⟩|⟨id,hid,rfl,hrow'⟩
   ·rfl
   ·exact iT (k:=4) ((lU (id:=(6,0)) o (by rcases hid with e|e<;>rw[e]<;>rfl)).trans hrow')
  clear hrw hz hbC hbK hCC hn hCl hRR hrow
  repeat' (first|refine sX ?_ ?_<;>intro h|simp only[go_sem, *])
theorem bL {mu:Nat->Bool} (cs:List Tr):awX mu (.ro cs)=true:=by unfold awX DR;simp[PV.site]
theorem dF {mu:Nat->Bool} (x:Tr):awX mu (.t x)=true:=by unfold awX DR;simp[PV.site]
theorem LZ {mu:Nat->Bool} (t:Tmp):rH mu (.tmp t)=mu (7000000+t):=rfl
theorem AJ {mu:Nat->Bool}{d:Option Tmp}{h:Hp}{id:Id}{n:Nat}{C M:List Int}{v:PV}{site:Nat} (hg:hget h id=some ⟨(ints C).map .t,1,n,fU,false,true⟩) (ho:Own h site fU 1 false v (!M.isEmpty) (ints M)) (hb:n+M.length<=1000000) :
  aT Tryz.prog mu d 35 (.rf id n) v h=some (.rf id (n+M.length),hset h id ⟨(ints (C++M)).map .t,1,n+M.length,fU,false,true⟩):=by
 have e:(ints (C++M)).map PV.t=(ints C).map .t++(flat (ints M)).map .t:=by rw[rP];simp
 rw[e];rcases ho.is with ⟨h0,h1,rfl⟩|⟨h0,id2,h1,rfl,h3⟩
 ·have hM:M=[]:=by simpa using h1
  subst hM;have:=jW (P:=Tryz.prog) (mu:=mu) (d:=d) (t:=35) (nn':=false) (xs:=[]) (esz:=1) (e:=fU) (ag:=false) (by_:=8) (by kernel_rfl) (by kernel_rfl) (by kernel_rfl) rfl (by kernel_rfl) (fun y hy=>by simp at hy) hg (by simp at hb ⊢;omega);simpa using this
 ·have hl:(ints M).length=M.length:=by simp
  rw[hl]at h3 ⊢;have hM:0 < M.length:=by cases M with|nil=>simp at h0|cons=>simp
  exact LX (esz:=1) (e:=fU) (by_:=8) (by kernel_rfl) (by kernel_rfl) (by kernel_rfl) rfl (by kernel_rfl) hg h3 (by simp[Nat.blt];omega) (by omega)
theorem L6 (f:Flow) (t:Trans) (fnn:Bool) (funcs:List Row) (d:Int) (a b:Row) (u v:Nat) (hu:t.from_=u) (hv:t.to_=v) (ha:funcs[u]?=some a) (hb:funcs[v]?=some b) (ho:Kh t.next a b d) :
  aB Tryz.prog 193 [f.tr,.sl fnn (funcs.map Row.tr),t.tr,i64 d] (dB true t.next a b d).tr:=by
 obtain ⟨fr,to,gnn,gd,nnn,next⟩:=t;simp only at hu hv ho;subst hu;subst hv
 obtain ⟨hw,hla,hlb,hl,hca,hcb,hka,hkb,hkd,hup⟩:=ho;simp only;have hun:u < funcs.length:=(List.getElem?_eq_some_iff.1 ha).1;have hvn:v < funcs.length:=(List.getElem?_eq_some_iff.1 hb).1;have hR:dB true next a b d=⟨true,(bK next b.av (a.av,a.const-b.const-d,[])).1++(bK next b.av (a.av,a.const-b.const-d,[])).2.2,(bK next b.av (a.av,a.const-b.const-d,[])).2.1⟩:=rfl
 rw[hR];clear hR;generalize hRR:bK next b.av (a.av,a.const-b.const-d,[])=R
 have hw1:IntKind.i64.wrap (a.const-b.const)=a.const-b.const:=wrap_i64 (by omega) (by omega);have hw2:IntKind.i64.wrap (a.const-b.const-d)=a.const-b.const-d:=wrap_i64 (by omega) (by omega);refine au orders Tryz.func193 rfl (by kernel_rfl) (fun d=>d==8||d==9||d==10||d==11||d==14||d==28||d==31||d==33||d==47||d==50||d==58||d==59||d==67||d==72||d==82||d==84||d==89||d==90||d==94||d==96||d==100||d==27||d==30||d==57||d==68||d==70||d==80||d==3000027||d==3000030||d==3999999||d==7000068||d==7000070) (by kernel_rfl) rfl (fun hs=>?_);clear hs
 repeat' (first|refine sX ?_ ?_<;>intro h|simp only[go_sem, *])
 repeat' (first|refine sX ?_ ?_<;>intro h|simp only[go_sem, *,fV,bL,dF,dP,fC,aV])
 rw[jW (esz:=1) (e:=fU) (ag:=false) (by_:=8) (by kernel_rfl) (by kernel_rfl) (by kernel_rfl) rfl (by kernel_rfl) (fun y hy=>(yj _ _ y hy).2.2) (aJ _ _) (by rw[List.length_map];omega)];simp only[Nat.zero_add,List.length_map,List.nil_append,gL,rP]
 repeat' (first|refine sX ?_ ?_<;>intro h|simp only[go_sem, *,fV,bL,dF,dP,fC,aV])
 simp only[go_sem]
 repeat' (first|refine sX ?_ ?_<;>intro h|simp only[go_sem, *,fV,bL,dF,dP,fC,aV])
 refine aC next (fun k s'=>∃(C:List Int) (K:Int) (M:List Int),Own s'.hp 57 fU 1 false (s'.sl 12) (!M.isEmpty) (ints M)/\hget s'.hp (11,0)=some ⟨[.rf (27,0) next.length,.t (i64 K)],2,1,dX,true,true⟩/\hget s'.hp (10,0)=some ⟨[.t (.sl b.nn (ints b.av)),.t (i64 b.const)],2,1,dX,true,true⟩/\hget s'.hp (8,0)=some ⟨[.t (.sl false []),.t (i64 0)],2,1,dX,true,true⟩/\hget s'.hp (27,0)=some ⟨(ints C).map .t,1,next.length,fU,false,true⟩/\C.length=next.length/\M.length<=k/\bK (next.drop k) (b.av.drop k) (C,K,M)=R/\(∀c∈C,c.natAbs<=(k+1)*4398046511104)/\K.natAbs<=(k+1)*4398046511104) rfl rfl (by first|assumption|omega) (by kernel_rfl) (fun _ _ _ _ hj=>hj) (fun _ _ _ hj=>hj) ?_ (fun k x s' hx hd hk hJ hix hfr G hG=>?_) (fun s' hJ hfr=>?_)
 ·refine ⟨a.av,a.const-b.const-d,[],Own.nil,?_,?_,?_,?_,hla,Nat.le_refl _,hRR,fun c hc=>?_,by omega⟩
  ·simp[hget,hset,hnew,upd,hnext,hla]
  ·simp[hget,hset,hnew,upd,hnext]
  ·simp[hget,hset,hnew,upd,hnext]
  ·simp[hget,hset,hnew,upd,hnext,hla]
  ·have:=hca c hc;omega
 ·have c10:=hfr 10 (by kernel_rfl)
  have c11:=hfr 11 (by kernel_rfl);have c40:=hfr 40 (by kernel_rfl);clear hfr;simp only[go_sem]at c10 c11 c40;change _=PV.ad (10,0) 1 0 at c10;change _=PV.ad (11,0) 1 0 at c11;obtain ⟨C,K,M,hown,h11,h10,h8,h27,hCl,hMl,hJ,hbC,hbK⟩:=hJ;obtain ⟨bk,hbk1,hbk2⟩:=aF b.av k (by omega);rw[hd,hbk2,bK]at hJ;have hbk:=hcb bk (List.mem_of_getElem? hbk1);have hk8:k<=100:=by omega
  have hxu:=hup x (List.mem_of_getElem? hx);have f4:∀c∈C,c.natAbs<=(k+1+1)*4398046511104:=fun c hc=>Nat.le_trans (hbC c hc) (Nat.mul_le_mul_right _ (Nat.le_succ _))
  have f5:K.natAbs<=(k+1+1)*4398046511104:=Nat.le_trans hbK (Nat.mul_le_mul_right _ (Nat.le_succ _));cases hxa:x.any with
  |true =>
   simp only[hxa,if_true]at hJ;have g2:IntKind.i64.wrap (0-bk)=-bk:=by rw[Int.zero_sub];exact wrap_i64 (by omega) (by omega)
   clear hd hup hbC hbK hxu hca hbk2
   repeat' (first|refine sX ?_ ?_<;>intro h|simp only[go_sem, *])
   refine cB (hown.frame (by simp only[go_sem])) rfl (by kernel_rfl) (by kernel_rfl) (by kernel_rfl) (by kernel_rfl) rfl (by kernel_rfl) (ok_int _ _) (by simp;omega) (fun v' h' ho hf=>?_)
   repeat' (first|refine sX ?_ ?_<;>intro h|simp only[go_sem, *])
   refine hG _ ⟨C,K,M++[-bk],ho.snoc,?_,?_,?_,?_,hCl,by simp;omega,hJ,f4,f5⟩
   ·rw[aX (hf 11 rfl)];simp only[go_sem,h11]
   ·rw[aX (hf 10 rfl)];simp only[go_sem,h10]
   ·rw[aX (hf 8 rfl)];simp only[go_sem,h8]
   ·rw[aX (hf 27 rfl)];simp only[go_sem,h27]
  |false =>
   simp only[hxa,Bool.false_eq_true,if_false]at hJ;obtain ⟨hel,hec,hek⟩:=hxu hxa;have adI:=c10;have adJ:=c11;have aak:x.expr.av.length<=next.length:=by omega
   have aal:next.length<=x.expr.av.length:=by omega
   obtain ⟨kk,hkk⟩:∃kk,kk=k:=⟨_,rfl⟩
   subst hkk;obtain ⟨y,hyx⟩:∃y,y=x:=⟨_,rfl⟩
   subst hyx;obtain ⟨Z,hZ⟩:∃Z,Z=List.zipWith (fun q e=>q-bk*e) C y.expr.av:=⟨_,rfl⟩
   have hZl:Z.length=next.length:=by rw[hZ,List.length_zipWith];omega
   have hZg:∀i q e,C[i]?=some q->y.expr.av[i]?=some e->Z[i]?=some (q-bk*e):=fun i q e h1 h2=>by
    rw[hZ,List.getElem?_zipWith,h1,h2]
   have hZb:∀c∈Z,c.natAbs<=(kk+1+1)*4398046511104:=by
    rw[hZ];intro c hc;obtain ⟨i,hi⟩:=List.mem_iff_getElem?.1 hc;rw[List.getElem?_zipWith]at hi;cases h1:C[i]? with
    |none=>simp[h1]at hi
    |some q =>
     cases h2:y.expr.av[i]? with
     |none=>simp[h1,h2]at hi
     |some e =>
      simp[h1,h2]at hi;rw[<- hi];exact (qb (hbC q (List.mem_of_getElem? h1)) hbk (hec e (List.mem_of_getElem? h2)) hk8).2.2
   rw[<- hZ]at hJ;have hJo:=hJ;have hGo:=hG;clear hJ hG;clear hup hxu hca hel hZ
   repeat' (first|refine sX ?_ ?_<;>intro h|simp only[go_sem, *])
   obtain ⟨H0,hH0⟩:∃H0,H0=s'.hp:=⟨_,rfl⟩
   rw[<- hH0]at h11 h10 h8 h27 hown ⊢;clear hH0;obtain ⟨V12,aam⟩:∃V12,V12=s'.sl 12:=⟨_,rfl⟩
   rw[<- aam]at hown;have e12:=aam.symm;clear aam;refine aC y.expr.av (fun k s'=>∃D:List Int,Own s'.hp 57 fU 1 false V12 (!M.isEmpty) (ints M)/\hget s'.hp (11,0)=some ⟨[.rf (27,0) next.length,.t (i64 K)],2,1,dX,true,true⟩/\hget s'.hp (10,0)=some ⟨[.t (.sl b.nn (ints b.av)),.t (i64 b.const)],2,1,dX,true,true⟩/\hget s'.hp (8,0)=some ⟨[.t (.sl false []),.t (i64 0)],2,1,dX,true,true⟩/\hget s'.hp (hnext H0 14)=some ⟨[.t (.bool false),.t (.sl y.expr.nn (ints y.expr.av)),.t (i64 y.expr.const)],3,1,aaj,true,true⟩/\hget s'.hp (27,0)=some ⟨(ints D).map .t,1,next.length,fU,false,true⟩/\D.length=C.length/\D.drop k=C.drop k/\D.take k=Z.take k) rfl rfl (by first|assumption|omega) (by kernel_rfl) (fun _ _ _ _ hj=>hj) (fun _ _ _ hj=>hj) ?_ (fun k x s' hx hd hk hJ hix hfr G hG=>?_) (fun s' hJ hfr=>?_)
   ·refine ⟨C,hown.frame (by simp only[go_sem]),?_,?_,?_,aJ _ _,?_,rfl,rfl,by simp⟩
    ·simp only[go_sem,h11]
    ·simp only[go_sem,h10]
    ·simp only[go_sem,h8]
    ·simp only[go_sem,h27]
   ·have c10:=hfr 10 (by kernel_rfl)
    have c11:=hfr 11 (by kernel_rfl);have c13:=hfr 13 (by kernel_rfl);have c60:=hfr 60 (by kernel_rfl);clear hfr;simp only[go_sem]at c10 c11 c13 c60;rw[adI]at c10;rw[adJ]at c11;obtain ⟨D,hown,h11,h10,h8,h14,h27,hDl,hdr,htk⟩:=hJ;have hkW:k < next.length:=by omega
    obtain ⟨q,hq1,_⟩:=aF C k (by omega);have hDk:D[k]?=some q:=by
     have:=congrArg (fun l=>l[0]?) hdr;simp only[List.getElem?_drop,Nat.add_zero]at this;rw[this,hq1]
    obtain ⟨g1,g2,g3⟩:=qb (hbC q (List.mem_of_getElem? hq1)) hbk (hec x (List.mem_of_getElem? hx)) hk8;have hZk:=hZg k q x hq1 hx;have hset:(D.set k (q-bk*x)).take (k+1)=Z.take (k+1):=by
     rw[aP _ _ _ (by omega),htk,List.take_add_one,hZk];rfl
    have Lr:(D.set k (q-bk*x)).drop (k+1)=C.drop (k+1):=by
     rw[List.drop_set_of_lt (by omega)];have:=congrArg (List.drop 1) hdr;simpa only[List.drop_drop] using this
    have hkD:k < D.length:=by omega
    have aly:k+1<=next.length:=hkW
    clear hd hdr htk hZg hbC hbK hec g3 hZk hbk2 f4 f5 hZb
    repeat' (first|refine sX ?_ ?_<;>intro h|simp only[go_sem, *,fV,bL,dF,dP,fC,aV,LZ])
    refine hG _ ⟨D.set k (q-bk*x),?_,?_,?_,?_,?_,?_,by simp[hDl],Lr,hset⟩
    ·show Own (Vm.hset s'.hp (27,0) _) 57 fU 1 false V12 (!M.isEmpty) (ints M)
     exact hown.frame (fA _ rfl)
    ·simp only[go_sem,h11]
    ·simp only[go_sem,h10]
    ·simp only[go_sem,h8]
    ·exact (lU (h:=s'.hp) (id:=(27,0)) (id':=hnext H0 14) _ rfl).trans h14
    ·simp only[go_sem,h27]
   ·have c10:=hfr 10 (by kernel_rfl)
    have c11:=hfr 11 (by kernel_rfl);have c13:=hfr 13 (by kernel_rfl);have c14:=hfr 14 (by kernel_rfl);have c12:=hfr 12 (by kernel_rfl);clear hfr;simp only[go_sem]at c10 c11 c13 c14 c12;rw[adI]at c10;rw[adJ]at c11;rw[e12]at c12;obtain ⟨D,hown,h11,h10,h8,h14,h27,hDl,hdr,htk⟩:=hJ;have hLW:y.expr.av.length=next.length:=by omega
    rw[hLW]at hdr htk;rw[List.take_of_length_le (by omega:Z.length<=next.length),List.take_of_length_le (by omega:D.length<=next.length)]at htk;obtain ⟨g1,g2,g3⟩:=qb hbK hbk hek hk8;subst htk;clear hdr hbC hZg hec hLW aak aal hbk2 hd f4 f5
    repeat' (first|refine sX ?_ ?_<;>intro h|simp only[go_sem, *,fV,bL,dF,dP,fC,aV,LZ])
    refine hGo _ ⟨D,K-bk*y.expr.const,M,?_,?_,?_,?_,?_,by omega,by omega,hJo,hZb,g3⟩
    ·show Own (hset s'.hp (11,0) _) 57 fU 1 false (s'.sl 12) (!M.isEmpty) (ints M)
     rw[c12];exact hown.frame (fA _ rfl)
    ·simp only[go_sem,h11]
    ·simp only[go_sem,h10]
    ·simp only[go_sem,h8]
    ·simp only[go_sem,h27]
 ·have c8:=hfr 8 (by kernel_rfl)
  have c11:=hfr 11 (by kernel_rfl);clear hfr;simp only[go_sem]at c8 c11;change _=PV.ad (8,0) 1 0 at c8;change _=PV.ad (11,0) 1 0 at c11;obtain ⟨C,K,M,hown,h11,h10,h8,h27,hCl,hMl,hJ,hbC,hbK⟩:=hJ;rw[List.drop_length]at hJ;have hJ:(C,K,M)=R:=by rw[<- hJ];rfl
  subst hJ;have hap:∀mu d,aT Tryz.prog mu d 35 (.rf (27,0) next.length) (s'.sl 12) s'.hp=some (.rf (27,0) (next.length+M.length),hset s'.hp (27,0) ⟨(ints (C++M)).map .t,1,next.length+M.length,fU,false,true⟩):=fun mu d=>AJ h27 hown (by omega)
  have hdv:∀Y o,aS (hset (hset (hset s'.hp (27,0) ⟨(ints (C++M)).map .t,1,next.length+M.length,fU,false,true⟩) (11,0) Y) (8,0) o) 5 (.rf (27,0) (next.length+M.length))=some (.sl true (ints (C++M))):=fun Y o=>by
   rw[show next.length+M.length=(C++M).length by simp[hCl]];refine iT (k:=4) (esz:=1) (e:=fU) (lv:=true) ?_;rw[lU _ rfl,lU _ rfl,KP,h27];rfl
  clear hbC hbK hRR hown
  repeat' (first|refine sX ?_ ?_<;>intro h|simp only[go_sem, *])
attribute [go_sem] Tryz.results191 Tryz.results229 Tryz.results230 Tryz.results233 Tryz.results232 Tryz.results260 Tryz.results170 Tryz.results192 Tryz.results114 Tryz.results45 Tryz.results58 Tryz.results48 Tryz.results49
theorem Vv (nn:Bool) (l:List Int) (g:FuncId) (caps:List Tr) (p:Int->Bool) (hp:∀x∈l,aB Tryz.prog g (i64 x::caps) (.bool (p x))) :
  aB Tryz.prog 260 [.sl nn (l.map (Tr.int .i64)),.fn g caps] (i64 (idxFrom p 0 l)):=by
 refine au orders Tryz.func260 rfl (by kernel_rfl) bf (by kernel_rfl) rfl (fun hs=>?_);simp[dJ,Tr.sized]at hs;obtain ⟨hs1,_⟩:=hs
 repeat' (first|refine sX ?_ ?_<;>intro h|simp only[go_sem, *])
 refine aC l (fun k s'=>idxFrom p 0 l=idxFrom p k (l.drop k)) rfl rfl (by first|assumption|omega) (by kernel_rfl) (fun _ _ _ _ hj=>hj) (fun _ _ _ hj=>hj) ?_ (fun k x s' hx hd hk hJ hix hfr G hG=>?_) (fun s' hJ hfr=>?_)
 ·rfl
 ·have c0:=hfr 0 (by kernel_rfl)
  have c1:=hfr 1 (by kernel_rfl);clear hfr;simp only[go_sem]at c0 c1;rw[hd,idxFrom]at hJ
  repeat' (first|refine sX ?_ ?_<;>intro h|refine aj (hp x (List.mem_of_getElem? hx)) rfl ?_|simp only[go_sem, *])
  try any_goals (refine congrArg some ?_;first|rfl|(simp only[go_sem,idxFrom, *];done)|(simp only[go_sem,idxFrom, *];rfl)|(simp_all[idxFrom];done))
  try any_goals (refine hG _ ?_;simp only[go_sem,idxFrom, *];done)
 ·simp only[List.drop_length,idxFrom]at hJ
  repeat' (first|refine sX ?_ ?_<;>intro h|simp only[go_sem, *])
theorem Nt (nn:Bool) (l:List Int) (g:FuncId) (caps:List Tr) (p:Int->Bool) (hp:∀x∈l,aB Tryz.prog g (i64 x::caps) (.bool (p x))) :
  aB Tryz.prog 232 [.sl nn (l.map (Tr.int .i64)),.fn g caps] (.bool (l.any p)):=by
 refine au orders Tryz.func232 rfl (by kernel_rfl) bf (by kernel_rfl) rfl (fun hs=>?_);rw[<- lV p l 0]
 repeat' (first|refine sX ?_ ?_<;>intro h|refine aj (Vv nn l g caps p hp) rfl ?_|simp only[go_sem, *])
theorem aan (f:Flow) (r:Row):aB Tryz.prog 229 [r.tr,.ptr f.cs] (.bool (!bC f.vars r)):=by
 refine au orders Tryz.func229 rfl (by kernel_rfl) bf (by kernel_rfl) rfl (fun hs=>?_)
 repeat' (first|refine sX ?_ ?_<;>intro h|refine aj (KQ _ r) rfl ?_|simp only[go_sem, *])
theorem aao (nn:Bool) (left:List Int) (t:Int):aB Tryz.prog 230 [i64 t,.ptr [.sl nn (ints left)]] (.bool (hasB left t)):=by
 refine au orders Tryz.func230 rfl (by kernel_rfl) bf (by kernel_rfl) rfl (fun hs=>?_)
 repeat' (first|refine sX ?_ ?_<;>intro h|refine aj (zI nn left t) rfl ?_|simp only[go_sem, *])
theorem aap (nn:Bool) (left:List Int) (t:Int):aB Tryz.prog 233 [i64 t,.ptr [.fn 230 [.ptr [.sl nn (ints left)]]]] (.bool (!hasB left t)):=by
 refine au orders Tryz.func233 rfl (by kernel_rfl) bf (by kernel_rfl) rfl (fun hs=>?_)
 repeat' (first|refine sX ?_ ?_<;>intro h|refine aj (aao nn left t) rfl ?_|simp only[go_sem, *])
def tJ (r:Row):Prop:=r.nn=false->r.av=[]
theorem L8 (nn:Bool) (next:List Upd) (a b:Row) (d:Int):cu (dB nn next a b d)=cu (dB true next a b d):=rfl
theorem CP (l:List Int) (t:Int):(dw l t).natAbs<=1:=by unfold dw;split<;>decide
theorem vK {f:Flow} (hf:jk f) {j:Nat}{y:Trans} (hy:f.trans[j]?=some y) {funcs:List Row} (hr:∀r∈funcs,bC f.vars r=true) (hw:∀r∈funcs,tJ r) {u v:Nat}{a b:Row} (ha:funcs[u]?=some a) (hb:funcs[v]?=some b) (d:Int) (hd:d.natAbs<=1):Kh y.next a b d:=by
 have hT:=hf.all y (List.mem_of_getElem? hy);have ham:=List.mem_of_getElem? ha;have hbm:=List.mem_of_getElem? hb;obtain ⟨a1,a2,a3⟩:=tF (hr a ham);obtain ⟨b1,b2,b3⟩:=tF (hr b hbm);have hn:=hT.next;have hv:=hf.qB;refine ⟨hw a ham,by omega,by omega,by omega,a3,b3,a2,b2,hd,fun u hu hany=>?_⟩;have:=hT.upd u hu;simp only[pR,hany,Bool.false_eq_true,if_false]at this;obtain ⟨c1,c2,c3⟩:=tF this;exact ⟨by omega,c3,c2⟩
theorem vL {f:Flow}{j:Nat}{y:Trans} (hy:f.trans[j]?=some y) {funcs:List Row}{u v:Nat}{a b:Row} (hu:y.from_=u) (hv:y.to_=v) (ha:funcs[u]?=some a) (hb:funcs[v]?=some b) (d:Int):dO f funcs (j:Int) d=dB true y.next a b d:=by
 unfold dO;rw[fu hy,hu,hv];simp[rowAt,List.getD,ha,hb]
theorem Jd (f:Flow) (s:bq) (left:List Int):gN f s left =
  if ((s.funcs.length:Int) != f.dD)=true then 4 else if s.funcs.all (bC f.vars)=false then 4 else if ((s.strict.length:Int)==0)=true then 4 else if bO f.trans.length (-1) s.strict=false then 4 else if s.strict.all (hasB left)=false then 4
  else if ((s.bounds.length:Int) != s.strict.length)=true then 4 else if ((s.drops.length:Int) != left.length)=true then 4 else if left.all (fun t=>cu (dO f s.funcs t (dw s.strict t)))=true then 0 else 3:=by
 have he:s.strict.isEmpty=((s.strict.length:Int)==0):=by cases s.strict<;>simp;omega
 unfold gN;rw[he];generalize ((s.funcs.length:Int) != f.dD)=b1;generalize s.funcs.all (bC f.vars)=b2;generalize ((s.strict.length:Int)==0)=b3;generalize bO f.trans.length (-1) s.strict=b4;generalize s.strict.all (hasB left)=b5;generalize ((s.bounds.length:Int) != s.strict.length)=b6;generalize ((s.drops.length:Int) != left.length)=b7;cases b1<;>cases b2<;>cases b3<;>cases b4<;>cases b5<;>cases b6<;>cases b7<;>rfl
theorem acs (f:Flow) (hf:jk f) (s:bq) (hw:∀r∈s.funcs,tJ r) (lnn:Bool) (left:List Int) (hl:InF f left) :
  aB Tryz.prog 191 [f.tr,s.tr,.sl lnn (ints left)] (i64 (gN f s left)):=by
 have h1:=oU s.fnn s.funcs 229 [.ptr f.cs] (fun x=>!bC f.vars x) (fun x _=>aan f x);rw[mD]at h1;have h2:=X7 f.trans.length s.snn s.strict;have h3:=Nt s.snn s.strict 233 [.ptr [.fn 230 [.ptr [.sl lnn (ints left)]]]] (fun x=>!hasB left x) (fun x _=>aap lnn left x);rw[mD]at h3;rw[Jd];obtain ⟨P,hP⟩:∃P,P=fun t=>cu (dO f s.funcs t (dw s.strict t)):=⟨_,rfl⟩
 rw[<- hP];have hPP:∀t,P t=cu (dO f s.funcs t (dw s.strict t)):=fun t=>by rw[hP]
 clear hP;have hfn:∀(e:TypeId) (x:Tr),aS (hnew (fun _=>[]) 8 ⟨[.t x],1,1,e,false,true⟩) dep (C9 233 [PV.ad (hnext (fun _=>[]) 8) 1 0])=some (.fn 233 [.ptr [x]]):=fun e x=>rfl
 refine au orders Tryz.func191 rfl (by kernel_rfl) (fun d=>d==8||d==11||d==80||d==84) (by kernel_rfl) rfl (fun hs=>?_);simp only[dJ,Tr.sized,bq.tr,Flow.tr,Flow.cs,Bool.and_eq_true,decide_eq_true_eq,List.length_map]at hs;have hsl:left.length<=9223372036854775807:=by simp[dJ,Tr.sized]at hs;omega
 clear hs
 repeat' (first|refine sX ?_ ?_<;>intro h|refine aj (h1) rfl ?_|refine aj (h2) rfl ?_|refine Fj (h3) (by simp only[go_sem, *]) rfl ?_|simp only[go_sem, *,hfn])
 try any_goals (refine congrArg some ?_;first|rfl|(simp only[go_sem,Bool.true_eq_false, *];done)|(simp only[go_sem,Bool.true_eq_false, *];rfl)|(simp_all[Bool.true_eq_false];done))
 have hall:s.funcs.all (bC f.vars)=true:=by assumption
 have hlen:((s.funcs.length:Int) != f.dD)=false:=by assumption
 rw[List.all_eq_true]at hall;have hlen:(s.funcs.length:Int)=f.dD:=by simpa using hlen
 obtain ⟨n,hn⟩:∃n:Nat,f.dD=n:=⟨f.dD.toNat,by have:=hf.wG;have:=hf.wH;omega⟩
 clear h1 h2 h3 hfn;refine aC left (fun k s'=>left.all P=(left.drop k).all P) rfl rfl (by first|assumption|omega) (by kernel_rfl) (fun _ _ _ _ hj=>hj) (fun _ _ _ hj=>hj) ?_ (fun k x s' hx hd hk hJ hix hfr G hG=>?_) (fun s' hJ hfr=>?_)
 ·rfl
 ·have c3:=hfr 3 (by kernel_rfl)
  have c4:=hfr 4 (by kernel_rfl);have c63:=hfr 63 (by kernel_rfl);clear hfr;simp only[go_sem]at c3 c4 c63;obtain ⟨j,y,rfl,hy⟩:=hl.get (List.mem_of_getElem? hx);obtain ⟨u,v,hu,hun,hv,hvn⟩:=hf.tr hn hy;obtain ⟨a,ha,_⟩:=aF s.funcs u (by omega);obtain ⟨b,hb,_⟩:=aF s.funcs v (by omega);have hdo:=vK hf hy hall hw ha hb (dw s.strict j) (CP _ _);have hdr:=QA y s.fnn s.funcs (dw s.strict j) a b u v hu hv ha hb hdo;have hPj:P (j:Int)=cu (dB (a.nn||decide (aG y.next≠0)) y.next a b (dw s.strict j)):=by
   rw[hPP];simp only[vL hy hu hv ha hb];exact (L8 _ _ _ _ _).symm
  have hby:=adF s (j:Int);generalize dB (a.nn||decide (aG y.next≠0)) y.next a b (dw s.strict j)=R at hdr hPj;generalize dw s.strict (j:Int)=bj at hdr hby;have hlg:=FN R.const;have hcf:=mq R.nn R.av 236 [] (fun x=>!aU x) (fun x _=>FN x);rw[mD]at hcf;rw[hd,List.all_cons,hPj,cu]at hJ;obtain ⟨yf,yt,ygn,yg,ynn,yn⟩:=y;simp only at hu hv;subst hu;subst hv
  clear hPP hPj hdo hw hall hl hlen hd hsl
  repeat' (first|refine sX ?_ ?_<;>intro h|refine aj (hby) rfl ?_|refine aj (hdr) rfl ?_|refine aj (hlg) rfl ?_|refine aj (hcf) rfl ?_|simp only[go_sem, *])
  trace_state
  try any_goals (refine congrArg some ?_;first|rfl|(simp only[go_sem,cu, *];done)|(simp only[go_sem,cu, *];rfl)|(simp_all[cu];done))
  try any_goals (refine hG _ ?_;simp only[go_sem,cu, *];done)
 ·clear hPP hall hw
  rw[List.drop_length,List.all_nil]at hJ
  repeat' (first|refine sX ?_ ?_<;>intro h|simp only[go_sem, *])
theorem FQ {s:State}{v:Int} (hv:v<=8) (hw:∀x∈s.vals,pz x=true):∀(l:List Upd) (q:List Int),q.length=l.length->(∀u∈l,u.any=false->bC v u.expr=true)->yG l s.vals (do2 s l q)
 |[],[],_,_=>trivial
 |[],_::_,h,_=>by simp at h
 |_::_,[],h,_=>by simp at h
 |u::l,x::q,h,hu=>by
  refine ⟨fun ha=>?_,FQ hv hw l q (by simpa using h) (fun y hy=>hu y (by simp[hy]))⟩;rw[if_neg (by simp[ha])];exact uL (hu u (by simp) ha) hv hw
theorem Tg {f:Flow}{s:State}{x:Trans} (hg:Good f s) (hx:x∈f.trans) (ho:xw s x=true):x.from_=s.loc/\∀r∈x.guard,0<=nM r s.vals:=by
 simp only[xw,Bool.and_eq_true,beq_iff_eq,List.all_eq_true,holdB,Bool.not_eq_true',decide_eq_false_iff_not]at ho;refine ⟨ho.1,fun r hr=>?_⟩;rw[<- uL ((hg.flow.all x hx).right r hr) hg.flow.qB hg.word];have:=ho.2 r hr;omega
theorem X9 {f:Flow}{s:State}{t:Int}{draws:List Int} (hg:Good f s) (he:(jQ f s t draws).2.2=0):Kg f s t (jQ f s t draws).1:=by
 have hg':=Bp hg he;unfold jQ at he hg' ⊢;split at he;· cases he
 rename_i h1;rw[if_neg h1]at hg' ⊢;cases hx:f.trans[t.toNat]? with
 |none=>rw[hx]at he;cases he
 |some y =>
  rw[hx]at he hg';simp only at he hg' ⊢;split at he
  ·rename_i ho
   rw[if_pos ho]at hg' ⊢;have hm:=List.mem_of_getElem? hx;have hT:=hg.flow.all y hm;obtain ⟨ho1,ho2⟩:=Tg hg hm ho;unfold doR at he hg' ⊢;cases hd:do1 draws y.next 0 [] with
   |none=>rw[hd]at he;cases he
   |some q =>
    rw[hd]at he hg';simp only at he hg' ⊢;split at he
    ·rename_i hw
     rw[if_pos hw]at hg' ⊢;have h2:=wO draws y.next 0 [] q hd;exact ⟨t.toNat,y,by omega,hx,ho1,ho2,rfl,FQ hg.flow.qB hg.word _ _ (by simpa using h2) (fun u hu ha=>by
      have:=hT.upd u hu;simpa only[pR,ha,Bool.false_eq_true,if_false] using this),hg.z,hg'.z⟩
    ·cases he
  ·cases he
def Exec (f:Flow) (S:List State) (T:List Int):Prop:=S.length=T.length+1/\(∀s∈S,Good f s)/\∀(k:Nat) t,T[k]?=some t->∃a b,S[k]?=some a/\S[k+1]?=some b/\Kg f a t b
theorem Ti {f:Flow}{s:State} (hg:Good f s):Exec f [s] []:=⟨rfl,fun x hx=>by rw[List.mem_singleton.1 hx];exact hg,fun k t h=>by simp at h⟩
theorem Vw {f:Flow}{S:List State}{T:List Int}{s s':State}{t:Int} (h:Exec f S T) (hs:S[T.length]?=some s) (hst:Kg f s t s') (hg:Good f s'):Exec f (S++[s']) (T++[t]):=by
 obtain ⟨h1,h2,h3⟩:=h;refine ⟨by simp[h1],fun x hx=>?_,fun k u hk=>?_⟩
 ·rcases List.mem_append.1 hx with hx|hx
  ·exact h2 x hx
  ·rw[List.mem_singleton.1 hx];exact hg
 ·by_cases hkl:k < T.length
  ·rw[List.getElem?_append_left hkl]at hk
   obtain ⟨a,b,g1,g2,g3⟩:=h3 k u hk;exact ⟨a,b,by rw[List.getElem?_append_left (by omega)];exact g1,by rw[List.getElem?_append_left (by omega)];exact g2,g3⟩
  ·have ahv:k < (T++[t]).length:=(List.getElem?_eq_some_iff.1 hk).1
   have:k=T.length:=by simp at ahv;omega
   subst this;simp at hk;subst hk
   exact ⟨s,s',by rw[List.getElem?_append_left (by omega)];exact hs,by rw[<- h1];simp,hst⟩
theorem FT {f:Flow}{c:Nat->State->Int × Bool}{N:Nat} (hend:∀st,(c N st).2=false):∀(n i:Nat) (s:State) (draws:List Int) (S:List State) (T:List Int),i+n=N+1->0 < n->Exec f S T->S[T.length]?=some s->Good f s ->
  (kR f c n i s draws S T).2.2=0->Exec f (kR f c n i s draws S T).1 (kR f c n i s draws S T).2.1
 |0,_,_,_,_,_,_,h,_,_,_,_=>by omega
 |n+1,i,s,draws,S,T,hi,_,hE,hs,hg,he=>by
  unfold kR at he ⊢
  by_cases hc:(c i s).2=true
  ·rw[if_pos hc]at he ⊢
   by_cases hx:((jQ f s (c i s).1 draws).2.2 != 0)=true
   ·rw[if_pos hx]at he
    simp at hx;exact absurd he hx
   ·rw[if_neg hx]at he ⊢
    have hx0:(jQ f s (c i s).1 draws).2.2=0:=by simpa using hx
    have hg':=Bp hg hx0;have hne:i≠N:=fun e=>by subst e;rw[hend]at hc;cases hc
    refine FT hend n (i+1) _ _ _ _ (by omega) (by omega) (Vw hE hs (X9 hg hx0) hg') ?_ hg' he;have:=hE.1;simp[this]
  ·rw[if_neg hc];exact hE
theorem FU {f:Flow}{c:Nat->State->Int × Bool}:∀(n i:Nat) (s:State) (draws:List Int) (S:List State) (T:List Int) (a:State),S[0]?=some a->(kR f c n i s draws S T).1≠[]->(kR f c n i s draws S T).1[0]?=some a
 |0,_,_,_,_,_,_,_,h=>absurd rfl h
 |n+1,i,s,draws,S,T,a,hS,h=>by
  unfold kR at h ⊢
  by_cases hc:(c i s).2=true
  ·rw[if_pos hc]at h ⊢
   by_cases hx:((jQ f s (c i s).1 draws).2.2 != 0)=true
   ·rw[if_pos hx]at h;exact absurd rfl h
   ·rw[if_neg hx]at h ⊢
    refine FU n _ _ _ _ _ a ?_ h;rw[List.getElem?_append_left (List.getElem?_eq_some_iff.1 hS).1];exact hS
  ·rw[if_neg hc];exact hS
theorem FV {f:Flow}{s:State}{picks draws:List Int} (h:(kT f s picks draws).2.2=0):Good f s/\Exec f (kT f s picks draws).1 (kT f s picks draws).2.1/\(kT f s picks draws).1[0]?=some s:=by
 unfold kT at h ⊢
 by_cases he:(gM f s != 0)=true
 ·rw[if_pos he]at h
  simp at he;exact absurd h he
 ·rw[if_neg he]at h ⊢
  have hg:=good (f:=f) (s:=s) (by simpa using he)
  by_cases hp:decide ((picks.length:Int) > 4096)=true
  ·rw[if_pos hp]at h;cases h
  ·rw[if_neg hp]at h ⊢
   have hE:=FT (c:=oL f picks) (N:=picks.length) (fun st=>by simp[oL]) (picks.length+1) 0 s draws [s] [] (by omega) (by omega) (Ti hg) rfl hg h;refine ⟨hg,hE,FU _ _ _ _ _ _ s rfl ?_⟩;intro e;have:=hE.1;rw[e]at this;simp at this
theorem zK {f:Flow}{t:Int} (h0:0<=t) (h1:t < f.trans.length):f.trans[t.toNat]?=some (aK f t):=by
 unfold aK;rw[List.getD_eq_getElem?_getD,List.getElem?_eq_getElem (by omega)];rfl
structure Ki (f:Flow) (r:bY):Prop where
 flow:jk f
 stages:r.stages.length<=32
 go:(gD f true r.stages (cyc f (allT f))).2=0
 done:remaining f r.stages=[]
theorem CQ {f:Flow}{r:bY} (h:eX f r=0):Ki f r:=by
 unfold eX at h;split at h
 ·cases h
 ·rename_i hne
  have h1:(mV f r true).1=[]:=by
   refine Decidable.byContradiction fun hh=>hne ⟨h,hh⟩
  unfold mV at h h1;split at h
  ·rename_i h2;exact absurd h h2
  ·rename_i h2
   rw[if_neg h2]at h1;split at h
   ·cases h
   ·rename_i h3
    rw[if_neg h3]at h1;refine ⟨D6 (Decidable.not_not.1 h2),by omega,h,?_⟩;rw[Br h]at h1;exact h1
noncomputable def wR (f:Flow) (r:bY) (i:Nat):List Int:=remaining f (r.stages.take i)
theorem Ki.stage {f:Flow}{r:bY} (h:Ki f r) {i:Nat}{s:bq} (hs:r.stages[i]?=some s):CJ f s (wR f r i)/\jm f s (wR f r i)=true:=by
 obtain ⟨h1,h2⟩:=Du h.go i s hs;exact ⟨Ke h1,h2 rfl⟩
theorem QB {f:Flow}{r:bY}{i:Nat}{s:bq} (hs:r.stages[i]?=some s):wR f r (i+1)=cyc f (without (wR f r i) s.strict):=by
 unfold wR remaining;have:r.stages.take (i+1)=r.stages.take i++[s]:=by rw[List.take_add_one,hs];rfl
 rw[this,xE];rfl
theorem Hf {f:Flow}{t:Int}:t∈allT f↔0<=t/\t < f.trans.length:=by
 unfold allT;rw[List.mem_map];constructor
 ·rintro ⟨n,hn,rfl⟩
  rw[List.mem_range]at hn;omega
 ·rintro ⟨h0,h1⟩
  exact ⟨t.toNat,by rw[List.mem_range];omega,by omega⟩
theorem L9 {n:Int}:∀ {l:List Int}{a:Int},bO n a l=true->∀x∈l,a < x/\x < n
 |[],_,_,x,hx=>by simp at hx
 |y::r,a,h,x,hx=>by
  unfold bO at h;split at h
  ·cases h
  ·rename_i hc
   rcases List.mem_cons.1 hx with rfl|hx
   ·omega
   ·have:=L9 h x hx;omega
structure Tj where
 loc:Int
 rnn:Bool
 rows:List Row
 trans:Int
 nnn:Bool
 next:List Row
 goto:Int
 enn:Bool
 enter:List Cert
 ynn:Bool
 stay:List Cert
def Tj.tr (s:Tj):Tr:=.agg [i64 s.loc,.sl s.rnn (s.rows.map Row.tr),i64 s.trans,.sl s.nnn (s.next.map Row.tr),i64 s.goto,.sl s.enn (s.enter.map Cert.tr),.sl s.ynn (s.stay.map Cert.tr)]
structure Hg where
 start:State
 tnn:Bool
 trans:List Int
 dnn:Bool
 draws:List Int
 snn:Bool
 spots:List Tj
def Hg.cs (r:Hg):List Tr:=[i64 r.start.loc,.sl r.start.vnn (ints r.start.vals),.sl r.tnn (ints r.trans),.sl r.dnn (ints r.draws),.sl r.snn (r.spots.map Tj.tr)]
def Hg.tr (r:Hg):Tr:=.agg r.cs
attribute [go_sem] Tj.tr Hg.tr Hg.cs
theorem J8:∀(m:Nat) (g:Nat->Nat),(∀k,k<=m->g k < m)->∃i j,i < j/\j<=m/\g i=g j
 |0,g,h=>absurd (h 0 (Nat.le_refl _)) (by omega)
 |m+1,g,h=>by
  by_cases hx:∃i,i<=m/\g i=g (m+1)
  ·obtain ⟨i,h1,h2⟩:=hx
   exact ⟨i,m+1,by omega,Nat.le_refl _,h2⟩
  ·have hne:∀i,i<=m->g i≠g (m+1):=fun i hi e=>hx ⟨i,hi,e⟩
   obtain ⟨i,j,h1,h2,h3⟩:=J8 m (fun k=>if g k=m then g (m+1) else g k) (fun k hk=>by
    have h4:=h k (by omega);have h5:=h (m+1) (Nat.le_refl _);have h6:=hne k hk;split<;>omega)
   refine ⟨i,j,h1,by omega,?_⟩;have h7:=hne i (by omega);have h8:=hne j h2;split at h3<;>split at h3<;>omega
end ama
end Go.Vm
end
section
namespace Go.Vm
open Go Go.Proofs
namespace ama
open Go.Proofs.Tryz
theorem typed_inti {t:TypeId}{xs:List Tr} (hu:Tryz.prog.underlying t=some (.slice rD)) (h:Typed Tryz.prog t xs):∃nn l,xs=[.sl nn (ints l)]:=by
 refine pY hu (Tr.int .i64) (fun x h1 _ _ h4=>?_) h;obtain ⟨n,hn⟩:=lZ (k:=.i64) (by kernel_rfl) h1;have:=h4 (by kernel_rfl);rw[hn]at this;injection this with h5
 exact ⟨n,h5.symm⟩
theorem Vx {xs:List Tr} (h:Typed Tryz.prog 228 xs):∃r:Upd,.agg xs=r.tr:=by
 obtain ⟨hl,hf⟩:=jV Tryz.underlying228 h;obtain ⟨a,b,c,rfl⟩:=len3 (hl.trans (by kernel_rfl));simp only[List.mem_cons,List.not_mem_nil,or_false,forall_eq_or_imp,forall_eq]at hf;simp only[go_sem]at hf;obtain ⟨h1,h2⟩:=hf;obtain ⟨q,e1⟩:=Ta (by kernel_rfl) h1;obtain ⟨r,e2⟩:=LH h2;injection e1 with e1
 subst e1;obtain ⟨nn,l,n⟩:=r;simp only[Row.tr,Tr.agg.injEq,List.cons.injEq,and_true]at e2;obtain ⟨rfl,rfl⟩:=e2;exact ⟨⟨q,⟨nn,l,n⟩⟩,rfl⟩
theorem Tk {t:TypeId}{xs:List Tr} (hu:Tryz.prog.underlying t=some (.slice 228)) (h:Typed Tryz.prog t xs):∃nn l,xs=[.sl nn (List.map Upd.tr l)]:=by
 refine pY hu Upd.tr (fun x h1 h2 _ _=>?_) h;obtain ⟨r,hr⟩:=Vx h1;exact ⟨r,(h2 (by kernel_rfl)).trans hr⟩
theorem QC {xs:List Tr} (h:Typed Tryz.prog 101 xs):∃r:Trans,.agg xs=r.tr:=by
 obtain ⟨hl,hf⟩:=jV Tryz.underlying101 h;obtain ⟨a,b,c,d,rfl⟩:=len4 (hl.trans (by kernel_rfl));simp only[List.mem_cons,List.not_mem_nil,or_false,forall_eq_or_imp,forall_eq]at hf;simp only[go_sem]at hf;obtain ⟨h1,h2,h3,h4⟩:=hf;obtain ⟨n1,e1⟩:=lZ (k:=.i64) (by kernel_rfl) h1;obtain ⟨n2,e2⟩:=lZ (k:=.i64) (by kernel_rfl) h2;obtain ⟨nn,l,e3⟩:=I5 (by kernel_rfl) h3;obtain ⟨nn',l',e4⟩:=Tk (by kernel_rfl) h4;injection e1 with e1;injection e2 with e2;injection e3 with e3;injection e4 with e4
 subst e1;subst e2;subst e3;subst e4
 exact ⟨⟨n1,n2,nn,l,nn',l'⟩,rfl⟩
theorem typed_flow {xs:List Tr} (h:Typed Tryz.prog 56 xs):∃r:Flow,.agg xs=r.tr:=by
 obtain ⟨hl,hf⟩:=jV Tryz.underlying56 h;obtain ⟨a,b,c,d,rfl⟩:=len4 (hl.trans (by kernel_rfl));simp only[List.mem_cons,List.not_mem_nil,or_false,forall_eq_or_imp,forall_eq]at hf;simp only[go_sem]at hf;obtain ⟨h1,h2,h3,h4⟩:=hf;obtain ⟨n1,e1⟩:=lZ (k:=.i64) (by kernel_rfl) h1;obtain ⟨n2,e2⟩:=lZ (k:=.i64) (by kernel_rfl) h2;obtain ⟨n3,e3⟩:=lZ (k:=.i64) (by kernel_rfl) h3;obtain ⟨nn,l,e4⟩:=pY (α:=Trans) (e:=101) (by kernel_rfl) Trans.tr (fun x h1 h2 _ _=>by
  obtain ⟨r,hr⟩:=QC h1;exact ⟨r,(h2 (by kernel_rfl)).trans hr⟩) h4
 injection e1 with e1;injection e2 with e2;injection e3 with e3;injection e4 with e4
 subst e1;subst e2;subst e3;subst e4
 exact ⟨⟨n1,n2,n3,nn,l⟩,rfl⟩
theorem typed_state {xs:List Tr} (h:Typed Tryz.prog 58 xs):∃r:State,.agg xs=r.tr:=by
 obtain ⟨hl,hf⟩:=jV Tryz.underlying58 h;obtain ⟨a,b,rfl⟩:=len2 (hl.trans (by kernel_rfl));simp only[List.mem_cons,List.not_mem_nil,or_false,forall_eq_or_imp,forall_eq]at hf;simp only[go_sem]at hf;obtain ⟨h1,h2⟩:=hf;obtain ⟨n,e1⟩:=lZ (k:=.i64) (by kernel_rfl) h1;obtain ⟨nn,l,e2⟩:=typed_ints (by kernel_rfl) h2;injection e1 with e1;injection e2 with e2
 subst e1;subst e2
 exact ⟨⟨n,nn,l⟩,rfl⟩
structure qN (c:Cert):Prop where
 sc:c.scale < 18446744073709551616
 ms:∀m∈c.ms,m < 18446744073709551616
 nn:c.mnn=false->c.ms=[]
theorem FW {t:TypeId}{xs:List Tr} (hu:Tryz.prog.underlying t=some (.slice 40)) (h:Typed Tryz.prog t xs):∃nn l,(∀c∈l,qN c)/\xs=[.sl nn (List.map Cert.tr l)]:=by
 obtain ⟨nn,l,e⟩:=pY (α:={c:Cert // qN c}) hu (fun c=>c.1.tr) (fun x h1 h2 _ _=>by
  obtain ⟨c,g1,g2,g3,e⟩:=Td h1;exact ⟨⟨c,g1,g2,g3⟩,(h2 (by kernel_rfl)).trans e⟩) h
 refine ⟨nn,l.map Subtype.val,fun c hc=>?_,?_⟩
 ·obtain ⟨y,_,rfl⟩:=List.mem_map.1 hc
  exact y.2
 ·rw[e,List.map_map];rfl
structure jF (s:bq):Prop where
 b:∀c∈s.bounds,qN c
 d:∀c∈s.drops,qN c
theorem QD {xs:List Tr} (h:Typed Tryz.prog 93 xs):∃r:bq,jF r/\.agg xs=r.tr:=by
 obtain ⟨hl,hf⟩:=jV Tryz.underlying93 h;obtain ⟨a,b,c,d,rfl⟩:=len4 (hl.trans (by kernel_rfl));simp only[List.mem_cons,List.not_mem_nil,or_false,forall_eq_or_imp,forall_eq]at hf;simp only[go_sem]at hf;obtain ⟨h1,h2,h3,h4⟩:=hf;obtain ⟨n1,l1,e1⟩:=I5 (by kernel_rfl) h1;obtain ⟨n2,l2,e2⟩:=typed_inti (by kernel_rfl) h2;obtain ⟨n3,l3,o3,e3⟩:=FW (by kernel_rfl) h3;obtain ⟨n4,l4,o4,e4⟩:=FW (by kernel_rfl) h4;injection e1 with e1;injection e2 with e2;injection e3 with e3;injection e4 with e4
 subst e1;subst e2;subst e3;subst e4
 exact ⟨⟨n1,l1,n2,l2,n3,l3,n4,l4⟩,⟨o3,o4⟩,rfl⟩
theorem len1 {xs:List Tr} (h:xs.length=1):∃a,xs=[a]:=by
 match xs,h with
 |[a],_=>exact ⟨a,rfl⟩
theorem typed_ranking {xs:List Tr} (h:Typed Tryz.prog 80 xs):∃r:bY,(∀s∈r.stages,jF s)/\.agg xs=r.tr:=by
 obtain ⟨hl,hf⟩:=jV Tryz.underlying80 h;obtain ⟨a,rfl⟩:=len1 (hl.trans (by kernel_rfl));simp only[List.mem_cons,List.not_mem_nil,or_false,forall_eq]at hf;simp only[go_sem]at hf;obtain ⟨nn,l,e⟩:=pY (α:={s:bq // jF s}) (e:=93) (by kernel_rfl) (fun c=>c.1.tr) (fun x h1 h2 _ _=>by
  obtain ⟨c,g,e⟩:=QD h1;exact ⟨⟨c,g⟩,(h2 (by kernel_rfl)).trans e⟩) hf
 refine ⟨⟨nn,l.map Subtype.val⟩,fun c hc=>?_,?_⟩
 ·obtain ⟨y,_,rfl⟩:=List.mem_map.1 hc
  exact y.2
 ·injection e with e
  rw[e];simp only[bY.tr,List.map_map];rfl
end ama
end Go.Vm
end
section
namespace Go.Vm
open Go Go.Proofs Go.Whole
namespace ama
open Go.Proofs.Tryz
attribute [go_sem] Tryz.results30
theorem Ma (vars:Int) (rnn:Bool) (rows:List Row) (row:Row) (f:Cert) (hlen:rows.length<=4398046511103) (hok:qN f) :
  aB Tryz.prog 30 [i64 vars,.sl rnn (rows.map Row.tr),row.tr,f.tr] (.bool (bV vars rows row f)):=by
 obtain ⟨hsc,hms,hnil⟩:=hok;have h1:=aag rnn rows row hlen;have h2:=XW vars true (rows++[row]);have h4:=Z6 rnn rows f.mnn f.ms;rw[show (decide (f.ms.length=rows.length)&&f.ms.all (fun m=>decide (m<=4611686018427387904)))=nJ rows f.ms from rfl]at h4
 by_cases he:bQ vars (rows++[row])=0
 ·obtain ⟨V,rfl,hS⟩:=CG he
  by_cases hm:nJ rows f.ms=true
  ·by_cases hs2:f.scale<=4611686018427387904
   ·have hm2:=SI hm
    obtain ⟨hsl,hr1,hr2,hr3⟩:=hS.left;have h5:=Qj V rnn rows row f hsl ⟨hr1,hr2,hr3⟩ (by omega) hms hsc;obtain ⟨k1,k2⟩:=SN V rows f.ms (fun r hr=>(hsl.r r hr).1);rw[Qr row f.scale k1 k2]at h5;have hR:bV V rows row f=gZ (bF (List.replicate V zW) ⟨true,0⟩ rows f.ms) row f.scale:=by
     simp[bV,he,lY,hm,hs2]
    rw[hR];rw[he]at h2;rw[hm]at h4;generalize gZ _ _ _=b at *;have hg:decide ((f.scale:Int)<=4611686018427387904)=true:=by simp;omega
    clear k1 k2 hm2 hS he hms hsl hr1 hr2 hr3 hnil hlen hR hsc;refine au orders Tryz.func30 rfl (by kernel_rfl) bf (by kernel_rfl) rfl (fun hs=>?_);clear hs
    repeat' (first|refine sX ?_ ?_<;>intro h|refine aj (h1) rfl ?_|refine aj (h2) rfl ?_|refine aj (h4) rfl ?_|refine aj (h5) rfl ?_|simp only[go_sem, *,beq_self_eq_true])
   ·have hR:bV V rows row f=false:=by simp[bV,lY,hs2]
    rw[hR];rw[he]at h2;rw[hm]at h4;have hg:decide ((f.scale:Int)<=4611686018427387904)=false:=by simp;omega
    clear hS he hms hnil hlen hR hsc;refine au orders Tryz.func30 rfl (by kernel_rfl) bf (by kernel_rfl) rfl (fun hs=>?_);clear hs
    repeat' (first|refine sX ?_ ?_<;>intro h|refine aj (h1) rfl ?_|refine aj (h2) rfl ?_|refine aj (h4) rfl ?_|simp only[go_sem, *,beq_self_eq_true])
  ·have hR:bV V rows row f=false:=by simp[bV,lY,hm]
   rw[hR];rw[he]at h2;have hm:nJ rows f.ms=false:=by simpa using hm
   rw[hm]at h4;clear hS he hms hnil hlen hR hsc;refine au orders Tryz.func30 rfl (by kernel_rfl) bf (by kernel_rfl) rfl (fun hs=>?_);clear hs
   repeat' (first|refine sX ?_ ?_<;>intro h|refine aj (h1) rfl ?_|refine aj (h2) rfl ?_|refine aj (h4) rfl ?_|simp only[go_sem, *,beq_self_eq_true])
 ·have hR:bV vars rows row f=false:=by simp[bV,he]
  rw[hR];have hb:(bQ vars (rows++[row])==0)=false:=by simpa using he
  generalize bQ vars (rows++[row])=e at *;clear hms hnil hlen hR hsc;refine au orders Tryz.func30 rfl (by kernel_rfl) bf (by kernel_rfl) rfl (fun hs=>?_);clear hs
  repeat' (first|refine sX ?_ ?_<;>intro h|refine aj (h1) rfl ?_|refine aj (h2) rfl ?_|refine aj (h4) rfl ?_|simp only[go_sem, *,beq_self_eq_true])
theorem OA (rnn:Bool) (rows:List Row) (row:Row) (f:Cert) (hlen:rows.length<=4398046511103) (hok:qN f) :
  aB Tryz.prog 170 [.sl rnn (rows.map Row.tr),row.tr,f.tr] (.bool (bV row.av.length rows row f)):=by
 have h1:=Vn row.av.length rnn rows row f hlen hok.nn;have hR:bV row.av.length rows row f=(if (wM row.av.length rows row f).1=true then ((wM row.av.length rows row f).2==0) else false):=by
  unfold bV wM;generalize bQ row.av.length (rows++[row])=e;generalize gZ _ _ _=w;generalize lY rows f=o
  by_cases he:e=0
  ·subst he
   cases o<;>cases w<;>rfl
  ·rw[if_pos he];simp[he]
 rw[hR];generalize (wM row.av.length rows row f).1=b1 at *;generalize (wM row.av.length rows row f).2=b2 at *;clear hR hlen hok;cases b1 with
 |true =>
  refine au orders Tryz.func170 rfl (by kernel_rfl) bf (by kernel_rfl) rfl (fun hs=>?_);clear hs
  repeat' (first|refine sX ?_ ?_<;>intro h|refine aj (h1) rfl ?_|simp only[go_sem, *])
 |false =>
  refine au orders Tryz.func170 rfl (by kernel_rfl) bf (by kernel_rfl) rfl (fun hs=>?_);clear hs
  repeat' (first|refine sX ?_ ?_<;>intro h|refine aj (h1) rfl ?_|simp only[go_sem, *])
theorem zL:∀(us:List Upd) (bs:List Int) (q:List Int × Int × List Int),us.length=bs.length->(bK us bs q).2.2.length=q.2.2.length+aG us
 |[],[],q,_=>by simp[bK,aG]
 |[],_::_,_,h=>by simp at h
 |_::_,[],_,h=>by simp at h
 |u::us,b::bs,q,h=>by
  rw[wP];simp only[bK];split
  ·rw[zL us bs _ (by simpa using h)];simp;omega
  ·rw[zL us bs _ (by simpa using h)];simp
theorem FX {nn:Bool}{next:List Upd}{a b:Row}{d:Int} (ho:Kh next a b d):(dB nn next a b d).av.length=next.length+aG next:=by
 have h1:=pX next b.av (a.av,a.const-b.const-d,[]) (fun u hu ha=>by have:=(ho.ups u hu ha).1;have:=ho.la;show u.expr.av.length=a.av.length;omega)
 have h2:=zL next b.av (a.av,a.const-b.const-d,[]) ho.lb.symm
 unfold dB;simp only[List.length_append,h1,h2,List.length_nil,ho.la];omega
theorem FY (t:Trans):(jR t).map strip=(t.guard.map (wide (aG t.next))).map strip:=by
 unfold jR;rw[List.map_map,List.map_map];rfl
theorem Er {funcs:List Row}{l:Int}{u:Nat}{a:Row} (hu:l=u) (ha:funcs[u]?=some a):rowAt funcs l=a:=by
 subst hu;simp[rowAt,List.getD,ha]
theorem oO (f:Flow) (s:bq) (cs:List Cert):fK f s [] cs=true:=by cases cs<;>rfl
theorem qP (f:Flow) (s:bq) (cs:List Cert):iw f s [] cs=true:=by cases cs<;>rfl
theorem QE (f:Flow) (hf:jk f) (s:bq) (hs0:jF s) (hw:∀r∈s.funcs,tJ r) (lnn:Bool) (left:List Int) (hl:InF f left) (hF:CJ f s left) :
  aB Tryz.prog 192 [f.tr,s.tr,.sl lnn (ints left)] (.bool (jm f s left)):=by
 unfold jm;obtain ⟨D,hD⟩:∃D,iw f s left s.drops=D:=⟨_,rfl⟩
 rw[hD];obtain ⟨n,hn⟩:∃n:Nat,f.dD=n:=⟨f.dD.toNat,by have:=hf.wG;have:=hf.wH;omega⟩
 have hfl:s.funcs.length=n:=by have:=hF.dD;omega
 have hbl:=hF.bl;have hdl:=hF.dl;have hv1:=hf.KU;have hv2:=hf.qB;refine au orders Tryz.func192 rfl (by kernel_rfl) (fun d=>d==9||d==12||d==26||d==30) (by kernel_rfl) rfl (fun hs=>?_);have hsl:left.length<=9223372036854775807/\s.strict.length<=9223372036854775807:=by
  simp only[dJ,Tr.sized,bq.tr,Bool.and_eq_true,decide_eq_true_eq,List.length_map]at hs;simp[dJ,Tr.sized]at hs;omega
 obtain ⟨hsl1,hsl2⟩:=hsl;clear hs
 repeat' (first|refine sX ?_ ?_<;>intro h|simp only[go_sem, *])
 refine aC s.strict (fun k s'=>(fK f s s.strict s.bounds&&D)=(fK f s (s.strict.drop k) (s.bounds.drop k)&&D)) rfl rfl (by first|assumption|omega) (by kernel_rfl) (fun _ _ _ _ hj=>hj) (fun _ _ _ hj=>hj) ?_ (fun k x s' hx hd hk hJ hix hfr G hG=>?_) (fun s' hJ hfr=>?_)
 ·rfl
 ·have c3:=hfr 3 (by kernel_rfl)
  have c4:=hfr 4 (by kernel_rfl);have c14:=hfr 14 (by kernel_rfl);clear hfr;simp only[go_sem]at c3 c4 c14;obtain ⟨j,y,rfl,hy⟩:=hl.get (hF.sub _ (List.mem_of_getElem? hx));obtain ⟨u,v,hu,hun,hv,hvn⟩:=hf.tr hn hy;obtain ⟨a,ha,_⟩:=aF s.funcs u (by omega);obtain ⟨c,hc1,hc2⟩:=aF s.bounds k (by omega);have hyl:=(hf.all y (List.mem_of_getElem? hy)).guard;have hp:=OA y.gnn y.guard a c (by omega) (hs0.b c (List.mem_of_getElem? hc1));rw[iU (hF.right a (List.mem_of_getElem? ha))]at hp;rw[hd,hc2,fK,fu hy,Er hu ha]at hJ;generalize bV f.vars y.guard a c=q at hp hJ;obtain ⟨yf,yt,ygn,yg,ynn,yn⟩:=y;simp only at hu hv;subst hu;subst hv
  clear hD hw hl hF hd hyl hc2;cases q with
  |true =>
   repeat' (first|refine sX ?_ ?_<;>intro h|refine aj (hp) rfl ?_|simp only[go_sem, *])
   try exact hG _ hJ
  |false =>
   repeat' (first|refine sX ?_ ?_<;>intro h|refine aj (hp) rfl ?_|simp only[go_sem, *])
   try (rw[hJ];rfl)
 ·have c2:=hfr 2 (by kernel_rfl)
  have c3:=hfr 3 (by kernel_rfl);have c4:=hfr 4 (by kernel_rfl);clear hfr;simp only[go_sem]at c2 c3 c4;rw[List.drop_length,oO,Bool.true_and]at hJ;have e3:=c3;have e4:=c4;rw[hJ];clear hJ
  repeat' (first|refine sX ?_ ?_<;>intro h|simp only[go_sem, *])
  refine aC left (fun k s'=>D=iw f s (left.drop k) (s.drops.drop k)) rfl rfl (by first|assumption|omega) (by kernel_rfl) (fun _ _ _ _ hj=>hj) (fun _ _ _ hj=>hj) ?_ (fun k x s' hx hd hk hJ hix hfr G hG=>?_) (fun s' hJ hfr=>?_)
  ·exact hD.symm
  ·have c3:=hfr 3 (by kernel_rfl)
   have c4:=hfr 4 (by kernel_rfl);have c42:=hfr 42 (by kernel_rfl);clear hfr;simp only[go_sem]at c3 c4 c42;rw[e3]at c3;rw[e4]at c4;obtain ⟨j,y,rfl,hy⟩:=hl.get (List.mem_of_getElem? hx);obtain ⟨u,v,hu,hun,hv,hvn⟩:=hf.tr hn hy;obtain ⟨a,ha,_⟩:=aF s.funcs u (by omega);obtain ⟨b,hb,_⟩:=aF s.funcs v (by omega);obtain ⟨c,hc1,hc2⟩:=aF s.drops k (by omega);have hT:=hf.all y (List.mem_of_getElem? hy);have hyl:=hT.guard;have hnx:=hT.next;have hdo:=vK hf hy (fun r hr=>hF.right r hr) hw ha hb (dw s.strict j) (CP _ _);have hdr:=QA y s.fnn s.funcs (dw s.strict j) a b u v hu hv ha hb hdo;have hby:=adF s (j:Int);have hgd:=Te y (by omega) (by omega) (fun r hr=>by have:=iU (hT.right r hr);omega);have hRl:=FX (nn:=a.nn||decide (aG y.next≠0)) hdo;have hp:=OA (!y.guard.isEmpty) (jR y) (dB (a.nn||decide (aG y.next≠0)) y.next a b (dw s.strict j)) c (by unfold jR;rw[List.length_map];omega) (hs0.d c (List.mem_of_getElem? hc1));have hsame:bV ((dB (a.nn||decide (aG y.next≠0)) y.next a b (dw s.strict j)).av.length:Int) (jR y) (dB (a.nn||decide (aG y.next≠0)) y.next a b (dw s.strict j)) c=bV (f.vars+aG y.next) (y.guard.map (wide (aG y.next))) (dO f s.funcs j (dw s.strict j)) c:=by
    rw[hRl,show ((y.next.length+aG y.next:Nat):Int)=f.vars+aG y.next by omega];refine FM (FY y) ?_;rw[vL hy hu hv ha hb];rfl
   rw[hsame]at hp;rw[hd,hc2,iw,fu hy]at hJ;generalize bV (f.vars+aG y.next) (y.guard.map (wide (aG y.next))) (dO f s.funcs j (dw s.strict j)) c=q at hp hJ;generalize dB (a.nn||decide (aG y.next≠0)) y.next a b (dw s.strict j)=R at hdr hp;generalize jR y=GG at hgd hp;generalize dw s.strict (j:Int)=bj at hdr hby;obtain ⟨yf,yt,ygn,yg,ynn,yn⟩:=y;simp only at hu hv;subst hu;subst hv
   clear hD hw hl hF hd hyl hc2 hT hdo hRl hsame hnx;cases q with
   |true =>
    repeat' (first|refine sX ?_ ?_<;>intro h|refine aj (hgd) rfl ?_|refine aj (hby) rfl ?_|refine aj (hdr) rfl ?_|refine aj (hp) rfl ?_|simp only[go_sem, *])
    try exact hG _ hJ
   |false =>
    repeat' (first|refine sX ?_ ?_<;>intro h|refine aj (hgd) rfl ?_|refine aj (hby) rfl ?_|refine aj (hdr) rfl ?_|refine aj (hp) rfl ?_|simp only[go_sem, *])
    try (rw[hJ];rfl)
  ·rw[List.drop_length,qP]at hJ
   subst hJ;clear hD
   repeat' (first|refine sX ?_ ?_<;>intro h|simp only[go_sem, *])
theorem aaq (f:Flow) (r:bY) (all:Bool) (hr:∀s∈r.stages,jF s/\∀row∈s.funcs,tJ row) :
  aB Tryz.prog 114 [f.tr,r.tr,.bool all] (.tup [nA (mV f r all).1,i64 (mV f r all).2]):=by
 have h1:=uI f;unfold mV
 by_cases he:aY f=0
 ·have hf:=D6 he
  have hlen:=hf.len;rw[if_neg (fun h=>h he)];have h2:=LU f (by omega);have h3:=CK f hf true (allT f) (uV f) (by rw[lK];omega);rw[he]at h1
  by_cases hst:(r.stages.length:Int) > 32
  ·rw[if_pos hst]
   clear h2 h3 hr;refine au orders Tryz.func114 rfl (by kernel_rfl) (fun d=>d==11||d==50) (by kernel_rfl) rfl (fun hs=>?_);clear hs;have WT:decide ((r.stages.length:Int) > 32)=true:=by simpa using hst
   repeat' (first|refine sX ?_ ?_<;>intro h|refine aj (h1) rfl ?_|simp only[go_sem, *])
   rfl
  ·rw[if_neg hst]
   have WT:decide ((r.stages.length:Int) > 32)=false:=by simpa using hst
   generalize hQ:gD f all r.stages (cyc f (allT f))=Q;refine au orders Tryz.func114 rfl (by kernel_rfl) (fun d=>d==11||d==50) (by kernel_rfl) rfl (fun hs=>?_);clear hs
   repeat' (first|refine sX ?_ ?_<;>intro h|refine aj (h1) rfl ?_|refine aj (h2) rfl ?_|refine aj (h3) rfl ?_|simp only[go_sem, *])
   refine aC r.stages (fun k s'=>∃left:List Int,s'.sl 9=.t (nA left)/\InF f left/\left.length<=1048576/\gD f all (r.stages.drop k) left=Q) rfl rfl (by first|assumption|omega) (by kernel_rfl) (fun _ _ _ _ hj=>hj) (fun _ _ _ hj=>hj) ?_ (fun k x s' hx hd hk hJ hix hfr G hG=>?_) (fun s' hJ hfr=>?_)
   ·exact ⟨_,rfl,yI (uV f),by have:=oM f (allT f);rw[lK]at this;omega,hQ⟩
   ·have c2:=hfr 2 (by kernel_rfl)
    have c3:=hfr 3 (by kernel_rfl);have c27:=hfr 27 (by kernel_rfl);clear hfr;simp only[go_sem]at c2 c3 c27;obtain ⟨left,c9,hin,hll,hJ⟩:=hJ;obtain ⟨hs0,hw⟩:=hr x (List.mem_of_getElem? hx);have hfo:=acs f hf x hw (!left.isEmpty) left hin;rw[hd,gD]at hJ
    by_cases hfe:gN f x left=0
    ·have hF:=Ke hfe
     have hce:=QE f hf x hs0 hw (!left.isEmpty) left hin hF;have hwi:=LV (!left.isEmpty) left x.snn x.strict hll;have hcy:=CK f hf (!(without left x.strict).isEmpty) (without left x.strict) (nY hin) (Nat.le_trans (nZ _ _) hll);rw[if_neg (fun h=>h hfe)]at hJ;rw[hfe]at hfo;have hin2:=yI (f:=f) (nY (strict:=x.strict) hin);have WU:(cyc f (without left x.strict)).length<=1048576:=Nat.le_trans (oM _ _) (Nat.le_trans (nZ _ _) hll);clear hd hr hF h1 h2 h3;cases all with
     |true =>
      cases hpb:jm f x left with
      |true =>
       rw[hpb]at hce hJ;simp only[Bool.not_true,Bool.and_false,Bool.false_eq_true,if_false]at hJ;clear hpb
       repeat' (first|refine sX ?_ ?_<;>intro h|refine aj (hfo) rfl ?_|refine aj (hce) rfl ?_|refine aj (hwi) rfl ?_|refine aj (hcy) rfl ?_|simp only[go_sem, *])
       refine hG _ ⟨_,rfl,hin2,WU,hJ⟩
      |false =>
       rw[hpb]at hce hJ;simp only[Bool.not_false,Bool.and_true,if_true]at hJ;clear hpb;subst hJ
       repeat' (first|refine sX ?_ ?_<;>intro h|refine aj (hfo) rfl ?_|refine aj (hce) rfl ?_|refine aj (hwi) rfl ?_|refine aj (hcy) rfl ?_|simp only[go_sem, *])
       rfl
     |false =>
      simp only[Bool.false_and,Bool.false_eq_true,if_false]at hJ
      repeat' (first|refine sX ?_ ?_<;>intro h|refine aj (hfo) rfl ?_|refine aj (hwi) rfl ?_|refine aj (hcy) rfl ?_|simp only[go_sem, *])
      refine hG _ ⟨_,rfl,hin2,WU,hJ⟩
    ·rw[if_pos hfe]at hJ
     subst hJ;have g:(gN f x left != 0)=true:=by simpa using hfe
     generalize gN f x left=e at *;clear hd hr h1 h2 h3
     repeat' (first|refine sX ?_ ?_<;>intro h|refine aj (hfo) rfl ?_|simp only[go_sem, *])
     rfl
   ·obtain ⟨left,c9,hin,hll,hJ⟩:=hJ
    rw[List.drop_length,gD]at hJ;subst hJ
    repeat' (first|refine sX ?_ ?_<;>intro h|simp only[go_sem, *])
 ·rw[if_pos he]
  have hb:(aY f != 0)=true:=by simpa using he
  generalize aY f=e at *;clear hr;refine au orders Tryz.func114 rfl (by kernel_rfl) (fun d=>d==11||d==50) (by kernel_rfl) rfl (fun hs=>?_);clear hs
  repeat' (first|refine sX ?_ ?_<;>intro h|refine aj (h1) rfl ?_|simp only[go_sem, *])
  rfl
theorem zM (f:Flow) (r:bY) (hr:∀s∈r.stages,jF s/\∀row∈s.funcs,tJ row):aB Tryz.prog 45 [f.tr,r.tr] (i64 (eX f r)):=by
 have h1:=aaq f r true hr;unfold eX;generalize mV f r true=q at *;obtain ⟨l,e⟩:=q;clear hr;simp only at h1 ⊢
 by_cases he:e=0
 ·subst he
  cases l with
  |nil =>
   rw[if_neg (by simp)];refine au orders Tryz.func45 rfl (by kernel_rfl) bf (by kernel_rfl) rfl (fun hs=>?_);clear hs
   repeat' (first|refine sX ?_ ?_<;>intro h|refine aj (h1) rfl ?_|simp only[go_sem, *])
   all_goals (exfalso;simp at h)
  |cons a l =>
   rw[if_pos ⟨rfl,by simp⟩];refine au orders Tryz.func45 rfl (by kernel_rfl) bf (by kernel_rfl) rfl (fun hs=>?_);clear hs
   repeat' (first|refine sX ?_ ?_<;>intro h|refine aj (h1) rfl ?_|simp only[go_sem, *])
   all_goals (exfalso;simp at h;try omega)
 ·rw[if_neg (fun h=>he h.1)]
  have g:(e==0)=false:=by simpa using he
  refine au orders Tryz.func45 rfl (by kernel_rfl) bf (by kernel_rfl) rfl (fun hs=>?_);clear hs
  repeat' (first|refine sX ?_ ?_<;>intro h|refine aj (h1) rfl ?_|simp only[go_sem, *])
attribute [go_sem] Tryz.results115 Tryz.results116 Tryz.results56 Tryz.results46 Tryz.results51 Tryz.results50
def vM (left:List Int):Option Int->List Int->Bool
 |_,[]=>true
 |p,t::l=>hasB left t&&(match p with|none=>true|some p=>decide (p < t))&&vM left (some t) l
theorem Tn (left:List Int) (p:Option Int) (t:Int) (l:List Int):vM left p (t::l)=(hasB left t&&(match p with|none=>true|some p=>decide (p < t))&&vM left (some t) l):=by cases p<;>rfl
theorem Vy (left:List Int) (p:Option Int):vM left p []=true:=by cases p<;>rfl
theorem Je {f:Flow}{left:List Int} (hl:InF f left):∀(l:List Int) (p:Int),vM left (some p) l=(bO f.trans.length p l&&l.all (hasB left))
 |[],p=>rfl
 |t::l,p=>by
  have ih:=Je hl l t;simp only[vM,bO,List.all_cons,ih]
  by_cases hm:hasB left t=true
  ·obtain ⟨h1,h2⟩:=hl t (kI.1 hm)
   rw[hm]
   by_cases hp:p < t
   ·rw[if_neg (by omega)];simp[hp]
   ·rw[if_pos (by omega)];simp[hp]
  ·have hm:hasB left t=false:=by simpa using hm
   rw[hm];simp
theorem Tp {f:Flow}{left:List Int} (hl:InF f left) (l:List Int):vM left none l=(bO f.trans.length (-1) l&&l.all (hasB left)):=by
 cases l with
 |nil=>rfl
 |cons t l =>
  have ih:=Je hl l t;simp only[vM,bO,List.all_cons,ih]
  by_cases hm:hasB left t=true
  ·obtain ⟨h1,h2⟩:=hl t (kI.1 hm)
   rw[hm,if_neg (by omega)];simp
  ·have hm:hasB left t=false:=by simpa using hm
   rw[hm];simp
theorem QF {f:Flow}{s:bq}{left:List Int} (hl:InF f left):gN f s left =
  if ((s.funcs.length:Int) != f.dD)=true then 4 else if ((s.strict.length:Int)==0)=true then 4 else if s.funcs.all (bC f.vars)=false then 4 else if vM left none s.strict=false then 4
  else if ((s.bounds.length:Int) != s.strict.length)=true then 4 else if ((s.drops.length:Int) != left.length)=true then 4 else if left.all (fun t=>cu (dO f s.funcs t (dw s.strict t)))=true then 0 else 3:=by
 rw[Jd,Tp hl];generalize ((s.funcs.length:Int) != f.dD)=b1;generalize s.funcs.all (bC f.vars)=b2;generalize ((s.strict.length:Int)==0)=b3;generalize bO f.trans.length (-1) s.strict=b4;generalize s.strict.all (hasB left)=b5;generalize ((s.bounds.length:Int) != s.strict.length)=b6;generalize ((s.drops.length:Int) != left.length)=b7;cases b1<;>cases b2<;>cases b3<;>cases b4<;>cases b5<;>cases b6<;>cases b7<;>rfl
theorem Tq (r:Row):bC r.av.length r=cu r:=by
 simp[bC,cu]
theorem Vz (f:Flow) (hf:jk f) (s:bq) (hw:∀r∈s.funcs,tJ r) (lnn:Bool) (left:List Int) (hl:InF f left) :
  aB Tryz.prog 115 [f.tr,s.tr,.sl lnn (ints left)] (i64 (gN f s left)):=by
 rw[QF hl];obtain ⟨P,hP⟩:∃P,P=fun t=>cu (dO f s.funcs t (dw s.strict t)):=⟨_,rfl⟩
 rw[<- hP];have hPP:∀t,P t=cu (dO f s.funcs t (dw s.strict t)):=fun t=>by rw[hP]
 clear hP;refine au orders Tryz.func115 rfl (by kernel_rfl) (fun d=>d==8||d==13||d==100) (by kernel_rfl) rfl (fun hs=>?_);have hsl:left.length<=9223372036854775807/\s.strict.length<=9223372036854775807/\s.funcs.length<=9223372036854775807:=by
  simp[dJ,Tr.sized,bq.tr]at hs;omega
 obtain ⟨hsl1,hsl2,alz⟩:=hsl;clear hs
 repeat' (first|refine sX ?_ ?_<;>intro h|simp only[go_sem, *])
 try any_goals (refine congrArg some ?_;first|rfl|(simp only[go_sem,Bool.true_eq_false, *];done)|(simp only[go_sem,Bool.true_eq_false, *];rfl)|(simp_all[Bool.true_eq_false];done))
 have hlen:((s.funcs.length:Int) != f.dD)=false:=by assumption
 have hlen:(s.funcs.length:Int)=f.dD:=by simpa using hlen
 obtain ⟨n,hn⟩:∃n:Nat,f.dD=n:=⟨f.dD.toNat,by have:=hf.wG;have:=hf.wH;omega⟩
 refine aC s.funcs (fun k s'=>s.funcs.all (bC f.vars)=(s.funcs.drop k).all (bC f.vars)) rfl rfl (by first|assumption|omega) (by kernel_rfl) (fun _ _ _ _ hj=>hj) (fun _ _ _ hj=>hj) ?_ (fun k x s' hx hd hk hJ hix hfr G hG=>?_) (fun s' hJ hfr=>?_)
 ·rfl
 ·have c3:=hfr 3 (by kernel_rfl)
  have c27:=hfr 27 (by kernel_rfl);clear hfr;simp only[go_sem]at c3 c27;have hrt:=AL f.vars x;rw[hd,List.all_cons]at hJ
  repeat' (first|refine sX ?_ ?_<;>intro h|refine aj (hrt) rfl ?_|simp only[go_sem, *])
  try any_goals (refine congrArg some ?_;first|rfl|(simp only[go_sem,Bool.true_eq_false, *];done)|(simp only[go_sem,Bool.true_eq_false, *];rfl)|(simp_all[Bool.true_eq_false];done))
  try any_goals (refine hG _ ?_;simp only[go_sem,Bool.true_eq_false, *];done)
 ·have c2:=hfr 2 (by kernel_rfl)
  have c3:=hfr 3 (by kernel_rfl);have c4:=hfr 4 (by kernel_rfl);clear hfr;simp only[go_sem]at c2 c3 c4;rw[List.drop_length,List.all_nil]at hJ;have e2:=c2;have e3:=c3;have e4:=c4;have hall:=hJ;rw[hJ];rw[List.all_eq_true]at hall;clear hJ
  repeat' (first|refine sX ?_ ?_<;>intro h|simp only[go_sem, *])
  refine aC s.strict (fun k s'=>vM left none s.strict=vM left (if k=0 then none else s.strict[k-1]?) (s.strict.drop k)) rfl rfl (by first|assumption|omega) (by kernel_rfl) (fun _ _ _ _ hj=>hj) (fun _ _ _ hj=>hj) ?_ (fun k x s' hx hd hk hJ hix hfr G hG=>?_) (fun s' hJ hfr=>?_)
  ·rfl
  ·have c2:=hfr 2 (by kernel_rfl)
   have c4:=hfr 4 (by kernel_rfl);have c40:=hfr 40 (by kernel_rfl);clear hfr;simp only[go_sem]at c2 c4 c40;rw[e2]at c2;rw[e4]at c4;have hh:=GR lnn left x;rw[show left.any (fun y=>x==y)=hasB left x from rfl]at hh;rw[hd,Tn]at hJ;have hnx:(if k+1=0 then (none:Option Int) else s.strict[k+1-1]?)=some x:=by simp[hx]
   rw[hnx]at hG;clear hd hall hPP hnx hw;cases hb:hasB left x with
   |false =>
    rw[hb]at hh hJ;simp only[Bool.false_and]at hJ;clear hb
    repeat' (first|refine sX ?_ ?_<;>intro h|refine aj (hh) rfl ?_|simp only[go_sem, *])
    try (rw[hJ];rfl)
   |true =>
    rw[hb]at hh hJ;simp only[Bool.true_and]at hJ;clear hb;cases k with
    |zero =>
     simp only[if_true,Bool.true_and]at hJ;have d00:decide (((0:Nat):Int) > 0)=false:=rfl
     repeat' (first|refine sX ?_ ?_<;>intro h|refine aj (hh) rfl ?_|simp only[go_sem, *])
     try exact hG _ hJ
    |succ m =>
     obtain ⟨p,hp,_⟩:=aF s.strict m (by omega);have hwk:IntKind.i64.wrap (((m+1:Nat):Int)-1)=m:=by rw[show ((m+1:Nat):Int)-1=m by omega];exact wrap_i64 (by omega) (by omega)
     have d0:decide (((m+1:Nat):Int) > 0)=true:=decide_eq_true (by omega);rw[if_neg (by omega),show m+1-1=m from rfl,hp]at hJ;simp only at hJ
     by_cases hlt:p < x
     ·have h1:decide (p>=x)=false:=by simpa using hlt
      rw[decide_eq_true hlt,Bool.true_and]at hJ;clear hlt
      repeat' (first|refine sX ?_ ?_<;>intro h|refine aj (hh) rfl ?_|simp only[go_sem, *])
      try exact hG _ hJ
     ·have h1:decide (p>=x)=true:=by simpa using Int.not_lt.1 hlt
      rw[decide_eq_false hlt,Bool.false_and]at hJ;clear hlt
      repeat' (first|refine sX ?_ ?_<;>intro h|refine aj (hh) rfl ?_|simp only[go_sem, *])
      try (rw[hJ];rfl)
  ·have c2:=hfr 2 (by kernel_rfl)
   have c3:=hfr 3 (by kernel_rfl);have c4:=hfr 4 (by kernel_rfl);clear hfr;simp only[go_sem]at c2 c3 c4;rw[e2]at c2;rw[e3]at c3;rw[e4]at c4;rw[List.drop_length,Vy]at hJ;rw[hJ];clear hJ e2 e3 e4;have e2:=c2;have e3:=c3;have e4:=c4
   repeat' (first|refine sX ?_ ?_<;>intro h|simp only[go_sem, *])
   try any_goals (refine congrArg some ?_;first|rfl|(simp only[go_sem,Bool.true_eq_false, *];done)|(simp only[go_sem,Bool.true_eq_false, *];rfl)|(simp_all[Bool.true_eq_false];done))
   refine aC left (fun k s'=>left.all P=(left.drop k).all P) rfl rfl (by first|assumption|omega) (by kernel_rfl) (fun _ _ _ _ hj=>hj) (fun _ _ _ hj=>hj) ?_ (fun k x s' hx hd hk hJ hix hfr G hG=>?_) (fun s' hJ hfr=>?_)
   ·rfl
   ·have c3:=hfr 3 (by kernel_rfl)
    have c4:=hfr 4 (by kernel_rfl);have c81:=hfr 81 (by kernel_rfl);clear hfr;simp only[go_sem]at c3 c4 c81;rw[e3]at c3;rw[e4]at c4;obtain ⟨j,y,rfl,hy⟩:=hl.get (List.mem_of_getElem? hx);obtain ⟨u,v,hu,hun,hv,hvn⟩:=hf.tr hn hy;obtain ⟨a,ha,_⟩:=aF s.funcs u (by omega);obtain ⟨b,hb,_⟩:=aF s.funcs v (by omega);have hdo:=vK hf hy hall hw ha hb (dw s.strict j) (CP _ _);have hdr:=L6 f y s.fnn s.funcs (dw s.strict j) a b u v hu hv ha hb hdo;have hPj:P (j:Int)=cu (dB true y.next a b (dw s.strict j)):=by
     rw[hPP];simp only[vL hy hu hv ha hb]
    have hby:=Tf s.snn s.strict (j:Int);generalize dB true y.next a b (dw s.strict j)=R at hdr hPj;generalize dw s.strict (j:Int)=bj at hdr hby;have hrt:=AL R.av.length R;rw[Tq]at hrt;rw[hd,List.all_cons,hPj]at hJ;generalize cu R=q at hrt hJ;obtain ⟨yf,yt,ygn,yg,ynn,yn⟩:=y;simp only at hu hv;subst hu;subst hv
    clear hPP hPj hdo hw hall hl hlen hd hn
    repeat' (first|refine sX ?_ ?_<;>intro h|refine aj (hby) rfl ?_|refine aj (hdr) rfl ?_|refine aj (hrt) rfl ?_|simp only[go_sem, *])
    try any_goals (refine congrArg some ?_;first|rfl|(simp only[go_sem,Bool.true_eq_false, *];done)|(simp only[go_sem,Bool.true_eq_false, *];rfl)|(simp_all[Bool.true_eq_false];done))
    try any_goals (refine hG _ ?_;simp only[go_sem,Bool.true_eq_false, *];done)
   ·clear hPP hall hw
    rw[List.drop_length,List.all_nil]at hJ
    repeat' (first|refine sX ?_ ?_<;>intro h|simp only[go_sem, *])
theorem QG (f:Flow) (hf:jk f) (s:bq) (hs0:jF s) (hw:∀r∈s.funcs,tJ r) (lnn:Bool) (left:List Int) (hl:InF f left) (hF:CJ f s left) :
  aB Tryz.prog 116 [f.tr,s.tr,.sl lnn (ints left)] (.bool (jm f s left)):=by
 unfold jm;obtain ⟨D,hD⟩:∃D,iw f s left s.drops=D:=⟨_,rfl⟩
 rw[hD];have hbl:=hF.bl;have hdl:=hF.dl;have hv1:=hf.KU;have hv2:=hf.qB;refine au orders Tryz.func116 rfl (by kernel_rfl) (fun d=>d==9||d==12||d==29||d==33||d==63) (by kernel_rfl) rfl (fun hs=>?_);have hsl:left.length<=9223372036854775807/\s.strict.length<=9223372036854775807:=by
  simp[dJ,Tr.sized,bq.tr]at hs;omega
 obtain ⟨hsl1,hsl2⟩:=hsl;clear hs
 repeat' (first|refine sX ?_ ?_<;>intro h|simp only[go_sem, *])
 obtain ⟨n,hn⟩:∃n:Nat,f.dD=n:=⟨f.dD.toNat,by have:=hf.wG;have:=hf.wH;omega⟩
 have hfl:s.funcs.length=n:=by have:=hF.dD;omega
 refine aC s.strict (fun k s'=>(fK f s s.strict s.bounds&&D)=(fK f s (s.strict.drop k) (s.bounds.drop k)&&D)) rfl rfl (by first|assumption|omega) (by kernel_rfl) (fun _ _ _ _ hj=>hj) (fun _ _ _ hj=>hj) ?_ (fun k x s' hx hd hk hJ hix hfr G hG=>?_) (fun s' hJ hfr=>?_)
 ·rfl
 ·have c3:=hfr 3 (by kernel_rfl)
  have c4:=hfr 4 (by kernel_rfl);have c15:=hfr 15 (by kernel_rfl);clear hfr;simp only[go_sem]at c3 c4 c15;obtain ⟨j,y,rfl,hy⟩:=hl.get (hF.sub _ (List.mem_of_getElem? hx));obtain ⟨u,v,hu,hun,hv,hvn⟩:=hf.tr hn hy;obtain ⟨a,ha,_⟩:=aF s.funcs u (by omega);obtain ⟨c,hc1,hc2⟩:=aF s.bounds k (by omega);have hyl:=(hf.all y (List.mem_of_getElem? hy)).guard;have hp:=Ma f.vars y.gnn y.guard a c (by omega) (hs0.b c (List.mem_of_getElem? hc1));rw[hd,hc2,fK,fu hy,Er hu ha]at hJ;generalize bV f.vars y.guard a c=q at hp hJ;obtain ⟨yf,yt,ygn,yg,ynn,yn⟩:=y;simp only at hu hv;subst hu;subst hv
  clear hD hw hl hF hd hyl hc2;cases q with
  |true =>
   repeat' (first|refine sX ?_ ?_<;>intro h|refine aj (hp) rfl ?_|simp only[go_sem, *])
   try exact hG _ hJ
  |false =>
   repeat' (first|refine sX ?_ ?_<;>intro h|refine aj (hp) rfl ?_|simp only[go_sem, *])
   try (rw[hJ];rfl)
 ·have c2:=hfr 2 (by kernel_rfl)
  have c3:=hfr 3 (by kernel_rfl);have c4:=hfr 4 (by kernel_rfl);clear hfr;simp only[go_sem]at c2 c3 c4;rw[List.drop_length,oO,Bool.true_and]at hJ;have e3:=c3;have e4:=c4;rw[hJ];clear hJ
  repeat' (first|refine sX ?_ ?_<;>intro h|simp only[go_sem, *])
  refine aC left (fun k s'=>D=iw f s (left.drop k) (s.drops.drop k)) rfl rfl (by first|assumption|omega) (by kernel_rfl) (fun _ _ _ _ hj=>hj) (fun _ _ _ hj=>hj) ?_ (fun k x s' hx hd hk hJ hix hfr G hG=>?_) (fun s' hJ hfr=>?_)
  ·exact hD.symm
  ·have c3:=hfr 3 (by kernel_rfl)
   have c4:=hfr 4 (by kernel_rfl);have c45:=hfr 45 (by kernel_rfl);clear hfr;simp only[go_sem]at c3 c4 c45;rw[e3]at c3;rw[e4]at c4;obtain ⟨j,y,rfl,hy⟩:=hl.get (List.mem_of_getElem? hx);obtain ⟨u,v,hu,hun,hv,hvn⟩:=hf.tr hn hy;obtain ⟨a,ha,_⟩:=aF s.funcs u (by omega);obtain ⟨b,hb,_⟩:=aF s.funcs v (by omega);obtain ⟨c,hc1,hc2⟩:=aF s.drops k (by omega);have hT:=hf.all y (List.mem_of_getElem? hy);have hyl:=hT.guard;have hnx:=hT.next;have hdo:=vK hf hy (fun r hr=>hF.right r hr) hw ha hb (dw s.strict j) (CP _ _);have hdr:=L6 f y s.fnn s.funcs (dw s.strict j) a b u v hu hv ha hb hdo;have hby:=Tf s.snn s.strict (j:Int);have hfr:=acj y (by omega);have hak:aG y.next<=8:=Nat.le_trans (List.length_filter_le _ _) (by omega);have hwi:=acn y.gnn y.guard (aG y.next) (by omega) (fun r hr=>by have:=iU (hT.right r hr);omega) (by omega);have hp:=Ma (f.vars+aG y.next) (!y.guard.isEmpty) (y.guard.map (wide (aG y.next))) (dB true y.next a b (dw s.strict j)) c (by rw[List.length_map];omega) (hs0.d c (List.mem_of_getElem? hc1));have hwr:IntKind.i64.wrap (f.vars+(aG y.next:Int))=f.vars+(aG y.next:Int):=wrap_i64 (by omega) (by omega);rw[hd,hc2,iw,fu hy,vL hy hu hv ha hb]at hJ;generalize bV (f.vars+aG y.next) (y.guard.map (wide (aG y.next))) (dB true y.next a b (dw s.strict j)) c=q at hp hJ;generalize dB true y.next a b (dw s.strict j)=R at hdr hp;generalize y.guard.map (wide (aG y.next))=GG at hwi hp;generalize dw s.strict (j:Int)=bj at hdr hby;obtain ⟨yf,yt,ygn,yg,ynn,yn⟩:=y;simp only at hu hv;subst hu;subst hv
   clear hD hw hl hF hd hyl hc2 hT hdo hnx hn;cases q with
   |true =>
    repeat' (first|refine sX ?_ ?_<;>intro h|refine aj (hfr) rfl ?_|refine aj (hwi) rfl ?_|refine aj (hby) rfl ?_|refine aj (hdr) rfl ?_|refine aj (hp) rfl ?_|simp only[go_sem, *])
    try exact hG _ hJ
   |false =>
    repeat' (first|refine sX ?_ ?_<;>intro h|refine aj (hfr) rfl ?_|refine aj (hwi) rfl ?_|refine aj (hby) rfl ?_|refine aj (hdr) rfl ?_|refine aj (hp) rfl ?_|simp only[go_sem, *])
    try (rw[hJ];rfl)
  ·rw[List.drop_length,qP]at hJ
   subst hJ;clear hD
   repeat' (first|refine sX ?_ ?_<;>intro h|simp only[go_sem, *])
theorem Bv (f:Flow):∀(l:List bq) (left:List Int),InF f left->InF f (pI f l left)
 |[],_,h=>h
 |s::l,left,h=>Bv f l _ (yI (nY h))
theorem Mc (f:Flow):∀(l:List bq) (left:List Int),(pI f l left).length<=left.length
 |[],_=>Nat.le_refl _
 |s::l,left=>Nat.le_trans (Mc f l _) (Nat.le_trans (oM _ _) (nZ _ _))
theorem Nu {f:Flow} (hf:jk f) (l:List bq):InF f (remaining f l)/\(remaining f l).length<=32:=by
 refine ⟨Bv f l _ (yI (uV f)),?_⟩;have h1:=Mc f l (cyc f (allT f));have h2:=oM f (allT f);rw[lK]at h2;have:=hf.len;unfold remaining;omega
theorem tY (f:Flow) (hf:jk f) (r:bY) (n:Nat) (hn:n<=r.stages.length) :
  aB Tryz.prog 56 [f.tr,r.tr,i64 n] (nA (remaining f (r.stages.take n))):=by
 have hlen:=hf.len;have h2:=X5 f (by omega);have h3:=Oy f hf (!(allT f).isEmpty) (allT f) (uV f) (by rw[lK];omega);unfold remaining;generalize hQ:pI f (r.stages.take n) (cyc f (allT f))=Q;have hTl:(r.stages.take n).length=n:=by rw[List.length_take];omega
 refine au orders Tryz.func56 rfl (by kernel_rfl) (fun d=>d==9||d==25||d==25) (by kernel_rfl) rfl (fun hs=>?_);have hsl:r.stages.length<=9223372036854775807:=by simp[dJ,Tr.sized,bY.tr]at hs;omega
 clear hs
 repeat' (first|refine sX ?_ ?_<;>intro h|refine aj (h2) rfl ?_|refine aj (h3) rfl ?_|simp only[go_sem, *])
 rw[bJ _ 4 (fun x hx=>by obtain ⟨y,_,rfl⟩:=List.mem_map.1 hx;rfl),List.length_map,<- List.map_take];refine dS ⟨rfl,by omega⟩ ?_;clear h2 h3;generalize r.stages.take n=L at *;have hLl:L.length<=9223372036854775807:=by omega
 subst hTl
 repeat' (first|refine sX ?_ ?_<;>intro h|simp only[go_sem, *])
 refine aC L (fun k s'=>∃left:List Int,s'.sl 7=.t (nA left)/\InF f left/\left.length<=1048576/\pI f (L.drop k) left=Q) rfl rfl (by first|assumption|omega) (by kernel_rfl) (fun _ _ _ _ hj=>hj) (fun _ _ _ hj=>hj) ?_ (fun k x s' hx hd hk hJ hix hfr G hG=>?_) (fun s' hJ hfr=>?_)
 ·exact ⟨_,rfl,yI (uV f),by have:=oM f (allT f);rw[lK]at this;omega,hQ⟩
 ·have c3:=hfr 3 (by kernel_rfl)
  have c17:=hfr 17 (by kernel_rfl);clear hfr;simp only[go_sem]at c3 c17;obtain ⟨left,c7,hin,hll,hJ⟩:=hJ;have hwi:=Ns (!left.isEmpty) left x.snn x.strict hll;have hcy:=Oy f hf (!(without left x.strict).isEmpty) (without left x.strict) (nY hin) (Nat.le_trans (nZ _ _) hll);have hin2:=yI (f:=f) (nY (strict:=x.strict) hin);have WU:(cyc f (without left x.strict)).length<=1048576:=Nat.le_trans (oM _ _) (Nat.le_trans (nZ _ _) hll);rw[hd,pI]at hJ;clear hd hQ
  repeat' (first|refine sX ?_ ?_<;>intro h|refine aj (hwi) rfl ?_|refine aj (hcy) rfl ?_|simp only[go_sem, *])
  refine hG _ ⟨_,rfl,hin2,WU,hJ⟩
 ·obtain ⟨left,c7,hin,hll,hJ⟩:=hJ
  rw[List.drop_length,pI]at hJ;subst hJ
  repeat' (first|refine sX ?_ ?_<;>intro h|simp only[go_sem, *])
noncomputable def wS (f:Flow) (r:bY) (all:Bool):Int:=if all then eX f r else (mV f r false).2
theorem JY {f:Flow}{l:List bq}{k:Nat}{x:bq} (hx:l[k]?=some x):remaining f (l.take (k+1))=cyc f (without (remaining f (l.take k)) x.strict):=by
 unfold remaining;have:l.take (k+1)=l.take k++[x]:=by rw[List.take_add_one,hx];rfl
 rw[this,xE];rfl
theorem JZ (f:Flow) (r:bY) (all:Bool) (hr:∀s∈r.stages,jF s/\∀row∈s.funcs,tJ row) :
  aB Tryz.prog 46 [f.tr,r.tr,.bool all] (i64 (wS f r all)):=by
 have h1:=JX f
 by_cases he:aY f=0
 ·have hf:=D6 he
  have hlen:=hf.len;rw[he]at h1
  by_cases hst:(r.stages.length:Int) > 32
  ·have hR:wS f r all=3:=by
    unfold wS eX mV;simp only[he,ne_eq,not_true_eq_false,if_false,hst,if_true];cases all<;>simp
   rw[hR];clear hr hR;refine au orders Tryz.func46 rfl (by kernel_rfl) (fun d=>d==9) (by kernel_rfl) rfl (fun hs=>?_);clear hs;have WT:decide ((r.stages.length:Int) > 32)=true:=by simpa using hst
   repeat' (first|refine sX ?_ ?_<;>intro h|refine aj (h1) rfl ?_|simp only[go_sem, *])
  ·have WT:decide ((r.stages.length:Int) > 32)=false:=by simpa using hst
   obtain ⟨Q,hQ⟩:∃Q,gD f all r.stages (remaining f [])=Q:=⟨_,rfl⟩
   have hR:wS f r all=if Q.2=0 then (if all=true then (if Q.1=[] then 0 else 11) else 0) else Q.2:=by
    have e:∀b,mV f r b=gD f b r.stages (remaining f []):=fun b=>by
     unfold mV;rw[if_neg (fun h=>h he),if_neg hst];rfl
    unfold wS eX;rw[e,e];cases all with
    |true =>
     rw[hQ];simp only[if_true]
     by_cases h0:Q.2=0
     ·by_cases h1:Q.1=[]
      ·simp[h0,h1]
      ·simp[h0,h1]
     ·simp[h0]
    |false =>
     rw[hQ];simp only[Bool.false_eq_true,if_false];split
     ·rename_i h0;exact h0
     ·rfl
   rw[hR];clear hR;have hQ1:Q.2=0->Q.1=remaining f r.stages:=fun h0=>by
    have:=Br (f:=f) (all:=all) (l:=r.stages) (left:=remaining f []) (by rw[hQ];exact h0);rw[hQ]at this;exact this
   refine au orders Tryz.func46 rfl (by kernel_rfl) (fun d=>d==9) (by kernel_rfl) rfl (fun hs=>?_);clear hs
   repeat' (first|refine sX ?_ ?_<;>intro h|refine aj (h1) rfl ?_|simp only[go_sem, *])
   refine aC r.stages (fun k s'=>gD f all (r.stages.drop k) (remaining f (r.stages.take k))=Q) rfl rfl (by first|assumption|omega) (by kernel_rfl) (fun _ _ _ _ hj=>hj) (fun _ _ _ hj=>hj) ?_ (fun k x s' hx hd hk hJ hix hfr G hG=>?_) (fun s' hJ hfr=>?_)
   ·exact hQ
   ·have c2:=hfr 2 (by kernel_rfl)
    have c3:=hfr 3 (by kernel_rfl);have c4:=hfr 4 (by kernel_rfl);have c22:=hfr 22 (by kernel_rfl);clear hfr;simp only[go_sem]at c2 c3 c4 c22;obtain ⟨hs0,hw⟩:=hr x (List.mem_of_getElem? hx);obtain ⟨hin,hll⟩:=Nu hf (r.stages.take k);have hrm:=tY f hf r k (by omega);have hsu:=JY (f:=f) hx;generalize remaining f (r.stages.take k)=left at *;have hfo:=Vz f hf x hw (!left.isEmpty) left hin;rw[hd,gD]at hJ
    by_cases hfe:gN f x left=0
    ·have hF:=Ke hfe
     have hce:=QG f hf x hs0 hw (!left.isEmpty) left hin hF;rw[if_neg (fun h=>h hfe)]at hJ;rw[hfe]at hfo;rw[<- hsu]at hJ;clear hd hr hF hsu hQ1 hQ;cases all with
     |true =>
      cases hpb:jm f x left with
      |true =>
       rw[hpb]at hce hJ;simp only[Bool.not_true,Bool.and_false,Bool.false_eq_true,if_false]at hJ;clear hpb
       repeat' (first|refine sX ?_ ?_<;>intro h|refine aj (hrm) rfl ?_|refine aj (hfo) rfl ?_|refine aj (hce) rfl ?_|simp only[go_sem, *])
       try exact hG _ hJ
      |false =>
       rw[hpb]at hce hJ;simp only[Bool.not_false,Bool.and_true,if_true]at hJ;clear hpb;subst hJ
       repeat' (first|refine sX ?_ ?_<;>intro h|refine aj (hrm) rfl ?_|refine aj (hfo) rfl ?_|refine aj (hce) rfl ?_|simp only[go_sem, *])
       try rfl
     |false =>
      simp only[Bool.false_and,Bool.false_eq_true,if_false]at hJ
      repeat' (first|refine sX ?_ ?_<;>intro h|refine aj (hrm) rfl ?_|refine aj (hfo) rfl ?_|simp only[go_sem, *])
      try exact hG _ hJ
    ·rw[if_pos hfe]at hJ
     subst hJ;have g:(gN f x left != 0)=true:=by simpa using hfe
     simp only;rw[if_neg hfe];generalize gN f x left=e at *;clear hd hr hsu hQ1 hQ
     repeat' (first|refine sX ?_ ?_<;>intro h|refine aj (hrm) rfl ?_|refine aj (hfo) rfl ?_|simp only[go_sem, *])
   ·have c2:=hfr 2 (by kernel_rfl)
    have c3:=hfr 3 (by kernel_rfl);have c4:=hfr 4 (by kernel_rfl);clear hfr;simp only[go_sem]at c2 c3 c4;rw[List.drop_length,gD,List.take_length]at hJ;have hrm:=tY f hf r r.stages.length (Nat.le_refl _);rw[List.take_length]at hrm;subst hJ;simp only[if_true];clear hr hQ hQ1;generalize remaining f r.stages=left at *;cases all with
    |true =>
     simp only[if_true];cases left with
     |nil =>
      rw[if_pos rfl];have g:decide (((0:Nat):Int) > 0)=false:=rfl
      repeat' (first|refine sX ?_ ?_<;>intro h|refine aj (hrm) rfl ?_|simp only[go_sem, *])
     |cons a l =>
      rw[if_neg (by simp)]
      repeat' (first|refine sX ?_ ?_<;>intro h|refine aj (hrm) rfl ?_|simp only[go_sem, *])
      all_goals (exfalso;simp at h;try omega)
    |false =>
     simp only[Bool.false_eq_true,if_false]
     repeat' (first|refine sX ?_ ?_<;>intro h|refine aj (hrm) rfl ?_|simp only[go_sem, *])
 ·have hR:wS f r all=aY f:=by
   unfold wS eX mV;rw[if_pos he,if_pos he];cases all<;>simp[he]
  rw[hR];have hb:(aY f != 0)=true:=by simpa using he
  generalize aY f=e at *;clear hr;refine au orders Tryz.func46 rfl (by kernel_rfl) (fun d=>d==9) (by kernel_rfl) rfl (fun hs=>?_);clear hs
  repeat' (first|refine sX ?_ ?_<;>intro h|refine aj (h1) rfl ?_|simp only[go_sem, *])
end ama
end Go.Vm
end
section
namespace Go.Vm
open Go Go.Proofs
namespace ama
open Go.Proofs.Tryz
attribute [go_sem] Tryz.results48 Tryz.results49 Tryz.results51 Tryz.results50 Tryz.results117 Tryz.results118 Tryz.results47 Tryz.results52 Tryz.results55 Tryz.results8 Tryz.results13 Tryz.results9 Tryz.results10 Tryz.results11 Tryz.results15 Tryz.results12 Tryz.results16
def Es (r:bY) (s:State):List Int:=r.stages.map fun x=>iG (rowAt x.funcs s.loc) s.vals
noncomputable def xH (f:Flow) (r:bY) (s:State):Int:=if eX f r≠0 then eX f r else gM f s
theorem VA {f:Flow}{r:bY}{s:State} (h1:eX f r=0) (h2:gM f s=0):∃n:Nat,s.loc=n/\∀x∈r.stages,∃row:Row,x.funcs[n]?=some row/\rowAt x.funcs s.loc=row/\row.av.length=s.vals.length:=by
 have hR:=CQ h1;have hg:=good h2;have g1:=hg.KV;have g2:=hg.KW;refine ⟨s.loc.toNat,by omega,fun x hx=>?_⟩;obtain ⟨i,hi,rfl⟩:=List.mem_iff_getElem.1 hx;obtain ⟨hF,_⟩:=hR.stage (List.getElem?_eq_getElem hi);have hl:=hF.dD;obtain ⟨row,hrow,_⟩:=aF r.stages[i].funcs s.loc.toNat (by omega);have hrt:=iU (hF.right row (List.mem_of_getElem? hrow));have hv:=hg.vals;refine ⟨row,hrow,?_,by omega⟩;unfold rowAt;rw[List.getD_eq_getElem?_getD,hrow];rfl
theorem VB (f:Flow) (r:bY) (s:State) (hr:∀s∈r.stages,jF s/\∀row∈s.funcs,tJ row):aB Tryz.prog 48 [f.tr,r.tr,s.tr] (.tup [if xH f r s=0 then nA (Es r s) else .sl false [],i64 (xH f r s)]):=by
 have h1:=zM f r hr;have h2:=IK f s;unfold xH
 by_cases e1:eX f r=0
 ·by_cases e2:gM f s=0
  ·obtain ⟨n,hn,hrow⟩:=VA e1 e2
   have hst:=(CQ e1).stages;simp only[e1,e2,ne_eq,not_true_eq_false,if_false,if_true]at h1 h2 ⊢;clear e1 e2 hr;obtain ⟨loc,vnn,vals⟩:=s;simp only at hn;subst hn;refine au orders Tryz.func48 rfl (by kernel_rfl) (fun d=>d==12||d==33||d==43) (by kernel_rfl) rfl (fun hs=>?_);clear hs
   repeat' (first|refine sX ?_ ?_<;>intro h|refine aj (h1) rfl ?_|refine aj (h2) rfl ?_|simp only[go_sem, *])
   refine aC r.stages (fun k s'=>∃acc:List Int,Own s'.hp 43 fU 1 false (s'.sl 10) (!acc.isEmpty) (ints acc)/\acc.length=k/\acc=(r.stages.take k).map fun x=>iG (rowAt x.funcs (n:Int)) vals) rfl rfl (by first|assumption|omega) (by kernel_rfl) (fun _ _ _ _ hj=>hj) (fun _ _ _ hj=>hj) ?_ (fun k x s' hx hd hk hJ hix hfr G hG=>?_) (fun s' hJ hfr=>?_)
   ·exact ⟨[],Own.nil,rfl,rfl⟩
   ·have c5:=hfr 5 (by kernel_rfl)
    have c26:=hfr 26 (by kernel_rfl);have c27:=hfr 27 (by kernel_rfl);clear hfr;simp only[go_sem]at c5 c26 c27;obtain ⟨acc,hown,hal,hac⟩:=hJ;obtain ⟨row,w1,w2,w3⟩:=hrow x (List.mem_of_getElem? hx);have wv:=KS row vnn vals (by simp only at w3;omega);have w1':(x.funcs.map Row.tr)[n]?=some row.tr:=by rw[List.getElem?_map,w1];rfl
    have hnx:acc++[iG row vals]=(r.stages.take (k+1)).map fun x=>iG (rowAt x.funcs (n:Int)) vals:=by
     simp only at w2;rw[List.take_add_one,hx,List.map_append,hac];simp[w2]
    clear hrow h1 h2 hac w2 w3;generalize iG row vals=z at *
    repeat' (first|refine sX ?_ ?_<;>intro h|refine aj (wv) rfl ?_|simp only[go_sem, *])
    refine cB (hown.frame (by simp only[go_sem])) rfl (by kernel_rfl) (by kernel_rfl) (by kernel_rfl) (by kernel_rfl) rfl (by kernel_rfl) (ok_int _ _) (by rw[List.length_map,List.length_singleton];omega) (fun v' h' ho hf=>?_)
    repeat' (first|refine sX ?_ ?_<;>intro h|simp only[go_sem, *])
    exact hG _ ⟨acc++[z],ho.snoc,by rw[List.length_append,hal];rfl,hnx⟩
   ·obtain ⟨acc,hown,hal,hac⟩:=hJ
    rw[List.take_length]at hac;have e:Es r ⟨(n:Int),vnn,vals⟩=acc:=hac.symm;rw[e];have ht:=hown.dep;clear hrow hac e h1 h2
    repeat' (first|refine sX ?_ ?_<;>intro h|simp only[go_sem, *])
  ·have g:(gM f s != 0)=true:=by simpa using e2
   simp only[e1,ne_eq,not_true_eq_false,if_false,if_neg e2]at h1 ⊢;generalize gM f s=e at *;clear e1 hr;refine au orders Tryz.func48 rfl (by kernel_rfl) (fun d=>d==12||d==33) (by kernel_rfl) rfl (fun hs=>?_);clear hs
   repeat' (first|refine sX ?_ ?_<;>intro h|refine aj (h1) rfl ?_|refine aj (h2) rfl ?_|simp only[go_sem, *])
 ·have g:(eX f r != 0)=true:=by simpa using e1
  simp only[ne_eq,e1,not_false_eq_true,if_true,if_false];generalize eX f r=e at *;clear hr h2;refine au orders Tryz.func48 rfl (by kernel_rfl) (fun d=>d==12||d==33) (by kernel_rfl) rfl (fun hs=>?_);clear hs
  repeat' (first|refine sX ?_ ?_<;>intro h|refine aj (h1) rfl ?_|simp only[go_sem, *])
def cd:Flow:=⟨1,1,0,true,[⟨0,0,true,[⟨true,[1],-1⟩],true,[⟨false,⟨true,[1],-1⟩⟩]⟩]⟩
def rk:bY:=⟨true,[⟨true,[⟨true,[1],0⟩],true,[0],true,[⟨1,true,[1]⟩],true,[⟨1,true,[0]⟩]⟩]⟩
theorem Md:aB Tryz.prog 117 [] cd.tr:=by
 refine au orders Tryz.func117 rfl (by kernel_rfl) (fun d=>d==0) (by kernel_rfl) rfl (fun hs=>?_);clear hs
 repeat' (first|refine sX ?_ ?_<;>intro h|simp only[go_sem, *])
 rfl
theorem VD:aB Tryz.prog 118 [] rk.tr:=by
 refine au orders Tryz.func118 rfl (by kernel_rfl) (fun d=>d==0) (by kernel_rfl) rfl (fun hs=>?_);clear hs
 repeat' (first|refine sX ?_ ?_<;>intro h|simp only[go_sem, *])
 rfl
theorem acu:cyc cd [0]=[0]:=by
 have h:qD cd [0] 0=true:=by
  unfold qD;exact nD.2 .refl
 unfold cyc;rw[List.filter_cons,if_pos h];rfl
theorem Me:eX cd rk=0:=by
 have h0:allT cd=[0]:=by decide +kernel
 have h1:aY cd=0:=by decide +kernel
 have h2:gD cd true rk.stages [0]=([],0):=by
  have f1:gN cd ⟨true,[⟨true,[1],0⟩],true,[0],true,[⟨1,true,[1]⟩],true,[⟨1,true,[0]⟩]⟩ [0]=0:=by decide +kernel
  have f2:jm cd ⟨true,[⟨true,[1],0⟩],true,[0],true,[⟨1,true,[1]⟩],true,[⟨1,true,[0]⟩]⟩ [0]=true:=by decide +kernel
  have f3:without [0] [0]=[]:=by decide +kernel
  unfold rk;simp only[gD,f1,f2,f3];simp[cyc]
 have h3:mV cd rk true=([],0):=by
  unfold mV;rw[h0,acu,h1,h2];rfl
 unfold eX;rw[h3];simp
def VE (r:bY):bq:=r.stages.headD ⟨false,[],false,[],false,[],false,[]⟩
noncomputable def Tt (f:Flow) (r:bY) (s:State):Int:=if xH f r s≠0 then xH f r s else if r.stages.length≠1\/(VE r).strict.length≠f.trans.length then 12 else 0
def adK (w:Int):Int:=if w < 0 then 0 else w
def aar (r:bY) (s:State):Int:=adK (IntKind.i64.wrap (iG (rowAt (VE r).funcs s.loc) s.vals+1))
theorem Ya (f:Flow) (r:bY) (s:State) (hr:∀s∈r.stages,jF s/\∀row∈s.funcs,tJ row):aB Tryz.prog 49 [f.tr,r.tr,s.tr] (.tup [i64 (if Tt f r s=0 then aar r s else 0),i64 (Tt f r s)]):=by
 have h1:=VB f r s hr;clear hr;unfold Tt
 by_cases e1:xH f r s=0
 ·rw[e1]at h1
  simp only[e1,ne_eq,not_true_eq_false,if_false,if_true]at h1 ⊢;clear e1;obtain ⟨nn,st⟩:=r
  match st with
  |[] =>
   have hl:Es ⟨nn,[]⟩ s=[]:=rfl;rw[hl]at h1;simp only[List.length_nil,Nat.zero_ne_one,not_false_eq_true,true_or,if_true,show ¬(12:Int)=0 by decide,if_false];clear hl;have hq:(((0:Nat):Int) != 1)=true:=rfl;refine au orders Tryz.func49 rfl (by kernel_rfl) bf (by kernel_rfl) rfl (fun hs=>?_);clear hs
   repeat' (first|refine sX ?_ ?_<;>intro h|refine aj (h1) rfl ?_|simp only[go_sem, *])
  |x::y::l =>
   have hl:(Es ⟨nn,x::y::l⟩ s).length=l.length+2:=by simp[Es]
   simp only[List.length_cons,show ¬(l.length+1+1=1) by omega,not_false_eq_true,true_or,if_true,show ¬(12:Int)=0 by decide,if_false];have hne:(((l.length+2:Nat):Int) != 1)=true:=by simp;omega
   generalize Es ⟨nn,x::y::l⟩ s=ml at *;refine au orders Tryz.func49 rfl (by kernel_rfl) bf (by kernel_rfl) rfl (fun hs=>?_);clear hs
   repeat' (first|refine sX ?_ ?_<;>intro h|refine aj (h1) rfl ?_|simp only[go_sem, *])
  |[x] =>
   have hl:Es ⟨nn,[x]⟩ s=[iG (rowAt x.funcs s.loc) s.vals]:=rfl;rw[hl]at h1;have hv:aar ⟨nn,[x]⟩ s=adK (IntKind.i64.wrap (iG (rowAt x.funcs s.loc) s.vals+1)):=rfl;rw[hv];have hh:VE ⟨nn,[x]⟩=x:=rfl;rw[hh];clear hl hv hh;generalize iG (rowAt x.funcs s.loc) s.vals=v at *;have hq1:(((1:Nat):Int) != 1)=false:=rfl
   by_cases hst:x.strict.length=f.trans.length
   ·have hq:((x.strict.length:Int) != (f.trans.length:Int))=false:=by simp[hst]
    simp only[List.length_singleton,not_true_eq_false,hst,or_self,if_false,if_true];clear hst;refine au orders Tryz.func49 rfl (by kernel_rfl) bf (by kernel_rfl) rfl (fun hs=>?_);clear hs
    repeat' (first|refine sX ?_ ?_<;>intro h|refine aj (h1) rfl ?_|simp only[go_sem, *])
    rfl
   ·have hq:((x.strict.length:Int) != (f.trans.length:Int))=true:=by simpa using fun e=>hst (by omega)
    simp only[List.length_singleton,not_true_eq_false,hst,not_false_eq_true,or_true,if_true,show ¬(12:Int)=0 by decide,if_false];clear hst;refine au orders Tryz.func49 rfl (by kernel_rfl) bf (by kernel_rfl) rfl (fun hs=>?_);clear hs
    repeat' (first|refine sX ?_ ?_<;>intro h|refine aj (h1) rfl ?_|simp only[go_sem, *])
 ·have g:(xH f r s != 0)=true:=by simpa using e1
  simp only[ne_eq,e1,not_false_eq_true,if_true,if_false]at h1 ⊢;generalize xH f r s=e at *;clear e1;refine au orders Tryz.func49 rfl (by kernel_rfl) bf (by kernel_rfl) rfl (fun hs=>?_);clear hs
  repeat' (first|refine sX ?_ ?_<;>intro h|refine aj (h1) rfl ?_|simp only[go_sem, *])
end ama
end Go.Vm
end
section
namespace Go.bB
abbrev Col:=Nat->Rat
def d2 (a b:Col) (r s:Nat):Rat:=a r*b s-a s*b r
def d3 (a b c:Col) (r s t:Nat):Rat:=a r*d2 b c s t-a s*d2 b c r t+a t*d2 b c r s
def d4 (a b c d:Col) (r s t u:Nat):Rat:=a r*d3 b c d s t u-a s*d3 b c d r t u+a t*d3 b c d r s u-a u*d3 b c d r s t
def d5 (a b c d e:Col):Rat:=a 0*d4 b c d e 1 2 3 4-a 1*d4 b c d e 0 2 3 4+a 2*d4 b c d e 0 1 3 4-a 3*d4 b c d e 0 1 2 4+a 4*d4 b c d e 0 1 2 3
theorem Mf (a b:Col) (r s:Nat):d2 b a r s=- d2 a b r s:=by unfold d2;grind
theorem Yb (a b c:Col) (r s t:Nat):d3 b a c r s t=- d3 a b c r s t:=by unfold d3 d2;grind
theorem Yc (a b c:Col) (r s t:Nat):d3 a c b r s t=- d3 a b c r s t:=by unfold d3;rw[Mf b c,Mf b c,Mf b c];grind
theorem Yd (a b c d:Col) (r s t u:Nat):d4 b a c d r s t u=- d4 a b c d r s t u:=by unfold d4 d3;grind
theorem Ye (a b c d:Col) (r s t u:Nat):d4 a c b d r s t u=- d4 a b c d r s t u:=by unfold d4;simp only[Yb b c d];grind
theorem Yf (a b c d:Col) (r s t u:Nat):d4 a b d c r s t u=- d4 a b c d r s t u:=by unfold d4;simp only[Yc b c d];grind
theorem oh (a b c d e:Col):d5 b a c d e=- d5 a b c d e:=by unfold d5 d4;grind
theorem rW (a b c d e:Col):d5 a c b d e=- d5 a b c d e:=by unfold d5;simp only[Yd b c d e];grind
theorem yJ (a b c d e:Col):d5 a b d c e=- d5 a b c d e:=by unfold d5;simp only[Ye b c d e];grind
theorem Hl (a b c d e:Col):d5 a b c e d=- d5 a b c d e:=by unfold d5;simp only[Yf b c d e];grind
theorem FZ (f g:Col) (x:Rat) (b c d e:Col):d5 (fun k=>f k+g k*x) b c d e=d5 f b c d e+d5 g b c d e*x:=by unfold d5;grind
theorem Tv (a c d e:Col):d5 a a c d e=0:=by have:=oh a a c d e;grind
theorem OB (a b d e:Col):d5 a b a d e=0:=by have:=rW a b a d e;have:=Tv a b d e;grind
theorem OC (a b c e:Col):d5 a b c a e=0:=by have:=yJ a b c a e;have:=OB a b c e;grind
theorem Yg (a b c d:Col):d5 a b c d a=0:=by have:=Hl a b c d a;have:=OC a b c d;grind
def D (C:Nat->Col):Rat:=d5 (C 0) (C 1) (C 2) (C 3) (C 4)
def Mg (C:Nat->Col) (i:Nat) (v:Col):Nat->Col:=fun l=>if l=i then v else C l
def comb (C:Nat->Col) (x:Nat->Rat):Col:=fun k=>C 0 k*x 0+C 1 k*x 1+C 2 k*x 2+C 3 k*x 3+C 4 k*x 4
theorem Bw (a b c d e:Col) (x y z u v:Rat):d5 (fun k=>a k*x+b k*y+c k*z+d k*u+e k*v) b c d e=x*d5 a b c d e:=by
 have h1:=FZ (fun k=>a k*x+b k*y+c k*z+d k*u) e v b c d e;have h2:=FZ (fun k=>a k*x+b k*y+c k*z) d u b c d e;have h3:=FZ (fun k=>a k*x+b k*y) c z b c d e;have h4:=FZ (fun k=>a k*x) b y b c d e;have h5:=FZ (fun _=>0) a x b c d e;have h6:d5 (fun _=>0) b c d e=0:=by unfold d5;grind
 have h7:(fun k=>0+a k*x)=fun k=>a k*x:=by funext k;grind
 rw[h7]at h5;have e5:d5 e b c d e=0:=Yg e b c d;have e4:d5 d b c d e=0:=OC d b c e;have e3:d5 c b c d e=0:=OB c b d e;have e2:d5 b b c d e=0:=Tv b c d e;rw[h1,h2,h3,h4,h5,h6,e5,e4,e3,e2];grind
theorem acv (C:Nat->Col) (x:Nat->Rat) {i:Nat} (hi:i < 5):D (Mg C i (comb C x))=x i*D C:=by
 have hc:i=0\/i=1\/i=2\/i=3\/i=4:=by omega
 unfold D Mg comb;rcases hc with rfl|rfl|rfl|rfl|rfl
 ·simpa using Bw (C 0) (C 1) (C 2) (C 3) (C 4) (x 0) (x 1) (x 2) (x 3) (x 4)
 ·have h:=Bw (C 1) (C 0) (C 2) (C 3) (C 4) (x 1) (x 0) (x 2) (x 3) (x 4)
  rw[oh (C 0) (C 1)]at h;have e:(fun k=>C 1 k*x 1+C 0 k*x 0+C 2 k*x 2+C 3 k*x 3+C 4 k*x 4)=fun k=>C 0 k*x 0+C 1 k*x 1+C 2 k*x 2+C 3 k*x 3+C 4 k*x 4:=by funext k;grind
  rw[e]at h;have h2:=oh (fun k=>C 0 k*x 0+C 1 k*x 1+C 2 k*x 2+C 3 k*x 3+C 4 k*x 4) (C 0) (C 2) (C 3) (C 4);simp only[if_true];simp;grind
 ·have h:=Bw (C 2) (C 0) (C 1) (C 3) (C 4) (x 2) (x 0) (x 1) (x 3) (x 4)
  have e:(fun k=>C 2 k*x 2+C 0 k*x 0+C 1 k*x 1+C 3 k*x 3+C 4 k*x 4)=fun k=>C 0 k*x 0+C 1 k*x 1+C 2 k*x 2+C 3 k*x 3+C 4 k*x 4:=by funext k;grind
  rw[e]at h;generalize (fun k=>C 0 k*x 0+C 1 k*x 1+C 2 k*x 2+C 3 k*x 3+C 4 k*x 4)=V at *;have h1:=oh V (C 0) (C 1) (C 3) (C 4);have h2:=rW (C 0) V (C 1) (C 3) (C 4);have h3:=oh (C 2) (C 0) (C 1) (C 3) (C 4);have h4:=rW (C 0) (C 2) (C 1) (C 3) (C 4);simp;grind
 ·have h:=Bw (C 3) (C 0) (C 1) (C 2) (C 4) (x 3) (x 0) (x 1) (x 2) (x 4)
  have e:(fun k=>C 3 k*x 3+C 0 k*x 0+C 1 k*x 1+C 2 k*x 2+C 4 k*x 4)=fun k=>C 0 k*x 0+C 1 k*x 1+C 2 k*x 2+C 3 k*x 3+C 4 k*x 4:=by funext k;grind
  rw[e]at h;generalize (fun k=>C 0 k*x 0+C 1 k*x 1+C 2 k*x 2+C 3 k*x 3+C 4 k*x 4)=V at *;have h1:=oh V (C 0) (C 1) (C 2) (C 4);have h2:=rW (C 0) V (C 1) (C 2) (C 4);have h3:=yJ (C 0) (C 1) V (C 2) (C 4);have h4:=oh (C 3) (C 0) (C 1) (C 2) (C 4);have h5:=rW (C 0) (C 3) (C 1) (C 2) (C 4);have h6:=yJ (C 0) (C 1) (C 3) (C 2) (C 4);simp;grind
 ·have h:=Bw (C 4) (C 0) (C 1) (C 2) (C 3) (x 4) (x 0) (x 1) (x 2) (x 3)
  have e:(fun k=>C 4 k*x 4+C 0 k*x 0+C 1 k*x 1+C 2 k*x 2+C 3 k*x 3)=fun k=>C 0 k*x 0+C 1 k*x 1+C 2 k*x 2+C 3 k*x 3+C 4 k*x 4:=by funext k;grind
  rw[e]at h;generalize (fun k=>C 0 k*x 0+C 1 k*x 1+C 2 k*x 2+C 3 k*x 3+C 4 k*x 4)=V at *;have h1:=oh V (C 0) (C 1) (C 2) (C 3);have h2:=rW (C 0) V (C 1) (C 2) (C 3);have h3:=yJ (C 0) (C 1) V (C 2) (C 3);have h4:=Hl (C 0) (C 1) (C 2) V (C 3);have h5:=oh (C 4) (C 0) (C 1) (C 2) (C 3);have h6:=rW (C 0) (C 4) (C 1) (C 2) (C 3);have h7:=yJ (C 0) (C 1) (C 4) (C 2) (C 3);have h8:=Hl (C 0) (C 1) (C 2) (C 4) (C 3);simp;grind
def bM (x:Rat) (c:Nat):Prop:=∃N:Int,x=(N:Rat)/\N.natAbs<=c
theorem bM.mono {x:Rat}{c d:Nat} (h:bM x c) (hc:c<=d):bM x d:=by obtain ⟨N,h1,h2⟩:=h;exact ⟨N,h1,Nat.le_trans h2 hc⟩
theorem bM.add {x y:Rat}{c d:Nat} (h:bM x c) (h':bM y d):bM (x+y) (c+d):=by
 obtain ⟨N,rfl,h2⟩:=h;obtain ⟨M,rfl,h4⟩:=h'
 exact ⟨N+M,by rw[Rat.intCast_add],by omega⟩
theorem bM.neg {x:Rat}{c:Nat} (h:bM x c):bM (-x) c:=by
 obtain ⟨N,rfl,h2⟩:=h;exact ⟨-N,by rw[Rat.intCast_neg],by omega⟩
theorem bM.sub {x y:Rat}{c d:Nat} (h:bM x c) (h':bM y d):bM (x-y) (c+d):=by
 rw[Rat.sub_eq_add_neg];exact h.add h'.neg
theorem bM.mul {x y:Rat}{c d:Nat} (h:bM x c) (h':bM y d):bM (x*y) (c*d):=by
 obtain ⟨N,rfl,h2⟩:=h;obtain ⟨M,rfl,h4⟩:=h'
 exact ⟨N*M,by rw[Rat.intCast_mul],by rw[Int.natAbs_mul];exact Nat.mul_le_mul h2 h4⟩
def mZ (a:Col) (c:Nat):Prop:=∀k,bM (a k) c
theorem aas {a b:Col}{c:Nat} (ha:mZ a c) (hb:mZ b c) (r s:Nat):bM (d2 a b r s) (2*c ^ 2) :=
 (((ha r).mul (hb s)).sub ((ha s).mul (hb r))).mono (by rw[Nat.pow_two];omega)
theorem WV {a b x:Col}{c:Nat} (ha:mZ a c) (hb:mZ b c) (hx:mZ x c) (r s t:Nat):bM (d3 a b x r s t) (6*c ^ 3):=by
 refine ((((ha r).mul (aas hb hx s t)).sub ((ha s).mul (aas hb hx r t))).add ((ha t).mul (aas hb hx r s))).mono ?_;have:c*(2*c ^ 2)=2*c ^ 3:=by rw[Nat.mul_left_comm,<- Nat.pow_succ']
 omega
theorem Tw {a b x y:Col}{c:Nat} (ha:mZ a c) (hb:mZ b c) (hx:mZ x c) (hy:mZ y c) (r s t u:Nat):bM (d4 a b x y r s t u) (24*c ^ 4):=by
 refine (((((ha r).mul (WV hb hx hy s t u)).sub ((ha s).mul (WV hb hx hy r t u))).add ((ha t).mul (WV hb hx hy r s u))).sub ((ha u).mul (WV hb hx hy r s t))).mono ?_;have:c*(6*c ^ 3)=6*c ^ 4:=by rw[Nat.mul_left_comm,<- Nat.pow_succ']
 omega
theorem ahw {a b x y z:Col}{c:Nat} (ha:mZ a c) (hb:mZ b c) (hx:mZ x c) (hy:mZ y c) (hz:mZ z c):bM (d5 a b x y z) (120*c ^ 5):=by
 refine ((((((ha 0).mul (Tw hb hx hy hz 1 2 3 4)).sub ((ha 1).mul (Tw hb hx hy hz 0 2 3 4))).add ((ha 2).mul (Tw hb hx hy hz 0 1 3 4))).sub ((ha 3).mul (Tw hb hx hy hz 0 1 2 4))).add ((ha 4).mul (Tw hb hx hy hz 0 1 2 3))).mono ?_;have:c*(24*c ^ 4)=24*c ^ 5:=by rw[Nat.mul_left_comm,<- Nat.pow_succ']
 omega
end Go.bB
namespace Go.bB
def uz (n:Nat) (A:Nat->Nat->Rat) (s:S):Nat->Col:=fun l k=>if l < n then (if k < n then A k (s.b l) else 0) else if k=l then 1 else 0
def nN (n:Nat) (A:Nat->Nat->Rat) (j:Nat):Col:=fun k=>if k < n then A k j else 0
variable {n ak:Nat}{A:Nat->Nat->Rat}{s:S}
theorem Yh (C:Nat->Col) (x:Nat->Rat) (hn:n<=5) (hx:∀i,n<=i->x i=0) (k:Nat):comb C x k=aN n fun i=>C i k*x i:=by
 have hc:n=0\/n=1\/n=2\/n=3\/n=4\/n=5:=by omega
 unfold comb;rcases hc with rfl|rfl|rfl|rfl|rfl|rfl<;>simp only[aN]<;>(try rw[hx 0 (by omega)])<;>(try rw[hx 1 (by omega)])<;>(try rw[hx 2 (by omega)])<;>(try rw[hx 3 (by omega)])<;>(try rw[hx 4 (by omega)])<;>grind
theorem Inv.nN (h:Inv n ak A s) (hn:n<=5) {j:Nat} (hj:j<=ak+n):bB.nN n A j=bB.comb (uz n A s) fun i=>if i < n then s.r i j else 0:=by
 funext k;rw[Yh _ _ hn (fun i hi=>if_neg (by omega))];unfold bB.nN
 by_cases hk:k < n
 ·rw[if_pos hk,h.back k hk j hj]
  exact aL fun i hi=>by simp only[uz,if_pos hi,if_pos hk]
 ·rw[if_neg hk,aL (g:=fun _=>0) (fun i hi=>by simp only[uz,if_pos hi,if_neg hk];grind),gG]
theorem Inv.WW (h:Inv n ak A s) (hn:n<=5) {j i:Nat} (hj:j<=ak+n) (hi:i < n):D (Mg (uz n A s) i (bB.nN n A j))=s.r i j*D (uz n A s):=by
 rw[h.nN hn hj,acv _ _ (by omega),if_pos hi]
theorem aat {p q:Nat} (hp:p < n):uz n A (piv s p q)=Mg (uz n A s) p (nN n A q):=by
 funext l k;unfold uz Mg nN
 by_cases e:l=p
 ·subst e;simp[piv,hp]
 ·simp[piv,e]
theorem Inv.aau (h:Inv n ak A s) (hn:n<=5) {p q:Nat} (hp:p < n) (hq:q < ak) (ha:0 < s.r p q) (hd:D (uz n A s)≠0):D (uz n A (bB.piv s p q))≠0:=by
 rw[aat hp,h.WW hn (by omega) hp];intro e;rcases Rat.mul_eq_zero.1 e with e|e
 ·grind
 ·exact hd e
theorem acw {C:Nat->Col}{c:Nat} (hC:∀l,mZ (C l) c) (i:Nat) {v:Col} (hv:mZ v c):∀l,mZ (Mg C i v l) c:=fun l k=>by
 unfold Mg;split
 ·exact hv k
 ·exact hC l k
theorem D_B {C:Nat->Col}{c:Nat} (hC:∀l,mZ (C l) c):bM (D C) (120*c ^ 5):=ahw (hC 0) (hC 1) (hC 2) (hC 3) (hC 4)
theorem Inv.bounded (h:Inv n ak A s) (hn:n<=5) {c:Nat} (hc:1<=c) (hA:∀k,k < n->∀j,j<=ak+n->bM (A k j) c) (hd:D (uz n A s)≠0) :
  ∃d:Int,d≠0/\d.natAbs<=120*c ^ 5/\(∀i,i < n->∀j,j<=ak+n->bM ((d:Rat)*s.r i j) (120*c ^ 5))/\∀j,j<=ak+n->bM ((d:Rat)*s.c j) (6*(120*c ^ 5)):=by
 have zB:bM 0 c:=⟨0,rfl,Nat.zero_le _⟩
 have oB:bM 1 c:=⟨1,rfl,hc⟩
 have hC:∀l,mZ (uz n A s l) c:=fun l k=>by
  unfold uz
  by_cases hl:l < n
  ·by_cases hk:k < n
   ·rw[if_pos hl,if_pos hk];exact hA k hk _ (Nat.le_of_lt (h.bl l hl))
   ·rw[if_pos hl,if_neg hk];exact zB
  ·rw[if_neg hl];split
   ·exact oB
   ·exact zB
 have hV:∀j,j<=ak+n->mZ (bB.nN n A j) c:=fun j hj k=>by
  unfold bB.nN;split
  ·exact hA k (by assumption) j hj
  ·exact zB
 obtain ⟨d,hd1,hd2⟩:=D_B hC;have hent:∀i,i < n->∀j,j<=ak+n->bM ((d:Rat)*s.r i j) (120*c ^ 5):=fun i hi j hj=>by
  rw[<- hd1,Rat.mul_comm,<- h.WW hn hj hi];exact D_B (acw hC i (hV j hj))
 refine ⟨d,fun e=>hd (by rw[hd1,e];rfl),hd2,hent,fun j hj=>?_⟩;rw[h.art j hj];have hsum:∀m,m<=n->bM ((d:Rat)*aN m (fun i=>c0 n ak (s.b i)*s.r i j)) (m*(120*c ^ 5)):=by
  intro m
  induction m with
  |zero=>intro _;exact ⟨0,by simp only[aN];grind,Nat.zero_le _⟩
  |succ m ih =>
   intro hm;have h1:=ih (by omega);have h2:=hent m (by omega) j hj;have h3:bM ((d:Rat)*(c0 n ak (s.b m)*s.r m j)) (120*c ^ 5):=by
    unfold c0;split
    ·have:(d:Rat)*(1*s.r m j)=(d:Rat)*s.r m j:=by grind
     rw[this];exact h2
    ·exact ⟨0,by grind,Nat.zero_le _⟩
   have:=h1.add h3;rw[Nat.succ_mul];have e:(d:Rat)*aN (m+1) (fun i=>c0 n ak (s.b i)*s.r i j)=(d:Rat)*aN m (fun i=>c0 n ak (s.b i)*s.r i j)+(d:Rat)*(c0 n ak (s.b m)*s.r m j):=by simp only[aN];grind
   rw[e];exact this
 have h1:=hsum n (Nat.le_refl _);have h0:bM ((d:Rat)*c0 n ak j) (120*c ^ 5):=by
  unfold c0;split
  ·exact ⟨d,by grind,hd2⟩
  ·exact ⟨0,by grind,Nat.zero_le _⟩
 have e:(d:Rat)*(c0 n ak j-aN n (fun i=>c0 n ak (s.b i)*s.r i j))=(d:Rat)*c0 n ak j-(d:Rat)*aN n (fun i=>c0 n ak (s.b i)*s.r i j):=by grind
 rw[e];refine (h0.sub h1).mono ?_;have:n*(120*c ^ 5)<=5*(120*c ^ 5):=Nat.mul_le_mul_right _ hn;omega
end Go.bB
end
section
namespace Go.bB
def ex (c:Col):(List Nat->Rat)->List Nat->Rat
 |_,[]=>0
 |f,r::l=>c r*f l-ex c (fun m=>f (r::m)) l
theorem uW (c:Col):∀(l:List Nat) (f g:List Nat->Rat),(∀m,f m=g m)->ex c f l=ex c g l
 |[],_,_,_=>rfl
 |r::l,f,g,h=>by simp only[ex];rw[h l,uW c l _ _ (fun m=>h (r::m))]
theorem WX (c:Col):∀(l:List Nat) (f g:List Nat->Rat),ex c (fun m=>f m+g m) l=ex c f l+ex c g l
 |[],_,_=>by simp only[ex];grind
 |r::l,f,g=>by simp only[ex];rw[WX c l];grind
theorem QI (c:Col):∀(l:List Nat) (f g:List Nat->Rat),ex c (fun m=>f m-g m) l=ex c f l-ex c g l
 |[],_,_=>by simp only[ex];grind
 |r::l,f,g=>by simp only[ex];rw[QI c l];grind
theorem Kj (c:Col) (x:Rat):∀(l:List Nat) (f:List Nat->Rat),ex c (fun m=>f m*x) l=ex c f l*x
 |[],_=>by simp only[ex];grind
 |r::l,f=>by simp only[ex];rw[Kj c x l];grind
theorem WY (c:Col):∀(l:List Nat) (f:List Nat->Rat),ex c (fun m=>- f m) l=- ex c f l
 |[],_=>by simp only[ex];grind
 |r::l,f=>by simp only[ex];rw[WY c l];grind
theorem Tx (c:Col):∀(l:List Nat),ex c (fun _=>0) l=0
 |[]=>rfl
 |r::l=>by simp only[ex];rw[Tx c l];grind
theorem WZ (a b:Col) (x:Rat):∀(l:List Nat) (f:List Nat->Rat),ex (fun k=>a k+b k*x) f l=ex a f l+ex b f l*x
 |[],_=>by simp only[ex];grind
 |r::l,f=>by simp only[ex];rw[WZ a b x l];grind
theorem Tz:∀(l:List Nat) (f:List Nat->Rat),ex (fun _=>0) f l=0
 |[],_=>rfl
 |r::l,f=>by simp only[ex];rw[Tz l];grind
theorem TA (a b:Col):∀(l:List Nat) (F:List Nat->Rat),ex a (ex b F) l=- ex b (ex a F) l
 |[],_=>by simp only[ex];grind
 |r::l,F=>by
  have ih:=TA a b l (fun m=>F (r::m));have e1:ex a (fun m=>ex b F (r::m)) l=ex a F l*b r-ex a (ex b (fun m=>F (r::m))) l:=by
   rw[<- Kj,<- QI];exact uW _ _ _ _ fun m=>by simp only[ex];grind
  have e2:ex b (fun m=>ex a F (r::m)) l=ex b F l*a r-ex b (ex a (fun m=>F (r::m))) l:=by
   rw[<- Kj,<- QI];exact uW _ _ _ _ fun m=>by simp only[ex];grind
  have e3:ex a (ex b F) (r::l)=a r*ex b F l-ex a (fun m=>ex b F (r::m)) l:=rfl;have e4:ex b (ex a F) (r::l)=b r*ex a F l-ex b (fun m=>ex a F (r::m)) l:=rfl;rw[e3,e4,e1,e2,ih];grind
def det:List Col->List Nat->Rat
 |[],_=>1
 |c::cs,l=>ex c (det cs) l
theorem rX (c:Col) (cs:List Col) (l:List Nat):det (c::cs) l=ex c (det cs) l:=rfl
theorem Ho (a b:Col) (post:List Col):∀(pre:List Col) (l:List Nat),det (pre++a::b::post) l=- det (pre++b::a::post) l
 |[],l=>TA a b l (det post)
 |c::pre,l=>by
  rw[List.cons_append,List.cons_append,rX,rX,<- WY];exact uW _ _ _ _ fun m=>Ho a b post pre m
theorem OD (a:Col) (post:List Col):∀(mid pre:List Col) (l:List Nat),det (pre++a::(mid++a::post)) l=0
 |[],pre,l=>by have:=Ho a a post pre l;simp only[List.nil_append];grind
 |m::mid,pre,l=>by
  have h1:=Ho a m (mid++a::post) pre l;have h2:=OD a post mid (pre++[m]) l;rw[List.append_assoc,List.cons_append,List.nil_append]at h2;rw[List.cons_append,h1,h2];grind
theorem OE {α:Type}{l:List α}{i:Nat}{a:α} (h:l[i]?=some a):l=l.take i++a::l.drop (i+1):=by
 obtain ⟨hi,rfl⟩:=List.getElem?_eq_some_iff.1 h;rw[<- List.drop_eq_getElem_cons hi,List.take_append_drop]
theorem TB {cs:List Col}{i j:Nat}{a:Col} (hij:i < j) (hi:cs[i]?=some a) (hj:cs[j]?=some a) (l:List Nat):det cs l=0:=by
 have h1:=OE hi;have h2:(cs.drop (i+1))[j-(i+1)]?=some a:=by
  rw[List.getElem?_drop,<- hj];congr 1;omega
 have h3:=OE h2;rw[h1,h3];exact OD a _ _ _ l
theorem TD (f g:Col) (x:Rat):∀(cs:List Col) (i:Nat) (l:List Nat),i < cs.length->det (cs.set i (fun k=>f k+g k*x)) l=det (cs.set i f) l+det (cs.set i g) l*x
 |[],_,_,h=>by simp at h
 |c::cs,0,l,_=>by simp only[List.set_cons_zero,rX];exact WZ f g x l _
 |c::cs,i+1,l,h=>by
  simp only[List.set_cons_succ,rX];rw[<- Kj,<- WX];exact uW _ _ _ _ fun m=>TD f g x cs i m (by simpa using h)
theorem OG:∀(cs:List Col) (i:Nat) (l:List Nat),i < cs.length->det (cs.set i (fun _=>0)) l=0
 |[],_,_,h=>by simp at h
 |c::cs,0,l,_=>by simp only[List.set_cons_zero,rX];exact Tz l _
 |c::cs,i+1,l,h=>by
  simp only[List.set_cons_succ,rX];rw[uW c l _ (fun _=>0) (fun m=>OG cs i m (by simpa using h)),Tx]
abbrev Z:Col:=fun _=>0
theorem F3 (cs:List Col) (x:Nat->Rat) {i:Nat} (hi:i < cs.length) (l:List Nat):∀m,m<=cs.length ->
  det (cs.set i (fun k=>aN m (fun j=>cs.getD j Z k*x j))) l=aN m (fun j=>(if j=i then det cs l else 0)*x j)
 |0,_=>by simp only[aN];exact OG cs i l hi
 |m+1,hm=>by
  simp only[aN];rw[TD (fun k=>aN m (fun j=>cs.getD j Z k*x j)) (cs.getD m Z) (x m) cs i l hi,F3 cs x hi l m (by omega)];congr 1;have hg:cs[m]?=some (cs.getD m Z):=by
   rw[List.getD_eq_getElem?_getD,List.getElem?_eq_getElem (by omega)];rfl
  by_cases e:m=i
  ·subst e
   rw[if_pos rfl];congr 1;have:cs.set m (cs.getD m Z)=cs:=by
    apply List.ext_getElem?;intro k;rw[List.getElem?_set]
    by_cases hk:m=k
    ·subst hk;rw[if_pos rfl,if_pos hi,hg]
    ·rw[if_neg hk]
   rw[this]
  ·rw[if_neg e]
   have hd:det (cs.set i (cs.getD m Z)) l=0:=by
    have hs1:(cs.set i (cs.getD m Z))[i]?=some (cs.getD m Z):=List.getElem?_set_self hi;have hs2:(cs.set i (cs.getD m Z))[m]?=some (cs.getD m Z):=by rw[List.getElem?_set_ne (fun h=>e h.symm)];exact hg
    rcases Nat.lt_or_gt_of_ne e with h|h
    ·exact TB h hs2 hs1 l
    ·exact TB h hs1 hs2 l
   rw[hd]
theorem aav (cs:List Col) (x:Nat->Rat) {i:Nat} (hi:i < cs.length) (l:List Nat) :
  det (cs.set i (fun k=>aN cs.length (fun j=>cs.getD j Z k*x j))) l=x i*det cs l:=by
 rw[F3 cs x hi l _ (Nat.le_refl _)];have:aN cs.length (fun j=>(if j=i then det cs l else 0)*x j)=aN cs.length (fun j=>(x j*det cs l)*(if j=i then 1 else 0)):=aL fun j _=>by
  split<;>grind
 rw[this,nE hi]
theorem adL {c:Col}{k B:Nat} (hc:mZ c k):∀(l:List Nat) (f:List Nat->Rat),(∀m,m.length+1=l.length->bM (f m) B)->bM (ex c f l) (l.length*(k*B))
 |[],_,_=>⟨0,rfl,Nat.zero_le _⟩
 |r::l,f,h=>by
  have h1:=(hc r).mul (h l (by simp));have h2:=adL hc l (fun m=>f (r::m)) (fun m hm=>h (r::m) (by simp[hm]));refine (h1.sub h2).mono ?_;rw[List.length_cons,Nat.succ_mul];omega
theorem VF {k M:Nat}:∀(cs:List Col) (l:List Nat),(∀c∈cs,mZ c k)->l.length<=M->bM (det cs l) ((M*k) ^ cs.length)
 |[],_,_,_=>⟨1,rfl,by simp⟩
 |c::cs,l,hc,hl=>by
  refine (adL (B:=(M*k) ^ cs.length) (hc c (by simp)) l (det cs) (fun m hm=>VF cs m (fun x hx=>hc x (by simp[hx])) (by omega))).mono ?_;rw[List.length_cons,Nat.pow_succ',<- Nat.mul_assoc];exact Nat.mul_le_mul_right _ (Nat.mul_le_mul_right _ hl)
def jS (n:Nat) (A:Nat->Nat->Rat) (s:S):List Col:=(List.range n).map fun l=>nN n A (s.b l)
variable {n ak:Nat}{A:Nat->Nat->Rat}{s:S}
theorem rY:(jS n A s).length=n:=by simp[jS]
theorem Mh {l:Nat} (hl:l < n):(jS n A s).getD l Z=nN n A (s.b l):=by simp[jS,List.getD,hl]
theorem Inv.afk (h:Inv n ak A s) {j:Nat} (hj:j<=ak+n):bB.nN n A j=fun k=>aN (jS n A s).length (fun i=>(jS n A s).getD i Z k*s.r i j):=by
 funext k;rw[rY];unfold bB.nN
 by_cases hk:k < n
 ·rw[if_pos hk,h.back k hk j hj]
  exact aL fun i hi=>by rw[Mh hi];simp only[bB.nN,if_pos hk]
 ·rw[if_neg hk,aL (g:=fun _=>0) (fun i hi=>by rw[Mh hi];simp only[bB.nN,if_neg hk];grind),gG]
abbrev DN (n:Nat) (A:Nat->Nat->Rat) (s:S):Rat:=det (jS n A s) (List.range n)
theorem Inv.W9 (h:Inv n ak A s) {j i:Nat} (hj:j<=ak+n) (hi:i < n):det ((jS n A s).set i (bB.nN n A j)) (List.range n)=s.r i j*DN n A s:=by
 rw[h.afk hj];exact aav (jS n A s) (fun i=>s.r i j) (by rw[rY];exact hi) _
theorem VG {p q:Nat}:jS n A (piv s p q)=(jS n A s).set p (nN n A q):=by
 apply List.ext_getElem?;intro k;rw[List.getElem?_set]
 by_cases hk:k < n
 ·have h1:(jS n A (piv s p q))[k]?=some (nN n A ((piv s p q).b k)):=by simp[jS,hk]
  have h2:(jS n A s)[k]?=some (nN n A (s.b k)):=by simp[jS,hk]
  rw[h1,h2,rY]
  by_cases e:p=k
  ·subst e;rw[if_pos rfl,if_pos hk];simp[piv]
  ·rw[if_neg e];simp only[piv];rw[if_neg (fun h=>e h.symm)]
 ·have h1:(jS n A (piv s p q))[k]?=none:=by simp[jS];omega
  have h2:(jS n A s)[k]?=none:=by simp[jS];omega
  rw[h1,h2,rY]
  by_cases e:p=k
  ·subst e;rw[if_pos rfl,if_neg hk]
  ·rw[if_neg e]
theorem Inv.Yi (h:Inv n ak A s) {p q:Nat} (hp:p < n) (hq:q < ak) (ha:0 < s.r p q) (hd:DN n A s≠0):DN n A (bB.piv s p q)≠0:=by
 unfold DN;rw[VG,h.W9 (by omega) hp];intro e;rcases Rat.mul_eq_zero.1 e with e|e
 ·grind
 ·exact hd e
theorem OH {c:Col}:∀(l:List Nat) (f:List Nat->Rat),(∀r∈l,c r=0)->ex c f l=0
 |[],_,_=>rfl
 |r::l,f,h=>by simp only[ex];rw[h r (by simp),OH l _ (fun r hr=>h r (by simp[hr]))];grind
theorem OI (C:Nat->Col) (n:Nat) (hC:∀l k,l < n->k < n->C l k=if k=l then 1 else 0):∀(d a:Nat),a+d=n->det ((List.range' a d).map C) (List.range' a d)=1
 |0,a,_=>rfl
 |d+1,a,h=>by
  rw[List.range'_succ,List.map_cons,rX,ex,OI C n hC d (a+1) (by omega),hC a a (by omega) (by omega),if_pos rfl,OH _ _ (fun r hr=>by
   rw[List.mem_range'_1]at hr;rw[hC a r (by omega) (by omega),if_neg (by omega)])]
  grind
theorem aaw (hu:∀k l,k < n->l < n->A k (s.b l)=if k=l then 1 else 0):DN n A s=1:=by
 unfold DN jS;rw[List.range_eq_range'];refine OI _ n (fun l k hl hk=>?_) n 0 (by omega);simp only[nN,if_pos hk];exact hu k l hk hl
theorem Inv.Yj (h:Inv n ak A s) {c:Nat} (hA:∀k,k < n->∀j,j<=ak+n->bM (A k j) c) (hd:DN n A s≠0) :
  ∃d:Int,d≠0/\d.natAbs<=(n*c) ^ n/\(∀i,i < n->∀j,j<=ak+n->bM ((d:Rat)*s.r i j) ((n*c) ^ n))/\∀j,j<=ak+n->bM ((d:Rat)*s.c j) ((n+1)*(n*c) ^ n):=by
 have zB:bM 0 c:=⟨0,rfl,Nat.zero_le _⟩
 have hV:∀j,j<=ak+n->mZ (bB.nN n A j) c:=fun j hj k=>by
  unfold bB.nN;split
  ·exact hA k (by assumption) j hj
  ·exact zB
 have hC:∀x∈jS n A s,mZ x c:=fun x hx=>by
  simp only[jS,List.mem_map,List.mem_range]at hx;obtain ⟨l,hl,rfl⟩:=hx;exact hV _ (Nat.le_of_lt (h.bl l hl))
 obtain ⟨d,hd1,hd2⟩:=VF (M:=n) (jS n A s) (List.range n) hC (by simp);rw[rY]at hd2;have hent:∀i,i < n->∀j,j<=ak+n->bM ((d:Rat)*s.r i j) ((n*c) ^ n):=fun i hi j hj=>by
  rw[<- hd1,Rat.mul_comm,<- h.W9 hj hi];have:=VF (M:=n) ((jS n A s).set i (bB.nN n A j)) (List.range n) (fun x hx=>by
   rcases List.mem_or_eq_of_mem_set hx with hx|rfl
   ·exact hC x hx
   ·exact hV j hj) (by simp)
  rw[List.length_set,rY]at this;exact this
 refine ⟨d,fun e=>hd (by unfold DN;rw[hd1,e];rfl),hd2,hent,fun j hj=>?_⟩;rw[h.art j hj];have hsum:∀m,m<=n->bM ((d:Rat)*aN m (fun i=>c0 n ak (s.b i)*s.r i j)) (m*(n*c) ^ n):=by
  intro m
  induction m with
  |zero=>intro _;exact ⟨0,by simp only[aN];grind,Nat.zero_le _⟩
  |succ m ih =>
   intro hm;have h1:=ih (by omega);have h2:=hent m (by omega) j hj;have h3:bM ((d:Rat)*(c0 n ak (s.b m)*s.r m j)) ((n*c) ^ n):=by
    unfold c0;split
    ·have:(d:Rat)*(1*s.r m j)=(d:Rat)*s.r m j:=by grind
     rw[this];exact h2
    ·exact ⟨0,by grind,Nat.zero_le _⟩
   have:=h1.add h3;rw[Nat.succ_mul];have e:(d:Rat)*aN (m+1) (fun i=>c0 n ak (s.b i)*s.r i j)=(d:Rat)*aN m (fun i=>c0 n ak (s.b i)*s.r i j)+(d:Rat)*(c0 n ak (s.b m)*s.r m j):=by simp only[aN];grind
   rw[e];exact this
 have h1:=hsum n (Nat.le_refl _);have h0:bM ((d:Rat)*c0 n ak j) ((n*c) ^ n):=by
  unfold c0;split
  ·exact ⟨d,by grind,hd2⟩
  ·exact ⟨0,by grind,Nat.zero_le _⟩
 have e:(d:Rat)*(c0 n ak j-aN n (fun i=>c0 n ak (s.b i)*s.r i j))=(d:Rat)*c0 n ak j-(d:Rat)*aN n (fun i=>c0 n ak (s.b i)*s.r i j):=by grind
 rw[e];refine (h0.sub h1).mono ?_;rw[Nat.succ_mul];omega
end Go.bB
end
section
namespace Go.Vm
open Go Go.Proofs Go.Whole
namespace ama
open Go.Proofs.Tryz
attribute [go_sem] Tryz.results74 Tryz.results22
structure RV where
 num:Int
 den:Int
def RV.tr (q:RV):Tr:=.agg [i64 q.num,i64 q.den]
attribute [go_sem] RV.tr
abbrev l5:TypeId:=118
theorem B2:B ^ 2=18446744073709551616:=by decide
theorem B4:B ^ 4=340282366920938463463374607431768211456:=by decide
def FB (q:Rat) (n d:Nat):Prop:=q.num.natAbs<=n/\q.den<=d
theorem FB.mono {q:Rat}{n d n' d':Nat} (h:FB q n d) (h1:n<=n') (h2:d<=d'):FB q n' d':=⟨Nat.le_trans h.1 h1,Nat.le_trans h.2 h2⟩
theorem FB.divInt {a b:Int} (hb:0 < b) {n d:Nat} (h1:a.natAbs<=n) (h2:b.natAbs<=d):FB (Rat.divInt a b) n d:=by
 obtain ⟨e1,e2⟩:=AV (a:=a) hb;refine ⟨?_,?_⟩
 ·rw[e1,Int.natAbs_tdiv];exact Nat.le_trans (Nat.div_le_self _ _) h1
 ·have h3:((Rat.divInt a b).den:Int).natAbs<=b.natAbs:=by rw[e2,Int.natAbs_tdiv];exact Nat.div_le_self _ _
  rw[Int.natAbs_natCast]at h3;omega
theorem QJ (p q:Rat):0 < (p.den:Int)*q.den:=by
 have:=Nat.mul_pos p.den_pos q.den_pos;rw[<- Int.natCast_mul];omega
theorem FB.mul {p q:Rat}{n d n' d':Nat} (h:FB p n d) (h':FB q n' d'):FB (p*q) (n*n') (d*d'):=by
 rw[mul_eq];refine FB.divInt (QJ p q) ?_ ?_
 ·rw[Int.natAbs_mul];exact Nat.mul_le_mul h.1 h'.1
 ·rw[Int.natAbs_mul,Int.natAbs_natCast,Int.natAbs_natCast];exact Nat.mul_le_mul h.2 h'.2
theorem FB.int (z:Int):FB (z:Rat) z.natAbs 1:=⟨Nat.le_refl _,Nat.le_refl _⟩
theorem FB.fits {q:Rat}{n d k:Nat} (h:FB q n d) (hn:n < B ^ k) (hd:d < B ^ k) (hk:k<=100000):gH q :=
 ⟨Nat.le_trans (cZ (Nat.lt_of_le_of_lt h.1 hn)) hk,Nat.le_trans (cZ (Nat.lt_of_le_of_lt h.2 hd)) hk⟩
theorem J2 (q:Rat):decide (q.num.sign < 0)=decide (q < 0):=by
 rw[Bool.eq_iff_iff,decide_eq_true_iff,decide_eq_true_iff,Int.sign_neg_iff];have:=Rat.num_nonneg (q:=q);constructor
 ·intro h
  refine Rat.not_le.1 fun hh=>?_
  have:=this.2 hh;omega
 ·intro h
  refine Int.not_le.1 fun hh=>?_
  exact Rat.not_le.2 h (this.1 hh)
def qz:List Tr:=[i64 0,i64 0,.sl false [],.bool false,.sl false [],.bool false]
end ama
end Go.Vm
end
