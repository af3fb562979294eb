import Derived.Test.YtihgdplbehempaaGreatMD4
set_option linter.unusedSimpArgs false
set_option linter.unusedVariables false
set_option maxRecDepth 10000
section
namespace Go.Vm
open Go Go.Proofs Go.Whole Go.bB
namespace ama
open Go.Proofs.Tryz
def iY (r:Row):List Int:=r.av++[r.const]
def dQ (r:Row) (k:Nat):Int:=(iY r).getD k 0
def lF (rows:List Row) (k:Nat):List Rat:=rows.map fun r=>((dQ r k:Int):Rat)
def jX (V:Nat) (rows:List Row) (more:List (List Rat)):List (List Rat):=(List.range (V+1)).map fun i=>lF rows i++more.map (fun c=>c.getD i 0)
def jo (V:Nat) (x:Int):List Rat:=List.replicate V 0++[(x:Rat)]
theorem rc0:((0:Int):Rat)=0:=rfl
theorem rc1:((1:Int):Rat)=1:=rfl
theorem fM {r:Row}{V k:Nat} (h:r.av.length=V) (hk:k < V):dQ r k=r.av.getD k 0:=by
 simp only[dQ,iY,List.getD_eq_getElem?_getD];rw[List.getElem?_append_left (by omega)]
theorem gP {r:Row}{V:Nat} (h:r.av.length=V):dQ r V=r.const:=by
 simp only[dQ,iY,List.getD_eq_getElem?_getD];rw[List.getElem?_append_right (by omega)];simp[h]
theorem qc (V:Nat) (rows:List Row) (more:List (List Rat)):(jX V rows more).length=V+1:=by simp[jX]
theorem Hq {V:Nat}{rows:List Row}{more:List (List Rat)}:∀r∈jX V rows more,r.length=rows.length+more.length:=by
 intro r hr;simp only[jX,List.mem_map,List.mem_range]at hr;obtain ⟨i,_,rfl⟩:=hr;simp[lF]
theorem nO (V:Nat) (rows:List Row) (more:List (List Rat)):((jX V rows more).headD []).length=rows.length+more.length:=by
 have h:=qc V rows more;cases hm:jX V rows more with
 |nil=>rw[hm]at h;simp at h
 |cons a l=>exact Hq a (by rw[hm];simp)
theorem CS {V:Nat}{rows:List Row}{more:List (List Rat)}{k:Nat} (hk:k<=V):(jX V rows more).getD k []=lF rows k++more.map (fun c=>c.getD k 0):=by
 have:k < V+1:=by omega
 simp[jX,List.getD_eq_getElem?_getD,this]
theorem zN {V k:Nat}{x:Int} (hk:k < V):(jo V x).getD k 0=0:=by
 simp[jo,List.getD_eq_getElem?_getD,List.getElem?_append,hk]
theorem zO {V:Nat}{x:Int}:(jo V x).getD V 0=(x:Rat):=by
 simp[jo,List.getD_eq_getElem?_getD,List.getElem?_append]
theorem Et (V:Nat) (x:Int):(jo V x).length=V+1:=by simp[jo]
theorem Bz (m:Nat) (f:Nat->Rat):aN (m+1) f=f 0+aN m (fun i=>f (i+1)):=by
 induction m with
 |zero=>simp only[aN];grind
 |succ m ih =>
  have:aN (m+1+1) f=aN (m+1) f+f (m+1):=rfl;rw[this,ih];simp only[aN];grind
def bX (k:Nat):List Row->List Rat->Rat
 |r::rows,y::ys=>((dQ r k:Int):Rat)*y+bX k rows ys
 |_,_=>0
theorem Hr (k:Nat):∀(rows:List Row) (ys:List Rat),rows.length<=ys.length->aN rows.length (fun j=>(lF rows k).getD j 0*ys.getD j 0)=bX k rows (ys.take rows.length)
 |[],ys,_=>by simp[aN,bX]
 |r::rows,[],h=>by simp at h
 |r::rows,y::ys,h=>by
  have ih:=Hr k rows ys (by simpa using h);rw[List.length_cons,Bz];simp only[lF,List.map_cons,List.getD_cons_zero,List.getD_cons_succ,List.take_succ_cons,bX];rw[<- ih];rfl
theorem qd (k:Nat) (t:Rat):∀(rows:List Row) (ys:List Rat),bX k rows (ys.map (·*t))=bX k rows ys*t
 |[],ys=>by cases ys<;>simp only[List.map,bX]<;>grind
 |r::rows,[]=>by simp only[List.map,bX];grind
 |r::rows,y::ys=>by simp only[List.map,bX];rw[qd k t rows ys];grind
def kr (k:Nat):List Row->List Nat->Int
 |r::rows,m::ms=>m*dQ r k+kr k rows ms
 |_,_=>0
theorem vN (k:Nat):∀(rows:List Row) (ms:List Nat),((kr k rows ms:Int):Rat)=bX k rows (ms.map fun m=>((m:Nat):Rat))
 |[],ms=>by cases ms<;>rfl
 |r::rows,[]=>rfl
 |r::rows,m::ms=>by
  simp only[List.map,bX,kr,Rat.intCast_add,Rat.intCast_mul,vN k rows ms];have:((m:Int):Rat)=(m:Rat):=rfl;rw[this];grind
theorem BA {V:Nat}:∀(rows:List Row) (ms:List Nat) (out:List WI) (last:WI),out.length=V->(∀r∈rows,r.av.length=V) ->
  (∀k,k < V->((bF out last rows ms).1.map WI.z).getD k 0=(out.map WI.z).getD k 0+kr k rows ms)/\(bF out last rows ms).2.z=last.z+kr V rows ms
 |[],ms,out,last,_,_=>by cases ms<;>simp[bF,kr]
 |r::rows,[],out,last,_,_=>by simp[bF,kr]
 |r::rows,m::ms,out,last,ho,hr=>by
  have hrl:=hr r (by simp);simp only[bF,kr];split
  ·rename_i h0
   obtain ⟨h1,h2⟩:=BA rows ms out last ho (fun x hx=>hr x (by simp[hx]));subst h0;refine ⟨fun k hk=>by rw[h1 k hk];simp,by rw[h2];simp⟩
  ·obtain ⟨h1,h2⟩:=BA rows ms (oK out r.av m) ⟨true,last.z+m*r.const⟩ (by simp[oK,ho,hrl]) (fun x hx=>hr x (by simp[hx]))
   refine ⟨fun k hk=>?_,?_⟩
   ·rw[h1 k hk,fM hrl hk]
    have:((oK out r.av m).map WI.z).getD k 0=(out.map WI.z).getD k 0+m*r.av.getD k 0:=by
     have h3:k < out.length:=by omega
     have h4:k < r.av.length:=by omega
     simp[oK,List.getD_eq_getElem?_getD,List.getElem?_zipWith,h3,h4]
    rw[this];omega
   ·rw[h2,gP hrl];simp only;omega
theorem uM {V:Nat} (rows:List Row) (ms:List Nat) (hr:∀r∈rows,r.av.length=V) :
  (∀k,k < V->((bF (List.replicate V zW) ⟨true,0⟩ rows ms).1.map WI.z).getD k 0=kr k rows ms)/\(bF (List.replicate V zW) ⟨true,0⟩ rows ms).2.z=kr V rows ms:=by
 obtain ⟨h1,h2⟩:=BA rows ms (List.replicate V zW) ⟨true,0⟩ (by simp) hr;refine ⟨fun k hk=>?_,by rw[h2];simp⟩;rw[h1 k hk];have:((List.replicate V zW).map WI.z).getD k 0=0:=by
  simp[List.getD_eq_getElem?_getD,hk]
 rw[this];simp
theorem VH {V:Nat}{rows:List Row}{ms:List Nat} (hr:∀r∈rows,r.av.length=V) (h0:∀k,k < V->kr k rows ms=0) (h1:kr V rows ms < 0) :
  kQ (bF (List.replicate V zW) ⟨true,0⟩ rows ms).1 (bF (List.replicate V zW) ⟨true,0⟩ rows ms).2=true:=by
 obtain ⟨c1,c2⟩:=uM rows ms hr;have hl:=nK rows ms (List.replicate V zW) ⟨true,0⟩ (by simp) hr;generalize bF (List.replicate V zW) ⟨true,0⟩ rows ms=q at *;simp only[kQ,Bool.and_eq_true,decide_eq_true_eq,List.all_eq_true];refine ⟨by omega,fun x hx=>?_⟩;obtain ⟨k,hk,rfl⟩:=List.mem_iff_getElem.1 hx;have:=c1 k (by omega);rw[h0 k (by omega)]at this;simpa[List.getD_eq_getElem?_getD,hk] using this
theorem Xa (sc:Nat):∀(out:List WI) (l:List Int),out.length=l.length->(∀k,k < l.length->(out.map WI.z).getD k 0=sc*l.getD k 0)->eqW out l sc=true
 |[],[],_,_=>rfl
 |[],_::_,h,_=>by simp at h
 |_::_,[],h,_=>by simp at h
 |x::out,a::l,hl,h=>by
  simp only[eqW,Bool.and_eq_true,decide_eq_true_eq];refine ⟨by simpa using h 0 (by simp),Xa sc out l (by simpa using hl) fun k hk=>?_⟩;simpa using h (k+1) (by simpa using hk)
theorem VI {V:Nat}{rows:List Row}{row:Row}{ms:List Nat}{sc:Nat} (hr:∀r∈rows,r.av.length=V) (hrow:row.av.length=V) (hsc:sc≠0)
  (h0:∀k,k < V->kr k rows ms=sc*dQ row k) (h1:kr V rows ms<=sc*row.const):gZ (bF (List.replicate V zW) ⟨true,0⟩ rows ms) row sc=true:=by
 obtain ⟨c1,c2⟩:=uM rows ms hr;have hl:=nK rows ms (List.replicate V zW) ⟨true,0⟩ (by simp) hr;generalize bF (List.replicate V zW) ⟨true,0⟩ rows ms=q at *;unfold gZ;rw[if_neg hsc,Bool.and_eq_true];refine ⟨Xa sc _ _ (by omega) fun k hk=>?_,by rw[decide_eq_true_eq];omega⟩;rw[c1 k (by omega),h0 k (by omega),fM hrow (by omega)]
theorem Ht:∀(l:List Nat) (o d:Nat),o∣d->(∀x∈l,x∣d)->AY o l∣d
 |[],o,d,h,_=>h
 |x::l,o,d,h,hl=>Ht l (Nat.lcm o x) d (Nat.lcm_dvd h (hl x (by simp))) fun y hy=>hl y (by simp[hy])
theorem OJ:∀(l:List Nat) (o:Nat),o∣AY o l/\∀x∈l,x∣AY o l
 |[],o=>⟨Nat.dvd_refl o,fun x hx=>by simp at hx⟩
 |x::l,o=>by
  obtain ⟨h1,h2⟩:=OJ l (Nat.lcm o x);refine ⟨Nat.dvd_trans (Nat.dvd_lcm_left o x) h1,fun y hy=>?_⟩;rcases List.mem_cons.1 hy with rfl|hy
  ·exact Nat.dvd_trans (Nat.dvd_lcm_right o y) h1
  ·exact h2 y hy
theorem OL:∀(l:List Nat) (o:Nat),0 < o->(∀x∈l,0 < x)->0 < AY o l
 |[],o,h,_=>h
 |x::l,o,h,hl=>OL l (Nat.lcm o x) (Nat.lcm_pos h (hl x (by simp))) fun y hy=>hl y (by simp[hy])
def fI (l:List Rat):Nat:=AY 1 (l.map Rat.den)
theorem CU (l:List Rat):0 < fI l:=OL _ _ (by decide) fun x hx=>by
 obtain ⟨y,_,rfl⟩:=List.mem_map.1 hx;exact y.den_pos
theorem Hu {l:List Rat}{x:Rat} (hx:x∈l):x.den∣fI l:=(OJ _ 1).2 _ (List.mem_map.2 ⟨x,hx,rfl⟩)
def tK (L:Nat) (x:Rat):Int:=x.num*((L / x.den:Nat):Int)
theorem F4 (x:Rat):x*(x.den:Rat)=(x.num:Rat):=by
 have h1:x=(x.num:Rat) / ((x.den:Int):Rat):=by rw[<- Rat.divInt_eq_div];exact (Rat.num_divInt_den x).symm
 have h0:((x.den:Int):Rat)≠0:=by
  have:=x.den_pos;simp;omega
 have h2:(x.den:Rat)=((x.den:Int):Rat):=rfl;have h3:=Rat.mul_inv_cancel _ h0;rw[h2];generalize ((x.den:Int):Rat)=D at *;rw[Rat.div_def]at h1;grind
theorem Hw {L:Nat}{x:Rat} (h:x.den∣L):((tK L x:Int):Rat)=x*(L:Rat):=by
 obtain ⟨e,rfl⟩:=h;have:x.den*e / x.den=e:=Nat.mul_div_cancel_left _ x.den_pos;have h1:=F4 x;unfold tK;rw[this,Rat.intCast_mul,<- h1];have h2:(((x.den*e:Nat)):Rat)=(x.den:Rat)*(e:Rat):=by
  have:(((x.den*e:Nat):Int):Rat)=((x.den:Int):Rat)*((e:Int):Rat):=by rw[<- Rat.intCast_mul];congr 1
  exact this
 have h3:((e:Int):Rat)=(e:Rat):=rfl;rw[h2,h3];grind
def iy (l:List Rat):List Int:=l.map (tK (fI l))
theorem F5 {L:Nat}{x:Rat} (h:0<=x):0<=tK L x:=Int.mul_nonneg (Rat.num_nonneg.2 h) (Int.natCast_nonneg _)
def msL (l:List Rat):List Nat:=(iy l).map Int.toNat
theorem aax (l:List Rat):(msL l).length=l.length:=by simp[msL,iy]
theorem TF {l:List Rat} (h:∀x∈l,0<=x):(msL l).map (fun m=>((m:Nat):Rat))=l.map (·*(fI l:Rat)):=by
 unfold msL iy;rw[List.map_map,List.map_map];refine List.map_congr_left fun x hx=>?_
 have h1:=Hw (Hu hx);have h2:0<=tK (fI l) x:=F5 (h x hx);rw[<- h1];have h3:((((tK (fI l) x).toNat:Nat):Int):Rat)=((tK (fI l) x:Int):Rat):=by rw[Int.toNat_of_nonneg h2]
 exact h3
theorem rZ {x:Rat}{d:Int}{N:Nat} (hd:d≠0) (h:bM ((d:Rat)*x) N):x.den∣d.natAbs/\x.num.natAbs<=N:=by
 obtain ⟨M,h1,h2⟩:=h;have h3:(d*x.num:Int)=M*x.den:=by
  have h4:=F4 x;have h5:((d*x.num:Int):Rat)=((M*(x.den:Int):Int):Rat):=by
   rw[Rat.intCast_mul,Rat.intCast_mul,<- h1,<- h4];have:((x.den:Int):Rat)=(x.den:Rat):=rfl;rw[this];grind
  exact Rat.intCast_inj.1 h5
 have h6:d.natAbs*x.num.natAbs=M.natAbs*x.den:=by
  have:=congrArg Int.natAbs h3
  rwa [Int.natAbs_mul,Int.natAbs_mul,Int.natAbs_natCast]at this
 have hdv:x.den∣d.natAbs:=by
  have:x.den∣d.natAbs*x.num.natAbs:=⟨M.natAbs,by rw[h6,Nat.mul_comm]⟩
  exact Nat.Coprime.dvd_of_dvd_mul_right x.reduced.symm this
 refine ⟨hdv,?_⟩;have hle:x.den<=d.natAbs:=Nat.le_of_dvd (by omega) hdv;have h7:d.natAbs*x.num.natAbs<=d.natAbs*M.natAbs:=by
  rw[h6,Nat.mul_comm d.natAbs];exact Nat.mul_le_mul_left _ hle
 exact Nat.le_trans (Nat.le_of_mul_le_mul_left h7 (by omega)) h2
theorem TG {x:Rat}{d:Int}{N:Nat} (hd:d≠0) (hN:d.natAbs<=N) (h:bM ((d:Rat)*x) N):FB x N N:=by
 obtain ⟨h1,h2⟩:=rZ hd h;exact ⟨h2,Nat.le_trans (Nat.le_of_dvd (by omega) h1) hN⟩
theorem TH {l:List Rat}{d:Int}{N:Nat} (hd:d≠0) (h:∀x∈l,bM ((d:Rat)*x) N):∀z∈iy l,z.natAbs<=N:=by
 intro z hz;obtain ⟨x,hx,rfl⟩:=List.mem_map.1 hz;have hL:fI l∣d.natAbs:=Ht _ _ _ (Nat.one_dvd _) fun y hy=>by
  obtain ⟨q,hq,rfl⟩:=List.mem_map.1 hy;exact (rZ hd (h q hq)).1
 obtain ⟨e,he⟩:=hL;obtain ⟨M,h1,h2⟩:=h x hx;have h3:=Hw (Hu hx);have h4:(tK (fI l) x*(e:Int)).natAbs=M.natAbs:=by
  have hs:d=fI l*e\/d=-((fI l:Int)*e):=by
   rcases Int.natAbs_eq d with h|h
   ·left;rw[h,he];rfl
   ·right;rw[h,he];rfl
  have hc1:(((fI l:Int)*(e:Int):Int):Rat)=(fI l:Rat)*(e:Rat):=by rw[Rat.intCast_mul];rfl
  have hc2:((tK (fI l) x*(e:Int):Int):Rat)=x*(fI l:Rat)*(e:Rat):=by rw[Rat.intCast_mul,h3];rfl
  rcases hs with hs|hs
  ·have:((tK (fI l) x*(e:Int):Int):Rat)=((M:Int):Rat):=by
    rw[hc2,<- h1,hs,hc1];grind
   rw[Rat.intCast_inj.1 this]
  ·have:((tK (fI l) x*(e:Int):Int):Rat)=((-M:Int):Rat):=by
    rw[hc2,Rat.intCast_neg,<- h1,hs,Rat.intCast_neg,hc1];grind
   rw[Rat.intCast_inj.1 this,Int.natAbs_neg]
 have he0:e≠0:=by
  intro e0;subst e0;simp at he;exact hd he
 rw[Int.natAbs_mul,Int.natAbs_natCast]at h4;have:(tK (fI l) x).natAbs<=(tK (fI l) x).natAbs*e:=Nat.le_mul_of_pos_right _ (by omega);omega
theorem Mi:∀(l:List Int) (u:List Rat),u.length=l.length->aN l.length (fun k=>u.getD k 0*((l.getD k 0:Int):Rat))=dK l u
 |[],[],_=>rfl
 |[],_::_,h=>by simp at h
 |_::_,[],h=>by simp at h
 |c::l,x::u,h=>by
  rw[List.length_cons,Bz];simp only[List.getD_cons_zero,List.getD_cons_succ,dK];rw[Mi l u (by simpa using h)];grind
theorem Jf (t:Rat):∀(l:List Int) (p:List Rat),dK l (p.map (·*t))=dK l p*t
 |[],p=>by cases p<;>simp only[List.map,dK]<;>grind
 |c::l,[]=>by simp only[List.map,dK];grind
 |c::l,x::p=>by simp only[List.map,dK];rw[Jf t l p];grind
theorem Mj:∀(l:List Int) (c:Int) (p:List Rat),p.length=l.length+1->dK (l++[c]) p=dK l (p.take l.length)+(c:Rat)*p.getD l.length 0
 |[],c,[x],_=>by simp[dK];grind
 |[],c,[],h=>by simp at h
 |[],c,_::_::_,h=>by simp at h
 |a::l,c,[],h=>by simp at h
 |a::l,c,x::p,h=>by
  have ih:=Mj l c p (by simpa using h);simp only[List.cons_append,dK,List.length_cons,List.take_succ_cons,List.getD_cons_succ];rw[ih];grind
theorem yK {r:Row}{V:Nat} (h:r.av.length=V):(iY r).length=V+1:=by simp[iY,h]
theorem OM {r:Row}{V:Nat}{u:List Rat} (h:r.av.length=V) (hu:u.length=V+1):dK (iY r) u=dK r.av (u.take V)+(r.const:Rat)*u.getD V 0:=by
 unfold iY;rw[Mj _ _ _ (by omega),h]
theorem wT {r:Row}{V:Nat}{u:List Rat} (h:r.av.length=V) (hu:u.length=V+1) (h0:u.getD V 0≠0):dL r ((u.take V).map (·*(u.getD V 0)⁻¹))=dK (iY r) u*(u.getD V 0)⁻¹:=by
 unfold dL;rw[Jf,OM h hu];have:=Rat.mul_inv_cancel _ h0;grind
theorem Mk {V:Nat}{rows:List Row}{more:List (List Rat)}{u:List Rat} (hu:u.length=V+1) {j:Nat}{r:Row} (hj:rows[j]?=some r) (hr:r.av.length=V) :
  aN (V+1) (fun k=>u.getD k 0*((jX V rows more).getD k []).getD j 0)=dK (iY r) u:=by
 rw[<- Mi _ _ (by rw[yK hr,hu]),yK hr];refine aL fun k hk=>?_
 rw[CS (by omega)];have hjl:=(List.getElem?_eq_some_iff.1 hj).1;congr 1;rw[List.getD_eq_getElem?_getD,List.getElem?_append_left (by simpa[lF] using hjl)];simp[lF,hj,dQ]
theorem Yk {V:Nat}{rows:List Row}{c u:List Rat}:aN (V+1) (fun k=>u.getD k 0*((jX V rows [c]).getD k []).getD rows.length 0)=aN (V+1) (fun k=>u.getD k 0*c.getD k 0):=by
 refine aL fun k hk=>?_
 rw[CS (by omega)];congr 1;rw[List.getD_eq_getElem?_getD,List.getElem?_append_right (by simp[lF])];simp[lF]
theorem CV {V:Nat}{x:Int}{u:List Rat}:aN (V+1) (fun k=>u.getD k 0*(jo V x).getD k 0)=u.getD V 0*(x:Rat):=by
 show aN V _+u.getD V 0*(jo V x).getD V 0=_
 rw[aL (g:=fun _=>0) (fun k hk=>by rw[zN hk];grind),gG,zO];grind
theorem aay {V:Nat}{row:Row}{u:List Rat} (hu:u.length=V+1) (hr:row.av.length=V):aN (V+1) (fun k=>u.getD k 0*((iY row).map (fun z:Int=>(z:Rat))).getD k 0)=dK (iY row) u:=by
 rw[<- Mi _ _ (by rw[yK hr,hu]),yK hr];refine aL fun k hk=>?_
 congr 1;simp only[List.getD_eq_getElem?_getD,List.getElem?_map];cases (iY row)[k]?<;>rfl
theorem zP {V:Nat}{rows:List Row}{y:List Rat}{k:Nat} (hk:k<=V) (hy:y.length=rows.length):aN rows.length (fun j=>((jX V rows []).getD k []).getD j 0*y.getD j 0)=bX k rows y:=by
 rw[CS hk];simp only[List.map_nil,List.append_nil];rw[Hr k rows y (by omega),List.take_of_length_le (by omega)]
theorem Jg {V:Nat}{rows:List Row}{c y:List Rat}{k:Nat} (hk:k<=V) (hy:y.length=rows.length+1) :
  aN (rows.length+1) (fun j=>((jX V rows [c]).getD k []).getD j 0*y.getD j 0)=bX k rows (y.take rows.length)+c.getD k 0*y.getD rows.length 0:=by
 rw[CS hk]
 show aN rows.length _+_=_
 have h1:(lF rows k).length=rows.length:=by simp[lF]
 rw[aL (g:=fun j=>(lF rows k).getD j 0*y.getD j 0) (fun j hj=>by
  congr 1;rw[List.getD_eq_getElem?_getD,List.getElem?_append_left (by omega),<- List.getD_eq_getElem?_getD]),Hr k rows y (by omega)]
 congr 1
 show (lF rows k++[c.getD k 0]).getD rows.length 0*_=_
 congr 1;rw[List.getD_eq_getElem?_getD,List.getElem?_append_right (by omega),h1,Nat.sub_self];rfl
def jh (m:List (List Rat)) (rhs:List Rat) (ans:List Rat ⊕ List Rat):Prop:=match ans with
 |.inl y=>y.length=(m.headD []).length/\(∀j,j < (m.headD []).length->0<=y.getD j 0)/\∀k,k < m.length->aN (m.headD []).length (fun j=>(m.getD k []).getD j 0*y.getD j 0)=rhs.getD k 0
 |.inr u=>u.length=m.length/\(∀j,j < (m.headD []).length->0<=aN m.length (fun k=>u.getD k 0*(m.getD k []).getD j 0))/\aN m.length (fun k=>u.getD k 0*rhs.getD k 0) < 0
def TI (ans:List Rat ⊕ List Rat):List Rat:=match ans with|.inl y=>y|.inr u=>u
def qg (ans:List Rat ⊕ List Rat) (N:Nat):Prop:=∃d:Int,d≠0/\d.natAbs<=N/\∀x∈TI ans,bM ((d:Rat)*x) N
abbrev oC:Nat:=4611686018427387904
def qQ (q:Rat):Bool:=decide (q.num.natAbs<=oC)&&decide (q.den<=oC)
def iM (l:List Rat) (b:Rat):Option (List Rat):=if (l.map (·*b⁻¹)).all qQ then some (l.map (·*b⁻¹)) else none
def lM (l:List Rat):Option (List Nat):=if (iy l).all (fun z=>decide (z.natAbs<=oC)) then some (msL l) else none
inductive BD where
 |pt (p:List Rat)
 |ml (ms:List Nat)
 |lim
def BF (V:Nat) (ans:List Rat ⊕ List Rat):BD:=match ans with
 |.inl y=>match lM y with|some ms=>.ml ms|none=>.lim
 |.inr u=>match iM (u.take V) (u.getD V 0) with|some p=>.pt p|none=>.lim
def iN (V:Nat) (rows:List Row):Bool:=rows.all (fun r=>(r.const::r.av).all fun c=>decide (-1000<=c)&&decide (c<=1000))&&decide (V<=4)
def yL (V:Nat) (rows:List Row):BD->Prop
 |.pt p=>p.length=V/\p.all qQ=true/\∀r∈rows,0<=dL r p
 |.ml ms=>ms.length=rows.length/\ms≠[]/\(∀m∈ms,m<=oC)/\kQ (bF (List.replicate V zW) ⟨true,0⟩ rows ms).1 (bF (List.replicate V zW) ⟨true,0⟩ rows ms).2=true
 |.lim=>iN V rows=false
theorem jy {l:List Rat}{k:Nat} (hk:k < l.length):l.getD k 0∈l:=by
 rw[List.getD_eq_getElem?_getD,List.getElem?_eq_getElem hk];exact List.getElem_mem hk
theorem qj {l:List Rat}{n:Nat} (hl:l.length=n) (h:∀j,j < n->0<=l.getD j 0):∀x∈l,0<=x:=by
 intro x hx;obtain ⟨k,hk,rfl⟩:=List.mem_iff_getElem.1 hx;have:=h k (by omega)
 rwa [List.getD_eq_getElem?_getD,List.getElem?_eq_getElem hk]at this
theorem QK {d:Int}{N:Nat}{x b:Rat} (hd:d≠0) (hx:bM ((d:Rat)*x) N) (hb:bM ((d:Rat)*b) N) (h0:b≠0):(x*b⁻¹).num.natAbs<=N/\(x*b⁻¹).den<=N:=by
 obtain ⟨B',hb1,hb2⟩:=hb;have hdq:(d:Rat)≠0:=fun h=>hd (Rat.intCast_inj.1 (by rw[h];rfl))
 have hB0:B'≠0:=by
  intro h;subst h
  rcases Rat.mul_eq_zero.1 (hb1.trans rc0) with h|h
  ·exact hdq h
  ·exact h0 h
 have h1:(B':Rat)*(x*b⁻¹)=(d:Rat)*x:=by
  rw[<- hb1];have:=Rat.mul_inv_cancel _ h0;grind
 have h2:bM ((B':Rat)*(x*b⁻¹)) N:=by rw[h1];exact hx
 obtain ⟨h3,h4⟩:=rZ hB0 h2;exact ⟨h4,Nat.le_trans (Nat.le_of_dvd (by omega) h3) hb2⟩
theorem Dw {l u:List Rat}{b:Rat}{N:Nat} (hN:N<=oC) (hsub:∀x∈l,x∈u) (hb:b∈u) (h0:b≠0) (hB:∃d:Int,d≠0/\d.natAbs<=N/\∀x∈u,bM ((d:Rat)*x) N):iM l b≠none:=by
 obtain ⟨d,hd,hd2,hI⟩:=hB;unfold iM;rw[if_pos]
 ·exact fun h=>nomatch h
 ·rw[List.all_eq_true]
  intro q hq;obtain ⟨x,hx,rfl⟩:=List.mem_map.1 hq;obtain ⟨h1,h2⟩:=QK hd (hI x (hsub x hx)) (hI b hb) h0;simp only[qQ,Bool.and_eq_true,decide_eq_true_eq];exact ⟨Nat.le_trans h1 hN,Nat.le_trans h2 hN⟩
theorem Dx {l:List Rat}{N:Nat} (hN:N<=oC) (hB:∃d:Int,d≠0/\∀x∈l,bM ((d:Rat)*x) N):lM l≠none:=by
 obtain ⟨d,hd,hI⟩:=hB;unfold lM;rw[if_pos]
 ·exact fun h=>nomatch h
 ·rw[List.all_eq_true]
  intro z hz;have:=TH hd hI z hz;simp only[decide_eq_true_eq];omega
theorem xI {l:List Rat}{ms:List Nat} (hl:∀x∈l,0<=x) (h:lM l=some ms):ms=msL l/\ms.length=l.length/\(∀m∈ms,m<=oC)/\ms.map (fun m=>((m:Nat):Rat))=l.map (·*(fI l:Rat)):=by
 unfold lM at h;split at h
 ·rename_i ha
  injection h with h
  subst h;refine ⟨rfl,aax l,fun m hm=>?_,TF hl⟩;obtain ⟨z,hz,rfl⟩:=List.mem_map.1 hm;have:=List.all_eq_true.1 ha z hz;simp only[decide_eq_true_eq]at this;omega
 ·cases h
theorem yM {n:Nat} (h:0 < n):(0:Rat) < (n:Rat):=by
 have:((0:Int):Rat) < ((n:Int):Rat):=Rat.intCast_lt_intCast.2 (by omega);exact this
theorem OO {a b:Int} (h:(a:Rat)=(b:Rat)):a=b:=Rat.intCast_inj.1 h
theorem F6 {rows:List Row}{y:List Rat}{ms:List Nat}{L:Rat} (h:ms.map (fun m=>((m:Nat):Rat))=y.map (·*L)) (k:Nat):((kr k rows ms:Int):Rat)=bX k rows y*L:=by
 rw[vN,h,qd]
theorem BG {V:Nat}{rows:List Row}{y:List Rat}{ms:List Nat}{L:Rat} (hr:∀r∈rows,r.av.length=V) (hL:0 < L) (h:ms.map (fun m=>((m:Nat):Rat))=y.map (·*L))
  (h0:∀k,k < V->bX k rows y=0) (h1:bX V rows y=-1):kQ (bF (List.replicate V zW) ⟨true,0⟩ rows ms).1 (bF (List.replicate V zW) ⟨true,0⟩ rows ms).2=true:=by
 refine VH hr (fun k hk=>?_) ?_
 ·refine OO ?_
  rw[F6 h,h0 k hk,rc0];grind
 ·have:=F6 (rows:=rows) h V
  rw[h1]at this;refine Rat.intCast_lt_intCast.1 ?_;rw[this,rc0];grind
theorem Yl {V:Nat}{rows:List Row}{ans:List Rat ⊕ List Rat} (hr:∀r∈rows,r.av.length=V) (ha:jh (jX V rows []) (jo V (-1)) ans) (hb:iN V rows=true->qg ans oC):yL V rows (BF V ans):=by
 unfold jh at ha;rw[nO,qc]at ha;simp only[List.length_nil,Nat.add_zero]at ha;cases ans with
 |inl y =>
  obtain ⟨a1,a2,a3⟩:=ha;have hy0:=qj a1 a2;have hL:=yM (CU y);have e0:∀k,k < V->bX k rows y=0:=fun k hk=>by
   rw[<- zP (V:=V) (k:=k) (by omega) a1,a3 k (by omega),zN hk]
  have e1:bX V rows y=-1:=by
   rw[<- zP (Nat.le_refl _) a1,a3 V (by omega),zO];rfl
  simp only[BF];cases hm:lM y with
  |none =>
   simp only[yL];rw[Bool.eq_false_iff];intro hmod;obtain ⟨d,hd,_,hI⟩:=hb hmod;exact Dx (Nat.le_refl _) ⟨d,hd,hI⟩ hm
  |some ms =>
   obtain ⟨_,b2,b3,b4⟩:=xI hy0 hm;refine ⟨b2.trans a1,fun e=>?_,b3,BG hr hL b4 e0 e1⟩;subst e;have:y=[]:=List.eq_nil_of_length_eq_zero b2.symm;subst this;have:bX V rows []=0:=by cases rows<;>rfl
   rw[this]at e1;exact absurd e1 (by grind)
 |inr u =>
  obtain ⟨a1,a2,a3⟩:=ha;rw[CV]at a3;have hpos:0 < u.getD V 0:=by
   have:((-1:Int):Rat)=-1:=rfl;rw[this]at a3;grind
  have hne:u.getD V 0≠0:=fun h=>by rw[h]at hpos;exact absurd hpos (by grind)
  simp only[BF];cases hp:iM (u.take V) (u.getD V 0) with
  |none =>
   simp only[yL];rw[Bool.eq_false_iff];intro hmod;exact Dw (Nat.le_refl _) (fun x hx=>List.mem_of_mem_take hx) (jy (by omega)) hne (hb hmod) hp
  |some p =>
   unfold iM at hp;split at hp
   ·rename_i hall
    injection hp with hp
    subst hp;refine ⟨by simp;omega,hall,fun r hr'=>?_⟩;obtain ⟨j,hj,rfl⟩:=List.mem_iff_getElem.1 hr';have h2:=a2 j hj;rw[Mk a1 (List.getElem?_eq_getElem hj) (hr _ hr')]at h2;rw[wT (hr _ hr') a1 hne];exact Rat.mul_nonneg h2 (by have:=Rat.inv_pos.2 hpos;grind)
   ·cases hp
theorem F7 {V:Nat}{rows:List Row}{y p:List Rat} (hr:∀r∈rows,r.av.length=V) (hp:∀r∈rows,0<=dL r p) (hy:∀x∈y,0<=x) (h0:∀k,k < V->bX k rows y=0) (h1:bX V rows y=-1):False:=by
 have h:=BG hr (yM (CU y)) (TF hy) h0 h1;rw[Dn hr hp]at h;cases h
inductive yN where
 |cert (sc:Nat) (ms:List Nat)
 |pt (p:List Rat)
 |lim
def F8 (y:List Rat):yN:=match lM (y++[1]) with|some l=>.cert (l.getD y.length 0) (l.take y.length)|none=>.lim
def Jh (V:Nat) (u:List Rat):yN:=match iM (u.take V) (u.getD V 0) with|some p=>.pt p|none=>.lim
def below (row:Row):Row:=⟨!row.av.isEmpty,row.av.map (fun c=>-c),-row.const-1⟩
def vO (V:Nat) (rows:List Row) (row:Row):yN->Prop
 |.cert sc ms=>ms.length=rows.length/\(∀m∈ms,m<=oC)/\sc<=oC/\gZ (bF (List.replicate V zW) ⟨true,0⟩ rows ms) row sc=true
 |.pt p=>p.length=V/\p.all qQ=true/\(∀r∈rows,0<=dL r p)/\dL row p < 0
 |.lim=>iN V (rows++[row])=false
theorem aaz {V:Nat}{rows:List Row}{row:Row}{y:List Rat} (hr:∀r∈rows,r.av.length=V) (hrow:row.av.length=V) (hy:y.length=rows.length) (hy0:∀x∈y,0<=x)
  (h0:∀k,k < V->bX k rows y=(dQ row k:Rat)) (h1:bX V rows y<=(row.const:Rat)) (hb:iN V (rows++[row])=true->qg (.inl y) oC):vO V rows row (F8 y):=by
 have hy1:∀x∈y++[1],(0:Rat)<=x:=fun x hx=>by
  rcases List.mem_append.1 hx with hx|hx
  ·exact hy0 x hx
  ·rw[List.mem_singleton.1 hx];grind
 unfold F8;cases hm:lM (y++[1]) with
 |none =>
  simp only[vO];rw[Bool.eq_false_iff];intro hmod;obtain ⟨d,hd,hdN,hI⟩:=hb hmod;refine Dx (Nat.le_refl _) ⟨d,hd,fun x hx=>?_⟩ hm;rcases List.mem_append.1 hx with hx|hx
  ·exact hI x hx
  ·rw[List.mem_singleton.1 hx];exact ⟨d,by grind,hdN⟩
 |some l =>
  obtain ⟨b1,b2,b3,b4⟩:=xI hy1 hm;rw[List.length_append,List.length_singleton]at b2;have hlen:y.length < l.length:=by omega
  have hmem:l.getD y.length 0∈l:=by
   rw[List.getD_eq_getElem?_getD,List.getElem?_eq_getElem hlen];exact List.getElem_mem hlen
  have hL:=yM (CU (y++[1]));have hsc:((l.getD y.length 0:Nat):Rat)=(fI (y++[1]):Rat):=by
   have h5:=congrArg (fun q=>q[y.length]?) b4;simp only[List.getElem?_map,List.getElem?_append_right (Nat.le_refl _),Nat.sub_self,List.getElem?_eq_getElem hlen]at h5;simp only[List.getElem?_cons_zero,Option.map_some,Option.some.injEq]at h5;rw[List.getD_eq_getElem?_getD,List.getElem?_eq_getElem hlen];simp only[Option.getD_some];rw[h5];grind
  have hms:(l.take y.length).map (fun m=>((m:Nat):Rat))=y.map (·*(fI (y++[1]):Rat)):=by
   rw[List.map_take,b4,List.map_append,List.take_left' (by simp)]
  have ahx:l.getD y.length 0≠0:=fun e=>by
   rw[e]at hsc;rw[<- hsc]at hL;exact absurd hL (by decide)
  refine ⟨by simp;omega,fun m hm=>b3 m (List.mem_of_mem_take hm),b3 _ hmem,VI hr hrow ahx (fun k hk=>?_) ?_⟩
  ·refine OO ?_
   rw[F6 hms,h0 k hk,Rat.intCast_mul];have:((((l.getD y.length 0:Nat)):Int):Rat)=((l.getD y.length 0:Nat):Rat):=rfl;rw[this,hsc];grind
  ·refine Rat.intCast_le_intCast.1 ?_
   rw[F6 hms,Rat.intCast_mul];have:((((l.getD y.length 0:Nat)):Int):Rat)=((l.getD y.length 0:Nat):Rat):=rfl;rw[this,hsc];have:=Rat.mul_le_mul_of_nonneg_right h1 (show (0:Rat)<=(fI (y++[1]):Rat) by grind);grind
theorem aaA {V:Nat}{rows:List Row}{row:Row}{u:List Rat} (hr:∀r∈rows,r.av.length=V) (hrow:row.av.length=V) (hu:u.length=V+1) (hpos:0 < u.getD V 0)
  (h0:∀r∈rows,0<=dK (iY r) u) (h1:∀p,p=(u.take V).map (·*(u.getD V 0)⁻¹)->dL row p < 0) (hb:iN V (rows++[row])=true->qg (.inr u) oC):vO V rows row (Jh V u):=by
 have hne:u.getD V 0≠0:=fun h=>by rw[h]at hpos;exact absurd hpos (by grind)
 unfold Jh;cases hp:iM (u.take V) (u.getD V 0) with
 |none =>
  simp only[vO];rw[Bool.eq_false_iff];intro hmod;exact Dw (Nat.le_refl _) (fun x hx=>List.mem_of_mem_take hx) (jy (by omega)) hne (hb hmod) hp
 |some p =>
  unfold iM at hp;split at hp
  ·rename_i hall
   injection hp with hp
   subst hp;refine ⟨by simp;omega,hall,fun r hr'=>?_,h1 _ rfl⟩;rw[wT (hr _ hr') hu hne];exact Rat.mul_nonneg (h0 r hr') (by have:=Rat.inv_pos.2 hpos;grind)
  ·cases hp
theorem QL {V:Nat}{rows:List Row}{row:Row} (h:iN V (rows++[row])=true):iN V rows=true:=by
 simp only[iN,List.all_append,Bool.and_eq_true]at h ⊢;exact ⟨h.1.1,h.2⟩
theorem Ji (t:Rat):∀(l:List Int) (p u:List Rat),p.length=u.length->dK l (List.zipWith (fun x y=>x+t*y) p u)=dK l p+t*dK l u
 |[],p,u,_=>by simp only[dK];grind
 |c::l,[],[],_=>by simp only[List.zipWith,dK];grind
 |c::l,[],_::_,h=>by simp at h
 |c::l,_::_,[],h=>by simp at h
 |c::l,x::p,y::u,h=>by
  simp only[List.zipWith_cons_cons,dK];rw[Ji t l p u (by simpa using h)];grind
theorem OP:∀(l:List Int) (p:List Rat),dK (l.map (fun c=>-c)) p=- dK l p
 |[],p=>by cases p<;>simp only[List.map,dK]<;>grind
 |c::l,[]=>by simp only[List.map,dK];grind
 |c::l,x::p=>by simp only[List.map,dK];rw[OP l p,Rat.intCast_neg];grind
theorem OQ (row:Row) (p:List Rat):dL (below row) p=- dL row p-1:=by
 unfold dL below;simp only;rw[OP,Int.sub_eq_add_neg,Rat.intCast_add,Rat.intCast_neg,Rat.intCast_neg,rc1];grind
theorem Nv {V:Nat}{rows:List Row}{row:Row}{u p:List Rat} (hr:∀r∈rows,r.av.length=V) (hrow:row.av.length=V) (hu:u.length=V+1) (h0:u.getD V 0=0)
  (h1:∀r∈rows,0<=dK (iY r) u) (h2:dK (iY row) u < 0) (hp:p.length=V) (h3:∀r∈rows,0<=dL r p):∃q:List Rat,∀r∈rows++[below row],0<=dL r q:=by
 have hd:∀r:Row,r.av.length=V->dK (iY r) u=dK r.av (u.take V):=fun r hl=>by rw[OM hl hu,h0];grind
 have hpt:p.length=(u.take V).length:=by simp;omega
 rw[hd row hrow]at h2;obtain ⟨t,ht0,ht1⟩:∃t:Rat,0<=t/\dL row p+t*dK row.av (u.take V)<=-1:=by
  by_cases hc:dL row p<=-1
  ·exact ⟨0,by grind,by grind⟩
  ·have hc':0 < dL row p+1:=by grind
   have hg:0 < - dK row.av (u.take V):=by grind
   have hgi:=Rat.inv_pos.2 hg;refine ⟨(dL row p+1)*(- dK row.av (u.take V))⁻¹,by have:=Rat.mul_pos hc' hgi;grind,?_⟩;have hn:- dK row.av (u.take V)≠0:=by grind
   have:=Rat.mul_inv_cancel _ hn;generalize dK row.av (u.take V)=g at *;generalize dL row p=v at *;have e:(v+1)*(-g)⁻¹*g=-(v+1)*((-g)*(-g)⁻¹):=by grind
   rw[e,this];grind
 refine ⟨List.zipWith (fun x y=>x+t*y) p (u.take V),fun r hr'=>?_⟩;have hv:∀r:Row,dL r (List.zipWith (fun x y=>x+t*y) p (u.take V))=dL r p+t*dK r.av (u.take V):=fun r=>by
  unfold dL;rw[Ji t _ _ _ hpt];grind
 rcases List.mem_append.1 hr' with hr'|hr'
 ·rw[hv]
  have h4:=h1 r hr';rw[hd r (hr r hr')]at h4;have h5:=Rat.mul_nonneg ht0 h4;have h6:=h3 r hr';grind
 ·rw[List.mem_singleton.1 hr',OQ,hv];grind
def r9 (V:Nat) (rows:List Row) (row:Row) (ans:List Rat ⊕ List Rat):Prop:=jh (jX V rows [jo V 1]) ((iY row).map fun z:Int=>(z:Rat)) ans
theorem aaB {V:Nat}{rows:List Row}{row:Row}{y:List Rat} (hr:∀r∈rows,r.av.length=V) (hrow:row.av.length=V) (ha:r9 V rows row (.inl y)) (hb:iN V (rows++[row])=true->qg (.inl y) oC) :
  vO V rows row (F8 (y.take rows.length)):=by
 unfold r9 jh at ha;rw[nO,qc]at ha;simp only[List.length_singleton]at ha;obtain ⟨a1,a2,a3⟩:=ha;have hy0:=qj a1 a2;have hfr:∀k,k<=V->((iY row).map (fun z:Int=>(z:Rat))).getD k 0=(dQ row k:Rat):=fun k hk=>by
  simp only[List.getD_eq_getElem?_getD,List.getElem?_map,dQ];cases (iY row)[k]?<;>rfl
 refine aaz hr hrow (by simp;omega) (fun x hx=>hy0 x (List.mem_of_mem_take hx)) (fun k hk=>?_) ?_ (fun hm=>?_)
 ·have:=a3 k (by omega)
  rw[Jg (by omega) a1,zN hk,hfr k (by omega)]at this;rw[<- this];grind
 ·have:=a3 V (by omega)
  rw[Jg (Nat.le_refl _) a1,zO,hfr V (Nat.le_refl _),gP hrow]at this;have h1:=hy0 (y.getD rows.length 0) (jy (by omega));rw[<- this,rc1];grind
 ·obtain ⟨d,hd,hdN,hI⟩:=hb hm
  exact ⟨d,hd,hdN,fun x hx=>hI x (List.mem_of_mem_take hx)⟩
theorem Ml {V:Nat}{rows:List Row}{row:Row}{u:List Rat} (hr:∀r∈rows,r.av.length=V) (hrow:row.av.length=V) (ha:r9 V rows row (.inr u)) :
  u.length=V+1/\(∀r∈rows,0<=dK (iY r) u)/\0<=u.getD V 0/\dK (iY row) u < 0:=by
 unfold r9 jh at ha;rw[nO,qc]at ha;simp only[List.length_singleton]at ha;obtain ⟨a1,a2,a3⟩:=ha;refine ⟨a1,fun r hr'=>?_,?_,?_⟩
 ·obtain ⟨j,hj,rfl⟩:=List.mem_iff_getElem.1 hr'
  have h2:=a2 j (by omega)
  rwa [Mk a1 (List.getElem?_eq_getElem hj) (hr _ hr')]at h2
 ·have h2:=a2 rows.length (by omega)
  rw[Yk,CV,rc1]at h2;grind
 ·rwa [aay a1 hrow]at a3
theorem acy {V:Nat}{rows:List Row}{row:Row}{u:List Rat} (hr:∀r∈rows,r.av.length=V) (hrow:row.av.length=V) (ha:r9 V rows row (.inr u)) (hpos:0 < u.getD V 0) (hb:iN V (rows++[row])=true->qg (.inr u) oC) :
  vO V rows row (Jh V u):=by
 obtain ⟨a1,a2,a3,a4⟩:=Ml hr hrow ha;have hne:u.getD V 0≠0:=fun h=>by rw[h]at hpos;exact absurd hpos (by grind)
 refine aaA hr hrow a1 hpos a2 (fun p hp=>?_) hb;rw[hp,wT hrow a1 hne];have h1:=Rat.inv_pos.2 hpos;have h2:=Rat.mul_pos (show 0 < - dK (iY row) u by grind) h1;grind
theorem aaC {V:Nat}{rows:List Row}{row:Row}{u p:List Rat}{ans:List Rat ⊕ List Rat} (hr:∀r∈rows,r.av.length=V) (hrow:row.av.length=V) (ha:r9 V rows row (.inr u)) (hpos:¬ 0 < u.getD V 0)
  (hp:p.length=V) (hp1:∀r∈rows,0<=dL r p) (ha2:jh (jX V (rows++[below row]) []) (jo V (-1)) ans) (hb:iN V (rows++[row])=true->qg ans oC) :
  ∃w,ans=.inr w/\w.length=V+1/\0 < w.getD V 0/\vO V rows row (Jh V w):=by
 obtain ⟨a1,a2,a3,a4⟩:=Ml hr hrow ha;have h0:u.getD V 0=0:=by grind
 obtain ⟨q,hq⟩:=Nv hr hrow a1 h0 a2 a4 hp hp1;have hr2:∀r∈rows++[below row],r.av.length=V:=fun r hr'=>by
  rcases List.mem_append.1 hr' with hr'|hr'
  ·exact hr r hr'
  ·rw[List.mem_singleton.1 hr'];simp[below,hrow]
 unfold jh at ha2;rw[nO,qc]at ha2;simp only[List.length_nil,Nat.add_zero]at ha2;cases ans with
 |inl y =>
  exfalso;obtain ⟨b1,b2,b3⟩:=ha2;refine F7 hr2 hq (qj b1 b2) (fun k hk=>?_) ?_
  ·rw[<- zP (V:=V) (k:=k) (by omega) b1,b3 k (by omega),zN hk]
  ·rw[<- zP (Nat.le_refl _) b1,b3 V (by omega),zO];rfl
 |inr w =>
  obtain ⟨b1,b2,b3⟩:=ha2;rw[CV]at b3;have hw:0 < w.getD V 0:=by
   have:((-1:Int):Rat)=-1:=rfl;rw[this]at b3;grind
  have hne:w.getD V 0≠0:=fun h=>by rw[h]at hw;exact absurd hw (by grind)
  have hd:∀r∈rows++[below row],0<=dK (iY r) w:=fun r hr'=>by
   obtain ⟨j,hj,rfl⟩:=List.mem_iff_getElem.1 hr';have h2:=b2 j hj
   rwa [Mk b1 (List.getElem?_eq_getElem hj) (hr2 _ hr')]at h2
  refine ⟨w,rfl,b1,hw,aaA hr hrow b1 hw (fun r hr'=>hd r (by simp[hr'])) (fun p hp=>?_) hb⟩;have h3:=wT (r:=below row) (by simp[below,hrow]) b1 hne;have h4:=Rat.mul_nonneg (hd (below row) (by simp)) (show 0<=(w.getD V 0)⁻¹ by have:=Rat.inv_pos.2 hw;grind);rw[<- h3,<- hp,OQ]at h4;grind
theorem Ym {V:Nat}{rows:List Row}{row:Row}{ms:List Nat} (h:yL V rows (.ml ms)):vO V rows row (.cert 0 ms):=by
 obtain ⟨h1,_,h3,h4⟩:=h;refine ⟨h1,h3,by decide,?_⟩;unfold gZ;rw[if_pos rfl];exact h4
structure lC (m:List (List Rat)) (rhs:List Rat) (T:Tab):Prop where
 ok:T.Ok m.length ((m.headD []).length+m.length+1)
 ak:T.ak=(m.headD []).length
 inv:Inv m.length (m.headD []).length (A0 m rhs) (toS T)
 det:DN m.length (A0 m rhs) (toS T)≠0
 adM:m.length<=5->D (uz m.length (A0 m rhs) (toS T))≠0
structure wU (m:List (List Rat)) (rhs:List Rat) (c:Nat):Prop where
 one:1<=c
 ms:∀r∈m,∀x∈r,bM x c
 bs:∀x∈rhs,bM x c
variable {m:List (List Rat)}{rhs:List Rat}{c:Nat}{T:Tab}
theorem F9 (c:Nat):bM 0 c:=⟨0,rfl,Nat.zero_le _⟩
theorem CW {l:List Rat}{c:Nat} (h:∀x∈l,bM x c) (k:Nat):bM (l.getD k 0) c:=by
 by_cases hk:k < l.length
 ·exact h _ (jy hk)
 ·rw[List.getD_eq_getElem?_getD,List.getElem?_eq_none (by omega)];exact F9 c
theorem wU.entry (h:wU m rhs c) (k j:Nat):bM ((m.getD k []).getD j 0) c:=by
 by_cases hk:k < m.length
 ·have:m.getD k []∈m:=by
   rw[List.getD_eq_getElem?_getD,List.getElem?_eq_getElem hk];exact List.getElem_mem hk
  exact CW (h.ms _ this) j
 ·have e:m.getD k []=[]:=by rw[List.getD_eq_getElem?_getD,List.getElem?_eq_none (by omega)];rfl
  rw[e];exact F9 c
theorem aaD {f:Bool}{x:Rat}{c:Nat} (h:bM x c):bM (kE f x) c:=by
 unfold kE;split
 ·exact h.neg
 ·exact h
theorem TJ (h:wU m rhs c) (ak W i k j:Nat):bM (bB.entry ak W i (m.getD k []) (rhs.getD k 0) j) c:=by
 unfold bB.entry;split
 ·exact ⟨1,rfl,h.one⟩
 ·refine aaD ?_
  split
  ·exact h.entry k j
  ·split
   ·exact CW h.bs k
   ·exact F9 c
theorem adN (h:wU m rhs c) {k:Nat} (hk:k < m.length) {j:Nat} (hj:j<=(m.headD []).length+m.length):bM (A0 m rhs k j) c:=by
 rw[Qt hk hj];exact TJ h _ _ _ _ _
theorem acz:D (fun l k=>if k=l then 1 else 0)=1:=by
 simp[D,bB.d5,bB.d4,bB.d3,bB.d2]
 try grind
theorem BH:lC m rhs (iq m rhs):=by
 refine ⟨XZ,rfl,Vi,?_,fun hn=>?_⟩
 ·rw[aaw (fun k l hk hl=>by rw[nX hl,zC hk hl])];decide
 ·have:uz m.length (A0 m rhs) (toS (iq m rhs))=fun l k=>if k=l then 1 else 0:=by
   funext l k;unfold uz
   by_cases hl:l < m.length
   ·rw[if_pos hl]
    by_cases hk:k < m.length
    ·rw[if_pos hk,nX hl,zC hk hl]
    ·rw[if_neg hk,if_neg (by omega)]
   ·rw[if_neg hl]
  rw[this,acz];decide
theorem lC.next (h:lC m rhs T) {q:Nat} (he:d9 T=some q):∃p x,mY T q T.rows 0 none=some (p,x)/\p < m.length/\q < (m.headD []).length/\0 < (toS T).r p q/\xD T=some (gT T p q)/\lC m rhs (gT T p q):=by
 have hE:=uJ he;have hi:=h.inv;rw[<- h.ak]at hi;cases hl:mY T q T.rows 0 none with
 |none =>
  obtain ⟨i,hin,hp⟩:=hi.row hE.1 hE.2.1;exact absurd hp (FJ h.ok hl i hin)
 |some pq =>
  obtain ⟨p,x⟩:=pq;have hL:=FI h.ok hl;rw[h.ak]at hE hi hL;have hq:q < (m.headD []).length:=hE.1;refine ⟨p,x,rfl,hL.1,hq,hL.2.1,by simp[xD,he,hl],Oo h.ok hL.1,h.ak,?_,?_,fun hn=>?_⟩
  ·rw[rU h.ok hL.1];exact hi.piv hL.1 hq hL.2.1 hL.ratio
  ·rw[rU h.ok hL.1];exact hi.Yi hL.1 hq hL.2.1 h.det
  ·rw[rU h.ok hL.1];exact hi.aau hn hL.1 hq hL.2.1 (h.adM hn)
theorem lC.ends (h:lC m rhs T):∃k T',vE (k+1) T=some T':=by
 have hi:=h.inv;rw[<- h.ak]at hi;obtain ⟨k,T',h1,_⟩:=Vh h.ok hi (fun _=>True) trivial (fun _ _ _ _ _ _ _=>trivial);exact ⟨k,T',h1⟩
theorem Eu {k:Nat}{T T':Tab} (h:vE (k+1) T=some T') (he:d9 T=none):T'=T:=by
 simp only[vE,he]at h;injection h with h;exact h.symm
theorem Ev {k:Nat}{T T' T1:Tab}{q:Nat} (h:vE (k+1) T=some T') (he:d9 T=some q) (hs:xD T=some T1):vE k T1=some T':=by
 simp only[vE,he,hs]at h;exact h
def kU (n c:Nat):Nat:=(n+2)*(n*c) ^ n
theorem lC.bound (h:lC m rhs T) (hI:wU m rhs c):∃d:Int,d≠0/\d.natAbs<=(m.length*c) ^ m.length/\(∀i,i < m.length->∀j,j<=(m.headD []).length+m.length->bM ((d:Rat)*(toS T).r i j) ((m.length*c) ^ m.length)) /\
  ∀j,j<=(m.headD []).length+m.length->bM ((d:Rat)*(toS T).c j) ((m.length+1)*(m.length*c) ^ m.length) :=
 h.inv.Yj (fun k hk j hj=>adN hI hk hj) h.det
theorem lC.acA (h:lC m rhs T) (hI:wU m rhs c) (hn:m.length<=5):∃d:Int,d≠0/\d.natAbs<=120*c ^ 5/\(∀i,i < m.length->∀j,j<=(m.headD []).length+m.length->bM ((d:Rat)*(toS T).r i j) (120*c ^ 5)) /\
  ∀j,j<=(m.headD []).length+m.length->bM ((d:Rat)*(toS T).c j) (6*(120*c ^ 5)) :=
 h.inv.bounded hn hI.one (fun k hk j hj=>adN hI hk hj) (h.adM hn)
theorem Xb (n c:Nat):(n*c) ^ n<=kU n c:=Nat.le_mul_of_pos_left _ (by omega)
theorem ahy (n c:Nat):(n+1)*(n*c) ^ n<=kU n c:=Nat.mul_le_mul_right _ (by omega)
theorem lC.Xc (h:lC m rhs T) (hI:wU m rhs c):∀r∈T.rows,∀x∈r,FB x (kU m.length c) (kU m.length c):=by
 intro r hr x hx;obtain ⟨d,hd,hdN,h1,_⟩:=h.bound hI;obtain ⟨i,hi,rfl⟩:=List.mem_iff_getElem.1 hr;obtain ⟨j,hj,rfl⟩:=List.mem_iff_getElem.1 hx;have hin:i < m.length:=by rw[<- h.ok.rn];exact hi
 have hjw:=h.ok.rw' _ (List.getElem_mem hi);have:=h1 i hin j (by omega);have he:(toS T).r i j=T.rows[i][j]:=by
  simp[toS,Tab.row,List.getD_eq_getElem?_getD,hi,hj]
 rw[he]at this;exact TG hd (Nat.le_trans hdN (Xb _ _)) (this.mono (Xb _ _))
theorem lC.TK (h:lC m rhs T) (hI:wU m rhs c):∀x∈T.cost,FB x (kU m.length c) (kU m.length c):=by
 intro x hx;obtain ⟨d,hd,hdN,_,h2⟩:=h.bound hI;obtain ⟨j,hj,rfl⟩:=List.mem_iff_getElem.1 hx;have hjw:=h.ok.cw;have:=h2 j (by omega);have he:(toS T).c j=T.cost[j]:=by
  simp[toS,List.getD_eq_getElem?_getD,hj]
 rw[he]at this;exact TG hd (Nat.le_trans hdN (Xb _ _)) (this.mono (ahy _ _))
theorem Ga {ak last:Nat}:∀(rows:List (List Rat)) (bs:List Nat) (y:List Rat),∀x∈iL ak last rows bs y,x∈y\/∃r∈rows,x=r.getD last 0
 |[],bs,y,x,hx=>by cases bs<;>exact .inl hx
 |r::rows,[],y,x,hx=>.inl hx
 |r::rows,b::bs,y,x,hx=>by
  simp only[iL]at hx;rcases Ga rows bs _ x hx with h|⟨r',hr',e⟩
  ·split at h
   ·rcases List.mem_or_eq_of_mem_set h with h|rfl
    ·exact .inl h
    ·exact .inr ⟨r,by simp,rfl⟩
   ·exact .inl h
  ·exact .inr ⟨r',by simp[hr'],e⟩
theorem lC.adO (h:lC m rhs T) {d:Int}{N1 N2:Nat} (hd:d≠0) (hdN:d.natAbs<=N1) (h1:∀i,i < m.length->∀j,j<=(m.headD []).length+m.length->bM ((d:Rat)*(toS T).r i j) N1)
  (h2:∀j,j<=(m.headD []).length+m.length->bM ((d:Rat)*(toS T).c j) N2):qg (nL T rhs m.length) (N2+N1):=by
 refine ⟨d,hd,by omega,fun x hx=>?_⟩;unfold nL at hx;split at hx
 ·simp only[TI]at hx
  rcases Ga _ _ _ x hx with h3|⟨r,hr,rfl⟩
  ·rw[(List.mem_replicate.1 h3).2]
   exact ⟨0,by grind,Nat.zero_le _⟩
  ·obtain ⟨i,hi,rfl⟩:=List.mem_iff_getElem.1 hr
   have hin:i < m.length:=by rw[<- h.ok.rn];exact hi
   have hcw:=h.ok.cw;have:=h1 i hin (T.cost.length-1) (by omega);have he:(toS T).r i (T.cost.length-1)=T.rows[i].getD (T.cost.length-1) 0:=by
    simp[toS,Tab.row,List.getD_eq_getElem?_getD,hi]
   rw[he]at this;exact this.mono (by omega)
 ·simp only[TI,qM,List.mem_map,List.mem_range]at hx
  obtain ⟨i,hi,rfl⟩:=hx;have:=h2 (T.ak+i) (by rw[h.ak];omega);have he:(toS T).c (T.ak+i)=T.cost.getD (T.ak+i) 0:=rfl;rw[he]at this;have h3:bM ((d:Rat)*(T.cost.getD (T.ak+i) 0-1)) (N2+N1):=by
   have h4:=this.sub (⟨d,rfl,hdN⟩:bM (d:Rat) N1);have e:(d:Rat)*(T.cost.getD (T.ak+i) 0-1)=(d:Rat)*T.cost.getD (T.ak+i) 0-(d:Rat):=by grind
   rw[e];exact h4
  unfold kE;split
  ·have:=h3.neg
   have e:(d:Rat)*-(T.cost.getD (T.ak+i) 0-1)=-((d:Rat)*(T.cost.getD (T.ak+i) 0-1)):=by grind
   rw[e];exact this
  ·exact h3
theorem lC.answer (h:lC m rhs T) (hI:wU m rhs c) (he:d9 T=none):jh m rhs (nL T rhs m.length)/\qg (nL T rhs m.length) (kU m.length c)/\(m.length<=5->qg (nL T rhs m.length) (840*c ^ 5)):=by
 refine ⟨Nn h.ok h.ak h.inv he,?_,fun hn=>?_⟩
 ·obtain ⟨d,hd,hdN,h1,h2⟩:=h.bound hI
  have:=h.adO hd hdN h1 h2;have e:(m.length+1)*(m.length*c) ^ m.length+(m.length*c) ^ m.length=kU m.length c:=by
   unfold kU;rw[show m.length+2=(m.length+1)+1 from rfl,Nat.succ_mul (m.length+1)]
  rwa [e]at this
 ·obtain ⟨d,hd,hdN,h1,h2⟩:=h.acA hI hn
  have:=h.adO hd hdN h1 h2;have e:6*(120*c ^ 5)+120*c ^ 5=840*c ^ 5:=by omega
  rwa [e]at this
def Fit (N:Nat):Prop:=1<=N/\N*N < B ^ 50000
theorem Fit.le {N:Nat} (h:Fit N):N < B ^ 50000:=Nat.lt_of_le_of_lt (Nat.le_mul_of_pos_left N h.1) h.2
theorem FB.q1 {x:Rat}{N:Nat} (hN:Fit N) (h:FB x N N):gH x:=h.fits hN.le hN.le (by decide)
theorem FB.q2 {x:Rat}{N:Nat} (hN:Fit N) (h:FB x (N*N) (N*N)):gH x:=h.fits hN.2 hN.2 (by decide)
theorem Hy {x:Rat} (h0:0 < x):0 < x.num:=by
 refine Int.not_le.1 fun h=>?_
 have h1:0<=(-x).num:=by rw[Rat.neg_num];omega
 have:=Rat.num_nonneg.1 h1;grind
theorem FB.inv {x:Rat}{n d:Nat} (h:FB x n d) (h0:0 < x):FB x⁻¹ d n:=by
 rw[Rat.inv_def];have hn:0 < x.num:=Hy h0;exact FB.divInt hn (by rw[Int.natAbs_natCast];exact h.2) h.1
theorem Fit.mono {N M:Nat} (h:Fit N) (h1:1<=M) (h2:M<=N):Fit M:=⟨h1,Nat.lt_of_le_of_lt (Nat.mul_le_mul h2 h2) h.2⟩
end ama
end Go.Vm
end
section
namespace Go.Vm
open Go Go.Proofs Go.Whole Go.bB
namespace ama
open Go.Proofs.Tryz
attribute [go_sem] Tryz.results208 Tryz.results137 Tryz.results139 Tryz.results138 Tryz.results136 Tryz.results66
def Jj (r:List Rat):Obj:=⟨(flat (r.map aH)).map .t,6,r.length,dW,true,true⟩
theorem qR (l:List Rat):∀x∈l.map aH,dh true 6 x:=by
 intro x hx;obtain ⟨y,_,rfl⟩:=List.mem_map.1 hx;exact vo y
theorem CX (l:List Rat):∀x∈l.map aH,x.cells.length=6:=fun x hx=>(qR l x hx).2.2
theorem CY {l:List Rat}{k:Nat}{q:Rat} (hq:l[k]?=some q):List.take 6 (List.drop (k*6) (List.map PV.t (flat (List.map aH l))))=(dA q).map PV.t :=
 o7 (CX l) (by rw[List.getElem?_map,hq];rfl)
theorem Mq {l:List Rat}{k:Nat}{q:Rat} (hk:k < l.length):splice (List.map PV.t (flat (List.map aH l))) (k*6) ((dA q).map PV.t)=List.map PV.t (flat (List.map aH (l.set k q))):=by
 rw[List.map_set];exact fD (CX l) (x:=aH l[k]) (y:=aH q) (by rw[List.getElem?_map,List.getElem?_eq_getElem hk];rfl) (aQ q)
theorem qU (l:List Rat):(flat (List.map aH l)).length=l.length*6:=by rw[bJ _ 6 (CX l),List.length_map]
theorem aA {h:Hp}{id:Id}{o:Obj}{s:Nat} (hg:hget h id=some o) (o':Obj):hget (hnew h s o') id=some o:=by
 rw[dz,if_neg]
 ·exact hg
 ·intro e;rw[e,kL]at hg;cases hg
theorem iE {h:Hp}{id:Id}{o:Obj}{s:Nat} (hg:hget h id=some o):(hnext h s==id)=false:=by
 rw[beq_eq_false_iff_ne];intro e;rw[<- e,kL]at hg;cases hg
theorem aM {h:Hp}{id:Id}{o:Obj} (hg:hget h id=some o) (o':Obj):hget (hset h id o') id=some o':=by
 rw[iR,if_pos rfl,hg];rfl
theorem aD {h:Hp}{id id':Id}{o:Obj} (hg:hget h id'=some o) (hn:(id'==id)=false\/(id==id')=false) (o':Obj):hget (hset h id o') id'=some o:=by
 rw[iR,if_neg]
 ·exact hg
 ·intro e;subst e;simp at hn
theorem VJ (r p:List Rat) (col:Nat) (hl:r.length=p.length) (h0:r.getD col 0=0):lu r p col=r:=by
 unfold lu;rw[h0];apply List.ext_getElem
 ·simp[hl]
 ·intro i h1 h2
  simp;grind
theorem acB (h:Hp) (id id2:Id) (r p:List Rat) (col:Nat) (hl1:r.length<=p.length) (hl2:p.length<=r.length) (hc:col < r.length) (hne:(id==id2)=false) (hr:hget h id=some (Jj r)) (hp:hget h id2=some (Jj p))
  (f1:∀x∈r,gH x) (f2:∀x∈p,gH x) (f3:∀x∈p,gH (r.getD col 0*x)) :
  dM Tryz.prog 208 [.rf id r.length,.rf id2 p.length,.t (i64 col)] h (fun _ h'=>hget h' id=some (Jj (lu r p col))/\Same h h' [id]):=by
 unfold Jj at hr hp;have yO:r[col]?=some (r.getD col 0):=by rw[List.getD_eq_getElem?_getD,List.getElem?_eq_getElem hc];rfl
 have hload:=CY yO;have hfl:=qU r;have hlb:=hc;have hc6:col*6+6<=r.length*6:=by omega
 have sg:=qK (r.getD col 0)
 by_cases h0:r.getD col 0=0
 ·rw[h0,show (0:Rat).num.sign=0 from rfl]at sg
  rw[VJ r p col (by omega) h0];rw[h0]at hload;refine dI orders Tryz.func208 rfl (by kernel_rfl) (fun d=>d==6||d==8||d==26||d==28||d==30||d==36) (by kernel_rfl) rfl (fun hs hlen=>?_);clear hs f1 f2 f3
  repeat' (first|refine sX ?_ ?_<;>intro h|refine aj (sg) rfl ?_|simp only[go_sem, *])
  exact ⟨aA hr _,(Same.new h 6 _).mono (by simp)⟩
 ·have g0:((r.getD col 0).num.sign==0)=false:=by
   have:(r.getD col 0).num≠0:=fun h=>h0 (Rat.num_eq_zero.1 h)
   rw[beq_eq_false_iff_ne];exact fun hh=>this (Int.sign_eq_zero_iff_zero.1 hh)
  have ahz:gH (r.getD col 0):=f1 _ (List.mem_of_getElem? yO);have f3':∀x∈p,gH (r.getD col 0*x):=f3
  have hlz:∀k (_:k < r.length),(lu r p col)[k]?=some (r.getD k 0-r.getD col 0*p.getD k 0):=by
   intro k hk;unfold lu;have hkp:k < p.length:=by omega
   rw[List.getElem?_zipWith,List.getElem?_eq_getElem hk,List.getElem?_eq_getElem hkp];simp[List.getD,hk,hkp]
  generalize r.getD col 0=b at *;refine dI orders Tryz.func208 rfl (by kernel_rfl) (fun d=>d==6||d==8||d==26||d==28||d==30||d==36) (by kernel_rfl) rfl (fun hs hlen=>?_);clear hs;have hpl:p.length<=9223372036854775807:=hlen id2 _ hp;clear hlen;have hO:=aA hr (s:=6);have hO2:=aA hp (s:=6)
  repeat' (first|refine sX ?_ ?_<;>intro h|refine aj (sg) rfl ?_|simp only[go_sem, *,beq_self_eq_true])
  refine aC p (fun k s'=>∃cur:List Rat,hget s'.hp id=some ⟨(flat (cur.map aH)).map .t,6,r.length,dW,true,true⟩/\hget s'.hp id2=some ⟨(flat (p.map aH)).map .t,6,p.length,dW,true,true⟩/\hget s'.hp (hnext h 6)=some ⟨(dA b).map .t,6,1,dW,true,true⟩/\Same h s'.hp [id]/\cur.length=r.length/\cur.drop k=r.drop k/\cur.take k=(lu r p col).take k) rfl rfl (by first|assumption|omega) (by kernel_rfl) (fun _ _ _ _ hj=>hj) (fun _ _ _ hj=>hj) ?_ (fun k x s' hx hd hk hJ hix hfr G hG=>?_) (fun s' hJ hfr=>?_)
  ·exact ⟨r,hO _,hO2 _,aJ _ _,(Same.new h 6 _).mono (by simp),rfl,rfl,rfl⟩
  ·have c0:=hfr 0 (by kernel_rfl)
   have c6:=hfr 6 (by kernel_rfl);have c16:=hfr 16 (by kernel_rfl);clear hfr;simp only[go_sem]at c0 c6 c16;obtain ⟨cur,h1,h2,h6,hsm,hcl,hdr,htk⟩:=hJ;have n1:=aA h1 (s:=8);have n2:=aA h2 (s:=8);have n6:=aA h6 (s:=8);have hlp:=CY hx;have hkr:k < r.length:=by omega
   obtain ⟨y,hy,_⟩:=aF r k hkr;have hcy:cur[k]?=some y:=by
    have:=congrArg (fun l=>l[0]?) hdr;simp only[List.getElem?_drop,Nat.add_zero]at this;rw[this,hy]
   have hlc:=CY hcy;have Xd:=hlz k hkr;have hyD:r.getD k 0=y:=by rw[List.getD_eq_getElem?_getD,hy];rfl
   have hxD:p.getD k 0=x:=by rw[List.getD_eq_getElem?_getD,hx];rfl
   rw[hyD,hxD]at Xd;have sx:=qK x;have hp6:k*6+6<=p.length*6:=by omega
   have hr6:k*6+6<=r.length*6:=by omega
   have alA:=qU p;have alB:=qU cur;have alC:k+1<=r.length:=hkr
   by_cases hx0:x=0
   ·subst hx0
    rw[show (0:Rat).num.sign=0 from rfl]at sx;have e0:y-b*0=y:=by grind
    rw[e0]at Xd;clear hlz hO hO2 hyD hxD
    repeat' (first|refine sX ?_ ?_<;>intro h|refine aj (sx) rfl ?_|simp only[go_sem, *])
    refine hG _ ⟨cur,n1 _,n2 _,n6 _,(hsm.trans (Same.new _ 8 _)).mono (by simp),hcl,?_,?_⟩
    ·have:=congrArg List.tail hdr;simpa using this
    ·rw[List.take_add_one,List.take_add_one,htk,hcy,Xd]
   ·have gx:(x.num.sign != 0)=true:=by
     have:x.num≠0:=fun h=>hx0 (Rat.num_eq_zero.1 h)
     rw[bne_iff_ne];exact fun hh=>this (Int.sign_eq_zero_iff_zero.1 hh)
    have hxm:=List.mem_of_getElem? hx;have w1:=Ka b x ahz (f2 x hxm);have w2:=wK y (b*x) (f1 y (List.mem_of_getElem? hy)) (f3 x hxm);have hst:=Mq (l:=cur) (k:=k) (q:=y-b*x) (by omega);have hb6:=iE (s:=6) hr;have hq:(dA (y-b*x)).length=6:=aQ _;have hkc:k*6+6<=cur.length*6:=by omega
    clear hlz hO hO2 hyD hxD f1 f2 f3 f3'
    repeat' (first|refine sX ?_ ?_<;>intro h|refine aj (sx) rfl ?_|refine aj (w1) rfl ?_|refine aj (w2) rfl ?_|simp only[go_sem, *])
    refine hG _ ⟨cur.set k (y-b*x),aM (n1 _) _,aD (n2 _) (.inr hne) _,aD (n6 _) (.inl hb6) _,?_,by simp[hcl],?_,?_⟩
    ·exact ((hsm.trans (Same.new _ 8 _)).trans (Same.set _ id _)).mono (by simp)
    ·rw[List.drop_set_of_lt (by omega)]
     have:=congrArg List.tail hdr;simpa using this
    ·rw[aP _ _ _ (by omega),htk,List.take_add_one,Xd];rfl
  ·have c0:=hfr 0 (by kernel_rfl)
   clear hfr;simp only[go_sem]at c0;obtain ⟨cur,h1,_,_,hsm,hcl,hdr,htk⟩:=hJ;have hll:(lu r p col).length=p.length:=by unfold lu;rw[List.length_zipWith];omega
   rw[List.take_of_length_le (by omega),List.take_of_length_le (by omega)]at htk;subst htk;clear hlz hO hO2
   repeat' (first|refine sX ?_ ?_<;>intro h|simp only[go_sem, *])
   unfold Jj;rw[hll]
   congr 2;omega
abbrev Xe:TypeId:=194
def dY (l:List Rat):List PV:=(flat (l.map aH)).map .t
structure yP (h:Hp) (T:Tab) (n W:Nat):Prop where
 tab:hget h (18,0)=some ⟨[.rf (164,0) n,.rf (41,0) W,.rf (16,0) n,.t (i64 (T.ak:Nat))],4,1,Xe,true,true⟩
 cost:hget h (41,0)=some ⟨dY T.cost,6,W,dW,true,true⟩
 basis:hget h (16,0)=some ⟨T.basis.map (fun (b:Nat)=>.t (i64 b)),1,n,rD,false,true⟩
 rows:hget h (164,0)=some ⟨(List.range n).map (fun i=>.rf (81,i) W),1,n,l5,false,true⟩
 row:∀i r,T.rows[i]?=some r->hget h (81,i)=some ⟨dY r,6,W,dW,true,true⟩
theorem yP.same {h h':Hp}{T:Tab}{n W:Nat} (t:yP h T n W) (hs:Same h h' []):yP h' T n W :=
 ⟨hs _ _ (by simp) t.tab,hs _ _ (by simp) t.cost,hs _ _ (by simp) t.basis,hs _ _ (by simp) t.rows,fun i r hr=>hs _ _ (by simp) (t.row i r hr)⟩
theorem l6 {l:List Rat}{k:Nat}{q:Rat} (hq:l[k]?=some q):List.take 6 (List.drop (k*6) (dY l))=(dA q).map PV.t:=CY hq
theorem l7 (l:List Rat):(dY l).length=l.length*6:=by unfold dY;rw[List.length_map,qU]
theorem zQ {l:List Rat}{k:Nat}{q:Rat} (hk:k < l.length):splice (dY l) (k*6) ((dA q).map PV.t)=dY (l.set k q):=Mq hk
def zS (T:Tab):Int:=match d9 T with|some q=>(q:Int)|none=>-1
theorem sign_neg (x:Rat):decide (x.num.sign < 0)=decide (x < 0):=J2 x
theorem aaE {h:Hp}{T:Tab}{n W:Nat} (hT:yP h T n W) (hok:T.Ok n W) (hc:T.ak<=1099511627776) :
  dM Tryz.prog 137 [.ad (18,0) 1 0] h (fun v h'=>v=.t (i64 (zS T))/\h'=h):=by
 obtain ⟨h1,h2,h3,h4,h5⟩:=hT;have hfind:d9 T=(List.range T.ak).find? fun j=>decide (T.cost.getD j 0 < 0):=rfl
 refine dI orders Tryz.func137 rfl (by kernel_rfl) bf (by kernel_rfl) rfl (fun hs hlen=>?_);clear hs hlen
 repeat' (first|refine sX ?_ ?_<;>intro h|simp only[go_sem, *,beq_self_eq_true])
 refine aC (List.range (T.ak)) (fun k s'=>s'.hp=h/\d9 T=((List.range T.ak).drop k).find? fun j=>decide (T.cost.getD j 0 < 0)) rfl (by rw[List.length_range];rfl) (by rw[List.length_range];first|assumption|omega) (by kernel_rfl) (fun _ _ _ _ hj=>hj) (fun _ _ _ hj=>hj) ?_ (fun k x s' hx hd hk hJ hix hfr G hG=>?_) (fun s' hJ hfr=>?_)
 ·exact ⟨rfl,hfind⟩
 ·have c0:=hfr 0 (by kernel_rfl)
  have c7:=hfr 7 (by kernel_rfl);clear hfr;simp only[go_sem]at c0 c7;obtain ⟨hh,hJ⟩:=hJ;rw[List.length_range]at hk;have hxk:x=k:=by rw[List.getElem?_range hk]at hx;injection hx with hx;exact hx.symm
  subst hxk;have hkw:x < W:=by have:=hok.wide;omega
  have hkl:x < T.cost.length:=by rw[hok.cw];exact hkw
  have hq:T.cost[x]?=some (T.cost.getD x 0):=by rw[List.getD_eq_getElem?_getD,List.getElem?_eq_getElem hkl];rfl
  have hld:=l6 hq;have hx6:x*6+6<=W*6:=by omega
  have hcl:=l7 T.cost;rw[hok.cw]at hcl;rw[hd,List.find?_cons,<- sign_neg]at hJ;have sg:=qK (T.cost.getD x 0);generalize T.cost.getD x 0=q at *;clear hd hx hfind hok hc;subst hh
  repeat' (first|refine sX ?_ ?_<;>intro h|refine aj (sg) rfl ?_|simp only[go_sem, *,beq_self_eq_true])
  simp only[h]at hJ;unfold zS;rw[hJ]
 ·have c0:=hfr 0 (by kernel_rfl)
  clear hfr;simp only[go_sem]at c0;obtain ⟨hh,hJ⟩:=hJ;rw[List.drop_length]at hJ;simp only[List.find?_nil]at hJ
  repeat' (first|refine sX ?_ ?_<;>intro h|simp only[go_sem, *])
  simp[zS,hJ,hh]
theorem nP {h h':Hp}{s:Nat} (hs:Same h h' []) (o:Obj):Same h (hset h' (hnext h s) o) []:=fun _ _ hn ho=>aD (hs _ _ hn ho) (.inr (iE ho)) o
def ahA:Option (Nat × Rat)->Int
 |none=>-1
 |some (b,_)=>b
def aaF:Option (Nat × Rat)->List Tr
 |none=>qz
 |some (_,l)=>dA l
theorem Yn (a:Option (Nat × Rat)):(aaF a).length=6:=by
 cases a with
 |none=>rfl
 |some x=>exact aQ _
theorem tri (q l:Rat):q < l\/q=l\/l < q:=by
 by_cases h:q < l
 ·exact .inl h
 ·rcases Rat.le_iff_lt_or_eq.1 (Rat.not_lt.1 h) with h|h
  ·exact .inr (.inr h)
  ·exact .inr (.inl h.symm)
theorem Hz {x:Rat} (h:0 < x):x.num.sign=1:=Int.sign_eq_one_of_pos (Hy h)
theorem sign_zero {x:Rat} (h:x=0):x.num.sign=0:=by subst h;rfl
theorem Mr {x:Rat} (h:x < 0):x.num.sign=-1:=by
 refine Int.sign_eq_neg_one_of_neg ?_;have:=Hy (x:=-x) (by grind);rw[Rat.neg_num]at this;omega
theorem Ms {x:Rat} (h:¬ 0 < x):decide (x.num.sign<=0)=true:=by
 rcases Rat.le_iff_lt_or_eq.1 (Rat.not_lt.1 h) with h|h
 ·rw[Mr h];rfl
 ·rw[sign_zero h];rfl
theorem Ew {l:List Nat}{k:Nat} (hk:k < l.length):(l.map (fun (b:Nat)=>PV.t (i64 b)))[k]?=some (.t (i64 (l.getD k 0:Nat))):=by
 rw[List.getElem?_map,List.getElem?_eq_getElem hk,List.getD_eq_getElem?_getD,List.getElem?_eq_getElem hk];rfl
theorem zT {n k:Nat}{f:Nat->PV} (hk:k < n):((List.range n).map f)[k]?=some (f k):=by
 rw[List.getElem?_map,List.getElem?_range hk];rfl
theorem aaG {h:Hp}{T:Tab}{n W:Nat} (hT:yP h T n W) (hok:T.Ok n W) {N:Nat} (hN:Fit N) (hn:n<=1099511627776) (hfb:∀r∈T.rows,∀x∈r,FB x N N) {col:Nat} (yO:col < W) {p:Nat}{x:Rat} (hp:mY T col T.rows 0 none=some (p,x)) :
  dM Tryz.prog 139 [.ad (18,0) 1 0,.t (i64 (col:Nat))] h (fun v h'=>v=.t (i64 (p:Nat))/\yP h' T n W/\Same h h' []):=by
 obtain ⟨h1,h2,h3,h4,h5⟩:=hT;refine dI orders Tryz.func139 rfl (by kernel_rfl) (fun d=>d==6||d==9||d==27||d==28||d==31||d==33||d==35||d==50||d==51||d==52||d==53||d==55||d==57||d==58||d==59||d==60||d==62) (by kernel_rfl) rfl (fun hs hlen=>?_);have hW:W<=9223372036854775807:=hlen _ _ h2;have hW1:1<=W:=by omega
 have hwr:IntKind.i64.wrap ((W:Int)-1)=((W-1:Nat):Int):=by rw[wrap_i64 (by omega) (by omega)];omega
 clear hs hlen;have k1:=fun o=>aA h1 (s:=6) o
 have k2:=fun o=>aA h2 (s:=6) o
 have k4:=fun o=>aA h4 (s:=6) o
 repeat' (first|refine sX ?_ ?_<;>intro h|simp only[go_sem, *,beq_self_eq_true])
 refine aC (List.range (n)) (fun k s'=>∃acc:Option (Nat × Rat),s'.sl 5=.t (i64 (ahA acc))/\hget s'.hp (hnext h 6)=some ⟨(aaF acc).map .t,6,1,dW,true,true⟩/\Same h s'.hp []/\mY T col T.rows 0 none=mY T col (T.rows.drop k) k acc/\∀b l,acc=some (b,l)->b < n/\FB l (N*N) (N*N)) rfl (by rw[List.length_range];rfl) (by rw[List.length_range];first|assumption|omega) (by kernel_rfl) (fun _ _ _ _ hj=>hj) (fun _ _ _ hj=>hj) ?_ (fun k x s' hx hd hk hJ hix hfr G hG=>?_) (fun s' hJ hfr=>?_)
 ·exact ⟨none,rfl,aJ _ _,Same.new h 6 _,rfl,fun b l hh=>nomatch hh⟩
 ·have c0:=hfr 0 (by kernel_rfl)
  have c1:=hfr 1 (by kernel_rfl);have c6:=hfr 6 (by kernel_rfl);have c14:=hfr 14 (by kernel_rfl);clear hfr;simp only[go_sem]at c0 c1 c6 c14;obtain ⟨acc,c5,h6,hsm,hJ,hacc⟩:=hJ;rw[List.length_range]at hk;have hxk:x=k:=by rw[List.getElem?_range hk]at hx;injection hx with hx;exact hx.symm
  subst hxk;have hxr:x < T.rows.length:=by rw[hok.rn];exact hk
  obtain ⟨r,hr,hdr⟩:=aF T.rows x hxr;have hrm:=List.mem_of_getElem? hr;have hrl:=hok.rw' r hrm;have g1:=hsm _ _ (by simp) h1;have g3:=hsm _ _ (by simp) h3;have g4:=hsm _ _ (by simp) h4;have g5:=hsm _ _ (by simp) (h5 x r hr);have n1:=fun o=>aA g1 (s:=9) o
  have n3:=fun o=>aA g3 (s:=9) o
  have n6:=fun o=>aA h6 (s:=9) o
  have e9:∀o,Same h (hnew s'.hp 9 o) []:=fun o=>(hsm.trans (Same.new _ 9 o)).mono (by simp)
  have hrg:=zT (f:=fun i=>.rf (81,i) W) hk;have hcq:r[col]?=some (r.getD col 0):=by rw[List.getD_eq_getElem?_getD,List.getElem?_eq_getElem (by omega)];rfl
  have hlq:r[W-1]?=some (r.getD (W-1) 0):=by rw[List.getD_eq_getElem?_getD,List.getElem?_eq_getElem (by omega)];rfl
  have hl1:=l6 hcq;have hl2:=l6 hlq;have hf1:=hfb r hrm _ (List.mem_of_getElem? hcq);have hf2:=hfb r hrm _ (List.mem_of_getElem? hlq);have hcl:=l7 r;rw[hrl]at hcl;rw[hdr,mY,hrl]at hJ;have sg:=qK (r.getD col 0);have hc6:col*6+6<=W*6:=by omega
  have hw6:(W-1)*6+6<=W*6:=by omega
  have hww:W-1 < W:=by omega
  have alD:=Yn acc;generalize r.getD col 0=a at *;generalize r.getD (W-1) 0=z at *
  by_cases hpos:0 < a
  ·have ha0:a≠0:=fun h=>by rw[h]at hpos;exact absurd hpos (by decide)
   rw[Hz hpos]at sg;have hq:=FB.mul hf2 (hf1.inv hpos);have w1:=Qg a (hf1.q1 hN) ha0;have w2:=Ka z a⁻¹ (hf2.q1 hN) ((hf1.inv hpos).q1 hN);simp only[hpos,true_and]at hJ;clear hcq hlq hdr hd hx hfb hf1 hf2;cases acc with
   |none =>
    simp only[better,if_true]at hJ;replace c5:s'.sl 5=.t (i64 (-1)):=c5;have hdp:List.drop 6 (List.map PV.t (aaF none))=[]:=rfl;have hqn:(dA (z*a⁻¹)).length=6:=aQ _;have hne:=iE (s:=9) h6;have gm:decide ((-1:Int)>=0)=false:=rfl
    repeat' (first|refine sX ?_ ?_<;>intro h|refine aj (sg) rfl ?_|refine aj (w1) rfl ?_|refine aj (w2) rfl ?_|simp only[go_sem, *,beq_self_eq_true])
    refine hG _ ⟨some (x,z*a⁻¹),rfl,aM (n6 _) _,nP (e9 _) _,hJ,?_⟩;intro b l hbl;injection hbl with hbl
    injection hbl with hb hl
    subst hb;subst hl
    exact ⟨hk,hq⟩
   |some bl =>
    obtain ⟨b,l⟩:=bl;obtain ⟨hbn,hlf⟩:=hacc b l rfl;have gb:decide ((b:Int)>=0)=true:=decide_eq_true (by omega);replace c5:s'.sl 5=.t (i64 (b:Nat)):=c5;have hdp:List.drop 6 (List.map PV.t (dA l))=[]:=List.drop_of_length_le (by rw[List.length_map,aQ];exact Nat.le_refl _);have hxb:x < T.basis.length:=by rw[hok.bn];exact hk
    have hbb:b < T.basis.length:=by rw[hok.bn];exact hbn
    have hgx:=Ew hxb;have hgb:=Ew hbb;have w3:=ab4 (z*a⁻¹) l (hq.q2 hN) (hlf.q2 hN);have ho:∀o,hget (hnew s'.hp 9 o) (hnext h 6)=some ⟨(dA l).map .t,6,1,dW,true,true⟩:=n6
    clear n6 hacc;have hqn:(dA (z*a⁻¹)).length=6:=aQ _;simp only[better]at hJ;generalize z*a⁻¹=q at *;rcases tri q l with hc|hc|hc
    ·rw[Mr (by grind)]at w3
     have g1:decide ((-1:Int) > 0)=false:=rfl;have g2:((-1:Int)==0)=false:=rfl;simp only[hc,decide_true,Bool.true_or,if_true]at hJ
     repeat' (first|refine sX ?_ ?_<;>intro h|refine aj (sg) rfl ?_|refine aj (w1) rfl ?_|refine aj (w2) rfl ?_|refine aj (w3) rfl ?_|simp only[go_sem, *,beq_self_eq_true])
     refine hG _ ⟨some (x,q),rfl,aM (ho _) _,nP (e9 _) _,hJ,?_⟩;intro b' l' hbl;injection hbl with hbl
     injection hbl with hb hl
     subst hb;subst hl
     exact ⟨hk,hq⟩
    ·rw[sign_zero (by grind)]at w3
     have g1:decide ((0:Int) > 0)=false:=rfl;have g2:((0:Int)==0)=true:=rfl;have hnl:¬q < l:=by rw[hc];exact Rat.lt_irrefl
     subst hc
     by_cases hbs:T.basis.getD x 0<=T.basis.getD b 0
     ·have g3:decide (((T.basis.getD x 0:Nat):Int) > ((T.basis.getD b 0:Nat):Int))=false:=decide_eq_false (by omega)
      simp only[hbs,decide_true,Bool.and_self,Bool.or_true,if_true]at hJ
      repeat' (first|refine sX ?_ ?_<;>intro h|refine aj (sg) rfl ?_|refine aj (w1) rfl ?_|refine aj (w2) rfl ?_|refine aj (w3) rfl ?_|simp only[go_sem, *,beq_self_eq_true])
      refine hG _ ⟨some (x,q),rfl,aM (ho _) _,nP (e9 _) _,hJ,?_⟩;intro b' l' hbl;injection hbl with hbl
      injection hbl with hb hl
      subst hb;subst hl
      exact ⟨hk,hq⟩
     ·have g3:decide (((T.basis.getD x 0:Nat):Int) > ((T.basis.getD b 0:Nat):Int))=true:=decide_eq_true (by omega)
      simp only[hnl,hbs,decide_false,Bool.and_false,Bool.or_false,Bool.false_eq_true,if_false]at hJ
      repeat' (first|refine sX ?_ ?_<;>intro h|refine aj (sg) rfl ?_|refine aj (w1) rfl ?_|refine aj (w2) rfl ?_|refine aj (w3) rfl ?_|simp only[go_sem, *,beq_self_eq_true])
      refine hG _ ⟨some (b,q),c5,ho _,e9 _,hJ,?_⟩;intro b' l' hbl;injection hbl with hbl
      injection hbl with hb hl
      subst hb;subst hl
      exact ⟨hbn,hq⟩
    ·rw[Hz (by grind)]at w3
     have g1:decide ((1:Int) > 0)=true:=rfl;have hnl:¬q < l:=by grind
     have hne:¬q=l:=by grind
     simp only[hnl,hne,decide_false,Bool.false_and,Bool.or_false,Bool.false_eq_true,if_false]at hJ
     repeat' (first|refine sX ?_ ?_<;>intro h|refine aj (sg) rfl ?_|refine aj (w1) rfl ?_|refine aj (w2) rfl ?_|refine aj (w3) rfl ?_|simp only[go_sem, *,beq_self_eq_true])
     refine hG _ ⟨some (b,l),c5,ho _,e9 _,hJ,?_⟩;intro b' l' hbl;injection hbl with hbl
     injection hbl with hb hl
     subst hb;subst hl
     exact ⟨hbn,hlf⟩
  ·have gs:=Ms hpos
   simp only[hpos,false_and,if_false]at hJ;clear hcq hlq hdr hd hx hfb hf1 hf2
   repeat' (first|refine sX ?_ ?_<;>intro h|refine aj (sg) rfl ?_|simp only[go_sem, *,beq_self_eq_true])
   exact hG _ ⟨acc,c5,h6,hsm,hJ,hacc⟩
 ·have c0:=hfr 0 (by kernel_rfl)
  clear hfr;simp only[go_sem]at c0;obtain ⟨acc,c5,h6,hsm,hJ,hacc⟩:=hJ;rw[List.length_range,List.drop_of_length_le (by rw[hok.rn];exact Nat.le_refl _),mY,hp]at hJ;subst hJ;replace c5:s'.sl 5=.t (i64 (p:Nat)):=c5;have hT':yP s'.hp T n W:=(yP.mk h1 h2 h3 h4 h5).same hsm
  repeat' (first|refine sX ?_ ?_<;>intro h|simp only[go_sem, *])
theorem OT:∀(l:List Int) (p:List Rat),dK l p=aN l.length (fun i=>((l.getD i 0:Int):Rat)*p.getD i 0)
 |[],p=>by cases p<;>rfl
 |c::l,[]=>by
  have:∀i,(((c::l).getD i 0:Int):Rat)*([]:List Rat).getD i 0=0:=fun i=>by simp
  rw[aL (g:=fun _=>0) (fun i _=>this i),gG];rfl
 |c::l,x::p=>by
  rw[List.length_cons,Bz];simp only[dK,List.getD_cons_zero,List.getD_cons_succ];rw[OT l p]
theorem OU {r:Row}{V:Nat} (h:r.av.length=V) (p:List Rat):dL r p=aN V (fun i=>((dQ r i:Int):Rat)*p.getD i 0)+((dQ r V:Int):Rat):=by
 unfold dL;rw[OT,h,gP h,aL (g:=fun i=>((dQ r i:Int):Rat)*p.getD i 0) (fun i hi=>by rw[fM h hi])]
def Mt:List Row->List Rat->List Rat->Rat
 |r::rows,y::ys,p=>y*dL r p+Mt rows ys p
 |_,_,_=>0
theorem Gb {p:List Rat}:∀(rows:List Row) (ys:List Rat),(∀r∈rows,0<=dL r p)->(∀y∈ys,0<=y)->0<=Mt rows ys p
 |[],ys,_,_=>by cases ys<;>exact Rat.le_refl
 |r::rows,[],_,_=>Rat.le_refl
 |r::rows,y::ys,h,hy=>by
  have h1:=Rat.mul_nonneg (hy y (by simp)) (h r (by simp));have h2:=Gb rows ys (fun x hx=>h x (by simp[hx])) (fun x hx=>hy x (by simp[hx]));simp only[Mt];grind
theorem Mv {V:Nat} (p:List Rat):∀(rows:List Row) (ys:List Rat),(∀r∈rows,r.av.length=V)->aN V (fun i=>bX i rows ys*p.getD i 0)+bX V rows ys=Mt rows ys p
 |[],ys,_=>by
  have:∀i,bX i [] ys=0:=fun i=>by cases ys<;>rfl
  rw[aL (g:=fun _=>0) (fun i _=>by rw[this];grind),gG,this];cases ys<;>simp only[Mt]<;>grind
 |r::rows,[],_=>by
  have:∀i,bX i (r::rows) []=0:=fun i=>rfl
  rw[aL (g:=fun _=>0) (fun i _=>by rw[this];grind),gG,this];simp only[Mt];grind
 |r::rows,y::ys,h=>by
  have ih:=Mv p rows ys (fun x hx=>h x (by simp[hx]));have h1:=OU (h r (by simp)) p;simp only[Mt,bX];rw[<- ih,h1];have h2:=Cw V (fun i=>(((dQ r i:Int):Rat)*p.getD i 0)*y) (fun i=>bX i rows ys*p.getD i 0);rw[iV]at h2;rw[aL (g:=fun i=>(((dQ r i:Int):Rat)*p.getD i 0)*y+bX i rows ys*p.getD i 0) (fun i _=>by grind),h2];grind
structure Blk where
 E:(Nat->Rat)->Nat->Rat
 last:Nat
 guard:List Row
 d:Int
def oF (y:Nat->Rat) (a n:Nat):List Rat:=(List.range n).map fun k=>y (a+k)
def Blk.holds (b:Blk) (y:Nat->Rat) (first:Nat):Prop:=∀i,i<=b.last->b.E y i=bX i b.guard (oF y first b.guard.length)+if i=b.last then (b.d:Rat)+y (first+b.guard.length) else 0
def sats (y:Nat->Rat):Nat->List Blk->Prop
 |_,[]=>True
 |a,b::bs=>b.holds y a/\sats y (a+b.guard.length+1) bs
def nQ:Nat->List Blk->Nat
 |a,[]=>a
 |a,b::bs=>nQ (a+b.guard.length+1) bs
theorem sj:∀(bs:List Blk) (a:Nat),a<=nQ a bs
 |[],_=>Nat.le_refl _
 |b::bs,a=>Nat.le_trans (by omega) (sj bs _)
theorem Jk:∀(bs:List Blk) (b:Blk) (a:Nat),nQ a (bs++[b])=nQ a bs+b.guard.length+1
 |[],b,a=>rfl
 |x::bs,b,a=>by simp only[List.cons_append,nQ];exact Jk bs b _
theorem Mw (y:Nat->Rat):∀(bs:List Blk) (b:Blk) (a:Nat),sats y a (bs++[b])↔sats y a bs/\b.holds y (nQ a bs)
 |[],b,a=>by simp[sats,nQ]
 |x::bs,b,a=>by
  simp only[List.cons_append,sats,nQ];rw[Mw y bs b];exact and_assoc.symm
theorem HV {y:Nat->Rat}:∀ {bs:List Blk}{a:Nat},sats y a bs->∀b∈bs,∃first,b.holds y first
 |[],_,_,b,hb=>by simp at hb
 |x::bs,a,h,b,hb=>by
  rcases List.mem_cons.1 hb with rfl|hb
  ·exact ⟨a,h.1⟩
  ·exact HV h.2 b hb
theorem Nw {y:Nat->Rat} (hy:∀c,0<=y c) (a n:Nat):∀x∈oF y a n,0<=x:=fun x hx=>by
 obtain ⟨k,_,rfl⟩:=List.mem_map.1 hx;exact hy _
theorem Blk.implies {b:Blk}{y:Nat->Rat}{first:Nat} (h:b.holds y first) (hy:∀c,0<=y c) (hg:∀r∈b.guard,r.av.length=b.last) {row:Row} (hrow:row.av.length=b.last) {D:Rat} (hD:0<=D)
  (hE:∀i,i<=b.last->((dQ row i:Int):Rat)=b.E y i*D) {p:List Rat} (hp:∀r∈b.guard,0<=dL r p):(b.d:Rat)*D<=dL row p:=by
 have hl:=Nw hy first b.guard.length
 have h1:=Gb b.guard _ hp hl;have h2:=Mv p b.guard (oF y first b.guard.length) hg;have h3:=hy (first+b.guard.length);rw[OU hrow,hE b.last (Nat.le_refl _),h b.last (Nat.le_refl _),if_pos rfl];rw[aL (g:=fun i=>(bX i b.guard (oF y first b.guard.length)*p.getD i 0)*D) (fun i hi=>by
  rw[hE i (by omega),h i (by omega),if_neg (by omega)];grind),iV]
 have h4:=Rat.mul_nonneg h1 hD;have h5:=Rat.mul_nonneg h3 hD;generalize aN b.last (fun i=>bX i b.guard (oF y first b.guard.length)*p.getD i 0)=s at *;generalize bX b.last b.guard (oF y first b.guard.length)=c at *;generalize y (first+b.guard.length)=z at *;rw[<- h2]at h4;grind
theorem TL (sc:Nat):∀(out:List WI) (l:List Int),out.length=l.length->eqW out l sc=true->∀k,k < l.length->(out.map WI.z).getD k 0=sc*l.getD k 0
 |[],[],_,_,k,hk=>by simp at hk
 |[],_::_,h,_,_,_=>by simp at h
 |_::_,[],h,_,_,_=>by simp at h
 |x::out,a::l,hl,h,k,hk=>by
  simp only[eqW,Bool.and_eq_true,decide_eq_true_eq]at h;cases k with
  |zero=>simpa using h.1
  |succ k=>simpa using TL sc out l (by simpa using hl) h.2 k (by simpa using hk)
theorem VK {V:Nat}{rows:List Row}{row:Row}{ms:List Nat}{sc:Nat} (hr:∀r∈rows,r.av.length=V) (hrow:row.av.length=V) (hsc:sc≠0)
  (h:gZ (bF (List.replicate V zW) ⟨true,0⟩ rows ms) row sc=true):(∀k,k < V->kr k rows ms=sc*dQ row k)/\kr V rows ms<=sc*row.const:=by
 obtain ⟨c1,c2⟩:=uM rows ms hr;have hl:=nK rows ms (List.replicate V zW) ⟨true,0⟩ (by simp) hr;generalize bF (List.replicate V zW) ⟨true,0⟩ rows ms=q at *;unfold gZ at h;rw[if_neg hsc,Bool.and_eq_true,decide_eq_true_eq]at h;refine ⟨fun k hk=>?_,by omega⟩;rw[<- c1 k hk,TL sc _ _ (by omega) h.1 k (by omega),fM hrow hk]
theorem Blk.TM {b:Blk}{y:Nat->Rat}{row:Row}{ms:List Nat}{sc:Nat} (hg:∀r∈b.guard,r.av.length=b.last) (hrow:row.av.length=b.last) (hsc:sc≠0) (hm:ms.length=b.guard.length)
  (h:gZ (bF (List.replicate b.last zW) ⟨true,0⟩ b.guard ms) row sc=true) (hE:∀i,i<=b.last->b.E y i=((dQ row i:Int):Rat)+if i=b.last then (b.d:Rat) else 0) :
  ∃l:List Rat,∃s:Rat,l.length=b.guard.length/\(∀x∈l,0<=x)/\0<=s/\∀i,i<=b.last->b.E y i=bX i b.guard l+if i=b.last then (b.d:Rat)+s else 0:=by
 obtain ⟨h1,h2⟩:=VK hg hrow hsc h;have hs:=yM (Nat.pos_of_ne_zero hsc);have hsi:=Rat.inv_pos.2 hs;have ahB:(sc:Rat)≠0:=fun e=>by rw[e]at hs;exact absurd hs (by decide)
 have hcan:=Rat.mul_inv_cancel _ ahB;have hc:∀k,bX k b.guard ((ms.map fun m=>((m:Nat):Rat)).map (·*(sc:Rat)⁻¹))=((kr k b.guard ms:Int):Rat)*(sc:Rat)⁻¹:=fun k=>by rw[qd,vN]
 have hsz:(((sc:Nat):Int):Rat)=(sc:Rat):=rfl;refine ⟨(ms.map fun m=>((m:Nat):Rat)).map (·*(sc:Rat)⁻¹),(row.const:Rat)-((kr b.last b.guard ms:Int):Rat)*(sc:Rat)⁻¹,by simp[hm],fun x hx=>?_,?_,fun i hi=>?_⟩
 ·obtain ⟨z,hz,rfl⟩:=List.mem_map.1 hx
  obtain ⟨m,_,rfl⟩:=List.mem_map.1 hz;exact Rat.mul_nonneg (aad m) (by grind)
 ·have h3:((kr b.last b.guard ms:Int):Rat)<=(sc:Rat)*(row.const:Rat):=by
   rw[<- hsz,<- Rat.intCast_mul];exact Rat.intCast_le_intCast.2 h2
  have h4:=Rat.mul_le_mul_of_nonneg_right h3 (show (0:Rat)<=(sc:Rat)⁻¹ by grind);have h5:(sc:Rat)*(row.const:Rat)*(sc:Rat)⁻¹=(row.const:Rat):=by grind
  rw[h5]at h4;grind
 ·rw[hE i hi,hc i]
  by_cases e:i=b.last
  ·subst e
   rw[if_pos rfl,if_pos rfl,gP hrow];grind
  ·rw[if_neg e,if_neg e,h1 i (by omega),Rat.intCast_mul,hsz];grind
theorem Blk.VL {b:Blk}{y:Nat->Rat}{z:List Rat} (hz:z.length=b.guard.length) (hz0:∀x∈z,0<=x) (h0:∀k,k < b.last->bX k b.guard z=0) (h1:bX b.last b.guard z=-1) (hd:0<=b.d)
  (hE:∀i,i<=b.last->b.E y i=0):∃l:List Rat,∃s:Rat,l.length=b.guard.length/\(∀x∈l,0<=x)/\0<=s/\∀i,i<=b.last->b.E y i=bX i b.guard l+if i=b.last then (b.d:Rat)+s else 0:=by
 have hdq:(0:Rat)<=(b.d:Rat):=by rw[<- rc0];exact Rat.intCast_le_intCast.2 hd
 refine ⟨z.map (·*(b.d:Rat)),0,by simp[hz],fun x hx=>?_,Rat.le_refl,fun i hi=>?_⟩
 ·obtain ⟨w,hw,rfl⟩:=List.mem_map.1 hx
  exact Rat.mul_nonneg (hz0 w hw) hdq
 ·rw[hE i hi,qd]
  by_cases e:i=b.last
  ·subst e;rw[if_pos rfl,h1];grind
  ·rw[if_neg e,h0 i (by omega)];grind
def atL (l:List Rat) (c:Nat):Rat:=l.getD c 0
def Blk.Low (b:Blk) (a:Nat):Prop:=∀y y':Nat->Rat,(∀c,c < a->y c=y' c)->∀i,i<=b.last->b.E y i=b.E y' i
theorem Yo (pre l post:List Rat):oF (atL (pre++l++post)) pre.length l.length=l:=by
 apply List.ext_getElem
 ·simp[oF]
 ·intro i h1 h2
  simp only[oF,List.getElem_map,List.getElem_range,atL];rw[List.getD_eq_getElem?_getD,List.append_assoc,List.getElem?_append_right (by omega),Nat.add_sub_cancel_left,List.getElem?_append_left h2,List.getElem?_eq_getElem h2];rfl
theorem Jl {F:List Rat} (hF:∀x∈F,0<=x):∀(bs:List Blk) (pre:List Rat),F.length<=pre.length->(∀c,c < F.length->pre.getD c 0=F.getD c 0)->(∀x∈pre,0<=x)->(∀b∈bs,b.Low F.length) ->
  (∀b∈bs,∃l:List Rat,∃s:Rat,l.length=b.guard.length/\(∀x∈l,0<=x)/\0<=s/\∀i,i<=b.last->b.E (atL F) i=bX i b.guard l+if i=b.last then (b.d:Rat)+s else 0) ->
  ∃post:List Rat,(pre++post).length=nQ pre.length bs/\(∀x∈pre++post,0<=x)/\sats (atL (pre++post)) pre.length bs
 |[],pre,_,_,hp,_,_=>⟨[],by simp[nQ],by simpa using hp,trivial⟩
 |b::bs,pre,hl,hpre,hp,hlow,hb=>by
  obtain ⟨l,s,h1,h2,h3,h4⟩:=hb b (by simp);have hlen:(pre++(l++[s])).length=pre.length+b.guard.length+1:=by simp[h1];omega
  obtain ⟨post,e1,e2,e3⟩:=Jl hF bs (pre++(l++[s])) (by omega) (fun c hc=>by
   rw[List.getD_eq_getElem?_getD,List.getElem?_append_left (by omega),<- List.getD_eq_getElem?_getD];exact hpre c hc) (fun x hx=>by
    rcases List.mem_append.1 hx with hx|hx
    ·exact hp x hx
    ·rcases List.mem_append.1 hx with hx|hx
     ·exact h2 x hx
     ·rw[List.mem_singleton.1 hx];exact h3) (fun x hx=>hlow x (by simp[hx])) (fun x hx=>hb x (by simp[hx]))
  rw[hlen]at e1 e3;refine ⟨l++[s]++post,by rw[<- List.append_assoc];simpa[nQ] using e1,by rw[<- List.append_assoc];exact e2,?_,by rw[<- List.append_assoc];exact e3⟩;intro i hi;have hy:oF (atL (pre++(l++[s]++post))) pre.length b.guard.length=l:=by
   have:=Yo pre l ([s]++post);rw[<- h1];rw[show pre++(l++[s]++post)=pre++l++([s]++post) by simp];exact this
  have hs:atL (pre++(l++[s]++post)) (pre.length+b.guard.length)=s:=by
   unfold atL;rw[<- h1,List.getD_eq_getElem?_getD,List.getElem?_append_right (by omega),Nat.add_sub_cancel_left,List.append_assoc,List.getElem?_append_right (by omega),Nat.sub_self];rfl
  rw[hy,hs,<- h4 i hi];refine hlow b (by simp) _ _ (fun c hc=>?_) i hi;unfold atL;rw[List.getD_eq_getElem?_getD,List.getElem?_append_left (by omega),<- List.getD_eq_getElem?_getD];exact hpre c hc
def eG (V l j:Nat):Nat:=2*(l*(V+1)+j)
def Fq (V:Nat) (y:Nat->Rat) (l j:Nat):Rat:=y (eG V l j)-y (eG V l j+1)
def iA (V to last:Nat) (y:Nat->Rat) (i:Nat):List Upd->Nat->Nat->Rat
 |[],_,_=>0
 |u::us,v,k=>(if u.any=true then (if i=V+k then-Fq V y to v else 0) else if i < V then -(((u.expr.av.getD i 0:Int):Rat)*Fq V y to v) else if i=last then -(((u.expr.const:Int):Rat)*Fq V y to v) else 0)+iA V to last y i us (v+1) (if u.any=true then k+1 else k)
def ku (V frm to last:Nat) (y:Nat->Rat) (i:Nat):Rat:=if i < V then Fq V y frm i else if i=last then Fq V y frm V-Fq V y to V else 0
def zU (V:Nat) (t:Trans) (d:Int):Blk:=⟨fun y i=>ku V t.from_.toNat t.to_.toNat (V+aG t.next) y i+iA V t.to_.toNat (V+aG t.next) y i t.next 0 0,V+aG t.next,t.guard.map (wide (aG t.next)),d⟩
def ng (V:Nat) (t:Trans):Blk:=⟨fun y i=>Fq V y t.from_.toNat i,V,t.guard,0⟩
theorem zV (u:Upd) (us:List Upd):aG (u::us)=(if u.any=true then 1 else 0)+aG us:=by
 unfold aG;rw[List.filter_cons];split<;>simp<;>omega
section
variable {V to last:Nat}{y:Nat->Rat}{D:Rat}
theorem BI {i:Nat} (hi:i < V):∀(us:List Upd) (bs:List Int) (q:List Int × Int × List Int) (v k:Nat),us.length=bs.length->q.1.length=V->(∀u∈us,u.any=false->u.expr.av.length=V) ->
  (∀j,j < us.length->((bs.getD j 0:Int):Rat)=Fq V y to (v+j)*D)->(((bK us bs q).1.getD i 0:Int):Rat)=((q.1.getD i 0:Int):Rat)+iA V to last y i us v k*D
 |[],[],q,v,k,_,_,_,_=>by simp only[bK,iA];grind
 |[],_::_,_,_,_,h,_,_,_=>by simp at h
 |_::_,[],_,_,_,h,_,_,_=>by simp at h
 |u::us,b::bs,q,v,k,hl,hq,hu,hb=>by
  have hb0:=hb 0 (by simp);simp only[List.getD_cons_zero,Nat.add_zero]at hb0;have hb':∀j,j < us.length->((bs.getD j 0:Int):Rat)=Fq V y to (v+1+j)*D:=fun j hj=>by
   have:=hb (j+1) (by simpa using hj);rw[show v+(j+1)=v+1+j by omega]at this;simpa using this
  simp only[bK,iA]
  by_cases ha:u.any=true
  ·rw[if_pos ha,if_pos ha,if_pos ha,if_neg (by omega:¬i=V+k)]
   rw[BI hi us bs (q.1,q.2.1,q.2.2++[-b]) (v+1) (k+1) (by simpa using hl) hq (fun x hx=>hu x (by simp[hx])) hb'];grind
  ·rw[if_neg ha,if_neg ha,if_neg ha,if_pos hi]
   have ha':u.any=false:=by simpa using ha
   have hc:=hu u (by simp) ha';rw[BI hi us bs _ (v+1) k (by simpa using hl) (by simp[hq,hc]) (fun x hx=>hu x (by simp[hx])) hb'];have:(List.zipWith (fun x a=>x-b*a) q.1 u.expr.av).getD i 0=q.1.getD i 0-b*u.expr.av.getD i 0:=by
    have h3:i < q.1.length:=by omega
    have h4:i < u.expr.av.length:=by omega
    simp[List.getD_eq_getElem?_getD,List.getElem?_zipWith,h3,h4]
   simp only[this];rw[Int.sub_eq_add_neg,Rat.intCast_add,Rat.intCast_neg,Rat.intCast_mul,hb0];grind
theorem BJ:∀(us:List Upd) (bs:List Int) (q:List Int × Int × List Int) (v k:Nat),us.length=bs.length->V+k+aG us<=last ->
  (∀j,j < us.length->((bs.getD j 0:Int):Rat)=Fq V y to (v+j)*D)->(((bK us bs q).2.1:Int):Rat)=((q.2.1:Int):Rat)+iA V to last y last us v k*D
 |[],[],q,v,k,_,_,_=>by simp only[bK,iA];grind
 |[],_::_,_,_,_,h,_,_=>by simp at h
 |_::_,[],_,_,_,h,_,_=>by simp at h
 |u::us,b::bs,q,v,k,hl,hq,hb=>by
  have hb0:=hb 0 (by simp);simp only[List.getD_cons_zero,Nat.add_zero]at hb0;have hb':∀j,j < us.length->((bs.getD j 0:Int):Rat)=Fq V y to (v+1+j)*D:=fun j hj=>by
   have:=hb (j+1) (by simpa using hj);rw[show v+(j+1)=v+1+j by omega]at this;simpa using this
  rw[zV]at hq;simp only[bK,iA]
  by_cases ha:u.any=true
  ·rw[if_pos ha]at hq
   rw[if_pos ha,if_pos ha,if_pos ha,if_neg (by omega:¬last=V+k)];rw[BJ us bs _ (v+1) (k+1) (by simpa using hl) (by omega) hb'];grind
  ·rw[if_neg ha]at hq
   rw[if_neg ha,if_neg ha,if_neg ha,if_neg (by omega:¬last < V),if_pos trivial];rw[BJ us bs _ (v+1) k (by simpa using hl) (by omega) hb'];simp only;rw[Int.sub_eq_add_neg,Rat.intCast_add,Rat.intCast_neg,Rat.intCast_mul,hb0];grind
theorem BK {j:Nat} (hj:V+j < last):∀(us:List Upd) (bs:List Int) (q:List Int × Int × List Int) (v k:Nat),us.length=bs.length->q.2.2.length=k ->
  (∀j,j < us.length->((bs.getD j 0:Int):Rat)=Fq V y to (v+j)*D)->(((bK us bs q).2.2.getD j 0:Int):Rat)=((q.2.2.getD j 0:Int):Rat)+iA V to last y (V+j) us v k*D
 |[],[],q,v,k,_,_,_=>by simp only[bK,iA];grind
 |[],_::_,_,_,_,h,_,_=>by simp at h
 |_::_,[],_,_,_,h,_,_=>by simp at h
 |u::us,b::bs,q,v,k,hl,hq,hb=>by
  have hb0:=hb 0 (by simp);simp only[List.getD_cons_zero,Nat.add_zero]at hb0;have hb':∀j,j < us.length->((bs.getD j 0:Int):Rat)=Fq V y to (v+1+j)*D:=fun j hj=>by
   have:=hb (j+1) (by simpa using hj);rw[show v+(j+1)=v+1+j by omega]at this;simpa using this
  simp only[bK,iA]
  by_cases ha:u.any=true
  ·rw[if_pos ha,if_pos ha,if_pos ha]
   rw[BK hj us bs _ (v+1) (k+1) (by simpa using hl) (by simp[hq]) hb'];simp only
   by_cases e:j=k
   ·subst e
    rw[if_pos rfl];have e1:(q.2.2++[-b]).getD j 0=-b:=by
     rw[List.getD_eq_getElem?_getD,List.getElem?_append_right (by omega),hq,Nat.sub_self];rfl
    have e2:q.2.2.getD j 0=0:=by
     rw[List.getD_eq_getElem?_getD,List.getElem?_eq_none (by omega)];rfl
    rw[e1,e2,Rat.intCast_neg,hb0,rc0];grind
   ·rw[if_neg (by omega:¬V+j=V+k)]
    have e1:(q.2.2++[-b]).getD j 0=q.2.2.getD j 0:=by
     rw[List.getD_eq_getElem?_getD,List.getD_eq_getElem?_getD]
     by_cases hlt:j < q.2.2.length
     ·rw[List.getElem?_append_left hlt]
     ·rw[List.getElem?_append_right (by omega),List.getElem?_eq_none (by simp;omega),List.getElem?_eq_none (by omega)]
    rw[e1];grind
  ·rw[if_neg ha,if_neg ha,if_neg ha,if_neg (by omega:¬V+j < V),if_neg (by omega:¬V+j=last)]
   rw[BK hj us bs (List.zipWith (fun x a=>x-b*a) q.1 u.expr.av,q.2.1-b*u.expr.const,q.2.2) (v+1) k (by simpa using hl) hq hb'];simp only;grind
theorem zX:∀(us:List Upd) (bs:List Int) (q:List Int × Int × List Int),us.length=bs.length->(bK us bs q).2.2.length=q.2.2.length+aG us
 |[],[],q,_=>by simp[bK,aG]
 |[],_::_,_,h=>by simp at h
 |_::_,[],_,h=>by simp at h
 |u::us,b::bs,q,hl=>by
  simp only[bK];rw[zV]
  by_cases ha:u.any=true
  ·rw[if_pos ha,if_pos ha,zX us bs _ (by simpa using hl)];simp;omega
  ·rw[if_neg ha,if_neg ha,zX us bs _ (by simpa using hl)];simp
theorem xJ (d:Int):∀(us:List Upd) (bs:List Int) (a:List Int) (c:Int) (e:List Int),bK us bs (a,c-d,e)=((bK us bs (a,c,e)).1,(bK us bs (a,c,e)).2.1-d,(bK us bs (a,c,e)).2.2)
 |[],bs,a,c,e=>by cases bs<;>rfl
 |u::us,[],a,c,e=>rfl
 |u::us,b::bs,a,c,e=>by
  simp only[bK];split
  ·exact xJ d us bs a c _
  ·rw[show c-d-b*u.expr.const=c-b*u.expr.const-d by omega]
   exact xJ d us bs _ _ e
end
theorem vP (nn:Bool) (next:List Upd) (a b:Row) (d:Int):dB nn next a b d=⟨nn,(dB nn next a b 0).av,(dB nn next a b 0).const-d⟩:=by
 unfold dB;rw[xJ d,Int.sub_zero]
theorem xK {V:Nat}{nn:Bool}{next:List Upd}{a b:Row}{d:Int} (ha:a.av.length=V) (hb:b.av.length=next.length) (hu:∀u∈next,u.any=false->u.expr.av.length=V):(dB nn next a b d).av.length=V+aG next:=by
 unfold dB;simp only[List.length_append];rw[pX next b.av _ (by simpa[ha] using hu),zX next b.av _ hb.symm];simp[ha]
theorem TN (r:Row) (nn:Bool) (d:Int) (p:List Rat):dL ⟨nn,r.av,r.const-d⟩ p=dL r p-(d:Rat):=by
 unfold dL;simp only;rw[Int.sub_eq_add_neg,Rat.intCast_add,Rat.intCast_neg];grind
theorem Jm {V:Nat}{t:Trans}{a b:Row}{y:Nat->Rat}{D:Rat} (ha:a.av.length=V) (hb:b.av.length=V) (hn:t.next.length=V) (hu:∀u∈t.next,u.any=false->u.expr.av.length=V)
  (ha':∀j,j<=V->((dQ a j:Int):Rat)=Fq V y t.from_.toNat j*D) (hb':∀j,j<=V->((dQ b j:Int):Rat)=Fq V y t.to_.toNat j*D) (d:Int) :
  ∀i,i<=V+aG t.next->((dQ (dB true t.next a b 0) i:Int):Rat)=(zU V t d).E y i*D:=by
 intro i hi;have hbs:∀j,j < t.next.length->((b.av.getD j 0:Int):Rat)=Fq V y t.to_.toNat (0+j)*D:=fun j hj=>by
  rw[Nat.zero_add,<- hb' j (by omega),fM hb (by omega)]
 have hlen:=xK (nn:=true) (d:=0) ha (hb.trans hn.symm) hu
 show _=(ku V t.from_.toNat t.to_.toNat (V+aG t.next) y i+iA V t.to_.toNat (V+aG t.next) y i t.next 0 0)*D
 have hl1:(bK t.next b.av (a.av,a.const-b.const-0,[])).1.length=V:=by
  rw[pX t.next b.av _ (by simpa[ha] using hu)];exact ha
 rcases Nat.lt_or_ge i V with h1|h1
 ·rw[fM hlen (by omega)]
  unfold dB ku;simp only;rw[if_pos h1,List.getD_eq_getElem?_getD,List.getElem?_append_left (by omega),<- List.getD_eq_getElem?_getD];rw[BI (to:=t.to_.toNat) (last:=V+aG t.next) (y:=y) (D:=D) h1 t.next b.av _ 0 0 (hn.trans hb.symm) ha hu hbs];simp only;rw[<- fM ha h1,ha' i (by omega)];grind
 ·rcases Nat.lt_or_ge i (V+aG t.next) with h2|h2
  ·rw[fM hlen h2]
   unfold dB ku;simp only;rw[if_neg (by omega),if_neg (by omega),List.getD_eq_getElem?_getD,List.getElem?_append_right (by omega),hl1,<- List.getD_eq_getElem?_getD];have:=BK (V:=V) (to:=t.to_.toNat) (last:=V+aG t.next) (y:=y) (D:=D) (j:=i-V) (by omega) t.next b.av (a.av,a.const-b.const-0,[]) 0 0 (hn.trans hb.symm) rfl hbs;rw[this,show V+(i-V)=i by omega];simp only[List.getD_nil];rw[rc0];grind
  ·have e:i=V+aG t.next:=by omega
   subst e;rw[gP hlen];unfold dB ku;simp only;rw[if_neg (by omega),if_pos trivial];have:=BJ (V:=V) (to:=t.to_.toNat) (last:=V+aG t.next) (y:=y) (D:=D) t.next b.av (a.av,a.const-b.const-0,[]) 0 0 (hn.trans hb.symm) (by omega) hbs;rw[this];simp only;rw[Int.sub_zero,Int.sub_eq_add_neg,Rat.intCast_add,Rat.intCast_neg,<- gP ha,<- gP hb,ha' V (Nat.le_refl _),hb' V (Nat.le_refl _)];grind
def bZ (V L:Nat) (y:Nat->Rat):List Rat:=(List.range (L*(V+1))).map fun m=>y (2*m)-y (2*m+1)
def kV (V L:Nat) (zs:List Int):List Row:=(List.range L).map fun l=>⟨true,(zs.drop (l*(V+1))).take V,zs.getD (l*(V+1)+V) 0⟩
def BL (z:Int):Bool:=decide (z.natAbs<=1048576)
def nR (V L:Nat) (y:Nat->Rat):Option (List Row):=if (iy (bZ V L y)).all BL=true then some (kV V L (iy (bZ V L y))) else none
theorem uN (V L:Nat) (y:Nat->Rat):(bZ V L y).length=L*(V+1):=by simp[bZ]
theorem Jo {V L:Nat}{y:Nat->Rat}{fs:List Row} (h:nR V L y=some fs):fs.length=L/\(∀r∈fs,r.av.length=V/\aU r.const=true/\∀c∈r.av,aU c=true) /\
  ∀l,l < L->(fs.getD l vJ).av.length=V/\∀j,j<=V->((dQ (fs.getD l vJ) j:Int):Rat)=Fq V y l j*(fI (bZ V L y):Rat):=by
 unfold nR at h;split at h
 ·rename_i hall
  injection h with h
  have hzl:(iy (bZ V L y)).length=L*(V+1):=by rw[<- uN V L y];simp[iy]
  have hroom:∀l,l < L->l*(V+1)+(V+1)<=L*(V+1):=fun l hl=>by
   rw[<- Nat.succ_mul];exact Nat.mul_le_mul_right _ hl
  have hsm:∀z∈iy (bZ V L y),aU z=true:=fun z hz=>by
   have:=List.all_eq_true.1 hall z hz;simp only[BL,decide_eq_true_eq]at this;simp only[aU,Bool.and_eq_true,decide_eq_true_eq];omega
  have hval:∀m,m < L*(V+1)->(((iy (bZ V L y)).getD m 0:Int):Rat)=(y (2*m)-y (2*m+1))*(fI (bZ V L y):Rat):=fun m hm=>by
   have h1:(bZ V L y)[m]?=some (y (2*m)-y (2*m+1)):=by simp[bZ,hm]
   have h2:(iy (bZ V L y)).getD m 0=tK (fI (bZ V L y)) (y (2*m)-y (2*m+1)):=by
    rw[List.getD_eq_getElem?_getD];unfold iy;rw[List.getElem?_map,h1];rfl
   rw[h2,Hw (Hu (List.mem_of_getElem? h1))]
  generalize fI (bZ V L y)=D at *;generalize iy (bZ V L y)=zs at *;subst h;have hget:∀l,l < L->(kV V L zs).getD l vJ=⟨true,(zs.drop (l*(V+1))).take V,zs.getD (l*(V+1)+V) 0⟩:=fun l hl=>by
   simp[kV,List.getD_eq_getElem?_getD,hl]
  refine ⟨by simp[kV],fun r hr=>?_,fun l hl=>?_⟩
  ·simp only[kV,List.mem_map,List.mem_range]at hr
   obtain ⟨l,hl,rfl⟩:=hr;have:=hroom l hl;refine ⟨by simp only[List.length_take,List.length_drop];omega,?_,fun c hc=>hsm c (List.mem_of_mem_drop (List.mem_of_mem_take hc))⟩;simp only;rw[List.getD_eq_getElem?_getD,List.getElem?_eq_getElem (by omega)];exact hsm _ (List.getElem_mem _)
  ·have:=hroom l hl
   rw[hget l hl];have hcl:((zs.drop (l*(V+1))).take V).length=V:=by simp only[List.length_take,List.length_drop];omega
   refine ⟨hcl,fun j hj=>?_⟩;have hent:dQ (⟨true,(zs.drop (l*(V+1))).take V,zs.getD (l*(V+1)+V) 0⟩:Row) j=zs.getD (l*(V+1)+j) 0:=by
    rcases Nat.lt_or_ge j V with h1|h1
    ·rw[fM hcl h1]
     simp only;rw[List.getD_eq_getElem?_getD,List.getElem?_take,if_pos h1,List.getElem?_drop,<- List.getD_eq_getElem?_getD]
    ·have:j=V:=by omega
     subst this;exact gP hcl
   rw[hent,hval _ (by omega)];rfl
 ·cases h
end ama
end Go.Vm
end
section
namespace Go.Vm
open Go Go.Proofs Go.Whole Go.bB
namespace ama
open Go.Proofs.Tryz
attribute [go_sem] Tryz.results240 Tryz.results264 Tryz.results262 Tryz.results242 Tryz.results263 Tryz.results243 Tryz.results265 Tryz.results244 Tryz.results241 Tryz.results198 Tryz.results246 Tryz.results245 Tryz.results199 Tryz.results122 Tryz.results53
abbrev tKV:TypeId:=303
abbrev aaH:TypeId:=305
abbrev Mx:TypeId:=277
def fG (kv:List (Int × Int)) (k:Int):Int:=match iQ k 0 kv with|some (_,v)=>v|none=>0
def kF (k x:Int) (kv:List (Int × Int)):List (Int × Int):=gU k (fG kv k+x) kv
def eT (y:Nat->Rat):List (Int × Int)->Rat
 |[]=>0
 |e::r=>(e.2:Rat)*y e.1.toNat+eT y r
def tZ:List (Int × Int)->Nat
 |[]=>0
 |e::r=>e.2.natAbs+tZ r
def KvB (kv:List (Int × Int)) (C B:Nat):Prop:=(∀e∈kv,0<=e.1/\e.1 < C)/\tZ kv<=B
theorem zY (k:Int):∀(kv:List (Int × Int)) (i:Nat),(iQ k i kv).map (·.2)=(iQ k 0 kv).map (·.2)
 |[],i=>rfl
 |x::r,i=>by
  simp only[iQ]
  by_cases h:k=x.1
  ·rw[if_pos h,if_pos h];rfl
  ·rw[if_neg h,if_neg h,zY k r (i+1),zY k r (0+1)]
theorem OV (kv:List (Int × Int)) (k:Int):fG kv k=((iQ k 0 kv).map (·.2)).getD 0:=by
 unfold fG;cases iQ k 0 kv<;>rfl
theorem BM (x:Int × Int) (r:List (Int × Int)) (k:Int):fG (x::r) k=if k=x.1 then x.2 else fG r k:=by
 rw[OV,OV];simp only[iQ]
 by_cases h:k=x.1
 ·rw[if_pos h,if_pos h];rfl
 ·rw[if_neg h,if_neg h,zY k r (0+1)]
theorem MB (y:Nat->Rat) (k v:Int):∀kv:List (Int × Int),eT y (gU k v kv)=eT y kv+((v-fG kv k:Int):Rat)*y k.toNat
 |[]=>by
  simp only[gU,eT,fG,iQ,Int.sub_zero];grind
 |x::r=>by
  simp only[gU];rw[BM]
  by_cases h:k=x.1
  ·rw[if_pos h,if_pos h]
   simp only[eT,h];rw[Int.sub_eq_add_neg,Rat.intCast_add,Rat.intCast_neg];grind
  ·rw[if_neg h,if_neg h]
   simp only[eT];rw[MB y k v r];grind
theorem su (y:Nat->Rat) (k x:Int) (kv:List (Int × Int)):eT y (kF k x kv)=eT y kv+(x:Rat)*y k.toNat:=by
 unfold kF;rw[MB,show fG kv k+x-fG kv k=x by omega]
theorem MC (k:Int):∀kv:List (Int × Int),(fG kv k).natAbs<=tZ kv
 |[]=>by simp[fG,iQ]
 |x::r=>by
  have:=MC k r;rw[BM,tZ];split<;>omega
theorem ME (k v:Int):∀kv:List (Int × Int),tZ (gU k v kv)<=tZ kv+(v-fG kv k).natAbs
 |[]=>by simp[gU,fG,iQ,tZ]
 |x::r=>by
  have:=ME k v r;rw[BM];simp only[gU];split
  ·simp only[tZ];omega
  ·simp only[tZ];omega
theorem Jp {k v:Int}{C:Nat} (h0:0<=k) (h1:k < C):∀ {kv:List (Int × Int)},(∀e∈kv,0<=e.1/\e.1 < C)->∀e∈gU k v kv,0<=e.1/\e.1 < C
 |[],_,e,he=>by
  simp only[gU,List.mem_singleton]at he;subst he;exact ⟨h0,h1⟩
 |x::r,h,e,he=>by
  simp only[gU]at he;split at he
  ·rcases List.mem_cons.1 he with rfl|he
   ·exact ⟨h0,h1⟩
   ·exact h e (by simp[he])
  ·rcases List.mem_cons.1 he with rfl|he
   ·exact h _ (by simp)
   ·exact Jp h0 h1 (fun e he=>h e (by simp[he])) e he
theorem Gc {kv:List (Int × Int)}{C B:Nat} (h:KvB kv C B) (k:Int):(fG kv k).natAbs<=B:=Nat.le_trans (MC k kv) h.2
theorem KvB.mono {kv:List (Int × Int)}{C B C' B':Nat} (h:KvB kv C B) (hc:C<=C') (hb:B<=B'):KvB kv C' B':=⟨fun e he=>by
 obtain ⟨a,b⟩:=h.1 e he;exact ⟨a,by omega⟩,Nat.le_trans h.2 hb⟩
theorem tL {kv:List (Int × Int)}{C B m:Nat}{k x:Int} (h:KvB kv C B) (h0:0<=k) (h1:k < C) (hx:x.natAbs<=m):KvB (kF k x kv) C (B+m):=by
 refine ⟨Jp h0 h1 h.1,?_⟩;have:=ME k (fG kv k+x) kv;have:=h.2;rw[show fG kv k+x-fG kv k=x by omega]at *;unfold kF;omega
theorem KvB.nil (C:Nat):KvB [] C 0:=⟨fun e he=>by simp at he,Nat.le_refl _⟩
def kvO (kv:List (Int × Int)):Obj:=⟨kvC kv,0,0,tKV,true,true⟩
theorem QM:Ih Tryz.prog tKV=true:=by kernel_rfl
theorem zZ {h:Hp}{id:Id}{kv:List (Int × Int)} (hg:hget h id=some (kvO kv)) (k:Int):nT Tryz.prog tKV (.mp id) (.t (i64 k)) h=some (.t (i64 (fG kv k))):=by
 unfold nT fG;simp only[hg,kvO,QM,and_self,if_true,lI];cases iQ k 0 kv<;>rfl
theorem vQ {h:Hp}{id:Id}{kv:List (Int × Int)} (hg:hget h id=some (kvO kv)) (k x:Int):je Tryz.prog tKV (.mp id) (.t (i64 k)) (.t (i64 x)) h=some (hset h id (kvO (gU k x kv))):=by
 unfold je;simp only[hg,kvO,QM,and_self,if_true,lI]
def eY (f:Flow) (ak:Nat) (rows rhs:PV):Obj:=⟨f.cs.map .t++[.t (i64 (ak:Nat)),rows,rhs],7,1,Mx,true,true⟩
def mF (mid:Id) (rhs:Int):Obj:=⟨[.mp mid,.t (i64 rhs)],2,1,aaH,true,true⟩
def intsO (l:List Int):Obj:=⟨(ints l).map .t,1,l.length,2,false,true⟩
def rE (h:Hp) (c:PV) (r:List Int):Prop:=(c=.t (.sl false [])/\r=[])\/∃id:Id,c=.rf id r.length/\id.1=105/\hget h id=some (intsO r)
def nS (h:Hp) (a:Nat) (p:PV) (R:List (List Int)):Prop:=(p=.t (.sl false [])/\R=[]) \/
 ∃(rid:Id) (C:List PV),p=.rf rid R.length/\rid.1=a/\hget h rid=some ⟨C,1,R.length,35,false,true⟩/\C.length=R.length/\∀(i:Nat) (c:PV) (r:List Int),C[i]?=some c->R[i]?=some r->rE h c r
def Ai (h:Hp) (a:Nat) (p:PV) (b:List Int):Prop:=(p=.t (.sl false [])/\b=[])\/∃rid:Id,p=.rf rid b.length/\rid.1=a/\hget h rid=some (intsO b)
structure jq (h:Hp) (sid:Id) (f:Flow) (ak:Nat) (rows rhs:PV) (R:List (List Int)) (b:List Int):Prop where
 site:sid.1=15
 obj:hget h sid=some (eY f ak rows rhs)
 rows:nS h 131 rows R
 rhs:Ai h 141 rhs b
def free (ids:List Id):Prop:=∀id∈ids,id.1≠15/\id.1≠105/\id.1≠131/\id.1≠141
theorem rE.same {h h':Hp}{ids:List Id} (hs:Same h h' ids) (hf:∀id∈ids,id.1≠105) {c:PV}{r:List Int}:rE h c r->rE h' c r
 |.inl x=>.inl x
 |.inr ⟨id,e1,e2,e3⟩=>.inr ⟨id,e1,e2,hs _ _ (fun hm=>hf _ hm e2) e3⟩
theorem nS.same {h h':Hp}{ids:List Id}{a:Nat} (hs:Same h h' ids) (hf:∀id∈ids,id.1≠105) (hf2:∀id∈ids,id.1≠a) {p:PV}{R:List (List Int)}:nS h a p R->nS h' a p R
 |.inl x=>.inl x
 |.inr ⟨rid,C,e1,e2,e3,e4,e5⟩=>.inr ⟨rid,C,e1,e2,hs _ _ (fun hm=>hf2 _ hm e2) e3,e4,fun i c r h1 h2=>(e5 i c r h1 h2).same hs hf⟩
theorem Ai.same {h h':Hp}{ids:List Id}{a:Nat} (hs:Same h h' ids) (hf2:∀id∈ids,id.1≠a) {p:PV}{b:List Int}:Ai h a p b->Ai h' a p b
 |.inl x=>.inl x
 |.inr ⟨rid,e1,e2,e3⟩=>.inr ⟨rid,e1,e2,hs _ _ (fun hm=>hf2 _ hm e2) e3⟩
theorem jq.same {h h':Hp}{ids:List Id} (hs:Same h h' ids) (hf:free ids) {sid:Id}{f:Flow}{ak:Nat}{rows rhs:PV}{R:List (List Int)}{b:List Int} (x:jq h sid f ak rows rhs R b):jq h' sid f ak rows rhs R b :=
 ⟨x.site,hs _ _ (fun hm=>(hf _ hm).1 x.site) x.obj,x.rows.same hs (fun _ hm=>(hf _ hm).2.1) (fun _ hm=>(hf _ hm).2.2.1),x.rhs.same hs (fun _ hm=>(hf _ hm).2.2.2)⟩
theorem BN {h:Hp}{id:Id}{r:List Int} (hg:hget h id=some (intsO r)) (k:Nat):aS h (k+1) (.rf id r.length)=some (.sl true (ints r)):=iT k hg
theorem HY {h:Hp}{k:Nat}{id:Id}{n:Nat}{o:Obj}{ts:List Tr} (hg:hget h id=some o) (hl:o.len=n) (hm:bA (aS h k) o.cs=some ts):aS h (k+1) (.rf id n)=some (.sl true (elems o.ag o.esz o.len ts)):=by
 rw[rO];simp only[hg,hl,if_true,hm]
theorem OW {h:Hp}{k:Nat}{id:Id}{n off:Nat}{o:Obj}{ts:List Tr} (hg:hget h id=some o) (hl:o.len=n) (hm:bA (aS h k) o.cs=some ts):aS h (k+1) (.ad id n off)=some (Tr.ptr (ts.drop off)):=by
 show (match hget h id with|some o=>if o.len=n then (match bA (aS h k) o.cs with|some ts=>some (Tr.ptr (ts.drop off))|none=>none) else none|none=>none)=_
 simp only[hg,hl,if_true,hm]
theorem Ey {α β:Type}{f:α->Option β}:∀ {l:List α},(∀x∈l,∃y,f x=some y)->∃ys,bA f l=some ys/\ys.length=l.length
 |[],_=>⟨[],rfl,rfl⟩
 |a::l,h=>by
  obtain ⟨y,hy⟩:=h a (by simp);obtain ⟨ys,hys,hl⟩:=Ey (l:=l) fun x hx=>h x (by simp[hx])
  exact ⟨y::ys,by simp only[bA,hy,hys],by simp[hl]⟩
theorem rE.tree {h:Hp}{c:PV}{r:List Int} (k:Nat):rE h c r->∃x,aS h (k+1) c=some x
 |.inl ⟨e,_⟩=>⟨_,by rw[e];exact qy _ _⟩
 |.inr ⟨id,e1,_,e3⟩=>⟨_,by rw[e1];exact BN e3 k⟩
theorem nS.tree {h:Hp}{a:Nat}{p:PV}{R:List (List Int)} (k:Nat):nS h a p R->∃x,aS h (k+2) p=some x
 |.inl ⟨e,_⟩=>⟨_,by rw[e];exact qy _ _⟩
 |.inr ⟨rid,C,e1,_,e3,e4,e5⟩=>by
  obtain ⟨ys,hy,_⟩:=Ey (f:=aS h (k+1)) (l:=C) fun x hx=>by
   obtain ⟨i,hi,rfl⟩:=List.mem_iff_getElem.1 hx;exact (e5 i _ _ (List.getElem?_eq_getElem hi) (List.getElem?_eq_getElem (by omega))).tree k
  exact ⟨_,by rw[e1];exact HY e3 rfl hy⟩
theorem Ai.tree {h:Hp}{a:Nat}{p:PV}{b:List Int} (k:Nat):Ai h a p b->∃x,aS h (k+1) p=some x
 |.inl ⟨e,_⟩=>⟨_,by rw[e];exact qy _ _⟩
 |.inr ⟨rid,e1,_,e3⟩=>⟨_,by rw[e1];exact BN e3 k⟩
theorem jq.tree {h:Hp}{sid:Id}{f:Flow}{ak:Nat}{rows rhs:PV}{R:List (List Int)}{b:List Int} (x:jq h sid f ak rows rhs R b):∃rt ht,aS h dep (.ad sid 1 0)=some (.ptr (f.cs++[i64 (ak:Nat),rt,ht])):=by
 obtain ⟨rt,h1⟩:=x.rows.tree 3;obtain ⟨ht,h2⟩:=x.rhs.tree 4;refine ⟨rt,ht,?_⟩;refine OW (k:=5) (off:=0) x.obj rfl ?_;simp only[eY,Flow.cs,List.map_cons,List.map_nil,List.cons_append,List.nil_append,bA,qy,h1,h2]
theorem aaI {f:Flow}{ak:Nat}{rt ht:Tr}{V:Nat} (hV:f.vars=(V:Nat)) (hV8:V<=8) {l j:Nat} (hl:l<=16) (hj:j<=8) :
  aB Tryz.prog 240 [.ptr (f.cs++[i64 (ak:Nat),rt,ht]),i64 (l:Nat),i64 (j:Nat)] (i64 (eG V l j:Nat)):=by
 have hm:l*(V+1)<=16*9:=Nat.mul_le_mul hl (by omega);have w1:IntKind.i64.wrap (((V:Nat):Int)+1)=((V+1:Nat):Int):=by rw[wrap_i64 (by omega) (by omega)];omega
 have w2:IntKind.i64.wrap ((l:Int)*((V+1:Nat):Int))=((l*(V+1):Nat):Int):=by
  rw[<- Int.natCast_mul,wrap_i64 (by omega) (by omega)]
 have w3:IntKind.i64.wrap (((l*(V+1):Nat):Int)+(j:Int))=((l*(V+1)+j:Nat):Int):=by rw[wrap_i64 (by omega) (by omega)];omega
 have w4:IntKind.i64.wrap (2*((l*(V+1)+j:Nat):Int))=((eG V l j:Nat):Int):=by
  unfold eG;rw[wrap_i64 (by omega) (by omega)];omega
 generalize l*(V+1)+j=b at *;generalize l*(V+1)=a at *;generalize eG V l j=c at *;generalize V+1=d at *;clear hm;refine au orders Tryz.func240 rfl (by kernel_rfl) bf (by kernel_rfl) rfl (fun hs=>?_);clear hs
 repeat' (first|refine sX ?_ ?_<;>intro h|simp only[go_sem, *])
theorem lD (h:Hp) (id:Id) (o o':Obj):hset (hset h id o) id o'=hset h id o':=by
 funext u;unfold hset upd;split
 ·rename_i e
  subst e;simp
 ·rfl
theorem OX {V l j L:Nat} (hl:l < L) (hj:j<=V):eG V l j+1 < 2*(L*(V+1)):=by
 unfold eG;have:l*(V+1)+(V+1)<=L*(V+1):=by rw[<- Nat.succ_mul];exact Nat.mul_le_mul_right _ hl
 omega
def fE (V l j:Nat) (x:Int) (kv:List (Int × Int)):List (Int × Int):=kF ((eG V l j+1:Nat):Int) (-x) (kF ((eG V l j:Nat):Int) x kv)
theorem mQ {V l j L C B m:Nat}{x:Int}{kv:List (Int × Int)} (h:KvB kv C B) (hl:l < L) (hj:j<=V) (hC:2*(L*(V+1))<=C) (hx:x.natAbs<=m):KvB (fE V l j x kv) C (B+2*m):=by
 have hc:=OX hl hj;exact (tL (m:=m) (tL h (by omega) (by omega) hx) (by omega) (by omega) (by omega)).mono (Nat.le_refl _) (by omega)
theorem jY (V l j:Nat) (x:Int) (kv:List (Int × Int)) (y:Nat->Rat):eT y (fE V l j x kv)=eT y kv+(x:Rat)*Fq V y l j:=by
 unfold fE;rw[su,su,Int.toNat_natCast,Int.toNat_natCast,Rat.intCast_neg];unfold Fq;grind
theorem Gd {h:Hp}{sid qid mid:Id}{f:Flow}{ak:Nat}{rows rhs:PV}{R:List (List Int)}{b:List Int}{r:Int}{kv:List (Int × Int)}{V L C B m:Nat} (hS:jq h sid f ak rows rhs R b) (hQ:hget h qid=some (mF mid r)) (hM:hget h mid=some (kvO kv))
  (Xf:mid.1=36) (aaJ:qid.1=38) (hV:f.vars=(V:Nat)) (hV8:V<=8) {l j:Nat} (hl:l < L) (hj:j<=V) (hL:L<=16) {x:Int} (hkv:KvB kv C B) (hC:2*(L*(V+1))<=C) (hB:B+2*m<=1099511627776) (hx:x.natAbs<=m) :
  dM Tryz.prog 264 [.ad sid 1 0,.ad qid 1 0,.t (i64 (l:Nat)),.t (i64 (j:Nat)),.t (i64 x)] h (fun v h'=>v=.t (.tup [])/\h'=hset h mid (kvO (fE V l j x kv))):=by
 have hc:=OX hl hj;have hL9:L*(V+1)<=16*9:=Nat.mul_le_mul hL (by omega);have b1:=Gc hkv (eG V l j:Nat);have w1:IntKind.i64.wrap (fG kv (eG V l j:Nat)+x)=fG kv (eG V l j:Nat)+x:=wrap_i64 (by omega) (by omega);have k1:=tL (k:=(eG V l j:Nat)) (x:=x) hkv (by omega) (by omega) hx;have l1:=zZ hM (eG V l j:Nat);have u1:=vQ hM (eG V l j:Nat) (fG kv (eG V l j:Nat)+x);have q2:=aD hQ (id:=mid) (.inl (by simp[Prod.ext_iff,Xf,aaJ])) (kvO (kF (eG V l j:Nat) x kv));have s2:=hS.same (Same.set h mid (kvO (kF (eG V l j:Nat) x kv))) (fun id hid=>by rw[List.mem_singleton]at hid;rw[hid,Xf];decide);have m2:=aM hM (kvO (kF (eG V l j:Nat) x kv));change je _ _ _ _ _ _=some (hset h mid (kvO (kF (eG V l j:Nat) x kv))) at u1;have hkp:fE V l j x kv=kF ((eG V l j+1:Nat):Int) (-x) (kF ((eG V l j:Nat):Int) x kv):=rfl;have ss:=fun o=>lD h mid (kvO (kF (eG V l j:Nat) x kv)) o
 generalize kF (eG V l j:Nat) x kv=kv1 at *;generalize hset h mid (kvO kv1)=h1 at *;obtain ⟨rt,ht,t1⟩:=hS.tree;obtain ⟨rt',ht',t2⟩:=s2.tree;have a1:=aaI (f:=f) (ak:=ak) (rt:=rt) (ht:=ht) hV hV8 (l:=l) (j:=j) (by omega) (by omega);have a2:=aaI (f:=f) (ak:=ak) (rt:=rt') (ht:=ht') hV hV8 (l:=l) (j:=j) (by omega) (by omega);have b2:=Gc k1 ((eG V l j+1:Nat):Int);have w2:IntKind.i64.wrap (fG kv1 ((eG V l j+1:Nat):Int)-x)=fG kv1 ((eG V l j+1:Nat):Int)+-x:=by rw[wrap_i64 (by omega) (by omega)];omega
 have w3:IntKind.i64.wrap ((eG V l j:Int)+1)=((eG V l j+1:Nat):Int):=by rw[wrap_i64 (by omega) (by omega)];omega
 have l2:=zZ m2 ((eG V l j+1:Nat):Int);have u2:=vQ m2 ((eG V l j+1:Nat):Int) (fG kv1 ((eG V l j+1:Nat):Int)+-x);have k2:=tL (k:=(eG V l j+1:Nat)) (x:=-x) (m:=m) k1 (by omega) (by omega) (by omega);change je _ _ _ _ _ _=some (hset h1 mid (kvO (kF (eG V l j+1:Nat) (-x) kv1))) at u2;rw[ss]at u2;generalize kF ((eG V l j+1:Nat):Int) (-x) kv1=kv2 at *;clear k2 k1 ss hc b1 b2 hkv hB hx hC hM m2 hS s2;have hkq:hset h mid (kvO kv2)=hset h mid (kvO (fE V l j x kv)):=by rw[hkp]
 clear hkp;unfold mF at hQ q2;generalize hcc:eG V l j=c at *;generalize hcd:c+1=d at *;refine dI orders Tryz.func264 rfl (by kernel_rfl) (fun d=>d==10||d==11||d==12||d==21||d==22||d==23||d==4000017||d==4000028) (by kernel_rfl) rfl (fun hs hlen=>?_);clear hs hlen
 repeat' (first|refine sX ?_ ?_<;>intro h|simp only[go_sem, *])
 refine Wz a1 (by simp only[bA,t1,qy]) rfl rfl ?_
 repeat' (first|refine sX ?_ ?_<;>intro h|simp only[go_sem, *])
 refine Wz a2 (by simp only[bA,t2,qy]) rfl rfl ?_
 repeat' (first|refine sX ?_ ?_<;>intro h|simp only[go_sem, *])
theorem acC {h:Hp}{sid qid mid:Id}{f:Flow}{ak:Nat}{rows rhs:PV}{R:List (List Int)}{b:List Int}{r:Int}{kv:List (Int × Int)}{V L C B m:Nat} (hS:jq h sid f ak rows rhs R b) (hQ:hget h qid=some (mF mid r)) (hM:hget h mid=some (kvO kv))
  (Xf:mid.1=36) (aaJ:qid.1=38) (hV:f.vars=(V:Nat)) (hV8:V<=8) {l j:Nat} (hl:l < L) (hj:j<=V) (hL:L<=16) {x:Int} (hkv:KvB kv C B) (hC:2*(L*(V+1))<=C) (hB:B+2*m<=1099511627776) (hx:x.natAbs<=m) :
  dM Tryz.prog 264 [.ad sid 1 0,.ad qid 1 0,.t (i64 (l:Nat)),.t (i64 (j:Nat)),.t (i64 x)] h (fun _ h'=>∃kv',h'=hset h mid (kvO kv')/\KvB kv' C (B+2*m)/\∀y,eT y kv'=eT y kv+(x:Rat)*Fq V y l j) :=
 (Gd hS hQ hM Xf aaJ hV hV8 hl hj hL hkv hC hB hx).mono fun _ _ ⟨_,e⟩=>⟨_,e,mQ hkv hl hj hC hx,jY V l j x kv⟩
def oP:List Bool->List (Int × Int)->Nat->Int
 |true::fs,e::kv,j=>(if e.1.toNat=j then e.2 else 0)+oP fs kv j
 |false::fs,_::kv,j=>oP fs kv j
 |_,_,_=>0
theorem MF:∀(kv:List (Int × Int)) (j:Nat),oP (List.replicate kv.length false) kv j=0
 |[],_=>rfl
 |_::kv,j=>by simp only[List.length_cons,List.replicate_succ,oP];exact MF kv j
theorem HZ:∀(fs:List Bool) (kv:List (Int × Int)) (i j:Nat),fs.length=kv.length->fs[i]?=some false->oP (fs.set i true) kv j=oP fs kv j+(if (kv.getD i (0,0)).1.toNat=j then (kv.getD i (0,0)).2 else 0)
 |[],_,i,_,_,h=>by simp at h
 |_::_,[],_,_,h,_=>by simp at h
 |b::fs,e::kv,0,j,hl,h=>by
  simp only[List.getElem?_cons_zero,Option.some.injEq]at h;subst h;simp only[List.set_cons_zero,oP,List.getD_cons_zero];omega
 |b::fs,e::kv,i+1,j,hl,h=>by
  simp only[List.getElem?_cons_succ]at h;have:=HZ fs kv i j (by simpa using hl) h;simp only[List.set_cons_succ,List.getD_cons_succ];cases b<;>simp only[oP,this]<;>omega
theorem yQ:∀(fs:List Bool) (kv:List (Int × Int)) (j:Nat),(oP fs kv j).natAbs<=tZ kv
 |[],_,_=>by simp[oP]
 |true::_,[],_=>by simp[oP]
 |false::_,[],_=>by simp[oP]
 |true::fs,e::kv,j=>by
  have:=yQ fs kv j;simp only[oP,tZ];split<;>omega
 |false::fs,e::kv,j=>by
  have:=yQ fs kv j;simp only[oP,tZ];omega
def wW (y:Nat->Rat) (n:Nat) (g:Nat->Int):Rat:=aN n fun j=>((g j:Int):Rat)*y j
theorem Yp (y:Nat->Rat) (n:Nat) (f g:Nat->Int):wW y n (fun j=>f j+g j)=wW y n f+wW y n g:=by
 unfold wW;rw[<- Cw];exact aL fun j _=>by rw[Rat.intCast_add];grind
theorem Yq (y:Nat->Rat) {n k:Nat} (v:Int) (hk:k < n):wW y n (fun j=>if k=j then v else 0)=(v:Rat)*y k:=by
 unfold wW;rw[aL (g:=fun j=>y j*(if k=j then (v:Rat) else 0)) fun j _=>by
  by_cases e:k=j
  ·simp only[if_pos e];grind
  ·simp only[if_neg e];rw[rc0];grind]
 rw[Fw,if_pos hk];grind
theorem MG (y:Nat->Rat) {n:Nat}:∀(fs:List Bool) (kv:List (Int × Int)),fs.length=kv.length->fs.all (fun b=>b)=true->(∀e∈kv,0<=e.1/\e.1 < n)->wW y n (oP fs kv)=eT y kv
 |[],[],_,_,_=>by
  unfold wW eT;rw[aL (g:=fun _=>0) fun j _=>by simp only[oP];rw[rc0];grind];exact gG n
 |[],_::_,h,_,_=>by simp at h
 |_::_,[],h,_,_=>by simp at h
 |b::fs,e::kv,hl,ha,hk=>by
  simp only[List.all_cons,Bool.and_eq_true]at ha;obtain ⟨hb,ha⟩:=ha;subst hb;have h1:=hk e (by simp);have:oP (true::fs) (e::kv)=fun j=>(if e.1.toNat=j then e.2 else 0)+oP fs kv j:=rfl
  rw[this,Yp,Yq y e.2 (by omega),MG y fs kv (by simpa using hl) ha fun e' he=>hk e' (by simp[he])];rfl
def Keep (h h':Hp):Prop:=∀id o,(id.1==81)=false->(id.1==41)=false->(id.1==16)=false->hget h id=some o->hget h' id=some o
theorem Keep.trans {a b c:Hp} (x:Keep a b) (y:Keep b c):Keep a c:=fun id o h1 h2 h3 h=>y id o h1 h2 h3 (x id o h1 h2 h3 h)
theorem Keep.of {a b:Hp}{i:Nat} (x:Same a b [(81,i)]):Keep a b:=fun id o h1 _ _ h=>x id o (by intro e;simp at e;subst e;simp at h1) h
theorem Keep.ahC {a b:Hp} (x:Same a b [(41,0)]):Keep a b:=fun id o _ h2 _ h=>x id o (by intro e;simp at e;subst e;simp at h2) h
theorem FB.q3 {x:Rat}{N:Nat} (hN:Fit N) (h:FB x (N*(N*N)) (N*(N*N))):gH x:=by
 have hl:=hN.le;have hl2:=hN.2;have e:100000=50000+50000:=rfl;have h1:N*(N*N) < B ^ 100000:=by
  generalize 100000=m at *;generalize 50000=k at *;subst e;rw[Nat.pow_add];exact Nat.mul_lt_mul'' hl hl2
 clear hl hl2 e;exact h.fits h1 h1 (Nat.le_refl _)
theorem Xg {h:Hp}{id id2:Id}{r p:List Rat}{W col N:Nat} (hN:Fit N) (hl1:r.length=W) (hl2:p.length=W) (hc:col < W) (hne:(id==id2)=false) (hr:hget h id=some ⟨dY r,6,W,dW,true,true⟩) (hp:hget h id2=some ⟨dY p,6,W,dW,true,true⟩)
  (f1:∀x∈r,FB x N N) (f2:∀x∈p,FB x (N*N) (N*N)) :
  dM Tryz.prog 208 [.rf id W,.rf id2 W,.t (i64 col)] h (fun _ h'=>hget h' id=some ⟨dY (lu r p col),6,W,dW,true,true⟩/\Same h h' [id]):=by
 have yO:r.getD col 0∈r:=jy (by omega);have hll:(lu r p col).length=W:=by unfold lu;rw[List.length_zipWith];omega
 have:=acB h id id2 r p col (by omega) (by omega) (by omega) hne (by rw[hr];unfold Jj;rw[hl1];rfl) (by rw[hp];unfold Jj;rw[hl2];rfl) (fun x hx=>(f1 x hx).q1 hN) (fun x hx=>(f2 x hx).q2 hN) (fun x hx=>((f1 _ yO).mul (f2 x hx)).q3 hN);unfold Jj at this;rw[hl1,hl2,hll]at this;exact this
theorem aaK {h:Hp}{T:Tab}{n W:Nat} (hT:yP h T n W) (hok:T.Ok n W) {N:Nat} (hN:Fit N) (hn:n<=1099511627776) (hfb:∀r∈T.rows,∀x∈r,FB x N N) (hfc:∀x∈T.cost,FB x N N) {p q:Nat} (hp:p < n) (hq:q < W) (hpos:0 < (T.row p).getD q 0) :
  dM Tryz.prog 138 [.ad (18,0) 1 0,.t (i64 (p:Nat)),.t (i64 (q:Nat))] h (fun _ h'=>yP h' (gT T p q) n W/\Keep h h'):=by
 obtain ⟨h1,h2,h3,h4,h5⟩:=hT;have hpl:p < T.rows.length:=by rw[hok.rn];exact hp
 obtain ⟨r,hr,_⟩:=aF T.rows p hpl;have hrow:T.row p=r:=by simp[Tab.row,List.getD_eq_getElem?_getD,hr]
 have hrm:=List.mem_of_getElem? hr;have hrl:=hok.rw' r hrm;have adP:gT T p q=⟨T.rows.mapIdx (fun i x=>if i=p then r.map (·*(r.getD q 0)⁻¹) else lu x (r.map (·*(r.getD q 0)⁻¹)) q),lu T.cost (r.map (·*(r.getD q 0)⁻¹)) q,T.basis.set p q,T.ak⟩:=by
  unfold gT;rw[hrow]
 rw[hrow]at hpos;rw[adP];clear adP hrow;have h5p:=h5 p r hr;have hqr:r[q]?=some (r.getD q 0):=by rw[List.getD_eq_getElem?_getD,List.getElem?_eq_getElem (by omega)];rfl
 have hlq:=l6 hqr;have hf1:=hfb r hrm _ (List.mem_of_getElem? hqr);have hcl:=l7 r;rw[hrl]at hcl;have hq6:q*6+6<=W*6:=by omega
 have hrg:=zT (f:=fun i=>.rf (81,i) W) hp;generalize r.getD q 0=e at *;have he0:e≠0:=fun h=>by rw[h]at hpos;exact absurd hpos (by decide)
 have w1:=Qg e (hf1.q1 hN) he0;have hfi:=hf1.inv hpos;have k1:=fun o=>aA h1 (s:=7) o
 have k5:=fun o=>aA h5p (s:=7) o
 refine dI orders Tryz.func138 rfl (by kernel_rfl) (fun d=>d==7||d==34||d==36||d==38||d==42) (by kernel_rfl) rfl (fun hs hlen=>?_);have hW:W<=9223372036854775807:=hlen _ _ h2;clear hs hlen
 repeat' (first|refine sX ?_ ?_<;>intro h|refine aj (w1) rfl ?_|simp only[go_sem, *,beq_self_eq_true])
 refine aC (List.range (W)) (fun k s'=>∃cur:List Rat,hget s'.hp (81,p)=some ⟨dY cur,6,W,dW,true,true⟩/\hget s'.hp (hnext h 7)=some ⟨(dA e⁻¹).map .t,6,1,dW,true,true⟩/\Same h s'.hp [(81,p)]/\cur.length=W/\cur.drop k=r.drop k/\cur.take k=(r.map (·*e⁻¹)).take k) rfl (by rw[List.length_range];rfl) (by rw[List.length_range];first|assumption|omega) (by kernel_rfl) (fun _ _ _ _ hj=>hj) (fun _ _ _ hj=>hj) ?_ (fun k x s' hx hd hk hJ hix hfr G hG=>?_) (fun s' hJ hfr=>?_)
 ·exact ⟨r,k5 _,aJ _ _,(Same.new h 7 _).mono (by simp),hrl,rfl,rfl⟩
 ·have c6:=hfr 6 (by kernel_rfl)
  have c7:=hfr 7 (by kernel_rfl);clear hfr;simp only[go_sem]at c6 c7;obtain ⟨cur,g1,g7,hsm,jc,hdr,htk⟩:=hJ;rw[List.length_range]at hk;have hxk:x=k:=by rw[List.getElem?_range hk]at hx;injection hx with hx;exact hx.symm
  subst hxk;obtain ⟨y,hy,_⟩:=aF r x (by omega);have hcy:cur[x]?=some y:=by
   have:=congrArg (fun l=>l[0]?) hdr;simp only[List.getElem?_drop,Nat.add_zero]at this;rw[this,hy]
  have hly:=l6 hcy;have hyf:=hfb r hrm _ (List.mem_of_getElem? hy);have hcc:=l7 cur;rw[jc]at hcc;have hx6:x*6+6<=W*6:=by omega
  have hmy:(r.map (·*e⁻¹))[x]?=some (y*e⁻¹):=by rw[List.getElem?_map,hy];rfl
  have sg:=qK y;clear hd hx hqr hlq
  by_cases hy0:y=0
  ·rw[sign_zero hy0]at sg
   have gz:((0:Int) != 0)=false:=rfl;subst hy0;rw[show (0:Rat)*e⁻¹=0 by grind]at hmy
   repeat' (first|refine sX ?_ ?_<;>intro h|refine aj (sg) rfl ?_|simp only[go_sem, *,beq_self_eq_true])
   refine hG _ ⟨cur,g1,g7,hsm,jc,?_,?_⟩
   ·have:=congrArg List.tail hdr;simpa using this
   ·rw[List.take_add_one,List.take_add_one,htk,hcy,hmy]
  ·have gx:(y.num.sign != 0)=true:=by
    have:y.num≠0:=fun h=>hy0 (Rat.num_eq_zero.1 h)
    rw[bne_iff_ne];exact fun hh=>this (Int.sign_eq_zero_iff_zero.1 hh)
   have w2:=Ka y e⁻¹ (hyf.q1 hN) (hfi.q1 hN);have hst:=zQ (l:=cur) (k:=x) (q:=y*e⁻¹) (by omega);have hqn:(dA (y*e⁻¹)).length=6:=aQ _;have hb7:=iE (s:=7) h5p
   repeat' (first|refine sX ?_ ?_<;>intro h|refine aj (sg) rfl ?_|refine aj (w2) rfl ?_|simp only[go_sem, *,beq_self_eq_true])
   refine hG _ ⟨cur.set x (y*e⁻¹),aM g1 _,aD g7 (.inl hb7) _,(hsm.trans (Same.set _ _ _)).mono (by simp),by simp[jc],?_,?_⟩
   ·rw[List.drop_set_of_lt (by omega)]
    have:=congrArg List.tail hdr;simpa using this
   ·rw[aP _ _ _ (by omega),htk,List.take_add_one,hmy];rfl
 ·have c0:=hfr 0 (by kernel_rfl)
  have c1:=hfr 1 (by kernel_rfl);have c2:=hfr 2 (by kernel_rfl);have c6:=hfr 6 (by kernel_rfl);clear hfr;simp only[go_sem]at c0 c1 c2 c6;obtain ⟨R,g1,_,hsm,hRl,_,htk⟩:=hJ;rw[List.length_range,List.take_of_length_le (by omega),List.take_of_length_le (by simp;omega)]at htk;have hRf:∀x∈R,FB x (N*N) (N*N):=fun x hx=>by
   rw[htk]at hx;obtain ⟨z,hz,rfl⟩:=List.mem_map.1 hx;exact (hfb r hrm z hz).mul hfi
  rw[<- htk];have hkp:=Keep.of hsm;have m1:=hsm _ _ (by simp) h1;have m2:=hsm _ _ (by simp) h2;have m3:=hsm _ _ (by simp) h3;have m4:=hsm _ _ (by simp) h4;have m5:∀i x,T.rows[i]?=some x->i≠p->hget s'.hp (81,i)=some ⟨dY x,6,W,dW,true,true⟩:=fun i x hx hi=>hsm _ _ (by simpa using hi) (h5 i x hx)
  clear hqr hlq k1 k5 hsm htk w1
  repeat' (first|refine sX ?_ ?_<;>intro h|simp only[go_sem, *,beq_self_eq_true])
  refine aC (List.range (n)) (fun k s'=>(∀i x,T.rows[i]?=some x->hget s'.hp (81,i)=some ⟨dY (if i=p then R else if i < k then lu x R q else x),6,W,dW,true,true⟩)/\Keep h s'.hp/\hget s'.hp (41,0)=some ⟨dY T.cost,6,W,dW,true,true⟩/\hget s'.hp (16,0)=some ⟨T.basis.map (fun (b:Nat)=>.t (i64 b)),1,n,rD,false,true⟩) rfl (by rw[List.length_range];rfl) (by rw[List.length_range];first|assumption|omega) (by kernel_rfl) (fun _ _ _ _ hj=>hj) (fun _ _ _ hj=>hj) ?_ (fun k x s' hx hd hk hJ hix hfr G hG=>?_) (fun s' hJ hfr=>?_)
  ·refine ⟨fun i x hx=>?_,hkp,m2,m3⟩
   by_cases hi:i=p
   ·subst hi;rw[if_pos rfl];exact g1
   ·rw[if_neg hi,if_neg (by omega)];exact m5 i x hx hi
  ·have c0:=hfr 0 (by kernel_rfl)
   have c1:=hfr 1 (by kernel_rfl);have c2:=hfr 2 (by kernel_rfl);have c6:=hfr 6 (by kernel_rfl);have c47:=hfr 47 (by kernel_rfl);clear hfr;simp only[go_sem]at c0 c1 c2 c6 c47;obtain ⟨hrw,Jq,mc,mb⟩:=hJ;rw[List.length_range]at hk;have hxk:x=k:=by rw[List.getElem?_range hk]at hx;injection hx with hx;exact hx.symm
   subst hxk;have hxr:x < T.rows.length:=by rw[hok.rn];exact hk
   obtain ⟨z,hz,_⟩:=aF T.rows x hxr;have hzm:=List.mem_of_getElem? hz;have hzl:=hok.rw' z hzm;have mt:=Jq _ _ rfl rfl rfl h1;have mr:=Jq _ _ rfl rfl rfl h4;have hrg2:=zT (f:=fun i=>.rf (81,i) W) hk;have hgz:=hrw x z hz;have hgp:=hrw p r hr;rw[if_pos rfl]at hgp;clear hd hx m1 m2 m3 m4 m5 g1
   by_cases hxp:x=p
   ·subst hxp
    have gx:((x:Int) != (x:Int))=false:=by simp
    repeat' (first|refine sX ?_ ?_<;>intro h|simp only[go_sem, *,beq_self_eq_true])
    refine hG _ ⟨fun i y hy=>?_,Jq,mc,mb⟩;rw[hrw i y hy]
    by_cases hi:i=x
    ·rw[if_pos hi,if_pos hi]
    ·rw[if_neg hi,if_neg hi]
     by_cases h3:i < x
     ·rw[if_pos h3,if_pos (by omega)]
     ·rw[if_neg h3,if_neg (by omega)]
   ·have gx:((x:Int) != (p:Int))=true:=by rw[bne_iff_ne];omega
    rw[if_neg hxp,if_neg (by omega)]at hgz;have hl:=Xg (h:=s'.hp) (id:=(81,x)) (id2:=(81,p)) (r:=z) (p:=R) (W:=W) (col:=q) hN hzl (by omega) hq (by simpa using hxp) hgz hgp (hfb z hzm) hRf
    repeat' (first|refine sX ?_ ?_<;>intro h|simp only[go_sem, *,beq_self_eq_true])
    refine iH hl (fun v h' hQ=>?_);obtain ⟨q1,q2⟩:=hQ
    repeat' (first|refine sX ?_ ?_<;>intro h|simp only[go_sem, *,beq_self_eq_true])
    refine hG _ ⟨fun i y hy=>?_,Jq.trans (Keep.of q2),q2 _ _ (by simp) mc,q2 _ _ (by simp) mb⟩
    by_cases hi:i=x
    ·subst hi
     rw[if_neg hxp,if_pos (by omega)];rw[hz]at hy;injection hy with hy;subst hy
     exact q1
    ·have:=q2 _ _ (by simpa using hi) (hrw i y hy)
     rw[this]
     by_cases h3:i=p
     ·rw[if_pos h3,if_pos h3]
     ·rw[if_neg h3,if_neg h3]
      by_cases h4:i < x
      ·rw[if_pos h4,if_pos (by omega)]
      ·rw[if_neg h4,if_neg (by omega)]
  ·have c0:=hfr 0 (by kernel_rfl)
   have c1:=hfr 1 (by kernel_rfl);have c2:=hfr 2 (by kernel_rfl);have c6:=hfr 6 (by kernel_rfl);clear hfr;simp only[go_sem]at c0 c1 c2 c6;obtain ⟨hrw,Jq,mc,mb⟩:=hJ;rw[List.length_range]at hrw;have mt:=Jq _ _ rfl rfl rfl h1;have hgp:=hrw p r hr;rw[if_pos rfl]at hgp;clear m1 m2 m3 m4 m5 g1;have hl:=Xg (h:=s'.hp) (id:=(41,0)) (id2:=(81,p)) (r:=T.cost) (p:=R) (W:=W) (col:=q) hN hok.cw (by omega) hq rfl mc hgp hfc hRf
   repeat' (first|refine sX ?_ ?_<;>intro h|simp only[go_sem, *,beq_self_eq_true])
   refine iH hl (fun v h' hQ=>?_);obtain ⟨q1,q2⟩:=hQ;have mt2:=q2 _ _ (by simp) mt;have mb2:=q2 _ _ (by simp) mb;have hbl:p+1<=T.basis.length:=by rw[hok.bn];exact hp
   have hbs:splice (T.basis.map (fun (b:Nat)=>PV.t (i64 b))) p [.t (.int .i64 (q:Int))]=(T.basis.set p q).map (fun (b:Nat)=>PV.t (i64 b)):=by
    rw[List.map_set];exact ny _ _ _ (by rw[List.length_map];exact hbl)
   repeat' (first|refine sX ?_ ?_<;>intro h|simp only[go_sem, *,beq_self_eq_true])
   refine ⟨⟨aD mt2 (.inl rfl) _,aD q1 (.inl rfl) _,aM mb2 _,?_,fun i y hy=>?_⟩,?_⟩
   ·exact aD (q2 _ _ (by simp) (Jq _ _ rfl rfl rfl h4)) (.inl rfl) _
   ·rw[List.getElem?_mapIdx]at hy
    cases hz:T.rows[i]? with
    |none=>rw[hz]at hy;simp at hy
    |some z =>
     rw[hz]at hy;simp only[Option.map_some,Option.some.injEq]at hy;have hin:i < n:=by rw[<- hok.rn];exact (List.getElem?_eq_some_iff.1 hz).1
     refine aD ?_ (.inl (by simp)) _;rw[q2 _ _ (by simp) (hrw i z hz),if_pos hin,hy]
   ·refine (Jq.trans (Keep.ahC q2)).trans ?_
    intro id o _ _ h16 ho;exact aD ho (.inl (by rw[beq_eq_false_iff_ne];intro e;subst e;simp at h16)) _
abbrev tBl:TypeId:=4
def wX (b:Bool) (m:List (List Rat)):Tr:=.sl true (m.map fun r=>.sl b (r.map aH))
theorem fH (h:Hp) (id:Id) (o:Obj) (s:Nat):(hset h id o s).length=(h s).length:=by
 unfold hset upd;split
 ·rename_i e;subst e;simp
 ·rfl
theorem gu {h:Hp}{s s':Nat} (o:Obj) (hn:(s'==s)=false):(hnew h s o s').length=(h s').length:=by
 unfold hnew upd;rw[if_neg (by rw[beq_eq_false_iff_ne]at hn;exact hn)]
theorem Ny (h:Hp) (s:Nat) (o:Obj):(hnew h s o s).length=(h s).length+1:=by
 simp[hnew,upd]
theorem H9 {h:Hp}{s k:Nat} (hl:(h s).length=k):hnext h s=(s,k):=by unfold hnext;rw[hl]
theorem fZ (h:Hp) (s:Nat):(hnext h s).1=s:=rfl
theorem eU (s:Nat):hnext (fun _=>[]) s=(s,0):=rfl
theorem bH {h:Hp}{s s':Nat} (o:Obj) (hn:(s'==s)=false):hnext (hnew h s o) s'=hnext h s':=by
 unfold hnext;rw[gu o hn]
theorem vR (h:Hp) (id:Id) (o:Obj) (s:Nat):hnext (hset h id o) s=hnext h s:=by
 unfold hnext;rw[fH]
theorem Ez {h:Hp}{s k:Nat} (o:Obj) (hl:(h s).length=k):hget (hnew h s o) (s,k)=some o:=by
 rw[<- H9 hl];exact aJ _ _
theorem iB (h:Hp) (s:Nat) (o:Obj) (hl:h s=[]):hget (hnew h s o) (s,0)=some o:=Ez o (by rw[hl];rfl)
theorem Ia (n:Nat) (x:Tr):gX [x] n=List.replicate n x:=by
 induction n with
 |zero=>rfl
 |succ n ih=>simp[gX,ih,List.replicate_succ]
theorem EA {P:Program}{mu:Nat->Bool}{h:Hp}{d:Option Tmp}{t e e2:TypeId}{id id2:Id}{n k by_ esz:Nat}{cs cs2:List PV}{ag ag2 lv:Bool} (hel:bg P t=some e) (hsz:P.cellsOf e=esz) (hz:(aW P e).map List.length=some esz) (h1:Nat.blt 0 esz=true) (hby:P.bytesOf e=by_)
  (hg:hget h id=some ⟨cs,esz,n,e,ag,true⟩) (hg2:hget h id2=some ⟨cs2,esz,k,e2,ag2,lv⟩) (hb:(n+k)*by_<=140737488355328/\n+k<=4611686018427387904) (hk:k≠0) :
  aT P mu d t (.rf id n) (.rf id2 k) h=some (.rf id (n+k),hset h id ⟨cs++cs2,esz,n+k,e,ag,true⟩):=by
 have hpos:0 < esz:=by simp[Nat.blt]at h1;omega
 obtain ⟨z,hz1,hz2⟩:∃z,aW P e=some z/\z.length=esz:=by
  cases hzz:aW P e with
  |none=>rw[hzz]at hz;cases hz
  |some z=>rw[hzz]at hz;exact ⟨z,rfl,by simpa using hz⟩
 unfold aT;simp only[hel,hz1,iP,hg2,hsz,and_self,if_true,hz2,true_and,hg,hby];rw[if_pos hpos,if_pos hb,if_neg hk]
theorem EB {P:Program}{mu:Nat->Bool}{h:Hp}{d:Tmp}{t e e2:TypeId}{id2:Id}{k by_ esz:Nat}{cs2:List PV}{ag ag2 lv:Bool} (hel:bg P t=some e) (hsz:P.cellsOf e=esz) (hz:(aW P e).map List.length=some esz) (h1:Nat.blt 0 esz=true) (hby:P.bytesOf e=by_) (hag:bR P e=some ag) (ha1:ag=true\/esz=1) (hmu:mu d=true)
  (hg2:hget h id2=some ⟨cs2,esz,k,e2,ag2,lv⟩) (hb:k*by_<=140737488355328/\k<=4611686018427387904) (hk:k≠0) :
  aT P mu (some d) t (.t (.sl false [])) (.rf id2 k) h=some (.rf (hnext h d) k,hnew h d ⟨cs2,esz,k,e,ag,true⟩):=by
 have hpos:0 < esz:=by simp[Nat.blt]at h1;omega
 obtain ⟨z,hz1,hz2⟩:∃z,aW P e=some z/\z.length=esz:=by
  cases hzz:aW P e with
  |none=>rw[hzz]at hz;cases hz
  |some z=>rw[hzz]at hz;exact ⟨z,rfl,by simpa using hz⟩
 unfold aT;simp only[hel,hz1,iP,hg2,hsz,and_self,if_true,hz2,true_and,hby];rw[if_pos hpos,if_neg hk,if_pos hb];unfold dG;simp only[hag,hsz,hmu,if_true];rw[if_neg]
 rintro ⟨h3,h4⟩
 rcases ha1 with h5|h5
 ·rw[h3]at h5;cases h5
 ·exact h4 h5
theorem Gf {x:Rat}{M N:Nat} (h:bM x M) (hM:M<=N) (hN:Fit N):gH x:=by
 obtain ⟨z,rfl,hz⟩:=h;exact ((FB.int z).mono (Nat.le_trans hz hM) hN.1).q1 hN
structure ahD (h:Hp) (C W n k:Nat) (bs:List Nat) (fl:List Bool) (cc:List Rat) (rows:List (List Rat)):Prop where
 tab:hget h (18,0)=some ⟨[(if k=0 then PV.t (.sl false []) else .rf (164,0) k),.rf (41,0) W,.rf (16,0) n,.t (i64 (C:Nat))],4,1,Xe,true,true⟩
 basis:hget h (16,0)=some ⟨bs.map (fun (b:Nat)=>.t (i64 b)),1,n,rD,false,true⟩
 flip:hget h (31,0)=some ⟨fl.map (fun b=>.t (.bool b)),1,n,tBl,false,true⟩
 cost:hget h (41,0)=some ⟨dY cc,6,W,dW,true,true⟩
 row:∀i r,i < k->rows[i]?=some r->hget h (81,i)=some ⟨dY r,6,W,dW,true,true⟩
 cont:k≠0->hget h (164,0)=some ⟨(List.range k).map (fun i=>.rf (81,i) W),1,k,l5,false,true⟩
 l81:(h 81).length=k
 alE:k=0->h 164=[]
set_option maxHeartbeats 4000000 in
theorem aaL {m:List (List Rat)}{rhs:List Rat} (b:Bool) {C c:Nat} (hC:∀r∈m,r.length=C) (hr:rhs.length=m.length) (hn1:1<=m.length) (hn:m.length<=1000000) (hCn:C<=1000000) (hI:wU m rhs c) {N:Nat} (hN:Fit N) (hNc:m.length*c<=N) :
  dM Tryz.prog 136 [.t (wX b m),.t (.sl true (rhs.map aH))] (fun _=>[]) (fun v h'=>v=.tup [.ad (18,0) 1 0,.rf (31,0) m.length]/\yP h' (iq m rhs) m.length (C+m.length+1) /\
   hget h' (31,0)=some ⟨rhs.map (fun x=>.t (.bool (gI x))),1,m.length,tBl,false,true⟩):=by
 obtain ⟨r0,m',hm⟩:∃r0 m',m=r0::m':=by
  cases m with
  |nil=>simp at hn1
  |cons r0 m'=>exact ⟨r0,m',rfl⟩
 have hr0:r0.length=C:=hC r0 (by rw[hm];simp);have hhd:(m.headD []).length=C:=by rw[hm];exact hr0
 have h0:(m.map fun r=>Tr.sl b (r.map aH))[0]?=some (.sl b (r0.map aH)):=by rw[hm];rfl
 have hg1:decide ((m.length:Int) > 0)=true:=decide_eq_true (by omega);have hw1:IntKind.i64.wrap ((C:Int)+(m.length:Int))=((C+m.length:Nat):Int):=by rw[wrap_i64 (by omega) (by omega)];rfl
 have hw2:IntKind.i64.wrap (((C+m.length:Nat):Int)+1)=((C+m.length+1:Nat):Int):=by rw[wrap_i64 (by omega) (by omega)];rfl
 obtain ⟨W,hW⟩:∃W,C+m.length+1=W:=⟨_,rfl⟩
 have hW2:W<=2000001:=by omega
 have hWp:1<=W:=by omega
 rw[hW]at hw2 ⊢;unfold wX;clear hm;refine dI orders Tryz.func136 rfl (by kernel_rfl) (fun d=>d==13||d==16||d==18||d==31||d==41||d==52||d==53||d==54||d==55||d==58||d==81||d==141||d==142||d==143||d==144||d==146||d==147||d==148||d==149||d==151||d==155||d==163||d==164||d==167||d==168||d==169||d==170||d==172||d==173||d==174||d==178) (by kernel_rfl) rfl (fun hs hlen=>?_);clear hs hlen
 repeat' (first|refine sX ?_ ?_<;>intro h|simp only[go_sem, *,beq_self_eq_true])
 refine dS ⟨by omega,by omega⟩ ?_
 repeat' (first|refine sX ?_ ?_<;>intro h|simp only[go_sem, *,beq_self_eq_true,eU,bH,vR,iB])
 refine dS ⟨by omega,by omega⟩ ?_
 repeat' (first|refine sX ?_ ?_<;>intro h|simp only[go_sem, *,beq_self_eq_true,eU,bH,vR,iB])
 with_reducible refine dS ?_ ?_
 ·exact ⟨by omega,by omega⟩
 clear hw1 hw2 hg1 h0
 repeat' (first|refine sX ?_ ?_<;>intro h|simp only[go_sem, *,beq_self_eq_true,eU,bH,vR,iB])
 have w0:=nH 0 (by unfold jM;omega);rw[rc0]at w0;refine aC (List.range (W)) (fun k s'=>∃cur:List Tr,hget s'.hp (41,0)=some ⟨(flat cur).map .t,6,W,dW,true,true⟩/\cur.length=W/\(∀z∈cur,dh true 6 z)/\cur.take k=List.replicate k (aH 0) /\
   hget s'.hp (18,0)=some ⟨[.t (.sl false []),.rf (41,0) W,.rf (16,0) m.length,.t (i64 (C:Nat))],4,1,Xe,true,true⟩/\hget s'.hp (16,0)=some ⟨(List.replicate m.length 0).map (fun (b:Nat)=>.t (i64 b)),1,m.length,rD,false,true⟩ /\
   hget s'.hp (31,0)=some ⟨(List.replicate m.length false).map (fun b=>.t (.bool b)),1,m.length,tBl,false,true⟩/\s'.hp 81=[]/\s'.hp 164=[]) rfl (by rw[List.length_range];rfl) (by rw[List.length_range];first|assumption|omega) (by kernel_rfl) (fun _ _ _ _ hj=>hj) (fun _ _ _ hj=>hj) ?_ (fun k x s' hx hd hk hJ hix hfr G hG=>?_) (fun s' hJ hfr=>?_)
 ·refine ⟨List.replicate W (.agg qz),?_,by simp,fun z hz=>by rw[(List.mem_replicate.1 hz).2];exact ⟨fun _=>rfl,(fun h=>nomatch h),rfl⟩,rfl,?_,?_,?_,rfl,rfl⟩
  ·rw[<- jC];rfl
  ·rfl
  ·exact Eq.trans (b:=some ⟨List.map PV.t (List.map (Tr.int .i64) (List.replicate m.length 0)),1,m.length,rD,false,true⟩) rfl (by simp)
  ·exact Eq.trans (b:=some ⟨List.map PV.t _,1,m.length,tBl,false,true⟩) rfl (by first|(rw[Ia];simp;done)|simp)
 ·have c6:=hfr 6 (by kernel_rfl)
  have c7:=hfr 7 (by kernel_rfl);have c48:=hfr 48 (by kernel_rfl);clear hfr;simp only[go_sem]at c6 c7 c48;obtain ⟨cur,h41,hcl,hok,htk,h18,h16,h31,h81,aaM⟩:=hJ;rw[List.length_range]at hk;have hxk:x=k:=by rw[List.getElem?_range hk]at hx;injection hx with hx;exact hx.symm
  subst hxk;obtain ⟨y,hy,_⟩:=aF cur x (by omega);have he6:∀z∈cur,z.cells.length=6:=fun z hz=>(hok z hz).2.2
  have vB:splice (List.map PV.t (flat cur)) (x*6) ((dA 0).map PV.t)=List.map PV.t (flat (cur.set x (aH 0))):=fD he6 (x:=y) (y:=aH 0) hy (aQ _);have hfl:(flat cur).length=W*6:=by rw[bJ _ 6 he6,hcl]
  have hx6:x*6+6<=W*6:=by omega
  have hq0:(dA 0).length=6:=aQ _
  repeat' (first|refine sX ?_ ?_<;>intro h|refine aj (w0) rfl ?_|simp only[go_sem, *,beq_self_eq_true])
  refine hG _ ⟨cur.set x (aH 0),?_,by simp[hcl],?_,?_,?_,?_,?_,?_,?_⟩
  ·exact aM h41 _
  ·intro z hz
   rcases List.mem_or_eq_of_mem_set hz with hz|rfl
   ·exact hok z hz
   ·exact vo _
  ·rw[aP _ _ _ (by omega),htk,List.replicate_succ']
  ·exact aD h18 (.inl rfl) _
  ·exact aD h16 (.inl rfl) _
  ·exact aD h31 (.inl rfl) _
  ·simp only[go_sem,fA,h81]
  ·simp only[go_sem,fA,aaM]
 ·have c0:=hfr 0 (by kernel_rfl)
  have c1:=hfr 1 (by kernel_rfl);have c6:=hfr 6 (by kernel_rfl);have c7:=hfr 7 (by kernel_rfl);clear hfr;simp only[go_sem]at c0 c1 c6 c7;obtain ⟨cur,h41,hcl,hok,htk,h18,h16,h31,h81,aaM⟩:=hJ;rw[List.length_range,List.take_of_length_le (by omega)]at htk;have hcur:(flat cur).map PV.t=dY (List.replicate W 0):=by
   unfold dY;rw[htk,List.map_replicate]
  rw[hcur]at h41;clear hcur hok hcl htk;have hrows:(iq m rhs).rows=jl C W m rhs 0:=by
   show jl _ _ m rhs 0=_
   rw[hhd,hW]
  have U7:(iq m rhs).cost=vG C W (jl C W m rhs 0) (List.replicate W 0):=by
   show vG _ _ (jl _ _ m rhs 0) _=_
   rw[hhd,hW]
  have WG:(iq m rhs).basis=(List.range m.length).map (C+·):=by
   show (List.range m.length).map (_+·)=_
   rw[hhd]
  have ug:(iq m rhs).ak=C:=hhd;have hrl:=vH (ak:=C) (W:=W) m rhs 0
  repeat' (first|refine sX ?_ ?_<;>intro h|simp only[go_sem, *,beq_self_eq_true])
  refine aC (List.range (m.length)) (fun k s'=>∃(bs:List Nat) (fl:List Bool) (cc:List Rat),ahD s'.hp C W m.length k bs fl cc (jl C W m rhs 0)/\bs.length=m.length/\fl.length=m.length/\cc.length=W/\bs.take k=((List.range m.length).map (C+·)).take k/\fl.take k=(rhs.map gI).take k /\
    vG C W ((jl C W m rhs 0).drop k) cc=(iq m rhs).cost/\∀x∈cc,bM x (k*c)) rfl (by rw[List.length_range];rfl) (by rw[List.length_range];first|assumption|omega) (by kernel_rfl) (fun _ _ _ _ hj=>hj) (fun _ _ _ hj=>hj) ?_ (fun k x s' hx hd hk hJ hix hfr G hG=>?_) (fun s' hJ hfr=>?_)
  ·exact ⟨_,_,_,⟨h18,h16,h31,h41,fun i r hi=>by omega,fun h=>absurd rfl h,by rw[h81];rfl,fun _=>aaM⟩,by simp,by simp,by simp,rfl,rfl,by rw[U7];rfl,fun z hz=>by rw[(List.mem_replicate.1 hz).2];exact F9 _⟩
  ·have c1:=hfr 1 (by kernel_rfl)
   have c6:=hfr 6 (by kernel_rfl);have c7:=hfr 7 (by kernel_rfl);have c60:=hfr 60 (by kernel_rfl);clear hfr;simp only[go_sem]at c1 c6 c7 c60;obtain ⟨bs,fl,cc,hM,hbl,hfl,adQ,hbt,hft,hct,hcB⟩:=hJ;rw[List.length_range]at hk;have hxk:x=k:=by rw[List.getElem?_range hk]at hx;injection hx with hx;exact hx.symm
   subst hxk;obtain ⟨r,hrx,_⟩:=aF m x hk;obtain ⟨v,hvx,_⟩:=aF rhs x (by omega);have hrm:=List.mem_of_getElem? hrx;have hrC:=hC r hrm;have hmx:(m.map fun r=>Tr.sl b (r.map aH))[x]?=some (.sl b (r.map aH)):=by rw[List.getElem?_map,hrx];rfl
   have hvv:(rhs.map aH)[x]?=some (aH v):=by rw[List.getElem?_map,hvx];rfl
   have sg:=qK v;have hfb:decide (v.num.sign < 0)=gI v:=sign_neg v;have hx1:x+1<=m.length:=by omega
   have hfs:splice (fl.map (fun b=>PV.t (.bool b))) x [.t (.bool (gI v))]=(fl.set x (gI v)).map (fun b=>PV.t (.bool b)):=by
    rw[List.map_set];exact ny _ _ _ (by rw[List.length_map];omega)
   obtain ⟨m18,m16,m31,m41,Xh,QN,Xi,aaN⟩:=hM;have mn:=H9 Xi;clear hd hx
   repeat' (first|refine sX ?_ ?_<;>intro h|refine aj (sg) rfl ?_|simp only[go_sem, *,beq_self_eq_true,vR])
   with_reducible refine dS ?_ ?_
   ·exact ⟨by omega,by omega⟩
   repeat' (first|refine sX ?_ ?_<;>intro h|simp only[go_sem, *,beq_self_eq_true,vR,Ez,fH])
   have hrw:(jl C W m rhs 0)[x]?=some (Bj C W x r v):=by
    have h1:=Ej (ak:=C) (W:=W) m rhs 0 x hk;have h2:x < (jl C W m rhs 0).length:=by rw[hrl.1];exact hk
    rw[List.getD_eq_getElem?_getD,List.getElem?_eq_getElem h2]at h1;rw[List.getElem?_eq_getElem h2];simp only[Option.getD_some]at h1;rw[h1,Nat.zero_add];congr 2
    ·rw[List.getD_eq_getElem?_getD,hrx];rfl
    ·rw[List.getD_eq_getElem?_getD,hvx];rfl
   have hdr:(jl C W m rhs 0).drop x=Bj C W x r v::(jl C W m rhs 0).drop (x+1):=by
    obtain ⟨_,h1,h2⟩:=aF (jl C W m rhs 0) x (by rw[hrl.1];exact hk);rw[hrw]at h1;injection h1 with h1;rw[h1];exact h2
   obtain ⟨R,hR⟩:∃R,R=Bj C W x r v:=⟨_,rfl⟩
   have hRl:R.length=W:=by rw[hR];simp[Bj]
   have hRg:∀j,j < W->R[j]?=some (entry C W x r v j):=fun j hj=>by rw[hR];simp[Bj,hj]
   have hcs:∀j,j < W->(iD C W cc R)[j]?=some (if counts C W j=true then cc.getD j 0-entry C W x r v j else cc.getD j 0):=fun j hj=>by
    have:R.getD j 0=entry C W x r v j:=by rw[List.getD_eq_getElem?_getD,hRg j hj];rfl
    simp[iD,hj,<- this]
   rw[<- hR]at hdr hrw;generalize hHA:hnew (hset s'.hp (31,0) _) 81 _=hA at *;have a18:hget hA (18,0)=some ⟨[(if x=0 then PV.t (.sl false []) else .rf (164,0) x),.rf (41,0) W,.rf (16,0) m.length,.t (i64 (C:Nat))],4,1,Xe,true,true⟩:=by
    rw[<- hHA];exact aA (aD m18 (.inl rfl) _) _
   have a16:hget hA (16,0)=some ⟨bs.map (fun (b:Nat)=>.t (i64 b)),1,m.length,rD,false,true⟩:=by
    rw[<- hHA];exact aA (aD m16 (.inl rfl) _) _
   have a31:hget hA (31,0)=some ⟨(fl.set x (gI v)).map (fun b=>.t (.bool b)),1,m.length,tBl,false,true⟩:=by
    rw[<- hHA];exact aA (aM m31 _) _
   have a41:hget hA (41,0)=some ⟨dY cc,6,W,dW,true,true⟩:=by
    rw[<- hHA];exact aA (aD m41 (.inl rfl) _) _
   have adR:∀i r,i < x->(jl C W m rhs 0)[i]?=some r->hget hA (81,i)=some ⟨dY r,6,W,dW,true,true⟩:=fun i r hi hr'=>by
    rw[<- hHA];exact aA (aD (Xh i r hi hr') (.inl (by simp)) _) _
   have aaO:x≠0->hget hA (164,0)=some ⟨(List.range x).map (fun i=>.rf (81,i) W),1,x,l5,false,true⟩:=fun hx0=>by
    rw[<- hHA];exact aA (aD (QN hx0) (.inl rfl) _) _
   have a81:hget hA (81,x)=some ⟨(flat (List.replicate W (.agg qz))).map PV.t,6,W,dW,true,true⟩:=by
    rw[<- hHA,<- jC];exact Ez _ (by rw[fH];exact Xi)
   have al:(hA 81).length=x+1:=by rw[<- hHA,Ny,fH,Xi]
   have al2:(hA 164).length=(s'.hp 164).length:=by rw[<- hHA,gu _ rfl,fH]
   clear hHA hmx sg hfs;refine aC (List.range (W)) (fun k s'=>∃(cur:List Tr) (c2:List Rat),hget s'.hp (81,x)=some ⟨(flat cur).map .t,6,W,dW,true,true⟩/\cur.length=W/\(∀z∈cur,dh true 6 z)/\cur.take k=(R.take k).map aH/\hget s'.hp (41,0)=some ⟨dY c2,6,W,dW,true,true⟩/\c2.length=W /\
     c2.take k=(iD C W cc R).take k/\c2.drop k=cc.drop k/\Same hA s'.hp [(81,x),(41,0)]/\(s'.hp 81).length=x+1/\(s'.hp 164).length=(hA 164).length) rfl (by rw[List.length_range];rfl) (by rw[List.length_range];first|assumption|omega) (by kernel_rfl) (fun _ _ _ _ hj=>hj) (fun _ _ _ hj=>hj) ?_ (fun j y u hy hyd hj hJ hjx hfr H hH=>?_) (fun u hJ hfr=>?_)
   ·exact ⟨_,cc,a81,by simp,fun z hz=>by rw[(List.mem_replicate.1 hz).2];exact ⟨fun _=>rfl,(fun h=>nomatch h),rfl⟩,rfl,a41,adQ,rfl,rfl,Same.refl _ _,al,rfl⟩
   ·have e1:=hfr 1 (by kernel_rfl)
    have e6:=hfr 6 (by kernel_rfl);have e7:=hfr 7 (by kernel_rfl);have e9:=hfr 9 (by kernel_rfl);have e10:=hfr 10 (by kernel_rfl);have e11:=hfr 11 (by kernel_rfl);have e83:=hfr 83 (by kernel_rfl);clear hfr;simp only[go_sem,c1,c6,c7]at e1 e6 e7 e9 e10 e11 e83;obtain ⟨cur,c2,g81,hcl,hok,htk,g41,Dy,BO,BP,hsm,gl,gl2⟩:=hJ;rw[List.length_range]at hj;have hyj:y=j:=by rw[List.getElem?_range hj]at hy;injection hy with hy;exact hy.symm
    subst hyj;clear hy hyd;have g18:=hsm _ _ (by simp) a18;have g31:=hsm _ _ (by simp) a31;have n18:=fun o=>aA g18 (s:=13) o
    have n31:=fun o=>aA g31 (s:=13) o
    have n41:=fun o=>aA g41 (s:=13) o
    have n81:=fun o=>aA g81 (s:=13) o
    have p18:=fun o o'=>aD (id:=(81,x)) (n18 o) (.inl (by simp)) o'
    have p41:=fun o o'=>aD (id:=(81,x)) (n41 o) (.inl (by simp)) o'
    have p13:=fun o o'=>aD (id:=(81,x)) (aJ (h:=u.hp) 13 o) (.inl (iE g81)) o'
    obtain ⟨z,hz,_⟩:=aF cur y (by omega);have he6:∀z∈cur,z.cells.length=6:=fun z hz=>(hok z hz).2.2
    have Xj:(flat cur).length=W*6:=by rw[bJ _ 6 he6,hcl]
    have vB:∀q:Rat,splice (List.map PV.t (flat cur)) (y*6) ((dA q).map PV.t)=List.map PV.t (flat (cur.set y (aH q))):=fun q=>fD he6 (x:=z) (y:=aH q) hz (aQ _)
    have hq6:∀q:Rat,(dA q).length=6:=fun q=>aQ _
    have alF:∀q:Rat,List.drop 6 (List.map PV.t (dA q))=[]:=fun q=>List.drop_of_length_le (by rw[List.length_map,aQ];exact Nat.le_refl _)
    have hy6:y*6+6<=W*6:=by omega
    have Xk:gH (cc.getD y 0):=Gf (hcB _ (jy (by omega))) (Nat.le_trans (Nat.mul_le_mul_right c (Nat.le_of_lt hk)) hNc) hN;have hcN:c<=N:=Nat.le_trans (Nat.le_mul_of_pos_left c (by omega)) hNc;have hcq:cc[y]?=some (cc.getD y 0):=by rw[List.getD_eq_getElem?_getD,List.getElem?_eq_getElem (by omega)];rfl
    have TP:c2[y]?=some (cc.getD y 0):=by
     have:=congrArg (fun l=>l[0]?) BP;simp only[List.getElem?_drop,Nat.add_zero]at this;rw[this,hcq]
    have hl2:=l6 TP;have WT:=fun q=>zQ (l:=c2) (k:=y) (q:=q) (by omega)
    have ahE:=l7 c2;rw[Dy]at ahE;have hfg:(fl.set x (gI v))[x]?=some (gI v):=List.getElem?_set_self (by omega);have Jr:((fl.set x (gI v)).map (fun b=>PV.t (.bool b)))[x]?=some (.t (.bool (gI v))):=by rw[List.getElem?_map,hfg];rfl
    have hwr:IntKind.i64.wrap ((W:Int)-1)=((W-1:Nat):Int):=by rw[wrap_i64 (by omega) (by omega)];omega
    have hwr2:IntKind.i64.wrap ((C:Int)+(x:Int))=((C+x:Nat):Int):=by rw[wrap_i64 (by omega) (by omega)];rfl
    have hRy:=hRg y hj;have hCy:=hcs y hj;have yR:∀q,entry C W x r v y=q->(cur.set y (aH q)).take (y+1)=(R.take (y+1)).map aH:=fun q hq=>by
     rw[aP _ _ _ (by omega),htk,List.take_add_one,List.map_append,hRy,hq];rfl
    have hok2:∀q:Rat,∀w∈cur.set y (aH q),dh true 6 w:=fun q w hw=>by
     rcases List.mem_or_eq_of_mem_set hw with hw|rfl
     ·exact hok w hw
     ·exact vo _
    have s41:(((81,x):Id)==((41,0):Id))=false:=by simp
    have s14:(((41,0):Id)==((81,x):Id))=false:=by simp
    have alG:=jy (l:=cc) (k:=y) (by omega);rcases Nat.lt_or_ge y C with hyC|hyC
    ·have k1:decide ((y:Int) < (C:Int))=true:=decide_eq_true (by omega)
     have k3:((y:Int)==((C+x:Nat):Int))=false:=by rw[beq_eq_false_iff_ne];omega
     obtain ⟨a,ha,_⟩:=aF r y (by omega);have haL:(r.map aH)[y]?=some (aH a):=by rw[List.getElem?_map,ha];rfl
     have haD:r.getD y 0=a:=by rw[List.getD_eq_getElem?_getD,ha];rfl
     have haB:=hI.ms r hrm a (List.mem_of_getElem? ha);have hcnt:counts C W y=true:=by simp[counts,hyC]
     have wn:=FD a;cases hfv:gI v with
     |false =>
      rw[hfv]at Jr;have hent:entry C W x r v y=a:=by
       unfold entry;rw[if_neg (by omega),if_pos hyC,haD,hfv];rfl
      have heB:gH (a):=Gf (M:=c) (by exact haB) hcN hN;have w2:=wK (cc.getD y 0) (a) Xk heB;rw[hent]at hCy;rw[if_pos hcnt]at hCy;have qV:=yR _ hent;have vU:=hok2 (a);generalize cc.getD y 0=q0 at *
      repeat' (first|refine sX ?_ ?_<;>intro h|refine aj (w0) rfl ?_|refine aj (w2) rfl ?_|simp only[go_sem, *,beq_self_eq_true,fZ,List.append_nil])
      refine hH _ ⟨cur.set y (aH (a)),c2.set y (q0-a),?_,by simp[hcl],vU,qV,?_,by simp[Dy],?_,?_,?_,?_,?_⟩
      ·exact aD (aM (n81 _) _) (.inl s41) _
      ·exact aM (aD (n41 _) (.inl s14) _) _
      ·rw[aP _ _ _ (by omega),BO,List.take_add_one,hCy];rfl
      ·rw[List.drop_set_of_lt (by omega)]
       have:=congrArg List.tail BP;simpa using this
      ·exact (((hsm.trans (Same.new _ 13 _)).trans (Same.set _ (81,x) _)).trans (Same.set _ (41,0) _)).mono (by simp)
      ·simp only[go_sem,fH,gu,gl]
      ·simp only[go_sem,fH,gu,gl2]
     |true =>
      rw[hfv]at Jr;have hent:entry C W x r v y=-a:=by
       unfold entry;rw[if_neg (by omega),if_pos hyC,haD,hfv];rfl
      have heB:gH (-a):=Gf (M:=c) (by exact haB.neg) hcN hN;have w2:=wK (cc.getD y 0) (-a) Xk heB;rw[hent]at hCy;rw[if_pos hcnt]at hCy;have qV:=yR _ hent;have vU:=hok2 (-a);generalize cc.getD y 0=q0 at *
      repeat' (first|refine sX ?_ ?_<;>intro h|refine aj (w0) rfl ?_|refine aj (wn) rfl ?_|refine aj (w2) rfl ?_|simp only[go_sem, *,beq_self_eq_true,fZ,List.append_nil])
      refine hH _ ⟨cur.set y (aH (-a)),c2.set y (q0 - -a),?_,by simp[hcl],vU,qV,?_,by simp[Dy],?_,?_,?_,?_,?_⟩
      ·exact aD (aM (n81 _) _) (.inl s41) _
      ·exact aM (aD (n41 _) (.inl s14) _) _
      ·rw[aP _ _ _ (by omega),BO,List.take_add_one,hCy];rfl
      ·rw[List.drop_set_of_lt (by omega)]
       have:=congrArg List.tail BP;simpa using this
      ·exact (((hsm.trans (Same.new _ 13 _)).trans (Same.set _ (81,x) _)).trans (Same.set _ (41,0) _)).mono (by simp)
      ·simp only[go_sem,fH,gu,gl]
      ·simp only[go_sem,fH,gu,gl2]
    ·have k1:decide ((y:Int) < (C:Int))=false:=decide_eq_false (by omega)
     by_cases hyW:y=W-1
     ·have k2:((y:Int)==((W-1:Nat):Int))=true:=by rw[beq_iff_eq,hyW]
      have k3:((y:Int)==((C+x:Nat):Int))=false:=by rw[beq_eq_false_iff_ne];omega
      have hvB:=hI.bs v (List.mem_of_getElem? hvx);have hcnt:counts C W y=true:=by simp[counts,<- hyW]
      have wn:=FD v;have k4:y≠C+x:=by omega
      cases hfv:gI v with
      |false =>
       rw[hfv]at Jr;have hent:entry C W x r v y=v:=by
        unfold entry;rw[if_neg k4,if_neg (by omega),if_pos hyW,hfv];rfl
       have heB:gH (v):=Gf (M:=c) (by exact hvB) hcN hN;have w2:=wK (cc.getD y 0) (v) Xk heB;rw[hent]at hCy;rw[if_pos hcnt]at hCy;have qV:=yR _ hent;clear hyW;have vU:=hok2 (v);generalize cc.getD y 0=q0 at *
       repeat' (first|refine sX ?_ ?_<;>intro h|refine aj (w0) rfl ?_|refine aj (w2) rfl ?_|simp only[go_sem, *,beq_self_eq_true,fZ,List.append_nil])
       refine hH _ ⟨cur.set y (aH (v)),c2.set y (q0-v),?_,by simp[hcl],vU,qV,?_,by simp[Dy],?_,?_,?_,?_,?_⟩
       ·exact aD (aM (n81 _) _) (.inl s41) _
       ·exact aM (aD (n41 _) (.inl s14) _) _
       ·rw[aP _ _ _ (by omega),BO,List.take_add_one,hCy];rfl
       ·rw[List.drop_set_of_lt (by omega)]
        have:=congrArg List.tail BP;simpa using this
       ·exact (((hsm.trans (Same.new _ 13 _)).trans (Same.set _ (81,x) _)).trans (Same.set _ (41,0) _)).mono (by simp)
       ·simp only[go_sem,fH,gu,gl]
       ·simp only[go_sem,fH,gu,gl2]
      |true =>
       rw[hfv]at Jr;have hent:entry C W x r v y=-v:=by
        unfold entry;rw[if_neg k4,if_neg (by omega),if_pos hyW,hfv];rfl
       have heB:gH (-v):=Gf (M:=c) (by exact hvB.neg) hcN hN;have w2:=wK (cc.getD y 0) (-v) Xk heB;rw[hent]at hCy;rw[if_pos hcnt]at hCy;have qV:=yR _ hent;clear hyW;have vU:=hok2 (-v);generalize cc.getD y 0=q0 at *
       repeat' (first|refine sX ?_ ?_<;>intro h|refine aj (w0) rfl ?_|refine aj (wn) rfl ?_|refine aj (w2) rfl ?_|simp only[go_sem, *,beq_self_eq_true,fZ,List.append_nil])
       refine hH _ ⟨cur.set y (aH (-v)),c2.set y (q0 - -v),?_,by simp[hcl],vU,qV,?_,by simp[Dy],?_,?_,?_,?_,?_⟩
       ·exact aD (aM (n81 _) _) (.inl s41) _
       ·exact aM (aD (n41 _) (.inl s14) _) _
       ·rw[aP _ _ _ (by omega),BO,List.take_add_one,hCy];rfl
       ·rw[List.drop_set_of_lt (by omega)]
        have:=congrArg List.tail BP;simpa using this
       ·exact (((hsm.trans (Same.new _ 13 _)).trans (Same.set _ (81,x) _)).trans (Same.set _ (41,0) _)).mono (by simp)
       ·simp only[go_sem,fH,gu,gl]
       ·simp only[go_sem,fH,gu,gl2]
     ·have k2:((y:Int)==((W-1:Nat):Int))=false:=by rw[beq_eq_false_iff_ne];omega
      have hcnt:¬counts C W y=true:=by simp[counts];omega
      have wn:=FD 0;have w1:=nH 1 (by unfold jM;omega);rw[rc1]at w1
      by_cases hyx:y=C+x
      ·have k3:((y:Int)==((C+x:Nat):Int))=true:=by rw[beq_iff_eq,hyx]
       cases hfv:gI v with
       |false =>
        rw[hfv]at Jr;have hent:entry C W x r v y=1:=by
         unfold entry;rw[if_pos hyx]
        rw[hent]at hCy;rw[if_neg hcnt]at hCy;have qV:=yR _ hent;clear hyx;have vU:=hok2 (1);generalize cc.getD y 0=q0 at *
        repeat' (first|refine sX ?_ ?_<;>intro h|refine aj (w0) rfl ?_|refine aj (w1) rfl ?_|simp only[go_sem, *,beq_self_eq_true,fZ,List.append_nil])
        refine hH _ ⟨cur.set y (aH (1)),c2,?_,by simp[hcl],vU,qV,?_,Dy,?_,?_,?_,?_,?_⟩
        ·exact aM (n81 _) _
        ·exact aD (n41 _) (.inl s14) _
        ·rw[List.take_add_one,List.take_add_one,BO,TP,hCy]
        ·have:=congrArg List.tail BP;simpa using this
        ·exact ((hsm.trans (Same.new _ 13 _)).trans (Same.set _ (81,x) _)).mono (by simp)
        ·simp only[go_sem,fH,gu,gl]
        ·simp only[go_sem,fH,gu,gl2]
       |true =>
        rw[hfv]at Jr;have hent:entry C W x r v y=1:=by
         unfold entry;rw[if_pos hyx]
        rw[hent]at hCy;rw[if_neg hcnt]at hCy;have qV:=yR _ hent;clear hyx;have vU:=hok2 (1);generalize cc.getD y 0=q0 at *
        repeat' (first|refine sX ?_ ?_<;>intro h|refine aj (w0) rfl ?_|refine aj (wn) rfl ?_|refine aj (w1) rfl ?_|simp only[go_sem, *,beq_self_eq_true,fZ,List.append_nil])
        refine hH _ ⟨cur.set y (aH (1)),c2,?_,by simp[hcl],vU,qV,?_,Dy,?_,?_,?_,?_,?_⟩
        ·exact aM (n81 _) _
        ·exact aD (n41 _) (.inl s14) _
        ·rw[List.take_add_one,List.take_add_one,BO,TP,hCy]
        ·have:=congrArg List.tail BP;simpa using this
        ·exact ((hsm.trans (Same.new _ 13 _)).trans (Same.set _ (81,x) _)).mono (by simp)
        ·simp only[go_sem,fH,gu,gl]
        ·simp only[go_sem,fH,gu,gl2]
      ·have k3:((y:Int)==((C+x:Nat):Int))=false:=by rw[beq_eq_false_iff_ne];omega
       cases hfv:gI v with
       |false =>
        rw[hfv]at Jr;have hent:entry C W x r v y=0:=by
         unfold entry;rw[if_neg hyx,if_neg (by omega),if_neg hyW,hfv];rfl
        rw[hent]at hCy;rw[if_neg hcnt]at hCy;have qV:=yR _ hent;have vU:=hok2 (0);generalize cc.getD y 0=q0 at *
        repeat' (first|refine sX ?_ ?_<;>intro h|refine aj (w0) rfl ?_|simp only[go_sem, *,beq_self_eq_true,fZ,List.append_nil])
        refine hH _ ⟨cur.set y (aH (0)),c2,?_,by simp[hcl],vU,qV,?_,Dy,?_,?_,?_,?_,?_⟩
        ·exact aM (n81 _) _
        ·exact aD (n41 _) (.inl s14) _
        ·rw[List.take_add_one,List.take_add_one,BO,TP,hCy]
        ·have:=congrArg List.tail BP;simpa using this
        ·exact ((hsm.trans (Same.new _ 13 _)).trans (Same.set _ (81,x) _)).mono (by simp)
        ·simp only[go_sem,fH,gu,gl]
        ·simp only[go_sem,fH,gu,gl2]
       |true =>
        rw[hfv]at Jr;have e0:(-0:Rat)=0:=by decide
        rw[e0]at wn;have hent:entry C W x r v y=0:=by
         unfold entry;rw[if_neg hyx,if_neg (by omega),if_neg hyW,hfv];rfl
        rw[hent]at hCy;rw[if_neg hcnt]at hCy;have qV:=yR _ hent;have vU:=hok2 (0);generalize cc.getD y 0=q0 at *
        repeat' (first|refine sX ?_ ?_<;>intro h|refine aj (w0) rfl ?_|refine aj (wn) rfl ?_|simp only[go_sem, *,beq_self_eq_true,fZ,List.append_nil])
        refine hH _ ⟨cur.set y (aH (0)),c2,?_,by simp[hcl],vU,qV,?_,Dy,?_,?_,?_,?_,?_⟩
        ·exact aM (n81 _) _
        ·exact aD (n41 _) (.inl s14) _
        ·rw[List.take_add_one,List.take_add_one,BO,TP,hCy]
        ·have:=congrArg List.tail BP;simpa using this
        ·exact ((hsm.trans (Same.new _ 13 _)).trans (Same.set _ (81,x) _)).mono (by simp)
        ·simp only[go_sem,fH,gu,gl]
        ·simp only[go_sem,fH,gu,gl2]
   ·have e6:=hfr 6 (by kernel_rfl)
    have e9:=hfr 9 (by kernel_rfl);have e11:=hfr 11 (by kernel_rfl);clear hfr;simp only[go_sem,c6]at e6 e9 e11;obtain ⟨cur,c2,g81,hcl,hok,htk,g41,Dy,BO,BP,hsm,gl,gl2⟩:=hJ;have adS:(iD C W cc R).length=W:=by simp[iD]
    rw[List.length_range,List.take_of_length_le (by omega),List.take_of_length_le (by omega)]at htk BO;subst BO;have g81:hget u.hp (81,x)=some ⟨dY R,6,W,dW,true,true⟩:=by rw[g81,htk];rfl
    have g18:=hsm _ _ (by simp) a18;have g16:=hsm _ _ (by simp) a16;have g31:=hsm _ _ (by simp) a31;have grow:∀i r,i < x->(jl C W m rhs 0)[i]?=some r->hget u.hp (81,i)=some ⟨dY r,6,W,dW,true,true⟩:=fun i r hi hr'=>hsm _ _ (by simp;omega) (adR i r hi hr')
    have afl:x≠0->hget u.hp (164,0)=some ⟨(List.range x).map (fun i=>.rf (81,i) W),1,x,l5,false,true⟩:=fun hx0=>hsm _ _ (by simp) (aaO hx0)
    have n18:=fun o=>aA g18 (s:=163) o
    have n16:=fun o=>aA g16 (s:=163) o
    have hwr2:IntKind.i64.wrap ((C:Int)+(x:Int))=((C+x:Nat):Int):=by rw[wrap_i64 (by omega) (by omega)];rfl
    clear BP hok hcl htk m18 m16 m31 m41 Xh QN a18 a16 a31 a41 adR aaO a81 hsm hRg hcs;have e1:(bs.set x (C+x)).take (x+1)=((List.range m.length).map (C+·)).take (x+1):=by
     rw[aP _ _ _ (by omega),hbt,List.take_add_one,List.getElem?_map,List.getElem?_range (by omega)];rfl
    have e2:(fl.set x (gI v)).take (x+1)=(rhs.map gI).take (x+1):=by
     rw[aP _ _ _ (by omega),hft,List.take_add_one,List.getElem?_map,hvx];rfl
    have e3:vG C W ((jl C W m rhs 0).drop (x+1)) (iD C W cc R)=(iq m rhs).cost:=by
     rw[<- hct,hdr];rfl
    have e4:∀z∈iD C W cc R,bM z ((x+1)*c):=fun z hz=>by
     have hRB:∀w∈R,bM w c:=fun w hw=>by
      rw[hR]at hw;simp only[Bj,List.mem_map,List.mem_range]at hw;obtain ⟨j,_,rfl⟩:=hw;have h1:m.getD x []=r:=by rw[List.getD_eq_getElem?_getD,hrx];rfl
      have h2:rhs.getD x 0=v:=by rw[List.getD_eq_getElem?_getD,hvx];rfl
      have:=TJ hI C W x x j;rw[h1,h2]at this;exact this
     simp only[iD,List.mem_map,List.mem_range]at hz;obtain ⟨j,_,rfl⟩:=hz;rw[Nat.succ_mul];split
     ·exact (CW hcB j).sub (CW hRB j)
     ·exact (CW hcB j).mono (by omega)
    have e5:splice (bs.map (fun (b:Nat)=>PV.t (i64 b))) x [.t (.int .i64 ((C+x:Nat):Int))]=(bs.set x (C+x)).map (fun (b:Nat)=>PV.t (i64 b)):=by
     rw[List.map_set];exact ny _ _ _ (by rw[List.length_map];omega)
    have hbx:x+1<=bs.length:=by omega
    have adT:∀i r,i < x+1->(jl C W m rhs 0)[i]?=some r->hget u.hp (81,i)=some ⟨dY r,6,W,dW,true,true⟩:=fun i r' hi hr'=>by
     by_cases hix:i=x
     ·subst hix;rw[hrw]at hr';injection hr' with hr';subst hr';exact g81
     ·exact grow i r' (by omega) hr'
    rcases Nat.eq_zero_or_pos x with hx0|hx0
    ·subst hx0
     have z164:u.hp 164=[]:=by
      have:=aaN rfl;rw[this]at al2;exact List.eq_nil_of_length_eq_zero (by rw[gl2,al2];rfl)
     repeat' (first|refine sX ?_ ?_<;>intro h|simp only[go_sem, *,beq_self_eq_true,fZ,bH])
     rw[EB (e:=l5) (e2:=l5) (esz:=1) (by_:=24) (ag:=false) (by kernel_rfl) (by kernel_rfl) (by kernel_rfl) rfl (by kernel_rfl) (by kernel_rfl) (.inr rfl) rfl (aJ _ _) (by omega) (by omega)];have afm:hnext (hnew u.hp 163 ⟨[.rf (81,0) W],1,1,l5,false,true⟩) 164=(164,0):=by rw[bH _ rfl];exact H9 (by rw[z164];rfl)
     repeat' (first|refine sX ?_ ?_<;>intro h|simp only[go_sem, *,beq_self_eq_true,fZ,bH])
     refine hG _ ⟨bs.set 0 (C+0),fl.set 0 (gI v),iD C W cc R,⟨?_,?_,?_,?_,?_,?_,?_,?_⟩,by simp[hbl],by simp[hfl],adS,e1,e2,e3,e4⟩
     ·rw[if_neg (by omega)];exact aD (aM (aA (n18 _) _) _) (.inl rfl) _
     ·exact aM (aD (aA (n16 _) _) (.inl rfl) _) _
     ·exact aD (aD (aA (aA g31 _) _) (.inl rfl) _) (.inl rfl) _
     ·exact aD (aD (aA (aA g41 _) _) (.inl rfl) _) (.inl rfl) _
     ·intro i r' hi hr'
      exact aD (aD (aA (aA (adT i r' hi hr') _) _) (.inl (by simp)) _) (.inl (by simp)) _
     ·intro _
      refine aD (aD ?_ (.inl rfl) _) (.inl rfl) _;rw[<- afm];exact aJ _ _
     ·simp only[go_sem,fH,gu,gl]
     ·intro h;omega
    ·have hx0':x≠0:=by omega
     have gc:=afl hx0';have nc:=fun o=>aA gc (s:=163) o
     rw[if_neg hx0']at g18
     repeat' (first|refine sX ?_ ?_<;>intro h|simp only[go_sem, *,beq_self_eq_true,fZ,bH])
     rw[EA (e:=l5) (e2:=l5) (esz:=1) (by_:=24) (by kernel_rfl) (by kernel_rfl) (by kernel_rfl) rfl (by kernel_rfl) (nc _) (aJ _ _) (by omega) (by omega)]
     repeat' (first|refine sX ?_ ?_<;>intro h|simp only[go_sem, *,beq_self_eq_true,fZ,bH])
     refine hG _ ⟨bs.set x (C+x),fl.set x (gI v),iD C W cc R,⟨?_,?_,?_,?_,?_,?_,?_,?_⟩,by simp[hbl],by simp[hfl],adS,e1,e2,e3,e4⟩
     ·rw[if_neg (by omega)];exact aD (aM (aD (n18 _) (.inl rfl) _) _) (.inl rfl) _
     ·exact aM (aD (aD (n16 _) (.inl rfl) _) (.inl rfl) _) _
     ·exact aD (aD (aD (aA g31 _) (.inl rfl) _) (.inl rfl) _) (.inl rfl) _
     ·exact aD (aD (aD (aA g41 _) (.inl rfl) _) (.inl rfl) _) (.inl rfl) _
     ·intro i r' hi hr'
      exact aD (aD (aD (aA (adT i r' hi hr') _) (.inl (by simp)) _) (.inl (by simp)) _) (.inl (by simp)) _
     ·intro _
      rw[List.range_succ,List.map_append];exact aD (aD (aM (nc _) _) (.inl rfl) _) (.inl rfl) _
     ·simp only[go_sem,fH,gu,gl]
     ·intro h;omega
  ·have e6:=hfr 6 (by kernel_rfl)
   have e7:=hfr 7 (by kernel_rfl);clear hfr;simp only[go_sem,c6,c7]at e6 e7;obtain ⟨bs,fl,cc,hM,hbl,hfl,adQ,hbt,hft,hct,_⟩:=hJ;rw[List.length_range]at hM hbt hft hct;rw[List.take_of_length_le (by omega),List.take_of_length_le (by simp)]at hbt;rw[List.take_of_length_le (by omega),List.take_of_length_le (by simp;omega)]at hft;rw[List.drop_of_length_le (by rw[hrl.1];exact Nat.le_refl _),vG]at hct;obtain ⟨m18,m16,m31,m41,Xh,QN,Xi,aaN⟩:=hM;rw[if_neg (by omega)]at m18;rw[hbt,<- WG]at m16;rw[hct]at m41;rw[hft,List.map_map]at m31;have hfin:yP s'.hp (iq m rhs) m.length W:=by
    refine ⟨by rw[ug];exact m18,m41,m16,QN (by omega),fun i r hir=>?_⟩;rw[hrows]at hir;have:=(List.getElem?_eq_some_iff.1 hir).1;rw[hrl.1]at this;exact Xh i r this hir
   repeat' (first|refine sX ?_ ?_<;>intro h|simp only[go_sem, *])
   exact ⟨rfl,rfl⟩
end ama
end Go.Vm
end
section
namespace Go.Vm
open Go Go.Proofs Go.Whole Go.bB
namespace ama
open Go.Proofs.Tryz
def muI (d:Nat):Bool:=d==12||d==13||d==20||d==21||d==22||d==29||d==30||d==36||d==38||d==53||d==57||d==58||d==59||d==65||d==75||d==76||d==77||d==83||d==90||d==91||d==92||d==105||d==110||d==123||d==124||d==125||d==126||d==127||d==128||d==129||d==130||d==131||d==132||d==133||d==134||d==135||d==136||d==137||d==138||d==141||d==142||d==143||d==144||d==145||d==3000130||d==3000131||d==3999999
attribute [go_sem] muI
theorem qW (n m o:Nat):awX muI (.ad (15,n) m o)=true:=fV _ _ _ rfl
theorem qX (n m o:Nat):awX muI (.ad (12,n) m o)=true:=fV _ _ _ rfl
theorem ni (h:Hp) (m o:Nat):awX muI (.ad (hnext h 12) m o)=true:=fV _ _ _ rfl
theorem l8 (h:Hp):apX muI (some 131) (.t (.sl false [])) (.rf (hnext h 130) 1)=true:=jJ _ _ _ rfl
theorem l9 (h:Hp) (r n:Nat):apX muI (some 131) (.rf (131,r) n) (.rf (hnext h 130) 1)=true:=jI _ _ _ _ _ rfl rfl
theorem qY (n m o:Nat):awX muI (.ad (38,n) m o)=true:=fV _ _ _ rfl
def ge (last:Nat) (g:Row) (i:Nat):Int:=if i < g.av.length then g.av.getD i 0 else if i=last then g.const else 0
def uD (y:Nat->Rat) (last i:Nat):List Row->Nat->Rat
 |[],_=>0
 |g::gs,a=>((ge last g i:Int):Rat)*y a+uD y last i gs (a+1)
def mW (h h':Hp):Prop:=∀id o,id.1≠15->id.1≠131->id.1≠141->hget h id=some o->hget h' id=some o
theorem mW.trans {a b c:Hp} (x:mW a b) (y:mW b c):mW a c:=fun id o h1 h2 h3 h=>y id o h1 h2 h3 (x id o h1 h2 h3 h)
def MH (h:Hp) (k:Nat) (g:FuncId) (caps:List PV) (f:Flow) (C last B:Nat) (E:(Nat->Rat)->Nat->Rat) (d:Int):Prop :=
 ∀(h':Hp) (qi mi i:Nat) (rows rhs:PV) (R:List (List Int)) (b:List Int),mW h h'->jq h' (15,k) f C rows rhs R b->hget h' (38,qi)=some (mF (36,mi) 0)->hget h' (36,mi)=some (kvO [])->i<=last ->
  dM Tryz.prog g (.ad (38,qi) 1 0::.t (i64 (i:Nat))::caps) h' (fun _ h''=>∃kv,hget h'' (36,mi)=some (kvO kv)/\hget h'' (38,qi)=some (mF (36,mi) (if i=last then d else 0))/\Same h' h'' [(36,mi),(38,qi)]/\KvB kv C B/\∀y,eT y kv=E y i)
structure sw (ak n last B:Nat) (guard:List Row) (E:(Nat->Rat)->Nat->Rat) (d:Int) (R2:List (List Int)) (b2:List Int) (k:Nat):Prop where
 rl:R2.length=k
 bl:b2.length=k
 wide:∀r∈R2,r.length=ak+n+1/\∀x∈r,x.natAbs<=B+n*1048576+1
 row:∀i r,R2[i]?=some r->∀y,wW y (ak+n+1) (fun j=>r.getD j 0)=E y i-uD y last i guard ak-if i=last then y (ak+n) else 0
 rhs:∀i x,b2[i]?=some x->x=if i=last then d else 0
theorem aaP {mu:Nat->Bool}{h:Hp}{d:Nat} (hm:mu d=true):rG Tryz.prog mu (some d) tKV h=some (.mp (hnext h d),hnew h d (kvO [])):=by
 unfold rG;simp only[hm,QM,and_self,if_true];rfl
def itO (mid:Id) (last:Int) (fs:List Bool):Obj:=⟨.mp mid::.t (i64 last)::flC fs,0,0,tKV,false,true⟩
theorem aaQ (fs:List Bool):(flC fs).length=fs.length:=by simp[flC]
theorem Yr {mu:Nat->Bool}{h:Hp}{d:Nat}{id:Id}{kv:List (Int × Int)} (hm:mu d=true) (hg:hget h id=some (kvO kv)):xR Tryz.prog mu (some d) tKV (.mp id) h=some (.it (hnext h d),hnew h d (itO id (-1) (List.replicate kv.length false))):=by
 unfold xR;simp only[hg,hm,kvO,QM,and_self,if_true,lI];rfl
theorem Yt {h:Hp}{ii mid:Id}{kv:List (Int × Int)}{i:Nat}{fs:List Bool}{y:Int × Int} (hi:hget h ii=some (itO mid (i:Nat) fs)) (hg:hget h mid=some (kvO kv)) (hl:kv.length=fs.length) (hy:kv[i]?=some y) :
  xQ (.it ii) h=some (.t (.tup [i64 y.1,i64 y.2]),hset h ii (itO mid (-1) fs)):=by
 unfold xQ;simp only[hi,itO,hg,kvO];rw[if_pos ⟨trivial,trivial,trivial,trivial,by omega,trivial⟩];simp only[lI,aaQ,hl,if_true,Int.toNat_natCast,hy]
def z8 (fs:List Bool):Nat:=fs.countP fun b=>!b
theorem Js:∀(fs:List Bool) (i:Nat),fs[i]?=some false->z8 (fs.set i true) < z8 fs
 |[],i,h=>by simp at h
 |b::fs,0,h=>by
  simp only[List.getElem?_cons_zero,Option.some.injEq]at h;subst h;simp[z8]
 |b::fs,i+1,h=>by
  have:=Js fs i (by simpa using h);simp only[z8,List.set_cons_succ,List.countP_cons]at this ⊢;omega
theorem Yu {l:List Int}{W:Nat} (h:l.length=W):(⟨(ints l).map .t,1,W,2,false,true⟩:Obj)=intsO l:=by unfold intsO;rw[h]
theorem jZ (id:Id):(PV.mp id).cells=[.mp id]:=rfl
theorem oq (id:Id):PV.one (.mp id)=true:=rfl
theorem ou (id:Id) (x:Tr):gV [.mp id,.t x]=.agg [.mp id,.t x]:=rfl
theorem iZ (l:List PV):(PV.agg l).cells=l:=rfl
theorem nS.site {h h':Hp}{a c:Nat} (hh:∀id:Id,id.1≠c->hget h' id=hget h id) (h1:c≠105) (h2:c≠a) {p:PV}{R:List (List Int)}:nS h a p R->nS h' a p R
 |.inl x=>.inl x
 |.inr ⟨rid,C,e1,e2,e3,e4,e5⟩=>.inr ⟨rid,C,e1,e2,by rw[hh rid (by rw[e2];exact fun e=>h2 e.symm)];exact e3,e4,fun i c r q1 q2=>by
  rcases e5 i c r q1 q2 with x|⟨id,x1,x2,x3⟩
  ·exact .inl x
  ·exact .inr ⟨id,x1,x2,by rw[hh id (by rw[x2];exact fun e=>h1 e.symm)];exact x3⟩⟩
theorem nS.cells {h:Hp}{a:Nat}{p:PV}{R:List (List Int)}:nS h a p R->p.cells=[p]/\PV.one p=true
 |.inl ⟨e,_⟩=>by rw[e];exact ⟨rfl,rfl⟩
 |.inr ⟨_,_,e,_⟩=>by rw[e];exact ⟨rfl,rfl⟩
theorem Ai.cells {h:Hp}{a:Nat}{p:PV}{b:List Int}:Ai h a p b->p.cells=[p]/\PV.one p=true
 |.inl ⟨e,_⟩=>by rw[e];exact ⟨rfl,rfl⟩
 |.inr ⟨_,e,_⟩=>by rw[e];exact ⟨rfl,rfl⟩
theorem Yv {h:Hp}{p:PV}{R:List (List Int)}:nS h 131 p R->∀h':Hp,apX muI (some 131) p (.rf (hnext h' 130) 1)=true
 |.inl ⟨e,_⟩,h'=>by rw[e];exact l8 h'
 |.inr ⟨(r1,r2),C,e1,e2,_⟩,h'=>by
  simp only at e2;subst e2;rw[e1];exact l9 h' _ _
theorem QO {mu:Nat->Bool}{a:Nat} (hm:mu a=true) {h:Hp}{p c:PV}{R:List (List Int)}{r:List Int}{id:Id}{lv:Bool} (ha:a≠105) (hR:nS h a p R) (hl:R.length<=1000000) (hi:hget h id=some ⟨[c],1,1,35,false,lv⟩) (hc:rE h c r) :
  ∃p' h',aT Tryz.prog mu (some a) 275 p (.rf id 1) h=some (p',h')/\nS h' a p' (R++[r])/\∀id',id'.1≠a->hget h' id'=hget h id':=by
 have hcc:∀h',(∀id',id'.1≠a->hget h' id'=hget h id')->∀ {c r},rE h c r->rE h' c r:=fun h' hh c r hc=>by
  rcases hc with x|⟨i,e1,e2,e3⟩
  ·exact .inl x
  ·exact .inr ⟨i,e1,e2,by rw[hh i (by rw[e2];exact fun e=>ha e.symm)];exact e3⟩
 rcases hR with ⟨e1,e2⟩|⟨rid,C,e1,e2,e3,e4,e5⟩
 ·subst e1;subst e2
  have fr:∀id':Id,id'.1≠a->hget (hnew h a ⟨[c],1,1,35,false,true⟩) id'=hget h id':=fun id' hn=>by
   unfold hget;rw[jB _ (by simpa using hn)]
  refine ⟨_,_,EB (e:=35) (e2:=35) (esz:=1) (by_:=24) (ag:=false) (by kernel_rfl) (by kernel_rfl) (by kernel_rfl) rfl (by kernel_rfl) (by kernel_rfl) (.inr rfl) hm hi (by omega) (by omega),.inr ⟨_,[c],rfl,rfl,aJ _ _,rfl,fun i x y h1 h2=>?_⟩,fr⟩
  match i with
  |0 =>
   simp only[List.getElem?_cons_zero,Option.some.injEq]at h1;simp only[List.nil_append,List.getElem?_cons_zero,Option.some.injEq]at h2;subst h1;subst h2
   exact hcc _ fr hc
  |i+1=>simp at h1
 ·subst e1
  have fr:∀id':Id,id'.1≠a->hget (hset h rid ⟨C++[c],1,R.length+1,35,false,true⟩) id'=hget h id':=fun id' hn=>by
   unfold hget;rw[fA _ (by rw[e2];simpa using hn)]
  refine ⟨_,_,EA (e:=35) (e2:=35) (esz:=1) (by_:=24) (by kernel_rfl) (by kernel_rfl) (by kernel_rfl) rfl (by kernel_rfl) e3 hi (by omega) (by omega),.inr ⟨rid,C++[c],by rw[List.length_append];rfl,e2,by rw[List.length_append];exact aM e3 _,by simp[e4],fun i x y h1 h2=>?_⟩,fr⟩;rcases Nat.lt_or_ge i C.length with hi|hi
  ·rw[List.getElem?_append_left hi]at h1
   rw[List.getElem?_append_left (by omega)]at h2;exact hcc _ fr (e5 i x y h1 h2)
  ·rw[List.getElem?_append_right hi]at h1
   rw[List.getElem?_append_right (by omega),<- e4]at h2
   match i-C.length,h1,h2 with
   |0,h1,h2 =>
    simp only[List.getElem?_cons_zero,Option.some.injEq]at h1 h2;subst h1;subst h2
    exact hcc _ fr hc
   |i+1,h1,_=>simp at h1
theorem Jt {mu:Nat->Bool}{a:Nat} (hm:mu a=true) {h:Hp}{p:PV}{b:List Int}{x:Int}{nn:Bool} (hb:Ai h a p b) (hl:b.length<=1000000) :
  ∃p' h',aT Tryz.prog mu (some a) 35 p (.t (.sl nn [i64 x])) h=some (p',h')/\Ai h' a p' (b++[x])/\∀id',id'.1≠a->hget h' id'=hget h id':=by
 rcases hb with ⟨e1,e2⟩|⟨rid,e1,e2,e3⟩
 ·subst e1;subst e2
  refine ⟨.rf (hnext h a) 1,hnew h a (intsO [x]),?_,.inr ⟨_,rfl,rfl,aJ _ _⟩,fun id' hn=>by unfold hget;rw[jB _ (by simpa using hn)]⟩;obtain ⟨zz,hz1,hz2⟩:∃zz,aW Tryz.prog 2=some zz/\zz.length=1:=⟨[i64 0],by kernel_rfl,rfl⟩
  have k1:bg Tryz.prog 35=some 2:=by kernel_rfl
  have k2:Tryz.prog.cellsOf 2=1:=by kernel_rfl
  have k3:Tryz.prog.bytesOf 2=8:=by kernel_rfl
  have k4:bR Tryz.prog 2=some false:=by kernel_rfl
  unfold aT;simp only[k1,hz1,iP,flat,List.flatMap_cons,List.flatMap_nil,List.append_nil,Tr.cells,List.length_cons,List.length_nil,k2,hz2,k3];unfold dG;simp only[k4,k2,hm];simp[hz2,intsO,ints]
 ·subst e1
  refine ⟨_,_,jW (e:=2) (esz:=1) (ag:=false) (by_:=8) (by kernel_rfl) (by kernel_rfl) (by kernel_rfl) rfl (by kernel_rfl) (fun y hy=>by rw[List.mem_singleton.1 hy];rfl) e3 (by simp only[List.length_cons,List.length_nil];omega),.inr ⟨rid,by rw[List.length_append];rfl,e2,?_⟩,fun id' hn=>by unfold hget;rw[fA _ (by rw[e2];simpa using hn)]⟩;have:(⟨(ints b).map PV.t++(flat [i64 x]).map .t,1,b.length+[i64 x].length,2,false,true⟩:Obj)=intsO (b++[x]):=by
   unfold intsO;simp[ints,flat,Tr.cells]
  rw[this];exact aM e3 _
theorem TQ {h:Hp}{z:Nat}{f:Flow}{ak:Nat}{rows rhs:PV}{R:List (List Int)}{b:List Int} (hS:jq h (15,z) f ak rows rhs R b) (t:Trans) {last B:Nat}{g:FuncId}{caps:List PV}{E:(Nat->Rat)->Nat->Rat}{d:Int}
  (hB:MH h z g caps f (ak+t.guard.length+1) last B E d) (hn:t.guard.length<=16) (ug:ak<=100000) (hlast:last<=16) (hBb:B<=1099511627776) (hR:R.length<=1000) (hrb:b.length=R.length)
  (hg:∀r∈t.guard,aU r.const=true/\∀c∈r.av,aU c=true) :
  dM Tryz.prog 262 [.ad (15,z) 1 0,.t t.tr,.t (i64 (last:Nat)),.fn g caps] h (fun _ h'=>∃rows' rhs' R2 b2,jq h' (15,z) f (ak+t.guard.length+1) rows' rhs' (R++R2) (b++b2)/\mW h h'/\sw ak t.guard.length last B t.guard E d R2 b2 (last+1)):=by
 obtain ⟨-,uE,hrows,hrhs⟩:=hS;generalize hnn:t.guard.length=n at *;have w1:IntKind.i64.wrap ((n:Int)+1)=((n+1:Nat):Int):=by rw[wrap_i64 (by omega) (by omega)];omega
 have w2:IntKind.i64.wrap ((ak:Int)+((n+1:Nat):Int))=((ak+n+1:Nat):Int):=by rw[wrap_i64 (by omega) (by omega)];omega
 have w3:IntKind.i64.wrap ((last:Int)+1)=((last+1:Nat):Int):=by rw[wrap_i64 (by omega) (by omega)];omega
 unfold eY at uE;refine dI orders Tryz.func262 rfl (by kernel_rfl) muI (by kernel_rfl) rfl (fun hs hlen=>?_);clear hs hlen
 repeat' (first|refine sX ?_ ?_<;>intro h|simp only[go_sem, *,hnn,Bool.or_true,qW,qX,ni,l8,l9,qY,bL,dF,dP,fC,jI,jJ,aV])
 refine aC (List.range (last+1)) (fun k s'=>∃rows' rhs' R2 b2,jq s'.hp (15,z) f (ak+n+1) rows' rhs' (R++R2) (b++b2)/\mW h s'.hp/\sw ak n last B t.guard E d R2 b2 k) rfl (by rw[List.length_range];rfl) (by rw[List.length_range];first|assumption|omega) (by kernel_rfl) (fun _ _ _ _ hj=>hj) (fun _ _ _ hj=>hj) ?_ (fun k x s' hx hd hk hJ hix hfr G hG=>?_) (fun s' hJ hfr=>?_)
 ·refine ⟨rows,rhs,[],[],⟨rfl,aM uE _,?_,?_⟩,?_,⟨rfl,rfl,fun r hr=>by simp at hr,fun i r hr=>by simp at hr,fun i x hx=>by simp at hx⟩⟩
  ·rw[List.append_nil];exact hrows.same (Same.set h (15,z) _) (fun id hid=>by rw[List.mem_singleton]at hid;rw[hid];exact (by decide:(15:Nat)≠105)) (fun id hid=>by rw[List.mem_singleton]at hid;rw[hid];exact (by decide:(15:Nat)≠131))
  ·rw[List.append_nil];exact hrhs.same (Same.set h (15,z) _) (fun id hid=>by rw[List.mem_singleton]at hid;rw[hid];exact (by decide:(15:Nat)≠141))
  ·exact fun id o h1 _ _ ho=>Same.set h (15,z) _ id o (fun e=>h1 (by rw[List.mem_singleton]at e;rw[e])) ho
 ·have c0:=hfr 0 (by kernel_rfl)
  have c2:=hfr 2 (by kernel_rfl);have c3:=hfr 3 (by kernel_rfl);have c5:=hfr 5 (by kernel_rfl);have c8:=hfr 8 (by kernel_rfl);clear hfr;simp only[go_sem]at c0 c2 c3 c5 c8;obtain ⟨rows',rhs',R2,b2,hS,hK,hE⟩:=hJ;rw[List.length_range]at hk;have hxk:x=k:=by rw[List.getElem?_range hk]at hx;injection hx with hx;exact hx.symm
  subst hxk;clear hd hx uE hrows hrhs
  repeat' (first|refine sX ?_ ?_<;>intro h|simp only[go_sem, *,jZ,oq,ou,iZ,qW,qX,ni,l8,l9,qY,bL,dF,dP,fC,jI,jJ,aV])
  rw[aaP rfl];obtain ⟨mi,hmi⟩:∃mi,hnext s'.hp 36=(36,mi):=⟨_,rfl⟩
  obtain ⟨qi,hqi⟩:∃qi,hnext (hnew s'.hp 36 (kvO [])) 38=(38,qi):=⟨_,rfl⟩
  have a1:hget (hnew (hnew s'.hp 36 (kvO [])) 38 (mF (36,mi) 0)) (38,qi)=some (mF (36,mi) 0):=by rw[<- hqi];exact aJ _ _
  have a2:hget (hnew (hnew s'.hp 36 (kvO [])) 38 (mF (36,mi) 0)) (36,mi)=some (kvO []):=by rw[<- hmi];exact aA (aJ _ _) _
  have a3:Same s'.hp (hnew (hnew s'.hp 36 (kvO [])) 38 (mF (36,mi) 0)) []:=(Same.new _ _ _).trans (Same.new _ _ _);have f1:∀o,hget s'.hp (36,mi)≠some o:=fun o ho=>by have:=iE (s:=36) ho;rw[hmi]at this;simp at this
  have f2:∀o,hget s'.hp (38,qi)≠some o:=fun o ho=>by have:=iE (s:=38) (aA ho (s:=36) (kvO []));rw[hqi]at this;simp at this
  repeat' (first|refine sX ?_ ?_<;>intro h|simp only[go_sem, *,jZ,oq,ou,iZ,qW,qX,ni,l8,l9,qY,bL,dF,dP,fC,jI,jJ,aV])
  have hH2:hnew (hnew s'.hp 36 (kvO [])) 38 ⟨[.mp (36,mi),.t (.int .i64 0)],2,1,aaH,true,true⟩=hnew (hnew s'.hp 36 (kvO [])) 38 (mF (36,mi) 0):=rfl;rw[hH2];generalize hnew (hnew s'.hp 36 (kvO [])) 38 (mF (36,mi) 0)=H2 at *;clear hH2 hmi hqi;have hS2:=hS.same a3 (fun id hid=>by simp at hid);have hK2:mW h H2:=hK.trans fun id o _ _ _ ho=>a3 id o (by simp) ho
  refine iH (hB H2 qi mi x rows' rhs' _ _ hK2 hS2 a1 a2 (by omega)) fun v H3 hq=>?_
  obtain ⟨kv,m1,m2,m3,m4,m5⟩:=hq;have hS3:=hS2.same m3 (fun id hid=>by simp only[List.mem_cons,List.not_mem_nil,or_false]at hid;rcases hid with rfl|rfl<;>simp);have hK3:mW h H3:=hK.trans fun id o h1 h2 h3 ho=>m3 id o (fun e=>by
   simp only[List.mem_cons,List.not_mem_nil,or_false]at e;rcases e with rfl|rfl
   ·exact f1 o ho
   ·exact f2 o ho) (a3 id o (by simp) ho)
  have f36:∀o,hget h (36,mi)≠some o:=fun o ho=>f1 o (hK _ _ (by simp) (by simp) (by simp) ho)
  clear hS hS2 hK2 a1 a2 a3 hK f1 f2 hB;generalize hrr:(if x=last then d else 0)=rr at m2
  repeat' (first|refine sX ?_ ?_<;>intro h|simp only[go_sem, *,jZ,oq,ou,iZ,qW,qX,ni,l8,l9,qY,bL,dF,dP,fC,jI,jJ,aV])
  subst hnn;refine aC (t.guard) (fun k s'=>∃kv',hget s'.hp (36,mi)=some (kvO kv')/\Same H3 s'.hp [(36,mi)]/\KvB kv' (ak+t.guard.length+1) (B+k*1048576)/\∀y,eT y kv'-uD y last x (t.guard.drop k) (ak+k)=E y x-uD y last x t.guard ak) rfl rfl (by first|assumption|omega) (by kernel_rfl) (fun _ _ _ _ hj=>hj) (fun _ _ _ hj=>hj) ?_ (fun j y u hy hyd hj hJ hjx hfr H hH=>?_) (fun u hJ hfr=>?_)
  ·exact ⟨kv,m1,Same.refl _ _,by simpa using m4,fun y=>by rw[m5 y];rfl⟩
  ·have e8:=hfr 8 (by kernel_rfl)
   have e9:=hfr 9 (by kernel_rfl);have e10:=hfr 10 (by kernel_rfl);have e2:=hfr 2 (by kernel_rfl);have e44:=hfr 44 (by kernel_rfl);clear hfr;simp only[go_sem,c8,c2]at e8 e9 e10 e2 e44;obtain ⟨kv',g1,g2,g3,g4⟩:=hJ;have g5:=g2 (38,qi) _ (by simp) m2;obtain ⟨hr1,hr2⟩:=hg y (List.mem_of_getElem? hy);rw[hyd]at g4;clear hyd;have w5:IntKind.i64.wrap ((ak:Int)+(j:Int))=((ak+j:Nat):Int):=by rw[wrap_i64 (by omega) (by omega)];omega
   have b1:=Gc g3 (ak+j:Nat);have l1:=fun o=>zZ (aA g1 (s:=12) o) (ak+j:Nat)
   have n10:=fun o=>aA g5 (s:=12) o
   unfold mF at n10;have hfin:∀(a:Int) (o:Obj) (s'':St),ge last y x=a->a.natAbs<=1048576->s''.hp=hset (hnew u.hp 12 o) (36,mi) (kvO (gU (ak+j:Nat) (fG kv' (ak+j:Nat)+-a) kv'))->H s'':=fun a o s'' hge ha hh=>by
    refine hH _ ⟨kF (ak+j:Nat) (-a) kv',by rw[hh];exact aM (aA g1 o) _,by rw[hh];exact (g2.trans ((Same.new _ 12 o).trans (Same.set _ (36,mi) _))).mono (by simp),(tL (m:=1048576) g3 (by omega) (by omega) (by omega)).mono (Nat.le_refl _) (by omega),fun Y=>?_⟩;have e:=g4 Y;rw[uD,hge]at e;rw[su,Int.toNat_natCast,Rat.intCast_neg,<- e,Nat.add_assoc];grind
   by_cases hlt:x < y.av.length
   ·have d1:decide ((x:Int) < (y.av.length:Int))=true:=decide_eq_true (by omega)
    obtain ⟨a,ha,-⟩:=aF y.av x hlt;have ha2:=aZ (hr2 a (List.mem_of_getElem? ha));have hge:ge last y x=a:=by unfold ge;rw[if_pos hlt,List.getD_eq_getElem?_getD,ha];rfl
    have w6:IntKind.i64.wrap (fG kv' (ak+j:Nat)-a)=fG kv' (ak+j:Nat)+-a:=by rw[wrap_i64 (by omega) (by omega)];omega
    have u1:=fun o=>vQ (aA g1 (s:=12) o) (ak+j:Nat) (fG kv' (ak+j:Nat)+-a)
    repeat' (first|refine sX ?_ ?_<;>intro h|simp only[go_sem, *,jZ,oq,ou,iZ,qW,qX,ni,l8,l9,qY,bL,dF,dP,fC,jI,jJ,aV])
    exact hfin a _ _ hge ha2 rfl
   ·have d1:decide ((x:Int) < (y.av.length:Int))=false:=decide_eq_false (by omega)
    by_cases hxl:x=last
    ·subst hxl
     have d2:((x:Int)==(x:Int))=true:=beq_self_eq_true _;have ha2:=aZ hr1;have hge:ge x y x=y.const:=by unfold ge;rw[if_neg hlt,if_pos rfl]
     have w6:IntKind.i64.wrap (fG kv' (ak+j:Nat)-y.const)=fG kv' (ak+j:Nat)+-y.const:=by rw[wrap_i64 (by omega) (by omega)];omega
     have u1:=fun o=>vQ (aA g1 (s:=12) o) (ak+j:Nat) (fG kv' (ak+j:Nat)+-y.const)
     repeat' (first|refine sX ?_ ?_<;>intro h|simp only[go_sem, *,jZ,oq,ou,iZ,qW,qX,ni,l8,l9,qY,bL,dF,dP,fC,jI,jJ,aV])
     exact hfin y.const _ _ hge ha2 rfl
    ·have d2:((x:Int)==(last:Int))=false:=beq_eq_false_iff_ne.2 (by omega)
     have hge:ge last y x=0:=by unfold ge;rw[if_neg hlt,if_neg hxl]
     repeat' (first|refine sX ?_ ?_<;>intro h|simp only[go_sem, *,jZ,oq,ou,iZ,qW,qX,ni,l8,l9,qY,bL,dF,dP,fC,jI,jJ,aV])
     refine hH _ ⟨kv',aA g1 _,(g2.trans (Same.new _ 12 _)).mono (by simp),g3.mono (Nat.le_refl _) (by omega),fun Y=>?_⟩;have e:=g4 Y;rw[uD,hge,rc0]at e;rw[<- e,Nat.add_assoc];grind
  ·have e0:=hfr 0 (by kernel_rfl)
   have e2:=hfr 2 (by kernel_rfl);have e5:=hfr 5 (by kernel_rfl);have e8:=hfr 8 (by kernel_rfl);have e9:=hfr 9 (by kernel_rfl);have e10:=hfr 10 (by kernel_rfl);clear hfr;simp only[go_sem,c0,c2,c5,c8]at e0 e2 e5 e8 e9 e10;obtain ⟨kv',g1,g2,g3,g4⟩:=hJ;rw[List.drop_length]at g4;clear hg m1 m3 m4 m5;generalize hnn:t.guard.length=n at *;have w5:IntKind.i64.wrap ((ak:Int)+(n:Int))=((ak+n:Nat):Int):=by rw[wrap_i64 (by omega) (by omega)];omega
   have hpk:∃(kv2:List (Int × Int)) (U:Hp),U=(if x=last then hset u.hp (36,mi) (kvO kv2) else u.hp)/\(x=last->kv2=kF (ak+n:Nat) (-1) kv')/\hget U (36,mi)=some (kvO kv2)/\Same H3 U [(36,mi)]/\KvB kv2 (ak+n+1) (B+n*1048576+1)/\∀Y,eT Y kv2=E Y x-uD Y last x t.guard ak-if x=last then Y (ak+n) else 0:=by
    by_cases hxl:x=last
    ·refine ⟨kF (ak+n:Nat) (-1) kv',_,rfl,fun _=>rfl,?_⟩
     simp only[if_pos hxl];refine ⟨aM g1 _,(g2.trans (Same.set _ (36,mi) _)).mono (by simp),tL (m:=1) g3 (by omega) (by omega) (by omega),fun Y=>?_⟩;have e:=g4 Y;rw[uD]at e;rw[su,Int.toNat_natCast,Rat.intCast_neg,<- e,show ((1:Int):Rat)=1 from rfl];grind
    ·refine ⟨kv',_,rfl,fun e=>absurd e hxl,?_⟩
     simp only[if_neg hxl];refine ⟨g1,g2,g3.mono (Nat.le_refl _) (by omega),fun Y=>?_⟩;have e:=g4 Y;rw[uD]at e;grind
   obtain ⟨kv2,U,hU,hkv,p1,p3,p4,p5⟩:=hpk;have p2:=p3 (38,qi) _ (by simp) m2;have p6:=hS3.same p3 (fun id hid=>by rw[List.mem_singleton]at hid;rw[hid];simp);have k6:=p6.obj;have g5:=g2 (38,qi) _ (by simp) m2;unfold eY at k6;unfold mF at g5 p2;have hcn:(0:Int)<=((ak+n+1:Nat):Int):=by omega
   have hm1:((ak+n+1:Nat):Int)*((8:Nat):Int)<=281474976710656:=by omega
   have hm2:((ak+n+1:Nat):Int)<=4611686018427387904:=by omega
   have b1:=Gc g3 (ak+n:Nat);have l1:=zZ g1 (ak+n:Nat);have w6:IntKind.i64.wrap (fG kv' (ak+n:Nat)-1)=fG kv' (ak+n:Nat)+-1:=by rw[wrap_i64 (by omega) (by omega)];omega
   have u1:=vQ g1 (ak+n:Nat) (fG kv' (ak+n:Nat)+-1)
   by_cases hxl:x=last
   case' pos =>
    have d2:((x:Int)==(last:Int))=true:=by rw[hxl,beq_self_eq_true]
    rw[if_pos hxl]at hU;have hkv:=hkv hxl;rw[hkv]at hU;change je _ _ _ _ _ _=some (hset u.hp (36,mi) (kvO (kF (ak+n:Nat) (-1) kv'))) at u1;rw[<- hU]at u1;clear hxl hU hkv
    repeat' (first|refine sX ?_ ?_<;>intro h|simp only[go_sem, *,hnn,jZ,oq,ou,iZ,qW,qX,ni,l8,l9,qY,bL,dF,dP,fC,jI,jJ,aV])
   case' neg =>
    have d2:((x:Int)==(last:Int))=false:=beq_eq_false_iff_ne.2 (by omega);rw[if_neg hxl]at hU;replace hU:=hU.symm;clear hxl hkv g1 g2 g5 l1 u1
    repeat' (first|refine sX ?_ ?_<;>intro h|simp only[go_sem, *,hnn,jZ,oq,ou,iZ,qW,qX,ni,l8,l9,qY,bL,dF,dP,fC,jI,jJ,aV])
   all_goals
    clear d2 w6 b1 g4 g3 hm1 hm2 hcn;obtain ⟨ri,hri⟩:∃ri,hnext U 105=(105,ri):=⟨_,rfl⟩
    have hU1:hnew U 105 ⟨.t (.int .i64 0)::((List.replicate (ak+n) 0).map (Tr.int .i64)).map .t,1,ak+n+1,2,false,true⟩=hnew U 105 (intsO (List.replicate (ak+n+1) 0)):=by simp[intsO,ints,List.replicate_succ]
    have o1:hget (hnew U 105 (intsO (List.replicate (ak+n+1) 0))) (105,ri)=some (intsO (List.replicate (ak+n+1) 0)):=by rw[<- hri];exact aJ _ _
    have o2:Same U (hnew U 105 (intsO (List.replicate (ak+n+1) 0))) []:=Same.new _ _ _;have f1:∀o,hget U (105,ri)≠some o:=fun o ho=>by have:=iE (s:=105) ho;rw[hri]at this;simp at this
    rw[hU1];generalize hnew U 105 (intsO (List.replicate (ak+n+1) 0))=U1 at *;clear hU1;rw[Yr rfl (o2 _ _ (by simp) p1)];obtain ⟨ii,hii⟩:∃ii,hnext U1 110=(110,ii):=⟨_,rfl⟩
    have f2:∀o,hget U (110,ii)≠some o:=fun o ho=>by have:=iE (s:=110) (o2 _ _ (by simp) ho);rw[hii]at this;simp at this
    have i1:hget (hnew U1 110 (itO (36,mi) (-1) (List.replicate kv2.length false))) (110,ii)=some (itO (36,mi) (-1) (List.replicate kv2.length false)):=by rw[<- hii];exact aJ _ _
    have i2:=aA (s:=110) o1 (itO (36,mi) (-1) (List.replicate kv2.length false));have i3:Same U (hnew U1 110 (itO (36,mi) (-1) (List.replicate kv2.length false))) []:=o2.trans (Same.new _ _ _)
    repeat' (first|refine sX ?_ ?_<;>intro h|simp only[go_sem, *,hnn,jZ,oq,ou,iZ,qW,qX,ni,l8,l9,qY,bL,dF,dP,fC,jI,jJ,aV])
    generalize hnew U1 110 (itO (36,mi) (-1) (List.replicate kv2.length false))=U2 at *;refine jD (fun m s'=>∃(fs:List Bool) (row:List Int),m=z8 fs/\fs.length=kv2.length/\row.length=ak+n+1/\hget s'.hp (110,ii)=some (itO (36,mi) (-1) fs)/\hget s'.hp (105,ri)=some (intsO row)/\Same U s'.hp []/\∀j,j < ak+n+1->row.getD j 0=oP fs kv2 j) (z8 (List.replicate kv2.length false)) ⟨List.replicate kv2.length false,List.replicate (ak+n+1) 0,rfl,by simp,by simp,i1,i2,i3,fun j hj=>?_⟩ ?_
    ·rw[MF,List.getD_eq_getElem?_getD,List.getElem?_replicate,if_pos hj];rfl
    rintro _ w ⟨fs,row,rfl,r1,r2,r3,r4,r5,r6⟩ hfr H hH
    have x0:=hfr 0 (by kernel_rfl);have x10:=hfr 10 (by kernel_rfl);have x13:=hfr 13 (by kernel_rfl);have adU:=hfr 110 (by kernel_rfl);clear hfr;simp only[go_sem,e0,e10]at x0 x10 x13 adU;have v1:=r5 _ _ (by simp) p1;clear e0 e2 e5 e8 e9 e10
    repeat' (first|refine sX ?_ ?_<;>intro h|simp only[go_sem, *,hnn,jZ,oq,ou,iZ,qW,qX,ni,l8,l9,qY,bL,dF,dP,fC,jI,jJ,aV])
    refine UU (id:=(110,ii)) adU ⟨_,(36,mi),-1,fs,_,kv2,r3,rfl,rfl,rfl,rfl,v1,rfl,rfl,rfl,r1.symm⟩ fun w2 hto=>?_
    obtain ⟨ob,om,last',fs',omo,kv3,q1,q2,q3,q4,q5⟩:=hto;rw[r3]at q1;injection q1 with q1
    subst q1;simp only[itO]at q2;injection q2 with q2 q2'
    injection q2' with q2' aaR
    injection q2 with q2
    subst q2;have aaR:=Rw aaR;subst aaR;rw[v1]at q3;injection q3 with q3
    subst q3;have q4:=Rv q4;subst q4;rcases q5 with ⟨hall,rfl⟩|⟨i,hfi,rfl⟩
    ·change aI _ _ _ _ _ ⟨upd w.sl 111 (.t (.tup [.bool false])),hset w.hp (110,ii) (itO (36,mi) (-1) fs)⟩
     rw[LW r3];have s1:=r5 _ _ (by simp) k6;have s2:=r5 _ _ (by simp) p2;have hS9:=p6.same r5 (fun id hid=>by simp at hid);have hRl:(R++R2).length<=2000:=by rw[List.length_append,hE.rl];omega
     have hbl:(b++b2).length<=2000:=by rw[List.length_append,hE.bl];omega
     unfold intsO at r4;rw[r2]at r4;have z1:=Yv hS9.rows w.hp;have hkw:∀Y,wW Y (ak+n+1) (fun j=>row.getD j 0)=E Y x-uD Y last x t.guard ak-if x=last then Y (ak+n) else 0:=fun Y=>by
      rw[<- p5 Y,<- MG Y fs kv2 r1 hall p4.1];exact aL fun j hj=>by
       show ((row.getD j 0:Int):Rat)*Y j=_
       rw[r6 j hj]
     have hab:∀y∈row,y.natAbs<=B+n*1048576+1:=fun y hy=>by
      obtain ⟨j,hj,rfl⟩:=List.mem_iff_getElem.1 hy;have e:=r6 j (by omega);have e2:=yQ fs kv2 j;have e3:=p4.2;rw[List.getD_eq_getElem?_getD,List.getElem?_eq_getElem hj]at e;simp only[Option.getD_some]at e;rw[e];omega
     obtain ⟨HC,hHC⟩:∃HC,HC=hnew w.hp 130 ⟨[.rf (105,ri) (ak+n+1)],1,1,35,false,true⟩:=⟨_,rfl⟩
     have g1':hget HC (hnext w.hp 130)=some ⟨[.rf (105,ri) (ak+n+1)],1,1,35,false,true⟩:=by rw[hHC];exact aJ _ _
     have g2':Same w.hp HC []:=by rw[hHC];exact Same.new _ _ _
     obtain ⟨P1,HD,y1,y2,y3⟩:=QO (mu:=muI) (a:=131) rfl (by decide) (hS9.rows.same g2' (fun id hid=>by simp at hid) (fun id hid=>by simp at hid)) (by omega) g1' (c:=.rf (105,ri) (ak+n+1)) (r:=row) (.inr ⟨(105,ri),by rw[r2],rfl,by unfold intsO;rw[r2];exact g2' _ _ (by simp) r4⟩);obtain ⟨P2,HE,y4,y5,y6⟩:=Jt (mu:=muI) (a:=141) (nn:=true) (x:=rr) rfl (b:=b++b2) (p:=rhs') (h:=HD) (by
      rcases hS9.rhs with x|⟨rd,e1,e2,e3⟩
      ·exact .inl x
      ·exact .inr ⟨rd,e1,e2,by rw[y3 rd (by rw[e2];decide)];exact g2' _ _ (by simp) e3⟩) (by omega)
     have t1:=g2' _ _ (by simp) s1;have t2:=g2' _ _ (by simp) s2;rw[<- y3 (15,z) (by simp)]at t1;rw[<- y3 (38,qi) (by simp)]at t2;have t3:=t1;rw[<- y6 (15,z) (by simp)]at t3;have hKE:∀id o,id.1≠131->id.1≠141->hget U id=some o->hget HE id=some o:=fun id o h1 h2 ho=>by
      rw[y6 id h2,y3 id h1];exact g2' _ _ (by simp) (r5 id o (by simp) ho)
     have y7:=y2.site y6 (by decide) (by decide);clear r5 r6 p4 p5 i1 i2 i3 v1 y2 y3 y6;have alH:=hHC.symm;clear hHC;obtain ⟨c1,c1'⟩:=y7.cells;obtain ⟨c2',alI⟩:=y5.cells
     repeat' (first|refine sX ?_ ?_<;>intro h|simp only[go_sem, *,hnn,jZ,oq,ou,iZ,qW,qX,ni,l8,l9,qY,bL,dF,dP,fC,jI,jJ,aV])
     have hSH:∀o,Same HE (hset (hset HE (15,z) o) (15,z) (eY f (ak+n+1) P1 P2)) [(15,z)]:=fun o=>by rw[lD];exact Same.set _ _ _
     refine hG _ ⟨P1,P2,R2++[row],b2++[rr],⟨rfl,?_,?_,?_⟩,?_,?_⟩
     ·exact aM (aM t3 _) _
     ·rw[<- List.append_assoc];exact y7.same (hSH _) (fun id hid=>by rw[List.mem_singleton]at hid;rw[hid];exact (by decide:(15:Nat)≠105)) (fun id hid=>by rw[List.mem_singleton]at hid;rw[hid];exact (by decide:(15:Nat)≠131))
     ·rw[<- List.append_assoc];exact y5.same (hSH _) (fun id hid=>by rw[List.mem_singleton]at hid;rw[hid];exact (by decide:(15:Nat)≠141))
     ·refine fun id o h1 h2 h3 ho=>hSH _ id o (fun e=>h1 (by rw[List.mem_singleton]at e;rw[e])) (hKE id o h2 h3 ?_)
      by_cases em:id=(36,mi)
      ·subst em;exact absurd ho (f36 o)
      ·exact p3 id o (by simpa using em) (hK3 id o h1 h2 h3 ho)
     ·refine ⟨by rw[List.length_append,hE.rl];rfl,by rw[List.length_append,hE.bl];rfl,fun r hr=>?_,fun i r hr=>?_,fun i y hy=>?_⟩
      ·rcases List.mem_append.1 hr with hr|hr
       ·exact hE.wide r hr
       ·rw[List.mem_singleton.1 hr];exact ⟨r2,hab⟩
      ·rcases Nat.lt_or_ge i R2.length with hi|hi
       ·rw[List.getElem?_append_left hi]at hr
        exact hE.row i r hr
       ·rw[List.getElem?_append_right hi]at hr
        have:i=x:=by
         have:=hE.rl;rcases Nat.lt_or_ge (i-R2.length) 1 with h1|h1
         ·omega
         ·rw[List.getElem?_eq_none (by simpa using h1)]at hr;cases hr
        subst this;rw[hE.rl,Nat.sub_self,List.getElem?_cons_zero,Option.some.injEq]at hr;subst hr;exact hkw
      ·rcases Nat.lt_or_ge i b2.length with hi|hi
       ·rw[List.getElem?_append_left hi]at hy
        exact hE.rhs i y hy
       ·rw[List.getElem?_append_right hi]at hy
        have:i=x:=by
         have:=hE.bl;rcases Nat.lt_or_ge (i-b2.length) 1 with h1|h1
         ·omega
         ·rw[List.getElem?_eq_none (by simpa using h1)]at hy;cases hy
        subst this;rw[hE.bl,Nat.sub_self,List.getElem?_cons_zero,Option.some.injEq]at hy;rw[<- hy,hrr]
    ·have hil:i < kv2.length:=by rw[<- r1];exact (List.getElem?_eq_some_iff.1 hfi).1
     obtain ⟨y,hy,-⟩:=aF kv2 i hil;have hyd:kv2.getD i (0,0)=y:=by rw[List.getD_eq_getElem?_getD,hy];rfl
     obtain ⟨hy0,hy1⟩:=p4.1 y (List.mem_of_getElem? hy);rw[hyd];obtain ⟨ky,vy⟩:=y;obtain ⟨kn,hkn⟩:=Int.eq_ofNat_of_zero_le hy0;simp only at hkn hy1;subst hkn;change aI _ _ _ _ _ ⟨upd w.sl 111 (.t (.tup [.bool true,i64 ((kn:Nat):Int),i64 vy])),hset w.hp (110,ii) (itO (36,mi) (i:Nat) (fs.set i true))⟩;have A1:=aM r3 (itO (36,mi) (i:Nat) (fs.set i true));have E1:=Yt A1 (aD v1 (id:=(110,ii)) (.inl (by simp)) _) (by simp[r1]) hy;rw[lD]at E1;have B2:=aM r3 (itO (36,mi) (-1) (fs.set i true));have B3:=aD r4 (id:=(110,ii)) (.inl (by simp)) (itO (36,mi) (-1) (fs.set i true));have B4:Same U (hset w.hp (110,ii) (itO (36,mi) (-1) (fs.set i true))) []:=fun id o _ ho=>Same.set w.hp (110,ii) _ id o (fun e=>by rw[List.mem_singleton]at e;rw[e]at ho;exact f2 o ho) (r5 id o (by simp) ho)
     generalize hset w.hp (110,ii) (itO (36,mi) (-1) (fs.set i true))=HB at *;generalize hset w.hp (110,ii) (itO (36,mi) (i:Nat) (fs.set i true))=HA at *;have hkn:kn < ak+n+1:=by omega
     have hrk:=r6 kn hkn;have hv:=HZ fs kv2 i kn r1 hfi;rw[hyd]at hv;simp only[Int.toNat_natCast,if_true]at hv;have hv2:=yQ (fs.set i true) kv2 kn;have hv3:=p4.2;have wv:IntKind.i64.wrap (row.getD kn 0+vy)=row.getD kn 0+vy:=wrap_i64 (by omega) (by omega);have hrg:row[kn]?=some (row.getD kn 0):=by rw[List.getD_eq_getElem?_getD,List.getElem?_eq_getElem (by omega)];rfl
     unfold intsO at B3;rw[r2]at B3;have hkl:kn < row.length:=by omega
     have hfl:=Js fs i hfi;have hjs:∀j,j < ak+n+1->(row.set kn (row.getD kn 0+vy)).getD j 0=oP (fs.set i true) kv2 j:=fun j hj=>by
      have e:=HZ fs kv2 i j r1 hfi;rw[hyd]at e;simp only[Int.toNat_natCast]at e;rw[e,<- r6 j hj]
      by_cases ej:kn=j
      ·subst ej
       rw[if_pos rfl,List.getD_eq_getElem?_getD,List.getElem?_set_self (by omega)];rfl
      ·rw[if_neg ej,Int.add_zero,List.getD_eq_getElem?_getD,List.getElem?_set_ne ej,<- List.getD_eq_getElem?_getD]
     clear v1 A1 i1 i2 i3 hv hv2 hv3 r6 r3 r4 r5 hrk;generalize row.getD kn 0=a at *
     repeat' (first|refine sX ?_ ?_<;>intro h|simp only[go_sem, *,hnn,jZ,oq,ou,iZ,qW,qX,ni,l8,l9,qY,bL,dF,dP,fC,jI,jJ,aV])
     rw[if_pos (by omega)]
     repeat' (first|refine sX ?_ ?_<;>intro h|simp only[go_sem, *,hnn,jZ,oq,ou,iZ,qW,qX,ni,l8,l9,qY,bL,dF,dP,fC,jI,jJ,aV])
     rw[show hset HB (105,ri) ⟨((ints (row.set kn (a+vy))).map .t),1,ak+n+1,2,false,true⟩=hset HB (105,ri) (intsO (row.set kn (a+vy))) from congrArg _ (Yu (l:=row.set kn (a+vy)) (W:=ak+n+1) (by rw[List.length_set,r2]))];refine hH (z8 (fs.set i true)) _ hfl ?_;refine ⟨fs.set i true,row.set kn (a+vy),rfl,by rw[List.length_set,r1],by rw[List.length_set,r2],aD B2 (id:=(105,ri)) (.inl (by simp)) _,aM B3 _,fun id o _ ho=>Same.set HB (105,ri) _ id o (fun e=>by rw[List.mem_singleton]at e;rw[e]at ho;exact f1 o ho) (B4 id o (by simp) ho),hjs⟩
 ·have c0:=hfr 0 (by kernel_rfl)
  clear hfr;simp only[go_sem]at c0;obtain ⟨rows',rhs',R2,b2,hS,hK,hE⟩:=hJ;rw[List.length_range]at hE
  repeat' (first|refine sX ?_ ?_<;>intro h|simp only[go_sem, *])
  exact ⟨rows',rhs',R2,b2,hS,hE⟩
def oD (z:Nat):Obj:=⟨[.ad (15,z) 1 0],1,1,274,false,true⟩
theorem VN {h:Hp}{z p V L C:Nat}{f:Flow}{t:Trans}{fr:Nat} (ahF:hget h (2,p)=some (oD z)) (hV:f.vars=(V:Nat)) (hV8:V<=8) (hL:L<=16) (hfr:t.from_=(fr:Nat)) (hfl:fr < L) (hC:2*(L*(V+1))<=C) :
  MH h z 265 [.ad (2,p) 1 0,.ro t.tr.cells] f C V 2 (fun y i=>Fq V y t.from_.toNat i) 0:=by
 intro h' qi mi i rows rhs R b hk hS hQ hM hi;have hb:=hk _ _ (by simp) (by simp) (by simp) ahF;have pl:=acC hS hQ hM rfl rfl hV hV8 hfl (j:=i) hi hL (x:=1) (m:=1) (KvB.nil C) hC (by omega) (by omega);unfold oD at hb;refine dI orders Tryz.func265 rfl (by kernel_rfl) bf (by kernel_rfl) rfl (fun hs hlen=>?_);clear hs hlen
 repeat' (first|refine sX ?_ ?_<;>intro h|simp only[go_sem, *])
 refine iH pl fun v h'' hq=>?_
 obtain ⟨kv,rfl,k1,k2⟩:=hq;have q1:=aM hM (kvO kv);have q2:=aD hQ (id:=(36,mi)) (.inl (by simp)) (kvO kv);have q3:=Same.set h' (36,mi) (kvO kv);generalize hset h' (36,mi) (kvO kv)=h'' at *;clear hS hQ hM hb pl;have q4:∀y,eT y kv=Fq V y fr i:=fun y=>by rw[k2 y,show eT y []=0 from rfl,show ((1:Int):Rat)=1 from rfl];grind
 have q5:hget h'' (38,qi)=some (mF (36,mi) (if i=V then 0 else 0)):=by rw[q2,ite_self]
 have q6:Same h' h'' [(36,mi),(38,qi)]:=q3.mono (by simp);have q7:∃kv,hget h'' (36,mi)=some (kvO kv)/\hget h'' (38,qi)=some (mF (36,mi) (if i=V then 0 else 0))/\Same h' h'' [(36,mi),(38,qi)]/\KvB kv C 2/\∀y,eT y kv=Fq V y fr i:=⟨kv,q1,q5,q6,k1,q4⟩
 clear q1 q2 q3 q4 q5 q6 k1 k2;generalize hX:(∃kv,hget h'' (36,mi)=some (kvO kv)/\hget h'' (38,qi)=some (mF (36,mi) (if i=V then 0 else 0))/\Same h' h'' [(36,mi),(38,qi)]/\KvB kv C 2/\∀y,eT y kv=Fq V y fr i)=X at *
 repeat' (first|refine sX ?_ ?_<;>intro h|simp only[go_sem, *])
theorem TR (g:FuncId) (i:Id) (n o:Nat) (l:List PV):C9 g (.ad i n o::l)=.fn g (.ad i n o::l):=rfl
theorem jq.new {h:Hp}{sid:Id}{f:Flow}{ak:Nat}{rows rhs:PV}{R:List (List Int)}{b:List Int} (x:jq h sid f ak rows rhs R b) (c:Nat) (o:Obj):jq (hnew h c o) sid f ak rows rhs R b:=x.same (Same.new h c o) (fun id hid=>by simp at hid)
theorem mW.new (h:Hp) (c:Nat) (o:Obj):mW h (hnew h c o):=fun _ _ _ _ _ ho=>aA ho o
theorem TS {h:Hp}{z V ak p:Nat}{f:Flow}{rows rhs:PV}{t:Trans} (hV:f.vars=(V:Nat)) (hp:hnext h 2=(2,p)) (ho:hget h (15,z)=some (eY f ak rows rhs)) {X:Hp->Prop}
  (him:dM Tryz.prog 262 [.ad (15,z) 1 0,.t t.tr,.t (i64 (V:Nat)),.fn 265 [.ad (2,p) 1 0,.ro t.tr.cells]] (hnew h 2 (oD z)) (fun _ h'=>X h')) :
  dM Tryz.prog 243 [.ad (15,z) 1 0,.t t.tr] h (fun _ h'=>X h'):=by
 have hb1:hget (hnew h 2 (oD z)) (2,p)=some (oD z):=by rw[<- hp];exact aJ _ _
 have ho2:=aA ho (s:=2) (oD z);unfold eY at ho2;unfold oD at him hb1 ho2;clear ho;refine dI orders Tryz.func243 rfl (by kernel_rfl) (fun d=>d==2) (by kernel_rfl) rfl (fun hs hlen=>?_);clear hs hlen
 repeat' (first|refine sX ?_ ?_<;>intro h|simp only[go_sem, *,TR])
 refine iH him fun v h' hq=>?_
 clear him hb1 ho2
 repeat' (first|refine sX ?_ ?_<;>intro h|simp only[go_sem, *])
theorem aaS {h:Hp}{z V L ak:Nat}{f:Flow}{rows rhs:PV}{R:List (List Int)}{b:List Int} (hS:jq h (15,z) f ak rows rhs R b) {t:Trans}{fr:Nat} (hV:f.vars=(V:Nat)) (hV8:V<=8) (hL:L<=16) (hfr:t.from_=(fr:Nat)) (hfl:fr < L) (hC:2*(L*(V+1))<=ak)
  (hn:t.guard.length<=16) (ug:ak<=100000) (hR:R.length<=1000) (hrb:b.length=R.length) (hg:∀r∈t.guard,aU r.const=true/\∀c∈r.av,aU c=true) :
  dM Tryz.prog 243 [.ad (15,z) 1 0,.t t.tr] h (fun _ h'=>∃rows' rhs' R2 b2,jq h' (15,z) f (ak+t.guard.length+1) rows' rhs' (R++R2) (b++b2)/\mW h h'/\sw ak t.guard.length V 2 t.guard (fun y i=>Fq V y t.from_.toNat i) 0 R2 b2 (V+1)):=by
 obtain ⟨p,hp⟩:∃p,hnext h 2=(2,p):=⟨_,rfl⟩
 have hb1:hget (hnew h 2 (oD z)) (2,p)=some (oD z):=by rw[<- hp];exact aJ _ _
 refine TS hV hp hS.obj (X:=fun h'=>∃rows' rhs' R2 b2,jq h' (15,z) f (ak+t.guard.length+1) rows' rhs' (R++R2) (b++b2)/\mW h h'/\sw ak t.guard.length V 2 t.guard (fun y i=>Fq V y t.from_.toNat i) 0 R2 b2 (V+1)) ?_;exact (TQ (hS.new 2 (oD z)) t (VN (C:=ak+t.guard.length+1) (t:=t) (L:=L) hb1 hV hV8 hL hfr hfl (by omega)) hn ug (by omega) (by omega) hR hrb hg).mono fun v h' ⟨rows',rhs',R2,b2,e1,e2,e3⟩=>⟨rows',rhs',R2,b2,e1,(mW.new h 2 _).trans e2,e3⟩
def mg:List Rat ⊕ List Rat->Tr
 |.inl y=>.tup [.sl true (y.map aH),.sl false [],.bool true]
 |.inr u=>.tup [.sl false [],.sl true (u.map aH),.bool false]
theorem MI {m:List (List Rat)}{rhs:List Rat}:∀(k:Nat) (T T':Tab),lC m rhs T->vE (k+1) T=some T'->lC m rhs T'/\d9 T'=none
 |0,T,T',hG,h=>by
  cases he:d9 T with
  |none=>rw[Eu h he];exact ⟨hG,he⟩
  |some q =>
   obtain ⟨p,x,_,_,_,_,hs,_⟩:=hG.next he;have:=Ev h he hs;simp[vE]at this
 |k+1,T,T',hG,h=>by
  cases he:d9 T with
  |none=>rw[Eu h he];exact ⟨hG,he⟩
  |some q =>
   obtain ⟨p,x,_,_,_,_,hs,hG'⟩:=hG.next he;exact MI k _ T' hG' (Ev h he hs)
theorem BQ {n c:Nat} (hn:1<=n) (hc:1<=c):n*c<=kU n c:=by
 refine Nat.le_trans ?_ (Xb n c);obtain ⟨k,rfl⟩:∃k,n=k+1:=⟨n-1,by omega⟩
 rw[Nat.pow_succ];refine Nat.le_mul_of_pos_left _ (Nat.pow_pos (Nat.mul_pos (by omega) (by omega)))
set_option maxHeartbeats 4000000 in
theorem CZ {m:List (List Rat)}{rhs:List Rat} (b:Bool) {C c:Nat} (hC:∀r∈m,r.length=C) (hr:rhs.length=m.length) (hn1:1<=m.length) (hn:m.length<=1000000) (hCn:C<=1000000) (hI:wU m rhs c) (hN:Fit (kU m.length c)) :
  ∃ans,jh m rhs ans/\qg ans (kU m.length c)/\(m.length<=5->qg ans (840*c ^ 5))/\aB Tryz.prog 66 [wX b m,.sl true (rhs.map aH)] (mg ans):=by
 obtain ⟨k0,TE,hrun⟩:=(BH (m:=m) (rhs:=rhs)).ends;obtain ⟨hGE,hEE⟩:=MI k0 _ TE BH hrun;obtain ⟨a1,a2,a3⟩:=hGE.answer hI hEE;refine ⟨_,a1,a2,a3,?_⟩;clear a1 a2 a3;have hhd:(m.headD []).length=C:=by
  cases m with
  |nil=>simp at hn1
  |cons r m'=>exact hC r (by simp)
 have hb:=aaL b hC hr hn1 hn hCn hI hN (BQ hn1 hI.one);obtain ⟨W,hW⟩:∃W,C+m.length+1=W:=⟨_,rfl⟩
 rw[hW]at hb;refine au orders Tryz.func66 rfl (by kernel_rfl) (fun d=>d==17||d==20||d==24||d==30||d==32||d==52||d==58||d==61||d==79||d==91||d==96||d==102||d==104||d==105||d==106||d==107||d==108||d==109||d==110||d==114||d==118||d==123||d==125||d==127||d==130) (by kernel_rfl) rfl (fun hs=>?_);clear hs
 repeat' (first|refine sX ?_ ?_<;>intro h|simp only[go_sem, *])
 refine iH hb (fun v h' hQ=>?_);obtain ⟨rfl,hT,hfl⟩:=hQ
 repeat' (first|refine sX ?_ ?_<;>intro h|simp only[go_sem, *])
 refine jD (fun k s'=>∃T,yP s'.hp T m.length W/\lC m rhs T/\vE (k+1) T=some TE/\hget s'.hp (31,0)=some ⟨rhs.map (fun x=>.t (.bool (gI x))),1,m.length,tBl,false,true⟩) k0 ⟨_,hT,BH,hrun,hfl⟩ ?_
 rintro k s' ⟨T,hT,hG0,hr0,hfl⟩ hfr G hG
 have c0:=hfr 0 (by kernel_rfl);have c1:=hfr 1 (by kernel_rfl);have c7:=hfr 7 (by kernel_rfl);have c8:=hfr 8 (by kernel_rfl);clear hfr;simp only[go_sem]at c0 c1 c7 c8;have hW2:(m.headD []).length+m.length+1=W:=by rw[hhd];exact hW
 have Ju:=hG0.ok;rw[hW2]at Ju;have hcT:T.ak=C:=by rw[hG0.ak,hhd]
 have hE:=aaE hT Ju (by omega);cases he:d9 T with
 |some q =>
  obtain ⟨p,x,hl,hp,hq,hpos,hst,hG1⟩:=hG0.next he;have hr1:=Ev hr0 he hst;obtain ⟨k1,rfl⟩:∃k1,k=k1+1:=by
   cases k with
   |zero=>simp[vE]at hr1
   |succ k1=>exact ⟨k1,rfl⟩
  have hEi:zS T=(q:Int):=by unfold zS;rw[he]
  rw[hEi]at hE;have gq:decide ((q:Int) < 0)=false:=decide_eq_false (by omega);have hqW:q < W:=by rw[hhd]at hq;omega
  have hpos':0 < (T.row p).getD q 0:=hpos;clear hEi hst hpos
  repeat' (first|refine sX ?_ ?_<;>intro h|simp only[go_sem, *])
  refine iH hE (fun v h' hQ=>?_);obtain ⟨rfl,rfl⟩:=hQ
  repeat' (first|refine sX ?_ ?_<;>intro h|simp only[go_sem, *])
  refine iH (aaG hT Ju hN (by omega) (hG0.Xc hI) hqW hl) (fun v h' hQ=>?_);obtain ⟨rfl,hT2,hs2⟩:=hQ;have hf2:=hs2 _ _ (by simp) hfl
  repeat' (first|refine sX ?_ ?_<;>intro h|simp only[go_sem, *])
  refine iH (aaK hT2 Ju hN (by omega) (hG0.Xc hI) (hG0.TK hI) hp hqW hpos') (fun v h'' hQ=>?_);obtain ⟨hT3,hk3⟩:=hQ;have hf3:=hk3 _ _ rfl rfl rfl hf2
  repeat' (first|refine sX ?_ ?_<;>intro h|simp only[go_sem, *])
  exact hG k1 _ (by omega) ⟨_,hT3,hG1,hr1,hf3⟩
 |none =>
  have hEq:=Eu hr0 he;subst hEq;have hEi:zS TE=-1:=by unfold zS;rw[he]
  rw[hEi]at hE;have gq:decide ((-1:Int) < 0)=true:=rfl;obtain ⟨t1,t2,t3,t4,t5⟩:=hT
  repeat' (first|refine sX ?_ ?_<;>intro h|simp only[go_sem, *])
  refine iH hE (fun v h' hQ=>?_);obtain ⟨rfl,rfl⟩:=hQ;replace c0:s'.sl 0=.t (.sl true (m.map fun r=>.sl b (r.map aH))):=c0;have hcw:=Ju.cw;have hwr:IntKind.i64.wrap ((W:Int)-1)=((W-1:Nat):Int):=by rw[wrap_i64 (by omega) (by omega)];omega
  have hwl:W-1 < W:=by omega
  have hlq:TE.cost[W-1]?=some (TE.cost.getD (W-1) 0):=by rw[List.getD_eq_getElem?_getD,List.getElem?_eq_getElem (by omega)];rfl
  have hld:=l6 hlq;have hcl:=l7 TE.cost;rw[hcw]at hcl;have hw6:(W-1)*6+6<=W*6:=by omega
  have sg:=qK (TE.cost.getD (W-1) 0);have ug:TE.ak=C:=hcT;rw[ug]at t1;have w0:=nH 0 (by unfold jM;omega);rw[rc0]at w0;clear hT hb hrun hr0 hG0 hhd
  by_cases hz:TE.cost.getD (W-1) 0=0
  ·have Gg:nL TE rhs m.length=.inl (iL C (W-1) TE.rows TE.basis (List.replicate C 0)):=by
    unfold nL;rw[hcw,if_pos hz,ug]
   rw[Gg];rw[sign_zero hz]at sg;have gz:((0:Int)==0)=true:=rfl;clear Gg;generalize TE.cost.getD (W-1) 0=cq at *;subst hz
   repeat' (first|refine sX ?_ ?_<;>intro h|refine aj (sg) rfl ?_|simp only[go_sem, *,beq_self_eq_true])
   with_reducible refine dS ?_ ?_
   ·exact ⟨by omega,by omega⟩
   repeat' (first|refine sX ?_ ?_<;>intro h|simp only[go_sem, *,beq_self_eq_true])
   generalize s'.hp=h0 at *;have alJ:∀id o,hget h0 id=some o->(id==hnext h0 52)=false:=fun id o ho=>by
    have:=iE (s:=52) ho;rw[beq_eq_false_iff_ne]at this ⊢;exact fun e=>this e.symm
   refine aC (List.range (C)) (fun k s'=>∃cur:List Tr,hget s'.hp (hnext h0 52)=some ⟨(flat cur).map .t,6,C,dW,true,true⟩/\cur.length=C/\(∀z∈cur,dh true 6 z)/\cur.take k=List.replicate k (aH 0)/\Same h0 s'.hp []) rfl (by rw[List.length_range];rfl) (by rw[List.length_range];first|assumption|omega) (by kernel_rfl) (fun _ _ _ _ hj=>hj) (fun _ _ _ hj=>hj) ?_ (fun j y u hy hyd hj hJ hjx hfr H hH=>?_) (fun u hJ hfr=>?_)
   ·refine ⟨List.replicate C (.agg qz),?_,by simp,fun z hz=>by rw[(List.mem_replicate.1 hz).2];exact ⟨fun _=>rfl,(fun h=>nomatch h),rfl⟩,rfl,Same.new _ _ _⟩
    rw[<- jC];exact aJ _ _
   ·have e7:=hfr 7 (by kernel_rfl)
    have e10:=hfr 10 (by kernel_rfl);have e11:=hfr 11 (by kernel_rfl);clear hfr;simp only[go_sem,c7]at e7 e10 e11;obtain ⟨cur,g,jc,hok,htk,hsm⟩:=hJ;rw[List.length_range]at hj;have hyj:y=j:=by rw[List.getElem?_range hj]at hy;injection hy with hy;exact hy.symm
    subst hyj;clear hy hyd;obtain ⟨z,hz,_⟩:=aF cur y (by omega);have he6:∀z∈cur,z.cells.length=6:=fun z hz=>(hok z hz).2.2
    have vB:splice (List.map PV.t (flat cur)) (y*6) ((dA 0).map PV.t)=List.map PV.t (flat (cur.set y (aH 0))):=fD he6 (x:=z) (y:=aH 0) hz (aQ _);have Xj:(flat cur).length=C*6:=by rw[bJ _ 6 he6,jc]
    have hy6:y*6+6<=C*6:=by omega
    have hq0:(dA 0).length=6:=aQ _
    repeat' (first|refine sX ?_ ?_<;>intro h|refine aj (w0) rfl ?_|simp only[go_sem, *,beq_self_eq_true])
    refine hH _ ⟨cur.set y (aH 0),?_,by simp[jc],?_,?_,?_⟩
    ·exact aM g _
    ·intro w hw
     rcases List.mem_or_eq_of_mem_set hw with hw|rfl
     ·exact hok w hw
     ·exact vo _
    ·rw[aP _ _ _ (by omega),htk,List.replicate_succ']
    ·exact nP hsm _
   ·have e7:=hfr 7 (by kernel_rfl)
    have e10:=hfr 10 (by kernel_rfl);have e11:=hfr 11 (by kernel_rfl);clear hfr;simp only[go_sem,c7]at e7 e10 e11;obtain ⟨cur,g,jc,hok,htk,hsm⟩:=hJ;rw[List.length_range,List.take_of_length_le (by omega)]at htk;have g:hget u.hp (hnext h0 52)=some ⟨dY (List.replicate C 0),6,C,dW,true,true⟩:=by
     rw[g,htk];unfold dY;rw[List.map_replicate]
    have u1:=hsm _ _ (by simp) t1;have u3:=hsm _ _ (by simp) t3;clear hok jc htk;have hrn:=Ju.rn;have hbn:=Ju.bn;have hrw:=Ju.rw';clear hG hE;rename_i hjj alK
    repeat' (first|refine sX ?_ ?_<;>intro h|simp only[go_sem, *,beq_self_eq_true])
    refine aC (List.range (m.length)) (fun k s'=>∃cur:List Rat,hget s'.hp (hnext h0 52)=some ⟨dY cur,6,C,dW,true,true⟩/\cur.length=C/\iL C (W-1) (TE.rows.drop k) (TE.basis.drop k) cur=iL C (W-1) TE.rows TE.basis (List.replicate C 0)/\Same h0 s'.hp []) rfl (by rw[List.length_range];rfl) (by rw[List.length_range];first|assumption|omega) (by kernel_rfl) (fun _ _ _ _ hj=>hj) (fun _ _ _ hj=>hj) ?_ (fun j y u hy hyd hj hJ hjx hfr H hH=>?_) (fun u hJ hfr=>?_)
    ·exact ⟨_,g,by simp,rfl,hsm⟩
    ·skip
     have e7:=hfr 7 (by kernel_rfl);have e10:=hfr 10 (by kernel_rfl);have e11:=hfr 11 (by kernel_rfl);have e66:=hfr 66 (by kernel_rfl);clear hfr;simp only[go_sem,c7]at e7 e10 e11 e66;obtain ⟨cur,g,jc,hJ,hsm⟩:=hJ;rw[List.length_range]at hj;have hyj:y=j:=by rw[List.getElem?_range hj]at hy;injection hy with hy;exact hy.symm
     subst hyj;clear hy hyd u1 u3;have u1:=hsm _ _ (by simp) t1;have u3:=hsm _ _ (by simp) t3;have u4:=hsm _ _ (by simp) t4;obtain ⟨r,hr1,hrd⟩:=aF TE.rows y (by omega);obtain ⟨bv,hb1,hbd⟩:=aF TE.basis y (by omega);have hbD:TE.basis.getD y 0=bv:=by rw[List.getD_eq_getElem?_getD,hb1];rfl
     have hbg:=Ew (l:=TE.basis) (k:=y) (by omega);rw[hbD]at hbg;have u5:=hsm _ _ (by simp) (t5 y r hr1);have hrl:=hrw r (List.mem_of_getElem? hr1);have hrg:=zT (n:=m.length) (f:=fun i=>.rf (81,i) W) hj;have hlr:r[W-1]?=some (r.getD (W-1) 0):=by rw[List.getD_eq_getElem?_getD,List.getElem?_eq_getElem (by omega)];rfl
     have alL:=l6 hlr;have ahG:=l7 r;rw[hrl]at ahG;rw[hrd,hbd,iL]at hJ;have hcc:=l7 cur;rw[jc]at hcc
     by_cases hbc:bv < C
     ·have gb:decide ((bv:Int) < (C:Int))=true:=decide_eq_true (by omega)
      rw[if_pos hbc]at hJ;have hst:=zQ (l:=cur) (k:=bv) (q:=r.getD (W-1) 0) (by omega);have hb6:bv*6+6<=C*6:=by omega
      have hq6:(dA (r.getD (W-1) 0)).length=6:=aQ _;generalize r.getD (W-1) 0=q at *
      repeat' (first|refine sX ?_ ?_<;>intro h|simp only[go_sem, *,beq_self_eq_true])
      refine hH _ ⟨cur.set bv q,?_,by simp[jc],hJ,?_⟩
      ·exact aM g _
      ·exact nP hsm _
     ·have gb:decide ((bv:Int) < (C:Int))=false:=decide_eq_false (by omega)
      rw[if_neg hbc]at hJ
      repeat' (first|refine sX ?_ ?_<;>intro h|simp only[go_sem, *,beq_self_eq_true])
      exact hH _ ⟨cur,g,jc,hJ,hsm⟩
    ·skip
     have e7:=hfr 7 (by kernel_rfl);have e10:=hfr 10 (by kernel_rfl);have e11:=hfr 11 (by kernel_rfl);clear hfr;simp only[go_sem,c7]at e7 e10 e11;obtain ⟨cur,g,jc,hJ,hsm⟩:=hJ;rw[List.length_range,List.drop_of_length_le (by omega)]at hJ;have hJ2:cur=iL C (W-1) TE.rows TE.basis (List.replicate C 0):=by
      rw[<- hJ];cases TE.basis.drop m.length<;>rfl
     rw[<- hJ2];have dN:aS u.hp dep (.rf (hnext h0 52) C)=some (.sl true (cur.map aH)):=iX 5 (qR _) (by simp[jc]) g;unfold mg
     repeat' (first|refine sX ?_ ?_<;>intro h|simp only[go_sem, *])
  ·have Gg:nL TE rhs m.length=.inr (qM C TE rhs m.length):=by
    unfold nL;rw[hcw,if_neg hz,ug]
   rw[Gg];have gz:((TE.cost.getD (W-1) 0).num.sign==0)=false:=by
    have:(TE.cost.getD (W-1) 0).num≠0:=fun h=>hz (Rat.num_eq_zero.1 h)
    rw[beq_eq_false_iff_ne];exact fun hh=>this (Int.sign_eq_zero_iff_zero.1 hh)
   clear Gg hz;generalize TE.cost.getD (W-1) 0=cq at *
   repeat' (first|refine sX ?_ ?_<;>intro h|refine aj (sg) rfl ?_|simp only[go_sem, *,beq_self_eq_true])
   with_reducible refine dS ?_ ?_
   ·exact ⟨by omega,by omega⟩
   have ahH:=hGE.TK hI;have h1f:gH 1:=((FB.int 1).mono (d':=kU m.length c) (n':=kU m.length c) hN.1 hN.1).q1 hN;have wo:=nH 1 (by unfold jM;omega);rw[rc1]at wo;clear hG hE;generalize s'.hp=h0 at *
   repeat' (first|refine sX ?_ ?_<;>intro h|simp only[go_sem, *,beq_self_eq_true])
   refine aC (List.range (m.length)) (fun k s'=>∃cur:List Tr,hget s'.hp (hnext h0 96)=some ⟨(flat cur).map .t,6,m.length,dW,true,true⟩/\cur.length=m.length/\(∀z∈cur,dh true 6 z)/\cur.take k=((qM C TE rhs m.length).take k).map aH/\Same h0 s'.hp []) rfl (by rw[List.length_range];rfl) (by rw[List.length_range];first|assumption|omega) (by kernel_rfl) (fun _ _ _ _ hj=>hj) (fun _ _ _ hj=>hj) ?_ (fun j y u hy hyd hj hJ hjx hfr H hH=>?_) (fun u hJ hfr=>?_)
   ·refine ⟨List.replicate m.length (.agg qz),?_,by simp,fun z hz=>by rw[(List.mem_replicate.1 hz).2];exact ⟨fun _=>rfl,(fun h=>nomatch h),rfl⟩,rfl,Same.new _ _ _⟩
    rw[<- jC];exact aJ _ _
   ·have e7:=hfr 7 (by kernel_rfl)
    have e8:=hfr 8 (by kernel_rfl);have e15:=hfr 15 (by kernel_rfl);clear hfr;simp only[go_sem,c7,c8]at e7 e8 e15;obtain ⟨cur,g,jc,hok,htk,hsm⟩:=hJ;rw[List.length_range]at hj;have hyj:y=j:=by rw[List.getElem?_range hj]at hy;injection hy with hy;exact hy.symm
    subst hyj;clear hy hyd;obtain ⟨z,hz,_⟩:=aF cur y (by omega);obtain ⟨v,hv,_⟩:=aF rhs y (by omega);have he6:∀z∈cur,z.cells.length=6:=fun z hz=>(hok z hz).2.2
    have vB:∀q:Rat,splice (List.map PV.t (flat cur)) (y*6) ((dA q).map PV.t)=List.map PV.t (flat (cur.set y (aH q))):=fun q=>fD he6 (x:=z) (y:=aH q) hz (aQ _)
    have Xj:(flat cur).length=m.length*6:=by rw[bJ _ 6 he6,jc]
    have hy6:y*6+6<=m.length*6:=by omega
    have hq6:∀q:Rat,(dA q).length=6:=fun q=>aQ _
    have u1:=hsm _ _ (by simp) t1;have u2:=hsm _ _ (by simp) t2;have uf:=hsm _ _ (by simp) hfl;have pf:=fun o=>aD uf (.inr (iE (s:=96) hfl)) o
    have hcy:TE.cost[C+y]?=some (TE.cost.getD (C+y) 0):=by rw[List.getD_eq_getElem?_getD,List.getElem?_eq_getElem (by omega)];rfl
    have alM:=l6 hcy;have hcf:=(ahH _ (List.mem_of_getElem? hcy)).q1 hN;have w2:=wK (TE.cost.getD (C+y) 0) 1 hcf h1f;have wn:=FD (TE.cost.getD (C+y) 0-1);have alN:(C+y)*6+6<=W*6:=by omega
    have alO:C+y < W:=by omega
    have hwy:IntKind.i64.wrap ((C:Int)+(y:Int))=((C+y:Nat):Int):=by rw[wrap_i64 (by omega) (by omega)];rfl
    have hfg:(rhs.map (fun x=>PV.t (.bool (gI x))))[y]?=some (.t (.bool (gI v))):=by rw[List.getElem?_map,hv];rfl
    have hM:(qM C TE rhs m.length)[y]?=some (kE (gI v) (TE.cost.getD (C+y) 0-1)):=by
     have:rhs.getD y 0=v:=by rw[List.getD_eq_getElem?_getD,hv];rfl
     unfold qM;rw[List.getElem?_map,List.getElem?_range hj,<- this];rfl
    have yR:∀q,kE (gI v) (TE.cost.getD (C+y) 0-1)=q->(cur.set y (aH q)).take (y+1)=((qM C TE rhs m.length).take (y+1)).map aH:=fun q hq=>by
     rw[aP _ _ _ (by omega),htk,List.take_add_one,List.map_append,hM,hq];rfl
    have hok2:∀q:Rat,∀w∈cur.set y (aH q),dh true 6 w:=fun q w hw=>by
     rcases List.mem_or_eq_of_mem_set hw with hw|rfl
     ·exact hok w hw
     ·exact vo _
    generalize TE.cost.getD (C+y) 0-1=q at *;cases hfv:gI v with
    |false =>
     rw[hfv]at hfg yR;have qV:=yR q rfl
     repeat' (first|refine sX ?_ ?_<;>intro h|refine aj (wo) rfl ?_|refine aj (w2) rfl ?_|simp only[go_sem, *,beq_self_eq_true,fZ])
     refine hH _ ⟨cur.set y (aH q),?_,by simp[jc],hok2 q,qV,?_⟩
     ·exact aM g _
     ·exact nP hsm _
    |true =>
     rw[hfv]at hfg yR;have qV:=yR (-q) rfl;have he7:∀z∈cur.set y (aH q),z.cells.length=6:=fun z hz=>(hok2 q z hz).2.2
     have hgy:(cur.set y (aH q))[y]?=some (aH q):=List.getElem?_set_self (by omega);have hgl:List.take 6 (List.drop (y*6) (List.map PV.t (flat (cur.set y (.agg (dA q))))))=(dA q).map PV.t:=o7 he7 hgy;have hsp2:splice (List.map PV.t (flat (cur.set y (.agg (dA q))))) (y*6) ((dA (-q)).map PV.t)=List.map PV.t (flat (cur.set y (.agg (dA (-q))))):=by
      have:=fD he7 (x:=aH q) (y:=aH (-q)) hgy (aQ _);rw[List.set_set]at this;exact this
     have alP:(flat (cur.set y (.agg (dA q)))).length=m.length*6:=by
      have:=bJ _ 6 he7;rw[List.length_set,jc]at this;exact this
     repeat' (first|refine sX ?_ ?_<;>intro h|refine aj (wo) rfl ?_|refine aj (w2) rfl ?_|refine aj (wn) rfl ?_|simp only[go_sem, *,beq_self_eq_true,fZ])
     refine hH _ ⟨cur.set y (aH (-q)),?_,by simp[jc],hok2 (-q),qV,?_⟩
     ·exact aM (aM g _) _
     ·exact nP (nP hsm _) _
   ·skip
    have e7:=hfr 7 (by kernel_rfl);have e8:=hfr 8 (by kernel_rfl);have e15:=hfr 15 (by kernel_rfl);clear hfr;simp only[go_sem,c7,c8]at e7 e8 e15;obtain ⟨cur,g,jc,hok,htk,hsm⟩:=hJ;have hml:(qM C TE rhs m.length).length=m.length:=by simp[qM]
    rw[List.length_range,List.take_of_length_le (by omega),List.take_of_length_le (by omega)]at htk;have dN:aS u.hp dep (.rf (hnext h0 96) m.length)=some (.sl true cur):=iX 5 hok jc g;rw[htk]at dN;unfold mg
    repeat' (first|refine sX ?_ ?_<;>intro h|simp only[go_sem, *])
end ama
end Go.Vm
end
section
namespace Go.Vm
open Go Go.Proofs Go.Whole Go.bB
namespace ama
open Go.Proofs.Tryz
attribute [go_sem] Tryz.results68 Tryz.results67 Tryz.results69 Tryz.results70 Tryz.results143 Tryz.results18 Tryz.results26 Tryz.results79 Tryz.results81 Tryz.results160
theorem QS (V:Nat) (x:Int) (hV:V<=1000) (hx:jM x):aB Tryz.prog 68 [i64 (V:Nat),i64 x] (.sl true ((jo V x).map aH)):=by
 have hw1:IntKind.i64.wrap ((V:Int)+1)=((V+1:Nat):Int):=by rw[wrap_i64 (by omega) (by omega)];rfl
 have w0:=nH 0 (by unfold jM;omega);rw[rc0]at w0;have wx:=nH x hx;obtain ⟨W,hW⟩:∃W,V+1=W:=⟨_,rfl⟩
 rw[hW]at hw1;refine au orders Tryz.func68 rfl (by kernel_rfl) (fun d=>d==9) (by kernel_rfl) rfl (fun hs=>?_);clear hs
 repeat' (first|refine sX ?_ ?_<;>intro h|simp only[go_sem, *,beq_self_eq_true])
 with_reducible refine dS ?_ ?_
 ·exact ⟨by omega,by omega⟩
 repeat' (first|refine sX ?_ ?_<;>intro h|simp only[go_sem, *,beq_self_eq_true,eU,iB])
 refine aC (List.range (W)) (fun k s'=>∃cur:List Tr,hget s'.hp (9,0)=some ⟨(flat cur).map .t,6,W,dW,true,true⟩/\cur.length=W/\(∀z∈cur,dh true 6 z)/\cur.take k=List.replicate k (aH 0)) rfl (by rw[List.length_range];rfl) (by rw[List.length_range];first|assumption|omega) (by kernel_rfl) (fun _ _ _ _ hj=>hj) (fun _ _ _ hj=>hj) ?_ (fun j y u hy hyd hj hJ hjx hfr H hH=>?_) (fun u hJ hfr=>?_)
 ·refine ⟨List.replicate W (.agg qz),?_,by simp,fun z hz=>by rw[(List.mem_replicate.1 hz).2];exact ⟨fun _=>rfl,(fun h=>nomatch h),rfl⟩,rfl⟩
  rw[<- jC];rfl
 ·have e5:=hfr 5 (by kernel_rfl)
  clear hfr;simp only[go_sem]at e5;obtain ⟨cur,g,jc,hok,htk⟩:=hJ;rw[List.length_range]at hj;have hyj:y=j:=by rw[List.getElem?_range hj]at hy;injection hy with hy;exact hy.symm
  subst hyj;clear hy hyd;obtain ⟨z,hz,_⟩:=aF cur y (by omega);have he6:∀z∈cur,z.cells.length=6:=fun z hz=>(hok z hz).2.2
  have vB:splice (List.map PV.t (flat cur)) (y*6) ((dA 0).map PV.t)=List.map PV.t (flat (cur.set y (aH 0))):=fD he6 (x:=z) (y:=aH 0) hz (aQ _);have Xj:(flat cur).length=W*6:=by rw[bJ _ 6 he6,jc]
  have hy6:y*6+6<=W*6:=by omega
  have hq0:(dA 0).length=6:=aQ _;clear hw1 hW
  repeat' (first|refine sX ?_ ?_<;>intro h|refine aj (w0) rfl ?_|simp only[go_sem, *,beq_self_eq_true])
  refine hH _ ⟨cur.set y (aH 0),?_,by simp[jc],?_,?_⟩
  ·exact aM g _
  ·intro w hw
   rcases List.mem_or_eq_of_mem_set hw with hw|rfl
   ·exact hok w hw
   ·exact vo _
  ·rw[aP _ _ _ (by omega),htk,List.replicate_succ']
 ·have e0:=hfr 0 (by kernel_rfl)
  have e1:=hfr 1 (by kernel_rfl);have e5:=hfr 5 (by kernel_rfl);clear hfr;simp only[go_sem]at e0 e1 e5;obtain ⟨cur,g,jc,hok,htk⟩:=hJ;rw[List.length_range,List.take_of_length_le (by omega)]at htk;replace g:hget u.hp (9,0)=some ⟨dY (List.replicate W 0),6,W,dW,true,true⟩:=by
   rw[g,htk];unfold dY;rw[List.map_replicate]
  have hst:=zQ (l:=List.replicate W 0) (k:=V) (q:=(x:Rat)) (by simp;omega);have hcl:=l7 (List.replicate W 0);rw[List.length_replicate]at hcl;have hV6:V*6+6<=W*6:=by omega
  have hVW:V < W:=by omega
  have hq0:(dA (x:Rat)).length=6:=aQ _;have hres:(List.replicate W 0).set V (x:Rat)=jo V x:=by
   rw[<- hW];unfold jo;rw[List.replicate_succ',List.set_append_right _ _ (by simp)];simp
  have dN:aS (hset u.hp (9,0) ⟨dY ((List.replicate W 0).set V (x:Rat)),6,W,dW,true,true⟩) dep (.rf (9,0) W)=some (.sl true ((jo V x).map aH)):=by
   rw[hres];exact iX 5 (qR _) (by simp[jo];omega) (aM g _)
  clear hW hw1 htk hok jc w0 hres
  repeat' (first|refine sX ?_ ?_<;>intro h|refine aj (wx) rfl ?_|simp only[go_sem, *,beq_self_eq_true])
def tN (h:Hp) (p:PV) (l:List Rat):Prop:=(l=[]/\p=.t (.sl false []))\/(l≠[]/\∃id:Id,p=.rf id l.length/\(id.1==16)=false/\hget h id=some ⟨dY l,6,l.length,dW,true,true⟩)
theorem tN.same {h h':Hp}{p:PV}{l:List Rat} (r:tN h p l) (hs:∀id o,(id.1==16)=false->hget h id=some o->hget h' id=some o):tN h' p l:=by
 rcases r with r|⟨r1,id,r2,r3,r4⟩
 ·exact .inl r
 ·exact .inr ⟨r1,id,r2,r3,hs id _ r3 r4⟩
theorem tN.one {h:Hp}{p:PV}{l:List Rat} (r:tN h p l):p.cells=[p]/\p.one=true:=by
 rcases r with ⟨_,rfl⟩|⟨_,id,rfl,_,_⟩<;>exact ⟨rfl,rfl⟩
theorem tN.aS {h:Hp}{p:PV}{l:List Rat} (r:tN h p l) (k:Nat):aS h (k+1) p=some (.sl (!l.isEmpty) (l.map aH)):=by
 rcases r with ⟨rfl,rfl⟩|⟨r1,id,rfl,_,r4⟩
 ·rfl
 ·have:(!l.isEmpty)=true:=by cases l<;>simp_all
  rw[this];exact iX k (qR _) (by simp) r4
def EC (p:PV) (id:Id):Prop:=∃n,p=.rf id n
theorem TT {mu:Nat->Bool}{h:Hp}{d:Nat}{t:TypeId}{p:PV}{l:List Rat}{q:Rat} (r:tN h p l) (hmu:mu d=true) (hd:(d==16)=false) (hel:bg Tryz.prog t=some dW) (hl:l.length<=100000) :
  ∃p' h',aT Tryz.prog mu (some d) t p (.t (.sl true [.agg (dA q)])) h=some (p',h')/\tN h' p' (l++[q])/\(∀id o,¬EC p id->hget h id=some o->hget h' id=some o)/\(∀id o,EC p' id->hget h id=some o->EC p id):=by
 rcases r with ⟨rfl,rfl⟩|⟨r1,id,rfl,r3,r4⟩
 ·refine ⟨.rf (hnext h d) 1,hnew h d ⟨(dA q).map .t,6,1,dW,true,true⟩,?_,?_,?_,?_⟩
  ·have hz:∃z,aW Tryz.prog dW=some z/\z.length=6:=⟨qz,by kernel_rfl,rfl⟩
   obtain ⟨z,hz1,hz2⟩:=hz;have hsz:Tryz.prog.cellsOf dW=6:=by kernel_rfl
   have hby:Tryz.prog.bytesOf dW=80:=by kernel_rfl
   have hag:bR Tryz.prog dW=some true:=by kernel_rfl
   have hfl:flat [Tr.agg (dA q)]=dA q:=by simp[flat,Tr.cells]
   unfold aT;simp only[hel,hz1,iP,hfl,hsz,aQ,List.length_singleton,hby,if_true,true_and];rw[if_pos ⟨hz2,by decide⟩,if_neg (by decide),if_pos (by decide)];unfold dG;simp only[hag,hsz,hmu,if_true];rw[if_neg (by rintro ⟨h1,_⟩;cases h1)]
  ·refine .inr ⟨by simp,hnext h d,rfl,hd,?_⟩
   rw[aJ];simp[dY,flat,aH,Tr.cells]
  ·intro i o _ ho
   exact aA ho _
  ·rintro i o ⟨n,hn⟩ ho
   injection hn with hn _
   subst hn;rw[kL]at ho;cases ho
 ·have hsz:Tryz.prog.cellsOf dW=6:=by kernel_rfl
  have hcs:dY l++(flat [Tr.agg (dA q)]).map .t=dY (l++[q]):=by
   unfold dY;rw[List.map_append,kP,List.map_append];rfl
  refine ⟨.rf id (l.length+1),hset h id ⟨dY (l++[q]),6,l.length+1,dW,true,true⟩,?_,?_,?_,?_⟩
  ·rw[<- hcs]
   exact p9 (xs:=[.agg (dA q)]) (by_:=80) hel (by kernel_rfl) (by kernel_rfl) rfl (by kernel_rfl) (fun x hx=>by rw[List.mem_singleton.1 hx];exact aQ q) r4 (by simp;omega) (by simp)
  ·refine .inr ⟨by simp,id,by simp,r3,?_⟩
   rw[List.length_append,List.length_singleton];exact aM r4 _
  ·intro i o hn ho
   exact aD ho (.inl (by rw[beq_eq_false_iff_ne];intro e;subst e;exact hn ⟨_,rfl⟩)) _
  ·rintro i o ⟨n,hn⟩ ho
   injection hn with hn _
   subst hn;exact ⟨_,rfl⟩
theorem tN.keep {h h':Hp}{p:PV}{l:List Rat} (r:tN h p l) (hs:∀id o,EC p id->hget h id=some o->hget h' id=some o):tN h' p l:=by
 rcases r with r|⟨r1,id,r2,r3,r4⟩
 ·exact .inl r
 ·exact .inr ⟨r1,id,r2,r3,hs id _ ⟨_,r2⟩ r4⟩
theorem tN.get {h:Hp}{p:PV}{l:List Rat}{id:Id} (r:tN h p l) (hl:EC p id):(id.1==16)=false/\∃o,hget h id=some o:=by
 obtain ⟨n,hn⟩:=hl;rcases r with ⟨_,r⟩|⟨r1,id',r2,r3,r4⟩
 ·rw[r]at hn;cases hn
 ·rw[r2]at hn;injection hn with hn _;subst hn;exact ⟨r3,_,r4⟩
def Xl (rows:List Row) (more:List (List Rat)) (i:Nat):List Rat:=lF rows i++more.map (fun c=>c.getD i 0)
structure tO (h:Hp) (W k:Nat) (rows:List Row) (more:List (List Rat)) (cs0:List PV) (p:PV) (l:List Rat):Prop where
 m:hget h (16,0)=some ⟨cs0++p::List.replicate (W-k-1) (.t (.sl false [])),1,W,l5,false,true⟩
 len:cs0.length=k
 lt:k < W
 old:∀(i:Nat) (p':PV),cs0[i]?=some p'->tN h p' (Xl rows more i)
 cur:tN h p l
 dis:∀(i:Nat) (p':PV) (id:Id),cs0[i]?=some p'->EC p' id->¬EC p id
theorem tO.load {h:Hp}{W k:Nat}{rows:List Row}{more:List (List Rat)}{cs0:List PV}{p:PV}{l:List Rat} (c:tO h W k rows more cs0 p l):(cs0++p::List.replicate (W-k-1) (.t (.sl false [])))[k]?=some p:=by
 rw[List.getElem?_append_right (by rw[c.len];exact Nat.le_refl _),c.len,Nat.sub_self];rfl
theorem tO.aaT {h:Hp}{W k:Nat}{rows:List Row}{more:List (List Rat)}{cs0:List PV}{p:PV}{l:List Rat} (c:tO h W k rows more cs0 p l):(cs0++p::List.replicate (W-k-1) (PV.t (.sl false []))).length=W:=by
 have:=c.lt;simp[c.len];omega
theorem tO.splice {h:Hp}{W k:Nat}{rows:List Row}{more:List (List Rat)}{cs0:List PV}{p:PV}{l:List Rat} (c:tO h W k rows more cs0 p l) (p':PV):Vm.splice (cs0++p::List.replicate (W-k-1) (PV.t (.sl false []))) k [p']=cs0++p'::List.replicate (W-k-1) (PV.t (.sl false [])):=by
 have e:=ny (cs0++p::List.replicate (W-k-1) (PV.t (.sl false []))) k p' (by rw[c.aaT];exact c.lt)
 show _++[p']++_=_
 rw[List.length_singleton,e,List.set_append_right _ _ (by rw[c.len];exact Nat.le_refl _),c.len,Nat.sub_self];rfl
theorem tO.new {h:Hp}{W k:Nat}{rows:List Row}{more:List (List Rat)}{cs0:List PV}{p:PV}{l:List Rat} (c:tO h W k rows more cs0 p l) (s:Nat) (o:Obj):tO (hnew h s o) W k rows more cs0 p l :=
 ⟨aA c.m _,c.len,c.lt,fun i p' hp=>(c.old i p' hp).keep fun _ _ _ ho=>aA ho _,c.cur.keep fun _ _ _ ho=>aA ho _,c.dis⟩
theorem tO.append {mu:Nat->Bool}{h:Hp}{d W k:Nat}{t:TypeId}{rows:List Row}{more:List (List Rat)}{cs0:List PV}{p:PV}{l:List Rat} (c:tO h W k rows more cs0 p l) (q:Rat) (hmu:mu d=true) (hd:(d==16)=false) (hel:bg Tryz.prog t=some dW) (hl:l.length<=100000) :
  ∃p' h',aT Tryz.prog mu (some d) t p (.t (.sl true [.agg (dA q)])) h=some (p',h')/\p'.cells=[p']/\p'.one=true/\hget h' (16,0)=some ⟨cs0++p::List.replicate (W-k-1) (.t (.sl false [])),1,W,l5,false,true⟩ /\
   tO (hset h' (16,0) ⟨cs0++p'::List.replicate (W-k-1) (.t (.sl false [])),1,W,l5,false,true⟩) W k rows more cs0 p' (l++[q]):=by
 obtain ⟨p',h',e1,e2,e3,e4⟩:=TT (q:=q) c.cur hmu hd hel hl;have e16:hget h' (16,0)=some ⟨cs0++p::List.replicate (W-k-1) (.t (.sl false [])),1,W,l5,false,true⟩:=by
  refine e3 _ _ (fun hl=>?_) c.m;have:=(c.cur.get hl).1;simp at this
 have hne:∀id:Id,(id.1==16)=false->(id==(16,0))=false:=fun id hi=>by
  rw[beq_eq_false_iff_ne]at hi ⊢;intro e;subst e;exact hi rfl
 refine ⟨p',h',e1,e2.one.1,e2.one.2,e16,aM e16 _,c.len,c.lt,fun i p0 hp=>?_,?_,fun i p0 id hp hl hl'=>?_⟩
 ·refine (c.old i p0 hp).keep fun id o hld ho=>?_
  exact aD (e3 id o (c.dis i p0 id hp hld) ho) (.inl (hne id ((c.old i p0 hp).get hld).1)) _
 ·exact e2.same fun id o hi ho=>aD ho (.inl (hne id hi)) _
 ·obtain ⟨_,o,ho⟩:=(c.old i p0 hp).get hl
  exact c.dis i p0 id hp hl (e4 id o hl' ho)
theorem MJ {mu:Nat->Bool}{F:Ex->St->Prop}{r:List Item}{s:St}{h:Hp}{d W k:Nat}{t:TypeId}{rows:List Row}{more:List (List Rat)}{cs0:List PV}{p:PV}{l:List Rat}{q:Rat} (c:tO h W k rows more cs0 p l) (hmu:mu d=true) (hd:(d==16)=false) (hel:bg Tryz.prog t=some dW) (hl:l.length<=100000)
  (hk:∀p' h',p'.cells=[p']->p'.one=true->hget h' (16,0)=some ⟨cs0++p::List.replicate (W-k-1) (.t (.sl false [])),1,W,l5,false,true⟩->tO (hset h' (16,0) ⟨cs0++p'::List.replicate (W-k-1) (.t (.sl false [])),1,W,l5,false,true⟩) W k rows more cs0 p' (l++[q])->aI Tryz.prog mu F r .normal ⟨upd s.sl d p',h'⟩) :
  hpK Tryz.prog mu F (aT Tryz.prog mu (some d) t p (.t (.sl true [.agg (dA q)])) h) (some d) r s:=by
 obtain ⟨p',h',e1,e2,e3,e4,e5⟩:=c.append q hmu hd hel hl;rw[e1,Cr];exact hk p' h' e2 e3 e4 e5
theorem Ib {f:PV->Option Tr}{g:Nat->Tr}:∀(cs:List PV) (off:Nat),(∀(i:Nat) (p:PV),cs[i]?=some p->f p=some (g (off+i)))->bA f cs=some ((List.range' off cs.length).map g)
 |[],off,_=>rfl
 |p::cs,off,h=>by
  have h0:=h 0 p rfl;have ih:=Ib cs (off+1) (fun i q hq=>by
   have:=h (i+1) q (by simpa using hq);rw[show off+(i+1)=off+1+i by omega]at this;exact this)
  simp only[bA,h0,ih,List.length_cons,List.range'_succ,List.map_cons,Nat.add_zero]
def MK (l:List (List Rat)):List Tr:=l.map fun c=>.sl true (c.map aH)
set_option maxHeartbeats 2000000 in
theorem Aa {V:Nat} (rnn:Bool) {rows:List Row} (hr:∀r∈rows,r.av.length=V/\jM r.const/\∀c∈r.av,jM c) (mnn:Bool) {more:List (List Rat)} (hm:∀c∈more,c.length=V+1) (hV:V<=1000) (hn:rows.length+more.length<=10000) :
  aB Tryz.prog 67 [i64 (V:Nat),.sl rnn (rows.map Row.tr),.sl mnn (MK more)] (wX (!(rows.isEmpty&&more.isEmpty)) (jX V rows more)):=by
 have hw1:IntKind.i64.wrap ((V:Int)+1)=((V+1:Nat):Int):=by rw[wrap_i64 (by omega) (by omega)];rfl
 obtain ⟨W,hW⟩:∃W,V+1=W:=⟨_,rfl⟩
 rw[hW]at hw1;refine au orders Tryz.func67 rfl (by kernel_rfl) (fun d=>d==16||d==10||d==38||d==40||d==42||d==47||d==48||d==56||d==58||d==60||d==67||d==68) (by kernel_rfl) rfl (fun hs=>?_);clear hs
 repeat' (first|refine sX ?_ ?_<;>intro h|simp only[go_sem, *,beq_self_eq_true])
 with_reducible refine dS ?_ ?_
 ·exact ⟨by omega,by omega⟩
 repeat' (first|refine sX ?_ ?_<;>intro h|simp only[go_sem, *,beq_self_eq_true,eU,iB])
 refine aC (List.range (W)) (fun k s'=>∃cs0:List PV,hget s'.hp (16,0)=some ⟨cs0++List.replicate (W-k) (.t (.sl false [])),1,W,l5,false,true⟩/\cs0.length=k/\∀(i:Nat) (p:PV),cs0[i]?=some p->tN s'.hp p (Xl rows more i)) rfl (by rw[List.length_range];rfl) (by rw[List.length_range];first|assumption|omega) (by kernel_rfl) (fun _ _ _ _ hj=>hj) (fun _ _ _ hj=>hj) ?_ (fun k x s' hx hd hk hJ hix hfr G hG=>?_) (fun s' hJ hfr=>?_)
 ·refine ⟨[],?_,rfl,fun i p h=>by simp at h⟩
  refine Eq.trans (b:=some ⟨List.map PV.t (gX [.sl false []] W),1,W,l5,false,true⟩) rfl ?_;rw[Ia,List.map_replicate];rfl
 ·have c0:=hfr 0 (by kernel_rfl)
  have c1:=hfr 1 (by kernel_rfl);have c2:=hfr 2 (by kernel_rfl);have c7:=hfr 7 (by kernel_rfl);clear hfr;simp only[go_sem]at c0 c1 c2 c7;obtain ⟨cs0,h16,hcl,hold⟩:=hJ;rw[List.length_range]at hk;have hxk:x=k:=by rw[List.getElem?_range hk]at hx;injection hx with hx;exact hx.symm
  subst hxk;have hC:tO s'.hp W x rows more cs0 (.t (.sl false [])) []:=by
   refine ⟨?_,hcl,hk,hold,.inl ⟨rfl,rfl⟩,fun i p id _ _ hl=>by obtain ⟨n,hn⟩:=hl;cases hn⟩;rw[h16];have:W-x=(W-x-1)+1:=by omega
   conv=>lhs;rw[this,List.replicate_succ]
  clear hd hx h16
  repeat' (first|refine sX ?_ ?_<;>intro h|simp only[go_sem, *,beq_self_eq_true])
  refine aC (List.range (rows.length)) (fun k s'=>∃p:PV,tO s'.hp W x rows more cs0 p ((lF rows x).take k)) rfl (by rw[List.length_range];rfl) (by rw[List.length_range];first|assumption|omega) (by kernel_rfl) (fun _ _ _ _ hj=>hj) (fun _ _ _ hj=>hj) ?_ (fun j y u hy hyd hj hJ hjx hfr H hH=>?_) (fun u hJ hfr=>?_)
  ·exact ⟨_,by rw[List.take_zero];exact hC⟩
  ·have e0:=hfr 0 (by kernel_rfl)
   have e1:=hfr 1 (by kernel_rfl);have e2:=hfr 2 (by kernel_rfl);have e7:=hfr 7 (by kernel_rfl);have e8:=hfr 8 (by kernel_rfl);have e22:=hfr 22 (by kernel_rfl);clear hfr;simp only[go_sem,c0,c1,c2,c7]at e0 e1 e2 e7 e8 e22;obtain ⟨p,c⟩:=hJ;rw[List.length_range]at hj;have hyj:y=j:=by rw[List.getElem?_range hj]at hy;injection hy with hy;exact hy.symm
   subst hyj;clear hy hyd;obtain ⟨r,hrx,_⟩:=aF rows y hj;have hrow:(rows.map Row.tr)[y]?=some r.tr:=by rw[List.getElem?_map,hrx];rfl
   obtain ⟨q1,q2,q3⟩:=hr r (List.mem_of_getElem? hrx);have hent:jM (dQ r x):=by
    rcases Nat.lt_or_ge x V with h|h
    ·rw[fM q1 h,List.getD_eq_getElem?_getD,List.getElem?_eq_getElem (by omega)]
     exact q3 _ (List.getElem_mem _)
    ·have:x=V:=by omega
     subst this;rw[gP q1];exact q2
   have w:=nH (dQ r x) hent;have yO:(lF rows x)[y]?=some ((dQ r x:Int):Rat):=by unfold lF;rw[List.getElem?_map,hrx];rfl
   have htk:(lF rows x).take (y+1)=(lF rows x).take y++[((dQ r x:Int):Rat)]:=by rw[List.take_add_one,yO];rfl
   have c2:=fun o=>c.new 10 o
   have l2:=fun o=>(c2 o).m
   have hld:=c.load;have ahI:=c.aaT;have hlen:((lF rows x).take y).length<=100000:=by simp;omega
   rcases Nat.lt_or_ge x V with h|h
   ·have g1:decide ((x:Int) < (V:Int))=true:=decide_eq_true (by omega)
    have hcx:r.av[x]?=some (dQ r x):=by rw[fM q1 h,List.getD_eq_getElem?_getD,List.getElem?_eq_getElem (by omega)];rfl
    generalize dQ r x=e at *
    repeat' (first|refine sX ?_ ?_<;>intro h|refine aj (w) rfl ?_|simp only[go_sem, *,beq_self_eq_true])
    refine MJ (c2 _) rfl rfl (by kernel_rfl) hlen (fun p' h' e2 e3 e4 e5=>?_);have hsp:=c.splice p';rw[<- htk]at e5;have hxW:x+1<=W:=hk;clear hlen l2
    repeat' (first|refine sX ?_ ?_<;>intro h|simp only[go_sem, *,beq_self_eq_true])
    exact hH _ ⟨p',e5⟩
   ·have g1:decide ((x:Int) < (V:Int))=false:=decide_eq_false (by omega)
    have hxV:x=V:=by omega
    have hcx:r.const=dQ r x:=by rw[hxV,gP q1]
    generalize dQ r x=e at *;clear hxV
    repeat' (first|refine sX ?_ ?_<;>intro h|refine aj (w) rfl ?_|simp only[go_sem, *,beq_self_eq_true])
    refine MJ (c2 _) rfl rfl (by kernel_rfl) hlen (fun p' h' e2 e3 e4 e5=>?_);have hsp:=c.splice p';rw[<- htk]at e5;have hxW:x+1<=W:=hk;clear hlen l2
    repeat' (first|refine sX ?_ ?_<;>intro h|simp only[go_sem, *,beq_self_eq_true])
    exact hH _ ⟨p',e5⟩
  ·have e0:=hfr 0 (by kernel_rfl)
   have e1:=hfr 1 (by kernel_rfl);have e2:=hfr 2 (by kernel_rfl);have e7:=hfr 7 (by kernel_rfl);have e8:=hfr 8 (by kernel_rfl);clear hfr;simp only[go_sem,c0,c1,c2,c7]at e0 e1 e2 e7 e8;obtain ⟨p,c⟩:=hJ;rw[List.length_range,List.take_of_length_le (by simp[lF])]at c;have hel:(MK more).length=more.length:=by simp[MK]
   repeat' (first|refine sX ?_ ?_<;>intro h|simp only[go_sem, *,beq_self_eq_true])
   refine aC (List.range (more.length)) (fun k s'=>∃p:PV,tO s'.hp W x rows more cs0 p (lF rows x++(more.map (fun c=>c.getD x 0)).take k)) rfl (by rw[List.length_range];rfl) (by rw[List.length_range];first|assumption|omega) (by kernel_rfl) (fun _ _ _ _ hj=>hj) (fun _ _ _ hj=>hj) ?_ (fun j y u hy hyd hj hJ hjx hfr H hH=>?_) (fun u hJ hfr=>?_)
   ·exact ⟨p,by rw[List.take_zero,List.append_nil];exact c⟩
   ·have f7:=e7
    have f8:=e8;have f50:=hfr 50 (by kernel_rfl);have f2:=hfr 7 (by kernel_rfl);have f3:=hfr 8 (by kernel_rfl);clear hfr;simp only[go_sem,e7,e8]at f50 f2 f3;clear e7 e8;obtain ⟨p,c⟩:=hJ;rw[List.length_range]at hj;have hyj:y=j:=by rw[List.getElem?_range hj]at hy;injection hy with hy;exact hy.symm
    subst hyj;clear hy hyd;obtain ⟨v,hvx,_⟩:=aF more y hj;have hvl:=hm v (List.mem_of_getElem? hvx);have hrow:(MK more)[y]?=some (.sl true (v.map aH)):=by unfold MK;rw[List.getElem?_map,hvx];rfl
    have hq:v[x]?=some (v.getD x 0):=by rw[List.getD_eq_getElem?_getD,List.getElem?_eq_getElem (by omega)];rfl
    have hq2:(v.map aH)[x]?=some (aH (v.getD x 0)):=by rw[List.getElem?_map,hq];rfl
    have yO:(more.map (fun c=>c.getD x 0))[y]?=some (v.getD x 0):=by rw[List.getElem?_map,hvx];rfl
    have htk:lF rows x++(more.map (fun c=>c.getD x 0)).take (y+1)=(lF rows x++(more.map (fun c=>c.getD x 0)).take y)++[v.getD x 0]:=by rw[List.take_add_one,yO,List.append_assoc];rfl
    have l2:=c.m;have hld:=c.load;have ahI:=c.aaT;have hxW:x+1<=W:=hk;have hlen:(lF rows x++(more.map (fun c=>c.getD x 0)).take y).length<=100000:=by simp[lF];omega
    generalize v.getD x 0=q at *
    repeat' (first|refine sX ?_ ?_<;>intro h|simp only[go_sem, *,beq_self_eq_true])
    refine MJ c rfl rfl (by kernel_rfl) hlen (fun p' h' e2 e3 e4 e5=>?_);have hsp:=c.splice p';rw[<- htk]at e5;clear hlen l2
    repeat' (first|refine sX ?_ ?_<;>intro h|simp only[go_sem, *,beq_self_eq_true])
    exact hH _ ⟨p',e5⟩
   ·obtain ⟨p,c⟩:=hJ
    rw[List.length_range,List.take_of_length_le (by simp)]at c
    repeat' (first|refine sX ?_ ?_<;>intro h|simp only[go_sem, *,beq_self_eq_true])
    refine hG _ ⟨cs0++[p],?_,by simp[hcl],fun i p' hp=>?_⟩
    ·have:=c.m
     rw[this];congr 2;rw[List.append_assoc];rfl
    ·rw[List.getElem?_append]at hp
     split at hp
     ·exact c.old i p' hp
     ·rename_i hi
      rw[c.len]at hi hp;cases hix:i-x with
      |zero =>
       rw[hix]at hp;simp at hp;subst hp;have:i=x:=by omega
       subst this;exact c.cur
      |succ n=>rw[hix]at hp;simp at hp
 ·have c7:=hfr 7 (by kernel_rfl)
  clear hfr;simp only[go_sem]at c7;obtain ⟨cs0,h16,hcl,hold⟩:=hJ;rw[List.length_range]at h16 hcl;have dN:aS s'.hp dep (.rf (16,0) W)=some (wX (!(rows.isEmpty&&more.isEmpty)) (jX V rows more)):=by
   show aS s'.hp (5+1) _=_
   rw[rO,h16];simp only[Nat.sub_self,List.replicate_zero,List.append_nil,if_true];have:=Ib (f:=aS s'.hp 5) (g:=fun i=>Tr.sl (!(rows.isEmpty&&more.isEmpty)) ((Xl rows more i).map aH)) cs0 0 (fun i p hp=>by
    have h1:=(hold i p hp).aS 4;rw[Nat.zero_add,h1];congr 2;unfold Xl lF;cases rows<;>cases more<;>simp)
   rw[this,hcl]
   show some (Tr.sl true (elems false 1 W _))=_
   unfold elems wX jX;rw[<- List.range_eq_range',hW,List.map_map];rfl
  repeat' (first|refine sX ?_ ?_<;>intro h|simp only[go_sem, *])
def Over (l:List Rat) (N:Nat):Prop:=∃d:Int,d≠0/\d.natAbs<=N/\∀x∈l,bM ((d:Rat)*x) N
theorem Fit.fits {N:Nat}{z:Int} (hN:Fit N) (hz:z.natAbs<=N):fits z:=by
 have h:=hN.le;exact Nat.le_trans (cZ (k:=50000) (Nat.lt_of_le_of_lt hz h)) (by decide)
theorem Over.num {l:List Rat}{N:Nat} (h:Over l N) {x:Rat} (hx:x∈l):x.num.natAbs<=N:=by
 obtain ⟨d,hd,_,hI⟩:=h;exact (rZ hd (hI x hx)).2
theorem Over.den {l:List Rat}{N:Nat} (h:Over l N) {x:Rat} (hx:x∈l):x.den<=N:=by
 obtain ⟨d,hd,hdN,hI⟩:=h;exact Nat.le_trans (Nat.le_of_dvd (by omega) (rZ hd (hI x hx)).1) hdN
theorem Over.lcm {l:List Rat}{N:Nat} (h:Over l N):fI l<=N:=by
 obtain ⟨d,hd,hdN,hI⟩:=h;refine Nat.le_trans (Nat.le_of_dvd (by omega) (Ht _ _ d.natAbs (Nat.one_dvd _) fun y hy=>?_)) hdN;obtain ⟨q,hq,rfl⟩:=List.mem_map.1 hy;exact (rZ hd (hI q hq)).1
theorem TU (b:Bool) (z:Int):∀x∈[encI b z],dh true 2 x:=by
 intro x hx;rw[List.mem_singleton.1 hx];exact ZB b z
theorem ED {h:Hp}{d k:Nat}{e:TypeId}{esz:Nat}{ag nn:Bool}{v:PV}{l:List Tr} (ho:Own h d e esz ag v nn l) {id:Id} (hid:(id.1==d)=false):((([v]:List PV).flatMap (reach h (k+1))).contains id)=false:=by
 rcases ho.is with ⟨_,_,rfl⟩|⟨_,i,h1,rfl,h3⟩
 ·rfl
 ·simp only[List.flatMap_cons,List.flatMap_nil,List.append_nil]
  rw[pE k h3];simp only[List.contains_cons,List.contains_nil,Bool.or_false];rw[beq_eq_false_iff_ne]at hid ⊢;intro e;subst e;exact hid h1
theorem Gh (nn:Bool) {l:List Rat}{N:Nat} (hN:Fit N) (ho:Over l N) (hlen:l.length<=100000) :
  aB Tryz.prog 143 [.sl nn (l.map aH)] (.tup [.sl (!l.isEmpty) ((iy l).map (encI true)),encI true ((fI l:Nat):Int)]):=by
 have hL:aB Tryz.prog 213 [.sl (!(l.map Rat.den).isEmpty) ((l.map Rat.den).map Sw)] (encI true ((fI l:Nat):Int)):=by
  obtain ⟨d,hd,hdN,hI⟩:=ho;refine ae9 _ (l.map Rat.den) d.natAbs (by omega) (hN.fits (by simpa using hdN)) (fun x hx=>?_) (by simp;omega);obtain ⟨q,hq,rfl⟩:=List.mem_map.1 hx;exact ⟨q.den_pos,(rZ hd (hI q hq)).1⟩
 refine au orders Tryz.func143 rfl (by kernel_rfl) (fun d=>d==3||d==6||d==7||d==10||d==11||d==12||d==23||d==46||d==40) (by kernel_rfl) rfl (fun hs=>?_);clear hs
 repeat' (first|refine sX ?_ ?_<;>intro h|simp only[go_sem, *,beq_self_eq_true,eU,iB])
 refine aC l (fun k s'=>∃acc:List Nat,Own s'.hp 23 iW 2 true (s'.sl 4) (!acc.isEmpty) (acc.map Sw)/\acc.length=k/\l.map Rat.den=acc++(l.drop k).map Rat.den/\hget s'.hp (3,0)=some ⟨[.t (.sl false []),.t (.bool false)],2,1,iW,true,true⟩) rfl rfl (by first|assumption|omega) (by kernel_rfl) (fun _ _ _ _ hj=>hj) (fun _ _ _ hj=>hj) ?_ (fun k x s' hx hd hk hJ hix hfr G hG=>?_) (fun s' hJ hfr=>?_)
 ·exact ⟨[],Own.nil,rfl,rfl,rfl⟩
 ·have c0:=hfr 0 (by kernel_rfl)
  have c3:=hfr 3 (by kernel_rfl);have c13:=hfr 13 (by kernel_rfl);clear hfr;simp only[go_sem]at c0 c3 c13;obtain ⟨acc,hown,hal,hJ,h3⟩:=hJ;change _=PV.ad (3,0) 1 0 at c3;rw[hd,List.map_cons]at hJ;have w:=A8 x;have hsz:(dA x).length=6:=aQ _;clear hd
  repeat' (first|refine sX ?_ ?_<;>intro h|refine aj (w) rfl ?_|simp only[go_sem, *])
  refine cB (hown.frame (by simp only[go_sem])) rfl (by kernel_rfl) (by kernel_rfl) (by kernel_rfl) (by kernel_rfl) rfl (by kernel_rfl) (TU _ _) (by simp;omega) (fun v' h' ho hf=>?_)
  repeat' (first|refine sX ?_ ?_<;>intro h|simp only[go_sem, *])
  refine hG _ ⟨acc++[x.den],ho.snoc,by simp[hal],by rw[hJ,List.append_assoc];rfl,?_⟩;exact (aX (hf 3 rfl)).trans (aA h3 _)
 ·have c0:=hfr 0 (by kernel_rfl)
  have c3:=hfr 3 (by kernel_rfl);clear hfr;simp only[go_sem]at c0 c3;obtain ⟨acc,hown,hal,hJ,h3⟩:=hJ;change _=PV.ad (3,0) 1 0 at c3;rw[List.drop_length,List.map_nil,List.append_nil]at hJ;rw[hJ]at hL;have dN:=hown.dep;have hn3:=ED (k:=5) hown (id:=(3,0)) rfl;have h3f:=lW h3 hn3
  repeat' (first|refine sX ?_ ?_<;>intro h|simp only[go_sem, *])
  refine mX hL (by simp only[go_sem,dN]) rfl ?_;clear dN hn3 hown hal hJ hL;have h3g:hget (frz s'.hp (([s'.sl 4]:List PV).flatMap (reach s'.hp dep))) (3,0)=some ⟨[.t (.sl false []),.t (.bool false)],2,1,iW,true,true⟩:=h3f;clear h3f h3;generalize frz _ _=HF at *;have alQ:=iE (s:=7) h3g
  repeat' (first|refine sX ?_ ?_<;>intro h|simp only[go_sem, *])
  refine aC (List.range (l.length)) (fun k s'=>∃acc:List Int,Own s'.hp 46 iW 2 true (s'.sl 8) (!acc.isEmpty) (acc.map (encI true))/\acc.length=k/\iy l=acc++(l.drop k).map (tK (fI l))/\hget s'.hp (3,0)=some ⟨[.t (.sl false []),.t (.bool false)],2,1,iW,true,true⟩/\hget s'.hp (hnext HF 7)=some ⟨(mE true ((fI l:Nat):Int)).map .t,2,1,iW,true,true⟩) rfl (by rw[List.length_range];rfl) (by rw[List.length_range];first|assumption|omega) (by kernel_rfl) (fun _ _ _ _ hj=>hj) (fun _ _ _ hj=>hj) ?_ (fun j y u hy hyd hj hJ hjx hfr H hH=>?_) (fun u hJ hfr=>?_)
  ·exact ⟨[],Own.nil,rfl,rfl,aA h3g _,aJ _ _⟩
  ·have e0:=hfr 0 (by kernel_rfl)
   have e3:=hfr 3 (by kernel_rfl);have e7:=hfr 7 (by kernel_rfl);have e27:=hfr 27 (by kernel_rfl);clear hfr;simp only[go_sem,c0,c3]at e0 e3 e7 e27;obtain ⟨acc,hown,hal,hJ,h3,h7⟩:=hJ;rw[List.length_range]at hj;have hyj:y=j:=by rw[List.getElem?_range hj]at hy;injection hy with hy;exact hy.symm
   subst hyj;clear hy hyd;obtain ⟨x,hx,hd⟩:=aF l y hj;have hxm:=List.mem_of_getElem? hx;have hx2:(l.map aH)[y]?=some (aH x):=by rw[List.getElem?_map,hx];rfl
   rw[hd,List.map_cons]at hJ;have w:=A8 x;have w1:=Ec x;have fx:fits x.num:=hN.fits (ho.num hxm);have fL:fits ((fI l:Nat):Int):=hN.fits (by simpa using ho.lcm);have fd:fits ((x.den:Nat):Int):=hN.fits (by simpa using ho.den hxm);have fq:fits ((fI l / x.den:Nat):Int):=hN.fits (by rw[Int.natAbs_natCast];exact Nat.le_trans (Nat.div_le_self _ _) ho.lcm);have w2:=Li true true ((fI l:Nat):Int) ((x.den:Nat):Int) fL fd (by have:=x.den_pos;omega);rw[show ((fI l:Nat):Int).tdiv ((x.den:Nat):Int)=((fI l / x.den:Nat):Int) from rfl]at w2;have w3:=rR true true x.num ((fI l / x.den:Nat):Int) fx fq;rw[show x.num*((fI l / x.den:Nat):Int)=tK (fI l) x from rfl]at w3;have hsz:(dA x).length=6:=aQ _;generalize tK (fI l) x=z at *;generalize ((fI l:Nat):Int).tmod ((x.den:Nat):Int)=rr at *;generalize ((fI l / x.den:Nat):Int)=dd at *;clear hd fx fL fd fq
   repeat' (first|refine sX ?_ ?_<;>intro h|refine aj (w) rfl ?_|refine aj (w1) rfl ?_|refine aj (w2) rfl ?_|refine aj (w3) rfl ?_|simp only[go_sem, *])
   refine cB (hown.frame (by simp only[go_sem])) rfl (by kernel_rfl) (by kernel_rfl) (by kernel_rfl) (by kernel_rfl) rfl (by kernel_rfl) (TU _ _) (by simp;omega) (fun v' h' ho hf=>?_)
   repeat' (first|refine sX ?_ ?_<;>intro h|simp only[go_sem, *])
   refine hH _ ⟨acc++[z],ho.snoc,by simp[hal],by rw[hJ,List.append_assoc];rfl,?_,?_⟩
   ·exact (aX (hf 3 rfl)).trans (by simp only[go_sem,h3])
   ·exact (aX (hf 7 rfl)).trans (by simp only[go_sem,h7])
  ·have e0:=hfr 0 (by kernel_rfl)
   have e3:=hfr 3 (by kernel_rfl);have e7:=hfr 7 (by kernel_rfl);clear hfr;simp only[go_sem,c0,c3]at e0 e3 e7;obtain ⟨acc,hown,hal,hJ,h3,h7⟩:=hJ;rw[List.length_range]at hal hJ;rw[List.drop_length,List.map_nil,List.append_nil]at hJ;have he:(!l.isEmpty)=(!acc.isEmpty):=by
    cases l<;>cases acc<;>simp_all
   rw[he,hJ];have dN:=fun o=>(hown.frame (h':=hset u.hp (3,0) o) (fA o rfl)).dep
   clear hN ho hJ hal he
   repeat' (first|refine sX ?_ ?_<;>intro h|simp only[go_sem, *])
abbrev afn:TypeId:=38
theorem acD (z:Int):∀x∈[Tr.int .u64 z],dh false 1 x:=ok_int _ _
theorem Jv (nn:Bool) {l:List Rat}{N:Nat} (hN:Fit N) (ho:Over l N) (hlen:l.length<=100000) (hpos:∀x∈l,0<=x) :
  aB Tryz.prog 69 [.sl nn (l.map aH)] (match lM l with|some ms=>.tup [.sl (!l.isEmpty) (ms.map jE),.bool true]|none=>.tup [.sl false [],.bool false]):=by
 have w:=Gh nn hN ho hlen;have hz0:∀z∈iy l,0<=z:=fun z hz=>by
  obtain ⟨x,hx,rfl⟩:=List.mem_map.1 hz;exact F5 (hpos x hx)
 have hlz:l.length=(iy l).length:=by simp[iy]
 have hem:(!l.isEmpty)=!(iy l).isEmpty:=by
  cases l<;>simp[iy]
 have hmo:lM l=if (iy l).all (fun z=>decide (z.natAbs<=oC)) then some ((iy l).map Int.toNat) else none:=rfl
 rw[hmo,hem];rw[hem]at w;clear hmo hem ho hpos;generalize iy l=zs at *;refine au orders Tryz.func69 rfl (by kernel_rfl) (fun d=>d==5||d==8||d==33) (by kernel_rfl) rfl (fun hs=>?_);clear hs
 repeat' (first|refine sX ?_ ?_<;>intro h|refine aj (w) rfl ?_|simp only[go_sem, *,beq_self_eq_true,eU,iB])
 refine aC (List.range (zs.length)) (fun k s'=>∃acc:List Int,Own s'.hp 33 afn 1 false (s'.sl 6) (!acc.isEmpty) (acc.map fun z:Int=>jE z.toNat)/\acc.length=k/\acc++zs.drop k=zs/\(acc.all fun z=>decide (z.natAbs<=oC))=true) rfl (by rw[List.length_range];rfl) (by rw[List.length_range];first|assumption|omega) (by kernel_rfl) (fun _ _ _ _ hj=>hj) (fun _ _ _ hj=>hj) ?_ (fun j y u hy hyd hj hJ hjx hfr H hH=>?_) (fun u hJ hfr=>?_)
 ·exact ⟨[],Own.nil,rfl,rfl,rfl⟩
 ·have e0:=hfr 0 (by kernel_rfl)
  have e4:=hfr 4 (by kernel_rfl);have e16:=hfr 16 (by kernel_rfl);clear hfr;simp only[go_sem]at e0 e4 e16;obtain ⟨acc,hown,hal,hJ,hall⟩:=hJ;rw[List.length_range]at hj;have hyj:y=j:=by rw[List.getElem?_range hj]at hy;injection hy with hy;exact hy.symm
  subst hyj;clear hy hyd;obtain ⟨z,hz,hd⟩:=aF zs y hj;have hz2:(zs.map (encI true))[y]?=some (encI true z):=by rw[List.getElem?_map,hz];rfl
  rw[hd]at hJ;have hzn:=hz0 z (List.mem_of_getElem? hz);have w1:aB Tryz.prog 144 [encI true z,i64 4611686018427387904] (.tup [i64 (if z.natAbs<=4611686018427387904 then z else 0),.bool (decide (z.natAbs<=4611686018427387904))]):=uT true z 4611686018427387904 (Nat.le_refl _);clear hd
  by_cases hzs:z.natAbs<=4611686018427387904
  ·rw[if_pos hzs,decide_eq_true hzs]at w1
   have hcv:IntKind.u64.wrap z=((z.toNat:Nat):Int):=by
    rw[sQ (by omega) hzn];omega
   have Ic:((acc++[z]).all fun z=>decide (z.natAbs<=oC))=true:=by
    rw[List.all_append,hall];simpa using hzs
   clear hzs hzn hz0 hall
   repeat' (first|refine sX ?_ ?_<;>intro h|refine aj (w1) rfl ?_|simp only[go_sem, *])
   refine cB (hown.frame (by simp only[go_sem])) rfl (by kernel_rfl) (by kernel_rfl) (by kernel_rfl) (by kernel_rfl) rfl (by kernel_rfl) (acD _) (by simp;omega) (fun v' h' ho hf=>?_)
   repeat' (first|refine sX ?_ ?_<;>intro h|simp only[go_sem, *])
   refine hH _ ⟨acc++[z],ho.snoc,by simp[hal],by rw[List.append_assoc];exact hJ,Ic⟩
  ·rw[if_neg hzs,decide_eq_false hzs]at w1
   have hno:(zs.all fun z=>decide (z.natAbs<=oC))=false:=by
    rw[Bool.eq_false_iff];intro h;exact hzs (by simpa using List.all_eq_true.1 h z (List.mem_of_getElem? hz))
   simp only[hno,Bool.false_eq_true,if_false];clear hzs hzn hz0 hall hno
   repeat' (first|refine sX ?_ ?_<;>intro h|refine aj (w1) rfl ?_|simp only[go_sem, *])
 ·skip
  obtain ⟨acc,hown,hal,hJ,hall⟩:=hJ;rw[List.length_range,List.drop_length,List.append_nil]at hJ;subst hJ;rw[if_pos hall];have dN:=hown.dep;rw[show List.map (fun z:Int=>jE z.toNat) acc=List.map jE (List.map Int.toNat acc) by rw[List.map_map];rfl]at dN;clear hall hz0 hal
  repeat' (first|refine sX ?_ ?_<;>intro h|simp only[go_sem, *])
def rvT (q:Rat):Tr:=.agg [i64 q.num,i64 ((q.den:Nat):Int)]
theorem acE (q:Rat):dh true 2 (rvT q):=⟨fun _=>rfl,(fun h=>nomatch h),rfl⟩
abbrev afo:TypeId:=137
def sU (o:Option (List Rat)):Tr:=match o with|some p=>.tup [.sl true (p.map rvT),.bool true]|none=>.tup [.sl false [],.bool false]
theorem ML (nn:Bool) {l:List Rat}{b:Rat}{N:Nat} (hN:Fit N) (hl:∀x∈l,FB x N N) (hb:FB b N N) (h0:0 < b) (hlen:l.length<=100000) :
  aB Tryz.prog 70 [.sl nn (l.map aH),aH b] (sU (iM l b)):=by
 have hb0:b≠0:=fun h=>by rw[h]at h0;exact absurd h0 (by decide)
 have wi:=Qg b (hb.q1 hN) hb0;have hbi:=hb.inv h0;refine au orders Tryz.func70 rfl (by kernel_rfl) (fun d=>d==8||d==15) (by kernel_rfl) rfl (fun hs=>?_);clear hs
 repeat' (first|refine sX ?_ ?_<;>intro h|simp only[go_sem, *,beq_self_eq_true,eU,iB])
 with_reducible refine dS ?_ ?_
 ·exact ⟨by omega,by omega⟩
 repeat' (first|refine sX ?_ ?_<;>intro h|simp only[go_sem, *,beq_self_eq_true,eU,iB])
 refine aC (List.range (l.length)) (fun k s'=>∃cur:List Tr,hget s'.hp (15,0)=some ⟨(flat cur).map .t,2,l.length,afo,true,true⟩/\cur.length=l.length/\(∀z∈cur,dh true 2 z)/\cur.take k=((l.map (·*b⁻¹)).take k).map rvT/\((l.map (·*b⁻¹)).take k).all qQ=true) rfl (by rw[List.length_range];rfl) (by rw[List.length_range];first|assumption|omega) (by kernel_rfl) (fun _ _ _ _ hj=>hj) (fun _ _ _ hj=>hj) ?_ (fun j y u hy hyd hj hJ hjx hfr H hH=>?_) (fun u hJ hfr=>?_)
 ·refine ⟨List.replicate l.length (.agg [i64 0,i64 0]),?_,by simp,fun z hz=>by rw[(List.mem_replicate.1 hz).2];exact ⟨fun _=>rfl,(fun h=>nomatch h),rfl⟩,rfl,rfl⟩
  rw[<- jC];rfl
 ·have e3:=hfr 3 (by kernel_rfl)
  have e6:=hfr 6 (by kernel_rfl);have e16:=hfr 16 (by kernel_rfl);clear hfr;simp only[go_sem]at e3 e6 e16;obtain ⟨cur,g,jc,hok,htk,hall⟩:=hJ;rw[List.length_range]at hj;have hyj:y=j:=by rw[List.getElem?_range hj]at hy;injection hy with hy;exact hy.symm
  subst hyj;clear hy hyd;obtain ⟨x,hx,_⟩:=aF l y hj;have hx2:(l.map aH)[y]?=some (aH x):=by rw[List.getElem?_map,hx];rfl
  have hxf:=hl x (List.mem_of_getElem? hx);have wm:=Ka x b⁻¹ (hxf.q1 hN) (hbi.q1 hN);have hmx:(l.map (·*b⁻¹))[y]?=some (x*b⁻¹):=by rw[List.getElem?_map,hx];rfl
  have w1:=Ec (x*b⁻¹);have w2:=A8 (x*b⁻¹);have w3:aB Tryz.prog 144 [encI true (x*b⁻¹).num,i64 4611686018427387904] (.tup [i64 (if (x*b⁻¹).num.natAbs<=4611686018427387904 then (x*b⁻¹).num else 0),.bool (decide ((x*b⁻¹).num.natAbs<=4611686018427387904))]):=uT true _ 4611686018427387904 (Nat.le_refl _);have w4:aB Tryz.prog 144 [encI true (((x*b⁻¹).den:Nat):Int),i64 4611686018427387904] (.tup [i64 (if (((x*b⁻¹).den:Nat):Int).natAbs<=4611686018427387904 then (((x*b⁻¹).den:Nat):Int) else 0),.bool (decide ((((x*b⁻¹).den:Nat):Int).natAbs<=4611686018427387904))]):=uT true _ 4611686018427387904 (Nat.le_refl _);rw[Int.natAbs_natCast]at w4;have hsz:(dA x).length=6:=aQ _;have hsz2:(dA (x*b⁻¹)).length=6:=aQ _;have hdp:List.drop 6 (List.map PV.t (dA x))=[]:=List.drop_of_length_le (by rw[List.length_map,aQ];exact Nat.le_refl _);have hwq:qQ (x*b⁻¹)=(decide ((x*b⁻¹).num.natAbs<=4611686018427387904)&&decide ((x*b⁻¹).den<=4611686018427387904)):=rfl;have hno:qQ (x*b⁻¹)=false->iM l b=none:=fun h=>by
   unfold iM;rw[if_neg];intro ha;have:=List.all_eq_true.1 ha _ (List.mem_of_getElem? hmx);rw[h]at this;cases this
  obtain ⟨z,hz,_⟩:=aF cur y (by omega);have he2:∀z∈cur,z.cells.length=2:=fun z hz=>(hok z hz).2.2
  have vB:splice (List.map PV.t (flat cur)) (y*2) [.t (i64 (x*b⁻¹).num),.t (i64 (((x*b⁻¹).den:Nat):Int))]=List.map PV.t (flat (cur.set y (rvT (x*b⁻¹)))):=fD he2 (x:=z) (y:=rvT (x*b⁻¹)) hz rfl;have alR:(flat cur).length=l.length*2:=by rw[bJ _ 2 he2,jc]
  have hy2:y*2+2<=l.length*2:=by omega
  have hset:(cur.set y (rvT (x*b⁻¹))).take (y+1)=((l.map (·*b⁻¹)).take (y+1)).map rvT:=by
   rw[aP _ _ _ (by omega),htk,List.take_add_one,List.map_append,hmx];rfl
  have hok2:∀w∈cur.set y (rvT (x*b⁻¹)),dh true 2 w:=fun w hw=>by
   rcases List.mem_or_eq_of_mem_set hw with hw|rfl
   ·exact hok w hw
   ·exact acE _
  have Ic:qQ (x*b⁻¹)=true->((l.map (·*b⁻¹)).take (y+1)).all qQ=true:=fun h=>by
   rw[List.take_add_one,List.all_append,hall,hmx];simpa using h
  clear hxf hall
  by_cases hw1:(x*b⁻¹).num.natAbs<=4611686018427387904
  ·rw[if_pos hw1,decide_eq_true hw1]at w3
   by_cases hw2:(x*b⁻¹).den<=4611686018427387904
   ·rw[if_pos hw2,decide_eq_true hw2]at w4
    have ahJ:=Ic (by rw[hwq,decide_eq_true hw1,decide_eq_true hw2];rfl);clear hw1 hw2 hwq hno Ic;generalize x*b⁻¹=q at *
    repeat' (first|refine sX ?_ ?_<;>intro h|refine aj (wi) rfl ?_|refine aj (wm) rfl ?_|refine aj (w1) rfl ?_|refine aj (w2) rfl ?_|refine aj (w3) rfl ?_|refine aj (w4) rfl ?_|simp only[go_sem, *])
    refine hH _ ⟨cur.set y (rvT q),?_,by simp[jc],hok2,hset,ahJ⟩;exact aM g _
   ·rw[if_neg hw2,decide_eq_false hw2]at w4
    have hn:=hno (by rw[hwq,decide_eq_false hw2,Bool.and_false]);rw[hn];clear hw1 hw2 hwq hno Ic vB hset;generalize x*b⁻¹=q at *
    repeat' (first|refine sX ?_ ?_<;>intro h|refine aj (wi) rfl ?_|refine aj (wm) rfl ?_|refine aj (w1) rfl ?_|refine aj (w2) rfl ?_|refine aj (w3) rfl ?_|refine aj (w4) rfl ?_|simp only[go_sem, *])
    rfl
  ·rw[if_neg hw1,decide_eq_false hw1]at w3
   have hn:=hno (by rw[hwq,decide_eq_false hw1,Bool.false_and]);rw[hn];clear hw1 hwq hno Ic vB hset;generalize x*b⁻¹=q at *;generalize (if q.den<=4611686018427387904 then ((q.den:Nat):Int) else 0)=dd at *;generalize decide (q.den<=4611686018427387904)=bb at *
   repeat' (first|refine sX ?_ ?_<;>intro h|refine aj (wi) rfl ?_|refine aj (wm) rfl ?_|refine aj (w1) rfl ?_|refine aj (w2) rfl ?_|refine aj (w3) rfl ?_|refine aj (w4) rfl ?_|simp only[go_sem, *])
   all_goals rfl
 ·have e6:=hfr 6 (by kernel_rfl)
  clear hfr;simp only[go_sem]at e6;obtain ⟨cur,g,jc,hok,htk,hall⟩:=hJ;rw[List.length_range,List.take_of_length_le (by omega),List.take_of_length_le (by simp)]at htk;rw[List.length_range,List.take_of_length_le (by simp)]at hall;have hpo:iM l b=some (l.map (·*b⁻¹)):=by unfold iM;rw[if_pos hall]
  have dN:aS u.hp dep (.rf (15,0) l.length)=some (.sl true cur):=iX 5 hok jc g;rw[htk]at dN;rw[hpo];unfold sU;clear hpo hall
  repeat' (first|refine sX ?_ ?_<;>intro h|simp only[go_sem, *])
def BD.tr:BD->Tr
 |.pt p=>.tup [.sl true (p.map rvT),.sl false [],.bool true,i64 0]
 |.ml ms=>.tup [.sl false [],.sl true (ms.map jE),.bool false,i64 0]
 |.lim=>.tup [.sl false [],.sl false [],.bool false,i64 3]
theorem TV {n c k:Nat} (h1:n*c<=B ^ 2) (h2:n+2<=B) (hk:n<=k) (hk2:2*(2*k+1) < 50000) (h0:1<=n) (hc:1<=c):Fit (kU n c):=by
 refine ⟨Nat.le_trans (Nat.mul_pos (by omega) (by omega)) (BQ h0 hc),?_⟩;have e1:(n*c) ^ n<=B ^ (2*k):=by
  refine Nat.le_trans (Nat.pow_le_pow_left h1 n) ?_;rw[<- Nat.pow_mul];exact Nat.pow_le_pow_right fQ (by omega)
 have e2:kU n c<=B ^ (2*k+1):=by
  unfold kU;rw[Nat.pow_succ,Nat.mul_comm];exact Nat.mul_le_mul e1 h2
 generalize 50000=m at *;refine Nat.lt_of_le_of_lt (Nat.mul_le_mul e2 e2) ?_;rw[<- Nat.pow_add];exact Nat.pow_lt_pow_right (by rw[eu];decide) (by omega)
theorem qg.over {ans:List Rat ⊕ List Rat}{N:Nat} (h:qg ans N):Over (TI ans) N:=h
theorem Over.sub {l l':List Rat}{N:Nat} (h:Over l N) (hs:∀x∈l',x∈l):Over l' N:=by
 obtain ⟨d,h1,h2,h3⟩:=h;exact ⟨d,h1,h2,fun x hx=>h3 x (hs x hx)⟩
theorem Over.FB {l:List Rat}{N:Nat} (h:Over l N):∀x∈l,FB x N N:=fun x hx=>⟨h.num hx,h.den hx⟩
theorem qg.mono {ans:List Rat ⊕ List Rat}{N M:Nat} (h:qg ans N) (hM:N<=M):qg ans M:=by
 obtain ⟨d,h1,h2,h3⟩:=h;exact ⟨d,h1,Nat.le_trans h2 hM,fun x hx=>(h3 x hx).mono hM⟩
theorem Kk {V:Nat}{rows:List Row} (hS:Sys V rows):∀r∈rows,r.av.length=V/\jM r.const/\∀c∈r.av,jM c:=fun r hr=>by
 obtain ⟨h1,h2,h3⟩:=hS.r r hr;have a1:=aZ h2;exact ⟨h1,⟨by omega,by omega⟩,fun c hc=>by have:=aZ (h3 c hc);exact ⟨by omega,by omega⟩⟩
theorem acF {V C:Nat}{r:Row} (h1:r.av.length=V) (h2:r.const.natAbs<=C) (h3:∀c∈r.av,c.natAbs<=C) (k:Nat):(dQ r k).natAbs<=C:=by
 rcases Nat.lt_trichotomy k V with h|h|h
 ·rw[fM h1 h,List.getD_eq_getElem?_getD,List.getElem?_eq_getElem (by omega)]
  exact h3 _ (List.getElem_mem _)
 ·subst h;rw[gP h1];exact h2
 ·have:dQ r k=0:=by
   unfold dQ iY;rw[List.getD_eq_getElem?_getD,List.getElem?_eq_none (by simp;omega)];rfl
  rw[this];exact Nat.zero_le _
theorem TW {V C:Nat}{rows:List Row}{more:List (List Rat)}{rhs:List Rat} (hC:1<=C) (hr:∀r∈rows,r.av.length=V/\r.const.natAbs<=C/\∀c∈r.av,c.natAbs<=C) (hm:∀c∈more,∀x∈c,bM x C) (hb:∀x∈rhs,bM x C):wU (jX V rows more) rhs C:=by
 refine ⟨hC,fun r hr' x hx=>?_,hb⟩;simp only[jX,List.mem_map,List.mem_range]at hr';obtain ⟨i,_,rfl⟩:=hr';rcases List.mem_append.1 hx with hx|hx
 ·obtain ⟨q,hq,rfl⟩:=List.mem_map.1 hx
  obtain ⟨a1,a2,a3⟩:=hr q hq;exact ⟨_,rfl,acF a1 a2 a3 i⟩
 ·obtain ⟨q,hq,rfl⟩:=List.mem_map.1 hx
  exact CW (hm q hq) i
theorem C8 {V:Nat}{x:Int}{C:Nat} (h:x.natAbs<=C):∀y∈jo V x,bM y C:=fun y hy=>by
 rcases List.mem_append.1 hy with hy|hy
 ·rw[(List.mem_replicate.1 hy).2];exact F9 C
 ·rw[List.mem_singleton.1 hy];exact ⟨x,rfl,h⟩
theorem kg {k:Int} (h:aU k=true):k.natAbs<=1048577:=by have:=aZ h;omega
theorem BR {V:Nat}{rows:List Row} (h:iN V rows=true):V<=4/\∀r∈rows,r.const.natAbs<=1000/\∀c∈r.av,c.natAbs<=1000:=by
 simp only[iN,Bool.and_eq_true,List.all_eq_true,decide_eq_true_eq,List.mem_cons,forall_eq_or_imp]at h;refine ⟨h.2,fun r hr=>?_⟩;obtain ⟨⟨h1,h2⟩,h3⟩:=h.1 r hr;exact ⟨by omega,fun c hc=>by have:=h3 c hc;omega⟩
theorem BU {V C:Nat}{rows:List Row}{more:List (List Rat)}{rhs:List Rat} (b:Bool) (hC:1<=C) (hC2:C<=4194304) (hV:V<=128) (hn:rows.length+more.length<=10000) (hr:∀r∈rows,r.av.length=V/\r.const.natAbs<=C/\∀c∈r.av,c.natAbs<=C)
  (hm:∀c∈more,∀x∈c,bM x C) (hb:∀x∈rhs,bM x C) (hrl:rhs.length=V+1) (P:Prop)
  (hP:P->V<=4/\(∀r∈rows,r.const.natAbs<=1001/\∀c∈r.av,c.natAbs<=1001)/\(∀c∈more,∀x∈c,bM x 1001)/\∀x∈rhs,bM x 1001) :
  ∃ans N,Fit N/\jh (jX V rows more) rhs ans/\qg ans N/\(P->qg ans oC)/\aB Tryz.prog 66 [wX b (jX V rows more),.sl true (rhs.map aH)] (mg ans):=by
 have hml:=qc V rows more
 by_cases hp:P
 ·obtain ⟨p1,p2,p3,p4⟩:=hP hp
  have hI:wU (jX V rows more) rhs 1001:=TW (by decide) (fun r hr'=>⟨(hr r hr').1,p2 r hr'⟩) p3 p4;have EF:Fit (kU (jX V rows more).length 1001):=by
   rw[hml];exact TV (k:=129) (by rw[B2];exact Nat.le_trans (Nat.mul_le_mul (show V+1<=5 by omega) (Nat.le_refl 1001)) (by decide)) (by rw[eu];omega) (by omega) (by decide) (by omega) (by decide)
  obtain ⟨ans,a1,a2,a3,a4⟩:=CZ b (C:=rows.length+more.length) (c:=1001) Hq (by rw[hml,hrl]) (by omega) (by omega) (by omega) hI EF;exact ⟨ans,_,EF,a1,a2,fun _=>(a3 (by omega)).mono (by decide),a4⟩
 ·have hb1:(V+1)*C<=B ^ 2:=by
   rw[B2];refine Nat.le_trans (Nat.mul_le_mul (show V+1<=129 by omega) hC2) (by decide)
  have hfit:Fit (kU (jX V rows more).length C):=by
   rw[hml];exact TV (k:=129) hb1 (by rw[eu];omega) (by omega) (by decide) (by omega) hC
  obtain ⟨ans,a1,a2,_,a4⟩:=CZ b (C:=rows.length+more.length) (c:=C) Hq (by rw[hml,hrl]) (by omega) (by omega) (by omega) (TW hC hr hm hb) hfit;exact ⟨ans,_,hfit,a1,a2,fun h=>absurd h hp,a4⟩
theorem aaU {V:Nat}{rows:List Row}{u:List Rat} (ha:jh (jX V rows []) (jo V (-1)) (.inr u)):u.length=V+1/\0 < u.getD V 0:=by
 unfold jh at ha;rw[qc]at ha;obtain ⟨a1,_,a3⟩:=ha;rw[CV]at a3;have:((-1:Int):Rat)=-1:=rfl;rw[this]at a3;exact ⟨a1,by grind⟩
theorem TY {V:Nat} (rnn:Bool) {rows:List Row} (he:bQ V rows=0):∃out,yL V rows out/\aB Tryz.prog 18 [i64 (V:Nat),.sl rnn (rows.map Row.tr)] out.tr:=by
 obtain ⟨V',hV',hS⟩:=CG he;have hVV:V'=V:=by omega
 subst hVV;have hV:=hS.v;have hn:=hS.n;have hr1:=Kk hS;have hrc:∀r∈rows,r.av.length=V'/\r.const.natAbs<=1048577/\∀c∈r.av,c.natAbs<=1048577:=fun r hr=>by
  obtain ⟨h1,h2,h3⟩:=hS.r r hr;exact ⟨h1,kg h2,fun c hc=>kg (h3 c hc)⟩
 obtain ⟨ans,N,hN,ha,hA,hmod,hd⟩:=BU (V:=V') (C:=1048577) (rows:=rows) (more:=[]) (rhs:=jo V' (-1)) (!(rows.isEmpty&&([]:List (List Rat)).isEmpty)) (by decide) (by decide) hV (by simp;omega) hrc (fun c hc=>by simp at hc) (C8 (by decide)) (Et _ _) (iN V' rows=true) (fun h=>by
  obtain ⟨h1,h2⟩:=BR h;exact ⟨h1,fun r hr=>⟨by have:=(h2 r hr).1;omega,fun c hc=>by have:=(h2 r hr).2 c hc;omega⟩,fun c hc=>by simp at hc,C8 (by decide)⟩)
 have hok:=Yl (fun r hr=>(hr1 r hr).1) ha hmod;refine ⟨_,hok,?_⟩;have w1:=CB V' rnn rows;rw[he]at w1;have w2:aB Tryz.prog 67 [i64 (V':Nat),.sl rnn (rows.map Row.tr),.sl false []] _:=Aa rnn (more:=[]) hr1 false (fun c hc=>by simp at hc) (by omega) (by simp;omega);have w3:=QS V' (-1) (by omega) ⟨by decide,by decide⟩;cases ans with
 |inl y =>
  have hyl:y.length=rows.length:=by
   unfold jh at ha;rw[nO]at ha;simpa using ha.1
  have hy0:∀x∈y,0<=x:=by
   unfold jh at ha;rw[nO]at ha;exact qj (by simpa using ha.1) ha.2.1
  have w4:=Jv true hN hA.over (by show y.length<=_;omega) hy0;unfold mg at hd;simp only[TI]at w4;unfold BF at hok ⊢;simp only at hok hd ⊢;cases hmo:lM y with
  |some ms =>
   rw[hmo]at w4 hok;have hye:(!y.isEmpty)=true:=by
    obtain ⟨h1,h2,_⟩:=hok;cases y with
    |nil =>
     rw[<- hyl]at h1;exact absurd (List.eq_nil_of_length_eq_zero h1) h2
    |cons a l=>rfl
   rw[hye]at w4;clear hok hmod hA ha hrc hr1 hS he hy0;refine au orders Tryz.func18 rfl (by kernel_rfl) bf (by kernel_rfl) rfl (fun hs=>?_);clear hs
   repeat' (first|refine sX ?_ ?_<;>intro h|refine aj (w1) rfl ?_|refine aj (w2) rfl ?_|refine aj (w3) rfl ?_|refine aj (hd) rfl ?_|refine aj (w4) rfl ?_|simp only[go_sem, *])
   rfl
  |none =>
   rw[hmo]at w4 hok;clear hok hmod hA ha hrc hr1 hS he hy0;refine au orders Tryz.func18 rfl (by kernel_rfl) bf (by kernel_rfl) rfl (fun hs=>?_);clear hs
   repeat' (first|refine sX ?_ ?_<;>intro h|refine aj (w1) rfl ?_|refine aj (w2) rfl ?_|refine aj (w3) rfl ?_|refine aj (hd) rfl ?_|refine aj (w4) rfl ?_|simp only[go_sem, *])
   rfl
 |inr u =>
  obtain ⟨hul,hpos⟩:=aaU ha;have hFB:=hA.over.FB;have huV:u.getD V' 0∈u:=jy (by omega);have w4:=ML true (l:=u.take V') (b:=u.getD V' 0) hN (fun x hx=>hFB x (List.mem_of_mem_take hx)) (hFB _ huV) hpos (by simp;omega);have hq:(u.map aH)[V']?=some (aH (u.getD V' 0)):=by
   rw[List.getElem?_map,List.getD_eq_getElem?_getD,List.getElem?_eq_getElem (by omega)];rfl
  unfold mg at hd;unfold BF at hok ⊢;simp only at hok hd ⊢;rw[List.map_take]at w4;have adV:(flat (u.map aH)).length=(V'+1)*6:=by rw[qU,hul]
  generalize u.getD V' 0=b at *;cases hpo:iM (u.take V') b with
  |some p =>
   rw[hpo]at w4 hok;clear hok hmod hA ha hrc hr1 hS he hFB huV;unfold sU at w4;simp only at w4;refine au orders Tryz.func18 rfl (by kernel_rfl) bf (by kernel_rfl) rfl (fun hs=>?_);clear hs
   repeat' (first|refine sX ?_ ?_<;>intro h|refine aj (w1) rfl ?_|refine aj (w2) rfl ?_|refine aj (w3) rfl ?_|refine aj (hd) rfl ?_|refine aj (w4) rfl ?_|simp only[go_sem, *])
   with_reducible refine dS ?_ ?_
   ·omega
   repeat' (first|refine sX ?_ ?_<;>intro h|refine aj (w1) rfl ?_|refine aj (w2) rfl ?_|refine aj (w3) rfl ?_|refine aj (hd) rfl ?_|refine aj (w4) rfl ?_|simp only[go_sem, *])
   all_goals rfl
  |none =>
   rw[hpo]at w4 hok;clear hok hmod hA ha hrc hr1 hS he hFB huV;unfold sU at w4;simp only at w4;refine au orders Tryz.func18 rfl (by kernel_rfl) bf (by kernel_rfl) rfl (fun hs=>?_);clear hs
   repeat' (first|refine sX ?_ ?_<;>intro h|refine aj (w1) rfl ?_|refine aj (w2) rfl ?_|refine aj (w3) rfl ?_|refine aj (hd) rfl ?_|refine aj (w4) rfl ?_|simp only[go_sem, *])
   with_reducible refine dS ?_ ?_
   ·omega
   repeat' (first|refine sX ?_ ?_<;>intro h|refine aj (w1) rfl ?_|refine aj (w2) rfl ?_|refine aj (w3) rfl ?_|refine aj (hd) rfl ?_|refine aj (w4) rfl ?_|simp only[go_sem, *])
   all_goals rfl
def kW (V:Nat) (rows:List Row):Prop:=∃z:List Rat,z.length=rows.length/\(∀x∈z,0<=x)/\(∀k,k < V->bX k rows z=0)/\bX V rows z=-1
theorem kW.empty {V:Nat}{rows:List Row}{p:List Rat} (h:kW V rows) (hr:∀r∈rows,r.av.length=V) (hp:∀r∈rows,0<=dL r p):False:=by
 obtain ⟨z,_,h1,h2,h3⟩:=h;exact F7 hr hp h1 h2 h3
theorem BX {V:Nat}{rows:List Row}{ms:List Nat} (hr:∀r∈rows,r.av.length=V) (hl:ms.length=rows.length) (h:kQ (bF (List.replicate V zW) ⟨true,0⟩ rows ms).1 (bF (List.replicate V zW) ⟨true,0⟩ rows ms).2=true):kW V rows:=by
 obtain ⟨c1,c2⟩:=uM rows ms hr;have hl2:=nK rows ms (List.replicate V zW) ⟨true,0⟩ (by simp) hr;generalize bF (List.replicate V zW) ⟨true,0⟩ rows ms=q at *;simp only[kQ,Bool.and_eq_true,decide_eq_true_eq,List.all_eq_true]at h;obtain ⟨h1,h2⟩:=h;rw[c2]at h1;have h3:∀k,k < V->kr k rows ms=0:=fun k hk=>by
  rw[<- c1 k hk,List.getD_eq_getElem?_getD,List.getElem?_map];cases e:q.1[k]? with
  |none=>rfl
  |some x=>exact h2 x (List.mem_of_getElem? e)
 obtain ⟨n,hn⟩:∃n:Nat,kr V rows ms=-(n+1:Nat):=⟨(-(kr V rows ms)-1).toNat,by omega⟩
 have hp:=yM (Nat.succ_pos n);have hi:=Rat.inv_pos.2 hp;have hne:((n+1:Nat):Rat)≠0:=fun e=>by
  have hp':=hp;rw[show (n.succ:Rat)=((n+1:Nat):Rat) from rfl,e]at hp';exact absurd hp' (by decide)
 have hc:=Rat.mul_inv_cancel _ hne;refine ⟨(ms.map fun m=>((m:Nat):Rat)).map (·*((n+1:Nat):Rat)⁻¹),by simp[hl],fun x hx=>?_,fun k hk=>?_,?_⟩
 ·obtain ⟨w,hw,rfl⟩:=List.mem_map.1 hx
  obtain ⟨m,_,rfl⟩:=List.mem_map.1 hw;exact Rat.mul_nonneg (aad m) (Rat.le_of_lt hi)
 ·rw[qd,<- vN,h3 k hk,rc0];grind
 ·rw[qd,<- vN,hn,Rat.intCast_neg,show (((n+1:Nat):Int):Rat)=((n+1:Nat):Rat) from rfl];grind
theorem uY {V n:Nat}{r:Row} (h:r.av.length=V):(wide n r).av.length=V+n:=by simp[wide,h]
theorem sG {V n:Nat}{r:Row} (h:r.av.length=V) {k:Nat}:(k < V->dQ (wide n r) k=dQ r k)/\(V<=k->k < V+n->dQ (wide n r) k=0)/\dQ (wide n r) (V+n)=dQ r V:=by
 refine ⟨fun hk=>?_,fun h1 h2=>?_,?_⟩
 ·rw[fM (uY h) (by omega),fM h hk]
  simp only[wide,List.getD_eq_getElem?_getD];rw[List.getElem?_append_left (by omega)]
 ·rw[fM (uY h) h2]
  simp only[wide,List.getD_eq_getElem?_getD];rw[List.getElem?_append_right (by omega),List.getElem?_replicate];split<;>rfl
 ·rw[gP (uY h),gP h];rfl
theorem vW {k k':Nat} (g:Row->Row):∀(rows:List Row) (z:List Rat),(∀r∈rows,dQ (g r) k'=dQ r k)->bX k' (rows.map g) z=bX k rows z
 |[],z,_=>by cases z<;>rfl
 |r::rows,[],_=>rfl
 |r::rows,y::z,h=>by
  simp only[List.map_cons,bX];rw[h r (by simp),vW g rows z fun x hx=>h x (by simp[hx])]
theorem Jw {k:Nat}:∀(rows:List Row) (z:List Rat),(∀r∈rows,dQ r k=0)->bX k rows z=0
 |[],z,_=>by cases z<;>rfl
 |r::rows,[],_=>rfl
 |r::rows,y::z,h=>by
  simp only[bX];rw[h r (by simp),Jw rows z (fun x hx=>h x (by simp[hx])),rc0];grind
theorem Gi (k:Nat):∀(rows:List Row) (n:Nat),bX k rows (List.replicate n 0)=0
 |[],n=>by cases n<;>rfl
 |r::rows,0=>rfl
 |r::rows,n+1=>by
  simp only[List.replicate_succ,bX];rw[Gi k rows n];grind
theorem kW.widen {V n:Nat}{rows:List Row} (hr:∀r∈rows,r.av.length=V) (h:kW V rows):kW (V+n) (rows.map (wide n)):=by
 obtain ⟨z,h1,h2,h3,h4⟩:=h;refine ⟨z,by rw[List.length_map];exact h1,h2,fun k hk=>?_,?_⟩
 ·rcases Nat.lt_or_ge k V with h|h
  ·rw[vW (k:=k) _ rows z fun r hr'=>(sG (hr r hr')).1 h];exact h3 k h
  ·refine Jw _ z fun r hr'=>?_
   obtain ⟨x,hx,rfl⟩:=List.mem_map.1 hr';exact (sG (k:=k) (hr x hx)).2.1 h hk
 ·rw[vW (k:=V) _ rows z fun r hr'=>(sG (k:=0) (hr r hr')).2.2];exact h4
theorem kW.narrow {V n:Nat}{rows:List Row} (hr:∀r∈rows,r.av.length=V) (h:kW (V+n) (rows.map (wide n))):kW V rows:=by
 obtain ⟨z,h1,h2,h3,h4⟩:=h;refine ⟨z,by rw[List.length_map]at h1;exact h1,h2,fun k hk=>?_,?_⟩
 ·rw[<- vW (k:=k) (wide n) rows z fun r hr'=>(sG (hr r hr')).1 hk];exact h3 k (by omega)
 ·rw[<- vW (k:=V) (wide n) rows z fun r hr'=>(sG (k:=0) (hr r hr')).2.2];exact h4
end ama
end Go.Vm
end
