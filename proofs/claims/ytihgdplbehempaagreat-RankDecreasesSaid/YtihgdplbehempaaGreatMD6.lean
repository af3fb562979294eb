import Derived.Test.YtihgdplbehempaaGreatMD5
set_option linter.unusedSimpArgs false
set_option linter.unusedVariables false
set_option maxRecDepth 10000
section
namespace Go.Vm
open Go Go.Proofs Go.Whole Go.bB
namespace ama
open Go.Proofs.Tryz
def qZ (f:Flow) (V:Nat) (t i:Int):Blk:=zU V (aK f i) (if i=t then 1 else 0)
def eH (f:Flow) (V:Nat) (en:Int->Bool) (left:List Int) (t:Int):List Blk:=(left.filter en).map (qZ f V t)++if en t=true then [ng V (aK f t)] else []
def adW (f:Flow) (V:Nat) (en:Int->Bool) (left:List Int):Prop:=∀i∈left,en i=false->kW V (aK f i).guard
structure uh (L V:Nat) (x:Trans):Prop where
 qA:0<=x.from_
 nC:x.from_.toNat < L
 to1:0<=x.to_
 to2:x.to_.toNat < L
 guard:x.guard.length<=16
 rows:∀r∈x.guard,r.av.length=V/\aU r.const=true/\∀c∈r.av,aU c=true
 next:x.next.length=V
 upd:∀u∈x.next,(u.any=false->u.expr.av.length=V)/\aU u.expr.const=true/\∀c∈u.expr.av,aU c=true
theorem sV {v:Int}{r:Row} (h:bC v r=true):(r.av.length:Int)=v/\aU r.const=true/\∀c∈r.av,aU c=true:=by
 simp only[bC,Bool.and_eq_true,Bool.not_eq_true',bne_eq_false_iff_eq,List.all_eq_true]at h;exact ⟨h.1,h.2.1,h.2.2⟩
structure Xm (f:Flow) (fs:List Row) (left:List Int) (t:Int):Prop where
 bound:∀p,(∀r∈(aK f t).guard,0<=dL r p)->0<=dL (rowAt fs (aK f t).from_) p
 afp:∀p,(∀r∈(aK f t).guard.map (wide (aG (aK f t).next)),0<=dL r p)->0<=dL (dO f fs t 1) p
 afq:∀i∈left,∀p,(∀r∈(aK f i).guard.map (wide (aG (aK f i).next)),0<=dL r p)->0<=dL (dO f fs i 0) p
theorem QT (f:Flow) (fs:List Row) (i d:Int) (p:List Rat):dL (dO f fs i d) p=dL (dO f fs i 0) p-(d:Rat):=by
 unfold dO;rw[vP,TN]
theorem Yw {f:Flow}{V L:Nat}{y:Nat->Rat}{fs:List Row}{en:Int->Bool}{left:List Int}{t:Int} (hy:∀c,0<=y c) (ht:t∈left) (hg:∀i∈left,uh L V (aK f i)) (hs:sats y (2*(L*(V+1))) (eH f V en left t)) (hen:adW f V en left)
  (hf:nR V L y=some fs):Xm f fs left t:=by
 obtain ⟨_,_,hfs⟩:=Jo hf;have hDn:=CU (bZ V L y);have hD1:(1:Rat)<=(fI (bZ V L y):Rat):=by
  have:((1:Int):Rat)<=((fI (bZ V L y):Int):Rat):=Rat.intCast_le_intCast.2 (by omega);exact this
 generalize fI (bZ V L y)=D at *;have hD0:(0:Rat)<=(D:Rat):=Rat.le_trans (by decide) hD1;have hrow:∀l:Int,0<=l->l.toNat < L->(rowAt fs l).av.length=V/\∀j,j<=V->((dQ (rowAt fs l) j:Int):Rat)=Fq V y l.toNat j*(D:Rat):=fun l _ h1=>hfs l.toNat h1
 have hdr:∀i∈left,∀p,(∀r∈(aK f i).guard.map (wide (aG (aK f i).next)),0<=dL r p)->(((if i=t then 1 else 0:Int)):Rat)*(D:Rat)<=dL (dO f fs i 0) p:=fun i hi p hp=>by
  have g:=hg i hi;obtain ⟨a1,a2⟩:=hrow _ g.qA g.nC;obtain ⟨b1,b2⟩:=hrow _ g.to1 g.to2;cases hei:en i with
  |false =>
   exfalso;refine (kW.widen (n:=aG (aK f i).next) (fun r hr=>(g.rows r hr).1) (hen i hi hei)).empty (fun r hr=>?_) hp;obtain ⟨x,hx,rfl⟩:=List.mem_map.1 hr;exact uY (g.rows x hx).1
  |true =>
   obtain ⟨first,hb⟩:=HV hs (qZ f V t i) (by
    unfold eH;exact List.mem_append_left _ (List.mem_map.2 ⟨i,List.mem_filter.2 ⟨hi,hei⟩,rfl⟩))
   refine Blk.implies (b:=qZ f V t i) hb hy (fun r hr=>?_) ?_ hD0 ?_ hp
   ·obtain ⟨x,hx,rfl⟩:=List.mem_map.1 hr
    exact uY (g.rows x hx).1
   ·exact xK a1 (b1.trans g.next.symm) (fun u hu=>(g.upd u hu).1)
   ·exact Jm a1 b1 g.next (fun u hu=>(g.upd u hu).1) a2 b2 _
 refine ⟨fun p hp=>?_,fun p hp=>?_,fun i hi p hp=>?_⟩
 ·have g:=hg t ht
  obtain ⟨a1,a2⟩:=hrow _ g.qA g.nC;cases het:en t with
  |false=>exact absurd ((hen t ht het).empty (fun r hr=>(g.rows r hr).1) hp) id
  |true =>
   obtain ⟨first,hb⟩:=HV hs (ng V (aK f t)) (by
    unfold eH;rw[if_pos het];exact List.mem_append_right _ (by simp))
   have:=Blk.implies (b:=ng V (aK f t)) hb hy (fun r hr=>(g.rows r hr).1) a1 hD0 a2 hp;rw[show ((ng V (aK f t)).d:Rat)=0 from rfl]at this;grind
 ·have:=hdr t ht p hp
  rw[if_pos rfl,show ((1:Int):Rat)=1 from rfl]at this;rw[QT,show ((1:Int):Rat)=1 from rfl];grind
 ·have h1:=hdr i hi p hp
  have h2:(0:Rat)<=(((if i=t then 1 else 0:Int)):Rat)*(D:Rat):=Rat.mul_nonneg (by split<;>decide) hD0;exact Rat.le_trans h2 h1
theorem yS {V L l j:Nat}{y y':Nat->Rat} (h:∀c,c < 2*(L*(V+1))->y c=y' c) (hl:l < L) (hj:j<=V):Fq V y l j=Fq V y' l j:=by
 have hr:l*(V+1)+(V+1)<=L*(V+1):=by rw[<- Nat.succ_mul];exact Nat.mul_le_mul_right _ hl
 unfold Fq eG;rw[h _ (by omega),h _ (by omega)]
theorem Gj {V L to last i:Nat}{y y':Nat->Rat} (h:∀c,c < 2*(L*(V+1))->y c=y' c) (ht:to < L):∀(us:List Upd) (v k:Nat),v+us.length<=V->iA V to last y i us v k=iA V to last y' i us v k
 |[],_,_,_=>rfl
 |u::us,v,k,hv=>by
  rw[List.length_cons]at hv;simp only[iA];rw[Gj h ht us _ _ (by omega),yS h ht (show v<=V by omega)]
theorem OY {f:Flow}{L V:Nat}{t i:Int} (g:uh L V (aK f i)):(qZ f V t i).Low (2*(L*(V+1))):=fun y y' h k _=>by
 show ku _ _ _ _ _ _+iA _ _ _ _ _ _ _ _=ku _ _ _ _ _ _+iA _ _ _ _ _ _ _ _
 rw[Gj h g.to2 _ _ _ (by rw[g.next];omega)];congr 1;unfold ku;rw[yS h g.nC (Nat.le_refl V),yS h g.to2 (Nat.le_refl V)]
 by_cases hk:k < V
 ·rw[if_pos hk,if_pos hk,yS h g.nC (by omega)]
 ·rw[if_neg hk,if_neg hk]
def Ab (V L:Nat) (fs:List Row):List Rat:=(List.range (2*(L*(V+1)))).map fun c =>
 if c % 2=0 then max ((dQ (fs.getD (c / 2 / (V+1)) vJ) (c / 2 % (V+1)):Int):Rat) 0 else max (-((dQ (fs.getD (c / 2 / (V+1)) vJ) (c / 2 % (V+1)):Int):Rat)) 0
theorem EG (x:Rat):0<=max x 0/\0<=max (-x) 0/\max x 0-max (-x) 0=x:=by
 rcases Rat.le_total (a:=x) (b:=0) with h|h
 ·have h2:0<=-x:=by grind
  rw[Rat.max_def,Rat.max_def];grind
 ·have h2:-x<=0:=by grind
  rw[Rat.max_def,Rat.max_def];grind
theorem VO (V L:Nat) (fs:List Row):(Ab V L fs).length=2*(L*(V+1)):=by simp[Ab]
theorem Nz (V L:Nat) (fs:List Row):∀x∈Ab V L fs,0<=x:=fun x hx=>by
 obtain ⟨c,_,rfl⟩:=List.mem_map.1 hx;split
 ·exact (EG _).1
 ·exact (EG _).2.1
theorem VP {V L:Nat} (fs:List Row) {l j:Nat} (hl:l < L) (hj:j<=V):Fq V (atL (Ab V L fs)) l j=((dQ (fs.getD l vJ) j:Int):Rat):=by
 have hr:l*(V+1)+(V+1)<=L*(V+1):=by rw[<- Nat.succ_mul];exact Nat.mul_le_mul_right _ hl
 have e1:(l*(V+1)+j) / (V+1)=l:=by
  rw[Nat.mul_comm,Nat.mul_add_div (by omega),Nat.div_eq_of_lt (by omega)];rfl
 have e2:(l*(V+1)+j) % (V+1)=j:=by
  rw[Nat.mul_comm,Nat.mul_add_mod,Nat.mod_eq_of_lt (by omega)]
 have h1:2*(l*(V+1)+j) / 2=l*(V+1)+j:=by omega
 have h2:(2*(l*(V+1)+j)+1) / 2=l*(V+1)+j:=by omega
 have h3:2*(l*(V+1)+j) % 2=0:=by omega
 have h4:(2*(l*(V+1)+j)+1) % 2=1:=by omega
 have c1:2*(l*(V+1)+j) < 2*(L*(V+1)):=by omega
 have c2:2*(l*(V+1)+j)+1 < 2*(L*(V+1)):=by omega
 unfold Fq eG atL Ab;simp only[List.getD_eq_getElem?_getD,List.getElem?_map,List.getElem?_range c1,List.getElem?_range c2,Option.map_some,Option.getD_some,h1,h2,h3,h4,e1,e2,if_true,show ¬(1:Nat)=0 by decide,if_false];exact (EG _).2.2
theorem acG {b b':Blk}{y:Nat->Rat} (hE:b'.E=b.E) (hl:b'.last=b.last) (hg:b'.guard=b.guard) (hd:b'.d<=b.d)
  (h:∃l:List Rat,∃s:Rat,l.length=b.guard.length/\(∀x∈l,0<=x)/\0<=s/\∀i,i<=b.last->b.E y i=bX i b.guard l+if i=b.last then (b.d:Rat)+s else 0) :
  ∃l:List Rat,∃s:Rat,l.length=b'.guard.length/\(∀x∈l,0<=x)/\0<=s/\∀i,i<=b'.last->b'.E y i=bX i b'.guard l+if i=b'.last then (b'.d:Rat)+s else 0:=by
 obtain ⟨l,s,h1,h2,h3,h4⟩:=h;have h5:(b'.d:Rat)<=(b.d:Rat):=Rat.intCast_le_intCast.2 hd;refine ⟨l,s+((b.d:Rat)-(b'.d:Rat)),by rw[hg];exact h1,h2,by grind,fun i hi=>?_⟩;rw[hE,hg,hl,h4 i (by omega)];split<;>grind
theorem aaV {b:Blk}{y:Nat->Rat} (hE:∀i,i<=b.last->b.E y i=0) (hd:b.d=0) :
  ∃l:List Rat,∃s:Rat,l.length=b.guard.length/\(∀x∈l,0<=x)/\0<=s/\∀i,i<=b.last->b.E y i=bX i b.guard l+if i=b.last then (b.d:Rat)+s else 0:=by
 refine ⟨List.replicate b.guard.length 0,0,by simp,fun x hx=>by rw[(List.mem_replicate.1 hx).2];exact Rat.le_refl,Rat.le_refl,fun i hi=>?_⟩;rw[hE i hi,Gi,hd,rc0];split<;>grind
theorem Jy {V to last i:Nat}{y:Nat->Rat} (h:∀l j,Fq V y l j=0):∀(us:List Upd) (v k:Nat),iA V to last y i us v k=0
 |[],_,_=>rfl
 |u::us,v,k=>by
  simp only[iA,h];rw[Jy h us];split
  ·split<;>grind
  ·split
   ·grind
   ·split<;>grind
theorem MN {f:Flow}{V:Nat}{t i:Int}{y:Nat->Rat} (h:∀l j,Fq V y l j=0) (k:Nat):(qZ f V t i).E y k=0:=by
 show ku _ _ _ _ _ _+iA _ _ _ _ _ _ _ _=0
 rw[Jy h];unfold ku;simp only[h];split
 ·grind
 ·split<;>grind
theorem wY {f:Flow}{V:Nat}{en:Int->Bool}{left:List Int}{t:Int}{b:Blk} (h:b∈eH f V en left t):(∃i∈left,b=qZ f V t i)\/b=ng V (aK f t):=by
 unfold eH at h;rcases List.mem_append.1 h with h|h
 ·obtain ⟨i,hi,rfl⟩:=List.mem_map.1 h
  exact .inl ⟨i,(List.mem_filter.1 hi).1,rfl⟩
 ·split at h
  ·exact .inr (List.mem_singleton.1 h)
  ·simp at h
theorem Jz {L V:Nat}{x:Trans} (g:uh L V x):(ng V x).Low (2*(L*(V+1))):=fun y y' h i hi=>yS h g.nC hi
theorem BZ {V L:Nat}{F:List Rat} (hF0:∀x∈F,0<=x) (hFl:F.length=2*(L*(V+1))) {bs:List Blk} (hlow:∀b∈bs,b.Low (2*(L*(V+1))))
  (hb:∀b∈bs,∃l:List Rat,∃s:Rat,l.length=b.guard.length/\(∀x∈l,0<=x)/\0<=s/\∀i,i<=b.last->b.E (atL F) i=bX i b.guard l+if i=b.last then (b.d:Rat)+s else 0) :
  ∃y:Nat->Rat,(∀c,0<=y c)/\sats y (2*(L*(V+1))) bs:=by
 rw[<- hFl]at hlow ⊢;obtain ⟨post,_,e2,e3⟩:=Jl hF0 bs F (Nat.le_refl _) (fun c _=>rfl) hF0 hlow hb;refine ⟨atL (F++post),fun c=>?_,e3⟩;unfold atL;rw[List.getD_eq_getElem?_getD];cases e:(F++post)[c]? with
 |none=>exact Rat.le_refl
 |some x=>exact e2 x (List.mem_of_getElem? e)
theorem VQ {f:Flow}{K:List Int}{a b:Int} (h:Reach f K a b):Reach f K b a->Reach f (cyc f K) a b:=by
 induction h with
 |refl=>intro _;exact .refl
 |@step i t hi ht h ih =>
  intro hb;have h2:Reach f K t.from_ a:=(Reach.step hi ht .refl).trans hb;refine .step ?_ ht (ih h2);refine List.mem_filter.2 ⟨hi,?_⟩;unfold qD;rw[ht];exact nD.2 (hb.trans h)
theorem OZ {f:Flow}{K:List Int}{i:Int} (h:i∈cyc f K):i∈cyc f (cyc f K):=by
 refine List.mem_filter.2 ⟨h,?_⟩;obtain ⟨hi,hc⟩:=List.mem_filter.1 h;unfold qD at hc ⊢;split at hc
 ·rename_i t ht
  exact nD.2 (VQ (nD.1 hc) (.step hi ht .refl))
 ·cases hc
theorem T9 {r:Row}{W:Nat} (h:r.av.length=W) (nn:Bool) (d:Int) {k:Nat} (hk:k<=W):dQ ⟨nn,r.av,r.const-d⟩ k=dQ r k-if k=W then d else 0:=by
 rcases Nat.lt_or_ge k W with h1|h1
 ·rw[fM (r:=⟨nn,r.av,r.const-d⟩) h h1,fM h h1,if_neg (by omega),Int.sub_zero]
 ·have:k=W:=by omega
  subst this;rw[gP (r:=⟨nn,r.av,r.const-d⟩) h,gP h,if_pos rfl]
theorem Dz {W:Nat}{v:Int} (hv:v=(W:Nat)) {rows:List Row}{row:Row}{c:Cert} (h:bV v rows row c=true) :
  c.ms.length=rows.length/\gZ (bF (List.replicate W zW) ⟨true,0⟩ rows c.ms) row c.scale=true:=by
 subst hv;simp only[bV,lY,nJ,Bool.and_eq_true,decide_eq_true_eq,Int.toNat_natCast]at h;exact ⟨h.1.2.1.1,h.2⟩
theorem NA {f:Flow}{s:bq}{rem:List Int} (hf:CJ f s rem) (hp:jm f s rem=true) {V L:Nat} (hV:f.vars=(V:Nat)) (hL:f.dD=(L:Nat)) {left:List Int} (hsub:∀i∈left,i∈rem) (hg:∀i∈left,uh L V (aK f i))
  (hnc:∀i∈left,¬kW V (aK f i).guard) {t:Int} (ht:t∈left) (hts:t∈s.strict) {en:Int->Bool}:∀b∈eH f V en left t,b.Low (2*(L*(V+1)))/\∃l:List Rat,∃s':Rat,l.length=b.guard.length/\(∀x∈l,0<=x)/\0<=s'/\∀i,i<=b.last->b.E (atL (Ab V L s.funcs)) i=bX i b.guard l+if i=b.last then (b.d:Rat)+s' else 0:=by
 simp only[jm,Bool.and_eq_true]at hp;have hrow:∀l:Int,0<=l->l.toNat < L->(rowAt s.funcs l).av.length=V/\∀j,j<=V->((dQ (rowAt s.funcs l) j:Int):Rat)=Fq V (atL (Ab V L s.funcs)) l.toNat j*1:=fun l h0 h1=>by
  have hm:=LK (l:=s.funcs) h0 (by have:=hf.dD;omega);have:=(sV (hf.right _ hm)).1;refine ⟨by omega,fun j hj=>?_⟩;rw[VP s.funcs h1 hj]
  show _=((dQ (rowAt s.funcs l) j:Int):Rat)*1
  grind
 intro b hb;rcases wY hb with ⟨i,hi,rfl⟩|rfl
 ·have g:=hg i hi
  refine ⟨OY g,?_⟩;obtain ⟨a1,a2⟩:=hrow _ g.qA g.nC;obtain ⟨b1,b2⟩:=hrow _ g.to1 g.to2;obtain ⟨c,hc⟩:=zH hp.2 (by rw[hf.dl];exact Nat.le_refl _) i (hsub i hi);obtain ⟨c1,c2⟩:=Dz (W:=V+aG (aK f i).next) (by rw[hV];omega) hc;have hgw:∀r∈(aK f i).guard.map (wide (aG (aK f i).next)),r.av.length=V+aG (aK f i).next:=fun r hr=>by
   obtain ⟨x,hx,rfl⟩:=List.mem_map.1 hr;exact uY (g.rows x hx).1
  have hlen:=xK (nn:=true) (d:=0) a1 (b1.trans g.next.symm) (fun u hu=>(g.upd u hu).1);have hsc:c.scale≠0:=fun e=>by
   rw[e]at c2;unfold gZ at c2;rw[if_pos rfl]at c2;exact hnc i hi (kW.narrow (fun r hr=>(g.rows r hr).1) (BX hgw c1 c2))
  have hen:=Jm (D:=1) a1 b1 g.next (fun u hu=>(g.upd u hu).1) a2 b2 (dw s.strict i);refine acG (b:=zU V (aK f i) (dw s.strict i)) rfl rfl rfl ?_ ?_
  ·show (if i=t then 1 else 0:Int)<=dw s.strict i
   by_cases e:i=t
   ·subst e
    rw[if_pos rfl,dw,if_pos (kI.2 hts)];exact Int.le_refl 1
   ·rw[if_neg e]
    unfold dw;split<;>decide
  ·refine Blk.TM (row:=dO f s.funcs i (dw s.strict i)) hgw ?_ hsc c1 c2 fun k hk=>?_
   ·unfold dO
    rw[vP];exact hlen
   ·have e:=hen k hk
    unfold dO;rw[vP,T9 hlen true _ hk];rw[show (zU V (aK f i) (dw s.strict i)).E (atL (Ab V L s.funcs)) k*1=(zU V (aK f i) (dw s.strict i)).E (atL (Ab V L s.funcs)) k by grind]at e;rw[<- e,Int.sub_eq_add_neg,Rat.intCast_add,Rat.intCast_neg]
    show _=_+if k=V+aG (aK f i).next then ((dw s.strict i:Int):Rat) else 0
    split
    ·grind
    ·rw[rc0];grind
 ·have g:=hg t ht
  refine ⟨Jz g,?_⟩;obtain ⟨a1,a2⟩:=hrow _ g.qA g.nC;obtain ⟨c,hc⟩:=xG hp.1 (by rw[hf.bl];exact Nat.le_refl _) t hts;obtain ⟨c1,c2⟩:=Dz hV hc;have hsc:c.scale≠0:=fun e=>by
   rw[e]at c2;unfold gZ at c2;rw[if_pos rfl]at c2;exact hnc t ht (BX (fun r hr=>(g.rows r hr).1) c1 c2)
  refine Blk.TM (b:=ng V (aK f t)) (fun r hr=>(g.rows r hr).1) a1 hsc c1 c2 fun k hk=>?_
  rw[a2 k hk,show ((ng V (aK f t)).d:Rat)=0 from rfl]
  show Fq V _ _ _=_
  split<;>grind
theorem feasible {f:Flow}{r:bY} (hr:Ki f r) {V L:Nat} (hV:f.vars=(V:Nat)) (hL:f.dD=(L:Nat)) {left:List Int} (hne:left≠[]) (adX:∀i∈left,i∈cyc f left) (hsub:∀i∈left,i∈allT f) (hg:∀i∈left,uh L V (aK f i)) (en:Int->Bool) :
  ∃t∈left,∃y:Nat->Rat,(∀c,0<=y c)/\sats y (2*(L*(V+1))) (eH f V en left t):=by
 by_cases hc:∃i∈left,kW V (aK f i).guard
 ·obtain ⟨t,ht,z,z1,z2,z3,z4⟩:=hc
  have hF:∀l j,Fq V (atL (List.replicate (2*(L*(V+1))) 0)) l j=0:=fun l j=>by
   unfold Fq atL;simp only[List.getD_eq_getElem?_getD,List.getElem?_replicate];split<;>split<;>simp only[Option.getD_some,Option.getD_none]<;>grind
  refine ⟨t,ht,BZ (F:=List.replicate (2*(L*(V+1))) 0) (fun x hx=>by rw[(List.mem_replicate.1 hx).2];exact Rat.le_refl) (by simp) (fun b hb=>?_) (fun b hb=>?_)⟩
  ·rcases wY hb with ⟨i,hi,rfl⟩|rfl
   ·exact OY (hg i hi)
   ·exact Jz (hg t ht)
  ·rcases wY hb with ⟨i,hi,rfl⟩|rfl
   ·by_cases e:i=t
    ·subst e
     obtain ⟨w,w1,w2,w3,w4⟩:=kW.widen (n:=aG (aK f i).next) (fun r hr=>((hg i hi).rows r hr).1) ⟨z,z1,z2,z3,z4⟩;refine Blk.VL (b:=qZ f V i i) w1 w2 w3 w4 ?_ fun k _=>MN hF k
     show (0:Int)<=if i=i then 1 else 0
     split<;>decide
    ·refine aaV (fun k _=>MN hF k) ?_
     show (if i=t then 1 else 0:Int)=0
     rw[if_neg e]
   ·exact aaV (b:=ng V (aK f t)) (fun k _=>hF _ _) rfl
 ·have hex:∃k s t,r.stages[k]?=some s/\(∀i∈left,i∈wR f r k)/\t∈left/\t∈s.strict:=by
   refine Classical.byContradiction fun hn=>?_
   have hall:∀k,k<=r.stages.length->∀i∈left,i∈wR f r k:=by
    intro k
    induction k with
    |zero=>exact fun _ i hi=>Oa hsub (adX i hi)
    |succ k ih =>
     intro hk i hi;obtain ⟨s,hs⟩:∃s,r.stages[k]?=some s:=⟨_,List.getElem?_eq_getElem (by omega)⟩
     rw[QB hs];refine Oa (fun j hj=>Qy.2 ⟨ih (by omega) j hj,fun hjs=>hn ⟨k,s,j,hs,ih (by omega),hj,hjs⟩⟩) (adX i hi)
   obtain ⟨i,hi⟩:=List.exists_mem_of_ne_nil left hne;have:=hall r.stages.length (Nat.le_refl _) i hi;unfold wR at this;rw[List.take_length,hr.done]at this;simp at this
  obtain ⟨k,s,t,hs,hl,ht,hts⟩:=hex;obtain ⟨hf,hp⟩:=hr.stage hs;have hb:=NA hf hp hV hL hl hg (fun i hi hh=>hc ⟨i,hi,hh⟩) ht hts (en:=en);exact ⟨t,ht,BZ (Nz V L s.funcs) (VO V L s.funcs) (fun b hm=>(hb b hm).1) (fun b hm=>(hb b hm).2)⟩
def Kl (y:Nat->Rat) (r:List Int):Rat:=wW y r.length (fun j=>r.getD j 0)
def mG (y:Nat->Rat) (R:List (List Int)) (b:List Int):Prop:=∀(i:Nat) r x,R[i]?=some r->b[i]?=some x->Kl y r=(x:Rat)
theorem mG.append {y:Nat->Rat}{R R2:List (List Int)}{b b2:List Int} (hl:b.length=R.length):mG y (R++R2) (b++b2)↔mG y R b/\mG y R2 b2:=by
 constructor
 ·intro h
  refine ⟨fun i r x h1 h2=>h i r x ?_ ?_,fun i r x h1 h2=>h (R.length+i) r x ?_ ?_⟩
  ·have:=(List.getElem?_eq_some_iff.1 h1).1
   rw[List.getElem?_append_left (by omega)];exact h1
  ·have:=(List.getElem?_eq_some_iff.1 h2).1
   rw[List.getElem?_append_left (by omega)];exact h2
  ·rw[List.getElem?_append_right (by omega),Nat.add_sub_cancel_left];exact h1
  ·rw[List.getElem?_append_right (by omega),hl,Nat.add_sub_cancel_left];exact h2
 ·rintro ⟨h,h'⟩ i r x h1 h2
  rcases Nat.lt_or_ge i R.length with hi|hi
  ·rw[List.getElem?_append_left hi]at h1
   rw[List.getElem?_append_left (by omega)]at h2;exact h i r x h1 h2
  ·rw[List.getElem?_append_right hi]at h1
   rw[List.getElem?_append_right (by omega),hl]at h2;exact h' _ r x h1 h2
theorem Ua (y:Nat->Rat) (a n:Nat):oF y a (n+1)=y a::oF y (a+1) n:=by
 unfold oF;rw[List.range_succ_eq_map,List.map_cons,List.map_map,Nat.add_zero];congr 1;refine List.map_congr_left fun k _=>?_
 show y (a+(k+1))=y (a+1+k)
 rw[show a+(k+1)=a+1+k by omega]
theorem EH {y:Nat->Rat}{last i:Nat} (g:Row->Row):∀(rows:List Row) (a:Nat),(∀r∈rows,dQ (g r) i=ge last r i)->uD y last i rows a=bX i (rows.map g) (oF y a rows.length)
 |[],_,_=>rfl
 |r::rows,a,h=>by
  rw[List.length_cons,Ua];simp only[uD,List.map_cons,bX];rw[h r (by simp),EH g rows (a+1) fun x hx=>h x (by simp[hx])]
theorem Ub {V n:Nat}{r:Row} (h:r.av.length=V) {i:Nat} (hi:i<=V+n):dQ (wide n r) i=ge (V+n) r i:=by
 obtain ⟨h1,h2,h3⟩:=sG (n:=n) (k:=i) h;unfold ge;rcases Nat.lt_or_ge i V with a|a
 ·rw[if_pos (by omega),h1 a,fM h a]
 ·rw[if_neg (by omega)]
  rcases Nat.lt_or_ge i (V+n) with b|b
  ·rw[if_neg (by omega),h2 a b]
  ·have:i=V+n:=by omega
   subst this;rw[if_pos rfl,h3,gP h]
theorem aaW {V:Nat}{r:Row} (h:r.av.length=V) {i:Nat} (hi:i<=V):dQ (id r) i=ge V r i:=by
 unfold ge;rcases Nat.lt_or_ge i V with a|a
 ·rw[if_pos (by omega)];exact fM h a
 ·have:i=V:=by omega
  subst this;rw[if_neg (by omega),if_pos rfl];exact gP h
theorem sw.solves {ak n last B:Nat}{guard:List Row}{E:(Nat->Rat)->Nat->Rat}{d:Int}{R2:List (List Int)}{b2:List Int} (h:sw ak n last B guard E d R2 b2 (last+1)) (hn:guard.length=n) {blk:Blk} (h1:blk.E=E) (h2:blk.last=last) (g:Row->Row) (h3:blk.guard=guard.map g) (h4:blk.d=d)
  (hg:∀r∈guard,∀i,i<=last->dQ (g r) i=ge last r i) (y:Nat->Rat):mG y R2 b2↔blk.holds y ak:=by
 have hbl:blk.guard.length=n:=by rw[h3,List.length_map,hn]
 have key:∀i,i<=last->∀r x,R2[i]?=some r->b2[i]?=some x->(Kl y r=(x:Rat)↔blk.E y i=bX i blk.guard (oF y ak blk.guard.length)+if i=blk.last then (blk.d:Rat)+y (ak+blk.guard.length) else 0):=fun i hi r x hr hx=>by
  have e1:=h.row i r hr y;have e2:=h.rhs i x hx;have e3:=(h.wide r (List.mem_of_getElem? hr)).1;unfold Kl;rw[e3,e1,e2,EH g guard ak fun r hr=>hg r hr i hi,h1,h2,h4,hbl,h3,hn]
  by_cases e:i=last
  ·rw[if_pos e,if_pos e,if_pos e]
   constructor<;>intro hh<;>grind
  ·rw[if_neg e,if_neg e,if_neg e,rc0]
   constructor<;>intro hh<;>grind
 constructor
 ·intro hs i hi
  rw[h2]at hi;obtain ⟨r,hr,_⟩:=aF R2 i (by rw[h.rl];omega);obtain ⟨x,hx,_⟩:=aF b2 i (by rw[h.bl];omega);exact (key i hi r x hr hx).1 (hs i r x hr hx)
 ·intro hs i r x hr hx
  have hi:=(List.getElem?_eq_some_iff.1 hr).1;rw[h.rl]at hi;exact (key i (by omega) r x hr hx).2 (hs i (by omega))
def q9 (ak:Nat) (r:List Int):List Rat:=(List.range ak).map fun j=>((r.getD j 0:Int):Rat)
def eD (ak:Nat) (R:List (List Int)):List (List Rat):=R.map (q9 ak)
def jd (b:List Int):List Rat:=b.map fun x=>((x:Int):Rat)
def delta (j c:Nat):Rat:=if c=j then 1 else 0
def adY (b:Blk) (first i j:Nat):Rat:=b.E (delta j) i-bX i b.guard (oF (delta j) first b.guard.length)-if i=b.last then delta j (first+b.guard.length) else 0
def Xn (C:Nat) (b:Blk) (first i:Nat):List Rat:=(List.range C).map fun j=>if j < first+b.guard.length+1 then adY b first i j else 0
def JA (C:Nat):Nat->List Blk->List (List Rat)
 |_,[]=>[]
 |a,b::bs=>((List.range (b.last+1)).map fun i=>Xn C b a i)++JA C (a+b.guard.length+1) bs
def JB:List Blk->List Rat
 |[]=>[]
 |b::bs=>((List.range (b.last+1)).map fun i=>if i=b.last then (b.d:Rat) else 0)++JB bs
theorem MO (C:Nat) (b:Blk):∀(bs:List Blk) (a:Nat),JA C a (bs++[b])=JA C a bs++(List.range (b.last+1)).map fun i=>Xn C b (nQ a bs) i
 |[],a=>by simp[JA,nQ]
 |x::bs,a=>by
  simp only[List.cons_append,JA,nQ];rw[MO C b bs,List.append_assoc]
theorem MP (b:Blk):∀bs:List Blk,JB (bs++[b])=JB bs++(List.range (b.last+1)).map fun i=>if i=b.last then (b.d:Rat) else 0
 |[]=>by simp[JB]
 |x::bs=>by
  simp only[List.cons_append,JB];rw[MP b bs,List.append_assoc]
theorem sw.mat {ak n last B:Nat}{guard:List Row}{E:(Nat->Rat)->Nat->Rat}{d:Int}{R2:List (List Int)}{b2:List Int} (h:sw ak n last B guard E d R2 b2 (last+1)) (hn:guard.length=n) {blk:Blk} (h1:blk.E=E) (h2:blk.last=last) (g:Row->Row) (h3:blk.guard=guard.map g) (h4:blk.d=d)
  (hg:∀r∈guard,∀i,i<=last->dQ (g r) i=ge last r i) (C:Nat):eD C R2=(List.range (blk.last+1)).map (fun i=>Xn C blk ak i)/\jd b2=(List.range (blk.last+1)).map fun i=>if i=blk.last then (blk.d:Rat) else 0:=by
 have hbl:blk.guard.length=n:=by rw[h3,List.length_map,hn]
 constructor
 ·apply List.ext_getElem
  ·simp[eD,h.rl,h2]
  ·intro i e1 e2
   simp only[eD,List.length_map]at e1;simp only[eD,List.getElem_map,List.getElem_range];have hi:i<=last:=by have:=h.rl;omega
   have hr:=List.getElem?_eq_getElem e1;have hw:=(h.wide _ (List.getElem_mem e1)).1;have hrow:=h.row i _ hr;generalize R2[i]=r at *;unfold q9 Xn;refine List.map_congr_left fun j _=>?_
   rw[hbl]
   by_cases hj:j < ak+n+1
   ·rw[if_pos hj]
    have e:=hrow (delta j);have e3:wW (delta j) (ak+n+1) (fun j=>r.getD j 0)=((r.getD j 0:Int):Rat):=nE hj fun j=>((r.getD j 0:Int):Rat)
    rw[e3]at e;rw[e];unfold adY;rw[h1,h2,h3,List.length_map,hn,EH g guard ak fun r hr=>hg r hr i hi,hn]
   ·rw[if_neg hj,List.getD_eq_getElem?_getD,List.getElem?_eq_none (by omega)];rfl
 ·apply List.ext_getElem
  ·simp[jd,h.bl,h2]
  ·intro i e1 e2
   simp only[jd,List.length_map]at e1;simp only[jd,List.getElem_map,List.getElem_range];rw[h.rhs i _ (List.getElem?_eq_getElem e1),h2,h4];split<;>rfl
structure ru (nF ak:Nat) (R:List (List Int)) (b:List Int) (bs:List Blk):Prop where
 bl:b.length=R.length
 ce:ak=nQ nF bs
 sol:∀y,mG y R b↔sats y nF bs
 wide:∀r∈R,r.length<=ak/\∀x∈r,x.natAbs<=67108864
 rhs:∀x∈b,x.natAbs<=1
 rn:R.length<=17*bs.length
 cn:ak<=nF+17*bs.length
 mat:∀C,eD C R=JA C nF bs
 rh:jd b=JB bs
theorem ru.nil (nF:Nat):ru nF nF [] [] [] :=
 ⟨rfl,rfl,fun y=>⟨fun _=>trivial,fun _ i r x h _=>by simp at h⟩,fun r hr=>by simp at hr,fun x hx=>by simp at hx,by simp,by simp,fun _=>rfl,rfl⟩
theorem ru.snoc {nF ak:Nat}{R:List (List Int)}{b:List Int}{bs:List Blk} (h:ru nF ak R b bs) {n last B:Nat}{guard:List Row}{E:(Nat->Rat)->Nat->Rat}{d:Int}{R2:List (List Int)}{b2:List Int} (hE:sw ak n last B guard E d R2 b2 (last+1)) (hn:guard.length=n) {blk:Blk} (h1:blk.E=E) (h2:blk.last=last) (g:Row->Row) (h3:blk.guard=guard.map g) (h4:blk.d=d)
  (hg:∀r∈guard,∀i,i<=last->dQ (g r) i=ge last r i) (hn2:n<=16) (hl2:last<=16) (hB:B<=16777220) (hd:d.natAbs<=1):ru nF (ak+n+1) (R++R2) (b++b2) (bs++[blk]):=by
 have hbl:blk.guard.length=n:=by rw[h3,List.length_map,hn]
 refine ⟨by rw[List.length_append,List.length_append,h.bl,hE.bl,hE.rl],by rw[Jk,<- h.ce,hbl],fun y=>?_,fun r hr=>?_,fun x hx=>?_,?_,?_,fun C=>?_,?_⟩
 ·rw[mG.append h.bl,Mw,h.sol y,<- h.ce,hE.solves hn h1 h2 g h3 h4 hg y]
 ·rcases List.mem_append.1 hr with hr|hr
  ·obtain ⟨a1,a2⟩:=h.wide r hr
   exact ⟨by omega,a2⟩
  ·obtain ⟨a1,a2⟩:=hE.wide r hr
   exact ⟨by omega,fun x hx=>by have:=a2 x hx;omega⟩
 ·rcases List.mem_append.1 hx with hx|hx
  ·exact h.rhs x hx
  ·obtain ⟨i,hi,rfl⟩:=List.mem_iff_getElem.1 hx
   rw[hE.rhs i _ (List.getElem?_eq_getElem hi)];split
   ·exact hd
   ·decide
 ·have:=h.rn
  rw[List.length_append,List.length_append,hE.rl,List.length_singleton];omega
 ·have:=h.cn
  rw[List.length_append,List.length_singleton];omega
 ·rw[MO,<- h.mat C,<- h.ce,<- (hE.mat hn h1 h2 g h3 h4 hg C).1]
  exact List.map_append
 ·rw[MP,<- h.rh,<- (hE.mat hn h1 h2 g h3 h4 hg 0).2]
  exact List.map_append
theorem yT (ak:Nat) (r:List Int):(q9 ak r).length=ak:=by simp[q9]
theorem Yx {ak j:Nat} (r:List Int) (hj:j < ak):(q9 ak r).getD j 0=((r.getD j 0:Int):Rat):=by
 simp[q9,List.getD_eq_getElem?_getD,hj]
theorem MQ {f:Nat->Rat}:∀(m n:Nat),n<=m->(∀j,n<=j->f j=0)->aN m f=aN n f
 |0,n,h,_=>by rw[show n=0 by omega]
 |m+1,n,h,hf=>by
  rcases Nat.lt_or_ge m n with h1|h1
  ·have:n=m+1:=by omega
   rw[this]
  ·rw[show aN (m+1) f=aN m f+f m from rfl,hf m h1,MQ m n h1 hf];grind
theorem O1 {ak:Nat}{r:List Int} (h:r.length<=ak) (y:Nat->Rat):aN ak (fun j=>(q9 ak r).getD j 0*y j)=Kl y r:=by
 rw[aL (g:=fun j=>((r.getD j 0:Int):Rat)*y j) fun j hj=>by rw[Yx r hj]];refine MQ ak r.length h fun j hj=>?_
 rw[List.getD_eq_getElem?_getD,List.getElem?_eq_none hj];simp only[Option.getD_none];rw[rc0];grind
theorem MR {ak:Nat}{R:List (List Int)} (h:R≠[]):((eD ak R).headD []).length=ak:=by
 cases R with
 |nil=>exact absurd rfl h
 |cons r R=>exact yT ak r
theorem EI {ak:Nat}{R:List (List Int)}{b:List Int} (hne:R≠[]) (hw:∀r∈R,r.length<=ak) {y:List Rat} (h:jh (eD ak R) (jd b) (.inl y)):y.length=ak/\(∀x∈y,0<=x)/\mG (atL y) R b:=by
 unfold jh at h;rw[MR hne]at h;obtain ⟨h1,h2,h3⟩:=h;refine ⟨h1,qj h1 h2,fun i r x hr hx=>?_⟩;have hi:=(List.getElem?_eq_some_iff.1 hr).1;have e:=h3 i (by simpa[eD] using hi);have e2:(eD ak R).getD i []=q9 ak r:=by simp[eD,List.getD_eq_getElem?_getD,hr]
 have e3:(jd b).getD i 0=(x:Rat):=by simp[jd,List.getD_eq_getElem?_getD,hx]
 rw[e2,e3]at e;rw[<- O1 (hw r (List.mem_of_getElem? hr)) (atL y)];exact e
theorem MS {ak:Nat}{R:List (List Int)}{b:List Int} (hne:R≠[]) (hbl:b.length=R.length) (hw:∀r∈R,r.length<=ak) {u:List Rat} (h:jh (eD ak R) (jd b) (.inr u)) {y:Nat->Rat} (hy:∀c,0<=y c):¬mG y R b:=by
 intro hs;unfold jh at h;rw[MR hne]at h;obtain ⟨_,h2,h3⟩:=h;have hml:(eD ak R).length=R.length:=by simp[eD]
 rw[hml]at h2 h3;have e1:aN R.length (fun k=>u.getD k 0*(jd b).getD k 0)=aN R.length (fun k=>aN ak fun j=>u.getD k 0*((eD ak R).getD k []).getD j 0*y j):=aL fun k hk=>by
  obtain ⟨r,hr,_⟩:=aF R k hk;obtain ⟨x,hx,_⟩:=aF b k (by omega);have e2:(eD ak R).getD k []=q9 ak r:=by simp[eD,List.getD_eq_getElem?_getD,hr]
  have e3:(jd b).getD k 0=(x:Rat):=by simp[jd,List.getD_eq_getElem?_getD,hx]
  rw[e2,e3,<- hs k r x hr hx,<- O1 (hw r (List.mem_of_getElem? hr)) y];have e4:=iV ak (fun j=>(q9 ak r).getD j 0*y j) (u.getD k 0);rw[Rat.mul_comm,<- e4];exact aL fun j _=>by grind
 rw[e1,Ea]at h3;have h4:0<=aN ak (fun j=>aN R.length (fun k=>u.getD k 0*((eD ak R).getD k []).getD j 0*y j)):=qH fun j hj=>by
  rw[iV];exact Rat.mul_nonneg (h2 j hj) (hy j)
 exact absurd h3 (Rat.not_lt.2 h4)
theorem O4 {ak:Nat}{R:List (List Int)}{b:List Int}{C:Nat} (hC:1<=C) (hw:∀r∈R,∀x∈r,x.natAbs<=C) (hb:∀x∈b,x.natAbs<=C):wU (eD ak R) (jd b) C:=by
 refine ⟨hC,fun r hr x hx=>?_,fun x hx=>?_⟩
 ·obtain ⟨q,hq,rfl⟩:=List.mem_map.1 hr
  obtain ⟨j,_,rfl⟩:=List.mem_map.1 hx;refine ⟨_,rfl,?_⟩;rw[List.getD_eq_getElem?_getD];cases e:q[j]? with
  |none=>exact Nat.zero_le _
  |some z=>exact hw q hq z (List.mem_of_getElem? e)
 ·obtain ⟨q,hq,rfl⟩:=List.mem_map.1 hx
  exact ⟨q,rfl,hb q hq⟩
theorem QU {V L N:Nat}{y:List Rat} (hl:2*(L*(V+1))<=y.length) (h:Over y N):Over (bZ V L (atL y)) (2*N):=by
 obtain ⟨d,h1,h2,h3⟩:=h;refine ⟨d,h1,by omega,fun x hx=>?_⟩;simp only[bZ,List.mem_map,List.mem_range]at hx;obtain ⟨m,hm,rfl⟩:=hx;obtain ⟨a,ha,ha2⟩:=h3 _ (show atL y (2*m)∈y from jy (by omega));obtain ⟨c,hc,hc2⟩:=h3 _ (show atL y (2*m+1)∈y from jy (by omega));refine ⟨a-c,?_,by omega⟩;rw[Int.sub_eq_add_neg,Rat.intCast_add,Rat.intCast_neg];grind
theorem Fit.two {n c k:Nat} (h1:n*c<=B ^ 2) (h2:n+2<=B) (hk:n<=k) (hk2:2*(2*k+2) < 50000) (h0:1<=n) (hc:1<=c):Fit (2*kU n c):=by
 refine ⟨Nat.le_trans (Nat.le_trans (Nat.mul_pos (by omega) (by omega)) (BQ h0 hc)) (Nat.le_mul_of_pos_left _ (by decide)),?_⟩;have e1:(n*c) ^ n<=B ^ (2*k):=by
  refine Nat.le_trans (Nat.pow_le_pow_left h1 n) ?_;rw[<- Nat.pow_mul];exact Nat.pow_le_pow_right fQ (by omega)
 have e2:2*kU n c<=B ^ (2*k+2):=by
  unfold kU;rw[show 2*k+2=(2*k+1)+1 from rfl,Nat.pow_succ,Nat.pow_succ,Nat.mul_comm (B ^ (2*k)*B),Nat.mul_comm (B ^ (2*k))];exact Nat.mul_le_mul (by rw[eu];decide) (Nat.mul_le_mul h2 e1)
 generalize 50000=m at *;refine Nat.lt_of_le_of_lt (Nat.mul_le_mul e2 e2) ?_;rw[<- Nat.pow_add];exact Nat.pow_lt_pow_right (by rw[eu];decide) (by omega)
inductive yU where
 |none
 |lim
 |fs (l:List Row)
def yU.tr:yU->Tr
 |.none=>.tup [.sl false [],.bool false,i64 0]
 |.lim=>.tup [.sl false [],.bool true,i64 3]
 |.fs l=>.tup [.sl true (l.map Row.tr),.bool true,i64 0]
def wZ (V L:Nat) (bs:List Blk):yU->Prop
 |.none=>∀y:Nat->Rat,(∀c,0<=y c)->¬sats y (2*(L*(V+1))) bs
 |.lim=>True
 |.fs l=>∃y:Nat->Rat,(∀c,0<=y c)/\sats y (2*(L*(V+1))) bs/\nR V L y=some l
theorem Yy (l:List Rat) (h:Hp) (hlen:l.length<=1000000) :
  dM Tryz.prog 160 [.t (.sl true (l.map aH))] h (fun v h'=>v=.rf (hnext h 5) l.length/\h'=hnew h 5 ⟨dY l,6,l.length,dW,true,true⟩):=by
 by_cases hne:l=[]
 ·subst hne
  refine dI orders Tryz.func160 rfl (by kernel_rfl) (fun d=>d==5||d==7) (by kernel_rfl) rfl (fun hs hlen=>?_);clear hs
  repeat' (first|refine sX ?_ ?_<;>intro h|simp only[go_sem, *])
  rw[wL (esz:=6) (e:=dW) (ag:=true) (by kernel_rfl) (by kernel_rfl) (by kernel_rfl) rfl (by kernel_rfl) (aJ _ _) (by decide)]
  repeat' (first|refine sX ?_ ?_<;>intro h|simp only[go_sem, *])
  all_goals rfl
 ·have hempty:¬l=[]:=hne
  refine dI orders Tryz.func160 rfl (by kernel_rfl) (fun d=>d==5||d==7) (by kernel_rfl) rfl (fun hs hlen=>?_);clear hs
  repeat' (first|refine sX ?_ ?_<;>intro h|simp only[go_sem, *])
  rw[p9 (esz:=6) (e:=dW) (ag:=true) (by_:=80) (by kernel_rfl) (by kernel_rfl) (by kernel_rfl) rfl (by kernel_rfl) (CX l) (aJ _ _) (by rw[List.length_map];omega) (by simpa using hne)];simp only[Nat.zero_add,List.length_map,List.nil_append,gL]
  repeat' (first|refine sX ?_ ?_<;>intro h|simp only[go_sem, *])
  all_goals rfl
def fP:Cert:=⟨0,false,[]⟩
def yN.tr:yN->Tr
 |.cert sc ms=>.tup [Cert.tr ⟨sc,true,ms⟩,.sl false [],.bool true,i64 0]
 |.pt p=>.tup [fP.tr,.sl true (p.map rvT),.bool false,i64 0]
 |.lim=>.tup [fP.tr,.sl false [],.bool false,i64 3]
attribute [go_sem] fP
theorem MU {y:List Rat}{N:Nat} (hN:Fit N) (ho:Over y N) (hlen:y.length<=1000) (hpos:∀x∈y,0<=x) :
  aB Tryz.prog 79 [.sl true (y.map aH)] (F8 y).tr:=by
 have ho1:Over (y++[1]) N:=by
  obtain ⟨d,h1,h2,h3⟩:=ho;refine ⟨d,h1,h2,fun x hx=>?_⟩;rcases List.mem_append.1 hx with hx|hx
  ·exact h3 x hx
  ·rw[List.mem_singleton.1 hx];exact ⟨d,by grind,h2⟩
 have VT:∀x∈y++[1],(0:Rat)<=x:=fun x hx=>by
  rcases List.mem_append.1 hx with hx|hx
  ·exact hpos x hx
  ·rw[List.mem_singleton.1 hx];grind
 have w1:=Jv true hN ho1 (by simp;omega) VT;have hne:(!(y++[(1:Rat)]).isEmpty)=true:=by simp
 rw[hne]at w1;have wo:=nH 1 (by unfold jM;omega);rw[rc1]at wo;have hlm:∀l,lM (y++[1])=some l->l.length=y.length+1:=fun l hl=>by
  have:=(xI VT hl).2.1;simpa using this
 unfold F8;have hcs:dY y++(flat [Tr.agg (dA 1)]).map .t=dY (y++[1]):=by
  unfold dY;rw[List.map_append,kP,List.map_append];rfl
 clear ho ho1 hpos VT;refine au orders Tryz.func79 rfl (by kernel_rfl) (fun d=>d==2||d==10||d==13) (by kernel_rfl) rfl (fun hs=>?_);clear hs
 repeat' (first|refine sX ?_ ?_<;>intro h|simp only[go_sem, *,eU])
 obtain ⟨h0,hh0⟩:∃h0,h0=hnew (fun _=>[]) 2 ⟨[.t (.int .u64 0),.t (.sl false [])],2,1,40,true,true⟩:=⟨_,rfl⟩
 have g2:hget h0 (2,0)=some ⟨[.t (.int .u64 0),.t (.sl false [])],2,1,40,true,true⟩:=by rw[hh0];rfl
 rw[<- hh0];clear hh0;refine iH (Yy y h0 (by omega)) (fun v h' hQ=>?_);obtain ⟨rfl,rfl⟩:=hQ;have dN:aS (hnew h0 5 ⟨dY (y++[1]),6,y.length+1,dW,true,true⟩) dep (.rf (hnext h0 5) (y.length+1))=some (.sl true ((y++[1]).map aH)):=iX 5 (qR _) (by simp) (aJ _ _)
 repeat' (first|refine sX ?_ ?_<;>intro h|refine aj (wo) rfl ?_|simp only[go_sem, *])
 rw[p9 (esz:=6) (e:=dW) (ag:=true) (by_:=80) (by kernel_rfl) (by kernel_rfl) (by kernel_rfl) rfl (by kernel_rfl) (fun x hx=>by rw[List.mem_singleton.1 hx];exact aQ 1) (aJ _ _) (by simp;omega) (by simp)];rw[hcs,gL];simp only[List.length_cons,List.length_nil,Nat.zero_add];have g3:hget (frz (hnew h0 5 ⟨dY (y++[1]),6,y.length+1,dW,true,true⟩) (([.rf (hnext h0 5) (y.length+1)]:List PV).flatMap (reach (hnew h0 5 ⟨dY (y++[1]),6,y.length+1,dW,true,true⟩) dep))) (2,0)=some ⟨[.t (.int .u64 0),.t (.sl false [])],2,1,40,true,true⟩:=by
  refine lW (aA g2 _) ?_;simp only[List.flatMap_cons,List.flatMap_nil,List.append_nil];rw[show reach (hnew h0 5 ⟨dY (y++[1]),6,y.length+1,dW,true,true⟩) dep (.rf (hnext h0 5) (y.length+1))=[hnext h0 5] from pE 5 (aJ _ _)];simp[hnext]
 cases hmo:lM (y++[1]) with
 |some l =>
  rw[hmo]at w1;simp only at w1;have hl:=hlm l hmo;have hlg:l[y.length]?=some (l.getD y.length 0):=by rw[List.getD_eq_getElem?_getD,List.getElem?_eq_getElem (by omega)];rfl
  have alS:(l.map jE)[y.length]?=some (jE (l.getD y.length 0)):=by rw[List.getElem?_map,hlg];rfl
  have hfl:(flat (l.map jE)).length=(y.length+1)*1:=by
   rw[bJ _ 1 (fun x hx=>by obtain ⟨z,_,rfl⟩:=List.mem_map.1 hx;rfl),List.length_map,hl]
  generalize hsc:l.getD y.length 0=sc at *;simp only[hsc];clear hsc
  repeat' (first|refine sX ?_ ?_<;>intro h|refine aj (wo) rfl ?_|simp only[go_sem, *])
  refine mX w1 (by simp only[go_sem,dN]) rfl ?_;generalize frz _ _=HF at *;clear dN hcs wo w1
  repeat' (first|refine sX ?_ ?_<;>intro h|simp only[go_sem, *])
  with_reducible refine dS ?_ ?_
  ·omega
  repeat' (first|refine sX ?_ ?_<;>intro h|simp only[go_sem, *])
  simp only[yN.tr,Cert.tr,List.map_take]
 |none =>
  rw[hmo]at w1;simp only at w1
  repeat' (first|refine sX ?_ ?_<;>intro h|refine aj (wo) rfl ?_|simp only[go_sem, *])
  refine mX w1 (by simp only[go_sem,dN]) rfl ?_;generalize frz _ _=HF at *
  repeat' (first|refine sX ?_ ?_<;>intro h|simp only[go_sem, *])
  rfl
abbrev Ca:TypeId:=40
abbrev MV:TypeId:=2
theorem Gl {h:Hp}{d:Nat}:∀ {l:List (Nat × Obj)},(∀p∈l,p.1≠d)->hnext (adds l h) d=hnext h d
 |[],_=>rfl
 |p::l,hp=>by
  show hnext (adds l (hnew h p.1 p.2)) d=_
  rw[Gl (fun q hq=>hp q (List.mem_cons_of_mem _ hq))];simp only[hnext,hnew,upd];rw[if_neg (fun e=>hp p (by simp) e.symm)]
theorem JC {d:Nat}{o:Obj}:∀ {l:List (Nat × Obj)}{h:Hp},(∀p∈l,p.1≠d)->hnew (adds l h) d o=adds l (hnew h d o)
 |[],_,_=>rfl
 |p::l,h,hp=>by
  show hnew (adds l (hnew h p.1 p.2)) d o=adds l (hnew (hnew h d o) p.1 p.2)
  rw[JC (fun q hq=>hp q (List.mem_cons_of_mem _ hq))];congr 1;funext s;have:=hp p (by simp);simp only[hnew,upd]
  by_cases e1:s=d
  ·subst e1
   rw[if_pos rfl,if_neg (fun e=>this e.symm),if_pos rfl,if_neg (fun e=>this e.symm)]
  ·rw[if_neg e1]
   by_cases e2:s=p.1
   ·subst e2;rw[if_pos rfl,if_pos rfl,if_neg this]
   ·rw[if_neg e2,if_neg e2,if_neg e1]
theorem O5 {f:PV->Option Tr}:∀ {a b:List PV}{x y:List Tr},bA f a=some x->bA f b=some y->bA f (a++b)=some (x++y)
 |[],b,x,y,h1,h2=>by
  simp only[bA,Option.some.injEq]at h1;subst h1;exact h2
 |p::a,b,x,y,h1,h2=>by
  simp only[bA]at h1;split at h1
  ·rename_i c bs e1 e2
   simp only[Option.some.injEq]at h1;subst h1;simp only[List.cons_append,bA,e1,O5 e2 h2]
  ·cases h1
theorem O6 {h:Hp}{id:Id}{rows:List Row}{r:Row}{v:PV}{acc:List Int}{c:Int} (hg:hget h id=some ⟨(flat (rows.map Row.tr)).map .t++[v,.t (i64 c)],2,rows.length+1,dX,true,true⟩) (ho:Own h 39 MV 1 false v (!acc.isEmpty) (acc.map (Tr.int .i64)))
  (hr:r.tr=.agg [.sl (!acc.isEmpty) (acc.map (Tr.int .i64)),.int .i64 c]):aS h dep (.rf id (rows.length+1))=some (.sl true ((rows++[r]).map Row.tr)):=by
 show aS h (5+1) _=_
 rw[rO,hg];simp only[if_true];have h1:bA (aS h 5) ((flat (rows.map Row.tr)).map .t)=some (flat (rows.map Row.tr)):=yY _;have h2:bA (aS h 5) [v,.t (i64 c)]=some [.sl (!acc.isEmpty) (acc.map (Tr.int .i64)),i64 c]:=by
  simp only[bA,ho.aS 4,qy]
 rw[O5 h1 h2];have h3:flat (rows.map Row.tr)++[.sl (!acc.isEmpty) (acc.map (Tr.int .i64)),i64 c]=flat ((rows++[r]).map Row.tr):=by
  rw[List.map_append,kP];congr 1
  show _=flat [r.tr]
  rw[hr];rfl
 rw[h3];have:=wF (vC (rows++[r]));rw[List.length_map,List.length_append,List.length_singleton]at this;simp only[this]
theorem JD {h:Hp}{id i:Id}{rows:List Row}{v:PV}{acc:List Int}{c:Int} (hg:hget h id=some ⟨(flat (rows.map Row.tr)).map .t++[v,.t (i64 c)],2,rows.length+1,dX,true,true⟩) (ho:Own h 39 MV 1 false v (!acc.isEmpty) (acc.map (Tr.int .i64)))
  (h1:(i==id)=false) (h2:(i.1==39)=false):(reach h dep (.rf id (rows.length+1))).contains i=false:=by
 show (reach h (5+1) _).contains i=false
 have h3:=ED (k:=4) ho h2;simp only[List.flatMap_cons,List.flatMap_nil,List.append_nil]at h3;rw[show reach h (5+1) (.rf id (rows.length+1))=id::(match hget h id with|some o=>o.cs.flatMap (reach h 5)|none=>[]) from rfl,hg];simp only[List.flatMap_append,AB,List.nil_append,List.flatMap_cons,List.flatMap_nil,List.append_nil,qx];rw[List.contains_cons,h1];exact h3
theorem VU {V:Nat} (rnn:Bool) {rows:List Row}{row:Row} (hnn:rnn=false->rows=[]) (he:bQ V (rows++[row])=0) {out:BD} (hd:aB Tryz.prog 18 [i64 (V:Nat),.sl rnn (rows.map Row.tr)] out.tr) (hso:yL V rows out)
  {ans:List Rat ⊕ List Rat}{N:Nat}{w:List Rat} (hN:Fit N) (hA:qg ans N) (Gg:∀p,out=.pt p->ans=.inr w/\w.length=V+1/\0 < w.getD V 0) (hdn:aB Tryz.prog 66 [wX true (jX V (rows++[below row]) []),.sl true ((jo V (-1)).map aH)] (mg ans)) :
  aB Tryz.prog 81 [i64 (V:Nat),.sl rnn (rows.map Row.tr),row.tr] (match out with|.lim=>yN.lim|.ml ms=>.cert 0 ms|.pt _=>Jh V w).tr:=by
 obtain ⟨V',hV',hS⟩:=CG he;have hVV:V'=V:=by omega
 subst hVV;have hV:=hS.v;have hn:=hS.n;rw[List.length_append,List.length_singleton]at hn;obtain ⟨hsl,hr1,hr2,hr3⟩:=hS.left;have ac:=aZ hr2;have hw1:IntKind.i64.wrap (0-row.const)=-row.const:=by rw[wrap_i64 (by omega) (by omega)];omega
 have hw2:IntKind.i64.wrap (-row.const-1)=-row.const-1:=wrap_i64 (by omega) (by omega);refine au orders Tryz.func81 rfl (by kernel_rfl) (fun d=>d==6||d==10||d==34||d==40||d==39||d==64||d==65||d==66||d==67||d==68||d==4999999||d==1000010||d==10000010||d==5000066||d==11000067) (by kernel_rfl) rfl (fun hs=>?_);clear hs
 repeat' (first|refine sX ?_ ?_<;>intro h|simp only[go_sem, *,eU,bH,iB])
 refine aC (List.range (V')) (fun k s'=>∃(acc:List Int) (v:PV),hget s'.hp (10,0)=some ⟨[v,.t (i64 (-row.const-1))],2,1,dX,true,true⟩/\Own s'.hp 39 MV 1 false v (!acc.isEmpty) (acc.map (Tr.int .i64))/\acc.length=k/\acc=(row.av.map (fun c=>-c)).take k/\hget s'.hp (6,0)=some ⟨[.t (.int .u64 0),.t (.sl false [])],2,1,Ca,true,true⟩) rfl (by rw[List.length_range];rfl) (by rw[List.length_range];first|assumption|omega) (by kernel_rfl) (fun _ _ _ _ hj=>hj) (fun _ _ _ hj=>hj) ?_ (fun j y u hy hyd hj hJ hjx hfr H hH=>?_) (fun u hJ hfr=>?_)
 ·exact ⟨[],.t (.sl false []),rfl,Own.nil,rfl,rfl,rfl⟩
 ·have e0:=hfr 0 (by kernel_rfl)
  have e1:=hfr 1 (by kernel_rfl);have e6:=hfr 6 (by kernel_rfl);have e10:=hfr 10 (by kernel_rfl);have e28:=hfr 28 (by kernel_rfl);clear hfr;simp only[go_sem]at e0 e1 e6 e10 e28;obtain ⟨acc,v,g10,hown,hal,hJ,g6⟩:=hJ;rw[List.length_range]at hj;have hyj:y=j:=by rw[List.getElem?_range hj]at hy;injection hy with hy;exact hy.symm
  subst hyj;clear hy hyd;obtain ⟨a,ha,_⟩:=aF row.av y (by omega);have ha2:(row.av.map (Tr.int .i64))[y]?=some (.int .i64 a):=by rw[List.getElem?_map,ha];rfl
  have hab:=aZ (hr3 a (List.mem_of_getElem? ha));have hwa:IntKind.i64.wrap (0-a)=-a:=by rw[wrap_i64 (by omega) (by omega)];omega
  have hJ2:acc++[-a]=(row.av.map (fun c=>-c)).take (y+1):=by
   rw[List.take_add_one,List.getElem?_map,ha,hJ];rfl
  have hone:=hown.one;clear hJ hw1 hw2 hdn hso hd Gg
  repeat' (first|refine sX ?_ ?_<;>intro h|simp only[go_sem, *,eU])
  refine cB (hown.frame (by simp only[go_sem])) rfl (by kernel_rfl) (by kernel_rfl) (by kernel_rfl) (by kernel_rfl) rfl (by kernel_rfl) (ok_int _ _) (by simp;omega) (fun v' h' ho hf=>?_);have afr:=ho.one;obtain ⟨o1,o2⟩:=afr;have Xo:hget h' (10,0)=some ⟨[v,.t (i64 (-row.const-1))],2,1,dX,true,true⟩:=(aX (hf 10 rfl)).trans g10;have g6b:hget h' (6,0)=some ⟨[.t (.int .u64 0),.t (.sl false [])],2,1,Ca,true,true⟩:=(aX (hf 6 rfl)).trans g6
  repeat' (first|refine sX ?_ ?_<;>intro h|simp only[go_sem, *,eU])
  refine hH _ ⟨acc++[-a],v',?_,ho.snoc.frame ?_,by simp[hal],hJ2,?_⟩
  ·exact aM Xo _
  ·simp only[go_sem,fA]
  ·exact aD g6b (.inl rfl) _
 ·have e0:=hfr 0 (by kernel_rfl)
  have e1:=hfr 1 (by kernel_rfl);have e6:=hfr 6 (by kernel_rfl);have e10:=hfr 10 (by kernel_rfl);clear hfr;simp only[go_sem]at e0 e1 e6 e10;obtain ⟨acc,v,g10,hown,hal,hJ,g6⟩:=hJ;rw[List.length_range]at hal hJ;rw[List.take_of_length_le (by simp;omega)]at hJ;have b3:((3:Int) != 0)=true:=rfl;have b4:((3:Int)==0)=false:=rfl;have b5:((0:Int) != 0)=false:=rfl;have b6:((0:Int)==0)=true:=rfl;cases out with
  |lim =>
   unfold BD.tr at hd;simp only at hd
   repeat' (first|refine sX ?_ ?_<;>intro h|refine aj (hd) rfl ?_|simp only[go_sem, *])
   rfl
  |ml ms =>
   unfold BD.tr at hd;simp only at hd
   repeat' (first|refine sX ?_ ?_<;>intro h|refine aj (hd) rfl ?_|simp only[go_sem, *])
   rfl
  |pt p =>
   obtain ⟨rfl,hwl,hwp⟩:=Gg p rfl;unfold BD.tr at hd;simp only at hd;unfold mg at hdn;simp only at hdn;have hq:(w.map aH)[V']?=some (aH (w.getD V' 0)):=by
    rw[List.getElem?_map,List.getD_eq_getElem?_getD,List.getElem?_eq_getElem (by omega)];rfl
   have hFB:=hA.over.FB;have wV:w.getD V' 0∈w:=jy (by omega);have w4:=ML true (l:=w.take V') (b:=w.getD V' 0) hN (fun x hx=>hFB x (List.mem_of_mem_take hx)) (hFB _ wV) hwp (by simp;omega);rw[List.map_take]at w4;have adV:(flat (w.map aH)).length=(V'+1)*6:=by rw[qU,hwl]
   have hone:=hown.one;obtain ⟨o1,o2⟩:=hone;have hvd:aS u.hp 4 v=some (.sl (!acc.isEmpty) (acc.map (Tr.int .i64))):=hown.aS 3;have hbr:Row.tr (below row)=.agg [.sl (!acc.isEmpty) (acc.map (Tr.int .i64)),.int .i64 (-row.const-1)]:=by
    have:(!row.av.isEmpty)=!acc.isEmpty:=by rw[hJ];cases row.av<;>rfl
    unfold Row.tr below;simp only;rw[this,<- hJ]
   unfold Jh;generalize w.getD V' 0=b at *;have hin:∀r∈rows++[below row],r.av.length=V'/\jM r.const/\∀c∈r.av,jM c:=fun r hr=>by
    rcases List.mem_append.1 hr with hr|hr
    ·exact Kk hsl r hr
    ·rw[List.mem_singleton.1 hr]
     refine ⟨by simp[below,hr1],⟨by simp only[below];omega,by simp only[below];omega⟩,fun c hc=>?_⟩;obtain ⟨a,ha,rfl⟩:=List.mem_map.1 hc;have:=aZ (hr3 a ha);exact ⟨by omega,by omega⟩
   have wc:aB Tryz.prog 67 [i64 (V':Nat),.sl true ((rows++[below row]).map Row.tr),.sl false []] _:=Aa (V:=V') true (rows:=rows++[below row]) (more:=[]) hin false (fun c hc=>by simp at hc) (by omega) (by simp;omega);rw[show (!((rows++[below row]).isEmpty&&([]:List (List Rat)).isEmpty))=true by simp]at wc;have wu:=QS V' (-1) (by omega) ⟨by decide,by decide⟩;clear hJ hw1 hw2 Gg hso hFB wV hS hsl hr3;cases rnn with
   |false =>
    have:=hnn rfl;subst this
    repeat' (first|refine sX ?_ ?_<;>intro h|refine aj (hd) rfl ?_|simp only[go_sem, *])
    refine PO (v:=.t (.sl false [])) (h':=u.hp) (fun l hl=>Bh (adds l u.hp)) (fun c hc=>rfl) rfl ?_ (fun c hc=>rfl)
    repeat' (first|refine sX ?_ ?_<;>intro h|simp only[go_sem, *])
    rw[EB (e:=dX) (e2:=dX) (esz:=2) (by_:=32) (ag:=true) (by kernel_rfl) (by kernel_rfl) (by kernel_rfl) rfl (by kernel_rfl) (by kernel_rfl) (.inl rfl) rfl (aJ _ _) (by omega) (by omega)];obtain ⟨H3,hH3⟩:∃H3,H3=hnew (hnew u.hp 66 ⟨[v,.t (i64 (-row.const-1))],2,1,dX,true,true⟩) 67 ⟨[v,.t (i64 (-row.const-1))],2,1,dX,true,true⟩:=⟨_,rfl⟩
    obtain ⟨id5,hid⟩:∃id5,id5=hnext (hnew u.hp 66 ⟨[v,.t (i64 (-row.const-1))],2,1,dX,true,true⟩) 67:=⟨_,rfl⟩
    rw[<- hH3,<- hid];have m5:hget H3 id5=some ⟨(flat (([]:List Row).map Row.tr)).map .t++[v,.t (i64 (-row.const-1))],2,([]:List Row).length+1,dX,true,true⟩:=by rw[hH3,hid];exact aJ _ _
    have m6:hget H3 (6,0)=some ⟨[.t (.int .u64 0),.t (.sl false [])],2,1,Ca,true,true⟩:=by rw[hH3];exact aA (aA g6 _) _
    have mo:Own H3 39 MV 1 false v (!acc.isEmpty) (acc.map (Tr.int .i64)):=hown.frame (by rw[hH3,jB _ rfl,jB _ rfl]);have dN:=O6 m5 mo hbr;have hrc:=JD (i:=(6,0)) m5 mo (by rw[hid];rfl) rfl;have m7:=lW m6 (ids:=reach H3 dep (.rf id5 (([]:List Row).length+1))) hrc;clear hH3 hid hown g10 g6 hbr m5 m6 mo hrc;simp only[List.length_nil,Nat.zero_add]at dN m7;simp only[mg]at *
    repeat' (first|refine sX ?_ ?_<;>intro h|simp only[go_sem, *])
    refine Wy wc (by simp only[go_sem,dN]) rfl rfl ?_;simp only[List.flatMap_cons,List.flatMap_nil,List.append_nil,qx,List.nil_append];clear dN;generalize frz _ _=HF at *;cases hpo:iM (w.take V') b with
    |some q =>
     rw[hpo]at w4;unfold sU at w4;simp only at w4
     repeat' (first|refine sX ?_ ?_<;>intro h|refine aj (wu) rfl ?_|refine aj (hdn) rfl ?_|refine aj (w4) rfl ?_|simp only[go_sem, *])
     with_reducible refine dS ?_ ?_
     ·omega
     repeat' (first|refine sX ?_ ?_<;>intro h|refine aj (wu) rfl ?_|refine aj (hdn) rfl ?_|refine aj (w4) rfl ?_|simp only[go_sem, *])
     all_goals rfl
    |none =>
     rw[hpo]at w4;unfold sU at w4;simp only at w4
     repeat' (first|refine sX ?_ ?_<;>intro h|refine aj (wu) rfl ?_|refine aj (hdn) rfl ?_|refine aj (w4) rfl ?_|simp only[go_sem, *])
     with_reducible refine dS ?_ ?_
     ·omega
     repeat' (first|refine sX ?_ ?_<;>intro h|refine aj (wu) rfl ?_|refine aj (hdn) rfl ?_|refine aj (w4) rfl ?_|simp only[go_sem, *])
     all_goals rfl
   |true =>
    repeat' (first|refine sX ?_ ?_<;>intro h|refine aj (hd) rfl ?_|simp only[go_sem, *])
    refine PO (v:=.rf (hnext u.hp 5) rows.length) (h':=hnew u.hp 5 ⟨(flat (rows.map Row.tr)).map .t,2,rows.length,dX,true,true⟩) (fun l hl=>?_) (fun c hc=>?_) rfl ?_ (fun c hc=>?_)
    ·have hne:∀p∈l,p.1≠5:=fun p hp=>by
      have:=hl p hp;simp only[Bool.or_eq_true,beq_iff_eq]at this;omega
     have:=Dq rows (adds l u.hp) (by omega);rw[Gl hne,JC hne]at this;exact this
    ·have hc5:(c==5)=false:=by simp only[Bool.or_eq_true,beq_iff_eq]at hc;rw[beq_eq_false_iff_ne];omega
     rw[gu _ hc5]
    rotate_left
    ·have hc5:(c==5)=false:=by simp only[Bool.or_eq_true,beq_iff_eq]at hc;rw[beq_eq_false_iff_ne];omega
     rw[jB _ hc5]
    have n10:=aA g10 (s:=5) ⟨(flat (rows.map Row.tr)).map .t,2,rows.length,dX,true,true⟩
    repeat' (first|refine sX ?_ ?_<;>intro h|simp only[go_sem, *])
    rw[EA (e:=dX) (e2:=dX) (esz:=2) (by_:=32) (by kernel_rfl) (by kernel_rfl) (by kernel_rfl) rfl (by kernel_rfl) (aA (aJ _ _) _) (aJ _ _) (by omega) (by omega)];have hH:∃H3,H3=hset (hnew (hnew u.hp 5 ⟨(flat (rows.map Row.tr)).map .t,2,rows.length,dX,true,true⟩) 66 ⟨[v,.t (i64 (-row.const-1))],2,1,dX,true,true⟩) (hnext u.hp 5) ⟨(flat (rows.map Row.tr)).map .t++[v,.t (i64 (-row.const-1))],2,rows.length+1,dX,true,true⟩:=⟨_,rfl⟩
    obtain ⟨H3,hH3⟩:=hH;rw[<- hH3];have m5:hget H3 (hnext u.hp 5)=some ⟨(flat (rows.map Row.tr)).map .t++[v,.t (i64 (-row.const-1))],2,rows.length+1,dX,true,true⟩:=by rw[hH3];exact aM (aA (aJ _ _) _) _
    have m6:hget H3 (6,0)=some ⟨[.t (.int .u64 0),.t (.sl false [])],2,1,Ca,true,true⟩:=by rw[hH3];exact aD (aA (aA g6 _) _) (.inr (iE g6)) _
    have mo:Own H3 39 MV 1 false v (!acc.isEmpty) (acc.map (Tr.int .i64)):=hown.frame (by rw[hH3,fA _ rfl,jB _ rfl,jB _ rfl]);have dN:=O6 m5 mo hbr;have hrc:=JD (i:=(6,0)) m5 mo (by have:=iE (s:=5) g6;rw[beq_eq_false_iff_ne]at this ⊢;exact fun e=>this e.symm) rfl;have m7:=lW m6 (ids:=reach H3 dep (.rf (hnext u.hp 5) (rows.length+1))) hrc;clear hH3 n10 hown g10 g6 hbr m5 m6 mo hrc;generalize hnext u.hp 5=id5 at *;simp only[mg]at *
    repeat' (first|refine sX ?_ ?_<;>intro h|simp only[go_sem, *])
    refine Wy wc (by simp only[go_sem,dN]) rfl rfl ?_;simp only[List.flatMap_cons,List.flatMap_nil,List.append_nil,qx,List.nil_append];clear dN;generalize frz _ _=HF at *;cases hpo:iM (w.take V') b with
    |some q =>
     rw[hpo]at w4;unfold sU at w4;simp only at w4
     repeat' (first|refine sX ?_ ?_<;>intro h|refine aj (wu) rfl ?_|refine aj (hdn) rfl ?_|refine aj (w4) rfl ?_|simp only[go_sem, *])
     with_reducible refine dS ?_ ?_
     ·omega
     repeat' (first|refine sX ?_ ?_<;>intro h|refine aj (wu) rfl ?_|refine aj (hdn) rfl ?_|refine aj (w4) rfl ?_|simp only[go_sem, *])
     all_goals rfl
    |none =>
     rw[hpo]at w4;unfold sU at w4;simp only at w4
     repeat' (first|refine sX ?_ ?_<;>intro h|refine aj (wu) rfl ?_|refine aj (hdn) rfl ?_|refine aj (w4) rfl ?_|simp only[go_sem, *])
     with_reducible refine dS ?_ ?_
     ·omega
     repeat' (first|refine sX ?_ ?_<;>intro h|refine aj (wu) rfl ?_|refine aj (hdn) rfl ?_|refine aj (w4) rfl ?_|simp only[go_sem, *])
     all_goals rfl
theorem QV {vars:Int}{rows:List Row}{row:Row} (h:bQ vars (rows++[row])=0):bQ vars rows=0:=by
 unfold bQ at h ⊢;split at h
 ·cases h
 ·rename_i g1
  rw[if_neg g1];split at h
  ·cases h
  ·rename_i g2
   rw[if_neg (by simp at g2 ⊢;omega)];split at h
   ·rename_i g3
    rw[List.all_append,Bool.and_eq_true]at g3;rw[if_pos g3.1]
   ·cases h
theorem yN.shape (o:yN):∃(C:Cert) (P Q E:Tr),o.tr=.tup [C.tr,P,Q,E]:=by
 cases o with
 |cert sc ms=>exact ⟨_,_,_,_,rfl⟩
 |pt p=>exact ⟨fP,_,_,_,rfl⟩
 |lim=>exact ⟨fP,_,_,_,rfl⟩
def JE (row:Row):List Rat:=(iY row).map fun z:Int=>(z:Rat)
theorem row_in {V:Nat}{rows:List Row}{row:Row} (hS:Sys V (rows++[row])):row.av.length=V/\jM row.const/\∀c∈row.av,jM c:=Kk hS row (by simp)
set_option maxHeartbeats 1000000 in
theorem VW {V:Nat} (rnn:Bool) {rows:List Row}{row:Row} (hnn:rnn=false->rows=[]) (he:bQ V (rows++[row])=0):∃out,vO V rows row out/\aB Tryz.prog 26 [i64 (V:Nat),.sl rnn (rows.map Row.tr),row.tr] out.tr:=by
 obtain ⟨V',hV',hS⟩:=CG he;have hVV:V'=V:=by omega
 subst hVV;have hV:=hS.v;have hn:=hS.n;rw[List.length_append,List.length_singleton]at hn;obtain ⟨hsl,hr1,hr2,hr3⟩:=hS.left;have hri:=row_in hS;have hr:∀r∈rows,r.av.length=V':=fun r h=>(hsl.r r h).1
 have hrc:∀r∈rows,r.av.length=V'/\r.const.natAbs<=1048577/\∀c∈r.av,c.natAbs<=1048577:=fun r h=>by
  obtain ⟨h1,h2,h3⟩:=hsl.r r h;exact ⟨h1,kg h2,fun c hc=>kg (h3 c hc)⟩
 have hrhs:∀x∈JE row,bM x 1048577:=fun x hx=>by
  obtain ⟨z,hz,rfl⟩:=List.mem_map.1 hx;refine ⟨z,rfl,?_⟩;rcases List.mem_append.1 hz with hz|hz
  ·exact kg (hr3 z hz)
  ·rw[List.mem_singleton.1 hz];exact kg hr2
 have hrl:(JE row).length=V'+1:=by simp[JE,iY,hr1]
 obtain ⟨ans,N,hN,ha,hA,hmod,hd⟩:=BU (V:=V') (C:=1048577) (rows:=rows) (more:=[jo V' 1]) (rhs:=JE row) true (by decide) (by decide) hV (by simp;omega) hrc (fun c hc=>by rw[List.mem_singleton.1 hc];exact C8 (by decide)) hrhs hrl (iN V' (rows++[row])=true) (fun h=>by
  obtain ⟨h1,h2⟩:=BR h;refine ⟨h1,fun r hr=>⟨by have:=(h2 r (by simp[hr])).1;omega,fun c hc=>by have:=(h2 r (by simp[hr])).2 c hc;omega⟩,fun c hc=>by rw[List.mem_singleton.1 hc];exact C8 (by decide),fun x hx=>?_⟩;obtain ⟨h3,h4⟩:=h2 row (by simp);obtain ⟨z,hz,rfl⟩:=List.mem_map.1 hx;refine ⟨z,rfl,?_⟩;rcases List.mem_append.1 hz with hz|hz
  ·have:=h4 z hz;omega
  ·rw[List.mem_singleton.1 hz];omega)
 have ha':r9 V' rows row ans:=ha;have w1:=I6 V' rnn rows row (by omega);rw[he]at w1;have w2:aB Tryz.prog 67 [i64 (V':Nat),.sl true [row.tr],.sl false []] _:=Aa (V:=V') true (rows:=[row]) (more:=[]) (fun r h=>by rw[List.mem_singleton.1 h];exact hri) false (fun c hc=>by simp at hc) (by omega) (by simp);have w3:aB Tryz.prog 67 [i64 (V':Nat),.sl rnn (rows.map Row.tr),.sl true [.sl true ((jo V' 1).map aH)]] (wX true (jX V' rows [jo V' 1])):=by
  have:=Aa (V:=V') rnn (rows:=rows) (more:=[jo V' 1]) (Kk hsl) true (fun c hc=>by rw[List.mem_singleton.1 hc];exact Et _ _) (by omega) (by simp;omega);rw[show (!(rows.isEmpty&&[jo V' 1].isEmpty))=true by simp]at this;exact this
 have wu:=QS V' 1 (by omega) ⟨by decide,by decide⟩;have yO:∀i,i<=V'->(jX V' [row] [])[i]?=some [((dQ row i:Int):Rat)]:=fun i hi=>by
  have:i < V'+1:=by omega
  simp[jX,lF,this]
 have hrg:∀i,i<=V'->(JE row)[i]?=some ((dQ row i:Int):Rat):=fun i hi=>by
  have h1:i < (iY row).length:=by rw[yK hr1];omega
  unfold JE dQ;rw[List.getElem?_map,List.getD_eq_getElem?_getD,List.getElem?_eq_getElem h1];rfl
 have hkey:∀out:yN,vO V' rows row out->(∀y,ans=.inl y->y.length=rows.length+1/\aB Tryz.prog 79 [.sl true ((y.map aH).take rows.length)] out.tr) ->
   (∀u,ans=.inr u->u.length=V'+1/\((0 < u.getD V' 0/\aB Tryz.prog 70 [.sl true ((u.map aH).take V'),aH (u.getD V' 0)] (sU (iM (u.take V') (u.getD V' 0)))/\out=Jh V' u)\/(¬ 0 < u.getD V' 0/\aB Tryz.prog 81 [i64 (V':Nat),.sl rnn (rows.map Row.tr),row.tr] out.tr))) ->
   aB Tryz.prog 26 [i64 (V':Nat),.sl rnn (rows.map Row.tr),row.tr] out.tr:=by
  intro out _ h1 h2;have hMl:((jX V' [row] []).map fun r=>Tr.sl true (r.map aH)).length=V'+1:=by rw[List.length_map,qc]
  have hMi:∀i,i<=V'->((jX V' [row] []).map fun r=>Tr.sl true (r.map aH))[i]?=some (.sl true [aH ((dQ row i:Int):Rat)]):=fun i hi=>by rw[List.getElem?_map,yO i hi];rfl
  rw[show (!(([row]:List Row).isEmpty&&([]:List (List Rat)).isEmpty))=true from rfl]at w2;unfold wX at w2;have hwV:IntKind.i64.wrap ((V':Int)+1)=((V'+1:Nat):Int):=by rw[wrap_i64 (by omega) (by omega)];rfl
  obtain ⟨W,hW⟩:∃W,V'+1=W:=⟨_,rfl⟩
  rw[hW]at hwV hMl;refine au orders Tryz.func26 rfl (by kernel_rfl) (fun d=>d==6||d==33||d==39||d==47) (by kernel_rfl) rfl (fun hs=>?_);clear hs
  repeat' (first|refine sX ?_ ?_<;>intro h|refine aj (w1) rfl ?_|refine aj (w2) rfl ?_|simp only[go_sem, *,beq_self_eq_true,eU,iB])
  with_reducible refine dS ?_ ?_
  ·exact ⟨by omega,by omega⟩
  repeat' (first|refine sX ?_ ?_<;>intro h|simp only[go_sem, *,beq_self_eq_true,eU,bH,iB])
  refine aC (List.range (W)) (fun k s'=>∃cur:List Tr,hget s'.hp (33,0)=some ⟨(flat cur).map .t,6,W,dW,true,true⟩/\cur.length=W/\(∀z∈cur,dh true 6 z)/\cur.take k=((JE row).take k).map aH/\hget s'.hp (6,0)=some ⟨[.t (.int .u64 0),.t (.sl false [])],2,1,Ca,true,true⟩) rfl (by rw[List.length_range];rfl) (by rw[List.length_range];first|assumption|omega) (by kernel_rfl) (fun _ _ _ _ hj=>hj) (fun _ _ _ hj=>hj) ?_ (fun j y u hy hyd hj hJ hjx hfr H hH=>?_) (fun u hJ hfr=>?_)
  ·refine ⟨List.replicate W (.agg qz),?_,by simp,fun z hz=>by rw[(List.mem_replicate.1 hz).2];exact ⟨fun _=>rfl,(fun h=>nomatch h),rfl⟩,rfl,rfl⟩
   rw[<- jC];rfl
  ·have e11:=hfr 11 (by kernel_rfl)
   have e12:=hfr 12 (by kernel_rfl);clear hfr;simp only[go_sem]at e11 e12;obtain ⟨cur,g,jc,hok,htk,g6⟩:=hJ;rw[List.length_range]at hj;have hyj:y=j:=by rw[List.getElem?_range hj]at hy;injection hy with hy;exact hy.symm
   subst hyj;clear hy hyd;have hmy:=hMi y (by omega);have hry:=hrg y (by omega);generalize ((dQ row y:Int):Rat)=q at *;obtain ⟨z,hz,_⟩:=aF cur y (by omega);have he6:∀z∈cur,z.cells.length=6:=fun z hz=>(hok z hz).2.2
   have vB:splice (List.map PV.t (flat cur)) (y*6) ((dA q).map PV.t)=List.map PV.t (flat (cur.set y (aH q))):=fD he6 (x:=z) (y:=aH q) hz (aQ _);have Xj:(flat cur).length=W*6:=by rw[bJ _ 6 he6,jc]
   have hy6:y*6+6<=W*6:=by omega
   have hq0:(dA q).length=6:=aQ _;clear hMi hMl hrg yO hW hwV
   repeat' (first|refine sX ?_ ?_<;>intro h|simp only[go_sem, *,beq_self_eq_true])
   refine hH _ ⟨cur.set y (aH q),?_,by simp[jc],?_,?_,?_⟩
   ·exact aM g _
   ·intro w hw
    rcases List.mem_or_eq_of_mem_set hw with hw|rfl
    ·exact hok w hw
    ·exact vo _
   ·rw[aP _ _ _ (by omega),htk,List.take_add_one,List.map_append,hry];rfl
   ·exact aD g6 (.inl rfl) _
  ·have e0:=hfr 0 (by kernel_rfl)
   have e1:=hfr 1 (by kernel_rfl);have e5:=hfr 5 (by kernel_rfl);have e6:=hfr 6 (by kernel_rfl);have e12:=hfr 12 (by kernel_rfl);clear hfr;simp only[go_sem]at e0 e1 e5 e6 e12;obtain ⟨cur,g,jc,hok,htk,g6⟩:=hJ;rw[List.length_range,List.take_of_length_le (by omega),List.take_of_length_le (by omega)]at htk;have dN:aS u.hp dep (.rf (33,0) W)=some (.sl true ((JE row).map aH)):=by rw[<- htk];exact iX 5 hok jc g
   have g6f:=lW g6 (ids:=reach u.hp dep (.rf (33,0) W)) (by
    rw[show reach u.hp dep (.rf (33,0) W)=[(33,0)] from pE 5 g];rfl)
   clear hMi hMl hrg yO hwV g g6 htk hok;cases ans with
   |inl y =>
    obtain ⟨hyl,hy⟩:=h1 y rfl;obtain ⟨C,P,Q,E,hsh⟩:=out.shape;rw[hsh]at hy ⊢;have alT:=qU y;clear h1 h2;unfold mg at hd;simp only at hd
    repeat' (first|refine sX ?_ ?_<;>intro h|refine aj (w3) rfl ?_|refine aj (wu) rfl ?_|simp only[go_sem, *])
    refine mX hd (by simp only[go_sem,dN]) rfl ?_;simp only[List.flatMap_cons,List.flatMap_nil,List.append_nil,qx,List.nil_append];generalize frz _ _=HF at *
    repeat' (first|refine sX ?_ ?_<;>intro h|simp only[go_sem, *])
    with_reducible refine dS ?_ ?_
    ·omega
    repeat' (first|refine sX ?_ ?_<;>intro h|refine aj (hy) rfl ?_|simp only[go_sem, *])
   |inr u' =>
    obtain ⟨hul,hcase⟩:=h2 u' rfl;have hq:(u'.map aH)[V']?=some (aH (u'.getD V' 0)):=by
     rw[List.getElem?_map,List.getD_eq_getElem?_getD,List.getElem?_eq_getElem (by omega)];rfl
    have sg:=qK (u'.getD V' 0);have adV:(flat (u'.map aH)).length=u'.length*6:=qU u';unfold mg at hd;simp only at hd;clear h1 h2;rcases hcase with ⟨hpos,hp,ho⟩|⟨hpos,hf⟩
    ·rw[Hz hpos]at sg
     have g1:decide ((1:Int) > 0)=true:=rfl;subst ho;unfold Jh;clear hpos;generalize u'.getD V' 0=b at *;unfold sU at hp;cases hpo:iM (u'.take V') b with
     |some q =>
      rw[hpo]at hp;simp only at hp
      repeat' (first|refine sX ?_ ?_<;>intro h|refine aj (w3) rfl ?_|refine aj (wu) rfl ?_|simp only[go_sem, *])
      refine mX hd (by simp only[go_sem,dN]) rfl ?_;simp only[List.flatMap_cons,List.flatMap_nil,List.append_nil,qx,List.nil_append];generalize frz _ _=HF at *
      repeat' (first|refine sX ?_ ?_<;>intro h|refine aj (sg) rfl ?_|simp only[go_sem, *])
      with_reducible refine dS ?_ ?_
      ·omega
      repeat' (first|refine sX ?_ ?_<;>intro h|refine aj (hp) rfl ?_|simp only[go_sem, *])
      all_goals rfl
     |none =>
      rw[hpo]at hp;simp only at hp
      repeat' (first|refine sX ?_ ?_<;>intro h|refine aj (w3) rfl ?_|refine aj (wu) rfl ?_|simp only[go_sem, *])
      refine mX hd (by simp only[go_sem,dN]) rfl ?_;simp only[List.flatMap_cons,List.flatMap_nil,List.append_nil,qx,List.nil_append];generalize frz _ _=HF at *
      repeat' (first|refine sX ?_ ?_<;>intro h|refine aj (sg) rfl ?_|simp only[go_sem, *])
      with_reducible refine dS ?_ ?_
      ·omega
      repeat' (first|refine sX ?_ ?_<;>intro h|refine aj (hp) rfl ?_|simp only[go_sem, *])
      all_goals rfl
    ·have g1:decide ((u'.getD V' 0).num.sign > 0)=false:=by
      have:=Ms hpos;simp only[decide_eq_true_eq]at this;exact decide_eq_false (by omega)
     obtain ⟨C,P,Q,E,hsh⟩:=out.shape;rw[hsh]at hf ⊢;clear hpos;generalize u'.getD V' 0=b at *
     repeat' (first|refine sX ?_ ?_<;>intro h|refine aj (w3) rfl ?_|refine aj (wu) rfl ?_|simp only[go_sem, *])
     refine mX hd (by simp only[go_sem,dN]) rfl ?_;simp only[List.flatMap_cons,List.flatMap_nil,List.append_nil,qx,List.nil_append];generalize frz _ _=HF at *
     repeat' (first|refine sX ?_ ?_<;>intro h|refine aj (sg) rfl ?_|refine aj (hf) rfl ?_|simp only[go_sem, *])
 cases ans with
 |inl y =>
  have hyl:y.length=rows.length+1:=by
   unfold jh at ha;rw[nO]at ha;simpa using ha.1
  have hy0:∀x∈y,0<=x:=by
   unfold jh at ha;rw[nO]at ha;exact qj (by simpa using ha.1) ha.2.1
  have hok:=aaB hr hr1 ha' hmod;have hc:=MU hN (hA.over.sub (l':=y.take rows.length) (fun x hx=>List.mem_of_mem_take hx)) (by simp;omega) (fun x hx=>hy0 x (List.mem_of_mem_take hx));rw[List.map_take]at hc;exact ⟨_,hok,hkey _ hok (fun y' h=>by injection h with h;subst h;exact ⟨hyl,hc⟩) (fun u h=>nomatch h)⟩
 |inr u =>
  obtain ⟨hul,_,hu0,_⟩:=Ml hr hr1 ha';have hFB:=hA.over.FB
  by_cases hpos:0 < u.getD V' 0
  ·have hok:=acy hr hr1 ha' hpos hmod
   have hp:=ML true (l:=u.take V') (b:=u.getD V' 0) hN (fun x hx=>hFB x (List.mem_of_mem_take hx)) (hFB _ (by show u.getD V' 0∈u;exact jy (by omega))) hpos (by simp;omega);rw[List.map_take]at hp;exact ⟨_,hok,hkey _ hok (fun y h=>nomatch h) (fun u' h=>by injection h with h;subst h;exact ⟨hul,.inl ⟨hpos,hp,rfl⟩⟩)⟩
  ·obtain ⟨so,hso,hsd⟩:=TY (V:=V') rnn (QV he)
   have hbc:∀r∈rows++[below row],r.av.length=V'/\r.const.natAbs<=1048577/\∀c∈r.av,c.natAbs<=1048577:=fun r h=>by
    rcases List.mem_append.1 h with h|h
    ·exact hrc r h
    ·rw[List.mem_singleton.1 h]
     have:=aZ hr2;refine ⟨by simp[below,hr1],by simp only[below];omega,fun c hc=>?_⟩;obtain ⟨a,ha,rfl⟩:=List.mem_map.1 hc;have:=aZ (hr3 a ha);omega
   obtain ⟨alU,N2,hN2,ha2,hA2,afs,hd2⟩:=BU (V:=V') (C:=1048577) (rows:=rows++[below row]) (more:=[]) (rhs:=jo V' (-1)) true (by decide) (by decide) hV (by simp;omega) hbc (fun c hc=>by simp at hc) (C8 (by decide)) (Et _ _) (iN V' (rows++[row])=true) (fun h=>by
    obtain ⟨h1,h2⟩:=BR h;refine ⟨h1,fun r hr=>?_,fun c hc=>by simp at hc,C8 (by decide)⟩;rcases List.mem_append.1 hr with hr|hr
    ·exact ⟨by have:=(h2 r (by simp[hr])).1;omega,fun c hc=>by have:=(h2 r (by simp[hr])).2 c hc;omega⟩
    ·rw[List.mem_singleton.1 hr]
     obtain ⟨h3,h4⟩:=h2 row (by simp);refine ⟨by simp only[below];omega,fun c hc=>?_⟩;obtain ⟨a,ha,rfl⟩:=List.mem_map.1 hc;have:=h4 a ha;omega)
   cases so with
   |lim =>
    have hok:vO V' rows row .lim:=by
     show iN V' (rows++[row])=false
     rw[Bool.eq_false_iff];intro h;have h1:iN V' rows=false:=hso;rw[QL h]at h1;cases h1
    have hf:=VU rnn hnn he hsd hso hN2 hA2 (w:=[]) (fun p h=>nomatch h) hd2;exact ⟨_,hok,hkey _ hok (fun y h=>nomatch h) (fun u' h=>by injection h with h;subst h;exact ⟨hul,.inr ⟨hpos,hf⟩⟩)⟩
   |ml ms =>
    have hok:=Ym (row:=row) hso;have hf:=VU rnn hnn he hsd hso hN2 hA2 (w:=[]) (fun p h=>nomatch h) hd2;exact ⟨_,hok,hkey _ hok (fun y h=>nomatch h) (fun u' h=>by injection h with h;subst h;exact ⟨hul,.inr ⟨hpos,hf⟩⟩)⟩
   |pt p =>
    obtain ⟨p1,_,p3⟩:=hso;obtain ⟨w,e1,e2,e3,hok⟩:=aaC hr hr1 ha' hpos p1 p3 ha2 afs;have hf:=VU rnn hnn he hsd ⟨p1,‹_›,p3⟩ hN2 hA2 (w:=w) (fun p h=>⟨e1,e2,e3⟩) hd2;exact ⟨_,hok,hkey _ hok (fun y h=>nomatch h) (fun u' h=>by injection h with h;subst h;exact ⟨hul,.inr ⟨hpos,hf⟩⟩)⟩
end ama
end Go.Vm
end
section
namespace Go.Vm
open Go Go.Proofs Go.Whole Go.bB
namespace ama
open Go.Proofs.Tryz
inductive mH where
 |lim
 |pt
 |cert (c:Cert)
def mH.tr:mH->Tr
 |.lim=>.tup [fP.tr,.bool false,i64 3]
 |.pt=>.tup [fP.tr,.bool false,i64 0]
 |.cert c=>.tup [c.tr,.bool true,i64 0]
def COk (v:Int) (rows:List Row) (row:Row):mH->Prop
 |.lim=>True
 |.pt=>cu row=true/\∃p,(∀r∈rows,0<=dL r p)/\dL row p < 0
 |.cert c=>qN c/\cu row=true/\bV v rows row c=true
inductive vX where
 |yes (b d:Cert)
 |no (b d:Cert)
 |err (b d:Cert)
def vX.tr:vX->Tr
 |.yes b d=>.tup [b.tr,d.tr,.bool true,i64 0]
 |.no b d=>.tup [b.tr,d.tr,.bool false,i64 0]
 |.err b d=>.tup [b.tr,d.tr,.bool false,i64 3]
def gw (f:Flow) (i:Int):List Row:=(aK f i).guard.map (wide (aG (aK f i).next))
def TOk (f:Flow) (fs:List Row) (i:Int):vX->Prop
 |.yes b d=>qN b/\qN d/\bV f.vars (aK f i).guard (rowAt fs (aK f i).from_) b=true/\cu (dO f fs i 1)=true/\bV (f.vars+aG (aK f i).next) (gw f i) (dO f fs i 1) d=true
 |.no _ _=>¬((∀p,(∀r∈(aK f i).guard,0<=dL r p)->0<=dL (rowAt fs (aK f i).from_) p)/\∀p,(∀r∈gw f i,0<=dL r p)->0<=dL (dO f fs i 1) p)
 |.err _ _=>True
def lN (fs:List Row) (S:List Int) (Bs Ds:List Cert):bq:=⟨true,fs,!S.isEmpty,S,!Bs.isEmpty,Bs,!Ds.isEmpty,Ds⟩
structure o8 (f:Flow) (fs:List Row) (dn:List Int) (S:List Int) (Bs Ds:List Cert):Prop where
 sub:S.Sublist dn
 bl:Bs.length=S.length
 dl:Ds.length=dn.length
 bok:fK f (lN fs S Bs Ds) S Bs=true
 dok:iw f (lN fs S Bs Ds) dn Ds=true
 small:∀t∈dn,cu (dO f fs t (dw S t))=true
 bc:∀c∈Bs,qN c
 dc:∀c∈Ds,qN c
theorem uj {f:Flow}{s s':bq} (h:s.funcs=s'.funcs):∀(l:List Int) (cs:List Cert),fK f s l cs=fK f s' l cs
 |[],cs=>by rw[oO,oO]
 |t::l,[]=>rfl
 |t::l,c::cs=>by simp only[fK,h];rw[uj h l cs]
theorem vY {f:Flow}{s s':bq} (h:s.funcs=s'.funcs):∀(l:List Int) (cs:List Cert),(∀t∈l,dw s.strict t=dw s'.strict t)->iw f s l cs=iw f s' l cs
 |[],cs,_=>by rw[qP,qP]
 |t::l,[],_=>rfl
 |t::l,c::cs,hb=>by
  simp only[iw,h];rw[vY h l cs fun x hx=>hb x (by simp[hx]),hb t (by simp)]
theorem Cb {f:Flow}{s:bq}{t:Int}{c:Cert}:∀(l:List Int) (cs:List Cert),l.length=cs.length->fK f s (l++[t]) (cs++[c])=(fK f s l cs&&bV f.vars (aK f t).guard (rowAt s.funcs (aK f t).from_) c)
 |[],[],_=>by simp[fK]
 |[],_::_,h=>by simp at h
 |_::_,[],h=>by simp at h
 |x::l,y::cs,h=>by
  simp only[List.cons_append,fK];rw[Cb l cs (by simpa using h),Bool.and_assoc]
theorem xL {f:Flow}{s:bq}{t:Int}{c:Cert}:∀(l:List Int) (cs:List Cert),l.length=cs.length->iw f s (l++[t]) (cs++[c])=(iw f s l cs&&bV (f.vars+aG (aK f t).next) (gw f t) (dO f s.funcs t (dw s.strict t)) c)
 |[],[],_=>by simp[iw,gw]
 |[],_::_,h=>by simp at h
 |_::_,[],h=>by simp at h
 |x::l,y::cs,h=>by
  simp only[List.cons_append,iw];rw[xL l cs (by simpa using h),Bool.and_assoc]
theorem MW {S:List Int}{i t:Int} (h:t≠i):dw (S++[i]) t=dw S t:=by
 unfold dw hasB;rw[List.any_append];have:(t==i)=false:=by simpa using h
 simp[this]
theorem MX (S:List Int) (i:Int):dw (S++[i]) i=1:=by
 unfold dw;rw[if_pos (kI.2 (by simp))]
theorem Yz {S:List Int}{i:Int} (h:i∉S):dw S i=0:=by
 unfold dw;rw[if_neg (fun hh=>h (kI.1 hh))]
theorem o8.nil (f:Flow) (fs:List Row):o8 f fs [] [] [] []:=⟨.slnil,rfl,rfl,oO _ _ _,qP _ _ _,fun t h=>by simp at h,fun c h=>by simp at h,fun c h=>by simp at h⟩
theorem o8.yes {f:Flow}{fs:List Row}{dn:List Int}{S:List Int}{Bs Ds:List Cert} (h:o8 f fs dn S Bs Ds) {i:Int} (hi:i∉dn) {b d:Cert} (ho:TOk f fs i (.yes b d)):o8 f fs (dn++[i]) (S++[i]) (Bs++[b]) (Ds++[d]):=by
 obtain ⟨o1,o2,o3,o4,o5⟩:=ho;have hne:∀t∈dn,t≠i:=fun t ht e=>hi (e▸ht)
 refine ⟨h.sub.append (List.Sublist.refl _),by simp[h.bl],by simp[h.dl],?_,?_,fun t ht=>?_,fun c hc=>?_,fun c hc=>?_⟩
 ·rw[Cb _ _ h.bl.symm,uj (s:=lN fs (S++[i]) (Bs++[b]) (Ds++[d])) (s':=lN fs S Bs Ds) rfl,h.bok]
  exact o3
 ·rw[xL _ _ h.dl.symm,vY (s:=lN fs (S++[i]) (Bs++[b]) (Ds++[d])) (s':=lN fs S Bs Ds) rfl _ _ (fun t ht=>MW (hne t ht)),h.dok]
  show bV _ _ (dO f fs i (dw (S++[i]) i)) d=true
  rw[MX];exact o5
 ·rcases List.mem_append.1 ht with ht|ht
  ·rw[MW (hne t ht)];exact h.small t ht
  ·rw[List.mem_singleton.1 ht,MX];exact o4
 ·rcases List.mem_append.1 hc with hc|hc
  ·exact h.bc c hc
  ·rw[List.mem_singleton.1 hc];exact o1
 ·rcases List.mem_append.1 hc with hc|hc
  ·exact h.dc c hc
  ·rw[List.mem_singleton.1 hc];exact o2
theorem o8.no {f:Flow}{fs:List Row}{dn:List Int}{S:List Int}{Bs Ds:List Cert} (h:o8 f fs dn S Bs Ds) {i:Int} (hi:i∉dn) {d:Cert} (ho:COk (f.vars+aG (aK f i).next) (gw f i) (dO f fs i 0) (.cert d)):o8 f fs (dn++[i]) S Bs (Ds++[d]):=by
 obtain ⟨o1,o2,o3⟩:=ho;have hS:dw S i=0:=Yz fun hh=>hi (h.sub.subset hh)
 refine ⟨h.sub.trans (List.sublist_append_left _ _),h.bl,by simp[h.dl],?_,?_,fun t ht=>?_,h.bc,fun c hc=>?_⟩
 ·rw[uj (s:=lN fs S Bs (Ds++[d])) (s':=lN fs S Bs Ds) rfl];exact h.bok
 ·rw[xL _ _ h.dl.symm,vY (s:=lN fs S Bs (Ds++[d])) (s':=lN fs S Bs Ds) rfl _ _ (fun t _=>rfl),h.dok]
  show bV _ _ (dO f fs i (dw S i)) d=true
  rw[hS];exact o3
 ·rcases List.mem_append.1 ht with ht|ht
  ·exact h.small t ht
  ·rw[List.mem_singleton.1 ht,hS];exact o2
 ·rcases List.mem_append.1 hc with hc|hc
  ·exact h.dc c hc
  ·rw[List.mem_singleton.1 hc];exact o1
theorem Uc {n:Int}:∀ {l:List Int}{a b:Int},a<=b->bO n b l=true->bO n a l=true
 |[],_,_,_,_=>rfl
 |x::l,a,b,hab,h=>by
  unfold bO at h ⊢;split at h
  ·cases h
  ·rw[if_neg (by omega)];exact h
theorem w9 {n:Int}:∀ {S l:List Int}{a:Int},S.Sublist l->bO n a l=true->bO n a S=true
 |_,[],_,h,_=>by rw[List.sublist_nil.1 h];rfl
 |S,x::l,a,h,hl=>by
  unfold bO at hl;split at hl
  ·cases hl
  ·rename_i hx
   cases h with
   |cons _ h=>exact Uc (by omega) (w9 h hl)
   |cons_cons _ h =>
    unfold bO;rw[if_neg hx];exact w9 h hl
theorem DC {n:Int}:∀ {l:List Int}{a:Int},bO n a l=true->l.Nodup
 |[],_,_=>List.nodup_nil
 |x::l,a,h=>by
  unfold bO at h;split at h
  ·cases h
  ·exact List.nodup_cons.2 ⟨fun hx=>by have:=(L9 h x hx).1;omega,DC h⟩
theorem DF (n:Int):∀(k m:Nat),((m+k:Nat):Int)<=n->bO n ((m:Int)-1) ((List.range' m k).map fun (j:Nat)=>(j:Int))=true
 |0,m,_=>rfl
 |k+1,m,h=>by
  rw[List.range'_succ,List.map_cons];unfold bO;rw[if_neg (by omega)];have:=DF n k (m+1) (by omega);rw[show (((m+1:Nat):Int)-1)=(m:Int) by omega]at this;exact this
theorem QW (f:Flow):bO f.trans.length (-1) (allT f)=true:=by
 have:=DF f.trans.length f.trans.length 0 (by omega);unfold allT;rw[List.range_eq_range'];exact this
inductive rz where
 |ok (s:bq)
 |err (e:Int)
def QX:bq:=⟨false,[],false,[],false,[],false,[]⟩
def rz.tr:rz->Tr
 |.ok s=>.tup [s.tr,i64 0]
 |.err e=>.tup [QX.tr,i64 e]
structure vZ (f:Flow) (left:List Int) (s:bq):Prop where
 form:gN f s left=0
 proved:jm f s left=true
 ok:jF s
 w:∀r∈s.funcs,tJ r
def GOk (f:Flow) (left:List Int):rz->Prop
 |.ok s=>vZ f left s
 |.err e=>e=3
theorem o8.done {f:Flow}{fs:List Row}{left:List Int}{S:List Int}{Bs Ds:List Cert} (h:o8 f fs left S Bs Ds) (hl:bO f.trans.length (-1) left=true) (hL:(fs.length:Int)=f.dD) (hr:∀r∈fs,bC f.vars r=true/\r.nn=true) {t:Int} (ht:t∈S):vZ f left (lN fs S Bs Ds):=by
 refine ⟨?_,?_,⟨h.bc,h.dc⟩,fun r hm hh=>by rw[(hr r hm).2]at hh;cases hh⟩
 ·unfold gN
  have e1:((fs.length:Int) != f.dD)=false:=by rw[hL];simp
  have e2:fs.all (bC f.vars)=true:=List.all_eq_true.2 fun r hm=>(hr r hm).1
  have e3:S.isEmpty=false:=by cases S with|nil=>simp at ht|cons a l=>rfl
  have e4:=w9 h.sub hl;have e5:S.all (hasB left)=true:=List.all_eq_true.2 fun x hx=>kI.2 (h.sub.subset hx)
  have e6:((Bs.length:Int) != S.length)=false:=by rw[h.bl];simp
  have e7:((Ds.length:Int) != left.length)=false:=by rw[h.dl];simp
  have e8:left.all (fun t=>cu (dO f fs t (dw S t)))=true:=List.all_eq_true.2 h.small
  show (if (((fs.length:Int) != f.dD)||!(fs.all (bC f.vars)))=true then (4:Int) else if (S.isEmpty||!bO f.trans.length (-1) S||!(S.all (hasB left)))=true then 4 else if (((Bs.length:Int) != S.length)||((Ds.length:Int) != left.length))=true then 4 else if left.all (fun t=>cu (dO f fs t (dw S t)))=true then 0 else 3)=0
  rw[e1,e2,e3,e4,e5,e6,e7,e8];rfl
 ·unfold jm
  rw[Bool.and_eq_true];exact ⟨h.bok,h.dok⟩
def NOk (f:Flow) (V L:Nat) (en:Int->Bool) (left:List Int):rz->Prop
 |.ok s=>vZ f left s
 |.err e=>e=3\/e=12/\∀t∈left,∀y:Nat->Rat,(∀c,0<=y c)->¬sats y (2*(L*(V+1))) (eH f V en left t)
inductive O7 where
 |ok (r:bY)
 |err (e:Int)
def aft:bY:=⟨false,[]⟩
def O7.tr:O7->Tr
 |.ok r=>.tup [r.tr,i64 0]
 |.err e=>.tup [aft.tr,i64 e]
def Km (f:Flow):O7->Prop
 |.ok r=>aY f=0/\eX f r=0/\∀s∈r.stages,jF s/\∀row∈s.funcs,tJ row
 |.err e=>if aY f≠0 then e=aY f else e=3\/e=12/\∀r:bY,eX f r≠0
structure oG (f:Flow) (l:List bq) (left:List Int):Prop where
 go:gD f true l (cyc f (allT f))=(left,0)
 sub:left.Sublist (allT f)
 cy:∀i∈left,i∈cyc f left
 len:l.length+left.length<=f.trans.length
 ok:∀s∈l,jF s/\∀row∈s.funcs,tJ row
theorem oG.start (f:Flow):oG f [] (cyc f (allT f)) :=
 ⟨rfl,List.filter_sublist,fun _ h=>OZ h,by have:=oM f (allT f);rw[lK]at this;simpa using this,fun s h=>by simp at h⟩
theorem Gm {f:Flow}{s:bq}:∀(l:List bq) (left left':List Int),gD f true l left=(left',0)->gN f s left'=0->jm f s left'=true->gD f true (l++[s]) left=(cyc f (without left' s.strict),0)
 |[],left,left',h,h1,h2=>by
  simp only[gD,Prod.mk.injEq,and_true]at h;subst h;simp only[List.nil_append,gD];rw[if_neg (by rw[h1];decide),if_neg (by rw[h2];decide)]
 |x::l,left,left',h,h1,h2=>by
  simp only[List.cons_append,gD]at h ⊢;split at h
  ·rename_i hn
   simp only[Prod.mk.injEq]at h;exact absurd h.2 hn
  ·rename_i hn
   rw[if_neg hn];split at h
   ·simp at h
   ·rename_i hn2
    rw[if_neg hn2];exact Gm l _ left' h h1 h2
theorem NC {left S:List Int}{t:Int} (ht:t∈left) (hs:t∈S):(without left S).length < left.length:=by
 unfold without;rw[List.length_filter_lt_length_iff_exists];exact ⟨t,ht,by simp[kI.2 hs]⟩
theorem oG.next {f:Flow}{l:List bq}{left:List Int} (h:oG f l left) {s:bq} (hs:vZ f left s):oG f (l++[s]) (cyc f (without left s.strict))/\(cyc f (without left s.strict)).length < left.length:=by
 have hf:=Ke hs.form;obtain ⟨t,ht⟩:=List.exists_mem_of_ne_nil _ hf.ne;have h1:=NC (hf.sub t ht) ht;have h2:=oM f (without left s.strict);refine ⟨⟨Gm _ _ _ h.go hs.form hs.proved,?_,fun _ h=>OZ h,?_,fun x hx=>?_⟩,by omega⟩
 ·exact (List.filter_sublist.trans List.filter_sublist).trans h.sub
 ·have:=h.len
  rw[List.length_append,List.length_singleton];omega
 ·rcases List.mem_append.1 hx with hx|hx
  ·exact h.ok x hx
  ·rw[List.mem_singleton.1 hx];exact ⟨hs.ok,hs.w⟩
theorem oG.done {f:Flow}{l:List bq} (hf:aY f=0) (h:oG f l []) (nn:Bool):Km f (.ok ⟨nn,l⟩):=by
 have hg:=D6 hf;refine ⟨hf,?_,h.ok⟩;have h1:=h.len;have h2:=hg.len;have h3:mV f ⟨nn,l⟩ true=([],0):=by
  unfold mV;rw[if_neg (by rw[hf];decide),if_neg (by simp only;simp at h1;omega)];exact h.go
 unfold eX;rw[h3,if_neg (by simp)]
theorem VX {f:Flow} (hf:jk f) {V L:Nat} (hV:f.vars=(V:Nat)) (hL:f.dD=(L:Nat)) {i:Int} (h0:0<=i) (h1:i < f.trans.length):uh L V (aK f i):=by
 have hm:aK f i∈f.trans:=List.mem_of_getElem? (zK h0 h1);have g:=hf.all _ hm;have g1:=g.qA;have g2:=g.nC;have g3:=g.to1;have g4:=g.to2;have g5:=g.next;refine ⟨g1,by omega,g3,by omega,g.guard,fun r hr=>?_,by omega,fun u hu=>?_⟩
 ·obtain ⟨a,b,c⟩:=sV (g.right r hr)
  exact ⟨by omega,b,c⟩
 ·have hu2:=g.upd u hu
  unfold pR at hu2;split at hu2
  ·rename_i ha
   simp only[Bool.not_eq_true',Bool.or_eq_false_iff,decide_eq_false_iff_not,bne_eq_false_iff_eq]at hu2;obtain ⟨x1,x2⟩:=hu2;have:u.expr.av=[]:=List.eq_nil_of_length_eq_zero (by omega);refine ⟨fun h=>(by rw[ha]at h;cases h),by rw[x2];rfl,fun c hc=>by rw[this]at hc;simp at hc⟩
  ·obtain ⟨a,b,c⟩:=sV hu2
   exact ⟨fun _=>by omega,b,c⟩
theorem Ud {f:Flow} (hf:aY f=0) {V L:Nat} (hV:f.vars=(V:Nat)) (hL:f.dD=(L:Nat)) {l:List bq}{left:List Int} (h:oG f l left) (hne:left≠[]) {en:Int->Bool}{e:Int} (hn:NOk f V L en left (.err e)):Km f (.err e):=by
 show if aY f≠0 then e=aY f else e=3\/e=12/\∀r:bY,eX f r≠0
 rw[if_neg (by rw[hf];decide)];rcases hn with hn|⟨hn,hall⟩
 ·exact .inl hn
 ·refine .inr ⟨hn,fun r hr=>?_⟩
  have hsub:∀i∈left,i∈allT f:=fun i hi=>h.sub.subset hi
  obtain ⟨t,ht,y,hy,hs⟩:=feasible (CQ hr) hV hL hne h.cy hsub (fun i hi=>by
   obtain ⟨a,b⟩:=Hf.1 (hsub i hi);exact VX (D6 hf) hV hL a b) en
  exact hall t ht y hy hs
theorem Cc {W:Nat} (rnn:Bool) {rows:List Row}{row:Row} (hnn:rnn=false->rows=[]) (hW:W<=128) (hl:rows.length<=255) (hr:∀r∈rows,r.av.length=W/\aU r.const=true/\∀c∈r.av,aU c=true) (hrow:row.av.length=W) :
  ∃out,COk (W:Nat) rows row out/\aB Tryz.prog 246 [.sl rnn (rows.map Row.tr),row.tr] out.tr:=by
 have h1:=FN row.const;have h2:=mq row.nn row.av 236 [] (fun k=>!aU k) (fun x _=>FN x);rw[mD]at h2
 by_cases hs1:aU row.const=true
 ·by_cases hs2:row.av.all aU=true
  ·have hsm:cu row=true:=by unfold cu;rw[hs1,hs2];rfl
   have he:bQ (W:Nat) (rows++[row])=0:=by
    have a2:(rows++[row]).all (bC (W:Nat))=true:=List.all_eq_true.2 fun r hr'=>by
     rcases List.mem_append.1 hr' with hr'|hr'
     ·obtain ⟨a,b,c⟩:=hr r hr'
      simp only[bC,a,bne_self_eq_false,Bool.not_false,Bool.true_and,b,List.all_eq_true];exact c
     ·rw[List.mem_singleton.1 hr']
      simp only[bC,hrow,bne_self_eq_false,Bool.not_false,Bool.true_and,hs1,hs2]
    have a3:decide (((W:Nat):Int) < 0)=false:=decide_eq_false (by omega);have a4:decide (((W:Nat):Int) > 128)=false:=decide_eq_false (by omega);have a5:decide (((rows++[row]).length:Int) > 256)=false:=decide_eq_false (by rw[List.length_append,List.length_singleton];omega);unfold bQ;rw[a3,a4,a5,a2];rfl
   obtain ⟨out,ho,hd⟩:=VW rnn hnn he;rw[hs1]at h1;rw[hs2]at h2;have hwi:=hrow;cases out with
   |cert sc ms =>
    obtain ⟨m1,m2,m3,m4⟩:=ho;refine ⟨.cert ⟨sc,true,ms⟩,⟨⟨by simp only[oC]at m3;simp only;omega,fun m hm=>by have:=m2 m hm;simp only[oC]at this;omega,fun h=>nomatch h⟩,hsm,?_⟩,?_⟩
    ·have e1:lY rows ⟨sc,true,ms⟩=true:=by
      simp only[lY,nJ,Bool.and_eq_true,decide_eq_true_eq,List.all_eq_true];exact ⟨⟨m1,m2⟩,m3⟩
     simp only[bV,he,e1,Int.toNat_natCast,m4,decide_true,Bool.and_self]
    ·unfold yN.tr at hd
     unfold mH.tr;clear m1 m2 m3 m4 he hr hnn hsm;subst hrow;refine au orders Tryz.func246 rfl (by kernel_rfl) (fun d=>d==4||d==7) (by kernel_rfl) rfl (fun hs=>?_);clear hs
     repeat' (first|refine sX ?_ ?_<;>intro h|refine aj (h1) rfl ?_|refine aj (h2) rfl ?_|refine aj (hd) rfl ?_|simp only[go_sem, *])
   |pt p =>
    obtain ⟨p1,p2,p3,p4⟩:=ho;refine ⟨.pt,⟨hsm,p,p3,p4⟩,?_⟩;unfold yN.tr at hd;unfold mH.tr;clear p1 p2 p3 p4 he hr hnn hsm;subst hrow;refine au orders Tryz.func246 rfl (by kernel_rfl) (fun d=>d==4||d==7) (by kernel_rfl) rfl (fun hs=>?_);clear hs
    repeat' (first|refine sX ?_ ?_<;>intro h|refine aj (h1) rfl ?_|refine aj (h2) rfl ?_|refine aj (hd) rfl ?_|simp only[go_sem, *])
   |lim =>
    refine ⟨.lim,trivial,?_⟩;unfold yN.tr at hd;unfold mH.tr;clear ho he hr hnn hsm;subst hrow;refine au orders Tryz.func246 rfl (by kernel_rfl) (fun d=>d==4||d==7) (by kernel_rfl) rfl (fun hs=>?_);clear hs
    repeat' (first|refine sX ?_ ?_<;>intro h|refine aj (h1) rfl ?_|refine aj (h2) rfl ?_|refine aj (hd) rfl ?_|simp only[go_sem, *])
  ·refine ⟨.lim,trivial,?_⟩
   have hs3:row.av.all aU=false:=by simpa using hs2
   rw[hs1]at h1;rw[hs3]at h2;unfold mH.tr;clear hr hnn;refine au orders Tryz.func246 rfl (by kernel_rfl) (fun d=>d==4||d==7) (by kernel_rfl) rfl (fun hs=>?_);clear hs
   repeat' (first|refine sX ?_ ?_<;>intro h|refine aj (h1) rfl ?_|refine aj (h2) rfl ?_|simp only[go_sem, *])
   all_goals rfl
 ·refine ⟨.lim,trivial,?_⟩
  have hs3:aU row.const=false:=by simpa using hs1
  rw[hs3]at h1;unfold mH.tr;clear hr hnn h2;refine au orders Tryz.func246 rfl (by kernel_rfl) (fun d=>d==4||d==7) (by kernel_rfl) rfl (fun hs=>?_);clear hs
  repeat' (first|refine sX ?_ ?_<;>intro h|refine aj (h1) rfl ?_|simp only[go_sem, *])
  all_goals rfl
def QY (f:Flow):Prop:=∀t∈f.trans,t.gnn=false->t.guard=[]
structure Ue (f:Flow) (fs:List Row):Prop where
 len:(fs.length:Int)=f.dD
 rows:∀r∈fs,bC f.vars r=true/\r.nn=true
theorem COk.same {v:Int}{rows rows':List Row}{row row':Row} (h1:rows.map strip=rows'.map strip) (h2:strip row=strip row'):∀ {out:mH},COk v rows row out->COk v rows' row' out
 |.lim,_=>trivial
 |.cert c,⟨a,b,d⟩=>⟨a,by
  have:cu row=cu (strip row):=rfl;rw[this,h2]at b;exact b,by rw[<- FM h1 h2];exact d⟩
 |.pt,⟨a,p,b,d⟩=>⟨by
  have:cu row=cu (strip row):=rfl;rw[this,h2]at a;exact a,p,fun r hr=>by
   have hm:strip r∈rows.map strip:=by rw[h1];exact List.mem_map.2 ⟨r,hr,rfl⟩
   obtain ⟨x,hx,he⟩:=List.mem_map.1 hm;have:=b x hx;rw[show dL x p=dL (strip x) p from rfl,he]at this;exact this,by
  rw[show dL row p=dL (strip row) p from rfl,h2]at d;exact d⟩
theorem JF {f:Flow} (hf:jk f) {V:Nat} (hV:f.vars=(V:Nat)) {t:Trans} (ht:t∈f.trans):∀r∈t.guard,r.av.length=V/\aU r.const=true/\∀c∈r.av,aU c=true:=fun r hr=>by
 obtain ⟨a,b,c⟩:=sV ((hf.all t ht).right r hr);exact ⟨by omega,b,c⟩
theorem aaX {f:Flow} (hf:jk f) (hw:QY f) {fs:List Row} (hfs:Ue f fs) {j:Nat}{y:Trans} (hy:f.trans[j]?=some y) (d:Int) (hd:d.natAbs<=1) :
  ∃G D out,aB Tryz.prog 237 [y.tr] G/\aB Tryz.prog 234 [y.tr,.sl true (fs.map Row.tr),i64 d] D/\aB Tryz.prog 246 [G,D] out.tr/\COk (f.vars+aG y.next) (gw f (j:Int)) (dO f fs (j:Int) d) out:=by
 have hym:=List.mem_of_getElem? hy;have hT:=hf.all y hym;obtain ⟨V,hV⟩:∃V:Nat,f.vars=V:=⟨f.vars.toNat,by have:=hf.KU;omega⟩
 have hv2:=hf.qB;have hnx:=hT.next;have hgl:=hT.guard;have hll:=hf.dD;have f1:=hT.qA;have f2:=hT.nC;have t1:=hT.to1;have t2:=hT.to2;have hfl:=hfs.len;obtain ⟨a,ha,_⟩:=aF fs y.from_.toNat (by omega);obtain ⟨b,hb,_⟩:=aF fs y.to_.toNat (by omega);have hu:y.from_=(y.from_.toNat:Nat):=by omega
 have hv:y.to_=(y.to_.toNat:Nat):=by omega
 have ho:=vK hf hy (funcs:=fs) (fun r hr=>(hfs.rows r hr).1) (fun r hr h=>by rw[(hfs.rows r hr).2]at h;cases h) ha hb d hd;have hgr:=JF hf hV hym;have hak:aG y.next<=8:=Nat.le_trans (List.length_filter_le _ _) (by omega);have g1:=Te y (by omega) (by omega) (fun r hr=>by have:=(hgr r hr).1;omega);have g2:=QA y true fs d a b _ _ hu hv ha hb ho;have hne:(!y.guard.isEmpty)=false->jR y=[]:=fun h=>by
  have:y.guard=[]:=by simpa using h
  unfold jR;rw[this];rfl
 have hlen:=FX (nn:=a.nn||decide (aG y.next≠0)) ho;obtain ⟨out,o1,o2⟩:=Cc (W:=V+aG y.next) (!y.guard.isEmpty) (rows:=jR y) (row:=dB (a.nn||decide (aG y.next≠0)) y.next a b d) hne (by omega) (by simp[jR];omega) (fun r hr=>by
  simp only[jR,List.mem_map]at hr;obtain ⟨x,hx,rfl⟩:=hr;obtain ⟨x1,x2,x3⟩:=hgr x hx;refine ⟨by simp[Jb,x1],x2,fun c hc=>?_⟩;rcases List.mem_append.1 hc with hc|hc
  ·exact x3 c hc
  ·rw[(List.mem_replicate.1 hc).2];rfl) (by rw[hlen];omega)
 refine ⟨_,_,out,g1,g2,o2,?_⟩;have e1:((V+aG y.next:Nat):Int)=f.vars+aG y.next:=by rw[hV];omega
 rw[e1]at o1;refine o1.same ?_ ?_
 ·rw[FY]
  unfold gw;rw[fu hy]
 ·rw[vL hy hu hv ha hb];rfl
theorem afu {f:Flow} (hf:jk f) (hw:QY f) {fs:List Row} (hfs:Ue f fs) {j:Nat}{y:Trans} (hy:f.trans[j]?=some y) :
  ∃(u:Nat) (a:Row) (out:mH),y.from_=u/\fs[u]?=some a/\aB Tryz.prog 246 [.sl y.gnn (y.guard.map Row.tr),a.tr] out.tr/\COk f.vars y.guard (rowAt fs y.from_) out:=by
 have hym:=List.mem_of_getElem? hy;have hT:=hf.all y hym;obtain ⟨V,hV⟩:∃V:Nat,f.vars=V:=⟨f.vars.toNat,by have:=hf.KU;omega⟩
 have hv2:=hf.qB;have hgl:=hT.guard;have f1:=hT.qA;have f2:=hT.nC;have hfl:=hfs.len;obtain ⟨a,ha,_⟩:=aF fs y.from_.toNat (by omega);have hu:y.from_=(y.from_.toNat:Nat):=by omega
 have har:=iU (hfs.rows a (List.mem_of_getElem? ha)).1;obtain ⟨out,o1,o2⟩:=Cc (W:=V) y.gnn (rows:=y.guard) (row:=a) (hw y hym) (by omega) (by omega) (JF hf hV hym) (by omega);refine ⟨_,a,out,hu,ha,o2,?_⟩;rw[Er hu ha,hV];exact o1
theorem COk.pos {v:Int}{rows:List Row}{row:Row} (h:COk v rows row .pt):¬∀p,(∀r∈rows,0<=dL r p)->0<=dL row p:=fun hh=>by
 obtain ⟨_,p,h1,h2⟩:=h;exact absurd (hh p h1) (Rat.not_le.2 h2)
theorem YA {f:Flow} (hf:jk f) (hw:QY f) {fs:List Row} (hfs:Ue f fs) {j:Nat}{y:Trans} (hy:f.trans[j]?=some y) :
  ∃out,TOk f fs (j:Int) out/\aB Tryz.prog 245 [y.tr,.sl true (fs.map Row.tr)] out.tr:=by
 obtain ⟨u,a,o1,hu,ha,c1,k1⟩:=afu hf hw hfs hy;obtain ⟨G,D,o2,g1,d1,c2,k2⟩:=aaX hf hw hfs hy 1 (by decide);have htr:aK f (j:Int)=y:=fu hy;have haf:(fs.map Row.tr)[u]?=some a.tr:=by rw[List.getElem?_map,ha];rfl
 obtain ⟨fr,to,gnn,gd,nnn,nx⟩:=y;simp only at hu;subst hu;cases o1 with
 |lim =>
  refine ⟨.err fP fP,trivial,?_⟩;unfold mH.tr at c1 c2;unfold vX.tr;clear k1 k2 hfs hw hf;refine au orders Tryz.func245 rfl (by kernel_rfl) (fun d=>d==4||d==5||d==8||d==11||d==1000004||d==1000005||d==1000008||d==1000011) (by kernel_rfl) rfl (fun hs=>?_);clear hs
  repeat' (first|refine sX ?_ ?_<;>intro h|refine aj (c1) rfl ?_|refine aj (g1) rfl ?_|refine aj (d1) rfl ?_|refine aj (c2) rfl ?_|simp only[go_sem, *])
 |pt =>
  refine ⟨.no fP fP,fun hh=>k1.pos (by rw[htr]at hh;exact hh.1),?_⟩;unfold mH.tr at c1 c2;unfold vX.tr;clear k1 k2 hfs hw hf;refine au orders Tryz.func245 rfl (by kernel_rfl) (fun d=>d==4||d==5||d==8||d==11||d==1000004||d==1000005||d==1000008||d==1000011) (by kernel_rfl) rfl (fun hs=>?_);clear hs
  repeat' (first|refine sX ?_ ?_<;>intro h|refine aj (c1) rfl ?_|refine aj (g1) rfl ?_|refine aj (d1) rfl ?_|refine aj (c2) rfl ?_|simp only[go_sem, *])
 |cert b =>
  cases o2 with
  |lim =>
   refine ⟨.err b fP,trivial,?_⟩;unfold mH.tr at c1 c2;unfold vX.tr;clear k1 k2 hfs hw hf;refine au orders Tryz.func245 rfl (by kernel_rfl) (fun d=>d==4||d==5||d==8||d==11||d==1000004||d==1000005||d==1000008||d==1000011) (by kernel_rfl) rfl (fun hs=>?_);clear hs
   repeat' (first|refine sX ?_ ?_<;>intro h|refine aj (c1) rfl ?_|refine aj (g1) rfl ?_|refine aj (d1) rfl ?_|refine aj (c2) rfl ?_|simp only[go_sem, *])
  |pt =>
   refine ⟨.no b fP,fun hh=>k2.pos hh.2,?_⟩;unfold mH.tr at c1 c2;unfold vX.tr;clear k1 k2 hfs hw hf;refine au orders Tryz.func245 rfl (by kernel_rfl) (fun d=>d==4||d==5||d==8||d==11||d==1000004||d==1000005||d==1000008||d==1000011) (by kernel_rfl) rfl (fun hs=>?_);clear hs
   repeat' (first|refine sX ?_ ?_<;>intro h|refine aj (c1) rfl ?_|refine aj (g1) rfl ?_|refine aj (d1) rfl ?_|refine aj (c2) rfl ?_|simp only[go_sem, *])
  |cert d =>
   refine ⟨.yes b d,?_,?_⟩
   ·obtain ⟨a1,a2,a3⟩:=k1
    obtain ⟨b1,b2,b3⟩:=k2
    show _/\_/\_/\_/\_
    rw[htr];exact ⟨a1,b1,a3,b2,b3⟩
   ·unfold mH.tr at c1 c2
    unfold vX.tr;clear k1 k2 hfs hw hf;refine au orders Tryz.func245 rfl (by kernel_rfl) (fun d=>d==4||d==5||d==8||d==11||d==1000004||d==1000005||d==1000008||d==1000011) (by kernel_rfl) rfl (fun hs=>?_);clear hs
    repeat' (first|refine sX ?_ ?_<;>intro h|refine aj (c1) rfl ?_|refine aj (g1) rfl ?_|refine aj (d1) rfl ?_|refine aj (c2) rfl ?_|simp only[go_sem, *])
def uP (V:Nat):List Upd->Nat->List Int
 |[],_=>[]
 |u::us,k=>(if u.any=true then ((V+k:Nat):Int) else -1)::uP V us (if u.any=true then k+1 else k)
theorem JG (V:Nat):∀(us:List Upd) (k:Nat),(uP V us k).length=us.length
 |[],_=>rfl
 |u::us,k=>by simp only[uP,List.length_cons,JG V us]
theorem Ce (V:Nat):∀(us:List Upd) (k j:Nat) (u:Upd),us[j]?=some u->(uP V us k)[j]?=some (if u.any=true then ((V+(k+aG (us.take j)):Nat):Int) else -1)
 |[],_,j,_,h=>by simp at h
 |x::us,k,0,u,h=>by
  simp only[List.getElem?_cons_zero,Option.some.injEq]at h;subst h;simp[uP,aG]
 |x::us,k,j+1,u,h=>by
  rw[List.getElem?_cons_succ]at h;have:=Ce V us (if x.any=true then k+1 else k) j u h;rw[uP,List.getElem?_cons_succ,this,List.take_succ_cons,zV]
  by_cases hu:u.any=true
  ·rw[if_pos hu,if_pos hu]
   by_cases hx:x.any=true
   ·rw[if_pos hx,if_pos hx,show k+1+aG (us.take j)=k+(1+aG (us.take j)) by omega]
   ·rw[if_neg hx,if_neg hx,Nat.zero_add]
  ·rw[if_neg hu,if_neg hu]
theorem JH {us:List Upd}{j:Nat}{u:Upd} (h:us[j]?=some u):aG (us.take (j+1))=aG (us.take j)+if u.any=true then 1 else 0:=by
 rw[List.take_add_one,h];unfold aG;simp only[Option.toList_some,List.filter_append,List.length_append];congr 1
 by_cases e:u.any=true
 ·simp[e]
 ·simp[e]
def tQ (n:Int):Obj:=⟨[.t (i64 n)],1,1,3,false,true⟩
theorem YB {h:Hp}{z V L C p3 p6 p8 p11 p18:Nat}{f:Flow}{t:Trans}{fr to:Nat}{d:Int} (h3:hget h (3,p3)=some (oD z)) (h6:hget h (6,p6)=some (tQ (V:Nat))) (h11:hget h (11,p11)=some (tQ (V+aG t.next:Nat)))
  (h8:hget h (8,p8)=some ⟨[.rf (18,p18) V],1,1,59,false,true⟩) (h18:hget h (18,p18)=some ⟨(ints (uP V t.next 0)).map .t,1,V,3,false,true⟩)
  (hV:f.vars=(V:Nat)) (hV8:V<=8) (hL:L<=16) (Eo:t.from_=(fr:Nat)) (hfl:fr < L) (hto:t.to_=(to:Nat)) (htl:to < L) (hC:2*(L*(V+1))<=C) (hnl:t.next.length=V)
  (hu:∀u∈t.next,(u.any=false->u.expr.av.length=V)/\aU u.expr.const=true/\∀c∈u.expr.av,aU c=true) :
  MH h z 263 [.ad (6,p6) 1 0,.ad (3,p3) 1 0,.ro t.tr.cells,.ad (11,p11) 1 0,.ro [i64 d],.ad (8,p8) 1 0] f C (V+aG t.next) (4+8*2097152) (zU V t d).E d:=by
 intro h' qi mi i rows rhs R b hk hS hQ hM hi;have b3:=hk _ _ (by simp) (by simp) (by simp) h3;have b6:=hk _ _ (by simp) (by simp) (by simp) h6;have b8:=hk _ _ (by simp) (by simp) (by simp) h8;have b11:=hk _ _ (by simp) (by simp) (by simp) h11;have b18:=hk _ _ (by simp) (by simp) (by simp) h18;unfold oD at b3;unfold tQ at b6 b11;generalize hla:V+aG t.next=last at *;refine dI orders Tryz.func263 rfl (by kernel_rfl) (fun d=>d==11||d==51||d==68||d==81||d==82||d==90||d==103||d==104||d==3||d==88) (by kernel_rfl) rfl (fun hs hlen=>?_);clear hs hlen;generalize hrr:(if i=last then d else 0)=rr;have hne:(V:Int)<=(last:Int):=by rw[<- hla];omega
 rcases Nat.lt_or_ge i V with hA|hA
 case' inl =>
  have d1:decide ((i:Int) < (V:Int))=true:=decide_eq_true (by omega);have e0:=Gd hS hQ hM rfl rfl hV hV8 hfl (j:=i) (by omega) hL (x:=1) (m:=1) (KvB.nil C) hC (by omega) (by omega);have f0:=mQ (KvB.nil C) hfl (j:=i) (V:=V) (L:=L) (m:=1) (x:=1) (by omega) hC (by omega);have f1:=jY V fr i 1 []
  repeat' (first|refine sX ?_ ?_<;>intro h|simp only[go_sem, *])
  refine iH e0 fun v h1 hq=>?_
  obtain ⟨rfl,hq⟩:=hq;have g1:=aM hM (kvO (fE V fr i 1 []));have g2:=aD hQ (id:=(36,mi)) (.inl (by simp)) (kvO (fE V fr i 1 []));have g3:Same h' (hset h' (36,mi) (kvO (fE V fr i 1 []))) [(36,mi),(38,qi)]:=(Same.set h' (36,mi) _).mono (by simp);rw[<- hq]at g1 g2 g3;have g4:∀Y,eT Y (fE V fr i 1 [])=ku V fr to last Y i:=fun Y=>by
   rw[f1 Y,ku,if_pos hA,show eT Y []=0 from rfl,show ((1:Int):Rat)=1 from rfl];grind
  have g5:KvB (fE V fr i 1 []) C 4:=f0.mono (Nat.le_refl _) (by omega);rw[show (0:Int)=rr by rw[<- hrr,if_neg (by omega)]]at g2;clear hq e0 f0 f1 hrr;generalize fE V fr i 1 []=kv0 at *
  repeat' (first|refine sX ?_ ?_<;>intro h|simp only[go_sem, *])
 case' inr =>
  have d1:decide ((i:Int) < (V:Int))=false:=decide_eq_false (by omega)
  by_cases hB:i=last
  case' pos =>
   have d2:((i:Int)==(last:Int))=true:=by rw[hB,beq_self_eq_true]
   have e0:=Gd hS hQ hM rfl rfl hV hV8 hfl (j:=V) (Nat.le_refl _) hL (x:=1) (m:=1) (KvB.nil C) hC (by omega) (by omega);have f0:=mQ (KvB.nil C) hfl (j:=V) (V:=V) (L:=L) (m:=1) (x:=1) (Nat.le_refl _) hC (by omega);have f1:=jY V fr V 1 [];have hd:mF (36,mi) d=mF (36,mi) rr:=by rw[<- hrr,if_pos hB]
   have hh:∀Y,ku V fr to last Y i=Fq V Y fr V-Fq V Y to V:=fun Y=>by rw[ku,if_neg (by omega),if_pos hB]
   clear hB hrr
   repeat' (first|refine sX ?_ ?_<;>intro h|simp only[go_sem, *])
   refine iH e0 fun v h0 hq=>?_
   obtain ⟨rfl,hq⟩:=hq;have g1:=aM hM (kvO (fE V fr V 1 []));have g2:=aD hQ (id:=(36,mi)) (.inl (by simp)) (kvO (fE V fr V 1 []));have g3:Same h' (hset h' (36,mi) (kvO (fE V fr V 1 []))) [(36,mi)]:=Same.set h' (36,mi) _;rw[<- hq]at g1 g2 g3;have sS:=hS.same g3 (fun id hid=>by rw[List.mem_singleton]at hid;rw[hid];simp);generalize fE V fr V 1 []=kv0 at *;have e1:=Gd sS g2 g1 rfl rfl hV hV8 htl (j:=V) (Nat.le_refl _) hL (x:=-1) (m:=1) f0 hC (by omega) (by omega);have f2:=mQ f0 htl (j:=V) (V:=V) (L:=L) (m:=1) (x:=-1) (Nat.le_refl _) hC (by omega);have f3:=jY V to V (-1) kv0;have k3:=g3 _ _ (by simp) b3;have k6:=g3 _ _ (by simp) b6;clear e0 hq
   repeat' (first|refine sX ?_ ?_<;>intro h|simp only[go_sem, *])
   refine iH e1 fun v h00 hq=>?_
   obtain ⟨rfl,hq⟩:=hq;have j1:=aM g1 (kvO (fE V to V (-1) kv0));have j2:=aD g2 (id:=(36,mi)) (.inl (by simp)) (kvO (fE V to V (-1) kv0));have j3:Same h' (hset h0 (36,mi) (kvO (fE V to V (-1) kv0))) [(36,mi)]:=(g3.trans (Same.set h0 (36,mi) _)).mono (by simp);rw[<- hq]at j1 j2 j3;have j4:∀Y,eT Y (fE V to V (-1) kv0)=ku V fr to last Y i:=fun Y=>by
    rw[f3 Y,f1 Y,hh Y,show eT Y []=0 from rfl,show ((1:Int):Rat)=1 from rfl,show ((-1:Int):Rat)=-1 from rfl];grind
   generalize fE V to V (-1) kv0=kv1 at *;have g1:=aD j1 (id:=(38,qi)) (.inl (by simp)) (mF (36,mi) d);have g2:=aM j2 (mF (36,mi) d);have g3:Same h' (hset h00 (38,qi) (mF (36,mi) d)) [(36,mi),(38,qi)]:=(j3.trans (Same.set h00 (38,qi) _)).mono (by simp);have g5:KvB kv1 C 4:=f2;have g4:=j4;have hst:hset h00 (38,qi) ⟨[.mp (36,mi),.t (i64 d)],2,1,aaH,true,true⟩=hset h00 (38,qi) (mF (36,mi) d):=rfl;generalize hset h00 (38,qi) (mF (36,mi) d)=h1 at *;rw[hd]at g2;unfold mF at j2;clear e1 hq f0 f1 f2 f3 hh hd sS k3 k6 j1 j3 j4
   repeat' (first|refine sX ?_ ?_<;>intro h|simp only[go_sem, *])
  case' neg =>
   have d2:((i:Int)==(last:Int))=false:=beq_eq_false_iff_ne.2 (by omega);have g1:=hM;have g2:=hQ;have g3:Same h' h' [(36,mi),(38,qi)]:=Same.refl _ _;have g4:∀Y,eT Y []=ku V fr to last Y i:=fun Y=>by rw[ku,if_neg (by omega),if_neg hB];rfl
   have g5:KvB [] C 4:=(KvB.nil C).mono (Nat.le_refl _) (by omega);rw[show (0:Int)=rr by rw[<- hrr,if_neg hB]]at g2;clear hrr hB
   repeat' (first|refine sX ?_ ?_<;>intro h|simp only[go_sem, *])
   generalize ([]:List (Int × Int))=kv0 at *
 all_goals
  subst hnl;refine aC (t.next) (fun k s'=>∃kv,hget s'.hp (36,mi)=some (kvO kv)/\hget s'.hp (38,qi)=some (mF (36,mi) rr)/\Same h' s'.hp [(36,mi),(38,qi)]/\KvB kv C (4+k*2097152)/\∀Y,eT Y kv+iA t.next.length to last Y i (t.next.drop k) k (aG (t.next.take k))=ku t.next.length fr to last Y i+iA t.next.length to last Y i t.next 0 0) rfl rfl (by first|assumption|omega) (by kernel_rfl) (fun _ _ _ _ hj=>hj) (fun _ _ _ hj=>hj) ?_ (fun j y u hy hyd hj hJ hjx hfr H hH=>?_) (fun u hJ hfr=>?_)
  ·exact ⟨_,g1,g2,g3,g5,fun Y=>by rw[g4 Y];rfl⟩
  ·have e0:=hfr 0 (by kernel_rfl)
   have e1:=hfr 1 (by kernel_rfl);have e2:=hfr 2 (by kernel_rfl);have e3:=hfr 3 (by kernel_rfl);have e4:=hfr 4 (by kernel_rfl);have e5:=hfr 5 (by kernel_rfl);have e7:=hfr 7 (by kernel_rfl);have e43:=hfr 43 (by kernel_rfl);clear hfr;simp only[go_sem]at e0 e1 e2 e3 e4 e5 e7 e43;obtain ⟨kv,g1,g2,g3,g4,g5⟩:=hJ;have sS:=hS.same g3 (fun id hid=>by simp only[List.mem_cons,List.not_mem_nil,or_false]at hid;rcases hid with rfl|rfl<;>simp);have k3:=fun o=>aA (g3 _ _ (by simp) b3) (s:=11) o
   have k6:=fun o=>aA (g3 _ _ (by simp) b6) (s:=11) o
   have k8:=fun o=>aA (g3 _ _ (by simp) b8) (s:=11) o
   have k11:=fun o=>aA (g3 _ _ (by simp) b11) (s:=11) o
   have k18:=fun o=>aA (g3 _ _ (by simp) b18) (s:=11) o
   obtain ⟨hu1,hu2,hu3⟩:=hu y (List.mem_of_getElem? hy);have hsl:=Ce t.next.length t.next 0 j y hy;rw[Nat.zero_add]at hsl;have hkt:=JH hy;rw[hyd]at g5;have hpx:∀(o:Obj) (x:Int),x.natAbs<=1048576->dM Tryz.prog 264 [.ad (15,z) 1 0,.ad (38,qi) 1 0,.t (i64 (to:Nat)),.t (i64 (j:Nat)),.t (i64 x)] (hnew u.hp 11 o) (fun v h'=>v=.t (.tup [])/\h'=hset (hnew u.hp 11 o) (36,mi) (kvO (fE t.next.length to j x kv))):=fun o x hx =>
    Gd (sS.new 11 o) (aA g2 o) (aA g1 o) rfl rfl hV hV8 htl (by omega) hL (m:=1048576) g4 hC (by omega) hx
   have hfin:∀(o:Obj) (x:Int) (s'':St),x.natAbs<=1048576->(∀Y,(if y.any=true then (if i=t.next.length+aG (t.next.take j) then -Fq t.next.length Y to j else 0) else if i < t.next.length then -(((y.expr.av.getD i 0:Int):Rat)*Fq t.next.length Y to j) else if i=last then -(((y.expr.const:Int):Rat)*Fq t.next.length Y to j) else 0)=(x:Rat)*Fq t.next.length Y to j) ->
     s''.hp=hset (hnew u.hp 11 o) (36,mi) (kvO (fE t.next.length to j x kv))->H s'':=fun o x s'' hx MZ hh=>by
    refine hH _ ⟨fE t.next.length to j x kv,by rw[hh];exact aM (aA g1 o) _,by rw[hh];exact aD (aA g2 o) (id:=(36,mi)) (.inl (by simp)) _,by rw[hh];exact ((g3.trans (Same.new _ 11 o)).trans (Same.set _ (36,mi) _)).mono (by simp),(mQ g4 htl (by omega) hC hx).mono (Nat.le_refl _) (by omega),fun Y=>?_⟩;rw[jY,<- g5 Y,iA,MZ Y,hkt];split<;>grind
   have uo:∀(o:Obj) (s'':St),(∀Y,(if y.any=true then (if i=t.next.length+aG (t.next.take j) then -Fq t.next.length Y to j else 0) else if i < t.next.length then -(((y.expr.av.getD i 0:Int):Rat)*Fq t.next.length Y to j) else if i=last then -(((y.expr.const:Int):Rat)*Fq t.next.length Y to j) else 0)=0) ->
     s''.hp=hnew u.hp 11 o->H s'':=fun o s'' MZ hh=>by
    refine hH _ ⟨kv,by rw[hh];exact aA g1 o,by rw[hh];exact aA g2 o,by rw[hh];exact (g3.trans (Same.new _ 11 o)).mono (by simp),g4.mono (Nat.le_refl _) (by omega),fun Y=>?_⟩;rw[<- g5 Y,iA,MZ Y,hkt];split<;>grind
   clear g1 g2 g3 g4 g5 hu hS hQ hM hkt hyd sS hH
   by_cases hya:y.any=true
   ·rw[if_pos hya]at hsl
    by_cases hik:i=t.next.length+aG (t.next.take j)
    ·have d3:((i:Int)==((t.next.length+aG (t.next.take j):Nat):Int))=true:=by rw[hik,beq_self_eq_true]
     have hF:=fun o s''=>hfin o (-1) s'' (by decide) (fun Y=>by rw[if_pos hya,if_pos hik,show ((-1:Int):Rat)=-1 from rfl];grind)
     have hP:=fun o=>hpx o (-1) (by decide)
     clear hfin uo hpx hik;generalize t.next.length+aG (t.next.take j)=sk at *
     repeat' (first|refine sX ?_ ?_<;>intro h|simp only[go_sem, *])
     refine iH (hP _) fun v h2 hq=>?_
     obtain ⟨rfl,rfl⟩:=hq
     repeat' (first|refine sX ?_ ?_<;>intro h|simp only[go_sem, *])
     exact hF _ _ rfl
    ·have d3:((i:Int)==((t.next.length+aG (t.next.take j):Nat):Int))=false:=beq_eq_false_iff_ne.2 (by omega)
     have hF:=fun o s''=>uo o s'' (fun Y=>by rw[if_pos hya,if_neg hik])
     clear hfin uo hpx hik;generalize t.next.length+aG (t.next.take j)=sk at *
     repeat' (first|refine sX ?_ ?_<;>intro h|simp only[go_sem, *])
     exact hF _ _ rfl
   ·have hyf:y.any=false:=by simpa using hya
    have hcl:=hu1 hyf
    by_cases hlt:i < t.next.length
    ·try (exfalso;omega)
     all_goals
      obtain ⟨a,ha,-⟩:=aF y.expr.av i (by omega);have ha2:=aZ (hu3 a (List.mem_of_getElem? ha));have hgd:y.expr.av.getD i 0=a:=by rw[List.getD_eq_getElem?_getD,ha];rfl
      have hwn:IntKind.i64.wrap (0-a)=-a:=by rw[wrap_i64 (by omega) (by omega)];omega
      have hF:=fun o s''=>hfin o (-a) s'' (by omega) (fun Y=>by rw[if_neg hya,if_pos hlt,hgd,Rat.intCast_neg];grind)
      have hP:=fun o=>hpx o (-a) (by omega)
      clear hfin uo hpx hlt hya hgd
      repeat' (first|refine sX ?_ ?_<;>intro h|simp only[go_sem, *])
      refine lT (hP _) rfl ?_
      repeat' (first|refine sX ?_ ?_<;>intro h|simp only[go_sem, *])
      exact hF _ _ rfl
    ·try (exfalso;omega)
     all_goals
      by_cases hil:i=last
      ·try (exact absurd (by omega) (beq_eq_false_iff_ne.1 d2))
       all_goals
        have ha2:=aZ hu2;have hwn:IntKind.i64.wrap (0-y.expr.const)=-y.expr.const:=by rw[wrap_i64 (by omega) (by omega)];omega
        have hF:=fun o s''=>hfin o (-y.expr.const) s'' (by omega) (fun Y=>by rw[if_neg hya,if_neg hlt,if_pos hil,Rat.intCast_neg];grind)
        have hP:=fun o=>hpx o (-y.expr.const) (by omega)
        clear hfin uo hpx hlt hya hil
        repeat' (first|refine sX ?_ ?_<;>intro h|simp only[go_sem, *])
        refine iH (hP _) fun v h2 hq=>?_
        obtain ⟨rfl,rfl⟩:=hq
        repeat' (first|refine sX ?_ ?_<;>intro h|simp only[go_sem, *])
        exact hF _ _ rfl
      ·try (exact absurd (eq_of_beq d2) (by omega))
       all_goals
        have hF:=fun o s''=>uo o s'' (fun Y=>by rw[if_neg hya,if_neg hlt,if_neg hil])
        clear hfin uo hpx hlt hya hil
        repeat' (first|refine sX ?_ ?_<;>intro h|simp only[go_sem, *])
        exact hF _ _ rfl
  ·obtain ⟨kv,g1,g2,g3,g4,g5⟩:=hJ
   rw[List.drop_length]at g5;have g6:∀Y,eT Y kv=(zU t.next.length t d).E Y i:=fun Y=>by
    have e:=g5 Y;rw[iA]at e
    show _=ku t.next.length t.from_.toNat t.to_.toNat (t.next.length+aG t.next) Y i+iA t.next.length t.to_.toNat (t.next.length+aG t.next) Y i t.next 0 0
    rw[Eo,hto,Int.toNat_natCast,Int.toNat_natCast,hla,<- e];grind
   have g7:KvB kv C 16777220:=g4.mono (Nat.le_refl _) (by omega);clear g4 g5 Eo hto hla hu hS hQ hM b3 b6 b8 b11 b18 h3 h6 h8 h11 h18 hk
   repeat' (first|refine sX ?_ ?_<;>intro h|simp only[go_sem, *])
   exact ⟨kv,rfl,g7,g6⟩
def slO (p V:Nat):Obj:=⟨[.rf (18,p) V],1,1,59,false,true⟩
def Ac (l:List Int) (V:Nat):Obj:=⟨(ints l).map .t,1,V,3,false,true⟩
theorem tT (l:List Upd):aG l<=l.length:=List.length_filter_le _ _
theorem VY {h:Hp}{z V ak:Nat}{f:Flow}{rows rhs:PV}{t:Trans}{d:Int} (hV:f.vars=(V:Nat)) (hV8:V<=8) (hnl:t.next.length=V) (ho:hget h (15,z)=some (eY f ak rows rhs)) {X:Hp->Prop}
  (him:∀(h2:Hp) (p3 p6 p8 p11 p18:Nat),Same h h2 []->hget h2 (3,p3)=some (oD z)->hget h2 (6,p6)=some (tQ (V:Nat))->hget h2 (11,p11)=some (tQ (V+aG t.next:Nat))->hget h2 (8,p8)=some ⟨[.rf (18,p18) V],1,1,59,false,true⟩->hget h2 (18,p18)=some ⟨(ints (uP V t.next 0)).map .t,1,V,3,false,true⟩ ->
   dM Tryz.prog 262 [.ad (15,z) 1 0,.t t.tr,.t (i64 (V+aG t.next:Nat)),.fn 263 [.ad (6,p6) 1 0,.ad (3,p3) 1 0,.ro t.tr.cells,.ad (11,p11) 1 0,.ro [i64 d],.ad (8,p8) 1 0]] h2 (fun _ h'=>X h')) :
  dM Tryz.prog 242 [.ad (15,z) 1 0,.t t.tr,.t (i64 d)] h (fun _ h'=>X h'):=by
 unfold eY at ho;have k15:=fun c o=>aA ho (s:=c) o
 have hm1:((V:Nat):Int)*((8:Nat):Int)<=281474976710656:=by omega
 have hm2:((V:Nat):Int)<=4611686018427387904:=by omega
 refine dI orders Tryz.func242 rfl (by kernel_rfl) (fun d=>d==6||d==8||d==10||d==11||d==30||d==3||d==18) (by kernel_rfl) rfl (fun hs hlen=>?_);clear hs hlen
 repeat' (first|refine sX ?_ ?_<;>intro h|simp only[go_sem, *])
 obtain ⟨p3,hp3⟩:∃p,hnext h 3=(3,p):=⟨_,rfl⟩
 obtain ⟨p6,hp6⟩:∃p,hnext h 6=(6,p):=⟨_,rfl⟩
 obtain ⟨p18,Xp⟩:∃p,hnext h 18=(18,p):=⟨_,rfl⟩
 obtain ⟨p8,hp8⟩:∃p,hnext h 8=(8,p):=⟨_,rfl⟩
 simp only[bH (s:=3) (s':=6) _ rfl,bH (s:=3) (s':=18) _ rfl,bH (s:=6) (s':=18) _ rfl,bH (s:=3) (s':=8) _ rfl,bH (s:=6) (s':=8) _ rfl,bH (s:=18) (s':=8) _ rfl,hp3,hp6,Xp,hp8];have F18:∀o,hget h (18,p18)≠some o:=fun o ho=>by have:=iE (s:=18) ho;rw[Xp]at this;simp at this
 have b3:=aJ (h:=h) 3 (oD z);rw[hp3]at b3;have b6:=aJ (h:=hnew h 3 (oD z)) 6 (tQ (V:Nat));rw[bH (s:=3) (s':=6) _ rfl,hp6]at b6;have b18:=aJ (h:=hnew (hnew h 3 (oD z)) 6 (tQ (V:Nat))) 18 (Ac (List.replicate V 0) V);rw[bH (s:=6) (s':=18) _ rfl,bH (s:=3) (s':=18) _ rfl,Xp]at b18;have B8:=aJ (h:=hnew (hnew (hnew h 3 (oD z)) 6 (tQ (V:Nat))) 18 (Ac (List.replicate V 0) V)) 8 (slO p18 V);rw[bH (s:=18) (s':=8) _ rfl,bH (s:=6) (s':=8) _ rfl,bH (s:=3) (s':=8) _ rfl,hp8]at B8;have B3:=aA (aA (aA b3 (s:=6) (tQ (V:Nat))) (s:=18) (Ac (List.replicate V 0) V)) (s:=8) (slO p18 V);have B6:=aA (aA b6 (s:=18) (Ac (List.replicate V 0) V)) (s:=8) (slO p18 V);have B18:=aA b18 (s:=8) (slO p18 V);have BS:Same h _ []:=(((Same.new h 3 (oD z)).trans (Same.new _ 6 (tQ (V:Nat)))).trans (Same.new _ 18 (Ac (List.replicate V 0) V))).trans (Same.new _ 8 (slO p18 V));change aI _ _ _ _ _ ⟨_,hnew (hnew (hnew (hnew h 3 (oD z)) 6 (tQ (V:Nat))) 18 (Ac (List.replicate V 0) V)) 8 (slO p18 V)⟩;clear b3 b6 b18;generalize hnew (hnew (hnew (hnew h 3 (oD z)) 6 (tQ (V:Nat))) 18 (Ac (List.replicate V 0) V)) 8 (slO p18 V)=H0 at *;clear hp3 hp6 Xp hp8 k15;subst hnl;refine aC t.next (fun k s'=>s'.sl 7=.t (i64 (aG (t.next.take k)))/\hget s'.hp (3,p3)=some (oD z)/\hget s'.hp (6,p6)=some (tQ (t.next.length:Nat))/\hget s'.hp (8,p8)=some (slO p18 t.next.length)/\Same h s'.hp []/\∃cur:List Int,hget s'.hp (18,p18)=some (Ac cur t.next.length)/\cur.length=t.next.length/\cur.take k=(uP t.next.length t.next 0).take k) rfl rfl (by first|assumption|omega) (by kernel_rfl) (fun _ _ _ _ hj=>hj) (fun _ _ _ hj=>hj) ?_ (fun k x s' hx hd hk hJ hix hfr G hG=>?_) (fun s' hJ hfr=>?_)
 ·exact ⟨rfl,B3,B6,B8,BS,_,B18,by simp,rfl⟩
 ·have c6:=hfr 6 (by kernel_rfl)
  have c8:=hfr 8 (by kernel_rfl);have c20:=hfr 20 (by kernel_rfl);have c21:=hfr 21 (by kernel_rfl);clear hfr;simp only[go_sem]at c6 c8 c20 c21;clear B3 B6 B8 BS B18;obtain ⟨c7,b3,b6,b8,bS,cur,b18,hcl,htk⟩:=hJ;have hsl:=Ce t.next.length t.next 0 k x hx;rw[Nat.zero_add]at hsl;have hkt:=JH hx;have hk1:k+1<=t.next.length:=hk;have hkc:k < cur.length:=by omega
  have g3:=fun o o'=>aD (aA b3 (s:=10) o) (id:=(18,p18)) (.inl (by simp)) o'
  have g6:=fun o o'=>aD (aA b6 (s:=10) o) (id:=(18,p18)) (.inl (by simp)) o'
  have g8:=fun o o'=>aD (aA b8 (s:=10) o) (id:=(18,p18)) (.inl (by simp)) o'
  have g18:=fun o o'=>aM (aA b18 (s:=10) o) o'
  have gS:∀o o',Same h (hset (hnew s'.hp 10 o) (18,p18) o') []:=fun o o' id oo _ ho=>Same.set (hnew s'.hp 10 o) (18,p18) o' id oo (fun e=>by rw[List.mem_singleton]at e;rw[e]at ho;exact F18 oo ho) ((bS.trans (Same.new _ 10 o)) id oo (by simp) ho)
  have hss:=fun o o1 o2=>lD (hnew s'.hp 10 o) (18,p18) o1 o2
  unfold tQ at b6 g6;unfold slO at b8 g8;unfold Ac at b18;have hk2:k < (cur.set k (-1)).length:=by rw[List.length_set];exact hkc
  have hk3:k+1<=(cur.set k (-1)).length:=hk2;have ajX:cur.take k++[(-1:Int)]=(cur.set k (-1)).take (k+1):=(aP _ _ _ hkc).symm;have hw1:IntKind.i64.wrap (((t.next.length:Nat):Int)+((aG (t.next.take k):Nat):Int))=((t.next.length+aG (t.next.take k):Nat):Int):=by
   have:=tT (t.next.take k);rw[List.length_take]at this;rw[wrap_i64 (by omega) (by omega)];omega
  have hw2:IntKind.i64.wrap (((aG (t.next.take k):Nat):Int)+1)=((aG (t.next.take k)+1:Nat):Int):=by
   have:=tT (t.next.take k);rw[List.length_take]at this;rw[wrap_i64 (by omega) (by omega)];omega
  clear him ho hd
  by_cases ha:x.any=true
  ·rw[if_pos ha]at hsl hkt
   repeat' (first|refine sX ?_ ?_<;>intro h|simp only[go_sem, *])
   refine hG _ ⟨by rw[hkt];rfl,g3 _ _,g6 _ _,g8 _ _,gS _ _,(cur.set k (-1)).set k ((t.next.length+aG (t.next.take k):Nat):Int),g18 _ _,by rw[List.length_set,List.length_set];exact hcl,?_⟩;rw[List.set_set,aP _ _ _ hkc,htk,List.take_add_one,hsl];rfl
  ·rw[if_neg ha]at hsl hkt
   repeat' (first|refine sX ?_ ?_<;>intro h|simp only[go_sem, *])
   refine hG _ ⟨by rw[hkt];exact c7,g3 _ _,g6 _ _,g8 _ _,gS _ _,cur.set k (-1),g18 _ _,by rw[List.length_set];exact hcl,?_⟩;rw[aP _ _ _ hkc,htk,List.take_add_one,hsl];rfl
 ·have c3:=hfr 3 (by kernel_rfl)
  have c4:=hfr 4 (by kernel_rfl);have c5:=hfr 5 (by kernel_rfl);have c6:=hfr 6 (by kernel_rfl);have c8:=hfr 8 (by kernel_rfl);clear hfr;simp only[go_sem]at c3 c4 c5 c6 c8;clear B3 B6 B8 BS B18;obtain ⟨c7,b3,b6,b8,bS,cur,b18,hcl,htk⟩:=hJ;rw[List.take_of_length_le (by omega),List.take_of_length_le (by rw[JG];exact Nat.le_refl _)]at htk;rw[List.take_length]at c7;subst htk;have hw1:IntKind.i64.wrap (((t.next.length:Nat):Int)+((aG t.next:Nat):Int))=((t.next.length+aG t.next:Nat):Int):=by
   have:=tT t.next;rw[wrap_i64 (by omega) (by omega)];omega
  have k3:=fun o=>aA b3 (s:=11) o
  have k6:=fun o=>aA b6 (s:=11) o
  have k11:=aJ (h:=s'.hp) 11 (tQ ((t.next.length+aG t.next:Nat):Int));unfold oD at k3;unfold tQ at k6 b6 k11;clear ho
  repeat' (first|refine sX ?_ ?_<;>intro h|simp only[go_sem, *,TR])
  unfold tQ at him;obtain ⟨p11,adZ⟩:∃p,hnext s'.hp 11=(11,p):=⟨_,rfl⟩
  rw[adZ]at k11;have g:=him _ p3 p6 p8 p11 p18 (bS.trans (Same.new _ 11 _)) (aA b3 _) (aA b6 _) k11 (aA b8 _) (aA b18 _);rw[adZ];refine iH g fun v h' hq=>?_
  clear him bS b8 b18 b3 k3 k6 k11 g
  repeat' (first|refine sX ?_ ?_<;>intro h|simp only[go_sem, *])
theorem acH {h:Hp}{z V L ak:Nat}{f:Flow}{rows rhs:PV}{R:List (List Int)}{b:List Int} (hS:jq h (15,z) f ak rows rhs R b) {t:Trans}{fr to:Nat}{d:Int} (hV:f.vars=(V:Nat)) (hV8:V<=8) (hL:L<=16) (Eo:t.from_=(fr:Nat)) (hfl:fr < L) (hto:t.to_=(to:Nat)) (htl:to < L) (hC:2*(L*(V+1))<=ak) (hnl:t.next.length=V)
  (hu:∀u∈t.next,(u.any=false->u.expr.av.length=V)/\aU u.expr.const=true/\∀c∈u.expr.av,aU c=true)
  (hn:t.guard.length<=16) (ug:ak<=100000) (hR:R.length<=1000) (hrb:b.length=R.length) (hg:∀r∈t.guard,aU r.const=true/\∀c∈r.av,aU c=true) :
  dM Tryz.prog 242 [.ad (15,z) 1 0,.t t.tr,.t (i64 d)] h (fun _ h'=>∃rows' rhs' R2 b2,jq h' (15,z) f (ak+t.guard.length+1) rows' rhs' (R++R2) (b++b2)/\mW h h'/\sw ak t.guard.length (V+aG t.next) (4+8*2097152) t.guard (zU V t d).E d R2 b2 (V+aG t.next+1)) :=
 VY hV hV8 hnl hS.obj fun h2 p3 p6 p8 p11 p18 hs b3 b6 b11 b8 b18 =>
  (TQ (hS.same hs (fun id hid=>by simp at hid)) t (YB (C:=ak+t.guard.length+1) (d:=d) b3 b6 b11 b8 b18 hV hV8 hL Eo hfl hto htl (by omega) hnl hu) hn ug (by have:=tT t.next;omega) (by decide) hR hrb hg).mono fun v h' ⟨rows',rhs',R2,b2,e1,e2,e3⟩ =>
   ⟨rows',rhs',R2,b2,e1,mW.trans (fun id o _ _ _ hh=>hs id o (by simp) hh) e2,e3⟩
def muS (d:Nat):Bool:=d==17||d==22||d==25||d==26||d==27||d==28||d==29||d==30||d==32||d==33||d==34||d==35||d==36||d==38||d==39||d==40||d==41||d==42||d==43||d==44||d==45||d==46||d==48||d==49||d==50||d==51||d==52||d==54||d==71||d==5||d==6||d==89||d==91||d==92||d==96||d==130||d==142||d==14||d==158||d==159||d==160||d==161||d==167||d==168||d==169||d==170||d==192||d==193||d==194||d==195||d==196||d==197||d==200||d==201||d==202||d==203||d==204||d==206||d==199||d==208||d==210||d==18||d==190||d==20||d==3000032||d==3000131||d==3000048||d==3999999||d==8000048||d==6000053||d==8999999||d==7000089||d==7000091
attribute [go_sem] muS
theorem pJ (n m o:Nat):awX muS (.ad (15,n) m o)=true:=fV _ _ _ rfl
theorem xM (q n:Nat):awX muS (.rf (71,q) n)=true:=by unfold awX DR;simp only[PV.site];rfl
theorem sW (q n m:Nat):awX muS (.ad (71,q) n m)=true:=fV _ _ _ rfl
theorem DI:rH muS (.tmp 89)=true:=rfl
theorem DJ:rH muS (.tmp 91)=true:=rfl
theorem YC {h:Hp}{p:PV}{R:List (List Int)}{q:Tr}:nS h 131 p R->apX muS (some 32) p (.t q)=true
 |.inl ⟨e,_⟩=>by rw[e];exact RY _ _
 |.inr ⟨(r1,r2),C,e1,e2,_⟩=>by
  simp only at e2;subst e2;rw[e1];exact fC _ _ _ _ rfl
theorem ND {mu:Nat->Bool}{d a:Nat} (hm:mu d=true) {h:Hp}{p:PV}{R:List (List Int)} (hd:d≠105) (ha:a≠105) (hR:nS h a p R) (hl:R.length<=1000000) :
  ∃p' h' c,(c=a\/c=d)/\aT Tryz.prog mu (some d) 275 p (.t (.sl true [.sl false []])) h=some (p',h')/\nS h' c p' (R++[[]])/\∀id',id'.1≠a->id'.1≠d->hget h' id'=hget h id':=by
 have hcc:∀h',(∀id':Id,id'.1≠a->id'.1≠d->hget h' id'=hget h id')->∀ {c r},rE h c r->rE h' c r:=fun h' hh c r hc=>by
  rcases hc with x|⟨i,e1,e2,e3⟩
  ·exact .inl x
  ·exact .inr ⟨i,e1,e2,by rw[hh i (by rw[e2];exact fun e=>ha e.symm) (by rw[e2];exact fun e=>hd e.symm)];exact e3⟩
 rcases hR with ⟨e1,e2⟩|⟨rid,C,e1,e2,e3,e4,e5⟩
 ·subst e1;subst e2
  have fr:∀id':Id,id'.1≠a->id'.1≠d->hget (hnew h d ⟨[.t (.sl false [])],1,1,35,false,true⟩) id'=hget h id':=fun id' _ hn=>by
   unfold hget;rw[jB _ (by simpa using hn)]
  refine ⟨.rf (hnext h d) 1,hnew h d ⟨[.t (.sl false [])],1,1,35,false,true⟩,d,.inr rfl,?_,.inr ⟨_,[.t (.sl false [])],rfl,rfl,aJ _ _,rfl,fun i x y h1 h2=>?_⟩,fr⟩
  ·obtain ⟨zz,hz1,hz2⟩:∃zz,aW Tryz.prog 35=some zz/\zz.length=1:=⟨[.sl false []],by kernel_rfl,rfl⟩
   have k1:bg Tryz.prog 275=some 35:=by kernel_rfl
   have k2:Tryz.prog.cellsOf 35=1:=by kernel_rfl
   have k3:Tryz.prog.bytesOf 35=24:=by kernel_rfl
   have k4:bR Tryz.prog 35=some false:=by kernel_rfl
   unfold aT;simp only[k1,hz1,iP,flat,List.flatMap_cons,List.flatMap_nil,List.append_nil,Tr.cells,List.length_cons,List.length_nil,k2,hz2,k3];unfold dG;simp only[k4,k2,hm];simp[hz2]
  ·match i with
   |0 =>
    simp only[List.getElem?_cons_zero,Option.some.injEq]at h1;simp only[List.nil_append,List.getElem?_cons_zero,Option.some.injEq]at h2;subst h1;subst h2
    exact .inl ⟨rfl,rfl⟩
   |i+1=>simp at h1
 ·subst e1
  have fr:∀id':Id,id'.1≠a->id'.1≠d->hget (hset h rid ⟨C++(flat [Tr.sl false []]).map .t,1,R.length+[Tr.sl false []].length,35,false,true⟩) id'=hget h id':=fun id' hn _=>by
   unfold hget;rw[fA _ (by rw[e2];simpa using hn)]
  refine ⟨_,_,a,.inl rfl,jW (e:=35) (esz:=1) (ag:=false) (by_:=24) (by kernel_rfl) (by kernel_rfl) (by kernel_rfl) rfl (by kernel_rfl) (fun y hy=>by rw[List.mem_singleton.1 hy];rfl) e3 (by simp only[List.length_cons,List.length_nil];omega),.inr ⟨rid,C++[.t (.sl false [])],by rw[List.length_append];rfl,e2,by rw[List.length_append];exact aM e3 _,by simp[e4],fun i x y h1 h2=>?_⟩,fr⟩;rcases Nat.lt_or_ge i C.length with hi|hi
  ·rw[List.getElem?_append_left hi]at h1
   rw[List.getElem?_append_left (by omega)]at h2;exact hcc _ fr (e5 i x y h1 h2)
  ·rw[List.getElem?_append_right hi]at h1
   rw[List.getElem?_append_right (by omega),<- e4]at h2
   match i-C.length,h1,h2 with
   |0,h1,h2 =>
    simp only[List.getElem?_cons_zero,Option.some.injEq]at h1 h2;subst h1;subst h2
    exact .inl ⟨rfl,rfl⟩
   |i+1,h1,_=>simp at h1
theorem QZ {mu:Nat->Bool}{d a:Nat} (hm:mu d=true) {h:Hp}{p:PV}{b:List Int}{x:Int}{nn:Bool} (hb:Ai h a p b) (hl:b.length<=1000000) :
  ∃p' h' c,(c=a\/c=d)/\aT Tryz.prog mu (some d) 35 p (.t (.sl nn [i64 x])) h=some (p',h')/\Ai h' c p' (b++[x])/\∀id',id'.1≠a->id'.1≠d->hget h' id'=hget h id':=by
 rcases hb with ⟨e1,e2⟩|⟨rid,e1,e2,e3⟩
 ·obtain ⟨p',h',x1,x2,x3⟩:=Jt (mu:=mu) (a:=d) (x:=x) (nn:=nn) hm (p:=p) (b:=b) (h:=h) (.inl ⟨e1,e2⟩) hl
  exact ⟨p',h',d,.inr rfl,x1,x2,fun id' _ hn=>x3 id' hn⟩
 ·subst e1
  refine ⟨_,_,a,.inl rfl,jW (e:=2) (esz:=1) (ag:=false) (by_:=8) (by kernel_rfl) (by kernel_rfl) (by kernel_rfl) rfl (by kernel_rfl) (fun y hy=>by rw[List.mem_singleton.1 hy];rfl) e3 (by simp only[List.length_cons,List.length_nil];omega),.inr ⟨rid,by rw[List.length_append];rfl,e2,?_⟩,fun id' hn _=>by unfold hget;rw[fA _ (by rw[e2];simpa using hn)]⟩;have:(⟨(ints b).map PV.t++(flat [i64 x]).map .t,1,b.length+[i64 x].length,2,false,true⟩:Obj)=intsO (b++[x]):=by
   unfold intsO;simp[ints,flat,Tr.cells]
  rw[this];exact aM e3 _
end ama
end Go.Vm
end
section
namespace Go.Vm
open Go Go.Proofs Go.Whole Go.bB
namespace ama
open Go.Proofs.Tryz
theorem rE.len {h:Hp}{c:PV}{r:List Int}:rE h c r->Dg false true h c=some (.t (i64 r.length))
 |.inl ⟨e,er⟩=>by rw[e,er];rfl
 |.inr ⟨id,e,_,eg⟩=>by
  rw[e];simp[Dg,rF,valid,eg,intsO,Za]
theorem rE.one {h:Hp}{c:PV}{r:List Int}:rE h c r->c.one=true/\c.cells=[c]
 |.inl ⟨e,_⟩=>by rw[e];exact ⟨rfl,rfl⟩
 |.inr ⟨id,e,_,_⟩=>by rw[e];exact ⟨rfl,rfl⟩
theorem Uf {cs0 L:List PV}{x:Nat} (h:cs0.length=x) (p p':PV):splice (cs0++p::L) x [p']=cs0++p'::L:=by
 subst h;simp[splice]
theorem aaY {cs0 L:List PV}{x:Nat} (h:cs0.length=x) (p:PV):(cs0++p::L)[x]?=some p:=by
 subst h;simp
def mO (cs:List PV) (n:Nat):Obj:=⟨cs,1,n,l5,false,true⟩
def qO (l:List Tr) (n:Nat):Obj:=⟨(flat l).map .t,6,n,dW,true,true⟩
def Q5 (h h':Hp):Prop:=∀id o,id.1≠48->id.1≠54->id.1≠71->hget h id=some o->hget h' id=some o
theorem acI {h:Hp}{a n ak:Nat}{R:List (List Int)}{cs:List PV} (hm:hget h (48,a)=some (mO cs n)) (hl:cs.length=n) (hR:R.length=n) (hr:∀(i:Nat) (p:PV) (r:List Int),cs[i]?=some p->R[i]?=some r->∃q:Nat,p=.rf (71,q) ak/\hget h (71,q)=some (qO ((q9 ak r).map aH) ak)) (k:Nat) :
  aS h (k+2) (.rf (48,a) n)=some (wX true (eD ak R)):=by
 have h1:bA (aS h (k+1)) cs=some ((List.range' 0 cs.length).map fun i=>.sl true (((eD ak R).getD i []).map aH)):=Ib (g:=fun i=>.sl true (((eD ak R).getD i []).map aH)) cs 0 fun i p hp=>by
  have hi:=(List.getElem?_eq_some_iff.1 hp).1;obtain ⟨r,hr1,_⟩:=aF R i (by omega);obtain ⟨q,rfl,hq⟩:=hr i p r hp hr1;have e:(eD ak R).getD (0+i) []=q9 ak r:=by simp[eD,List.getD_eq_getElem?_getD,hr1]
  rw[e];exact iX k (qR _) (by rw[List.length_map,yT]) hq
 have h2:((List.range' 0 cs.length).map fun i=>Tr.sl true (((eD ak R).getD i []).map aH))=(eD ak R).map fun r=>Tr.sl true (r.map aH):=by
  apply List.ext_getElem
  ·simp[eD,hl,hR]
  ·intro i e1 e2
   simp only[List.length_map]at e2;simp[List.getD_eq_getElem?_getD,e2]
 rw[h2]at h1;exact HY hm rfl h1
theorem VZ {h:Hp}{a n ak:Nat}{R:List (List Int)}{cs:List PV} (hm:hget h (48,a)=some (mO cs n)) (hl:cs.length=n) (hR:R.length=n) (hr:∀(i:Nat) (p:PV) (r:List Int),cs[i]?=some p->R[i]?=some r->∃q:Nat,p=.rf (71,q) ak/\hget h (71,q)=some (qO ((q9 ak r).map aH) ak)) (k:Nat) :
  ∀id∈reach h (k+2) (.rf (48,a) n),id.1=48\/id.1=71:=fun id hid=>by
 have e:reach h (k+2) (.rf (48,a) n)=(48,a)::(match hget h (48,a) with|some o=>o.cs.flatMap (reach h (k+1))|none=>[]):=rfl;rw[e,hm]at hid;rcases List.mem_cons.1 hid with rfl|hid
 ·exact .inl rfl
 ·obtain ⟨p,hp,hid⟩:=List.mem_flatMap.1 hid
  obtain ⟨i,hi,rfl⟩:=List.mem_iff_getElem.1 hp;obtain ⟨r,hr1,_⟩:=aF R i (by simp only[mO]at hi;omega);obtain ⟨q,e1,hq⟩:=hr i _ r (List.getElem?_eq_getElem hi) hr1;simp only[mO]at e1 hid;rw[e1]at hid;unfold qO at hq;rw[pE k hq]at hid;rw[List.mem_singleton.1 hid];exact .inr rfl
theorem V3 {h:Hp}{a n:Nat}{l:List Tr} (hm:hget h (54,a)=some (qO l n)) (k:Nat):∀id∈reach h (k+1) (.rf (54,a) n),id.1=54:=fun id hid=>by
 unfold qO at hm;rw[pE k hm]at hid;rw[List.mem_singleton.1 hid]
structure JI (h:Hp) (z:Nat) (f:Flow) (ak:Nat) (rid lS:Id) (n:Nat) (C:List PV) (R:List (List Int)) (b:List Int):Prop where
 o:hget h (15,z)=some (eY f ak (.rf rid n) (.rf lS n))
 r:hget h rid=some ⟨C,1,n,35,false,true⟩
 c:∀(i:Nat) (c:PV) (r:List Int),C[i]?=some c->R[i]?=some r->rE h c r
 s:hget h lS=some (intsO b)
 cl:C.length=n
 rl:R.length=n
 bl:b.length=n
theorem JI.tree {h:Hp}{z:Nat}{f:Flow}{ak:Nat}{rid lS:Id}{n:Nat}{C:List PV}{R:List (List Int)}{b:List Int} (x:JI h z f ak rid lS n C R b):∃rt ht,aS h dep (.ad (15,z) 1 0)=some (.ptr (f.cs++[i64 (ak:Nat),rt,ht])):=by
 obtain ⟨ys,hy,_⟩:=Ey (f:=aS h 4) (l:=C) fun y hy=>by
  obtain ⟨i,hi,rfl⟩:=List.mem_iff_getElem.1 hy;exact (x.c i _ _ (List.getElem?_eq_getElem hi) (List.getElem?_eq_getElem (by rw[x.rl,<- x.cl];exact hi))).tree 3
 obtain ⟨rt,h1⟩:∃rt,aS h 5 (.rf rid n)=some rt:=⟨_,HY (k:=4) x.r rfl hy⟩
 obtain ⟨ht,h2⟩:∃ht,aS h 5 (.rf lS n)=some ht:=⟨_,by have:=BN x.s 4;rw[x.bl]at this;exact this⟩
 refine ⟨rt,ht,?_⟩;refine OW (k:=5) (off:=0) x.o rfl ?_;simp only[eY,Flow.cs,List.map_cons,List.map_nil,List.cons_append,List.nil_append,bA,qy,h1,h2]
theorem JI.keep {h h':Hp}{z:Nat}{f:Flow}{ak:Nat}{rid lS:Id}{n:Nat}{C:List PV}{R:List (List Int)}{b:List Int} (x:JI h z f ak rid lS n C R b) (h1:rid.1=131\/rid.1=32) (h2:lS.1=141\/lS.1=38) (hk:∀id o,(id.1=15\/id.1=105\/id.1=131\/id.1=32\/id.1=141\/id.1=38)->hget h id=some o->hget h' id=some o):JI h' z f ak rid lS n C R b :=
 ⟨hk _ _ (.inl rfl) x.o,hk _ _ (by rcases h1 with e|e<;>simp[e]) x.r,fun i c r a1 a2=>by
  rcases x.c i c r a1 a2 with e|⟨id,e1,e2,e3⟩
  ·exact .inl e
  ·exact .inr ⟨id,e1,e2,hk _ _ (.inr (.inl e2)) e3⟩,hk _ _ (by rcases h2 with e|e<;>simp[e]) x.s,x.cl,x.rl,x.bl⟩
theorem aaZ {f:Flow}{ak:Nat}{rt ht:Tr}{V L:Nat} (hV:f.vars=(V:Nat)) (hV8:V<=8) (hl:L<=16) :
  aB Tryz.prog 240 [.ptr (f.cs++[i64 (ak:Nat),rt,ht]),i64 (L:Nat),.int .i64 0] (i64 (2*(L*(V+1)):Nat)):=by
 have:=aaI (f:=f) (ak:=ak) (rt:=rt) (ht:=ht) hV hV8 (l:=L) (j:=0) hl (by omega);unfold eG at this;rw[Nat.add_zero]at this;exact this
theorem Q6 {V L m:Nat} (y:Nat->Rat) (hm:m < L*(V+1)):(bZ V L y)[m]?=some (y (2*m)-y (2*m+1)):=by
 unfold bZ;rw[List.getElem?_map,List.getElem?_range hm];rfl
def Ug (m:List (List Rat)) (rhs:List Rat) (ans:List Rat ⊕ List Rat):Prop:=jh m rhs ans/\qg ans (kU m.length 67108864)/\aB Tryz.prog 66 [wX true m,.sl true (rhs.map aH)] (mg ans)
noncomputable def uQ (m:List (List Rat)) (rhs:List Rat):List Rat ⊕ List Rat:=Classical.epsilon (Ug m rhs)
def EJ (V L:Nat):List Rat ⊕ List Rat->yU
 |.inr _=>.none
 |.inl y=>match nR V L (atL y) with|some l=>.fs l|none=>.lim
theorem uR {y:Nat->Rat}{R:List (List Int)}{b:List Int} (hl:b.length=R.length):mG y (R++[[]]) (b++[0])↔mG y R b:=by
 rw[mG.append hl];refine ⟨fun h=>h.1,fun h=>⟨h,fun i r x h1 h2=>?_⟩⟩
 match i with
 |0 =>
  simp only[List.getElem?_cons_zero,Option.some.injEq]at h1 h2;subst h1;subst h2
  rfl
 |i+1=>simp at h1
def V4:yU->PV->Hp->Prop
 |.none,v,_=>v=.t (.tup [.sl false [],.bool false,i64 0])
 |.lim,v,_=>v=.t (.tup [.sl false [],.bool true,i64 3])
 |.fs l,v,h=>∃(id:Id) (n:Nat),v=.tup [.rf id n,.t (.bool true),.t (i64 0)]/\aS h dep (.rf id n)=some (.sl true (l.map Row.tr))
theorem aa0 {h:Hp}{z V L ak:Nat}{f:Flow}{rows rhs:PV}{R:List (List Int)}{b:List Int} (hS:jq h (15,z) f ak rows rhs R b) (hV:f.vars=(V:Nat)) (hV8:V<=8) (hL:f.dD=(L:Nat)) (hL1:1<=L) (yV:L<=16) {bs:List Blk} (lG:ru (2*(L*(V+1))) ak R b bs) (hbs:bs.length<=33) :
  wZ V L bs (EJ V L (uQ (eD ak (R++[[]])) (jd (b++[0]))))/\dM Tryz.prog 244 [.ad (15,z) 1 0] h (fun v h'=>V4 (EJ V L (uQ (eD ak (R++[[]])) (jd (b++[0])))) v h'):=by
 have hRn:=lG.rn;have hcn:=lG.cn;have hbl:=lG.bl;have hLV:L*(V+1)<=16*9:=Nat.mul_le_mul yV (by omega);have ahK:1<=L*(V+1):=Nat.mul_pos hL1 (by omega);obtain ⟨-,uE,hrows,hrhs⟩:=hS;have ug:1<=ak:=by have:=sj bs (2*(L*(V+1)));rw[<- lG.ce]at this;omega
 have hw':∀r∈R++[[]],r.length<=ak/\∀x∈r,x.natAbs<=67108864:=fun r hr=>by
  rcases List.mem_append.1 hr with hr|hr
  ·exact lG.wide r hr
  ·rw[List.mem_singleton.1 hr];exact ⟨Nat.zero_le _,fun x hx=>by simp at hx⟩
 have hb':∀x∈b++[0],x.natAbs<=67108864:=fun x hx=>by
  rcases List.mem_append.1 hx with hx|hx
  ·have:=lG.rhs x hx;omega
  ·rw[List.mem_singleton.1 hx];decide
 have hml:(eD ak (R++[[]])).length=R.length+1:=by simp[eD]
 have EF:Fit (2*kU (eD ak (R++[[]])).length 67108864):=by
  rw[hml];exact Fit.two (k:=562) (by rw[B2];exact Nat.le_trans (Nat.mul_le_mul (show R.length+1<=562 by omega) (Nat.le_refl _)) (by decide)) (by rw[eu];omega) (by omega) (by decide) (by omega) (by decide)
 have hfit:Fit (kU (eD ak (R++[[]])).length 67108864):=EF.mono (Nat.le_trans (Nat.mul_pos (by omega) (by decide)) (BQ (by omega) (by decide))) (by omega);have hex:∃ans,Ug (eD ak (R++[[]])) (jd (b++[0])) ans:=by
  obtain ⟨ans,ha,hA,_,hd⟩:=CZ true (m:=eD ak (R++[[]])) (rhs:=jd (b++[0])) (C:=ak) (c:=67108864) (fun r hr=>by
  obtain ⟨q,_,rfl⟩:=List.mem_map.1 hr;exact yT _ _) (by simp[eD,jd,hbl]) (by omega) (by omega) (by omega) (O4 (by decide) (fun r hr=>(hw' r hr).2) hb') hfit
  exact ⟨ans,ha,hA,hd⟩
 obtain ⟨ha,hA,hd⟩:Ug (eD ak (R++[[]])) (jd (b++[0])) (uQ (eD ak (R++[[]])) (jd (b++[0]))):=Classical.epsilon_spec hex;generalize uQ (eD ak (R++[[]])) (jd (b++[0]))=ans at *;clear hex;refine ⟨?_,?_⟩
 ·cases ans with
  |inr u =>
   intro y hy hs;exact MS (by simp) (by simp[hbl]) (fun r hr=>(hw' r hr).1) ha hy ((uR hbl).2 ((lG.sol y).2 hs))
  |inl y =>
   obtain ⟨y1,y2,y3⟩:=EI (by simp) (fun r hr=>(hw' r hr).1) ha
   show wZ V L bs (match nR V L (atL y) with|some l=>.fs l|none=>.lim)
   cases hfo:nR V L (atL y) with
   |none=>exact trivial
   |some l =>
    refine ⟨atL y,fun c=>?_,(lG.sol _).1 ((uR hbl).1 y3),hfo⟩;unfold atL;rw[List.getD_eq_getElem?_getD];cases e:y[c]? with
    |none=>exact Rat.le_refl
    |some x=>exact y2 x (List.mem_of_getElem? e)
 have hyl:∀y,ans=.inl y->y.length=ak:=fun y e=>by subst e;exact (EI (by simp) (fun r hr=>(hw' r hr).1) ha).1
 have hnc:2*(L*(V+1))<=ak:=by have:=sj bs (2*(L*(V+1)));rw[<- lG.ce]at this;exact this
 have hvo:∀y,ans=.inl y->Over (bZ V L (atL y)) (2*kU (eD ak (R++[[]])).length 67108864):=fun y e=>by
  have hl:=hyl y e;subst e;exact QU (by rw[hl];exact hnc) hA.over
 have hyq:∀y,ans=.inl y->∀x∈y,gH x:=fun y e x hx=>by
  subst e;exact (hA.over.FB x hx).q1 hfit
 clear hA ha hml hfit hb' hw';generalize 2*kU (eD ak (R++[[]])).length 67108864=N2 at *;have ap:=YC (q:=.sl true [.sl false []]) hrows;obtain ⟨P1,H1,c1,hc1,x1,x2,x3⟩:=ND (mu:=muS) (d:=32) rfl (by decide) (by decide) hrows (by omega);obtain ⟨P2,H2,c2,hc2,y1,y2,y3⟩:=QZ (mu:=muS) (d:=38) (x:=0) (nn:=true) rfl (p:=rhs) (b:=b) (h:=H1) (a:=141) (by
  rcases hrhs with e|⟨rd,e1,e2,e3⟩
  ·exact .inl e
  ·exact .inr ⟨rd,e1,e2,by rw[x3 rd (by rw[e2];decide) (by rw[e2];decide)];exact e3⟩) (by omega)
 have o1:hget H1 (15,z)=some (eY f ak rows rhs):=by rw[x3 (15,z) (by simp) (by simp)];exact uE
 have o2:hget H2 (15,z)=some (eY f ak rows rhs):=by rw[y3 (15,z) (by simp) (by simp)];exact o1
 unfold eY at uE o1 o2;obtain ⟨q1,q1'⟩:=x2.cells;obtain ⟨q2,q2'⟩:=y2.cells;refine dI orders Tryz.func244 rfl (by kernel_rfl) muS (by kernel_rfl) rfl (fun hs hlen=>?_);clear hs hlen
 repeat' (first|refine sX ?_ ?_<;>intro h|simp only[go_sem, *,Bool.or_true,pJ,bL,dF,dP,aV])
 have eO:∀p q:PV,(⟨[.t (.int .i64 (V:Nat)),.t (.int .i64 (L:Nat)),.t (.int .i64 f.start),.t (.sl f.tnn (f.trans.map Trans.tr)),.t (i64 (ak:Nat)),p,q],7,1,Mx,true,true⟩:Obj)=eY f ak p q:=fun p q=>by
  unfold eY Flow.cs;rw[hV,hL];rfl
 rw[lD,eO];change stK _ _ _ (Dg _ _ (hset H2 (15,z) (eY f ak P1 P2)) P1) _ _ ⟨_,hset H2 (15,z) (eY f ak P1 P2)⟩;obtain ⟨n,hn⟩:∃n,R.length+1=n:=⟨_,rfl⟩
 have hRl:(R++[[]]).length=n:=by rw[List.length_append];exact hn
 have aa1:(b++[0]).length=n:=by rw[List.length_append,hbl];exact hn
 have hO:hget (hset H2 (15,z) (eY f ak P1 P2)) (15,z)=some (eY f ak P1 P2):=aM o2 _;obtain ⟨rid,C,rfl,r0,r1,r2,r3⟩:∃(rid:Id) (C:List PV),P1=.rf rid n/\(rid.1=131\/rid.1=32)/\hget (hset H2 (15,z) (eY f ak P1 P2)) rid=some ⟨C,1,n,35,false,true⟩/\C.length=n/\∀(i:Nat) (c:PV) (r:List Int),C[i]?=some c->(R++[[]])[i]?=some r->rE (hset H2 (15,z) (eY f ak P1 P2)) c r:=by
  rcases x2 with ⟨_,e⟩|⟨rid,C,e1,e2,e3,e4,e5⟩
  ·simp at e
  ·have hr:rid.1=131\/rid.1=32:=by rcases hc1 with e|e<;>rw[e]at e2<;>simp[e2]
   refine ⟨rid,C,by rw[e1,hRl],hr,?_,by rw[e4,hRl],fun i c r h1 h2=>?_⟩
   ·rw[<- hRl]
    refine aD ?_ (id:=(15,z)) (.inl (by rcases hr with e|e<;>simp[Prod.ext_iff,e])) _;rw[y3 rid (by rcases hr with e|e<;>rw[e]<;>decide) (by rcases hr with e|e<;>rw[e]<;>decide)];exact e3
   ·rcases e5 i c r h1 h2 with hh|⟨id,k1,k2,k3⟩
    ·exact .inl hh
    ·refine .inr ⟨id,k1,k2,aD ?_ (id:=(15,z)) (.inl (by simp[Prod.ext_iff,k2])) _⟩
     rw[y3 id (by rw[k2];decide) (by rw[k2];decide)];exact k3
 obtain ⟨lS,rfl,s0,s1⟩:∃(lS:Id),P2=.rf lS n/\(lS.1=141\/lS.1=38)/\hget (hset H2 (15,z) (eY f ak (.rf rid n) P2)) lS=some (intsO (b++[0])):=by
  rcases y2 with ⟨_,e⟩|⟨lS,e1,e2,e3⟩
  ·simp at e
  ·have hr:lS.1=141\/lS.1=38:=by rcases hc2 with e|e<;>rw[e]at e2<;>simp[e2]
   exact ⟨lS,by rw[e1,aa1],hr,aD e3 (id:=(15,z)) (.inl (by rcases hr with e|e<;>simp[Prod.ext_iff,e])) _⟩
 generalize hset H2 (15,z) (eY f ak (.rf rid n) (.rf lS n))=H3 at *
 try clear x1 x3
 try clear y1
 try clear y2
 try clear y3
 try clear x2
 try clear o1
 try clear o2
 clear uE ap hrows hrhs;unfold eY at hO;have hn2:n<=562:=by omega
 have hm1:((n:Nat):Int)*((24:Nat):Int)<=281474976710656:=by omega
 have hm2:((n:Nat):Int)*((80:Nat):Int)<=281474976710656:=by omega
 have hm3:((n:Nat):Int)<=4611686018427387904:=by omega
 clear eO;have ay:awY muS (.rf rid n)=true:=by
  obtain ⟨ra,rb⟩:=rid;unfold awY;rcases r0 with e|e<;>simp only at e<;>subst e<;>rfl
 have g1:=fun o=>aA r1 (s:=48) o
 have gO:=fun o=>aA hO (s:=48) o
 have g1':=fun o o'=>aA (g1 o) (s:=54) o'
 have gO':=fun o o'=>aA (gO o) (s:=54) o'
 have hn2:n<=562:=by omega
 have hm1:((n:Nat):Int)*((24:Nat):Int)<=281474976710656:=by omega
 have hm2:((n:Nat):Int)*((80:Nat):Int)<=281474976710656:=by omega
 have hm3:((n:Nat):Int)<=4611686018427387904:=by omega
 repeat' (first|refine sX ?_ ?_<;>intro h|simp only[go_sem, *,Bool.or_true,beq_self_eq_true,pJ,bL,dF,dP,aV])
 obtain ⟨a48,h48⟩:∃a,hnext H3 48=(48,a):=⟨_,rfl⟩
 obtain ⟨a54,h54⟩:∃a,hnext H3 54=(54,a):=⟨_,rfl⟩
 simp only[bH (s:=48) (s':=54) _ rfl,h48,h54];have e48:(⟨List.map PV.t (gX [.sl false []] n),1,n,l5,false,true⟩:Obj)=mO (List.replicate n (.t (.sl false []))) n:=by unfold mO;rw[Ia,List.map_replicate]
 have e54:(⟨List.map PV.t (gX [.int .i64 0,.int .i64 0,.sl false [],.bool false,.sl false [],.bool false] n),6,n,dW,true,true⟩:Obj)=qO (List.replicate n (.agg [.int .i64 0,.int .i64 0,.sl false [],.bool false,.sl false [],.bool false])) n:=by unfold qO;rw[jC]
 rw[e48,e54];clear e48 e54 g1 gO g1' gO' hm1 hm2 hm3;generalize hz0:List.replicate n (Tr.agg [.int .i64 0,.int .i64 0,.sl false [],.bool false,.sl false [],.bool false])=z0;have M0:=aJ (h:=H3) 48 (mO (List.replicate n (.t (.sl false []))) n);rw[h48]at M0;have M0:=aA M0 (s:=54) (qO z0 n);have Q0:=aJ (h:=hnew H3 48 (mO (List.replicate n (.t (.sl false []))) n)) 54 (qO z0 n);rw[bH (s:=48) (s':=54) _ rfl,h54]at Q0;have K0:Q5 H3 (hnew (hnew H3 48 (mO (List.replicate n (.t (.sl false []))) n)) 54 (qO z0 n)):=fun id o _ _ _ ho=>aA (aA ho _) _
 generalize hnew (hnew H3 48 (mO (List.replicate n (.t (.sl false []))) n)) 54 (qO z0 n)=H4 at *;have hz1:z0.length=n:=by rw[<- hz0];simp
 have hz2:∀w∈z0,dh true 6 w:=fun w hw=>by rw[<- hz0]at hw;rw[(List.mem_replicate.1 hw).2];exact ⟨fun _=>rfl,(fun h=>nomatch h),rfl⟩
 clear hz0 h48 h54;refine aC (List.range (n)) (fun k s'=>∃(cs0:List PV) (cur:List Tr),hget s'.hp (48,a48)=some (mO (cs0++List.replicate (n-k) (.t (.sl false []))) n)/\cs0.length=k/\(∀(i:Nat) (p:PV) (r:List Int),cs0[i]?=some p->(R++[[]])[i]?=some r->∃q:Nat,p=.rf (71,q) ak/\hget s'.hp (71,q)=some (qO ((q9 ak r).map aH) ak))/\hget s'.hp (54,a54)=some (qO cur n)/\cur.length=n/\(∀w∈cur,dh true 6 w)/\cur.take k=((jd (b++[0])).take k).map aH/\Q5 H3 s'.hp) rfl (by rw[List.length_range];rfl) (by rw[List.length_range];first|assumption|omega) (by kernel_rfl) (fun _ _ _ _ hj=>hj) (fun _ _ _ hj=>hj) ?_ (fun k x s' hx hd hk hJ hix hfr G hG=>?_) (fun s' hJ hfr=>?_)
 ·exact ⟨[],z0,M0,rfl,fun i p r h=>by simp at h,Q0,hz1,hz2,rfl,K0⟩
 ·have c0:=hfr 0 (by kernel_rfl)
  have c5:=hfr 5 (by kernel_rfl);have c6:=hfr 6 (by kernel_rfl);have c58:=hfr 58 (by kernel_rfl);have c59:=hfr 59 (by kernel_rfl);clear hfr;simp only[go_sem]at c0 c5 c6 c58 c59;clear M0 Q0 K0;obtain ⟨cs0,cur,j1,j2,j3,j4,j5,j6,j7,jK⟩:=hJ;rw[List.length_range]at hk;have hxk:x=k:=by rw[List.getElem?_range hk]at hx;injection hx with hx;exact hx.symm
  subst hxk;clear hd hx;obtain ⟨c,hc,_⟩:=aF C x (by omega);obtain ⟨r,hr,_⟩:=aF (R++[[]]) x (by omega);have hrc:=r3 x c r hc hr;obtain ⟨oc1,oc2⟩:=hrc.one;have k1:=jK rid _ (by rcases r0 with e|e<;>rw[e]<;>decide) (by rcases r0 with e|e<;>rw[e]<;>decide) (by rcases r0 with e|e<;>rw[e]<;>decide) r1;have kO:=jK _ _ (by simp) (by simp) (by simp) hO;have alV:((ak:Nat):Int)*((80:Nat):Int)<=281474976710656:=by omega
  have alW:((ak:Nat):Int)<=4611686018427387904:=by omega
  rw[show n-x=(n-x-1)+1 by omega,List.replicate_succ]at j1
  repeat' (first|refine sX ?_ ?_<;>intro h|simp only[go_sem, *,Bool.or_true,beq_self_eq_true,pJ,bL,dF,dP,aV])
  obtain ⟨q,hq⟩:∃q,hnext s'.hp 71=(71,q):=⟨_,rfl⟩
  have e54:(⟨List.map PV.t (gX [.int .i64 0,.int .i64 0,.sl false [],.bool false,.sl false [],.bool false] ak),6,ak,dW,true,true⟩:Obj)=qO (List.replicate ak (.agg [.int .i64 0,.int .i64 0,.sl false [],.bool false,.sl false [],.bool false])) ak:=by unfold qO;rw[jC]
  rw[hq,e54];generalize hy0:List.replicate ak (Tr.agg [.int .i64 0,.int .i64 0,.sl false [],.bool false,.sl false [],.bool false])=y0;have hy1:y0.length=ak:=by rw[<- hy0];simp
  have hy2:∀w∈y0,dh true 6 w:=fun w hw=>by rw[<- hy0]at hw;rw[(List.mem_replicate.1 hw).2];exact ⟨fun _=>rfl,(fun h=>nomatch h),rfl⟩
  have f71:=aJ (h:=s'.hp) 71 (qO y0 ak);rw[hq]at f71;have f48:=aA j1 (s:=71) (qO y0 ak);have fS:=Same.new s'.hp 71 (qO y0 ak);have fq:∀q' o,hget s'.hp (71,q')=some o->q'≠q:=fun q' o ho e=>by
   have:=iE (s:=71) ho;rw[hq,e]at this;simp at this
  generalize hnew s'.hp 71 (qO y0 ak)=H5 at *;clear e54 hy0 j1;have g71:=fun o=>aD f71 (id:=(48,a48)) (.inl (by simp)) o
  have g48:=fun o=>aM f48 o
  have gO:=fun o=>aD (fS _ _ (by simp) kO) (id:=(48,a48)) (.inl (by simp)) o
  have hsm:=Uf (L:=List.replicate (n-x-1) (PV.t (.sl false []))) j2 (.t (.sl false [])) (.rf (71,q) ak);have hgm:=aaY (L:=List.replicate (n-x-1) (PV.t (.sl false []))) j2 (.rf (71,q) ak);have hlm:(cs0++PV.t (.sl false [])::List.replicate (n-x-1) (PV.t (.sl false []))).length=n:=by simp;omega
  have alX:(cs0++PV.rf (71,q) ak::List.replicate (n-x-1) (PV.t (.sl false []))).length=n:=by simp;omega
  have hx1:x+1<=n:=hk;unfold mO at f48;simp only[mO,and_self,if_true,Nat.mul_one]
  repeat' (first|refine sX ?_ ?_<;>intro h|simp only[go_sem, *,Bool.or_true,beq_self_eq_true,pJ,bL,dF,dP,aV])
  simp only[qO,beq_self_eq_true,if_true]
  repeat' (first|refine sX ?_ ?_<;>intro h|simp only[go_sem, *,Bool.or_true,beq_self_eq_true,pJ,bL,dF,dP,aV])
  have D71:=g71 (mO (cs0++PV.rf (71,q) ak::List.replicate (n-x-1) (PV.t (.sl false []))) n);have D48:=g48 (mO (cs0++PV.rf (71,q) ak::List.replicate (n-x-1) (PV.t (.sl false []))) n);have DS:∀id o,id≠(48,a48)->hget s'.hp id=some o->hget (hset H5 (48,a48) (mO (cs0++PV.rf (71,q) ak::List.replicate (n-x-1) (PV.t (.sl false []))) n)) id=some o:=fun id o hne ho=>Same.set H5 (48,a48) _ id o (by simpa using hne) (fS id o (by simp) ho)
  change aI _ _ _ _ _ ⟨_,hset H5 (48,a48) (mO (cs0++PV.rf (71,q) ak::List.replicate (n-x-1) (PV.t (.sl false []))) n)⟩;generalize hset H5 (48,a48) (mO (cs0++PV.rf (71,q) ak::List.replicate (n-x-1) (PV.t (.sl false []))) n)=H6 at *;clear g71 g48 gO f71 f48 fS hsm hlm;have D54:=DS _ _ (by simp) j4;have DO:=DS _ _ (by simp) kO;have ahL:=DS _ _ (by rcases r0 with e|e<;>simp[Prod.ext_iff,e]) k1;have aa2:=DS _ _ (by rcases s0 with e|e<;>simp[Prod.ext_iff,e]) (jK _ _ (by rcases s0 with e|e<;>rw[e]<;>decide) (by rcases s0 with e|e<;>rw[e]<;>decide) (by rcases s0 with e|e<;>rw[e]<;>decide) s1);have Drc:rE H6 c r:=by
   rcases hrc with e|⟨id,e1,e2,e3⟩
   ·exact .inl e
   ·exact .inr ⟨id,e1,e2,DS id _ (by simp[Prod.ext_iff,e2]) (jK id _ (by rw[e2];decide) (by rw[e2];decide) (by rw[e2];decide) e3)⟩
  have aa3:∀(q':Nat) o,hget s'.hp (71,q')=some o->q'≠q/\hget H6 (71,q')=some o:=fun q' o ho=>⟨fq q' o ho,DS _ _ (by simp) ho⟩
  have DK:Q5 H3 H6:=fun id o h1 h2 h3 ho=>DS id o (fun e=>h1 (by rw[e])) (jK id o h1 h2 h3 ho)
  clear DS fq kO k1 j4 hrc;refine aC (List.range (ak)) (fun k s'=>∃cr:List Tr,hget s'.hp (71,q)=some (qO cr ak)/\cr.length=ak/\(∀w∈cr,dh true 6 w)/\cr.take k=((q9 ak r).take k).map aH/\Same H6 s'.hp [(71,q)]) rfl (by rw[List.length_range];rfl) (by rw[List.length_range];first|assumption|omega) (by kernel_rfl) (fun _ _ _ _ hj=>hj) (fun _ _ _ hj=>hj) ?_ (fun j y u hy hyd hj hJ hjx hfr H hH=>?_) (fun u hJ hfr=>?_)
  ·exact ⟨y0,D71,hy1,hy2,rfl,Same.refl _ _⟩
  ·have e5:=hfr 5 (by kernel_rfl)
   have e7:=hfr 7 (by kernel_rfl);have e8:=hfr 8 (by kernel_rfl);have e77:=hfr 77 (by kernel_rfl);clear hfr;simp only[go_sem,c5]at e5 e7 e8 e77;obtain ⟨cr,i1,i2,i3,i4,iS⟩:=hJ;rw[List.length_range]at hj;have hyj:y=j:=by rw[List.getElem?_range hj]at hy;injection hy with hy;exact hy.symm
   subst hyj;clear hy hyd D71 hy1 hy2;have irc:=Drc.same iS (fun id hid=>by rw[List.mem_singleton]at hid;rw[hid];exact (by decide:(71:Nat)≠105));have i48:=iS _ _ (by simp) D48;have hlr:=irc.len;obtain ⟨w,hw,_⟩:=aF cr y (by omega);have he6:∀w∈cr,w.cells.length=6:=fun w hw=>(i3 w hw).2.2
   have hfl:(flat cr).length=ak*6:=by rw[bJ _ 6 he6,i2]
   have hy6:y*6+6<=ak*6:=by omega
   have hfin:∀(qq:Rat) (s'':St),((r.getD y 0:Int):Rat)=qq->s''.hp=hset u.hp (71,q) (qO (cr.set y (aH qq)) ak)->H s'':=fun qq s'' hqq hh=>by
    refine hH _ ⟨cr.set y (aH qq),by rw[hh];exact aM i1 _,by rw[List.length_set];exact i2,fun w hw=>?_,?_,by rw[hh];exact (iS.trans (Same.set u.hp (71,q) _)).mono (by simp)⟩
    ·rcases List.mem_or_eq_of_mem_set hw with hw|rfl
     ·exact i3 w hw
     ·exact qR [qq] _ (by simp)
    ·rw[aP _ _ _ (by omega),i4,List.take_add_one,List.map_append]
     congr 1;have:(q9 ak r)[y]?=some qq:=by
      rw[<- hqq];simp[q9,hj]
     rw[this];rfl
   clear hH;unfold mO at i48;unfold qO at i1 hfin
   by_cases hjr:y < r.length
   ·rcases irc with ⟨_,er⟩|⟨id,rfl,ei,eg⟩
    ·rw[er]at hjr;simp at hjr
    ·obtain ⟨v,hv,_⟩:=aF r y hjr
     have hvb:jM v:=by
      have:v.natAbs<=67108864:=by
       rcases List.mem_append.1 (List.mem_of_getElem? hr) with hm|hm
       ·exact (lG.wide r hm).2 v (List.mem_of_getElem? hv)
       ·rw[List.mem_singleton.1 hm]at hjr;simp at hjr
      exact ⟨by omega,by omega⟩
     have wv:=nH v hvb;have hdc:decide ((y:Int) < (r.length:Int))=true:=decide_eq_true (by omega);have hF:=fun s''=>hfin ((v:Int):Rat) s'' (by rw[List.getD_eq_getElem?_getD,hv];rfl)
     have vB:splice ((flat cr).map PV.t) (y*6) ((dA ((v:Int):Rat)).map .t)=(flat (cr.set y (aH ((v:Int):Rat)))).map .t:=fD (y:=aH ((v:Int):Rat)) he6 hw (aQ _);have hsz:(dA ((v:Int):Rat)).length=6:=aQ _;have hdp:List.drop 6 (List.map PV.t (dA ((v:Int):Rat)))=[]:=List.drop_of_length_le (by rw[List.length_map,aQ];exact Nat.le_refl _);unfold intsO at eg;clear hfin iS Drc lG;generalize ((v:Int):Rat)=qq at *
     repeat' (first|refine sX ?_ ?_<;>intro h|refine aj (wv) rfl ?_|simp only[go_sem, *,Bool.or_true,DI,DJ,Bool.true_or,beq_self_eq_true,pJ,xM,sW,bL,dF,dP,aV])
     exact hF _ rfl
   ·have wv:=nH 0 ⟨by decide,by decide⟩
    have hdc:decide ((y:Int) < (r.length:Int))=false:=decide_eq_false (by omega);have hF:=fun s''=>hfin ((0:Int):Rat) s'' (by rw[List.getD_eq_getElem?_getD,List.getElem?_eq_none (by omega)];rfl)
    have vB:splice ((flat cr).map PV.t) (y*6) ((dA ((0:Int):Rat)).map .t)=(flat (cr.set y (aH ((0:Int):Rat)))).map .t:=fD (y:=aH ((0:Int):Rat)) he6 hw (aQ _);have hsz:(dA ((0:Int):Rat)).length=6:=aQ _;have hdp:List.drop 6 (List.map PV.t (dA ((0:Int):Rat)))=[]:=List.drop_of_length_le (by rw[List.length_map,aQ];exact Nat.le_refl _);clear hfin iS Drc lG;generalize ((0:Int):Rat)=qq at *
    repeat' (first|refine sX ?_ ?_<;>intro h|refine aj (wv) rfl ?_|simp only[go_sem, *,Bool.or_true,DI,DJ,Bool.true_or,beq_self_eq_true,pJ,xM,sW,bL,dF,dP,aV])
    exact hF _ rfl
  ·have e0:=hfr 0 (by kernel_rfl)
   have e6:=hfr 6 (by kernel_rfl);have e7:=hfr 7 (by kernel_rfl);clear hfr;simp only[go_sem,c0,c6]at e0 e6 e7;obtain ⟨cr,i1,i2,i3,i4,iS⟩:=hJ;rw[List.length_range,List.take_of_length_le (by omega),List.take_of_length_le (by rw[yT];exact Nat.le_refl _)]at i4;subst i4;have i48:=iS _ _ (by simp) D48;have i54:=iS _ _ (by simp) D54;have iO:=iS _ _ (by simp) DO;have afv:=iS _ _ (by rcases s0 with e|e<;>simp[Prod.ext_iff,e]) aa2;have aa4:∀(q':Nat) o,hget s'.hp (71,q')=some o->hget u.hp (71,q')=some o:=fun q' o ho=>by
    obtain ⟨h1,h2⟩:=aa3 q' o ho;exact iS _ _ (by simp[h1]) h2
   have iK:Q5 H3 u.hp:=fun id o h1 h2 h3 ho=>iS id o (fun e=>h3 (by rw[List.mem_singleton]at e;rw[e])) (DK id o h1 h2 h3 ho)
   clear aa3 DK D48 D54 DO aa2 ahL Drc iS D71;obtain ⟨v,hv,_⟩:=aF (b++[0]) x (by omega);have hvb:jM v:=by
    have:v.natAbs<=1:=by
     rcases List.mem_append.1 (List.mem_of_getElem? hv) with hm|hm
     ·exact lG.rhs v hm
     ·rw[List.mem_singleton.1 hm];decide
    exact ⟨by omega,by omega⟩
   have wv:=nH v hvb;obtain ⟨w,hw,_⟩:=aF cur x (by omega);have he6:∀w∈cur,w.cells.length=6:=fun w hw=>(j6 w hw).2.2
   have hfl:(flat cur).length=n*6:=by rw[bJ _ 6 he6,j5]
   have hy6:x*6+6<=n*6:=by omega
   have vB:splice ((flat cur).map PV.t) (x*6) ((dA ((v:Int):Rat)).map .t)=(flat (cur.set x (aH ((v:Int):Rat)))).map .t:=fD (y:=aH ((v:Int):Rat)) he6 hw (aQ _);have hsz:(dA ((v:Int):Rat)).length=6:=aQ _;have hdp:List.drop 6 (List.map PV.t (dA ((v:Int):Rat)))=[]:=List.drop_of_length_le (by rw[List.length_map,aQ];exact Nat.le_refl _);have hvx:(jd (b++[0]))[x]?=some ((v:Int):Rat):=by unfold jd;rw[List.getElem?_map,hv];rfl
   have hfin:∀s'':St,s''.hp=hset u.hp (54,a54) (qO (cur.set x (aH ((v:Int):Rat))) n)->G s'':=fun s'' hh=>by
    refine hG _ ⟨cs0++[.rf (71,q) ak],cur.set x (aH ((v:Int):Rat)),?_,by rw[List.length_append,j2];rfl,fun i p r' hp hr'=>?_,by rw[hh];exact aM i54 _,by rw[List.length_set];exact j5,fun w hw=>?_,?_,fun id o h1 h2 h3 ho=>?_⟩
    ·rw[hh,show n-(x+1)=n-x-1 by omega,List.append_assoc]
     exact aD i48 (id:=(54,a54)) (.inl (by simp)) _
    ·rcases Nat.lt_or_ge i x with hi|hi
     ·rw[List.getElem?_append_left (by omega)]at hp
      obtain ⟨q',e1,e2⟩:=j3 i p r' hp hr';exact ⟨q',e1,by rw[hh];exact aD (aa4 q' _ e2) (id:=(54,a54)) (.inl (by simp)) _⟩
     ·rw[List.getElem?_append_right (by omega),j2]at hp
      have:i=x:=by
       rcases Nat.lt_or_ge (i-x) 1 with h1|h1
       ·omega
       ·rw[List.getElem?_eq_none (by simpa using h1)]at hp;cases hp
      subst this;rw[Nat.sub_self,List.getElem?_cons_zero,Option.some.injEq]at hp;rw[hr,Option.some.injEq]at hr';subst hr';exact ⟨q,hp.symm,by rw[hh];exact aD i1 (id:=(54,a54)) (.inl (by simp)) _⟩
    ·rcases List.mem_or_eq_of_mem_set hw with hw|rfl
     ·exact j6 w hw
     ·exact qR [((v:Int):Rat)] _ (by simp)
    ·rw[aP _ _ _ (by omega),j7,List.take_add_one,List.map_append,hvx];rfl
    ·rw[hh];exact aD (iK id o h1 h2 h3 ho) (id:=(54,a54)) (.inl (by simpa[Prod.ext_iff] using fun e=>absurd e h2)) _
   clear hG j3 j6 j7 lG i48 aa4 iK i1;unfold qO at i54 hfin;unfold intsO at afv;generalize ((v:Int):Rat)=qq at *
   repeat' (first|refine sX ?_ ?_<;>intro h|refine aj (wv) rfl ?_|simp only[go_sem, *,Bool.or_true,DI,DJ,Bool.true_or,beq_self_eq_true,pJ,xM,sW,bL,dF,dP,aV])
   exact hfin _ rfl
 ·have c0:=hfr 0 (by kernel_rfl)
  have c5:=hfr 5 (by kernel_rfl);have c6:=hfr 6 (by kernel_rfl);clear hfr;simp only[go_sem]at c0 c5 c6;clear M0 Q0 K0;obtain ⟨cs0,cur,j1,j2,j3,j4,j5,j6,j7,jK⟩:=hJ;rw[List.length_range,Nat.sub_self,List.replicate_zero,List.append_nil]at j1;rw[List.length_range]at j2;rw[List.length_range,List.take_of_length_le (by omega),List.take_of_length_le (by simp[jd];omega)]at j7;subst j7;have kO:=jK _ _ (by simp) (by simp) (by simp) hO;have t1:aS s'.hp dep (.rf (48,a48) n)=some (wX true (eD ak (R++[[]]))):=acI j1 j2 hRl j3 4;have t2:aS s'.hp dep (.rf (54,a54) n)=some (.sl true ((jd (b++[0])).map aH)):=iX 5 j6 j5 j4;have kX:JI s'.hp z f ak rid lS n C (R++[[]]) (b++[0]):=by
   refine (⟨hO,r1,r3,s1,r2,hRl,aa1⟩:JI H3 z f ak rid lS n C (R++[[]]) (b++[0])).keep r0 s0 fun id o hid ho=>jK id o ?_ ?_ ?_ ho<;>omega
  have kf:JI (frz s'.hp (([.rf (48,a48) n,.rf (54,a54) n]:List PV).flatMap (reach s'.hp dep))) z f ak rid lS n C (R++[[]]) (b++[0]):=by
   refine kX.keep r0 s0 fun id o hid ho=>lW ho ?_
   rw[Bool.eq_false_iff];intro hc;rw[List.contains_iff_mem]at hc;simp only[List.flatMap_cons,List.flatMap_nil,List.append_nil,List.mem_append]at hc;rcases hc with hc|hc
   ·have:=VZ j1 j2 hRl j3 4 _ hc
    omega
   ·have:=V3 j4 5 _ hc
    omega
  clear j1 j2 j3 j4 j5 j6 r3;generalize wX true (eD ak (R++[[]]))=MT at *;generalize (jd (b++[0])).map aH=RT at *;cases ans with
  |inr u =>
   unfold mg at hd;simp only at hd
   repeat' (first|refine sX ?_ ?_<;>intro h|simp only[go_sem, *])
   refine mX hd (by simp only[bA,t1,t2]) rfl ?_;clear t1 t2 hd;generalize frz s'.hp (([.rf (48,a48) n,.rf (54,a54) n]:List PV).flatMap (reach s'.hp dep))=H7 at *
   repeat' (first|refine sX ?_ ?_<;>intro h|simp only[go_sem, *])
   rfl
  |inl y =>
   unfold mg at hd;simp only at hd
   repeat' (first|refine sX ?_ ?_<;>intro h|simp only[go_sem, *])
   refine mX hd (by simp only[bA,t1,t2]) rfl ?_;clear t1 t2 hd;generalize frz s'.hp (([.rf (48,a48) n,.rf (54,a54) n]:List PV).flatMap (reach s'.hp dep))=H7 at *
   repeat' (first|refine sX ?_ ?_<;>intro h|simp only[go_sem, *])
   have ad1:=hyl y rfl;have Xq:=hyq y rfl;have aa5:=hvo y rfl;clear hyl hyq hvo c5 c6 lG hO r1 s1;obtain ⟨T,hT⟩:∃T,L*(V+1)=T:=⟨_,rfl⟩
   refine jD (fun k u=>∃m,m+k=T/\u.sl 15=.t (i64 (2*m:Nat))/\Own u.hp 142 dW 6 true (u.sl 14) (!((bZ V L (atL y)).take m).isEmpty) (((bZ V L (atL y)).take m).map aH)/\∀site,(site==142)=false->u.hp site=H7 site) T ⟨0,by omega,rfl,Own.nil,fun _ _=>rfl⟩ ?_
   rintro k u ⟨m,hmk,d15,hown,hsame⟩ hfr2 G hG
   have d0:=hfr2 0 (by kernel_rfl);have d11:=hfr2 11 (by kernel_rfl);clear hfr2;simp only[go_sem,c0]at d0 d11;have uX:=kf.keep (h':=u.hp) r0 s0 fun id o hid ho=>by
    rw[aX (hsame id.1 (by rcases hid with e|e|e|e|e|e<;>rw[e]<;>rfl))];exact ho
   obtain ⟨rt,ht,htr⟩:=uX.tree;have at0:=aaZ (f:=f) (ak:=ak) (rt:=rt) (ht:=ht) hV hV8 yV;rw[hT]at at0;have uO:=uX.o;unfold eY at uO;rcases Nat.lt_or_ge m T with hmT|hmT
   ·have hc1:decide (((2*m:Nat):Int) < ((2*T:Nat):Int))=true:=decide_eq_true (by omega)
    have hw1:IntKind.i64.wrap (((2*m:Nat):Int)+1)=((2*m+1:Nat):Int):=by rw[wrap_i64 (by omega) (by omega)];omega
    have hw2:IntKind.i64.wrap (((2*m:Nat):Int)+2)=((2*(m+1):Nat):Int):=by rw[wrap_i64 (by omega) (by omega)];omega
    have hm0:atL y (2*m)∈y:=jy (by omega);have hm1:atL y (2*m+1)∈y:=jy (by omega);have ws:=wK _ _ (Xq _ hm0) (Xq _ hm1);have hy0:(y.map aH)[2*m]?=some (aH (atL y (2*m))):=by
     obtain ⟨a,ha,_⟩:=aF y (2*m) (by omega);unfold atL;rw[List.getElem?_map,List.getD_eq_getElem?_getD,ha];rfl
    have hy1:(y.map aH)[2*m+1]?=some (aH (atL y (2*m+1))):=by
     obtain ⟨a,ha,_⟩:=aF y (2*m+1) (by omega);unfold atL;rw[List.getElem?_map,List.getD_eq_getElem?_getD,ha];rfl
    have hvm:=Q6 (V:=V) (L:=L) (m:=m) (atL y) (by omega);have hfl:(flat (y.map aH)).length=ak*6:=by rw[qU,ad1]
    have hml:(y.map aH).length=ak:=by rw[List.length_map,ad1]
    have alY:2*m < ak:=by omega
    have hlt1:2*m+1 < ak:=by omega
    have hfin:∀(v':PV) (h':Hp) (s'':St),Own h' 142 dW 6 true v' (!((bZ V L (atL y)).take m).isEmpty||!([aH (atL y (2*m)-atL y (2*m+1))]:List Tr).isEmpty) (((bZ V L (atL y)).take m).map aH++[aH (atL y (2*m)-atL y (2*m+1))])->(∀site,(site==142)=false->h' site=u.hp site)->s''.hp=h'->s''.sl 14=v'->s''.sl 15=.t (i64 (2*(m+1):Nat))->G s'':=fun v' h' s'' ho hf e1 e2 e3=>by
     refine hG (k-1) s'' (by omega) ⟨m+1,by omega,e3,?_,fun site hs=>?_⟩
     ·rw[e1,e2,List.take_add_one,hvm]
      exact ho.snoc
     ·rw[e1,hf site hs];exact hsame site hs
    clear hG hm0 hm1 Xq aa5 hvm;generalize atL y (2*m)=ya at *;generalize atL y (2*m+1)=yb at *;generalize ya-yb=yd at *;generalize 2*(L*(V+1))=LV2 at *
    repeat' (first|refine sX ?_ ?_<;>intro h|refine Fj (at0) (by simp only[go_sem, *]) rfl ?_|refine aj (ws) rfl ?_|simp only[go_sem, *,Bool.or_true,DI,DJ,Bool.true_or,beq_self_eq_true,pJ,xM,sW,bL,dF,dP,aV])
    refine cB (hown) rfl (by kernel_rfl) (by kernel_rfl) (by kernel_rfl) (by kernel_rfl) rfl (by kernel_rfl) (qR [yd]) (by rw[List.length_map,List.length_take,uN,List.length_singleton];omega) (fun v' h' ho hf=>?_)
    repeat' (first|refine sX ?_ ?_<;>intro h|simp only[go_sem, *])
    exact hfin _ _ _ ho hf rfl rfl rfl
   ·have hmm:m=T:=by omega
    subst hmm;have hc1:decide (((2*m:Nat):Int) < ((2*m:Nat):Int))=false:=decide_eq_false (by omega);have hvl:(bZ V L (atL y)).length=m:=by rw[uN,hT]
    rw[List.take_of_length_le (by omega)]at hown;have wI:=Gh (!(bZ V L (atL y)).isEmpty) EF aa5 (by omega);have dN:=hown.dep;have ad2:=ED (k:=5) hown (id:=(15,z)) rfl;have fO:=lW uX.o ad2;have hof:EJ V L (.inl y)=if (iy (bZ V L (atL y))).all BL=true then .fs (kV V L (iy (bZ V L (atL y)))) else .lim:=by
     unfold EJ nR;simp only;split<;>rename_i h<;>split at h<;>simp_all
    have hzl:(iy (bZ V L (atL y))).length=m:=by rw[<- hvl];simp[iy]
    rw[hof];clear hG uX Xq aa5 kf hown hsame hof hvl;have hne:(!(bZ V L (atL y)).isEmpty)=true:=by
     have:(bZ V L (atL y)).length=m:=by rw[uN,hT]
     cases e:bZ V L (atL y) with
     |nil=>rw[e]at this;simp at this;omega
     |cons a l=>rfl
    rw[hne]at wI dN;generalize iy (bZ V L (atL y))=zs at *;generalize (bZ V L (atL y)).map aH=vt at *;generalize 2*(L*(V+1))=LV2 at *
    repeat' (first|refine sX ?_ ?_<;>intro h|refine Fj (at0) (by simp only[go_sem, *]) rfl ?_|simp only[go_sem, *,Bool.or_true,DI,DJ,Bool.true_or,beq_self_eq_true,pJ,xM,sW,bL,dF,dP,aV])
    refine mX wI (by simp only[bA,dN]) rfl ?_;clear dN wI ad2 at0 htr d11 d15;change hget (frz u.hp (([u.sl 14]:List PV).flatMap (reach u.hp dep))) (15,z)=_ at fO;generalize frz u.hp (([u.sl 14]:List PV).flatMap (reach u.hp dep))=H8 at *;have ad5:=fun o=>aA fO (s:=17) o
    unfold eY at ad5 fO
    repeat' (first|refine sX ?_ ?_<;>intro h|simp only[go_sem, *])
    refine aC (List.range (L)) (fun k s'=>Own s'.hp 210 dX 2 true (s'.sl 18) (!((kV V L zs).take k).isEmpty) (((kV V L zs).take k).map Row.tr)/\(zs.take (k*(V+1))).all BL=true/\hget s'.hp (15,z)=some (eY f ak (.rf rid n) (.rf lS n))) rfl (by rw[List.length_range];rfl) (by rw[List.length_range];first|assumption|omega) (by kernel_rfl) (fun _ _ _ _ hj=>hj) (fun _ _ _ hj=>hj) ?_ (fun k x s' hx hd hk hJ hix hfr G hG=>?_) (fun s' hJ hfr=>?_)
    ·exact ⟨Own.nil,by simp,ad5 _⟩
    ·have c0:=hfr 0 (by kernel_rfl)
     have c16:=hfr 16 (by kernel_rfl);have c152:=hfr 152 (by kernel_rfl);clear hfr;simp only[go_sem]at c0 c16 c152;obtain ⟨hown,hall,jO⟩:=hJ;rw[List.length_range]at hk;have hxk:x=k:=by rw[List.getElem?_range hk]at hx;injection hx with hx;exact hx.symm
     subst hxk;clear hd hx;have hroom:x*(V+1)+(V+1)<=L*(V+1):=by rw[<- Nat.succ_mul];exact Nat.mul_le_mul_right _ hk
     obtain ⟨W,hW⟩:∃W,V+1=W:=⟨_,rfl⟩
     have w1:IntKind.i64.wrap (((V:Nat):Int)+1)=((W:Nat):Int):=by rw[wrap_i64 (by omega) (by omega)];omega
     have w2:IntKind.i64.wrap ((x:Int)+1)=((x+1:Nat):Int):=by rw[wrap_i64 (by omega) (by omega)];omega
     rw[hW]at hroom hT hall hLV;obtain ⟨xW,hxW⟩:∃q,x*W=q:=⟨_,rfl⟩
     have ad6:(x+1)*W=xW+W:=by rw[Nat.succ_mul,hxW]
     rw[hxW]at hroom hall;have w3:IntKind.i64.wrap ((x:Int)*((W:Nat):Int))=((xW:Nat):Int):=by rw[<- Int.natCast_mul,hxW,wrap_i64 (by omega) (by omega)]
     have w4:IntKind.i64.wrap (((x+1:Nat):Int)*((W:Nat):Int))=((xW+W:Nat):Int):=by rw[<- Int.natCast_mul,ad6,wrap_i64 (by omega) (by omega)]
     unfold eY at jO
     repeat' (first|refine sX ?_ ?_<;>intro h|simp only[go_sem, *,Bool.or_true,DI,DJ,Bool.true_or,beq_self_eq_true,pJ,xM,sW,bL,dF,dP,aV])
     with_reducible refine dS ?_ ?_
     ·refine ⟨?_,by omega,by omega⟩
      rw[bJ _ 2 (fun w hw=>by obtain ⟨q,_,rfl⟩:=List.mem_map.1 hw;rfl),List.length_map,hzl]
     rw[<- List.map_take,<- List.map_drop];obtain ⟨seg,hseg⟩:∃seg,(zs.take (xW+W)).drop xW=seg:=⟨_,rfl⟩
     have hsl:seg.length=W:=by rw[<- hseg,List.length_drop,List.length_take];omega
     rw[hseg];obtain ⟨HS,hHS⟩:∃H,s'.hp=H:=⟨_,rfl⟩
     rw[hHS]at hown jO
     repeat' (first|refine sX ?_ ?_<;>intro h|simp only[go_sem, *,Bool.or_true,DI,DJ,Bool.true_or,beq_self_eq_true,pJ,xM,sW,bL,dF,dP,aV])
     refine aC (List.range (W)) (fun k s'=>Own s'.hp 190 fU 1 false (s'.sl 20) (!(seg.take k).isEmpty) (ints (seg.take k))/\(seg.take k).all BL=true/\∀site,(site==190)=false->(site==22)=false->s'.hp site=HS site) rfl (by rw[List.length_range];rfl) (by rw[List.length_range];first|assumption|omega) (by kernel_rfl) (fun _ _ _ _ hj=>hj) (fun _ _ _ hj=>hj) ?_ (fun j y u hy hyd hj hJ hjx hfr H hH=>?_) (fun u hJ hfr=>?_)
     ·exact ⟨Own.nil,rfl,fun _ _ _=>by rw[<- hHS]⟩
     ·have e0:=hfr 0 (by kernel_rfl)
      have ahM:=hfr 174 (by kernel_rfl);have ahN:=hfr 175 (by kernel_rfl);clear hfr;simp only[go_sem,c0]at e0 ahM ahN;obtain ⟨O8,Xr,Q7⟩:=hJ;rw[List.length_range]at hj;have hyj:y=j:=by rw[List.getElem?_range hj]at hy;injection hy with hy;exact hy.symm
      subst hyj;clear hy hyd;obtain ⟨v,hv,_⟩:=aF seg y (by omega);have hv2:(seg.map (encI true))[y]?=some (encI true v):=by rw[List.getElem?_map,hv];rfl
      have alZ:(flat (seg.map (encI true))).length=W*2:=by rw[bJ _ 2 (fun w hw=>by obtain ⟨q,_,rfl⟩:=List.mem_map.1 hw;rfl),List.length_map,hsl]
      have al0:(seg.map (encI true)).length=W:=by rw[List.length_map,hsl]
      have ws:aB Tryz.prog 144 [encI true v,i64 1048576] (.tup [i64 (if v.natAbs<=1048576 then v else 0),.bool (decide (v.natAbs<=1048576))]):=uT true v 1048576 (by decide);have hic:(mE true v).length=2:=rfl
      by_cases hvc:v.natAbs<=1048576
      ·rw[if_pos hvc,decide_eq_true hvc]at ws
       have hfin:∀(v':PV) (h' h1:Hp) (s'':St),Own h' 190 fU 1 false v' (!(seg.take y).isEmpty||!([i64 v]:List Tr).isEmpty) (ints (seg.take y)++[i64 v])->(∀site,(site==190)=false->h' site=h1 site)->(∀site,(site==22)=false->h1 site=u.hp site)->s''.hp=h'->s''.sl 20=v'->H s'':=fun v' h' h1 s'' ho hf hf1 e1 e2=>by
        refine hH s'' ⟨?_,?_,fun site a1 a2=>?_⟩
        ·rw[e1,e2,List.take_add_one,hv]
         exact ho.snoc
        ·rw[List.take_add_one,hv,List.all_append,Xr]
         simp[BL,hvc]
        ·rw[e1,hf site a1,hf1 site a2];exact Q7 site a1 a2
       clear hH
       repeat' (first|refine sX ?_ ?_<;>intro h|refine aj (ws) rfl ?_|simp only[go_sem, *,Bool.or_true,DI,DJ,Bool.true_or,beq_self_eq_true,pJ,xM,sW,bL,dF,dP,aV])
       refine cB (O8.frame (by simp only[go_sem])) rfl (by kernel_rfl) (by kernel_rfl) (by kernel_rfl) (by kernel_rfl) rfl (by kernel_rfl) (ok_int _ _) (by rw[List.length_map,List.length_take,List.length_singleton];omega) (fun v' h' ho hf=>?_)
       repeat' (first|refine sX ?_ ?_<;>intro h|simp only[go_sem, *])
       exact hfin _ _ _ _ ho hf (fun site hs=>jB _ hs) rfl rfl
      ·rw[if_neg hvc,decide_eq_false hvc]at ws
       have hno:zs.all BL=false:=by
        rw[Bool.eq_false_iff];intro ha;have hm:v∈zs:=by
         have:=List.mem_of_getElem? hv;rw[<- hseg]at this;exact List.mem_of_mem_take (List.mem_of_mem_drop this)
        have:=List.all_eq_true.1 ha v hm;simp only[BL,decide_eq_true_eq]at this;exact hvc this
       rw[hno]
       repeat' (first|refine sX ?_ ?_<;>intro h|refine aj (ws) rfl ?_|simp only[go_sem, *,Bool.or_true,DI,DJ,Bool.true_or,beq_self_eq_true,pJ,xM,sW,bL,dF,dP,aV])
       rfl
     ·have e0:=hfr 0 (by kernel_rfl)
      have e18:=hfr 18 (by kernel_rfl);clear hfr;simp only[go_sem,c0]at e0 e18;obtain ⟨O8,Xr,Q7⟩:=hJ;rw[List.length_range,List.take_of_length_le (by omega)]at O8 Xr;have hsg:seg=(zs.drop xW).take W:=by rw[<- hseg,List.drop_take,Nat.add_sub_cancel_left]
      obtain ⟨vV,hvV,_⟩:=aF seg V (by omega);have dN:=O8.dep;have hne:seg.isEmpty=false:=by
       cases e:seg with
       |nil=>rw[e]at hvV;simp at hvV
       |cons a l=>rfl
      rw[hne]at dN O8;rcases O8.is with ⟨h0,_⟩|⟨_,id,hid,ad7,uE⟩
      ·simp at h0
      rw[List.length_map,hsl]at ad7 uE;rw[ad7]at dN;have ad8:reach u.hp dep (.rf id W)=[id]:=pE 5 uE;have fid:hget (frz u.hp [id]) id=some ⟨(flat (ints seg)).map .t,1,W,fU,false,false⟩:=by
       rw[mJ,uE];simp
      have uO:hget u.hp (15,z)=some ⟨f.cs.map .t++[.t (i64 (ak:Nat)),.rf rid n,.rf lS n],7,1,Mx,true,true⟩:=by
       rw[aX (Q7 15 rfl rfl)];exact jO
      have fO2:=lW uO (ids:=[id]) (by
       rw[Bool.eq_false_iff];intro hc;rw[List.contains_iff_mem,List.mem_singleton]at hc;rw[<- hc]at hid;simp at hid)
      have ahO:Own (frz u.hp [id]) 210 dX 2 true (s'.sl 18) (!((kV V L zs).take x).isEmpty) (((kV V L zs).take x).map Row.tr):=hown.frame (by
       have e:frz u.hp [id]=hset u.hp id ⟨(flat (ints seg)).map .t,1,W,fU,false,false⟩:=by
        show Rh u.hp id=_
        unfold Rh;rw[uE]
       rw[e,fA _ (by rw[hid];rfl),Q7 210 rfl rfl])
      have hfx:(kV V L zs)[x]?=some ⟨true,seg.take V,vV⟩:=by
       unfold kV;rw[List.getElem?_map,List.getElem?_range hk];simp only[Option.map_some,Option.some.injEq,Row.mk.injEq,true_and];rw[hW,hxW];refine ⟨by rw[hsg,List.take_take,Nat.min_eq_left (by omega)],?_⟩;have:zs[xW+V]?=some vV:=by
        rw[hsg,List.getElem?_take,if_pos (by omega),List.getElem?_drop]at hvV;exact hvV
       rw[List.getD_eq_getElem?_getD,this];rfl
      have al1:kK Tryz.prog 35 (.rf id W) none (some (.t (.int .i64 (V:Nat)))) u.hp=some (.t (.sl true (ints (seg.take V))),frz u.hp [id]):=by
       have k1:bg Tryz.prog 35=some 2:=by kernel_rfl
       have k2:Tryz.prog.cellsOf 2=1:=by kernel_rfl
       unfold kK;simp only[k1,uE,dN,k2,ad8,and_self,if_true];simp[intOf,ints];omega
      have haw:awX muS (.rf id W)=true:=by
       obtain ⟨i1,i2⟩:=id;simp only at hid;subst hid;unfold awX DR;simp only[PV.site];rfl
      have al3:∀o,awX muS (.ad id W o)=true:=fun o=>fV _ _ _ (by rw[hid];rfl)
      have hVW:V < W:=by omega
      have al4:V+1<=W:=by omega
      have hzz:zs.take (xW+W)=zs.take xW++seg:=by rw[hsg,List.take_add]
      clear hsg ad8 dN uE
      repeat' (first|refine sX ?_ ?_<;>intro h|simp only[go_sem, *,Bool.or_true,DI,DJ,Bool.true_or,beq_self_eq_true,pJ,xM,sW,bL,dF,dP,aV])
      refine cB (ahO) rfl (by kernel_rfl) (by kernel_rfl) (by kernel_rfl) (by kernel_rfl) rfl (by kernel_rfl) (PU _ 2 rfl) (by rw[List.length_map,List.length_take,List.length_singleton];omega) (fun v' h' ho hf=>?_)
      repeat' (first|refine sX ?_ ?_<;>intro h|simp only[go_sem, *])
      refine hG _ ⟨?_,?_,?_⟩
      ·rw[List.take_add_one,hfx]
       exact ho.snoc
      ·rw[hW,ad6,hzz,List.all_append,hall,Xr];rfl
      ·exact (aX (hf 15 rfl)).trans fO2
    ·obtain ⟨hown,hall,jO⟩:=hJ
     have hfl:(kV V L zs).length=L:=by simp[kV]
     rw[List.length_range]at hown hall;rw[List.take_of_length_le (by omega)]at hown;rw[List.take_of_length_le (by rw[hzl,<- hT];exact Nat.le_refl _)]at hall;have ht:=hown.dep;have hne2:(kV V L zs).isEmpty=false:=by
      cases e:kV V L zs with
      |nil=>rw[e]at hfl;simp at hfl;omega
      |cons a l=>rfl
     rw[hne2]at ht hown;rcases hown.is with ⟨h0,_⟩|⟨_,id,hid,ad9,uE⟩
     ·simp at h0
     rw[List.length_map,hfl]at ad9;rw[ad9]at ht;rw[hall,if_pos rfl];clear hown uE
     repeat' (first|refine sX ?_ ?_<;>intro h|simp only[go_sem, *])
     exact ⟨_,_,rfl,ht⟩
theorem JJ {l:List Int} (h:∀c∈l,aU c=true) (i:Nat):(l.getD i 0).natAbs<=1048576:=by
 rw[List.getD_eq_getElem?_getD];cases e:l[i]? with
 |none=>exact Nat.zero_le _
 |some x=>have:=aZ (h x (List.mem_of_getElem? e));simp only[Option.getD_some];omega
theorem O9 {V L C to last i:Nat} (hto:to < L) (hC:2*(L*(V+1))<=C):∀(us:List Upd) (v k B:Nat) (kv:List (Int × Int)),KvB kv C B->v+us.length<=V->(∀u∈us,(u.any=false->u.expr.av.length=V)/\aU u.expr.const=true/\∀c∈u.expr.av,aU c=true) ->
  ∃kv',KvB kv' C (B+us.length*2097152)/\∀y,eT y kv'=eT y kv+iA V to last y i us v k
 |[],v,k,B,kv,hk,_,_=>⟨kv,by simpa using hk,fun y=>by simp only[iA];grind⟩
 |u::us,v,k,B,kv,hk,hv,hu=>by
  rw[List.length_cons]at hv;obtain ⟨_,hu2,hu3⟩:=hu u (by simp);have hc:=aZ hu2;obtain ⟨x,hx,MZ⟩:∃x:Int,x.natAbs<=1048576/\∀y,(if u.any=true then (if i=V+k then-Fq V y to v else 0) else if i < V then -(((u.expr.av.getD i 0:Int):Rat)*Fq V y to v) else if i=last then -(((u.expr.const:Int):Rat)*Fq V y to v) else 0)=(x:Rat)*Fq V y to v:=by
   by_cases h1:u.any=true
   ·by_cases h2:i=V+k
    ·exact ⟨-1,by decide,fun y=>by rw[if_pos h1,if_pos h2,show ((-1:Int):Rat)=-1 from rfl];grind⟩
    ·exact ⟨0,by decide,fun y=>by rw[if_pos h1,if_neg h2,rc0];grind⟩
   ·by_cases h2:i < V
    ·refine ⟨-(u.expr.av.getD i 0),by rw[Int.natAbs_neg];exact JJ hu3 i,fun y=>by rw[if_neg h1,if_pos h2,Rat.intCast_neg];grind⟩
    ·by_cases h3:i=last
     ·exact ⟨-u.expr.const,by omega,fun y=>by rw[if_neg h1,if_neg h2,if_pos h3,Rat.intCast_neg];grind⟩
     ·exact ⟨0,by decide,fun y=>by rw[if_neg h1,if_neg h2,if_neg h3,rc0];grind⟩
  obtain ⟨kv',a1,a2⟩:=O9 (last:=last) (i:=i) hto hC us (v+1) (if u.any=true then k+1 else k) (B+2*1048576) (fE V to v x kv) (mQ hk hto (by omega) hC hx) (by omega) fun w hw=>hu w (by simp[hw])
  refine ⟨kv',a1.mono (Nat.le_refl _) (by rw[List.length_cons];omega),fun y=>?_⟩;rw[a2 y,jY,iA,MZ y];grind
theorem Uh {C last i:Nat}:∀(rows:List Row) (a B:Nat) (kv:List (Int × Int)),KvB kv C B->a+rows.length<=C->(∀r∈rows,aU r.const=true/\∀c∈r.av,aU c=true) ->
  ∃kv',KvB kv' C (B+rows.length*1048576)/\∀y,eT y kv'=eT y kv-uD y last i rows a
 |[],a,B,kv,hk,_,_=>⟨kv,by simpa using hk,fun y=>by simp only[uD];grind⟩
 |r::rows,a,B,kv,hk,ha,hr=>by
  rw[List.length_cons]at ha;obtain ⟨h1,h2⟩:=hr r (by simp);have hc:=aZ h1;have hge:(ge last r i).natAbs<=1048576:=by
   unfold ge;split
   ·exact JJ h2 i
   ·split
    ·omega
    ·decide
  obtain ⟨kv',a1,a2⟩:=Uh (last:=last) (i:=i) rows (a+1) (B+1048576) (kF ((a:Nat):Int) (-(ge last r i)) kv) (tL hk (by omega) (by omega) (by rw[Int.natAbs_neg];exact hge)) (by omega) fun w hw=>hr w (by simp[hw])
  refine ⟨kv',a1.mono (Nat.le_refl _) (by rw[List.length_cons];omega),fun y=>?_⟩;rw[a2 y,su,Int.toNat_natCast,Rat.intCast_neg,uD];grind
def EK (C:Nat) (kv:List (Int × Int)):List Int:=(List.range C).map fun j=>oP (List.replicate kv.length true) kv j
theorem M4 (C:Nat) (kv:List (Int × Int)):(EK C kv).length=C:=by simp[EK]
theorem M5 {C B:Nat}{kv:List (Int × Int)} (h:KvB kv C B) (y:Nat->Rat):wW y C (fun j=>(EK C kv).getD j 0)=eT y kv:=by
 rw[<- MG y (n:=C) (List.replicate kv.length true) kv (by simp) (by simp) h.1];exact aL fun j hj=>by simp[EK,List.getD_eq_getElem?_getD,hj]
theorem M6 {C B:Nat}{kv:List (Int × Int)} (h:KvB kv C B):∀x∈EK C kv,x.natAbs<=B:=fun x hx=>by
 obtain ⟨j,_,rfl⟩:=List.mem_map.1 hx;exact Nat.le_trans (yQ _ _ _) h.2
theorem V5 {first n last B:Nat}{guard:List Row}{E:(Nat->Rat)->Nat->Rat} (d:Int) (hE:∀i,i<=last->∃kv,KvB kv (first+n+1) B/\∀y,eT y kv=E y i) (hn:guard.length=n) (hg:∀r∈guard,aU r.const=true/\∀c∈r.av,aU c=true) :
  ∃R2 b2,sw first n last B guard E d R2 b2 (last+1):=by
 have h:∀i,∃r:List Int,i<=last->(r.length=first+n+1/\∀x∈r,x.natAbs<=B+n*1048576+1)/\∀y,wW y (first+n+1) (fun j=>r.getD j 0)=E y i-uD y last i guard first-if i=last then y (first+n) else 0:=fun i=>by
  by_cases hi:i<=last
  ·obtain ⟨kv,a1,a2⟩:=hE i hi
   obtain ⟨kv',b1,b2⟩:=Uh (last:=last) (i:=i) guard first B kv a1 (by omega) hg
   rw[hn]at b1
   by_cases he:i=last
   ·have c1:=tL (k:=((first+n:Nat):Int)) (x:=-1) (m:=1) b1 (by omega) (by omega) (by decide)
    refine ⟨EK (first+n+1) (kF ((first+n:Nat):Int) (-1) kv'),fun _=>⟨⟨M4 _ _,M6 c1⟩,fun y=>?_⟩⟩;rw[M5 c1,su,b2,a2,Int.toNat_natCast,if_pos he,show ((-1:Int):Rat)=-1 from rfl];grind
   ·refine ⟨EK (first+n+1) kv',fun _=>⟨⟨M4 _ _,fun x hx=>Nat.le_succ_of_le (M6 b1 x hx)⟩,fun y=>?_⟩⟩
    rw[M5 b1,b2,a2,if_neg he];grind
  ·exact ⟨[],fun h=>absurd h hi⟩
 obtain ⟨rf,hrf⟩:=Classical.axiomOfChoice h;refine ⟨(List.range (last+1)).map rf,(List.range (last+1)).map fun i=>if i=last then d else 0,by simp,by simp,fun r hr=>?_,fun i r hr y=>?_,fun i x hx=>?_⟩
 ·obtain ⟨i,hi,rfl⟩:=List.mem_map.1 hr
  rw[List.mem_range]at hi;exact (hrf i (by omega)).1
 ·have hi:=(List.getElem?_eq_some_iff.1 hr).1
  simp only[List.length_map,List.length_range]at hi;rw[List.getElem?_map,List.getElem?_range hi]at hr;simp only[Option.map_some,Option.some.injEq]at hr;subst hr;exact (hrf i (by omega)).2 y
 ·have hi:=(List.getElem?_eq_some_iff.1 hx).1
  simp only[List.length_map,List.length_range]at hi;rw[List.getElem?_map,List.getElem?_range hi]at hx;simp only[Option.map_some,Option.some.injEq]at hx;exact hx.symm
def Q8 (nF:Nat) (b:Blk):Prop:=∃(guard:List Row) (g:Row->Row),b.guard=guard.map g/\guard.length<=16/\b.last<=16/\b.d.natAbs<=1/\(∀r∈guard,∀i,i<=b.last->dQ (g r) i=ge b.last r i)/\(∀r∈guard,aU r.const=true/\∀c∈r.av,aU c=true) /\
 ∀C,nF<=C->∀i,i<=b.last->∃kv,KvB kv C 16777220/\∀y,eT y kv=b.E y i
theorem M7 {nF:Nat}:∀(bs2 bs1:List Blk) (ak:Nat) (R:List (List Int)) (b:List Int),ru nF ak R b bs1->(∀x∈bs2,Q8 nF x)->∃afw R' b',ru nF afw R' b' (bs1++bs2)
 |[],bs1,ak,R,b,h,_=>⟨ak,R,b,by rw[List.append_nil];exact h⟩
 |x::bs2,bs1,ak,R,b,h,hx=>by
  obtain ⟨guard,g,h1,h2,h3,h4,h5,h6,h7⟩:=hx x (by simp);have hc:=sj bs1 nF;rw[<- h.ce]at hc;obtain ⟨R2,b2,hE⟩:=V5 (first:=ak) (n:=guard.length) (last:=x.last) (B:=16777220) (guard:=guard) (E:=x.E) x.d (fun i hi=>h7 _ (by omega) i hi) rfl h6;have:=h.snoc hE rfl (blk:=x) rfl rfl g h1 rfl h5 h2 h3 (Nat.le_refl _) h4;obtain ⟨c',R',b',hh⟩:=M7 bs2 (bs1++[x]) _ _ _ this fun w hw=>hx w (by simp[hw])
  exact ⟨c',R',b',by rw[List.append_assoc]at hh;exact hh⟩
theorem aa6 {f:Flow}{L V:Nat} (hV:V<=8) {t i:Int} (g:uh L V (aK f i)):Q8 (2*(L*(V+1))) (qZ f V t i):=by
 have ha:aG (aK f i).next<=V:=by rw[<- g.next];exact List.length_filter_le _ _
 refine ⟨(aK f i).guard,wide (aG (aK f i).next),rfl,g.guard,?_,?_,fun r hr k hk=>Ub (g.rows r hr).1 hk,fun r hr=>(g.rows r hr).2,fun C hC k hk=>?_⟩
 ·show V+aG (aK f i).next<=16
  omega
 ·show (if i=t then 1 else 0:Int).natAbs<=1
  split<;>decide
 ·obtain ⟨kv0,k1,k2⟩:∃kv0,KvB kv0 C 4/\∀y,eT y kv0=ku V (aK f i).from_.toNat (aK f i).to_.toNat (V+aG (aK f i).next) y k:=by
   by_cases h1:k < V
   ·refine ⟨fE V (aK f i).from_.toNat k 1 [],(mQ (m:=1) (KvB.nil C) g.nC (by omega) hC (by decide)).mono (Nat.le_refl _) (by omega),fun y=>?_⟩
    rw[jY,ku,if_pos h1,show eT y []=0 from rfl,show ((1:Int):Rat)=1 from rfl];grind
   ·by_cases h2:k=V+aG (aK f i).next
    ·refine ⟨fE V (aK f i).to_.toNat V (-1) (fE V (aK f i).from_.toNat V 1 []),mQ (m:=1) (mQ (m:=1) (KvB.nil C) g.nC (Nat.le_refl _) hC (by decide)) g.to2 (Nat.le_refl _) hC (by decide),fun y=>?_⟩
     rw[jY,jY,ku,if_neg h1,if_pos h2,show eT y []=0 from rfl,show ((1:Int):Rat)=1 from rfl,show ((-1:Int):Rat)=-1 from rfl];grind
    ·exact ⟨[],(KvB.nil C).mono (Nat.le_refl _) (by omega),fun y=>by rw[ku,if_neg h1,if_neg h2];rfl⟩
  obtain ⟨kv',a1,a2⟩:=O9 (last:=V+aG (aK f i).next) (i:=k) g.to2 hC (aK f i).next 0 0 4 kv0 k1 (by rw[g.next];omega) g.upd;refine ⟨kv',a1.mono (Nat.le_refl _) (by rw[g.next];omega),fun y=>?_⟩;rw[a2,k2];rfl
end ama
end Go.Vm
end
section
namespace Go.Vm
open Go Go.Proofs Go.Whole Go.bB
namespace ama
open Go.Proofs.Tryz
theorem V6 {L V:Nat} (hV:V<=8) {x:Trans} (g:uh L V x):Q8 (2*(L*(V+1))) (ng V x):=by
 refine ⟨x.guard,id,by simp[ng],g.guard,?_,(by show (0:Int).natAbs<=1;decide),fun r hr k hk=>aaW (g.rows r hr).1 hk,fun r hr=>(g.rows r hr).2,fun C hC k hk=>?_⟩
 ·show V<=16
  omega
 ·refine ⟨fE V x.from_.toNat k 1 [],(mQ (m:=1) (KvB.nil C) g.nC hk hC (by decide)).mono (Nat.le_refl _) (by omega),fun y=>?_⟩
  rw[jY,show eT y []=0 from rfl,show ((1:Int):Rat)=1 from rfl]
  show _=Fq V y x.from_.toNat k
  grind
theorem V7 {L V:Nat}{t:Trans} (g:uh L V t) (hV:V<=8):bQ (V:Nat) t.guard=0:=by
 have h1:=g.guard;have h2:t.guard.all (bC (V:Nat))=true:=List.all_eq_true.2 fun r hr=>by
  obtain ⟨a,b,c⟩:=g.rows r hr;simp only[bC,a,bne_self_eq_false,Bool.not_false,Bool.true_and,b,List.all_eq_true];exact c
 have h3:decide (((V:Nat):Int) < 0)=false:=decide_eq_false (by omega);have h4:decide (((V:Nat):Int) > 128)=false:=decide_eq_false (by omega);have h5:decide ((t.guard.length:Int) > 256)=false:=decide_eq_false (by omega);unfold bQ;rw[h3,h4,h5,h2];rfl
theorem Ui {L V:Nat}{t:Trans} (g:uh L V t) (hV:V<=8):∃e,(e=false->kW V t.guard)/\aB Tryz.prog 241 [t.tr] (.bool e):=by
 obtain ⟨out,ho,hd⟩:=TY t.gnn (V7 g hV);have hn:=g.next;cases out with
 |pt p =>
  refine ⟨true,fun h=>(nomatch h),?_⟩;unfold BD.tr at hd;clear ho g;refine au orders Tryz.func241 rfl (by kernel_rfl) bf (by kernel_rfl) rfl (fun hs=>?_);clear hs
  repeat' (first|refine sX ?_ ?_<;>intro h|refine aj (hd) rfl ?_|simp only[go_sem, *])
 |lim =>
  refine ⟨true,fun h=>(nomatch h),?_⟩;unfold BD.tr at hd;clear ho g;refine au orders Tryz.func241 rfl (by kernel_rfl) bf (by kernel_rfl) rfl (fun hs=>?_);clear hs
  repeat' (first|refine sX ?_ ?_<;>intro h|refine aj (hd) rfl ?_|simp only[go_sem, *])
 |ml ms =>
  obtain ⟨h1,h2,h3,h4⟩:=ho;refine ⟨false,fun _=>BX (fun r hr=>(g.rows r hr).1) h1 h4,?_⟩;unfold BD.tr at hd;clear h1 h2 h3 h4 g;refine au orders Tryz.func241 rfl (by kernel_rfl) bf (by kernel_rfl) rfl (fun hs=>?_);clear hs
  repeat' (first|refine sX ?_ ?_<;>intro h|refine aj (hd) rfl ?_|simp only[go_sem, *])
theorem aa7 {V L ak:Nat}{R:List (List Int)}{b:List Int} (hV8:V<=8) (hL1:1<=L) (yV:L<=16) {bs:List Blk} (lG:ru (2*(L*(V+1))) ak R b bs) (hbs:bs.length<=33) :
  wZ V L bs (EJ V L (uQ (eD ak (R++[[]])) (jd (b++[0])))):=by
 have hRn:=lG.rn;have hcn:=lG.cn;have hbl:=lG.bl;have hLV:L*(V+1)<=16*9:=Nat.mul_le_mul yV (by omega);have ahK:1<=L*(V+1):=Nat.mul_pos hL1 (by omega);have ug:1<=ak:=by have:=sj bs (2*(L*(V+1)));rw[<- lG.ce]at this;omega
 have hw':∀r∈R++[[]],r.length<=ak/\∀x∈r,x.natAbs<=67108864:=fun r hr=>by
  rcases List.mem_append.1 hr with hr|hr
  ·exact lG.wide r hr
  ·rw[List.mem_singleton.1 hr];exact ⟨Nat.zero_le _,fun x hx=>by simp at hx⟩
 have hb':∀x∈b++[0],x.natAbs<=67108864:=fun x hx=>by
  rcases List.mem_append.1 hx with hx|hx
  ·have:=lG.rhs x hx;omega
  ·rw[List.mem_singleton.1 hx];decide
 have hml:(eD ak (R++[[]])).length=R.length+1:=by simp[eD]
 have EF:Fit (2*kU (eD ak (R++[[]])).length 67108864):=by
  rw[hml];exact Fit.two (k:=562) (by rw[B2];exact Nat.le_trans (Nat.mul_le_mul (show R.length+1<=562 by omega) (Nat.le_refl _)) (by decide)) (by rw[eu];omega) (by omega) (by decide) (by omega) (by decide)
 have hfit:Fit (kU (eD ak (R++[[]])).length 67108864):=EF.mono (Nat.le_trans (Nat.mul_pos (by omega) (by decide)) (BQ (by omega) (by decide))) (by omega);have hex:∃ans,Ug (eD ak (R++[[]])) (jd (b++[0])) ans:=by
  obtain ⟨ans,ha,hA,_,hd⟩:=CZ true (m:=eD ak (R++[[]])) (rhs:=jd (b++[0])) (C:=ak) (c:=67108864) (fun r hr=>by
  obtain ⟨q,_,rfl⟩:=List.mem_map.1 hr;exact yT _ _) (by simp[eD,jd,hbl]) (by omega) (by omega) (by omega) (O4 (by decide) (fun r hr=>(hw' r hr).2) hb') hfit
  exact ⟨ans,ha,hA,hd⟩
 obtain ⟨ha,hA,hd⟩:Ug (eD ak (R++[[]])) (jd (b++[0])) (uQ (eD ak (R++[[]])) (jd (b++[0]))):=Classical.epsilon_spec hex;generalize uQ (eD ak (R++[[]])) (jd (b++[0]))=ans at *;clear hex;cases ans with
 |inr u =>
  intro y hy hs;exact MS (by simp) (by simp[hbl]) (fun r hr=>(hw' r hr).1) ha hy ((uR hbl).2 ((lG.sol y).2 hs))
 |inl y =>
  obtain ⟨y1,y2,y3⟩:=EI (by simp) (fun r hr=>(hw' r hr).1) ha
  show wZ V L bs (match nR V L (atL y) with|some l=>.fs l|none=>.lim)
  cases hfo:nR V L (atL y) with
  |none=>exact trivial
  |some l =>
   refine ⟨atL y,fun c=>?_,(lG.sol _).1 ((uR hbl).1 y3),hfo⟩;unfold atL;rw[List.getD_eq_getElem?_getD];cases e:y[c]? with
   |none=>exact Rat.le_refl
   |some x=>exact y2 x (List.mem_of_getElem? e)
noncomputable def Pb (V L:Nat) (bs:List Blk):yU:=EJ V L (uQ (JA (nQ (2*(L*(V+1))) bs) (2*(L*(V+1))) bs++[q9 (nQ (2*(L*(V+1))) bs) []]) (JB bs++[0]))
theorem Uj {V L ak:Nat}{R:List (List Int)}{b:List Int}{bs:List Blk} (lG:ru (2*(L*(V+1))) ak R b bs):EJ V L (uQ (eD ak (R++[[]])) (jd (b++[0])))=Pb V L bs:=by
 have e1:eD ak (R++[[]])=JA ak (2*(L*(V+1))) bs++[q9 ak []]:=by
  rw[<- lG.mat];exact List.map_append
 have e2:jd (b++[0])=JB bs++[0]:=by
  rw[<- lG.rh];exact List.map_append
 unfold Pb;rw[e1,e2,lG.ce]
theorem aa8 {V L:Nat} (hV8:V<=8) (hL1:1<=L) (yV:L<=16) {bs:List Blk} (hbs:bs.length<=33) (h:∀x∈bs,Q8 (2*(L*(V+1))) x):wZ V L bs (Pb V L bs):=by
 obtain ⟨ak,R,b,hs⟩:=M7 bs [] _ _ _ (ru.nil (2*(L*(V+1)))) h;rw[List.nil_append]at hs;rw[<- Uj hs];exact aa7 hV8 hL1 yV hs hbs
theorem V8 {left:List Int}{k:Nat}{x:Int} (hx:left[k]?=some x) (en:Int->Bool) (F:Int->Blk):((left.take (k+1)).filter en).map F=((left.take k).filter en).map F++if en x=true then [F x] else []:=by
 rw[List.take_add_one,hx,List.filter_append,List.map_append];congr 1;cases h:en x<;>simp[h]
theorem aa9 {f:Flow} (hf:jk f) {V L:Nat} (hV:f.vars=(V:Nat)) (hL:f.dD=(L:Nat)) (lnn:Bool) {left:List Int} (hin:InF f left) (hll:left.length<=32) {en:Int->Bool} (hen:∀i∈left,aB Tryz.prog 241 [(aK f i).tr] (.bool (en i))) (hg:∀i∈left,uh L V (aK f i)) {t:Int} (ht:t∈left) :
  ∃out,wZ V L (eH f V en left t) out/\aB Tryz.prog 198 [f.tr,.sl lnn (ints left),i64 t] out.tr:=by
 have hV8:V<=8:=by have:=hf.qB;omega
 have yV:L<=16:=by have:=hf.dD;omega
 have hL1:1<=L:=by have:=hf.wG;have:=hf.wH;omega
 refine ⟨Pb V L (eH f V en left t),aa8 hV8 hL1 yV (by
  unfold eH;have:=List.length_filter_le en left;rw[List.length_append,List.length_map];split<;>simp<;>omega) (fun x hx=>by
  rcases wY hx with ⟨i,hi,rfl⟩|rfl
  ·exact aa6 hV8 (hg i hi)
  ·exact V6 hV8 (hg t ht)),?_⟩
 obtain ⟨jt,yt,ht0,hyt⟩:=hin.get ht;have gt:=hg t ht;have ent:=hen t ht;have al5:(f.trans.map Trans.tr)[jt]?=some yt.tr:=by rw[List.getElem?_map,hyt];rfl
 subst ht0;rw[fu hyt]at gt ent;have hLV:L*(V+1)<=16*9:=Nat.mul_le_mul yV (by omega);have e0:(⟨[.t (.int .i64 (V:Nat)),.t (.int .i64 (L:Nat)),.t (.int .i64 f.start),.t (.sl f.tnn (f.trans.map Trans.tr)),.t (.int .i64 0),.t (.sl false []),.t (.sl false [])],7,1,Mx,true,true⟩:Obj)=eY f 0 (.t (.sl false [])) (.t (.sl false [])):=by
  unfold eY Flow.cs;rw[hV,hL];rfl
 have S0:jq (hnew (fun _=>[]) 15 (eY f 0 (.t (.sl false [])) (.t (.sl false [])))) (15,0) f 0 (.t (.sl false [])) (.t (.sl false [])) [] []:=⟨rfl,iB _ _ _ rfl,.inl ⟨rfl,rfl⟩,.inl ⟨rfl,rfl⟩⟩
 obtain ⟨rt,htt,htr⟩:=S0.tree;have at0:=aaZ (f:=f) (ak:=0) (rt:=rt) (ht:=htt) hV hV8 yV;have o0:=S0.obj;refine au orders Tryz.func198 rfl (by kernel_rfl) (fun d=>d==13||d==14||d==15||d==9) (by kernel_rfl) rfl (fun hs=>?_);clear hs
 repeat' (first|refine sX ?_ ?_<;>intro h|simp only[go_sem, *])
 rw[eU];generalize hnew (fun _=>[]) 15 (eY f 0 (.t (.sl false [])) (.t (.sl false [])))=H0 at *;refine Fj at0 (by simp only[bA,htr,qy]) rfl ?_;have o1:=fun o=>aM o0 o
 unfold eY at o0;clear at0 htr e0
 repeat' (first|refine sX ?_ ?_<;>intro h|simp only[go_sem, *])
 have e1:∀c:Nat,(⟨[.t (.int .i64 (V:Nat)),.t (.int .i64 (L:Nat)),.t (.int .i64 f.start),.t (.sl f.tnn (f.trans.map Trans.tr)),.t (i64 c),.t (.sl false []),.t (.sl false [])],7,1,Mx,true,true⟩:Obj)=eY f c (.t (.sl false [])) (.t (.sl false [])):=fun c=>by
  unfold eY Flow.cs;rw[hV,hL];rfl
 rw[e1];have S1:jq (hset H0 (15,0) (eY f (2*(L*(V+1))) (.t (.sl false [])) (.t (.sl false [])))) (15,0) f (2*(L*(V+1))) (.t (.sl false [])) (.t (.sl false [])) [] []:=⟨rfl,o1 _,.inl ⟨rfl,rfl⟩,.inl ⟨rfl,rfl⟩⟩
 generalize hset H0 (15,0) (eY f (2*(L*(V+1))) (.t (.sl false [])) (.t (.sl false [])))=H1 at *;clear o0 o1 e1 S0;have Q9:∀k,(((left.take k).filter en).map (qZ f V jt)).length<=32:=fun k=>by
  rw[List.length_map];have:=List.length_filter_le en (left.take k);rw[List.length_take]at this;omega
 refine aC left (fun k s'=>∃(ak:Nat) (rows rhs:PV) (R:List (List Int)) (b:List Int),jq s'.hp (15,0) f ak rows rhs R b/\ru (2*(L*(V+1))) ak R b (((left.take k).filter en).map (qZ f V jt))) rfl rfl (by first|assumption|omega) (by kernel_rfl) (fun _ _ _ _ hj=>hj) (fun _ _ _ hj=>hj) ?_ (fun k x s' hx hd hk hJ hix hfr G hG=>?_) (fun s' hJ hfr=>?_)
 ·exact ⟨_,_,_,_,_,S1,ru.nil _⟩
 ·have c2:=hfr 2 (by kernel_rfl)
  have c3:=hfr 3 (by kernel_rfl);have c9:=hfr 9 (by kernel_rfl);have c23:=hfr 23 (by kernel_rfl);have c24:=hfr 24 (by kernel_rfl);clear hfr;simp only[go_sem]at c2 c3 c9 c23 c24;obtain ⟨ak,rows,rhs,R,b,hS,hY⟩:=hJ;obtain ⟨j,y,hxj,hy⟩:=hin.get (List.mem_of_getElem? hx);subst hxj;have hjm:=List.mem_of_getElem? hx;have g:=hg _ hjm;have enj:=hen _ hjm;have hy2:(f.trans.map Trans.tr)[j]?=some y.tr:=by rw[List.getElem?_map,hy];rfl
  rw[fu hy]at g enj;have hmid:=V8 hx en (qZ f V jt);have aea:=Q9 k;have hYc:=hY.cn;have hYr:=hY.rn;have hYb:=hY.bl;have hYe:=sj (((left.take k).filter en).map (qZ f V jt)) (2*(L*(V+1)));rw[<- hY.ce]at hYe;have hdr:∀d:Int,dM Tryz.prog 242 [.ad (15,0) 1 0,.t y.tr,.t (i64 d)] s'.hp _:=fun d=>acH (d:=d) hS hV hV8 yV (fr:=y.from_.toNat) (to:=y.to_.toNat) (by have:=g.qA;omega) g.nC (by have:=g.to1;omega) g.to2 hYe g.next g.upd g.guard (by omega) (by omega) hYb (fun r hr=>(g.rows r hr).2)
  have hfin:∀(d:Int) (s'':St),en j=true->d=(if (j:Int)=(jt:Int) then 1 else 0)->(∃rows' rhs' R2 b2,jq s''.hp (15,0) f (ak+y.guard.length+1) rows' rhs' (R++R2) (b++b2)/\mW s'.hp s''.hp/\sw ak y.guard.length (V+aG y.next) (4+8*2097152) y.guard (zU V y d).E d R2 b2 (V+aG y.next+1))->G s'':=fun d s'' he hd ⟨rows',rhs',R2,b2,q1,_,q3⟩=>by
   refine hG _ ⟨_,rows',rhs',_,_,q1,?_⟩;rw[hmid,if_pos he];have ha:aG y.next<=8:=by have:=tT y.next;rw[g.next]at this;omega
   refine hY.snoc q3 rfl (blk:=qZ f V jt j) ?_ ?_ (wide (aG y.next)) ?_ ?_ (fun r hr i hi=>Ub (g.rows r hr).1 hi) g.guard (by omega) (by decide) (by rw[hd];split<;>decide)
   ·unfold qZ
    rw[fu hy];rfl
   ·unfold qZ
    rw[fu hy];rfl
   ·unfold qZ
    rw[fu hy];rfl
   ·exact hd.symm
  have uo:∀s'':St,en j=false->s''.hp=s'.hp->G s'':=fun s'' he hh=>by
   refine hG _ ⟨_,rows,rhs,_,_,by rw[hh];exact hS,?_⟩;rw[hmid,he];simp only[Bool.false_eq_true,if_false,List.append_nil];exact hY
  clear hG hS hY hmid hd hg hen hYc hYr hYb hYe Q9 S1;cases he:en j with
  |false =>
   rw[he]at enj
   by_cases hjt:(j:Int)=(jt:Int)
   ·have hq:((j:Int)==(jt:Int))=true:=by simp[hjt]
    clear hjt hfin hdr
    repeat' (first|refine sX ?_ ?_<;>intro h|refine aj (enj) rfl ?_|simp only[go_sem, *])
    all_goals try exact uo _ he rfl
   ·have hq:((j:Int)==(jt:Int))=false:=by simpa using hjt
    clear hjt hfin hdr
    repeat' (first|refine sX ?_ ?_<;>intro h|refine aj (enj) rfl ?_|simp only[go_sem, *])
    all_goals try exact uo _ he rfl
  |true =>
   rw[he]at enj
   by_cases hjt:(j:Int)=(jt:Int)
   ·have hq:((j:Int)==(jt:Int))=true:=by simp[hjt]
    have hD:=hdr 1;have hF:=fun s''=>hfin 1 s'' he (by rw[if_pos hjt])
    clear hfin uo hdr hjt
    repeat' (first|refine sX ?_ ?_<;>intro h|refine aj (enj) rfl ?_|simp only[go_sem, *])
    refine iH hD fun v h' hq'=>?_
    clear hD
    repeat' (first|refine sX ?_ ?_<;>intro h|simp only[go_sem, *])
    try exact hF _ hq'
   ·have hq:((j:Int)==(jt:Int))=false:=by simpa using hjt
    have hD:=hdr 0;have hF:=fun s''=>hfin 0 s'' he (by rw[if_neg hjt])
    clear hfin uo hdr hjt
    repeat' (first|refine sX ?_ ?_<;>intro h|refine aj (enj) rfl ?_|simp only[go_sem, *])
    refine iH hD fun v h' hq'=>?_
    clear hD
    repeat' (first|refine sX ?_ ?_<;>intro h|simp only[go_sem, *])
    try exact hF _ hq'
 ·have c2:=hfr 2 (by kernel_rfl)
  have c3:=hfr 3 (by kernel_rfl);have c9:=hfr 9 (by kernel_rfl);clear hfr;simp only[go_sem]at c2 c3 c9;obtain ⟨ak,rows,rhs,R,b,hS,hY⟩:=hJ;rw[List.take_length]at hY;have aea:=Q9 left.length;rw[List.take_length]at aea;have hYc:=hY.cn;have hYr:=hY.rn;have hYb:=hY.bl;have hYe:=sj ((left.filter en).map (qZ f V jt)) (2*(L*(V+1)));rw[<- hY.ce]at hYe;have hlast:∀(h2:Hp) (ak:Nat) (rows rhs:PV) (R:List (List Int)) (b:List Int),jq h2 (15,0) f ak rows rhs R b->ru (2*(L*(V+1))) ak R b (eH f V en left jt)->dM Tryz.prog 244 [.ad (15,0) 1 0] h2 (fun v h'=>V4 (Pb V L (eH f V en left jt)) v h'):=fun h2 ak rows rhs R b q1 q2=>by
   have:=(aa0 q1 hV hV8 hL hL1 yV q2 (by
    unfold eH;rw[List.length_append];split<;>simp only[List.length_singleton,List.length_nil]<;>omega)).2
   rw[Uj q2]at this;exact this
  clear Q9 S1 hg hen hin ht;generalize hoc:Pb V L (eH f V en left jt)=oc at *;cases he:en jt with
  |false =>
   rw[he]at ent;have hb0:eH f V en left jt=(left.filter en).map (qZ f V jt):=by
    unfold eH;rw[he];simp
   rw[hb0]at hlast;have hq:=hlast _ _ _ _ _ _ hS hY;clear hlast hS hY hYc hYr hYb hYe hb0 hoc
   repeat' (first|refine sX ?_ ?_<;>intro h|refine aj (ent) rfl ?_|simp only[go_sem, *])
   refine iH hq fun v h' hp=>?_
   clear hq;cases oc with
   |none =>
    have hp:v=_:=hp;subst hp
    repeat' (first|refine sX ?_ ?_<;>intro h|simp only[go_sem, *])
    all_goals rfl
   |lim =>
    have hp:v=_:=hp;subst hp
    repeat' (first|refine sX ?_ ?_<;>intro h|simp only[go_sem, *])
    all_goals rfl
   |fs l =>
    obtain ⟨id,n,rfl,ht⟩:=hp
    repeat' (first|refine sX ?_ ?_<;>intro h|simp only[go_sem, *])
    all_goals rfl
  |true =>
   rw[he]at ent;have hb0:eH f V en left jt=(left.filter en).map (qZ f V jt)++[ng V yt]:=by
    unfold eH;rw[if_pos he,fu hyt]
   have hbd:=aaS hS hV hV8 yV (t:=yt) (fr:=yt.from_.toNat) (by have:=gt.qA;omega) gt.nC hYe gt.guard (by omega) (by omega) hYb (fun r hr=>(gt.rows r hr).2);rw[hb0]at hlast;have hl2:∀h2:Hp,(∃rows' rhs' R2 b2,jq h2 (15,0) f (ak+yt.guard.length+1) rows' rhs' (R++R2) (b++b2)/\mW s'.hp h2/\sw ak yt.guard.length V 2 yt.guard (fun y i=>Fq V y yt.from_.toNat i) 0 R2 b2 (V+1))->dM Tryz.prog 244 [.ad (15,0) 1 0] h2 (fun v h'=>V4 oc v h'):=fun h2 ⟨rows',rhs',R2,b2,q1,_,q3⟩ =>
    hlast _ _ _ _ _ _ q1 (hY.snoc q3 rfl (blk:=ng V yt) rfl rfl id (by simp[ng]) rfl (fun r hr i hi=>aaW (gt.rows r hr).1 hi) gt.guard (by omega) (by decide) (by decide))
   clear hlast hS hY hYc hYr hYb hYe hb0 hoc
   repeat' (first|refine sX ?_ ?_<;>intro h|refine aj (ent) rfl ?_|simp only[go_sem, *])
   refine iH hbd fun v h' hq'=>?_
   have hq:=hl2 _ hq';clear hbd hl2 hq'
   repeat' (first|refine sX ?_ ?_<;>intro h|simp only[go_sem, *])
   refine iH hq fun v h' hp=>?_
   clear hq;cases oc with
   |none =>
    have hp:v=_:=hp;subst hp
    repeat' (first|refine sX ?_ ?_<;>intro h|simp only[go_sem, *])
    all_goals rfl
   |lim =>
    have hp:v=_:=hp;subst hp
    repeat' (first|refine sX ?_ ?_<;>intro h|simp only[go_sem, *])
    all_goals rfl
   |fs l =>
    obtain ⟨id,n,rfl,ht⟩:=hp
    repeat' (first|refine sX ?_ ?_<;>intro h|simp only[go_sem, *])
    all_goals rfl
def kC (fs:List Row) (T:Int->vX) (C:Int->mH) (t:Int):List Int->List Int->List Cert->List Cert->rz
 |[],S,Bs,Ds=>.ok (lN fs S Bs Ds)
 |i::l,S,Bs,Ds=>match T i with
  |.yes b d=>kC fs T C t l (S++[i]) (Bs++[b]) (Ds++[d])
  |.no _ _=>(match C i with
   |.cert d=>kC fs T C t l S Bs (Ds++[d])
   |.pt=>kC fs T C t l S Bs (Ds++[fP])
   |.lim=>.err 3)
  |.err _ _=>if i=t then .err 3 else (match C i with
   |.cert d=>kC fs T C t l S Bs (Ds++[d])
   |.pt=>kC fs T C t l S Bs (Ds++[fP])
   |.lim=>.err 3)
theorem Cg {f:Flow}{fs:List Row}{T:Int->vX}{C:Int->mH}{t:Int}{left:List Int} (hfs:Ue f fs) (hsd:Xm f fs left t) (ht:t∈left) (hl:bO f.trans.length (-1) left=true) (hT:∀i∈left,TOk f fs i (T i)) (hC:∀i∈left,COk (f.vars+aG (aK f i).next) (gw f i) (dO f fs i 0) (C i)) :
  ∀(l dn:List Int) (S:List Int) (Bs Ds:List Cert),left=dn++l->o8 f fs dn S Bs Ds->(t∈dn->t∈S)->GOk f left (kC fs T C t l S Bs Ds)
 |[],dn,S,Bs,Ds,he,h,hts=>by
  rw[List.append_nil]at he;subst he;exact h.done hl hfs.len hfs.rows (hts ht)
 |i::l,dn,S,Bs,Ds,he,h,hts=>by
  have hil:i∈left:=by rw[he];simp
  have hnd:=DC hl;have hi:i∉dn:=fun hh=>by
   rw[he]at hnd;exact (List.nodup_append.1 hnd).2.2 i hh i (by simp) rfl
  have he2:left=(dn++[i])++l:=by rw[he];simp
  have ho:=hT i hil;have hc:=hC i hil;have cont:(i≠t)->GOk f left (match C i with
   |.cert d=>kC fs T C t l S Bs (Ds++[d])
   |.pt=>kC fs T C t l S Bs (Ds++[fP])
   |.lim=>.err 3):=fun hit=>by
   cases hci:C i with
   |cert d =>
    rw[hci]at hc;exact Cg hfs hsd ht hl hT hC l (dn++[i]) S Bs (Ds++[d]) he2 (h.no hi hc) (fun hh=>by
     rcases List.mem_append.1 hh with hh|hh
     ·exact hts hh
     ·exact absurd (List.mem_singleton.1 hh).symm hit)
   |pt =>
    rw[hci]at hc;exact absurd (hsd.afq i hil) hc.pos
   |lim=>exact rfl
  unfold kC;cases hti:T i with
  |yes b d =>
   rw[hti]at ho;exact Cg hfs hsd ht hl hT hC l (dn++[i]) (S++[i]) (Bs++[b]) (Ds++[d]) he2 (h.yes hi ho) (fun hh=>by
    rcases List.mem_append.1 hh with hh|hh
    ·exact List.mem_append_left _ (hts hh)
    ·rw[List.mem_singleton.1 hh];simp)
  |no b d =>
   rw[hti]at ho;refine cont fun e=>?_
   subst e;exact ho ⟨hsd.bound,hsd.afp⟩
  |err b d =>
   simp only;split
   ·exact rfl
   ·rename_i hit
    exact cont hit
def muG (d:Nat):Bool:=d==8||d==10||d==13||d==14||d==51||d==52||d==55||d==56||d==57||d==60||d==61||d==62||d==65||d==66||d==67||d==68||d==91||d==92||d==95||d==96||d==3000055||d==3000060||d==3000065||d==3000095||d==3999999
attribute [go_sem] muG
def Own2 (h:Hp) (s1 s2:Nat) (e:TypeId) (esz:Nat) (ag:Bool) (v:PV) (nn:Bool) (l:List Tr):Prop:=Own h s1 e esz ag v nn l\/Own h s2 e esz ag v nn l
theorem Own2.frame {h h':Hp}{s1 s2:Nat}{e:TypeId}{esz:Nat}{ag nn:Bool}{v:PV}{l:List Tr} (ho:Own2 h s1 s2 e esz ag v nn l) (h1:h' s1=h s1) (h2:h' s2=h s2):Own2 h' s1 s2 e esz ag v nn l:=ho.elim (fun o=>.inl (o.frame h1)) fun o=>.inr (o.frame h2)
theorem Own2.dep {h:Hp}{s1 s2:Nat}{e:TypeId}{esz:Nat}{ag nn:Bool}{v:PV}{l:List Tr} (ho:Own2 h s1 s2 e esz ag v nn l) (k:Nat):aS h (k+1) v=some (.sl nn l):=ho.elim (fun o=>o.aS k) fun o=>o.aS k
theorem Own2.one {h:Hp}{s1 s2:Nat}{e:TypeId}{esz:Nat}{ag nn:Bool}{v:PV}{l:List Tr} (ho:Own2 h s1 s2 e esz ag v nn l):v.one=true/\v.cells=[v]:=ho.elim (fun o=>o.one) fun o=>o.one
theorem yX (c:Cert):dh true 2 c.tr:=⟨fun _=>rfl,(fun h=>nomatch h),rfl⟩
abbrev tFk:TypeId:=40
abbrev Gn:TypeId:=93
def stO (a v1 v2 v3:PV):Obj:=⟨[a,v1,v2,v3],4,1,Gn,true,true⟩
theorem uF (n m o:Nat):awX muG (.ad (8,n) m o)=true:=fV _ _ _ rfl
theorem oH (n m o:Nat):awX muG (.ad (10,n) m o)=true:=fV _ _ _ rfl
theorem Ra (n m o:Nat):awX muG (.ad (13,n) m o)=true:=fV _ _ _ rfl
theorem Rb (n m o:Nat):awX muG (.ad (14,n) m o)=true:=fV _ _ _ rfl
theorem sH (h:Hp) (m o:Nat):awX muG (.ad (hnext h 13) m o)=true:=fV _ _ _ rfl
theorem sI (h:Hp) (m o:Nat):awX muG (.ad (hnext h 14) m o)=true:=fV _ _ _ rfl
theorem Gp {h:Hp}{st d:Nat}{e:TypeId}{esz:Nat}{ag nn:Bool}{v:PV}{l:List Tr} (ho:Own h st e esz ag v nn l) (hm:muG (3000000+st)=true) (q:Tr):apX muG (some d) v (.t q)=true:=by
 rcases ho.is with ⟨_,_,rfl⟩|⟨_,id,h1,rfl,_⟩
 ·exact RY _ _
 ·exact fC _ _ _ _ (by rw[h1];exact hm)
theorem Own2.apG {h:Hp}{s1 s2 d:Nat}{e:TypeId}{esz:Nat}{ag nn:Bool}{v:PV}{l:List Tr} (ho:Own2 h s1 s2 e esz ag v nn l) (h1:muG (3000000+s1)=true) (h2:muG (3000000+s2)=true) (q:Tr):apX muG (some d) v (.t q)=true:=ho.elim (fun o=>Gp o h1 q) fun o=>Gp o h2 q
theorem rA {mu:Nat->Bool}{F:Ex->St->Prop}{r:List Item}{s:St}{h:Hp}{s1 s2 d:Nat}{t e:TypeId}{esz:Nat}{nn nn':Bool}{v:PV}{l xs:List Tr} (ho:Own2 h s1 s2 e esz true v nn l) (hd:d=s1\/d=s2) (hmu:mu d=true) (hel:bg Tryz.prog t=some e) (hsz:Tryz.prog.cellsOf e=esz) (hz:(aW Tryz.prog e).map List.length=some esz) (hag:bR Tryz.prog e=some true) (h1:Nat.blt 0 esz=true)
  (hby:Nat.ble (Tryz.prog.bytesOf e) 128=true) (hx:∀x∈xs,dh true esz x) (hb:l.length+xs.length<=1099511627776)
  (hk:∀v' h',Own2 h' s1 s2 e esz true v' (nn||!xs.isEmpty) (l++xs)->(∀site,(site==s1)=false->(site==s2)=false->h' site=h site)->aI Tryz.prog mu F r .normal ⟨upd s.sl d v',h'⟩) :
  hpK Tryz.prog mu F (aT Tryz.prog mu (some d) t v (.t (.sl nn' xs)) h) (some d) r s:=by
 have key:∀st,st=s1\/st=s2->Own h st e esz true v nn l->hpK Tryz.prog mu F (aT Tryz.prog mu (some d) t v (.t (.sl nn' xs)) h) (some d) r s:=fun st hst o=>by
  have up:∀st',(st'=s1\/st'=s2)->∀ {h':Hp}{v':PV}{nn:Bool}{l:List Tr},Own h' st' e esz true v' nn l->Own2 h' s1 s2 e esz true v' nn l:=fun st' hs h' v' nn l o=>by
   rcases hs with rfl|rfl
   ·exact .inl o
   ·exact .inr o
  cases nn with
  |false =>
   have hnil:Own h d e esz true v false l:=by
    rcases o.is with ⟨a1,a2,a3⟩|⟨a1,_⟩
    ·subst a2;subst a3;exact Own.nil
    ·cases a1
   exact cB hnil hmu hel hsz hz hag (by rw[h1];rfl) hby hx hb fun v' h' o' hf=>hk v' h' (up d hd o') fun site e1 e2=>hf site (by rcases hd with rfl|rfl<;>assumption)
  |true =>
   exact mh o hel hsz hz h1 hby hx hb fun v' h' o' hf=>hk v' h' (up st hst (by simpa using o')) fun site e1 e2=>hf site (by rcases hst with rfl|rfl<;>assumption)
 rcases ho with o|o
 ·exact key s1 (.inl rfl) o
 ·exact key s2 (.inr rfl) o
def cO (c:Cert):Obj:=⟨[.t (.int .u64 c.scale),.t (.sl c.mnn (c.ms.map jE))],2,1,tFk,true,true⟩
theorem Ch {h:Hp}{z1 z2 o1 o2:Obj}{p q:Nat} (h1:hnext h 13=(13,p)) (h2:hnext h 14=(14,q)) :
  hget (hset (hset (hnew (hnew h 13 z1) 14 z2) (13,p) o1) (14,q) o2) (13,p)=some o1/\hget (hset (hset (hnew (hnew h 13 z1) 14 z2) (13,p) o1) (14,q) o2) (14,q)=some o2/\∀site,(site==13)=false->(site==14)=false->hset (hset (hnew (hnew h 13 z1) 14 z2) (13,p) o1) (14,q) o2 site=h site:=by
 have a1:=aJ (h:=h) 13 z1;rw[h1]at a1;have a2:=aA a1 (s:=14) z2;have a3:=aM a2 o1;have b1:=aJ (h:=hnew h 13 z1) 14 z2;rw[bH (s:=13) (s':=14) _ rfl,h2]at b1;have b2:=aD b1 (id:=(13,p)) (.inl (by simp)) o1;refine ⟨aD a3 (id:=(14,q)) (.inl (by simp)) o2,aM b2 o2,fun site e1 e2=>?_⟩;rw[fA _ e2,fA _ e1,jB _ e2,jB _ e1]
theorem abb {f:Flow}{fs:List Row} (lnn:Bool) {left:List Int} (hin:InF f left) (hll:left.length<=32) {T:Int->vX}{C:Int->mH} (hT:∀(j:Nat) y,f.trans[j]?=some y->aB Tryz.prog 245 [y.tr,.sl true (fs.map Row.tr)] (T j).tr)
  (hC:∀(j:Nat) y,f.trans[j]?=some y->∃G D,aB Tryz.prog 237 [y.tr] G/\aB Tryz.prog 234 [y.tr,.sl true (fs.map Row.tr),i64 0] D/\aB Tryz.prog 246 [G,D] (C j).tr) (t:Int) :
  aB Tryz.prog 199 [f.tr,.sl lnn (ints left),.sl true (fs.map Row.tr),i64 t] (kC fs T C t left [] [] []).tr:=by
 generalize hQ:kC fs T C t left [] [] []=Q;generalize hfs:fs.map Row.tr=FR at *;refine au orders Tryz.func199 rfl (by kernel_rfl) muG (by kernel_rfl) rfl (fun hs=>?_);clear hs
 repeat' (first|refine sX ?_ ?_<;>intro h|simp only[go_sem, *,Bool.or_true,uF,oH,sH,sI,bL,dF,eU,iB])
 simp only[bH (s:=8) (s':=10) _ rfl,eU];refine aC left (fun k s'=>∃(S:List Int) (Bs Ds:List Cert) (v1 v2 v3:PV),hget s'.hp (10,0)=some (stO (.t (.sl true FR)) v1 v2 v3)/\Own s'.hp 55 rD 1 false v1 (!S.isEmpty) (ints S)/\Own s'.hp 60 tFk 2 true v2 (!Bs.isEmpty) (Bs.map Cert.tr)/\Own2 s'.hp 65 95 tFk 2 true v3 (!Ds.isEmpty) (Ds.map Cert.tr)/\hget s'.hp (8,0)=some (stO (.t (.sl false [])) (.t (.sl false [])) (.t (.sl false [])) (.t (.sl false [])))/\(S.length<=k/\Bs.length<=k/\Ds.length<=k)/\kC fs T C t (left.drop k) S Bs Ds=Q) rfl rfl (by first|assumption|omega) (by kernel_rfl) (fun _ _ _ _ hj=>hj) (fun _ _ _ hj=>hj) ?_ (fun k x s' hx hd hk hJ hix hfr G hG=>?_) (fun s' hJ hfr=>?_)
 ·exact ⟨[],[],[],_,_,_,rfl,Own.nil,Own.nil,.inl Own.nil,rfl,⟨Nat.le_refl _,Nat.le_refl _,Nat.le_refl _⟩,hQ⟩
 ·have c2:=hfr 2 (by kernel_rfl)
  have c3:=hfr 3 (by kernel_rfl);have c4:=hfr 4 (by kernel_rfl);have c8:=hfr 8 (by kernel_rfl);have c10:=hfr 10 (by kernel_rfl);have c19:=hfr 19 (by kernel_rfl);have c20:=hfr 20 (by kernel_rfl);clear hfr;simp only[go_sem]at c2 c3 c4 c8 c10 c19 c20;obtain ⟨S,Bs,Ds,v1,v2,v3,g10,o1,o2,o3,g8,hlen,hJ⟩:=hJ;obtain ⟨j,y,hxj,hy⟩:=hin.get (List.mem_of_getElem? hx);subst hxj;have hy2:(f.trans.map Trans.tr)[j]?=some y.tr:=by rw[List.getElem?_map,hy];rfl
  have hTj:=hT j y hy;obtain ⟨G1,D1,cG,cD,cC⟩:=hC j y hy;rw[hd]at hJ;unfold kC at hJ;have a1:=fun q=>Gp (d:=55) o1 rfl q
  have a2:=fun q=>Gp (d:=60) o2 rfl q
  have a3:=fun q=>Own2.apG (d:=65) o3 rfl rfl q
  have a4:=fun q=>Own2.apG (d:=95) o3 rfl rfl q
  obtain ⟨r1,r1'⟩:=o1.one;obtain ⟨r2,r2'⟩:=o2.one;obtain ⟨r3,r3'⟩:=o3.one;unfold stO at g10;have al6:=hlen.1;have aa1:=hlen.2.1;have al7:=hlen.2.2;cases hti:T j with
  |yes b d =>
   rw[hti]at hTj hJ;unfold vX.tr at hTj;simp only at hTj hJ;clear cG cD cC hT hC hin hti hQ hd hlen hfs a4
   repeat' (first|refine sX ?_ ?_<;>intro h|refine aj (hTj) rfl ?_|simp only[go_sem, *,Bool.or_true,uF,oH,sH,sI,bL,dF])
   obtain ⟨p13,h13⟩:∃p,hnext s'.hp 13=(13,p):=⟨_,rfl⟩
   obtain ⟨p14,h14⟩:∃p,hnext s'.hp 14=(14,p):=⟨_,rfl⟩
   obtain ⟨k13,k14,ks⟩:=Ch (z1:=⟨[.t (.int .u64 0),.t (.sl false [])],2,1,tFk,true,true⟩) (z2:=⟨[.t (.int .u64 0),.t (.sl false [])],2,1,tFk,true,true⟩) (o1:=cO b) (o2:=cO d) h13 h14;simp only[bH (s:=13) (s':=14) _ rfl,h13,h14];change hpK _ _ _ (aT _ _ _ _ _ _ (hset (hset (hnew (hnew s'.hp 13 ⟨[.t (.int .u64 0),.t (.sl false [])],2,1,tFk,true,true⟩) 14 ⟨[.t (.int .u64 0),.t (.sl false [])],2,1,tFk,true,true⟩) (13,p13) (cO b)) (14,p14) (cO d))) _ _ ⟨_,hset (hset (hnew (hnew s'.hp 13 ⟨[.t (.int .u64 0),.t (.sl false [])],2,1,tFk,true,true⟩) 14 ⟨[.t (.int .u64 0),.t (.sl false [])],2,1,tFk,true,true⟩) (13,p13) (cO b)) (14,p14) (cO d)⟩;generalize hset (hset (hnew (hnew s'.hp 13 ⟨[.t (.int .u64 0),.t (.sl false [])],2,1,tFk,true,true⟩) 14 ⟨[.t (.int .u64 0),.t (.sl false [])],2,1,tFk,true,true⟩) (13,p13) (cO b)) (14,p14) (cO d)=HA at *;have xg:=(aX (ks 10 rfl rfl) (id:=(10,0))).trans g10;unfold cO at k13 k14;refine cB (o1.frame (ks 55 rfl rfl)) rfl (by kernel_rfl) (by kernel_rfl) (by kernel_rfl) (by kernel_rfl) rfl (by kernel_rfl) (ok_int _ _) (by rw[List.length_map,List.length_singleton];omega) (fun w1 hB p1 f1=>?_);have Xo:=(aX (f1 10 rfl) (id:=(10,0))).trans xg;have ahP:=(aX (f1 13 rfl) (id:=(13,p13))).trans k13;have aeb:=(aX (f1 14 rfl) (id:=(14,p14))).trans k14;clear g10 xg k13 k14 h13 h14
   repeat' (first|refine sX ?_ ?_<;>intro h|simp only[go_sem, *,Bool.or_true,uF,oH,Ra,Rb,bL,dF])
   refine cB (o2.frame ((f1 60 rfl).trans (ks 60 rfl rfl))) rfl (by kernel_rfl) (by kernel_rfl) (by kernel_rfl) (by kernel_rfl) rfl (by kernel_rfl) (fun x hx=>by rw[List.mem_singleton.1 hx];exact yX b) (by rw[List.length_map,List.length_singleton];omega) (fun w2 hC p2 f2=>?_);have aec:=(aX (f2 10 rfl) (id:=(10,0))).trans Xo;have ahQ:=(aX (f2 14 rfl) (id:=(14,p14))).trans aeb;clear Xo ahP aeb
   repeat' (first|refine sX ?_ ?_<;>intro h|simp only[go_sem, *,Bool.or_true,uF,oH,Ra,Rb,bL,dF])
   refine rA (o3.frame (((f2 65 rfl).trans (f1 65 rfl)).trans (ks 65 rfl rfl)) (((f2 95 rfl).trans (f1 95 rfl)).trans (ks 95 rfl rfl))) (.inl rfl) rfl (by kernel_rfl) (by kernel_rfl) (by kernel_rfl) (by kernel_rfl) rfl (by kernel_rfl) (fun x hx=>by rw[List.mem_singleton.1 hx];exact yX d) (by rw[List.length_map,List.length_singleton];omega) (fun w3 hD p3 f3=>?_);have Gq:=(aX (f3 10 rfl rfl) (id:=(10,0))).trans aec;have Gs:=fun o=>aM Gq o
   have hss:=fun o o'=>lD hD (10,0) o o'
   have q1:Own hD 55 rD 1 false w1 (!(S++[(j:Int)]).isEmpty) (ints (S++[(j:Int)])):=Own.snoc (p1.frame ((f3 55 rfl rfl).trans (f2 55 rfl)));have q2:Own hD 60 tFk 2 true w2 (!(Bs++[b]).isEmpty) ((Bs++[b]).map Cert.tr):=Own.snoc (p2.frame (f3 60 rfl rfl));have q3:Own2 hD 65 95 tFk 2 true w3 (!(Ds++[d]).isEmpty) ((Ds++[d]).map Cert.tr):=p3.elim (fun o=>.inl o.snoc) fun o=>.inr o.snoc
   have q8:hget hD (8,0)=some (stO (.t (.sl false [])) (.t (.sl false [])) (.t (.sl false [])) (.t (.sl false []))):=(aX ((((f3 8 rfl rfl).trans (f2 8 rfl)).trans (f1 8 rfl)).trans (ks 8 rfl rfl)) (id:=(8,0))).trans g8;obtain ⟨u1,u1'⟩:=q1.one;obtain ⟨u2,u2'⟩:=q2.one;obtain ⟨u3,u3'⟩:=q3.one;clear aec ahQ p1 p2 p3 f1 f2 f3 ks o1 o2 o3 g8
   repeat' (first|refine sX ?_ ?_<;>intro h|simp only[go_sem, *,Bool.or_true,uF,oH,Ra,Rb,bL,dF])
   exact hG _ ⟨S++[(j:Int)],Bs++[b],Ds++[d],w1,w2,w3,Gs _,q1.frame rfl,q2.frame rfl,q3.frame rfl rfl,aD q8 (id:=(10,0)) (.inl (by simp)) _,⟨by rw[List.length_append,List.length_singleton];omega,by rw[List.length_append,List.length_singleton];omega,by rw[List.length_append,List.length_singleton];omega⟩,hJ⟩
  |no b d =>
   rw[hti]at hTj hJ;unfold vX.tr at hTj;simp only at hTj hJ;clear hT hC hin hti hQ hd hlen hfs a3;cases hci:C j with
   |cert d2 =>
    rw[hci]at cC hJ;unfold mH.tr at cC;simp only at cC hJ;clear hci
    repeat' (first|refine sX ?_ ?_<;>intro h|refine aj (hTj) rfl ?_|refine aj (cG) rfl ?_|refine aj (cD) rfl ?_|refine aj (cC) rfl ?_|simp only[go_sem, *,Bool.or_true,uF,oH,sH,sI,bL,dF])
    obtain ⟨p13,h13⟩:∃p,hnext s'.hp 13=(13,p):=⟨_,rfl⟩
    obtain ⟨p14,h14⟩:∃p,hnext s'.hp 14=(14,p):=⟨_,rfl⟩
    obtain ⟨k13,k14,ks⟩:=Ch (z1:=⟨[.t (.int .u64 0),.t (.sl false [])],2,1,tFk,true,true⟩) (z2:=⟨[.t (.int .u64 0),.t (.sl false [])],2,1,tFk,true,true⟩) (o1:=cO b) (o2:=cO d2) h13 h14;simp only[bH (s:=13) (s':=14) _ rfl,h13,h14,lD];change hpK _ _ _ (aT _ _ _ _ _ _ (hset (hset (hnew (hnew s'.hp 13 ⟨[.t (.int .u64 0),.t (.sl false [])],2,1,tFk,true,true⟩) 14 ⟨[.t (.int .u64 0),.t (.sl false [])],2,1,tFk,true,true⟩) (13,p13) (cO b)) (14,p14) (cO d2))) _ _ ⟨_,hset (hset (hnew (hnew s'.hp 13 ⟨[.t (.int .u64 0),.t (.sl false [])],2,1,tFk,true,true⟩) 14 ⟨[.t (.int .u64 0),.t (.sl false [])],2,1,tFk,true,true⟩) (13,p13) (cO b)) (14,p14) (cO d2)⟩;generalize hset (hset (hnew (hnew s'.hp 13 ⟨[.t (.int .u64 0),.t (.sl false [])],2,1,tFk,true,true⟩) 14 ⟨[.t (.int .u64 0),.t (.sl false [])],2,1,tFk,true,true⟩) (13,p13) (cO b)) (14,p14) (cO d2)=HA at *;have xg:=(aX (ks 10 rfl rfl) (id:=(10,0))).trans g10;refine rA (o3.frame (ks 65 rfl rfl) (ks 95 rfl rfl)) (.inr rfl) rfl (by kernel_rfl) (by kernel_rfl) (by kernel_rfl) (by kernel_rfl) rfl (by kernel_rfl) (fun x hx=>by rw[List.mem_singleton.1 hx];exact yX d2) (by rw[List.length_map,List.length_singleton];omega) (fun w3 hD p3 f3=>?_);have Gq:=(aX (f3 10 rfl rfl) (id:=(10,0))).trans xg;have Gs:=fun o=>aM Gq o
    have q1:=o1.frame ((f3 55 rfl rfl).trans (ks 55 rfl rfl));have q2:=o2.frame ((f3 60 rfl rfl).trans (ks 60 rfl rfl));have q3:Own2 hD 65 95 tFk 2 true w3 (!(Ds++[d2]).isEmpty) ((Ds++[d2]).map Cert.tr):=p3.elim (fun o=>.inl o.snoc) fun o=>.inr o.snoc
    have q8:hget hD (8,0)=some (stO (.t (.sl false [])) (.t (.sl false [])) (.t (.sl false [])) (.t (.sl false []))):=(aX ((f3 8 rfl rfl).trans (ks 8 rfl rfl)) (id:=(8,0))).trans g8;obtain ⟨u3,u3'⟩:=q3.one;clear k13 k14 h13 h14 g10 xg p3 f3 ks o1 o2 o3 g8
    repeat' (first|refine sX ?_ ?_<;>intro h|simp only[go_sem, *,Bool.or_true,uF,oH,sH,sI,bL,dF])
    exact hG _ ⟨S,Bs,Ds++[d2],v1,v2,w3,Gs _,q1.frame rfl,q2.frame rfl,q3.frame rfl rfl,aD q8 (id:=(10,0)) (.inl (by simp)) _,⟨by omega,by omega,by rw[List.length_append,List.length_singleton];omega⟩,hJ⟩
   |pt =>
    rw[hci]at cC hJ;unfold mH.tr at cC;simp only at cC hJ;clear hci
    repeat' (first|refine sX ?_ ?_<;>intro h|refine aj (hTj) rfl ?_|refine aj (cG) rfl ?_|refine aj (cD) rfl ?_|refine aj (cC) rfl ?_|simp only[go_sem, *,Bool.or_true,uF,oH,sH,sI,bL,dF])
    obtain ⟨p13,h13⟩:∃p,hnext s'.hp 13=(13,p):=⟨_,rfl⟩
    obtain ⟨p14,h14⟩:∃p,hnext s'.hp 14=(14,p):=⟨_,rfl⟩
    obtain ⟨k13,k14,ks⟩:=Ch (z1:=⟨[.t (.int .u64 0),.t (.sl false [])],2,1,tFk,true,true⟩) (z2:=⟨[.t (.int .u64 0),.t (.sl false [])],2,1,tFk,true,true⟩) (o1:=cO b) (o2:=cO fP) h13 h14;simp only[bH (s:=13) (s':=14) _ rfl,h13,h14,lD];change hpK _ _ _ (aT _ _ _ _ _ _ (hset (hset (hnew (hnew s'.hp 13 ⟨[.t (.int .u64 0),.t (.sl false [])],2,1,tFk,true,true⟩) 14 ⟨[.t (.int .u64 0),.t (.sl false [])],2,1,tFk,true,true⟩) (13,p13) (cO b)) (14,p14) (cO fP))) _ _ ⟨_,hset (hset (hnew (hnew s'.hp 13 ⟨[.t (.int .u64 0),.t (.sl false [])],2,1,tFk,true,true⟩) 14 ⟨[.t (.int .u64 0),.t (.sl false [])],2,1,tFk,true,true⟩) (13,p13) (cO b)) (14,p14) (cO fP)⟩;generalize hset (hset (hnew (hnew s'.hp 13 ⟨[.t (.int .u64 0),.t (.sl false [])],2,1,tFk,true,true⟩) 14 ⟨[.t (.int .u64 0),.t (.sl false [])],2,1,tFk,true,true⟩) (13,p13) (cO b)) (14,p14) (cO fP)=HA at *;have xg:=(aX (ks 10 rfl rfl) (id:=(10,0))).trans g10;refine rA (o3.frame (ks 65 rfl rfl) (ks 95 rfl rfl)) (.inr rfl) rfl (by kernel_rfl) (by kernel_rfl) (by kernel_rfl) (by kernel_rfl) rfl (by kernel_rfl) (fun x hx=>by rw[List.mem_singleton.1 hx];exact yX fP) (by rw[List.length_map,List.length_singleton];omega) (fun w3 hD p3 f3=>?_);have Gq:=(aX (f3 10 rfl rfl) (id:=(10,0))).trans xg;have Gs:=fun o=>aM Gq o
    have q1:=o1.frame ((f3 55 rfl rfl).trans (ks 55 rfl rfl));have q2:=o2.frame ((f3 60 rfl rfl).trans (ks 60 rfl rfl));have q3:Own2 hD 65 95 tFk 2 true w3 (!(Ds++[fP]).isEmpty) ((Ds++[fP]).map Cert.tr):=p3.elim (fun o=>.inl o.snoc) fun o=>.inr o.snoc
    have q8:hget hD (8,0)=some (stO (.t (.sl false [])) (.t (.sl false [])) (.t (.sl false [])) (.t (.sl false []))):=(aX ((f3 8 rfl rfl).trans (ks 8 rfl rfl)) (id:=(8,0))).trans g8;obtain ⟨u3,u3'⟩:=q3.one;clear k13 k14 h13 h14 g10 xg p3 f3 ks o1 o2 o3 g8
    repeat' (first|refine sX ?_ ?_<;>intro h|simp only[go_sem, *,Bool.or_true,uF,oH,sH,sI,bL,dF])
    exact hG _ ⟨S,Bs,Ds++[fP],v1,v2,w3,Gs _,q1.frame rfl,q2.frame rfl,q3.frame rfl rfl,aD q8 (id:=(10,0)) (.inl (by simp)) _,⟨by omega,by omega,by rw[List.length_append,List.length_singleton];omega⟩,hJ⟩
   |lim =>
    rw[hci]at cC hJ;unfold mH.tr at cC;simp only at cC hJ;clear hci hG;subst hJ;unfold stO at g8
    repeat' (first|refine sX ?_ ?_<;>intro h|refine aj (hTj) rfl ?_|refine aj (cG) rfl ?_|refine aj (cD) rfl ?_|refine aj (cC) rfl ?_|simp only[go_sem, *,Bool.or_true,uF,oH,sH,sI,bL,dF])
    all_goals rfl
  |err b d =>
   rw[hti]at hTj hJ;unfold vX.tr at hTj;simp only at hTj hJ;clear hT hC hin hti hQ hd hlen hfs a3
   by_cases hjt:(j:Int)=t
   ·rw[if_pos hjt]at hJ
    have hq:((j:Int)==t)=true:=by simp[hjt]
    subst hJ;unfold stO at g8;clear hjt hG cC cD cG
    repeat' (first|refine sX ?_ ?_<;>intro h|refine aj (hTj) rfl ?_|simp only[go_sem, *,Bool.or_true,uF,oH,sH,sI,bL,dF])
    all_goals rfl
   ·rw[if_neg hjt]at hJ
    have hq:((j:Int)==t)=false:=by simpa using hjt
    clear hjt;cases hci:C j with
    |cert d2 =>
     rw[hci]at cC hJ;unfold mH.tr at cC;simp only at cC hJ;clear hci
     repeat' (first|refine sX ?_ ?_<;>intro h|refine aj (hTj) rfl ?_|refine aj (cG) rfl ?_|refine aj (cD) rfl ?_|refine aj (cC) rfl ?_|simp only[go_sem, *,Bool.or_true,uF,oH,sH,sI,bL,dF])
     obtain ⟨p13,h13⟩:∃p,hnext s'.hp 13=(13,p):=⟨_,rfl⟩
     obtain ⟨p14,h14⟩:∃p,hnext s'.hp 14=(14,p):=⟨_,rfl⟩
     obtain ⟨k13,k14,ks⟩:=Ch (z1:=⟨[.t (.int .u64 0),.t (.sl false [])],2,1,tFk,true,true⟩) (z2:=⟨[.t (.int .u64 0),.t (.sl false [])],2,1,tFk,true,true⟩) (o1:=cO b) (o2:=cO d2) h13 h14;simp only[bH (s:=13) (s':=14) _ rfl,h13,h14,lD];change hpK _ _ _ (aT _ _ _ _ _ _ (hset (hset (hnew (hnew s'.hp 13 ⟨[.t (.int .u64 0),.t (.sl false [])],2,1,tFk,true,true⟩) 14 ⟨[.t (.int .u64 0),.t (.sl false [])],2,1,tFk,true,true⟩) (13,p13) (cO b)) (14,p14) (cO d2))) _ _ ⟨_,hset (hset (hnew (hnew s'.hp 13 ⟨[.t (.int .u64 0),.t (.sl false [])],2,1,tFk,true,true⟩) 14 ⟨[.t (.int .u64 0),.t (.sl false [])],2,1,tFk,true,true⟩) (13,p13) (cO b)) (14,p14) (cO d2)⟩;generalize hset (hset (hnew (hnew s'.hp 13 ⟨[.t (.int .u64 0),.t (.sl false [])],2,1,tFk,true,true⟩) 14 ⟨[.t (.int .u64 0),.t (.sl false [])],2,1,tFk,true,true⟩) (13,p13) (cO b)) (14,p14) (cO d2)=HA at *;have xg:=(aX (ks 10 rfl rfl) (id:=(10,0))).trans g10;refine rA (o3.frame (ks 65 rfl rfl) (ks 95 rfl rfl)) (.inr rfl) rfl (by kernel_rfl) (by kernel_rfl) (by kernel_rfl) (by kernel_rfl) rfl (by kernel_rfl) (fun x hx=>by rw[List.mem_singleton.1 hx];exact yX d2) (by rw[List.length_map,List.length_singleton];omega) (fun w3 hD p3 f3=>?_);have Gq:=(aX (f3 10 rfl rfl) (id:=(10,0))).trans xg;have Gs:=fun o=>aM Gq o
     have q1:=o1.frame ((f3 55 rfl rfl).trans (ks 55 rfl rfl));have q2:=o2.frame ((f3 60 rfl rfl).trans (ks 60 rfl rfl));have q3:Own2 hD 65 95 tFk 2 true w3 (!(Ds++[d2]).isEmpty) ((Ds++[d2]).map Cert.tr):=p3.elim (fun o=>.inl o.snoc) fun o=>.inr o.snoc
     have q8:hget hD (8,0)=some (stO (.t (.sl false [])) (.t (.sl false [])) (.t (.sl false [])) (.t (.sl false []))):=(aX ((f3 8 rfl rfl).trans (ks 8 rfl rfl)) (id:=(8,0))).trans g8;obtain ⟨u3,u3'⟩:=q3.one;clear k13 k14 h13 h14 g10 xg p3 f3 ks o1 o2 o3 g8
     repeat' (first|refine sX ?_ ?_<;>intro h|simp only[go_sem, *,Bool.or_true,uF,oH,sH,sI,bL,dF])
     exact hG _ ⟨S,Bs,Ds++[d2],v1,v2,w3,Gs _,q1.frame rfl,q2.frame rfl,q3.frame rfl rfl,aD q8 (id:=(10,0)) (.inl (by simp)) _,⟨by omega,by omega,by rw[List.length_append,List.length_singleton];omega⟩,hJ⟩
    |pt =>
     rw[hci]at cC hJ;unfold mH.tr at cC;simp only at cC hJ;clear hci
     repeat' (first|refine sX ?_ ?_<;>intro h|refine aj (hTj) rfl ?_|refine aj (cG) rfl ?_|refine aj (cD) rfl ?_|refine aj (cC) rfl ?_|simp only[go_sem, *,Bool.or_true,uF,oH,sH,sI,bL,dF])
     obtain ⟨p13,h13⟩:∃p,hnext s'.hp 13=(13,p):=⟨_,rfl⟩
     obtain ⟨p14,h14⟩:∃p,hnext s'.hp 14=(14,p):=⟨_,rfl⟩
     obtain ⟨k13,k14,ks⟩:=Ch (z1:=⟨[.t (.int .u64 0),.t (.sl false [])],2,1,tFk,true,true⟩) (z2:=⟨[.t (.int .u64 0),.t (.sl false [])],2,1,tFk,true,true⟩) (o1:=cO b) (o2:=cO fP) h13 h14;simp only[bH (s:=13) (s':=14) _ rfl,h13,h14,lD];change hpK _ _ _ (aT _ _ _ _ _ _ (hset (hset (hnew (hnew s'.hp 13 ⟨[.t (.int .u64 0),.t (.sl false [])],2,1,tFk,true,true⟩) 14 ⟨[.t (.int .u64 0),.t (.sl false [])],2,1,tFk,true,true⟩) (13,p13) (cO b)) (14,p14) (cO fP))) _ _ ⟨_,hset (hset (hnew (hnew s'.hp 13 ⟨[.t (.int .u64 0),.t (.sl false [])],2,1,tFk,true,true⟩) 14 ⟨[.t (.int .u64 0),.t (.sl false [])],2,1,tFk,true,true⟩) (13,p13) (cO b)) (14,p14) (cO fP)⟩;generalize hset (hset (hnew (hnew s'.hp 13 ⟨[.t (.int .u64 0),.t (.sl false [])],2,1,tFk,true,true⟩) 14 ⟨[.t (.int .u64 0),.t (.sl false [])],2,1,tFk,true,true⟩) (13,p13) (cO b)) (14,p14) (cO fP)=HA at *;have xg:=(aX (ks 10 rfl rfl) (id:=(10,0))).trans g10;refine rA (o3.frame (ks 65 rfl rfl) (ks 95 rfl rfl)) (.inr rfl) rfl (by kernel_rfl) (by kernel_rfl) (by kernel_rfl) (by kernel_rfl) rfl (by kernel_rfl) (fun x hx=>by rw[List.mem_singleton.1 hx];exact yX fP) (by rw[List.length_map,List.length_singleton];omega) (fun w3 hD p3 f3=>?_);have Gq:=(aX (f3 10 rfl rfl) (id:=(10,0))).trans xg;have Gs:=fun o=>aM Gq o
     have q1:=o1.frame ((f3 55 rfl rfl).trans (ks 55 rfl rfl));have q2:=o2.frame ((f3 60 rfl rfl).trans (ks 60 rfl rfl));have q3:Own2 hD 65 95 tFk 2 true w3 (!(Ds++[fP]).isEmpty) ((Ds++[fP]).map Cert.tr):=p3.elim (fun o=>.inl o.snoc) fun o=>.inr o.snoc
     have q8:hget hD (8,0)=some (stO (.t (.sl false [])) (.t (.sl false [])) (.t (.sl false [])) (.t (.sl false []))):=(aX ((f3 8 rfl rfl).trans (ks 8 rfl rfl)) (id:=(8,0))).trans g8;obtain ⟨u3,u3'⟩:=q3.one;clear k13 k14 h13 h14 g10 xg p3 f3 ks o1 o2 o3 g8
     repeat' (first|refine sX ?_ ?_<;>intro h|simp only[go_sem, *,Bool.or_true,uF,oH,sH,sI,bL,dF])
     exact hG _ ⟨S,Bs,Ds++[fP],v1,v2,w3,Gs _,q1.frame rfl,q2.frame rfl,q3.frame rfl rfl,aD q8 (id:=(10,0)) (.inl (by simp)) _,⟨by omega,by omega,by rw[List.length_append,List.length_singleton];omega⟩,hJ⟩
    |lim =>
     rw[hci]at cC hJ;unfold mH.tr at cC;simp only at cC hJ;clear hci hG;subst hJ;unfold stO at g8
     repeat' (first|refine sX ?_ ?_<;>intro h|refine aj (hTj) rfl ?_|refine aj (cG) rfl ?_|refine aj (cD) rfl ?_|refine aj (cC) rfl ?_|simp only[go_sem, *,Bool.or_true,uF,oH,sH,sI,bL,dF])
     all_goals rfl
 ·have c8:=hfr 8 (by kernel_rfl)
  have c10:=hfr 10 (by kernel_rfl);clear hfr;simp only[go_sem]at c8 c10;obtain ⟨S,Bs,Ds,v1,v2,v3,g10,o1,o2,o3,g8,hlen,hJ⟩:=hJ;rw[List.drop_length]at hJ;unfold kC at hJ;subst hJ;obtain ⟨r1,r1'⟩:=o1.one;obtain ⟨r2,r2'⟩:=o2.one;obtain ⟨r3,r3'⟩:=o3.one;have hfr:∀(o:Obj) (site:Nat),(site==8)=false->hset s'.hp (8,0) o site=s'.hp site:=fun o site hs=>fA _ hs
  have t1:=fun o=>(o1.frame (hfr o 55 rfl)).aS 4
  have t2:=fun o=>(o2.frame (hfr o 60 rfl)).aS 4
  have t3:=fun o=>(o3.frame (hfr o 65 rfl) (hfr o 95 rfl)).dep 4
  unfold stO at g10 g8;clear o1 o2 o3 hT hC hQ hlen hfr
  repeat' (first|refine sX ?_ ?_<;>intro h|simp only[go_sem, *])
  unfold rz.tr lN bq.tr;simp only;rw[hfs]
def rC (F:Int->yU) (G:Int->rz):List Int->Int->rz
 |[],w=>.err w
 |t::l,w=>match F t with
  |.none=>rC F G l w
  |.lim=>rC F G l 3
  |.fs _=>(match G t with
   |.ok s=>.ok s
   |.err e=>rC F G l e)
theorem Ad {f:Flow}{V L:Nat}{en:Int->Bool}{left:List Int}{F:Int->yU}{G:Int->rz} (hF:∀t∈left,wZ V L (eH f V en left t) (F t)) (hG:∀t∈left,∀l,F t=.fs l->GOk f left (G t)) :
  ∀(l dn:List Int) (w:Int),left=dn++l->(w=3\/w=12/\∀t∈dn,∀y:Nat->Rat,(∀c,0<=y c)->¬sats y (2*(L*(V+1))) (eH f V en left t))->NOk f V L en left (rC F G l w)
 |[],dn,w,he,hw=>by
  rw[List.append_nil]at he;subst he;exact hw
 |t::l,dn,w,he,hw=>by
  have hm:t∈left:=by rw[he];simp
  have he2:left=(dn++[t])++l:=by rw[he];simp
  have h1:=hF t hm;unfold rC;cases hft:F t with
  |none =>
   rw[hft]at h1;refine Ad hF hG l (dn++[t]) w he2 ?_;rcases hw with hw|⟨hw,hall⟩
   ·exact .inl hw
   ·exact .inr ⟨hw,fun x hx=>by
     rcases List.mem_append.1 hx with hx|hx
     ·exact hall x hx
     ·rw[List.mem_singleton.1 hx];exact h1⟩
  |lim=>exact Ad hF hG l (dn++[t]) 3 he2 (.inl rfl)
  |fs q =>
   have h2:=hG t hm q hft;simp only;cases hgt:G t with
   |ok s=>rw[hgt]at h2;exact h2
   |err e =>
    rw[hgt]at h2;exact Ad hF hG l (dn++[t]) e he2 (.inl h2)
theorem acJ {f:Flow} (lnn:Bool) {left:List Int} (hll:left.length<=32) {F:Int->yU}{U:Int->rz} (hF:∀t∈left,aB Tryz.prog 198 [f.tr,.sl lnn (ints left),i64 t] (F t).tr)
  (hSt:∀t∈left,∀l,F t=.fs l->aB Tryz.prog 199 [f.tr,.sl lnn (ints left),.sl true (l.map Row.tr),i64 t] (U t).tr) (hG3:∀t∈left,∀l,F t=.fs l->∀e,U t=.err e->e=3) :
  aB Tryz.prog 122 [f.tr,.sl lnn (ints left)] (rC F U left 12).tr:=by
 generalize hQ:rC F U left 12=Q;refine au orders Tryz.func122 rfl (by kernel_rfl) (fun d=>d==4||d==12) (by kernel_rfl) rfl (fun hs=>?_);clear hs
 repeat' (first|refine sX ?_ ?_<;>intro h|simp only[go_sem, *])
 refine aC left (fun k s'=>∃w:Int,s'.sl 6=.t (i64 w)/\hget s'.hp (4,0)=some (stO (.t (.sl false [])) (.t (.sl false [])) (.t (.sl false [])) (.t (.sl false [])))/\rC F U (left.drop k) w=Q) rfl rfl (by first|assumption|omega) (by kernel_rfl) (fun _ _ _ _ hj=>hj) (fun _ _ _ hj=>hj) ?_ (fun k x s' hx hd hk hJ hix hfr G hG=>?_) (fun s' hJ hfr=>?_)
 ·exact ⟨12,rfl,rfl,hQ⟩
 ·have c1:=hfr 1 (by kernel_rfl)
  have c2:=hfr 2 (by kernel_rfl);have c4:=hfr 4 (by kernel_rfl);have c13:=hfr 13 (by kernel_rfl);have c14:=hfr 14 (by kernel_rfl);clear hfr;simp only[go_sem]at c1 c2 c4 c13 c14;obtain ⟨w,c6,g4,hJ⟩:=hJ;have hxm:=List.mem_of_getElem? hx;have hFx:=hF x hxm;have hGx:=hSt x hxm;have Xt:=hG3 x hxm;change s'.sl 4=.ad (4,0) 1 0 at c4;rw[hd]at hJ;unfold rC at hJ;clear hF hSt hG3 hd hQ hll;cases hfx:F x with
  |none =>
   rw[hfx]at hFx hJ;unfold yU.tr at hFx;simp only at hFx hJ;clear hfx hGx Xt
   repeat' (first|refine sX ?_ ?_<;>intro h|refine aj (hFx) rfl ?_|simp only[go_sem, *])
   exact hG _ ⟨w,c6,g4,hJ⟩
  |lim =>
   rw[hfx]at hFx hJ;unfold yU.tr at hFx;simp only at hFx hJ;clear hfx hGx Xt
   repeat' (first|refine sX ?_ ?_<;>intro h|refine aj (hFx) rfl ?_|simp only[go_sem, *])
   exact hG _ ⟨3,rfl,g4,hJ⟩
  |fs l =>
   have hGy:=hGx l hfx;have abd:=Xt l hfx;rw[hfx]at hFx hJ;unfold yU.tr at hFx;simp only at hFx hJ;clear hfx hGx Xt;cases hgx:U x with
   |err e =>
    have he:=abd e hgx;subst he;rw[hgx]at hGy hJ;unfold rz.tr at hGy;simp only[QX]at hGy hJ;clear hgx abd;have g4':=fun o=>aA g4 (s:=12) o
    repeat' (first|refine sX ?_ ?_<;>intro h|refine aj (hFx) rfl ?_|refine aj (hGy) rfl ?_|simp only[go_sem, *])
    exact hG _ ⟨3,rfl,aA g4 _,hJ⟩
   |ok st =>
    rw[hgx]at hGy hJ;unfold rz.tr at hGy;simp only at hGy hJ;clear hgx abd;subst hJ;unfold stO at g4
    repeat' (first|refine sX ?_ ?_<;>intro h|refine aj (hFx) rfl ?_|refine aj (hGy) rfl ?_|simp only[go_sem, *])
    rfl
 ·have c4:=hfr 4 (by kernel_rfl)
  clear hfr;simp only[go_sem]at c4;obtain ⟨w,c6,g4,hJ⟩:=hJ;change s'.sl 4=.ad (4,0) 1 0 at c4;rw[List.drop_length]at hJ;unfold rC at hJ;subst hJ;unfold stO at g4;clear hF hSt hG3 hQ
  repeat' (first|refine sX ?_ ?_<;>intro h|simp only[go_sem, *])
  rfl
noncomputable def xk (f:Flow) (N:List Int->rz):Nat->List bq->List Int->O7
 |0,_,_=>.err 0
 |n+1,l,left=>if left=[] then .ok ⟨!l.isEmpty,l⟩ else match N left with
  |.err e=>.err e
  |.ok s=>xk f N n (l++[s]) (cyc f (without left s.strict))
theorem M8 {f:Flow} (hf:aY f=0) {V L:Nat} (hV:f.vars=(V:Nat)) (hL:f.dD=(L:Nat)) {N:List Int->rz} (hN:∀(l:List bq) (left:List Int),oG f l left->left≠[]->∃en,NOk f V L en left (N left)) :
  ∀(n:Nat) (l:List bq) (left:List Int),oG f l left->left.length < n->Km f (xk f N n l left)
 |0,_,_,_,h=>by omega
 |n+1,l,left,h,hn=>by
  unfold xk;split
  ·rename_i e
   subst e;exact h.done hf _
  ·rename_i hne
   obtain ⟨en,hk⟩:=hN l left h hne;cases hnl:N left with
   |err e =>
    rw[hnl]at hk;exact Ud hf hV hL h hne hk
   |ok s =>
    rw[hnl]at hk;obtain ⟨h1,h2⟩:=h.next hk;exact M8 hf hV hL hN n _ _ h1 (by omega)
abbrev ahR:TypeId:=80
def rkO (v:PV):Obj:=⟨[v],1,1,ahR,true,true⟩
theorem Rf (s:bq):dh true 4 s.tr:=⟨fun _=>rfl,(fun h=>nomatch h),rfl⟩
theorem acK {f:Flow} (hf:jk f) (hfe:aY f=0) {N:List Int->rz} (hN:∀(l:List bq) (left:List Int),oG f l left->left≠[]->aB Tryz.prog 122 [f.tr,nA left] (N left).tr/\(∀s,N left=.ok s->vZ f left s)/\∀e,N left=.err e->e=3\/e=12) :
  aB Tryz.prog 53 [f.tr] (xk f N 33 [] (cyc f (allT f))).tr:=by
 have hlen:=hf.len;have h1:=uI f;rw[hfe]at h1;have h2:=LU f (by omega);have h3:=CK f hf true (allT f) (uV f) (by rw[lK];omega);have hl0:(cyc f (allT f)).length < 33:=by have:=oM f (allT f);rw[lK]at this;omega
 have hI0:=oG.start f;generalize hQ:xk f N 33 [] (cyc f (allT f))=Q;generalize cyc f (allT f)=abe at *;refine au orders Tryz.func53 rfl (by kernel_rfl) (fun d=>d==2||d==5||d==7||d==32||d==37||d==40||d==33||d==36) (by kernel_rfl) rfl (fun hs=>?_);clear hs
 repeat' (first|refine sX ?_ ?_<;>intro h|refine aj (h1) rfl ?_|refine aj (h2) rfl ?_|refine aj (h3) rfl ?_|simp only[go_sem, *])
 simp only[bH (s:=2) (s':=5) _ rfl,eU];clear h1 h2 h3;refine jD (fun n u=>∃(l:List bq) (left:List Int) (v:PV) (m:Nat),u.sl 6=.t (nA left)/\hget u.hp (5,0)=some (rkO v)/\Own u.hp 36 Gn 4 true v (!l.isEmpty) (l.map bq.tr)/\hget u.hp (2,0)=some (rkO (.t (.sl false [])))/\oG f l left/\xk f N (m+1) l left=Q/\left.length < m+1/\n=left.length) abe.length ⟨[],abe,_,32,rfl,rfl,Own.nil,rfl,hI0,hQ,hl0,rfl⟩ ?_
 rintro n u ⟨l,left,v,m,c6,g5,ho,g2,hI,hJ,hm,rfl⟩ hfr G hG
 have c1:=hfr 1 (by kernel_rfl);have c2:=hfr 2 (by kernel_rfl);have c5:=hfr 5 (by kernel_rfl);clear hfr;simp only[go_sem]at c1 c2 c5;obtain ⟨r1,r1'⟩:=ho.one;unfold xk at hJ
 by_cases hne:left=[]
 ·rw[if_pos hne]at hJ
  subst hne;subst hJ;have ht:=fun o=>(ho.frame (h':=hset u.hp (2,0) o) rfl).aS 4
  have hd0:decide (((0:Nat):Int) > 0)=false:=rfl;unfold rkO at g5 g2;clear hN hI hG hQ ho
  repeat' (first|refine sX ?_ ?_<;>intro h|simp only[go_sem, *])
  rfl
 ·rw[if_neg hne]at hJ
  obtain ⟨n1,n2,n3⟩:=hN l left hI hne;have hd0:decide ((left.length:Int) > 0)=true:=by
   have:left.length≠0:=fun e=>hne (List.eq_nil_of_length_eq_zero e)
   exact decide_eq_true (by omega)
  cases hnl:N left with
  |err e =>
   rw[hnl]at n1 hJ;have he:=n3 e hnl;have hee:(e != 0)=true:=by rcases he with e|e<;>rw[e]<;>rfl
   unfold rz.tr at n1;simp only[QX]at n1 hJ;subst hJ;unfold rkO at g5 g2;clear hN hI hG hQ ho n2 n3 he hnl
   repeat' (first|refine sX ?_ ?_<;>intro h|refine aj (n1) rfl ?_|simp only[go_sem, *])
   rfl
  |ok s =>
   have hs:=n2 s hnl;rw[hnl]at n1 hJ;unfold rz.tr at n1;simp only at n1 hJ;obtain ⟨hI2,hlt⟩:=hI.next hs;have aed:InF f left:=fun i hi=>by
    have:=Hf.1 (hI.sub.subset hi);exact this
   have hll:left.length<=32:=by have:=hI.len;omega
   have w1:=LV (!left.isEmpty) left s.snn s.strict (by omega);have w2:=CK f hf (!(without left s.strict).isEmpty) (without left s.strict) (nY aed) (by have:=nZ left s.strict;omega);have hlb:l.length<=32:=by have:=hI.len;omega
   unfold rkO at g5;clear hN hQ n2 n3 hnl hI aed hne hs;have g5':=fun o=>aA g5 (s:=7) o
   repeat' (first|refine sX ?_ ?_<;>intro h|refine aj (n1) rfl ?_|simp only[go_sem, *])
   have k7:=aJ (h:=u.hp) 7 ⟨[.t (.sl s.fnn (s.funcs.map Row.tr)),.t (.sl s.snn (ints s.strict)),.t (.sl s.bnn (s.bounds.map Cert.tr)),.t (.sl s.dnn (s.drops.map Cert.tr))],4,1,Gn,true,true⟩;have g5a:=g5' ⟨[.t (.sl s.fnn (s.funcs.map Row.tr)),.t (.sl s.snn (ints s.strict)),.t (.sl s.bnn (s.bounds.map Cert.tr)),.t (.sl s.dnn (s.drops.map Cert.tr))],4,1,Gn,true,true⟩;have g2a:=aA g2 (s:=7) ⟨[.t (.sl s.fnn (s.funcs.map Row.tr)),.t (.sl s.snn (ints s.strict)),.t (.sl s.bnn (s.bounds.map Cert.tr)),.t (.sl s.dnn (s.drops.map Cert.tr))],4,1,Gn,true,true⟩;refine cB (ho.frame (h':=hnew u.hp 7 ⟨[.t (.sl s.fnn (s.funcs.map Row.tr)),.t (.sl s.snn (ints s.strict)),.t (.sl s.bnn (s.bounds.map Cert.tr)),.t (.sl s.dnn (s.drops.map Cert.tr))],4,1,Gn,true,true⟩) rfl) rfl (by kernel_rfl) (by kernel_rfl) (by kernel_rfl) (by kernel_rfl) rfl (by kernel_rfl) (fun x hx=>by rw[List.mem_singleton.1 hx];exact Rf s) (by rw[List.length_map,List.length_singleton];omega) (fun w1' hB p1 f1=>?_);have g5b:=(aX (f1 5 rfl) (id:=(5,0))).trans g5a;have g2b:=(aX (f1 2 rfl) (id:=(2,0))).trans g2a;obtain ⟨p7,h7⟩:∃p,hnext u.hp 7=(7,p):=⟨_,rfl⟩
   rw[h7]at k7 ⊢;have k7b:=(aX (f1 7 rfl) (id:=(7,p7))).trans k7;have g5c:=fun o=>aM g5b o
   have k7c:=fun o=>aD k7b (id:=(5,0)) (.inl (by simp)) o
   obtain ⟨q1,q1'⟩:=p1.one;clear g5' g5a g2a k7 g5 g2 ho h7
   repeat' (first|refine sX ?_ ?_<;>intro h|refine aj (w1) rfl ?_|refine aj (w2) rfl ?_|simp only[go_sem, *])
   have Q1:Own hB 36 Gn 4 true w1' (!(l++[s]).isEmpty) ((l++[s]).map bq.tr):=Own.snoc (f:=bq.tr) (nn:=!l.isEmpty) p1;obtain ⟨m',rfl⟩:∃m',m=m'+1:=⟨m-1,by omega⟩
   exact hG _ _ hlt ⟨l++[s],cyc f (without left s.strict),w1',m',rfl,g5c _,Q1.frame rfl,aD g2b (id:=(5,0)) (.inl (by simp)) _,hI2,hJ,by omega,rfl⟩
theorem acL (f:Flow) (hw:QY f):∃out,Km f out/\aB Tryz.prog 53 [f.tr] out.tr:=by
 by_cases hfe:aY f=0
 ·have hf:=D6 hfe
  obtain ⟨V,hV⟩:∃V:Nat,f.vars=V:=⟨f.vars.toNat,by have:=hf.KU;omega⟩
  obtain ⟨L,hL⟩:∃L:Nat,f.dD=L:=⟨f.dD.toNat,by have:=hf.wG;have:=hf.wH;omega⟩
  have hV8:V<=8:=by have:=hf.qB;omega
  have hen:∀i:Int,∃e,(0<=i/\i < f.trans.length)->(e=false->kW V (aK f i).guard)/\aB Tryz.prog 241 [(aK f i).tr] (.bool e):=fun i=>by
   by_cases hi:0<=i/\i < f.trans.length
   ·obtain ⟨e,a,b⟩:=Ui (VX hf hV hL hi.1 hi.2) hV8
    exact ⟨e,fun _=>⟨a,b⟩⟩
   ·exact ⟨true,fun h=>absurd h hi⟩
  obtain ⟨en,hen⟩:=Classical.axiomOfChoice hen;have hN:∀left,∃g:rz,∀l,oG f l left->left≠[]->NOk f V L en left g/\aB Tryz.prog 122 [f.tr,nA left] g.tr:=fun left=>by
   by_cases hl:∃l,oG f l left
   ·obtain ⟨l,hI⟩:=hl
    have hin:InF f left:=fun i hi=>Hf.1 (hI.sub.subset hi)
    have hll:left.length<=32:=by have:=hI.len;have:=hf.len;omega
    have hg:∀i∈left,uh L V (aK f i):=fun i hi=>VX hf hV hL (hin i hi).1 (hin i hi).2
    have hlist:bO f.trans.length (-1) left=true:=w9 hI.sub (QW f);have hEn:adW f V en left:=fun i hi he=>(hen i (hin i hi)).1 he
    have hFu:∀t:Int,∃o:yU,t∈left->wZ V L (eH f V en left t) o/\aB Tryz.prog 198 [f.tr,.sl (!left.isEmpty) (ints left),i64 t] o.tr:=fun t=>by
     by_cases ht:t∈left
     ·obtain ⟨o,a,b⟩:=aa9 hf hV hL (!left.isEmpty) hin hll (en:=en) (fun i hi=>(hen i (hin i hi)).2) hg ht
      exact ⟨o,fun _=>⟨a,b⟩⟩
     ·exact ⟨.lim,fun h=>absurd h ht⟩
    obtain ⟨F,hF⟩:=Classical.axiomOfChoice hFu;have hSg:∀t:Int,∃o:rz,t∈left->∀q,F t=.fs q->GOk f left o/\aB Tryz.prog 199 [f.tr,.sl (!left.isEmpty) (ints left),.sl true (q.map Row.tr),i64 t] o.tr:=fun t=>by
     by_cases ht:t∈left
     ·cases hft:F t with
      |none=>exact ⟨.err 3,fun _ q h=>nomatch h⟩
      |lim=>exact ⟨.err 3,fun _ q h=>nomatch h⟩
      |fs q =>
       have hok:=(hF t ht).1;rw[hft]at hok;obtain ⟨y,hy,hs,hfo⟩:=hok;obtain ⟨s1,s2,_⟩:=Jo hfo;have hfs:Ue f q:=⟨by rw[s1,hL],fun r hr=>⟨by
        obtain ⟨a,b,c⟩:=s2 r hr;simp only[bC,hV,a,bne_self_eq_false,Bool.not_false,Bool.true_and,b,List.all_eq_true];exact c,by
        unfold nR at hfo;split at hfo
        ·injection hfo with hfo
         subst hfo;simp only[kV,List.mem_map]at hr;obtain ⟨_,_,rfl⟩:=hr;rfl
        ·cases hfo⟩⟩
       have hsd:=Yw hy ht hg hs hEn hfo;have hT:∀i:Int,∃o:vX,∀(j:Nat) y,i=j->f.trans[j]?=some y->TOk f q i o/\aB Tryz.prog 245 [y.tr,.sl true (q.map Row.tr)] o.tr:=fun i=>by
        by_cases hi:0<=i/\i < f.trans.length
        ·obtain ⟨o,a,b⟩:=YA hf hw hfs (zK hi.1 hi.2)
         refine ⟨o,fun j y e hy=>?_⟩;subst e;rw[Int.toNat_natCast]at a;rw[fu hy]at b;exact ⟨a,b⟩
        ·exact ⟨.err fP fP,fun j y e hy=>by
          have:=(List.getElem?_eq_some_iff.1 hy).1;exact absurd ⟨by omega,by omega⟩ hi⟩
       have hC:∀i:Int,∃o:mH,∀(j:Nat) y,i=j->f.trans[j]?=some y->COk (f.vars+aG (aK f i).next) (gw f i) (dO f q i 0) o/\∃G D,aB Tryz.prog 237 [y.tr] G/\aB Tryz.prog 234 [y.tr,.sl true (q.map Row.tr),i64 0] D/\aB Tryz.prog 246 [G,D] o.tr:=fun i=>by
        by_cases hi:0<=i/\i < f.trans.length
        ·obtain ⟨G,D,o,a,b,c,d⟩:=aaX hf hw hfs (zK hi.1 hi.2) 0 (by decide)
         refine ⟨o,fun j y e hy=>?_⟩;subst e;rw[Int.toNat_natCast]at d;rw[fu hy]at a b d ⊢;exact ⟨d,G,D,a,b,c⟩
        ·exact ⟨.lim,fun j y e hy=>by
          have:=(List.getElem?_eq_some_iff.1 hy).1;exact absurd ⟨by omega,by omega⟩ hi⟩
       obtain ⟨T,hT⟩:=Classical.axiomOfChoice hT;obtain ⟨C,hC⟩:=Classical.axiomOfChoice hC;refine ⟨kC q T C t left [] [] [],fun _ q' hq'=>?_⟩;injection hq' with hq'
       subst hq';refine ⟨Cg hfs hsd ht hlist (fun i hi=>?_) (fun i hi=>?_) left [] [] [] [] rfl (o8.nil f q) (fun h=>by simp at h),abb _ hin hll (fun j y hy=>(hT j j y rfl hy).2) (fun j y hy=>(hC j j y rfl hy).2) t⟩
       ·obtain ⟨j,y,e,hy⟩:=hin.get hi
        exact (hT i j y e hy).1
       ·obtain ⟨j,y,e,hy⟩:=hin.get hi
        exact (hC i j y e hy).1
     ·exact ⟨.err 3,fun h=>absurd h ht⟩
    obtain ⟨U,hU⟩:=Classical.axiomOfChoice hSg;refine ⟨rC F U left 12,fun _ _ _=>⟨Ad (fun t ht=>(hF t ht).1) (fun t ht q hq=>(hU t ht q hq).1) left [] 12 rfl (.inr ⟨rfl,fun t h=>by simp at h⟩),?_⟩⟩;refine acJ _ hll (fun t ht=>(hF t ht).2) (fun t ht q hq=>(hU t ht q hq).2) fun t ht q hq e he=>?_
    have:=(hU t ht q hq).1;rw[he]at this;exact this
   ·exact ⟨.err 3,fun l h=>absurd ⟨l,h⟩ hl⟩
  obtain ⟨N,hN⟩:=Classical.axiomOfChoice hN;refine ⟨xk f N 33 [] (cyc f (allT f)),M8 hfe hV hL (fun l left hI hne=>⟨en,(hN left l hI hne).1⟩) 33 [] _ (oG.start f) ?_,acK hf hfe fun l left hI hne=>?_⟩
  ·have:=oM f (allT f);rw[lK]at this;have:=hf.len;omega
  ·obtain ⟨a,b⟩:=hN left l hI hne
   refine ⟨b,fun s hs=>?_,fun e he=>?_⟩
   ·rw[hs]at a;exact a
   ·rw[he]at a
    rcases a with a|⟨a,_⟩
    ·exact .inl a
    ·exact .inr a
 ·refine ⟨.err (aY f),?_,?_⟩
  ·show if aY f≠0 then aY f=aY f else _
   rw[if_pos hfe]
  ·have h1:=uI f
   have hne:(aY f != 0)=true:=by simpa using hfe
   generalize aY f=e at *;clear hfe;refine au orders Tryz.func53 rfl (by kernel_rfl) (fun d=>d==2||d==5||d==7||d==32||d==37||d==40||d==33||d==36) (by kernel_rfl) rfl (fun hs=>?_);clear hs
   repeat' (first|refine sX ?_ ?_<;>intro h|refine aj (h1) rfl ?_|simp only[go_sem, *])
   rfl
end ama
end Go.Vm
end
section
namespace Go.Vm
open Go Go.Proofs
namespace ama
open Go.Proofs.Tryz
theorem wf_map {α:Type} (f:α->Tr):∀(l:List α),wfL (l.map f)=true->∀x∈l,(f x).wf=true
 |[],_,x,hx=>by simp at hx
 |y::l,h,x,hx=>by
  simp only[List.map_cons,wfL,Bool.and_eq_true]at h;rcases List.mem_cons.1 hx with rfl|hx
  ·exact h.1
  ·exact wf_map f l h.2 x hx
theorem acM {r:Row} (h:r.tr.wf=true):tJ r:=fun hn=>by
 simp[Row.tr,Tr.wf,wfL,hn]at h;exact h.1
theorem NG {r:bY} (hw:r.tr.wf=true):∀s∈r.stages,∀row∈s.funcs,tJ row:=fun s hs row hrow=>by
 have h1:wfL (r.stages.map bq.tr)=true:=by
  simp only[bY.tr,Tr.wf,wfL,Bool.and_eq_true]at hw
  first|exact hw.1.2|exact hw.1.1|exact hw.2.1|exact hw
 have h2:=wf_map bq.tr _ h1 s hs;have h3:wfL (s.funcs.map Row.tr)=true:=by
  simp only[bq.tr,Tr.wf,wfL,Bool.and_eq_true]at h2
  first|exact h2.1.2|exact h2.1.1|exact h2.2.1
 exact acM (wf_map Row.tr _ h3 row hrow)
theorem abf:Tt cd rk ⟨0,true,[5]⟩=0:=by
 have h2:gM cd ⟨0,true,[5]⟩=0:=by decide +kernel
 have h1:xH cd rk ⟨0,true,[5]⟩=0:=by
  unfold xH;rw[Me,h2];rfl
 unfold Tt;rw[h1];rfl
theorem abg:aar rk ⟨0,true,[5]⟩=6:=by decide +kernel
theorem V9:aB Tryz.prog 47 [] (.bool true):=by
 obtain ⟨out,ho,hd⟩:=acL cd (fun t ht h=>by
  simp only[cd,List.mem_singleton]at ht;subst ht;cases h)
 have h1:=Md;have h2:=VD;have hrk:∀s∈rk.stages,jF s/\∀row∈s.funcs,tJ row:=by
  intro s hs;simp only[rk,List.mem_singleton]at hs;subst hs;refine ⟨⟨fun c hc=>?_,fun c hc=>?_⟩,fun row hrow h=>?_⟩
  ·simp only[List.mem_singleton]at hc;subst hc
   exact ⟨by decide,fun m hm=>by simp at hm;omega,fun h=>nomatch h⟩
  ·simp only[List.mem_singleton]at hc;subst hc
   exact ⟨by decide,fun m hm=>by simp at hm;omega,fun h=>nomatch h⟩
  ·simp only[List.mem_singleton]at hrow;subst hrow;cases h
 have h3:=Ya cd rk ⟨0,true,[5]⟩ hrk;rw[abf,abg]at h3;have h4:=zM cd rk hrk;rw[Me]at h4;cases out with
 |err e =>
  have he:e=3:=by
   have ho:if aY cd≠0 then e=aY cd else e=3\/e=12/\∀r:bY,eX cd r≠0:=ho
   rw[if_neg (by rw[show aY cd=0 by decide +kernel];decide)]at ho;rcases ho with ho|⟨_,ho⟩
   ·exact ho
   ·exact absurd Me (ho rk)
  subst he;unfold O7.tr at hd;simp only at hd;clear ho;generalize cd=f at *;generalize rk=r at *;refine au orders Tryz.func47 rfl (by kernel_rfl) (fun d=>d==3) (by kernel_rfl) rfl (fun hs=>?_);clear hs
  repeat' (first|refine sX ?_ ?_<;>intro h|refine aj (h1) rfl ?_|refine aj (h2) rfl ?_|refine aj (h3) rfl ?_|refine aj (hd) rfl ?_|refine aj (h4) rfl ?_|simp only[go_sem, *])
 |ok q =>
  obtain ⟨_,o2,o3⟩:=ho;have h5:=JZ cd q true o3;have e5:wS cd q true=0:=o2;rw[e5]at h5;unfold O7.tr at hd;simp only at hd;clear o2 o3 e5;generalize cd=f at *;generalize rk=r at *;refine au orders Tryz.func47 rfl (by kernel_rfl) (fun d=>d==3) (by kernel_rfl) rfl (fun hs=>?_);clear hs
  repeat' (first|refine sX ?_ ?_<;>intro h|refine aj (h1) rfl ?_|refine aj (h2) rfl ?_|refine aj (h3) rfl ?_|refine aj (hd) rfl ?_|refine aj (h4) rfl ?_|refine aj (h5) rfl ?_|simp only[go_sem, *])
theorem wf1 {x:Tr}{l:List Tr} (h:wfL (x::l)=true):x.wf=true/\wfL l=true:=by
 simp only[wfL,Bool.and_eq_true]at h;exact h
theorem JK:∀(cs vs:List Int),(∀c∈cs,c.natAbs<=1048576)->(∀v∈vs,v.natAbs<=274877906944)->(jw cs vs).natAbs<=cs.length*288230376151711744
 |[],vs,_,_=>by rw[vI];simp
 |c::cs,[],_,_=>by rw[He];simp
 |c::cs,v::vs,h1,h2=>by
  have h3:=En (h1 c (by simp)) (h2 v (by simp));have h4:=JK cs vs (fun x hx=>h1 x (by simp[hx])) (fun x hx=>h2 x (by simp[hx]));simp only[jw,List.length_cons];omega
theorem YD {f:Flow}{r:bY}{s:State}{picks draws:List Int} (hrk:eX f r=0) (hf:(kT f s picks draws).2.2=0) {i:Nat}{x:bq} (hx:r.stages[i]?=some x) {k:Nat}{t:Int} (hk:(kT f s picks draws).2.1[k]?=some t) :
  ∃(a b:State) (la lb:Nat) (ra rb:Row),(kT f s picks draws).1[k]?=some a/\(kT f s picks draws).1[k+1]?=some b/\a.loc=la/\b.loc=lb/\x.funcs[la]?=some ra/\x.funcs[lb]?=some rb/\ra.av.length=a.vals.length/\rb.av.length=b.vals.length /\
   (iG ra a.vals).natAbs<=4611686018427387904/\(hasB (remaining f (r.stages.take i)) t=true->iG rb b.vals<=iG ra a.vals)/\(hasB x.strict t=true->0<=iG ra a.vals/\iG rb b.vals<=iG ra a.vals-1):=by
 have hR:=CQ hrk;obtain ⟨hF,hP⟩:=hR.stage hx;obtain ⟨hg,hE,_⟩:=FV hf;obtain ⟨a,b,ha,hb,hst⟩:=hE.2.2 k t hk;have ga:=hE.2.1 a (List.mem_of_getElem? ha);have gb:=hE.2.1 b (List.mem_of_getElem? hb);have hl:=hF.dD;have a1:=ga.KV;have a2:=ga.KW;have b1:=gb.KV;have b2:=gb.KW;obtain ⟨ra,hra,_⟩:=aF x.funcs a.loc.toNat (by omega);obtain ⟨rb,hrb,_⟩:=aF x.funcs b.loc.toNat (by omega);have abh:=hF.right _ (List.mem_of_getElem? hra);have aee:=hF.right _ (List.mem_of_getElem? hrb);have la:=iU abh;have lb:=iU aee;have va:=ga.vals;have vb:=gb.vals;have ea:=uL abh hg.flow.qB ga.word;have eb:=uL aee hg.flow.qB gb.word;have sa:lJ x a=nM ra a.vals:=by
  unfold lJ;rw[show rowAt x.funcs a.loc=ra by unfold rowAt;rw[List.getD_eq_getElem?_getD,hra];rfl]
 have sb:lJ x b=nM rb b.vals:=by
  unfold lJ;rw[show rowAt x.funcs b.loc=rb by unfold rowAt;rw[List.getD_eq_getElem?_getD,hrb];rfl]
 refine ⟨a,b,a.loc.toNat,b.loc.toNat,ra,rb,ha,hb,by omega,by omega,hra,hrb,by omega,by omega,?_,fun ht=>?_,fun ht=>?_⟩
 ·obtain ⟨_,c2,c3⟩:=tF abh
  have c4:=JK ra.av a.vals c3 (fun v hv=>LG (ga.word v hv));have c5:=hg.flow.qB;rw[ea];unfold nM;omega
 ·rw[ea,eb,<- sa,<- sb]
  exact (I7 hF hP hst (kI.1 ht)).1
 ·rw[ea,eb,<- sa,<- sb]
  have hm:=kI.1 ht;exact (I7 hF hP hst (hF.sub _ hm)).2 hm
theorem JL {f:Flow}{c:Nat->State->Int × Bool}:∀(n i:Nat) (s:State) (draws:List Int) (S:List State) (T:List Int),(kR f c n i s draws S T).2.1.length<=T.length+n
 |0,_,_,_,_,_=>Nat.zero_le _
 |n+1,i,s,draws,S,T=>by
  unfold kR;split
  ·split
   ·exact Nat.zero_le _
   ·have:=JL (f:=f) (c:=c) n (i+1) (jQ f s (c i s).1 draws).1 (draws.drop (jQ f s (c i s).1 draws).2.1) (S++[(jQ f s (c i s).1 draws).1]) (T++[(c i s).1])
    rw[List.length_append,List.length_singleton]at this;omega
  ·exact Nat.le_add_right _ _
theorem Uk (f:Flow) (s:State) (picks draws:List Int):(kT f s picks draws).2.1.length<=4097:=by
 unfold kT;split
 ·exact Nat.zero_le _
 ·split
  ·exact Nat.zero_le _
  ·rename_i h1 h2
   have:=JL (c:=oL f picks) (f:=f) (picks.length+1) 0 s draws [s] [];simp only[decide_eq_true_eq]at h2;simp only[List.length_nil]at this;omega
theorem Ie (f:Flow) (r:bY) (s:State) (hr:∀s∈r.stages,jF s/\∀row∈s.funcs,tJ row) (pnn dnn:Bool) (picks draws:List Int):aB Tryz.prog 15 [f.tr,r.tr,s.tr,.sl pnn (ints picks),.sl dnn (ints draws)] (.bool true):=by
 have h1:=zM f r hr;have h4:=V9;have h5:=X0 f s pnn dnn picks draws;clear hr
 by_cases he:eX f r=0
 ·have hst:=(CQ he).stages
  have hgf:=(CQ he).flow;have hds:=fun hf i x hx k t hk=>YD (f:=f) (r:=r) (s:=s) (picks:=picks) (draws:=draws) he hf (i:=i) (x:=x) hx (k:=k) (t:=t) hk
  have hlen:=fun hf=>(FV (f:=f) (s:=s) (picks:=picks) (draws:=draws) hf).2.1.1
  have hql:=Uk f s picks draws;rw[he]at h1;clear he
  by_cases hp:(picks.length:Int) > 100
  ·have hp2:decide ((picks.length:Int) > 100)=true:=decide_eq_true hp
   clear hds hp h5 hlen;refine au orders Tryz.func15 rfl (by kernel_rfl) (fun d=>d==15||d==62||d==77||d==103) (by kernel_rfl) rfl (fun hs=>?_);clear hs
   repeat' (first|refine sX ?_ ?_<;>intro h|refine aj (h1) rfl ?_|refine aj (h4) rfl ?_|simp only[go_sem, *])
  ·have hp2:decide ((picks.length:Int) > 100)=false:=decide_eq_false hp
   generalize kT f s picks draws=q at *;unfold kS at h5
   by_cases hq:q.2.2=0
   ·have hD:=hds hq
    have hl:=hlen hq;rw[hq]at h5;clear hds hq hp hlen;refine au orders Tryz.func15 rfl (by kernel_rfl) (fun d=>d==15||d==62||d==77||d==103) (by kernel_rfl) rfl (fun hs=>?_);clear hs
    repeat' (first|refine sX ?_ ?_<;>intro h|refine aj (h1) rfl ?_|refine aj (h4) rfl ?_|refine aj (h5) rfl ?_|simp only[go_sem, *])
    refine aC r.stages (fun k s'=>True) rfl rfl (by first|assumption|omega) (by kernel_rfl) (fun _ _ _ _ hj=>hj) (fun _ _ _ hj=>hj) ?_ (fun k x s' hx hd hk hJ hix hfr G hG=>?_) (fun s' hJ hfr=>?_)
    ·trivial
    ·have c5:=hfr 5 (by kernel_rfl)
     have c6:=hfr 6 (by kernel_rfl);have c11:=hfr 11 (by kernel_rfl);have c12:=hfr 12 (by kernel_rfl);have c44:=hfr 44 (by kernel_rfl);have c45:=hfr 45 (by kernel_rfl);clear hfr;simp only[go_sem]at c5 c6 c11 c12 c44 c45;have hrm:=tY f hgf r k (by omega);have hd2:=fun j t hj=>hD k x hx j t hj
     clear hd hD h1 h5 hJ hst;generalize remaining f (r.stages.take k)=rem at *
     repeat' (first|refine sX ?_ ?_<;>intro h|refine aj (hrm) rfl ?_|simp only[go_sem, *])
     obtain ⟨HH,hHH⟩:∃H,hnew s'.hp 15 ⟨[.t (.sl x.fnn (x.funcs.map Row.tr)),.t (.sl x.snn (ints x.strict)),.t (.sl x.bnn (x.bounds.map Cert.tr)),.t (.sl x.dnn (x.drops.map Cert.tr))],4,1,Gn,true,true⟩=H:=⟨_,rfl⟩
     have g15:=aJ (h:=s'.hp) 15 ⟨[.t (.sl x.fnn (x.funcs.map Row.tr)),.t (.sl x.snn (ints x.strict)),.t (.sl x.bnn (x.bounds.map Cert.tr)),.t (.sl x.dnn (x.drops.map Cert.tr))],4,1,Gn,true,true⟩;rw[hHH]at g15;refine aC (q.2.1) (fun k s'=>s'.hp=HH) rfl rfl (by first|assumption|omega) (by kernel_rfl) (fun _ _ _ _ hj=>hj) (fun _ _ _ hj=>hj) ?_ (fun j y u hy hyd hj hJ hjx hfr H hH=>?_) (fun u hJ hfr=>?_)
     ·exact hHH
     ·have e11:=hfr 11 (by kernel_rfl)
      have e15:=hfr 15 (by kernel_rfl);have e16:=hfr 16 (by kernel_rfl);have e55:=hfr 55 (by kernel_rfl);have e56:=hfr 56 (by kernel_rfl);clear hfr;simp only[go_sem,c11]at e11 e15 e16 e55 e56;obtain ⟨a,b,la,lb,ra,rb,k1,k2,k3,k4,k5,k6,k7,k8,k9,kA,kB⟩:=hd2 j y hy;obtain ⟨al8,avn,Wd⟩:=a;obtain ⟨al9,bvn,Wh⟩:=b;simp only at k3 k4 k7 k8 k9 kA kB;subst k3;subst k4;have m1:(states q.1)[j]?=some (State.tr ⟨(la:Int),avn,Wd⟩):=by unfold states;rw[List.getElem?_map,k1];rfl
      have m2:(states q.1)[j+1]?=some (State.tr ⟨(lb:Int),bvn,Wh⟩):=by unfold states;rw[List.getElem?_map,k2];rfl
      have m3:(x.funcs.map Row.tr)[la]?=some ra.tr:=by rw[List.getElem?_map,k5];rfl
      have m4:(x.funcs.map Row.tr)[lb]?=some rb.tr:=by rw[List.getElem?_map,k6];rfl
      have v1:=KR ra avn Wd (by omega);have v2:=KR rb bvn Wh (by omega);have b1:=GR (!rem.isEmpty) rem y;have b2:=GR x.snn x.strict y;rw[show rem.any (fun z=>y==z)=hasB rem y from rfl]at b1;rw[show x.strict.any (fun z=>y==z)=hasB x.strict y from rfl]at b2;clear hd2 k1 k2 k5 k6 k7 k8 hyd;generalize iG ra Wd=va at *;generalize iG rb Wh=vb at *;have cw:IntKind.i64.wrap ((j:Int)+1)=((j+1:Nat):Int):=by rw[wrap_i64 (by omega) (by omega)];omega
      have d1:decide (va < 0)=true->hasB x.strict y=false:=fun h=>by
       rw[Bool.eq_false_iff];intro hh;have:=(kB hh).1;simp only[decide_eq_true_eq]at h;omega
      cases hb1:hasB rem y with
      |true =>
       rw[hb1]at b1;have c1:decide (vb > va)=false:=decide_eq_false (by have:=kA hb1;omega);cases hb2:hasB x.strict y with
       |true =>
        rw[hb2]at b2;obtain ⟨z1,z2⟩:=kB hb2;have c2:decide (va < 0)=false:=decide_eq_false (by omega);have c3:IntKind.i64.wrap (va-1)=va-1:=wrap_i64 (by omega) (by omega);have c4:decide (vb > va-1)=false:=decide_eq_false (by omega);clear kA kB z1 z2 d1 k9
        repeat' (first|refine sX ?_ ?_<;>intro h|refine aj (v1) rfl ?_|refine aj (v2) rfl ?_|refine aj (b1) rfl ?_|refine aj (b2) rfl ?_|simp only[go_sem, *])
        all_goals try exact hH _ rfl
       |false =>
        rw[hb2]at b2;clear kA kB d1 k9
        repeat' (first|refine sX ?_ ?_<;>intro h|refine aj (v1) rfl ?_|refine aj (v2) rfl ?_|refine aj (b1) rfl ?_|refine aj (b2) rfl ?_|simp only[go_sem, *])
        all_goals try exact hH _ rfl
      |false =>
       rw[hb1]at b1;cases hb2:hasB x.strict y with
       |true =>
        rw[hb2]at b2;obtain ⟨z1,z2⟩:=kB hb2;have c2:decide (va < 0)=false:=decide_eq_false (by omega);have c3:IntKind.i64.wrap (va-1)=va-1:=wrap_i64 (by omega) (by omega);have c4:decide (vb > va-1)=false:=decide_eq_false (by omega);clear kA kB z1 z2 d1 k9
        repeat' (first|refine sX ?_ ?_<;>intro h|refine aj (v1) rfl ?_|refine aj (v2) rfl ?_|refine aj (b1) rfl ?_|refine aj (b2) rfl ?_|simp only[go_sem, *])
        all_goals try exact hH _ rfl
       |false =>
        rw[hb2]at b2;clear kA kB d1 k9
        repeat' (first|refine sX ?_ ?_<;>intro h|refine aj (v1) rfl ?_|refine aj (v2) rfl ?_|refine aj (b1) rfl ?_|refine aj (b2) rfl ?_|simp only[go_sem, *])
        all_goals try exact hH _ rfl
     ·repeat' (first|refine sX ?_ ?_<;>intro h|simp only[go_sem, *])
      try exact hG _ trivial
    ·repeat' (first|refine sX ?_ ?_<;>intro h|refine aj (h4) rfl ?_|simp only[go_sem, *])
   ·have hq2:(q.2.2 != 0)=true:=by simpa using hq
    generalize q.2.2=e at *;clear hds hp hq hlen;refine au orders Tryz.func15 rfl (by kernel_rfl) (fun d=>d==15||d==62||d==77||d==103) (by kernel_rfl) rfl (fun hs=>?_);clear hs
    repeat' (first|refine sX ?_ ?_<;>intro h|refine aj (h1) rfl ?_|refine aj (h4) rfl ?_|refine aj (h5) rfl ?_|simp only[go_sem, *])
 ·have he2:(eX f r != 0)=true:=by simpa using he
  generalize eX f r=e at *;clear he h5;refine au orders Tryz.func15 rfl (by kernel_rfl) (fun d=>d==15||d==62||d==77||d==103) (by kernel_rfl) rfl (fun hs=>?_);clear hs
  repeat' (first|refine sX ?_ ?_<;>intro h|refine aj (h1) rfl ?_|refine aj (h4) rfl ?_|simp only[go_sem, *])
theorem RankDecreases_w (f:Flow) (r:bY) (s:State) (pnn:Bool) (picks:List Int) (dnn:Bool) (draws:List Int) (hs:∀s∈r.stages,jF s):aB Tryz.prog 15 [f.tr,r.tr,s.tr,.sl pnn (ints picks),.sl dnn (ints draws)] (.bool true) :=
 yu (enters' _ (by kernel_rfl)) fun hw=>Ie f r s (fun s h=>⟨hs s h,NG (wf1 (wf1 hw).2).1 s h⟩) pnn dnn picks draws
end ama
end Go.Vm
end
section
namespace Go.Proofs.YtihgdplbehempaaGreat.lb
open Go.ChangeShapes Go.WideShapes Go.ChangeAt Go.RowKit
theorem and_t {a b:Bool} (h1:a=true) (h2:b=true):(a&&b)=true:=by rw[h1,h2];rfl
theorem own:ownKnob Tryz.prog.godebug=none:=by kernel_rfl
theorem laidOut:laidOutB Tryz.prog=true:=by kernel_rfl
theorem rowed:mapsRowed Tryz.prog=true:=by kernel_rfl
theorem enters:Tryz.prog.mayEnter=true:=by kernel_rfl
theorem lifts:(Rows.linearSolvesRow.lifted==Tryz.prog.liftsFinal)=true:=by kernel_rfl
theorem made:(Tryz.prog.make==some Rows.linearSolvesRow.make)=true:=by kernel_rfl
theorem keys:(Rows.linearSolvesRow.plainKeys==Tryz.prog.plainKeys)=true:=by kernel_rfl
theorem heard:Tryz.prog.stopsHeard=true:=by kernel_rfl
end Go.Proofs.YtihgdplbehempaaGreat.lb
end
