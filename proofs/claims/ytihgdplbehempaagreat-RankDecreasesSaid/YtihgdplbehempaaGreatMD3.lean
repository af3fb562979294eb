import Derived.Test.YtihgdplbehempaaGreatMD2
set_option linter.unusedSimpArgs false
set_option linter.unusedVariables false
set_option maxRecDepth 10000
section
namespace Go.bB
def aN:Nat->(Nat->Rat)->Rat
 |0,_=>0
 |n+1,f=>aN n f+f n
theorem aL {n:Nat}{f g:Nat->Rat} (h:∀i,i < n->f i=g i):aN n f=aN n g:=by
 induction n with
 |zero=>rfl
 |succ n ih=>simp only[aN];rw[ih (fun i hi=>h i (by omega)),h n (by omega)]
theorem gG (n:Nat):aN n (fun _=>0)=0:=by
 induction n with
 |zero=>rfl
 |succ n ih=>simp only[aN];rw[ih];grind
theorem Cw (n:Nat) (f g:Nat->Rat):aN n (fun i=>f i+g i)=aN n f+aN n g:=by
 induction n with
 |zero=>simp only[aN];grind
 |succ n ih=>simp only[aN];rw[ih];grind
theorem GV (n:Nat) (f g:Nat->Rat):aN n (fun i=>f i-g i)=aN n f-aN n g:=by
 induction n with
 |zero=>simp only[aN];grind
 |succ n ih=>simp only[aN];rw[ih];grind
theorem iV (n:Nat) (f:Nat->Rat) (t:Rat):aN n (fun i=>f i*t)=aN n f*t:=by
 induction n with
 |zero=>simp only[aN];grind
 |succ n ih=>simp only[aN];rw[ih];grind
theorem Ea (n m:Nat) (f:Nat->Nat->Rat):aN n (fun i=>aN m (fun j=>f i j))=aN m (fun j=>aN n (fun i=>f i j)):=by
 induction n with
 |zero=>simp only[aN];rw[gG]
 |succ n ih=>simp only[aN];rw[ih,<- Cw]
theorem yB {n p:Nat} (hp:p < n) (x:Rat) (h:Nat->Rat):aN n (fun i=>if i=p then x else h i)=x+aN n h-h p:=by
 induction n with
 |zero=>omega
 |succ n ih =>
  simp only[aN]
  by_cases hpn:p=n
  ·subst hpn
   rw[if_pos rfl,aL (g:=h) (fun i hi=>by rw[if_neg (by omega)])];grind
  ·rw[if_neg (fun e=>hpn e.symm),ih (by omega)];grind
theorem nE {n p:Nat} (hp:p < n) (f:Nat->Rat):aN n (fun i=>f i*(if i=p then 1 else 0))=f p:=by
 have:aN n (fun i=>f i*(if i=p then 1 else 0))=aN n (fun i=>if i=p then f p else 0):=aL fun i _=>by
  by_cases h:i=p
  ·rw[if_pos h,if_pos h,h];grind
  ·rw[if_neg h,if_neg h];grind
 rw[this,yB hp,gG];grind
theorem qH {n:Nat}{f:Nat->Rat} (h:∀i,i < n->0<=f i):0<=aN n f:=by
 induction n with
 |zero=>simp only[aN];grind
 |succ n ih=>simp only[aN];have:=ih (fun i hi=>h i (by omega));have:=h n (by omega);grind
theorem Oc {n:Nat}{f:Nat->Rat} (h:0 < aN n f):∃i,i < n/\0 < f i:=by
 refine Decidable.byContradiction fun hn=>?_
 have h0:∀i,i < n->0<=(fun i=>- f i) i:=fun i hi=>by
  have:¬ 0 < f i:=fun hp=>hn ⟨i,hi,hp⟩
  show 0<=- f i
  grind
 have h1:=qH h0;have h2:aN n (fun i=>- f i)=- aN n f:=by
  have:=iV n f (-1);rw[aL (g:=fun i=>f i*(-1)) (fun i _=>by grind),this];grind
 rw[h2]at h1;grind
theorem AU {n:Nat}{f:Nat->Rat} (h:∀i,i < n->0<=f i) (hs:aN n f=0):∀i,i < n->f i=0:=by
 intro i hi;have h1:=yB hi 0 f;have h2:0<=aN n (fun k=>if k=i then 0 else f k):=qH fun k hk=>by
  by_cases e:k=i
  ·rw[if_pos e];exact Rat.le_refl
  ·rw[if_neg e];exact h k hk
 have h3:=h i hi;rw[h1,hs]at h2;grind
structure S where
 r:Nat->Nat->Rat
 c:Nat->Rat
 b:Nat->Nat
def piv (s:S) (p q:Nat):S where
 r i j:=if i=p then s.r p j*(s.r p q)⁻¹ else s.r i j-s.r i q*(s.r p j*(s.r p q)⁻¹)
 c j:=s.c j-s.c q*(s.r p j*(s.r p q)⁻¹)
 b i:=if i=p then q else s.b i
def c0 (n ak j:Nat):Rat:=if ak<=j/\j < ak+n then 1 else 0
theorem P6 {n ak j:Nat} (h:j < ak):c0 n ak j=0:=if_neg (by omega)
theorem K8 {n ak:Nat}:c0 n ak (ak+n)=0:=if_neg (by omega)
theorem K9 {n ak j:Nat}:0<=c0 n ak j:=by unfold c0;split<;>grind
structure Inv (n ak:Nat) (A:Nat->Nat->Rat) (s:S):Prop where
 comb:∀i,i < n->∀j,j<=ak+n->s.r i j=aN n fun k=>s.r i (ak+k)*A k j
 cost:∀j,j<=ak+n->s.c j=c0 n ak j-aN n fun k=>(1-s.c (ak+k))*A k j
 back:∀k,k < n->∀j,j<=ak+n->A k j=aN n fun i=>A k (s.b i)*s.r i j
 unit:∀i,i < n->∀l,l < n->s.r i (s.b l)=if i=l then 1 else 0
 art:∀j,j<=ak+n->s.c j=c0 n ak j-aN n fun i=>c0 n ak (s.b i)*s.r i j
 nn:∀i,i < n->0<=s.r i (ak+n)
 bl:∀i,i < n->s.b i < ak+n
variable {n ak:Nat}{A:Nat->Nat->Rat}{s s':S}
theorem Inv.cb (h:Inv n ak A s) {l:Nat} (hl:l < n):s.c (s.b l)=0:=by
 rw[h.art _ (Nat.le_of_lt (h.bl l hl)),aL (g:=fun i=>c0 n ak (s.b i)*(if i=l then 1 else 0)) (fun i hi=>by rw[h.unit i hi l hl]),nE hl];grind
theorem Sg {p q:Nat} (hp:p < n) (ha:s.r p q≠0) (w:Nat->Rat) (j:Nat) :
  aN n (fun i=>w ((piv s p q).b i)*(piv s p q).r i j)=aN n (fun i=>w (s.b i)*s.r i j)+(w q-aN n (fun i=>w (s.b i)*s.r i q))*(s.r p j*(s.r p q)⁻¹):=by
 have e:aN n (fun i=>w ((piv s p q).b i)*(piv s p q).r i j)=aN n (fun i=>if i=p then w q*(s.r p j*(s.r p q)⁻¹) else w (s.b i)*s.r i j-w (s.b i)*s.r i q*(s.r p j*(s.r p q)⁻¹)):=aL fun i _=>by
  simp only[piv]
  by_cases h:i=p
  ·rw[if_pos h,if_pos h,if_pos h]
  ·rw[if_neg h,if_neg h,if_neg h];grind
 rw[e,yB hp,GV,iV];have h1:=Rat.mul_inv_cancel _ ha;generalize (s.r p q)⁻¹=y at *;grind
theorem Inv.piv (h:Inv n ak A s) {p q:Nat} (hp:p < n) (hq:q < ak) (ha:0 < s.r p q)
  (hr:∀i,i < n->0 < s.r i q->s.r p (ak+n)*(s.r p q)⁻¹<=s.r i (ak+n)*(s.r i q)⁻¹):Inv n ak A (piv s p q):=by
 have ha0:s.r p q≠0:=by grind
 have hinv:0 < (s.r p q)⁻¹:=Rat.inv_pos.2 ha;have hcan:=Rat.mul_inv_cancel _ ha0;refine ⟨fun i hi j hj=>?_,fun j hj=>?_,fun k hk j hj=>?_,fun i hi l hl=>?_,fun j hj=>?_,fun i hi=>?_,fun i hi=>?_⟩
 ·have h1:=h.comb i hi j hj
  have h2:=h.comb p hp j hj;simp only[bB.piv]
  by_cases e:i=p
  ·simp only[if_pos e]
   rw[h2,<- iV];exact aL fun k _=>by grind
  ·simp only[if_neg e]
   have h3:aN n (fun k=>(s.r i (ak+k)-s.r i q*(s.r p (ak+k)*(s.r p q)⁻¹))*A k j)=aN n (fun k=>s.r i (ak+k)*A k j)-aN n (fun k=>s.r p (ak+k)*A k j)*(s.r i q*(s.r p q)⁻¹):=by
    rw[<- iV,<- GV];exact aL fun k _=>by grind
   rw[h3,<- h1,<- h2];grind
 ·have h1:=h.cost j hj
  have h2:=h.comb p hp j hj;simp only[bB.piv];have h3:aN n (fun k=>(1-(s.c (ak+k)-s.c q*(s.r p (ak+k)*(s.r p q)⁻¹)))*A k j)=aN n (fun k=>(1-s.c (ak+k))*A k j)+aN n (fun k=>s.r p (ak+k)*A k j)*(s.c q*(s.r p q)⁻¹):=by
   rw[<- iV,<- Cw];exact aL fun k _=>by grind
  rw[h3,<- h2];grind
 ·rw[Sg hp ha0 (fun x=>A k x) j,<- h.back k hk j hj,<- h.back k hk q (by omega)];grind
 ·simp only[bB.piv]
  by_cases hl':l=p
  ·simp only[if_pos hl']
   by_cases hi':i=p
   ·rw[if_pos hi',if_pos (by omega)];exact hcan
   ·rw[if_neg hi',if_neg (by omega)];grind
  ·simp only[if_neg hl']
   have hz:s.r p (s.b l)=0:=by rw[h.unit p hp l hl,if_neg (fun e=>hl' e.symm)]
   rw[hz]
   by_cases hi':i=p
   ·rw[if_pos hi',if_neg (by omega)];grind
   ·rw[if_neg hi',h.unit i hi l hl];grind
 ·rw[Sg hp ha0 (c0 n ak) j]
  have h1:=h.art j hj;have h2:=h.art q (by omega);have h3:=P6 (n:=n) hq;simp only[bB.piv];grind
 ·simp only[bB.piv]
  by_cases hi':i=p
  ·rw[if_pos hi'];exact Rat.mul_nonneg (h.nn p hp) (Rat.le_of_lt hinv)
  ·rw[if_neg hi']
   have hx:=h.nn i hi;have hy:0<=s.r p (ak+n)*(s.r p q)⁻¹:=Rat.mul_nonneg (h.nn p hp) (Rat.le_of_lt hinv)
   by_cases hs:0 < s.r i q
   ·have h1:=hr i hi hs
    have h2:=Rat.mul_le_mul_of_nonneg_left h1 (Rat.le_of_lt hs);have h3:=Rat.mul_inv_cancel _ (show s.r i q≠0 by grind);have h4:s.r i q*(s.r i (ak+n)*(s.r i q)⁻¹)=s.r i (ak+n):=by
     have:s.r i q*(s.r i (ak+n)*(s.r i q)⁻¹)=s.r i (ak+n)*(s.r i q*(s.r i q)⁻¹):=by grind
     rw[this,h3];grind
    rw[h4]at h2;grind
   ·have h1:0<=- s.r i q:=by grind
    have h2:=Rat.mul_nonneg h1 hy;grind
 ·simp only[bB.piv]
  by_cases hi':i=p
  ·rw[if_pos hi'];omega
  ·rw[if_neg hi'];exact h.bl i hi
theorem Inv.two (h:Inv n ak A s) (h':Inv n ak A s') {j:Nat} (hj:j<=ak+n):s'.c j=s.c j+aN n fun i=>s'.c (s.b i)*s.r i j:=by
 have e1:aN n (fun k=>(1-s'.c (ak+k))*A k j)=aN n (fun i=>(c0 n ak (s.b i)-s'.c (s.b i))*s.r i j):=by
  have:∀k,k < n->(1-s'.c (ak+k))*A k j=aN n (fun i=>(1-s'.c (ak+k))*A k (s.b i)*s.r i j):=fun k hk=>by
   rw[h.back k hk j hj];have:=iV n (fun i=>A k (s.b i)*s.r i j) (1-s'.c (ak+k));rw[Rat.mul_comm,<- this];exact aL fun i _=>by grind
  rw[aL this,Ea];refine aL fun i hi=>?_
  rw[iV];congr 1;have:=h'.cost (s.b i) (Nat.le_of_lt (h.bl i hi));grind
 rw[h'.cost j hj,e1,h.art j hj];have e2:aN n (fun i=>(c0 n ak (s.b i)-s'.c (s.b i))*s.r i j)=aN n (fun i=>c0 n ak (s.b i)*s.r i j)-aN n (fun i=>s'.c (s.b i)*s.r i j):=by
  rw[<- GV];exact aL fun i _=>by grind
 rw[e2];grind
theorem Inv.row (h:Inv n ak A s) {q:Nat} (hq:q < ak) (hc:s.c q < 0):∃i,i < n/\0 < s.r i q:=by
 have h1:=h.art q (by omega);rw[P6 hq]at h1;obtain ⟨i,hi,hp⟩:=Oc (n:=n) (f:=fun i=>c0 n ak (s.b i)*s.r i q) (by grind);refine ⟨i,hi,?_⟩;simp only[c0]at hp;split at hp<;>grind
theorem Inv.P7 (h:Inv n ak A s):s.c (ak+n)<=0:=by
 have h1:=h.art (ak+n) (Nat.le_refl _);rw[K8]at h1;have:0<=aN n (fun i=>c0 n ak (s.b i)*s.r i (ak+n)):=qH fun i hi=>Rat.mul_nonneg K9 (h.nn i hi)
 grind
def value (n:Nat) (s:S) (last v:Nat):Rat:=aN n fun i=>if s.b i=v then s.r i last else 0
theorem Inv.P8 (h:Inv n ak A s) {i:Nat} (hi:i < n):value n s (ak+n) (s.b i)=s.r i (ak+n):=by
 unfold value;have:aN n (fun k=>if s.b k=s.b i then s.r k (ak+n) else 0)=aN n (fun k=>if k=i then s.r i (ak+n) else 0):=aL fun k hk=>by
  by_cases e:k=i
  ·rw[e];simp
  ·rw[if_neg e,if_neg]
   intro hb;have h1:=h.unit k hk i hi;rw[<- hb,h.unit k hk k hk,if_pos rfl,if_neg e]at h1;grind
 rw[this,yB hi,gG];grind
theorem La {v:Nat} (hv:∀i,i < n->s.b i≠v) (last:Nat):value n s last v=0:=by
 unfold value;rw[aL (g:=fun _=>0) (fun i hi=>if_neg (hv i hi)),gG]
theorem Inv.Lb (h:Inv n ak A s) {i k:Nat} (hi:i < n) (hk:k < n) (hb:s.b i=s.b k):i=k:=by
 have h1:=h.unit i hi k hk;rw[<- hb,h.unit i hi i hi,if_pos rfl]at h1
 by_cases e:i=k
 ·exact e
 ·rw[if_neg e]at h1;grind
theorem Inv.Nk (h:Inv n ak A s) (v:Nat):0<=value n s (ak+n) v:=qH fun i hi=>by
 by_cases e:s.b i=v
 ·rw[if_pos e];exact h.nn i hi
 ·rw[if_neg e];exact Rat.le_refl
theorem Fw {m:Nat} (f:Nat->Rat) {v:Nat} (x:Rat):aN m (fun j=>f j*(if v=j then x else 0))=if v < m then f v*x else 0:=by
 by_cases hv:v < m
 ·rw[if_pos hv]
  have:aN m (fun j=>f j*(if v=j then x else 0))=aN m (fun j=>if j=v then f v*x else 0):=aL fun j _=>by
   by_cases e:j=v
   ·subst e;simp
   ·rw[if_neg e,if_neg (fun h=>e h.symm)];grind
  rw[this,yB hv,gG];grind
 ·rw[if_neg hv,aL (g:=fun _=>0) (fun j hj=>by rw[if_neg (by omega)];grind),gG]
theorem Inv.solves (h:Inv n ak A s) (hz:s.c (ak+n)=0) {k:Nat} (hk:k < n):aN ak (fun j=>A k j*value n s (ak+n) j)=A k (ak+n):=by
 have h1:=h.art (ak+n) (Nat.le_refl _);rw[K8,hz]at h1;have ahd:=AU (n:=n) (f:=fun i=>c0 n ak (s.b i)*s.r i (ak+n)) (fun i hi=>Rat.mul_nonneg K9 (h.nn i hi)) (by grind);rw[h.back k hk _ (Nat.le_refl _)];have e:aN ak (fun j=>A k j*value n s (ak+n) j)=aN n (fun i=>aN ak (fun j=>A k j*(if s.b i=j then s.r i (ak+n) else 0))):=by
  rw[Ea];refine aL fun j _=>?_
  unfold value;have:=iV n (fun i=>if s.b i=j then s.r i (ak+n) else 0) (A k j);rw[Rat.mul_comm,<- this];exact aL fun i _=>by grind
 rw[e];refine aL fun i hi=>?_
 rw[Fw]
 by_cases hb:s.b i < ak
 ·rw[if_pos hb]
 ·rw[if_neg hb]
  have h2:=ahd i hi;have h3:c0 n ak (s.b i)=1:=if_pos ⟨by omega,h.bl i hi⟩;simp only[h3]at h2;have:s.r i (ak+n)=0:=by grind
  rw[this];grind
def Enter (ak:Nat) (s:S) (q:Nat):Prop:=q < ak/\s.c q < 0/\∀j,j < q->0<=s.c j
def Leave (n ak:Nat) (s:S) (q p:Nat):Prop:=p < n/\0 < s.r p q/\∀i,i < n->0 < s.r i q ->
 s.r p (ak+n)*(s.r p q)⁻¹ < s.r i (ak+n)*(s.r i q)⁻¹\/(s.r p (ak+n)*(s.r p q)⁻¹=s.r i (ak+n)*(s.r i q)⁻¹/\s.b p<=s.b i)
theorem Leave.ratio {q p:Nat} (h:Leave n ak s q p):∀i,i < n->0 < s.r i q->s.r p (ak+n)*(s.r p q)⁻¹<=s.r i (ak+n)*(s.r i q)⁻¹:=fun i hi hs=>by
 rcases h.2.2 i hi hs with h1|⟨h1,_⟩
 ·exact Rat.le_of_lt h1
 ·rw[h1];exact Rat.le_refl
structure Run (n ak m:Nat) (A:Nat->Nat->Rat) (st:Nat->S) (en le:Nat->Nat):Prop where
 inv:Inv n ak A (st 0)
 ent:∀k,k < m->Enter ak (st k) (en k)
 lea:∀k,k < m->Leave n ak (st k) (en k) (le k)
 nxt:∀k,k < m->st (k+1)=piv (st k) (le k) (en k)
variable {m:Nat}{st:Nat->S}{en le:Nat->Nat}
theorem Run.invs (h:Run n ak m A st en le):∀k,k<=m->Inv n ak A (st k)
 |0,_=>h.inv
 |k+1,hk=>by
  rw[h.nxt k (by omega)];exact (h.invs k (by omega)).piv (h.lea k (by omega)).1 (h.ent k (by omega)).1 (h.lea k (by omega)).2.1 (h.lea k (by omega)).ratio
def Basic (n:Nat) (s:S) (v:Nat):Prop:=∃i,i < n/\s.b i=v
theorem Run.enters (h:Run n ak m A st en le) {v:Nat}:∀ {d i:Nat},i+d<=m->¬Basic n (st i) v->Basic n (st (i+d)) v->∃e,i<=e/\e < i+d/\en e=v
 |0,i,_,h1,h2=>absurd h2 h1
 |d+1,i,hm,h1,h2=>by
  by_cases hb:Basic n (st (i+d)) v
  ·obtain ⟨e,e1,e2,e3⟩:=h.enters (d:=d) (by omega) h1 hb
   exact ⟨e,e1,by omega,e3⟩
  ·obtain ⟨l,hl,hlb⟩:=h2
   rw[<- Nat.add_assoc,h.nxt (i+d) (by omega)]at hlb;simp only[piv]at hlb;split at hlb
   ·exact ⟨i+d,by omega,by omega,hlb⟩
   ·exact absurd ⟨l,hl,hlb⟩ hb
theorem Run.leaves (h:Run n ak m A st en le) {v:Nat}:∀ {d i:Nat},i+d<=m->Basic n (st i) v->¬Basic n (st (i+d)) v->∃e,i<=e/\e < i+d/\(st e).b (le e)=v
 |0,i,_,h1,h2=>absurd h1 h2
 |d+1,i,hm,h1,h2=>by
  by_cases hb:Basic n (st (i+d)) v
  ·obtain ⟨l,hl,hlb⟩:=hb
   refine ⟨i+d,by omega,by omega,?_⟩;refine Decidable.byContradiction fun hne=>h2 ⟨l,hl,?_⟩
   rw[<- Nat.add_assoc,h.nxt (i+d) (by omega)];simp only[piv];rw[if_neg]
   ·exact hlb
   ·intro e;rw[e]at hlb;exact hne hlb
  ·obtain ⟨e,e1,e2,e3⟩:=h.leaves (d:=d) (by omega) h1 hb
   exact ⟨e,e1,by omega,e3⟩
theorem Run.U6 (h:Run n ak m A st en le) {k:Nat} (hk:k < m):¬Basic n (st k) (en k):=by
 rintro ⟨i,hi,hb⟩
 have h1:=(h.invs k (by omega)).cb hi;rw[hb]at h1;have:=(h.ent k hk).2.1;grind
theorem Run.Si (h:Run n ak m A st en le) {k:Nat} (hk:k < m):Basic n (st (k+1)) (en k):=by
 refine ⟨le k,(h.lea k hk).1,?_⟩;rw[h.nxt k hk];simp[piv]
theorem Run.Lc (h:Run n ak m A st en le) {k:Nat} (hk:k < m):(st (k+1)).c (ak+n)=(st k).c (ak+n)-(st k).c (en k)*((st k).r (le k) (ak+n)*((st k).r (le k) (en k))⁻¹) /\
  0<=(st k).r (le k) (ak+n)*((st k).r (le k) (en k))⁻¹:=by
 refine ⟨by rw[h.nxt k hk];rfl,Rat.mul_nonneg ((h.invs k (by omega)).nn _ (h.lea k hk).1) (Rat.le_of_lt (Rat.inv_pos.2 (h.lea k hk).2.1))⟩
theorem Run.Eb (h:Run n ak m A st en le):∀ {d i:Nat},i+d<=m->(st i).c (ak+n)<=(st (i+d)).c (ak+n)
 |0,_,_=>Rat.le_refl
 |d+1,i,hm=>by
  have h1:=h.Eb (d:=d) (i:=i) (by omega);obtain ⟨h2,h3⟩:=h.Lc (k:=i+d) (by omega);have h4:=(h.ent (i+d) (by omega)).2.1;have h5:=Rat.mul_nonneg (show 0<=- (st (i+d)).c (en (i+d)) by grind) h3;rw[<- Nat.add_assoc,h2];generalize (st (i+d)).r (le (i+d)) (ak+n)*((st (i+d)).r (le (i+d)) (en (i+d)))⁻¹=y at *;grind
theorem Run.XM (h:Run n ak m A st en le) {a z:Nat} (haz:a < z) (hz:z<=m):¬(∀i,i < n->(st a).b i=(st z).b i):=by
 intro hb;have WG:∀v,Basic n (st a) v↔Basic n (st z) v:=fun v=>⟨fun ⟨i,hi,e⟩=>⟨i,hi,by rw[<- hb i hi];exact e⟩,fun ⟨i,hi,e⟩=>⟨i,hi,by rw[hb i hi];exact e⟩⟩
 have U7:(st z).c (ak+n)=(st a).c (ak+n):=by
  rw[(h.invs a (by omega)).two (h.invs z hz) (Nat.le_refl _)];rw[aL (g:=fun _=>0) (fun i hi=>by rw[hb i hi,(h.invs z hz).cb hi];grind),gG];grind
 have adx:∀k,a<=k->k < z->(st k).r (le k) (ak+n)=0:=by
  intro k h1 h2;have m1:=h.Eb (i:=a) (d:=k-a) (by omega);have m2:=h.Eb (i:=k+1) (d:=z-(k+1)) (by omega);rw[show a+(k-a)=k by omega]at m1;rw[show k+1+(z-(k+1))=z by omega,U7]at m2;obtain ⟨s1,s2⟩:=h.Lc (k:=k) (by omega);have h4:=(h.ent k (by omega)).2.1;have hx:=(h.lea k (by omega)).2.1;have hinv:=Rat.inv_pos.2 hx;rcases Rat.le_iff_lt_or_eq.1 s2 with e|e
  rotate_left
  ·rcases Rat.mul_eq_zero.1 e.symm with e|e
   ·exact e
   ·rw[e]at hinv;grind
  ·exfalso
   have:=Rat.mul_pos (show 0 < - (st k).c (en k) by grind) e;generalize (st k).r (le k) (ak+n)*((st k).r (le k) (en k))⁻¹=y at *;grind
 have ae4:∀k,a<=k->k < z->∀v,value n (st (k+1)) (ak+n) v=value n (st k) (ak+n) v:=by
  intro k h1 h2 v;have hd:=adx k h1 h2;unfold value;refine aL fun i hi=>?_
  rw[h.nxt k (by omega)];simp only[piv]
  by_cases e:i=le k
  ·subst e
   rw[hd];simp
  ·simp only[if_neg e,hd]
   by_cases ev:(st k).b i=v
   ·rw[if_pos ev,if_pos ev];grind
   ·rw[if_neg ev,if_neg ev]
 have hval:∀d k,a<=k->k+d<=z->∀v,value n (st (k+d)) (ak+n) v=value n (st k) (ak+n) v:=by
  intro d
  induction d with
  |zero=>intro k _ _ v;rfl
  |succ d ih=>intro k h1 h2 v;rw[<- Nat.add_assoc,ae4 (k+d) (by omega) (by omega) v,ih k h1 (by omega) v]
 have U8:∀i k,a<=i->i<=z->a<=k->k<=z->∀v,value n (st i) (ak+n) v=value n (st k) (ak+n) v:=by
  intro i k h1 h2 h3 h4 v;have e1:=hval (i-a) a (Nat.le_refl _) (by omega) v;have e2:=hval (k-a) a (Nat.le_refl _) (by omega) v;rw[show a+(i-a)=i by omega]at e1;rw[show a+(k-a)=k by omega]at e2;rw[e1,e2]
 have ae5:∀i k v,a<=i->i<=z->a<=k->k<=z->¬Basic n (st i) v->Basic n (st k) v->∃e,a<=e/\e < z/\en e=v:=by
  intro i k v h1 h2 h3 h4 hn hk;rcases Nat.le_total i k with hik|hik
  ·obtain ⟨e,e1,e2,e3⟩:=h.enters (d:=k-i) (i:=i) (by omega) hn (by rw[show i+(k-i)=k by omega];exact hk)
   exact ⟨e,by omega,by omega,e3⟩
  ·by_cases hbz:Basic n (st z) v
   ·obtain ⟨e,e1,e2,e3⟩:=h.enters (d:=z-i) (i:=i) (by omega) hn (by rw[show i+(z-i)=z by omega];exact hbz)
    exact ⟨e,by omega,by omega,e3⟩
   ·obtain ⟨e,e1,e2,e3⟩:=h.enters (d:=k-a) (i:=a) (by omega) (fun hh=>hbz ((WG v).1 hh)) (by rw[show a+(k-a)=k by omega];exact hk)
    exact ⟨e,by omega,by omega,e3⟩
 have hleft:∀i k v,a<=i->i<=z->a<=k->k<=z->Basic n (st i) v->¬Basic n (st k) v->∃e,a<=e/\e < z/\(st e).b (le e)=v:=by
  intro i k v h1 h2 h3 h4 hn hk;rcases Nat.le_total i k with hik|hik
  ·obtain ⟨e,e1,e2,e3⟩:=h.leaves (d:=k-i) (i:=i) (by omega) hn (by rw[show i+(k-i)=k by omega];exact hk)
   exact ⟨e,by omega,by omega,e3⟩
  ·by_cases hbz:Basic n (st z) v
   ·obtain ⟨e,e1,e2,e3⟩:=h.leaves (d:=k-a) (i:=a) (by omega) ((WG v).2 hbz) (by rw[show a+(k-a)=k by omega];exact hk)
    exact ⟨e,by omega,by omega,e3⟩
   ·obtain ⟨e,e1,e2,e3⟩:=h.leaves (d:=z-i) (i:=i) (by omega) hn (by rw[show i+(z-i)=z by omega];exact hbz)
    exact ⟨e,by omega,by omega,e3⟩
 have hmax:∃k,a<=k/\k < z/\∀e,a<=e->e < z->en e<=en k:=by
  have:∀d,a+d < z->∃k,a<=k/\k<=a+d/\∀e,a<=e->e<=a+d->en e<=en k:=by
   intro d
   induction d with
   |zero=>intro _;exact ⟨a,Nat.le_refl _,Nat.le_refl _,fun e h1 h2=>by rw[show e=a by omega];exact Nat.le_refl _⟩
   |succ d ih =>
    intro hd;obtain ⟨k,k1,k2,k3⟩:=ih (by omega)
    by_cases hc:en (a+(d+1))<=en k
    ·refine ⟨k,k1,by omega,fun e h1 h2=>?_⟩
     by_cases he:e=a+(d+1)
     ·rw[he];exact hc
     ·exact k3 e h1 (by omega)
    ·refine ⟨a+(d+1),by omega,Nat.le_refl _,fun e h1 h2=>?_⟩
     by_cases he:e=a+(d+1)
     ·rw[he];exact Nat.le_refl _
     ·have:=k3 e h1 (by omega);omega
  obtain ⟨k,k1,k2,k3⟩:=this (z-1-a) (by omega);exact ⟨k,k1,by omega,fun e h1 h2=>k3 e h1 (by omega)⟩
 obtain ⟨ks,ks1,ks2,ksm⟩:=hmax;have nb:=h.U6 (k:=ks) (by omega);have yb:=h.Si (k:=ks) (by omega);obtain ⟨kd,kd1,kd2,kd3⟩:=hleft (ks+1) ks (en ks) (by omega) (by omega) ks1 (by omega) yb nb;have ID:=h.invs kd (by omega);have IS:=h.invs ks (by omega);have hent:=h.ent kd (by omega);have WH:=h.lea kd (by omega);have hes:=h.ent ks (by omega);have hkey:=ID.two IS (j:=en kd) (by have:=hent.1;omega);have hne:en kd≠en ks:=by
  intro e;have h1:=ID.cb WH.1;rw[kd3,<- e]at h1;have:=hent.2.1;grind
 have hlt:en kd < en ks:=by have:=ksm kd kd1 kd2;omega
 have hge:=hes.2.2 _ hlt;obtain ⟨i,hi,hpos⟩:=Oc (n:=n) (f:=fun i=>(st ks).c ((st kd).b i)*(st kd).r i (en kd)) (by have:=hent.2.1;grind);have ady:¬Basic n (st ks) ((st kd).b i):=by
  rintro ⟨l,hl,hlb⟩
  have h1:=IS.cb hl;rw[hlb]at h1;rw[h1]at hpos;grind
 obtain ⟨e,e1,e2,e3⟩:=ae5 ks kd _ ks1 (by omega) kd1 (by omega) ady ⟨i,hi,rfl⟩;have hle:=ksm e e1 e2;rw[e3]at hle;have hne2:(st kd).b i≠en ks:=by
  intro hh;have:i=le kd:=ID.Lb hi WH.1 (by rw[hh,kd3]);subst this;rw[kd3]at hpos;have h1:=hes.2.1;have h2:=WH.2.1;have:=Rat.mul_pos (show 0 < - (st ks).c (en ks) by grind) h2;grind
 have hcn:=hes.2.2 ((st kd).b i) (by omega);have hri:0 < (st kd).r i (en kd):=by
  rcases Rat.le_total (a:=(st kd).r i (en kd)) (b:=0) with hneg|hnn
  ·exfalso
   have:=Rat.mul_nonneg hcn (show 0<=- (st kd).r i (en kd) by grind);grind
  ·rcases Rat.le_iff_lt_or_eq.1 hnn with hh|hh
   ·exact hh
   ·exfalso;rw[<- hh]at hpos;grind
 have hz0:(st kd).r i (ak+n)=0:=by
  rw[<- ID.P8 hi,U8 kd ks kd1 (by omega) ks1 (by omega),La (fun l hl hh=>ady ⟨l,hl,hh⟩)]
 have hz1:=adx kd kd1 kd2;rcases WH.2.2 i hi hri with hh|⟨_,hh⟩
 ·rw[hz0,hz1]at hh;grind
 ·rw[kd3]at hh;omega
theorem J8:∀(K:Nat) (f:Nat->Nat),(∀i,i<=K->f i < K)->∃p q,p < q/\q<=K/\f p=f q
 |0,f,h=>absurd (h 0 (Nat.le_refl _)) (by omega)
 |K+1,f,h=>by
  by_cases hx:∃i,i < K+1/\f i=f (K+1)
  ·obtain ⟨i,hi,e⟩:=hx
   exact ⟨i,K+1,hi,Nat.le_refl _,e⟩
  ·have hn:∀i,i < K+1->f i≠f (K+1):=fun i hi e=>hx ⟨i,hi,e⟩
   obtain ⟨p,q,h1,h2,h3⟩:=J8 K (fun i=>if f i < f (K+1) then f i else f i-1) (fun i hi=>by
    have h4:=h i (by omega);have h5:=h (K+1) (Nat.le_refl _);have h6:=hn i (by omega);split<;>omega)
   refine ⟨p,q,h1,by omega,?_⟩;have h4:=hn p (by omega);have h5:=hn q (by omega);split at h3<;>split at h3<;>omega
def code (M:Nat) (b:Nat->Nat):Nat->Nat
 |0=>0
 |k+1=>code M b k*M+b k
theorem Sj {M:Nat}{b:Nat->Nat}:∀ {k:Nat},(∀i,i < k->b i < M)->code M b k < M ^ k
 |0,_=>by simp[code]
 |k+1,h=>by
  have h1:=Sj (k:=k) (fun i hi=>h i (by omega));have h2:=h k (by omega);simp only[code,Nat.pow_succ];have:code M b k*M+M<=M ^ k*M:=by rw[<- Nat.succ_mul];exact Nat.mul_le_mul_right _ h1
  omega
theorem code_inj {M:Nat}{b c:Nat->Nat}:∀ {k:Nat},(∀i,i < k->b i < M)->(∀i,i < k->c i < M)->code M b k=code M c k->∀i,i < k->b i=c i
 |0,_,_,_,i,hi=>by omega
 |k+1,hb,hc,h,i,hi=>by
  simp only[code]at h;have h1:=hb k (by omega);have h2:=hc k (by omega);have h3:b k=c k:=by
   have e1:(code M b k*M+b k) % M=b k:=by rw[Nat.mul_comm,Nat.mul_add_mod,Nat.mod_eq_of_lt h1]
   have e2:(code M c k*M+c k) % M=c k:=by rw[Nat.mul_comm,Nat.mul_add_mod,Nat.mod_eq_of_lt h2]
   rw[<- e1,h,e2]
  by_cases hk:i=k
  ·rw[hk];exact h3
  ·have h4:code M b k=code M c k:=by
    rw[h3]at h;exact Nat.eq_of_mul_eq_mul_right (show 0 < M by omega) (by omega)
   exact code_inj (fun i hi=>hb i (by omega)) (fun i hi=>hc i (by omega)) h4 i (by omega)
theorem Run.short (h:Run n ak m A st en le):m < (ak+n) ^ n:=by
 refine Decidable.byContradiction fun hn=>?_
 have hb:∀k,k<=m->∀i,i < n->(st k).b i < ak+n:=fun k hk i hi=>(h.invs k hk).bl i hi
 obtain ⟨p,q,h1,h2,h3⟩:=J8 ((ak+n) ^ n) (fun k=>code (ak+n) (st k).b n) (fun k hk=>Sj (hb k (by omega)));exact h.XM h1 (by omega) (code_inj (hb p (by omega)) (hb q (by omega)) h3)
end Go.bB
end
section
namespace Go.Whole
open Go Go.Vm
abbrev u32 (n:Nat):Tr:=.int .u32 (n:Int)
def dl (l:List Nat):List Tr:=l.map u32
def mE (nn:Bool) (z:Int):List Tr:=[.sl nn (dl (aO z.natAbs)),.bool (decide (z < 0))]
def encI (nn:Bool) (z:Int):Tr:=.agg (mE nn z)
def most:Nat:=4611686018427387903
def small (q:Rat):Bool:=decide (q.num.natAbs<=most)&&decide (q.den<=most)
def dA (q:Rat):List Tr:=if small q then [.int .i64 q.num,.int .i64 q.den,.sl false [],.bool false,.sl false [],.bool false] else [.int .i64 0,.int .i64 0,.sl true (dl (aO q.num.natAbs)),.bool (decide (q.num < 0)),.sl true (dl (aO q.den)),.bool false]
def aH (q:Rat):Tr:=.agg (dA q)
theorem aQ (q:Rat):(dA q).length=6:=by unfold dA;split<;>rfl
theorem vo (q:Rat):dh true 6 (aH q):=⟨fun _=>rfl,(fun h=>nomatch h),aQ q⟩
theorem ZB (nn:Bool) (z:Int):dh true 2 (encI nn z):=⟨fun _=>rfl,(fun h=>nomatch h),rfl⟩
theorem lQ {q:Rat} (h:small q=true):q.num.natAbs<=most/\q.den<=most:=by simpa[small] using h
theorem fF {q:Rat} (h:small q=true):dA q=[.int .i64 q.num,.int .i64 q.den,.sl false [],.bool false,.sl false [],.bool false]:=if_pos h
theorem mM {q:Rat} (h:small q=false):dA q=[.int .i64 0,.int .i64 0,.sl true (dl (aO q.num.natAbs)),.bool (decide (q.num < 0)),.sl true (dl (aO q.den)),.bool false]:=if_neg (by simp[h])
theorem AV {a b:Int} (hb:0 < b):(Rat.divInt a b).num=a.tdiv (Int.gcd a b)/\((Rat.divInt a b).den:Int)=b.tdiv (Int.gcd a b):=by
 have hg:Int.gcd a b=Int.gcd b a:=Int.gcd_comm a b;have hd1:((Int.gcd b a:Nat):Int)∣a:=Int.gcd_dvd_right ..;have hd2:((Int.gcd b a:Nat):Int)∣b:=Int.gcd_dvd_left ..;rw[Rat.num_divInt,Rat.den_divInt,if_neg (by omega),hg,Int.sign_eq_one_of_pos hb,Int.one_mul];refine ⟨?_,?_⟩
 ·rw[Int.tdiv_eq_ediv_of_dvd hd1]
 ·rw[Int.tdiv_eq_ediv_of_dvd hd2,Int.natCast_ediv]
  congr 1;omega
end Go.Whole
end
section
namespace Go.Vm
open Go Go.Proofs Go.Whole
namespace ama
open Go.Proofs.Tryz
attribute [go_sem] Tryz.results223 Tryz.results157 Tryz.results154 Tryz.results161 Tryz.results212 Tryz.results266 Tryz.results252 Tryz.results259 Tryz.results253 Tryz.results268 Tryz.results267 Tryz.results222 Tryz.results224 Tryz.results156 Tryz.results155
abbrev iW:TypeId:=129
abbrev tU32:TypeId:=215
theorem wrap_u32 (n:Nat):IntKind.u32.wrap (n:Int)=((n % B:Nat):Int):=by
 simp[IntKind.wrap,IntKind.bits,IntKind.signed,eu]
theorem wrap_u64 (n:Nat):IntKind.u64.wrap (n:Int)=((n % 18446744073709551616:Nat):Int):=by
 simp[IntKind.wrap,IntKind.bits,IntKind.signed]
theorem qI {n:Nat} (h:n < B):IntKind.u32.wrap (n:Int)=(n:Int):=by rw[wrap_u32,Nat.mod_eq_of_lt h]
theorem fJ {n:Nat} (h:n < 18446744073709551616):IntKind.u64.wrap (n:Int)=(n:Int):=by rw[wrap_u64,Nat.mod_eq_of_lt h]
theorem oJ (a b:Nat):IntKind.u64.wrap ((a:Int)+(b:Int))=(((a+b) % 18446744073709551616:Nat):Int):=by rw[<- Int.natCast_add,wrap_u64]
theorem vv (a b:Nat):IntKind.u64.wrap ((a:Int)*(b:Int))=(((a*b) % 18446744073709551616:Nat):Int):=by rw[<- Int.natCast_mul,wrap_u64]
theorem GX (a b:Nat):(a:Int).fdiv (b:Int)=((a / b:Nat):Int):=by
 rw[Int.fdiv_eq_ediv_of_nonneg _ (Int.natCast_nonneg b),Int.natCast_ediv]
theorem ZC (a s m:Nat):(a:Int).fdiv (2 ^ (min s m))=((a / 2 ^ (min s m):Nat):Int):=by
 have:(2:Int) ^ (min s m)=((2 ^ (min s m):Nat):Int):=by simp
 rw[this,GX]
section
variable {P:Program}{h:Hp} (t:TypeId) (n:Nat) (k':IntKind)
@[go_sem high] theorem ahe:cK P h .shr t (.t (.int .u64 (n:Int))) (.t (.int k' 32))=some (.t (.int .u64 ((n / 4294967296:Nat):Int))):=by
 rw[RU,if_neg (by decide)];have:(n:Int).fdiv (2 ^ (min (Int.toNat 32) IntKind.u64.bits))=((n / 4294967296:Nat):Int):=GX n 4294967296;rw[this]
@[go_sem high] theorem ahf:cK P h .shr t (.t (.int .u32 (n:Int))) (.t (.int k' 31))=some (.t (.int .u32 ((n / 2147483648:Nat):Int))):=by
 rw[RU,if_neg (by decide)];have:(n:Int).fdiv (2 ^ (min (Int.toNat 31) IntKind.u32.bits))=((n / 2147483648:Nat):Int):=GX n 2147483648;rw[this]
end
theorem pF (l:List Nat):(dl l).length=l.length:=List.length_map _
theorem abZ (l:List Nat) (i:Nat):(dl l)[i]?=(l[i]?).map u32:=List.getElem?_map ..
theorem Sk (l:List Nat) (i:Nat):(dl l).take i=dl (l.take i):=(List.map_take ..).symm
theorem WJ:dl []=[]:=rfl
theorem U9 (a b:List Nat):dl (a++b)=dl a++dl b:=List.map_append
theorem Od (l:List Nat):dJ (dl l)=true:=by induction l with|nil=>rfl|cons a l ih=>simpa[dl,dJ,Tr.sized,u32] using ih
theorem Sm (l:List Nat):flat (dl l)=dl l:=by induction l with|nil=>rfl|cons a l ih=>simpa[dl,flat,Tr.cells] using ih
theorem P9:Int.toNat 0=0:=rfl
attribute [go_sem] pF abZ Od Sm P9
theorem AX:∀(a:List Nat) (x:Nat),strip (a++[x])=if x=0 then strip a else a++[x]
 |[],x=>by simp[strip]
 |d::a,x=>by
  simp only[List.cons_append,strip,AX a x]
  by_cases h:x=0
  ·simp[h]
  ·simp[h]
theorem Sn (l:List Nat):l=[]\/∃a x,l=a++[x]:=by
 rcases List.eq_nil_or_concat l with h|⟨a,x,h⟩
 ·exact .inl h
 ·exact .inr ⟨a,x,by simpa using h⟩
theorem Oe {n:Nat} (h:n < 9223372036854775807):IntKind.i64.wrap (((n+1:Nat):Int)-1)=(n:Int):=by
 rw[show ((n+1:Nat):Int)-1=(n:Int) by omega];exact wrap_i64 (by omega) (by omega)
theorem Og (nn:Bool) (l:List Nat) (neg:Bool):aB Tryz.prog 223 [.sl nn (dl l),.bool neg] (.agg [.sl nn (dl (strip l)),.bool (neg&&!(strip l).isEmpty)]):=by
 refine au orders Tryz.func223 rfl (by kernel_rfl) (fun d=>d==4) (by kernel_rfl) rfl (fun hs=>?_);simp[dJ,Tr.sized,Od,pF]at hs
 repeat' (first|refine sX ?_ ?_<;>intro h|simp only[go_sem, *])
 refine jD (fun m s'=>∃l',m=l'.length/\s'.sl 0=.t (.sl nn (dl l'))/\hget s'.hp (4,0)=some ⟨[.t (.sl false []),.t (.bool false)],2,1,iW,true,true⟩/\strip l'=strip l/\l'.length<=l.length) l.length ⟨l,rfl,rfl,rfl,rfl,Nat.le_refl _⟩ ?_
 rintro _ s' ⟨l',rfl,h0,h4,hl,hle⟩ hfr G hG
 have c1:=hfr 1 (by kernel_rfl);have c4:=hfr 4 (by kernel_rfl);clear hfr;simp only[go_sem]at c1 c4;change _=PV.ad (4,0) 1 0 at c4;rcases Sn l' with rfl|⟨a,x,rfl⟩
 ·have f1:decide (((0:Nat):Int) > 0)=false:=rfl
  have hl':strip l=[]:=by rw[<- hl];rfl
  rw[hl']
  repeat' (first|refine sX ?_ ?_<;>intro h|simp only[go_sem, *])
  all_goals simp
 ·have hle':a.length+1<=l.length:=by simpa using hle
  have f1:decide (((a.length+1:Nat):Int) > 0)=true:=decide_eq_true (by omega);have f2:=Oe (n:=a.length) (by omega);have f3:(dl (a++[x])).length=a.length+1:=by simp[pF]
  have f4:(a++[x])[a.length]?=some x:=by simp
  have f5:(dl (a++[x])).take a.length=dl a:=by simp[Sk]
  have f6:(x:Int)=0↔x=0:=by omega
  rw[AX]at hl;have f7:(a.length:Int)<=((a.length+1:Nat):Int):=by omega
  by_cases hx:x=0
  ·subst hx
   rw[if_pos rfl]at hl;have f8:(((0:Nat):Int)==0)=true:=rfl
   repeat' (first|refine sX ?_ ?_<;>intro h|simp only[go_sem, *])
   refine hG _ _ (by simp) ⟨a,rfl,rfl,h4,hl,by omega⟩
  ·rw[if_neg hx]at hl
   have f8:((x:Int)==0)=false:=by simpa using hx
   have f9:(a++[x]).isEmpty=false:=by simp
   rw[<- hl];clear hl
   repeat' (first|refine sX ?_ ?_<;>intro h|simp only[go_sem, *])
   all_goals simp
attribute [go_sem] encI mE
theorem oZ (nn:Bool) (l:List Nat) (neg:Bool) (h:okD l):aB Tryz.prog 223 [.sl nn (dl l),.bool neg] (encI nn (if neg then -(val l:Int) else val l)):=by
 have:=Og nn l neg;rw[pU h]at this;have e:encI nn (if neg then -(val l:Int) else val l)=.agg [.sl nn (dl (aO (val l))),.bool (neg&&!(aO (val l)).isEmpty)]:=by
  unfold encI mE;have e1:(if neg then -(val l:Int) else val l).natAbs=val l:=by cases neg<;>simp
  have e2:decide ((if neg then -(val l:Int) else val l) < 0)=(neg&&!(aO (val l)).isEmpty):=by
   cases neg
   ·simp
   ·by_cases hv:val l=0
    ·rw[hv];simp[gF]
    ·have:(aO (val l)).isEmpty=false:=by
      cases he:aO (val l) with
      |nil=>exact absurd (yx.1 he) hv
      |cons=>rfl
     simp[this];omega
  rw[e1,e2]
 rw[e];exact this
theorem Cx (n:Nat) (hn:n < 18446744073709551616):aB Tryz.prog 154 [.int .u64 n] (encI true n):=by
 refine au orders Tryz.func154 rfl (by kernel_rfl) (fun d=>d==2) (by kernel_rfl) rfl (fun hs=>?_);have h1:n / 4294967296 % B=n / 4294967296:=Nat.mod_eq_of_lt (by rw[eu];omega);have ht:=oZ true [n % B,n / 4294967296] false (by rw[bG,bG];exact ⟨Nat.mod_lt _ fQ,by rw[eu];omega,qE⟩);have hv:((val [n % B,n / 4294967296]:Nat):Int)=n:=by
  have:val [n % B,n / 4294967296]=n:=by simp only[val,eu];omega
  rw[this]
 simp only[Bool.false_eq_true,if_false,hv]at ht
 repeat' (first|refine sX ?_ ?_<;>intro h|refine aj (ht) rfl ?_|simp only[go_sem, *,wrap_u32])
def jM (z:Int):Prop:=-9223372036854775808<=z/\z<=9223372036854775807
theorem xA {z:Int} (h:-9223372036854775808<=z) (hz:z < 0):IntKind.u64.wrap z=((18446744073709551616-z.natAbs:Nat):Int):=by
 simp[IntKind.wrap,IntKind.bits,IntKind.signed];omega
theorem xB {n:Nat} (h:n<=18446744073709551616) (h0:0 < n):IntKind.u64.wrap (0-((18446744073709551616-n:Nat):Int))=((n % 18446744073709551616:Nat):Int):=by
 simp[IntKind.wrap,IntKind.bits,IntKind.signed];omega
theorem sQ {z:Int} (h:z<=9223372036854775807) (hz:0<=z):IntKind.u64.wrap z=(z.natAbs:Int):=by
 simp[IntKind.wrap,IntKind.bits,IntKind.signed];omega
theorem Af (z:Int) (h:jM z):aB Tryz.prog 157 [i64 z] (encI true z):=by
 obtain ⟨h1,h2⟩:=h;refine au orders Tryz.func157 rfl (by kernel_rfl) (fun d=>d==2||d==3) (by kernel_rfl) rfl (fun hs=>?_)
 by_cases hz:z < 0
 ·have f0:decide (z < 0)=true:=by simpa using hz
  have f1:=xA h1 hz;have f2:=xB (n:=z.natAbs) (by omega) (by omega);rw[Nat.mod_eq_of_lt (by omega)]at f2;have f3:(((z.natAbs:Nat):Int)).natAbs=z.natAbs:=by omega
  repeat' (first|refine sX ?_ ?_<;>intro h|refine aj (Cx _ (show 18446744073709551616-z.natAbs < 18446744073709551616 by omega)) rfl ?_|refine aj (Cx z.natAbs (by omega)) rfl ?_|simp only[go_sem, *])
 ·have f0:decide (z < 0)=false:=by simpa using hz
  have f1:=sQ h2 (by omega);have f3:(((z.natAbs:Nat):Int)).natAbs=z.natAbs:=by omega
  have f4:decide (((z.natAbs:Nat):Int) < 0)=false:=decide_eq_false (by omega)
  repeat' (first|refine sX ?_ ?_<;>intro h|refine aj (Cx z.natAbs (by omega)) rfl ?_|simp only[go_sem, *])
theorem Cy (nn:Bool) (z:Int):aB Tryz.prog 161 [encI nn z] (i64 z.sign):=by
 refine au orders Tryz.func161 rfl (by kernel_rfl) bf (by kernel_rfl) rfl (fun hs=>?_)
 by_cases h0:z=0
 ·subst h0
  have f1:(((aO (Int.natAbs 0)).length:Int)==0)=true:=by rw[show Int.natAbs 0=0 from rfl,gF];rfl
  repeat' (first|refine sX ?_ ?_<;>intro h|simp only[go_sem, *])
  rfl
 ·have f1:(((aO z.natAbs).length:Int)==0)=false:=by
   have:aO z.natAbs≠[]:=fun e=>h0 (by have:=yx.1 e;omega)
   cases he:aO z.natAbs with
   |nil=>exact absurd he this
   |cons=>simp;omega
  by_cases hz:z < 0
  ·have f2:decide (z < 0)=true:=by simpa using hz
   repeat' (first|refine sX ?_ ?_<;>intro h|simp only[go_sem, *])
   simp[Int.sign_eq_neg_one_of_neg hz]
  ·have f2:decide (z < 0)=false:=by simpa using hz
   repeat' (first|refine sX ?_ ?_<;>intro h|simp only[go_sem, *])
   simp[Int.sign_eq_one_of_pos (show 0 < z by omega)]
theorem Qa (nn:Bool) (z:Int):aB Tryz.prog 212 [encI nn z] (encI nn (-z)):=by
 refine au orders Tryz.func212 rfl (by kernel_rfl) (fun d=>d==2) (by kernel_rfl) rfl (fun hs=>?_);have ht:=oZ nn (aO z.natAbs) (!decide (z < 0)) (dR _);rw[bW]at ht;have e:(if (!decide (z < 0))=true then -((z.natAbs:Nat):Int) else ((z.natAbs:Nat):Int))=-z:=by by_cases h:z < 0<;>simp[h]<;>omega
 rw[e]at ht
 repeat' (first|refine sX ?_ ?_<;>intro h|refine aj (ht) rfl ?_|simp only[go_sem, *])
theorem ZE (nn:Bool) (z:Int):aB Tryz.prog 266 [encI nn z] (encI nn z.natAbs):=by
 refine au orders Tryz.func266 rfl (by kernel_rfl) (fun d=>d==2) (by kernel_rfl) rfl (fun hs=>?_);have ht:=oZ nn (aO z.natAbs) false (dR _);rw[bW]at ht
 repeat' (first|refine sX ?_ ?_<;>intro h|refine aj (ht) rfl ?_|simp only[go_sem, *])
theorem Fx (x y c:Nat) (hx:x < B) (hy:y < B) (hc:c<=1):aB Tryz.prog 268 [u32 x,u32 y,u32 c] (.tup [u32 ((x+y+c) % B),u32 ((x+y+c) / B)]):=by
 rw[eu]at hx hy;refine au orders Tryz.func268 rfl (by kernel_rfl) bf (by kernel_rfl) rfl (fun hs=>?_);have e1:(x+y) % 18446744073709551616=x+y:=Nat.mod_eq_of_lt (by omega);have e2:(x+y+c) % 18446744073709551616=x+y+c:=Nat.mod_eq_of_lt (by omega);have e3:(x+y+c) / 4294967296 % B=(x+y+c) / B:=by rw[eu];omega
 have e4:=fJ (n:=x) (by omega);have e5:=fJ (n:=y) (by omega);have e6:=fJ (n:=c) (by omega)
 repeat' (first|refine sX ?_ ?_<;>intro h|simp only[go_sem, *,oJ,wrap_u32])
section
variable {P:Program}{h:Hp} (t:TypeId) (X Y:BitVec 32)
theorem Fy (X:BitVec 32):IntKind.u32.wrap (X.toNat:Int)=(X.toNat:Int):=qI (by have:=X.isLt;rw[eu];omega)
theorem lX (X:BitVec 32):BitVec.ofInt 32 (X.toNat:Int)=X:=by
 apply BitVec.eq_of_toNat_eq;have:=X.isLt;simp
theorem ZF:Ig .xor (.t (.int .u32 (X.toNat:Int)))=some (.t (.int .u32 ((~~~X).toNat:Int))):=by
 have e1:BitVec.ofInt IntKind.u32.bits (if IntKind.u32.signed=true then -1 else IntKind.u32.max)=BitVec.allOnes 32:=by
  show BitVec.ofInt 32 4294967295=BitVec.allOnes 32
  decide
 have e2:BitVec.ofInt IntKind.u32.bits (X.toNat:Int)=X:=lX X;have e3:(BitVec.allOnes 32 ^^^ X) = ~~~X:=BitVec.allOnes_xor;simp only[Ig];rw[e1,e2];exact congrArg (fun z=>some (PV.t (.int .u32 z))) ((congrArg (fun b:BitVec 32=>IntKind.u32.wrap (b.toNat:Int)) e3).trans (Fy _))
theorem u32_and:cK P h .and t (.t (.int .u32 (X.toNat:Int))) (.t (.int .u32 (Y.toNat:Int)))=some (.t (.int .u32 ((X &&& Y).toNat:Int))):=by
 rw[KM];have e1:BitVec.ofInt IntKind.u32.bits (X.toNat:Int)=X:=lX X;have e2:BitVec.ofInt IntKind.u32.bits (Y.toNat:Int)=Y:=lX Y;rw[e1,e2];exact congrArg (fun z=>some (PV.t (.int .u32 z))) (Fy _)
theorem u32_or:cK P h .or t (.t (.int .u32 (X.toNat:Int))) (.t (.int .u32 (Y.toNat:Int)))=some (.t (.int .u32 ((X ||| Y).toNat:Int))):=by
 rw[PL];have e1:BitVec.ofInt IntKind.u32.bits (X.toNat:Int)=X:=lX X;have e2:BitVec.ofInt IntKind.u32.bits (Y.toNat:Int)=Y:=lX Y;rw[e1,e2];exact congrArg (fun z=>some (PV.t (.int .u32 z))) (Fy _)
theorem u32_xor:cK P h .xor t (.t (.int .u32 (X.toNat:Int))) (.t (.int .u32 (Y.toNat:Int)))=some (.t (.int .u32 ((X ^^^ Y).toNat:Int))):=by
 rw[Zj];have e1:BitVec.ofInt IntKind.u32.bits (X.toNat:Int)=X:=lX X;have e2:BitVec.ofInt IntKind.u32.bits (Y.toNat:Int)=Y:=lX Y;rw[e1,e2];exact congrArg (fun z=>some (PV.t (.int .u32 z))) (Fy _)
theorem ZG:IntKind.u32.wrap ((X.toNat:Int)-(Y.toNat:Int))=((X-Y).toNat:Int):=by
 have h1:=X.isLt;have h2:=Y.isLt;simp[IntKind.wrap,IntKind.bits,IntKind.signed,BitVec.toNat_sub];omega
end
theorem Sq (x y c:Nat) (hx:x < B) (hy:y < B) (hc:c<=1):aB Tryz.prog 267 [u32 x,u32 y,u32 c] (.tup [u32 (sb x y c),u32 (bw x y c)]):=by
 unfold sb bw;rw[eu]at hx hy;obtain ⟨X,rfl⟩:∃X:BitVec 32,x=X.toNat:=⟨BitVec.ofNat 32 x,by simp;omega⟩
 obtain ⟨Y,rfl⟩:∃X:BitVec 32,y=X.toNat:=⟨BitVec.ofNat 32 y,by simp;omega⟩
 obtain ⟨C,rfl⟩:∃X:BitVec 32,c=X.toNat:=⟨BitVec.ofNat 32 c,by simp;omega⟩
 have hD:(X-Y-C).toNat=(X.toNat+B-Y.toNat+B-C.toNat) % B:=by
  have h1:=X.isLt;have h2:=Y.isLt;have h3:=C.isLt;simp only[BitVec.toNat_sub,eu];omega
 rw[<- XJ X Y (X-Y-C) C.toNat hc (by rw[hD,eu]),<- hD];refine au orders Tryz.func267 rfl (by kernel_rfl) bf (by kernel_rfl) rfl (fun hs=>?_);clear hD
 repeat' (first|refine sX ?_ ?_<;>intro h|simp only[go_sem, *,ZF,u32_and,u32_or,u32_xor,ZG])
theorem zu {l:List Nat}{k:Nat} (h:k < l.length):l[k]?=some ((l.drop k).headD 0):=by
 rw[List.getElem?_eq_getElem h,List.drop_eq_getElem_cons h];rfl
theorem wJ {l:List Nat}{k:Nat} (h:¬k < l.length):(l.drop k).headD 0=0:=by
 rw[List.drop_eq_nil_of_le (by omega)];rfl
theorem drop_tail (l:List Nat) (k:Nat):(l.drop k).tail=l.drop (k+1):=by rw[List.tail_drop]
@[go_sem] theorem aix (n:Nat):List.map (Tr.int .u32) (List.replicate n 0)=dl (List.replicate n 0):=by simp[dl]
@[go_sem] theorem Sr (l:List Nat) (k x:Nat):(dl l).set k (.int .u32 (x:Int))=dl (l.set k x):=by simp[dl,List.map_set]
@[go_sem] theorem ae6 {k:Nat}{cur:List Nat}{x:Nat} (hk:k < cur.length):splice ((dl cur).map .t) k [.t (.int .u32 (x:Int))]=(dl (cur.set k x)).map .t:=by
 rw[uH,<- Sr,List.map_set];exact ny _ k _ (by simpa[pF] using hk)
theorem aP {α:Type} (l:List α) (k:Nat) (a:α) (hk:k < l.length):(l.set k a).take (k+1)=l.take k++[a]:=by
 rw[List.take_add_one,List.getElem?_set_self hk,List.take_set_of_le (Nat.le_refl _)];rfl
theorem GY {h:Hp}{id:Id}{o:Obj}{l:List Tr}{esz n:Nat}{e:TypeId}{lv:Bool} (hg:hget h id=some o):aS (hset h id ⟨l.map .t,esz,n,e,false,lv⟩) dep (.rf id n)=some (.sl true l) :=
 iT (esz:=esz) (e:=e) (lv:=lv) 5 (by simp[iR,hg])
theorem Qb (n:Nat):n % B < B:=Nat.mod_lt _ fQ
theorem ZH (an bn:Bool) (a b:List Nat) (ha:okD a) (hb:okD b) (hl:b.length<=a.length) (hla:a.length<=1000000):aB Tryz.prog 259 [.sl an (dl a),.sl bn (dl b)] (.sl true (dl (uy a b 0))):=by
 refine au orders Tryz.func259 rfl (by kernel_rfl) (fun d=>d==19) (by kernel_rfl) rfl (fun hs=>?_);obtain ⟨N,hN⟩:∃N,N=a.length+1:=⟨_,rfl⟩
 have f1:decide ((a.length:Int) < (b.length:Int))=false:=decide_eq_false (by omega);have f2:IntKind.i64.wrap ((a.length:Int)+1)=(N:Int):=by rw[hN];exact lg (by omega)
 have hN1:N<=a.length+1:=by omega
 have hN2:a.length+1<=N:=by omega
 clear hN
 repeat' (first|refine sX ?_ ?_<;>intro h|simp only[go_sem, *])
 refine dS ⟨by omega,by omega⟩ ?_
 repeat' (first|refine sX ?_ ?_<;>intro h|simp only[go_sem, *])
 refine aC a (fun k s'=>∃(cur:List Nat) (c:Nat),s'.sl 6=.t (u32 c)/\hget s'.hp (19,0)=some ⟨(dl cur).map .t,1,N,tU32,false,true⟩/\cur.length=N/\c<=1/\uy a b 0=cur.take k++uy (a.drop k) (b.drop k) c) rfl rfl (by first|assumption|omega) (by kernel_rfl) (fun _ _ _ _ hj=>hj) (fun _ _ _ hj=>hj) ?_ (fun k x s' hx hd hk hJ hix hfr G hG=>?_) (fun s' hJ hfr=>?_)
 ·exact ⟨List.replicate N 0,0,rfl,rfl,by simp,Nat.zero_le _,by simp⟩
 ·have c0:=hfr 0 (by kernel_rfl)
  have c1:=hfr 1 (by kernel_rfl);have c5:=hfr 5 (by kernel_rfl);have c21:=hfr 21 (by kernel_rfl);clear hfr;simp only[go_sem]at c0 c1 c5 c21;change _=PV.rf (19,0) N at c5;obtain ⟨cur,c,h6,h19,hcl,hc,hJ⟩:=hJ;have hx':=List.mem_of_getElem? hx;have hkc:k < cur.length:=by omega
  have hkN:k < N:=by omega
  have ZI:k+1<=N:=hkN;rw[hd,uy,drop_tail]at hJ
  by_cases hkb:k < b.length
  ·have g1:decide ((k:Int) < (b.length:Int))=true:=decide_eq_true (by omega)
   have g2:=zu hkb
   repeat' (first|refine sX ?_ ?_<;>intro h|refine aj (Fx x ((b.drop k).headD 0) c (ha x hx') (mK (rQ hb k)) hc) rfl ?_|simp only[go_sem, *])
   refine hG _ ⟨cur.set k ((x+(b.drop k).headD 0+c) % B),(x+(b.drop k).headD 0+c) / B,rfl,?_,by simp[hcl],?_,?_⟩
   ·simp only[go_sem,h19]
   ·have h1:=ha x hx'
    have h2:=mK (rQ hb k);have:=(Nat.div_lt_iff_lt_mul fQ).2 (show x+(b.drop k).headD 0+c < 2*B by omega);omega
   ·rw[aP _ _ _ hkc,hJ];simp
  ·have g1:decide ((k:Int) < (b.length:Int))=false:=decide_eq_false (by omega)
   have g2:=wJ hkb;rw[g2]at hJ
   repeat' (first|refine sX ?_ ?_<;>intro h|refine aj (Fx x 0 c (ha x hx') fQ hc) rfl ?_|simp only[go_sem, *])
   refine hG _ ⟨cur.set k ((x+0+c) % B),(x+0+c) / B,rfl,?_,by simp[hcl],?_,?_⟩
   ·simp only[go_sem,h19]
   ·have h1:=ha x hx'
    have:=(Nat.div_lt_iff_lt_mul fQ).2 (show x+0+c < 2*B by omega);omega
   ·rw[aP _ _ _ hkc,hJ];simp
 ·obtain ⟨cur,c,h6,h19,hcl,hc,hJ⟩:=hJ
  have c0:=hfr 0 (by kernel_rfl);have c5:=hfr 5 (by kernel_rfl);clear hfr;simp only[go_sem]at c0 c5;change _=PV.rf (19,0) N at c5;have hkN:a.length < N:=by omega
  have hkc:a.length < cur.length:=by omega
  rw[List.drop_length,uy]at hJ;have e:cur.set a.length c=cur.take a.length++[c]:=by
   have:=aP cur a.length c hkc;rw[<- this,List.take_of_length_le (by simp;omega)]
  rw[hJ,<- e];clear hJ
  repeat' (first|refine sX ?_ ?_<;>intro h|simp only[go_sem, *])
  exact GY h19
theorem Va (an bn:Bool) (a b:List Nat) (ha:okD a) (hb:okD b) (hl:a.length < b.length) (hla:b.length<=1000000):aB Tryz.prog 259 [.sl an (dl a),.sl bn (dl b)] (.sl true (dl (uy b a 0))):=by
 refine au orders Tryz.func259 rfl (by kernel_rfl) (fun d=>d==19) (by kernel_rfl) rfl (fun hs=>?_);obtain ⟨N,hN⟩:∃N,N=b.length+1:=⟨_,rfl⟩
 have f1:decide ((a.length:Int) < (b.length:Int))=true:=decide_eq_true (by omega);have f2:IntKind.i64.wrap ((b.length:Int)+1)=(N:Int):=by rw[hN];exact lg (by omega)
 have hN1:N<=b.length+1:=by omega
 have hN2:b.length+1<=N:=by omega
 clear hN
 repeat' (first|refine sX ?_ ?_<;>intro h|simp only[go_sem, *])
 refine dS ⟨by omega,by omega⟩ ?_
 repeat' (first|refine sX ?_ ?_<;>intro h|simp only[go_sem, *])
 refine aC b (fun k s'=>∃(cur:List Nat) (c:Nat),s'.sl 6=.t (u32 c)/\hget s'.hp (19,0)=some ⟨(dl cur).map .t,1,N,tU32,false,true⟩/\cur.length=N/\c<=1/\uy b a 0=cur.take k++uy (b.drop k) (a.drop k) c) rfl rfl (by first|assumption|omega) (by kernel_rfl) (fun _ _ _ _ hj=>hj) (fun _ _ _ hj=>hj) ?_ (fun k x s' hx hd hk hJ hix hfr G hG=>?_) (fun s' hJ hfr=>?_)
 ·exact ⟨List.replicate N 0,0,rfl,rfl,by simp,Nat.zero_le _,by simp⟩
 ·have c0:=hfr 0 (by kernel_rfl)
  have c1:=hfr 1 (by kernel_rfl);have c5:=hfr 5 (by kernel_rfl);have c21:=hfr 21 (by kernel_rfl);clear hfr;simp only[go_sem]at c0 c1 c5 c21;change _=PV.rf (19,0) N at c5;obtain ⟨cur,c,h6,h19,hcl,hc,hJ⟩:=hJ;have hx':=List.mem_of_getElem? hx;have hkc:k < cur.length:=by omega
  have hkN:k < N:=by omega
  have ZI:k+1<=N:=hkN;rw[hd,uy,drop_tail]at hJ
  by_cases hkb:k < a.length
  ·have g1:decide ((k:Int) < (a.length:Int))=true:=decide_eq_true (by omega)
   have g2:=zu hkb
   repeat' (first|refine sX ?_ ?_<;>intro h|refine aj (Fx x ((a.drop k).headD 0) c (hb x hx') (mK (rQ ha k)) hc) rfl ?_|simp only[go_sem, *])
   refine hG _ ⟨cur.set k ((x+(a.drop k).headD 0+c) % B),(x+(a.drop k).headD 0+c) / B,rfl,?_,by simp[hcl],?_,?_⟩
   ·simp only[go_sem,h19]
   ·have h1:=hb x hx'
    have h2:=mK (rQ ha k);have:=(Nat.div_lt_iff_lt_mul fQ).2 (show x+(a.drop k).headD 0+c < 2*B by omega);omega
   ·rw[aP _ _ _ hkc,hJ];simp
  ·have g1:decide ((k:Int) < (a.length:Int))=false:=decide_eq_false (by omega)
   have g2:=wJ hkb;rw[g2]at hJ
   repeat' (first|refine sX ?_ ?_<;>intro h|refine aj (Fx x 0 c (hb x hx') fQ hc) rfl ?_|simp only[go_sem, *])
   refine hG _ ⟨cur.set k ((x+0+c) % B),(x+0+c) / B,rfl,?_,by simp[hcl],?_,?_⟩
   ·simp only[go_sem,h19]
   ·have h1:=hb x hx'
    have:=(Nat.div_lt_iff_lt_mul fQ).2 (show x+0+c < 2*B by omega);omega
   ·rw[aP _ _ _ hkc,hJ];simp
 ·obtain ⟨cur,c,h6,h19,hcl,hc,hJ⟩:=hJ
  have c0:=hfr 0 (by kernel_rfl);have c5:=hfr 5 (by kernel_rfl);clear hfr;simp only[go_sem]at c0 c5;change _=PV.rf (19,0) N at c5;have hkN:b.length < N:=by omega
  have hkc:b.length < cur.length:=by omega
  rw[List.drop_length,uy]at hJ;have e:cur.set b.length c=cur.take b.length++[c]:=by
   have:=aP cur b.length c hkc;rw[<- this,List.take_of_length_le (by simp;omega)]
  rw[hJ,<- e];clear hJ
  repeat' (first|refine sX ?_ ?_<;>intro h|simp only[go_sem, *])
  exact GY h19
theorem ab0 (an bn:Bool) (a b:List Nat) (ha:okD a) (hb:okD b) (hla:a.length<=1000000) (hlb:b.length<=1000000):∃r,okD r/\val r=val a+val b/\aB Tryz.prog 259 [.sl an (dl a),.sl bn (dl b)] (.sl true (dl r)):=by
 by_cases h:a.length < b.length
 ·obtain ⟨h1,h2,_⟩:=D8 hb ha (Nat.zero_le 1) (Nat.le_of_lt h)
  exact ⟨_,h2,by omega,Va an bn a b ha hb h hlb⟩
 ·obtain ⟨h1,h2,_⟩:=D8 ha hb (Nat.zero_le 1) (by omega)
  exact ⟨_,h2,by omega,ZH an bn a b ha hb (by omega) hla⟩
end ama
end Go.Vm
end
section
namespace Go.Vm
open Go Go.Proofs Go.Whole
namespace ama
open Go.Proofs.Tryz
theorem Vb (an bn:Bool) (a b:List Nat) (ha:okD a) (hb:okD b) (hla:a.length<=1000000):aB Tryz.prog 253 [.sl an (dl a),.sl bn (dl b)] (.sl true (dl (vk a b 0))):=by
 refine au orders Tryz.func253 rfl (by kernel_rfl) (fun d=>d==11) (by kernel_rfl) rfl (fun hs=>?_)
 repeat' (first|refine sX ?_ ?_<;>intro h|simp only[go_sem, *])
 refine dS ⟨by omega,by omega⟩ ?_
 repeat' (first|refine sX ?_ ?_<;>intro h|simp only[go_sem, *])
 refine aC a (fun k s'=>∃(cur:List Nat) (c:Nat),s'.sl 6=.t (u32 c)/\hget s'.hp (11,0)=some ⟨(dl cur).map .t,1,a.length,tU32,false,true⟩/\cur.length=a.length/\c<=1/\vk a b 0=cur.take k++vk (a.drop k) (b.drop k) c) rfl rfl (by first|assumption|omega) (by kernel_rfl) (fun _ _ _ _ hj=>hj) (fun _ _ _ hj=>hj) ?_ (fun k x s' hx hd hk hJ hix hfr G hG=>?_) (fun s' hJ hfr=>?_)
 ·exact ⟨List.replicate a.length 0,0,rfl,rfl,by simp,Nat.zero_le _,by simp⟩
 ·have c0:=hfr 0 (by kernel_rfl)
  have c1:=hfr 1 (by kernel_rfl);have c5:=hfr 5 (by kernel_rfl);have c13:=hfr 13 (by kernel_rfl);clear hfr;simp only[go_sem]at c0 c1 c5 c13;change _=PV.rf (11,0) a.length at c5;obtain ⟨cur,c,h6,h19,hcl,hc,hJ⟩:=hJ;have hx':=List.mem_of_getElem? hx;have hkc:k < cur.length:=by omega
  have ZI:k+1<=a.length:=hk;rw[hd,vk,drop_tail]at hJ
  by_cases hkb:k < b.length
  ·have g1:decide ((k:Int) < (b.length:Int))=true:=decide_eq_true (by omega)
   have g2:=zu hkb
   repeat' (first|refine sX ?_ ?_<;>intro h|refine aj (Sq x ((b.drop k).headD 0) c (ha x hx') (mK (rQ hb k)) hc) rfl ?_|simp only[go_sem, *])
   refine hG _ ⟨cur.set k (sb x ((b.drop k).headD 0) c),bw x ((b.drop k).headD 0) c,rfl,?_,by simp[hcl],?_,?_⟩
   ·simp only[go_sem,h19]
   ·unfold bw;split<;>omega
   ·rw[aP _ _ _ hkc,hJ];simp
  ·have g1:decide ((k:Int) < (b.length:Int))=false:=decide_eq_false (by omega)
   have g2:=wJ hkb;rw[g2]at hJ
   repeat' (first|refine sX ?_ ?_<;>intro h|refine aj (Sq x 0 c (ha x hx') fQ hc) rfl ?_|simp only[go_sem, *])
   refine hG _ ⟨cur.set k (sb x 0 c),bw x 0 c,rfl,?_,by simp[hcl],?_,?_⟩
   ·simp only[go_sem,h19]
   ·unfold bw;split<;>omega
   ·rw[aP _ _ _ hkc,hJ];simp
 ·obtain ⟨cur,c,h6,h19,hcl,hc,hJ⟩:=hJ
  have c5:=hfr 5 (by kernel_rfl);clear hfr;simp only[go_sem]at c5;change _=PV.rf (11,0) a.length at c5;rw[List.drop_length,vk,List.append_nil,List.take_of_length_le (by omega)]at hJ;rw[hJ];clear hJ
  repeat' (first|refine sX ?_ ?_<;>intro h|simp only[go_sem, *])
  exact iT 5 h19
theorem Ld (an bn:Bool) (a b:List Nat) (ha:okD a) (hb:okD b) (hl:b.length<=a.length) (hv:val b<=val a) (hla:a.length<=1000000):∃r,okD r/\val r=val a-val b/\aB Tryz.prog 253 [.sl an (dl a),.sl bn (dl b)] (.sl true (dl r)):=by
 obtain ⟨h1,h2,_⟩:=XI ha hb hl hv;exact ⟨_,h2,h1,Vb an bn a b ha hb hla⟩
theorem Lf (an bn:Bool) (a b:List Nat) (ha:okD a) (hb:okD b) (hla:a.length<=1000000) (hlb:b.length<=1000000):aB Tryz.prog 252 [.sl an (dl a),.sl bn (dl b)] (i64 (AQ a b)):=by
 refine au orders Tryz.func252 rfl (by kernel_rfl) bf (by kernel_rfl) rfl (fun hs=>?_)
 by_cases hl:a.length=b.length
 ·have f1:((a.length:Int) != (b.length:Int))=false:=by simp;omega
  have hl1:a.length<=b.length:=by omega
  have hl2:b.length<=a.length:=by omega
  have f2:IntKind.i64.wrap ((a.length:Int)-1)=(a.length:Int)-1:=wrap_i64 (by omega) (by omega);have hcmp:AQ a b=if val a < val b then -1 else if val b < val a then 1 else 0:=by unfold AQ;rw[if_neg (by omega)]
  rw[hcmp];clear hcmp hl
  repeat' (first|refine sX ?_ ?_<;>intro h|simp only[go_sem, *])
  refine jD (fun m s'=>∃i:Nat,m=i/\i<=a.length/\s'.sl 5=.t (i64 ((i:Int)-1))/\a.drop i=b.drop i) a.length ⟨a.length,rfl,Nat.le_refl _,rfl,by rw[List.drop_length,List.drop_eq_nil_of_le hl2]⟩ ?_
  rintro i s' ⟨_,rfl,hi,h5,hd⟩ hfr G hG
  have c0:=hfr 0 (by kernel_rfl);have c1:=hfr 1 (by kernel_rfl);clear hfr;simp only[go_sem]at c0 c1;cases i with
  |zero =>
   have g1:decide ((((0:Nat):Int)-1)>=0)=false:=rfl;have he:a=b:=by simpa using hd
   subst he;have g2:(if val a < val a then (-1:Int) else if val a < val a then 1 else 0)=0:=by simp
   rw[g2]
   repeat' (first|refine sX ?_ ?_<;>intro h|simp only[go_sem, *])
  |succ j =>
   have hj:j < a.length:=by omega
   have hjb:j < b.length:=by omega
   have e0:(((j+1:Nat):Int)-1)=(j:Int):=by omega
   rw[e0]at h5;have g1:decide (((j:Nat):Int)>=0)=true:=by simp
   have g2:a[j]?=some a[j]:=List.getElem?_eq_getElem hj;have g3:b[j]?=some b[j]:=List.getElem?_eq_getElem hjb;have g4:IntKind.i64.wrap ((j:Int)-1)=(j:Int)-1:=wrap_i64 (by omega) (by omega)
   by_cases hx:a[j]=b[j]
   ·rw[hx]at g2
    have g5:(((b[j]:Nat):Int) != ((b[j]:Nat):Int))=false:=by simp
    have hda:a.drop j=b.drop j:=by rw[List.drop_eq_getElem_cons hj,List.drop_eq_getElem_cons hjb,hd,hx]
    clear hx hd
    repeat' (first|refine sX ?_ ?_<;>intro h|simp only[go_sem, *])
    refine hG _ _ (Nat.lt_succ_self j) ⟨j,rfl,by omega,rfl,hda⟩
   ·have g5:(((a[j]:Nat):Int) != ((b[j]:Nat):Int))=true:=by simpa using fun h=>hx (by omega)
    by_cases hlt:a[j] < b[j]
    ·have g6:decide (((a[j]:Nat):Int) < ((b[j]:Nat):Int))=true:=by simpa using hlt
     have hv:=oW ha hb (by omega) hj hd (by simpa[hj,hjb] using hlt);rw[if_pos hv]
     repeat' (first|refine sX ?_ ?_<;>intro h|simp only[go_sem, *])
    ·have g6:decide (((a[j]:Nat):Int) < ((b[j]:Nat):Int))=false:=by simpa using hlt
     have hv:=oW hb ha (by omega) hjb hd.symm (by simpa[hj,hjb] using (show b[j] < a[j] by omega));rw[if_neg (by omega),if_pos hv]
     repeat' (first|refine sX ?_ ?_<;>intro h|simp only[go_sem, *])
 ·have f1:((a.length:Int) != (b.length:Int))=true:=by simpa using fun h=>hl (by omega)
  have f2:IntKind.i64.wrap ((a.length:Int)-(b.length:Int))=(a.length:Int)-(b.length:Int):=wrap_i64 (by omega) (by omega);have hcmp:AQ a b=(a.length:Int)-b.length:=by unfold AQ;rw[if_pos hl]
  rw[hcmp]
  repeat' (first|refine sX ?_ ?_<;>intro h|simp only[go_sem, *])
def fits (z:Int):Prop:=(aO z.natAbs).length<=400000
theorem fits.le {z:Int} (h:fits z):(aO z.natAbs).length<=1000000:=Nat.le_trans h (by decide)
theorem lq {x y:Int} (h:x.natAbs<=y.natAbs) (hy:fits y):fits x:=Nat.le_trans (eF h) hy
theorem Qc (xn yn:Bool) (x y:Int) (hx:fits x) (hy:fits y):aB Tryz.prog 222 [encI xn x,encI yn y] (encI true (x+y)):=by
 replace hx:=hx.le;replace hy:=hy.le
 by_cases hs:decide (x < 0)=decide (y < 0)
 ·obtain ⟨r,h1,h2,h3⟩:=ab0 xn yn (aO x.natAbs) (aO y.natAbs) (dR _) (dR _) hx hy
  have ht:=oZ true r (decide (x < 0)) h1;rw[h2,bW,bW]at ht;have e:(if decide (x < 0)=true then -((x.natAbs+y.natAbs:Nat):Int) else ((x.natAbs+y.natAbs:Nat):Int))=x+y:=by
   by_cases h:x < 0
   ·have:y < 0:=by simpa[h] using hs
    simp[h];omega
   ·have:¬y < 0:=by simpa[h] using hs
    simp[h];omega
  rw[e]at ht;have hb:(decide (x < 0)==decide (y < 0))=true:=by simpa using hs
  clear hs;refine au orders Tryz.func222 rfl (by kernel_rfl) (fun d=>d==4) (by kernel_rfl) rfl (fun hs=>?_)
  repeat' (first|refine sX ?_ ?_<;>intro h|refine aj (h3) rfl ?_|refine aj (ht) rfl ?_|simp only[go_sem, *])
 ·have hb:(decide (x < 0)==decide (y < 0))=false:=by simpa using hs
  have hc:=Lf xn yn (aO x.natAbs) (aO y.natAbs) (dR _) (dR _) hx hy
  by_cases hle:y.natAbs<=x.natAbs
  ·obtain ⟨r,h1,h2,h3⟩:=Ld xn yn (aO x.natAbs) (aO y.natAbs) (dR _) (dR _) (eF hle) (by rw[bW,bW];exact hle) hx
   have ht:=oZ true r (decide (x < 0)) h1;rw[h2,bW,bW]at ht;have e:(if decide (x < 0)=true then -((x.natAbs-y.natAbs:Nat):Int) else ((x.natAbs-y.natAbs:Nat):Int))=x+y:=by
    by_cases h:x < 0
    ·have:¬y < 0:=by simpa[h] using hs
     simp[h];omega
    ·have:y < 0:=by simpa[h] using hs
     simp[h];omega
   rw[e]at ht;have hg:decide (AQ (aO x.natAbs) (aO y.natAbs)>=0)=true:=decide_eq_true ((zo _ _).2 hle);refine au orders Tryz.func222 rfl (by kernel_rfl) (fun d=>d==4) (by kernel_rfl) rfl (fun hs=>?_)
   repeat' (first|refine sX ?_ ?_<;>intro h|refine aj (hc) rfl ?_|refine aj (h3) rfl ?_|refine aj (ht) rfl ?_|simp only[go_sem, *])
  ·obtain ⟨r,h1,h2,h3⟩:=Ld yn xn (aO y.natAbs) (aO x.natAbs) (dR _) (dR _) (eF (by omega)) (by rw[bW,bW];omega) hy
   have ht:=oZ true r (decide (y < 0)) h1;rw[h2,bW,bW]at ht;have e:(if decide (y < 0)=true then -((y.natAbs-x.natAbs:Nat):Int) else ((y.natAbs-x.natAbs:Nat):Int))=x+y:=by
    by_cases h:y < 0
    ·have:¬x < 0:=fun h2=>hs (by simp[h,h2])
     simp[h];omega
    ·have:x < 0:=Decidable.byContradiction fun h2=>hs (by simp[h,h2])
     simp[h];omega
   rw[e]at ht;have hg:decide (AQ (aO x.natAbs) (aO y.natAbs)>=0)=false:=decide_eq_false (fun h=>hle ((zo _ _).1 h));refine au orders Tryz.func222 rfl (by kernel_rfl) (fun d=>d==4) (by kernel_rfl) rfl (fun hs=>?_)
   repeat' (first|refine sX ?_ ?_<;>intro h|refine aj (hc) rfl ?_|refine aj (h3) rfl ?_|refine aj (ht) rfl ?_|simp only[go_sem, *])
theorem ae7 (xn yn:Bool) (x y:Int) (hx:fits x) (hy:fits y):aB Tryz.prog 224 [encI xn x,encI yn y] (encI true (x-y)):=by
 rw[Int.sub_eq_add_neg];have hy':fits (-y):=lq (by omega) hy;refine au orders Tryz.func224 rfl (by kernel_rfl) (fun d=>d==4) (by kernel_rfl) rfl (fun hs=>?_)
 repeat' (first|refine sX ?_ ?_<;>intro h|refine aj (Qa yn y) rfl ?_|refine aj (Qc xn yn x (-y) hx hy') rfl ?_|simp only[go_sem, *])
theorem Qd (xn yn:Bool) (x y:Int) (hx:fits x) (hy:fits y):aB Tryz.prog 155 [encI xn x,encI yn y] (i64 (x-y).sign):=by
 refine au orders Tryz.func155 rfl (by kernel_rfl) bf (by kernel_rfl) rfl (fun hs=>?_)
 repeat' (first|refine sX ?_ ?_<;>intro h|refine aj (ae7 xn yn x y hx hy) rfl ?_|refine aj (Cy true (x-y)) rfl ?_|simp only[go_sem, *])
theorem ZJ (a:Nat) (y o:List Nat) (c:Nat):qG a y o c≠[]:=by cases y<;>simp[qG]
theorem Oh {a b c x:Nat} (ha:a < B) (hb:b < B) (hc:c < B) (hx:x < B):c+(a*b+x) < 18446744073709551616/\(c+a*b+x) / B < B/\a*b < 18446744073709551616/\a*b+x < 18446744073709551616:=by
 have hab:a*b<=(B-1)*(B-1):=Nat.mul_le_mul (by omega) (by omega);have e1:(B-1)*(B-1)=18446744065119617025:=by decide
 refine ⟨?_,?_,?_,?_⟩
 ·rw[eu]at hc hx;omega
 ·rw[Nat.div_lt_iff_lt_mul fQ]
  have:B*B=18446744073709551616:=by decide
  rw[eu]at hc hx;omega
 ·omega
 ·rw[eu]at hx;omega
theorem Sv {l:List Nat} (h:okD l) {k v:Nat} (hv:v < B):okD (l.set k v):=fun d hd=>by
 rcases List.mem_or_eq_of_mem_set hd with h1|h1
 ·exact h d h1
 ·rw[h1];exact hv
theorem Fz {l:List Nat}{k v:Nat}:(l.set k v).drop (k+1)=l.drop (k+1):=by
 rw[List.drop_set_of_lt (by omega)]
theorem ZK (xn yn:Bool) (X Y:List Nat) (sx sy:Bool) (z:Int) (hX:okD X) (hY:okD Y) (hx1:X.length<=1000000) (hy1:Y.length<=1000000)
  (hres:aB Tryz.prog 223 [.sl true (dl (mulL X Y (List.replicate (X.length+Y.length) 0))),.bool (sx != sy)] (encI true z)) :
  aB Tryz.prog 156 [.agg [.sl xn (dl X),.bool sx],.agg [.sl yn (dl Y),.bool sy]] (encI true z):=by
 refine au orders Tryz.func156 rfl (by kernel_rfl) (fun d=>d==4||d==18) (by kernel_rfl) rfl (fun hs=>?_);clear hs;obtain ⟨L,hL⟩:∃L,L=X.length+Y.length:=⟨_,rfl⟩
 rw[<- hL]at hres;have f1:IntKind.i64.wrap ((X.length:Int)+(Y.length:Int))=(L:Int):=by rw[hL,<- Int.natCast_add];exact wrap_i64 (by omega) (by omega)
 have hL1:L<=X.length+Y.length:=by omega
 have hL2:X.length+Y.length<=L:=by omega
 clear hL
 repeat' (first|refine sX ?_ ?_<;>intro h|simp only[go_sem, *])
 refine dS ⟨by omega,by omega⟩ ?_
 repeat' (first|refine sX ?_ ?_<;>intro h|simp only[go_sem, *])
 refine aC X (fun k s'=>∃cur:List Nat,hget s'.hp (18,0)=some ⟨(dl cur).map .t,1,L,tU32,false,true⟩/\hget s'.hp (4,0)=some ⟨[.t (.sl false []),.t (.bool false)],2,1,iW,true,true⟩/\cur.length=L/\okD cur/\mulL X Y (List.replicate L 0)=cur.take k++mulL (X.drop k) Y (cur.drop k)) rfl rfl (by first|assumption|omega) (by kernel_rfl) (fun _ _ _ _ hj=>hj) (fun _ _ _ hj=>hj) ?_ (fun k x s' hx hd hk hJ hix hfr G hG=>?_) (fun s' hJ hfr=>?_)
 ·exact ⟨List.replicate L 0,rfl,rfl,by simp,zn L,by simp⟩
 ·have c3:=hfr 3 (by kernel_rfl)
  have c4:=hfr 4 (by kernel_rfl);have c5:=hfr 5 (by kernel_rfl);have c20:=hfr 20 (by kernel_rfl);clear hfr;simp only[go_sem]at c3 c4 c5 c20;change _=PV.rf (18,0) L at c5;change _=PV.ad (4,0) 1 0 at c4;obtain ⟨cur,h18,h4,hcl,hco,hJ⟩:=hJ;rw[hd,mulL]at hJ;have hxB:=hX x (List.mem_of_getElem? hx);have e3:=c3;have e4:=c4;have e5:=c5;obtain ⟨i,hik⟩:∃i,i=k:=⟨_,rfl⟩
  subst hik;obtain ⟨a,hax⟩:∃a,a=x:=⟨_,rfl⟩
  subst hax;have hki:i+Y.length < cur.length:=by omega
  have hk1:(qG a Y (cur.drop i) 0)≠[]:=ZJ _ _ _ _
  repeat' (first|refine sX ?_ ?_<;>intro h|simp only[go_sem, *])
  refine aC Y (fun k s'=>∃(o:List Nat) (c:Nat),s'.sl 8=.t (.int .u64 (c:Int))/\hget s'.hp (18,0)=some ⟨(dl o).map .t,1,L,tU32,false,true⟩/\hget s'.hp (4,0)=some ⟨[.t (.sl false []),.t (.bool false)],2,1,iW,true,true⟩/\o.length=L/\okD o/\c < B/\cur.take i++qG a Y (cur.drop i) 0=o.take (i+k)++qG a (Y.drop k) (o.drop (i+k)) c) rfl rfl (by first|assumption|omega) (by kernel_rfl) (fun _ _ _ _ hj=>hj) (fun _ _ _ hj=>hj) ?_ (fun k x s' hx hd hk hJ hix hfr G hG=>?_) (fun s' hJ hfr=>?_)
  ·exact ⟨cur,0,rfl,h18,h4,hcl,hco,fQ,rfl⟩
  ·have c5:=hfr 5 (by kernel_rfl)
   have c6:=hfr 6 (by kernel_rfl);have c7:=hfr 7 (by kernel_rfl);have c28:=hfr 28 (by kernel_rfl);clear hfr;simp only[go_sem]at c5 c6 c7 c28;obtain ⟨o,c,h8,h18,h4,hol,hoo,hcB,hJ2⟩:=hJ;rw[e5]at c5;have adz:=hY x (List.mem_of_getElem? hx);have hio:i+k < o.length:=by omega
   have ZL:i+k < L:=by omega
   have ahg:i+k+1<=L:=ZL;have g1:IntKind.i64.wrap ((i:Int)+(k:Int))=((i+k:Nat):Int):=by rw[<- Int.natCast_add];exact wrap_i64 (by omega) (by omega)
   have g2:=zu hio;have hoB:=mK (rQ hoo (i+k));rw[hd,qG,drop_tail]at hJ2;generalize (o.drop (i+k)).headD 0=u at *;obtain ⟨r1,r2,r3,r4⟩:=Oh hxB adz hcB hoB;have w1:=fJ (n:=a) (by rw[eu]at hxB;omega);have w2:=fJ (n:=x) (by rw[eu]at adz;omega);have w3:=fJ (n:=u) (by rw[eu]at hoB;omega);have w4:=vv a x;rw[Nat.mod_eq_of_lt r3]at w4;have w5:=oJ (a*x) u;rw[Nat.mod_eq_of_lt r4]at w5;have w6:=oJ c (a*x+u);rw[Nat.mod_eq_of_lt r1,<- Nat.add_assoc]at w6;have w7:=wrap_u32 (c+a*x+u);have w8:(c+a*x+u) / 4294967296=(c+a*x+u) / B:=rfl
   repeat' (first|refine sX ?_ ?_<;>intro h|simp only[go_sem, *])
   refine hG _ ⟨o.set (i+k) ((c+a*x+u) % B),(c+a*x+u) / B,rfl,?_,?_,by simp[hol],Sv hoo (Nat.mod_lt _ fQ),r2,?_⟩
   ·simp only[go_sem,h18]
   ·simp only[go_sem,h4]
   ·rw[<- Nat.add_assoc,aP _ _ _ hio,Fz,hJ2];simp
  ·obtain ⟨o,c,h8,h18,h4,hol,hoo,hcB,hJ2⟩:=hJ
   have c3:=hfr 3 (by kernel_rfl);have c5:=hfr 5 (by kernel_rfl);have c6:=hfr 6 (by kernel_rfl);clear hfr;simp only[go_sem]at c3 c5 c6;rw[e5]at c5;rw[e3]at c3;have hio:i+Y.length < o.length:=by omega
   have ZL:i+Y.length < L:=by omega
   have ahg:i+Y.length+1<=L:=ZL;have g1:IntKind.i64.wrap ((i:Int)+(Y.length:Int))=((i+Y.length:Nat):Int):=by rw[<- Int.natCast_add];exact wrap_i64 (by omega) (by omega)
   have w7:=qI hcB;have w8:=Nat.mod_eq_of_lt hcB;rw[List.drop_length,qG,w8,List.tail_drop]at hJ2;have hset:cur.take i++qG a Y (cur.drop i) 0=o.set (i+Y.length) c:=by
    rw[hJ2,<- List.take_append_drop (i+Y.length+1) (o.set (i+Y.length) c),aP _ _ _ hio,Fz];simp
   have hti:(cur.take i).length=i:=by rw[List.length_take];omega
   obtain ⟨m0,ms,hm⟩:=List.exists_cons_of_ne_nil hk1;rw[hm]at hset hJ;have ht:(o.set (i+Y.length) c).take (i+1)=cur.take i++[m0]:=by
    rw[<- hset,show cur.take i++m0::ms=(cur.take i++[m0])++ms by simp];exact List.take_left' (by simp[hti])
   have hdr:(o.set (i+Y.length) c).drop (i+1)=ms:=by
    rw[<- hset,show cur.take i++m0::ms=(cur.take i++[m0])++ms by simp];exact List.drop_left' (by simp[hti])
   clear hm hk1 hset
   repeat' (first|refine sX ?_ ?_<;>intro h|simp only[go_sem, *])
   refine hG _ ⟨o.set (i+Y.length) c,?_,?_,by simp[hol],Sv hoo hcB,?_⟩
   ·simp only[go_sem,h18]
   ·simp only[go_sem,h4]
   ·rw[ht,hdr,hJ];simp
 ·obtain ⟨cur,h18,h4,hcl,hco,hJ⟩:=hJ
  have c2:=hfr 2 (by kernel_rfl);have c3:=hfr 3 (by kernel_rfl);have c4:=hfr 4 (by kernel_rfl);have c5:=hfr 5 (by kernel_rfl);clear hfr;simp only[go_sem]at c2 c3 c4 c5;change _=PV.rf (18,0) L at c5;change _=PV.ad (4,0) 1 0 at c4;rw[List.drop_length,mulL,List.take_append_drop]at hJ;rw[hJ]at hres;have dN:=iT 5 h18;change aS s'.hp dep _=_ at dN
  repeat' (first|refine sX ?_ ?_<;>intro h|simp only[go_sem, *])
  refine mX hres (by simp only[go_sem,dN]) rfl ?_;have hfz:=K3 (m:=L) h18 h4 rfl
  repeat' (first|refine sX ?_ ?_<;>intro h|simp only[go_sem, *])
theorem rR (xn yn:Bool) (x y:Int) (hx:fits x) (hy:fits y):aB Tryz.prog 156 [encI xn x,encI yn y] (encI true (x*y)):=by
 obtain ⟨h1,h2⟩:=K6 (dR x.natAbs) (dR y.natAbs) (zn ((aO x.natAbs).length+(aO y.natAbs).length)) (by simp) (fun d hd=>(List.mem_replicate.1 (List.mem_of_mem_drop hd)).2);have ht:=oZ true _ (decide (x < 0) != decide (y < 0)) h2;rw[h1,zm,bW,bW,Nat.add_zero]at ht;have e:(if (decide (x < 0) != decide (y < 0))=true then -((x.natAbs*y.natAbs:Nat):Int) else ((x.natAbs*y.natAbs:Nat):Int))=x*y:=by
  rw[Int.natCast_mul]
  by_cases h1:x < 0
  ·have e1:((x.natAbs:Nat):Int)=-x:=by omega
   by_cases h2:y < 0
   ·have e2:((y.natAbs:Nat):Int)=-y:=by omega
    simp[h1,h2,e1,e2,Int.neg_mul,Int.mul_neg]
   ·have e2:((y.natAbs:Nat):Int)=y:=by omega
    simp[h1,h2,e1,e2,Int.neg_mul,Int.mul_neg]
  ·have e1:((x.natAbs:Nat):Int)=x:=by omega
   by_cases h2:y < 0
   ·have e2:((y.natAbs:Nat):Int)=-y:=by omega
    simp[h1,h2,e1,e2,Int.neg_mul,Int.mul_neg]
   ·have e2:((y.natAbs:Nat):Int)=y:=by omega
    simp[h1,h2,e1,e2,Int.neg_mul,Int.mul_neg]
 rw[e]at ht;exact ZK xn yn _ _ _ _ _ (dR _) (dR _) hx.le hy.le ht
attribute [go_sem] Tryz.results214 Tryz.results215 Tryz.results250 Tryz.results251 Tryz.results144 Tryz.results249 Tryz.results213
section
variable {P:Program}{h:Hp} (t:TypeId)
theorem nG (w n:Nat):BitVec.ofInt w (n:Int)=BitVec.ofNat w n:=by
 apply BitVec.eq_of_toNat_eq;simp
theorem WK {a b:Nat} (ha:a < 18446744073709551616) (hb:b < 18446744073709551616):cK P h .or t (.t (.int .u64 (a:Int))) (.t (.int .u64 (b:Int)))=some (.t (.int .u64 ((a ||| b:Nat):Int))):=by
 rw[PL];have e1:BitVec.ofInt IntKind.u64.bits (a:Int)=BitVec.ofNat 64 a:=nG 64 a;have e2:BitVec.ofInt IntKind.u64.bits (b:Int)=BitVec.ofNat 64 b:=nG 64 b;rw[e1,e2];have e3:(BitVec.ofNat 64 a ||| BitVec.ofNat 64 b).toNat=a ||| b:=by
  rw[BitVec.toNat_or,BitVec.toNat_ofNat,BitVec.toNat_ofNat,Nat.mod_eq_of_lt ha,Nat.mod_eq_of_lt hb]
 have e4:IntKind.u64.wrap (((BitVec.ofNat 64 a ||| BitVec.ofNat 64 b).toNat:Nat):Int)=((a ||| b:Nat):Int):=by
  rw[e3];exact fJ (Nat.or_lt_two_pow (n:=64) ha hb)
 exact congrArg (fun z=>some (PV.t (.int .u64 z))) e4
theorem WL {a b:Nat} (ha:a < B) (hb:b < B):cK P h .or t (.t (.int .u32 (a:Int))) (.t (.int .u32 (b:Int)))=some (.t (.int .u32 ((a ||| b:Nat):Int))):=by
 rw[PL];have e1:BitVec.ofInt IntKind.u32.bits (a:Int)=BitVec.ofNat 32 a:=nG 32 a;have e2:BitVec.ofInt IntKind.u32.bits (b:Int)=BitVec.ofNat 32 b:=nG 32 b;rw[e1,e2];have e3:(BitVec.ofNat 32 a ||| BitVec.ofNat 32 b).toNat=a ||| b:=by
  rw[BitVec.toNat_or,BitVec.toNat_ofNat,BitVec.toNat_ofNat,Nat.mod_eq_of_lt (by rw[eu]at ha;omega),Nat.mod_eq_of_lt (by rw[eu]at hb;omega)]
 have e4:IntKind.u32.wrap (((BitVec.ofNat 32 a ||| BitVec.ofNat 32 b).toNat:Nat):Int)=((a ||| b:Nat):Int):=by
  rw[e3];exact qI (by rw[zq]at ha hb ⊢;exact Nat.or_lt_two_pow ha hb)
 exact congrArg (fun z=>some (PV.t (.int .u32 z))) e4
theorem XO {a:Nat} (ha:a < B):cK P h .and t (.t (.int .u32 (a:Int))) (.t (.int .u32 1))=some (.t (.int .u32 ((a % 2:Nat):Int))):=by
 rw[KM];have e1:BitVec.ofInt IntKind.u32.bits (a:Int)=BitVec.ofNat 32 a:=nG 32 a;have e2:BitVec.ofInt IntKind.u32.bits 1=BitVec.ofNat 32 1:=nG 32 1;rw[e1,e2];have e3:(BitVec.ofNat 32 a &&& BitVec.ofNat 32 1).toNat=a % 2:=by
  rw[BitVec.toNat_and,BitVec.toNat_ofNat,BitVec.toNat_ofNat,Nat.mod_eq_of_lt (by rw[eu]at ha;omega)];exact Nat.and_one_is_mod a
 have e4:IntKind.u32.wrap (((BitVec.ofNat 32 a &&& BitVec.ofNat 32 1).toNat:Nat):Int)=((a % 2:Nat):Int):=by
  rw[e3];exact qI (by rw[eu];omega)
 exact congrArg (fun z=>some (PV.t (.int .u32 z))) e4
end
theorem Lg (nn:Bool) (z:Int) (h2:z.natAbs < 18446744073709551616):aB Tryz.prog 215 [encI nn z] (.int .u64 (z.natAbs:Int)):=by
 refine au orders Tryz.func215 rfl (by kernel_rfl) bf (by kernel_rfl) rfl (fun hs=>?_);clear hs;unfold encI mE;have hD:=dR z.natAbs;have hl:(aO z.natAbs).length<=2:=Fu.2 (by rw[show B ^ 2=18446744073709551616 by decide];exact h2);have hv:=bW z.natAbs;generalize hn:z.natAbs=n at *;generalize aO n=D at *
 repeat' (first|refine sX ?_ ?_<;>intro h|simp only[go_sem, *])
 refine aC D (fun k s'=>s'.sl 3=.t (.int .u64 ((val (D.take k):Nat):Int))) rfl rfl (by first|assumption|omega) (by kernel_rfl) (fun _ _ _ _ hj=>hj) (fun _ _ _ hj=>hj) ?_ (fun k x s' hx hd hk hJ hix hfr G hG=>?_) (fun s' hJ hfr=>?_)
 ·rfl
 ·have c7:=hfr 7 (by kernel_rfl)
  clear hfr;simp only[go_sem]at c7;have hx':=hD x (List.mem_of_getElem? hx);have w2:=fJ (n:=x) (by rw[eu]at hx';omega);have e:val (D.take (k+1))=val (D.take k)+B ^ k*x:=by
   rw[List.take_add_one,hx,val_append,List.length_take,Nat.min_eq_left (by omega)];simp[val]
  have hlt:val (D.take k) < B ^ k:=by
   have:=Cv (Ob hD k)
   rwa [List.length_take,Nat.min_eq_left (by omega)]at this
  have hk2:k=0\/k=1:=by omega
  rcases hk2 with rfl|rfl
  ·have g1:IntKind.i64.wrap (32*((0:Nat):Int))=0:=by decide
   have g2:IntKind.u64.wrap ((x:Int)*2 ^ (min 0 64))=(x:Int):=by
    simpa using w2
   have g3:val (D.take 0)=0:=rfl;rw[g3]at hJ;have g4:=WK (P:=Tryz.prog) (h:=s'.hp) 38 (a:=0) (b:=x) (by decide) (by rw[eu]at hx';omega)
   repeat' (first|refine sX ?_ ?_<;>intro h|simp only[go_sem, *])
   refine hG _ ?_
   show _=_
   simp only[go_sem,e,Nat.pow_zero,Nat.one_mul,Nat.zero_add,Nat.zero_or];simp[val]
  ·have g1:IntKind.i64.wrap (32*((1:Nat):Int))=32:=by decide
   have g2:IntKind.u64.wrap ((x:Int)*2 ^ (min (Int.toNat 32) 64))=((x*4294967296:Nat):Int):=by
    have:(x:Int)*2 ^ (min (Int.toNat 32) 64)=((x*4294967296:Nat):Int):=by
     rw[show min (Int.toNat 32) 64=32 from rfl];omega
    rw[this];exact fJ (by rw[eu]at hx';omega)
   have g4:=WK (P:=Tryz.prog) (h:=s'.hp) 38 (a:=val (D.take 1)) (b:=x*4294967296) (by rw[eu]at hlt;omega) (by rw[eu]at hx';omega);have g5:val (D.take 1) ||| x*4294967296=val (D.take 1)+B ^ 1*x:=by
    rw[Nat.or_comm,show x*4294967296=2 ^ 32*x by omega,<- Nat.two_pow_add_eq_or_of_lt (by rw[zq]at hlt;simpa using hlt),zq];omega
   rw[g5]at g4
   repeat' (first|refine sX ?_ ?_<;>intro h|simp only[go_sem, *])
 ·rw[List.take_length,hv]at hJ
  repeat' (first|refine sX ?_ ?_<;>intro h|simp only[go_sem, *])
theorem ae8 (nn:Bool) (z:Int) (hz:fits z) (i:Nat) (hi:i < 32*(aO z.natAbs).length):aB Tryz.prog 251 [encI nn z,i64 i] (u32 (z.natAbs / 2 ^ i % 2)):=by
 refine au orders Tryz.func251 rfl (by kernel_rfl) bf (by kernel_rfl) rfl (fun hs=>?_);clear hs;have hD:=dR z.natAbs;have hz':(aO z.natAbs).length<=1000000:=hz.le;have hb:=ZA hD i;rw[bW]at hb;rw[<- hb];have hlt:i / 32 < (aO z.natAbs).length:=by omega
 have hdB:(aO z.natAbs).getD (i / 32) 0 < B:=by rw[yA hD];exact Qb _
 have hg:(aO z.natAbs)[i / 32]?=some ((aO z.natAbs).getD (i / 32) 0):=by rw[List.getD_eq_getElem?_getD,List.getElem?_eq_getElem hlt];rfl
 clear hb hz;generalize (aO z.natAbs).getD (i / 32) 0=u at *;unfold encI mE;generalize aO z.natAbs=D at *;have g1:IntKind.i64.wrap ((i:Int).tdiv 32)=((i / 32:Nat):Int):=by
  rw[show (i:Int).tdiv 32=((i / 32:Nat):Int) by rw[Int.tdiv_eq_ediv_of_nonneg (by omega)];omega];exact wrap_i64 (by omega) (by omega)
 have g2:(i:Int).tmod 32=((i % 32:Nat):Int):=by rw[Int.tmod_eq_emod_of_nonneg (by omega)];omega
 have g3:(u:Int).fdiv (2 ^ (min (i % 32) 32))=((u / 2 ^ (i % 32):Nat):Int):=by
  rw[ZC,Nat.min_eq_left (by omega)]
 have g4:(((i % 32:Nat):Int) < 0)↔False:=by simp;omega
 have g5:=XO (P:=Tryz.prog) (h:=fun _=>[]) 215 (a:=u / 2 ^ (i % 32)) (Nat.lt_of_le_of_lt (Nat.div_le_self _ _) hdB)
 repeat' (first|refine sX ?_ ?_<;>intro h|simp only[go_sem, *])
theorem ab1 {x c:Nat} (hc:c<=1):(x*2 % B) ||| c=x*2 % B+c:=by
 have e:x*2 % B=2 ^ 1*(x % 2147483648):=by rw[eu];omega
 rw[e,<- Nat.two_pow_add_eq_or_of_lt (by omega)]
theorem ZM (nn:Bool) (d:List Nat) (bit:Nat) (hd0:okD d) (hbit:bit<=1) (hl:d.length<=1000000):aB Tryz.prog 250 [.sl nn (dl d),u32 bit] (.sl true (dl (aO (2*val d+bit)))):=by
 obtain ⟨r1,r2,r3⟩:=Fv hd0 hbit;have ht:=oZ true _ false r2;rw[r1]at ht;simp only[Bool.false_eq_true,if_false]at ht;have hna:((2*val d+bit:Nat):Int).natAbs=2*val d+bit:=by omega
 generalize hz:2*val d+bit=z at *;clear r1 r2 r3 hz;refine au orders Tryz.func250 rfl (by kernel_rfl) (fun d=>d==11) (by kernel_rfl) rfl (fun hs=>?_);clear hs;obtain ⟨L,hL⟩:∃L,L=d.length+1:=⟨_,rfl⟩
 have f1:IntKind.i64.wrap ((d.length:Int)+1)=(L:Int):=by rw[hL];exact lg (by omega)
 have hL1:L<=d.length+1:=by omega
 have hL2:d.length+1<=L:=by omega
 clear hL
 repeat' (first|refine sX ?_ ?_<;>intro h|simp only[go_sem, *])
 refine dS ⟨by omega,by omega⟩ ?_
 repeat' (first|refine sX ?_ ?_<;>intro h|simp only[go_sem, *])
 refine aC d (fun k s'=>∃(cur:List Nat) (c:Nat),s'.sl 1=.t (u32 c)/\hget s'.hp (11,0)=some ⟨(dl cur).map .t,1,L,tU32,false,true⟩/\cur.length=L/\c<=1/\sP d bit=cur.take k++sP (d.drop k) c) rfl rfl (by first|assumption|omega) (by kernel_rfl) (fun _ _ _ _ hj=>hj) (fun _ _ _ hj=>hj) ?_ (fun k x s' hx hd hk hJ hix hfr G hG=>?_) (fun s' hJ hfr=>?_)
 ·exact ⟨List.replicate L 0,bit,rfl,rfl,by simp,hbit,by simp⟩
 ·have c5:=hfr 5 (by kernel_rfl)
  have c12:=hfr 12 (by kernel_rfl);clear hfr;simp only[go_sem]at c5 c12;change _=PV.rf (11,0) L at c5;obtain ⟨cur,c,h1,h11,hcl,hc,hJ⟩:=hJ;have hxB:=hd0 x (List.mem_of_getElem? hx);have hkc:k < cur.length:=by omega
  have hkN:k < L:=by omega
  have ZI:k+1<=L:=hkN;rw[hd,sP]at hJ;have g1:IntKind.u32.wrap ((x:Int)*2 ^ (min (Int.toNat 1) 32))=((x*2 % B:Nat):Int):=by
   rw[show (x:Int)*2 ^ (min (Int.toNat 1) 32)=((x*2:Nat):Int) by rw[show min (Int.toNat 1) 32=1 from rfl];omega,wrap_u32]
  have g2:=WL (P:=Tryz.prog) (h:=s'.hp) 215 (a:=x*2 % B) (b:=c) (Qb _) (by rw[eu];omega);rw[ab1 hc]at g2;have g3:x / 2147483648=x / 2 ^ 31:=rfl
  repeat' (first|refine sX ?_ ?_<;>intro h|simp only[go_sem, *])
  refine hG _ ⟨cur.set k (x*2 % B+c),x / 2 ^ 31,rfl,?_,by simp[hcl],by rw[eu]at hxB;omega,?_⟩
  ·simp only[go_sem,h11]
  ·rw[aP _ _ _ hkc,hJ];simp
 ·obtain ⟨cur,c,h1,h11,hcl,hc,hJ⟩:=hJ
  have c0:=hfr 0 (by kernel_rfl);have c5:=hfr 5 (by kernel_rfl);clear hfr;simp only[go_sem]at c0 c5;change _=PV.rf (11,0) L at c5;have hkN:d.length < L:=by omega
  have hkc:d.length < cur.length:=by omega
  rw[List.drop_length,sP]at hJ;have e:cur.set d.length c=cur.take d.length++[c]:=by
   have:=aP cur d.length c hkc;rw[<- this,List.take_of_length_le (by simp;omega)]
  rw[hJ,<- e]at ht;clear hJ e;have dN:=GY (l:=dl (cur.set d.length c)) (esz:=1) (n:=L) (e:=tU32) (lv:=true) h11
  repeat' (first|refine sX ?_ ?_<;>intro h|simp only[go_sem, *])
  refine mX ht (by simp only[go_sem,dN]) rfl ?_
  repeat' (first|refine sX ?_ ?_<;>intro h|simp only[go_sem, *])
theorem Oi (n:Nat) (hn:n < 18446744073709551616):aB Tryz.prog 154 [.int .u64 n] (.agg [.sl true (dl (aO n)),.bool false]):=by
 have:=Cx n hn;unfold encI mE at this;rw[show ((n:Int)).natAbs=n by omega,show decide ((n:Int) < 0)=false from decide_eq_false (by omega)]at this;exact this
theorem tdiv_sign (x y:Int):(if (decide (x < 0) != decide (y < 0))=true then -((x.natAbs / y.natAbs:Nat):Int) else ((x.natAbs / y.natAbs:Nat):Int))=x.tdiv y:=by
 have key:∀a b:Nat,((a:Int)).tdiv (b:Int)=((a / b:Nat):Int):=fun _ _=>rfl
 by_cases h1:x < 0
 ·obtain ⟨a,rfl⟩:∃a:Nat,x=-(a:Int):=⟨x.natAbs,by omega⟩
  by_cases h2:y < 0
  ·obtain ⟨b,rfl⟩:∃b:Nat,y=-(b:Int):=⟨y.natAbs,by omega⟩
   rw[decide_eq_true h1,decide_eq_true h2,Int.neg_tdiv,Int.tdiv_neg,key];simp
  ·obtain ⟨b,rfl⟩:∃b:Nat,y=(b:Int):=⟨y.natAbs,by omega⟩
   rw[decide_eq_true h1,decide_eq_false h2,Int.neg_tdiv,key];simp
 ·obtain ⟨a,rfl⟩:∃a:Nat,x=(a:Int):=⟨x.natAbs,by omega⟩
  by_cases h2:y < 0
  ·obtain ⟨b,rfl⟩:∃b:Nat,y=-(b:Int):=⟨y.natAbs,by omega⟩
   rw[decide_eq_false h1,decide_eq_true h2,Int.tdiv_neg,key];simp
  ·obtain ⟨b,rfl⟩:∃b:Nat,y=(b:Int):=⟨y.natAbs,by omega⟩
   rw[decide_eq_false h1,decide_eq_false h2,key];simp
theorem Lh (x y:Int):(if decide (x < 0)=true then -((x.natAbs % y.natAbs:Nat):Int) else ((x.natAbs % y.natAbs:Nat):Int))=x.tmod y:=by
 have key:∀a b:Nat,((a:Int)).tmod (b:Int)=((a % b:Nat):Int):=fun _ _=>rfl
 obtain ⟨b,hb⟩:∃b:Nat,b=y.natAbs:=⟨_,rfl⟩
 have hy:x.tmod y=x.tmod (b:Int):=by
  rcases Int.natAbs_eq y with h|h
  ·rw[hb,<- h]
  ·rw[hb];conv=>lhs;rw[h,Int.tmod_neg]
 rw[hy,<- hb]
 by_cases h1:x < 0
 ·obtain ⟨a,rfl⟩:∃a:Nat,x=-(a:Int):=⟨x.natAbs,by omega⟩
  rw[decide_eq_true h1,Int.neg_tmod,key];simp
 ·obtain ⟨a,rfl⟩:∃a:Nat,x=(a:Int):=⟨x.natAbs,by omega⟩
  rw[decide_eq_false h1,key];simp
theorem Vd (xn yn:Bool) (x y:Int) (hx2:(aO x.natAbs).length<=2) (hy2:(aO y.natAbs).length<=2) (hy0:y≠0):aB Tryz.prog 214 [encI xn x,encI yn y] (.tup [encI true (x.tdiv y),encI true (x.tmod y)]):=by
 refine au orders Tryz.func214 rfl (by kernel_rfl) (fun d=>d==4||d==5||d==8||d==9||d==35||d==43||d==51||d==78||d==81||d==87||d==94) (by kernel_rfl) rfl (fun hs=>?_);clear hs;have hX:x.natAbs < 18446744073709551616:=by have:=eP hx2;rwa [show B ^ 2=18446744073709551616 by decide]at this
 have hY:y.natAbs < 18446744073709551616:=by have:=eP hy2;rwa [show B ^ 2=18446744073709551616 by decide]at this
 have f1:decide (((aO x.natAbs).length:Int)<=2)=true:=decide_eq_true (by omega);have f2:decide (((aO y.natAbs).length:Int)<=2)=true:=decide_eq_true (by omega);have f3:((y.natAbs:Nat):Int)=0↔False:=by simp;omega
 have f4:IntKind.u64.wrap ((x.natAbs:Int).tdiv (y.natAbs:Int))=((x.natAbs / y.natAbs:Nat):Int):=by
  rw[show (x.natAbs:Int).tdiv (y.natAbs:Int)=((x.natAbs / y.natAbs:Nat):Int) from rfl];exact fJ (Nat.lt_of_le_of_lt (Nat.div_le_self _ _) hX)
 have f5:(x.natAbs:Int).tmod (y.natAbs:Int)=((x.natAbs % y.natAbs:Nat):Int):=rfl;have hq:=Oi (x.natAbs / y.natAbs) (Nat.lt_of_le_of_lt (Nat.div_le_self _ _) hX);have hr:=Oi (x.natAbs % y.natAbs) (Nat.lt_of_le_of_lt (Nat.mod_le _ _) hX);have t1:=oZ true (aO (x.natAbs / y.natAbs)) (decide (x < 0) != decide (y < 0)) (dR _);rw[bW,tdiv_sign]at t1;have t2:=oZ true (aO (x.natAbs % y.natAbs)) (decide (x < 0)) (dR _);rw[bW,Lh]at t2;have w1:=Lg xn x hX;have w2:=Lg yn y hY;generalize x.tdiv y=q at *;generalize x.tmod y=r at *;clear hx2 hy2
 repeat' (first|refine sX ?_ ?_<;>intro h|refine aj (w1) rfl ?_|refine aj (w2) rfl ?_|refine aj (hq) rfl ?_|refine aj (hr) rfl ?_|refine aj (t1) rfl ?_|refine aj (t2) rfl ?_|simp only[go_sem, *])
theorem GZ {r b n:Nat} (h:r<=2*b) (hb:(aO b).length<=n):(aO r).length<=n+1:=cZ (by
 rw[Nat.pow_succ];have h1:=eP hb;have h2:B ^ n*2<=B ^ n*B:=Nat.mul_le_mul_left _ (by decide);omega)
theorem ZN (xn yn:Bool) (x y:Int) (hx:fits x) (hy:fits y) (hb:¬((aO x.natAbs).length<=2/\(aO y.natAbs).length<=2)) (hy0:y≠0):aB Tryz.prog 214 [encI xn x,encI yn y] (.tup [encI true (x.tdiv y),encI true (x.tmod y)]):=by
 refine au orders Tryz.func214 rfl (by kernel_rfl) (fun d=>d==4||d==5||d==8||d==9||d==35||d==43||d==51||d==78||d==81||d==87||d==94) (by kernel_rfl) rfl (fun hs=>?_);clear hs;have hx':(aO x.natAbs).length<=400000:=hx;have hy':(aO y.natAbs).length<=400000:=hy;have f0:(decide (((aO x.natAbs).length:Int)<=2)=true->decide (((aO y.natAbs).length:Int)<=2)=false):=fun h=>decide_eq_false (fun h2=>hb ⟨by have:=of_decide_eq_true h;omega,by omega⟩)
 have f2:IntKind.i64.wrap (32*((aO x.natAbs).length:Int))=32*((aO x.natAbs).length:Int):=wrap_i64 (by omega) (by omega);have f3:IntKind.i64.wrap (32*((aO x.natAbs).length:Int)-1)=((32*(aO x.natAbs).length:Nat):Int)-1:=by rw[wrap_i64 (by omega) (by omega)];omega
 have t1:=fun l (h:okD l)=>oZ true l (decide (x < 0) != decide (y < 0)) h
 have t2:=oZ true (aO (x.natAbs % y.natAbs)) (decide (x < 0)) (dR _);rw[bW,Lh]at t2;have hX0:x.natAbs / 2 ^ (32*(aO x.natAbs).length)=0:=by
  refine Nat.div_eq_of_lt ?_;have:=eP (Nat.le_refl (aO x.natAbs).length)
  rwa [zq,<- Nat.pow_mul]at this
 have hcmp:=fun r (hr:(aO r).length<=1000000)=>Lf true yn (aO r) (aO y.natAbs) (dR _) (dR _) hr hy.le
 have hbit:=fun i hi=>ae8 xn x hx i hi
 have hq0:0 < y.natAbs:=by omega
 unfold encI mE at hbit
 by_cases hc:decide (((aO x.natAbs).length:Int)<=2)=true
 case' pos=>have f1:=f0 hc
 all_goals
  clear f0 hb
  repeat' (first|refine sX ?_ ?_<;>intro h|simp only[go_sem, *])
  refine dS ⟨by omega,by omega⟩ ?_
  repeat' (first|refine sX ?_ ?_<;>intro h|simp only[go_sem, *])
  refine jD (fun m s'=>∃(i:Nat) (q:List Nat),m=i/\i<=32*(aO x.natAbs).length/\s'.sl 12=.t (i64 ((i:Int)-1))/\s'.sl 11=.t (.sl true (dl (aO (x.natAbs / 2 ^ i % y.natAbs))))/\hget s'.hp (51,0)=some ⟨(dl q).map .t,1,(aO x.natAbs).length,tU32,false,true⟩ /\
   hget s'.hp (4,0)=some ⟨[.t (.sl false []),.t (.bool false)],2,1,iW,true,true⟩/\hget s'.hp (5,0)=some ⟨[.t (.sl false []),.t (.bool false)],2,1,iW,true,true⟩/\q.length=(aO x.natAbs).length/\okD q/\val q=x.natAbs / 2 ^ i / y.natAbs*2 ^ i) (32*(aO x.natAbs).length)
   ⟨32*(aO x.natAbs).length,List.replicate (aO x.natAbs).length 0,rfl,Nat.le_refl _,rfl,by rw[hX0,Nat.zero_mod,gF];rfl,rfl,rfl,rfl,by simp,zn _,by rw[zm,hX0];simp⟩ ?_
  rintro i s' ⟨_,q,rfl,hi,h12,h11,h51,h4,h5,hql,hqo,hqv⟩ hfr G hG
  have c2:=hfr 2 (by kernel_rfl);have c3:=hfr 3 (by kernel_rfl);have c4:=hfr 4 (by kernel_rfl);have c5:=hfr 5 (by kernel_rfl);have c10:=hfr 10 (by kernel_rfl);clear hfr;simp only[go_sem]at c2 c3 c4 c5 c10;change _=PV.rf (51,0) (aO x.natAbs).length at c10;change _=PV.ad (4,0) 1 0 at c4;change _=PV.ad (5,0) 1 0 at c5;cases i with
  |zero =>
   have g1:decide ((((0:Nat):Int)-1)>=0)=false:=rfl;rw[Nat.pow_zero,Nat.div_one]at h11 hqv;rw[Nat.mul_one]at hqv;have t1:=t1 q hqo;rw[hqv,tdiv_sign]at t1;have dN:=iT 5 h51;change aS s'.hp dep _=_ at dN;have hz4:=K3 (m:=(aO x.natAbs).length) h51 h4 rfl;have hz5:=K3 (m:=(aO x.natAbs).length) h51 h5 rfl;clear hcmp hbit hqv
   repeat' (first|refine sX ?_ ?_<;>intro h|simp only[go_sem, *])
   refine Ct t1 (by simp only[go_sem,dN]) rfl ?_
   repeat' (first|refine sX ?_ ?_<;>intro h|refine aj (t2) rfl ?_|simp only[go_sem, *])
  |succ j =>
   have e0:(((j+1:Nat):Int)-1)=(j:Int):=by omega
   rw[e0]at h12;have hj:j < 32*(aO x.natAbs).length:=by omega
   have g1:decide (((j:Nat):Int)>=0)=true:=by simp
   have hbj:=hbit j hj;obtain ⟨d1,d2⟩:=XK x.natAbs y.natAbs j hq0;have ZO:(aO (x.natAbs / 2 ^ (j+1) % y.natAbs)).length<=400000:=Nat.le_trans (eF (Nat.le_of_lt (Nat.mod_lt _ hq0))) hy';have hsh:=ZM true (aO (x.natAbs / 2 ^ (j+1) % y.natAbs)) (x.natAbs / 2 ^ j % 2) (dR _) (by omega) (by omega);rw[bW]at hsh;have hRl:(aO (2*(x.natAbs / 2 ^ (j+1) % y.natAbs)+x.natAbs / 2 ^ j % 2)).length<=400000+1:=GZ (b:=y.natAbs) (by have:=Nat.mod_lt (x.natAbs / 2 ^ (j+1)) hq0;omega) hy';have g5:IntKind.i64.wrap ((j:Int)-1)=(j:Int)-1:=wrap_i64 (by omega) (by omega);have FC:val q % 2 ^ (j+1)=0:=by rw[hqv];exact Nat.mul_mod_left _ _
   have hjq:j / 32 < q.length:=by omega
   obtain ⟨q1,q2⟩:=XL hqo FC hjq;have hroom:=IV hqo FC;have hu1:q.getD (j / 32) 0 < B:=Nat.lt_of_le_of_lt (Nat.le_add_right _ _) hroom;have hp1:2 ^ (j % 32) < B:=Nat.lt_of_le_of_lt (Nat.le_add_left _ _) hroom;have ZP:q.getD (j / 32) 0 ||| 2 ^ (j % 32)=q.getD (j / 32) 0+2 ^ (j % 32):=or_bit (D9 hqo FC)
   have hqget:q[j / 32]?=some (q.getD (j / 32) 0):=by rw[List.getD_eq_getElem?_getD,List.getElem?_eq_getElem hjq];rfl
   have e2:x.natAbs / 2 ^ (j+1) / y.natAbs*2 ^ (j+1)=2*(x.natAbs / 2 ^ (j+1) / y.natAbs)*2 ^ j:=by rw[Nat.pow_succ];rw[Nat.mul_comm 2,Nat.mul_assoc,Nat.mul_comm 2]
   rw[hqv,e2]at q2;rw[e2]at hqv;generalize hQ1:x.natAbs / 2 ^ j / y.natAbs=Q1 at *;generalize hR1:x.natAbs / 2 ^ j % y.natAbs=R1 at *;generalize x.natAbs / 2 ^ (j+1) / y.natAbs=Q0 at *;generalize 2*(x.natAbs / 2 ^ (j+1) % y.natAbs)+x.natAbs / 2 ^ j % 2=R0 at *;generalize x.natAbs / 2 ^ (j+1) % y.natAbs=R00 at *;generalize x.natAbs / 2 ^ j % 2=bt at *;have hc1:=hcmp R0 (by omega)
   by_cases hR:y.natAbs<=R0
   ·rw[if_pos hR]at d1 d2
    have g2:decide (AQ (aO R0) (aO y.natAbs)>=0)=true:=decide_eq_true ((zo _ _).2 hR);obtain ⟨rr,m1,m2,m3⟩:=Ld true yn (aO R0) (aO y.natAbs) (dR _) (dR _) (eF hR) (by rw[bW,bW];exact hR) (by omega);rw[bW,bW]at m2;have m4:=Og true rr false;rw[pU m1,m2,<- d1]at m4;have g3:IntKind.i64.wrap ((j:Int).tdiv 32)=((j / 32:Nat):Int):=by
     rw[show (j:Int).tdiv 32=((j / 32:Nat):Int) by rw[Int.tdiv_eq_ediv_of_nonneg (by omega)];omega];exact wrap_i64 (by omega) (by omega)
    have g4:(j:Int).tmod 32=((j % 32:Nat):Int):=by rw[Int.tmod_eq_emod_of_nonneg (by omega)];omega
    have g6:(((j % 32:Nat):Int) < 0)↔False:=by simp;omega
    have g7:IntKind.u32.wrap (1*2 ^ (min (j % 32) 32))=((2 ^ (j % 32):Nat):Int):=by
     rw[Nat.min_eq_left (by omega),Int.one_mul];have:(2:Int) ^ (j % 32)=((2 ^ (j % 32):Nat):Int):=by simp
     rw[this];exact qI hp1
    have g8:=WL (P:=Tryz.prog) (h:=s'.hp) 215 (a:=q.getD (j / 32) 0) (b:=2 ^ (j % 32)) hu1 hp1;have hjl:j / 32 < (aO x.natAbs).length:=by omega
    have als:j / 32+1<=(aO x.natAbs).length:=hjl;rw[ZP]at g8 q1 q2;clear hcmp hbit t1 t2 FC hroom ZP m1 m2 ZO hRl hu1 hp1;generalize q.getD (j / 32) 0=u at *;generalize 2 ^ (j % 32)=pw at *
    repeat' (first|refine sX ?_ ?_<;>intro h|refine aj (hbj) rfl ?_|refine aj (hsh) rfl ?_|refine aj (hc1) rfl ?_|refine aj (m3) rfl ?_|refine aj (m4) rfl ?_|simp only[go_sem, *])
    refine hG j _ (Nat.lt_succ_self j) ⟨j,q.set (j / 32) (u+pw),rfl,by omega,rfl,?_,?_,?_,?_,by simp[hql],q1,?_⟩
    ·rw[hR1,d1];rfl
    ·simp only[go_sem,h51]
    ·simp only[go_sem,h4]
    ·simp only[go_sem,h5]
    ·rw[q2,hQ1,d2,Nat.add_mul,Nat.one_mul]
   ·rw[if_neg hR]at d1 d2
    have g2:decide (AQ (aO R0) (aO y.natAbs)>=0)=false:=decide_eq_false (fun h=>hR ((zo _ _).1 h));clear hcmp hbit t1 t2 FC hroom ZP ZO hRl q1 q2 hu1 hp1
    repeat' (first|refine sX ?_ ?_<;>intro h|refine aj (hbj) rfl ?_|refine aj (hsh) rfl ?_|refine aj (hc1) rfl ?_|simp only[go_sem, *])
    refine hG j _ (Nat.lt_succ_self j) ⟨j,q,rfl,by omega,rfl,?_,?_,?_,?_,hql,hqo,?_⟩
    ·rw[hR1,d1];rfl
    ·exact h51
    ·exact h4
    ·exact h5
    ·rw[hqv,hQ1,d2,Nat.add_zero]
theorem Li (xn yn:Bool) (x y:Int) (hx:fits x) (hy:fits y) (hy0:y≠0):aB Tryz.prog 214 [encI xn x,encI yn y] (.tup [encI true (x.tdiv y),encI true (x.tmod y)]):=by
 by_cases h:(aO x.natAbs).length<=2/\(aO y.natAbs).length<=2
 ·exact Vd xn yn x y h.1 h.2 hy0
 ·exact ZN xn yn x y hx hy h hy0
end ama
end Go.Vm
end
section
namespace Go.Vm
open Go Go.Proofs Go.Whole
namespace ama
open Go.Proofs.Tryz
theorem uT (nn:Bool) (z:Int) (m:Nat) (hm:m<=4611686018427387904):aB Tryz.prog 144 [encI nn z,i64 m] (.tup [i64 (if z.natAbs<=m then z else 0),.bool (decide (z.natAbs<=m))]):=by
 refine au orders Tryz.func144 rfl (by kernel_rfl) bf (by kernel_rfl) rfl (fun hs=>?_);clear hs;have f1:=fJ (n:=m) (by omega)
 by_cases hl:(aO z.natAbs).length<=2
 ·have hz:z.natAbs < 18446744073709551616:=by have:=eP hl;rwa [show B ^ 2=18446744073709551616 by decide]at this
  have g1:decide (((aO z.natAbs).length:Int) > 2)=false:=decide_eq_false (by omega);have w:=Lg nn z hz
  by_cases hc:z.natAbs<=m
  ·have g2:decide (((z.natAbs:Nat):Int) > (m:Int))=false:=decide_eq_false (by omega)
   rw[if_pos hc,decide_eq_true hc];have g3:IntKind.i64.wrap ((z.natAbs:Nat):Int)=z.natAbs:=wrap_i64 (by omega) (by omega);have g4:IntKind.i64.wrap (0-((z.natAbs:Nat):Int))=-(z.natAbs:Int):=by rw[show (0-((z.natAbs:Nat):Int))=-(z.natAbs:Int) by omega];exact wrap_i64 (by omega) (by omega)
   clear hc
   by_cases hs:z < 0
   ·have g5:decide (z < 0)=true:=decide_eq_true hs
    have e:-(z.natAbs:Int)=z:=by omega
    unfold encI mE at w;rw[g5]at w
    repeat' (first|refine sX ?_ ?_<;>intro h|refine aj (w) rfl ?_|simp only[go_sem, *])
   ·have g5:decide (z < 0)=false:=decide_eq_false hs
    have e:(z.natAbs:Int)=z:=by omega
    rw[e]at g3 g2;unfold encI mE at w;rw[g5,e]at w
    repeat' (first|refine sX ?_ ?_<;>intro h|refine aj (w) rfl ?_|simp only[go_sem, *])
  ·have g2:decide (((z.natAbs:Nat):Int) > (m:Int))=true:=decide_eq_true (by omega)
   rw[if_neg hc,decide_eq_false hc];clear hc
   repeat' (first|refine sX ?_ ?_<;>intro h|refine aj (w) rfl ?_|simp only[go_sem, *])
 ·have g1:decide (((aO z.natAbs).length:Int) > 2)=true:=decide_eq_true (by omega)
  have hc:¬z.natAbs<=m:=by
   intro h;exact hl (Fu.2 (by rw[show B ^ 2=18446744073709551616 by decide];omega))
  rw[if_neg hc,decide_eq_false hc];clear hc
  repeat' (first|refine sX ?_ ?_<;>intro h|simp only[go_sem, *])
theorem ZQ (x y:Int) (hx:fits x) (hy:fits y):aB Tryz.prog 249 [encI true x,encI true y] (encI true (Int.gcd x y)):=by
 refine au orders Tryz.func249 rfl (by kernel_rfl) (fun d=>d==2||d==3||d==4||d==5||d==6||d==1000002||d==1000006) (by kernel_rfl) rfl (fun hs=>?_);clear hs;have a1:=ZE true x;have a2:=ZE true y
 repeat' (first|refine sX ?_ ?_<;>intro h|refine aj (a1) rfl ?_|refine aj (a2) rfl ?_|simp only[go_sem, *])
 refine jD (fun m s'=>∃a b:Nat,m=b/\hget s'.hp (2,0)=some ⟨(mE true a).map .t,2,1,iW,true,true⟩/\hget s'.hp (3,0)=some ⟨(mE true b).map .t,2,1,iW,true,true⟩/\hget s'.hp (4,0)=some ⟨[.t (.sl false []),.t (.bool false)],2,1,iW,true,true⟩/\fits a/\fits b/\Nat.gcd a b=Int.gcd x y) y.natAbs
  ⟨x.natAbs,y.natAbs,rfl,rfl,rfl,rfl,lq (by omega) hx,lq (by omega) hy,rfl⟩ ?_
 rintro b s' ⟨a,_,rfl,h2,h3,h4,ha,hb,hg⟩ hfr G hG
 have c2:=hfr 2 (by kernel_rfl);have c3:=hfr 3 (by kernel_rfl);have c4:=hfr 4 (by kernel_rfl);clear hfr;simp only[go_sem]at c2 c3 c4;change _=PV.ad (2,0) 1 0 at c2;change _=PV.ad (3,0) 1 0 at c3;change _=PV.ad (4,0) 1 0 at c4;have sg:=Cy true (b:Int)
 by_cases h0:b=0
 ·subst h0
  rw[Nat.gcd_zero_right]at hg;subst hg;rw[show ((0:Nat):Int).sign=0 from rfl]at sg
  repeat' (first|refine sX ?_ ?_<;>intro h|refine aj (sg) rfl ?_|simp only[go_sem, *])
 ·rw[show ((b:Nat):Int).sign=1 from Int.sign_eq_one_of_pos (by omega)]at sg
  have dv:=Li true true (a:Int) (b:Int) ha hb (by omega);rw[show (a:Int).tmod (b:Int)=((a % b:Nat):Int) from rfl]at dv;have hlt:a % b < b:=Nat.mod_lt _ (by omega);have hg2:Nat.gcd b (a % b)=Int.gcd x y:=by rw[<- hg,Nat.gcd_comm a b,Nat.gcd_rec b a,Nat.gcd_comm]
  generalize (a:Int).tdiv (b:Int)=q at *;generalize a % b=r at *
  repeat' (first|refine sX ?_ ?_<;>intro h|refine aj (sg) rfl ?_|refine aj (dv) rfl ?_|simp only[go_sem, *])
  refine hG r _ hlt ⟨b,r,rfl,?_,?_,?_,hb,lq (by omega) hb,hg2⟩
  ·simp only[go_sem,h2]
  ·simp only[go_sem,h3]
  ·simp only[go_sem,h4]
def AY:Nat->List Nat->Nat
 |o,[]=>o
 |o,x::l=>AY (Nat.lcm o x) l
def Sw (n:Nat):Tr:=encI true (n:Int)
theorem Oj {a d:Nat} (hd:d≠0) (h:a∣d) (hf:fits (d:Int)):fits (a:Int):=lq (by have:=Nat.le_of_dvd (Nat.pos_of_ne_zero hd) h;omega) hf
theorem XP (o x:Nat) (ho:0 < o) (hx:0 < x):(o:Int)*(x:Int).tdiv (Int.gcd o x:Nat)=((Nat.lcm o x:Nat):Int):=by
 have hg:Int.gcd (o:Int) (x:Int)=Nat.gcd o x:=rfl;rw[hg,show (x:Int).tdiv ((Nat.gcd o x:Nat):Int)=((x / Nat.gcd o x:Nat):Int) from rfl,<- Int.natCast_mul];congr 1;rw[Nat.lcm,Nat.mul_div_assoc _ (Nat.gcd_dvd_right o x)]
theorem ae9 (nn:Bool) (l:List Nat) (d:Nat) (hd0:d≠0) (hf:fits (d:Int)) (hl:∀x∈l,0 < x/\x∣d) (hlen:l.length<=1000000):aB Tryz.prog 213 [.sl nn (l.map Sw)] (Sw (AY 1 l)):=by
 refine au orders Tryz.func213 rfl (by kernel_rfl) (fun d=>d==2||d==3||d==5||d==6||d==7) (by kernel_rfl) rfl (fun hs=>?_);clear hs;unfold Sw;have o1:=Af 1 ⟨by decide,by decide⟩
 repeat' (first|refine sX ?_ ?_<;>intro h|refine aj (o1) rfl ?_|simp only[go_sem, *])
 refine aC l (fun k s'=>∃o:Nat,hget s'.hp (3,0)=some ⟨(mE true o).map .t,2,1,iW,true,true⟩/\hget s'.hp (2,0)=some ⟨[.t (.sl false []),.t (.bool false)],2,1,iW,true,true⟩/\0 < o/\o∣d/\AY 1 l=AY o (l.drop k)) rfl rfl (by first|assumption|omega) (by kernel_rfl) (fun _ _ _ _ hj=>hj) (fun _ _ _ hj=>hj) ?_ (fun k x s' hx hd hk hJ hix hfr G hG=>?_) (fun s' hJ hfr=>?_)
 ·exact ⟨1,rfl,rfl,Nat.one_pos,Nat.one_dvd d,rfl⟩
 ·have c3:=hfr 3 (by kernel_rfl)
  have c9:=hfr 9 (by kernel_rfl);clear hfr;simp only[go_sem]at c3 c9;change _=PV.ad (3,0) 1 0 at c3;obtain ⟨o,h3,h2,ho,hod,hJ⟩:=hJ;obtain ⟨hx0,hxd⟩:=hl x (List.mem_of_getElem? hx);rw[hd,AY]at hJ;have fo:=Oj hd0 hod hf;have fx:=Oj hd0 hxd hf;have g0:=Nat.gcd_pos_of_pos_left x ho;have hgd:=ZQ (o:Int) (x:Int) fo fx;have hdv:=Li true true (x:Int) (Int.gcd o x:Nat) fx (lq (by have:=Nat.gcd_le_right o hx0;show Nat.gcd o x<=x;exact this) fx) (by have:Int.gcd (o:Int) (x:Int)=Nat.gcd o x:=rfl;omega);have hmu:=rR true true (o:Int) ((x:Int).tdiv (Int.gcd o x:Nat)) fo (lq (by rw[show (x:Int).tdiv (Int.gcd o x:Nat)=((x / Nat.gcd o x:Nat):Int) from rfl];rw[Int.natAbs_natCast,Int.natAbs_natCast];exact Nat.div_le_self _ _) fx);rw[XP o x ho hx0]at hmu;have hlp:0 < Nat.lcm o x:=Nat.lcm_pos ho hx0;have hld:Nat.lcm o x∣d:=Nat.lcm_dvd hod hxd;generalize (x:Int).tdiv (Int.gcd o x:Nat)=u at *;generalize (x:Int).tmod (Int.gcd o x:Nat)=u2 at *;generalize Int.gcd (o:Int) (x:Int)=g at *
  repeat' (first|refine sX ?_ ?_<;>intro h|refine aj (hgd) rfl ?_|refine aj (hdv) rfl ?_|refine aj (hmu) rfl ?_|simp only[go_sem, *])
  refine hG _ ⟨Nat.lcm o x,?_,?_,hlp,hld,hJ⟩
  ·simp only[go_sem,h3]
  ·simp only[go_sem,h2]
 ·obtain ⟨o,h3,h2,ho,hod,hJ⟩:=hJ
  have c2:=hfr 2 (by kernel_rfl);have c3:=hfr 3 (by kernel_rfl);clear hfr;simp only[go_sem]at c2 c3;change _=PV.ad (3,0) 1 0 at c3;change _=PV.ad (2,0) 1 0 at c2;rw[List.drop_length,AY]at hJ;rw[hJ]
  repeat' (first|refine sX ?_ ?_<;>intro h|simp only[go_sem, *])
attribute [go_sem] Tryz.results216 Tryz.results255 Tryz.results256 Tryz.results217 Tryz.results254 Tryz.results210 Tryz.results140 Tryz.results147 Tryz.results148 Tryz.results80 Tryz.results142 Tryz.results211 Tryz.results141 Tryz.results145 Tryz.results146 Tryz.results209 Tryz.results143
abbrev dW:TypeId:=131
theorem J9 (a:Int) (h:jM a):aB Tryz.prog 255 [i64 a] (.int .u64 (a.natAbs:Int)):=by
 obtain ⟨h1,h2⟩:=h;refine au orders Tryz.func255 rfl (by kernel_rfl) bf (by kernel_rfl) rfl (fun hs=>?_);clear hs
 by_cases hz:a < 0
 ·have f0:decide (a < 0)=true:=decide_eq_true hz
  have f1:=xA h1 hz;have f2:=xB (n:=a.natAbs) (by omega) (by omega);rw[Nat.mod_eq_of_lt (by omega)]at f2
  repeat' (first|refine sX ?_ ?_<;>intro h|simp only[go_sem, *])
 ·have f0:decide (a < 0)=false:=decide_eq_false hz
  have f1:=sQ h2 (by omega)
  repeat' (first|refine sX ?_ ?_<;>intro h|simp only[go_sem, *])
theorem Qe (x y:Nat) (hx:x < 18446744073709551616) (hy:y < 18446744073709551616) :
  let x0:=x % 4294967296;let x1:=x / 4294967296;let y0:=y % 4294967296;let y1:=y / 4294967296
  x0*y0<=18446744065119617025/\x1*y0<=18446744065119617025/\x0*y1<=18446744065119617025/\x1*y1<=18446744065119617025/\x*y=x0*y0+4294967296*(x1*y0+x0*y1)+18446744073709551616*(x1*y1):=by
 intro x0 x1 y0 y1;have hx0:x0<=4294967295:=by show x % 4294967296<=_;omega
 have hx1:x1<=4294967295:=by show x / 4294967296<=_;omega
 have hy0:y0<=4294967295:=by show y % 4294967296<=_;omega
 have hy1:y1<=4294967295:=by show y / 4294967296<=_;omega
 refine ⟨Nat.mul_le_mul hx0 hy0,Nat.mul_le_mul hx1 hy0,Nat.mul_le_mul hx0 hy1,Nat.mul_le_mul hx1 hy1,?_⟩;have ex:x=x0+4294967296*x1:=by show x=x % 4294967296+4294967296*(x / 4294967296);omega
 have ey:y=y0+4294967296*y1:=by show y=y % 4294967296+4294967296*(y / 4294967296);omega
 rw[ex,ey];simp only[Nat.add_mul,Nat.mul_add];have e1:4294967296*x1*(4294967296*y1)=18446744073709551616*(x1*y1):=by rw[Nat.mul_mul_mul_comm]
 have e2:4294967296*x1*y0=4294967296*(x1*y0):=Nat.mul_assoc _ _ _;have e3:x0*(4294967296*y1)=4294967296*(x0*y1):=Nat.mul_left_comm _ _ _;rw[e1,e2,e3];omega
section
variable {P:Program}{h:Hp} (t:TypeId)
theorem Cz {a:Nat} (ha:a < 18446744073709551616):cK P h .and t (.t (.int .u64 (a:Int))) (.t (.int .u64 4294967295))=some (.t (.int .u64 ((a % 4294967296:Nat):Int))):=by
 rw[KM];have e1:BitVec.ofInt IntKind.u64.bits (a:Int)=BitVec.ofNat 64 a:=nG 64 a;have e2:BitVec.ofInt IntKind.u64.bits 4294967295=BitVec.ofNat 64 4294967295:=nG 64 4294967295;rw[e1,e2];have e3:(BitVec.ofNat 64 a &&& BitVec.ofNat 64 4294967295).toNat=a % 4294967296:=by
  rw[BitVec.toNat_and,BitVec.toNat_ofNat,BitVec.toNat_ofNat,Nat.mod_eq_of_lt ha];exact Nat.and_two_pow_sub_one_eq_mod a 32
 have e4:IntKind.u64.wrap (((BitVec.ofNat 64 a &&& BitVec.ofNat 64 4294967295).toNat:Nat):Int)=((a % 4294967296:Nat):Int):=by
  rw[e3];exact fJ (by omega)
 exact congrArg (fun z=>some (PV.t (.int .u64 z))) e4
end
theorem ZR (x y:Nat) (hx:x < 18446744073709551616) (hy:y < 18446744073709551616):aB Tryz.prog 254 [.int .u64 (x:Int),.int .u64 (y:Int)] (.tup [.int .u64 ((x*y / 18446744073709551616:Nat):Int),.int .u64 ((x*y % 18446744073709551616:Nat):Int)]):=by
 obtain ⟨b1,b2,b3,b4,e⟩:=Qe x y hx hy;have mx:=Cz (P:=Tryz.prog) (h:=fun _=>[]) 38 hx;have my:=Cz (P:=Tryz.prog) (h:=fun _=>[]) 38 hy;have hlo:=vv x y;rw[e]at hlo ⊢;clear e hx hy;have m1:=vv (x % 4294967296) (y % 4294967296);have m2:=vv (x / 4294967296) (y % 4294967296);have m3:=vv (x % 4294967296) (y / 4294967296);have m4:=vv (x / 4294967296) (y / 4294967296);generalize x % 4294967296*(y % 4294967296)=p0 at *;generalize x / 4294967296*(y % 4294967296)=p1 at *;generalize x % 4294967296*(y / 4294967296)=p2 at *;generalize x / 4294967296*(y / 4294967296)=p3 at *;rw[Nat.mod_eq_of_lt (show p0 < 18446744073709551616 by omega)]at m1;rw[Nat.mod_eq_of_lt (show p1 < 18446744073709551616 by omega)]at m2;rw[Nat.mod_eq_of_lt (show p2 < 18446744073709551616 by omega)]at m3;rw[Nat.mod_eq_of_lt (show p3 < 18446744073709551616 by omega)]at m4;have s1:=oJ p1 (p0 / 4294967296);rw[Nat.mod_eq_of_lt (by omega)]at s1;have mw:=Cz (P:=Tryz.prog) (h:=fun _=>[]) 38 (a:=p1+p0 / 4294967296) (by omega);have s2:=oJ ((p1+p0 / 4294967296) % 4294967296) p2;rw[Nat.mod_eq_of_lt (show (p1+p0 / 4294967296) % 4294967296+p2 < 18446744073709551616 by omega)]at s2;have s3:=oJ p3 ((p1+p0 / 4294967296) / 4294967296);rw[Nat.mod_eq_of_lt (by omega)]at s3;have s4:=oJ (p3+(p1+p0 / 4294967296) / 4294967296) (((p1+p0 / 4294967296) % 4294967296+p2) / 4294967296);rw[Nat.mod_eq_of_lt (show p3+(p1+p0 / 4294967296) / 4294967296+((p1+p0 / 4294967296) % 4294967296+p2) / 4294967296 < 18446744073709551616 by omega)]at s4;have eh:(p0+4294967296*(p1+p2)+18446744073709551616*p3) / 18446744073709551616=p3+(p1+p0 / 4294967296) / 4294967296+((p1+p0 / 4294967296) % 4294967296+p2) / 4294967296:=by omega
 rw[eh];clear eh b1 b2 b3 b4;refine au orders Tryz.func254 rfl (by kernel_rfl) bf (by kernel_rfl) rfl (fun hs=>?_)
 repeat' (first|refine sX ?_ ?_<;>intro h|simp only[go_sem, *])
theorem qJ:most=4611686018427387903:=rfl
theorem AZ (a b:Int) (ha:a.natAbs<=most) (hb:b.natAbs<=most):aB Tryz.prog 216 [i64 a,i64 b] (.tup [i64 (if a.natAbs*b.natAbs<=most then a*b else 0),.bool (decide (a.natAbs*b.natAbs<=most))]):=by
 rw[qJ]at ha hb ⊢;have s1:=J9 a ⟨by omega,by omega⟩;have s2:=J9 b ⟨by omega,by omega⟩;have s3:=ZR a.natAbs b.natAbs (by omega) (by omega);have adA:a*b=if decide (a < 0) != decide (b < 0) then -((a.natAbs*b.natAbs:Nat):Int) else ((a.natAbs*b.natAbs:Nat):Int):=by
  rw[Int.natCast_mul]
  by_cases h1:a < 0
  ·have e1:((a.natAbs:Nat):Int)=-a:=by omega
   by_cases h2:b < 0
   ·have e2:((b.natAbs:Nat):Int)=-b:=by omega
    simp[h1,h2,e1,e2,Int.neg_mul,Int.mul_neg]
   ·have e2:((b.natAbs:Nat):Int)=b:=by omega
    simp[h1,h2,e1,e2,Int.neg_mul,Int.mul_neg]
  ·have e1:((a.natAbs:Nat):Int)=a:=by omega
   by_cases h2:b < 0
   ·have e2:((b.natAbs:Nat):Int)=-b:=by omega
    simp[h1,h2,e1,e2,Int.neg_mul,Int.mul_neg]
   ·have e2:((b.natAbs:Nat):Int)=b:=by omega
    simp[h1,h2,e1,e2,Int.neg_mul,Int.mul_neg]
 rw[adA];clear adA;generalize a.natAbs*b.natAbs=p at *
 by_cases hp:p<=4611686018427387903
 ·have e1:p / 18446744073709551616=0:=by omega
  have e2:p % 18446744073709551616=p:=by omega
  rw[e1,e2]at s3;rw[if_pos hp,decide_eq_true hp];have g1:decide (((0:Nat):Int) > 0)=false:=rfl;have g2:decide ((p:Int) > 4611686018427387903)=false:=decide_eq_false (by omega);have g3:IntKind.i64.wrap (p:Int)=p:=wrap_i64 (by omega) (by omega);have g4:IntKind.i64.wrap (0-(p:Int))=-(p:Int):=by rw[show (0-(p:Int))=-(p:Int) by omega];exact wrap_i64 (by omega) (by omega)
  refine au orders Tryz.func216 rfl (by kernel_rfl) bf (by kernel_rfl) rfl (fun hs=>?_);clear hs ha hb hp e1 e2
  by_cases hd:(decide (a < 0) != decide (b < 0))=true
  ·rw[if_pos hd]
   repeat' (first|refine sX ?_ ?_<;>intro h|refine aj (s1) rfl ?_|refine aj (s2) rfl ?_|refine aj (s3) rfl ?_|simp only[go_sem, *])
  ·rw[if_neg hd]
   have hd':(decide (a < 0) != decide (b < 0))=false:=by simpa using hd
   clear hd
   repeat' (first|refine sX ?_ ?_<;>intro h|refine aj (s1) rfl ?_|refine aj (s2) rfl ?_|refine aj (s3) rfl ?_|simp only[go_sem, *])
 ·rw[if_neg hp,decide_eq_false hp]
  refine au orders Tryz.func216 rfl (by kernel_rfl) bf (by kernel_rfl) rfl (fun hs=>?_);clear hs ha hb
  by_cases h0:p / 18446744073709551616=0
  ·rw[h0,Nat.mod_eq_of_lt (by omega)]at s3
   have g1:decide (((0:Nat):Int) > 0)=false:=rfl;have g2:decide ((p:Int) > 4611686018427387903)=true:=decide_eq_true (by omega);clear h0
   repeat' (first|refine sX ?_ ?_<;>intro h|refine aj (s1) rfl ?_|refine aj (s2) rfl ?_|refine aj (s3) rfl ?_|simp only[go_sem, *])
  ·have g1:decide (((p / 18446744073709551616:Nat):Int) > 0)=true:=decide_eq_true (by omega)
   clear h0;generalize p / 18446744073709551616=u at *;generalize p % 18446744073709551616=v at *
   repeat' (first|refine sX ?_ ?_<;>intro h|refine aj (s1) rfl ?_|refine aj (s2) rfl ?_|refine aj (s3) rfl ?_|simp only[go_sem, *])
theorem ab2 (a b:Int) (ha:a.natAbs<=most) (hb:b.natAbs<=most):aB Tryz.prog 256 [i64 a,i64 b] (i64 (Int.gcd a b:Nat)):=by
 rw[qJ]at ha hb;have s1:=J9 a ⟨by omega,by omega⟩;have s2:=J9 b ⟨by omega,by omega⟩;refine au orders Tryz.func256 rfl (by kernel_rfl) bf (by kernel_rfl) rfl (fun hs=>?_);clear hs
 repeat' (first|refine sX ?_ ?_<;>intro h|refine aj (s1) rfl ?_|refine aj (s2) rfl ?_|simp only[go_sem, *])
 refine jD (fun m s'=>∃x y:Nat,m=y/\s'.sl 5=.t (.int .u64 (x:Int))/\s'.sl 6=.t (.int .u64 (y:Int))/\x<=4611686018427387903/\y<=4611686018427387903/\Nat.gcd x y=Int.gcd a b) b.natAbs ⟨a.natAbs,b.natAbs,rfl,rfl,rfl,ha,hb,rfl⟩ ?_
 rintro y s' ⟨x,_,rfl,h5,h6,hx,hy,hg⟩ hfr G hG
 clear hfr
 by_cases h0:y=0
 ·subst h0
  rw[Nat.gcd_zero_right]at hg;subst hg;have g1:decide (((0:Nat):Int) > 0)=false:=rfl;have g2:IntKind.i64.wrap ((Int.gcd a b:Nat):Int)=(Int.gcd a b:Nat):=wrap_i64 (by omega) (by omega)
  repeat' (first|refine sX ?_ ?_<;>intro h|simp only[go_sem, *])
 ·have g1:decide (((y:Nat):Int) > 0)=true:=decide_eq_true (by omega)
  have g2:((y:Nat):Int)=0↔False:=by simp;omega
  have g3:(x:Int).tmod (y:Int)=((x % y:Nat):Int):=rfl;have hlt:x % y < y:=Nat.mod_lt _ (by omega);have hg2:Nat.gcd y (x % y)=Int.gcd a b:=by rw[<- hg,Nat.gcd_comm x y,Nat.gcd_rec y x,Nat.gcd_comm]
  repeat' (first|refine sX ?_ ?_<;>intro h|simp only[go_sem, *])
  exact hG (x % y) _ hlt ⟨y,x % y,rfl,rfl,rfl,hy,by omega,hg2⟩
theorem Ol (n d:Int) (hn:n.natAbs<=most) (hd:0 < d) (hd2:d.natAbs<=most):aB Tryz.prog 217 [i64 n,i64 d] (aH (Rat.divInt n d)):=by
 have hg:=ab2 n d hn hd2;obtain ⟨e1,e2⟩:=AV (a:=n) hd;have hgp:0 < Int.gcd n d:=Int.gcd_pos_of_ne_zero_right n (by omega);have b1:(n.tdiv (Int.gcd n d)).natAbs<=n.natAbs:=by rw[Int.natAbs_tdiv];exact Nat.div_le_self _ _
 have b2:(d.tdiv (Int.gcd n d)).natAbs<=d.natAbs:=by rw[Int.natAbs_tdiv];exact Nat.div_le_self _ _
 have hs:Whole.small (Rat.divInt n d)=true:=by
  simp only[Whole.small,Bool.and_eq_true,decide_eq_true_eq];rw[e1];have:((Rat.divInt n d).den:Int).natAbs=(Rat.divInt n d).den:=Int.natAbs_natCast _;rw[e2]at this;omega
 unfold aH;rw[fF hs,e1,e2];rw[qJ]at hn hd2;have g1:IntKind.i64.wrap (n.tdiv (Int.gcd n d))=n.tdiv (Int.gcd n d):=wrap_i64 (by omega) (by omega);have g2:IntKind.i64.wrap (d.tdiv (Int.gcd n d))=d.tdiv (Int.gcd n d):=wrap_i64 (by omega) (by omega);have g3:((Int.gcd n d:Nat):Int)=0↔False:=by simp;omega
 clear e1 e2 b1 b2 hs hn hd2 hd hgp;refine au orders Tryz.func217 rfl (by kernel_rfl) (fun d=>d==4) (by kernel_rfl) rfl (fun hs=>?_);clear hs
 repeat' (first|refine sX ?_ ?_<;>intro h|refine aj (hg) rfl ?_|simp only[go_sem, *])
def gH (q:Rat):Prop:=(aO q.num.natAbs).length<=100000/\(aO q.den).length<=100000
theorem ZT {q:Rat}{A D:Int} (h1:q.num=A) (h2:(q.den:Int)=D):dA q=if A.natAbs<=most/\D.natAbs<=most then [i64 A,i64 D,.sl false [],.bool false,.sl false [],.bool false] else [i64 0,i64 0]++mE true A++mE true D:=by
 subst h1;have h3:D.natAbs=q.den:=by rw[<- h2];exact Int.natAbs_natCast _
 have h4:decide (D < 0)=false:=decide_eq_false (by omega)
 by_cases hs:Whole.small q=true
 ·obtain ⟨a,b⟩:=lQ hs
  rw[fF hs,if_pos ⟨a,by omega⟩,h2]
 ·have hs':Whole.small q=false:=by simpa using hs
  rw[mM hs',if_neg (fun h=>hs (by simp only[Whole.small,Bool.and_eq_true,decide_eq_true_eq];omega))];unfold mE;rw[h3,h4];rfl
theorem Qf (a b:Int) (hb:b≠0) (ha:fits a) (hbf:fits b):aB Tryz.prog 210 [encI true a,encI true b] (aH (Rat.divInt a b)):=by
 have main:∀a' b':Int,0 < b'->fits a'->fits b'->Rat.divInt a b=Rat.divInt a' b'->(b'=b/\a'=a/\0 < b\/b'=-b/\a'=-a/\b < 0)->aB Tryz.prog 210 [encI true a,encI true b] (aH (Rat.divInt a b)):=by
  intro a' b' hb' fa fb he hcase;rw[he];obtain ⟨e1,e2⟩:=AV (a:=a') hb';have hgp:0 < Int.gcd a' b':=Int.gcd_pos_of_ne_zero_right a' (by omega);have b1:(a'.tdiv (Int.gcd a' b')).natAbs<=a'.natAbs:=by rw[Int.natAbs_tdiv];exact Nat.div_le_self _ _
  have b2:(b'.tdiv (Int.gcd a' b')).natAbs<=b'.natAbs:=by rw[Int.natAbs_tdiv];exact Nat.div_le_self _ _
  have hgb:Int.gcd a' b'<=b'.natAbs:=by show Nat.gcd _ _<=_;exact Nat.gcd_le_right _ (by omega)
  have fg:fits (Int.gcd a' b':Nat):=lq (by omega) fb;have w1:=ZQ a' b' fa fb;have w2:=Li true true a' (Int.gcd a' b':Nat) fa fg (by omega);have w3:=Li true true b' (Int.gcd a' b':Nat) fb fg (by omega);have w4:=uT true (a'.tdiv (Int.gcd a' b')) most (by decide);have w5:=uT true (b'.tdiv (Int.gcd a' b')) most (by decide);rw[show ((most:Nat):Int)=4611686018427387903 from rfl]at w4 w5;unfold aH;rw[ZT e1 e2];clear e1 e2 b1 b2 hgb fg he fa fb ha hbf hgp;generalize a'.tdiv (Int.gcd a' b')=A at *;generalize b'.tdiv (Int.gcd a' b')=D at *;generalize a'.tmod (Int.gcd a' b')=A2 at *;generalize b'.tmod (Int.gcd a' b')=D2 at *;generalize Int.gcd a' b'=g at *;have n1:=Qa true a;have n2:=Qa true b;have sg:=Cy true b;have hsg:b.sign=if b < 0 then -1 else 1:=by
   split
   ·rename_i h;exact Int.sign_eq_neg_one_of_neg h
   ·rename_i h;exact Int.sign_eq_one_of_pos (by omega)
  rw[hsg]at sg;have hgoal:∀R:List Tr,(A.natAbs<=most/\D.natAbs<=most->R=[i64 A,i64 D,.sl false [],.bool false,.sl false [],.bool false])->(¬(A.natAbs<=most/\D.natAbs<=most)->R=[i64 0,i64 0]++mE true A++mE true D)->aB Tryz.prog 210 [encI true a,encI true b] (.agg R):=by
   intro R hR1 hR2
   by_cases hA:A.natAbs<=most
   ·rw[if_pos hA,decide_eq_true hA]at w4
    by_cases hD:D.natAbs<=most
    ·rw[if_pos hD,decide_eq_true hD]at w5
     rw[hR1 ⟨hA,hD⟩];clear hR1 hR2 hA hD;rcases hcase with ⟨rfl,rfl,hb0⟩|⟨rfl,rfl,hb0⟩
     ·rw[if_neg (by omega)]at sg
      clear hb0 hb' hsg hb;refine au orders Tryz.func210 rfl (by kernel_rfl) (fun d=>d==2||d==3||d==4||d==5) (by kernel_rfl) rfl (fun hs=>?_)
      repeat' (first|refine sX ?_ ?_<;>intro h|refine aj (sg) rfl ?_|refine aj (w1) rfl ?_|refine aj (w2) rfl ?_|refine aj (w3) rfl ?_|refine aj (w4) rfl ?_|refine aj (w5) rfl ?_|simp only[go_sem, *])
     ·rw[if_pos hb0]at sg
      clear hb0 hb' hsg hb;refine au orders Tryz.func210 rfl (by kernel_rfl) (fun d=>d==2||d==3||d==4||d==5) (by kernel_rfl) rfl (fun hs=>?_)
      repeat' (first|refine sX ?_ ?_<;>intro h|refine aj (sg) rfl ?_|refine aj (n1) rfl ?_|refine aj (n2) rfl ?_|refine aj (w1) rfl ?_|refine aj (w2) rfl ?_|refine aj (w3) rfl ?_|refine aj (w4) rfl ?_|refine aj (w5) rfl ?_|simp only[go_sem, *])
    ·rw[if_neg hD,decide_eq_false hD]at w5
     rw[hR2 (fun h=>hD h.2)];clear hR1 hR2 hA hD;rcases hcase with ⟨rfl,rfl,hb0⟩|⟨rfl,rfl,hb0⟩
     ·rw[if_neg (by omega)]at sg
      clear hb0 hb' hsg hb;refine au orders Tryz.func210 rfl (by kernel_rfl) (fun d=>d==2||d==3||d==4||d==5) (by kernel_rfl) rfl (fun hs=>?_)
      repeat' (first|refine sX ?_ ?_<;>intro h|refine aj (sg) rfl ?_|refine aj (w1) rfl ?_|refine aj (w2) rfl ?_|refine aj (w3) rfl ?_|refine aj (w4) rfl ?_|refine aj (w5) rfl ?_|simp only[go_sem, *])
     ·rw[if_pos hb0]at sg
      clear hb0 hb' hsg hb;refine au orders Tryz.func210 rfl (by kernel_rfl) (fun d=>d==2||d==3||d==4||d==5) (by kernel_rfl) rfl (fun hs=>?_)
      repeat' (first|refine sX ?_ ?_<;>intro h|refine aj (sg) rfl ?_|refine aj (n1) rfl ?_|refine aj (n2) rfl ?_|refine aj (w1) rfl ?_|refine aj (w2) rfl ?_|refine aj (w3) rfl ?_|refine aj (w4) rfl ?_|refine aj (w5) rfl ?_|simp only[go_sem, *])
   ·rw[if_neg hA,decide_eq_false hA]at w4
    rw[hR2 (fun h=>hA h.1)];generalize hq:(if D.natAbs<=most then D else 0)=q5 at *;generalize hq2:decide (D.natAbs<=most)=b5 at *;clear hR1 hR2 hA hq hq2;rcases hcase with ⟨rfl,rfl,hb0⟩|⟨rfl,rfl,hb0⟩
    ·rw[if_neg (by omega)]at sg
     clear hb0 hb' hsg hb;refine au orders Tryz.func210 rfl (by kernel_rfl) (fun d=>d==2||d==3||d==4||d==5) (by kernel_rfl) rfl (fun hs=>?_)
     repeat' (first|refine sX ?_ ?_<;>intro h|refine aj (sg) rfl ?_|refine aj (w1) rfl ?_|refine aj (w2) rfl ?_|refine aj (w3) rfl ?_|refine aj (w4) rfl ?_|refine aj (w5) rfl ?_|simp only[go_sem, *])
    ·rw[if_pos hb0]at sg
     clear hb0 hb' hsg hb;refine au orders Tryz.func210 rfl (by kernel_rfl) (fun d=>d==2||d==3||d==4||d==5) (by kernel_rfl) rfl (fun hs=>?_)
     repeat' (first|refine sX ?_ ?_<;>intro h|refine aj (sg) rfl ?_|refine aj (n1) rfl ?_|refine aj (n2) rfl ?_|refine aj (w1) rfl ?_|refine aj (w2) rfl ?_|refine aj (w3) rfl ?_|refine aj (w4) rfl ?_|refine aj (w5) rfl ?_|simp only[go_sem, *])
  exact hgoal _ (fun h=>if_pos h) (fun h=>if_neg h)
 rcases Int.lt_or_lt_of_ne hb with h|h
 ·exact main (-a) (-b) (by omega) (lq (by omega) ha) (lq (by omega) hbf) (Rat.neg_divInt_neg a b).symm (.inr ⟨rfl,rfl,h⟩)
 ·exact main a b h ha hbf rfl (.inl ⟨rfl,rfl,h⟩)
end ama
end Go.Vm
end
section
namespace Go.Vm
open Go Go.Proofs Go.Whole
namespace ama
open Go.Proofs.Tryz
theorem tC {a b m n:Nat} (ha:(aO a).length<=m) (hb:(aO b).length<=n):(aO (a*b)).length<=m+n:=cZ (by
 have h1:=eP ha;have h2:=eP hb;rw[Nat.pow_add];exact Nat.mul_lt_mul'' h1 h2)
theorem Lj {a b n:Nat} (ha:(aO a).length<=n) (hb:(aO b).length<=n):(aO (a+b)).length<=n+1:=by
 rcases Nat.le_total a b with h|h
 ·exact GZ (by omega) hb
 ·exact GZ (b:=a) (by omega) ha
theorem pV {z:Int} (h:jM z):fits z:=Nat.le_trans (cZ (k:=2) (by rw[show B ^ 2=18446744073709551616 by decide];obtain ⟨h1,h2⟩:=h;omega)) (by decide)
@[go_sem] theorem agi:decide ((0:Int) > 0)=false:=by decide
attribute [go_sem] List.append_nil
theorem XQ (q:Rat):((dA q).map PV.t).all PV.one=true:=by unfold dA;split<;>rfl
@[go_sem] theorem agj (q:Rat):(dA q).length=6:=aQ q
@[go_sem] theorem agk (q:Rat):((dA q).map PV.t).all PV.one=true:=XQ q
@[go_sem] theorem afa (q:Rat):((dA q).map PV.t).take 6=(dA q).map PV.t:=List.take_of_length_le (by simp[aQ])
@[go_sem] theorem adB (q:Rat):(dA q).take 6=dA q:=List.take_of_length_le (by simp[aQ])
attribute [go_sem] aH
theorem Sy (n:Int):Rat.divInt n 1=(n:Rat):=by
 have:=Rat.divInt_ofNat n 1;rw[show ((1:Nat):Int)=1 from rfl]at this;rw[this];exact Rat.ext (by rw[Rat.num_mkRat];simp) (by rw[Rat.den_mkRat];simp)
theorem nH (n:Int) (h:jM n):aB Tryz.prog 140 [i64 n] (aH n):=by
 have h1:=Af n h;have h2:=Af 1 ⟨by decide,by decide⟩;have h3:=Qf n 1 (by decide) (pV h) (pV ⟨by decide,by decide⟩);rw[Sy]at h3;refine au orders Tryz.func140 rfl (by kernel_rfl) (fun d=>d==2) (by kernel_rfl) rfl (fun hs=>?_);clear hs
 repeat' (first|refine sX ?_ ?_<;>intro h|refine aj (h1) rfl ?_|refine aj (h2) rfl ?_|refine aj (h3) rfl ?_|simp only[go_sem, *])
theorem Ec (q:Rat):aB Tryz.prog 147 [aH q] (encI true q.num):=by
 unfold aH
 by_cases hs:Whole.small q=true
 ·obtain ⟨h1,h2⟩:=lQ hs
  rw[qJ]at h1;have o:=Af q.num ⟨by omega,by omega⟩;have hp:=q.den_pos;have g:decide ((q.den:Int) > 0)=true:=decide_eq_true (by omega);rw[fF hs];refine au orders Tryz.func147 rfl (by kernel_rfl) (fun d=>d==2) (by kernel_rfl) rfl (fun hs=>?_);clear hs h1 h2
  repeat' (first|refine sX ?_ ?_<;>intro h|refine aj (o) rfl ?_|simp only[go_sem, *])
 ·rw[mM (by simpa using hs)]
  refine au orders Tryz.func147 rfl (by kernel_rfl) (fun d=>d==2) (by kernel_rfl) rfl (fun hs=>?_);clear hs
  repeat' (first|refine sX ?_ ?_<;>intro h|simp only[go_sem, *])
theorem A8 (q:Rat):aB Tryz.prog 148 [aH q] (encI true (q.den:Int)):=by
 unfold aH
 by_cases hs:Whole.small q=true
 ·obtain ⟨h1,h2⟩:=lQ hs
  rw[qJ]at h2;have o:=Af (q.den:Int) ⟨by omega,by omega⟩;have hp:=q.den_pos;have g:decide ((q.den:Int) > 0)=true:=decide_eq_true (by omega);rw[fF hs];refine au orders Tryz.func148 rfl (by kernel_rfl) (fun d=>d==2) (by kernel_rfl) rfl (fun hs=>?_);clear hs h1 h2
  repeat' (first|refine sX ?_ ?_<;>intro h|refine aj (o) rfl ?_|simp only[go_sem, *])
 ·rw[mM (by simpa using hs)]
  have e1:((q.den:Int)).natAbs=q.den:=Int.natAbs_natCast _;have e2:decide ((q.den:Int) < 0)=false:=decide_eq_false (by omega);refine au orders Tryz.func148 rfl (by kernel_rfl) (fun d=>d==2) (by kernel_rfl) rfl (fun hs=>?_);clear hs
  repeat' (first|refine sX ?_ ?_<;>intro h|simp only[go_sem, *])
theorem qK (q:Rat):aB Tryz.prog 80 [aH q] (i64 q.num.sign):=by
 unfold aH
 by_cases hs:Whole.small q=true
 ·have hp:=q.den_pos
  have g:((q.den:Int)==0)=false:=by simp;omega
  rw[fF hs];clear hs;rcases Int.lt_trichotomy q.num 0 with h|h|h
  ·rw[Int.sign_eq_neg_one_of_neg h]
   have g1:decide (q.num < 0)=true:=decide_eq_true h;clear h;refine au orders Tryz.func80 rfl (by kernel_rfl) bf (by kernel_rfl) rfl (fun hs=>?_)
   repeat' (first|refine sX ?_ ?_<;>intro h|simp only[go_sem, *])
  ·rw[h]
   refine au orders Tryz.func80 rfl (by kernel_rfl) bf (by kernel_rfl) rfl (fun hs=>?_);have g1:decide ((0:Int) < 0)=false:=rfl;have g2:decide ((0:Int) > 0)=false:=rfl
   repeat' (first|refine sX ?_ ?_<;>intro h|simp only[go_sem, *])
   all_goals rfl
  ·rw[Int.sign_eq_one_of_pos h]
   have g1:decide (q.num < 0)=false:=decide_eq_false (by omega);have g2:decide (q.num > 0)=true:=decide_eq_true h;clear h;refine au orders Tryz.func80 rfl (by kernel_rfl) bf (by kernel_rfl) rfl (fun hs=>?_)
   repeat' (first|refine sX ?_ ?_<;>intro h|simp only[go_sem, *])
 ·rw[mM (by simpa using hs)]
  have sg:=Cy true q.num;refine au orders Tryz.func80 rfl (by kernel_rfl) bf (by kernel_rfl) rfl (fun hs=>?_);clear hs
  repeat' (first|refine sX ?_ ?_<;>intro h|refine aj (sg) rfl ?_|simp only[go_sem, *])
theorem FD (q:Rat):aB Tryz.prog 142 [aH q] (aH (-q)):=by
 unfold aH;have e1:(-q).num=-q.num:=Rat.neg_num q;have e2:(-q).den=q.den:=Rat.neg_den q;have e3:(-q.num).natAbs=q.num.natAbs:=by omega
 have hsm:Whole.small (-q)=Whole.small q:=by simp only[Whole.small,e1,e2,e3]
 by_cases hs:Whole.small q=true
 ·obtain ⟨h1,h2⟩:=lQ hs
  rw[qJ]at h1;have hp:=q.den_pos;have g:decide ((q.den:Int) > 0)=true:=decide_eq_true (by omega);have g2:IntKind.i64.wrap (0-q.num)=-q.num:=by rw[show 0-q.num=-q.num by omega];exact wrap_i64 (by omega) (by omega)
  rw[fF hs,fF (hsm.trans hs),e1,e2];clear hs hsm h1 h2 e1 e2 e3 hp;refine au orders Tryz.func142 rfl (by kernel_rfl) (fun d=>d==2) (by kernel_rfl) rfl (fun hs=>?_)
  repeat' (first|refine sX ?_ ?_<;>intro h|simp only[go_sem, *])
 ·have hs':Whole.small q=false:=by simpa using hs
  have n1:=Qa true q.num;rw[mM hs',mM (hsm.trans hs'),e1,e2];clear hs hsm hs' e1 e2;refine au orders Tryz.func142 rfl (by kernel_rfl) (fun d=>d==2) (by kernel_rfl) rfl (fun hs=>?_)
  repeat' (first|refine sX ?_ ?_<;>intro h|refine aj (n1) rfl ?_|simp only[go_sem, *])
theorem add_eq (p q:Rat):p+q=Rat.divInt (p.num*q.den+q.num*p.den) ((p.den:Int)*q.den):=by
 rw[Rat.add_def',<- Rat.divInt_ofNat,Int.natCast_mul]
theorem mul_eq (p q:Rat):p*q=Rat.divInt (p.num*q.num) ((p.den:Int)*q.den):=by
 rw[Rat.mul_def',<- Rat.divInt_ofNat,Int.natCast_mul]
structure Slow (p q:Rat):Prop where
 m1:fits (p.num*q.den)
 m2:fits (q.num*p.den)
 m3:fits ((p.den:Int)*q.den)
 s:fits (p.num*q.den+q.num*p.den)
 np:fits p.num
 nq:fits q.num
 dp:fits (p.den:Int)
 dq:fits (q.den:Int)
 m4:fits (p.num*q.num)
theorem slow {p q:Rat} (hp:gH p) (hq:gH q):Slow p q:=by
 obtain ⟨h1,h2⟩:=hp;obtain ⟨h3,h4⟩:=hq;have a1:=tC h1 h4;have a2:=tC h3 h2;have a3:=tC h2 h4;have a4:=tC h1 h3;have e1:(p.num*q.den).natAbs=p.num.natAbs*q.den:=by rw[Int.natAbs_mul,Int.natAbs_natCast]
 have e2:(q.num*p.den).natAbs=q.num.natAbs*p.den:=by rw[Int.natAbs_mul,Int.natAbs_natCast]
 have e3:((p.den:Int)*q.den).natAbs=p.den*q.den:=by rw[Int.natAbs_mul,Int.natAbs_natCast,Int.natAbs_natCast]
 have e4:(p.num*q.num).natAbs=p.num.natAbs*q.num.natAbs:=Int.natAbs_mul _ _;have a5:=Lj a1 a2;refine ⟨?_,?_,?_,?_,Nat.le_trans h1 (by decide),Nat.le_trans h3 (by decide),?_,?_,?_⟩
 ·unfold fits;rw[e1];omega
 ·unfold fits;rw[e2];omega
 ·unfold fits;rw[e3];omega
 ·unfold fits
  have:=eF (a:=(p.num*q.den+q.num*p.den).natAbs) (b:=p.num.natAbs*q.den+q.num.natAbs*p.den) (by rw[<- e1,<- e2];omega);omega
 ·unfold fits;rw[Int.natAbs_natCast];omega
 ·unfold fits;rw[Int.natAbs_natCast];omega
 ·unfold fits;rw[e4];omega
theorem Sz (p q:Rat):(p.den:Int)*q.den≠0:=by
 have h1:=p.den_pos;have h2:=q.den_pos;have:=Nat.mul_pos h1 h2;rw[<- Int.natCast_mul];omega
theorem ab3 (p q:Rat) (hp:gH p) (hq:gH q):aB Tryz.prog 211 [aH p,aH q] (aH (p+q)):=by
 have sl:=slow hp hq;have n1:=Ec p;have n2:=Ec q;have d1:=A8 p;have d2:=A8 q;have m1:=rR true true p.num (q.den:Int) sl.np sl.dq;have m2:=rR true true q.num (p.den:Int) sl.nq sl.dp;have m3:=rR true true (p.den:Int) (q.den:Int) sl.dp sl.dq;have ad:=Qc true true _ _ sl.m1 sl.m2;have qu:=Qf _ _ (Sz p q) sl.s sl.m3;rw[<- add_eq]at qu;have pp:=p.den_pos;have pq:=q.den_pos;have g1:decide ((p.den:Int) > 0)=true:=decide_eq_true (by omega);have g2:decide ((q.den:Int) > 0)=true:=decide_eq_true (by omega)
 by_cases hsp:Whole.small p=true
 ·obtain ⟨a1,a2⟩:=lQ hsp
  by_cases hsq:Whole.small q=true
  ·obtain ⟨b1,b2⟩:=lQ hsq
   have t1:=AZ p.num (q.den:Int) a1 (by rw[Int.natAbs_natCast];exact b2);have t2:=AZ q.num (p.den:Int) b1 (by rw[Int.natAbs_natCast];exact a2);have t3:=AZ (p.den:Int) (q.den:Int) (by rw[Int.natAbs_natCast];exact a2) (by rw[Int.natAbs_natCast];exact b2);have sm:(p.num*q.den+q.num*p.den).natAbs<=most->((p.den:Int)*q.den).natAbs<=most->aB Tryz.prog 217 [i64 (p.num*q.den+q.num*p.den),i64 ((p.den:Int)*q.den)] (aH (p+q)):=fun h1 h2=>by
    rw[add_eq];exact Ol _ _ h1 (by have:=Nat.mul_pos pp pq;rw[<- Int.natCast_mul];omega) h2
   rw[<- Int.natAbs_mul]at t1 t2 t3;unfold aH at n1 n2 d1 d2;rw[fF hsp]at n1 d1;rw[fF hsq]at n2 d2;have hgoal:∀R:Tr,R=aH (p+q)->aB Tryz.prog 211 [.agg [.int .i64 p.num,.int .i64 p.den,.sl false [],.bool false,.sl false [],.bool false],.agg [.int .i64 q.num,.int .i64 q.den,.sl false [],.bool false,.sl false [],.bool false]] R:=by
    intro R hR;subst hR;clear hsp hsq a1 a2 b1 b2 hp hq sl pp pq;generalize p.num*(q.den:Int)=x at *;generalize q.num*(p.den:Int)=y at *;generalize (p.den:Int)*(q.den:Int)=z at *
    by_cases cx:x.natAbs<=most
    ·rw[if_pos cx,decide_eq_true cx]at t1
     by_cases cy:y.natAbs<=most
     ·rw[if_pos cy,decide_eq_true cy]at t2
      have w:IntKind.i64.wrap (x+y)=x+y:=wrap_i64 (by rw[qJ]at cx cy;omega) (by rw[qJ]at cx cy;omega)
      by_cases cz:z.natAbs<=most
      ·rw[if_pos cz,decide_eq_true cz]at t3
       by_cases cl:x+y>=-4611686018427387903
       ·have v1:decide (x+y>=-4611686018427387903)=true:=decide_eq_true cl
        by_cases ch:x+y<=4611686018427387903
        ·have v2:decide (x+y<=4611686018427387903)=true:=decide_eq_true ch
         have sm':=sm (by rw[qJ];omega) cz;clear sm cx cy cz cl ch;refine au orders Tryz.func211 rfl (by kernel_rfl) (fun d=>d==4) (by kernel_rfl) rfl (fun hs=>?_)
         repeat' (first|refine sX ?_ ?_<;>intro h|refine aj (t1) rfl ?_|refine aj (t2) rfl ?_|refine aj (t3) rfl ?_|refine aj (sm') rfl ?_|simp only[go_sem, *])
        ·have v2:decide (x+y<=4611686018427387903)=false:=decide_eq_false ch
         clear sm cx cy cz cl ch;refine au orders Tryz.func211 rfl (by kernel_rfl) (fun d=>d==4) (by kernel_rfl) rfl (fun hs=>?_)
         repeat' (first|refine sX ?_ ?_<;>intro h|refine aj (t1) rfl ?_|refine aj (t2) rfl ?_|refine aj (t3) rfl ?_|refine aj (n1) rfl ?_|refine aj (n2) rfl ?_|refine aj (d1) rfl ?_|refine aj (d2) rfl ?_|refine aj (m1) rfl ?_|refine aj (m2) rfl ?_|refine aj (m3) rfl ?_|refine aj (ad) rfl ?_|refine aj (qu) rfl ?_|simp only[go_sem, *])
       ·have v1:decide (x+y>=-4611686018427387903)=false:=decide_eq_false cl
        clear sm cx cy cz cl;refine au orders Tryz.func211 rfl (by kernel_rfl) (fun d=>d==4) (by kernel_rfl) rfl (fun hs=>?_)
        repeat' (first|refine sX ?_ ?_<;>intro h|refine aj (t1) rfl ?_|refine aj (t2) rfl ?_|refine aj (t3) rfl ?_|refine aj (n1) rfl ?_|refine aj (n2) rfl ?_|refine aj (d1) rfl ?_|refine aj (d2) rfl ?_|refine aj (m1) rfl ?_|refine aj (m2) rfl ?_|refine aj (m3) rfl ?_|refine aj (ad) rfl ?_|refine aj (qu) rfl ?_|simp only[go_sem, *])
      ·rw[if_neg cz,decide_eq_false cz]at t3
       clear sm cx cy cz;refine au orders Tryz.func211 rfl (by kernel_rfl) (fun d=>d==4) (by kernel_rfl) rfl (fun hs=>?_)
       repeat' (first|refine sX ?_ ?_<;>intro h|refine aj (t1) rfl ?_|refine aj (t2) rfl ?_|refine aj (t3) rfl ?_|refine aj (n1) rfl ?_|refine aj (n2) rfl ?_|refine aj (d1) rfl ?_|refine aj (d2) rfl ?_|refine aj (m1) rfl ?_|refine aj (m2) rfl ?_|refine aj (m3) rfl ?_|refine aj (ad) rfl ?_|refine aj (qu) rfl ?_|simp only[go_sem, *])
     ·rw[if_neg cy,decide_eq_false cy]at t2
      clear sm cx cy;generalize (if z.natAbs<=most then z else 0)=z1 at *;generalize decide (z.natAbs<=most)=z2 at *;refine au orders Tryz.func211 rfl (by kernel_rfl) (fun d=>d==4) (by kernel_rfl) rfl (fun hs=>?_)
      repeat' (first|refine sX ?_ ?_<;>intro h|refine aj (t1) rfl ?_|refine aj (t2) rfl ?_|refine aj (t3) rfl ?_|refine aj (n1) rfl ?_|refine aj (n2) rfl ?_|refine aj (d1) rfl ?_|refine aj (d2) rfl ?_|refine aj (m1) rfl ?_|refine aj (m2) rfl ?_|refine aj (m3) rfl ?_|refine aj (ad) rfl ?_|refine aj (qu) rfl ?_|simp only[go_sem, *])
    ·rw[if_neg cx,decide_eq_false cx]at t1
     clear sm cx;generalize (if z.natAbs<=most then z else 0)=z1 at *;generalize decide (z.natAbs<=most)=z2 at *;generalize (if y.natAbs<=most then y else 0)=y1 at *;generalize decide (y.natAbs<=most)=y2 at *;refine au orders Tryz.func211 rfl (by kernel_rfl) (fun d=>d==4) (by kernel_rfl) rfl (fun hs=>?_)
     repeat' (first|refine sX ?_ ?_<;>intro h|refine aj (t1) rfl ?_|refine aj (t2) rfl ?_|refine aj (t3) rfl ?_|refine aj (n1) rfl ?_|refine aj (n2) rfl ?_|refine aj (d1) rfl ?_|refine aj (d2) rfl ?_|refine aj (m1) rfl ?_|refine aj (m2) rfl ?_|refine aj (m3) rfl ?_|refine aj (ad) rfl ?_|refine aj (qu) rfl ?_|simp only[go_sem, *])
   have:=hgoal _ rfl;unfold aH at this ⊢;rw[fF hsp,fF hsq];exact this
  ·have SA:Whole.small q=false:=by simpa using hsq
   unfold aH at n1 n2 d1 d2 qu ⊢;rw[fF hsp]at n1 d1 ⊢;rw[mM SA]at n2 d2 ⊢;clear hsp hsq SA a1 a2 hp hq sl pp pq;generalize p.num*(q.den:Int)=x at *;generalize q.num*(p.den:Int)=y at *;generalize (p.den:Int)*(q.den:Int)=z at *;clear g2;refine au orders Tryz.func211 rfl (by kernel_rfl) (fun d=>d==4) (by kernel_rfl) rfl (fun hs=>?_)
   repeat' (first|refine sX ?_ ?_<;>intro h|refine aj (n1) rfl ?_|refine aj (n2) rfl ?_|refine aj (d1) rfl ?_|refine aj (d2) rfl ?_|refine aj (m1) rfl ?_|refine aj (m2) rfl ?_|refine aj (m3) rfl ?_|refine aj (ad) rfl ?_|refine aj (qu) rfl ?_|simp only[go_sem, *])
 ·have SB:Whole.small p=false:=by simpa using hsp
  unfold aH at n1 n2 d1 d2 qu ⊢;rw[mM SB]at n1 d1 ⊢;clear hsp SB hp hq sl pp pq;generalize p.num*(q.den:Int)=x at *;generalize q.num*(p.den:Int)=y at *;generalize (p.den:Int)*(q.den:Int)=z at *;clear g1 g2;refine au orders Tryz.func211 rfl (by kernel_rfl) (fun d=>d==4) (by kernel_rfl) rfl (fun hs=>?_)
  repeat' (first|refine sX ?_ ?_<;>intro h|refine aj (n1) rfl ?_|refine aj (n2) rfl ?_|refine aj (d1) rfl ?_|refine aj (d2) rfl ?_|refine aj (m1) rfl ?_|refine aj (m2) rfl ?_|refine aj (m3) rfl ?_|refine aj (ad) rfl ?_|refine aj (qu) rfl ?_|simp only[go_sem, *])
theorem Ve {q:Rat} (h:gH q):gH (-q):=by
 unfold gH at *;rw[Rat.neg_num,Rat.neg_den,Int.natAbs_neg];exact h
theorem wK (p q:Rat) (hp:gH p) (hq:gH q):aB Tryz.prog 141 [aH p,aH q] (aH (p-q)):=by
 rw[Rat.sub_eq_add_neg];have n1:=FD q;have a1:=ab3 p (-q) hp (Ve hq);refine au orders Tryz.func141 rfl (by kernel_rfl) (fun d=>d==4) (by kernel_rfl) rfl (fun hs=>?_);clear hs
 repeat' (first|refine sX ?_ ?_<;>intro h|refine aj (n1) rfl ?_|refine aj (a1) rfl ?_|simp only[go_sem, *])
theorem ab4 (p q:Rat) (hp:gH p) (hq:gH q):aB Tryz.prog 209 [aH p,aH q] (i64 (p-q).num.sign):=by
 have a1:=wK p q hp hq;have a2:=qK (p-q);refine au orders Tryz.func209 rfl (by kernel_rfl) bf (by kernel_rfl) rfl (fun hs=>?_);clear hs
 repeat' (first|refine sX ?_ ?_<;>intro h|refine aj (a1) rfl ?_|refine aj (a2) rfl ?_|simp only[go_sem, *])
theorem Qg (q:Rat) (hq:gH q) (h0:q≠0):aB Tryz.prog 146 [aH q] (aH q⁻¹):=by
 have n1:=Ec q;have d1:=A8 q;have hn:q.num≠0:=fun h=>h0 (Rat.num_eq_zero.1 h)
 have qu:=Qf (q.den:Int) q.num hn (by have:=hq.2;unfold fits;rw[Int.natAbs_natCast];omega) (Nat.le_trans hq.1 (by decide));rw[<- Rat.inv_def]at qu;refine au orders Tryz.func146 rfl (by kernel_rfl) (fun d=>d==2) (by kernel_rfl) rfl (fun hs=>?_);clear hs hn h0
 repeat' (first|refine sX ?_ ?_<;>intro h|refine aj (n1) rfl ?_|refine aj (d1) rfl ?_|refine aj (qu) rfl ?_|simp only[go_sem, *])
theorem Ka (p q:Rat) (hp:gH p) (hq:gH q):aB Tryz.prog 145 [aH p,aH q] (aH (p*q)):=by
 have sl:=slow hp hq;have n1:=Ec p;have n2:=Ec q;have d1:=A8 p;have d2:=A8 q;have m1:=rR true true p.num q.num sl.np sl.nq;have m3:=rR true true (p.den:Int) (q.den:Int) sl.dp sl.dq;have qu:=Qf _ _ (Sz p q) sl.m4 sl.m3;rw[<- mul_eq]at qu;have pp:=p.den_pos;have pq:=q.den_pos;have g1:decide ((p.den:Int) > 0)=true:=decide_eq_true (by omega);have g2:decide ((q.den:Int) > 0)=true:=decide_eq_true (by omega)
 by_cases hsp:Whole.small p=true
 ·obtain ⟨a1,a2⟩:=lQ hsp
  by_cases hsq:Whole.small q=true
  ·obtain ⟨b1,b2⟩:=lQ hsq
   have t1:=AZ p.num q.num a1 b1;have t3:=AZ (p.den:Int) (q.den:Int) (by rw[Int.natAbs_natCast];exact a2) (by rw[Int.natAbs_natCast];exact b2);have sm:(p.num*q.num).natAbs<=most->((p.den:Int)*q.den).natAbs<=most->aB Tryz.prog 217 [i64 (p.num*q.num),i64 ((p.den:Int)*q.den)] (aH (p*q)):=fun h1 h2=>by
    rw[mul_eq];exact Ol _ _ h1 (by have:=Nat.mul_pos pp pq;rw[<- Int.natCast_mul];omega) h2
   rw[<- Int.natAbs_mul]at t1 t3;unfold aH at n1 n2 d1 d2 qu sm ⊢;rw[fF hsp]at n1 d1 ⊢;rw[fF hsq]at n2 d2 ⊢;clear hsp hsq a1 a2 b1 b2 hp hq sl pp pq;generalize p.num*q.num=x at *;generalize (p.den:Int)*(q.den:Int)=z at *
   by_cases cx:x.natAbs<=most
   ·rw[if_pos cx,decide_eq_true cx]at t1
    by_cases cz:z.natAbs<=most
    ·rw[if_pos cz,decide_eq_true cz]at t3
     have sm':=sm cx cz;clear sm cx cz;refine au orders Tryz.func145 rfl (by kernel_rfl) (fun d=>d==4) (by kernel_rfl) rfl (fun hs=>?_)
     repeat' (first|refine sX ?_ ?_<;>intro h|refine aj (t1) rfl ?_|refine aj (t3) rfl ?_|refine aj (sm') rfl ?_|simp only[go_sem, *])
    ·rw[if_neg cz,decide_eq_false cz]at t3
     clear sm cx cz;refine au orders Tryz.func145 rfl (by kernel_rfl) (fun d=>d==4) (by kernel_rfl) rfl (fun hs=>?_)
     repeat' (first|refine sX ?_ ?_<;>intro h|refine aj (t1) rfl ?_|refine aj (t3) rfl ?_|refine aj (n1) rfl ?_|refine aj (n2) rfl ?_|refine aj (d1) rfl ?_|refine aj (d2) rfl ?_|refine aj (m1) rfl ?_|refine aj (m3) rfl ?_|refine aj (qu) rfl ?_|simp only[go_sem, *])
   ·rw[if_neg cx,decide_eq_false cx]at t1
    clear sm cx;generalize (if z.natAbs<=most then z else 0)=z1 at *;generalize decide (z.natAbs<=most)=z2 at *;refine au orders Tryz.func145 rfl (by kernel_rfl) (fun d=>d==4) (by kernel_rfl) rfl (fun hs=>?_)
    repeat' (first|refine sX ?_ ?_<;>intro h|refine aj (t1) rfl ?_|refine aj (t3) rfl ?_|refine aj (n1) rfl ?_|refine aj (n2) rfl ?_|refine aj (d1) rfl ?_|refine aj (d2) rfl ?_|refine aj (m1) rfl ?_|refine aj (m3) rfl ?_|refine aj (qu) rfl ?_|simp only[go_sem, *])
  ·have SA:Whole.small q=false:=by simpa using hsq
   unfold aH at n1 n2 d1 d2 qu ⊢;rw[fF hsp]at n1 d1 ⊢;rw[mM SA]at n2 d2 ⊢;clear hsp hsq SA a1 a2 hp hq sl pp pq g2;generalize p.num*q.num=x at *;generalize (p.den:Int)*(q.den:Int)=z at *;refine au orders Tryz.func145 rfl (by kernel_rfl) (fun d=>d==4) (by kernel_rfl) rfl (fun hs=>?_)
   repeat' (first|refine sX ?_ ?_<;>intro h|refine aj (n1) rfl ?_|refine aj (n2) rfl ?_|refine aj (d1) rfl ?_|refine aj (d2) rfl ?_|refine aj (m1) rfl ?_|refine aj (m3) rfl ?_|refine aj (qu) rfl ?_|simp only[go_sem, *])
 ·have SB:Whole.small p=false:=by simpa using hsp
  unfold aH at n1 n2 d1 d2 qu ⊢;rw[mM SB]at n1 d1 ⊢;clear hsp SB hp hq sl pp pq g1 g2;generalize p.num*q.num=x at *;generalize (p.den:Int)*(q.den:Int)=z at *;refine au orders Tryz.func145 rfl (by kernel_rfl) (fun d=>d==4) (by kernel_rfl) rfl (fun hs=>?_)
  repeat' (first|refine sX ?_ ?_<;>intro h|refine aj (n1) rfl ?_|refine aj (n2) rfl ?_|refine aj (d1) rfl ?_|refine aj (d2) rfl ?_|refine aj (m1) rfl ?_|refine aj (m3) rfl ?_|refine aj (qu) rfl ?_|simp only[go_sem, *])
attribute [go_sem] Tryz.results84 Tryz.results163 Tryz.results88 Tryz.results165 Tryz.results164 Tryz.results87 Tryz.results75 Tryz.results83 Tryz.results158 Tryz.results85 Tryz.results77 Tryz.results31 Tryz.results162
def nI (nn:Bool) (n:Nat):Tr:=.sl nn (dl (aO n))
theorem Vf (nn:Bool) (l:List Nat) (hlen:l.length<=1000000):aB Tryz.prog 163 [.sl nn (dl l)] (.sl nn (dl (strip l))):=by
 refine au orders Tryz.func163 rfl (by kernel_rfl) bf (by kernel_rfl) rfl (fun hs=>?_);clear hs
 repeat' (first|refine sX ?_ ?_<;>intro h|simp only[go_sem, *])
 refine jD (fun m s'=>∃n:Nat,m=n/\n<=l.length/\s'.sl 3=.t (i64 n)/\strip (l.take n)=strip l) l.length ⟨l.length,rfl,Nat.le_refl _,rfl,by rw[List.take_length]⟩ ?_
 rintro n s' ⟨_,rfl,hn,h3,hl⟩ hfr G hG
 have c0:=hfr 0 (by kernel_rfl);clear hfr;simp only[go_sem]at c0;cases n with
 |zero =>
  have g1:decide (((0:Nat):Int) > 0)=false:=rfl;have hl':strip l=[]:=by rw[<- hl];rfl
  rw[hl'];clear hl hl';have g2:((0:Nat):Int)<=(l.length:Int):=by omega
  repeat' (first|refine sX ?_ ?_<;>intro h|simp only[go_sem, *])
  all_goals rfl
 |succ n =>
  have hn':n < l.length:=by omega
  have g1:decide (((n+1:Nat):Int) > 0)=true:=decide_eq_true (by omega);have g2:=Oe (n:=n) (by omega);have g3:l[n]?=some l[n]:=List.getElem?_eq_getElem hn';have htk:l.take (n+1)=l.take n++[l[n]]:=by rw[List.take_add_one,g3];rfl
  rw[htk,AX]at hl;generalize l[n]=u at *
  by_cases hu:u=0
  ·subst hu
   rw[if_pos rfl]at hl;have g4:(((0:Nat):Int)==0)=true:=rfl
   repeat' (first|refine sX ?_ ?_<;>intro h|simp only[go_sem, *])
   exact hG n _ (Nat.lt_succ_self n) ⟨n,rfl,by omega,rfl,hl⟩
  ·rw[if_neg hu,<- htk]at hl
   have g4:((u:Int)==0)=false:=by simpa using hu
   have g5:((n+1:Nat):Int)<=(l.length:Int):=by omega
   rw[<- hl,<- Sk];clear hl htk
   repeat' (first|refine sX ?_ ?_<;>intro h|simp only[go_sem, *])
theorem XR {l:List Nat}{i:Nat} (h:i < l.length):l[i]?=some (l.getD i 0):=by
 rw[List.getD_eq_getElem?_getD,List.getElem?_eq_getElem h];rfl
theorem Ll (nn:Bool) (l:List Nat) (i:Nat) (hl:okD l):aB Tryz.prog 165 [.sl nn (dl l),i64 i] (.int .u64 ((l.getD i 0:Nat):Int)):=by
 refine au orders Tryz.func165 rfl (by kernel_rfl) bf (by kernel_rfl) rfl (fun hs=>?_);clear hs
 by_cases h:i < l.length
 ·have g1:decide ((i:Int) < (l.length:Int))=true:=decide_eq_true (by omega)
  have g2:=XR h;have hB:=hl (l.getD i 0) (by rw[List.getD_eq_getElem?_getD,List.getElem?_eq_getElem h];exact List.getElem_mem h);have g3:=fJ (n:=l.getD i 0) (by rw[eu]at hB;omega);generalize l.getD i 0=u at *;clear hB
  repeat' (first|refine sX ?_ ?_<;>intro h|simp only[go_sem, *])
 ·have g1:decide ((i:Int) < (l.length:Int))=false:=decide_eq_false (by omega)
  have g2:l.getD i 0=0:=by rw[List.getD_eq_getElem?_getD,List.getElem?_eq_none (by omega)];rfl
  rw[g2]
  repeat' (first|refine sX ?_ ?_<;>intro h|simp only[go_sem, *])
  all_goals rfl
theorem IW (l:List Nat) (i:Nat):(l.drop i).headD 0=l.getD i 0:=by
 by_cases h:i < l.length
 ·rw[List.drop_eq_getElem_cons h,List.getD_eq_getElem?_getD,List.getElem?_eq_getElem h];rfl
 ·rw[wJ h,List.getD_eq_getElem?_getD,List.getElem?_eq_none (by omega)];rfl
theorem G5 (l:List Nat) (i:Nat):val (l.drop i)=l.getD i 0+B*val (l.drop (i+1)):=by
 rw[qF (l.drop i),IW,drop_tail]
theorem getD_lt {l:List Nat} (h:okD l) (i:Nat):l.getD i 0 < B:=by rw[<- IW];exact mK (rQ h i)
theorem vw {l:List Nat}{i:Nat} (h:l.length<=i):val (l.drop i)=0:=by rw[List.drop_eq_nil_of_le h];rfl
theorem ZU {acc:List Nat} (h:okD acc) {n:Nat} (hv:val acc=n) (hne:acc=[]↔n=0):Tr.sl (!acc.isEmpty) (dl (strip acc))=nI (decide (n≠0)) n:=by
 unfold nI;rw[pU h,hv];congr 1
 by_cases hn:n=0
 ·rw[hne.2 hn];simp[hn]
 ·have:acc≠[]:=fun e=>hn (hne.1 e)
  cases acc with
  |nil=>exact absurd rfl this
  |cons=>simp[hn]
theorem ab5 {h:Hp}{d:Nat}{v:PV}{acc:List Nat}{x:Nat} (ho:Own h d tU32 1 false v ((!acc.isEmpty)||!([Tr.int .u32 (x:Int)]:List Tr).isEmpty) (dl acc++[.int .u32 (x:Int)])):Own h d tU32 1 false v (!(acc++[x]).isEmpty) (dl (acc++[x])):=Own.snoc (f:=u32) (xs:=acc) (a:=x) ho
theorem A9 (an bn:Bool) (a b:Nat) (ha:(aO a).length<=900000) (hb:(aO b).length<=900000):aB Tryz.prog 88 [nI an a,nI bn b] (nI (decide (a+b≠0)) (a+b)):=by
 unfold nI;have hA:=dR a;have hB:=dR b;have va:=bW a;have vb:=bW b;have za:aO a=[]↔a=0:=yx;have zb:aO b=[]↔b=0:=yx;change aB _ _ _ (nI (decide (a+b≠0)) (a+b));generalize aO a=X at *;generalize aO b=Y at *;refine au orders Tryz.func88 rfl (by kernel_rfl) (fun d=>d==37) (by kernel_rfl) rfl (fun hs=>?_);clear hs
 repeat' (first|refine sX ?_ ?_<;>intro h|simp only[go_sem, *])
 refine jD (fun m s'=>∃(i c:Nat) (acc:List Nat),m=2*(max X.length Y.length-i)+c/\s'.sl 7=.t (i64 i)/\s'.sl 6=.t (.int .u64 (c:Int))/\Own s'.hp 37 tU32 1 false (s'.sl 5) (!acc.isEmpty) (dl acc)/\acc.length=i/\(i<=max X.length Y.length\/(c=0/\i<=max X.length Y.length+1))/\c<=1/\okD acc/\val acc+B ^ i*(val (X.drop i)+val (Y.drop i)+c)=a+b/\(i=0->c=0)/\(i=0\/X≠[]\/Y≠[])) (2*max X.length Y.length)
  ⟨0,0,[],by simp,rfl,rfl,Own.nil,rfl,.inl (Nat.zero_le _),Nat.zero_le _,qE,by simp[val,va,vb],fun _=>rfl,.inl rfl⟩ ?_
 rintro m s' ⟨i,c,acc,hm,h7,h6,hown,hal,hi,hc,hao,hJ,hi0,hne⟩ hfr G hG
 have c0:=hfr 0 (by kernel_rfl);have c1:=hfr 1 (by kernel_rfl);clear hfr;simp only[go_sem]at c0 c1
 by_cases hend:X.length<=i/\Y.length<=i/\c=0
 ·obtain ⟨e1,e2,e3⟩:=hend
  subst e3;have g1:decide ((i:Int) < (X.length:Int))=false:=decide_eq_false (by omega);have g2:decide ((i:Int) < (Y.length:Int))=false:=decide_eq_false (by omega);have g3:decide (((0:Nat):Int) > 0)=false:=rfl;rw[vw e1,vw e2]at hJ;simp only[Nat.add_zero,Nat.mul_zero]at hJ;have hemp:acc=[]↔a+b=0:=by
   constructor
   ·intro h
    rw[h]at hal hJ;simpa[val] using hJ.symm
   ·intro h
    have x0:X=[]:=za.2 (by omega);have y0:Y=[]:=zb.2 (by omega);rcases hne with h1|h1|h1
    ·exact List.eq_nil_of_length_eq_zero (by omega)
    ·exact absurd x0 h1
    ·exact absurd y0 h1
  have hcut:=Vf (!acc.isEmpty) acc (by omega);rw[ZU hao hJ hemp]at hcut;have dN:=hown.dep;clear hJ hemp hne za zb va vb hown e1 e2
  repeat' (first|refine sX ?_ ?_<;>intro h|simp only[go_sem, *])
  refine mX hcut (by simp only[go_sem,dN]) rfl ?_
  repeat' (first|refine sX ?_ ?_<;>intro h|simp only[go_sem, *])
 ·have hu:=getD_lt hA i
  have hv:=getD_lt hB i;have d1:=Ll an X i hA;have d2:=Ll bn Y i hB;have w1:=oJ (X.getD i 0) (Y.getD i 0);rw[Nat.mod_eq_of_lt (show X.getD i 0+Y.getD i 0 < 18446744073709551616 by rw[eu]at hu hv;omega)]at w1;have w2:=oJ c (X.getD i 0+Y.getD i 0);rw[Nat.mod_eq_of_lt (show c+(X.getD i 0+Y.getD i 0) < 18446744073709551616 by rw[eu]at hu hv;omega)]at w2;have w3:=wrap_u32 (c+(X.getD i 0+Y.getD i 0));have hi2:i<=max X.length Y.length:=by omega
  have hstep:val (X.drop i)+val (Y.drop i)+c=(c+(X.getD i 0+Y.getD i 0)) % B+B*(val (X.drop (i+1))+val (Y.drop (i+1))+(c+(X.getD i 0+Y.getD i 0)) / B):=by
   rw[G5 X i,G5 Y i];have:=Nat.mod_add_div (c+(X.getD i 0+Y.getD i 0)) B;simp only[Nat.mul_add];omega
  have hc':(c+(X.getD i 0+Y.getD i 0)) / B<=1:=by rw[eu]at hu hv ⊢;omega
  have hdec:2*(max X.length Y.length-(i+1))+(c+(X.getD i 0+Y.getD i 0)) / B < m:=by
   subst hm
   by_cases hlt:i < max X.length Y.length
   ·omega
   ·have x0:X.getD i 0=0:=by rw[List.getD_eq_getElem?_getD,List.getElem?_eq_none (by omega)];rfl
    have y0:Y.getD i 0=0:=by rw[List.getD_eq_getElem?_getD,List.getElem?_eq_none (by omega)];rfl
    rw[x0,y0,eu];omega
  have hi3:i+1<=max X.length Y.length\/((c+(X.getD i 0+Y.getD i 0)) / B=0/\i+1<=max X.length Y.length+1):=by
   by_cases hlt:i < max X.length Y.length
   ·left;omega
   ·right
    have x0:X.getD i 0=0:=by rw[List.getD_eq_getElem?_getD,List.getElem?_eq_none (by omega)];rfl
    have y0:Y.getD i 0=0:=by rw[List.getD_eq_getElem?_getD,List.getElem?_eq_none (by omega)];rfl
    rw[x0,y0,eu];exact ⟨by omega,by omega⟩
  have hne':X≠[]\/Y≠[]:=by
   rcases hne with h1|h1
   ·refine Decidable.byContradiction fun h2=>?_
    have x0:X=[]:=Decidable.byContradiction fun h=>h2 (.inl h)
    have y0:Y=[]:=Decidable.byContradiction fun h=>h2 (.inr h)
    exact hend ⟨by rw[x0];simp,by rw[y0];simp,hi0 h1⟩
   ·exact h1
  have hmax:max X.length Y.length<=900000:=by omega
  have hwr:=lg (k:=i) (by omega);have hjj:val (acc++[(c+(X.getD i 0+Y.getD i 0)) % B])+B ^ (i+1)*(val (X.drop (i+1))+val (Y.drop (i+1))+(c+(X.getD i 0+Y.getD i 0)) / B)=a+b:=by
   rw[<- hJ,hstep,val_append,hal,Nat.pow_succ];simp only[val,Nat.mul_zero,Nat.add_zero,Nat.mul_add,Nat.mul_assoc];omega
  have hoo:okD (acc++[(c+(X.getD i 0+Y.getD i 0)) % B]):=by rw[IU,bG];exact ⟨hao,Qb _,qE⟩
  have w4:(c+(X.getD i 0+Y.getD i 0)) / 4294967296=(c+(X.getD i 0+Y.getD i 0)) / B:=rfl;have ab6:(decide ((i:Int) < (X.length:Int))=true)\/(decide ((i:Int) < (X.length:Int))=false/\decide ((i:Int) < (Y.length:Int))=true)\/(decide ((i:Int) < (X.length:Int))=false/\decide ((i:Int) < (Y.length:Int))=false/\decide ((c:Int) > 0)=true):=by
   by_cases h1:i < X.length
   ·left;exact decide_eq_true (by omega)
   ·right
    by_cases h2:i < Y.length
    ·left;exact ⟨decide_eq_false (by omega),decide_eq_true (by omega)⟩
    ·right;exact ⟨decide_eq_false (by omega),decide_eq_false (by omega),decide_eq_true (by omega)⟩
  clear hstep hJ hend hne hi hi0 za zb va vb hu hv hi2;generalize c+(X.getD i 0+Y.getD i 0)=t at *;rcases ab6 with g1|⟨g1,g2⟩|⟨g1,g2,g3⟩
  all_goals
   repeat' (first|refine sX ?_ ?_<;>intro h|refine aj (d1) rfl ?_|refine aj (d2) rfl ?_|simp only[go_sem, *])
   have hdl:=pF acc;refine cB (hown) rfl (by kernel_rfl) (by kernel_rfl) (by kernel_rfl) (by kernel_rfl) rfl (by kernel_rfl) (ok_int _ _) (by simp;omega) (fun v' h' ho hf=>?_);clear hdl
   repeat' (first|refine sX ?_ ?_<;>intro h|simp only[go_sem, *])
   refine hG _ _ hdec ⟨i+1,t / B,acc++[t % B],rfl,rfl,rfl,ab5 ho,by simp[hal],hi3,hc',hoo,hjj,fun h=>absurd h (by omega),.inr hne'⟩
theorem afb (l:List Nat):∀x∈dl l,dh false 1 x:=by
 intro x hx;obtain ⟨n,_,rfl⟩:=List.mem_map.1 hx;exact ⟨(fun h=>nomatch h),fun _=>rfl,rfl⟩
theorem XT {h:Hp}{d:Nat}{e:TypeId}{l:List Nat}{n:Nat} (hn:l.length=n):Own (hnew h d ⟨(dl l).map .t,1,n,e,false,true⟩) d e 1 false (.rf (hnext h d) n) true (dl l):=by
 have:=Own.fresh (h:=h) (d:=d) (e:=e) (afb l);rw[Sm,pF,hn]at this;exact this
theorem ZV {h:Hp}{d:Nat}{v:PV}{acc:List Nat}{x:Nat} (ho:Own h d tU32 1 false v true (dl acc++[.int .u32 (x:Int)])):Own h d tU32 1 false v true (dl (acc++[x])):=by rw[U9];exact ho
theorem SC (an:Bool) (a k s:Nat) (hk:k < B) (hs1:s<=1) (ha:(aO a).length<=800000):aB Tryz.prog 164 [nI an a,.int .u64 (k:Int),i64 s] (nI true (a*k*B ^ s)):=by
 unfold nI;have hA:=dR a;have va:=bW a;change aB _ _ _ (nI true (a*k*B ^ s));generalize aO a=X at *;refine au orders Tryz.func164 rfl (by kernel_rfl) (fun d=>d==11||d==33) (by kernel_rfl) rfl (fun hs=>?_);clear hs
 repeat' (first|refine sX ?_ ?_<;>intro h|simp only[go_sem, *])
 refine dS ⟨by omega,by omega⟩ ?_
 repeat' (first|refine sX ?_ ?_<;>intro h|simp only[go_sem, *])
 refine jD (fun m s'=>∃(i c:Nat) (acc:List Nat),m=2*(X.length-i)+(if c=0 then 0 else 1)/\s'.sl 9=.t (i64 i)/\s'.sl 8=.t (.int .u64 (c:Int))/\Own s'.hp 11 tU32 1 false (s'.sl 7) true (dl acc)/\acc.length=s+i/\(i<=X.length\/(c=0/\i<=X.length+1))/\c < B/\okD acc/\val acc+B ^ (s+i)*(val (X.drop i)*k+c)=a*k*B ^ s) (2*X.length)
  ⟨0,0,List.replicate s 0,by simp,rfl,rfl,XT (by simp),by simp,.inl (Nat.zero_le _),fQ,zn s,by rw[zm];simp[va];rw[Nat.mul_comm]⟩ ?_
 rintro m s' ⟨i,c,acc,hm,h9,h8,hown,hal,hi,hc,hao,hJ⟩ hfr G hG
 have c0:=hfr 0 (by kernel_rfl);have c1:=hfr 1 (by kernel_rfl);clear hfr;simp only[go_sem]at c0 c1
 by_cases hend:X.length<=i/\c=0
 ·obtain ⟨e1,e2⟩:=hend
  subst e2;have g1:decide ((i:Int) < (X.length:Int))=false:=decide_eq_false (by omega);have g3:decide (((0:Nat):Int) > 0)=false:=rfl;rw[vw e1]at hJ;simp only[Nat.zero_mul,Nat.add_zero,Nat.mul_zero]at hJ;have hcut:=Vf true acc (by omega);rw[pU hao,hJ]at hcut;change aB _ _ _ (nI true (a*k*B ^ s)) at hcut;have dN:=hown.dep;clear hJ va hown e1
  repeat' (first|refine sX ?_ ?_<;>intro h|simp only[go_sem, *])
  refine mX hcut (by simp only[go_sem,dN]) rfl ?_
  repeat' (first|refine sX ?_ ?_<;>intro h|simp only[go_sem, *])
 ·have hu:=getD_lt hA i
  have d1:=Ll an X i hA;have hb:=Oh hu hk hc fQ;simp only[Nat.add_zero]at hb;obtain ⟨b1,b2,b3,_⟩:=hb;have w1:=vv (X.getD i 0) k;rw[Nat.mod_eq_of_lt b3]at w1;have w2:=oJ c (X.getD i 0*k);rw[Nat.mod_eq_of_lt b1]at w2;have w3:=wrap_u32 (c+X.getD i 0*k);have w4:(c+X.getD i 0*k) / 4294967296=(c+X.getD i 0*k) / B:=rfl;have hstep:val (X.drop i)*k+c=(c+X.getD i 0*k) % B+B*(val (X.drop (i+1))*k+(c+X.getD i 0*k) / B):=by
   rw[G5 X i,Nat.add_mul,Nat.mul_assoc];have:=Nat.mod_add_div (c+X.getD i 0*k) B;simp only[Nat.mul_add];omega
  have hz:X.length<=i->X.getD i 0=0:=fun h=>by rw[List.getD_eq_getElem?_getD,List.getElem?_eq_none h];rfl
  have hdec:2*(X.length-(i+1))+(if (c+X.getD i 0*k) / B=0 then 0 else 1) < m:=by
   subst hm
   by_cases hlt:i < X.length
   ·split<;>split<;>omega
   ·have h0:(c+X.getD i 0*k) / B=0:=by rw[hz (by omega),Nat.zero_mul,Nat.add_zero];exact Nat.div_eq_of_lt hc
    rw[if_pos h0,if_neg (fun h=>hend ⟨by omega,h⟩)];omega
  have hi3:i+1<=X.length\/((c+X.getD i 0*k) / B=0/\i+1<=X.length+1):=by
   by_cases hlt:i < X.length
   ·left;omega
   ·right
    refine ⟨by rw[hz (by omega),Nat.zero_mul,Nat.add_zero];exact Nat.div_eq_of_lt hc,?_⟩;rcases hi with h|h
    ·omega
    ·exact absurd ⟨by omega,h.1⟩ hend
  have hwr:=lg (k:=i) (by omega);have hjj:val (acc++[(c+X.getD i 0*k) % B])+B ^ (s+(i+1))*(val (X.drop (i+1))*k+(c+X.getD i 0*k) / B)=a*k*B ^ s:=by
   rw[<- hJ,hstep,val_append,hal,<- Nat.add_assoc,Nat.pow_succ];simp only[val,Nat.mul_zero,Nat.add_zero,Nat.mul_add,Nat.mul_assoc];omega
  have hoo:okD (acc++[(c+X.getD i 0*k) % B]):=by rw[IU,bG];exact ⟨hao,Qb _,qE⟩
  have ab7:(decide ((i:Int) < (X.length:Int))=true)\/(decide ((i:Int) < (X.length:Int))=false/\decide ((c:Int) > 0)=true):=by
   by_cases h1:i < X.length
   ·left;exact decide_eq_true (by omega)
   ·right;exact ⟨decide_eq_false (by omega),decide_eq_true (by omega)⟩
  clear hstep hJ hend hi va hu b1 b3 hz;generalize c+X.getD i 0*k=t at *;rcases ab7 with g1|⟨g1,g2⟩
  all_goals
   repeat' (first|refine sX ?_ ?_<;>intro h|refine aj (d1) rfl ?_|simp only[go_sem, *])
   have hdl:=pF acc;refine mh hown (by kernel_rfl) (by kernel_rfl) (by kernel_rfl) rfl (by kernel_rfl) (ok_int _ _) (by simp;omega) (fun v' h' ho hf=>?_);clear hdl
   repeat' (first|refine sX ?_ ?_<;>intro h|simp only[go_sem, *])
   refine hG _ _ hdec ⟨i+1,t / B,acc++[t % B],rfl,rfl,rfl,ZV ho,by simp[hal];omega,hi3,b2,hoo,hjj⟩
attribute [go_sem] nI
theorem XU (an:Bool) (a k:Nat) (hk:k < 18446744073709551616) (ha:(aO a).length<=700000):aB Tryz.prog 87 [nI an a,.int .u64 (k:Int)] (nI (decide (a*k≠0)) (a*k)):=by
 have h0:=SC an a (k % 4294967296) 0 (by rw[eu];omega) (by decide) (by omega);have h1:=SC an a (k / 4294967296) 1 (by rw[eu];omega) (by decide) (by omega);rw[Nat.pow_zero,Nat.mul_one]at h0;rw[Nat.pow_one]at h1;have l0:(aO (a*(k % 4294967296))).length<=700001:=tC (n:=1) ha (cZ (by rw[Nat.pow_one,eu];omega));have l1:(aO (a*(k / 4294967296)*B)).length<=700003:=tC (n:=2) (tC (n:=1) ha (cZ (by rw[Nat.pow_one,eu];omega))) (cZ (by decide));have hp:=A9 true true (a*(k % 4294967296)) (a*(k / 4294967296)*B) (by omega) (by omega);have e:a*(k % 4294967296)+a*(k / 4294967296)*B=a*k:=by
  rw[Nat.mul_assoc,<- Nat.mul_add];congr 1;rw[eu];omega
 rw[e]at hp;have hm:=Cz (P:=Tryz.prog) (h:=fun _=>[]) 38 hk;clear e l0 l1 ha;generalize a*(k % 4294967296)=x at *;generalize a*(k / 4294967296)*B=y at *;generalize a*k=z at *;unfold nI at h0 h1 hp ⊢;generalize decide (z≠0)=zz at *;refine au orders Tryz.func87 rfl (by kernel_rfl) bf (by kernel_rfl) rfl (fun hs=>?_);clear hs hk
 repeat' (first|refine sX ?_ ?_<;>intro h|refine aj (h0) rfl ?_|refine aj (h1) rfl ?_|refine aj (hp) rfl ?_|simp only[go_sem, *])
theorem ZW (n:Nat) (hn:n < 18446744073709551616):aB Tryz.prog 84 [.int .u64 (n:Int)] (nI true n):=by
 have h1:n / 4294967296 % B=n / 4294967296:=Nat.mod_eq_of_lt (by rw[eu];omega);have ho:okD [n % B,n / 4294967296]:=by rw[bG,bG];exact ⟨Nat.mod_lt _ fQ,by rw[eu];omega,qE⟩
 have hc:=Vf true [n % B,n / 4294967296] (by simp);have hv:val [n % B,n / 4294967296]=n:=by simp only[val,eu];omega
 rw[pU ho,hv]at hc;refine au orders Tryz.func84 rfl (by kernel_rfl) bf (by kernel_rfl) rfl (fun hs=>?_);clear hs ho hv
 repeat' (first|refine sX ?_ ?_<;>intro h|refine aj (hc) rfl ?_|simp only[go_sem, *,wrap_u32])
theorem ZX (a:Int) (h:jM a):aB Tryz.prog 75 [i64 a] (.int .u64 (a.natAbs:Int)):=by
 obtain ⟨h1,h2⟩:=h;refine au orders Tryz.func75 rfl (by kernel_rfl) bf (by kernel_rfl) rfl (fun hs=>?_);clear hs
 by_cases hz:a < 0
 ·have f0:decide (a < 0)=true:=decide_eq_true hz
  have f1:=xA h1 hz;have f2:=xB (n:=a.natAbs) (by omega) (by omega);rw[Nat.mod_eq_of_lt (by omega)]at f2
  repeat' (first|refine sX ?_ ?_<;>intro h|simp only[go_sem, *])
 ·have f0:decide (a < 0)=false:=decide_eq_false hz
  have f1:=sQ h2 (by omega)
  repeat' (first|refine sX ?_ ?_<;>intro h|simp only[go_sem, *])
theorem FE (an bn:Bool) (x y:Nat) (hla:(aO x).length<=1000000) (hlb:(aO y).length<=1000000):aB Tryz.prog 83 [nI an x,nI bn y] (.bool (decide (x < y))):=by
 have ha:=dR x;have hb:=dR y;have va:=bW x;have vb:=bW y;have hlen:(aO x).length≠(aO y).length->decide (((aO x).length:Int) < ((aO y).length:Int))=decide (x < y):=by
  intro h;rw[Bool.eq_iff_iff,decide_eq_true_iff,decide_eq_true_iff];constructor
  ·intro h2
   refine Decidable.byContradiction fun h3=>?_
   have:=eF (a:=y) (b:=x) (by omega);omega
  ·intro h2
   have:=eF (a:=x) (b:=y) (by omega);omega
 unfold nI;generalize aO x=a at *;generalize aO y=b at *;refine au orders Tryz.func83 rfl (by kernel_rfl) bf (by kernel_rfl) rfl (fun hs=>?_);clear hs
 by_cases hl:a.length=b.length
 ·have f1:((a.length:Int) != (b.length:Int))=false:=by simp;omega
  have hl1:a.length<=b.length:=by omega
  have hl2:b.length<=a.length:=by omega
  have f2:IntKind.i64.wrap ((a.length:Int)-1)=(a.length:Int)-1:=wrap_i64 (by omega) (by omega);rw[<- va,<- vb];clear hl hlen va vb
  repeat' (first|refine sX ?_ ?_<;>intro h|simp only[go_sem, *])
  refine jD (fun m s'=>∃i:Nat,m=i/\i<=a.length/\s'.sl 5=.t (i64 ((i:Int)-1))/\a.drop i=b.drop i) a.length ⟨a.length,rfl,Nat.le_refl _,rfl,by rw[List.drop_length,List.drop_eq_nil_of_le hl2]⟩ ?_
  rintro i s' ⟨_,rfl,hi,h5,hd⟩ hfr G hG
  have c0:=hfr 0 (by kernel_rfl);have c1:=hfr 1 (by kernel_rfl);clear hfr;simp only[go_sem]at c0 c1;cases i with
  |zero =>
   have g1:decide ((((0:Nat):Int)-1)>=0)=false:=rfl;have he:a=b:=by simpa using hd
   subst he;have g2:decide (val a < val a)=false:=decide_eq_false (by omega)
   repeat' (first|refine sX ?_ ?_<;>intro h|simp only[go_sem, *])
  |succ j =>
   have hj:j < a.length:=by omega
   have hjb:j < b.length:=by omega
   have e0:(((j+1:Nat):Int)-1)=(j:Int):=by omega
   rw[e0]at h5;have g1:decide (((j:Nat):Int)>=0)=true:=by simp
   have g2:a[j]?=some a[j]:=List.getElem?_eq_getElem hj;have g3:b[j]?=some b[j]:=List.getElem?_eq_getElem hjb;have g4:IntKind.i64.wrap ((j:Int)-1)=(j:Int)-1:=wrap_i64 (by omega) (by omega)
   by_cases hx:a[j]=b[j]
   ·rw[hx]at g2
    have g5:(((b[j]:Nat):Int) != ((b[j]:Nat):Int))=false:=by simp
    have hda:a.drop j=b.drop j:=by rw[List.drop_eq_getElem_cons hj,List.drop_eq_getElem_cons hjb,hd,hx]
    clear hx hd
    repeat' (first|refine sX ?_ ?_<;>intro h|simp only[go_sem, *])
    refine hG _ _ (Nat.lt_succ_self j) ⟨j,rfl,by omega,rfl,hda⟩
   ·have g5:(((a[j]:Nat):Int) != ((b[j]:Nat):Int))=true:=by simpa using fun h=>hx (by omega)
    by_cases hlt:a[j] < b[j]
    ·have g6:decide (((a[j]:Nat):Int) < ((b[j]:Nat):Int))=true:=by simpa using hlt
     have hv:=oW ha hb (by omega) hj hd (by simpa[hj,hjb] using hlt);rw[decide_eq_true hv]
     repeat' (first|refine sX ?_ ?_<;>intro h|simp only[go_sem, *])
    ·have g6:decide (((a[j]:Nat):Int) < ((b[j]:Nat):Int))=false:=by simpa using hlt
     have hv:=oW hb ha (by omega) hjb hd.symm (by simpa[hj,hjb] using (show b[j] < a[j] by omega));rw[decide_eq_false (show ¬val a < val b by omega)]
     repeat' (first|refine sX ?_ ?_<;>intro h|simp only[go_sem, *])
 ·have f1:((a.length:Int) != (b.length:Int))=true:=by simpa using fun h=>hl (by omega)
  have f2:=hlen hl;clear hlen va vb
  repeat' (first|refine sX ?_ ?_<;>intro h|simp only[go_sem, *])
theorem ZY (an bn:Bool) (x y:Nat) (hla:(aO x).length<=1000000) (hlb:(aO y).length<=1000000):aB Tryz.prog 158 [nI an x,nI bn y] (.bool (decide (x=y))):=by
 have h1:=FE an bn x y hla hlb;have h2:=FE bn an y x hlb hla;rcases Nat.lt_trichotomy x y with h|h|h
 ·rw[decide_eq_true h]at h1
  rw[decide_eq_false (by omega)];clear hla hlb h;refine au orders Tryz.func158 rfl (by kernel_rfl) bf (by kernel_rfl) rfl (fun hs=>?_);clear hs
  repeat' (first|refine sX ?_ ?_<;>intro h|refine aj (h1) rfl ?_|simp only[go_sem, *])
 ·rw[decide_eq_false (by omega)]at h1 h2
  rw[decide_eq_true h];clear hla hlb h;refine au orders Tryz.func158 rfl (by kernel_rfl) bf (by kernel_rfl) rfl (fun hs=>?_);clear hs
  repeat' (first|refine sX ?_ ?_<;>intro h|refine aj (h1) rfl ?_|refine aj (h2) rfl ?_|simp only[go_sem, *])
 ·rw[decide_eq_false (by omega)]at h1
  rw[decide_eq_true h]at h2;rw[decide_eq_false (by omega)];clear hla hlb h;refine au orders Tryz.func158 rfl (by kernel_rfl) bf (by kernel_rfl) rfl (fun hs=>?_);clear hs
  repeat' (first|refine sX ?_ ?_<;>intro h|refine aj (h1) rfl ?_|refine aj (h2) rfl ?_|simp only[go_sem, *])
end ama
end Go.Vm
end
section
namespace Go.Vm
open Go Go.Proofs Go.Whole
theorem rT (x:Tr) (l:List Tr):flat (x::l)=x.cells++flat l:=rfl
theorem Ba {l:List Tr}{k:Nat}{x:Tr} (hx:l[k]?=some x):flat l=flat (l.take k)++(x.cells++flat (l.drop (k+1))):=by
 have hk:=(List.getElem?_eq_some_iff.1 hx).1;have hv:=(List.getElem?_eq_some_iff.1 hx).2
 conv=>lhs;rw[<- List.take_append_drop k l,kP,List.drop_eq_getElem_cons hk,hv,rT]
theorem Bb {l:List Tr}{esz:Nat} (he:∀y∈l,y.cells.length=esz) {k:Nat} (hk:k<=l.length):(flat (l.take k)).length=k*esz:=by
 rw[bJ _ esz (fun y hy=>he y (List.mem_of_mem_take hy)),List.length_take,Nat.min_eq_left hk]
theorem o7 {l:List Tr}{esz k:Nat}{x:Tr} (he:∀y∈l,y.cells.length=esz) (hx:l[k]?=some x):((((flat l).map PV.t).drop (k*esz)).take esz)=x.cells.map PV.t:=by
 have hk:=(List.getElem?_eq_some_iff.1 hx).1;have hl:=Bb he (Nat.le_of_lt hk);have hxl:=he x (List.mem_of_getElem? hx);rw[Ba hx,List.map_append,List.map_append,List.drop_left' (by simp[hl]),List.take_left' (by simp[hxl])]
theorem XV {l:List Tr}{k:Nat}{x y:Tr} (hx:l[k]?=some x):flat (l.set k y)=flat (l.take k)++(y.cells++flat (l.drop (k+1))):=by
 have hk:=(List.getElem?_eq_some_iff.1 hx).1;have h1:(l.set k y)[k]?=some y:=List.getElem?_set_self hk;rw[Ba h1,List.take_set_of_le (Nat.le_refl _),List.drop_set_of_lt (by omega)]
theorem fD {l:List Tr}{esz k:Nat}{x y:Tr} (he:∀y∈l,y.cells.length=esz) (hx:l[k]?=some x) (hy:y.cells.length=esz):splice ((flat l).map PV.t) (k*esz) (y.cells.map PV.t)=(flat (l.set k y)).map PV.t:=by
 have hk:=(List.getElem?_eq_some_iff.1 hx).1;have hl:=Bb he (Nat.le_of_lt hk);have hxl:=he x (List.mem_of_getElem? hx);rw[XV hx,uH,Ba hx];simp only[List.map_append,List.length_map];rw[List.take_left' (by simp[hl]),hy,List.append_assoc];congr 1;congr 1;rw[show k*esz+esz=(flat (l.take k)).length+x.cells.length by rw[hl,hxl],<- List.drop_drop,List.drop_left' (by simp),List.drop_left' (by simp)]
theorem jC (z:List Tr):∀n,gX z n=flat (List.replicate n (.agg z))
 |0=>rfl
 |n+1=>by rw[gX,jC z n,List.replicate_succ,rT];rfl
theorem iX {h:Hp}{id:Id}{l:List Tr}{esz n:Nat}{e:TypeId}{lv:Bool} (k:Nat) (hl:∀x∈l,dh true esz x) (hn:l.length=n) (hg:hget h id=some ⟨(flat l).map .t,esz,n,e,true,lv⟩):aS h (k+1) (.rf id n)=some (.sl true l):=by
 rw[rO,hg];subst hn;simp only[if_true,yY,wF hl]
namespace ama
open Go.Proofs.Tryz
structure bE where
 pn:Bool
 p:Nat
 nn:Bool
 n:Nat
def bE.cs (x:bE):List Tr:=[.sl x.pn (dl (aO x.p)),.sl x.nn (dl (aO x.n))]
def bE.tr (x:bE):Tr:=.agg x.cs
attribute [go_sem] bE.cs bE.tr
abbrev Bc:TypeId:=51
def fB (x:bE) (k:Int) (b:Nat):bE:=if k < 0 then { x with nn:=decide (x.n+b*k.natAbs≠0),n:=x.n+b*k.natAbs } else { x with pn:=decide (x.p+b*k.natAbs≠0),p:=x.p+b*k.natAbs }
theorem Lm (x:bE) (k:Int) (b:Nat):((fB x k b).p:Int)-(fB x k b).n=(x.p:Int)-x.n+k*b:=by
 unfold fB;split
 ·rename_i h
  have:((b*k.natAbs:Nat):Int)=-(k*b):=by rw[Int.natCast_mul,show ((k.natAbs:Nat):Int)=-k by omega,Int.mul_neg,Int.mul_comm]
  simp only;rw[Int.natCast_add,this];omega
 ·rename_i h
  have:((b*k.natAbs:Nat):Int)=k*b:=by rw[Int.natCast_mul,show ((k.natAbs:Nat):Int)=k by omega,Int.mul_comm]
  simp only;rw[Int.natCast_add,this];omega
theorem Qh (x:bE) (k:Int) (bn:Bool) (b:Nat) (hk:jM k) (hb:(aO b).length<=100) (hp:(aO x.p).length<=600000) (hn:(aO x.n).length<=600000):aB Tryz.prog 85 [x.tr,i64 k,nI bn b] (fB x k b).tr:=by
 have s1:=ZX k hk;have WM:k.natAbs < 18446744073709551616:=by obtain ⟨h1,h2⟩:=hk;omega
 have t1:=XU bn b k.natAbs WM (by omega);have hbl:(aO (b*k.natAbs)).length<=102:=tC (n:=2) hb (cZ (by rw[show B ^ 2=18446744073709551616 by decide];exact WM))
 by_cases hz:k < 0
 ·have p1:=A9 x.nn (decide (b*k.natAbs≠0)) x.n (b*k.natAbs) (by omega) (by omega)
  have g:decide (k < 0)=true:=decide_eq_true hz;rw[show fB x k b={ x with nn:=decide (x.n+b*k.natAbs≠0),n:=x.n+b*k.natAbs } from if_pos hz];clear hz hbl hp hn hb hk WM;generalize b*k.natAbs=z at *;generalize x.n+z=z2 at *;generalize decide (z2≠0)=b2 at *;generalize decide (z≠0)=b1 at *;refine au orders Tryz.func85 rfl (by kernel_rfl) (fun d=>d==3||d==6||d==9||d==17) (by kernel_rfl) rfl (fun hs=>?_);clear hs
  repeat' (first|refine sX ?_ ?_<;>intro h|refine aj (s1) rfl ?_|refine aj (t1) rfl ?_|refine aj (p1) rfl ?_|simp only[go_sem, *])
 ·have p1:=A9 x.pn (decide (b*k.natAbs≠0)) x.p (b*k.natAbs) (by omega) (by omega)
  have g:decide (k < 0)=false:=decide_eq_false hz;rw[show fB x k b={ x with pn:=decide (x.p+b*k.natAbs≠0),p:=x.p+b*k.natAbs } from if_neg hz];clear hz hbl hp hn hb hk WM;generalize b*k.natAbs=z at *;generalize x.p+z=z2 at *;generalize decide (z2≠0)=b2 at *;generalize decide (z≠0)=b1 at *;refine au orders Tryz.func85 rfl (by kernel_rfl) (fun d=>d==3||d==6||d==9||d==17) (by kernel_rfl) rfl (fun hs=>?_);clear hs
  repeat' (first|refine sX ?_ ?_<;>intro h|refine aj (s1) rfl ?_|refine aj (t1) rfl ?_|refine aj (p1) rfl ?_|simp only[go_sem, *])
def bE.ok (x:bE):Prop:=(aO x.p).length<=400000/\(aO x.n).length<=400000
theorem ab8 (x:bE) (h:x.ok):aB Tryz.prog 77 [x.tr] (.bool (decide (x.p=x.n))):=by
 have s1:=ZY x.pn x.nn x.p x.n (Nat.le_trans h.1 (by decide)) (Nat.le_trans h.2 (by decide));refine au orders Tryz.func77 rfl (by kernel_rfl) bf (by kernel_rfl) rfl (fun hs=>?_);clear hs h
 repeat' (first|refine sX ?_ ?_<;>intro h|refine aj (s1) rfl ?_|simp only[go_sem, *])
theorem SE (x:bE) (h:x.ok):aB Tryz.prog 31 [x.tr] (.bool (decide (x.p < x.n))):=by
 have s1:=FE x.pn x.nn x.p x.n (Nat.le_trans h.1 (by decide)) (Nat.le_trans h.2 (by decide));refine au orders Tryz.func31 rfl (by kernel_rfl) bf (by kernel_rfl) rfl (fun hs=>?_);clear hs h
 repeat' (first|refine sX ?_ ?_<;>intro h|refine aj (s1) rfl ?_|simp only[go_sem, *])
theorem Qi (x y:bE) (hx:x.ok) (hy:y.ok):aB Tryz.prog 162 [x.tr,y.tr] (.bool (!decide (y.p+x.n < x.p+y.n))):=by
 have a1:=A9 y.pn x.nn y.p x.n (Nat.le_trans hy.1 (by decide)) (Nat.le_trans hx.2 (by decide));have a2:=A9 x.pn y.nn x.p y.n (Nat.le_trans hx.1 (by decide)) (Nat.le_trans hy.2 (by decide));have l1:=FE (decide (y.p+x.n≠0)) (decide (x.p+y.n≠0)) (y.p+x.n) (x.p+y.n) (Nat.le_trans (Lj hy.1 hx.2) (by decide)) (Nat.le_trans (Lj hx.1 hy.2) (by decide));clear hx hy;generalize hz1:y.p+x.n=z1 at *;generalize hz2:x.p+y.n=z2 at *;clear hz1 hz2;generalize decide (z1≠0)=b1 at *;generalize decide (z2≠0)=b2 at *;refine au orders Tryz.func162 rfl (by kernel_rfl) bf (by kernel_rfl) rfl (fun hs=>?_);clear hs
 repeat' (first|refine sX ?_ ?_<;>intro h|refine aj (a1) rfl ?_|refine aj (a2) rfl ?_|refine aj (l1) rfl ?_|simp only[go_sem, *])
end ama
end Go.Vm
end
section
namespace Go.Vm
open Go Go.Proofs Go.Whole
namespace ama
open Go.Proofs.Tryz
attribute [go_sem] Tryz.results76 Tryz.results25 Tryz.results29 Tryz.results19 Tryz.results24 Tryz.results82 Tryz.results30
abbrev dX:TypeId:=37
abbrev jE (n:Nat):Tr:=.int .u64 (n:Int)
abbrev zR:bE:=⟨false,0,false,0⟩
def jN (out:List bE) (cs:List Int) (b:Nat):List bE:=List.zipWith (fun x c=>fB x c b) out cs
def oz:List bE->bE->List Row->List Nat->List bE × bE
 |out,last,r::rows,m::ms=>oz (jN out r.av m) (fB last r.const m) rows ms
 |out,last,_,_=>(out,last)
theorem SF (l:List bE):∀x∈l.map bE.tr,dh true 2 x:=by
 intro x hx;obtain ⟨y,_,rfl⟩:=List.mem_map.1 hx;exact ⟨fun _=>rfl,(fun h=>nomatch h),rfl⟩
theorem G6 (l:List bE):∀x∈l.map bE.tr,x.cells.length=2:=fun x hx=>(SF l x hx).2.2
def bE.le (x:bE) (k:Nat):Prop:=x.p<=k*19342813113834066795298816/\x.n<=k*19342813113834066795298816
theorem bE.le.ok {x:bE}{k:Nat} (h:x.le k) (hk:k<=100000) :
  (aO x.p).length<=4/\(aO x.n).length<=4:=by
 obtain ⟨h1,h2⟩:=h;have h2:B ^ 2=18446744073709551616:=by decide
 have h3:B ^ 4=340282366920938463463374607431768211456:=by
  rw[Nat.pow_succ,Nat.pow_succ,h2,eu]
 constructor
 ·refine cZ ?_
  rw[h3];omega
 ·refine cZ ?_
  rw[h3];omega
theorem yC {x:bE}{k:Nat} (h:x.le k) {c:Int}{m:Nat} (hc:c.natAbs<=1048576) (hm:m < 18446744073709551616):(fB x c m).le (k+1):=by
 have:m*c.natAbs<=18446744073709551616*1048576:=Nat.mul_le_mul (Nat.le_of_lt hm) hc;obtain ⟨h1,h2⟩:=h;rw[show 18446744073709551616*1048576=19342813113834066795298816 from rfl]at this;unfold bE.le;rw[Nat.succ_mul];generalize 19342813113834066795298816=big at *
 by_cases hc0:c < 0
 ·rw[show fB x c m=_ from if_pos hc0]
  exact ⟨by show x.p<=_;omega,by show x.n+m*c.natAbs<=_;omega⟩
 ·rw[show fB x c m=_ from if_neg hc0]
  exact ⟨by show x.p+m*c.natAbs<=_;omega,by show x.n<=_;omega⟩
theorem aZ {c:Int} (h:aU c=true):c.natAbs<=1048576:=by
 simp[aU]at h;omega
theorem Kc {m:Nat} (hm:m < 18446744073709551616):(aO m).length<=2:=cZ (by rw[show B ^ 2=18446744073709551616 by decide];exact hm)
theorem Lp:zR.cs=[.sl false [],.sl false []]:=by simp only[bE.cs,gF,WJ]
theorem ab9 (V:Nat):(flat ((List.replicate V zR).map bE.tr)).map PV.t=(gX [.sl false [],.sl false []] V).map PV.t:=by
 rw[jC,List.map_replicate];unfold bE.tr;rw[Lp]
theorem Ed (k:Nat):zR.le k:=⟨Nat.zero_le _,Nat.zero_le _⟩
theorem Z4 (V:Nat) (rnn:Bool) (rows:List Row) (mnn:Bool) (ms:List Nat) (hV:V<=128) (hlen:rows.length<=256) (hml:rows.length<=ms.length) (hms:∀m∈ms,m < 18446744073709551616) (hrow:∀r∈rows,r.av.length=V/\aU r.const=true/\∀c∈r.av,aU c=true) :
  aB Tryz.prog 76 [i64 V,.sl rnn (rows.map Row.tr),.sl mnn (ms.map jE)] (.tup [.sl true ((oz (List.replicate V zR) zR rows ms).1.map bE.tr),(oz (List.replicate V zR) zR rows ms).2.tr]):=by
 refine au orders Tryz.func76 rfl (by kernel_rfl) (fun d=>d==7||d==9||d==11||d==16) (by kernel_rfl) rfl (fun hs=>?_);clear hs;generalize hR:oz (List.replicate V zR) zR rows ms=R
 repeat' (first|refine sX ?_ ?_<;>intro h|simp only[go_sem, *])
 refine dS ⟨by omega,by omega⟩ ?_
 repeat' (first|refine sX ?_ ?_<;>intro h|simp only[go_sem, *])
 refine aC rows (fun k s'=>∃(out:List bE) (last:bE),hget s'.hp (16,0)=some ⟨(flat (out.map bE.tr)).map .t,2,V,Bc,true,true⟩/\hget s'.hp (9,0)=some ⟨last.cs.map .t,2,1,Bc,true,true⟩/\hget s'.hp (7,0)=some ⟨zR.cs.map .t,2,1,Bc,true,true⟩/\out.length=V/\(∀x∈out,x.le k)/\last.le k/\oz out last (rows.drop k) (ms.drop k)=R) rfl rfl (by first|assumption|omega) (by kernel_rfl) (fun _ _ _ _ hj=>hj) (fun _ _ _ hj=>hj) ?_ (fun k x s' hx hd hk hJ hix hfr G hG=>?_) (fun s' hJ hfr=>?_)
 ·refine ⟨List.replicate V zR,zR,?_,?_,?_,by simp,fun x hx=>by rw[(List.mem_replicate.1 hx).2];exact Ed 0,Ed 0,hR⟩
  ·rw[ab9];rfl
  ·rw[Lp];rfl
  ·rw[Lp];rfl
 ·have c2:=hfr 2 (by kernel_rfl)
  have c8:=hfr 8 (by kernel_rfl);have c9:=hfr 9 (by kernel_rfl);have c17:=hfr 17 (by kernel_rfl);clear hfr;simp only[go_sem]at c2 c8 c9 c17;change _=PV.rf (16,0) V at c8;change _=PV.ad (9,0) 1 0 at c9;obtain ⟨out,last,h16,h9,h7,hol,hole,FH,hJ⟩:=hJ;have hkm:k < ms.length:=by omega
  obtain ⟨m,hm1,hm2⟩:=aF ms k hkm;have yD:=hms m (List.mem_of_getElem? hm1);obtain ⟨Z5,hx2,hx3⟩:=hrow x (List.mem_of_getElem? hx);have ahh:x.av.length<=V:=by omega
  have ahi:V<=x.av.length:=by omega
  clear Z5;rw[hd,hm2,oz]at hJ;have of1:=ZW m yD;have e2:=c2;have e8:=c8;have e9:=c9
  repeat' (first|refine sX ?_ ?_<;>intro h|refine aj (of1) rfl ?_|simp only[go_sem, *])
  obtain ⟨H,hH⟩:∃H,H=s'.hp:=⟨_,rfl⟩
  rw[<- hH]at h16 h9 h7 ⊢;clear hH;obtain ⟨i,hik⟩:∃i,i=k:=⟨k,rfl⟩
  subst hik;obtain ⟨r,hrx⟩:∃r,r=x:=⟨x,rfl⟩
  subst hrx;refine aC r.av (fun k s'=>∃cur:List bE,hget s'.hp (16,0)=some ⟨(flat (cur.map bE.tr)).map .t,2,V,Bc,true,true⟩/\hget s'.hp (9,0)=some ⟨last.cs.map .t,2,1,Bc,true,true⟩/\hget s'.hp (7,0)=some ⟨zR.cs.map .t,2,1,Bc,true,true⟩/\hget s'.hp (hnext H 11)=some ⟨[.t (.sl r.nn (r.av.map (Tr.int .i64))),.t (.int .i64 r.const)],2,1,dX,true,true⟩/\cur.length=V/\cur.drop k=out.drop k/\cur.take k=(jN out r.av m).take k) rfl rfl (by first|assumption|omega) (by kernel_rfl) (fun _ _ _ _ hj=>hj) (fun _ _ _ hj=>hj) ?_ (fun k x s' hx hd hk hJ hix hfr G hG=>?_) (fun s' hJ hfr=>?_)
  ·refine ⟨out,?_,?_,?_,?_,hol,rfl,rfl⟩
   ·simp only[go_sem,h16]
   ·simp only[go_sem,h9]
   ·simp only[go_sem,h7]
   ·exact aJ _ _
  ·have c8:=hfr 8 (by kernel_rfl)
   have c12:=hfr 12 (by kernel_rfl);have c30:=hfr 30 (by kernel_rfl);clear hfr;simp only[go_sem]at c8 c12 c30;obtain ⟨cur,h16,h9,h7,h11,hcl,hdr,htk⟩:=hJ;rw[e8]at c8;have hkV:k < V:=by omega
   obtain ⟨y,hy,_⟩:=aF out k (by omega);have hcy:cur[k]?=some y:=by
    have:=congrArg (fun l=>l[0]?) hdr;simp only[List.getElem?_drop,Nat.add_zero]at this;rw[this,hy]
   have hxs:=aZ (hx3 x (List.mem_of_getElem? hx));have hyo:=(hole y (List.mem_of_getElem? hy)).ok (by omega);have w1:=Qh y x true m ⟨by omega,by omega⟩ (Nat.le_trans (Kc yD) (by decide)) (by omega) (by omega);have hload:List.take 2 (List.drop (k*2) (List.map PV.t (flat (List.map bE.tr cur))))=y.cs.map PV.t:=o7 (G6 cur) (by rw[List.getElem?_map,hcy];rfl);have vB:splice (List.map PV.t (flat (List.map bE.tr cur))) (k*2) ((fB y x m).cs.map PV.t)=List.map PV.t (flat (List.map bE.tr (cur.set k (fB y x m)))):=by
    rw[List.map_set];exact fD (G6 cur) (x:=y.tr) (y:=(fB y x m).tr) (by rw[List.getElem?_map,hcy];rfl) rfl
   simp only[go_sem]at hload vB;have hfl:(flat (List.map bE.tr cur)).length=V*2:=by rw[bJ _ 2 (G6 cur),List.length_map,hcl]
   have ahj:k+1<=V:=hkV;have ahk:k*2+2<=V*2:=by omega
   have hadd:(jN out r.av m)[k]?=some (fB y x m):=by
    unfold jN;rw[List.getElem?_zipWith,hy,hx]
   have hset:(cur.set k (fB y x m)).take (k+1)=(jN out r.av m).take (k+1):=by
    rw[aP _ _ _ (by omega),htk,List.take_add_one,hadd];rfl
   have Lr:(cur.set k (fB y x m)).drop (k+1)=out.drop (k+1):=by
    rw[List.drop_set_of_lt (by omega)];have:=congrArg (List.drop 1) hdr;simpa only[List.drop_drop] using this
   clear hdr htk hadd hcy hy hyo hxs
   repeat' (first|refine sX ?_ ?_<;>intro h|refine aj (w1) rfl ?_|simp only[go_sem, *])
   refine hG _ ⟨cur.set k (fB y x m),?_,?_,?_,?_,by simp[hcl],Lr,hset⟩
   ·simp only[go_sem,h16]
   ·simp only[go_sem,h9]
   ·simp only[go_sem,h7]
   ·simp only[go_sem,h11]
  ·obtain ⟨cur,h16,h9,h7,h11,hcl,hdr,htk⟩:=hJ
   have c9:=hfr 9 (by kernel_rfl);have c11:=hfr 11 (by kernel_rfl);have c12:=hfr 12 (by kernel_rfl);clear hfr;simp only[go_sem]at c9 c11 c12;rw[e9]at c9;have hal:(jN out r.av m).length=V:=by unfold jN;rw[List.length_zipWith];omega
   rw[List.take_of_length_le (by omega),List.take_of_length_le (by omega)]at htk;have hcs:=aZ hx2;have hlo:=FH.ok (by omega);have w1:=Qh last r.const true m ⟨by omega,by omega⟩ (Nat.le_trans (Kc yD) (by decide)) (by omega) (by omega);clear hdr hlo
   repeat' (first|refine sX ?_ ?_<;>intro h|refine aj (w1) rfl ?_|simp only[go_sem, *])
   refine hG _ ⟨jN out r.av m,fB last r.const m,?_,?_,?_,hal,?_,yC FH hcs yD,hJ⟩
   ·rw[<- htk];simp only[go_sem,h16]
   ·simp only[go_sem,h9]
   ·simp only[go_sem,h7]
   ·intro z hz
    unfold jN at hz;rw[List.mem_iff_getElem?]at hz;obtain ⟨j,hj⟩:=hz;rw[List.getElem?_zipWith]at hj;cases ho:out[j]? with
    |none=>simp[ho]at hj
    |some a =>
     cases hc:r.av[j]? with
     |none=>simp[ho,hc]at hj
     |some c =>
      simp[ho,hc]at hj;rw[<- hj];exact yC (hole a (List.mem_of_getElem? ho)) (aZ (hx3 c (List.mem_of_getElem? hc))) yD
 ·obtain ⟨out,last,h16,h9,h7,hol,hole,FH,hJ⟩:=hJ
  have c7:=hfr 7 (by kernel_rfl);have c8:=hfr 8 (by kernel_rfl);have c9:=hfr 9 (by kernel_rfl);clear hfr;simp only[go_sem]at c7 c8 c9;change _=PV.rf (16,0) V at c8;change _=PV.ad (9,0) 1 0 at c9;change _=PV.ad (7,0) 1 0 at c7;rw[List.drop_length]at hJ;have hJ':R=(out,last):=by rw[<- hJ];cases hmd:ms.drop rows.length<;>rfl
  subst hJ';have dN:∀o,aS (hset s'.hp (7,0) o) dep (.rf (16,0) V)=some (.sl true (out.map bE.tr)):=fun o=>iX 5 (SF out) (by simp[hol]) (by rw[lU _ rfl];exact h16)
  clear hR hJ
  repeat' (first|refine sX ?_ ?_<;>intro h|simp only[go_sem, *])
  all_goals rw[dN]
theorem Z6 (rnn:Bool) (rows:List Row) (mnn:Bool) (ms:List Nat):aB Tryz.prog 24 [.sl rnn (rows.map Row.tr),.sl mnn (ms.map jE)] (.bool (decide (ms.length=rows.length)&&ms.all (fun m=>decide (m<=4611686018427387904)))):=by
 refine au orders Tryz.func24 rfl (by kernel_rfl) bf (by kernel_rfl) rfl (fun hs=>?_);simp[dJ,Tr.sized]at hs;obtain ⟨⟨hs1,_⟩,hs2,_⟩:=hs
 by_cases hl:ms.length=rows.length
 ·have g1:((ms.length:Int) != (rows.length:Int))=false:=by simp;omega
  rw[decide_eq_true hl,Bool.true_and];clear hl
  repeat' (first|refine sX ?_ ?_<;>intro h|simp only[go_sem, *])
  refine aC ms (fun k s'=>ms.all (fun m=>decide (m<=4611686018427387904))=(ms.drop k).all (fun m=>decide (m<=4611686018427387904))) rfl rfl (by first|assumption|omega) (by kernel_rfl) (fun _ _ _ _ hj=>hj) (fun _ _ _ hj=>hj) ?_ (fun k x s' hx hd hk hJ hix hfr G hG=>?_) (fun s' hJ hfr=>?_)
  ·rfl
  ·have c12:=hfr 12 (by kernel_rfl)
   clear hfr;simp only[go_sem]at c12;rw[hd,List.all_cons]at hJ
   by_cases hx1:x<=4611686018427387904
   ·have g2:decide ((x:Int) > 4611686018427387904)=false:=decide_eq_false (by omega)
    rw[decide_eq_true hx1,Bool.true_and]at hJ;clear hx1
    repeat' (first|refine sX ?_ ?_<;>intro h|simp only[go_sem, *])
   ·have g2:decide ((x:Int) > 4611686018427387904)=true:=decide_eq_true (by omega)
    rw[decide_eq_false hx1,Bool.false_and]at hJ;clear hx1
    repeat' (first|refine sX ?_ ?_<;>intro h|simp only[go_sem, *])
  ·simp only[List.drop_length,List.all_nil]at hJ
   repeat' (first|refine sX ?_ ?_<;>intro h|simp only[go_sem, *])
 ·have g1:((ms.length:Int) != (rows.length:Int))=true:=by simpa using fun h=>hl (by omega)
  rw[decide_eq_false hl,Bool.false_and];clear hl
  repeat' (first|refine sX ?_ ?_<;>intro h|simp only[go_sem, *])
def bQ (vars:Int) (rows:List Row):Int:=if decide (vars < 0)||decide (vars > 128) then 2 else if decide ((rows.length:Int) > 256) then 3 else if rows.all (bC vars) then 0 else 2
theorem XW (vars:Int) (rnn:Bool) (rows:List Row):aB Tryz.prog 19 [i64 vars,.sl rnn (rows.map Row.tr)] (i64 (bQ vars rows)):=by
 refine au orders Tryz.func19 rfl (by kernel_rfl) (fun d=>d==6) (by kernel_rfl) rfl (fun hs=>?_);simp[dJ,Tr.sized]at hs;obtain ⟨hs1,_⟩:=hs
 repeat' (first|refine sX ?_ ?_<;>intro h|simp only[go_sem, *])
 try any_goals (refine congrArg some ?_;first|rfl|(simp only[go_sem,bQ, *];done)|(simp only[go_sem,bQ, *];rfl)|(simp_all[bQ];done))
 refine aC rows (fun k s'=>rows.all (bC vars)=(rows.drop k).all (bC vars)) rfl rfl (by first|assumption|omega) (by kernel_rfl) (fun _ _ _ _ hj=>hj) (fun _ _ _ hj=>hj) ?_ (fun k x s' hx hd hk hJ hix hfr G hG=>?_) (fun s' hJ hfr=>?_)
 ·rfl
 ·have c0:=hfr 0 (by kernel_rfl)
  have c16:=hfr 16 (by kernel_rfl);clear hfr;simp only[go_sem]at c0 c16;rw[hd,List.all_cons]at hJ
  repeat' (first|refine sX ?_ ?_<;>intro h|refine aj (AL vars x) rfl ?_|simp only[go_sem, *])
  try any_goals (refine congrArg some ?_;first|rfl|(simp only[go_sem,bQ, *];done)|(simp only[go_sem,bQ, *];rfl)|(simp_all[bQ];done))
  try any_goals (refine hG _ ?_;simp only[go_sem,bQ, *];done)
 ·simp only[List.drop_length,List.all_nil]at hJ
  repeat' (first|refine sX ?_ ?_<;>intro h|simp only[go_sem, *])
  try any_goals (refine congrArg some ?_;first|rfl|(simp only[go_sem,bQ, *];done)|(simp only[go_sem,bQ, *];rfl)|(simp_all[bQ];done))
def uU (q:List bE × bE):Bool:=q.1.all (fun x=>decide (x.p=x.n))&&decide (q.2.p < q.2.n)
theorem Ls:∀(rows:List Row) (ms:List Nat) (out:List bE) (last:bE) (k:Nat),(∀m∈ms,m < 18446744073709551616)->(∀r∈rows,aU r.const=true/\∀c∈r.av,aU c=true)->(∀x∈out,x.le k)->last.le k ->
  (∀x∈(oz out last rows ms).1,x.le (k+rows.length))/\(oz out last rows ms).2.le (k+rows.length)
 |[],ms,out,last,k,_,_,h1,h2=>by cases ms<;>exact ⟨h1,h2⟩
 |r::rows,[],out,last,k,_,_,h1,h2=>by
  refine ⟨fun x hx=>?_,?_⟩
  ·have:=h1 x hx;unfold bE.le at *;simp only[List.length_cons];constructor<;>refine Nat.le_trans (by first|exact this.1|exact this.2) (Nat.mul_le_mul_right _ (by omega))
  ·unfold bE.le at *;simp only[List.length_cons];constructor<;>refine Nat.le_trans (by first|exact h2.1|exact h2.2) (Nat.mul_le_mul_right _ (by omega))
 |r::rows,m::ms,out,last,k,hm,hr,h1,h2=>by
  have hr0:=hr r (by simp);have hm0:=hm m (by simp);have:=Ls rows ms (jN out r.av m) (fB last r.const m) (k+1) (fun x hx=>hm x (by simp[hx])) (fun x hx=>hr x (by simp[hx])) (fun z hz=>by
   unfold jN at hz;rw[List.mem_iff_getElem?]at hz;obtain ⟨j,hj⟩:=hz;rw[List.getElem?_zipWith]at hj;cases ho:out[j]? with
   |none=>simp[ho]at hj
   |some a =>
    cases hc:r.av[j]? with
    |none=>simp[ho,hc]at hj
    |some c =>
     simp[ho,hc]at hj;rw[<- hj];exact yC (h1 a (List.mem_of_getElem? ho)) (aZ (hr0.2 c (List.mem_of_getElem? hc))) hm0) (yC h2 (aZ hr0.1) hm0)
  simp only[oz,List.length_cons];rw[show k+(rows.length+1)=k+1+rows.length by omega];exact this
theorem G7 {V:Nat}:∀(rows:List Row) (ms:List Nat) (out:List bE) (last:bE),out.length=V->(∀r∈rows,r.av.length=V)->(oz out last rows ms).1.length=V
 |[],ms,out,last,h,_=>by cases ms<;>exact h
 |r::rows,[],out,last,h,_=>h
 |r::rows,m::ms,out,last,h,hr=>by
  simp only[oz];exact G7 rows ms _ _ (by unfold jN;rw[List.length_zipWith,h,hr r (by simp),Nat.min_self]) (fun x hx=>hr x (by simp[hx]))
structure Sys (V:Nat) (rows:List Row):Prop where
 v:V<=128
 n:rows.length<=256
 r:∀r∈rows,r.av.length=V/\aU r.const=true/\∀c∈r.av,aU c=true
theorem bE.le.ok' {x:bE}{k:Nat} (h:x.le k) (hk:k<=100000):x.ok:=⟨Nat.le_trans (h.ok hk).1 (by decide),Nat.le_trans (h.ok hk).2 (by decide)⟩
theorem Nl (V:Nat) (rnn:Bool) (rows:List Row) (mnn:Bool) (ms:List Nat) (hs0:Sys V rows) (hml:rows.length<=ms.length) (hms:∀m∈ms,m < 18446744073709551616) :
  aB Tryz.prog 25 [i64 V,.sl rnn (rows.map Row.tr),.sl mnn (ms.map jE)] (.bool (uU (oz (List.replicate V zR) zR rows ms))):=by
 have hsum:=Z4 V rnn rows mnn ms hs0.v hs0.n hml hms hs0.r;obtain ⟨hle1,hle2⟩:=Ls rows ms (List.replicate V zR) zR 0 hms (fun r hr=>(hs0.r r hr).2) (fun x hx=>by rw[(List.mem_replicate.1 hx).2];exact Ed 0) (Ed 0);rw[Nat.zero_add]at hle1 hle2;have hn:=hs0.n;have hol:=G7 rows ms (List.replicate V zR) zR (by simp) (fun r hr=>(hs0.r r hr).1);have hv:=hs0.v;rw[<- hol]at hv;clear hs0 hml hms hol;generalize oz (List.replicate V zR) zR rows ms=R at *;obtain ⟨out,last⟩:=R;simp only at hsum hle1 hle2 hv;have hneg:=SE last (hle2.ok' (by omega));have hz:=fun x hx=>ab8 x ((hle1 x hx).ok' (by omega))
 unfold uU;simp only;refine au orders Tryz.func25 rfl (by kernel_rfl) (fun d=>d==8||d==10) (by kernel_rfl) rfl (fun hs=>?_);clear hs
 repeat' (first|refine sX ?_ ?_<;>intro h|refine aj (hsum) rfl ?_|simp only[go_sem, *])
 refine aC out (fun k s'=>hget s'.hp (8,0)=some ⟨last.cs.map .t,2,1,Bc,true,true⟩/\out.all (fun x=>decide (x.p=x.n))=(out.drop k).all (fun x=>decide (x.p=x.n))) rfl rfl (by first|assumption|omega) (by kernel_rfl) (fun _ _ _ _ hj=>hj) (fun _ _ _ hj=>hj) ?_ (fun k x s' hx hd hk hJ hix hfr G hG=>?_) (fun s' hJ hfr=>?_)
 ·exact ⟨rfl,rfl⟩
 ·have c8:=hfr 8 (by kernel_rfl)
  have c18:=hfr 18 (by kernel_rfl);clear hfr;simp only[go_sem]at c8 c18;change _=PV.ad (8,0) 1 0 at c8;obtain ⟨h8,hJ⟩:=hJ;rw[hd,List.all_cons]at hJ;have hz1:=hz x (List.mem_of_getElem? hx);generalize decide (x.p=x.n)=zb at *;cases zb with
  |true =>
   rw[Bool.true_and]at hJ
   repeat' (first|refine sX ?_ ?_<;>intro h|refine aj (hz1) rfl ?_|simp only[go_sem, *])
  |false =>
   rw[Bool.false_and]at hJ
   repeat' (first|refine sX ?_ ?_<;>intro h|refine aj (hz1) rfl ?_|simp only[go_sem, *])
 ·have c8:=hfr 8 (by kernel_rfl)
  clear hfr;simp only[go_sem]at c8;change _=PV.ad (8,0) 1 0 at c8;obtain ⟨h8,hJ⟩:=hJ;rw[List.drop_length,List.all_nil]at hJ;rw[hJ,Bool.true_and]
  repeat' (first|refine sX ?_ ?_<;>intro h|refine aj (hneg) rfl ?_|simp only[go_sem, *])
theorem vC (l:List Row):∀x∈l.map Row.tr,dh true 2 x:=by
 intro x hx;obtain ⟨y,_,rfl⟩:=List.mem_map.1 hx;exact ⟨fun _=>rfl,(fun h=>nomatch h),rfl⟩
structure Cert where
 scale:Nat
 mnn:Bool
 ms:List Nat
def Cert.tr (f:Cert):Tr:=.agg [.int .u64 (f.scale:Int),.sl f.mnn (f.ms.map jE)]
attribute [go_sem] Cert.tr
def tX (x y:bE):Bool:=!decide (y.p+x.n < x.p+y.n)
def Bd:List bE->List Int->Nat->Bool
 |c::out,a::l,b=>(tX c (fB zR a b)&&tX (fB zR a b) c)&&Bd out l b
 |_,_,_=>true
def Bf (q:List bE × bE) (row:Row) (sc:Nat):Bool:=if sc=0 then uU q else Bd q.1 row.av sc&&tX q.2 (fB zR row.const sc)
set_option maxHeartbeats 1000000 in
theorem Qj (V:Nat) (rnn:Bool) (rows:List Row) (row:Row) (f:Cert) (hs0:Sys V rows) (hrow:row.av.length=V/\aU row.const=true/\∀c∈row.av,aU c=true) (hml:rows.length<=f.ms.length) (hms:∀m∈f.ms,m < 18446744073709551616) (hsc:f.scale < 18446744073709551616) :
  aB Tryz.prog 82 [i64 V,.sl rnn (rows.map Row.tr),row.tr,f.tr] (.bool (Bf (oz (List.replicate V zR) zR rows f.ms) row f.scale)):=by
 obtain ⟨sc,mnn,ms⟩:=f;simp only at hml hms hsc ⊢;have hsum:=Z4 V rnn rows mnn ms hs0.v hs0.n hml hms hs0.r;have href:=Nl V rnn rows mnn ms hs0 hml hms;obtain ⟨hle1,hle2⟩:=Ls rows ms (List.replicate V zR) zR 0 hms (fun r hr=>(hs0.r r hr).2) (fun x hx=>by rw[(List.mem_replicate.1 hx).2];exact Ed 0) (Ed 0);rw[Nat.zero_add]at hle1 hle2;have hn:=hs0.n;have hol:=G7 rows ms (List.replicate V zR) zR (by simp) (fun r hr=>(hs0.r r hr).1);have hv:=hs0.v;clear hs0 hml hms;generalize oz (List.replicate V zR) zR rows ms=R at *;obtain ⟨out,last⟩:=R;simp only at hsum hle1 hle2 hv hol;obtain ⟨hr1,hr2,hr3⟩:=hrow;have ahl:out.length<=row.av.length:=by omega
 have ahm:out.length<=128:=by omega
 clear hol hr1
 by_cases h0:sc=0
 ·subst h0
  rw[show Bf (out,last) row 0=uU (out,last) from if_pos rfl];have g1:(((0:Nat):Int)==0)=true:=rfl;refine au orders Tryz.func82 rfl (by kernel_rfl) (fun d=>d==10||d==13||d==14) (by kernel_rfl) rfl (fun hs=>?_);clear hs
  repeat' (first|refine sX ?_ ?_<;>intro h|refine aj (href) rfl ?_|simp only[go_sem, *])
 ·rw[show Bf (out,last) row sc=(Bd out row.av sc&&tX last (fB zR row.const sc)) from if_neg h0]
  have g1:((sc:Int)==0)=false:=by simpa using h0
  have hof:=ZW sc hsc;have hby:=fun a (ha:aU a=true)=>Qh zR a true sc ⟨by have:=aZ ha;omega,by have:=aZ ha;omega⟩ (Nat.le_trans (Kc hsc) (by decide)) (by rw[show zR.p=0 from rfl,gF];simp) (by rw[show zR.n=0 from rfl,gF];simp)
  have hwo:=fun a (ha:aU a=true)=>(yC (Ed 0) (aZ ha) hsc).ok' (by decide)
  have ahn:=fun x (hx:x∈out) a (ha:aU a=true)=>Qi x (fB zR a sc) ((hle1 x hx).ok' (by omega)) (hwo a ha)
  have aho:=fun x (hx:x∈out) a (ha:aU a=true)=>Qi (fB zR a sc) x (hwo a ha) ((hle1 x hx).ok' (by omega))
  have hml:=Qi last (fB zR row.const sc) (hle2.ok' (by omega)) (hwo _ hr2);have Z7:=hby row.const hr2;clear hle1 hle2 hwo;have hz:∀(l:List Tr) (P:Prop),P->P:=fun _ _ h=>h
  unfold bE.tr at hby Z7;rw[Lp]at Z7;simp only[Lp]at hby;refine au orders Tryz.func82 rfl (by kernel_rfl) (fun d=>d==10||d==13||d==14) (by kernel_rfl) rfl (fun hs=>?_);clear hs
  repeat' (first|refine sX ?_ ?_<;>intro h|refine aj (hsum) rfl ?_|refine aj (hof) rfl ?_|simp only[go_sem, *])
  refine aC out (fun k s'=>hget s'.hp (10,0)=some ⟨last.cs.map .t,2,1,Bc,true,true⟩/\Bd out row.av sc=Bd (out.drop k) (row.av.drop k) sc) rfl rfl (by first|assumption|omega) (by kernel_rfl) (fun _ _ _ _ hj=>hj) (fun _ _ _ hj=>hj) ?_ (fun k x s' hx hd hk hJ hix hfr G hG=>?_) (fun s' hJ hfr=>?_)
  ·exact ⟨rfl,rfl⟩
  ·have c6:=hfr 6 (by kernel_rfl)
   have c11:=hfr 11 (by kernel_rfl);have c34:=hfr 34 (by kernel_rfl);clear hfr;simp only[go_sem]at c6 c11 c34;obtain ⟨h10,hJ⟩:=hJ;obtain ⟨a,ha,had⟩:=aF row.av k (by omega);have Z8:=hr3 a (List.mem_of_getElem? ha);rw[hd,had,Bd]at hJ;have m1:=ahn x (List.mem_of_getElem? hx) a Z8;have m2:=aho x (List.mem_of_getElem? hx) a Z8;have b1:=hby a Z8;change aB _ _ _ (.bool (tX x (fB zR a sc))) at m1;change aB _ _ _ (.bool (tX (fB zR a sc) x)) at m2;unfold bE.tr at m1 m2;generalize tX x (fB zR a sc)=z1 at *;generalize tX (fB zR a sc) x=z2 at *;generalize fB zR a sc=W at *;cases z1 with
   |false =>
    rw[Bool.false_and,Bool.false_and]at hJ
    repeat' (first|refine sX ?_ ?_<;>intro h|refine aj (b1) rfl ?_|refine aj (m1) rfl ?_|simp only[go_sem, *])
   |true =>
    cases z2 with
    |false =>
     rw[Bool.true_and,Bool.false_and]at hJ
     repeat' (first|refine sX ?_ ?_<;>intro h|refine aj (b1) rfl ?_|refine aj (m1) rfl ?_|refine aj (m2) rfl ?_|simp only[go_sem, *])
    |true =>
     rw[Bool.true_and,Bool.true_and]at hJ
     repeat' (first|refine sX ?_ ?_<;>intro h|refine aj (b1) rfl ?_|refine aj (m1) rfl ?_|refine aj (m2) rfl ?_|simp only[go_sem, *])
  ·have c6:=hfr 6 (by kernel_rfl)
   have c10:=hfr 10 (by kernel_rfl);have c11:=hfr 11 (by kernel_rfl);clear hfr;simp only[go_sem]at c6 c10 c11;change _=PV.ad (10,0) 1 0 at c10;obtain ⟨h10,hJ⟩:=hJ;rw[List.drop_length]at hJ;have hJ':Bd out row.av sc=true:=by rw[hJ];cases hdd:row.av.drop out.length<;>rfl
   rw[hJ',Bool.true_and];change aB _ _ _ (.bool (tX last (fB zR row.const sc))) at hml;unfold bE.tr at hml;clear hJ hJ';generalize tX last (fB zR row.const sc)=z1 at *;generalize fB zR row.const sc=W at *
   repeat' (first|refine sX ?_ ?_<;>intro h|refine aj (Z7) rfl ?_|refine aj (hml) rfl ?_|simp only[go_sem, *])
attribute [go_sem] Tryz.results72 Tryz.results150 Tryz.results219 Tryz.results151 Tryz.results221 Tryz.results220 Tryz.results258 Tryz.results152 Tryz.results78 Tryz.results73 Tryz.results65 Tryz.results134 Tryz.results218 Tryz.results257
theorem Vg (vars:Int) (r:Row):aB Tryz.prog 134 [r.tr,.ptr [i64 vars]] (.bool (!bC vars r)):=by
 refine au orders Tryz.func134 rfl (by kernel_rfl) bf (by kernel_rfl) rfl (fun hs=>?_)
 repeat' (first|refine sX ?_ ?_<;>intro h|refine aj (KQ vars r) rfl ?_|simp only[go_sem, *])
theorem CB (vars:Int) (rnn:Bool) (rows:List Row):aB Tryz.prog 65 [i64 vars,.sl rnn (rows.map Row.tr)] (i64 (bQ vars rows)):=by
 have hc:=oU rnn rows 134 [.ptr [i64 vars]] (fun x=>!bC vars x) (fun x _=>Vg vars x);rw[mD]at hc;refine au orders Tryz.func65 rfl (by kernel_rfl) bf (by kernel_rfl) rfl (fun hs=>?_)
 repeat' (first|refine sX ?_ ?_<;>intro h|refine aj (hc) rfl ?_|simp only[go_sem, *])
 try any_goals (refine congrArg some ?_;first|rfl|(simp only[go_sem,bQ, *];done)|(simp only[go_sem,bQ, *];rfl)|(simp_all[bQ];done))
theorem SG (nn:Bool) (l:List Nat) (g:FuncId) (p:Nat->Bool) (hp:∀x∈l,aB Tryz.prog g [jE x] (.bool (p x))):aB Tryz.prog 257 [.sl nn (l.map jE),.fn g []] (i64 (idxFrom p 0 l)):=by
 refine au orders Tryz.func257 rfl (by kernel_rfl) bf (by kernel_rfl) rfl (fun hs=>?_);simp[dJ,Tr.sized]at hs;obtain ⟨hs1,_⟩:=hs
 repeat' (first|refine sX ?_ ?_<;>intro h|simp only[go_sem, *])
 refine aC l (fun k s'=>idxFrom p 0 l=idxFrom p k (l.drop k)) rfl rfl (by first|assumption|omega) (by kernel_rfl) (fun _ _ _ _ hj=>hj) (fun _ _ _ hj=>hj) ?_ (fun k x s' hx hd hk hJ hix hfr G hG=>?_) (fun s' hJ hfr=>?_)
 ·rfl
 ·have c0:=hfr 0 (by kernel_rfl)
  have c1:=hfr 1 (by kernel_rfl);clear hfr;simp only[go_sem]at c0 c1;rw[hd,idxFrom]at hJ
  repeat' (first|refine sX ?_ ?_<;>intro h|refine aj (hp x (List.mem_of_getElem? hx)) rfl ?_|simp only[go_sem, *])
  try any_goals (refine congrArg some ?_;first|rfl|(simp only[go_sem,idxFrom, *];done)|(simp only[go_sem,idxFrom, *];rfl)|(simp_all[idxFrom];done))
  try any_goals (refine hG _ ?_;simp only[go_sem,idxFrom, *];done)
 ·simp only[List.drop_length,idxFrom]at hJ
  repeat' (first|refine sX ?_ ?_<;>intro h|simp only[go_sem, *])
theorem Bg (rnn:Bool) (rows:List Row) (mnn:Bool) (ms:List Nat):aB Tryz.prog 150 [.sl rnn (rows.map Row.tr),.sl mnn (ms.map jE)] (i64 (if ms.all (fun m=>decide (m<=4611686018427387904)) then 0 else 2)):=by
 have h1:∀x:Nat,aB Tryz.prog 219 [jE x] (.bool (!decide (x<=4611686018427387904))):=fun x=>by
  rw[show (!decide (x<=4611686018427387904))=decide ((x:Int) > 4611686018427387904) by rw[Bool.eq_iff_iff];simp;omega];refine au orders Tryz.func219 rfl (by kernel_rfl) bf (by kernel_rfl) rfl (fun hs=>?_)
  repeat' (first|refine sX ?_ ?_<;>intro h|simp only[go_sem, *])
 have h2:=SG mnn ms 219 (fun x=>!decide (x<=4611686018427387904)) (fun x _=>h1 x);have h3:aB Tryz.prog 218 [.sl mnn (ms.map jE),.fn 219 []] (.bool (!ms.all (fun m=>decide (m<=4611686018427387904)))):=by
  rw[<- mD,<- lV _ ms 0];refine au orders Tryz.func218 rfl (by kernel_rfl) bf (by kernel_rfl) rfl (fun hs=>?_)
  repeat' (first|refine sX ?_ ?_<;>intro h|refine aj (h2) rfl ?_|simp only[go_sem, *])
 generalize ms.all (fun m=>decide (m<=4611686018427387904))=b at *;cases b with
 |true =>
  refine au orders Tryz.func150 rfl (by kernel_rfl) bf (by kernel_rfl) rfl (fun hs=>?_)
  repeat' (first|refine sX ?_ ?_<;>intro h|refine aj (h3) rfl ?_|simp only[go_sem, *])
 |false =>
  refine au orders Tryz.func150 rfl (by kernel_rfl) bf (by kernel_rfl) rfl (fun hs=>?_)
  repeat' (first|refine sX ?_ ?_<;>intro h|refine aj (h3) rfl ?_|simp only[go_sem, *])
structure WI where
 nn:Bool
 z:Int
def WI.tr (x:WI):Tr:=encI x.nn x.z
attribute [go_sem] WI.tr
theorem XY (nn:Bool) (l:List WI) (g:FuncId) (p:WI->Bool) (hp:∀x∈l,aB Tryz.prog g [x.tr] (.bool (p x))):aB Tryz.prog 258 [.sl nn (l.map WI.tr),.fn g []] (i64 (idxFrom p 0 l)):=by
 refine au orders Tryz.func258 rfl (by kernel_rfl) bf (by kernel_rfl) rfl (fun hs=>?_);simp[dJ,Tr.sized]at hs;obtain ⟨hs1,_⟩:=hs
 repeat' (first|refine sX ?_ ?_<;>intro h|simp only[go_sem, *])
 refine aC l (fun k s'=>idxFrom p 0 l=idxFrom p k (l.drop k)) rfl rfl (by first|assumption|omega) (by kernel_rfl) (fun _ _ _ _ hj=>hj) (fun _ _ _ hj=>hj) ?_ (fun k x s' hx hd hk hJ hix hfr G hG=>?_) (fun s' hJ hfr=>?_)
 ·rfl
 ·have c0:=hfr 0 (by kernel_rfl)
  have c1:=hfr 1 (by kernel_rfl);clear hfr;simp only[go_sem]at c0 c1;rw[hd,idxFrom]at hJ
  repeat' (first|refine sX ?_ ?_<;>intro h|refine aj (hp x (List.mem_of_getElem? hx)) rfl ?_|simp only[go_sem, *])
  try any_goals (refine congrArg some ?_;first|rfl|(simp only[go_sem,idxFrom, *];done)|(simp only[go_sem,idxFrom, *];rfl)|(simp_all[idxFrom];done))
  try any_goals (refine hG _ ?_;simp only[go_sem,idxFrom, *];done)
 ·simp only[List.drop_length,idxFrom]at hJ
  repeat' (first|refine sX ?_ ?_<;>intro h|simp only[go_sem, *])
def kQ (l:List WI) (c:WI):Bool:=decide (c.z < 0)&&l.all (fun x=>decide (x.z=0))
theorem Lu (nn:Bool) (l:List WI) (c:WI):aB Tryz.prog 151 [.sl nn (l.map WI.tr),c.tr] (.bool (kQ l c)):=by
 have h1:∀x:WI,aB Tryz.prog 221 [x.tr] (.bool (!decide (x.z=0))):=fun x=>by
  have sg:=Cy x.nn x.z;have e:(!decide (x.z=0))=(x.z.sign != 0):=by
   rw[Bool.eq_iff_iff];simp[Int.sign_eq_zero_iff_zero]
  rw[e];refine au orders Tryz.func221 rfl (by kernel_rfl) bf (by kernel_rfl) rfl (fun hs=>?_);clear hs
  repeat' (first|refine sX ?_ ?_<;>intro h|refine aj (sg) rfl ?_|simp only[go_sem, *])
 have h2:=XY nn l 221 (fun x=>!decide (x.z=0)) (fun x _=>h1 x);have h3:aB Tryz.prog 220 [.sl nn (l.map WI.tr),.fn 221 []] (.bool (!l.all (fun x=>decide (x.z=0)))):=by
  rw[<- mD,<- lV _ l 0];refine au orders Tryz.func220 rfl (by kernel_rfl) bf (by kernel_rfl) rfl (fun hs=>?_)
  repeat' (first|refine sX ?_ ?_<;>intro h|refine aj (h2) rfl ?_|simp only[go_sem, *])
 have sg:=Cy c.nn c.z;unfold kQ;have e:decide (c.z < 0)=decide (c.z.sign < 0):=by rw[Bool.eq_iff_iff];simp[Int.sign_neg_iff]
 rw[e];clear e;generalize c.z.sign=s at *;generalize l.all (fun x=>decide (x.z=0))=b at *;cases b with
 |true =>
  refine au orders Tryz.func151 rfl (by kernel_rfl) bf (by kernel_rfl) rfl (fun hs=>?_)
  repeat' (first|refine sX ?_ ?_<;>intro h|refine aj (sg) rfl ?_|refine aj (h3) rfl ?_|simp only[go_sem, *])
 |false =>
  refine au orders Tryz.func151 rfl (by kernel_rfl) bf (by kernel_rfl) rfl (fun hs=>?_)
  repeat' (first|refine sX ?_ ?_<;>intro h|refine aj (sg) rfl ?_|refine aj (h3) rfl ?_|simp only[go_sem, *])
attribute [go_sem] Tryz.results159 Tryz.results153
theorem pG {P:Program}{mu:Nat->Bool}{h:Hp}{d:Option Tmp}{t e:TypeId}{id:Id}{n:Nat}{nn':Bool}{cs:List PV}{ag:Bool}{xs:List Tr}{esz:Nat} (hel:bg P t=some e) (hsz:P.cellsOf e=esz) (hz:(aW P e).map List.length=some esz) (h1:Nat.blt 0 esz=true) (hby:Nat.ble (P.bytesOf e) 128=true)
  (hx:∀x∈xs,x.cells.length=esz) (hg:hget h id=some ⟨cs,esz,n,e,ag,true⟩) (hb:n+xs.length<=1099511627776) (hne:xs≠[]) :
  aT P mu d t (.rf id n) (.t (.sl nn' xs)) h=some (.rf id (n+xs.length),hset h id ⟨cs++(flat xs).map .t,esz,n+xs.length,e,ag,true⟩):=by
 have hpos:0 < esz:=by simp[Nat.blt]at h1;omega
 have hzz:∃z,aW P e=some z/\z.length=esz:=by
  cases hzz:aW P e with
  |none=>rw[hzz]at hz;cases hz
  |some z=>rw[hzz]at hz;exact ⟨z,rfl,by simpa using hz⟩
 obtain ⟨z,hz1,hz2⟩:=hzz;have hfl:=bJ xs esz hx;have hm:=Nat.mul_le_mul hb (Nat.le_of_ble_eq_true hby);have hl0:xs.length≠0:=fun e=>hne (List.eq_nil_of_length_eq_zero e)
 unfold aT;simp only[hel,hz1,iP,hfl,hsz,if_true,hz2,true_and,hg];rw[if_pos hpos,if_pos ⟨by omega,by omega⟩,if_neg hl0]
theorem Qk (rnn:Bool) (l:List Row) (h:Hp) (hne:l≠[]) (hlen:l.length<=1000000) :
  dM Tryz.prog 159 [.t (.sl true (l.map Row.tr))] h (fun v h'=>v=.rf (hnext h 5) l.length/\h'=hnew h 5 ⟨(flat (l.map Row.tr)).map .t,2,l.length,dX,true,true⟩):=by
 refine dI orders Tryz.func159 rfl (by kernel_rfl) (fun d=>d==5||d==7) (by kernel_rfl) rfl (fun hs hlen=>?_);clear hs
 repeat' (first|refine sX ?_ ?_<;>intro h|simp only[go_sem, *])
 rw[pG (esz:=2) (e:=dX) (ag:=true) (by kernel_rfl) (by kernel_rfl) (by kernel_rfl) rfl (by kernel_rfl) (fun x hx=>(vC l x hx).2.2) (aJ _ _) (by simp;omega) (by simpa using hne)];simp only[Nat.zero_add,List.length_map,List.nil_append,gL]
 repeat' (first|refine sX ?_ ?_<;>intro h|simp only[go_sem, *])
theorem SH (mnn:Bool) (l:List Nat) (h:Hp) (hne:l≠[]) (hlen:l.length<=1000000) :
  dM Tryz.prog 153 [.t (.sl true (l.map jE))] h (fun v h'=>v=.rf (hnext h 5) l.length/\h'=hnew h 5 ⟨(l.map jE).map .t,1,l.length,38,false,true⟩):=by
 refine dI orders Tryz.func153 rfl (by kernel_rfl) (fun d=>d==5||d==7) (by kernel_rfl) rfl (fun hs hlen=>?_);clear hs;have hfl:flat (l.map jE)=l.map jE:=uS _ (fun x hx=>by obtain ⟨y,_,rfl⟩:=List.mem_map.1 hx;rfl)
 repeat' (first|refine sX ?_ ?_<;>intro h|simp only[go_sem, *])
 rw[pG (esz:=1) (e:=38) (ag:=false) (by kernel_rfl) (by kernel_rfl) (by kernel_rfl) rfl (by kernel_rfl) (fun x hx=>by obtain ⟨y,_,rfl⟩:=List.mem_map.1 hx;rfl) (aJ _ _) (by simp;omega) (by simpa using hne)];simp only[Nat.zero_add,List.length_map,List.nil_append,gL,hfl]
 repeat' (first|refine sX ?_ ?_<;>intro h|simp only[go_sem, *])
theorem wL {P:Program}{mu:Nat->Bool}{h:Hp}{d:Option Tmp}{t e:TypeId}{id:Id}{n:Nat}{nn':Bool}{cs:List PV}{ag:Bool}{esz:Nat} (hel:bg P t=some e) (hsz:P.cellsOf e=esz) (hz:(aW P e).map List.length=some esz) (h1:Nat.blt 0 esz=true) (hby:Nat.ble (P.bytesOf e) 128=true)
  (hg:hget h id=some ⟨cs,esz,n,e,ag,true⟩) (hb:n<=1099511627776) :
  aT P mu d t (.rf id n) (.t (.sl nn' [])) h=some (.rf id n,h):=by
 have hpos:0 < esz:=by simp[Nat.blt]at h1;omega
 have hzz:∃z,aW P e=some z/\z.length=esz:=by
  cases hzz:aW P e with
  |none=>rw[hzz]at hz;cases hz
  |some z=>rw[hzz]at hz;exact ⟨z,rfl,by simpa using hz⟩
 obtain ⟨z,hz1,hz2⟩:=hzz;have hm:=Nat.mul_le_mul hb (Nat.le_of_ble_eq_true hby);unfold aT;simp only[hel,hz1,iP,flat,List.flatMap_nil,List.length_nil,Nat.zero_mul,hsz,if_true,hz2,true_and,hg];rw[if_pos hpos,if_pos ⟨by omega,by omega⟩]
theorem Dk (l:List Row) (h:Hp) (hlen:l.length<=1000000) :
  dM Tryz.prog 159 [.t (.sl true (l.map Row.tr))] h (fun v h'=>v=.rf (hnext h 5) l.length/\h'=hnew h 5 ⟨(flat (l.map Row.tr)).map .t,2,l.length,dX,true,true⟩):=by
 by_cases hne:l=[]
 ·subst hne
  refine dI orders Tryz.func159 rfl (by kernel_rfl) (fun d=>d==5||d==7) (by kernel_rfl) rfl (fun hs hlen=>?_);clear hs
  repeat' (first|refine sX ?_ ?_<;>intro h|simp only[go_sem, *])
  rw[wL (esz:=2) (e:=dX) (ag:=true) (by kernel_rfl) (by kernel_rfl) (by kernel_rfl) rfl (by kernel_rfl) (aJ _ _) (by decide)]
  repeat' (first|refine sX ?_ ?_<;>intro h|simp only[go_sem, *])
  rfl
 ·exact Qk true l h hne hlen
theorem Bh (h:Hp):dM Tryz.prog 159 [.t (.sl false [])] h (fun v h'=>v=.t (.sl false [])/\h'=h):=by
 refine dI orders Tryz.func159 rfl (by kernel_rfl) (fun d=>d==5||d==7) (by kernel_rfl) rfl (fun hs hlen=>?_);clear hs
 repeat' (first|refine sX ?_ ?_<;>intro h|simp only[go_sem, *])
theorem qL {P:Program}{mu:Nat->Bool}{h:Hp}{d:Option Tmp}{t e:TypeId}{nn':Bool}{xs:List Tr}{esz:Nat} (hel:bg P t=some e) (hsz:P.cellsOf e=esz) (hz:(aW P e).map List.length=some esz) (h1:Nat.blt 0 esz=true) (hby:Nat.ble (P.bytesOf e) 128=true)
  (hx:∀x∈xs,x.cells.length=esz) (hb:xs.length<=1099511627776) (hne:xs≠[]) :
  aT P mu d t (.t (.sl false [])) (.t (.sl nn' xs)) h=dG P mu d e xs.length ((flat xs).map .t) h:=by
 have hpos:0 < esz:=by simp[Nat.blt]at h1;omega
 have hzz:∃z,aW P e=some z/\z.length=esz:=by
  cases hzz:aW P e with
  |none=>rw[hzz]at hz;cases hz
  |some z=>rw[hzz]at hz;exact ⟨z,rfl,by simpa using hz⟩
 obtain ⟨z,hz1,hz2⟩:=hzz;have hfl:=bJ xs esz hx;have hm:=Nat.mul_le_mul hb (Nat.le_of_ble_eq_true hby);have hl0:xs.length≠0:=fun e=>hne (List.eq_nil_of_length_eq_zero e)
 unfold aT;simp only[hel,hz1,iP,hfl,hsz,if_true,hz2,true_and];rw[if_pos hpos,if_neg hl0,if_pos ⟨by omega,by omega⟩]
theorem enters' (g:FuncId) (h:(match Tryz.prog.funcs[g]? with|some fn=>!(fn.name=="runtime.NumGoroutine")&&!fn.body.isNone|none=>false)=true):Enters Tryz.prog g:=by
 cases hf:Tryz.prog.funcs[g]? with
 |none=>rw[hf]at h;cases h
 |some fn=>rw[hf]at h;simp only[Bool.and_eq_true,Bool.not_eq_true']at h;exact ⟨fn,hf,h.1,h.2⟩
theorem zw (vars:Int) (rnn:Bool) (rows:List Row) (row:Row) (hlen:rows.length<=900000):aB Tryz.prog 78 [i64 vars,.sl rnn (rows.map Row.tr),row.tr] (i64 (bQ vars (rows++[row]))):=by
 refine yu (enters' _ (by kernel_rfl)) fun hw=>?_
 have hnil:rnn=false->rows=[]:=fun h=>by
  subst h;simp[wfL,Tr.wf]at hw;exact hw.1.1
 cases rnn with
 |false =>
  have:=hnil rfl;subst this;have hc:=CB vars true ([]++[row]);simp only[List.nil_append,List.map_cons,List.map_nil]at hc;clear hw hnil;refine au orders Tryz.func78 rfl (by kernel_rfl) (fun d=>d==9||d==13) (by kernel_rfl) rfl (fun hs=>?_);clear hs
  repeat' (first|refine sX ?_ ?_<;>intro h|simp only[go_sem, *])
  refine lT (Bh _) rfl ?_
  repeat' (first|refine sX ?_ ?_<;>intro h|simp only[go_sem, *])
  rw[qL (esz:=2) (e:=dX) (by kernel_rfl) (by kernel_rfl) (by kernel_rfl) rfl (by kernel_rfl) (fun x hx=>by rw[List.mem_singleton.1 hx];rfl) (by simp) (by simp)];simp only[rT,show flat []=[] from rfl]
  repeat' (first|refine sX ?_ ?_<;>intro h|refine aj (hc) rfl ?_|simp only[go_sem, *])
 |true =>
  have hc:=CB vars true (rows++[row]);have hi:=Dk rows (fun _=>[]) (by omega);clear hw hnil;refine au orders Tryz.func78 rfl (by kernel_rfl) (fun d=>d==9||d==13) (by kernel_rfl) rfl (fun hs=>?_);clear hs
  repeat' (first|refine sX ?_ ?_<;>intro h|simp only[go_sem, *])
  refine lT hi rfl ?_
  repeat' (first|refine sX ?_ ?_<;>intro h|simp only[go_sem, *])
  rw[pG (esz:=2) (e:=dX) (ag:=true) (by kernel_rfl) (by kernel_rfl) (by kernel_rfl) rfl (by kernel_rfl) (fun x hx=>by rw[List.mem_singleton.1 hx];rfl) (aJ _ _) (by simp;omega) (by simp)];have hcells:List.map PV.t (flat (List.map Row.tr rows))++List.map PV.t (flat [Tr.agg [.sl row.nn (List.map (Tr.int .i64) row.av),.int .i64 row.const]])=List.map PV.t (flat ((rows++[row]).map Row.tr)):=by
   rw[List.map_append,kP,List.map_append];rfl
  rw[hcells,gL];have dN:∀n,n=(rows++[row]).length->aS (hnew (fun _=>[]) 5 ⟨List.map PV.t (flat ((rows++[row]).map Row.tr)),2,n,dX,true,true⟩) dep (.rf (hnext (fun _=>[]) 5) n)=some (.sl true ((rows++[row]).map Row.tr)):=fun n hn=>iX 5 (vC _) (by simp[hn]) (aJ _ _)
  have vD:=dN (rows.length+1) (by simp);simp only[List.length_cons,List.length_nil]
  repeat' (first|refine sX ?_ ?_<;>intro h|simp only[go_sem, *])
  refine Ct hc (by simp only[go_sem,vD]) rfl ?_
  repeat' (first|refine sX ?_ ?_<;>intro h|simp only[go_sem, *])
def oK (out:List WI) (cs:List Int) (m:Nat):List WI:=List.zipWith (fun x c=>(⟨true,x.z+m*c⟩:WI)) out cs
def bF:List WI->WI->List Row->List Nat->List WI × WI
 |out,last,r::rows,m::ms=>if m=0 then bF out last rows ms else bF (oK out r.av m) ⟨true,last.z+m*r.const⟩ rows ms
 |out,last,_,_=>(out,last)
abbrev zW:WI:=⟨false,0⟩
def WI.cs (x:WI):List Tr:=mE x.nn x.z
attribute [go_sem] WI.cs
theorem Z9 (l:List WI):∀x∈l.map WI.tr,dh true 2 x:=by
 intro x hx;obtain ⟨y,_,rfl⟩:=List.mem_map.1 hx;exact ⟨fun _=>rfl,(fun h=>nomatch h),rfl⟩
theorem Ql (l:List WI):∀x∈l.map WI.tr,x.cells.length=2:=fun x hx=>(Z9 l x hx).2.2
def WI.le (x:WI) (k:Nat):Prop:=x.z.natAbs<=k*19342813113834066795298816
theorem WI.le.fits {x:WI}{k:Nat} (h:x.le k) (hk:k<=100000):fits x.z:=by
 have h2:B ^ 2=18446744073709551616:=by decide
 have h3:B ^ 4=340282366920938463463374607431768211456:=by rw[Nat.pow_succ,Nat.pow_succ,h2,eu]
 unfold WI.le at h;refine Nat.le_trans (cZ (k:=4) ?_) (by decide);rw[h3];omega
theorem WO {c:Int}{m:Nat} (hc:c.natAbs<=1048576) (hm:m < 18446744073709551616):((m:Int)*c).natAbs<=19342813113834066795298816:=by
 rw[Int.natAbs_mul,Int.natAbs_natCast];have:m*c.natAbs<=18446744073709551616*1048576:=Nat.mul_le_mul (Nat.le_of_lt hm) hc
 rwa [show 18446744073709551616*1048576=19342813113834066795298816 from rfl]at this
theorem CF {x:WI}{k:Nat} (h:x.le k) {c:Int}{m:Nat} (hc:c.natAbs<=1048576) (hm:m < 18446744073709551616) (b:Bool):(⟨b,x.z+m*c⟩:WI).le (k+1):=by
 have:=WO hc hm;unfold WI.le at *;rw[Nat.succ_mul];generalize 19342813113834066795298816=big at *
 show (x.z+m*c).natAbs<=_
 omega
theorem pW {c:Int}{m:Nat} (hc:c.natAbs<=1048576) (hm:m < 18446744073709551616):fits ((m:Int)*c):=by
 have h:=WO hc hm;exact WI.le.fits (x:=⟨true,(m:Int)*c⟩) (k:=1) (by unfold WI.le;omega) (by decide)
theorem aac:zW.cs=[.sl false [],.bool false]:=by
 simp only[WI.cs,mE,show Int.natAbs 0=0 from rfl,gF,WJ];rfl
theorem acd (V:Nat):(flat ((List.replicate V zW).map WI.tr)).map PV.t=(gX [.sl false [],.bool false] V).map PV.t:=by
 rw[jC,List.map_replicate];unfold WI.tr encI;rw[show mE zW.nn zW.z=zW.cs from rfl,aac]
theorem Qm (b:Bool) (k:Nat):(⟨b,0⟩:WI).le k:=Nat.zero_le _
theorem mP {h:Hp}{s d:Nat} (o:Obj) (hn:(d==s)=false):hnext (hnew h s o) d=hnext h d:=by
 simp only[hnext,hnew];rw[upd_ne _ _ _ _ (by simpa using hn)]
set_option maxHeartbeats 1000000 in
theorem ace (V:Nat) (rnn:Bool) (rows:List Row) (mnn:Bool) (ms:List Nat) (hV:V<=128) (hlen:rows.length<=256) (hml:rows.length<=ms.length) (hms:∀m∈ms,m < 18446744073709551616) (hrow:∀r∈rows,r.av.length=V/\aU r.const=true/\∀c∈r.av,aU c=true) :
  aB Tryz.prog 152 [i64 V,.sl rnn (rows.map Row.tr),.sl mnn (ms.map jE)] (.tup [.sl true ((bF (List.replicate V zW) ⟨true,0⟩ rows ms).1.map WI.tr),(bF (List.replicate V zW) ⟨true,0⟩ rows ms).2.tr]):=by
 have o0:=Af 0 ⟨by decide,by decide⟩;refine au orders Tryz.func152 rfl (by kernel_rfl) (fun d=>d==7||d==9||d==11||d==12||d==16||d==43||d==45||d==47||d==54||d==58) (by kernel_rfl) rfl (fun hs=>?_);clear hs;generalize hR:bF (List.replicate V zW) ⟨true,0⟩ rows ms=R
 repeat' (first|refine sX ?_ ?_<;>intro h|refine aj (o0) rfl ?_|simp only[go_sem, *])
 refine dS ⟨by omega,by omega⟩ ?_
 repeat' (first|refine sX ?_ ?_<;>intro h|refine aj (o0) rfl ?_|simp only[go_sem, *])
 refine aC rows (fun k s'=>∃(out:List WI) (last:WI),hget s'.hp (16,0)=some ⟨(flat (out.map WI.tr)).map .t,2,V,iW,true,true⟩/\hget s'.hp (9,0)=some ⟨last.cs.map .t,2,1,iW,true,true⟩/\hget s'.hp (7,0)=some ⟨zW.cs.map .t,2,1,iW,true,true⟩/\out.length=V/\(∀x∈out,x.le k)/\last.le k/\bF out last (rows.drop k) (ms.drop k)=R) rfl rfl (by first|assumption|omega) (by kernel_rfl) (fun _ _ _ _ hj=>hj) (fun _ _ _ hj=>hj) ?_ (fun k x s' hx hd hk hJ hix hfr G hG=>?_) (fun s' hJ hfr=>?_)
 ·refine ⟨List.replicate V zW,⟨true,0⟩,?_,?_,?_,by simp,fun x hx=>by rw[(List.mem_replicate.1 hx).2];exact Qm _ 0,Qm _ 0,hR⟩
  ·rw[acd];rfl
  ·rfl
  ·rw[aac];rfl
 ·have c2:=hfr 2 (by kernel_rfl)
  have c8:=hfr 8 (by kernel_rfl);have c9:=hfr 9 (by kernel_rfl);have c18:=hfr 18 (by kernel_rfl);clear hfr;simp only[go_sem]at c2 c8 c9 c18;change _=PV.rf (16,0) V at c8;change _=PV.ad (9,0) 1 0 at c9;obtain ⟨out,last,h16,h9,h7,hol,hole,FH,hJ⟩:=hJ;have hkm:k < ms.length:=by omega
  obtain ⟨m,hm1,hm2⟩:=aF ms k hkm;have yD:=hms m (List.mem_of_getElem? hm1);obtain ⟨Z5,hx2,hx3⟩:=hrow x (List.mem_of_getElem? hx);have ahh:x.av.length<=V:=by omega
  have ahi:V<=x.av.length:=by omega
  clear Z5;rw[hd,hm2,bF]at hJ;have fr1:=Cx m yD;have e2:=c2;have e8:=c8;have e9:=c9
  by_cases hm0:m=0
  ·subst hm0
   rw[if_pos rfl]at hJ;have g0:(((0:Nat):Int)==0)=true:=rfl;have afc:∀z∈out,z.le (k+1):=fun z hz=>Nat.le_trans (hole z hz) (Nat.mul_le_mul_right _ (Nat.le_succ k))
   have afd:last.le (k+1):=Nat.le_trans FH (Nat.mul_le_mul_right _ (Nat.le_succ k));clear hole FH fr1
   repeat' (first|refine sX ?_ ?_<;>intro h|simp only[go_sem, *])
   refine hG _ ⟨out,last,?_,?_,?_,hol,afc,afd,hJ⟩
   ·simp only[go_sem,h16]
   ·simp only[go_sem,h9]
   ·simp only[go_sem,h7]
  ·rw[if_neg hm0]at hJ
   have g0:((m:Int)==0)=false:=by simpa using hm0
   clear hm0
   repeat' (first|refine sX ?_ ?_<;>intro h|refine aj (fr1) rfl ?_|simp only[go_sem, *])
   obtain ⟨H,hH⟩:∃H,H=s'.hp:=⟨_,rfl⟩
   rw[<- hH]at h16 h9 h7 ⊢;clear hH;obtain ⟨i,hik⟩:∃i,i=k:=⟨k,rfl⟩
   subst hik;obtain ⟨r,hrx⟩:∃r,r=x:=⟨x,rfl⟩
   subst hrx;refine aC r.av (fun k s'=>∃cur:List WI,hget s'.hp (16,0)=some ⟨(flat (cur.map WI.tr)).map .t,2,V,iW,true,true⟩/\hget s'.hp (9,0)=some ⟨last.cs.map .t,2,1,iW,true,true⟩/\hget s'.hp (7,0)=some ⟨zW.cs.map .t,2,1,iW,true,true⟩/\hget s'.hp (hnext H 11)=some ⟨[.t (.sl r.nn (r.av.map (Tr.int .i64))),.t (.int .i64 r.const)],2,1,dX,true,true⟩/\hget s'.hp (hnext H 12)=some ⟨(mE true m).map .t,2,1,iW,true,true⟩/\cur.length=V/\cur.drop k=out.drop k/\cur.take k=(oK out r.av m).take k) rfl rfl (by first|assumption|omega) (by kernel_rfl) (fun _ _ _ _ hj=>hj) (fun _ _ _ hj=>hj) ?_ (fun k x s' hx hd hk hJ hix hfr G hG=>?_) (fun s' hJ hfr=>?_)
   ·refine ⟨out,?_,?_,?_,?_,?_,hol,rfl,rfl⟩
    ·simp only[go_sem,h16]
    ·simp only[go_sem,h9]
    ·simp only[go_sem,h7]
    ·simp only[go_sem,]
    ·rw[<- mP (h:=H) (s:=11) (d:=12) _ rfl];exact aJ _ _
   ·have c8:=hfr 8 (by kernel_rfl)
    have c12:=hfr 12 (by kernel_rfl);have c36:=hfr 36 (by kernel_rfl);clear hfr;simp only[go_sem]at c8 c12 c36;rw[mP _ rfl]at c12;obtain ⟨cur,h16,h9,h7,h11,h12,hcl,hdr,htk⟩:=hJ;rw[e8]at c8;have hkV:k < V:=by omega
    obtain ⟨y,hy,_⟩:=aF out k (by omega);have hcy:cur[k]?=some y:=by
     have:=congrArg (fun l=>l[0]?) hdr;simp only[List.getElem?_drop,Nat.add_zero]at this;rw[this,hy]
    have hxs:=aZ (hx3 x (List.mem_of_getElem? hx));have hyf:=(hole y (List.mem_of_getElem? hy)).fits (by omega);have ox:=Af x ⟨by omega,by omega⟩;have mx:=rR true true (m:Int) x (pW (c:=1) (by decide) yD |> fun h=>by simpa using h) (pV ⟨by omega,by omega⟩);have ax:=Qc y.nn true y.z ((m:Int)*x) hyf (pW hxs yD);have hload:List.take 2 (List.drop (k*2) (List.map PV.t (flat (List.map WI.tr cur))))=y.cs.map PV.t:=o7 (Ql cur) (by rw[List.getElem?_map,hcy];rfl);have vB:splice (List.map PV.t (flat (List.map WI.tr cur))) (k*2) ((⟨true,y.z+m*x⟩:WI).cs.map PV.t)=List.map PV.t (flat (List.map WI.tr (cur.set k ⟨true,y.z+m*x⟩))):=by
     rw[List.map_set];exact fD (Ql cur) (x:=y.tr) (y:=(⟨true,y.z+m*x⟩:WI).tr) (by rw[List.getElem?_map,hcy];rfl) rfl
    simp only[go_sem]at hload vB;have hfl:(flat (List.map WI.tr cur)).length=V*2:=by rw[bJ _ 2 (Ql cur),List.length_map,hcl]
    have ahj:k+1<=V:=hkV;have ahk:k*2+2<=V*2:=by omega
    have hadd:(oK out r.av m)[k]?=some ⟨true,y.z+m*x⟩:=by
     unfold oK;rw[List.getElem?_zipWith,hy,hx]
    have hst:(cur.set k ⟨true,y.z+m*x⟩).take (k+1)=(oK out r.av m).take (k+1):=by
     rw[aP _ _ _ (by omega),htk,List.take_add_one,hadd];rfl
    have Lr:(cur.set k ⟨true,y.z+m*x⟩).drop (k+1)=out.drop (k+1):=by
     rw[List.drop_set_of_lt (by omega)];have:=congrArg (List.drop 1) hdr;simpa only[List.drop_drop] using this
    clear hdr htk hadd hcy hy hyf hxs
    repeat' (first|refine sX ?_ ?_<;>intro h|refine aj (ox) rfl ?_|refine aj (mx) rfl ?_|refine aj (ax) rfl ?_|simp only[go_sem, *])
    refine hG _ ⟨cur.set k ⟨true,y.z+m*x⟩,?_,?_,?_,?_,?_,by simp[hcl],Lr,hst⟩
    ·simp only[go_sem,h16]
    ·simp only[go_sem,h9]
    ·simp only[go_sem,h7]
    ·simp only[go_sem,h11]
    ·simp only[go_sem,h12]
   ·obtain ⟨cur,h16,h9,h7,h11,h12,hcl,hdr,htk⟩:=hJ
    have c9:=hfr 9 (by kernel_rfl);have c11:=hfr 11 (by kernel_rfl);have c12:=hfr 12 (by kernel_rfl);clear hfr;simp only[go_sem]at c9 c11 c12;rw[e9]at c9;rw[mP _ rfl]at c12;have hal:(oK out r.av m).length=V:=by unfold oK;rw[List.length_zipWith];omega
    rw[List.take_of_length_le (by omega),List.take_of_length_le (by omega)]at htk;have hcs:=aZ hx2;have hlf:=FH.fits (by omega);have ox:=Af r.const ⟨by omega,by omega⟩;have mx:=rR true true (m:Int) r.const (pW (c:=1) (by decide) yD |> fun h=>by simpa using h) (pV ⟨by omega,by omega⟩);have ax:=Qc last.nn true last.z ((m:Int)*r.const) hlf (pW hcs yD);clear hdr hlf
    repeat' (first|refine sX ?_ ?_<;>intro h|refine aj (ox) rfl ?_|refine aj (mx) rfl ?_|refine aj (ax) rfl ?_|simp only[go_sem, *])
    refine hG _ ⟨oK out r.av m,⟨true,last.z+m*r.const⟩,?_,?_,?_,hal,?_,CF FH hcs yD true,hJ⟩
    ·rw[<- htk];simp only[go_sem,h16]
    ·simp only[go_sem,h9]
    ·simp only[go_sem,h7]
    ·intro z hz
     unfold oK at hz;rw[List.mem_iff_getElem?]at hz;obtain ⟨j,hj⟩:=hz;rw[List.getElem?_zipWith]at hj;cases ho:out[j]? with
     |none=>simp[ho]at hj
     |some a =>
      cases hc:r.av[j]? with
      |none=>simp[ho,hc]at hj
      |some c =>
       simp[ho,hc]at hj;rw[<- hj];exact CF (hole a (List.mem_of_getElem? ho)) (aZ (hx3 c (List.mem_of_getElem? hc))) yD true
 ·obtain ⟨out,last,h16,h9,h7,hol,hole,FH,hJ⟩:=hJ
  have c7:=hfr 7 (by kernel_rfl);have c8:=hfr 8 (by kernel_rfl);have c9:=hfr 9 (by kernel_rfl);clear hfr;simp only[go_sem]at c7 c8 c9;change _=PV.rf (16,0) V at c8;change _=PV.ad (9,0) 1 0 at c9;change _=PV.ad (7,0) 1 0 at c7;rw[List.drop_length]at hJ;have hJ':R=(out,last):=by rw[<- hJ];cases hmd:ms.drop rows.length<;>rfl
  subst hJ';have dN:∀o,aS (hset s'.hp (7,0) o) dep (.rf (16,0) V)=some (.sl true (out.map WI.tr)):=fun o=>iX 5 (Z9 out) (by simp[hol]) (by rw[lU _ rfl];exact h16)
  clear hR hJ
  repeat' (first|refine sX ?_ ?_<;>intro h|simp only[go_sem, *])
  all_goals rw[dN]
theorem CG {vars:Int}{rows:List Row} (h:bQ vars rows=0):∃V:Nat,vars=V/\Sys V rows:=by
 unfold bQ at h;split at h
 ·cases h
 ·rename_i h1
  split at h
  ·cases h
  ·rename_i h2
   split at h
   ·rename_i h3
    simp at h1 h2;refine ⟨vars.toNat,by omega,by omega,by omega,fun r hr=>?_⟩;have:=List.all_eq_true.1 h3 r hr;simp[bC,List.all_eq_true]at this;obtain ⟨e,h4,h5⟩:=this;exact ⟨by omega,h4,fun c hc=>h5 c hc⟩
   ·cases h
def nJ (rows:List Row) (ms:List Nat):Bool:=decide (ms.length=rows.length)&&ms.all (fun m=>decide (m<=4611686018427387904))
theorem SI {rows:List Row}{ms:List Nat} (h:nJ rows ms=true):ms.length=rows.length/\∀m∈ms,m < 18446744073709551616:=by
 simp[nJ,List.all_eq_true]at h;exact ⟨h.1,fun m hm=>by have:=h.2 m hm;omega⟩
theorem zy (l:List Nat) (h:Hp) (hlen:l.length<=1000000) :
  dM Tryz.prog 153 [.t (.sl true (l.map jE))] h (fun v h'=>v=.rf (hnext h 5) l.length/\h'=hnew h 5 ⟨(l.map jE).map .t,1,l.length,38,false,true⟩):=by
 by_cases hne:l=[]
 ·subst hne
  refine dI orders Tryz.func153 rfl (by kernel_rfl) (fun d=>d==5||d==7) (by kernel_rfl) rfl (fun hs hlen=>?_);clear hs
  repeat' (first|refine sX ?_ ?_<;>intro h|simp only[go_sem, *])
  rw[wL (esz:=1) (e:=38) (ag:=false) (by kernel_rfl) (by kernel_rfl) (by kernel_rfl) rfl (by kernel_rfl) (aJ _ _) (by decide)]
  repeat' (first|refine sX ?_ ?_<;>intro h|simp only[go_sem, *])
  all_goals rfl
 ·exact SH true l h hne hlen
theorem xC (h:Hp):dM Tryz.prog 153 [.t (.sl false [])] h (fun v h'=>v=.t (.sl false [])/\h'=h):=by
 refine dI orders Tryz.func153 rfl (by kernel_rfl) (fun d=>d==5||d==7) (by kernel_rfl) rfl (fun hs hlen=>?_);clear hs
 repeat' (first|refine sX ?_ ?_<;>intro h|simp only[go_sem, *])
def eqW:List WI->List Int->Nat->Bool
 |x::out,a::l,b=>decide (x.z=b*a)&&eqW out l b
 |_,_,_=>true
def gZ (q:List WI × WI) (row:Row) (sc:Nat):Bool:=if sc=0 then kQ q.1 q.2 else eqW q.1 row.av sc&&decide (q.2.z<=sc*row.const)
def lY (rows:List Row) (f:Cert):Bool:=nJ rows f.ms&&decide (f.scale<=4611686018427387904)
def wM (vars:Int) (rows:List Row) (row:Row) (f:Cert):Bool × Int :=
 if bQ vars (rows++[row])≠0 then (false,bQ vars (rows++[row])) else if lY rows f=true then (gZ (bF (List.replicate vars.toNat zW) ⟨true,0⟩ rows f.ms) row f.scale,0) else (false,2)
theorem Sys.left {V:Nat}{rows:List Row}{row:Row} (h:Sys V (rows++[row])):Sys V rows/\row.av.length=V/\aU row.const=true/\∀c∈row.av,aU c=true :=
 ⟨⟨h.v,by have:=h.n;simp at this;omega,fun r hr=>h.r r (by simp[hr])⟩,h.r row (by simp)⟩
theorem Ee (ms:List Nat) (sc:Nat):List.map PV.t (List.map jE ms)++List.map PV.t (flat [Tr.int .u64 (sc:Int)])=List.map PV.t (List.map jE (ms++[sc])):=by
 rw[List.map_append,List.map_append];rfl
theorem LA (ms:List Nat) (sc:Nat):aS (hnew (fun _=>[]) 5 ⟨List.map PV.t (List.map jE (ms++[sc])),1,ms.length+1,38,false,true⟩) dep (.rf (hnext (fun _=>[]) 5) (ms.length+1))=some (.sl true ((ms++[sc]).map jE)):=iT 5 (aJ _ _)
theorem nK {V:Nat}:∀(rows:List Row) (ms:List Nat) (out:List WI) (last:WI),out.length=V->(∀r∈rows,r.av.length=V)->(bF out last rows ms).1.length=V
 |[],ms,out,last,h,_=>by cases ms<;>exact h
 |r::rows,[],out,last,h,_=>h
 |r::rows,m::ms,out,last,h,hr=>by
  simp only[bF];split
  ·exact nK rows ms _ _ h (fun x hx=>hr x (by simp[hx]))
  ·exact nK rows ms _ _ (by unfold oK;rw[List.length_zipWith,h,hr r (by simp),Nat.min_self]) (fun x hx=>hr x (by simp[hx]))
theorem WI.le.mono {x:WI}{k j:Nat} (h:x.le k) (hj:k<=j):x.le j:=Nat.le_trans h (Nat.mul_le_mul_right _ hj)
theorem G8:∀(rows:List Row) (ms:List Nat) (out:List WI) (last:WI) (k:Nat),(∀m∈ms,m < 18446744073709551616)->(∀r∈rows,aU r.const=true/\∀c∈r.av,aU c=true)->(∀x∈out,x.le k)->last.le k ->
  (∀x∈(bF out last rows ms).1,x.le (k+rows.length))/\(bF out last rows ms).2.le (k+rows.length)
 |[],ms,out,last,k,_,_,h1,h2=>by cases ms<;>exact ⟨h1,h2⟩
 |r::rows,[],out,last,k,_,_,h1,h2=>⟨fun x hx=>(h1 x hx).mono (by omega),h2.mono (by omega)⟩
 |r::rows,m::ms,out,last,k,hm,hr,h1,h2=>by
  have hr0:=hr r (by simp);have hm0:=hm m (by simp);simp only[bF,List.length_cons];rw[show k+(rows.length+1)=k+1+rows.length by omega];split
  ·exact G8 rows ms out last (k+1) (fun x hx=>hm x (by simp[hx])) (fun x hx=>hr x (by simp[hx])) (fun x hx=>(h1 x hx).mono (by omega)) (h2.mono (by omega))
  ·refine G8 rows ms _ _ (k+1) (fun x hx=>hm x (by simp[hx])) (fun x hx=>hr x (by simp[hx])) (fun z hz=>?_) (CF h2 (aZ hr0.1) hm0 true)
   unfold oK at hz;rw[List.mem_iff_getElem?]at hz;obtain ⟨j,hj⟩:=hz;rw[List.getElem?_zipWith]at hj;cases ho:out[j]? with
   |none=>simp[ho]at hj
   |some a =>
    cases hc:r.av[j]? with
    |none=>simp[ho,hc]at hj
    |some c =>
     simp[ho,hc]at hj;rw[<- hj];exact CF (h1 a (List.mem_of_getElem? ho)) (aZ (hr0.2 c (List.mem_of_getElem? hc))) hm0 true
end ama
end Go.Vm
end
section
namespace Go.Vm
open Go Go.Proofs Go.Whole
namespace ama
open Go.Proofs.Tryz
theorem Qn (vars:Int) (rnn:Bool) (rows:List Row) (row:Row) (f:Cert) (hlen:rows.length<=900000) (he:bQ vars (rows++[row])=0) (hl:f.ms.length≠rows.length):aB Tryz.prog 73 [i64 vars,.sl rnn (rows.map Row.tr),row.tr,f.tr] (.tup [.bool false,i64 2]):=by
 have hck:=zw vars rnn rows row hlen;rw[he]at hck;have g1:((f.ms.length:Int) != (rows.length:Int))=true:=by simpa using fun h=>hl (by omega)
 clear he hl;refine au orders Tryz.func73 rfl (by kernel_rfl) (fun d=>d==12||d==13||d==33||d==38) (by kernel_rfl) rfl (fun hs=>?_);clear hs
 repeat' (first|refine sX ?_ ?_<;>intro h|refine aj (hck) rfl ?_|simp only[go_sem, *])
theorem Qo (vars:Int) (rnn:Bool) (rows:List Row) (row:Row) (sc:Nat) (mnn:Bool) (ms:List Nat) (hlen:rows.length<=900000) (he:bQ vars (rows++[row])=0) (hl:ms.length=rows.length) (ha:(ms++[sc]).all (fun m=>decide (m<=4611686018427387904))=false) (hnil:mnn=false->ms=[]):aB Tryz.prog 73 [i64 vars,.sl rnn (rows.map Row.tr),row.tr,(⟨sc,mnn,ms⟩:Cert).tr] (.tup [.bool false,i64 2]):=by
 have hck:=zw vars rnn rows row hlen;rw[he]at hck;have hmu:=Bg rnn rows true (ms++[sc]);rw[if_neg (by simp[ha])]at hmu;have g1:((ms.length:Int) != (rows.length:Int))=false:=by simp;omega
 have hml:ms.length<=900000:=by omega
 clear he hl ha hlen;cases mnn with
 |false =>
  have:=hnil rfl;subst this;clear hnil;simp only[List.nil_append,List.map_cons,List.map_nil]at hmu;refine au orders Tryz.func73 rfl (by kernel_rfl) (fun d=>d==12||d==13||d==33||d==38) (by kernel_rfl) rfl (fun hs=>?_);clear hs
  repeat' (first|refine sX ?_ ?_<;>intro h|refine aj (hck) rfl ?_|simp only[go_sem, *])
  refine lT (xC _) rfl ?_
  repeat' (first|refine sX ?_ ?_<;>intro h|simp only[go_sem, *])
  rw[qL (esz:=1) (e:=38) (by kernel_rfl) (by kernel_rfl) (by kernel_rfl) rfl (by kernel_rfl) (fun x hx=>by rw[List.mem_singleton.1 hx];rfl) (by simp) (by simp)];simp only[rT,show flat []=[] from rfl]
  repeat' (first|refine sX ?_ ?_<;>intro h|refine aj (hmu) rfl ?_|simp only[go_sem, *])
 |true =>
  clear hnil;have hi:=zy ms (fun _=>[]) (by omega);refine au orders Tryz.func73 rfl (by kernel_rfl) (fun d=>d==12||d==13||d==33||d==38) (by kernel_rfl) rfl (fun hs=>?_);clear hs
  repeat' (first|refine sX ?_ ?_<;>intro h|refine aj (hck) rfl ?_|simp only[go_sem, *])
  refine lT hi rfl ?_
  repeat' (first|refine sX ?_ ?_<;>intro h|simp only[go_sem, *])
  rw[pG (esz:=1) (e:=38) (ag:=false) (by kernel_rfl) (by kernel_rfl) (by kernel_rfl) rfl (by kernel_rfl) (fun x hx=>by rw[List.mem_singleton.1 hx];rfl) (aJ _ _) (by simp;omega) (by simp)];rw[Ee,gL];have vD:=LA ms sc;simp only[List.length_cons,List.length_nil]
  repeat' (first|refine sX ?_ ?_<;>intro h|simp only[go_sem, *])
  refine Ct hmu (by simp only[go_sem,vD]) rfl ?_
  repeat' (first|refine sX ?_ ?_<;>intro h|simp only[go_sem, *])
set_option maxHeartbeats 2000000 in
theorem SK (V:Nat) (rnn:Bool) (rows:List Row) (row:Row) (sc:Nat) (mnn:Bool) (ms:List Nat) (he:bQ V (rows++[row])=0) (hsy:Sys V (rows++[row])) (hl:ms.length=rows.length) (ha:(ms++[sc]).all (fun m=>decide (m<=4611686018427387904))=true) (hnil:mnn=false->ms=[]) :
  aB Tryz.prog 73 [i64 V,.sl rnn (rows.map Row.tr),row.tr,(⟨sc,mnn,ms⟩:Cert).tr] (.tup [.bool (gZ (bF (List.replicate V zW) ⟨true,0⟩ rows ms) row sc),i64 0]):=by
 obtain ⟨hsl,hr1,hr2,hr3⟩:=hsy.left;have hck:=zw V rnn rows row (by have:=hsl.n;omega);rw[he]at hck;have hmu:=Bg rnn rows true (ms++[sc]);rw[if_pos ha]at hmu;have hb:(∀m∈ms,m < 18446744073709551616)/\sc < 18446744073709551616:=by
  simp[List.all_eq_true]at ha;exact ⟨fun m hm=>by have:=ha.1 m hm;omega,by omega⟩
 have g1:((ms.length:Int) != (rows.length:Int))=false:=by simp;omega
 have hml:ms.length<=256:=by have:=hsl.n;omega
 have hsm:=ace V rnn rows mnn ms hsl.v hsl.n (by omega) hb.1 hsl.r;have hlen:=nK rows ms (List.replicate V zW) ⟨true,0⟩ (by simp) (fun r hr=>(hsl.r r hr).1);obtain ⟨hle1,hle2⟩:=G8 rows ms (List.replicate V zW) ⟨true,0⟩ 0 hb.1 (fun r hr=>(hsl.r r hr).2) (fun x hx=>by rw[(List.mem_replicate.1 hx).2];exact Qm _ 0) (Qm _ 0);rw[Nat.zero_add]at hle1 hle2;have hn:=hsl.n;have hco:=Lu true (bF (List.replicate V zW) ⟨true,0⟩ rows ms).1 (bF (List.replicate V zW) ⟨true,0⟩ rows ms).2;have hvv:=hsl.v;clear he hsy hl ha hsl;generalize bF (List.replicate V zW) ⟨true,0⟩ rows ms=R at *;obtain ⟨out,last⟩:=R;simp only at hsm hle1 hle2 hlen hco;have ahl:row.av.length<=out.length:=by omega
 have ahm:out.length<=row.av.length:=by omega
 have alu:row.av.length<=256:=by omega
 clear hlen hr1;have hfs:fits (sc:Int):=Nat.le_trans (Kc (m:=sc) hb.2) (by decide)
 by_cases h0:sc=0
 ·subst h0
  rw[show gZ (out,last) row 0=kQ out last from if_pos rfl];have g2:(((0:Nat):Int)==0)=true:=rfl;clear hle1 hle2 hfs;cases mnn with
  |false =>
   have hne:=hnil rfl;subst hne;clear hnil;simp only[List.nil_append,List.map_cons,List.map_nil]at hmu;simp only[List.length_nil]at g1;refine au orders Tryz.func73 rfl (by kernel_rfl) (fun d=>d==12||d==13||d==33||d==38) (by kernel_rfl) rfl (fun hs=>?_);clear hs
   repeat' (first|refine sX ?_ ?_<;>intro h|refine aj (hck) rfl ?_|simp only[go_sem, *])
   refine lT (xC _) rfl ?_
   repeat' (first|refine sX ?_ ?_<;>intro h|simp only[go_sem, *])
   rw[qL (esz:=1) (e:=38) (by kernel_rfl) (by kernel_rfl) (by kernel_rfl) rfl (by kernel_rfl) (fun x hx=>by rw[List.mem_singleton.1 hx];rfl) (by simp) (by simp)];simp only[rT,show flat []=[] from rfl]
   repeat' (first|refine sX ?_ ?_<;>intro h|refine aj (hmu) rfl ?_|refine aj (hsm) rfl ?_|refine aj (hco) rfl ?_|simp only[go_sem, *])
  |true =>
   clear hnil;have hi:=zy ms (fun _=>[]) (by omega);refine au orders Tryz.func73 rfl (by kernel_rfl) (fun d=>d==12||d==13||d==33||d==38) (by kernel_rfl) rfl (fun hs=>?_);clear hs
   repeat' (first|refine sX ?_ ?_<;>intro h|refine aj (hck) rfl ?_|simp only[go_sem, *])
   refine lT hi rfl ?_
   repeat' (first|refine sX ?_ ?_<;>intro h|simp only[go_sem, *])
   rw[pG (esz:=1) (e:=38) (ag:=false) (by kernel_rfl) (by kernel_rfl) (by kernel_rfl) rfl (by kernel_rfl) (fun x hx=>by rw[List.mem_singleton.1 hx];rfl) (aJ _ _) (by simp;omega) (by simp)];rw[Ee,gL];have vD:=LA ms 0;simp only[List.length_cons,List.length_nil]
   repeat' (first|refine sX ?_ ?_<;>intro h|simp only[go_sem, *])
   refine Ct hmu (by simp only[go_sem,vD]) rfl ?_;clear vD
   repeat' (first|refine sX ?_ ?_<;>intro h|refine aj (hsm) rfl ?_|refine aj (hco) rfl ?_|simp only[go_sem, *])
 ·rw[show gZ (out,last) row sc=(eqW out row.av sc&&decide (last.z<=sc*row.const)) from if_neg h0]
  have g2:((sc:Int)==0)=false:=by simpa using h0
  have hfr:=Cx sc hb.2;cases mnn with
  |false =>
   have hne:=hnil rfl;subst hne;clear hnil;simp only[List.nil_append,List.map_cons,List.map_nil]at hmu;simp only[List.length_nil]at g1;refine au orders Tryz.func73 rfl (by kernel_rfl) (fun d=>d==12||d==13||d==33||d==38) (by kernel_rfl) rfl (fun hs=>?_);clear hs
   repeat' (first|refine sX ?_ ?_<;>intro h|refine aj (hck) rfl ?_|simp only[go_sem, *])
   refine lT (xC _) rfl ?_
   repeat' (first|refine sX ?_ ?_<;>intro h|simp only[go_sem, *])
   rw[qL (esz:=1) (e:=38) (by kernel_rfl) (by kernel_rfl) (by kernel_rfl) rfl (by kernel_rfl) (fun x hx=>by rw[List.mem_singleton.1 hx];rfl) (by simp) (by simp)];simp only[rT,show flat []=[] from rfl]
   repeat' (first|refine sX ?_ ?_<;>intro h|refine aj (hmu) rfl ?_|refine aj (hsm) rfl ?_|refine aj (hfr) rfl ?_|simp only[go_sem, *])
   refine aC row.av (fun k s'=>hget s'.hp (12,0)=some ⟨last.cs.map .t,2,1,iW,true,true⟩/\hget s'.hp (13,0)=some ⟨(mE true sc).map .t,2,1,iW,true,true⟩/\eqW out row.av sc=eqW (out.drop k) (row.av.drop k) sc) rfl rfl (by first|assumption|omega) (by kernel_rfl) (fun _ _ _ _ hj=>hj) (fun _ _ _ hj=>hj) ?_ (fun k x s' hx hd hk hJ hix hfr G hG=>?_) (fun s' hJ hfr=>?_)
   ·exact ⟨rfl,rfl,rfl⟩
   ·have c11:=hfr 11 (by kernel_rfl)
    have c13:=hfr 13 (by kernel_rfl);have c59:=hfr 59 (by kernel_rfl);clear hfr;simp only[go_sem]at c11 c13 c59;change _=PV.ad (13,0) 1 0 at c13;obtain ⟨h12,h13,hJ⟩:=hJ;obtain ⟨y,hy,hyd⟩:=aF out k (by omega);have hxs:=aZ (hr3 x (List.mem_of_getElem? hx));rw[hd,hyd,eqW]at hJ;have hyf:=(hle1 y (List.mem_of_getElem? hy)).fits (by omega);have ox:=Af x ⟨by omega,by omega⟩;have mx:=rR true true (sc:Int) x hfs (pV ⟨by omega,by omega⟩);have cx:=Qd y.nn true y.z ((sc:Int)*x) hyf (pW hxs hb.2)
    by_cases hyz:y.z=sc*x
    ·rw[decide_eq_true hyz,Bool.true_and]at hJ
     rw[hyz,Int.sub_self,show Int.sign 0=0 from rfl]at cx;clear hyf hxs
     repeat' (first|refine sX ?_ ?_<;>intro h|refine aj (ox) rfl ?_|refine aj (mx) rfl ?_|refine aj (cx) rfl ?_|simp only[go_sem, *])
     all_goals exact hG _ ⟨by simp only[go_sem,h12],by simp only[go_sem,h13],hJ⟩
    ·rw[decide_eq_false hyz,Bool.false_and]at hJ
     have g5:((y.z-sc*x).sign != 0)=true:=by
      simp[Int.sign_eq_zero_iff_zero];omega
     generalize (y.z-sc*x).sign=sg at *;clear hyf hxs hyz
     repeat' (first|refine sX ?_ ?_<;>intro h|refine aj (ox) rfl ?_|refine aj (mx) rfl ?_|refine aj (cx) rfl ?_|simp only[go_sem, *])
   ·have c6:=hfr 6 (by kernel_rfl)
    have c12:=hfr 12 (by kernel_rfl);have c13:=hfr 13 (by kernel_rfl);clear hfr;simp only[go_sem]at c6 c12 c13;change _=PV.ad (12,0) 1 0 at c12;change _=PV.ad (13,0) 1 0 at c13;obtain ⟨h12,h13,hJ⟩:=hJ;have hJ':eqW out row.av sc=true:=by rw[hJ,List.drop_length];cases hdd:out.drop row.av.length<;>rfl
    rw[hJ',Bool.true_and];have hcs:=aZ hr2;have ox:=Af row.const ⟨by omega,by omega⟩;have mx:=rR true true (sc:Int) row.const hfs (pV ⟨by omega,by omega⟩);have cx:=Qd last.nn true last.z ((sc:Int)*row.const) (hle2.fits (by omega)) (pW hcs hb.2);have g6:decide ((last.z-sc*row.const).sign<=0)=decide (last.z<=sc*row.const):=by
     rw[Bool.eq_iff_iff,decide_eq_true_iff,decide_eq_true_iff,Int.sign_nonpos_iff];omega
    clear hJ hJ' hcs
    repeat' (first|refine sX ?_ ?_<;>intro h|refine aj (ox) rfl ?_|refine aj (mx) rfl ?_|refine aj (cx) rfl ?_|simp only[go_sem, *])
  |true =>
   clear hnil;have hi:=zy ms (fun _=>[]) (by omega);refine au orders Tryz.func73 rfl (by kernel_rfl) (fun d=>d==12||d==13||d==33||d==38) (by kernel_rfl) rfl (fun hs=>?_);clear hs
   repeat' (first|refine sX ?_ ?_<;>intro h|refine aj (hck) rfl ?_|simp only[go_sem, *])
   refine lT hi rfl ?_
   repeat' (first|refine sX ?_ ?_<;>intro h|simp only[go_sem, *])
   rw[pG (esz:=1) (e:=38) (ag:=false) (by kernel_rfl) (by kernel_rfl) (by kernel_rfl) rfl (by kernel_rfl) (fun x hx=>by rw[List.mem_singleton.1 hx];rfl) (aJ _ _) (by simp;omega) (by simp)];rw[Ee,gL];have vD:=LA ms sc;simp only[List.length_cons,List.length_nil]
   repeat' (first|refine sX ?_ ?_<;>intro h|simp only[go_sem, *])
   refine Ct hmu (by simp only[go_sem,vD]) rfl ?_;clear vD;generalize frz _ _=HF
   repeat' (first|refine sX ?_ ?_<;>intro h|refine aj (hsm) rfl ?_|refine aj (hfr) rfl ?_|simp only[go_sem, *])
   refine aC row.av (fun k s'=>hget s'.hp (hnext HF 12)=some ⟨last.cs.map .t,2,1,iW,true,true⟩/\hget s'.hp (hnext HF 13)=some ⟨(mE true sc).map .t,2,1,iW,true,true⟩/\eqW out row.av sc=eqW (out.drop k) (row.av.drop k) sc) rfl rfl (by first|assumption|omega) (by kernel_rfl) (fun _ _ _ _ hj=>hj) (fun _ _ _ hj=>hj) ?_ (fun k x s' hx hd hk hJ hix hfr G hG=>?_) (fun s' hJ hfr=>?_)
   ·refine ⟨?_,?_,rfl⟩
    ·simp only[go_sem,]
    ·rw[<- mP (h:=HF) (s:=12) (d:=13) _ rfl];exact aJ _ _
   ·have c11:=hfr 11 (by kernel_rfl)
    have c13:=hfr 13 (by kernel_rfl);have c59:=hfr 59 (by kernel_rfl);clear hfr;simp only[go_sem]at c11 c13 c59;rw[mP _ rfl]at c13;obtain ⟨h12,h13,hJ⟩:=hJ;obtain ⟨y,hy,hyd⟩:=aF out k (by omega);have hxs:=aZ (hr3 x (List.mem_of_getElem? hx));rw[hd,hyd,eqW]at hJ;have hyf:=(hle1 y (List.mem_of_getElem? hy)).fits (by omega);have ox:=Af x ⟨by omega,by omega⟩;have mx:=rR true true (sc:Int) x hfs (pV ⟨by omega,by omega⟩);have cx:=Qd y.nn true y.z ((sc:Int)*x) hyf (pW hxs hb.2)
    by_cases hyz:y.z=sc*x
    ·rw[decide_eq_true hyz,Bool.true_and]at hJ
     rw[hyz,Int.sub_self,show Int.sign 0=0 from rfl]at cx;clear hyf hxs
     repeat' (first|refine sX ?_ ?_<;>intro h|refine aj (ox) rfl ?_|refine aj (mx) rfl ?_|refine aj (cx) rfl ?_|simp only[go_sem, *])
     all_goals exact hG _ ⟨h12,h13,hJ⟩
    ·rw[decide_eq_false hyz,Bool.false_and]at hJ
     have g5:((y.z-sc*x).sign != 0)=true:=by
      simp[Int.sign_eq_zero_iff_zero];omega
     generalize (y.z-sc*x).sign=sg at *;clear hyf hxs hyz
     repeat' (first|refine sX ?_ ?_<;>intro h|refine aj (ox) rfl ?_|refine aj (mx) rfl ?_|refine aj (cx) rfl ?_|simp only[go_sem, *])
   ·have c6:=hfr 6 (by kernel_rfl)
    have c12:=hfr 12 (by kernel_rfl);have c13:=hfr 13 (by kernel_rfl);clear hfr;simp only[go_sem]at c6 c12 c13;rw[mP _ rfl]at c13;obtain ⟨h12,h13,hJ⟩:=hJ;have hJ':eqW out row.av sc=true:=by rw[hJ,List.drop_length];cases hdd:out.drop row.av.length<;>rfl
    rw[hJ',Bool.true_and];have hcs:=aZ hr2;have ox:=Af row.const ⟨by omega,by omega⟩;have mx:=rR true true (sc:Int) row.const hfs (pV ⟨by omega,by omega⟩);have cx:=Qd last.nn true last.z ((sc:Int)*row.const) (hle2.fits (by omega)) (pW hcs hb.2);have g6:decide ((last.z-sc*row.const).sign<=0)=decide (last.z<=sc*row.const):=by
     rw[Bool.eq_iff_iff,decide_eq_true_iff,decide_eq_true_iff,Int.sign_nonpos_iff];omega
    clear hJ hJ' hcs
    repeat' (first|refine sX ?_ ?_<;>intro h|refine aj (ox) rfl ?_|refine aj (mx) rfl ?_|refine aj (cx) rfl ?_|simp only[go_sem, *])
attribute [go_sem] Tryz.results27
def bE.v (x:bE):Int:=(x.p:Int)-x.n
theorem G9:∀(out:List bE) (cs:List Int) (m:Nat),(jN out cs m).map bE.v=List.zipWith (fun (v c:Int)=>v+m*c) (out.map bE.v) cs
 |[],_,_=>by simp[jN]
 |x::out,[],_=>by simp[jN]
 |x::out,c::cs,m=>by
  have ih:=G9 out cs m;simp only[jN]at ih;simp only[jN,List.zipWith_cons_cons,List.map_cons,ih];congr 1;have:=Lm x c m;simp only[bE.v];rw[this,Int.mul_comm]
theorem Qp:∀(out:List WI) (cs:List Int) (m:Nat),(oK out cs m).map WI.z=List.zipWith (fun (v c:Int)=>v+m*c) (out.map WI.z) cs
 |[],_,_=>by simp[oK]
 |x::out,[],_=>by simp[oK]
 |x::out,c::cs,m=>by
  have ih:=Qp out cs m;simp only[oK]at ih;simp only[oK,List.zipWith_cons_cons,List.map_cons,ih]
theorem Dl:∀(l cs:List Int),l.length<=cs.length->List.zipWith (fun (v c:Int)=>v+((0:Nat):Int)*c) l cs=l
 |[],_,_=>by simp
 |x::l,[],h=>by simp at h
 |x::l,c::cs,h=>by
  simp only[List.length_cons,Nat.add_le_add_iff_right]at h;rw[List.zipWith_cons_cons,Dl l cs h];simp
theorem Ef (V:Nat):∀(rows:List Row) (ms:List Nat) (out:List bE) (last:bE) (wN:List WI) (Eh:WI),out.length=V->(∀r∈rows,r.av.length=V)->out.map bE.v=wN.map WI.z->last.v=Eh.z ->
  (oz out last rows ms).1.map bE.v=(bF wN Eh rows ms).1.map WI.z/\(oz out last rows ms).2.v=(bF wN Eh rows ms).2.z
 |[],ms,out,last,wN,Eh,_,_,h1,h2=>by simp[oz,bF,h1,h2]
 |r::rows,[],out,last,wN,Eh,_,_,h1,h2=>by simp[oz,bF,h1,h2]
 |r::rows,m::ms,out,last,wN,Eh,hl,hr,h1,h2=>by
  have hrl:=hr r (by simp);have hlast:(fB last r.const m).v=last.v+m*r.const:=by
   have:=Lm last r.const m;simp only[bE.v];rw[this,Int.mul_comm]
  simp only[oz,bF];have hl':(jN out r.av m).length=V:=by simp[jN,hl,hrl]
  by_cases hm:m=0
  ·rw[if_pos hm]
   subst hm;refine Ef V rows ms _ _ wN Eh hl' (fun x hx=>hr x (by simp[hx])) ?_ ?_
   ·rw[G9,Dl _ _ (by simp[hl,hrl]),h1]
   ·rw[hlast,<- h2];simp
  ·rw[if_neg hm]
   refine Ef V rows ms _ _ _ _ hl' (fun x hx=>hr x (by simp[hx])) ?_ ?_
   ·rw[G9,Qp,h1]
   ·rw[hlast,h2]
theorem afe (l:List bE):l.all (fun x=>decide (x.p=x.n))=(l.map bE.v).all (fun z=>decide (z=0)):=by
 rw[List.all_map];congr 1;funext x;simp only[Function.comp,bE.v];exact decide_eq_decide.2 (by omega)
theorem aff (l:List WI):l.all (fun x=>decide (x.z=0))=(l.map WI.z).all (fun z=>decide (z=0)):=by
 rw[List.all_map];rfl
theorem Qq {q:List bE × bE}{w:List WI × WI} (h1:q.1.map bE.v=w.1.map WI.z) (h2:q.2.v=w.2.z):uU q=kQ w.1 w.2:=by
 unfold uU kQ;rw[afe,aff,h1,Bool.and_comm];congr 1;refine decide_eq_decide.2 ?_;rw[<- h2];simp only[bE.v];omega
theorem WQ (x y:bE):tX x y=decide (x.v<=y.v):=by
 simp only[tX,bE.v,<- decide_not];exact decide_eq_decide.2 (by omega)
theorem Om (a:Int) (b:Nat):(fB zR a b).v=b*a:=by
 have:=Lm zR a b;simp only[bE.v];rw[this,Int.mul_comm];simp
theorem SL:∀(out:List bE) (wN:List WI) (l:List Int) (b:Nat),out.map bE.v=wN.map WI.z->Bd out l b=eqW wN l b
 |[],[],_,_,_=>by simp[Bd,eqW]
 |[],w::wN,_,_,h=>by simp at h
 |x::out,[],_,_,h=>by simp at h
 |x::out,w::wN,[],_,_=>by simp[Bd,eqW]
 |x::out,w::wN,a::l,b,h=>by
  simp only[List.map_cons,List.cons.injEq]at h;simp only[Bd,eqW,SL out wN l b h.2,WQ,Om,h.1];congr 1;rw[<- Bool.decide_and];exact decide_eq_decide.2 (by omega)
theorem Qr {q:List bE × bE}{w:List WI × WI} (row:Row) (sc:Nat) (h1:q.1.map bE.v=w.1.map WI.z) (h2:q.2.v=w.2.z):Bf q row sc=gZ w row sc:=by
 unfold Bf gZ;split
 ·exact Qq h1 h2
 ·rw[SL _ _ _ _ h1,WQ,Om,h2]
theorem SN (V:Nat) (rows:List Row) (ms:List Nat) (hr:∀r∈rows,r.av.length=V) :
  (oz (List.replicate V zR) zR rows ms).1.map bE.v=(bF (List.replicate V zW) ⟨true,0⟩ rows ms).1.map WI.z/\(oz (List.replicate V zR) zR rows ms).2.v=(bF (List.replicate V zW) ⟨true,0⟩ rows ms).2.z :=
 Ef V rows ms _ _ _ _ (by simp) hr (by rw[List.map_replicate,List.map_replicate];rfl) rfl
end ama
end Go.Vm
end
section
namespace Go.bB
structure Tab where
 rows:List (List Rat)
 cost:List Rat
 basis:List Nat
 ak:Nat
 deriving DecidableEq
def Tab.row (T:Tab) (i:Nat):List Rat:=T.rows.getD i []
structure Tab.Ok (T:Tab) (n W:Nat):Prop where
 rn:T.rows.length=n
 bn:T.basis.length=n
 cw:T.cost.length=W
 rw':∀r∈T.rows,r.length=W
 wide:W=T.ak+n+1
def toS (T:Tab):S:=⟨fun i j=>(T.row i).getD j 0,fun j=>T.cost.getD j 0,fun i=>T.basis.getD i 0⟩
def lu (row pivot:List Rat) (col:Nat):List Rat:=List.zipWith (fun x p=>x-row.getD col 0*p) row pivot
def gT (T:Tab) (at_ col:Nat):Tab :=
 let row:=(T.row at_).map (·*((T.row at_).getD col 0)⁻¹)
 ⟨T.rows.mapIdx (fun i r=>if i=at_ then row else lu r row col),lu T.cost row col,T.basis.set at_ col,T.ak⟩
def d9 (T:Tab):Option Nat:=(List.range T.ak).find? fun j=>decide (T.cost.getD j 0 < 0)
def better (T:Tab) (acc:Option (Nat × Rat)) (i:Nat) (q:Rat):Bool:=match acc with
 |none=>true
 |some (b,l)=>decide (q < l)||(decide (q=l)&&decide (T.basis.getD i 0<=T.basis.getD b 0))
def mY (T:Tab) (col:Nat):List (List Rat)->Nat->Option (Nat × Rat)->Option (Nat × Rat)
 |[],_,acc=>acc
 |r::l,i,acc=>mY T col l (i+1) (if 0 < r.getD col 0/\better T acc i (r.getD (r.length-1) 0*(r.getD col 0)⁻¹)=true then some (i,r.getD (r.length-1) 0*(r.getD col 0)⁻¹) else acc)
def xD (T:Tab):Option Tab:=match d9 T with
 |none=>none
 |some col=>match mY T col T.rows 0 none with
  |none=>none
  |some (at_,_)=>some (gT T at_ col)
def vE:Nat->Tab->Option Tab
 |0,_=>none
 |k+1,T=>match d9 T with
  |none=>some T
  |some _=>match xD T with
   |none=>none
   |some T'=>vE k T'
theorem Dm {f:Rat->Rat->Rat} (hf:f 0 0=0) {a b:List Rat} (hl:a.length=b.length) (j:Nat):(List.zipWith f a b).getD j 0=f (a.getD j 0) (b.getD j 0):=by
 simp only[List.getD,List.getElem?_zipWith]
 by_cases hj:j < a.length
 ·have hjb:j < b.length:=by omega
  simp[hj,hjb]
 ·have hjb:¬j < b.length:=by omega
  simp[hj,hjb,hf]
theorem getD_map {f:Rat->Rat} (hf:f 0=0) (a:List Rat) (j:Nat):(a.map f).getD j 0=f (a.getD j 0):=by
 simp only[List.getD,List.getElem?_map];cases a[j]?<;>simp[hf]
variable {T:Tab}{n W:Nat}
theorem Tab.Ok.vF (h:T.Ok n W) {i:Nat} (hi:i < n):(T.row i).length=W:=by
 have hi':i < T.rows.length:=by rw[h.rn];exact hi
 unfold Tab.row;rw[List.getD_eq_getElem?_getD,List.getElem?_eq_getElem hi'];exact h.rw' _ (List.getElem_mem hi')
theorem Oo (h:T.Ok n W) {p q:Nat} (hp:p < n):(gT T p q).Ok n W:=by
 have hrow:((T.row p).map (·*((T.row p).getD q 0)⁻¹)).length=W:=by rw[List.length_map,h.vF hp]
 refine ⟨by simp[gT,h.rn],by simp[gT,h.bn],by simp[gT,lu,h.cw,h.vF hp],fun r hr=>?_,h.wide⟩;simp only[gT,List.mem_mapIdx]at hr;obtain ⟨i,hi,rfl⟩:=hr;split
 ·exact hrow
 ·simp[lu,h.rw' _ (List.getElem_mem hi),h.vF hp]
theorem rU (h:T.Ok n W) {p q:Nat} (hp:p < n):toS (gT T p q)=piv (toS T) p q:=by
 have hrow:∀j,((T.row p).map (·*((T.row p).getD q 0)⁻¹)).getD j 0=(T.row p).getD j 0*((T.row p).getD q 0)⁻¹:=fun j=>getD_map (by grind) _ j
 have e1:∀i j,((gT T p q).row i).getD j 0=(piv (toS T) p q).r i j:=by
  intro i j;simp only[piv,toS]
  by_cases hi:i < T.rows.length
  ·have:(gT T p q).row i=if i=p then (T.row p).map (·*((T.row p).getD q 0)⁻¹) else lu (T.row i) ((T.row p).map (·*((T.row p).getD q 0)⁻¹)) q:=by
    simp[gT,Tab.row,List.getD,hi]
   rw[this]
   by_cases e:i=p
   ·rw[if_pos e,if_pos e,hrow]
   ·rw[if_neg e,if_neg e]
    unfold lu;rw[Dm (by grind) (by rw[List.length_map,h.vF hp,h.vF (by rw[<- h.rn];exact hi)]),hrow]
  ·have e0:T.row i=[]:=by simp[Tab.row,List.getD,hi]
   have e1:(gT T p q).row i=[]:=by simp[gT,Tab.row,List.getD,hi]
   have:i≠p:=fun e=>hi (by rw[e,h.rn];exact hp)
   rw[e1,if_neg this,e0];simp;grind
 have e2:∀j,(gT T p q).cost.getD j 0=(piv (toS T) p q).c j:=by
  intro j;simp only[piv,toS,gT];unfold lu;rw[Dm (by grind) (by rw[List.length_map,h.vF hp,h.cw]),hrow]
 have e3:∀i,(gT T p q).basis.getD i 0=(piv (toS T) p q).b i:=by
  intro i;simp only[piv,toS,gT,List.getD,List.getElem?_set]
  by_cases e:i=p
  ·subst e;rw[if_pos rfl,if_pos rfl,if_pos (by rw[h.bn];exact hp)];rfl
  ·rw[if_neg e,if_neg (fun h=>e h.symm)]
 have:∀a b:S,a.r=b.r->a.c=b.c->a.b=b.b->a=b:=fun a b h1 h2 h3=>by cases a;cases b;simp_all
 exact this _ _ (funext fun i=>funext fun j=>e1 i j) (funext e2) (funext e3)
theorem uJ {q:Nat} (h:d9 T=some q):Enter T.ak (toS T) q:=by
 unfold d9 at h;obtain ⟨h1,h2,h3⟩:=List.find?_range_eq_some.1 h;refine ⟨by simpa using h2,by simpa[toS] using h1,fun j hj=>?_⟩;have:=h3 j hj;simp at this;exact Rat.not_lt.1 (by simpa[toS] using this)
theorem Qs (h:d9 T=none):∀j,j < T.ak->0<=(toS T).c j:=by
 intro j hj;unfold d9 at h;have:=List.find?_range_eq_none.1 h j hj;simp at this;exact Rat.not_lt.1 (by simpa[toS] using this)
def Best (T:Tab) (col:Nat) (k:Nat) (acc:Option (Nat × Rat)):Prop:=match acc with
 |none=>∀i,i < k->¬ 0 < (toS T).r i col
 |some (b,l)=>b < k/\0 < (toS T).r b col/\l=(toS T).r b (T.ak+T.rows.length)*((toS T).r b col)⁻¹ /\
  ∀i,i < k->0 < (toS T).r i col->l < (toS T).r i (T.ak+T.rows.length)*((toS T).r i col)⁻¹\/(l=(toS T).r i (T.ak+T.rows.length)*((toS T).r i col)⁻¹/\(toS T).b b<=(toS T).b i)
theorem zA (h:T.Ok n W) (col:Nat):∀(l:List (List Rat)) (k:Nat) (acc:Option (Nat × Rat)),l=T.rows.drop k->Best T col k acc->Best T col T.rows.length (mY T col l k acc)\/T.rows.length < k
 |[],k,acc,hl,hb=>by
  by_cases hk:T.rows.length < k
  ·exact .inr hk
  ·left
   have:T.rows.length<=k:=by
    have:=congrArg List.length hl;simp at this;omega
   have:k=T.rows.length:=by omega
   subst this;exact hb
 |r::l,k,acc,hl,hb=>by
  have hk:k < T.rows.length:=by
   have:=congrArg List.length hl;simp at this;omega
  have hl':l=T.rows.drop (k+1):=by
   have:=congrArg List.tail hl;simpa using this
  have hr:r=T.row k:=by
   have:=congrArg (fun x=>x[0]?) hl;simp at this;simp[Tab.row,List.getD,<- this]
  have hlen:r.length-1=T.ak+T.rows.length:=by
   rw[hr,h.vF (by rw[<- h.rn];exact hk),h.wide,h.rn];omega
  have hrk:∀j,r.getD j 0=(toS T).r k j:=fun j=>by rw[hr];rfl
  simp only[mY];have key:Best T col (k+1) (if 0 < r.getD col 0/\better T acc k (r.getD (r.length-1) 0*(r.getD col 0)⁻¹)=true then some (k,r.getD (r.length-1) 0*(r.getD col 0)⁻¹) else acc):=by
   simp only[hlen,hrk]
   by_cases hp:0 < (toS T).r k col
   ·cases acc with
    |none =>
     rw[if_pos ⟨hp,rfl⟩];refine ⟨by omega,hp,rfl,fun i hi hpos=>?_⟩
     by_cases e:i=k
     ·subst e;exact .inr ⟨rfl,Nat.le_refl _⟩
     ·exact absurd hpos (hb i (by omega))
    |some bl =>
     obtain ⟨b,lst⟩:=bl;obtain ⟨b1,b2,b3,b4⟩:=hb
     by_cases hbt:better T (some (b,lst)) k ((toS T).r k (T.ak+T.rows.length)*((toS T).r k col)⁻¹)=true
     ·rw[if_pos ⟨hp,hbt⟩]
      simp only[better,Bool.or_eq_true,Bool.and_eq_true,decide_eq_true_eq]at hbt;refine ⟨by omega,hp,rfl,fun i hi hpos=>?_⟩
      by_cases e:i=k
      ·subst e;exact .inr ⟨rfl,Nat.le_refl _⟩
      ·rcases b4 i (by omega) hpos with h4|⟨h4,h5⟩
       ·left
        rcases hbt with h6|⟨h6,_⟩
        ·grind
        ·rw[h6];exact h4
       ·rcases hbt with h6|⟨h6,h7⟩
        ·left;rw[<- h4];exact h6
        ·right;exact ⟨by rw[h6,h4],Nat.le_trans h7 h5⟩
     ·rw[if_neg (fun hh=>hbt hh.2)]
      refine ⟨by omega,b2,b3,fun i hi hpos=>?_⟩
      by_cases e:i=k
      ·subst e
       simp only[better,Bool.or_eq_true,Bool.and_eq_true,decide_eq_true_eq,not_or,not_and]at hbt;obtain ⟨h6,h7⟩:=hbt;rcases Rat.le_iff_lt_or_eq.1 (Rat.not_lt.1 h6) with h8|h8
       ·exact .inl h8
       ·refine .inr ⟨h8,?_⟩
        have:=h7 h8.symm;simp only[toS];omega
      ·exact b4 i (by omega) hpos
   ·rw[if_neg (fun hh=>hp hh.1)]
    cases acc with
    |none =>
     intro i hi
     by_cases e:i=k
     ·subst e;exact hp
     ·exact hb i (by omega)
    |some bl =>
     obtain ⟨b,lst⟩:=bl;obtain ⟨b1,b2,b3,b4⟩:=hb;refine ⟨by omega,b2,b3,fun i hi hpos=>?_⟩
     by_cases e:i=k
     ·subst e;exact absurd hpos hp
     ·exact b4 i (by omega) hpos
  rcases zA h col l (k+1) _ hl' key with h1|h1
  ·exact .inl h1
  ·omega
theorem FI (h:T.Ok n W) {col p:Nat}{q:Rat} (hl:mY T col T.rows 0 none=some (p,q)):Leave n T.ak (toS T) col p:=by
 rcases zA h col T.rows 0 none (by simp) (fun i hi=>by omega) with h1|h1
 ·rw[hl]at h1
  obtain ⟨b1,b2,b3,b4⟩:=h1;rw[h.rn]at b1 b3 b4;refine ⟨b1,b2,fun i hi hpos=>?_⟩;rw[<- b3];exact b4 i hi hpos
 ·omega
theorem FJ (h:T.Ok n W) {col:Nat} (hl:mY T col T.rows 0 none=none):∀i,i < n->¬ 0 < (toS T).r i col:=by
 rcases zA h col T.rows 0 none (by simp) (fun i hi=>by omega) with h1|h1
 ·rw[hl]at h1
  rw[h.rn]at h1;exact h1
 ·omega
variable {A:Nat->Nat->Rat}
theorem Ei (h:T.Ok n W) (hi:Inv n T.ak A (toS T)) {q:Nat} (he:d9 T=some q):∃p,xD T=some (gT T p q)/\Leave n T.ak (toS T) q p/\Inv n T.ak A (toS (gT T p q)):=by
 have hE:=uJ he;cases hl:mY T q T.rows 0 none with
 |none =>
  obtain ⟨i,hin,hp⟩:=hi.row hE.1 hE.2.1;exact absurd hp (FJ h hl i hin)
 |some pq =>
  obtain ⟨p,x⟩:=pq;have hL:=FI h hl;refine ⟨p,by simp[xD,he,hl],hL,?_⟩;rw[rU h hL.1];exact hi.piv hL.1 hE.1 hL.2.1 hL.ratio
def nth (T:Tab):Nat->Tab
 |0=>T
 |k+1=>match xD (nth T k) with|some T'=>T'|none=>nth T k
theorem nW (T:Tab):∀k,(nth T k).ak=T.ak
 |0=>rfl
 |k+1=>by
  simp only[nth];split
  ·rename_i T' hT
   unfold xD at hT;split at hT<;>try (simp at hT;done)
   split at hT<;>simp at hT
   rw[<- hT];exact nW T k
  ·exact nW T k
theorem Oq:∀(m:Nat) (T:Tab),(∀k,k < m->∃q T',d9 (nth T k)=some q/\xD (nth T k)=some T')->d9 (nth T m)=none->vE (m+1) T=some (nth T m)
 |0,T,_,he=>by
  have he:d9 T=none:=he;simp[vE,he,nth]
 |m+1,T,hs,he=>by
  obtain ⟨q,T',h1,h2⟩:=hs 0 (by omega);have h1:d9 T=some q:=h1;have h2:xD T=some T':=h2;have hn:∀k,nth T (k+1)=nth T' k:=by
   intro k
   induction k with
   |zero=>simp[nth,h2]
   |succ k ih=>simp only[nth]at ih ⊢;rw[ih]
  have:=Oq m T' (fun k hk=>by have:=hs (k+1) (by omega);rw[hn]at this;exact this) (by rw[<- hn];exact he);rw[hn];simp only[vE]at this ⊢;rw[h1,h2];exact this
theorem Vh (h:T.Ok n W) (hi:Inv n T.ak A (toS T)) (R:S->Prop) (h0:R (toS T)) (hR:∀s p q,Inv n T.ak A s->Enter T.ak s q->Leave n T.ak s q p->R s->R (piv s p q)) :
  ∃m T',vE (m+1) T=some T'/\T'.Ok n W/\T'.ak=T.ak/\Inv n T.ak A (toS T')/\d9 T'=none/\R (toS T'):=by
 have hstep:∀k,(∀i,i < k->d9 (nth T i)≠none)->(nth T k).Ok n W/\Inv n T.ak A (toS (nth T k))/\R (toS (nth T k)):=by
  intro k
  induction k with
  |zero=>intro _;exact ⟨h,hi,h0⟩
  |succ k ih =>
   intro hk;obtain ⟨h1,h2,h2R⟩:=ih (fun i hi=>hk i (by omega));cases he:d9 (nth T k) with
   |none=>exact absurd he (hk k (by omega))
   |some q =>
    obtain ⟨p,h3,h4,h5⟩:=Ei h1 (by rw[nW];exact h2) he;have hE:=uJ he;rw[nW]at h5 h4 hE;simp only[nth,h3];exact ⟨Oo h1 h4.1,h5,by rw[rU h1 h4.1];exact hR _ _ _ h2 hE h4 h2R⟩
 by_cases hx:∃m,d9 (nth T m)=none
 ·-- the first one
  have hmin:∃m,d9 (nth T m)=none/\∀i,i < m->d9 (nth T i)≠none:=by
   obtain ⟨m,hm⟩:=hx
   induction m using Nat.strongRecOn with
   |ind m ih =>
    by_cases hy:∃i,i < m/\d9 (nth T i)=none
    ·obtain ⟨i,hi1,hi2⟩:=hy;exact ih i hi1 hi2
    ·exact ⟨m,hm,fun i hi e=>hy ⟨i,hi,e⟩⟩
  obtain ⟨m,hm,hmin⟩:=hmin;obtain ⟨h1,h2,h2R⟩:=hstep m hmin;refine ⟨m,nth T m,Oq m T (fun k hk=>?_) hm,h1,nW T m,h2,hm,h2R⟩;cases he:d9 (nth T k) with
  |none=>exact absurd he (hmin k hk)
  |some q =>
   obtain ⟨h3,h4,_⟩:=hstep k (fun i hi=>hmin i (by omega));obtain ⟨p,h5,_⟩:=Ei h3 (by rw[nW];exact h4) he;exact ⟨q,_,rfl,h5⟩
 ·exfalso
  have hne:∀k,d9 (nth T k)≠none:=fun k e=>hx ⟨k,e⟩
  have hall:=fun k=>hstep k (fun i _=>hne i)
  have hch:∀k,∃qp:Nat × Nat,d9 (nth T k)=some qp.1/\Leave n T.ak (toS (nth T k)) qp.1 qp.2/\nth T (k+1)=gT (nth T k) qp.2 qp.1:=by
   intro k;cases he:d9 (nth T k) with
   |none=>exact absurd he (hne k)
   |some q =>
    obtain ⟨p,h3,h4,_⟩:=Ei (hall k).1 (by rw[nW];exact (hall k).2.1) he;rw[nW]at h4;exact ⟨(q,p),rfl,h4,by simp[nth,h3]⟩
  obtain ⟨f,hf⟩:=Classical.axiomOfChoice hch;have R:Run n T.ak ((T.ak+n) ^ n) A (fun k=>toS (nth T k)) (fun k=>(f k).1) (fun k=>(f k).2) :=
   ⟨hi,fun k _=>by have:=uJ (hf k).1;rw[nW]at this;exact this,fun k _=>(hf k).2.1,fun k _=>by
    show toS (nth T (k+1))=_
    rw[(hf k).2.2,rU (hall k).1 (hf k).2.1.1]⟩
  have:=R.short;omega
end Go.bB
end
