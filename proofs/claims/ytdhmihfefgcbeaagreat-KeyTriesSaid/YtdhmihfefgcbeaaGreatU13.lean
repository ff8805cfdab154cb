/-
  This text proves what these texts prove: EcB, PrA, FlA, NoA, ToA, MoA. Conditions: those of each theorem.
-/
import Derived.Test.YtdhmihfefgcbeaaGreatU01
set_option maxHeartbeats 8000000
namespace EC
variable {p:Nat}[NeZero p]
structure Fld(p:Nat)[NeZero p]:Prop where
 nzd:∀x y:Fin p,x*y=0->x=0\/y=0
 two:∀x:Fin p,x+x=0->x=0
 inv:∀x:Fin p,x≠0->∃y,x*y=1
def Sl(a x1 y1 x2 y2 l:Fin p):Prop:=y2-y1=l*(x2-x1)/\l*(y1+y2)=x1*x1+x1*x2+x2*x2+a
def On(a b x y:Fin p):Prop:=y*y=x*x*x+a*x+b
theorem Sl.symm{a x1 y1 x2 y2 l:Fin p}(h:Sl a x1 y1 x2 y2 l):Sl a x2 y2 x1 y1 l:=by
 obtain⟨h1,h2⟩:=h
 constructor<;>grobner
def Th(x1 y1 x2 l x4 y4:Fin p):Prop:=x4=l*l-x1-x2/\y4=l*(x1-x4)-y1
theorem Th.symm{a x1 y1 x2 y2 l x4 y4:Fin p}(h:Sl a x1 y1 x2 y2 l)(t:Th x1 y1 x2 l x4 y4):Th x2 y2 x1 l x4 y4:=by
 obtain⟨h1,h2⟩:=h
 obtain⟨t1,t2⟩:=t
 constructor<;>grobner
theorem Th.on{a b x1 y1 x2 y2 l x4 y4:Fin p}(h:Sl a x1 y1 x2 y2 l)(t:Th x1 y1 x2 l x4 y4)(hb:On a b x1 y1):On a b x4 y4:=by
 obtain⟨h1,h2⟩:=h
 obtain⟨t1,t2⟩:=t
 unfold On at *
 subst t1;subst t2;grobner
theorem Th.back{a x1 y1 x2 y2 l x4 y4:Fin p}(h:Sl a x1 y1 x2 y2 l)(t:Th x1 y1 x2 l x4 y4):l*(y1-y4)=x1*x1+x1*x4+x4*x4+a:=by
 obtain⟨h1,h2⟩:=h
 obtain⟨t1,t2⟩:=t
 subst t1;subst t2;grobner
theorem Th.sub{a x1 y1 x2 y2 l x4 y4:Fin p}(h:Sl a x1 y1 x2 y2 l)(t:Th x1 y1 x2 l x4 y4):Sl a x4 y4 x2 (-y2) (-l)/\Th x4 y4 x2 (-l) x1 y1:=by
 have t':=t.symm h
 have hb:=t'.back h.symm
 obtain⟨h1,h2⟩:=h
 obtain⟨t1,t2⟩:=t
 obtain⟨t3,t4⟩:=t'
 refine⟨⟨?_,?_⟩,?_,?_⟩
 ·clear h1 h2 t1 t2 t3 hb;grobner
 ·clear h1 h2 t1 t2 t3;grobner
 ·clear h1 h2 t2 t4 hb t1;grobner
 ·clear h1 h2 hb t1 t3 t4;grobner
def Opp(x1 y1 x2 y2:Fin p):Prop:=x1=x2/\y2= -y1
section
variable (F:Fld p)
include F
theorem cancel{x y z:Fin p}(hx:x≠0)(h:x*y=x*z):y=z:=by
 have:x*(y-z)=0:=by grobner
 rcases F.nzd _ _ this with h|h
 ·exact(hx h).elim
 ·grobner
theorem sq_eq{x y:Fin p}(h:x*x=y*y):x=y\/x= -y:=by
 have:(x-y)*(x+y)=0:=by grobner
 rcases F.nzd _ _ this with h|h
 ·left;grobner
 ·right;grobner
theorem Sl.ex{a b x1 y1 x2 y2:Fin p}(h1:On a b x1 y1)(h2:On a b x2 y2)(no:¬Opp x1 y1 x2 y2):∃l,Sl a x1 y1 x2 y2 l:=by
 unfold On at h1 h2
 by_cases hx:x1=x2
 ·subst hx
  have hy:y2=y1:=by
   rcases sq_eq F (x:=y2) (y:=y1) (by grobner)with h|h
   ·exact h
   ·exact(no ⟨rfl,h⟩).elim
  subst hy
  have h2y:y2+y2≠0:=by
   intro h
   have:=F.two _ h
   exact no ⟨rfl,by grobner⟩
  obtain⟨i,hi⟩:=F.inv _ h2y
  exact⟨i*(x1*x1+x1*x1+x1*x1+a),by grobner,by grobner⟩
 ·have hd:x2-x1≠0:=by intro h;exact hx (by grobner)
  obtain⟨i,hi⟩:=F.inv _ hd
  refine⟨i*(y2-y1),by grobner,?_⟩
  apply cancel F hd
  grobner
end
theorem fP(x1 y1 l1 l2 a x4 y4:Fin p)(h:l1*(y1-y4)=x1*x1+x1*x4+x4*x4+a)(h5:y4=l1*(x1-x4)-y1):
 x1*x1+(x4+l1*l2)*x1-(l1+l2)*y1+(x4*x4+a+(l1-l2)*y4-l1*l2*x4)=0:=by grobner
theorem fR(x3 y3 l1 l2 a x4 y4:Fin p)(h:Sl a x4 y4 x3 y3 l2):
 x3*x3+(x4+l1*l2)*x3-(l1+l2)*y3+(x4*x4+a+(l1-l2)*y4-l1*l2*x4)=0:=by
 obtain⟨h1,h2⟩:=h
 grobner
theorem eA1{x1 y1 x5 y5 m1 m2:Fin p}(k1:y5-y1=m2*(x5-x1))(u2:y5=m1*(x1-x5)-y1):(m1+m2)*(x5-x1)= -(y1+y1):=by grobner
theorem eA2{a x1 y1 x3 y3 x5 l1 m1:Fin p}(h2:l1*(y1+y1)=x1*x1+x1*x1+x1*x1+a)(g1:y3-y1=m1*(x3-x1))(g2:m1*(y1+y3)=x1*x1+x1*x3+x3*x3+a)
 (u1:x5=m1*m1-x1-x3):(y1+y1)*(m1-l1)=(x3-x1)*(x1-x5):=by
 obtain rfl:y3=y1+m1*(x3-x1):=by clear h2 g2 u1;grobner
 obtain rfl:a=l1*(y1+y1)-x1*x1-x1*x1-x1*x1:=by clear g1 g2 u1;grobner
 subst u1;clear g1 h2
 grobner
theorem eA3{y1 z d x x3 x1 m l:Fin p}(e1:z*d= -(y1+y1))(e2:(y1+y1)*(m-l)=(x3-x1)*x)(e:x= -d):d*(z*(m-l))=d*(x3-x1):=by grobner
theorem eA4{x1 x3 x4 x5 l1 l2 m1 m2:Fin p}(e:(m1+m2)*(m1-l1)=x3-x1)(t:x4=l1*l1-x1-x1)(u:x5=m1*m1-x1-x3):
 (x4+l1*l2)-(x5+m1*m2)=((l1+l2)-(m1+m2))*l1:=by grobner
theorem eC{a x1 y1 x2 y2 x3 y3 l x4:Fin p}(h1:y2-y1=l*(x2-x1))(h2:l*(y1+y2)=x1*x1+x1*x2+x2*x2+a)
 (g1:y3-y2=l*(x3-x2)) (g2:l*(y2+y3)=x2*x2+x2*x3+x3*x3+a) (t:x4=l*l-x1-x2):(x3-x1)*(x3-x4)=0:=by
 obtain rfl:y1=y2-l*(x2-x1):=by clear h2 g1 g2 t;grobner
 obtain rfl:y3=y2+l*(x3-x2):=by clear h2 h1 g2 t;grobner
 obtain rfl:a=l*(y2-l*(x2-x1)+y2)-x1*x1-x1*x2-x2*x2:=by clear h1 g1 g2 t;grobner
 subst t;clear h1 g1 h2
 grobner
theorem eA5{x1 x2 y1 y2 A B k A' B' k' l:Fin p}(f1:x1*x1+A*x1-B*y1+k=0)(f2:x2*x2+A*x2-B*y2+k=0)
 (g1:x1*x1+A'*x1-B'*y1+k'=0) (g2:x2*x2+A'*x2-B'*y2+k'=0) (h:y2-y1=l*(x2-x1)):(x2-x1)*(A-A')=(x2-x1)*((B-B')*l):=by
 obtain rfl:y2=y1+l*(x2-x1):=by clear f1 f2 g1 g2;grobner
 obtain rfl:k= -(x1*x1+A*x1-B*y1):=by clear f2 g1 g2 h;grobner
 obtain rfl:k'= -(x1*x1+A'*x1-B'*y1):=by clear f2 f1 g2 h;grobner
 clear h f1 g1
 have:(x2-x1)*(A-A')-(x2-x1)*((B-B')*l)=(x2*x2+A*x2-B*(y1+l*(x2-x1))+ -(x1*x1+A*x1-B*y1))-(x2*x2+A'*x2-B'*(y1+l*(x2-x1))+ -(x1*x1+A'*x1-B'*y1)):=by clear f2 g2;grobner
 rw[f2,g2]at this
 clear f2 g2
 grobner
theorem eD1{x4 x5 s t P Q l m:Fin p}(hA:(x4+P)-(x5+Q)=(s-t)*l)(hB:(x5+Q)-(x4+P)=(t-s)*m):(l-m)*(s-t)=0:=by grobner
theorem eD2{x1 x2 x3 x4 x5 l1 l2 m1 m2 xu xv:Fin p}(t:x4=l1*l1-x1-x2)(u:x5=m1*m1-x2-x3)(v:xu=l2*l2-x4-x3)(w:xv=m2*m2-x1-x5)
 (d1:l1+l2=m1+m2) (d2:x4+l1*l2=x5+m1*m2):xu=xv:=by
 have:(l1+l2)*(l1+l2)=(m1+m2)*(m1+m2):=by rw[d1]
 clear d1
 grobner
theorem eE1{x k A B y z k':Fin p}(h:x*x+A*x-B*(-y)+k=0)(g:x*x+A*x-B*(-z)+k'=0)(e:k=k'):B*y=B*z:=by grobner
theorem eE2{x y A B k k':Fin p}(h:x*x+A*x-B*y+k=0)(g:x*x+A*x-B*y+k'=0):k=k':=by grobner
theorem eE3{x1 x2 x3 x4 y1 y3 l1 l2 k:Fin p}(h1:x1*x1+(x4+l1*l2)*x1-(l1+l2)*y1+k=0)(h3:x3*x3+(x4+l1*l2)*x3-(l1+l2)*y3+k=0)
 (z:l1+l2=0) (t:x4=l1*l1-x1-x2):(x3-x1)*(x3-x2)=0:=by
 have:l2= -l1:=by clear h1 h3 t;grobner
 subst this;clear z;subst t;grobner
section
variable (F:Fld p)
include F
theorem stepA{a x1 y1 x2 y2 x3 y3 l1 l2 m1 m2 x4 y4 x5 y5:Fin p}
 (hl1:Sl a x1 y1 x2 y2 l1) (t4:Th x1 y1 x2 l1 x4 y4)
 (hm1:Sl a x2 y2 x3 y3 m1) (t5:Th x2 y2 x3 m1 x5 y5) (hm2:Sl a x1 y1 x5 y5 m2)
 (n12:¬Opp x1 y1 x2 y2):
 (x4+l1*l2)-(x5+m1*m2)=((l1+l2)-(m1+m2))*l1:=by
 by_cases hx:x1=x2
 ·subst hx
  have hy:y2=y1:=by have:=hl1.1;grobner
  subst hy
  have e1:=eA1 hm2.1 t5.2
  have e2:=eA2 hl1.2 hm1.1 hm1.2 t5.1
  have hne:x5-x1≠0:=by
   intro h0
   have:y2+y2=0:=by rw[h0]at e1;clear e2;grobner
   have:=F.two _ this
   exact n12 ⟨rfl,by grobner⟩
  exact eA4 (cancel F hne (eA3 e1 e2 (by grobner))) t4.1 t5.1
 ·have hd:x2-x1≠0:=by intro h;exact hx (by grobner)
  exact cancel F hd (eA5 (fP _ _ l1 l2 _ _ _ (t4.back hl1) t4.2) (fP _ _ l1 l2 _ _ _ ((t4.symm hl1).back hl1.symm) (t4.symm hl1).2)
   (fR _ _ m1 m2 _ _ _ hm2.symm) (fP _ _ m1 m2 _ _ _ (t5.back hm1) t5.2) hl1.1)
theorem stepC{a x1 y1 x2 y2 x3 y3 l x4 y4:Fin p}(hl:Sl a x1 y1 x2 y2 l)(t4:Th x1 y1 x2 l x4 y4)
 (hm:Sl a x2 y2 x3 y3 l) (ne:¬ (x3=x1/\y3=y1)) (n43:¬Opp x4 y4 x3 y3):False:=by
 have e1:(x3-x1)*(x3-x4)=0:=by
  exact eC hl.1 hl.2 hm.1 hm.2 t4.1
 rcases F.nzd _ _ e1 with h|h
 ·apply ne
  have:x3=x1:=by grobner
  subst this
  refine⟨rfl,?_⟩
  have:=hl.1
  have:=hm.1
  grobner
 ·apply n43
  have:x3=x4:=by grobner
  subst this
  refine⟨rfl,?_⟩
  have:=(t4.symm hl).2
  have:=hm.1
  grobner
theorem assocGen{a b x1 y1 x2 y2 x3 y3 l1 l2 m1 m2 x4 y4 x5 y5 xu yu xv yv:Fin p}(o1:On a b x1 y1)(o3:On a b x3 y3)
 (hl1:Sl a x1 y1 x2 y2 l1) (t4:Th x1 y1 x2 l1 x4 y4) (hl2:Sl a x4 y4 x3 y3 l2) (tu:Th x4 y4 x3 l2 xu yu)
 (hm1:Sl a x2 y2 x3 y3 m1) (t5:Th x2 y2 x3 m1 x5 y5) (hm2:Sl a x1 y1 x5 y5 m2) (tv:Th x1 y1 x5 m2 xv yv)
 (n12:¬Opp x1 y1 x2 y2) (n43:¬Opp x4 y4 x3 y3) (n23:¬Opp x2 y2 x3 y3) (ne:¬ (x3=x1/\y3=y1)) (no:¬Opp x1 y1 x3 y3):
 xu=xv/\yu=yv:=by
 have n32:¬Opp x3 y3 x2 y2:=by
  rintro⟨e1,e2⟩
  exact n23 ⟨e1.symm,by grobner⟩
 have hA:=stepA F (l2:=l2) hl1 t4 hm1 t5 hm2 n12
 have hB:=stepA F (l2:=m2) hm1.symm (t5.symm hm1) hl1.symm (t4.symm hl1) hl2.symm n32
 have hlm:l1-m1≠0:=by
  intro h
  have:m1=l1:=by clear hA hB;grobner
  subst this
  exact stepC F hl1 t4 hm1 ne n43
 have d1:l1+l2=m1+m2:=by
  rcases F.nzd _ _ (eD1 hA hB)with h|h
  ·exact(hlm h).elim
  ·generalize eD1 hA hB=q at *;clear q hA hB;grobner
 have d2:x4+l1*l2=x5+m1*m2:=by
  rw[d1]at hA
  clear hB
  grobner
 have hx:xu=xv:=eD2 t4.1 t5.1 tu.1 tv.1 d1 d2
 refine⟨hx,?_⟩
 subst hx
 have fu:=fR xu (-yu) l1 l2 a x4 y4 (by
  have b1:=tu.back hl2
  have c1:=tu.2
  refine⟨?_,?_⟩
  ·clear b1;grobner
  ·clear c1;grobner)
 have fv:=fR xu (-yv) m1 m2 a x5 y5 (by
  have b1:=(tv.symm hm2).back hm2.symm
  have c1:=(tv.symm hm2).2
  refine⟨?_,?_⟩
  ·clear b1;grobner
  ·clear c1;grobner)
 have p1:=fP x1 y1 l1 l2 _ _ _ (t4.back hl1) t4.2
 have p1':=fR x1 y1 m1 m2 _ _ _ hm2.symm
 have p3:=fR x3 y3 l1 l2 _ _ _ hl2
 have p3':=fP x3 y3 m1 m2 _ _ _ ((t5.symm hm1).back hm1.symm) (t5.symm hm1).2
 by_cases z:l1+l2=0
 ·exfalso
  have q13:x3≠x1:=by
   intro h
   subst h
   rcases sq_eq F (x:=y3) (y:=y1) (by unfold On at o1 o3;rw[o1,o3])with h|h
   ·exact ne ⟨rfl,h⟩
   ·exact no ⟨rfl,h⟩
  have q23:x3=x2:=by
   rcases F.nzd _ _ (eE3 p1 p3 z t4.1)with h|h
   ·exact(q13 (by grobner)).elim
   ·clear p1 p3 p1' p3' fu fv hA hB;grobner
  have q12:x1=x2:=by
   have z':m1+m2=0:=by rw[<-d1];exact z
   rcases F.nzd _ _ (eE3 p3' p1' z' (t5.symm hm1).1)with h|h
   ·exact(q13 (by clear p1 p3 p1' p3' fu fv hA hB;grobner)).elim
   ·clear p1 p3 p1' p3' fu fv hA hB;grobner
  exact q13 (q23.trans q12.symm)
 ·have pp:=p1'
  rw[<-d1,<-d2]at fv pp
  have k:=eE2 p1 pp
  exact cancel F z (eE1 fu fv k)
def No2(a b:Fin p):Prop:=∀x:Fin p,x*x*x+a*x+b≠0
end
inductive Pt (p:Nat) where
 |O
 |A (x y:Fin p)
 deriving DecidableEq
open Pt
def OnC(a b:Fin p):Pt p->Prop
 |O=>True
 |A x y=>On a b x y
def neg:Pt p->Pt p
 |O=>O
 |A x y=>A x (-y)
def add(i:Fin p->Fin p)(a:Fin p):Pt p->Pt p->Pt p
 |O,q=>q
 |q,O=>q
 |A x1 y1,A x2 y2=>
  if x1=x2 then
   if y1=y2/\y1≠0 then
    let l:=(x1*x1+x1*x1+x1*x1+a)*i (y1+y1)
    A (l*l-x1-x2) (l*(x1-(l*l-x1-x2))-y1)
   else O
  else
   let l:=(y2-y1)*i (x2-x1)
   A (l*l-x1-x2) (l*(x1-(l*l-x1-x2))-y1)
structure Ok(i:Fin p->Fin p)(a b:Fin p):Prop where
 F:Fld p
 n2:No2 a b
 inv:∀x:Fin p,x≠0->x*i x=1
section
variable {i:Fin p->Fin p}{a b:Fin p}(K:Ok i a b)
include K
theorem Ok.y0{x y:Fin p}(h:On a b x y):y≠0:=by
 intro e
 subst e
 unfold On at h
 exact K.n2 x (by rw[<-h];grobner)
theorem Ok.yy{x y:Fin p}(h:On a b x y):y≠ -y:=by
 intro e
 have:=K.F.two y (by grobner)
 exact K.y0 h this
theorem add_opp{x1 y1 x2 y2:Fin p}(h1:On a b x1 y1)(h:Opp x1 y1 x2 y2):add i a (A x1 y1) (A x2 y2)=O:=by
 obtain⟨e1,e2⟩:=h
 subst e1;subst e2
 have:=K.yy h1
 simp[add,this]
theorem add_sl{x1 y1 x2 y2 l:Fin p}(h1:On a b x1 y1)(h2:On a b x2 y2)(s:Sl a x1 y1 x2 y2 l)(no:¬Opp x1 y1 x2 y2):
 ∃x4 y4,add i a (A x1 y1) (A x2 y2)=A x4 y4/\Th x1 y1 x2 l x4 y4:=by
 by_cases hx:x1=x2
 ·subst hx
  have hy:y1=y2:=by have:=s.1;grobner
  subst hy
  have hi:=K.inv (y1+y1) (fun h=>K.y0 h1 (K.F.two _ h))
  have hl:(x1*x1+x1*x1+x1*x1+a)*i (y1+y1)=l:=by
   have:=s.2
   have e:(y1+y1)*((x1*x1+x1*x1+x1*x1+a)*i (y1+y1))=(y1+y1)*l:=by
    have e1:(y1+y1)*((x1*x1+x1*x1+x1*x1+a)*i (y1+y1))=((y1+y1)*i (y1+y1))*(x1*x1+x1*x1+x1*x1+a):=by clear hi;grobner
    rw[e1,hi,<-this];clear e1 hi this;grobner
   exact cancel K.F (fun h=>K.y0 h1 (K.F.two _ h)) e
  refine⟨_,_,by simp only[add,if_true];rw[if_pos ⟨trivial,K.y0 h1⟩],?_,?_⟩
  ·rw[hl]
  ·rw[hl]
 ·have hd:x2-x1≠0:=by intro h;exact hx (by grobner)
  have hi:=K.inv _ hd
  have hl:(y2-y1)*i (x2-x1)=l:=by
   have e:(x2-x1)*((y2-y1)*i (x2-x1))=(x2-x1)*l:=by
    have e1:(x2-x1)*((y2-y1)*i (x2-x1))=((x2-x1)*i (x2-x1))*(y2-y1):=by clear hi;grobner
    rw[e1,hi,s.1];clear e1 hi;grobner
   exact cancel K.F hd e
  refine⟨_,_,by simp only[add];rw[if_neg hx],?_,?_⟩
  ·rw[hl]
  ·rw[hl]
theorem add_cases{x1 y1 x2 y2:Fin p}(h1:On a b x1 y1)(h2:On a b x2 y2):
 (Opp x1 y1 x2 y2/\add i a (A x1 y1) (A x2 y2)=O)\/
 (¬Opp x1 y1 x2 y2/\∃l x4 y4,Sl a x1 y1 x2 y2 l/\Th x1 y1 x2 l x4 y4/\On a b x4 y4/\add i a (A x1 y1) (A x2 y2)=A x4 y4):=by
 by_cases no:Opp x1 y1 x2 y2
 ·exact .inl ⟨no,add_opp K h1 no⟩
 ·obtain⟨l,s⟩:=Sl.ex K.F h1 h2 no
  obtain⟨x4,y4,e,t⟩:=add_sl K h1 h2 s no
  exact .inr ⟨no,l,x4,y4,s,t,t.on s h1,e⟩
theorem add_on{P Q:Pt p}(h1:OnC a b P)(h2:OnC a b Q):OnC a b (add i a P Q):=by
 cases P with
 |O=>exact h2
 |A x1 y1=>
  cases Q with
  |O=>exact h1
  |A x2 y2=>
   rcases add_cases K h1 h2 with⟨_,e⟩|⟨_,l,x4,y4,_,_,o,e⟩
   ·rw[e];trivial
   ·rw[e];exact o
theorem add_comm'{P Q:Pt p}(h1:OnC a b P)(h2:OnC a b Q):add i a P Q=add i a Q P:=by
 cases P with
 |O=>cases Q<;>rfl
 |A x1 y1=>
  cases Q with
  |O=>rfl
  |A x2 y2=>
   rcases add_cases K h1 h2 with⟨n,e⟩|⟨n,l,x4,y4,s,t,o,e⟩
   ·rw[e,add_opp K h2 ⟨n.1.symm,by have:=n.2;grobner⟩]
   ·have n':¬Opp x2 y2 x1 y1:=fun h=>n ⟨h.1.symm,by have:=h.2;grobner⟩
    obtain⟨x5,y5,e',t'⟩:=add_sl K h2 h1 s.symm n'
    rw[e,e']
    have t2:=t.symm s
    obtain⟨u1,u2⟩:=t2
    obtain⟨v1,v2⟩:=t'
    have:x4=x5:=by rw[u1,v1]
    subst this
    rw[u2,v2]
omit K in
theorem neg_on{P:Pt p}(h:OnC a b P):OnC a b (neg P):=by
 cases P with
 |O=>trivial
 |A x y=>simp only[neg,OnC,On]at *;rw[<-h];clear h;grobner
theorem add_neg'{P:Pt p}(h:OnC a b P):add i a P (neg P)=O:=by
 cases P with
 |O=>rfl
 |A x y=>exact add_opp K h ⟨rfl,rfl⟩
theorem add_sub'{P Q:Pt p}(h1:OnC a b P)(h2:OnC a b Q):add i a (add i a P Q) (neg Q)=P:=by
 cases Q with
 |O=>cases P<;>rfl
 |A x2 y2=>
  cases P with
  |O=>exact add_neg' K (P:=A x2 y2) h2
  |A x1 y1=>
   rcases add_cases K h1 h2 with⟨n,e⟩|⟨n,l,x4,y4,s,t,o,e⟩
   ·rw[e]
    obtain⟨e1,e2⟩:=n
    subst e1;subst e2
    simp only[neg]
    show A x1 (- -y1)=A x1 y1
    have: - -y1=y1:=by grobner
    rw[this]
   ·rw[e]
    simp only[neg]
    obtain⟨s',t'⟩:=t.sub s
    have o2:On a b x2 (-y2):=neg_on (P:=A x2 y2) h2
    have n':¬Opp x4 y4 x2 (-y2):=by
     rintro⟨e1,e2⟩
     have e2':y4=y2:=by clear s t s' t';grobner
     subst e1;subst e2'
     have:=(t.symm s).2
     have z:y4+y4=0:=by clear s t s' t' e2;grobner
     exact K.y0 o (K.F.two _ z)
    obtain⟨x5,y5,e',t''⟩:=add_sl K o o2 s' n'
    rw[e']
    obtain⟨u1,u2⟩:=t'
    obtain⟨v1,v2⟩:=t''
    have:x5=x1:=by rw[u1,v1]
    subst this
    rw[v2,<-u2]
theorem neg_add'{P Q:Pt p}(h1:OnC a b P)(h2:OnC a b Q):neg (add i a P Q)=add i a (neg P) (neg Q):=by
 cases P with
 |O=>cases Q<;>rfl
 |A x1 y1=>
  cases Q with
  |O=>rfl
  |A x2 y2=>
   have o1:On a b x1 (-y1):=neg_on (P:=A x1 y1) h1
   have o2:On a b x2 (-y2):=neg_on (P:=A x2 y2) h2
   rcases add_cases K h1 h2 with⟨n,e⟩|⟨n,l,x4,y4,s,t,o,e⟩
   ·rw[e]
    simp only[neg]
    exact(add_opp K o1 ⟨n.1,by rw[n.2]⟩).symm
   ·rw[e]
    simp only[neg]
    have s':Sl a x1 (-y1) x2 (-y2) (-l):=by
     obtain⟨s1,s2⟩:=s
     refine⟨?_,?_⟩
     ·clear s2 t;grobner
     ·clear s1 t;grobner
    have n':¬Opp x1 (-y1) x2 (-y2):=by
     rintro⟨e1,e2⟩
     exact n ⟨e1,by clear s s' t;grobner⟩
    obtain⟨x5,y5,e',t'⟩:=add_sl K o1 o2 s' n'
    rw[e']
    obtain⟨u1,u2⟩:=t
    obtain⟨v1,v2⟩:=t'
    have:x5=x4:=by clear u2 v2 s s' o;grobner
    subst this
    congr 1
    clear s s' u1 v1
    grobner
theorem assoc'{P Q R:Pt p}(h1:OnC a b P)(h2:OnC a b Q)(h3:OnC a b R):
 add i a (add i a P Q) R=add i a P (add i a Q R):=by
 have nn:∀S:Pt p,neg (neg S)=S:=by
  intro S
  cases S with
  |O=>rfl
  |A x y=>simp only[neg];congr 1;grobner
 have oPQ:=add_on K h1 h2
 have oQR:=add_on K h2 h3
 -- S - T = U gives back
 by_cases c1:R=P
 ·subst c1
  rw[add_comm' K oPQ h3,add_comm' K h2 h3]
 by_cases c2:R=neg P
 ·subst c2
  have e1:add i a (add i a P Q) (neg P)=Q:=by rw[add_comm' K h1 h2];exact add_sub' K h2 h1
  rw[e1,add_comm' K h1 oQR]
  have:=add_sub' K h2 (neg_on h1)
  rw[nn]at this
  exact this.symm
 by_cases c3:R=neg Q
 ·subst c3
  rw[add_sub' K h1 h2,add_neg' K h2]
  cases P<;>rfl
 by_cases c4:Q=neg P
 ·subst c4
  rw[add_neg' K h1]
  have e:add i a P (add i a (neg P) R)=R:=by
   rw[add_comm' K h1 (add_on K h2 h3),add_comm' K h2 h3]
   have:=add_sub' K h3 (neg_on h1)
   rw[nn]at this
   exact this
  rw[e];rfl
 by_cases c5:R=neg (add i a P Q)
 ·rw[c5,add_neg' K oPQ,neg_add' K h1 h2]
  have e:add i a Q (add i a (neg P) (neg Q))=neg P:=by
   rw[add_comm' K h2 (add_on K (neg_on h1) (neg_on h2))]
   have:=add_sub' K (neg_on h1) (neg_on h2)
   rw[nn]at this
   exact this
  rw[e,add_neg' K h1]
 by_cases c6:P=neg (add i a Q R)
 ·rw[c6]
  have e:add i a (neg (add i a Q R)) Q=neg R:=by
   rw[neg_add' K h2 h3,add_comm' K (neg_on h2) (neg_on h3)]
   have:=add_sub' K (neg_on h3) (neg_on h2)
   rw[nn]at this
   exact this
  rw[e,add_comm' K (neg_on h3) h3,add_neg' K h3,add_comm' K (neg_on oQR) oQR,add_neg' K oQR]
 cases P with
 |O=>rfl
 |A x1 y1=>
  cases Q with
  |O=>rfl
  |A x2 y2=>
   cases R with
   |O=>rw[show add i a (A x2 y2) O=A x2 y2 from rfl];cases add i a (A x1 y1) (A x2 y2)<;>rfl
   |A x3 y3=>
    simp only[neg,A.injEq,not_and]at c1 c2 c3 c4
    have n12:¬Opp x1 y1 x2 y2:=fun h=>c4 h.1.symm h.2
    have n23:¬Opp x2 y2 x3 y3:=fun h=>c3 h.1.symm h.2
    have n13:¬Opp x1 y1 x3 y3:=fun h=>c2 h.1.symm h.2
    rcases add_cases K h1 h2 with⟨n,_⟩|⟨_,l1,x4,y4,s4,t4,o4,e4⟩
    ·exact(n12 n).elim
    rcases add_cases K h2 h3 with⟨n,_⟩|⟨_,m1,x5,y5,s5,t5,o5,e5⟩
    ·exact(n23 n).elim
    rw[e4]at c5⊢
    rw[e5]at c6⊢
    simp only[neg,A.injEq,not_and]at c5 c6
    have n43:¬Opp x4 y4 x3 y3:=fun h=>c5 h.1.symm h.2
    have n15:¬Opp x1 y1 x5 y5:=fun h=>c6 h.1 (by have:=h.2;grobner)
    rcases add_cases K o4 h3 with⟨n,_⟩|⟨_,l2,xu,yu,su,tu,ou,eu⟩
    ·exact(n43 n).elim
    rcases add_cases K h1 o5 with⟨n,_⟩|⟨_,m2,xv,yv,sv,tv,ov,ev⟩
    ·exact(n15 n).elim
    rw[eu,ev]
    obtain⟨q1,q2⟩:=assocGen K.F h1 h3 s4 t4 su tu s5 t5 sv tv n12 n43 n23 (fun h=>c1 h.1 h.2) n13
    rw[q1,q2]
end
end EC
/-! ## triples:one row of products for all of them-/
namespace EC
variable {p:Nat}[NeZero p]
structure Tr(p:Nat) where
 X:Fin p
 Y:Fin p
 Z:Fin p
 deriving DecidableEq
open Pt
def Rep:Tr p->Pt p->Prop
 |t,O=>t.X=0/\t.Z=0/\t.Y≠0
 |t,A x y=>t.Z≠0/\t.X=x*t.Z/\t.Y=y*t.Z
def tsum(a b3:Fin p)(s t:Tr p):Tr p:=
 let t0:=s.X*t.X
 let t1:=s.Y*t.Y
 let t2:=s.Z*t.Z
 let t3:=(s.X+s.Y)*(t.X+t.Y)-(t0+t1)
 let t4:=(s.X+s.Z)*(t.X+t.Z)-(t0+t2)
 let t5:=(s.Y+s.Z)*(t.Y+t.Z)-(t1+t2)
 let z:=b3*t2+a*t4
 let x:=t1-z
 let z:=t1+z
 let y:=x*z
 let t1:=t0+t0+t0
 let t2:=a*t2
 let t4:=b3*t4
 let t1:=t1+t2
 let t2:=a*(t0-t2)
 let t4:=t4+t2
 ⟨t3*x-t5*t4,y+t1*t4,t5*z+t3*t1⟩
def sX(a b x1 y1 x2 y2:Fin p):Fin p:=(x1*y2+x2*y1)*(y1*y2-((b+b+b)+a*(x1+x2)))-(y1+y2)*((b+b+b)*(x1+x2)+a*(x1*x2-a))
def sY(a b x1 y1 x2 y2:Fin p):Fin p:=(y1*y2-((b+b+b)+a*(x1+x2)))*(y1*y2+((b+b+b)+a*(x1+x2)))+(x1*x2+x1*x2+x1*x2+a)*((b+b+b)*(x1+x2)+a*(x1*x2-a))
def sZ(a b x1 y1 x2 y2:Fin p):Fin p:=(y1+y2)*(y1*y2+((b+b+b)+a*(x1+x2)))+(x1*y2+x2*y1)*(x1*x2+x1*x2+x1*x2+a)
theorem tsum_aff(a b:Fin p)(x1 y1 z1 x2 y2 z2:Fin p):
 tsum a (b+b+b) ⟨x1*z1,y1*z1,z1⟩ ⟨x2*z2,y2*z2,z2⟩=
  ⟨(z1*z2)*(z1*z2)*sX a b x1 y1 x2 y2,(z1*z2)*(z1*z2)*sY a b x1 y1 x2 y2,(z1*z2)*(z1*z2)*sZ a b x1 y1 x2 y2⟩:=by
 simp only[tsum,sX,sY,sZ,Tr.mk.injEq]
 refine⟨?_,?_,?_⟩<;>grobner
theorem tsum_O1(a b3:Fin p)(y1 x2 y2 z2:Fin p):tsum a b3 ⟨0,y1,0⟩ ⟨x2,y2,z2⟩=⟨y1*y1*y2*x2,y1*y1*y2*y2,y1*y1*y2*z2⟩:=by
 simp only[tsum,Tr.mk.injEq]
 refine⟨?_,?_,?_⟩<;>grobner
theorem tsum_O2(a b3:Fin p)(x1 y1 z1 y2:Fin p):tsum a b3 ⟨x1,y1,z1⟩ ⟨0,y2,0⟩=⟨y2*y2*y1*x1,y2*y2*y1*y1,y2*y2*y1*z1⟩:=by
 simp only[tsum,Tr.mk.injEq]
 refine⟨?_,?_,?_⟩<;>grobner
theorem s_sl{a b x1 y1 x2 y2 l x4 y4:Fin p}(o:On a b x1 y1)(s:Sl a x1 y1 x2 y2 l)(t:Th x1 y1 x2 l x4 y4):
 sX a b x1 y1 x2 y2=x4*sZ a b x1 y1 x2 y2/\sY a b x1 y1 x2 y2=y4*sZ a b x1 y1 x2 y2:=by
 obtain⟨s1,s2⟩:=s
 obtain⟨t1,t2⟩:=t
 unfold On at o
 obtain rfl:y2=y1+l*(x2-x1):=by clear s2 t1 t2 o;grobner
 obtain rfl:a=l*(y1+(y1+l*(x2-x1)))-(x1*x1+x1*x2+x2*x2):=by clear s1 t1 t2 o;grobner
 obtain⟨a',ha⟩:=exq (l*(y1+(y1+l*(x2-x1)))-(x1*x1+x1*x2+x2*x2))
 rw[<-ha]at o⊢
 obtain rfl:b=y1*y1-x1*x1*x1-a'*x1:=by clear s1 s2 t1 t2 ha;grobner
 clear o s1 s2
 subst t2;subst t1;subst ha
 unfold sX sY sZ
 refine⟨?_,?_⟩<;>grobner
theorem s_Z{a b x1 y1 x2 y2 m x6 y6:Fin p}(o:On a b x1 y1)(s:Sl a x1 y1 x2 (-y2) m)(t:Th x1 y1 x2 m x6 y6):
 sZ a b x1 y1 x2 y2=y6*((x2-x1)*(x2-x1)*(x2-x1)):=by
 obtain⟨s1,s2⟩:=s
 obtain⟨t1,t2⟩:=t
 unfold On at o
 obtain rfl:y2= -y1-m*(x2-x1):=by clear s2 t1 t2 o;grobner
 obtain rfl:a=m*(y1+(y1+m*(x2-x1)))-(x1*x1+x1*x2+x2*x2):=by clear s1 t1 t2 o;grobner
 obtain⟨a',ha⟩:=exq (m*(y1+(y1+m*(x2-x1)))-(x1*x1+x1*x2+x2*x2))
 rw[<-ha]at o⊢
 obtain rfl:b=y1*y1-x1*x1*x1-a'*x1:=by clear s1 s2 t1 t2 ha;grobner
 clear o s1 s2
 subst t2;subst t1;subst ha
 unfold sZ
 grobner
theorem s_Z2{a b x y:Fin p}(o:On a b x y):sZ a b x y x y=(y+y)*((y+y)*(y+y)):=by
 unfold On at o
 obtain rfl:b=y*y-x*x*x-a*x:=by grobner
 clear o
 unfold sZ;grobner
theorem s_opp{a b x y l x4 y4:Fin p}(o:On a b x y)(s:Sl a x y x y l)(t:Th x y x l x4 y4):
 sX a b x y x (-y)=0/\sZ a b x y x (-y)=0/\sY a b x y x (-y)=((y+y)*((y+y)*(y+y)))*y4:=by
 obtain⟨_,s2⟩:=s
 obtain⟨t1,t2⟩:=t
 unfold On at o
 obtain rfl:a=l*(y+y)-(x*x+x*x+x*x):=by clear t1 t2 o;grobner
 obtain⟨a',ha⟩:=exq (l*(y+y)-(x*x+x*x+x*x))
 rw[<-ha]at o⊢
 obtain rfl:b=y*y-x*x*x-a'*x:=by clear s2 t1 t2 ha;grobner
 clear o s2
 subst t2;subst t1;subst ha
 unfold sX sY sZ
 refine⟨?_,?_,?_⟩<;>grobner
section
variable {i:Fin p->Fin p}{a b:Fin p}(K:Ok i a b)
include K
theorem Ok.mul0{x y:Fin p}(hx:x≠0)(hy:y≠0):x*y≠0:=by
 intro h
 rcases K.F.nzd _ _ h with h|h
 ·exact hx h
 ·exact hy h
theorem Ok.yd{x y:Fin p}(h:On a b x y):y+y≠0:=fun e=>K.y0 h (K.F.two _ e)
theorem tsum_rep{s t:Tr p}{P Q:Pt p}(h1:OnC a b P)(h2:OnC a b Q)(r1:Rep s P)(r2:Rep t Q):
 Rep (tsum a (b+b+b) s t) (add i a P Q):=by
 obtain⟨X1,Y1,Z1⟩:=s
 obtain⟨X2,Y2,Z2⟩:=t
 cases P with
 |O=>
  obtain⟨e1,e2,e3⟩:=r1
  simp only at e1 e2 e3
  subst e1;subst e2
  rw[tsum_O1]
  cases Q with
  |O=>
   obtain⟨g1,g2,g3⟩:=r2
   simp only at g1 g2 g3
   subst g1;subst g2
   exact⟨by grobner,by grobner,K.mul0 (K.mul0 (K.mul0 e3 e3) g3) g3⟩
  |A x y=>
   obtain⟨g1,g2,g3⟩:=r2
   simp only at g1 g2 g3
   subst g2;subst g3
   exact⟨K.mul0 (K.mul0 (K.mul0 e3 e3) (K.mul0 (K.y0 h2) g1)) g1,by simp only;grobner,by simp only;grobner⟩
 |A x1 y1=>
  obtain⟨e1,e2,e3⟩:=r1
  simp only at e1 e2 e3
  subst e2;subst e3
  cases Q with
  |O=>
   obtain⟨g1,g2,g3⟩:=r2
   simp only at g1 g2 g3
   subst g1;subst g2
   rw[tsum_O2]
   exact⟨K.mul0 (K.mul0 (K.mul0 g3 g3) (K.mul0 (K.y0 h1) e1)) e1,by simp only;grobner,by simp only;grobner⟩
  |A x2 y2=>
   obtain⟨g1,g2,g3⟩:=r2
   simp only at g1 g2 g3
   subst g2;subst g3
   rw[tsum_aff]
   have hz:(Z1*Z2)*(Z1*Z2)≠0:=K.mul0 (K.mul0 e1 g1) (K.mul0 e1 g1)
   generalize (Z1*Z2)*(Z1*Z2)=z at hz⊢
   rcases add_cases K h1 h2 with⟨n,e⟩|⟨n,l,x4,y4,sl,th,o,e⟩
   ·rw[e]
    obtain⟨n1,n2⟩:=n
    subst n1;subst n2
    have no:¬Opp x1 y1 x1 y1:=fun h=>K.yy h1 h.2
    rcases add_cases K h1 h1 with⟨n,_⟩|⟨_,l,x4,y4,sl,th,o,_⟩
    ·exact(no n).elim
    obtain⟨q1,q2,q3⟩:=s_opp h1 sl th
    rw[q1,q2,q3]
    have hd:=K.yd h1
    exact⟨by grobner,by grobner,K.mul0 hz (K.mul0 (K.mul0 hd (K.mul0 hd hd)) (K.y0 o))⟩
   ·rw[e]
    obtain⟨q1,q2⟩:=s_sl h1 sl th
    have hZ:sZ a b x1 y1 x2 y2≠0:=by
     by_cases hx:x1=x2
     ·subst hx
      have hy:y2=y1:=by have:=sl.1;grobner
      subst hy
      have hd:=K.yd h1
      rw[s_Z2 h1]
      exact K.mul0 hd (K.mul0 hd hd)
     ·have h2':On a b x2 (-y2):=neg_on (P:=A x2 y2) h2
      have no:¬Opp x1 y1 x2 (-y2):=fun h=>hx h.1
      rcases add_cases K h1 h2' with⟨n,_⟩|⟨_,m,x6,y6,sm,tm,om,_⟩
      ·exact(no n).elim
      rw[s_Z h1 sm tm]
      have hd:x2-x1≠0:=by intro h;exact hx (by clear sl th sm tm q1 q2;grobner)
      exact K.mul0 (K.y0 om) (K.mul0 (K.mul0 hd hd) hd)
    refine⟨K.mul0 hz hZ,?_,?_⟩
    ·simp only;rw[q1];clear q1 q2 sl th hZ;grobner
    ·simp only;rw[q2];clear q1 q2 sl th hZ;grobner
end
end EC
namespace Pr
def Prime(p:Nat):Prop:=2<=p/\∀m,m∣p->m=1\/m=p
theorem Prime.coprime{p a:Nat}(hp:Prime p)(h:¬p∣a):Nat.Coprime p a:=by
 rcases hp.2 _ (Nat.gcd_dvd_left p a)with h1|h1
 ·exact h1
 ·exact(h (h1▸Nat.gcd_dvd_right p a)).elim
theorem Prime.dvd_mul{p a b:Nat}(hp:Prime p)(h:p∣a*b):p∣a\/p∣b:=by
 by_cases ha:p∣a
 ·exact .inl ha
 ·exact .inr ((hp.coprime ha).dvd_of_dvd_mul_left h)
theorem exists_prime(n:Nat):2<=n->∃q,Prime q/\q∣n:=by
 induction n using Nat.strongRecOn with
 |ind n ih=>
  intro hn
  by_cases hp:Prime n
  ·exact⟨n,hp,Nat.dvd_refl n⟩
  ·have:∃m,m∣n/\m≠1/\m≠n:=by
    apply Classical.byContradiction
    intro hno
    apply hp
    refine⟨hn,fun m hm=> ?_⟩
    by_cases h1:m=1
    ·exact .inl h1
    ·by_cases h2:m=n
     ·exact .inr h2
     ·exact(hno ⟨m,hm,h1,h2⟩).elim
   obtain⟨m,hm,h1,h2⟩:=this
   have hle:=Nat.le_of_dvd (by omega) hm
   have h0:m≠0:=by
    rintro rfl
    have:=Nat.eq_zero_of_zero_dvd hm
    omega
   obtain⟨q,hq,hqm⟩:=ih m (by omega) (by omega)
   exact⟨q,hq,Nat.dvd_trans hqm hm⟩
theorem prime_of_sqrt{n:Nat}(hn:2<=n)(h:∀q,Prime q->q∣n->n<q*q):Prime n:=by
 refine⟨hn,fun m hm=> ?_⟩
 by_cases h1:m=1
 ·exact .inl h1
 right
 obtain⟨c,hc⟩:=hm
 by_cases hc1:c=1
 ·subst hc1;omega
 exfalso
 have m0:m≠0:=by rintro rfl;simp at hc;omega
 have c0:c≠0:=by rintro rfl;simp at hc;omega
 obtain⟨q,hq,hqm⟩:=exists_prime m (by omega)
 obtain⟨r,hr,hrc⟩:=exists_prime c (by omega)
 have q1:=h q hq (hc▸Nat.dvd_trans hqm (Nat.dvd_mul_right _ _))
 have r1:=h r hr (hc▸Nat.dvd_trans hrc (Nat.dvd_mul_left _ _))
 have hqr:q*r<=n:=by
  rw[hc]
  exact Nat.mul_le_mul (Nat.le_of_dvd (by omega) hqm) (Nat.le_of_dvd (by omega) hrc)
 rcases Nat.le_total q r with h|h
 ·have:=Nat.mul_le_mul_left q h
  omega
 ·have:=Nat.mul_le_mul_right r h
  omega
/-! binomials-/
def ch:Nat->Nat->Nat
 |_,0=>1
 |0,_+1=>0
 |n+1,k+1=>ch n k+ch n (k+1)
theorem ch_gt:∀n k,n<k->ch n k=0
 |0,k+1,_=>rfl
 |n+1,k+1,h=>by simp[ch,ch_gt n k (by omega),ch_gt n (k+1) (by omega)]
theorem ch_self:∀n,ch n n=1
 |0=>rfl
 |n+1=>by simp[ch,ch_self n,ch_gt n (n+1) (by omega)]
theorem ch_mul:∀n k,ch (n+1) (k+1)*(k+1)=(n+1)*ch n k
 |0,0=>rfl
 |0,k+1=>by simp[ch]
 |n+1,0=>by
  have:=ch_mul n 0
  simp[ch]at this⊢
  omega
 |n+1,k+1=>by
  have h1:=ch_mul n k
  have h2:=ch_mul n (k+1)
  show(ch (n+1) (k+1)+ch (n+1) (k+2))*(k+2)=(n+2)*ch (n+1) (k+1)
  have e:ch (n+1) (k+1)=ch n k+ch n (k+1):=rfl
  have:(ch (n+1) (k+1)+ch (n+1) (k+2))*(k+2)=ch (n+1) (k+1)*(k+1)+ch (n+1) (k+1)+ch (n+1) (k+2)*(k+2):=by
   rw[Nat.add_mul,show k+2=k+1+1 from rfl,Nat.mul_add (ch (n+1) (k+1)) (k+1) 1,Nat.mul_one]
  rw[this,h1,h2,Nat.add_right_comm,<-Nat.mul_add,<-e,Nat.add_mul (n+1) 1,Nat.one_mul]
def sm(f:Nat->Nat):Nat->Nat
 |0=>0
 |n+1=>sm f n+f n
theorem sm_congr{f g:Nat->Nat}:∀n,(∀i,i<n->f i=g i)->sm f n=sm g n
 |0,_=>rfl
 |n+1,h=>by simp only[sm];rw[sm_congr n (fun i hi=>h i (by omega)),h n (by omega)]
theorem sm_add(f g:Nat->Nat):∀n,sm (fun i=>f i+g i) n=sm f n+sm g n
 |0=>rfl
 |n+1=>by simp only[sm,sm_add f g n];omega
theorem sm_mul(c:Nat)(f:Nat->Nat):∀n,sm (fun i=>f i*c) n=sm f n*c
 |0=>by simp[sm]
 |n+1=>by simp only[sm,sm_mul c f n,Nat.add_mul]
theorem sm_front(f:Nat->Nat):∀n,sm f (n+1)=f 0+sm (fun i=>f (i+1)) n
 |0=>by simp[sm]
 |n+1=>by
  have:=sm_front f n
  show sm f (n+1)+f (n+1)=_
  rw[this]
  simp only[sm]
  omega
theorem binom(x:Nat):∀n,(x+1)^n=sm (fun k=>ch n k*x^k) (n+1)
 |0=>rfl
 |n+1=>by
  rw[Nat.pow_succ,binom x n,Nat.mul_add,Nat.mul_one,<-sm_mul,sm_front (fun k=>ch (n+1) k*x^k) (n+1)]
  have e1:sm (fun i=>ch n i*x^i*x) (n+1)=sm (fun i=>ch n i*x^(i+1)) (n+1):=
   sm_congr _ fun i _=>by rw[Nat.pow_succ,Nat.mul_assoc]
  have e2:sm (fun k=>ch n k*x^k) (n+1)=1+sm (fun k=>ch n (k+1)*x^(k+1)) (n+1):=by
   rw[sm_front]
   have:sm (fun k=>ch n (k+1)*x^(k+1)) (n+1)=sm (fun i=>ch n (i+1)*x^(i+1)) n:=by
    show _+ch n (n+1)*x^(n+1)=_
    rw[ch_gt n (n+1) (by omega)];simp
   rw[this];simp[ch]
  rw[e1,e2]
  have e3:sm (fun i=>ch (n+1) (i+1)*x^(i+1)) (n+1)=sm (fun i=>ch n i*x^(i+1)) (n+1)+sm (fun k=>ch n (k+1)*x^(k+1)) (n+1):=by
   rw[<-sm_add]
   exact sm_congr _ fun i _=>by show(ch n i+ch n (i+1))*_=_;rw[Nat.add_mul]
  rw[e3]
  simp[ch]
  omega
theorem sm_dvd{p:Nat}{f:Nat->Nat}:∀n,(∀i,i<n->p∣f i)->p∣sm f n
 |0,_=>⟨0,rfl⟩
 |n+1,h=>Nat.dvd_add (sm_dvd n fun i hi=>h i (by omega)) (h n (by omega))
theorem ch_dvd{p:Nat}(hp:Prime p)(k:Nat)(h0:0<k)(h1:k<p):p∣ch p k:=by
 obtain⟨n,rfl⟩:∃n,p=n+1:=⟨p-1,by omega⟩
 obtain⟨j,rfl⟩:∃j,k=j+1:=⟨k-1,by omega⟩
 have h:=ch_mul n j
 have:(n+1)∣ch (n+1) (j+1)*(j+1):=⟨_,h⟩
 rcases hp.dvd_mul this with h|h
 ·exact h
 ·have:=Nat.le_of_dvd (by omega) h
  omega
theorem flt{p:Nat}(hp:Prime p):∀x,x^p%p=x%p
 |0=>by rw[Nat.zero_pow (by have:=hp.1;omega)]
 |x+1=>by
  have h2:=hp.1
  obtain⟨n,hn⟩:∃n,p=n+1:=⟨p-1,by omega⟩
  have e:(x+1)^p=1+sm (fun i=>ch p (i+1)*x^(i+1)) n+x^p:=by
   rw[binom,sm_front]
   have:sm (fun i=>ch p (i+1)*x^(i+1)) p=sm (fun i=>ch p (i+1)*x^(i+1)) n+x^p:=by
    conv=>lhs;rw[hn]
    simp only[sm]
    rw[<-hn,ch_self];simp
   rw[this];simp[ch];omega
  have hd:p∣sm (fun i=>ch p (i+1)*x^(i+1)) n:=
   sm_dvd _ fun i hi=>Nat.dvd_trans (ch_dvd hp (i+1) (by omega) (by omega)) (Nat.dvd_mul_right _ _)
  obtain⟨c,hc⟩:=hd
  rw[e,hc,Nat.add_mod,flt hp x,<-Nat.add_mod,Nat.add_right_comm,Nat.add_mul_mod_self_left,Nat.add_comm]
theorem flt1{p x:Nat}(hp:Prime p)(h:¬p∣x):x^(p-1)%p=1:=by
 have h2:=hp.1
 have h1:=flt hp x
 have hx:1<=x:=by
  rcases Nat.eq_zero_or_pos x with rfl|h0
  ·exact(h (Nat.dvd_zero p)).elim
  ·exact h0
 have e:x^p=x^(p-1)*x:=by
  conv=>lhs;rw[show p=p-1+1 from by omega]
  rw[Nat.pow_succ]
 have hge:1<=x^(p-1):=Nat.one_le_pow _ _ hx
 have hd:p∣(x^(p-1)-1)*x:=by
  rw[Nat.sub_mul,Nat.one_mul,<-e]
  exact Nat.dvd_of_mod_eq_zero (Nat.sub_mod_eq_zero_of_mod_eq h1)
 rcases hp.dvd_mul hd with h3|h3
 ·obtain⟨c,hc⟩:=h3
  have:x^(p-1)=1+p*c:=by omega
  rw[this,Nat.add_mul_mod_self_left]
  exact Nat.mod_eq_of_lt (by omega)
 ·exact(h h3).elim
/-! powers and orders modulo q-/
theorem pow_mod_mul{a q m:Nat}(h:a^m%q=1%q):∀c,a^(m*c)%q=1%q
 |0=>by simp
 |c+1=>by rw[Nat.mul_add,Nat.mul_one,Nat.pow_add,Nat.mul_mod,pow_mod_mul h c,h,<-Nat.mul_mod]
theorem pow_gcd{a q:Nat}(hq:2<=q)(m:Nat):∀n,a^m%q=1->a^n%q=1->a^Nat.gcd m n%q=1:=by
 have one:1%q=1:=Nat.mod_eq_of_lt (by omega)
 induction m using Nat.strongRecOn with
 |ind m ih=>
  intro n hm hn
  by_cases h0:m=0
  ·subst h0;simpa using hn
  ·rw[Nat.gcd_rec]
   refine ih (n%m) (Nat.mod_lt _ (by omega)) m ?_ hm
   have e:a^n=a^(n%m)*a^(m*(n/m)):=by rw[<-Nat.pow_add,Nat.mod_add_div]
   rw[e,Nat.mul_mod,pow_mod_mul (by rw[hm,one]) (n/m),one,Nat.mul_one,Nat.mod_mod]at hn
   exact hn
theorem dvd_less{r e m d:Nat}(hr:Prime r)(h:d∣r^(e+1)*m)(hn:¬r^(e+1)∣d):d∣r^e*m:=by
 obtain⟨c,hc⟩:=h
 by_cases hrc:r∣c
 ·obtain⟨c',rfl⟩:=hrc
  refine⟨c',?_⟩
  apply Nat.eq_of_mul_eq_mul_left (show 0<r by have:=hr.1;omega)
  rw[<-Nat.mul_assoc,Nat.mul_comm r (r^e),<-Nat.pow_succ,hc,Nat.mul_left_comm]
 ·exfalso
  apply hn
  have hco:Nat.Coprime (r^(e+1)) c:=Nat.Coprime.pow_left _ (hr.coprime hrc)
  exact hco.dvd_of_dvd_mul_right (⟨m,hc.symm⟩:r^(e+1)∣d*c)
theorem pock1{n r e m a q:Nat}(hr:Prime r)(hn:n-1=r^(e+1)*m)(ha:a^(n-1)%n=1)(hg:Nat.gcd (a^(r^e*m)%n+(n-1)) n=1)
 (hn2:2<=n) (hq:Prime q) (hqn:q∣n):r^(e+1)∣q-1:=by
 have q2:=hq.1
 have one:1%q=1:=Nat.mod_eq_of_lt (by omega)
 have red:∀x y,x%n=y->x%q=y%q:=by
  intro x y h
  rw[<-h,Nat.mod_mod_of_dvd _ hqn]
 have ha':a^(n-1)%q=1:=by rw[red _ _ ha,one]
 have hqa:¬q∣a:=by
  intro h
  have n0:n-1≠0:=by omega
  obtain⟨k,hk⟩:∃k,n-1=k+1:=⟨n-2,by omega⟩
  have:q∣a^(n-1):=by rw[hk,Nat.pow_succ];exact Nat.dvd_trans h (Nat.dvd_mul_left _ _)
  have:=Nat.mod_eq_zero_of_dvd this
  omega
 have hf:=flt1 hq hqa
 have hd:=pow_gcd q2 _ _ ha' hf
 apply Classical.byContradiction
 intro hno
 have h1:Nat.gcd (n-1) (q-1)∣r^e*m:=by
  refine dvd_less hr (hn▸Nat.gcd_dvd_left _ _) (fun h=>hno (Nat.dvd_trans h (Nat.gcd_dvd_right _ _)))
 obtain⟨c,hc⟩:=h1
 have h2:a^(r^e*m)%q=1:=by
  rw[hc,pow_mod_mul (by rw[hd,one]) c,one]
 have h3:q∣a^(r^e*m)%n+(n-1):=by
  have e1:(a^(r^e*m)%n)%q=1:=by rw[Nat.mod_mod_of_dvd _ hqn,h2]
  obtain⟨k,hk⟩:=hqn
  have hk1:n-1+1=q*k:=by omega
  apply Nat.dvd_of_mod_eq_zero
  have e2:a^(r^e*m)%n=1+q*(a^(r^e*m)%n/q):=by
   have:=Nat.mod_add_div (a^(r^e*m)%n) q
   omega
  rw[e2,show 1+q*(a^(r^e*m)%n/q)+(n-1)=(n-1+1)+q*(a^(r^e*m)%n/q) by omega,hk1,<-Nat.mul_add]
  exact Nat.mul_mod_right _ _
 have h4:q∣1:=hg▸Nat.dvd_gcd h3 hqn
 have:=Nat.le_of_dvd (by omega) h4
 omega
def pm(m:Nat):Nat->Nat->Nat->Nat->Nat
 |0,_,_,acc=>acc
 |f+1,b,e,acc=>pm m f (b*b%m) (e/2) (if e%2=1 then acc*b%m else acc)
theorem pm_eq{m:Nat}:∀f b e acc,e<2^f->acc<m->pm m f b e acc=acc*b^e%m
 |0,b,e,acc,he,ha=>by
  have:e=0:=by simpa using he
  subst this
  simp[pm,Nat.mod_eq_of_lt ha]
 |f+1,b,e,acc,he,ha=>by
  have he2:e/2<2^f:=by rw[Nat.pow_succ]at he;omega
  have hb:(b*b%m)^(e/2)%m=b^(2*(e/2))%m:=by
   rw[<-Nat.pow_mod,Nat.pow_mul,Nat.pow_two]
  unfold pm
  by_cases h:e%2=1
  ·rw[if_pos h,pm_eq f _ _ _ he2 (Nat.mod_lt _ (by omega)),Nat.mod_mul_mod,Nat.mul_mod,hb,<-Nat.mul_mod,Nat.mul_assoc,<-Nat.pow_succ']
   congr 3
   omega
  ·rw[if_neg h,pm_eq f _ _ _ he2 ha,Nat.mul_mod,hb,<-Nat.mul_mod]
   congr 3
   omega
def powMod(b e m:Nat):Nat:=pm m (e.log2+1) (b%m) e (1%m)
theorem powMod_eq{b e m:Nat}(hm:0<m):powMod b e m=b^e%m:=by
 unfold powMod
 rw[pm_eq _ _ _ _ Nat.lt_log2_self (Nat.mod_lt _ hm)]
 rw[Nat.mod_mul_mod,Nat.one_mul,<-Nat.pow_mod]
def chk(n r e a:Nat):Bool:=
 let m:=(n-1)/r^(e+1)
 (n-1==r^(e+1)*m)&&powMod a (n-1) n==1&&Nat.gcd (powMod a (r^e*m) n+(n-1)) n==1
theorem chk_dvd{n r e a q:Nat}(hn:2<=n)(hr:Prime r)(h:chk n r e a=true)(hq:Prime q)(hqn:q∣n):r^(e+1)∣q-1:=by
 simp only[chk,Bool.and_eq_true,beq_iff_eq]at h
 obtain⟨⟨h1,h2⟩,h3⟩:=h
 rw[powMod_eq (by omega)]at h2 h3
 exact pock1 hr h1 h2 h3 hn hq hqn
def chkAll(n:Nat):List (Nat×Nat×Nat)->Nat->Bool
 | [],F=>decide (n<(F+1)*(F+1))
 |(r,e,a)::l,F=>chk n r e a&&Nat.gcd F (r^(e+1))==1&&chkAll n l (F*r^(e+1))
theorem pock_go{n:Nat}(hn:2<=n){q:Nat}(hq:Prime q)(hqn:q∣n):∀ (l:List (Nat×Nat×Nat)) (F:Nat),(∀x,x∈l->Prime x.1)->F∣q-1->chkAll n l F=true->n<q*q
 | [],F,_,hF,h=>by
   simp only[chkAll,decide_eq_true_eq]at h
   have q2:=hq.1
   have:=Nat.le_of_dvd (by omega) hF
   have h1:F+1<=q:=by omega
   exact Nat.lt_of_lt_of_le h (Nat.mul_le_mul h1 h1)
 |(r,e,a)::l,F,hp,hF,h=>by
  simp only[chkAll,Bool.and_eq_true,beq_iff_eq]at h
  obtain⟨⟨h1,h2⟩,h3⟩:=h
  refine pock_go hn hq hqn l _ (fun x hx=>hp x (.tail _ hx)) ?_ h3
  exact Nat.Coprime.mul_dvd_of_dvd_of_dvd h2 hF (chk_dvd hn (hp (r,e,a) (.head _)) h1 hq hqn)
theorem pock{n:Nat}(l:List (Nat×Nat×Nat))(hp:∀x,x∈l->Prime x.1)(h:(decide (2<=n)&&chkAll n l 1)=true):Prime n:=by
 simp only[Bool.and_eq_true,decide_eq_true_eq]at h
 exact prime_of_sqrt h.1 fun q hq hqn=>pock_go h.1 hq hqn l 1 hp (Nat.one_dvd _) h.2
def tri(n:Nat):Nat->Nat->Bool
 |0,d=>decide (n<d*d)
 |f+1,d=>if n<d*d then true else if n%d=0 then false else tri n f (d+1)
theorem tri_ok{n:Nat}:∀f d,tri n f d=true->∀q,Prime q->q∣n->d<=q->n<q*q
 |0,d,h,q,_,_,hd=>by
  simp only[tri,decide_eq_true_eq]at h
  exact Nat.lt_of_lt_of_le h (Nat.mul_le_mul hd hd)
 |f+1,d,h,q,hq,hqn,hd=>by
  unfold tri at h
  split at h
  ·rename_i h1
   exact Nat.lt_of_lt_of_le h1 (Nat.mul_le_mul hd hd)
  ·split at h
   ·cases h
   ·rename_i h2
    by_cases e:d=q
    ·subst e
     exact(h2 (Nat.mod_eq_zero_of_dvd hqn)).elim
    ·exact tri_ok f (d+1) h q hq hqn (by omega)
theorem trial{n:Nat}(f:Nat)(h:(decide (2<=n)&&tri n f 2)=true):Prime n:=by
 simp only[Bool.and_eq_true,decide_eq_true_eq]at h
 exact prime_of_sqrt h.1 fun q hq hqn=>tri_ok f 2 h.2 q hq hqn hq.1
end Pr
namespace EC
open Pr
variable {p:Nat}[NeZero p]
omit [NeZero p] in
theorem val_mul(x y:Fin p):(x*y).val=x.val*y.val%p:=rfl
omit [NeZero p] in
theorem val_add(x y:Fin p):(x+y).val=(x.val+y.val)%p:=rfl
theorem val_zero:(0:Fin p).val=0:=by simp
theorem eq_zero_of_dvd{x:Fin p}(h:p∣x.val):x=0:=by
 apply Fin.ext
 rw[val_zero]
 rcases Nat.eq_zero_or_pos x.val with h0|h0
 ·exact h0
 ·have:=Nat.le_of_dvd h0 h
  omega
theorem val_one(h:2<=p):(1:Fin p).val=1:=by
 show 1%p=1
 exact Nat.mod_eq_of_lt (by omega)
def finv(x:Fin p):Fin p:=⟨powMod x.val (p-2) p,by
 rw[powMod_eq (Nat.pos_of_ne_zero (NeZero.ne p))];exact Nat.mod_lt _ (Nat.pos_of_ne_zero (NeZero.ne p))⟩
theorem mul_finv(hp:Prime p){x:Fin p}(hx:x≠0):x*finv x=1:=by
 have h2:=hp.1
 apply Fin.ext
 rw[val_one h2,val_mul]
 simp only[finv]
 rw[powMod_eq (by omega),Nat.mul_mod,Nat.mod_mod,<-Nat.mul_mod,<-Nat.pow_succ',show(p-2).succ=p-1 by omega]
 exact flt1 hp fun h=>hx (eq_zero_of_dvd h)
theorem fld(hp:Prime p)(h2:p≠2):Fld p where
 nzd:=fun x y h=>by
  have h1:=congrArg Fin.val h
  rw[val_mul,val_zero]at h1
  rcases hp.dvd_mul (Nat.dvd_of_mod_eq_zero h1)with h|h
  ·exact .inl (eq_zero_of_dvd h)
  ·exact .inr (eq_zero_of_dvd h)
 two:=fun x h=>by
  have h1:=congrArg Fin.val h
  rw[val_add,val_zero]at h1
  have:p∣2*x.val:=by rw[Nat.two_mul];exact Nat.dvd_of_mod_eq_zero h1
  rcases hp.dvd_mul this with h|h
  ·have:=Nat.le_of_dvd (by omega) h
   have:=hp.1
   omega
  ·exact eq_zero_of_dvd h
 inv:=fun x hx=>⟨_,mul_finv hp hx⟩
theorem ok_of{a b:Fin p}(hp:Prime p)(h2:p≠2)(hn:No2 a b):Ok finv a b:=⟨fld hp h2,hn,fun _ hx=>mul_finv hp hx⟩
def smul(i:Fin p->Fin p)(a:Fin p):Nat->Pt p->Pt p
 |0,_=> .O
 |n+1,P=>add i a (smul i a n P) P
section
variable {i:Fin p->Fin p}{a b:Fin p}(K:Ok i a b)
include K
theorem smul_on{P:Pt p}(h:OnC a b P):∀n,OnC a b (smul i a n P)
 |0=>trivial
 |n+1=>add_on K (smul_on h n) h
omit K in
theorem add_O(P:Pt p):add i a P .O=P:=by cases P<;>rfl
theorem smul_add{P:Pt p}(h:OnC a b P)(m:Nat):∀n,smul i a (m+n) P=add i a (smul i a m P) (smul i a n P)
 |0=>(add_O _).symm
 |n+1=>by
  show add i a (smul i a (m+n) P) P=_
  rw[smul_add h m n,assoc' K (smul_on K h m) (smul_on K h n) h]
  rfl
theorem smul_two{P:Pt p}(h:OnC a b P)(m:Nat):smul i a (2*m) P=add i a (smul i a m P) (smul i a m P):=by
 rw[Nat.two_mul,smul_add K h]
end
end EC
section
/-! no points of order two:x^p modulo the cubic-/
namespace EC
open Pr
variable {p:Nat}[NeZero p]
structure T3 where
 a:Nat
 b:Nat
 c:Nat
def nf(n:Nat):Fin p:=Fin.ofNat p n
theorem nf_mod(n:Nat):(nf (n%p):Fin p)=nf n:=by apply Fin.ext;simp[nf,Fin.ofNat]
theorem nf_mul(m n:Nat):(nf (m*n):Fin p)=nf m*nf n:=by apply Fin.ext;simp[nf,Fin.ofNat,val_mul,Nat.mul_mod]
theorem nf_add(m n:Nat):(nf (m+n):Fin p)=nf m+nf n:=by apply Fin.ext;simp[nf,Fin.ofNat,val_add,Nat.add_mod]
def fpw(x:Fin p):Nat->Fin p
 |0=>1
 |n+1=>fpw x n*x
theorem fpw_two(z:Fin p):∀k,fpw (z*z) k=fpw z (2*k)
 |0=>rfl
 |k+1=>by
  show fpw (z*z) k*(z*z)=fpw z (2*k)*z*z
  rw[fpw_two z k];grobner
theorem nf_val(x:Fin p):(nf x.val:Fin p)=x:=by apply Fin.ext;simp[nf,Fin.ofNat,Nat.mod_eq_of_lt x.isLt]
theorem val_nf(n:Nat)(h:n<p):(nf n:Fin p).val=n:=by simp[nf,Fin.ofNat,Nat.mod_eq_of_lt h]
def T3.ev(t:Fin p)(x:T3):Fin p:=nf x.a+nf x.b*t+nf x.c*(t*t)
def T3.mul(p A B:Nat)(x y:T3):T3:=
 let c3:=(x.b*y.c+x.c*y.b)%p
 let c4:=x.c*y.c%p
 ⟨(x.a*y.a+c3*B)%p,(x.a*y.b+x.b*y.a+c3*A+c4*B)%p,(x.a*y.c+x.b*y.b+x.c*y.a+c4*A)%p⟩
theorem T3.ev_mul{A B:Nat}{t:Fin p}(h:t*t*t=nf A*t+nf B)(x y:T3):(T3.mul p A B x y).ev t=x.ev t*y.ev t:=by
 simp only[T3.mul,T3.ev,nf_mod,nf_add,nf_mul]
 generalize (nf x.a:Fin p)=x0
 generalize (nf x.b:Fin p)=x1
 generalize (nf x.c:Fin p)=x2
 generalize (nf y.a:Fin p)=y0
 generalize (nf y.b:Fin p)=y1
 generalize (nf y.c:Fin p)=y2
 generalize (nf A:Fin p)=A' at h⊢
 generalize (nf B:Fin p)=B' at h⊢
 obtain rfl:B'=t*t*t-A'*t:=by grobner
 clear h
 grobner
def T3.pw(p A B:Nat):Nat->T3->Nat->T3->T3
 |0,_,_,acc=>acc
 |f+1,b,e,acc=>T3.pw p A B f (T3.mul p A B b b) (e/2) (if e%2=1 then T3.mul p A B acc b else acc)
theorem T3.ev_pw{A B:Nat}{t:Fin p}(h:t*t*t=nf A*t+nf B):∀f b e acc,e<2^f->(T3.pw p A B f b e acc).ev t=acc.ev t*fpw (b.ev t) e
 |0,b,e,acc,he=>by
  have:e=0:=by simpa using he
  subst this
  show acc.ev t=acc.ev t*1
  grobner
 |f+1,b,e,acc,he=>by
  have he2:e/2<2^f:=by rw[Nat.pow_succ]at he;omega
  unfold T3.pw
  by_cases h1:e%2=1
  ·rw[if_pos h1,T3.ev_pw h f _ _ _ he2,T3.ev_mul h,T3.ev_mul h,fpw_two]
   have:fpw (b.ev t) e=fpw (b.ev t) (2*(e/2))*b.ev t:=by
    conv=>lhs;rw[show e=2*(e/2)+1 from by omega]
    rfl
   rw[this]
   grobner
  ·rw[if_neg h1,T3.ev_pw h f _ _ _ he2,T3.ev_mul h,fpw_two]
   congr 2
   omega
def chk2(p a b:Nat)(u:T3):Bool:=
 let A:=p-a
 let B:=p-b
 let r:=T3.pw p A B (p.log2+1) ⟨0,1,0⟩ p ⟨1,0,0⟩
 let v:=T3.mul p A B u ⟨r.a,r.b+(p-1),r.c⟩
 v.a%p==1&&v.b%p==0&&v.c%p==0
theorem fpow{x:Fin p}:∀n,(fpw x n).val=x.val^n%p
 |0=>rfl
 |n+1=>by show(fpw x n*x).val=_;rw[val_mul,fpow n,Nat.pow_succ,Nat.mod_mul_mod]
theorem frob(hp:Prime p)(x:Fin p):fpw x p=x:=by
 apply Fin.ext
 rw[fpow,flt hp,Nat.mod_eq_of_lt x.isLt]
theorem nf_sub{a:Nat}(h:a<=p):(nf (p-a):Fin p)= -nf a:=by
 have:(nf (p-a):Fin p)+nf a=0:=by
  rw[<-nf_add,Nat.sub_add_cancel h]
  apply Fin.ext
  simp[nf,Fin.ofNat]
 grobner
theorem no2_of{a b:Nat}(hp:Prime p)(ha:a<p)(hb:b<p){u:T3}(h:chk2 p a b u=true):No2 (nf a:Fin p) (nf b):=by
 intro t ht
 have ht':t*t*t=nf (p-a)*t+nf (p-b):=by
  rw[nf_sub (by omega),nf_sub (by omega)]
  grobner
 simp only[chk2,Bool.and_eq_true,beq_iff_eq]at h
 have e1:=T3.ev_pw ht' (p.log2+1) ⟨0,1,0⟩ p ⟨1,0,0⟩ Nat.lt_log2_self
 generalize T3.pw p (p-a) (p-b) (p.log2+1) ⟨0,1,0⟩ p ⟨1,0,0⟩=r at e1 h
 have hX:T3.ev t ⟨0,1,0⟩=t:=by
  have h0:(nf 0:Fin p)=0:=rfl
  have h1:(nf 1:Fin p)=1:=rfl
  simp only[T3.ev,h0,h1]
  grobner
 have h1:T3.ev t ⟨1,0,0⟩=1:=by
  have h0:(nf 0:Fin p)=0:=rfl
  have h1:(nf 1:Fin p)=1:=rfl
  simp only[T3.ev,h0,h1]
  grobner
 rw[hX,h1,frob hp]at e1
 have e2:=T3.ev_mul ht' u ⟨r.a,r.b+(p-1),r.c⟩
 generalize T3.mul p (p-a) (p-b) u ⟨r.a,r.b+(p-1),r.c⟩=v at e2 h
 have e3:T3.ev t ⟨r.a,r.b+(p-1),r.c⟩=0:=by
  have h1:(nf 1:Fin p)=1:=rfl
  simp only[T3.ev]at e1⊢
  rw[nf_add,nf_sub (by have:=hp.1;omega),h1]
  grobner
 have e4:v.ev t=1:=by
  obtain⟨⟨g1,g2⟩,g3⟩:=h
  have h0:(nf 0:Fin p)=0:=rfl
  have h1:(nf 1:Fin p)=1:=rfl
  simp only[T3.ev]
  rw[<-nf_mod v.a,<-nf_mod v.b,<-nf_mod v.c,g1,g2,g3,h0,h1]
  grobner
 rw[e3,e4]at e2
 have:(1:Fin p)=0:=by rw[e2];grobner
 have:=congrArg Fin.val this
 rw[val_one hp.1,val_zero]at this
 omega
end EC
end
section
/-! roots:Tonelli's and Shanks's way-/
namespace EC
open Pr
variable {p:Nat}[NeZero p]
theorem fpw_add(x:Fin p)(m:Nat):∀n,fpw x (m+n)=fpw x m*fpw x n
 |0=>by show fpw x m=fpw x m*1;grobner
 |n+1=>by show fpw x (m+n)*x=fpw x m*(fpw x n*x);rw[fpw_add x m n];grobner
end EC
end
section
/-! primes by n+1:Morrison's law-/
namespace EC
open Pr
variable {p:Nat}[NeZero p]
def fsm(f:Nat->Fin p):Nat->Fin p
 |0=>0
 |n+1=>fsm f n+f n
theorem fsm_congr{f g:Nat->Fin p}:∀n,(∀i,i<n->f i=g i)->fsm f n=fsm g n
 |0,_=>rfl
 |n+1,h=>by simp only[fsm];rw[fsm_congr n (fun i hi=>h i (by omega)),h n (by omega)]
theorem fsm_add(f g:Nat->Fin p):∀n,fsm (fun i=>f i+g i) n=fsm f n+fsm g n
 |0=>by show(0:Fin p)=0+0;grobner
 |n+1=>by simp only[fsm,fsm_add f g n];grobner
theorem fsm_mul(c:Fin p)(f:Nat->Fin p):∀n,fsm (fun i=>c*f i) n=c*fsm f n
 |0=>by show(0:Fin p)=c*0;grobner
 |n+1=>by simp only[fsm,fsm_mul c f n];grobner
theorem fsm_front(f:Nat->Fin p):∀n,fsm f (n+1)=f 0+fsm (fun i=>f (i+1)) n
 |0=>by show(0:Fin p)+f 0=f 0+0;grobner
 |n+1=>by
  show fsm f (n+1)+f (n+1)=_
  rw[fsm_front f n]
  simp only[fsm]
  grobner
theorem fsm_last(f:Nat->Fin p)(m n:Nat)(h:m=n+1):fsm f m=fsm f n+f n:=by
 subst h;rfl
theorem fsm_zero{f:Nat->Fin p}:∀n,(∀i,i<n->f i=0)->fsm f n=0
 |0,_=>rfl
 |n+1,h=>by simp only[fsm];rw[fsm_zero n fun i hi=>h i (by omega),h n (by omega)];grobner
def S(x y:Fin p):Nat->(Nat->Fin p)->Fin p
 |0,g=>g 0
 |n+1,g=>x*S x y n g+y*S x y n (fun j=>g (j+1))
theorem S_sum(x y:Fin p):∀n (g:Nat->Fin p),S x y n g=fsm (fun j=>nf (ch n j)*(fpw x (n-j)*(fpw y j*g j))) (n+1)
 |0,g=>by
  show g 0=0+nf 1*(1*(1*g 0))
  have:(nf 1:Fin p)=1:=rfl
  rw[this];grobner
 |n+1,g=>by
  show x*S x y n g+y*S x y n (fun j=>g (j+1))=_
  rw[S_sum x y n g,S_sum x y n,<-fsm_mul,<-fsm_mul]
  rw[fsm_front (fun j=>nf (ch (n+1) j)*(fpw x (n+1-j)*(fpw y j*g j))) (n+1)]
  have e1:fsm (fun i=>x*(nf (ch n i)*(fpw x (n-i)*(fpw y i*g i)))) (n+1)=
   fpw x (n+1)*g 0+fsm (fun i=>nf (ch n (i+1))*(fpw x (n-i)*(fpw y (i+1)*g (i+1)))) (n+1):=by
   rw[fsm_front]
   have last:nf (ch n (n+1))*(fpw x (n-n)*(fpw y (n+1)*g (n+1)))=(0:Fin p):=by
    rw[ch_gt n (n+1) (by omega)]
    have:(nf 0:Fin p)=0:=rfl
    rw[this];grobner
   show _=_+(fsm (fun i=>nf (ch n (i+1))*(fpw x (n-i)*(fpw y (i+1)*g (i+1)))) n+nf (ch n (n+1))*(fpw x (n-n)*(fpw y (n+1)*g (n+1))))
   rw[last]
   have h0:x*(nf (ch n 0)*(fpw x (n-0)*(fpw y 0*g 0)))=fpw x (n+1)*g 0:=by
    have e:ch n 0=1:=by cases n<;>rfl
    have e1:(nf 1:Fin p)=1:=rfl
    rw[e,e1]
    show x*(1*(fpw x n*(1*g 0)))=fpw x n*x*g 0
    grobner
   rw[h0]
   have h1:fsm (fun i=>x*(nf (ch n (i+1))*(fpw x (n-(i+1))*(fpw y (i+1)*g (i+1))))) n=fsm (fun i=>nf (ch n (i+1))*(fpw x (n-i)*(fpw y (i+1)*g (i+1)))) n:=
    fsm_congr n fun i hi=>by
     have:fpw x (n-i)=fpw x (n-(i+1))*x:=by
      conv=>lhs;rw[show n-i=n-(i+1)+1 from by omega]
      rfl
     rw[this];grobner
   rw[h1];grobner
  have e2:fsm (fun i=>y*(nf (ch n i)*(fpw x (n-i)*(fpw y i*g (i+1))))) (n+1)=fsm (fun i=>nf (ch n i)*(fpw x (n-i)*(fpw y (i+1)*g (i+1)))) (n+1):=
   fsm_congr _ fun i _=>by
    show _=nf (ch n i)*(fpw x (n-i)*(fpw y i*y*g (i+1)))
    grobner
  have e3:fsm (fun i=>nf (ch (n+1) (i+1))*(fpw x (n+1-(i+1))*(fpw y (i+1)*g (i+1)))) (n+1)=
   fsm (fun i=>nf (ch n i)*(fpw x (n-i)*(fpw y (i+1)*g (i+1)))) (n+1)+fsm (fun i=>nf (ch n (i+1))*(fpw x (n-i)*(fpw y (i+1)*g (i+1)))) (n+1):=by
   rw[<-fsm_add]
   exact fsm_congr _ fun i _=>by
    show nf (ch n i+ch n (i+1))*_=_
    rw[nf_add,show n+1-(i+1)=n-i from by omega]
    grobner
  rw[e1,e2,e3]
  have h0:nf (ch (n+1) 0)*(fpw x (n+1-0)*(fpw y 0*g 0))=fpw x (n+1)*g 0:=by
   have e1:(nf (ch (n+1) 0):Fin p)=1:=rfl
   rw[e1]
   show 1*(fpw x (n+1)*(1*g 0))=_
   grobner
  rw[h0];grobner
theorem S_prime(hp:Prime p)(x y:Fin p)(g:Nat->Fin p):S x y p g=fpw x p*g 0+fpw y p*g p:=by
 rw[S_sum,fsm_front]
 obtain⟨n,hn⟩:∃n,p=n+1:=⟨p-1,by have:=hp.1;omega⟩
 have h0:nf (ch p 0)*(fpw x (p-0)*(fpw y 0*g 0))=fpw x p*g 0:=by
  have e:ch p 0=1:=by rw[hn];rfl
  have e1:(nf 1:Fin p)=1:=rfl
  rw[e,e1]
  show 1*(fpw x p*(1*g 0))=_
  grobner
 rw[h0]
 have h1:fsm (fun i=>nf (ch p (i+1))*(fpw x (p-(i+1))*(fpw y (i+1)*g (i+1)))) p=fpw y p*g p:=by
  rw[fsm_last _ p n hn,fsm_zero]
  ·rw[<-hn,ch_self,Nat.sub_self]
   have e1:(nf 1:Fin p)=1:=rfl
   rw[e1]
   show 0+1*(1*(fpw y p*g p))=_
   grobner
  ·intro i hi
   obtain⟨c,hc⟩:=ch_dvd hp (i+1) (by omega) (by omega)
   have:(nf (ch p (i+1)):Fin p)=0:=by
    rw[hc,nf_mul]
    have:(nf p:Fin p)=0:=by apply Fin.ext;simp[nf,Fin.ofNat]
    rw[this];grobner
   rw[this];grobner
 rw[h1]
structure Q(p:Nat) where
 x:Fin p
 y:Fin p
def Q.mul(d:Fin p)(a b:Q p):Q p:=⟨a.x*b.x+d*(a.y*b.y),a.x*b.y+a.y*b.x⟩
def Q.one:Q p:=⟨1,0⟩
def Q.pw(d:Fin p)(a:Q p):Nat->Q p
 |0=>Q.one
 |n+1=>Q.mul d (Q.pw d a n) a
theorem Q.mul_one(d:Fin p)(a:Q p):Q.mul d a Q.one=a:=by
 cases a;simp only[Q.mul,Q.one,Q.mk.injEq];constructor<;>grobner
theorem Q.one_mul(d:Fin p)(a:Q p):Q.mul d Q.one a=a:=by
 cases a;simp only[Q.mul,Q.one,Q.mk.injEq];constructor<;>grobner
theorem Q.assoc(d:Fin p)(a b c:Q p):Q.mul d (Q.mul d a b) c=Q.mul d a (Q.mul d b c):=by
 simp only[Q.mul,Q.mk.injEq];constructor<;>grobner
theorem Q.pw_add(d:Fin p)(a:Q p)(m:Nat):∀n,Q.pw d a (m+n)=Q.mul d (Q.pw d a m) (Q.pw d a n)
 |0=>(Q.mul_one d _).symm
 |n+1=>by show Q.mul d (Q.pw d a (m+n)) a=_;rw[Q.pw_add d a m n,Q.assoc];rfl
theorem Q.pw_one(d:Fin p){a:Q p}{m:Nat}(h:Q.pw d a m=Q.one):∀c,Q.pw d a (m*c)=Q.one
 |0=>rfl
 |c+1=>by rw[Nat.mul_add,Nat.mul_one,Q.pw_add,Q.pw_one d h c,h,Q.mul_one]
theorem Q.pw_gcd(d:Fin p){a:Q p}(m:Nat):∀n,Q.pw d a m=Q.one->Q.pw d a n=Q.one->Q.pw d a (Nat.gcd m n)=Q.one:=by
 induction m using Nat.strongRecOn with
 |ind m ih=>
  intro n hm hn
  by_cases h0:m=0
  ·subst h0;simpa using hn
  ·rw[Nat.gcd_rec]
   refine ih (n%m) (Nat.mod_lt _ (by omega)) m ?_ hm
   have e:Q.pw d a n=Q.mul d (Q.pw d a (n%m)) (Q.pw d a (m*(n/m))):=by rw[<-Q.pw_add,Nat.mod_add_div]
   rw[e,Q.pw_one d hm,Q.mul_one]at hn
   exact hn
def Ev(d:Fin p):Nat->Fin p×Fin p
 |0=>(1,0)
 |j+1=>(d*(Ev d j).2,(Ev d j).1)
theorem S_lin(x y c:Fin p):∀n (g:Nat->Fin p),S x y n (fun j=>c*g j)=c*S x y n g
 |0,_=>rfl
 |n+1,g=>by simp only[S,S_lin x y c n g,S_lin x y c n (fun j=>g (j+1))];grobner
theorem Q.pw_S(d:Fin p)(a:Q p):∀n,Q.pw d a n=⟨S a.x a.y n (fun j=>(Ev d j).1),S a.x a.y n (fun j=>(Ev d j).2)⟩
 |0=>rfl
 |n+1=>by
  show Q.mul d (Q.pw d a n) a=_
  rw[Q.pw_S d a n]
  simp only[Q.mul,S,Q.mk.injEq]
  have e1:S a.x a.y n (fun j=>(Ev d (j+1)).1)=d*S a.x a.y n (fun j=>(Ev d j).2):=S_lin _ _ _ _ _
  have e2:S a.x a.y n (fun j=>(Ev d (j+1)).2)=S a.x a.y n (fun j=>(Ev d j).1):=rfl
  rw[e1,e2]
  constructor<;>grobner
theorem Ev_odd(d:Fin p):∀k,Ev d (2*k+1)=(0,fpw d k)
 |0=>by show(d*0,(1:Fin p))=(0,1);simp only[Prod.mk.injEq,and_true];grobner
 |k+1=>by
  show(d*(Ev d (2*k+1)).1,d*(Ev d (2*k+1)).2)=(0,fpw d k*d)
  rw[Ev_odd d k]
  simp only[Prod.mk.injEq]
  constructor<;>grobner
theorem Q.frob(hp:Prime p)(h2:p≠2){d:Fin p}(hd:d≠0)(a:Q p)(ha:a.x*a.x-d*(a.y*a.y)=1):
 Q.pw d a (p-1)=Q.one\/Q.pw d a (p+1)=Q.one:=by
 have hodd:p%2=1:=by
  rcases Nat.mod_two_eq_zero_or_one p with h|h
  ·rcases hp.2 2 (Nat.dvd_of_mod_eq_zero h)with h3|h3<;>omega
  ·exact h
 have F:=fld hp h2
 have e:=Q.pw_S d a p
 rw[S_prime hp,S_prime hp]at e
 have e1:Ev d p=(0,fpw d ((p-1)/2)):=(congrArg (Ev d) (show p=2*((p-1)/2)+1 by omega)).trans (Ev_odd d _)
 rw[e1,EC.frob hp,EC.frob hp]at e
 have e0:Ev d 0=(1,0):=rfl
 rw[e0]at e
 simp only at e
 have hinv:Q.mul d a ⟨a.x,-a.y⟩=Q.one:=by
  simp only[Q.mul,Q.one,Q.mk.injEq]
  constructor<;>grobner
 have hs:fpw d ((p-1)/2)=1\/fpw d ((p-1)/2)= -1:=by
  have h1:fpw d ((p-1)/2)*fpw d ((p-1)/2)=1*1:=by
   rw[<-fpw_add,show(p-1)/2+(p-1)/2=p-1 by omega]
   apply Fin.ext
   rw[fpow,flt1 hp (fun h=>hd (eq_zero_of_dvd h)),val_mul,val_one hp.1]
   exact(Nat.mod_eq_of_lt (by have:=hp.1;omega)).symm
  exact sq_eq F h1
 rcases hs with h|h
 ·left
  rw[h]at e
  have e':Q.pw d a p=a:=by rw[e];cases a;simp only[Q.mk.injEq];constructor<;>grobner
  have e3:Q.pw d a p=Q.mul d (Q.pw d a (p-1)) a:=congrArg (Q.pw d a) (show p=p-1+1 by have:=hp.1;omega)
  have e4:Q.mul d (Q.mul d (Q.pw d a (p-1)) a) ⟨a.x,-a.y⟩=Q.one:=by rw[<-e3,e',hinv]
  rw[Q.assoc,hinv,Q.mul_one]at e4
  exact e4
 ·right
  rw[h]at e
  show Q.mul d (Q.pw d a p) a=Q.one
  rw[e]
  simp only[Q.mul,Q.one,Q.mk.injEq]
  constructor<;>grobner
/-! pairs of numbers modulo n-/
structure QN where
 x:Nat
 y:Nat
def QN.mul(n d:Nat)(a b:QN):QN:=⟨(a.x*b.x+d*(a.y*b.y))%n,(a.x*b.y+a.y*b.x)%n⟩
def QN.pw(n d:Nat):Nat->QN->Nat->QN->QN
 |0,_,_,acc=>acc
 |f+1,b,e,acc=>QN.pw n d f (QN.mul n d b b) (e/2) (if e%2=1 then QN.mul n d acc b else acc)
def QN.q(a:QN):Q p:=⟨nf a.x,nf a.y⟩
theorem nf_mod_dvd{n:Nat}(h:p∣n)(x:Nat):(nf (x%n):Fin p)=nf x:=by
 rw[<-nf_mod (x%n),Nat.mod_mod_of_dvd _ h,nf_mod]
theorem QN.q_mul{n d:Nat}(h:p∣n)(a b:QN):(QN.mul n d a b).q=Q.mul (nf d:Fin p) a.q b.q:=by
 simp only[QN.mul,QN.q,Q.mul,nf_mod_dvd h,nf_add,nf_mul]
theorem Q.pw_sq(d:Fin p)(a:Q p):∀k,Q.pw d (Q.mul d a a) k=Q.pw d a (2*k)
 |0=>rfl
 |k+1=>by
  show Q.mul d (Q.pw d (Q.mul d a a) k) (Q.mul d a a)=Q.mul d (Q.mul d (Q.pw d a (2*k)) a) a
  rw[Q.pw_sq d a k,Q.assoc]
theorem QN.q_pw{n d:Nat}(h:p∣n):∀f b e acc,e<2^f->(QN.pw n d f b e acc).q=Q.mul (nf d:Fin p) acc.q (Q.pw (nf d) b.q e)
 |0,b,e,acc,he=>by
  have:e=0:=by simpa using he
  subst this
  exact(Q.mul_one _ _).symm
 |f+1,b,e,acc,he=>by
  have he2:e/2<2^f:=by rw[Nat.pow_succ]at he;omega
  unfold QN.pw
  by_cases h1:e%2=1
  ·rw[if_pos h1,QN.q_pw h f _ _ _ he2,QN.q_mul h,QN.q_mul h,Q.pw_sq,Q.assoc]
   congr 1
   have:Q.pw (nf d:Fin p) b.q e=Q.pw (nf d) b.q (1+2*(e/2)):=by congr 1;omega
   rw[this,Q.pw_add]
   congr 1
   exact(Q.one_mul _ _).symm
  ·rw[if_neg h1,QN.q_pw h f _ _ _ he2,QN.q_mul h,Q.pw_sq]
   congr 2
   omega
def chkM(n d s x y:Nat):Bool:=
 let m:=(n+1)/s
 let b:=QN.pw n d (m.log2+1) ⟨x,y⟩ m ⟨1,0⟩
 let c:=QN.pw n d (s.log2+1) b s ⟨1,0⟩
 decide (2<=n)&&(n+1==s*m)&&(x*x%n==(1+d*(y*y))%n)&&(c.x%n==1&&c.y%n==0)&&Nat.gcd (b.x+(n-1)) n==1&&Nat.gcd (2*d) n==1&&decide (n<(s-1)*(s-1))
theorem morrison{n:Nat}(d s x y:Nat)(hs:Prime s)(h:chkM n d s x y=true):Prime n:=by
 simp only[chkM,Bool.and_eq_true,beq_iff_eq,decide_eq_true_eq]at h
 obtain⟨⟨⟨⟨⟨⟨h1,h2⟩,h3⟩,h4,h5⟩,h6⟩,h7⟩,h8⟩:=h
 refine prime_of_sqrt h1 fun q hq hqn=> ?_
 haveI:NeZero q:=⟨by have:=hq.1;omega⟩
 have q2:q≠2:=by
  rintro rfl
  have:2∣1:=h7▸Nat.dvd_gcd (Nat.dvd_mul_right 2 d) hqn
  omega
 have hd:(nf d:Fin q)≠0:=by
  intro e
  have e1:=congrArg Fin.val e
  rw[val_zero]at e1
  have e2:d%q=0:=by simpa [nf,Fin.ofNat]using e1
  have:q∣1:=h7▸Nat.dvd_gcd (Nat.dvd_trans (Nat.dvd_of_mod_eq_zero e2) (Nat.dvd_mul_left _ _)) hqn
  have:=Nat.le_of_dvd (by omega) this
  have:=hq.1
  omega
 have hb:=QN.q_pw hqn (d:=d) (((n+1)/s).log2+1) ⟨x,y⟩ ((n+1)/s) ⟨1,0⟩ Nat.lt_log2_self
 generalize QN.pw n d (((n+1)/s).log2+1) ⟨x,y⟩ ((n+1)/s) ⟨1,0⟩=b at *
 have hc:=QN.q_pw hqn (d:=d) (s.log2+1) b s ⟨1,0⟩ Nat.lt_log2_self
 generalize QN.pw n d (s.log2+1) b s ⟨1,0⟩=c at *
 have o:(QN.q ⟨1,0⟩:Q q)=Q.one:=rfl
 rw[o,Q.one_mul]at hb hc
 have hc1:(c.q:Q q)=Q.one:=by
  simp only[QN.q,Q.one,Q.mk.injEq]
  rw[<-nf_mod_dvd hqn c.x,<-nf_mod_dvd hqn c.y,h4,h5]
  exact⟨rfl,rfl⟩
 have hpw:∀ (a:Q q) (m:Nat),∀k,Q.pw (nf d) (Q.pw (nf d) a m) k=Q.pw (nf d:Fin q) a (m*k):=by
  intro a m k
  induction k with
  |zero=>rfl
  |succ k ih=>
   show Q.mul (nf d) (Q.pw (nf d) (Q.pw (nf d) a m) k) (Q.pw (nf d) a m)=_
   rw[ih,Nat.mul_add,Nat.mul_one]
   exact(Q.pw_add _ _ _ _).symm
 have hn1:Q.pw (nf d:Fin q) (QN.q ⟨x,y⟩) (n+1)=Q.one:=by
  rw[h2,Nat.mul_comm,<-hpw,<-hb,<-hc,hc1]
 have hnorm:(QN.q ⟨x,y⟩:Q q).x*(QN.q ⟨x,y⟩:Q q).x-nf d*((QN.q ⟨x,y⟩:Q q).y*(QN.q ⟨x,y⟩:Q q).y)=1:=by
  simp only[QN.q]
  have e:(nf (x*x):Fin q)=nf (1+d*(y*y)):=by rw[<-nf_mod_dvd hqn (x*x),h3,nf_mod_dvd hqn]
  rw[nf_add,nf_mul,nf_mul,nf_mul]at e
  have e1:(nf 1:Fin q)=1:=rfl
  rw[e1]at e
  grobner
 have key:∀D,Q.pw (nf d:Fin q) (QN.q ⟨x,y⟩) D=Q.one->s∣D:=by
  intro D hD
  have hg:=Q.pw_gcd _ _ _ hn1 hD
  apply Classical.byContradiction
  intro hno
  have h9:Nat.gcd (n+1) D∣(n+1)/s:=by
   have:=dvd_less (r:=s) (e:=0) (m:=(n+1)/s) (d:=Nat.gcd (n+1) D) hs (by rw[Nat.zero_add,Nat.pow_one,<-h2];exact Nat.gcd_dvd_left _ _)
    (by rw[Nat.zero_add,Nat.pow_one];exact fun h=>hno (Nat.dvd_trans h (Nat.gcd_dvd_right _ _)))
   simpa using this
  obtain⟨k,hk⟩:=h9
  have hb1:(b.q:Q q)=Q.one:=by rw[hb,hk,Q.pw_one _ hg]
  have hx:(nf b.x:Fin q)=1:=congrArg Q.x hb1
  have h10:q∣b.x+(n-1):=by
   have e1:=congrArg Fin.val hx
   rw[val_one hq.1]at e1
   have e2:b.x%q=1:=by simpa [nf,Fin.ofNat]using e1
   obtain⟨j,hj⟩:=hqn
   have e3:=Nat.mod_add_div b.x q
   apply Nat.dvd_of_mod_eq_zero
   rw[show b.x+(n-1)=q*(b.x/q)+q*j from by omega,<-Nat.mul_add]
   exact Nat.mul_mod_right _ _
  have:q∣1:=h6▸Nat.dvd_gcd h10 hqn
  have:=Nat.le_of_dvd (by omega) this
  have:=hq.1
  omega
 have q1:=hq.1
 have hsq:s-1<=q:=by
  rcases Q.frob hq q2 hd _ hnorm with h|h
  ·have:=Nat.le_of_dvd (by omega) (key _ h)
   omega
  ·have:=Nat.le_of_dvd (by omega) (key _ h)
   omega
 exact Nat.lt_of_lt_of_le h8 (Nat.mul_le_mul hsq hsq)
end EC
end
