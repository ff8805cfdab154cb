/-
  This text proves what these texts prove: EcB, PrA, FlA, NoA, ToA, MoA. Conditions: those of each theorem.
-/
import Derived.Test.YtfocopihipejfaaGreatB01
set_option maxHeartbeats 8000000
set_option linter.all false
namespace EC
variable {p:Nat}[NeZero p]
structure Hq(p:Nat)[NeZero p]:Prop where
 Cc:∀x y:Fin p,x*y=0->x=0\/y=0
 two:∀x:Fin p,x+x=0->x=0
 inv:∀x:Fin p,x≠0->∃y,x*y=1
def Sl(a x1 y1 x2 y2 l:Fin p):Prop:=y2-y1=l*(x2-x1)/\l*(y1+y2)=x1*x1+x1*x2+x2*x2+a
def On(a b x y:Fin p):Prop:=y*y=x*x*x+a*x+b
theorem Sl.symm{a x1 y1 x2 y2 l:Fin p}(h:Sl a x1 y1 x2 y2 l):Sl a x2 y2 x1 y1 l:=by
 obtain⟨h1,h2⟩:=h
 constructor<;>grobner
def Th(x1 y1 x2 l x4 y4:Fin p):Prop:=x4=l*l-x1-x2/\y4=l*(x1-x4)-y1
theorem Th.symm{a x1 y1 x2 y2 l x4 y4:Fin p}(h:Sl a x1 y1 x2 y2 l)(t:Th x1 y1 x2 l x4 y4):Th x2 y2 x1 l x4 y4:=by
 obtain⟨h1,h2⟩:=h
 obtain⟨t1,t2⟩:=t
 constructor<;>grobner
theorem Th.on{a b x1 y1 x2 y2 l x4 y4:Fin p}(h:Sl a x1 y1 x2 y2 l)(t:Th x1 y1 x2 l x4 y4)(hb:On a b x1 y1):On a b x4 y4:=by
 obtain⟨h1,h2⟩:=h
 obtain⟨t1,t2⟩:=t
 unfold On at *
 subst t1;subst t2;grobner
theorem Th.back{a x1 y1 x2 y2 l x4 y4:Fin p}(h:Sl a x1 y1 x2 y2 l)(t:Th x1 y1 x2 l x4 y4):l*(y1-y4)=x1*x1+x1*x4+x4*x4+a:=by
 obtain⟨h1,h2⟩:=h
 obtain⟨t1,t2⟩:=t
 subst t1;subst t2;grobner
theorem Th.sub{a x1 y1 x2 y2 l x4 y4:Fin p}(h:Sl a x1 y1 x2 y2 l)(t:Th x1 y1 x2 l x4 y4):Sl a x4 y4 x2 (-y2) (-l)/\Th x4 y4 x2 (-l) x1 y1:=by
 have t':=t.symm h
 have hb:=t'.back h.symm
 obtain⟨h1,h2⟩:=h
 obtain⟨t1,t2⟩:=t
 obtain⟨t3,t4⟩:=t'
 refine⟨⟨?_,?_⟩,?_,?_⟩
 ·clear h1 h2 t1 t2 t3 hb;grobner
 ·clear h1 h2 t1 t2 t3;grobner
 ·clear h1 h2 t2 t4 hb t1;grobner
 ·clear h1 h2 hb t1 t3 t4;grobner
def kN(x1 y1 x2 y2:Fin p):Prop:=x1=x2/\y2= -y1
section
variable (F:Hq p)
include F
theorem cancel{x y z:Fin p}(hx:x≠0)(h:x*y=x*z):y=z:=by
 have:x*(y-z)=0:=by grobner
 rcases F.Cc _ _ this with h|h
 ·exact(hx h).elim
 ·grobner
theorem V7{x y:Fin p}(h:x*x=y*y):x=y\/x= -y:=by
 have:(x-y)*(x+y)=0:=by grobner
 rcases F.Cc _ _ this with h|h
 ·left;grobner
 ·right;grobner
theorem Sl.ex{a b x1 y1 x2 y2:Fin p}(h1:On a b x1 y1)(h2:On a b x2 y2)(no:¬kN x1 y1 x2 y2):∃l,Sl a x1 y1 x2 y2 l:=by
 unfold On at h1 h2
 by_cases hx:x1=x2
 ·subst hx
  have hy:y2=y1:=by
   rcases V7 F (x:=y2) (y:=y1) (by grobner)with h|h
   ·exact h
   ·exact(no ⟨rfl,h⟩).elim
  subst hy
  have h2y:y2+y2≠0:=by
   intro h
   have:=F.two _ h
   exact no ⟨rfl,by grobner⟩
  obtain⟨i,hi⟩:=F.inv _ h2y
  exact⟨i*(x1*x1+x1*x1+x1*x1+a),by grobner,by grobner⟩
 ·have hd:x2-x1≠0:=by intro h;exact hx (by grobner)
  obtain⟨i,hi⟩:=F.inv _ hd
  refine⟨i*(y2-y1),by grobner,?_⟩
  apply cancel F hd
  grobner
end
theorem fP(x1 y1 l1 l2 a x4 y4:Fin p)(h:l1*(y1-y4)=x1*x1+x1*x4+x4*x4+a)(h5:y4=l1*(x1-x4)-y1):
 x1*x1+(x4+l1*l2)*x1-(l1+l2)*y1+(x4*x4+a+(l1-l2)*y4-l1*l2*x4)=0:=by grobner
theorem fR(x3 y3 l1 l2 a x4 y4:Fin p)(h:Sl a x4 y4 x3 y3 l2):
 x3*x3+(x4+l1*l2)*x3-(l1+l2)*y3+(x4*x4+a+(l1-l2)*y4-l1*l2*x4)=0:=by
 obtain⟨h1,h2⟩:=h
 grobner
theorem eA1{x1 y1 x5 y5 m1 m2:Fin p}(k1:y5-y1=m2*(x5-x1))(u2:y5=m1*(x1-x5)-y1):(m1+m2)*(x5-x1)= -(y1+y1):=by grobner
theorem eA2{a x1 y1 x3 y3 x5 l1 m1:Fin p}(h2:l1*(y1+y1)=x1*x1+x1*x1+x1*x1+a)(g1:y3-y1=m1*(x3-x1))(g2:m1*(y1+y3)=x1*x1+x1*x3+x3*x3+a)
 (u1:x5=m1*m1-x1-x3):(y1+y1)*(m1-l1)=(x3-x1)*(x1-x5):=by
 obtain rfl:y3=y1+m1*(x3-x1):=by clear h2 g2 u1;grobner
 obtain rfl:a=l1*(y1+y1)-x1*x1-x1*x1-x1*x1:=by clear g1 g2 u1;grobner
 subst u1;clear g1 h2
 grobner
theorem eA3{y1 z d x x3 x1 m l:Fin p}(e1:z*d= -(y1+y1))(e2:(y1+y1)*(m-l)=(x3-x1)*x)(e:x= -d):d*(z*(m-l))=d*(x3-x1):=by grobner
theorem eA4{x1 x3 x4 x5 l1 l2 m1 m2:Fin p}(e:(m1+m2)*(m1-l1)=x3-x1)(t:x4=l1*l1-x1-x1)(u:x5=m1*m1-x1-x3):
 (x4+l1*l2)-(x5+m1*m2)=((l1+l2)-(m1+m2))*l1:=by grobner
theorem eC{a x1 y1 x2 y2 x3 y3 l x4:Fin p}(h1:y2-y1=l*(x2-x1))(h2:l*(y1+y2)=x1*x1+x1*x2+x2*x2+a)
 (g1:y3-y2=l*(x3-x2)) (g2:l*(y2+y3)=x2*x2+x2*x3+x3*x3+a) (t:x4=l*l-x1-x2):(x3-x1)*(x3-x4)=0:=by
 obtain rfl:y1=y2-l*(x2-x1):=by clear h2 g1 g2 t;grobner
 obtain rfl:y3=y2+l*(x3-x2):=by clear h2 h1 g2 t;grobner
 obtain rfl:a=l*(y2-l*(x2-x1)+y2)-x1*x1-x1*x2-x2*x2:=by clear h1 g1 g2 t;grobner
 subst t;clear h1 g1 h2
 grobner
theorem eA5{x1 x2 y1 y2 A B k A' B' k' l:Fin p}(f1:x1*x1+A*x1-B*y1+k=0)(f2:x2*x2+A*x2-B*y2+k=0)
 (g1:x1*x1+A'*x1-B'*y1+k'=0) (g2:x2*x2+A'*x2-B'*y2+k'=0) (h:y2-y1=l*(x2-x1)):(x2-x1)*(A-A')=(x2-x1)*((B-B')*l):=by
 obtain rfl:y2=y1+l*(x2-x1):=by clear f1 f2 g1 g2;grobner
 obtain rfl:k= -(x1*x1+A*x1-B*y1):=by clear f2 g1 g2 h;grobner
 obtain rfl:k'= -(x1*x1+A'*x1-B'*y1):=by clear f2 f1 g2 h;grobner
 clear h f1 g1
 have:(x2-x1)*(A-A')-(x2-x1)*((B-B')*l)=(x2*x2+A*x2-B*(y1+l*(x2-x1))+ -(x1*x1+A*x1-B*y1))-(x2*x2+A'*x2-B'*(y1+l*(x2-x1))+ -(x1*x1+A'*x1-B'*y1)):=by clear f2 g2;grobner
 rw[f2,g2]at this
 clear f2 g2
 grobner
theorem eD1{x4 x5 s t P Q l m:Fin p}(hA:(x4+P)-(x5+Q)=(s-t)*l)(hB:(x5+Q)-(x4+P)=(t-s)*m):(l-m)*(s-t)=0:=by grobner
theorem eD2{x1 x2 x3 x4 x5 l1 l2 m1 m2 xu xv:Fin p}(t:x4=l1*l1-x1-x2)(u:x5=m1*m1-x2-x3)(v:xu=l2*l2-x4-x3)(w:xv=m2*m2-x1-x5)
 (d1:l1+l2=m1+m2) (d2:x4+l1*l2=x5+m1*m2):xu=xv:=by
 have:(l1+l2)*(l1+l2)=(m1+m2)*(m1+m2):=by rw[d1]
 clear d1
 grobner
theorem eE1{x k A B y z k':Fin p}(h:x*x+A*x-B*(-y)+k=0)(g:x*x+A*x-B*(-z)+k'=0)(e:k=k'):B*y=B*z:=by grobner
theorem eE2{x y A B k k':Fin p}(h:x*x+A*x-B*y+k=0)(g:x*x+A*x-B*y+k'=0):k=k':=by grobner
theorem eE3{x1 x2 x3 x4 y1 y3 l1 l2 k:Fin p}(h1:x1*x1+(x4+l1*l2)*x1-(l1+l2)*y1+k=0)(h3:x3*x3+(x4+l1*l2)*x3-(l1+l2)*y3+k=0)
 (z:l1+l2=0) (t:x4=l1*l1-x1-x2):(x3-x1)*(x3-x2)=0:=by
 have:l2= -l1:=by clear h1 h3 t;grobner
 subst this;clear z;subst t;grobner
section
variable (F:Hq p)
include F
theorem adW{a x1 y1 x2 y2 x3 y3 l1 l2 m1 m2 x4 y4 x5 y5:Fin p}
 (cQ:Sl a x1 y1 x2 y2 l1) (t4:Th x1 y1 x2 l1 x4 y4)
 (b_:Sl a x2 y2 x3 y3 m1) (t5:Th x2 y2 x3 m1 x5 y5) (cU:Sl a x1 y1 x5 y5 m2)
 (GS:¬kN x1 y1 x2 y2):
 (x4+l1*l2)-(x5+m1*m2)=((l1+l2)-(m1+m2))*l1:=by
 by_cases hx:x1=x2
 ·subst hx
  have hy:y2=y1:=by have:=cQ.1;grobner
  subst hy
  have e1:=eA1 cU.1 t5.2
  have e2:=eA2 cQ.2 b_.1 b_.2 t5.1
  have ek:x5-x1≠0:=by
   intro h0
   have:y2+y2=0:=by rw[h0]at e1;clear e2;grobner
   have:=F.two _ this
   exact GS ⟨rfl,by grobner⟩
  exact eA4 (cancel F ek (eA3 e1 e2 (by grobner))) t4.1 t5.1
 ·have hd:x2-x1≠0:=by intro h;exact hx (by grobner)
  exact cancel F hd (eA5 (fP _ _ l1 l2 _ _ _ (t4.back cQ) t4.2) (fP _ _ l1 l2 _ _ _ ((t4.symm cQ).back cQ.symm) (t4.symm cQ).2)
   (fR _ _ m1 m2 _ _ _ cU.symm) (fP _ _ m1 m2 _ _ _ (t5.back b_) t5.2) cQ.1)
theorem aqy{a x1 y1 x2 y2 x3 y3 l x4 y4:Fin p}(hl:Sl a x1 y1 x2 y2 l)(t4:Th x1 y1 x2 l x4 y4)
 (hm:Sl a x2 y2 x3 y3 l) (ne:¬ (x3=x1/\y3=y1)) (n43:¬kN x4 y4 x3 y3):False:=by
 have e1:(x3-x1)*(x3-x4)=0:=by
  exact eC hl.1 hl.2 hm.1 hm.2 t4.1
 rcases F.Cc _ _ e1 with h|h
 ·apply ne
  have:x3=x1:=by grobner
  subst this
  refine⟨rfl,?_⟩
  have:=hl.1
  have:=hm.1
  grobner
 ·apply n43
  have:x3=x4:=by grobner
  subst this
  refine⟨rfl,?_⟩
  have:=(t4.symm hl).2
  have:=hm.1
  grobner
theorem afb{a b x1 y1 x2 y2 x3 y3 l1 l2 m1 m2 x4 y4 x5 y5 xu yu xv yv:Fin p}(o1:On a b x1 y1)(o3:On a b x3 y3)
 (cQ:Sl a x1 y1 x2 y2 l1) (t4:Th x1 y1 x2 l1 x4 y4) (eO:Sl a x4 y4 x3 y3 l2) (tu:Th x4 y4 x3 l2 xu yu)
 (b_:Sl a x2 y2 x3 y3 m1) (t5:Th x2 y2 x3 m1 x5 y5) (cU:Sl a x1 y1 x5 y5 m2) (tv:Th x1 y1 x5 m2 xv yv)
 (GS:¬kN x1 y1 x2 y2) (n43:¬kN x4 y4 x3 y3) (OG:¬kN x2 y2 x3 y3) (ne:¬ (x3=x1/\y3=y1)) (no:¬kN x1 y1 x3 y3):
 xu=xv/\yu=yv:=by
 have n32:¬kN x3 y3 x2 y2:=by
  rintro⟨e1,e2⟩
  exact OG ⟨e1.symm,by grobner⟩
 have hA:=adW F (l2:=l2) cQ t4 b_ t5 cU GS
 have hB:=adW F (l2:=m2) b_.symm (t5.symm b_) cQ.symm (t4.symm cQ) eO.symm n32
 have oR:l1-m1≠0:=by
  intro h
  have:m1=l1:=by clear hA hB;grobner
  subst this
  exact aqy F cQ t4 b_ ne n43
 have d1:l1+l2=m1+m2:=by
  rcases F.Cc _ _ (eD1 hA hB)with h|h
  ·exact(oR h).elim
  ·generalize eD1 hA hB=q at *;clear q hA hB;grobner
 have d2:x4+l1*l2=x5+m1*m2:=by
  rw[d1]at hA
  clear hB
  grobner
 have hx:xu=xv:=eD2 t4.1 t5.1 tu.1 tv.1 d1 d2
 refine⟨hx,?_⟩
 subst hx
 have fu:=fR xu (-yu) l1 l2 a x4 y4 (by
  have b1:=tu.back eO
  have c1:=tu.2
  refine⟨?_,?_⟩
  ·clear b1;grobner
  ·clear c1;grobner)
 have fv:=fR xu (-yv) m1 m2 a x5 y5 (by
  have b1:=(tv.symm cU).back cU.symm
  have c1:=(tv.symm cU).2
  refine⟨?_,?_⟩
  ·clear b1;grobner
  ·clear c1;grobner)
 have p1:=fP x1 y1 l1 l2 _ _ _ (t4.back cQ) t4.2
 have KZ:=fR x1 y1 m1 m2 _ _ _ cU.symm
 have p3:=fR x3 y3 l1 l2 _ _ _ eO
 have OX:=fP x3 y3 m1 m2 _ _ _ ((t5.symm b_).back b_.symm) (t5.symm b_).2
 by_cases z:l1+l2=0
 ·exfalso
  have VD:x3≠x1:=by
   intro h
   subst h
   rcases V7 F (x:=y3) (y:=y1) (by unfold On at o1 o3;rw[o1,o3])with h|h
   ·exact ne ⟨rfl,h⟩
   ·exact no ⟨rfl,h⟩
  have q23:x3=x2:=by
   rcases F.Cc _ _ (eE3 p1 p3 z t4.1)with h|h
   ·exact(VD (by grobner)).elim
   ·clear p1 p3 KZ OX fu fv hA hB;grobner
  have q12:x1=x2:=by
   have z':m1+m2=0:=by rw[<-d1];exact z
   rcases F.Cc _ _ (eE3 OX KZ z' (t5.symm b_).1)with h|h
   ·exact(VD (by clear p1 p3 KZ OX fu fv hA hB;grobner)).elim
   ·clear p1 p3 KZ OX fu fv hA hB;grobner
  exact VD (q23.trans q12.symm)
 ·have pp:=KZ
  rw[<-d1,<-d2]at fv pp
  have k:=eE2 p1 pp
  exact cancel F z (eE1 fu fv k)
def P8(a b:Fin p):Prop:=∀x:Fin p,x*x*x+a*x+b≠0
end
inductive Pt (p:Nat) where
 |O
 |A (x y:Fin p)
 deriving DecidableEq
open Pt
def eI(a b:Fin p):Pt p->Prop
 |O=>True
 |A x y=>On a b x y
def neg:Pt p->Pt p
 |O=>O
 |A x y=>A x (-y)
def add(i:Fin p->Fin p)(a:Fin p):Pt p->Pt p->Pt p
 |O,q=>q
 |q,O=>q
 |A x1 y1,A x2 y2=>
  if x1=x2 then
   if y1=y2/\y1≠0 then
    let l:=(x1*x1+x1*x1+x1*x1+a)*i (y1+y1)
    A (l*l-x1-x2) (l*(x1-(l*l-x1-x2))-y1)
   else O
  else
   let l:=(y2-y1)*i (x2-x1)
   A (l*l-x1-x2) (l*(x1-(l*l-x1-x2))-y1)
structure Ok(i:Fin p->Fin p)(a b:Fin p):Prop where
 F:Hq p
 n2:P8 a b
 inv:∀x:Fin p,x≠0->x*i x=1
section
variable {i:Fin p->Fin p}{a b:Fin p}(K:Ok i a b)
include K
theorem Ok.y0{x y:Fin p}(h:On a b x y):y≠0:=by
 intro e
 subst e
 unfold On at h
 exact K.n2 x (by rw[<-h];grobner)
theorem Ok.yy{x y:Fin p}(h:On a b x y):y≠ -y:=by
 intro e
 have:=K.F.two y (by grobner)
 exact K.y0 h this
theorem Md{x1 y1 x2 y2:Fin p}(h1:On a b x1 y1)(h:kN x1 y1 x2 y2):add i a (A x1 y1) (A x2 y2)=O:=by
 obtain⟨e1,e2⟩:=h
 subst e1;subst e2
 have:=K.yy h1
 simp[add,this]
theorem Me{x1 y1 x2 y2 l:Fin p}(h1:On a b x1 y1)(h2:On a b x2 y2)(s:Sl a x1 y1 x2 y2 l)(no:¬kN x1 y1 x2 y2):
 ∃x4 y4,add i a (A x1 y1) (A x2 y2)=A x4 y4/\Th x1 y1 x2 l x4 y4:=by
 by_cases hx:x1=x2
 ·subst hx
  have hy:y1=y2:=by have:=s.1;grobner
  subst hy
  have hi:=K.inv (y1+y1) (fun h=>K.y0 h1 (K.F.two _ h))
  have hl:(x1*x1+x1*x1+x1*x1+a)*i (y1+y1)=l:=by
   have:=s.2
   have e:(y1+y1)*((x1*x1+x1*x1+x1*x1+a)*i (y1+y1))=(y1+y1)*l:=by
    have e1:(y1+y1)*((x1*x1+x1*x1+x1*x1+a)*i (y1+y1))=((y1+y1)*i (y1+y1))*(x1*x1+x1*x1+x1*x1+a):=by clear hi;grobner
    rw[e1,hi,<-this];clear e1 hi this;grobner
   exact cancel K.F (fun h=>K.y0 h1 (K.F.two _ h)) e
  refine⟨_,_,by simp only[add,xk];rw[aj ⟨trivial,K.y0 h1⟩],?_,?_⟩
  ·rw[hl]
  ·rw[hl]
 ·have hd:x2-x1≠0:=by intro h;exact hx (by grobner)
  have hi:=K.inv _ hd
  have hl:(y2-y1)*i (x2-x1)=l:=by
   have e:(x2-x1)*((y2-y1)*i (x2-x1))=(x2-x1)*l:=by
    have e1:(x2-x1)*((y2-y1)*i (x2-x1))=((x2-x1)*i (x2-x1))*(y2-y1):=by clear hi;grobner
    rw[e1,hi,s.1];clear e1 hi;grobner
   exact cancel K.F hd e
  refine⟨_,_,by simp only[add];rw[af hx],?_,?_⟩
  ·rw[hl]
  ·rw[hl]
theorem vJ{x1 y1 x2 y2:Fin p}(h1:On a b x1 y1)(h2:On a b x2 y2):
 (kN x1 y1 x2 y2/\add i a (A x1 y1) (A x2 y2)=O)\/
 (¬kN x1 y1 x2 y2/\∃l x4 y4,Sl a x1 y1 x2 y2 l/\Th x1 y1 x2 l x4 y4/\On a b x4 y4/\add i a (A x1 y1) (A x2 y2)=A x4 y4):=by
 by_cases no:kN x1 y1 x2 y2
 ·exact .inl ⟨no,Md K h1 no⟩
 ·obtain⟨l,s⟩:=Sl.ex K.F h1 h2 no
  obtain⟨x4,y4,e,t⟩:=Me K h1 h2 s no
  exact .inr ⟨no,l,x4,y4,s,t,t.on s h1,e⟩
theorem sq{P Q:Pt p}(h1:eI a b P)(h2:eI a b Q):eI a b (add i a P Q):=by
 cases P with
 |O=>exact h2
 |A x1 y1=>
  cases Q with
  |O=>exact h1
  |A x2 y2=>
   rcases vJ K h1 h2 with⟨_,e⟩|⟨_,l,x4,y4,_,_,o,e⟩
   ·rw[e];trivial
   ·rw[e];exact o
theorem vL{P Q:Pt p}(h1:eI a b P)(h2:eI a b Q):add i a P Q=add i a Q P:=by
 cases P with
 |O=>cases Q<;>rfl
 |A x1 y1=>
  cases Q with
  |O=>rfl
  |A x2 y2=>
   rcases vJ K h1 h2 with⟨n,e⟩|⟨n,l,x4,y4,s,t,o,e⟩
   ·rw[e,Md K h2 ⟨n.1.symm,by have:=n.2;grobner⟩]
   ·have n':¬kN x2 y2 x1 y1:=fun h=>n ⟨h.1.symm,by have:=h.2;grobner⟩
    obtain⟨x5,y5,e',t'⟩:=Me K h2 h1 s.symm n'
    rw[e,e']
    have t2:=t.symm s
    obtain⟨u1,u2⟩:=t2
    obtain⟨v1,v2⟩:=t'
    have:x4=x5:=by rw[u1,v1]
    subst this
    rw[u2,v2]
omit K in
theorem pH{P:Pt p}(h:eI a b P):eI a b (neg P):=by
 cases P with
 |O=>trivial
 |A x y=>simp only[neg,eI,On]at *;rw[<-h];clear h;grobner
theorem CW{P:Pt p}(h:eI a b P):add i a P (neg P)=O:=by
 cases P with
 |O=>rfl
 |A x y=>exact Md K h ⟨rfl,rfl⟩
theorem Fp{P Q:Pt p}(h1:eI a b P)(h2:eI a b Q):add i a (add i a P Q) (neg Q)=P:=by
 cases Q with
 |O=>cases P<;>rfl
 |A x2 y2=>
  cases P with
  |O=>exact CW K (P:=A x2 y2) h2
  |A x1 y1=>
   rcases vJ K h1 h2 with⟨n,e⟩|⟨n,l,x4,y4,s,t,o,e⟩
   ·rw[e]
    obtain⟨e1,e2⟩:=n
    subst e1;subst e2
    simp only[neg]
    show A x1 (- -y1)=A x1 y1
    have: - -y1=y1:=by grobner
    rw[this]
   ·rw[e]
    simp only[neg]
    obtain⟨s',t'⟩:=t.sub s
    have o2:On a b x2 (-y2):=pH (P:=A x2 y2) h2
    have n':¬kN x4 y4 x2 (-y2):=by
     rintro⟨e1,e2⟩
     have e2':y4=y2:=by clear s t s' t';grobner
     subst e1;subst e2'
     have:=(t.symm s).2
     have z:y4+y4=0:=by clear s t s' t' e2;grobner
     exact K.y0 o (K.F.two _ z)
    obtain⟨x5,y5,e',t''⟩:=Me K o o2 s' n'
    rw[e']
    obtain⟨u1,u2⟩:=t'
    obtain⟨v1,v2⟩:=t''
    have:x5=x1:=by rw[u1,v1]
    subst this
    rw[v2,<-u2]
theorem acJ{P Q:Pt p}(h1:eI a b P)(h2:eI a b Q):neg (add i a P Q)=add i a (neg P) (neg Q):=by
 cases P with
 |O=>cases Q<;>rfl
 |A x1 y1=>
  cases Q with
  |O=>rfl
  |A x2 y2=>
   have o1:On a b x1 (-y1):=pH (P:=A x1 y1) h1
   have o2:On a b x2 (-y2):=pH (P:=A x2 y2) h2
   rcases vJ K h1 h2 with⟨n,e⟩|⟨n,l,x4,y4,s,t,o,e⟩
   ·rw[e]
    simp only[neg]
    exact(Md K o1 ⟨n.1,by rw[n.2]⟩).symm
   ·rw[e]
    simp only[neg]
    have s':Sl a x1 (-y1) x2 (-y2) (-l):=by
     obtain⟨s1,s2⟩:=s
     refine⟨?_,?_⟩
     ·clear s2 t;grobner
     ·clear s1 t;grobner
    have n':¬kN x1 (-y1) x2 (-y2):=by
     rintro⟨e1,e2⟩
     exact n ⟨e1,by clear s s' t;grobner⟩
    obtain⟨x5,y5,e',t'⟩:=Me K o1 o2 s' n'
    rw[e']
    obtain⟨u1,u2⟩:=t
    obtain⟨v1,v2⟩:=t'
    have:x5=x4:=by clear u2 v2 s s' o;grobner
    subst this
    congr 1
    clear s s' u1 v1
    grobner
theorem HT{P Q R:Pt p}(h1:eI a b P)(h2:eI a b Q)(h3:eI a b R):
 add i a (add i a P Q) R=add i a P (add i a Q R):=by
 have nn:∀S:Pt p,neg (neg S)=S:=by
  intro S
  cases S with
  |O=>rfl
  |A x y=>simp only[neg];congr 1;grobner
 have oPQ:=sq K h1 h2
 have OK:=sq K h2 h3
 -- S - T = U gives back
 by_cases c1:R=P
 ·subst c1
  rw[vL K oPQ h3,vL K h2 h3]
 by_cases c2:R=neg P
 ·subst c2
  have e1:add i a (add i a P Q) (neg P)=Q:=by rw[vL K h1 h2];exact Fp K h2 h1
  rw[e1,vL K h1 OK]
  have:=Fp K h2 (pH h1)
  rw[nn]at this
  exact this.symm
 by_cases c3:R=neg Q
 ·subst c3
  rw[Fp K h1 h2,CW K h2]
  cases P<;>rfl
 by_cases c4:Q=neg P
 ·subst c4
  rw[CW K h1]
  have e:add i a P (add i a (neg P) R)=R:=by
   rw[vL K h1 (sq K h2 h3),vL K h2 h3]
   have:=Fp K h3 (pH h1)
   rw[nn]at this
   exact this
  rw[e];rfl
 by_cases c5:R=neg (add i a P Q)
 ·rw[c5,CW K oPQ,acJ K h1 h2]
  have e:add i a Q (add i a (neg P) (neg Q))=neg P:=by
   rw[vL K h2 (sq K (pH h1) (pH h2))]
   have:=Fp K (pH h1) (pH h2)
   rw[nn]at this
   exact this
  rw[e,CW K h1]
 by_cases c6:P=neg (add i a Q R)
 ·rw[c6]
  have e:add i a (neg (add i a Q R)) Q=neg R:=by
   rw[acJ K h2 h3,vL K (pH h2) (pH h3)]
   have:=Fp K (pH h3) (pH h2)
   rw[nn]at this
   exact this
  rw[e,vL K (pH h3) h3,CW K h3,vL K (pH OK) OK,CW K OK]
 cases P with
 |O=>rfl
 |A x1 y1=>
  cases Q with
  |O=>rfl
  |A x2 y2=>
   cases R with
   |O=>rw[show add i a (A x2 y2) O=A x2 y2 from rfl];cases add i a (A x1 y1) (A x2 y2)<;>rfl
   |A x3 y3=>
    simp only[neg,A.injEq,not_and]at c1 c2 c3 c4
    have GS:¬kN x1 y1 x2 y2:=fun h=>c4 h.1.symm h.2
    have OG:¬kN x2 y2 x3 y3:=fun h=>c3 h.1.symm h.2
    have n13:¬kN x1 y1 x3 y3:=fun h=>c2 h.1.symm h.2
    rcases vJ K h1 h2 with⟨n,_⟩|⟨_,l1,x4,y4,s4,t4,o4,e4⟩
    ·exact(GS n).elim
    rcases vJ K h2 h3 with⟨n,_⟩|⟨_,m1,x5,y5,s5,t5,o5,e5⟩
    ·exact(OG n).elim
    rw[e4]at c5⊢
    rw[e5]at c6⊢
    simp only[neg,A.injEq,not_and]at c5 c6
    have n43:¬kN x4 y4 x3 y3:=fun h=>c5 h.1.symm h.2
    have n15:¬kN x1 y1 x5 y5:=fun h=>c6 h.1 (by have:=h.2;grobner)
    rcases vJ K o4 h3 with⟨n,_⟩|⟨_,l2,xu,yu,su,tu,ou,eu⟩
    ·exact(n43 n).elim
    rcases vJ K h1 o5 with⟨n,_⟩|⟨_,m2,xv,yv,sv,tv,ov,ev⟩
    ·exact(n15 n).elim
    rw[eu,ev]
    obtain⟨q1,q2⟩:=afb K.F h1 h3 s4 t4 su tu s5 t5 sv tv GS n43 OG (fun h=>c1 h.1 h.2) n13
    rw[q1,q2]
end
end EC
/-! ## triples:one row of products for all of them-/
namespace EC
variable {p:Nat}[NeZero p]
structure Tr(p:Nat) where
 X:Fin p
 Y:Fin p
 Z:Fin p
 deriving DecidableEq
open Pt
def pP:Tr p->Pt p->Prop
 |t,O=>t.X=0/\t.Z=0/\t.Y≠0
 |t,A x y=>t.Z≠0/\t.X=x*t.Z/\t.Y=y*t.Z
def xG(a b3:Fin p)(s t:Tr p):Tr p:=
 let t0:=s.X*t.X
 let t1:=s.Y*t.Y
 let t2:=s.Z*t.Z
 let t3:=(s.X+s.Y)*(t.X+t.Y)-(t0+t1)
 let t4:=(s.X+s.Z)*(t.X+t.Z)-(t0+t2)
 let t5:=(s.Y+s.Z)*(t.Y+t.Z)-(t1+t2)
 let z:=b3*t2+a*t4
 let x:=t1-z
 let z:=t1+z
 let y:=x*z
 let t1:=t0+t0+t0
 let t2:=a*t2
 let t4:=b3*t4
 let t1:=t1+t2
 let t2:=a*(t0-t2)
 let t4:=t4+t2
 ⟨t3*x-t5*t4,y+t1*t4,t5*z+t3*t1⟩
def sX(a b x1 y1 x2 y2:Fin p):Fin p:=(x1*y2+x2*y1)*(y1*y2-((b+b+b)+a*(x1+x2)))-(y1+y2)*((b+b+b)*(x1+x2)+a*(x1*x2-a))
def sY(a b x1 y1 x2 y2:Fin p):Fin p:=(y1*y2-((b+b+b)+a*(x1+x2)))*(y1*y2+((b+b+b)+a*(x1+x2)))+(x1*x2+x1*x2+x1*x2+a)*((b+b+b)*(x1+x2)+a*(x1*x2-a))
def sZ(a b x1 y1 x2 y2:Fin p):Fin p:=(y1+y2)*(y1*y2+((b+b+b)+a*(x1+x2)))+(x1*y2+x2*y1)*(x1*x2+x1*x2+x1*x2+a)
theorem aq0(a b:Fin p)(x1 y1 z1 x2 y2 z2:Fin p):
 xG a (b+b+b) ⟨x1*z1,y1*z1,z1⟩ ⟨x2*z2,y2*z2,z2⟩=
  ⟨(z1*z2)*(z1*z2)*sX a b x1 y1 x2 y2,(z1*z2)*(z1*z2)*sY a b x1 y1 x2 y2,(z1*z2)*(z1*z2)*sZ a b x1 y1 x2 y2⟩:=by
 simp only[xG,sX,sY,sZ,Tr.mk.injEq]
 refine⟨?_,?_,?_⟩<;>grobner
theorem aqY(a b3:Fin p)(y1 x2 y2 z2:Fin p):xG a b3 ⟨0,y1,0⟩ ⟨x2,y2,z2⟩=⟨y1*y1*y2*x2,y1*y1*y2*y2,y1*y1*y2*z2⟩:=by
 simp only[xG,Tr.mk.injEq]
 refine⟨?_,?_,?_⟩<;>grobner
theorem aqZ(a b3:Fin p)(x1 y1 z1 y2:Fin p):xG a b3 ⟨x1,y1,z1⟩ ⟨0,y2,0⟩=⟨y2*y2*y1*x1,y2*y2*y1*y1,y2*y2*y1*z1⟩:=by
 simp only[xG,Tr.mk.injEq]
 refine⟨?_,?_,?_⟩<;>grobner
theorem apT{a b x1 y1 x2 y2 l x4 y4:Fin p}(o:On a b x1 y1)(s:Sl a x1 y1 x2 y2 l)(t:Th x1 y1 x2 l x4 y4):
 sX a b x1 y1 x2 y2=x4*sZ a b x1 y1 x2 y2/\sY a b x1 y1 x2 y2=y4*sZ a b x1 y1 x2 y2:=by
 obtain⟨s1,s2⟩:=s
 obtain⟨t1,t2⟩:=t
 unfold On at o
 obtain rfl:y2=y1+l*(x2-x1):=by clear s2 t1 t2 o;grobner
 obtain rfl:a=l*(y1+(y1+l*(x2-x1)))-(x1*x1+x1*x2+x2*x2):=by clear s1 t1 t2 o;grobner
 obtain⟨a',ha⟩:=aa (l*(y1+(y1+l*(x2-x1)))-(x1*x1+x1*x2+x2*x2))
 rw[<-ha]at o⊢
 obtain rfl:b=y1*y1-x1*x1*x1-a'*x1:=by clear s1 s2 t1 t2 ha;grobner
 clear o s1 s2
 subst t2;subst t1;subst ha
 unfold sX sY sZ
 refine⟨?_,?_⟩<;>grobner
theorem s_Z{a b x1 y1 x2 y2 m x6 y6:Fin p}(o:On a b x1 y1)(s:Sl a x1 y1 x2 (-y2) m)(t:Th x1 y1 x2 m x6 y6):
 sZ a b x1 y1 x2 y2=y6*((x2-x1)*(x2-x1)*(x2-x1)):=by
 obtain⟨s1,s2⟩:=s
 obtain⟨t1,t2⟩:=t
 unfold On at o
 obtain rfl:y2= -y1-m*(x2-x1):=by clear s2 t1 t2 o;grobner
 obtain rfl:a=m*(y1+(y1+m*(x2-x1)))-(x1*x1+x1*x2+x2*x2):=by clear s1 t1 t2 o;grobner
 obtain⟨a',ha⟩:=aa (m*(y1+(y1+m*(x2-x1)))-(x1*x1+x1*x2+x2*x2))
 rw[<-ha]at o⊢
 obtain rfl:b=y1*y1-x1*x1*x1-a'*x1:=by clear s1 s2 t1 t2 ha;grobner
 clear o s1 s2
 subst t2;subst t1;subst ha
 unfold sZ
 grobner
theorem apR{a b x y:Fin p}(o:On a b x y):sZ a b x y x y=(y+y)*((y+y)*(y+y)):=by
 unfold On at o
 obtain rfl:b=y*y-x*x*x-a*x:=by grobner
 clear o
 unfold sZ;grobner
theorem apS{a b x y l x4 y4:Fin p}(o:On a b x y)(s:Sl a x y x y l)(t:Th x y x l x4 y4):
 sX a b x y x (-y)=0/\sZ a b x y x (-y)=0/\sY a b x y x (-y)=((y+y)*((y+y)*(y+y)))*y4:=by
 obtain⟨_,s2⟩:=s
 obtain⟨t1,t2⟩:=t
 unfold On at o
 obtain rfl:a=l*(y+y)-(x*x+x*x+x*x):=by clear t1 t2 o;grobner
 obtain⟨a',ha⟩:=aa (l*(y+y)-(x*x+x*x+x*x))
 rw[<-ha]at o⊢
 obtain rfl:b=y*y-x*x*x-a'*x:=by clear s2 t1 t2 ha;grobner
 clear o s2
 subst t2;subst t1;subst ha
 unfold sX sY sZ
 refine⟨?_,?_,?_⟩<;>grobner
section
variable {i:Fin p->Fin p}{a b:Fin p}(K:Ok i a b)
include K
theorem Ok.kK{x y:Fin p}(hx:x≠0)(hy:y≠0):x*y≠0:=by
 intro h
 rcases K.F.Cc _ _ h with h|h
 ·exact hx h
 ·exact hy h
theorem Ok.yd{x y:Fin p}(h:On a b x y):y+y≠0:=fun e=>K.y0 h (K.F.two _ e)
theorem aem{s t:Tr p}{P Q:Pt p}(h1:eI a b P)(h2:eI a b Q)(r1:pP s P)(r2:pP t Q):
 pP (xG a (b+b+b) s t) (add i a P Q):=by
 obtain⟨X1,Y1,Z1⟩:=s
 obtain⟨X2,Y2,Z2⟩:=t
 cases P with
 |O=>
  obtain⟨e1,e2,e3⟩:=r1
  simp only at e1 e2 e3
  subst e1;subst e2
  rw[aqY]
  cases Q with
  |O=>
   obtain⟨g1,g2,g3⟩:=r2
   simp only at g1 g2 g3
   subst g1;subst g2
   exact⟨by grobner,by grobner,K.kK (K.kK (K.kK e3 e3) g3) g3⟩
  |A x y=>
   obtain⟨g1,g2,g3⟩:=r2
   simp only at g1 g2 g3
   subst g2;subst g3
   exact⟨K.kK (K.kK (K.kK e3 e3) (K.kK (K.y0 h2) g1)) g1,by simp only;grobner,by simp only;grobner⟩
 |A x1 y1=>
  obtain⟨e1,e2,e3⟩:=r1
  simp only at e1 e2 e3
  subst e2;subst e3
  cases Q with
  |O=>
   obtain⟨g1,g2,g3⟩:=r2
   simp only at g1 g2 g3
   subst g1;subst g2
   rw[aqZ]
   exact⟨K.kK (K.kK (K.kK g3 g3) (K.kK (K.y0 h1) e1)) e1,by simp only;grobner,by simp only;grobner⟩
  |A x2 y2=>
   obtain⟨g1,g2,g3⟩:=r2
   simp only at g1 g2 g3
   subst g2;subst g3
   rw[aq0]
   have hz:(Z1*Z2)*(Z1*Z2)≠0:=K.kK (K.kK e1 g1) (K.kK e1 g1)
   generalize (Z1*Z2)*(Z1*Z2)=z at hz⊢
   rcases vJ K h1 h2 with⟨n,e⟩|⟨n,l,x4,y4,sl,th,o,e⟩
   ·rw[e]
    obtain⟨n1,n2⟩:=n
    subst n1;subst n2
    have no:¬kN x1 y1 x1 y1:=fun h=>K.yy h1 h.2
    rcases vJ K h1 h1 with⟨n,_⟩|⟨_,l,x4,y4,sl,th,o,_⟩
    ·exact(no n).elim
    obtain⟨q1,q2,q3⟩:=apS h1 sl th
    rw[q1,q2,q3]
    have hd:=K.yd h1
    exact⟨by grobner,by grobner,K.kK hz (K.kK (K.kK hd (K.kK hd hd)) (K.y0 o))⟩
   ·rw[e]
    obtain⟨q1,q2⟩:=apT h1 sl th
    have hZ:sZ a b x1 y1 x2 y2≠0:=by
     by_cases hx:x1=x2
     ·subst hx
      have hy:y2=y1:=by have:=sl.1;grobner
      subst hy
      have hd:=K.yd h1
      rw[apR h1]
      exact K.kK hd (K.kK hd hd)
     ·have RE:On a b x2 (-y2):=pH (P:=A x2 y2) h2
      have no:¬kN x1 y1 x2 (-y2):=fun h=>hx h.1
      rcases vJ K h1 RE with⟨n,_⟩|⟨_,m,x6,y6,sm,tm,om,_⟩
      ·exact(no n).elim
      rw[s_Z h1 sm tm]
      have hd:x2-x1≠0:=by intro h;exact hx (by clear sl th sm tm q1 q2;grobner)
      exact K.kK (K.y0 om) (K.kK (K.kK hd hd) hd)
    refine⟨K.kK hz hZ,?_,?_⟩
    ·simp only;rw[q1];clear q1 q2 sl th hZ;grobner
    ·simp only;rw[q2];clear q1 q2 sl th hZ;grobner
end
end EC
namespace Pr
def ai(p:Nat):Prop:=2<=p/\∀m,m∣p->m=1\/m=p
theorem ai.coprime{p a:Nat}(hp:ai p)(h:¬p∣a):Nat.Coprime p a:=by
 rcases hp.2 _ (LX p a)with h1|h1
 ·exact h1
 ·exact(h (h1▸LY p a)).elim
theorem ai.dvd_mul{p a b:Nat}(hp:ai p)(h:p∣a*b):p∣a\/p∣b:=by
 by_cases ha:p∣a
 ·exact .inl ha
 ·exact .inr ((hp.coprime ha).dvd_of_dvd_mul_left h)
theorem aad(n:Nat):2<=n->∃q,ai q/\q∣n:=by
 induction n using Nat.strongRecOn with
 |ind n ih=>
  intro hn
  by_cases hp:ai n
  ·exact⟨n,hp,Yu n⟩
  ·have:∃m,m∣n/\m≠1/\m≠n:=by
    apply Hn
    intro wT
    apply hp
    refine⟨hn,fun m hm=> ?_⟩
    by_cases h1:m=1
    ·exact .inl h1
    ·by_cases h2:m=n
     ·exact .inr h2
     ·exact(wT ⟨m,hm,h1,h2⟩).elim
   obtain⟨m,hm,h1,h2⟩:=this
   have hle:=mg (by omega) hm
   have h0:m≠0:=by
    rintro rfl
    have:=Nat.eq_zero_of_zero_dvd hm
    omega
   obtain⟨q,hq,Gx⟩:=ih m (by omega) (by omega)
   exact⟨q,hq,CQ Gx hm⟩
theorem Vy{n:Nat}(hn:2<=n)(h:∀q,ai q->q∣n->n<q*q):ai n:=by
 refine⟨hn,fun m hm=> ?_⟩
 by_cases h1:m=1
 ·exact .inl h1
 right
 obtain⟨c,hc⟩:=hm
 by_cases eA:c=1
 ·subst eA;omega
 exfalso
 have m0:m≠0:=by rintro rfl;simp at hc;omega
 have c0:c≠0:=by rintro rfl;simp at hc;omega
 obtain⟨q,hq,Gx⟩:=aad m (by omega)
 obtain⟨r,hr,kW⟩:=aad c (by omega)
 have q1:=h q hq (hc▸CQ Gx (Yt _ _))
 have r1:=h r hr (hc▸CQ kW (Ys _ _))
 have hqr:q*r<=n:=by
  rw[hc]
  exact mV (mg (by omega) Gx) (mg (by omega) kW)
 rcases Nat.le_total q r with h|h
 ·have:=xS q h
  omega
 ·have:=ea r h
  omega
/-! binomials-/
def ch:Nat->Nat->Nat
 |_,0=>1
 |0,_+1=>0
 |n+1,k+1=>ch n k+ch n (k+1)
theorem Ii:∀n k,n<k->ch n k=0
 |0,k+1,_=>rfl
 |n+1,k+1,h=>by simp[ch,Ii n k (by omega),Ii n (k+1) (by omega)]
theorem Q3:∀n,ch n n=1
 |0=>rfl
 |n+1=>by simp[ch,Q3 n,Ii n (n+1) (by omega)]
theorem MF:∀n k,ch (n+1) (k+1)*(k+1)=(n+1)*ch n k
 |0,0=>rfl
 |0,k+1=>by simp[ch]
 |n+1,0=>by
  have:=MF n 0
  simp[ch]at this⊢
  omega
 |n+1,k+1=>by
  have h1:=MF n k
  have h2:=MF n (k+1)
  show(ch (n+1) (k+1)+ch (n+1) (k+2))*(k+2)=(n+2)*ch (n+1) (k+1)
  have e:ch (n+1) (k+1)=ch n k+ch n (k+1):=rfl
  have:(ch (n+1) (k+1)+ch (n+1) (k+2))*(k+2)=ch (n+1) (k+1)*(k+1)+ch (n+1) (k+1)+ch (n+1) (k+2)*(k+2):=by
   rw[cw,show k+2=k+1+1 from rfl,lL (ch (n+1) (k+1)) (k+1) 1,fh]
  rw[this,h1,h2,Yq,<-lL,<-e,cw (n+1) 1,fN]
def sm(f:Nat->Nat):Nat->Nat
 |0=>0
 |n+1=>sm f n+f n
theorem VY{f g:Nat->Nat}:∀n,(∀i,i<n->f i=g i)->sm f n=sm g n
 |0,_=>rfl
 |n+1,h=>by simp only[sm];rw[VY n (fun i hi=>h i (by omega)),h n (by omega)]
theorem adM(f g:Nat->Nat):∀n,sm (fun i=>f i+g i) n=sm f n+sm g n
 |0=>rfl
 |n+1=>by simp only[sm,adM f g n];omega
theorem adO(c:Nat)(f:Nat->Nat):∀n,sm (fun i=>f i*c) n=sm f n*c
 |0=>by simp[sm]
 |n+1=>by simp only[sm,adO c f n,cw]
theorem O'(f:Nat->Nat):∀n,sm f (n+1)=f 0+sm (fun i=>f (i+1)) n
 |0=>by simp[sm]
 |n+1=>by
  have:=O' f n
  show sm f (n+1)+f (n+1)=_
  rw[this]
  simp only[sm]
  omega
theorem Y6(x:Nat):∀n,(x+1)^n=sm (fun k=>ch n k*x^k) (n+1)
 |0=>rfl
 |n+1=>by
  rw[br,Y6 x n,lL,fh,<-adO,O' (fun k=>ch (n+1) k*x^k) (n+1)]
  have e1:sm (fun i=>ch n i*x^i*x) (n+1)=sm (fun i=>ch n i*x^(i+1)) (n+1):=
   VY _ fun i _=>by rw[br,eZ]
  have e2:sm (fun k=>ch n k*x^k) (n+1)=1+sm (fun k=>ch n (k+1)*x^(k+1)) (n+1):=by
   rw[O']
   have:sm (fun k=>ch n (k+1)*x^(k+1)) (n+1)=sm (fun i=>ch n (i+1)*x^(i+1)) n:=by
    show _+ch n (n+1)*x^(n+1)=_
    rw[Ii n (n+1) (by omega)];simp
   rw[this];simp[ch]
  rw[e1,e2]
  have e3:sm (fun i=>ch (n+1) (i+1)*x^(i+1)) (n+1)=sm (fun i=>ch n i*x^(i+1)) (n+1)+sm (fun k=>ch n (k+1)*x^(k+1)) (n+1):=by
   rw[<-adM]
   exact VY _ fun i _=>by show(ch n i+ch n (i+1))*_=_;rw[cw]
  rw[e3]
  simp[ch]
  omega
theorem adN{p:Nat}{f:Nat->Nat}:∀n,(∀i,i<n->p∣f i)->p∣sm f n
 |0,_=>⟨0,rfl⟩
 |n+1,h=>Nat.dvd_add (adN n fun i hi=>h i (by omega)) (h n (by omega))
theorem ZI{p:Nat}(hp:ai p)(k:Nat)(h0:0<k)(h1:k<p):p∣ch p k:=by
 obtain⟨n,rfl⟩:∃n,p=n+1:=⟨p-1,by omega⟩
 obtain⟨j,rfl⟩:∃j,k=j+1:=⟨k-1,by omega⟩
 have h:=MF n j
 have:(n+1)∣ch (n+1) (j+1)*(j+1):=⟨_,h⟩
 rcases hp.dvd_mul this with h|h
 ·exact h
 ·have:=mg (by omega) h
  omega
theorem Rk{p:Nat}(hp:ai p):∀x,x^p%p=x%p
 |0=>by rw[Nat.zero_pow (by have:=hp.1;omega)]
 |x+1=>by
  have h2:=hp.1
  obtain⟨n,hn⟩:∃n,p=n+1:=⟨p-1,by omega⟩
  have e:(x+1)^p=1+sm (fun i=>ch p (i+1)*x^(i+1)) n+x^p:=by
   rw[Y6,O']
   have:sm (fun i=>ch p (i+1)*x^(i+1)) p=sm (fun i=>ch p (i+1)*x^(i+1)) n+x^p:=by
    conv=>lhs;rw[hn]
    simp only[sm]
    rw[<-hn,Q3];simp
   rw[this];simp[ch];omega
  have hd:p∣sm (fun i=>ch p (i+1)*x^(i+1)) n:=
   adN _ fun i hi=>CQ (ZI hp (i+1) (by omega) (by omega)) (Yt _ _)
  obtain⟨c,hc⟩:=hd
  rw[e,hc,sf,Rk hp x,<-sf,Yq,CO,oB]
theorem Iv{p x:Nat}(hp:ai p)(h:¬p∣x):x^(p-1)%p=1:=by
 have h2:=hp.1
 have h1:=Rk hp x
 have hx:1<=x:=by
  rcases Nat.eq_zero_or_pos x with rfl|h0
  ·exact(h (P0 p)).elim
  ·exact h0
 have e:x^p=x^(p-1)*x:=by
  conv=>lhs;rw[show p=p-1+1 from by omega]
  rw[br]
 have ju:1<=x^(p-1):=Nat.one_le_pow _ _ hx
 have hd:p∣(x^(p-1)-1)*x:=by
  rw[Fl,fN,<-e]
  exact vh (YB h1)
 rcases hp.dvd_mul hd with h3|h3
 ·obtain⟨c,hc⟩:=h3
  have:x^(p-1)=1+p*c:=by omega
  rw[this,CO]
  exact aO (by omega)
 ·exact(h h3).elim
/-! powers and orders modulo q-/
theorem Vu{a q m:Nat}(h:a^m%q=1%q):∀c,a^(m*c)%q=1%q
 |0=>by simp
 |c+1=>by rw[lL,fh,dV,kM,Vu h c,h,<-kM]
theorem aoR{a q:Nat}(hq:2<=q)(m:Nat):∀n,a^m%q=1->a^n%q=1->a^Nat.gcd m n%q=1:=by
 have one:1%q=1:=aO (by omega)
 induction m using Nat.strongRecOn with
 |ind m ih=>
  intro n hm hn
  by_cases h0:m=0
  ·subst h0;simpa using hn
  ·rw[HD]
   refine ih (n%m) (ax _ (by omega)) m ?_ hm
   have e:a^n=a^(n%m)*a^(m*(n/m)):=by rw[<-dV,HF]
   rw[e,kM,Vu (by rw[hm,one]) (n/m),one,fh,xR]at hn
   exact hn
theorem Z_{r e m d:Nat}(hr:ai r)(h:d∣r^(e+1)*m)(hn:¬r^(e+1)∣d):d∣r^e*m:=by
 obtain⟨c,hc⟩:=h
 by_cases kW:r∣c
 ·obtain⟨c',rfl⟩:=kW
  refine⟨c',?_⟩
  apply Nat.eq_of_mul_eq_mul_left (show 0<r by have:=hr.1;omega)
  rw[<-eZ,bJ r (r^e),<-br,hc,L6]
 ·exfalso
  apply hn
  have yD:Nat.Coprime (r^(e+1)) c:=Nat.Coprime.pow_left _ (hr.coprime kW)
  exact yD.dvd_of_dvd_mul_right (⟨m,hc.symm⟩:r^(e+1)∣d*c)
theorem aoQ{n r e m a q:Nat}(hr:ai r)(hn:n-1=r^(e+1)*m)(ha:a^(n-1)%n=1)(hg:Nat.gcd (a^(r^e*m)%n+(n-1)) n=1)
 (pC:2<=n) (hq:ai q) (fW:q∣n):r^(e+1)∣q-1:=by
 have q2:=hq.1
 have one:1%q=1:=aO (by omega)
 have red:∀x y,x%n=y->x%q=y%q:=by
  intro x y h
  rw[<-h,HH _ fW]
 have ha':a^(n-1)%q=1:=by rw[red _ _ ha,one]
 have hqa:¬q∣a:=by
  intro h
  have n0:n-1≠0:=by omega
  obtain⟨k,hk⟩:∃k,n-1=k+1:=⟨n-2,by omega⟩
  have:q∣a^(n-1):=by rw[hk,br];exact CQ h (Ys _ _)
  have:=L4 this
  omega
 have hf:=Iv hq hqa
 have hd:=aoR q2 _ _ ha' hf
 apply Hn
 intro wT
 have h1:Nat.gcd (n-1) (q-1)∣r^e*m:=by
  refine Z_ hr (hn▸LX _ _) (fun h=>wT (CQ h (LY _ _)))
 obtain⟨c,hc⟩:=h1
 have h2:a^(r^e*m)%q=1:=by
  rw[hc,Vu (by rw[hd,one]) c,one]
 have h3:q∣a^(r^e*m)%n+(n-1):=by
  have e1:(a^(r^e*m)%n)%q=1:=by rw[HH _ fW,h2]
  obtain⟨k,hk⟩:=fW
  have dM:n-1+1=q*k:=by omega
  apply vh
  have e2:a^(r^e*m)%n=1+q*(a^(r^e*m)%n/q):=by
   have:=HF (a^(r^e*m)%n) q
   omega
  rw[e2,show 1+q*(a^(r^e*m)%n/q)+(n-1)=(n-1+1)+q*(a^(r^e*m)%n/q) by omega,dM,<-lL]
  exact Nat.mul_mod_right _ _
 have h4:q∣1:=hg▸LW h3 fW
 have:=mg (by omega) h4
 omega
def pm(m:Nat):Nat->Nat->Nat->Nat->Nat
 |0,_,_,acc=>acc
 |f+1,b,e,acc=>pm m f (b*b%m) (e/2) (if e%2=1 then acc*b%m else acc)
theorem Vs{m:Nat}:∀f b e acc,e<2^f->acc<m->pm m f b e acc=acc*b^e%m
 |0,b,e,acc,he,ha=>by
  have:e=0:=by simpa using he
  subst this
  simp[pm,aO ha]
 |f+1,b,e,acc,he,ha=>by
  have kT:e/2<2^f:=by rw[br]at he;omega
  have hb:(b*b%m)^(e/2)%m=b^(2*(e/2))%m:=by
   rw[<-Nat.pow_mod,jS,Nat.pow_two]
  unfold pm
  by_cases h:e%2=1
  ·rw[aj h,Vs f _ _ _ kT (ax _ (by omega)),tT,kM,hb,<-kM,eZ,<-YA]
   congr 3
   omega
  ·rw[af h,Vs f _ _ _ kT ha,kM,hb,<-kM]
   congr 3
   omega
def G2(b e m:Nat):Nat:=pm m (e.log2+1) (b%m) e (1%m)
theorem O1{b e m:Nat}(hm:0<m):G2 b e m=b^e%m:=by
 unfold G2
 rw[Vs _ _ _ _ HE (ax _ hm)]
 rw[tT,fN,<-Nat.pow_mod]
def ub(n r e a:Nat):Bool:=
 let m:=(n-1)/r^(e+1)
 (n-1==r^(e+1)*m)&&G2 a (n-1) n==1&&Nat.gcd (G2 a (r^e*m) n+(n-1)) n==1
theorem ahs{n r e a q:Nat}(hn:2<=n)(hr:ai r)(h:ub n r e a=true)(hq:ai q)(fW:q∣n):r^(e+1)∣q-1:=by
 simp only[ub,dq,vT]at h
 obtain⟨⟨h1,h2⟩,h3⟩:=h
 rw[O1 (by omega)]at h2 h3
 exact aoQ hr h1 h2 h3 hn hq fW
def Fz(n:Nat):List (Nat×Nat×Nat)->Nat->Bool
 | [],F=>decide (n<(F+1)*(F+1))
 |(r,e,a)::l,F=>ub n r e a&&Nat.gcd F (r^(e+1))==1&&Fz n l (F*r^(e+1))
theorem ac8{n:Nat}(hn:2<=n){q:Nat}(hq:ai q)(fW:q∣n):∀ (l:List (Nat×Nat×Nat)) (F:Nat),(∀x,x∈l->ai x.1)->F∣q-1->Fz n l F=true->n<q*q
 | [],F,_,hF,h=>by
   simp only[Fz,qT]at h
   have q2:=hq.1
   have:=mg (by omega) hF
   have h1:F+1<=q:=by omega
   exact cg h (mV h1 h1)
 |(r,e,a)::l,F,hp,hF,h=>by
  simp only[Fz,dq,vT]at h
  obtain⟨⟨h1,h2⟩,h3⟩:=h
  refine ac8 hn hq fW l _ (fun x hx=>hp x (.tail _ hx)) ?_ h3
  exact Nat.Coprime.mul_dvd_of_dvd_of_dvd h2 hF (ahs hn (hp (r,e,a) (.head _)) h1 hq fW)
theorem aoP{n:Nat}(l:List (Nat×Nat×Nat))(hp:∀x,x∈l->ai x.1)(h:(decide (2<=n)&&Fz n l 1)=true):ai n:=by
 simp only[dq,qT]at h
 exact Vy h.1 fun q hq fW=>ac8 h.1 hq fW l 1 hp (Nat.one_dvd _) h.2
def Hd(n:Nat):Nat->Nat->Bool
 |0,d=>decide (n<d*d)
 |f+1,d=>if n<d*d then true else if n%d=0 then false else Hd n f (d+1)
theorem aek{n:Nat}:∀f d,Hd n f d=true->∀q,ai q->q∣n->d<=q->n<q*q
 |0,d,h,q,_,_,hd=>by
  simp only[Hd,qT]at h
  exact cg h (mV hd hd)
 |f+1,d,h,q,hq,fW,hd=>by
  unfold Hd at h
  split at h
  ·rename_i h1
   exact cg h1 (mV hd hd)
  ·split at h
   ·cases h
   ·rename_i h2
    by_cases e:d=q
    ·subst e
     exact(h2 (L4 fW)).elim
    ·exact aek f (d+1) h q hq fW (by omega)
theorem aqV{n:Nat}(f:Nat)(h:(decide (2<=n)&&Hd n f 2)=true):ai n:=by
 simp only[dq,qT]at h
 exact Vy h.1 fun q hq fW=>aek f 2 h.2 q hq fW hq.1
end Pr
namespace EC
open Pr
variable {p:Nat}[NeZero p]
omit [NeZero p] in
theorem val_mul(x y:Fin p):(x*y).val=x.val*y.val%p:=rfl
omit [NeZero p] in
theorem val_add(x y:Fin p):(x+y).val=(x.val+y.val)%p:=rfl
theorem val_zero:(0:Fin p).val=0:=by simp
theorem Br{x:Fin p}(h:p∣x.val):x=0:=by
 apply pM
 rw[val_zero]
 rcases Nat.eq_zero_or_pos x.val with h0|h0
 ·exact h0
 ·have:=mg h0 h
  omega
theorem val_one(h:2<=p):(1:Fin p).val=1:=by
 show 1%p=1
 exact aO (by omega)
def aN(x:Fin p):Fin p:=⟨G2 x.val (p-2) p,by
 rw[O1 (vF (HL p))];exact ax _ (vF (HL p))⟩
theorem KO(hp:ai p){x:Fin p}(hx:x≠0):x*aN x=1:=by
 have h2:=hp.1
 apply pM
 rw[val_one h2,val_mul]
 simp only[aN]
 rw[O1 (by omega),kM,xR,<-kM,<-YA,show(p-2).succ=p-1 by omega]
 exact Iv hp fun h=>hx (Br h)
theorem Iu(hp:ai p)(h2:p≠2):Hq p where
 Cc:=fun x y h=>by
  have h1:=aK Fin.val h
  rw[val_mul,val_zero]at h1
  rcases hp.dvd_mul (vh h1)with h|h
  ·exact .inl (Br h)
  ·exact .inr (Br h)
 two:=fun x h=>by
  have h1:=aK Fin.val h
  rw[val_add,val_zero]at h1
  have:p∣2*x.val:=by rw[YD];exact vh h1
  rcases hp.dvd_mul this with h|h
  ·have:=mg (by omega) h
   have:=hp.1
   omega
  ·exact Br h
 inv:=fun x hx=>⟨_,KO hp hx⟩
theorem al7{a b:Fin p}(hp:ai p)(h2:p≠2)(hn:P8 a b):Ok aN a b:=⟨Iu hp h2,hn,fun _ hx=>KO hp hx⟩
def smul(i:Fin p->Fin p)(a:Fin p):Nat->Pt p->Pt p
 |0,_=> .O
 |n+1,P=>add i a (smul i a n P) P
section
variable {i:Fin p->Fin p}{a b:Fin p}(K:Ok i a b)
include K
theorem nM{P:Pt p}(h:eI a b P):∀n,eI a b (smul i a n P)
 |0=>trivial
 |n+1=>sq K (nM h n) h
omit K in
theorem Mc(P:Pt p):add i a P .O=P:=by cases P<;>rfl
theorem smul_add{P:Pt p}(h:eI a b P)(m:Nat):∀n,smul i a (m+n) P=add i a (smul i a m P) (smul i a n P)
 |0=>(Mc _).symm
 |n+1=>by
  show add i a (smul i a (m+n) P) P=_
  rw[smul_add h m n,HT K (nM K h m) (nM K h n) h]
  rfl
theorem V3{P:Pt p}(h:eI a b P)(m:Nat):∀n,smul i a (m*n) P=smul i a n (smul i a m P)
 |0=>rfl
 |n+1=>by
  rw[lL,fh,smul_add K h,V3 h m n]
  rfl
theorem Lb{P:Pt p}(h:eI a b P)(m:Nat):smul i a (2*m) P=add i a (smul i a m P) (smul i a m P):=by
 rw[YD,smul_add K h]
theorem YO{P Q R S:Pt p}(h1:eI a b P)(h2:eI a b Q)(h3:eI a b R)(h4:eI a b S):
 add i a (add i a P Q) (add i a R S)=add i a (add i a P R) (add i a Q S):=by
 rw[HT K h1 h2 (sq K h3 h4),<-HT K h2 h3 h4,vL K h2 h3,HT K h3 h2 h4,<-HT K h1 h3 (sq K h2 h4)]
omit K in
theorem VZ:∀n,smul i a n (.O:Pt p)= .O
 |0=>rfl
 |n+1=>by show add i a (smul i a n .O) .O=_;rw[VZ n];rfl
theorem adR{P:Pt p}(h:eI a b P){n:Nat}(hn:smul i a n P= .O)(m:Nat):smul i a (m%n) P=smul i a m P:=by
 conv=>rhs;rw[<-HF m n,smul_add K h,V3 K h,hn,VZ,Mc]
end
end EC
section
/-! no points of order two:x^p modulo the cubic-/
namespace EC
open Pr
variable {p:Nat}[NeZero p]
structure T3 where
 a:Nat
 b:Nat
 c:Nat
def nf(n:Nat):Fin p:=Fin.ofNat p n
theorem iA(n:Nat):(nf (n%p):Fin p)=nf n:=by apply pM;simp[nf,Fin.ofNat]
theorem jm(m n:Nat):(nf (m*n):Fin p)=nf m*nf n:=by apply pM;simp[nf,Fin.ofNat,val_mul,kM]
theorem mN(m n:Nat):(nf (m+n):Fin p)=nf m+nf n:=by apply pM;simp[nf,Fin.ofNat,val_add,sf]
def cl(x:Fin p):Nat->Fin p
 |0=>1
 |n+1=>cl x n*x
theorem Rq(z:Fin p):∀k,cl (z*z) k=cl z (2*k)
 |0=>rfl
 |k+1=>by
  show cl (z*z) k*(z*z)=cl z (2*k)*z*z
  rw[Rq z k];grobner
theorem AW(x:Fin p):(nf x.val:Fin p)=x:=by apply pM;simp[nf,Fin.ofNat,aO x.isLt]
theorem qH(n:Nat)(h:n<p):(nf n:Fin p).val=n:=by simp[nf,Fin.ofNat,aO h]
def T3.ev(t:Fin p)(x:T3):Fin p:=nf x.a+nf x.b*t+nf x.c*(t*t)
def T3.mul(p A B:Nat)(x y:T3):T3:=
 let c3:=(x.b*y.c+x.c*y.b)%p
 let c4:=x.c*y.c%p
 ⟨(x.a*y.a+c3*B)%p,(x.a*y.b+x.b*y.a+c3*A+c4*B)%p,(x.a*y.c+x.b*y.b+x.c*y.a+c4*A)%p⟩
theorem T3.MO{A B:Nat}{t:Fin p}(h:t*t*t=nf A*t+nf B)(x y:T3):(T3.mul p A B x y).ev t=x.ev t*y.ev t:=by
 simp only[T3.mul,T3.ev,iA,mN,jm]
 generalize (nf x.a:Fin p)=x0
 generalize (nf x.b:Fin p)=x1
 generalize (nf x.c:Fin p)=x2
 generalize (nf y.a:Fin p)=y0
 generalize (nf y.b:Fin p)=y1
 generalize (nf y.c:Fin p)=y2
 generalize (nf A:Fin p)=A' at h⊢
 generalize (nf B:Fin p)=B' at h⊢
 obtain rfl:B'=t*t*t-A'*t:=by grobner
 clear h
 grobner
def T3.pw(p A B:Nat):Nat->T3->Nat->T3->T3
 |0,_,_,acc=>acc
 |f+1,b,e,acc=>T3.pw p A B f (T3.mul p A B b b) (e/2) (if e%2=1 then T3.mul p A B acc b else acc)
theorem T3.Q9{A B:Nat}{t:Fin p}(h:t*t*t=nf A*t+nf B):∀f b e acc,e<2^f->(T3.pw p A B f b e acc).ev t=acc.ev t*cl (b.ev t) e
 |0,b,e,acc,he=>by
  have:e=0:=by simpa using he
  subst this
  show acc.ev t=acc.ev t*1
  grobner
 |f+1,b,e,acc,he=>by
  have kT:e/2<2^f:=by rw[br]at he;omega
  unfold T3.pw
  by_cases h1:e%2=1
  ·rw[aj h1,T3.Q9 h f _ _ _ kT,T3.MO h,T3.MO h,Rq]
   have:cl (b.ev t) e=cl (b.ev t) (2*(e/2))*b.ev t:=by
    conv=>lhs;rw[show e=2*(e/2)+1 from by omega]
    rfl
   rw[this]
   grobner
  ·rw[af h1,T3.Q9 h f _ _ _ kT,T3.MO h,Rq]
   congr 2
   omega
def mY(p a b:Nat)(u:T3):Bool:=
 let A:=p-a
 let B:=p-b
 let r:=T3.pw p A B (p.log2+1) ⟨0,1,0⟩ p ⟨1,0,0⟩
 let v:=T3.mul p A B u ⟨r.a,r.b+(p-1),r.c⟩
 v.a%p==1&&v.b%p==0&&v.c%p==0
theorem Rp{x:Fin p}:∀n,(cl x n).val=x.val^n%p
 |0=>rfl
 |n+1=>by show(cl x n*x).val=_;rw[val_mul,Rp n,br,tT]
theorem Iy(hp:ai p)(x:Fin p):cl x p=x:=by
 apply pM
 rw[Rp,Rk hp,aO x.isLt]
theorem KQ{a:Nat}(h:a<=p):(nf (p-a):Fin p)= -nf a:=by
 have:(nf (p-a):Fin p)+nf a=0:=by
  rw[<-mN,Nat.sub_add_cancel h]
  apply pM
  simp[nf,Fin.ofNat]
 grobner
theorem alV{a b:Nat}(hp:ai p)(ha:a<p)(hb:b<p){u:T3}(h:mY p a b u=true):P8 (nf a:Fin p) (nf b):=by
 intro t ht
 have gJ:t*t*t=nf (p-a)*t+nf (p-b):=by
  rw[KQ (by omega),KQ (by omega)]
  grobner
 simp only[mY,dq,vT]at h
 have e1:=T3.Q9 gJ (p.log2+1) ⟨0,1,0⟩ p ⟨1,0,0⟩ HE
 generalize T3.pw p (p-a) (p-b) (p.log2+1) ⟨0,1,0⟩ p ⟨1,0,0⟩=r at e1 h
 have hX:T3.ev t ⟨0,1,0⟩=t:=by
  have h0:(nf 0:Fin p)=0:=rfl
  have h1:(nf 1:Fin p)=1:=rfl
  simp only[T3.ev,h0,h1]
  grobner
 have h1:T3.ev t ⟨1,0,0⟩=1:=by
  have h0:(nf 0:Fin p)=0:=rfl
  have h1:(nf 1:Fin p)=1:=rfl
  simp only[T3.ev,h0,h1]
  grobner
 rw[hX,h1,Iy hp]at e1
 have e2:=T3.MO gJ u ⟨r.a,r.b+(p-1),r.c⟩
 generalize T3.mul p (p-a) (p-b) u ⟨r.a,r.b+(p-1),r.c⟩=v at e2 h
 have e3:T3.ev t ⟨r.a,r.b+(p-1),r.c⟩=0:=by
  have h1:(nf 1:Fin p)=1:=rfl
  simp only[T3.ev]at e1⊢
  rw[mN,KQ (by have:=hp.1;omega),h1]
  grobner
 have e4:v.ev t=1:=by
  obtain⟨⟨g1,g2⟩,g3⟩:=h
  have h0:(nf 0:Fin p)=0:=rfl
  have h1:(nf 1:Fin p)=1:=rfl
  simp only[T3.ev]
  rw[<-iA v.a,<-iA v.b,<-iA v.c,g1,g2,g3,h0,h1]
  grobner
 rw[e3,e4]at e2
 have:(1:Fin p)=0:=by rw[e2];grobner
 have:=aK Fin.val this
 rw[val_one hp.1,val_zero]at this
 omega
end EC
end
section
/-! roots:Tonelli's and Shanks's way-/
namespace EC
open Pr
variable {p:Nat}[NeZero p]
theorem aav(x:Fin p)(m:Nat):∀n,cl x (m+n)=cl x m*cl x n
 |0=>by show cl x m=cl x m*1;grobner
 |n+1=>by show cl x (m+n)*x=cl x m*(cl x n*x);rw[aav x m n];grobner
end EC
end
section
/-! primes by n+1:Morrison's law-/
namespace EC
open Pr
variable {p:Nat}[NeZero p]
def iQ(f:Nat->Fin p):Nat->Fin p
 |0=>0
 |n+1=>iQ f n+f n
theorem MX{f g:Nat->Fin p}:∀n,(∀i,i<n->f i=g i)->iQ f n=iQ g n
 |0,_=>rfl
 |n+1,h=>by simp only[iQ];rw[MX n (fun i hi=>h i (by omega)),h n (by omega)]
theorem aaw(f g:Nat->Fin p):∀n,iQ (fun i=>f i+g i) n=iQ f n+iQ g n
 |0=>by show(0:Fin p)=0+0;grobner
 |n+1=>by simp only[iQ,aaw f g n];grobner
theorem Rt(c:Fin p)(f:Nat->Fin p):∀n,iQ (fun i=>c*f i) n=c*iQ f n
 |0=>by show(0:Fin p)=c*0;grobner
 |n+1=>by simp only[iQ,Rt c f n];grobner
theorem MY(f:Nat->Fin p):∀n,iQ f (n+1)=f 0+iQ (fun i=>f (i+1)) n
 |0=>by show(0:Fin p)+f 0=f 0+0;grobner
 |n+1=>by
  show iQ f (n+1)+f (n+1)=_
  rw[MY f n]
  simp only[iQ]
  grobner
theorem aiO(f:Nat->Fin p)(m n:Nat)(h:m=n+1):iQ f m=iQ f n+f n:=by
 subst h;rfl
theorem aax{f:Nat->Fin p}:∀n,(∀i,i<n->f i=0)->iQ f n=0
 |0,_=>rfl
 |n+1,h=>by simp only[iQ];rw[aax n fun i hi=>h i (by omega),h n (by omega)];grobner
def S(x y:Fin p):Nat->(Nat->Fin p)->Fin p
 |0,g=>g 0
 |n+1,g=>x*S x y n g+y*S x y n (fun j=>g (j+1))
theorem P'(x y:Fin p):∀n (g:Nat->Fin p),S x y n g=iQ (fun j=>nf (ch n j)*(cl x (n-j)*(cl y j*g j))) (n+1)
 |0,g=>by
  show g 0=0+nf 1*(1*(1*g 0))
  have:(nf 1:Fin p)=1:=rfl
  rw[this];grobner
 |n+1,g=>by
  show x*S x y n g+y*S x y n (fun j=>g (j+1))=_
  rw[P' x y n g,P' x y n,<-Rt,<-Rt]
  rw[MY (fun j=>nf (ch (n+1) j)*(cl x (n+1-j)*(cl y j*g j))) (n+1)]
  have e1:iQ (fun i=>x*(nf (ch n i)*(cl x (n-i)*(cl y i*g i)))) (n+1)=
   cl x (n+1)*g 0+iQ (fun i=>nf (ch n (i+1))*(cl x (n-i)*(cl y (i+1)*g (i+1)))) (n+1):=by
   rw[MY]
   have last:nf (ch n (n+1))*(cl x (n-n)*(cl y (n+1)*g (n+1)))=(0:Fin p):=by
    rw[Ii n (n+1) (by omega)]
    have:(nf 0:Fin p)=0:=rfl
    rw[this];grobner
   show _=_+(iQ (fun i=>nf (ch n (i+1))*(cl x (n-i)*(cl y (i+1)*g (i+1)))) n+nf (ch n (n+1))*(cl x (n-n)*(cl y (n+1)*g (n+1))))
   rw[last]
   have h0:x*(nf (ch n 0)*(cl x (n-0)*(cl y 0*g 0)))=cl x (n+1)*g 0:=by
    have e:ch n 0=1:=by cases n<;>rfl
    have e1:(nf 1:Fin p)=1:=rfl
    rw[e,e1]
    show x*(1*(cl x n*(1*g 0)))=cl x n*x*g 0
    grobner
   rw[h0]
   have h1:iQ (fun i=>x*(nf (ch n (i+1))*(cl x (n-(i+1))*(cl y (i+1)*g (i+1))))) n=iQ (fun i=>nf (ch n (i+1))*(cl x (n-i)*(cl y (i+1)*g (i+1)))) n:=
    MX n fun i hi=>by
     have:cl x (n-i)=cl x (n-(i+1))*x:=by
      conv=>lhs;rw[show n-i=n-(i+1)+1 from by omega]
      rfl
     rw[this];grobner
   rw[h1];grobner
  have e2:iQ (fun i=>y*(nf (ch n i)*(cl x (n-i)*(cl y i*g (i+1))))) (n+1)=iQ (fun i=>nf (ch n i)*(cl x (n-i)*(cl y (i+1)*g (i+1)))) (n+1):=
   MX _ fun i _=>by
    show _=nf (ch n i)*(cl x (n-i)*(cl y i*y*g (i+1)))
    grobner
  have e3:iQ (fun i=>nf (ch (n+1) (i+1))*(cl x (n+1-(i+1))*(cl y (i+1)*g (i+1)))) (n+1)=
   iQ (fun i=>nf (ch n i)*(cl x (n-i)*(cl y (i+1)*g (i+1)))) (n+1)+iQ (fun i=>nf (ch n (i+1))*(cl x (n-i)*(cl y (i+1)*g (i+1)))) (n+1):=by
   rw[<-aaw]
   exact MX _ fun i _=>by
    show nf (ch n i+ch n (i+1))*_=_
    rw[mN,show n+1-(i+1)=n-i from by omega]
    grobner
  rw[e1,e2,e3]
  have h0:nf (ch (n+1) 0)*(cl x (n+1-0)*(cl y 0*g 0))=cl x (n+1)*g 0:=by
   have e1:(nf (ch (n+1) 0):Fin p)=1:=rfl
   rw[e1]
   show 1*(cl x (n+1)*(1*g 0))=_
   grobner
  rw[h0];grobner
theorem YG(hp:ai p)(x y:Fin p)(g:Nat->Fin p):S x y p g=cl x p*g 0+cl y p*g p:=by
 rw[P',MY]
 obtain⟨n,hn⟩:∃n,p=n+1:=⟨p-1,by have:=hp.1;omega⟩
 have h0:nf (ch p 0)*(cl x (p-0)*(cl y 0*g 0))=cl x p*g 0:=by
  have e:ch p 0=1:=by rw[hn];rfl
  have e1:(nf 1:Fin p)=1:=rfl
  rw[e,e1]
  show 1*(cl x p*(1*g 0))=_
  grobner
 rw[h0]
 have h1:iQ (fun i=>nf (ch p (i+1))*(cl x (p-(i+1))*(cl y (i+1)*g (i+1)))) p=cl y p*g p:=by
  rw[aiO _ p n hn,aax]
  ·rw[<-hn,Q3,vH]
   have e1:(nf 1:Fin p)=1:=rfl
   rw[e1]
   show 0+1*(1*(cl y p*g p))=_
   grobner
  ·intro i hi
   obtain⟨c,hc⟩:=ZI hp (i+1) (by omega) (by omega)
   have:(nf (ch p (i+1)):Fin p)=0:=by
    rw[hc,jm]
    have:(nf p:Fin p)=0:=by apply pM;simp[nf,Fin.ofNat]
    rw[this];grobner
   rw[this];grobner
 rw[h1]
structure Q(p:Nat) where
 x:Fin p
 y:Fin p
def Q.mul(d:Fin p)(a b:Q p):Q p:=⟨a.x*b.x+d*(a.y*b.y),a.x*b.y+a.y*b.x⟩
def Q.one:Q p:=⟨1,0⟩
def Q.pw(d:Fin p)(a:Q p):Nat->Q p
 |0=>Q.one
 |n+1=>Q.mul d (Q.pw d a n) a
theorem Q.mul_one(d:Fin p)(a:Q p):Q.mul d a Q.one=a:=by
 cases a;simp only[Q.mul,Q.one,Q.mk.injEq];constructor<;>grobner
theorem Q.one_mul(d:Fin p)(a:Q p):Q.mul d Q.one a=a:=by
 cases a;simp only[Q.mul,Q.one,Q.mk.injEq];constructor<;>grobner
theorem Q.assoc(d:Fin p)(a b c:Q p):Q.mul d (Q.mul d a b) c=Q.mul d a (Q.mul d b c):=by
 simp only[Q.mul,Q.mk.injEq];constructor<;>grobner
theorem Q.K4(d:Fin p)(a:Q p)(m:Nat):∀n,Q.pw d a (m+n)=Q.mul d (Q.pw d a m) (Q.pw d a n)
 |0=>(Q.mul_one d _).symm
 |n+1=>by show Q.mul d (Q.pw d a (m+n)) a=_;rw[Q.K4 d a m n,Q.assoc];rfl
theorem Q.VA(d:Fin p){a:Q p}{m:Nat}(h:Q.pw d a m=Q.one):∀c,Q.pw d a (m*c)=Q.one
 |0=>rfl
 |c+1=>by rw[lL,fh,Q.K4,Q.VA d h c,h,Q.mul_one]
theorem Q.apl(d:Fin p){a:Q p}(m:Nat):∀n,Q.pw d a m=Q.one->Q.pw d a n=Q.one->Q.pw d a (Nat.gcd m n)=Q.one:=by
 induction m using Nat.strongRecOn with
 |ind m ih=>
  intro n hm hn
  by_cases h0:m=0
  ·subst h0;simpa using hn
  ·rw[HD]
   refine ih (n%m) (ax _ (by omega)) m ?_ hm
   have e:Q.pw d a n=Q.mul d (Q.pw d a (n%m)) (Q.pw d a (m*(n/m))):=by rw[<-Q.K4,HF]
   rw[e,Q.VA d hm,Q.mul_one]at hn
   exact hn
def Ev(d:Fin p):Nat->Fin p×Fin p
 |0=>(1,0)
 |j+1=>(d*(Ev d j).2,(Ev d j).1)
theorem P_(x y c:Fin p):∀n (g:Nat->Fin p),S x y n (fun j=>c*g j)=c*S x y n g
 |0,_=>rfl
 |n+1,g=>by simp only[S,P_ x y c n g,P_ x y c n (fun j=>g (j+1))];grobner
theorem Q.ac_(d:Fin p)(a:Q p):∀n,Q.pw d a n=⟨S a.x a.y n (fun j=>(Ev d j).1),S a.x a.y n (fun j=>(Ev d j).2)⟩
 |0=>rfl
 |n+1=>by
  show Q.mul d (Q.pw d a n) a=_
  rw[Q.ac_ d a n]
  simp only[Q.mul,S,Q.mk.injEq]
  have e1:S a.x a.y n (fun j=>(Ev d (j+1)).1)=d*S a.x a.y n (fun j=>(Ev d j).2):=P_ _ _ _ _ _
  have e2:S a.x a.y n (fun j=>(Ev d (j+1)).2)=S a.x a.y n (fun j=>(Ev d j).1):=rfl
  rw[e1,e2]
  constructor<;>grobner
theorem Yd(d:Fin p):∀k,Ev d (2*k+1)=(0,cl d k)
 |0=>by show(d*0,(1:Fin p))=(0,1);simp only[xT,and_true];grobner
 |k+1=>by
  show(d*(Ev d (2*k+1)).1,d*(Ev d (2*k+1)).2)=(0,cl d k*d)
  rw[Yd d k]
  simp only[xT]
  constructor<;>grobner
theorem Q.Iy(hp:ai p)(h2:p≠2){d:Fin p}(hd:d≠0)(a:Q p)(ha:a.x*a.x-d*(a.y*a.y)=1):
 Q.pw d a (p-1)=Q.one\/Q.pw d a (p+1)=Q.one:=by
 have abd:p%2=1:=by
  rcases Nat.mod_two_eq_zero_or_one p with h|h
  ·rcases hp.2 2 (vh h)with h3|h3<;>omega
  ·exact h
 have F:=Iu hp h2
 have e:=Q.ac_ d a p
 rw[YG hp,YG hp]at e
 have e1:Ev d p=(0,cl d ((p-1)/2)):=(aK (Ev d) (show p=2*((p-1)/2)+1 by omega)).trans (Yd d _)
 rw[e1,EC.Iy hp,EC.Iy hp]at e
 have e0:Ev d 0=(1,0):=rfl
 rw[e0]at e
 simp only at e
 have hinv:Q.mul d a ⟨a.x,-a.y⟩=Q.one:=by
  simp only[Q.mul,Q.one,Q.mk.injEq]
  constructor<;>grobner
 have hs:cl d ((p-1)/2)=1\/cl d ((p-1)/2)= -1:=by
  have h1:cl d ((p-1)/2)*cl d ((p-1)/2)=1*1:=by
   rw[<-aav,show(p-1)/2+(p-1)/2=p-1 by omega]
   apply pM
   rw[Rp,Iv hp (fun h=>hd (Br h)),val_mul,val_one hp.1]
   exact(aO (by have:=hp.1;omega)).symm
  exact V7 F h1
 rcases hs with h|h
 ·left
  rw[h]at e
  have e':Q.pw d a p=a:=by rw[e];cases a;simp only[Q.mk.injEq];constructor<;>grobner
  have e3:Q.pw d a p=Q.mul d (Q.pw d a (p-1)) a:=aK (Q.pw d a) (show p=p-1+1 by have:=hp.1;omega)
  have e4:Q.mul d (Q.mul d (Q.pw d a (p-1)) a) ⟨a.x,-a.y⟩=Q.one:=by rw[<-e3,e',hinv]
  rw[Q.assoc,hinv,Q.mul_one]at e4
  exact e4
 ·right
  rw[h]at e
  show Q.mul d (Q.pw d a p) a=Q.one
  rw[e]
  simp only[Q.mul,Q.one,Q.mk.injEq]
  constructor<;>grobner
/-! pairs of numbers modulo n-/
structure QN where
 x:Nat
 y:Nat
def QN.mul(n d:Nat)(a b:QN):QN:=⟨(a.x*b.x+d*(a.y*b.y))%n,(a.x*b.y+a.y*b.x)%n⟩
def QN.pw(n d:Nat):Nat->QN->Nat->QN->QN
 |0,_,_,acc=>acc
 |f+1,b,e,acc=>QN.pw n d f (QN.mul n d b b) (e/2) (if e%2=1 then QN.mul n d acc b else acc)
def QN.q(a:QN):Q p:=⟨nf a.x,nf a.y⟩
theorem KP{n:Nat}(h:p∣n)(x:Nat):(nf (x%n):Fin p)=nf x:=by
 rw[<-iA (x%n),HH _ h,iA]
theorem QN.VH{n d:Nat}(h:p∣n)(a b:QN):(QN.mul n d a b).q=Q.mul (nf d:Fin p) a.q b.q:=by
 simp only[QN.mul,QN.q,Q.mul,KP h,mN,jm]
theorem Q.VB(d:Fin p)(a:Q p):∀k,Q.pw d (Q.mul d a a) k=Q.pw d a (2*k)
 |0=>rfl
 |k+1=>by
  show Q.mul d (Q.pw d (Q.mul d a a) k) (Q.mul d a a)=Q.mul d (Q.mul d (Q.pw d a (2*k)) a) a
  rw[Q.VB d a k,Q.assoc]
theorem QN.O4{n d:Nat}(h:p∣n):∀f b e acc,e<2^f->(QN.pw n d f b e acc).q=Q.mul (nf d:Fin p) acc.q (Q.pw (nf d) b.q e)
 |0,b,e,acc,he=>by
  have:e=0:=by simpa using he
  subst this
  exact(Q.mul_one _ _).symm
 |f+1,b,e,acc,he=>by
  have kT:e/2<2^f:=by rw[br]at he;omega
  unfold QN.pw
  by_cases h1:e%2=1
  ·rw[aj h1,QN.O4 h f _ _ _ kT,QN.VH h,QN.VH h,Q.VB,Q.assoc]
   congr 1
   have:Q.pw (nf d:Fin p) b.q e=Q.pw (nf d) b.q (1+2*(e/2)):=by congr 1;omega
   rw[this,Q.K4]
   congr 1
   exact(Q.one_mul _ _).symm
  ·rw[af h1,QN.O4 h f _ _ _ kT,QN.VH h,Q.VB]
   congr 2
   omega
def ZJ(n d s x y:Nat):Bool:=
 let m:=(n+1)/s
 let b:=QN.pw n d (m.log2+1) ⟨x,y⟩ m ⟨1,0⟩
 let c:=QN.pw n d (s.log2+1) b s ⟨1,0⟩
 decide (2<=n)&&(n+1==s*m)&&(x*x%n==(1+d*(y*y))%n)&&(c.x%n==1&&c.y%n==0)&&Nat.gcd (b.x+(n-1)) n==1&&Nat.gcd (2*d) n==1&&decide (n<(s-1)*(s-1))
theorem alz{n:Nat}(d s x y:Nat)(hs:ai s)(h:ZJ n d s x y=true):ai n:=by
 simp only[ZJ,dq,vT,qT]at h
 obtain⟨⟨⟨⟨⟨⟨h1,h2⟩,h3⟩,h4,h5⟩,h6⟩,h7⟩,h8⟩:=h
 refine Vy h1 fun q hq fW=> ?_
 haveI:NeZero q:=⟨by have:=hq.1;omega⟩
 have q2:q≠2:=by
  rintro rfl
  have:2∣1:=h7▸LW (Yt 2 d) fW
  omega
 have hd:(nf d:Fin q)≠0:=by
  intro e
  have e1:=aK Fin.val e
  rw[val_zero]at e1
  have e2:d%q=0:=by simpa [nf,Fin.ofNat]using e1
  have:q∣1:=h7▸LW (CQ (vh e2) (Ys _ _)) fW
  have:=mg (by omega) this
  have:=hq.1
  omega
 have hb:=QN.O4 fW (d:=d) (((n+1)/s).log2+1) ⟨x,y⟩ ((n+1)/s) ⟨1,0⟩ HE
 generalize QN.pw n d (((n+1)/s).log2+1) ⟨x,y⟩ ((n+1)/s) ⟨1,0⟩=b at *
 have hc:=QN.O4 fW (d:=d) (s.log2+1) b s ⟨1,0⟩ HE
 generalize QN.pw n d (s.log2+1) b s ⟨1,0⟩=c at *
 have o:(QN.q ⟨1,0⟩:Q q)=Q.one:=rfl
 rw[o,Q.one_mul]at hb hc
 have eA:(c.q:Q q)=Q.one:=by
  simp only[QN.q,Q.one,Q.mk.injEq]
  rw[<-KP fW c.x,<-KP fW c.y,h4,h5]
  exact⟨rfl,rfl⟩
 have D5:∀ (a:Q q) (m:Nat),∀k,Q.pw (nf d) (Q.pw (nf d) a m) k=Q.pw (nf d:Fin q) a (m*k):=by
  intro a m k
  induction k with
  |zero=>rfl
  |succ k ih=>
   show Q.mul (nf d) (Q.pw (nf d) (Q.pw (nf d) a m) k) (Q.pw (nf d) a m)=_
   rw[ih,lL,fh]
   exact(Q.K4 _ _ _ _).symm
 have iy:Q.pw (nf d:Fin q) (QN.q ⟨x,y⟩) (n+1)=Q.one:=by
  rw[h2,bJ,<-D5,<-hb,<-hc,eA]
 have aj0:(QN.q ⟨x,y⟩:Q q).x*(QN.q ⟨x,y⟩:Q q).x-nf d*((QN.q ⟨x,y⟩:Q q).y*(QN.q ⟨x,y⟩:Q q).y)=1:=by
  simp only[QN.q]
  have e:(nf (x*x):Fin q)=nf (1+d*(y*y)):=by rw[<-KP fW (x*x),h3,KP fW]
  rw[mN,jm,jm,jm]at e
  have e1:(nf 1:Fin q)=1:=rfl
  rw[e1]at e
  grobner
 have key:∀D,Q.pw (nf d:Fin q) (QN.q ⟨x,y⟩) D=Q.one->s∣D:=by
  intro D hD
  have hg:=Q.apl _ _ _ iy hD
  apply Hn
  intro wT
  have h9:Nat.gcd (n+1) D∣(n+1)/s:=by
   have:=Z_ (r:=s) (e:=0) (m:=(n+1)/s) (d:=Nat.gcd (n+1) D) hs (by rw[dB,zo,<-h2];exact LX _ _)
    (by rw[dB,zo];exact fun h=>wT (CQ h (LY _ _)))
   simpa using this
  obtain⟨k,hk⟩:=h9
  have cS:(b.q:Q q)=Q.one:=by rw[hb,hk,Q.VA _ hg]
  have hx:(nf b.x:Fin q)=1:=aK Q.x cS
  have mu:q∣b.x+(n-1):=by
   have e1:=aK Fin.val hx
   rw[val_one hq.1]at e1
   have e2:b.x%q=1:=by simpa [nf,Fin.ofNat]using e1
   obtain⟨j,hj⟩:=fW
   have e3:=HF b.x q
   apply vh
   rw[show b.x+(n-1)=q*(b.x/q)+q*j from by omega,<-lL]
   exact Nat.mul_mod_right _ _
  have:q∣1:=h6▸LW mu fW
  have:=mg (by omega) this
  have:=hq.1
  omega
 have q1:=hq.1
 have hsq:s-1<=q:=by
  rcases Q.Iy hq q2 hd _ aj0 with h|h
  ·have:=mg (by omega) (key _ h)
   omega
  ·have:=mg (by omega) (key _ h)
   omega
 exact cg h8 (mV hsq hsq)
end EC
end
