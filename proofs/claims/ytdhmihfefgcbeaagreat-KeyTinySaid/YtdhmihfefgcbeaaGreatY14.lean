/-
  This text proves what these texts prove: NoA, ToA, MoA, CeA. Conditions: those of each theorem.
-/
import Derived.Test.YtdhmihfefgcbeaaGreatY13
set_option maxHeartbeats 8000000
set_option linter.all false
section
/-! no points of order two:x^p modulo the cubic-/
namespace EC
open Pr
variable {p:Nat}[NeZero p]
structure T3 where
 a:Nat
 b:Nat
 c:Nat
def nf(n:Nat):Fin p:=Fin.ofNat p n
theorem nf_mod(n:Nat):(nf (n%p):Fin p)=nf n:=by apply Fin.ext;simp[nf,Fin.ofNat]
theorem nf_mul(m n:Nat):(nf (m*n):Fin p)=nf m*nf n:=by apply Fin.ext;simp[nf,Fin.ofNat,val_mul,Nat.mul_mod]
theorem nf_add(m n:Nat):(nf (m+n):Fin p)=nf m+nf n:=by apply Fin.ext;simp[nf,Fin.ofNat,val_add,Nat.add_mod]
def fpw(x:Fin p):Nat->Fin p
 |0=>1
 |n+1=>fpw x n*x
theorem fpw_two(z:Fin p):∀k,fpw (z*z) k=fpw z (2*k)
 |0=>rfl
 |k+1=>by
  show fpw (z*z) k*(z*z)=fpw z (2*k)*z*z
  rw[fpw_two z k];grobner
theorem nf_val(x:Fin p):(nf x.val:Fin p)=x:=by apply Fin.ext;simp[nf,Fin.ofNat,Nat.mod_eq_of_lt x.isLt]
theorem val_nf(n:Nat)(h:n<p):(nf n:Fin p).val=n:=by simp[nf,Fin.ofNat,Nat.mod_eq_of_lt h]
def T3.ev(t:Fin p)(x:T3):Fin p:=nf x.a+nf x.b*t+nf x.c*(t*t)
def T3.mul(p A B:Nat)(x y:T3):T3:=
 let c3:=(x.b*y.c+x.c*y.b)%p
 let c4:=x.c*y.c%p
 ⟨(x.a*y.a+c3*B)%p,(x.a*y.b+x.b*y.a+c3*A+c4*B)%p,(x.a*y.c+x.b*y.b+x.c*y.a+c4*A)%p⟩
theorem T3.ev_mul{A B:Nat}{t:Fin p}(h:t*t*t=nf A*t+nf B)(x y:T3):(T3.mul p A B x y).ev t=x.ev t*y.ev t:=by
 simp only[T3.mul,T3.ev,nf_mod,nf_add,nf_mul]
 generalize (nf x.a:Fin p)=x0
 generalize (nf x.b:Fin p)=x1
 generalize (nf x.c:Fin p)=x2
 generalize (nf y.a:Fin p)=y0
 generalize (nf y.b:Fin p)=y1
 generalize (nf y.c:Fin p)=y2
 generalize (nf A:Fin p)=A' at h⊢
 generalize (nf B:Fin p)=B' at h⊢
 obtain rfl:B'=t*t*t-A'*t:=by grobner
 clear h
 grobner
def T3.pw(p A B:Nat):Nat->T3->Nat->T3->T3
 |0,_,_,acc=>acc
 |f+1,b,e,acc=>T3.pw p A B f (T3.mul p A B b b) (e/2) (if e%2=1 then T3.mul p A B acc b else acc)
theorem T3.ev_pw{A B:Nat}{t:Fin p}(h:t*t*t=nf A*t+nf B):∀f b e acc,e<2^f->(T3.pw p A B f b e acc).ev t=acc.ev t*fpw (b.ev t) e
 |0,b,e,acc,he=>by
  have:e=0:=by simpa using he
  subst this
  show acc.ev t=acc.ev t*1
  grobner
 |f+1,b,e,acc,he=>by
  have he2:e/2<2^f:=by rw[Nat.pow_succ]at he;omega
  unfold T3.pw
  by_cases h1:e%2=1
  ·rw[if_pos h1,T3.ev_pw h f _ _ _ he2,T3.ev_mul h,T3.ev_mul h,fpw_two]
   have:fpw (b.ev t) e=fpw (b.ev t) (2*(e/2))*b.ev t:=by
    conv=>lhs;rw[show e=2*(e/2)+1 from by omega]
    rfl
   rw[this]
   grobner
  ·rw[if_neg h1,T3.ev_pw h f _ _ _ he2,T3.ev_mul h,fpw_two]
   congr 2
   omega
def chk2(p a b:Nat)(u:T3):Bool:=
 let A:=p-a
 let B:=p-b
 let r:=T3.pw p A B (p.log2+1) ⟨0,1,0⟩ p ⟨1,0,0⟩
 let v:=T3.mul p A B u ⟨r.a,r.b+(p-1),r.c⟩
 v.a%p==1&&v.b%p==0&&v.c%p==0
theorem fpow{x:Fin p}:∀n,(fpw x n).val=x.val^n%p
 |0=>rfl
 |n+1=>by show(fpw x n*x).val=_;rw[val_mul,fpow n,Nat.pow_succ,Nat.mod_mul_mod]
theorem frob(hp:Prime p)(x:Fin p):fpw x p=x:=by
 apply Fin.ext
 rw[fpow,flt hp,Nat.mod_eq_of_lt x.isLt]
theorem nf_sub{a:Nat}(h:a<=p):(nf (p-a):Fin p)= -nf a:=by
 have:(nf (p-a):Fin p)+nf a=0:=by
  rw[<-nf_add,Nat.sub_add_cancel h]
  apply Fin.ext
  simp[nf,Fin.ofNat]
 grobner
theorem no2_of{a b:Nat}(hp:Prime p)(ha:a<p)(hb:b<p){u:T3}(h:chk2 p a b u=true):No2 (nf a:Fin p) (nf b):=by
 intro t ht
 have ht':t*t*t=nf (p-a)*t+nf (p-b):=by
  rw[nf_sub (by omega),nf_sub (by omega)]
  grobner
 simp only[chk2,Bool.and_eq_true,beq_iff_eq]at h
 have e1:=T3.ev_pw ht' (p.log2+1) ⟨0,1,0⟩ p ⟨1,0,0⟩ Nat.lt_log2_self
 generalize T3.pw p (p-a) (p-b) (p.log2+1) ⟨0,1,0⟩ p ⟨1,0,0⟩=r at e1 h
 have hX:T3.ev t ⟨0,1,0⟩=t:=by
  have h0:(nf 0:Fin p)=0:=rfl
  have h1:(nf 1:Fin p)=1:=rfl
  simp only[T3.ev,h0,h1]
  grobner
 have h1:T3.ev t ⟨1,0,0⟩=1:=by
  have h0:(nf 0:Fin p)=0:=rfl
  have h1:(nf 1:Fin p)=1:=rfl
  simp only[T3.ev,h0,h1]
  grobner
 rw[hX,h1,frob hp]at e1
 have e2:=T3.ev_mul ht' u ⟨r.a,r.b+(p-1),r.c⟩
 generalize T3.mul p (p-a) (p-b) u ⟨r.a,r.b+(p-1),r.c⟩=v at e2 h
 have e3:T3.ev t ⟨r.a,r.b+(p-1),r.c⟩=0:=by
  have h1:(nf 1:Fin p)=1:=rfl
  simp only[T3.ev]at e1⊢
  rw[nf_add,nf_sub (by have:=hp.1;omega),h1]
  grobner
 have e4:v.ev t=1:=by
  obtain⟨⟨g1,g2⟩,g3⟩:=h
  have h0:(nf 0:Fin p)=0:=rfl
  have h1:(nf 1:Fin p)=1:=rfl
  simp only[T3.ev]
  rw[<-nf_mod v.a,<-nf_mod v.b,<-nf_mod v.c,g1,g2,g3,h0,h1]
  grobner
 rw[e3,e4]at e2
 have:(1:Fin p)=0:=by rw[e2];grobner
 have:=congrArg Fin.val this
 rw[val_one hp.1,val_zero]at this
 omega
end EC
end
section
/-! roots:Tonelli's and Shanks's way-/
namespace EC
open Pr
variable {p:Nat}[NeZero p]
theorem fpw_add(x:Fin p)(m:Nat):∀n,fpw x (m+n)=fpw x m*fpw x n
 |0=>by show fpw x m=fpw x m*1;grobner
 |n+1=>by show fpw x (m+n)*x=fpw x m*(fpw x n*x);rw[fpw_add x m n];grobner
end EC
end
section
/-! primes by n+1:Morrison's law-/
namespace EC
open Pr
variable {p:Nat}[NeZero p]
def fsm(f:Nat->Fin p):Nat->Fin p
 |0=>0
 |n+1=>fsm f n+f n
theorem fsm_congr{f g:Nat->Fin p}:∀n,(∀i,i<n->f i=g i)->fsm f n=fsm g n
 |0,_=>rfl
 |n+1,h=>by simp only[fsm];rw[fsm_congr n (fun i hi=>h i (by omega)),h n (by omega)]
theorem fsm_add(f g:Nat->Fin p):∀n,fsm (fun i=>f i+g i) n=fsm f n+fsm g n
 |0=>by show(0:Fin p)=0+0;grobner
 |n+1=>by simp only[fsm,fsm_add f g n];grobner
theorem fsm_mul(c:Fin p)(f:Nat->Fin p):∀n,fsm (fun i=>c*f i) n=c*fsm f n
 |0=>by show(0:Fin p)=c*0;grobner
 |n+1=>by simp only[fsm,fsm_mul c f n];grobner
theorem fsm_front(f:Nat->Fin p):∀n,fsm f (n+1)=f 0+fsm (fun i=>f (i+1)) n
 |0=>by show(0:Fin p)+f 0=f 0+0;grobner
 |n+1=>by
  show fsm f (n+1)+f (n+1)=_
  rw[fsm_front f n]
  simp only[fsm]
  grobner
theorem fsm_last(f:Nat->Fin p)(m n:Nat)(h:m=n+1):fsm f m=fsm f n+f n:=by
 subst h;rfl
theorem fsm_zero{f:Nat->Fin p}:∀n,(∀i,i<n->f i=0)->fsm f n=0
 |0,_=>rfl
 |n+1,h=>by simp only[fsm];rw[fsm_zero n fun i hi=>h i (by omega),h n (by omega)];grobner
def S(x y:Fin p):Nat->(Nat->Fin p)->Fin p
 |0,g=>g 0
 |n+1,g=>x*S x y n g+y*S x y n (fun j=>g (j+1))
theorem S_sum(x y:Fin p):∀n (g:Nat->Fin p),S x y n g=fsm (fun j=>nf (ch n j)*(fpw x (n-j)*(fpw y j*g j))) (n+1)
 |0,g=>by
  show g 0=0+nf 1*(1*(1*g 0))
  have:(nf 1:Fin p)=1:=rfl
  rw[this];grobner
 |n+1,g=>by
  show x*S x y n g+y*S x y n (fun j=>g (j+1))=_
  rw[S_sum x y n g,S_sum x y n,<-fsm_mul,<-fsm_mul]
  rw[fsm_front (fun j=>nf (ch (n+1) j)*(fpw x (n+1-j)*(fpw y j*g j))) (n+1)]
  have e1:fsm (fun i=>x*(nf (ch n i)*(fpw x (n-i)*(fpw y i*g i)))) (n+1)=
   fpw x (n+1)*g 0+fsm (fun i=>nf (ch n (i+1))*(fpw x (n-i)*(fpw y (i+1)*g (i+1)))) (n+1):=by
   rw[fsm_front]
   have last:nf (ch n (n+1))*(fpw x (n-n)*(fpw y (n+1)*g (n+1)))=(0:Fin p):=by
    rw[ch_gt n (n+1) (by omega)]
    have:(nf 0:Fin p)=0:=rfl
    rw[this];grobner
   show _=_+(fsm (fun i=>nf (ch n (i+1))*(fpw x (n-i)*(fpw y (i+1)*g (i+1)))) n+nf (ch n (n+1))*(fpw x (n-n)*(fpw y (n+1)*g (n+1))))
   rw[last]
   have h0:x*(nf (ch n 0)*(fpw x (n-0)*(fpw y 0*g 0)))=fpw x (n+1)*g 0:=by
    have e:ch n 0=1:=by cases n<;>rfl
    have e1:(nf 1:Fin p)=1:=rfl
    rw[e,e1]
    show x*(1*(fpw x n*(1*g 0)))=fpw x n*x*g 0
    grobner
   rw[h0]
   have h1:fsm (fun i=>x*(nf (ch n (i+1))*(fpw x (n-(i+1))*(fpw y (i+1)*g (i+1))))) n=fsm (fun i=>nf (ch n (i+1))*(fpw x (n-i)*(fpw y (i+1)*g (i+1)))) n:=
    fsm_congr n fun i hi=>by
     have:fpw x (n-i)=fpw x (n-(i+1))*x:=by
      conv=>lhs;rw[show n-i=n-(i+1)+1 from by omega]
      rfl
     rw[this];grobner
   rw[h1];grobner
  have e2:fsm (fun i=>y*(nf (ch n i)*(fpw x (n-i)*(fpw y i*g (i+1))))) (n+1)=fsm (fun i=>nf (ch n i)*(fpw x (n-i)*(fpw y (i+1)*g (i+1)))) (n+1):=
   fsm_congr _ fun i _=>by
    show _=nf (ch n i)*(fpw x (n-i)*(fpw y i*y*g (i+1)))
    grobner
  have e3:fsm (fun i=>nf (ch (n+1) (i+1))*(fpw x (n+1-(i+1))*(fpw y (i+1)*g (i+1)))) (n+1)=
   fsm (fun i=>nf (ch n i)*(fpw x (n-i)*(fpw y (i+1)*g (i+1)))) (n+1)+fsm (fun i=>nf (ch n (i+1))*(fpw x (n-i)*(fpw y (i+1)*g (i+1)))) (n+1):=by
   rw[<-fsm_add]
   exact fsm_congr _ fun i _=>by
    show nf (ch n i+ch n (i+1))*_=_
    rw[nf_add,show n+1-(i+1)=n-i from by omega]
    grobner
  rw[e1,e2,e3]
  have h0:nf (ch (n+1) 0)*(fpw x (n+1-0)*(fpw y 0*g 0))=fpw x (n+1)*g 0:=by
   have e1:(nf (ch (n+1) 0):Fin p)=1:=rfl
   rw[e1]
   show 1*(fpw x (n+1)*(1*g 0))=_
   grobner
  rw[h0];grobner
theorem S_prime(hp:Prime p)(x y:Fin p)(g:Nat->Fin p):S x y p g=fpw x p*g 0+fpw y p*g p:=by
 rw[S_sum,fsm_front]
 obtain⟨n,hn⟩:∃n,p=n+1:=⟨p-1,by have:=hp.1;omega⟩
 have h0:nf (ch p 0)*(fpw x (p-0)*(fpw y 0*g 0))=fpw x p*g 0:=by
  have e:ch p 0=1:=by rw[hn];rfl
  have e1:(nf 1:Fin p)=1:=rfl
  rw[e,e1]
  show 1*(fpw x p*(1*g 0))=_
  grobner
 rw[h0]
 have h1:fsm (fun i=>nf (ch p (i+1))*(fpw x (p-(i+1))*(fpw y (i+1)*g (i+1)))) p=fpw y p*g p:=by
  rw[fsm_last _ p n hn,fsm_zero]
  ·rw[<-hn,ch_self,Nat.sub_self]
   have e1:(nf 1:Fin p)=1:=rfl
   rw[e1]
   show 0+1*(1*(fpw y p*g p))=_
   grobner
  ·intro i hi
   obtain⟨c,hc⟩:=ch_dvd hp (i+1) (by omega) (by omega)
   have:(nf (ch p (i+1)):Fin p)=0:=by
    rw[hc,nf_mul]
    have:(nf p:Fin p)=0:=by apply Fin.ext;simp[nf,Fin.ofNat]
    rw[this];grobner
   rw[this];grobner
 rw[h1]
structure Q(p:Nat) where
 x:Fin p
 y:Fin p
def Q.mul(d:Fin p)(a b:Q p):Q p:=⟨a.x*b.x+d*(a.y*b.y),a.x*b.y+a.y*b.x⟩
def Q.one:Q p:=⟨1,0⟩
def Q.pw(d:Fin p)(a:Q p):Nat->Q p
 |0=>Q.one
 |n+1=>Q.mul d (Q.pw d a n) a
theorem Q.mul_one(d:Fin p)(a:Q p):Q.mul d a Q.one=a:=by
 cases a;simp only[Q.mul,Q.one,Q.mk.injEq];constructor<;>grobner
theorem Q.one_mul(d:Fin p)(a:Q p):Q.mul d Q.one a=a:=by
 cases a;simp only[Q.mul,Q.one,Q.mk.injEq];constructor<;>grobner
theorem Q.assoc(d:Fin p)(a b c:Q p):Q.mul d (Q.mul d a b) c=Q.mul d a (Q.mul d b c):=by
 simp only[Q.mul,Q.mk.injEq];constructor<;>grobner
theorem Q.pw_add(d:Fin p)(a:Q p)(m:Nat):∀n,Q.pw d a (m+n)=Q.mul d (Q.pw d a m) (Q.pw d a n)
 |0=>(Q.mul_one d _).symm
 |n+1=>by show Q.mul d (Q.pw d a (m+n)) a=_;rw[Q.pw_add d a m n,Q.assoc];rfl
theorem Q.pw_one(d:Fin p){a:Q p}{m:Nat}(h:Q.pw d a m=Q.one):∀c,Q.pw d a (m*c)=Q.one
 |0=>rfl
 |c+1=>by rw[Nat.mul_add,Nat.mul_one,Q.pw_add,Q.pw_one d h c,h,Q.mul_one]
theorem Q.pw_gcd(d:Fin p){a:Q p}(m:Nat):∀n,Q.pw d a m=Q.one->Q.pw d a n=Q.one->Q.pw d a (Nat.gcd m n)=Q.one:=by
 induction m using Nat.strongRecOn with
 |ind m ih=>
  intro n hm hn
  by_cases h0:m=0
  ·subst h0;simpa using hn
  ·rw[Nat.gcd_rec]
   refine ih (n%m) (Nat.mod_lt _ (by omega)) m ?_ hm
   have e:Q.pw d a n=Q.mul d (Q.pw d a (n%m)) (Q.pw d a (m*(n/m))):=by rw[<-Q.pw_add,Nat.mod_add_div]
   rw[e,Q.pw_one d hm,Q.mul_one]at hn
   exact hn
def Ev(d:Fin p):Nat->Fin p×Fin p
 |0=>(1,0)
 |j+1=>(d*(Ev d j).2,(Ev d j).1)
theorem S_lin(x y c:Fin p):∀n (g:Nat->Fin p),S x y n (fun j=>c*g j)=c*S x y n g
 |0,_=>rfl
 |n+1,g=>by simp only[S,S_lin x y c n g,S_lin x y c n (fun j=>g (j+1))];grobner
theorem Q.pw_S(d:Fin p)(a:Q p):∀n,Q.pw d a n=⟨S a.x a.y n (fun j=>(Ev d j).1),S a.x a.y n (fun j=>(Ev d j).2)⟩
 |0=>rfl
 |n+1=>by
  show Q.mul d (Q.pw d a n) a=_
  rw[Q.pw_S d a n]
  simp only[Q.mul,S,Q.mk.injEq]
  have e1:S a.x a.y n (fun j=>(Ev d (j+1)).1)=d*S a.x a.y n (fun j=>(Ev d j).2):=S_lin _ _ _ _ _
  have e2:S a.x a.y n (fun j=>(Ev d (j+1)).2)=S a.x a.y n (fun j=>(Ev d j).1):=rfl
  rw[e1,e2]
  constructor<;>grobner
theorem Ev_odd(d:Fin p):∀k,Ev d (2*k+1)=(0,fpw d k)
 |0=>by show(d*0,(1:Fin p))=(0,1);simp only[Prod.mk.injEq,and_true];grobner
 |k+1=>by
  show(d*(Ev d (2*k+1)).1,d*(Ev d (2*k+1)).2)=(0,fpw d k*d)
  rw[Ev_odd d k]
  simp only[Prod.mk.injEq]
  constructor<;>grobner
theorem Q.frob(hp:Prime p)(h2:p≠2){d:Fin p}(hd:d≠0)(a:Q p)(ha:a.x*a.x-d*(a.y*a.y)=1):
 Q.pw d a (p-1)=Q.one\/Q.pw d a (p+1)=Q.one:=by
 have hodd:p%2=1:=by
  rcases Nat.mod_two_eq_zero_or_one p with h|h
  ·rcases hp.2 2 (Nat.dvd_of_mod_eq_zero h)with h3|h3<;>omega
  ·exact h
 have F:=fld hp h2
 have e:=Q.pw_S d a p
 rw[S_prime hp,S_prime hp]at e
 have e1:Ev d p=(0,fpw d ((p-1)/2)):=(congrArg (Ev d) (show p=2*((p-1)/2)+1 by omega)).trans (Ev_odd d _)
 rw[e1,EC.frob hp,EC.frob hp]at e
 have e0:Ev d 0=(1,0):=rfl
 rw[e0]at e
 simp only at e
 have hinv:Q.mul d a ⟨a.x,-a.y⟩=Q.one:=by
  simp only[Q.mul,Q.one,Q.mk.injEq]
  constructor<;>grobner
 have hs:fpw d ((p-1)/2)=1\/fpw d ((p-1)/2)= -1:=by
  have h1:fpw d ((p-1)/2)*fpw d ((p-1)/2)=1*1:=by
   rw[<-fpw_add,show(p-1)/2+(p-1)/2=p-1 by omega]
   apply Fin.ext
   rw[fpow,flt1 hp (fun h=>hd (eq_zero_of_dvd h)),val_mul,val_one hp.1]
   exact(Nat.mod_eq_of_lt (by have:=hp.1;omega)).symm
  exact sq_eq F h1
 rcases hs with h|h
 ·left
  rw[h]at e
  have e':Q.pw d a p=a:=by rw[e];cases a;simp only[Q.mk.injEq];constructor<;>grobner
  have e3:Q.pw d a p=Q.mul d (Q.pw d a (p-1)) a:=congrArg (Q.pw d a) (show p=p-1+1 by have:=hp.1;omega)
  have e4:Q.mul d (Q.mul d (Q.pw d a (p-1)) a) ⟨a.x,-a.y⟩=Q.one:=by rw[<-e3,e',hinv]
  rw[Q.assoc,hinv,Q.mul_one]at e4
  exact e4
 ·right
  rw[h]at e
  show Q.mul d (Q.pw d a p) a=Q.one
  rw[e]
  simp only[Q.mul,Q.one,Q.mk.injEq]
  constructor<;>grobner
/-! pairs of numbers modulo n-/
structure QN where
 x:Nat
 y:Nat
def QN.mul(n d:Nat)(a b:QN):QN:=⟨(a.x*b.x+d*(a.y*b.y))%n,(a.x*b.y+a.y*b.x)%n⟩
def QN.pw(n d:Nat):Nat->QN->Nat->QN->QN
 |0,_,_,acc=>acc
 |f+1,b,e,acc=>QN.pw n d f (QN.mul n d b b) (e/2) (if e%2=1 then QN.mul n d acc b else acc)
def QN.q(a:QN):Q p:=⟨nf a.x,nf a.y⟩
theorem nf_mod_dvd{n:Nat}(h:p∣n)(x:Nat):(nf (x%n):Fin p)=nf x:=by
 rw[<-nf_mod (x%n),Nat.mod_mod_of_dvd _ h,nf_mod]
theorem QN.q_mul{n d:Nat}(h:p∣n)(a b:QN):(QN.mul n d a b).q=Q.mul (nf d:Fin p) a.q b.q:=by
 simp only[QN.mul,QN.q,Q.mul,nf_mod_dvd h,nf_add,nf_mul]
theorem Q.pw_sq(d:Fin p)(a:Q p):∀k,Q.pw d (Q.mul d a a) k=Q.pw d a (2*k)
 |0=>rfl
 |k+1=>by
  show Q.mul d (Q.pw d (Q.mul d a a) k) (Q.mul d a a)=Q.mul d (Q.mul d (Q.pw d a (2*k)) a) a
  rw[Q.pw_sq d a k,Q.assoc]
theorem QN.q_pw{n d:Nat}(h:p∣n):∀f b e acc,e<2^f->(QN.pw n d f b e acc).q=Q.mul (nf d:Fin p) acc.q (Q.pw (nf d) b.q e)
 |0,b,e,acc,he=>by
  have:e=0:=by simpa using he
  subst this
  exact(Q.mul_one _ _).symm
 |f+1,b,e,acc,he=>by
  have he2:e/2<2^f:=by rw[Nat.pow_succ]at he;omega
  unfold QN.pw
  by_cases h1:e%2=1
  ·rw[if_pos h1,QN.q_pw h f _ _ _ he2,QN.q_mul h,QN.q_mul h,Q.pw_sq,Q.assoc]
   congr 1
   have:Q.pw (nf d:Fin p) b.q e=Q.pw (nf d) b.q (1+2*(e/2)):=by congr 1;omega
   rw[this,Q.pw_add]
   congr 1
   exact(Q.one_mul _ _).symm
  ·rw[if_neg h1,QN.q_pw h f _ _ _ he2,QN.q_mul h,Q.pw_sq]
   congr 2
   omega
def chkM(n d s x y:Nat):Bool:=
 let m:=(n+1)/s
 let b:=QN.pw n d (m.log2+1) ⟨x,y⟩ m ⟨1,0⟩
 let c:=QN.pw n d (s.log2+1) b s ⟨1,0⟩
 decide (2<=n)&&(n+1==s*m)&&(x*x%n==(1+d*(y*y))%n)&&(c.x%n==1&&c.y%n==0)&&Nat.gcd (b.x+(n-1)) n==1&&Nat.gcd (2*d) n==1&&decide (n<(s-1)*(s-1))
theorem morrison{n:Nat}(d s x y:Nat)(hs:Prime s)(h:chkM n d s x y=true):Prime n:=by
 simp only[chkM,Bool.and_eq_true,beq_iff_eq,decide_eq_true_eq]at h
 obtain⟨⟨⟨⟨⟨⟨h1,h2⟩,h3⟩,h4,h5⟩,h6⟩,h7⟩,h8⟩:=h
 refine prime_of_sqrt h1 fun q hq hqn=> ?_
 haveI:NeZero q:=⟨by have:=hq.1;omega⟩
 have q2:q≠2:=by
  rintro rfl
  have:2∣1:=h7▸Nat.dvd_gcd (Nat.dvd_mul_right 2 d) hqn
  omega
 have hd:(nf d:Fin q)≠0:=by
  intro e
  have e1:=congrArg Fin.val e
  rw[val_zero]at e1
  have e2:d%q=0:=by simpa [nf,Fin.ofNat]using e1
  have:q∣1:=h7▸Nat.dvd_gcd (Nat.dvd_trans (Nat.dvd_of_mod_eq_zero e2) (Nat.dvd_mul_left _ _)) hqn
  have:=Nat.le_of_dvd (by omega) this
  have:=hq.1
  omega
 have hb:=QN.q_pw hqn (d:=d) (((n+1)/s).log2+1) ⟨x,y⟩ ((n+1)/s) ⟨1,0⟩ Nat.lt_log2_self
 generalize QN.pw n d (((n+1)/s).log2+1) ⟨x,y⟩ ((n+1)/s) ⟨1,0⟩=b at *
 have hc:=QN.q_pw hqn (d:=d) (s.log2+1) b s ⟨1,0⟩ Nat.lt_log2_self
 generalize QN.pw n d (s.log2+1) b s ⟨1,0⟩=c at *
 have o:(QN.q ⟨1,0⟩:Q q)=Q.one:=rfl
 rw[o,Q.one_mul]at hb hc
 have hc1:(c.q:Q q)=Q.one:=by
  simp only[QN.q,Q.one,Q.mk.injEq]
  rw[<-nf_mod_dvd hqn c.x,<-nf_mod_dvd hqn c.y,h4,h5]
  exact⟨rfl,rfl⟩
 have hpw:∀ (a:Q q) (m:Nat),∀k,Q.pw (nf d) (Q.pw (nf d) a m) k=Q.pw (nf d:Fin q) a (m*k):=by
  intro a m k
  induction k with
  |zero=>rfl
  |succ k ih=>
   show Q.mul (nf d) (Q.pw (nf d) (Q.pw (nf d) a m) k) (Q.pw (nf d) a m)=_
   rw[ih,Nat.mul_add,Nat.mul_one]
   exact(Q.pw_add _ _ _ _).symm
 have hn1:Q.pw (nf d:Fin q) (QN.q ⟨x,y⟩) (n+1)=Q.one:=by
  rw[h2,Nat.mul_comm,<-hpw,<-hb,<-hc,hc1]
 have hnorm:(QN.q ⟨x,y⟩:Q q).x*(QN.q ⟨x,y⟩:Q q).x-nf d*((QN.q ⟨x,y⟩:Q q).y*(QN.q ⟨x,y⟩:Q q).y)=1:=by
  simp only[QN.q]
  have e:(nf (x*x):Fin q)=nf (1+d*(y*y)):=by rw[<-nf_mod_dvd hqn (x*x),h3,nf_mod_dvd hqn]
  rw[nf_add,nf_mul,nf_mul,nf_mul]at e
  have e1:(nf 1:Fin q)=1:=rfl
  rw[e1]at e
  grobner
 have key:∀D,Q.pw (nf d:Fin q) (QN.q ⟨x,y⟩) D=Q.one->s∣D:=by
  intro D hD
  have hg:=Q.pw_gcd _ _ _ hn1 hD
  apply Classical.byContradiction
  intro hno
  have h9:Nat.gcd (n+1) D∣(n+1)/s:=by
   have:=dvd_less (r:=s) (e:=0) (m:=(n+1)/s) (d:=Nat.gcd (n+1) D) hs (by rw[Nat.zero_add,Nat.pow_one,<-h2];exact Nat.gcd_dvd_left _ _)
    (by rw[Nat.zero_add,Nat.pow_one];exact fun h=>hno (Nat.dvd_trans h (Nat.gcd_dvd_right _ _)))
   simpa using this
  obtain⟨k,hk⟩:=h9
  have hb1:(b.q:Q q)=Q.one:=by rw[hb,hk,Q.pw_one _ hg]
  have hx:(nf b.x:Fin q)=1:=congrArg Q.x hb1
  have h10:q∣b.x+(n-1):=by
   have e1:=congrArg Fin.val hx
   rw[val_one hq.1]at e1
   have e2:b.x%q=1:=by simpa [nf,Fin.ofNat]using e1
   obtain⟨j,hj⟩:=hqn
   have e3:=Nat.mod_add_div b.x q
   apply Nat.dvd_of_mod_eq_zero
   rw[show b.x+(n-1)=q*(b.x/q)+q*j from by omega,<-Nat.mul_add]
   exact Nat.mul_mod_right _ _
  have:q∣1:=h6▸Nat.dvd_gcd h10 hqn
  have:=Nat.le_of_dvd (by omega) this
  have:=hq.1
  omega
 have q1:=hq.1
 have hsq:s-1<=q:=by
  rcases Q.frob hq q2 hd _ hnorm with h|h
  ·have:=Nat.le_of_dvd (by omega) (key _ h)
   omega
  ·have:=Nat.le_of_dvd (by omega) (key _ h)
   omega
 exact Nat.lt_of_lt_of_le h8 (Nat.mul_le_mul hsq hsq)
end EC
end
namespace Pr
def AllP:List (Nat×Nat×Nat)->Prop
 | []=>True
 |x::l=>Prime x.1/\AllP l
theorem allP:∀ {l:List (Nat×Nat×Nat)},AllP l->∀x,x∈l->Prime x.1
 | [],_,_,h=>by cases h
 |y::l,h,x,hx=>by
  rcases List.mem_cons.1 hx with rfl|hx
  ·exact h.1
  ·exact allP h.2 x hx
theorem pk{n:Nat}(l:List (Nat×Nat×Nat))(hp:AllP l)(h:(decide (2<=n)&&chkAll n l 1)=true:=by decide +kernel):Prime n:=pock l (allP hp) h
theorem tr{n:Nat}(f:Nat)(h:(decide (2<=n)&&tri n f 2)=true:=by decide +kernel):Prime n:=trial f h
theorem p0:Prime 41:=tr 8
theorem p1:Prime 19:=tr 6
theorem p2:Prime 5:=tr 4
theorem p3:Prime 8413201:=pk [(41,0,2),(19,0,2),(5,1,3)] ⟨p0,p1,p2,trivial⟩
theorem p4:Prime 252396031:=pk [(8413201,0,2)] ⟨p3,trivial⟩
theorem p5:Prime 455827231987:=pk [(252396031,0,2)] ⟨p4,trivial⟩
theorem p6:Prime 5933177618131140283:=pk [(455827231987,0,2)] ⟨p5,trivial⟩
theorem p7:Prime 0xeebf0a6dd4957747e4d887:=pk [(5933177618131140283,0,2)] ⟨p6,trivial⟩
theorem p8:Prime 275729:=tr 527
theorem p9:Prime 54251:=tr 234
theorem p10:Prime 108341181769254293:=pk [(275729,0,2),(54251,0,2)] ⟨p8,p9,trivial⟩
theorem p11:Prime 0xfffffffffffffffffffffffffffffffeffffffffffffffff:=pk [(0xeebf0a6dd4957747e4d887,0,2),(108341181769254293,0,2)] ⟨p7,p10,trivial⟩
theorem p12:Prime 274177:=tr 525
theorem p13:Prime 65537:=tr 258
theorem p14:Prime 641:=tr 27
theorem p15:Prime 257:=tr 18
theorem p16:Prime 17:=tr 6
theorem p17:Prime 3:=tr 3
theorem p18:Prime 2:=tr 3
theorem p19:Prime 0xffffffffffffffffffffffffffffffff000000000000000000000001:=pk [(274177,0,2),(65537,0,2),(641,0,2),(257,0,2),(17,0,2),(5,0,2),(3,0,2),(2,95,11)] ⟨p12,p13,p14,p15,p16,p2,p17,p18,trivial⟩
theorem p20:Prime 704251:=tr 841
theorem p21:Prime 78283:=tr 281
theorem p22:Prime 46076956964474543:=pk [(704251,0,2),(78283,0,2)] ⟨p20,p21,trivial⟩
theorem p23:Prime 3677:=tr 62
theorem p24:Prime 197:=tr 16
theorem p25:Prime 66417393611:=pk [(3677,0,2),(197,0,2)] ⟨p23,p24,trivial⟩
theorem p26:Prime 11290956913871:=pk [(66417393611,0,2)] ⟨p25,trivial⟩
theorem p27:Prime 0x22b559b5c816ae00f2378e18df38c5410ed597:=pk [(46076956964474543,0,2),(11290956913871,0,2)] ⟨p22,p26,trivial⟩
theorem p28:Prime 0x926d1276e41fae13fdda5f78edb7802a76951509:=pk [(0x22b559b5c816ae00f2378e18df38c5410ed597,0,2)] ⟨p27,trivial⟩
theorem p29:Prime 0xffffffff00000001000000000000000000000000ffffffffffffffffffffffff:=pk [(0x926d1276e41fae13fdda5f78edb7802a76951509,0,2)] ⟨p28,trivial⟩
theorem p30:Prime 363557:=tr 604
theorem p31:Prime 532247449:=pk [(363557,0,2)] ⟨p30,trivial⟩
theorem p32:Prime 44925942675193:=pk [(532247449,0,2)] ⟨p31,trivial⟩
theorem p33:Prime 0x788dfeed61e9c29d3cf:=pk [(44925942675193,0,2)] ⟨p32,trivial⟩
theorem p34:Prime 0x4d6f0fac5c0e3050743c3537:=pk [(0x788dfeed61e9c29d3cf,0,2)] ⟨p33,trivial⟩
theorem p35:Prime 0xae39e343cf1fecb5058777bbd:=pk [(0x4d6f0fac5c0e3050743c3537,0,2)] ⟨p34,trivial⟩
theorem p36:Prime 0x10556d4e5b6afe30f884b3399b9:=pk [(0xae39e343cf1fecb5058777bbd,0,2)] ⟨p35,trivial⟩
theorem p37:Prime 0x4be6ab2c80713e4d5142229baecfe3abc0f:=pk [(0x10556d4e5b6afe30f884b3399b9,0,2)] ⟨p36,trivial⟩
theorem p38:Prime 0x8e5080f370d454d0f85c00e3e7c5cae209c3:=pk [(0x4be6ab2c80713e4d5142229baecfe3abc0f,0,2)] ⟨p37,trivial⟩
theorem p39:Prime 21407:=tr 148
theorem p40:Prime 246608641:=pk [(21407,0,2)] ⟨p39,trivial⟩
theorem p41:Prime 881:=tr 31
theorem p42:Prime 211:=tr 16
theorem p43:Prime 105957871:=pk [(881,0,2),(211,0,2)] ⟨p41,p42,trivial⟩
theorem p44:Prime 0x1cb733b306cfe30dd1:=pk [(246608641,0,2),(105957871,0,2)] ⟨p40,p43,trivial⟩
theorem p45:Prime 0x23108c4e1b4108ec0ae7f9ac9f118677a6c53e44fd12fcacc07b805145240aae82349d3ce0e376778bd1:=pk [(0x8e5080f370d454d0f85c00e3e7c5cae209c3,0,2),(0x1cb733b306cfe30dd1,0,2)] ⟨p38,p44,trivial⟩
theorem p46:Prime 0xfffffffffffffffffffffffffffffffffffffffffffffffffffffffffffffffeffffffff0000000000000000ffffffff:=pk [(0x23108c4e1b4108ec0ae7f9ac9f118677a6c53e44fd12fcacc07b805145240aae82349d3ce0e376778bd1,0,2)] ⟨p45,trivial⟩
theorem p47:Prime 2437:=tr 51
theorem p48:Prime 7:=tr 4
theorem p49:Prime 9211861:=pk [(2437,0,2),(7,0,2)] ⟨p47,p48,trivial⟩
theorem p50:Prime 24098228377:=pk [(9211861,0,2)] ⟨p49,trivial⟩
theorem p51:Prime 674750394557:=pk [(24098228377,0,2)] ⟨p50,trivial⟩
theorem p52:Prime 361725589517273017:=pk [(674750394557,0,2)] ⟨p51,trivial⟩
theorem p53:Prime 0x8f5b78263ad9207eb2b101:=pk [(361725589517273017,0,3)] ⟨p52,trivial⟩
theorem p54:Prime 223:=tr 16
theorem p55:Prime 151:=tr 14
theorem p56:Prime 8620289:=pk [(223,0,2),(151,0,2)] ⟨p54,p55,trivial⟩
theorem p57:Prime 2534364967:=pk [(8620289,0,2)] ⟨p56,trivial⟩
theorem p58:Prime 145295143558111:=pk [(2534364967,0,3)] ⟨p57,trivial⟩
theorem p59:Prime 23609:=tr 155
theorem p60:Prime 1433:=tr 39
theorem p61:Prime 108140989558681:=pk [(23609,0,3),(1433,0,3)] ⟨p59,p60,trivial⟩
theorem p62:Prime 2995763:=tr 1732
theorem p63:Prime 65427463921:=pk [(2995763,0,3)] ⟨p62,trivial⟩
theorem p64:Prime 49481:=tr 224
theorem p65:Prime 308761441:=pk [(49481,0,3)] ⟨p64,trivial⟩
theorem p66:Prime 1381:=tr 39
theorem p67:Prime 34110701:=pk [(1381,0,3),(19,0,3)] ⟨p66,p1,trivial⟩
theorem p68:Prime 0x1ffffffffffffffffffffffffffffffffffffffffffffffffffffffffffffffffffffffffffffffffffffffffffffffffffffffffffffffffffffffffffffffffff:=pk [(0x8f5b78263ad9207eb2b101,0,3),(145295143558111,0,3),(108140989558681,0,3),(65427463921,0,3),(308761441,0,3),(34110701,0,3)] ⟨p53,p58,p61,p63,p65,p67,trivial⟩
theorem p69:Prime 96557:=tr 312
theorem p70:Prime 41201:=tr 204
theorem p71:Prime 4423:=tr 68
theorem p72:Prime 2657:=tr 53
theorem p73:Prime 1627:=tr 42
theorem p74:Prime 0xc03a94b2d3e64419a05cd8ccbf987069:=pk [(96557,0,2),(41201,0,2),(4423,0,2),(2657,0,2),(1627,0,2)] ⟨p69,p70,p71,p72,p73,trivial⟩
theorem p75:Prime 0x1db8260e5e3b460a46a0088fccf6a3a5936d75d89a776d4c0da4f338aafb:=pk [(0xc03a94b2d3e64419a05cd8ccbf987069,0,2)] ⟨p74,trivial⟩
theorem p76:Prime 0xfffffffffffffffffffffffffffffffffffffffffffffffffffffffefffffc2f:=pk [(0x1db8260e5e3b460a46a0088fccf6a3a5936d75d89a776d4c0da4f338aafb,0,2)] ⟨p75,trivial⟩
theorem p77:Prime 100483:=tr 318
theorem p78:Prime 101:=tr 12
theorem p79:Prime 13355798429:=pk [(100483,0,2),(101,0,2)] ⟨p77,p78,trivial⟩
theorem p80:Prime 436529:=tr 662
theorem p81:Prime 23572567:=pk [(436529,0,2)] ⟨p80,trivial⟩
theorem p82:Prime 0x70934080e1bc27e24b8541:=pk [(13355798429,0,2),(23572567,0,2)] ⟨p79,p81,trivial⟩
theorem p83:Prime 0xe95e4a5f737059dc60dfc7ad95b3d8139515620f:=pk [(0x70934080e1bc27e24b8541,0,2)] ⟨p82,trivial⟩
theorem p84:Prime 3257:=tr 59
theorem p85:Prime 311:=tr 19
theorem p86:Prime 1942793987:=pk [(3257,0,2),(311,0,2)] ⟨p84,p85,trivial⟩
theorem p87:Prime 273564821309471:=pk [(1942793987,0,2)] ⟨p86,trivial⟩
theorem p88:Prime 0xfb651b85c2352297:=pk [(273564821309471,0,2)] ⟨p87,trivial⟩
theorem p89:Prime 0x164ee356b911460f453c9:=pk [(0xfb651b85c2352297,0,2)] ⟨p88,trivial⟩
theorem p90:Prime 0x282bbb656ae74923ec6cf4dc38bd7:=pk [(0x164ee356b911460f453c9,0,2)] ⟨p89,trivial⟩
theorem p91:Prime 0xd7c134aa264366862a18302575d1d787b09f075797da89f57ec8c0ff:=pk [(0x282bbb656ae74923ec6cf4dc38bd7,0,2)] ⟨p90,trivial⟩
theorem p92:Prime 3686357:=tr 1921
theorem p93:Prime 719569513687:=pk [(3686357,0,2)] ⟨p92,trivial⟩
theorem p94:Prime 22709:=tr 152
theorem p95:Prime 2851:=tr 55
theorem p96:Prime 151499460061:=pk [(22709,0,2),(2851,0,2)] ⟨p94,p95,trivial⟩
theorem p97:Prime 0x9930558227c1870a00a3ae5816ffd:=pk [(719569513687,0,2),(151499460061,0,2)] ⟨p93,p96,trivial⟩
theorem p98:Prime 0x7cc3aeda56fd8a352a6917bb1493dfca71ed8f71d3143f07:=pk [(0x9930558227c1870a00a3ae5816ffd,0,2)] ⟨p97,trivial⟩
theorem p99:Prime 0xa9fb57dba1eea9bc3e660a909d838d726e3bf623d52620282013481d1f6e5377:=pk [(0x7cc3aeda56fd8a352a6917bb1493dfca71ed8f71d3143f07,0,2)] ⟨p98,trivial⟩
theorem p100:Prime 577:=tr 26
theorem p101:Prime 227:=tr 17
theorem p102:Prime 301251701:=pk [(577,0,2),(227,0,2)] ⟨p100,p101,trivial⟩
theorem p103:Prime 31:=tr 7
theorem p104:Prime 23:=tr 6
theorem p105:Prime 13:=tr 5
theorem p106:Prime 6747833:=pk [(31,0,2),(23,0,2),(13,1,3)] ⟨p103,p104,p105,trivial⟩
theorem p107:Prime 0x1880fc2b19ab47ac9d5d:=pk [(301251701,0,2),(6747833,0,2)] ⟨p102,p106,trivial⟩
theorem p108:Prime 6947:=tr 85
theorem p109:Prime 3943:=tr 64
theorem p110:Prime 547948229735387969:=pk [(6947,0,2),(3943,0,2),(2,5,3)] ⟨p108,p109,p18,trivial⟩
theorem p111:Prime 0x59c370170d9ec28aa8de489e1331b173fc9315aea611d6904cd07:=pk [(0x1880fc2b19ab47ac9d5d,0,2),(547948229735387969,0,2)] ⟨p107,p110,trivial⟩
theorem p112:Prime 0xd35e472036bc4fb7e13c785ed201e065f98fcfa6f6f40def4f92b9ec7893ec28fcd412b1f1b32e27:=pk [(0x59c370170d9ec28aa8de489e1331b173fc9315aea611d6904cd07,0,2)] ⟨p111,trivial⟩
theorem p113:Prime 89:=tr 11
theorem p114:Prime 67:=tr 10
theorem p115:Prime 2663886769:=pk [(227,0,2),(89,0,2),(67,0,2)] ⟨p101,p113,p114,trivial⟩
theorem p116:Prime 7057776167979264311:=pk [(2663886769,0,2)] ⟨p115,trivial⟩
theorem p117:Prime 0x1d4f0f87fc334342460a1176af693:=pk [(7057776167979264311,0,2)] ⟨p116,trivial⟩
theorem p118:Prime 337:=tr 20
theorem p119:Prime 71:=tr 10
theorem p120:Prime 123606883:=pk [(337,0,2),(71,0,2)] ⟨p118,p119,trivial⟩
theorem p121:Prime 13843970897:=pk [(123606883,0,2)] ⟨p120,trivial⟩
theorem p122:Prime 8076987940436711:=pk [(13843970897,0,2)] ⟨p121,trivial⟩
theorem p123:Prime 726928914639303991:=pk [(8076987940436711,0,2)] ⟨p122,trivial⟩
theorem p124:Prime 0xa1b3b6a753d00db5489c3b9c43:=pk [(726928914639303991,0,2)] ⟨p123,trivial⟩
theorem p125:Prime 0x7d7ced7e4dc447e8fca489418faeeb1ef5d7014d16ebf66f41e144030fbd1:=pk [(0x1d4f0f87fc334342460a1176af693,0,2),(0xa1b3b6a753d00db5489c3b9c43,0,2)] ⟨p117,p124,trivial⟩
theorem p126:Prime 0x8cb91e82a3386d280f5d6f7e50e641df152f7109ed5456b412b1da197fb71123acd3a729901d1a71874700133107ec53:=pk [(0x7d7ced7e4dc447e8fca489418faeeb1ef5d7014d16ebf66f41e144030fbd1,0,2)] ⟨p125,trivial⟩
theorem p127:Prime 4188433:=tr 2048
theorem p128:Prime 20020709741:=pk [(4188433,0,2)] ⟨p127,trivial⟩
theorem p129:Prime 400414194821:=pk [(20020709741,0,2)] ⟨p128,trivial⟩
theorem p130:Prime 31232307196039:=pk [(400414194821,0,2)] ⟨p129,trivial⟩
theorem p131:Prime 4684846079405851:=pk [(31232307196039,0,2)] ⟨p130,trivial⟩
theorem p132:Prime 37657:=tr 196
theorem p133:Prime 15511:=tr 126
theorem p134:Prime 2234757903503:=pk [(37657,0,2),(15511,0,2)] ⟨p132,p133,trivial⟩
theorem p135:Prime 0x27065965645ed16dd4ecc6c26a05a8d16ee9378ebf:=pk [(4684846079405851,0,2),(2234757903503,0,2)] ⟨p131,p134,trivial⟩
theorem p136:Prime 0x2d452877a59e8d090f1dd4e28157f164e31698c5a19c92d0cf8e217:=pk [(0x27065965645ed16dd4ecc6c26a05a8d16ee9378ebf,0,2)] ⟨p135,trivial⟩
theorem p137:Prime 0x76e448c63ff299b2def117691dba7c2d4327e83aec1cffc93eb7d602823abe19f4bf1ab:=pk [(0x2d452877a59e8d090f1dd4e28157f164e31698c5a19c92d0cf8e217,0,2)] ⟨p136,trivial⟩
theorem p138:Prime 0xaadd9db8dbe9c48b3fd4e6ae33c9fc07cb308db3b3c9d20ed6639cca703308717d4d9b009bc66842aecda12ae6a380e62881ff2f2d82c68528aa6056583a48f3:=pk [(0x76e448c63ff299b2def117691dba7c2d4327e83aec1cffc93eb7d602823abe19f4bf1ab,0,2)] ⟨p137,trivial⟩
theorem p139:Prime 251:=tr 17
theorem p140:Prime 241:=tr 17
theorem p141:Prime 239:=tr 17
theorem p142:Prime 51419:=tr 228
theorem p143:Prime 4127:=tr 66
theorem p144:Prime 7532705587894727:=pk [(51419,0,2),(4127,0,2)] ⟨p142,p143,trivial⟩
theorem p145:Prime 0xb186bf71c774922768ebedf:=pk [(7532705587894727,0,2)] ⟨p144,trivial⟩
theorem p146:Prime 54623:=tr 235
theorem p147:Prime 7244839476697597:=pk [(54623,0,2),(239,0,2),(3,0,2),(2,1,2)] ⟨p146,p141,p17,p18,trivial⟩
theorem p148:Prime 0x7e966779a05e328ce6915:=pk [(7244839476697597,0,2)] ⟨p147,trivial⟩
theorem p149:Prime 0xffffffffffffffffffffffff99def836146bc9b1b4d22831:=pk [(0xb186bf71c774922768ebedf,0,2),(0x7e966779a05e328ce6915,0,2)] ⟨p145,p148,trivial⟩
theorem p150:Prime 10909:=tr 106
theorem p151:Prime 11105363:=pk [(10909,0,2)] ⟨p150,trivial⟩
theorem p152:Prime 821796863:=pk [(11105363,0,2)] ⟨p151,trivial⟩
theorem p153:Prime 432621809776543:=pk [(821796863,0,2)] ⟨p152,trivial⟩
theorem p154:Prime 0x70d411d89618dbfe3ebdd1:=pk [(432621809776543,0,2)] ⟨p153,trivial⟩
theorem p155:Prime 0x1b54cb03ae59ed185e2c4486e75:=pk [(0x70d411d89618dbfe3ebdd1,0,2)] ⟨p154,trivial⟩
theorem p156:Prime 0x44f817a026114c922427bc213ae265fafd9:=pk [(0x1b54cb03ae59ed185e2c4486e75,0,2)] ⟨p155,trivial⟩
theorem p157:Prime 0x80c63bd8a8b2da59fd7b637139afe83defb38e5bc128c6a53:=pk [(0x44f817a026114c922427bc213ae265fafd9,0,2)] ⟨p156,trivial⟩
theorem p158:Prime 0xffffffffffffffffffffffffffff16a2e0b8f03e13dd29455c5c2a3d:=pk [(0x80c63bd8a8b2da59fd7b637139afe83defb38e5bc128c6a53,0,2)] ⟨p157,trivial⟩
theorem p159:Prime 3023:=tr 56
theorem p160:Prime 127:=tr 13
theorem p161:Prime 43:=tr 8
theorem p162:Prime 11:=tr 5
theorem p163:Prime 208150935158385979:=pk [(3023,0,2),(127,0,2),(43,0,2),(11,0,2),(3,0,2)] ⟨p159,p160,p161,p162,p17,trivial⟩
theorem p164:Prime 0x87b23e9d09d3e637b2aa341:=pk [(208150935158385979,0,2)] ⟨p163,trivial⟩
theorem p165:Prime 29:=tr 7
theorem p166:Prime 311245691:=pk [(311,0,2),(29,1,2)] ⟨p85,p165,trivial⟩
theorem p167:Prime 622491383:=pk [(311245691,0,2)] ⟨p166,trivial⟩
theorem p168:Prime 38189:=tr 197
theorem p169:Prime 0xffffffff00000000ffffffffffffffffbce6faada7179e84f3b9cac2fc632551:=pk [(0x87b23e9d09d3e637b2aa341,0,2),(622491383,0,2),(38189,0,2)] ⟨p164,p167,p168,trivial⟩
theorem p170:Prime 421:=tr 22
theorem p171:Prime 233:=tr 17
theorem p172:Prime 272109983:=pk [(421,0,2),(233,0,2)] ⟨p170,p171,trivial⟩
theorem p173:Prime 228572385721:=pk [(272109983,0,2)] ⟨p172,trivial⟩
theorem p174:Prime 23314383343543:=pk [(228572385721,0,2)] ⟨p173,trivial⟩
theorem p175:Prime 0x1720b72947fc8b45d9:=pk [(23314383343543,0,2)] ⟨p174,trivial⟩
theorem p176:Prime 0x4d4ccc69f97d91fa4d43bdf:=pk [(0x1720b72947fc8b45d9,0,2)] ⟨p175,trivial⟩
theorem p177:Prime 0x39f9994f7b1e2d7bb9f2ce75:=pk [(0x4d4ccc69f97d91fa4d43bdf,0,2)] ⟨p176,trivial⟩
theorem p178:Prime 9863677:=pk [(881,0,2),(311,0,2)] ⟨p41,p85,trivial⟩
theorem p179:Prime 37344768852931:=pk [(9863677,0,2)] ⟨p178,trivial⟩
theorem p180:Prime 55942463741690639:=pk [(37344768852931,0,2)] ⟨p179,trivial⟩
theorem p181:Prime 0xa8c55f664384d6fe203ca16a45d7238cad2d61237ce2fa5933:=pk [(0x39f9994f7b1e2d7bb9f2ce75,0,2),(55942463741690639,0,2)] ⟨p177,p180,trivial⟩
theorem p182:Prime 0x192a43d8f8a55b860e20c52b200024fbdd5c39850b80be9fa08e6156d781713c6b252c7:=pk [(0xa8c55f664384d6fe203ca16a45d7238cad2d61237ce2fa5933,0,2)] ⟨p181,trivial⟩
theorem p183:Prime 0xffffffffffffffffffffffffffffffffffffffffffffffffc7634d81f4372ddf581a0db248b0a77aecec196accc52973:=pk [(0x192a43d8f8a55b860e20c52b200024fbdd5c39850b80be9fa08e6156d781713c6b252c7,0,2)] ⟨p182,trivial⟩
theorem p184:Prime 13043:=tr 116
theorem p185:Prime 3793:=tr 63
theorem p186:Prime 34439210165267:=pk [(13043,0,2),(3793,0,2)] ⟨p184,p185,trivial⟩
theorem p187:Prime 118913:=tr 346
theorem p188:Prime 11923882163:=pk [(118913,0,2)] ⟨p187,trivial⟩
theorem p189:Prime 2742492897491:=pk [(11923882163,0,2)] ⟨p188,trivial⟩
theorem p190:Prime 0xd748888b866535d8bc5c98d65d00f3:=pk [(34439210165267,0,2),(2742492897491,0,2)] ⟨p186,p189,trivial⟩
theorem p191:Prime 0x193899e40ecfe86cbf36c8161eca671cdc9a89dbcce8ffc57:=pk [(0xd748888b866535d8bc5c98d65d00f3,0,2)] ⟨p190,trivial⟩
theorem p192:Prime 0x17a51045cde2e9e5f3435b94bcddc0ab0ed0e13e101a6fc9191:=pk [(0x193899e40ecfe86cbf36c8161eca671cdc9a89dbcce8ffc57,0,2)] ⟨p191,trivial⟩
theorem p193:Prime 0x7818a54c11e3f4e86c2fe2eea94351d34967fa5fbce9f012ab50665b1a7:=pk [(0x17a51045cde2e9e5f3435b94bcddc0ab0ed0e13e101a6fc9191,0,2)] ⟨p192,trivial⟩
theorem p194:Prime 0x18c61e9d6f5364020bfb6e04363013a05dc6efa02ece541f304622ec35a464bdcd07d18a2ce4ee8b39c6438bdbf:=EC.morrison 11 0x7818a54c11e3f4e86c2fe2eea94351d34967fa5fbce9f012ab50665b1a7 0x4f46c85e310ad9a02657c673e099d867927c9866fc2dd9fd6746d627120e0f2c29b29e86f60fc823ec140b5925 0x4f46c85e310ad9a02657c673e099d867927c9866fc2dd9fd6746d627120e0f2c29b29e86f60fc823ec140b5926 p193 (by decide +kernel)
theorem p195:Prime 0x5bc065010a97a162f78b610a077bb97b53886bb266481d591d2d02fd6aa2bf7392c391499b2d8f744518c799a7c35911a7:=pk [(0x18c61e9d6f5364020bfb6e04363013a05dc6efa02ece541f304622ec35a464bdcd07d18a2ce4ee8b39c6438bdbf,0,2)] ⟨p194,trivial⟩
theorem p196:Prime 0x1fffffffffffffffffffffffffffffffffffffffffffffffffffffffffffffffffa51868783bf2f966b7fcc0148f709a5d03bb5c9b8899c47aebb6fb71e91386409:=pk [(0x5bc065010a97a162f78b610a077bb97b53886bb266481d591d2d02fd6aa2bf7392c391499b2d8f744518c799a7c35911a7,0,2)] ⟨p195,trivial⟩
theorem p197:Prime 1627771:=tr 1277
theorem p198:Prime 297159362677:=pk [(1627771,0,2)] ⟨p197,trivial⟩
theorem p199:Prime 28181:=tr 169
theorem p200:Prime 545358713:=pk [(28181,0,2)] ⟨p199,trivial⟩
theorem p201:Prime 0x5ddb9f12ef6348a3e23ba5e3:=pk [(297159362677,0,2),(545358713,0,2)] ⟨p198,p200,trivial⟩
theorem p202:Prime 0x10dbff26eab8198050172ee03275:=pk [(0x5ddb9f12ef6348a3e23ba5e3,0,2)] ⟨p201,trivial⟩
theorem p203:Prime 120233:=tr 348
theorem p204:Prime 4051:=tr 65
theorem p205:Prime 59:=tr 9
theorem p206:Prime 0x978c6f353c3889a79:=pk [(120233,0,2),(4051,0,2),(59,0,2)] ⟨p203,p204,p205,trivial⟩
theorem p207:Prime 0xfffffffffffffffffffffffffffffffebaaedce6af48a03bbfd25e8cd0364141:=pk [(0x10dbff26eab8198050172ee03275,0,2),(0x978c6f353c3889a79,0,2)] ⟨p202,p206,trivial⟩
theorem p208:Prime 23561:=tr 155
theorem p209:Prime 623188451:=pk [(23561,0,2),(23,1,2)] ⟨p208,p104,trivial⟩
theorem p210:Prime 2465333512157:=pk [(623188451,0,2)] ⟨p209,trivial⟩
theorem p211:Prime 513157:=tr 718
theorem p212:Prime 181657579:=pk [(513157,0,2)] ⟨p211,trivial⟩
theorem p213:Prime 72663031601:=pk [(181657579,0,2)] ⟨p212,trivial⟩
theorem p214:Prime 3244753:=tr 1803
theorem p215:Prime 0xe95e4a5f737059dc60df5991d45029409e60fc09:=pk [(2465333512157,0,2),(72663031601,0,2),(3244753,0,2)] ⟨p210,p213,p214,trivial⟩
theorem p216:Prime 440717:=tr 665
theorem p217:Prime 37901663:=pk [(440717,0,2)] ⟨p216,trivial⟩
theorem p218:Prime 73831150867459:=pk [(37901663,0,2)] ⟨p217,trivial⟩
theorem p219:Prime 0x29b277c7ea3cfd1e0d3a47b:=pk [(73831150867459,0,2)] ⟨p218,trivial⟩
theorem p220:Prime 0x1a0f8adcf2661e32c8446ccf:=pk [(0x29b277c7ea3cfd1e0d3a47b,0,2)] ⟨p219,trivial⟩
theorem p221:Prime 0xc6b682d4b84aa6433709bdaa7:=pk [(0x1a0f8adcf2661e32c8446ccf,0,2)] ⟨p220,trivial⟩
theorem p222:Prime 0x36981842a14821a973ac32496c7224175:=pk [(0xc6b682d4b84aa6433709bdaa7,0,2)] ⟨p221,trivial⟩
theorem p223:Prime 0x15cb7c2acf333e6cb3440e230cf50edfac7d6897b:=pk [(0x36981842a14821a973ac32496c7224175,0,2)] ⟨p222,trivial⟩
theorem p224:Prime 0x35360ff2b80cad431f9779ded196af7ff46e2d73c641c8e9b767f9:=pk [(0x15cb7c2acf333e6cb3440e230cf50edfac7d6897b,0,2)] ⟨p223,trivial⟩
theorem p225:Prime 0xd7c134aa264366862a18302575d0fb98d116bc4b6ddebca3a5a7939f:=pk [(0x35360ff2b80cad431f9779ded196af7ff46e2d73c641c8e9b767f9,0,2)] ⟨p224,trivial⟩
theorem p226:Prime 50123:=tr 225
theorem p227:Prime 41802583:=pk [(50123,0,2)] ⟨p226,trivial⟩
theorem p228:Prime 1674656872585139:=pk [(41802583,0,2)] ⟨p227,trivial⟩
theorem p229:Prime 0x9d8a713e188c192e9ca5e9:=pk [(1674656872585139,0,2)] ⟨p228,trivial⟩
theorem p230:Prime 0x140b38decf9587c8ef4f700ed3dcb3ccf611f75d:=pk [(0x9d8a713e188c192e9ca5e9,0,2)] ⟨p229,trivial⟩
theorem p231:Prime 0x97184e188ff096e0377725d5e1587dba43c1509184c8946a47372957a2eaf7b:=pk [(0x140b38decf9587c8ef4f700ed3dcb3ccf611f75d,0,2)] ⟨p230,trivial⟩
theorem p232:Prime 0xa9fb57dba1eea9bc3e660a909d838d718c397aa3b561a6f7901e0e82974856a7:=pk [(0x97184e188ff096e0377725d5e1587dba43c1509184c8946a47372957a2eaf7b,0,2)] ⟨p231,trivial⟩
theorem p233:Prime 44029:=tr 211
theorem p234:Prime 1872641429:=pk [(44029,0,2)] ⟨p233,trivial⟩
theorem p235:Prime 23713516839944203:=pk [(1872641429,0,2)] ⟨p234,trivial⟩
theorem p236:Prime 174197:=tr 419
theorem p237:Prime 39251:=tr 200
theorem p238:Prime 205122193411:=pk [(174197,0,2),(39251,0,2)] ⟨p236,p237,trivial⟩
theorem p239:Prime 4161929304309191:=pk [(205122193411,0,2)] ⟨p238,trivial⟩
theorem p240:Prime 0x9f4874bc41f2fdb63033910fd5d702829081d89:=pk [(23713516839944203,0,2),(4161929304309191,0,2)] ⟨p235,p239,trivial⟩
theorem p241:Prime 0xd35f3a55f84e683adb4227a56fb89f1088637339c8f29ef6b53d13b06c945:=pk [(0x9f4874bc41f2fdb63033910fd5d702829081d89,0,2)] ⟨p240,trivial⟩
theorem p242:Prime 0x277aa8a57aa006bc2d57f2a33ccf5d60c3e2aa77db6815439d572e5659c8b2821848ff:=pk [(0xd35f3a55f84e683adb4227a56fb89f1088637339c8f29ef6b53d13b06c945,0,2)] ⟨p241,trivial⟩
theorem p243:Prime 0xd35e472036bc4fb7e13c785ed201e065f98fcfa5b68f12a32d482ec7ee8658e98691555b44c59311:=pk [(0x277aa8a57aa006bc2d57f2a33ccf5d60c3e2aa77db6815439d572e5659c8b2821848ff,0,2)] ⟨p242,trivial⟩
theorem p244:Prime 9341:=tr 98
theorem p245:Prime 1049:=tr 34
theorem p246:Prime 49393939847159:=pk [(9341,0,2),(1049,0,2)] ⟨p244,p245,trivial⟩
theorem p247:Prime 103:=tr 12
theorem p248:Prime 11594917:=pk [(103,0,2),(59,0,2)] ⟨p247,p205,trivial⟩
theorem p249:Prime 1093:=tr 35
theorem p250:Prime 0x7d0f022c4877a25d14a02162553b1d77828b73:=pk [(49393939847159,0,2),(11594917,0,2),(1093,0,2)] ⟨p246,p248,p249,trivial⟩
theorem p251:Prime 0x6fe82d0c4c922226198454a994922dc5efcb38d99536f:=pk [(0x7d0f022c4877a25d14a02162553b1d77828b73,0,2)] ⟨p250,trivial⟩
theorem p252:Prime 0x3809cdb2a6204bdd7ba9556dcd0a4aa9a842b6daf47a47bf5ded:=pk [(0x6fe82d0c4c922226198454a994922dc5efcb38d99536f,0,2)] ⟨p251,trivial⟩
theorem p253:Prime 0x8cb91e82a3386d280f5d6f7e50e641df152f7109ed5456b31f166e6cac0425a7cf3ab6af6b7fc3103b883202e9046565:=pk [(0x3809cdb2a6204bdd7ba9556dcd0a4aa9a842b6daf47a47bf5ded,0,2)] ⟨p252,trivial⟩
theorem p254:Prime 1171601:=tr 1084
theorem p255:Prime 140592121:=pk [(1171601,0,2)] ⟨p254,trivial⟩
theorem p256:Prime 6599675343983:=pk [(140592121,0,2)] ⟨p255,trivial⟩
theorem p257:Prime 0x1e096d7183a3958e7c7e1:=pk [(6599675343983,0,2)] ⟨p256,trivial⟩
theorem p258:Prime 1288691:=tr 1137
theorem p259:Prime 4289:=tr 67
theorem p260:Prime 0x289b61d54fd4a6008921:=pk [(1288691,0,2),(4289,0,2),(3,0,2),(2,4,5)] ⟨p258,p259,p17,p18,trivial⟩
theorem p261:Prime 0x2f50881d86460e435635d27d1dd584311aa1a9ddc9ccd5d30bf01f29:=pk [(0x1e096d7183a3958e7c7e1,0,2),(0x289b61d54fd4a6008921,0,2)] ⟨p257,p260,trivial⟩
theorem p262:Prime 0x2cc0ce4317d34382ceb69ac9a59da805ebfee7cd3b7a4b7ec695df3e047532eda96bb1c592a6a7f:=pk [(0x2f50881d86460e435635d27d1dd584311aa1a9ddc9ccd5d30bf01f29,0,2)] ⟨p261,trivial⟩
theorem p263:Prime 0xaadd9db8dbe9c48b3fd4e6ae33c9fc07cb308db3b3c9d20ed6639cca70330870553e5c414ca92619418661197fac10471db1d381085ddaddb58796829ca90069:=pk [(0x2cc0ce4317d34382ceb69ac9a59da805ebfee7cd3b7a4b7ec695df3e047532eda96bb1c592a6a7f,0,2)] ⟨p262,trivial⟩
theorem p264:Prime 229:=tr 17
theorem primeP1:Prime 0xfffffffffffffffffffffffffffffffeffffffffffffffff:=p11
theorem primeN1:Prime 0xffffffffffffffffffffffff99def836146bc9b1b4d22831:=p149
theorem primeP2:Prime 0xffffffffffffffffffffffffffffffff000000000000000000000001:=p19
theorem primeN2:Prime 0xffffffffffffffffffffffffffff16a2e0b8f03e13dd29455c5c2a3d:=p158
theorem primeP3:Prime 0xffffffff00000001000000000000000000000000ffffffffffffffffffffffff:=p29
theorem primeN3:Prime 0xffffffff00000000ffffffffffffffffbce6faada7179e84f3b9cac2fc632551:=p169
theorem primeP4:Prime 0xfffffffffffffffffffffffffffffffffffffffffffffffffffffffffffffffeffffffff0000000000000000ffffffff:=p46
theorem primeN4:Prime 0xffffffffffffffffffffffffffffffffffffffffffffffffc7634d81f4372ddf581a0db248b0a77aecec196accc52973:=p183
theorem primeP5:Prime 0x1ffffffffffffffffffffffffffffffffffffffffffffffffffffffffffffffffffffffffffffffffffffffffffffffffffffffffffffffffffffffffffffffffff:=p68
theorem primeN5:Prime 0x1fffffffffffffffffffffffffffffffffffffffffffffffffffffffffffffffffa51868783bf2f966b7fcc0148f709a5d03bb5c9b8899c47aebb6fb71e91386409:=p196
theorem primeP6:Prime 0xfffffffffffffffffffffffffffffffffffffffffffffffffffffffefffffc2f:=p76
theorem primeN6:Prime 0xfffffffffffffffffffffffffffffffebaaedce6af48a03bbfd25e8cd0364141:=p207
theorem primeP7:Prime 0xe95e4a5f737059dc60dfc7ad95b3d8139515620f:=p83
theorem primeN7:Prime 0xe95e4a5f737059dc60df5991d45029409e60fc09:=p215
theorem primeP8:Prime 0xd7c134aa264366862a18302575d1d787b09f075797da89f57ec8c0ff:=p91
theorem primeN8:Prime 0xd7c134aa264366862a18302575d0fb98d116bc4b6ddebca3a5a7939f:=p225
theorem primeP9:Prime 0xa9fb57dba1eea9bc3e660a909d838d726e3bf623d52620282013481d1f6e5377:=p99
theorem primeN9:Prime 0xa9fb57dba1eea9bc3e660a909d838d718c397aa3b561a6f7901e0e82974856a7:=p232
theorem primeP10:Prime 0xd35e472036bc4fb7e13c785ed201e065f98fcfa6f6f40def4f92b9ec7893ec28fcd412b1f1b32e27:=p112
theorem primeN10:Prime 0xd35e472036bc4fb7e13c785ed201e065f98fcfa5b68f12a32d482ec7ee8658e98691555b44c59311:=p243
theorem primeP11:Prime 0x8cb91e82a3386d280f5d6f7e50e641df152f7109ed5456b412b1da197fb71123acd3a729901d1a71874700133107ec53:=p126
theorem primeN11:Prime 0x8cb91e82a3386d280f5d6f7e50e641df152f7109ed5456b31f166e6cac0425a7cf3ab6af6b7fc3103b883202e9046565:=p253
theorem primeP12:Prime 0xaadd9db8dbe9c48b3fd4e6ae33c9fc07cb308db3b3c9d20ed6639cca703308717d4d9b009bc66842aecda12ae6a380e62881ff2f2d82c68528aa6056583a48f3:=p138
theorem primeN12:Prime 0xaadd9db8dbe9c48b3fd4e6ae33c9fc07cb308db3b3c9d20ed6639cca70330870553e5c414ca92619418661197fac10471db1d381085ddaddb58796829ca90069:=p263
theorem primeP13:Prime 251:=p139
theorem primeN13:Prime 223:=p54
theorem primeP14:Prime 241:=p140
theorem primeN14:Prime 211:=p42
theorem primeP15:Prime 239:=p141
theorem primeN15:Prime 229:=p264
end Pr
