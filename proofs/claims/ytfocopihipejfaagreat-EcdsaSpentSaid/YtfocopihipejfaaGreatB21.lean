/-
  This text proves what these texts prove: Oo, Op, Ja, Jb. Conditions: those of each theorem.
-/
import Derived.Test.YtfocopihipejfaaGreatB20
import Derived.Test.YtfocopihipejfaaGreatB11
set_option maxHeartbeats 8000000
set_option linter.all false
namespace Go.Proofs.YtfocopihipejfaaGreat
open Go.Vg Go.RowKit
set_option maxRecDepth 200000
set_option cbv.maxSteps 100000000
structure Sg where
 r:Nat
 s:Nat
 t:Nat
 c:Nat
 g:Sh.Dr
def K'(c x:Nat):Nat:=qz (EC.smul EC.aN (EC.ca c) x (EC.G c))%EC.cn c
def G7(c x:Nat):Nat:=Pr.G2 x (EC.cn c-2) (EC.cn c)
def O_(c e d x:Nat):Nat:=(e+K' c x*d%EC.cn c)%EC.cn c*G7 c x%EC.cn c
def Cu(i:Nat)(A:Sg):Sg:=⟨A.r,A.s,A.t+i,A.c,A.g⟩
def EK(c e d x:Nat):Prop:=(x≠0/\x<EC.cn c)/\K' c x≠0/\O_ c e d x≠0
instance (c e d x:Nat):Decidable (EK c e d x):=by unfold EK;infer_instance
def o_(sz sh c e d:Nat):Nat->Sh.Dr->Sg
 |0,D=>⟨0,0,0,2604,D⟩
 |f+1,D=>if 64<D.n then⟨0,0,0,2603,D⟩else
   if EK c e d (tryD sz sh D).1 then⟨K' c (tryD sz sh D).1,O_ c e d (tryD sz sh D).1,1,0,(tryD sz sh D).2⟩else
    Cu 1 (o_ sz sh c e d f (tryD sz sh D).2)
theorem apX{c x:Nat}(h0:x≠0)(hl:x<EC.cn c):G7 c x<EC.cn c/\G7 c x*x%EC.cn c=1:=by
 have hp:=EC.A0 c
 have h2:=hp.1
 unfold G7
 rw[Pr.O1 (by omega)]
 refine⟨ax _ (by omega),?_⟩
 rw[tT,<-br,show(EC.cn c-2).succ=EC.cn c-1 by omega]
 exact Pr.Iv hp fun h=>by have:=mg (by omega) h;omega
theorem VT(sz sh c e d:Nat):∀f {D:Sh.Dr},Sh.Ok D->Sh.Ok (o_ sz sh c e d f D).g/\(o_ sz sh c e d f D).g.id=D.id/\(o_ sz sh c e d f D).g.n<=D.n+f/\(o_ sz sh c e d f D).r<EC.cn c/\(o_ sz sh c e d f D).s<EC.cn c/\(o_ sz sh c e d f D).t<=f
 |0,D,h=>⟨h,rfl,aE _,by have:=(EC.A0 c).1;show 0<_;omega,by have:=(EC.A0 c).1;show 0<_;omega,aE _⟩
 |f+1,D,h=>by
  have h0:0<EC.cn c:=by have:=(EC.A0 c).1;omega
  unfold o_
  split
  ·exact⟨h,rfl,P2 _ _,h0,h0,bf _⟩
  ·have hg:=aaA h sz
   obtain⟨g1,g2⟩:=aaz D sz
   split
   ·exact⟨hg,g1,by show(tryD sz sh D).2.n<=_;unfold tryD;rw[g2];omega,ax _ h0,ax _ h0,by show 1<=f+1;omega⟩
   ·obtain⟨m1,m2,m3,m4,m5,m6⟩:=VT sz sh c e d f (D:=(tryD sz sh D).2) hg
    have e1:(tryD sz sh D).2.id=D.id:=g1
    have e2:(tryD sz sh D).2.n=D.n+1:=g2
    exact⟨m1,by show(o_ sz sh c e d f (tryD sz sh D).2).g.id=_;rw[m2,e1],by show(o_ sz sh c e d f (tryD sz sh D).2).g.n<=_;omega,m4,m5,by show _+1<=f+1;omega⟩
theorem apY(i:Nat)(A:Sg):Cu i (Cu 1 A)=Cu (i+1) A:=by
 unfold Cu
 simp only[Sg.mk.injEq,true_and,and_true]
 omega
theorem aqX{D:Sh.Dr}{sz s8:Nat}(aJ:sz<=72):(tryD sz s8 D).1<0x10000000000000000^9:=by
 show Sh.word (Sh.generate D sz []).1/2^s8<_
 refine eB (gq _ _) (cg (Lv ?_) ?_)
 ·intro x hx
  unfold Sh.generate at hx
  exact Sh.IA _ _ _ _ x (xO hx)
 ·refine eH (cV (by decide) (show _<=72 from ?_)) (show 256^72<=_ by decide)
  unfold Sh.generate
  rw[eY];omega
theorem agW{P:Program}(hP:P=Tryz.prog)(c:Nat)(hc:1<=c/\c<=15)(nb sz s8:Nat)(JR:ig (EC.cn c) nb)(aJ:sz=(nb+7)/8)(j7:s8=8*sz-nb)(id:Nat)(hid:1<=id/\id<=2)(msg:ByteArray)(oT:msg.size<140737488353000)(d:Nat->Nat)(wd:Wn 9 d)(mA:V 9 d≠0)(re:V 9 d<EC.cn c)
 (k v:ByteArray) (n:Nat) (jd:k.size=Sh.size 2) (iz:v.size=Sh.size 2) (hn:n<2^30)
 (R:Sg) (hR:R=o_ sz s8 c (zF nb (EC.cn c) id (bl msg)) (V 9 d) 64 ⟨2,bl k,bl v,n⟩) (r s:Nat->Nat) (wr:Wn 9 r) (PG:Wn 9 s) (vr:V 9 r=R.r) (vs:V 9 s=R.s) (k' v':ByteArray) (dF:bl k'=R.g.k) (jv:bl v'=R.g.v):
 ah P 38 [.cR,.int .i64 (.ofNat c),.int .i64 (.ofNat id),.agg (ws d 9),.str msg,.ptr 0 0] [⟨0,[.int .i64 (.ofNat 2),.str k,.str v,.int .i64 (.ofNat n)],134⟩] 1 [0]
  (fun w L q=>w= .aR [.agg (ws r 9++ws s 9),.int .i64 (.ofNat R.t),.int .i64 (.ofNat R.c)]/\L=[⟨0,[.int .i64 (.ofNat 2),.str k',.str v',.int .i64 (.ofNat R.g.n)],134⟩]/\q=1):=by
 have oN:1<=id/\id<=4:=⟨hid.1,by omega⟩
 obtain⟨p,dv,m,s1,a,b,nw,gx,gy,th,bits,size,hC,hD,hO⟩:=De hP c hc (rL c) rfl
 obtain⟨leg,mD⟩:=aa (rL c)
 rw[<-mD]at hO
 have D1:=zD hc hC
 have h0:0<EC.cn c:=by omega
 have ab:EC.cn c<0x10000000000000000^9:=by rw[<-D1];exact eg hC.wn
 have q9:bits=nb:=hC.bits.uniq (by rw[<-(tK hc).2.2.2.1];exact JR)
 subst q9
 have Ad:=Mp hc hC
 have lv:=ZP hc hC
 have IN:=Dc hP c p a b nw gx gy th d bits size leg hC.wn wd true (by rw[D1,eh mA,eh re];rfl)
 obtain⟨eN,Gf⟩:=aa (zF bits (EC.cn c) id (bl msg))
 rw[<-Gf]at hR
 have wJ:eN<EC.cn c:=by rw[Gf];exact ax _ h0
 obtain⟨eW,CC,xI⟩:=cD 9 eN (cT wJ ab)
 have II:=QI hc hC (d:=dv) (m:=m) (s:=s1) (leg:=leg) hP id hid msg oT eW CC (by rw[xI,Gf])
 have kS:=Zu hc hC (d:=dv) (m:=m) (s:=s1) (leg:=leg) hP
 have pq:=Db hP id _ _ _ (HK.at oN)
 obtain⟨hz,hhz⟩:=aa (Sh.size id)
 have Oa:0<hz:=by have:=(Sh.mQ oN).2.2.2;omega
 rw[<-hhz]at pq
 have jf:Sh.Ok ⟨2,bl k,bl v,n⟩:=⟨(by show 1<=2/\2<=4;decide),by rw[bh,jd],by rw[bh,iz],i' k,i' v⟩
 obtain⟨m1,m2,m3,m4,m5,m6⟩:=VT sz s8 c eN (V 9 d) 64 jf
 rw[<-hR]at m1 m2 m3 m4 m5 m6
 refine ah.dj (R:=fun w L q=>w= .aR [.agg (ws r 9++ws s 9),.int .i64 (.ofNat R.t),.int .i64 (.ofNat R.c)]/\find L 0=some ⟨0,[.int .i64 (.ofNat 2),.str k',.str v',.int .i64 (.ofNat R.g.n)],134⟩) ?_ fun w L q ⟨h1,h2⟩=>⟨_root_.id,.aR [.agg (ws r 9++ws s 9),.int .i64 (.ofNat R.t),.int .i64 (.ofNat R.c)],_,1,by subst h1;exact fD ⟨rfl,rfl,trivial⟩ ⟨h2,rfl,rfl,trivial⟩ rfl rfl,rfl,rfl,rfl⟩
 have fin:∀ (x y:Nat->Nat) (k1 v1:ByteArray) (n1 i e:Nat),Wn 9 x->Wn 9 y->V 9 x=R.r->V 9 y=R.s->bl k1=R.g.k->bl v1=R.g.v->n1=R.g.n->i=R.t->e=R.c->ws x 9=ws r 9/\ws y 9=ws s 9/\k1=k'/\v1=v'/\n1=R.g.n/\i=R.t/\e=R.c:=fun x y k1 v1 n1 i e h1 h2 h3 h4 h5 h6 h7 h8 h9=>
  ⟨kx h1 wr (h3.trans vr.symm),kx h2 PG (h4.trans vs.symm),ph (h5.trans dF.symm),ph (h6.trans jv.symm),h7,h8,h9⟩
 obtain⟨tr,BZ⟩:=aa R.t
 obtain⟨co,yD⟩:=aa R.c
 obtain⟨nr,Ap⟩:=aa R.g.n
 rw[<-BZ,<-yD,<-Ap]at fin⊢
 have z9:Wn 9 (fun _=>0):=fun _ _=>by show 0<0x10000000000000000;decide
 have zV:V 9 (fun _=>0)=0:=rfl
 clear dF jv vr vs m1 m2 m3 m4 m5 m6
 refine aq hP Tryz.func38 (ak _ rfl) (aD rfl) ?_
 intro A g K hA hg hK
 obtain⟨bin,_,cmp,_,_,_,nn,_,fQ⟩:=A
 have f1:fQ true=false:=ln hA true
 have f0:fQ false=true:=ln hA false
 have e1:cmp .eql (.ofNat hz) 0=false:=ja hA (b:=0) (by omega)
 have e2:∀i,i<64->cmp .lss (.ofNat i) 64=true:=fun i h=>cZ hA (b:=64) h
 have uf:cmp .lss (.ofNat 64) 64=false:=bM hA (a:=64) (b:=64) (by omega)
 have e3:cmp .neq 1103 0=true:=yX hA (a:=1103) (b:=0) (by decide)
 have e4:cmp .neq 0 0=false:=ow hA (a:=0) (b:=0) rfl
 have e5:∀i,i<64->bin .add .i64 (.ofNat i) 1=Int.ofNat (i+1):=fun i h=>gP hA (by omega)
 cbv
 refine bq hg hO _root_.id trivial ?_
 cbv
 refine dJ hg pq ?_
 cbv
 rw[e1]
 cbv
 refine aZ hg IN (fun l=>l+3) ⟨rfl,trivial⟩ ?_
 cbv
 rw[f1]
 cbv
 refine gQ rfl hg rfl rfl kS (fun l=>l+3) rfl ⟨rfl,rfl,rfl,trivial⟩ rfl rfl rfl ?_
 rintro _ _ _ ⟨nn,less,rr,dr,rfl,rfl,rfl⟩ _
 refine⟨rfl,?_⟩
 simp only[aG,ae _ (Ez nw nn less rr 0)]
 cbv
 refine aZ hg II (fun l=>l+3) ⟨rfl,rfl,rfl,trivial⟩ ?_
 cbv
 refine bH (Nat×ByteArray×ByteArray×Nat) (fun σ=>σ.1<=64/\σ.2.1.size=Sh.size 2/\σ.2.2.1.size=Sh.size 2/\σ.2.2.2<=n+σ.1/\R=Cu σ.1 (o_ sz s8 c eN (V 9 d) (64-σ.1) ⟨2,bl σ.2.1,bl σ.2.2.1,σ.2.2.2⟩)) (fun σ=>64-σ.1)
  (fun σ=> [(51,.int .i64 (.ofNat σ.1))]) [0,5,9,12,15,16,17] (fun σ=> [(0,[.int .i64 (.ofNat 2),.str σ.2.1,.str σ.2.2.1,.int .i64 (.ofNat σ.2.2.2)])]) (0,k,v,n) ⟨bf _,jd,iz,aE _,by rw[hR];rfl⟩ ?_ ?_
 ·exact a_
 rintro⟨i,k1,v1,n1⟩ ⟨hi,dM,gD,iy,iR⟩
 change i<=64 at hi
 change k1.size=Sh.size 2 at dM
 change v1.size=Sh.size 2 at gD
 change n1<=n+i at iy
 change R=Cu i (o_ sz s8 c eN (V 9 d) (64-i) ⟨2,bl k1,bl v1,n1⟩)at iR
 by_cases hl:i<64
 ·rw[show 64-i=(64-(i+1))+1 by omega,o_]at iR
  by_cases RI:64<n1
  ·rw[aj (show 64<(⟨2,bl k1,bl v1,n1⟩:Sh.Dr).n from RI)]at iR
   have hT:=ag6 hP c (p:=p) (a:=a) (b:=b) (nn:=nw) (gx:=gx) (gy:=gy) (th:=th) (size:=size) leg Ad 2 k1 v1 n1 RI (by omega)
   obtain⟨q0,q1,q2,q3,q4,q5,q6⟩:=fin (fun _=>0) (fun _=>0) k1 v1 n1 i 2603 z9 z9 (by rw[iR];rfl) (by rw[iR];rfl) (by rw[iR];rfl) (by rw[iR];rfl) (by rw[Ap,iR];rfl) (by rw[BZ,iR];show i=0+i;omega) (by rw[yD,iR];rfl)
   cbv
   rw[e2 i hl]
   cbv
   refine aZ hg hT (fun l=>if l=0 then 3 else if l=1 then 4 else 0) ⟨rfl,rfl,trivial⟩ ?_
   cbv
   rw[e3]
   cbv
   refine hK _ _ _ ⟨?_,?_⟩
   ·rw[<-q0,<-q1,<-q5,<-q6];rfl
   ·rw[<-q2,<-q3,<-q4];rfl
  ·rw[af (show ¬64<(⟨2,bl k1,bl v1,n1⟩:Sh.Dr).n from RI)]at iR
   have Gv:Sh.Ok ⟨2,bl k1,bl v1,n1⟩:=⟨(by show 1<=2/\2<=4;decide),by rw[bh,dM],by rw[bh,gD],i' k1,i' v1⟩
   have mJ:(tryD sz s8 ⟨2,bl k1,bl v1,n1⟩).1<0x10000000000000000^9:=aqX (by omega)
   obtain⟨t,ht⟩:=aa (tryD sz s8 ⟨2,bl k1,bl v1,n1⟩)
   have NW:Sh.Ok t.2:=by rw[ht];exact aaA Gv sz
   have GB:t.2.id=2/\t.2.n=n1+1:=by rw[ht];exact aaz ⟨2,bl k1,bl v1,n1⟩ sz
   obtain⟨k2,fq⟩:∃x,bl x=t.2.k:=⟨ib t.2.k,gu NW.kb⟩
   obtain⟨v2,mK⟩:∃x,bl x=t.2.v:=⟨ib t.2.v,gu NW.vb⟩
   have T7:t.2=⟨2,bl k2,bl v2,n1+1⟩:=by rw[fq,mK,<-GB.1,<-GB.2]
   have ajR:k2.size=Sh.size 2:=by rw[<-bh,fq,NW.kl,GB.1]
   have ako:v2.size=Sh.size 2:=by rw[<-bh,mK,NW.vl,GB.1]
   rw[<-ht]at mJ iR
   obtain⟨x,wx,vx⟩:=cD 9 t.1 mJ
   obtain⟨q,hq⟩:=aa ((decide (V 9 x≠0)&&decide (V 9 x<V 9 nw)):Bool)
   have hT:=ag5 hP c leg hC Ad 2 (by decide) k1 v1 n1 sz s8 aJ j7 dM gD (by omega) k2 v2 (by rw[fq,ht]) (by rw[mK,ht]) x wx (by rw[vx,ht]) q hq
   have f4:bin .add .i64 (.ofNat n1) 1=Int.ofNat (n1+1):=gP hA (by omega)
   rw[vx,D1]at hq
   -- the try that goes on
   have next:¬EK c eN (V 9 d) t.1->(i+1<=64/\k2.size=Sh.size 2/\v2.size=Sh.size 2/\n1+1<=n+(i+1)/\R=Cu (i+1) (o_ sz s8 c eN (V 9 d) (64-(i+1)) ⟨2,bl k2,bl v2,n1+1⟩)):=fun h=>⟨hl,ajR,ako,by omega,by
    rw[af h,apY,T7]at iR;exact iR⟩
   cases q with
   |false=>
    have pC:¬EK c eN (V 9 d) t.1:=fun h=>by rw[eh h.1.1,eh h.1.2]at hq;cases hq
    have kG:=next pC
    clear hq vx ht T7 iR next
    cbv
    rw[e2 i hl]
    cbv
    refine bq hg hT (fun l=>if l=0 then 3 else if l=1 then 4 else 0) ⟨rfl,rfl,trivial⟩ ?_
    cbv
    rw[e4]
    cbv
    rw[f0]
    cbv
    rw[e5 i hl]
    refine⟨(i+1,k2,v2,n1+1),_root_.id,kG,(by show 64-(i+1)<64-i;omega),?_⟩
    exact a_
   |true=>
    have eP:t.1≠0/\t.1<EC.cn c:=by simpa using hq.symm
    obtain⟨Q,hQ⟩:=aa (EC.smul EC.aN (EC.ca c) (V 9 x) (EC.G c))
    obtain⟨X,wX,vX⟩:=cD 9 (qz Q) (cT (K2 Q) (pV hc))
    obtain⟨Y,wY,vY⟩:=cD 9 (uP Q) (cT (K3 Q) (pV hc))
    obtain⟨inf,Gh⟩:=aa (uO Q)
    have hB:=afR hc hC (leg:=leg) hP hD x wx (by rw[vx];exact cT eP.2 lv) (x:=X) (y:=Y) (inf:=inf) (by rw[<-hQ];exact⟨wX,wY,vX,vY,Gh⟩)
    obtain⟨z,wz,vz⟩:=cD 9 (K' c t.1) (cT (ax _ h0) ab)
    have nD:V 9 z<EC.cn c:=by rw[vz];exact ax _ h0
    have wD:=QT hc hC (d:=dv) (m:=m) (s:=s1) (leg:=leg) hP X z wX wz (by rw[vz,vX,hQ,vx];rfl)
    obtain⟨u1,Ly,CA⟩:=cD 9 (V 9 z*V 9 d%EC.cn c) (cT (ax _ h0) ab)
    obtain⟨u2,Lz,CB⟩:=cD 9 ((V 9 eW+V 9 u1)%EC.cn c) (cT (ax _ h0) ab)
    obtain⟨kD,hiV⟩:=apX eP.1 eP.2
    obtain⟨w,ww,vw⟩:=cD 9 (G7 c t.1) (cT kD ab)
    obtain⟨u3,XO,W6⟩:=cD 9 (V 9 u2*V 9 w%EC.cn c) (cT (ax _ h0) ab)
    have akl:V 9 u1<EC.cn c:=by rw[CA];exact ax _ h0
    have akm:V 9 u2<EC.cn c:=by rw[CB];exact ax _ h0
    have xf:V 9 w<EC.cn c:=by rw[vw];exact kD
    have ajI:V 9 eW<EC.cn c:=by rw[xI];exact wJ
    have yj:=My hc hC (d:=dv) (m:=m) (s:=s1) (leg:=leg) dr hP z d u1 wz wd Ly nD re CA
    have kR:=afO hc hC (d:=dv) (m:=m) (s:=s1) (leg:=leg) dr hP eW u1 u2 CC Ly Lz ajI akl CB
    have hI:=Zj hc hC (d:=dv) (m:=m) (s:=s1) (leg:=leg) dr hP x w wx ww (by rw[vx];exact eP.2) (by rw[vx];exact vF eP.1) xf (by rw[vw,vx];exact hiV)
    have yk:=My hc hC (d:=dv) (m:=m) (s:=s1) (leg:=leg) dr hP u2 w u3 Lz ww XO akm xf W6
    have W5:V 9 u3=O_ c eN (V 9 d) t.1:=by rw[W6,CB,vw,CA,vz,xI];rfl
    obtain⟨g1,jW⟩:=aa (!lP z (fun _=>0))
    obtain⟨g2,uA⟩:=aa (!lP u3 (fun _=>0))
    have aaX:g1= !decide (K' c t.1=0):=by rw[jW,ug wz z9,vz,zV]
    have aaY:g2= !decide (O_ c eN (V 9 d) t.1=0):=by rw[uA,ug XO z9,W5,zV]
    have l7:EK c eN (V 9 d) t.1↔g1=true/\g2=true:=by
     rw[aaX,aaY];unfold EK
     simp[eP]
    have aiW:g1=true/\g2=true->ws z 9=ws r 9/\ws u3 9=ws s 9/\k2=k'/\v2=v'/\n1+1=nr/\i+1=tr/\0=co:=fun h=>by
     rw[aj (l7.2 h)]at iR
     have h9:=fin z u3 k2 v2 (n1+1) (i+1) 0 wz XO (by rw[vz,iR];rfl) (by rw[W5,iR];rfl) (by rw[fq,iR];rfl) (by rw[mK,iR];rfl) (by rw[Ap,iR,<-GB.2];rfl) (by rw[BZ,iR];show i+1=1+i;omega) (by rw[yD,iR];rfl)
     exact h9
    have GV:¬ (g1=true/\g2=true)->_:=fun h=>next fun h'=>h (l7.1 h')
    clear aaX aaY l7 next hq vx ht T7 iR vz W5 CA CB W6 vw hQ vX vY Gh hiV
    cbv
    rw[e2 i hl]
    cbv
    refine bq hg hT (fun l=>if l=0 then 3 else if l=1 then 4 else 0) ⟨rfl,rfl,trivial⟩ ?_
    cbv
    rw[e4]
    cbv
    rw[f1]
    cbv
    refine aZ hg hB (fun l=>l+3) ⟨rfl,rfl,rfl,trivial⟩ ?_
    cbv
    refine aZ hg wD (fun l=>l+3) ⟨rfl,rfl,rfl,trivial⟩ ?_
    cbv
    refine cm hP hA hg ?_
    cbv
    refine aY hg yj (fun l=>l+3) ⟨rfl,rfl,rfl,rfl,trivial⟩ ?_
    cbv
    refine aY hg kR (fun l=>l+3) ⟨rfl,rfl,rfl,rfl,trivial⟩ ?_
    cbv
    refine aY hg hI (fun l=>l+3) ⟨rfl,rfl,rfl,rfl,trivial⟩ ?_
    cbv
    refine aY hg yk (fun l=>l+3) ⟨rfl,rfl,rfl,rfl,trivial⟩ ?_
    cbv
    refine ad6 hP rfl hg rfl (a:=z) (b:=fun _=>0) jW rfl rfl ?_
    cases g1 with
    |false=>
     have kG:=GV (fun h=>by cases h.1)
     cbv
     rw[e5 i hl]
     refine⟨(i+1,k2,v2,n1+1),_root_.id,kG,(by show 64-(i+1)<64-i;omega),?_⟩
     exact a_
    |true=>
     cbv
     refine ad6 hP rfl hg rfl (a:=u3) (b:=fun _=>0) uA rfl rfl ?_
     cases g2 with
     |false=>
      have kG:=GV (fun h=>by cases h.2)
      cbv
      rw[e5 i hl]
      refine⟨(i+1,k2,v2,n1+1),_root_.id,kG,(by show 64-(i+1)<64-i;omega),?_⟩
      exact a_
     |true=>
      obtain⟨q0,q1,q2,q3,q4,q5,q6⟩:=aiW ⟨rfl,rfl⟩
      cbv
      rw[e5 i hl]
      cbv
      refine hK _ _ _ ⟨?_,?_⟩
      ·rw[<-q0,<-q1,<-q5,<-q6];rfl
      ·rw[<-q2,<-q3,<-q4];rfl
 ·obtain rfl:i=64:=by omega
  obtain⟨q0,q1,q2,q3,q4,q5,q6⟩:=fin (fun _=>0) (fun _=>0) k1 v1 n1 64 2604 z9 z9 (by rw[iR];rfl) (by rw[iR];rfl) (by rw[iR];rfl) (by rw[iR];rfl) (by rw[Ap,iR];rfl) (by rw[BZ,iR];rfl) (by rw[yD,iR];rfl)
  cbv
  rw[uf]
  cbv
  refine hK _ _ _ ⟨?_,?_⟩
  ·rw[<-q0,<-q1,<-q5,<-q6];rfl
  ·rw[<-q2,<-q3,<-q4];rfl
section
variable {P:Program}(hP:P=Tryz.prog)(k:Nat)(hk:1<=k/\k<=15)(msg:ByteArray)(e:Nat->Nat)
include hP hk
theorem agZ(x:Int):ah P 38 [.cR,.int .i64 (.ofNat k),.int .i64 x,.agg (ws e 9),.str msg,.cR] [] 0 [] (fun w _ _=>w= .aR [.agg (ws (fun _=>0) 9++ws (fun _=>0) 9),.int .i64 0,.int .i64 1]):=by
 obtain⟨p,d,m,s,a,b,n,gx,gy,th,bits,size,hC,hD,hO⟩:=De hP k hk (rL k) rfl
 obtain⟨leg,mD⟩:=aa (rL k)
 rw[<-mD]at hO
 refine aq hP Tryz.func38 (ak _ rfl) (aD rfl) ?_
 intro A g K hA hg hK
 cases A
 cbv
 refine bq hg hO _root_.id trivial ?_
 cbv
 exact hK _ _ _ rfl
variable (G:List SV)(bG:∀m,an m G=true)
include bG
theorem agX(x:Int)(hS:ah P 52 [.int .i64 x] [] 0 [] (fun v _ _=>v= .int .i64 0)):ah P 38 [.cR,.int .i64 (.ofNat k),.int .i64 x,.agg (ws e 9),.str msg,.ptr 0 0] [⟨0,G,134⟩] 1 [] (fun w _ _=>w= .aR [.agg (ws (fun _=>0) 9++ws (fun _=>0) 9),.int .i64 0,.int .i64 2601]):=by
 obtain⟨p,d,m,s,a,b,n,gx,gy,th,bits,size,hC,hD,hO⟩:=De hP k hk (rL k) rfl
 obtain⟨leg,mD⟩:=aa (rL k)
 rw[<-mD]at hO
 refine aq hP Tryz.func38 (by simp[ay,bd,ws,aw]) (by simpa [ay,bd]using ak _ (bG 1)) ?_
 intro A g K hA hg hK
 obtain⟨_,_,cmp⟩:=A
 have e1:cmp .eql 0 0=true:=iP hA (a:=0) (b:=0) rfl
 cbv
 refine bq hg hO _root_.id trivial ?_
 cbv
 refine dJ hg hS ?_
 cbv
 rw[e1]
 cbv
 exact hK _ _ _ rfl
theorem agY(id:Nat)(hid:1<=id/\id<=2)(we:Wn 9 e)(he:¬ (V 9 e≠0/\V 9 e<EC.cn k)):ah P 38 [.cR,.int .i64 (.ofNat k),.int .i64 (.ofNat id),.agg (ws e 9),.str msg,.ptr 0 0] [⟨0,G,134⟩] 1 [] (fun w _ _=>w= .aR [.agg (ws (fun _=>0) 9++ws (fun _=>0) 9),.int .i64 0,.int .i64 2602]):=by
 obtain⟨p,d,m,s,a,b,n,gx,gy,th,bits,size,hC,hD,hO⟩:=De hP k hk (rL k) rfl
 obtain⟨leg,mD⟩:=aa (rL k)
 rw[<-mD]at hO
 have hf:false=(decide (V 9 e≠0)&&decide (V 9 e<V 9 n)):=by
  rw[zD hk hC]
  by_cases h:V 9 e≠0
  ·rw[da (show ¬V 9 e<EC.cn k from fun h2=>he ⟨h,h2⟩),Bool.and_false]
  ·rw[da h];rfl
 have IN:=Dc hP k p a b n gx gy th e bits size leg hC.wn we false hf
 have oN:1<=id/\id<=4:=⟨hid.1,by omega⟩
 have pq:=Db hP id _ _ _ (HK.at oN)
 obtain⟨sz,Ed⟩:=aa (Sh.size id)
 have Oa:0<sz:=by have:=(Sh.mQ oN).2.2.2;omega
 rw[<-Ed]at pq
 refine aq hP Tryz.func38 (by simp[ay,bd,ws,aw]) (by simpa [ay,bd]using ak _ (bG 1)) ?_
 intro A g K hA hg hK
 obtain⟨_,_,cmp,_,_,_,_,_,fQ⟩:=A
 have e1:cmp .eql (.ofNat sz) 0=false:=ja hA (b:=0) (by omega)
 have f0:fQ false=true:=ln hA false
 cbv
 refine bq hg hO _root_.id trivial ?_
 cbv
 refine dJ hg pq ?_
 cbv
 rw[e1]
 cbv
 refine aZ hg IN (fun l=>l+3) ⟨rfl,trivial⟩ ?_
 cbv
 rw[f0]
 cbv
 exact hK _ _ _ rfl
end
theorem af9{P:Program}(hP:P=Tryz.prog)(x:Int)(h1:x≠1)(h2:x≠2)(h3:x≠3)(h4:x≠4):ah P 100 [.int .i64 x] [] 0 [] (fun v _ _=>v= .aR [.agg [.int .i64 0,.int .i64 0,.int .i64 0],.bool false]):=by
 refine aq hP Tryz.func100 (ak _ rfl) (aD rfl) ?_
 intro A g K hA hg hK
 obtain⟨_,_,cmp⟩:=A
 have f:∀y:Int,x≠y->cmp .eql x y=false:=fun y h=>by
  rw[show cmp .eql x y=decide (x=y)from bg (bg (bg (kA hA) .eql) x) y,da h]
 cbv
 rw[f 1 h1]
 cbv
 rw[f 2 h2]
 cbv
 rw[f 3 h3]
 cbv
 rw[f 4 h4]
 cbv
 exact hK _ _ _ rfl
theorem af_{P:Program}(hP:P=Tryz.prog)(x:Int)(h1:x≠1)(h2:x≠2)(h3:x≠3)(h4:x≠4):ah P 52 [.int .i64 x] [] 0 [] (fun v _ _=>v= .int .i64 0):=by
 have hO:=af9 hP x h1 h2 h3 h4
 refine aq hP Tryz.func52 (ak _ rfl) (aD rfl) ?_
 intro A g K hA hg hK
 cases A
 cbv
 refine fe rfl hg rfl rfl hO ?_
 rintro _ _ _ rfl
 refine⟨by simp[bd,ay],?_⟩
 cbv
 exact hK _ _ _ rfl
theorem ya{P:Program}(hP:P=Tryz.prog)(x k:Nat)(hx:x<4294967296)(hk:1<=k/\k<32)(r:Nat)(hr:r=Sh.gm 32 x k):
 ah P 124 [.int .u32 (.ofNat x),.int .i64 (.ofNat k)] [] 0 [] (fun v _ _=>v= .int .u32 (.ofNat r)):=by
 obtain⟨k',dF⟩:=aa (32-k)
 obtain⟨u,hu⟩:=aa (x*2^k'%4294967296)
 obtain⟨w,hw⟩:=aa (x/2^k)
 have Ei:u<4294967296:=by rw[hu];exact ax _ (by decide)
 have xf:w<4294967296:=by rw[hw];exact eB (gq _ _) hx
 have ry:r=w|||u:=by
  rw[hr,Sh.gm,vG,Nat.shiftLeft_eq,hu,hw,dF]
 refine aq hP Tryz.func124 (ak _ rfl) (aD rfl) ?_
 intro A g K hA hg hK
 obtain⟨bin,sh,_,_,_,_,nn,_,_,_,_,_,_,_,_,_,_,_,sub⟩:=A
 have e3:nn (.ofNat k')=true:=kr hA k'
 have e4:sh .shl .u32 (.ofNat x) (.ofNat k')=Int.ofNat u:=(mP hA (k:= .u32) rfl x (s:=k') (by show k'<=32;omega)).trans (by rw[hu];rfl)
 have e5:bin .sub .i64 32 (.ofNat k)=Int.ofNat k':=(er hA (a:=32) (b:=k) (by omega) (by decide)).trans (by rw[dF])
 have e6:nn (.ofNat k)=true:=kr hA k
 have e7:sh .shr .u32 (.ofNat x) (.ofNat k)=Int.ofNat w:=(k_ hA (k:= .u32) (a:=x) (b:=k) (by show k<=32;omega)).trans (by rw[hw])
 have e8:bin .or .u32 (.ofNat w) (.ofNat u)=Int.ofNat r:=(l9 hA (k:= .u32) rfl (a:=w) (b:=u) xf Ei).trans (by rw[ry])
 cbv
 refine cf hP hA hg fun mk _=> ?_
 cbv
 rw[e6]
 cbv
 rw[e7,e5]
 cbv
 rw[e3]
 cbv
 rw[e4]
 cbv
 rw[e8]
 exact hK _ _ _ rfl
theorem QS{P:Program}(hP:P=Tryz.prog)(id:Nat)(h:1<=id/\id<=4)(z:Nat)(hz:z=Sh.size id):ah P 18 [.int .i64 (.ofNat id)] [] 0 [] (fun v _ _=>v= .int .i64 (.ofNat z)):=by
 refine aq hP Tryz.func18 (ak _ rfl) (aD rfl) ?_
 intro A g K hA hg hK
 obtain⟨_,_,cmp⟩:=A
 have t1:∀x,cmp .eql (.ofNat x) (.ofNat x)=true:=fun x=>iP hA (a:=x) (b:=x) rfl
 have f1:∀x y,x≠y->cmp .eql (.ofNat x) (.ofNat y)=false:=fun x y h=>ja hA (a:=x) (b:=y) h
 have H5:cmp .eql (.ofNat 2) 1=false:=f1 2 1 (by decide)
 have H7:cmp .eql (.ofNat 3) 1=false:=f1 3 1 (by decide)
 have H9:cmp .eql (.ofNat 4) 1=false:=f1 4 1 (by decide)
 have jr:cmp .eql (.ofNat 3) 2=false:=f1 3 2 (by decide)
 have H_:cmp .eql (.ofNat 4) 2=false:=f1 4 2 (by decide)
 have H':cmp .eql (.ofNat 4) 3=false:=f1 4 3 (by decide)
 have qS:cmp .eql (.ofNat 1) 1=true:=t1 1
 have H6:cmp .eql (.ofNat 2) 2=true:=t1 2
 have H8:cmp .eql (.ofNat 3) 3=true:=t1 3
 have Ia:cmp .eql (.ofNat 4) 4=true:=t1 4
 obtain rfl|rfl|rfl|rfl:id=1\/id=2\/id=3\/id=4:=by omega
 ·subst hz
  cbv
  rw[qS]
  cbv
  exact hK _ _ _ rfl
 ·subst hz
  cbv
  rw[H5]
  cbv
  rw[H6]
  cbv
  exact hK _ _ _ rfl
 ·subst hz
  cbv
  rw[H7]
  cbv
  rw[jr]
  cbv
  rw[H8]
  cbv
  exact hK _ _ _ rfl
 ·subst hz
  cbv
  rw[H9]
  cbv
  rw[H_]
  cbv
  rw[H']
  cbv
  rw[Ia]
  cbv
  exact hK _ _ _ rfl
theorem Zx{P:Program}(hP:P=Tryz.prog)(id:Nat)(h:1<=id/\id<=4)(z:Nat)(hz:z=Sh.vU id):ah P 70 [.int .i64 (.ofNat id)] [] 0 [] (fun v _ _=>v= .int .i64 (.ofNat z)):=by
 refine aq hP Tryz.func70 (ak _ rfl) (aD rfl) ?_
 intro A g K hA hg hK
 obtain⟨_,_,cmp⟩:=A
 have t1:∀x,cmp .eql (.ofNat x) (.ofNat x)=true:=fun x=>iP hA (a:=x) (b:=x) rfl
 have f1:∀x y,x≠y->cmp .eql (.ofNat x) (.ofNat y)=false:=fun x y h=>ja hA (a:=x) (b:=y) h
 have H5:cmp .eql (.ofNat 2) 1=false:=f1 2 1 (by decide)
 have H7:cmp .eql (.ofNat 3) 1=false:=f1 3 1 (by decide)
 have H9:cmp .eql (.ofNat 4) 1=false:=f1 4 1 (by decide)
 have jr:cmp .eql (.ofNat 3) 2=false:=f1 3 2 (by decide)
 have H_:cmp .eql (.ofNat 4) 2=false:=f1 4 2 (by decide)
 have H':cmp .eql (.ofNat 4) 3=false:=f1 4 3 (by decide)
 have qS:cmp .eql (.ofNat 1) 1=true:=t1 1
 have H6:cmp .eql (.ofNat 2) 2=true:=t1 2
 have H8:cmp .eql (.ofNat 3) 3=true:=t1 3
 have Ia:cmp .eql (.ofNat 4) 4=true:=t1 4
 obtain rfl|rfl|rfl|rfl:id=1\/id=2\/id=3\/id=4:=by omega
 ·subst hz
  cbv
  rw[qS]
  cbv
  exact hK _ _ _ rfl
 ·subst hz
  cbv
  rw[H5]
  cbv
  rw[H6]
  cbv
  exact hK _ _ _ rfl
 ·subst hz
  cbv
  rw[H7]
  cbv
  rw[jr]
  cbv
  rw[H8]
  cbv
  exact hK _ _ _ rfl
 ·subst hz
  cbv
  rw[H9]
  cbv
  rw[H_]
  cbv
  rw[H']
  cbv
  rw[Ia]
  cbv
  exact hK _ _ _ rfl
theorem agd{P:Program}(hP:P=Tryz.prog)(kf:Nat->Nat)(iU:kf=fun j=>Sh.aB.ks.getD j 0):ah P 72 [] [] 0 [] (fun v L q=>v= .slice 0 0 64 64/\L=[⟨0,aw .u32 (fun j=>Int.ofNat (kf j)) 0 64,88⟩]/\q=1):=by
 subst iU
 refine aq hP Tryz.func72 (ak _ rfl) (aD rfl) ?_
 intro A g K hA hg hK
 cases A
 cbv
 exact hK _ _ _ ⟨rfl,rfl,rfl⟩
theorem afS{P:Program}(hP:P=Tryz.prog)(id:Nat)(h0:Nat->Nat)(hb:(id=1/\aQ h0=Sh.i224)\/(id=2/\aQ h0=Sh.i256)):ah P 71 [.int .i64 (.ofNat id)] [] 0 [] (fun v L q=>v= .slice 0 0 8 8/\L=[⟨0,aw .u32 (fun j=>Int.ofNat (h0 j)) 0 8,88⟩]/\q=1):=by
 have fin:∀s,aQ h0=s->aw .u32 (fun j=>Int.ofNat (h0 j)) 0 8=aw .u32 (fun j=>Int.ofNat (wj s j)) 0 8:=fun s hs=>rK fun j _ hj=>by
  rw[Pb (hs.trans (G9 s).symm) j (by omega)]
 refine aq hP Tryz.func71 (ak _ rfl) (aD rfl) ?_
 intro A g K hA hg hK
 obtain⟨_,_,cmp⟩:=A
 rcases hb with⟨rfl,hs⟩|⟨rfl,hs⟩
 ·have e1:cmp .eql (.ofNat 1) 1=true:=iP hA (a:=1) (b:=1) rfl
  rw[fin _ hs]at hK
  cbv
  rw[e1]
  cbv
  exact hK _ _ _ ⟨rfl,rfl,rfl⟩
 ·have e1:cmp .eql (.ofNat 2) 1=false:=ja hA (a:=2) (b:=1) (by decide)
  rw[fin _ hs]at hK
  cbv
  rw[e1]
  cbv
  exact hK _ _ _ ⟨rfl,rfl,rfl⟩
theorem apW(m x i:Nat)(h:i<m):Vg.splice (dk (List.replicate i x++List.replicate (m-i) 0)) i [.int .u8 (.ofNat x)]=dk (List.replicate (i+1) x++List.replicate (m-(i+1)) 0):=by
 obtain⟨j,hj⟩:∃j,m-i=j+1:=⟨m-i-1,by omega⟩
 rw[hj,show m-(i+1)=j by omega,PX,Fv]
 simp only[Vg.splice,mU,pN]
 rw[CN (by rw[ml,jq]),show dk (List.replicate i x)++dk (0::List.replicate j 0)=(dk (List.replicate i x)++[SV.int .u8 (.ofNat 0)])++dk (List.replicate j 0) by simp[dk],PT (by rw[dI,ml,jq];rfl),Hx,Fv,Fv]
 rfl
theorem ZD{P:Program}(hP:P=Tryz.prog)(z x:Nat)(hx:x<256)(hz:z<=1000)(r:ByteArray)(hr:bl r=List.replicate z x):
 ah P 129 [.int .i64 (.ofNat z),.int .u8 (.ofNat x)] [] 0 [] (fun v _ _=>v= .str r):=by
 have hU:=C9 hP
 obtain⟨C,hC⟩:=aa (fun i=>dk (List.replicate i x++List.replicate (z-i) 0):Nat->List SV)
 have bC:∀q i,an q (C i)=true:=fun q i=>by rw[hC];exact C8 q _
 have C0:C 0=List.replicate z (.int .u8 0):=by rw[hC];simp[dk]
 have mI:r.size=z:=by rw[<-bh,hr,jq]
 have hCz:((C z).drop 0).take z=dZ r:=by
  rw[hC,lh]
  show(dk (List.replicate z x++List.replicate (z-z) 0)).take z=_
  rw[vH,List.replicate_zero,gg,vf (by rw[ml,jq];exact aE z),qR,hr]
 refine aq hP Tryz.func129 (ak _ rfl) (aD rfl) ?_
 intro A g K hA hg hK
 obtain⟨bin,_,cmp,_,_,ix,_,_,_,_,_,_,_,_,_,off,_,_,_,eU⟩:=A
 have f0:∀i,i<z->ix (.ofNat i) z=some i:=fun i h=>bB hA h
 have f1:∀i,off 0 i 1=i:=fun i=>(dh hA 0 i 1).trans (by omega)
 have f2:∀i,i<z->cmp .lss (.ofNat i) (.ofNat z)=true:=fun i h=>cZ hA h
 have f3:cmp .lss (.ofNat z) (.ofNat z)=false:=bM hA (by omega)
 have f4:∀i,i<z->bin .add .i64 (.ofNat i) 1=Int.ofNat (i+1):=fun i h=>gP hA (by omega)
 have sC:∀i,i<z->eU (C i) i [.int .u8 (.ofNat x)]=some (C (i+1)):=fun i h=>by
  rw[hC]
  refine(zb hA (by rw[ml,dI,jq,jq];omega) _).trans ?_
  rw[apW z x i h]
 clear hC hr
 cbv
 refine nL (hP▸aI) hg rfl rfl (show av 89=some _ from rfl) rfl (show av 5=some _ from rfl) hU rfl rfl rfl (by omega) (by omega) ?_
 rw[<-C0]
 cbv
 refine bH Nat (fun i=>i<=z) (fun i=>z-i) (fun i=> [(6,.int .i64 (.ofNat i))]) [0,1,5] (fun i=> [(0,C i)]) 0 (bf _) ?_ ?_
 ·exact aS (by repeat' (first|exact trivial|refine⟨rfl,rfl,rfl,?_⟩|refine⟨rfl,rfl,bC 1 0,?_⟩))
 intro i hi
 by_cases ab:i<z
 ·have g2:=sC i ab
  cbv
  rw[f2 i ab]
  cbv
  rw[f0 i ab]
  cbv
  rw[f1 i,g2]
  cbv
  rw[f4 i ab]
  refine⟨i+1,_root_.id,ab,(by show z-(i+1)<z-i;omega),?_⟩
  exact aS (by repeat' (first|exact trivial|refine⟨rfl,rfl,rfl,?_⟩|refine⟨rfl,rfl,bC 1 (i+1),?_⟩))
 ·obtain rfl:i=z:=by omega
  cbv
  rw[f3]
  cbv
  refine ES (hP▸aI) hg rfl rfl (show av 9=some _ from rfl) rfl (show av 89=some _ from rfl) rfl (hP▸Tryz.underlying5) rfl (show find _ 0=some _ from rfl) hCz mI ?_
  cbv
  exact hK _ _ _ rfl
theorem arc{b0 b1 b2 b3:Nat}(h1:b1<256)(h2:b2<256)(h3:b3<256):((b0*16777216|||b1*65536)|||b2*256)|||b3=((b0*256+b1)*256+b2)*256+b3:=by
 rw[show b0*16777216|||b1*65536=(b0*256+b1)*65536 from by
  rw[show(16777216:Nat)=2^24 from rfl,oy (s:=24) (by omega)];omega]
 rw[show(b0*256+b1)*65536|||b2*256=((b0*256+b1)*256+b2)*256 from by
  rw[show(65536:Nat)=2^16 from rfl,oy (s:=16) (by omega)];omega]
 rw[show(256:Nat)=2^8 from rfl,oy (s:=8) h3]
theorem ard{b:List Nat}{i:Nat}(h:4*i+4<=b.length):Sh.word ((b.drop (4*i)).take 4)=((b.getD (4*i) 0*256+b.getD (4*i+1) 0)*256+b.getD (4*i+2) 0)*256+b.getD (4*i+3) 0:=by
 have g:∀k,(b.drop (4*i)).getD k 0=b.getD (4*i+k) 0:=fun k=>by
  rw[jQ,jQ,Be]
 have hl:∀k,k<4->k<(b.drop (4*i)).length:=fun k hk=>by rw[iY];omega
 rw[Sh.CD _ (hl 3 (by decide)),Sh.CD _ (hl 2 (by decide)),Sh.CD _ (hl 1 (by decide)),Sh.CD _ (hl 0 (by decide)),g,g,g,g]
 simp[Sh.word]
theorem ag9{P:Program}(hP:P=Tryz.prog){t:TypeId}(o c:Nat)(C:List SV)(b:List Nat)(hb:∀x∈b,x<256)(hl:b.length=64)(hC:(C.drop o).take 64=dk b)(bC:∀m,an m C=true)(W:Nat->Nat)(hW:W=Sh.wd Sh.aB b):
 ah P 123 [.slice 0 o 64 c] [⟨0,C,t⟩] 1 [] (fun v L q=>v= .slice 1 0 64 64/\L=[⟨1,aw .u32 (fun j=>Int.ofNat (W j)) 0 64,88⟩]/\q=2):=by
 refine ah.dj (R:=fun v L _=>v= .slice 1 0 64 64/\find L 1=some ⟨1,aw .u32 (fun j=>Int.ofNat (W j)) 0 64,88⟩) ?_ fun v L q ⟨h1,h2⟩=>⟨id,.slice 1 0 64 64,_,2,by subst h1;exact fD ⟨rfl,rfl,trivial⟩ ⟨h2,rfl,AS _ _ _ _ _,trivial⟩ rfl rfl,rfl,rfl,rfl⟩
 have ji:∀j,j<64->Sh.wd Sh.aB b j<4294967296:=fun j hj=>Sh.Pp b hb (by rw[hl];decide) (by decide) (by decide) hj
 obtain⟨wA,xe⟩:=aa (rT b)
 have z0:wA 0=fun _=>0:=by rw[xe];funext j;unfold rT;rw[af (mh j)]
 have PJ:∀i v,v=Sh.wd Sh.aB b i->wA (i+1)=fun j=>if j=i then v else wA i j:=fun i v hv=>by
  rw[xe];funext j;unfold rT
  by_cases h:j=i
  ·rw[aj h,aj (by omega),hv,h]
  ·rw[af h]
   by_cases h2:j<i
   ·rw[aj h2,aj (by omega)]
   ·rw[af h2,af (by omega)]
 have xJ:∀i j,j<i->wA i j=Sh.wd Sh.aB b j:=fun i j h=>by rw[xe];unfold rT;rw[aj h]
 have lV:aw .u32 (fun j=>Int.ofNat (wA 64 j)) 0 64=aw .u32 (fun j=>Int.ofNat (W j)) 0 64:=rK fun j _ hj=>by rw[xJ 64 j (by omega),hW]
 have yn:(P.info? 88).map (·.bytes)=some 4:=by subst hP;kernel_rfl
 clear xe
 refine aq hP Tryz.func123 ⟨ao rfl,trivial⟩ (by simpa [ay,bd]using ak _ (bC 1)) ?_
 intro A g K hA hg hK
 obtain⟨bin,sh,cmp,_,aX,ix,_,_,_,_,_,_,_,_,_,off,get,_,sub⟩:=A
 have f1:∀i,i<16->cmp .lss (.ofNat i) 16=true:=fun i h=>cZ hA (b:=16) h
 have iD:cmp .lss (.ofNat 16) 16=false:=bM hA (a:=16) (b:=16) (by omega)
 have f3:∀i,i<64->cmp .lss (.ofNat i) 64=true:=fun i h=>cZ hA (b:=64) h
 have Q_:cmp .lss (.ofNat 64) 64=false:=bM hA (a:=64) (b:=64) (by omega)
 have f4:∀i,i<200->bin .add .i64 (.ofNat i) 1=Int.ofNat (i+1):=fun i h=>gP hA (by omega)
 have f5:∀i,i<64->ix (.ofNat i) 64=some i:=fun i h=>bB hA h
 have f6:∀i,off 0 i 1=i:=fun i=>(dh hA 0 i 1).trans (by omega)
 have f7:=fun(f:Nat->Nat) (k:Nat) (h:k<64)=>ei hA .u32 (n:=64) f h
 have f8:=fun(f g:Nat->Nat) (k v:Nat) (h:k<64) (e:g=fun j=>if j=k then v else f j)=>gX hA .u32 (n:=64) f g h e
 have f9:∀j,j<64->ix (.ofNat j) 64=some j:=fun i h=>bB hA h
 have f10:∀j,off o j 1=o+j:=fun j=>(dh hA o j 1).trans (by omega)
 have f11:∀j,j<64->get C (o+j)=some (.int .u8 (.ofNat (b.getD j 0))):=fun j h=>(jU hA _ _).trans (Za hC hl h)
 simp only[aw,Nat.reduceAdd]at f7 f8 lV
 cbv
 refine nL (hP▸aI) hg rfl rfl (show av 22=some _ from rfl) rfl (show av 88=some _ from rfl) yn rfl (m:=64) rfl rfl (by decide) (by decide) ?_
 cbv
 refine bH (Nat×(Nat->Nat)) (fun s=>s.1<=16/\s.2=wA s.1) (fun s=>16-s.1) (fun s=> [(4,.int .i64 (.ofNat s.1))]) [0,2,3] (fun s=> [(1,aw .u32 (fun j=>Int.ofNat (s.2 j)) 0 64)]) (0,fun _=>0) ⟨bf _,z0.symm⟩ ?_ ?_
 ·exact aS (by repeat' (first|exact trivial|refine⟨rfl,rfl,rfl,?_⟩|refine⟨rfl,rfl,bC 2,?_⟩))
 rintro⟨i,w⟩ ⟨hi,hw⟩
 change i<=16 at hi
 change w=wA i at hw
 subst hw
 by_cases kQ:i<16
 ·obtain⟨j0,Tn⟩:=aa (4*i)
  obtain⟨j1,Gi⟩:=aa (j0+1)
  obtain⟨j2,BN⟩:=aa (j0+2)
  obtain⟨j3,hj3⟩:=aa (j0+3)
  obtain⟨y0,fy⟩:=aa (b.getD j0 0)
  obtain⟨y1,fz⟩:=aa (b.getD j1 0)
  obtain⟨y2,gL⟩:=aa (b.getD j2 0)
  obtain⟨y3,qu⟩:=aa (b.getD j3 0)
  have l0:y0<256:=by rw[fy];exact HZ hb j0
  have l1:y1<256:=by rw[fz];exact HZ hb j1
  have l2:y2<256:=by rw[gL];exact HZ hb j2
  have l3:y3<256:=by rw[qu];exact HZ hb j3
  obtain⟨s0,iK⟩:=aa (y0*16777216)
  obtain⟨s1,jg⟩:=aa (y1*65536)
  obtain⟨s2,gk⟩:=aa (y2*256)
  obtain⟨u1,lF⟩:=aa (s0|||s1)
  obtain⟨u2,qp⟩:=aa (u1|||s2)
  obtain⟨v,hv⟩:=aa (u2|||y3)
  have u1l:u1<4294967296:=by rw[lF];exact Bh (n:=32) (by omega) (by omega)
  have u2l:u2<4294967296:=by rw[qp];exact Bh (n:=32) u1l (by omega)
  have hvw:v=Sh.wd Sh.aB b i:=by
   rw[Sh.Xh (K:=Sh.aB) b kQ (by decide),hv,qp,lF,iK,jg,gk,arc l1 l2 l3]
   have:=ard (b:=b) (i:=i) (by omega)
   rw[<-Tn,<-Gi,<-BN,<-hj3,<-fy,<-fz,<-gL,<-qu]at this
   rw[<-this,Tn];rfl
  have g0:bin .mul .i64 4 (.ofNat i)=Int.ofNat j0:=(k8 hA (a:=4) (b:=i) (by omega)).trans (by rw[Tn])
  have g1:bin .add .i64 (.ofNat j0) 1=Int.ofNat j1:=(e_ hA (a:=j0) (b:=1) (by omega)).trans (by rw[Gi])
  have g2:bin .add .i64 (.ofNat j0) 2=Int.ofNat j2:=(e_ hA (a:=j0) (b:=2) (by omega)).trans (by rw[BN])
  have g3:bin .add .i64 (.ofNat j0) 3=Int.ofNat j3:=(e_ hA (a:=j0) (b:=3) (by omega)).trans (by rw[hj3])
  have gb:∀y,y<256->aX .u32 (.ofNat y)=Int.ofNat y:=fun y h=>nQ hA (fun h=>by cases h) (fun _=>by show y<4294967296;omega)
  have gs0:sh .shl .u32 (.ofNat y0) 24=Int.ofNat s0:=(mP hA (k:= .u32) rfl y0 (s:=24) (by decide)).trans (aK Int.ofNat (by rw[iK];show y0*16777216%4294967296=_;omega))
  have gs1:sh .shl .u32 (.ofNat y1) 16=Int.ofNat s1:=(mP hA (k:= .u32) rfl y1 (s:=16) (by decide)).trans (aK Int.ofNat (by rw[jg];show y1*65536%4294967296=_;omega))
  have gs2:sh .shl .u32 (.ofNat y2) 8=Int.ofNat s2:=(mP hA (k:= .u32) rfl y2 (s:=8) (by decide)).trans (aK Int.ofNat (by rw[gk];show y2*256%4294967296=_;omega))
  have go1:bin .or .u32 (.ofNat s0) (.ofNat s1)=Int.ofNat u1:=(l9 hA (k:= .u32) rfl (a:=s0) (b:=s1) (by show s0<4294967296;omega) (by show s1<4294967296;omega)).trans (by rw[lF])
  have go2:bin .or .u32 (.ofNat u1) (.ofNat s2)=Int.ofNat u2:=(l9 hA (k:= .u32) rfl (a:=u1) (b:=s2) u1l (by show s2<4294967296;omega)).trans (by rw[qp])
  have go3:bin .or .u32 (.ofNat u2) (.ofNat y3)=Int.ofNat v:=(l9 hA (k:= .u32) rfl (a:=u2) (b:=y3) u2l (by show y3<4294967296;omega)).trans (by rw[hv])
  have c0:=f11 j0 (by omega)
  have c1:=f11 j1 (by omega)
  have c2:=f11 j2 (by omega)
  have c3:=f11 j3 (by omega)
  rw[<-fy]at c0
  rw[<-fz]at c1
  rw[<-gL]at c2
  rw[<-qu]at c3
  have qs:=PJ i v hvw
  obtain⟨wn,tA⟩:=aa (wA (i+1))
  rw[<-tA]at qs
  cbv
  rw[f1 i kQ]
  cbv
  refine cf hP hA hg fun mk _=> ?_
  cbv
  rw[g0]
  cbv
  rw[f9 j0 (by omega)]
  cbv
  rw[f10 j0,c0]
  cbv
  rw[gb y0 l0]
  cbv
  rw[gs0]
  cbv
  rw[g0]
  cbv
  rw[g1]
  cbv
  rw[f9 j1 (by omega)]
  cbv
  rw[f10 j1,c1]
  cbv
  rw[gb y1 l1]
  cbv
  rw[gs1]
  cbv
  rw[go1]
  cbv
  rw[g0]
  cbv
  rw[g2]
  cbv
  rw[f9 j2 (by omega)]
  cbv
  rw[f10 j2,c2]
  cbv
  rw[gb y2 l2]
  cbv
  rw[gs2]
  cbv
  rw[go2]
  cbv
  rw[g0]
  cbv
  rw[g3]
  cbv
  rw[f9 j3 (by omega)]
  cbv
  rw[f10 j3,c3]
  cbv
  rw[gb y3 l3]
  cbv
  rw[go3]
  cbv
  rw[f5 i (by omega)]
  cbv
  rw[f6 i,f8 (wA i) wn i v (by omega) qs]
  cbv
  rw[f4 i (by omega)]
  refine⟨(i+1,wn),id,⟨kQ,tA⟩,(by show 16-(i+1)<16-i;omega),?_⟩
  exact aS (by repeat' (first|exact trivial|refine⟨rfl,rfl,rfl,?_⟩|refine⟨rfl,rfl,bC 2,?_⟩))
 ·obtain rfl:i=16:=by omega
  obtain⟨W_,GD⟩:=aa (wA 16)
  rw[<-GD]
  cbv
  rw[iD]
  cbv
  refine bH (Nat×(Nat->Nat)) (fun s=>16<=s.1/\s.1<=64/\s.2=wA s.1) (fun s=>64-s.1) (fun s=> [(5,.int .i64 (.ofNat s.1))]) [0,2,3] (fun s=> [(1,aw .u32 (fun j=>Int.ofNat (s.2 j)) 0 64)]) (16,W_) ⟨aE _,by show 16<=64;decide,GD⟩ ?_ ?_
  ·exact aS (by repeat' (first|exact trivial|refine⟨rfl,rfl,rfl,?_⟩|refine⟨rfl,rfl,bC 2,?_⟩))
  rintro⟨i,w⟩ ⟨kQ,hi,hw⟩
  change 16<=i at kQ
  change i<=64 at hi
  change w=wA i at hw
  subst hw
  by_cases ab:i<64
  ·obtain⟨i16,JF⟩:=aa (i-16)
   obtain⟨i15,JE⟩:=aa (i-15)
   obtain⟨i7,Ai⟩:=aa (i-7)
   obtain⟨i2,oM⟩:=aa (i-2)
   obtain⟨a,ha⟩:=aa (Sh.wd Sh.aB b i15)
   obtain⟨c,hc⟩:=aa (Sh.wd Sh.aB b i2)
   obtain⟨d,hd⟩:=aa (Sh.wd Sh.aB b i16)
   obtain⟨e,he⟩:=aa (Sh.wd Sh.aB b i7)
   have uu:a<4294967296:=by rw[ha];exact ji _ (by omega)
   have iG:c<4294967296:=by rw[hc];exact ji _ (by omega)
   have jO:d<4294967296:=by rw[hd];exact ji _ (by omega)
   have wJ:e<4294967296:=by rw[he];exact ji _ (by omega)
   have iW:∀x k,x<4294967296->Sh.gm 32 x k<4294967296:=fun x k hx=>by
    unfold Sh.gm
    exact Bh (n:=32) (by rw[vG];exact eB (gq _ _) hx) (ax _ (by decide))
   obtain⟨a1,nZ⟩:=aa (Sh.gm 32 a 7)
   obtain⟨a2,jc⟩:=aa (Sh.gm 32 a 18)
   obtain⟨c1,eA⟩:=aa (Sh.gm 32 c 17)
   obtain⟨c2,dP⟩:=aa (Sh.gm 32 c 19)
   have Jc:a1<4294967296:=by rw[nZ];exact iW _ _ uu
   have Jd:a2<4294967296:=by rw[jc];exact iW _ _ uu
   have Jm:c1<4294967296:=by rw[eA];exact iW _ _ iG
   have Jn:c2<4294967296:=by rw[dP];exact iW _ _ iG
   obtain⟨a3,DE⟩:=aa (a/2^3)
   obtain⟨c3,ra⟩:=aa (c/2^10)
   have Je:a3<4294967296:=by rw[DE];exact eB (gq _ _) uu
   have Jo:c3<4294967296:=by rw[ra];exact eB (gq _ _) iG
   obtain⟨a4,yp⟩:=aa (a1^^^a2)
   obtain⟨c4,qh⟩:=aa (c1^^^c2)
   have Jf:a4<4294967296:=by rw[yp];exact si (n:=32) Jc Jd
   have Jp:c4<4294967296:=by rw[qh];exact si (n:=32) Jm Jn
   obtain⟨a5,ur⟩:=aa (a4^^^a3)
   obtain⟨c5,yB⟩:=aa (c4^^^c3)
   have ajf:a5<4294967296:=by rw[ur];exact si (n:=32) Jf Je
   have ajw:c5<4294967296:=by rw[yB];exact si (n:=32) Jp Jo
   obtain⟨u1,lF⟩:=aa ((d+a5)%4294967296)
   obtain⟨u2,qp⟩:=aa ((u1+e)%4294967296)
   obtain⟨u3,Kb⟩:=aa ((u2+c5)%4294967296)
   have hv:u3=Sh.wd Sh.aB b i:=by
    rw[Sh.Xg (K:=Sh.aB) b kQ (show i<Sh.aB.ks.length from ab),<-JF,<-JE,<-Ai,<-oM,<-ha,<-hc,<-hd,<-he]
    have e1:Sh.small Sh.aB.wb Sh.aB.s0 a=a5:=by
     rw[ur,yp,DE,nZ,jc,<-vG];rfl
    have e2:Sh.small Sh.aB.wb Sh.aB.s1 c=c5:=by
     rw[yB,qh,ra,eA,dP,<-vG];rfl
    rw[e1,e2,Kb,qp,lF]
    show _=_%4294967296
    omega
   have kh:=ya hP a 7 uu (by decide) a1 nZ
   have qf:=ya hP a 18 uu (by decide) a2 jc
   have sO:=ya hP c 17 iG (by decide) c1 eA
   have Sv:=ya hP c 19 iG (by decide) c2 dP
   have g15:=f7 (wA i) i15 (by omega)
   have g2:=f7 (wA i) i2 (by omega)
   have g16:=f7 (wA i) i16 (by omega)
   have g7:=f7 (wA i) i7 (by omega)
   rw[xJ i i15 (by omega),<-ha]at g15
   rw[xJ i i2 (by omega),<-hc]at g2
   rw[xJ i i16 (by omega),<-hd]at g16
   rw[xJ i i7 (by omega),<-he]at g7
   have VE:bin .sub .i64 (.ofNat i) 15=Int.ofNat i15:=(er hA (a:=i) (b:=15) (by omega) (by omega)).trans (by rw[JE])
   have q2:bin .sub .i64 (.ofNat i) 2=Int.ofNat i2:=(er hA (a:=i) (b:=2) (by omega) (by omega)).trans (by rw[oM])
   have VF:bin .sub .i64 (.ofNat i) 16=Int.ofNat i16:=(er hA (a:=i) (b:=16) (by omega) (by omega)).trans (by rw[JF])
   have q7:bin .sub .i64 (.ofNat i) 7=Int.ofNat i7:=(er hA (a:=i) (b:=7) (by omega) (by omega)).trans (by rw[Ai])
   have r1:bin .xor .u32 (.ofNat a1) (.ofNat a2)=Int.ofNat a4:=(pL hA (k:= .u32) rfl (a:=a1) (b:=a2) Jc Jd).trans (by rw[yp])
   have r2:sh .shr .u32 (.ofNat a) 3=Int.ofNat a3:=(k_ hA (k:= .u32) (a:=a) (b:=3) (by decide)).trans (by rw[DE])
   have r3:bin .xor .u32 (.ofNat a4) (.ofNat a3)=Int.ofNat a5:=(pL hA (k:= .u32) rfl (a:=a4) (b:=a3) Jf Je).trans (by rw[ur])
   have r4:bin .xor .u32 (.ofNat c1) (.ofNat c2)=Int.ofNat c4:=(pL hA (k:= .u32) rfl (a:=c1) (b:=c2) Jm Jn).trans (by rw[qh])
   have r5:sh .shr .u32 (.ofNat c) 10=Int.ofNat c3:=(k_ hA (k:= .u32) (a:=c) (b:=10) (by decide)).trans (by rw[ra])
   have r6:bin .xor .u32 (.ofNat c4) (.ofNat c3)=Int.ofNat c5:=(pL hA (k:= .u32) rfl (a:=c4) (b:=c3) Jp Jo).trans (by rw[yB])
   have r7:bin .add .u32 (.ofNat d) (.ofNat a5)=Int.ofNat u1:=(tX hA (k:= .u32) rfl d a5).trans (by rw[lF];rfl)
   have r8:bin .add .u32 (.ofNat u1) (.ofNat e)=Int.ofNat u2:=(tX hA (k:= .u32) rfl u1 e).trans (by rw[qp];rfl)
   have r9:bin .add .u32 (.ofNat u2) (.ofNat c5)=Int.ofNat u3:=(tX hA (k:= .u32) rfl u2 c5).trans (by rw[Kb];rfl)
   have qs:=PJ i u3 hv
   obtain⟨wn,tA⟩:=aa (wA (i+1))
   rw[<-tA]at qs
   cbv
   rw[f3 i ab]
   cbv
   refine cf hP hA hg fun mk _=> ?_
   cbv
   rw[VE]
   cbv
   rw[f5 i15 (by omega)]
   cbv
   rw[f6 i15,g15]
   cbv
   rw[q2]
   cbv
   rw[f5 i2 (by omega)]
   cbv
   rw[f6 i2,g2]
   cbv
   refine cf hP hA hg fun mk _=> ?_
   cbv
   rw[VF]
   cbv
   rw[f5 i16 (by omega)]
   cbv
   rw[f6 i16,g16]
   cbv
   refine bN hg kh ?_
   cbv
   refine bN hg qf ?_
   cbv
   rw[r1]
   cbv
   rw[r2]
   cbv
   rw[r3]
   cbv
   rw[r7]
   cbv
   rw[q7]
   cbv
   rw[f5 i7 (by omega)]
   cbv
   rw[f6 i7,g7]
   cbv
   rw[r8]
   cbv
   refine bN hg sO ?_
   cbv
   refine bN hg Sv ?_
   cbv
   rw[r4]
   cbv
   rw[r5]
   cbv
   rw[r6]
   cbv
   rw[r9]
   cbv
   rw[f5 i (by omega)]
   cbv
   rw[f6 i,f8 (wA i) wn i u3 (by omega) qs]
   cbv
   rw[f4 i (by omega)]
   refine⟨(i+1,wn),id,⟨by show 16<=i+1;omega,ab,tA⟩,(by show 64-(i+1)<64-i;omega),?_⟩
   exact aS (by repeat' (first|exact trivial|refine⟨rfl,rfl,rfl,?_⟩|refine⟨rfl,rfl,bC 2,?_⟩))
  ·obtain rfl:i=64:=by omega
   obtain⟨wr,Ug⟩:=aa (wA 64)
   rw[<-Ug]at lV⊢
   cbv
   rw[Q_]
   cbv
   rw[lV]
   exact hK _ _ _ ⟨rfl,rfl⟩
end Go.Proofs.YtfocopihipejfaaGreat
