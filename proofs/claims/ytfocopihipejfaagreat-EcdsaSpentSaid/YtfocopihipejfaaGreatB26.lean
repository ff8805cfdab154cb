/-
  This text proves what these texts prove: Po, Pp, Pq, Pr, Ps, Pu, Jf, Jg, Jh. Conditions: those of each theorem.
-/
import Derived.Test.YtfocopihipejfaaGreatB25
import Derived.Test.YtfocopihipejfaaGreatB22
set_option maxHeartbeats 8000000
set_option linter.all false
namespace Go.Proofs.YtfocopihipejfaaGreat
open Go.Vg Go.RowKit
set_option maxRecDepth 200000
set_option cbv.maxSteps 100000000
theorem agF{P:Program}(hP:P=Tryz.prog)(d c:Nat)(hd:d<16)(hc:c=if d<10 then 48+d else 87+d):ah P 92 [.int .u8 (.ofNat c)] [] 0 [] (fun w _ _=>w= .int .u32 (.ofNat d)):=by
 refine aq hP Tryz.func92 (ak _ rfl) (aD rfl) ?_
 intro A g K hA hg hK
 obtain⟨bin,_,cmp,_,aX,_,_,_,_,_,_,_,_,_,_,_,_,_,sub⟩:=A
 by_cases mu:d<10
 ·rw[aj mu]at hc
  have g1:bin .sub .u8 (.ofNat c) 48=Int.ofNat d:=(A8 hA (k:= .u8) rfl (a:=c) (b:=48) (by decide)).trans (aK Int.ofNat (by show(c+256-48)%256=d;omega))
  have g2:aX .u32 (.ofNat d)=Int.ofNat d:=jr hA (by omega)
  cbv
  rw[show cmp .geq (.ofNat c) 97=false from qW hA (b:=97) (by omega)]
  cbv
  rw[g1]
  cbv
  rw[g2]
  exact hK _ _ _ rfl
 ·rw[af mu]at hc
  obtain⟨e,he⟩:=aa (d-10)
  have g1:bin .sub .u8 (.ofNat c) 97=Int.ofNat e:=(A8 hA (k:= .u8) rfl (a:=c) (b:=97) (by decide)).trans (aK Int.ofNat (by show(c+256-97)%256=e;omega))
  have g2:aX .u32 (.ofNat e)=Int.ofNat e:=jr hA (by omega)
  have g3:bin .add .u32 (.ofNat e) 10=Int.ofNat d:=(tX hA (k:= .u32) rfl e 10).trans (aK Int.ofNat (by show(e+10)%4294967296=d;omega))
  cbv
  rw[show cmp .geq (.ofNat c) 97=true from kC hA (b:=97) (by omega)]
  cbv
  rw[g1]
  cbv
  rw[g2]
  cbv
  rw[g3]
  exact hK _ _ _ rfl
section
variable {P:Program}(hP:P=Tryz.prog){H:Nat->Nat->List SV}{S:Nat->Nat}(hs:HS H S)
include hP hs
theorem GO(n x:Nat)(hn:n<=144)(hx:x<16^n)(s:ByteArray)(Ec:s=eL x n)(c:Nat)(hc:c=n/8+1):x<4294967296^c/\ah P 50 [.str s] [] 0 [] (fun w L q=>w= .slice 0 0 (S x) c/\L=[⟨0,H x c,88⟩]/\q=1):=by
 have db:16^n<=4294967296^c:=by
  rw[show(4294967296:Nat)=16^8 from by decide,<-jS]
  exact cV (by decide) (by omega)
 have lG:x<4294967296^c:=cg hx db
 refine⟨lG,?_⟩
 have aJ:s.size=n:=by rw[Ec,NF]
 obtain⟨T,hT⟩:=aa (fun i=>mb 16 x (n-i):Nat->Nat)
 obtain⟨Dd,um⟩:=aa (fun k=>x/16^k%16:Nat->Nat)
 have KD:∀k,Dd k<16:=fun k=>by rw[um];exact ax _ (by decide)
 obtain⟨Z,hZ⟩:=aa (fun i=>Vg.hs (dg (T i)) c:Nat->List SV)
 have bZ:∀m i,an m (Z i)=true:=fun m i=>by rw[hZ];exact dG _ _ m
 have jN:List.replicate c (SV.int .u32 0)=Z 0:=by
  rw[hZ,qm,hT];show _=Vg.hs (dg (mb 16 x (n-0))) c
  rw[tU,aee hx]
  exact D_ fun j _=>by unfold dg Dg.eJ;rw[zp]
 have I9:T n=x:=by rw[hT];show mb 16 x (n-n)=x;rw[vH,aeg]
 have cj:Z n=Vg.hs (dg x) c:=by rw[hZ];show Vg.hs (dg (T n)) c=_;rw[I9]
 have qg:=ZB hP (n:=c) (c:=c) (f:=dg x) (x:=x) ⟨aE c,fun j _=>gR x j,KR lG⟩ (by omega) (by omega) 0 (by decide) x (S x) (by rw[jB,pf]) (by rw[hs.s])
 rw[<-cj]at qg
 rw[hs.h]
 show ah P _ _ _ _ _ (fun w L q=>w= .slice 0 0 (S x) c/\L=[⟨0,Vg.hs (dg x) c,88⟩]/\q=1)
 rw[<-cj]
 refine ah.dj (R:=fun w L q=>w= .slice 1 0 (S x) c/\find L 1=some ⟨1,Z n,88⟩) ?_ fun v L q ⟨h1,h2⟩=>⟨fun l=>l+1,.slice 0 0 (S x) c,[⟨0,Z n,88⟩],1,by subst h1;exact dH ⟨rfl,rfl,trivial⟩ ⟨by rw[ae (Z n) (bZ 0 n)];exact h2,rfl,rfl,bZ 1 n,trivial⟩ rfl rfl rfl,rfl,rfl,rfl⟩
 have aW:∀i k q r,i<n->k=n-1-i->q=k/8->r=4*(k%8)->(∀j,dg (T (i+1)) j=if j=q then dg (T i) q+Dd k*2^r else dg (T i) j)/\dg (T i) q|||Dd k*2^r=dg (T i) q+Dd k*2^r/\dg (T i) q+Dd k*2^r<4294967296:=fun i k q r hi hk hq hr=>by
  have e1:T i=mb 16 x (k+1):=by rw[hT];show mb 16 x (n-i)=_;congr 1;omega
  have e2:T (i+1)=T i+Dd k*2^(4*k):=by
   rw[e1,hT,um];show mb 16 x (n-(i+1))=_+x/16^k%16*_
   rw[show n-(i+1)=k by omega,aef,jS]
  rw[e2]
  refine acZ (t:=x/16^(k+1)) (w:=4) (by omega) (by omega) (KD k) ?_
  rw[e1];unfold mb
  rw[show 4*k+4=4*(k+1) by omega,jS 2 4]
 have fk:=fun d c hd hc=>agF hP d c hd hc
 have mB:∀i k,i<n->k=n-1-i->s[i]? =some (uy (Dd k)):=fun i k hi hk=>by
  have:=aaT x n k (by omega)
  rw[show n-1-k=i by omega]at this
  rw[Ec,um];exact this
 clear hT um cj I9 Ec
 refine aq hP Tryz.func50 (ak _ rfl) (aD rfl) ?_
 intro A g K hA hg hK
 obtain⟨bin,sh,cmp,_,_,ix,nn,_,_,_,_,_,fK,lg,nat,off,get,_,sub,eU⟩:=A
 have en:fK s=Int.ofNat n:=(lK hA s).trans (by rw[aJ])
 have e0:nat c=Int.ofNat c:=fZ hA c
 have e1:bin .quo .i64 (.ofNat n) 8=Int.ofNat (n/8):=mO hA (a:=n) (b:=8) (by omega)
 have e2:bin .add .i64 (.ofNat (n/8)) 1=Int.ofNat c:=(e_ hA (a:=n/8) (b:=1) (by omega)).trans (by rw[hc])
 have e3:∀j,off 0 j 1=j:=fun j=>(dh hA 0 j 1).trans (by omega)
 have e4:∀i m,i<m->ix (.ofNat i) m=some i:=fun i m h=>bB hA h
 have e5:∀i j,j<c->get (Z i) j=some (.int .u32 (.ofNat (dg (T i) j))):=fun i j h=>by rw[hZ];exact ei hA .u32 (dg (T i)) h
 have e6:∀i q v,q<c->(dg (T (i+1))=fun j=>if j=q then v else dg (T i) j)->eU (Z i) q [.int .u32 (.ofNat v)]=some (Z (i+1)):=fun i q v h hv=>by rw[hZ];exact gX hA .u32 (n:=c) (dg (T i)) (dg (T (i+1))) h hv
 have e7:∀i,i<n->cmp .lss (.ofNat i) (.ofNat n)=true:=fun i h=>cZ hA h
 have sH:cmp .lss (.ofNat n) (.ofNat n)=false:=bM hA (iO n)
 have e8:∀i,i<n->bin .add .i64 (.ofNat i) 1=Int.ofNat (i+1):=fun i h=>e_ hA (a:=i) (b:=1) (by omega)
 have es:∀i b,s[i]? =some b->lg s (Int.ofNat i)=some (Int.ofNat b.toNat):=fun i b h=>by
  have e:lg=Ar.real.lg:=aK Ar.lg hA
  rw[e]
  show(if 0<=Int.ofNat i then(s[(Int.ofNat i).toNat]?).map fun b=>(b.toNat:Int)else none)=_
  rw[aj (show(0:Int)<=Int.ofNat i from zi _)]
  show(s[i]?).map _=_
  rw[h];rfl
 have hU:=rV hP
 clear hZ
 cbv
 rw[en,e1,e2]
 cbv
 refine nL (hP▸aI) hg rfl rfl (show av 23=some _ from rfl) rfl (show av 88=some _ from rfl) hU rfl (m:=c) rfl rfl (by omega) (by omega) ?_
 rw[jN]
 cbv
 refine bH Nat (fun i=>i<=n) (fun i=>n-i) (fun i=> [(4,.int .i64 (.ofNat i))]) [0,2,3] (fun i=> [(0,Z i)]) 0 (bf _) ?_ ?_
 ·exact aS (by repeat' (first|exact trivial|refine⟨rfl,rfl,rfl,?_⟩|refine⟨rfl,rfl,bZ 1 0,?_⟩))
 intro i hi
 by_cases ab:i<n
 ·obtain⟨n1,iy⟩:=aa (n-1)
  obtain⟨k,hk⟩:=aa (n-1-i)
  obtain⟨q,hq⟩:=aa (k/8)
  obtain⟨r8,J5⟩:=aa (k%8)
  obtain⟨r,hr⟩:=aa (4*r8)
  have ru:q<c:=by omega
  obtain⟨t1,t2,t3⟩:=aW i k q r ab hk hq (by rw[hr,J5])
  obtain⟨d,hd⟩:=aa (Dd k)
  have ld:d<16:=by rw[hd];exact KD k
  obtain⟨ch,BH⟩:=aa ((uy d).toNat)
  have ajx:ch=if d<10 then 48+d else 87+d:=by rw[BH];exact aaV ld
  have uH:=es i (uy d) (by rw[hd];exact mB i k ab hk)
  rw[<-BH]at uH
  rw[<-hd]at t1 t2 t3
  obtain⟨O,hO⟩:=aa (dg (T i) q)
  have gO:=e5 i q ru
  rw[<-hO]at t1 t2 t3 gO
  obtain⟨y,hy⟩:=aa (d*2^r)
  obtain⟨w,hw⟩:=aa (O+y)
  rw[<-hy]at t1 t2 t3
  rw[<-hw]at t1 t2 t3
  have Ge:=fk d ch ld ajx
  have g1:bin .sub .i64 (.ofNat n) 1=Int.ofNat n1:=(er hA (a:=n) (b:=1) (by omega) (by omega)).trans (by rw[iy])
  have g2:bin .sub .i64 (.ofNat n1) (.ofNat i)=Int.ofNat k:=(er hA (a:=n1) (b:=i) (by omega) (by omega)).trans (by rw[hk,iy])
  have g3:bin .quo .i64 (.ofNat k) 8=Int.ofNat q:=(mO hA (a:=k) (b:=8) (by omega)).trans (by rw[hq])
  have g4:bin .rem .i64 (.ofNat k) 8=Int.ofNat r8:=(pJ hA k 8).trans (by rw[J5])
  have g5:bin .mul .i64 (.ofNat r8) 4=Int.ofNat r:=(k8 hA (a:=r8) (b:=4) (by omega)).trans (by rw[hr,bJ])
  have g6:nn (.ofNat r)=true:=kr hA r
  have g7:sh .shl .u32 (.ofNat d) (.ofNat r)=Int.ofNat y:=(mP hA (k:= .u32) rfl d (s:=r) (by show r<=32;omega)).trans (aK Int.ofNat (by rw[<-hy];exact aO (by show y<4294967296;omega)))
  have g8:bin .or .u32 (.ofNat O) (.ofNat y)=Int.ofNat w:=(l9 hA (k:= .u32) rfl (a:=O) (b:=y) (by show O<4294967296;omega) (by show y<4294967296;omega)).trans (aK Int.ofNat t2)
  have g9:=e6 i q w ru (funext t1)
  have g10:=e8 i ab
  obtain⟨Zn,cj⟩:=aa (Z (i+1))
  rw[<-cj]at g9
  have HW:∀m,an m Zn=true:=fun m=>by rw[cj];exact bZ m _
  cbv
  rw[en]
  cbv
  rw[e7 i ab]
  cbv
  rw[en,g1,g2]
  cbv
  refine cm hP hA hg ?_
  cbv
  rw[g3]
  cbv
  rw[e4 q c ru]
  cbv
  rw[e3,gO]
  cbv
  rw[uH]
  cbv
  refine bN hg Ge ?_
  cbv
  rw[g4]
  cbv
  rw[g5]
  cbv
  rw[g6]
  cbv
  rw[g7]
  cbv
  rw[g8]
  cbv
  rw[e4 q c ru]
  cbv
  rw[e3,g9]
  cbv
  rw[g10]
  refine⟨i+1,_root_.id,ab,(by show n-(i+1)<n-i;omega),?_⟩
  rw[<-cj]
  exact aS (by repeat' (first|exact trivial|refine⟨rfl,rfl,rfl,?_⟩|refine⟨rfl,rfl,HW 1,?_⟩))
 ·have wM:n=i:=by omega
  subst wM
  cbv
  rw[en]
  cbv
  rw[sH]
  cbv
  refine bq hg qg (fun _=>0) (fG (bZ 0 n) rfl) ?_
  simp only[aG,ae (Z n) (bZ 0 n)]
  cbv
  exact hK _ _ _ ⟨rfl,rfl⟩
end
def als:ByteArray:=⟨⟨[45]⟩⟩
def K7(k:Nat):ByteArray:=if pK k=0 then als else eL (Cs k) (pK k)
theorem alh{P:Program}(hP:P=Tryz.prog)(k:Nat)(hk:1<=k/\k<=15)(p a b n x y:ByteArray)(hp:p=eL (f_ k) (j' k))(ha:a=K7 k)(hb:b=eL (o9 k) (A2 k))(hn:n=eL (qC k) (A3 k))(hx:x=eL (tI k) (A4 k))(hy:y=eL (tJ k) (A5 k)):
 ah P 49 [.int .i64 (.ofNat k)] [] 0 [] (fun w L q=>w= .slice 0 0 6 6/\L=[⟨0,[.str p,.str a,.str b,.str n,.str x,.str y],9⟩]/\q=1):=by
 have:k=1\/k=2\/k=3\/k=4\/k=5\/k=6\/k=7\/k=8\/k=9\/k=10\/k=11\/k=12\/k=13\/k=14\/k=15:=by omega
 refine aq hP Tryz.func49 (ak _ rfl) (aD rfl) ?_
 intro A g K hA hg hK
 obtain⟨_,_,cmp⟩:=A
 have f:∀y z,cmp .eql y z=decide (y=z):=fun y z=>bg (bg (bg (kA hA) .eql) y) z
 rcases this with rfl|rfl|rfl|rfl|rfl|rfl|rfl|rfl|rfl|rfl|rfl|rfl|rfl|rfl|rfl<;>(cbv;repeat (rw[f];cbv))<;>exact hK _ _ _ ⟨rfl,by rw[hp,ha,hb,hn,hx,hy];kernel_rfl,rfl⟩
theorem apE(k:Nat)(h:1<=k/\k<=15):Cz .eql (K7 k) ⟨⟨[45]⟩⟩=decide (pK k=0):=by
 obtain⟨h1,h2⟩:=h
 show((K7 k).toList==(ByteArray.mk ⟨[45]⟩).toList)=_
 rw[ByteArray.toList_eq,ByteArray.toList_eq]
 have:k=1\/k=2\/k=3\/k=4\/k=5\/k=6\/k=7\/k=8\/k=9\/k=10\/k=11\/k=12\/k=13\/k=14\/k=15:=by omega
 rcases this with rfl|rfl|rfl|rfl|rfl|rfl|rfl|rfl|rfl|rfl|rfl|rfl|rfl|rfl|rfl<;>decide +kernel
section
variable {P:Program}(hP:P=Tryz.prog){H:Nat->Nat->List SV}{S:Nat->Nat}(hs:HS H S)
include hP hs
theorem OQ{y:Nat}(h:y<4294967296):H y 1=[.int .u32 (.ofNat y)]:=by
 have:=hP
 rw[hs.h]
 show [SV.int .u32 (.ofNat (dg y 0))]=_
 rw[show dg y 0=y from by unfold dg Dg.eJ;rw[jB,pf];exact aO h]
theorem acq(k:Nat)(hk:1<=k/\k<=15)(p a b n x y:Nat)(hp:p=f_ k)(ha:a=sF k)(hb:b=o9 k)(hn:n=qC k)(hx:x=tI k)(hy:y=tJ k):∃pc ac bc nc xc yc,p<4294967296^pc/\a<4294967296^ac/\b<4294967296^bc/\n<4294967296^nc/\x<4294967296^xc/\y<4294967296^yc/\
 ah P 14 [.int .i64 (.ofNat k)] [] 0 [] (fun w L q=>w= .aR [.agg [.int .i64 (.ofNat k),.slice 0 0 (S p) pc,.slice 1 0 (S a) ac,.slice 2 0 (S b) bc,.slice 3 0 (S n) nc,.slice 4 0 (S x) xc,.slice 5 0 (S y) yc],.bool true]/\
  L=[⟨0,H p pc,88⟩,⟨1,H a ac,88⟩,⟨2,H b bc,88⟩,⟨3,H n nc,88⟩,⟨4,H x xc,88⟩,⟨5,H y yc,88⟩]/\q=6):=by
 obtain⟨r1,r2,r3,r4,r5,l1,l2,l3,l4,l5,hbp,yL⟩:=adw k hk
 obtain⟨_,_,lp,_,rp⟩:=aao k hk
 obtain⟨ps,BU⟩:=aa (eL (f_ k) (j' k))
 obtain⟨sa,has⟩:=aa (K7 k)
 obtain⟨bs,Ad⟩:=aa (eL (o9 k) (A2 k))
 obtain⟨ns,D2⟩:=aa (eL (qC k) (A3 k))
 obtain⟨xs,nv⟩:=aa (eL (tI k) (A4 k))
 obtain⟨ys,Oh⟩:=aa (eL (tJ k) (A5 k))
 have hR:=alh hP k hk ps sa bs ns xs ys BU has Ad D2 nv Oh
 obtain⟨pc,db⟩:=aa (j' k/8+1)
 obtain⟨bc,SX⟩:=aa (A2 k/8+1)
 obtain⟨nc,l8⟩:=aa (A3 k/8+1)
 obtain⟨xc,lG⟩:=aa (A4 k/8+1)
 obtain⟨yc,B6⟩:=aa (A5 k/8+1)
 obtain⟨bp,R_⟩:=GO hP hs (j' k) (f_ k) lp rp ps BU pc db
 obtain⟨bb,zX⟩:=GO hP hs (A2 k) (o9 k) l2 r2 bs Ad bc SX
 obtain⟨bn,FT⟩:=GO hP hs (A3 k) (qC k) l3 r3 ns D2 nc l8
 obtain⟨bx,Dq⟩:=GO hP hs (A4 k) (tI k) l4 r4 xs nv xc lG
 obtain⟨sE,Ds⟩:=GO hP hs (A5 k) (tJ k) l5 r5 ys Oh yc B6
 rw[<-hp]at R_ bp
 rw[<-hb]at zX bb
 rw[<-hn]at FT bn
 rw[<-hx]at Dq bx
 rw[<-hy]at Ds sE
 have vP:=fun m=>hs.b m p pc
 have vB:=fun m=>hs.b m b bc
 have vN:=fun m=>hs.b m n nc
 have vX:=fun m=>hs.b m x xc
 have vY:=fun m=>hs.b m y yc
 have zQ:(3:Nat)<4294967296:=by decide
 have aj':=OQ hP hs zQ
 have z8:=hs.one zQ (by decide)
 have DY:=apE k hk
 rw[<-has]at DY
 by_cases IG:pK k=0
 ·have DG:a=p-3:=by rw[ha,hp,sF,aj IG]
  have uF:p<4294967296^40:=by
   rw[hp];refine cg rp (eH (cV (by decide) lp) (by decide))
  obtain⟨ac,bac,F6⟩:=UZ hP hs (x:=p) (c:=pc) (y:=3) (e:=1) bp (by decide) uF (by rw[hp];exact yL) a DG
  rw[z8,aj']at F6
  have vA:=fun m=>hs.b m a ac
  refine⟨pc,ac,bc,nc,xc,yc,bp,bac,bb,bn,bx,sE,?_⟩
  suffices raw:ah P 14 [.int .i64 (.ofNat k)] [] 0 [] (fun w L q=>w= .aR [.agg [.int .i64 (.ofNat k),.slice 2 0 (S p) pc,.slice 9 0 (S a) ac,.slice 3 0 (S b) bc,.slice 4 0 (S n) nc,.slice 5 0 (S x) xc,.slice 6 0 (S y) yc],.bool true]/\find L 2=some ⟨2,H p pc,88⟩/\find L 9=some ⟨9,H a ac,88⟩/\find L 3=some ⟨3,H b bc,88⟩/\find L 4=some ⟨4,H n nc,88⟩/\find L 5=some ⟨5,H x xc,88⟩/\find L 6=some ⟨6,H y yc,88⟩) by
   refine raw.dj fun v L q ⟨h1,h2,h3,h4,h5,h6,h7⟩=>⟨fun l=>if l=0 then 2 else if l=1 then 9 else l+1,.aR [.agg [.int .i64 (.ofNat k),.slice 0 0 (S p) pc,.slice 1 0 (S a) ac,.slice 2 0 (S b) bc,.slice 3 0 (S n) nc,.slice 4 0 (S x) xc,.slice 5 0 (S y) yc],.bool true],[⟨0,H p pc,88⟩,⟨1,H a ac,88⟩,⟨2,H b bc,88⟩,⟨3,H n nc,88⟩,⟨4,H x xc,88⟩,⟨5,H y yc,88⟩],6,?_,rfl,rfl,rfl⟩
   subst h1
   exact dH ⟨rfl,rfl,trivial⟩ ⟨by rw[ae _ (vP 0)];exact h2,rfl,rfl,vP 6,by rw[ae _ (vA 0)];exact h3,rfl,rfl,vA 6,by rw[ae _ (vB 0)];exact h4,rfl,rfl,vB 6,by rw[ae _ (vN 0)];exact h5,rfl,rfl,vN 6,by rw[ae _ (vX 0)];exact h6,rfl,rfl,vX 6,by rw[ae _ (vY 0)];exact h7,rfl,rfl,vY 6,trivial⟩ rfl rfl rfl
  refine aq hP Tryz.func14 (ak _ rfl) (aD rfl) ?_
  intro A g K hA hg hK
  obtain⟨_,_,_,_,_,ix,_,_,_,_,_,gH,_,_,_,off,get⟩:=A
  have e4:∀j,off 0 j 1=j:=fun j=>(dh hA 0 j 1).trans (by omega)
  have i0:ix 0 6=some 0:=bB hA (k:=0) (n:=6) (by decide)
  have i1:ix 1 6=some 1:=bB hA (k:=1) (n:=6) (by decide)
  have i2:ix 2 6=some 2:=bB hA (k:=2) (n:=6) (by decide)
  have i3:ix 3 6=some 3:=bB hA (k:=3) (n:=6) (by decide)
  have i4:ix 4 6=some 4:=bB hA (k:=4) (n:=6) (by decide)
  have i5:ix 5 6=some 5:=bB hA (k:=5) (n:=6) (by decide)
  have q0:get [.str ps,.str sa,.str bs,.str ns,.str xs,.str ys] 0=some (.str ps):=(jU hA _ _).trans rfl
  have q1:get [.str ps,.str sa,.str bs,.str ns,.str xs,.str ys] 1=some (.str sa):=(jU hA _ _).trans rfl
  have q2:get [.str ps,.str sa,.str bs,.str ns,.str xs,.str ys] 2=some (.str bs):=(jU hA _ _).trans rfl
  have q3:get [.str ps,.str sa,.str bs,.str ns,.str xs,.str ys] 3=some (.str ns):=(jU hA _ _).trans rfl
  have q4:get [.str ps,.str sa,.str bs,.str ns,.str xs,.str ys] 4=some (.str xs):=(jU hA _ _).trans rfl
  have q5:get [.str ps,.str sa,.str bs,.str ns,.str xs,.str ys] 5=some (.str ys):=(jU hA _ _).trans rfl
  have wQ:gH .eql sa ⟨⟨[45]⟩⟩=true:=by
   have e:gH=Ar.real.gH:=aK Ar.gH hA
   rw[e]
   exact DY.trans (eh IG)
  clear  hp ha hb hn hx hy BU has Ad D2 nv Oh db SX l8 lG B6
  cbv
  refine bq hg hR _root_.id trivial ?_
  cbv
  refine cm hP hA hg ?_
  cbv
  rw[i0]
  cbv
  rw[e4,q0]
  cbv
  refine qF (n':=3) (pZ rfl hg rfl rfl R_ _root_.id rfl trivial rfl (val:= .slice 0 0 (S p) pc) (NB:=[⟨0,H p pc,88⟩]) (n:=2) (n1:=1) (fun _ _ _ h=>⟨h.1,h.2.1,h.2.2⟩) rfl rfl (fun l h1 h2=>⟨_,il.2 rfl,by show 0=l;omega⟩)) (by decide) rfl (by simp[aG]) ?_
  simp only[aG,ae (H p pc) (vP 0)]
  cbv
  rw[i2]
  cbv
  rw[e4,q2]
  cbv
  refine qF (n':=4) (pZ rfl hg rfl rfl zX _root_.id rfl trivial rfl (val:= .slice 0 0 (S b) bc) (NB:=[⟨0,H b bc,88⟩]) (n:=3) (n1:=1) (fun _ _ _ h=>⟨h.1,h.2.1,h.2.2⟩) rfl rfl (fun l h1 h2=>⟨_,il.2 rfl,by show 0=l;omega⟩)) (by decide) rfl (by simp[aG]) ?_
  simp only[aG,ae (H b bc) (vB 0)]
  cbv
  rw[i3]
  cbv
  rw[e4,q3]
  cbv
  refine qF (n':=5) (pZ rfl hg rfl rfl FT _root_.id rfl trivial rfl (val:= .slice 0 0 (S n) nc) (NB:=[⟨0,H n nc,88⟩]) (n:=4) (n1:=1) (fun _ _ _ h=>⟨h.1,h.2.1,h.2.2⟩) rfl rfl (fun l h1 h2=>⟨_,il.2 rfl,by show 0=l;omega⟩)) (by decide) rfl (by simp[aG]) ?_
  simp only[aG,ae (H n nc) (vN 0)]
  cbv
  rw[i4]
  cbv
  rw[e4,q4]
  cbv
  refine qF (n':=6) (pZ rfl hg rfl rfl Dq _root_.id rfl trivial rfl (val:= .slice 0 0 (S x) xc) (NB:=[⟨0,H x xc,88⟩]) (n:=5) (n1:=1) (fun _ _ _ h=>⟨h.1,h.2.1,h.2.2⟩) rfl rfl (fun l h1 h2=>⟨_,il.2 rfl,by show 0=l;omega⟩)) (by decide) rfl (by simp[aG]) ?_
  simp only[aG,ae (H x xc) (vX 0)]
  cbv
  rw[i5]
  cbv
  rw[e4,q5]
  cbv
  refine qF (n':=7) (pZ rfl hg rfl rfl Ds _root_.id rfl trivial rfl (val:= .slice 0 0 (S y) yc) (NB:=[⟨0,H y yc,88⟩]) (n:=6) (n1:=1) (fun _ _ _ h=>⟨h.1,h.2.1,h.2.2⟩) rfl rfl (fun l h1 h2=>⟨_,il.2 rfl,by show 0=l;omega⟩)) (by decide) rfl (by simp[aG]) ?_
  simp only[aG,ae (H y yc) (vY 0)]
  cbv
  rw[i1]
  cbv
  rw[e4,q1]
  cbv
  rw[wQ]
  cbv
  refine bq hg F6 (fun l=>if l=0 then 2 else 8) (eK (vP 0) rfl rfl rfl) ?_
  simp only[aG,ae (H a ac) (vA 0)]
  cbv
  exact hK _ _ _ ⟨rfl,rfl,rfl,rfl,rfl,rfl,rfl⟩
 ·have DG:a=Cs k:=by rw[ha,sF,af IG]
  obtain⟨ac,oK⟩:=aa (pK k/8+1)
  obtain⟨ba,IM⟩:=GO hP hs (pK k) (Cs k) l1 r1 sa (by rw[has,K7,af IG]) ac oK
  rw[<-DG]at IM ba
  have vA:=fun m=>hs.b m a ac
  refine⟨pc,ac,bc,nc,xc,yc,bp,ba,bb,bn,bx,sE,?_⟩
  suffices raw:ah P 14 [.int .i64 (.ofNat k)] [] 0 [] (fun w L q=>w= .aR [.agg [.int .i64 (.ofNat k),.slice 2 0 (S p) pc,.slice 8 0 (S a) ac,.slice 3 0 (S b) bc,.slice 4 0 (S n) nc,.slice 5 0 (S x) xc,.slice 6 0 (S y) yc],.bool true]/\find L 2=some ⟨2,H p pc,88⟩/\find L 8=some ⟨8,H a ac,88⟩/\find L 3=some ⟨3,H b bc,88⟩/\find L 4=some ⟨4,H n nc,88⟩/\find L 5=some ⟨5,H x xc,88⟩/\find L 6=some ⟨6,H y yc,88⟩) by
   refine raw.dj fun v L q ⟨h1,h2,h3,h4,h5,h6,h7⟩=>⟨fun l=>if l=0 then 2 else if l=1 then 8 else l+1,.aR [.agg [.int .i64 (.ofNat k),.slice 0 0 (S p) pc,.slice 1 0 (S a) ac,.slice 2 0 (S b) bc,.slice 3 0 (S n) nc,.slice 4 0 (S x) xc,.slice 5 0 (S y) yc],.bool true],[⟨0,H p pc,88⟩,⟨1,H a ac,88⟩,⟨2,H b bc,88⟩,⟨3,H n nc,88⟩,⟨4,H x xc,88⟩,⟨5,H y yc,88⟩],6,?_,rfl,rfl,rfl⟩
   subst h1
   exact dH ⟨rfl,rfl,trivial⟩ ⟨by rw[ae _ (vP 0)];exact h2,rfl,rfl,vP 6,by rw[ae _ (vA 0)];exact h3,rfl,rfl,vA 6,by rw[ae _ (vB 0)];exact h4,rfl,rfl,vB 6,by rw[ae _ (vN 0)];exact h5,rfl,rfl,vN 6,by rw[ae _ (vX 0)];exact h6,rfl,rfl,vX 6,by rw[ae _ (vY 0)];exact h7,rfl,rfl,vY 6,trivial⟩ rfl rfl rfl
  refine aq hP Tryz.func14 (ak _ rfl) (aD rfl) ?_
  intro A g K hA hg hK
  obtain⟨_,_,_,_,_,ix,_,_,_,_,_,gH,_,_,_,off,get⟩:=A
  have e4:∀j,off 0 j 1=j:=fun j=>(dh hA 0 j 1).trans (by omega)
  have i0:ix 0 6=some 0:=bB hA (k:=0) (n:=6) (by decide)
  have i1:ix 1 6=some 1:=bB hA (k:=1) (n:=6) (by decide)
  have i2:ix 2 6=some 2:=bB hA (k:=2) (n:=6) (by decide)
  have i3:ix 3 6=some 3:=bB hA (k:=3) (n:=6) (by decide)
  have i4:ix 4 6=some 4:=bB hA (k:=4) (n:=6) (by decide)
  have i5:ix 5 6=some 5:=bB hA (k:=5) (n:=6) (by decide)
  have q0:get [.str ps,.str sa,.str bs,.str ns,.str xs,.str ys] 0=some (.str ps):=(jU hA _ _).trans rfl
  have q1:get [.str ps,.str sa,.str bs,.str ns,.str xs,.str ys] 1=some (.str sa):=(jU hA _ _).trans rfl
  have q2:get [.str ps,.str sa,.str bs,.str ns,.str xs,.str ys] 2=some (.str bs):=(jU hA _ _).trans rfl
  have q3:get [.str ps,.str sa,.str bs,.str ns,.str xs,.str ys] 3=some (.str ns):=(jU hA _ _).trans rfl
  have q4:get [.str ps,.str sa,.str bs,.str ns,.str xs,.str ys] 4=some (.str xs):=(jU hA _ _).trans rfl
  have q5:get [.str ps,.str sa,.str bs,.str ns,.str xs,.str ys] 5=some (.str ys):=(jU hA _ _).trans rfl
  have wQ:gH .eql sa ⟨⟨[45]⟩⟩=false:=by
   have e:gH=Ar.real.gH:=aK Ar.gH hA
   rw[e]
   exact DY.trans (da IG)
  clear oK hp ha hb hn hx hy BU has Ad D2 nv Oh db SX l8 lG B6
  cbv
  refine bq hg hR _root_.id trivial ?_
  cbv
  refine cm hP hA hg ?_
  cbv
  rw[i0]
  cbv
  rw[e4,q0]
  cbv
  refine qF (n':=3) (pZ rfl hg rfl rfl R_ _root_.id rfl trivial rfl (val:= .slice 0 0 (S p) pc) (NB:=[⟨0,H p pc,88⟩]) (n:=2) (n1:=1) (fun _ _ _ h=>⟨h.1,h.2.1,h.2.2⟩) rfl rfl (fun l h1 h2=>⟨_,il.2 rfl,by show 0=l;omega⟩)) (by decide) rfl (by simp[aG]) ?_
  simp only[aG,ae (H p pc) (vP 0)]
  cbv
  rw[i2]
  cbv
  rw[e4,q2]
  cbv
  refine qF (n':=4) (pZ rfl hg rfl rfl zX _root_.id rfl trivial rfl (val:= .slice 0 0 (S b) bc) (NB:=[⟨0,H b bc,88⟩]) (n:=3) (n1:=1) (fun _ _ _ h=>⟨h.1,h.2.1,h.2.2⟩) rfl rfl (fun l h1 h2=>⟨_,il.2 rfl,by show 0=l;omega⟩)) (by decide) rfl (by simp[aG]) ?_
  simp only[aG,ae (H b bc) (vB 0)]
  cbv
  rw[i3]
  cbv
  rw[e4,q3]
  cbv
  refine qF (n':=5) (pZ rfl hg rfl rfl FT _root_.id rfl trivial rfl (val:= .slice 0 0 (S n) nc) (NB:=[⟨0,H n nc,88⟩]) (n:=4) (n1:=1) (fun _ _ _ h=>⟨h.1,h.2.1,h.2.2⟩) rfl rfl (fun l h1 h2=>⟨_,il.2 rfl,by show 0=l;omega⟩)) (by decide) rfl (by simp[aG]) ?_
  simp only[aG,ae (H n nc) (vN 0)]
  cbv
  rw[i4]
  cbv
  rw[e4,q4]
  cbv
  refine qF (n':=6) (pZ rfl hg rfl rfl Dq _root_.id rfl trivial rfl (val:= .slice 0 0 (S x) xc) (NB:=[⟨0,H x xc,88⟩]) (n:=5) (n1:=1) (fun _ _ _ h=>⟨h.1,h.2.1,h.2.2⟩) rfl rfl (fun l h1 h2=>⟨_,il.2 rfl,by show 0=l;omega⟩)) (by decide) rfl (by simp[aG]) ?_
  simp only[aG,ae (H x xc) (vX 0)]
  cbv
  rw[i5]
  cbv
  rw[e4,q5]
  cbv
  refine qF (n':=7) (pZ rfl hg rfl rfl Ds _root_.id rfl trivial rfl (val:= .slice 0 0 (S y) yc) (NB:=[⟨0,H y yc,88⟩]) (n:=6) (n1:=1) (fun _ _ _ h=>⟨h.1,h.2.1,h.2.2⟩) rfl rfl (fun l h1 h2=>⟨_,il.2 rfl,by show 0=l;omega⟩)) (by decide) rfl (by simp[aG]) ?_
  simp only[aG,ae (H y yc) (vY 0)]
  cbv
  rw[i1]
  cbv
  rw[e4,q1]
  cbv
  rw[wQ]
  cbv
  rw[i1]
  cbv
  rw[e4,q1]
  cbv
  refine bq hg IM _root_.id trivial ?_
  simp only[aG,ae (H a ac) (vA 0)]
  cbv
  exact hK _ _ _ ⟨rfl,rfl,rfl,rfl,rfl,rfl,rfl⟩
end
end Go.Proofs.YtfocopihipejfaaGreat
namespace Go.Vg
open Go.RowKit Go.Lib
section
variable {P:Program}{g:G}
theorem tL{o:Oper}{c:Call}(ho:o.op= .call c){m0 N:Nat}{ms:List Nat}(hg:GI g m0 ms N)(aA:dD N o.dst=true){F:FF}{M:LL}{n:Nat}{f:FuncId}{us args:List SV}(hc:callee (look F) c=some (f,us)){Lp:LL}{n0 a b:Nat}{C:List SV}{t:TypeId}
 (fg:ah P f args Lp n0 [] (fun w L q=>w= .slice n0 0 a b/\L=[⟨n0,C,t⟩]/\q=n0+1)) (bC:an 0 C=true) (kp:∀b∈Lp,b.l<n0/\an n0 b.cs=true)
 (ρ:Nat->Nat) (jh:us=bj ρ args) (l6:lu ρ (qD o (find M)) Lp) (BI:below (fun l=>eo (Lp.map aC.l) l) n0=true) {K:SV->LL->Nat->Prop} (hK:K (.slice n 0 a b) [⟨n,C,t⟩] (n+1)):zu g P o F M n K:=by
 have hk:=fg.Uw (fun b hb=>⟨(kp b hb).1,ak _ (kp b hb).2⟩) (fun v L q h b hb=>by obtain⟨_,rfl,_⟩:=h;obtain rfl:=il.1 hb;exact aE _)
 have wK:=pZ (n:=n) (n1:=n0+1) (val:= .slice n0 0 a b) (NB:=[⟨n0,C,t⟩]) ho hg aA hc hk ρ jh l6 BI (fun v L1 k h=>by
  obtain⟨NB,⟨h1,h2,h3⟩,h4⟩:=h
  rw[h2]at h4
  exact⟨h1,h4,h3⟩) (by simp) (gf.2 fun b hb=>by simpa using(kp b hb).1) (fun l h1 h2=>⟨_,il.2 rfl,by show n0=l;omega⟩)
 have jD:Nat.blt n0 n0=false:=by
  cases h:Nat.blt n0 n0 with
  |false=>rfl
  |true=>exact absurd (g_ h) (iO _)
 have hr:eD ρ n0 n n0=n:=by unfold eD;rw[jD];simp
 rw[show cK (eD ρ n0 n) (.slice n0 0 a b)= .slice n 0 a b from by simp[cK,hr],show aG (eD ρ n0 n) [⟨n0,C,t⟩]=[⟨n,C,t⟩]from by simp[aG,hr,ae C bC]]at wK
 exact qF (n':=n+1) wK (by omega) (by simp) (by simp) hK
theorem adX{o:Oper}{c:Call}(ho:o.op= .call c){m0 N:Nat}{ms:List Nat}(hg:GI g m0 ms N)(aA:dD N o.dst=true){F:FF}{M:LL}{n:Nat}{f:FuncId}{us args:List SV}(hc:callee (look F) c=some (f,us)){Lp NB:LL}{n0 n1:Nat}{val:SV}
 (fg:ah P f args Lp n0 [] (fun w L q=>w=val/\L=NB/\q=n1)) (kp:∀b∈Lp,b.l<n0/\an n0 b.cs=true) (FX:∀b∈NB,n0<=b.l/\b.l<n1) (DI:∀l,n0<=l->l<n1->∃b∈NB,b.l=l) (Ao:(NB.map aC.l).Nodup) (hle:n0<=n1)
 (ρ:Nat->Nat) (jh:us=bj ρ args) (l6:lu ρ (qD o (find M)) Lp) (BI:below (fun l=>eo (Lp.map aC.l) l) n0=true) {K:SV->LL->Nat->Prop} (hK:K (cK (eD ρ n0 n) val) (aG (eD ρ n0 n) NB) (n+(n1-n0))):zu g P o F M n K:=by
 have hk:=fg.Uw (fun b hb=>⟨(kp b hb).1,ak _ (kp b hb).2⟩) (fun v L q h b hb=>by obtain⟨_,rfl,_⟩:=h;exact(FX b hb).1)
 have wK:=pZ (n:=n) (n1:=n1) (val:=val) (NB:=NB) ho hg aA hc hk ρ jh l6 BI (fun v L1 k h=>by
  obtain⟨NB',⟨h1,h2,h3⟩,h4⟩:=h
  rw[h2]at h4
  exact⟨h1,h4,h3⟩) (gf.2 fun b hb=>by simpa using(FX b hb).1) (gf.2 fun b hb=>by simpa using(kp b hb).1) DI
 have hr:∀l,n0<=l->eD ρ n0 n l=n+(l-n0):=fun l hl=>by
  have jD:Nat.blt l n0=false:=by
   cases h:Nat.blt l n0 with
   |false=>rfl
   |true=>have:=g_ h;omega
  unfold eD;rw[jD]
 have hrb:∀ (L:LL),(∀b∈L,n0<=b.l)->(aG (eD ρ n0 n) L).map aC.l=(L.map aC.l).map fun l=>n+(l-n0):=fun L=>by
  induction L with
  |nil=>intro _;rfl
  |cons b L ih=>
   intro h
   show eD ρ n0 n b.l::(aG (eD ρ n0 n) L).map aC.l=(n+(b.l-n0))::_
   rw[hr _ (h b kd),ih fun b hb=>h b (lj _ hb)]
 have hm:=hrb NB (fun b hb=>(FX b hb).1)
 refine qF (n':=n+(n1-n0)) wK (by omega) (gf.2 fun b hb=> ?_) ?_ hK
 ·have h1:b.l∈(aG (eD ρ n0 n) NB).map aC.l:=List.mem_map_of_mem hb
  rw[hm]at h1
  obtain⟨l,h2,h3⟩:=iZ.1 h1
  obtain⟨b',h4,rfl⟩:=iZ.1 h2
  have:=FX b' h4
  simp only[dq]
  exact⟨oD (by omega),oD (by show b.l+1<=_;omega)⟩
 ·rw[hm]
  refine List.pairwise_map.2 (Ao.imp_of_mem fun {x y} hx hy mM=> ?_)
  obtain⟨b,h1,rfl⟩:=iZ.1 hx
  obtain⟨b',h2,rfl⟩:=iZ.1 hy
  have:=(FX b h1).1
  have:=(FX b' h2).1
  omega
end
end Go.Vg
namespace Go.Proofs.YtfocopihipejfaaGreat
open Go.Vg Go.RowKit
set_option maxRecDepth 200000
set_option cbv.maxSteps 100000000
def pW(k:Nat)(sp sa sb sn sx sy:SV):List SV:=[.int .i64 (.ofNat k),sp,sa,sb,sn,sx,sy]
section
variable {P:Program}(hP:P=Tryz.prog){H:Nat->Nat->List SV}{S:Nat->Nat}(hs:HS H S)
include hP hs
theorem acv{x c y e:Nat}(hx:x<4294967296^c)(hy:y<4294967296^e)(X Y:Nat->Nat)(wX:Wn 9 X)(wY:Wn 9 Y)(vX:V 9 X=x)(vY:V 9 Y=y)(inf:Bool):ah P 24 [.agg [.slice 0 0 (S x) c,.slice 1 0 (S y) e,.bool inf]] [⟨0,H x c,88⟩,⟨1,H y e,88⟩] 2 [] (fun w _ _=>w= .agg (l_ X Y inf)):=by
 have h1:=B8 hP hs hx X wX vX
 have h2:=B8 hP hs hy Y wY vY
 obtain⟨C,hC⟩:=aa (H x c)
 have bC:∀m,an m C=true:=fun m=>by rw[hC];exact hs.b m x c
 obtain⟨E,hE⟩:=aa (H y e)
 have bE:∀m,an m E=true:=fun m=>by rw[hE];exact hs.b m y e
 rw[<-hC]at h1⊢
 rw[<-hE]at h2⊢
 clear hC hE
 refine aq hP Tryz.func24 ⟨⟨ao rfl,⟨ao rfl,⟨trivial,trivial⟩⟩⟩,trivial⟩ (by simpa [ay,bd]using⟨ak _ (bC 2),ak _ (bE 2)⟩) ?_
 intro A g K hA hg hK
 cases A
 cbv
 refine cm hP hA hg ?_
 cbv
 refine aY hg h1 (fun _=>0) (qV (bC 0) rfl) ?_
 cbv
 refine aY hg h2 (fun _=>1) (qV (bE 0) rfl) ?_
 cbv
 exact hK _ _ _ rfl
theorem mG(k:Nat)(np na nb nm nx ny cp ca cb cn cx cy:Nat)(r0 r1 r2 r3 r4 r5:List SV)(b0:∀m,an m r0=true)(b1:∀m,an m r1=true)(b2:∀m,an m r2=true)(b3:∀m,an m r3=true)(b4:∀m,an m r4=true)(b5:∀m,an m r5=true):ah P 28 [.agg (pW k (.slice 0 0 np cp) (.slice 1 0 na ca) (.slice 2 0 nb cb) (.slice 3 0 nm cn) (.slice 4 0 nx cx) (.slice 5 0 ny cy))]
 [⟨0,r0,88⟩,⟨1,r1,88⟩,⟨2,r2,88⟩,⟨3,r3,88⟩,⟨4,r4,88⟩,⟨5,r5,88⟩] 6 [] (fun w _ _=>w= .agg [.slice 4 0 nx cx,.slice 5 0 ny cy,.bool false]):=by
 have:=hs.h
 refine aq hP Tryz.func28 ⟨⟨trivial,ao rfl,ao rfl,ao rfl,ao rfl,ao rfl,ao rfl,trivial⟩,trivial⟩ (by simpa [ay,bd]using⟨ak _ (b0 6),ak _ (b1 6),ak _ (b2 6),ak _ (b3 6),ak _ (b4 6),ak _ (b5 6)⟩) ?_
 intro A g K hA hg hK
 cases A
 cbv
 exact hK _ _ _ rfl
end
theorem zO{ρ:Nat->Nat}{M:Nat->Option aC}{l l':Nat}{C C':List SV}{t t':TypeId}(bC:an 0 C=true)(CY:an 0 C'=true)(h:M (ρ l)=some ⟨ρ l,C,t⟩)(h':M (ρ l')=some ⟨ρ l',C',t'⟩):lu ρ M [⟨l,C,t⟩,⟨l',C',t'⟩]:=
 ⟨by show M (ρ l)=some ⟨ρ l,bj ρ C,t⟩;rw[ae C bC];exact h,by show M (ρ l')=some ⟨ρ l',bj ρ C',t'⟩;rw[ae C' CY];exact h',trivial⟩
section
variable {P:Program}(hP:P=Tryz.prog){H:Nat->Nat->List SV}{S:Nat->Nat}(hs:HS H S)
include hP hs
end
section
variable {P:Program}(hP:P=Tryz.prog){H:Nat->Nat->List SV}{S:Nat->Nat}(hs:HS H S)
include hP hs
theorem alg(n x:Nat)(hn:n<=144)(s:ByteArray)(aJ:s.size=n)(nv:x=Sh.word (bl s))(c:Nat)(hc:c=n/4+1):x<4294967296^c/\ah P 32 [.str s] [] 0 [] (fun w L q=>w= .slice 0 0 (S x) c/\L=[⟨0,H x c,88⟩]/\q=1):=by
 have hx:x<256^n:=by rw[nv,<-aJ,<-bh];exact Lv (i' s)
 have db:256^n<=4294967296^c:=by
  rw[show(4294967296:Nat)=256^4 from by decide,<-jS]
  exact cV (by decide) (by omega)
 have lG:x<4294967296^c:=cg hx db
 refine⟨lG,?_⟩
 obtain⟨T,hT⟩:=aa (fun i=>mb 256 x (n-i):Nat->Nat)
 obtain⟨Dd,um⟩:=aa (fun k=>x/256^k%256:Nat->Nat)
 have KD:∀k,Dd k<256:=fun k=>by rw[um];exact ax _ (by decide)
 obtain⟨Z,hZ⟩:=aa (fun i=>Vg.hs (dg (T i)) c:Nat->List SV)
 have bZ:∀m i,an m (Z i)=true:=fun m i=>by rw[hZ];exact dG _ _ m
 have jN:List.replicate c (SV.int .u32 0)=Z 0:=by
  rw[hZ,qm,hT];show _=Vg.hs (dg (mb 256 x (n-0))) c
  rw[tU,aee hx]
  exact D_ fun j _=>by unfold dg Dg.eJ;rw[zp]
 have I9:T n=x:=by rw[hT];show mb 256 x (n-n)=x;rw[vH,aeg]
 have cj:Z n=Vg.hs (dg x) c:=by rw[hZ];show Vg.hs (dg (T n)) c=_;rw[I9]
 have jb:ah P 69 [.slice 0 0 c c] [⟨0,Z n,88⟩] 1 [] (fun w _ _=>w= .slice 0 0 (S x) c):=by
  rw[cj];exact pU hP (dg x) c c (S x) (aE _) (by omega) (by rw[hs.s,rU lG])
 rw[hs.h]
 show ah P _ _ _ _ _ (fun w L q=>w= .slice 0 0 (S x) c/\L=[⟨0,Vg.hs (dg x) c,88⟩]/\q=1)
 rw[<-cj]
 refine ah.dj (R:=fun w L q=>w= .slice 0 0 (S x) c/\find L 0=some ⟨0,Z n,88⟩) ?_ fun v L q ⟨h1,h2⟩=>⟨_root_.id,.slice 0 0 (S x) c,[⟨0,Z n,88⟩],1,by subst h1;exact fD ⟨rfl,rfl,trivial⟩ ⟨h2,rfl,bZ 1 n,trivial⟩ rfl rfl,rfl,rfl,rfl⟩
 have aW:∀i k q r,i<n->k=n-1-i->q=k/4->r=8*(k%4)->(∀j,dg (T (i+1)) j=if j=q then dg (T i) q+Dd k*2^r else dg (T i) j)/\dg (T i) q|||Dd k*2^r=dg (T i) q+Dd k*2^r/\dg (T i) q+Dd k*2^r<4294967296:=fun i k q r hi hk hq hr=>by
  have e1:T i=mb 256 x (k+1):=by rw[hT];show mb 256 x (n-i)=_;congr 1;omega
  have e2:T (i+1)=T i+Dd k*2^(8*k):=by
   rw[e1,hT,um];show mb 256 x (n-(i+1))=_+x/256^k%256*_
   rw[show n-(i+1)=k by omega,aef,jS]
  rw[e2]
  refine acZ (t:=x/256^(k+1)) (w:=8) (by omega) (by omega) (KD k) ?_
  rw[e1];unfold mb
  rw[show 8*k+8=8*(k+1) by omega,jS 2 8]
 have mB:∀i k,i<n->k=n-1-i->∃h:i<s.size,(s[i]'h).toNat=Dd k:=fun i k hi hk=>by
  refine⟨by omega,?_⟩
  have h:=aeL (l:=bl s) (i' s) (i:=k) (by rw[bh];omega)
  rw[bh,<-nv]at h
  rw[um]
  show _=x/256^k%256
  rw[h,show s.size-1-k=i by omega,jQ]
  have h2:(bl s)[i]? =some (s[i]'(by omega)).toNat:=by
   unfold bl
   rw[xM,E',oA (show i<s.data.size by have:=aJ;show i<s.size;omega)]
   rfl
  rw[h2]
  rfl
 clear hT um cj I9 nv
 refine aq hP Tryz.func32 (ak _ rfl) (aD rfl) ?_
 intro A g K hA hg hK
 obtain⟨bin,sh,cmp,_,aX,ix,nn,_,_,_,_,_,fK,lg,nat,off,get,_,sub,eU⟩:=A
 have en:fK s=Int.ofNat n:=(lK hA s).trans (by rw[aJ])
 have e0:nat c=Int.ofNat c:=fZ hA c
 have e1:bin .quo .i64 (.ofNat n) 4=Int.ofNat (n/4):=mO hA (a:=n) (b:=4) (by omega)
 have e2:bin .add .i64 (.ofNat (n/4)) 1=Int.ofNat c:=(e_ hA (a:=n/4) (b:=1) (by omega)).trans (by rw[hc])
 have e3:∀j,off 0 j 1=j:=fun j=>(dh hA 0 j 1).trans (by omega)
 have e4:∀i m,i<m->ix (.ofNat i) m=some i:=fun i m h=>bB hA h
 have e5:∀i j,j<c->get (Z i) j=some (.int .u32 (.ofNat (dg (T i) j))):=fun i j h=>by rw[hZ];exact ei hA .u32 (dg (T i)) h
 have e6:∀i q v,q<c->(dg (T (i+1))=fun j=>if j=q then v else dg (T i) j)->eU (Z i) q [.int .u32 (.ofNat v)]=some (Z (i+1)):=fun i q v h hv=>by rw[hZ];exact gX hA .u32 (n:=c) (dg (T i)) (dg (T (i+1))) h hv
 have e7:∀i,i<n->cmp .lss (.ofNat i) (.ofNat n)=true:=fun i h=>cZ hA h
 have sH:cmp .lss (.ofNat n) (.ofNat n)=false:=bM hA (iO n)
 have e8:∀i,i<n->bin .add .i64 (.ofNat i) 1=Int.ofNat (i+1):=fun i h=>e_ hA (a:=i) (b:=1) (by omega)
 have es:∀i b,s[i]? =some b->lg s (Int.ofNat i)=some (Int.ofNat b.toNat):=fun i b h=>by
  have e:lg=Ar.real.lg:=aK Ar.lg hA
  rw[e]
  show(if 0<=Int.ofNat i then(s[(Int.ofNat i).toNat]?).map fun b=>(b.toNat:Int)else none)=_
  rw[aj (show(0:Int)<=Int.ofNat i from zi _)]
  show(s[i]?).map _=_
  rw[h];rfl
 have hU:=rV hP
 clear hZ
 cbv
 rw[en,e1,e2]
 cbv
 refine nL (hP▸aI) hg rfl rfl (show av 23=some _ from rfl) rfl (show av 88=some _ from rfl) hU rfl (m:=c) rfl rfl (by omega) (by omega) ?_
 rw[jN]
 cbv
 refine bH Nat (fun i=>i<=n) (fun i=>n-i) (fun i=> [(4,.int .i64 (.ofNat i))]) [0,2,3] (fun i=> [(0,Z i)]) 0 (bf _) ?_ ?_
 ·exact aS (by repeat' (first|exact trivial|refine⟨rfl,rfl,rfl,?_⟩|refine⟨rfl,rfl,bZ 1 0,?_⟩))
 intro i hi
 by_cases ab:i<n
 ·obtain⟨n1,iy⟩:=aa (n-1)
  obtain⟨k,hk⟩:=aa (n-1-i)
  obtain⟨q,hq⟩:=aa (k/4)
  obtain⟨r8,J5⟩:=aa (k%4)
  obtain⟨r,hr⟩:=aa (8*r8)
  have ru:q<c:=by omega
  obtain⟨t1,t2,t3⟩:=aW i k q r ab hk hq (by rw[hr,J5])
  obtain⟨d,hd⟩:=aa (Dd k)
  have ld:d<256:=by rw[hd];exact KD k
  obtain⟨Gl,q_⟩:=mB i k ab hk
  have uH:=es i (s[i]'Gl) (by rw[getElem?_pos s i Gl])
  rw[q_,<-hd]at uH
  rw[<-hd]at t1 t2 t3
  obtain⟨O,hO⟩:=aa (dg (T i) q)
  have gO:=e5 i q ru
  rw[<-hO]at t1 t2 t3 gO
  obtain⟨y,hy⟩:=aa (d*2^r)
  obtain⟨w,hw⟩:=aa (O+y)
  rw[<-hy]at t1 t2 t3
  rw[<-hw]at t1 t2 t3
  have Ge:aX .u32 (.ofNat d)=Int.ofNat d:=jr hA (by omega)
  have g1:bin .sub .i64 (.ofNat n) 1=Int.ofNat n1:=(er hA (a:=n) (b:=1) (by omega) (by omega)).trans (by rw[iy])
  have g2:bin .sub .i64 (.ofNat n1) (.ofNat i)=Int.ofNat k:=(er hA (a:=n1) (b:=i) (by omega) (by omega)).trans (by rw[hk,iy])
  have g3:bin .quo .i64 (.ofNat k) 4=Int.ofNat q:=(mO hA (a:=k) (b:=4) (by omega)).trans (by rw[hq])
  have g4:bin .rem .i64 (.ofNat k) 4=Int.ofNat r8:=(pJ hA k 4).trans (by rw[J5])
  have g5:bin .mul .i64 (.ofNat r8) 8=Int.ofNat r:=(k8 hA (a:=r8) (b:=8) (by omega)).trans (by rw[hr,bJ])
  have g6:nn (.ofNat r)=true:=kr hA r
  have g7:sh .shl .u32 (.ofNat d) (.ofNat r)=Int.ofNat y:=(mP hA (k:= .u32) rfl d (s:=r) (by show r<=32;omega)).trans (aK Int.ofNat (by rw[<-hy];exact aO (by show y<4294967296;omega)))
  have g8:bin .or .u32 (.ofNat O) (.ofNat y)=Int.ofNat w:=(l9 hA (k:= .u32) rfl (a:=O) (b:=y) (by show O<4294967296;omega) (by show y<4294967296;omega)).trans (aK Int.ofNat t2)
  have g9:=e6 i q w ru (funext t1)
  have g10:=e8 i ab
  obtain⟨Zn,cj⟩:=aa (Z (i+1))
  rw[<-cj]at g9
  have HW:∀m,an m Zn=true:=fun m=>by rw[cj];exact bZ m _
  cbv
  rw[en]
  cbv
  rw[e7 i ab]
  cbv
  rw[en,g1,g2]
  cbv
  refine cf hP hA hg fun mk _=> ?_
  cbv
  rw[g3]
  cbv
  rw[e4 q c ru]
  cbv
  rw[e3,gO]
  cbv
  rw[uH]
  cbv
  rw[Ge]
  cbv
  rw[g4]
  cbv
  rw[g5]
  cbv
  rw[g6]
  cbv
  rw[g7]
  cbv
  rw[g8]
  cbv
  rw[e4 q c ru]
  cbv
  rw[e3,g9]
  cbv
  rw[g10]
  refine⟨i+1,_root_.id,ab,(by show n-(i+1)<n-i;omega),?_⟩
  rw[<-cj]
  exact aS (by repeat' (first|exact trivial|refine⟨rfl,rfl,rfl,?_⟩|refine⟨rfl,rfl,HW 1,?_⟩))
 ·have wM:n=i:=by omega
  subst wM
  cbv
  rw[en]
  cbv
  rw[sH]
  cbv
  refine fT rfl hg rfl rfl jb (fun _=>0) rfl (fG (bZ 0 n) rfl) ?_
  rintro _ _ _ rfl
  refine⟨by simp[bd],by simp[bd,cK],?_⟩
  cbv
  exact hK _ _ _ ⟨rfl,rfl⟩
end
def RO(P:Program)(id:Nat):Prop:=∀ (s dg:ByteArray),s.size<140737488352000->bl dg=Sh.of id (bl s)->ah P 33 [.int .i64 (.ofNat id),.str s] [] 0 [] (fun v _ _=>v= .str dg)
theorem adr{P:Program}(hP:P=Tryz.prog){id:Nat}(h:id=1\/id=2):RO P id:=fun s dg hs hd=>by
 rcases h with rfl|rfl
 ·exact Zz hP 1 (wj Sh.i224) (Or.inl ⟨rfl,rfl⟩) (by unfold Sh.jI;decide) s dg hs hd
 ·exact Zz hP 2 (wj Sh.i256) (Or.inr ⟨rfl,rfl⟩) (by unfold Sh.jI;decide) s dg hs hd
theorem ZC{P:Program}(hP:P=Tryz.prog)(id:Nat)(hid:1<=id/\id<=4)(kS:RO P id)(key r:ByteArray)(x:Nat)(hx:x<256)(jd:key.size<140737488352000)(hr:bl r=(Sh.key id (bl key)).map (· ^^^x)):
 ah P 131 [.int .i64 (.ofNat id),.str key,.int .u8 (.ofNat x)] [] 0 [] (fun v _ _=>v= .str r):=by
 obtain⟨k,hk⟩:=aa (Sh.vU id)
 have lB:=Sh.mQ hid
 rw[<-hk]at lB
 have RJ:=Zx hP id hid k hk
 obtain⟨kz,pA⟩:=aa key.size
 have hU:=C9 hP
 refine aq hP Tryz.func131 (ak _ rfl) (aD rfl) ?_
 intro A g K hA hg hK
 obtain⟨bin,_,cmp,_,_,ix,_,_,_,_,_,_,fK,_,nat,off,get,_,_,eU⟩:=A
 have f0:∀i,i<k->ix (.ofNat i) k=some i:=fun i h=>bB hA h
 have f1:∀i,off 0 i 1=i:=fun i=>(dh hA 0 i 1).trans (by omega)
 have f2:∀i,i<k->cmp .lss (.ofNat i) (.ofNat k)=true:=fun i h=>cZ hA h
 have f3:cmp .lss (.ofNat k) (.ofNat k)=false:=bM hA (by omega)
 have f4:∀i,i<k->bin .add .i64 (.ofNat i) 1=Int.ofNat (i+1):=fun i h=>gP hA (by omega)
 have f5:nat k=Int.ofNat k:=fZ hA k
 have e1:fK key=Int.ofNat kz:=(lK hA key).trans (by rw[pA])
 cbv
 rw[e1]
 cbv
 refine dJ hg RJ ?_
 by_cases Gk:k<kz
 ·obtain⟨kb,od⟩:∃b,bl b=Sh.of id (bl key):=⟨ib (Sh.of id (bl key)),gu (Sh.Cd _ _)⟩
  obtain⟨m,hm⟩:=aa kb.size
  have fJ:m<=k:=by rw[hm,<-bh,od,Sh.Ce hid];exact lB.1
  have FU:=kS key kb jd od
  cbv
  rw[show cmp .gtr (.ofNat kz) (.ofNat k)=true from po hA Gk]
  cbv
  refine dJ hg FU ?_
  obtain⟨l,hl⟩:=aa (bl kb++List.replicate (k-m) 0)
  have je:l=Sh.key id (bl key):=by
   rw[hl];unfold Sh.key;rw[bh,<-hk]
   rw[aj (by omega:k<key.size),od,hm,<-bh,od]
  have og:l.length=k:=by rw[je,Sh.xm hid,hk]
  have oP:∀i,l.getD i 0<256:=fun i=>by
   rw[jQ]
   cases hq:l[i]? with
   |none=>decide
   |some y=>exact Sh.Ou id (bl key) (i' key) y (by rw[<-je];exact CL hq)
  obtain⟨C,hC⟩:=aa (fun i=>dk (XR l x i):Nat->List SV)
  have bC:∀q i,an q (C i)=true:=fun q i=>by rw[hC];exact C8 q _
  have gC:∀i,i<k->get (C i) i=some (.int .u8 (.ofNat (l.getD i 0))):=fun i h=>by
   rw[hC];have:=Qf (l:=l) (x:=x) (i:=i) (by omega) [];rw[gg]at this;exact(jU hA _ _).trans this
  have sC:∀i,i<k->eU (C i) i [.int .u8 (.ofNat (l.getD i 0^^^x))]=some (C (i+1)):=fun i h=>by
   rw[hC]
   refine(zb hA (by rw[ml,HO];omega) _).trans ?_
   have:=Qg (l:=l) (x:=x) (i:=i) (by omega) []
   rw[gg,gg]at this
   rw[this]
  have sL:dZ kb++(List.replicate k (SV.int .u8 0)).drop kb.size=C 0:=by
   rw[hC,<-hm,Yi,qR]
   show _=dk ([].map _++l.drop 0)
   rw[lh,hl]
   simp[dk]
  have RN:((C k).drop 0).take k=dZ r:=by
   rw[hC,lh]
   show(dk (XR l x k)).take k=_
   unfold XR
   rw[<-og,Hy,Yh,gg,vf (by rw[ml,fL];exact aE _),qR,hr,je]
  have mI:r.size=k:=by rw[<-bh,hr,fL,Sh.xm hid,hk]
  clear hC
  cbv
  refine dJ hg RJ ?_
  cbv
  refine nL (hP▸aI) hg rfl rfl (show av 89=some _ from rfl) rfl (show av 5=some _ from rfl) hU rfl rfl rfl (by omega) (by omega) ?_
  obtain⟨Z,hZ⟩:=aa (List.replicate k (SV.int .u8 0):List SV)
  have Jb:Z.length=k:=by rw[hZ,jq]
  rw[<-hZ]at sL⊢
  cbv
  refine ad4 (hP▸aI) hg rfl rfl (show av 89=some _ from rfl) rfl (show ev _ _=some (.slice 0 0 k k)from rfl) (show find _ 0=some _ from rfl) rfl (d:=kb) rfl (by omega) (by omega) ?_
  rw[sL]
  clear sL hZ Jb
  cbv
  refine bH Nat (fun i=>i<=k) (fun i=>k-i) (fun i=> [(8,.int .i64 (.ofNat i))]) [2,7] (fun i=> [(0,C i)]) 0 (bf _) ?_ ?_
  ·exact aS (by repeat' (first|exact trivial|refine⟨rfl,rfl,rfl,?_⟩|refine⟨rfl,rfl,bC 1 0,?_⟩))
  intro i hi
  by_cases ab:i<k
  ·obtain⟨y,hy⟩:=aa (l.getD i 0)
   obtain⟨w,hw⟩:=aa (y^^^x)
   have nt:bin .xor .u8 (.ofNat y) (.ofNat x)=Int.ofNat w:=(pL hA rfl (by rw[hy];exact oP i) hx).trans (by rw[hw])
   have g1:=gC i ab
   have g2:=sC i ab
   rw[<-hy]at g1 g2
   rw[<-hw]at g2
   cbv
   rw[f5]
   cbv
   rw[f2 i ab]
   cbv
   rw[f0 i ab]
   cbv
   rw[f1 i,g1]
   cbv
   rw[nt,f0 i ab]
   cbv
   rw[f1 i,g2]
   cbv
   rw[f4 i ab]
   refine⟨i+1,_root_.id,ab,(by show k-(i+1)<k-i;omega),?_⟩
   exact aS (by repeat' (first|exact trivial|refine⟨rfl,rfl,rfl,?_⟩|refine⟨rfl,rfl,bC 1 (i+1),?_⟩))
  ·obtain rfl:i=k:=by omega
   cbv
   rw[f5]
   cbv
   rw[f3]
   cbv
   refine ES (hP▸aI) hg rfl rfl (show av 9=some _ from rfl) rfl (show av 89=some _ from rfl) rfl (hP▸Tryz.underlying5) rfl (show find _ 0=some _ from rfl) RN mI ?_
   cbv
   exact hK _ _ _ rfl
 ·obtain⟨kb,od⟩:=aa key
  obtain⟨m,hm⟩:=aa kb.size
  have fJ:m<=k:=by rw[hm,od];omega
  rw[<-od]at e1⊢
  cbv
  rw[show cmp .gtr (.ofNat kz) (.ofNat k)=false from jV hA (by omega)]
  obtain⟨l,hl⟩:=aa (bl kb++List.replicate (k-m) 0)
  have je:l=Sh.key id (bl key):=by
   rw[hl];unfold Sh.key;rw[bh,<-hk]
   rw[af (by omega:¬k<key.size),hm,od,<-bh]
  have og:l.length=k:=by rw[je,Sh.xm hid,hk]
  have oP:∀i,l.getD i 0<256:=fun i=>by
   rw[jQ]
   cases hq:l[i]? with
   |none=>decide
   |some y=>exact Sh.Ou id (bl key) (i' key) y (by rw[<-je];exact CL hq)
  obtain⟨C,hC⟩:=aa (fun i=>dk (XR l x i):Nat->List SV)
  have bC:∀q i,an q (C i)=true:=fun q i=>by rw[hC];exact C8 q _
  have gC:∀i,i<k->get (C i) i=some (.int .u8 (.ofNat (l.getD i 0))):=fun i h=>by
   rw[hC];have:=Qf (l:=l) (x:=x) (i:=i) (by omega) [];rw[gg]at this;exact(jU hA _ _).trans this
  have sC:∀i,i<k->eU (C i) i [.int .u8 (.ofNat (l.getD i 0^^^x))]=some (C (i+1)):=fun i h=>by
   rw[hC]
   refine(zb hA (by rw[ml,HO];omega) _).trans ?_
   have:=Qg (l:=l) (x:=x) (i:=i) (by omega) []
   rw[gg,gg]at this
   rw[this]
  have sL:dZ kb++(List.replicate k (SV.int .u8 0)).drop kb.size=C 0:=by
   rw[hC,<-hm,Yi,qR]
   show _=dk ([].map _++l.drop 0)
   rw[lh,hl]
   simp[dk]
  have RN:((C k).drop 0).take k=dZ r:=by
   rw[hC,lh]
   show(dk (XR l x k)).take k=_
   unfold XR
   rw[<-og,Hy,Yh,gg,vf (by rw[ml,fL];exact aE _),qR,hr,je]
  have mI:r.size=k:=by rw[<-bh,hr,fL,Sh.xm hid,hk]
  clear hC
  cbv
  refine dJ hg RJ ?_
  cbv
  refine nL (hP▸aI) hg rfl rfl (show av 89=some _ from rfl) rfl (show av 5=some _ from rfl) hU rfl rfl rfl (by omega) (by omega) ?_
  obtain⟨Z,hZ⟩:=aa (List.replicate k (SV.int .u8 0):List SV)
  have Jb:Z.length=k:=by rw[hZ,jq]
  rw[<-hZ]at sL⊢
  cbv
  refine ad4 (hP▸aI) hg rfl rfl (show av 89=some _ from rfl) rfl (show ev _ _=some (.slice 0 0 k k)from rfl) (show find _ 0=some _ from rfl) rfl (d:=kb) rfl (by omega) (by omega) ?_
  rw[sL]
  clear sL hZ Jb
  cbv
  refine bH Nat (fun i=>i<=k) (fun i=>k-i) (fun i=> [(8,.int .i64 (.ofNat i))]) [2,7] (fun i=> [(0,C i)]) 0 (bf _) ?_ ?_
  ·exact aS (by repeat' (first|exact trivial|refine⟨rfl,rfl,rfl,?_⟩|refine⟨rfl,rfl,bC 1 0,?_⟩))
  intro i hi
  by_cases ab:i<k
  ·obtain⟨y,hy⟩:=aa (l.getD i 0)
   obtain⟨w,hw⟩:=aa (y^^^x)
   have nt:bin .xor .u8 (.ofNat y) (.ofNat x)=Int.ofNat w:=(pL hA rfl (by rw[hy];exact oP i) hx).trans (by rw[hw])
   have g1:=gC i ab
   have g2:=sC i ab
   rw[<-hy]at g1 g2
   rw[<-hw]at g2
   cbv
   rw[f5]
   cbv
   rw[f2 i ab]
   cbv
   rw[f0 i ab]
   cbv
   rw[f1 i,g1]
   cbv
   rw[nt,f0 i ab]
   cbv
   rw[f1 i,g2]
   cbv
   rw[f4 i ab]
   refine⟨i+1,_root_.id,ab,(by show k-(i+1)<k-i;omega),?_⟩
   exact aS (by repeat' (first|exact trivial|refine⟨rfl,rfl,rfl,?_⟩|refine⟨rfl,rfl,bC 1 (i+1),?_⟩))
  ·obtain rfl:i=k:=by omega
   cbv
   rw[f5]
   cbv
   rw[f3]
   cbv
   refine ES (hP▸aI) hg rfl rfl (show av 9=some _ from rfl) rfl (show av 89=some _ from rfl) rfl (hP▸Tryz.underlying5) rfl (show find _ 0=some _ from rfl) RN mI ?_
   cbv
   exact hK _ _ _ rfl
theorem MB{P:Program}(hP:P=Tryz.prog)(id:Nat)(hid:1<=id/\id<=4)(kS:RO P id)(key msg dg:ByteArray)(jd:key.size<140737488352000)(oT:msg.size<2^39)(fk:bl dg=Sh.jY id (bl key) (bl msg)):
 ah P 85 [.int .i64 (.ofNat id),.str key,.str msg] [] 0 [] (fun v _ _=>v= .str dg):=by
 have kE:=Sh.Ou id (bl key) (i' key)
 have lB:=Sh.mQ hid
 obtain⟨ip,uC⟩:∃b,bl b=(Sh.key id (bl key)).map (· ^^^54):=⟨ib ((Sh.key id (bl key)).map (· ^^^54)),gu (Sh.PI kE (by decide))⟩
 obtain⟨ok,jf⟩:∃b,bl b=(Sh.key id (bl key)).map (· ^^^92):=⟨ib ((Sh.key id (bl key)).map (· ^^^92)),gu (Sh.PI kE (by decide))⟩
 have his:ip.size<=128:=by rw[<-bh,uC,fL,Sh.xm hid];omega
 have BR:ok.size<=128:=by rw[<-bh,jf,fL,Sh.xm hid];omega
 obtain⟨m1,b_⟩:=aa (ip++msg)
 obtain⟨d1,qk⟩:∃b,bl b=Sh.of id (bl m1):=⟨ib (Sh.of id (bl m1)),gu (Sh.Cd _ _)⟩
 obtain⟨m2,cU⟩:=aa (ok++d1)
 have TA:m1.size=ip.size+msg.size:=by rw[b_,r_]
 have arx:d1.size=Sh.size id:=by rw[<-bh,qk,Sh.Ce hid]
 have TB:m2.size=ok.size+d1.size:=by rw[cU,r_]
 have hXi:=ZC hP id hid kS key ip 54 (by decide) jd uC
 have hXo:=ZC hP id hid kS key ok 92 (by decide) jd jf
 have hO1:=kS m1 d1 (by omega) qk
 have hO2:=kS m2 dg (by omega) (by rw[fk,cU,nO,jf,qk,b_,nO,uC];rfl)
 clear uC jf qk fk kE
 refine aq hP Tryz.func85 (ak _ rfl) (aD rfl) ?_
 intro A g K hA hg hK
 obtain⟨_,_,_,_,_,_,_,_,_,_,iC⟩:=A
 have e1:iC ip msg=some m1:=(nK hA (by omega)).trans (by rw[b_])
 have e2:iC ok d1=some m2:=(nK hA (by omega)).trans (by rw[cU])
 cbv
 refine dJ hg hXo ?_
 cbv
 refine dJ hg hXi ?_
 cbv
 rw[e1]
 cbv
 refine dJ hg hO1 ?_
 cbv
 rw[e2]
 cbv
 refine dJ hg hO2 ?_
 cbv
 exact hK _ _ _ rfl
theorem agP{P:Program}(hP:P=Tryz.prog)(id:Nat)(hid:1<=id/\id<=4)(kS:RO P id)(k v s:ByteArray)(n:Nat)(jd:k.size<=64)(iz:v.size<=64)(N_:s.size<2^20)(k' v':ByteArray)(dF:bl k'=(Sh.jn ⟨id,bl k,bl v,n⟩ (bl s)).k)(jv:bl v'=(Sh.jn ⟨id,bl k,bl v,n⟩ (bl s)).v):
 ah P 84 [.ptr 0 0,.str s] [⟨0,[.int .i64 (.ofNat id),.str k,.str v,.int .i64 (.ofNat n)],79⟩] 1 [0] (fun w L q=>w= .aR []/\L=[⟨0,[.int .i64 (.ofNat id),.str k',.str v',.int .i64 (.ofNat n)],79⟩]/\q=1):=by
 refine ah.dj (R:=fun w L q=>w= .aR []/\find L 0=some ⟨0,[.int .i64 (.ofNat id),.str k',.str v',.int .i64 (.ofNat n)],79⟩) ?_ fun w L q ⟨h1,h2⟩=>⟨_root_.id,.aR [],_,1,by subst h1;exact fD ⟨rfl,rfl,trivial⟩ ⟨h2,rfl,rfl,trivial⟩ rfl rfl,rfl,rfl,rfl⟩
 have aJ:=abS id hid (bl s) k v jd iz
 have hu:=fun i hi=>abT id (bl s) k v n i hi
 have Dt:∀i,bl (gG id (bl s) k v (i+1)).1=Sh.jY id (bl (gG id (bl s) k v i).1) (bl (gG id (bl s) k v i).2++[i]++bl s):=fun i=>by rw[gG,gu (Sh.rj _ _ _)]
 have uq:∀i,bl (gG id (bl s) k v (i+1)).2=Sh.jY id (bl (gG id (bl s) k v (i+1)).1) (bl (gG id (bl s) k v i).2):=fun i=>by rw[gG,gu (Sh.rj _ _ _)]
 obtain⟨k1,dM⟩:=aa ((gG id (bl s) k v 1).1)
 obtain⟨v1,gD⟩:=aa ((gG id (bl s) k v 1).2)
 obtain⟨k2,fq⟩:=aa ((gG id (bl s) k v 2).1)
 obtain⟨v2,mK⟩:=aa ((gG id (bl s) k v 2).2)
 have s1:=aJ 1
 have s2:=aJ 2
 have b1:=Dt 0
 have c1:=uq 0
 have b2:=Dt 1
 have c2:=uq 1
 simp only[dB,Nat.reduceAdd]at b1 c1 b2 c2
 rw[<-dM,<-gD]at s1
 rw[<-fq,<-mK]at s2
 rw[<-dM]at b1
 rw[<-dM,<-gD]at c1
 rw[<-dM,<-gD,<-fq]at b2
 rw[<-fq,<-gD,<-mK]at c2
 have u1:bl s=[]->k1=k'/\v1=v':=fun h=>by
  have:=hu 1 (by rw[aj h])
  rw[<-dM,<-gD]at this
  exact⟨ph (this.1.trans dF.symm),ph (this.2.trans jv.symm)⟩
 have u2:bl s≠ []->k2=k'/\v2=v':=fun h=>by
  have:=hu 2 (by rw[af h])
  rw[<-fq,<-mK]at this
  exact⟨ph (this.1.trans dF.symm),ph (this.2.trans jv.symm)⟩
 obtain⟨m1,b_⟩:=aa (v++ByteArray.mk #[0])
 obtain⟨m2,cU⟩:=aa (m1++s)
 obtain⟨m3,ri⟩:=aa (v1++ByteArray.mk #[1])
 obtain⟨m4,Am⟩:=aa (m3++s)
 have z1:m1.size<=65:=by rw[b_,r_];show v.size+1<=65;omega
 have z2:m2.size<2^21:=by rw[cU,r_];omega
 have z3:m3.size<=65:=by rw[ri,r_];show v1.size+1<=65;omega
 have z4:m4.size<2^21:=by rw[Am,r_];omega
 have kR:=MB hP id hid kS k m2 k1 (by omega) (by omega) (by rw[b1,cU,nO,b_,nO];rfl)
 have zT:=MB hP id hid kS k1 v v1 (by omega) (by omega) c1
 have Bx:=MB hP id hid kS k1 m4 k2 (by omega) (by omega) (by rw[b2,Am,nO,ri,nO];rfl)
 have zU:=MB hP id hid kS k2 v1 v2 (by omega) (by omega) c2
 clear hu Dt uq dM gD fq mK b1 c1 b2 c2 aJ dF jv
 refine aq hP Tryz.func84 ⟨(by show 0<1;decide),trivial,trivial⟩ (aD rfl) ?_
 intro A g K hA hg hK
 obtain⟨_,_,_,_,_,_,_,_,_,_,iC,gH⟩:=A
 have e1:iC v (ByteArray.mk #[0])=some m1:=(nK hA (by show v.size+1<_;omega)).trans (by rw[b_])
 have e2:iC m1 s=some m2:=(nK hA (by omega)).trans (by rw[cU])
 have e3:iC v1 (ByteArray.mk #[1])=some m3:=(nK hA (by show v1.size+1<_;omega)).trans (by rw[ri])
 have e4:iC m3 s=some m4:=(nK hA (by omega)).trans (by rw[Am])
 have f6:gH .neq s (ByteArray.mk #[])= !decide (bl s=[]):=by
  have e:gH=Ar.real.gH:=aK Ar.gH hA
  rw[e]
  exact ad9 s
 cbv
 refine cm hP hA hg ?_
 cbv
 rw[e1]
 cbv
 rw[e2]
 cbv
 refine bN hg kR ?_
 cbv
 refine cm hP hA hg ?_
 cbv
 refine bN hg zT ?_
 cbv
 rw[f6]
 by_cases hs:bl s=[]
 ·rw[eh hs]
  cbv
  exact hK _ _ _ ⟨rfl,by rw[<-(u1 hs).1,<-(u1 hs).2];rfl⟩
 ·rw[da hs]
  cbv
  refine cm hP hA hg ?_
  cbv
  rw[e3]
  cbv
  rw[e4]
  cbv
  refine bN hg Bx ?_
  cbv
  refine cm hP hA hg ?_
  cbv
  refine bN hg zU ?_
  cbv
  exact hK _ _ _ ⟨rfl,by rw[<-(u2 hs).1,<-(u2 hs).2];rfl⟩
theorem agI{P:Program}(hP:P=Tryz.prog)(id:Nat)(hid:1<=id/\id<=4)(kS:RO P id)(e a b:ByteArray)(he:Sh.size id<=2*e.size/\e.size<=256)(ha:a.size<=256)(hb:b.size<=256)(k v:ByteArray)(hk:bl k=(Sh.new id (bl e++bl a++bl b)).k)(hv:bl v=(Sh.new id (bl e++bl a++bl b)).v):
 ah P 81 [.int .i64 (.ofNat id),.str e,.str a,.str b] [] 0 [] (fun w L q=>w= .aR [.ptr 0 0,.int .i64 0]/\L=[⟨0,[.int .i64 (.ofNat id),.str k,.str v,.int .i64 1],79⟩]/\q=1):=by
 obtain⟨z,hz⟩:=aa (Sh.size id)
 have jl:=Sh.mQ hid
 rw[<-hz]at jl he
 have hS:=QS hP id hid z hz
 obtain⟨k0,fB⟩:∃b,bl b=List.replicate z 0:=⟨ib (List.replicate z 0),gu fun x hx=>by rw[(qM.1 hx).2];decide⟩
 obtain⟨v0,kH⟩:∃b,bl b=List.replicate z 1:=⟨ib (List.replicate z 1),gu fun x hx=>by rw[(qM.1 hx).2];decide⟩
 have ajP:k0.size=z:=by rw[<-bh,fB,jq]
 have akn:v0.size=z:=by rw[<-bh,kH,jq]
 have I2:=ZD hP z 0 (by decide) (by omega) k0 fB
 have kh:=ZD hP z 1 (by decide) (by omega) v0 kH
 obtain⟨m1,b_⟩:=aa (e++a)
 obtain⟨m2,cU⟩:=aa (m1++b)
 have TA:m1.size=e.size+a.size:=by rw[b_,r_]
 have TB:m2.size=m1.size+b.size:=by rw[cU,r_]
 have JN:bl m2=bl e++bl a++bl b:=by rw[cU,nO,b_,nO]
 have hU:ah P 84 [.ptr 0 0,.str m2] [⟨0,[.int .i64 (.ofNat id),.str k0,.str v0,.int .i64 1],79⟩] 1 [0] (fun w L q=>w= .aR []/\L=[⟨0,[.int .i64 (.ofNat id),.str k,.str v,.int .i64 1],79⟩]/\q=1):=
  agP hP id hid kS k0 v0 m2 1 (by omega) (by omega) (by omega) k v (by rw[hk,JN,fB,kH,hz];rfl) (by rw[hv,JN,fB,kH,hz];rfl)
 refine ah.dj (R:=fun w L q=>∃l,w= .aR [.ptr l 0,.int .i64 0]/\find L l=some ⟨l,[.int .i64 (.ofNat id),.str k,.str v,.int .i64 1],79⟩) ?_ fun w L q ⟨l,h1,h2⟩=>⟨fun _=>l,.aR [.ptr 0 0,.int .i64 0],_,1,by subst h1;exact dH ⟨rfl,rfl,trivial⟩ ⟨h2,rfl,rfl,rfl,trivial⟩ rfl rfl rfl,rfl,rfl,rfl⟩
 clear hk hv fB kH
 obtain⟨ez,hez⟩:=aa e.size
 obtain⟨az,No⟩:=aa a.size
 obtain⟨bz,S3⟩:=aa b.size
 obtain⟨e2,kT⟩:=aa (2*ez)
 refine aq hP Tryz.func81 (ak _ rfl) (aD rfl) ?_
 intro A g K hA hg hK
 obtain⟨bin,_,cmp,_,_,_,_,_,_,_,iC,_,fK⟩:=A
 have g1:cmp .eql (.ofNat z) 0=false:=ja hA (a:=z) (b:=0) (by omega)
 have g2:iC e a=some m1:=(nK hA (by omega)).trans (by rw[b_])
 have g3:iC m1 b=some m2:=(nK hA (by omega)).trans (by rw[cU])
 have s1:fK e=Int.ofNat ez:=(lK hA e).trans (by rw[hez])
 have s2:fK a=Int.ofNat az:=(lK hA a).trans (by rw[No])
 have s3:fK b=Int.ofNat bz:=(lK hA b).trans (by rw[S3])
 have g4:bin .mul .i64 2 (.ofNat ez)=Int.ofNat e2:=(k8 hA (a:=2) (b:=ez) (by omega)).trans (by rw[kT])
 have g5:cmp .lss (.ofNat e2) (.ofNat z)=false:=bM hA (by omega)
 have g6:∀x,x<=256->cmp .gtr (.ofNat x) 256=false:=fun x h=>jV hA (a:=x) (b:=256) (by omega)
 have g7:=g6 ez (by omega)
 have g8:=g6 az (by omega)
 have g9:=g6 bz (by omega)
 cbv
 refine dJ hg hS ?_
 cbv
 rw[g1]
 cbv
 rw[s1]
 cbv
 rw[g4]
 cbv
 refine dJ hg hS ?_
 cbv
 rw[g5]
 cbv
 rw[s1]
 cbv
 rw[g7]
 cbv
 rw[s2]
 cbv
 rw[g8]
 cbv
 rw[s3]
 cbv
 rw[g9]
 cbv
 refine dJ hg hS ?_
 cbv
 refine dJ hg I2 ?_
 cbv
 refine dJ hg hS ?_
 cbv
 refine dJ hg kh ?_
 cbv
 rw[g2]
 cbv
 rw[g3]
 cbv
 refine bq hg hU (fun _=>0) ⟨rfl,trivial⟩ ?_
 cbv
 exact hK _ _ _ ⟨0,rfl,rfl⟩
end Go.Proofs.YtfocopihipejfaaGreat
