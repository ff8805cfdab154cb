/-
  This text proves what these texts prove: Pb, Pc, Pd, Pe. Conditions: those of each theorem.
-/
import Derived.Test.YtfocopihipejfaaGreatB22
set_option maxHeartbeats 8000000
set_option linter.all false
namespace Go.Vg
open Go.RowKit Go.Lib
theorem zG(b z i:Nat):z%b^(i+1)=z%b^i+Dg.eJ b z i*b^i:=by
 rw[Nat.mod_pow_succ,bJ];rfl
theorem Pd{Q B r s Z:Nat}(hB:0<B)(hr:r<Q)(hZ:Z%(Q*B)=(r+s*Q)%(Q*B)):Z/Q%B=s%B/\(r+s*Q)/(Q*B)=s/B:=by
 have h1:(r+s*Q)/Q=s:=by rw[zj _ _ (by omega),kg hr,dB]
 constructor
 ·have h2:Z/Q%B=Z%(Q*B)/Q:=(Yw Z Q B).symm
  rw[h2,hZ,Yw,h1]
 ·rw[<-ke,h1]
def sG(x y i:Nat):Nat:=(x%4294967296^i+y%4294967296^i)/4294967296^i
theorem Q6(x y:Nat):sG x y 0=0:=by simp[sG,zl]
theorem Il(x y i:Nat):sG x y i<=1:=by
 unfold sG
 have hp:0<4294967296^i:=ew (by decide)
 have h1:=ax x hp
 have h2:=ax y hp
 generalize 4294967296^i=Q at *
 have:(x%Q+y%Q)/Q<2:=xQ (by omega)
 omega
theorem Hc(x y i s:Nat)(hs:s=dg x i+dg y i+sG x y i):dg (x+y) i=s%4294967296/\sG x y (i+1)=s/4294967296:=by
 have hp:0<4294967296^i:=ew (by decide)
 have key:x%4294967296^(i+1)+y%4294967296^(i+1)=(x%4294967296^i+y%4294967296^i)%4294967296^i+s*4294967296^i:=by
  rw[zG,zG,hs,cw,cw]
  have h:=gN (x%4294967296^i+y%4294967296^i) (4294967296^i)
  rw[bJ]at h
  unfold sG
  show _+dg x i*_+(_+dg y i*_)=_
  generalize dg x i*4294967296^i=a at *
  generalize dg y i*4294967296^i=b at *
  generalize (x%4294967296^i+y%4294967296^i)/4294967296^i*4294967296^i=c at *
  omega
 have aW:=Pd (Q:=4294967296^i) (B:=4294967296) (s:=s) (Z:=x+y) (by decide) (ax _ hp) (by rw[<-key,<-br];exact(sf x y _).trans rfl)
 refine⟨aW.1,?_⟩
 unfold sG
 rw[key,br]
 exact aW.2
def pR(x y i:Nat):Nat:=if x%4294967296^i<y%4294967296^i then 1 else 0
theorem Y9(x y:Nat):pR x y 0=0:=by simp[pR,zl]
theorem Qu(x y i:Nat):pR x y i<=1:=by unfold pR;split<;>omega
theorem Z5{x y:Nat}(i:Nat)(mM:y<=x)(s:Nat)(hs:s=dg x i+4294967296-dg y i-pR x y i):dg (x-y) i=s%4294967296/\pR x y (i+1)=1-s/4294967296:=by
 have hp:0<4294967296^i:=ew (by decide)
 have lx:=gR x i
 have ly:=gR y i
 have lb:=Qu x y i
 have hX:x%4294967296^(i+1)=x%4294967296^i+dg x i*4294967296^i:=zG _ _ _
 have hY:y%4294967296^(i+1)=y%4294967296^i+dg y i*4294967296^i:=zG _ _ _
 have uv:pR x y i=if x%4294967296^i<y%4294967296^i then 1 else 0:=rfl
 have mx:=ax x hp
 have my:=ax y hp
 have dx:=gN x (4294967296^i)
 have dy:=gN y (4294967296^i)
 have ex:dg x i=x/4294967296^i%4294967296:=rfl
 have ey:dg y i=y/4294967296^i%4294967296:=rfl
 have ez:dg (x-y) i=(x-y)/4294967296^i%4294967296:=rfl
 have cS:pR x y (i+1)=if x%4294967296^i+dg x i*4294967296^i<y%4294967296^i+dg y i*4294967296^i then 1 else 0:=by unfold pR;rw[hX,hY]
 generalize pR x y (i+1)=b' at *
 generalize pR x y i=b at *
 generalize dg (x-y) i=z at *
 generalize dg x i=a at *
 generalize dg y i=e at *
 generalize 4294967296^i=Q at *
 generalize x%Q=X at *
 generalize y%Q=Y at *
 generalize x/Q=p at *
 generalize y/Q=q at *
 clear hX hY
 -- p - q - b is the quotient
 have hZ:x-y=(X+b*Q-Y)+(p-q-b)*Q/\X+b*Q-Y<Q/\q+b<=p:=by
  have Gw:q+b<=p:=by
   rcases Nat.lt_or_ge p (q+b)with h|h
   ·exfalso
    have h1:Q*(p+1)<=Q*(q+b):=xS _ h
    rw[lL,lL,fh]at h1
    split at uv
    ·subst uv;rw[fh]at h1;omega
    ·subst uv;rw[L7]at h1;omega
   ·exact h
  obtain⟨t,rfl⟩:∃t,p=q+b+t:=⟨p-(q+b),by omega⟩
  rw[show q+b+t-q-b=t by omega]
  rw[lL,lL,bJ Q b,bJ Q t]at dx
  split at uv
  ·subst uv;rw[fN]at *;omega
  ·subst uv;rw[fE]at *;omega
 have hzq:(x-y)/Q=p-q-b:=by
  rw[hZ.1,zj _ _ (by omega),kg hZ.2.1,dB]
 rw[hzq]at ez
 refine⟨by omega,?_⟩
 have aaP:(X+a*Q<Y+e*Q)↔a<e+b:=by
  constructor
  ·intro h
   rcases Nat.lt_or_ge a (e+b)with h1|h1
   ·exact h1
   ·exfalso
    have h2:(e+b)*Q<=a*Q:=ea _ h1
    rw[cw]at h2
    split at uv
    ·subst uv;rw[fN]at h2;omega
    ·subst uv;rw[fE]at h2;omega
  ·intro h
   split at uv
   ·subst uv
    have h2:a*Q<=e*Q:=ea _ (by omega)
    omega
   ·subst uv
    have h2:(a+1)*Q<=e*Q:=ea _ (by omega)
    rw[cw,fN]at h2
    omega
 rw[cS]
 by_cases h:a<e+b
 ·rw[aj (aaP.2 h)];omega
 ·rw[af (fun h2=>h (aaP.1 h2))];omega
theorem fG{ρ:Nat->Nat}{L:LL}{l:Nat}{C:List SV}{t:TypeId}(bC:an 0 C=true)(h:find L (ρ l)=some ⟨ρ l,C,t⟩):lu ρ (find L) [⟨l,C,t⟩]:=
 ⟨by show find L (ρ l)=some ⟨ρ l,bj ρ C,t⟩;rw[ae C bC];exact h,trivial⟩
theorem eK{ρ:Nat->Nat}{L:LL}{l l':Nat}{C C':List SV}{t t':TypeId}(bC:an 0 C=true)(CY:an 0 C'=true)(h:find L (ρ l)=some ⟨ρ l,C,t⟩)(h':find L (ρ l')=some ⟨ρ l',C',t'⟩):lu ρ (find L) [⟨l,C,t⟩,⟨l',C',t'⟩]:=
 ⟨by show find L (ρ l)=some ⟨ρ l,bj ρ C,t⟩;rw[ae C bC];exact h,by show find L (ρ l')=some ⟨ρ l',bj ρ C',t'⟩;rw[ae C' CY];exact h',trivial⟩
section
variable {A:Ar}
theorem uL(hA:A=Ar.real){a b:Nat}(ha:a<0x10000000000000000)(hb:b=a%4294967296):A.bin .and .u64 (Int.ofNat a) 4294967295=Int.ofNat b:=
 (qP hA (k:= .u64) rfl (a:=a) (b:=4294967295) ha (by decide)).trans (aK Int.ofNat (by rw[hb,show(4294967295:Nat)=2^32-1 from rfl,Bf]))
theorem yI(hA:A=Ar.real){a b:Nat}(hb:b=a/4294967296):A.sh .shr .u64 (Int.ofNat a) 32=Int.ofNat b:=
 (k_ hA (k:= .u64) (a:=a) (b:=32) (by decide)).trans (aK Int.ofNat hb.symm)
theorem jr(hA:A=Ar.real){a:Nat}(ha:a<4294967296):A.aX .u32 (Int.ofNat a)=Int.ofNat a:=nQ hA (fun h=>by cases h) (fun _=>ha)
theorem C_(hA:A=Ar.real){a:Nat}(ha:a<0x10000000000000000):A.aX .u64 (Int.ofNat a)=Int.ofNat a:=nQ hA (fun h=>by cases h) (fun _=>ha)
theorem xF(hA:A=Ar.real){a b d:Nat}(h:b<=a)(ha:a<0x10000000000000000)(hd:d=a-b):A.bin .sub .u64 (Int.ofNat a) (Int.ofNat b)=Int.ofNat d:=
 (A8 hA (k:= .u64) rfl (a:=a) (b:=b) (by show b<=0x10000000000000000;omega)).trans (aK Int.ofNat (by rw[hd];show(a+0x10000000000000000-b)%0x10000000000000000=a-b;omega))
theorem qO(hA:A=Ar.real){a b d:Nat}(h:a+b<0x10000000000000000)(hd:d=a+b):A.bin .add .u64 (Int.ofNat a) (Int.ofNat b)=Int.ofNat d:=(CV hA h).trans (by rw[hd])
end
end Go.Vg
namespace Go.Proofs.YtfocopihipejfaaGreat
open Go.Vg Go.RowKit
set_option maxRecDepth 200000
set_option cbv.maxSteps 100000000
theorem rV{P:Program}(hP:P=Tryz.prog):(P.info? 88).map (·.bytes)=some 4:=by subst hP;kernel_rfl
def wr(h:Nat->Nat)(i:Nat):Nat->Nat:=fun j=>if j<i then h j else 0
theorem E3(h:Nat->Nat)(i v:Nat)(hv:v=h i):wr h (i+1)=fun j=>if j=i then v else wr h i j:=by
 funext j;unfold wr
 by_cases e:j=i
 ·rw[aj e,aj (by omega),hv,e]
 ·rw[af e]
  by_cases e2:j<i
  ·rw[aj e2,aj (by omega)]
  ·rw[af e2,af (by omega)]
theorem E4(h:Nat->Nat):wr h 0=fun _=>0:=by funext j;unfold wr;rw[af (mh j)]
theorem Gz(h:Nat->Nat)(c:Nat):hs (wr h c) c=hs h c:=D_ fun j hj=>by unfold wr;rw[aj hj]
theorem agz{P:Program}(hP:P=Tryz.prog){n c x m e y:Nat}{f u:Nat->Nat}(hx:Nm n c f x)(hy:Nm m e u y)(hn:n<2^20)(hm:m<2^20)(k k1:Nat)(hk:k=max n m)(dM:k1=k+1)(r:Nat)(hr:r=Vg.sz (x+y)):
 ah P 29 [.slice 0 0 n c,.slice 1 0 m e] [⟨0,hs f c,88⟩,⟨1,hs u e,88⟩] 2 [] (fun w L q=>w= .slice 2 0 r k1/\L=[⟨2,hs (dg (x+y)) k1,88⟩]/\q=3):=by
 obtain⟨Z,hZ⟩:=aa (fun i=>hs (wr (dg (x+y)) i) k1:Nat->List SV)
 have bZ:∀m i,an m (Z i)=true:=fun m i=>by rw[hZ];exact dG _ _ m
 have jN:List.replicate k1 (SV.int .u32 0)=Z 0:=by rw[hZ,qm];show _=hs (wr _ 0) k1;rw[E4]
 have cj:Z k1=hs (dg (x+y)) k1:=by rw[hZ];exact Gz _ _
 refine ah.dj (R:=fun w L q=>w= .slice 2 0 r k1/\find L 2=some ⟨2,Z k1,88⟩) ?_ fun v L q ⟨h1,h2⟩=>⟨_root_.id,.slice 2 0 r k1,[⟨2,Z k1,88⟩],3,by subst h1;exact fD ⟨rfl,rfl,trivial⟩ ⟨h2,rfl,bZ 3 k1,trivial⟩ rfl rfl,rfl,by rw[cj],rfl⟩
 have Gm:Int.ofNat k=if Int.ofNat m>Int.ofNat n then Int.ofNat m else Int.ofNat n:=by
  by_cases h:n<m
  ·have h2:Int.ofNat m>Int.ofNat n:=Hr.2 h
   rw[aj h2,hk,Nat.max_eq_right (ku h)]
  ·have h2:¬Int.ofNat m>Int.ofNat n:=fun h2=>h (Hr.1 h2)
   rw[af h2,hk,Nat.max_eq_left (by omega)]
 have TF:n<=k:=by rw[hk];exact Nat.le_max_left _ _
 have fJ:m<=k:=by rw[hk];exact Nat.le_max_right _ _
 have lB:k<2^20:=by rw[hk];exact Nat.max_lt.2 ⟨hn,hm⟩
 have mM:x+y<4294967296^k1:=by
  have h1:=cg hx.lt (cV (show 0<4294967296 by decide) TF)
  have h2:=cg hy.lt (cV (show 0<4294967296 by decide) fJ)
  rw[dM,br];omega
 have jb:ah P 69 [.slice 0 0 k1 k1] [⟨0,Z k1,88⟩] 1 [] (fun w _ _=>w= .slice 0 0 r k1):=by
  rw[cj];exact pU hP (dg (x+y)) k1 k1 r (aE _) (by omega) (by rw[hr,rU mM])
 have jt:∀i,ah P 54 [.slice 0 0 n c,.int .i64 (.ofNat i)] [⟨0,hs f c,88⟩] 1 [] (fun w _ _=>w= .int .u64 (.ofNat (dg x i))):=fun i=>zA hP f n c i _ hx.le hx.w (by
  by_cases h:i<n
  ·rw[aj h,hx.eJ h]
  ·rw[af h,hx.pj (by omega)])
 have s_:∀i,ah P 54 [.slice 0 0 m e,.int .i64 (.ofNat i)] [⟨0,hs u e,88⟩] 1 [] (fun w _ _=>w= .int .u64 (.ofNat (dg y i))):=fun i=>zA hP u m e i _ hy.le hy.w (by
  by_cases h:i<m
  ·rw[aj h,hy.eJ h]
  ·rw[af h,hy.pj (by omega)])
 have tf:sG x y k=dg (x+y) k:=by
  have h1:=(Hc x y k _ rfl).1
  rw[hx.pj TF,hy.pj fJ]at h1
  have:=Il x y k
  omega
 obtain⟨cy,ir⟩:=aa (fun i=>sG x y i:Nat->Nat)
 have zE:cy 0=0:=by rw[ir];exact Q6 x y
 have oJ:∀i,cy i<=1:=fun i=>by rw[ir];exact Il x y i
 have mZ:∀i s,s=dg x i+dg y i+cy i->dg (x+y) i=s%4294967296/\cy (i+1)=s/4294967296:=fun i s h=>by rw[ir]at *;exact Hc x y i s h
 have Im:cy k=dg (x+y) k:=by rw[ir];exact tf
 have Dk:=gR x
 have Bp:=gR y
 have Ip:=gR (x+y)
 have wG:∀i v,v=dg (x+y) i->wr (dg (x+y)) (i+1)=fun j=>if j=i then v else wr (dg (x+y)) i j:=fun i v h=>E3 _ i v h
 obtain⟨X,hX⟩:=aa (dg x)
 obtain⟨Y,hY⟩:=aa (dg y)
 obtain⟨S,hS⟩:=aa (dg (x+y))
 rw[<-hX]at jt Dk mZ
 rw[<-hY]at s_ Bp mZ
 rw[<-hS]at hZ Ip wG mZ Im
 obtain⟨C,hC⟩:=aa (hs f c)
 have bC:∀m,an m C=true:=fun m=>by rw[hC];exact dG f c m
 obtain⟨E,hE⟩:=aa (hs u e)
 have bE:∀m,an m E=true:=fun m=>by rw[hE];exact dG u e m
 rw[<-hC]at jt⊢
 rw[<-hE]at s_⊢
 clear hC hE hX hY hS cj
 refine aq hP Tryz.func29 ⟨ao rfl,⟨ao rfl,trivial⟩⟩ (by simpa [ay,bd]using⟨ak _ (bC 2),ak _ (bE 2)⟩) ?_
 intro A g K hA hg hK
 obtain⟨bin,sh,cmp,_,aX,ix,_,_,_,_,_,_,_,_,nat,off,_,_,_,eU⟩:=A
 have e0:∀n,nat n=Int.ofNat n:=fun n=>fZ hA n
 have e1:bin .add .i64 (.ofNat k) 1=Int.ofNat k1:=(e_ hA (a:=k) (b:=1) (by omega)).trans (by rw[dM])
 have e2:∀i,i<k->cmp .lss (.ofNat i) (.ofNat k)=true:=fun i h=>cZ hA h
 have uf:cmp .lss (.ofNat k) (.ofNat k)=false:=bM hA (iO k)
 have e3:∀i,i<k->bin .add .i64 (.ofNat i) 1=Int.ofNat (i+1):=fun i h=>e_ hA (a:=i) (b:=1) (by omega)
 have e4:∀j,off 0 j 1=j:=fun j=>(dh hA 0 j 1).trans (by omega)
 have e5:∀i,i<k1->ix (.ofNat i) k1=some i:=fun i h=>bB hA h
 have e6:∀i v,i<k1->v=S i->eU (Z i) i [.int .u32 (.ofNat v)]=some (Z (i+1)):=fun i v h hv=>by rw[hZ];exact gX hA .u32 (n:=k1) (wr S i) (wr S (i+1)) h (wG i v hv)
 have hU:=rV hP
 clear hZ
 cbv
 rw[e0,e0]
 refine Pe hg rfl rfl rfl rfl (r:=Int.ofNat k) Gm ?_
 cbv
 rw[e1]
 cbv
 refine nL (hP▸aI) hg rfl rfl (show av 23=some _ from rfl) rfl (show av 88=some _ from rfl) hU rfl (m:=k1) rfl rfl (by omega) (by omega) ?_
 rw[jN]
 cbv
 refine bH Nat (fun i=>i<=k) (fun i=>k-i) (fun i=> [(7,.int .u64 (.ofNat (cy i))),(8,.int .i64 (.ofNat i))]) [0,1,4,5,6] (fun i=> [(2,Z i)]) 0 (bf _) ?_ ?_
 ·rw[zE]
  exact aS (by repeat' (first|exact trivial|refine⟨rfl,rfl,rfl,?_⟩|refine⟨rfl,rfl,bC 3,?_⟩|refine⟨rfl,rfl,bE 3,?_⟩|refine⟨rfl,rfl,bZ 3 0,?_⟩))
 intro i hi
 by_cases ab:i<k
 ·obtain⟨s1,jg⟩:=aa (X i+Y i)
  obtain⟨s2,gk⟩:=aa (s1+cy i)
  obtain⟨s3,uG⟩:=aa (s2%4294967296)
  have cQ:=Dk i
  have eO:=Bp i
  have hl3:=oJ i
  obtain⟨q1,q2⟩:=mZ i s2 (by rw[gk,jg])
  have g1:bin .add .u64 (.ofNat (X i)) (.ofNat (Y i))=Int.ofNat s1:=qO hA (by omega) jg
  have g2:bin .add .u64 (.ofNat s1) (.ofNat (cy i))=Int.ofNat s2:=qO hA (by omega) gk
  have g3:bin .and .u64 (.ofNat s2) 4294967295=Int.ofNat s3:=uL hA (by omega) uG
  have g4:aX .u32 (.ofNat s3)=Int.ofNat s3:=jr hA (by omega)
  have g5:sh .shr .u64 (.ofNat s2) 32=Int.ofNat (cy (i+1)):=yI hA q2
  have g6:=e6 i s3 (by omega) (by rw[q1,uG])
  obtain⟨cn,nh⟩:=aa (cy (i+1))
  obtain⟨Zn,cj⟩:=aa (Z (i+1))
  rw[<-nh]at g5
  rw[<-cj]at g6
  cbv
  rw[e2 i ab]
  cbv
  refine aZ hg (jt i) (fun _=>0) (fG (bC 0) rfl) ?_
  cbv
  refine aZ hg (s_ i) (fun _=>1) (fG (bE 0) rfl) ?_
  cbv
  rw[g1]
  cbv
  rw[g2]
  cbv
  rw[g3]
  cbv
  rw[g4]
  cbv
  rw[e5 i (by omega)]
  cbv
  rw[e4,g6]
  cbv
  rw[g5]
  cbv
  rw[e3 i ab]
  refine⟨i+1,_root_.id,ab,(by show k-(i+1)<k-i;omega),?_⟩
  rw[nh,cj]
  exact aS (by repeat' (first|exact trivial|refine⟨rfl,rfl,rfl,?_⟩|refine⟨rfl,rfl,bC 3,?_⟩|refine⟨rfl,rfl,bE 3,?_⟩|refine⟨rfl,rfl,bZ 3 (i+1),?_⟩))
 ·obtain rfl:i=k:=by omega
  cbv
  rw[uf]
  cbv
  have g4:aX .u32 (.ofNat (cy i))=Int.ofNat (cy i):=jr hA (by have:=oJ i;omega)
  have g6:=e6 i (cy i) (by omega) Im
  rw[<-dM]at g6
  rw[g4]
  cbv
  rw[e5 i (by omega)]
  cbv
  rw[e4,g6]
  cbv
  refine fT rfl hg rfl rfl jb (fun _=>2) rfl (fG (bZ 0 k1) rfl) ?_
  rintro _ _ _ rfl
  refine⟨by simp[bd],by simp[bd,cK],?_⟩
  cbv
  exact hK _ _ _ ⟨rfl,rfl⟩
theorem agN{P:Program}(hP:P=Tryz.prog){n c x m e y:Nat}{f u:Nat->Nat}(hx:Nm n c f x)(hy:Nm m e u y)(hn:n<2^20)(hle:y<=x)(r:Nat)(hr:r=Vg.sz (x-y)):
 ah P 44 [.slice 0 0 n c,.slice 1 0 m e] [⟨0,hs f c,88⟩,⟨1,hs u e,88⟩] 2 [] (fun w L q=>w= .slice 2 0 r n/\L=[⟨2,hs (dg (x-y)) n,88⟩]/\q=3):=by
 obtain⟨Z,hZ⟩:=aa (fun i=>hs (wr (dg (x-y)) i) n:Nat->List SV)
 have bZ:∀m i,an m (Z i)=true:=fun m i=>by rw[hZ];exact dG _ _ m
 have jN:List.replicate n (SV.int .u32 0)=Z 0:=by rw[hZ,qm];show _=hs (wr _ 0) n;rw[E4]
 have cj:Z n=hs (dg (x-y)) n:=by rw[hZ];exact Gz _ _
 refine ah.dj (R:=fun w L q=>w= .slice 2 0 r n/\find L 2=some ⟨2,Z n,88⟩) ?_ fun v L q ⟨h1,h2⟩=>⟨_root_.id,.slice 2 0 r n,[⟨2,Z n,88⟩],3,by subst h1;exact fD ⟨rfl,rfl,trivial⟩ ⟨h2,rfl,bZ 3 n,trivial⟩ rfl rfl,rfl,by rw[cj],rfl⟩
 have mM:x-y<4294967296^n:=eB (P7 _ _) hx.lt
 have jb:ah P 69 [.slice 0 0 n n] [⟨0,Z n,88⟩] 1 [] (fun w _ _=>w= .slice 0 0 r n):=by
  rw[cj];exact pU hP (dg (x-y)) n n r (aE _) (by omega) (by rw[hr,rU mM])
 have jt:∀i,ah P 54 [.slice 0 0 n c,.int .i64 (.ofNat i)] [⟨0,hs f c,88⟩] 1 [] (fun w _ _=>w= .int .u64 (.ofNat (dg x i))):=fun i=>zA hP f n c i _ hx.le hx.w (by
  by_cases h:i<n
  ·rw[aj h,hx.eJ h]
  ·rw[af h,hx.pj (by omega)])
 have s_:∀i,ah P 54 [.slice 0 0 m e,.int .i64 (.ofNat i)] [⟨0,hs u e,88⟩] 1 [] (fun w _ _=>w= .int .u64 (.ofNat (dg y i))):=fun i=>zA hP u m e i _ hy.le hy.w (by
  by_cases h:i<m
  ·rw[aj h,hy.eJ h]
  ·rw[af h,hy.pj (by omega)])
 obtain⟨cy,ir⟩:=aa (fun i=>pR x y i:Nat->Nat)
 have zE:cy 0=0:=by rw[ir];exact Y9 x y
 have oJ:∀i,cy i<=1:=fun i=>by rw[ir];exact Qu x y i
 have mZ:∀i s,s=dg x i+4294967296-dg y i-cy i->dg (x-y) i=s%4294967296/\cy (i+1)=1-s/4294967296:=fun i s h=>by rw[ir]at *;exact Z5 i hle s h
 have Dk:=gR x
 have Bp:=gR y
 have Ip:=gR (x-y)
 have wG:∀i v,v=dg (x-y) i->wr (dg (x-y)) (i+1)=fun j=>if j=i then v else wr (dg (x-y)) i j:=fun i v h=>E3 _ i v h
 obtain⟨X,hX⟩:=aa (dg x)
 obtain⟨Y,hY⟩:=aa (dg y)
 obtain⟨S,hS⟩:=aa (dg (x-y))
 rw[<-hX]at jt Dk mZ
 rw[<-hY]at s_ Bp mZ
 rw[<-hS]at hZ Ip wG mZ
 obtain⟨C,hC⟩:=aa (hs f c)
 have bC:∀m,an m C=true:=fun m=>by rw[hC];exact dG f c m
 obtain⟨E,hE⟩:=aa (hs u e)
 have bE:∀m,an m E=true:=fun m=>by rw[hE];exact dG u e m
 rw[<-hC]at jt⊢
 rw[<-hE]at s_⊢
 clear hC hE hX hY hS cj
 refine aq hP Tryz.func44 ⟨ao rfl,⟨ao rfl,trivial⟩⟩ (by simpa [ay,bd]using⟨ak _ (bC 2),ak _ (bE 2)⟩) ?_
 intro A g K hA hg hK
 obtain⟨bin,sh,cmp,_,aX,ix,_,_,_,_,_,_,_,_,nat,off,_,_,sub,eU⟩:=A
 have e0:∀n,nat n=Int.ofNat n:=fun n=>fZ hA n
 have e2:∀i,i<n->cmp .lss (.ofNat i) (.ofNat n)=true:=fun i h=>cZ hA h
 have uf:cmp .lss (.ofNat n) (.ofNat n)=false:=bM hA (iO n)
 have e3:∀i,i<n->bin .add .i64 (.ofNat i) 1=Int.ofNat (i+1):=fun i h=>e_ hA (a:=i) (b:=1) (by omega)
 have e4:∀j,off 0 j 1=j:=fun j=>(dh hA 0 j 1).trans (by omega)
 have e5:∀i,i<n->ix (.ofNat i) n=some i:=fun i h=>bB hA h
 have e6:∀i v,i<n->v=S i->eU (Z i) i [.int .u32 (.ofNat v)]=some (Z (i+1)):=fun i v h hv=>by rw[hZ];exact gX hA .u32 (n:=n) (wr S i) (wr S (i+1)) h (wG i v hv)
 have hU:=rV hP
 clear hZ
 cbv
 rw[e0]
 refine nL (hP▸aI) hg rfl rfl (show av 23=some _ from rfl) rfl (show av 88=some _ from rfl) hU rfl (m:=n) rfl rfl (by omega) (by omega) ?_
 rw[jN]
 cbv
 refine bH Nat (fun i=>i<=n) (fun i=>n-i) (fun i=> [(6,.int .u64 (.ofNat (cy i))),(7,.int .i64 (.ofNat i))]) [0,1,4,5] (fun i=> [(2,Z i)]) 0 (bf _) ?_ ?_
 ·rw[zE]
  exact aS (by repeat' (first|exact trivial|refine⟨rfl,rfl,rfl,?_⟩|refine⟨rfl,rfl,bC 3,?_⟩|refine⟨rfl,rfl,bE 3,?_⟩|refine⟨rfl,rfl,bZ 3 0,?_⟩))
 intro i hi
 by_cases ab:i<n
 ·obtain⟨s1,jg⟩:=aa (X i+4294967296)
  obtain⟨s2,gk⟩:=aa (s1-Y i)
  obtain⟨s3,uG⟩:=aa (s2-cy i)
  obtain⟨s4,N8⟩:=aa (s3%4294967296)
  obtain⟨s5,hs5⟩:=aa (s3/4294967296)
  have cQ:=Dk i
  have eO:=Bp i
  have hl3:=oJ i
  obtain⟨q1,q2⟩:=mZ i s3 (by rw[uG,gk,jg])
  have g1:bin .add .u64 (.ofNat (X i)) 4294967296=Int.ofNat s1:=qO hA (b:=4294967296) (by omega) jg
  have g2:bin .sub .u64 (.ofNat s1) (.ofNat (Y i))=Int.ofNat s2:=xF hA (by omega) (by omega) gk
  have g3:bin .sub .u64 (.ofNat s2) (.ofNat (cy i))=Int.ofNat s3:=xF hA (by omega) (by omega) uG
  have g4:bin .and .u64 (.ofNat s3) 4294967295=Int.ofNat s4:=uL hA (by omega) N8
  have g5:aX .u32 (.ofNat s4)=Int.ofNat s4:=jr hA (by omega)
  have g6:sh .shr .u64 (.ofNat s3) 32=Int.ofNat s5:=yI hA hs5
  have g7:bin .sub .u64 1 (.ofNat s5)=Int.ofNat (cy (i+1)):=xF hA (a:=1) (by omega) (by omega) (by rw[q2,hs5])
  have g8:=e6 i s4 (by omega) (by rw[q1,N8])
  obtain⟨cn,nh⟩:=aa (cy (i+1))
  obtain⟨Zn,cj⟩:=aa (Z (i+1))
  rw[<-nh]at g7
  rw[<-cj]at g8
  cbv
  rw[e0]
  cbv
  rw[e2 i ab]
  cbv
  refine aZ hg (jt i) (fun _=>0) (fG (bC 0) rfl) ?_
  cbv
  rw[g1]
  cbv
  refine aZ hg (s_ i) (fun _=>1) (fG (bE 0) rfl) ?_
  cbv
  rw[g2]
  cbv
  rw[g3]
  cbv
  rw[g4]
  cbv
  rw[g5]
  cbv
  rw[e5 i (by omega)]
  cbv
  rw[e4,g8]
  cbv
  rw[g6]
  cbv
  rw[g7]
  cbv
  rw[e3 i ab]
  refine⟨i+1,_root_.id,ab,(by show n-(i+1)<n-i;omega),?_⟩
  rw[nh,cj]
  exact aS (by repeat' (first|exact trivial|refine⟨rfl,rfl,rfl,?_⟩|refine⟨rfl,rfl,bC 3,?_⟩|refine⟨rfl,rfl,bE 3,?_⟩|refine⟨rfl,rfl,bZ 3 (i+1),?_⟩))
 ·obtain rfl:i=n:=by omega
  cbv
  rw[e0]
  cbv
  rw[uf]
  cbv
  refine fT rfl hg rfl rfl jb (fun _=>2) rfl (fG (bZ 0 i) rfl) ?_
  rintro _ _ _ rfl
  refine⟨by simp[bd],by simp[bd,cK],?_⟩
  cbv
  exact hK _ _ _ ⟨rfl,rfl⟩
end Go.Proofs.YtfocopihipejfaaGreat
namespace Go.Vg
open Go.RowKit Go.Lib
def mT(x y i:Nat):Nat:=x%4294967296^i*y
def mC(x y i k:Nat):Nat:=(mT x y i%4294967296^(i+k)+dg x i*(y%4294967296^k)*4294967296^i)/4294967296^(i+k)
theorem acz(x y i:Nat):mT x y (i+1)=mT x y i+dg x i*y*4294967296^i:=by
 unfold mT
 rw[zG,cw]
 show _+dg x i*_*y=_
 rw[eZ,bJ (4294967296^i) y,<-eZ]
theorem aco(x y i:Nat):mC x y i 0=0:=by
 unfold mC
 rw[jB,zl,L7,fE,gY]
 exact kg (ax _ (ew (by decide)))
theorem U_(x y i k s:Nat)(hs:s=dg x i*dg y k+dg (mT x y i) (i+k)+mC x y i k):dg (mT x y (i+1)) (i+k)=s%4294967296/\mC x y i (k+1)=s/4294967296:=by
 have hp:0<4294967296^(i+k):=ew (by decide)
 have e1:mT x y i%4294967296^(i+(k+1))=mT x y i%4294967296^(i+k)+dg (mT x y i) (i+k)*4294967296^(i+k):=zG _ _ _
 have e2:y%4294967296^(k+1)=y%4294967296^k+dg y k*4294967296^k:=zG _ _ _
 have e3:dg x i*(y%4294967296^(k+1))*4294967296^i=dg x i*(y%4294967296^k)*4294967296^i+dg x i*dg y k*4294967296^(i+k):=by
  rw[e2,lL,cw,dV,bJ (4294967296^i) (4294967296^k),<-eZ,<-eZ]
 have key:mT x y i%4294967296^(i+(k+1))+dg x i*(y%4294967296^(k+1))*4294967296^i=(mT x y i%4294967296^(i+k)+dg x i*(y%4294967296^k)*4294967296^i)%4294967296^(i+k)+s*4294967296^(i+k):=by
  rw[e1,e3,hs,cw,cw]
  have h:=gN (mT x y i%4294967296^(i+k)+dg x i*(y%4294967296^k)*4294967296^i) (4294967296^(i+k))
  rw[bJ]at h
  unfold mC
  generalize dg x i*dg y k*4294967296^(i+k)=a at *
  generalize dg (mT x y i) (i+k)*4294967296^(i+k)=b at *
  generalize (mT x y i%4294967296^(i+k)+dg x i*(y%4294967296^k)*4294967296^i)/4294967296^(i+k)*4294967296^(i+k)=c at *
  omega
 have hm:mT x y (i+1)%(4294967296^(i+k)*4294967296)=(mT x y i%4294967296^(i+(k+1))+dg x i*(y%4294967296^(k+1))*4294967296^i)%(4294967296^(i+k)*4294967296):=by
  have hM:4294967296^(i+k)*4294967296=4294967296^(i+k+1):=(br ..).symm
  rw[hM,acz,<-xP i k 1]
  have hy:=gN y (4294967296^(k+1))
  have h2:dg x i*y*4294967296^i=dg x i*(y%4294967296^(k+1))*4294967296^i+4294967296^(i+k+1)*(dg x i*(y/4294967296^(k+1))):=by
   rw[show 4294967296^(i+k+1)=4294967296^(k+1)*4294967296^i from by rw[<-dV];congr 1;omega]
   have h3:dg x i*y*4294967296^i=dg x i*(4294967296^(k+1)*(y/4294967296^(k+1))+y%4294967296^(k+1))*4294967296^i:=by rw[hy]
   rw[h3,lL,cw]
   generalize y/4294967296^(k+1)=q
   generalize y%4294967296^(k+1)=r
   generalize 4294967296^(k+1)=Q
   generalize 4294967296^i=R
   generalize dg x i=d
   rw[oB,show d*(Q*q)*R=Q*R*(d*q) by ac_rfl]
  rw[h2,<-xP,CO,Nat.mod_add_mod]
 have aW:=Pd (Q:=4294967296^(i+k)) (B:=4294967296) (s:=s) (Z:=mT x y (i+1)) (by decide) (ax _ hp) (by rw[<-key];exact hm)
 refine⟨aW.1,?_⟩
 unfold mC
 rw[key,<-xP,br]
 exact aW.2
theorem UU(x y i:Nat):∀k,mC x y i k<4294967296
 |0=>by rw[aco];decide
 |k+1=>by
  rw[(U_ x y i k _ rfl).2]
  have h1:=UU x y i k
  have h2:=gR (mT x y i) (i+k)
  have h3:dg x i*dg y k<=4294967295*4294967295:=mV (by have:=gR x i;omega) (by have:=gR y k;omega)
  omega
theorem Io{T z i j:Nat}(h:j<i):dg (T+z*4294967296^i) j=dg T j:=by
 unfold dg Dg.eJ
 obtain⟨d,rfl⟩:∃d,i=j+(d+1):=⟨i-j-1,by omega⟩
 rw[dV,bJ (4294967296^j),<-eZ,zj _ _ (ew (by decide)),br,<-eZ,tR]
theorem alj(x y:Nat){i j:Nat}(h:j<i):dg (mT x y (i+1)) j=dg (mT x y i) j:=by rw[acz];exact Io h
theorem OE{x y m:Nat}(i:Nat)(hy:y<4294967296^m):mT x y i<4294967296^(i+m):=by
 unfold mT
 rw[dV]
 have h1:=ax x (show 0<4294967296^i from ew (by decide))
 exact CS h1 hy
def mR(x y i k:Nat):Nat->Nat:=fun j=>if j<i+k then dg (mT x y (i+1)) j else dg (mT x y i) j
theorem alf(x y i:Nat):mR x y i 0=dg (mT x y i):=by
 funext j;unfold mR
 by_cases h:j<i+0
 ·rw[aj h,alj x y (by omega)]
 ·rw[af h]
theorem ale(x y i k v:Nat)(hv:v=dg (mT x y (i+1)) (i+k)):mR x y i (k+1)=fun j=>if j=i+k then v else mR x y i k j:=by
 funext j;unfold mR
 by_cases e:j=i+k
 ·rw[aj e,aj (by omega),hv,e]
 ·rw[af e]
  by_cases e2:j<i+k
  ·rw[aj e2,aj (by omega)]
  ·rw[af e2,af (by omega)]
theorem ald(x:Nat){y m:Nat}(i:Nat)(hy:y<4294967296^m):dg (mT x y (i+1))=fun j=>if j=i+m then mC x y i m else mR x y i m j:=by
 funext j;unfold mR
 by_cases e:j=i+m
 ·rw[aj e,e,(U_ x y i m _ rfl).1,show dg y m=0 from Dg.v8 (by decide) hy (aE m),show dg (mT x y i) (i+m)=0 from Dg.v8 (by decide) (OE i hy) (aE _),L7,dB,aO (UU x y i m)]
 ·rw[af e]
  by_cases e2:j<i+m
  ·rw[aj e2]
  ·rw[af e2,show dg (mT x y (i+1)) j=0 from Dg.v8 (by decide) (OE (i+1) hy) (by omega),show dg (mT x y i) j=0 from Dg.v8 (by decide) (OE i hy) (by omega)]
theorem alk(x y:Nat):dg (mT x y 0)=fun _=>0:=by
 funext j;unfold mT dg Dg.eJ;rw[jB,zl,fE,zp]
theorem acy{x n:Nat}(y:Nat)(hx:x<4294967296^n):mT x y n=x*y:=by unfold mT;rw[aO hx]
end Go.Vg
namespace Go.Proofs.YtfocopihipejfaaGreat
open Go.Vg Go.RowKit
set_option maxRecDepth 200000
set_option cbv.maxSteps 100000000
theorem agG{P:Program}(hP:P=Tryz.prog){n c x m e y:Nat}{f u:Nat->Nat}(hx:Nm n c f x)(hy:Nm m e u y)(hn:n<2^20)(hm:m<2^20)(l r:Nat)(hl:l=n+m)(hr:r=Vg.sz (x*y)):
 ah P 107 [.slice 0 0 n c,.slice 1 0 m e] [⟨0,hs f c,88⟩,⟨1,hs u e,88⟩] 2 [] (fun w L q=>w= .slice 2 0 r l/\L=[⟨2,hs (dg (x*y)) l,88⟩]/\q=3):=by
 have l8:=hx.le
 have hme:=hy.le
 obtain⟨Z,hZ⟩:=aa (fun i=>hs (dg (mT x y i)) l:Nat->List SV)
 obtain⟨R,hR⟩:=aa (fun i k=>hs (mR x y i k) l:Nat->Nat->List SV)
 have bZ:∀m i,an m (Z i)=true:=fun m i=>by rw[hZ];exact dG _ _ m
 have bR:∀m i k,an m (R i k)=true:=fun m i k=>by rw[hR];exact dG _ _ m
 have jN:List.replicate l (SV.int .u32 0)=Z 0:=by rw[hZ,qm];show _=hs (dg (mT x y 0)) l;rw[alk]
 have hZR:∀i,Z i=R i 0:=fun i=>by rw[hZ,hR];show hs _ l=hs (mR x y i 0) l;rw[alf]
 have cj:Z n=hs (dg (x*y)) l:=by rw[hZ];show hs (dg (mT x y n)) l=_;rw[acy y hx.lt]
 refine ah.dj (R:=fun w L q=>w= .slice 2 0 r l/\find L 2=some ⟨2,Z n,88⟩) ?_ fun v L q ⟨h1,h2⟩=>⟨_root_.id,.slice 2 0 r l,[⟨2,Z n,88⟩],3,by subst h1;exact fD ⟨rfl,rfl,trivial⟩ ⟨h2,rfl,bZ 3 n,trivial⟩ rfl rfl,rfl,by rw[cj],rfl⟩
 have mM:x*y<4294967296^l:=by rw[hl,<-acy y hx.lt];exact OE n hy.lt
 have jb:ah P 69 [.slice 0 0 l l] [⟨0,Z n,88⟩] 1 [] (fun w _ _=>w= .slice 0 0 r l):=by
  rw[cj];exact pU hP (dg (x*y)) l l r (aE _) (by omega) (by rw[hr,rU mM])
 obtain⟨cy,ir⟩:=aa (fun i k=>mC x y i k:Nat->Nat->Nat)
 have zE:∀i,cy i 0=0:=fun i=>by rw[ir];exact aco x y i
 have oJ:∀i k,cy i k<4294967296:=fun i k=>by rw[ir];exact UU x y i k
 obtain⟨X,hX⟩:=aa (dg x)
 obtain⟨Y,hY⟩:=aa (dg y)
 obtain⟨O,hO⟩:=aa (fun i k=>dg (mT x y i) (i+k):Nat->Nat->Nat)
 obtain⟨V',SD⟩:=aa (fun i k=>dg (mT x y (i+1)) (i+k):Nat->Nat->Nat)
 have mZ:∀i k s,s=X i*Y k+O i k+cy i k->V' i k=s%4294967296/\cy i (k+1)=s/4294967296:=fun i k s h=>by rw[hX,hY,hO,ir]at h;rw[SD,ir];exact U_ x y i k s h
 have dX:∀i,i<n->f i=X i:=fun i h=>by rw[hX];exact hx.eJ h
 have dY:∀i,i<m->u i=Y i:=fun i h=>by rw[hY];exact hy.eJ h
 have lX:∀i,X i<4294967296:=fun i=>by rw[hX];exact gR x i
 have lY:∀i,Y i<4294967296:=fun i=>by rw[hY];exact gR y i
 have lO:∀i k,O i k<4294967296:=fun i k=>by rw[hO];exact gR _ _
 have wD:∀i k v,v=V' i k->mR x y i (k+1)=fun j=>if j=i+k then v else mR x y i k j:=fun i k v h=>ale x y i k v (by rw[h,SD])
 have F5:∀i,dg (mT x y (i+1))=fun j=>if j=i+m then cy i m else mR x y i m j:=fun i=>by rw[ir];exact ald x i hy.lt
 have I4:∀i k,mR x y i k (i+k)=O i k:=fun i k=>by rw[hO];unfold mR;rw[af (iO _)]
 obtain⟨C,hC⟩:=aa (hs f c)
 have bC:∀m,an m C=true:=fun m=>by rw[hC];exact dG f c m
 obtain⟨E,hE⟩:=aa (hs u e)
 have bE:∀m,an m E=true:=fun m=>by rw[hE];exact dG u e m
 rw[<-hC,<-hE]
 clear hX hY cj ir hO SD
 refine aq hP Tryz.func107 ⟨ao rfl,⟨ao rfl,trivial⟩⟩ (by simpa [ay,bd]using⟨ak _ (bC 2),ak _ (bE 2)⟩) ?_
 intro A g K hA hg hK
 obtain⟨bin,sh,cmp,_,aX,ix,_,_,_,_,_,_,_,_,nat,off,get,_,_,eU⟩:=A
 have e0:∀n,nat n=Int.ofNat n:=fun n=>fZ hA n
 have e1:∀a b d,d=a+b->a+b<2^40->bin .add .i64 (.ofNat a) (.ofNat b)=Int.ofNat d:=fun a b d h h2=>(e_ hA (a:=a) (b:=b) (by omega)).trans (by rw[h])
 have e2:∀i k,i<k->cmp .lss (.ofNat i) (.ofNat k)=true:=fun i k h=>cZ hA h
 have uf:∀k,cmp .lss (.ofNat k) (.ofNat k)=false:=fun k=>bM hA (iO k)
 have e3:∀i,i<2^40->bin .add .i64 (.ofNat i) 1=Int.ofNat (i+1):=fun i h=>e_ hA (a:=i) (b:=1) (by omega)
 have e4:∀j,off 0 j 1=j:=fun j=>(dh hA 0 j 1).trans (by omega)
 have e5:∀i k,i<k->ix (.ofNat i) k=some i:=fun i k h=>bB hA h
 have f5:∀k,k<n->get C k=some (.int .u32 (.ofNat (X k))):=fun k h=>by rw[<-dX k h,hC];exact ei hA .u32 f (by omega)
 have g5:∀k,k<m->get E k=some (.int .u32 (.ofNat (Y k))):=fun k h=>by rw[<-dY k h,hE];exact ei hA .u32 u (by omega)
 have r5:∀i k j,j=i+k->j<l->get (R i k) j=some (.int .u32 (.ofNat (O i k))):=fun i k j h h2=>by rw[<-I4 i k,<-h,hR];exact ei hA .u32 (mR x y i k) h2
 have r6:∀i k v j,j=i+k->j<l->v=V' i k->eU (R i k) j [.int .u32 (.ofNat v)]=some (R i (k+1)):=fun i k v j h h2 hv=>by subst h;rw[hR];exact gX hA .u32 (n:=l) (mR x y i k) (mR x y i (k+1)) h2 (wD i k v hv)
 have r7:∀i j,j=i+m->j<l->eU (R i m) j [.int .u32 (.ofNat (cy i m))]=some (Z (i+1)):=fun i j h h2=>by subst h;rw[hR,hZ];exact gX hA .u32 (n:=l) (mR x y i m) (dg (mT x y (i+1))) h2 (F5 i)
 have hU:=rV hP
 clear hZ hR wD F5 I4 hC hE dX dY
 cbv
 rw[e0,e0]
 rw[e1 n m l hl (by omega)]
 cbv
 refine nL (hP▸aI) hg rfl rfl (show av 23=some _ from rfl) rfl (show av 88=some _ from rfl) hU rfl (m:=l) rfl rfl (by omega) (by omega) ?_
 rw[jN]
 cbv
 refine bH Nat (fun i=>i<=n) (fun i=>n-i) (fun i=> [(6,.int .i64 (.ofNat i))]) [0,1,4,5] (fun i=> [(2,Z i)]) 0 (bf _) ?_ ?_
 ·exact aS (by repeat' (first|exact trivial|refine⟨rfl,rfl,rfl,?_⟩|refine⟨rfl,rfl,bC 3,?_⟩|refine⟨rfl,rfl,bE 3,?_⟩|refine⟨rfl,rfl,bZ 3 0,?_⟩))
 intro i hi
 by_cases ab:i<n
 ·cbv
  rw[e0]
  cbv
  rw[e2 i n ab]
  cbv
  rw[hZR i]
  refine bH Nat (fun k=>k<=m) (fun k=>m-k) (fun k=> [(7,.int .u64 (.ofNat (cy i k))),(8,.int .i64 (.ofNat k))]) [0,1,4,5,6] (fun k=> [(2,R i k)]) 0 (bf _) ?_ ?_
  ·rw[zE]
   exact aS (by repeat' (first|exact trivial|refine⟨rfl,rfl,rfl,?_⟩|refine⟨rfl,rfl,bC 3,?_⟩|refine⟨rfl,rfl,bE 3,?_⟩|refine⟨rfl,rfl,bR 3 i 0,?_⟩))
  intro k hk
  by_cases Gj:k<m
  ·obtain⟨ik,fV⟩:=aa (i+k)
   have NJ:ik<l:=by omega
   obtain⟨p,hp⟩:=aa (X i*Y k)
   obtain⟨s1,jg⟩:=aa (p+O i k)
   obtain⟨s2,gk⟩:=aa (s1+cy i k)
   obtain⟨s3,uG⟩:=aa (s2%4294967296)
   have l1:=lX i
   have l2:=lY k
   have l3:=lO i k
   have l4:=oJ i k
   have l5:p<=4294967295*4294967295:=by rw[hp];exact mV (by omega) (by omega)
   obtain⟨q1,q2⟩:=mZ i k s2 (by rw[gk,jg,hp])
   have gp:bin .mul .u64 (.ofNat (X i)) (.ofNat (Y k))=Int.ofNat p:=(EA hA (k:= .u64) rfl (X i) (Y k)).trans (aK Int.ofNat (by rw[hp];exact aO (by show X i*Y k<0x10000000000000000;omega)))
   have g1:bin .add .u64 (.ofNat p) (.ofNat (O i k))=Int.ofNat s1:=qO hA (by omega) jg
   have g2:bin .add .u64 (.ofNat s1) (.ofNat (cy i k))=Int.ofNat s2:=qO hA (by omega) gk
   have g3:bin .and .u64 (.ofNat s2) 4294967295=Int.ofNat s3:=uL hA (by omega) uG
   have g4:aX .u32 (.ofNat s3)=Int.ofNat s3:=jr hA (by omega)
   have gs:sh .shr .u64 (.ofNat s2) 32=Int.ofNat (cy i (k+1)):=yI hA q2
   have c1:aX .u64 (.ofNat (X i))=Int.ofNat (X i):=C_ hA (by omega)
   have c2:aX .u64 (.ofNat (Y k))=Int.ofNat (Y k):=C_ hA (by omega)
   have c3:aX .u64 (.ofNat (O i k))=Int.ofNat (O i k):=C_ hA (by omega)
   have ga:=e1 i k ik fV (by omega)
   have gr:=r5 i k ik fV NJ
   have gw:=r6 i k s3 ik fV NJ (by rw[q1,uG])
   obtain⟨cn,nh⟩:=aa (cy i (k+1))
   obtain⟨Rn,Dz⟩:=aa (R i (k+1))
   rw[<-nh]at gs
   rw[<-Dz]at gw
   cbv
   rw[e0]
   cbv
   rw[e2 k m Gj]
   cbv
   refine cf hP hA hg fun mk _=> ?_
   cbv
   rw[e5 i n ab]
   cbv
   rw[e4,f5 i ab]
   cbv
   rw[c1]
   cbv
   rw[e5 k m Gj]
   cbv
   rw[e4,g5 k Gj]
   cbv
   rw[c2]
   cbv
   rw[gp]
   cbv
   rw[ga]
   cbv
   rw[e5 ik l NJ]
   cbv
   rw[e4,gr]
   cbv
   rw[c3]
   cbv
   rw[g1]
   cbv
   rw[g2]
   cbv
   rw[ga]
   cbv
   rw[g3]
   cbv
   rw[g4]
   cbv
   rw[e5 ik l NJ]
   cbv
   rw[e4,gw]
   cbv
   rw[gs]
   cbv
   rw[e3 k (by omega)]
   refine⟨k+1,_root_.id,Gj,(by show m-(k+1)<m-k;omega),?_⟩
   rw[nh,Dz]
   exact aS (by repeat' (first|exact trivial|refine⟨rfl,rfl,rfl,?_⟩|refine⟨rfl,rfl,bC 3,?_⟩|refine⟨rfl,rfl,bE 3,?_⟩|refine⟨rfl,rfl,bR 3 i (k+1),?_⟩))
  ·obtain⟨km,ajS⟩:=aa k
   have NO:k=m:=by omega
   obtain⟨im,him⟩:=aa (i+m)
   have aa1:im<l:=by omega
   have ga:=e1 i m im him (by omega)
   have gw:=r7 i im him aa1
   have g4:aX .u32 (.ofNat (cy i m))=Int.ofNat (cy i m):=jr hA (oJ i m)
   have g3:=e3 i (by omega)
   clear ajS
   subst NO
   obtain⟨Zn,cj⟩:=aa (Z (i+1))
   rw[<-cj]at gw
   cbv
   rw[e0]
   cbv
   rw[uf]
   cbv
   rw[e0]
   cbv
   rw[ga]
   cbv
   rw[g4]
   cbv
   rw[e5 im l aa1]
   cbv
   rw[e4,gw]
   cbv
   rw[g3]
   refine⟨i+1,_root_.id,ab,(by show n-(i+1)<n-i;omega),?_⟩
   rw[cj]
   exact aS (by repeat' (first|exact trivial|refine⟨rfl,rfl,rfl,?_⟩|refine⟨rfl,rfl,bC 3,?_⟩|refine⟨rfl,rfl,bE 3,?_⟩|refine⟨rfl,rfl,bZ 3 (i+1),?_⟩))
 ·obtain rfl:i=n:=by omega
  cbv
  rw[e0]
  cbv
  rw[uf]
  cbv
  refine fT rfl hg rfl rfl jb (fun _=>2) rfl (fG (bZ 0 i) rfl) ?_
  rintro _ _ _ rfl
  refine⟨by simp[bd],by simp[bd,cK],?_⟩
  cbv
  exact hK _ _ _ ⟨rfl,rfl⟩
end Go.Proofs.YtfocopihipejfaaGreat
namespace Go.Vg
open Go.RowKit Go.Lib
theorem zf(n:Nat):4294967296^n=2^(32*n):=by rw[jS]
theorem ah7(x i:Nat):dg x (i/32)/2^(i%32)%2=x/2^i%2:=by
 unfold dg Dg.eJ
 rw[zf]
 have h:x/2^i=x/2^(32*(i/32))/2^(i%32):=by rw[ke,<-dV,gN]
 rw[h]
 have hr:i%32<32:=ax _ (by decide)
 generalize x/2^(32*(i/32))=y
 generalize i%32=r at *
 obtain⟨d,hd⟩:∃d,32=r+(d+1):=⟨31-r,by omega⟩
 rw[show(4294967296:Nat)=2^32 from rfl]
 generalize (32:Nat)=t at hd
 subst hd
 rw[dV 2 r (d+1),Yw,br]
 exact HH _ ⟨2^d,bJ _ _⟩
theorem adG(x i k:Nat)(hk:k<32):(dg x i+dg x (i+1)*4294967296)/2^k%4294967296=dg (x/2^k) i:=by
 have h1:dg (x/2^k) i=x/4294967296^i/2^k%4294967296:=by
  unfold dg Dg.eJ;rw[ke,bJ,<-ke]
 have h2:dg x (i+1)=x/4294967296^i/4294967296%4294967296:=by
  unfold dg Dg.eJ;rw[br,ke]
 rw[h1,h2]
 show(x/4294967296^i%4294967296+_)/_%_=_
 generalize x/4294967296^i=y
 have h3:y=(y%4294967296+y/4294967296%4294967296*4294967296)+0x10000000000000000*(y/0x10000000000000000):=by omega
 obtain⟨d,hd⟩:∃d,32=k+d:=⟨32-k,by omega⟩
 have h4:(0x10000000000000000:Nat)=2^k*(2^d*4294967296):=by
  rw[<-eZ,<-dV,<-hd]
 have h5:y/2^k=(y%4294967296+y/4294967296%4294967296*4294967296)/2^k+2^d*(y/0x10000000000000000)*4294967296:=by
  have:=aK (· /2^k) h3
  refine this.trans ?_
  show(_+0x10000000000000000*(y/0x10000000000000000))/2^k=_
  rw[show 0x10000000000000000*(y/0x10000000000000000)=2^k*(2^d*(y/0x10000000000000000)*4294967296)from by
   generalize y/0x10000000000000000=q
   rw[h4];ac_rfl,Yp _ _ (i_ k)]
 rw[h5,tR]
def xD(x s i:Nat):Nat:=(x%4294967296^i*2^s)/4294967296^i
theorem apZ(x s:Nat)(hs:s<32):xD x s 0=0:=by unfold xD;rw[jB,zl,fE]
theorem adE(x s i:Nat):xD x s i<2^s:=by
 unfold xD
 have hp:0<4294967296^i:=ew (by decide)
 exact xQ (HI (ax x hp) (i_ s))
theorem adF(x s i z:Nat)(hz:z=dg x i*2^s+xD x s i):dg (x*2^s) i=z%4294967296/\xD x s (i+1)=z/4294967296:=by
 have hp:0<4294967296^i:=ew (by decide)
 have key:x%4294967296^(i+1)*2^s=(x%4294967296^i*2^s)%4294967296^i+z*4294967296^i:=by
  rw[zG,hz,cw,cw]
  have h:=gN (x%4294967296^i*2^s) (4294967296^i)
  rw[bJ]at h
  unfold xD
  have h2:dg x i*4294967296^i*2^s=dg x i*2^s*4294967296^i:=by ac_rfl
  show _+dg x i*_*_=_
  rw[h2]
  generalize dg x i*2^s*4294967296^i=a at *
  generalize (x%4294967296^i*2^s)/4294967296^i*4294967296^i=c at *
  omega
 have aW:=Pd (Q:=4294967296^i) (B:=4294967296) (s:=z) (Z:=x*2^s) (by decide) (ax _ hp) (by rw[<-key,<-br,tT])
 refine⟨aW.1,?_⟩
 unfold xD
 rw[key,br]
 exact aW.2
theorem ap4{a s c z w:Nat}(hs:s<32)(ha:a<4294967296)(hc:c<2^s)(hw:w=a*2^s)(hz:z=w+c):z%4294967296=w%4294967296+c/\z/4294967296=w/4294967296/\c|||w%4294967296=w%4294967296+c/\w<0x10000000000000000/\w%4294967296+c<4294967296:=by
 obtain⟨d,hd⟩:∃d,32=s+d:=⟨32-s,by omega⟩
 have hB:(4294967296:Nat)=2^s*2^d:=by rw[<-dV,<-hd]
 have h1:w%4294967296=(a%2^d)*2^s:=by
  rw[hw,hB,bJ a,Nat.mul_mod_mul_left,bJ]
 have h2:a%2^d+1<=2^d:=ax _ (i_ d)
 have h3:(a%2^d+1)*2^s<=2^d*2^s:=ea _ h2
 rw[cw,fN,<-h1,bJ (2^d),<-hB]at h3
 have h4:2^s<=2^31:=cV (by decide) (by omega)
 have h5:w<=4294967295*2147483648:=by rw[hw];exact mV (by omega) h4
 refine⟨by omega,by omega,?_,by omega,by omega⟩
 rw[zm,h1]
 exact oy hc
def pa(x s i:Nat):Nat->Nat:=fun j=>if j<i then dg (x*2^s) j else if j=i then xD x s i else 0
theorem ap3(x s:Nat)(hs:s<32):pa x s 0=fun _=>0:=by
 funext j;unfold pa
 rw[af (mh j)]
 split
 ·exact apZ x s hs
 ·rfl
def A6(x s i:Nat):Nat->Nat:=fun j=>if j<i+1 then dg (x*2^s) j else 0
theorem ap0(x s i v:Nat)(hv:v=dg (x*2^s) i):A6 x s i=fun j=>if j=i then v else pa x s i j:=by
 funext j;unfold A6 pa
 by_cases e:j=i
 ·rw[aj e,aj (by omega),hv,e]
 ·rw[af e]
  by_cases e2:j<i
  ·rw[aj e2,aj (by omega)]
  ·rw[af e2,af e,af (by omega)]
theorem ap2(x s i v:Nat)(hv:v=xD x s (i+1)):pa x s (i+1)=fun j=>if j=i+1 then v else A6 x s i j:=by
 funext j;unfold A6 pa
 by_cases e:j=i+1
 ·rw[aj e,af (by omega),aj e,hv]
 ·rw[af e,af e]
theorem ap1{x n:Nat}(s:Nat)(hx:x<4294967296^n)(hs:s<32){j:Nat}(hj:j<n+1):pa x s n j=dg (x*2^s) j:=by
 unfold pa
 by_cases e:j<n
 ·rw[aj e]
 ·obtain rfl:j=n:=by omega
  rw[af e,aj rfl,(adF x s j _ rfl).1,show dg x j=0 from Dg.v8 (by decide) hx (aE _),fE,dB,aO]
  exact cg (adE x s j) (eH (cV (by decide) (show s<=32 by omega)) (by decide))
end Go.Vg
namespace Go.Proofs.YtfocopihipejfaaGreat
open Go.Vg Go.RowKit
set_option maxRecDepth 200000
set_option cbv.maxSteps 100000000
theorem QQ{P:Program}(hP:P=Tryz.prog){n c x:Nat}{f:Nat->Nat}(hx:Nm n c f x)(hn:n<2^20)(b:Nat)(hb:ig x b):ah P 31 [.slice 0 0 n c] [⟨0,hs f c,88⟩] 1 [] (fun w _ _=>w= .int .i64 (.ofNat b)):=by
 have l8:=hx.le
 obtain⟨C,hC⟩:=aa (hs f c)
 have bC:∀m,an m C=true:=fun m=>by rw[hC];exact dG f c m
 rw[<-hC]
 by_cases h0:n=0
 ·have kY:=hx.zero.1 h0
  subst h0 kY
  have ko:b=0:=hb.zero
  subst ko
  clear hC hx
  refine aq hP Tryz.func31 ⟨ao rfl,trivial⟩ (by simpa [ay,bd]using ak _ (bC 1)) ?_
  intro A g K hA hg hK
  obtain⟨bin,sh,cmp,_,_,ix,_,_,_,_,_,_,_,_,nat,off,get,_,sub⟩:=A
  have e0:nat 0=0:=fZ hA 0
  have e1:cmp .eql 0 0=true:=iP hA (a:=0) (b:=0) rfl
  cbv
  rw[e0]
  rw[e1]
  cbv
  exact hK _ _ _ rfl
 ·obtain⟨k,hk⟩:∃k,n=k+1:=⟨n-1,by omega⟩
  obtain⟨t,ht⟩:=aa (f k)
  have w_:t<4294967296:=by rw[ht];exact hx.w k (by omega)
  have yO:t≠0:=by
   rcases hx.tr with h|h
   ·exact absurd h h0
   ·rw[ht];rw[hk,oC]at h;exact h
  obtain⟨l,hl⟩:=ua t
  have arA:l<=32:=by
   rcases Nat.lt_or_ge 32 l with h|h
   ·have:=hl.2 (by omega)
    have h2:=cV (n:=2) (by decide) (show 32<=l-1 by omega)
    omega
   ·exact h
  have jD:b=32*k+l:=by
   have h1:=ig.shift (x:=Dg.num 4294967296 f k) (s:=32*k) (by rw[<-zf];exact Dg.uM k fun i hi=>hx.w i (by omega)) hl (by omega)
   have h2:x=Dg.num 4294967296 f k+t*2^(32*k):=by rw[<-hx.v,hk,ht,<-zf];rfl
   rw[<-h2]at h1
   exact hb.uniq h1
  obtain⟨kk,kE⟩:=aa (32*k)
  obtain⟨T,hT⟩:=aa (fun j=>t/2^j:Nat->Nat)
  have T0:T 0=t:=by rw[hT];exact pf t
  have Ts:∀j,T (j+1)=T j/2^1:=fun j=>by rw[hT];show t/2^(j+1)=t/2^j/2^1;rw[ke,<-dV]
  have Tp:∀j,j<l->0<T j:=fun j h=>by rw[hT];exact Nat.div_pos (eH (cV (by decide) (by omega)) (hl.2 (by omega))) (i_ j)
  have Tl:T l=0:=by rw[hT];exact kg hl.1
  obtain⟨bb,yx⟩:=aa (fun j=>kk+j:Nat->Nat)
  have b0:bb 0=kk:=by rw[yx];rfl
  have bs:∀j,bb (j+1)=bb j+1:=fun j=>by rw[yx];rfl
  have ble:∀j,j<=l->bb j<2^40:=fun j h=>by rw[yx];show kk+j<_;omega
  have bl':bb l=b:=by rw[yx,jD,kE]
  clear hT yx
  refine aq hP Tryz.func31 ⟨ao rfl,trivial⟩ (by simpa [ay,bd]using ak _ (bC 1)) ?_
  intro A g K hA hg hK
  obtain⟨bin,sh,cmp,_,_,ix,_,_,_,_,_,_,_,_,nat,off,get,_,sub⟩:=A
  have e0:nat n=Int.ofNat n:=fZ hA n
  have e1:cmp .eql (.ofNat n) 0=false:=ja hA (b:=0) h0
  have e2:bin .sub .i64 (.ofNat n) 1=Int.ofNat k:=(er hA (a:=n) (b:=1) (by omega) (by omega)).trans (by rw[hk,oC])
  have e3:bin .mul .i64 32 (.ofNat k)=Int.ofNat kk:=(k8 hA (a:=32) (b:=k) (by omega)).trans (by rw[kE])
  have e4:ix (.ofNat k) n=some k:=bB hA (by omega)
  have e5:off 0 k 1=k:=(dh hA 0 k 1).trans (by omega)
  have e6:get C k=some (.int .u32 (.ofNat t)):=by rw[ht,hC];exact ei hA .u32 f (by omega)
  have e7:∀j,j<l->cmp .gtr (.ofNat (T j)) 0=true:=fun j h=>po hA (b:=0) (Tp j h)
  have e8:∀j,j<l->bin .add .i64 (.ofNat (bb j)) 1=Int.ofNat (bb (j+1)):=fun j h=>(e_ hA (b:=1) (by have:=ble j (by omega);omega)).trans (by rw[bs])
  have e9:∀j,sh .shr .u32 (.ofNat (T j)) 1=Int.ofNat (T (j+1)):=fun j=>(k_ hA (k:= .u32) (a:=T j) (b:=1) (by decide)).trans (by rw[Ts])
  clear hC
  cbv
  rw[e0]
  rw[e1]
  cbv
  rw[e0,e2,e3]
  cbv
  rw[e4]
  cbv
  rw[e5,e6]
  cbv
  refine bH Nat (fun j=>j<=l) (fun j=>l-j) (fun j=> [(3,.int .i64 (.ofNat (bb j))),(4,.int .u32 (.ofNat (T j)))]) [0,2] (fun _=> []) 0 (bf _) ?_ ?_
  ·rw[b0,T0]
   exact aS (by repeat' (first|exact trivial|refine⟨rfl,rfl,rfl,?_⟩|refine⟨rfl,rfl,bC 1,?_⟩))
  intro j hj
  by_cases Tq:j<l
  ·have g1:=e7 j Tq
   have g2:=e8 j Tq
   have g3:=e9 j
   obtain⟨b1,cS⟩:=aa (bb (j+1))
   obtain⟨t1,mJ⟩:=aa (T (j+1))
   rw[<-cS]at g2
   rw[<-mJ]at g3
   cbv
   rw[g1]
   cbv
   rw[g2]
   cbv
   rw[g3]
   refine⟨j+1,_root_.id,Tq,(by show l-(j+1)<l-j;omega),?_⟩
   rw[cS,mJ]
   exact aS (by repeat' (first|exact trivial|refine⟨rfl,rfl,rfl,?_⟩|refine⟨rfl,rfl,bC 1,?_⟩))
  ·have aa5:j=l:=by omega
   cbv
   rw[show cmp .gtr (.ofNat (T j)) 0=false from jV hA (b:=0) (by rw[aa5,Tl];exact iO 0)]
   cbv
   refine hK _ _ _ ?_
   rw[aa5,bl']
   rfl
theorem agB{P:Program}(hP:P=Tryz.prog){n c x:Nat}{f:Nat->Nat}(hx:Nm n c f x)(i r:Nat)(hi:i<2^40)(hr:r=x/2^i%2):ah P 68 [.slice 0 0 n c,.int .i64 (.ofNat i)] [⟨0,hs f c,88⟩] 1 [] (fun w _ _=>w= .int .i64 (.ofNat r)):=by
 obtain⟨q,hq⟩:=aa (i/32)
 obtain⟨s,hs⟩:=aa (i%32)
 obtain⟨d,hd⟩:=aa (dg x q)
 obtain⟨y,hy⟩:=aa (d/2^s)
 have ry:r=y%2:=by rw[hr,hy,hd,hq,hs,ah7]
 have jt:ah P 54 [.slice 0 0 n c,.int .i64 (.ofNat q)] [⟨0,Vg.hs f c,88⟩] 1 [] (fun w _ _=>w= .int .u64 (.ofNat d)):=zA hP f n c q _ hx.le hx.w (by
  rw[hd]
  by_cases h:q<n
  ·rw[aj h,hx.eJ h]
  ·rw[af h,hx.pj (by omega)])
 have jO:d<4294967296:=by rw[hd];exact gR _ _
 have kJ:y<4294967296:=by rw[hy];exact eB (gq _ _) jO
 obtain⟨C,hC⟩:=aa (Vg.hs f c)
 have bC:∀m,an m C=true:=fun m=>by rw[hC];exact dG f c m
 rw[<-hC]at jt⊢
 clear hd
 refine aq hP Tryz.func68 ⟨ao rfl,⟨trivial,trivial⟩⟩ (by simpa [ay,bd]using ak _ (bC 1)) ?_
 intro A g K hA hg hK
 obtain⟨bin,sh,_,_,aX,_,nn⟩:=A
 have e1:bin .quo .i64 (.ofNat i) 32=Int.ofNat q:=(mO hA (a:=i) (b:=32) (by omega)).trans (by rw[hq])
 have e2:bin .rem .i64 (.ofNat i) 32=Int.ofNat s:=(pJ hA i 32).trans (by rw[hs])
 have e3:nn (.ofNat s)=true:=kr hA s
 have e4:sh .shr .u64 (.ofNat d) (.ofNat s)=Int.ofNat y:=(k_ hA (k:= .u64) (a:=d) (b:=s) (by show s<=64;omega)).trans (by rw[hy])
 have e5:bin .and .u64 (.ofNat y) 1=Int.ofNat r:=(qP hA (k:= .u64) rfl (a:=y) (b:=1) (by show y<0x10000000000000000;omega) (by decide)).trans (aK Int.ofNat (by rw[ry];exact Bf y 1))
 have e6:aX .i64 (.ofNat r)=Int.ofNat r:=nQ hA (k:= .i64) (a:=r) (fun _=>by show r<2^63;omega) (fun h=>by cases h)
 cbv
 rw[e1]
 cbv
 refine aZ hg jt (fun _=>0) (fG (bC 0) rfl) ?_
 cbv
 rw[e2]
 cbv
 rw[e3]
 cbv
 rw[e4]
 cbv
 rw[e5]
 cbv
 rw[e6]
 exact hK _ _ _ rfl
end Go.Proofs.YtfocopihipejfaaGreat
namespace Go.Vg
structure Nw(n c:Nat)(f:Nat->Nat)(x:Nat):Prop where
 le:n<=c
 w:∀j,j<c->f j<4294967296
 v:Dg.num 4294967296 f n=x
theorem Nm.nw{n c x:Nat}{f:Nat->Nat}(h:Nm n c f x):Nw n c f x:=⟨h.le,h.w,h.v⟩
theorem Nw.lt{n c x:Nat}{f:Nat->Nat}(h:Nw n c f x):x<4294967296^n:=by
 rw[<-h.v];exact Dg.uM n fun i hi=>h.w i (cg hi h.le)
theorem Nw.eJ{n c x:Nat}{f:Nat->Nat}(h:Nw n c f x){i:Nat}(hi:i<n):f i=dg x i:=by
 rw[<-h.v];exact(Dg.zH (by decide) n (fun j hj=>h.w j (cg hj h.le)) i hi).symm
theorem Nw.pj{n c x:Nat}{f:Nat->Nat}(h:Nw n c f x){i:Nat}(hi:n<=i):dg x i=0:=Dg.v8 (by decide) h.lt hi
end Go.Vg
namespace Go.Proofs.YtfocopihipejfaaGreat
open Go.Vg Go.RowKit
set_option maxRecDepth 200000
set_option cbv.maxSteps 100000000
theorem agL{P:Program}(hP:P=Tryz.prog){c:Nat}{f:Nat->Nat}(s:Nat)(lC:s<32):ah P 55 [.slice 0 0 0 c,.int .i64 (.ofNat s)] [⟨0,hs f c,88⟩] 1 [] (fun w _ _=>w= .au):=by
 obtain⟨C,hC⟩:=aa (hs f c)
 have bC:∀m,an m C=true:=fun m=>by rw[hC];exact dG f c m
 rw[<-hC]
 clear hC
 refine aq hP Tryz.func55 ⟨ao rfl,⟨trivial,trivial⟩⟩ (by simpa [ay,bd]using ak _ (bC 1)) ?_
 intro A g K hA hg hK
 obtain⟨bin,_,cmp,_,_,_,_,_,_,_,_,_,_,_,nat⟩:=A
 have e0:nat 0=Int.ofNat 0:=fZ hA 0
 have e1:bin .quo .i64 (.ofNat s) 32=Int.ofNat 0:=(mO hA (a:=s) (b:=32) (by omega)).trans (by rw[kg lC])
 have e2:cmp .geq (.ofNat 0) (.ofNat 0)=true:=kC hA (aE 0)
 cbv
 rw[e1,e0,e2]
 cbv
 exact hK _ _ _ rfl
theorem ZB{P:Program}(hP:P=Tryz.prog){n c x:Nat}{f:Nat->Nat}(hx:Nw n c f x)(hn:n<2^20)(An:0<n)(s:Nat)(lC:s<32)(y r:Nat)(hy:y=x/2^s)(hr:r=Vg.sz y):
 ah P 55 [.slice 0 0 n c,.int .i64 (.ofNat s)] [⟨0,hs f c,88⟩] 1 [] (fun w L q=>w= .slice 1 0 r n/\L=[⟨1,hs (dg y) n,88⟩]/\q=2):=by
 have l8:=hx.le
 obtain⟨Z,hZ⟩:=aa (fun i=>hs (wr (dg y) i) n:Nat->List SV)
 have bZ:∀m i,an m (Z i)=true:=fun m i=>by rw[hZ];exact dG _ _ m
 have jN:List.replicate n (SV.int .u32 0)=Z 0:=by rw[hZ,qm];show _=hs (wr _ 0) n;rw[E4]
 have cj:Z n=hs (dg y) n:=by rw[hZ];exact Gz _ _
 refine ah.dj (R:=fun w L q=>w= .slice 1 0 r n/\find L 1=some ⟨1,Z n,88⟩) ?_ fun v L q ⟨h1,h2⟩=>⟨_root_.id,.slice 1 0 r n,[⟨1,Z n,88⟩],2,by subst h1;exact fD ⟨rfl,rfl,trivial⟩ ⟨h2,rfl,bZ 2 n,trivial⟩ rfl rfl,rfl,by rw[cj],rfl⟩
 have kJ:y<4294967296^n:=by rw[hy];exact eB (gq _ _) hx.lt
 have jb:ah P 69 [.slice 0 0 n n] [⟨0,Z n,88⟩] 1 [] (fun w _ _=>w= .slice 0 0 r n):=by
  rw[cj];exact pU hP (dg y) n n r (aE _) (by omega) (by rw[hr,rU kJ])
 have jt:∀i,ah P 54 [.slice 0 0 n c,.int .i64 (.ofNat i)] [⟨0,hs f c,88⟩] 1 [] (fun w _ _=>w= .int .u64 (.ofNat (dg x i))):=fun i=>zA hP f n c i _ hx.le hx.w (by
  by_cases h:i<n
  ·rw[aj h,hx.eJ h]
  ·rw[af h,hx.pj (by omega)])
 obtain⟨X,hX⟩:=aa (dg x)
 obtain⟨S,hS⟩:=aa (dg y)
 have lX:∀i,X i<4294967296:=fun i=>by rw[hX];exact gR x i
 have I5:∀i,(X i+X (i+1)*4294967296)/2^s%4294967296=S i:=fun i=>by rw[hX,hS,hy];exact adG x i s lC
 rw[<-hX]at jt
 rw[<-hS]at hZ
 obtain⟨C,hC⟩:=aa (hs f c)
 have bC:∀m,an m C=true:=fun m=>by rw[hC];exact dG f c m
 rw[<-hC]at jt⊢
 clear hC hX hS cj
 refine aq hP Tryz.func55 ⟨ao rfl,⟨trivial,trivial⟩⟩ (by simpa [ay,bd]using ak _ (bC 1)) ?_
 intro A g K hA hg hK
 obtain⟨bin,sh,cmp,_,aX,ix,nn,_,_,_,_,_,_,_,nat,off,_,_,sub,eU⟩:=A
 have e0:nat n=Int.ofNat n:=fZ hA n
 have e1:bin .quo .i64 (.ofNat s) 32=0:=(mO hA (a:=s) (b:=32) (by omega)).trans (by rw[kg lC];rfl)
 have e2:cmp .geq 0 (.ofNat n)=false:=qW hA (a:=0) (by omega)
 have e3:bin .sub .i64 (.ofNat n) 0=Int.ofNat n:=er hA (b:=0) (bf n) (by omega)
 have e4:∀j,off 0 j 1=j:=fun j=>(dh hA 0 j 1).trans (by omega)
 have e5:∀i,i<n->ix (.ofNat i) n=some i:=fun i h=>bB hA h
 have e6:∀i v,i<n->v=S i->eU (Z i) i [.int .u32 (.ofNat v)]=some (Z (i+1)):=fun i v h hv=>by rw[hZ];exact gX hA .u32 (n:=n) (wr S i) (wr S (i+1)) h (E3 S i v hv)
 have e7:∀i,i<n->cmp .lss (.ofNat i) (.ofNat n)=true:=fun i h=>cZ hA h
 have sH:cmp .lss (.ofNat n) (.ofNat n)=false:=bM hA (iO n)
 have e8:∀i,i<n->bin .add .i64 (.ofNat i) 1=Int.ofNat (i+1):=fun i h=>e_ hA (a:=i) (b:=1) (by omega)
 have e9:∀i,i<n->bin .add .i64 (.ofNat i) 0=Int.ofNat i:=fun i h=>e_ hA (a:=i) (b:=0) (by omega)
 have jT:bin .rem .i64 (.ofNat s) 32=Int.ofNat s:=(pJ hA s 32).trans (by rw[aO lC])
 have kP:nn (.ofNat s)=true:=kr hA s
 have hU:=rV hP
 clear hZ
 cbv
 rw[e1,e0,e2]
 cbv
 rw[e1,e0,e3]
 cbv
 refine nL (hP▸aI) hg rfl rfl (show av 23=some _ from rfl) rfl (show av 88=some _ from rfl) hU rfl (m:=n) rfl rfl (by omega) (by omega) ?_
 rw[jN]
 cbv
 refine bH Nat (fun i=>i<=n) (fun i=>n-i) (fun i=> [(6,.int .i64 (.ofNat i))]) [0,1,4,5] (fun i=> [(1,Z i)]) 0 (bf _) ?_ ?_
 ·exact aS (by repeat' (first|exact trivial|refine⟨rfl,rfl,rfl,?_⟩|refine⟨rfl,rfl,bC 2,?_⟩|refine⟨rfl,rfl,bZ 2 0,?_⟩))
 intro i hi
 by_cases ab:i<n
 ·obtain⟨i1,dQ⟩:=aa (i+1)
  obtain⟨w1,kI⟩:=aa (X i1*4294967296)
  obtain⟨w2,uJ⟩:=aa (X i+w1)
  obtain⟨w3,yS⟩:=aa (w2/2^s)
  obtain⟨w4,Kf⟩:=aa (w3%4294967296)
  have l1:=lX i
  have l2:=lX i1
  have l3:w3<=w2:=by rw[yS];exact gq _ _
  have hv:w4=S i:=by rw[Kf,yS,uJ,kI,dQ];exact I5 i
  have g0:=e8 i ab
  rw[<-dQ]at g0
  have g1:sh .shl .u64 (.ofNat (X i1)) 32=Int.ofNat w1:=(mP hA (k:= .u64) rfl (X i1) (s:=32) (by decide)).trans (aK Int.ofNat (by rw[kI];show X i1*4294967296%0x10000000000000000=_;omega))
  have g2:bin .or .u64 (.ofNat (X i)) (.ofNat w1)=Int.ofNat w2:=(l9 hA (k:= .u64) rfl (a:=X i) (b:=w1) (by show X i<0x10000000000000000;omega) (by show w1<0x10000000000000000;omega)).trans (aK Int.ofNat (by rw[uJ,kI,zm,show(4294967296:Nat)=2^32 from rfl,oy (s:=32) l1,oB]))
  have g3:sh .shr .u64 (.ofNat w2) (.ofNat s)=Int.ofNat w3:=(k_ hA (k:= .u64) (a:=w2) (b:=s) (by show s<=64;omega)).trans (by rw[yS])
  have g4:bin .and .u64 (.ofNat w3) 4294967295=Int.ofNat w4:=uL hA (by omega) Kf
  have g5:aX .u32 (.ofNat w4)=Int.ofNat w4:=jr hA (by omega)
  have g6:=e6 i w4 ab hv
  obtain⟨Zn,cj⟩:=aa (Z (i+1))
  rw[<-cj]at g6
  cbv
  rw[e0]
  cbv
  rw[e7 i ab]
  cbv
  rw[e1]
  cbv
  rw[e9 i ab]
  cbv
  refine aZ hg (jt i) (fun _=>0) (fG (bC 0) rfl) ?_
  cbv
  rw[e1]
  cbv
  rw[e9 i ab]
  cbv
  rw[g0]
  cbv
  refine aZ hg (jt i1) (fun _=>0) (fG (bC 0) rfl) ?_
  cbv
  rw[g1]
  cbv
  rw[g2]
  cbv
  rw[jT]
  cbv
  rw[kP]
  cbv
  rw[g3]
  cbv
  rw[g4]
  cbv
  rw[g5]
  cbv
  rw[e5 i ab]
  cbv
  rw[e4,g6]
  cbv
  rw[g0]
  refine⟨i+1,_root_.id,ab,(by show n-(i+1)<n-i;omega),?_⟩
  rw[dQ,cj]
  exact aS (by repeat' (first|exact trivial|refine⟨rfl,rfl,rfl,?_⟩|refine⟨rfl,rfl,bC 2,?_⟩|refine⟨rfl,rfl,bZ 2 (i+1),?_⟩))
 ·obtain rfl:i=n:=by omega
  cbv
  rw[e0]
  cbv
  rw[sH]
  cbv
  refine fT rfl hg rfl rfl jb (fun _=>1) rfl (fG (bZ 0 i) rfl) ?_
  rintro _ _ _ rfl
  refine⟨by simp[bd],by simp[bd,cK],?_⟩
  cbv
  exact hK _ _ _ ⟨rfl,rfl⟩
theorem ZA{P:Program}(hP:P=Tryz.prog){n c x:Nat}{f:Nat->Nat}(hx:Nm n c f x)(hn:n<2^20)(s:Nat)(lC:s<32)(n1 y r:Nat)(iy:n1=n+1)(hy:y=x*2^s)(hr:r=Vg.sz y):
 ah P 146 [.slice 0 0 n c,.int .i64 (.ofNat s)] [⟨0,hs f c,88⟩] 1 [] (fun w L q=>w= .slice 1 0 r n1/\L=[⟨1,hs (dg y) n1,88⟩]/\q=2):=by
 have l8:=hx.le
 obtain⟨Z,hZ⟩:=aa (fun i=>hs (pa x s i) n1:Nat->List SV)
 obtain⟨M,hM⟩:=aa (fun i=>hs (A6 x s i) n1:Nat->List SV)
 have bZ:∀m i,an m (Z i)=true:=fun m i=>by rw[hZ];exact dG _ _ m
 have jN:List.replicate n1 (SV.int .u32 0)=Z 0:=by rw[hZ,qm];show _=hs (pa x s 0) n1;rw[ap3 x s lC]
 have cj:Z n=hs (dg y) n1:=by rw[hZ,hy];exact D_ fun j hj=>ap1 s hx.lt lC (by omega)
 refine ah.dj (R:=fun w L q=>w= .slice 1 0 r n1/\find L 1=some ⟨1,Z n,88⟩) ?_ fun v L q ⟨h1,h2⟩=>⟨_root_.id,.slice 1 0 r n1,[⟨1,Z n,88⟩],2,by subst h1;exact fD ⟨rfl,rfl,trivial⟩ ⟨h2,rfl,bZ 2 n,trivial⟩ rfl rfl,rfl,by rw[cj],rfl⟩
 have zR:2^s<4294967296:=eB (cV (show 0<2 by decide) (show s<=31 by omega)) (by decide)
 have kJ:y<4294967296^n1:=by
  rw[hy,iy,br]
  exact CS hx.lt zR
 have jb:ah P 69 [.slice 0 0 n1 n1] [⟨0,Z n,88⟩] 1 [] (fun w _ _=>w= .slice 0 0 r n1):=by
  rw[cj];exact pU hP (dg y) n1 n1 r (aE _) (by omega) (by rw[hr,rU kJ])
 obtain⟨X,hX⟩:=aa (dg x)
 obtain⟨cy,ir⟩:=aa (fun i=>xD x s i:Nat->Nat)
 obtain⟨S,hS⟩:=aa (dg y)
 have lX:∀i,X i<4294967296:=fun i=>by rw[hX];exact gR x i
 have dX:∀i,i<n->f i=X i:=fun i h=>by rw[hX];exact hx.eJ h
 have oJ:∀i,cy i<2^s:=fun i=>by rw[ir];exact adE x s i
 have mZ:∀i z,z=X i*2^s+cy i->S i=z%4294967296/\cy (i+1)=z/4294967296:=fun i z h=>by rw[hX,ir]at h;rw[hS,ir,hy];exact adF x s i z h
 have hMs:∀i v,v=S i->A6 x s i=fun j=>if j=i then v else pa x s i j:=fun i v h=>ap0 x s i v (by rw[h,hS,hy])
 have wD:∀i v,v=cy (i+1)->pa x s (i+1)=fun j=>if j=i+1 then v else A6 x s i j:=fun i v h=>ap2 x s i v (by rw[h,ir])
 have I4:∀i,pa x s i i=cy i:=fun i=>by rw[ir];unfold pa;rw[af (iO i),aj rfl]
 obtain⟨C,hC⟩:=aa (hs f c)
 have bC:∀m,an m C=true:=fun m=>by rw[hC];exact dG f c m
 rw[<-hC]
 clear hX cj ir hS
 refine aq hP Tryz.func146 ⟨ao rfl,⟨trivial,trivial⟩⟩ (by simpa [ay,bd]using ak _ (bC 1)) ?_
 intro A g K hA hg hK
 obtain⟨bin,sh,cmp,_,aX,ix,nn,_,_,_,_,_,_,_,nat,off,get,_,_,eU⟩:=A
 have e0:nat n=Int.ofNat n:=fZ hA n
 have e1:bin .quo .i64 (.ofNat s) 32=0:=(mO hA (a:=s) (b:=32) (by omega)).trans (by rw[kg lC];rfl)
 have e2:∀i,i<=n->bin .add .i64 (.ofNat i) 0=Int.ofNat i:=fun i h=>e_ hA (a:=i) (b:=0) (by omega)
 have e3:bin .add .i64 (.ofNat n) 1=Int.ofNat n1:=(e_ hA (a:=n) (b:=1) (by omega)).trans (by rw[iy])
 have e4:∀j,off 0 j 1=j:=fun j=>(dh hA 0 j 1).trans (by omega)
 have e5:∀i m,i<m->ix (.ofNat i) m=some i:=fun i m h=>bB hA h
 have f5:∀i,i<n->get C i=some (.int .u32 (.ofNat (X i))):=fun i h=>by rw[<-dX i h,hC];exact ei hA .u32 f (by omega)
 have r5:∀i,i<n->get (Z i) i=some (.int .u32 (.ofNat (cy i))):=fun i h=>by rw[<-I4 i,hZ];exact ei hA .u32 (pa x s i) (by omega)
 have r6:∀i v,i<n->v=S i->eU (Z i) i [.int .u32 (.ofNat v)]=some (M i):=fun i v h hv=>by rw[hZ,hM];exact gX hA .u32 (n:=n1) (pa x s i) (A6 x s i) (by omega) (hMs i v hv)
 have r7:∀i i1 v,i1=i+1->i<n->v=cy (i+1)->eU (M i) i1 [.int .u32 (.ofNat v)]=some (Z (i+1)):=fun i i1 v h1 h hv=>by subst h1;rw[hM,hZ];exact gX hA .u32 (n:=n1) (A6 x s i) (pa x s (i+1)) (by omega) (wD i v hv)
 have e7:∀i,i<n->cmp .lss (.ofNat i) (.ofNat n)=true:=fun i h=>cZ hA h
 have sH:cmp .lss (.ofNat n) (.ofNat n)=false:=bM hA (iO n)
 have e8:∀i,i<n->bin .add .i64 (.ofNat i) 1=Int.ofNat (i+1):=fun i h=>e_ hA (a:=i) (b:=1) (by omega)
 have jT:bin .rem .i64 (.ofNat s) 32=Int.ofNat s:=(pJ hA s 32).trans (by rw[aO lC])
 have kP:nn (.ofNat s)=true:=kr hA s
 have hU:=rV hP
 clear hZ hM hMs wD I4 hC dX
 cbv
 rw[e1,e0]
 cbv
 rw[e2 n (aE n),e3]
 cbv
 refine nL (hP▸aI) hg rfl rfl (show av 23=some _ from rfl) rfl (show av 88=some _ from rfl) hU rfl (m:=n1) rfl rfl (by omega) (by omega) ?_
 rw[jN]
 cbv
 refine bH Nat (fun i=>i<=n) (fun i=>n-i) (fun i=> [(6,.int .i64 (.ofNat i))]) [0,1,4,5] (fun i=> [(1,Z i)]) 0 (bf _) ?_ ?_
 ·exact aS (by repeat' (first|exact trivial|refine⟨rfl,rfl,rfl,?_⟩|refine⟨rfl,rfl,bC 2,?_⟩|refine⟨rfl,rfl,bZ 2 0,?_⟩))
 intro i hi
 by_cases ab:i<n
 ·obtain⟨i1,dQ⟩:=aa (i+1)
  obtain⟨w,hw⟩:=aa (X i*2^s)
  obtain⟨z,hz⟩:=aa (w+cy i)
  obtain⟨lo,kp⟩:=aa (w%4294967296)
  obtain⟨w2,uJ⟩:=aa (lo+cy i)
  obtain⟨p1,p2,p3,p4,p5⟩:=ap4 lC (lX i) (oJ i) hw hz
  rw[<-kp]at p1 p3 p5
  obtain⟨q1,q2⟩:=mZ i z (by rw[hz,hw])
  have lc:cy i<4294967296:=by have:=oJ i;omega
  have g0:=e8 i ab
  rw[<-dQ]at g0
  have gc:aX .u64 (.ofNat (X i))=Int.ofNat (X i):=C_ hA (by have:=lX i;omega)
  have g1:sh .shl .u64 (.ofNat (X i)) (.ofNat s)=Int.ofNat w:=(mP hA (k:= .u64) rfl (X i) (s:=s) (by show s<=64;omega)).trans (aK Int.ofNat (by rw[<-hw];exact aO p4))
  have g2:bin .and .u64 (.ofNat w) 4294967295=Int.ofNat lo:=uL hA p4 kp
  have g3:aX .u32 (.ofNat lo)=Int.ofNat lo:=jr hA (by omega)
  have g4:bin .or .u32 (.ofNat (cy i)) (.ofNat lo)=Int.ofNat w2:=(l9 hA (k:= .u32) rfl (a:=cy i) (b:=lo) (by show cy i<4294967296;omega) (by show lo<4294967296;omega)).trans (aK Int.ofNat (by rw[p3,uJ]))
  have g5:=r6 i w2 ab (by rw[q1,p1,uJ])
  have g6:sh .shr .u64 (.ofNat w) 32=Int.ofNat (cy (i+1)):=yI hA (by rw[q2,p2])
  have g7:aX .u32 (.ofNat (cy (i+1)))=Int.ofNat (cy (i+1)):=jr hA (by have:=oJ (i+1);omega)
  have g8:=r7 i i1 (cy (i+1)) dQ ab rfl
  obtain⟨cn,nh⟩:=aa (cy (i+1))
  rw[<-nh]at g6 g7 g8
  obtain⟨Zn,cj⟩:=aa (Z (i+1))
  rw[<-cj]at g8
  cbv
  rw[e0]
  cbv
  rw[e7 i ab]
  cbv
  rw[e5 i n ab]
  cbv
  rw[e4,f5 i ab]
  cbv
  rw[gc]
  cbv
  rw[jT]
  cbv
  rw[kP]
  cbv
  rw[g1]
  cbv
  rw[e1]
  cbv
  rw[e2 i hi]
  cbv
  rw[e5 i n1 (by omega)]
  cbv
  rw[e4,r5 i ab]
  cbv
  rw[g2]
  cbv
  rw[g3]
  cbv
  rw[g4]
  cbv
  rw[e5 i n1 (by omega)]
  cbv
  rw[e4,g5]
  cbv
  rw[e1]
  cbv
  rw[e2 i hi]
  cbv
  rw[g0]
  cbv
  rw[g6]
  cbv
  rw[g7]
  cbv
  rw[e5 i1 n1 (by omega)]
  cbv
  rw[e4,g8]
  cbv
  rw[g0]
  refine⟨i+1,_root_.id,ab,(by show n-(i+1)<n-i;omega),?_⟩
  rw[dQ,cj]
  exact aS (by repeat' (first|exact trivial|refine⟨rfl,rfl,rfl,?_⟩|refine⟨rfl,rfl,bC 2,?_⟩|refine⟨rfl,rfl,bZ 2 (i+1),?_⟩))
 ·obtain rfl:i=n:=by omega
  cbv
  rw[e0]
  cbv
  rw[sH]
  cbv
  refine fT rfl hg rfl rfl jb (fun _=>1) rfl (fG (bZ 0 i) rfl) ?_
  rintro _ _ _ rfl
  refine⟨by simp[bd],by simp[bd,cK],?_⟩
  cbv
  exact hK _ _ _ ⟨rfl,rfl⟩
end Go.Proofs.YtfocopihipejfaaGreat
