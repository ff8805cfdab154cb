/-
  This text proves what these texts prove: Pf, Pg, Ph, Pi, Pj. Conditions: those of each theorem.
-/
import Derived.Test.YtfocopihipejfaaGreatB23
set_option maxHeartbeats 8000000
set_option linter.all false
namespace Go.Vg
open Go.RowKit Go.Lib
theorem VJ(x m i:Nat)(hm:0<m):dg (x/m) i=(x/4294967296^(i+1)%m*4294967296+dg x i)/m/\x/4294967296^i%m=(x/4294967296^(i+1)%m*4294967296+dg x i)%m/\(x/4294967296^(i+1)%m*4294967296+dg x i)/m<4294967296:=by
 have h1:dg (x/m) i=x/4294967296^i/m%4294967296:=by
  unfold dg Dg.eJ;rw[ke,bJ,<-ke]
 have h2:x/4294967296^(i+1)=x/4294967296^i/4294967296:=by rw[br,ke]
 rw[h1,h2]
 show _=(_+x/4294967296^i%4294967296)/m/\_=(_+x/4294967296^i%4294967296)%m/\(_+x/4294967296^i%4294967296)/m<_
 generalize x/4294967296^i=y
 have ab:y/4294967296%m<m:=ax _ hm
 have hy:y=(y/4294967296%m*4294967296+y%4294967296)+m*(y/4294967296/m*4294967296):=by
  have e1:=gN y 4294967296
  have e2:=gN (y/4294967296) m
  have e3:m*(y/4294967296/m*4294967296)=m*(y/4294967296/m)*4294967296:=by rw[eZ]
  rw[e3]
  generalize m*(y/4294967296/m)=a at *
  omega
 have hq:(y/4294967296%m*4294967296+y%4294967296)/m<4294967296:=by
  refine xQ ?_
  have h5:(y/4294967296%m+1)*4294967296<=m*4294967296:=ea _ ab
  omega
 have hyd:y/m=(y/4294967296%m*4294967296+y%4294967296)/m+y/4294967296/m*4294967296:=by
  have:=aK (· /m) hy
  exact this.trans (Yp _ _ hm)
 have Og:y%m=(y/4294967296%m*4294967296+y%4294967296)%m:=by
  have:=aK (· %m) hy
  exact this.trans (CO _ _ _)
 refine⟨?_,Og,hq⟩
 rw[hyd,tR,aO hq]
def wh(h:Nat->Nat)(n j:Nat):Nat->Nat:=fun i=>if n<=i+j then h i else 0
theorem aeB(h:Nat->Nat)(n j i v:Nat)(hi:i+j+1=n)(hv:v=h i):wh h n (j+1)=fun k=>if k=i then v else wh h n j k:=by
 funext k;unfold wh
 by_cases e:k=i
 ·rw[aj e,aj (by omega),hv,e]
 ·rw[af e]
  by_cases e2:n<=k+j
  ·rw[aj e2,aj (by omega)]
  ·rw[af e2,af (by omega)]
theorem abv(h:Nat->Nat)(n:Nat):hs (fun _=>0) n=hs (wh h n 0) n:=D_ fun j hj=>by unfold wh;rw[af (by omega)]
theorem abu(h:Nat->Nat)(n:Nat):hs (wh h n n) n=hs h n:=D_ fun j hj=>by unfold wh;rw[aj (by omega)]
theorem aie{x n:Nat}(h:x<4294967296^n):x/4294967296^n=0:=kg h
end Go.Vg
namespace Go.Proofs.YtfocopihipejfaaGreat
open Go.Vg Go.RowKit
set_option maxRecDepth 200000
set_option cbv.maxSteps 100000000
theorem agJ{P:Program}(hP:P=Tryz.prog){n c x:Nat}{f:Nat->Nat}(hx:Nm n c f x)(hn:n<2^20)(m:Nat)(hm:0<m)(DX:m<4294967296)(y r yz rz:Nat)(hy:y=x/m)(hr:r=x%m)(rI:yz=Vg.sz y)(oV:rz=Vg.sz r):
 ah P 145 [.slice 0 0 n c,.int .u64 (.ofNat m)] [⟨0,hs f c,88⟩] 1 [] (fun w L q=>w= .aR [.slice 1 0 yz n,.slice 2 0 rz 1]/\L=[⟨1,hs (dg y) n,88⟩,⟨2,hs (dg r) 1,88⟩]/\q=3):=by
 have l8:=hx.le
 have iW:r<m:=by rw[hr];exact ax _ hm
 obtain⟨Z,hZ⟩:=aa (fun i=>hs (wh (dg y) n i) n:Nat->List SV)
 have bZ:∀m i,an m (Z i)=true:=fun m i=>by rw[hZ];exact dG _ _ m
 have jN:List.replicate n (SV.int .u32 0)=Z 0:=by rw[hZ,qm];exact abv _ _
 have cj:Z n=hs (dg y) n:=by rw[hZ];exact abu _ _
 have kh:hs (dg r) 1=[.int .u32 (.ofNat r)]:=by
  show [SV.int .u32 (.ofNat (dg r 0))]=_
  rw[show dg r 0=r from by unfold dg Dg.eJ;rw[jB,pf];exact aO (by omega)]
 refine ah.dj (R:=fun w L q=>w= .aR [.slice 1 0 yz n,.slice 2 0 rz 1]/\find L 1=some ⟨1,Z n,88⟩/\find L 2=some ⟨2,[.int .u32 (.ofNat r)],88⟩) ?_ fun v L q ⟨h1,h2,h3⟩=>⟨_root_.id,.aR [.slice 1 0 yz n,.slice 2 0 rz 1],[⟨1,Z n,88⟩,⟨2,[.int .u32 (.ofNat r)],88⟩],3,by subst h1;exact fD ⟨rfl,rfl,trivial⟩ ⟨h2,rfl,bZ 3 n,h3,rfl,rfl,trivial⟩ rfl rfl,rfl,by rw[cj,kh],rfl⟩
 have kJ:y<4294967296^n:=by rw[hy];exact eB (gq _ _) hx.lt
 have jb:ah P 69 [.slice 0 0 n n] [⟨0,Z n,88⟩] 1 [] (fun w _ _=>w= .slice 0 0 yz n):=by
  rw[cj];exact pU hP (dg y) n n yz (aE _) (by omega) (by rw[rI,rU kJ])
 have hTs:ah P 69 [.slice 0 0 1 1] [⟨0,[.int .u32 (.ofNat r)],88⟩] 1 [] (fun w _ _=>w= .slice 0 0 rz 1):=by
  rw[<-kh];exact pU hP (dg r) 1 1 rz (aE _) (by decide) (by rw[oV,rU (by omega)])
 obtain⟨X,hX⟩:=aa (dg x)
 obtain⟨S,hS⟩:=aa (dg y)
 -- the rest behind j digits
 obtain⟨rr,mH⟩:=aa (fun j=>x/4294967296^(n-j)%m:Nat->Nat)
 have rr0:rr 0=0:=by rw[mH];show x/4294967296^(n-0)%m=0;rw[tU,aie hx.lt,zq]
 have rrn:rr n=r:=by rw[mH];show x/4294967296^(n-n)%m=r;rw[vH,jB,pf,hr]
 have rrl:∀j,rr j<m:=fun j=>by rw[mH];exact ax _ hm
 have aW:∀j i z,i+j+1=n->z=rr j*4294967296+X i->S i=z/m/\rr (j+1)=z%m/\z/m<4294967296:=fun j i z h hz=>by
  obtain⟨h1,h2,h3⟩:=VJ x m i hm
  have e1:rr j=x/4294967296^(i+1)%m:=by rw[mH];show x/4294967296^(n-j)%m=_;rw[show n-j=i+1 by omega]
  have e2:rr (j+1)=x/4294967296^i%m:=by rw[mH];show x/4294967296^(n-(j+1))%m=_;rw[show n-(j+1)=i by omega]
  rw[hX,e1]at hz
  rw[e2,hS,hy,hz]
  exact⟨h1,h2,h3⟩
 have lX:∀i,X i<4294967296:=fun i=>by rw[hX];exact gR x i
 have dX:∀i,i<n->f i=X i:=fun i h=>by rw[hX];exact hx.eJ h
 have wG:∀j i v,i+j+1=n->v=S i->wh (dg y) n (j+1)=fun k=>if k=i then v else wh (dg y) n j k:=fun j i v h hv=>aeB _ n j i v h (by rw[hv,hS])
 obtain⟨IV,jL⟩:=aa (fun j:Nat=>(n:Int)-1-(j:Int):Nat->Int)
 have iv:∀j i,i+j+1=n->IV j=Int.ofNat i:=fun j i h=>by rw[jL];show(n:Int)-1-(j:Int)=(i:Int);omega
 have Kx:IV n= -1:=by rw[jL];show(n:Int)-1-(n:Int)= -1;omega
 have oY:IntKind.i64.wrap ((n:Int)-1)=IV 0:=by rw[jL,IntKind.wrap_i64];show _=(n:Int)-1-((0:Nat):Int);omega
 obtain⟨C,hC⟩:=aa (hs f c)
 have bC:∀m,an m C=true:=fun m=>by rw[hC];exact dG f c m
 rw[<-hC]
 clear hX hS cj mH kh
 refine aq hP Tryz.func145 ⟨ao rfl,⟨trivial,trivial⟩⟩ (by simpa [ay,bd]using ak _ (bC 1)) ?_
 intro A g K hA hg hK
 obtain⟨bin,sh,cmp,_,aX,ix,_,nz,_,_,_,_,_,_,nat,off,get,_,sub,eU⟩:=A
 have hb:bin=jH:=qQ hA
 have e0:nat n=Int.ofNat n:=fZ hA n
 have e1:bin .sub .i64 (.ofNat n) 1=IV 0:=by rw[hb];exact oY
 have e2:∀j,j<n->bin .sub .i64 (IV j) 1=IV (j+1):=fun j h=>by
  rw[hb,jL]
  show IntKind.i64.wrap ((n:Int)-1-(j:Int)-1)=(n:Int)-1-((j+1:Nat):Int)
  rw[IntKind.wrap_i64];omega
 have e3:∀j,cmp .geq (.ofNat j) 0=true:=fun j=>kC hA (b:=0) (bf _)
 have wg:cmp .geq (-1) 0=false:=(bg (bg (bg (kA hA) .geq) (-1)) 0).trans rfl
 have e4:∀j,off 0 j 1=j:=fun j=>(dh hA 0 j 1).trans (by omega)
 have e5:∀i m,i<m->ix (.ofNat i) m=some i:=fun i m h=>bB hA h
 have f5:∀i,i<n->get C i=some (.int .u32 (.ofNat (X i))):=fun i h=>by rw[<-dX i h,hC];exact ei hA .u32 f (by omega)
 have r6:∀j i v,i+j+1=n->v=S i->eU (Z j) i [.int .u32 (.ofNat v)]=some (Z (j+1)):=fun j i v h hv=>by rw[hZ];exact gX hA .u32 (n:=n) (wh (dg y) n j) (wh (dg y) n (j+1)) (by omega) (wG j i v h hv)
 have hU:=rV hP
 clear hZ wG hC dX
 cbv
 rw[e0]
 cbv
 refine nL (hP▸aI) hg rfl rfl (show av 23=some _ from rfl) rfl (show av 88=some _ from rfl) hU rfl (m:=n) rfl rfl (by omega) (by omega) ?_
 rw[jN]
 cbv
 rw[e0,e1]
 cbv
 refine bH Nat (fun j=>j<=n) (fun j=>n-j) (fun j=> [(7,.int .u64 (.ofNat (rr j))),(8,.int .i64 (IV j))]) [0,1,4,5,6] (fun j=> [(1,Z j)]) 0 (bf _) ?_ ?_
 ·rw[rr0]
  exact aS (by repeat' (first|exact trivial|refine⟨rfl,rfl,rfl,?_⟩|refine⟨rfl,rfl,bC 2,?_⟩|refine⟨rfl,rfl,bZ 2 0,?_⟩))
 intro j hj
 by_cases ab:j<n
 ·obtain⟨i,hi⟩:∃i,i+j+1=n:=⟨n-j-1,by omega⟩
  have iT:=iv j i hi
  obtain⟨w1,kI⟩:=aa (rr j*4294967296)
  obtain⟨z,hz⟩:=aa (w1+X i)
  obtain⟨d,hd⟩:=aa (z/m)
  obtain⟨q1,q2,q3⟩:=aW j i z hi (by rw[hz,kI])
  have l1:=rrl j
  have l2:=lX i
  have g1:sh .shl .u64 (.ofNat (rr j)) 32=Int.ofNat w1:=(mP hA (k:= .u64) rfl (rr j) (s:=32) (by decide)).trans (aK Int.ofNat (by rw[kI];show rr j*4294967296%0x10000000000000000=_;omega))
  have g2:aX .u64 (.ofNat (X i))=Int.ofNat (X i):=C_ hA (by omega)
  have g3:bin .or .u64 (.ofNat w1) (.ofNat (X i))=Int.ofNat z:=(l9 hA (k:= .u64) rfl (a:=w1) (b:=X i) (by show w1<0x10000000000000000;omega) (by show X i<0x10000000000000000;omega)).trans (aK Int.ofNat (by rw[hz,kI,show(4294967296:Nat)=2^32 from rfl,oy (s:=32) l2]))
  have nD:z<0x10000000000000000:=by omega
  have g4:bin .quo .u64 (.ofNat z) (.ofNat m)=Int.ofNat d:=(VI hA (k:= .u64) rfl (a:=z) nD m).trans (by rw[hd])
  have g5:aX .u32 (.ofNat d)=Int.ofNat d:=jr hA (by omega)
  have g6:=r6 j i d hi (by rw[q1,hd])
  have g7:bin .rem .u64 (.ofNat z) (.ofNat m)=Int.ofNat (rr (j+1)):=(pJ hA (k:= .u64) z m).trans (by rw[q2])
  have g8:=e2 j ab
  have g9:nz (.ofNat m)=true:=OJ hA (by omega)
  obtain⟨rn,D8⟩:=aa (rr (j+1))
  obtain⟨Zn,cj⟩:=aa (Z (j+1))
  obtain⟨In,hIn⟩:=aa (IV (j+1))
  rw[<-D8]at g7
  rw[<-cj]at g6
  rw[<-hIn,iT]at g8
  rw[iT]
  cbv
  rw[e3]
  cbv
  rw[g1]
  cbv
  rw[e5 i n (by omega)]
  cbv
  rw[e4,f5 i (by omega)]
  cbv
  rw[g2]
  cbv
  rw[g3]
  cbv
  rw[g9]
  cbv
  rw[g4]
  cbv
  rw[g5]
  cbv
  rw[e5 i n (by omega)]
  cbv
  rw[e4,g6]
  cbv
  rw[g9]
  cbv
  rw[g7]
  cbv
  rw[g8]
  refine⟨j+1,_root_.id,ab,(by show n-(j+1)<n-j;omega),?_⟩
  rw[D8,cj,hIn]
  exact aS (by repeat' (first|exact trivial|refine⟨rfl,rfl,rfl,?_⟩|refine⟨rfl,rfl,bC 2,?_⟩|refine⟨rfl,rfl,bZ 2 (j+1),?_⟩))
 ·obtain rfl:j=n:=by omega
  rw[Kx,rrn]
  cbv
  rw[wg]
  cbv
  refine fT rfl hg rfl rfl jb (fun _=>1) rfl (fG (bZ 0 j) rfl) ?_
  rintro _ _ _ rfl
  refine⟨by simp[bd],by simp[bd,cK],?_⟩
  cbv
  rw[show aX .u32 (.ofNat r)=Int.ofNat r from jr hA (by omega)]
  cbv
  refine fT rfl hg rfl rfl hTs (fun _=>2) rfl ⟨rfl,trivial⟩ ?_
  rintro _ _ _ rfl
  refine⟨by simp[bd],by simp[bd,cK],?_⟩
  cbv
  exact hK _ _ _ ⟨rfl,rfl,rfl⟩
end Go.Proofs.YtfocopihipejfaaGreat
namespace Go.Vg
open Go.RowKit Go.Lib
theorem KR{W n:Nat}(h:W<4294967296^n):Dg.num 4294967296 (dg W) n=W:=(Dg.GY (by decide) W n).trans (aO h)
structure Gs(v:Nat->Nat)(p V W:Nat):Prop where
 vv:Dg.num 4294967296 v (p+2)=V
 vw:∀j,j<p+2->v j<4294967296
 v0:0<v (p+1)
 lt:W<V*4294967296
theorem Gs.HN{v:Nat->Nat}{p V W:Nat}(h:Gs v p V W):W<4294967296^(p+3):=by
 have h1:V<4294967296^(p+2):=by rw[<-h.vv];exact Dg.uM _ h.vw
 have h2:V*4294967296<=4294967296^(p+2)*4294967296:=ea _ (ku h1)
 rw[<-br]at h2
 exact cg h.lt h2
theorem Gs.V0{v:Nat->Nat}{p V W:Nat}(h:Gs v p V W):0<V:=by
 rcases Nat.eq_zero_or_pos V with h0|h0
 ·have:=h.lt;rw[h0]at this;omega
 ·exact h0
theorem Gs.QB{v:Nat->Nat}{p V W:Nat}(h:Gs v p V W):W/V<4294967296:=xQ h.lt
theorem Gs.g1{v:Nat->Nat}{p V W:Nat}(h:Gs v p V W):W/V*v (p+1)<=dg W (p+2)*4294967296+dg W (p+1):=by
 refine Dg.aaF (b:=4294967296) (d:=v) (u:=dg W) (n:=p+1) (q:=W/V) (by decide) (fun i _=>gR W i) ?_
 rw[h.vv,KR h.HN]
 exact CP W V
theorem Gs.g2{v:Nat->Nat}{p V W:Nat}(h:Gs v p V W):W/V*(v (p+1)*4294967296+v p)<=(dg W (p+2)*4294967296+dg W (p+1))*4294967296+dg W p:=by
 refine Dg.aaG (b:=4294967296) (d:=v) (u:=dg W) (n:=p) (q:=W/V) (by decide) (fun i _=>gR W i) ?_
 rw[h.vv,KR h.HN]
 exact CP W V
theorem Gs.top{v:Nat->Nat}{p V W:Nat}(h:Gs v p V W):dg W (p+2)<=v (p+1):=by
 have hW:=KR h.HN
 have e1:Dg.num 4294967296 (dg W) (p+3)=Dg.num 4294967296 (dg W) (p+2)+dg W (p+2)*4294967296^(p+2):=rfl
 have e2:Dg.num 4294967296 v (p+2)=Dg.num 4294967296 v (p+1)+v (p+1)*4294967296^(p+1):=rfl
 have h1:Dg.num 4294967296 v (p+1)<4294967296^(p+1):=Dg.uM _ fun i hi=>h.vw i (by omega)
 have hl:=h.lt
 rw[<-h.vv,e2]at hl
 rw[<-hW,e1]at hl
 rw[show 4294967296^(p+2)=4294967296^(p+1)*4294967296 from br ..]at hl
 generalize Dg.num 4294967296 v (p+1)=a at *
 generalize Dg.num 4294967296 (dg W) (p+2)=b at *
 generalize 4294967296^(p+1)=Q at *
 rcases Nat.lt_or_ge (v (p+1)) (dg W (p+2))with h3|h3
 ·exfalso
  have h4:(v (p+1)+1)*(Q*4294967296)<=dg W (p+2)*(Q*4294967296):=ea _ h3
  rw[cw,fN]at h4
  rw[cw,eZ (v (p+1))]at hl
  omega
 ·exact h3
theorem Gs.last{v:Nat->Nat}{p V W d:Nat}(h:Gs v p V W)(hd:d<4294967296)(ht:d*(v (p+1)*4294967296+v p)<=(dg W (p+2)*4294967296+dg W (p+1))*4294967296+dg W p):d*V<=W+V:=by
 have hW:=KR h.HN
 have e1:Dg.num 4294967296 (dg W) (p+3)=Dg.num 4294967296 (dg W) p+dg W p*4294967296^p+dg W (p+1)*4294967296^(p+1)+dg W (p+2)*4294967296^(p+2):=rfl
 have e2:Dg.num 4294967296 v (p+2)=Dg.num 4294967296 v p+v p*4294967296^p+v (p+1)*4294967296^(p+1):=rfl
 have h1:Dg.num 4294967296 v p<4294967296^p:=Dg.uM _ fun i hi=>h.vw i (by omega)
 rw[h.vv]at e2
 rw[hW]at e1
 have kH:=h.v0
 rw[show 4294967296^(p+2)=4294967296^p*4294967296*4294967296 from by rw[br,br],show 4294967296^(p+1)=4294967296^p*4294967296 from br ..]at *
 generalize Dg.num 4294967296 v p=a at *
 generalize Dg.num 4294967296 (dg W) p=b at *
 generalize 4294967296^p=Q at *
 generalize dg W (p+2)=u0 at *
 generalize dg W (p+1)=u1 at *
 generalize dg W p=u2 at *
 generalize v (p+1)=v1 at *
 generalize v p=v2 at *
 have e3:W=b+((u0*4294967296+u1)*4294967296+u2)*Q:=by rw[e1];grind
 have e4:V=a+(v1*4294967296+v2)*Q:=by rw[e2];grind
 rcases Nat.eq_zero_or_pos d with h0|h0
 ·rw[h0,fE];exact bf _
 ·obtain⟨t,rfl⟩:∃t,d=t+1:=⟨d-1,by omega⟩
  rw[cw,fN]
  refine Nat.add_le_add_right ?_ V
  obtain⟨s,hg⟩:=aa (v1*4294967296+v2)
  rw[<-hg]at ht e4
  have hs:t<=s:=by omega
  have h5:t*(s+1)<=(u0*4294967296+u1)*4294967296+u2:=by
   rw[lL,fh]
   rw[cw,fN]at ht
   omega
  have h6:V<=(s+1)*Q:=by rw[e4,cw,fN];omega
  have h7:t*V<=t*((s+1)*Q):=xS _ h6
  rw[<-eZ]at h7
  have h8:=ea Q h5
  omega
def AV(x T i:Nat):Nat:=(x%4294967296^i*T)/4294967296^i
theorem alu(x T:Nat):AV x T 0=0:=by unfold AV;rw[jB,zl,fE]
theorem acE(x T i z:Nat)(hz:z=dg x i*T+AV x T i):dg (x*T) i=z%4294967296/\AV x T (i+1)=z/4294967296:=by
 have hp:0<4294967296^i:=ew (by decide)
 have key:x%4294967296^(i+1)*T=(x%4294967296^i*T)%4294967296^i+z*4294967296^i:=by
  rw[zG,hz,cw,cw]
  have h:=gN (x%4294967296^i*T) (4294967296^i)
  rw[bJ]at h
  unfold AV
  have h2:dg x i*4294967296^i*T=dg x i*T*4294967296^i:=by ac_rfl
  show _+dg x i*_*_=_
  rw[h2]
  generalize dg x i*T*4294967296^i=a at *
  generalize (x%4294967296^i*T)/4294967296^i*4294967296^i=c at *
  omega
 have aW:=Pd (Q:=4294967296^i) (B:=4294967296) (s:=z) (Z:=x*T) (by decide) (ax _ hp) (by rw[<-key,<-br,tT])
 refine⟨aW.1,?_⟩
 unfold AV
 rw[key,br]
 exact aW.2
theorem acC(x:Nat){T:Nat}(i:Nat)(hT:T<4294967296):AV x T i<4294967296:=by
 unfold AV
 have hp:0<4294967296^i:=ew (by decide)
 refine xQ ?_
 exact CS (ax x hp) hT
def wn(u:Nat->Nat)(j:Nat)(h:Nat->Nat)(i:Nat):Nat->Nat:=fun a=>if j<=a/\a<j+i then h (a-j)else u a
theorem aeK(u:Nat->Nat)(j:Nat)(h:Nat->Nat):wn u j h 0=u:=by funext a;unfold wn;rw[af (by omega)]
theorem aeJ(u:Nat->Nat)(j:Nat)(h:Nat->Nat)(i v:Nat)(hv:v=h i):wn u j h (i+1)=fun a=>if a=i+j then v else wn u j h i a:=by
 funext a;unfold wn
 by_cases e:a=i+j
 ·rw[aj e,aj (by omega),hv];congr 1;omega
 ·rw[af e]
  by_cases e2:j<=a/\a<j+i
  ·rw[aj e2,aj (by omega)]
  ·rw[af e2,af (by omega)]
theorem ara(u:Nat->Nat)(j:Nat)(h:Nat->Nat)(i t:Nat)(ht:t<i):wn u j h i (t+j)=h t:=by unfold wn;rw[aj (by omega)];congr 1;omega
theorem aeI(u:Nat->Nat)(j:Nat)(h:Nat->Nat)(i t:Nat)(ht:i<=t):wn u j h i (t+j)=u (t+j):=by unfold wn;rw[af (by omega)]
theorem arb(u:Nat->Nat)(j:Nat)(h h':Nat->Nat)(i:Nat):wn (wn u j h i) j h' i=wn u j h' i:=by
 funext a;unfold wn
 by_cases e:j<=a/\a<j+i
 ·rw[aj e,aj e]
 ·rw[af e,af e,af e]
theorem aeH(u:Nat->Nat)(j:Nat){h h':Nat->Nat}{i:Nat}(e:∀t,t<i->h t=h' t):wn u j h i=wn u j h' i:=by
 funext a;unfold wn
 by_cases e2:j<=a/\a<j+i
 ·rw[aj e2,aj e2,e _ (by omega)]
 ·rw[af e2,af e2]
theorem aqK{k V W d:Nat}(hV:0<V)(ab:W/V<=d)(h:d*V<=W):d=W/V/\∀t,t<k->dg (W+4294967296^k-V*d) t=dg (W%V) t:=by
 have hd:d=W/V:=P3 ((Fj hV).2 h) ab
 refine⟨hd,fun t ht=> ?_⟩
 have hm:=gN W V
 rw[show W+4294967296^k-V*d=W%V+1*4294967296^k from by rw[hd];omega]
 exact Io ht
theorem aqI{k V W d:Nat}(hV:0<V)(I':V<=4294967296^k)(h1:d*V<=W+V)(h2:¬d*V<=W)(h3:d*V<4294967296^k):d-1=W/V/\0<d/\∀t,t<k->dg (W+4294967296^k-V*d+V) t=dg (W%V) t:=by
 have mA:0<d:=by
  rcases Nat.eq_zero_or_pos d with h|h
  ·rw[h,fE]at h2;omega
  ·exact h
 obtain⟨e,rfl⟩:∃e,d=e+1:=⟨d-1,by omega⟩
 rw[cw,fN]at h1 h2 h3
 have he:e*V<=W:=by omega
 have hq:e=W/V:=by
  refine P3 ((Fj hV).2 he) ?_
  have:W/V<e+1:=by rw[qN hV,cw,fN];omega
  omega
 refine⟨by omega,mA,fun t ht=> ?_⟩
 have hm:=gN W V
 rw[<-hq]at hm
 rw[show W+4294967296^k-V*(e+1)+V=W%V+1*4294967296^k from by rw[lL,fh,bJ V e]at *;omega]
 exact Io ht
end Go.Vg
namespace Go.Proofs.YtfocopihipejfaaGreat
open Go.Vg Go.RowKit
set_option maxRecDepth 200000
set_option cbv.maxSteps 100000000
theorem RA{d v1 v2 r x x2:Nat}(e:d*v1+r=x)(h:d*v2<=r*4294967296+x2):d*(v1*4294967296+v2)<=x*4294967296+x2:=by
 rw[lL,<-eZ,<-e,cw];omega
theorem aaD{d v1 v2 r x x0 x1 x2:Nat}(e:d*v1+r=x)(hx:x=x0*4294967296+x1)(dR:x1<4294967296)(h0:x0<=v1)(hr:4294967296<=r)(hv:v2<4294967296):d<4294967296/\d*v2<=r*4294967296+x2:=by
 have hd:d<4294967296:=by
  rcases Nat.lt_or_ge d 4294967296 with h|h
  ·exact h
  ·exfalso
   have h1:4294967296*v1<=d*v1:=ea _ h
   omega
 refine⟨hd,?_⟩
 have h2:d*v2<=4294967295*4294967295:=mV (by omega) (by omega)
 omega
theorem aaE{d v1 v2 r x x0 x1 x2 Q:Nat}(e:d*v1+r=x)(hx:x=x0*4294967296+x1)(hQ:Q<4294967296)(hle:Q<=d)(hg:Q*(v1*4294967296+v2)<=x*4294967296+x2)(h:4294967296<=d\/r*4294967296+x2<d*v2):0<d/\Q<=d-1/\(d-1)*v1+(r+v1)=x:=by
 have h0:0<d:=by
  rcases Nat.eq_zero_or_pos d with h1|h1
  ·subst h1;rw[fE]at h;omega
  ·exact h1
 refine⟨h0,?_,?_⟩
 ·rcases h with h|h
  ·omega
  ·rw[hx]at e hg
   exact Dg.aaH e hg h hle
 ·obtain⟨t,rfl⟩:∃t,d=t+1:=⟨d-1,by omega⟩
  rw[cw,fN]at e
  rw[oC];omega
theorem agM{P:Program}(hP:P=Tryz.prog){k cv V:Nat}{v:Nat->Nat}(hv:Nm k cv v V)(p:Nat)(NP:k=p+2)(arz:k<2^20){U cu:Nat}{u:Nat->Nat}(hU:U<=cu)(ars:U<2^20)(j:Nat)(hj:j+k<U)(W:Nat)(hWV:W<V*4294967296)
 (hw:∀t,t<=k->u (t+j)=dg W t) (q:Nat) (hq:q=W/V) (u':Nat->Nat) (gK:u'=wn u j (dg (W%V)) (k+1)):
 ah P 147 [.slice 0 0 U cu,.slice 1 0 k cv,.int .i64 (.ofNat j)] [⟨0,hs u cu,88⟩,⟨1,hs v cv,88⟩] 2 [0] (fun w L n=>w= .int .u64 (.ofNat q)/\L=[⟨0,hs u' cu,88⟩]/\n=2):=by
 have yJ:=hv.le
 have hvt:0<v (p+1):=by
  rcases hv.tr with h|h
  ·omega
  ·rw[NP]at h;exact vF h
 have hG:Gs v p V W:=⟨by rw[<-NP];exact hv.v,fun a ha=>hv.w a (by omega),hvt,hWV⟩
 have I':V<4294967296^k:=hv.lt
 have hWk:W<4294967296^(k+1):=by rw[NP];exact hG.HN
 have ng:=hG.V0
 have hQB:=hG.QB
 obtain⟨v1,gD⟩:=aa (v (p+1))
 obtain⟨v2,mK⟩:=aa (v p)
 obtain⟨x0,kY⟩:=aa (dg W (p+2))
 obtain⟨x1,dR⟩:=aa (dg W (p+1))
 obtain⟨x2,eP⟩:=aa (dg W p)
 obtain⟨x,hx⟩:=aa (x0*4294967296+x1)
 have g1:=hG.g1
 have g2:=hG.g2
 have g3:=hG.top
 have g4:∀d,d<4294967296->d*(v1*4294967296+v2)<=x*4294967296+x2->d*V<=W+V:=fun d h1 h2=>hG.last h1 (by rw[hx,kY,dR,eP,gD,mK]at h2;exact h2)
 rw[<-kY,<-dR,<-gD,<-hx]at g1
 rw[<-kY,<-dR,<-eP,<-gD,<-mK,<-hx]at g2
 rw[<-kY,<-gD]at g3
 have lx0:x0<4294967296:=by rw[kY];exact gR _ _
 have yW:x1<4294967296:=by rw[dR];exact gR _ _
 have Oy:x2<4294967296:=by rw[eP];exact gR _ _
 have Ox:v1<4294967296:=by rw[gD];exact hv.w _ (by omega)
 have UT:v2<4294967296:=by rw[mK];exact hv.w _ (by omega)
 have pv1:0<v1:=by rw[gD];exact hvt
 obtain⟨jk,eM⟩:=aa (j+k)
 obtain⟨Oo,aa3⟩:=aa (j+k-1)
 obtain⟨Oq,aa4⟩:=aa (j+k-2)
 obtain⟨p1,tn⟩:=aa (p+1)
 have u0e:u jk=x0:=by rw[eM,kY,<-NP,oB];exact hw k (aE k)
 have u1e:u Oo=x1:=by rw[aa3,dR,show j+k-1=p+1+j by omega];exact hw _ (by omega)
 have u2e:u Oq=x2:=by rw[aa4,eP,show j+k-2=p+j by omega];exact hw _ (by omega)
 obtain⟨C,hC⟩:=aa (hs u cu)
 have bC:∀m,an m C=true:=fun m=>by rw[hC];exact dG u cu m
 obtain⟨E,hE⟩:=aa (hs v cv)
 have bE:∀m,an m E=true:=fun m=>by rw[hE];exact dG v cv m
 obtain⟨C',nV⟩:=aa (hs u' cu)
 have CY:∀m,an m C'=true:=fun m=>by rw[nV];exact dG u' cu m
 rw[<-hC,<-hE,<-nV]
 refine ah.dj (R:=fun w L n=>w= .int .u64 (.ofNat q)/\find L 0=some ⟨0,C',88⟩) ?_ fun w L n ⟨h1,h2⟩=>⟨_root_.id,.int .u64 (.ofNat q),[⟨0,C',88⟩],2,by subst h1;exact fD ⟨rfl,rfl,trivial⟩ ⟨h2,rfl,CY 2,trivial⟩ rfl rfl,rfl,rfl,rfl⟩
 refine aq hP Tryz.func147 ⟨ao rfl,⟨ao rfl,⟨trivial,trivial⟩⟩⟩ (by simpa [ay,bd]using⟨ak _ (bC 2),ak _ (bE 2)⟩) ?_
 intro A g K hA hg hK
 obtain⟨bin,sh,cmp,_,aX,ix,_,nz,_,_,_,_,_,_,nat,off,get,_,sub,eU⟩:=A
 have e0:nat k=Int.ofNat k:=fZ hA k
 have a1:bin .add .i64 (.ofNat j) (.ofNat k)=Int.ofNat jk:=(e_ hA (a:=j) (b:=k) (by omega)).trans (by rw[eM])
 have a2:bin .sub .i64 (.ofNat jk) 1=Int.ofNat Oo:=(er hA (a:=jk) (b:=1) (by omega) (by omega)).trans (by rw[aa3,eM])
 have a3:bin .sub .i64 (.ofNat jk) 2=Int.ofNat Oq:=(er hA (a:=jk) (b:=2) (by omega) (by omega)).trans (by rw[aa4,eM])
 have a4:bin .sub .i64 (.ofNat k) 1=Int.ofNat p1:=(er hA (a:=k) (b:=1) (by omega) (by omega)).trans (aK Int.ofNat (by omega))
 have a5:bin .sub .i64 (.ofNat k) 2=Int.ofNat p:=(er hA (a:=k) (b:=2) (by omega) (by omega)).trans (aK Int.ofNat (by omega))
 have e4:∀j,off 0 j 1=j:=fun j=>(dh hA 0 j 1).trans (by omega)
 have e5:∀i m,i<m->ix (.ofNat i) m=some i:=fun i m h=>bB hA h
 have f5:∀i,i<cu->get C i=some (.int .u32 (.ofNat (u i))):=fun i h=>by rw[hC];exact ei hA .u32 u h
 have c0:=f5 jk (by omega)
 have c1:=f5 Oo (by omega)
 have c2:=f5 Oq (by omega)
 rw[u0e]at c0
 rw[u1e]at c1
 rw[u2e]at c2
 have w5:∀i,i<k->get E i=some (.int .u32 (.ofNat (v i))):=fun i h=>by rw[hE];exact ei hA .u32 v (by omega)
 have w1:=w5 p1 (by omega)
 have w2:=w5 p (by omega)
 rw[tn,<-gD,<-tn]at w1
 rw[<-mK]at w2
 have cc:∀a,a<4294967296->aX .u64 (.ofNat a)=Int.ofNat a:=fun a h=>C_ hA (by omega)
 obtain⟨xs,nv⟩:=aa (x0*4294967296)
 have b1:sh .shl .u64 (.ofNat x0) 32=Int.ofNat xs:=(mP hA (k:= .u64) rfl x0 (s:=32) (by decide)).trans (aK Int.ofNat (by rw[nv];show x0*4294967296%0x10000000000000000=_;omega))
 have b2:bin .or .u64 (.ofNat xs) (.ofNat x1)=Int.ofNat x:=(l9 hA (k:= .u64) rfl (a:=xs) (b:=x1) (by show xs<0x10000000000000000;omega) (by show x1<0x10000000000000000;omega)).trans (aK Int.ofNat (by rw[hx,nv,show(4294967296:Nat)=2^32 from rfl,oy (s:=32) yW]))
 have b3:nz (.ofNat v1)=true:=OJ hA (by omega)
 obtain⟨d0,mA⟩:=aa (x/v1)
 obtain⟨r0,cC⟩:=aa (x%v1)
 have b4:bin .quo .u64 (.ofNat x) (.ofNat v1)=Int.ofNat d0:=(VI hA (k:= .u64) rfl (a:=x) (by show x<0x10000000000000000;omega) v1).trans (by rw[mA])
 have b5:bin .rem .u64 (.ofNat x) (.ofNat v1)=Int.ofNat r0:=(pJ hA (k:= .u64) x v1).trans (by rw[cC])
 have ajB:d0*v1+r0=x:=by rw[mA,cC,bJ];exact gN x v1
 have D7:r0<v1:=by rw[cC];exact ax _ pv1
 have ajA:W/V<=d0:=by rw[mA];exact(Fj pv1).2 g1
 have ajC:d0<=x:=by rw[mA];exact gq _ _
 cbv
 rw[e0]
 cbv
 refine cf hP hA hg fun mk _=> ?_
 cbv
 rw[a1]
 cbv
 rw[e5 jk U (by omega)]
 cbv
 rw[e4,c0]
 cbv
 rw[cc x0 lx0]
 cbv
 rw[b1]
 cbv
 rw[a1]
 cbv
 rw[a2]
 cbv
 rw[e5 Oo U (by omega)]
 cbv
 rw[e4,c1]
 cbv
 rw[cc x1 yW]
 cbv
 rw[b2]
 cbv
 refine cf hP hA hg fun mk _=> ?_
 cbv
 rw[a4]
 cbv
 rw[e5 p1 k (by omega)]
 cbv
 rw[e4,w1]
 cbv
 rw[cc v1 Ox]
 cbv
 rw[b3]
 cbv
 rw[b4]
 cbv
 rw[a4]
 cbv
 rw[e5 p1 k (by omega)]
 cbv
 rw[e4,w1]
 cbv
 rw[cc v1 Ox]
 cbv
 rw[b3]
 cbv
 rw[b5]
 cbv
 refine bH (Nat×Nat) (fun s=>W/V<=s.1/\s.1*v1+s.2=x/\s.2<4294967296/\s.1<=x) (fun s=>s.1) (fun s=> [(9,.int .u64 (.ofNat s.1)),(10,.int .u64 (.ofNat s.2))]) [0,1,2,6,7] (fun _=> []) (d0,r0) ⟨ajA,ajB,by show r0<_;omega,ajC⟩ ?_ ?_
 ·exact aS (by repeat' (first|exact trivial|refine⟨rfl,rfl,rfl,?_⟩|refine⟨rfl,rfl,bC 2,?_⟩|refine⟨rfl,rfl,bE 2,?_⟩))
 rintro⟨d,r⟩ ⟨Nv,Nz,iW,jt⟩
 change W/V<=d at Nv
 change d*v1+r=x at Nz
 change r<4294967296 at iW
 change d<=x at jt
 have Km:x<0x10000000000000000:=by omega
 obtain⟨rs,mI⟩:=aa (r*4294967296)
 obtain⟨rx,J9⟩:=aa (rs+x2)
 obtain⟨dm,S'⟩:=aa (d*v2)
 have t1:sh .shl .u64 (.ofNat r) 32=Int.ofNat rs:=(mP hA (k:= .u64) rfl r (s:=32) (by decide)).trans (aK Int.ofNat (by rw[mI];show r*4294967296%0x10000000000000000=_;omega))
 have t2:bin .or .u64 (.ofNat rs) (.ofNat x2)=Int.ofNat rx:=(l9 hA (k:= .u64) rfl (a:=rs) (b:=x2) (by show rs<0x10000000000000000;omega) (by show x2<0x10000000000000000;omega)).trans (aK Int.ofNat (by rw[J9,mI,show(4294967296:Nat)=2^32 from rfl,oy (s:=32) Oy]))
 have t3:d<4294967296->bin .mul .u64 (.ofNat d) (.ofNat v2)=Int.ofNat dm:=fun h=>(EA hA (k:= .u64) rfl d v2).trans (aK Int.ofNat (by
  have:d*v2<=4294967295*4294967295:=mV (by omega) (by omega)
  rw[S'];exact aO (by show d*v2<0x10000000000000000;omega)))
 cbv
 refine cf hP hA hg fun mk _=> ?_
 cbv
 by_cases ju:4294967296<=d
 focus
  have DU:=aaE Nz hx hQB Nv g2 (Or.inl ju)
  rw[show cmp .geq (.ofNat d) 4294967296=true from kC hA (b:=4294967296) ju]
  cbv
  obtain⟨kF,cQ,eO⟩:=DU
  obtain⟨d',aA⟩:=aa (d-1)
  obtain⟨r',w6⟩:=aa (r+v1)
  rw[<-aA]at cQ eO
  rw[<-w6]at eO
  have s1:bin .sub .u64 (.ofNat d) 1=Int.ofNat d':=xF hA (b:=1) (by omega) (by omega) aA
  have s2:bin .add .u64 (.ofNat r) (.ofNat v1)=Int.ofNat r':=qO hA (by omega) w6
  rw[s1]
  cbv
  rw[a4]
  cbv
  rw[e5 p1 k (by omega)]
  cbv
  rw[e4,w1]
  cbv
  rw[cc v1 Ox]
  cbv
  rw[s2]
  cbv
  by_cases eE:4294967296<=r'
  rotate_left
  focus
   rw[show cmp .geq (.ofNat r') 4294967296=false from qW hA (b:=4294967296) eE]
   cbv
   refine⟨(d',r'),_root_.id,⟨cQ,eO,by show r'<4294967296;omega,by show d'<=x;omega⟩,(by show d'<d;omega),?_⟩
   exact aS (by repeat' (first|exact trivial|refine⟨rfl,rfl,rfl,?_⟩|refine⟨rfl,rfl,bC 2,?_⟩|refine⟨rfl,rfl,bE 2,?_⟩))
  obtain⟨Af,yP⟩:=aaD (x2:=x2) eO hx yW g3 eE UT
  have tf:=g4 d' Af (RA eO yP)
  rw[show cmp .geq (.ofNat r') 4294967296=true from kC hA (b:=4294967296) eE]
  cbv
 rotate_left
 focus
  rw[show cmp .geq (.ofNat d) 4294967296=false from qW hA (b:=4294967296) ju]
  cbv
  rw[a5]
  cbv
  rw[e5 p k (by omega)]
  cbv
  rw[e4,w2]
  cbv
  rw[cc v2 UT]
  cbv
  rw[t3 (by omega)]
  cbv
  rw[t1]
  cbv
  rw[a1]
  cbv
  rw[a3]
  cbv
  rw[e5 Oq U (by omega)]
  cbv
  rw[e4,c2]
  cbv
  rw[cc x2 Oy]
  cbv
  rw[t2]
  cbv
  by_cases TD:rx<dm
  rotate_left
  focus
   obtain⟨d',aA⟩:=aa d
   have Af:d'<4294967296:=by omega
   have cQ:W/V<=d':=by rw[aA];exact Nv
   have tf:d'*V<=W+V:=by rw[aA]at Af⊢;exact g4 d Af (RA Nz (by rw[<-S',<-mI,<-J9];omega))
   rw[show cmp .gtr (.ofNat dm) (.ofNat rx)=false from jV hA TD]
   rw[<-aA]
   cbv
  rotate_left
  focus
   have DU:=aaE Nz hx hQB Nv g2 (Or.inr (by rw[<-S',<-mI,<-J9];exact TD))
   rw[show cmp .gtr (.ofNat dm) (.ofNat rx)=true from po hA TD]
   cbv
   obtain⟨kF,cQ,eO⟩:=DU
   obtain⟨d',aA⟩:=aa (d-1)
   obtain⟨r',w6⟩:=aa (r+v1)
   rw[<-aA]at cQ eO
   rw[<-w6]at eO
   have s1:bin .sub .u64 (.ofNat d) 1=Int.ofNat d':=xF hA (b:=1) (by omega) (by omega) aA
   have s2:bin .add .u64 (.ofNat r) (.ofNat v1)=Int.ofNat r':=qO hA (by omega) w6
   rw[s1]
   cbv
   rw[a4]
   cbv
   rw[e5 p1 k (by omega)]
   cbv
   rw[e4,w1]
   cbv
   rw[cc v1 Ox]
   cbv
   rw[s2]
   cbv
   by_cases eE:4294967296<=r'
   rotate_left
   focus
    rw[show cmp .geq (.ofNat r') 4294967296=false from qW hA (b:=4294967296) eE]
    cbv
    refine⟨(d',r'),_root_.id,⟨cQ,eO,by show r'<4294967296;omega,by show d'<=x;omega⟩,(by show d'<d;omega),?_⟩
    exact aS (by repeat' (first|exact trivial|refine⟨rfl,rfl,rfl,?_⟩|refine⟨rfl,rfl,bC 2,?_⟩|refine⟨rfl,rfl,bE 2,?_⟩))
   obtain⟨Af,yP⟩:=aaD (x2:=x2) eO hx yW g3 eE UT
   have tf:=g4 d' Af (RA eO yP)
   rw[show cmp .geq (.ofNat r') 4294967296=true from kC hA (b:=4294967296) eE]
   cbv
 all_goals
  obtain⟨D,hD⟩:=aa (V*d')
  obtain⟨X',dO⟩:=aa (W+4294967296^(k+1))
  obtain⟨Ee,R2⟩:=aa (X'-D)
  have hDl:D<4294967296^(k+1):=by rw[hD,br];exact CS I' Af
  have hDX:D<=X':=by omega
  obtain⟨cy,ir⟩:=aa (fun i=>AV V d' i:Nat->Nat)
  obtain⟨bo,Jl⟩:=aa (fun i=>pR X' D i:Nat->Nat)
  obtain⟨Wf,SI⟩:=aa (dg W)
  obtain⟨Df,M7⟩:=aa (dg D)
  obtain⟨Ef,IJ⟩:=aa (dg Ee)
  have zE:cy 0=0:=by rw[ir];exact alu V d'
  have bo0:bo 0=0:=by rw[Jl];exact Y9 X' D
  have oJ:∀i,cy i<4294967296:=fun i=>by rw[ir];exact acC V i Af
  have bol:∀i,bo i<=1:=fun i=>by rw[Jl];exact Qu X' D i
  have oT:∀i z,i<k->z=d'*v i+cy i->Df i=z%4294967296/\cy (i+1)=z/4294967296:=fun i z h hz=>by
   rw[M7,hD,ir];exact acE V d' i z (by rw[hz,ir,hv.eJ h,bJ])
  have hdk:Df k=cy k:=by
   rw[M7,hD,(acE V d' k _ rfl).1,hv.pj (aE k),fE,dB,ir]
   exact aO (acC V k Af)
  have hXd:∀i,i<=k->dg X' i=Wf i:=fun i h=>by rw[dO,SI,<-fN (4294967296^(k+1))];exact Io (by omega)
  have aaR:∀i s,i<=k->s=Wf i+4294967296-Df i-bo i->Ef i=s%4294967296/\bo (i+1)=1-s/4294967296:=fun i s h hs=>by
   rw[IJ,R2,Jl];exact Z5 i hDX s (by rw[hs,<-hXd i h,M7,Jl])
  have lA:bo (k+1)=if W<D then 1 else 0:=by
   rw[Jl];show pR X' D (k+1)=_
   unfold pR
   rw[dO,vg,aO hWk,aO hDl]
  have lW:∀i,Wf i<4294967296:=fun i=>by rw[SI];exact gR _ _
  have lD:∀i,Df i<4294967296:=fun i=>by rw[M7];exact gR _ _
  have lE:∀i,Ef i<4294967296:=fun i=>by rw[IJ];exact gR _ _
  obtain⟨R,hR⟩:=aa (fun i=>hs (wn u j Ef i) cu:Nat->List SV)
  have bR:∀m i,an m (R i)=true:=fun m i=>by rw[hR];exact dG _ _ m
  have I2:C=R 0:=by rw[hR,hC];show _=hs (wn u j Ef 0) cu;rw[aeK]
  have r5:∀i ij,ij=i+j->i<=k->get (R i) ij=some (.int .u32 (.ofNat (Wf i))):=fun i ij h h2=>by
   have e:wn u j Ef i ij=Wf i:=by rw[h,aeI u j Ef i i (aE i),hw i h2,SI]
   rw[<-e,hR];exact ei hA .u32 (wn u j Ef i) (by omega)
  have r6:∀i ij z,ij=i+j->i<=k->z=Ef i->eU (R i) ij [.int .u32 (.ofNat z)]=some (R (i+1)):=fun i ij z h h2 hz=>by
   subst h;rw[hR];exact gX hA .u32 (n:=cu) (wn u j Ef i) (wn u j Ef (i+1)) (by omega) (aeJ u j Ef i z hz)
  have a6:∀i ij,ij=i+j->i<=k->bin .add .i64 (.ofNat i) (.ofNat j)=Int.ofNat ij:=fun i ij h h2=>(e_ hA (a:=i) (b:=j) (by omega)).trans (by rw[h])
  have a7:∀i,i<k->cmp .lss (.ofNat i) (.ofNat k)=true:=fun i h=>cZ hA h
  have YN:cmp .lss (.ofNat k) (.ofNat k)=false:=bM hA (iO k)
  have a8:∀i,i<k->bin .add .i64 (.ofNat i) 1=Int.ofNat (i+1):=fun i h=>e_ hA (a:=i) (b:=1) (by omega)
  rw[I2]
  refine bH Nat (fun i=>i<=k) (fun i=>k-i) (fun i=> [(11,.int .u64 (.ofNat (cy i))),(12,.int .u64 (.ofNat (bo i))),(13,.int .i64 (.ofNat i))]) [0,1,2,6,7,9] (fun i=> [(0,R i)]) 0 (bf _) ?_ ?_
  focus
   rw[zE,bo0]
   exact aS (by repeat' (first|exact trivial|refine⟨rfl,rfl,rfl,?_⟩|refine⟨rfl,rfl,bR 2 0,?_⟩|refine⟨rfl,rfl,bE 2,?_⟩))
  intro i hi
  by_cases ab:i<k
  focus
   obtain⟨ij,DR⟩:=aa (i+j)
   obtain⟨vi,yR⟩:=aa (v i)
   obtain⟨z1,qv⟩:=aa (d'*vi)
   obtain⟨z2,Et⟩:=aa (z1+cy i)
   obtain⟨z3,Kr⟩:=aa (z2%4294967296)
   obtain⟨y1,fz⟩:=aa (Wf i+4294967296)
   obtain⟨y2,gL⟩:=aa (y1-z3)
   obtain⟨y3,qu⟩:=aa (y2-bo i)
   obtain⟨y4,AK⟩:=aa (y3%4294967296)
   obtain⟨y5,AL⟩:=aa (y3/4294967296)
   have l1:=oJ i
   have l2:=bol i
   have l3:=lW i
   have l4:vi<4294967296:=by rw[yR];exact hv.w i (by omega)
   have l5:z1<=4294967295*4294967295:=by rw[qv];exact mV (by omega) (by omega)
   obtain⟨q1,q2⟩:=oT i z2 ab (by rw[Et,qv,yR])
   obtain⟨q3,q4⟩:=aaR i y3 hi (by rw[qu,gL,fz,Kr,q1])
   have m1:bin .mul .u64 (.ofNat d') (.ofNat vi)=Int.ofNat z1:=(EA hA (k:= .u64) rfl d' vi).trans (aK Int.ofNat (by rw[<-qv];exact aO (by show z1<0x10000000000000000;omega)))
   have m2:bin .add .u64 (.ofNat z1) (.ofNat (cy i))=Int.ofNat z2:=qO hA (by omega) Et
   have m3:sh .shr .u64 (.ofNat z2) 32=Int.ofNat (cy (i+1)):=yI hA q2
   have m4:bin .add .u64 (.ofNat (Wf i)) 4294967296=Int.ofNat y1:=qO hA (b:=4294967296) (by omega) fz
   have m5:bin .and .u64 (.ofNat z2) 4294967295=Int.ofNat z3:=uL hA (by omega) Kr
   have m6:bin .sub .u64 (.ofNat y1) (.ofNat z3)=Int.ofNat y2:=xF hA (by omega) (by omega) gL
   have m7:bin .sub .u64 (.ofNat y2) (.ofNat (bo i))=Int.ofNat y3:=xF hA (by omega) (by omega) qu
   have m8:bin .and .u64 (.ofNat y3) 4294967295=Int.ofNat y4:=uL hA (by omega) AK
   have m9:aX .u32 (.ofNat y4)=Int.ofNat y4:=jr hA (by omega)
   have m10:sh .shr .u64 (.ofNat y3) 32=Int.ofNat y5:=yI hA AL
   have m11:bin .sub .u64 1 (.ofNat y5)=Int.ofNat (bo (i+1)):=xF hA (a:=1) (by omega) (by omega) (by rw[q4,AL])
   have n1:=r5 i ij DR hi
   have n2:=r6 i ij y4 DR hi (by rw[AK,q3])
   have n3:=a6 i ij DR hi
   have n4:=w5 i ab
   rw[<-yR]at n4
   obtain⟨cn,nh⟩:=aa (cy (i+1))
   obtain⟨bn,Jk⟩:=aa (bo (i+1))
   obtain⟨Rn,Dz⟩:=aa (R (i+1))
   rw[<-nh]at m3
   rw[<-Jk]at m11
   rw[<-Dz]at n2
   cbv
   rw[a7 i ab]
   cbv
   rw[e5 i k ab]
   cbv
   rw[e4,n4]
   cbv
   rw[cc vi l4]
   cbv
   rw[m1]
   cbv
   rw[m2]
   cbv
   rw[m3]
   cbv
   rw[n3]
   cbv
   rw[e5 ij U (by omega)]
   cbv
   rw[e4,n1]
   cbv
   rw[cc _ l3]
   cbv
   rw[m4]
   cbv
   rw[m5]
   cbv
   rw[m6]
   cbv
   rw[m7]
   cbv
   rw[n3]
   cbv
   rw[m8]
   cbv
   rw[m9]
   cbv
   rw[e5 ij U (by omega)]
   cbv
   rw[e4,n2]
   cbv
   rw[m10]
   cbv
   rw[m11]
   cbv
   rw[a8 i ab]
   refine⟨i+1,_root_.id,ab,(by show k-(i+1)<k-i;omega),?_⟩
   rw[nh,Jk,Dz]
   exact aS (by repeat' (first|exact trivial|refine⟨rfl,rfl,rfl,?_⟩|refine⟨rfl,rfl,bR 2 (i+1),?_⟩|refine⟨rfl,rfl,bE 2,?_⟩))
  have fV:k=i:=by omega
  subst fV
  obtain⟨y1,fz⟩:=aa (Wf k+4294967296)
  obtain⟨y2,gL⟩:=aa (y1-cy k)
  obtain⟨y3,qu⟩:=aa (y2-bo k)
  obtain⟨y4,AK⟩:=aa (y3%4294967296)
  obtain⟨y5,AL⟩:=aa (y3/4294967296)
  have l1:=oJ k
  have l2:=bol k
  have l3:=lW k
  obtain⟨q3,q4⟩:=aaR k y3 (aE k) (by rw[qu,gL,fz,hdk])
  have m4:bin .add .u64 (.ofNat (Wf k)) 4294967296=Int.ofNat y1:=qO hA (b:=4294967296) (by omega) fz
  have m6:bin .sub .u64 (.ofNat y1) (.ofNat (cy k))=Int.ofNat y2:=xF hA (by omega) (by omega) gL
  have m7:bin .sub .u64 (.ofNat y2) (.ofNat (bo k))=Int.ofNat y3:=xF hA (by omega) (by omega) qu
  have m8:bin .and .u64 (.ofNat y3) 4294967295=Int.ofNat y4:=uL hA (by omega) AK
  have m9:aX .u32 (.ofNat y4)=Int.ofNat y4:=jr hA (by omega)
  have m10:sh .shr .u64 (.ofNat y3) 32=Int.ofNat y5:=yI hA AL
  have NM:jk=k+j:=by omega
  have n1:=r5 k jk NM (aE k)
  have n2:=r6 k jk y4 NM (aE k) (by rw[AK,q3])
  obtain⟨kn,wO⟩:=aa (k+1)
  rw[<-wO]at n2 q4 lA
  cbv
  rw[YN]
  cbv
  rw[a1]
  cbv
  rw[e5 jk U (by omega)]
  cbv
  rw[e4,n1]
  cbv
  rw[cc _ l3]
  cbv
  rw[m4]
  cbv
  rw[m6]
  cbv
  rw[m7]
  cbv
  rw[a1]
  cbv
  rw[m8]
  cbv
  rw[m9]
  cbv
  rw[e5 jk U (by omega)]
  cbv
  rw[e4,n2]
  cbv
  rw[m10]
  cbv
  by_cases hWD:W<D
  rotate_left
  focus
   rw[af hWD]at lA
   have hy:y5=1:=by omega
   obtain⟨t1,t2⟩:=aqK (k:=k+1) ng cQ (by rw[bJ,<-hD];omega)
   have hRC:R kn=C':=by
    rw[hR,nV,gK,wO];show hs (wn u j Ef (k+1)) cu=_
    rw[aeH u j (h:=Ef) (h':=dg (W%V)) (fun t ht=>by rw[<-t2 t ht,IJ,R2,dO,hD])]
   rw[show cmp .eql (.ofNat y5) 1=true from iP hA (b:=1) hy]
   rw[hRC]
   cbv
   refine hK _ _ _ ⟨?_,rfl⟩
   rw[hq,<-t1]
   rfl
  rw[aj hWD]at lA
  have hy:y5=0:=by omega
  rw[show cmp .eql (.ofNat y5) 1=false from ja hA (b:=1) (by omega)]
  cbv
  obtain⟨t1,t0,t2⟩:=aqI (k:=k+1) ng (eH (ku I') (cV (by decide) (vu k))) tf (by rw[bJ,<-hD];omega) (by rw[bJ,<-hD];exact hDl)
  obtain⟨Ff,R4⟩:=aa (dg (Ee+V))
  obtain⟨cz,Jq⟩:=aa (fun i=>sG Ee V i:Nat->Nat)
  have cz0:cz 0=0:=by rw[Jq];exact Q6 Ee V
  have ZV:∀i,cz i<=1:=fun i=>by rw[Jq];exact Il Ee V i
  have Ax:∀i z,i<k->z=Ef i+v i+cz i->Ff i=z%4294967296/\cz (i+1)=z/4294967296:=fun i z h hz=>by
   rw[R4,Jq];exact Hc Ee V i z (by rw[hz,IJ,hv.eJ h,Jq])
  have pE:Ff k=(Ef k+cz k)%4294967296:=by
   rw[R4,(Hc Ee V k _ rfl).1,hv.pj (aE k),gY,IJ,Jq]
  obtain⟨S,hS⟩:=aa (fun i=>hs (wn (wn u j Ef kn) j Ff i) cu:Nat->List SV)
  have bS:∀m i,an m (S i)=true:=fun m i=>by rw[hS];exact dG _ _ m
  have sP:R kn=S 0:=by rw[hS,hR];show hs (wn u j Ef kn) cu=hs (wn _ j Ff 0) cu;rw[aeK]
  have hSC:S kn=C':=by
   rw[hS,nV,gK,wO];show hs (wn (wn u j Ef (k+1)) j Ff (k+1)) cu=_
   rw[arb,aeH u j (h:=Ff) (h':=dg (W%V)) (fun t ht=>by rw[<-t2 t ht,R4,R2,dO,hD])]
  have s5:∀i ij,ij=i+j->i<=k->get (S i) ij=some (.int .u32 (.ofNat (Ef i))):=fun i ij h h2=>by
   have e:wn (wn u j Ef kn) j Ff i ij=Ef i:=by rw[h,aeI _ j Ff i i (aE i),ara u j Ef kn i (by omega)]
   rw[<-e,hS];exact ei hA .u32 (wn (wn u j Ef kn) j Ff i) (by omega)
  have s6:∀i ij z,ij=i+j->i<=k->z=Ff i->eU (S i) ij [.int .u32 (.ofNat z)]=some (S (i+1)):=fun i ij z h h2 hz=>by
   subst h;rw[hS];exact gX hA .u32 (n:=cu) (wn (wn u j Ef kn) j Ff i) (wn (wn u j Ef kn) j Ff (i+1)) (by omega) (aeJ _ j Ff i z hz)
  rw[sP]
  refine bH Nat (fun i=>i<=k) (fun i=>k-i) (fun i=> [(11,.int .u64 (.ofNat (cz i))),(17,.int .i64 (.ofNat i))]) [0,1,2,6,7,9] (fun i=> [(0,S i)]) 0 (bf _) ?_ ?_
  focus
   rw[cz0]
   exact aS (by repeat' (first|exact trivial|refine⟨rfl,rfl,rfl,?_⟩|refine⟨rfl,rfl,bS 2 0,?_⟩|refine⟨rfl,rfl,bE 2,?_⟩))
  intro i hi
  by_cases ab:i<k
  focus
   obtain⟨ij,DR⟩:=aa (i+j)
   obtain⟨vi,yR⟩:=aa (v i)
   obtain⟨z1,qv⟩:=aa (Ef i+vi)
   obtain⟨z2,Et⟩:=aa (z1+cz i)
   obtain⟨z3,Kr⟩:=aa (z2%4294967296)
   have l1:=ZV i
   have l3:=lE i
   have l4:vi<4294967296:=by rw[yR];exact hv.w i (by omega)
   obtain⟨q1,q2⟩:=Ax i z2 ab (by rw[Et,qv,yR])
   have m1:bin .add .u64 (.ofNat (Ef i)) (.ofNat vi)=Int.ofNat z1:=qO hA (by omega) qv
   have m2:bin .add .u64 (.ofNat z1) (.ofNat (cz i))=Int.ofNat z2:=qO hA (by omega) Et
   have m3:sh .shr .u64 (.ofNat z2) 32=Int.ofNat (cz (i+1)):=yI hA q2
   have m5:bin .and .u64 (.ofNat z2) 4294967295=Int.ofNat z3:=uL hA (by omega) Kr
   have m6:aX .u32 (.ofNat z3)=Int.ofNat z3:=jr hA (by omega)
   have n1:=s5 i ij DR hi
   have n2:=s6 i ij z3 DR hi (by rw[Kr,q1])
   have n3:=a6 i ij DR hi
   have n4:=w5 i ab
   rw[<-yR]at n4
   obtain⟨cn,nh⟩:=aa (cz (i+1))
   obtain⟨Sn,F8⟩:=aa (S (i+1))
   rw[<-nh]at m3
   rw[<-F8]at n2
   cbv
   rw[a7 i ab]
   cbv
   refine cf hP hA hg fun mk _=> ?_
   cbv
   rw[n3]
   cbv
   rw[e5 ij U (by omega)]
   cbv
   rw[e4,n1]
   cbv
   rw[cc _ l3]
   cbv
   rw[e5 i k ab]
   cbv
   rw[e4,n4]
   cbv
   rw[cc vi l4]
   cbv
   rw[m1]
   cbv
   rw[m2]
   cbv
   rw[n3]
   cbv
   rw[m5]
   cbv
   rw[m6]
   cbv
   rw[e5 ij U (by omega)]
   cbv
   rw[e4,n2]
   cbv
   rw[m3]
   cbv
   rw[a8 i ab]
   refine⟨i+1,_root_.id,ab,(by show k-(i+1)<k-i;omega),?_⟩
   rw[nh,F8]
   exact aS (by repeat' (first|exact trivial|refine⟨rfl,rfl,rfl,?_⟩|refine⟨rfl,rfl,bS 2 (i+1),?_⟩|refine⟨rfl,rfl,bE 2,?_⟩))
  have fV:k=i:=by omega
  subst fV
  obtain⟨w3,yS⟩:=aa (Ff k)
  have n1:=s5 k jk NM (aE k)
  have n2:=s6 k jk w3 NM (aE k) yS
  rw[<-wO,hSC]at n2
  have m1:aX .u32 (.ofNat (cz k))=Int.ofNat (cz k):=jr hA (by have:=ZV k;omega)
  have m2:bin .add .u32 (.ofNat (Ef k)) (.ofNat (cz k))=Int.ofNat w3:=(tX hA (k:= .u32) rfl (Ef k) (cz k)).trans (by rw[yS,pE];rfl)
  have m3:bin .sub .u64 (.ofNat d') 1=Int.ofNat q:=xF hA (b:=1) (by omega) (by omega) (by rw[hq,t1])
  cbv
  rw[YN]
  cbv
  rw[a1]
  cbv
  rw[e5 jk U (by omega)]
  cbv
  rw[e4,n1]
  cbv
  rw[m1]
  cbv
  rw[m2]
  cbv
  rw[e5 jk U (by omega)]
  cbv
  rw[e4,n2]
  cbv
  rw[m3]
  cbv
  exact hK _ _ _ ⟨rfl,rfl⟩
end Go.Proofs.YtfocopihipejfaaGreat
namespace Go.Vg
open Go.RowKit Go.Lib
section
variable {P:Program}{g:G}{T:Nat->Option Ty}{F:FF}{L:LL}{n:Nat}
theorem apK{W:World}{dT sT ty elem:TypeId}{gb dLen dCap:Nat}{cur:Array Value}{t:TypeId}{mk:Nat×Nat}(hu:P.underlying dT=some (.slice elem)){i:TypeInfo}(hi:P.info? elem=some i)(hs:i.size=1)(hg:W.heap[gb]? =some (.cells cur t mk))(fJ:rO mk cur.size)
 (ad:Addr) (m c:Nat) (news:List Value) (hl:news.length=m) (wR:∀j v,news[j]? =some v->W.cell? (ad.add j)=some v) (h1:∀u∈news,u.oneCell'=true) (hle:m<=dLen) (rf:m<=cur.size):
 (Builtin.copy_ #[dT,sT] ty #[.slice (some ⟨gb,0,none⟩) dLen dCap,.slice (some ad) m c]).run P W= .ok (goInt m) (W.setRow gb (news++cur.toList.drop m).toArray):=by
 have aW:=EI (P:=P) gb 0 t mk news 0 cur W hg fJ (by simpa [hl]using rf) h1
 have wQ:Nat.min m dLen=m:=tS hle
 have hf:=run_firstCells_some (P:=P) W 1 m ad m c news (by omega) wR
 simp only[gY,hl,dB,HA,cM]at aW
 simp[Builtin.copy_,run_underlying hu,Builtin.lenOf,sizeOf,typeInfo,hi,hs,wQ,hf]
 rw[aW]
 simp[Result.andThen]
theorem aqC(hT:cI P T){o:Oper}{m0 N:Nat}{ms:List Nat}(hg:GI g m0 ms N)(aA:dD N o.dst=true){s x:Operand}{t u:Nat}(ho:o.op= .call {callee:= .builtin .copy,args:= #[s,x],argTypes:= #[t,u]})
 {i:Ty} (ht:T t=some i) {e:Nat} (hd:i.d= .sl e 1) {l n1 c:Nat} (hs:ev (look F) s=some (.slice l 0 n1 c)) {cs:List SV} {tb:TypeId} (hl:find L l=some ⟨l,cs,tb⟩) (c_:own m0 ms l=true)
 {k m mc:Nat} (hx:ev (look F) x=some (.slice k 0 m mc)) {ds:List SV} {tk:TypeId} (hk:find L k=some ⟨k,ds,tk⟩) (jE:m<=ds.length) (tj:nH (ds.take m)=true) (h1:m<=n1) (h2:m<=cs.length) {K:FF->LL->Nat->Prop}
 (hK:K (cH F o.dst (.int .i64 (.ofNat m))) (me L l (ds.take m++cs.drop m)) n):Step g P o K F L n:=by
 obtain⟨hu,aJ⟩:=ma hT ht hd
 have JH:∃info,P.info? e=some info/\info.size=1:=by
  unfold lJ at aJ
  cases hq:P.info? e with
  |none=>simp[hq]at aJ
  |some info=>exact⟨info,rfl,by simpa [hq]using aJ⟩
 obtain⟨info,hi,dQ⟩:=JH
 have oh:(ds.take m).length=m:=by rw[eY];omega
 have ot:splice cs 0 (ds.take m)=ds.take m++cs.drop m:=by rw[splice,oh,HA,cM,dB]
 rw[<-hg.n0,<-hg.ms]at c_
 refine xE hg aA fun β a W hm hf=> ?_
 obtain⟨e1,b1⟩:=cq hf hs
 obtain⟨e2,b2⟩:=cq hf hx
 obtain⟨mk,fJ,js⟩:=hm.cell l _ hl
 have iz:ay (fun l=>l<n) (ds.take m):=by
  have:=xZ (hm.bL k _ hk).2 0 m
  rwa [lh]at this
 have aW:=hm.store (o:=0) hl (vs:=ds.take m) (by show 0+_<=cs.length;rw[oh];omega) c_ iz
 rw[show ic (find L) l ⟨l,splice cs 0 (ds.take m),tb⟩=find (me L l (splice cs 0 (ds.take m)))from by
  funext q
  rw[wu]
  simp only[ic,hl]
  rfl]at aW
 have Nu:=cells_from hm hk 0 m
 rw[show((⟨k,ds,tk⟩:aC).cs.drop 0).take m=ds.take m from by rw[lh]]at Nu
 have gA:(execOp a.eval o).run P W= .ok (.value (den β (.int .i64 (.ofNat m)))) (W.setRow (β l) (aM β (splice cs 0 (ds.take m))).toArray):=by
  refine VP ho ?_
  rw[e1,e2]
  have:=apK (P:=P) (ty:=o.type) (sT:=u) (dLen:=n1) (dCap:=c) hu hi dQ js (by simpa [cO]using fJ c_) ⟨β k,0,none⟩ m mc (aM β (ds.take m)) (by rw[cO,fL,oh]) Nu (fun w hw=>by
   rw[cO]at hw
   obtain⟨y,hy,rfl⟩:=iZ.1 hw
   exact one_den β (KX tj y hy)) h1 (by
   simp only[CM,cO,fL]
   omega)
  simp only[den]
  rw[this,Cx]
  simp[cO,oh,goInt]
 refine⟨_,_,me L l (splice cs 0 (ds.take m)),n,β,gA,aW,fun _ _=>rfl,aE n,trivial,by rw[ot];exact hK⟩
end
theorem TQ(f:Nat->Nat)(c:Nat):(hs f c).length=c:=tB _ _ _ _
theorem abt(f:Nat->Nat)(c m:Nat):nH ((hs f c).take m)=true:=by
 have:∀l:List SV,(∀v∈l,∃x,v= .int .u32 x)->nH l=true:=fun l=>by
  induction l with
  |nil=>intro _;rfl
  |cons a l ih=>
   intro h
   obtain⟨x,rfl⟩:=h a kd
   exact ih fun v hv=>h v (lj _ hv)
 refine this _ fun v hv=> ?_
 have hv:=xO hv
 have:∀n s,v∈aw .u32 (fun j=>Int.ofNat (f j)) s n->∃x,v= .int .u32 x:=fun n=>by
  induction n with
  |zero=>intro s h;cases h
  |succ n ih=>
   intro s h
   rcases List.mem_cons.1 h with h|h
   ·exact⟨_,h⟩
   ·exact ih _ h
 exact this c 0 hv
theorem acm(K:IntKind)(f:Nat->Int):∀m s n,m<=n->(aw K f s n).take m=aw K f s m
 |0,_,_,_=>by rw[HA];rfl
 |m+1,s,0,h=>absurd h (Nat.not_succ_le_zero m)
 |m+1,s,n+1,h=>by rw[aw,aw,LU,acm K f m (s+1) n (by omega)]
theorem acj(K:IntKind)(f:Nat->Int):∀m s n,(aw K f s (m+n)).drop m=aw K f (s+m) n
 |0,_,_=>by rw[lh,dB,gY]
 |m+1,s,n=>by rw[show m+1+n=(m+n)+1 by omega,aw,List.drop_succ_cons,acj K f m (s+1) n,show s+1+m=s+(m+1) by omega]
theorem aci(K:IntKind)(f:Nat->Int):∀m s n,aw K f s m++aw K f (s+m) n=aw K f s (m+n)
 |0,_,_=>by rw[dB,gY];rfl
 |m+1,s,n=>by rw[show m+1+n=(m+n)+1 by omega,aw,aw,du,show s+(m+1)=s+1+m by omega,aci K f m (s+1) n]
theorem abr{y m c n1:Nat}(h:Nm m c (dg y) y)(hn:m<=n1):(hs (dg y) c).take m++(hs (fun _=>0) n1).drop m=hs (dg y) n1:=by
 unfold hs
 rw[acm _ _ _ _ _ h.le]
 obtain⟨d,rfl⟩:∃d,n1=m+d:=⟨n1-m,by omega⟩
 rw[acj]
 have e:aw .u32 (fun _=>Int.ofNat 0) (0+m) d=aw .u32 (fun j=>Int.ofNat (dg y j)) (0+m) d:=rK fun j hj _=>by rw[h.pj (by omega)]
 rw[e,aci]
end Go.Vg
namespace Go.Vg
open Go.RowKit Go.Lib
theorem ah.Uw{P:Program}{f:FuncId}{args:List SV}{Lp:LL}{n0:Nat}{R:SV->LL->Nat->Prop}(h:ah P f args Lp n0 [] R)(kp:∀b∈Lp,b.l<n0/\ay (fun l=>l<n0) b.cs)(JS:∀v L q,R v L q->∀b∈L,n0<=b.l):ah P f args Lp n0 [] (fun v L q=>∃NB,R v NB q/\L=Lp++NB):=by
 refine⟨h.1,fun kt W0 tx=>(h.2 kt W0 tx).mono ?_⟩
 rintro e W ⟨v,L,q,β,hR,rfl,hb,hm⟩
 refine⟨v,Lp++L,q,β,⟨L,hR,rfl⟩,rfl,hb,?_⟩
 have DZ:∀k,¬ (⟨W0,kt,n0,0,[]⟩:G).mod k:=fun k ⟨l,hl,_⟩=>by cases hl
 have eF:∀l b,find (Lp++L) l=some b->(b∈Lp/\b.l=l/\l<n0)\/(find L l=some b/\n0<=l):=fun l b hf=>by
  rw[fap]at hf
  cases hq:find Lp l with
  |some b'=>
   rw[hq]at hf
   obtain rfl:=ef hf
   obtain⟨h1,h2⟩:=nT hq
   exact Or.inl ⟨h1,h2,h2▸(kp _ h1).1⟩
  |none=>
   rw[hq]at hf
   obtain⟨h1,h2⟩:=nT hf
   exact Or.inr ⟨hf,h2▸JS _ _ _ hR _ h1⟩
 have hold:∀b∈Lp,β b.l=kt b.l/\∃m,W0.heap[kt b.l]? =some (.cells (aM kt b.cs).toArray b.t m):=fun b h_=>by
  obtain⟨m,_,h2⟩:=tx.cell b h_
  exact⟨hm.fC _ (kp b h_).1,m,h2⟩
 have ab:∀b∈Lp,β b.l<W0.heap.size:=fun b h_=>by
  obtain⟨h1,m,h2⟩:=hold b h_
  rw[h1]
  exact(xK.1 h2).1
 have c_:∀l,l<n0->own n0 [] l=true->False:=fun l h1 h2=>by
  unfold own at h2
  cases hq:Nat.ble n0 l with
  |true=>have:=g_ hq;omega
  |false=>rw[hq]at h2;exact Bool.noConfusion h2
 refine⟨hm.low,hm.fC,?_,?_,?_,?_,hm.up⟩
 ·intro l b hf ju
  rcases eF l b hf with⟨_,_,h3⟩|⟨h1,_⟩
  ·exact absurd ju (Nat.not_le.2 h3)
  ·exact hm.new l b h1 ju
 ·intro l b l' b' hf aT ho he
  rcases eF l b hf with⟨_,_,h3⟩|⟨h1,h2⟩
  ·exact(c_ l h3 ho).elim
  ·rcases eF l' b' aT with⟨k1,k2,k3⟩|⟨k1,_⟩
   ·exfalso
    have hl:=ab b' k1
    rw[k2,<-he]at hl
    rcases hm.new l b h1 h2 with h4|h4
    ·exact absurd hl (vC.2 h4)
    ·exact DZ _ h4
   ·exact hm.inj _ _ _ _ h1 k1 ho he
 ·intro l b hf
  rcases eF l b hf with⟨h1,h2,h3⟩|⟨h1,_⟩
  ·obtain⟨k1,m,k2⟩:=hold b h1
   refine⟨m,fun ho=>(c_ l h3 ho).elim,?_⟩
   rw[<-h2,nR (β:=kt) (γ:=β) (p:=fun l=>l<n0) (fun l hl=>hm.fC l hl) b.cs (kp b h1).2,k1,<-k2]
   exact hm.up.block _ (by rw[<-k1];exact ab b h1) (DZ _)
  ·exact hm.cell l b h1
 ·intro l b hf
  rcases eF l b hf with⟨h1,h2,h3⟩|⟨h1,_⟩
  ·exact⟨hm.low l h3,pg (fun _ h=>hm.low _ h) _ (kp b h1).2⟩
  ·exact hm.bL l b h1
def pY(A V i:Nat):Nat->Nat:=fun a=>if a<i then dg A a else dg (A/4294967296^i%V) (a-i)
def FB(A V i:Nat):Nat:=A/4294967296^(i+1)%V*4294967296+dg A i
theorem ah8(h l t:Nat)(hl:l<4294967296):dg (h*4294967296+l) t=if t=0 then l else dg h (t-1):=by
 unfold dg Dg.eJ
 by_cases e:t=0
 ·subst e;rw[aj rfl,jB,pf];omega
 ·obtain⟨u,rfl⟩:∃u,t=u+1:=⟨t-1,by omega⟩
  rw[af e,br,bJ (4294967296^u),<-ke,show(h*4294967296+l)/4294967296=h by omega,oC]
theorem aij(A V i t:Nat):pY A V (i+1) (t+i)=dg (FB A V i) t:=by
 unfold pY FB
 rw[ah8 _ _ _ (gR A i)]
 by_cases e:t=0
 ·subst e;rw[aj (by omega),aj rfl,dB]
 ·rw[af (by omega),af e];congr 1;omega
theorem aik{A V i:Nat}(hV:0<V):FB A V i<V*4294967296:=by
 unfold FB
 have h1:A/4294967296^(i+1)%V+1<=V:=ax _ hV
 have h2:=ea 4294967296 h1
 have:=gR A i
 omega
theorem aii{A V i k:Nat}(hV:0<V)(I':V<4294967296^k):wn (pY A V (i+1)) i (dg (FB A V i%V)) (k+1)=pY A V i:=by
 have hq:=(VJ A V i hV).2.1
 funext a
 unfold wn
 by_cases e:i<=a/\a<i+(k+1)
 ·rw[aj e];unfold pY;rw[af (by omega),hq];rfl
 ·rw[af e]
  unfold pY
  by_cases e2:a<i
  ·rw[aj (by omega),aj e2]
  ·have h1:∀z,z%V<4294967296^k:=fun z=>cT (ax _ hV) I'
   rw[af (by omega),af e2,show dg (A/4294967296^(i+1)%V) (a-(i+1))=0 from Dg.v8 (by decide) (h1 _) (by omega),show dg (A/4294967296^i%V) (a-i)=0 from Dg.v8 (by decide) (h1 _) (by omega)]
theorem ah9(A i t:Nat):dg (A/4294967296^i) t=dg A (i+t):=by
 unfold dg Dg.eJ;rw[ke,<-dV]
theorem aih{A V J:Nat}(h:A/4294967296^J<V):pY A V J=dg A:=by
 funext a;unfold pY
 by_cases e:a<J
 ·rw[aj e]
 ·rw[af e,aO h,ah9];congr 1;omega
theorem Z9(A V:Nat):pY A V 0=dg (A%V):=by
 funext a;unfold pY;rw[af (mh a),jB,pf,tU]
theorem alY{m y b s:Nat}(hm:Bd m y)(iH:0<m)(hy:0<y)(hb:ig y b)(hs:s=32*m-b):b<=32*m/\s<32/\y*2^s<4294967296^m/\Bd m (y*2^s)/\4294967296^m<=y*2^s*2:=by
 have ko:0<b:=by
  rcases Nat.eq_zero_or_pos b with h|h
  ·have:=hb.1;rw[h]at this;simp at this;omega
  ·exact h
 have h1:b<=32*m:=by
  rcases Nat.lt_or_ge (32*m) b with h|h
  ·exfalso
   have h2:=hb.2 ko
   have h3:2^(32*m)<=2^(b-1):=cV (by decide) (by omega)
   have h4:=hm.1
   rw[zf]at h4
   omega
  ·exact h
 have h2:32*m<b+32:=by
  rcases Nat.lt_or_ge (32*m) (b+32)with h|h
  ·exact h
  ·exfalso
   rcases hm.2 with h0|h0
   ·omega
   ·rw[zf]at h0
    have h3:2^b<=2^(32*(m-1)):=cV (by decide) (by omega)
    have:=hb.1
    omega
 have e:4294967296^m=2^b*2^s:=by rw[zf,<-dV];congr 1;omega
 have h3:y*2^s<4294967296^m:=by rw[e];exact HI hb.1 (i_ s)
 have h4:4294967296^m<=y*2^s*2:=by
  have h5:=ea (2^s) (hb.2 ko)
  have h6:2^b=2^(b-1)*2:=by rw[<-br];congr 1;omega
  rw[e,h6,Nat.mul_right_comm]
  exact ea 2 h5
 refine⟨h1,by omega,h3,⟨h3,Or.inr ?_⟩,h4⟩
 obtain⟨t,rfl⟩:∃t,m=t+1:=⟨m-1,by omega⟩
 rw[br]at h4
 rw[oC]
 omega
theorem aam{A V s J m n x:Nat}(hA:A=x*2^s)(hs:s<32)(hx:x<4294967296^n)(hJ:J+m=n+1)(hm:0<m)(h4:4294967296^m<=V*2):A/4294967296^J<V:=by
 refine xQ ?_
 have h1:A<4294967296^n*2^s:=by rw[hA];exact HI hx (i_ s)
 have h2:2^s<=2^31:=cV (by decide) (by omega)
 have h3:4294967296^n*2^s<=4294967296^n*2^31:=xS _ h2
 have h5:4294967296^J*4294967296^m=4294967296^n*4294967296:=by rw[<-dV,hJ,br]
 have h6:=xS (4294967296^J) h4
 rw[h5,<-eZ]at h6
 omega
end Go.Vg
namespace Go.Proofs.YtfocopihipejfaaGreat
open Go.Vg Go.RowKit
set_option maxRecDepth 200000
set_option cbv.maxSteps 100000000
theorem agE{P:Program}(hP:P=Tryz.prog){n c x m e y:Nat}{f u:Nat->Nat}(hx:Nm n c f x)(hy:Nm m e u y)(hn:n<2^18)(ab:x<y):
 ah P 104 [.slice 0 0 n c,.slice 1 0 m e] [⟨0,hs f c,88⟩,⟨1,hs u e,88⟩] 2 [] (fun w _ _=>w= .aR [.au,.slice 0 0 n c]):=by
 have hC:=MA hP hx hy (by omega) (-1) (fun _=>rfl) (fun h=>by omega) (fun h=>by omega)
 obtain⟨C,nV⟩:=aa (hs f c)
 have bC:∀m,an m C=true:=fun m=>by rw[nV];exact dG f c m
 obtain⟨E,hE⟩:=aa (hs u e)
 have bE:∀m,an m E=true:=fun m=>by rw[hE];exact dG u e m
 rw[<-nV,<-hE]at hC⊢
 refine aq hP Tryz.func104 ⟨ao rfl,⟨ao rfl,trivial⟩⟩ (by simpa [ay,bd]using⟨ak _ (bC 2),ak _ (bE 2)⟩) ?_
 intro A g K hA hg hK
 obtain⟨_,_,cmp⟩:=A
 have e1:cmp .lss (-1) 0=true:=(bg (bg (bg (kA hA) .lss) (-1)) 0).trans rfl
 cbv
 refine aZ hg hC _root_.id (eK (bC 0) (bE 0) rfl rfl) ?_
 cbv
 rw[e1]
 cbv
 exact hK _ _ _ rfl
theorem Zy{P:Program}(hP:P=Tryz.prog){n c x e y:Nat}{f u:Nat->Nat}(hx:Nm n c f x)(hy:Nm 1 e u y)(hn:n<2^18)(hle:y<=x)(fy:0<y):
 ah P 104 [.slice 0 0 n c,.slice 1 0 1 e] [⟨0,hs f c,88⟩,⟨1,hs u e,88⟩] 2 [] (fun w L q=>w= .aR [.slice 2 0 (Vg.sz (x/y)) n,.slice 3 0 (Vg.sz (x%y)) 1]/\L=[⟨2,hs (dg (x/y)) n,88⟩,⟨3,hs (dg (x%y)) 1,88⟩]/\q=4):=by
 obtain⟨rc,kW,iW⟩:∃rc:Int,(x<y->rc= -1)/\(x=y->rc=0)/\(y<x->rc=1):=⟨if x<y then -1 else if x=y then 0 else 1,fun h=>aj h,fun h=>by rw[af (by omega),aj h],fun h=>by rw[af (by omega),af (by omega)]⟩
 have hC:=MA hP hx hy (by omega) rc kW iW.1 iW.2
 have yQ:u 0=y:=by rw[<-hy.v];show _=0+u 0*1;omega
 have rF:y<4294967296:=by rw[<-yQ];exact hy.w 0 hy.le
 obtain⟨d,hd⟩:=aa (x/y)
 obtain⟨r,hr⟩:=aa (x%y)
 obtain⟨dz,Js⟩:=aa (Vg.sz d)
 obtain⟨rz,oV⟩:=aa (Vg.sz r)
 have qg:=agJ hP hx (by omega) y fy rF d r dz rz hd hr Js oV
 rw[<-hd,<-hr,<-Js,<-oV]
 obtain⟨QD,z6⟩:=aa (hs (dg d) n)
 obtain⟨RD,Sw⟩:=aa (hs (dg r) 1)
 have bQ:∀m,an m QD=true:=fun m=>by rw[z6];exact dG _ _ m
 have bR:∀m,an m RD=true:=fun m=>by rw[Sw];exact dG _ _ m
 rw[<-z6,<-Sw]at qg⊢
 have he1:=hy.le
 obtain⟨C,nV⟩:=aa (hs f c)
 have bC:∀m,an m C=true:=fun m=>by rw[nV];exact dG f c m
 obtain⟨E,hE⟩:=aa (hs u e)
 have bE:∀m,an m E=true:=fun m=>by rw[hE];exact dG u e m
 rw[<-nV,<-hE]at hC⊢
 rw[<-nV]at qg
 refine ah.dj (R:=fun w L q=>w= .aR [.slice 2 0 dz n,.slice 3 0 rz 1]/\find L 2=some ⟨2,QD,88⟩/\find L 3=some ⟨3,RD,88⟩) ?_ fun v L q ⟨h1,h2,h3⟩=>⟨_root_.id,.aR [.slice 2 0 dz n,.slice 3 0 rz 1],[⟨2,QD,88⟩,⟨3,RD,88⟩],4,by subst h1;exact fD ⟨rfl,rfl,trivial⟩ ⟨h2,rfl,bQ 4,h3,rfl,bR 4,trivial⟩ rfl rfl,rfl,rfl,rfl⟩
 refine aq hP Tryz.func104 ⟨ao rfl,⟨ao rfl,trivial⟩⟩ (by simpa [ay,bd]using⟨ak _ (bC 2),ak _ (bE 2)⟩) ?_
 intro A g K hA hg hK
 obtain⟨_,_,cmp,_,aX,ix,_,_,_,_,_,_,_,_,nat,off,get⟩:=A
 have e1:cmp .lss rc 0=false:=by
  rcases Nat.lt_or_ge y x with h|h
  ·rw[iW.2 h];exact bM hA (a:=1) (b:=0) (by decide)
  ·rw[iW.1 (by omega)];exact bM hA (a:=0) (b:=0) (by decide)
 have e0:nat 1=Int.ofNat 1:=fZ hA 1
 have e2:cmp .eql (.ofNat 1) 1=true:=iP hA (a:=1) (b:=1) rfl
 have e3:ix 0 1=some 0:=bB hA (k:=0) (n:=1) (by decide)
 have e4:off 0 0 1=0:=(dh hA 0 0 1).trans rfl
 have e5:get E 0=some (.int .u32 (.ofNat y)):=by rw[<-yQ,hE];exact ei hA .u32 (n:=e) u (k:=0) (by omega)
 have e6:aX .u64 (.ofNat y)=Int.ofNat y:=C_ hA (by omega)
 clear nV hE z6 Sw
 cbv
 refine aZ hg hC _root_.id (eK (bC 0) (bE 0) rfl rfl) ?_
 cbv
 rw[e1]
 cbv
 rw[e0,e2]
 cbv
 rw[e3]
 cbv
 rw[e4,e5]
 cbv
 rw[e6]
 cbv
 refine bq hg qg _root_.id (fG (bC 0) rfl) ?_
 simp only[aG,ae QD (bQ 0),ae RD (bR 0)]
 cbv
 exact hK _ _ _ ⟨rfl,rfl,rfl⟩
end Go.Proofs.YtfocopihipejfaaGreat
