/-
  This text proves what these texts prove: Pk, Pl, Pm, Ob, Pn. Conditions: those of each theorem.
-/
import Derived.Test.YtfocopihipejfaaGreatB24
set_option maxHeartbeats 8000000
set_option linter.all false
namespace Go.Proofs.YtfocopihipejfaaGreat
open Go.Vg Go.RowKit
set_option maxRecDepth 200000
set_option cbv.maxSteps 100000000
theorem qV{ρ:Nat->Nat}{M:Nat->Option aC}{l:Nat}{C:List SV}{t:TypeId}(bC:an 0 C=true)(h:M (ρ l)=some ⟨ρ l,C,t⟩):lu ρ M [⟨l,C,t⟩]:=
 ⟨by show M (ρ l)=some ⟨ρ l,bj ρ C,t⟩;rw[ae C bC];exact h,trivial⟩
theorem QR{P:Program}(hP:P=Tryz.prog){n c x m e y:Nat}{f u:Nat->Nat}(hx:Nm n c f x)(hy:Nm m e u y)(hn:n<2^18)(cU:2<=m)(hle:y<=x)(d r J rc n3:Nat)(rv:SV)(RB:LL)
 (hd:d=x/y) (hr:r=x%y) (hJ:J+m=n+1) (eF:(r=0/\rv= .au/\RB=[]/\n3=3)\/(r≠0/\rv= .slice 3 0 (Vg.sz r) rc/\RB=[⟨3,hs (dg r) rc,88⟩]/\n3=4)) (kW:∃b,ig y b/\rc=Vg.sz (r*2^(32*m-b))):
 ah P 104 [.slice 0 0 n c,.slice 1 0 m e] [⟨0,hs f c,88⟩,⟨1,hs u e,88⟩] 2 [] (fun w L q=>w= .aR [.slice 2 0 (Vg.sz d) J,rv]/\L=⟨2,hs (dg d) J,88⟩::RB/\q=n3):=by
 have fy:0<y:=by
  rcases Nat.eq_zero_or_pos y with h|h
  ·have:=hy.zero.2 h;omega
  ·exact h
 have hmn:m<=n:=by
  rcases hy.sz.2 with h|h
  ·omega
  ·rcases Nat.lt_or_ge n m with h2|h2
   ·exact absurd (cg hx.lt (cV (by decide) (show n<=m-1 by omega))) (vC.2 (eH h hle))
   ·exact h2
 have hme:=hy.le
 have l8:=hx.le
 obtain⟨ci,Ae,iG⟩:∃rc:Int,(x<y->rc= -1)/\(x=y->rc=0)/\(y<x->rc=1):=⟨if x<y then -1 else if x=y then 0 else 1,fun h=>aj h,fun h=>by rw[af (by omega),aj h],fun h=>by rw[af (by omega),af (by omega)]⟩
 have IH:=MA hP hx hy (by omega) ci Ae iG.1 iG.2
 obtain⟨b,hb,kW⟩:=kW
 have By:=QQ hP hy (by omega) b hb
 obtain⟨s,b9⟩:=aa (32*m-b)
 rw[<-b9]at kW
 obtain⟨cS,lC,Ga,hVs,SG⟩:=alY hy.sz (by omega) fy hb b9
 obtain⟨V,hV⟩:=aa (y*2^s)
 obtain⟨A',FN⟩:=aa (x*2^s)
 rw[<-hV]at Ga hVs SG
 have ng:0<V:=by rw[hV];exact Nat.mul_pos fy (i_ s)
 obtain⟨m1,b_⟩:=aa (m+1)
 obtain⟨n1,iy⟩:=aa (n+1)
 have hNV:Nm m m1 (dg V) V:=by
  have h:=AX (x:=V) (k:=m1) (cT Ga (L9 (by decide) (by omega)))
  rw[show Vg.sz V=m from h.sz.uniq hVs]at h
  exact h
 obtain⟨az,No⟩:=aa (Vg.sz A')
 have hAl:A'<4294967296^n1:=by
  rw[FN,iy,br]
  exact CS hx.lt (eB (cV (show 0<2 by decide) (show s<=31 by omega)) (by decide))
 have IW:Nm az n1 (dg A') A':=by rw[No];exact AX hAl
 have SA:=ZA hP hy (by omega) s lC m1 V m b_ hV (hNV.acH)
 have I6:=ZA hP hx (by omega) s lC n1 A' az iy FN No
 have Gb:V<4294967296^m:=Ga
 have ob:d=A'/V:=by rw[hd,FN,hV];exact(L5 _ _ (i_ s)).symm
 have cG:r*2^s=A'%V:=by rw[hr,FN,hV];exact(Fk _ _ _).symm
 obtain⟨rr,mH⟩:=aa (A'%V)
 rw[<-mH]at cG
 have abn:r=rr/2^s:=by rw[<-cG];exact(P5 _ (i_ s)).symm
 have akd:rr<V:=by rw[mH];exact ax _ ng
 rw[cG]at kW
 -- rows
 obtain⟨Us,F_⟩:=aa (fun i=>hs (pY A' V i) n1:Nat->List SV)
 have bU:∀m i,an m (Us i)=true:=fun m i=>by rw[F_];exact dG _ _ m
 have hUJ:hs (dg A') n1=Us J:=by rw[F_];show _=hs (pY A' V J) n1;rw[aih (aam FN lC hx.lt (by omega) (by omega) SG)]
 obtain⟨Q,hQ⟩:=aa (fun t=>hs (wh (dg d) J t) J:Nat->List SV)
 have bQ:∀m i,an m (Q i)=true:=fun m i=>by rw[hQ];exact dG _ _ m
 have mw:List.replicate J (SV.int .u32 0)=Q 0:=by rw[hQ,qm];exact abv _ _
 have Su:Q J=hs (dg d) J:=by rw[hQ];exact abu _ _
 obtain⟨S,hS⟩:=aa (dg d)
 have lS:∀i,S i<4294967296:=fun i=>by rw[hS];exact gR _ _
 obtain⟨VR,Nj⟩:=aa (hs (dg V) m1)
 have bV:∀m,an m VR=true:=fun k=>by rw[Nj];exact dG _ _ k
 obtain⟨AR,FO⟩:=aa (hs (dg A') n1)
 have bA:∀m,an m AR=true:=fun k=>by rw[FO];exact dG _ _ k
 have hSt:∀i i1,i1=i+1->i<J->ah P 147 [.slice 0 0 n1 n1,.slice 1 0 m m1,.int .i64 (.ofNat i)] [⟨0,Us i1,88⟩,⟨1,VR,88⟩] 2 [0] (fun w L n=>w= .int .u64 (.ofNat (S i))/\L=[⟨0,Us i,88⟩]/\n=2):=fun i i1 h1 h=>by
  subst h1
  rw[F_,Nj]
  have hq:=VJ A' V i ng
  refine agM hP hNV (m-2) (by omega) (by omega) (aE n1) (by omega) i (by omega) (FB A' V i) (aik ng) (fun t _=>aij A' V i t) (S i) (by rw[hS,ob];exact hq.1) (pY A' V i) (aii ng Gb).symm
 have hcp:AR.take az++(hs (fun _=>0) n1).drop az=Us J:=by rw[<-hUJ,FO];exact abr IW IW.le
 have ai3:AR.length=n1:=by rw[FO];exact TQ _ _
 have hAo:nH (AR.take az)=true:=by rw[FO];exact abt _ _ _
 have jO:d<4294967296^J:=by
  rw[ob]
  refine xQ ?_
  have h1:A'/4294967296^J<V:=aam FN lC hx.lt (by omega) (by omega) SG
  exact(qN (ew (by decide))).1 h1
 obtain⟨dz,Js⟩:=aa (Vg.sz d)
 have SB:ah P 69 [.slice 0 0 J J] [⟨0,Q J,88⟩] 1 [] (fun w _ _=>w= .slice 0 0 dz J):=by
  rw[Su];exact pU hP (dg d) J J dz (aE _) (by omega) (by rw[Js,rU jO])
 have Gy:rr<4294967296^m:=cT akd Gb
 have hTu:ah P 69 [.slice 0 0 m n1] [⟨0,Us 0,88⟩] 1 [] (fun w _ _=>w= .slice 0 0 rc n1):=by
  rw[F_];show ah P _ _ [⟨0,hs (pY A' V 0) n1,_⟩] 1 [] _
  rw[Z9,<-mH]
  exact pU hP (dg rr) m n1 rc (by omega) (by omega) (by rw[kW,rU Gy])
 have M_:Nm rc n1 (dg rr) rr:=by
  rw[kW];exact AX (cT Gy (L9 (by decide) (by omega)))
 have Nh:Us 0=hs (dg rr) n1:=by rw[F_];show hs (pY A' V 0) n1=_;rw[Z9,<-mH]
 obtain⟨C,hC⟩:=aa (hs f c)
 have bC:∀m,an m C=true:=fun m=>by rw[hC];exact dG f c m
 obtain⟨E,hE⟩:=aa (hs u e)
 have bE:∀m,an m E=true:=fun m=>by rw[hE];exact dG u e m
 rw[<-hC]at IH I6⊢
 rw[<-hE]at IH By SA⊢
 rw[<-Nj]at SA
 rw[<-FO]at I6
 rw[<-Su,<-Js]
 obtain⟨IV,jL⟩:=aa (fun j:Nat=>(J:Int)-1-(j:Int):Nat->Int)
 have iv:∀j i,i+j+1=J->IV j=Int.ofNat i:=fun j i h=>by rw[jL];show(J:Int)-1-(j:Int)=(i:Int);omega
 have Kx:IV J= -1:=by rw[jL];show(J:Int)-1-(J:Int)= -1;omega
 have oY:IntKind.i64.wrap ((J:Int)-1)=IV 0:=by rw[jL,IntKind.wrap_i64];show _=(J:Int)-1-((0:Nat):Int);omega
 obtain⟨m32,aba⟩:=aa (32*m)
 have hU:=rV hP
 obtain⟨Z0,jN⟩:=aa (hs (fun _=>0) n1)
 have bZ0:∀m,an m Z0=true:=fun k=>by rw[jN];exact dG _ _ k
 have Jb:Z0.length=n1:=by rw[jN];exact TQ _ _
 have hZr:List.replicate n1 (SV.int .u32 0)=Z0:=by rw[jN];exact qm n1
 rw[<-jN]at hcp
 have hQs:∀j i v,i+j+1=J->v=S i->wh (dg d) J (j+1)=fun k=>if k=i then v else wh (dg d) J j k:=fun j i v h hv=>aeB _ J j i v h (by rw[hv,hS])
 clear F_ hS Nj FO hC hE Su jN hUJ
 obtain⟨RR,Sx⟩:=aa (hs (dg r) rc)
 have Ql:∀m,an m RR=true:=fun k=>by rw[Sx];exact dG _ _ k
 obtain⟨rz,oV⟩:=aa (Vg.sz r)
 rw[<-Sx,<-oV]at eF
 suffices raw:ah P 104 [.slice 0 0 n c,.slice 1 0 m e] [⟨0,C,88⟩,⟨1,E,88⟩] 2 [] (fun w L q=>find L 5=some ⟨5,Q J,88⟩/\((r=0/\w= .aR [.slice 5 0 dz J,.au])\/(r≠0/\w= .aR [.slice 5 0 dz J,.slice 6 0 rz rc]/\find L 6=some ⟨6,RR,88⟩))) by
  refine raw.dj fun v L q ⟨h5,h⟩=> ?_
  rcases eF with⟨k1,rfl,rfl,rfl⟩|⟨k1,rfl,rfl,rfl⟩
  ·rcases h with⟨_,rfl⟩|⟨k2,_⟩
   ·exact⟨fun l=>if l=2 then 5 else l,.aR [.slice 2 0 dz J,.au],[⟨2,Q J,88⟩],3,dH ⟨rfl,rfl,trivial⟩ ⟨by rw[ae (Q J) (bQ 0 J)];exact h5,rfl,rfl,bQ 3 J,trivial⟩ rfl rfl rfl,rfl,rfl,rfl⟩
   ·exact absurd k1 k2
  ·rcases h with⟨k2,_⟩|⟨_,rfl,h6⟩
   ·exact absurd k2 k1
   ·exact⟨fun l=>if l=2 then 5 else if l=3 then 6 else l,.aR [.slice 2 0 dz J,.slice 3 0 rz rc],[⟨2,Q J,88⟩,⟨3,RR,88⟩],4,dH ⟨rfl,rfl,trivial⟩ ⟨by rw[ae (Q J) (bQ 0 J)];exact h5,rfl,rfl,bQ 4 J,by rw[ae RR (Ql 0)];exact h6,rfl,rfl,Ql 4,trivial⟩ rfl rfl rfl,rfl,rfl,rfl⟩
 refine aq hP Tryz.func104 ⟨ao rfl,⟨ao rfl,trivial⟩⟩ (by simpa [ay,bd]using⟨ak _ (bC 2),ak _ (bE 2)⟩) ?_
 intro A g K hA hg hK
 obtain⟨bin,_,cmp,_,aX,ix,_,_,_,_,_,_,_,_,nat,off,_,_,sub,eU⟩:=A
 have Jk:bin=jH:=qQ hA
 have e0:∀n,nat n=Int.ofNat n:=fun n=>fZ hA n
 have c1:cmp .lss ci 0=false:=by
  rcases Nat.lt_or_ge y x with h|h
  ·rw[iG.2 h];exact bM hA (a:=1) (b:=0) (by decide)
  ·rw[iG.1 (by omega)];exact bM hA (a:=0) (b:=0) (by decide)
 have c2:cmp .eql (.ofNat m) 1=false:=ja hA (b:=1) (by omega)
 have a1:bin .mul .i64 32 (.ofNat m)=Int.ofNat m32:=(k8 hA (a:=32) (b:=m) (by omega)).trans (by rw[aba])
 have a2:bin .sub .i64 (.ofNat m32) (.ofNat b)=Int.ofNat s:=(er hA (a:=m32) (b:=b) (by omega) (by omega)).trans (by rw[b9,aba])
 have a3:bin .add .i64 (.ofNat n) 1=Int.ofNat n1:=(e_ hA (a:=n) (b:=1) (by omega)).trans (by rw[iy])
 have a4:bin .sub .i64 (.ofNat n1) (.ofNat m)=Int.ofNat J:=(er hA (a:=n1) (b:=m) (by omega) (by omega)).trans (aK Int.ofNat (by omega))
 have a5:bin .sub .i64 (.ofNat J) 1=IV 0:=by rw[Jk];exact oY
 have a6:∀j,j<J->bin .sub .i64 (IV j) 1=IV (j+1):=fun j h=>by
  rw[Jk,jL]
  show IntKind.i64.wrap ((J:Int)-1-(j:Int)-1)=(J:Int)-1-((j+1:Nat):Int)
  rw[IntKind.wrap_i64];omega
 have g1:∀j,cmp .geq (.ofNat j) 0=true:=fun j=>kC hA (b:=0) (bf _)
 have g1f:cmp .geq (-1) 0=false:=(bg (bg (bg (kA hA) .geq) (-1)) 0).trans rfl
 have e4:∀j,off 0 j 1=j:=fun j=>(dh hA 0 j 1).trans (by omega)
 have e5:∀i m,i<m->ix (.ofNat i) m=some i:=fun i m h=>bB hA h
 have r6:∀j i v,i+j+1=J->v=S i->eU (Q j) i [.int .u32 (.ofNat v)]=some (Q (j+1)):=fun j i v h hv=>by rw[hQ];exact gX hA .u32 (n:=J) (wh (dg d) J j) (wh (dg d) J (j+1)) (by omega) (hQs j i v h hv)
 have qY:oF P 23 (.slice 3 0 n1 n1) none (some (.i64,Int.ofNat m)) (.slice 3 0 m n1):=G8 (hP▸aI) (show av 23=some _ from rfl) rfl 3 0 n1 n1 (j:=m) (by omega)
 clear hQ hQs
 cbv
 refine aZ hg IH _root_.id (eK (bC 0) (bE 0) rfl rfl) ?_
 cbv
 rw[c1]
 cbv
 rw[e0,c2]
 cbv
 rw[e0,a1]
 cbv
 refine aZ hg By (fun _=>1) (fG (bE 0) rfl) ?_
 cbv
 rw[a2]
 cbv
 refine bq hg SA (fun _=>1) (fG (bE 0) rfl) ?_
 simp only[aG,ae VR (bV 0)]
 cbv
 rw[e0,a3]
 cbv
 refine nL (hP▸aI) hg rfl rfl (show av 23=some _ from rfl) rfl (show av 88=some _ from rfl) hU rfl (m:=n1) rfl rfl (by omega) (by omega) ?_
 rw[hZr]
 cbv
 refine bq hg I6 (fun _=>0) (fG (bC 0) rfl) ?_
 simp only[aG,ae AR (bA 0)]
 cbv
 refine aqC (hP▸aI) hg rfl rfl (show av 23=some _ from rfl) rfl rfl rfl rfl rfl rfl (by rw[ai3];exact IW.le) hAo IW.le (by rw[Jb];exact IW.le) ?_
 rw[hcp]
 cbv
 rw[e0 n1,e0 m,a4]
 refine nL (hP▸aI) hg rfl rfl (show av 23=some _ from rfl) rfl (show av 88=some _ from rfl) hU rfl (m:=J) rfl rfl (by omega) (by omega) ?_
 rw[mw]
 cbv
 rw[e0 n1,a4,a5]
 have ajd:Us J=Us (J-0):=rfl
 rw[ajd]
 refine bH Nat (fun t=>t<=J) (fun t=>J-t) (fun t=> [(11,.int .i64 (IV t))]) [0,1,4,5,6,7,8,9,10] (fun t=> [(3,Us (J-t)),(5,Q t)]) 0 (bf _) ?_ ?_
 ·exact aS (by repeat' (first|exact trivial|refine⟨rfl,rfl,rfl,?_⟩|refine⟨rfl,rfl,bC 6,?_⟩|refine⟨rfl,rfl,bE 6,?_⟩|refine⟨rfl,rfl,bV 6,?_⟩|refine⟨rfl,rfl,bA 6,?_⟩|refine⟨rfl,rfl,bU 6 (J-0),?_⟩|refine⟨rfl,rfl,bQ 6 0,?_⟩))
 intro j hj
 by_cases ab:j<J
 ·obtain⟨i,hi⟩:∃i,i+j+1=J:=⟨J-j-1,by omega⟩
  obtain⟨i1,dQ⟩:=aa (J-j)
  have iT:=iv j i hi
  have jC:=hSt i i1 (by omega) (by omega)
  have q1:=g1 i
  have q2:aX .u32 (.ofNat (S i))=Int.ofNat (S i):=jr hA (lS i)
  have q3:=r6 j i (S i) hi rfl
  have q4:=a6 j ab
  obtain⟨In,hIn⟩:=aa (IV (j+1))
  obtain⟨Qn,hQn⟩:=aa (Q (j+1))
  obtain⟨Un,DB⟩:=aa (Us i)
  obtain⟨Uo,SC⟩:=aa (Us i1)
  obtain⟨Si,F7⟩:=aa (S i)
  have YV:∀m,an m Un=true:=fun m=>by rw[DB];exact bU m i
  have bUo:∀m,an m Uo=true:=fun m=>by rw[SC];exact bU m i1
  rw[<-hIn,iT]at q4
  rw[<-hQn,<-F7]at q3
  rw[<-F7]at q2
  rw[<-DB,<-SC,<-F7]at jC
  rw[iT,<-dQ,<-SC]
  cbv
  rw[q1]
  cbv
  refine bq hg jC (fun l=>if l=0 then 3 else 2) (eK (bUo 0) (bV 0) rfl rfl) ?_
  simp only[aG,ae Un (YV 0)]
  cbv
  rw[q2]
  cbv
  rw[e5 i J (by omega)]
  cbv
  rw[e4,q3]
  cbv
  rw[q4]
  refine⟨j+1,_root_.id,ab,(by show J-(j+1)<i1;omega),?_⟩
  rw[show J-(j+1)=i by omega,<-DB,hIn,hQn]
  exact aS (by repeat' (first|exact trivial|refine⟨rfl,rfl,rfl,?_⟩|refine⟨rfl,rfl,bC 6,?_⟩|refine⟨rfl,rfl,bE 6,?_⟩|refine⟨rfl,rfl,bV 6,?_⟩|refine⟨rfl,rfl,bA 6,?_⟩|refine⟨rfl,rfl,YV 6,?_⟩|refine⟨rfl,rfl,bQ 6 (j+1),?_⟩))
 ·have hjJ:J=j:=by omega
  subst hjJ
  rw[Kx,vH]
  cbv
  rw[g1f]
  cbv
  refine cm hP hA hg ?_
  cbv
  refine eV (FE rfl hg rfl rfl SB (fun _=>5) rfl (qV (bQ 0 _) rfl) rfl (fun _ _ _ h=>h) (ao rfl)) ?_
  cbv
  refine eV (sI hg rfl rfl rfl rfl rfl qY) ?_
  cbv
  refine eV (FE rfl hg rfl rfl hTu (fun _=>3) rfl (qV (bU 0 0) rfl) rfl (fun _ _ _ h=>h) (ao rfl)) ?_
  cbv
  by_cases cC:r=0
  ·have akc:rr=0:=by rw[<-cG,cC,fE]
   have aj8:rc=0:=M_.zero.2 akc
   have hZZ:=agL hP (c:=n1) (f:=dg rr) s lC
   rw[<-Nh]at hZZ
   rw[aj8]
   refine aY hg hZZ (fun _=>3) (qV (bU 0 0) rfl) ?_
   cbv
   exact hK _ _ _ ⟨rfl,Or.inl ⟨cC,rfl⟩⟩
  ·have aj9:0<rc:=by
    refine vF fun h=>cC ?_
    have:=M_.zero.1 h
    rw[abn,this,zp]
   have qg:=ZB hP M_.nw (by have:=M_.Va Gy;omega) aj9 s lC r rz abn oV
   rw[<-Nh,<-Sx]at qg
   have ajb:=qg.Uw (fun b hb=>by obtain rfl:=il.1 hb;exact⟨ao rfl,ak _ (bU 1 0)⟩) (fun v L q h b hb=>by obtain⟨_,rfl,_⟩:=h;obtain rfl:=il.1 hb;exact aE _)
   refine qF (n':=7) (pZ rfl hg rfl rfl ajb (fun _=>3) rfl (qV (bU 0 0) rfl) rfl (val:= .slice 1 0 rz rc) (NB:=[⟨1,RR,88⟩]) (n:=6) (n1:=2) (fun v L1 k h=> ?_) rfl rfl (fun l h1 h2=>⟨_,il.2 rfl,by show 1=l;omega⟩)) (by decide) rfl (by simp[aG]) ?_
   ·obtain⟨NB,⟨h1,h2,h3⟩,h4⟩:=h
    rw[h2]at h4
    exact⟨h1,h4,h3⟩
   simp only[aG,ae RR (Ql 0)]
   cbv
   exact hK _ _ _ ⟨rfl,Or.inr ⟨cC,rfl,rfl⟩⟩
end Go.Proofs.YtfocopihipejfaaGreat
namespace Go.Vg
structure HS(H:Nat->Nat->List SV)(S:Nat->Nat):Prop where
 h:H=fun x c=>hs (dg x) c
 s:S=Vg.sz
section
variable {H:Nat->Nat->List SV}{S:Nat->Nat}(hs:HS H S)
include hs
theorem HS.b(m x c:Nat):an m (H x c)=true:=by rw[hs.h];exact dG _ _ m
theorem HS.nm{x c:Nat}(h:x<4294967296^c):Nm (S x) c (dg x) x:=by rw[hs.s];exact AX h
theorem HS.le{x k:Nat}(h:x<4294967296^k):S x<=k:=(hs.nm h).Va h
theorem HS.one{y:Nat}(h:y<4294967296)(h0:0<y):S y=1:=by
 have h1:=hs.le (x:=y) (k:=1) (by rw[zo];exact h)
 have h2:=(hs.nm (x:=y) (c:=1) (by rw[zo];exact h)).zero
 omega
theorem HS.two{y:Nat}(h:4294967296<=y):2<=S y:=by
 have h1:=(hs.nm (x:=y) (c:=y) (cg L3 (L8 (by decide) y))).lt
 rcases Nat.lt_or_ge (S y) 2 with h2|h2
 ·have h3:4294967296^S y<=4294967296^1:=cV (by decide) (by omega)
  rw[zo]at h3
  omega
 ·exact h2
end
end Go.Vg
namespace Go.Proofs.YtfocopihipejfaaGreat
open Go.Vg Go.RowKit
set_option maxRecDepth 200000
set_option cbv.maxSteps 100000000
section
variable {P:Program}(hP:P=Tryz.prog){H:Nat->Nat->List SV}{S:Nat->Nat}(hs:HS H S)
include hP hs
theorem GP{x c y e:Nat}(hx:x<4294967296^c)(hy:y<4294967296^e)(hb:x<4294967296^40)(ab:x<y):ah P 56 [.slice 0 0 (S x) c,.slice 1 0 (S y) e] [⟨0,H x c,88⟩,⟨1,H y e,88⟩] 2 [] (fun w _ _=>w= .slice 0 0 (S x) c):=by
 have hD:=agE hP (hs.nm hx) (hs.nm hy) (by have:=hs.le hb;omega) ab
 rw[show Vg.hs (dg x) c=H x c from by rw[hs.h],show Vg.hs (dg y) e=H y e from by rw[hs.h]]at hD
 have bC:=fun m=>hs.b m x c
 have bE:=fun m=>hs.b m y e
 refine aq hP Tryz.func56 ⟨ao rfl,⟨ao rfl,trivial⟩⟩ (by simpa [ay,bd]using⟨ak _ (bC 2),ak _ (bE 2)⟩) ?_
 intro A g K hA hg hK
 cases A
 cbv
 refine fT rfl hg rfl rfl hD _root_.id rfl (eK (bC 0) (bE 0) rfl rfl) ?_
 rintro _ _ _ rfl
 refine⟨by simp[bd,ay],by simp[bd,ay,cK,bj],?_⟩
 cbv
 exact hK _ _ _ rfl
theorem UX{x c y e:Nat}(hx:x<4294967296^c)(hy:y<4294967296^e)(hb:x<4294967296^40)(hle:y<=x)(fy:0<y)(rF:y<4294967296)(r:Nat)(hr:r=x%y):ah P 56 [.slice 0 0 (S x) c,.slice 1 0 (S y) e] [⟨0,H x c,88⟩,⟨1,H y e,88⟩] 2 [] (fun w L q=>w= .slice 2 0 (S r) 1/\L=[⟨2,H r 1,88⟩]/\q=3):=by
 obtain⟨d,hd⟩:=aa (x/y)
 have BA:=hs.nm hy
 rw[hs.one rF fy]at BA
 have hD:=Zy hP (hs.nm hx) BA (by have:=hs.le hb;omega) hle fy
 rw[hs.one rF fy]
 rw[show Vg.hs (dg x) c=H x c from by rw[hs.h],show Vg.hs (dg y) e=H y e from by rw[hs.h],<-hr,<-hd,show Vg.hs (dg r) 1=H r 1 from by rw[hs.h],show Vg.sz r=S r from by rw[hs.s],show Vg.sz d=S d from by rw[hs.s]]at hD
 obtain⟨QD,z6⟩:=aa (Vg.hs (dg d) (S x))
 have bQ:∀m,an m QD=true:=fun m=>by rw[z6];exact dG _ _ m
 rw[<-z6]at hD
 have bC:=fun m=>hs.b m x c
 have bE:=fun m=>hs.b m y e
 have bR:=fun m=>hs.b m r 1
 refine ah.dj (R:=fun w L q=>w= .slice 3 0 (S r) 1/\find L 3=some ⟨3,H r 1,88⟩) ?_ fun v L q ⟨h1,h2⟩=>⟨fun l=>if l=2 then 3 else l,.slice 2 0 (S r) 1,[⟨2,H r 1,88⟩],3,by subst h1;exact dH ⟨rfl,rfl,trivial⟩ ⟨by rw[ae (H r 1) (bR 0)];exact h2,rfl,rfl,bR 3,trivial⟩ rfl rfl rfl,rfl,rfl,rfl⟩
 refine aq hP Tryz.func56 ⟨ao rfl,⟨ao rfl,trivial⟩⟩ (by simpa [ay,bd]using⟨ak _ (bC 2),ak _ (bE 2)⟩) ?_
 intro A g K hA hg hK
 cases A
 clear z6
 cbv
 refine bq hg hD _root_.id (eK (bC 0) (bE 0) rfl rfl) ?_
 simp only[aG,ae QD (bQ 0),ae (H r 1) (bR 0)]
 cbv
 exact hK _ _ _ ⟨rfl,rfl⟩
theorem acs{x c y e:Nat}(hx:x<4294967296^c)(hy:y<4294967296^e)(hb:x<4294967296^40)(hle:y<=x)(rF:4294967296<=y)(r:Nat)(hr:r=x%y)(cC:r≠0):∃rc,r<4294967296^rc/\ah P 56 [.slice 0 0 (S x) c,.slice 1 0 (S y) e] [⟨0,H x c,88⟩,⟨1,H y e,88⟩] 2 [] (fun w L q=>w= .slice 2 0 (S r) rc/\L=[⟨2,H r rc,88⟩]/\q=3):=by
 obtain⟨d,hd⟩:=aa (x/y)
 obtain⟨b,jD⟩:=ua y
 obtain⟨rc,kW⟩:=aa (Vg.sz (r*2^(32*S y-b)))
 have cU:=hs.two rF
 have mM:S y<=S x:=by
  rcases(hs.nm hy).sz.2 with h|h
  ·omega
  ·rcases Nat.lt_or_ge (S x) (S y)with h2|h2
   ·exact absurd (cg (hs.nm hx).lt (cV (by decide) (show S x<=S y-1 by omega))) (vC.2 (eH h hle))
   ·exact h2
 obtain⟨J,hJ⟩:=aa (S x+1-S y)
 have iW:r<4294967296^rc:=by
  have h1:r<=r*2^(32*S y-b):=aeZ _ (i_ _)
  have h2:=(AX (x:=r*2^(32*S y-b)) (k:=r*2^(32*S y-b)) (cg L3 (L8 (by decide) _))).lt
  rw[<-kW]at h2
  exact eB h1 h2
 refine⟨rc,iW,?_⟩
 have hD:=QR hP (hs.nm hx) (hs.nm hy) (by have:=hs.le hb;omega) cU hle d r J rc 4 (.slice 3 0 (Vg.sz r) rc) [⟨3,Vg.hs (dg r) rc,88⟩] hd hr (by omega) (Or.inr ⟨cC,rfl,rfl,rfl⟩) ⟨b,jD,kW⟩
 rw[show Vg.hs (dg x) c=H x c from by rw[hs.h],show Vg.hs (dg y) e=H y e from by rw[hs.h],show Vg.hs (dg r) rc=H r rc from by rw[hs.h],show Vg.hs (dg d) J=H d J from by rw[hs.h],show Vg.sz r=S r from by rw[hs.s],show Vg.sz d=S d from by rw[hs.s]]at hD
 have bC:=fun m=>hs.b m x c
 have bE:=fun m=>hs.b m y e
 have bR:=fun m=>hs.b m r rc
 have bQ:=fun m=>hs.b m d J
 refine ah.dj (R:=fun w L q=>w= .slice 3 0 (S r) rc/\find L 3=some ⟨3,H r rc,88⟩) ?_ fun v L q ⟨h1,h2⟩=>⟨fun l=>if l=2 then 3 else l,.slice 2 0 (S r) rc,[⟨2,H r rc,88⟩],3,by subst h1;exact dH ⟨rfl,rfl,trivial⟩ ⟨by rw[ae (H r rc) (bR 0)];exact h2,rfl,rfl,bR 3,trivial⟩ rfl rfl rfl,rfl,rfl,rfl⟩
 clear hJ kW
 refine aq hP Tryz.func56 ⟨ao rfl,⟨ao rfl,trivial⟩⟩ (by simpa [ay,bd]using⟨ak _ (bC 2),ak _ (bE 2)⟩) ?_
 intro A g K hA hg hK
 cases A
 cbv
 refine bq hg hD _root_.id (eK (bC 0) (bE 0) rfl rfl) ?_
 simp only[aG,ae (H d J) (bQ 0),ae (H r rc) (bR 0)]
 cbv
 exact hK _ _ _ ⟨rfl,rfl⟩
theorem acu{x c y e:Nat}(hx:x<4294967296^c)(hy:y<4294967296^e)(hb:x<4294967296^40)(hle:y<=x)(rF:4294967296<=y)(hr:x%y=0):ah P 56 [.slice 0 0 (S x) c,.slice 1 0 (S y) e] [⟨0,H x c,88⟩,⟨1,H y e,88⟩] 2 [] (fun w _ _=>w= .au):=by
 obtain⟨d,hd⟩:=aa (x/y)
 obtain⟨b,jD⟩:=ua y
 have cU:=hs.two rF
 have mM:S y<=S x:=by
  rcases(hs.nm hy).sz.2 with h|h
  ·omega
  ·rcases Nat.lt_or_ge (S x) (S y)with h2|h2
   ·exact absurd (cg (hs.nm hx).lt (cV (by decide) (show S x<=S y-1 by omega))) (vC.2 (eH h hle))
   ·exact h2
 obtain⟨J,hJ⟩:=aa (S x+1-S y)
 have hD:=QR hP (hs.nm hx) (hs.nm hy) (by have:=hs.le hb;omega) cU hle d 0 J _ 3 .au [] hd hr.symm (by omega) (Or.inl ⟨rfl,rfl,rfl,rfl⟩) ⟨b,jD,rfl⟩
 rw[show Vg.hs (dg x) c=H x c from by rw[hs.h],show Vg.hs (dg y) e=H y e from by rw[hs.h],show Vg.hs (dg d) J=H d J from by rw[hs.h],show Vg.sz d=S d from by rw[hs.s]]at hD
 have bC:=fun m=>hs.b m x c
 have bE:=fun m=>hs.b m y e
 have bQ:=fun m=>hs.b m d J
 clear hJ
 refine aq hP Tryz.func56 ⟨ao rfl,⟨ao rfl,trivial⟩⟩ (by simpa [ay,bd]using⟨ak _ (bC 2),ak _ (bE 2)⟩) ?_
 intro A g K hA hg hK
 cases A
 cbv
 refine bq hg hD _root_.id (eK (bC 0) (bE 0) rfl rfl) ?_
 simp only[aG,ae (H d J) (bQ 0)]
 cbv
 exact hK _ _ _ rfl
end
end Go.Proofs.YtfocopihipejfaaGreat
namespace Go.Vg
open Go.RowKit Go.Lib
theorem sK{ρ:Nat->Nat}{M:Nat->Option aC}{l l' k:Nat}{C C' D:List SV}{t t' u:TypeId}(bC:an 0 C=true)(CY:an 0 C'=true)(bD:an 0 D=true)(h:M (ρ l)=some ⟨ρ l,C,t⟩)(h':M (ρ l')=some ⟨ρ l',C',t'⟩)(h2:M (ρ k)=some ⟨ρ k,D,u⟩):lu ρ M [⟨l,C,t⟩,⟨l',C',t'⟩,⟨k,D,u⟩]:=
 ⟨by show M (ρ l)=some ⟨ρ l,bj ρ C,t⟩;rw[ae C bC];exact h,by show M (ρ l')=some ⟨ρ l',bj ρ C',t'⟩;rw[ae C' CY];exact h',by show M (ρ k)=some ⟨ρ k,bj ρ D,u⟩;rw[ae D bD];exact h2,trivial⟩
theorem zC(x y:Nat):∃r:Int,(x<y->r= -1)/\(x=y->r=0)/\(y<x->r=1):=⟨if x<y then -1 else if x=y then 0 else 1,fun h=>aj h,fun h=>by rw[af (by omega),aj h],fun h=>by rw[af (by omega),af (by omega)]⟩
section
variable {A:Ar}(hA:A=Ar.real){x y:Nat}{r:Int}(h1:x<y->r= -1)(h2:x=y->r=0)(h3:y<x->r=1)
include hA h1 h2 h3
theorem ZN(h:y<=x):A.cmp .geq r 0=true:=by
 rcases Nat.lt_or_ge y x with k|k
 ·rw[h3 k];exact kC hA (a:=1) (b:=0) (by decide)
 ·rw[h2 (by omega)];exact kC hA (a:=0) (b:=0) (by decide)
theorem ZM(h:x<y):A.cmp .geq r 0=false:=by
 rw[h1 h];exact(bg (bg (bg (kA hA) .geq) (-1)) 0).trans rfl
theorem ahu(h:y<x):A.cmp .leq r 0=false:=by rw[h3 h];exact abX hA (a:=1) (b:=0) (by decide)
theorem ZL(h:x=y):A.cmp .eql r 0=true:=by rw[h2 h];exact iP hA (a:=0) (b:=0) rfl
theorem aht(h:x≠y):A.cmp .eql r 0=false:=by
 rcases Nat.lt_or_ge x y with k|k
 ·rw[h1 k];exact(bg (bg (bg (kA hA) .eql) (-1)) 0).trans rfl
 ·rw[h3 (by omega)];exact ja hA (a:=1) (b:=0) (by decide)
theorem ahv(h:x≠y):A.cmp .neq r 0=true:=by
 rcases Nat.lt_or_ge x y with k|k
 ·rw[h1 k];exact(bg (bg (bg (kA hA) .neq) (-1)) 0).trans rfl
 ·rw[h3 (by omega)];exact yX hA (a:=1) (b:=0) (by decide)
theorem ZO(h:x=y):A.cmp .neq r 0=false:=by rw[h2 h];exact ow hA (a:=0) (b:=0) rfl
end
end Go.Vg
namespace Go.Proofs.YtfocopihipejfaaGreat
open Go.Vg Go.RowKit
set_option maxRecDepth 200000
set_option cbv.maxSteps 100000000
section
variable {P:Program}(hP:P=Tryz.prog){H:Nat->Nat->List SV}{S:Nat->Nat}(hs:HS H S)
include hP hs
theorem AT{x c y e:Nat}(hx:x<4294967296^c)(hy:y<4294967296^e)(hb:x<4294967296^40)(r:Int)(h1:x<y->r= -1)(h2:x=y->r=0)(h3:y<x->r=1):ah P 30 [.slice 0 0 (S x) c,.slice 1 0 (S y) e] [⟨0,H x c,88⟩,⟨1,H y e,88⟩] 2 [] (fun w _ _=>w= .int .i64 r):=by
 rw[hs.h];exact MA hP (hs.nm hx) (hs.nm hy) (by have:=hs.le hb;omega) r h1 h2 h3
theorem OA{x c y e:Nat}(hx:x<4294967296^c)(hy:y<4294967296^e)(hb:x<4294967296^40)(cW:y<4294967296^40)(s:Nat)(J_:s=x+y):∃k,s<4294967296^k/\ah P 29 [.slice 0 0 (S x) c,.slice 1 0 (S y) e] [⟨0,H x c,88⟩,⟨1,H y e,88⟩] 2 [] (fun w L q=>w= .slice 2 0 (S s) k/\L=[⟨2,H s k,88⟩]/\q=3):=by
 have h1:=(hs.nm hx).lt
 have h2:=(hs.nm hy).lt
 have h3:=cg h1 (cV (show 0<4294967296 by decide) (Nat.le_max_left (S x) (S y)))
 have h4:=cg h2 (cV (show 0<4294967296 by decide) (Nat.le_max_right (S x) (S y)))
 refine⟨max (S x) (S y)+1,by rw[J_,br];omega,?_⟩
 subst J_
 rw[hs.h];exact agz hP (hs.nm hx) (hs.nm hy) (by have:=hs.le hb;omega) (by have:=hs.le cW;omega) _ _ rfl rfl _ (by rw[hs.s])
theorem OD{x c y e:Nat}(hx:x<4294967296^c)(hy:y<4294967296^e)(hb:x<4294967296^40)(hle:y<=x)(s:Nat)(hd:s=x-y)(k:Nat)(hk:k=S x):s<4294967296^k/\ah P 44 [.slice 0 0 (S x) c,.slice 1 0 (S y) e] [⟨0,H x c,88⟩,⟨1,H y e,88⟩] 2 [] (fun w L q=>w= .slice 2 0 (S s) k/\L=[⟨2,H s k,88⟩]/\q=3):=by
 subst hk
 refine⟨by rw[hd];exact eB (P7 _ _) (hs.nm hx).lt,?_⟩
 subst hd
 rw[hs.h];exact agN hP (hs.nm hx) (hs.nm hy) (by have:=hs.le hb;omega) hle _ (by rw[hs.s])
theorem UZ{x c y e:Nat}(hx:x<4294967296^c)(hy:y<4294967296^e)(hb:x<4294967296^40)(hle:y<=x)(s:Nat)(hd:s=x-y):∃k,s<4294967296^k/\ah P 44 [.slice 0 0 (S x) c,.slice 1 0 (S y) e] [⟨0,H x c,88⟩,⟨1,H y e,88⟩] 2 [] (fun w L q=>w= .slice 2 0 (S s) k/\L=[⟨2,H s k,88⟩]/\q=3):=
 ⟨_,OD hP hs hx hy hb hle s hd _ rfl⟩
theorem ak6{x c y e:Nat}(hx:x<4294967296^c)(hy:y<4294967296^e)(hb:x<4294967296^40)(cW:y<4294967296^40)(s:Nat)(J_:s=x*y):∃k,s<4294967296^k/\ah P 107 [.slice 0 0 (S x) c,.slice 1 0 (S y) e] [⟨0,H x c,88⟩,⟨1,H y e,88⟩] 2 [] (fun w L q=>w= .slice 2 0 (S s) k/\L=[⟨2,H s k,88⟩]/\q=3):=by
 refine⟨S x+S y,by rw[J_,dV];exact CS (hs.nm hx).lt (hs.nm hy).lt,?_⟩
 subst J_
 rw[hs.h];exact agG hP (hs.nm hx) (hs.nm hy) (by have:=hs.le hb;omega) (by have:=hs.le cW;omega) _ _ rfl (by rw[hs.s])
theorem j_{x:Nat}(h:x<4294967296^18):x<4294967296^40:=by
 have:=hs.h;have:=hP
 exact cT h (L9 (by decide) (by decide))
theorem UY{x c y e z g':Nat}(hx:x<4294967296^c)(hy:y<4294967296^e)(hz:z<4294967296^g')(hb:x<4294967296^18)(cW:y<4294967296^18)(oW:0<z)(hnz:x*y<z\/z<4294967296\/x*y%z≠0)(r:Nat)(hr:r=x*y%z):
 ∃k,r<4294967296^k/\ah P 59 [.slice 0 0 (S x) c,.slice 1 0 (S y) e,.slice 2 0 (S z) g'] [⟨0,H x c,88⟩,⟨1,H y e,88⟩,⟨2,H z g',88⟩] 3 [] (fun w L q=>w= .slice 3 0 (S r) k/\L=[⟨3,H r k,88⟩]/\q=4):=by
 obtain⟨p,hp⟩:=aa (x*y)
 rw[<-hp]at hnz hr
 obtain⟨l,hl,hM⟩:=ak6 hP hs hx hy (j_ hP hs hb) (j_ hP hs cW) p hp
 have uF:p<4294967296^40:=by
  rw[hp]
  refine cg (CS hb cW) ?_
  rw[<-dV]
  exact cV (by decide) (by decide)
 have bC:=fun m=>hs.b m x c
 have bE:=fun m=>hs.b m y e
 have bG:=fun m=>hs.b m z g'
 have bL:=fun m=>hs.b m p l
 by_cases ab:p<z
 ·obtain rfl:r=p:=by rw[hr,aO ab]
  have hD:=GP hP hs hl hz uF ab
  refine⟨l,hl,?_⟩
  refine ah.dj (R:=fun w L q=>w= .slice 3 0 (S r) l/\find L 3=some ⟨3,H r l,88⟩) ?_ fun v L q ⟨h1,h2⟩=>⟨_root_.id,.slice 3 0 (S r) l,[⟨3,H r l,88⟩],4,by subst h1;exact fD ⟨rfl,rfl,trivial⟩ ⟨h2,rfl,bL 4,trivial⟩ rfl rfl,rfl,rfl,rfl⟩
  refine aq hP Tryz.func59 ⟨ao rfl,⟨ao rfl,⟨ao rfl,trivial⟩⟩⟩ (by simpa [ay,bd]using⟨ak _ (bC 3),ak _ (bE 3),ak _ (bG 3)⟩) ?_
  intro A g K hA hg hK
  cases A
  cbv
  refine bq hg hM _root_.id (eK (bC 0) (bE 0) rfl rfl) ?_
  simp only[aG,ae (H r l) (bL 0)]
  cbv
  refine fT rfl hg rfl rfl hD (fun k=>if k=0 then 3 else 2) rfl (eK (bL 0) (bG 0) rfl rfl) ?_
  rintro _ _ _ rfl
  refine⟨by simp[bd],by simp[bd,cK],?_⟩
  cbv
  exact hK _ _ _ ⟨rfl,rfl⟩
 ·obtain⟨k,hk,hD⟩:∃k,r<4294967296^k/\ah P 56 [.slice 0 0 (S p) l,.slice 1 0 (S z) g'] [⟨0,H p l,88⟩,⟨1,H z g',88⟩] 2 [] (fun w L q=>w= .slice 2 0 (S r) k/\L=[⟨2,H r k,88⟩]/\q=3):=by
   rcases Nat.lt_or_ge z 4294967296 with h|h
   ·exact⟨1,by rw[zo,hr];exact cT (ax _ oW) h,UX hP hs hl hz uF (by omega) oW h r hr⟩
   ·exact acs hP hs hl hz uF (by omega) h r hr (by rw[hr];omega)
  refine⟨k,hk,?_⟩
  have bK:=fun m=>hs.b m r k
  refine ah.dj (R:=fun w L q=>w= .slice 4 0 (S r) k/\find L 4=some ⟨4,H r k,88⟩) ?_ fun v L q ⟨h1,h2⟩=>⟨fun l=>if l=3 then 4 else l,.slice 3 0 (S r) k,[⟨3,H r k,88⟩],4,by subst h1;exact dH ⟨rfl,rfl,trivial⟩ ⟨by rw[ae (H r k) (bK 0)];exact h2,rfl,rfl,bK 4,trivial⟩ rfl rfl rfl,rfl,rfl,rfl⟩
  refine aq hP Tryz.func59 ⟨ao rfl,⟨ao rfl,⟨ao rfl,trivial⟩⟩⟩ (by simpa [ay,bd]using⟨ak _ (bC 3),ak _ (bE 3),ak _ (bG 3)⟩) ?_
  intro A g K hA hg hK
  cases A
  cbv
  refine bq hg hM _root_.id (eK (bC 0) (bE 0) rfl rfl) ?_
  simp only[aG,ae (H p l) (bL 0)]
  cbv
  refine bq hg hD (fun k=>if k=0 then 3 else 2) (eK (bL 0) (bG 0) rfl rfl) ?_
  simp only[aG,ae (H r k) (bK 0)]
  cbv
  exact hK _ _ _ ⟨rfl,rfl⟩
theorem ak1{x c y e z g':Nat}(hx:x<4294967296^c)(hy:y<4294967296^e)(hz:z<4294967296^g')(hb:x<4294967296^18)(cW:y<4294967296^18)(r:Nat)(hr:r=if z<=x+y then x+y-z else x+y):
 ∃k,r<4294967296^k/\ah P 79 [.slice 0 0 (S x) c,.slice 1 0 (S y) e,.slice 2 0 (S z) g'] [⟨0,H x c,88⟩,⟨1,H y e,88⟩,⟨2,H z g',88⟩] 3 [] (fun w L q=>w= .slice 3 0 (S r) k/\L=[⟨3,H r k,88⟩]/\q=4):=by
 obtain⟨p,hp⟩:=aa (x+y)
 rw[<-hp]at hr
 obtain⟨l,hl,hM⟩:=OA hP hs hx hy (j_ hP hs hb) (j_ hP hs cW) p hp
 have uF:p<4294967296^40:=by
  have h1:p<4294967296^19:=by rw[hp,br];omega
  exact cT h1 (L9 (by decide) (by decide))
 obtain⟨ci,c1,c2,c3⟩:=zC p z
 have hC:=AT hP hs hl hz uF ci c1 c2 c3
 have bC:=fun m=>hs.b m x c
 have bE:=fun m=>hs.b m y e
 have bG:=fun m=>hs.b m z g'
 have bL:=fun m=>hs.b m p l
 by_cases ab:z<=p
 ·rw[aj ab]at hr
  obtain⟨k,hk,hD⟩:=UZ hP hs hl hz uF ab r hr
  refine⟨k,hk,?_⟩
  have bK:=fun m=>hs.b m r k
  refine ah.dj (R:=fun w L q=>w= .slice 4 0 (S r) k/\find L 4=some ⟨4,H r k,88⟩) ?_ fun v L q ⟨h1,h2⟩=>⟨fun l=>if l=3 then 4 else l,.slice 3 0 (S r) k,[⟨3,H r k,88⟩],4,by subst h1;exact dH ⟨rfl,rfl,trivial⟩ ⟨by rw[ae (H r k) (bK 0)];exact h2,rfl,rfl,bK 4,trivial⟩ rfl rfl rfl,rfl,rfl,rfl⟩
  refine aq hP Tryz.func79 ⟨ao rfl,⟨ao rfl,⟨ao rfl,trivial⟩⟩⟩ (by simpa [ay,bd]using⟨ak _ (bC 3),ak _ (bE 3),ak _ (bG 3)⟩) ?_
  intro A g K hA hg hK
  obtain⟨_,_,cmp⟩:=A
  have e1:cmp .geq ci 0=true:=ZN hA c1 c2 c3 ab
  cbv
  refine bq hg hM _root_.id (eK (bC 0) (bE 0) rfl rfl) ?_
  simp only[aG,ae (H p l) (bL 0)]
  cbv
  refine aZ hg hC (fun k=>if k=0 then 3 else 2) (eK (bL 0) (bG 0) rfl rfl) ?_
  cbv
  rw[e1]
  cbv
  refine bq hg hD (fun k=>if k=0 then 3 else 2) (eK (bL 0) (bG 0) rfl rfl) ?_
  simp only[aG,ae (H r k) (bK 0)]
  cbv
  exact hK _ _ _ ⟨rfl,rfl⟩
 ·rw[af ab]at hr
  subst hr
  refine⟨l,hl,?_⟩
  refine ah.dj (R:=fun w L q=>w= .slice 3 0 (S r) l/\find L 3=some ⟨3,H r l,88⟩) ?_ fun v L q ⟨h1,h2⟩=>⟨_root_.id,.slice 3 0 (S r) l,[⟨3,H r l,88⟩],4,by subst h1;exact fD ⟨rfl,rfl,trivial⟩ ⟨h2,rfl,bL 4,trivial⟩ rfl rfl,rfl,rfl,rfl⟩
  refine aq hP Tryz.func79 ⟨ao rfl,⟨ao rfl,⟨ao rfl,trivial⟩⟩⟩ (by simpa [ay,bd]using⟨ak _ (bC 3),ak _ (bE 3),ak _ (bG 3)⟩) ?_
  intro A g K hA hg hK
  obtain⟨_,_,cmp⟩:=A
  have e1:cmp .geq ci 0=false:=ZM hA c1 c2 c3 (by omega)
  cbv
  refine bq hg hM _root_.id (eK (bC 0) (bE 0) rfl rfl) ?_
  simp only[aG,ae (H r l) (bL 0)]
  cbv
  refine aZ hg hC (fun k=>if k=0 then 3 else 2) (eK (bL 0) (bG 0) rfl rfl) ?_
  cbv
  rw[e1]
  cbv
  exact hK _ _ _ ⟨rfl,rfl⟩
theorem acx{x c y e z g':Nat}(hx:x<4294967296^c)(hy:y<4294967296^e)(hz:z<4294967296^g')(hb:x<4294967296^18)(cW:z<4294967296^18)(rI:y<=z)(r:Nat)(hr:r=if y<=x then x-y else x+z-y)(k:Nat)(DT:k=S (if y<=x then x else x+z)):
 r<4294967296^k/\ah P 106 [.slice 0 0 (S x) c,.slice 1 0 (S y) e,.slice 2 0 (S z) g'] [⟨0,H x c,88⟩,⟨1,H y e,88⟩,⟨2,H z g',88⟩] 3 [] (fun w L q=>w= .slice 3 0 (S r) k/\L=[⟨3,H r k,88⟩]/\q=4):=by
 obtain⟨ci,c1,c2,c3⟩:=zC x y
 have hC:=AT hP hs hx hy (j_ hP hs hb) ci c1 c2 c3
 have bC:=fun m=>hs.b m x c
 have bE:=fun m=>hs.b m y e
 have bG:=fun m=>hs.b m z g'
 by_cases hle:y<=x
 ·rw[aj hle]at hr DT
  obtain⟨hk,hD⟩:=OD hP hs hx hy (j_ hP hs hb) hle r hr k DT
  clear DT
  refine⟨hk,?_⟩
  have bK:=fun m=>hs.b m r k
  refine ah.dj (R:=fun w L q=>w= .slice 3 0 (S r) k/\find L 3=some ⟨3,H r k,88⟩) ?_ fun v L q ⟨h1,h2⟩=>⟨_root_.id,.slice 3 0 (S r) k,[⟨3,H r k,88⟩],4,by subst h1;exact fD ⟨rfl,rfl,trivial⟩ ⟨h2,rfl,bK 4,trivial⟩ rfl rfl,rfl,rfl,rfl⟩
  refine aq hP Tryz.func106 ⟨ao rfl,⟨ao rfl,⟨ao rfl,trivial⟩⟩⟩ (by simpa [ay,bd]using⟨ak _ (bC 3),ak _ (bE 3),ak _ (bG 3)⟩) ?_
  intro A g K hA hg hK
  obtain⟨_,_,cmp⟩:=A
  have e1:cmp .geq ci 0=true:=ZN hA c1 c2 c3 hle
  cbv
  refine aZ hg hC _root_.id (eK (bC 0) (bE 0) rfl rfl) ?_
  cbv
  rw[e1]
  cbv
  refine bq hg hD _root_.id (eK (bC 0) (bE 0) rfl rfl) ?_
  simp only[aG,ae (H r k) (bK 0)]
  cbv
  exact hK _ _ _ ⟨rfl,rfl⟩
 ·rw[af hle]at hr DT
  obtain⟨p,hp⟩:=aa (x+z)
  rw[<-hp]at hr DT
  obtain⟨l,hl,hM⟩:=OA hP hs hx hz (j_ hP hs hb) (j_ hP hs cW) p hp
  have uF:p<4294967296^40:=by
   have h1:p<4294967296^19:=by rw[hp,br];omega
   exact cT h1 (L9 (by decide) (by decide))
  obtain⟨hk,hD⟩:=OD hP hs hl hy uF (by omega) r hr k DT
  clear DT
  refine⟨hk,?_⟩
  have bL:=fun m=>hs.b m p l
  have bK:=fun m=>hs.b m r k
  refine ah.dj (R:=fun w L q=>w= .slice 4 0 (S r) k/\find L 4=some ⟨4,H r k,88⟩) ?_ fun v L q ⟨h1,h2⟩=>⟨fun l=>if l=3 then 4 else l,.slice 3 0 (S r) k,[⟨3,H r k,88⟩],4,by subst h1;exact dH ⟨rfl,rfl,trivial⟩ ⟨by rw[ae (H r k) (bK 0)];exact h2,rfl,rfl,bK 4,trivial⟩ rfl rfl rfl,rfl,rfl,rfl⟩
  refine aq hP Tryz.func106 ⟨ao rfl,⟨ao rfl,⟨ao rfl,trivial⟩⟩⟩ (by simpa [ay,bd]using⟨ak _ (bC 3),ak _ (bE 3),ak _ (bG 3)⟩) ?_
  intro A g K hA hg hK
  obtain⟨_,_,cmp⟩:=A
  have e1:cmp .geq ci 0=false:=ZM hA c1 c2 c3 (by omega)
  cbv
  refine aZ hg hC _root_.id (eK (bC 0) (bE 0) rfl rfl) ?_
  cbv
  rw[e1]
  cbv
  refine bq hg hM (fun k=>if k=0 then 0 else 2) (eK (bC 0) (bG 0) rfl rfl) ?_
  simp only[aG,ae (H p l) (bL 0)]
  cbv
  refine bq hg hD (fun k=>if k=0 then 3 else 1) (eK (bL 0) (bE 0) rfl rfl) ?_
  simp only[aG,ae (H r k) (bK 0)]
  cbv
  exact hK _ _ _ ⟨rfl,rfl⟩
theorem U0{x c y e z g':Nat}(hx:x<4294967296^c)(hy:y<4294967296^e)(hz:z<4294967296^g')(hb:x<4294967296^18)(cW:z<4294967296^18)(rI:y<=z)(r:Nat)(hr:r=if y<=x then x-y else x+z-y):
 ∃k,r<4294967296^k/\ah P 106 [.slice 0 0 (S x) c,.slice 1 0 (S y) e,.slice 2 0 (S z) g'] [⟨0,H x c,88⟩,⟨1,H y e,88⟩,⟨2,H z g',88⟩] 3 [] (fun w L q=>w= .slice 3 0 (S r) k/\L=[⟨3,H r k,88⟩]/\q=4):=
 ⟨_,acx hP hs hx hy hz hb cW rI r hr _ rfl⟩
end
end Go.Proofs.YtfocopihipejfaaGreat
namespace Go.Vg
theorem ZZ(A i t:Nat):dg (A/4294967296^i) t=dg A (i+t):=by
 unfold dg Dg.eJ
 rw[ke,<-dV]
end Go.Vg
namespace Go.Proofs.YtfocopihipejfaaGreat
open Go.Vg Go.RowKit
set_option maxRecDepth 200000
set_option cbv.maxSteps 100000000
theorem agK{P:Program}(hP:P=Tryz.prog){n c x:Nat}{f:Nat->Nat}(hx:Nw n c f x)(hn:n<2^20)(kk w s:Nat)(Sa:kk=32*w+s)(qs:w<n)(lC:s<32)(N:Nat)(hN:N=n-w)(y r:Nat)(hy:y=x/2^kk)(hr:r=Vg.sz y):
 ah P 55 [.slice 0 0 n c,.int .i64 (.ofNat kk)] [⟨0,hs f c,88⟩] 1 [] (fun w L q=>w= .slice 1 0 r N/\L=[⟨1,hs (dg y) N,88⟩]/\q=2):=by
 have l8:=hx.le
 obtain⟨Z,hZ⟩:=aa (fun i=>hs (wr (dg y) i) N:Nat->List SV)
 have bZ:∀m i,an m (Z i)=true:=fun m i=>by rw[hZ];exact dG _ _ m
 have jN:List.replicate N (SV.int .u32 0)=Z 0:=by rw[hZ,qm];show _=hs (wr _ 0) N;rw[E4]
 have cj:Z N=hs (dg y) N:=by rw[hZ];exact Gz _ _
 refine ah.dj (R:=fun w L q=>w= .slice 1 0 r N/\find L 1=some ⟨1,Z N,88⟩) ?_ fun v L q ⟨h1,h2⟩=>⟨_root_.id,.slice 1 0 r N,[⟨1,Z N,88⟩],2,by subst h1;exact fD ⟨rfl,rfl,trivial⟩ ⟨h2,rfl,bZ 2 N,trivial⟩ rfl rfl,rfl,by rw[cj],rfl⟩
 have D5:(2:Nat)^kk=4294967296^w*2^s:=by rw[Sa,dV,jS]
 have hyA:y=x/4294967296^w/2^s:=by rw[hy,D5,ke]
 have kJ:y<4294967296^N:=by
  rw[hyA]
  refine eB (gq _ _) (xQ ?_)
  rw[<-dV,show w+N=n by omega];exact hx.lt
 have jb:ah P 69 [.slice 0 0 N N] [⟨0,Z N,88⟩] 1 [] (fun w _ _=>w= .slice 0 0 r N):=by
  rw[cj];exact pU hP (dg y) N N r (aE _) (by omega) (by rw[hr,rU kJ])
 have jt:∀i,ah P 54 [.slice 0 0 n c,.int .i64 (.ofNat i)] [⟨0,hs f c,88⟩] 1 [] (fun w _ _=>w= .int .u64 (.ofNat (dg x i))):=fun i=>zA hP f n c i _ hx.le hx.w (by
  by_cases h:i<n
  ·rw[aj h,hx.eJ h]
  ·rw[af h,hx.pj (by omega)])
 obtain⟨X,hX⟩:=aa (dg x)
 obtain⟨S,hS⟩:=aa (dg y)
 have lX:∀i,X i<4294967296:=fun i=>by rw[hX];exact gR x i
 have I5:∀i,(X (i+w)+X (i+w+1)*4294967296)/2^s%4294967296=S i:=fun i=>by
  rw[hX,hS,hyA,<-adG _ i s lC,ZZ,ZZ,show w+(i+1)=i+w+1 by omega,oB w i]
 rw[<-hX]at jt
 rw[<-hS]at hZ
 obtain⟨C,hC⟩:=aa (hs f c)
 have bC:∀m,an m C=true:=fun m=>by rw[hC];exact dG f c m
 rw[<-hC]at jt⊢
 clear hC hX hS cj
 refine aq hP Tryz.func55 ⟨ao rfl,⟨trivial,trivial⟩⟩ (by simpa [ay,bd]using ak _ (bC 1)) ?_
 intro A g K hA hg hK
 obtain⟨bin,sh,cmp,_,aX,ix,nn,_,_,_,_,_,_,_,nat,off,_,_,sub,eU⟩:=A
 have e0:nat n=Int.ofNat n:=fZ hA n
 have e1:bin .quo .i64 (.ofNat kk) 32=Int.ofNat w:=(mO hA (a:=kk) (b:=32) (by omega)).trans (aK Int.ofNat (by omega))
 have e2:cmp .geq (.ofNat w) (.ofNat n)=false:=qW hA (by omega)
 have e3:bin .sub .i64 (.ofNat n) (.ofNat w)=Int.ofNat N:=(er hA (by omega) (by omega)).trans (by rw[hN])
 have e0N:nat N=Int.ofNat N:=fZ hA N
 have e4:∀j,off 0 j 1=j:=fun j=>(dh hA 0 j 1).trans (by omega)
 have e5:∀i,i<N->ix (.ofNat i) N=some i:=fun i h=>bB hA h
 have e6:∀i v,i<N->v=S i->eU (Z i) i [.int .u32 (.ofNat v)]=some (Z (i+1)):=fun i v h hv=>by rw[hZ];exact gX hA .u32 (n:=N) (wr S i) (wr S (i+1)) h (E3 S i v hv)
 have e7:∀i,i<N->cmp .lss (.ofNat i) (.ofNat N)=true:=fun i h=>cZ hA h
 have sH:cmp .lss (.ofNat N) (.ofNat N)=false:=bM hA (iO N)
 have e8:∀i,i<n->bin .add .i64 (.ofNat i) 1=Int.ofNat (i+1):=fun i h=>e_ hA (a:=i) (b:=1) (by omega)
 have e9:∀i,i<N->bin .add .i64 (.ofNat i) (.ofNat w)=Int.ofNat (i+w):=fun i h=>e_ hA (by omega)
 have jT:bin .rem .i64 (.ofNat kk) 32=Int.ofNat s:=(pJ hA kk 32).trans (aK Int.ofNat (by omega))
 have kP:nn (.ofNat s)=true:=kr hA s
 have hU:=rV hP
 clear hZ
 cbv
 rw[e1,e0,e2]
 cbv
 rw[e1,e0,e3]
 cbv
 refine nL (hP▸aI) hg rfl rfl (show av 23=some _ from rfl) rfl (show av 88=some _ from rfl) hU rfl (m:=N) rfl rfl (by omega) (by omega) ?_
 rw[jN]
 cbv
 refine bH Nat (fun i=>i<=N) (fun i=>N-i) (fun i=> [(6,.int .i64 (.ofNat i))]) [0,1,4,5] (fun i=> [(1,Z i)]) 0 (bf _) ?_ ?_
 ·exact aS (by repeat' (first|exact trivial|refine⟨rfl,rfl,rfl,?_⟩|refine⟨rfl,rfl,bC 2,?_⟩|refine⟨rfl,rfl,bZ 2 0,?_⟩))
 intro i hi
 by_cases ab:i<N
 ·obtain⟨iw,hiw⟩:=aa (i+w)
  obtain⟨i1,dQ⟩:=aa (iw+1)
  obtain⟨w1,kI⟩:=aa (X i1*4294967296)
  obtain⟨w2,uJ⟩:=aa (X iw+w1)
  obtain⟨w3,yS⟩:=aa (w2/2^s)
  obtain⟨w4,Kf⟩:=aa (w3%4294967296)
  have l1:=lX iw
  have l2:=lX i1
  have l3:w3<=w2:=by rw[yS];exact gq _ _
  have hv:w4=S i:=by rw[Kf,yS,uJ,kI,dQ,hiw];exact I5 i
  have g0:=e8 iw (by omega)
  rw[<-dQ]at g0
  have g9:=e9 i ab
  rw[<-hiw]at g9
  have g8:=e8 i (by omega)
  have g1:sh .shl .u64 (.ofNat (X i1)) 32=Int.ofNat w1:=(mP hA (k:= .u64) rfl (X i1) (s:=32) (by decide)).trans (aK Int.ofNat (by rw[kI];show X i1*4294967296%0x10000000000000000=_;omega))
  have g2:bin .or .u64 (.ofNat (X iw)) (.ofNat w1)=Int.ofNat w2:=(l9 hA (k:= .u64) rfl (a:=X iw) (b:=w1) (by show X iw<0x10000000000000000;omega) (by show w1<0x10000000000000000;omega)).trans (aK Int.ofNat (by rw[uJ,kI,zm,show(4294967296:Nat)=2^32 from rfl,oy (s:=32) l1,oB]))
  have g3:sh .shr .u64 (.ofNat w2) (.ofNat s)=Int.ofNat w3:=(k_ hA (k:= .u64) (a:=w2) (b:=s) (by show s<=64;omega)).trans (by rw[yS])
  have g4:bin .and .u64 (.ofNat w3) 4294967295=Int.ofNat w4:=uL hA (by omega) Kf
  have g5:aX .u32 (.ofNat w4)=Int.ofNat w4:=jr hA (by omega)
  have g6:=e6 i w4 ab hv
  obtain⟨Zn,cj⟩:=aa (Z (i+1))
  rw[<-cj]at g6
  cbv
  rw[e0N]
  cbv
  rw[e7 i ab]
  cbv
  rw[e1]
  cbv
  rw[g9]
  cbv
  refine aZ hg (jt iw) (fun _=>0) (fG (bC 0) rfl) ?_
  cbv
  rw[e1]
  cbv
  rw[g9]
  cbv
  rw[g0]
  cbv
  refine aZ hg (jt i1) (fun _=>0) (fG (bC 0) rfl) ?_
  cbv
  rw[g1]
  cbv
  rw[g2]
  cbv
  rw[jT]
  cbv
  rw[kP]
  cbv
  rw[g3]
  cbv
  rw[g4]
  cbv
  rw[g5]
  cbv
  rw[e5 i ab]
  cbv
  rw[e4,g6]
  cbv
  rw[g8]
  refine⟨i+1,_root_.id,ab,(by show N-(i+1)<N-i;omega),?_⟩
  rw[cj]
  exact aS (by repeat' (first|exact trivial|refine⟨rfl,rfl,rfl,?_⟩|refine⟨rfl,rfl,bC 2,?_⟩|refine⟨rfl,rfl,bZ 2 (i+1),?_⟩))
 ·obtain rfl:i=N:=by omega
  cbv
  rw[e0N]
  cbv
  rw[sH]
  cbv
  refine fT rfl hg rfl rfl jb (fun _=>1) rfl (fG (bZ 0 i) rfl) ?_
  rintro _ _ _ rfl
  refine⟨by simp[bd],by simp[bd,cK],?_⟩
  cbv
  exact hK _ _ _ ⟨rfl,rfl⟩
end Go.Proofs.YtfocopihipejfaaGreat
namespace Go.Vg
open Go.RowKit Go.Lib
theorem acZ{T t d e w q r:Nat}(he:e=32*q+r)(hrw:r+w<=32)(hd:d<2^w)(hT:T=t*2^(e+w)):(∀j,dg (T+d*2^e) j=if j=q then dg T q+d*2^r else dg T j)/\dg T q|||d*2^r=dg T q+d*2^r/\dg T q+d*2^r<4294967296:=by
 have hdr:d*2^r<2^(r+w):=by rw[dV,bJ];exact ae1 hd (i_ r)
 have eT:T/4294967296^q=t*2^(r+w):=by
  rw[hT,zf,he,xP,dV,<-eZ,bJ t,eZ,ae0 _ (i_ _)]
 have eT2:(T+d*2^e)/4294967296^q=t*2^(r+w)+d*2^r:=by
  rw[hT,zf,he,xP,dV 2 (32*q) (r+w),dV 2 (32*q) r,show t*(2^(32*q)*2^(r+w))+d*(2^(32*q)*2^r)=2^(32*q)*(t*2^(r+w)+d*2^r)from by rw[lL];ac_rfl,ae0 _ (i_ _)]
 obtain⟨c,hc⟩:∃c,32=r+w+c:=⟨32-(r+w),by omega⟩
 have hB:(4294967296:Nat)=2^(r+w)*2^c:=by rw[<-dV,<-hc]
 have hq:dg T q=(t%2^c)*2^(r+w):=by
  show T/4294967296^q%4294967296=_
  rw[eT,hB,bJ t,Nat.mul_mod_mul_left,bJ]
 have h1:t%2^c+1<=2^c:=ax _ (i_ c)
 have h2:=ea (2^(r+w)) h1
 rw[cw,fN,<-hq,bJ (2^c),<-hB]at h2
 have ab:dg T q+d*2^r<4294967296:=by omega
 refine⟨fun j=> ?_,by rw[hq];exact oy hdr,ab⟩
 by_cases hj:j=q
 ·subst hj
  rw[aj rfl]
  show(T+d*2^e)/4294967296^j%4294967296=_
  rw[eT2]
  have e3:t*2^(r+w)=dg T j+4294967296*(t/2^c):=by
   rw[hq,hB]
   have:=gN t (2^c)
   have h5:t*2^(r+w)=(2^c*(t/2^c)+t%2^c)*2^(r+w):=by rw[this]
   rw[h5,cw,oB]
   congr 1
   ac_rfl
  rw[e3,Yq,CO,aO ab]
 ·rw[af hj]
  rcases Nat.lt_or_gt_of_ne hj with h|h
  ·obtain⟨z,rfl⟩:∃z,q=j+1+z:=⟨q-(j+1),by omega⟩
   have e4:d*2^e=(d*2^(r+32*z))*4294967296^(j+1):=by
    rw[he,zf,eZ,<-dV];congr 2;omega
   rw[e4];exact Io (by omega)
  ·-- the quotient does not change
   obtain⟨z,rfl⟩:∃z,j=q+1+z:=⟨j-(q+1),by omega⟩
   have e5:∀X,X/4294967296^(q+1+z)=X/4294967296^q/2^(r+w)/(2^c*4294967296^z):=fun X=>by
    rw[ke,ke,<-eZ (2^(r+w)) (2^c),<-hB,dV,br,eZ]
   show(T+d*2^e)/_%_=T/_%_
   rw[e5,e5,eT,eT2,P5 _ (i_ _),bJ t,P4 (i_ _),kg hdr,gY]
def mb(b x k:Nat):Nat:=x/b^k*b^k
theorem aeg(b x:Nat):mb b x 0=x:=by unfold mb;rw[jB,pf,fh]
theorem aef(b x k:Nat):mb b x k=mb b x (k+1)+x/b^k%b*b^k:=by
 unfold mb
 rw[br,<-ke]
 have h:=gN (x/b^k) b
 generalize x/b^k=y at *
 generalize b^k=Q
 have h2:y*Q=(b*(y/b)+y%b)*Q:=by rw[h]
 rw[h2,cw]
 congr 1
 ac_rfl
theorem aee{b x n:Nat}(h:x<b^n):mb b x n=0:=by unfold mb;rw[kg h,fE]
theorem ZX(x i:Nat):dg x (2*i)=x/0x10000000000000000^i%0x10000000000000000%4294967296:=by
 unfold dg Dg.eJ
 rw[jS,show(4294967296:Nat)^2=0x10000000000000000 from by decide]
 omega
theorem ZY(x i:Nat):dg x (2*i+1)=x/0x10000000000000000^i%0x10000000000000000/4294967296:=by
 unfold dg Dg.eJ
 rw[br,<-ke,jS,show(4294967296:Nat)^2=0x10000000000000000 from by decide]
 omega
end Go.Vg
namespace Go.Proofs.YtfocopihipejfaaGreat
open Go.Vg Go.RowKit
set_option maxRecDepth 200000
set_option cbv.maxSteps 100000000
theorem Xk{a:Nat->Nat}{x:Nat}(ha:Wn 9 a)(hx:V 9 a=x){i:Nat}(hi:i<9):a i=x/0x10000000000000000^i%0x10000000000000000:=by
 rw[<-hx];exact(Dg.zH (b:=0x10000000000000000) (by decide) 9 ha i hi).symm
section
variable {P:Program}(hP:P=Tryz.prog){H:Nat->Nat->List SV}{S:Nat->Nat}(hs:HS H S)
include hP hs
theorem UW(a:Nat->Nat)(ha:Wn 9 a)(x:Nat)(hx:V 9 a=x):x<4294967296^18/\ah P 26 [.agg (ws a 9)] [] 0 [] (fun w L q=>w= .slice 0 0 (S x) 18/\L=[⟨0,H x 18,88⟩]/\q=1):=by
 have qt:x<4294967296^18:=by
  rw[<-hx]
  exact cg (eg ha) (by decide)
 refine⟨qt,?_⟩
 obtain⟨Z,hZ⟩:=aa (fun i=>Vg.hs (wr (dg x) i) 18:Nat->List SV)
 have bZ:∀m i,an m (Z i)=true:=fun m i=>by rw[hZ];exact dG _ _ m
 have jN:List.replicate 18 (SV.int .u32 0)=Z 0:=by rw[hZ,qm];show _=Vg.hs (wr _ 0) 18;rw[E4]
 have cj:Z 18=H x 18:=by rw[hZ,hs.h];exact Gz _ _
 have jb:ah P 69 [.slice 0 0 18 18] [⟨0,Z 18,88⟩] 1 [] (fun w _ _=>w= .slice 0 0 (S x) 18):=by
  rw[cj,hs.h];exact pU hP (dg x) 18 18 (S x) (aE _) (by decide) (by rw[hs.s,rU qt])
 rw[<-cj]
 refine ah.dj (R:=fun w L q=>w= .slice 1 0 (S x) 18/\find L 1=some ⟨1,Z 18,88⟩) ?_ fun v L q ⟨h1,h2⟩=>⟨fun l=>l+1,.slice 0 0 (S x) 18,[⟨0,Z 18,88⟩],1,by subst h1;exact dH ⟨rfl,rfl,trivial⟩ ⟨by rw[ae (Z 18) (bZ 0 18)];exact h2,rfl,rfl,bZ 1 18,trivial⟩ rfl rfl rfl,rfl,rfl,rfl⟩
 obtain⟨D,hD⟩:=aa (dg x)
 have kp:∀i,i<9->a i%4294967296=D (2*i):=fun i h=>by rw[hD,Xk ha hx h];exact(ZX x i).symm
 have JC:∀i,i<9->a i/4294967296=D (2*i+1):=fun i h=>by rw[hD,Xk ha hx h];exact(ZY x i).symm
 rw[<-hD]at hZ
 clear hD cj
 refine aq hP Tryz.func26 (ak _ rfl) (aD rfl) ?_
 intro A g K hA hg hK
 obtain⟨bin,sh,cmp,_,aX,ix,_,_,_,_,_,_,_,_,_,off,_,_,_,eU⟩:=A
 have f1:∀i,i<9->cmp .lss (.ofNat i) 9=true:=fun i h=>cZ hA (b:=9) h
 have iD:cmp .lss (.ofNat 9) 9=false:=bM hA (a:=9) (b:=9) (by omega)
 have f2:∀i,i<9->ix (.ofNat i) 9=some i:=fun i h=>bB hA h
 have f3:∀i,off 0 i 1=i:=fun i=>(dh hA 0 i 1).trans (by omega)
 have f4:=fun(i:Nat) (h:i<9)=>ei hA .u64 (n:=9) a h
 have f5:∀i,i<18->ix (.ofNat i) 18=some i:=fun i h=>bB hA h
 have f6:∀i v,i<18->v=D i->eU (Z i) i [.int .u32 (.ofNat v)]=some (Z (i+1)):=fun i v h hv=>by rw[hZ];exact gX hA .u32 (n:=18) (wr D i) (wr D (i+1)) h (E3 D i v hv)
 have f7:∀i,i<100->bin .add .i64 (.ofNat i) 1=Int.ofNat (i+1):=fun i h=>e_ hA (a:=i) (b:=1) (by omega)
 simp only[aw,Nat.reduceAdd]at f4
 have hU:=rV hP
 clear hZ
 cbv
 refine nL (hP▸aI) hg rfl rfl (show av 23=some _ from rfl) rfl (show av 88=some _ from rfl) hU rfl (m:=18) rfl rfl (by decide) (by decide) ?_
 rw[jN]
 cbv
 refine bH Nat (fun i=>i<=9) (fun i=>9-i) (fun i=> [(4,.int .i64 (.ofNat i))]) [1,2,3] (fun i=> [(1,Z (2*i))]) 0 (bf _) ?_ ?_
 ·exact aS (by repeat' (first|exact trivial|refine⟨rfl,rfl,rfl,?_⟩|refine⟨rfl,rfl,bZ 2 (2*0),?_⟩))
 intro i hi
 by_cases ab:i<9
 ·obtain⟨i2,oM⟩:=aa (2*i)
  obtain⟨i3,JG⟩:=aa (i2+1)
  obtain⟨lo,aa9⟩:=aa (a i%4294967296)
  obtain⟨tc,aaZ⟩:=aa (a i/4294967296)
  have la:a i<0x10000000000000000:=ha i ab
  have g1:bin .mul .i64 2 (.ofNat i)=Int.ofNat i2:=(k8 hA (a:=2) (b:=i) (by omega)).trans (by rw[oM])
  have g2:bin .and .u64 (.ofNat (a i)) 4294967295=Int.ofNat lo:=uL hA la aa9
  have g3:aX .u32 (.ofNat lo)=Int.ofNat lo:=jr hA (by omega)
  have g4:sh .shr .u64 (.ofNat (a i)) 32=Int.ofNat tc:=yI hA aaZ
  have g5:aX .u32 (.ofNat tc)=Int.ofNat tc:=jr hA (by omega)
  have g6:=f6 i2 lo (by omega) (by rw[aa9,oM];exact kp i ab)
  have g7:=f6 i3 tc (by omega) (by rw[aaZ,JG,oM];exact JC i ab)
  have g8:=f7 i2 (by omega)
  have g9:=f7 i (by omega)
  rw[<-JG]at g6 g8
  obtain⟨Zn,cj⟩:=aa (Z (i3+1))
  rw[<-cj]at g7
  rw[<-oM]
  cbv
  rw[f1 i ab]
  cbv
  rw[g1]
  cbv
  rw[f2 i ab]
  cbv
  rw[f3,f4 i ab]
  cbv
  rw[g2]
  cbv
  rw[g3]
  cbv
  rw[f5 i2 (by omega)]
  cbv
  rw[f3,g6]
  cbv
  rw[g1]
  cbv
  rw[g8]
  cbv
  rw[f2 i ab]
  cbv
  rw[f3,f4 i ab]
  cbv
  rw[g4]
  cbv
  rw[g5]
  cbv
  rw[f5 i3 (by omega)]
  cbv
  rw[f3,g7]
  cbv
  rw[g9]
  refine⟨i+1,_root_.id,ab,(by show 9-(i+1)<9-i;omega),?_⟩
  rw[show 2*(i+1)=i3+1 by omega,<-cj]
  have HW:∀m,an m Zn=true:=fun m=>by rw[cj];exact bZ m _
  exact aS (by repeat' (first|exact trivial|refine⟨rfl,rfl,rfl,?_⟩|refine⟨rfl,rfl,HW 2,?_⟩))
 ·obtain rfl:i=9:=by omega
  obtain⟨Ze,Nk⟩:=aa (Z 18)
  rw[show 2*9=18 from rfl,<-Nk]
  rw[<-Nk]at jb
  have bZe:∀m,an m Ze=true:=fun m=>by rw[Nk];exact bZ m _
  cbv
  rw[iD]
  cbv
  refine fT rfl hg rfl rfl jb (fun _=>1) rfl (fG (bZe 0) rfl) ?_
  rintro _ _ _ rfl
  refine⟨by simp[bd],by simp[bd,cK],?_⟩
  cbv
  exact hK _ _ _ ⟨rfl,by rw[Nk];rfl⟩
theorem B8{x c:Nat}(hx:x<4294967296^c)(r:Nat->Nat)(hr:Wn 9 r)(J9:V 9 r=x):ah P 19 [.slice 0 0 (S x) c] [⟨0,H x c,88⟩] 1 [] (fun w _ _=>w= .agg (ws r 9)):=by
 have hn:=hs.nm hx
 have jt:∀i,ah P 54 [.slice 0 0 (S x) c,.int .i64 (.ofNat i)] [⟨0,H x c,88⟩] 1 [] (fun w _ _=>w= .int .u64 (.ofNat (dg x i))):=fun i=>by
  rw[hs.h]
  exact zA hP (dg x) (S x) c i _ hn.le hn.w (by
   by_cases h:i<S x
   ·rw[aj h]
   ·rw[af h,hn.pj (by omega)])
 obtain⟨D,hD⟩:=aa (dg x)
 have lD:∀i,D i<4294967296:=fun i=>by rw[hD];exact gR _ _
 have hw:∀i,i<9->D (2*i)+D (2*i+1)*4294967296=r i:=fun i h=>by
  rw[hD,ZX,ZY,<-Xk hr J9 h];omega
 rw[<-hD]at jt
 obtain⟨C,hC⟩:=aa (H x c)
 have bC:∀m,an m C=true:=fun m=>by rw[hC];exact hs.b m x c
 obtain⟨n,hnn⟩:=aa (S x)
 rw[<-hC,<-hnn]at jt⊢
 clear hC hnn hD hn
 refine aq hP Tryz.func19 ⟨ao rfl,trivial⟩ (by simpa [ay,bd]using ak _ (bC 1)) ?_
 intro A g K hA hg hK
 obtain⟨bin,sh,cmp,_,_,ix,_,_,_,_,_,_,_,_,_,off⟩:=A
 have f1:∀i,i<9->cmp .lss (.ofNat i) 9=true:=fun i h=>cZ hA (b:=9) h
 have iD:cmp .lss (.ofNat 9) 9=false:=bM hA (a:=9) (b:=9) (by omega)
 have f2:∀i,i<9->ix (.ofNat i) 9=some i:=fun i h=>bB hA h
 have f3:∀i,off 0 i 1=i:=fun i=>(dh hA 0 i 1).trans (by omega)
 have f5:=fun(f g:Nat->Nat) (i v:Nat) (h:i<9) (e:g=fun j=>if j=i then v else f j)=>gX hA .u64 (n:=9) f g h e
 have f7:∀i,i<100->bin .add .i64 (.ofNat i) 1=Int.ofNat (i+1):=fun i h=>e_ hA (a:=i) (b:=1) (by omega)
 simp only[aw,Nat.reduceAdd]at f5
 cbv
 refine bH (Nat×(Nat->Nat)) (fun s=>s.1<=9/\s.2=wr r s.1) (fun s=>9-s.1) (fun s=> [(4,.int .i64 (.ofNat s.1))]) [0,2,3] (fun s=> [(2,ws s.2 9)]) (0,fun _=>0) ⟨bf _,(E4 r).symm⟩ ?_ ?_
 ·exact aS (by repeat' (first|exact trivial|refine⟨rfl,rfl,rfl,?_⟩|refine⟨rfl,rfl,bC 3,?_⟩))
 rintro⟨i,f⟩ ⟨hi,hf⟩
 change i<=9 at hi
 change f=wr r i at hf
 by_cases ab:i<9
 ·obtain⟨i2,oM⟩:=aa (2*i)
  obtain⟨i3,JG⟩:=aa (i2+1)
  obtain⟨w1,kI⟩:=aa (D i3*4294967296)
  obtain⟨w2,uJ⟩:=aa (D i2+w1)
  have l1:=lD i2
  have l2:=lD i3
  have hv:w2=r i:=by rw[uJ,kI,JG,oM];exact hw i ab
  have g1:bin .mul .i64 2 (.ofNat i)=Int.ofNat i2:=(k8 hA (a:=2) (b:=i) (by omega)).trans (by rw[oM])
  have g2:=f7 i2 (by omega)
  have g3:sh .shl .u64 (.ofNat (D i3)) 32=Int.ofNat w1:=(mP hA (k:= .u64) rfl (D i3) (s:=32) (by decide)).trans (aK Int.ofNat (by rw[kI];show D i3*4294967296%0x10000000000000000=_;omega))
  have g4:bin .or .u64 (.ofNat (D i2)) (.ofNat w1)=Int.ofNat w2:=(l9 hA (k:= .u64) rfl (a:=D i2) (b:=w1) (by show D i2<0x10000000000000000;omega) (by show w1<0x10000000000000000;omega)).trans (aK Int.ofNat (by rw[uJ,kI,zm,show(4294967296:Nat)=2^32 from rfl,oy (s:=32) l1,oB]))
  have NG:wr r (i+1)=fun j=>if j=i then w2 else f j:=by rw[hf];exact E3 r i w2 hv
  obtain⟨fn,aaW⟩:=aa (wr r (i+1))
  rw[<-aaW]at NG
  have g5:=f5 f fn i w2 ab NG
  have g6:=f7 i (by omega)
  rw[<-JG]at g2
  cbv
  rw[f1 i ab]
  cbv
  rw[g1]
  cbv
  refine aZ hg (jt i2) (fun _=>0) (fG (bC 0) rfl) ?_
  cbv
  rw[g1]
  cbv
  rw[g2]
  cbv
  refine aZ hg (jt i3) (fun _=>0) (fG (bC 0) rfl) ?_
  cbv
  rw[g3]
  cbv
  rw[g4]
  cbv
  rw[f2 i ab]
  cbv
  rw[f3,g5]
  cbv
  rw[g6]
  refine⟨(i+1,fn),_root_.id,⟨ab,aaW⟩,(by show 9-(i+1)<9-i;omega),?_⟩
  exact aS (by repeat' (first|exact trivial|refine⟨rfl,rfl,rfl,?_⟩|refine⟨rfl,rfl,bC 3,?_⟩))
 ·obtain rfl:i=9:=by omega
  have e:ws f 9=ws r 9:=by rw[hf];exact rK fun j _ hj=>by unfold wr;rw[aj (by omega)]
  cbv
  rw[iD]
  cbv
  exact hK _ _ _ (by rw[<-e];rfl)
end
end Go.Proofs.YtfocopihipejfaaGreat
