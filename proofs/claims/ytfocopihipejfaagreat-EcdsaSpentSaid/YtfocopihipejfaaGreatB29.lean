/-
  This text proves what these texts prove: Or, Ow, Ldp, Pzp, Ox, RM, EcdsaRanges, Ou, Ov, EcdsaSpent. Conditions: those of each theorem.
-/
import Derived.Test.YtfocopihipejfaaGreatB21
import Derived.Test.YtfocopihipejfaaGreatB27
import Derived.Test.YtfocopihipejfaaGreatB20
import Derived.Test.YtfocopihipejfaaGreatB28
import Derived.Test.YtfocopihipejfaaGreatB26
import Derived.Test.YtfocopihipejfaaGreatB25
import Derived.Test.YtfocopihipejfaaGreatB15
import Derived.Test.YtfocopihipejfaaGreatB01
import Derived.Test.YtfocopihipejfaaGreatB06
import Derived.Test.YtfocopihipejfaaGreatRows
set_option maxHeartbeats 8000000
set_option linter.all false
namespace EC
theorem Q5{c:Nat}(h:1<=c/\c<=15):cp c≠2:=by
 have h0:((List.range 16).all fun k=>k==0||decide (cp k≠2))=true:=by decide +kernel
 have h1:=gf.1 h0 c (tQ.2 (by omega))
 rw[show(c==0)=false by simp;omega,Bb]at h1
 exact KT h1
end EC
namespace Go.Proofs.YtfocopihipejfaaGreat
open Go.Vg Go.RowKit
set_option maxRecDepth 200000
set_option cbv.maxSteps 100000000
theorem afe:(⟨2,sB.k,sB.v,1⟩:Sh.Dr)=sB:=by
 have h1:sB.id=2:=Sh.EX _ _
 have h2:sB.n=1:=Sh.Wh _ _
 generalize sB=D at h1 h2
 cases D
 simp only at h1 h2
 subst h1 h2
 rfl
theorem Mi:Sh.Ok sB:=Sh.Ok.new (by decide) _
theorem Qj:zF 8 (EC.cn 13) 2 [109]=98:=by decide +kernel
def vO:Sg:=o_ 1 0 13 98 5 64 sB
def HV:Nat:=G7 13 vO.s
theorem awS:vO.c=0/\1<=vO.t/\vO.r≠0/\vO.r<EC.cn 13/\vO.s≠0/\vO.s<EC.cn 13/\HV<EC.cn 13/\HV*vO.s%EC.cn 13=1:=by decide +kernel
def t_:EC.Pt (EC.cp 13):=EC.smul EC.aN (EC.ca 13) 5 (EC.G 13)
def Qk:EC.Pt (EC.cp 13):=EC.add EC.aN (EC.ca 13) (EC.smul EC.aN (EC.ca 13) (98*HV%EC.cn 13) (EC.G 13)) (EC.smul EC.aN (EC.ca 13) (vO.r*HV%EC.cn 13) t_)
theorem awV:(!uO Qk&&decide (qz Qk%EC.cn 13=vO.r))=true:=by decide +kernel
theorem YS:uO t_=false:=by decide +kernel
theorem afg:t_≠EC.G 13:=by decide +kernel
theorem afd:Sh.word (Sh.of 2 [109])/2^248=98:=by decide +kernel
theorem Mh:ig (EC.cn 13) 8:=by rw[HU];unfold ig;decide
theorem aeX{H:Nat->Nat->List SV}{S:Nat->Nat}(hs:HS H S){w y c:Nat}(h:4294967296^w<=y)(hy:y<4294967296^c):w<S y:=by
 refine sg fun h1=> ?_
 have h2:=(hs.nm hy).lt
 have h3:=cV (n:=4294967296) (by decide) h1
 exact absurd h (Nat.not_le_of_lt (cg h2 h3))
theorem aff:∃U V:Fin (EC.cp 13),t_= .A U V:=by
 have h:=YS
 cases hq:t_ with
 |O=>rw[hq]at h;cases h
 |A U V=>exact⟨U,V,rfl⟩
theorem afP{P:Program}(hP:P=Tryz.prog):ah P 17 [] [] 0 [] (fun v _ _=>v= .bool true):=by
 obtain⟨H,hH⟩:=aa (fun x c=>hs (dg x) c:Nat->Nat->List SV)
 obtain⟨S,hS⟩:=aa (Vg.sz:Nat->Nat)
 have b9:HS H S:=⟨hH,hS⟩
 clear hH hS
 have sU:1<=13/\13<=15:=by decide
 have hid:sB.id=2:=Sh.EX _ _
 obtain⟨k0,fB⟩:∃b,bl b=sB.k:=⟨ib sB.k,gu Mi.kb⟩
 obtain⟨v0,kH⟩:∃b,bl b=sB.v:=⟨ib sB.v,gu Mi.vb⟩
 have jd:k0.size=Sh.size 2:=by rw[<-bh,fB,Mi.kl,hid]
 have iz:v0.size=Sh.size 2:=by rw[<-bh,kH,Mi.vl,hid]
 have hSe:=agV hP ⟨#[101]⟩ k0 v0 (by decide) fB kH
 obtain⟨a5,ur⟩:=aa (sm 5)
 obtain⟨a0,qZ⟩:=aa (sm 0)
 have w5:Wn 9 a5:=by rw[ur];exact adL (by decide)
 have w0:Wn 9 a0:=by rw[qZ];exact adL (by decide)
 have v5:V 9 a5=5:=by rw[ur];exact adK 5
 have vv0:V 9 a0=0:=by rw[qZ];exact adK 0
 have Sj:=Zw hP 5 a5 ur
 have IY:=Zw hP 0 a0 qZ
 clear ur qZ
 obtain⟨msg,NR⟩:=aa (⟨#[109]⟩:ByteArray)
 have DX:bl msg=[109]:=by rw[NR];rfl
 have oT:msg.size<140737488352000:=by rw[NR];decide
 obtain⟨s1,s2,s3,s4,s5,s6,s7,s8⟩:=awS
 obtain⟨R,hR⟩:=aa vO
 have I3:=awV
 unfold Qk at I3
 obtain⟨W,hW⟩:=aa HV
 rw[<-hR]at s1 s2 s3 s4 s5 s6 s8 I3
 rw[<-hW]at s7 s8 I3
 have dK:R=o_ 1 0 13 (zF 8 (EC.cn 13) 2 (bl msg)) (V 9 a5) 64 ⟨2,bl k0,bl v0,1⟩:=by rw[hR,DX,Qj,v5,fB,kH,afe];rfl
 have ab:EC.cn 13<0x10000000000000000^9:=by rw[HU];decide
 obtain⟨rW,wr,vr⟩:=cD 9 R.r (cT s4 ab)
 obtain⟨sW,PG,vs⟩:=cD 9 R.s (cT s6 ab)
 have Nf:=VT 1 0 13 (zF 8 (EC.cn 13) 2 (bl msg)) (V 9 a5) 64 (D:=⟨2,bl k0,bl v0,1⟩) ⟨(by show 1<=2/\2<=4;decide),by rw[bh,jd],by rw[bh,iz],i' k0,i' v0⟩
 rw[<-dK]at Nf
 obtain⟨k1,dM⟩:∃b,bl b=R.g.k:=⟨ib R.g.k,gu Nf.1.kb⟩
 obtain⟨v1,gD⟩:∃b,bl b=R.g.v:=⟨ib R.g.v,gu Nf.1.vb⟩
 have Sz:=agW hP 13 sU 8 1 0 Mh rfl rfl 2 (by decide) msg (by omega) a5 w5 (by rw[v5];decide) (by rw[v5,HU];decide) k0 v0 1 jd iz (by decide) R dK rW sW wr PG vr vs k1 v1 dM gD
 obtain⟨nr,Ap⟩:=aa R.g.n
 obtain⟨tr,BZ⟩:=aa R.t
 rw[s1,<-Ap,<-BZ]at Sz
 rw[<-BZ]at s2
 have hSH:=agX hP 13 sU msg a5 [.int .i64 (.ofNat 2),.str k1,.str v1,.int .i64 (.ofNat nr)] (fun m=>rfl) 0 (af_ hP 0 (by decide) (by decide) (by decide) (by decide))
 have hSK:=agY hP 13 sU msg a0 [.int .i64 (.ofNat 2),.str k1,.str v1,.int .i64 (.ofNat nr)] (fun m=>rfl) 2 (by decide) w0 (by rw[vv0];simp)
 have hSN:=agZ hP 13 sU msg a5 (Int.ofNat 2)
 obtain⟨eW,CC,xI⟩:=cD 9 98 (by decide)
 have hDp:=afY hP 13 sU 2 (by decide) msg (by omega) 8 Mh eW CC (by rw[xI,DX,Qj])
 -- the document's side
 obtain⟨sp,sa,sb,sn,sx,sy⟩:=tK sU
 obtain⟨p,hp⟩:=aa (f_ 13)
 obtain⟨va,uI⟩:=aa (sF 13)
 obtain⟨vb,El⟩:=aa (o9 13)
 obtain⟨n,hn⟩:=aa (qC 13)
 obtain⟨gx,DN⟩:=aa (tI 13)
 obtain⟨gy,DP⟩:=aa (tJ 13)
 obtain⟨pc,ac,bc,nc,xc,yc,bp,ba,bb,bn,bx,sE,R9⟩:=acq hP b9 13 sU p va vb n gx gy hp uI El hn DN DP
 rw[<-hp]at sp
 rw[<-uI]at sa
 rw[<-hn]at sn
 rw[<-DN]at sx
 rw[<-DP]at sy
 have vN:=fun m=>b9.b m n nc
 have vP:=fun m=>b9.b m p pc
 have vA:=fun m=>b9.b m va ac
 have vB:=fun m=>b9.b m vb bc
 have vX:=fun m=>b9.b m gx xc
 have vY:=fun m=>b9.b m gy yc
 clear hp uI El hn DN DP
 have l8:n=EC.cn 13:=sn.symm
 have db:p=EC.cp 13:=sp.symm
 have tP:=gn 13
 rw[sx,sy]at tP
 have h5B:5<4294967296:=by decide
 have aka:=OQ hP b9 h5B
 have hS5:=b9.one h5B (by decide)
 have NX:EC.cp 13<4294967296^18:=cg (pV sU) (by decide)
 have Ax:=EC.small 13
 simp only[dq,qT]at Ax
 obtain⟨U5,V5,Aa⟩:=aff
 obtain⟨x5,AF⟩:=aa U5.val
 obtain⟨y5,AL⟩:=aa V5.val
 obtain⟨c5,yB⟩:=aa ((ky S (EC.ca 13) (EC.nf (EC.aU 13)) (EC.nf (EC.cJ 13)) 5 0).1)
 obtain⟨e5,he5⟩:=aa ((ky S (EC.ca 13) (EC.nf (EC.aU 13)) (EC.nf (EC.cJ 13)) 5 0).2)
 obtain⟨bX5,bY5,hT⟩:=acA hP b9 (p:=EC.cp 13) (pc:=pc) (EC.pI 13) (by rw[<-db];exact bp) NX 13 (S vb) (S n) (S gx) (S gy) bc nc xc yc (H vb bc) (H n nc) (H gx xc) (H gy yc) vB vN vX vY (EC.Q5 sU) (EC.ca 13) (EC.cb 13) (EC.nf (EC.aU 13)) (EC.nf (EC.cJ 13)) (EC.nF 13) (EC.qK 13) (a:=va) (by rw[<-sa];exact(EC.qH _ Ax.1.1.1.1.1.1).symm) tP.gx.symm tP.gy.symm ba (kk:=5) (kc:=1) (by decide) (by decide) bx sE t_ rfl U5 V5 Aa afg x5 y5 c5 e5 AF AL yB he5
 have aeu:∀m,an m (H x5 c5)=true:=fun m=>b9.b m x5 c5
 have aev:∀m,an m (H y5 e5)=true:=fun m=>b9.b m y5 e5
 clear yB he5
 rw[show S (EC.cp 13)=S p from by rw[db],show H (EC.cp 13) pc=H p pc from by rw[db],aka,hS5]at hT
 have R7:=mG hP b9 13 (S p) (S va) (S vb) (S n) (S gx) (S gy) pc ac bc nc xc yc (H p pc) (H va ac) (H vb bc) (H n nc) (H gx xc) (H gy yc) vP vA vB vN vX vY
 have LG:=afd
 obtain⟨y,hy⟩:=aa (Sh.word (Sh.of 2 (bl msg)))
 rw[DX]at hy
 rw[<-hy]at LG
 have yge:4294967296^7<=y:=by
  have h1:98*2^248<=y:=by rw[<-LG];exact CP _ _
  exact eH (by decide) h1
 have ylt:y<4294967296^8:=by
  have h1:=Nat.lt_mul_of_div_lt (show y/2^248<99 by rw[LG];decide) (by decide)
  exact cg h1 (by decide)
 have GU:n<4294967296^18:=by rw[l8,HU];decide
 obtain⟨ec,hec,um⟩:=ak4 hP b9 13 (S p) (S va) (S vb) (S gx) (S gy) pc ac bc xc yc (H p pc) (H va ac) (H vb bc) (H gx xc) (H gy yc) vP vA vB vX vY bn GU 8 (by rw[l8];exact Mh) (by decide) 2 (by decide) (adr hP (Or.inr rfl)) msg oT y 7 24 98 (by rw[DX];exact hy) rfl (by decide) (by decide) (aeX b9 yge ylt) LG.symm (by rw[l8,HU];decide)
 have vE:=fun m=>b9.b m 98 ec
 have ai':=B8 hP b9 hec eW CC xI
 -- the point and Verify
 obtain⟨X5,Lo,Lh⟩:=cD 9 (qz t_) (cT (K2 t_) (pV sU))
 obtain⟨Y5,Lq,Li⟩:=cD 9 (uP t_) (cT (K3 t_) (pV sU))
 have Nb:=acv hP b9 bX5 bY5 X5 Y5 Lo Lq (by rw[Lh,AF,Aa];rfl) (by rw[Li,AL,Aa];rfl) false
 have z7:mW 13 t_ X5 Y5 false:=⟨Lo,Lq,Lh,Li,YS.symm⟩
 have oQ:EC.eI (EC.ca 13) (EC.cb 13) t_:=EC.nM (EC.nF 13) (EC.qK 13) 5
 have uq:=ag7 hP 13 sU 2 (by decide) oQ z7 msg (by omega) rW sW wr PG (by rw[vr];exact s3) (by rw[vr];exact s4) (by rw[vs];exact s5) (by rw[vs];exact s6) W s7 (by rw[vs];exact s8) 8 Mh _ rfl true (by rw[DX,Qj,vr];exact I3.symm)
 have ng:=ZG hP 13 sU 2 (by decide) oQ z7 msg (fun _=>0) (fun _=>0) (fun _ _=>by show 0<0x10000000000000000;decide) (fun _ _=>by show 0<0x10000000000000000;decide) (fun h=>h.1.1 rfl)
 have hN:=fun x=>Zs hP x
 have q2:true=lP eW eW:=by simp[lP]
 rw[NR]at Sz hSH hSK hSN hDp um uq ng
 clear fB kH hR dK dM gD vr vs I3 Ap BZ NR DX hy LG yge ylt db l8 tP Ax Nf xI z7 oQ sp sa sb sn sx sy
 refine aq hP Tryz.func17 (ak _ rfl) (aD rfl) ?_
 intro A g K hA hg hK
 obtain⟨_,_,cmp,_,_,_,_,_,fQ⟩:=A
 have e1:fQ true=false:=ln hA true
 have e0:fQ false=true:=ln hA false
 have t0:cmp .eql 0 0=true:=iP hA (a:=0) (b:=0) rfl
 have t4:cmp .geq (.ofNat tr) 1=true:=kC hA (a:=tr) (b:=1) s2
 have t5:cmp .eql (.ofNat 0) 0=true:=t0
 have t6:cmp .eql 2601 2601=true:=iP hA (a:=2601) (b:=2601) rfl
 have t7:cmp .eql 2602 2602=true:=iP hA (a:=2602) (b:=2602) rfl
 have t1:cmp .eql 1 1=true:=iP hA (a:=1) (b:=1) rfl
 cbv
 refine bq hg hSe _root_.id trivial ?_
 cbv
 rw[e1]
 cbv
 refine dJ hg Sj ?_
 cbv
 refine bq hg Sz (fun _=>0) ⟨rfl,trivial⟩ ?_
 cbv
 refine bq hg R9 _root_.id trivial ?_
 simp only[aG,ae _ (vP 0),ae _ (vA 0),ae _ (vB 0),ae _ (vN 0),ae _ (vX 0),ae _ (vY 0)]
 cbv
 refine cm hP hA hg ?_
 cbv
 refine eV (FE rfl hg rfl rfl R7 (fun l=>l+3) rfl (Iz (vP 0) (vA 0) (vB 0) (vN 0) (vX 0) (vY 0) rfl rfl rfl rfl rfl rfl) rfl (fun _ _ _ h=>h) ⟨ao rfl,ao rfl,trivial,trivial⟩) ?_
 cbv
 refine adX rfl hg rfl rfl hT (by
  intro b hb
  simp only[Fg,Hw,OR]at hb
  rcases hb with rfl|rfl|rfl|rfl|rfl|rfl|rfl|rfl|rfl
  ·exact⟨ao rfl,vP 9⟩
  ·exact⟨ao rfl,vA 9⟩
  ·exact⟨ao rfl,vB 9⟩
  ·exact⟨ao rfl,vN 9⟩
  ·exact⟨ao rfl,vX 9⟩
  ·exact⟨ao rfl,vY 9⟩
  ·exact⟨ao rfl,rfl⟩
  ·exact⟨ao rfl,vX 9⟩
  ·exact⟨ao rfl,vY 9⟩) (by
  intro b hb
  simp only[Fg,Hw,OR]at hb
  rcases hb with rfl|rfl
  ·exact⟨aE _,ao rfl⟩
  ·exact⟨vu _,ao rfl⟩) (by
  intro l h1 h2
  rcases(show l=9\/l=10 by omega)with rfl|rfl
  ·exact⟨_,kd,rfl⟩
  ·exact⟨_,lj _ (il.2 rfl),rfl⟩) (by simp) (by decide) (fun l=>if l=6 then 10 else if l=7 then 7 else if l=8 then 8 else l+3) rfl ⟨by rw[ae _ (vP 0)];rfl,by rw[ae _ (vA 0)];rfl,by rw[ae _ (vB 0)];rfl,by rw[ae _ (vN 0)];rfl,by rw[ae _ (vX 0)];rfl,by rw[ae _ (vY 0)];rfl,rfl,by rw[ae _ (vX 0)];rfl,by rw[ae _ (vY 0)];rfl,trivial⟩ rfl ?_
 simp only[aG,ae _ (aeu 0),ae _ (aev 0)]
 cbv
 refine aY hg Nb (fun l=>if l=0 then 11 else 12) (zO (aeu 0) (aev 0) rfl rfl) ?_
 cbv
 refine dJ hg Sj ?_
 cbv
 refine aZ hg hSH (fun _=>0) ⟨rfl,trivial⟩ ?_
 cbv
 refine dJ hg IY ?_
 cbv
 refine aZ hg hSK (fun _=>0) ⟨rfl,trivial⟩ ?_
 cbv
 refine dJ hg Sj ?_
 cbv
 refine dJ hg hSN ?_
 cbv
 refine dJ hg hDp ?_
 cbv
 refine cm hP hA hg ?_
 cbv
 refine bN hg (hN 0) ?_
 cbv
 rw[t0]
 cbv
 rw[t4]
 cbv
 refine bN hg uq ?_
 cbv
 refine bN hg ng ?_
 cbv
 rw[e0]
 cbv
 refine bN hg (hN 2601) ?_
 cbv
 rw[t6]
 cbv
 refine bN hg (hN 2602) ?_
 cbv
 rw[t7]
 cbv
 refine bN hg (hN 1) ?_
 cbv
 rw[t1]
 cbv
 refine bN hg (hN 0) ?_
 cbv
 rw[t0]
 cbv
 refine tL rfl hg rfl rfl um (vE 0) (by
  intro b hb
  simp only[Fg,Hw,OR]at hb
  rcases hb with rfl|rfl|rfl|rfl|rfl|rfl
  ·exact⟨ao rfl,vP 6⟩
  ·exact⟨ao rfl,vA 6⟩
  ·exact⟨ao rfl,vB 6⟩
  ·exact⟨ao rfl,vN 6⟩
  ·exact⟨ao rfl,vX 6⟩
  ·exact⟨ao rfl,vY 6⟩) (fun l=>l+3) rfl (Iz (vP 0) (vA 0) (vB 0) (vN 0) (vX 0) (vY 0) rfl rfl rfl rfl rfl rfl) rfl ?_
 cbv
 refine aY hg ai' (fun _=>18) (qV (vE 0) rfl) ?_
 cbv
 refine eV (Bq hP hg rfl (a:=eW) (b:=eW) (r:=true) (Or.inr ⟨rfl,q2⟩) rfl rfl) ?_
 cbv
 exact hK _ _ _ rfl
section
variable {P:Program}(hP:P=Tryz.prog){H:Nat->Nat->List SV}{S:Nat->Nat}(hs:HS H S)
include hP hs
theorem acw(k nP nA nB nX nY cP cA cB cX cY:Nat)(r0 r1 r2 r4 r5:List SV)(b0:∀m,an m r0=true)(b1:∀m,an m r1=true)(b2:∀m,an m r2=true)(b4:∀m,an m r4=true)(b5:∀m,an m r5=true){n nc:Nat}(hn:n<4294967296^nc)(NS:n<4294967296^18)(JP:3<=n)(a d:Nat->Nat)(wa:Wn 9 a)(wd:Wn 9 d)(hd:V 9 d=V 9 a%(n-1)+1):
 ah P 27 [.agg (pW k (.slice 0 0 nP cP) (.slice 1 0 nA cA) (.slice 2 0 nB cB) (.slice 3 0 (S n) nc) (.slice 4 0 nX cX) (.slice 5 0 nY cY)),.agg (ws a 9)]
 [⟨0,r0,88⟩,⟨1,r1,88⟩,⟨2,r2,88⟩,⟨3,H n nc,88⟩,⟨4,r4,88⟩,⟨5,r5,88⟩] 6 [] (fun v _ _=>v= .agg (ws d 9)):=by
 have b3:=fun m=>hs.b m n nc
 obtain⟨x,hx⟩:=aa (V 9 a)
 obtain⟨qt,R5⟩:=UW hP hs a wa x hx.symm
 have Kj:x<4294967296^40:=j_ hP hs qt
 have vX:=fun m=>hs.b m x 18
 have ID:(1:Nat)<4294967296:=by decide
 have D9:=OQ hP hs ID
 have jC:=hs.one ID (by decide)
 obtain⟨m,hm⟩:=aa (n-1)
 obtain⟨mc,ti⟩:=aa (S n)
 obtain⟨bm,DA⟩:=OD hP hs hn (y:=1) (e:=1) (by decide) (j_ hP hs NS) (by omega) m hm mc ti
 have vM:=fun q=>hs.b q m mc
 rw[D9,jC]at DA
 rw[<-hm,<-hx]at hd
 have m0:0<m:=by omega
 have acW:(1:Nat)<4294967296^40:=by decide
 have hw:∀r s rc,r=x%m->s=r+1->r<4294967296^rc->∃kk,s<4294967296^kk/\ah P 29 [.slice 0 0 (S r) rc,.slice 1 0 1 1] [⟨0,H r rc,88⟩,⟨1,[.int .u32 (.ofNat 1)],88⟩] 2 [] (fun w L q=>w= .slice 2 0 (S s) kk/\L=[⟨2,H s kk,88⟩]/\q=3):=fun r s rc hr Ay kW=>by
  have RH:r<4294967296^40:=by
   rw[hr];exact eB (Nat.mod_le _ _) Kj
  obtain⟨kk,hk,kR⟩:=OA hP hs kW (y:=1) (e:=1) (by decide) RH acW s Ay
  rw[D9,jC]at kR
  exact⟨kk,hk,kR⟩
 obtain⟨s,BW⟩:=aa (x%m+1)
 rw[<-BW]at hd
 clear hm ti hx
 by_cases ab:x<m
 ·have dr:=GP hP hs qt bm Kj ab
  obtain⟨kk,hk,zS⟩:=hw x s 18 (aO ab).symm (by rw[BW,aO ab]) qt
  have vS:=fun m=>hs.b m s kk
  have uo:=B8 hP hs hk d wd hd
  clear hw BW
  refine aq hP Tryz.func27 ⟨⟨trivial,ao rfl,ao rfl,ao rfl,ao rfl,ao rfl,ao rfl,trivial⟩,(by simp[bd,ay,ws,aw])⟩ (by simpa [ay,bd]using⟨ak _ (b0 6),ak _ (b1 6),ak _ (b2 6),ak _ (b3 6),ak _ (b4 6),ak _ (b5 6)⟩) ?_
  intro A g K hA hg hK
  cases A
  cbv
  refine cm hP hA hg ?_
  cbv
  refine tL rfl hg rfl rfl R5 (vX 0) (fun _ h=>by cases h) _root_.id rfl trivial rfl ?_
  cbv
  refine tL rfl hg rfl rfl DA (vM 0) (by intro b hb;rcases List.mem_cons.1 hb with rfl|hb;exact⟨ao rfl,b3 2⟩;obtain rfl:=il.1 hb;exact⟨ao rfl,rfl⟩) (fun l=>if l=0 then 3 else 10) rfl ⟨by rw[ae _ (b3 0)];rfl,rfl,trivial⟩ rfl ?_
  cbv
  refine eV (FE rfl hg rfl rfl dr (fun l=>if l=0 then 9 else 11) rfl (zO (vX 0) (vM 0) rfl rfl) rfl (fun _ _ _ h=>h) (ao rfl)) ?_
  cbv
  refine bq hg zS (fun l=>if l=0 then 9 else 12) ⟨by rw[ae _ (vX 0)];rfl,rfl,trivial⟩ ?_
  simp only[aG,ae (H s kk) (vS 0)]
  cbv
  refine aZ hg uo (fun _=>13) (fG (vS 0) rfl) ?_
  cbv
  exact hK _ _ _ rfl
 obtain⟨r,hr⟩:=aa (x%m)
 rw[<-hr]at BW
 by_cases hz:4294967296<=m/\r=0
 ·have dr:=acu hP hs qt bm Kj (by omega) hz.1 (by rw[<-hr];exact hz.2)
  obtain⟨kk,hk,zS⟩:=acn hP hs (y:=1) (e:=1) (by decide) acW
  rw[D9,jC]at zS
  obtain rfl:s=1:=by rw[BW,hz.2]
  have vS:=fun m=>hs.b m 1 kk
  have uo:=B8 hP hs hk d wd hd
  rw[jC]at uo
  clear hw BW
  refine aq hP Tryz.func27 ⟨⟨trivial,ao rfl,ao rfl,ao rfl,ao rfl,ao rfl,ao rfl,trivial⟩,(by simp[bd,ay,ws,aw])⟩ (by simpa [ay,bd]using⟨ak _ (b0 6),ak _ (b1 6),ak _ (b2 6),ak _ (b3 6),ak _ (b4 6),ak _ (b5 6)⟩) ?_
  intro A g K hA hg hK
  cases A
  cbv
  refine cm hP hA hg ?_
  cbv
  refine tL rfl hg rfl rfl R5 (vX 0) (fun _ h=>by cases h) _root_.id rfl trivial rfl ?_
  cbv
  refine tL rfl hg rfl rfl DA (vM 0) (by intro b hb;rcases List.mem_cons.1 hb with rfl|hb;exact⟨ao rfl,b3 2⟩;obtain rfl:=il.1 hb;exact⟨ao rfl,rfl⟩) (fun l=>if l=0 then 3 else 10) rfl ⟨by rw[ae _ (b3 0)];rfl,rfl,trivial⟩ rfl ?_
  cbv
  refine aY hg dr (fun l=>if l=0 then 9 else 11) (zO (vX 0) (vM 0) rfl rfl) ?_
  cbv
  refine bq hg zS (fun _=>12) ⟨rfl,trivial⟩ ?_
  simp only[aG,ae (H 1 kk) (vS 0)]
  cbv
  refine aZ hg uo (fun _=>13) (fG (vS 0) rfl) ?_
  cbv
  exact hK _ _ _ rfl
 obtain⟨rc,brc,dr⟩:∃rc,r<4294967296^rc/\ah P 56 [.slice 0 0 (S x) 18,.slice 1 0 (S m) mc] [⟨0,H x 18,88⟩,⟨1,H m mc,88⟩] 2 [] (fun w L q=>w= .slice 2 0 (S r) rc/\L=[⟨2,H r rc,88⟩]/\q=3):=by
  by_cases hb:m<4294967296
  ·exact⟨1,by rw[hr,zo];exact cT (ax _ m0) hb,UX hP hs qt bm Kj (by omega) m0 hb r hr⟩
  ·exact acs hP hs qt bm Kj (by omega) (by omega) r hr (fun h=>hz ⟨by omega,h⟩)
 have vR:=fun m=>hs.b m r rc
 obtain⟨kk,hk,zS⟩:=hw r s rc hr BW brc
 have vS:=fun m=>hs.b m s kk
 have uo:=B8 hP hs hk d wd hd
 clear hw BW
 refine aq hP Tryz.func27 ⟨⟨trivial,ao rfl,ao rfl,ao rfl,ao rfl,ao rfl,ao rfl,trivial⟩,(by simp[bd,ay,ws,aw])⟩ (by simpa [ay,bd]using⟨ak _ (b0 6),ak _ (b1 6),ak _ (b2 6),ak _ (b3 6),ak _ (b4 6),ak _ (b5 6)⟩) ?_
 intro A g K hA hg hK
 cases A
 cbv
 refine cm hP hA hg ?_
 cbv
 refine tL rfl hg rfl rfl R5 (vX 0) (fun _ h=>by cases h) _root_.id rfl trivial rfl ?_
 cbv
 refine tL rfl hg rfl rfl DA (vM 0) (by intro b hb;rcases List.mem_cons.1 hb with rfl|hb;exact⟨ao rfl,b3 2⟩;obtain rfl:=il.1 hb;exact⟨ao rfl,rfl⟩) (fun l=>if l=0 then 3 else 10) rfl ⟨by rw[ae _ (b3 0)];rfl,rfl,trivial⟩ rfl ?_
 cbv
 refine tL rfl hg rfl rfl dr (vR 0) (by intro b hb;rcases List.mem_cons.1 hb with rfl|hb;exact⟨ao rfl,vX 2⟩;obtain rfl:=il.1 hb;exact⟨ao rfl,vM 2⟩) (fun l=>if l=0 then 9 else 11) rfl (zO (vX 0) (vM 0) rfl rfl) rfl ?_
 cbv
 refine bq hg zS (fun l=>if l=0 then 12 else 13) ⟨by rw[ae _ (vR 0)];rfl,rfl,trivial⟩ ?_
 simp only[aG,ae (H s kk) (vS 0)]
 cbv
 refine aZ hg uo (fun _=>14) (fG (vS 0) rfl) ?_
 cbv
 exact hK _ _ _ rfl
end
def arJ(D:Sh.Dr):Nat->Sh.Dr
 |0=>D
 |i+1=>(Sh.generate (arJ D i) 1 []).2
theorem arL{D:Sh.Dr}(h:Sh.Ok D):∀i,Sh.Ok (arJ D i)
 |0=>h
 |i+1=>aaA (arL h i) 1
theorem arM(D:Sh.Dr):∀i,(arJ D i).id=D.id/\(arJ D i).n=D.n+i
 |0=>⟨rfl,rfl⟩
 |i+1=>by
  obtain⟨h1,h2⟩:=arM D i
  obtain⟨g1,g2⟩:=aaz (arJ D i) 1
  exact⟨g1.trans h1,by rw[show(arJ D (i+1)).n=(arJ D i).n+1 from g2,h2];omega⟩
theorem wrap_u64(x:Int):0<=IntKind.u64.wrap x/\IntKind.u64.wrap x<0x10000000000000000:=by
 simp only[IntKind.wrap,IntKind.bits,IntKind.signed]
 simp
 omega
theorem apw(x:Int)(m:Nat)(hm:0<m):∃k:Nat,k<m/\jH .rem .u64 (IntKind.u64.wrap x) (Int.ofNat m)=Int.ofNat k:=by
 obtain⟨h0,_⟩:=wrap_u64 x
 obtain⟨w,hw⟩:=Int.eq_ofNat_of_zero_le h0
 refine⟨w%m,ax _ hm,?_⟩
 rw[hw]
 rfl
theorem ah6{A:Ar}(hA:A=Ar.real)(x:Int)(hx: -9223372036854775808<=x/\x<=9223372036854775807):∃c:Nat,1<=c/\c<=15/\A.bin .add .i64 1 (A.aX .i64 (A.bin .rem .u64 (A.aX .u64 x) 15))=Int.ofNat c:=by
 obtain⟨k,hk,he⟩:=apw x 15 (by decide)
 refine⟨1+k,by omega,by omega,?_⟩
 have h1:A.bin .rem .u64 (A.aX .u64 x) 15=Int.ofNat k:=by rw[qQ hA,ML hA];exact he
 rw[h1,nQ hA (k:= .i64) (a:=k) (fun _=>by show k<2^63;omega) (fun h=>by cases h)]
 exact e_ hA (a:=1) (b:=k) (by omega)
end Go.Proofs.YtfocopihipejfaaGreat
namespace EC
open Pr
theorem adP(id:Nat){m m':Nat}(h:m%cn id=m'%cn id):smul aN (ca id) m (G id)=smul aN (ca id) m' (G id):=by
 rw[<-adR (nF id) (qK id) (nG id) m,h,adR (nF id) (qK id) (nG id)]
theorem adS(id:Nat){f:Nat}(h0:0<f)(h1:f<cn id):smul aN (ca id) f (G id)≠ .O:=by
 intro h
 have hp:=A0 id
 have Ao:¬cn id∣f:=fun hd=>absurd (mg h0 hd) (by omega)
 have h2:f^(cn id-1)%cn id=1:=Iv hp Ao
 have jF:=hp.1
 rw[show cn id-1=(cn id-2)+1 by omega,br,bJ]at h2
 have h4:smul aN (ca id) (f*f^(cn id-2)) (G id)= .O:=by rw[V3 (nF id) (qK id),h,VZ]
 rw[adP id (m':=1) (by rw[h2,aO (show 1<cn id by omega)])]at h4
 have h5:smul aN (ca id) 1 (G id)=G id:=rfl
 rw[h5]at h4
 cases h4
theorem aqo(id:Nat){d e:Nat}(hd:d<e)(he:e<cn id):smul aN (ca id) d (G id)≠smul aN (ca id) e (G id):=by
 intro h
 have h1:=smul_add (nF id) (qK id) e (cn id-d)
 rw[<-h,<-smul_add (nF id) (qK id) d (cn id-d),show d+(cn id-d)=cn id by omega,nG]at h1
 rw[adP id (m':=e-d) (by rw[show e+(cn id-d)=(e-d)+cn id by omega,vg])]at h1
 exact adS id (by omega) (by omega) h1
end EC
namespace EC
theorem aqp{c d:Nat}(h0:0<d)(h1:d<cn c):∃U V:Fin (cp c),smul aN (ca c) d (G c)= .A U V:=by
 cases h:smul aN (ca c) d (G c)with
 |O=>exact absurd h (adS c h0 h1)
 |A U V=>exact⟨U,V,rfl⟩
end EC
namespace Go.Proofs.YtfocopihipejfaaGreat
open Go.Vg Go.RowKit
set_option maxRecDepth 200000
set_option cbv.maxSteps 100000000
theorem af3{P:Program}(hP:P=Tryz.prog)(i:Int)(hi: -9223372036854775808<=i/\i<=9223372036854775807)(a r:Nat->Nat)(ha:Wn 9 a)(hr:Wn 9 r)(msg:ByteArray):ah P 5 [.int .i64 i,.agg (ws a 9),.str msg,.agg (ws r 9)] [] 0 [] (fun v _ _=>v= .bool true):=by
 obtain⟨H,hH⟩:=aa (fun x c=>hs (dg x) c:Nat->Nat->List SV)
 obtain⟨S,hS⟩:=aa (Vg.sz:Nat->Nat)
 have b9:HS H S:=⟨hH,hS⟩
 clear hH hS
 have hAw:=afP hP
 have z9:Wn 9 (fun _=>0):=fun _ _=>by show 0<0x10000000000000000;decide
 refine aq hP Tryz.func5 (ak _ rfl) (aD rfl) ?_
 intro A g K hA hg hK
 obtain⟨bin,_,cmp,_,aX,ix,_,_,fQ,_,_,_,_,_,nat,off,_,_,sub⟩:=A
 obtain⟨c,eA,dP,hc⟩:=ah6 hA i hi
 have iF:bin .add .i64 1 (aX .i64 (bin .rem .u64 (aX .u64 i) 15))=Int.ofNat c:=hc
 have oa:1<=c/\c<=15:=⟨eA,dP⟩
 obtain⟨sp,sa,sb,sn,sx,sy⟩:=tK oa
 obtain⟨p,hp⟩:=aa (f_ c)
 obtain⟨va,uI⟩:=aa (sF c)
 obtain⟨vb,El⟩:=aa (o9 c)
 obtain⟨n,hn⟩:=aa (qC c)
 obtain⟨gx,DN⟩:=aa (tI c)
 obtain⟨gy,DP⟩:=aa (tJ c)
 obtain⟨pc,ac,bc,nc,xc,yc,bp,ba,bb,bn,bx,sE,R9⟩:=acq hP b9 c oa p va vb n gx gy hp uI El hn DN DP
 rw[<-hp]at sp
 rw[<-uI]at sa
 rw[<-hn]at sn
 rw[<-DN]at sx
 rw[<-DP]at sy
 have vN:=fun m=>b9.b m n nc
 have vP:=fun m=>b9.b m p pc
 have vA:=fun m=>b9.b m va ac
 have vB:=fun m=>b9.b m vb bc
 have vX:=fun m=>b9.b m gx xc
 have vY:=fun m=>b9.b m gy yc
 clear hp uI El hn DN DP hc
 have l8:n=EC.cn c:=sn.symm
 have db:p=EC.cp c:=sp.symm
 have tP:=gn c
 rw[sx,sy]at tP
 obtain⟨_,JP,pC⟩:=EC.MJ oa
 rw[<-l8]at JP pC
 have NX:EC.cp c<4294967296^18:=cg (pV oa) (by decide)
 have GU:n<4294967296^18:=by
  have h:n<0x10000000000000000^9:=by omega
  exact cg h (by decide)
 have n40:=j_ hP b9 GU
 -- the private number and its point
 obtain⟨dW,wd,vd⟩:=cD 9 (V 9 a%(n-1)+1) (by have:=ax (V 9 a) (show 0<n-1 by omega);omega)
 obtain⟨xW,wx,vx⟩:=cD 9 (V 9 r%(n-1)+1) (by have:=ax (V 9 r) (show 0<n-1 by omega);omega)
 have I6:=acw hP b9 c (S p) (S va) (S vb) (S gx) (S gy) pc ac bc xc yc (H p pc) (H va ac) (H vb bc) (H gx xc) (H gy yc) vP vA vB vX vY bn GU JP a dW ha wd vd
 have hSr:=acw hP b9 c (S p) (S va) (S vb) (S gx) (S gy) pc ac bc xc yc (H p pc) (H va ac) (H vb bc) (H gx xc) (H gy yc) vP vA vB vX vY bn GU JP r xW hr wx vx
 obtain⟨d,hd⟩:=aa (V 9 dW)
 obtain⟨x,hx⟩:=aa (V 9 xW)
 have jO:0<d/\d<n:=by rw[hd,vd];have:=ax (V 9 a) (show 0<n-1 by omega);omega
 have Km:0<x/\x<n:=by rw[hx,vx];have:=ax (V 9 r) (show 0<n-1 by omega);omega
 obtain⟨S9,IK⟩:=UW hP b9 dW wd d hd.symm
 obtain⟨qt,R6⟩:=UW hP b9 xW wx x hx.symm
 have vD:=fun m=>b9.b m d 18
 have vR:=fun m=>b9.b m x 18
 obtain⟨b,hb⟩:=aa (x+n)
 obtain⟨kb,afo,zS⟩:=OA hP b9 qt bn (j_ hP b9 qt) n40 b hb
 have xH:=fun m=>b9.b m b kb
 obtain⟨bW,wb,vb'⟩:=cD 9 b (by omega)
 obtain⟨nW,wn,vn⟩:=cD 9 n (by omega)
 have hNb:=B8 hP b9 afo bW wb vb'
 have hNn:=B8 hP b9 bn nW wn vn
 obtain⟨U,Vv,Aa⟩:=EC.aqp (c:=c) jO.1 (by rw[<-l8];exact jO.2)
 obtain⟨W,hW⟩:=aa (EC.smul EC.aN (EC.ca c) d (EC.G c))
 rw[<-hW]at Aa
 obtain⟨X5,Lo,Lh⟩:=cD 9 (qz W) (cT (K2 W) (pV oa))
 obtain⟨Y5,Lq,Li⟩:=cD 9 (uP W) (cT (K3 W) (pV oa))
 have z7:mW c W X5 Y5 false:=⟨Lo,Lq,Lh,Li,by rw[Aa];rfl⟩
 have oQ:EC.eI (EC.ca c) (EC.cb c) W:=by rw[hW];exact EC.nM (EC.nF c) (EC.qK c) d
 have hV:∀ (f g:Nat->Nat),Wn 9 f->Wn 9 g->¬ ((V 9 f≠0/\V 9 f<n)/\(V 9 g≠0/\V 9 g<n))->_:=fun f g hf NH hb=>ZG hP c oa 2 (by decide) oQ z7 msg f g hf NH (by rw[<-l8];exact hb)
 have zV:V 9 (fun _=>0)=0:=rfl
 have ng:=hV (fun _=>0) xW z9 wx (fun h=>h.1.1 zV)
 have uq:=hV xW (fun _=>0) wx z9 (fun h=>h.2.1 zV)
 have Ab:=hV bW xW wb wx (fun h=>by have:=h.1.2;omega)
 have hV3:=hV xW bW wx wb (fun h=>by have:=h.2.2;omega)
 have hV4:=hV nW xW wn wx (fun h=>by have:=h.1.2;omega)
 have hV5:=hV xW nW wx wn (fun h=>by have:=h.2.2;omega)
 have Ax:=EC.small c
 simp only[dq,qT]at Ax
 have DF:va=(EC.ca c).val:=by rw[<-sa];exact(EC.qH _ Ax.1.1.1.1.1.1).symm
 have R7:=mG hP b9 c (S p) (S va) (S vb) (S n) (S gx) (S gy) pc ac bc nc xc yc (H p pc) (H va ac) (H vb bc) (H n nc) (H gx xc) (H gy yc) vP vA vB vN vX vY
 -- what Times answers
 have hT:(d=1/\W=EC.G c)\/ ∃x5 y5 c5 e5,x5=U.val/\y5=Vv.val/\x5<4294967296^c5/\y5<4294967296^e5/\ah P 25 [.agg (pW c (.slice 0 0 (S p) pc) (.slice 1 0 (S va) ac) (.slice 2 0 (S vb) bc) (.slice 3 0 (S n) nc) (.slice 4 0 (S gx) xc) (.slice 5 0 (S gy) yc)),.slice 6 0 (S d) 18,.agg [.slice 7 0 (S gx) xc,.slice 8 0 (S gy) yc,.bool false]]
  [⟨0,H p pc,88⟩,⟨1,H va ac,88⟩,⟨2,H vb bc,88⟩,⟨3,H n nc,88⟩,⟨4,H gx xc,88⟩,⟨5,H gy yc,88⟩,⟨6,H d 18,88⟩,⟨7,H gx xc,88⟩,⟨8,H gy yc,88⟩] 9 [] (fun w L q=>w= .agg [.slice 9 0 (S x5) c5,.slice 10 0 (S y5) e5,.bool false]/\L=[⟨9,H x5 c5,88⟩,⟨10,H y5 e5,88⟩]/\q=11):=by
  by_cases h1:d=1
  ·left
   exact⟨h1,by rw[hW,h1];rfl⟩
  ·right
   have ek:W≠EC.G c:=fun h=>by
    have h2:=EC.aqo c (d:=1) (e:=d) (by omega) (by rw[<-l8];exact jO.2)
    exact h2 (by rw[<-hW,h];rfl)
   obtain⟨g1,g2,g3⟩:=acA hP b9 (p:=EC.cp c) (pc:=pc) (EC.pI c) (by rw[<-db];exact bp) NX c (S vb) (S n) (S gx) (S gy) bc nc xc yc (H vb bc) (H n nc) (H gx xc) (H gy yc) vB vN vX vY (EC.Q5 oa) (EC.ca c) (EC.cb c) (EC.nf (EC.aU c)) (EC.nf (EC.cJ c)) (EC.nF c) (EC.qK c) (a:=va) DF tP.gx.symm tP.gy.symm ba (kk:=d) (kc:=18) S9 (j_ hP b9 S9) bx sE W hW U Vv Aa ek _ _ _ _ rfl rfl rfl rfl
   rw[show S (EC.cp c)=S p from by rw[db],show H (EC.cp c) pc=H p pc from by rw[db]]at g3
   exact⟨_,_,_,_,rfl,rfl,g1,g2,g3⟩
 have hT1:=alm hP b9 (p:=EC.cp c) (pc:=pc) (EC.pI c) (by rw[<-db];exact bp) NX c (S vb) (S n) (S gx) (S gy) bc nc xc yc (H vb bc) (H n nc) (H gx xc) (H gy yc) vB vN vX vY (EC.Q5 oa) (EC.ca c) (EC.cb c) (EC.nf (EC.aU c)) (EC.nf (EC.cJ c)) (EC.nF c) (EC.qK c) (a:=va) DF tP.gx.symm tP.gy.symm ba (kc:=18) (by decide) bx sE
 rw[show S (EC.cp c)=S p from by rw[db],show H (EC.cp c) pc=H p pc from by rw[db]]at hT1
 have Nb:∀ {x5 y5 c5 e5:Nat},x5=qz W->y5=uP W->x5<4294967296^c5->y5<4294967296^e5->_:=fun {x5 y5 c5 e5} h1 h2 h3 h4=>acv hP b9 h3 h4 X5 Y5 Lo Lq (by rw[Lh,h1]) (by rw[Li,h2]) false
 have e1:fQ true=false:=ln hA true
 have f1:∀i,i<6->cmp .lss (.ofNat i) (.ofNat 6)=true:=fun i h=>cZ hA h
 have f2:cmp .lss (.ofNat 6) (.ofNat 6)=false:=bM hA (by omega)
 have f3:∀i,i<6->bin .add .i64 (.ofNat i) 1=Int.ofNat (i+1):=fun i h=>gP hA (by omega)
 have f4:∀i,i<6->ix (.ofNat i) 6=some i:=fun i h=>bB hA h
 have f5:∀i,off 0 i 18=18*i:=fun i=>(dh hA 0 i 18).trans (by omega)
 have f7:∀C o n,sub C o n=Ar.real.sub C o n:=fun C o n=>bg (bg (bg (aK Ar.sub hA) C) o) n
 have f6:nat 6=Int.ofNat 6:=fZ hA 6
 clear hV pC JP GU n40 vd vx hx hb sp sa sb sn sx sy Ax DF vb' vn S9 qt Km oQ z7
 cbv
 refine dJ hg hAw ?_
 cbv
 rw[e1]
 cbv
 rw[iF]
 refine bq hg R9 _root_.id trivial ?_
 simp only[aG,ae _ (vP 0),ae _ (vA 0),ae _ (vB 0),ae _ (vN 0),ae _ (vX 0),ae _ (vY 0)]
 cbv
 rw[e1]
 cbv
 refine cm hP hA hg ?_
 cbv
 refine aY hg I6 (fun l=>l+2) (Iz (vP 0) (vA 0) (vB 0) (vN 0) (vX 0) (vY 0) rfl rfl rfl rfl rfl rfl) ?_
 cbv
 refine tL rfl hg rfl rfl IK (vD 0) (fun _ h=>by cases h) _root_.id rfl trivial rfl ?_
 cbv
 refine eV (FE rfl hg rfl rfl R7 (fun l=>l+2) rfl (Iz (vP 0) (vA 0) (vB 0) (vN 0) (vX 0) (vY 0) rfl rfl rfl rfl rfl rfl) rfl (fun _ _ _ h=>h) ⟨ao rfl,ao rfl,trivial,trivial⟩) ?_
 cbv
 rcases hT with⟨h1,hWG⟩|⟨x5,y5,c5,e5,AF,AL,bx5,by5,hTD⟩
 case' inl=>
  subst h1
  have Sm:=Nb (x5:=gx) (y5:=gy) (c5:=xc) (e5:=yc) (by rw[hWG];exact tP.gx.symm) (by rw[hWG];exact tP.gy.symm) bx sE
  have v5:=vX
  have v6:=vY
  refine eV (FE rfl hg rfl rfl hT1 (fun l=>if l=6 then 9 else if l=7 then 6 else if l=8 then 7 else l+2) rfl ⟨by rw[ae _ (vP 0)];rfl,by rw[ae _ (vA 0)];rfl,by rw[ae _ (vB 0)];rfl,by rw[ae _ (vN 0)];rfl,by rw[ae _ (vX 0)];rfl,by rw[ae _ (vY 0)];rfl,by rw[ae _ (vD 0)];rfl,by rw[ae _ (vX 0)];rfl,by rw[ae _ (vY 0)];rfl,trivial⟩ rfl (fun _ _ _ h=>h) ⟨ao rfl,ao rfl,trivial,trivial⟩) ?_
  cbv
  refine aY hg Sm (fun l=>if l=0 then 6 else 7) (zO (vX 0) (vY 0) rfl rfl) ?_
 case' inr=>
  have Sm:=Nb (by rw[Aa];exact AF) (by rw[Aa];exact AL) bx5 by5
  have v5:=fun m=>b9.b m x5 c5
  have v6:=fun m=>b9.b m y5 e5
  refine adX rfl hg rfl rfl hTD (by
  intro b hb
  simp only[Fg,Hw,OR]at hb
  rcases hb with rfl|rfl|rfl|rfl|rfl|rfl|rfl|rfl|rfl
  ·exact⟨ao rfl,vP 9⟩
  ·exact⟨ao rfl,vA 9⟩
  ·exact⟨ao rfl,vB 9⟩
  ·exact⟨ao rfl,vN 9⟩
  ·exact⟨ao rfl,vX 9⟩
  ·exact⟨ao rfl,vY 9⟩
  ·exact⟨ao rfl,vD 9⟩
  ·exact⟨ao rfl,vX 9⟩
  ·exact⟨ao rfl,vY 9⟩) (by
   intro b hb
   simp only[Fg,Hw,OR]at hb
   rcases hb with rfl|rfl
   ·exact⟨aE _,ao rfl⟩
   ·exact⟨vu _,ao rfl⟩) (by
   intro l h1 h2
   rcases(show l=9\/l=10 by omega)with rfl|rfl
   ·exact⟨_,kd,rfl⟩
   ·exact⟨_,lj _ (il.2 rfl),rfl⟩) (by simp) (by decide) (fun l=>if l=6 then 9 else if l=7 then 6 else if l=8 then 7 else l+2) rfl ⟨by rw[ae _ (vP 0)];rfl,by rw[ae _ (vA 0)];rfl,by rw[ae _ (vB 0)];rfl,by rw[ae _ (vN 0)];rfl,by rw[ae _ (vX 0)];rfl,by rw[ae _ (vY 0)];rfl,by rw[ae _ (vD 0)];rfl,by rw[ae _ (vX 0)];rfl,by rw[ae _ (vY 0)];rfl,trivial⟩ rfl ?_
  simp only[aG,ae _ (v5 0),ae _ (v6 0)]
  cbv
  refine aY hg Sm (fun l=>if l=0 then 10 else 11) (zO (v5 0) (v6 0) rfl rfl) ?_
 all_goals cbv
 all_goals
  refine aZ hg hSr (fun l=>l+2) (Iz (vP 0) (vA 0) (vB 0) (vN 0) (vX 0) (vY 0) rfl rfl rfl rfl rfl rfl) ?_
  cbv
  refine cm hP hA hg ?_
  cbv
  refine tL rfl hg rfl rfl R6 (vR 0) (fun _ h=>by cases h) _root_.id rfl trivial rfl ?_
  cbv
  first
   |refine tL rfl hg rfl rfl zS (xH 0) (by intro b hb;rcases List.mem_cons.1 hb with rfl|hb;exact⟨ao rfl,vR 2⟩;obtain rfl:=il.1 hb;exact⟨ao rfl,vN 2⟩) (fun l=>if l=0 then 12 else 5) rfl (zO (vR 0) (vN 0) rfl rfl) rfl ?_
   |refine tL rfl hg rfl rfl zS (xH 0) (by intro b hb;rcases List.mem_cons.1 hb with rfl|hb;exact⟨ao rfl,vR 2⟩;obtain rfl:=il.1 hb;exact⟨ao rfl,vN 2⟩) (fun l=>if l=0 then 14 else 5) rfl (zO (vR 0) (vN 0) rfl rfl) rfl ?_
  cbv
  first
   |refine aY hg hNb (fun _=>13) (qV (xH 0) rfl) ?_
   |refine aY hg hNb (fun _=>15) (qV (xH 0) rfl) ?_
  cbv
  refine cm hP hA hg ?_
  cbv
  refine aY hg hNn (fun _=>5) (qV (vN 0) rfl) ?_
  cbv
  refine aY hg hNn (fun _=>5) (qV (vN 0) rfl) ?_
  cbv
  refine bH Nat (fun i=>i<=6) (fun i=>6-i) (fun i=> [(16,.int .i64 (.ofNat i))]) [2,9,11,15] (fun _=> []) 0 (bf _) ?_ ?_
  ·exact aS (by repeat' (first|exact trivial|refine⟨rfl,rfl,rfl,?_⟩|refine⟨rfl,rfl,vP _,?_⟩|refine⟨rfl,rfl,vA _,?_⟩|refine⟨rfl,rfl,vB _,?_⟩|refine⟨rfl,rfl,vN _,?_⟩|refine⟨rfl,rfl,vX _,?_⟩|refine⟨rfl,rfl,vY _,?_⟩|refine⟨rfl,rfl,vD _,?_⟩|refine⟨rfl,rfl,vR _,?_⟩|refine⟨rfl,rfl,xH _,?_⟩|refine⟨rfl,rfl,v5 _,?_⟩|refine⟨rfl,rfl,v6 _,?_⟩))
  intro i hi
  rcases(show i=0\/i=1\/i=2\/i=3\/i=4\/i=5\/i=6 by omega)with rfl|rfl|rfl|rfl|rfl|rfl|rfl
  ·cbv
   rw[f6,f1 0 (by decide)]
   cbv
   refine cm hP hA hg ?_
   cbv
   rw[f4 0 (by decide)]
   cbv
   rw[f5 0]
   cbv
   rw[f7]
   cbv
   refine bN hg ng ?_
   cbv
   rw[f3 0 (by decide)]
   refine⟨1,_root_.id,by decide,by decide,?_⟩
   exact aS (by repeat' (first|exact trivial|refine⟨rfl,rfl,rfl,?_⟩|refine⟨rfl,rfl,vP _,?_⟩|refine⟨rfl,rfl,vA _,?_⟩|refine⟨rfl,rfl,vB _,?_⟩|refine⟨rfl,rfl,vN _,?_⟩|refine⟨rfl,rfl,vX _,?_⟩|refine⟨rfl,rfl,vY _,?_⟩|refine⟨rfl,rfl,vD _,?_⟩|refine⟨rfl,rfl,vR _,?_⟩|refine⟨rfl,rfl,xH _,?_⟩|refine⟨rfl,rfl,v5 _,?_⟩|refine⟨rfl,rfl,v6 _,?_⟩))
  ·cbv
   rw[f6,f1 1 (by decide)]
   cbv
   refine cm hP hA hg ?_
   cbv
   rw[f4 1 (by decide)]
   cbv
   rw[f5 1]
   cbv
   rw[f7]
   cbv
   refine bN hg uq ?_
   cbv
   rw[f3 1 (by decide)]
   refine⟨2,_root_.id,by decide,by decide,?_⟩
   exact aS (by repeat' (first|exact trivial|refine⟨rfl,rfl,rfl,?_⟩|refine⟨rfl,rfl,vP _,?_⟩|refine⟨rfl,rfl,vA _,?_⟩|refine⟨rfl,rfl,vB _,?_⟩|refine⟨rfl,rfl,vN _,?_⟩|refine⟨rfl,rfl,vX _,?_⟩|refine⟨rfl,rfl,vY _,?_⟩|refine⟨rfl,rfl,vD _,?_⟩|refine⟨rfl,rfl,vR _,?_⟩|refine⟨rfl,rfl,xH _,?_⟩|refine⟨rfl,rfl,v5 _,?_⟩|refine⟨rfl,rfl,v6 _,?_⟩))
  ·cbv
   rw[f6,f1 2 (by decide)]
   cbv
   refine cm hP hA hg ?_
   cbv
   rw[f4 2 (by decide)]
   cbv
   rw[f5 2]
   cbv
   rw[f7]
   cbv
   refine bN hg Ab ?_
   cbv
   rw[f3 2 (by decide)]
   refine⟨3,_root_.id,by decide,by decide,?_⟩
   exact aS (by repeat' (first|exact trivial|refine⟨rfl,rfl,rfl,?_⟩|refine⟨rfl,rfl,vP _,?_⟩|refine⟨rfl,rfl,vA _,?_⟩|refine⟨rfl,rfl,vB _,?_⟩|refine⟨rfl,rfl,vN _,?_⟩|refine⟨rfl,rfl,vX _,?_⟩|refine⟨rfl,rfl,vY _,?_⟩|refine⟨rfl,rfl,vD _,?_⟩|refine⟨rfl,rfl,vR _,?_⟩|refine⟨rfl,rfl,xH _,?_⟩|refine⟨rfl,rfl,v5 _,?_⟩|refine⟨rfl,rfl,v6 _,?_⟩))
  ·cbv
   rw[f6,f1 3 (by decide)]
   cbv
   refine cm hP hA hg ?_
   cbv
   rw[f4 3 (by decide)]
   cbv
   rw[f5 3]
   cbv
   rw[f7]
   cbv
   refine bN hg hV3 ?_
   cbv
   rw[f3 3 (by decide)]
   refine⟨4,_root_.id,by decide,by decide,?_⟩
   exact aS (by repeat' (first|exact trivial|refine⟨rfl,rfl,rfl,?_⟩|refine⟨rfl,rfl,vP _,?_⟩|refine⟨rfl,rfl,vA _,?_⟩|refine⟨rfl,rfl,vB _,?_⟩|refine⟨rfl,rfl,vN _,?_⟩|refine⟨rfl,rfl,vX _,?_⟩|refine⟨rfl,rfl,vY _,?_⟩|refine⟨rfl,rfl,vD _,?_⟩|refine⟨rfl,rfl,vR _,?_⟩|refine⟨rfl,rfl,xH _,?_⟩|refine⟨rfl,rfl,v5 _,?_⟩|refine⟨rfl,rfl,v6 _,?_⟩))
  ·cbv
   rw[f6,f1 4 (by decide)]
   cbv
   refine cm hP hA hg ?_
   cbv
   rw[f4 4 (by decide)]
   cbv
   rw[f5 4]
   cbv
   rw[f7]
   cbv
   refine bN hg hV4 ?_
   cbv
   rw[f3 4 (by decide)]
   refine⟨5,_root_.id,by decide,by decide,?_⟩
   exact aS (by repeat' (first|exact trivial|refine⟨rfl,rfl,rfl,?_⟩|refine⟨rfl,rfl,vP _,?_⟩|refine⟨rfl,rfl,vA _,?_⟩|refine⟨rfl,rfl,vB _,?_⟩|refine⟨rfl,rfl,vN _,?_⟩|refine⟨rfl,rfl,vX _,?_⟩|refine⟨rfl,rfl,vY _,?_⟩|refine⟨rfl,rfl,vD _,?_⟩|refine⟨rfl,rfl,vR _,?_⟩|refine⟨rfl,rfl,xH _,?_⟩|refine⟨rfl,rfl,v5 _,?_⟩|refine⟨rfl,rfl,v6 _,?_⟩))
  ·cbv
   rw[f6,f1 5 (by decide)]
   cbv
   refine cm hP hA hg ?_
   cbv
   rw[f4 5 (by decide)]
   cbv
   rw[f5 5]
   cbv
   rw[f7]
   cbv
   refine bN hg hV5 ?_
   cbv
   rw[f3 5 (by decide)]
   refine⟨6,_root_.id,by decide,by decide,?_⟩
   exact aS (by repeat' (first|exact trivial|refine⟨rfl,rfl,rfl,?_⟩|refine⟨rfl,rfl,vP _,?_⟩|refine⟨rfl,rfl,vA _,?_⟩|refine⟨rfl,rfl,vB _,?_⟩|refine⟨rfl,rfl,vN _,?_⟩|refine⟨rfl,rfl,vX _,?_⟩|refine⟨rfl,rfl,vY _,?_⟩|refine⟨rfl,rfl,vD _,?_⟩|refine⟨rfl,rfl,vR _,?_⟩|refine⟨rfl,rfl,xH _,?_⟩|refine⟨rfl,rfl,v5 _,?_⟩|refine⟨rfl,rfl,v6 _,?_⟩))
  ·cbv
   rw[f6,f2]
   cbv
   exact hK _ _ _ rfl
end Go.Proofs.YtfocopihipejfaaGreat
namespace Go.Proofs.YtfocopihipejfaaGreat
open Go.ChangeShapes Go.WideShapes Go.ChangeAt Go.RowKit
theorem alS:Tryz.prog.cellTypes Tryz.prog.depth 31=some (List.replicate 9 28):=by kernel_rfl
theorem alT:Tryz.prog.cellsOf 31=9:=by kernel_rfl
set_option maxRecDepth 100000 in
theorem acY{W:World}{r:Reach}{b:Nat}{v:Value}(h:Value.okWide Tryz.prog W r b 31 v):
 ∃f:Nat->Nat,v= .agg (Vg.aM id (Vg.ws f 9)).toArray/\Vg.Wn 9 f:=by
 simp only[Value.okWide,Tryz.underlying31]at h
 obtain⟨cs,rfl,hs,ts,yP,hn,hc⟩:=h
 rw[alT]at hs
 rw[alS]at yP
 obtain rfl:=ef yP
 have iE:∀k,∃n:Nat,k<9->cs[k]? =some (.int .u64 n)/\n<0x10000000000000000:=by
  intro k
  by_cases hk:k<9
  ·obtain⟨v,hv⟩:∃v,cs[k]? =some v:=⟨cs[k]'(by omega),oA (by omega)⟩
   obtain⟨u,hu,hw⟩:=hc k v hv
   have e:u=28:=by
    rw[jq,aO hk,List.getElem?_replicate,aj hk]at hu
    exact(ef hu).symm
   subst e
   obtain⟨n,rfl,hl⟩:=al' Tryz.underlying28 hw
   exact⟨n,fun _=>⟨hv,hl⟩⟩
  ·exact⟨0,fun h=>absurd h hk⟩
 obtain⟨f,hf⟩:=Classical.axiomOfChoice iE
 refine⟨f,?_,fun k hk=>(hf k hk).2⟩
 congr 1
 apply Array.ext_getElem?
 intro k
 by_cases hk:k<9
 ·rw[(hf k hk).1]
  have:k=0\/k=1\/k=2\/k=3\/k=4\/k=5\/k=6\/k=7\/k=8:=by omega
  rcases this with rfl|rfl|rfl|rfl|rfl|rfl|rfl|rfl|rfl<;>rfl
 ·rw[X7 (by omega),X7 (by show 9<=k;omega)]
end Go.Proofs.YtfocopihipejfaaGreat
namespace Go.Proofs.YtfocopihipejfaaGreat.ecdsaRanges
open Go.ChangeShapes Go.WideShapes Go.ChangeAt Go.RowKit
set_option linter.unusedVariables false
theorem own:ownKnob Tryz.prog.godebug=none:=by kernel_rfl
theorem laid:laidOutB Tryz.prog=true:=by kernel_rfl
theorem kinds:∀t∈Tryz.f5.params.toList,Tryz.prog.readableRec t=true/\t<Tryz.prog.types.size:=by
 have h:(Tryz.f5.params.toList.all fun t=>Tryz.prog.readableRec t&&decide (t<Tryz.prog.types.size))=true:=by kernel_rfl
 intro t ht
 simpa using List.all_eq_true.1 h t ht
set_option maxRecDepth 100000 in
theorem lifted(os:Os)(started:os.Started)(H:Type)(enc:TypeId×Value->H):
 ReturnsInHanded {} Tryz.checked os 5 .any (Rows.ecdsaRangesSpec.pre6 enc Tryz.prog Tryz.f5 Rows.ecdsaRangesRow.domain false) (Rows.ecdsaRangesSpec.post enc Tryz.prog Tryz.f5 false true false false):=by
 refine returnsInHanded_of_change_shaped (C:=Tryz.checked) own started (by kernel_rfl) Tryz.func5
  (ChangeSpec.witness6 (enc:=enc) (C:=Tryz.checked) false ⟨#[],#[.int .i64 0,.agg #[.int .u64 0,.int .u64 0,.int .u64 0,.int .u64 0,.int .u64 0,.int .u64 0,.int .u64 0,.int .u64 0,.int .u64 0],.string ⟨#[]⟩,.agg #[.int .u64 0,.int .u64 0,.int .u64 0,.int .u64 0,.int .u64 0,.int .u64 0,.int .u64 0,.int .u64 0,.int .u64 0]],[]⟩ 8 (by kernel_rfl) (by kernel_rfl) (by kernel_rfl) (by kernel_rfl)) ?_
 intro W base args ds gs before akp hW arw aJ arG _
 have Ek:∀ (j:Nat) t v,Tryz.f5.params[j]? =some t->args[j]? =some v->Value.okWide Tryz.prog W .any base t v:=akp
 have GA:args.size=Tryz.f5.params.size:=by
  obtain⟨p,q,hA,_⟩:=hW
  have h:=(trodAll_length hA).1
  simpa using h
 obtain⟨_,_,hA,_⟩:=id hW
 rw[Tryz.params5]at Ek GA hA aJ
 obtain⟨v0,v1,v2,v3,rfl⟩:=afa GA
 have k0:=Ek 0 3 v0 rfl rfl
 have k2:=Ek 2 9 v2 rfl rfl
 simp only[Value.okWide,Tryz.underlying3]at k0
 obtain⟨n1,rfl,h1,h2⟩:=al_ Tryz.underlying3 k0
 obtain⟨a,rfl,h3⟩:=acY (Ek 1 31 v1 rfl rfl)
 obtain⟨m,rfl,h4⟩:=aqO hA aJ (j:=2) rfl rfl Tryz.underlying9 k2
 obtain⟨r,rfl,h5⟩:=acY (Ek 3 31 v3 rfl rfl)
 have walked:=Vg.ah.calls (af3 rfl n1 ⟨h1,h2⟩ a r h3 h5 m) (fun _ _ _ h=>h) trivial W
 refine walked.mono fun e W' ⟨he,hB⟩=> ?_
 subst he
 exact⟨_,rfl,aqW 4 laid kinds rfl Tryz.underlying4 (by kernel_rfl) (fun ds h=>by rw[Tryz.params5]at h;match ds,h with| [d1,d2,d3,d4],_=>rfl) hW hB⟩
theorem amc:Rows.ecdsaRangesRow.holds Tryz.pinned (OpenSpec.ofChange Rows.ecdsaRangesSpec):=
 OpenClaim.holds_of_wide 5 Tryz.f5 rfl rfl rfl rfl rfl rfl rfl ⟨rfl,rfl,rfl,rfl,rfl⟩ rfl rfl rfl rfl rfl (by kernel_rfl) Tryz.func5 (by kernel_rfl)
  (KT (by kernel_rfl)) (by unfold Func.isWrapper;first|(rw[aj (by decide +kernel)];kernel_rfl)|(rw[af (by decide +kernel)];exact⟨rfl,rfl⟩))
  (fun os started H enc _=>lifted os started H enc)
theorem proved:Rows.EcdsaRangesSaid:=
 amc
#print axioms proved
end Go.Proofs.YtfocopihipejfaaGreat.ecdsaRanges
namespace Go.Proofs.YtfocopihipejfaaGreat
open Go.Vg Go.RowKit
set_option maxRecDepth 200000
set_option cbv.maxSteps 100000000
def arK(f g:Nat->Nat):Array Value:= #[.int .u64 (.ofNat (f 0)),.int .u64 (.ofNat (f 1)),.int .u64 (.ofNat (f 2)),.int .u64 (.ofNat (f 3)),.int .u64 (.ofNat (f 4)),.int .u64 (.ofNat (f 5)),.int .u64 (.ofNat (f 6)),.int .u64 (.ofNat (f 7)),.int .u64 (.ofNat (f 8)),.int .u64 (.ofNat (g 0)),.int .u64 (.ofNat (g 1)),.int .u64 (.ofNat (g 2)),.int .u64 (.ofNat (g 3)),.int .u64 (.ofNat (g 4)),.int .u64 (.ofNat (g 5)),.int .u64 (.ofNat (g 6)),.int .u64 (.ofNat (g 7)),.int .u64 (.ofNat (g 8))]
theorem arT(f g:Nat->Nat)(f' g':Nat->Nat)(w:World):(Op.equalIn 10000 44 (.agg (arK f g)) (.agg (arK f' g'))).run Tryz.prog w= .ok (lP f f'&&lP g g') w:=by
 rw[run_equalIn_struct w 9999 44 _ _ (by kernel_rfl) (by kernel_rfl)]
 have hf:(Tryz.prog.fieldsOf 44).toList=[{name:= "R",type:=31,offset:=0,embedded:=false,tag:= "",pkgPath:= "",byteOffset:=0},{name:= "S",type:=31,offset:=9,embedded:=false,tag:= "",pkgPath:= "",byteOffset:=72}]:=by kernel_rfl
 have h1:∀f g,(part 31 (arK f g) 0).run Tryz.prog w= .ok (.agg (qI f)) w:=fun f g=>by kernel_rfl
 have h2:∀f g,(part 31 (arK f g) 9).run Tryz.prog w= .ok (.agg (qI g)) w:=fun f g=>by kernel_rfl
 rw[hf]
 simp only[Op.eqFields,Sem.run_bind,Sem.run_ite,h1,h2,Result.andThen_ok,arS _ _ 9996 w]
 cases lP f f'<;>cases lP g g'<;>rfl
theorem arV{P:Program}(hP:P=Tryz.prog){g:G}{F:FF}{L:LL}{n:Nat}{o:Oper}{x y:Operand}{yt:TypeId}(ho:o.op= .binOp .eql 44 x y yt){m0 N:Nat}{ms:List Nat}(hg:GI g m0 ms N)(aA:dD N o.dst=true){f h f' h':Nat->Nat}{r:Bool}(hr:r=(lP f f'&&lP h h'))
 (hx:ev (Vg.look F) x=some (.agg (ws f 9++ws h 9))) (hy:ev (Vg.look F) y=some (.agg (ws f' 9++ws h' 9))) {K:FF->LL->Nat->Prop} (hK:K (cH F o.dst (.bool r)) L n):Step g P o K F L n:=by
 subst hP hr
 refine Cy hg aA (fun β act W hm hf=> ?_) hK
 obtain⟨e1,_⟩:=cq hf hx
 obtain⟨e2,_⟩:=cq hf hy
 refine⟨?_,trivial⟩
 have h4:Tryz.prog.eqGuardType Tryz.prog.depth 44=false:=by kernel_rfl
 have h1:act.eval x= .agg (arK f h):=e1
 have h2:act.eval y= .agg (arK f' h'):=e2
 have h3:∀xs ys,(eqGuard .eql 44 x y (.agg xs) (.agg ys)).run Tryz.prog W= .ok () W:=fun xs ys=>run_eqGuard_agg W .eql 44 x y xs ys h4
 unfold execOp
 simp only[ho,h1,h2,Sem.run_bind,h3,Result.andThen_ok,run_eql_struct,arT,Sem.run_pure,den]
end Go.Proofs.YtfocopihipejfaaGreat
namespace EC
theorem arR{c:Nat}(h:1<=c/\c<=15):7<cn c:=by
 have h0:((List.range 16).all fun k=>k==0||decide (7<cn k))=true:=by decide +kernel
 have h1:=gf.1 h0 c (tQ.2 (by omega))
 rw[show(c==0)=false by simp;omega,Bb]at h1
 exact KT h1
end EC
namespace Go.Proofs.YtfocopihipejfaaGreat
open Go.Vg Go.RowKit
set_option maxRecDepth 200000
set_option cbv.maxSteps 100000000
theorem arP{P:Program}(hP:P=Tryz.prog)(x:Int)(hx: -9223372036854775808<=x/\x<=9223372036854775807)(s msg:ByteArray)(hs:s.size<2^62)(oT:msg.size<140737488353000):ah P 10 [.int .i64 x,.str s,.str msg] [] 0 [] (fun v _ _=>v= .bool true):=by
 obtain⟨D,hD⟩:=aa (Sh.new 2 (Ct (bl s)))
 have hDo:Sh.Ok D:=by rw[hD];exact Sh.Ok.new (by decide) _
 have mv:D.id=2:=by rw[hD];exact Sh.EX _ _
 have hDn:D.n=1:=by rw[hD];exact Sh.Wh _ _
 obtain⟨kk,kE⟩:=aa (fun i=>ib (arJ D i).k:Nat->ByteArray)
 obtain⟨vv,hvv⟩:=aa (fun i=>ib (arJ D i).v:Nat->ByteArray)
 have bk:∀i,bl (kk i)=(arJ D i).k:=fun i=>by rw[kE];exact gu (arL hDo i).kb
 have bv:∀i,bl (vv i)=(arJ D i).v:=fun i=>by rw[hvv];exact gu (arL hDo i).vb
 have ks:∀i,(kk i).size=Sh.size 2:=fun i=>by rw[<-bh,bk,(arL hDo i).kl,(arM D i).1,mv]
 have vs:∀i,(vv i).size=Sh.size 2:=fun i=>by rw[<-bh,bv,(arL hDo i).vl,(arM D i).1,mv]
 have hSe:=agV hP s (kk 0) (vv 0) hs (by rw[bk,<-hD];rfl) (by rw[bv,<-hD];rfl)
 have hAw:=afP hP
 obtain⟨ct,hct⟩:=aa (fun i=>1+i:Nat->Nat)
 have eD:∀i,(⟨2,bl (kk i),bl (vv i),1+i⟩:Sh.Dr)=arJ D i:=fun i=>by
  obtain⟨h1,h2⟩:=arM D i
  rw[mv]at h1
  rw[hDn]at h2
  rw[bk,bv]
  generalize arJ D i=Z at h1 h2
  cases Z
  simp only at h1 h2
  subst h1 h2
  rfl
 have hGb:∀i,∀y∈(Sh.generate (arJ D i) 1 []).1,y<256:=fun i y hy=>by
  unfold Sh.generate at hy
  exact Sh.IA _ _ _ _ y (xO hy)
 obtain⟨rr,mH⟩:=aa (fun i=>ib (Sh.generate (arJ D i) 1 []).1:Nat->ByteArray)
 have br:∀i,bl (rr i)=(Sh.generate (arJ D i) 1 []).1:=fun i=>by rw[mH];exact gu (hGb i)
 have hGe:∀i,i<64->ah P 36 [.ptr 0 0,.int .i64 (.ofNat 1),.str ⟨#[]⟩] [⟨0,[.int .i64 (.ofNat 2),.str (kk i),.str (vv i),.int .i64 (.ofNat (1+i))],134⟩] 1 [0] _:=fun i h=>
  afU hP 2 (by decide) (kk i) (vv i) ⟨#[]⟩ (1+i) 1 (ks i) (vs i) (by decide) (by decide) (by omega) (rr i) (kk (i+1)) (vv (i+1)) (by rw[eD,br];rfl) (by rw[eD,bk];rfl) (by rw[eD,bv];rfl)
 obtain⟨z9,hz9⟩:=aa (fun _=>0:Nat->Nat)
 obtain⟨a7,ha7⟩:=aa (sm 7)
 have w7:Wn 9 a7:=by rw[ha7];exact adL (by decide)
 have v7:V 9 a7=7:=by rw[ha7];exact adK 7
 have hO7:=Zw hP 7 a7 ha7
 have hM:∀c,1<=c->c<=15->ah P 38 [.cR,.int .i64 (.ofNat c),.int .i64 (.ofNat 2),.agg (ws a7 9),.str msg,.ptr 0 0] [⟨0,[.int .i64 (.ofNat 2),.str (kk 64),.str (vv 64),.int .i64 (.ofNat (ct 64))],134⟩] 1 [] (fun w _ _=>w= .aR [.agg (ws z9 9++ws z9 9),.int .i64 0,.int .i64 2603]):=fun c h1 h2=>by
  have h:=arQ hP c ⟨h1,h2⟩ 2 (by decide) msg oT a7 w7 (by rw[v7];decide) (by rw[v7];exact EC.arR ⟨h1,h2⟩) 2 (kk 64) (vv 64) (ct 64) (by rw[hct];decide) (by rw[hct];decide)
  rw[hz9];exact h
 have hCo:=arO hP 2 (ct 64) (kk 64) (vv 64)
 have hN:=fun x=>Zs hP x
 have q2:true=(lP z9 (fun _=>0)&&lP z9 (fun _=>0)):=by rw[hz9];simp[lP]
 have C_:ct 64=65:=by rw[hct]
 have hGc:∀i,i<64->ah P 36 [.ptr 0 0,.int .i64 (.ofNat 1),.str ⟨#[]⟩] [⟨0,[.int .i64 (.ofNat 2),.str (kk i),.str (vv i),.int .i64 (.ofNat (ct i))],134⟩] 1 [0] (fun w L q=>w= .aR [.str (rr i),.int .i64 0]/\L=[⟨0,[.int .i64 (.ofNat 2),.str (kk (i+1)),.str (vv (i+1)),.int .i64 (.ofNat (ct (i+1)))],134⟩]/\q=1):=fun i h=>by
  rw[hct];exact hGe i h
 have c0:ct 0=1:=by rw[hct]
 clear ha7 hz9
 refine aq hP Tryz.func10 (ak _ rfl) (aD rfl) ?_
 intro A g K hA hg hK
 obtain⟨bin,_,cmp,_,aX,_,_,_,fQ⟩:=A
 have e1:fQ true=false:=ln hA true
 have f1:∀i,i<64->cmp .lss (.ofNat i) 64=true:=fun i h=>cZ hA (b:=64) h
 have f2:cmp .lss (.ofNat 64) 64=false:=bM hA (a:=64) (b:=64) (by omega)
 have f3:∀i,i<64->bin .add .i64 (.ofNat i) 1=Int.ofNat (i+1):=fun i h=>gP hA (by omega)
 clear bk bv eD br hGb kE hvv mH
 cbv
 refine dJ hg hAw ?_
 cbv
 rw[e1]
 cbv
 refine bq hg hSe _root_.id trivial ?_
 cbv
 refine bH Nat (fun i=>i<=64) (fun i=>64-i) (fun i=> [(10,.int .i64 (.ofNat i))]) [0,1,2,6,7,8,9] (fun i=> [(0,[.int .i64 (.ofNat 2),.str (kk i),.str (vv i),.int .i64 (.ofNat (ct i))])]) 0 (bf _) ?_ ?_
 ·rw[c0]
  exact a_
 intro i hi
 by_cases ab:i<64
 ·have hG:=hGc i ab
  obtain⟨c1,eA⟩:=aa (ct (i+1))
  obtain⟨k1,dM⟩:=aa (kk (i+1))
  obtain⟨v1,gD⟩:=aa (vv (i+1))
  rw[<-eA,<-dM,<-gD]at hG
  cbv
  rw[f1 i ab]
  cbv
  refine bq hg hG _root_.id ⟨rfl,trivial⟩ ?_
  cbv
  rw[f3 i ab]
  refine⟨i+1,_root_.id,ab,(by show 64-(i+1)<64-i;omega),?_⟩
  rw[eA,dM,gD]
  exact a_
 ·obtain rfl:i=64:=by omega
  obtain⟨c,eA,dP,hc⟩:=ah6 hA x hx
  cbv
  rw[f2]
  cbv
  have iF:bin .add .i64 1 (aX .i64 (bin .rem .u64 (aX .u64 x) 15))=Int.ofNat c:=hc
  rw[iF]
  refine dJ hg hO7 ?_
  cbv
  refine aZ hg (hM c eA dP) (fun _=>0) ⟨rfl,trivial⟩ ?_
  have t0:cmp .eql 0 0=true:=iP hA (a:=0) (b:=0) rfl
  have t1:cmp .eql 2603 2603=true:=iP hA (a:=2603) (b:=2603) rfl
  have t4:cmp .eql (.ofNat (ct 64)) 65=true:=iP hA (a:=ct 64) (b:=65) C_
  cbv
  refine dJ hg (hN 2603) ?_
  cbv
  rw[t1]
  cbv
  rw[t0]
  cbv
  refine arV hP rfl hg rfl (f:=z9) (h:=z9) (f':=fun _=>0) (h':=fun _=>0) q2 rfl rfl ?_
  cbv
  refine aZ hg hCo (fun _=>0) ⟨rfl,trivial⟩ ?_
  cbv
  rw[t4]
  cbv
  exact hK _ _ _ rfl
end Go.Proofs.YtfocopihipejfaaGreat
namespace Go.Proofs.YtfocopihipejfaaGreat.ecdsaSpent
open Go.ChangeShapes Go.WideShapes Go.ChangeAt Go.RowKit
set_option linter.unusedVariables false
theorem own:ownKnob Tryz.prog.godebug=none:=by kernel_rfl
theorem laid:laidOutB Tryz.prog=true:=by kernel_rfl
theorem kinds:∀t∈Tryz.f10.params.toList,Tryz.prog.readableRec t=true/\t<Tryz.prog.types.size:=by
 have h:(Tryz.f10.params.toList.all fun t=>Tryz.prog.readableRec t&&decide (t<Tryz.prog.types.size))=true:=by kernel_rfl
 intro t ht
 simpa using List.all_eq_true.1 h t ht
set_option maxRecDepth 100000 in
theorem lifted(os:Os)(started:os.Started)(H:Type)(enc:TypeId×Value->H):
 ReturnsInHanded {} Tryz.checked os 10 .any (Rows.ecdsaSpentSpec.pre6 enc Tryz.prog Tryz.f10 Rows.ecdsaSpentRow.domain false) (Rows.ecdsaSpentSpec.post enc Tryz.prog Tryz.f10 false true false false):=by
 refine returnsInHanded_of_change_shaped (C:=Tryz.checked) own started (by kernel_rfl) Tryz.func10
  (ChangeSpec.witness6 (enc:=enc) (C:=Tryz.checked) false ⟨#[],#[.int .i64 0,.string ⟨#[]⟩,.string ⟨#[]⟩],[]⟩ 8 (by kernel_rfl) (by kernel_rfl) (by kernel_rfl) (by kernel_rfl)) ?_
 intro W base args ds gs before akp hW arw aJ arG _
 have Ek:∀ (j:Nat) t v,Tryz.f10.params[j]? =some t->args[j]? =some v->Value.okWide Tryz.prog W .any base t v:=akp
 have GA:args.size=Tryz.f10.params.size:=by
  obtain⟨p,q,hA,_⟩:=hW
  have h:=(trodAll_length hA).1
  simpa using h
 obtain⟨_,_,hA,_⟩:=id hW
 rw[Tryz.params10]at Ek GA hA aJ
 obtain⟨v0,v1,v2,rfl⟩:=arN GA
 have k0:=Ek 0 3 v0 rfl rfl
 have k1:=Ek 1 9 v1 rfl rfl
 have k2:=Ek 2 9 v2 rfl rfl
 simp only[Value.okWide,Tryz.underlying3]at k0
 obtain⟨n1,rfl,h1,h2⟩:=al_ Tryz.underlying3 k0
 obtain⟨s,rfl,h3⟩:=aqO hA aJ (j:=1) rfl rfl Tryz.underlying9 k1
 obtain⟨m,rfl,h4⟩:=aqO hA aJ (j:=2) rfl rfl Tryz.underlying9 k2
 have walked:=Vg.ah.calls (arP rfl n1 ⟨h1,h2⟩ s m (by omega) (by omega)) (fun _ _ _ h=>h) trivial W
 refine walked.mono fun e W' ⟨he,hB⟩=> ?_
 subst he
 exact⟨_,rfl,aqW 4 laid kinds rfl Tryz.underlying4 (by kernel_rfl) (fun ds h=>by rw[Tryz.params10]at h;match ds,h with| [d1,d2,d3],_=>rfl) hW hB⟩
theorem amc:Rows.ecdsaSpentRow.holds Tryz.pinned (OpenSpec.ofChange Rows.ecdsaSpentSpec):=
 OpenClaim.holds_of_wide 10 Tryz.f10 rfl rfl rfl rfl rfl rfl rfl ⟨rfl,rfl,rfl,rfl,rfl⟩ rfl rfl rfl rfl rfl (by kernel_rfl) Tryz.func10 (by kernel_rfl)
  (KT (by kernel_rfl)) (by unfold Func.isWrapper;first|(rw[aj (by decide +kernel)];kernel_rfl)|(rw[af (by decide +kernel)];exact⟨rfl,rfl⟩))
  (fun os started H enc _=>lifted os started H enc)
theorem proved:Rows.EcdsaSpentSaid:=
 amc
#print axioms proved
end Go.Proofs.YtfocopihipejfaaGreat.ecdsaSpent
