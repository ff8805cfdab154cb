/-
  This text proves what these texts prove: La, Pt, Oq, Qa, Qb, Qc, Qd. Conditions: those of each theorem.
-/
import Derived.Test.YtfocopihipejfaaGreatB26
import Derived.Test.YtfocopihipejfaaGreatB20
import Derived.Test.YtfocopihipejfaaGreatB25
set_option maxHeartbeats 8000000
set_option linter.all false
namespace Go.Proofs.YtfocopihipejfaaGreat
open Go.Vg Go.RowKit
set_option maxRecDepth 200000
set_option cbv.maxSteps 100000000
theorem Zs{P:Program}(hP:P=Tryz.prog)(x:Int):ah P 16 [.int .i64 x] [] 0 [] (fun v _ _=>v= .int .i64 x):=by
 refine aq hP Tryz.func16 (ak _ rfl) (aD rfl) ?_
 intro A g K hA hg hK
 cases A
 cbv
 exact hK _ _ _ rfl
theorem Zw{P:Program}(hP:P=Tryz.prog)(x:Nat)(r:Nat->Nat)(hr:r=fun j=>if j=0 then x else 0):ah P 42 [.int .u64 (.ofNat x)] [] 0 [] (fun v _ _=>v= .agg (ws r 9)):=by
 have e:ws r 9=[.int .u64 (.ofNat x),.int .u64 0,.int .u64 0,.int .u64 0,.int .u64 0,.int .u64 0,.int .u64 0,.int .u64 0,.int .u64 0]:=by rw[hr];rfl
 rw[e]
 clear hr e
 refine aq hP Tryz.func42 (ak _ rfl) (aD rfl) ?_
 intro A g K hA hg hK
 cases A
 cbv
 exact hK _ _ _ rfl
def Ct(l:List Nat):List Nat:=(l++[48,49,50,51,52,53,54,55,56,57,97,98,99,100,101,102]).take 200
theorem agV{P:Program}(hP:P=Tryz.prog)(s k v:ByteArray)(hs:s.size<2^62)(hk:bl k=(Sh.new 2 (Ct (bl s))).k)(hv:bl v=(Sh.new 2 (Ct (bl s))).v):
 ah P 35 [.str s] [] 0 [] (fun w L q=>w= .aR [.ptr 0 0,.ptr 1 0,.bool true]/\L=[⟨0,[.int .i64 (.ofNat 2),.str k,.str v,.int .i64 1],134⟩,⟨1,[.int .i64 (.ofNat 2),.str k,.str v,.int .i64 1],79⟩]/\q=2):=by
 obtain⟨lit,Tx⟩:=aa (⟨#[48,49,50,51,52,53,54,55,56,57,97,98,99,100,101,102]⟩:ByteArray)
 have oP:bl lit=[48,49,50,51,52,53,54,55,56,57,97,98,99,100,101,102]:=by rw[Tx];rfl
 have hls:lit.size=16:=by rw[Tx];rfl
 obtain⟨t,ht⟩:=aa (s++lit)
 have yP:t.size=s.size+16:=by rw[ht,r_,hls]
 have Ob:bl t=bl s++[48,49,50,51,52,53,54,55,56,57,97,98,99,100,101,102]:=by rw[ht,nO,oP]
 obtain⟨u,hu⟩:=aa (t.extract 0 200)
 have Az:bl u=Ct (bl s):=by rw[hu,H0,Ob];rfl
 have jh:16<=u.size/\u.size<=200:=by
  rw[<-bh,hu,H0,eY,bh,yP];omega
 have hN:ah P 80 [.int .i64 (.ofNat 2),.str u,.str ⟨#[]⟩,.str ⟨#[]⟩] [] 0 [] _:=afX hP 2 (by decide) u ⟨#[]⟩ ⟨#[]⟩ ⟨by show 16<=_;omega,by omega⟩ (by decide) (by decide) k v (by rw[hk,Az];show _=(Sh.new 2 (Ct (bl s)++[]++[])).k;rw[gg,gg]) (by rw[hv,Az];show _=(Sh.new 2 (Ct (bl s)++[]++[])).v;rw[gg,gg])
 have hR:ah P 81 [.int .i64 (.ofNat 2),.str u,.str ⟨#[]⟩,.str ⟨#[]⟩] [] 0 [] _:=agI hP 2 (by decide) (adr hP (Or.inr rfl)) u ⟨#[]⟩ ⟨#[]⟩ ⟨by show 32<=_;omega,by omega⟩ (by decide) (by decide) k v (by rw[hk,Az];show _=(Sh.new 2 (Ct (bl s)++[]++[])).k;rw[gg,gg]) (by rw[hv,Az];show _=(Sh.new 2 (Ct (bl s)++[]++[])).v;rw[gg,gg])
 have hNu:=Zs hP 0
 obtain⟨tz,htz⟩:=aa t.size
 clear hk hv Az oP
 refine aq hP Tryz.func35 (ak _ rfl) (aD rfl) ?_
 intro A g K hA hg hK
 obtain⟨_,_,cmp,_,_,_,_,_,_,_,iC,_,fK⟩:=A
 have e1:iC s ⟨#[48,49,50,51,52,53,54,55,56,57,97,98,99,100,101,102]⟩=some t:=by
  rw[<-Tx];exact(nK hA (by omega)).trans (by rw[ht])
 have e2:fK t=Int.ofNat tz:=(lK hA t).trans (by rw[htz])
 have e3:cmp .eql 0 0=true:=iP hA (a:=0) (b:=0) rfl
 cbv
 rw[e1]
 cbv
 rw[e2]
 by_cases Gk:200<tz
 ·have qY:oF P 9 (.str t) none (some (.i64,200)) (.str u):=by
   rw[hu];exact VX (hP▸aI) (show av 9=some _ from rfl) rfl t (j:=200) (by omega)
  cbv
  rw[show cmp .gtr (.ofNat tz) 200=true from po hA (a:=tz) (b:=200) Gk]
  cbv
  refine rS hg rfl rfl rfl rfl rfl qY ?_
  cbv
  refine bq hg hN _root_.id trivial ?_
  cbv
  refine bq hg hR _root_.id trivial ?_
  cbv
  refine dJ hg hNu ?_
  cbv
  rw[e3]
  cbv
  rw[e3]
  cbv
  exact hK _ _ _ ⟨rfl,rfl,rfl⟩
 ·obtain rfl:t=u:=by
   rw[hu];exact ph (by rw[H0,vf (by rw[bh];omega)])
  cbv
  rw[show cmp .gtr (.ofNat tz) 200=false from jV hA (a:=tz) (b:=200) Gk]
  cbv
  refine bq hg hN _root_.id trivial ?_
  cbv
  refine bq hg hR _root_.id trivial ?_
  cbv
  refine dJ hg hNu ?_
  cbv
  rw[e3]
  cbv
  rw[e3]
  cbv
  exact hK _ _ _ ⟨rfl,rfl,rfl⟩
structure GN(k x y:Nat):Prop where
 gx:qz (EC.G k)=x
 gy:uP (EC.G k)=y
 gi:uO (EC.G k)=false
 nx:qz (EC.neg (EC.G k))=x
 ny:uP (EC.neg (EC.G k))=EC.cp k-y
 ni:uO (EC.neg (EC.G k))=false
 y0:0<y
 yl:y<EC.cp k
 xl:x<EC.cp k
theorem gn(k:Nat):GN k (EC.aU k) (EC.cJ k):=by
 have hs:=EC.small k
 simp only[dq,qT]at hs
 have hx:=hs.1.1.1.1.2
 have hy:=hs.1.1.1.2
 have e2:uP (EC.G k)=EC.cJ k:=EC.qH _ hy
 have fy:(EC.nf (EC.cJ k):Fin (EC.cp k))≠0:=EC.Ok.y0 (EC.nF k) (EC.qK k)
 have hyp:0<EC.cJ k:=by
  refine vF fun h=>fy ?_
  rw[h]
  exact pM (EC.qH 0 (y9 k)|>.trans EC.val_zero.symm)
 refine⟨EC.qH _ hx,e2,rfl,EC.qH _ hx,?_,rfl,hyp,hy,hx⟩
 show(-(EC.nf (EC.cJ k):Fin (EC.cp k))).val=_
 rw[Fin.val_neg,EC.qH _ hy]
 rw[af fy]
theorem Iz{ρ:Nat->Nat}{M:Nat->Option aC}{l0 l1 l2 l3 l4 l5:Nat}{C0 C1 C2 C3 C4 C5:List SV}{t:TypeId}(b0:an 0 C0=true)(b1:an 0 C1=true)(b2:an 0 C2=true)(b3:an 0 C3=true)(b4:an 0 C4=true)(b5:an 0 C5=true)
 (h0:M (ρ l0)=some ⟨ρ l0,C0,t⟩) (h1:M (ρ l1)=some ⟨ρ l1,C1,t⟩) (h2:M (ρ l2)=some ⟨ρ l2,C2,t⟩) (h3:M (ρ l3)=some ⟨ρ l3,C3,t⟩) (h4:M (ρ l4)=some ⟨ρ l4,C4,t⟩) (h5:M (ρ l5)=some ⟨ρ l5,C5,t⟩):lu ρ M [⟨l0,C0,t⟩,⟨l1,C1,t⟩,⟨l2,C2,t⟩,⟨l3,C3,t⟩,⟨l4,C4,t⟩,⟨l5,C5,t⟩]:=
 ⟨by rw[ae _ b0];exact h0,by rw[ae _ b1];exact h1,by rw[ae _ b2];exact h2,by rw[ae _ b3];exact h3,by rw[ae _ b4];exact h4,by rw[ae _ b5];exact h5,trivial⟩
section
variable {P:Program}(hP:P=Tryz.prog){H:Nat->Nat->List SV}{S:Nat->Nat}(hs:HS H S)
include hP hs
theorem ak4(k nP nA nB nX nY cP cA cB cX cY:Nat)(r0 r1 r2 r4 r5:List SV)(b0:∀m,an m r0=true)(b1:∀m,an m r1=true)(b2:∀m,an m r2=true)(b4:∀m,an m r4=true)(b5:∀m,an m r5=true){n nc:Nat}(hn:n<4294967296^nc)(NS:n<4294967296^18)(bits:Nat)(hb:ig n bits)(cW:1<=bits/\bits<=576)
 (id:Nat) (hid:1<=id/\id<=4) (hO:RO P id) (msg:ByteArray) (oT:msg.size<140737488352000) (y w s e:Nat) (hy:y=Sh.word (Sh.of id (bl msg))) (N9:8*Sh.size id-bits=32*w+s) (lC:s<32) (TS:bits<8*Sh.size id) (hw:w<S y) (he:e=y/2^(32*w+s)) (wK:e<n):
 ∃ec,e<4294967296^ec/\ah P 20 [.agg (pW k (.slice 0 0 nP cP) (.slice 1 0 nA cA) (.slice 2 0 nB cB) (.slice 3 0 (S n) nc) (.slice 4 0 nX cX) (.slice 5 0 nY cY)),.int .i64 (.ofNat id),.str msg]
 [⟨0,r0,88⟩,⟨1,r1,88⟩,⟨2,r2,88⟩,⟨3,H n nc,88⟩,⟨4,r4,88⟩,⟨5,r5,88⟩] 6 [] (fun v L q=>v= .slice 6 0 (S e) ec/\L=[⟨6,H e ec,88⟩]/\q=7):=by
 have b3:=fun m=>hs.b m n nc
 have F7:=QS hP id hid _ rfl
 have By:=QQ hP (hs.nm hn) (by have:=hs.le NS;omega) bits hb
 rw[show Vg.hs (dg n) nc=H n nc from by rw[hs.h]]at By
 have abz:=Sh.mQ hid
 obtain⟨pX,fk⟩:∃b,bl b=Sh.of id (bl msg):=⟨ib (Sh.of id (bl msg)),gu (Sh.Cd id _)⟩
 have jO:pX.size=Sh.size id:=by rw[<-bh,fk];exact Sh.Ce hid _
 have kS:=hO msg pX oT fk
 obtain⟨yc,B6⟩:=aa (pX.size/4+1)
 obtain⟨sE,hRd⟩:=alg hP hs pX.size y (by omega) pX rfl (by rw[hy,fk]) yc B6
 have vY:=fun m=>hs.b m y yc
 have arq:S y<=yc:=hs.le sE
 obtain⟨N,hN⟩:=aa (S y-w)
 have hyS:y<4294967296^S y:=(hs.nm sE).lt
 have Gf:e<4294967296^N:=by
  rw[he,show(4294967296:Nat)=2^32 from rfl,<-jS]
  rw[show(4294967296:Nat)=2^32 from rfl,<-jS]at hyS
  refine xQ (cg hyS ?_)
  rw[<-dV]
  exact cV (by decide) (by omega)
 have qg:=agK hP (hs.nm sE).nw (by omega) (32*w+s) w s rfl hw lC N hN e (S e) he (by rw[hs.s])
 rw[show Vg.hs (dg y) yc=H y yc from by rw[hs.h],show Vg.hs (dg e) N=H e N from by rw[hs.h]]at qg
 have vE:=fun m=>hs.b m e N
 have dr:=GP hP hs Gf hn (cT wK (cg NS (cV (by decide) (by decide)))) wK
 refine⟨N,Gf,?_⟩
 obtain⟨sz,aJ⟩:=aa (Sh.size id)
 obtain⟨b8,oL⟩:=aa (8*sz)
 obtain⟨kk,kE⟩:=aa (32*w+s)
 rw[<-aJ]at F7 N9 TS abz
 rw[<-kE]at qg N9
 rw[<-oL]at N9 TS
 clear fk jO hy he hO
 refine ah.dj (R:=fun v L q=>v= .slice 8 0 (S e) N/\find L 8=some ⟨8,H e N,88⟩) ?_ fun v L q ⟨h1,h2⟩=>⟨fun l=>if l=6 then 8 else l,.slice 6 0 (S e) N,[⟨6,H e N,88⟩],7,by subst h1;exact dH ⟨rfl,rfl,trivial⟩ ⟨by rw[ae _ (vE 0)];exact h2,rfl,rfl,vE 7,trivial⟩ rfl rfl rfl,rfl,rfl,rfl⟩
 refine aq hP Tryz.func20 ⟨⟨trivial,ao rfl,ao rfl,ao rfl,ao rfl,ao rfl,ao rfl,trivial⟩,trivial,trivial,trivial⟩ (by simpa [ay,bd]using⟨ak _ (b0 6),ak _ (b1 6),ak _ (b2 6),ak _ (b3 6),ak _ (b4 6),ak _ (b5 6)⟩) ?_
 intro A g K hA hg hK
 obtain⟨bin,_,cmp,_,_,_,_,_,_,_,_,_,_,_,_,_,_,_,sub⟩:=A
 have e1:bin .mul .i64 8 (.ofNat sz)=Int.ofNat b8:=(k8 hA (a:=8) (b:=sz) (by omega)).trans (by rw[oL])
 have e2:cmp .gtr (.ofNat b8) (.ofNat bits)=true:=po hA TS
 have e3:bin .sub .i64 (.ofNat b8) (.ofNat bits)=Int.ofNat kk:=(er hA (a:=b8) (b:=bits) (by omega) (by omega)).trans (by rw[N9])
 cbv
 refine dJ hg F7 ?_
 cbv
 rw[e1]
 cbv
 refine dJ hg kS ?_
 cbv
 refine bq hg hRd _root_.id trivial ?_
 simp only[aG,ae _ (vY 0)]
 cbv
 refine aZ hg By (fun _=>3) (qV (b3 0) rfl) ?_
 cbv
 rw[e2]
 cbv
 refine aZ hg By (fun _=>3) (qV (b3 0) rfl) ?_
 cbv
 rw[e3]
 cbv
 refine bq hg qg (fun _=>7) (qV (vY 0) rfl) ?_
 simp only[aG,ae _ (vE 0)]
 cbv
 refine fT rfl hg rfl rfl dr (fun l=>if l=0 then 8 else 3) rfl (zO (vE 0) (b3 0) rfl rfl) ?_
 rintro _ _ _ rfl
 refine⟨ao rfl,ao rfl,?_⟩
 cbv
 exact hK _ _ _ ⟨rfl,rfl⟩
end
theorem agC{P:Program}(hP:P=Tryz.prog){m e y:Nat}{u:Nat->Nat}(hy:Nm m e u y)(r:Int)(h1:0<y->r= -1)(h2:y=0->r=0):
 ah P 30 [.au,.slice 0 0 m e] [⟨0,hs u e,88⟩] 1 [] (fun w _ _=>w= .int .i64 r):=by
 obtain⟨E,hE⟩:=aa (hs u e)
 have bE:∀m,an m E=true:=fun m=>by rw[hE];exact dG u e m
 rw[<-hE]
 clear hE
 have hz:=hy.zero
 refine aq hP Tryz.func30 ⟨trivial,⟨ao rfl,trivial⟩⟩ (by simpa [ay,bd]using ak _ (bE 1)) ?_
 intro A g K hA hg hK
 obtain⟨bin,_,cmp,_,_,_,_,_,_,_,_,_,_,_,nat,_,_,_,sub⟩:=A
 have e0:nat m=Int.ofNat m:=fZ hA m
 have hb:bin .sub .i64 0 1= -1:=by rw[show bin=jH from qQ hA];rfl
 have wg:cmp .geq (-1) 0=false:=(bg (bg (bg (kA hA) .geq) (-1)) 0).trans rfl
 by_cases fy:y=0
 ·have iH:m=0:=hz.2 fy
  obtain rfl:=h2 fy
  cbv
  rw[e0,show cmp .neq 0 (.ofNat m)=false from ow hA (a:=0) (b:=m) iH.symm]
  cbv
  rw[hb]
  refine bH Nat (fun j=>j=0) (fun j=>0) (fun j=> [(5,.int .i64 (-1))]) [0,1,4] (fun _=> []) 0 rfl ?_ ?_
  ·exact aS (by repeat' (first|exact trivial|refine⟨rfl,rfl,rfl,?_⟩|refine⟨rfl,rfl,bE 1,?_⟩))
  intro j hj
  cbv
  rw[wg]
  cbv
  exact hK _ _ _ rfl
 ·have iH:m≠0:=fun h=>fy (hz.1 h)
  obtain rfl:=h1 (vF fy)
  cbv
  rw[e0,show cmp .neq 0 (.ofNat m)=true from yX hA (a:=0) (b:=m) (fun h=>iH h.symm)]
  cbv
  rw[e0,show cmp .lss 0 (.ofNat m)=true from cZ hA (a:=0) (b:=m) (by omega)]
  cbv
  exact hK _ _ _ rfl
theorem agA{P:Program}(hP:P=Tryz.prog){m e y:Nat}{u:Nat->Nat}(hy:Nm m e u y)(hm:m<2^20)(k k1:Nat)(hk:k=m)(dM:k1=k+1)(r:Nat)(hr:r=Vg.sz (0+y)):
 ah P 29 [.au,.slice 0 0 m e] [⟨0,hs u e,88⟩] 1 [] (fun w L q=>w= .slice 1 0 r k1/\L=[⟨1,hs (dg (0+y)) k1,88⟩]/\q=2):=by
 obtain⟨Z,hZ⟩:=aa (fun i=>hs (wr (dg (0+y)) i) k1:Nat->List SV)
 have bZ:∀m i,an m (Z i)=true:=fun m i=>by rw[hZ];exact dG _ _ m
 have jN:List.replicate k1 (SV.int .u32 0)=Z 0:=by rw[hZ,qm];show _=hs (wr _ 0) k1;rw[E4]
 have cj:Z k1=hs (dg (0+y)) k1:=by rw[hZ];exact Gz _ _
 refine ah.dj (R:=fun w L q=>w= .slice 1 0 r k1/\find L 1=some ⟨1,Z k1,88⟩) ?_ fun v L q ⟨h1,h2⟩=>⟨_root_.id,.slice 1 0 r k1,[⟨1,Z k1,88⟩],2,by subst h1;exact fD ⟨rfl,rfl,trivial⟩ ⟨h2,rfl,bZ 2 k1,trivial⟩ rfl rfl,rfl,by rw[cj],rfl⟩
 have Gm:Int.ofNat k=if Int.ofNat m>0 then Int.ofNat m else 0:=by
  rw[hk]
  by_cases h:0<m
  ·rw[aj (show Int.ofNat m>0 from Hr.2 h)]
  ·rw[af (fun h2:Int.ofNat m>0=>h (Hr.1 h2))];show((m:Nat):Int)=0;omega
 have fJ:m<=k:=by omega
 have lB:k<2^20:=by omega
 have mM:0+y<4294967296^k1:=by
  have h2:=cg hy.lt (cV (show 0<4294967296 by decide) fJ)
  rw[dM,br];omega
 have jb:ah P 69 [.slice 0 0 k1 k1] [⟨0,Z k1,88⟩] 1 [] (fun w _ _=>w= .slice 0 0 r k1):=by
  rw[cj];exact pU hP (dg (0+y)) k1 k1 r (aE _) (by omega) (by rw[hr,rU mM])
 have jt:∀i,ah P 54 [.au,.int .i64 (.ofNat i)] [] 0 [] (fun w _ _=>w= .int .u64 0):=fun i=>agD hP i
 have s_:∀i,ah P 54 [.slice 0 0 m e,.int .i64 (.ofNat i)] [⟨0,hs u e,88⟩] 1 [] (fun w _ _=>w= .int .u64 (.ofNat (dg y i))):=fun i=>zA hP u m e i _ hy.le hy.w (by
  by_cases h:i<m
  ·rw[aj h,hy.eJ h]
  ·rw[af h,hy.pj (by omega)])
 have tf:sG 0 y k=dg (0+y) k:=by
  have h1:=(Hc 0 y k _ rfl).1
  rw[show dg 0 k=0 from by unfold dg Dg.eJ;rw[zp],hy.pj fJ]at h1
  have:=Il 0 y k
  omega
 obtain⟨cy,ir⟩:=aa (fun i=>sG 0 y i:Nat->Nat)
 have zE:cy 0=0:=by rw[ir];exact Q6 0 y
 have oJ:∀i,cy i<=1:=fun i=>by rw[ir];exact Il 0 y i
 have mZ:∀i s,s=dg 0 i+dg y i+cy i->dg (0+y) i=s%4294967296/\cy (i+1)=s/4294967296:=fun i s h=>by rw[ir]at *;exact Hc 0 y i s h
 have Im:cy k=dg (0+y) k:=by rw[ir];exact tf
 have Bp:=gR y
 have Ip:=gR (0+y)
 have wG:∀i v,v=dg (0+y) i->wr (dg (0+y)) (i+1)=fun j=>if j=i then v else wr (dg (0+y)) i j:=fun i v h=>E3 _ i v h
 obtain⟨X,hX⟩:=aa (fun _=>0:Nat->Nat)
 have X0:∀i,X i=0:=fun i=>by rw[hX]
 have Dk:∀i,X i<4294967296:=fun i=>by rw[X0];decide
 obtain⟨Y,hY⟩:=aa (dg y)
 obtain⟨S,hS⟩:=aa (dg (0+y))
 have mZ:∀i s,s=X i+dg y i+cy i->dg (0+y) i=s%4294967296/\cy (i+1)=s/4294967296:=fun i s h=>mZ i s (by rw[h,X0,show dg 0 i=0 from by unfold dg Dg.eJ;rw[zp]])
 rw[<-hY]at s_ Bp mZ
 rw[<-hS]at hZ Ip wG mZ Im
 obtain⟨E,hE⟩:=aa (hs u e)
 have bE:∀m,an m E=true:=fun m=>by rw[hE];exact dG u e m
 rw[<-hE]at s_⊢
 clear hE hX hY hS cj
 refine aq hP Tryz.func29 ⟨trivial,⟨ao rfl,trivial⟩⟩ (by simpa [ay,bd]using ak _ (bE 1)) ?_
 intro A g K hA hg hK
 obtain⟨bin,sh,cmp,_,aX,ix,_,_,_,_,_,_,_,_,nat,off,_,_,_,eU⟩:=A
 have e0:∀n,nat n=Int.ofNat n:=fun n=>fZ hA n
 have e1:bin .add .i64 (.ofNat k) 1=Int.ofNat k1:=(e_ hA (a:=k) (b:=1) (by omega)).trans (by rw[dM])
 have e2:∀i,i<k->cmp .lss (.ofNat i) (.ofNat k)=true:=fun i h=>cZ hA h
 have uf:cmp .lss (.ofNat k) (.ofNat k)=false:=bM hA (iO k)
 have e3:∀i,i<k->bin .add .i64 (.ofNat i) 1=Int.ofNat (i+1):=fun i h=>e_ hA (a:=i) (b:=1) (by omega)
 have e4:∀j,off 0 j 1=j:=fun j=>(dh hA 0 j 1).trans (by omega)
 have e5:∀i,i<k1->ix (.ofNat i) k1=some i:=fun i h=>bB hA h
 have e6:∀i v,i<k1->v=S i->eU (Z i) i [.int .u32 (.ofNat v)]=some (Z (i+1)):=fun i v h hv=>by rw[hZ];exact gX hA .u32 (n:=k1) (wr S i) (wr S (i+1)) h (wG i v hv)
 have hU:=rV hP
 clear hZ
 cbv
 rw[e0]
 refine Pe hg rfl rfl rfl rfl (r:=Int.ofNat k) Gm ?_
 cbv
 rw[e1]
 cbv
 refine nL (hP▸aI) hg rfl rfl (show av 23=some _ from rfl) rfl (show av 88=some _ from rfl) hU rfl (m:=k1) rfl rfl (by omega) (by omega) ?_
 rw[jN]
 cbv
 refine bH Nat (fun i=>i<=k) (fun i=>k-i) (fun i=> [(7,.int .u64 (.ofNat (cy i))),(8,.int .i64 (.ofNat i))]) [0,1,4,5,6] (fun i=> [(1,Z i)]) 0 (bf _) ?_ ?_
 ·rw[zE]
  exact aS (by repeat' (first|exact trivial|refine⟨rfl,rfl,rfl,?_⟩|refine⟨rfl,rfl,bE 2,?_⟩|refine⟨rfl,rfl,bZ 2 0,?_⟩))
 intro i hi
 by_cases ab:i<k
 ·obtain⟨s1,jg⟩:=aa (X i+Y i)
  obtain⟨s2,gk⟩:=aa (s1+cy i)
  obtain⟨s3,uG⟩:=aa (s2%4294967296)
  have cQ:=Dk i
  have eO:=Bp i
  have hl3:=oJ i
  obtain⟨q1,q2⟩:=mZ i s2 (by rw[gk,jg])
  have g1:bin .add .u64 0 (.ofNat (Y i))=Int.ofNat s1:=by have h:=qO hA (a:=0) (b:=Y i) (d:=s1) (by omega) (by rw[jg,X0]);exact h
  have g2:bin .add .u64 (.ofNat s1) (.ofNat (cy i))=Int.ofNat s2:=qO hA (by omega) gk
  have g3:bin .and .u64 (.ofNat s2) 4294967295=Int.ofNat s3:=uL hA (by omega) uG
  have g4:aX .u32 (.ofNat s3)=Int.ofNat s3:=jr hA (by omega)
  have g5:sh .shr .u64 (.ofNat s2) 32=Int.ofNat (cy (i+1)):=yI hA q2
  have g6:=e6 i s3 (by omega) (by rw[q1,uG])
  obtain⟨cn,nh⟩:=aa (cy (i+1))
  obtain⟨Zn,cj⟩:=aa (Z (i+1))
  rw[<-nh]at g5
  rw[<-cj]at g6
  cbv
  rw[e2 i ab]
  cbv
  refine dJ hg (jt i) ?_
  cbv
  refine aZ hg (s_ i) (fun _=>0) (fG (bE 0) rfl) ?_
  cbv
  rw[g1]
  cbv
  rw[g2]
  cbv
  rw[g3]
  cbv
  rw[g4]
  cbv
  rw[e5 i (by omega)]
  cbv
  rw[e4,g6]
  cbv
  rw[g5]
  cbv
  rw[e3 i ab]
  refine⟨i+1,_root_.id,ab,(by show k-(i+1)<k-i;omega),?_⟩
  rw[nh,cj]
  exact aS (by repeat' (first|exact trivial|refine⟨rfl,rfl,rfl,?_⟩|refine⟨rfl,rfl,bE 2,?_⟩|refine⟨rfl,rfl,bZ 2 (i+1),?_⟩))
 ·obtain rfl:i=k:=by omega
  cbv
  rw[uf]
  cbv
  have g4:aX .u32 (.ofNat (cy i))=Int.ofNat (cy i):=jr hA (by have:=oJ i;omega)
  have g6:=e6 i (cy i) (by omega) Im
  rw[<-dM]at g6
  rw[g4]
  cbv
  rw[e5 i (by omega)]
  cbv
  rw[e4,g6]
  cbv
  refine fT rfl hg rfl rfl jb (fun _=>1) rfl (fG (bZ 0 k1) rfl) ?_
  rintro _ _ _ rfl
  refine⟨by simp[bd],by simp[bd,cK],?_⟩
  cbv
  exact hK _ _ _ ⟨rfl,rfl⟩
theorem agO{P:Program}(hP:P=Tryz.prog){m e:Nat}{u:Nat->Nat}:
 ah P 44 [.au,.slice 0 0 m e] [⟨0,hs u e,88⟩] 1 [] (fun w L q=>w= .slice 1 0 0 0/\L=[⟨1,hs (dg 0) 0,88⟩]/\q=2):=by
 refine ah.dj (R:=fun w L q=>w= .slice 1 0 0 0/\find L 1=some ⟨1,hs (dg 0) 0,88⟩) ?_ fun v L q ⟨h1,h2⟩=>⟨_root_.id,.slice 1 0 0 0,[⟨1,hs (dg 0) 0,88⟩],2,by subst h1;exact fD ⟨rfl,rfl,trivial⟩ ⟨h2,rfl,dG _ _ 2,trivial⟩ rfl rfl,rfl,rfl,rfl⟩
 have jb:ah P 69 [.slice 0 0 0 0] [⟨0,hs (dg 0) 0,88⟩] 1 [] (fun w _ _=>w= .slice 0 0 0 0):=pU hP (dg 0) 0 0 0 (aE _) (by decide) rfl
 obtain⟨E,hE⟩:=aa (hs u e)
 have bE:∀m,an m E=true:=fun m=>by rw[hE];exact dG u e m
 rw[<-hE]
 clear hE
 obtain⟨O,hO⟩:=aa (hs (dg 0) 0)
 have bO:∀m,an m O=true:=fun m=>by rw[hO];exact dG _ _ m
 have IY:List.replicate 0 (SV.int .u32 0)=O:=by rw[hO];rfl
 rw[<-hO]at jb⊢
 clear hO
 have hU:=rV hP
 refine aq hP Tryz.func44 ⟨trivial,⟨ao rfl,trivial⟩⟩ (by simpa [ay,bd]using ak _ (bE 1)) ?_
 intro A g K hA hg hK
 obtain⟨_,_,cmp⟩:=A
 have e1:cmp .lss 0 0=false:=bM hA (a:=0) (b:=0) (by decide)
 cbv
 refine nL (hP▸aI) hg rfl rfl (show av 23=some _ from rfl) rfl (show av 88=some _ from rfl) hU rfl (m:=0) rfl rfl (by omega) (by omega) ?_
 rw[IY]
 cbv
 refine bH Nat (fun j=>j=0) (fun j=>0) (fun j=> [(6,.int .u64 0),(7,.int .i64 0)]) [0,1,4,5] (fun _=> []) 0 rfl ?_ ?_
 ·exact aS (by repeat' (first|exact trivial|refine⟨rfl,rfl,rfl,?_⟩|refine⟨rfl,rfl,bE 2,?_⟩|refine⟨rfl,rfl,bO 2,?_⟩))
 intro j hj
 cbv
 rw[e1]
 cbv
 refine fT rfl hg rfl rfl jb (fun _=>1) rfl (fG (bO 0) rfl) ?_
 rintro _ _ _ rfl
 refine⟨by simp[bd],by simp[bd,cK],?_⟩
 cbv
 exact hK _ _ _ ⟨rfl,rfl⟩
theorem agH{P:Program}(hP:P=Tryz.prog){m e y:Nat}{u:Nat->Nat}(hy:Nm m e u y)(hm:m<2^20):
 ah P 107 [.au,.slice 0 0 m e] [⟨0,hs u e,88⟩] 1 [] (fun w L q=>w= .slice 1 0 0 m/\L=[⟨1,hs (dg 0) m,88⟩]/\q=2):=by
 refine ah.dj (R:=fun w L q=>w= .slice 1 0 0 m/\find L 1=some ⟨1,hs (dg 0) m,88⟩) ?_ fun v L q ⟨h1,h2⟩=>⟨_root_.id,.slice 1 0 0 m,[⟨1,hs (dg 0) m,88⟩],2,by subst h1;exact fD ⟨rfl,rfl,trivial⟩ ⟨h2,rfl,dG _ _ 2,trivial⟩ rfl rfl,rfl,rfl,rfl⟩
 have jb:ah P 69 [.slice 0 0 m m] [⟨0,hs (dg 0) m,88⟩] 1 [] (fun w _ _=>w= .slice 0 0 0 m):=pU hP (dg 0) m m 0 (aE _) (by omega) (by rw[rU (show 0<4294967296^m from ew (by decide))];exact(AX (x:=0) (k:=0) (by decide)).acH.symm.trans rfl)
 obtain⟨E,hE⟩:=aa (hs u e)
 have bE:∀m,an m E=true:=fun m=>by rw[hE];exact dG u e m
 rw[<-hE]
 clear hE
 obtain⟨O,hO⟩:=aa (hs (dg 0) m)
 have bO:∀m,an m O=true:=fun m=>by rw[hO];exact dG _ _ m
 have IY:List.replicate m (SV.int .u32 0)=O:=by
  rw[hO,qm]
  exact D_ fun j _=>by unfold dg Dg.eJ;rw[zp]
 rw[<-hO]at jb⊢
 clear hO
 have hU:=rV hP
 refine aq hP Tryz.func107 ⟨trivial,⟨ao rfl,trivial⟩⟩ (by simpa [ay,bd]using ak _ (bE 1)) ?_
 intro A g K hA hg hK
 obtain⟨bin,_,cmp,_,_,_,_,_,_,_,_,_,_,_,nat⟩:=A
 have e1:cmp .lss 0 0=false:=bM hA (a:=0) (b:=0) (by decide)
 have e0:nat m=Int.ofNat m:=fZ hA m
 have e2:bin .add .i64 0 (.ofNat m)=Int.ofNat m:=(e_ hA (a:=0) (b:=m) (by omega)).trans (by rw[dB])
 cbv
 rw[e0,e2]
 cbv
 refine nL (hP▸aI) hg rfl rfl (show av 23=some _ from rfl) rfl (show av 88=some _ from rfl) hU rfl (m:=m) rfl rfl (by omega) (by omega) ?_
 rw[IY]
 cbv
 refine bH Nat (fun j=>j=0) (fun j=>0) (fun j=> [(6,.int .i64 0)]) [0,1,4,5] (fun _=> []) 0 rfl ?_ ?_
 ·exact aS (by repeat' (first|exact trivial|refine⟨rfl,rfl,rfl,?_⟩|refine⟨rfl,rfl,bE 2,?_⟩|refine⟨rfl,rfl,bO 2,?_⟩))
 intro j hj
 cbv
 rw[e1]
 cbv
 refine fT rfl hg rfl rfl jb (fun _=>1) rfl (fG (bO 0) rfl) ?_
 rintro _ _ _ rfl
 refine⟨by simp[bd],by simp[bd,cK],?_⟩
 cbv
 exact hK _ _ _ ⟨rfl,rfl⟩
section
variable {P:Program}(hP:P=Tryz.prog){H:Nat->Nat->List SV}{S:Nat->Nat}(hs:HS H S)
include hP hs
theorem adA(hP':P=P):S 0=0:=by have:=hP;exact(hs.nm (x:=0) (c:=0) (by decide)).zero.2 rfl
theorem acp{y e:Nat}(hy:y<4294967296^e)(r:Int)(h1:0<y->r= -1)(h2:y=0->r=0):ah P 30 [.au,.slice 0 0 (S y) e] [⟨0,H y e,88⟩] 1 [] (fun w _ _=>w= .int .i64 r):=by
 have h:=agC hP (hs.nm hy) r h1 h2
 rw[show Vg.hs (dg y) e=H y e from by rw[hs.h]]at h
 exact h
theorem acn{y e:Nat}(hy:y<4294967296^e)(hb:y<4294967296^40):∃k,y<4294967296^k/\ah P 29 [.au,.slice 0 0 (S y) e] [⟨0,H y e,88⟩] 1 [] (fun w L q=>w= .slice 1 0 (S y) k/\L=[⟨1,H y k,88⟩]/\q=2):=by
 have h:=agA hP (hs.nm hy) (by have:=hs.le hb;omega) (S y) (S y+1) rfl rfl (S y) (by rw[dB,hs.s])
 rw[dB,show Vg.hs (dg y) e=H y e from by rw[hs.h],show Vg.hs (dg y) (S y+1)=H y (S y+1)from by rw[hs.h]]at h
 exact⟨S y+1,cg (hs.nm hy).lt (cV (by decide) (by omega)),h⟩
theorem ali{y e:Nat}:ah P 44 [.au,.slice 0 0 (S y) e] [⟨0,H y e,88⟩] 1 [] (fun w L q=>w= .slice 1 0 (S 0) 0/\L=[⟨1,H 0 0,88⟩]/\q=2):=by
 have h:=agO hP (m:=S y) (e:=e) (u:=dg y)
 rw[show Vg.hs (dg y) e=H y e from by rw[hs.h],show Vg.hs (dg 0) 0=H 0 0 from by rw[hs.h]]at h
 rw[adA hP hs rfl]
 exact h
theorem ak7{y e:Nat}(hy:y<4294967296^e)(hb:y<4294967296^40):ah P 107 [.au,.slice 0 0 (S y) e] [⟨0,H y e,88⟩] 1 [] (fun w L q=>w= .slice 1 0 (S 0) (S y)/\L=[⟨1,H 0 (S y),88⟩]/\q=2):=by
 have h:=agH hP (hs.nm hy) (by have:=hs.le hb;omega)
 rw[show Vg.hs (dg y) e=H y e from by rw[hs.h],show Vg.hs (dg 0) (S y)=H 0 (S y)from by rw[hs.h]]at h
 rw[adA hP hs rfl]
 exact h
theorem ak8{y e z g':Nat}(hy:y<4294967296^e)(hz:z<4294967296^g')(cW:y<4294967296^18)(oW:0<z):
 ah P 59 [.au,.slice 0 0 (S y) e,.slice 1 0 (S z) g'] [⟨0,H y e,88⟩,⟨1,H z g',88⟩] 2 [] (fun w L q=>w= .slice 2 0 (S 0) (S y)/\L=[⟨2,H 0 (S y),88⟩]/\q=3):=by
 have hM:=ak7 hP hs hy (j_ hP hs cW)
 have hD:=GP hP hs (x:=0) (c:=S y) (ew (by decide)) hz (ew (by decide)) oW
 have bE:=fun m=>hs.b m y e
 have bG:=fun m=>hs.b m z g'
 have bL:=fun m=>hs.b m 0 (S y)
 obtain⟨s0,iK⟩:=aa (S 0)
 obtain⟨C,hC⟩:=aa (H 0 (S y))
 rw[<-hC]at hM hD bL⊢
 rw[<-iK]at hM hD⊢
 clear hC
 refine ah.dj (R:=fun w L q=>w= .slice 2 0 s0 (S y)/\find L 2=some ⟨2,C,88⟩) ?_ fun v L q ⟨h1,h2⟩=>⟨_root_.id,.slice 2 0 s0 (S y),[⟨2,C,88⟩],3,by subst h1;exact fD ⟨rfl,rfl,trivial⟩ ⟨h2,rfl,bL 3,trivial⟩ rfl rfl,rfl,rfl,rfl⟩
 refine aq hP Tryz.func59 ⟨trivial,⟨ao rfl,⟨ao rfl,trivial⟩⟩⟩ (by simpa [ay,bd]using⟨ak _ (bE 2),ak _ (bG 2)⟩) ?_
 intro A g K hA hg hK
 cases A
 cbv
 refine bq hg hM _root_.id (fG (bE 0) rfl) ?_
 simp only[aG,ae C (bL 0)]
 cbv
 refine fT rfl hg rfl rfl hD (fun k=>if k=0 then 2 else 1) rfl (eK (bL 0) (bG 0) rfl rfl) ?_
 rintro _ _ _ rfl
 refine⟨by simp[bd],by simp[bd,cK],?_⟩
 cbv
 exact hK _ _ _ ⟨rfl,rfl⟩
theorem U3{y e z g':Nat}(hy:y<4294967296^e)(hz:z<4294967296^g')(cW:z<4294967296^18)(rI:y<=z)(r:Nat)(hr:r=if y=0 then 0 else z-y):
 ∃k,r<4294967296^k/\ah P 106 [.au,.slice 0 0 (S y) e,.slice 1 0 (S z) g'] [⟨0,H y e,88⟩,⟨1,H z g',88⟩] 2 [] (fun w L q=>w= .slice 2 0 (S r) k/\L=[⟨2,H r k,88⟩]/\q=3):=by
 have bE:=fun m=>hs.b m y e
 have bG:=fun m=>hs.b m z g'
 by_cases fy:y=0
 ·rw[aj fy]at hr
  have hC:=acp hP hs hy 0 (fun h=>absurd fy (by omega)) (fun _=>rfl)
  have hD:=ali hP hs (y:=y) (e:=e)
  subst hr
  refine⟨0,by decide,?_⟩
  obtain⟨r,hr⟩:=aa (S 0)
  obtain⟨C,nV⟩:=aa (H 0 0)
  have bK:∀m,an m C=true:=fun m=>by rw[nV];exact hs.b m 0 0
  rw[<-hr,<-nV]at hD⊢
  clear nV hr
  refine ah.dj (R:=fun w L q=>w= .slice 2 0 r 0/\find L 2=some ⟨2,C,88⟩) ?_ fun v L q ⟨h1,h2⟩=>⟨_root_.id,.slice 2 0 r 0,[⟨2,C,88⟩],3,by subst h1;exact fD ⟨rfl,rfl,trivial⟩ ⟨h2,rfl,bK 3,trivial⟩ rfl rfl,rfl,rfl,rfl⟩
  refine aq hP Tryz.func106 ⟨trivial,⟨ao rfl,⟨ao rfl,trivial⟩⟩⟩ (by simpa [ay,bd]using⟨ak _ (bE 2),ak _ (bG 2)⟩) ?_
  intro A g K hA hg hK
  obtain⟨_,_,cmp⟩:=A
  have e1:cmp .geq 0 0=true:=kC hA (a:=0) (b:=0) (by decide)
  cbv
  refine aZ hg hC _root_.id (fG (bE 0) rfl) ?_
  cbv
  rw[e1]
  cbv
  refine bq hg hD _root_.id (fG (bE 0) rfl) ?_
  simp only[aG,ae C (bK 0)]
  cbv
  exact hK _ _ _ ⟨rfl,rfl⟩
 ·rw[af fy]at hr
  have hC:=acp hP hs hy (-1) (fun _=>rfl) (fun h=>absurd h fy)
  obtain⟨l,hl,hM⟩:=acn hP hs hz (j_ hP hs cW)
  obtain⟨k,hk,hD⟩:=UZ hP hs hl hy (j_ hP hs cW) rI r hr
  refine⟨k,hk,?_⟩
  have bL:=fun m=>hs.b m z l
  have bK:=fun m=>hs.b m r k
  refine ah.dj (R:=fun w L q=>w= .slice 3 0 (S r) k/\find L 3=some ⟨3,H r k,88⟩) ?_ fun v L q ⟨h1,h2⟩=>⟨fun l=>if l=2 then 3 else l,.slice 2 0 (S r) k,[⟨2,H r k,88⟩],3,by subst h1;exact dH ⟨rfl,rfl,trivial⟩ ⟨by rw[ae (H r k) (bK 0)];exact h2,rfl,rfl,bK 3,trivial⟩ rfl rfl rfl,rfl,rfl,rfl⟩
  refine aq hP Tryz.func106 ⟨trivial,⟨ao rfl,⟨ao rfl,trivial⟩⟩⟩ (by simpa [ay,bd]using⟨ak _ (bE 2),ak _ (bG 2)⟩) ?_
  intro A g K hA hg hK
  obtain⟨_,_,cmp⟩:=A
  have e1:cmp .geq (-1) 0=false:=(bg (bg (bg (kA hA) .geq) (-1)) 0).trans rfl
  cbv
  refine aZ hg hC _root_.id (fG (bE 0) rfl) ?_
  cbv
  rw[e1]
  cbv
  refine bq hg hM (fun _=>1) (fG (bG 0) rfl) ?_
  simp only[aG,ae (H z l) (bL 0)]
  cbv
  refine bq hg hD (fun k=>if k=0 then 2 else 0) (eK (bL 0) (bE 0) rfl rfl) ?_
  simp only[aG,ae (H r k) (bK 0)]
  cbv
  exact hK _ _ _ ⟨rfl,rfl⟩
theorem ak5{x c y e:Nat}(hx:x<4294967296^c)(hy:y<4294967296^e)(hb:x<4294967296^40)(hle:y<=x)(fy:0<y)(q r:Nat)(hq:q=x/y)(hr:r=x%y)(cC:y<4294967296\/r≠0):
 ∃qc rc,q<4294967296^qc/\r<4294967296^rc/\ah P 104 [.slice 0 0 (S x) c,.slice 1 0 (S y) e] [⟨0,H x c,88⟩,⟨1,H y e,88⟩] 2 [] (fun w L n=>w= .aR [.slice 2 0 (S q) qc,.slice 3 0 (S r) rc]/\L=[⟨2,H q qc,88⟩,⟨3,H r rc,88⟩]/\n=4):=by
 have arp:=hs.le hb
 have hqx:q<4294967296^S x:=by rw[hq];exact eB (gq _ _) (hs.nm hx).lt
 rcases Nat.lt_or_ge y 4294967296 with rF|rF
 ·have BA:=hs.nm hy
  rw[hs.one rF fy]at BA
  have hD:=Zy hP (hs.nm hx) BA (by omega) hle fy
  refine⟨S x,1,hqx,by rw[zo,hr];exact cT (ax _ fy) rF,?_⟩
  rw[hs.one rF fy]
  rw[show Vg.hs (dg x) c=H x c from by rw[hs.h],show Vg.hs (dg y) e=H y e from by rw[hs.h],<-hr,<-hq,show Vg.hs (dg r) 1=H r 1 from by rw[hs.h],show Vg.hs (dg q) (S x)=H q (S x)from by rw[hs.h],show Vg.sz r=S r from by rw[hs.s],show Vg.sz q=S q from by rw[hs.s]]at hD
  exact hD
 ·obtain⟨b,jD⟩:=ua y
  obtain⟨rc,kW⟩:=aa (Vg.sz (r*2^(32*S y-b)))
  have cU:=hs.two rF
  have mM:S y<=S x:=by
   rcases(hs.nm hy).sz.2 with h|h
   ·omega
   ·rcases Nat.lt_or_ge (S x) (S y)with h2|h2
    ·exact absurd (cg (hs.nm hx).lt (cV (by decide) (show S x<=S y-1 by omega))) (vC.2 (eH h hle))
    ·exact h2
  have kq:r≠0:=by omega
  obtain⟨J,hJ⟩:=aa (S x+1-S y)
  have iW:r<4294967296^rc:=by
   have h1:r<=r*2^(32*S y-b):=aeZ _ (i_ _)
   have h2:=(AX (x:=r*2^(32*S y-b)) (k:=r*2^(32*S y-b)) (cg L3 (L8 (by decide) _))).lt
   rw[<-kW]at h2
   exact eB h1 h2
  have kJ:4294967296^(S y-1)<=y:=by
   rcases(hs.nm hy).sz.2 with h|h
   ·omega
   ·exact h
  have oq:q<4294967296^J:=by
   refine LZ (a:=4294967296^(S y-1)) ?_
   rw[<-dV,show J+(S y-1)=S x by omega]
   refine eB ?_ (hs.nm hx).lt
   refine eH (xS q kJ) ?_
   rw[hq];exact CP x y
  have hD:=QR hP (hs.nm hx) (hs.nm hy) (by omega) cU hle q r J rc 4 (.slice 3 0 (Vg.sz r) rc) [⟨3,Vg.hs (dg r) rc,88⟩] hq hr (by omega) (Or.inr ⟨kq,rfl,rfl,rfl⟩) ⟨b,jD,kW⟩
  rw[show Vg.hs (dg x) c=H x c from by rw[hs.h],show Vg.hs (dg y) e=H y e from by rw[hs.h],show Vg.hs (dg r) rc=H r rc from by rw[hs.h],show Vg.hs (dg q) J=H q J from by rw[hs.h],show Vg.sz r=S r from by rw[hs.s],show Vg.sz q=S q from by rw[hs.s]]at hD
  exact⟨J,rc,oq,iW,hD⟩
end
end Go.Proofs.YtfocopihipejfaaGreat
namespace EC
open Pr
section
variable {p:Nat}[NeZero p]
theorem acN:(nf p:Fin p)=0:=by apply pM;simp[nf,Fin.ofNat]
theorem alM{t x n:Nat}(hn:n=if x<=t then t-x else t+p-x)(AI:x<p):(nf n:Fin p)=nf t-nf x:=by
 have e1:(nf n:Fin p)+nf x=nf t:=by
  rw[<-mN,hn]
  split
  ·congr 1;omega
  ·rw[show t+p-x+x=t+p by omega,mN,acN];grobner
 clear hn;grobner
theorem alQ:(nf 0:Fin p)=0:=by apply pM;simp[nf,Fin.ofNat]
omit [NeZero p] in
theorem alA(hp:ai p){x y:Nat}(kY:0<x)(hx:x<p)(fy:0<y)(hy:y<p):x*y%p≠0:=fun h=>by
 rcases hp.dvd_mul (vh h)with h|h
 ·exact absurd (mg kY h) (by omega)
 ·exact absurd (mg fy h) (by omega)
omit [NeZero p] in
theorem acG(hp:ai p){x y:Nat}(hx:x<p)(hy:y<p):x*y<p\/p<4294967296\/x*y%p≠0:=by
 rcases Nat.eq_zero_or_pos x with rfl|kY
 ·left;rw[fE];omega
 ·rcases Nat.eq_zero_or_pos y with rfl|fy
  ·left;rw[L7];omega
  ·exact .inr (.inr (alA hp kY hx fy hy))
structure pe(p a r s t u:Nat)[NeZero p]:Prop where
 sr:s<r
 rp:r<=p
 g:Nat.gcd r s=1
 tp:t<p
 up:u<p
 t:(nf t:Fin p)*nf a=nf r
 u:(nf u:Fin p)*nf a=nf s
theorem pe.start(hp:ai p){a:Nat}(h0:0<a)(ha:a<p):pe p a p a 0 1:=by
 have h1:=hp.1
 refine⟨ha,aE _,hp.coprime fun h=>absurd (mg h0 h) (by omega),by omega,by omega,?_,?_⟩
 ·rw[alQ,acN];grobner
 ·rw[<-jm,fN]
variable {a r s t u:Nat}
theorem pe.div(h:pe p a r s t u)(hs:0<s):s<4294967296\/r%s≠0:=by
 by_cases h0:r%s=0
 ·left
  have h1:=h.g
  rw[Fi,HD,h0,Nat.gcd_zero_left]at h1
  omega
 ·exact .inr h0
theorem pe.next(h:pe p a r s t u)(hs:0<s){x n:Nat}(hx:x=r/s%p*u%p)(hn:n=if x<=t then t-x else t+p-x):pe p a s (r%s) u n:=by
 have h1:=h.sr
 have h2:=h.rp
 have h3:=h.tp
 have AI:x<p:=by rw[hx];exact ax _ (by omega)
 refine⟨ax _ hs,by omega,?_,h.up,by rw[hn];split<;>omega,h.u,?_⟩
 ·rw[Fi,<-HD,Fi];exact h.g
 ·have e1:=alM (p:=p) hn AI
  have e2:(nf x:Fin p)=nf (r/s)*nf u:=by rw[hx,iA,jm,iA]
  have e3:(nf r:Fin p)=nf s*nf (r/s)+nf (r%s):=by rw[<-jm,<-mN,gN]
  have e4:=h.t
  have e5:=h.u
  clear hx hn AI h1 h2 h3 h hs
  grobner
theorem pe.fin(h:pe p a r 0 t u):r=1:=by have:=h.g;rwa [Nat.gcd_zero_right]at this
theorem pe.out(hp:ai p)(h2:p≠2)(h:pe p a r 0 t u):t=(aN (nf a:Fin p)).val:=by
 have h1:=h.t
 rw[h.fin]at h1
 have e:(nf 1:Fin p)=1:=rfl
 rw[e]at h1
 have ha:(nf a:Fin p)≠0:=fun h3=>by
  rw[h3]at h1
  have h4:(1:Fin p)=0:=by rw[<-h1];grobner
  have h5:=aK Fin.val h4
  rw[val_one hp.1,val_zero]at h5
  omega
 have h3:=KO hp ha
 have h4:(nf t:Fin p)=aN (nf a):=cancel (Iu hp h2) ha (by rw[h3,<-h1];grobner)
 rw[<-h4,qH t h.tp]
theorem pe.quo(h:pe p a r s t u)(hs:0<s):r/s<p\/(r=p/\s=1/\r/s=p):=by
 have h1:=h.rp
 have h2:=h.sr
 rcases Nat.lt_or_ge (r/s) p with h3|h3
 ·exact .inl h3
 ·have h4:=gq r s
  have h5:r=p:=by omega
  have h6:s=1:=by
   rcases Nat.lt_or_ge s 2 with h6|h6
   ·omega
   ·have:=Nat.div_lt_self (show 0<r by omega) h6;omega
  exact .inr ⟨h5,h6,by omega⟩
end
end EC
namespace Go.Vg
open Go.RowKit
theorem akh(c M:Nat)(hM:M<=c):rep (c-M) [SV.int .u32 0]=(hs (fun _=>0) c).drop M:=by
 rw[<-qm,Yi]
 generalize c-M=k
 induction k with
 |zero=>rfl
 |succ k ih=>rw[rep,ih,PX];rfl
section
variable {P:Program}{g:G}{T:Nat->Option Ty}{F:FF}{L:LL}{n:Nat}{H:Nat->Nat->List SV}{S:Nat->Nat}
theorem G_(hh:HS H S)(hT:cI P T){o:Oper}{m0 N:Nat}{ms:List Nat}(hg:GI g m0 ms N)(aA:dD N o.dst=true){s x:Operand}{t:Nat}(ho:o.op= .call {callee:= .builtin .append,args:= #[s,x],argTypes:= #[t,t]})
 {i:Ty} (ht:T t=some i) {e:Nat} (hd:i.d= .sl e 1) {j:Ty} (hj:T e=some j) (hz:j.z=[SV.int .u32 0]) (hB:(P.info? e).map (·.bytes)=some 4)
 {l k X c:Nat} (hs:ev (look F) s=some (.slice l 0 0 0)) (hl:find L l=some ⟨l,[],e⟩) (c_:own m0 ms l=true) (hx:ev (look F) x=some (.slice k 0 (S X) c)) (hk:find L k=some ⟨k,H X c,e⟩) (hX:X<4294967296^c) (hb:X<4294967296^40)
 {K:FF->LL->Nat->Prop} (h0:X<4294967296^0->K (cH F o.dst (.slice l 0 (S X) 0)) (me L l (H X 0)) n)
 (h1:0<S X->∀c',X<4294967296^c'->K (cH F o.dst (.slice n 0 (S X) c')) (L++[⟨n,H X c',e⟩]) (n+1)):Step g P o K F L n:=by
 have hN:=hh.nm hX
 have hle:=hh.le hb
 have hlen:(H X c).length=c:=by rw[hh.h];exact TQ _ _
 refine step_append hT hg aA ho ht hd hj hB (by decide) hs hl (by simp) hx hk (by rw[hlen];have:=hN.le;omega) (by rw[lh,fh,hh.h];exact abt _ _ _) (by simp only[maxLen];omega) (by omega) ?_ ?_
 ·intro h
  have oW:S X=0:=by omega
  refine⟨c_,by simp[oW],?_⟩
  have h2:=h0 (by rw[hN.zero.1 oW];decide)
  rw[show H X 0=[]from by rw[hh.h];rfl,oW]at h2
  rw[oW]
  simpa [Vg.splice]using h2
 ·intro h c' eA _
  have:=h1 (by omega) c' (cg hN.lt (cV (by decide) (by omega)))
  rw[dB]at eA⊢
  rw[List.drop_nil,List.take_nil,cM,lh,fh,hz,akh _ _ eA,hh.h]
  rw[show(fun x c=>Vg.hs (dg x) c) X c=Vg.hs (dg X) c from rfl,abr hN eA]
  rw[hh.h]at this
  exact this
end
end Go.Vg
namespace Go.Proofs.YtfocopihipejfaaGreat
open Go.Vg Go.RowKit
set_option maxRecDepth 200000
set_option cbv.maxSteps 100000000
structure sd where
 κ:Nat
 r:Nat
 s:Nat
 t:Nat
 u:Nat
 cr:Nat
 cs:Nat
 ct:Nat
 cu:Nat
def sd.ok(p a c:Nat)[NeZero p](x:sd):Prop:=EC.pe p a x.r x.s x.t x.u/\x.s<4294967296^x.cs/\x.r<4294967296^x.cr/\x.t<4294967296^x.ct/\x.u<4294967296^x.cu/\((x.κ=0/\x.r=p/\x.t=0/\x.s=a/\x.cs=c)\/(x.κ=1/\x.r=a/\x.cr=c/\x.r<p)\/(x.κ=2/\x.r<p))
def sd.F(S:Nat->Nat)(p e:Nat)(x:sd):FF:=match x.κ with
 |0=> [(1,.slice 1 0 (S p) e),(6,.slice 4 0 (S x.r) x.cr),(7,.slice 0 0 (S x.s) x.cs),(8,.au),(9,.slice 5 0 (S x.u) x.cu)]
 |1=> [(1,.slice 1 0 (S p) e),(6,.slice 0 0 (S x.r) x.cr),(7,.slice 4 0 (S x.s) x.cs),(8,.slice 3 0 (S x.t) x.ct),(9,.slice 5 0 (S x.u) x.cu)]
 |_=> [(1,.slice 1 0 (S p) e),(6,.slice 2 0 (S x.r) x.cr),(7,.slice 4 0 (S x.s) x.cs),(8,.slice 3 0 (S x.t) x.ct),(9,.slice 5 0 (S x.u) x.cu)]
def sd.L(H:Nat->Nat->List SV)(p e:Nat)(x:sd):LL:=match x.κ with
 |0=> [⟨0,H x.s x.cs,88⟩,⟨1,H p e,88⟩,⟨4,H x.r x.cr,88⟩,⟨5,H x.u x.cu,88⟩]
 |1=> [⟨0,H x.r x.cr,88⟩,⟨1,H p e,88⟩,⟨3,H x.t x.ct,88⟩,⟨4,H x.s x.cs,88⟩,⟨5,H x.u x.cu,88⟩]
 |_=> [⟨1,H p e,88⟩,⟨2,H x.r x.cr,88⟩,⟨3,H x.t x.ct,88⟩,⟨4,H x.s x.cs,88⟩,⟨5,H x.u x.cu,88⟩]
section
variable {P:Program}(hP:P=Tryz.prog){H:Nat->Nat->List SV}{S:Nat->Nat}(hs:HS H S)
include hP hs
theorem acr{p a c e:Nat}[NeZero p](hp:Pr.ai p)(jF:p≠2)(oK:a<4294967296^c)(nk:p<4294967296^e)(cE:p<4294967296^18)(qZ:0<a)(DG:a<p)(i:Nat)(hi:i=(EC.aN (EC.nf a:Fin p)).val):
 ah P 58 [.slice 0 0 (S a) c,.slice 1 0 (S p) e] [⟨0,H a c,88⟩,⟨1,H p e,88⟩] 2 [] (fun w L q=>∃k,i<4294967296^k/\w= .aR [.slice 2 0 (S i) k,.bool true]/\L=[⟨2,H i k,88⟩]/\q=3):=by
 have tn:=hp.1
 have bA:=fun m=>hs.b m a c
 have bP:=fun m=>hs.b m p e
 have b1:=fun m=>hs.b m 1 1
 have ID:(1:Nat)<4294967296:=by decide
 have D9:=OQ hP hs ID
 have jC:=hs.one ID (by decide)
 have yn:(P.info? 88).map (·.bytes)=some 4:=by subst hP;kernel_rfl
 have hU:av 23=av 23:=rfl
 obtain⟨c0,c1,c2,c3⟩:=zC p 1
 have sL:=AT hP hs nk (y:=1) (e:=1) (by decide) (j_ hP hs cE) c0 c1 c2 c3
 obtain⟨d0,d1,d2,d3⟩:=zC 1 1
 have hSp:0<S p:=by
  rcases Nat.eq_zero_or_pos (S p)with h|h
  ·have:=(hs.nm nk).zero.1 h;omega
  ·exact h
 have hML:=GP hP hs oK nk (cT DG (j_ hP hs cE)) DG
 refine ah.dj (R:=fun w L q=>∃k,i<4294967296^k/\w= .aR [.slice 3 0 (S i) k,.bool true]/\find L 3=some ⟨3,H i k,88⟩) ?_ fun v L q ⟨k,h0,h1,h2⟩=>⟨fun l=>if l=2 then 3 else l,.aR [.slice 2 0 (S i) k,.bool true],[⟨2,H i k,88⟩],3,by subst h1;exact dH ⟨rfl,rfl,trivial⟩ ⟨by rw[ae (H i k) (hs.b 0 i k)];exact h2,rfl,rfl,hs.b 3 i k,trivial⟩ rfl rfl rfl,k,h0,rfl,rfl,rfl⟩
 refine aq hP Tryz.func58 ⟨ao rfl,⟨ao rfl,trivial⟩⟩ (by simpa [ay,bd]using⟨ak _ (bA 2),ak _ (bP 2)⟩) ?_
 intro A g K hA hg hK
 obtain⟨_,_,cmp,_,_,_,_,_,_,_,_,_,_,_,nat⟩:=A
 have e1:cmp .leq c0 0=false:=ahu hA c1 c2 c3 (by omega)
 rw[jC,D9]at sL
 cbv
 refine aZ hg sL (fun k=>if k=0 then 1 else 2) ⟨by rw[ae (H p e) (bP 0)];rfl,rfl,trivial⟩ ?_
 cbv
 rw[e1]
 cbv
 refine EP (hP▸aI) hg rfl rfl (show av 23=some _ from rfl) rfl ?_
 cbv
 refine G_ hs (hP▸aI) hg rfl rfl (show av 23=some _ from rfl) rfl (show av 88=some _ from rfl) rfl yn (show ev _ _=some (.slice 3 0 0 0)from rfl) (show find _ 3=some _ from rfl) rfl (show ev _ _=some (.slice 1 0 (S p) e)from rfl) (show find _ 1=some _ from rfl) nk (j_ hP hs cE) (fun h=>absurd h (by omega)) ?_
 intro _ pc db
 have bPc:=fun m=>hs.b m p pc
 cbv
 refine fT rfl hg rfl rfl hML _root_.id rfl (eK (bA 0) (bP 0) rfl rfl) ?_
 rintro _ _ _ rfl
 refine⟨by simp[bd],by simp[bd,cK],?_⟩
 cbv
 refine⟨⟨sd,sd.ok p a c,sd.s,sd.F S p e,sd.L H p e,6,⟨⟨0,p,a,0,1,pc,c,0,1⟩,_root_.id,⟨EC.pe.start hp qZ DG,oK,db,show(0:Nat)<4294967296^0 from by decide,show(1:Nat)<4294967296^1 from by decide,Or.inl ⟨rfl,rfl,rfl,rfl,rfl⟩⟩,?_⟩,?_⟩⟩
 ·have e5:sd.L H p e ⟨0,p,a,0,1,pc,c,0,1⟩=[⟨0,H a c,88⟩,⟨1,H p e,88⟩,⟨4,H p pc,88⟩,⟨5,[.int .u32 (.ofNat 1)],88⟩]:=by rw[<-D9];rfl
  have e6:sd.F S p e ⟨0,p,a,0,1,pc,c,0,1⟩=[(1,.slice 1 0 (S p) e),(6,.slice 4 0 (S p) pc),(7,.slice 0 0 (S a) c),(8,.au),(9,.slice 5 0 (S 1) 1)]:=rfl
  rw[e5,e6,jC]
  exact fD ⟨rfl,rfl,rfl,rfl,rfl,rfl,rfl,rfl,rfl,rfl,trivial⟩ ⟨rfl,rfl,bA 6,rfl,rfl,bP 6,rfl,rfl,bPc 6,rfl,rfl,rfl,trivial⟩ rfl rfl
 rintro⟨κ,r,s,t,u,cr,cs,ct,cu⟩ ⟨jf,b9,w6,gJ,gK,AO⟩
 change EC.pe p a r s t u at jf
 change s<4294967296^cs at b9
 change r<4294967296^cr at w6
 change t<4294967296^ct at gJ
 change u<4294967296^cu at gK
 change (κ=0/\r=p/\t=0/\s=a/\cs=c)\/(κ=1/\r=a/\cr=c/\r<p)\/(κ=2/\r<p)at AO
 have Ay:=jf.sr
 have hrp:=jf.rp
 have B4:=jf.up
 have htp:=jf.tp
 have ot:s<p:=by omega
 have bR:=fun m=>hs.b m r cr
 have bS:=fun m=>hs.b m s cs
 have bT:=fun m=>hs.b m t ct
 have bU:=fun m=>hs.b m u cu
 have eS:nat (S s)=Int.ofNat (S s):=fZ hA _
 have uF:=j_ hP hs cE
 rcases Nat.eq_zero_or_pos s with iK|iK
 ·have I7:S s=0:=(hs.nm b9).zero.2 iK
  rw[I7]at eS
  have gS:cmp .gtr (.ofNat 0) 0=false:=jV hA (b:=0) (by omega)
  have kq:r=1:=by subst iK;exact jf.fin
  have BY:i=t:=by subst iK;rw[hi];exact(jf.out hp jF).symm
  have RK:=AT hP hs w6 (y:=1) (e:=1) (by decide) (by omega) d0 (by rw[kq];exact d1) (by rw[kq];exact d2) (by rw[kq];exact d3)
  rw[jC,D9]at RK
  have e2:cmp .neq d0 0=false:=ZO hA d1 d2 d3 rfl
  rcases AO with⟨_,_,_,h1,_⟩|⟨rfl,_⟩|⟨rfl,_⟩
  ·omega
  ·cbv
   rw[I7,eS,gS]
   cbv
   refine aZ hg RK (fun k=>if k=0 then 0 else 6) ⟨by rw[ae (H r cr) (bR 0)];rfl,rfl,trivial⟩ ?_
   cbv
   rw[e2]
   cbv
   exact hK _ _ _ ⟨ct,by rw[BY];exact gJ,by rw[BY];rfl,by rw[BY];rfl⟩
  ·cbv
   rw[I7,eS,gS]
   cbv
   refine aZ hg RK (fun k=>if k=0 then 2 else 6) ⟨by rw[ae (H r cr) (bR 0)];rfl,rfl,trivial⟩ ?_
   cbv
   rw[e2]
   cbv
   exact hK _ _ _ ⟨ct,by rw[BY];exact gJ,by rw[BY];rfl,by rw[BY];rfl⟩
 have I7:0<S s:=by
  rcases Nat.eq_zero_or_pos (S s)with h|h
  ·have:=(hs.nm b9).zero.1 h;omega
  ·exact h
 have gS:cmp .gtr (.ofNat (S s)) 0=true:=po hA (b:=0) I7
 obtain⟨q,hq⟩:=aa (r/s)
 obtain⟨w,hw⟩:=aa (r%s)
 have hdiv:=jf.div iK
 rw[<-hw]at hdiv
 obtain⟨qc,wc,ru,Ki,hD⟩:=ak5 hP hs w6 b9 (eB hrp uF) (ku Ay) iK q w hq hw hdiv
 have bQ:=fun m=>hs.b m q qc
 have bW:=fun m=>hs.b m w wc
 have xX:=fun m=>hs.b m w 0
 have arE:q<=p:=by rw[hq];exact eH (gq _ _) hrp
 have yE:w<s:=by rw[hw];exact ax _ iK
 have Kg:w<4294967296^40:=by omega
 obtain⟨x,hx⟩:=aa (r/s%p*u%p)
 have AI:x<p:=by rw[hx];exact ax _ (by omega)
 obtain⟨v,hv⟩:=aa (if x<=t then t-x else t+p-x)
 have kG:=jf.next iK hx hv
 rw[<-hw]at kG
 have Az:u<4294967296^18:=cT B4 cE
 have Ob:t<4294967296^18:=cT htp cE
 rcases jf.quo iK with oq|⟨hqr,kV,hqq⟩
 ·rw[<-hq]at oq hx
  rw[aO oq]at hx
  have hqb:q<4294967296^18:=cT oq cE
  have hM:=GP hP hs ru nk (j_ hP hs hqb) oq
  obtain⟨xc,lG,Dw⟩:=UY hP hs ru gK nk hqb Az (by omega) (EC.acG hp oq B4) x hx
  have bX:=fun m=>hs.b m x xc
  rcases AO with⟨rfl,akb,yO,qo,Eb⟩|⟨rfl,hra,aj7,iW⟩|⟨rfl,iW⟩
  ·obtain⟨vc,rA,z_⟩:=U3 hP hs lG nk cE (ku AI) v (by rw[hv,yO];rcases Nat.eq_zero_or_pos x with h|h;rw[h];rfl;rw[af (by omega),af (by omega),dB])
   have bV:=fun m=>hs.b m v vc
   cbv
   rw[eS,gS]
   cbv
   refine bq hg hD (fun k=>if k=0 then 4 else 0) (eK (bR 0) (bS 0) rfl rfl) ?_
   simp only[aG,ae (H q qc) (bQ 0),ae (H w wc) (bW 0)]
   cbv
   refine fT rfl hg rfl rfl hM (fun k=>if k=0 then 6 else 1) rfl (eK (bQ 0) (bP 0) rfl rfl) ?_
   rintro _ _ _ rfl
   refine⟨by simp[bd],by simp[bd,cK],?_⟩
   cbv
   refine bq hg Dw (fun k=>if k=0 then 6 else if k=1 then 5 else 1) (sK (bQ 0) (bU 0) (bP 0) rfl rfl rfl) ?_
   simp only[aG,ae (H x xc) (bX 0)]
   cbv
   refine bq hg z_ (fun k=>if k=0 then 8 else 1) (eK (bX 0) (bP 0) rfl rfl) ?_
   simp only[aG,ae (H v vc) (bV 0)]
   cbv
   refine EP (hP▸aI) hg rfl rfl (show av 23=some _ from rfl) rfl ?_
   cbv
   refine G_ hs (hP▸aI) hg rfl rfl (show av 23=some _ from rfl) rfl (show av 88=some _ from rfl) rfl yn (show ev _ _=some (.slice 10 0 0 0)from rfl) (show find _ 10=some _ from rfl) rfl (show ev _ _=some (.slice 7 0 (S w) wc)from rfl) (show find _ 7=some _ from rfl) Ki Kg ?_ ?_
   ·intro mL
    cbv
    exact⟨⟨1,s,w,u,v,cs,0,cu,vc⟩,fun l=>if l=4 then 10 else if l=3 then 5 else if l=5 then 9 else l,⟨kG,mL,b9,gK,rA,Or.inr (Or.inl ⟨rfl,qo,Eb,ot⟩)⟩,yE,dH ⟨rfl,rfl,rfl,rfl,rfl,rfl,rfl,rfl,rfl,rfl,trivial⟩ ⟨(by rw[ae (H s cs) (bS 0)];rfl),rfl,rfl,bS 6,(by rw[ae (H p e) (bP 0)];rfl),rfl,rfl,bP 6,(by rw[ae (H u cu) (bU 0)];rfl),rfl,rfl,bU 6,(by rw[ae (H w 0) (xX 0)];rfl),rfl,rfl,xX 6,(by rw[ae (H v vc) (bV 0)];rfl),rfl,rfl,bV 6,trivial⟩ rfl rfl rfl⟩
   ·intro hz wd ji
    have bD:=fun m=>hs.b m w wd
    cbv
    exact⟨⟨1,s,w,u,v,cs,wd,cu,vc⟩,fun l=>if l=4 then 11 else if l=3 then 5 else if l=5 then 9 else l,⟨kG,ji,b9,gK,rA,Or.inr (Or.inl ⟨rfl,qo,Eb,ot⟩)⟩,yE,dH ⟨rfl,rfl,rfl,rfl,rfl,rfl,rfl,rfl,rfl,rfl,trivial⟩ ⟨(by rw[ae (H s cs) (bS 0)];rfl),rfl,rfl,bS 6,(by rw[ae (H p e) (bP 0)];rfl),rfl,rfl,bP 6,(by rw[ae (H u cu) (bU 0)];rfl),rfl,rfl,bU 6,(by rw[ae (H w wd) (bD 0)];rfl),rfl,rfl,bD 6,(by rw[ae (H v vc) (bV 0)];rfl),rfl,rfl,bV 6,trivial⟩ rfl rfl rfl⟩
  ·obtain⟨vc,rA,z_⟩:=U0 hP hs gJ lG nk Ob cE (ku AI) v hv
   have bV:=fun m=>hs.b m v vc
   cbv
   rw[eS,gS]
   cbv
   refine bq hg hD (fun k=>if k=0 then 0 else 4) (eK (bR 0) (bS 0) rfl rfl) ?_
   simp only[aG,ae (H q qc) (bQ 0),ae (H w wc) (bW 0)]
   cbv
   refine fT rfl hg rfl rfl hM (fun k=>if k=0 then 6 else 1) rfl (eK (bQ 0) (bP 0) rfl rfl) ?_
   rintro _ _ _ rfl
   refine⟨by simp[bd],by simp[bd,cK],?_⟩
   cbv
   refine bq hg Dw (fun k=>if k=0 then 6 else if k=1 then 5 else 1) (sK (bQ 0) (bU 0) (bP 0) rfl rfl rfl) ?_
   simp only[aG,ae (H x xc) (bX 0)]
   cbv
   refine bq hg z_ (fun k=>if k=0 then 3 else if k=1 then 8 else 1) (sK (bT 0) (bX 0) (bP 0) rfl rfl rfl) ?_
   simp only[aG,ae (H v vc) (bV 0)]
   cbv
   refine EP (hP▸aI) hg rfl rfl (show av 23=some _ from rfl) rfl ?_
   cbv
   refine G_ hs (hP▸aI) hg rfl rfl (show av 23=some _ from rfl) rfl (show av 88=some _ from rfl) rfl yn (show ev _ _=some (.slice 10 0 0 0)from rfl) (show find _ 10=some _ from rfl) rfl (show ev _ _=some (.slice 7 0 (S w) wc)from rfl) (show find _ 7=some _ from rfl) Ki Kg ?_ ?_
   ·intro mL
    cbv
    exact⟨⟨2,s,w,u,v,cs,0,cu,vc⟩,fun l=>if l=4 then 10 else if l=3 then 5 else if l=5 then 9 else if l=2 then 4 else l,⟨kG,mL,b9,gK,rA,Or.inr (Or.inr ⟨rfl,ot⟩)⟩,yE,dH ⟨rfl,rfl,rfl,rfl,rfl,rfl,rfl,rfl,rfl,rfl,trivial⟩ ⟨(by rw[ae (H p e) (bP 0)];rfl),rfl,rfl,bP 6,(by rw[ae (H s cs) (bS 0)];rfl),rfl,rfl,bS 6,(by rw[ae (H u cu) (bU 0)];rfl),rfl,rfl,bU 6,(by rw[ae (H w 0) (xX 0)];rfl),rfl,rfl,xX 6,(by rw[ae (H v vc) (bV 0)];rfl),rfl,rfl,bV 6,trivial⟩ rfl rfl rfl⟩
   ·intro hz wd ji
    have bD:=fun m=>hs.b m w wd
    cbv
    exact⟨⟨2,s,w,u,v,cs,wd,cu,vc⟩,fun l=>if l=4 then 11 else if l=3 then 5 else if l=5 then 9 else if l=2 then 4 else l,⟨kG,ji,b9,gK,rA,Or.inr (Or.inr ⟨rfl,ot⟩)⟩,yE,dH ⟨rfl,rfl,rfl,rfl,rfl,rfl,rfl,rfl,rfl,rfl,trivial⟩ ⟨(by rw[ae (H p e) (bP 0)];rfl),rfl,rfl,bP 6,(by rw[ae (H s cs) (bS 0)];rfl),rfl,rfl,bS 6,(by rw[ae (H u cu) (bU 0)];rfl),rfl,rfl,bU 6,(by rw[ae (H w wd) (bD 0)];rfl),rfl,rfl,bD 6,(by rw[ae (H v vc) (bV 0)];rfl),rfl,rfl,bV 6,trivial⟩ rfl rfl rfl⟩
  ·obtain⟨vc,rA,z_⟩:=U0 hP hs gJ lG nk Ob cE (ku AI) v hv
   have bV:=fun m=>hs.b m v vc
   cbv
   rw[eS,gS]
   cbv
   refine bq hg hD (fun k=>if k=0 then 2 else 4) (eK (bR 0) (bS 0) rfl rfl) ?_
   simp only[aG,ae (H q qc) (bQ 0),ae (H w wc) (bW 0)]
   cbv
   refine fT rfl hg rfl rfl hM (fun k=>if k=0 then 6 else 1) rfl (eK (bQ 0) (bP 0) rfl rfl) ?_
   rintro _ _ _ rfl
   refine⟨by simp[bd],by simp[bd,cK],?_⟩
   cbv
   refine bq hg Dw (fun k=>if k=0 then 6 else if k=1 then 5 else 1) (sK (bQ 0) (bU 0) (bP 0) rfl rfl rfl) ?_
   simp only[aG,ae (H x xc) (bX 0)]
   cbv
   refine bq hg z_ (fun k=>if k=0 then 3 else if k=1 then 8 else 1) (sK (bT 0) (bX 0) (bP 0) rfl rfl rfl) ?_
   simp only[aG,ae (H v vc) (bV 0)]
   cbv
   refine EP (hP▸aI) hg rfl rfl (show av 23=some _ from rfl) rfl ?_
   cbv
   refine G_ hs (hP▸aI) hg rfl rfl (show av 23=some _ from rfl) rfl (show av 88=some _ from rfl) rfl yn (show ev _ _=some (.slice 10 0 0 0)from rfl) (show find _ 10=some _ from rfl) rfl (show ev _ _=some (.slice 7 0 (S w) wc)from rfl) (show find _ 7=some _ from rfl) Ki Kg ?_ ?_
   ·intro mL
    cbv
    exact⟨⟨2,s,w,u,v,cs,0,cu,vc⟩,fun l=>if l=4 then 10 else if l=3 then 5 else if l=5 then 9 else if l=2 then 4 else l,⟨kG,mL,b9,gK,rA,Or.inr (Or.inr ⟨rfl,ot⟩)⟩,yE,dH ⟨rfl,rfl,rfl,rfl,rfl,rfl,rfl,rfl,rfl,rfl,trivial⟩ ⟨(by rw[ae (H p e) (bP 0)];rfl),rfl,rfl,bP 6,(by rw[ae (H s cs) (bS 0)];rfl),rfl,rfl,bS 6,(by rw[ae (H u cu) (bU 0)];rfl),rfl,rfl,bU 6,(by rw[ae (H w 0) (xX 0)];rfl),rfl,rfl,xX 6,(by rw[ae (H v vc) (bV 0)];rfl),rfl,rfl,bV 6,trivial⟩ rfl rfl rfl⟩
   ·intro hz wd ji
    have bD:=fun m=>hs.b m w wd
    cbv
    exact⟨⟨2,s,w,u,v,cs,wd,cu,vc⟩,fun l=>if l=4 then 11 else if l=3 then 5 else if l=5 then 9 else if l=2 then 4 else l,⟨kG,ji,b9,gK,rA,Or.inr (Or.inr ⟨rfl,ot⟩)⟩,yE,dH ⟨rfl,rfl,rfl,rfl,rfl,rfl,rfl,rfl,rfl,rfl,trivial⟩ ⟨(by rw[ae (H p e) (bP 0)];rfl),rfl,rfl,bP 6,(by rw[ae (H s cs) (bS 0)];rfl),rfl,rfl,bS 6,(by rw[ae (H u cu) (bU 0)];rfl),rfl,rfl,bU 6,(by rw[ae (H w wd) (bD 0)];rfl),rfl,rfl,bD 6,(by rw[ae (H v vc) (bV 0)];rfl),rfl,rfl,bV 6,trivial⟩ rfl rfl rfl⟩
 ·rcases AO with⟨rfl,akb,yO,qo,Eb⟩|⟨rfl,hra,aj7,iW⟩|⟨rfl,iW⟩
  ·have hqp:q=p:=by rw[hq];exact hqq
   have kY:x=0:=by rw[hx,hqq,Yx,fE,zq]
   have iH:q%p=0:=by rw[hqp,Yx]
   rcases Nat.lt_or_ge p 4294967296 with yM|yM
   ·obtain⟨y,hy⟩:=aa (q%p)
    have hM:=UX hP hs ru nk (by omega) (by omega) (by omega) yM y hy
    have hyp:y<4294967296^1:=by rw[hy,iH];decide
    have bY:=fun m=>hs.b m y 1
    obtain⟨xc,lG,Dw⟩:=UY hP hs hyp gK nk (by rw[hy,iH];decide) Az (by omega) (Or.inr (Or.inl yM)) x (by rw[hx,hy,hq])
    have bX:=fun m=>hs.b m x xc
    obtain⟨vc,rA,z_⟩:=U3 hP hs lG nk cE (ku AI) v (by rw[hv,yO];rcases Nat.eq_zero_or_pos x with h|h;rw[h];rfl;rw[af (by omega),af (by omega),dB])
    have bV:=fun m=>hs.b m v vc
    cbv
    rw[eS,gS]
    cbv
    refine bq hg hD (fun k=>if k=0 then 4 else 0) (eK (bR 0) (bS 0) rfl rfl) ?_
    simp only[aG,ae (H q qc) (bQ 0),ae (H w wc) (bW 0)]
    cbv
    refine bq hg hM (fun k=>if k=0 then 6 else 1) (eK (bQ 0) (bP 0) rfl rfl) ?_
    simp only[aG,ae (H y 1) (bY 0)]
    cbv
    refine bq hg Dw (fun k=>if k=0 then 8 else if k=1 then 5 else 1) (sK (bY 0) (bU 0) (bP 0) rfl rfl rfl) ?_
    simp only[aG,ae (H x xc) (bX 0)]
    cbv
    refine bq hg z_ (fun k=>if k=0 then 9 else 1) (eK (bX 0) (bP 0) rfl rfl) ?_
    simp only[aG,ae (H v vc) (bV 0)]
    cbv
    refine EP (hP▸aI) hg rfl rfl (show av 23=some _ from rfl) rfl ?_
    cbv
    refine G_ hs (hP▸aI) hg rfl rfl (show av 23=some _ from rfl) rfl (show av 88=some _ from rfl) rfl yn (show ev _ _=some (.slice 11 0 0 0)from rfl) (show find _ 11=some _ from rfl) rfl (show ev _ _=some (.slice 7 0 (S w) wc)from rfl) (show find _ 7=some _ from rfl) Ki Kg ?_ ?_
    ·intro mL
     cbv
     exact⟨⟨1,s,w,u,v,cs,0,cu,vc⟩,fun l=>if l=4 then 11 else if l=3 then 5 else if l=5 then 10 else l,⟨kG,mL,b9,gK,rA,Or.inr (Or.inl ⟨rfl,qo,Eb,ot⟩)⟩,yE,dH ⟨rfl,rfl,rfl,rfl,rfl,rfl,rfl,rfl,rfl,rfl,trivial⟩ ⟨(by rw[ae (H s cs) (bS 0)];rfl),rfl,rfl,bS 6,(by rw[ae (H p e) (bP 0)];rfl),rfl,rfl,bP 6,(by rw[ae (H u cu) (bU 0)];rfl),rfl,rfl,bU 6,(by rw[ae (H w 0) (xX 0)];rfl),rfl,rfl,xX 6,(by rw[ae (H v vc) (bV 0)];rfl),rfl,rfl,bV 6,trivial⟩ rfl rfl rfl⟩
    ·intro hz wd ji
     have bD:=fun m=>hs.b m w wd
     cbv
     exact⟨⟨1,s,w,u,v,cs,wd,cu,vc⟩,fun l=>if l=4 then 12 else if l=3 then 5 else if l=5 then 10 else l,⟨kG,ji,b9,gK,rA,Or.inr (Or.inl ⟨rfl,qo,Eb,ot⟩)⟩,yE,dH ⟨rfl,rfl,rfl,rfl,rfl,rfl,rfl,rfl,rfl,rfl,trivial⟩ ⟨(by rw[ae (H s cs) (bS 0)];rfl),rfl,rfl,bS 6,(by rw[ae (H p e) (bP 0)];rfl),rfl,rfl,bP 6,(by rw[ae (H u cu) (bU 0)];rfl),rfl,rfl,bU 6,(by rw[ae (H w wd) (bD 0)];rfl),rfl,rfl,bD 6,(by rw[ae (H v vc) (bV 0)];rfl),rfl,rfl,bV 6,trivial⟩ rfl rfl rfl⟩
   ·have hM:=acu hP hs ru nk (by omega) (by omega) yM iH
    obtain⟨xc,lG,Dw⟩:∃xc,x<4294967296^xc/\ah P 59 [.au,.slice 0 0 (S u) cu,.slice 1 0 (S p) e] [⟨0,H u cu,88⟩,⟨1,H p e,88⟩] 2 [] (fun w L q=>w= .slice 2 0 (S x) xc/\L=[⟨2,H x xc,88⟩]/\q=3):=⟨S u,by rw[kY];exact ew (by decide),by rw[kY];exact ak8 hP hs gK nk Az (by omega)⟩
    have bX:=fun m=>hs.b m x xc
    obtain⟨vc,rA,z_⟩:=U3 hP hs lG nk cE (ku AI) v (by rw[hv,yO];rcases Nat.eq_zero_or_pos x with h|h;rw[h];rfl;rw[af (by omega),af (by omega),dB])
    have bV:=fun m=>hs.b m v vc
    cbv
    rw[eS,gS]
    cbv
    refine bq hg hD (fun k=>if k=0 then 4 else 0) (eK (bR 0) (bS 0) rfl rfl) ?_
    simp only[aG,ae (H q qc) (bQ 0),ae (H w wc) (bW 0)]
    cbv
    refine aZ hg hM (fun k=>if k=0 then 6 else 1) (eK (bQ 0) (bP 0) rfl rfl) ?_
    cbv
    refine bq hg Dw (fun k=>if k=0 then 5 else 1) (eK (bU 0) (bP 0) rfl rfl) ?_
    simp only[aG,ae (H x xc) (bX 0)]
    cbv
    refine bq hg z_ (fun k=>if k=0 then 8 else 1) (eK (bX 0) (bP 0) rfl rfl) ?_
    simp only[aG,ae (H v vc) (bV 0)]
    cbv
    refine EP (hP▸aI) hg rfl rfl (show av 23=some _ from rfl) rfl ?_
    cbv
    refine G_ hs (hP▸aI) hg rfl rfl (show av 23=some _ from rfl) rfl (show av 88=some _ from rfl) rfl yn (show ev _ _=some (.slice 10 0 0 0)from rfl) (show find _ 10=some _ from rfl) rfl (show ev _ _=some (.slice 7 0 (S w) wc)from rfl) (show find _ 7=some _ from rfl) Ki Kg ?_ ?_
    ·intro mL
     cbv
     exact⟨⟨1,s,w,u,v,cs,0,cu,vc⟩,fun l=>if l=4 then 10 else if l=3 then 5 else if l=5 then 9 else l,⟨kG,mL,b9,gK,rA,Or.inr (Or.inl ⟨rfl,qo,Eb,ot⟩)⟩,yE,dH ⟨rfl,rfl,rfl,rfl,rfl,rfl,rfl,rfl,rfl,rfl,trivial⟩ ⟨(by rw[ae (H s cs) (bS 0)];rfl),rfl,rfl,bS 6,(by rw[ae (H p e) (bP 0)];rfl),rfl,rfl,bP 6,(by rw[ae (H u cu) (bU 0)];rfl),rfl,rfl,bU 6,(by rw[ae (H w 0) (xX 0)];rfl),rfl,rfl,xX 6,(by rw[ae (H v vc) (bV 0)];rfl),rfl,rfl,bV 6,trivial⟩ rfl rfl rfl⟩
    ·intro hz wd ji
     have bD:=fun m=>hs.b m w wd
     cbv
     exact⟨⟨1,s,w,u,v,cs,wd,cu,vc⟩,fun l=>if l=4 then 11 else if l=3 then 5 else if l=5 then 9 else l,⟨kG,ji,b9,gK,rA,Or.inr (Or.inl ⟨rfl,qo,Eb,ot⟩)⟩,yE,dH ⟨rfl,rfl,rfl,rfl,rfl,rfl,rfl,rfl,rfl,rfl,trivial⟩ ⟨(by rw[ae (H s cs) (bS 0)];rfl),rfl,rfl,bS 6,(by rw[ae (H p e) (bP 0)];rfl),rfl,rfl,bP 6,(by rw[ae (H u cu) (bU 0)];rfl),rfl,rfl,bU 6,(by rw[ae (H w wd) (bD 0)];rfl),rfl,rfl,bD 6,(by rw[ae (H v vc) (bV 0)];rfl),rfl,rfl,bV 6,trivial⟩ rfl rfl rfl⟩
  ·omega
  ·omega
end
end Go.Proofs.YtfocopihipejfaaGreat
