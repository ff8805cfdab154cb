/-
  This text proves what these texts prove: Qe, Qh, Qf, Lb. Conditions: those of each theorem.
-/
import Derived.Test.YtfocopihipejfaaGreatB27
set_option maxHeartbeats 8000000
set_option linter.all false
namespace Go.Vg
open Go.RowKit
section
variable {P:Program}{g:G}
theorem qE{o:Oper}{c:Call}(ho:o.op= .call c){m0 N:Nat}{ms:List Nat}(hg:GI g m0 ms N)(aA:dD N o.dst=true){F:FF}{M:LL}{n:Nat}{f:FuncId}{us args:List SV}(hc:callee (look F) c=some (f,us)){a b:Nat}{C C0 C1 C2:List SV}{t:TypeId}
 (fg:ah P f args [⟨0,C0,t⟩,⟨1,C1,t⟩,⟨2,C2,t⟩] 3 [] (fun w L q=>w= .slice 3 0 a b/\L=[⟨3,C,t⟩]/\q=4)) (bC:∀m,an m C=true) (b0:∀m,an m C0=true) (b1:∀m,an m C1=true) (b2:∀m,an m C2=true)
 (ρ:Nat->Nat) (jh:us=bj ρ args) (h0:qD o (find M) (ρ 0)=some ⟨ρ 0,C0,t⟩) (h1:qD o (find M) (ρ 1)=some ⟨ρ 1,C1,t⟩) (h2:qD o (find M) (ρ 2)=some ⟨ρ 2,C2,t⟩) {K:SV->LL->Nat->Prop} (hK:K (.slice n 0 a b) [⟨n,C,t⟩] (n+1)):zu g P o F M n K:=
 tL ho hg aA hc fg (bC 0) (by
  intro b hb
  rcases List.mem_cons.1 hb with rfl|hb
  ·exact⟨by show 0<3;decide,b0 3⟩
  ·rcases List.mem_cons.1 hb with rfl|hb
   ·exact⟨by show 1<3;decide,b1 3⟩
   ·obtain rfl:=il.1 hb
    exact⟨by show 2<3;decide,b2 3⟩) ρ jh (sK (b0 0) (b1 0) (b2 0) h0 h1 h2) rfl hK
end
end Go.Vg
namespace EC
section
variable {p:Nat}[NeZero p]
omit [NeZero p] in
theorem aiD(U V:Fin p):(U+V).val=if p<=U.val+V.val then U.val+V.val-p else U.val+V.val:=by
 have h1:=U.isLt
 have h2:=V.isLt
 rw[val_add]
 split
 ·rw[HG (by omega),aO (by omega)]
 ·rw[aO (by omega)]
omit [NeZero p] in
theorem Rs(U V:Fin p):(U-V).val=if V.val<=U.val then U.val-V.val else U.val+p-V.val:=by
 have h1:=U.isLt
 have h2:=V.isLt
 rw[Fin.sub_def]
 show(p-V.val+U.val)%p=_
 split
 ·rw[HG (by omega),show p-V.val+U.val-p=U.val-V.val by omega,aO (by omega)]
 ·rw[aO (by omega)];omega
end
end EC
namespace Go.Proofs.YtfocopihipejfaaGreat
open Go.Vg Go.RowKit
set_option maxRecDepth 200000
set_option cbv.maxSteps 100000000
section
variable {P:Program}(hP:P=Tryz.prog){H:Nat->Nat->List SV}{S:Nat->Nat}(hs:HS H S){p pc:Nat}[NeZero p](hp:Pr.ai p)(db:p<4294967296^pc)(cE:p<4294967296^18)
include hP hs db cE
omit [NeZero p] in
theorem OB{c e:Nat}(U V:Fin p)(u v w:Nat)(hu:u=U.val)(hv:v=V.val)(hw:w=(U+V).val)(Eg:u<4294967296^c)(Em:v<4294967296^e):
 ∃k,w<4294967296^k/\ah P 79 [.slice 0 0 (S u) c,.slice 1 0 (S v) e,.slice 2 0 (S p) pc] [⟨0,H u c,88⟩,⟨1,H v e,88⟩,⟨2,H p pc,88⟩] 3 [] (fun x L q=>x= .slice 3 0 (S w) k/\L=[⟨3,H w k,88⟩]/\q=4):=
 ak1 hP hs Eg Em db (by have:=U.isLt;omega) (by have:=V.isLt;omega) w (by rw[hw,hu,hv];exact EC.aiD U V)
omit [NeZero p] in
theorem GM{c e:Nat}(U V:Fin p)(u v w:Nat)(hu:u=U.val)(hv:v=V.val)(hw:w=(U-V).val)(Eg:u<4294967296^c)(Em:v<4294967296^e):
 ∃k,w<4294967296^k/\ah P 106 [.slice 0 0 (S u) c,.slice 1 0 (S v) e,.slice 2 0 (S p) pc] [⟨0,H u c,88⟩,⟨1,H v e,88⟩,⟨2,H p pc,88⟩] 3 [] (fun x L q=>x= .slice 3 0 (S w) k/\L=[⟨3,H w k,88⟩]/\q=4):=
 U0 hP hs Eg Em db (by have:=U.isLt;omega) cE (by have:=V.isLt;omega) w (by rw[hw,hu,hv];exact EC.Rs U V)
def oI(p u v:Nat):Nat:=if v<=u then u else u+p
omit [NeZero p] in
theorem OC{c e:Nat}(U V:Fin p)(u v w:Nat)(hu:u=U.val)(hv:v=V.val)(hw:w=(U-V).val)(k:Nat)(hk:k=S (oI p u v))(Eg:u<4294967296^c)(Em:v<4294967296^e):
 w<4294967296^k/\ah P 106 [.slice 0 0 (S u) c,.slice 1 0 (S v) e,.slice 2 0 (S p) pc] [⟨0,H u c,88⟩,⟨1,H v e,88⟩,⟨2,H p pc,88⟩] 3 [] (fun x L q=>x= .slice 3 0 (S w) k/\L=[⟨3,H w k,88⟩]/\q=4):=
 acx hP hs Eg Em db (by have:=U.isLt;omega) cE (by have:=V.isLt;omega) w (by rw[hw,hu,hv];exact EC.Rs U V) k hk
omit db [NeZero p] in
theorem Bn(U V:Fin p):(U-V).val<4294967296^S (oI p U.val V.val):=by
 have:=hP
 have h1:=U.isLt
 have h2:=V.isLt
 have h3:(U-V).val<=oI p U.val V.val:=by
  rw[EC.Rs];unfold oI;split<;>omega
 have h4:oI p U.val V.val<4294967296^19:=by
  have h5:oI p U.val V.val<4294967296^18+4294967296^18:=by unfold oI;split<;>omega
  rw[br];omega
 exact eB h3 (hs.nm h4).lt
include hp in
omit [NeZero p] in
theorem Ey{c e:Nat}(U V:Fin p)(u v w:Nat)(hu:u=U.val)(hv:v=V.val)(hw:w=(U*V).val)(Eg:u<4294967296^c)(Em:v<4294967296^e):
 ∃k,w<4294967296^k/\ah P 59 [.slice 0 0 (S u) c,.slice 1 0 (S v) e,.slice 2 0 (S p) pc] [⟨0,H u c,88⟩,⟨1,H v e,88⟩,⟨2,H p pc,88⟩] 3 [] (fun x L q=>x= .slice 3 0 (S w) k/\L=[⟨3,H w k,88⟩]/\q=4):=by
 have h1:=U.isLt
 have h2:=V.isLt
 exact UY hP hs Eg Em db (by omega) (by omega) (by omega) (EC.acG hp (by omega) (by omega)) w (by rw[hw,hu,hv];exact EC.val_mul U V)
omit db cE [NeZero p] in
theorem alb{a ac:Nat}(k nB nN nX nY cB cN cX cY:Nat)(rB rN rX rY:List SV)(b1:∀m,an m (H p pc)=true)(b6:∀m,an m (H a ac)=true)(b2:∀m,an m rB=true)(b3:∀m,an m rN=true)(b4:∀m,an m rX=true)(b5:∀m,an m rY=true):
 ah P 60 [.agg (pW k (.slice 0 0 (S p) pc) (.slice 1 0 (S a) ac) (.slice 2 0 nB cB) (.slice 3 0 nN cN) (.slice 4 0 nX cX) (.slice 5 0 nY cY)),.agg [.au,.au,.bool true],.agg [.au,.au,.bool true]] [⟨0,H p pc,88⟩,⟨1,H a ac,88⟩,⟨2,rB,88⟩,⟨3,rN,88⟩,⟨4,rX,88⟩,⟨5,rY,88⟩] 6 [] (fun w _ _=>w= .agg [.au,.au,.bool true]):=by
 obtain⟨Np,IX⟩:=aa (S p)
 obtain⟨Na,uo⟩:=aa (S a)
 rw[<-IX,<-uo]
 clear IX uo
 refine aq hP Tryz.func60 ⟨⟨trivial,ao rfl,ao rfl,ao rfl,ao rfl,ao rfl,ao rfl,trivial⟩,⟨trivial,trivial,trivial,trivial⟩,⟨trivial,trivial,trivial,trivial⟩,trivial⟩ (by simpa [ay,bd]using⟨ak _ (b1 6),ak _ (b6 6),ak _ (b2 6),ak _ (b3 6),ak _ (b4 6),ak _ (b5 6)⟩) ?_
 intro A g K hA hg hK
 cases A
 cbv
 exact hK _ _ _ rfl
omit db cE [NeZero p] in
theorem ala{a ac x c y e:Nat}(k nB nN nX nY cB cN cX cY:Nat)(rB rN rX rY:List SV)(b1:∀m,an m (H p pc)=true)(b6:∀m,an m (H a ac)=true)(b2:∀m,an m rB=true)(b3:∀m,an m rN=true)(b4:∀m,an m rX=true)(b5:∀m,an m rY=true):
 ah P 60 [.agg (pW k (.slice 0 0 (S p) pc) (.slice 1 0 (S a) ac) (.slice 2 0 nB cB) (.slice 3 0 nN cN) (.slice 4 0 nX cX) (.slice 5 0 nY cY)),.agg [.au,.au,.bool true],.agg [.slice 6 0 (S x) c,.slice 7 0 (S y) e,.bool false]] [⟨0,H p pc,88⟩,⟨1,H a ac,88⟩,⟨2,rB,88⟩,⟨3,rN,88⟩,⟨4,rX,88⟩,⟨5,rY,88⟩,⟨6,H x c,88⟩,⟨7,H y e,88⟩] 8 [] (fun w _ _=>w= .agg [.slice 6 0 (S x) c,.slice 7 0 (S y) e,.bool false]):=by
 have b7:=fun m=>hs.b m x c
 have b8:=fun m=>hs.b m y e
 obtain⟨Np,IX⟩:=aa (S p)
 obtain⟨Na,uo⟩:=aa (S a)
 obtain⟨Nx,hNx⟩:=aa (S x)
 obtain⟨Ny,BA⟩:=aa (S y)
 rw[<-IX,<-uo,<-hNx,<-BA]
 clear IX uo hNx BA
 refine aq hP Tryz.func60 ⟨⟨trivial,ao rfl,ao rfl,ao rfl,ao rfl,ao rfl,ao rfl,trivial⟩,⟨trivial,trivial,trivial,trivial⟩,⟨ao rfl,ao rfl,trivial,trivial⟩,trivial⟩ (by simpa [ay,bd]using⟨ak _ (b1 8),ak _ (b6 8),ak _ (b2 8),ak _ (b3 8),ak _ (b4 8),ak _ (b5 8),ak _ (b7 8),ak _ (b8 8)⟩) ?_
 intro A g K hA hg hK
 cases A
 cbv
 exact hK _ _ _ rfl
include hp in
theorem ak9{a ac x1 c1 y1 e1 x2 c2 y2 e2:Nat}(k nB nN nX nY cB cN cX cY:Nat)(rB rN rX rY:List SV)(jF:p≠2)(Av X1 Y1 X2 Y2 Lm:Fin p)(ha:a=Av.val)(h1:x1=X1.val)(h2:y1=Y1.val)(h3:x2=X2.val)(h4:y2=Y2.val)(oK:a<4294967296^ac)(dR:x1<4294967296^c1)(fz:y1<4294967296^e1)(eP:x2<4294967296^c2)(gL:y2<4294967296^e2)(b2:∀m,an m rB=true)(b3:∀m,an m rN=true)(b4:∀m,an m rX=true)(b5:∀m,an m rY=true)(Bu:X2=X1)(RG:Y2=Y1)(fy:y1≠0)
 (IS:Lm=((X1*X1+(X1*X1+X1*X1))+Av)*EC.aN (Y1+Y1)) (x3 y3:Nat) (h5:x3=(Lm*Lm-X1-X2).val) (h6:y3=(Lm*(X1-(Lm*Lm-X1-X2))-Y1).val) (c3 e3:Nat) (h7:c3=S (oI p (Lm*Lm-X1).val X2.val)) (h8:e3=S (oI p (Lm*(X1-(Lm*Lm-X1-X2))).val Y1.val)):
 x3<4294967296^c3/\y3<4294967296^e3/\ah P 60 [.agg (pW k (.slice 0 0 (S p) pc) (.slice 1 0 (S a) ac) (.slice 2 0 nB cB) (.slice 3 0 nN cN) (.slice 4 0 nX cX) (.slice 5 0 nY cY)),.agg [.slice 6 0 (S x1) c1,.slice 7 0 (S y1) e1,.bool false],.agg [.slice 8 0 (S x2) c2,.slice 9 0 (S y2) e2,.bool false]]
  [⟨0,H p pc,88⟩,⟨1,H a ac,88⟩,⟨2,rB,88⟩,⟨3,rN,88⟩,⟨4,rX,88⟩,⟨5,rY,88⟩,⟨6,H x1 c1,88⟩,⟨7,H y1 e1,88⟩,⟨8,H x2 c2,88⟩,⟨9,H y2 e2,88⟩] 10 [] (fun w L q=>w= .agg [.slice 10 0 (S x3) c3,.slice 11 0 (S y3) e3,.bool false]/\L=[⟨10,H x3 c3,88⟩,⟨11,H y3 e3,88⟩]/\q=12):=by
 refine⟨by rw[h5,h7];exact Bn hP hs cE _ _,by rw[h6,h8];exact Bn hP hs cE _ _,?_⟩
 have tn:=hp.1
 have vP:=fun m=>hs.b m p pc
 have vA:=fun m=>hs.b m a ac
 have v1:=fun m=>hs.b m x1 c1
 have v2:=fun m=>hs.b m y1 e1
 have v3:=fun m=>hs.b m x2 c2
 have v4:=fun m=>hs.b m y2 e2
 have yW:x1<p:=by rw[h1];exact X1.isLt
 have Oz:y1<p:=by rw[h2];exact Y1.isLt
 have Oy:x2<p:=by rw[h3];exact X2.isLt
 have ly2:y2<p:=by rw[h4];exact Y2.isLt
 obtain⟨ci,qS,Bk,Bl⟩:=zC x1 x2
 have hC:=AT hP hs dR eP (cT yW (j_ hP hs cE)) ci qS Bk Bl
 have ai2:y1=y2:=by rw[h2,h4,RG]
 have ai1:x1=x2:=by rw[h1,h3,Bu]
 obtain⟨di,d11,d12,d13⟩:=zC y1 y2
 have RL:=AT hP hs fz gL (cT Oz (j_ hP hs cE)) di d11 d12 d13
 obtain⟨E6,abK⟩:=aa (X1*X1:Fin p)
 obtain⟨xx,GG⟩:=aa E6.val
 obtain⟨xxc,QC,ai9⟩:=Ey hP hs hp db cE X1 X1 x1 x1 xx h1 h1 (by rw[GG,abK]) dR dR
 have PH:=fun m=>hs.b m xx xxc
 obtain⟨XU,abH⟩:=aa (E6+E6:Fin p)
 obtain⟨XT,abG⟩:=aa XU.val
 obtain⟨arj,afu,ai7⟩:=OB hP hs db cE E6 E6 xx xx XT GG GG (by rw[abG,abH]) QC QC
 have aeQ:=fun m=>hs.b m XT arj
 obtain⟨XW,abJ⟩:=aa (E6+XU:Fin p)
 obtain⟨XV,abI⟩:=aa XW.val
 obtain⟨ark,afv,ai8⟩:=OB hP hs db cE E6 XU xx XT XV GG abG (by rw[abI,abJ]) QC afu
 have aeR:=fun m=>hs.b m XV ark
 obtain⟨AY,JY⟩:=aa (XW+Av:Fin p)
 obtain⟨ov,JX⟩:=aa AY.val
 obtain⟨OT,Qv,RV⟩:=OB hP hs db cE XW Av XV a ov abI ha (by rw[JX,JY]) afv oK
 have Lw:=fun m=>hs.b m ov OT
 obtain⟨u5,Ej⟩:=aa (Y1+Y1:Fin p)
 obtain⟨un,kX⟩:=aa u5.val
 obtain⟨Lg,Qz,RW⟩:=OB hP hs db cE Y1 Y1 y1 y1 un h2 h2 (by rw[kX,Ej]) fz fz
 have LA:=fun m=>hs.b m un Lg
 have Ua:u5≠0:=fun h=>by
  rw[Ej]at h
  have h8:=(EC.Iu hp jF).two _ h
  rw[h8]at h2
  exact fy (h2.trans EC.val_zero)
 have hY0:S y1≠0:=fun h=>fy ((hs.nm fz).zero.1 h)
 have Ub:0<un:=by
  rcases Nat.eq_zero_or_pos un with h|h
  ·exact absurd (EC.Br (by rw[<-kX,h];exact P0 p)) Ua
  ·exact h
 have Uc:un<p:=by rw[kX];exact u5.isLt
 obtain⟨qw,BM⟩:=aa (EC.aN (EC.nf un):Fin p)
 have Tm:qw=EC.aN u5:=by rw[BM,kX,EC.AW]
 obtain⟨iv,iT⟩:=aa qw.val
 have hI:=acr hP hs hp jF Qz db cE Ub Uc iv (by rw[iT,BM])
 have IT:Lm=AY*qw:=by rw[IS,Tm,JY,Ej,abJ,abH,abK]
 refine ah.dj (R:=fun w L q=>w= .agg [.slice 23 0 (S x3) c3,.slice 26 0 (S y3) e3,.bool false]/\find L 23=some ⟨23,H x3 c3,88⟩/\find L 26=some ⟨26,H y3 e3,88⟩) ?_ fun v L q ⟨g3,g4,g5⟩=>⟨fun l=>if l=10 then 23 else if l=11 then 26 else l,.agg [.slice 10 0 (S x3) c3,.slice 11 0 (S y3) e3,.bool false],[⟨10,H x3 c3,88⟩,⟨11,H y3 e3,88⟩],12,by subst g3;exact dH ⟨rfl,rfl,trivial⟩ ⟨by rw[ae (H x3 c3) (hs.b 0 x3 c3)];exact g4,rfl,rfl,hs.b 12 x3 c3,by rw[ae (H y3 e3) (hs.b 0 y3 e3)];exact g5,rfl,rfl,hs.b 12 y3 e3,trivial⟩ rfl rfl rfl,rfl,rfl,rfl⟩
 refine aq hP Tryz.func60 ⟨⟨trivial,ao rfl,ao rfl,ao rfl,ao rfl,ao rfl,ao rfl,trivial⟩,⟨ao rfl,ao rfl,trivial,trivial⟩,⟨ao rfl,ao rfl,trivial,trivial⟩,trivial⟩ (by simpa [ay,bd]using⟨ak _ (vP 10),ak _ (vA 10),ak _ (b2 10),ak _ (b3 10),ak _ (b4 10),ak _ (b5 10),ak _ (v1 10),ak _ (v2 10),ak _ (v3 10),ak _ (v4 10)⟩) ?_
 intro A g K hA hg hK
 obtain⟨_,_,cmp,_,_,_,_,_,_,_,_,_,_,_,nat⟩:=A
 have q1:cmp .eql ci 0=true:=ZL hA qS Bk Bl ai1
 have q2:cmp .neq di 0=false:=ZO hA d11 d12 d13 ai2
 have q3:nat (S y1)=Int.ofNat (S y1):=fZ hA _
 have q4:cmp .eql (.ofNat (S y1)) 0=false:=ja hA (b:=0) hY0
 cbv
 refine aZ hg hC (fun l=>if l=0 then 6 else 8) (eK (v1 0) (v3 0) rfl rfl) ?_
 cbv
 rw[q1]
 cbv
 refine aZ hg RL (fun l=>if l=0 then 7 else 9) (eK (v2 0) (v4 0) rfl rfl) ?_
 cbv
 rw[q2]
 cbv
 rw[q3,q4]
 cbv
 refine bq hg ai9 (fun l=>if l=0 then 6 else if l=1 then 6 else 0) (sK (v1 0) (v1 0) (vP 0) rfl rfl rfl) ?_
 simp only[aG,ae (H xx xxc) (PH 0)]
 cbv
 refine cm hP hA hg ?_
 cbv
 refine qE rfl hg rfl rfl ai7 aeQ PH PH vP (fun l=>if l=0 then 14 else if l=1 then 14 else 0) rfl rfl rfl rfl ?_
 cbv
 refine qE rfl hg rfl rfl ai8 aeR PH aeQ vP (fun l=>if l=0 then 14 else if l=1 then 15 else 0) rfl rfl rfl rfl ?_
 cbv
 refine qE rfl hg rfl rfl RV Lw aeR vA vP (fun l=>if l=0 then 16 else if l=1 then 1 else 0) rfl rfl rfl rfl ?_
 cbv
 refine bq hg RW (fun l=>if l=0 then 7 else if l=1 then 7 else 0) (sK (v2 0) (v2 0) (vP 0) rfl rfl rfl) ?_
 simp only[aG,ae (H un Lg) (LA 0)]
 cbv
 refine gQ rfl hg rfl rfl hI (fun l=>if l=0 then 18 else 0) rfl (eK (LA 0) (vP 0) rfl rfl) rfl rfl rfl ?_
 rintro _ _ _ ⟨Ku,Qr,rfl,rfl,rfl⟩ _
 refine⟨rfl,?_⟩
 have Lr:=fun m=>hs.b m iv Ku
 simp only[aG,ae (H iv Ku) (Lr 0)]
 obtain⟨o6,DV⟩:=aa (AY*qw:Fin p)
 obtain⟨lm,oR⟩:=aa o6.val
 obtain⟨KG,C7,RU⟩:=Ey hP hs hp db cE AY qw ov iv lm JX iT (by rw[oR,DV]) Qv Qr
 have A_:=fun m=>hs.b m lm KG
 obtain⟨Ew,tg⟩:=aa (o6*o6:Fin p)
 obtain⟨ll,og⟩:=aa Ew.val
 obtain⟨UG,bh,RT⟩:=Ey hP hs hp db cE o6 o6 lm lm ll oR oR (by rw[og,tg]) C7 C7
 have Lu:=fun m=>hs.b m ll UG
 obtain⟨Eu,td⟩:=aa (Ew-X1:Fin p)
 obtain⟨l1,cQ⟩:=aa Eu.val
 obtain⟨Uy,Qs,RS⟩:=GM hP hs db cE Ew X1 ll x1 l1 og h1 (by rw[cQ,td]) bh dR
 have Lt:=fun m=>hs.b m l1 Uy
 obtain⟨E7,xh⟩:=aa (Eu-X2:Fin p)
 obtain⟨xz,AJ⟩:=aa E7.val
 obtain⟨E8,Ep⟩:=aa (S (oI p l1 x2))
 obtain⟨QE,RZ⟩:=OC hP hs db cE Eu X2 l1 x2 xz cQ h3 (by rw[AJ,xh]) E8 Ep Qs eP
 have LC:=fun m=>hs.b m xz E8
 obtain⟨E5,AH⟩:=aa (X1-E7:Fin p)
 obtain⟨xd,Eo⟩:=aa E5.val
 obtain⟨XX,QA,RY⟩:=GM hP hs db cE X1 E7 x1 xz xd h1 AJ (by rw[Eo,AH]) dR QE
 have LB:=fun m=>hs.b m xd XX
 obtain⟨E9,AM⟩:=aa (o6*E5:Fin p)
 obtain⟨yl,kJ⟩:=aa E9.val
 obtain⟨XY,QG,R0⟩:=Ey hP hs hp db cE o6 E5 lm xd yl oR Eo (by rw[kJ,AM]) C7 QA
 have LF:=fun m=>hs.b m yl XY
 obtain⟨XZ,Er⟩:=aa (E9-Y1:Fin p)
 obtain⟨yz,rI⟩:=aa XZ.val
 obtain⟨E_,Es⟩:=aa (S (oI p yl y1))
 obtain⟨byz,R1⟩:=OC hP hs db cE E9 Y1 yl y1 yz kJ h2 (by rw[rI,Er]) E_ Es QG fz
 have XQ:=fun m=>hs.b m yz E_
 obtain rfl:Lm=o6:=by rw[IT,DV]
 obtain rfl:x3=xz:=by rw[h5,AJ,xh,td,tg]
 obtain rfl:y3=yz:=by rw[h6,rI,Er,AM,AH,xh,td,tg]
 obtain rfl:c3=E8:=by rw[h7,Ep,cQ,td,tg,h3]
 obtain rfl:e3=E_:=by rw[h8,Es,kJ,AM,AH,xh,td,tg,h2]
 clear h7 h8 Ep Es IS h5 h6 rI Er AJ xh cQ td og tg kJ AM Eo AH DV IT
 cbv
 refine bq hg RU (fun l=>if l=0 then 17 else if l=1 then 19 else 0) (sK (Lw 0) (Lr 0) (vP 0) rfl rfl rfl) ?_
 simp only[aG,ae (H lm KG) (A_ 0)]
 cbv
 refine cm hP hA hg ?_
 cbv
 refine qE rfl hg rfl rfl RT Lu A_ A_ vP (fun l=>if l=0 then 20 else if l=1 then 20 else 0) rfl rfl rfl rfl ?_
 cbv
 refine qE rfl hg rfl rfl RS Lt Lu v1 vP (fun l=>if l=0 then 21 else if l=1 then 6 else 0) rfl rfl rfl rfl ?_
 cbv
 refine qE rfl hg rfl rfl RZ LC Lt v3 vP (fun l=>if l=0 then 22 else if l=1 then 8 else 0) rfl rfl rfl rfl ?_
 cbv
 refine cm hP hA hg ?_
 cbv
 refine qE rfl hg rfl rfl RY LB v1 LC vP (fun l=>if l=0 then 6 else if l=1 then 23 else 0) rfl rfl rfl rfl ?_
 cbv
 refine qE rfl hg rfl rfl R0 LF A_ LB vP (fun l=>if l=0 then 20 else if l=1 then 24 else 0) rfl rfl rfl rfl ?_
 cbv
 refine qE rfl hg rfl rfl R1 XQ LF v2 vP (fun l=>if l=0 then 25 else if l=1 then 7 else 0) rfl rfl rfl rfl ?_
 cbv
 exact hK _ _ _ ⟨rfl,rfl,rfl⟩
include hp in
theorem alc{a ac x1 c1 y1 e1 x2 c2 y2 e2:Nat}(k nB nN nX nY cB cN cX cY:Nat)(rB rN rX rY:List SV)(jF:p≠2)(Av X1 Y1 X2 Y2 Lm:Fin p)(ha:a=Av.val)(h1:x1=X1.val)(h2:y1=Y1.val)(h3:x2=X2.val)(h4:y2=Y2.val)(oK:a<4294967296^ac)(dR:x1<4294967296^c1)(fz:y1<4294967296^e1)(eP:x2<4294967296^c2)(gL:y2<4294967296^e2)(b2:∀m,an m rB=true)(b3:∀m,an m rN=true)(b4:∀m,an m rX=true)(b5:∀m,an m rY=true)(ek:x1≠x2)
 (IS:Lm=(Y2-Y1)*EC.aN (X2-X1)) (x3 y3:Nat) (h5:x3=(Lm*Lm-X1-X2).val) (h6:y3=(Lm*(X1-(Lm*Lm-X1-X2))-Y1).val) (c3 e3:Nat) (h7:c3=S (oI p (Lm*Lm-X1).val X2.val)) (h8:e3=S (oI p (Lm*(X1-(Lm*Lm-X1-X2))).val Y1.val)):
 x3<4294967296^c3/\y3<4294967296^e3/\ah P 60 [.agg (pW k (.slice 0 0 (S p) pc) (.slice 1 0 (S a) ac) (.slice 2 0 nB cB) (.slice 3 0 nN cN) (.slice 4 0 nX cX) (.slice 5 0 nY cY)),.agg [.slice 6 0 (S x1) c1,.slice 7 0 (S y1) e1,.bool false],.agg [.slice 8 0 (S x2) c2,.slice 9 0 (S y2) e2,.bool false]]
  [⟨0,H p pc,88⟩,⟨1,H a ac,88⟩,⟨2,rB,88⟩,⟨3,rN,88⟩,⟨4,rX,88⟩,⟨5,rY,88⟩,⟨6,H x1 c1,88⟩,⟨7,H y1 e1,88⟩,⟨8,H x2 c2,88⟩,⟨9,H y2 e2,88⟩] 10 [] (fun w L q=>w= .agg [.slice 10 0 (S x3) c3,.slice 11 0 (S y3) e3,.bool false]/\L=[⟨10,H x3 c3,88⟩,⟨11,H y3 e3,88⟩]/\q=12):=by
 refine⟨by rw[h5,h7];exact Bn hP hs cE _ _,by rw[h6,h8];exact Bn hP hs cE _ _,?_⟩
 have tn:=hp.1
 have vP:=fun m=>hs.b m p pc
 have vA:=fun m=>hs.b m a ac
 have v1:=fun m=>hs.b m x1 c1
 have v2:=fun m=>hs.b m y1 e1
 have v3:=fun m=>hs.b m x2 c2
 have v4:=fun m=>hs.b m y2 e2
 have yW:x1<p:=by rw[h1];exact X1.isLt
 have Oz:y1<p:=by rw[h2];exact Y1.isLt
 have Oy:x2<p:=by rw[h3];exact X2.isLt
 have ly2:y2<p:=by rw[h4];exact Y2.isLt
 obtain⟨ci,qS,Bk,Bl⟩:=zC x1 x2
 have hC:=AT hP hs dR eP (cT yW (j_ hP hs cE)) ci qS Bk Bl
 obtain⟨AY,JY⟩:=aa (Y2-Y1:Fin p)
 obtain⟨ov,JX⟩:=aa AY.val
 obtain⟨OT,Qv,RV⟩:=GM hP hs db cE Y2 Y1 y2 y1 ov h4 h2 (by rw[JX,JY]) gL fz
 have Lw:=fun m=>hs.b m ov OT
 obtain⟨u5,Ej⟩:=aa (X2-X1:Fin p)
 obtain⟨un,kX⟩:=aa u5.val
 obtain⟨Lg,Qz,RW⟩:=GM hP hs db cE X2 X1 x2 x1 un h3 h1 (by rw[kX,Ej]) eP dR
 have LA:=fun m=>hs.b m un Lg
 have Ua:u5≠0:=fun h=>by
  rw[Ej]at h
  have h8:X1=X2:=by grobner
  exact ek (by rw[h1,h3,h8])
 have Ub:0<un:=by
  rcases Nat.eq_zero_or_pos un with h|h
  ·exact absurd (EC.Br (by rw[<-kX,h];exact P0 p)) Ua
  ·exact h
 have Uc:un<p:=by rw[kX];exact u5.isLt
 obtain⟨qw,BM⟩:=aa (EC.aN (EC.nf un):Fin p)
 have Tm:qw=EC.aN u5:=by rw[BM,kX,EC.AW]
 obtain⟨iv,iT⟩:=aa qw.val
 have hI:=acr hP hs hp jF Qz db cE Ub Uc iv (by rw[iT,BM])
 have IT:Lm=AY*qw:=by rw[IS,Tm,JY,Ej]
 refine ah.dj (R:=fun w L q=>w= .agg [.slice 20 0 (S x3) c3,.slice 23 0 (S y3) e3,.bool false]/\find L 20=some ⟨20,H x3 c3,88⟩/\find L 23=some ⟨23,H y3 e3,88⟩) ?_ fun v L q ⟨g3,g4,g5⟩=>⟨fun l=>if l=10 then 20 else if l=11 then 23 else l,.agg [.slice 10 0 (S x3) c3,.slice 11 0 (S y3) e3,.bool false],[⟨10,H x3 c3,88⟩,⟨11,H y3 e3,88⟩],12,by subst g3;exact dH ⟨rfl,rfl,trivial⟩ ⟨by rw[ae (H x3 c3) (hs.b 0 x3 c3)];exact g4,rfl,rfl,hs.b 12 x3 c3,by rw[ae (H y3 e3) (hs.b 0 y3 e3)];exact g5,rfl,rfl,hs.b 12 y3 e3,trivial⟩ rfl rfl rfl,rfl,rfl,rfl⟩
 refine aq hP Tryz.func60 ⟨⟨trivial,ao rfl,ao rfl,ao rfl,ao rfl,ao rfl,ao rfl,trivial⟩,⟨ao rfl,ao rfl,trivial,trivial⟩,⟨ao rfl,ao rfl,trivial,trivial⟩,trivial⟩ (by simpa [ay,bd]using⟨ak _ (vP 10),ak _ (vA 10),ak _ (b2 10),ak _ (b3 10),ak _ (b4 10),ak _ (b5 10),ak _ (v1 10),ak _ (v2 10),ak _ (v3 10),ak _ (v4 10)⟩) ?_
 intro A g K hA hg hK
 obtain⟨_,_,cmp⟩:=A
 have q1:cmp .eql ci 0=false:=aht hA qS Bk Bl ek
 cbv
 refine aZ hg hC (fun l=>if l=0 then 6 else 8) (eK (v1 0) (v3 0) rfl rfl) ?_
 cbv
 rw[q1]
 cbv
 refine bq hg RV (fun l=>if l=0 then 9 else if l=1 then 7 else 0) (sK (v4 0) (v2 0) (vP 0) rfl rfl rfl) ?_
 simp only[aG,ae (H ov OT) (Lw 0)]
 cbv
 refine bq hg RW (fun l=>if l=0 then 8 else if l=1 then 6 else 0) (sK (v3 0) (v1 0) (vP 0) rfl rfl rfl) ?_
 simp only[aG,ae (H un Lg) (LA 0)]
 cbv
 refine gQ rfl hg rfl rfl hI (fun l=>if l=0 then 15 else 0) rfl (eK (LA 0) (vP 0) rfl rfl) rfl rfl rfl ?_
 rintro _ _ _ ⟨Ku,Qr,rfl,rfl,rfl⟩ _
 refine⟨rfl,?_⟩
 have Lr:=fun m=>hs.b m iv Ku
 simp only[aG,ae (H iv Ku) (Lr 0)]
 obtain⟨o6,DV⟩:=aa (AY*qw:Fin p)
 obtain⟨lm,oR⟩:=aa o6.val
 obtain⟨KG,C7,RU⟩:=Ey hP hs hp db cE AY qw ov iv lm JX iT (by rw[oR,DV]) Qv Qr
 have A_:=fun m=>hs.b m lm KG
 obtain⟨Ew,tg⟩:=aa (o6*o6:Fin p)
 obtain⟨ll,og⟩:=aa Ew.val
 obtain⟨UG,bh,RT⟩:=Ey hP hs hp db cE o6 o6 lm lm ll oR oR (by rw[og,tg]) C7 C7
 have Lu:=fun m=>hs.b m ll UG
 obtain⟨Eu,td⟩:=aa (Ew-X1:Fin p)
 obtain⟨l1,cQ⟩:=aa Eu.val
 obtain⟨Uy,Qs,RS⟩:=GM hP hs db cE Ew X1 ll x1 l1 og h1 (by rw[cQ,td]) bh dR
 have Lt:=fun m=>hs.b m l1 Uy
 obtain⟨E7,xh⟩:=aa (Eu-X2:Fin p)
 obtain⟨xz,AJ⟩:=aa E7.val
 obtain⟨E8,Ep⟩:=aa (S (oI p l1 x2))
 obtain⟨QE,RZ⟩:=OC hP hs db cE Eu X2 l1 x2 xz cQ h3 (by rw[AJ,xh]) E8 Ep Qs eP
 have LC:=fun m=>hs.b m xz E8
 obtain⟨E5,AH⟩:=aa (X1-E7:Fin p)
 obtain⟨xd,Eo⟩:=aa E5.val
 obtain⟨XX,QA,RY⟩:=GM hP hs db cE X1 E7 x1 xz xd h1 AJ (by rw[Eo,AH]) dR QE
 have LB:=fun m=>hs.b m xd XX
 obtain⟨E9,AM⟩:=aa (o6*E5:Fin p)
 obtain⟨yl,kJ⟩:=aa E9.val
 obtain⟨XY,QG,R0⟩:=Ey hP hs hp db cE o6 E5 lm xd yl oR Eo (by rw[kJ,AM]) C7 QA
 have LF:=fun m=>hs.b m yl XY
 obtain⟨XZ,Er⟩:=aa (E9-Y1:Fin p)
 obtain⟨yz,rI⟩:=aa XZ.val
 obtain⟨E_,Es⟩:=aa (S (oI p yl y1))
 obtain⟨byz,R1⟩:=OC hP hs db cE E9 Y1 yl y1 yz kJ h2 (by rw[rI,Er]) E_ Es QG fz
 have XQ:=fun m=>hs.b m yz E_
 obtain rfl:Lm=o6:=by rw[IT,DV]
 obtain rfl:x3=xz:=by rw[h5,AJ,xh,td,tg]
 obtain rfl:y3=yz:=by rw[h6,rI,Er,AM,AH,xh,td,tg]
 obtain rfl:c3=E8:=by rw[h7,Ep,cQ,td,tg,h3]
 obtain rfl:e3=E_:=by rw[h8,Es,kJ,AM,AH,xh,td,tg,h2]
 clear h7 h8 Ep Es IS h5 h6 rI Er AJ xh cQ td og tg kJ AM Eo AH DV IT
 cbv
 refine bq hg RU (fun l=>if l=0 then 14 else if l=1 then 16 else 0) (sK (Lw 0) (Lr 0) (vP 0) rfl rfl rfl) ?_
 simp only[aG,ae (H lm KG) (A_ 0)]
 cbv
 refine cm hP hA hg ?_
 cbv
 refine qE rfl hg rfl rfl RT Lu A_ A_ vP (fun l=>if l=0 then 17 else if l=1 then 17 else 0) rfl rfl rfl rfl ?_
 cbv
 refine qE rfl hg rfl rfl RS Lt Lu v1 vP (fun l=>if l=0 then 18 else if l=1 then 6 else 0) rfl rfl rfl rfl ?_
 cbv
 refine qE rfl hg rfl rfl RZ LC Lt v3 vP (fun l=>if l=0 then 19 else if l=1 then 8 else 0) rfl rfl rfl rfl ?_
 cbv
 refine cm hP hA hg ?_
 cbv
 refine qE rfl hg rfl rfl RY LB v1 LC vP (fun l=>if l=0 then 6 else if l=1 then 20 else 0) rfl rfl rfl rfl ?_
 cbv
 refine qE rfl hg rfl rfl R0 LF A_ LB vP (fun l=>if l=0 then 17 else if l=1 then 21 else 0) rfl rfl rfl rfl ?_
 cbv
 refine qE rfl hg rfl rfl R1 XQ LF v2 vP (fun l=>if l=0 then 22 else if l=1 then 7 else 0) rfl rfl rfl rfl ?_
 cbv
 exact hK _ _ _ ⟨rfl,rfl,rfl⟩
end
section
variable {P:Program}(hP:P=Tryz.prog){H:Nat->Nat->List SV}{S:Nat->Nat}(hs:HS H S){p pc:Nat}[NeZero p](hp:Pr.ai p)(db:p<4294967296^pc)(cE:p<4294967296^18)
def EM(Av X1 Y1 X2 Y2:Fin p):Fin p:=if X1=X2 then(X1*X1+(X1*X1+X1*X1)+Av)*EC.aN (Y1+Y1)else(Y2-Y1)*EC.aN (X2-X1)
def mo(S:Nat->Nat)(Av X1 Y1 X2 Y2:Fin p):Nat×Nat:=
 (S (oI p (EM Av X1 Y1 X2 Y2*EM Av X1 Y1 X2 Y2-X1).val X2.val),S (oI p (EM Av X1 Y1 X2 Y2*(X1-(EM Av X1 Y1 X2 Y2*EM Av X1 Y1 X2 Y2-X1-X2))).val Y1.val))
include hP hs cE in
theorem ZH{Av X1 Y1 X2 Y2 X3 Y3:Fin p}(h:EC.add EC.aN Av (.A X1 Y1) (.A X2 Y2)= .A X3 Y3):X3.val<4294967296^(mo S Av X1 Y1 X2 Y2).1/\Y3.val<4294967296^(mo S Av X1 Y1 X2 Y2).2:=by
 simp only[EC.add]at h
 unfold mo EM
 by_cases hx:X1=X2
 ·rw[aj hx]at h⊢
  split at h
  ·have e:X1*X1+X1*X1+X1*X1+Av=X1*X1+(X1*X1+X1*X1)+Av:=by grobner
   rw[e]at h
   cases h
   exact⟨Bn hP hs cE _ _,Bn hP hs cE _ _⟩
  ·cases h
 ·rw[af hx]at h⊢
  cases h
  exact⟨Bn hP hs cE _ _,Bn hP hs cE _ _⟩
include hP hs db cE
omit [NeZero p] db in
theorem ak'{a ac x1 c1 y1 e1 x2 c2 y2 e2:Nat}(k nB nN nX nY cB cN cX cY:Nat)(rB rN rX rY:List SV)(b2:∀m,an m rB=true)(b3:∀m,an m rN=true)(b4:∀m,an m rX=true)(b5:∀m,an m rY=true)(yW:x1<p)(Oz:y1<p)(dR:x1<4294967296^c1)(fz:y1<4294967296^e1)(eP:x2<4294967296^c2)(gL:y2<4294967296^e2)(GG:x1=x2)(hyy:y1≠y2):
 ah P 60 [.agg (pW k (.slice 0 0 (S p) pc) (.slice 1 0 (S a) ac) (.slice 2 0 nB cB) (.slice 3 0 nN cN) (.slice 4 0 nX cX) (.slice 5 0 nY cY)),.agg [.slice 6 0 (S x1) c1,.slice 7 0 (S y1) e1,.bool false],.agg [.slice 8 0 (S x2) c2,.slice 9 0 (S y2) e2,.bool false]]
  [⟨0,H p pc,88⟩,⟨1,H a ac,88⟩,⟨2,rB,88⟩,⟨3,rN,88⟩,⟨4,rX,88⟩,⟨5,rY,88⟩,⟨6,H x1 c1,88⟩,⟨7,H y1 e1,88⟩,⟨8,H x2 c2,88⟩,⟨9,H y2 e2,88⟩] 10 [] (fun w L q=>w= .agg [.au,.au,.bool true]/\L=[]/\q=10):=by
 have vP:=fun m=>hs.b m p pc
 have vA:=fun m=>hs.b m a ac
 have v1:=fun m=>hs.b m x1 c1
 have v2:=fun m=>hs.b m y1 e1
 have v3:=fun m=>hs.b m x2 c2
 have v4:=fun m=>hs.b m y2 e2
 obtain⟨ci,qS,Bk,Bl⟩:=zC x1 x2
 have hC:=AT hP hs dR eP (cT yW (j_ hP hs cE)) ci qS Bk Bl
 obtain⟨di,d11,d12,d13⟩:=zC y1 y2
 have RL:=AT hP hs fz gL (cT Oz (j_ hP hs cE)) di d11 d12 d13
 refine ah.dj (R:=fun w L q=>w= .agg [.au,.au,.bool true]) ?_ fun v L q h1=>⟨_root_.id,.agg [.au,.au,.bool true],[],10,by subst h1;exact fD ⟨rfl,rfl,trivial⟩ trivial rfl rfl,rfl,rfl,rfl⟩
 refine aq hP Tryz.func60 ⟨⟨trivial,ao rfl,ao rfl,ao rfl,ao rfl,ao rfl,ao rfl,trivial⟩,⟨ao rfl,ao rfl,trivial,trivial⟩,⟨ao rfl,ao rfl,trivial,trivial⟩,trivial⟩ (by simpa [ay,bd]using⟨ak _ (vP 10),ak _ (vA 10),ak _ (b2 10),ak _ (b3 10),ak _ (b4 10),ak _ (b5 10),ak _ (v1 10),ak _ (v2 10),ak _ (v3 10),ak _ (v4 10)⟩) ?_
 intro A g K hA hg hK
 obtain⟨_,_,cmp⟩:=A
 have q1:cmp .eql ci 0=true:=ZL hA qS Bk Bl GG
 have q2:cmp .neq di 0=true:=ahv hA d11 d12 d13 hyy
 cbv
 refine aZ hg hC (fun l=>if l=0 then 6 else 8) (eK (v1 0) (v3 0) rfl rfl) ?_
 cbv
 rw[q1]
 cbv
 refine aZ hg RL (fun l=>if l=0 then 7 else 9) (eK (v2 0) (v4 0) rfl rfl) ?_
 cbv
 rw[q2]
 cbv
 exact hK _ _ _ rfl
include hp in
/-- the sum of two points that are not at infinity-/
theorem ak_{a ac x1 c1 y1 e1 x2 c2 y2 e2:Nat}(k nB nN nX nY cB cN cX cY:Nat)(rB rN rX rY:List SV)(b2:∀m,an m rB=true)(b3:∀m,an m rN=true)(b4:∀m,an m rX=true)(b5:∀m,an m rY=true)(jF:p≠2)(Av Bv X1 Y1 X2 Y2:Fin p)(Kk:EC.Ok EC.aN Av Bv)(o1:EC.On Av Bv X1 Y1)(ha:a=Av.val)(h1:x1=X1.val)(h2:y1=Y1.val)(h3:x2=X2.val)(h4:y2=Y2.val)(oK:a<4294967296^ac)(dR:x1<4294967296^c1)(fz:y1<4294967296^e1)(eP:x2<4294967296^c2)(gL:y2<4294967296^e2)(c3 e3:Nat)(h7:c3=(mo S Av X1 Y1 X2 Y2).1)(h8:e3=(mo S Av X1 Y1 X2 Y2).2):
 (EC.add EC.aN Av (.A X1 Y1) (.A X2 Y2)= .O/\ah P 60 [.agg (pW k (.slice 0 0 (S p) pc) (.slice 1 0 (S a) ac) (.slice 2 0 nB cB) (.slice 3 0 nN cN) (.slice 4 0 nX cX) (.slice 5 0 nY cY)),.agg [.slice 6 0 (S x1) c1,.slice 7 0 (S y1) e1,.bool false],.agg [.slice 8 0 (S x2) c2,.slice 9 0 (S y2) e2,.bool false]]
  [⟨0,H p pc,88⟩,⟨1,H a ac,88⟩,⟨2,rB,88⟩,⟨3,rN,88⟩,⟨4,rX,88⟩,⟨5,rY,88⟩,⟨6,H x1 c1,88⟩,⟨7,H y1 e1,88⟩,⟨8,H x2 c2,88⟩,⟨9,H y2 e2,88⟩] 10 [] (fun w L q=>w= .agg [.au,.au,.bool true]/\L=[]/\q=10))\/ ∃X3 Y3:Fin p,∃x3 y3,EC.add EC.aN Av (.A X1 Y1) (.A X2 Y2)= .A X3 Y3/\x3=X3.val/\y3=Y3.val/\x3<4294967296^c3/\y3<4294967296^e3/\ah P 60 [.agg (pW k (.slice 0 0 (S p) pc) (.slice 1 0 (S a) ac) (.slice 2 0 nB cB) (.slice 3 0 nN cN) (.slice 4 0 nX cX) (.slice 5 0 nY cY)),.agg [.slice 6 0 (S x1) c1,.slice 7 0 (S y1) e1,.bool false],.agg [.slice 8 0 (S x2) c2,.slice 9 0 (S y2) e2,.bool false]]
  [⟨0,H p pc,88⟩,⟨1,H a ac,88⟩,⟨2,rB,88⟩,⟨3,rN,88⟩,⟨4,rX,88⟩,⟨5,rY,88⟩,⟨6,H x1 c1,88⟩,⟨7,H y1 e1,88⟩,⟨8,H x2 c2,88⟩,⟨9,H y2 e2,88⟩] 10 [] (fun w L q=>w= .agg [.slice 10 0 (S x3) c3,.slice 11 0 (S y3) e3,.bool false]/\L=[⟨10,H x3 c3,88⟩,⟨11,H y3 e3,88⟩]/\q=12):=by
 unfold mo EM at h7 h8
 by_cases hx:X1=X2
 ·rw[aj hx]at h7 h8
  by_cases hy:Y1=Y2
  ·have hY:Y1≠0:=Kk.y0 o1
   have fy:y1≠0:=fun h=>hY (EC.Br (by rw[<-h2,h];exact P0 p))
   obtain⟨g1,g2,g3⟩:=ak9 hP hs hp db cE k nB nN nX nY cB cN cX cY rB rN rX rY jF Av X1 Y1 X2 Y2 _ ha h1 h2 h3 h4 oK dR fz eP gL b2 b3 b4 b5 hx.symm hy.symm fy rfl _ _ rfl rfl c3 e3 h7 h8
   refine Or.inr ⟨_,_,_,_,?_,rfl,rfl,g1,g2,g3⟩
   simp only[EC.add]
   rw[aj hx,aj ⟨hy,hY⟩]
   have e:X1*X1+X1*X1+X1*X1+Av=X1*X1+(X1*X1+X1*X1)+Av:=by grobner
   rw[e]
  ·refine Or.inl ⟨?_,ak' hP hs cE k nB nN nX nY cB cN cX cY rB rN rX rY b2 b3 b4 b5 (by rw[h1];exact X1.isLt) (by rw[h2];exact Y1.isLt) dR fz eP gL (by rw[h1,h3,hx]) (fun h=>hy (pM (by rw[<-h2,<-h4,h])))⟩
   simp only[EC.add]
   rw[aj hx,af (fun h=>hy h.1)]
 ·rw[af hx]at h7 h8
  obtain⟨g1,g2,g3⟩:=alc hP hs hp db cE k nB nN nX nY cB cN cX cY rB rN rX rY jF Av X1 Y1 X2 Y2 _ ha h1 h2 h3 h4 oK dR fz eP gL b2 b3 b4 b5 (fun h=>hx (pM (by rw[<-h1,<-h3,h]))) rfl _ _ rfl rfl c3 e3 h7 h8
  refine Or.inr ⟨_,_,_,_,?_,rfl,rfl,g1,g2,g3⟩
  simp only[EC.add]
  rw[af hx]
end
end Go.Proofs.YtfocopihipejfaaGreat
namespace Go.Vg
open Go.RowKit
theorem akO{n0:Nat}{c:Code}{body:(Exit->FF->LL->Nat->Prop)->FF->LL->Nat->Prop}{Q:Exit->FF->LL->Nat->Prop}{F:FF}{L:LL}{n:Nat}(σ:Type)(ok:σ->Prop)(m:σ->Nat)(cF:σ->FF)(ks:List Nat)(cL:σ->List (Nat×List SV))(xL:σ->LL)(nI:Nat)(s0:σ)(h0:ok s0)
 (h1:tW n0 id (cF s0++y8 ks F) (AZ (cL s0) L++xL s0) nI F L n)
 (h2:∀s,ok s->body (Vl (fun F' L' n'=>∃s' ρ,ok s'/\m s'<m s/\tW n0 ρ (cF s'++y8 ks F) (AZ (cL s') L++xL s') nI F' L' n') Q) (cF s++y8 ks F) (AZ (cL s) L++xL s) nI):PZ n0 c body Q F L n:=
 ⟨σ,ok,m,fun s=>cF s++y8 ks F,fun s=>AZ (cL s) L++xL s,nI,⟨s0,id,h0,h1⟩,h2⟩
end Go.Vg
namespace EC
section
variable {p:Nat}[NeZero p]{i:Fin p->Fin p}{a b:Fin p}(K:Ok i a b)
include K
theorem ZW{x y:Fin p}(h:On a b x y):add i a (.A x y) (.A x y)≠ .O:=by
 simp only[add]
 rw[aj trivial,aj ⟨trivial,K.y0 h⟩]
 intro h
 cases h
theorem adQ{P:Pt p}(h:eI a b P)(k j:Nat):smul i a (k/2^j) P=if k/2^j%2=1 then add i a (add i a (smul i a (k/2^(j+1)) P) (smul i a (k/2^(j+1)) P)) P else add i a (smul i a (k/2^(j+1)) P) (smul i a (k/2^(j+1)) P):=by
 have e:k/2^(j+1)=k/2^j/2:=by rw[br,ke]
 rw[e,<-Lb K h]
 split
 ·show _=smul i a (2*(k/2^j/2)+1) P
  congr 1;omega
 ·congr 1;omega
end
end EC
namespace Go.Proofs.YtfocopihipejfaaGreat
open Go.Vg Go.RowKit
set_option maxRecDepth 200000
set_option cbv.maxSteps 100000000
structure xU where
 κ:Nat
 i:Nat
 x:Nat
 y:Nat
 c:Nat
 e:Nat
def ky{p:Nat}[NeZero p](S:Nat->Nat)(Av X Y:Fin p)(k j:Nat):Nat×Nat:=match EC.smul EC.aN Av (k/2^(j+1)) (.A X Y)with
 | .O=>(0,0)
 | .A U V=>if k/2^j%2=1 then match EC.add EC.aN Av (.A U V) (.A U V)with
  | .O=>(0,0)
  | .A U2 V2=>mo S Av U2 V2 X Y
   else mo S Av U V U V
def xU.ok{p:Nat}[NeZero p](S:Nat->Nat)(Av X Y:Fin p)(k b:Nat)(s:xU):Prop:=s.i<=b/\((s.κ=0/\EC.smul EC.aN Av (k/2^s.i) (.A X Y)= .O)\/(s.κ=1/\EC.smul EC.aN Av (k/2^s.i) (.A X Y)= .A X Y)\/(s.κ=2/\∃U V:Fin p,EC.smul EC.aN Av (k/2^s.i) (.A X Y)= .A U V/\s.x=U.val/\s.y=V.val/\s.x<4294967296^s.c/\s.y<4294967296^s.e/\s.c=(ky S Av X Y k s.i).1/\s.e=(ky S Av X Y k s.i).2))
def xU.cells(S:Nat->Nat)(x1 c1 y1 e1:Nat)(s:xU):List SV:=match s.κ with
 |0=> [.au,.au,.bool true]
 |1=> [.slice 7 0 (S x1) c1,.slice 8 0 (S y1) e1,.bool false]
 |_=> [.slice 13 0 (S s.x) s.c,.slice 14 0 (S s.y) s.e,.bool false]
def xU.rows(H:Nat->Nat->List SV)(s:xU):LL:=match s.κ with
 |0=> []
 |1=> []
 |_=> [⟨13,H s.x s.c,88⟩,⟨14,H s.y s.e,88⟩]
section
variable {P:Program}(hP:P=Tryz.prog){H:Nat->Nat->List SV}{S:Nat->Nat}(hs:HS H S){p pc:Nat}[NeZero p](hp:Pr.ai p)(db:p<4294967296^pc)(cE:p<4294967296^18)
include hP hs
omit [NeZero p] hP hs in
theorem afp{x b n:Nat}(h:ig x b)(hx:x<4294967296^n):b<=32*n:=Qt h (by rw[jS];exact hx)
omit [NeZero p] in
theorem ak3{x c b:Nat}(hx:x<4294967296^c)(qt:x<4294967296^40)(hb:ig x b):ah P 31 [.slice 0 0 (S x) c] [⟨0,H x c,88⟩] 1 [] (fun w _ _=>w= .int .i64 (.ofNat b)):=by
 have h:=QQ hP (hs.nm hx) (by have:=hs.le qt;omega) b hb
 rwa [show Vg.hs (dg x) c=H x c from by rw[hs.h]]at h
omit [NeZero p] in
theorem ak2{x c:Nat}(hx:x<4294967296^c)(i r:Nat)(hi:i<2^40)(hr:r=x/2^i%2):ah P 68 [.slice 0 0 (S x) c,.int .i64 (.ofNat i)] [⟨0,H x c,88⟩] 1 [] (fun w _ _=>w= .int .i64 (.ofNat r)):=by
 have h:=agB hP (hs.nm hx) i r hi hr
 rwa [show Vg.hs (dg x) c=H x c from by rw[hs.h]]at h
include db cE hp
theorem acB{a ac kk kc x1 c1 y1 e1:Nat}(k nB nN nX nY cB cN cX cY:Nat)(rB rN rX rY:List SV)(b2:∀m,an m rB=true)(b3:∀m,an m rN=true)(b4:∀m,an m rX=true)(b5:∀m,an m rY=true)(jF:p≠2)(Av Bv X Y:Fin p)(Kk:EC.Ok EC.aN Av Bv)(o1:EC.On Av Bv X Y)(ha:a=Av.val)(h1:x1=X.val)(h2:y1=Y.val)(oK:a<4294967296^ac)(yJ:kk<4294967296^kc)(NN:kk<4294967296^40)(dR:x1<4294967296^c1)(fz:y1<4294967296^e1)(W:EC.Pt p)(hW:W=EC.smul EC.aN Av kk (.A X Y)):
 ah P 25 [.agg (pW k (.slice 0 0 (S p) pc) (.slice 1 0 (S a) ac) (.slice 2 0 nB cB) (.slice 3 0 nN cN) (.slice 4 0 nX cX) (.slice 5 0 nY cY)),.slice 6 0 (S kk) kc,.agg [.slice 7 0 (S x1) c1,.slice 8 0 (S y1) e1,.bool false]]
  [⟨0,H p pc,88⟩,⟨1,H a ac,88⟩,⟨2,rB,88⟩,⟨3,rN,88⟩,⟨4,rX,88⟩,⟨5,rY,88⟩,⟨6,H kk kc,88⟩,⟨7,H x1 c1,88⟩,⟨8,H y1 e1,88⟩] 9 [] (fun w L q=>(W= .O/\w= .agg [.au,.au,.bool true]/\L=[]/\q=9)\/(W= .A X Y/\w= .agg [.slice 7 0 (S x1) c1,.slice 8 0 (S y1) e1,.bool false]/\L=[]/\q=9)\/ ∃U V:Fin p,∃x3 y3 c3 e3,W= .A U V/\x3=U.val/\y3=V.val/\x3<4294967296^c3/\y3<4294967296^e3/\w= .agg [.slice 9 0 (S x3) c3,.slice 10 0 (S y3) e3,.bool false]/\L=[⟨9,H x3 c3,88⟩,⟨10,H y3 e3,88⟩]/\q=11/\c3=(ky S Av X Y kk 0).1/\e3=(ky S Av X Y kk 0).2):=by
 have OP:EC.eI Av Bv (.A X Y):=o1
 have vP:=fun m=>hs.b m p pc
 have vA:=fun m=>hs.b m a ac
 have vK:=fun m=>hs.b m kk kc
 have v1:=fun m=>hs.b m x1 c1
 have v2:=fun m=>hs.b m y1 e1
 obtain⟨b,hb⟩:=ua kk
 have cW:b<=32*40:=afp hb NN
 have hB:=ak3 hP hs yJ NN hb
 obtain⟨IV,jL⟩:=aa (fun j:Nat=>(j:Int)-1:Nat->Int)
 have oY:IV 0= -1:=by rw[jL];rfl
 have Ky:∀j,IV (j+1)=Int.ofNat j:=fun j=>by rw[jL];show((j+1:Nat):Int)-1=(j:Int);omega
 have hOO:=alb hP hs (p:=p) (pc:=pc) (a:=a) (ac:=ac) k nB nN nX nY cB cN cX cY rB rN rX rY vP vA b2 b3 b4 b5
 have hO:=ala hP hs (p:=p) (pc:=pc) (a:=a) (ac:=ac) (x:=x1) (c:=c1) (y:=y1) (e:=e1) k nB nN nX nY cB cN cX cY rB rN rX rY vP vA b2 b3 b4 b5
 have hF:=fun {x1 c1 y1 e1 x2 c2 y2 e2:Nat} (X1 Y1 X2 Y2:Fin p) (o1:EC.On Av Bv X1 Y1) (h1:x1=X1.val) (h2:y1=Y1.val) (h3:x2=X2.val) (h4:y2=Y2.val) (dR:x1<4294967296^c1) (fz:y1<4294967296^e1) (eP:x2<4294967296^c2) (gL:y2<4294967296^e2)=>ak_ hP hs hp db cE k nB nN nX nY cB cN cX cY rB rN rX rY b2 b3 b4 b5 jF Av Bv X1 Y1 X2 Y2 Kk o1 ha h1 h2 h3 h4 oK dR fz eP gL
 suffices raw:ah P 25 [.agg (pW k (.slice 0 0 (S p) pc) (.slice 1 0 (S a) ac) (.slice 2 0 nB cB) (.slice 3 0 nN cN) (.slice 4 0 nX cX) (.slice 5 0 nY cY)),.slice 6 0 (S kk) kc,.agg [.slice 7 0 (S x1) c1,.slice 8 0 (S y1) e1,.bool false]]
  [⟨0,H p pc,88⟩,⟨1,H a ac,88⟩,⟨2,rB,88⟩,⟨3,rN,88⟩,⟨4,rX,88⟩,⟨5,rY,88⟩,⟨6,H kk kc,88⟩,⟨7,H x1 c1,88⟩,⟨8,H y1 e1,88⟩] 9 [] (fun w L q=>(W= .O/\w= .agg [.au,.au,.bool true])\/(W= .A X Y/\w= .agg [.slice 7 0 (S x1) c1,.slice 8 0 (S y1) e1,.bool false])\/ ∃U V:Fin p,∃x3 y3 c3 e3,W= .A U V/\x3=U.val/\y3=V.val/\x3<4294967296^c3/\y3<4294967296^e3/\w= .agg [.slice 13 0 (S x3) c3,.slice 14 0 (S y3) e3,.bool false]/\find L 13=some ⟨13,H x3 c3,88⟩/\find L 14=some ⟨14,H y3 e3,88⟩/\c3=(ky S Av X Y kk 0).1/\e3=(ky S Av X Y kk 0).2) by
  refine raw.dj fun w L q h=> ?_
  rcases h with⟨g1,g2⟩|⟨g1,g2⟩|⟨Ux,Vx,x3,y3,c3,e3,g1,g2,g3,g4,g5,g6,g7,g8,g9,g10⟩
  ·exact⟨_root_.id,.agg [.au,.au,.bool true],[],9,by subst g2;exact fD ⟨rfl,rfl,trivial⟩ trivial rfl rfl,Or.inl ⟨g1,rfl,rfl,rfl⟩⟩
  ·exact⟨_root_.id,.agg [.slice 7 0 (S x1) c1,.slice 8 0 (S y1) e1,.bool false],[],9,by subst g2;exact fD ⟨rfl,rfl,trivial⟩ trivial rfl rfl,Or.inr (Or.inl ⟨g1,rfl,rfl,rfl⟩)⟩
  ·exact⟨fun l=>if l=9 then 13 else if l=10 then 14 else l,.agg [.slice 9 0 (S x3) c3,.slice 10 0 (S y3) e3,.bool false],[⟨9,H x3 c3,88⟩,⟨10,H y3 e3,88⟩],11,by subst g6;exact dH ⟨rfl,rfl,trivial⟩ ⟨by rw[ae (H x3 c3) (hs.b 0 x3 c3)];exact g7,rfl,rfl,hs.b 11 x3 c3,by rw[ae (H y3 e3) (hs.b 0 y3 e3)];exact g8,rfl,rfl,hs.b 11 y3 e3,trivial⟩ rfl rfl rfl,Or.inr (Or.inr ⟨Ux,Vx,x3,y3,c3,e3,g1,g2,g3,g4,g5,rfl,rfl,rfl,g9,g10⟩)⟩
 refine aq hP Tryz.func25 ⟨⟨trivial,ao rfl,ao rfl,ao rfl,ao rfl,ao rfl,ao rfl,trivial⟩,ao rfl,⟨ao rfl,ao rfl,trivial,trivial⟩,trivial⟩ (by simpa [ay,bd]using⟨ak _ (vP 9),ak _ (vA 9),ak _ (b2 9),ak _ (b3 9),ak _ (b4 9),ak _ (b5 9),ak _ (vK 9),ak _ (v1 9),ak _ (v2 9)⟩) ?_
 intro A g K hA hg hK
 obtain⟨bin,_,cmp,_,_,_,_,_,_,_,_,_,_,_,_,_,_,_,sub⟩:=A
 have SY:bin=jH:=qQ hA
 have sb:∀j:Nat,j<=b->bin .sub .i64 (.ofNat j) 1=IV j:=fun j hj=>by
  rw[SY,jL]
  show IntKind.i64.wrap ((j:Int)-1)=(j:Int)-1
  rw[IntKind.wrap_i64];omega
 have gT:∀j:Nat,cmp .geq (.ofNat j) 0=true:=fun j=>kC hA (b:=0) (bf _)
 have gF:cmp .geq (-1) 0=false:=(bg (bg (bg (kA hA) .geq) (-1)) 0).trans rfl
 cbv
 refine aZ hg hB (fun _=>6) (fG (vK 0) rfl) ?_
 cbv
 rw[sb b (aE _)]
 refine akO xU (xU.ok S Av X Y kk b) xU.i (fun s=> [(8,.int .i64 (IV s.i))]) [1,3,5,6,7] (fun s=> [(12,s.cells S x1 c1 y1 e1)]) (xU.rows H) 15 ⟨0,b,0,0,0,0⟩ ⟨aE _,Or.inl ⟨rfl,?_⟩⟩ ?_ ?_
 ·show EC.smul EC.aN Av (kk/2^b) (.A X Y)= .O
  rw[kg hb.1];rfl
 ·exact fD ⟨rfl,rfl,rfl,rfl,rfl,rfl,rfl,rfl,rfl,rfl,rfl,rfl,trivial⟩ ⟨rfl,rfl,vP 15,rfl,rfl,vA 15,rfl,rfl,b2 15,rfl,rfl,b3 15,rfl,rfl,b4 15,rfl,rfl,b5 15,rfl,rfl,vK 15,rfl,rfl,v1 15,rfl,rfl,v2 15,rfl,rfl,rfl,rfl,rfl,rfl,rfl,rfl,rfl,rfl,rfl,rfl,trivial⟩ rfl rfl
 rintro⟨κ,i,x,y,c,e⟩ ⟨hi,AO⟩
 change i<=b at hi
 change (κ=0/\EC.smul EC.aN Av (kk/2^i) (.A X Y)= .O)\/(κ=1/\EC.smul EC.aN Av (kk/2^i) (.A X Y)= .A X Y)\/(κ=2/\∃U V:Fin p,EC.smul EC.aN Av (kk/2^i) (.A X Y)= .A U V/\x=U.val/\y=V.val/\x<4294967296^c/\y<4294967296^e/\c=(ky S Av X Y kk i).1/\e=(ky S Av X Y kk i).2)at AO
 cases i with
 |zero=>
  rw[jB,pf,<-hW]at AO
  rcases AO with⟨rfl,hq⟩|⟨rfl,hq⟩|⟨rfl,Ux,Vx,hq,Oe,xj,lG,Of,hce,hee⟩
  ·cbv
   rw[oY,gF]
   cbv
   exact hK _ _ _ (Or.inl ⟨hq,rfl⟩)
  ·cbv
   rw[oY,gF]
   cbv
   exact hK _ _ _ (Or.inr (Or.inl ⟨hq,rfl⟩))
  ·cbv
   rw[oY,gF]
   cbv
   exact hK _ _ _ (Or.inr (Or.inr ⟨Ux,Vx,x,y,c,e,hq,Oe,xj,lG,Of,rfl,rfl,rfl,hce,hee⟩))
 |succ j=>
  obtain⟨r,hr⟩:=aa (kk/2^j%2)
  have Dn:=ak2 hP hs yJ j r (by omega) hr
  have hh:=EC.adQ Kk OP kk j
  rw[<-hr]at hh
  have D3:=EC.sq Kk (EC.nM Kk OP (kk/2^(j+1))) (EC.nM Kk OP (kk/2^(j+1)))
  have ry:r=0\/r=1:=by omega
  have fs:=sb j (by omega)
  rcases AO with⟨rfl,hq⟩|⟨rfl,hq⟩|⟨rfl,Ux,Vx,hq,Oe,xj,lG,Of,_,_⟩
  ·have mE:=hq
   rw[hq]at hh D3
   cbv
   rw[Ky,gT]
   cbv
   refine fT rfl hg rfl rfl hOO _root_.id rfl ⟨by rw[ae (H p pc) (vP 0)];rfl,by rw[ae (H a ac) (vA 0)];rfl,by rw[ae rB (b2 0)];rfl,by rw[ae rN (b3 0)];rfl,by rw[ae rX (b4 0)];rfl,by rw[ae rY (b5 0)];rfl,trivial⟩ ?_
   rintro _ _ _ rfl
   refine⟨by simp[bd,ay],by simp[bd,ay,cK,bj],?_⟩
   cbv
   refine aZ hg Dn (fun _=>6) (fG (vK 0) rfl) ?_
   cbv
   rcases ry with cC|kq
   ·rw[cC]at hh⊢
    have q1:cmp .eql (.ofNat 0) 1=false:=ja hA (b:=1) (by decide)
    rw[af (by decide)]at hh
    cbv
    rw[q1]
    cbv
    rw[fs]
    exact⟨⟨0,j,0,0,0,0⟩,_root_.id,⟨by show j<=b;omega,Or.inl ⟨rfl,hh⟩⟩,jR j,fD ⟨rfl,rfl,rfl,rfl,rfl,rfl,rfl,rfl,rfl,rfl,rfl,rfl,trivial⟩ ⟨rfl,rfl,vP 15,rfl,rfl,vA 15,rfl,rfl,b2 15,rfl,rfl,b3 15,rfl,rfl,b4 15,rfl,rfl,b5 15,rfl,rfl,vK 15,rfl,rfl,v1 15,rfl,rfl,v2 15,rfl,rfl,rfl,rfl,rfl,rfl,rfl,rfl,rfl,rfl,rfl,rfl,trivial⟩ rfl rfl⟩
   ·rw[kq]at hh⊢
    have q1:cmp .eql (.ofNat 1) 1=true:=iP hA (b:=1) rfl
    rw[aj rfl]at hh
    cbv
    rw[q1]
    cbv
    refine fT rfl hg rfl rfl hO (fun l=>if l=6 then 7 else if l=7 then 8 else l) rfl ⟨by rw[ae (H p pc) (vP 0)];rfl,by rw[ae (H a ac) (vA 0)];rfl,by rw[ae rB (b2 0)];rfl,by rw[ae rN (b3 0)];rfl,by rw[ae rX (b4 0)];rfl,by rw[ae rY (b5 0)];rfl,by rw[ae (H x1 c1) (v1 0)];rfl,by rw[ae (H y1 e1) (v2 0)];rfl,trivial⟩ ?_
    rintro _ _ _ rfl
    refine⟨by simp[bd,ay],by simp[bd,ay,cK,bj],?_⟩
    cbv
    rw[fs]
    exact⟨⟨1,j,0,0,0,0⟩,_root_.id,⟨by show j<=b;omega,Or.inr (Or.inl ⟨rfl,hh⟩)⟩,jR j,fD ⟨rfl,rfl,rfl,rfl,rfl,rfl,rfl,rfl,rfl,rfl,rfl,rfl,trivial⟩ ⟨rfl,rfl,vP 15,rfl,rfl,vA 15,rfl,rfl,b2 15,rfl,rfl,b3 15,rfl,rfl,b4 15,rfl,rfl,b5 15,rfl,rfl,vK 15,rfl,rfl,v1 15,rfl,rfl,v2 15,rfl,rfl,rfl,rfl,rfl,rfl,rfl,rfl,rfl,rfl,rfl,rfl,trivial⟩ rfl rfl⟩
  ·have mE:=hq
   rw[hq]at hh D3
   obtain⟨c2,dP⟩:=aa ((mo S Av X Y X Y).1)
   obtain⟨e2,kT⟩:=aa ((mo S Av X Y X Y).2)
   have J2:r=0->ky S Av X Y kk j=mo S Av X Y X Y:=fun h=>by unfold ky;rw[mE];simp only;rw[af (by rw[<-hr,h];decide)]
   have hD:=hF X Y X Y o1 h1 h2 h1 h2 dR fz dR fz c2 e2 dP kT
   rcases hD with⟨hd,_⟩|⟨U2,V2,x2,y2,hd,eP,gL,Kl,Kp,hD⟩
   ·exact absurd hd (EC.ZW Kk o1)
   have J3:r=1->ky S Av X Y kk j=mo S Av U2 V2 X Y:=fun h=>by unfold ky;rw[mE];simp only;rw[aj (by rw[<-hr,h]),hd]
   cbv
   rw[Ky,gT]
   cbv
   refine bq hg hD (fun l=>if l=6 then 7 else if l=7 then 8 else if l=8 then 7 else if l=9 then 8 else l) ⟨by rw[ae (H p pc) (vP 0)];rfl,by rw[ae (H a ac) (vA 0)];rfl,by rw[ae rB (b2 0)];rfl,by rw[ae rN (b3 0)];rfl,by rw[ae rX (b4 0)];rfl,by rw[ae rY (b5 0)];rfl,by rw[ae (H x1 c1) (v1 0)];rfl,by rw[ae (H y1 e1) (v2 0)];rfl,by rw[ae (H x1 c1) (v1 0)];rfl,by rw[ae (H y1 e1) (v2 0)];rfl,trivial⟩ ?_
   rw[hd]at hh D3
   have w1:=fun m=>hs.b m x2 c2
   have w2:=fun m=>hs.b m y2 e2
   simp only[aG,ae (H x2 c2) (w1 0),ae (H y2 e2) (w2 0)]
   cbv
   refine aZ hg Dn (fun _=>6) (fG (vK 0) rfl) ?_
   cbv
   rcases ry with cC|kq
   ·rw[cC]at hh⊢
    have q1:cmp .eql (.ofNat 0) 1=false:=ja hA (b:=1) (by decide)
    rw[af (by decide)]at hh
    cbv
    rw[q1]
    cbv
    rw[fs]
    exact⟨⟨2,j,x2,y2,c2,e2⟩,fun l=>if l=13 then 15 else if l=14 then 16 else l,⟨by show j<=b;omega,Or.inr (Or.inr ⟨rfl,U2,V2,hh,eP,gL,Kl,Kp,by rw[J2 cC];exact dP,by rw[J2 cC];exact kT⟩)⟩,jR j,dH ⟨rfl,rfl,rfl,rfl,rfl,rfl,rfl,rfl,rfl,rfl,rfl,rfl,trivial⟩ ⟨by rw[ae (H p pc) (vP 0)];rfl,rfl,rfl,vP 15,by rw[ae (H a ac) (vA 0)];rfl,rfl,rfl,vA 15,by rw[ae rB (b2 0)];rfl,rfl,rfl,b2 15,by rw[ae rN (b3 0)];rfl,rfl,rfl,b3 15,by rw[ae rX (b4 0)];rfl,rfl,rfl,b4 15,by rw[ae rY (b5 0)];rfl,rfl,rfl,b5 15,by rw[ae (H kk kc) (vK 0)];rfl,rfl,rfl,vK 15,by rw[ae (H x1 c1) (v1 0)];rfl,rfl,rfl,v1 15,by rw[ae (H y1 e1) (v2 0)];rfl,rfl,rfl,v2 15,rfl,rfl,rfl,rfl,rfl,rfl,rfl,rfl,rfl,rfl,rfl,rfl,rfl,rfl,rfl,rfl,by rw[ae (H x2 c2) (w1 0)];rfl,rfl,rfl,w1 15,by rw[ae (H y2 e2) (w2 0)];rfl,rfl,rfl,w2 15,trivial⟩ rfl rfl rfl⟩
   ·rw[kq]at hh⊢
    have q1:cmp .eql (.ofNat 1) 1=true:=iP hA (b:=1) rfl
    rw[aj rfl]at hh
    obtain⟨c4,qh⟩:=aa ((mo S Av U2 V2 X Y).1)
    obtain⟨e4,Jt⟩:=aa ((mo S Av U2 V2 X Y).2)
    have hE:=hF U2 V2 X Y D3 eP gL h1 h2 Kl Kp dR fz c4 e4 qh Jt
    rcases hE with⟨lT,hE⟩|⟨U4,V4,x4,y4,lT,AE,AK,Ui,Uj,hE⟩
    ·cbv
     rw[q1]
     cbv
     refine bq hg hE (fun l=>if l=6 then 15 else if l=7 then 16 else if l=8 then 7 else if l=9 then 8 else l) ⟨by rw[ae (H p pc) (vP 0)];rfl,by rw[ae (H a ac) (vA 0)];rfl,by rw[ae rB (b2 0)];rfl,by rw[ae rN (b3 0)];rfl,by rw[ae rX (b4 0)];rfl,by rw[ae rY (b5 0)];rfl,by rw[ae (H x2 c2) (w1 0)];rfl,by rw[ae (H y2 e2) (w2 0)];rfl,by rw[ae (H x1 c1) (v1 0)];rfl,by rw[ae (H y1 e1) (v2 0)];rfl,trivial⟩ ?_
     cbv
     rw[fs]
     exact⟨⟨0,j,0,0,0,0⟩,_root_.id,⟨by show j<=b;omega,Or.inl ⟨rfl,hh.trans lT⟩⟩,jR j,fD ⟨rfl,rfl,rfl,rfl,rfl,rfl,rfl,rfl,rfl,rfl,rfl,rfl,trivial⟩ ⟨rfl,rfl,vP 15,rfl,rfl,vA 15,rfl,rfl,b2 15,rfl,rfl,b3 15,rfl,rfl,b4 15,rfl,rfl,b5 15,rfl,rfl,vK 15,rfl,rfl,v1 15,rfl,rfl,v2 15,rfl,rfl,rfl,rfl,rfl,rfl,rfl,rfl,rfl,rfl,rfl,rfl,trivial⟩ rfl rfl⟩
    ·cbv
     rw[q1]
     cbv
     refine bq hg hE (fun l=>if l=6 then 15 else if l=7 then 16 else if l=8 then 7 else if l=9 then 8 else l) ⟨by rw[ae (H p pc) (vP 0)];rfl,by rw[ae (H a ac) (vA 0)];rfl,by rw[ae rB (b2 0)];rfl,by rw[ae rN (b3 0)];rfl,by rw[ae rX (b4 0)];rfl,by rw[ae rY (b5 0)];rfl,by rw[ae (H x2 c2) (w1 0)];rfl,by rw[ae (H y2 e2) (w2 0)];rfl,by rw[ae (H x1 c1) (v1 0)];rfl,by rw[ae (H y1 e1) (v2 0)];rfl,trivial⟩ ?_
     have w3:=fun m=>hs.b m x4 c4
     have w4:=fun m=>hs.b m y4 e4
     simp only[aG,ae (H x4 c4) (w3 0),ae (H y4 e4) (w4 0)]
     cbv
     rw[fs]
     exact⟨⟨2,j,x4,y4,c4,e4⟩,fun l=>if l=13 then 17 else if l=14 then 18 else l,⟨by show j<=b;omega,Or.inr (Or.inr ⟨rfl,U4,V4,hh.trans lT,AE,AK,Ui,Uj,by rw[J3 kq];exact qh,by rw[J3 kq];exact Jt⟩)⟩,jR j,dH ⟨rfl,rfl,rfl,rfl,rfl,rfl,rfl,rfl,rfl,rfl,rfl,rfl,trivial⟩ ⟨by rw[ae (H p pc) (vP 0)];rfl,rfl,rfl,vP 15,by rw[ae (H a ac) (vA 0)];rfl,rfl,rfl,vA 15,by rw[ae rB (b2 0)];rfl,rfl,rfl,b2 15,by rw[ae rN (b3 0)];rfl,rfl,rfl,b3 15,by rw[ae rX (b4 0)];rfl,rfl,rfl,b4 15,by rw[ae rY (b5 0)];rfl,rfl,rfl,b5 15,by rw[ae (H kk kc) (vK 0)];rfl,rfl,rfl,vK 15,by rw[ae (H x1 c1) (v1 0)];rfl,rfl,rfl,v1 15,by rw[ae (H y1 e1) (v2 0)];rfl,rfl,rfl,v2 15,rfl,rfl,rfl,rfl,rfl,rfl,rfl,rfl,rfl,rfl,rfl,rfl,rfl,rfl,rfl,rfl,by rw[ae (H x4 c4) (w3 0)];rfl,rfl,rfl,w3 15,by rw[ae (H y4 e4) (w4 0)];rfl,rfl,rfl,w4 15,trivial⟩ rfl rfl rfl⟩
  ·have mE:=hq
   rw[hq]at hh D3
   have oU:EC.On Av Bv Ux Vx:=by have h:=EC.nM Kk OP (kk/2^(j+1));rw[hq]at h;exact h
   have vX:=fun m=>hs.b m x c
   have vY:=fun m=>hs.b m y e
   obtain⟨c2,dP⟩:=aa ((mo S Av Ux Vx Ux Vx).1)
   obtain⟨e2,kT⟩:=aa ((mo S Av Ux Vx Ux Vx).2)
   have J2:r=0->ky S Av X Y kk j=mo S Av Ux Vx Ux Vx:=fun h=>by unfold ky;rw[mE];simp only;rw[af (by rw[<-hr,h];decide)]
   have hD:=hF Ux Vx Ux Vx oU Oe xj Oe xj lG Of lG Of c2 e2 dP kT
   rcases hD with⟨hd,_⟩|⟨U2,V2,x2,y2,hd,eP,gL,Kl,Kp,hD⟩
   ·exact absurd hd (EC.ZW Kk oU)
   have J3:r=1->ky S Av X Y kk j=mo S Av U2 V2 X Y:=fun h=>by unfold ky;rw[mE];simp only;rw[aj (by rw[<-hr,h]),hd]
   cbv
   rw[Ky,gT]
   cbv
   refine bq hg hD (fun l=>if l=6 then 13 else if l=7 then 14 else if l=8 then 13 else if l=9 then 14 else l) ⟨by rw[ae (H p pc) (vP 0)];rfl,by rw[ae (H a ac) (vA 0)];rfl,by rw[ae rB (b2 0)];rfl,by rw[ae rN (b3 0)];rfl,by rw[ae rX (b4 0)];rfl,by rw[ae rY (b5 0)];rfl,by rw[ae (H x c) (vX 0)];rfl,by rw[ae (H y e) (vY 0)];rfl,by rw[ae (H x c) (vX 0)];rfl,by rw[ae (H y e) (vY 0)];rfl,trivial⟩ ?_
   rw[hd]at hh D3
   have w1:=fun m=>hs.b m x2 c2
   have w2:=fun m=>hs.b m y2 e2
   simp only[aG,ae (H x2 c2) (w1 0),ae (H y2 e2) (w2 0)]
   cbv
   refine aZ hg Dn (fun _=>6) (fG (vK 0) rfl) ?_
   cbv
   rcases ry with cC|kq
   ·rw[cC]at hh⊢
    have q1:cmp .eql (.ofNat 0) 1=false:=ja hA (b:=1) (by decide)
    rw[af (by decide)]at hh
    cbv
    rw[q1]
    cbv
    rw[fs]
    exact⟨⟨2,j,x2,y2,c2,e2⟩,fun l=>if l=13 then 15 else if l=14 then 16 else l,⟨by show j<=b;omega,Or.inr (Or.inr ⟨rfl,U2,V2,hh,eP,gL,Kl,Kp,by rw[J2 cC];exact dP,by rw[J2 cC];exact kT⟩)⟩,jR j,dH ⟨rfl,rfl,rfl,rfl,rfl,rfl,rfl,rfl,rfl,rfl,rfl,rfl,trivial⟩ ⟨by rw[ae (H p pc) (vP 0)];rfl,rfl,rfl,vP 15,by rw[ae (H a ac) (vA 0)];rfl,rfl,rfl,vA 15,by rw[ae rB (b2 0)];rfl,rfl,rfl,b2 15,by rw[ae rN (b3 0)];rfl,rfl,rfl,b3 15,by rw[ae rX (b4 0)];rfl,rfl,rfl,b4 15,by rw[ae rY (b5 0)];rfl,rfl,rfl,b5 15,by rw[ae (H kk kc) (vK 0)];rfl,rfl,rfl,vK 15,by rw[ae (H x1 c1) (v1 0)];rfl,rfl,rfl,v1 15,by rw[ae (H y1 e1) (v2 0)];rfl,rfl,rfl,v2 15,rfl,rfl,rfl,rfl,rfl,rfl,rfl,rfl,rfl,rfl,rfl,rfl,rfl,rfl,rfl,rfl,by rw[ae (H x2 c2) (w1 0)];rfl,rfl,rfl,w1 15,by rw[ae (H y2 e2) (w2 0)];rfl,rfl,rfl,w2 15,trivial⟩ rfl rfl rfl⟩
   ·rw[kq]at hh⊢
    have q1:cmp .eql (.ofNat 1) 1=true:=iP hA (b:=1) rfl
    rw[aj rfl]at hh
    obtain⟨c4,qh⟩:=aa ((mo S Av U2 V2 X Y).1)
    obtain⟨e4,Jt⟩:=aa ((mo S Av U2 V2 X Y).2)
    have hE:=hF U2 V2 X Y D3 eP gL h1 h2 Kl Kp dR fz c4 e4 qh Jt
    rcases hE with⟨lT,hE⟩|⟨U4,V4,x4,y4,lT,AE,AK,Ui,Uj,hE⟩
    ·cbv
     rw[q1]
     cbv
     refine bq hg hE (fun l=>if l=6 then 15 else if l=7 then 16 else if l=8 then 7 else if l=9 then 8 else l) ⟨by rw[ae (H p pc) (vP 0)];rfl,by rw[ae (H a ac) (vA 0)];rfl,by rw[ae rB (b2 0)];rfl,by rw[ae rN (b3 0)];rfl,by rw[ae rX (b4 0)];rfl,by rw[ae rY (b5 0)];rfl,by rw[ae (H x2 c2) (w1 0)];rfl,by rw[ae (H y2 e2) (w2 0)];rfl,by rw[ae (H x1 c1) (v1 0)];rfl,by rw[ae (H y1 e1) (v2 0)];rfl,trivial⟩ ?_
     cbv
     rw[fs]
     exact⟨⟨0,j,0,0,0,0⟩,_root_.id,⟨by show j<=b;omega,Or.inl ⟨rfl,hh.trans lT⟩⟩,jR j,fD ⟨rfl,rfl,rfl,rfl,rfl,rfl,rfl,rfl,rfl,rfl,rfl,rfl,trivial⟩ ⟨rfl,rfl,vP 15,rfl,rfl,vA 15,rfl,rfl,b2 15,rfl,rfl,b3 15,rfl,rfl,b4 15,rfl,rfl,b5 15,rfl,rfl,vK 15,rfl,rfl,v1 15,rfl,rfl,v2 15,rfl,rfl,rfl,rfl,rfl,rfl,rfl,rfl,rfl,rfl,rfl,rfl,trivial⟩ rfl rfl⟩
    ·cbv
     rw[q1]
     cbv
     refine bq hg hE (fun l=>if l=6 then 15 else if l=7 then 16 else if l=8 then 7 else if l=9 then 8 else l) ⟨by rw[ae (H p pc) (vP 0)];rfl,by rw[ae (H a ac) (vA 0)];rfl,by rw[ae rB (b2 0)];rfl,by rw[ae rN (b3 0)];rfl,by rw[ae rX (b4 0)];rfl,by rw[ae rY (b5 0)];rfl,by rw[ae (H x2 c2) (w1 0)];rfl,by rw[ae (H y2 e2) (w2 0)];rfl,by rw[ae (H x1 c1) (v1 0)];rfl,by rw[ae (H y1 e1) (v2 0)];rfl,trivial⟩ ?_
     have w3:=fun m=>hs.b m x4 c4
     have w4:=fun m=>hs.b m y4 e4
     simp only[aG,ae (H x4 c4) (w3 0),ae (H y4 e4) (w4 0)]
     cbv
     rw[fs]
     exact⟨⟨2,j,x4,y4,c4,e4⟩,fun l=>if l=13 then 17 else if l=14 then 18 else l,⟨by show j<=b;omega,Or.inr (Or.inr ⟨rfl,U4,V4,hh.trans lT,AE,AK,Ui,Uj,by rw[J3 kq];exact qh,by rw[J3 kq];exact Jt⟩)⟩,jR j,dH ⟨rfl,rfl,rfl,rfl,rfl,rfl,rfl,rfl,rfl,rfl,rfl,rfl,trivial⟩ ⟨by rw[ae (H p pc) (vP 0)];rfl,rfl,rfl,vP 15,by rw[ae (H a ac) (vA 0)];rfl,rfl,rfl,vA 15,by rw[ae rB (b2 0)];rfl,rfl,rfl,b2 15,by rw[ae rN (b3 0)];rfl,rfl,rfl,b3 15,by rw[ae rX (b4 0)];rfl,rfl,rfl,b4 15,by rw[ae rY (b5 0)];rfl,rfl,rfl,b5 15,by rw[ae (H kk kc) (vK 0)];rfl,rfl,rfl,vK 15,by rw[ae (H x1 c1) (v1 0)];rfl,rfl,rfl,v1 15,by rw[ae (H y1 e1) (v2 0)];rfl,rfl,rfl,v2 15,rfl,rfl,rfl,rfl,rfl,rfl,rfl,rfl,rfl,rfl,rfl,rfl,rfl,rfl,rfl,rfl,by rw[ae (H x4 c4) (w3 0)];rfl,rfl,rfl,w3 15,by rw[ae (H y4 e4) (w4 0)];rfl,rfl,rfl,w4 15,trivial⟩ rfl rfl rfl⟩
theorem acA{a ac kk kc x1 c1 y1 e1:Nat}(k nB nN nX nY cB cN cX cY:Nat)(rB rN rX rY:List SV)(b2:∀m,an m rB=true)(b3:∀m,an m rN=true)(b4:∀m,an m rX=true)(b5:∀m,an m rY=true)(jF:p≠2)(Av Bv X Y:Fin p)(Kk:EC.Ok EC.aN Av Bv)(o1:EC.On Av Bv X Y)(ha:a=Av.val)(h1:x1=X.val)(h2:y1=Y.val)(oK:a<4294967296^ac)(yJ:kk<4294967296^kc)(NN:kk<4294967296^40)(dR:x1<4294967296^c1)(fz:y1<4294967296^e1)(W:EC.Pt p)(hW:W=EC.smul EC.aN Av kk (.A X Y))(U V:Fin p)(hU:W= .A U V)(ek:W≠ .A X Y)(x3 y3 c3 e3:Nat)(AD:x3=U.val)(qu:y3=V.val)(ra:c3=(ky S Av X Y kk 0).1)(he3:e3=(ky S Av X Y kk 0).2):
 x3<4294967296^c3/\y3<4294967296^e3/\ah P 25 [.agg (pW k (.slice 0 0 (S p) pc) (.slice 1 0 (S a) ac) (.slice 2 0 nB cB) (.slice 3 0 nN cN) (.slice 4 0 nX cX) (.slice 5 0 nY cY)),.slice 6 0 (S kk) kc,.agg [.slice 7 0 (S x1) c1,.slice 8 0 (S y1) e1,.bool false]]
  [⟨0,H p pc,88⟩,⟨1,H a ac,88⟩,⟨2,rB,88⟩,⟨3,rN,88⟩,⟨4,rX,88⟩,⟨5,rY,88⟩,⟨6,H kk kc,88⟩,⟨7,H x1 c1,88⟩,⟨8,H y1 e1,88⟩] 9 [] (fun w L q=>w= .agg [.slice 9 0 (S x3) c3,.slice 10 0 (S y3) e3,.bool false]/\L=[⟨9,H x3 c3,88⟩,⟨10,H y3 e3,88⟩]/\q=11):=by
 have hb:U.val<4294967296^(ky S Av X Y kk 0).1/\V.val<4294967296^(ky S Av X Y kk 0).2:=by
  have hh:=EC.adQ Kk (show EC.eI Av Bv (.A X Y)from o1) kk 0
  rw[jB,pf,<-hW,hU]at hh
  rw[hU]at ek
  unfold ky
  rw[jB,pf]
  cases hq:EC.smul EC.aN Av (kk/2^(0+1)) (.A X Y)with
  |O=>
   rw[hq]at hh
   split at hh
   ·exact absurd hh ek
   ·cases hh
  |A U1 V1=>
   rw[hq]at hh
   simp only
   split at hh
   ·rename_i hr
    rw[aj hr]
    cases hd:EC.add EC.aN Av (.A U1 V1) (.A U1 V1)with
    |O=>rw[hd]at hh;exact absurd hh ek
    |A U2 V2=>rw[hd]at hh;exact ZH hP hs cE hh.symm
   ·rename_i hr
    rw[af hr]
    exact ZH hP hs cE hh.symm
 refine⟨by rw[AD,ra];exact hb.1,by rw[qu,he3];exact hb.2,?_⟩
 refine(acB hP hs hp db cE k nB nN nX nY cB cN cX cY rB rN rX rY b2 b3 b4 b5 jF Av Bv X Y Kk o1 ha h1 h2 oK yJ NN dR fz W hW).mono fun w L q h=> ?_
 rcases h with⟨g1,_⟩|⟨g1,_⟩|⟨U',V',x',y',c',e',g1,g2,g3,_,_,g6,g7,g8,g9,g10⟩
 ·rw[hU]at g1;cases g1
 ·exact absurd g1 ek
 ·rw[hU]at g1
  cases g1
  rw[AD,qu,ra,he3,<-g2,<-g3,<-g9,<-g10]
  exact⟨g6,g7,g8⟩
theorem alm{a ac kc x1 c1 y1 e1:Nat}(k nB nN nX nY cB cN cX cY:Nat)(rB rN rX rY:List SV)(b2:∀m,an m rB=true)(b3:∀m,an m rN=true)(b4:∀m,an m rX=true)(b5:∀m,an m rY=true)(jF:p≠2)(Av Bv X Y:Fin p)(Kk:EC.Ok EC.aN Av Bv)(o1:EC.On Av Bv X Y)(ha:a=Av.val)(h1:x1=X.val)(h2:y1=Y.val)(oK:a<4294967296^ac)(yJ:1<4294967296^kc)(dR:x1<4294967296^c1)(fz:y1<4294967296^e1):
 ah P 25 [.agg (pW k (.slice 0 0 (S p) pc) (.slice 1 0 (S a) ac) (.slice 2 0 nB cB) (.slice 3 0 nN cN) (.slice 4 0 nX cX) (.slice 5 0 nY cY)),.slice 6 0 (S 1) kc,.agg [.slice 7 0 (S x1) c1,.slice 8 0 (S y1) e1,.bool false]]
  [⟨0,H p pc,88⟩,⟨1,H a ac,88⟩,⟨2,rB,88⟩,⟨3,rN,88⟩,⟨4,rX,88⟩,⟨5,rY,88⟩,⟨6,H 1 kc,88⟩,⟨7,H x1 c1,88⟩,⟨8,H y1 e1,88⟩] 9 [] (fun w _ _=>w= .agg [.slice 7 0 (S x1) c1,.slice 8 0 (S y1) e1,.bool false]):=by
 refine(acB hP hs hp db cE k nB nN nX nY cB cN cX cY rB rN rX rY b2 b3 b4 b5 jF Av Bv X Y Kk o1 ha h1 h2 oK yJ (by decide) dR fz _ rfl).mono fun w L q h=> ?_
 have hW:EC.smul EC.aN Av 1 (.A X Y)= .A X Y:=rfl
 rcases h with⟨g1,_⟩|⟨_,g2,_⟩|⟨U',V',x',y',c',e',g1,g2,g3,_,g5,g6,g7,g8,g9,g10⟩
 ·rw[hW]at g1;cases g1
 ·exact g2
 ·have he:(ky S Av X Y 1 0).2=0:=rfl
  rw[hW]at g1
  cases g1
  rw[g10,he]at g5
  have h0:Y.val=0:=by rw[<-g3];simpa using g5
  exact absurd (pM (h0.trans EC.val_zero.symm)) (Kk.y0 o1)
end
def sB:Sh.Dr:=Sh.new 2 (Ct [101])
def sm(x j:Nat):Nat:=if j=0 then x else 0
theorem adK(x:Nat):V 9 (sm x)=x:=by
 have:∀n,V (n+1) (sm x)=x:=fun n=>by
  induction n with
  |zero=>show 0+x*0x10000000000000000^0=x;omega
  |succ n ih=>
   show V (n+1) (sm x)+0*_=x
   rw[ih,fE,gY]
 exact this 8
theorem adL{x:Nat}(h:x<0x10000000000000000):Wn 9 (sm x):=fun j _=>by
 unfold sm;split
 ·exact h
 ·decide
theorem HU:EC.cn 13=223:=by decide +kernel
theorem arS(f g:Nat->Nat)(d:Nat)(w:World):(Op.equalIn (d+3) 31 (.agg (qI f)) (.agg (qI g))).run Tryz.prog w= .ok (lP f g) w:=by
 rw[run_equalIn_struct w (d+2) 31 _ _ (by kernel_rfl) (by kernel_rfl)]
 have hf:(Tryz.prog.fieldsOf 31).toList=[{name:= "W",type:=29,offset:=0,embedded:=false,tag:= "",pkgPath:= "",byteOffset:=0}]:=by kernel_rfl
 have hp:∀h:Nat->Nat,(part 29 (qI h) 0).run Tryz.prog w= .ok (.agg (qI h)) w:=fun h=>by kernel_rfl
 rw[hf]
 simp only[Op.eqFields,Sem.run_bind,Sem.run_ite,hp,Result.andThen_ok,aiw f g d w]
 cases lP f g<;>rfl
end Go.Proofs.YtfocopihipejfaaGreat
