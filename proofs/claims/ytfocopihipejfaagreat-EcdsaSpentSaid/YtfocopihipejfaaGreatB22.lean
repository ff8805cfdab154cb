/-
  This text proves what these texts prove: Jc, Jd, Je, Pa. Conditions: those of each theorem.
-/
import Derived.Test.YtfocopihipejfaaGreatB21
set_option maxHeartbeats 8000000
set_option linter.all false
namespace Go.Proofs.YtfocopihipejfaaGreat
open Go.Vg Go.RowKit
set_option maxRecDepth 200000
set_option cbv.maxSteps 100000000
theorem arl{x:Nat}(h:x<4294967296):x^^^4294967295=4294967296-1-x:=by
 apply Nat.eq_of_testBit_eq
 intro i
 rw[Nat.testBit_xor,show(4294967295:Nat)=2^32-1 from rfl,ae3,show 4294967296-1-x=2^32-(x+1) by omega,ae4 (show x<2^32 from h)]
 by_cases hi:i<32
 ·simp[hi]
 ·have:x.testBit i=false:=ae2 (cg h (cV (n:=2) (by decide) (show 32<=i by omega)))
  simp[hi,this]
theorem akZ{f:Nat->Nat}{tl:List SV}{i:Nat}(h:i<8):(aw .u32 (fun j=>Int.ofNat (f j)) 0 8++tl)[i]? =some (.int .u32 (.ofNat (f i))):=by
 rw[se (by rw[tB];exact h),GL _ _ h,dB]
theorem ak0{f g:Nat->Nat}{tl:List SV}{i v:Nat}(h:i<8)(hg:g=fun j=>if j=i then v else f j):Vg.splice (aw .u32 (fun j=>Int.ofNat (f j)) 0 8++tl) i [.int .u32 (.ofNat v)]=aw .u32 (fun j=>Int.ofNat (g j)) 0 8++tl:=by
 rw[<-US (K:= .u32) (f:=fun j=>Int.ofNat (f j)) (g:=fun j=>Int.ofNat (g j)) (v:=Int.ofNat v) (k:=i) (s:=0) (n:=8) h (by rw[hg];simp) (fun j _ _ h3=>by rw[hg];simp only;rw[af (by omega)])]
 have hl:=tB .u32 (fun j=>Int.ofNat (f j)) 0 8
 simp only[Vg.splice,mU,pN]
 rw[LS (by omega),PS (by omega)]
 simp only[jA]
theorem afT{P:Program}(hP:P=Tryz.prog){t:TypeId}(hf aT kf:Nat->Nat)(iU:kf=fun j=>Sh.aB.ks.getD j 0)(o c:Nat)(C:List SV)(b:List Nat)(hb:∀x∈b,x<256)(hl:b.length=64)(hC:(C.drop o).take 64=dk b)(bC:∀m,an m C=true)(h8:Sh.jI 32 (aQ hf))(hS:aQ aT=Sh.u4 Sh.aB (aQ hf) b):
 ah P 74 [.slice 0 0 8 8,.slice 1 o 64 c,.slice 2 0 64 64] [⟨0,aw .u32 (fun j=>Int.ofNat (hf j)) 0 8,88⟩,⟨1,C,t⟩,⟨2,aw .u32 (fun j=>Int.ofNat (kf j)) 0 64,88⟩] 3 [0] (fun v L q=>v= .aR []/\L=[⟨0,aw .u32 (fun j=>Int.ofNat (aT j)) 0 8,88⟩]/\q=3):=by
 refine ah.dj (R:=fun v L _=>v= .aR []/\find L 0=some ⟨0,aw .u32 (fun j=>Int.ofNat (aT j)) 0 8,88⟩) ?_ fun v L q ⟨h1,h2⟩=>⟨id,.aR [],_,3,by subst h1;exact fD ⟨rfl,rfl,trivial⟩ ⟨h2,rfl,AS _ _ _ _ _,trivial⟩ rfl rfl,rfl,rfl,rfl⟩
 obtain⟨W,hW⟩:=aa (Sh.wd Sh.aB b)
 have Sy:=ag9 hP (t:=t) o c C b hb hl hC bC W hW
 have xf:∀j,j<64->W j<4294967296:=fun j hj=>by rw[hW];exact Sh.Pp b hb (by rw[hl];decide) (by decide) (by decide) hj
 have yn:(P.info? 88).map (·.bytes)=some 4:=by subst hP;kernel_rfl
 refine aq hP Tryz.func74 ⟨ao rfl,ao rfl,ao rfl,trivial⟩ (aD (by simp only[kL,mf,bC 3,AS];rfl)) ?_
 intro A g K hA hg hK
 obtain⟨bin,_,cmp,_,_,ix,_,_,_,_,_,_,_,_,_,off,get,_,_,eU⟩:=A
 have f1:∀i,i<64->cmp .lss (.ofNat i) 64=true:=fun i h=>cZ hA (b:=64) h
 have iD:cmp .lss (.ofNat 64) 64=false:=bM hA (a:=64) (b:=64) (by omega)
 have f2:∀i,i<8->cmp .lss (.ofNat i) 8=true:=fun i h=>cZ hA (b:=8) h
 have It:cmp .lss (.ofNat 8) 8=false:=bM hA (a:=8) (b:=8) (by omega)
 have f3:∀i,i<200->bin .add .i64 (.ofNat i) 1=Int.ofNat (i+1):=fun i h=>gP hA (by omega)
 have f4:∀i,i<64->ix (.ofNat i) 64=some i:=fun i h=>bB hA h
 have f5:∀i,i<8->ix (.ofNat i) 8=some i:=fun i h=>bB hA h
 have f6:∀i,off 0 i 1=i:=fun i=>(dh hA 0 i 1).trans (by omega)
 have f7:=fun(f:Nat->Nat) (k:Nat) (h:k<64)=>ei hA .u32 (n:=64) f h
 have f7h:=fun(f:Nat->Nat) (k:Nat) (h:k<8)=>ei hA .u32 (n:=8) f h
 have f8h:=fun(f g:Nat->Nat) (k v:Nat) (h:k<8) (e:g=fun j=>if j=k then v else f j)=>gX hA .u32 (n:=8) f g h e
 simp only[aw,Nat.reduceAdd]at f7 f7h f8h
 have i0:ix 0 8=some 0:=f5 0 (by decide)
 have i1:ix 1 8=some 1:=f5 1 (by decide)
 have i2:ix 2 8=some 2:=f5 2 (by decide)
 have i3:ix 3 8=some 3:=f5 3 (by decide)
 have i4:ix 4 8=some 4:=f5 4 (by decide)
 have i5:ix 5 8=some 5:=f5 5 (by decide)
 have i6:ix 6 8=some 6:=f5 6 (by decide)
 have i7:ix 7 8=some 7:=f5 7 (by decide)
 have fx:∀a b,a<4294967296->b<4294967296->bin .xor .u32 (.ofNat a) (.ofNat b)=Int.ofNat (a^^^b):=fun a b h1 h2=>pL hA (k:= .u32) rfl h1 h2
 have fa:∀a b,a<4294967296->b<4294967296->bin .and .u32 (.ofNat a) (.ofNat b)=Int.ofNat (a&&&b):=fun a b h1 h2=>qP hA (k:= .u32) rfl h1 h2
 have fp:∀a b,bin .add .u32 (.ofNat a) (.ofNat b)=Int.ofNat ((a+b)%4294967296):=fun a b=>tX hA (k:= .u32) rfl a b
 have lx:∀a b,a<4294967296->b<4294967296->a^^^b<4294967296:=fun a b h1 h2=>si (n:=32) h1 h2
 have la:∀a b,b<4294967296->a&&&b<4294967296:=fun a b h2=>Yr (n:=32) a h2
 have lr:∀x k,x<4294967296->Sh.gm 32 x k<4294967296:=fun x k hx=>by
  unfold Sh.gm
  exact Bh (n:=32) (by rw[vG];exact eB (gq _ _) hx) (ax _ (by decide))
 cbv
 refine bq hg Sy (fun l=>l+1) ⟨by rw[ae C (bC 0)];rfl,trivial⟩ ?_
 cbv
 refine EP (hP▸aI) hg rfl rfl (show av 22=some _ from rfl) rfl ?_
 cbv
 refine ad0 (hP▸aI) hg rfl rfl (show av 22=some _ from rfl) rfl (show av 88=some _ from rfl) yn (by decide) (show ev _ _=some (.slice 4 0 0 0)from rfl) (show find _ 4=some _ from rfl) rfl (aE 0) rfl (by decide) (show ev _ _=some (.slice 0 0 8 8)from rfl) (show find _ 0=some _ from rfl) (by exact aE 8) rfl (by decide) (by decide) ?_
 intro c' tl X M hX hM hMc iF hXl hXb
 obtain rfl:M=8:=hM
 have Qw:∀q,an q tl=true:=fun q=>by
  have h1:=hXb q rfl (by rfl) rfl
  have h2:X.drop 8=tl:=by rw[hX];rfl
  rw[<-h2];exact Fq h1
 obtain⟨VC,I_⟩:=aa (fun f=>aw .u32 (fun j=>Int.ofNat (f j)) 0 8++tl:(Nat->Nat)->List SV)
 have bV:∀f q,an q (VC f)=true:=fun f q=>by rw[I_];exact mX (AS _ _ _ _ _) (Qw q)
 have gV:∀f i,i<8->get (VC f) i=some (.int .u32 (.ofNat (f i))):=fun f i h=>by rw[I_];exact(jU hA _ _).trans (akZ h)
 have sV:∀f f' i v,i<8->f'=(fun j=>if j=i then v else f j)->eU (VC f) i [.int .u32 (.ofNat v)]=some (VC f'):=fun f f' i v h e=>by
  rw[I_]
  refine(zb hA (by rw[dI,tB];omega) _).trans ?_
  rw[ak0 h e]
 have hXV:X=VC hf:=by rw[hX,I_];rfl
 rw[hXV]
 clear hX hXl hXb hXV I_
 clear X
 cbv
 refine bH (Nat×(Nat->Nat)) (fun s=>s.1<=64/\aQ s.2=Sh.tH Sh.aB b (aQ hf) s.1) (fun s=>64-s.1) (fun s=> [(8,.int .i64 (.ofNat s.1))]) [0,1,2,6,7] (fun s=> [(5,VC s.2)]) (0,hf) ⟨bf _,rfl⟩ ?_ ?_
 ·exact aS (by repeat' (first|exact trivial|refine⟨rfl,rfl,rfl,?_⟩|refine⟨rfl,rfl,bC 6,?_⟩|refine⟨rfl,rfl,bV hf 6,?_⟩))
 rintro⟨i,x⟩ ⟨hi,hx⟩
 change i<=64 at hi
 change aQ x=Sh.tH Sh.aB b (aQ hf) i at hx
 have nt:Sh.jI 32 (aQ x):=by rw[hx];exact Sh.Vj (K:=Sh.aB) b h8 (by decide) i hi
 by_cases ab:i<64
 ·have oe:x 4<4294967296:=nt.2.2.2.2.1
  have kF:x 0<4294967296:=nt.1
  have cQ:x 1<4294967296:=nt.2.1
  have eO:x 2<4294967296:=nt.2.2.1
  have JL:x 5<4294967296:=nt.2.2.2.2.2.1
  have JM:x 6<4294967296:=nt.2.2.2.2.2.2.1
  obtain⟨p1,tn⟩:=aa (Sh.gm 32 (x 4) 6)
  obtain⟨p2,jF⟩:=aa (Sh.gm 32 (x 4) 11)
  obtain⟨p3,yL⟩:=aa (Sh.gm 32 (x 4) 25)
  obtain⟨q1,kV⟩:=aa (Sh.gm 32 (x 0) 2)
  obtain⟨q2,gv⟩:=aa (Sh.gm 32 (x 0) 13)
  obtain⟨q3,D6⟩:=aa (Sh.gm 32 (x 0) 22)
  have So:=ya hP (x 4) 6 oe (by decide) p1 tn
  have FZ:=ya hP (x 4) 11 oe (by decide) p2 jF
  have Sp:=ya hP (x 4) 25 oe (by decide) p3 yL
  have sN:=ya hP (x 0) 2 kF (by decide) q1 kV
  have Dy:=ya hP (x 0) 13 kF (by decide) q2 gv
  have Ss:=ya hP (x 0) 22 kF (by decide) q3 D6
  have KH:p1<4294967296:=by rw[tn];exact lr _ _ oe
  have KI:p2<4294967296:=by rw[jF];exact lr _ _ oe
  have UK:p3<4294967296:=by rw[yL];exact lr _ _ oe
  have KJ:q1<4294967296:=by rw[kV];exact lr _ _ kF
  have KL:q2<4294967296:=by rw[gv];exact lr _ _ kF
  have UM:q3<4294967296:=by rw[D6];exact lr _ _ kF
  obtain⟨p4,D4⟩:=aa (p1^^^p2)
  have UL:p4<4294967296:=by rw[D4];exact lx _ _ KH KI
  obtain⟨s1,jg⟩:=aa (p4^^^p3)
  obtain⟨q4,wV⟩:=aa (q1^^^q2)
  have UN:q4<4294967296:=by rw[wV];exact lx _ _ KJ KL
  obtain⟨s0,iK⟩:=aa (q4^^^q3)
  obtain⟨a1,nZ⟩:=aa (x 4&&&x 5)
  obtain⟨ne,ek⟩:=aa (4294967296-1-x 4)
  have UH:ne<4294967296:=by omega
  obtain⟨a2,jc⟩:=aa (ne&&&x 6)
  have Uz:a1<4294967296:=by rw[nZ];exact la _ _ JL
  have UA:a2<4294967296:=by rw[jc];exact la _ _ JM
  obtain⟨ch,BH⟩:=aa (a1^^^a2)
  obtain⟨b1,cS⟩:=aa (x 0&&&x 1)
  obtain⟨b2,cW⟩:=aa (x 0&&&x 2)
  obtain⟨b3,yq⟩:=aa (x 1&&&x 2)
  have KE:b1<4294967296:=by rw[cS];exact la _ _ cQ
  have KF:b2<4294967296:=by rw[cW];exact la _ _ eO
  have UC:b3<4294967296:=by rw[yq];exact la _ _ eO
  obtain⟨b4,yr⟩:=aa (b1^^^b2)
  have UD:b4<4294967296:=by rw[yr];exact lx _ _ KE KF
  obtain⟨mj,JO⟩:=aa (b4^^^b3)
  obtain⟨m1,b_⟩:=aa ((x 7+s1)%4294967296)
  obtain⟨m2,cU⟩:=aa ((m1+ch)%4294967296)
  obtain⟨m3,ri⟩:=aa ((m2+kf i)%4294967296)
  obtain⟨t1,mJ⟩:=aa ((m3+W i)%4294967296)
  obtain⟨m4,Am⟩:=aa ((t1+s0)%4294967296)
  obtain⟨u,hu⟩:=aa ((m4+mj)%4294967296)
  obtain⟨v,hv⟩:=aa ((x 3+t1)%4294967296)
  have TP:=adq (aQ x) (kf i) (W i) (s1:=s1) (ch:=ch) (m1:=m1) (m2:=m2) (m3:=m3) (m4:=m4) (t1:=t1) (s0:=s0) (maj:=mj) (u:=u) (v:=v) (by rw[jg,D4,tn,jF,yL];rfl) (by rw[BH,nZ,jc,ek];rfl) b_ cU ri mJ (by rw[iK,wV,kV,gv,D6];rfl) (by rw[JO,yr,cS,cW,yq];rfl) Am hu hv
  obtain⟨ki,pz⟩:=aa (kf i)
  obtain⟨wi,Uf⟩:=aa (W i)
  have g8:=f7 kf i ab
  have g7:=f7 W i ab
  rw[<-pz]at g8 ri
  rw[<-Uf]at g7 mJ
  have r1:bin .xor .u32 (.ofNat p1) (.ofNat p2)=Int.ofNat p4:=(fx _ _ KH KI).trans (by rw[D4])
  have r2:bin .xor .u32 (.ofNat p4) (.ofNat p3)=Int.ofNat s1:=(fx _ _ UL UK).trans (by rw[jg])
  have r3:bin .and .u32 (.ofNat (x 4)) (.ofNat (x 5))=Int.ofNat a1:=(fa _ _ oe JL).trans (by rw[nZ])
  have r4:bin .xor .u32 (.ofNat (x 4)) 4294967295=Int.ofNat ne:=(fx (x 4) 4294967295 oe (by decide)).trans (by rw[ek,arl oe])
  have r5:bin .and .u32 (.ofNat ne) (.ofNat (x 6))=Int.ofNat a2:=(fa _ _ UH JM).trans (by rw[jc])
  have r6:bin .xor .u32 (.ofNat a1) (.ofNat a2)=Int.ofNat ch:=(fx _ _ Uz UA).trans (by rw[BH])
  have r7:bin .add .u32 (.ofNat (x 7)) (.ofNat s1)=Int.ofNat m1:=(fp _ _).trans (by rw[b_])
  have r8:bin .add .u32 (.ofNat m1) (.ofNat ch)=Int.ofNat m2:=(fp _ _).trans (by rw[cU])
  have r9:bin .add .u32 (.ofNat m2) (.ofNat ki)=Int.ofNat m3:=(fp _ _).trans (by rw[ri])
  have uQ:bin .add .u32 (.ofNat m3) (.ofNat wi)=Int.ofNat t1:=(fp _ _).trans (by rw[mJ])
  have uR:bin .xor .u32 (.ofNat q1) (.ofNat q2)=Int.ofNat q4:=(fx _ _ KJ KL).trans (by rw[wV])
  have uS:bin .xor .u32 (.ofNat q4) (.ofNat q3)=Int.ofNat s0:=(fx _ _ UN UM).trans (by rw[iK])
  have qA:bin .and .u32 (.ofNat (x 0)) (.ofNat (x 1))=Int.ofNat b1:=(fa _ _ kF cQ).trans (by rw[cS])
  have uT:bin .and .u32 (.ofNat (x 0)) (.ofNat (x 2))=Int.ofNat b2:=(fa _ _ kF eO).trans (by rw[cW])
  have uU:bin .and .u32 (.ofNat (x 1)) (.ofNat (x 2))=Int.ofNat b3:=(fa _ _ cQ eO).trans (by rw[yq])
  have uV:bin .xor .u32 (.ofNat b1) (.ofNat b2)=Int.ofNat b4:=(fx _ _ KE KF).trans (by rw[yr])
  have uW:bin .xor .u32 (.ofNat b4) (.ofNat b3)=Int.ofNat mj:=(fx _ _ UD UC).trans (by rw[JO])
  have qB:bin .add .u32 (.ofNat t1) (.ofNat s0)=Int.ofNat m4:=(fp _ _).trans (by rw[Am])
  have uX:bin .add .u32 (.ofNat m4) (.ofNat mj)=Int.ofNat u:=(fp _ _).trans (by rw[hu])
  have uY:bin .add .u32 (.ofNat (x 3)) (.ofNat t1)=Int.ofNat v:=(fp _ _).trans (by rw[hv])
  obtain⟨x1,dR⟩:=aa (fun j=>if j=7 then x 6 else x j:Nat->Nat)
  obtain⟨x2,eP⟩:=aa (fun j=>if j=6 then x 5 else x1 j:Nat->Nat)
  obtain⟨x3,AD⟩:=aa (fun j=>if j=5 then x 4 else x2 j:Nat->Nat)
  obtain⟨x4,AE⟩:=aa (fun j=>if j=4 then v else x3 j:Nat->Nat)
  obtain⟨x5,AF⟩:=aa (fun j=>if j=3 then x 2 else x4 j:Nat->Nat)
  obtain⟨x6,Uh⟩:=aa (fun j=>if j=2 then x 1 else x5 j:Nat->Nat)
  obtain⟨x7,hx7⟩:=aa (fun j=>if j=1 then x 0 else x6 j:Nat->Nat)
  obtain⟨x9,En⟩:=aa (fun j=>if j=0 then u else x7 j:Nat->Nat)
  have v0:=gV x 0 (by decide)
  have v1:=gV x 1 (by decide)
  have v2:=gV x 2 (by decide)
  have v4:=gV x 4 (by decide)
  have v5:=gV x 5 (by decide)
  have v6:=gV x 6 (by decide)
  have v7:=gV x 7 (by decide)
  have w5:=gV x1 5 (by decide)
  rw[show x1 5=x 5 by rw[dR];rfl]at w5
  have w4:=gV x2 4 (by decide)
  rw[show x2 4=x 4 by rw[eP,dR];rfl]at w4
  have w3:=gV x3 3 (by decide)
  rw[show x3 3=x 3 by rw[AD,eP,dR];rfl]at w3
  have w2:=gV x4 2 (by decide)
  rw[show x4 2=x 2 by rw[AE,AD,eP,dR];rfl]at w2
  have w1:=gV x5 1 (by decide)
  rw[show x5 1=x 1 by rw[AF,AE,AD,eP,dR];rfl]at w1
  have w0:=gV x6 0 (by decide)
  rw[show x6 0=x 0 by rw[Uh,AF,AE,AD,eP,dR];rfl]at w0
  have s7:=sV x x1 7 (x 6) (by decide) dR
  have s6:=sV x1 x2 6 (x 5) (by decide) eP
  have s5:=sV x2 x3 5 (x 4) (by decide) AD
  have s4:=sV x3 x4 4 v (by decide) AE
  have s3:=sV x4 x5 3 (x 2) (by decide) AF
  have s2:=sV x5 x6 2 (x 1) (by decide) Uh
  have z1:=sV x6 x7 1 (x 0) (by decide) hx7
  have z0:=sV x7 x9 0 u (by decide) En
  have akr:aQ x9=⟨u,x 0,x 1,x 2,v,x 4,x 5,x 6⟩:=by rw[En,hx7,Uh,AF,AE,AD,eP,dR];rfl
  cbv
  rw[f1 i ab]
  cbv
  refine cf hP hA hg fun mk _=> ?_
  cbv
  rw[i4]
  cbv
  rw[f6 4,v4]
  cbv
  refine bN hg So ?_
  cbv
  rw[i4]
  cbv
  rw[f6 4,v4]
  cbv
  refine bN hg FZ ?_
  cbv
  rw[r1]
  cbv
  rw[i4]
  cbv
  rw[f6 4,v4]
  cbv
  refine bN hg Sp ?_
  cbv
  rw[r2]
  cbv
  refine cf hP hA hg fun mk _=> ?_
  cbv
  rw[i4]
  cbv
  rw[f6 4,v4]
  cbv
  rw[i5]
  cbv
  rw[f6 5,v5]
  cbv
  rw[r3]
  cbv
  rw[i4]
  cbv
  rw[f6 4,v4]
  cbv
  rw[r4]
  cbv
  rw[i6]
  cbv
  rw[f6 6,v6]
  cbv
  rw[r5]
  cbv
  rw[r6]
  cbv
  refine cf hP hA hg fun mk _=> ?_
  cbv
  rw[i7]
  cbv
  rw[f6 7,v7]
  cbv
  rw[r7]
  cbv
  rw[r8]
  cbv
  rw[f4 i ab]
  cbv
  rw[f6 i,g8]
  cbv
  rw[r9]
  cbv
  rw[f4 i ab]
  cbv
  rw[f6 i,g7]
  cbv
  rw[uQ]
  cbv
  refine cf hP hA hg fun mk _=> ?_
  cbv
  rw[i0]
  cbv
  rw[f6 0,v0]
  cbv
  refine bN hg sN ?_
  cbv
  rw[i0]
  cbv
  rw[f6 0,v0]
  cbv
  refine bN hg Dy ?_
  cbv
  rw[uR]
  cbv
  rw[i0]
  cbv
  rw[f6 0,v0]
  cbv
  refine bN hg Ss ?_
  cbv
  rw[uS]
  cbv
  refine cf hP hA hg fun mk _=> ?_
  cbv
  rw[i0]
  cbv
  rw[f6 0,v0]
  cbv
  rw[i1]
  cbv
  rw[f6 1,v1]
  cbv
  rw[qA]
  cbv
  rw[i0]
  cbv
  rw[f6 0,v0]
  cbv
  rw[i2]
  cbv
  rw[f6 2,v2]
  cbv
  rw[uT]
  cbv
  rw[uV]
  cbv
  rw[i1]
  cbv
  rw[f6 1,v1]
  cbv
  rw[i2]
  cbv
  rw[f6 2,v2]
  cbv
  rw[uU]
  cbv
  rw[uW]
  cbv
  rw[i6]
  cbv
  rw[f6 6,v6]
  cbv
  rw[i7]
  cbv
  rw[f6 7,s7]
  cbv
  rw[i5]
  cbv
  rw[f6 5,w5]
  cbv
  rw[i6]
  cbv
  rw[f6 6,s6]
  cbv
  rw[i4]
  cbv
  rw[f6 4,w4]
  cbv
  rw[i5]
  cbv
  rw[f6 5,s5]
  cbv
  rw[i3]
  cbv
  rw[f6 3,w3]
  cbv
  rw[uY]
  cbv
  rw[i4]
  cbv
  rw[f6 4,s4]
  cbv
  rw[i2]
  cbv
  rw[f6 2,w2]
  cbv
  rw[i3]
  cbv
  rw[f6 3,s3]
  cbv
  rw[i1]
  cbv
  rw[f6 1,w1]
  cbv
  rw[i2]
  cbv
  rw[f6 2,s2]
  cbv
  rw[i0]
  cbv
  rw[f6 0,w0]
  cbv
  rw[i1]
  cbv
  rw[f6 1,z1]
  cbv
  rw[qB]
  cbv
  rw[uX]
  cbv
  rw[i0]
  cbv
  rw[f6 0,z0]
  cbv
  rw[f3 i (by omega)]
  refine⟨(i+1,x9),id,⟨ab,?_⟩,(by show 64-(i+1)<64-i;omega),?_⟩
  ·show aQ x9=Sh.tH Sh.aB b (aQ hf) (i+1)
   rw[Sh.VO (K:=Sh.aB) b _ (by decide) (show i<Sh.aB.ks.length from ab),<-hx,show Sh.aB.ks.getD i 0=kf i by rw[iU],show Sh.wd Sh.aB b i=W i by rw[hW],TP,akr]
   rfl
  ·exact aS (by repeat' (first|exact trivial|refine⟨rfl,rfl,rfl,?_⟩|refine⟨rfl,rfl,bC 6,?_⟩|refine⟨rfl,rfl,bV x9 6,?_⟩))
 ·obtain rfl:i=64:=by omega
  have lA:Sh.u4 Sh.aB (aQ hf) b=Sh.HQ 32 (aQ hf) (aQ x):=by
   rw[Sh.Wa (K:=Sh.aB) b _ (by decide),hx];rfl
  obtain⟨hc,rh⟩:=aa (fun i j=>if j<i then(hf j+x j)%4294967296 else hf j:Nat->Nat->Nat)
  have wH:hc 0=hf:=by rw[rh];rfl
  have S4:∀i v,v=(hf i+x i)%4294967296->hc (i+1)=fun j=>if j=i then v else hc i j:=fun i v hv=>by
   rw[rh];funext j
   show(if j<i+1 then _ else _)=if j=i then v else if j<i then _ else _
   by_cases h:j=i
   ·rw[aj h,aj (by omega),hv,h]
   ·rw[af h]
    by_cases h2:j<i
    ·rw[aj h2,aj (by omega)]
    ·rw[af h2,af (by omega)]
  have yC:∀i,hc i i=hf i:=fun i=>by rw[rh];exact af (iO i)
  have lV:aw .u32 (fun j=>Int.ofNat (hc 8 j)) 0 8=aw .u32 (fun j=>Int.ofNat (aT j)) 0 8:=rK fun j _ hj=>by
   have e:aQ (hc 8)=aQ aT:=by
    rw[hS,lA,rh];rfl
   rw[Pb e j (by omega)]
  clear rh
  simp only[aw,Nat.reduceAdd]at lV
  cbv
  rw[iD]
  cbv
  refine bH (Nat×(Nat->Nat)) (fun s=>s.1<=8/\s.2=hc s.1) (fun s=>8-s.1) (fun s=> [(14,.int .i64 (.ofNat s.1))]) [0,7] (fun s=> [(0,aw .u32 (fun j=>Int.ofNat (s.2 j)) 0 8)]) (0,hf) ⟨bf _,wH.symm⟩ ?_ ?_
  ·exact aS (by repeat' (first|exact trivial|refine⟨rfl,rfl,rfl,?_⟩|refine⟨rfl,rfl,bC 6,?_⟩|refine⟨rfl,rfl,bV x 6,?_⟩))
  rintro⟨i,h⟩ ⟨hi,hh⟩
  change i<=8 at hi
  change h=hc i at hh
  subst hh
  by_cases h8:i<8
  ·obtain⟨DQ,JD⟩:=aa (hf i)
   obtain⟨xi,xg⟩:=aa (x i)
   obtain⟨v,hv⟩:=aa ((DQ+xi)%4294967296)
   have hn:=S4 i v (by rw[hv,JD,xg])
   obtain⟨kG,JU⟩:=aa (hc (i+1))
   rw[<-JU]at hn
   have g9:=f7h (hc i) i h8
   rw[yC i,<-JD]at g9
   have g7:=gV x i h8
   rw[<-xg]at g7
   have r1:bin .add .u32 (.ofNat DQ) (.ofNat xi)=Int.ofNat v:=(fp _ _).trans (by rw[hv])
   cbv
   rw[f2 i h8]
   cbv
   refine cf hP hA hg fun mk _=> ?_
   cbv
   rw[f5 i h8]
   cbv
   rw[f6 i,g9]
   cbv
   rw[f5 i h8]
   cbv
   rw[f6 i,g7]
   cbv
   rw[r1]
   cbv
   rw[f5 i h8]
   cbv
   rw[f6 i,f8h (hc i) kG i v h8 hn]
   cbv
   rw[f3 i (by omega)]
   refine⟨(i+1,kG),id,⟨h8,JU⟩,(by show 8-(i+1)<8-i;omega),?_⟩
   exact aS (by repeat' (first|exact trivial|refine⟨rfl,rfl,rfl,?_⟩|refine⟨rfl,rfl,bC 6,?_⟩|refine⟨rfl,rfl,bV x 6,?_⟩))
  ·obtain rfl:i=8:=by omega
   obtain⟨h9,Tj⟩:=aa (hc 8)
   rw[<-Tj]at lV⊢
   cbv
   rw[It]
   cbv
   rw[lV]
   exact hK _ _ _ ⟨rfl,rfl⟩
end Go.Proofs.YtfocopihipejfaaGreat
namespace Go.Vg
open Go.RowKit Go.Lib
section
variable {P:Program}{g:G}{T:Nat->Option Ty}{F:FF}{L:LL}{n:Nat}
theorem aqB(hT:cI P T){o:Oper}{m0 N:Nat}{ms:List Nat}(hg:GI g m0 ms N)(aA:dD N o.dst=true){x:Operand}{src dst:Nat}(ho:o.op= .convert src dst x){i j:Ty}(hs:T src=some i)(nq:i.d= .s){e es:Nat}(ht:T dst=some j)(hd:j.d= .sl e es)(he:P.underlying e=some (.int .u8))
 {s:ByteArray} (hx:ev (look F) x=some (.str s)) (aJ:s.size<=140737488355328) {K:FF->LL->Nat->Prop} (hK:∀c,s.size<=c->c<=maxLen->K (cH F o.dst (.slice n 0 s.size c)) (L++[⟨n,dZ s++List.replicate (c-s.size) (.int .u8 0),e⟩]) (n+1)):Step g P o K F L n:=by
 have h1:=A7 hT hs nq
 have h2:=(ma hT ht hd).1
 refine ER hg aA fun β a W hm hf=> ?_
 obtain⟨e1,b1⟩:=cq hf hx
 have gA:=run_bytes_of_string (P:=P) W src dst e s h1 h2 he
 have ju:=grownCap_ge W s.size 0 e
 have hle:=grownCap_le_maxLen W s.size 0 e (by simp only[maxLen];omega)
 have aJ:(bytesRow s (grownCap W s.size 0 e)).size=(dZ s++List.replicate (grownCap W s.size 0 e-s.size) (SV.int .u8 0)).length:=by
  simp[bytesRow,dZ]
 refine⟨.slice n 0 s.size (grownCap W s.size 0 e),_,W.heap.size,_,e,((bytesRow s (grownCap W s.size 0 e)).size,(bytesRow s (grownCap W s.size 0 e)).size+1),fun γ gE=>O9 ho (W':=W.drew.alloc (.cells (bytesRow s (grownCap W s.size 0 e)) e ((bytesRow s (grownCap W s.size 0 e)).size,(bytesRow s (grownCap W s.size 0 e)).size+1))) ?_,EW W _,aE _,Or.inr ?_,?_,?_,jR n,hK _ ju hle⟩
 ·rw[e1]
  simp only[den,gE]
  exact gA
 ·rw[aJ];exact aE _
 ·rw[show(W.drew.alloc (.cells (bytesRow s (grownCap W s.size 0 e)) e ((bytesRow s (grownCap W s.size 0 e)).size,(bytesRow s (grownCap W s.size 0 e)).size+1))).heap[W.heap.size]? =some (.cells (bytesRow s (grownCap W s.size 0 e)) e ((bytesRow s (grownCap W s.size 0 e)).size,(bytesRow s (grownCap W s.size 0 e)).size+1))from heap_alloc_new W.drew _]
  congr 2
  apply rZ
  simp only[bytesRow,LI,CI,aeU,cO,CJ,Ym,dZ,CK]
  rfl
 ·rw[gI]
  intro v hv
  rcases List.mem_append.1 hv with hv|hv
  ·exact(gI _ _).1 (Fu _ _) v hv
  ·rw[(qM.1 hv).2];trivial
end
end Go.Vg
namespace Go.Proofs.YtfocopihipejfaaGreat
open Go.Vg Go.RowKit
set_option maxRecDepth 200000
set_option cbv.maxSteps 100000000
theorem apF(s:ByteArray){c:Nat}(h1:s.size<=c)(h2:c<=maxLen):kv (bl s) c (dZ s++List.replicate (c-s.size) (.int .u8 0)) where
 ud:=by rw[qR,CN (by rw[ml])]
 len:=by rw[dI,H3,jq];omega
 le:=by rw[bh];exact h1
 max:=h2
 b:=fun m=>mX (Qx m s) (Qm m _)
theorem agu{P:Program}(hP:P=Tryz.prog)(s:ByteArray)(hs:s.size<140737488352000)(pl:List Nat)(rm:pl=Sh.pad Sh.aB (bl s)):
 ah P 73 [.str s] [] 0 [] (fun v L q=>∃k c X,k=pl.length/\kv pl c X/\v= .slice 0 0 k c/\L=[⟨0,X,5⟩]/\q=1):=by
 have jM:=C9 hP
 obtain⟨r0,cC⟩:=aa (bl s)
 obtain⟨n,hn⟩:=aa s.size
 have D7:r0.length=n:=by rw[cC,bh,hn]
 rw[<-cC]at rm
 have nk:=G1 r0
 rw[<-rm]at nk
 obtain⟨n8,BP⟩:=aa (n*8%0x10000000000000000)
 obtain⟨l1,cQ⟩:=aa (r0++[128])
 have JK:l1.length=n+1:=by rw[cQ,dI,D7];rfl
 obtain⟨zt,Kt⟩:=aa ((64-(l1.length+8)%64)%64)
 obtain⟨l2,eO⟩:=aa (l1++List.replicate zt 0)
 have aa8:l2.length=l1.length+zt:=by rw[eO,dI,jq]
 have lA:pl=l2++Sh.be 8 n8:=by
  rw[nk,eO,cQ,Kt,JK,BP,D7]
  simp only[jA,gY]
 obtain⟨IV,jL⟩:=aa (fun j:Nat=>(7:Int)-(j:Int):Nat->Int)
 have iv:∀j,j<8->IV j=Int.ofNat (7-j):=fun j h=>by rw[jL];show(7:Int)-(j:Int)=((7-j:Nat):Int);omega
 have oY:IV 0=7:=by rw[jL];rfl
 have iv8:IV 8= -1:=by rw[jL];rfl
 suffices raw:ah P 73 [.str s] [] 0 [] (fun v L q=>∃k c X,k=pl.length/\kv pl c X/\v= .slice 2 0 k c/\find L 2=some ⟨2,X,5⟩) by
  refine raw.dj fun v L q hq=> ?_
  obtain⟨k,c,X,h1,h2,rfl,h4⟩:=hq
  refine⟨fun _=>2,.slice 0 0 k c,[⟨0,X,5⟩],1,dH ⟨rfl,rfl,trivial⟩ ⟨by rw[ae X (h2.b 0)];exact h4,rfl,rfl,h2.b 1,trivial⟩ rfl rfl rfl,k,c,X,h1,h2,rfl,rfl,rfl⟩
 clear nk rm
 have Ea:∀c,s.size<=c->c<=maxLen->kv r0 c (dZ s++List.replicate (c-s.size) (.int .u8 0)):=fun c h1 h2=>by rw[cC];exact apF s h1 h2
 clear cC
 refine aq hP Tryz.func73 (ak _ rfl) (aD rfl) ?_
 intro A g K hA hg hK
 obtain⟨bin,sh,cmp,_,aX,_,nn,_,_,_,_,_,fK,_,nat,_,_,_,sub⟩:=A
 have e0:fK s=Int.ofNat n:=(lK hA s).trans (by rw[hn])
 have e1:∀k,nat k=Int.ofNat k:=fun k=>fZ hA k
 have e2:∀k,bin .rem .i64 (.ofNat k) 64=Int.ofNat (k%64):=fun k=>pJ hA k 64
 have e3:∀k,k≠56->cmp .neq (.ofNat k) 56=true:=fun k h=>yX hA (b:=56) h
 have wg:cmp .neq (.ofNat 56) 56=false:=ow hA (a:=56) (b:=56) rfl
 have e4:aX .u64 (.ofNat n)=Int.ofNat n:=nQ hA (fun h=>by cases h) (fun _=>by show n<0x10000000000000000;omega)
 have e5:bin .mul .u64 (.ofNat n) 8=Int.ofNat n8:=(EA hA (k:= .u64) rfl n 8).trans (by rw[BP];rfl)
 have e6:∀j,j<8->cmp .geq (.ofNat (7-j)) 0=true:=fun j h=>kC hA (b:=0) (bf _)
 have Ir:cmp .geq (-1) 0=false:=(bg (bg (bg (kA hA) .geq) (-1)) 0).trans rfl
 have e7:∀j,j<8->bin .sub .i64 (IV j) 1=IV (j+1):=fun j h=>by
  have hb:bin=jH:=qQ hA
  rw[hb,jL]
  show IntKind.i64.wrap ((7-(j:Int))-1)=7-((j+1:Nat):Int)
  rw[IntKind.wrap_i64];omega
 cbv
 refine aqB (hP▸aI) hg rfl rfl (show av 9=some _ from rfl) rfl (show av 89=some _ from rfl) rfl (hP▸Tryz.underlying5) rfl (by omega) ?_
 intro c0 wH aju
 have fH:=Ea c0 wH aju
 rw[<-hn]at fH⊢
 obtain⟨X0,hXe⟩:=aa (dZ s++List.replicate (c0-n) (.int .u8 0):List SV)
 rw[<-hXe]at fH⊢
 clear hXe
 cbv
 refine lI (hP▸aI) hg rfl rfl (show av 89=some _ from rfl) rfl (show av 5=some _ from rfl) jM rfl (L0:=[⟨1,[.int .u8 128],5⟩]) (B1:=[⟨0,X0,5⟩]) (lb:=0) ((fH.row D7.symm 5 0).mid (A:=[]) (C:=[⟨1,[.int .u8 128],5⟩]) rfl) rfl rfl (fH.row D7.symm _ 0) rfl rfl (d:=[128]) (Or.inr ⟨1,0,1,1,_,rfl,rfl,rfl,rfl⟩) (by show r0.length+1<=_;omega) ?_
 intro v2 B2 qf
 obtain⟨k2,c2,X2,fq,rfl,rfl,lR⟩:=qf.some (by simp)
 rw[<-cQ]at fq lR
 cbv
 refine bH (List Nat×Nat×Nat×List SV) (fun s=>(∃z,z<=zt/\s.1=l1++List.replicate z 0)/\s.2.1=s.1.length/\kv s.1 s.2.2.1 s.2.2.2) (fun s=>2*64+n-s.2.1) (fun s=> [(3,.slice 2 0 s.2.1 s.2.2.1)]) [0] (fun s=> [(2,s.2.2.2)]) (l1,k2,c2,X2) ⟨⟨0,bf _,by simp⟩,fq,lR⟩ ?_ ?_
 ·exact aS (by repeat' (first|exact trivial|refine⟨rfl,rfl,rfl,?_⟩|refine⟨rfl,rfl,lR.b 3,?_⟩))
 rintro⟨l,k,c,X⟩ ⟨⟨z,hz,hl⟩,hk,hX⟩
 change l=l1++List.replicate z 0 at hl
 change k=l.length at hk
 change kv l c X at hX
 have pA:k=l1.length+z:=by rw[hk,hl,dI,jq]
 by_cases lH:k%64=56
 ·have Ks:z=zt:=by omega
  rw[Ks,<-eO]at hl
  cbv
  rw[e1 k]
  cbv
  rw[e2 k,lH]
  cbv
  rw[wg]
  cbv
  rw[e0]
  cbv
  rw[e4]
  cbv
  rw[e5]
  cbv
  rw[<-oY]
  refine bH (Nat×List Nat×Nat×Nat×List SV) (fun s=>s.1<=8/\s.2.1=l2++(Sh.be 8 n8).take s.1/\s.2.2.1=s.2.1.length/\kv s.2.1 s.2.2.2.1 s.2.2.2.2) (fun s=>8-s.1) (fun s=> [(3,.slice 2 0 s.2.2.1 s.2.2.2.1),(5,.int .i64 (IV s.1))]) [0,4] (fun s=> [(2,s.2.2.2.2)]) (0,l,k,c,X) ⟨bf _,by show l=l2++[];rw[gg,hl],hk,hX⟩ ?_ ?_
  ·exact aS (by repeat' (first|exact trivial|refine⟨rfl,rfl,rfl,?_⟩|refine⟨rfl,rfl,hX.b 3,?_⟩))
  clear hX pA hk hl
  rintro⟨i,l,k,c,X⟩ ⟨hi,hl,hk,hX⟩
  change i<=8 at hi
  change l=l2++(Sh.be 8 n8).take i at hl
  change k=l.length at hk
  change kv l c X at hX
  have pA:k=l2.length+i:=by rw[hk,hl,dI,eY,pQ];omega
  by_cases ab:i<8
  ·obtain⟨i7,Ai⟩:=aa (7-i)
   obtain⟨b8,oL⟩:=aa (8*i7)
   obtain⟨y,hy⟩:=aa (n8/2^b8)
   obtain⟨yb,rG⟩:=aa (y%256)
   have ajY:n8<0x10000000000000000:=by rw[BP];exact ax _ (by decide)
   have kJ:y<0x10000000000000000:=by rw[hy];exact eB (gq _ _) ajY
   have g1:=iv i ab
   rw[<-Ai]at g1
   have g2:bin .mul .i64 8 (.ofNat i7)=Int.ofNat b8:=(k8 hA (a:=8) (b:=i7) (by omega)).trans (by rw[oL])
   have g4:nn (.ofNat b8)=true:=kr hA b8
   have g5:sh .shr .u64 (.ofNat n8) (.ofNat b8)=Int.ofNat y:=(k_ hA (k:= .u64) (a:=n8) (b:=b8) (by show b8<=64;omega)).trans (by rw[hy])
   have g6:bin .and .u64 (.ofNat y) 255=Int.ofNat yb:=(qP hA (k:= .u64) rfl (a:=y) (b:=255) kJ (by decide)).trans (aK Int.ofNat (by
    rw[rG,show(255:Nat)=2^8-1 from rfl,Bf]))
   have g7:aX .u8 (.ofNat yb)=Int.ofNat yb:=(Bo hA yb).trans (by rw[aO (by omega)])
   have g8:=e6 i ab
   rw[<-Ai]at g8
   have g9:=e7 i ab
   rw[g1]at g9
   rw[g1]
   cbv
   rw[g8]
   cbv
   rw[g2]
   cbv
   rw[g4]
   cbv
   rw[g5]
   cbv
   rw[g6]
   cbv
   rw[g7]
   cbv
   refine lI (hP▸aI) hg rfl rfl (show av 89=some _ from rfl) rfl (show av 5=some _ from rfl) jM rfl (L0:=[⟨1,[.int .u8 128],5⟩,⟨3,[.int .u8 (.ofNat yb)],5⟩]) (B1:=[⟨2,X,5⟩]) (lb:=2) ((hX.row hk 5 2).mid (A:=[⟨1,[.int .u8 128],5⟩]) (C:=[⟨3,[.int .u8 (.ofNat yb)],5⟩]) rfl) rfl rfl (hX.row hk _ 2) rfl rfl (d:=[yb]) (Or.inr ⟨3,0,1,1,_,rfl,rfl,rfl,rfl⟩) (by show l.length+1<=_;omega) ?_
   intro v' B' dK
   obtain⟨k',c',X',dF,rfl,rfl,dO⟩:=dK.some (by simp)
   cbv
   rw[g9]
   refine⟨(i+1,l++[yb],k',c',X'),fun l=>if l=2 then 4 else l,⟨ab,?_,dF,dO⟩,(by show 8-(i+1)<8-i;omega),?_⟩
   ·show l++[yb]=l2++(Sh.be 8 n8).take (i+1)
    rw[hl,HY 8 n8 ab,jA,rG,hy,oL,Ai,show 7-i=8-1-i by omega,jS]
   exact dH (by repeat' (first|exact trivial|refine⟨rfl,rfl,?_⟩)) ⟨rfl,rfl,rfl,rfl,by rw[ae X' (dO.b 0)];rfl,rfl,rfl,dO.b 3,trivial⟩ rfl rfl rfl
  ·obtain rfl:i=8:=by omega
   rw[vf (by rw[pQ];exact aE 8),<-lA]at hl
   rw[hl]at hk hX
   rw[iv8]
   cbv
   rw[Ir]
   cbv
   exact hK _ _ _ ⟨k,c,X,hk,hX,rfl,rfl⟩
 ·have nD:z<zt:=by omega
  cbv
  rw[e1 k]
  cbv
  rw[e2 k]
  cbv
  rw[e3 _ lH]
  cbv
  refine lI (hP▸aI) hg rfl rfl (show av 89=some _ from rfl) rfl (show av 5=some _ from rfl) jM rfl (L0:=[⟨1,[.int .u8 128],5⟩,⟨3,[.int .u8 0],5⟩]) (B1:=[⟨2,X,5⟩]) (lb:=2) ((hX.row hk 5 2).mid (A:=[⟨1,[.int .u8 128],5⟩]) (C:=[⟨3,[.int .u8 0],5⟩]) rfl) rfl rfl (hX.row hk _ 2) rfl rfl (d:=[0]) (Or.inr ⟨3,0,1,1,_,rfl,rfl,rfl,rfl⟩) (by show l.length+1<=_;omega) ?_
  intro v' B' dK
  obtain⟨k',c',X',dF,rfl,rfl,dO⟩:=dK.some (by simp)
  cbv
  refine⟨(l++[0],k',c',X'),fun l=>if l=2 then 4 else l,⟨⟨z+1,nD,by rw[hl,jA,Hx]⟩,dF,dO⟩,?_,?_⟩
  ·show 2*64+n-k'<2*64+n-k
   have:k'=k+1:=by rw[dF,hk,dI];rfl
   omega
  exact dH (by repeat' (first|exact trivial|refine⟨rfl,rfl,?_⟩)) ⟨rfl,rfl,rfl,rfl,by rw[ae X' (dO.b 0)];rfl,rfl,rfl,dO.b 3,trivial⟩ rfl rfl rfl
end Go.Proofs.YtfocopihipejfaaGreat
namespace Go.Vg
open Go.RowKit
section
variable {P:Program}{T:Nat->Option Ty}
theorem ap9(hT:cI P T){t:Nat}{i:Ty}(ht:T t=some i){e es:Nat}(hd:i.d= .sl e es)(l o m c:Nat){k k':IntKind}{j h:Nat}(hj:j<h)(hh:h<=c):oF P t (.slice l o m c) (some (k,Int.ofNat j)) (some (k',Int.ofNat h)) (.slice l (o+j*es) (h-j) (c-j)):=by
 obtain⟨hu,hs⟩:=ma hT ht hd
 have he:P.elem t=e:=by simp[Program.elem,hu]
 refine⟨fun β W=> ?_,fun p h=>h⟩
 show(Instr.sliceAt t (.slice (some ⟨β l,o,none⟩) m c) (some (.int k (Int.ofNat j))) (some (.int k' (Int.ofNat h))) none).run P W=_
 rw[run_sliceAt_slice W t _ _ _ _ (by rw[he];exact hu),run_slice_lh W t _ m c (by rw[he];exact hu) k k' (Int.ofNat j) (Int.ofNat h) (by simp) (by simp;omega) (by simpa using hh),he,rQ hs]
 simp only[Result.andThen,sliced,den]
 rw[af (by simp;omega)]
 simp[tY]
end
end Go.Vg
namespace Go.Proofs.YtfocopihipejfaaGreat
open Go.Vg Go.RowKit
set_option maxRecDepth 200000
set_option cbv.maxSteps 100000000
theorem be4(x:Nat):Sh.be 4 x=[x/2^24%256,x/2^16%256,x/2^8%256,x%256]:=by
 show [x/256^3%256,x/256^2%256,x/256^1%256,x/256^0%256]=_
 rw[jB,pf]
theorem Zz{P:Program}(hP:P=Tryz.prog)(id:Nat)(h0:Nat->Nat)(hid:(id=1/\aQ h0=Sh.i224)\/(id=2/\aQ h0=Sh.i256))(h8:Sh.jI 32 (aQ h0))(s dg:ByteArray)(hs:s.size<140737488352000)(fk:bl dg=Sh.of id (bl s)):
 ah P 33 [.int .i64 (.ofNat id),.str s] [] 0 [] (fun v _ _=>v= .str dg):=by
 have oN:1<=id/\id<=4:=by omega
 obtain⟨pl,rm⟩:=aa (Sh.pad Sh.aB (bl s))
 obtain⟨z,hz⟩:=aa (Sh.size id)
 obtain⟨bk,yA,ajq⟩:∃b,b=Sh.vU id/\b=64:=⟨_,rfl,by rcases hid with⟨rfl,_⟩|⟨rfl,_⟩<;>rfl⟩
 have nD:z<=32:=by rw[hz];rcases hid with⟨rfl,_⟩|⟨rfl,_⟩<;>decide
 have wC:=Zx hP id oN bk yA
 have pq:=QS hP id oN z hz
 have hBe:=afS hP id h0 hid
 obtain⟨kf,iU⟩:=aa (fun j=>Sh.aB.ks.getD j 0)
 have Sa:=agd hP kf iU
 have hPa:=agu hP s hs pl rm
 obtain⟨m,hm⟩:=aa pl.length
 have Gn:m%64=0/\m/64<=(bl s).length+1/\m<2^48:=by
  rw[hm,rm,G1]
  simp only[dI,jq,pQ,mU,pN,bh]
  omega
 have cE:∀x∈pl,x<256:=fun x hx=>by
  rw[rm,G1]at hx
  rcases List.mem_append.1 hx with h|h
  ·exact i' s x h
  ·rcases List.mem_append.1 h with h|h
   ·obtain rfl:=il.1 h;decide
   ·rcases List.mem_append.1 h with h|h
    ·rw[(qM.1 h).2];decide
    ·exact Qp _ _ x h
 have Gu:bl dg=(Sh.out 4 (Sh.tq Sh.aB (aQ h0) pl (m/64))).take z:=by
  have e:∀size s0,aQ h0=s0->Sh.hash Sh.aB s0 size (bl s)=(Sh.out 4 (Sh.tq Sh.aB (aQ h0) pl (m/64))).take size:=fun size s0 he=>by
   rw[Sh.SU (by decide) s0 size (bl s) (by rw[<-rm,<-hm];exact Gn.2.1),Sh.aW,<-rm,<-hm,he];rfl
  rw[fk,hz]
  rcases hid with⟨rfl,h⟩|⟨rfl,h⟩
  ·exact e 28 _ h
  ·exact e 32 _ h
 have jM:=C9 hP
 clear rm fk
 refine aq hP Tryz.func33 (ak _ rfl) (aD rfl) ?_
 intro A g K hA hg hK
 obtain⟨bin,sh,cmp,_,aX,ix,_,_,_,_,_,_,_,_,nat,off⟩:=A
 have e0:cmp .eql (.ofNat bk) 64=true:=iP hA (b:=64) ajq
 have e1:nat m=Int.ofNat m:=fZ hA m
 have e2:∀i,i<m->cmp .lss (.ofNat i) (.ofNat m)=true:=fun i h=>cZ hA h
 have uf:cmp .lss (.ofNat m) (.ofNat m)=false:=bM hA (by omega)
 have e3:∀i,i<m->bin .add .i64 (.ofNat i) 64=Int.ofNat (i+64):=fun i h=>e_ hA (b:=64) (by omega)
 have e4:∀i,i<8->cmp .lss (.ofNat i) 8=true:=fun i h=>cZ hA (b:=8) h
 have e4f:cmp .lss (.ofNat 8) 8=false:=bM hA (a:=8) (b:=8) (by omega)
 have e5:∀i,i<8->bin .add .i64 (.ofNat i) 1=Int.ofNat (i+1):=fun i h=>gP hA (by omega)
 have e6:∀i,i<8->ix (.ofNat i) 8=some i:=fun i h=>bB hA h
 have e7:∀i,off 0 i 1=i:=fun i=>(dh hA 0 i 1).trans (by omega)
 have e8:=fun(f:Nat->Nat) (k:Nat) (h:k<8)=>ei hA .u32 (n:=8) f h
 simp only[aw,Nat.reduceAdd]at e8
 cbv
 refine dJ hg wC ?_
 cbv
 rw[e0]
 cbv
 refine bq hg hBe _root_.id trivial ?_
 cbv
 refine bq hg Sa _root_.id trivial ?_
 cbv
 refine gQ rfl hg rfl rfl hPa _root_.id rfl trivial rfl rfl rfl ?_
 rintro _ _ _ ⟨km,c,X,Gj,hX,rfl,rfl,rfl⟩ _
 obtain rfl:km=m:=by rw[Gj,hm]
 have rX:∀ρ,bj ρ X=X:=fun ρ=>ae X (hX.b 0)
 refine⟨rfl,?_⟩
 simp only[aG,rX]
 cbv
 refine bH (Nat×Nat×(Nat->Nat)) (fun s=>s.2.1=s.1*64/\s.2.1<=km/\aQ s.2.2=Sh.tq Sh.aB (aQ h0) pl s.1) (fun s=>km-s.2.1) (fun s=> [(9,.int .i64 (.ofNat s.2.1))]) [0,1,5,6,7,8] (fun s=> [(0,aw .u32 (fun j=>Int.ofNat (s.2.2 j)) 0 8)]) (0,0,h0) ⟨rfl,bf _,rfl⟩ ?_ ?_
 ·exact aS (by repeat' (first|exact trivial|refine⟨rfl,rfl,rfl,?_⟩|refine⟨rfl,rfl,hX.b 3,?_⟩))
 rintro⟨j,iv,h⟩ ⟨iT,kD,hh⟩
 change iv=j*64 at iT
 change iv<=km at kD
 change aQ h=Sh.tq Sh.aB (aQ h0) pl j at hh
 by_cases ab:iv<km
 ·obtain⟨i2,oM⟩:=aa (iv+64)
  have ajN:i2<=km:=by omega
  have hcm:km<=c:=by rw[hm];exact hX.le
  obtain⟨h',JA⟩:=aa (wj (Sh.u4 Sh.aB (aQ h) ((pl.drop (j*64)).take 64)))
  obtain⟨c2,dP⟩:=aa (c-iv)
  have hB:=afT hP (t:=5) h h' kf iU iv c2 X ((pl.drop (j*64)).take 64) (fun x hx=>cE x (Fh (xO hx))) (by rw[eY,iY,<-hm];omega) (by
   have h1:=hX.ud
   rw[H4,QF,<-h1,<-iT,PU,Hz]
   congr 1
   rw[<-hm];omega) hX.b (by rw[hh];exact Sh.KU (K:=Sh.aB) (by decide) h8 pl j) (by rw[JA,G9])
  have qY:oF P 89 (.slice 2 0 km c) (some (.i64,Int.ofNat iv)) (some (.i64,Int.ofNat i2)) (.slice 2 iv 64 c2):=by
   have:=ap9 (hP▸aI) (show av 89=some _ from rfl) rfl 2 0 km c (k:= .i64) (k':= .i64) (j:=iv) (h:=i2) (by omega) (by omega)
   rw[dB,fh,show i2-iv=64 by omega,<-dP]at this
   exact this
  have g3:=e3 iv ab
  rw[<-oM]at g3
  cbv
  rw[e1]
  cbv
  rw[e2 iv ab]
  cbv
  rw[g3]
  cbv
  refine rS hg rfl rfl rfl rfl rfl qY ?_
  cbv
  refine bq hg hB (fun l=>if l=0 then 0 else if l=1 then 2 else 1) ⟨rfl,by rw[rX];rfl,rfl,trivial⟩ ?_
  cbv
  rw[g3]
  refine⟨(j+1,i2,h'),_root_.id,⟨by show i2=(j+1)*64;omega,ajN,?_⟩,(by show km-i2<km-iv;omega),?_⟩
  ·show aQ h'=Sh.tq Sh.aB (aQ h0) pl (j+1)
   rw[JA,G9,Sh.tq,hh];rfl
  ·exact aS (by repeat' (first|exact trivial|refine⟨rfl,rfl,rfl,?_⟩|refine⟨rfl,rfl,hX.b 3,?_⟩))
 ·obtain rfl:iv=km:=by omega
  have hj:j=iv/64:=by omega
  rw[<-hj,<-hh]at Gu
  have Bw:Sh.jI 32 (aQ h):=by rw[hh];exact Sh.KU (K:=Sh.aB) (by decide) h8 pl j
  have hhl:∀i,i<8->h i<4294967296:=fun i hi=>by
   have:i=0\/i=1\/i=2\/i=3\/i=4\/i=5\/i=6\/i=7:=by omega
   rcases this with rfl|rfl|rfl|rfl|rfl|rfl|rfl|rfl
   ·exact Bw.1
   ·exact Bw.2.1
   ·exact Bw.2.2.1
   ·exact Bw.2.2.2.1
   ·exact Bw.2.2.2.2.1
   ·exact Bw.2.2.2.2.2.1
   ·exact Bw.2.2.2.2.2.2.1
   ·exact Bw.2.2.2.2.2.2.2
  cbv
  rw[e1]
  cbv
  rw[uf]
  cbv
  refine⟨Nat×SV×LL,fun s=>s.1<=8/\bI 5 3 (j8 h s.1) s.2.1 s.2.2,fun s=>8-s.1,fun s=> [(0,.int .i64 (.ofNat id)),(5,s.2.1),(6,.slice 0 0 8 8),(10,.int .i64 (.ofNat s.1))],fun s=>⟨0,aw .u32 (fun j=>Int.ofNat (h j)) 0 8,88⟩::s.2.2,4,⟨(0,.au,[]),_root_.id,⟨bf _,bI.nil _ _⟩,?_⟩,?_⟩
  ·exact a_
  rintro⟨i,v,B⟩ ⟨hi,hR⟩
  change i<=8 at hi
  change bI 5 3 (j8 h i) v B at hR
  by_cases ab:i<8
  ·obtain⟨x,hx⟩:=aa (h i)
   have Km:x<4294967296:=by rw[hx];exact hhl i ab
   obtain⟨a0,qZ⟩:=aa (x/2^24)
   obtain⟨a1,nZ⟩:=aa (x/2^16)
   obtain⟨a2,jc⟩:=aa (x/2^8)
   obtain⟨y0,fy⟩:=aa (a0%256)
   obtain⟨y1,fz⟩:=aa (a1%256)
   obtain⟨y2,gL⟩:=aa (a2%256)
   obtain⟨y3,qu⟩:=aa (x%256)
   have g0:=e8 h i ab
   rw[<-hx]at g0
   have p0:sh .shr .u32 (.ofNat x) 24=Int.ofNat a0:=(k_ hA (k:= .u32) (a:=x) (b:=24) (by decide)).trans (by rw[qZ])
   have p1:sh .shr .u32 (.ofNat x) 16=Int.ofNat a1:=(k_ hA (k:= .u32) (a:=x) (b:=16) (by decide)).trans (by rw[nZ])
   have p2:sh .shr .u32 (.ofNat x) 8=Int.ofNat a2:=(k_ hA (k:= .u32) (a:=x) (b:=8) (by decide)).trans (by rw[jc])
   have Rb:∀y,y<4294967296->bin .and .u32 (.ofNat y) 255=Int.ofNat (y%256):=fun y h=>(qP hA (k:= .u32) rfl (a:=y) (b:=255) h (by decide)).trans (aK Int.ofNat (by rw[show(255:Nat)=2^8-1 from rfl,Bf]))
   have q1:bin .and .u32 (.ofNat a1) 255=Int.ofNat y1:=(Rb a1 (by omega)).trans (by rw[fz])
   have q2:bin .and .u32 (.ofNat a2) 255=Int.ofNat y2:=(Rb a2 (by omega)).trans (by rw[gL])
   have q3:bin .and .u32 (.ofNat x) 255=Int.ofNat y3:=(Rb x Km).trans (by rw[qu])
   have c0':aX .u8 (.ofNat a0)=Int.ofNat y0:=(Bo hA a0).trans (by rw[fy])
   have cc:∀y,y<256->aX .u8 (.ofNat y)=Int.ofNat y:=fun y h=>(Bo hA y).trans (by rw[aO h])
   have k1:=cc y1 (by omega)
   have k2:=cc y2 (by omega)
   have k3:=cc y3 (by omega)
   have gj:j8 h (i+1)=j8 h i++[y0,y1,y2,y3]:=by rw[OM,be4,<-hx,fy,fz,gL,qu,qZ,nZ,jc]
   have jD:=KS h i
   cbv
   rw[e4 i ab]
   cbv
   refine tG (hP▸aI) hA hg (hP▸mixed) rfl rfl [(28,[])] rfl ?_
   cbv
   rw[e6 i ab]
   cbv
   rw[e7 i,g0]
   cbv
   rw[p0]
   cbv
   rw[c0']
   cbv
   rw[e6 i ab]
   cbv
   rw[e7 i,g0]
   cbv
   rw[p1]
   cbv
   rw[q1]
   cbv
   rw[k1]
   cbv
   rw[e6 i ab]
   cbv
   rw[e7 i,g0]
   cbv
   rw[p2]
   cbv
   rw[q2]
   cbv
   rw[k2]
   cbv
   rw[e6 i ab]
   cbv
   rw[e7 i,g0]
   cbv
   rw[q3]
   cbv
   rw[k3]
   cbv
   refine lI (hP▸aI) hg rfl rfl (show av 89=some _ from rfl) rfl (show av 5=some _ from rfl) jM rfl (L0:=[⟨0,aw .u32 (fun j=>Int.ofNat (h j)) 0 8,88⟩,⟨4,[.int .u8 (.ofNat y0),.int .u8 (.ofNat y1),.int .u8 (.ofNat y2),.int .u8 (.ofNat y3)],5⟩]) (B1:=B) (lb:=3) (LK (by cases B<;>rfl) (hR.mid (A:=[⟨0,aw .u32 (fun j=>Int.ofNat (h j)) 0 8,88⟩]) (C:=[⟨4,[.int .u8 (.ofNat y0),.int .u8 (.ofNat y1),.int .u8 (.ofNat y2),.int .u8 (.ofNat y3)],5⟩]) rfl)) rfl rfl hR rfl rfl (d:=[y0,y1,y2,y3]) (Or.inr ⟨4,0,4,4,_,rfl,rfl,rfl,rfl⟩) (by show(j8 h i).length+4<=_;rw[jD];omega) ?_
   intro v' B' dK
   obtain⟨k',c',X',dF,rfl,rfl,dO⟩:=dK.some (by simp)
   rw[<-gj]at dF dO
   cbv
   rw[e5 i ab]
   refine⟨(i+1,.slice 3 0 k' c',[⟨3,X',5⟩]),fun l=>if l=3 then 5 else l,⟨ab,dO.row dF _ 3⟩,(by show 8-(i+1)<8-i;omega),?_⟩
   exact dH (by repeat' (first|exact trivial|refine⟨rfl,rfl,?_⟩)) ⟨rfl,rfl,rfl,rfl,by rw[ae X' (dO.b 0)];rfl,rfl,rfl,dO.b 4,trivial⟩ rfl rfl rfl
  ·obtain rfl:i=8:=by omega
   have Aq:(j8 h 8).length=32:=KS h 8
   obtain⟨k4,c4,X4,hk4,rfl,rfl,BD⟩:=hR.some (fun h=>by rw[h]at Aq;simp at Aq)
   have Jr:dg.size=z:=by
    rw[<-bh,Gu,<-OL,eY,Aq];omega
   have q9:X4.take z=dZ dg:=by
    have h1:=BD.ud
    rw[qR,Gu,<-OL,H4,<-h1,Hz,tS (by rw[Aq];omega)]
   have qh:z<=c4:=by have:=BD.le;rw[Aq]at this;omega
   cbv
   rw[e4f]
   cbv
   refine dJ hg pq ?_
   cbv
   refine rS hg rfl rfl rfl rfl rfl (G8 (hP▸aI) (show av 89=some _ from rfl) rfl 3 0 k4 c4 (j:=z) qh) ?_
   cbv
   refine ES (hP▸aI) hg rfl rfl (show av 9=some _ from rfl) rfl (show av 89=some _ from rfl) rfl (hP▸Tryz.underlying5) rfl (show find _ 3=some _ from rfl) (s:=dg) (by rw[lh];exact q9) Jr ?_
   cbv
   exact hK _ _ _ rfl
end Go.Proofs.YtfocopihipejfaaGreat
namespace Go.Vg
open Go.RowKit Go.Lib
def hs(f:Nat->Nat)(c:Nat):List SV:=aw .u32 (fun j=>Int.ofNat (f j)) 0 c
theorem dG(f:Nat->Nat)(c m:Nat):an m (hs f c)=true:=AS m .u32 _ 0 c
theorem qm(m:Nat):List.replicate m (SV.int .u32 0)=hs (fun _=>0) m:=by
 have:∀m s,List.replicate m (SV.int .u32 0)=aw .u32 (fun _=>Int.ofNat 0) s m:=fun m=>by
  induction m with
  |zero=>intro s;rfl
  |succ m ih=>intro s;rw[PX,ih (s+1)];rfl
 exact this m 0
theorem D_{f g:Nat->Nat}{c:Nat}(h:∀j,j<c->f j=g j):hs f c=hs g c:=rK fun j _ hj=>by rw[h j (by omega)]
structure Nm(n c:Nat)(f:Nat->Nat)(x:Nat):Prop where
 le:n<=c
 w:∀j,j<c->f j<4294967296
 v:Dg.num 4294967296 f n=x
 tr:n=0\/f (n-1)≠0
def tl(f:Nat->Nat):Nat->Nat
 |0=>0
 |m+1=>if f m=0 then tl f m else m+1
theorem Pf(f:Nat->Nat):∀m,tl f m<=m
 |0=>aE _
 |m+1=>by unfold tl;split;exact Bg (Pf f m);exact aE _
theorem aec(f:Nat->Nat):∀m,tl f m=0\/f (tl f m-1)≠0
 |0=>Or.inl rfl
 |m+1=>by
  unfold tl;split
  ·exact aec f m
  ·rename_i h;exact Or.inr h
theorem aed(f:Nat->Nat):∀m j,tl f m<=j->j<m->f j=0
 |0,_,_,h=>absurd h (mh _)
 |m+1,j,h1,h2=>by
  unfold tl at h1;split at h1
  ·rcases Nat.lt_or_ge j m with h3|h3
   ·exact aed f m j h1 h3
   ·rw[show j=m by omega];assumption
  ·omega
theorem aqP(b:Nat)(f:Nat->Nat)(m:Nat):Dg.num b f (tl f m)=Dg.num b f m:=by
 have h:=Dg.rM (b:=b) f (tl f m) (m-tl f m) (fun i h1 h2=>aed f m i h1 (by have:=Pf f m;omega))
 rw[<-h,Nat.add_sub_cancel' (Pf f m)]
theorem Nm.of{f:Nat->Nat}{m c:Nat}(hm:m<=c)(hw:∀j,j<c->f j<4294967296):Nm (tl f m) c f (Dg.num 4294967296 f m):=
 ⟨eH (Pf f m) hm,hw,aqP _ f m,aec f m⟩
def Bd(n x:Nat):Prop:=x<4294967296^n/\(n=0\/4294967296^(n-1)<=x)
theorem Bd.uniq{n m x:Nat}(h:Bd n x)(g:Bd m x):n=m:=by
 have key:∀ {a b:Nat},Bd a x->Bd b x->¬a<b:=fun {a b} ha hb ab=>by
  rcases hb.2 with h0|h0
  ·omega
  ·exact absurd (cg ha.1 (cV (by decide) (show a<=b-1 by omega))) (vC.2 h0)
 have h1:=key h g
 have h2:=key g h
 omega
theorem Nm.lt{n c x:Nat}{f:Nat->Nat}(h:Nm n c f x):x<4294967296^n:=by
 rw[<-h.v];exact Dg.uM n fun i hi=>h.w i (cg hi h.le)
theorem Nm.sz{n c x:Nat}{f:Nat->Nat}(h:Nm n c f x):Bd n x:=by
 refine⟨h.lt,?_⟩
 cases n with
 |zero=>exact Or.inl rfl
 |succ n=>
  right
  rcases h.tr with h0|h0
  ·omega
  ·rw[<-h.v]
   simp only[oC]at h0⊢
   show _<=Dg.num 4294967296 f n+f n*4294967296^n
   have:1*4294967296^n<=f n*4294967296^n:=ea _ (by omega)
   omega
def dg(x:Nat):Nat->Nat:=Dg.eJ 4294967296 x
theorem gR(x j:Nat):dg x j<4294967296:=Dg.Z7 (by decide) x j
def sz(x:Nat):Nat:=tl (dg x) x
theorem Vc{x k:Nat}(h:x<4294967296^k):Nm (tl (dg x) k) k (dg x) x:=by
 have h1:=Nm.of (f:=dg x) (aE k) (fun j _=>gR x j)
 have h2:Dg.num 4294967296 (dg x) k=x:=(Dg.GY (by decide) x k).trans (aO h)
 rwa [h2]at h1
theorem AX{x k:Nat}(h:x<4294967296^k):Nm (sz x) k (dg x) x:=by
 have h1:=Vc h
 have h2:=Vc (x:=x) (k:=x) (cg (L3) (L8 (by decide) x))
 have h3:tl (dg x) k=sz x:=h1.sz.uniq h2.sz
 rwa [h3]at h1
theorem rU{x k:Nat}(h:x<4294967296^k):tl (dg x) k=sz x:=(Vc h).sz.uniq (AX h).sz
theorem Nm.acH{n c x:Nat}{f:Nat->Nat}(h:Nm n c f x):n=Vg.sz x:=h.sz.uniq (AX (k:=x) (cg (L3) (L8 (by decide) x))).sz
theorem Nm.Va{n c x k:Nat}{f:Nat->Nat}(h:Nm n c f x)(hx:x<4294967296^k):n<=k:=by
 rcases h.sz.2 with h0|h0
 ·omega
 ·rcases Nat.lt_or_ge k n with h1|h1
  ·exact absurd (eB h0 hx) (vC.2 (cV (by decide) (by omega)))
  ·exact h1
theorem Nm.zero{n c x:Nat}{f:Nat->Nat}(h:Nm n c f x):n=0↔x=0:=by
 constructor
 ·intro h0;have:=h.lt;rw[h0]at this;omega
 ·intro h0;exact Nat.le_zero.1 (h.Va (k:=0) (by rw[h0];decide))
theorem Nm.eJ{n c x:Nat}{f:Nat->Nat}(h:Nm n c f x){i:Nat}(hi:i<n):f i=dg x i:=by
 rw[<-h.v];exact(Dg.zH (by decide) n (fun j hj=>h.w j (cg hj h.le)) i hi).symm
theorem Nm.pj{n c x:Nat}{f:Nat->Nat}(h:Nm n c f x){i:Nat}(hi:n<=i):dg x i=0:=Dg.v8 (by decide) h.lt hi
theorem acS{b:Nat}{f g:Nat->Nat}{n t:Nat}(ht:t<n)(hf:∀j,j<n->f j<b)(he:∀s,t<s->s<n->f s=g s)(ab:f t<g t):Dg.num b f n<Dg.num b g n:=by
 have key:∀ (h:Nat->Nat),Dg.num b h n=Dg.num b h t+(h t+Dg.num b (fun i=>h (t+1+i)) (n-(t+1))*b)*b^t:=fun h=>by
  have h1:=Dg.yZ (b:=b) h (t+1) (n-(t+1))
  rw[show t+1+(n-(t+1))=n by omega]at h1
  rw[h1]
  show Dg.num b h t+h t*b^t+_=_
  rw[br,cw,eZ,bJ (b^t) b,xP]
 rw[key f,key g]
 have h2:Dg.num b (fun i=>f (t+1+i)) (n-(t+1))=Dg.num b (fun i=>g (t+1+i)) (n-(t+1)):=Dg.jP _ fun i hi=>he _ (by omega) (by omega)
 rw[h2]
 generalize Dg.num b (fun i=>g (t+1+i)) (n-(t+1))*b=Z
 have h3:Dg.num b f t<b^t:=Dg.uM t fun i hi=>hf i (by omega)
 have h4:(f t+1+Z)*b^t<=(g t+Z)*b^t:=ea _ (by omega)
 have h5:(f t+1+Z)*b^t=(f t+Z)*b^t+b^t:=by rw[show f t+1+Z=f t+Z+1 by omega,HJ]
 omega
end Go.Vg
namespace Go.Proofs.YtfocopihipejfaaGreat
open Go.Vg Go.RowKit
set_option maxRecDepth 200000
set_option cbv.maxSteps 100000000
theorem pU{P:Program}(hP:P=Tryz.prog)(f:Nat->Nat)(m c r:Nat)(hm:m<=c)(cU:m<2^40)(hr:r=tl f m):ah P 69 [.slice 0 0 m c] [⟨0,hs f c,88⟩] 1 [] (fun w _ _=>w= .slice 0 0 r c):=by
 obtain⟨C,hC⟩:=aa (hs f c)
 have bC:∀m,an m C=true:=fun m=>by rw[hC];exact dG f c m
 rw[<-hC]
 refine aq hP Tryz.func69 ⟨ao rfl,trivial⟩ (by simpa [ay,bd]using ak _ (bC 1)) ?_
 intro A g K hA hg hK
 obtain⟨bin,_,cmp,_,_,ix,_,_,_,_,_,_,_,_,nat,off,get,_,sub⟩:=A
 have f1:∀k,0<k->cmp .gtr (.ofNat k) 0=true:=fun k h=>po hA (b:=0) h
 have iD:∀k,¬0<k->cmp .gtr (.ofNat k) 0=false:=fun k h=>jV hA (b:=0) h
 have f2:∀k l,k=l+1->k<=m->bin .sub .i64 (.ofNat k) 1=Int.ofNat l:=fun k l h h2=>(er hA (a:=k) (b:=1) (by omega) (by omega)).trans (by rw[h,oC])
 have f3:∀k,k<m->ix (.ofNat k) m=some k:=fun k h=>bB hA h
 have f4:∀k,off 0 k 1=k:=fun k=>(dh hA 0 k 1).trans (by omega)
 have f5:∀k,k<c->get C k=some (.int .u32 (.ofNat (f k))):=fun k h=>by rw[hC];exact ei hA .u32 f h
 have f6:∀k,f k=0->cmp .eql (.ofNat (f k)) 0=true:=fun k h=>iP hA (b:=0) h
 have f6f:∀k,f k≠0->cmp .eql (.ofNat (f k)) 0=false:=fun k h=>ja hA (b:=0) h
 have e0:nat m=Int.ofNat m:=fZ hA m
 have qY:∀k,k<=m->oF P 23 (.slice 0 0 m c) none (some (.i64,Int.ofNat k)) (.slice 0 0 k c):=fun k h=>G8 (hP▸aI) (show av 23=some _ from rfl) rfl 0 0 m c (j:=k) (by omega)
 clear hC
 cbv
 rw[e0]
 refine bH Nat (fun k=>k<=m/\tl f k=r) (fun k=>k) (fun k=> [(3,.int .i64 (.ofNat k))]) [0,2] (fun _=> []) m ⟨aE _,hr.symm⟩ ?_ ?_
 ·exact aS (by repeat' (first|exact trivial|refine⟨rfl,rfl,rfl,?_⟩|refine⟨rfl,rfl,bC 1,?_⟩))
 rintro k ⟨hk,ht⟩
 by_cases h0:0<k
 ·obtain⟨l,hl⟩:∃l,k=l+1:=⟨k-1,by omega⟩
  by_cases hz:f l=0
  ·cbv
   rw[f1 k h0]
   cbv
   rw[f2 k l hl hk]
   cbv
   rw[f3 l (by omega)]
   cbv
   rw[f4,f5 l (by omega)]
   cbv
   rw[f6 l hz]
   cbv
   rw[f2 k l hl hk]
   refine⟨l,_root_.id,⟨by omega,?_⟩,(by omega),?_⟩
   ·rw[<-ht,hl,show tl f (l+1)=if f l=0 then tl f l else l+1 from rfl,aj hz]
   exact aS (by repeat' (first|exact trivial|refine⟨rfl,rfl,rfl,?_⟩|refine⟨rfl,rfl,bC 1,?_⟩))
  ·cbv
   rw[f1 k h0]
   cbv
   rw[f2 k l hl hk]
   cbv
   rw[f3 l (by omega)]
   cbv
   rw[f4,f5 l (by omega)]
   cbv
   rw[f6f l hz]
   cbv
   refine rS hg rfl rfl rfl rfl rfl (qY k hk) ?_
   cbv
   refine hK _ _ _ ?_
   rw[<-ht,hl,show tl f (l+1)=if f l=0 then tl f l else l+1 from rfl,af hz]
   rfl
 ·have hkr:k=r:=by rw[<-ht,show k=0 by omega];rfl
  cbv
  rw[iD k h0]
  cbv
  refine rS hg rfl rfl rfl rfl rfl (qY k hk) ?_
  cbv
  refine hK _ _ _ ?_
  rw[hkr]
  rfl
theorem zA{P:Program}(hP:P=Tryz.prog)(f:Nat->Nat)(n c i d:Nat)(hn:n<=c)(hw:∀j,j<c->f j<4294967296)(hd:d=if i<n then f i else 0):ah P 54 [.slice 0 0 n c,.int .i64 (.ofNat i)] [⟨0,hs f c,88⟩] 1 [] (fun w _ _=>w= .int .u64 (.ofNat d)):=by
 obtain⟨C,hC⟩:=aa (hs f c)
 have bC:∀m,an m C=true:=fun m=>by rw[hC];exact dG f c m
 rw[<-hC]
 refine aq hP Tryz.func54 ⟨ao rfl,⟨trivial,trivial⟩⟩ (by simpa [ay,bd]using ak _ (bC 1)) ?_
 intro A g K hA hg hK
 obtain⟨_,_,cmp,_,aX,ix,_,_,_,_,_,_,_,_,nat,off,get⟩:=A
 have e0:nat n=Int.ofNat n:=fZ hA n
 have f4:off 0 i 1=i:=(dh hA 0 i 1).trans (by omega)
 cbv
 rw[e0]
 by_cases h:i<n
 ·have f1:cmp .lss (.ofNat i) (.ofNat n)=true:=cZ hA h
  have f3:ix (.ofNat i) n=some i:=bB hA h
  have f5:get C i=some (.int .u32 (.ofNat (f i))):=by rw[hC];exact ei hA .u32 f (by omega)
  have f6:aX .u64 (.ofNat (f i))=Int.ofNat (f i):=nQ hA (fun h=>by cases h) (fun _=>by have:=hw i (by omega);show f i<0x10000000000000000;omega)
  clear hC
  rw[f1]
  cbv
  rw[f3]
  cbv
  rw[f4,f5]
  cbv
  rw[f6]
  refine hK _ _ _ ?_
  rw[hd,aj h]
  rfl
 ·rw[show cmp .lss (.ofNat i) (.ofNat n)=false from bM hA h]
  cbv
  refine hK _ _ _ ?_
  rw[hd,af h]
  rfl
theorem agD{P:Program}(hP:P=Tryz.prog)(i:Nat):ah P 54 [.au,.int .i64 (.ofNat i)] [] 0 [] (fun w _ _=>w= .int .u64 0):=by
 refine aq hP Tryz.func54 (ak _ rfl) (aD rfl) ?_
 intro A g K hA hg hK
 obtain⟨_,_,cmp⟩:=A
 cbv
 rw[show cmp .lss (.ofNat i) 0=false from bM hA (b:=0) (mh i)]
 cbv
 exact hK _ _ _ rfl
theorem MA{P:Program}(hP:P=Tryz.prog){n c x m e y:Nat}{f u:Nat->Nat}(hx:Nm n c f x)(hy:Nm m e u y)(hn:n<2^40)(r:Int)(h1:x<y->r= -1)(h2:x=y->r=0)(h3:y<x->r=1):
 ah P 30 [.slice 0 0 n c,.slice 1 0 m e] [⟨0,hs f c,88⟩,⟨1,hs u e,88⟩] 2 [] (fun w _ _=>w= .int .i64 r):=by
 obtain⟨C,hC⟩:=aa (hs f c)
 have bC:∀m,an m C=true:=fun m=>by rw[hC];exact dG f c m
 obtain⟨E,hE⟩:=aa (hs u e)
 have bE:∀m,an m E=true:=fun m=>by rw[hE];exact dG u e m
 rw[<-hC,<-hE]
 obtain⟨IV,jL⟩:=aa (fun j:Nat=>(n:Int)-1-(j:Int):Nat->Int)
 have iv:∀j,j<n->IV j=Int.ofNat (n-1-j):=fun j h=>by rw[jL];show(n:Int)-1-(j:Int)=((n-1-j:Nat):Int);omega
 have Kx:IV n= -1:=by rw[jL];show(n:Int)-1-(n:Int)= -1;omega
 have oY:IntKind.i64.wrap ((n:Int)-1)=IV 0:=by rw[jL,IntKind.wrap_i64];show _=(n:Int)-1-((0:Nat):Int);omega
 refine aq hP Tryz.func30 ⟨ao rfl,⟨ao rfl,trivial⟩⟩ (by simpa [ay,bd]using⟨ak _ (bC 2),ak _ (bE 2)⟩) ?_
 intro A g K hA hg hK
 obtain⟨bin,_,cmp,_,_,ix,_,_,_,_,_,_,_,_,nat,off,get,_,sub⟩:=A
 have e0:∀n,nat n=Int.ofNat n:=fun n=>fZ hA n
 have hb:bin=jH:=qQ hA
 have e1:bin .sub .i64 (.ofNat n) 1=IV 0:=by rw[hb];exact oY
 have e2:∀j,j<n->bin .sub .i64 (IV j) 1=IV (j+1):=fun j h=>by
  rw[hb,jL]
  show IntKind.i64.wrap ((n:Int)-1-(j:Int)-1)=(n:Int)-1-((j+1:Nat):Int)
  rw[IntKind.wrap_i64];omega
 have e3:∀j,cmp .geq (.ofNat j) 0=true:=fun j=>kC hA (b:=0) (bf _)
 have wg:cmp .geq (-1) 0=false:=(bg (bg (bg (kA hA) .geq) (-1)) 0).trans rfl
 have e4:∀j,off 0 j 1=j:=fun j=>(dh hA 0 j 1).trans (by omega)
 have f5:∀k,k<c->get C k=some (.int .u32 (.ofNat (f k))):=fun k h=>by rw[hC];exact ei hA .u32 f h
 have g5:∀k,k<e->get E k=some (.int .u32 (.ofNat (u k))):=fun k h=>by rw[hE];exact ei hA .u32 u h
 have l8:=hx.le
 have hme:=hy.le
 clear hC hE
 cbv
 rw[e0,e0]
 by_cases uD:n=m
 ·rw[show cmp .neq (.ofNat n) (.ofNat m)=false from ow hA uD]
  cbv
  rw[e0,e1]
  refine bH Nat (fun j=>j<=n/\∀t,n-j<=t->t<n->f t=u t) (fun j=>n-j) (fun j=> [(5,.int .i64 (IV j))]) [0,1,4] (fun _=> []) 0 ⟨bf _,fun t h1 h2=>by omega⟩ ?_ ?_
  ·exact aS (by repeat' (first|exact trivial|refine⟨rfl,rfl,rfl,?_⟩|refine⟨rfl,rfl,bC 2,?_⟩|refine⟨rfl,rfl,bE 2,?_⟩))
  rintro j ⟨hj,NK⟩
  by_cases Tt:j<n
  ·obtain⟨t,ht⟩:=aa (n-1-j)
   have iT:=iv j Tt
   rw[<-ht]at iT
   have htx:ix (.ofNat t) n=some t:=bB hA (by omega)
   have hty:ix (.ofNat t) m=some t:=bB hA (by omega)
   have g1:=e3 t
   have g2:=e2 j Tt
   have c1:=f5 t (by omega)
   have c2:=g5 t (by omega)
   rw[iT]at g2
   rw[iT]
   cbv
   rw[g1]
   cbv
   refine cf hP hA hg fun mk _=> ?_
   cbv
   rw[htx]
   cbv
   rw[e4,c1]
   cbv
   rw[hty]
   cbv
   rw[e4,c2]
   cbv
   by_cases Tf:f t=u t
   ·rw[show cmp .neq (.ofNat (f t)) (.ofNat (u t))=false from ow hA Tf]
    cbv
    rw[g2]
    refine⟨j+1,_root_.id,⟨Tt,fun t' h3 h4=> ?_⟩,(by omega),?_⟩
    ·by_cases h:t'=t
     ·rw[h,Tf]
     ·exact NK t' (by omega) h4
    exact aS (by repeat' (first|exact trivial|refine⟨rfl,rfl,rfl,?_⟩|refine⟨rfl,rfl,bC 2,?_⟩|refine⟨rfl,rfl,bE 2,?_⟩))
   ·have ab:f t<u t->x<y:=fun h=>by
     rw[<-hx.v,<-hy.v,<-uD];exact acS (t:=t) (by omega) (fun i hi=>hx.w i (by omega)) (fun s h3 h4=>NK s (by omega) h4) h
    have Ti:u t<f t->y<x:=fun h=>by
     rw[<-hx.v,<-hy.v,<-uD];exact acS (t:=t) (by omega) (fun i hi=>hy.w i (by omega)) (fun s h3 h4=>(NK s (by omega) h4).symm) h
    rw[show cmp .neq (.ofNat (f t)) (.ofNat (u t))=true from yX hA Tf]
    cbv
    refine cf hP hA hg fun mk _=> ?_
    cbv
    rw[htx]
    cbv
    rw[e4,c1]
    cbv
    rw[hty]
    cbv
    rw[e4,c2]
    cbv
    by_cases hl:f t<u t
    ·rw[show cmp .lss (.ofNat (f t)) (.ofNat (u t))=true from cZ hA hl]
     cbv
     refine hK _ _ _ ?_
     rw[h1 (ab hl)]
     rfl
    ·rw[show cmp .lss (.ofNat (f t)) (.ofNat (u t))=false from bM hA hl]
     cbv
     refine hK _ _ _ ?_
     rw[h3 (Ti (by omega))]
     rfl
  ·have mM:x=y:=by
    rw[<-hx.v,<-hy.v,<-uD];exact Dg.jP n fun t ht=>NK t (by omega) ht
   obtain rfl:j=n:=by omega
   rw[Kx]
   cbv
   rw[wg]
   cbv
   refine hK _ _ _ ?_
   rw[h2 mM]
   rfl
 ·rw[show cmp .neq (.ofNat n) (.ofNat m)=true from yX hA uD]
  cbv
  by_cases ab:n<m
  ·have mM:x<y:=by
    rcases hy.sz.2 with h0|h0
    ·omega
    ·exact cg hx.lt (eH (cV (by decide) (by omega)) h0)
   rw[e0,e0,show cmp .lss (.ofNat n) (.ofNat m)=true from cZ hA ab]
   cbv
   refine hK _ _ _ ?_
   rw[h1 mM]
   rfl
  ·have mM:y<x:=by
    rcases hx.sz.2 with h0|h0
    ·omega
    ·exact cg hy.lt (eH (cV (by decide) (by omega)) h0)
   rw[e0,e0,show cmp .lss (.ofNat n) (.ofNat m)=false from bM hA ab]
   cbv
   refine hK _ _ _ ?_
   rw[h3 mM]
   rfl
end Go.Proofs.YtfocopihipejfaaGreat
