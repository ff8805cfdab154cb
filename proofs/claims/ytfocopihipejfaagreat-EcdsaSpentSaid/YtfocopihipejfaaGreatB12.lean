/-
  This text proves what these texts prove: Nk, Of, Fa, Fb, Fc, Fd, Fe, Ca, Cb. Conditions: those of each theorem.
-/
import Derived.Test.YtfocopihipejfaaGreatB10
import Derived.Test.YtfocopihipejfaaGreatB11
set_option maxHeartbeats 8000000
set_option linter.all false
namespace Go.Proofs.YtfocopihipejfaaGreat
open Go.Vg Go.RowKit
set_option maxRecDepth 200000
set_option cbv.maxSteps 100000000
theorem alv{x y c M:Nat}(h:(x+c)%M=(y+c)%M):x%M=y%M:=by
 have h1:((x:Int)+c)%M=((y:Int)+c)%M:=by exact_mod_cast aK (Nat.cast (R:=Int)) h
 have h2:=(Int.emod_add_cancel_right (c:Int)).1 h1
 exact_mod_cast h2
theorem abQ{a M o w s t less next:Nat}(hs:s*a%M=o%M)(ht:t*a%M=w%M)(hl:less=o/w*t%M)(hn:next+less=s\/next+less=s+M):next*a%M=o%w%M:=by
 apply alv (c:=less*a)
 have h1:(next*a+less*a)%M=o%M:=by
  rw[<-cw]
  rcases hn with h|h
  ·rw[h];exact hs
  ·rw[h,cw,CO];exact hs
 have h2:less*a%M=o/w*w%M:=by
  rw[hl,kM,xR,<-kM,eZ,kM,ht,<-kM]
 rw[h1,sf,h2,<-sf,oB,bJ,gN]
theorem akw{s i a M:Nat}(hs:s<M)(hi:i<M)(h1:s*a%M=1)(h2:i*a%M=1)(hM:2<=M):s=i:=by
 have e1:s*(i*a)%M=s:=by
  rw[kM,h2,fh,xR,aO hs]
 have e2:i*(s*a)%M=i:=by
  rw[kM,h1,fh,xR,aO hi]
 exact e1.symm.trans ((aK (· %M) (L6 s i a)).trans e2)
theorem aqG{s less M B r:Nat}(hs:s<M)(hl:less<M)(hM:M<=B)(hr:r=(s+B-less)%B):(¬s<less->r+less=s/\r<M)/\(s<less->(r+M)%B+less=s+M/\(r+M)%B<M):=by
 constructor
 ·intro h
  have:r=s-less:=by rw[hr,show s+B-less=(s-less)+B by omega,vg,aO (by omega)]
  omega
 ·intro h
  have h1:r=s+B-less:=by rw[hr,aO (by omega)]
  have h2:(r+M)%B=s+M-less:=by rw[h1,show s+B-less+M=(s+M-less)+B by omega,vg,aO (by omega)]
  omega
section
theorem Bq{P:Program}(hP:P=Tryz.prog){g:G}{o:Oper}{x y:Operand}{yt:TypeId}{N m0:Nat}{ms:List Nat}(hg:GI g m0 ms N)(aA:dD N o.dst=true){F:Nat->Option SV}{M:Nat->Option aC}{a b:Nat->Nat}{r:Bool}
 (ho:(o.op= .binOp .neq 31 x y yt/\r= !lP a b)\/(o.op= .binOp .eql 31 x y yt/\r=lP a b))
 (hx:ev F x=some (.agg (ws a 9))) (hy:ev F y=some (.agg (ws b 9))):EN g P o F M (.bool r) []:=by
 subst hP
 refine Is hg aA fun β p F' L' act W hF hM hm hf=> ?_
 have E:∀z∈o.op.operands.toList,ev F' z=ev F z:=fun z hz=>FG fun t ht=>hF t (EU hz ht)
 have h4:Tryz.prog.eqGuardType Tryz.prog.depth 31=false:=by kernel_rfl
 rcases ho with⟨ho,hr⟩|⟨ho,hr⟩
 ·rw[ho]at E
  obtain⟨e1,_⟩:=cq hf ((E x (by simp[Op.operands])).trans hx)
  obtain⟨e2,_⟩:=cq hf ((E y (by simp[Op.operands])).trans hy)
  refine⟨?_,trivial⟩
  have h1:act.eval x= .agg (qI a):=e1
  have h2:act.eval y= .agg (qI b):=e2
  have h3:∀xs ys,(eqGuard .neq 31 x y (.agg xs) (.agg ys)).run Tryz.prog W= .ok () W:=fun xs ys=>run_eqGuard_agg W .neq 31 x y xs ys h4
  unfold execOp
  simp only[ho,h1,h2,Sem.run_bind,h3,Result.andThen_ok,run_neq_struct,MN,Sem.run_pure,den,hr]
 ·rw[ho]at E
  obtain⟨e1,_⟩:=cq hf ((E x (by simp[Op.operands])).trans hx)
  obtain⟨e2,_⟩:=cq hf ((E y (by simp[Op.operands])).trans hy)
  refine⟨?_,trivial⟩
  have h1:act.eval x= .agg (qI a):=e1
  have h2:act.eval y= .agg (qI b):=e2
  have h3:∀xs ys,(eqGuard .eql 31 x y (.agg xs) (.agg ys)).run Tryz.prog W= .ok () W:=fun xs ys=>run_eqGuard_agg W .eql 31 x y xs ys h4
  unfold execOp
  simp only[ho,h1,h2,Sem.run_bind,h3,Result.andThen_ok,run_eql_struct,MN,Sem.run_pure,den,hr]
end
theorem Zk{P:Program}(hP:P=Tryz.prog)(a m i:Nat->Nat)(ha:Wn 9 a)(hm:Wn 9 m)(hi:Wn 9 i)(cU:2<=V 9 m)(e:Int)
 (h1:Nat.gcd (V 9 a) (V 9 m)=1->V 9 i<V 9 m/\V 9 i*V 9 a%V 9 m=1/\e=0) (h2:Nat.gcd (V 9 a) (V 9 m)≠1->V 9 i=0/\e=401):
 ah P 152 [.agg (ws a 9),.agg (ws m 9)] [] 0 [] (fun v _ _=>v= .aR [.agg (ws i 9),.int .i64 e]):=by
 have iH:0<V 9 m:=by omega
 obtain⟨n,hn⟩:=A9 m 9
 have An:0<n:=by
  rcases Nat.eq_zero_or_pos n with h|h
  ·rw[xV hn,h]at iH;exact absurd iH (iO 0)
  ·exact h
 have hZ:=ME hP m hm false (da (Nat.pos_iff_ne_zero.1 iH)).symm
 obtain⟨q0,mE,abi⟩:=cD 9 (V 9 a/V 9 m) (eB (gq _ _) (eg ha))
 obtain⟨r0,cC,N0⟩:=cD 9 (V 9 a%V 9 m) (cT (ax _ iH) (eg hm))
 have hDiv:=QJ hP a m q0 r0 ha hm iH mE cC abi N0
 obtain⟨one,RC⟩:=aa (fun j=>if j=0 then 1 else 0:Nat->Nat)
 have M':=zB hP 1 (by decide) one RC
 have NV:Wn 9 one:=fun j _=>by rw[RC];show(if j=0 then 1 else 0)<_;split<;>decide
 have BQ:V 9 one=1:=by rw[RC];rfl
 obtain⟨d,sh0,hD,uj⟩:=Mt hP m n hm hn An
 refine aq hP Tryz.func152 (ak _ rfl) (aD rfl) ?_
 intro A g K hA hg hK
 obtain⟨_,_,_,_,_,_,_,_,fQ⟩:=A
 cbv
 refine fT rfl hg rfl rfl hZ (fun l=>l+1) rfl ⟨rfl,trivial⟩ ?_
 rintro _ _ _ rfl
 cbv
 refine fe rfl hg rfl rfl hDiv ?_
 rintro _ _ _ rfl
 cbv
 refine EG (hP▸aI) hA hg (hP▸mixed) rfl rfl ?_
 cbv
 refine fe rfl hg rfl rfl M' ?_
 rintro _ _ _ rfl
 cbv
 refine gQ rfl hg rfl rfl uj id rfl trivial rfl rfl rfl ?_
 rintro _ _ _ ⟨rfl,rfl,rfl⟩ _
 cbv
 obtain⟨B,hB⟩:=aa (0x10000000000000000^9)
 have hmB:V 9 m<B:=by rw[hB];exact eg hm
 refine bH ((Nat->Nat)×(Nat->Nat)×(Nat->Nat)×(Nat->Nat)) (fun σ=>Wn 9 σ.1/\Wn 9 σ.2.1/\Wn 9 σ.2.2.1/\Wn 9 σ.2.2.2/\Nat.gcd (V 9 σ.1) (V 9 σ.2.1)=Nat.gcd (V 9 a) (V 9 m)/\V 9 σ.2.2.1*V 9 a%V 9 m=V 9 σ.1%V 9 m/\V 9 σ.2.2.2*V 9 a%V 9 m=V 9 σ.2.1%V 9 m/\V 9 σ.2.2.1<V 9 m/\V 9 σ.2.2.2<V 9 m) (fun σ=>V 9 σ.2.1)
  (fun σ=> []) [3,4,9,10,11,12,13] (fun σ=> [(5,ws σ.1 9),(6,ws σ.2.1 9),(7,ws σ.2.2.1 9),(8,ws σ.2.2.2 9)]) (m,r0,(fun _=>0),one) ⟨hm,cC,(fun _ _=>by show 0<_;decide),NV,?_,?_,?_,?_,?_⟩ ?_ ?_
 ·show Nat.gcd (V 9 m) (V 9 r0)=_
  rw[N0,Fi (V 9 m),<-HD,Fi]
 ·show V 9 (fun _=>0)*V 9 a%V 9 m=V 9 m%V 9 m
  rw[show V 9 (fun _=>0)=0 from rfl,fE,Yx,zq]
 ·show V 9 one*V 9 a%V 9 m=V 9 r0%V 9 m
  rw[BQ,fN,N0,xR]
 ·show V 9 (fun _=>0)<V 9 m
  exact iH
 ·show V 9 one<V 9 m
  rw[BQ];exact cU
 ·exact a_
 clear hDiv abi N0
 rintro⟨o,w,s,t⟩ ⟨d_,rE,b9,gJ,NH,abw,abB,abq,abA⟩
 have ho:Wn 9 o:=d_
 have hw:Wn 9 w:=rE
 have hs:Wn 9 s:=b9
 have ht:Wn 9 t:=gJ
 have hgc:Nat.gcd (V 9 o) (V 9 w)=Nat.gcd (V 9 a) (V 9 m):=NH
 have qo:V 9 s*V 9 a%V 9 m=V 9 o%V 9 m:=abw
 have BX:V 9 t*V 9 a%V 9 m=V 9 w%V 9 m:=abB
 have hsM:V 9 s<V 9 m:=abq
 have htM:V 9 t<V 9 m:=abA
 clear d_ rE b9 gJ NH abw abB abq abA
 by_cases mL:V 9 w=0
 ·cbv
  refine fT rfl hg rfl rfl (ME hP w hw true (eh mL).symm) (fun l=>l+6) rfl ⟨rfl,trivial⟩ ?_
  rintro _ _ _ rfl
  cbv
  rw[show fQ true=false from ln hA true]
  cbv
  have Jz:V 9 o=Nat.gcd (V 9 a) (V 9 m):=by rw[<-hgc,mL,Nat.gcd_zero_right]
  have b_:V 9 m≠1:=by omega
  refine cm hP hA hg ?_
  by_cases wU:V 9 o=1
  ·obtain⟨i1,i2,i3⟩:=h1 (by rw[<-Jz];exact wU)
   have uH:ws i 9=ws s 9:=kx hi hs (akw i1 hsM i2 (by rw[qo,wU];exact aO cU) cU)
   cbv
   refine bN hg M' ?_
   cbv
   refine eV (Bq hP hg rfl (a:=o) (b:=one) (r:=false) (Or.inl ⟨rfl,by rw[ug ho NV,BQ,eh wU];rfl⟩) rfl rfl) ?_
   cbv
   refine bN hg M' ?_
   cbv
   refine eV (Bq hP hg rfl (a:=m) (b:=one) (r:=false) (Or.inr ⟨rfl,by rw[ug hm NV,BQ,da b_]⟩) rfl rfl) ?_
   cbv
   refine hK _ _ _ ?_
   rw[uH,i3]
   rfl
  ·obtain⟨i1,i2⟩:=h2 (by rw[<-Jz];exact wU)
   have uH:ws i 9=ws (fun _=>0) 9:=kx (g:=fun _=>0) hi (fun _ _=>by show 0<_;decide) (i1.trans rfl)
   cbv
   refine bN hg M' ?_
   cbv
   refine eV (Bq hP hg rfl (a:=o) (b:=one) (r:=true) (Or.inl ⟨rfl,by rw[ug ho NV,BQ,da wU];rfl⟩) rfl rfl) ?_
   cbv
   refine hK _ _ _ ?_
   rw[uH,i2]
   rfl
 ·have kI:0<V 9 w:=vF mL
  obtain⟨q,hq,mF⟩:=cD 9 (V 9 o/V 9 w) (eB (gq _ _) (eg ho))
  obtain⟨r,hr,cG⟩:=cD 9 (V 9 o%V 9 w) (cT (ax _ kI) (eg hw))
  obtain⟨l,hl,NQ⟩:=cD 9 (V 9 q*V 9 t%V 9 m) (cT (ax _ iH) (eg hm))
  have hlM:V 9 l<V 9 m:=by rw[NQ];exact ax _ iH
  obtain⟨c,hc,wI⟩:=cD 9 ((V 9 s+0x10000000000000000^9-V 9 l)%0x10000000000000000^9) (ax _ (ew (by decide)))
  obtain⟨f1,f2⟩:=aqG (B:=B) (r:=V 9 c) hsM hlM (ku hmB) (by rw[hB];exact wI)
  have Tg:Nat.gcd (V 9 w) (V 9 r)=Nat.gcd (V 9 a) (V 9 m):=by
   rw[cG,Fi (V 9 w),<-HD,Fi];exact hgc
  have abm:V 9 r<V 9 w:=by rw[cG];exact ax _ kI
  cbv
  refine fT rfl hg rfl rfl (ME hP w hw false (da mL).symm) (fun l=>l+6) rfl ⟨rfl,trivial⟩ ?_
  rintro _ _ _ rfl
  cbv
  rw[show fQ false=true from ln hA false]
  cbv
  refine fe rfl hg rfl rfl (QJ hP o w q r ho hw kI hq hr mF cG) ?_
  rintro _ _ _ rfl
  cbv
  refine EG (hP▸aI) hA hg (hP▸mixed) rfl rfl ?_
  cbv
  refine fT rfl hg rfl rfl (Fy hP m d n sh0 hD q t l hq ht hl NQ) (fun l=>l+11) rfl ⟨rfl,trivial⟩ ?_
  rintro _ _ _ rfl
  cbv
  by_cases hu:V 9 s<V 9 l
  ·obtain⟨x,hx,AG⟩:=cD 9 ((V 9 c+V 9 m)%0x10000000000000000^9) (ax _ (ew (by decide)))
   have f3:=f2 hu
   rw[hB,<-AG]at f3
   refine fe rfl hg rfl rfl (Dh hP s l c hs hl hc true wI (eh hu).symm) ?_
   rintro _ _ _ rfl
   cbv
   obtain⟨o2,nj⟩:=aa (decide (0x10000000000000000^9<=V 9 c+V 9 m))
   refine fe rfl hg rfl rfl (Ms hP c m x hc hm hx o2 AG nj) ?_
   rintro _ _ _ rfl
   cbv
   refine EG (hP▸aI) hA hg (hP▸mixed) rfl rfl ?_
   cbv
   refine⟨(w,r,t,x),id,⟨hw,hr,ht,hx,Tg,BX,?_,htM,f3.2⟩,abm,?_⟩
   ·show V 9 x*V 9 a%V 9 m=V 9 r%V 9 m
    rw[cG];exact abQ qo BX (by rw[NQ,mF]) (Or.inr f3.1)
   ·exact a_
  ·have f3:=f1 hu
   refine fe rfl hg rfl rfl (Dh hP s l c hs hl hc false wI (da hu).symm) ?_
   rintro _ _ _ rfl
   cbv
   refine EG (hP▸aI) hA hg (hP▸mixed) rfl rfl ?_
   cbv
   refine⟨(w,r,t,c),id,⟨hw,hr,ht,hc,Tg,BX,?_,htM,f3.2⟩,abm,?_⟩
   ·show V 9 c*V 9 a%V 9 m=V 9 r%V 9 m
    rw[cG];exact abQ qo BX (by rw[NQ,mF]) (Or.inl f3.1)
   ·exact a_
theorem QM{P:Program}(hP:P=Tryz.prog)(m rr a:Nat->Nat)(n less:Nat)(hm:Wn 9 m)(ha:Wn 9 a)(h:V 9 a<V 9 m):
 ah P 150 [.ptr 0 0,.slice 1 0 1 1] [⟨0,nE m n less rr,220⟩,⟨1,ws a 9,31⟩] 2 [] (fun v _ _=>v= .int .i64 0):=by
 have hC:=Da hP a m ha hm (-1) (aj h).symm
 refine aq hP Tryz.func150 (ak _ rfl) (aD rfl) ?_
 intro A g K hA hg hK
 obtain⟨bin,_,cmp,_,_,ix,_,_,_,_,_,_,_,_,nat,off,_,_,sub⟩:=A
 have e0:nat 1=Int.ofNat 1:=fZ hA 1
 have l0:cmp .lss (.ofNat 0) (.ofNat 1)=true:=cZ hA (by decide)
 have l1:cmp .lss (.ofNat 1) (.ofNat 1)=false:=bM hA (by decide)
 have x0:ix (.ofNat 0) 1=some 0:=bB hA (by decide)
 have o0:off 0 0 9=0:=dh hA 0 0 9
 have g0:cmp .geq (-1) 0=false:=(bg (bg (bg (kA hA) .geq) (-1)) 0).trans rfl
 have a0:bin .add .i64 (.ofNat 0) 1=Int.ofNat 1:=gP hA (k:=0) (by decide)
 have s0:sub (ws a 9) 0 9=some (ws a 9):=ET hA (C:=ws a 9) (o:=0) (n:=9) (vs:=ws a 9) (by show 9<=9;decide) rfl
 simp only[ws,aw,Nat.reduceAdd]at s0
 cbv
 rw[e0]
 refine bH Nat (fun i=>i<=1) (fun i=>1-i) (fun i=> [(11,.int .i64 (.ofNat i))]) [0,9,10] (fun _=> []) 0 (by decide) ?_ ?_
 ·exact a_
 intro i hi
 obtain rfl|rfl:i=0\/i=1:=by have:i<=1:=hi;omega
 ·cbv
  rw[l0]
  cbv
  rw[x0]
  cbv
  rw[o0,s0]
  cbv
  refine cm hP hA hg ?_
  cbv
  refine bN hg hC ?_
  cbv
  rw[g0]
  cbv
  rw[a0]
  refine⟨1,id,by decide,by decide,?_⟩
  exact a_
 ·cbv
  rw[l1]
  cbv
  exact hK _ _ _ rfl
theorem agp{P:Program}(hP:P=Tryz.prog)(m rr a b:Nat->Nat)(n less:Nat)(hm:Wn 9 m)(ha:Wn 9 a)(hb:Wn 9 b)(h:V 9 a<V 9 m)(h':V 9 b<V 9 m):
 ah P 150 [.ptr 0 0,.slice 1 0 2 2] [⟨0,nE m n less rr,220⟩,⟨1,ws a 9++ws b 9,31⟩] 2 [] (fun v _ _=>v= .int .i64 0):=by
 have hC:=Da hP a m ha hm (-1) (aj h).symm
 have nV:=Da hP b m hb hm (-1) (aj h').symm
 refine aq hP Tryz.func150 (ak _ rfl) (aD rfl) ?_
 intro A g K hA hg hK
 obtain⟨bin,_,cmp,_,_,ix,_,_,_,_,_,_,_,_,nat,off,_,_,sub⟩:=A
 have e0:nat 2=Int.ofNat 2:=fZ hA 2
 have l0:cmp .lss (.ofNat 0) (.ofNat 2)=true:=cZ hA (by decide)
 have l1:cmp .lss (.ofNat 1) (.ofNat 2)=true:=cZ hA (by decide)
 have l2:cmp .lss (.ofNat 2) (.ofNat 2)=false:=bM hA (by decide)
 have x0:ix (.ofNat 0) 2=some 0:=bB hA (by decide)
 have x1:ix (.ofNat 1) 2=some 1:=bB hA (by decide)
 have o0:off 0 0 9=0:=dh hA 0 0 9
 have o1:off 0 1 9=9:=dh hA 0 1 9
 have g0:cmp .geq (-1) 0=false:=(bg (bg (bg (kA hA) .geq) (-1)) 0).trans rfl
 have a0:bin .add .i64 (.ofNat 0) 1=Int.ofNat 1:=gP hA (k:=0) (by decide)
 have a1:bin .add .i64 (.ofNat 1) 1=Int.ofNat 2:=gP hA (k:=1) (by decide)
 have s0:sub (ws a 9++ws b 9) 0 9=some (ws a 9):=ET hA (C:=ws a 9++ws b 9) (o:=0) (n:=9) (vs:=ws a 9) (by show 9<=18;decide) rfl
 have s1:sub (ws a 9++ws b 9) 9 9=some (ws b 9):=ET hA (C:=ws a 9++ws b 9) (o:=9) (n:=9) (vs:=ws b 9) (by show 18<=18;decide) rfl
 simp only[ws,aw,Nat.reduceAdd,du,cM]at s0 s1
 cbv
 rw[e0]
 refine bH Nat (fun i=>i<=2) (fun i=>2-i) (fun i=> [(11,.int .i64 (.ofNat i))]) [0,9,10] (fun _=> []) 0 (by decide) ?_ ?_
 ·exact a_
 intro i hi
 obtain rfl|rfl|rfl:i=0\/i=1\/i=2:=by have:i<=2:=hi;omega
 ·cbv
  rw[l0]
  cbv
  rw[x0]
  cbv
  rw[o0,s0]
  cbv
  refine cm hP hA hg ?_
  cbv
  refine bN hg hC ?_
  cbv
  rw[g0]
  cbv
  rw[a0]
  refine⟨1,id,by decide,by decide,?_⟩
  exact a_
 ·cbv
  rw[l1]
  cbv
  rw[x1]
  cbv
  rw[o1,s1]
  cbv
  refine cm hP hA hg ?_
  cbv
  refine bN hg nV ?_
  cbv
  rw[g0]
  cbv
  rw[a1]
  refine⟨2,id,by decide,by decide,?_⟩
  exact a_
 ·cbv
  rw[l2]
  cbv
  exact hK _ _ _ rfl
section
variable {P:Program}(hP:P=Tryz.prog){m rr:Nat->Nat}{n less:Nat}(dr:Mo m n less rr)
include hP dr
theorem Zo(a r:Nat->Nat)(ha:Wn 9 a)(hr:Wn 9 r)(sR:V 9 a<V 9 m)(yN:V 9 r<V 9 m)(cG:V 9 r*0x10000000000000000^n%V 9 m=V 9 a*V 9 rr%V 9 m):
 ah P 113 [.ptr 0 0,.agg (ws a 9)] [⟨0,nE m n less rr,220⟩] 1 [] (fun v _ _=>v= .aR [.agg (ws r 9),.int .i64 0]):=by
 have hR:=Ie hP m rr n less dr a rr r ha dr.wr hr sR (by rw[dr.rr];exact ax _ (by have:=dr.m1;omega)) yN cG
 have zY:=QM hP m rr a n less dr.wm ha sR
 refine aq hP Tryz.func113 (ak _ rfl) (aD rfl) ?_
 intro A g K hA hg hK
 obtain⟨_,_,cmp⟩:=A
 have n0:cmp .neq 0 0=false:=ow hA (a:=0) (b:=0) rfl
 cbv
 refine aZ hg zY (fun l=>if l=0 then 0 else 3) ⟨rfl,rfl,trivial⟩ ?_
 cbv
 rw[n0]
 cbv
 refine cm hP hA hg ?_
 cbv
 refine aY hg hR (fun l=>l) ⟨rfl,trivial⟩ ?_
 cbv
 exact hK _ _ _ rfl
theorem agj(a r:Nat->Nat)(ha:Wn 9 a)(hr:Wn 9 r)(sR:V 9 a<V 9 m)(yN:V 9 r<V 9 m)(cG:V 9 r*0x10000000000000000^n%V 9 m=V 9 a%V 9 m):
 ah P 115 [.ptr 0 0,.agg (ws a 9)] [⟨0,nE m n less rr,220⟩] 1 [] (fun v _ _=>v= .aR [.agg (ws r 9),.int .i64 0]):=by
 obtain⟨o,ho⟩:=aa (fun j=>if j=0 then 1 else 0:Nat->Nat)
 have hO:=zB hP 1 (by decide) o ho
 have wo:Wn 9 o:=fun j _=>by rw[ho];show(if j=0 then 1 else 0)<_;split<;>decide
 have vo:V 9 o=1:=by rw[ho];decide +kernel
 have hR:=Ie hP m rr n less dr a o r ha wo hr sR (by rw[vo];exact dr.m1) yN (by rw[cG,vo,fh])
 have zY:=QM hP m rr a n less dr.wm ha sR
 refine aq hP Tryz.func115 (ak _ rfl) (aD rfl) ?_
 intro A g K hA hg hK
 obtain⟨_,_,cmp⟩:=A
 have n0:cmp .neq 0 0=false:=ow hA (a:=0) (b:=0) rfl
 cbv
 refine aZ hg zY (fun l=>if l=0 then 0 else 3) ⟨rfl,rfl,trivial⟩ ?_
 cbv
 rw[n0]
 cbv
 refine cm hP hA hg ?_
 cbv
 refine bN hg hO ?_
 cbv
 refine aY hg hR (fun l=>l) ⟨rfl,trivial⟩ ?_
 cbv
 exact hK _ _ _ rfl
theorem agl(a b r:Nat->Nat)(ha:Wn 9 a)(hb:Wn 9 b)(hr:Wn 9 r)(sR:V 9 a<V 9 m)(n_:V 9 b<V 9 m)(yN:V 9 r<V 9 m)(cG:V 9 r*0x10000000000000000^n%V 9 m=V 9 a*V 9 b%V 9 m):
 ah P 121 [.ptr 0 0,.agg (ws a 9),.agg (ws b 9)] [⟨0,nE m n less rr,220⟩] 1 [] (fun v _ _=>v= .aR [.agg (ws r 9),.int .i64 0]):=by
 have hR:=Ie hP m rr n less dr a b r ha hb hr sR n_ yN cG
 have zY:=agp hP m rr a b n less dr.wm ha hb sR n_
 refine aq hP Tryz.func121 (ak _ rfl) (aD rfl) ?_
 intro A g K hA hg hK
 obtain⟨_,_,cmp⟩:=A
 have n0:cmp .neq 0 0=false:=ow hA (a:=0) (b:=0) rfl
 cbv
 refine aZ hg zY (fun l=>if l=0 then 0 else 4) ⟨rfl,rfl,trivial⟩ ?_
 cbv
 rw[n0]
 cbv
 refine aZ hg hR (fun l=>l) ⟨rfl,trivial⟩ ?_
 cbv
 exact hK _ _ _ rfl
theorem agk(a y x r:Nat->Nat)(ha:Wn 9 a)(hy:Wn 9 y)(hx:Wn 9 x)(hr:Wn 9 r)(sR:V 9 a<V 9 m)(jW:Nat.gcd (V 9 a) (V 9 m)=1)(Og:V 9 y<V 9 m)(xj:V 9 y*V 9 a%V 9 m=1)(hxm:V 9 x<V 9 m)(AG:V 9 x*0x10000000000000000^n%V 9 m=V 9 y*V 9 rr%V 9 m)
 (yN:V 9 r<V 9 m) (cG:V 9 r*0x10000000000000000^n%V 9 m=V 9 x*V 9 rr%V 9 m):
 ah P 114 [.ptr 0 0,.agg (ws a 9)] [⟨0,nE m n less rr,220⟩] 1 [] (fun v _ _=>v= .aR [.agg (ws r 9),.int .i64 0]):=by
 have Gy:V 9 rr<V 9 m:=by rw[dr.rr];exact ax _ (by have:=dr.m1;omega)
 have hI:=Zk hP a m y ha dr.wm hy dr.m1 0 (fun _=>⟨Og,xj,rfl⟩) (fun h=>absurd jW h)
 have hR:=Ie hP m rr n less dr y rr x hy dr.wr hx Og Gy hxm AG
 have dK:=Ie hP m rr n less dr x rr r hx dr.wr hr hxm Gy yN cG
 have zY:=QM hP m rr a n less dr.wm ha sR
 refine aq hP Tryz.func114 (ak _ rfl) (aD rfl) ?_
 intro A g K hA hg hK
 obtain⟨_,_,cmp⟩:=A
 have n0:cmp .neq 0 0=false:=ow hA (a:=0) (b:=0) rfl
 cbv
 refine aZ hg zY (fun l=>if l=0 then 0 else 3) ⟨rfl,rfl,trivial⟩ ?_
 cbv
 rw[n0]
 cbv
 refine cm hP hA hg ?_
 cbv
 refine bN hg hI ?_
 cbv
 rw[n0]
 cbv
 refine cm hP hA hg ?_
 cbv
 refine aY hg hR (fun l=>l) ⟨rfl,trivial⟩ ?_
 cbv
 refine aY hg dK (fun l=>l) ⟨rfl,trivial⟩ ?_
 cbv
 exact hK _ _ _ rfl
end
def qa(p:Nat->Nat)(l:Nat):List SV:=aw .u64 (fun j=>Int.ofNat (p j)) 0 9++[.ptr l 0]
theorem aiE{a b p B c d r:Nat}(ha:a<p)(hb:b<p)(hp:p<B)(hc:c=(a+b)%B)(hd:d=(c+B-p)%B)(hr:r=(a+b)%p):(B<=a+b->c<p/\r=d)/\(¬B<=a+b->c<p->r=c)/\(¬B<=a+b->¬c<p->r=d):=by
 refine⟨fun h=> ?_,fun h h1=> ?_,fun h h1=> ?_⟩
 ·have e1:c=a+b-B:=by rw[hc,HG h,aO (by omega)]
  have e2:d=c+B-p:=by rw[hd,aO (by omega)]
  have e3:r=a+b-p:=by rw[hr,HG (by omega),aO (by omega)]
  omega
 ·have e1:c=a+b:=by rw[hc,aO (by omega)]
  rw[hr,<-e1,aO h1]
 ·have e1:c=a+b:=by rw[hc,aO (by omega)]
  have e2:d=c-p:=by rw[hd,show c+B-p=(c-p)+B by omega,vg,aO (by omega)]
  have e3:r=a+b-p:=by rw[hr,HG (by omega),aO (by omega)]
  omega
theorem aiP{a b p B c d r:Nat}(ha:a<p)(hb:b<p)(hp:p<B)(hc:c=(a+B-b)%B)(hd:d=(c+p)%B)(hr:r=(a+p-b)%p):(a<b->r=d)/\(¬a<b->r=c):=by
 refine⟨fun h=> ?_,fun h=> ?_⟩
 ·have e1:c=a+B-b:=by rw[hc,aO (by omega)]
  have e2:d=a+p-b:=by rw[hd,e1,show a+B-b+p=(a+p-b)+B by omega,vg,aO (by omega)]
  rw[hr,aO (by omega),e2]
 ·have e1:c=a-b:=by rw[hc,show a+B-b=(a-b)+B by omega,vg,aO (by omega)]
  rw[hr,show a+p-b=(a-b)+p by omega,vg,aO (by omega),e1]
theorem lN{P:Program}(hP:P=Tryz.prog)(p a b r:Nat->Nat)(hp:Wn 9 p)(ha:Wn 9 a)(hb:Wn 9 b)(hr:Wn 9 r)(SP:V 9 a<V 9 p)(BF:V 9 b<V 9 p)(cG:V 9 r=(V 9 a+V 9 b)%V 9 p):
 ah P 99 [.ptr 0 0,.agg (ws a 9),.agg (ws b 9)] [⟨0,qa p 1,163⟩] 2 [] (fun v _ _=>v= .agg (ws r 9)):=by
 obtain⟨c,hc,wI⟩:=cD 9 ((V 9 a+V 9 b)%0x10000000000000000^9) (ax _ (ew (by decide)))
 obtain⟨d,hd,ob⟩:=cD 9 ((V 9 c+0x10000000000000000^9-V 9 p)%0x10000000000000000^9) (ax _ (ew (by decide)))
 obtain⟨k1,k2,k3⟩:=aiE SP BF (eg hp) wI ob cG
 have yh:=fun o ho=>Ms hP a b c ha hb hc o wI ho
 have sP:=fun o ho=>Dh hP c p d hc hp hd o ob ho
 generalize hB:(0x10000000000000000^9:Nat)=B at *
 clear wI ob cG
 refine aq hP Tryz.func99 (ak _ rfl) (aD rfl) ?_
 intro A g K hA hg hK
 obtain⟨_,_,_,_,_,_,_,_,fQ⟩:=A
 by_cases ho:B<=V 9 a+V 9 b
 ·obtain⟨h3,h4⟩:=k1 ho
  have e:ws r 9=ws d 9:=kx hr hd h4
  have kR:=yh true (eh ho).symm
  have jC:=sP true (eh h3).symm
  clear yh sP
  cbv
  refine fe rfl hg rfl rfl kR ?_
  rintro _ _ _ rfl
  cbv
  refine cm hP hA hg ?_
  cbv
  refine bN hg jC ?_
  cbv
  refine hK _ _ _ ?_
  rw[e];rfl
 ·by_cases h3:V 9 c<V 9 p
  ·have e:ws r 9=ws c 9:=kx hr hc (k2 ho h3)
   have kR:=yh false (da ho).symm
   have jC:=sP true (eh h3).symm
   clear yh sP
   cbv
   refine fe rfl hg rfl rfl kR ?_
   rintro _ _ _ rfl
   cbv
   refine cm hP hA hg ?_
   cbv
   refine bN hg jC ?_
   cbv
   rw[show fQ true=false from ln hA true]
   cbv
   refine hK _ _ _ ?_
   rw[e];rfl
  ·have e:ws r 9=ws d 9:=kx hr hd (k3 ho h3)
   have kR:=yh false (da ho).symm
   have jC:=sP false (da h3).symm
   clear yh sP
   cbv
   refine fe rfl hg rfl rfl kR ?_
   rintro _ _ _ rfl
   cbv
   refine cm hP hA hg ?_
   cbv
   refine bN hg jC ?_
   cbv
   rw[show fQ false=true from ln hA false]
   cbv
   refine hK _ _ _ ?_
   rw[e];rfl
theorem Fw{P:Program}(hP:P=Tryz.prog)(p a b r:Nat->Nat)(hp:Wn 9 p)(ha:Wn 9 a)(hb:Wn 9 b)(hr:Wn 9 r)(SP:V 9 a<V 9 p)(BF:V 9 b<V 9 p)(cG:V 9 r=(V 9 a+V 9 p-V 9 b)%V 9 p):
 ah P 153 [.ptr 0 0,.agg (ws a 9),.agg (ws b 9)] [⟨0,qa p 1,163⟩] 2 [] (fun v _ _=>v= .agg (ws r 9)):=by
 obtain⟨c,hc,wI⟩:=cD 9 ((V 9 a+0x10000000000000000^9-V 9 b)%0x10000000000000000^9) (ax _ (ew (by decide)))
 obtain⟨d,hd,ob⟩:=cD 9 ((V 9 c+V 9 p)%0x10000000000000000^9) (ax _ (ew (by decide)))
 obtain⟨k1,k2⟩:=aiP SP BF (eg hp) wI ob cG
 have sP:=fun o ho=>Dh hP a b c ha hb hc o wI ho
 have yh:=fun o ho=>Ms hP c p d hc hp hd o ob ho
 generalize hB:(0x10000000000000000^9:Nat)=B at *
 clear wI ob cG
 refine aq hP Tryz.func153 (ak _ rfl) (aD rfl) ?_
 intro A g K hA hg hK
 cases A
 by_cases h3:V 9 a<V 9 b
 ·have e:ws r 9=ws d 9:=kx hr hd (k1 h3)
  have jC:=sP true (eh h3).symm
  obtain⟨o2,nj⟩:=aa (decide (B<=V 9 c+V 9 p))
  have kR:=yh o2 nj
  clear yh sP nj
  cbv
  refine fe rfl hg rfl rfl jC ?_
  rintro _ _ _ rfl
  cbv
  refine cf hP hA hg fun mk _=> ?_
  cbv
  refine bN hg kR ?_
  cbv
  refine hK _ _ _ ?_
  rw[e];rfl
 ·have e:ws r 9=ws c 9:=kx hr hc (k2 h3)
  have jC:=sP false (da h3).symm
  clear yh sP
  cbv
  refine fe rfl hg rfl rfl jC ?_
  rintro _ _ _ rfl
  cbv
  refine hK _ _ _ ?_
  rw[e];rfl
theorem lq{P:Program}(hP:P=Tryz.prog)(p d:Nat->Nat)(n s:Nat)(hD:Dv p d n s)(a b r:Nat->Nat)(ha:Wn 9 a)(hb:Wn 9 b)(hr:Wn 9 r)(cG:V 9 r=V 9 a*V 9 b%V 9 p):
 ah P 109 [.ptr 0 0,.agg (ws a 9),.agg (ws b 9)] [⟨0,qa p 1,163⟩,⟨1,jK d n s,275⟩] 2 [] (fun v _ _=>v= .agg (ws r 9)):=by
 have hM:=Fy hP p d n s hD a b r ha hb hr cG
 refine aq hP Tryz.func109 (ak _ rfl) (aD rfl) ?_
 intro A g K hA hg hK
 cases A
 cbv
 refine cf hP hA hg fun mk _=> ?_
 cbv
 refine aY hg hM (fun l=>l+1) ⟨rfl,trivial⟩ ?_
 cbv
 exact hK _ _ _ rfl
theorem af4{P:Program}(hP:P=Tryz.prog)(p a i:Nat->Nat)(hp:Wn 9 p)(ha:Wn 9 a)(hi:Wn 9 i)(jF:2<=V 9 p)(h1:Nat.gcd (V 9 a) (V 9 p)=1->V 9 i<V 9 p/\V 9 i*V 9 a%V 9 p=1)(h2:Nat.gcd (V 9 a) (V 9 p)≠1->V 9 i=0):
 ah P 154 [.ptr 0 0,.agg (ws a 9)] [⟨0,qa p 1,163⟩] 2 [] (fun v _ _=>v= .agg (ws i 9)):=by
 obtain⟨e,he⟩:=aa (if Nat.gcd (V 9 a) (V 9 p)=1 then 0 else 401:Int)
 have hI:=Zk hP a p i ha hp hi jF e (fun h=>⟨(h1 h).1,(h1 h).2,by rw[he,aj h]⟩) (fun h=>⟨h2 h,by rw[he,af h]⟩)
 clear he
 refine aq hP Tryz.func154 (ak _ rfl) (aD rfl) ?_
 intro A g K hA hg hK
 cases A
 cbv
 refine cm hP hA hg ?_
 cbv
 refine bN hg hI ?_
 cbv
 exact hK _ _ _ rfl
def uy(d:Nat):UInt8:=UInt8.ofNat (if d<10 then 48+d else 87+d)
def eL(x n:Nat):ByteArray:=⟨⟨(List.range n).map fun i=>uy (x/16^(n-1-i)%16)⟩⟩
def f_:Nat->Nat
 |1=>0xfffffffffffffffffffffffffffffffeffffffffffffffff
 |2=>0xffffffffffffffffffffffffffffffff000000000000000000000001
 |3=>0xffffffff00000001000000000000000000000000ffffffffffffffffffffffff
 |4=>0xfffffffffffffffffffffffffffffffffffffffffffffffffffffffffffffffeffffffff0000000000000000ffffffff
 |5=>0x1ffffffffffffffffffffffffffffffffffffffffffffffffffffffffffffffffffffffffffffffffffffffffffffffffffffffffffffffffffffffffffffffffff
 |6=>0xfffffffffffffffffffffffffffffffffffffffffffffffffffffffefffffc2f
 |7=>0xe95e4a5f737059dc60dfc7ad95b3d8139515620f
 |8=>0xd7c134aa264366862a18302575d1d787b09f075797da89f57ec8c0ff
 |9=>0xa9fb57dba1eea9bc3e660a909d838d726e3bf623d52620282013481d1f6e5377
 |10=>0xd35e472036bc4fb7e13c785ed201e065f98fcfa6f6f40def4f92b9ec7893ec28fcd412b1f1b32e27
 |11=>0x8cb91e82a3386d280f5d6f7e50e641df152f7109ed5456b412b1da197fb71123acd3a729901d1a71874700133107ec53
 |12=>0xaadd9db8dbe9c48b3fd4e6ae33c9fc07cb308db3b3c9d20ed6639cca703308717d4d9b009bc66842aecda12ae6a380e62881ff2f2d82c68528aa6056583a48f3
 |13=>251
 |14=>241
 |15=>239
 |_=>0
def j':Nat->Nat
 |1=>48
 |2=>56
 |3=>64
 |4=>96
 |5=>132
 |6=>64
 |7=>40
 |8=>56
 |9=>64
 |10=>80
 |11=>96
 |12=>128
 |13=>2
 |14=>2
 |15=>2
 |_=>0
def O2(x:Int):ByteArray:=
 if x=1 then eL (f_ 1) (j' 1)else if x=2 then eL (f_ 2) (j' 2)else if x=3 then eL (f_ 3) (j' 3)else if x=4 then eL (f_ 4) (j' 4)else if x=5 then eL (f_ 5) (j' 5)else if x=6 then eL (f_ 6) (j' 6)else if x=7 then eL (f_ 7) (j' 7)else if x=8 then eL (f_ 8) (j' 8)else if x=9 then eL (f_ 9) (j' 9)else if x=10 then eL (f_ 10) (j' 10)else if x=11 then eL (f_ 11) (j' 11)else if x=12 then eL (f_ 12) (j' 12)else if x=13 then eL (f_ 13) (j' 13)else if x=14 then eL (f_ 14) (j' 14)else if x=15 then eL (f_ 15) (j' 15)else⟨⟨[]⟩⟩
theorem aoS(k:Nat)(hk:1<=k/\k<=15):O2 (Int.ofNat k)=eL (f_ k) (j' k):=by
 have:k=1\/k=2\/k=3\/k=4\/k=5\/k=6\/k=7\/k=8\/k=9\/k=10\/k=11\/k=12\/k=13\/k=14\/k=15:=by omega
 rcases this with rfl|rfl|rfl|rfl|rfl|rfl|rfl|rfl|rfl|rfl|rfl|rfl|rfl|rfl|rfl<;>rfl
theorem agy{P:Program}(hP:P=Tryz.prog)(x:Int)(b:ByteArray)(hb:b=O2 x):ah P 137 [.int .i64 x] [] 0 [] (fun v _ _=>v= .str b):=by
 refine aq hP Tryz.func137 (ak _ rfl) (aD rfl) ?_
 intro A g K hA hg hK
 obtain⟨_,_,cmp⟩:=A
 have f:∀y z,cmp .eql y z=decide (y=z):=fun y z=>bg (bg (bg (kA hA) .eql) y) z
 by_cases hx:∃k:Nat,(1<=k/\k<=15)/\x=Int.ofNat k
 ·obtain⟨k,hk,rfl⟩:=hx
  rw[aoS k hk]at hb
  have:k=1\/k=2\/k=3\/k=4\/k=5\/k=6\/k=7\/k=8\/k=9\/k=10\/k=11\/k=12\/k=13\/k=14\/k=15:=by omega
  rcases this with rfl|rfl|rfl|rfl|rfl|rfl|rfl|rfl|rfl|rfl|rfl|rfl|rfl|rfl|rfl<;>(cbv;repeat (rw[f];cbv))<;>exact hK _ _ _ (by rw[hb];kernel_rfl)
 ·have h:∀k:Nat,1<=k->k<=15->x≠Int.ofNat k:=fun k h1 h2 e=>hx ⟨k,⟨h1,h2⟩,e⟩
  have h1:x≠1:=h 1 (by decide) (by decide)
  have h2:x≠2:=h 2 (by decide) (by decide)
  have h3:x≠3:=h 3 (by decide) (by decide)
  have h4:x≠4:=h 4 (by decide) (by decide)
  have h5:x≠5:=h 5 (by decide) (by decide)
  have h6:x≠6:=h 6 (by decide) (by decide)
  have h7:x≠7:=h 7 (by decide) (by decide)
  have h8:x≠8:=h 8 (by decide) (by decide)
  have h9:x≠9:=h 9 (by decide) (by decide)
  have mu:x≠10:=h 10 (by decide) (by decide)
  have ui:x≠11:=h 11 (by decide) (by decide)
  have Bu:x≠12:=h 12 (by decide) (by decide)
  have zQ:x≠13:=h 13 (by decide) (by decide)
  have FM:x≠14:=h 14 (by decide) (by decide)
  have M5:x≠15:=h 15 (by decide) (by decide)
  cbv
  rw[f,da h1]
  cbv
  rw[f,da h2]
  cbv
  rw[f,da h3]
  cbv
  rw[f,da h4]
  cbv
  rw[f,da h5]
  cbv
  rw[f,da h6]
  cbv
  rw[f,da h7]
  cbv
  rw[f,da h8]
  cbv
  rw[f,da h9]
  cbv
  rw[f,da mu]
  cbv
  rw[f,da ui]
  cbv
  rw[f,da Bu]
  cbv
  rw[f,da zQ]
  cbv
  rw[f,da FM]
  cbv
  rw[f,da M5]
  cbv
  exact hK _ _ _ (by rw[hb,O2,af h1,af h2,af h3,af h4,af h5,af h6,af h7,af h8,af h9,af mu,af ui,af Bu,af zQ,af FM,af M5];rfl)
end Go.Proofs.YtfocopihipejfaaGreat
namespace Go.Proofs.YtfocopihipejfaaGreat
open Go.Vg Go.RowKit
set_option maxRecDepth 20000
def iS(y j:Nat):Nat:=y/0x10000000000000000^j%0x10000000000000000
theorem OZ{i q r:Nat}(hi:i=16*q+r):16^i=16^r*0x10000000000000000^q:=by
 rw[hi,dV,jS,bJ]
theorem Jv(y j:Nat):iS y j<0x10000000000000000:=ax _ (by decide)
theorem aaU{y i q r:Nat}(hi:i=16*q+r)(hy:y<16^i):y/0x10000000000000000^q<16^r:=by
 rw[qN (ew (by decide)),<-OZ hi];exact hy
theorem ajK{y d i q r:Nat}(hi:i=16*q+r)(hr:r<16)(hy:y<16^i)(hd:d<16)(j:Nat):iS (y+d*16^i) j=if j=q then iS y q+d*16^r else iS y j:=by
 have ht:=aaU hi hy
 have kQ:16^r*16<=0x10000000000000000:=by
  have h:=cV (show 0<16 by decide) (show r+1<=16 by omega)
  rw[br]at h
  exact eH h (pO (by decide))
 have hm:d*16^r+16^r<=16^r*16:=by
  have h:=ea (16^r) (show d+1<=16 from hd)
  rw[cw,fN]at h
  rw[bJ (16^r)];exact h
 have jG:y+d*16^i<0x10000000000000000^(q+1):=by
  have h:=ea (16^i) (show d+1<=16 from hd)
  rw[cw,fN]at h
  have h2:16*16^i<=0x10000000000000000^(q+1):=by
   rw[OZ hi,br,<-eZ,bJ 16,bJ (0x10000000000000000^q)]
   exact ea _ kQ
  omega
 unfold iS
 by_cases h:j=q
 ·subst h
  rw[aj rfl,OZ hi,<-eZ,zj _ _ (ew (by decide))]
  rw[aO (by omega),aO (by omega)]
 ·rw[af h]
  by_cases hj:j<q
  ·obtain⟨k,rfl⟩:∃k,q=j+1+k:=⟨q-(j+1),by omega⟩
   have e:d*16^i=(d*16^r*0x10000000000000000^k*0x10000000000000000)*0x10000000000000000^j:=by
    rw[OZ hi,dV,br]
    simp only[eZ,bJ,L6]
   rw[e,zj _ _ (ew (by decide)),tR]
  ·have hle:=cV (show 0<0x10000000000000000 by decide) (show q+1<=j by omega)
   rw[kg (cg jG hle),kg (eB (P2 _ _) (cg jG hle))]
theorem ajJ{y d i q r:Nat}(hi:i=16*q+r)(hr:r<16)(hy:y<16^i)(hd:d<16):iS y q|||(d*2^(4*r)%0x10000000000000000)=iS y q+d*16^r:=by
 have ht:=aaU hi hy
 have e:2^(4*r)=16^r:=by rw[jS]
 have kQ:16^r*16<=0x10000000000000000:=by
  have h:=cV (show 0<16 by decide) (show r+1<=16 by omega)
  rw[br]at h
  exact eH h (pO (by decide))
 have hm:d*16^r+16^r<=16^r*16:=by
  have h:=ea (16^r) (show d+1<=16 from hd)
  rw[cw,fN]at h
  rw[bJ (16^r)];exact h
 have hp:0<16^r:=ew (by decide)
 have hw:iS y q=y/0x10000000000000000^q:=aO (by omega)
 rw[hw,zm,aO (by rw[e];omega),oy (by rw[e];exact ht),e,oB]
theorem Qa(y n:Nat):V n (iS y)=y%0x10000000000000000^n:=Dg.GY (by decide) y n
theorem ah'(x i:Nat):x%16^i+x/16^i%16*16^i=x%16^(i+1):=by
 rw[br,Yv,bJ]
theorem mO{A:Ar}(hA:A=Ar.real){a b:Nat}(ha:a<2^63):A.bin .quo .i64 (Int.ofNat a) (Int.ofNat b)=Int.ofNat (a/b):=by
 subst hA
 show IntKind.i64.wrap (Int.tdiv (Int.ofNat a) (Int.ofNat b))=_
 exact Lx _ (eB (gq _ _) ha)
theorem aaV{d:Nat}(h:d<16):(uy d).toNat=if d<10 then 48+d else 87+d:=by
 have:∀d,d<16->(uy d).toNat=if d<10 then 48+d else 87+d:=by decide
 exact this d h
theorem aga{P:Program}(hP:P=Tryz.prog)(s:ByteArray)(n x:Nat)(hn:s.size=n)(pC:n<=144)(hs:∀i,i<n->s[n-1-i]? =some (uy (x/16^i%16)))(r:Nat->Nat)(hr:Wn 9 r)(cG:V 9 r=x%16^n):
 ah P 95 [.str s] [] 0 [] (fun v _ _=>v= .agg (ws r 9)):=by
 refine aq hP Tryz.func95 (ak _ rfl) (aD rfl) ?_
 intro A g K hA hg hK
 obtain⟨bin,sh,cmp,_,aX,ix,nn,nz,_,_,_,_,fK,lg,_,off,_,_,sub⟩:=A
 have en:fK s=Int.ofNat n:=(lK hA s).trans (by rw[hn])
 have es:∀i,i<n->lg s (Int.ofNat (n-1-i))=some (Int.ofNat (uy (x/16^i%16)).toNat):=fun i h=>by
  have e:lg=Ar.real.lg:=aK Ar.lg hA
  rw[e]
  show(if 0<=Int.ofNat (n-1-i)then(s[(Int.ofNat (n-1-i)).toNat]?).map fun b=>(b.toNat:Int)else none)=_
  rw[aj (show(0:Int)<=Int.ofNat (n-1-i)from zi _)]
  show(s[n-1-i]?).map _=_
  rw[hs i h];rfl
 have yg:∀x y,x<y->cmp .lss (.ofNat x) (.ofNat y)=true:=fun x y h=>cZ hA h
 have iD:∀x y,¬x<y->cmp .lss (.ofNat x) (.ofNat y)=false:=fun x y h=>bM hA h
 have f2:∀i,i<9->ix (.ofNat i) 9=some i:=fun i h=>bB hA h
 have f3:∀i,off 0 i 1=i:=fun i=>(dh hA 0 i 1).trans (by omega)
 have f4:=fun(f:Nat->Nat) (i:Nat) (h:i<9)=>ei hA .u64 (n:=9) f h
 have f5:=fun(f g:Nat->Nat) (i v:Nat) (h:i<9) (e:g=fun j=>if j=i then v else f j)=>gX hA .u64 (n:=9) f g h e
 simp only[aw,Nat.reduceAdd]at f4 f5
 cbv
 rw[en]
 refine bH (Nat×(Nat->Nat)) (fun σ=>σ.1<=n/\∀j,σ.2 j=iS (x%16^σ.1) j) (fun σ=>n-σ.1)
  (fun σ=> [(9,.int .i64 (.ofNat σ.1))]) [0,2,3,8] (fun σ=> [(1,ws σ.2 9)]) (0,fun _=>0) ⟨bf _,?_⟩ ?_ ?_
 ·intro j
  show 0=iS (x%16^0) j
  rw[jB,zl,iS,zp,zq]
 ·exact a_
 rintro⟨i,f⟩ ⟨tc,aT⟩
 have hi:i<=n:=tc
 have hf:∀j,f j=iS (x%16^i) j:=aT
 clear tc aT
 cbv
 by_cases ab:i<n
 ·obtain⟨d,hd⟩:=aa (x/16^i%16)
  have Gd:d<16:=by rw[hd];exact ax _ (by decide)
  obtain⟨c,hc⟩:=aa ((uy d).toNat)
  have dP:c=if d<10 then 48+d else 87+d:=by rw[hc];exact aaV Gd
  obtain⟨k,hk⟩:=aa (n-1-i)
  have e1:=es i ab
  rw[<-hd,<-hc,<-hk]at e1
  obtain⟨k1,dM⟩:=aa (n-1)
  have e2:bin .sub .i64 (.ofNat n) 1=Int.ofNat k1:=(er hA (a:=n) (b:=1) (by omega) (by omega)).trans (by rw[dM])
  have e3:bin .sub .i64 (.ofNat k1) (.ofNat i)=Int.ofNat k:=(er hA (by omega) (by omega)).trans (by rw[hk,dM])
  obtain⟨c1,eA⟩:=aa (c-48)
  have iG:48<=c/\c<128:=by rw[dP];split<;>omega
  have e4:bin .sub .u8 (.ofNat c) 48=Int.ofNat c1:=(A8 hA (k:= .u8) rfl (a:=c) (b:=48) (by decide)).trans (aK Int.ofNat (by show(c+256-48)%256=c1;omega))
  have e5:aX .u64 (.ofNat c1)=Int.ofNat c1:=nQ hA (fun h=>by cases h) (fun _=>by show c1<0x10000000000000000;omega)
  obtain⟨q,hq⟩:=aa (i/16)
  obtain⟨t,ht⟩:=aa (i%16)
  have JI:i=16*q+t:=by rw[hq,ht];exact(gN i 16).symm
  have Ka:t<16:=by rw[ht];exact ax _ (by decide)
  have Au:q<9:=by omega
  have e6:bin .quo .i64 (.ofNat i) 16=Int.ofNat q:=(mO hA (a:=i) (b:=16) (by omega)).trans (by rw[hq])
  have e7:bin .rem .i64 (.ofNat i) 16=Int.ofNat t:=(pJ hA (k:= .i64) i 16).trans (by rw[ht])
  obtain⟨t4,w9⟩:=aa (4*t)
  have e8:bin .mul .i64 4 (.ofNat t)=Int.ofNat t4:=(k8 hA (a:=4) (b:=t) (by omega)).trans (by rw[w9])
  obtain⟨y,hy⟩:=aa (d*2^t4%0x10000000000000000)
  have e9:sh .shl .u64 (.ofNat d) (.ofNat t4)=Int.ofNat y:=Cw hA (by omega) hy
  obtain⟨z,hz⟩:=aa (f q|||y)
  have Kq:x%16^i<16^i:=ax _ (ew (by decide))
  have Jy:=hf q
  have jT:bin .or .u64 (.ofNat (f q)) (.ofNat y)=Int.ofNat z:=G0 hA (by rw[Jy];exact Jv _ _) (by rw[hy];exact ax _ (by decide)) hz
  have Ul:z=iS (x%16^i) q+d*16^t:=by rw[hz,Jy,hy,w9];exact ajJ JI Ka Kq Gd
  obtain⟨f',aT⟩:=aa (fun j=>if j=q then z else f j:Nat->Nat)
  have kP:=f4 f q Au
  have zJ:=f5 f f' q z Au aT
  have zK:=f2 q Au
  have zL:=f3 q
  have FC:bin .add .i64 (.ofNat i) 1=Int.ofNat (i+1):=e_ hA (b:=1) (by omega)
  have PL:nn (.ofNat t4)=true:=kr hA t4
  have gj:∀j,f' j=iS (x%16^(i+1)) j:=fun j=>by
   rw[<-ah',<-hd,ajK JI Ka Kq Gd j,aT]
   show(if j=q then z else f j)=_
   rw[Ul,hf j]
  obtain⟨i1,dQ⟩:=aa (i+1)
  rw[<-dQ]at FC gj
  rw[yg i n ab]
  cbv
  rw[en]
  rw[e2]
  rw[e3]
  cbv
  rw[e1]
  cbv
  rw[e4]
  cbv
  rw[e5]
  cbv
  rw[e1]
  cbv
  have znz:nz 16=true:=OJ hA (a:=16) (by decide)
  by_cases mu:d<10
  ·have ra:c1=d:=by rw[eA,dP,aj mu];omega
   rw[show cmp .geq (.ofNat c) 97=false from qW hA (b:=97) (by rw[dP,aj mu];omega)]
   cbv
   rw[ra]
   refine cf hP hA hg fun mk _=> ?_
   cbv
   rw[e6]
   cbv
   rw[zK]
   cbv
   rw[zL,kP]
   cbv
   rw[e7]
   cbv
   rw[e8]
   cbv
   rw[PL]
   cbv
   rw[e9]
   cbv
   rw[jT]
   cbv
   rw[zK]
   cbv
   rw[zL,zJ]
   cbv
   rw[FC]
   refine⟨(i1,f'),id,⟨by show i1<=n;omega,gj⟩,(by show n-i1<n-i;omega),?_⟩
   exact a_
  ·obtain⟨c3,ra⟩:=aa (c-97)
   have Nt:c3+10=d:=by rw[ra,dP,af mu];omega
   have h97:97<=c:=by rw[dP,af mu];omega
   have e16:bin .sub .u8 (.ofNat c) 97=Int.ofNat c3:=(A8 hA (k:= .u8) rfl (a:=c) (b:=97) (by decide)).trans (aK Int.ofNat (by show(c+256-97)%256=c3;omega))
   have e17:aX .u64 (.ofNat c3)=Int.ofNat c3:=nQ hA (fun h=>by cases h) (fun _=>by show c3<0x10000000000000000;omega)
   have e18:bin .add .u64 (.ofNat c3) 10=Int.ofNat d:=(tX hA (k:= .u64) rfl c3 10).trans (aK Int.ofNat (by show(c3+10)%0x10000000000000000=d;omega))
   rw[show cmp .geq (.ofNat c) 97=true from kC hA (b:=97) h97]
   cbv
   rw[e1]
   cbv
   rw[e16]
   cbv
   rw[e17]
   cbv
   rw[e18]
   refine cf hP hA hg fun mk _=> ?_
   cbv
   rw[e6]
   cbv
   rw[zK]
   cbv
   rw[zL,kP]
   cbv
   rw[e7]
   cbv
   rw[e8]
   cbv
   rw[PL]
   cbv
   rw[e9]
   cbv
   rw[jT]
   cbv
   rw[zK]
   cbv
   rw[zL,zJ]
   cbv
   rw[FC]
   refine⟨(i1,f'),id,⟨by show i1<=n;omega,gj⟩,(by show n-i1<n-i;omega),?_⟩
   exact a_
 ·obtain rfl:i=n:=by omega
  rw[iD i i ab]
  cbv
  have e:ws r 9=ws f 9:=kx hr (fun j _=>by rw[hf j];exact Jv _ _) (by
   rw[cG,show V 9 f=V 9 (iS (x%16^i))from Dg.jP 9 fun j _=>hf j,Qa]
   refine(aO (cg (ax _ (ew (by decide))) ?_)).symm
   refine eH (cV (by decide) pC) (pO (by decide)))
  exact hK _ _ _ (by rw[e];rfl)
theorem NF(x n:Nat):(eL x n).size=n:=by
 show((List.range n).map _).toArray.size=n
 simp
theorem aaT(x n i:Nat)(h:i<n):(eL x n)[n-1-i]? =some (uy (x/16^i%16)):=by
 have hs:n-1-i<(eL x n).size:=by rw[NF];omega
 rw[getElem?_pos (eL x n) (n-1-i) hs]
 have hl:n-1-i<((List.range n).map fun i=>uy (x/16^(n-1-i)%16)).length:=by simp;omega
 have e:(eL x n)[n-1-i]'hs=((List.range n).map fun i=>uy (x/16^(n-1-i)%16))[n-1-i]'hl:=rfl
 rw[e,List.getElem_map,List.getElem_range,show n-1-(n-1-i)=i by omega]
theorem Fx{P:Program}(hP:P=Tryz.prog)(x n:Nat)(pC:n<=144)(r:Nat->Nat)(hr:Wn 9 r)(cG:V 9 r=x%16^n):
 ah P 95 [.str (eL x n)] [] 0 [] (fun v _ _=>v= .agg (ws r 9)):=
 aga hP (eL x n) n x (NF x n) pC (fun i h=>aaT x n i h) r hr cG
theorem aao(k:Nat)(h:1<=k/\k<=15):O2 (Int.ofNat k)=eL (f_ k) (j' k)/\0<j' k/\j' k<=144/\2<=f_ k/\f_ k<16^j' k:=by
 obtain⟨h1,h2⟩:=h
 have:k=1\/k=2\/k=3\/k=4\/k=5\/k=6\/k=7\/k=8\/k=9\/k=10\/k=11\/k=12\/k=13\/k=14\/k=15:=by omega
 rcases this with rfl|rfl|rfl|rfl|rfl|rfl|rfl|rfl|rfl|rfl|rfl|rfl|rfl|rfl|rfl<;>exact⟨rfl,by decide,by decide,by decide +kernel,by decide +kernel⟩
theorem af6{P:Program}(hP:P=Tryz.prog)(k:Nat)(hk:1<=k/\k<=15):
 ∃p d n s,Wn 9 p/\V 9 p=f_ k/\Dv p d n s/\ah P 93 [.int .i64 (.ofNat k)] [] 0 [] (fun v L m=>v= .ptr 4 0/\L=[⟨0,ws p 9,31⟩,⟨2,[.ptr 3 0],161⟩,⟨1,ws p 9,31⟩,⟨3,jK d n s,275⟩,⟨4,qa p 3,163⟩]/\m=5):=by
 obtain⟨k1,k2,k3,k4,k5⟩:=aao k hk
 have k6:f_ k<0x10000000000000000^9:=cg k5 (eH (cV (by decide) k3) (pO (by decide)))
 obtain⟨p,hp,rk⟩:=cD 9 _ k6
 obtain⟨n,hn⟩:=A9 p 9
 have An:0<n:=by
  rcases Nat.eq_zero_or_pos n with h|h
  ·have e:V 9 p=0:=by rw[xV hn,h];rfl
   rw[rk]at e;omega
  ·exact h
 obtain⟨d,s,hD,uj⟩:=Mt hP p n hp hn An
 refine⟨p,d,n,s,hp,rk,hD,?_⟩
 obtain⟨b,hb⟩:=aa (eL (f_ k) (j' k))
 have Ad:b.size≠0:=by rw[hb,NF];omega
 have hPr:=agy hP (Int.ofNat k) b (by rw[hb,k1])
 have hH:=Fx hP (f_ k) (j' k) k3 p hp (by rw[rk,aO k5])
 rw[<-hb]at hH
 clear hb k1 k5 k6 rk hD hn
 refine aq hP Tryz.func93 (ak _ rfl) (aD rfl) ?_
 intro A g K hA hg hK
 obtain⟨_,_,_,_,_,_,_,_,_,_,_,gH⟩:=A
 cbv
 refine fe rfl hg rfl rfl hPr ?_
 rintro _ _ _ rfl
 cbv
 have ek:gH .eql b ⟨⟨[]⟩⟩=false:=by
  have e:gH=Ar.real.gH:=aK Ar.gH hA
  rw[e]
  show Cz .eql b ⟨⟨[]⟩⟩=false
  unfold Cz
  simp only
  rw[beq_eq_false_iff_ne]
  intro h
  rw[ByteArray.toList_eq,ByteArray.toList_eq]at h
  refine Ad ?_
  show b.data.toList.length=0
  rw[h];rfl
 rw[ek]
 cbv
 refine fe rfl hg rfl rfl hH ?_
 rintro _ _ _ rfl
 cbv
 refine cm hP hA hg ?_
 cbv
 refine qF (n':=4) (pZ rfl hg rfl rfl uj id rfl trivial rfl (val:= .agg [.ptr 2 0]) (NB:=[⟨1,[.ptr 2 0],161⟩,⟨0,ws p 9,31⟩,⟨2,jK d n s,275⟩]) (n:=1) (n1:=3) (fun _ _ _ h=>⟨h.1,h.2.1,h.2.2⟩) rfl rfl (fun l h1 h2=> ?_)) (by decide) rfl ?_ ?_
 rotate_left
 ·show [2,1,3].Nodup
  decide
 ·cbv
  exact hK _ _ _ ⟨rfl,rfl,rfl⟩
 ·have h3:l=0\/l=1\/l=2:=by omega
  rcases h3 with rfl|rfl|rfl
  ·exact⟨_,lj _ kd,rfl⟩
  ·exact⟨_,kd,rfl⟩
  ·exact⟨_,lj _ (lj _ kd),rfl⟩
theorem af5{P:Program}(hP:P=Tryz.prog)(k:Nat)(hk:1<=k/\k<=15):
 ∃p d n s,Wn 9 p/\V 9 p=f_ k/\Dv p d n s/\ah P 93 [.int .i64 (.ofNat k)] [] 0 [] (fun v L m=>v= .ptr 0 0/\L=[⟨0,qa p 1,163⟩,⟨1,jK d n s,275⟩]/\m=2):=by
 obtain⟨p,d,n,s,h1,h2,h3,h4⟩:=af6 hP k hk
 refine⟨p,d,n,s,h1,h2,h3,h4.dj fun v L m h=>⟨fun l=>4-l,.ptr 0 0,[⟨0,qa p 1,163⟩,⟨1,jK d n s,275⟩],2,?_,rfl,rfl,rfl⟩⟩
 obtain⟨rfl,rfl,rfl⟩:=h
 exact dH ⟨rfl,rfl,trivial⟩ ⟨rfl,rfl,rfl,rfl,rfl,rfl,rfl,rfl,trivial⟩ rfl rfl rfl
def Cs:Nat->Nat
 |1=>0
 |2=>0
 |3=>0
 |4=>0
 |5=>0
 |6=>0
 |7=>0x340e7be2a280eb74e2be61bada745d97e8f7c300
 |8=>0x68a5e62ca9ce6c1c299803a6c1530b514e182ad8b0042a59cad29f43
 |9=>0x7d5a0975fc2c3057eef67530417affe7fb8055c126dc5c6ce94a4b44f330b5d9
 |10=>0x3ee30b568fbab0f883ccebd46d3f3bb8a2a73513f5eb79da66190eb085ffa9f492f375a97d860eb4
 |11=>0x7bc382c63d8c150c3c72080ace05afa0c2bea28e4fb22787139165efba91f90f8aa5814a503ad4eb04a8c7dd22ce2826
 |12=>0x7830a3318b603b89e2327145ac234cc594cbdd8d3df91610a83441caea9863bc2ded5d5aa8253aa10a2ef1c98b9ac8b57f1117a72bf2c7b9e7c1ac4d77fc94ca
 |13=>0
 |14=>0
 |15=>117
 |_=>0
def pK:Nat->Nat
 |1=>0
 |2=>0
 |3=>0
 |4=>0
 |5=>0
 |6=>1
 |7=>40
 |8=>56
 |9=>64
 |10=>80
 |11=>96
 |12=>128
 |13=>0
 |14=>1
 |15=>2
 |_=>0
def o9:Nat->Nat
 |1=>0x64210519e59c80e70fa7e9ab72243049feb8deecc146b9b1
 |2=>0xb4050a850c04b3abf54132565044b0b7d7bfd8ba270b39432355ffb4
 |3=>0x5ac635d8aa3a93e7b3ebbd55769886bc651d06b0cc53b0f63bce3c3e27d2604b
 |4=>0xb3312fa7e23ee7e4988e056be3f82d19181d9c6efe8141120314088f5013875ac656398d8a2ed19d2a85c8edd3ec2aef
 |5=>0x51953eb9618e1c9a1f929a21a0b68540eea2da725b99b315f3b8b489918ef109e156193951ec7e937b1652c0bd3bb1bf073573df883d2c34f1ef451fd46b503f00
 |6=>7
 |7=>0x1e589a8595423412134faa2dbdec95c8d8675e58
 |8=>0x2580f63ccfe44138870713b1a92369e33e2135d266dbb372386c400b
 |9=>0x26dc5c6ce94a4b44f330b5d9bbd77cbf958416295cf7e1ce6bccdc18ff8c07b6
 |10=>0x520883949dfdbc42d3ad198640688a6fe13f41349554b49acc31dccd884539816f5eb4ac8fb1f1a6
 |11=>0x4a8c7dd22ce28268b39b55416f0447c2fb77de107dcd2a62e880ea53eeb62d57cb4390295dbc9943ab78696fa504c11
 |12=>0x3df91610a83441caea9863bc2ded5d5aa8253aa10a2ef1c98b9ac8b57f1117a72bf2c7b9e7c1ac4d77fc94cadc083e67984050b75ebae5dd2809bd638016f723
 |13=>26
 |14=>13
 |15=>8
 |_=>0
def A2:Nat->Nat
 |1=>48
 |2=>56
 |3=>64
 |4=>96
 |5=>132
 |6=>1
 |7=>40
 |8=>56
 |9=>64
 |10=>80
 |11=>96
 |12=>128
 |13=>2
 |14=>1
 |15=>1
 |_=>0
def qC:Nat->Nat
 |1=>0xffffffffffffffffffffffff99def836146bc9b1b4d22831
 |2=>0xffffffffffffffffffffffffffff16a2e0b8f03e13dd29455c5c2a3d
 |3=>0xffffffff00000000ffffffffffffffffbce6faada7179e84f3b9cac2fc632551
 |4=>0xffffffffffffffffffffffffffffffffffffffffffffffffc7634d81f4372ddf581a0db248b0a77aecec196accc52973
 |5=>0x1fffffffffffffffffffffffffffffffffffffffffffffffffffffffffffffffffa51868783bf2f966b7fcc0148f709a5d03bb5c9b8899c47aebb6fb71e91386409
 |6=>0xfffffffffffffffffffffffffffffffebaaedce6af48a03bbfd25e8cd0364141
 |7=>0xe95e4a5f737059dc60df5991d45029409e60fc09
 |8=>0xd7c134aa264366862a18302575d0fb98d116bc4b6ddebca3a5a7939f
 |9=>0xa9fb57dba1eea9bc3e660a909d838d718c397aa3b561a6f7901e0e82974856a7
 |10=>0xd35e472036bc4fb7e13c785ed201e065f98fcfa5b68f12a32d482ec7ee8658e98691555b44c59311
 |11=>0x8cb91e82a3386d280f5d6f7e50e641df152f7109ed5456b31f166e6cac0425a7cf3ab6af6b7fc3103b883202e9046565
 |12=>0xaadd9db8dbe9c48b3fd4e6ae33c9fc07cb308db3b3c9d20ed6639cca70330870553e5c414ca92619418661197fac10471db1d381085ddaddb58796829ca90069
 |13=>223
 |14=>211
 |15=>229
 |_=>0
def A3:Nat->Nat
 |1=>48
 |2=>56
 |3=>64
 |4=>96
 |5=>132
 |6=>64
 |7=>40
 |8=>56
 |9=>64
 |10=>80
 |11=>96
 |12=>128
 |13=>2
 |14=>2
 |15=>2
 |_=>0
def tI:Nat->Nat
 |1=>0x188da80eb03090f67cbf20eb43a18800f4ff0afd82ff1012
 |2=>0xb70e0cbd6bb4bf7f321390b94a03c1d356c21122343280d6115c1d21
 |3=>0x6b17d1f2e12c4247f8bce6e563a440f277037d812deb33a0f4a13945d898c296
 |4=>0xaa87ca22be8b05378eb1c71ef320ad746e1d3b628ba79b9859f741e082542a385502f25dbf55296c3a545e3872760ab7
 |5=>0xc6858e06b70404e9cd9e3ecb662395b4429c648139053fb521f828af606b4d3dbaa14b5e77efe75928fe1dc127a2ffa8de3348b3c1856a429bf97e7e31c2e5bd66
 |6=>0x79be667ef9dcbbac55a06295ce870b07029bfcdb2dce28d959f2815b16f81798
 |7=>0xbed5af16ea3f6a4f62938c4631eb5af7bdbcdbc3
 |8=>0xd9029ad2c7e5cf4340823b2a87dc68c9e4ce3174c1e6efdee12c07d
 |9=>0x8bd2aeb9cb7e57cb2c4b482ffc81b7afb9de27e1e3bd23c23a4453bd9ace3262
 |10=>0x43bd7e9afb53d8b85289bcc48ee5bfe6f20137d10a087eb6e7871e2a10a599c710af8d0d39e20611
 |11=>0x1d1c64f068cf45ffa2a63a81b7c13f6b8847a3e77ef14fe3db7fcafe0cbd10e8e826e03436d646aaef87b2e247d4af1e
 |12=>0x81aee4bdd82ed9645a21322e9c4c6a9385ed9f70b5d916c1b43b62eef4d0098eff3b1f78e2d0d48d50d1687b93b97d5f7c6d5047406a5e688b352209bcb9f822
 |13=>2
 |14=>3
 |15=>0
 |_=>0
def A4:Nat->Nat
 |1=>48
 |2=>56
 |3=>64
 |4=>96
 |5=>132
 |6=>64
 |7=>40
 |8=>56
 |9=>64
 |10=>80
 |11=>96
 |12=>128
 |13=>1
 |14=>1
 |15=>1
 |_=>0
def tJ:Nat->Nat
 |1=>0x7192b95ffc8da78631011ed6b24cdd573f977a11e794811
 |2=>0xbd376388b5f723fb4c22dfe6cd4375a05a07476444d5819985007e34
 |3=>0x4fe342e2fe1a7f9b8ee7eb4a7c0f9e162bce33576b315ececbb6406837bf51f5
 |4=>0x3617de4a96262c6f5d9e98bf9292dc29f8f41dbd289a147ce9da3113b5f0b8c00a60b1ce1d7e819d7a431d7c90ea0e5f
 |5=>0x11839296a789a3bc0045c8a5fb42c7d1bd998f54449579b446817afbd17273e662c97ee72995ef42640c550b9013fad0761353c7086a272c24088be94769fd16650
 |6=>0x483ada7726a3c4655da4fbfc0e1108a8fd17b448a68554199c47d08ffb10d4b8
 |7=>0x1667cb477a1a8ec338f94741669c976316da6321
 |8=>0x58aa56f772c0726f24c6b89e4ecdac24354b9e99caa3f6d3761402cd
 |9=>0x547ef835c3dac4fd97f8461a14611dc9c27745132ded8e545c1d54c72f046997
 |10=>0x14fdd05545ec1cc8ab4093247f77275e0743ffed117182eaa9c77877aaac6ac7d35245d1692e8ee1
 |11=>0x8abe1d7520f9c2a45cb1eb8e95cfd55262b70b29feec5864e19c054ff99129280e4646217791811142820341263c5315
 |12=>0x7dde385d566332ecc0eabfa9cf7822fdf209f70024a57b1aa000c55b881f8111b2dcde494a5f485e5bca4bd88a2763aed1ca2b2fa8f0540678cd1e0f3ad80892
 |13=>84
 |14=>47
 |15=>41
 |_=>0
def A5:Nat->Nat
 |1=>48
 |2=>56
 |3=>64
 |4=>96
 |5=>132
 |6=>64
 |7=>40
 |8=>56
 |9=>64
 |10=>80
 |11=>96
 |12=>128
 |13=>2
 |14=>2
 |15=>2
 |_=>0
def K6(k:Nat):ByteArray:=if pK k=0 then⟨⟨[45,51]⟩⟩else eL (Cs k) (pK k)
theorem agU{P:Program}(hP:P=Tryz.prog)(k:Nat)(hk:1<=k/\k<=15)(a b n x y:ByteArray)(ha:a=K6 k)(hb:b=eL (o9 k) (A2 k))(hn:n=eL (qC k) (A3 k))(hx:x=eL (tI k) (A4 k))(hy:y=eL (tJ k) (A5 k)):
 ah P 94 [.int .i64 (.ofNat k)] [] 0 [] (fun v _ _=>v= .agg [.str a,.str b,.str n,.str x,.str y]):=by
 have:k=1\/k=2\/k=3\/k=4\/k=5\/k=6\/k=7\/k=8\/k=9\/k=10\/k=11\/k=12\/k=13\/k=14\/k=15:=by omega
 refine aq hP Tryz.func94 (ak _ rfl) (aD rfl) ?_
 intro A g K hA hg hK
 obtain⟨_,_,cmp⟩:=A
 have f:∀y z,cmp .eql y z=decide (y=z):=fun y z=>bg (bg (bg (kA hA) .eql) y) z
 rcases this with rfl|rfl|rfl|rfl|rfl|rfl|rfl|rfl|rfl|rfl|rfl|rfl|rfl|rfl|rfl<;>(cbv;repeat (rw[f];cbv))<;>exact hK _ _ _ (by rw[ha,hb,hn,hx,hy];kernel_rfl)
def sF(k:Nat):Nat:=if pK k=0 then f_ k-3 else Cs k
def vZ(k:Nat)(p a b n gx gy th:Nat->Nat)(bits size:Nat)(leg:Bool)(l:Nat):List SV:=
 [.int .i64 (.ofNat k)]++ws p 9++ws a 9++ws b 9++ws n 9++ws gx 9++ws gy 9++[.bool false,.int .i64 (.ofNat bits),.int .i64 (.ofNat size),.bool leg,.ptr l 0]++ws th 9
structure Cv(k:Nat)(p a b n gx gy th:Nat->Nat)(bits size:Nat):Prop where
 wp:Wn 9 p
 wa:Wn 9 a
 wb:Wn 9 b
 wn:Wn 9 n
 wx:Wn 9 gx
 wy:Wn 9 gy
 wt:Wn 9 th
 vp:V 9 p=f_ k
 va:V 9 a=sF k
 vb:V 9 b=o9 k
 vn:V 9 n=qC k
 vx:V 9 gx=tI k
 vy:V 9 gy=tJ k
 vt:V 9 th=(o9 k+o9 k+o9 k)%f_ k
 bits:ig (qC k) bits
 size:∃pb,ig (f_ k) pb/\size=(pb+7)/8
theorem adw(k:Nat)(h:1<=k/\k<=15):Cs k<16^pK k/\o9 k<16^A2 k/\qC k<16^A3 k/\tI k<16^A4 k/\tJ k<16^A5 k/\pK k<=144/\A2 k<=144/\A3 k<=144/\A4 k<=144/\A5 k<=144/\o9 k<f_ k/\3<=f_ k:=by
 obtain⟨h1,h2⟩:=h
 have:k=1\/k=2\/k=3\/k=4\/k=5\/k=6\/k=7\/k=8\/k=9\/k=10\/k=11\/k=12\/k=13\/k=14\/k=15:=by omega
 rcases this with rfl|rfl|rfl|rfl|rfl|rfl|rfl|rfl|rfl|rfl|rfl|rfl|rfl|rfl|rfl<;>decide +kernel
theorem apG(k:Nat)(h:1<=k/\k<=15):Cz .eql (K6 k) ⟨⟨[45,51]⟩⟩=decide (pK k=0):=by
 obtain⟨h1,h2⟩:=h
 show((K6 k).toList==(ByteArray.mk ⟨[45,51]⟩).toList)=_
 rw[ByteArray.toList_eq,ByteArray.toList_eq]
 have:k=1\/k=2\/k=3\/k=4\/k=5\/k=6\/k=7\/k=8\/k=9\/k=10\/k=11\/k=12\/k=13\/k=14\/k=15:=by omega
 rcases this with rfl|rfl|rfl|rfl|rfl|rfl|rfl|rfl|rfl|rfl|rfl|rfl|rfl|rfl|rfl<;>decide +kernel
theorem Qt{x k n:Nat}(h:ig x k)(hx:x<2^n):k<=n:=vk fun h2=>by
 have h3:=h.2 (by omega)
 have h4:=cV (show 0<2 by decide) (show n<=k-1 by omega)
 omega
theorem KN{x l:Nat}(h:x<16^l)(hl:l<=144):x<0x10000000000000000^9:=
 cg h (eH (cV (by decide) hl) (pO (by decide)))
theorem agt{P:Program}(hP:P=Tryz.prog)(k:Nat)(hk:1<=k/\k<=15)(leg:Bool)(mD:leg=(decide (k=1)||decide (k=7))):
 ∃p d m s a b n gx gy th bits size,Cv k p a b n gx gy th bits size/\Dv p d m s/\ah P 51 [.int .i64 (.ofNat k)] [] 0 [] (fun v L q=>v= .ptr 3 0/\(∃sa sb sn sx sy,L=[⟨0,qa p 1,163⟩,⟨1,jK d m s,275⟩,⟨2,[.str sa,.str sb,.str sn,.str sx,.str sy],153⟩,⟨3,vZ k p a b n gx gy th bits size leg 0,158⟩])/\q=4):=by
 obtain⟨p,d,m,s,hp,rk,hD,hF⟩:=af5 hP k hk
 obtain⟨r1,r2,r3,r4,r5,l1,l2,l3,l4,l5,hbp,yL⟩:=adw k hk
 obtain⟨n,hn,D1⟩:=cD 9 _ (KN r3 l3)
 obtain⟨b,hb,Nr⟩:=cD 9 _ (KN r2 l2)
 obtain⟨gx,hx,AG⟩:=cD 9 _ (KN r4 l4)
 obtain⟨gy,hy,xj⟩:=cD 9 _ (KN r5 l5)
 have yM:f_ k<0x10000000000000000^9:=by rw[<-rk];exact eg hp
 have haB:sF k<0x10000000000000000^9:=by
  unfold sF
  split
  ·exact eB (P7 _ _) yM
  ·exact KN r1 l1
 obtain⟨a,ha,DF⟩:=cD 9 (sF k) haB
 clear haB
 have BS:0<f_ k:=by omega
 obtain⟨b2,cW,Nq⟩:=cD 9 ((V 9 b+V 9 b)%V 9 p) (cT (ax _ (by rw[rk];exact BS)) (eg hp))
 obtain⟨th,ht,T8⟩:=cD 9 ((V 9 b2+V 9 b)%V 9 p) (cT (ax _ (by rw[rk];exact BS)) (eg hp))
 obtain⟨bits,Jj⟩:=ua (V 9 n)
 obtain⟨pb,cE⟩:=ua (V 9 p)
 obtain⟨size,GA⟩:=aa ((pb+7)/8)
 refine⟨p,d,m,s,a,b,n,gx,gy,th,bits,size,⟨hp,ha,hb,hn,hx,hy,ht,rk,DF,Nr,D1,AG,xj,?_,by rw[<-D1];exact Jj,pb,by rw[<-rk];exact cE,GA⟩,hD,?_⟩
 ·rw[T8,Nq,Nr,rk,sf,xR,<-sf]
 obtain⟨sa,qo⟩:=aa (K6 k)
 obtain⟨sb,Ea⟩:=aa (eL (o9 k) (A2 k))
 obtain⟨sn,TT⟩:=aa (eL (qC k) (A3 k))
 obtain⟨sx,Ec⟩:=aa (eL (tI k) (A4 k))
 obtain⟨sy,T4⟩:=aa (eL (tJ k) (A5 k))
 have hR:=agU hP k hk sa sb sn sx sy qo Ea TT Ec T4
 have zX:=Fx hP (o9 k) (A2 k) l2 b hb (by rw[Nr,aO r2])
 have FT:=Fx hP (qC k) (A3 k) l3 n hn (by rw[D1,aO r3])
 have Dq:=Fx hP (tI k) (A4 k) l4 gx hx (by rw[AG,aO r4])
 have Ds:=Fx hP (tJ k) (A5 k) l5 gy hy (by rw[xj,aO r5])
 rw[<-Ea]at zX
 rw[<-TT]at FT
 rw[<-Ec]at Dq
 rw[<-T4]at Ds
 have zT:=Ib hP n hn bits Jj
 have zU:=Ib hP p hp pb cE
 have BF:V 9 b<V 9 p:=by rw[Nr,rk];exact hbp
 have arD:pb<=576:=Qt cE (cg (eg hp) (pO (W9 (b:=576) rfl)))
 have kR:=lN hP p b b b2 hp hb hb cW BF BF Nq
 have Bx:=lN hP p b2 b th hp cW hb ht (by rw[Nq];exact ax _ (by rw[rk];exact BS)) BF T8
 clear Ea TT Ec T4 Jj hD yM Nq T8 BF
 refine aq hP Tryz.func51 (ak _ rfl) (aD rfl) ?_
 intro A g K hA hg hK
 obtain⟨bin,_,cmp,_,_,_,_,_,_,_,_,gH⟩:=A
 cbv
 refine gQ rfl hg rfl rfl hF id rfl trivial rfl rfl rfl ?_
 rintro _ _ _ ⟨rfl,rfl,rfl⟩ _
 cbv
 refine fe rfl hg rfl rfl hR ?_
 rintro _ _ _ rfl
 cbv
 refine cf hP hA hg fun mk _=> ?_
 cbv
 refine bN hg zX ?_
 cbv
 refine bN hg FT ?_
 cbv
 have wQ:gH .eql sa ⟨⟨[45,51]⟩⟩=decide (pK k=0):=by
  have e:gH=Ar.real.gH:=aK Ar.gH hA
  rw[e,qo]
  exact apG k hk
 have g7:bin .add .i64 (.ofNat pb) 7=Int.ofNat (pb+7):=e_ hA (b:=7) (by omega)
 have g8:bin .quo .i64 (.ofNat (pb+7)) 8=Int.ofNat size:=(mO hA (a:=pb+7) (b:=8) (by omega)).trans (by rw[GA])
 generalize pb+7=pb7 at g7 g8
 rw[wQ]
 by_cases h0:pK k=0
 ·rw[eh h0]
  obtain⟨t3,T6⟩:=aa (fun j=>if j=0 then 3 else 0:Nat->Nat)
  have w3:Wn 9 t3:=fun j _=>by rw[T6];show(if j=0 then 3 else 0)<_;split<;>decide
  have v3:V 9 t3=3:=by rw[T6];rfl
  have z8:=zB hP 3 (by decide) t3 T6
  have yM:V 9 p<0x10000000000000000^9:=eg hp
  have F6:=Dh hP p t3 a hp w3 ha false (by
   rw[DF,v3,sF,aj h0,<-rk]
   generalize (0x10000000000000000^9:Nat)=B at yM
   rw[show V 9 p+B-3=(V 9 p-3)+B by omega,vg,aO (by omega)]) (da (by rw[v3];omega)).symm
  clear yM
  cbv
  refine cf hP hA hg fun mk _=> ?_
  cbv
  refine bN hg z8 ?_
  cbv
  refine bN hg F6 ?_
  cbv
  refine cf hP hA hg fun mk _=> ?_
  cbv
  refine bN hg Dq ?_
  cbv
  refine bN hg Ds ?_
  cbv
  refine cf hP hA hg fun mk _=> ?_
  cbv
  refine bN hg zT ?_
  cbv
  refine bN hg zU ?_
  cbv
  rw[g7]
  cbv
  rw[g8]
  cbv
  by_cases dM:k=1
  ·obtain rfl:leg=true:=by rw[mD,eh dM];rfl
   rw[show cmp .eql (.ofNat k) 1=true from iP hA (b:=1) dM]
   cbv
   refine cf hP hA hg fun mk _=> ?_
   cbv
   refine aY hg kR id ⟨rfl,trivial⟩ ?_
   cbv
   refine aY hg Bx id ⟨rfl,trivial⟩ ?_
   cbv
   exact hK _ _ _ ⟨rfl,⟨sa,sb,sn,sx,sy,rfl⟩,rfl⟩
  ·rw[show cmp .eql (.ofNat k) 1=false from ja hA (b:=1) dM]
   cbv
   rw[show cmp .eql (.ofNat k) 7=leg from(sJ hA k 7).trans (by rw[mD,da dM];rfl)]
   cbv
   refine cf hP hA hg fun mk _=> ?_
   cbv
   refine aY hg kR id ⟨rfl,trivial⟩ ?_
   cbv
   refine aY hg Bx id ⟨rfl,trivial⟩ ?_
   cbv
   exact hK _ _ _ ⟨rfl,⟨sa,sb,sn,sx,sy,rfl⟩,rfl⟩
 ·rw[da h0]
  have IM:=Fx hP (Cs k) (pK k) l1 a ha (by rw[DF,sF,af h0,aO r1])
  rw[show eL (Cs k) (pK k)=sa by rw[qo,K6,af h0]]at IM
  cbv
  refine fe rfl hg rfl rfl IM ?_
  rintro _ _ _ rfl
  cbv
  refine cf hP hA hg fun mk _=> ?_
  cbv
  refine bN hg Dq ?_
  cbv
  refine bN hg Ds ?_
  cbv
  refine cf hP hA hg fun mk _=> ?_
  cbv
  refine bN hg zT ?_
  cbv
  refine bN hg zU ?_
  cbv
  rw[g7]
  cbv
  rw[g8]
  cbv
  by_cases dM:k=1
  ·obtain rfl:leg=true:=by rw[mD,eh dM];rfl
   rw[show cmp .eql (.ofNat k) 1=true from iP hA (b:=1) dM]
   cbv
   refine cf hP hA hg fun mk _=> ?_
   cbv
   refine aY hg kR id ⟨rfl,trivial⟩ ?_
   cbv
   refine aY hg Bx id ⟨rfl,trivial⟩ ?_
   cbv
   exact hK _ _ _ ⟨rfl,⟨sa,sb,sn,sx,sy,rfl⟩,rfl⟩
  ·rw[show cmp .eql (.ofNat k) 1=false from ja hA (b:=1) dM]
   cbv
   rw[show cmp .eql (.ofNat k) 7=leg from(sJ hA k 7).trans (by rw[mD,da dM];rfl)]
   cbv
   refine cf hP hA hg fun mk _=> ?_
   cbv
   refine aY hg kR id ⟨rfl,trivial⟩ ?_
   cbv
   refine aY hg Bx id ⟨rfl,trivial⟩ ?_
   cbv
   exact hK _ _ _ ⟨rfl,⟨sa,sb,sn,sx,sy,rfl⟩,rfl⟩
theorem De{P:Program}(hP:P=Tryz.prog)(k:Nat)(hk:1<=k/\k<=15)(leg:Bool)(mD:leg=(decide (k=1)||decide (k=7))):
 ∃p d m s a b n gx gy th bits size,Cv k p a b n gx gy th bits size/\Dv p d m s/\ah P 51 [.int .i64 (.ofNat k)] [] 0 [] (fun v L q=>v= .ptr 0 0/\L=[⟨0,vZ k p a b n gx gy th bits size leg 1,158⟩,⟨1,qa p 2,163⟩,⟨2,jK d m s,275⟩]/\q=3):=by
 obtain⟨p,d,m,s,a,b,n,gx,gy,th,bits,size,h1,h2,h3⟩:=agt hP k hk leg mD
 refine⟨p,d,m,s,a,b,n,gx,gy,th,bits,size,h1,h2,h3.dj fun v L q h=>⟨fun l=>if l=0 then 3 else l-1,.ptr 0 0,[⟨0,vZ k p a b n gx gy th bits size leg 1,158⟩,⟨1,qa p 2,163⟩,⟨2,jK d m s,275⟩],3,?_,rfl,rfl,rfl⟩⟩
 obtain⟨rfl,⟨sa,sb,sn,sx,sy,rfl⟩,rfl⟩:=h
 exact dH ⟨rfl,rfl,trivial⟩ ⟨rfl,rfl,rfl,rfl,rfl,rfl,rfl,rfl,rfl,rfl,rfl,rfl,trivial⟩ rfl rfl rfl
end Go.Proofs.YtfocopihipejfaaGreat
