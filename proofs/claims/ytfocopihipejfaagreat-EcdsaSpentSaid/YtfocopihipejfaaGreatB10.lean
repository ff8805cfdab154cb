/-
  This text proves what these texts prove: Nj, MtA, Oa, Oc, Vgb. Conditions: those of each theorem.
-/
import Derived.Test.YtfocopihipejfaaGreatB09
import Derived.Test.YtfocopihipejfaaGreatB06
set_option maxHeartbeats 8000000
set_option linter.all false
namespace Go.Proofs.YtfocopihipejfaaGreat
open Go.Vg Go.RowKit
set_option maxRecDepth 200000
set_option cbv.maxSteps 100000000
def qI(f:Nat->Nat):Array Value:= #[.int .u64 (.ofNat (f 0)),.int .u64 (.ofNat (f 1)),.int .u64 (.ofNat (f 2)),.int .u64 (.ofNat (f 3)),.int .u64 (.ofNat (f 4)),.int .u64 (.ofNat (f 5)),.int .u64 (.ofNat (f 6)),.int .u64 (.ofNat (f 7)),.int .u64 (.ofNat (f 8))]
theorem alR{k:Nat}(h:k<9):k=0\/k=1\/k=2\/k=3\/k=4\/k=5\/k=6\/k=7\/k=8:=by omega
theorem aew(f:Nat->Nat)(k:Nat)(h:k<9):(qI f)[k]? =some (.int .u64 (.ofNat (f k))):=by
 rcases alR h with rfl|rfl|rfl|rfl|rfl|rfl|rfl|rfl|rfl<;>rfl
def lP(f g:Nat->Nat):Bool:=(List.range 9).all fun k=>Int.ofNat (f k)==Int.ofNat (g k)
theorem ug{f g:Nat->Nat}(hf:Wn 9 f)(hg:Wn 9 g):lP f g=decide (V 9 f=V 9 g):=by
 rw[Ya,Q7]
 simp only[lP,gf,tQ,vT]
 constructor
 ·exact fun h=>Dg.jP 9 fun i hi=>LN (h i hi)
 ·exact fun h k hk=>aK Int.ofNat (Dg.acT (by decide) hf hg h k hk)
theorem aiw(f g:Nat->Nat)(d:Nat)(w:World):(Op.equalIn (d+2) 29 (.agg (qI f)) (.agg (qI g))).run Tryz.prog w= .ok (lP f g) w:=
 aiy (m:=1) Tryz.underlying29 (by kernel_rfl) fun i hi=>⟨_,_,ac7 (by kernel_rfl) (by rw[fh];exact aew f i hi),ac7 (by kernel_rfl) (by rw[fh];exact aew g i hi),run_equalIn_int w d 28 .u64 .u64 (Int.ofNat (f i)) (Int.ofNat (g i)) Tryz.underlying28⟩
theorem MN(f g:Nat->Nat)(w:World):(Op.equalIn 10000 31 (.agg (qI f)) (.agg (qI g))).run Tryz.prog w= .ok (lP f g) w:=by
 rw[run_equalIn_struct w 9999 31 _ _ (by kernel_rfl) (by kernel_rfl)]
 have hf:(Tryz.prog.fieldsOf 31).toList=[{name:= "W",type:=29,offset:=0,embedded:=false,tag:= "",pkgPath:= "",byteOffset:=0}]:=by kernel_rfl
 have hp:∀h:Nat->Nat,(part 29 (qI h) 0).run Tryz.prog w= .ok (.agg (qI h)) w:=fun h=>by kernel_rfl
 rw[hf]
 simp only[Op.eqFields,Sem.run_bind,Sem.run_ite,hp,Result.andThen_ok,aiw f g 9997 w]
 cases lP f g<;>rfl
theorem V9{P:Program}(hP:P=Tryz.prog){g:G}{F:FF}{L:LL}{n:Nat}{o:Oper}{x y:Operand}{yt:TypeId}(ho:o.op= .binOp .eql 31 x y yt){m0 N:Nat}{ms:List Nat}(hg:GI g m0 ms N)(aA:dD N o.dst=true){a b:Nat->Nat}{r:Bool}(hr:r=lP a b)
 (hx:ev (Vg.look F) x=some (.agg (ws a 9))) (hy:ev (Vg.look F) y=some (.agg (ws b 9))) {K:FF->LL->Nat->Prop} (hK:K (cH F o.dst (.bool r)) L n):Step g P o K F L n:=by
 subst hP hr
 refine Cy hg aA (fun β act W hm hf=> ?_) hK
 obtain⟨e1,_⟩:=cq hf hx
 obtain⟨e2,_⟩:=cq hf hy
 refine⟨?_,trivial⟩
 have h1:act.eval x= .agg (qI a):=e1
 have h2:act.eval y= .agg (qI b):=e2
 have h4:Tryz.prog.eqGuardType Tryz.prog.depth 31=false:=by kernel_rfl
 have h3:∀xs ys,(eqGuard .eql 31 x y (.agg xs) (.agg ys)).run Tryz.prog W= .ok () W:=fun xs ys=>run_eqGuard_agg W .eql 31 x y xs ys h4
 unfold execOp
 simp only[ho,h1,h2,Sem.run_bind,h3,Result.andThen_ok,run_eql_struct,MN,Sem.run_pure,den]
theorem ME{P:Program}(hP:P=Tryz.prog)(m:Nat->Nat)(hm:Wn 9 m)(r:Bool)(hr:r=decide (V 9 m=0)):
 ah P 155 [.ptr 0 0] [⟨0,ws m 9,31⟩] 1 [] (fun v _ _=>v= .bool r):=by
 have h0:r=lP m (fun _=>0):=by
  rw[hr,ug hm (fun _ _=>by decide)]
  rfl
 refine aq hP Tryz.func155 (ak _ rfl) (aD rfl) ?_
 intro A g K hA hg hK
 cases A
 cbv
 refine V9 hP rfl hg rfl (a:=m) (b:=fun _=>0) h0 rfl rfl ?_
 cbv
 exact hK _ _ _ rfl
theorem Mt{P:Program}(hP:P=Tryz.prog)(m:Nat->Nat)(n:Nat)(hm:Wn 9 m)(hn:Used 9 m n)(h0:0<n):
 ∃d s,Dv m d n s/\ah P 138 [.agg (ws m 9)] [] 0 [] (fun v L k=>v= .agg [.ptr 2 0]/\L=[⟨1,[.ptr 2 0],161⟩,⟨0,ws m 9,31⟩,⟨2,jK d n s,275⟩]/\k=3):=by
 obtain⟨d,s,hD,hO⟩:=Zt hP m n hm hn h0
 refine⟨d,s,hD,?_⟩
 refine aq hP Tryz.func138 (ak _ rfl) (aD rfl) ?_
 intro A g K hA hg hK
 cases A
 cbv
 refine gQ rfl hg rfl rfl hO id rfl ⟨rfl,trivial⟩ rfl rfl rfl ?_
 rintro _ _ _ ⟨rfl,rfl,rfl⟩ _
 cbv
 exact hK _ _ _ ⟨rfl,rfl,rfl⟩
theorem Fy{P:Program}(hP:P=Tryz.prog)(m d:Nat->Nat)(n s:Nat)(hD:Dv m d n s)(a b r:Nat->Nat)(ha:Wn 9 a)(hb:Wn 9 b)(hr:Wn 9 r)(cG:V 9 r=V 9 a*V 9 b%V 9 m):
 ah P 148 [.agg [.ptr 0 0],.agg (ws a 9),.agg (ws b 9)] [⟨0,jK d n s,275⟩] 1 [] (fun v _ _=>v= .agg (ws r 9)):=by
 have sQ:V 9 a*V 9 b<0x10000000000000000^18:=cg (CS (eg ha) (eg hb)) (pO (by rw[<-dV]))
 obtain⟨w,hw,AB⟩:=cD 18 _ sQ
 obtain⟨k,hk⟩:=A9 w 18
 have aa6:=hk.1
 obtain⟨q,hq,mF⟩:=cD 18 (V k w/V 9 m) (eB (gq _ _) (by rw[<-xV hk];exact eg hw))
 have hM:=agr hP a b w ha hb hw AB
 have hL:=age hP (t:=223) w k hk
 have hV:=Zf hP (t:=223) m d n s hD w k (fun j hj=>hw j (by omega)) aa6 q r hq hr mF (by rw[cG,<-AB,xV hk])
 clear sQ AB mF cG hq hr ha hb hD
 refine aq hP Tryz.func148 (ak _ rfl) (aD rfl) ?_
 intro A g K hA hg hK
 cases A
 cbv
 refine fe rfl hg rfl rfl hM ?_
 rintro _ _ _ rfl
 cbv
 refine cm hP hA hg ?_
 cbv
 refine eV (sI hg rfl rfl rfl rfl rfl (za (hP▸aI) (show av 221=some _ from rfl) rfl _ _)) ?_
 cbv
 refine aY hg hL (fun l=>l+5) ⟨rfl,trivial⟩ ?_
 cbv
 refine eV (sI hg rfl rfl rfl rfl rfl (VW (hP▸aI) (show av 221=some _ from rfl) rfl _ _ aa6)) ?_
 cbv
 refine aY hg hV (fun l=>5*l) ⟨rfl,rfl,trivial⟩ ?_
 cbv
 exact hK _ _ _ rfl
theorem QJ{P:Program}(hP:P=Tryz.prog)(a m q r:Nat->Nat)(ha:Wn 9 a)(hm:Wn 9 m)(iH:0<V 9 m)(hq:Wn 9 q)(hr:Wn 9 r)(mF:V 9 q=V 9 a/V 9 m)(cG:V 9 r=V 9 a%V 9 m):
 ah P 122 [.agg (ws a 9),.agg (ws m 9)] [] 0 [] (fun v _ _=>v= .aR [.agg (ws q 9),.agg (ws r 9),.int .i64 0]):=by
 obtain⟨n,hn⟩:=A9 m 9
 have An:0<n:=by
  rcases Nat.eq_zero_or_pos n with h|h
  ·rw[xV hn,h]at iH;exact absurd iH (iO 0)
  ·exact h
 obtain⟨d,s,hD,hO⟩:=Zt hP m n hm hn An
 have hZ:=ME hP m hm false (da (Nat.pos_iff_ne_zero.1 iH)).symm
 obtain⟨q2,gv⟩:=aa (fun j=>if j<9 then q j else 0:Nat->Nat)
 have abk:Wn 18 q2:=fun j _=>by
  rw[gv];show(if j<9 then q j else 0)<_
  split
  ·exact hq j (by omega)
  ·decide
 have abj:V 18 q2=V 9 q:=by
  have h1:V 18 q2=V 9 q2:=Dg.rM q2 9 9 fun i h1 _=>by rw[gv];exact af (by omega)
  have h2:V 9 q2=V 9 q:=Dg.jP 9 fun i hi=>by rw[gv];exact aj hi
  exact h1.trans h2
 have hV:=af1 hP (t:=31) m d n s hD a 9 ha (aE 9) q2 r abk hr (abj.trans mF) cG
 have Au:ws q2 9=ws q 9:=rK fun j _ hj=>by rw[gv];simp only[aj (show j<9 by omega)]
 clear gv abk abj mF cG hq hr hD ha hm iH
 refine aq hP Tryz.func122 (ak _ rfl) (aD rfl) ?_
 intro A g K hA hg hK
 cases A
 cbv
 refine fT rfl hg rfl rfl hZ (fun l=>l+1) rfl ⟨rfl,trivial⟩ ?_
 rintro _ _ _ rfl
 cbv
 refine cm hP hA hg ?_
 cbv
 refine qF (n':=5) (pZ rfl hg rfl rfl hO (fun l=>l+1) rfl ⟨rfl,trivial⟩ rfl (val:= .ptr 1 0) (NB:=[⟨1,jK d n s,275⟩]) (n:=4) (n1:=2) (fun _ _ _ h=>⟨h.1,h.2.1,h.2.2⟩) rfl rfl (fun l h1 h2=>⟨_,kd,(by show 1=l;omega)⟩)) (by decide) rfl (PW.2 ⟨Hw,LR⟩) ?_
 cbv
 refine eV (sI hg rfl rfl rfl rfl rfl (za (hP▸aI) (show av 29=some _ from rfl) rfl _ _)) ?_
 cbv
 refine aY hg hV (fun l=>4*(1-l)) ⟨rfl,rfl,trivial⟩ ?_
 cbv
 refine EG (hP▸aI) hA hg (hP▸mixed) rfl rfl ?_
 cbv
 refine eV (sI hg rfl rfl rfl rfl rfl (VW (hP▸aI) (show av 221=some _ from rfl) rfl _ _ (j:=9) (by decide))) ?_
 cbv
 refine eV (aim (hP▸aI) hg rfl rfl (show av 29=some _ from rfl) rfl rfl (by decide)) ?_
 cbv
 refine hK _ _ _ ?_
 rw[<-Au]
 rfl
end Go.Proofs.YtfocopihipejfaaGreat
namespace Dg
/-! Montgomery's products-/
theorem ahy{m:Nat}(h:m%2=1)(k:Nat):Nat.Coprime (2^k) m:=by
 apply Nat.Coprime.pow_left
 have h1:Nat.gcd 2 m∣2:=LX 2 m
 have h2:=mg (by omega) h1
 have h3:Nat.gcd 2 m≠0:=by
  intro h0
  have:=Nat.eq_zero_of_gcd_eq_zero_left h0
  omega
 have h4:Nat.gcd 2 m≠2:=by
  intro h0
  have h5:Nat.gcd 2 m∣m:=LY 2 m
  rw[h0]at h5
  omega
 show Nat.gcd 2 m=1
 omega
theorem ag_{m R x y:Nat}(hc:Nat.Coprime R m)(hx:x<m)(hy:y<m)(h:x*R%m=y*R%m):x=y:=by
 rcases Nat.le_total x y with hle|hle
 ·have h1:m∣(y-x)*R:=by
   rw[Fl]
   exact vh (YB h.symm)
  have h2:=hc.symm.dvd_of_dvd_mul_right h1
  rcases Nat.eq_zero_or_pos (y-x)with h3|h3
  ·omega
  ·have:=mg h3 h2
   omega
 ·have h1:m∣(x-y)*R:=by
   rw[Fl]
   exact vh (YB h)
  have h2:=hc.symm.dvd_of_dvd_mul_right h1
  rcases Nat.eq_zero_or_pos (x-y)with h3|h3
  ·omega
  ·have:=mg h3 h2
   omega
theorem alG{m x:Int}{k:Nat}(h:(2:Int)^k∣m*x-1):(2:Int)^(2*k)∣m*(x*(2-m*x))-1:=by
 obtain⟨c,hc⟩:=h
 refine⟨-(c*c),?_⟩
 have e:(2:Int)^(2*k)=2^k*2^k:=by rw[YD,Int.pow_add]
 rw[e]
 have:m*x=1+2^k*c:=by omega
 generalize (2:Int)^k=P at *
 have h2:m*(x*(2-m*x))=(m*x)*(2-m*x):=by grind
 rw[h2,this]
 grind
theorem apD{t a b q m B T:Nat}(ht:t<m+b)(ha:a<B)(hq:q<B)(h:T*B=t+a*b+q*m):T<m+b:=by
 have h1:a*b<=(B-1)*b:=ea _ (by omega)
 have h2:q*m<=(B-1)*m:=ea _ (by omega)
 have h3:T*B<(m+b)*B:=by
  rw[h]
  have e:(m+b)*B=m+b+((B-1)*b+(B-1)*m):=by
   obtain⟨c,rfl⟩:∃c,B=c+1:=⟨B-1,by omega⟩
   rw[oC];grind
  omega
 exact LZ h3
theorem UJ{t m less B:Nat}(hl:(m*less+1)%B=0):(t+(t%B*less%B)*m)%B=0:=by
 have e:(t+(t%B*less%B)*m)%B=(t*(m*less+1))%B:=by
  rw[sf,kM,xR,<-kM,eZ,kM,xR,<-kM,<-sf]
  congr 1;grind
 rw[e,kM,hl];simp
end Dg
namespace Dg
theorem aly{T T' s a b q m B i:Nat}(h1:T*B^i%m=s*b%m)(h2:T'*B=T+a*b+q*m):T'*B^(i+1)%m=(s+a*B^i)*b%m:=by
 have e1:T'*B^(i+1)=T*B^i+a*b*B^i+q*B^i*m:=by
  rw[br,bJ (B^i) B,<-eZ,h2];grind
 rw[e1,tR,sf,h1,<-sf,cw]
 congr 2
 grind
theorem alw{T r a b m R:Nat}(h1:T*R%m=a*b%m)(h2:T<2*m)(hr:r=if m<=T then T-m else T):r<m/\r*R%m=a*b%m:=by
 split at hr
 ·refine⟨by omega,?_⟩
  rw[<-h1,hr]
  have e:T*R=(T-m)*R+R*m:=by
   rw[Fl]
   have:=ea R (show m<=T by omega)
   rw[bJ R m];omega
  rw[e,tR]
 ·exact⟨by omega,by rw[hr,h1]⟩
section
variable {m R:Nat}(hc:Nat.Coprime R m)(hm:0<m)
include hc hm
end
end Dg
namespace Go.Proofs.YtfocopihipejfaaGreat
open Go.Vg Go.RowKit
set_option maxRecDepth 200000
set_option cbv.maxSteps 100000000
def nE(m:Nat->Nat)(n less:Nat)(rr:Nat->Nat):List SV:=aw .u64 (fun j=>Int.ofNat (m j)) 0 9++([.int .i64 (.ofNat n),.int .u64 (.ofNat less)]++aw .u64 (fun j=>Int.ofNat (rr j)) 0 9)
theorem Ez(m:Nat->Nat)(n less:Nat)(rr:Nat->Nat)(k:Nat):an k (nE m n less rr)=true:=mX (AS _ _ _ _ _) (mX rfl (AS _ _ _ _ _))
theorem adu{a b c t h l l1 c1 w c2:Nat}(ha:a<0x10000000000000000)(hb:b<0x10000000000000000)(hc:c<0x10000000000000000)(ht:t<0x10000000000000000)(hh:h=a*b/0x10000000000000000)(hl:l=a*b%0x10000000000000000)
 (cQ:l1=(l+c+0)%0x10000000000000000) (eA:c1=(l+c+0)/0x10000000000000000) (hw:w=(t+l1+0)%0x10000000000000000) (dP:c2=(t+l1+0)/0x10000000000000000):
 a*b+c+t=w+(h+c1+c2)*0x10000000000000000/\h+c1<0x10000000000000000/\h+c1+c2<0x10000000000000000/\w<0x10000000000000000:=by
 have h1:a*b<=0xffffffffffffffff*0xffffffffffffffff:=mV (by omega) (by omega)
 generalize a*b=p at *
 omega
theorem adt{Vq Vt D a b c P w t c':Nat}(hv:Vq+c*P=Vt+a*D)(e:a*b+c+t=w+c'*0x10000000000000000):Vq+w*P+c'*(P*0x10000000000000000)=Vt+t*P+a*(D+b*P):=by
 have h1:Vq+w*P+c'*(P*0x10000000000000000)=Vq+(w+c'*0x10000000000000000)*P:=by grind
 rw[h1,<-e]
 have h2:Vq+(a*b+c+t)*P=(Vq+c*P)+(a*b+t)*P:=by grind
 rw[h2,hv]
 grind
theorem ads{Vq Vt X c P w t0 t1 c' B:Nat}(hP:0<P)(hB:0<B)(hv:Vq+c*P=Vt+X)(e:c+t0=w+c'*B)(hm:Vt+t0*P+t1*(P*B)+X<P*B*B):t1+c'<B/\Vq+w*P+(t1+c')*(P*B)=Vt+t0*P+t1*(P*B)+X:=by
 have h1:Vq+w*P+(t1+c')*(P*B)=Vt+t0*P+t1*(P*B)+X:=by
  have e1:Vq+w*P+(t1+c')*(P*B)=Vq+(w+c'*B)*P+t1*(P*B):=by grind
  rw[e1,<-e]
  have e2:Vq+(c+t0)*P+t1*(P*B)=(Vq+c*P)+t0*P+t1*(P*B):=by grind
  rw[e2,hv];omega
 refine⟨?_,h1⟩
 rw[<-h1]at hm
 rcases Nat.lt_or_ge (t1+c') B with h|h
 ·exact h
 ·have:=ea (P*B) h
  rw[bJ B]at this
  omega
theorem agS{P:Program}(hP:P=Tryz.prog){ty:TypeId}(m b t rr:Nat->Nat)(n less a:Nat)(hm:Wn 9 m)(hb:Wn 9 b)(ht:Wn 11 t)(hn:n<=9)(ha:a<0x10000000000000000)(Ji:V (n+2) t+a*V n b<0x10000000000000000^(n+2)):
 ah P 180 [.ptr 0 0,.ptr 1 0,.int .u64 (.ofNat a),.ptr 2 0] [⟨0,nE m n less rr,220⟩,⟨1,ws t 11,ty⟩,⟨2,ws b 9,31⟩] 3 [1] (fun v L q=>∃s,Wn 11 s/\(∀j,n+1<j->s j=t j)/\V (n+2) s=V (n+2) t+a*V n b/\L=[⟨0,nE m n less rr,220⟩,⟨1,ws s 11,ty⟩,⟨2,ws b 9,31⟩]/\q=3):=by
 refine aq hP Tryz.func180 (ak _ rfl) (aD rfl) ?_
 intro A g K hA hg hK
 obtain⟨bin,_,cmp,_,_,ix,_,_,_,_,_,_,_,_,_,off⟩:=A
 have gB:=fun(i:Nat) (h:i<9)=>ei hA .u64 (n:=9) b h
 have gZ:=fun(f:Nat->Nat) (i:Nat) (h:i<11)=>ei hA .u64 (n:=11) f h
 have sZ:=fun(f f':Nat->Nat) (i v:Nat) (h:i<11) (e:f'=(fun j=>if j=i then v else f j))=>gX hA .u64 (n:=11) f f' h e
 simp only[aw,Nat.reduceAdd,du,cM]at gB gZ sZ
 have f1:∀i,i<n->cmp .lss (.ofNat i) (.ofNat n)=true:=fun i h=>cZ hA h
 have iD:cmp .lss (.ofNat n) (.ofNat n)=false:=bM hA (by omega)
 have f2:∀i,i<9->ix (.ofNat i) 9=some i:=fun i h=>bB hA h
 have iq:∀i,i<11->ix (.ofNat i) 11=some i:=fun i h=>bB hA h
 have f3:∀i,off 0 i 1=i:=fun i=>(dh hA 0 i 1).trans (by omega)
 have f6:∀i,i<10->bin .add .i64 (.ofNat i) 1=Int.ofNat (i+1):=fun i h=>gP hA (by omega)
 have f7:∀x y,x+y<0x10000000000000000->bin .add .u64 (.ofNat x) (.ofNat y)=Int.ofNat (x+y):=fun x y h=>CV hA h
 cbv
 refine bH (Nat×(Nat->Nat)×Nat) (fun s=>s.1<=n/\Wn 11 s.2.1/\s.2.2<0x10000000000000000/\(∀j,s.1<=j->s.2.1 j=t j)/\V s.1 s.2.1+s.2.2*0x10000000000000000^s.1=V s.1 t+a*V s.1 b) (fun s=>n-s.1) (fun s=> [(18,.int .i64 (.ofNat s.1)),(8,.int .u64 (.ofNat s.2.2))]) [0,1,2,3,17] (fun s=> [(1,ws s.2.1 11)]) (0,t,0) ⟨bf _,ht,by show 0<_;decide,fun _ _=>rfl,by show 0+0*_=0+a*0;omega⟩ ?_ ?_
 ·exact a_
 rintro⟨i,q,c⟩ ⟨hi,hq,hc,iV,hv⟩
 have hi:i<=n:=hi
 have hq:Wn 11 q:=hq
 have hc:c<0x10000000000000000:=hc
 have iV:∀j,i<=j->q j=t j:=iV
 have hv:V i q+c*0x10000000000000000^i=V i t+a*V i b:=hv
 by_cases ab:i<n
 ·have i9:i<9:=by omega
  have i11:i<11:=by omega
  obtain⟨h,hh⟩:=aa (a*b i/0x10000000000000000)
  obtain⟨l,hl⟩:=aa (a*b i%0x10000000000000000)
  obtain⟨l1,cQ⟩:=aa ((l+c+0)%0x10000000000000000)
  obtain⟨c1,eA⟩:=aa ((l+c+0)/0x10000000000000000)
  obtain⟨w,hw⟩:=aa ((q i+l1+0)%0x10000000000000000)
  obtain⟨c2,dP⟩:=aa ((q i+l1+0)/0x10000000000000000)
  obtain⟨w1,w2,w3,w4⟩:=adu ha (hb i i9) hc (hq i i11) hh hl cQ eA hw dP
  have e7:=f7 h c1 w2
  obtain⟨cc,oa⟩:=aa (h+c1)
  rw[<-oa]at e7 w1 w2 w3
  have e8:=f7 cc c2 w3
  obtain⟨cd,Nt⟩:=aa (cc+c2)
  rw[<-Nt]at e8 w1 w3
  obtain⟨q',dt⟩:=aa (fun j=>if j=i then w else q j:Nat->Nat)
  have e5:=sZ q q' i w i11 dt
  cbv
  rw[f1 i ab]
  cbv
  rw[f2 i i9]
  cbv
  rw[f3 i,gB i i9]
  cbv
  refine fe rfl hg rfl rfl (Ic hP a (b i) h l ha (hb i i9) hh hl) ?_
  rintro _ _ _ rfl
  cbv
  refine G' rfl hg rfl rfl (u9 hP l c 0 l1 c1 (by decide) cQ eA) ?_
  cbv
  rw[e7]
  cbv
  refine cf hP hA hg fun mk _=> ?_
  cbv
  rw[iq i i11]
  cbv
  rw[f3 i,gZ q i i11]
  cbv
  refine eV (zM rfl hg rfl rfl (u9 hP (q i) l1 0 w c2 (by decide) hw dP)) ?_
  cbv
  rw[iq i i11]
  cbv
  rw[f3 i,e5]
  cbv
  rw[e8]
  cbv
  rw[f6 i (by omega)]
  refine⟨(i+1,q',cd),id,⟨ab,?_,w3,?_,?_⟩,(by show n-(i+1)<n-i;omega),?_⟩
  ·intro j hj
   show q' j<_
   rw[dt]
   by_cases eM:j=i
   ·simp only[eM,aj];exact w4
   ·simp only[af eM];exact hq j hj
  ·intro j hj
   have hj:i+1<=j:=hj
   show q' j=t j
   rw[dt]
   simp only[af (show j≠i by omega)]
   exact iV j (by omega)
  ·show V (i+1) q'+cd*0x10000000000000000^(i+1)=V (i+1) t+a*V (i+1) b
   have e9:V (i+1) q'=V i q+w*0x10000000000000000^i:=by
    rw[iX,dt]
    simp only[aj]
    congr 1
    exact Dg.jP i fun k hk=>af (by omega)
   rw[e9,iX t,iX b,br]
   rw[iV i (aE _)]at w1
   exact adt hv w1
  ·exact a_
 ·obtain rfl:i=n:=by omega
  obtain⟨w,hw⟩:=aa ((q i+c+0)%0x10000000000000000)
  obtain⟨c2,dP⟩:=aa ((q i+c+0)/0x10000000000000000)
  have J4:=iV i (aE _)
  have TK:=iV (i+1) (by omega)
  have BY:=ht i (by omega)
  have w1:c+t i=w+c2*0x10000000000000000:=by rw[hw,dP,J4];omega
  have D5:(0x10000000000000000:Nat)^(i+2)=0x10000000000000000^i*0x10000000000000000*0x10000000000000000:=by rw[br,br]
  have Ab:∀f,V (i+2) f=V i f+f i*0x10000000000000000^i+f (i+1)*(0x10000000000000000^i*0x10000000000000000):=fun f=>by rw[iX,iX,br]
  rw[Ab t,D5]at Ji
  obtain⟨w2,w3⟩:=ads (ew (by decide)) (by decide) hv w1 Ji
  obtain⟨q',dt⟩:=aa (fun j=>if j=i then w else q j:Nat->Nat)
  have e5:=sZ q q' i w (by omega) dt
  obtain⟨i1,dQ⟩:=aa (i+1)
  obtain⟨q2,gv⟩:=aa (fun j=>if j=i1 then t i1+c2 else q' j:Nat->Nat)
  have e6:=sZ q' q2 i1 (t i1+c2) (by omega) gv
  have kV:q' i1=t i1:=by rw[dt,dQ];simp only[af (show i+1≠i by omega)];exact TK
  have e8:=f7 (t i1) c2 (by rw[dQ];exact w2)
  have g6:=f6 i (by omega)
  rw[<-dQ]at g6
  obtain⟨u,hu⟩:=aa (t i1+c2)
  rw[<-hu]at e8 e6
  cbv
  rw[iD]
  cbv
  refine cf hP hA hg fun mk _=> ?_
  cbv
  rw[iq i (by omega)]
  cbv
  rw[f3 i,gZ q i (by omega)]
  cbv
  refine eV (zM rfl hg rfl rfl (u9 hP (q i) c 0 w c2 (by decide) hw dP)) ?_
  cbv
  rw[iq i (by omega)]
  cbv
  rw[f3 i,e5]
  cbv
  refine cf hP hA hg fun mk _=> ?_
  cbv
  rw[g6]
  cbv
  rw[iq i1 (by omega)]
  cbv
  rw[f3 i1,gZ q' i1 (by omega),kV]
  cbv
  rw[e8]
  cbv
  rw[iq i1 (by omega)]
  cbv
  rw[f3 i1,e6]
  cbv
  refine hK _ _ _ ⟨q2,?_,?_,?_,rfl,rfl⟩
  ·intro j hj
   rw[gv,dt]
   show(if j=i1 then t i1+c2 else if j=i then w else q j)<_
   split
   ·rw[dQ];exact w2
   ·split
    ·rw[hw];exact ax _ (by decide)
    ·exact hq j hj
  ·intro j hj
   rw[gv,dt]
   show(if j=i1 then t i1+c2 else if j=i then w else q j)=t j
   rw[af (by omega),af (by omega)]
   exact iV j (by omega)
  ·rw[Ab q2,Ab t]
   have e9:V i q2=V i q:=by
    rw[gv,dt]
    exact Dg.jP i fun k hk=>by show(if k=i1 then t i1+c2 else if k=i then w else q k)=q k;rw[af (by omega),af (by omega)]
   have jT:q2 i=w:=by rw[gv,dt];show(if i=i1 then t i1+c2 else if i=i then w else q i)=w;rw[af (by omega),aj rfl]
   have kP:q2 (i+1)=t (i+1)+c2:=by rw[gv,<-dQ];simp only[aj]
   rw[e9,jT,kP]
   exact w3
theorem agT{P:Program}(hP:P=Tryz.prog){ty:TypeId}(m t rr:Nat->Nat)(n less a:Nat)(hm:Wn 9 m)(ht:Wn 11 t)(hn:n<=9)(ha:a<0x10000000000000000)(Ji:V (n+2) t+a*V n m<0x10000000000000000^(n+2)):
 ah P 180 [.ptr 0 0,.ptr 1 0,.int .u64 (.ofNat a),.ptr 0 0] [⟨0,nE m n less rr,220⟩,⟨1,ws t 11,ty⟩] 2 [1] (fun v L q=>∃s,Wn 11 s/\(∀j,n+1<j->s j=t j)/\V (n+2) s=V (n+2) t+a*V n m/\L=[⟨0,nE m n less rr,220⟩,⟨1,ws s 11,ty⟩]/\q=2):=by
 refine aq hP Tryz.func180 (ak _ rfl) (aD rfl) ?_
 intro A g K hA hg hK
 obtain⟨bin,_,cmp,_,_,ix,_,_,_,_,_,_,_,_,_,off⟩:=A
 have gB:=fun(i:Nat) (h:i<9)=>IB hA .u64 (n:=9) m ([.int .i64 (.ofNat n),.int .u64 (.ofNat less)]++aw .u64 (fun j=>Int.ofNat (rr j)) 0 9) h
 have gZ:=fun(f:Nat->Nat) (i:Nat) (h:i<11)=>ei hA .u64 (n:=11) f h
 have sZ:=fun(f f':Nat->Nat) (i v:Nat) (h:i<11) (e:f'=(fun j=>if j=i then v else f j))=>gX hA .u64 (n:=11) f f' h e
 simp only[aw,Nat.reduceAdd,du,cM]at gB gZ sZ
 have f1:∀i,i<n->cmp .lss (.ofNat i) (.ofNat n)=true:=fun i h=>cZ hA h
 have iD:cmp .lss (.ofNat n) (.ofNat n)=false:=bM hA (by omega)
 have f2:∀i,i<9->ix (.ofNat i) 9=some i:=fun i h=>bB hA h
 have iq:∀i,i<11->ix (.ofNat i) 11=some i:=fun i h=>bB hA h
 have f3:∀i,off 0 i 1=i:=fun i=>(dh hA 0 i 1).trans (by omega)
 have f6:∀i,i<10->bin .add .i64 (.ofNat i) 1=Int.ofNat (i+1):=fun i h=>gP hA (by omega)
 have f7:∀x y,x+y<0x10000000000000000->bin .add .u64 (.ofNat x) (.ofNat y)=Int.ofNat (x+y):=fun x y h=>CV hA h
 cbv
 refine bH (Nat×(Nat->Nat)×Nat) (fun s=>s.1<=n/\Wn 11 s.2.1/\s.2.2<0x10000000000000000/\(∀j,s.1<=j->s.2.1 j=t j)/\V s.1 s.2.1+s.2.2*0x10000000000000000^s.1=V s.1 t+a*V s.1 m) (fun s=>n-s.1) (fun s=> [(18,.int .i64 (.ofNat s.1)),(8,.int .u64 (.ofNat s.2.2))]) [0,1,2,3,17] (fun s=> [(1,ws s.2.1 11)]) (0,t,0) ⟨bf _,ht,by show 0<_;decide,fun _ _=>rfl,by show 0+0*_=0+a*0;omega⟩ ?_ ?_
 ·exact a_
 rintro⟨i,q,c⟩ ⟨hi,hq,hc,iV,hv⟩
 have hi:i<=n:=hi
 have hq:Wn 11 q:=hq
 have hc:c<0x10000000000000000:=hc
 have iV:∀j,i<=j->q j=t j:=iV
 have hv:V i q+c*0x10000000000000000^i=V i t+a*V i m:=hv
 by_cases ab:i<n
 ·have i9:i<9:=by omega
  have i11:i<11:=by omega
  obtain⟨h,hh⟩:=aa (a*m i/0x10000000000000000)
  obtain⟨l,hl⟩:=aa (a*m i%0x10000000000000000)
  obtain⟨l1,cQ⟩:=aa ((l+c+0)%0x10000000000000000)
  obtain⟨c1,eA⟩:=aa ((l+c+0)/0x10000000000000000)
  obtain⟨w,hw⟩:=aa ((q i+l1+0)%0x10000000000000000)
  obtain⟨c2,dP⟩:=aa ((q i+l1+0)/0x10000000000000000)
  obtain⟨w1,w2,w3,w4⟩:=adu ha (hm i i9) hc (hq i i11) hh hl cQ eA hw dP
  have e7:=f7 h c1 w2
  obtain⟨cc,oa⟩:=aa (h+c1)
  rw[<-oa]at e7 w1 w2 w3
  have e8:=f7 cc c2 w3
  obtain⟨cd,Nt⟩:=aa (cc+c2)
  rw[<-Nt]at e8 w1 w3
  obtain⟨q',dt⟩:=aa (fun j=>if j=i then w else q j:Nat->Nat)
  have e5:=sZ q q' i w i11 dt
  cbv
  rw[f1 i ab]
  cbv
  rw[f2 i i9]
  cbv
  rw[f3 i,gB i i9]
  cbv
  refine fe rfl hg rfl rfl (Ic hP a (m i) h l ha (hm i i9) hh hl) ?_
  rintro _ _ _ rfl
  cbv
  refine G' rfl hg rfl rfl (u9 hP l c 0 l1 c1 (by decide) cQ eA) ?_
  cbv
  rw[e7]
  cbv
  refine cf hP hA hg fun mk _=> ?_
  cbv
  rw[iq i i11]
  cbv
  rw[f3 i,gZ q i i11]
  cbv
  refine eV (zM rfl hg rfl rfl (u9 hP (q i) l1 0 w c2 (by decide) hw dP)) ?_
  cbv
  rw[iq i i11]
  cbv
  rw[f3 i,e5]
  cbv
  rw[e8]
  cbv
  rw[f6 i (by omega)]
  refine⟨(i+1,q',cd),id,⟨ab,?_,w3,?_,?_⟩,(by show n-(i+1)<n-i;omega),?_⟩
  ·intro j hj
   show q' j<_
   rw[dt]
   by_cases eM:j=i
   ·simp only[eM,aj];exact w4
   ·simp only[af eM];exact hq j hj
  ·intro j hj
   have hj:i+1<=j:=hj
   show q' j=t j
   rw[dt]
   simp only[af (show j≠i by omega)]
   exact iV j (by omega)
  ·show V (i+1) q'+cd*0x10000000000000000^(i+1)=V (i+1) t+a*V (i+1) m
   have e9:V (i+1) q'=V i q+w*0x10000000000000000^i:=by
    rw[iX,dt]
    simp only[aj]
    congr 1
    exact Dg.jP i fun k hk=>af (by omega)
   rw[e9,iX t,iX m,br]
   rw[iV i (aE _)]at w1
   exact adt hv w1
  ·exact a_
 ·obtain rfl:i=n:=by omega
  obtain⟨w,hw⟩:=aa ((q i+c+0)%0x10000000000000000)
  obtain⟨c2,dP⟩:=aa ((q i+c+0)/0x10000000000000000)
  have J4:=iV i (aE _)
  have TK:=iV (i+1) (by omega)
  have BY:=ht i (by omega)
  have w1:c+t i=w+c2*0x10000000000000000:=by rw[hw,dP,J4];omega
  have D5:(0x10000000000000000:Nat)^(i+2)=0x10000000000000000^i*0x10000000000000000*0x10000000000000000:=by rw[br,br]
  have Ab:∀f,V (i+2) f=V i f+f i*0x10000000000000000^i+f (i+1)*(0x10000000000000000^i*0x10000000000000000):=fun f=>by rw[iX,iX,br]
  rw[Ab t,D5]at Ji
  obtain⟨w2,w3⟩:=ads (ew (by decide)) (by decide) hv w1 Ji
  obtain⟨q',dt⟩:=aa (fun j=>if j=i then w else q j:Nat->Nat)
  have e5:=sZ q q' i w (by omega) dt
  obtain⟨i1,dQ⟩:=aa (i+1)
  obtain⟨q2,gv⟩:=aa (fun j=>if j=i1 then t i1+c2 else q' j:Nat->Nat)
  have e6:=sZ q' q2 i1 (t i1+c2) (by omega) gv
  have kV:q' i1=t i1:=by rw[dt,dQ];simp only[af (show i+1≠i by omega)];exact TK
  have e8:=f7 (t i1) c2 (by rw[dQ];exact w2)
  have g6:=f6 i (by omega)
  rw[<-dQ]at g6
  obtain⟨u,hu⟩:=aa (t i1+c2)
  rw[<-hu]at e8 e6
  cbv
  rw[iD]
  cbv
  refine cf hP hA hg fun mk _=> ?_
  cbv
  rw[iq i (by omega)]
  cbv
  rw[f3 i,gZ q i (by omega)]
  cbv
  refine eV (zM rfl hg rfl rfl (u9 hP (q i) c 0 w c2 (by decide) hw dP)) ?_
  cbv
  rw[iq i (by omega)]
  cbv
  rw[f3 i,e5]
  cbv
  refine cf hP hA hg fun mk _=> ?_
  cbv
  rw[g6]
  cbv
  rw[iq i1 (by omega)]
  cbv
  rw[f3 i1,gZ q' i1 (by omega),kV]
  cbv
  rw[e8]
  cbv
  rw[iq i1 (by omega)]
  cbv
  rw[f3 i1,e6]
  cbv
  refine hK _ _ _ ⟨q2,?_,?_,?_,rfl,rfl⟩
  ·intro j hj
   rw[gv,dt]
   show(if j=i1 then t i1+c2 else if j=i then w else q j)<_
   split
   ·rw[dQ];exact w2
   ·split
    ·rw[hw];exact ax _ (by decide)
    ·exact hq j hj
  ·intro j hj
   rw[gv,dt]
   show(if j=i1 then t i1+c2 else if j=i then w else q j)=t j
   rw[af (by omega),af (by omega)]
   exact iV j (by omega)
  ·rw[Ab q2,Ab t]
   have e9:V i q2=V i q:=by
    rw[gv,dt]
    exact Dg.jP i fun k hk=>by show(if k=i1 then t i1+c2 else if k=i then w else q k)=q k;rw[af (by omega),af (by omega)]
   have jT:q2 i=w:=by rw[gv,dt];show(if i=i1 then t i1+c2 else if i=i then w else q i)=w;rw[af (by omega),aj rfl]
   have kP:q2 (i+1)=t (i+1)+c2:=by rw[gv,<-dQ];simp only[aj]
   rw[e9,jT,kP]
   exact w3
end Go.Proofs.YtfocopihipejfaaGreat
namespace Go.Vg
open Go.RowKit
/-! regions in which an operation's outcome is not fixed:all later ones wait for it-/
def v_(all:List Oper)(k:Nat):Option Nat:=
 match all[k]? with
 |some o=>o.dst
 |none=>none
def acP(o:Oper):Bool:=
 match o.op with
 | .select _ _=>false
 |_=>true
def ZS(all:List Oper)(m:List Nat)(c:Nat)(us:List Nat):Bool:=
 match all[c]? with
 |none=>false
 |some o=>(match o.guard with
  |none=>true
  |some (j,_)=>Nat.blt j c)&&acP o&&(List.range all.length).all (fun k=>(!Nat.blt c k||fO m k c)&&(!Nat.blt k c||fO m c k||eo us k))&&
  us.all fun k=>Nat.blt k c&&(v_ all k).isSome&&match all[k]? with
   |some o'=>quiet o'
   |none=>false
def Rz(all:List Oper)(F:FF)(o:Oper):Prop:=
 match o.guard with
 |none=>True
 |some (j,b)=>match v_ all j with
  |none=>False
  |some d=>match look F d with
   |some (.bool x)=>match x,b with
    |true,true=>True
    |false,false=>True
    |_,_=>False
   |_=>False
theorem aiX{ops:Array Oper}{F:FF}{o:Oper}(h:Rz ops.toList F o):Ry ops (oZ ops.toList o) F o:=by
 unfold Rz at h
 cases hg:o.guard with
 |none=>exact Or.inl hg
 |some q=>
  obtain⟨j,b⟩:=q
  rw[hg]at h
  simp only at h
  unfold v_ at h
  cases hj:ops.toList[j]? with
  |none=>simp[hj]at h
  |some oj=>
   cases hd:oj.dst with
   |none=>simp[hj,hd]at h
   |some d=>
    simp only[hj,hd]at h
    refine Or.inr ⟨j,b,oj,d,hg,by rw[<-E'];exact hj,hd,?_,?_⟩
    ·unfold oZ
     refine Yo _ ?_
     simp[hg,hj,hd]
    ·cases hl:look F d with
     |none=>simp[hl]at h
     |some v=>
      cases v with
      |bool x=>cases x<;>cases b<;>simp_all
      |_=>simp[hl]at h
def Ik(all:List Oper)(m:List Nat):Nat->List (Nat×List Nat)->Bool
 |_,[]=>true
 |lo,(c,us)::cs=>Nat.ble lo c&&ZS all m c us&&Ik all m (c+1) cs
def uB(all:List Oper)(sk:Nat->Bool)(n:Nat)(F:FF):List Nat->Prop
 | []=>True
 |k::us=>match v_ all k with
  |some t=>match look F t with
   |some v=>sk k=false/\gh n v=true/\uB all sk n F us
   |none=>False
  |none=>False
def EJ(all:List Oper)(F F':FF):List Nat->Prop
 | []=>True
 |k::us=>match v_ all k with
  |some t=>look F' t=look F t/\EJ all F F' us
  |none=>False
def A1(ts:List (Option Nat)):FF->FF
 | []=> []
 |(t,v)::F=>match ts.any fun x=>match x with
  |some y=>Nat.beq y t
  |none=>false with
  |true=>A1 ts F
  |false=>(t,v)::A1 ts F
section
variable (T:Nat->Option Ty)(A:Ar)(P:Program)(g:G)(n0:Nat)(ms:List Nat)(ck:Nat->Nat->Bool)
def Lk(all:List Oper)(m:List Nat)(K:FF->LL->Nat->Prop):List (Nat×List Nat)->(Nat->Bool)->(FF->Prop)->FF->LL->Nat->Prop
 | [],sk,ub,F,L,n=>oz T A P g n0 ms ck sk all m (fun F B N n=>ub F/\K F (B++tZ N) n) all 0 F L [] n
 |(c,us)::cs,sk,ub,F,L,n=>oz T A P g n0 ms ck sk all m (fun F B N n=>ub F/\uB all sk n F us/\match all[c]? with
  |some o=>Rz all F o/\Step g P o (fun F' L' n'=>EJ all F F' us/\Lk all m K cs (fun k=>Nat.ble k c&& !eo us k) (fun F2=>EJ all F F2 us) (A1 (us.map (v_ all)) F') L' n') F (B++tZ N) n
  |none=>False) (all.take c) 0 F L [] n
end
theorem UI(ts:List (Option Nat))(t:Nat):∀F:FF,look (A1 ts F) t=if some t∈ts then none else look F t
 | []=>by simp[A1,look]
 |(s,v)::F=>by
  have ih:=UI ts t F
  have hb:(ts.any fun x=>match x with|some y=>Nat.beq y s|none=>false)=decide (some s∈ts):=by
   rw[Ya,List.any_eq_true,Q7]
   constructor
   ·rintro⟨x,hx,h⟩
    cases x with
    |none=>cases h
    |some y=>rw[<-vj h];exact hx
   ·exact fun h=>⟨some s,h,zk s⟩
  simp only[A1,hb]
  by_cases hs:some s∈ts
  ·simp only[hs,decide_true,ih,look]
   by_cases aW:s=t
   ·subst aW;simp[hs]
   ·simp[aW]
  ·simp only[hs,decide_false,look,ih]
   by_cases aW:s=t
   ·subst aW;simp[hs]
   ·simp[aW]
theorem aer{all:List Oper}{sk:Nat->Bool}{n:Nat}{F:FF}{k t:Nat}{v:SV}:∀ {us:List Nat},uB all sk n F us->k∈us->v_ all k=some t->look F t=some v->bd (fun l=>l<n) v
 | [],_,h,_,_=>by cases h
 |j::us,hu,h,hd,hv=>by
  simp only[uB]at hu
  split at hu
  ·rename_i t' gJ
   split at hu
   ·rename_i v' jv
    rcases List.mem_cons.1 h with rfl|h
    ·rw[hd]at gJ
     obtain rfl:=ef gJ
     rw[hv]at jv
     obtain rfl:=ef jv
     exact Mj _ hu.2.1
    ·exact aer hu.2.2 h hd hv
   ·exact hu.elim
  ·exact hu.elim
theorem Ph{all:List Oper}{sk:Nat->Bool}{n:Nat}{F:FF}{k:Nat}:∀ {us:List Nat},uB all sk n F us->k∈us->sk k=false
 | [],_,h=>by cases h
 |j::us,hu,h=>by
  simp only[uB]at hu
  split at hu
  ·split at hu
   ·rcases List.mem_cons.1 h with rfl|h
    ·exact hu.1
    ·exact Ph hu.2.2 h
   ·exact hu.elim
  ·exact hu.elim
theorem VQ{all:List Oper}{F F':FF}{k t:Nat}:∀ {us:List Nat},EJ all F F' us->k∈us->v_ all k=some t->look F' t=look F t
 | [],_,h,_=>by cases h
 |j::us,hu,h,hd=>by
  simp only[EJ]at hu
  split at hu
  ·rename_i t' gJ
   rcases List.mem_cons.1 h with rfl|h
   ·rw[hd]at gJ
    obtain rfl:=ef gJ
    exact hu.1
   ·exact VQ hu.2 h hd
  ·exact hu.elim
section
variable {P:Program}{g:G}{T:Nat->Option Ty}
theorem aqU(hT:cI P T){ops:Array Oper}{ck:Nat->Nat->Bool}(hE:sc ops.toList (eR [] ops.toList) (fun _=>none) ck)(hd:∀o∈ops.toList,∀t,o.dst=some t->t<g.N){K:FF->LL->Nat->Prop}:
 ∀ (uc:List (Nat×List Nat)) (lo:Nat) (sk:Nat->Bool) (ub:FF->Prop) (F:FF) (L:LL) (n:Nat),Ik ops.toList (eR [] ops.toList) lo uc=true->lo<=ops.size->(∀l b,find L l=some b->l<n)->Lk T Ar.real P g g.n0 g.ms ck ops.toList (eR [] ops.toList) K uc sk ub F L n->
 ∃ (es:List E) (Fe:FF),lo<=es.length/\look Fe=FD es (fun _=>true) (look F)/\ub Fe/\(∀k e,es[k]? =some e->sk k=true->e=⟨none,.cR,[],none⟩)/\
   (∀k e o,es[k]? =some e->ops.toList[k]? =some o->sk k=false->e.d=o.dst/\(quiet o=true->e.nw=[]/\e.w=none))/\
   (∃lk mem fj nn,Fits P g ops es (look F) (find L) n lk mem fj nn (fun i=>sk i=false))/\Tree P g ops (Qn g K) (look F) (find L) n es (fun i=>sk i=false):=by
 intro uc
 induction uc with
 |nil=>
  intro lo sk ub F L n hc kp hL h
  have Lf:Told [] F L n F L [] n:=by
   refine⟨rfl,fun D l _=> ?_,fun k b hb=>(by cases hb),LR,hL,aE n,fun k e hk=>(by simp at hk)⟩
   simp[LD,fo,kB]
  obtain⟨es,F',B',N',n',jx,k1,k2,k3,k4,k5⟩:=Wi (g:=g) (P:=P) (T:=T) hE (fun i a h=>by cases h) ops.toList [] F L [] n ⟨[],by simp⟩ Lf (fun k e hk=>by simp at hk) h
  simp only[cM,pN,dB]at k2 k5
  have hlen:es.length=ops.size:=by rw[k1];simp
  have hF:=Ri hT hE hd hL (pO hlen) k4 k5 (fun i a h=>by cases h)
  refine⟨es,F',by omega,k2.fr,k3.1,fun k e he hs=> ?_,fun k e o he ho hs=> ?_,⟨_,_,_,_,hF⟩,Tree.fin hlen hF ?_⟩
  ·have hk:k<ops.toList.length:=by rw[tO,<-hlen];exact(iN.1 he).1
   rcases(k5 k e _ he (jo hk)).1 with h1|h1
   ·rw[h1.1]at hs;cases hs
   ·exact h1.2
  ·rcases(k5 k e o he ho).1 with h1|h1
   ·exact⟨h1.2.1,(k5 k e o he ho).2.2.2.2⟩
   ·rw[h1.1]at hs;cases hs
  ·intro γ a' W' fb aT
   have e1:LD es (fun _=>true) (find L)=find (B'++tZ N'):=by
    funext l
    rw[k2.bl (fun _=>true) l (fun _ _ _ _ _ _=>rfl),Mf]
   have ym:∀l,PD es (fun _=>true) (fun l=>l<n) l->l<n':=by
    intro l hl
    rcases vI.1 hl with h|⟨k,e,hk,_,b,hb,rfl⟩
    ·have:=k2.le;omega
    ·exact k2.pd k e hk b hb
   refine⟨F',B'++tZ N',n',k3.2,γ,?_,?_⟩
   ·rw[<-e1];exact fb.OY ym
   ·rw[k2.fr];exact aT.mono (fun _ _=>rfl) ym
 |cons p cs ih=>
  obtain⟨c,us⟩:=p
  intro lo sk ub F L n hc kp hL h
  simp only[Ik,dq]at hc
  obtain⟨⟨hlc,yC⟩,qj⟩:=hc
  have hlc:=g_ hlc
  have Lf:Told [] F L n F L [] n:=by
   refine⟨rfl,fun D l _=> ?_,fun k b hb=>(by cases hb),LR,hL,aE n,fun k e hk=>(by simp at hk)⟩
   simp[LD,fo,kB]
  obtain⟨es,F',B',N',n',jx,k1,k2,k3,k4,k5⟩:=Wi (g:=g) (P:=P) (T:=T) hE (fun i a h=>by cases h) (ops.toList.take c) [] F L [] n ⟨ops.toList.drop c,by simp⟩ Lf (fun k e hk=>by simp at hk) h
  simp only[cM,pN,dB]at k2 k5
  unfold ZS at yC
  cases ho:ops.toList[c]? with
  |none=>rw[ho]at yC;cases yC
  |some o=>
  rw[ho]at yC
  simp only[dq,gf,tQ,tO]at yC
  obtain⟨⟨⟨l7,D2⟩,abf⟩,jh⟩:=yC
  have iG:c<ops.size:=by simpa using(iN.1 ho).1
  have hlen:es.length=c:=by rw[k1,eY,tO];omega
  have AQ:∀ (j:Nat) (e:E) (o:Oper),es[j]? =some e->ops.toList[j]? =some o->_:=fun j e o he ho=>k5 j e o he (by
   have:j<c:=by rw[<-hlen];exact(iN.1 he).1
   rw[Fc,aj this];exact ho)
  have hF:=Ri hT hE hd hL (show es.length<=ops.size by omega) k4 AQ (fun i a h=>by cases h)
  obtain⟨k3a,Ot,KC⟩:=k3
  rw[ho]at KC
  simp only at KC
  obtain⟨k3g,KC⟩:=KC
  have Ni:∀k,k∈us->k<c/\∃o',ops.toList[k]? =some o'/\quiet o'=true/\∃t,v_ ops.toList k=some t/\o'.dst=some t:=by
   intro k hk
   obtain⟨⟨h1,h2⟩,h3⟩:=jh k hk
   refine⟨g_ h1,?_⟩
   cases fq:ops.toList[k]? with
   |none=>rw[fq]at h3;cases h3
   |some o'=>
    rw[fq]at h3
    obtain⟨t,ht⟩:=ae5.1 h2
    exact⟨o',rfl,h3,t,ht,by simpa [v_,fq]using ht⟩
  have F9:∀ (k:Nat) (e:E),k∈us->es[k]? =some e->e.nw=[]/\e.w=none/\bd (fun l=>l<n') e.v:=by
   intro k e hk he
   obtain⟨h1,o',h2,h3,t,h4,h5⟩:=Ni k hk
   obtain⟨q1,q2⟩:=(AQ k e o' he h2).2.2.2.2 h3
   have ta:e.d=some t:=by
    rcases(AQ k e o' he h2).1 with h6|h6
    ·rw[h6.2.1,h5]
    ·rw[Ph Ot hk]at h6;cases h6.1
   refine⟨q1,q2,aer Ot hk h4 ?_⟩
   rw[k2.fr]
   exact FL he rfl ta fun j e' hj eM=>hF.dst k j e e' t he hj (oE eM) ta
  have ym:∀l,PD es (fun _=>true) (fun l=>l<n) l->l<n':=by
   intro l hl
   rcases vI.1 hl with h|⟨k,e,hk,_,b,hb,rfl⟩
   ·have:=k2.le;omega
   ·exact k2.pd k e hk b hb
  have DJ:∀ (k:Nat) (e:E) (t:Nat),es[k]? =some e->e.d=some t->t<g.N:=by
   intro k e t he ht
   have hk:k<ops.toList.length:=by have:=(iN.1 he).1;simp;omega
   have d_:=jo hk
   rcases(AQ k e _ he d_).1 with h1|h1
   ·exact hd _ (LQ hk) t (by rw[<-h1.2.1];exact ht)
   ·rw[h1.2]at ht;cases ht
  have key:∀ (F2:FF) (L2:LL) (n2:Nat),(EJ ops.toList F' F2 us/\Lk T Ar.real P g g.n0 g.ms ck ops.toList (eR [] ops.toList) K cs (fun k=>Nat.ble k c&& !eo us k) (fun F3=>EJ ops.toList F' F3 us) (A1 (us.map (v_ ops.toList)) F2) L2 n2)->(∀l b,find L2 l=some b->l<n2)->
   ∃x:(Nat->Option SV)×List E×(Nat->Prop),PR es (fun k=>k∈us) F2 x.1 x.2.1 x.2.2/\Tree P g ops (Qn g K) x.1 (find L2) n2 x.2.1 x.2.2:=by
   rintro F2 L2 n2 ⟨jg,hv⟩ IQ
   obtain⟨p_,Fe,q1,q2,q3,q4,q5,⟨lk,mem,fj,nn,q6⟩,q7⟩:=ih (c+1) _ _ _ L2 n2 qj iG IQ hv
   refine⟨(_,p_,_),⟨?_,?_,?_,?_,by simp only;omega,?_⟩,q7⟩
   ·intro k e t hk he aA
    obtain⟨h1,o',h2,h3,t',h4,h5⟩:=Ni k hk
    have ta:e.d=some t':=by
     rcases(AQ k e o' he h2).1 with h6|h6
     ·rw[h6.2.1,h5]
     ·rw[Ph Ot hk]at h6;cases h6.1
    obtain rfl:t'=t:=ef (ta.symm.trans aA)
    refine⟨?_,?_⟩
    ·rw[VQ jg hk h4,k2.fr]
     exact FL he rfl ta fun j e' hj eM=>hF.dst k j e e' t' he hj (oE eM) ta
    ·show look (A1 _ F2) t'=none
     rw[UI,aj (iZ.2 ⟨k,hk,h4⟩)]
   ·intro t v hv
    have hv:look (A1 _ F2) t=some v:=hv
    rw[UI]at hv
    split at hv
    ·cases hv
    ·exact hv
   ·intro k e e' hk he lz
    obtain⟨h1,o',h2,h3,t',h4,h5⟩:=Ni k hk
    have ta:e.d=some t':=by
     rcases(AQ k e o' he h2).1 with h6|h6
     ·rw[h6.2.1,h5]
     ·rw[Ph Ot hk]at h6;cases h6.1
    have pE:(Nat.ble k c&& !eo us k)=false:=by rw[Ca.2 hk];simp
    obtain⟨r1,r2⟩:=q5 k e' o' lz h2 pE
    have Ah:look F' t'=some e.v:=by
     rw[k2.fr]
     exact FL he rfl ta fun j e' hj eM=>hF.dst k j e e' t' he hj (oE eM) ta
    have ajH:look Fe t'=some e'.v:=by
     rw[q2]
     exact FL lz rfl (by rw[r1,h5]) fun j e2 hj eM=>q6.dst k j e' e2 t' lz hj (oE eM) (by rw[r1,h5])
    have:=VQ q3 hk h4
    rw[Ah,ajH]at this
    exact⟨by rw[r1,h5,ta],ef this,r2 h3⟩
   ·intro k e' yJ hn lz
    rw[hlen]at yJ hn
    by_cases Tv:k∈us
    ·exact(hn ⟨Tv,(Ni k Tv).1⟩).elim
    ·refine q4 k e' lz ?_
     rw[oD yJ]
     cases hm:eo us k with
     |false=>rfl
     |true=>exact(Tv (Ca.1 hm)).elim
   ·intro k hk
    rw[hlen]at hk
    rcases hk with⟨h1,_⟩|h1
    ·simp only[Ca.2 h1,PN,Bool.and_false]
    ·have:Nat.ble k c=false:=by
      cases hb:Nat.ble k c with
      |false=>rfl
      |true=>have:=g_ hb;omega
     simp only[this,Bool.false_and]
  refine⟨es,F',by omega,k2.fr,k3a,fun k e he hs=> ?_,fun k e o' he d_ hs=> ?_,⟨_,_,_,_,hF⟩,?_⟩
  ·have hk:k<ops.toList.length:=by have:=(iN.1 he).1;simp;omega
   rcases(AQ k e _ he (jo hk)).1 with h1|h1
   ·rw[h1.1]at hs;cases hs
   ·exact h1.2
  ·rcases(AQ k e o' he d_).1 with h1|h1
   ·exact⟨h1.2.1,(AQ k e o' he d_).2.2.2.2⟩
   ·rw[h1.1]at hs;cases hs
  ·have TG:ops[es.length]? =some o:=by rw[hlen,<-E'];exact ho
   refine Tree.cut (o:=o) (F:=F') (L:=B'++tZ N') (n1:=n') (U:=fun k=>k∈us) TG (by have h:=aiX k3g;unfold Ry at h⊢;simpa only[TG]using h) hF (fun k hk jd=> ?_) (fun k hk=> ?_) (fun ZR b e=> ?_) F9 (fun t ht=> ?_) DJ k2.fr ?_ ym KC
    (fun F2 L2 n2=> @Classical.epsilon _ ⟨(fun _=>none,[],fun _=>True)⟩ fun x:(Nat->Option SV)×List E×(Nat->Prop)=>PR es (fun k=>k∈us) F2 x.1 x.2.1 x.2.2/\Tree P g ops (Qn g K) x.1 (find L2) n2 x.2.1 x.2.2) (fun F2 L2 n2 hR IQ=> ?_) (fun F2 L2 n2 hR IQ=> ?_)
   ·rw[hlen]at hk⊢
    have:=(abf k jd).1
    rw[show Nat.blt c k=true from oD hk]at this
    simpa using this
   ·rw[hlen]at hk⊢
    have:=(abf k (by omega)).2
    rw[show Nat.blt k c=true from oD hk]at this
    simp only[PN,Bb,Fa]at this
    exact this.imp id AU
   ·rw[acP,e]at D2;cases D2
   ·simp only[TG]
    unfold oZ
    exact Yn _ ht
   ·funext l
    rw[k2.bl (fun _=>true) l (fun _ _ _ _ _ _=>rfl),Mf]
   ·exact(aeW (key F2 L2 n2 hR IQ)).1
   ·exact(aeW (key F2 L2 n2 hR IQ)).2
theorem apu(hT:cI P T){n0:Nat}{ms:List Nat}(h0:g.n0=n0)(h1:g.ms=ms)(ql:P.follows .mixedOrders=true){id:Nat}{ops:Array Oper}(hB:zI ops.toList=true)(hd:∀o∈ops.toList,∀t,o.dst=some t->t<g.N)(uc:List (Nat×List Nat))(hc:Ik ops.toList (eR [] ops.toList) 0 uc=true){K:FF->LL->Nat->Prop}{F:FF}{L:LL}{n:Nat}
 (h:Lk T Ar.real P g n0 ms (fun _ _=>true) ops.toList (eR [] ops.toList) K uc (fun _=>false) (fun _=>True) F L n):tV g P id ops K F L n:=by
 subst h0 h1
 refine⟨?_⟩
 rintro a W ⟨β,hm,hf⟩
 have DH:∀l b,find L l=some b->l<n:=fun l b hb=>(hm.bL l b hb).1
 obtain⟨es,Fe,_,_,_,_,_,_,tree⟩:=aqU hT (sc.of hB) hd uc 0 _ _ F L n hc (bf _) DH h
 have e0:∀k,(Array.replicate ops.size false).getD k false=false:=fun k=>getD_replicate_false _ _
 refine wp_region_any ql (aeO ops.size tree (Array.replicate ops.size false) a _ β (by simp) (by simp) (fun i o hi=> ?_) (fun i _ h=>(h rfl).elim) (fun i hi=> ?_) ?_ ?_)
 ·have h2:(Array.replicate ops.size false).getD i false=true:=hi
  rw[e0]at h2;cases h2
 ·rw[e0]at hi;cases hi
 ·have e1:LD es (fun i=>(Array.replicate ops.size false).getD i false) (find L)=find L:=funext fun l=>zN e0
  have e2:PD es (fun i=>(Array.replicate ops.size false).getD i false) (fun l=>l<n)=fun l=>l<n:=funext fun l=>zN e0
  rw[e1,e2];exact hm.drawn
 ·have e1:FD es (fun i=>(Array.replicate ops.size false).getD i false) (look F)=look F:=funext fun l=>zN e0
  have e2:PD es (fun i=>(Array.replicate ops.size false).getD i false) (fun l=>l<n)=fun l=>l<n:=funext fun l=>zN e0
  rw[e1,e2];exact hf
end
section
variable {P:Program}{g:G}{T:Nat->Option Ty}{A:Ar}
theorem tG(hT:cI P T)(hA:A=Ar.real){n0 N:Nat}{ms:List Nat}(hg:GI g n0 ms N)(ql:P.follows .mixedOrders=true){id:Nat}{ops:Array Oper}(hB:zI ops.toList=true)(hd:(ops.toList.all fun o=>dD N o.dst)=true)(uc:List (Nat×List Nat))(hc:Ik ops.toList (eR [] ops.toList) 0 uc=true){K:FF->LL->Nat->Prop}{F:FF}{L:LL}{n:Nat}
 (h:Lk T A P g n0 ms (fun _ _=>true) ops.toList (eR [] ops.toList) K uc (fun _=>false) (fun _=>True) F L n):tV g P id ops K F L n:=by
 subst hA
 exact apu hT hg.n0 hg.ms ql hB (fun o ho=>hg.dst (gf.1 hd o ho)) uc hc h
end
section
variable {P:Program}{g:G}{T:Nat->Option Ty}{F:FF}{L:LL}{n:Nat}
theorem adY(hT:cI P T){o:Oper}{m0 N:Nat}{ms:List Nat}(hg:GI g m0 ms N)(aA:dD N o.dst=true){s x:Operand}{t:Nat}(ho:o.op= .call {callee:= .builtin .append,args:= #[s,x],argTypes:= #[t,t]})
 {i:Ty} (ht:T t=some i) {e es:Nat} (hd:i.d= .sl e es) {j:Ty} (hj:T e=some j) {B:Nat} (hB:(P.info? e).map (·.bytes)=some B) (h0:0<es)
 (hs:ev (look F) s=some .au) {k ox m mc:Nat} (hx:ev (look F) x=some (.slice k ox m mc)) {ds:List SV} {tk:TypeId} (hk:find L k=some ⟨k,ds,tk⟩) (jE:ox+m*es<=ds.length)
 (iH:0<m) (qd:m<=maxLen) (ux:m*B<=281474976710656) {K:FF->LL->Nat->Prop}
 (DM:∀c' X,X=(ds.drop ox).take (m*es)++rep (c'-m) j.z->m<=c'->c'<=maxLen->X.length=c'*es->(∀q,an q ds=true->an q j.z=true->an q X=true)->K (cH F o.dst (.slice n 0 m c')) (L++[⟨n,X,e⟩]) (n+1)):Step g P o K F L n:=by
 refine ad1 hT hg aA ho ht hd hj hB h0 hs hx hk jE iH qd ux fun c' h1 h2=>DM c' _ rfl h1 h2 ?_ fun q hq hz=>mX (CZ (Fq hq)) (EH hz _)
 obtain⟨info,z,hu,hi,hz,aJ,uw,mB,nC,jl,iL⟩:=EO hT ht hd hj hB
 rw[dI,G5,eY,iY,iL,tS (by omega),Fl]
 have:=ea es h1
 omega
theorem ad0(hT:cI P T){o:Oper}{m0 N:Nat}{ms:List Nat}(hg:GI g m0 ms N)(aA:dD N o.dst=true){s x:Operand}{t:Nat}(ho:o.op= .call {callee:= .builtin .append,args:= #[s,x],argTypes:= #[t,t]})
 {i:Ty} (ht:T t=some i) {e es:Nat} (hd:i.d= .sl e es) {j:Ty} (hj:T e=some j) {B:Nat} (hB:(P.info? e).map (·.bytes)=some B) (h0:0<es)
 {l n1 c:Nat} (hs:ev (look F) s=some (.slice l 0 n1 c)) {cs:List SV} (hl:find L l=some ⟨l,cs,e⟩) (c_:own m0 ms l=true) (iy:n1<=c) (qj:cs.length=c*es) (hc:c<=maxLen)
 {k ox m mc:Nat} (hx:ev (look F) x=some (.slice k ox m mc)) {ds:List SV} {tk:TypeId} (hk:find L k=some ⟨k,ds,tk⟩) (jE:ox+m*es<=ds.length) (tj:nH ((ds.drop ox).take (m*es))=true)
 (qd:n1+m<=maxLen) (ux:(n1+m)*B<=140737488355328) {K:FF->LL->Nat->Prop}
 (hK:∀c' tail X M,X=cs.take (n1*es)++(ds.drop ox).take (m*es)++tail->M=n1+m->M<=c'->c'<=maxLen->X.length=c'*es->(∀q,an q cs=true->an q ds=true->an q j.z=true->an q X=true)->K (cH F o.dst (.slice n 0 M c')) (nJ [l] L++[⟨n,X,e⟩]) (n+1)):Step g P o K F L n:=by
 refine ad2 hT hg aA ho ht hd hj hB h0 hs hl c_ iy qj hc hx hk jE tj qd ux fun c' tail h1 h2 h3 h4=>hK c' tail _ _ rfl rfl h1 h2 ?_ fun q hq NC hz=>mX (mX (CZ hq) (CZ (Fq NC))) (h4 q hq hz)
 rw[dI,dI,eY,eY,iY,h3,qj,tS (ea es iy),tS (by omega),Fl,cw]
 have:=ea es h1
 rw[cw]at this
 omega
end
theorem ET{A:Ar}(hA:A=Ar.real){C vs:List SV}{o n:Nat}(h:o+n<=C.length)(hv:(C.drop o).take n=vs):A.sub C o n=some vs:=by
 subst hA;simp only[Ar.real];rw[aj h,hv]
end Go.Vg
