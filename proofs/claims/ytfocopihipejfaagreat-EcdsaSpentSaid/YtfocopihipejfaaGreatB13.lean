/-
  This text proves what these texts prove: Og, Cc, Cd, Ce, Ga, MaP, Ta, Gb. Conditions: those of each theorem.
-/
import Derived.Test.YtfocopihipejfaaGreatB12
import Derived.Test.YtfocopihipejfaaGreatB07
import Derived.Test.YtfocopihipejfaaGreatB06
set_option maxHeartbeats 8000000
set_option linter.all false
namespace Dg
theorem alL{m x x' t s B:Nat}(hB:0<B)(ht:t=m*x%B)(hs:s=(2+B-t)%B)(hx:x'=x*s%B):∃c:Int,(x':Int)=(x:Int)*(2-(m:Int)*(x:Int))+(B:Int)*c:=by
 have h1:=aK (fun n:Nat=>(n:Int)) (gN (m*x) B)
 have h2:=aK (fun n:Nat=>(n:Int)) (gN (2+B-t) B)
 have h3:=aK (fun n:Nat=>(n:Int)) (gN (x*s) B)
 have w_:t<B:=by rw[ht];exact ax _ hB
 rw[<-ht]at h1
 rw[<-hs]at h2
 rw[<-hx]at h3
 generalize m*x/B=c1 at h1
 generalize (2+B-t)/B=c2 at h2
 generalize x*s/B=c3 at h3
 simp only[Int.natCast_add,Int.natCast_mul]at h1 h2 h3
 have e2:((2+B-t:Nat):Int)=2+(B:Int)-t:=by omega
 rw[e2]at h2
 clear ht hs hx e2
 refine⟨(x:Int)*(1+c1-c2)-c3,?_⟩
 have e4:(s:Int)=2+(B:Int)-((m:Int)*x-(B:Int)*c1)-(B:Int)*c2:=by
  generalize (m:Int)*x=p at *
  generalize (B:Int)*c1=p1 at *
  generalize (B:Int)*c2=p2 at *
  omega
 have e5:(x':Int)=(x:Int)*s-(B:Int)*c3:=by
  generalize (x:Int)*s=p at *
  generalize (B:Int)*c3=p1 at *
  omega
 rw[e5,e4]
 clear h1 h2 h3 e4 e5
 grind
theorem alK{m x x' t s:Nat}(ht:t=m*x%0x10000000000000000)(hs:s=(2+0x10000000000000000-t)%0x10000000000000000)(hx:x'=x*s%0x10000000000000000):∃c:Int,(x':Int)=(x:Int)*(2-(m:Int)*(x:Int))+0x10000000000000000*c:=
 alL (B:=0x10000000000000000) (by decide) ht hs hx
theorem aep{a b:Nat}(h:a<=b):(2:Int)^a∣(2:Int)^b:=by
 obtain⟨d,rfl⟩:∃d,b=a+d:=⟨b-a,by omega⟩
 exact⟨2^d,Int.pow_add ..⟩
def xp(i:Nat):Nat:=if i=0 then 3 else if i=1 then 6 else if i=2 then 12 else if i=3 then 24 else if i=4 then 48 else 64
theorem al2{i:Nat}(h:i<5):xp (i+1)<=2*xp i/\xp (i+1)<=64:=by
 obtain rfl|rfl|rfl|rfl|rfl:i=0\/i=1\/i=2\/i=3\/i=4:=by omega
 all_goals decide
theorem alJ{m x x' t s i:Nat}(hi:i<5)(h:(2:Int)^xp i∣(m:Int)*x-1)(ht:t=m*x%0x10000000000000000)(hs:s=(2+0x10000000000000000-t)%0x10000000000000000)(hx:x'=x*s%0x10000000000000000):(2:Int)^xp (i+1)∣(m:Int)*x'-1:=by
 obtain⟨c,hc⟩:=alK ht hs hx
 obtain⟨h1,h2⟩:=al2 hi
 have h3:=alG h
 have h4:(2:Int)^xp (i+1)∣(2:Int)^(2*xp i):=aep h1
 have h5:(2:Int)^xp (i+1)∣(2:Int)^64:=aep h2
 have h6:=Int.dvd_trans h4 h3
 have e:(m:Int)*x'-1=((m:Int)*((x:Int)*(2-(m:Int)*x))-1)+(2:Int)^64*((m:Int)*c):=by
  rw[hc,show(2:Int)^64=0x10000000000000000 from rfl]
  grind
 rw[e]
 exact Int.dvd_add h6 (Int.dvd_trans h5 ⟨_,rfl⟩)
theorem alI{m:Nat}(h:m%2=1):(2:Int)^xp 0∣(m:Int)*m-1:=by
 have h1:m*m%8=1:=by
  rw[kM]
  have:m%8=1\/m%8=3\/m%8=5\/m%8=7:=by omega
  rcases this with h|h|h|h<;>rw[h]
 have h2:=gN (m*m) 8
 rw[h1]at h2
 refine⟨((m*m/8:Nat):Int),?_⟩
 have e:((m*m:Nat):Int)=(m:Int)*m:=by exact_mod_cast rfl
 show(m:Int)*m-1=8*_
 omega
theorem alH{m0 v x less:Nat}(hv:v%0x10000000000000000=m0)(h:(2:Int)^64∣(m0:Int)*x-1)(hl:less=(0x10000000000000000-x)%0x10000000000000000)(hx:x<0x10000000000000000):(v*less+1)%0x10000000000000000=0:=by
 obtain⟨c,hc⟩:=h
 rw[show(2:Int)^64=0x10000000000000000 from rfl]at hc
 rw[sf,kM,hv,hl,xR,Yy,Nat.mod_add_mod,Nat.add_mod_mod]
 have e1:(m0*(0x10000000000000000-x)+1:Nat)+m0*x=m0*0x10000000000000000+1:=by
  have:m0*(0x10000000000000000-x)+m0*x=m0*0x10000000000000000:=by rw[<-lL,Nat.sub_add_cancel (by omega)]
  omega
 have e2:((m0*x:Nat):Int)=(m0:Int)*x:=by exact_mod_cast rfl
 generalize m0*(0x10000000000000000-x)=p at *
 generalize (m0:Int)*x=q at *
 omega
end Dg
namespace Go.Proofs.YtfocopihipejfaaGreat
open Go.Vg Go.RowKit
set_option maxRecDepth 200000
set_option cbv.maxSteps 100000000
theorem agQ{P:Program}(hP:P=Tryz.prog)(m d:Nat->Nat)(n s:Nat)(hD:Dv m d n s)(w r:Nat->Nat)(hw:Wn 18 w)(hr:Wn 9 r)(cG:V 9 r=V 18 w%V 9 m):
 ah P 149 [.agg [.ptr 0 0],.agg (ws w 18)] [⟨0,jK d n s,275⟩] 1 [] (fun v _ _=>v= .agg (ws r 9)):=by
 obtain⟨q,hq,mF⟩:=cD 18 (V 18 w/V 9 m) (eB (gq _ _) (eg hw))
 have hV:=Zf hP (t:=223) m d n s hD w 18 hw (aE _) q r hq hr mF cG
 clear mF cG hq hr hD
 refine aq hP Tryz.func149 (ak _ rfl) (aD rfl) ?_
 intro A g K hA hg hK
 cases A
 cbv
 refine cm hP hA hg ?_
 cbv
 refine eV (sI hg rfl rfl rfl rfl rfl (za (hP▸aI) (show av 221=some _ from rfl) rfl _ _)) ?_
 cbv
 refine aY hg hV (fun l=>2*l) ⟨rfl,rfl,trivial⟩ ?_
 cbv
 exact hK _ _ _ rfl
theorem ahA(r:Nat->Nat):Vg.splice (ws (fun _=>0) 18) 1 (((ws r 9).drop 0).take 9)=ws (fun j=>if j=0 then 0 else if j<10 then r (j-1)else 0) 18:=rfl
theorem ae7(r:Nat->Nat):V 18 (fun j=>if j=0 then 0 else if j<10 then r (j-1)else 0)=V 9 r*0x10000000000000000:=by
 have h1:=Dg.rM (b:=0x10000000000000000) (fun j=>if j=0 then 0 else if j<10 then r (j-1)else 0) 10 8 (fun j h1 h2=>by
  show(if j=0 then 0 else if j<10 then r (j-1)else 0)=0
  rw[af (by omega),af (by omega)])
 rw[show V 18 _=_ from h1]
 have h2:=HM 9 (fun j=>if j=0 then 0 else if j<10 then r (j-1)else 0)
 rw[show Dg.num 0x10000000000000000 _ 10=_ from h2]
 simp only[xk,dB]
 congr 1
theorem afq{x b n:Nat}(h:ig x b)(hx:x<0x10000000000000000^n):b<=64*n:=Qt h (by rw[<-zx];exact hx)
theorem agq{P:Program}(hP:P=Tryz.prog)(m:Nat->Nat)(hm:Wn 9 m)(abd:V 9 m%2=1)(h3:3<=V 9 m):
 ah P 112 [.agg (ws m 9)] [] 0 [] (fun v L q=>∃n less rr,Mo m n less rr/\v= .aR [.ptr 0 0,.int .i64 0]/\L=[⟨0,nE m n less rr,220⟩]/\q=1):=by
 obtain⟨bits,hb⟩:=ua (V 9 m)
 obtain⟨n,hn⟩:=aa ((bits+63)/64)
 have hb9:bits<=64*9:=afq hb (eg hm)
 have n9:n<=9:=by omega
 have hmn:V 9 m<0x10000000000000000^n:=by
  rw[zx];exact cg hb.1 (cV (by decide) (by omega))
 obtain⟨nu,NU⟩:=A9 m 9
 have abc:0<nu:=by
  rcases Nat.eq_zero_or_pos nu with h|h
  ·rw[h]at NU
   have:=xV NU
   rw[show V 0 m=0 from rfl]at this
   omega
  ·exact h
 have iH:m 0=V 9 m%0x10000000000000000:=by
  rw[HM 8,tR,aO (hm 0 (by decide))]
 have aa':m 0%2=1:=by omega
 obtain⟨o1,wU⟩:=aa (fun j=>if j=0 then 1 else 0:Nat->Nat)
 have Hi:Wn 9 o1:=fun j _=>by rw[wU];show(if j=0 then 1 else 0)<_;split<;>decide
 have Wk:V 9 o1=1:=by rw[wU];decide +kernel
 obtain⟨o3,JV⟩:=aa (fun j=>if j=0 then 3 else 0:Nat->Nat)
 have wo3:Wn 9 o3:=fun j _=>by rw[JV];show(if j=0 then 3 else 0)<_;split<;>decide
 have vo3:V 9 o3=3:=by rw[JV];decide +kernel
 have jC:=zB hP 1 (by decide) o1 wU
 have z8:=zB hP 3 (by decide) o3 JV
 obtain⟨ci,Ae⟩:=aa (if V 9 m<V 9 o3 then -1 else if V 9 o3<V 9 m then 1 else 0:Int)
 have ajy:ci=Int.ofNat ci.toNat:=by
  rw[Ae,af (by omega)];split<;>rfl
 have hC:=Da hP m o3 hm wo3 ci Ae
 have Dn:=Ib hP m hm bits hb
 obtain⟨d,s,hDv,uj⟩:=Mt hP m nu hm NU abc
 have SF:0<V 9 m:=by omega
 obtain⟨r0,Pv,Pm⟩:=cD 9 (1%V 9 m) (cT (ax _ SF) (eg hm))
 have yj:=Fy hP m d nu s hDv o1 o1 r0 Hi Hi Pv (by rw[Pm,Wk])
 refine ah.dj (R:=fun v L q=>∃n less rr,Mo m n less rr/\v= .aR [.ptr 1 0,.int .i64 0]/\find L 1=some ⟨1,nE m n less rr,220⟩) ?_ fun v L q ⟨n,less,rr,h1,h2,h3⟩=>⟨fun l=>if l=0 then 1 else l,.aR [.ptr 0 0,.int .i64 0],[⟨0,nE m n less rr,220⟩],1,by subst h2;exact dH ⟨rfl,rfl,trivial⟩ ⟨by rw[ae _ (Ez m n less rr 0)];exact h3,rfl,rfl,Ez m n less rr 1,trivial⟩ rfl rfl rfl,n,less,rr,h1,rfl,rfl,rfl⟩
 refine aq hP Tryz.func112 (ak _ rfl) (aD rfl) ?_
 intro A g K hA hg hK
 obtain⟨bin,_,cmp,mS,_,_,_,_,_,_,_,_,_,_,_,_,_,_,sub⟩:=A
 have e63:bin .add .i64 (.ofNat bits) 63=Int.ofNat (bits+63):=e_ hA (a:=bits) (b:=63) (by omega)
 have e64:bin .quo .i64 (.ofNat (bits+63)) 64=Int.ofNat n:=(mO hA (a:=bits+63) (b:=64) (by omega)).trans (by rw[hn])
 have a1:bin .and .u64 (.ofNat (m 0)) 1=Int.ofNat 1:=(qP hA (k:= .u64) rfl (a:=m 0) (b:=1) (hm 0 (by decide)) (by decide)).trans (aK Int.ofNat (by rw[Nat.and_one_is_mod];exact aa'))
 have c1:cmp .eql (.ofNat 1) 0=false:=ja hA (b:=0) (by decide)
 have c2:cmp .lss ci 0=false:=by rw[ajy];exact bM hA (b:=0) (mh _)
 have l5:∀i,i<5->cmp .lss (.ofNat i) 5=true:=fun i h=>cZ hA (b:=5) h
 have l5f:cmp .lss (.ofNat 5) 5=false:=bM hA (b:=5) (by decide)
 have f6:∀i,i<10->bin .add .i64 (.ofNat i) 1=Int.ofNat (i+1):=fun i h=>gP hA (by omega)
 have fm:∀x y,bin .mul .u64 (.ofNat x) (.ofNat y)=Int.ofNat (x*y%0x10000000000000000):=fun x y=>EA hA (k:= .u64) rfl x y
 have fs:∀x,x<0x10000000000000000->bin .sub .u64 2 (.ofNat x)=Int.ofNat ((2+0x10000000000000000-x)%0x10000000000000000):=fun x h=>A8 hA (k:= .u64) rfl (a:=2) (b:=x) (ku h)
 have fn:∀x,x<0x10000000000000000->mS .neg .u64 (Int.ofNat x)=Int.ofNat ((0x10000000000000000-x)%0x10000000000000000):=fun x h=>by
  refine(Vb hA .u64 _).trans ?_
  show(0-(x:Int))%0x10000000000000000=(((0x10000000000000000-x)%0x10000000000000000:Nat):Int)
  rw[show((((0x10000000000000000-x)%0x10000000000000000:Nat)):Int)=((0x10000000000000000-x:Nat):Int)%0x10000000000000000 from by exact_mod_cast rfl]
  omega
 have gn:∀k,k<n->cmp .lss (.ofNat k) (.ofNat n)=true:=fun k h=>cZ hA h
 have gnf:cmp .lss (.ofNat n) (.ofNat n)=false:=bM hA (by omega)
 clear Dn hC z8 jC uj yj
 have Dn:=Ib hP m hm bits hb
 have jC:=zB hP 1 (by decide) o1 wU
 have z8:=zB hP 3 (by decide) o3 JV
 have hC:=Da hP m o3 hm wo3 ci Ae
 have yj:=Fy hP m d nu s hDv o1 o1 r0 Hi Hi Pv (by rw[Pm,Wk])
 obtain⟨b63,ajk⟩:=aa (bits+63)
 rw[<-ajk]at e63 e64
 clear Ae wU JV
 cbv
 refine cm hP hA hg ?_
 cbv
 rw[a1]
 cbv
 rw[c1]
 cbv
 refine bN hg z8 ?_
 cbv
 refine bN hg hC ?_
 cbv
 rw[c2]
 cbv
 refine cm hP hA hg ?_
 cbv
 refine bN hg Dn ?_
 cbv
 rw[e63]
 cbv
 rw[e64]
 cbv
 refine bH (Nat×Nat) (fun s=>s.1<=5/\s.2<0x10000000000000000/\(2:Int)^Dg.xp s.1∣(m 0:Int)*s.2-1) (fun s=>5-s.1) (fun s=> [(30,.int .i64 (.ofNat s.1)),(5,.int .u64 (.ofNat s.2))]) [1,4] (fun _=> []) (0,m 0) ⟨bf _,hm 0 (by decide),Dg.alI aa'⟩ ?_ ?_
 ·exact a_
 rintro⟨i,x⟩ ⟨hi,hx,hd⟩
 have hi:i<=5:=hi
 have hx:x<0x10000000000000000:=hx
 have hd:(2:Int)^Dg.xp i∣(m 0:Int)*x-1:=hd
 by_cases ab:i<5
 ·obtain⟨t,ht⟩:=aa (m 0*x%0x10000000000000000)
  obtain⟨u,hu⟩:=aa ((2+0x10000000000000000-t)%0x10000000000000000)
  obtain⟨x',B5⟩:=aa (x*u%0x10000000000000000)
  have g1:=fm (m 0) x
  rw[<-ht]at g1
  have g2:=fs t (by rw[ht];exact ax _ (by decide))
  rw[<-hu]at g2
  have g3:=fm x u
  rw[<-B5]at g3
  cbv
  rw[l5 i ab]
  cbv
  rw[g1]
  cbv
  rw[g2]
  cbv
  rw[g3]
  cbv
  rw[f6 i (by omega)]
  refine⟨(i+1,x'),id,⟨ab,by rw[B5];exact ax _ (by decide),Dg.alJ ab hd ht hu B5⟩,(by show 5-(i+1)<5-i;omega),?_⟩
  exact a_
 obtain rfl:i=5:=by omega
 obtain⟨less,DU⟩:=aa ((0x10000000000000000-x)%0x10000000000000000)
 have DW:=Dg.alH iH.symm hd DU hx
 have g4:=fn x hx
 rw[<-DU]at g4
 have og:less<0x10000000000000000:=by rw[DU];exact ax _ (by decide)
 cbv
 rw[l5f]
 cbv
 rw[g4]
 cbv
 obtain⟨d2,s2,RX,uj⟩:=Mt hP m nu hm NU abc
 have yj:=Fy hP m d2 nu s2 RX o1 o1 r0 Hi Hi Pv (by rw[Pm,Wk])
 refine gQ rfl hg rfl rfl uj _root_.id rfl trivial rfl rfl rfl ?_
 rintro _ _ _ ⟨rfl,rfl,rfl⟩ _
 cbv
 refine cm hP hA hg ?_
 cbv
 refine bN hg jC ?_
 cbv
 refine bN hg jC ?_
 cbv
 refine aY hg yj (fun _=>4) ⟨rfl,trivial⟩ ?_
 cbv
 refine bH (Nat×(Nat->Nat)) (fun s=>s.1<=n/\Wn 9 s.2/\V 9 s.2=0x10000000000000000^s.1%V 9 m) (fun s=>n-s.1) (fun s=> [(56,.int .i64 (.ofNat s.1))]) [1,4,6,7,55] (fun s=> [(6,ws s.2 9)]) (0,r0) ⟨bf _,Pv,by rw[Pm,jB]⟩ ?_ ?_
 ·exact a_
 rintro⟨k,r⟩ ⟨hk,wr,vr⟩
 have hk:k<=n:=hk
 have wr:Wn 9 r:=wr
 have vr:V 9 r=0x10000000000000000^k%V 9 m:=vr
 by_cases wO:k<n
 ·obtain⟨up,B4⟩:=aa (fun j=>if j=0 then 0 else if j<10 then r (j-1)else 0:Nat->Nat)
  have wup:Wn 18 up:=fun j hj=>by
   rw[B4]
   show(if j=0 then 0 else if j<10 then r (j-1)else 0)<_
   split
   ·decide
   ·split
    ·exact wr (j-1) (by omega)
    ·decide
  have vup:V 18 up=V 9 r*0x10000000000000000:=by rw[B4];exact ae7 r
  obtain⟨r',wr',vr'⟩:=cD 9 (V 18 up%V 9 m) (cT (ax _ SF) (eg hm))
  have wD:=agQ hP m d2 nu s2 RX up r' wup wr' vr'
  have cu:=ahA r
  rw[<-B4]at cu
  cbv
  rw[gn k wO]
  cbv
  refine tG (hP▸aI) hA hg (hP▸mixed) rfl rfl [(4,[])] rfl ?_
  cbv
  refine eV (sI hg rfl rfl rfl rfl rfl (adJ (hP▸aI) (show av 221=some _ from rfl) rfl 7 0 (k:= .i64) (j:=1) (by decide))) ?_
  cbv
  refine eV (sI hg rfl rfl rfl rfl rfl (za (hP▸aI) (show av 29=some _ from rfl) rfl 6 0)) ?_
  cbv
  refine V8 (cs:=ws (fun _=>0) 18) (ds:=ws r 9) (hP▸aI) hg rfl rfl (show av 125=some _ from rfl) rfl (show ev _ _=some (.slice 7 1 17 17)from rfl) (show find _ 7=some _ from rfl) rfl (show ev _ _=some (.slice 6 0 9 9)from rfl) (show find _ 6=some _ from rfl) (by show 0+9<=9;decide) (by rw[lh];exact aeP _ _ _) (by decide) (by show 1+9<=18;decide) ?_
  rw[cu]
  cbv
  refine aZ hg wD (fun _=>4) ⟨rfl,trivial⟩ ?_
  cbv
  rw[f6 k (by omega)]
  refine⟨(k+1,r'),id,⟨wO,wr',?_⟩,(by show n-(k+1)<n-k;omega),?_⟩
  ·show V 9 r'=0x10000000000000000^(k+1)%V 9 m
   rw[vr',vup,vr,tT,br]
  ·exact a_
 obtain rfl:k=n:=by omega
 obtain⟨rr,wrr,vrr⟩:=cD 9 (V 9 r*V 9 r%V 9 m) (cT (ax _ SF) (eg hm))
 have yk:=Fy hP m d2 nu s2 RX r r rr wr wr wrr vrr
 cbv
 rw[gnf]
 cbv
 refine aZ hg yk (fun _=>4) ⟨rfl,trivial⟩ ?_
 cbv
 refine hK _ _ _ ⟨k,less,rr,⟨hm,wrr,n9,hmn,og,by omega,DW,?_,?_⟩,rfl,rfl⟩
 ·rw[zx];exact Dg.ahy abd _
 ·rw[vrr,vr,tT,Yy]
theorem Zd{P:Program}(hP:P=Tryz.prog)(k:Nat)(p a b n gx gy th:Nat->Nat)(bits size:Nat)(leg:Bool)(hb:bits<2^32)(r:Nat)(hr:r=(bits+7)/8):
 ah P 132 [.ptr 0 0] [⟨0,vZ k p a b n gx gy th bits size leg 1,158⟩] 2 [] (fun v _ _=>v= .int .i64 (.ofNat r)):=by
 refine aq hP Tryz.func132 (ak _ rfl) (aD rfl) ?_
 intro A g K hA hg hK
 obtain⟨bin⟩:=A
 have g7:bin .add .i64 (.ofNat bits) 7=Int.ofNat (bits+7):=e_ hA (b:=7) (by omega)
 have g8:bin .quo .i64 (.ofNat (bits+7)) 8=Int.ofNat r:=(mO hA (a:=bits+7) (b:=8) (by omega)).trans (by rw[hr])
 generalize bits+7=b7 at g7 g8
 cbv
 rw[g7]
 rw[g8]
 cbv
 exact hK _ _ _ rfl
theorem Zr{P:Program}(hP:P=Tryz.prog)(one:Nat->Nat)(h1:one=fun j=>if j=0 then 1 else 0):
 ah P 117 [] [] 0 [] (fun v _ _=>v= .agg (ws (fun _=>0) 9++ws one 9++ws (fun _=>0) 9)):=by
 have hS:=zB hP 1 (by decide) one h1
 clear h1
 refine aq hP Tryz.func117 (ak _ rfl) (aD rfl) ?_
 intro A g K hA hg hK
 cases A
 cbv
 refine fe rfl hg rfl rfl hS ?_
 rintro _ _ _ rfl
 cbv
 exact hK _ _ _ rfl
theorem ZF{P:Program}(hP:P=Tryz.prog)(x y one:Nat->Nat)(inf:Bool)(h1:one=fun j=>if j=0 then 1 else 0)(X Y Z:Nat->Nat)(hX:X=if inf then(fun _=>0)else x)(hY:Y=if inf then one else y)(hZ:Z=if inf then(fun _=>0)else one):
 ah P 116 [.agg (ws x 9++ws y 9++[.bool inf])] [] 0 [] (fun v _ _=>v= .agg (ws X 9++ws Y 9++ws Z 9)):=by
 have hS:=zB hP 1 (by decide) one h1
 have hN:=Zr hP one h1
 clear h1
 refine aq hP Tryz.func116 (ak _ rfl) (aD rfl) ?_
 intro A g K hA hg hK
 cases A
 cases inf with
 |true=>
  rw[aj rfl]at hX hY hZ
  subst hX hY hZ
  cbv
  refine fe rfl hg rfl rfl hN ?_
  rintro _ _ _ rfl
  cbv
  exact hK _ _ _ rfl
 |false=>
  rw[af (by decide)]at hX hY hZ
  subst hX hY hZ
  cbv
  refine cf hP hA hg fun mk _=> ?_
  cbv
  refine bN hg hS ?_
  cbv
  exact hK _ _ _ rfl
theorem Dc{P:Program}(hP:P=Tryz.prog)(k:Nat)(p a b n gx gy th d:Nat->Nat)(bits size:Nat)(leg:Bool)(hn:Wn 9 n)(hd:Wn 9 d)(r:Bool)(hr:r=(decide (V 9 d≠0)&&decide (V 9 d<V 9 n))):
 ah P 62 [.ptr 0 0,.agg (ws d 9)] [⟨0,vZ k p a b n gx gy th bits size leg 1,158⟩] 2 [] (fun v _ _=>v= .bool r):=by
 obtain⟨o,ho⟩:=aa (if V 9 d<V 9 n then -1 else if V 9 n<V 9 d then 1 else 0:Int)
 have hC:=Da hP d n hd hn o ho
 have hz:Wn 9 (fun _=>0):=fun _ _=>by show 0<_;decide
 refine aq hP Tryz.func62 (ak _ rfl) (aD rfl) ?_
 intro A g K hA hg hK
 obtain⟨_,_,cmp⟩:=A
 by_cases h0:V 9 d=0
 ·obtain rfl:r=false:=by rw[hr,da (fun h=>h h0)];rfl
  cbv
  refine cm hP hA hg ?_
  cbv
  refine eV (Bq hP hg rfl (a:=d) (b:=fun _=>0) (r:=false) (Or.inl ⟨rfl,by rw[ug hd hz,show V 9 (fun _=>0)=0 from rfl,eh h0];rfl⟩) rfl rfl) ?_
  cbv
  exact hK _ _ _ rfl
 ·have ab:(H2 .lss o 0)=r:=by
   rw[hr,eh h0,Yc,ho]
   by_cases h1:V 9 d<V 9 n
   ·rw[aj h1,eh h1];rfl
   ·rw[af h1,da h1];split<;>rfl
  clear ho
  have hc:cmp .lss o 0=r:=(bg (bg (bg (kA hA) .lss) o) 0).trans ab
  cbv
  refine cm hP hA hg ?_
  cbv
  refine eV (Bq hP hg rfl (a:=d) (b:=fun _=>0) (r:=true) (Or.inl ⟨rfl,by rw[ug hd hz,show V 9 (fun _=>0)=0 from rfl,da h0];rfl⟩) rfl rfl) ?_
  cbv
  refine bN hg hC ?_
  cbv
  rw[hc]
  exact hK _ _ _ rfl
theorem agx{P:Program}(hP:P=Tryz.prog)(k:Nat)(p a b n gx gy th X Y Z d:Nat->Nat)(m s bits size:Nat)(leg:Bool)(hZ:Wn 9 Z)(h0:V 9 Z=0):
 ah P 120 [.ptr 0 0,.agg (ws X 9++ws Y 9++ws Z 9)] [⟨0,vZ k p a b n gx gy th bits size leg 1,158⟩,⟨1,qa p 2,163⟩,⟨2,jK d m s,275⟩] 3 [] (fun v _ _=>v= .agg (ws (fun _=>0) 9++ws (fun _=>0) 9++[.bool true])):=by
 have hz:Wn 9 (fun _=>0):=fun _ _=>by show 0<_;decide
 have he:true=lP Z (fun _=>0):=by rw[ug hZ hz,show V 9 (fun _=>0)=0 from rfl,eh h0]
 refine aq hP Tryz.func120 (ak _ rfl) (aD rfl) ?_
 intro A g K hA hg hK
 cases A
 cbv
 refine V9 hP rfl hg rfl (a:=Z) (b:=fun _=>0) he rfl rfl ?_
 cbv
 exact hK _ _ _ rfl
theorem agw{P:Program}(hP:P=Tryz.prog)(k:Nat)(p a b n gx gy th X Y Z d i x y:Nat->Nat)(m s bits size:Nat)(leg:Bool)(hD:Dv p d m s)(hp:Wn 9 p)(jF:2<=V 9 p)(hX:Wn 9 X)(hY:Wn 9 Y)(hZ:Wn 9 Z)(h0:V 9 Z≠0)(hi:Wn 9 i)(h1:Nat.gcd (V 9 Z) (V 9 p)=1->V 9 i<V 9 p/\V 9 i*V 9 Z%V 9 p=1)(h2:Nat.gcd (V 9 Z) (V 9 p)≠1->V 9 i=0)
 (hx:Wn 9 x) (hy:Wn 9 y) (AG:V 9 x=V 9 X*V 9 i%V 9 p) (xj:V 9 y=V 9 Y*V 9 i%V 9 p):
 ah P 120 [.ptr 0 0,.agg (ws X 9++ws Y 9++ws Z 9)] [⟨0,vZ k p a b n gx gy th bits size leg 1,158⟩,⟨1,qa p 2,163⟩,⟨2,jK d m s,275⟩] 3 [] (fun v _ _=>v= .agg (ws x 9++ws y 9++[.bool false])):=by
 have hz:Wn 9 (fun _=>0):=fun _ _=>by show 0<_;decide
 have he:false=lP Z (fun _=>0):=by rw[ug hZ hz,show V 9 (fun _=>0)=0 from rfl,da h0]
 have hI:=af4 hP p Z i hp hZ hi jF h1 h2
 have hMx:=lq hP p d m s hD X i x hX hi hx AG
 have zY:=lq hP p d m s hD Y i y hY hi hy xj
 refine aq hP Tryz.func120 (ak _ rfl) (aD rfl) ?_
 intro A g K hA hg hK
 cases A
 cbv
 refine V9 hP rfl hg rfl (a:=Z) (b:=fun _=>0) he rfl rfl ?_
 cbv
 refine cm hP hA hg ?_
 cbv
 refine aY hg hI (fun l=>l+1) ⟨rfl,trivial⟩ ?_
 cbv
 refine cf hP hA hg fun mk _=> ?_
 cbv
 refine aY hg hMx (fun l=>l+1) ⟨rfl,rfl,trivial⟩ ?_
 cbv
 refine aY hg zY (fun l=>l+1) ⟨rfl,rfl,trivial⟩ ?_
 cbv
 exact hK _ _ _ rfl
def fA(p a b:Nat):Nat:=(a+b)%p
def fS(p a b:Nat):Nat:=(a+p-b)%p
def fM(p a b:Nat):Nat:=a*b%p
def YH(p X1 Y1 Z1 X2 Y2 Z2 a th X Y Z:Nat):Prop:=
 ∃r1 r2 r3 r4 r5 r6 r7 r8 r9 uQ uR uS qA uT uU uV uW qB uX uY xr xw xy Cf Cg Ch xA Ci xB Cj Ck xC Cl ED Cm Cn EE Co Cp EF:Nat,r1=fM p X1 X2/\r2=fM p Y1 Y2/\r3=fM p Z1 Z2/\r4=fA p X1 Y1/\r5=fA p X2 Y2/\r6=fM p r4 r5/\r7=fA p r1 r2/\r8=fS p r6 r7/\r9=fA p X1 Z1/\uQ=fA p X2 Z2/\uR=fM p r9 uQ/\uS=fA p r1 r3/\qA=fS p uR uS/\uT=fA p Y1 Z1/\uU=fA p Y2 Z2/\uV=fM p uT uU/\uW=fA p r2 r3/\qB=fS p uV uW/\uX=fM p th r3/\uY=fM p a qA/\xr=fA p uX uY/\xw=fS p r2 xr/\xy=fA p r2 xr/\Cf=fM p xw xy/\Cg=fA p r1 r1/\Ch=fA p Cg r1/\xA=fM p a r3/\Ci=fM p th qA/\xB=fA p Ch xA/\Cj=fS p r1 xA/\Ck=fM p a Cj/\xC=fA p Ci Ck/\Cl=fM p xB xC/\ED=fA p Cf Cl/\Cm=fM p r8 xw/\Cn=fM p qB xC/\EE=fS p Cm Cn/\Co=fM p qB xy/\Cp=fM p r8 xB/\EF=fA p Co Cp/\X=EE/\Y=ED/\Z=EF
theorem fU{p:Nat->Nat}(hp:Wn 9 p)(h0:0<V 9 p)(x:Nat):∃r,Wn 9 r/\V 9 r=x%V 9 p/\V 9 r<V 9 p:=by
 obtain⟨r,h1,h2⟩:=cD 9 (x%V 9 p) (cT (ax _ h0) (eg hp))
 exact⟨r,h1,h2,by rw[h2];exact ax _ h0⟩
theorem ag1{P:Program}(hP:P=Tryz.prog)(k:Nat)(p a b n gx gy th X1 Y1 Z1 X2 Y2 Z2 d:Nat->Nat)(m s bits size:Nat)(leg:Bool)(hD:Dv p d m s)(hp:Wn 9 p)(Xa:Wn 9 X1)(lX1:V 9 X1<V 9 p)(Xc:Wn 9 Y1)(lY1:V 9 Y1<V 9 p)(Xe:Wn 9 Z1)(lZ1:V 9 Z1<V 9 p)(Xb:Wn 9 X2)(lX2:V 9 X2<V 9 p)(Xd:Wn 9 Y2)(lY2:V 9 Y2<V 9 p)(Xf:Wn 9 Z2)(lZ2:V 9 Z2<V 9 p)(wa:Wn 9 a)(la:V 9 a<V 9 p)(wth:Wn 9 th)(lth:V 9 th<V 9 p):
 ∃X Y Z,Wn 9 X/\Wn 9 Y/\Wn 9 Z/\V 9 X<V 9 p/\V 9 Y<V 9 p/\V 9 Z<V 9 p/\YH (V 9 p) (V 9 X1) (V 9 Y1) (V 9 Z1) (V 9 X2) (V 9 Y2) (V 9 Z2) (V 9 a) (V 9 th) (V 9 X) (V 9 Y) (V 9 Z)/\
 ah P 118 [.ptr 0 0,.agg (ws X1 9++ws Y1 9++ws Z1 9),.agg (ws X2 9++ws Y2 9++ws Z2 9)] [⟨0,vZ k p a b n gx gy th bits size leg 1,158⟩,⟨1,qa p 2,163⟩,⟨2,jK d m s,275⟩] 3 [] (fun v _ _=>v= .agg (ws X 9++ws Y 9++ws Z 9)):=by
 have h0:0<V 9 p:=eB (bf _) la
 obtain⟨r1,CE,Wl,Ex⟩:=fU hp h0 (V 9 X1*V 9 X2)
 obtain⟨r2,Hj,Wx,KM⟩:=fU hp h0 (V 9 Y1*V 9 Y2)
 obtain⟨r3,Hk,WJ,UQ⟩:=fU hp h0 (V 9 Z1*V 9 Z2)
 obtain⟨r4,XH,WV,lr4⟩:=fU hp h0 (V 9 X1+V 9 Y1)
 obtain⟨r5,XJ,WX,lr5⟩:=fU hp h0 (V 9 X2+V 9 Y2)
 obtain⟨r6,XK,WY,lr6⟩:=fU hp h0 (V 9 r4*V 9 r5)
 obtain⟨r7,XL,WZ,lr7⟩:=fU hp h0 (V 9 r1+V 9 r2)
 obtain⟨r8,PF,W3,lr8⟩:=fU hp h0 (V 9 r6+V 9 p-V 9 r7)
 obtain⟨r9,XM,W4,lr9⟩:=fU hp h0 (V 9 X1+V 9 Z1)
 obtain⟨uQ,Xl,Wm,akP⟩:=fU hp h0 (V 9 X2+V 9 Z2)
 obtain⟨uR,Xm,Wo,ab0⟩:=fU hp h0 (V 9 r9*V 9 uQ)
 obtain⟨uS,Xn,Wp,ab1⟩:=fU hp h0 (V 9 r1+V 9 r3)
 obtain⟨qA,Pw,Wq,akQ⟩:=fU hp h0 (V 9 uR+V 9 p-V 9 uS)
 obtain⟨uT,Xo,Wr,akR⟩:=fU hp h0 (V 9 Y1+V 9 Z1)
 obtain⟨uU,Xp,Ws,akS⟩:=fU hp h0 (V 9 Y2+V 9 Z2)
 obtain⟨uV,Xq,Wt,ab2⟩:=fU hp h0 (V 9 uT*V 9 uU)
 obtain⟨uW,Xr,Wu,ab3⟩:=fU hp h0 (V 9 r2+V 9 r3)
 obtain⟨qB,Px,Wv,akT⟩:=fU hp h0 (V 9 uV+V 9 p-V 9 uW)
 obtain⟨uX,Xs,Ww,ab4⟩:=fU hp h0 (V 9 th*V 9 r3)
 obtain⟨uY,Xt,Wy,ab5⟩:=fU hp h0 (V 9 a*V 9 qA)
 obtain⟨xr,Py,Wz,UO⟩:=fU hp h0 (V 9 uX+V 9 uY)
 obtain⟨xw,Pz,WA,akU⟩:=fU hp h0 (V 9 r2+V 9 p-V 9 xr)
 obtain⟨xy,PA,WB,akV⟩:=fU hp h0 (V 9 r2+V 9 xr)
 obtain⟨Cf,Xu,WC,ab6⟩:=fU hp h0 (V 9 xw*V 9 xy)
 obtain⟨Cg,Xv,WD,ab7⟩:=fU hp h0 (V 9 r1+V 9 r1)
 obtain⟨Ch,Xw,WE,ab8⟩:=fU hp h0 (V 9 Cg+V 9 r1)
 obtain⟨xA,PB,WG,UP⟩:=fU hp h0 (V 9 a*V 9 r3)
 obtain⟨Ci,Xx,WH,ab9⟩:=fU hp h0 (V 9 th*V 9 qA)
 obtain⟨xB,PC,WI,akW⟩:=fU hp h0 (V 9 Ch+V 9 xA)
 obtain⟨Cj,Xy,WK,akX⟩:=fU hp h0 (V 9 r1+V 9 p-V 9 xA)
 obtain⟨Ck,Xz,WL,ab_⟩:=fU hp h0 (V 9 a*V 9 Cj)
 obtain⟨xC,PE,WM,akY⟩:=fU hp h0 (V 9 Ci+V 9 Ck)
 obtain⟨Cl,XA,WN,ab'⟩:=fU hp h0 (V 9 xB*V 9 xC)
 obtain⟨ED,XB,WO,aca⟩:=fU hp h0 (V 9 Cf+V 9 Cl)
 obtain⟨Cm,XC,WQ,acb⟩:=fU hp h0 (V 9 r8*V 9 xw)
 obtain⟨Cn,XD,WR,acd⟩:=fU hp h0 (V 9 qB*V 9 xC)
 obtain⟨EE,XE,WS,ace⟩:=fU hp h0 (V 9 Cm+V 9 p-V 9 Cn)
 obtain⟨Co,XF,WT,acf⟩:=fU hp h0 (V 9 qB*V 9 xy)
 obtain⟨Cp,XG,WU,acg⟩:=fU hp h0 (V 9 r8*V 9 xB)
 obtain⟨EF,XI,WW,ach⟩:=fU hp h0 (V 9 Co+V 9 Cp)
 have cr1:=lq hP p d m s hD X1 X2 r1 Xa Xb CE Wl
 have cr2:=lq hP p d m s hD Y1 Y2 r2 Xc Xd Hj Wx
 have cr3:=lq hP p d m s hD Z1 Z2 r3 Xe Xf Hk WJ
 have cr4:=lN hP p X1 Y1 r4 hp Xa Xc XH lX1 lY1 WV
 have cr5:=lN hP p X2 Y2 r5 hp Xb Xd XJ lX2 lY2 WX
 have cr6:=lq hP p d m s hD r4 r5 r6 XH XJ XK WY
 have cr7:=lN hP p r1 r2 r7 hp CE Hj XL Ex KM WZ
 have cr8:=Fw hP p r6 r7 r8 hp XK XL PF lr6 lr7 W3
 have cr9:=lN hP p X1 Z1 r9 hp Xa Xe XM lX1 lZ1 W4
 have ahB:=lN hP p X2 Z2 uQ hp Xb Xf Xl lX2 lZ2 Wm
 have ahC:=lq hP p d m s hD r9 uQ uR XM Xl Xm Wo
 have ahD:=lN hP p r1 r3 uS hp CE Hk Xn Ex UQ Wp
 have ahE:=Fw hP p uR uS qA hp Xm Xn Pw ab0 ab1 Wq
 have ahF:=lN hP p Y1 Z1 uT hp Xc Xe Xo lY1 lZ1 Wr
 have ahG:=lN hP p Y2 Z2 uU hp Xd Xf Xp lY2 lZ2 Ws
 have ahH:=lq hP p d m s hD uT uU uV Xo Xp Xq Wt
 have ahI:=lN hP p r2 r3 uW hp Hj Hk Xr KM UQ Wu
 have ahJ:=Fw hP p uV uW qB hp Xq Xr Px ab2 ab3 Wv
 have ahK:=lq hP p d m s hD th r3 uX wth Hk Xs Ww
 have ahL:=lq hP p d m s hD a qA uY wa Pw Xt Wy
 have ahM:=lN hP p uX uY xr hp Xs Xt Py ab4 ab5 Wz
 have ahN:=Fw hP p r2 xr xw hp Hj Py Pz KM UO WA
 have ahO:=lN hP p r2 xr xy hp Hj Py PA KM UO WB
 have ahP:=lq hP p d m s hD xw xy Cf Pz PA Xu WC
 have ahQ:=lN hP p r1 r1 Cg hp CE CE Xv Ex Ex WD
 have ahR:=lN hP p Cg r1 Ch hp Xv CE Xw ab7 Ex WE
 have ahS:=lq hP p d m s hD a r3 xA wa Hk PB WG
 have ahT:=lq hP p d m s hD th qA Ci wth Pw Xx WH
 have ahU:=lN hP p Ch xA xB hp Xw PB PC ab8 UP WI
 have ahV:=Fw hP p r1 xA Cj hp CE PB Xy Ex UP WK
 have ahW:=lq hP p d m s hD a Cj Ck wa Xy Xz WL
 have ahX:=lN hP p Ci Ck xC hp Xx Xz PE ab9 ab_ WM
 have ahY:=lq hP p d m s hD xB xC Cl PC PE XA WN
 have ahZ:=lN hP p Cf Cl ED hp Xu XA XB ab6 ab' WO
 have ah0:=lq hP p d m s hD r8 xw Cm PF Pz XC WQ
 have ah1:=lq hP p d m s hD qB xC Cn Px PE XD WR
 have ah2:=Fw hP p Cm Cn EE hp XC XD XE acb acd WS
 have ah3:=lq hP p d m s hD qB xy Co Px PA XF WT
 have ah4:=lq hP p d m s hD r8 xB Cp PF PC XG WU
 have ah5:=lN hP p Co Cp EF hp XF XG XI acf acg WW
 refine⟨EE,ED,EF,XE,XB,XI,ace,aca,ach,⟨V 9 r1,V 9 r2,V 9 r3,V 9 r4,V 9 r5,V 9 r6,V 9 r7,V 9 r8,V 9 r9,V 9 uQ,V 9 uR,V 9 uS,V 9 qA,V 9 uT,V 9 uU,V 9 uV,V 9 uW,V 9 qB,V 9 uX,V 9 uY,V 9 xr,V 9 xw,V 9 xy,V 9 Cf,V 9 Cg,V 9 Ch,V 9 xA,V 9 Ci,V 9 xB,V 9 Cj,V 9 Ck,V 9 xC,V 9 Cl,V 9 ED,V 9 Cm,V 9 Cn,V 9 EE,V 9 Co,V 9 Cp,V 9 EF,Wl,Wx,WJ,WV,WX,WY,WZ,W3,W4,Wm,Wo,Wp,Wq,Wr,Ws,Wt,Wu,Wv,Ww,Wy,Wz,WA,WB,WC,WD,WE,WG,WH,WI,WK,WL,WM,WN,WO,WQ,WR,WS,WT,WU,WW,rfl,rfl,rfl⟩,?_⟩
 clear Wl Ex CE Wx KM Hj WJ UQ Hk WV lr4 XH WX lr5 XJ WY lr6 XK WZ lr7 XL W3 lr8 PF W4 lr9 XM Wm akP Xl Wo ab0 Xm Wp ab1 Xn Wq akQ Pw Wr akR Xo Ws akS Xp Wt ab2 Xq Wu ab3 Xr Wv akT Px Ww ab4 Xs Wy ab5 Xt Wz UO Py WA akU Pz WB akV PA WC ab6 Xu WD ab7 Xv WE ab8 Xw WG UP PB WH ab9 Xx WI akW PC WK akX Xy WL ab_ Xz WM akY PE WN ab' XA WO aca XB WQ acb XC WR acd XD WS ace XE WT acf XF WU acg XG WW ach XI
 refine aq hP Tryz.func118 (ak _ rfl) (aD rfl) ?_
 intro A g K hA hg hK
 cases A
 cbv
 refine cf hP hA hg fun mk _=> ?_
 cbv
 refine cm hP hA hg ?_
 cbv
 refine aY hg cr1 (fun l=>l+1) ⟨rfl,rfl,trivial⟩ ?_
 cbv
 refine aY hg cr2 (fun l=>l+1) ⟨rfl,rfl,trivial⟩ ?_
 cbv
 refine aY hg cr3 (fun l=>l+1) ⟨rfl,rfl,trivial⟩ ?_
 cbv
 refine cm hP hA hg ?_
 cbv
 refine aY hg cr4 (fun l=>l+1) ⟨rfl,trivial⟩ ?_
 cbv
 refine aY hg cr5 (fun l=>l+1) ⟨rfl,trivial⟩ ?_
 cbv
 refine aY hg cr6 (fun l=>l+1) ⟨rfl,rfl,trivial⟩ ?_
 cbv
 refine aY hg cr7 (fun l=>l+1) ⟨rfl,trivial⟩ ?_
 cbv
 refine aY hg cr8 (fun l=>l+1) ⟨rfl,trivial⟩ ?_
 cbv
 refine cm hP hA hg ?_
 cbv
 refine aY hg cr9 (fun l=>l+1) ⟨rfl,trivial⟩ ?_
 cbv
 refine aY hg ahB (fun l=>l+1) ⟨rfl,trivial⟩ ?_
 cbv
 refine aY hg ahC (fun l=>l+1) ⟨rfl,rfl,trivial⟩ ?_
 cbv
 refine aY hg ahD (fun l=>l+1) ⟨rfl,trivial⟩ ?_
 cbv
 refine aY hg ahE (fun l=>l+1) ⟨rfl,trivial⟩ ?_
 cbv
 refine cm hP hA hg ?_
 cbv
 refine aY hg ahF (fun l=>l+1) ⟨rfl,trivial⟩ ?_
 cbv
 refine aY hg ahG (fun l=>l+1) ⟨rfl,trivial⟩ ?_
 cbv
 refine aY hg ahH (fun l=>l+1) ⟨rfl,rfl,trivial⟩ ?_
 cbv
 refine aY hg ahI (fun l=>l+1) ⟨rfl,trivial⟩ ?_
 cbv
 refine aY hg ahJ (fun l=>l+1) ⟨rfl,trivial⟩ ?_
 cbv
 refine cm hP hA hg ?_
 cbv
 refine aY hg ahK (fun l=>l+1) ⟨rfl,rfl,trivial⟩ ?_
 cbv
 refine aY hg ahL (fun l=>l+1) ⟨rfl,rfl,trivial⟩ ?_
 cbv
 refine aY hg ahM (fun l=>l+1) ⟨rfl,trivial⟩ ?_
 cbv
 refine fT rfl hg rfl rfl ahN (fun l=>l+1) rfl ⟨rfl,trivial⟩ ?_
 rintro _ _ _ rfl
 cbv
 refine fT rfl hg rfl rfl ahO (fun l=>l+1) rfl ⟨rfl,trivial⟩ ?_
 rintro _ _ _ rfl
 cbv
 refine fT rfl hg rfl rfl ahP (fun l=>l+1) rfl ⟨rfl,rfl,trivial⟩ ?_
 rintro _ _ _ rfl
 cbv
 refine cf hP hA hg fun mk _=> ?_
 cbv
 refine aY hg ahQ (fun l=>l+1) ⟨rfl,trivial⟩ ?_
 cbv
 refine aY hg ahR (fun l=>l+1) ⟨rfl,trivial⟩ ?_
 cbv
 refine cf hP hA hg fun mk _=> ?_
 cbv
 refine aY hg ahS (fun l=>l+1) ⟨rfl,rfl,trivial⟩ ?_
 cbv
 refine cf hP hA hg fun mk _=> ?_
 cbv
 refine aY hg ahT (fun l=>l+1) ⟨rfl,rfl,trivial⟩ ?_
 cbv
 refine fT rfl hg rfl rfl ahU (fun l=>l+1) rfl ⟨rfl,trivial⟩ ?_
 rintro _ _ _ rfl
 cbv
 refine cf hP hA hg fun mk _=> ?_
 cbv
 refine aY hg ahV (fun l=>l+1) ⟨rfl,trivial⟩ ?_
 cbv
 refine aY hg ahW (fun l=>l+1) ⟨rfl,rfl,trivial⟩ ?_
 cbv
 refine fT rfl hg rfl rfl ahX (fun l=>l+1) rfl ⟨rfl,trivial⟩ ?_
 rintro _ _ _ rfl
 cbv
 refine cf hP hA hg fun mk _=> ?_
 cbv
 refine aY hg ahY (fun l=>l+1) ⟨rfl,rfl,trivial⟩ ?_
 cbv
 refine aY hg ahZ (fun l=>l+1) ⟨rfl,trivial⟩ ?_
 cbv
 refine cf hP hA hg fun mk _=> ?_
 cbv
 refine aY hg ah0 (fun l=>l+1) ⟨rfl,rfl,trivial⟩ ?_
 cbv
 refine aY hg ah1 (fun l=>l+1) ⟨rfl,rfl,trivial⟩ ?_
 cbv
 refine aY hg ah2 (fun l=>l+1) ⟨rfl,trivial⟩ ?_
 cbv
 refine cf hP hA hg fun mk _=> ?_
 cbv
 refine aY hg ah3 (fun l=>l+1) ⟨rfl,rfl,trivial⟩ ?_
 cbv
 refine aY hg ah4 (fun l=>l+1) ⟨rfl,rfl,trivial⟩ ?_
 cbv
 refine aY hg ah5 (fun l=>l+1) ⟨rfl,trivial⟩ ?_
 cbv
 exact hK _ _ _ rfl
theorem ap7{a y s:Nat}(hs:s<64)(ha:a<0x10000000000000000):(a+0x10000000000000000*y)/2^s%0x10000000000000000=a/2^s|||(y%0x10000000000000000)*2^(64-s)%0x10000000000000000:=by
 have hB:(0x10000000000000000:Nat)=2^s*2^(64-s):=by rw[<-dV,show s+(64-s)=64 by omega]
 have h1:(a+0x10000000000000000*y)/2^s=a/2^s+y*2^(64-s):=by
  rw[hB,eZ,Yp _ _ (i_ s),bJ y]
 have h2:a/2^s<2^(64-s):=xQ (by rw[<-hB];exact ha)
 have h3:(y%0x10000000000000000)*2^(64-s)%0x10000000000000000=(y%2^s)*2^(64-s):=by
  rw[tT,hB,Fk]
 rw[h1,h3,zm,oy h2,oB (a/2^s)]
 have h4:y*2^(64-s)%0x10000000000000000=(y%2^s)*2^(64-s):=by rw[hB,Fk]
 have h5:y%2^s+1<=2^s:=ax _ (i_ s)
 have h6:=ea (2^(64-s)) h5
 rw[<-hB,cw,fN]at h6
 rw[sf,h4,aO (show a/2^s<0x10000000000000000 by omega),aO (by omega)]
def uZ(a:Nat->Nat)(w s:Nat)(j:Nat):Nat:=if j+w<9 then(if j+w+1<9 then a (j+w)/2^s|||a (j+w+1)*2^(64-s)%0x10000000000000000 else a (j+w)/2^s)else 0
theorem ap6{a:Nat->Nat}(ha:Wn 9 a)(w s j:Nat):uZ a w s j<0x10000000000000000:=by
 unfold uZ
 have h2:∀x:Nat,x<0x10000000000000000->x/2^s<0x10000000000000000:=fun x h=>eB (gq _ _) h
 split
 ·split
  ·exact Bh (n:=64) (h2 _ (ha _ (by omega))) (ax _ (by decide))
  ·exact h2 _ (ha _ (by omega))
 ·decide
theorem ap5{a:Nat->Nat}(ha:Wn 9 a){k w s:Nat}(hw:w=k/64)(hs:s=k%64):V 9 (uZ a w s)=V 9 a/2^k:=by
 have hB:(0:Nat)<0x10000000000000000:=by decide
 have ab:V 9 a/2^k<0x10000000000000000^9:=eB (gq _ _) (eg ha)
 rw[<-aO ab,<-Dg.GY hB]
 refine Dg.jP 9 fun j hj=> ?_
 unfold Dg.eJ
 have hk:k=64*w+s:=by omega
 have hsl:s<64:=by omega
 have hd:∀i,V 9 a/0x10000000000000000^i%0x10000000000000000=if i<9 then a i else 0:=fun i=>by
  by_cases h:i<9
  ·rw[aj h];exact Dg.zH hB 9 ha i h
  ·rw[af h];exact Dg.v8 (by decide) (eg ha) (by omega)
 have e1:V 9 a/2^k/0x10000000000000000^j=V 9 a/0x10000000000000000^(j+w)/2^s:=by
  rw[ke,ke,zx,zx,<-dV,<-dV,hk]
  congr 2
  omega
 rw[e1,<-HF (V 9 a/0x10000000000000000^(j+w)) 0x10000000000000000,ke _ (0x10000000000000000^(j+w)),<-br,hd]
 rw[ap7 hsl (by split;exact ha _ (by omega);decide),hd]
 unfold uZ
 by_cases h1:j+w<9
 ·rw[aj h1,aj h1]
  by_cases h2:j+w+1<9
  ·rw[aj h2,aj h2]
  ·rw[af h2,af h2,fE,zq,P6]
 ·rw[af h1,af h1,af (by omega),fE,zq,P6,zp]
theorem QU{P:Program}(hP:P=Tryz.prog)(a r:Nat->Nat)(ha:Wn 9 a)(hr:Wn 9 r)(k:Nat)(hk:k<=576)(hV:V 9 r=V 9 a/2^k):
 ah P 103 [.agg (ws a 9),.int .i64 (.ofNat k)] [] 0 [] (fun v _ _=>v= .aR [.agg (ws r 9),.int .i64 0]):=by
 obtain⟨w,hw⟩:=aa (k/64)
 obtain⟨s,hs⟩:=aa (k%64)
 obtain⟨m,hm⟩:=aa (9-w)
 obtain⟨s',b9⟩:=aa (64-s)
 obtain⟨q,hq⟩:=aa (fun i j=>if j<i then uZ a w s j else 0:Nat->Nat->Nat)
 obtain⟨q1,kV⟩:=aa (fun i j=>if j=i then a (i+w)/2^s else q i j:Nat->Nat->Nat)
 have q0:q 0=fun _=>0:=by rw[hq];rfl
 have hsl:s<64:=by omega
 have hm9:m<=9:=by omega
 have lV:ws (q m) 9=ws r 9:=by
  refine kx (fun j _=> ?_) hr ?_
  ·rw[hq];show(if j<m then _ else 0)<_
   split
   ·exact ap6 ha w s j
   ·decide
  ·rw[hV,<-ap5 ha hw hs,hq]
   refine Dg.jP 9 fun j _=> ?_
   show(if j<m then _ else 0)=_
   by_cases h:j<m
   ·rw[aj h]
   ·rw[af h];unfold uZ;rw[af (by omega)]
 have kI:∀i,i<m->a (i+w)/2^s<0x10000000000000000:=fun i hi=>eB (gq _ _) (ha _ (by omega))
 refine aq hP Tryz.func103 (ak _ rfl) (aD rfl) ?_
 intro A g K hA hg hK
 obtain⟨bin,sh,cmp,_,_,ix,nn,_,_,_,_,_,_,_,_,off,_,_,sub⟩:=A
 have f1:∀i,i<m->cmp .lss (.ofNat i) (.ofNat m)=true:=fun i h=>cZ hA h
 have iD:cmp .lss (.ofNat m) (.ofNat m)=false:=bM hA (by omega)
 have f2:∀i,i<9->ix (.ofNat i) 9=some i:=fun i h=>bB hA h
 have f3:∀i,off 0 i 1=i:=fun i=>(dh hA 0 i 1).trans (by omega)
 have f4:=fun(f:Nat->Nat) (k:Nat) (h:k<9)=>ei hA .u64 (n:=9) f h
 have f5:=fun(f g:Nat->Nat) (k v:Nat) (h:k<9) (e:g=fun j=>if j=k then v else f j)=>gX hA .u64 (n:=9) f g h e
 have f6:∀i,i<9->bin .add .i64 (.ofNat i) 1=Int.ofNat (i+1):=fun i h=>gP hA (by omega)
 have f7:cmp .lss (.ofNat k) 0=false:=bM hA (b:=0) (by omega)
 have f8:cmp .gtr (.ofNat k) 576=false:=jV hA (b:=576) (by omega)
 have f9:bin .quo .i64 (.ofNat k) 64=Int.ofNat w:=(mO hA (a:=k) (b:=64) (by omega)).trans (by rw[hw])
 have f10:bin .rem .i64 (.ofNat k) 64=Int.ofNat s:=(pJ hA k 64).trans (by rw[hs])
 have f11:bin .sub .i64 9 (.ofNat w)=Int.ofNat m:=(er hA (a:=9) (b:=w) (by omega) (by decide)).trans (by rw[hm])
 have f12:∀i,i<m->bin .add .i64 (.ofNat i) (.ofNat w)=Int.ofNat (i+w):=fun i h=>e_ hA (by omega)
 have f13:∀x,sh .shr .u64 (.ofNat x) (.ofNat s)=Int.ofNat (x/2^s):=fun x=>k_ hA (k:= .u64) (by show s<=64;omega)
 have f14:bin .sub .i64 64 (.ofNat s)=Int.ofNat s':=(er hA (a:=64) (b:=s) (by omega) (by decide)).trans (by rw[b9])
 have f15:∀x,sh .shl .u64 (.ofNat x) (.ofNat s')=Int.ofNat (x*2^s'%0x10000000000000000):=fun x=>mP hA rfl x (s:=s') (by show s'<=64;omega)
 have n1:nn (.ofNat s)=true:=kr hA s
 have n2:nn (.ofNat s')=true:=kr hA s'
 have f16:∀x y,x<0x10000000000000000->y<0x10000000000000000->bin .or .u64 (.ofNat x) (.ofNat y)=Int.ofNat (x|||y):=fun x y h1 h2=>l9 hA rfl h1 h2
 simp only[aw,Nat.reduceAdd]at f4 f5
 simp only[ws,aw,Nat.reduceAdd]at lV
 cbv
 rw[f7]
 cbv
 rw[f8]
 cbv
 rw[f9,f10]
 cbv
 rw[f11]
 cbv
 refine bH (Nat×(Nat->Nat)) (fun s=>s.1<=m/\s.2=q s.1) (fun s=>m-s.1) (fun s=> [(23,.int .i64 (.ofNat s.1))]) [2,4,5,6,7,8,22] (fun s=> [(2,ws s.2 9)]) (0,fun _=>0) ⟨bf _,q0.symm⟩ ?_ ?_
 ·exact a_
 rintro⟨i,c⟩ ⟨hi,hc⟩
 have hi:i<=m:=hi
 have hc:c=q i:=hc
 subst hc
 by_cases ab:i<m
 ·obtain⟨x,hx⟩:=aa (i+w)
  obtain⟨x1,dR⟩:=aa (x+1)
  obtain⟨y,hy⟩:=aa (a x/2^s)
  have En:x<9:=by omega
  have e1:bin .add .i64 (.ofNat i) (.ofNat w)=Int.ofNat x:=by rw[hx];exact f12 i ab
  have e2:bin .add .i64 (.ofNat x) 1=Int.ofNat x1:=by rw[dR];exact f6 x En
  have e3:sh .shr .u64 (.ofNat (a x)) (.ofNat s)=Int.ofNat y:=by rw[hy];exact f13 (a x)
  have e4:q1 i=fun j=>if j=i then y else q i j:=by rw[kV,hy,hx]
  have kJ:y<0x10000000000000000:=by rw[hy];exact eB (gq _ _) (ha _ En)
  have e5:=f6 i (by omega)
  cbv
  rw[f1 i ab]
  cbv
  rw[e1]
  cbv
  rw[f2 x En]
  cbv
  rw[f3 x,f4 a x En]
  cbv
  rw[n1]
  cbv
  rw[e3,f2 i (by omega)]
  cbv
  rw[f3 i,f5 (q i) (q1 i) i y (by omega) e4]
  cbv
  rw[e1]
  cbv
  rw[e2]
  by_cases h9:x1<9
  ·obtain⟨u,hu⟩:=aa (a x1*2^s'%0x10000000000000000)
   have e6:sh .shl .u64 (.ofNat (a x1)) (.ofNat s')=Int.ofNat u:=by rw[hu];exact f15 _
   have e7:q1 i i=y:=by rw[e4];simp
   have e8:=f16 y u kJ (by rw[hu];exact ax _ (by decide))
   obtain⟨t,ht⟩:=aa (y|||u)
   rw[<-ht]at e8
   have e9:q (i+1)=fun j=>if j=i then t else q1 i j:=by
    rw[e4,hq]
    funext j
    show(if j<i+1 then uZ a w s j else 0)=if j=i then t else if j=i then y else if j<i then uZ a w s j else 0
    by_cases hj:j=i
    ·rw[aj (by omega),aj hj,hj]
     unfold uZ
     rw[aj (by omega),aj (by omega),ht,hy,hu,dR,hx,b9]
    ·rw[af hj,af hj]
     by_cases BN:j<i
     ·rw[aj (by omega),aj BN]
     ·rw[af (by omega),af BN]
   obtain⟨qn,fW⟩:=aa (q (i+1))
   rw[<-fW]at e9
   rw[show cmp .lss (.ofNat x1) 9=true from cZ hA (b:=9) h9]
   cbv
   refine cf hP hA hg fun mk _=> ?_
   cbv
   rw[f2 i (by omega)]
   cbv
   rw[f3 i,f4 (q1 i) i (by omega),e7]
   cbv
   rw[e1]
   cbv
   rw[e2]
   cbv
   rw[f2 x1 h9]
   cbv
   rw[f3 x1,f4 a x1 h9]
   cbv
   rw[f14]
   cbv
   rw[n2]
   cbv
   rw[e6]
   cbv
   rw[e8]
   cbv
   rw[f2 i (by omega)]
   cbv
   rw[f3 i,f5 (q1 i) qn i t (by omega) e9]
   cbv
   rw[e5]
   refine⟨(i+1,qn),id,⟨ab,fW⟩,(by show m-(i+1)<m-i;omega),?_⟩
   exact a_
  ·have e9:q (i+1)=q1 i:=by
    rw[e4,hq]
    funext j
    show(if j<i+1 then uZ a w s j else 0)=if j=i then y else if j<i then uZ a w s j else 0
    by_cases hj:j=i
    ·rw[aj (by omega),aj hj,hj]
     unfold uZ
     rw[aj (by omega),af (by omega),hy,hx]
    ·rw[af hj]
     by_cases BN:j<i
     ·rw[aj (by omega),aj BN]
     ·rw[af (by omega),af BN]
   rw[show cmp .lss (.ofNat x1) 9=false from bM hA (b:=9) h9]
   cbv
   rw[e5]
   refine⟨(i+1,q1 i),id,⟨ab,e9.symm⟩,(by show m-(i+1)<m-i;omega),?_⟩
   exact a_
 ·obtain rfl:i=m:=by omega
  cbv
  rw[iD]
  cbv
  rw[lV]
  exact hK _ _ _ rfl
end Go.Proofs.YtfocopihipejfaaGreat
namespace Mk
/-! words of 64 bits by their highest bit-/
theorem aqR(x y:Nat):(x|||y)/9223372036854775808=x/9223372036854775808|||y/9223372036854775808:=by
 have h:=Nat.shiftRight_or_distrib (a:=x) (b:=y) (i:=63)
 simpa [vG]using h
theorem aqT(x y:Nat):(x^^^y)/9223372036854775808=x/9223372036854775808^^^y/9223372036854775808:=by
 have h:=Nat.shiftRight_xor_distrib (a:=x) (b:=y) (i:=63)
 simpa [vG]using h
theorem Y7(x:Nat)(h:x<0x10000000000000000):x/9223372036854775808=0\/x/9223372036854775808=1:=by omega
theorem aro(x:Nat)(h:x<0x10000000000000000):
 (0xffffffffffffffff^^^(x|||(0x10000000000000000-x)%0x10000000000000000))/9223372036854775808=if x=0 then 1 else 0:=by
 have h1:(0x10000000000000000-x)%0x10000000000000000<0x10000000000000000:=ax _ (by omega)
 rw[aqT,aqR]
 by_cases h0:x=0
 ·subst h0;rfl
 ·rw[af h0]
  have h2:(0x10000000000000000-x)%0x10000000000000000=0x10000000000000000-x:=aO (by omega)
  rw[h2]
  rcases Y7 x h with e|e
  ·have:(0x10000000000000000-x)/9223372036854775808=1:=by omega
   rw[e,this];rfl
  ·rcases Y7 (0x10000000000000000-x) (by omega)with e2|e2<;>rw[e,e2]<;>rfl
end Mk
namespace Go.Proofs.YtfocopihipejfaaGreat
open Go.Vg
set_option maxRecDepth 200000
set_option cbv.maxSteps 100000000
theorem aq1{P:Program}(hP:P=Tryz.prog)(m a b r:Int)(hr:r=jH .or .u64 (jH .and .u64 a m) (jH .andNot .u64 b m)):ah P 213 [.agg [.int .u64 m],.int .u64 a,.int .u64 b] [] 0 [] (fun v _ _=>v= .int .u64 r):=by
 refine aq hP Tryz.func213 ⟨⟨trivial,trivial⟩,trivial,trivial,trivial⟩ (by simp) ?_
 intro A g K hA hg hK
 obtain⟨bin⟩:=A
 cbv
 have e1:bin=jH:=qQ hA
 refine hK _ _ _ ?_
 rw[hr,e1]
 rfl
theorem aqQ{P:Program}(hP:P=Tryz.prog)(m:Int)(a b r:Nat->Int)
 (hr:∀k,k<9->r k=jH .or .u64 (jH .and .u64 (a k) m) (jH .andNot .u64 (b k) m)):
 ah P 212 [.fn (.func 213) [.agg [.int .u64 m]] [],.agg (aw .u64 a 0 9),.agg (aw .u64 b 0 9)] [] 0 [] (fun v _ _=>v= .agg (aw .u64 r 0 9)):=by
 obtain⟨c,rfl,c9,c1,c2⟩:∃c:Nat->Nat->Int,c 0=a/\aw .u64 (c 9) 0 9=aw .u64 r 0 9/\(∀k,k<9->c k k=a k)/\∀k,k<9->Vg.splice (aw .u64 (c k) 0 9) k [.int .u64 (r k)]=aw .u64 (c (k+1)) 0 9:=by
  refine⟨fun k j=>if j<k then r j else a j,funext fun j=>by simp,rK fun j _ h=>by simp;omega,fun k _=>by simp,fun k hk=>US hk (by simp) fun j _ h1 h2=> ?_⟩
  by_cases h:j<k
  ·simp[h,show j<k+1 by omega]
  ·simp[h,show ¬j<k+1 by omega]
 refine aq hP Tryz.func212 ⟨⟨⟨⟨trivial,trivial⟩,trivial⟩,trivial⟩,ak _ rfl,ak _ rfl,trivial⟩ (by simp) ?_
 intro A g K hA hg hK
 obtain⟨bin,_,cmp,_,_,ix,_,_,_,_,_,_,_,_,_,off,get,_,_,eU⟩:=A
 cbv
 refine⟨Nat,fun k=>k<=9,fun k=>9-k,fun k=> [(0,.fn (.func 213) [.agg [.int .u64 m]] []),(4,.ptr 0 0),(5,.ptr 1 0),(6,.ptr 2 0),(8,.int .i64 k)],fun k=> [⟨0,aw .u64 (c k) 0 9,31⟩,⟨1,aw .u64 b 0 9,31⟩,
  ⟨2,aw .u64 (fun _=>0) 0 9,31⟩],3,⟨0,id,by omega,?_⟩,?_⟩
 ·exact fD ⟨rfl,rfl,rfl,rfl,rfl,rfl,rfl,rfl,rfl,rfl,trivial⟩ ⟨rfl,rfl,rfl,rfl,rfl,rfl,rfl,rfl,rfl,trivial⟩ rfl rfl
 intro k hk
 by_cases ab:k<9
 ·have e1:cmp .lss (.ofNat k) 9=true:=by
   refine(UR hA _ _).trans ?_;exact eh (by simp;omega)
  have e2:ix (.ofNat k) 9=some k:=bB hA ab
  have e3:off 0 k 1=k:=(dh hA 0 k 1).trans (by omega)
  have e4:get (aw .u64 (c k) 0 9) k=some (.int .u64 (c 0 k)):=(jU hA _ _).trans (by rw[GL _ _ ab,dB,c1 k ab])
  have e5:get (aw .u64 b 0 9) k=some (.int .u64 (b k)):=(jU hA _ _).trans (by rw[GL _ _ ab,dB])
  have e6:eU (aw .u64 (c k) 0 9) k [.int .u64 (r k)]=some (aw .u64 (c (k+1)) 0 9):=(zb hA (by rw[tB];exact ab) _).trans (by rw[c2 k ab])
  have e7:bin .add .i64 (.ofNat k) 1=Int.ofNat (k+1):=gP hA (by omega)
  simp only[aw,Nat.reduceAdd]at e4 e5 e6
  cbv
  rw[e1]
  cbv
  refine cf hP hA hg fun mk _=> ?_
  cbv
  rw[e2]
  cbv
  rw[e3,e4]
  cbv
  rw[e2]
  cbv
  rw[e3,e5]
  cbv
  refine bN hg (aq1 hP _ _ _ _ (hr k ab)) ?_
  cbv
  rw[e2]
  cbv
  rw[e3,e6]
  cbv
  rw[e7]
  refine⟨k+1,id,ab,(by show 9-(k+1)<9-k;omega),?_⟩
  exact fD ⟨rfl,rfl,rfl,rfl,rfl,rfl,rfl,rfl,rfl,rfl,trivial⟩ ⟨rfl,rfl,rfl,rfl,rfl,rfl,rfl,rfl,rfl,trivial⟩ rfl rfl
 ·have e1:cmp .lss (.ofNat k) 9=false:=by
   refine(UR hA _ _).trans ?_;exact da (by simp;omega)
  obtain rfl:k=9:=by omega
  cbv
  rw[e1]
  cbv
  exact hK _ _ _ (aK SV.agg c9)
end Go.Proofs.YtfocopihipejfaaGreat
namespace Go.Proofs.YtfocopihipejfaaGreat
open Go.Vg Go.RowKit Mk
set_option maxRecDepth 200000
set_option cbv.maxSteps 100000000
def o7(c:Bool):Nat:=if c then 0xffffffffffffffff else 0
theorem acI{A:Ar}(hA:A=Ar.real)(n:Nat)(h:n<0x10000000000000000):A.mS .neg .u64 (Int.ofNat n)=Int.ofNat ((0x10000000000000000-n)%0x10000000000000000):=by
 rw[Vb hA]
 show IntKind.u64.wrap (0-(n:Int))=_
 simp[IntKind.wrap,IntKind.signed,IntKind.bits]
 omega
theorem ag0{P:Program}(hP:P=Tryz.prog)(c:Bool)(x r:Nat)(hx:x=if c then 1 else 0)(hr:r=o7 c):ah P 218 [.int .u64 (.ofNat x)] [] 0 [] (fun v _ _=>v= .int .u64 (.ofNat r)):=by
 obtain rfl:r=(0x10000000000000000-x)%0x10000000000000000:=by rw[hr,hx];cases c<;>rfl
 have dR:x&&&1=x:=by rw[hx];cases c<;>rfl
 have eP:x<0x10000000000000000:=by rw[hx];cases c<;>decide
 obtain⟨r,hr⟩:=aa ((0x10000000000000000-x)%0x10000000000000000)
 refine aq hP Tryz.func218 (ak _ rfl) (aD rfl) ?_
 intro A g K hA hg hK
 obtain⟨bin,_,_,mS⟩:=A
 have e1:bin .and .u64 (.ofNat x) 1=Int.ofNat x:=(qP hA (k:= .u64) rfl (a:=x) (b:=1) eP (by decide)).trans (by rw[dR])
 have e2:mS .neg .u64 (Int.ofNat x)=Int.ofNat r:=(acI hA x eP).trans (by rw[hr])
 rw[<-hr]at hK
 cbv
 rw[e1,e2]
 exact hK _ _ _ rfl
theorem ago{P:Program}(hP:P=Tryz.prog)(x r:Nat)(hx:x<0x10000000000000000)(hr:r=o7 (decide (x=0))):ah P 211 [.int .u64 (.ofNat x)] [] 0 [] (fun v _ _=>v= .int .u64 (.ofNat r)):=by
 obtain⟨n,hn⟩:=aa ((0x10000000000000000-x)%0x10000000000000000)
 have pC:n<0x10000000000000000:=by omega
 obtain⟨o,ho⟩:=aa (x|||n)
 have nj:o<0x10000000000000000:=by rw[ho];exact Bh (n:=64) hx pC
 obtain⟨t,ht⟩:=aa (0xffffffffffffffff^^^o)
 have GB:t<0x10000000000000000:=by rw[ht];exact si (n:=64) (by decide) nj
 obtain⟨b,hb⟩:=aa (t/9223372036854775808)
 have hS:=ag0 hP (decide (x=0)) b r (by
  rw[hb,ht,ho,hn,aro x hx];by_cases h:x=0<;>simp[h]) hr
 refine aq hP Tryz.func211 (ak _ rfl) (aD rfl) ?_
 intro A g K hA hg hK
 obtain⟨bin,sh,_,mS⟩:=A
 have e1:mS .neg .u64 (Int.ofNat x)=Int.ofNat n:=(acI hA x hx).trans (by rw[hn])
 have e2:bin .or .u64 (.ofNat x) (.ofNat n)=Int.ofNat o:=(l9 hA (k:= .u64) rfl (a:=x) (b:=n) hx pC).trans (by rw[ho])
 have e3:mS .xor .u64 (Int.ofNat o)=Int.ofNat t:=((al0 hA _).trans ((bg (bg (bg (bg (qQ hA) .xor) .u64) 0xffffffffffffffff) (Int.ofNat o)).symm.trans (pL hA (k:= .u64) rfl (a:=0xffffffffffffffff) (b:=o) (by decide) nj))).trans (by rw[ht])
 have e4:sh .shr .u64 (.ofNat t) 63=Int.ofNat b:=(k_ hA (k:= .u64) (a:=t) (b:=63) (by decide)).trans (by rw[hb])
 cbv
 rw[e1,e2,e3,e4]
 cbv
 refine fe rfl hg rfl rfl hS ?_
 rintro _ _ _ rfl
 cbv
 exact hK _ _ _ rfl
theorem agi{P:Program}(hP:P=Tryz.prog)(x y r:Nat)(hx:x<0x10000000000000000)(hy:y<0x10000000000000000)(hr:r=o7 (decide (x=y))):ah P 194 [.int .u64 (.ofNat x),.int .u64 (.ofNat y)] [] 0 [] (fun v _ _=>v= .int .u64 (.ofNat r)):=by
 obtain⟨o,ho⟩:=aa (x^^^y)
 have nj:o<0x10000000000000000:=by rw[ho];exact si (n:=64) hx hy
 have hZ:=ago hP o r nj (by
  rw[hr,ho];congr 1;refine ye.2 ⟨fun h=>by rw[h,Nat.xor_self],fun h=> ?_⟩
  have h2:x^^^y^^^y=y:=by rw[h,Nat.zero_xor]
  rwa [Nat.xor_assoc,Nat.xor_self,Nat.xor_zero]at h2)
 refine aq hP Tryz.func194 (ak _ rfl) (aD rfl) ?_
 intro A g K hA hg hK
 obtain⟨bin⟩:=A
 have e1:bin .xor .u64 (.ofNat x) (.ofNat y)=Int.ofNat o:=(pL hA (k:= .u64) rfl (a:=x) (b:=y) hx hy).trans (by rw[ho])
 cbv
 rw[e1]
 cbv
 refine fe rfl hg rfl rfl hZ ?_
 rintro _ _ _ rfl
 cbv
 exact hK _ _ _ rfl
theorem aoN(c:Bool)(a b:Nat)(ha:a<0x10000000000000000)(hb:b<0x10000000000000000):Int.ofNat (if c then a else b)=jH .or .u64 (jH .and .u64 (Int.ofNat a) (Int.ofNat (o7 c))) (jH .andNot .u64 (Int.ofNat b) (Int.ofNat (o7 c))):=by
 have hand:=qP (A:=Ar.real) rfl (k:= .u64) rfl (a:=a) (b:=o7 c) ha (by cases c<;>decide)
 have aj1:jH .andNot .u64 (Int.ofNat b) (Int.ofNat (o7 c))=Int.ofNat (if c then 0 else b):=by
  show IntKind.u64.wrap ((BitVec.ofInt 64 (Int.ofNat b)&&& ~~~ (BitVec.ofInt 64 (Int.ofNat (o7 c)))).toNat:Nat)=_
  cases c with
  |true=>
   have:BitVec.ofInt 64 (Int.ofNat (o7 true))=BitVec.allOnes 64:=by decide
   rw[this];simp[IntKind.wrap,IntKind.signed,IntKind.bits]
  |false=>
   have:BitVec.ofInt 64 (Int.ofNat (o7 false))=0#64:=by decide
   rw[this,show ~~~(0#64)=BitVec.allOnes 64 from by decide,BitVec.and_allOnes]
   simp[IntKind.wrap,IntKind.signed,IntKind.bits]
   omega
 rw[aj1,show jH .and .u64 (Int.ofNat a) (Int.ofNat (o7 c))=_ from hand]
 cases c with
 |true=>
  have h1:a&&&o7 true=a:=by
   show a&&&2^64-1=a
   rw[Bf,aO ha]
  rw[h1]
  exact((l9 (A:=Ar.real) rfl (k:= .u64) rfl (a:=a) (b:=0) ha (by decide)).trans (by simp)).symm
 |false=>
  have h1:a&&&o7 false=0:=by show a&&&0=0;simp
  rw[h1]
  exact((l9 (A:=Ar.real) rfl (k:= .u64) rfl (a:=0) (b:=b) (by decide) hb).trans (by simp)).symm
theorem ZE{P:Program}(hP:P=Tryz.prog)(c:Bool)(m:Nat)(hm:m=o7 c)(a b r:Nat->Nat)(ha:Wn 9 a)(hb:Wn 9 b)(hr:r=if c then a else b):
 ah P 195 [.int .u64 (.ofNat m),.agg (ws a 9),.agg (ws b 9)] [] 0 [] (fun v _ _=>v= .agg (ws r 9)):=by
 have hN:=aqQ hP (Int.ofNat m) (fun j=>Int.ofNat (a j)) (fun j=>Int.ofNat (b j)) (fun j=>Int.ofNat (r j)) (fun k hk=>by
  rw[hm,hr,<-aoN c (a k) (b k) (ha k hk) (hb k hk)];cases c<;>rfl)
 clear hr
 refine aq hP Tryz.func195 (ak _ rfl) (aD rfl) ?_
 intro A g K hA hg hK
 cases A
 cbv
 refine fe rfl hg rfl rfl hN ?_
 rintro _ _ _ rfl
 refine⟨by simp[bd,ay,aw],?_⟩
 cbv
 exact hK _ _ _ rfl
end Go.Proofs.YtfocopihipejfaaGreat
