/-
  This text proves what these texts prove: Qd, Qe, Qh. Conditions: those of each theorem.
-/
import Derived.Test.YtdhmihfefgcbeaaGreatX26
set_option maxHeartbeats 8000000
set_option linter.all false
namespace Go.Proofs.YtdhmihfefgcbeaaGreat
open Go.Vg Go.RowKit
set_option maxRecDepth 200000
set_option cbv.maxSteps 100000000
structure IvS where
 κ:Nat
 r:Nat
 s:Nat
 t:Nat
 u:Nat
 cr:Nat
 cs:Nat
 ct:Nat
 cu:Nat
def IvS.ok(p a c:Nat)[NeZero p](x:IvS):Prop:=EC.IOk p a x.r x.s x.t x.u/\x.s<4294967296^x.cs/\x.r<4294967296^x.cr/\x.t<4294967296^x.ct/\x.u<4294967296^x.cu/\((x.κ=0/\x.r=p/\x.t=0/\x.s=a/\x.cs=c)\/(x.κ=1/\x.r=a/\x.cr=c/\x.r<p)\/(x.κ=2/\x.r<p))
def IvS.F(S:Nat->Nat)(p e:Nat)(x:IvS):FF:=match x.κ with
 |0=> [(1,.slice 1 0 (S p) e),(6,.slice 4 0 (S x.r) x.cr),(7,.slice 0 0 (S x.s) x.cs),(8,.nils),(9,.slice 5 0 (S x.u) x.cu)]
 |1=> [(1,.slice 1 0 (S p) e),(6,.slice 0 0 (S x.r) x.cr),(7,.slice 4 0 (S x.s) x.cs),(8,.slice 3 0 (S x.t) x.ct),(9,.slice 5 0 (S x.u) x.cu)]
 |_=> [(1,.slice 1 0 (S p) e),(6,.slice 2 0 (S x.r) x.cr),(7,.slice 4 0 (S x.s) x.cs),(8,.slice 3 0 (S x.t) x.ct),(9,.slice 5 0 (S x.u) x.cu)]
def IvS.L(H:Nat->Nat->List SV)(p e:Nat)(x:IvS):LL:=match x.κ with
 |0=> [⟨0,H x.s x.cs,58⟩,⟨1,H p e,58⟩,⟨4,H x.r x.cr,58⟩,⟨5,H x.u x.cu,58⟩]
 |1=> [⟨0,H x.r x.cr,58⟩,⟨1,H p e,58⟩,⟨3,H x.t x.ct,58⟩,⟨4,H x.s x.cs,58⟩,⟨5,H x.u x.cu,58⟩]
 |_=> [⟨1,H p e,58⟩,⟨2,H x.r x.cr,58⟩,⟨3,H x.t x.ct,58⟩,⟨4,H x.s x.cs,58⟩,⟨5,H x.u x.cu,58⟩]
section
variable {P:Program}(hP:P=Tryz.prog){H:Nat->Nat->List SV}{S:Nat->Nat}(hs:HS H S)
include hP hs
theorem mInverse{p a c e:Nat}[NeZero p](hp:Pr.Prime p)(hp2:p≠2)(hac:a<4294967296^c)(hpe:p<4294967296^e)(hpb:p<4294967296^18)(ha0:0<a)(hap:a<p)(i:Nat)(hi:i=(EC.finv (EC.nf a:Fin p)).val):
 Con P 70 [.slice 0 0 (S a) c,.slice 1 0 (S p) e] [⟨0,H a c,58⟩,⟨1,H p e,58⟩] 2 [] (fun w L q=>∃k,i<4294967296^k/\w= .tup [.slice 2 0 (S i) k,.bool true]/\L=[⟨2,H i k,58⟩]/\q=3):=by
 have hp1:=hp.1
 have bA:∀m,bdLB m (H a c)=true:=fun m=>hs.b m a c
 have bP:∀m,bdLB m (H p e)=true:=fun m=>hs.b m p e
 have b1:∀m,bdLB m (H 1 1)=true:=fun m=>hs.b m 1 1
 have h1B:(1:Nat)<4294967296:=by decide
 have hrow1:=oneRow hP hs h1B
 have hS1:=hs.one h1B (by decide)
 have hU32:(P.info? 58).map (·.bytes)=some 4:=by subst hP;kernel_rfl
 have hU:tyT 27=tyT 27:=rfl
 obtain⟨c0,c1,c2,c3⟩:=cmp_ex p 1
 have hC0:=mCmp hP hs hpe (y:=1) (e:=1) (by decide) (pow40 hP hs hpb) c0 c1 c2 c3
 obtain⟨d0,d1,d2,d3⟩:=cmp_ex 1 1
 have hSp:0<S p:=by
  rcases Nat.eq_zero_or_pos (S p)with h|h
  ·have:=(hs.nm hpe).zero.1 h;omega
  ·exact h
 have hML:=mModL hP hs hac hpe (Nat.lt_trans hap (pow40 hP hs hpb)) hap
 suffices raw:Con P 70 [.slice 0 0 (S a) c,.slice 1 0 (S p) e] [⟨0,H a c,58⟩,⟨1,H p e,58⟩] 2 [] (fun w L q=>∃k,i<4294967296^k/\w= .tup [.slice 3 0 (S i) k,.bool true]/\find L 3=some ⟨3,H i k,58⟩)from
  raw.weak fun v L q ⟨k,h0,h1,h2⟩=>⟨fun l=>if l=2 then 3 else l,.tup [.slice 2 0 (S i) k,.bool true],[⟨2,H i k,58⟩],3,by subst h1;exact wkr ⟨rfl,rfl,trivial⟩ ⟨by rw[rcl (H i k) (hs.b 0 i k)];exact h2,rfl,rfl,hs.b 3 i k,trivial⟩ rfl rfl rfl,k,h0,rfl,rfl,rfl⟩
 refine cof hP Tryz.func70 ⟨blq rfl,⟨blq rfl,trivial⟩⟩ (by simpa [bdL,bd]using⟨bdb _ (bA 2),bdb _ (bP 2)⟩) ?_
 intro A g K hA hg hK
 obtain⟨_,_,cmp,_,_,_,_,_,_,_,_,_,_,_,nat⟩:=A
 have e1:cmp .leq c0 0=false:=cmp_leq_f hA c1 c2 c3 (by omega)
 rw[hS1,hrow1]at hC0
 cbv
 refine cro rfl hg rfl rfl hC0 (fun k=>if k=0 then 1 else 2) rfl ⟨by rw[rcl (H p e) (bP 0)];rfl,rfl,trivial⟩ ?_
 rintro _ _ _ rfl
 refine⟨trivial,trivial,?_⟩
 cbv
 rw[e1]
 cbv
 refine step_buildSlice0 (hP▸tblOk) hg rfl rfl (show tyT 27=some _ from rfl) rfl ?_
 cbv
 refine step_appH hs (hP▸tblOk) hg rfl rfl (show tyT 27=some _ from rfl) rfl (show tyT 58=some _ from rfl) rfl hU32 (show ev _ _=some (.slice 3 0 0 0)from rfl) (show find _ 3=some _ from rfl) rfl (show ev _ _=some (.slice 1 0 (S p) e)from rfl) (show find _ 1=some _ from rfl) hpe (pow40 hP hs hpb) (fun h=>absurd h (by omega)) ?_
 intro _ pc hpc
 have bPc:∀m,bdLB m (H p pc)=true:=fun m=>hs.b m p pc
 cbv
 refine cro rfl hg rfl rfl hML _root_.id rfl (ft2 (bA 0) (bP 0) rfl rfl) ?_
 rintro _ _ _ rfl
 refine⟨by simp[bd],by simp[bd,ren],?_⟩
 cbv
 refine⟨⟨IvS,IvS.ok p a c,IvS.s,IvS.F S p e,IvS.L H p e,6,⟨⟨0,p,a,0,1,pc,c,0,1⟩,_root_.id,⟨EC.IOk.start hp ha0 hap,hac,hpc,show(0:Nat)<4294967296^0 from by decide,show(1:Nat)<4294967296^1 from by decide,Or.inl ⟨rfl,rfl,rfl,rfl,rfl⟩⟩,?_⟩,?_⟩⟩
 ·have e5:IvS.L H p e ⟨0,p,a,0,1,pc,c,0,1⟩=[⟨0,H a c,58⟩,⟨1,H p e,58⟩,⟨4,H p pc,58⟩,⟨5,[.int .u32 (.ofNat 1)],58⟩]:=by rw[<-hrow1];rfl
  have e6:IvS.F S p e ⟨0,p,a,0,1,pc,c,0,1⟩=[(1,.slice 1 0 (S p) e),(6,.slice 4 0 (S p) pc),(7,.slice 0 0 (S a) c),(8,.nils),(9,.slice 5 0 (S 1) 1)]:=rfl
  rw[e5,e6,hS1]
  exact weak_id ⟨rfl,rfl,rfl,rfl,rfl,rfl,rfl,rfl,rfl,rfl,trivial⟩ ⟨rfl,rfl,bA 6,rfl,rfl,bP 6,rfl,rfl,bPc 6,rfl,rfl,rfl,trivial⟩ rfl rfl
 rintro⟨κ,r,s,t,u,cr,cs,ct,cu⟩ ⟨hok,hs',hr',ht',hu',hκ⟩
 change EC.IOk p a r s t u at hok
 change s<4294967296^cs at hs'
 change r<4294967296^cr at hr'
 change t<4294967296^ct at ht'
 change u<4294967296^cu at hu'
 change (κ=0/\r=p/\t=0/\s=a/\cs=c)\/(κ=1/\r=a/\cr=c/\r<p)\/(κ=2/\r<p)at hκ
 have hsr:=hok.sr
 have hrp:=hok.rp
 have hup:=hok.up
 have htp:=hok.tp
 have hsp:s<p:=by omega
 have bR:∀m,bdLB m (H r cr)=true:=fun m=>hs.b m r cr
 have bS:∀m,bdLB m (H s cs)=true:=fun m=>hs.b m s cs
 have bT:∀m,bdLB m (H t ct)=true:=fun m=>hs.b m t ct
 have bU:∀m,bdLB m (H u cu)=true:=fun m=>hs.b m u cu
 have eS:nat (S s)=Int.ofNat (S s):=nat_of hA _
 have hp40:=pow40 hP hs hpb
 rcases Nat.eq_zero_or_pos s with hs0|hs0
 ·have hSs:S s=0:=(hs.nm hs').zero.2 hs0
  rw[hSs]at eS
  have gS:cmp .gtr (.ofNat 0) 0=false:=gtr_f hA (b:=0) (by omega)
  have hr1:r=1:=by subst hs0;exact hok.fin
  have hti:i=t:=by subst hs0;rw[hi];exact(hok.out hp hp2).symm
  have hC1:=mCmp hP hs hr' (y:=1) (e:=1) (by decide) (by omega) d0 (by rw[hr1];exact d1) (by rw[hr1];exact d2) (by rw[hr1];exact d3)
  rw[hS1,hrow1]at hC1
  have e2:cmp .neq d0 0=false:=cmp_neq_f hA d1 d2 d3 rfl
  rcases hκ with⟨_,_,_,h1,_⟩|⟨rfl,_⟩|⟨rfl,_⟩
  ·omega
  ·cbv
   rw[hSs,eS,gS]
   cbv
   refine cro rfl hg rfl rfl hC1 (fun k=>if k=0 then 0 else 6) rfl ⟨by rw[rcl (H r cr) (bR 0)];rfl,rfl,trivial⟩ ?_
   rintro _ _ _ rfl
   refine⟨trivial,trivial,?_⟩
   cbv
   rw[e2]
   cbv
   exact hK _ _ _ ⟨ct,by rw[hti];exact ht',by rw[hti];rfl,by rw[hti];rfl⟩
  ·cbv
   rw[hSs,eS,gS]
   cbv
   refine cro rfl hg rfl rfl hC1 (fun k=>if k=0 then 2 else 6) rfl ⟨by rw[rcl (H r cr) (bR 0)];rfl,rfl,trivial⟩ ?_
   rintro _ _ _ rfl
   refine⟨trivial,trivial,?_⟩
   cbv
   rw[e2]
   cbv
   exact hK _ _ _ ⟨ct,by rw[hti];exact ht',by rw[hti];rfl,by rw[hti];rfl⟩
 have hSs:0<S s:=by
  rcases Nat.eq_zero_or_pos (S s)with h|h
  ·have:=(hs.nm hs').zero.1 h;omega
  ·exact h
 have gS:cmp .gtr (.ofNat (S s)) 0=true:=gtr_t hA (b:=0) hSs
 obtain⟨q,hq⟩:=exq (r/s)
 obtain⟨w,hw⟩:=exq (r%s)
 have hdiv:=hok.div hs0
 rw[<-hw]at hdiv
 obtain⟨qc,wc,hqc,hwc,hD⟩:=mDiv hP hs hr' hs' (Nat.lt_of_le_of_lt hrp hp40) (Nat.le_of_lt hsr) hs0 q w hq hw hdiv
 have bQ:∀m,bdLB m (H q qc)=true:=fun m=>hs.b m q qc
 have bW:∀m,bdLB m (H w wc)=true:=fun m=>hs.b m w wc
 have bW0:∀m,bdLB m (H w 0)=true:=fun m=>hs.b m w 0
 have hqp0:q<=p:=by rw[hq];exact Nat.le_trans (Nat.div_le_self _ _) hrp
 have hdec:w<s:=by rw[hw];exact Nat.mod_lt _ hs0
 have hw40:w<4294967296^40:=by omega
 obtain⟨x,hx⟩:=exq (r/s%p*u%p)
 have hxp:x<p:=by rw[hx];exact Nat.mod_lt _ (by omega)
 obtain⟨v,hv⟩:=exq (if x<=t then t-x else t+p-x)
 have hnx:=hok.next hs0 hx hv
 rw[<-hw]at hnx
 have hub:u<4294967296^18:=Nat.lt_trans hup hpb
 have htb:t<4294967296^18:=Nat.lt_trans htp hpb
 rcases hok.quo hs0 with hql|⟨hqr,hq1,hqq⟩
 ·rw[<-hq]at hql hx
  rw[Nat.mod_eq_of_lt hql]at hx
  have hqb:q<4294967296^18:=Nat.lt_trans hql hpb
  have hM:=mModL hP hs hqc hpe (pow40 hP hs hqb) hql
  obtain⟨xc,hxc,hMM⟩:=mMulMod hP hs hqc hu' hpe hqb hub (by omega) (EC.mul_hnz hp hql hup) x hx
  have bX:∀m,bdLB m (H x xc)=true:=fun m=>hs.b m x xc
  rcases hκ with⟨rfl,hrp',ht0,hsa,hsc⟩|⟨rfl,hra,hrc',hrl⟩|⟨rfl,hrl⟩
  ·obtain⟨vc,hvc,hSM⟩:=mSubModF hP hs hxc hpe hpb (Nat.le_of_lt hxp) v (by rw[hv,ht0];rcases Nat.eq_zero_or_pos x with h|h;rw[h];rfl;rw[if_neg (by omega),if_neg (by omega),Nat.zero_add])
   have bV:∀m,bdLB m (H v vc)=true:=fun m=>hs.b m v vc
   cbv
   rw[eS,gS]
   cbv
   refine cgn rfl hg rfl rfl hD (fun k=>if k=0 then 4 else 0) rfl (ft2 (bR 0) (bS 0) rfl rfl) rfl rfl rfl ?_
   rintro _ _ _ ⟨rfl,rfl,rfl⟩ _
   refine⟨rfl,?_⟩
   simp only[renB,rcl (H q qc) (bQ 0),rcl (H w wc) (bW 0)]
   cbv
   refine cro rfl hg rfl rfl hM (fun k=>if k=0 then 6 else 1) rfl (ft2 (bQ 0) (bP 0) rfl rfl) ?_
   rintro _ _ _ rfl
   refine⟨by simp[bd],by simp[bd,ren],?_⟩
   cbv
   refine cgn rfl hg rfl rfl hMM (fun k=>if k=0 then 6 else if k=1 then 5 else 1) rfl (ft3 (bQ 0) (bU 0) (bP 0) rfl rfl rfl) rfl rfl rfl ?_
   rintro _ _ _ ⟨rfl,rfl,rfl⟩ _
   refine⟨rfl,?_⟩
   simp only[renB,rcl (H x xc) (bX 0)]
   cbv
   refine cgn rfl hg rfl rfl hSM (fun k=>if k=0 then 8 else 1) rfl (ft2 (bX 0) (bP 0) rfl rfl) rfl rfl rfl ?_
   rintro _ _ _ ⟨rfl,rfl,rfl⟩ _
   refine⟨rfl,?_⟩
   simp only[renB,rcl (H v vc) (bV 0)]
   cbv
   refine step_buildSlice0 (hP▸tblOk) hg rfl rfl (show tyT 27=some _ from rfl) rfl ?_
   cbv
   refine step_appH hs (hP▸tblOk) hg rfl rfl (show tyT 27=some _ from rfl) rfl (show tyT 58=some _ from rfl) rfl hU32 (show ev _ _=some (.slice 10 0 0 0)from rfl) (show find _ 10=some _ from rfl) rfl (show ev _ _=some (.slice 7 0 (S w) wc)from rfl) (show find _ 7=some _ from rfl) hwc hw40 ?_ ?_
   ·intro hw0
    cbv
    exact⟨⟨1,s,w,u,v,cs,0,cu,vc⟩,fun l=>if l=4 then 10 else if l=3 then 5 else if l=5 then 9 else l,⟨hnx,hw0,hs',hu',hvc,Or.inr (Or.inl ⟨rfl,hsa,hsc,hsp⟩)⟩,hdec,wkr ⟨rfl,rfl,rfl,rfl,rfl,rfl,rfl,rfl,rfl,rfl,trivial⟩ ⟨(by rw[rcl (H s cs) (bS 0)];rfl),rfl,rfl,bS 6,(by rw[rcl (H p e) (bP 0)];rfl),rfl,rfl,bP 6,(by rw[rcl (H u cu) (bU 0)];rfl),rfl,rfl,bU 6,(by rw[rcl (H w 0) (bW0 0)];rfl),rfl,rfl,bW0 6,(by rw[rcl (H v vc) (bV 0)];rfl),rfl,rfl,bV 6,trivial⟩ rfl rfl rfl⟩
   ·intro hz wd hwd
    have bD:∀m,bdLB m (H w wd)=true:=fun m=>hs.b m w wd
    cbv
    exact⟨⟨1,s,w,u,v,cs,wd,cu,vc⟩,fun l=>if l=4 then 11 else if l=3 then 5 else if l=5 then 9 else l,⟨hnx,hwd,hs',hu',hvc,Or.inr (Or.inl ⟨rfl,hsa,hsc,hsp⟩)⟩,hdec,wkr ⟨rfl,rfl,rfl,rfl,rfl,rfl,rfl,rfl,rfl,rfl,trivial⟩ ⟨(by rw[rcl (H s cs) (bS 0)];rfl),rfl,rfl,bS 6,(by rw[rcl (H p e) (bP 0)];rfl),rfl,rfl,bP 6,(by rw[rcl (H u cu) (bU 0)];rfl),rfl,rfl,bU 6,(by rw[rcl (H w wd) (bD 0)];rfl),rfl,rfl,bD 6,(by rw[rcl (H v vc) (bV 0)];rfl),rfl,rfl,bV 6,trivial⟩ rfl rfl rfl⟩
  ·obtain⟨vc,hvc,hSM⟩:=mSubMod hP hs ht' hxc hpe htb hpb (Nat.le_of_lt hxp) v hv
   have bV:∀m,bdLB m (H v vc)=true:=fun m=>hs.b m v vc
   cbv
   rw[eS,gS]
   cbv
   refine cgn rfl hg rfl rfl hD (fun k=>if k=0 then 0 else 4) rfl (ft2 (bR 0) (bS 0) rfl rfl) rfl rfl rfl ?_
   rintro _ _ _ ⟨rfl,rfl,rfl⟩ _
   refine⟨rfl,?_⟩
   simp only[renB,rcl (H q qc) (bQ 0),rcl (H w wc) (bW 0)]
   cbv
   refine cro rfl hg rfl rfl hM (fun k=>if k=0 then 6 else 1) rfl (ft2 (bQ 0) (bP 0) rfl rfl) ?_
   rintro _ _ _ rfl
   refine⟨by simp[bd],by simp[bd,ren],?_⟩
   cbv
   refine cgn rfl hg rfl rfl hMM (fun k=>if k=0 then 6 else if k=1 then 5 else 1) rfl (ft3 (bQ 0) (bU 0) (bP 0) rfl rfl rfl) rfl rfl rfl ?_
   rintro _ _ _ ⟨rfl,rfl,rfl⟩ _
   refine⟨rfl,?_⟩
   simp only[renB,rcl (H x xc) (bX 0)]
   cbv
   refine cgn rfl hg rfl rfl hSM (fun k=>if k=0 then 3 else if k=1 then 8 else 1) rfl (ft3 (bT 0) (bX 0) (bP 0) rfl rfl rfl) rfl rfl rfl ?_
   rintro _ _ _ ⟨rfl,rfl,rfl⟩ _
   refine⟨rfl,?_⟩
   simp only[renB,rcl (H v vc) (bV 0)]
   cbv
   refine step_buildSlice0 (hP▸tblOk) hg rfl rfl (show tyT 27=some _ from rfl) rfl ?_
   cbv
   refine step_appH hs (hP▸tblOk) hg rfl rfl (show tyT 27=some _ from rfl) rfl (show tyT 58=some _ from rfl) rfl hU32 (show ev _ _=some (.slice 10 0 0 0)from rfl) (show find _ 10=some _ from rfl) rfl (show ev _ _=some (.slice 7 0 (S w) wc)from rfl) (show find _ 7=some _ from rfl) hwc hw40 ?_ ?_
   ·intro hw0
    cbv
    exact⟨⟨2,s,w,u,v,cs,0,cu,vc⟩,fun l=>if l=4 then 10 else if l=3 then 5 else if l=5 then 9 else if l=2 then 4 else l,⟨hnx,hw0,hs',hu',hvc,Or.inr (Or.inr ⟨rfl,hsp⟩)⟩,hdec,wkr ⟨rfl,rfl,rfl,rfl,rfl,rfl,rfl,rfl,rfl,rfl,trivial⟩ ⟨(by rw[rcl (H p e) (bP 0)];rfl),rfl,rfl,bP 6,(by rw[rcl (H s cs) (bS 0)];rfl),rfl,rfl,bS 6,(by rw[rcl (H u cu) (bU 0)];rfl),rfl,rfl,bU 6,(by rw[rcl (H w 0) (bW0 0)];rfl),rfl,rfl,bW0 6,(by rw[rcl (H v vc) (bV 0)];rfl),rfl,rfl,bV 6,trivial⟩ rfl rfl rfl⟩
   ·intro hz wd hwd
    have bD:∀m,bdLB m (H w wd)=true:=fun m=>hs.b m w wd
    cbv
    exact⟨⟨2,s,w,u,v,cs,wd,cu,vc⟩,fun l=>if l=4 then 11 else if l=3 then 5 else if l=5 then 9 else if l=2 then 4 else l,⟨hnx,hwd,hs',hu',hvc,Or.inr (Or.inr ⟨rfl,hsp⟩)⟩,hdec,wkr ⟨rfl,rfl,rfl,rfl,rfl,rfl,rfl,rfl,rfl,rfl,trivial⟩ ⟨(by rw[rcl (H p e) (bP 0)];rfl),rfl,rfl,bP 6,(by rw[rcl (H s cs) (bS 0)];rfl),rfl,rfl,bS 6,(by rw[rcl (H u cu) (bU 0)];rfl),rfl,rfl,bU 6,(by rw[rcl (H w wd) (bD 0)];rfl),rfl,rfl,bD 6,(by rw[rcl (H v vc) (bV 0)];rfl),rfl,rfl,bV 6,trivial⟩ rfl rfl rfl⟩
  ·obtain⟨vc,hvc,hSM⟩:=mSubMod hP hs ht' hxc hpe htb hpb (Nat.le_of_lt hxp) v hv
   have bV:∀m,bdLB m (H v vc)=true:=fun m=>hs.b m v vc
   cbv
   rw[eS,gS]
   cbv
   refine cgn rfl hg rfl rfl hD (fun k=>if k=0 then 2 else 4) rfl (ft2 (bR 0) (bS 0) rfl rfl) rfl rfl rfl ?_
   rintro _ _ _ ⟨rfl,rfl,rfl⟩ _
   refine⟨rfl,?_⟩
   simp only[renB,rcl (H q qc) (bQ 0),rcl (H w wc) (bW 0)]
   cbv
   refine cro rfl hg rfl rfl hM (fun k=>if k=0 then 6 else 1) rfl (ft2 (bQ 0) (bP 0) rfl rfl) ?_
   rintro _ _ _ rfl
   refine⟨by simp[bd],by simp[bd,ren],?_⟩
   cbv
   refine cgn rfl hg rfl rfl hMM (fun k=>if k=0 then 6 else if k=1 then 5 else 1) rfl (ft3 (bQ 0) (bU 0) (bP 0) rfl rfl rfl) rfl rfl rfl ?_
   rintro _ _ _ ⟨rfl,rfl,rfl⟩ _
   refine⟨rfl,?_⟩
   simp only[renB,rcl (H x xc) (bX 0)]
   cbv
   refine cgn rfl hg rfl rfl hSM (fun k=>if k=0 then 3 else if k=1 then 8 else 1) rfl (ft3 (bT 0) (bX 0) (bP 0) rfl rfl rfl) rfl rfl rfl ?_
   rintro _ _ _ ⟨rfl,rfl,rfl⟩ _
   refine⟨rfl,?_⟩
   simp only[renB,rcl (H v vc) (bV 0)]
   cbv
   refine step_buildSlice0 (hP▸tblOk) hg rfl rfl (show tyT 27=some _ from rfl) rfl ?_
   cbv
   refine step_appH hs (hP▸tblOk) hg rfl rfl (show tyT 27=some _ from rfl) rfl (show tyT 58=some _ from rfl) rfl hU32 (show ev _ _=some (.slice 10 0 0 0)from rfl) (show find _ 10=some _ from rfl) rfl (show ev _ _=some (.slice 7 0 (S w) wc)from rfl) (show find _ 7=some _ from rfl) hwc hw40 ?_ ?_
   ·intro hw0
    cbv
    exact⟨⟨2,s,w,u,v,cs,0,cu,vc⟩,fun l=>if l=4 then 10 else if l=3 then 5 else if l=5 then 9 else if l=2 then 4 else l,⟨hnx,hw0,hs',hu',hvc,Or.inr (Or.inr ⟨rfl,hsp⟩)⟩,hdec,wkr ⟨rfl,rfl,rfl,rfl,rfl,rfl,rfl,rfl,rfl,rfl,trivial⟩ ⟨(by rw[rcl (H p e) (bP 0)];rfl),rfl,rfl,bP 6,(by rw[rcl (H s cs) (bS 0)];rfl),rfl,rfl,bS 6,(by rw[rcl (H u cu) (bU 0)];rfl),rfl,rfl,bU 6,(by rw[rcl (H w 0) (bW0 0)];rfl),rfl,rfl,bW0 6,(by rw[rcl (H v vc) (bV 0)];rfl),rfl,rfl,bV 6,trivial⟩ rfl rfl rfl⟩
   ·intro hz wd hwd
    have bD:∀m,bdLB m (H w wd)=true:=fun m=>hs.b m w wd
    cbv
    exact⟨⟨2,s,w,u,v,cs,wd,cu,vc⟩,fun l=>if l=4 then 11 else if l=3 then 5 else if l=5 then 9 else if l=2 then 4 else l,⟨hnx,hwd,hs',hu',hvc,Or.inr (Or.inr ⟨rfl,hsp⟩)⟩,hdec,wkr ⟨rfl,rfl,rfl,rfl,rfl,rfl,rfl,rfl,rfl,rfl,trivial⟩ ⟨(by rw[rcl (H p e) (bP 0)];rfl),rfl,rfl,bP 6,(by rw[rcl (H s cs) (bS 0)];rfl),rfl,rfl,bS 6,(by rw[rcl (H u cu) (bU 0)];rfl),rfl,rfl,bU 6,(by rw[rcl (H w wd) (bD 0)];rfl),rfl,rfl,bD 6,(by rw[rcl (H v vc) (bV 0)];rfl),rfl,rfl,bV 6,trivial⟩ rfl rfl rfl⟩
 ·rcases hκ with⟨rfl,hrp',ht0,hsa,hsc⟩|⟨rfl,hra,hrc',hrl⟩|⟨rfl,hrl⟩
  ·have hqp:q=p:=by rw[hq];exact hqq
   have hx0:x=0:=by rw[hx,hqq,Nat.mod_self,Nat.zero_mul,Nat.zero_mod]
   have hm0:q%p=0:=by rw[hqp,Nat.mod_self]
   rcases Nat.lt_or_ge p 4294967296 with hpB|hpB
   ·obtain⟨y,hy⟩:=exq (q%p)
    have hM:=mModS hP hs hqc hpe (by omega) (by omega) (by omega) hpB y hy
    have hyp:y<4294967296^1:=by rw[hy,hm0];decide
    have bY:∀m,bdLB m (H y 1)=true:=fun m=>hs.b m y 1
    obtain⟨xc,hxc,hMM⟩:=mMulMod hP hs hyp hu' hpe (by rw[hy,hm0];decide) hub (by omega) (Or.inr (Or.inl hpB)) x (by rw[hx,hy,hq])
    have bX:∀m,bdLB m (H x xc)=true:=fun m=>hs.b m x xc
    obtain⟨vc,hvc,hSM⟩:=mSubModF hP hs hxc hpe hpb (Nat.le_of_lt hxp) v (by rw[hv,ht0];rcases Nat.eq_zero_or_pos x with h|h;rw[h];rfl;rw[if_neg (by omega),if_neg (by omega),Nat.zero_add])
    have bV:∀m,bdLB m (H v vc)=true:=fun m=>hs.b m v vc
    cbv
    rw[eS,gS]
    cbv
    refine cgn rfl hg rfl rfl hD (fun k=>if k=0 then 4 else 0) rfl (ft2 (bR 0) (bS 0) rfl rfl) rfl rfl rfl ?_
    rintro _ _ _ ⟨rfl,rfl,rfl⟩ _
    refine⟨rfl,?_⟩
    simp only[renB,rcl (H q qc) (bQ 0),rcl (H w wc) (bW 0)]
    cbv
    refine cgn rfl hg rfl rfl hM (fun k=>if k=0 then 6 else 1) rfl (ft2 (bQ 0) (bP 0) rfl rfl) rfl rfl rfl ?_
    rintro _ _ _ ⟨rfl,rfl,rfl⟩ _
    refine⟨rfl,?_⟩
    simp only[renB,rcl (H y 1) (bY 0)]
    cbv
    refine cgn rfl hg rfl rfl hMM (fun k=>if k=0 then 8 else if k=1 then 5 else 1) rfl (ft3 (bY 0) (bU 0) (bP 0) rfl rfl rfl) rfl rfl rfl ?_
    rintro _ _ _ ⟨rfl,rfl,rfl⟩ _
    refine⟨rfl,?_⟩
    simp only[renB,rcl (H x xc) (bX 0)]
    cbv
    refine cgn rfl hg rfl rfl hSM (fun k=>if k=0 then 9 else 1) rfl (ft2 (bX 0) (bP 0) rfl rfl) rfl rfl rfl ?_
    rintro _ _ _ ⟨rfl,rfl,rfl⟩ _
    refine⟨rfl,?_⟩
    simp only[renB,rcl (H v vc) (bV 0)]
    cbv
    refine step_buildSlice0 (hP▸tblOk) hg rfl rfl (show tyT 27=some _ from rfl) rfl ?_
    cbv
    refine step_appH hs (hP▸tblOk) hg rfl rfl (show tyT 27=some _ from rfl) rfl (show tyT 58=some _ from rfl) rfl hU32 (show ev _ _=some (.slice 11 0 0 0)from rfl) (show find _ 11=some _ from rfl) rfl (show ev _ _=some (.slice 7 0 (S w) wc)from rfl) (show find _ 7=some _ from rfl) hwc hw40 ?_ ?_
    ·intro hw0
     cbv
     exact⟨⟨1,s,w,u,v,cs,0,cu,vc⟩,fun l=>if l=4 then 11 else if l=3 then 5 else if l=5 then 10 else l,⟨hnx,hw0,hs',hu',hvc,Or.inr (Or.inl ⟨rfl,hsa,hsc,hsp⟩)⟩,hdec,wkr ⟨rfl,rfl,rfl,rfl,rfl,rfl,rfl,rfl,rfl,rfl,trivial⟩ ⟨(by rw[rcl (H s cs) (bS 0)];rfl),rfl,rfl,bS 6,(by rw[rcl (H p e) (bP 0)];rfl),rfl,rfl,bP 6,(by rw[rcl (H u cu) (bU 0)];rfl),rfl,rfl,bU 6,(by rw[rcl (H w 0) (bW0 0)];rfl),rfl,rfl,bW0 6,(by rw[rcl (H v vc) (bV 0)];rfl),rfl,rfl,bV 6,trivial⟩ rfl rfl rfl⟩
    ·intro hz wd hwd
     have bD:∀m,bdLB m (H w wd)=true:=fun m=>hs.b m w wd
     cbv
     exact⟨⟨1,s,w,u,v,cs,wd,cu,vc⟩,fun l=>if l=4 then 12 else if l=3 then 5 else if l=5 then 10 else l,⟨hnx,hwd,hs',hu',hvc,Or.inr (Or.inl ⟨rfl,hsa,hsc,hsp⟩)⟩,hdec,wkr ⟨rfl,rfl,rfl,rfl,rfl,rfl,rfl,rfl,rfl,rfl,trivial⟩ ⟨(by rw[rcl (H s cs) (bS 0)];rfl),rfl,rfl,bS 6,(by rw[rcl (H p e) (bP 0)];rfl),rfl,rfl,bP 6,(by rw[rcl (H u cu) (bU 0)];rfl),rfl,rfl,bU 6,(by rw[rcl (H w wd) (bD 0)];rfl),rfl,rfl,bD 6,(by rw[rcl (H v vc) (bV 0)];rfl),rfl,rfl,bV 6,trivial⟩ rfl rfl rfl⟩
   ·have hM:=mModZ hP hs hqc hpe (by omega) (by omega) hpB hm0
    obtain⟨xc,hxc,hMM⟩:∃xc,x<4294967296^xc/\Con P 67 [.nils,.slice 0 0 (S u) cu,.slice 1 0 (S p) e] [⟨0,H u cu,58⟩,⟨1,H p e,58⟩] 2 [] (fun w L q=>w= .slice 2 0 (S x) xc/\L=[⟨2,H x xc,58⟩]/\q=3):=⟨S u,by rw[hx0];exact Nat.pow_pos (by decide),by rw[hx0];exact mMulModF hP hs hu' hpe hub (by omega)⟩
    have bX:∀m,bdLB m (H x xc)=true:=fun m=>hs.b m x xc
    obtain⟨vc,hvc,hSM⟩:=mSubModF hP hs hxc hpe hpb (Nat.le_of_lt hxp) v (by rw[hv,ht0];rcases Nat.eq_zero_or_pos x with h|h;rw[h];rfl;rw[if_neg (by omega),if_neg (by omega),Nat.zero_add])
    have bV:∀m,bdLB m (H v vc)=true:=fun m=>hs.b m v vc
    cbv
    rw[eS,gS]
    cbv
    refine cgn rfl hg rfl rfl hD (fun k=>if k=0 then 4 else 0) rfl (ft2 (bR 0) (bS 0) rfl rfl) rfl rfl rfl ?_
    rintro _ _ _ ⟨rfl,rfl,rfl⟩ _
    refine⟨rfl,?_⟩
    simp only[renB,rcl (H q qc) (bQ 0),rcl (H w wc) (bW 0)]
    cbv
    refine cro rfl hg rfl rfl hM (fun k=>if k=0 then 6 else 1) rfl (ft2 (bQ 0) (bP 0) rfl rfl) ?_
    rintro _ _ _ rfl
    refine⟨trivial,trivial,?_⟩
    cbv
    refine cgn rfl hg rfl rfl hMM (fun k=>if k=0 then 5 else 1) rfl (ft2 (bU 0) (bP 0) rfl rfl) rfl rfl rfl ?_
    rintro _ _ _ ⟨rfl,rfl,rfl⟩ _
    refine⟨rfl,?_⟩
    simp only[renB,rcl (H x xc) (bX 0)]
    cbv
    refine cgn rfl hg rfl rfl hSM (fun k=>if k=0 then 8 else 1) rfl (ft2 (bX 0) (bP 0) rfl rfl) rfl rfl rfl ?_
    rintro _ _ _ ⟨rfl,rfl,rfl⟩ _
    refine⟨rfl,?_⟩
    simp only[renB,rcl (H v vc) (bV 0)]
    cbv
    refine step_buildSlice0 (hP▸tblOk) hg rfl rfl (show tyT 27=some _ from rfl) rfl ?_
    cbv
    refine step_appH hs (hP▸tblOk) hg rfl rfl (show tyT 27=some _ from rfl) rfl (show tyT 58=some _ from rfl) rfl hU32 (show ev _ _=some (.slice 10 0 0 0)from rfl) (show find _ 10=some _ from rfl) rfl (show ev _ _=some (.slice 7 0 (S w) wc)from rfl) (show find _ 7=some _ from rfl) hwc hw40 ?_ ?_
    ·intro hw0
     cbv
     exact⟨⟨1,s,w,u,v,cs,0,cu,vc⟩,fun l=>if l=4 then 10 else if l=3 then 5 else if l=5 then 9 else l,⟨hnx,hw0,hs',hu',hvc,Or.inr (Or.inl ⟨rfl,hsa,hsc,hsp⟩)⟩,hdec,wkr ⟨rfl,rfl,rfl,rfl,rfl,rfl,rfl,rfl,rfl,rfl,trivial⟩ ⟨(by rw[rcl (H s cs) (bS 0)];rfl),rfl,rfl,bS 6,(by rw[rcl (H p e) (bP 0)];rfl),rfl,rfl,bP 6,(by rw[rcl (H u cu) (bU 0)];rfl),rfl,rfl,bU 6,(by rw[rcl (H w 0) (bW0 0)];rfl),rfl,rfl,bW0 6,(by rw[rcl (H v vc) (bV 0)];rfl),rfl,rfl,bV 6,trivial⟩ rfl rfl rfl⟩
    ·intro hz wd hwd
     have bD:∀m,bdLB m (H w wd)=true:=fun m=>hs.b m w wd
     cbv
     exact⟨⟨1,s,w,u,v,cs,wd,cu,vc⟩,fun l=>if l=4 then 11 else if l=3 then 5 else if l=5 then 9 else l,⟨hnx,hwd,hs',hu',hvc,Or.inr (Or.inl ⟨rfl,hsa,hsc,hsp⟩)⟩,hdec,wkr ⟨rfl,rfl,rfl,rfl,rfl,rfl,rfl,rfl,rfl,rfl,trivial⟩ ⟨(by rw[rcl (H s cs) (bS 0)];rfl),rfl,rfl,bS 6,(by rw[rcl (H p e) (bP 0)];rfl),rfl,rfl,bP 6,(by rw[rcl (H u cu) (bU 0)];rfl),rfl,rfl,bU 6,(by rw[rcl (H w wd) (bD 0)];rfl),rfl,rfl,bD 6,(by rw[rcl (H v vc) (bV 0)];rfl),rfl,rfl,bV 6,trivial⟩ rfl rfl rfl⟩
  ·omega
  ·omega
end
end Go.Proofs.YtdhmihfefgcbeaaGreat
namespace Go.Vg
open Go.RowKit
section
variable {P:Program}{g:G}
theorem stepD_c3{o:Oper}{c:Call}(ho:o.op= .call c){m0 N:Nat}{ms:List Nat}(hg:GI g m0 ms N)(hd':dstLt N o.dst=true){F:FF}{M:LL}{n:Nat}{f:FuncId}{us args:List SV}(hc:callee (look F) c=some (f,us)){a b:Nat}{C C0 C1 C2:List SV}{t:TypeId}
 (hcon:Con P f args [⟨0,C0,t⟩,⟨1,C1,t⟩,⟨2,C2,t⟩] 3 [] (fun w L q=>w= .slice 3 0 a b/\L=[⟨3,C,t⟩]/\q=4)) (bC:∀m,bdLB m C=true) (b0:∀m,bdLB m C0=true) (b1:∀m,bdLB m C1=true) (b2:∀m,bdLB m C2=true)
 (ρ:Nat->Nat) (hus:us=renL ρ args) (h0:selM o (find M) (ρ 0)=some ⟨ρ 0,C0,t⟩) (h1:selM o (find M) (ρ 1)=some ⟨ρ 1,C1,t⟩) (h2:selM o (find M) (ρ 2)=some ⟨ρ 2,C2,t⟩) {K:SV->LL->Nat->Prop} (hK:K (.slice n 0 a b) [⟨n,C,t⟩] (n+1)):StepD g P o F M n K:=
 stepD_one ho hg hd' hc hcon (bC 0) (by
  intro b hb
  rcases List.mem_cons.1 hb with rfl|hb
  ·exact⟨by show 0<3;decide,b0 3⟩
  ·rcases List.mem_cons.1 hb with rfl|hb
   ·exact⟨by show 1<3;decide,b1 3⟩
   ·obtain rfl:=List.mem_singleton.1 hb
    exact⟨by show 2<3;decide,b2 3⟩) ρ hus (ft3 (b0 0) (b1 0) (b2 0) h0 h1 h2) rfl hK
end
end Go.Vg
namespace EC
section
variable {p:Nat}[NeZero p]
omit [NeZero p] in
theorem fa_val(U V:Fin p):(U+V).val=if p<=U.val+V.val then U.val+V.val-p else U.val+V.val:=by
 have h1:=U.isLt
 have h2:=V.isLt
 rw[val_add]
 split
 ·rw[Nat.mod_eq_sub_mod (by omega),Nat.mod_eq_of_lt (by omega)]
 ·rw[Nat.mod_eq_of_lt (by omega)]
omit [NeZero p] in
theorem fs_val(U V:Fin p):(U-V).val=if V.val<=U.val then U.val-V.val else U.val+p-V.val:=by
 have h1:=U.isLt
 have h2:=V.isLt
 rw[Fin.sub_def]
 show(p-V.val+U.val)%p=_
 split
 ·rw[Nat.mod_eq_sub_mod (by omega),show p-V.val+U.val-p=U.val-V.val by omega,Nat.mod_eq_of_lt (by omega)]
 ·rw[Nat.mod_eq_of_lt (by omega)];omega
end
end EC
namespace Go.Proofs.YtdhmihfefgcbeaaGreat
open Go.Vg Go.RowKit
set_option maxRecDepth 200000
set_option cbv.maxSteps 100000000
section
variable {P:Program}(hP:P=Tryz.prog){H:Nat->Nat->List SV}{S:Nat->Nat}(hs:HS H S){p pc:Nat}[NeZero p](hp:Pr.Prime p)(hpc:p<4294967296^pc)(hpb:p<4294967296^18)
include hP hs hpc hpb
omit [NeZero p] in
theorem mFA{c e:Nat}(U V:Fin p)(u v w:Nat)(hu:u=U.val)(hv:v=V.val)(hw:w=(U+V).val)(huc:u<4294967296^c)(hve:v<4294967296^e):
 ∃k,w<4294967296^k/\Con P 68 [.slice 0 0 (S u) c,.slice 1 0 (S v) e,.slice 2 0 (S p) pc] [⟨0,H u c,58⟩,⟨1,H v e,58⟩,⟨2,H p pc,58⟩] 3 [] (fun x L q=>x= .slice 3 0 (S w) k/\L=[⟨3,H w k,58⟩]/\q=4):=
 mAddMod hP hs huc hve hpc (by have:=U.isLt;omega) (by have:=V.isLt;omega) w (by rw[hw,hu,hv];exact EC.fa_val U V)
omit [NeZero p] in
theorem mFS{c e:Nat}(U V:Fin p)(u v w:Nat)(hu:u=U.val)(hv:v=V.val)(hw:w=(U-V).val)(huc:u<4294967296^c)(hve:v<4294967296^e):
 ∃k,w<4294967296^k/\Con P 69 [.slice 0 0 (S u) c,.slice 1 0 (S v) e,.slice 2 0 (S p) pc] [⟨0,H u c,58⟩,⟨1,H v e,58⟩,⟨2,H p pc,58⟩] 3 [] (fun x L q=>x= .slice 3 0 (S w) k/\L=[⟨3,H w k,58⟩]/\q=4):=
 mSubMod hP hs huc hve hpc (by have:=U.isLt;omega) hpb (by have:=V.isLt;omega) w (by rw[hw,hu,hv];exact EC.fs_val U V)
include hp in
omit [NeZero p] in
theorem mFM{c e:Nat}(U V:Fin p)(u v w:Nat)(hu:u=U.val)(hv:v=V.val)(hw:w=(U*V).val)(huc:u<4294967296^c)(hve:v<4294967296^e):
 ∃k,w<4294967296^k/\Con P 67 [.slice 0 0 (S u) c,.slice 1 0 (S v) e,.slice 2 0 (S p) pc] [⟨0,H u c,58⟩,⟨1,H v e,58⟩,⟨2,H p pc,58⟩] 3 [] (fun x L q=>x= .slice 3 0 (S w) k/\L=[⟨3,H w k,58⟩]/\q=4):=by
 have h1:=U.isLt
 have h2:=V.isLt
 exact mMulMod hP hs huc hve hpc (by omega) (by omega) (by omega) (EC.mul_hnz hp (by omega) (by omega)) w (by rw[hw,hu,hv];exact EC.val_mul U V)
omit hpc hpb [NeZero p] in
theorem mPlusOO{a ac:Nat}(k nB nN nX nY cB cN cX cY:Nat)(rB rN rX rY:List SV)(b1:∀m,bdLB m (H p pc)=true)(b6:∀m,bdLB m (H a ac)=true)(b2:∀m,bdLB m rB=true)(b3:∀m,bdLB m rN=true)(b4:∀m,bdLB m rX=true)(b5:∀m,bdLB m rY=true):
 Con P 44 [.agg (cvS k (.slice 0 0 (S p) pc) (.slice 1 0 (S a) ac) (.slice 2 0 nB cB) (.slice 3 0 nN cN) (.slice 4 0 nX cX) (.slice 5 0 nY cY)),.agg [.nils,.nils,.bool true],.agg [.nils,.nils,.bool true]] [⟨0,H p pc,58⟩,⟨1,H a ac,58⟩,⟨2,rB,58⟩,⟨3,rN,58⟩,⟨4,rX,58⟩,⟨5,rY,58⟩] 6 [] (fun w _ _=>w= .agg [.nils,.nils,.bool true]):=by
 obtain⟨Np,hNp⟩:=exq (S p)
 obtain⟨Na,hNa⟩:=exq (S a)
 rw[<-hNp,<-hNa]
 clear hNp hNa
 refine cof hP Tryz.func44 ⟨⟨trivial,blq rfl,blq rfl,blq rfl,blq rfl,blq rfl,blq rfl,trivial⟩,⟨trivial,trivial,trivial,trivial⟩,⟨trivial,trivial,trivial,trivial⟩,trivial⟩ (by simpa [bdL,bd]using⟨bdb _ (b1 6),bdb _ (b6 6),bdb _ (b2 6),bdb _ (b3 6),bdb _ (b4 6),bdb _ (b5 6)⟩) ?_
 intro A g K hA hg hK
 cases A
 cbv
 exact hK _ _ _ rfl
omit hpc hpb [NeZero p] in
theorem mPlusO{a ac x c y e:Nat}(k nB nN nX nY cB cN cX cY:Nat)(rB rN rX rY:List SV)(b1:∀m,bdLB m (H p pc)=true)(b6:∀m,bdLB m (H a ac)=true)(b2:∀m,bdLB m rB=true)(b3:∀m,bdLB m rN=true)(b4:∀m,bdLB m rX=true)(b5:∀m,bdLB m rY=true):
 Con P 44 [.agg (cvS k (.slice 0 0 (S p) pc) (.slice 1 0 (S a) ac) (.slice 2 0 nB cB) (.slice 3 0 nN cN) (.slice 4 0 nX cX) (.slice 5 0 nY cY)),.agg [.nils,.nils,.bool true],.agg [.slice 6 0 (S x) c,.slice 7 0 (S y) e,.bool false]] [⟨0,H p pc,58⟩,⟨1,H a ac,58⟩,⟨2,rB,58⟩,⟨3,rN,58⟩,⟨4,rX,58⟩,⟨5,rY,58⟩,⟨6,H x c,58⟩,⟨7,H y e,58⟩] 8 [] (fun w _ _=>w= .agg [.slice 6 0 (S x) c,.slice 7 0 (S y) e,.bool false]):=by
 have b7:∀m,bdLB m (H x c)=true:=fun m=>hs.b m x c
 have b8:∀m,bdLB m (H y e)=true:=fun m=>hs.b m y e
 obtain⟨Np,hNp⟩:=exq (S p)
 obtain⟨Na,hNa⟩:=exq (S a)
 obtain⟨Nx,hNx⟩:=exq (S x)
 obtain⟨Ny,hNy⟩:=exq (S y)
 rw[<-hNp,<-hNa,<-hNx,<-hNy]
 clear hNp hNa hNx hNy
 refine cof hP Tryz.func44 ⟨⟨trivial,blq rfl,blq rfl,blq rfl,blq rfl,blq rfl,blq rfl,trivial⟩,⟨trivial,trivial,trivial,trivial⟩,⟨blq rfl,blq rfl,trivial,trivial⟩,trivial⟩ (by simpa [bdL,bd]using⟨bdb _ (b1 8),bdb _ (b6 8),bdb _ (b2 8),bdb _ (b3 8),bdb _ (b4 8),bdb _ (b5 8),bdb _ (b7 8),bdb _ (b8 8)⟩) ?_
 intro A g K hA hg hK
 cases A
 cbv
 exact hK _ _ _ rfl
include hp in
theorem mPlusD{a ac x1 c1 y1 e1 x2 c2 y2 e2:Nat}(k nB nN nX nY cB cN cX cY:Nat)(rB rN rX rY:List SV)(hp2:p≠2)(Av X1 Y1 X2 Y2 Lm:Fin p)(ha:a=Av.val)(h1:x1=X1.val)(h2:y1=Y1.val)(h3:x2=X2.val)(h4:y2=Y2.val)(hac:a<4294967296^ac)(hx1:x1<4294967296^c1)(hy1:y1<4294967296^e1)(hx2:x2<4294967296^c2)(hy2:y2<4294967296^e2)(b2:∀m,bdLB m rB=true)(b3:∀m,bdLB m rN=true)(b4:∀m,bdLB m rX=true)(b5:∀m,bdLB m rY=true)(h12:X2=X1)(h34:Y2=Y1)(hy0:y1≠0)
 (hLm:Lm=((X1*X1+(X1*X1+X1*X1))+Av)*EC.finv (Y1+Y1)) (x3 y3:Nat) (h5:x3=(Lm*Lm-X1-X2).val) (h6:y3=(Lm*(X1-(Lm*Lm-X1-X2))-Y1).val):
 Con P 44 [.agg (cvS k (.slice 0 0 (S p) pc) (.slice 1 0 (S a) ac) (.slice 2 0 nB cB) (.slice 3 0 nN cN) (.slice 4 0 nX cX) (.slice 5 0 nY cY)),.agg [.slice 6 0 (S x1) c1,.slice 7 0 (S y1) e1,.bool false],.agg [.slice 8 0 (S x2) c2,.slice 9 0 (S y2) e2,.bool false]]
  [⟨0,H p pc,58⟩,⟨1,H a ac,58⟩,⟨2,rB,58⟩,⟨3,rN,58⟩,⟨4,rX,58⟩,⟨5,rY,58⟩,⟨6,H x1 c1,58⟩,⟨7,H y1 e1,58⟩,⟨8,H x2 c2,58⟩,⟨9,H y2 e2,58⟩] 10 [] (fun w L q=>∃c3 e3,x3<4294967296^c3/\y3<4294967296^e3/\w= .agg [.slice 10 0 (S x3) c3,.slice 11 0 (S y3) e3,.bool false]/\L=[⟨10,H x3 c3,58⟩,⟨11,H y3 e3,58⟩]/\q=12):=by
 have hp1:=hp.1
 have vP:∀m,bdLB m (H p pc)=true:=fun m=>hs.b m p pc
 have vA:∀m,bdLB m (H a ac)=true:=fun m=>hs.b m a ac
 have v1:∀m,bdLB m (H x1 c1)=true:=fun m=>hs.b m x1 c1
 have v2:∀m,bdLB m (H y1 e1)=true:=fun m=>hs.b m y1 e1
 have v3:∀m,bdLB m (H x2 c2)=true:=fun m=>hs.b m x2 c2
 have v4:∀m,bdLB m (H y2 e2)=true:=fun m=>hs.b m y2 e2
 have lx1:x1<p:=by rw[h1];exact X1.isLt
 have ly1:y1<p:=by rw[h2];exact Y1.isLt
 have lx2:x2<p:=by rw[h3];exact X2.isLt
 have ly2:y2<p:=by rw[h4];exact Y2.isLt
 obtain⟨ci,c11,c12,c13⟩:=cmp_ex x1 x2
 have hC:=mCmp hP hs hx1 hx2 (Nat.lt_trans lx1 (pow40 hP hs hpb)) ci c11 c12 c13
 have h34n:y1=y2:=by rw[h2,h4,h34]
 have h12n:x1=x2:=by rw[h1,h3,h12]
 obtain⟨di,d11,d12,d13⟩:=cmp_ex y1 y2
 have hC2:=mCmp hP hs hy1 hy2 (Nat.lt_trans ly1 (pow40 hP hs hpb)) di d11 d12 d13
 obtain⟨xx',hxx'⟩:=exq (X1*X1:Fin p)
 obtain⟨xx,hxx⟩:=exq xx'.val
 obtain⟨xxc,bxx,hDxx⟩:=mFM hP hs hp hpc hpb X1 X1 x1 x1 xx h1 h1 (by rw[hxx,hxx']) hx1 hx1
 have wxx:∀m,bdLB m (H xx xxc)=true:=fun m=>hs.b m xx xxc
 obtain⟨x_2',hx_2'⟩:=exq (xx'+xx':Fin p)
 obtain⟨x_2,hx_2⟩:=exq x_2'.val
 obtain⟨x_2c,bx_2,hDx_2⟩:=mFA hP hs hpc hpb xx' xx' xx xx x_2 hxx hxx (by rw[hx_2,hx_2']) bxx bxx
 have wx_2:∀m,bdLB m (H x_2 x_2c)=true:=fun m=>hs.b m x_2 x_2c
 obtain⟨x_3',hx_3'⟩:=exq (xx'+x_2':Fin p)
 obtain⟨x_3,hx_3⟩:=exq x_3'.val
 obtain⟨x_3c,bx_3,hDx_3⟩:=mFA hP hs hpc hpb xx' x_2' xx x_2 x_3 hxx hx_2 (by rw[hx_3,hx_3']) bxx bx_2
 have wx_3:∀m,bdLB m (H x_3 x_3c)=true:=fun m=>hs.b m x_3 x_3c
 obtain⟨ov',hov'⟩:=exq (x_3'+Av:Fin p)
 obtain⟨ov,hov⟩:=exq ov'.val
 obtain⟨ovc,bov,hDov⟩:=mFA hP hs hpc hpb x_3' Av x_3 a ov hx_3 ha (by rw[hov,hov']) bx_3 hac
 have wov:∀m,bdLB m (H ov ovc)=true:=fun m=>hs.b m ov ovc
 obtain⟨un',hun'⟩:=exq (Y1+Y1:Fin p)
 obtain⟨un,hun⟩:=exq un'.val
 obtain⟨unc,bun,hDun⟩:=mFA hP hs hpc hpb Y1 Y1 y1 y1 un h2 h2 (by rw[hun,hun']) hy1 hy1
 have wun:∀m,bdLB m (H un unc)=true:=fun m=>hs.b m un unc
 have hun0:un'≠0:=fun h=>by
  rw[hun']at h
  have h8:=(EC.fld hp hp2).two _ h
  rw[h8]at h2
  exact hy0 (h2.trans EC.val_zero)
 have hY0:S y1≠0:=fun h=>hy0 ((hs.nm hy1).zero.1 h)
 have hun1:0<un:=by
  rcases Nat.eq_zero_or_pos un with h|h
  ·exact absurd (EC.eq_zero_of_dvd (by rw[<-hun,h];exact Nat.dvd_zero p)) hun0
  ·exact h
 have hunp:un<p:=by rw[hun];exact un'.isLt
 obtain⟨iv',hiv'⟩:=exq (EC.finv (EC.nf un):Fin p)
 have hivf:iv'=EC.finv un':=by rw[hiv',hun,EC.nf_val]
 obtain⟨iv,hiv⟩:=exq iv'.val
 have hI:=mInverse hP hs hp hp2 bun hpc hpb hun1 hunp iv (by rw[hiv,hiv'])
 have hLm':Lm=ov'*iv':=by rw[hLm,hivf,hov',hun',hx_3',hx_2',hxx']
 suffices raw:Con P 44 [.agg (cvS k (.slice 0 0 (S p) pc) (.slice 1 0 (S a) ac) (.slice 2 0 nB cB) (.slice 3 0 nN cN) (.slice 4 0 nX cX) (.slice 5 0 nY cY)),.agg [.slice 6 0 (S x1) c1,.slice 7 0 (S y1) e1,.bool false],.agg [.slice 8 0 (S x2) c2,.slice 9 0 (S y2) e2,.bool false]]
  [⟨0,H p pc,58⟩,⟨1,H a ac,58⟩,⟨2,rB,58⟩,⟨3,rN,58⟩,⟨4,rX,58⟩,⟨5,rY,58⟩,⟨6,H x1 c1,58⟩,⟨7,H y1 e1,58⟩,⟨8,H x2 c2,58⟩,⟨9,H y2 e2,58⟩] 10 [] (fun w L q=>∃c3 e3,x3<4294967296^c3/\y3<4294967296^e3/\w= .agg [.slice 23 0 (S x3) c3,.slice 26 0 (S y3) e3,.bool false]/\find L 23=some ⟨23,H x3 c3,58⟩/\find L 26=some ⟨26,H y3 e3,58⟩)from
  raw.weak fun v L q ⟨c3,e3,g1,g2,g3,g4,g5⟩=>⟨fun l=>if l=10 then 23 else if l=11 then 26 else l,.agg [.slice 10 0 (S x3) c3,.slice 11 0 (S y3) e3,.bool false],[⟨10,H x3 c3,58⟩,⟨11,H y3 e3,58⟩],12,by subst g3;exact wkr ⟨rfl,rfl,trivial⟩ ⟨by rw[rcl (H x3 c3) (hs.b 0 x3 c3)];exact g4,rfl,rfl,hs.b 12 x3 c3,by rw[rcl (H y3 e3) (hs.b 0 y3 e3)];exact g5,rfl,rfl,hs.b 12 y3 e3,trivial⟩ rfl rfl rfl,c3,e3,g1,g2,rfl,rfl,rfl⟩
 refine cof hP Tryz.func44 ⟨⟨trivial,blq rfl,blq rfl,blq rfl,blq rfl,blq rfl,blq rfl,trivial⟩,⟨blq rfl,blq rfl,trivial,trivial⟩,⟨blq rfl,blq rfl,trivial,trivial⟩,trivial⟩ (by simpa [bdL,bd]using⟨bdb _ (vP 10),bdb _ (vA 10),bdb _ (b2 10),bdb _ (b3 10),bdb _ (b4 10),bdb _ (b5 10),bdb _ (v1 10),bdb _ (v2 10),bdb _ (v3 10),bdb _ (v4 10)⟩) ?_
 intro A g K hA hg hK
 obtain⟨_,_,cmp,_,_,_,_,_,_,_,_,_,_,_,nat⟩:=A
 have q1:cmp .eql ci 0=true:=cmp_eql_t hA c11 c12 c13 h12n
 have q2:cmp .neq di 0=false:=cmp_neq_f hA d11 d12 d13 h34n
 have q3:nat (S y1)=Int.ofNat (S y1):=nat_of hA _
 have q4:cmp .eql (.ofNat (S y1)) 0=false:=eql_f hA (b:=0) hY0
 cbv
 refine cro rfl hg rfl rfl hC (fun l=>if l=0 then 6 else 8) rfl (ft2 (v1 0) (v3 0) rfl rfl) ?_
 rintro _ _ _ rfl
 refine⟨trivial,trivial,?_⟩
 cbv
 rw[q1]
 cbv
 refine cro rfl hg rfl rfl hC2 (fun l=>if l=0 then 7 else 9) rfl (ft2 (v2 0) (v4 0) rfl rfl) ?_
 rintro _ _ _ rfl
 refine⟨trivial,trivial,?_⟩
 cbv
 rw[q2]
 cbv
 rw[q3,q4]
 cbv
 refine cgn rfl hg rfl rfl hDxx (fun l=>if l=0 then 6 else if l=1 then 6 else 0) rfl (ft3 (v1 0) (v1 0) (vP 0) rfl rfl rfl) rfl rfl rfl ?_
 rintro _ _ _ ⟨rfl,rfl,rfl⟩ _
 refine⟨rfl,?_⟩
 simp only[renB,rcl (H xx xxc) (wxx 0)]
 cbv
 refine reg_A (hP▸tblOk) hA hg (hP▸mixed) rfl rfl ?_
 cbv
 refine stepD_c3 rfl hg rfl rfl hDx_2 wx_2 wxx wxx vP (fun l=>if l=0 then 14 else if l=1 then 14 else 0) rfl rfl rfl rfl ?_
 cbv
 refine stepD_c3 rfl hg rfl rfl hDx_3 wx_3 wxx wx_2 vP (fun l=>if l=0 then 14 else if l=1 then 15 else 0) rfl rfl rfl rfl ?_
 cbv
 refine stepD_c3 rfl hg rfl rfl hDov wov wx_3 vA vP (fun l=>if l=0 then 16 else if l=1 then 1 else 0) rfl rfl rfl rfl ?_
 cbv
 refine cgn rfl hg rfl rfl hDun (fun l=>if l=0 then 7 else if l=1 then 7 else 0) rfl (ft3 (v2 0) (v2 0) (vP 0) rfl rfl rfl) rfl rfl rfl ?_
 rintro _ _ _ ⟨rfl,rfl,rfl⟩ _
 refine⟨rfl,?_⟩
 simp only[renB,rcl (H un unc) (wun 0)]
 cbv
 refine cgn rfl hg rfl rfl hI (fun l=>if l=0 then 18 else 0) rfl (ft2 (wun 0) (vP 0) rfl rfl) rfl rfl rfl ?_
 rintro _ _ _ ⟨ivc,biv,rfl,rfl,rfl⟩ _
 refine⟨rfl,?_⟩
 have wiv:∀m,bdLB m (H iv ivc)=true:=fun m=>hs.b m iv ivc
 simp only[renB,rcl (H iv ivc) (wiv 0)]
 obtain⟨lm',hlm'⟩:=exq (ov'*iv':Fin p)
 obtain⟨lm,hlm⟩:=exq lm'.val
 obtain⟨lmc,blm,hDlm⟩:=mFM hP hs hp hpc hpb ov' iv' ov iv lm hov hiv (by rw[hlm,hlm']) bov biv
 have wlm:∀m,bdLB m (H lm lmc)=true:=fun m=>hs.b m lm lmc
 obtain⟨ll',hll'⟩:=exq (lm'*lm':Fin p)
 obtain⟨ll,hll⟩:=exq ll'.val
 obtain⟨llc,bll,hDll⟩:=mFM hP hs hp hpc hpb lm' lm' lm lm ll hlm hlm (by rw[hll,hll']) blm blm
 have wll:∀m,bdLB m (H ll llc)=true:=fun m=>hs.b m ll llc
 obtain⟨l1',hl1'⟩:=exq (ll'-X1:Fin p)
 obtain⟨l1,hl1⟩:=exq l1'.val
 obtain⟨l1c,bl1,hDl1⟩:=mFS hP hs hpc hpb ll' X1 ll x1 l1 hll h1 (by rw[hl1,hl1']) bll hx1
 have wl1:∀m,bdLB m (H l1 l1c)=true:=fun m=>hs.b m l1 l1c
 obtain⟨xz',hxz'⟩:=exq (l1'-X2:Fin p)
 obtain⟨xz,hxz⟩:=exq xz'.val
 obtain⟨xzc,bxz,hDxz⟩:=mFS hP hs hpc hpb l1' X2 l1 x2 xz hl1 h3 (by rw[hxz,hxz']) bl1 hx2
 have wxz:∀m,bdLB m (H xz xzc)=true:=fun m=>hs.b m xz xzc
 obtain⟨xd',hxd'⟩:=exq (X1-xz':Fin p)
 obtain⟨xd,hxd⟩:=exq xd'.val
 obtain⟨xdc,bxd,hDxd⟩:=mFS hP hs hpc hpb X1 xz' x1 xz xd h1 hxz (by rw[hxd,hxd']) hx1 bxz
 have wxd:∀m,bdLB m (H xd xdc)=true:=fun m=>hs.b m xd xdc
 obtain⟨yl',hyl'⟩:=exq (lm'*xd':Fin p)
 obtain⟨yl,hyl⟩:=exq yl'.val
 obtain⟨ylc,byl,hDyl⟩:=mFM hP hs hp hpc hpb lm' xd' lm xd yl hlm hxd (by rw[hyl,hyl']) blm bxd
 have wyl:∀m,bdLB m (H yl ylc)=true:=fun m=>hs.b m yl ylc
 obtain⟨yz',hyz'⟩:=exq (yl'-Y1:Fin p)
 obtain⟨yz,hyz⟩:=exq yz'.val
 obtain⟨yzc,byz,hDyz⟩:=mFS hP hs hpc hpb yl' Y1 yl y1 yz hyl h2 (by rw[hyz,hyz']) byl hy1
 have wyz:∀m,bdLB m (H yz yzc)=true:=fun m=>hs.b m yz yzc
 obtain rfl:Lm=lm':=by rw[hLm',hlm']
 obtain rfl:x3=xz:=by rw[h5,hxz,hxz',hl1',hll']
 obtain rfl:y3=yz:=by rw[h6,hyz,hyz',hyl',hxd',hxz',hl1',hll']
 clear hLm h5 h6 hyz hyz' hxz hxz' hl1 hl1' hll hll' hyl hyl' hxd hxd' hlm' hLm'
 cbv
 refine cgn rfl hg rfl rfl hDlm (fun l=>if l=0 then 17 else if l=1 then 19 else 0) rfl (ft3 (wov 0) (wiv 0) (vP 0) rfl rfl rfl) rfl rfl rfl ?_
 rintro _ _ _ ⟨rfl,rfl,rfl⟩ _
 refine⟨rfl,?_⟩
 simp only[renB,rcl (H lm lmc) (wlm 0)]
 cbv
 refine reg_A (hP▸tblOk) hA hg (hP▸mixed) rfl rfl ?_
 cbv
 refine stepD_c3 rfl hg rfl rfl hDll wll wlm wlm vP (fun l=>if l=0 then 20 else if l=1 then 20 else 0) rfl rfl rfl rfl ?_
 cbv
 refine stepD_c3 rfl hg rfl rfl hDl1 wl1 wll v1 vP (fun l=>if l=0 then 21 else if l=1 then 6 else 0) rfl rfl rfl rfl ?_
 cbv
 refine stepD_c3 rfl hg rfl rfl hDxz wxz wl1 v3 vP (fun l=>if l=0 then 22 else if l=1 then 8 else 0) rfl rfl rfl rfl ?_
 cbv
 refine reg_A (hP▸tblOk) hA hg (hP▸mixed) rfl rfl ?_
 cbv
 refine stepD_c3 rfl hg rfl rfl hDxd wxd v1 wxz vP (fun l=>if l=0 then 6 else if l=1 then 23 else 0) rfl rfl rfl rfl ?_
 cbv
 refine stepD_c3 rfl hg rfl rfl hDyl wyl wlm wxd vP (fun l=>if l=0 then 20 else if l=1 then 24 else 0) rfl rfl rfl rfl ?_
 cbv
 refine stepD_c3 rfl hg rfl rfl hDyz wyz wyl v2 vP (fun l=>if l=0 then 25 else if l=1 then 7 else 0) rfl rfl rfl rfl ?_
 cbv
 exact hK _ _ _ ⟨xzc,yzc,bxz,byz,rfl,rfl,rfl⟩
include hp in
theorem mPlusS{a ac x1 c1 y1 e1 x2 c2 y2 e2:Nat}(k nB nN nX nY cB cN cX cY:Nat)(rB rN rX rY:List SV)(hp2:p≠2)(Av X1 Y1 X2 Y2 Lm:Fin p)(ha:a=Av.val)(h1:x1=X1.val)(h2:y1=Y1.val)(h3:x2=X2.val)(h4:y2=Y2.val)(hac:a<4294967296^ac)(hx1:x1<4294967296^c1)(hy1:y1<4294967296^e1)(hx2:x2<4294967296^c2)(hy2:y2<4294967296^e2)(b2:∀m,bdLB m rB=true)(b3:∀m,bdLB m rN=true)(b4:∀m,bdLB m rX=true)(b5:∀m,bdLB m rY=true)(hne:x1≠x2)
 (hLm:Lm=(Y2-Y1)*EC.finv (X2-X1)) (x3 y3:Nat) (h5:x3=(Lm*Lm-X1-X2).val) (h6:y3=(Lm*(X1-(Lm*Lm-X1-X2))-Y1).val):
 Con P 44 [.agg (cvS k (.slice 0 0 (S p) pc) (.slice 1 0 (S a) ac) (.slice 2 0 nB cB) (.slice 3 0 nN cN) (.slice 4 0 nX cX) (.slice 5 0 nY cY)),.agg [.slice 6 0 (S x1) c1,.slice 7 0 (S y1) e1,.bool false],.agg [.slice 8 0 (S x2) c2,.slice 9 0 (S y2) e2,.bool false]]
  [⟨0,H p pc,58⟩,⟨1,H a ac,58⟩,⟨2,rB,58⟩,⟨3,rN,58⟩,⟨4,rX,58⟩,⟨5,rY,58⟩,⟨6,H x1 c1,58⟩,⟨7,H y1 e1,58⟩,⟨8,H x2 c2,58⟩,⟨9,H y2 e2,58⟩] 10 [] (fun w L q=>∃c3 e3,x3<4294967296^c3/\y3<4294967296^e3/\w= .agg [.slice 10 0 (S x3) c3,.slice 11 0 (S y3) e3,.bool false]/\L=[⟨10,H x3 c3,58⟩,⟨11,H y3 e3,58⟩]/\q=12):=by
 have hp1:=hp.1
 have vP:∀m,bdLB m (H p pc)=true:=fun m=>hs.b m p pc
 have vA:∀m,bdLB m (H a ac)=true:=fun m=>hs.b m a ac
 have v1:∀m,bdLB m (H x1 c1)=true:=fun m=>hs.b m x1 c1
 have v2:∀m,bdLB m (H y1 e1)=true:=fun m=>hs.b m y1 e1
 have v3:∀m,bdLB m (H x2 c2)=true:=fun m=>hs.b m x2 c2
 have v4:∀m,bdLB m (H y2 e2)=true:=fun m=>hs.b m y2 e2
 have lx1:x1<p:=by rw[h1];exact X1.isLt
 have ly1:y1<p:=by rw[h2];exact Y1.isLt
 have lx2:x2<p:=by rw[h3];exact X2.isLt
 have ly2:y2<p:=by rw[h4];exact Y2.isLt
 obtain⟨ci,c11,c12,c13⟩:=cmp_ex x1 x2
 have hC:=mCmp hP hs hx1 hx2 (Nat.lt_trans lx1 (pow40 hP hs hpb)) ci c11 c12 c13
 obtain⟨ov',hov'⟩:=exq (Y2-Y1:Fin p)
 obtain⟨ov,hov⟩:=exq ov'.val
 obtain⟨ovc,bov,hDov⟩:=mFS hP hs hpc hpb Y2 Y1 y2 y1 ov h4 h2 (by rw[hov,hov']) hy2 hy1
 have wov:∀m,bdLB m (H ov ovc)=true:=fun m=>hs.b m ov ovc
 obtain⟨un',hun'⟩:=exq (X2-X1:Fin p)
 obtain⟨un,hun⟩:=exq un'.val
 obtain⟨unc,bun,hDun⟩:=mFS hP hs hpc hpb X2 X1 x2 x1 un h3 h1 (by rw[hun,hun']) hx2 hx1
 have wun:∀m,bdLB m (H un unc)=true:=fun m=>hs.b m un unc
 have hun0:un'≠0:=fun h=>by
  rw[hun']at h
  have h8:X1=X2:=by grobner
  exact hne (by rw[h1,h3,h8])
 have hun1:0<un:=by
  rcases Nat.eq_zero_or_pos un with h|h
  ·exact absurd (EC.eq_zero_of_dvd (by rw[<-hun,h];exact Nat.dvd_zero p)) hun0
  ·exact h
 have hunp:un<p:=by rw[hun];exact un'.isLt
 obtain⟨iv',hiv'⟩:=exq (EC.finv (EC.nf un):Fin p)
 have hivf:iv'=EC.finv un':=by rw[hiv',hun,EC.nf_val]
 obtain⟨iv,hiv⟩:=exq iv'.val
 have hI:=mInverse hP hs hp hp2 bun hpc hpb hun1 hunp iv (by rw[hiv,hiv'])
 have hLm':Lm=ov'*iv':=by rw[hLm,hivf,hov',hun']
 suffices raw:Con P 44 [.agg (cvS k (.slice 0 0 (S p) pc) (.slice 1 0 (S a) ac) (.slice 2 0 nB cB) (.slice 3 0 nN cN) (.slice 4 0 nX cX) (.slice 5 0 nY cY)),.agg [.slice 6 0 (S x1) c1,.slice 7 0 (S y1) e1,.bool false],.agg [.slice 8 0 (S x2) c2,.slice 9 0 (S y2) e2,.bool false]]
  [⟨0,H p pc,58⟩,⟨1,H a ac,58⟩,⟨2,rB,58⟩,⟨3,rN,58⟩,⟨4,rX,58⟩,⟨5,rY,58⟩,⟨6,H x1 c1,58⟩,⟨7,H y1 e1,58⟩,⟨8,H x2 c2,58⟩,⟨9,H y2 e2,58⟩] 10 [] (fun w L q=>∃c3 e3,x3<4294967296^c3/\y3<4294967296^e3/\w= .agg [.slice 20 0 (S x3) c3,.slice 23 0 (S y3) e3,.bool false]/\find L 20=some ⟨20,H x3 c3,58⟩/\find L 23=some ⟨23,H y3 e3,58⟩)from
  raw.weak fun v L q ⟨c3,e3,g1,g2,g3,g4,g5⟩=>⟨fun l=>if l=10 then 20 else if l=11 then 23 else l,.agg [.slice 10 0 (S x3) c3,.slice 11 0 (S y3) e3,.bool false],[⟨10,H x3 c3,58⟩,⟨11,H y3 e3,58⟩],12,by subst g3;exact wkr ⟨rfl,rfl,trivial⟩ ⟨by rw[rcl (H x3 c3) (hs.b 0 x3 c3)];exact g4,rfl,rfl,hs.b 12 x3 c3,by rw[rcl (H y3 e3) (hs.b 0 y3 e3)];exact g5,rfl,rfl,hs.b 12 y3 e3,trivial⟩ rfl rfl rfl,c3,e3,g1,g2,rfl,rfl,rfl⟩
 refine cof hP Tryz.func44 ⟨⟨trivial,blq rfl,blq rfl,blq rfl,blq rfl,blq rfl,blq rfl,trivial⟩,⟨blq rfl,blq rfl,trivial,trivial⟩,⟨blq rfl,blq rfl,trivial,trivial⟩,trivial⟩ (by simpa [bdL,bd]using⟨bdb _ (vP 10),bdb _ (vA 10),bdb _ (b2 10),bdb _ (b3 10),bdb _ (b4 10),bdb _ (b5 10),bdb _ (v1 10),bdb _ (v2 10),bdb _ (v3 10),bdb _ (v4 10)⟩) ?_
 intro A g K hA hg hK
 obtain⟨_,_,cmp⟩:=A
 have q1:cmp .eql ci 0=false:=cmp_eql_f hA c11 c12 c13 hne
 cbv
 refine cro rfl hg rfl rfl hC (fun l=>if l=0 then 6 else 8) rfl (ft2 (v1 0) (v3 0) rfl rfl) ?_
 rintro _ _ _ rfl
 refine⟨trivial,trivial,?_⟩
 cbv
 rw[q1]
 cbv
 refine cgn rfl hg rfl rfl hDov (fun l=>if l=0 then 9 else if l=1 then 7 else 0) rfl (ft3 (v4 0) (v2 0) (vP 0) rfl rfl rfl) rfl rfl rfl ?_
 rintro _ _ _ ⟨rfl,rfl,rfl⟩ _
 refine⟨rfl,?_⟩
 simp only[renB,rcl (H ov ovc) (wov 0)]
 cbv
 refine cgn rfl hg rfl rfl hDun (fun l=>if l=0 then 8 else if l=1 then 6 else 0) rfl (ft3 (v3 0) (v1 0) (vP 0) rfl rfl rfl) rfl rfl rfl ?_
 rintro _ _ _ ⟨rfl,rfl,rfl⟩ _
 refine⟨rfl,?_⟩
 simp only[renB,rcl (H un unc) (wun 0)]
 cbv
 refine cgn rfl hg rfl rfl hI (fun l=>if l=0 then 15 else 0) rfl (ft2 (wun 0) (vP 0) rfl rfl) rfl rfl rfl ?_
 rintro _ _ _ ⟨ivc,biv,rfl,rfl,rfl⟩ _
 refine⟨rfl,?_⟩
 have wiv:∀m,bdLB m (H iv ivc)=true:=fun m=>hs.b m iv ivc
 simp only[renB,rcl (H iv ivc) (wiv 0)]
 obtain⟨lm',hlm'⟩:=exq (ov'*iv':Fin p)
 obtain⟨lm,hlm⟩:=exq lm'.val
 obtain⟨lmc,blm,hDlm⟩:=mFM hP hs hp hpc hpb ov' iv' ov iv lm hov hiv (by rw[hlm,hlm']) bov biv
 have wlm:∀m,bdLB m (H lm lmc)=true:=fun m=>hs.b m lm lmc
 obtain⟨ll',hll'⟩:=exq (lm'*lm':Fin p)
 obtain⟨ll,hll⟩:=exq ll'.val
 obtain⟨llc,bll,hDll⟩:=mFM hP hs hp hpc hpb lm' lm' lm lm ll hlm hlm (by rw[hll,hll']) blm blm
 have wll:∀m,bdLB m (H ll llc)=true:=fun m=>hs.b m ll llc
 obtain⟨l1',hl1'⟩:=exq (ll'-X1:Fin p)
 obtain⟨l1,hl1⟩:=exq l1'.val
 obtain⟨l1c,bl1,hDl1⟩:=mFS hP hs hpc hpb ll' X1 ll x1 l1 hll h1 (by rw[hl1,hl1']) bll hx1
 have wl1:∀m,bdLB m (H l1 l1c)=true:=fun m=>hs.b m l1 l1c
 obtain⟨xz',hxz'⟩:=exq (l1'-X2:Fin p)
 obtain⟨xz,hxz⟩:=exq xz'.val
 obtain⟨xzc,bxz,hDxz⟩:=mFS hP hs hpc hpb l1' X2 l1 x2 xz hl1 h3 (by rw[hxz,hxz']) bl1 hx2
 have wxz:∀m,bdLB m (H xz xzc)=true:=fun m=>hs.b m xz xzc
 obtain⟨xd',hxd'⟩:=exq (X1-xz':Fin p)
 obtain⟨xd,hxd⟩:=exq xd'.val
 obtain⟨xdc,bxd,hDxd⟩:=mFS hP hs hpc hpb X1 xz' x1 xz xd h1 hxz (by rw[hxd,hxd']) hx1 bxz
 have wxd:∀m,bdLB m (H xd xdc)=true:=fun m=>hs.b m xd xdc
 obtain⟨yl',hyl'⟩:=exq (lm'*xd':Fin p)
 obtain⟨yl,hyl⟩:=exq yl'.val
 obtain⟨ylc,byl,hDyl⟩:=mFM hP hs hp hpc hpb lm' xd' lm xd yl hlm hxd (by rw[hyl,hyl']) blm bxd
 have wyl:∀m,bdLB m (H yl ylc)=true:=fun m=>hs.b m yl ylc
 obtain⟨yz',hyz'⟩:=exq (yl'-Y1:Fin p)
 obtain⟨yz,hyz⟩:=exq yz'.val
 obtain⟨yzc,byz,hDyz⟩:=mFS hP hs hpc hpb yl' Y1 yl y1 yz hyl h2 (by rw[hyz,hyz']) byl hy1
 have wyz:∀m,bdLB m (H yz yzc)=true:=fun m=>hs.b m yz yzc
 obtain rfl:Lm=lm':=by rw[hLm',hlm']
 obtain rfl:x3=xz:=by rw[h5,hxz,hxz',hl1',hll']
 obtain rfl:y3=yz:=by rw[h6,hyz,hyz',hyl',hxd',hxz',hl1',hll']
 clear hLm h5 h6 hyz hyz' hxz hxz' hl1 hl1' hll hll' hyl hyl' hxd hxd' hlm' hLm'
 cbv
 refine cgn rfl hg rfl rfl hDlm (fun l=>if l=0 then 14 else if l=1 then 16 else 0) rfl (ft3 (wov 0) (wiv 0) (vP 0) rfl rfl rfl) rfl rfl rfl ?_
 rintro _ _ _ ⟨rfl,rfl,rfl⟩ _
 refine⟨rfl,?_⟩
 simp only[renB,rcl (H lm lmc) (wlm 0)]
 cbv
 refine reg_A (hP▸tblOk) hA hg (hP▸mixed) rfl rfl ?_
 cbv
 refine stepD_c3 rfl hg rfl rfl hDll wll wlm wlm vP (fun l=>if l=0 then 17 else if l=1 then 17 else 0) rfl rfl rfl rfl ?_
 cbv
 refine stepD_c3 rfl hg rfl rfl hDl1 wl1 wll v1 vP (fun l=>if l=0 then 18 else if l=1 then 6 else 0) rfl rfl rfl rfl ?_
 cbv
 refine stepD_c3 rfl hg rfl rfl hDxz wxz wl1 v3 vP (fun l=>if l=0 then 19 else if l=1 then 8 else 0) rfl rfl rfl rfl ?_
 cbv
 refine reg_A (hP▸tblOk) hA hg (hP▸mixed) rfl rfl ?_
 cbv
 refine stepD_c3 rfl hg rfl rfl hDxd wxd v1 wxz vP (fun l=>if l=0 then 6 else if l=1 then 20 else 0) rfl rfl rfl rfl ?_
 cbv
 refine stepD_c3 rfl hg rfl rfl hDyl wyl wlm wxd vP (fun l=>if l=0 then 17 else if l=1 then 21 else 0) rfl rfl rfl rfl ?_
 cbv
 refine stepD_c3 rfl hg rfl rfl hDyz wyz wyl v2 vP (fun l=>if l=0 then 22 else if l=1 then 7 else 0) rfl rfl rfl rfl ?_
 cbv
 exact hK _ _ _ ⟨xzc,yzc,bxz,byz,rfl,rfl,rfl⟩
end
section
variable {P:Program}(hP:P=Tryz.prog){H:Nat->Nat->List SV}{S:Nat->Nat}(hs:HS H S){p pc:Nat}[NeZero p](hp:Pr.Prime p)(hpc:p<4294967296^pc)(hpb:p<4294967296^18)
include hP hs hpc hpb
omit [NeZero p] hpc in
theorem mPlusI{a ac x1 c1 y1 e1 x2 c2 y2 e2:Nat}(k nB nN nX nY cB cN cX cY:Nat)(rB rN rX rY:List SV)(b2:∀m,bdLB m rB=true)(b3:∀m,bdLB m rN=true)(b4:∀m,bdLB m rX=true)(b5:∀m,bdLB m rY=true)(lx1:x1<p)(ly1:y1<p)(hx1:x1<4294967296^c1)(hy1:y1<4294967296^e1)(hx2:x2<4294967296^c2)(hy2:y2<4294967296^e2)(hxx:x1=x2)(hyy:y1≠y2):
 Con P 44 [.agg (cvS k (.slice 0 0 (S p) pc) (.slice 1 0 (S a) ac) (.slice 2 0 nB cB) (.slice 3 0 nN cN) (.slice 4 0 nX cX) (.slice 5 0 nY cY)),.agg [.slice 6 0 (S x1) c1,.slice 7 0 (S y1) e1,.bool false],.agg [.slice 8 0 (S x2) c2,.slice 9 0 (S y2) e2,.bool false]]
  [⟨0,H p pc,58⟩,⟨1,H a ac,58⟩,⟨2,rB,58⟩,⟨3,rN,58⟩,⟨4,rX,58⟩,⟨5,rY,58⟩,⟨6,H x1 c1,58⟩,⟨7,H y1 e1,58⟩,⟨8,H x2 c2,58⟩,⟨9,H y2 e2,58⟩] 10 [] (fun w L q=>w= .agg [.nils,.nils,.bool true]/\L=[]/\q=10):=by
 have vP:∀m,bdLB m (H p pc)=true:=fun m=>hs.b m p pc
 have vA:∀m,bdLB m (H a ac)=true:=fun m=>hs.b m a ac
 have v1:∀m,bdLB m (H x1 c1)=true:=fun m=>hs.b m x1 c1
 have v2:∀m,bdLB m (H y1 e1)=true:=fun m=>hs.b m y1 e1
 have v3:∀m,bdLB m (H x2 c2)=true:=fun m=>hs.b m x2 c2
 have v4:∀m,bdLB m (H y2 e2)=true:=fun m=>hs.b m y2 e2
 obtain⟨ci,c11,c12,c13⟩:=cmp_ex x1 x2
 have hC:=mCmp hP hs hx1 hx2 (Nat.lt_trans lx1 (pow40 hP hs hpb)) ci c11 c12 c13
 obtain⟨di,d11,d12,d13⟩:=cmp_ex y1 y2
 have hC2:=mCmp hP hs hy1 hy2 (Nat.lt_trans ly1 (pow40 hP hs hpb)) di d11 d12 d13
 suffices raw:Con P 44 [.agg (cvS k (.slice 0 0 (S p) pc) (.slice 1 0 (S a) ac) (.slice 2 0 nB cB) (.slice 3 0 nN cN) (.slice 4 0 nX cX) (.slice 5 0 nY cY)),.agg [.slice 6 0 (S x1) c1,.slice 7 0 (S y1) e1,.bool false],.agg [.slice 8 0 (S x2) c2,.slice 9 0 (S y2) e2,.bool false]]
  [⟨0,H p pc,58⟩,⟨1,H a ac,58⟩,⟨2,rB,58⟩,⟨3,rN,58⟩,⟨4,rX,58⟩,⟨5,rY,58⟩,⟨6,H x1 c1,58⟩,⟨7,H y1 e1,58⟩,⟨8,H x2 c2,58⟩,⟨9,H y2 e2,58⟩] 10 [] (fun w L q=>w= .agg [.nils,.nils,.bool true])from
  raw.weak fun v L q h1=>⟨_root_.id,.agg [.nils,.nils,.bool true],[],10,by subst h1;exact weak_id ⟨rfl,rfl,trivial⟩ trivial rfl rfl,rfl,rfl,rfl⟩
 refine cof hP Tryz.func44 ⟨⟨trivial,blq rfl,blq rfl,blq rfl,blq rfl,blq rfl,blq rfl,trivial⟩,⟨blq rfl,blq rfl,trivial,trivial⟩,⟨blq rfl,blq rfl,trivial,trivial⟩,trivial⟩ (by simpa [bdL,bd]using⟨bdb _ (vP 10),bdb _ (vA 10),bdb _ (b2 10),bdb _ (b3 10),bdb _ (b4 10),bdb _ (b5 10),bdb _ (v1 10),bdb _ (v2 10),bdb _ (v3 10),bdb _ (v4 10)⟩) ?_
 intro A g K hA hg hK
 obtain⟨_,_,cmp⟩:=A
 have q1:cmp .eql ci 0=true:=cmp_eql_t hA c11 c12 c13 hxx
 have q2:cmp .neq di 0=true:=cmp_neq_t hA d11 d12 d13 hyy
 cbv
 refine cro rfl hg rfl rfl hC (fun l=>if l=0 then 6 else 8) rfl (ft2 (v1 0) (v3 0) rfl rfl) ?_
 rintro _ _ _ rfl
 refine⟨trivial,trivial,?_⟩
 cbv
 rw[q1]
 cbv
 refine cro rfl hg rfl rfl hC2 (fun l=>if l=0 then 7 else 9) rfl (ft2 (v2 0) (v4 0) rfl rfl) ?_
 rintro _ _ _ rfl
 refine⟨trivial,trivial,?_⟩
 cbv
 rw[q2]
 cbv
 exact hK _ _ _ rfl
include hp in
/-- the sum of two points that are not at infinity-/
theorem mPlusF{a ac x1 c1 y1 e1 x2 c2 y2 e2:Nat}(k nB nN nX nY cB cN cX cY:Nat)(rB rN rX rY:List SV)(b2:∀m,bdLB m rB=true)(b3:∀m,bdLB m rN=true)(b4:∀m,bdLB m rX=true)(b5:∀m,bdLB m rY=true)(hp2:p≠2)(Av Bv X1 Y1 X2 Y2:Fin p)(Kk:EC.Ok EC.finv Av Bv)(o1:EC.On Av Bv X1 Y1)(ha:a=Av.val)(h1:x1=X1.val)(h2:y1=Y1.val)(h3:x2=X2.val)(h4:y2=Y2.val)(hac:a<4294967296^ac)(hx1:x1<4294967296^c1)(hy1:y1<4294967296^e1)(hx2:x2<4294967296^c2)(hy2:y2<4294967296^e2):
 Con P 44 [.agg (cvS k (.slice 0 0 (S p) pc) (.slice 1 0 (S a) ac) (.slice 2 0 nB cB) (.slice 3 0 nN cN) (.slice 4 0 nX cX) (.slice 5 0 nY cY)),.agg [.slice 6 0 (S x1) c1,.slice 7 0 (S y1) e1,.bool false],.agg [.slice 8 0 (S x2) c2,.slice 9 0 (S y2) e2,.bool false]]
  [⟨0,H p pc,58⟩,⟨1,H a ac,58⟩,⟨2,rB,58⟩,⟨3,rN,58⟩,⟨4,rX,58⟩,⟨5,rY,58⟩,⟨6,H x1 c1,58⟩,⟨7,H y1 e1,58⟩,⟨8,H x2 c2,58⟩,⟨9,H y2 e2,58⟩] 10 [] (fun w L q=>(EC.add EC.finv Av (.A X1 Y1) (.A X2 Y2)= .O/\w= .agg [.nils,.nils,.bool true]/\L=[]/\q=10)\/ ∃X3 Y3:Fin p,∃x3 y3 c3 e3,EC.add EC.finv Av (.A X1 Y1) (.A X2 Y2)= .A X3 Y3/\x3=X3.val/\y3=Y3.val/\x3<4294967296^c3/\y3<4294967296^e3/\w= .agg [.slice 10 0 (S x3) c3,.slice 11 0 (S y3) e3,.bool false]/\L=[⟨10,H x3 c3,58⟩,⟨11,H y3 e3,58⟩]/\q=12):=by
 by_cases hx:X1=X2
 ·by_cases hy:Y1=Y2
  ·have hY:Y1≠0:=Kk.y0 o1
   have hy0:y1≠0:=fun h=>hY (EC.eq_zero_of_dvd (by rw[<-h2,h];exact Nat.dvd_zero p))
   refine(mPlusD hP hs hp hpc hpb k nB nN nX nY cB cN cX cY rB rN rX rY hp2 Av X1 Y1 X2 Y2 _ ha h1 h2 h3 h4 hac hx1 hy1 hx2 hy2 b2 b3 b4 b5 hx.symm hy.symm hy0 rfl _ _ rfl rfl).mono fun w L q ⟨c3,e3,g1,g2,g3⟩=>Or.inr ⟨_,_,_,_,c3,e3,?_,rfl,rfl,g1,g2,g3⟩
   simp only[EC.add]
   rw[if_pos hx,if_pos ⟨hy,hY⟩]
   have e:X1*X1+X1*X1+X1*X1+Av=X1*X1+(X1*X1+X1*X1)+Av:=by grobner
   rw[e]
  ·refine(mPlusI hP hs hpb k nB nN nX nY cB cN cX cY rB rN rX rY b2 b3 b4 b5 (by rw[h1];exact X1.isLt) (by rw[h2];exact Y1.isLt) hx1 hy1 hx2 hy2 (by rw[h1,h3,hx]) (fun h=>hy (Fin.ext (by rw[<-h2,<-h4,h])))).mono fun w L q g=>Or.inl ⟨?_,g⟩
   simp only[EC.add]
   rw[if_pos hx,if_neg (fun h=>hy h.1)]
 ·refine(mPlusS hP hs hp hpc hpb k nB nN nX nY cB cN cX cY rB rN rX rY hp2 Av X1 Y1 X2 Y2 _ ha h1 h2 h3 h4 hac hx1 hy1 hx2 hy2 b2 b3 b4 b5 (fun h=>hx (Fin.ext (by rw[<-h1,<-h3,h]))) rfl _ _ rfl rfl).mono fun w L q ⟨c3,e3,g1,g2,g3⟩=>Or.inr ⟨_,_,_,_,c3,e3,?_,rfl,rfl,g1,g2,g3⟩
  simp only[EC.add]
  rw[if_neg hx]
end
end Go.Proofs.YtdhmihfefgcbeaaGreat
