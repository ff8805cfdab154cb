/-
  This text proves what these texts prove: Pl, Pm, Pn, Po, Pp. Conditions: those of each theorem.
-/
import Derived.Test.YtdhmihfefgcbeaaGreatX24
set_option maxHeartbeats 8000000
set_option linter.all false
namespace Go.Vg
structure HS(H:Nat->Nat->List SV)(S:Nat->Nat):Prop where
 h:H=fun x c=>hs (dg x) c
 s:S=Vg.sz
section
variable {H:Nat->Nat->List SV}{S:Nat->Nat}(hs:HS H S)
include hs
theorem HS.b(m x c:Nat):bdLB m (H x c)=true:=by rw[hs.h];exact hs_bd _ _ m
theorem HS.nm{x c:Nat}(h:x<4294967296^c):Nm (S x) c (dg x) x:=by rw[hs.s];exact nm_dg h
theorem HS.le{x k:Nat}(h:x<4294967296^k):S x<=k:=(hs.nm h).n_le h
theorem HS.one{y:Nat}(h:y<4294967296)(h0:0<y):S y=1:=by
 have h1:=hs.le (x:=y) (k:=1) (by rw[Nat.pow_one];exact h)
 have h2:=(hs.nm (x:=y) (c:=1) (by rw[Nat.pow_one];exact h)).zero
 omega
theorem HS.two{y:Nat}(h:4294967296<=y):2<=S y:=by
 have h1:=(hs.nm (x:=y) (c:=y) (Nat.lt_of_lt_of_le Nat.lt_two_pow_self (Nat.pow_le_pow_left (by decide) y))).lt
 rcases Nat.lt_or_ge (S y) 2 with h2|h2
 ·have h3:4294967296^S y<=4294967296^1:=Nat.pow_le_pow_right (by decide) (by omega)
  rw[Nat.pow_one]at h3
  omega
 ·exact h2
end
end Go.Vg
namespace Go.Proofs.YtdhmihfefgcbeaaGreat
open Go.Vg Go.RowKit
set_option maxRecDepth 200000
set_option cbv.maxSteps 100000000
section
variable {P:Program}(hP:P=Tryz.prog){H:Nat->Nat->List SV}{S:Nat->Nat}(hs:HS H S)
include hP hs
theorem mModL{x c y e:Nat}(hx:x<4294967296^c)(hy:y<4294967296^e)(hb:x<4294967296^40)(hlt:x<y):Con P 25 [.slice 0 0 (S x) c,.slice 1 0 (S y) e] [⟨0,H x c,58⟩,⟨1,H y e,58⟩] 2 [] (fun w _ _=>w= .slice 0 0 (S x) c):=by
 have hD:=cRDivL hP (hs.nm hx) (hs.nm hy) (by have:=hs.le hb;omega) hlt
 rw[show Vg.hs (dg x) c=H x c from by rw[hs.h],show Vg.hs (dg y) e=H y e from by rw[hs.h]]at hD
 have bC:∀m,bdLB m (H x c)=true:=fun m=>hs.b m x c
 have bE:∀m,bdLB m (H y e)=true:=fun m=>hs.b m y e
 refine cof hP Tryz.func25 ⟨blq rfl,⟨blq rfl,trivial⟩⟩ (by simpa [bdL,bd]using⟨bdb _ (bC 2),bdb _ (bE 2)⟩) ?_
 intro A g K hA hg hK
 cases A
 cbv
 refine cro rfl hg rfl rfl hD _root_.id rfl (ft2 (bC 0) (bE 0) rfl rfl) ?_
 rintro _ _ _ rfl
 refine⟨by simp[bd,bdL],by simp[bd,bdL,ren,renL],?_⟩
 cbv
 exact hK _ _ _ rfl
theorem mModS{x c y e:Nat}(hx:x<4294967296^c)(hy:y<4294967296^e)(hb:x<4294967296^40)(hle:y<=x)(hy0:0<y)(hyB:y<4294967296)(r:Nat)(hr:r=x%y):Con P 25 [.slice 0 0 (S x) c,.slice 1 0 (S y) e] [⟨0,H x c,58⟩,⟨1,H y e,58⟩] 2 [] (fun w L q=>w= .slice 2 0 (S r) 1/\L=[⟨2,H r 1,58⟩]/\q=3):=by
 obtain⟨d,hd⟩:=exq (x/y)
 have hNy:=hs.nm hy
 rw[hs.one hyB hy0]at hNy
 have hD:=cRDivS hP (hs.nm hx) hNy (by have:=hs.le hb;omega) hle hy0
 rw[hs.one hyB hy0]
 rw[show Vg.hs (dg x) c=H x c from by rw[hs.h],show Vg.hs (dg y) e=H y e from by rw[hs.h],<-hr,<-hd,show Vg.hs (dg r) 1=H r 1 from by rw[hs.h],show Vg.sz r=S r from by rw[hs.s],show Vg.sz d=S d from by rw[hs.s]]at hD
 obtain⟨QD,hQD⟩:=exq (Vg.hs (dg d) (S x))
 have bQ:∀m,bdLB m QD=true:=fun m=>by rw[hQD];exact hs_bd _ _ m
 rw[<-hQD]at hD
 have bC:∀m,bdLB m (H x c)=true:=fun m=>hs.b m x c
 have bE:∀m,bdLB m (H y e)=true:=fun m=>hs.b m y e
 have bR:∀m,bdLB m (H r 1)=true:=fun m=>hs.b m r 1
 suffices raw:Con P 25 [.slice 0 0 (S x) c,.slice 1 0 1 e] [⟨0,H x c,58⟩,⟨1,H y e,58⟩] 2 [] (fun w L q=>w= .slice 3 0 (S r) 1/\find L 3=some ⟨3,H r 1,58⟩)from
  raw.weak fun v L q ⟨h1,h2⟩=>⟨fun l=>if l=2 then 3 else l,.slice 2 0 (S r) 1,[⟨2,H r 1,58⟩],3,by subst h1;exact wkr ⟨rfl,rfl,trivial⟩ ⟨by rw[rcl (H r 1) (bR 0)];exact h2,rfl,rfl,bR 3,trivial⟩ rfl rfl rfl,rfl,rfl,rfl⟩
 refine cof hP Tryz.func25 ⟨blq rfl,⟨blq rfl,trivial⟩⟩ (by simpa [bdL,bd]using⟨bdb _ (bC 2),bdb _ (bE 2)⟩) ?_
 intro A g K hA hg hK
 cases A
 clear hQD
 cbv
 refine cgn rfl hg rfl rfl hD _root_.id rfl (ft2 (bC 0) (bE 0) rfl rfl) rfl rfl rfl ?_
 rintro _ _ _ ⟨rfl,rfl,rfl⟩ _
 refine⟨rfl,?_⟩
 simp only[renB,rcl QD (bQ 0),rcl (H r 1) (bR 0)]
 cbv
 exact hK _ _ _ ⟨rfl,rfl⟩
theorem mModK{x c y e:Nat}(hx:x<4294967296^c)(hy:y<4294967296^e)(hb:x<4294967296^40)(hle:y<=x)(hyB:4294967296<=y)(r:Nat)(hr:r=x%y)(hr0:r≠0):∃rc,r<4294967296^rc/\Con P 25 [.slice 0 0 (S x) c,.slice 1 0 (S y) e] [⟨0,H x c,58⟩,⟨1,H y e,58⟩] 2 [] (fun w L q=>w= .slice 2 0 (S r) rc/\L=[⟨2,H r rc,58⟩]/\q=3):=by
 obtain⟨d,hd⟩:=exq (x/y)
 obtain⟨b,hbl⟩:=bl_ex y
 obtain⟨rc,hrc⟩:=exq (Vg.sz (r*2^(32*S y-b)))
 have hm2:=hs.two hyB
 have hxy:S y<=S x:=by
  rcases(hs.nm hy).sz.2 with h|h
  ·omega
  ·rcases Nat.lt_or_ge (S x) (S y)with h2|h2
   ·exact absurd (Nat.lt_of_lt_of_le (hs.nm hx).lt (Nat.pow_le_pow_right (by decide) (show S x<=S y-1 by omega))) (Nat.not_lt.2 (Nat.le_trans h hle))
   ·exact h2
 obtain⟨J,hJ⟩:=exq (S x+1-S y)
 have hrl:r<4294967296^rc:=by
  have h1:r<=r*2^(32*S y-b):=Nat.le_mul_of_pos_right _ (Nat.two_pow_pos _)
  have h2:=(nm_dg (x:=r*2^(32*S y-b)) (k:=r*2^(32*S y-b)) (Nat.lt_of_lt_of_le Nat.lt_two_pow_self (Nat.pow_le_pow_left (by decide) _))).lt
  rw[<-hrc]at h2
  exact Nat.lt_of_le_of_lt h1 h2
 refine⟨rc,hrl,?_⟩
 have hD:=cRDivK hP (hs.nm hx) (hs.nm hy) (by have:=hs.le hb;omega) hm2 hle d r J rc 4 (.slice 3 0 (Vg.sz r) rc) [⟨3,Vg.hs (dg r) rc,58⟩] hd hr (by omega) (Or.inr ⟨hr0,rfl,rfl,rfl⟩) ⟨b,hbl,hrc⟩
 rw[show Vg.hs (dg x) c=H x c from by rw[hs.h],show Vg.hs (dg y) e=H y e from by rw[hs.h],show Vg.hs (dg r) rc=H r rc from by rw[hs.h],show Vg.hs (dg d) J=H d J from by rw[hs.h],show Vg.sz r=S r from by rw[hs.s],show Vg.sz d=S d from by rw[hs.s]]at hD
 have bC:∀m,bdLB m (H x c)=true:=fun m=>hs.b m x c
 have bE:∀m,bdLB m (H y e)=true:=fun m=>hs.b m y e
 have bR:∀m,bdLB m (H r rc)=true:=fun m=>hs.b m r rc
 have bQ:∀m,bdLB m (H d J)=true:=fun m=>hs.b m d J
 suffices raw:Con P 25 [.slice 0 0 (S x) c,.slice 1 0 (S y) e] [⟨0,H x c,58⟩,⟨1,H y e,58⟩] 2 [] (fun w L q=>w= .slice 3 0 (S r) rc/\find L 3=some ⟨3,H r rc,58⟩)from
  raw.weak fun v L q ⟨h1,h2⟩=>⟨fun l=>if l=2 then 3 else l,.slice 2 0 (S r) rc,[⟨2,H r rc,58⟩],3,by subst h1;exact wkr ⟨rfl,rfl,trivial⟩ ⟨by rw[rcl (H r rc) (bR 0)];exact h2,rfl,rfl,bR 3,trivial⟩ rfl rfl rfl,rfl,rfl,rfl⟩
 clear hJ hrc
 refine cof hP Tryz.func25 ⟨blq rfl,⟨blq rfl,trivial⟩⟩ (by simpa [bdL,bd]using⟨bdb _ (bC 2),bdb _ (bE 2)⟩) ?_
 intro A g K hA hg hK
 cases A
 cbv
 refine cgn rfl hg rfl rfl hD _root_.id rfl (ft2 (bC 0) (bE 0) rfl rfl) rfl rfl rfl ?_
 rintro _ _ _ ⟨rfl,rfl,rfl⟩ _
 refine⟨rfl,?_⟩
 simp only[renB,rcl (H d J) (bQ 0),rcl (H r rc) (bR 0)]
 cbv
 exact hK _ _ _ ⟨rfl,rfl⟩
theorem mModZ{x c y e:Nat}(hx:x<4294967296^c)(hy:y<4294967296^e)(hb:x<4294967296^40)(hle:y<=x)(hyB:4294967296<=y)(hr:x%y=0):Con P 25 [.slice 0 0 (S x) c,.slice 1 0 (S y) e] [⟨0,H x c,58⟩,⟨1,H y e,58⟩] 2 [] (fun w _ _=>w= .nils):=by
 obtain⟨d,hd⟩:=exq (x/y)
 obtain⟨b,hbl⟩:=bl_ex y
 have hm2:=hs.two hyB
 have hxy:S y<=S x:=by
  rcases(hs.nm hy).sz.2 with h|h
  ·omega
  ·rcases Nat.lt_or_ge (S x) (S y)with h2|h2
   ·exact absurd (Nat.lt_of_lt_of_le (hs.nm hx).lt (Nat.pow_le_pow_right (by decide) (show S x<=S y-1 by omega))) (Nat.not_lt.2 (Nat.le_trans h hle))
   ·exact h2
 obtain⟨J,hJ⟩:=exq (S x+1-S y)
 have hD:=cRDivK hP (hs.nm hx) (hs.nm hy) (by have:=hs.le hb;omega) hm2 hle d 0 J _ 3 .nils [] hd hr.symm (by omega) (Or.inl ⟨rfl,rfl,rfl,rfl⟩) ⟨b,hbl,rfl⟩
 rw[show Vg.hs (dg x) c=H x c from by rw[hs.h],show Vg.hs (dg y) e=H y e from by rw[hs.h],show Vg.hs (dg d) J=H d J from by rw[hs.h],show Vg.sz d=S d from by rw[hs.s]]at hD
 have bC:∀m,bdLB m (H x c)=true:=fun m=>hs.b m x c
 have bE:∀m,bdLB m (H y e)=true:=fun m=>hs.b m y e
 have bQ:∀m,bdLB m (H d J)=true:=fun m=>hs.b m d J
 clear hJ
 refine cof hP Tryz.func25 ⟨blq rfl,⟨blq rfl,trivial⟩⟩ (by simpa [bdL,bd]using⟨bdb _ (bC 2),bdb _ (bE 2)⟩) ?_
 intro A g K hA hg hK
 cases A
 cbv
 refine cgn rfl hg rfl rfl hD _root_.id rfl (ft2 (bC 0) (bE 0) rfl rfl) rfl rfl rfl ?_
 rintro _ _ _ ⟨rfl,rfl,rfl⟩ _
 refine⟨rfl,?_⟩
 simp only[renB,rcl (H d J) (bQ 0)]
 cbv
 exact hK _ _ _ rfl
end
end Go.Proofs.YtdhmihfefgcbeaaGreat
namespace Go.Vg
open Go.RowKit Go.Lib
theorem ft3{ρ:Nat->Nat}{M:Nat->Option Blk}{l l' k:Nat}{C C' D:List SV}{t t' u:TypeId}(bC:bdLB 0 C=true)(bC':bdLB 0 C'=true)(bD:bdLB 0 D=true)(h:M (ρ l)=some ⟨ρ l,C,t⟩)(h':M (ρ l')=some ⟨ρ l',C',t'⟩)(h2:M (ρ k)=some ⟨ρ k,D,u⟩):foot ρ M [⟨l,C,t⟩,⟨l',C',t'⟩,⟨k,D,u⟩]:=
 ⟨by show M (ρ l)=some ⟨ρ l,renL ρ C,t⟩;rw[rcl C bC];exact h,by show M (ρ l')=some ⟨ρ l',renL ρ C',t'⟩;rw[rcl C' bC'];exact h',by show M (ρ k)=some ⟨ρ k,renL ρ D,u⟩;rw[rcl D bD];exact h2,trivial⟩
theorem cmp_ex(x y:Nat):∃r:Int,(x<y->r= -1)/\(x=y->r=0)/\(y<x->r=1):=⟨if x<y then -1 else if x=y then 0 else 1,fun h=>if_pos h,fun h=>by rw[if_neg (by omega),if_pos h],fun h=>by rw[if_neg (by omega),if_neg (by omega)]⟩
section
variable {A:Ar}(hA:A=Ar.real){x y:Nat}{r:Int}(h1:x<y->r= -1)(h2:x=y->r=0)(h3:y<x->r=1)
include hA h1 h2 h3
theorem cmp_geq_t(h:y<=x):A.cmp .geq r 0=true:=by
 rcases Nat.lt_or_ge y x with k|k
 ·rw[h3 k];exact geq_t hA (a:=1) (b:=0) (by decide)
 ·rw[h2 (by omega)];exact geq_t hA (a:=0) (b:=0) (by decide)
theorem cmp_geq_f(h:x<y):A.cmp .geq r 0=false:=by
 rw[h1 h];exact(congrFun (congrFun (congrFun (cmp_of hA) .geq) (-1)) 0).trans rfl
theorem cmp_lss_t(h:x<y):A.cmp .lss r 0=true:=by
 rw[h1 h];exact(congrFun (congrFun (congrFun (cmp_of hA) .lss) (-1)) 0).trans rfl
theorem cmp_lss_f(h:y<=x):A.cmp .lss r 0=false:=by
 rcases Nat.lt_or_ge y x with k|k
 ·rw[h3 k];exact lss_f hA (a:=1) (b:=0) (by decide)
 ·rw[h2 (by omega)];exact lss_f hA (a:=0) (b:=0) (by decide)
theorem cmp_leq_f(h:y<x):A.cmp .leq r 0=false:=by rw[h3 h];exact leq_f hA (a:=1) (b:=0) (by decide)
theorem cmp_eql_t(h:x=y):A.cmp .eql r 0=true:=by rw[h2 h];exact eql_t hA (a:=0) (b:=0) rfl
theorem cmp_eql_f(h:x≠y):A.cmp .eql r 0=false:=by
 rcases Nat.lt_or_ge x y with k|k
 ·rw[h1 k];exact(congrFun (congrFun (congrFun (cmp_of hA) .eql) (-1)) 0).trans rfl
 ·rw[h3 (by omega)];exact eql_f hA (a:=1) (b:=0) (by decide)
theorem cmp_neq_t(h:x≠y):A.cmp .neq r 0=true:=by
 rcases Nat.lt_or_ge x y with k|k
 ·rw[h1 k];exact(congrFun (congrFun (congrFun (cmp_of hA) .neq) (-1)) 0).trans rfl
 ·rw[h3 (by omega)];exact neq_t hA (a:=1) (b:=0) (by decide)
theorem cmp_neq_f(h:x=y):A.cmp .neq r 0=false:=by rw[h2 h];exact neq_f hA (a:=0) (b:=0) rfl
end
end Go.Vg
namespace Go.Proofs.YtdhmihfefgcbeaaGreat
open Go.Vg Go.RowKit
set_option maxRecDepth 200000
set_option cbv.maxSteps 100000000
section
variable {P:Program}(hP:P=Tryz.prog){H:Nat->Nat->List SV}{S:Nat->Nat}(hs:HS H S)
include hP hs
theorem mCmp{x c y e:Nat}(hx:x<4294967296^c)(hy:y<4294967296^e)(hb:x<4294967296^40)(r:Int)(h1:x<y->r= -1)(h2:x=y->r=0)(h3:y<x->r=1):Con P 43 [.slice 0 0 (S x) c,.slice 1 0 (S y) e] [⟨0,H x c,58⟩,⟨1,H y e,58⟩] 2 [] (fun w _ _=>w= .int .i64 r):=by
 rw[hs.h];exact cRCmp hP (hs.nm hx) (hs.nm hy) (by have:=hs.le hb;omega) r h1 h2 h3
theorem mAdd{x c y e:Nat}(hx:x<4294967296^c)(hy:y<4294967296^e)(hb:x<4294967296^40)(hb2:y<4294967296^40)(s:Nat)(hsum:s=x+y):∃k,s<4294967296^k/\Con P 24 [.slice 0 0 (S x) c,.slice 1 0 (S y) e] [⟨0,H x c,58⟩,⟨1,H y e,58⟩] 2 [] (fun w L q=>w= .slice 2 0 (S s) k/\L=[⟨2,H s k,58⟩]/\q=3):=by
 have h1:=(hs.nm hx).lt
 have h2:=(hs.nm hy).lt
 have h3:=Nat.lt_of_lt_of_le h1 (Nat.pow_le_pow_right (show 0<4294967296 by decide) (Nat.le_max_left (S x) (S y)))
 have h4:=Nat.lt_of_lt_of_le h2 (Nat.pow_le_pow_right (show 0<4294967296 by decide) (Nat.le_max_right (S x) (S y)))
 refine⟨max (S x) (S y)+1,by rw[hsum,Nat.pow_succ];omega,?_⟩
 subst hsum
 rw[hs.h];exact cRAdd hP (hs.nm hx) (hs.nm hy) (by have:=hs.le hb;omega) (by have:=hs.le hb2;omega) _ _ rfl rfl _ (by rw[hs.s])
theorem mSub{x c y e:Nat}(hx:x<4294967296^c)(hy:y<4294967296^e)(hb:x<4294967296^40)(hle:y<=x)(s:Nat)(hd:s=x-y):∃k,s<4294967296^k/\Con P 23 [.slice 0 0 (S x) c,.slice 1 0 (S y) e] [⟨0,H x c,58⟩,⟨1,H y e,58⟩] 2 [] (fun w L q=>w= .slice 2 0 (S s) k/\L=[⟨2,H s k,58⟩]/\q=3):=by
 refine⟨S x,by rw[hd];exact Nat.lt_of_le_of_lt (Nat.sub_le _ _) (hs.nm hx).lt,?_⟩
 subst hd
 rw[hs.h];exact cRSub hP (hs.nm hx) (hs.nm hy) (by have:=hs.le hb;omega) hle _ (by rw[hs.s])
theorem mMul{x c y e:Nat}(hx:x<4294967296^c)(hy:y<4294967296^e)(hb:x<4294967296^40)(hb2:y<4294967296^40)(s:Nat)(hsum:s=x*y):∃k,s<4294967296^k/\Con P 97 [.slice 0 0 (S x) c,.slice 1 0 (S y) e] [⟨0,H x c,58⟩,⟨1,H y e,58⟩] 2 [] (fun w L q=>w= .slice 2 0 (S s) k/\L=[⟨2,H s k,58⟩]/\q=3):=by
 refine⟨S x+S y,by rw[hsum,Nat.pow_add];exact Nat.mul_lt_mul'' (hs.nm hx).lt (hs.nm hy).lt,?_⟩
 subst hsum
 rw[hs.h];exact cRMul hP (hs.nm hx) (hs.nm hy) (by have:=hs.le hb;omega) (by have:=hs.le hb2;omega) _ _ rfl (by rw[hs.s])
theorem pow40{x:Nat}(h:x<4294967296^18):x<4294967296^40:=by
 have:=hs.h;have:=hP
 exact Nat.lt_trans h (Nat.pow_lt_pow_right (by decide) (by decide))
theorem mMulMod{x c y e z g':Nat}(hx:x<4294967296^c)(hy:y<4294967296^e)(hz:z<4294967296^g')(hb:x<4294967296^18)(hb2:y<4294967296^18)(hz0:0<z)(hnz:x*y<z\/z<4294967296\/x*y%z≠0)(r:Nat)(hr:r=x*y%z):
 ∃k,r<4294967296^k/\Con P 67 [.slice 0 0 (S x) c,.slice 1 0 (S y) e,.slice 2 0 (S z) g'] [⟨0,H x c,58⟩,⟨1,H y e,58⟩,⟨2,H z g',58⟩] 3 [] (fun w L q=>w= .slice 3 0 (S r) k/\L=[⟨3,H r k,58⟩]/\q=4):=by
 obtain⟨p,hp⟩:=exq (x*y)
 rw[<-hp]at hnz hr
 obtain⟨l,hl,hM⟩:=mMul hP hs hx hy (pow40 hP hs hb) (pow40 hP hs hb2) p hp
 have hp40:p<4294967296^40:=by
  rw[hp]
  refine Nat.lt_of_lt_of_le (Nat.mul_lt_mul'' hb hb2) ?_
  rw[<-Nat.pow_add]
  exact Nat.pow_le_pow_right (by decide) (by decide)
 have bC:∀m,bdLB m (H x c)=true:=fun m=>hs.b m x c
 have bE:∀m,bdLB m (H y e)=true:=fun m=>hs.b m y e
 have bG:∀m,bdLB m (H z g')=true:=fun m=>hs.b m z g'
 have bL:∀m,bdLB m (H p l)=true:=fun m=>hs.b m p l
 by_cases hlt:p<z
 ·obtain rfl:r=p:=by rw[hr,Nat.mod_eq_of_lt hlt]
  have hD:=mModL hP hs hl hz hp40 hlt
  refine⟨l,hl,?_⟩
  suffices raw:Con P 67 [.slice 0 0 (S x) c,.slice 1 0 (S y) e,.slice 2 0 (S z) g'] [⟨0,H x c,58⟩,⟨1,H y e,58⟩,⟨2,H z g',58⟩] 3 [] (fun w L q=>w= .slice 3 0 (S r) l/\find L 3=some ⟨3,H r l,58⟩)from
   raw.weak fun v L q ⟨h1,h2⟩=>⟨_root_.id,.slice 3 0 (S r) l,[⟨3,H r l,58⟩],4,by subst h1;exact weak_id ⟨rfl,rfl,trivial⟩ ⟨h2,rfl,bL 4,trivial⟩ rfl rfl,rfl,rfl,rfl⟩
  refine cof hP Tryz.func67 ⟨blq rfl,⟨blq rfl,⟨blq rfl,trivial⟩⟩⟩ (by simpa [bdL,bd]using⟨bdb _ (bC 3),bdb _ (bE 3),bdb _ (bG 3)⟩) ?_
  intro A g K hA hg hK
  cases A
  cbv
  refine cgn rfl hg rfl rfl hM _root_.id rfl (ft2 (bC 0) (bE 0) rfl rfl) rfl rfl rfl ?_
  rintro _ _ _ ⟨rfl,rfl,rfl⟩ _
  refine⟨rfl,?_⟩
  simp only[renB,rcl (H r l) (bL 0)]
  cbv
  refine cro rfl hg rfl rfl hD (fun k=>if k=0 then 3 else 2) rfl (ft2 (bL 0) (bG 0) rfl rfl) ?_
  rintro _ _ _ rfl
  refine⟨by simp[bd],by simp[bd,ren],?_⟩
  cbv
  exact hK _ _ _ ⟨rfl,rfl⟩
 ·obtain⟨k,hk,hD⟩:∃k,r<4294967296^k/\Con P 25 [.slice 0 0 (S p) l,.slice 1 0 (S z) g'] [⟨0,H p l,58⟩,⟨1,H z g',58⟩] 2 [] (fun w L q=>w= .slice 2 0 (S r) k/\L=[⟨2,H r k,58⟩]/\q=3):=by
   rcases Nat.lt_or_ge z 4294967296 with h|h
   ·exact⟨1,by rw[Nat.pow_one,hr];exact Nat.lt_trans (Nat.mod_lt _ hz0) h,mModS hP hs hl hz hp40 (by omega) hz0 h r hr⟩
   ·exact mModK hP hs hl hz hp40 (by omega) h r hr (by rw[hr];omega)
  refine⟨k,hk,?_⟩
  have bK:∀m,bdLB m (H r k)=true:=fun m=>hs.b m r k
  suffices raw:Con P 67 [.slice 0 0 (S x) c,.slice 1 0 (S y) e,.slice 2 0 (S z) g'] [⟨0,H x c,58⟩,⟨1,H y e,58⟩,⟨2,H z g',58⟩] 3 [] (fun w L q=>w= .slice 4 0 (S r) k/\find L 4=some ⟨4,H r k,58⟩)from
   raw.weak fun v L q ⟨h1,h2⟩=>⟨fun l=>if l=3 then 4 else l,.slice 3 0 (S r) k,[⟨3,H r k,58⟩],4,by subst h1;exact wkr ⟨rfl,rfl,trivial⟩ ⟨by rw[rcl (H r k) (bK 0)];exact h2,rfl,rfl,bK 4,trivial⟩ rfl rfl rfl,rfl,rfl,rfl⟩
  refine cof hP Tryz.func67 ⟨blq rfl,⟨blq rfl,⟨blq rfl,trivial⟩⟩⟩ (by simpa [bdL,bd]using⟨bdb _ (bC 3),bdb _ (bE 3),bdb _ (bG 3)⟩) ?_
  intro A g K hA hg hK
  cases A
  cbv
  refine cgn rfl hg rfl rfl hM _root_.id rfl (ft2 (bC 0) (bE 0) rfl rfl) rfl rfl rfl ?_
  rintro _ _ _ ⟨rfl,rfl,rfl⟩ _
  refine⟨rfl,?_⟩
  simp only[renB,rcl (H p l) (bL 0)]
  cbv
  refine cgn rfl hg rfl rfl hD (fun k=>if k=0 then 3 else 2) rfl (ft2 (bL 0) (bG 0) rfl rfl) rfl rfl rfl ?_
  rintro _ _ _ ⟨rfl,rfl,rfl⟩ _
  refine⟨rfl,?_⟩
  simp only[renB,rcl (H r k) (bK 0)]
  cbv
  exact hK _ _ _ ⟨rfl,rfl⟩
theorem mAddMod{x c y e z g':Nat}(hx:x<4294967296^c)(hy:y<4294967296^e)(hz:z<4294967296^g')(hb:x<4294967296^18)(hb2:y<4294967296^18)(r:Nat)(hr:r=if z<=x+y then x+y-z else x+y):
 ∃k,r<4294967296^k/\Con P 68 [.slice 0 0 (S x) c,.slice 1 0 (S y) e,.slice 2 0 (S z) g'] [⟨0,H x c,58⟩,⟨1,H y e,58⟩,⟨2,H z g',58⟩] 3 [] (fun w L q=>w= .slice 3 0 (S r) k/\L=[⟨3,H r k,58⟩]/\q=4):=by
 obtain⟨p,hp⟩:=exq (x+y)
 rw[<-hp]at hr
 obtain⟨l,hl,hM⟩:=mAdd hP hs hx hy (pow40 hP hs hb) (pow40 hP hs hb2) p hp
 have hp40:p<4294967296^40:=by
  have h1:p<4294967296^19:=by rw[hp,Nat.pow_succ];omega
  exact Nat.lt_trans h1 (Nat.pow_lt_pow_right (by decide) (by decide))
 obtain⟨ci,c1,c2,c3⟩:=cmp_ex p z
 have hC:=mCmp hP hs hl hz hp40 ci c1 c2 c3
 have bC:∀m,bdLB m (H x c)=true:=fun m=>hs.b m x c
 have bE:∀m,bdLB m (H y e)=true:=fun m=>hs.b m y e
 have bG:∀m,bdLB m (H z g')=true:=fun m=>hs.b m z g'
 have bL:∀m,bdLB m (H p l)=true:=fun m=>hs.b m p l
 by_cases hlt:z<=p
 ·rw[if_pos hlt]at hr
  obtain⟨k,hk,hD⟩:=mSub hP hs hl hz hp40 hlt r hr
  refine⟨k,hk,?_⟩
  have bK:∀m,bdLB m (H r k)=true:=fun m=>hs.b m r k
  suffices raw:Con P 68 [.slice 0 0 (S x) c,.slice 1 0 (S y) e,.slice 2 0 (S z) g'] [⟨0,H x c,58⟩,⟨1,H y e,58⟩,⟨2,H z g',58⟩] 3 [] (fun w L q=>w= .slice 4 0 (S r) k/\find L 4=some ⟨4,H r k,58⟩)from
   raw.weak fun v L q ⟨h1,h2⟩=>⟨fun l=>if l=3 then 4 else l,.slice 3 0 (S r) k,[⟨3,H r k,58⟩],4,by subst h1;exact wkr ⟨rfl,rfl,trivial⟩ ⟨by rw[rcl (H r k) (bK 0)];exact h2,rfl,rfl,bK 4,trivial⟩ rfl rfl rfl,rfl,rfl,rfl⟩
  refine cof hP Tryz.func68 ⟨blq rfl,⟨blq rfl,⟨blq rfl,trivial⟩⟩⟩ (by simpa [bdL,bd]using⟨bdb _ (bC 3),bdb _ (bE 3),bdb _ (bG 3)⟩) ?_
  intro A g K hA hg hK
  obtain⟨_,_,cmp⟩:=A
  have e1:cmp .geq ci 0=true:=cmp_geq_t hA c1 c2 c3 hlt
  cbv
  refine cgn rfl hg rfl rfl hM _root_.id rfl (ft2 (bC 0) (bE 0) rfl rfl) rfl rfl rfl ?_
  rintro _ _ _ ⟨rfl,rfl,rfl⟩ _
  refine⟨rfl,?_⟩
  simp only[renB,rcl (H p l) (bL 0)]
  cbv
  refine cro rfl hg rfl rfl hC (fun k=>if k=0 then 3 else 2) rfl (ft2 (bL 0) (bG 0) rfl rfl) ?_
  rintro _ _ _ rfl
  refine⟨trivial,trivial,?_⟩
  cbv
  rw[e1]
  cbv
  refine cgn rfl hg rfl rfl hD (fun k=>if k=0 then 3 else 2) rfl (ft2 (bL 0) (bG 0) rfl rfl) rfl rfl rfl ?_
  rintro _ _ _ ⟨rfl,rfl,rfl⟩ _
  refine⟨rfl,?_⟩
  simp only[renB,rcl (H r k) (bK 0)]
  cbv
  exact hK _ _ _ ⟨rfl,rfl⟩
 ·rw[if_neg hlt]at hr
  subst hr
  refine⟨l,hl,?_⟩
  suffices raw:Con P 68 [.slice 0 0 (S x) c,.slice 1 0 (S y) e,.slice 2 0 (S z) g'] [⟨0,H x c,58⟩,⟨1,H y e,58⟩,⟨2,H z g',58⟩] 3 [] (fun w L q=>w= .slice 3 0 (S r) l/\find L 3=some ⟨3,H r l,58⟩)from
   raw.weak fun v L q ⟨h1,h2⟩=>⟨_root_.id,.slice 3 0 (S r) l,[⟨3,H r l,58⟩],4,by subst h1;exact weak_id ⟨rfl,rfl,trivial⟩ ⟨h2,rfl,bL 4,trivial⟩ rfl rfl,rfl,rfl,rfl⟩
  refine cof hP Tryz.func68 ⟨blq rfl,⟨blq rfl,⟨blq rfl,trivial⟩⟩⟩ (by simpa [bdL,bd]using⟨bdb _ (bC 3),bdb _ (bE 3),bdb _ (bG 3)⟩) ?_
  intro A g K hA hg hK
  obtain⟨_,_,cmp⟩:=A
  have e1:cmp .geq ci 0=false:=cmp_geq_f hA c1 c2 c3 (by omega)
  cbv
  refine cgn rfl hg rfl rfl hM _root_.id rfl (ft2 (bC 0) (bE 0) rfl rfl) rfl rfl rfl ?_
  rintro _ _ _ ⟨rfl,rfl,rfl⟩ _
  refine⟨rfl,?_⟩
  simp only[renB,rcl (H r l) (bL 0)]
  cbv
  refine cro rfl hg rfl rfl hC (fun k=>if k=0 then 3 else 2) rfl (ft2 (bL 0) (bG 0) rfl rfl) ?_
  rintro _ _ _ rfl
  refine⟨trivial,trivial,?_⟩
  cbv
  rw[e1]
  cbv
  exact hK _ _ _ ⟨rfl,rfl⟩
theorem mSubMod{x c y e z g':Nat}(hx:x<4294967296^c)(hy:y<4294967296^e)(hz:z<4294967296^g')(hb:x<4294967296^18)(hb2:z<4294967296^18)(hyz:y<=z)(r:Nat)(hr:r=if y<=x then x-y else x+z-y):
 ∃k,r<4294967296^k/\Con P 69 [.slice 0 0 (S x) c,.slice 1 0 (S y) e,.slice 2 0 (S z) g'] [⟨0,H x c,58⟩,⟨1,H y e,58⟩,⟨2,H z g',58⟩] 3 [] (fun w L q=>w= .slice 3 0 (S r) k/\L=[⟨3,H r k,58⟩]/\q=4):=by
 obtain⟨ci,c1,c2,c3⟩:=cmp_ex x y
 have hC:=mCmp hP hs hx hy (pow40 hP hs hb) ci c1 c2 c3
 have bC:∀m,bdLB m (H x c)=true:=fun m=>hs.b m x c
 have bE:∀m,bdLB m (H y e)=true:=fun m=>hs.b m y e
 have bG:∀m,bdLB m (H z g')=true:=fun m=>hs.b m z g'
 by_cases hle:y<=x
 ·rw[if_pos hle]at hr
  obtain⟨k,hk,hD⟩:=mSub hP hs hx hy (pow40 hP hs hb) hle r hr
  refine⟨k,hk,?_⟩
  have bK:∀m,bdLB m (H r k)=true:=fun m=>hs.b m r k
  suffices raw:Con P 69 [.slice 0 0 (S x) c,.slice 1 0 (S y) e,.slice 2 0 (S z) g'] [⟨0,H x c,58⟩,⟨1,H y e,58⟩,⟨2,H z g',58⟩] 3 [] (fun w L q=>w= .slice 3 0 (S r) k/\find L 3=some ⟨3,H r k,58⟩)from
   raw.weak fun v L q ⟨h1,h2⟩=>⟨_root_.id,.slice 3 0 (S r) k,[⟨3,H r k,58⟩],4,by subst h1;exact weak_id ⟨rfl,rfl,trivial⟩ ⟨h2,rfl,bK 4,trivial⟩ rfl rfl,rfl,rfl,rfl⟩
  refine cof hP Tryz.func69 ⟨blq rfl,⟨blq rfl,⟨blq rfl,trivial⟩⟩⟩ (by simpa [bdL,bd]using⟨bdb _ (bC 3),bdb _ (bE 3),bdb _ (bG 3)⟩) ?_
  intro A g K hA hg hK
  obtain⟨_,_,cmp⟩:=A
  have e1:cmp .geq ci 0=true:=cmp_geq_t hA c1 c2 c3 hle
  cbv
  refine cro rfl hg rfl rfl hC _root_.id rfl (ft2 (bC 0) (bE 0) rfl rfl) ?_
  rintro _ _ _ rfl
  refine⟨trivial,trivial,?_⟩
  cbv
  rw[e1]
  cbv
  refine cgn rfl hg rfl rfl hD _root_.id rfl (ft2 (bC 0) (bE 0) rfl rfl) rfl rfl rfl ?_
  rintro _ _ _ ⟨rfl,rfl,rfl⟩ _
  refine⟨rfl,?_⟩
  simp only[renB,rcl (H r k) (bK 0)]
  cbv
  exact hK _ _ _ ⟨rfl,rfl⟩
 ·rw[if_neg hle]at hr
  obtain⟨p,hp⟩:=exq (x+z)
  rw[<-hp]at hr
  obtain⟨l,hl,hM⟩:=mAdd hP hs hx hz (pow40 hP hs hb) (pow40 hP hs hb2) p hp
  have hp40:p<4294967296^40:=by
   have h1:p<4294967296^19:=by rw[hp,Nat.pow_succ];omega
   exact Nat.lt_trans h1 (Nat.pow_lt_pow_right (by decide) (by decide))
  obtain⟨k,hk,hD⟩:=mSub hP hs hl hy hp40 (by omega) r hr
  refine⟨k,hk,?_⟩
  have bL:∀m,bdLB m (H p l)=true:=fun m=>hs.b m p l
  have bK:∀m,bdLB m (H r k)=true:=fun m=>hs.b m r k
  suffices raw:Con P 69 [.slice 0 0 (S x) c,.slice 1 0 (S y) e,.slice 2 0 (S z) g'] [⟨0,H x c,58⟩,⟨1,H y e,58⟩,⟨2,H z g',58⟩] 3 [] (fun w L q=>w= .slice 4 0 (S r) k/\find L 4=some ⟨4,H r k,58⟩)from
   raw.weak fun v L q ⟨h1,h2⟩=>⟨fun l=>if l=3 then 4 else l,.slice 3 0 (S r) k,[⟨3,H r k,58⟩],4,by subst h1;exact wkr ⟨rfl,rfl,trivial⟩ ⟨by rw[rcl (H r k) (bK 0)];exact h2,rfl,rfl,bK 4,trivial⟩ rfl rfl rfl,rfl,rfl,rfl⟩
  refine cof hP Tryz.func69 ⟨blq rfl,⟨blq rfl,⟨blq rfl,trivial⟩⟩⟩ (by simpa [bdL,bd]using⟨bdb _ (bC 3),bdb _ (bE 3),bdb _ (bG 3)⟩) ?_
  intro A g K hA hg hK
  obtain⟨_,_,cmp⟩:=A
  have e1:cmp .geq ci 0=false:=cmp_geq_f hA c1 c2 c3 (by omega)
  cbv
  refine cro rfl hg rfl rfl hC _root_.id rfl (ft2 (bC 0) (bE 0) rfl rfl) ?_
  rintro _ _ _ rfl
  refine⟨trivial,trivial,?_⟩
  cbv
  rw[e1]
  cbv
  refine cgn rfl hg rfl rfl hM (fun k=>if k=0 then 0 else 2) rfl (ft2 (bC 0) (bG 0) rfl rfl) rfl rfl rfl ?_
  rintro _ _ _ ⟨rfl,rfl,rfl⟩ _
  refine⟨rfl,?_⟩
  simp only[renB,rcl (H p l) (bL 0)]
  cbv
  refine cgn rfl hg rfl rfl hD (fun k=>if k=0 then 3 else 1) rfl (ft2 (bL 0) (bE 0) rfl rfl) rfl rfl rfl ?_
  rintro _ _ _ ⟨rfl,rfl,rfl⟩ _
  refine⟨rfl,?_⟩
  simp only[renB,rcl (H r k) (bK 0)]
  cbv
  exact hK _ _ _ ⟨rfl,rfl⟩
end
end Go.Proofs.YtdhmihfefgcbeaaGreat
namespace Go.Vg
open Go.RowKit Go.Lib
theorem or_dig{T t d e w q r:Nat}(he:e=32*q+r)(hrw:r+w<=32)(hd:d<2^w)(hT:T=t*2^(e+w)):(∀j,dg (T+d*2^e) j=if j=q then dg T q+d*2^r else dg T j)/\dg T q|||d*2^r=dg T q+d*2^r/\dg T q+d*2^r<4294967296:=by
 have hdr:d*2^r<2^(r+w):=by rw[Nat.pow_add,Nat.mul_comm];exact Nat.mul_lt_mul_of_pos_left hd (Nat.two_pow_pos r)
 have eT:T/4294967296^q=t*2^(r+w):=by
  rw[hT,B_pow,he,Nat.add_assoc,Nat.pow_add,<-Nat.mul_assoc,Nat.mul_comm t,Nat.mul_assoc,Nat.mul_div_cancel_left _ (Nat.two_pow_pos _)]
 have eT2:(T+d*2^e)/4294967296^q=t*2^(r+w)+d*2^r:=by
  rw[hT,B_pow,he,Nat.add_assoc,Nat.pow_add 2 (32*q) (r+w),Nat.pow_add 2 (32*q) r,show t*(2^(32*q)*2^(r+w))+d*(2^(32*q)*2^r)=2^(32*q)*(t*2^(r+w)+d*2^r)from by rw[Nat.mul_add];ac_rfl,Nat.mul_div_cancel_left _ (Nat.two_pow_pos _)]
 obtain⟨c,hc⟩:∃c,32=r+w+c:=⟨32-(r+w),by omega⟩
 have hB:(4294967296:Nat)=2^(r+w)*2^c:=by rw[<-Nat.pow_add,<-hc]
 have hq:dg T q=(t%2^c)*2^(r+w):=by
  show T/4294967296^q%4294967296=_
  rw[eT,hB,Nat.mul_comm t,Nat.mul_mod_mul_left,Nat.mul_comm]
 have h1:t%2^c+1<=2^c:=Nat.mod_lt _ (Nat.two_pow_pos c)
 have h2:=Nat.mul_le_mul_right (2^(r+w)) h1
 rw[Nat.add_mul,Nat.one_mul,<-hq,Nat.mul_comm (2^c),<-hB]at h2
 have hlt:dg T q+d*2^r<4294967296:=by omega
 refine⟨fun j=> ?_,by rw[hq];exact or_add hdr,hlt⟩
 by_cases hj:j=q
 ·subst hj
  rw[if_pos rfl]
  show(T+d*2^e)/4294967296^j%4294967296=_
  rw[eT2]
  have e3:t*2^(r+w)=dg T j+4294967296*(t/2^c):=by
   rw[hq,hB]
   have:=Nat.div_add_mod t (2^c)
   have h5:t*2^(r+w)=(2^c*(t/2^c)+t%2^c)*2^(r+w):=by rw[this]
   rw[h5,Nat.add_mul,Nat.add_comm]
   congr 1
   ac_rfl
  rw[e3,Nat.add_right_comm,Nat.add_mul_mod_self_left,Nat.mod_eq_of_lt hlt]
 ·rw[if_neg hj]
  rcases Nat.lt_or_gt_of_ne hj with h|h
  ·obtain⟨z,rfl⟩:∃z,q=j+1+z:=⟨q-(j+1),by omega⟩
   have e4:d*2^e=(d*2^(r+32*z))*4294967296^(j+1):=by
    rw[he,B_pow,Nat.mul_assoc,<-Nat.pow_add];congr 2;omega
   rw[e4];exact dg_low (by omega)
  ·-- the quotient does not change
   obtain⟨z,rfl⟩:∃z,j=q+1+z:=⟨j-(q+1),by omega⟩
   have e5:∀X,X/4294967296^(q+1+z)=X/4294967296^q/2^(r+w)/(2^c*4294967296^z):=fun X=>by
    rw[Nat.div_div_eq_div_mul,Nat.div_div_eq_div_mul,<-Nat.mul_assoc (2^(r+w)) (2^c),<-hB,Nat.pow_add,Nat.pow_succ,Nat.mul_assoc]
   show(T+d*2^e)/_%_=T/_%_
   rw[e5,e5,eT,eT2,Nat.mul_div_cancel _ (Nat.two_pow_pos _),Nat.mul_comm t,Nat.mul_add_div (Nat.two_pow_pos _),Nat.div_eq_of_lt hdr,Nat.add_zero]
def topN(b x k:Nat):Nat:=x/b^k*b^k
theorem topN_zero(b x:Nat):topN b x 0=x:=by unfold topN;rw[Nat.pow_zero,Nat.div_one,Nat.mul_one]
theorem topN_succ(b x k:Nat):topN b x k=topN b x (k+1)+x/b^k%b*b^k:=by
 unfold topN
 rw[Nat.pow_succ,<-Nat.div_div_eq_div_mul]
 have h:=Nat.div_add_mod (x/b^k) b
 generalize x/b^k=y at *
 generalize b^k=Q
 have h2:y*Q=(b*(y/b)+y%b)*Q:=by rw[h]
 rw[h2,Nat.add_mul]
 congr 1
 ac_rfl
theorem topN_all{b x n:Nat}(h:x<b^n):topN b x n=0:=by unfold topN;rw[Nat.div_eq_of_lt h,Nat.zero_mul]
theorem dg_even(x i:Nat):dg x (2*i)=x/0x10000000000000000^i%0x10000000000000000%4294967296:=by
 unfold dg Dg.dig
 rw[Nat.pow_mul,show(4294967296:Nat)^2=0x10000000000000000 from by decide]
 omega
theorem dg_odd(x i:Nat):dg x (2*i+1)=x/0x10000000000000000^i%0x10000000000000000/4294967296:=by
 unfold dg Dg.dig
 rw[Nat.pow_succ,<-Nat.div_div_eq_div_mul,Nat.pow_mul,show(4294967296:Nat)^2=0x10000000000000000 from by decide]
 omega
end Go.Vg
namespace Go.Proofs.YtdhmihfefgcbeaaGreat
open Go.Vg Go.RowKit
set_option maxRecDepth 200000
set_option cbv.maxSteps 100000000
theorem word_of{a:Nat->Nat}{x:Nat}(ha:Wn 9 a)(hx:V 9 a=x){i:Nat}(hi:i<9):a i=x/0x10000000000000000^i%0x10000000000000000:=by
 rw[<-hx];exact(Dg.dig_num (b:=0x10000000000000000) (by decide) 9 ha i hi).symm
section
variable {P:Program}(hP:P=Tryz.prog){H:Nat->Nat->List SV}{S:Nat->Nat}(hs:HS H S)
include hP hs
theorem mFrom(a:Nat->Nat)(ha:Wn 9 a)(x:Nat)(hx:V 9 a=x):x<4294967296^18/\Con P 13 [.agg (ws a 9)] [] 0 [] (fun w L q=>w= .slice 0 0 (S x) 18/\L=[⟨0,H x 18,58⟩]/\q=1):=by
 have hx18:x<4294967296^18:=by
  rw[<-hx]
  exact Nat.lt_of_lt_of_le (V_lt ha) (by decide)
 refine⟨hx18,?_⟩
 obtain⟨Z,hZ⟩:=exq (fun i=>Vg.hs (wr (dg x) i) 18:Nat->List SV)
 have bZ:∀m i,bdLB m (Z i)=true:=fun m i=>by rw[hZ];exact hs_bd _ _ m
 have hZ0:List.replicate 18 (SV.int .u32 0)=Z 0:=by rw[hZ,hs_zero];show _=Vg.hs (wr _ 0) 18;rw[wr_zero]
 have hZn:Z 18=H x 18:=by rw[hZ,hs.h];exact hs_wr _ _
 have hTr:Con P 42 [.slice 0 0 18 18] [⟨0,Z 18,58⟩] 1 [] (fun w _ _=>w= .slice 0 0 (S x) 18):=by
  rw[hZn,hs.h];exact cTrim hP (dg x) 18 18 (S x) (Nat.le_refl _) (by decide) (by rw[hs.s,tl_dg hx18])
 rw[<-hZn]
 suffices raw:Con P 13 [.agg (ws a 9)] [] 0 [] (fun w L q=>w= .slice 1 0 (S x) 18/\find L 1=some ⟨1,Z 18,58⟩)from
  raw.weak fun v L q ⟨h1,h2⟩=>⟨fun l=>l+1,.slice 0 0 (S x) 18,[⟨0,Z 18,58⟩],1,by subst h1;exact wkr ⟨rfl,rfl,trivial⟩ ⟨by rw[rcl (Z 18) (bZ 0 18)];exact h2,rfl,rfl,bZ 1 18,trivial⟩ rfl rfl rfl,rfl,rfl,rfl⟩
 obtain⟨D,hD⟩:=exq (dg x)
 have hlo:∀i,i<9->a i%4294967296=D (2*i):=fun i h=>by rw[hD,word_of ha hx h];exact(dg_even x i).symm
 have hhi:∀i,i<9->a i/4294967296=D (2*i+1):=fun i h=>by rw[hD,word_of ha hx h];exact(dg_odd x i).symm
 rw[<-hD]at hZ
 clear hD hZn
 refine cof hP Tryz.func13 (bdb _ rfl) (bkb rfl) ?_
 intro A g K hA hg hK
 obtain⟨bin,sh,cmp,_,cvt,ix,_,_,_,_,_,_,_,_,_,off,_,_,_,spl⟩:=A
 have f1:∀i,i<9->cmp .lss (.ofNat i) 9=true:=fun i h=>lss_t hA (b:=9) h
 have f1f:cmp .lss (.ofNat 9) 9=false:=lss_f hA (a:=9) (b:=9) (by omega)
 have f2:∀i,i<9->ix (.ofNat i) 9=some i:=fun i h=>ix_of hA h
 have f3:∀i,off 0 i 1=i:=fun i=>(off_of hA 0 i 1).trans (by omega)
 have f4:=fun(i:Nat) (h:i<9)=>getW hA .u64 (n:=9) a h
 have f5:∀i,i<18->ix (.ofNat i) 18=some i:=fun i h=>ix_of hA h
 have f6:∀i v,i<18->v=D i->spl (Z i) i [.int .u32 (.ofNat v)]=some (Z (i+1)):=fun i v h hv=>by rw[hZ];exact splW hA .u32 (n:=18) (wr D i) (wr D (i+1)) h (wr_step D i v hv)
 have f7:∀i,i<100->bin .add .i64 (.ofNat i) 1=Int.ofNat (i+1):=fun i h=>addI hA (a:=i) (b:=1) (by omega)
 simp only[lst,Nat.reduceAdd]at f4
 have hU:=u32B hP
 clear hZ
 cbv
 refine smk (hP▸tblOk) hg rfl rfl (show tyT 27=some _ from rfl) rfl (show tyT 58=some _ from rfl) hU rfl (m:=18) rfl rfl (by decide) (by decide) ?_
 rw[hZ0]
 cbv
 refine lpb Nat (fun i=>i<=9) (fun i=>9-i) (fun i=> [(4,.int .i64 (.ofNat i))]) [1,2,3] (fun i=> [(1,Z (2*i))]) 0 (Nat.zero_le _) ?_ ?_
 ·exact wkih (by repeat' (first|exact trivial|refine⟨rfl,rfl,rfl,?_⟩|refine⟨rfl,rfl,bZ 2 (2*0),?_⟩))
 intro i hi
 by_cases hlt:i<9
 ·obtain⟨i2,hi2⟩:=exq (2*i)
  obtain⟨i3,hi3⟩:=exq (i2+1)
  obtain⟨lo,hlo'⟩:=exq (a i%4294967296)
  obtain⟨hi',hhi'⟩:=exq (a i/4294967296)
  have la:a i<0x10000000000000000:=ha i hlt
  have g1:bin .mul .i64 2 (.ofNat i)=Int.ofNat i2:=(mulI hA (a:=2) (b:=i) (by omega)).trans (by rw[hi2])
  have g2:bin .and .u64 (.ofNat (a i)) 4294967295=Int.ofNat lo:=lo32 hA la hlo'
  have g3:cvt .u32 (.ofNat lo)=Int.ofNat lo:=c32 hA (by omega)
  have g4:sh .shr .u64 (.ofNat (a i)) 32=Int.ofNat hi':=hi32 hA hhi'
  have g5:cvt .u32 (.ofNat hi')=Int.ofNat hi':=c32 hA (by omega)
  have g6:=f6 i2 lo (by omega) (by rw[hlo',hi2];exact hlo i hlt)
  have g7:=f6 i3 hi' (by omega) (by rw[hhi',hi3,hi2];exact hhi i hlt)
  have g8:=f7 i2 (by omega)
  have g9:=f7 i (by omega)
  rw[<-hi3]at g6 g8
  obtain⟨Zn,hZn⟩:=exq (Z (i3+1))
  rw[<-hZn]at g7
  rw[<-hi2]
  cbv
  rw[f1 i hlt]
  cbv
  rw[g1]
  cbv
  rw[f2 i hlt]
  cbv
  rw[f3,f4 i hlt]
  cbv
  rw[g2]
  cbv
  rw[g3]
  cbv
  rw[f5 i2 (by omega)]
  cbv
  rw[f3,g6]
  cbv
  rw[g1]
  cbv
  rw[g8]
  cbv
  rw[f2 i hlt]
  cbv
  rw[f3,f4 i hlt]
  cbv
  rw[g4]
  cbv
  rw[g5]
  cbv
  rw[f5 i3 (by omega)]
  cbv
  rw[f3,g7]
  cbv
  rw[g9]
  refine⟨i+1,_root_.id,hlt,(by show 9-(i+1)<9-i;omega),?_⟩
  rw[show 2*(i+1)=i3+1 by omega,<-hZn]
  have bZn:∀m,bdLB m Zn=true:=fun m=>by rw[hZn];exact bZ m _
  exact wkih (by repeat' (first|exact trivial|refine⟨rfl,rfl,rfl,?_⟩|refine⟨rfl,rfl,bZn 2,?_⟩))
 ·obtain rfl:i=9:=by omega
  obtain⟨Ze,hZe⟩:=exq (Z 18)
  rw[show 2*9=18 from rfl,<-hZe]
  rw[<-hZe]at hTr
  have bZe:∀m,bdLB m Ze=true:=fun m=>by rw[hZe];exact bZ m _
  cbv
  rw[f1f]
  cbv
  refine cro rfl hg rfl rfl hTr (fun _=>1) rfl (ft1 (bZe 0) rfl) ?_
  rintro _ _ _ rfl
  refine⟨by simp[bd],by simp[bd,ren],?_⟩
  cbv
  exact hK _ _ _ ⟨rfl,by rw[hZe];rfl⟩
theorem mNat{x c:Nat}(hx:x<4294967296^c)(r:Nat->Nat)(hr:Wn 9 r)(hrx:V 9 r=x):Con P 22 [.slice 0 0 (S x) c] [⟨0,H x c,58⟩] 1 [] (fun w _ _=>w= .agg (ws r 9)):=by
 have hn:=hs.nm hx
 have hdx:∀i,Con P 49 [.slice 0 0 (S x) c,.int .i64 (.ofNat i)] [⟨0,H x c,58⟩] 1 [] (fun w _ _=>w= .int .u64 (.ofNat (dg x i))):=fun i=>by
  rw[hs.h]
  exact cRDigit hP (dg x) (S x) c i _ hn.le hn.w (by
   by_cases h:i<S x
   ·rw[if_pos h]
   ·rw[if_neg h,hn.digz (by omega)])
 obtain⟨D,hD⟩:=exq (dg x)
 have lD:∀i,D i<4294967296:=fun i=>by rw[hD];exact dg_lt _ _
 have hw:∀i,i<9->D (2*i)+D (2*i+1)*4294967296=r i:=fun i h=>by
  rw[hD,dg_even,dg_odd,<-word_of hr hrx h];omega
 rw[<-hD]at hdx
 obtain⟨C,hC⟩:=exq (H x c)
 have bC:∀m,bdLB m C=true:=fun m=>by rw[hC];exact hs.b m x c
 obtain⟨n,hnn⟩:=exq (S x)
 rw[<-hC,<-hnn]at hdx⊢
 clear hC hnn hD hn
 refine cof hP Tryz.func22 ⟨blq rfl,trivial⟩ (by simpa [bdL,bd]using bdb _ (bC 1)) ?_
 intro A g K hA hg hK
 obtain⟨bin,sh,cmp,_,_,ix,_,_,_,_,_,_,_,_,_,off⟩:=A
 have f1:∀i,i<9->cmp .lss (.ofNat i) 9=true:=fun i h=>lss_t hA (b:=9) h
 have f1f:cmp .lss (.ofNat 9) 9=false:=lss_f hA (a:=9) (b:=9) (by omega)
 have f2:∀i,i<9->ix (.ofNat i) 9=some i:=fun i h=>ix_of hA h
 have f3:∀i,off 0 i 1=i:=fun i=>(off_of hA 0 i 1).trans (by omega)
 have f5:=fun(f g:Nat->Nat) (i v:Nat) (h:i<9) (e:g=fun j=>if j=i then v else f j)=>splW hA .u64 (n:=9) f g h e
 have f7:∀i,i<100->bin .add .i64 (.ofNat i) 1=Int.ofNat (i+1):=fun i h=>addI hA (a:=i) (b:=1) (by omega)
 simp only[lst,Nat.reduceAdd]at f5
 cbv
 refine lpb (Nat×(Nat->Nat)) (fun s=>s.1<=9/\s.2=wr r s.1) (fun s=>9-s.1) (fun s=> [(4,.int .i64 (.ofNat s.1))]) [0,2,3] (fun s=> [(2,ws s.2 9)]) (0,fun _=>0) ⟨Nat.zero_le _,(wr_zero r).symm⟩ ?_ ?_
 ·exact wkih (by repeat' (first|exact trivial|refine⟨rfl,rfl,rfl,?_⟩|refine⟨rfl,rfl,bC 3,?_⟩))
 rintro⟨i,f⟩ ⟨hi,hf⟩
 change i<=9 at hi
 change f=wr r i at hf
 by_cases hlt:i<9
 ·obtain⟨i2,hi2⟩:=exq (2*i)
  obtain⟨i3,hi3⟩:=exq (i2+1)
  obtain⟨w1,hw1⟩:=exq (D i3*4294967296)
  obtain⟨w2,hw2⟩:=exq (D i2+w1)
  have l1:=lD i2
  have l2:=lD i3
  have hv:w2=r i:=by rw[hw2,hw1,hi3,hi2];exact hw i hlt
  have g1:bin .mul .i64 2 (.ofNat i)=Int.ofNat i2:=(mulI hA (a:=2) (b:=i) (by omega)).trans (by rw[hi2])
  have g2:=f7 i2 (by omega)
  have g3:sh .shl .u64 (.ofNat (D i3)) 32=Int.ofNat w1:=(shlW hA (k:= .u64) rfl (D i3) (s:=32) (by decide)).trans (congrArg Int.ofNat (by rw[hw1];show D i3*4294967296%0x10000000000000000=_;omega))
  have g4:bin .or .u64 (.ofNat (D i2)) (.ofNat w1)=Int.ofNat w2:=(orW hA (k:= .u64) rfl (a:=D i2) (b:=w1) (by show D i2<0x10000000000000000;omega) (by show w1<0x10000000000000000;omega)).trans (congrArg Int.ofNat (by rw[hw2,hw1,Nat.or_comm,show(4294967296:Nat)=2^32 from rfl,or_add (s:=32) l1,Nat.add_comm]))
  have hfn:wr r (i+1)=fun j=>if j=i then w2 else f j:=by rw[hf];exact wr_step r i w2 hv
  obtain⟨fn,hfn2⟩:=exq (wr r (i+1))
  rw[<-hfn2]at hfn
  have g5:=f5 f fn i w2 hlt hfn
  have g6:=f7 i (by omega)
  rw[<-hi3]at g2
  cbv
  rw[f1 i hlt]
  cbv
  rw[g1]
  cbv
  refine cro rfl hg rfl rfl (hdx i2) (fun _=>0) rfl (ft1 (bC 0) rfl) ?_
  rintro _ _ _ rfl
  refine⟨trivial,trivial,?_⟩
  cbv
  rw[g1]
  cbv
  rw[g2]
  cbv
  refine cro rfl hg rfl rfl (hdx i3) (fun _=>0) rfl (ft1 (bC 0) rfl) ?_
  rintro _ _ _ rfl
  refine⟨trivial,trivial,?_⟩
  cbv
  rw[g3]
  cbv
  rw[g4]
  cbv
  rw[f2 i hlt]
  cbv
  rw[f3,g5]
  cbv
  rw[g6]
  refine⟨(i+1,fn),_root_.id,⟨hlt,hfn2⟩,(by show 9-(i+1)<9-i;omega),?_⟩
  exact wkih (by repeat' (first|exact trivial|refine⟨rfl,rfl,rfl,?_⟩|refine⟨rfl,rfl,bC 3,?_⟩))
 ·obtain rfl:i=9:=by omega
  have e:ws f 9=ws r 9:=by rw[hf];exact lcg fun j _ hj=>by unfold wr;rw[if_pos (by omega)]
  cbv
  rw[f1f]
  cbv
  exact hK _ _ _ (by rw[<-e];rfl)
end
theorem cRHexDigit{P:Program}(hP:P=Tryz.prog)(d c:Nat)(hd:d<16)(hc:c=if d<10 then 48+d else 87+d):Con P 56 [.int .u8 (.ofNat c)] [] 0 [] (fun w _ _=>w= .int .u32 (.ofNat d)):=by
 refine cof hP Tryz.func56 (bdb _ rfl) (bkb rfl) ?_
 intro A g K hA hg hK
 obtain⟨bin,_,cmp,_,cvt,_,_,_,_,_,_,_,_,_,_,_,_,_,sub⟩:=A
 by_cases h10:d<10
 ·rw[if_pos h10]at hc
  have g1:bin .sub .u8 (.ofNat c) 48=Int.ofNat d:=(subW hA (k:= .u8) rfl (a:=c) (b:=48) (by decide)).trans (congrArg Int.ofNat (by show(c+256-48)%256=d;omega))
  have g2:cvt .u32 (.ofNat d)=Int.ofNat d:=c32 hA (by omega)
  cbv
  rw[show cmp .geq (.ofNat c) 97=false from geq_f hA (b:=97) (by omega)]
  cbv
  rw[g1]
  cbv
  rw[g2]
  exact hK _ _ _ rfl
 ·rw[if_neg h10]at hc
  obtain⟨e,he⟩:=exq (d-10)
  have g1:bin .sub .u8 (.ofNat c) 97=Int.ofNat e:=(subW hA (k:= .u8) rfl (a:=c) (b:=97) (by decide)).trans (congrArg Int.ofNat (by show(c+256-97)%256=e;omega))
  have g2:cvt .u32 (.ofNat e)=Int.ofNat e:=c32 hA (by omega)
  have g3:bin .add .u32 (.ofNat e) 10=Int.ofNat d:=(addW hA (k:= .u32) rfl e 10).trans (congrArg Int.ofNat (by show(e+10)%4294967296=d;omega))
  cbv
  rw[show cmp .geq (.ofNat c) 97=true from geq_t hA (b:=97) (by omega)]
  cbv
  rw[g1]
  cbv
  rw[g2]
  cbv
  rw[g3]
  exact hK _ _ _ rfl
section
variable {P:Program}(hP:P=Tryz.prog){H:Nat->Nat->List SV}{S:Nat->Nat}(hs:HS H S)
include hP hs
theorem mHex(n x:Nat)(hn:n<=144)(hx:x<16^n)(s:ByteArray)(hsx:s=hexS x n)(c:Nat)(hc:c=n/8+1):x<4294967296^c/\Con P 38 [.str s] [] 0 [] (fun w L q=>w= .slice 0 0 (S x) c/\L=[⟨0,H x c,58⟩]/\q=1):=by
 have hpc:16^n<=4294967296^c:=by
  rw[show(4294967296:Nat)=16^8 from by decide,<-Nat.pow_mul]
  exact Nat.pow_le_pow_right (by decide) (by omega)
 have hxc:x<4294967296^c:=Nat.lt_of_lt_of_le hx hpc
 refine⟨hxc,?_⟩
 have hsz:s.size=n:=by rw[hsx,hexS_size]
 obtain⟨T,hT⟩:=exq (fun i=>topN 16 x (n-i):Nat->Nat)
 obtain⟨Dd,hDd⟩:=exq (fun k=>x/16^k%16:Nat->Nat)
 have lDd:∀k,Dd k<16:=fun k=>by rw[hDd];exact Nat.mod_lt _ (by decide)
 obtain⟨Z,hZ⟩:=exq (fun i=>Vg.hs (dg (T i)) c:Nat->List SV)
 have bZ:∀m i,bdLB m (Z i)=true:=fun m i=>by rw[hZ];exact hs_bd _ _ m
 have hZ0:List.replicate c (SV.int .u32 0)=Z 0:=by
  rw[hZ,hs_zero,hT];show _=Vg.hs (dg (topN 16 x (n-0))) c
  rw[Nat.sub_zero,topN_all hx]
  exact hs_congr fun j _=>by unfold dg Dg.dig;rw[Nat.zero_div]
 have hTn:T n=x:=by rw[hT];show topN 16 x (n-n)=x;rw[Nat.sub_self,topN_zero]
 have hZn:Z n=Vg.hs (dg x) c:=by rw[hZ];show Vg.hs (dg (T n)) c=_;rw[hTn]
 have hSh:=cRShr hP (n:=c) (c:=c) (f:=dg x) (x:=x) ⟨Nat.le_refl c,fun j _=>dg_lt x j,num_dgW hxc⟩ (by omega) (by omega) 0 (by decide) x (S x) (by rw[Nat.pow_zero,Nat.div_one]) (by rw[hs.s])
 rw[<-hZn]at hSh
 rw[hs.h]
 show Con P _ _ _ _ _ (fun w L q=>w= .slice 0 0 (S x) c/\L=[⟨0,Vg.hs (dg x) c,58⟩]/\q=1)
 rw[<-hZn]
 suffices raw:Con P 38 [.str s] [] 0 [] (fun w L q=>w= .slice 1 0 (S x) c/\find L 1=some ⟨1,Z n,58⟩)from
  raw.weak fun v L q ⟨h1,h2⟩=>⟨fun l=>l+1,.slice 0 0 (S x) c,[⟨0,Z n,58⟩],1,by subst h1;exact wkr ⟨rfl,rfl,trivial⟩ ⟨by rw[rcl (Z n) (bZ 0 n)];exact h2,rfl,rfl,bZ 1 n,trivial⟩ rfl rfl rfl,rfl,rfl,rfl⟩
 have hst:∀i k q r,i<n->k=n-1-i->q=k/8->r=4*(k%8)->(∀j,dg (T (i+1)) j=if j=q then dg (T i) q+Dd k*2^r else dg (T i) j)/\dg (T i) q|||Dd k*2^r=dg (T i) q+Dd k*2^r/\dg (T i) q+Dd k*2^r<4294967296:=fun i k q r hi hk hq hr=>by
  have e1:T i=topN 16 x (k+1):=by rw[hT];show topN 16 x (n-i)=_;congr 1;omega
  have e2:T (i+1)=T i+Dd k*2^(4*k):=by
   rw[e1,hT,hDd];show topN 16 x (n-(i+1))=_+x/16^k%16*_
   rw[show n-(i+1)=k by omega,topN_succ,Nat.pow_mul]
  rw[e2]
  refine or_dig (t:=x/16^(k+1)) (w:=4) (by omega) (by omega) (lDd k) ?_
  rw[e1];unfold topN
  rw[show 4*k+4=4*(k+1) by omega,Nat.pow_mul 2 4]
 have hdg:=fun d c hd hc=>cRHexDigit hP d c hd hc
 have hes:∀i k,i<n->k=n-1-i->s[i]? =some (hexc (Dd k)):=fun i k hi hk=>by
  have:=hexS_at x n k (by omega)
  rw[show n-1-k=i by omega]at this
  rw[hsx,hDd];exact this
 clear hT hDd hZn hTn hsx
 refine cof hP Tryz.func38 (bdb _ rfl) (bkb rfl) ?_
 intro A g K hA hg hK
 obtain⟨bin,sh,cmp,_,_,ix,nn,_,_,_,_,_,slen,six,nat,off,get,_,sub,spl⟩:=A
 have en:slen s=Int.ofNat n:=(slen_of hA s).trans (by rw[hsz])
 have e0:nat c=Int.ofNat c:=nat_of hA c
 have e1:bin .quo .i64 (.ofNat n) 8=Int.ofNat (n/8):=quoI hA (a:=n) (b:=8) (by omega)
 have e2:bin .add .i64 (.ofNat (n/8)) 1=Int.ofNat c:=(addI hA (a:=n/8) (b:=1) (by omega)).trans (by rw[hc])
 have e3:∀j,off 0 j 1=j:=fun j=>(off_of hA 0 j 1).trans (by omega)
 have e4:∀i m,i<m->ix (.ofNat i) m=some i:=fun i m h=>ix_of hA h
 have e5:∀i j,j<c->get (Z i) j=some (.int .u32 (.ofNat (dg (T i) j))):=fun i j h=>by rw[hZ];exact getW hA .u32 (dg (T i)) h
 have e6:∀i q v,q<c->(dg (T (i+1))=fun j=>if j=q then v else dg (T i) j)->spl (Z i) q [.int .u32 (.ofNat v)]=some (Z (i+1)):=fun i q v h hv=>by rw[hZ];exact splW hA .u32 (n:=c) (dg (T i)) (dg (T (i+1))) h hv
 have e7:∀i,i<n->cmp .lss (.ofNat i) (.ofNat n)=true:=fun i h=>lss_t hA h
 have e7f:cmp .lss (.ofNat n) (.ofNat n)=false:=lss_f hA (Nat.lt_irrefl n)
 have e8:∀i,i<n->bin .add .i64 (.ofNat i) 1=Int.ofNat (i+1):=fun i h=>addI hA (a:=i) (b:=1) (by omega)
 have es:∀i b,s[i]? =some b->six s (Int.ofNat i)=some (Int.ofNat b.toNat):=fun i b h=>by
  have e:six=Ar.real.six:=congrArg Ar.six hA
  rw[e]
  show(if 0<=Int.ofNat i then(s[(Int.ofNat i).toNat]?).map fun b=>(b.toNat:Int)else none)=_
  rw[if_pos (show(0:Int)<=Int.ofNat i from Int.natCast_nonneg _)]
  show(s[i]?).map _=_
  rw[h];rfl
 have hU:=u32B hP
 clear hZ
 cbv
 rw[en,e1,e2]
 cbv
 refine smk (hP▸tblOk) hg rfl rfl (show tyT 27=some _ from rfl) rfl (show tyT 58=some _ from rfl) hU rfl (m:=c) rfl rfl (by omega) (by omega) ?_
 rw[hZ0]
 cbv
 refine lpb Nat (fun i=>i<=n) (fun i=>n-i) (fun i=> [(4,.int .i64 (.ofNat i))]) [0,2,3] (fun i=> [(0,Z i)]) 0 (Nat.zero_le _) ?_ ?_
 ·exact wkih (by repeat' (first|exact trivial|refine⟨rfl,rfl,rfl,?_⟩|refine⟨rfl,rfl,bZ 1 0,?_⟩))
 intro i hi
 by_cases hlt:i<n
 ·obtain⟨n1,hn1⟩:=exq (n-1)
  obtain⟨k,hk⟩:=exq (n-1-i)
  obtain⟨q,hq⟩:=exq (k/8)
  obtain⟨r8,hr8⟩:=exq (k%8)
  obtain⟨r,hr⟩:=exq (4*r8)
  have hqc:q<c:=by omega
  obtain⟨t1,t2,t3⟩:=hst i k q r hlt hk hq (by rw[hr,hr8])
  obtain⟨d,hd⟩:=exq (Dd k)
  have ld:d<16:=by rw[hd];exact lDd k
  obtain⟨ch,hch⟩:=exq ((hexc d).toNat)
  have hch2:ch=if d<10 then 48+d else 87+d:=by rw[hch];exact hexc_nat ld
  have hsi:=es i (hexc d) (by rw[hd];exact hes i k hlt hk)
  rw[<-hch]at hsi
  rw[<-hd]at t1 t2 t3
  obtain⟨O,hO⟩:=exq (dg (T i) q)
  have gO:=e5 i q hqc
  rw[<-hO]at t1 t2 t3 gO
  obtain⟨y,hy⟩:=exq (d*2^r)
  obtain⟨w,hw⟩:=exq (O+y)
  rw[<-hy]at t1 t2 t3
  rw[<-hw]at t1 t2 t3
  have hdc:=hdg d ch ld hch2
  have g1:bin .sub .i64 (.ofNat n) 1=Int.ofNat n1:=(subI hA (a:=n) (b:=1) (by omega) (by omega)).trans (by rw[hn1])
  have g2:bin .sub .i64 (.ofNat n1) (.ofNat i)=Int.ofNat k:=(subI hA (a:=n1) (b:=i) (by omega) (by omega)).trans (by rw[hk,hn1])
  have g3:bin .quo .i64 (.ofNat k) 8=Int.ofNat q:=(quoI hA (a:=k) (b:=8) (by omega)).trans (by rw[hq])
  have g4:bin .rem .i64 (.ofNat k) 8=Int.ofNat r8:=(remW hA k 8).trans (by rw[hr8])
  have g5:bin .mul .i64 (.ofNat r8) 4=Int.ofNat r:=(mulI hA (a:=r8) (b:=4) (by omega)).trans (by rw[hr,Nat.mul_comm])
  have g6:nn (.ofNat r)=true:=nn_t hA r
  have g7:sh .shl .u32 (.ofNat d) (.ofNat r)=Int.ofNat y:=(shlW hA (k:= .u32) rfl d (s:=r) (by show r<=32;omega)).trans (congrArg Int.ofNat (by rw[<-hy];exact Nat.mod_eq_of_lt (by show y<4294967296;omega)))
  have g8:bin .or .u32 (.ofNat O) (.ofNat y)=Int.ofNat w:=(orW hA (k:= .u32) rfl (a:=O) (b:=y) (by show O<4294967296;omega) (by show y<4294967296;omega)).trans (congrArg Int.ofNat t2)
  have g9:=e6 i q w hqc (funext t1)
  have g10:=e8 i hlt
  obtain⟨Zn,hZn⟩:=exq (Z (i+1))
  rw[<-hZn]at g9
  have bZn:∀m,bdLB m Zn=true:=fun m=>by rw[hZn];exact bZ m _
  cbv
  rw[en]
  cbv
  rw[e7 i hlt]
  cbv
  rw[en,g1,g2]
  cbv
  refine reg_A (hP▸tblOk) hA hg (hP▸mixed) rfl rfl ?_
  cbv
  rw[g3]
  cbv
  rw[e4 q c hqc]
  cbv
  rw[e3,gO]
  cbv
  rw[hsi]
  cbv
  refine sdv hg hdc ?_
  cbv
  rw[g4]
  cbv
  rw[g5]
  cbv
  rw[g6]
  cbv
  rw[g7]
  cbv
  rw[g8]
  cbv
  rw[e4 q c hqc]
  cbv
  rw[e3,g9]
  cbv
  rw[g10]
  refine⟨i+1,_root_.id,hlt,(by show n-(i+1)<n-i;omega),?_⟩
  rw[<-hZn]
  exact wkih (by repeat' (first|exact trivial|refine⟨rfl,rfl,rfl,?_⟩|refine⟨rfl,rfl,bZn 1,?_⟩))
 ·have hin:n=i:=by omega
  subst hin
  cbv
  rw[en]
  cbv
  rw[e7f]
  cbv
  refine cgn rfl hg rfl rfl hSh (fun _=>0) rfl (ft1 (bZ 0 n) rfl) rfl rfl rfl ?_
  rintro _ _ _ ⟨rfl,rfl,rfl⟩ _
  refine⟨rfl,?_⟩
  simp only[renB,rcl (Z n) (bZ 0 n)]
  cbv
  exact hK _ _ _ ⟨rfl,rfl⟩
end
def minusS:ByteArray:=⟨⟨[45]⟩⟩
def rowRA(k:Nat):ByteArray:=if rowAL k=0 then minusS else hexS (rowA k) (rowAL k)
theorem mRow{P:Program}(hP:P=Tryz.prog)(k:Nat)(hk:1<=k/\k<=15)(p a b n x y:ByteArray)(hp:p=hexS (primeN k) (primeL k))(ha:a=rowRA k)(hb:b=hexS (rowB k) (rowBL k))(hn:n=hexS (rowN k) (rowNL k))(hx:x=hexS (rowX k) (rowXL k))(hy:y=hexS (rowY k) (rowYL k)):
 Con P 37 [.int .i64 (.ofNat k)] [] 0 [] (fun w L q=>w= .slice 0 0 6 6/\L=[⟨0,[.str p,.str a,.str b,.str n,.str x,.str y],9⟩]/\q=1):=by
 have:k=1\/k=2\/k=3\/k=4\/k=5\/k=6\/k=7\/k=8\/k=9\/k=10\/k=11\/k=12\/k=13\/k=14\/k=15:=by omega
 refine cof hP Tryz.func37 (bdb _ rfl) (bkb rfl) ?_
 intro A g K hA hg hK
 obtain⟨_,_,cmp⟩:=A
 have f:∀y z,cmp .eql y z=decide (y=z):=fun y z=>congrFun (congrFun (congrFun (cmp_of hA) .eql) y) z
 rcases this with rfl|rfl|rfl|rfl|rfl|rfl|rfl|rfl|rfl|rfl|rfl|rfl|rfl|rfl|rfl<;>(cbv;repeat (rw[f];cbv))<;>exact hK _ _ _ ⟨rfl,by rw[hp,ha,hb,hn,hx,hy];kernel_rfl,rfl⟩
theorem mRow0{P:Program}(hP:P=Tryz.prog)(i:Int)(h:∀k:Nat,1<=k->k<=15->i≠Int.ofNat k):Con P 37 [.int .i64 i] [] 0 [] (fun w _ _=>w= .nils):=by
 refine cof hP Tryz.func37 (bdb _ rfl) (bkb rfl) ?_
 intro A g K hA hg hK
 obtain⟨_,_,cmp⟩:=A
 have f:∀z:Nat,1<=z->z<=15->cmp .eql i (Int.ofNat z)=false:=fun z h1 h2=>(congrFun (congrFun (congrFun (cmp_of hA) .eql) i) (Int.ofNat z)).trans (decide_eq_false (h z h1 h2))
 have g1:cmp .eql i 1=false:=f 1 (by decide) (by decide)
 have g2:cmp .eql i 2=false:=f 2 (by decide) (by decide)
 have g3:cmp .eql i 3=false:=f 3 (by decide) (by decide)
 have g4:cmp .eql i 4=false:=f 4 (by decide) (by decide)
 have g5:cmp .eql i 5=false:=f 5 (by decide) (by decide)
 have g6:cmp .eql i 6=false:=f 6 (by decide) (by decide)
 have g7:cmp .eql i 7=false:=f 7 (by decide) (by decide)
 have g8:cmp .eql i 8=false:=f 8 (by decide) (by decide)
 have g9:cmp .eql i 9=false:=f 9 (by decide) (by decide)
 have g10:cmp .eql i 10=false:=f 10 (by decide) (by decide)
 have g11:cmp .eql i 11=false:=f 11 (by decide) (by decide)
 have g12:cmp .eql i 12=false:=f 12 (by decide) (by decide)
 have g13:cmp .eql i 13=false:=f 13 (by decide) (by decide)
 have g14:cmp .eql i 14=false:=f 14 (by decide) (by decide)
 have g15:cmp .eql i 15=false:=f 15 (by decide) (by decide)
 cbv
 rw[g1];cbv
 rw[g2];cbv
 rw[g3];cbv
 rw[g4];cbv
 rw[g5];cbv
 rw[g6];cbv
 rw[g7];cbv
 rw[g8];cbv
 rw[g9];cbv
 rw[g10];cbv
 rw[g11];cbv
 rw[g12];cbv
 rw[g13];cbv
 rw[g14];cbv
 rw[g15];cbv
 exact hK _ _ _ rfl
theorem primeB_none(i:Int)(h:∀k:Nat,1<=k->k<=15->i≠Int.ofNat k):primeB i=⟨⟨[]⟩⟩:=by
 unfold primeB
 rw[if_neg (show i≠1 from h 1 (by decide) (by decide)),if_neg (show i≠2 from h 2 (by decide) (by decide)),if_neg (show i≠3 from h 3 (by decide) (by decide)),if_neg (show i≠4 from h 4 (by decide) (by decide)),if_neg (show i≠5 from h 5 (by decide) (by decide)),if_neg (show i≠6 from h 6 (by decide) (by decide)),if_neg (show i≠7 from h 7 (by decide) (by decide)),if_neg (show i≠8 from h 8 (by decide) (by decide)),if_neg (show i≠9 from h 9 (by decide) (by decide)),if_neg (show i≠10 from h 10 (by decide) (by decide)),if_neg (show i≠11 from h 11 (by decide) (by decide)),if_neg (show i≠12 from h 12 (by decide) (by decide)),if_neg (show i≠13 from h 13 (by decide) (by decide)),if_neg (show i≠14 from h 14 (by decide) (by decide)),if_neg (show i≠15 from h 15 (by decide) (by decide))]
end Go.Proofs.YtdhmihfefgcbeaaGreat
