/-
  This text proves what these texts prove: Pa, Pb, Pc, Pd, Pe, Pg, Pj, Pk, Pl, Pm, Pn. Conditions: those of each theorem.
-/
import Derived.Test.YtdhmihfefgcbeaaGreatT21
set_option maxHeartbeats 8000000
set_option linter.all false
namespace Go.Vg
open Go.RowKit Go.Lib
def hs(f:Nat->Nat)(c:Nat):List SV:=lst .u32 (fun j=>Int.ofNat (f j)) 0 c
theorem hs_bd(f:Nat->Nat)(c m:Nat):bdLB m (hs f c)=true:=lst_bd m .u32 _ 0 c
theorem hs_zero(m:Nat):List.replicate m (SV.int .u32 0)=hs (fun _=>0) m:=by
 have:∀m s,List.replicate m (SV.int .u32 0)=lst .u32 (fun _=>Int.ofNat 0) s m:=fun m=>by
  induction m with
  |zero=>intro s;rfl
  |succ m ih=>intro s;rw[List.replicate_succ,ih (s+1)];rfl
 exact this m 0
theorem hs_congr{f g:Nat->Nat}{c:Nat}(h:∀j,j<c->f j=g j):hs f c=hs g c:=lcg fun j _ hj=>by rw[h j (by omega)]
structure Nm(n c:Nat)(f:Nat->Nat)(x:Nat):Prop where
 le:n<=c
 w:∀j,j<c->f j<4294967296
 v:Dg.num 4294967296 f n=x
 tr:n=0\/f (n-1)≠0
def tl(f:Nat->Nat):Nat->Nat
 |0=>0
 |m+1=>if f m=0 then tl f m else m+1
theorem tl_le(f:Nat->Nat):∀m,tl f m<=m
 |0=>Nat.le_refl _
 |m+1=>by unfold tl;split;exact Nat.le_succ_of_le (tl_le f m);exact Nat.le_refl _
theorem tl_tr(f:Nat->Nat):∀m,tl f m=0\/f (tl f m-1)≠0
 |0=>Or.inl rfl
 |m+1=>by
  unfold tl;split
  ·exact tl_tr f m
  ·rename_i h;exact Or.inr h
theorem tl_zero(f:Nat->Nat):∀m j,tl f m<=j->j<m->f j=0
 |0,_,_,h=>absurd h (Nat.not_lt_zero _)
 |m+1,j,h1,h2=>by
  unfold tl at h1;split at h1
  ·rcases Nat.lt_or_ge j m with h3|h3
   ·exact tl_zero f m j h1 h3
   ·rw[show j=m by omega];assumption
  ·omega
theorem tl_num(b:Nat)(f:Nat->Nat)(m:Nat):Dg.num b f (tl f m)=Dg.num b f m:=by
 have h:=Dg.num_zero (b:=b) f (tl f m) (m-tl f m) (fun i h1 h2=>tl_zero f m i h1 (by have:=tl_le f m;omega))
 rw[<-h,Nat.add_sub_cancel' (tl_le f m)]
theorem Nm.of{f:Nat->Nat}{m c:Nat}(hm:m<=c)(hw:∀j,j<c->f j<4294967296):Nm (tl f m) c f (Dg.num 4294967296 f m):=
 ⟨Nat.le_trans (tl_le f m) hm,hw,tl_num _ f m,tl_tr f m⟩
def IsSz(n x:Nat):Prop:=x<4294967296^n/\(n=0\/4294967296^(n-1)<=x)
theorem IsSz.uniq{n m x:Nat}(h:IsSz n x)(g:IsSz m x):n=m:=by
 have key:∀ {a b:Nat},IsSz a x->IsSz b x->¬a<b:=fun {a b} ha hb hlt=>by
  rcases hb.2 with h0|h0
  ·omega
  ·exact absurd (Nat.lt_of_lt_of_le ha.1 (Nat.pow_le_pow_right (by decide) (show a<=b-1 by omega))) (Nat.not_lt.2 h0)
 have h1:=key h g
 have h2:=key g h
 omega
theorem Nm.lt{n c x:Nat}{f:Nat->Nat}(h:Nm n c f x):x<4294967296^n:=by
 rw[<-h.v];exact Dg.num_lt n fun i hi=>h.w i (Nat.lt_of_lt_of_le hi h.le)
theorem Nm.sz{n c x:Nat}{f:Nat->Nat}(h:Nm n c f x):IsSz n x:=by
 refine⟨h.lt,?_⟩
 cases n with
 |zero=>exact Or.inl rfl
 |succ n=>
  right
  rcases h.tr with h0|h0
  ·omega
  ·rw[<-h.v]
   simp only[Nat.add_sub_cancel]at h0⊢
   show _<=Dg.num 4294967296 f n+f n*4294967296^n
   have:1*4294967296^n<=f n*4294967296^n:=Nat.mul_le_mul_right _ (by omega)
   omega
def dg(x:Nat):Nat->Nat:=Dg.dig 4294967296 x
theorem dg_lt(x j:Nat):dg x j<4294967296:=Dg.dig_lt (by decide) x j
def sz(x:Nat):Nat:=tl (dg x) x
theorem nm_dg0{x k:Nat}(h:x<4294967296^k):Nm (tl (dg x) k) k (dg x) x:=by
 have h1:=Nm.of (f:=dg x) (Nat.le_refl k) (fun j _=>dg_lt x j)
 have h2:Dg.num 4294967296 (dg x) k=x:=(Dg.num_dig (by decide) x k).trans (Nat.mod_eq_of_lt h)
 rwa [h2]at h1
theorem nm_dg{x k:Nat}(h:x<4294967296^k):Nm (sz x) k (dg x) x:=by
 have h1:=nm_dg0 h
 have h2:=nm_dg0 (x:=x) (k:=x) (Nat.lt_of_lt_of_le (Nat.lt_two_pow_self) (Nat.pow_le_pow_left (by decide) x))
 have h3:tl (dg x) k=sz x:=h1.sz.uniq h2.sz
 rwa [h3]at h1
theorem tl_dg{x k:Nat}(h:x<4294967296^k):tl (dg x) k=sz x:=(nm_dg0 h).sz.uniq (nm_dg h).sz
theorem Nm.n_le{n c x k:Nat}{f:Nat->Nat}(h:Nm n c f x)(hx:x<4294967296^k):n<=k:=by
 rcases h.sz.2 with h0|h0
 ·omega
 ·rcases Nat.lt_or_ge k n with h1|h1
  ·exact absurd (Nat.lt_of_le_of_lt h0 hx) (Nat.not_lt.2 (Nat.pow_le_pow_right (by decide) (by omega)))
  ·exact h1
theorem Nm.zero{n c x:Nat}{f:Nat->Nat}(h:Nm n c f x):n=0↔x=0:=by
 constructor
 ·intro h0;have:=h.lt;rw[h0]at this;omega
 ·intro h0;exact Nat.le_zero.1 (h.n_le (k:=0) (by rw[h0];decide))
theorem Nm.dig{n c x:Nat}{f:Nat->Nat}(h:Nm n c f x){i:Nat}(hi:i<n):f i=dg x i:=by
 rw[<-h.v];exact(Dg.dig_num (by decide) n (fun j hj=>h.w j (Nat.lt_of_lt_of_le hj h.le)) i hi).symm
theorem Nm.digz{n c x:Nat}{f:Nat->Nat}(h:Nm n c f x){i:Nat}(hi:n<=i):dg x i=0:=Dg.dig_big (by decide) h.lt hi
theorem num_cmp{b:Nat}{f g:Nat->Nat}{n t:Nat}(ht:t<n)(hf:∀j,j<n->f j<b)(he:∀s,t<s->s<n->f s=g s)(hlt:f t<g t):Dg.num b f n<Dg.num b g n:=by
 have key:∀ (h:Nat->Nat),Dg.num b h n=Dg.num b h t+(h t+Dg.num b (fun i=>h (t+1+i)) (n-(t+1))*b)*b^t:=fun h=>by
  have h1:=Dg.num_split (b:=b) h (t+1) (n-(t+1))
  rw[show t+1+(n-(t+1))=n by omega]at h1
  rw[h1]
  show Dg.num b h t+h t*b^t+_=_
  rw[Nat.pow_succ,Nat.add_mul,Nat.mul_assoc,Nat.mul_comm (b^t) b,Nat.add_assoc]
 rw[key f,key g]
 have h2:Dg.num b (fun i=>f (t+1+i)) (n-(t+1))=Dg.num b (fun i=>g (t+1+i)) (n-(t+1)):=Dg.num_congr _ fun i hi=>he _ (by omega) (by omega)
 rw[h2]
 generalize Dg.num b (fun i=>g (t+1+i)) (n-(t+1))*b=Z
 have h3:Dg.num b f t<b^t:=Dg.num_lt t fun i hi=>hf i (by omega)
 have h4:(f t+1+Z)*b^t<=(g t+Z)*b^t:=Nat.mul_le_mul_right _ (by omega)
 have h5:(f t+1+Z)*b^t=(f t+Z)*b^t+b^t:=by rw[show f t+1+Z=f t+Z+1 by omega,Nat.succ_mul]
 omega
end Go.Vg
namespace Go.Proofs.YtdhmihfefgcbeaaGreat
open Go.Vg Go.RowKit
set_option maxRecDepth 200000
set_option cbv.maxSteps 100000000
theorem cTrim{P:Program}(hP:P=Tryz.prog)(f:Nat->Nat)(m c r:Nat)(hm:m<=c)(hm2:m<2^40)(hr:r=tl f m):Con P 42 [.slice 0 0 m c] [⟨0,hs f c,58⟩] 1 [] (fun w _ _=>w= .slice 0 0 r c):=by
 obtain⟨C,hC⟩:=exq (hs f c)
 have bC:∀m,bdLB m C=true:=fun m=>by rw[hC];exact hs_bd f c m
 rw[<-hC]
 refine cof hP Tryz.func42 ⟨blq rfl,trivial⟩ (by simpa [bdL,bd]using bdb _ (bC 1)) ?_
 intro A g K hA hg hK
 obtain⟨bin,_,cmp,_,_,ix,_,_,_,_,_,_,_,_,nat,off,get,_,sub⟩:=A
 have f1:∀k,0<k->cmp .gtr (.ofNat k) 0=true:=fun k h=>gtr_t hA (b:=0) h
 have f1f:∀k,¬0<k->cmp .gtr (.ofNat k) 0=false:=fun k h=>gtr_f hA (b:=0) h
 have f2:∀k l,k=l+1->k<=m->bin .sub .i64 (.ofNat k) 1=Int.ofNat l:=fun k l h h2=>(subI hA (a:=k) (b:=1) (by omega) (by omega)).trans (by rw[h,Nat.add_sub_cancel])
 have f3:∀k,k<m->ix (.ofNat k) m=some k:=fun k h=>ix_of hA h
 have f4:∀k,off 0 k 1=k:=fun k=>(off_of hA 0 k 1).trans (by omega)
 have f5:∀k,k<c->get C k=some (.int .u32 (.ofNat (f k))):=fun k h=>by rw[hC];exact getW hA .u32 f h
 have f6:∀k,f k=0->cmp .eql (.ofNat (f k)) 0=true:=fun k h=>eql_t hA (b:=0) h
 have f6f:∀k,f k≠0->cmp .eql (.ofNat (f k)) 0=false:=fun k h=>eql_f hA (b:=0) h
 have e0:nat m=Int.ofNat m:=nat_of hA m
 have hSl:∀k,k<=m->SlR P 27 (.slice 0 0 m c) none (some (.i64,Int.ofNat k)) (.slice 0 0 k c):=fun k h=>slr_h (hP▸tblOk) (show tyT 27=some _ from rfl) rfl 0 0 m c (j:=k) (by omega)
 clear hC
 cbv
 rw[e0]
 refine lpb Nat (fun k=>k<=m/\tl f k=r) (fun k=>k) (fun k=> [(3,.int .i64 (.ofNat k))]) [0,2] (fun _=> []) m ⟨Nat.le_refl _,hr.symm⟩ ?_ ?_
 ·exact wkih (by repeat' (first|exact trivial|refine⟨rfl,rfl,rfl,?_⟩|refine⟨rfl,rfl,bC 1,?_⟩))
 rintro k ⟨hk,ht⟩
 by_cases h0:0<k
 ·obtain⟨l,hl⟩:∃l,k=l+1:=⟨k-1,by omega⟩
  by_cases hz:f l=0
  ·cbv
   rw[f1 k h0]
   cbv
   rw[f2 k l hl hk]
   cbv
   rw[f3 l (by omega)]
   cbv
   rw[f4,f5 l (by omega)]
   cbv
   rw[f6 l hz]
   cbv
   rw[f2 k l hl hk]
   refine⟨l,_root_.id,⟨by omega,?_⟩,(by omega),?_⟩
   ·rw[<-ht,hl,show tl f (l+1)=if f l=0 then tl f l else l+1 from rfl,if_pos hz]
   exact wkih (by repeat' (first|exact trivial|refine⟨rfl,rfl,rfl,?_⟩|refine⟨rfl,rfl,bC 1,?_⟩))
  ·cbv
   rw[f1 k h0]
   cbv
   rw[f2 k l hl hk]
   cbv
   rw[f3 l (by omega)]
   cbv
   rw[f4,f5 l (by omega)]
   cbv
   rw[f6f l hz]
   cbv
   refine ssl hg rfl rfl rfl rfl rfl (hSl k hk) ?_
   cbv
   refine hK _ _ _ ?_
   rw[<-ht,hl,show tl f (l+1)=if f l=0 then tl f l else l+1 from rfl,if_neg hz]
   rfl
 ·have hkr:k=r:=by rw[<-ht,show k=0 by omega];rfl
  cbv
  rw[f1f k h0]
  cbv
  refine ssl hg rfl rfl rfl rfl rfl (hSl k hk) ?_
  cbv
  refine hK _ _ _ ?_
  rw[hkr]
  rfl
theorem cRDigit{P:Program}(hP:P=Tryz.prog)(f:Nat->Nat)(n c i d:Nat)(hn:n<=c)(hw:∀j,j<c->f j<4294967296)(hd:d=if i<n then f i else 0):Con P 49 [.slice 0 0 n c,.int .i64 (.ofNat i)] [⟨0,hs f c,58⟩] 1 [] (fun w _ _=>w= .int .u64 (.ofNat d)):=by
 obtain⟨C,hC⟩:=exq (hs f c)
 have bC:∀m,bdLB m C=true:=fun m=>by rw[hC];exact hs_bd f c m
 rw[<-hC]
 refine cof hP Tryz.func49 ⟨blq rfl,⟨trivial,trivial⟩⟩ (by simpa [bdL,bd]using bdb _ (bC 1)) ?_
 intro A g K hA hg hK
 obtain⟨_,_,cmp,_,cvt,ix,_,_,_,_,_,_,_,_,nat,off,get⟩:=A
 have e0:nat n=Int.ofNat n:=nat_of hA n
 have f4:off 0 i 1=i:=(off_of hA 0 i 1).trans (by omega)
 cbv
 rw[e0]
 by_cases h:i<n
 ·have f1:cmp .lss (.ofNat i) (.ofNat n)=true:=lss_t hA h
  have f3:ix (.ofNat i) n=some i:=ix_of hA h
  have f5:get C i=some (.int .u32 (.ofNat (f i))):=by rw[hC];exact getW hA .u32 f (by omega)
  have f6:cvt .u64 (.ofNat (f i))=Int.ofNat (f i):=cvtI hA (fun h=>by cases h) (fun _=>by have:=hw i (by omega);show f i<0x10000000000000000;omega)
  clear hC
  rw[f1]
  cbv
  rw[f3]
  cbv
  rw[f4,f5]
  cbv
  rw[f6]
  refine hK _ _ _ ?_
  rw[hd,if_pos h]
  rfl
 ·rw[show cmp .lss (.ofNat i) (.ofNat n)=false from lss_f hA h]
  cbv
  refine hK _ _ _ ?_
  rw[hd,if_neg h]
  rfl
theorem cRDigitN{P:Program}(hP:P=Tryz.prog)(i:Nat):Con P 49 [.nils,.int .i64 (.ofNat i)] [] 0 [] (fun w _ _=>w= .int .u64 0):=by
 refine cof hP Tryz.func49 (bdb _ rfl) (bkb rfl) ?_
 intro A g K hA hg hK
 obtain⟨_,_,cmp⟩:=A
 cbv
 rw[show cmp .lss (.ofNat i) 0=false from lss_f hA (b:=0) (Nat.not_lt_zero i)]
 cbv
 exact hK _ _ _ rfl
theorem cRCmp{P:Program}(hP:P=Tryz.prog){n c x m e y:Nat}{f u:Nat->Nat}(hx:Nm n c f x)(hy:Nm m e u y)(hn:n<2^40)(r:Int)(h1:x<y->r= -1)(h2:x=y->r=0)(h3:y<x->r=1):
 Con P 43 [.slice 0 0 n c,.slice 1 0 m e] [⟨0,hs f c,58⟩,⟨1,hs u e,58⟩] 2 [] (fun w _ _=>w= .int .i64 r):=by
 obtain⟨C,hC⟩:=exq (hs f c)
 have bC:∀m,bdLB m C=true:=fun m=>by rw[hC];exact hs_bd f c m
 obtain⟨E,hE⟩:=exq (hs u e)
 have bE:∀m,bdLB m E=true:=fun m=>by rw[hE];exact hs_bd u e m
 rw[<-hC,<-hE]
 obtain⟨IV,hIV⟩:=exq (fun j:Nat=>(n:Int)-1-(j:Int):Nat->Int)
 have iv:∀j,j<n->IV j=Int.ofNat (n-1-j):=fun j h=>by rw[hIV];show(n:Int)-1-(j:Int)=((n-1-j:Nat):Int);omega
 have ivn:IV n= -1:=by rw[hIV];show(n:Int)-1-(n:Int)= -1;omega
 have iv0:IntKind.i64.wrap ((n:Int)-1)=IV 0:=by rw[hIV,IntKind.wrap_i64];show _=(n:Int)-1-((0:Nat):Int);omega
 refine cof hP Tryz.func43 ⟨blq rfl,⟨blq rfl,trivial⟩⟩ (by simpa [bdL,bd]using⟨bdb _ (bC 2),bdb _ (bE 2)⟩) ?_
 intro A g K hA hg hK
 obtain⟨bin,_,cmp,_,_,ix,_,_,_,_,_,_,_,_,nat,off,get,_,sub⟩:=A
 have e0:∀n,nat n=Int.ofNat n:=fun n=>nat_of hA n
 have hb:bin=intBin:=bin_of hA
 have e1:bin .sub .i64 (.ofNat n) 1=IV 0:=by rw[hb];exact iv0
 have e2:∀j,j<n->bin .sub .i64 (IV j) 1=IV (j+1):=fun j h=>by
  rw[hb,hIV]
  show IntKind.i64.wrap ((n:Int)-1-(j:Int)-1)=(n:Int)-1-((j+1:Nat):Int)
  rw[IntKind.wrap_i64];omega
 have e3:∀j,cmp .geq (.ofNat j) 0=true:=fun j=>geq_t hA (b:=0) (Nat.zero_le _)
 have e3f:cmp .geq (-1) 0=false:=(congrFun (congrFun (congrFun (cmp_of hA) .geq) (-1)) 0).trans rfl
 have e4:∀j,off 0 j 1=j:=fun j=>(off_of hA 0 j 1).trans (by omega)
 have f5:∀k,k<c->get C k=some (.int .u32 (.ofNat (f k))):=fun k h=>by rw[hC];exact getW hA .u32 f h
 have g5:∀k,k<e->get E k=some (.int .u32 (.ofNat (u k))):=fun k h=>by rw[hE];exact getW hA .u32 u h
 have hnc:=hx.le
 have hme:=hy.le
 clear hC hE
 cbv
 rw[e0,e0]
 by_cases hnm:n=m
 ·rw[show cmp .neq (.ofNat n) (.ofNat m)=false from neq_f hA hnm]
  cbv
  rw[e0,e1]
  refine lpb Nat (fun j=>j<=n/\∀t,n-j<=t->t<n->f t=u t) (fun j=>n-j) (fun j=> [(5,.int .i64 (IV j))]) [0,1,4] (fun _=> []) 0 ⟨Nat.zero_le _,fun t h1 h2=>by omega⟩ ?_ ?_
  ·exact wkih (by repeat' (first|exact trivial|refine⟨rfl,rfl,rfl,?_⟩|refine⟨rfl,rfl,bC 2,?_⟩|refine⟨rfl,rfl,bE 2,?_⟩))
  rintro j ⟨hj,hje⟩
  by_cases hjn:j<n
  ·obtain⟨t,ht⟩:=exq (n-1-j)
   have hiv:=iv j hjn
   rw[<-ht]at hiv
   have htx:ix (.ofNat t) n=some t:=ix_of hA (by omega)
   have hty:ix (.ofNat t) m=some t:=ix_of hA (by omega)
   have g1:=e3 t
   have g2:=e2 j hjn
   have c1:=f5 t (by omega)
   have c2:=g5 t (by omega)
   rw[hiv]at g2
   rw[hiv]
   cbv
   rw[g1]
   cbv
   refine rgM hP hA hg fun mk _=> ?_
   cbv
   rw[htx]
   cbv
   rw[e4,c1]
   cbv
   rw[hty]
   cbv
   rw[e4,c2]
   cbv
   by_cases hfu:f t=u t
   ·rw[show cmp .neq (.ofNat (f t)) (.ofNat (u t))=false from neq_f hA hfu]
    cbv
    rw[g2]
    refine⟨j+1,_root_.id,⟨hjn,fun t' h3 h4=> ?_⟩,(by omega),?_⟩
    ·by_cases h:t'=t
     ·rw[h,hfu]
     ·exact hje t' (by omega) h4
    exact wkih (by repeat' (first|exact trivial|refine⟨rfl,rfl,rfl,?_⟩|refine⟨rfl,rfl,bC 2,?_⟩|refine⟨rfl,rfl,bE 2,?_⟩))
   ·have hlt:f t<u t->x<y:=fun h=>by
     rw[<-hx.v,<-hy.v,<-hnm];exact num_cmp (t:=t) (by omega) (fun i hi=>hx.w i (by omega)) (fun s h3 h4=>hje s (by omega) h4) h
    have hgt:u t<f t->y<x:=fun h=>by
     rw[<-hx.v,<-hy.v,<-hnm];exact num_cmp (t:=t) (by omega) (fun i hi=>hy.w i (by omega)) (fun s h3 h4=>(hje s (by omega) h4).symm) h
    rw[show cmp .neq (.ofNat (f t)) (.ofNat (u t))=true from neq_t hA hfu]
    cbv
    refine rgM hP hA hg fun mk _=> ?_
    cbv
    rw[htx]
    cbv
    rw[e4,c1]
    cbv
    rw[hty]
    cbv
    rw[e4,c2]
    cbv
    by_cases hl:f t<u t
    ·rw[show cmp .lss (.ofNat (f t)) (.ofNat (u t))=true from lss_t hA hl]
     cbv
     refine hK _ _ _ ?_
     rw[h1 (hlt hl)]
     rfl
    ·rw[show cmp .lss (.ofNat (f t)) (.ofNat (u t))=false from lss_f hA hl]
     cbv
     refine hK _ _ _ ?_
     rw[h3 (hgt (by omega))]
     rfl
  ·have hxy:x=y:=by
    rw[<-hx.v,<-hy.v,<-hnm];exact Dg.num_congr n fun t ht=>hje t (by omega) ht
   obtain rfl:j=n:=by omega
   rw[ivn]
   cbv
   rw[e3f]
   cbv
   refine hK _ _ _ ?_
   rw[h2 hxy]
   rfl
 ·rw[show cmp .neq (.ofNat n) (.ofNat m)=true from neq_t hA hnm]
  cbv
  by_cases hlt:n<m
  ·have hxy:x<y:=by
    rcases hy.sz.2 with h0|h0
    ·omega
    ·exact Nat.lt_of_lt_of_le hx.lt (Nat.le_trans (Nat.pow_le_pow_right (by decide) (by omega)) h0)
   rw[e0,e0,show cmp .lss (.ofNat n) (.ofNat m)=true from lss_t hA hlt]
   cbv
   refine hK _ _ _ ?_
   rw[h1 hxy]
   rfl
  ·have hxy:y<x:=by
    rcases hx.sz.2 with h0|h0
    ·omega
    ·exact Nat.lt_of_lt_of_le hy.lt (Nat.le_trans (Nat.pow_le_pow_right (by decide) (by omega)) h0)
   rw[e0,e0,show cmp .lss (.ofNat n) (.ofNat m)=false from lss_f hA hlt]
   cbv
   refine hK _ _ _ ?_
   rw[h3 hxy]
   rfl
end Go.Proofs.YtdhmihfefgcbeaaGreat
namespace Go.Vg
open Go.RowKit Go.Lib
theorem dig_mod(b z i:Nat):z%b^(i+1)=z%b^i+Dg.dig b z i*b^i:=by
 rw[Nat.mod_pow_succ,Nat.mul_comm];rfl
def boA(x y i:Nat):Nat:=if x%4294967296^i<y%4294967296^i then 1 else 0
theorem boA_zero(x y:Nat):boA x y 0=0:=by simp[boA,Nat.mod_one]
theorem boA_le(x y i:Nat):boA x y i<=1:=by unfold boA;split<;>omega
theorem difDig{x y:Nat}(i:Nat)(hxy:y<=x)(s:Nat)(hs:s=dg x i+4294967296-dg y i-boA x y i):dg (x-y) i=s%4294967296/\boA x y (i+1)=1-s/4294967296:=by
 have hp:0<4294967296^i:=Nat.pow_pos (by decide)
 have lx:=dg_lt x i
 have ly:=dg_lt y i
 have lb:=boA_le x y i
 have hX:x%4294967296^(i+1)=x%4294967296^i+dg x i*4294967296^i:=dig_mod _ _ _
 have hY:y%4294967296^(i+1)=y%4294967296^i+dg y i*4294967296^i:=dig_mod _ _ _
 have hbe:boA x y i=if x%4294967296^i<y%4294967296^i then 1 else 0:=rfl
 have mx:=Nat.mod_lt x hp
 have my:=Nat.mod_lt y hp
 have dx:=Nat.div_add_mod x (4294967296^i)
 have dy:=Nat.div_add_mod y (4294967296^i)
 have ex:dg x i=x/4294967296^i%4294967296:=rfl
 have ey:dg y i=y/4294967296^i%4294967296:=rfl
 have ez:dg (x-y) i=(x-y)/4294967296^i%4294967296:=rfl
 have hb1:boA x y (i+1)=if x%4294967296^i+dg x i*4294967296^i<y%4294967296^i+dg y i*4294967296^i then 1 else 0:=by unfold boA;rw[hX,hY]
 generalize boA x y (i+1)=b' at *
 generalize boA x y i=b at *
 generalize dg (x-y) i=z at *
 generalize dg x i=a at *
 generalize dg y i=e at *
 generalize 4294967296^i=Q at *
 generalize x%Q=X at *
 generalize y%Q=Y at *
 generalize x/Q=p at *
 generalize y/Q=q at *
 clear hX hY
 -- p - q - b is the quotient
 have hZ:x-y=(X+b*Q-Y)+(p-q-b)*Q/\X+b*Q-Y<Q/\q+b<=p:=by
  have hpq:q+b<=p:=by
   rcases Nat.lt_or_ge p (q+b)with h|h
   ·exfalso
    have h1:Q*(p+1)<=Q*(q+b):=Nat.mul_le_mul_left _ h
    rw[Nat.mul_add,Nat.mul_add,Nat.mul_one]at h1
    split at hbe
    ·subst hbe;rw[Nat.mul_one]at h1;omega
    ·subst hbe;rw[Nat.mul_zero]at h1;omega
   ·exact h
  obtain⟨t,rfl⟩:∃t,p=q+b+t:=⟨p-(q+b),by omega⟩
  rw[show q+b+t-q-b=t by omega]
  rw[Nat.mul_add,Nat.mul_add,Nat.mul_comm Q b,Nat.mul_comm Q t]at dx
  split at hbe
  ·subst hbe;rw[Nat.one_mul]at *;omega
  ·subst hbe;rw[Nat.zero_mul]at *;omega
 have hzq:(x-y)/Q=p-q-b:=by
  rw[hZ.1,Nat.add_mul_div_right _ _ (by omega),Nat.div_eq_of_lt hZ.2.1,Nat.zero_add]
 rw[hzq]at ez
 refine⟨by omega,?_⟩
 have hcmp:(X+a*Q<Y+e*Q)↔a<e+b:=by
  constructor
  ·intro h
   rcases Nat.lt_or_ge a (e+b)with h1|h1
   ·exact h1
   ·exfalso
    have h2:(e+b)*Q<=a*Q:=Nat.mul_le_mul_right _ h1
    rw[Nat.add_mul]at h2
    split at hbe
    ·subst hbe;rw[Nat.one_mul]at h2;omega
    ·subst hbe;rw[Nat.zero_mul]at h2;omega
  ·intro h
   split at hbe
   ·subst hbe
    have h2:a*Q<=e*Q:=Nat.mul_le_mul_right _ (by omega)
    omega
   ·subst hbe
    have h2:(a+1)*Q<=e*Q:=Nat.mul_le_mul_right _ (by omega)
    rw[Nat.add_mul,Nat.one_mul]at h2
    omega
 rw[hb1]
 by_cases h:a<e+b
 ·rw[if_pos (hcmp.2 h)];omega
 ·rw[if_neg (fun h2=>h (hcmp.1 h2))];omega
theorem ft1{ρ:Nat->Nat}{L:LL}{l:Nat}{C:List SV}{t:TypeId}(bC:bdLB 0 C=true)(h:find L (ρ l)=some ⟨ρ l,C,t⟩):foot ρ (find L) [⟨l,C,t⟩]:=
 ⟨by show find L (ρ l)=some ⟨ρ l,renL ρ C,t⟩;rw[rcl C bC];exact h,trivial⟩
theorem ft2{ρ:Nat->Nat}{L:LL}{l l':Nat}{C C':List SV}{t t':TypeId}(bC:bdLB 0 C=true)(bC':bdLB 0 C'=true)(h:find L (ρ l)=some ⟨ρ l,C,t⟩)(h':find L (ρ l')=some ⟨ρ l',C',t'⟩):foot ρ (find L) [⟨l,C,t⟩,⟨l',C',t'⟩]:=
 ⟨by show find L (ρ l)=some ⟨ρ l,renL ρ C,t⟩;rw[rcl C bC];exact h,by show find L (ρ l')=some ⟨ρ l',renL ρ C',t'⟩;rw[rcl C' bC'];exact h',trivial⟩
section
variable {A:Ar}
theorem lo32(hA:A=Ar.real){a b:Nat}(ha:a<0x10000000000000000)(hb:b=a%4294967296):A.bin .and .u64 (Int.ofNat a) 4294967295=Int.ofNat b:=
 (andW hA (k:= .u64) rfl (a:=a) (b:=4294967295) ha (by decide)).trans (congrArg Int.ofNat (by rw[hb,show(4294967295:Nat)=2^32-1 from rfl,Nat.and_two_pow_sub_one_eq_mod]))
theorem hi32(hA:A=Ar.real){a b:Nat}(hb:b=a/4294967296):A.sh .shr .u64 (Int.ofNat a) 32=Int.ofNat b:=
 (shrI hA (k:= .u64) (a:=a) (b:=32) (by decide)).trans (congrArg Int.ofNat hb.symm)
theorem c32(hA:A=Ar.real){a:Nat}(ha:a<4294967296):A.cvt .u32 (Int.ofNat a)=Int.ofNat a:=cvtI hA (fun h=>by cases h) (fun _=>ha)
theorem subU(hA:A=Ar.real){a b d:Nat}(h:b<=a)(ha:a<0x10000000000000000)(hd:d=a-b):A.bin .sub .u64 (Int.ofNat a) (Int.ofNat b)=Int.ofNat d:=
 (subW hA (k:= .u64) rfl (a:=a) (b:=b) (by show b<=0x10000000000000000;omega)).trans (congrArg Int.ofNat (by rw[hd];show(a+0x10000000000000000-b)%0x10000000000000000=a-b;omega))
theorem addV(hA:A=Ar.real){a b d:Nat}(h:a+b<0x10000000000000000)(hd:d=a+b):A.bin .add .u64 (Int.ofNat a) (Int.ofNat b)=Int.ofNat d:=(addU hA h).trans (by rw[hd])
end
end Go.Vg
namespace Go.Proofs.YtdhmihfefgcbeaaGreat
open Go.Vg Go.RowKit
set_option maxRecDepth 200000
set_option cbv.maxSteps 100000000
theorem u32B{P:Program}(hP:P=Tryz.prog):(P.info? 58).map (·.bytes)=some 4:=by subst hP;kernel_rfl
def wr(h:Nat->Nat)(i:Nat):Nat->Nat:=fun j=>if j<i then h j else 0
theorem wr_step(h:Nat->Nat)(i v:Nat)(hv:v=h i):wr h (i+1)=fun j=>if j=i then v else wr h i j:=by
 funext j;unfold wr
 by_cases e:j=i
 ·rw[if_pos e,if_pos (by omega),hv,e]
 ·rw[if_neg e]
  by_cases e2:j<i
  ·rw[if_pos e2,if_pos (by omega)]
  ·rw[if_neg e2,if_neg (by omega)]
theorem wr_zero(h:Nat->Nat):wr h 0=fun _=>0:=by funext j;unfold wr;rw[if_neg (Nat.not_lt_zero j)]
theorem hs_wr(h:Nat->Nat)(c:Nat):hs (wr h c) c=hs h c:=hs_congr fun j hj=>by unfold wr;rw[if_pos hj]
theorem cRSub{P:Program}(hP:P=Tryz.prog){n c x m e y:Nat}{f u:Nat->Nat}(hx:Nm n c f x)(hy:Nm m e u y)(hn:n<2^20)(hle:y<=x)(r:Nat)(hr:r=Vg.sz (x-y)):
 Con P 23 [.slice 0 0 n c,.slice 1 0 m e] [⟨0,hs f c,58⟩,⟨1,hs u e,58⟩] 2 [] (fun w L q=>w= .slice 2 0 r n/\L=[⟨2,hs (dg (x-y)) n,58⟩]/\q=3):=by
 obtain⟨Z,hZ⟩:=exq (fun i=>hs (wr (dg (x-y)) i) n:Nat->List SV)
 have bZ:∀m i,bdLB m (Z i)=true:=fun m i=>by rw[hZ];exact hs_bd _ _ m
 have hZ0:List.replicate n (SV.int .u32 0)=Z 0:=by rw[hZ,hs_zero];show _=hs (wr _ 0) n;rw[wr_zero]
 have hZn:Z n=hs (dg (x-y)) n:=by rw[hZ];exact hs_wr _ _
 suffices raw:Con P 23 [.slice 0 0 n c,.slice 1 0 m e] [⟨0,hs f c,58⟩,⟨1,hs u e,58⟩] 2 [] (fun w L q=>w= .slice 2 0 r n/\find L 2=some ⟨2,Z n,58⟩)from
  raw.weak fun v L q ⟨h1,h2⟩=>⟨_root_.id,.slice 2 0 r n,[⟨2,Z n,58⟩],3,by subst h1;exact weak_id ⟨rfl,rfl,trivial⟩ ⟨h2,rfl,bZ 3 n,trivial⟩ rfl rfl,rfl,by rw[hZn],rfl⟩
 have hxy:x-y<4294967296^n:=Nat.lt_of_le_of_lt (Nat.sub_le _ _) hx.lt
 have hTr:Con P 42 [.slice 0 0 n n] [⟨0,Z n,58⟩] 1 [] (fun w _ _=>w= .slice 0 0 r n):=by
  rw[hZn];exact cTrim hP (dg (x-y)) n n r (Nat.le_refl _) (by omega) (by rw[hr,tl_dg hxy])
 have hdx:∀i,Con P 49 [.slice 0 0 n c,.int .i64 (.ofNat i)] [⟨0,hs f c,58⟩] 1 [] (fun w _ _=>w= .int .u64 (.ofNat (dg x i))):=fun i=>cRDigit hP f n c i _ hx.le hx.w (by
  by_cases h:i<n
  ·rw[if_pos h,hx.dig h]
  ·rw[if_neg h,hx.digz (by omega)])
 have hdy:∀i,Con P 49 [.slice 0 0 m e,.int .i64 (.ofNat i)] [⟨0,hs u e,58⟩] 1 [] (fun w _ _=>w= .int .u64 (.ofNat (dg y i))):=fun i=>cRDigit hP u m e i _ hy.le hy.w (by
  by_cases h:i<m
  ·rw[if_pos h,hy.dig h]
  ·rw[if_neg h,hy.digz (by omega)])
 obtain⟨cy,hcy⟩:=exq (fun i=>boA x y i:Nat->Nat)
 have cy0:cy 0=0:=by rw[hcy];exact boA_zero x y
 have cyl:∀i,cy i<=1:=fun i=>by rw[hcy];exact boA_le x y i
 have cys:∀i s,s=dg x i+4294967296-dg y i-cy i->dg (x-y) i=s%4294967296/\cy (i+1)=1-s/4294967296:=fun i s h=>by rw[hcy]at *;exact difDig i hle s h
 have dxl:=dg_lt x
 have dyl:=dg_lt y
 have dzl:=dg_lt (x-y)
 have hZs:∀i v,v=dg (x-y) i->wr (dg (x-y)) (i+1)=fun j=>if j=i then v else wr (dg (x-y)) i j:=fun i v h=>wr_step _ i v h
 obtain⟨X,hX⟩:=exq (dg x)
 obtain⟨Y,hY⟩:=exq (dg y)
 obtain⟨S,hS⟩:=exq (dg (x-y))
 rw[<-hX]at hdx dxl cys
 rw[<-hY]at hdy dyl cys
 rw[<-hS]at hZ dzl hZs cys
 obtain⟨C,hC⟩:=exq (hs f c)
 have bC:∀m,bdLB m C=true:=fun m=>by rw[hC];exact hs_bd f c m
 obtain⟨E,hE⟩:=exq (hs u e)
 have bE:∀m,bdLB m E=true:=fun m=>by rw[hE];exact hs_bd u e m
 rw[<-hC]at hdx⊢
 rw[<-hE]at hdy⊢
 clear hC hE hX hY hS hZn
 refine cof hP Tryz.func23 ⟨blq rfl,⟨blq rfl,trivial⟩⟩ (by simpa [bdL,bd]using⟨bdb _ (bC 2),bdb _ (bE 2)⟩) ?_
 intro A g K hA hg hK
 obtain⟨bin,sh,cmp,_,cvt,ix,_,_,_,_,_,_,_,_,nat,off,_,_,sub,spl⟩:=A
 have e0:∀n,nat n=Int.ofNat n:=fun n=>nat_of hA n
 have e2:∀i,i<n->cmp .lss (.ofNat i) (.ofNat n)=true:=fun i h=>lss_t hA h
 have e2f:cmp .lss (.ofNat n) (.ofNat n)=false:=lss_f hA (Nat.lt_irrefl n)
 have e3:∀i,i<n->bin .add .i64 (.ofNat i) 1=Int.ofNat (i+1):=fun i h=>addI hA (a:=i) (b:=1) (by omega)
 have e4:∀j,off 0 j 1=j:=fun j=>(off_of hA 0 j 1).trans (by omega)
 have e5:∀i,i<n->ix (.ofNat i) n=some i:=fun i h=>ix_of hA h
 have e6:∀i v,i<n->v=S i->spl (Z i) i [.int .u32 (.ofNat v)]=some (Z (i+1)):=fun i v h hv=>by rw[hZ];exact splW hA .u32 (n:=n) (wr S i) (wr S (i+1)) h (hZs i v hv)
 have hU:=u32B hP
 clear hZ
 cbv
 rw[e0]
 refine smk (hP▸tblOk) hg rfl rfl (show tyT 27=some _ from rfl) rfl (show tyT 58=some _ from rfl) hU rfl (m:=n) rfl rfl (by omega) (by omega) ?_
 rw[hZ0]
 cbv
 refine lpb Nat (fun i=>i<=n) (fun i=>n-i) (fun i=> [(6,.int .u64 (.ofNat (cy i))),(7,.int .i64 (.ofNat i))]) [0,1,4,5] (fun i=> [(2,Z i)]) 0 (Nat.zero_le _) ?_ ?_
 ·rw[cy0]
  exact wkih (by repeat' (first|exact trivial|refine⟨rfl,rfl,rfl,?_⟩|refine⟨rfl,rfl,bC 3,?_⟩|refine⟨rfl,rfl,bE 3,?_⟩|refine⟨rfl,rfl,bZ 3 0,?_⟩))
 intro i hi
 by_cases hlt:i<n
 ·obtain⟨s1,hs1⟩:=exq (X i+4294967296)
  obtain⟨s2,hs2⟩:=exq (s1-Y i)
  obtain⟨s3,hs3⟩:=exq (s2-cy i)
  obtain⟨s4,hs4⟩:=exq (s3%4294967296)
  obtain⟨s5,hs5⟩:=exq (s3/4294967296)
  have hl1:=dxl i
  have hl2:=dyl i
  have hl3:=cyl i
  obtain⟨q1,q2⟩:=cys i s3 (by rw[hs3,hs2,hs1])
  have g1:bin .add .u64 (.ofNat (X i)) 4294967296=Int.ofNat s1:=addV hA (b:=4294967296) (by omega) hs1
  have g2:bin .sub .u64 (.ofNat s1) (.ofNat (Y i))=Int.ofNat s2:=subU hA (by omega) (by omega) hs2
  have g3:bin .sub .u64 (.ofNat s2) (.ofNat (cy i))=Int.ofNat s3:=subU hA (by omega) (by omega) hs3
  have g4:bin .and .u64 (.ofNat s3) 4294967295=Int.ofNat s4:=lo32 hA (by omega) hs4
  have g5:cvt .u32 (.ofNat s4)=Int.ofNat s4:=c32 hA (by omega)
  have g6:sh .shr .u64 (.ofNat s3) 32=Int.ofNat s5:=hi32 hA hs5
  have g7:bin .sub .u64 1 (.ofNat s5)=Int.ofNat (cy (i+1)):=subU hA (a:=1) (by omega) (by omega) (by rw[q2,hs5])
  have g8:=e6 i s4 (by omega) (by rw[q1,hs4])
  obtain⟨cn,hcn⟩:=exq (cy (i+1))
  obtain⟨Zn,hZn⟩:=exq (Z (i+1))
  rw[<-hcn]at g7
  rw[<-hZn]at g8
  cbv
  rw[e0]
  cbv
  rw[e2 i hlt]
  cbv
  refine cro rfl hg rfl rfl (hdx i) (fun _=>0) rfl (ft1 (bC 0) rfl) ?_
  rintro _ _ _ rfl
  refine⟨trivial,trivial,?_⟩
  cbv
  rw[g1]
  cbv
  refine cro rfl hg rfl rfl (hdy i) (fun _=>1) rfl (ft1 (bE 0) rfl) ?_
  rintro _ _ _ rfl
  refine⟨trivial,trivial,?_⟩
  cbv
  rw[g2]
  cbv
  rw[g3]
  cbv
  rw[g4]
  cbv
  rw[g5]
  cbv
  rw[e5 i (by omega)]
  cbv
  rw[e4,g8]
  cbv
  rw[g6]
  cbv
  rw[g7]
  cbv
  rw[e3 i hlt]
  refine⟨i+1,_root_.id,hlt,(by show n-(i+1)<n-i;omega),?_⟩
  rw[hcn,hZn]
  exact wkih (by repeat' (first|exact trivial|refine⟨rfl,rfl,rfl,?_⟩|refine⟨rfl,rfl,bC 3,?_⟩|refine⟨rfl,rfl,bE 3,?_⟩|refine⟨rfl,rfl,bZ 3 (i+1),?_⟩))
 ·obtain rfl:i=n:=by omega
  cbv
  rw[e0]
  cbv
  rw[e2f]
  cbv
  refine cro rfl hg rfl rfl hTr (fun _=>2) rfl (ft1 (bZ 0 i) rfl) ?_
  rintro _ _ _ rfl
  refine⟨by simp[bd],by simp[bd,ren],?_⟩
  cbv
  exact hK _ _ _ ⟨rfl,rfl⟩
end Go.Proofs.YtdhmihfefgcbeaaGreat
namespace Go.Vg
open Go.RowKit Go.Lib
theorem dg_low{T z i j:Nat}(h:j<i):dg (T+z*4294967296^i) j=dg T j:=by
 unfold dg Dg.dig
 obtain⟨d,rfl⟩:∃d,i=j+(d+1):=⟨i-j-1,by omega⟩
 rw[Nat.pow_add,Nat.mul_comm (4294967296^j),<-Nat.mul_assoc,Nat.add_mul_div_right _ _ (Nat.pow_pos (by decide)),Nat.pow_succ,<-Nat.mul_assoc,Nat.add_mul_mod_self_right]
end Go.Vg
namespace Go.Proofs.YtdhmihfefgcbeaaGreat
open Go.Vg Go.RowKit
set_option maxRecDepth 200000
set_option cbv.maxSteps 100000000
end Go.Proofs.YtdhmihfefgcbeaaGreat
namespace Go.Vg
open Go.RowKit Go.Lib
theorem B_pow(n:Nat):4294967296^n=2^(32*n):=by rw[Nat.pow_mul]
theorem shr_dig(x i k:Nat)(hk:k<32):(dg x i+dg x (i+1)*4294967296)/2^k%4294967296=dg (x/2^k) i:=by
 have h1:dg (x/2^k) i=x/4294967296^i/2^k%4294967296:=by
  unfold dg Dg.dig;rw[Nat.div_div_eq_div_mul,Nat.mul_comm,<-Nat.div_div_eq_div_mul]
 have h2:dg x (i+1)=x/4294967296^i/4294967296%4294967296:=by
  unfold dg Dg.dig;rw[Nat.pow_succ,Nat.div_div_eq_div_mul]
 rw[h1,h2]
 show(x/4294967296^i%4294967296+_)/_%_=_
 generalize x/4294967296^i=y
 have h3:y=(y%4294967296+y/4294967296%4294967296*4294967296)+0x10000000000000000*(y/0x10000000000000000):=by omega
 obtain⟨d,hd⟩:∃d,32=k+d:=⟨32-k,by omega⟩
 have h4:(0x10000000000000000:Nat)=2^k*(2^d*4294967296):=by
  rw[<-Nat.mul_assoc,<-Nat.pow_add,<-hd]
 have h5:y/2^k=(y%4294967296+y/4294967296%4294967296*4294967296)/2^k+2^d*(y/0x10000000000000000)*4294967296:=by
  have:=congrArg (· /2^k) h3
  refine this.trans ?_
  show(_+0x10000000000000000*(y/0x10000000000000000))/2^k=_
  rw[show 0x10000000000000000*(y/0x10000000000000000)=2^k*(2^d*(y/0x10000000000000000)*4294967296)from by
   generalize y/0x10000000000000000=q
   rw[h4];ac_rfl,Nat.add_mul_div_left _ _ (Nat.two_pow_pos k)]
 rw[h5,Nat.add_mul_mod_self_right]
end Go.Vg
namespace Go.Proofs.YtdhmihfefgcbeaaGreat
open Go.Vg Go.RowKit
set_option maxRecDepth 200000
set_option cbv.maxSteps 100000000
theorem cRBits{P:Program}(hP:P=Tryz.prog){n c x:Nat}{f:Nat->Nat}(hx:Nm n c f x)(hn:n<2^20)(b:Nat)(hb:IsBl x b):Con P 36 [.slice 0 0 n c] [⟨0,hs f c,58⟩] 1 [] (fun w _ _=>w= .int .i64 (.ofNat b)):=by
 have hnc:=hx.le
 obtain⟨C,hC⟩:=exq (hs f c)
 have bC:∀m,bdLB m C=true:=fun m=>by rw[hC];exact hs_bd f c m
 rw[<-hC]
 by_cases h0:n=0
 ·have hx0:=hx.zero.1 h0
  subst h0 hx0
  have hb0:b=0:=hb.zero
  subst hb0
  clear hC hx
  refine cof hP Tryz.func36 ⟨blq rfl,trivial⟩ (by simpa [bdL,bd]using bdb _ (bC 1)) ?_
  intro A g K hA hg hK
  obtain⟨bin,sh,cmp,_,_,ix,_,_,_,_,_,_,_,_,nat,off,get,_,sub⟩:=A
  have e0:nat 0=0:=nat_of hA 0
  have e1:cmp .eql 0 0=true:=eql_t hA (a:=0) (b:=0) rfl
  cbv
  rw[e0]
  rw[e1]
  cbv
  exact hK _ _ _ rfl
 ·obtain⟨k,hk⟩:∃k,n=k+1:=⟨n-1,by omega⟩
  obtain⟨t,ht⟩:=exq (f k)
  have htl:t<4294967296:=by rw[ht];exact hx.w k (by omega)
  have ht0:t≠0:=by
   rcases hx.tr with h|h
   ·exact absurd h h0
   ·rw[ht];rw[hk,Nat.add_sub_cancel]at h;exact h
  obtain⟨l,hl⟩:=bl_ex t
  have hl32:l<=32:=by
   rcases Nat.lt_or_ge 32 l with h|h
   ·have:=hl.2 (by omega)
    have h2:=Nat.pow_le_pow_right (n:=2) (by decide) (show 32<=l-1 by omega)
    omega
   ·exact h
  have hbl:b=32*k+l:=by
   have h1:=IsBl.shift (x:=Dg.num 4294967296 f k) (s:=32*k) (by rw[<-B_pow];exact Dg.num_lt k fun i hi=>hx.w i (by omega)) hl (by omega)
   have h2:x=Dg.num 4294967296 f k+t*2^(32*k):=by rw[<-hx.v,hk,ht,<-B_pow];rfl
   rw[<-h2]at h1
   exact hb.uniq h1
  obtain⟨kk,hkk⟩:=exq (32*k)
  obtain⟨T,hT⟩:=exq (fun j=>t/2^j:Nat->Nat)
  have T0:T 0=t:=by rw[hT];exact Nat.div_one t
  have Ts:∀j,T (j+1)=T j/2^1:=fun j=>by rw[hT];show t/2^(j+1)=t/2^j/2^1;rw[Nat.div_div_eq_div_mul,<-Nat.pow_add]
  have Tp:∀j,j<l->0<T j:=fun j h=>by rw[hT];exact Nat.div_pos (Nat.le_trans (Nat.pow_le_pow_right (by decide) (by omega)) (hl.2 (by omega))) (Nat.two_pow_pos j)
  have Tl:T l=0:=by rw[hT];exact Nat.div_eq_of_lt hl.1
  obtain⟨bb,hbb⟩:=exq (fun j=>kk+j:Nat->Nat)
  have b0:bb 0=kk:=by rw[hbb];rfl
  have bs:∀j,bb (j+1)=bb j+1:=fun j=>by rw[hbb];rfl
  have ble:∀j,j<=l->bb j<2^40:=fun j h=>by rw[hbb];show kk+j<_;omega
  have bl':bb l=b:=by rw[hbb,hbl,hkk]
  clear hT hbb
  refine cof hP Tryz.func36 ⟨blq rfl,trivial⟩ (by simpa [bdL,bd]using bdb _ (bC 1)) ?_
  intro A g K hA hg hK
  obtain⟨bin,sh,cmp,_,_,ix,_,_,_,_,_,_,_,_,nat,off,get,_,sub⟩:=A
  have e0:nat n=Int.ofNat n:=nat_of hA n
  have e1:cmp .eql (.ofNat n) 0=false:=eql_f hA (b:=0) h0
  have e2:bin .sub .i64 (.ofNat n) 1=Int.ofNat k:=(subI hA (a:=n) (b:=1) (by omega) (by omega)).trans (by rw[hk,Nat.add_sub_cancel])
  have e3:bin .mul .i64 32 (.ofNat k)=Int.ofNat kk:=(mulI hA (a:=32) (b:=k) (by omega)).trans (by rw[hkk])
  have e4:ix (.ofNat k) n=some k:=ix_of hA (by omega)
  have e5:off 0 k 1=k:=(off_of hA 0 k 1).trans (by omega)
  have e6:get C k=some (.int .u32 (.ofNat t)):=by rw[ht,hC];exact getW hA .u32 f (by omega)
  have e7:∀j,j<l->cmp .gtr (.ofNat (T j)) 0=true:=fun j h=>gtr_t hA (b:=0) (Tp j h)
  have e8:∀j,j<l->bin .add .i64 (.ofNat (bb j)) 1=Int.ofNat (bb (j+1)):=fun j h=>(addI hA (b:=1) (by have:=ble j (by omega);omega)).trans (by rw[bs])
  have e9:∀j,sh .shr .u32 (.ofNat (T j)) 1=Int.ofNat (T (j+1)):=fun j=>(shrI hA (k:= .u32) (a:=T j) (b:=1) (by decide)).trans (by rw[Ts])
  clear hC
  cbv
  rw[e0]
  rw[e1]
  cbv
  rw[e0,e2,e3]
  cbv
  rw[e4]
  cbv
  rw[e5,e6]
  cbv
  refine lpb Nat (fun j=>j<=l) (fun j=>l-j) (fun j=> [(3,.int .i64 (.ofNat (bb j))),(4,.int .u32 (.ofNat (T j)))]) [0,2] (fun _=> []) 0 (Nat.zero_le _) ?_ ?_
  ·rw[b0,T0]
   exact wkih (by repeat' (first|exact trivial|refine⟨rfl,rfl,rfl,?_⟩|refine⟨rfl,rfl,bC 1,?_⟩))
  intro j hj
  by_cases hjl:j<l
  ·have g1:=e7 j hjl
   have g2:=e8 j hjl
   have g3:=e9 j
   obtain⟨b1,hb1⟩:=exq (bb (j+1))
   obtain⟨t1,ht1⟩:=exq (T (j+1))
   rw[<-hb1]at g2
   rw[<-ht1]at g3
   cbv
   rw[g1]
   cbv
   rw[g2]
   cbv
   rw[g3]
   refine⟨j+1,_root_.id,hjl,(by show l-(j+1)<l-j;omega),?_⟩
   rw[hb1,ht1]
   exact wkih (by repeat' (first|exact trivial|refine⟨rfl,rfl,rfl,?_⟩|refine⟨rfl,rfl,bC 1,?_⟩))
  ·have hjl2:j=l:=by omega
   cbv
   rw[show cmp .gtr (.ofNat (T j)) 0=false from gtr_f hA (b:=0) (by rw[hjl2,Tl];exact Nat.lt_irrefl 0)]
   cbv
   refine hK _ _ _ ?_
   rw[hjl2,bl']
   rfl
end Go.Proofs.YtdhmihfefgcbeaaGreat
namespace Go.Vg
structure Nw(n c:Nat)(f:Nat->Nat)(x:Nat):Prop where
 le:n<=c
 w:∀j,j<c->f j<4294967296
 v:Dg.num 4294967296 f n=x
theorem Nm.nw{n c x:Nat}{f:Nat->Nat}(h:Nm n c f x):Nw n c f x:=⟨h.le,h.w,h.v⟩
theorem Nw.lt{n c x:Nat}{f:Nat->Nat}(h:Nw n c f x):x<4294967296^n:=by
 rw[<-h.v];exact Dg.num_lt n fun i hi=>h.w i (Nat.lt_of_lt_of_le hi h.le)
theorem Nw.dig{n c x:Nat}{f:Nat->Nat}(h:Nw n c f x){i:Nat}(hi:i<n):f i=dg x i:=by
 rw[<-h.v];exact(Dg.dig_num (by decide) n (fun j hj=>h.w j (Nat.lt_of_lt_of_le hj h.le)) i hi).symm
theorem Nw.digz{n c x:Nat}{f:Nat->Nat}(h:Nw n c f x){i:Nat}(hi:n<=i):dg x i=0:=Dg.dig_big (by decide) h.lt hi
end Go.Vg
namespace Go.Proofs.YtdhmihfefgcbeaaGreat
open Go.Vg Go.RowKit
set_option maxRecDepth 200000
set_option cbv.maxSteps 100000000
theorem cRShrZ{P:Program}(hP:P=Tryz.prog){c:Nat}{f:Nat->Nat}(s:Nat)(hs32:s<32):Con P 34 [.slice 0 0 0 c,.int .i64 (.ofNat s)] [⟨0,hs f c,58⟩] 1 [] (fun w _ _=>w= .nils):=by
 obtain⟨C,hC⟩:=exq (hs f c)
 have bC:∀m,bdLB m C=true:=fun m=>by rw[hC];exact hs_bd f c m
 rw[<-hC]
 clear hC
 refine cof hP Tryz.func34 ⟨blq rfl,⟨trivial,trivial⟩⟩ (by simpa [bdL,bd]using bdb _ (bC 1)) ?_
 intro A g K hA hg hK
 obtain⟨bin,_,cmp,_,_,_,_,_,_,_,_,_,_,_,nat⟩:=A
 have e0:nat 0=Int.ofNat 0:=nat_of hA 0
 have e1:bin .quo .i64 (.ofNat s) 32=Int.ofNat 0:=(quoI hA (a:=s) (b:=32) (by omega)).trans (by rw[Nat.div_eq_of_lt hs32])
 have e2:cmp .geq (.ofNat 0) (.ofNat 0)=true:=geq_t hA (Nat.le_refl 0)
 cbv
 rw[e1,e0,e2]
 cbv
 exact hK _ _ _ rfl
theorem cRShr{P:Program}(hP:P=Tryz.prog){n c x:Nat}{f:Nat->Nat}(hx:Nw n c f x)(hn:n<2^20)(hn0:0<n)(s:Nat)(hs32:s<32)(y r:Nat)(hy:y=x/2^s)(hr:r=Vg.sz y):
 Con P 34 [.slice 0 0 n c,.int .i64 (.ofNat s)] [⟨0,hs f c,58⟩] 1 [] (fun w L q=>w= .slice 1 0 r n/\L=[⟨1,hs (dg y) n,58⟩]/\q=2):=by
 have hnc:=hx.le
 obtain⟨Z,hZ⟩:=exq (fun i=>hs (wr (dg y) i) n:Nat->List SV)
 have bZ:∀m i,bdLB m (Z i)=true:=fun m i=>by rw[hZ];exact hs_bd _ _ m
 have hZ0:List.replicate n (SV.int .u32 0)=Z 0:=by rw[hZ,hs_zero];show _=hs (wr _ 0) n;rw[wr_zero]
 have hZn:Z n=hs (dg y) n:=by rw[hZ];exact hs_wr _ _
 suffices raw:Con P 34 [.slice 0 0 n c,.int .i64 (.ofNat s)] [⟨0,hs f c,58⟩] 1 [] (fun w L q=>w= .slice 1 0 r n/\find L 1=some ⟨1,Z n,58⟩)from
  raw.weak fun v L q ⟨h1,h2⟩=>⟨_root_.id,.slice 1 0 r n,[⟨1,Z n,58⟩],2,by subst h1;exact weak_id ⟨rfl,rfl,trivial⟩ ⟨h2,rfl,bZ 2 n,trivial⟩ rfl rfl,rfl,by rw[hZn],rfl⟩
 have hyl:y<4294967296^n:=by rw[hy];exact Nat.lt_of_le_of_lt (Nat.div_le_self _ _) hx.lt
 have hTr:Con P 42 [.slice 0 0 n n] [⟨0,Z n,58⟩] 1 [] (fun w _ _=>w= .slice 0 0 r n):=by
  rw[hZn];exact cTrim hP (dg y) n n r (Nat.le_refl _) (by omega) (by rw[hr,tl_dg hyl])
 have hdx:∀i,Con P 49 [.slice 0 0 n c,.int .i64 (.ofNat i)] [⟨0,hs f c,58⟩] 1 [] (fun w _ _=>w= .int .u64 (.ofNat (dg x i))):=fun i=>cRDigit hP f n c i _ hx.le hx.w (by
  by_cases h:i<n
  ·rw[if_pos h,hx.dig h]
  ·rw[if_neg h,hx.digz (by omega)])
 obtain⟨X,hX⟩:=exq (dg x)
 obtain⟨S,hS⟩:=exq (dg y)
 have lX:∀i,X i<4294967296:=fun i=>by rw[hX];exact dg_lt x i
 have hSX:∀i,(X i+X (i+1)*4294967296)/2^s%4294967296=S i:=fun i=>by rw[hX,hS,hy];exact shr_dig x i s hs32
 rw[<-hX]at hdx
 rw[<-hS]at hZ
 obtain⟨C,hC⟩:=exq (hs f c)
 have bC:∀m,bdLB m C=true:=fun m=>by rw[hC];exact hs_bd f c m
 rw[<-hC]at hdx⊢
 clear hC hX hS hZn
 refine cof hP Tryz.func34 ⟨blq rfl,⟨trivial,trivial⟩⟩ (by simpa [bdL,bd]using bdb _ (bC 1)) ?_
 intro A g K hA hg hK
 obtain⟨bin,sh,cmp,_,cvt,ix,nn,_,_,_,_,_,_,_,nat,off,_,_,sub,spl⟩:=A
 have e0:nat n=Int.ofNat n:=nat_of hA n
 have e1:bin .quo .i64 (.ofNat s) 32=0:=(quoI hA (a:=s) (b:=32) (by omega)).trans (by rw[Nat.div_eq_of_lt hs32];rfl)
 have e2:cmp .geq 0 (.ofNat n)=false:=geq_f hA (a:=0) (by omega)
 have e3:bin .sub .i64 (.ofNat n) 0=Int.ofNat n:=subI hA (b:=0) (Nat.zero_le n) (by omega)
 have e4:∀j,off 0 j 1=j:=fun j=>(off_of hA 0 j 1).trans (by omega)
 have e5:∀i,i<n->ix (.ofNat i) n=some i:=fun i h=>ix_of hA h
 have e6:∀i v,i<n->v=S i->spl (Z i) i [.int .u32 (.ofNat v)]=some (Z (i+1)):=fun i v h hv=>by rw[hZ];exact splW hA .u32 (n:=n) (wr S i) (wr S (i+1)) h (wr_step S i v hv)
 have e7:∀i,i<n->cmp .lss (.ofNat i) (.ofNat n)=true:=fun i h=>lss_t hA h
 have e7f:cmp .lss (.ofNat n) (.ofNat n)=false:=lss_f hA (Nat.lt_irrefl n)
 have e8:∀i,i<n->bin .add .i64 (.ofNat i) 1=Int.ofNat (i+1):=fun i h=>addI hA (a:=i) (b:=1) (by omega)
 have e9:∀i,i<n->bin .add .i64 (.ofNat i) 0=Int.ofNat i:=fun i h=>addI hA (a:=i) (b:=0) (by omega)
 have e10:bin .rem .i64 (.ofNat s) 32=Int.ofNat s:=(remW hA s 32).trans (by rw[Nat.mod_eq_of_lt hs32])
 have e11:nn (.ofNat s)=true:=nn_t hA s
 have hU:=u32B hP
 clear hZ
 cbv
 rw[e1,e0,e2]
 cbv
 rw[e1,e0,e3]
 cbv
 refine smk (hP▸tblOk) hg rfl rfl (show tyT 27=some _ from rfl) rfl (show tyT 58=some _ from rfl) hU rfl (m:=n) rfl rfl (by omega) (by omega) ?_
 rw[hZ0]
 cbv
 refine lpb Nat (fun i=>i<=n) (fun i=>n-i) (fun i=> [(6,.int .i64 (.ofNat i))]) [0,1,4,5] (fun i=> [(1,Z i)]) 0 (Nat.zero_le _) ?_ ?_
 ·exact wkih (by repeat' (first|exact trivial|refine⟨rfl,rfl,rfl,?_⟩|refine⟨rfl,rfl,bC 2,?_⟩|refine⟨rfl,rfl,bZ 2 0,?_⟩))
 intro i hi
 by_cases hlt:i<n
 ·obtain⟨i1,hi1⟩:=exq (i+1)
  obtain⟨w1,hw1⟩:=exq (X i1*4294967296)
  obtain⟨w2,hw2⟩:=exq (X i+w1)
  obtain⟨w3,hw3⟩:=exq (w2/2^s)
  obtain⟨w4,hw4⟩:=exq (w3%4294967296)
  have l1:=lX i
  have l2:=lX i1
  have l3:w3<=w2:=by rw[hw3];exact Nat.div_le_self _ _
  have hv:w4=S i:=by rw[hw4,hw3,hw2,hw1,hi1];exact hSX i
  have g0:=e8 i hlt
  rw[<-hi1]at g0
  have g1:sh .shl .u64 (.ofNat (X i1)) 32=Int.ofNat w1:=(shlW hA (k:= .u64) rfl (X i1) (s:=32) (by decide)).trans (congrArg Int.ofNat (by rw[hw1];show X i1*4294967296%0x10000000000000000=_;omega))
  have g2:bin .or .u64 (.ofNat (X i)) (.ofNat w1)=Int.ofNat w2:=(orW hA (k:= .u64) rfl (a:=X i) (b:=w1) (by show X i<0x10000000000000000;omega) (by show w1<0x10000000000000000;omega)).trans (congrArg Int.ofNat (by rw[hw2,hw1,Nat.or_comm,show(4294967296:Nat)=2^32 from rfl,or_add (s:=32) l1,Nat.add_comm]))
  have g3:sh .shr .u64 (.ofNat w2) (.ofNat s)=Int.ofNat w3:=(shrI hA (k:= .u64) (a:=w2) (b:=s) (by show s<=64;omega)).trans (by rw[hw3])
  have g4:bin .and .u64 (.ofNat w3) 4294967295=Int.ofNat w4:=lo32 hA (by omega) hw4
  have g5:cvt .u32 (.ofNat w4)=Int.ofNat w4:=c32 hA (by omega)
  have g6:=e6 i w4 hlt hv
  obtain⟨Zn,hZn⟩:=exq (Z (i+1))
  rw[<-hZn]at g6
  cbv
  rw[e0]
  cbv
  rw[e7 i hlt]
  cbv
  rw[e1]
  cbv
  rw[e9 i hlt]
  cbv
  refine cro rfl hg rfl rfl (hdx i) (fun _=>0) rfl (ft1 (bC 0) rfl) ?_
  rintro _ _ _ rfl
  refine⟨trivial,trivial,?_⟩
  cbv
  rw[e1]
  cbv
  rw[e9 i hlt]
  cbv
  rw[g0]
  cbv
  refine cro rfl hg rfl rfl (hdx i1) (fun _=>0) rfl (ft1 (bC 0) rfl) ?_
  rintro _ _ _ rfl
  refine⟨trivial,trivial,?_⟩
  cbv
  rw[g1]
  cbv
  rw[g2]
  cbv
  rw[e10]
  cbv
  rw[e11]
  cbv
  rw[g3]
  cbv
  rw[g4]
  cbv
  rw[g5]
  cbv
  rw[e5 i hlt]
  cbv
  rw[e4,g6]
  cbv
  rw[g0]
  refine⟨i+1,_root_.id,hlt,(by show n-(i+1)<n-i;omega),?_⟩
  rw[hi1,hZn]
  exact wkih (by repeat' (first|exact trivial|refine⟨rfl,rfl,rfl,?_⟩|refine⟨rfl,rfl,bC 2,?_⟩|refine⟨rfl,rfl,bZ 2 (i+1),?_⟩))
 ·obtain rfl:i=n:=by omega
  cbv
  rw[e0]
  cbv
  rw[e7f]
  cbv
  refine cro rfl hg rfl rfl hTr (fun _=>1) rfl (ft1 (bZ 0 i) rfl) ?_
  rintro _ _ _ rfl
  refine⟨by simp[bd],by simp[bd,ren],?_⟩
  cbv
  exact hK _ _ _ ⟨rfl,rfl⟩
end Go.Proofs.YtdhmihfefgcbeaaGreat
namespace Go.Vg
open Go.RowKit Go.Lib
theorem num_dgW{W n:Nat}(h:W<4294967296^n):Dg.num 4294967296 (dg W) n=W:=(Dg.num_dig (by decide) W n).trans (Nat.mod_eq_of_lt h)
end Go.Vg
namespace Go.Vg
open Go.RowKit Go.Lib
theorem Con.keep{P:Program}{f:FuncId}{args:List SV}{Lp:LL}{n0:Nat}{R:SV->LL->Nat->Prop}(h:Con P f args Lp n0 [] R)(hlo:∀b∈Lp,b.l<n0/\bdL (fun l=>l<n0) b.cs)(hnew:∀v L q,R v L q->∀b∈L,n0<=b.l):Con P f args Lp n0 [] (fun v L q=>∃NB,R v NB q/\L=Lp++NB):=by
 refine⟨h.1,fun β0 W0 hpre=>(h.2 β0 W0 hpre).mono ?_⟩
 rintro e W ⟨v,L,q,β,hR,rfl,hb,hm⟩
 refine⟨v,Lp++L,q,β,⟨L,hR,rfl⟩,rfl,hb,?_⟩
 have hmod:∀k,¬ (⟨W0,β0,n0,0,[]⟩:G).mod k:=fun k ⟨l,hl,_⟩=>by cases hl
 have hcase:∀l b,find (Lp++L) l=some b->(b∈Lp/\b.l=l/\l<n0)\/(find L l=some b/\n0<=l):=fun l b hf=>by
  rw[fap]at hf
  cases hq:find Lp l with
  |some b'=>
   rw[hq]at hf
   obtain rfl:=Option.some.inj hf
   obtain⟨h1,h2⟩:=fdm hq
   exact Or.inl ⟨h1,h2,h2▸(hlo _ h1).1⟩
  |none=>
   rw[hq]at hf
   obtain⟨h1,h2⟩:=fdm hf
   exact Or.inr ⟨hf,h2▸hnew _ _ _ hR _ h1⟩
 have hold:∀b∈Lp,β b.l=β0 b.l/\∃m,W0.heap[β0 b.l]? =some (.cells (denL β0 b.cs).toArray b.t m):=fun b hb'=>by
  obtain⟨m,_,h2⟩:=hpre.cell b hb'
  exact⟨hm.old _ (hlo b hb').1,m,h2⟩
 have hlt:∀b∈Lp,β b.l<W0.heap.size:=fun b hb'=>by
  obtain⟨h1,m,h2⟩:=hold b hb'
  rw[h1]
  exact(Array.getElem?_eq_some_iff.1 h2).1
 have hown:∀l,l<n0->own n0 [] l=true->False:=fun l h1 h2=>by
  unfold own at h2
  cases hq:Nat.ble n0 l with
  |true=>have:=Nat.le_of_ble_eq_true hq;omega
  |false=>rw[hq]at h2;exact Bool.noConfusion h2
 refine⟨hm.low,hm.old,?_,?_,?_,?_,hm.up⟩
 ·intro l b hf hge
  rcases hcase l b hf with⟨_,_,h3⟩|⟨h1,_⟩
  ·exact absurd hge (Nat.not_le.2 h3)
  ·exact hm.new l b h1 hge
 ·intro l b l' b' hf hf' ho he
  rcases hcase l b hf with⟨_,_,h3⟩|⟨h1,h2⟩
  ·exact(hown l h3 ho).elim
  ·rcases hcase l' b' hf' with⟨k1,k2,k3⟩|⟨k1,_⟩
   ·exfalso
    have hl:=hlt b' k1
    rw[k2,<-he]at hl
    rcases hm.new l b h1 h2 with h4|h4
    ·exact absurd hl (Nat.not_lt.2 h4)
    ·exact hmod _ h4
   ·exact hm.inj _ _ _ _ h1 k1 ho he
 ·intro l b hf
  rcases hcase l b hf with⟨h1,h2,h3⟩|⟨h1,_⟩
  ·obtain⟨k1,m,k2⟩:=hold b h1
   refine⟨m,fun ho=>(hown l h3 ho).elim,?_⟩
   rw[<-h2,dlc (β:=β0) (γ:=β) (p:=fun l=>l<n0) (fun l hl=>hm.old l hl) b.cs (hlo b h1).2,k1,<-k2]
   exact hm.up.block _ (by rw[<-k1];exact hlt b h1) (hmod _)
  ·exact hm.cell l b h1
 ·intro l b hf
  rcases hcase l b hf with⟨h1,h2,h3⟩|⟨h1,_⟩
  ·exact⟨hm.low l h3,bdm (fun _ h=>hm.low _ h) _ (hlo b h1).2⟩
  ·exact hm.bL l b h1
end Go.Vg
namespace Go.Proofs.YtdhmihfefgcbeaaGreat
open Go.Vg Go.RowKit
set_option maxRecDepth 200000
set_option cbv.maxSteps 100000000
theorem ftM{ρ:Nat->Nat}{M:Nat->Option Blk}{l:Nat}{C:List SV}{t:TypeId}(bC:bdLB 0 C=true)(h:M (ρ l)=some ⟨ρ l,C,t⟩):foot ρ M [⟨l,C,t⟩]:=
 ⟨by show M (ρ l)=some ⟨ρ l,renL ρ C,t⟩;rw[rcl C bC];exact h,trivial⟩
end Go.Proofs.YtdhmihfefgcbeaaGreat
namespace Go.Vg
structure HS(H:Nat->Nat->List SV)(S:Nat->Nat):Prop where
 h:H=fun x c=>hs (dg x) c
 s:S=Vg.sz
section
variable {H:Nat->Nat->List SV}{S:Nat->Nat}(hs:HS H S)
include hs
theorem HS.b(m x c:Nat):bdLB m (H x c)=true:=by rw[hs.h];exact hs_bd _ _ m
theorem HS.nm{x c:Nat}(h:x<4294967296^c):Nm (S x) c (dg x) x:=by rw[hs.s];exact nm_dg h
theorem HS.le{x k:Nat}(h:x<4294967296^k):S x<=k:=(hs.nm h).n_le h
theorem HS.one{y:Nat}(h:y<4294967296)(h0:0<y):S y=1:=by
 have h1:=hs.le (x:=y) (k:=1) (by rw[Nat.pow_one];exact h)
 have h2:=(hs.nm (x:=y) (c:=1) (by rw[Nat.pow_one];exact h)).zero
 omega
end
end Go.Vg
namespace Go.Proofs.YtdhmihfefgcbeaaGreat
open Go.Vg Go.RowKit
set_option maxRecDepth 200000
set_option cbv.maxSteps 100000000
section
variable {P:Program}(hP:P=Tryz.prog){H:Nat->Nat->List SV}{S:Nat->Nat}(hs:HS H S)
include hP hs
end
end Go.Proofs.YtdhmihfefgcbeaaGreat
namespace Go.Vg
open Go.RowKit Go.Lib
theorem cmp_ex(x y:Nat):∃r:Int,(x<y->r= -1)/\(x=y->r=0)/\(y<x->r=1):=⟨if x<y then -1 else if x=y then 0 else 1,fun h=>if_pos h,fun h=>by rw[if_neg (by omega),if_pos h],fun h=>by rw[if_neg (by omega),if_neg (by omega)]⟩
section
variable {A:Ar}(hA:A=Ar.real){x y:Nat}{r:Int}(h1:x<y->r= -1)(h2:x=y->r=0)(h3:y<x->r=1)
include hA h1 h2 h3
theorem cmp_lss_t(h:x<y):A.cmp .lss r 0=true:=by
 rw[h1 h];exact(congrFun (congrFun (congrFun (cmp_of hA) .lss) (-1)) 0).trans rfl
theorem cmp_lss_f(h:y<=x):A.cmp .lss r 0=false:=by
 rcases Nat.lt_or_ge y x with k|k
 ·rw[h3 k];exact lss_f hA (a:=1) (b:=0) (by decide)
 ·rw[h2 (by omega)];exact lss_f hA (a:=0) (b:=0) (by decide)
end
end Go.Vg
namespace Go.Proofs.YtdhmihfefgcbeaaGreat
open Go.Vg Go.RowKit
set_option maxRecDepth 200000
set_option cbv.maxSteps 100000000
section
variable {P:Program}(hP:P=Tryz.prog){H:Nat->Nat->List SV}{S:Nat->Nat}(hs:HS H S)
include hP hs
theorem mCmp{x c y e:Nat}(hx:x<4294967296^c)(hy:y<4294967296^e)(hb:x<4294967296^40)(r:Int)(h1:x<y->r= -1)(h2:x=y->r=0)(h3:y<x->r=1):Con P 43 [.slice 0 0 (S x) c,.slice 1 0 (S y) e] [⟨0,H x c,58⟩,⟨1,H y e,58⟩] 2 [] (fun w _ _=>w= .int .i64 r):=by
 rw[hs.h];exact cRCmp hP (hs.nm hx) (hs.nm hy) (by have:=hs.le hb;omega) r h1 h2 h3
theorem mSub{x c y e:Nat}(hx:x<4294967296^c)(hy:y<4294967296^e)(hb:x<4294967296^40)(hle:y<=x)(s:Nat)(hd:s=x-y):∃k,s<4294967296^k/\Con P 23 [.slice 0 0 (S x) c,.slice 1 0 (S y) e] [⟨0,H x c,58⟩,⟨1,H y e,58⟩] 2 [] (fun w L q=>w= .slice 2 0 (S s) k/\L=[⟨2,H s k,58⟩]/\q=3):=by
 refine⟨S x,by rw[hd];exact Nat.lt_of_le_of_lt (Nat.sub_le _ _) (hs.nm hx).lt,?_⟩
 subst hd
 rw[hs.h];exact cRSub hP (hs.nm hx) (hs.nm hy) (by have:=hs.le hb;omega) hle _ (by rw[hs.s])
end
end Go.Proofs.YtdhmihfefgcbeaaGreat
namespace Go.Vg
open Go.RowKit Go.Lib
theorem or_dig{T t d e w q r:Nat}(he:e=32*q+r)(hrw:r+w<=32)(hd:d<2^w)(hT:T=t*2^(e+w)):(∀j,dg (T+d*2^e) j=if j=q then dg T q+d*2^r else dg T j)/\dg T q|||d*2^r=dg T q+d*2^r/\dg T q+d*2^r<4294967296:=by
 have hdr:d*2^r<2^(r+w):=by rw[Nat.pow_add,Nat.mul_comm];exact Nat.mul_lt_mul_of_pos_left hd (Nat.two_pow_pos r)
 have eT:T/4294967296^q=t*2^(r+w):=by
  rw[hT,B_pow,he,Nat.add_assoc,Nat.pow_add,<-Nat.mul_assoc,Nat.mul_comm t,Nat.mul_assoc,Nat.mul_div_cancel_left _ (Nat.two_pow_pos _)]
 have eT2:(T+d*2^e)/4294967296^q=t*2^(r+w)+d*2^r:=by
  rw[hT,B_pow,he,Nat.add_assoc,Nat.pow_add 2 (32*q) (r+w),Nat.pow_add 2 (32*q) r,show t*(2^(32*q)*2^(r+w))+d*(2^(32*q)*2^r)=2^(32*q)*(t*2^(r+w)+d*2^r)from by rw[Nat.mul_add];ac_rfl,Nat.mul_div_cancel_left _ (Nat.two_pow_pos _)]
 obtain⟨c,hc⟩:∃c,32=r+w+c:=⟨32-(r+w),by omega⟩
 have hB:(4294967296:Nat)=2^(r+w)*2^c:=by rw[<-Nat.pow_add,<-hc]
 have hq:dg T q=(t%2^c)*2^(r+w):=by
  show T/4294967296^q%4294967296=_
  rw[eT,hB,Nat.mul_comm t,Nat.mul_mod_mul_left,Nat.mul_comm]
 have h1:t%2^c+1<=2^c:=Nat.mod_lt _ (Nat.two_pow_pos c)
 have h2:=Nat.mul_le_mul_right (2^(r+w)) h1
 rw[Nat.add_mul,Nat.one_mul,<-hq,Nat.mul_comm (2^c),<-hB]at h2
 have hlt:dg T q+d*2^r<4294967296:=by omega
 refine⟨fun j=> ?_,by rw[hq];exact or_add hdr,hlt⟩
 by_cases hj:j=q
 ·subst hj
  rw[if_pos rfl]
  show(T+d*2^e)/4294967296^j%4294967296=_
  rw[eT2]
  have e3:t*2^(r+w)=dg T j+4294967296*(t/2^c):=by
   rw[hq,hB]
   have:=Nat.div_add_mod t (2^c)
   have h5:t*2^(r+w)=(2^c*(t/2^c)+t%2^c)*2^(r+w):=by rw[this]
   rw[h5,Nat.add_mul,Nat.add_comm]
   congr 1
   ac_rfl
  rw[e3,Nat.add_right_comm,Nat.add_mul_mod_self_left,Nat.mod_eq_of_lt hlt]
 ·rw[if_neg hj]
  rcases Nat.lt_or_gt_of_ne hj with h|h
  ·obtain⟨z,rfl⟩:∃z,q=j+1+z:=⟨q-(j+1),by omega⟩
   have e4:d*2^e=(d*2^(r+32*z))*4294967296^(j+1):=by
    rw[he,B_pow,Nat.mul_assoc,<-Nat.pow_add];congr 2;omega
   rw[e4];exact dg_low (by omega)
  ·-- the quotient does not change
   obtain⟨z,rfl⟩:∃z,j=q+1+z:=⟨j-(q+1),by omega⟩
   have e5:∀X,X/4294967296^(q+1+z)=X/4294967296^q/2^(r+w)/(2^c*4294967296^z):=fun X=>by
    rw[Nat.div_div_eq_div_mul,Nat.div_div_eq_div_mul,<-Nat.mul_assoc (2^(r+w)) (2^c),<-hB,Nat.pow_add,Nat.pow_succ,Nat.mul_assoc]
   show(T+d*2^e)/_%_=T/_%_
   rw[e5,e5,eT,eT2,Nat.mul_div_cancel _ (Nat.two_pow_pos _),Nat.mul_comm t,Nat.mul_add_div (Nat.two_pow_pos _),Nat.div_eq_of_lt hdr,Nat.add_zero]
def topN(b x k:Nat):Nat:=x/b^k*b^k
theorem topN_zero(b x:Nat):topN b x 0=x:=by unfold topN;rw[Nat.pow_zero,Nat.div_one,Nat.mul_one]
theorem topN_succ(b x k:Nat):topN b x k=topN b x (k+1)+x/b^k%b*b^k:=by
 unfold topN
 rw[Nat.pow_succ,<-Nat.div_div_eq_div_mul]
 have h:=Nat.div_add_mod (x/b^k) b
 generalize x/b^k=y at *
 generalize b^k=Q
 have h2:y*Q=(b*(y/b)+y%b)*Q:=by rw[h]
 rw[h2,Nat.add_mul]
 congr 1
 ac_rfl
theorem topN_all{b x n:Nat}(h:x<b^n):topN b x n=0:=by unfold topN;rw[Nat.div_eq_of_lt h,Nat.zero_mul]
theorem dg_even(x i:Nat):dg x (2*i)=x/0x10000000000000000^i%0x10000000000000000%4294967296:=by
 unfold dg Dg.dig
 rw[Nat.pow_mul,show(4294967296:Nat)^2=0x10000000000000000 from by decide]
 omega
theorem dg_odd(x i:Nat):dg x (2*i+1)=x/0x10000000000000000^i%0x10000000000000000/4294967296:=by
 unfold dg Dg.dig
 rw[Nat.pow_succ,<-Nat.div_div_eq_div_mul,Nat.pow_mul,show(4294967296:Nat)^2=0x10000000000000000 from by decide]
 omega
end Go.Vg
namespace Go.Proofs.YtdhmihfefgcbeaaGreat
open Go.Vg Go.RowKit
set_option maxRecDepth 200000
set_option cbv.maxSteps 100000000
theorem word_of{a:Nat->Nat}{x:Nat}(ha:Wn 9 a)(hx:V 9 a=x){i:Nat}(hi:i<9):a i=x/0x10000000000000000^i%0x10000000000000000:=by
 rw[<-hx];exact(Dg.dig_num (b:=0x10000000000000000) (by decide) 9 ha i hi).symm
section
variable {P:Program}(hP:P=Tryz.prog){H:Nat->Nat->List SV}{S:Nat->Nat}(hs:HS H S)
include hP hs
theorem mNat{x c:Nat}(hx:x<4294967296^c)(r:Nat->Nat)(hr:Wn 9 r)(hrx:V 9 r=x):Con P 22 [.slice 0 0 (S x) c] [⟨0,H x c,58⟩] 1 [] (fun w _ _=>w= .agg (ws r 9)):=by
 have hn:=hs.nm hx
 have hdx:∀i,Con P 49 [.slice 0 0 (S x) c,.int .i64 (.ofNat i)] [⟨0,H x c,58⟩] 1 [] (fun w _ _=>w= .int .u64 (.ofNat (dg x i))):=fun i=>by
  rw[hs.h]
  exact cRDigit hP (dg x) (S x) c i _ hn.le hn.w (by
   by_cases h:i<S x
   ·rw[if_pos h]
   ·rw[if_neg h,hn.digz (by omega)])
 obtain⟨D,hD⟩:=exq (dg x)
 have lD:∀i,D i<4294967296:=fun i=>by rw[hD];exact dg_lt _ _
 have hw:∀i,i<9->D (2*i)+D (2*i+1)*4294967296=r i:=fun i h=>by
  rw[hD,dg_even,dg_odd,<-word_of hr hrx h];omega
 rw[<-hD]at hdx
 obtain⟨C,hC⟩:=exq (H x c)
 have bC:∀m,bdLB m C=true:=fun m=>by rw[hC];exact hs.b m x c
 obtain⟨n,hnn⟩:=exq (S x)
 rw[<-hC,<-hnn]at hdx⊢
 clear hC hnn hD hn
 refine cof hP Tryz.func22 ⟨blq rfl,trivial⟩ (by simpa [bdL,bd]using bdb _ (bC 1)) ?_
 intro A g K hA hg hK
 obtain⟨bin,sh,cmp,_,_,ix,_,_,_,_,_,_,_,_,_,off⟩:=A
 have f1:∀i,i<9->cmp .lss (.ofNat i) 9=true:=fun i h=>lss_t hA (b:=9) h
 have f1f:cmp .lss (.ofNat 9) 9=false:=lss_f hA (a:=9) (b:=9) (by omega)
 have f2:∀i,i<9->ix (.ofNat i) 9=some i:=fun i h=>ix_of hA h
 have f3:∀i,off 0 i 1=i:=fun i=>(off_of hA 0 i 1).trans (by omega)
 have f5:=fun(f g:Nat->Nat) (i v:Nat) (h:i<9) (e:g=fun j=>if j=i then v else f j)=>splW hA .u64 (n:=9) f g h e
 have f7:∀i,i<100->bin .add .i64 (.ofNat i) 1=Int.ofNat (i+1):=fun i h=>addI hA (a:=i) (b:=1) (by omega)
 simp only[lst,Nat.reduceAdd]at f5
 cbv
 refine lpb (Nat×(Nat->Nat)) (fun s=>s.1<=9/\s.2=wr r s.1) (fun s=>9-s.1) (fun s=> [(4,.int .i64 (.ofNat s.1))]) [0,2,3] (fun s=> [(2,ws s.2 9)]) (0,fun _=>0) ⟨Nat.zero_le _,(wr_zero r).symm⟩ ?_ ?_
 ·exact wkih (by repeat' (first|exact trivial|refine⟨rfl,rfl,rfl,?_⟩|refine⟨rfl,rfl,bC 3,?_⟩))
 rintro⟨i,f⟩ ⟨hi,hf⟩
 change i<=9 at hi
 change f=wr r i at hf
 by_cases hlt:i<9
 ·obtain⟨i2,hi2⟩:=exq (2*i)
  obtain⟨i3,hi3⟩:=exq (i2+1)
  obtain⟨w1,hw1⟩:=exq (D i3*4294967296)
  obtain⟨w2,hw2⟩:=exq (D i2+w1)
  have l1:=lD i2
  have l2:=lD i3
  have hv:w2=r i:=by rw[hw2,hw1,hi3,hi2];exact hw i hlt
  have g1:bin .mul .i64 2 (.ofNat i)=Int.ofNat i2:=(mulI hA (a:=2) (b:=i) (by omega)).trans (by rw[hi2])
  have g2:=f7 i2 (by omega)
  have g3:sh .shl .u64 (.ofNat (D i3)) 32=Int.ofNat w1:=(shlW hA (k:= .u64) rfl (D i3) (s:=32) (by decide)).trans (congrArg Int.ofNat (by rw[hw1];show D i3*4294967296%0x10000000000000000=_;omega))
  have g4:bin .or .u64 (.ofNat (D i2)) (.ofNat w1)=Int.ofNat w2:=(orW hA (k:= .u64) rfl (a:=D i2) (b:=w1) (by show D i2<0x10000000000000000;omega) (by show w1<0x10000000000000000;omega)).trans (congrArg Int.ofNat (by rw[hw2,hw1,Nat.or_comm,show(4294967296:Nat)=2^32 from rfl,or_add (s:=32) l1,Nat.add_comm]))
  have hfn:wr r (i+1)=fun j=>if j=i then w2 else f j:=by rw[hf];exact wr_step r i w2 hv
  obtain⟨fn,hfn2⟩:=exq (wr r (i+1))
  rw[<-hfn2]at hfn
  have g5:=f5 f fn i w2 hlt hfn
  have g6:=f7 i (by omega)
  rw[<-hi3]at g2
  cbv
  rw[f1 i hlt]
  cbv
  rw[g1]
  cbv
  refine cro rfl hg rfl rfl (hdx i2) (fun _=>0) rfl (ft1 (bC 0) rfl) ?_
  rintro _ _ _ rfl
  refine⟨trivial,trivial,?_⟩
  cbv
  rw[g1]
  cbv
  rw[g2]
  cbv
  refine cro rfl hg rfl rfl (hdx i3) (fun _=>0) rfl (ft1 (bC 0) rfl) ?_
  rintro _ _ _ rfl
  refine⟨trivial,trivial,?_⟩
  cbv
  rw[g3]
  cbv
  rw[g4]
  cbv
  rw[f2 i hlt]
  cbv
  rw[f3,g5]
  cbv
  rw[g6]
  refine⟨(i+1,fn),_root_.id,⟨hlt,hfn2⟩,(by show 9-(i+1)<9-i;omega),?_⟩
  exact wkih (by repeat' (first|exact trivial|refine⟨rfl,rfl,rfl,?_⟩|refine⟨rfl,rfl,bC 3,?_⟩))
 ·obtain rfl:i=9:=by omega
  have e:ws f 9=ws r 9:=by rw[hf];exact lcg fun j _ hj=>by unfold wr;rw[if_pos (by omega)]
  cbv
  rw[f1f]
  cbv
  exact hK _ _ _ (by rw[<-e];rfl)
theorem mNatN(hH:H=H):Con P 22 [.nils] [] 0 [] (fun w _ _=>w= .agg (ws (fun _=>0) 9)):=by
 have hdx:∀i,Con P 49 [.nils,.int .i64 (.ofNat i)] [] 0 [] (fun w _ _=>w= .int .u64 0):=fun i=>cRDigitN hP i
 clear hH hs
 refine cof hP Tryz.func22 (bdb _ rfl) (bkb rfl) ?_
 intro A g K hA hg hK
 obtain⟨bin,sh,cmp,_,_,ix,_,_,_,_,_,_,_,_,_,off,_,_,_,spl⟩:=A
 have f1:∀i,i<9->cmp .lss (.ofNat i) 9=true:=fun i h=>lss_t hA (b:=9) h
 have f1f:cmp .lss (.ofNat 9) 9=false:=lss_f hA (a:=9) (b:=9) (by omega)
 have f2:∀i,i<9->ix (.ofNat i) 9=some i:=fun i h=>ix_of hA h
 have f3:∀i,off 0 i 1=i:=fun i=>(off_of hA 0 i 1).trans (by omega)
 have f5:=fun(i:Nat) (h:i<9)=>splW hA .u64 (n:=9) (fun _=>0) (fun _=>0) (k:=i) (v:=0) h (by funext j;split<;>rfl)
 have f7:∀i,i<100->bin .add .i64 (.ofNat i) 1=Int.ofNat (i+1):=fun i h=>addI hA (a:=i) (b:=1) (by omega)
 have g3:sh .shl .u64 0 32=0:=(shlW hA (k:= .u64) rfl 0 (s:=32) (by decide)).trans rfl
 have g4:bin .or .u64 0 0=0:=(orW hA (k:= .u64) rfl (a:=0) (b:=0) (by decide) (by decide)).trans rfl
 simp only[lst,Nat.reduceAdd]at f5
 cbv
 refine lpb Nat (fun i=>i<=9) (fun i=>9-i) (fun i=> [(4,.int .i64 (.ofNat i))]) [0,2,3] (fun _=> [(1,ws (fun _=>0) 9)]) 0 (Nat.zero_le _) ?_ ?_
 ·exact wkid
 intro i hi
 by_cases hlt:i<9
 ·obtain⟨i2,hi2⟩:=exq (2*i)
  obtain⟨i3,hi3⟩:=exq (i2+1)
  have g1:bin .mul .i64 2 (.ofNat i)=Int.ofNat i2:=(mulI hA (a:=2) (b:=i) (by omega)).trans (by rw[hi2])
  have g2:=f7 i2 (by omega)
  have g5:=f5 i hlt
  have g6:=f7 i (by omega)
  rw[<-hi3]at g2
  cbv
  rw[f1 i hlt]
  cbv
  rw[g1]
  cbv
  refine cva rfl hg rfl rfl (hdx i2) ?_
  rintro _ _ _ rfl
  refine⟨trivial,?_⟩
  cbv
  rw[g1]
  cbv
  rw[g2]
  cbv
  refine cva rfl hg rfl rfl (hdx i3) ?_
  rintro _ _ _ rfl
  refine⟨trivial,?_⟩
  cbv
  rw[g3]
  cbv
  rw[g4]
  cbv
  rw[f2 i hlt]
  cbv
  rw[f3,show ∀X,spl X i [SV.int .u64 0]=spl X i [SV.int .u64 (.ofNat 0)]from fun _=>rfl,g5]
  cbv
  rw[g6]
  refine⟨i+1,_root_.id,hlt,(by show 9-(i+1)<9-i;omega),?_⟩
  exact wkid
 ·obtain rfl:i=9:=by omega
  cbv
  rw[f1f]
  cbv
  exact hK _ _ _ rfl
end
end Go.Proofs.YtdhmihfefgcbeaaGreat
