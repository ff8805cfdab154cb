/-
  This text proves what these texts prove: Pa, Pb, Pc. Conditions: those of each theorem.
-/
import Derived.Test.YtdhmihfefgcbeaaGreatX21
set_option maxHeartbeats 8000000
set_option linter.all false
namespace Go.Vg
open Go.RowKit Go.Lib
def hs(f:Nat->Nat)(c:Nat):List SV:=lst .u32 (fun j=>Int.ofNat (f j)) 0 c
theorem hs_bd(f:Nat->Nat)(c m:Nat):bdLB m (hs f c)=true:=lst_bd m .u32 _ 0 c
theorem hs_zero(m:Nat):List.replicate m (SV.int .u32 0)=hs (fun _=>0) m:=by
 have:∀m s,List.replicate m (SV.int .u32 0)=lst .u32 (fun _=>Int.ofNat 0) s m:=fun m=>by
  induction m with
  |zero=>intro s;rfl
  |succ m ih=>intro s;rw[List.replicate_succ,ih (s+1)];rfl
 exact this m 0
theorem hs_congr{f g:Nat->Nat}{c:Nat}(h:∀j,j<c->f j=g j):hs f c=hs g c:=lcg fun j _ hj=>by rw[h j (by omega)]
structure Nm(n c:Nat)(f:Nat->Nat)(x:Nat):Prop where
 le:n<=c
 w:∀j,j<c->f j<4294967296
 v:Dg.num 4294967296 f n=x
 tr:n=0\/f (n-1)≠0
def tl(f:Nat->Nat):Nat->Nat
 |0=>0
 |m+1=>if f m=0 then tl f m else m+1
theorem tl_le(f:Nat->Nat):∀m,tl f m<=m
 |0=>Nat.le_refl _
 |m+1=>by unfold tl;split;exact Nat.le_succ_of_le (tl_le f m);exact Nat.le_refl _
theorem tl_tr(f:Nat->Nat):∀m,tl f m=0\/f (tl f m-1)≠0
 |0=>Or.inl rfl
 |m+1=>by
  unfold tl;split
  ·exact tl_tr f m
  ·rename_i h;exact Or.inr h
theorem tl_zero(f:Nat->Nat):∀m j,tl f m<=j->j<m->f j=0
 |0,_,_,h=>absurd h (Nat.not_lt_zero _)
 |m+1,j,h1,h2=>by
  unfold tl at h1;split at h1
  ·rcases Nat.lt_or_ge j m with h3|h3
   ·exact tl_zero f m j h1 h3
   ·rw[show j=m by omega];assumption
  ·omega
theorem tl_num(b:Nat)(f:Nat->Nat)(m:Nat):Dg.num b f (tl f m)=Dg.num b f m:=by
 have h:=Dg.num_zero (b:=b) f (tl f m) (m-tl f m) (fun i h1 h2=>tl_zero f m i h1 (by have:=tl_le f m;omega))
 rw[<-h,Nat.add_sub_cancel' (tl_le f m)]
theorem Nm.of{f:Nat->Nat}{m c:Nat}(hm:m<=c)(hw:∀j,j<c->f j<4294967296):Nm (tl f m) c f (Dg.num 4294967296 f m):=
 ⟨Nat.le_trans (tl_le f m) hm,hw,tl_num _ f m,tl_tr f m⟩
def IsSz(n x:Nat):Prop:=x<4294967296^n/\(n=0\/4294967296^(n-1)<=x)
theorem IsSz.uniq{n m x:Nat}(h:IsSz n x)(g:IsSz m x):n=m:=by
 have key:∀ {a b:Nat},IsSz a x->IsSz b x->¬a<b:=fun {a b} ha hb hlt=>by
  rcases hb.2 with h0|h0
  ·omega
  ·exact absurd (Nat.lt_of_lt_of_le ha.1 (Nat.pow_le_pow_right (by decide) (show a<=b-1 by omega))) (Nat.not_lt.2 h0)
 have h1:=key h g
 have h2:=key g h
 omega
theorem Nm.lt{n c x:Nat}{f:Nat->Nat}(h:Nm n c f x):x<4294967296^n:=by
 rw[<-h.v];exact Dg.num_lt n fun i hi=>h.w i (Nat.lt_of_lt_of_le hi h.le)
theorem Nm.sz{n c x:Nat}{f:Nat->Nat}(h:Nm n c f x):IsSz n x:=by
 refine⟨h.lt,?_⟩
 cases n with
 |zero=>exact Or.inl rfl
 |succ n=>
  right
  rcases h.tr with h0|h0
  ·omega
  ·rw[<-h.v]
   simp only[Nat.add_sub_cancel]at h0⊢
   show _<=Dg.num 4294967296 f n+f n*4294967296^n
   have:1*4294967296^n<=f n*4294967296^n:=Nat.mul_le_mul_right _ (by omega)
   omega
def dg(x:Nat):Nat->Nat:=Dg.dig 4294967296 x
theorem dg_lt(x j:Nat):dg x j<4294967296:=Dg.dig_lt (by decide) x j
def sz(x:Nat):Nat:=tl (dg x) x
theorem nm_dg0{x k:Nat}(h:x<4294967296^k):Nm (tl (dg x) k) k (dg x) x:=by
 have h1:=Nm.of (f:=dg x) (Nat.le_refl k) (fun j _=>dg_lt x j)
 have h2:Dg.num 4294967296 (dg x) k=x:=(Dg.num_dig (by decide) x k).trans (Nat.mod_eq_of_lt h)
 rwa [h2]at h1
theorem nm_dg{x k:Nat}(h:x<4294967296^k):Nm (sz x) k (dg x) x:=by
 have h1:=nm_dg0 h
 have h2:=nm_dg0 (x:=x) (k:=x) (Nat.lt_of_lt_of_le (Nat.lt_two_pow_self) (Nat.pow_le_pow_left (by decide) x))
 have h3:tl (dg x) k=sz x:=h1.sz.uniq h2.sz
 rwa [h3]at h1
theorem tl_dg{x k:Nat}(h:x<4294967296^k):tl (dg x) k=sz x:=(nm_dg0 h).sz.uniq (nm_dg h).sz
theorem Nm.n_eq{n c x:Nat}{f:Nat->Nat}(h:Nm n c f x):n=Vg.sz x:=h.sz.uniq (nm_dg (k:=x) (Nat.lt_of_lt_of_le (Nat.lt_two_pow_self) (Nat.pow_le_pow_left (by decide) x))).sz
theorem Nm.n_le{n c x k:Nat}{f:Nat->Nat}(h:Nm n c f x)(hx:x<4294967296^k):n<=k:=by
 rcases h.sz.2 with h0|h0
 ·omega
 ·rcases Nat.lt_or_ge k n with h1|h1
  ·exact absurd (Nat.lt_of_le_of_lt h0 hx) (Nat.not_lt.2 (Nat.pow_le_pow_right (by decide) (by omega)))
  ·exact h1
theorem Nm.zero{n c x:Nat}{f:Nat->Nat}(h:Nm n c f x):n=0↔x=0:=by
 constructor
 ·intro h0;have:=h.lt;rw[h0]at this;omega
 ·intro h0;exact Nat.le_zero.1 (h.n_le (k:=0) (by rw[h0];decide))
theorem Nm.dig{n c x:Nat}{f:Nat->Nat}(h:Nm n c f x){i:Nat}(hi:i<n):f i=dg x i:=by
 rw[<-h.v];exact(Dg.dig_num (by decide) n (fun j hj=>h.w j (Nat.lt_of_lt_of_le hj h.le)) i hi).symm
theorem Nm.digz{n c x:Nat}{f:Nat->Nat}(h:Nm n c f x){i:Nat}(hi:n<=i):dg x i=0:=Dg.dig_big (by decide) h.lt hi
theorem num_cmp{b:Nat}{f g:Nat->Nat}{n t:Nat}(ht:t<n)(hf:∀j,j<n->f j<b)(he:∀s,t<s->s<n->f s=g s)(hlt:f t<g t):Dg.num b f n<Dg.num b g n:=by
 have key:∀ (h:Nat->Nat),Dg.num b h n=Dg.num b h t+(h t+Dg.num b (fun i=>h (t+1+i)) (n-(t+1))*b)*b^t:=fun h=>by
  have h1:=Dg.num_split (b:=b) h (t+1) (n-(t+1))
  rw[show t+1+(n-(t+1))=n by omega]at h1
  rw[h1]
  show Dg.num b h t+h t*b^t+_=_
  rw[Nat.pow_succ,Nat.add_mul,Nat.mul_assoc,Nat.mul_comm (b^t) b,Nat.add_assoc]
 rw[key f,key g]
 have h2:Dg.num b (fun i=>f (t+1+i)) (n-(t+1))=Dg.num b (fun i=>g (t+1+i)) (n-(t+1)):=Dg.num_congr _ fun i hi=>he _ (by omega) (by omega)
 rw[h2]
 generalize Dg.num b (fun i=>g (t+1+i)) (n-(t+1))*b=Z
 have h3:Dg.num b f t<b^t:=Dg.num_lt t fun i hi=>hf i (by omega)
 have h4:(f t+1+Z)*b^t<=(g t+Z)*b^t:=Nat.mul_le_mul_right _ (by omega)
 have h5:(f t+1+Z)*b^t=(f t+Z)*b^t+b^t:=by rw[show f t+1+Z=f t+Z+1 by omega,Nat.succ_mul]
 omega
end Go.Vg
namespace Go.Proofs.YtdhmihfefgcbeaaGreat
open Go.Vg Go.RowKit
set_option maxRecDepth 200000
set_option cbv.maxSteps 100000000
theorem cTrim{P:Program}(hP:P=Tryz.prog)(f:Nat->Nat)(m c r:Nat)(hm:m<=c)(hm2:m<2^40)(hr:r=tl f m):Con P 42 [.slice 0 0 m c] [⟨0,hs f c,58⟩] 1 [] (fun w _ _=>w= .slice 0 0 r c):=by
 obtain⟨C,hC⟩:=exq (hs f c)
 have bC:∀m,bdLB m C=true:=fun m=>by rw[hC];exact hs_bd f c m
 rw[<-hC]
 refine cof hP Tryz.func42 ⟨blq rfl,trivial⟩ (by simpa [bdL,bd]using bdb _ (bC 1)) ?_
 intro A g K hA hg hK
 obtain⟨bin,_,cmp,_,_,ix,_,_,_,_,_,_,_,_,nat,off,get,_,sub⟩:=A
 have f1:∀k,0<k->cmp .gtr (.ofNat k) 0=true:=fun k h=>gtr_t hA (b:=0) h
 have f1f:∀k,¬0<k->cmp .gtr (.ofNat k) 0=false:=fun k h=>gtr_f hA (b:=0) h
 have f2:∀k l,k=l+1->k<=m->bin .sub .i64 (.ofNat k) 1=Int.ofNat l:=fun k l h h2=>(subI hA (a:=k) (b:=1) (by omega) (by omega)).trans (by rw[h,Nat.add_sub_cancel])
 have f3:∀k,k<m->ix (.ofNat k) m=some k:=fun k h=>ix_of hA h
 have f4:∀k,off 0 k 1=k:=fun k=>(off_of hA 0 k 1).trans (by omega)
 have f5:∀k,k<c->get C k=some (.int .u32 (.ofNat (f k))):=fun k h=>by rw[hC];exact getW hA .u32 f h
 have f6:∀k,f k=0->cmp .eql (.ofNat (f k)) 0=true:=fun k h=>eql_t hA (b:=0) h
 have f6f:∀k,f k≠0->cmp .eql (.ofNat (f k)) 0=false:=fun k h=>eql_f hA (b:=0) h
 have e0:nat m=Int.ofNat m:=nat_of hA m
 have hSl:∀k,k<=m->SlR P 27 (.slice 0 0 m c) none (some (.i64,Int.ofNat k)) (.slice 0 0 k c):=fun k h=>slr_h (hP▸tblOk) (show tyT 27=some _ from rfl) rfl 0 0 m c (j:=k) (by omega)
 clear hC
 cbv
 rw[e0]
 refine lpb Nat (fun k=>k<=m/\tl f k=r) (fun k=>k) (fun k=> [(3,.int .i64 (.ofNat k))]) [0,2] (fun _=> []) m ⟨Nat.le_refl _,hr.symm⟩ ?_ ?_
 ·exact wkih (by repeat' (first|exact trivial|refine⟨rfl,rfl,rfl,?_⟩|refine⟨rfl,rfl,bC 1,?_⟩))
 rintro k ⟨hk,ht⟩
 by_cases h0:0<k
 ·obtain⟨l,hl⟩:∃l,k=l+1:=⟨k-1,by omega⟩
  by_cases hz:f l=0
  ·cbv
   rw[f1 k h0]
   cbv
   rw[f2 k l hl hk]
   cbv
   rw[f3 l (by omega)]
   cbv
   rw[f4,f5 l (by omega)]
   cbv
   rw[f6 l hz]
   cbv
   rw[f2 k l hl hk]
   refine⟨l,_root_.id,⟨by omega,?_⟩,(by omega),?_⟩
   ·rw[<-ht,hl,show tl f (l+1)=if f l=0 then tl f l else l+1 from rfl,if_pos hz]
   exact wkih (by repeat' (first|exact trivial|refine⟨rfl,rfl,rfl,?_⟩|refine⟨rfl,rfl,bC 1,?_⟩))
  ·cbv
   rw[f1 k h0]
   cbv
   rw[f2 k l hl hk]
   cbv
   rw[f3 l (by omega)]
   cbv
   rw[f4,f5 l (by omega)]
   cbv
   rw[f6f l hz]
   cbv
   refine ssl hg rfl rfl rfl rfl rfl (hSl k hk) ?_
   cbv
   refine hK _ _ _ ?_
   rw[<-ht,hl,show tl f (l+1)=if f l=0 then tl f l else l+1 from rfl,if_neg hz]
   rfl
 ·have hkr:k=r:=by rw[<-ht,show k=0 by omega];rfl
  cbv
  rw[f1f k h0]
  cbv
  refine ssl hg rfl rfl rfl rfl rfl (hSl k hk) ?_
  cbv
  refine hK _ _ _ ?_
  rw[hkr]
  rfl
theorem cRDigit{P:Program}(hP:P=Tryz.prog)(f:Nat->Nat)(n c i d:Nat)(hn:n<=c)(hw:∀j,j<c->f j<4294967296)(hd:d=if i<n then f i else 0):Con P 49 [.slice 0 0 n c,.int .i64 (.ofNat i)] [⟨0,hs f c,58⟩] 1 [] (fun w _ _=>w= .int .u64 (.ofNat d)):=by
 obtain⟨C,hC⟩:=exq (hs f c)
 have bC:∀m,bdLB m C=true:=fun m=>by rw[hC];exact hs_bd f c m
 rw[<-hC]
 refine cof hP Tryz.func49 ⟨blq rfl,⟨trivial,trivial⟩⟩ (by simpa [bdL,bd]using bdb _ (bC 1)) ?_
 intro A g K hA hg hK
 obtain⟨_,_,cmp,_,cvt,ix,_,_,_,_,_,_,_,_,nat,off,get⟩:=A
 have e0:nat n=Int.ofNat n:=nat_of hA n
 have f4:off 0 i 1=i:=(off_of hA 0 i 1).trans (by omega)
 cbv
 rw[e0]
 by_cases h:i<n
 ·have f1:cmp .lss (.ofNat i) (.ofNat n)=true:=lss_t hA h
  have f3:ix (.ofNat i) n=some i:=ix_of hA h
  have f5:get C i=some (.int .u32 (.ofNat (f i))):=by rw[hC];exact getW hA .u32 f (by omega)
  have f6:cvt .u64 (.ofNat (f i))=Int.ofNat (f i):=cvtI hA (fun h=>by cases h) (fun _=>by have:=hw i (by omega);show f i<0x10000000000000000;omega)
  clear hC
  rw[f1]
  cbv
  rw[f3]
  cbv
  rw[f4,f5]
  cbv
  rw[f6]
  refine hK _ _ _ ?_
  rw[hd,if_pos h]
  rfl
 ·rw[show cmp .lss (.ofNat i) (.ofNat n)=false from lss_f hA h]
  cbv
  refine hK _ _ _ ?_
  rw[hd,if_neg h]
  rfl
theorem cRDigitN{P:Program}(hP:P=Tryz.prog)(i:Nat):Con P 49 [.nils,.int .i64 (.ofNat i)] [] 0 [] (fun w _ _=>w= .int .u64 0):=by
 refine cof hP Tryz.func49 (bdb _ rfl) (bkb rfl) ?_
 intro A g K hA hg hK
 obtain⟨_,_,cmp⟩:=A
 cbv
 rw[show cmp .lss (.ofNat i) 0=false from lss_f hA (b:=0) (Nat.not_lt_zero i)]
 cbv
 exact hK _ _ _ rfl
theorem cRCmp{P:Program}(hP:P=Tryz.prog){n c x m e y:Nat}{f u:Nat->Nat}(hx:Nm n c f x)(hy:Nm m e u y)(hn:n<2^40)(r:Int)(h1:x<y->r= -1)(h2:x=y->r=0)(h3:y<x->r=1):
 Con P 43 [.slice 0 0 n c,.slice 1 0 m e] [⟨0,hs f c,58⟩,⟨1,hs u e,58⟩] 2 [] (fun w _ _=>w= .int .i64 r):=by
 obtain⟨C,hC⟩:=exq (hs f c)
 have bC:∀m,bdLB m C=true:=fun m=>by rw[hC];exact hs_bd f c m
 obtain⟨E,hE⟩:=exq (hs u e)
 have bE:∀m,bdLB m E=true:=fun m=>by rw[hE];exact hs_bd u e m
 rw[<-hC,<-hE]
 obtain⟨IV,hIV⟩:=exq (fun j:Nat=>(n:Int)-1-(j:Int):Nat->Int)
 have iv:∀j,j<n->IV j=Int.ofNat (n-1-j):=fun j h=>by rw[hIV];show(n:Int)-1-(j:Int)=((n-1-j:Nat):Int);omega
 have ivn:IV n= -1:=by rw[hIV];show(n:Int)-1-(n:Int)= -1;omega
 have iv0:IntKind.i64.wrap ((n:Int)-1)=IV 0:=by rw[hIV,IntKind.wrap_i64];show _=(n:Int)-1-((0:Nat):Int);omega
 refine cof hP Tryz.func43 ⟨blq rfl,⟨blq rfl,trivial⟩⟩ (by simpa [bdL,bd]using⟨bdb _ (bC 2),bdb _ (bE 2)⟩) ?_
 intro A g K hA hg hK
 obtain⟨bin,_,cmp,_,_,ix,_,_,_,_,_,_,_,_,nat,off,get,_,sub⟩:=A
 have e0:∀n,nat n=Int.ofNat n:=fun n=>nat_of hA n
 have hb:bin=intBin:=bin_of hA
 have e1:bin .sub .i64 (.ofNat n) 1=IV 0:=by rw[hb];exact iv0
 have e2:∀j,j<n->bin .sub .i64 (IV j) 1=IV (j+1):=fun j h=>by
  rw[hb,hIV]
  show IntKind.i64.wrap ((n:Int)-1-(j:Int)-1)=(n:Int)-1-((j+1:Nat):Int)
  rw[IntKind.wrap_i64];omega
 have e3:∀j,cmp .geq (.ofNat j) 0=true:=fun j=>geq_t hA (b:=0) (Nat.zero_le _)
 have e3f:cmp .geq (-1) 0=false:=(congrFun (congrFun (congrFun (cmp_of hA) .geq) (-1)) 0).trans rfl
 have e4:∀j,off 0 j 1=j:=fun j=>(off_of hA 0 j 1).trans (by omega)
 have f5:∀k,k<c->get C k=some (.int .u32 (.ofNat (f k))):=fun k h=>by rw[hC];exact getW hA .u32 f h
 have g5:∀k,k<e->get E k=some (.int .u32 (.ofNat (u k))):=fun k h=>by rw[hE];exact getW hA .u32 u h
 have hnc:=hx.le
 have hme:=hy.le
 clear hC hE
 cbv
 rw[e0,e0]
 by_cases hnm:n=m
 ·rw[show cmp .neq (.ofNat n) (.ofNat m)=false from neq_f hA hnm]
  cbv
  rw[e0,e1]
  refine lpb Nat (fun j=>j<=n/\∀t,n-j<=t->t<n->f t=u t) (fun j=>n-j) (fun j=> [(5,.int .i64 (IV j))]) [0,1,4] (fun _=> []) 0 ⟨Nat.zero_le _,fun t h1 h2=>by omega⟩ ?_ ?_
  ·exact wkih (by repeat' (first|exact trivial|refine⟨rfl,rfl,rfl,?_⟩|refine⟨rfl,rfl,bC 2,?_⟩|refine⟨rfl,rfl,bE 2,?_⟩))
  rintro j ⟨hj,hje⟩
  by_cases hjn:j<n
  ·obtain⟨t,ht⟩:=exq (n-1-j)
   have hiv:=iv j hjn
   rw[<-ht]at hiv
   have htx:ix (.ofNat t) n=some t:=ix_of hA (by omega)
   have hty:ix (.ofNat t) m=some t:=ix_of hA (by omega)
   have g1:=e3 t
   have g2:=e2 j hjn
   have c1:=f5 t (by omega)
   have c2:=g5 t (by omega)
   rw[hiv]at g2
   rw[hiv]
   cbv
   rw[g1]
   cbv
   refine rgM hP hA hg fun mk _=> ?_
   cbv
   rw[htx]
   cbv
   rw[e4,c1]
   cbv
   rw[hty]
   cbv
   rw[e4,c2]
   cbv
   by_cases hfu:f t=u t
   ·rw[show cmp .neq (.ofNat (f t)) (.ofNat (u t))=false from neq_f hA hfu]
    cbv
    rw[g2]
    refine⟨j+1,_root_.id,⟨hjn,fun t' h3 h4=> ?_⟩,(by omega),?_⟩
    ·by_cases h:t'=t
     ·rw[h,hfu]
     ·exact hje t' (by omega) h4
    exact wkih (by repeat' (first|exact trivial|refine⟨rfl,rfl,rfl,?_⟩|refine⟨rfl,rfl,bC 2,?_⟩|refine⟨rfl,rfl,bE 2,?_⟩))
   ·have hlt:f t<u t->x<y:=fun h=>by
     rw[<-hx.v,<-hy.v,<-hnm];exact num_cmp (t:=t) (by omega) (fun i hi=>hx.w i (by omega)) (fun s h3 h4=>hje s (by omega) h4) h
    have hgt:u t<f t->y<x:=fun h=>by
     rw[<-hx.v,<-hy.v,<-hnm];exact num_cmp (t:=t) (by omega) (fun i hi=>hy.w i (by omega)) (fun s h3 h4=>(hje s (by omega) h4).symm) h
    rw[show cmp .neq (.ofNat (f t)) (.ofNat (u t))=true from neq_t hA hfu]
    cbv
    refine rgM hP hA hg fun mk _=> ?_
    cbv
    rw[htx]
    cbv
    rw[e4,c1]
    cbv
    rw[hty]
    cbv
    rw[e4,c2]
    cbv
    by_cases hl:f t<u t
    ·rw[show cmp .lss (.ofNat (f t)) (.ofNat (u t))=true from lss_t hA hl]
     cbv
     refine hK _ _ _ ?_
     rw[h1 (hlt hl)]
     rfl
    ·rw[show cmp .lss (.ofNat (f t)) (.ofNat (u t))=false from lss_f hA hl]
     cbv
     refine hK _ _ _ ?_
     rw[h3 (hgt (by omega))]
     rfl
  ·have hxy:x=y:=by
    rw[<-hx.v,<-hy.v,<-hnm];exact Dg.num_congr n fun t ht=>hje t (by omega) ht
   obtain rfl:j=n:=by omega
   rw[ivn]
   cbv
   rw[e3f]
   cbv
   refine hK _ _ _ ?_
   rw[h2 hxy]
   rfl
 ·rw[show cmp .neq (.ofNat n) (.ofNat m)=true from neq_t hA hnm]
  cbv
  by_cases hlt:n<m
  ·have hxy:x<y:=by
    rcases hy.sz.2 with h0|h0
    ·omega
    ·exact Nat.lt_of_lt_of_le hx.lt (Nat.le_trans (Nat.pow_le_pow_right (by decide) (by omega)) h0)
   rw[e0,e0,show cmp .lss (.ofNat n) (.ofNat m)=true from lss_t hA hlt]
   cbv
   refine hK _ _ _ ?_
   rw[h1 hxy]
   rfl
  ·have hxy:y<x:=by
    rcases hx.sz.2 with h0|h0
    ·omega
    ·exact Nat.lt_of_lt_of_le hy.lt (Nat.le_trans (Nat.pow_le_pow_right (by decide) (by omega)) h0)
   rw[e0,e0,show cmp .lss (.ofNat n) (.ofNat m)=false from lss_f hA hlt]
   cbv
   refine hK _ _ _ ?_
   rw[h3 hxy]
   rfl
end Go.Proofs.YtdhmihfefgcbeaaGreat
namespace Go.Vg
open Go.RowKit Go.Lib
theorem dig_mod(b z i:Nat):z%b^(i+1)=z%b^i+Dg.dig b z i*b^i:=by
 rw[Nat.mod_pow_succ,Nat.mul_comm];rfl
theorem step_dig{Q B r s Z:Nat}(hB:0<B)(hr:r<Q)(hZ:Z%(Q*B)=(r+s*Q)%(Q*B)):Z/Q%B=s%B/\(r+s*Q)/(Q*B)=s/B:=by
 have h1:(r+s*Q)/Q=s:=by rw[Nat.add_mul_div_right _ _ (by omega),Nat.div_eq_of_lt hr,Nat.zero_add]
 constructor
 ·have h2:Z/Q%B=Z%(Q*B)/Q:=(Nat.mod_mul_right_div_self Z Q B).symm
  rw[h2,hZ,Nat.mod_mul_right_div_self,h1]
 ·rw[<-Nat.div_div_eq_div_mul,h1]
def cyA(x y i:Nat):Nat:=(x%4294967296^i+y%4294967296^i)/4294967296^i
theorem cyA_zero(x y:Nat):cyA x y 0=0:=by simp[cyA,Nat.mod_one]
theorem cyA_le(x y i:Nat):cyA x y i<=1:=by
 unfold cyA
 have hp:0<4294967296^i:=Nat.pow_pos (by decide)
 have h1:=Nat.mod_lt x hp
 have h2:=Nat.mod_lt y hp
 generalize 4294967296^i=Q at *
 have:(x%Q+y%Q)/Q<2:=Nat.div_lt_of_lt_mul (by omega)
 omega
theorem sumDig(x y i s:Nat)(hs:s=dg x i+dg y i+cyA x y i):dg (x+y) i=s%4294967296/\cyA x y (i+1)=s/4294967296:=by
 have hp:0<4294967296^i:=Nat.pow_pos (by decide)
 have key:x%4294967296^(i+1)+y%4294967296^(i+1)=(x%4294967296^i+y%4294967296^i)%4294967296^i+s*4294967296^i:=by
  rw[dig_mod,dig_mod,hs,Nat.add_mul,Nat.add_mul]
  have h:=Nat.div_add_mod (x%4294967296^i+y%4294967296^i) (4294967296^i)
  rw[Nat.mul_comm]at h
  unfold cyA
  show _+dg x i*_+(_+dg y i*_)=_
  generalize dg x i*4294967296^i=a at *
  generalize dg y i*4294967296^i=b at *
  generalize (x%4294967296^i+y%4294967296^i)/4294967296^i*4294967296^i=c at *
  omega
 have hst:=step_dig (Q:=4294967296^i) (B:=4294967296) (s:=s) (Z:=x+y) (by decide) (Nat.mod_lt _ hp) (by rw[<-key,<-Nat.pow_succ];exact(Nat.add_mod x y _).trans rfl)
 refine⟨hst.1,?_⟩
 unfold cyA
 rw[key,Nat.pow_succ]
 exact hst.2
def boA(x y i:Nat):Nat:=if x%4294967296^i<y%4294967296^i then 1 else 0
theorem boA_zero(x y:Nat):boA x y 0=0:=by simp[boA,Nat.mod_one]
theorem boA_le(x y i:Nat):boA x y i<=1:=by unfold boA;split<;>omega
theorem difDig{x y:Nat}(i:Nat)(hxy:y<=x)(s:Nat)(hs:s=dg x i+4294967296-dg y i-boA x y i):dg (x-y) i=s%4294967296/\boA x y (i+1)=1-s/4294967296:=by
 have hp:0<4294967296^i:=Nat.pow_pos (by decide)
 have lx:=dg_lt x i
 have ly:=dg_lt y i
 have lb:=boA_le x y i
 have hX:x%4294967296^(i+1)=x%4294967296^i+dg x i*4294967296^i:=dig_mod _ _ _
 have hY:y%4294967296^(i+1)=y%4294967296^i+dg y i*4294967296^i:=dig_mod _ _ _
 have hbe:boA x y i=if x%4294967296^i<y%4294967296^i then 1 else 0:=rfl
 have mx:=Nat.mod_lt x hp
 have my:=Nat.mod_lt y hp
 have dx:=Nat.div_add_mod x (4294967296^i)
 have dy:=Nat.div_add_mod y (4294967296^i)
 have ex:dg x i=x/4294967296^i%4294967296:=rfl
 have ey:dg y i=y/4294967296^i%4294967296:=rfl
 have ez:dg (x-y) i=(x-y)/4294967296^i%4294967296:=rfl
 have hb1:boA x y (i+1)=if x%4294967296^i+dg x i*4294967296^i<y%4294967296^i+dg y i*4294967296^i then 1 else 0:=by unfold boA;rw[hX,hY]
 generalize boA x y (i+1)=b' at *
 generalize boA x y i=b at *
 generalize dg (x-y) i=z at *
 generalize dg x i=a at *
 generalize dg y i=e at *
 generalize 4294967296^i=Q at *
 generalize x%Q=X at *
 generalize y%Q=Y at *
 generalize x/Q=p at *
 generalize y/Q=q at *
 clear hX hY
 -- p - q - b is the quotient
 have hZ:x-y=(X+b*Q-Y)+(p-q-b)*Q/\X+b*Q-Y<Q/\q+b<=p:=by
  have hpq:q+b<=p:=by
   rcases Nat.lt_or_ge p (q+b)with h|h
   ·exfalso
    have h1:Q*(p+1)<=Q*(q+b):=Nat.mul_le_mul_left _ h
    rw[Nat.mul_add,Nat.mul_add,Nat.mul_one]at h1
    split at hbe
    ·subst hbe;rw[Nat.mul_one]at h1;omega
    ·subst hbe;rw[Nat.mul_zero]at h1;omega
   ·exact h
  obtain⟨t,rfl⟩:∃t,p=q+b+t:=⟨p-(q+b),by omega⟩
  rw[show q+b+t-q-b=t by omega]
  rw[Nat.mul_add,Nat.mul_add,Nat.mul_comm Q b,Nat.mul_comm Q t]at dx
  split at hbe
  ·subst hbe;rw[Nat.one_mul]at *;omega
  ·subst hbe;rw[Nat.zero_mul]at *;omega
 have hzq:(x-y)/Q=p-q-b:=by
  rw[hZ.1,Nat.add_mul_div_right _ _ (by omega),Nat.div_eq_of_lt hZ.2.1,Nat.zero_add]
 rw[hzq]at ez
 refine⟨by omega,?_⟩
 have hcmp:(X+a*Q<Y+e*Q)↔a<e+b:=by
  constructor
  ·intro h
   rcases Nat.lt_or_ge a (e+b)with h1|h1
   ·exact h1
   ·exfalso
    have h2:(e+b)*Q<=a*Q:=Nat.mul_le_mul_right _ h1
    rw[Nat.add_mul]at h2
    split at hbe
    ·subst hbe;rw[Nat.one_mul]at h2;omega
    ·subst hbe;rw[Nat.zero_mul]at h2;omega
  ·intro h
   split at hbe
   ·subst hbe
    have h2:a*Q<=e*Q:=Nat.mul_le_mul_right _ (by omega)
    omega
   ·subst hbe
    have h2:(a+1)*Q<=e*Q:=Nat.mul_le_mul_right _ (by omega)
    rw[Nat.add_mul,Nat.one_mul]at h2
    omega
 rw[hb1]
 by_cases h:a<e+b
 ·rw[if_pos (hcmp.2 h)];omega
 ·rw[if_neg (fun h2=>h (hcmp.1 h2))];omega
theorem ft1{ρ:Nat->Nat}{L:LL}{l:Nat}{C:List SV}{t:TypeId}(bC:bdLB 0 C=true)(h:find L (ρ l)=some ⟨ρ l,C,t⟩):foot ρ (find L) [⟨l,C,t⟩]:=
 ⟨by show find L (ρ l)=some ⟨ρ l,renL ρ C,t⟩;rw[rcl C bC];exact h,trivial⟩
theorem ft2{ρ:Nat->Nat}{L:LL}{l l':Nat}{C C':List SV}{t t':TypeId}(bC:bdLB 0 C=true)(bC':bdLB 0 C'=true)(h:find L (ρ l)=some ⟨ρ l,C,t⟩)(h':find L (ρ l')=some ⟨ρ l',C',t'⟩):foot ρ (find L) [⟨l,C,t⟩,⟨l',C',t'⟩]:=
 ⟨by show find L (ρ l)=some ⟨ρ l,renL ρ C,t⟩;rw[rcl C bC];exact h,by show find L (ρ l')=some ⟨ρ l',renL ρ C',t'⟩;rw[rcl C' bC'];exact h',trivial⟩
section
variable {A:Ar}
theorem lo32(hA:A=Ar.real){a b:Nat}(ha:a<0x10000000000000000)(hb:b=a%4294967296):A.bin .and .u64 (Int.ofNat a) 4294967295=Int.ofNat b:=
 (andW hA (k:= .u64) rfl (a:=a) (b:=4294967295) ha (by decide)).trans (congrArg Int.ofNat (by rw[hb,show(4294967295:Nat)=2^32-1 from rfl,Nat.and_two_pow_sub_one_eq_mod]))
theorem hi32(hA:A=Ar.real){a b:Nat}(hb:b=a/4294967296):A.sh .shr .u64 (Int.ofNat a) 32=Int.ofNat b:=
 (shrI hA (k:= .u64) (a:=a) (b:=32) (by decide)).trans (congrArg Int.ofNat hb.symm)
theorem c32(hA:A=Ar.real){a:Nat}(ha:a<4294967296):A.cvt .u32 (Int.ofNat a)=Int.ofNat a:=cvtI hA (fun h=>by cases h) (fun _=>ha)
theorem c64(hA:A=Ar.real){a:Nat}(ha:a<0x10000000000000000):A.cvt .u64 (Int.ofNat a)=Int.ofNat a:=cvtI hA (fun h=>by cases h) (fun _=>ha)
theorem subU(hA:A=Ar.real){a b d:Nat}(h:b<=a)(ha:a<0x10000000000000000)(hd:d=a-b):A.bin .sub .u64 (Int.ofNat a) (Int.ofNat b)=Int.ofNat d:=
 (subW hA (k:= .u64) rfl (a:=a) (b:=b) (by show b<=0x10000000000000000;omega)).trans (congrArg Int.ofNat (by rw[hd];show(a+0x10000000000000000-b)%0x10000000000000000=a-b;omega))
theorem addV(hA:A=Ar.real){a b d:Nat}(h:a+b<0x10000000000000000)(hd:d=a+b):A.bin .add .u64 (Int.ofNat a) (Int.ofNat b)=Int.ofNat d:=(addU hA h).trans (by rw[hd])
end
end Go.Vg
namespace Go.Proofs.YtdhmihfefgcbeaaGreat
open Go.Vg Go.RowKit
set_option maxRecDepth 200000
set_option cbv.maxSteps 100000000
theorem u32B{P:Program}(hP:P=Tryz.prog):(P.info? 58).map (·.bytes)=some 4:=by subst hP;kernel_rfl
def wr(h:Nat->Nat)(i:Nat):Nat->Nat:=fun j=>if j<i then h j else 0
theorem wr_step(h:Nat->Nat)(i v:Nat)(hv:v=h i):wr h (i+1)=fun j=>if j=i then v else wr h i j:=by
 funext j;unfold wr
 by_cases e:j=i
 ·rw[if_pos e,if_pos (by omega),hv,e]
 ·rw[if_neg e]
  by_cases e2:j<i
  ·rw[if_pos e2,if_pos (by omega)]
  ·rw[if_neg e2,if_neg (by omega)]
theorem wr_zero(h:Nat->Nat):wr h 0=fun _=>0:=by funext j;unfold wr;rw[if_neg (Nat.not_lt_zero j)]
theorem hs_wr(h:Nat->Nat)(c:Nat):hs (wr h c) c=hs h c:=hs_congr fun j hj=>by unfold wr;rw[if_pos hj]
theorem cRAdd{P:Program}(hP:P=Tryz.prog){n c x m e y:Nat}{f u:Nat->Nat}(hx:Nm n c f x)(hy:Nm m e u y)(hn:n<2^20)(hm:m<2^20)(k k1:Nat)(hk:k=max n m)(hk1:k1=k+1)(r:Nat)(hr:r=Vg.sz (x+y)):
 Con P 24 [.slice 0 0 n c,.slice 1 0 m e] [⟨0,hs f c,58⟩,⟨1,hs u e,58⟩] 2 [] (fun w L q=>w= .slice 2 0 r k1/\L=[⟨2,hs (dg (x+y)) k1,58⟩]/\q=3):=by
 obtain⟨Z,hZ⟩:=exq (fun i=>hs (wr (dg (x+y)) i) k1:Nat->List SV)
 have bZ:∀m i,bdLB m (Z i)=true:=fun m i=>by rw[hZ];exact hs_bd _ _ m
 have hZ0:List.replicate k1 (SV.int .u32 0)=Z 0:=by rw[hZ,hs_zero];show _=hs (wr _ 0) k1;rw[wr_zero]
 have hZn:Z k1=hs (dg (x+y)) k1:=by rw[hZ];exact hs_wr _ _
 suffices raw:Con P 24 [.slice 0 0 n c,.slice 1 0 m e] [⟨0,hs f c,58⟩,⟨1,hs u e,58⟩] 2 [] (fun w L q=>w= .slice 2 0 r k1/\find L 2=some ⟨2,Z k1,58⟩)from
  raw.weak fun v L q ⟨h1,h2⟩=>⟨_root_.id,.slice 2 0 r k1,[⟨2,Z k1,58⟩],3,by subst h1;exact weak_id ⟨rfl,rfl,trivial⟩ ⟨h2,rfl,bZ 3 k1,trivial⟩ rfl rfl,rfl,by rw[hZn],rfl⟩
 have hmax:Int.ofNat k=if Int.ofNat m>Int.ofNat n then Int.ofNat m else Int.ofNat n:=by
  by_cases h:n<m
  ·have h2:Int.ofNat m>Int.ofNat n:=Int.ofNat_lt.2 h
   rw[if_pos h2,hk,Nat.max_eq_right (Nat.le_of_lt h)]
  ·have h2:¬Int.ofNat m>Int.ofNat n:=fun h2=>h (Int.ofNat_lt.1 h2)
   rw[if_neg h2,hk,Nat.max_eq_left (by omega)]
 have hnk:n<=k:=by rw[hk];exact Nat.le_max_left _ _
 have hmk:m<=k:=by rw[hk];exact Nat.le_max_right _ _
 have hkb:k<2^20:=by rw[hk];exact Nat.max_lt.2 ⟨hn,hm⟩
 have hxy:x+y<4294967296^k1:=by
  have h1:=Nat.lt_of_lt_of_le hx.lt (Nat.pow_le_pow_right (show 0<4294967296 by decide) hnk)
  have h2:=Nat.lt_of_lt_of_le hy.lt (Nat.pow_le_pow_right (show 0<4294967296 by decide) hmk)
  rw[hk1,Nat.pow_succ];omega
 have hTr:Con P 42 [.slice 0 0 k1 k1] [⟨0,Z k1,58⟩] 1 [] (fun w _ _=>w= .slice 0 0 r k1):=by
  rw[hZn];exact cTrim hP (dg (x+y)) k1 k1 r (Nat.le_refl _) (by omega) (by rw[hr,tl_dg hxy])
 have hdx:∀i,Con P 49 [.slice 0 0 n c,.int .i64 (.ofNat i)] [⟨0,hs f c,58⟩] 1 [] (fun w _ _=>w= .int .u64 (.ofNat (dg x i))):=fun i=>cRDigit hP f n c i _ hx.le hx.w (by
  by_cases h:i<n
  ·rw[if_pos h,hx.dig h]
  ·rw[if_neg h,hx.digz (by omega)])
 have hdy:∀i,Con P 49 [.slice 0 0 m e,.int .i64 (.ofNat i)] [⟨0,hs u e,58⟩] 1 [] (fun w _ _=>w= .int .u64 (.ofNat (dg y i))):=fun i=>cRDigit hP u m e i _ hy.le hy.w (by
  by_cases h:i<m
  ·rw[if_pos h,hy.dig h]
  ·rw[if_neg h,hy.digz (by omega)])
 have hlast:cyA x y k=dg (x+y) k:=by
  have h1:=(sumDig x y k _ rfl).1
  rw[hx.digz hnk,hy.digz hmk]at h1
  have:=cyA_le x y k
  omega
 obtain⟨cy,hcy⟩:=exq (fun i=>cyA x y i:Nat->Nat)
 have cy0:cy 0=0:=by rw[hcy];exact cyA_zero x y
 have cyl:∀i,cy i<=1:=fun i=>by rw[hcy];exact cyA_le x y i
 have cys:∀i s,s=dg x i+dg y i+cy i->dg (x+y) i=s%4294967296/\cy (i+1)=s/4294967296:=fun i s h=>by rw[hcy]at *;exact sumDig x y i s h
 have cyk:cy k=dg (x+y) k:=by rw[hcy];exact hlast
 have dxl:=dg_lt x
 have dyl:=dg_lt y
 have dzl:=dg_lt (x+y)
 have hZs:∀i v,v=dg (x+y) i->wr (dg (x+y)) (i+1)=fun j=>if j=i then v else wr (dg (x+y)) i j:=fun i v h=>wr_step _ i v h
 obtain⟨X,hX⟩:=exq (dg x)
 obtain⟨Y,hY⟩:=exq (dg y)
 obtain⟨S,hS⟩:=exq (dg (x+y))
 rw[<-hX]at hdx dxl cys
 rw[<-hY]at hdy dyl cys
 rw[<-hS]at hZ dzl hZs cys cyk
 obtain⟨C,hC⟩:=exq (hs f c)
 have bC:∀m,bdLB m C=true:=fun m=>by rw[hC];exact hs_bd f c m
 obtain⟨E,hE⟩:=exq (hs u e)
 have bE:∀m,bdLB m E=true:=fun m=>by rw[hE];exact hs_bd u e m
 rw[<-hC]at hdx⊢
 rw[<-hE]at hdy⊢
 clear hC hE hX hY hS hZn
 refine cof hP Tryz.func24 ⟨blq rfl,⟨blq rfl,trivial⟩⟩ (by simpa [bdL,bd]using⟨bdb _ (bC 2),bdb _ (bE 2)⟩) ?_
 intro A g K hA hg hK
 obtain⟨bin,sh,cmp,_,cvt,ix,_,_,_,_,_,_,_,_,nat,off,_,_,_,spl⟩:=A
 have e0:∀n,nat n=Int.ofNat n:=fun n=>nat_of hA n
 have e1:bin .add .i64 (.ofNat k) 1=Int.ofNat k1:=(addI hA (a:=k) (b:=1) (by omega)).trans (by rw[hk1])
 have e2:∀i,i<k->cmp .lss (.ofNat i) (.ofNat k)=true:=fun i h=>lss_t hA h
 have e2f:cmp .lss (.ofNat k) (.ofNat k)=false:=lss_f hA (Nat.lt_irrefl k)
 have e3:∀i,i<k->bin .add .i64 (.ofNat i) 1=Int.ofNat (i+1):=fun i h=>addI hA (a:=i) (b:=1) (by omega)
 have e4:∀j,off 0 j 1=j:=fun j=>(off_of hA 0 j 1).trans (by omega)
 have e5:∀i,i<k1->ix (.ofNat i) k1=some i:=fun i h=>ix_of hA h
 have e6:∀i v,i<k1->v=S i->spl (Z i) i [.int .u32 (.ofNat v)]=some (Z (i+1)):=fun i v h hv=>by rw[hZ];exact splW hA .u32 (n:=k1) (wr S i) (wr S (i+1)) h (hZs i v hv)
 have hU:=u32B hP
 clear hZ
 cbv
 rw[e0,e0]
 refine step_max hg rfl rfl rfl rfl (r:=Int.ofNat k) hmax ?_
 cbv
 rw[e1]
 cbv
 refine smk (hP▸tblOk) hg rfl rfl (show tyT 27=some _ from rfl) rfl (show tyT 58=some _ from rfl) hU rfl (m:=k1) rfl rfl (by omega) (by omega) ?_
 rw[hZ0]
 cbv
 refine lpb Nat (fun i=>i<=k) (fun i=>k-i) (fun i=> [(7,.int .u64 (.ofNat (cy i))),(8,.int .i64 (.ofNat i))]) [0,1,4,5,6] (fun i=> [(2,Z i)]) 0 (Nat.zero_le _) ?_ ?_
 ·rw[cy0]
  exact wkih (by repeat' (first|exact trivial|refine⟨rfl,rfl,rfl,?_⟩|refine⟨rfl,rfl,bC 3,?_⟩|refine⟨rfl,rfl,bE 3,?_⟩|refine⟨rfl,rfl,bZ 3 0,?_⟩))
 intro i hi
 by_cases hlt:i<k
 ·obtain⟨s1,hs1⟩:=exq (X i+Y i)
  obtain⟨s2,hs2⟩:=exq (s1+cy i)
  obtain⟨s3,hs3⟩:=exq (s2%4294967296)
  have hl1:=dxl i
  have hl2:=dyl i
  have hl3:=cyl i
  obtain⟨q1,q2⟩:=cys i s2 (by rw[hs2,hs1])
  have g1:bin .add .u64 (.ofNat (X i)) (.ofNat (Y i))=Int.ofNat s1:=addV hA (by omega) hs1
  have g2:bin .add .u64 (.ofNat s1) (.ofNat (cy i))=Int.ofNat s2:=addV hA (by omega) hs2
  have g3:bin .and .u64 (.ofNat s2) 4294967295=Int.ofNat s3:=lo32 hA (by omega) hs3
  have g4:cvt .u32 (.ofNat s3)=Int.ofNat s3:=c32 hA (by omega)
  have g5:sh .shr .u64 (.ofNat s2) 32=Int.ofNat (cy (i+1)):=hi32 hA q2
  have g6:=e6 i s3 (by omega) (by rw[q1,hs3])
  obtain⟨cn,hcn⟩:=exq (cy (i+1))
  obtain⟨Zn,hZn⟩:=exq (Z (i+1))
  rw[<-hcn]at g5
  rw[<-hZn]at g6
  cbv
  rw[e2 i hlt]
  cbv
  refine cro rfl hg rfl rfl (hdx i) (fun _=>0) rfl (ft1 (bC 0) rfl) ?_
  rintro _ _ _ rfl
  refine⟨trivial,trivial,?_⟩
  cbv
  refine cro rfl hg rfl rfl (hdy i) (fun _=>1) rfl (ft1 (bE 0) rfl) ?_
  rintro _ _ _ rfl
  refine⟨trivial,trivial,?_⟩
  cbv
  rw[g1]
  cbv
  rw[g2]
  cbv
  rw[g3]
  cbv
  rw[g4]
  cbv
  rw[e5 i (by omega)]
  cbv
  rw[e4,g6]
  cbv
  rw[g5]
  cbv
  rw[e3 i hlt]
  refine⟨i+1,_root_.id,hlt,(by show k-(i+1)<k-i;omega),?_⟩
  rw[hcn,hZn]
  exact wkih (by repeat' (first|exact trivial|refine⟨rfl,rfl,rfl,?_⟩|refine⟨rfl,rfl,bC 3,?_⟩|refine⟨rfl,rfl,bE 3,?_⟩|refine⟨rfl,rfl,bZ 3 (i+1),?_⟩))
 ·obtain rfl:i=k:=by omega
  cbv
  rw[e2f]
  cbv
  have g4:cvt .u32 (.ofNat (cy i))=Int.ofNat (cy i):=c32 hA (by have:=cyl i;omega)
  have g6:=e6 i (cy i) (by omega) cyk
  rw[<-hk1]at g6
  rw[g4]
  cbv
  rw[e5 i (by omega)]
  cbv
  rw[e4,g6]
  cbv
  refine cro rfl hg rfl rfl hTr (fun _=>2) rfl (ft1 (bZ 0 k1) rfl) ?_
  rintro _ _ _ rfl
  refine⟨by simp[bd],by simp[bd,ren],?_⟩
  cbv
  exact hK _ _ _ ⟨rfl,rfl⟩
theorem cRSub{P:Program}(hP:P=Tryz.prog){n c x m e y:Nat}{f u:Nat->Nat}(hx:Nm n c f x)(hy:Nm m e u y)(hn:n<2^20)(hle:y<=x)(r:Nat)(hr:r=Vg.sz (x-y)):
 Con P 23 [.slice 0 0 n c,.slice 1 0 m e] [⟨0,hs f c,58⟩,⟨1,hs u e,58⟩] 2 [] (fun w L q=>w= .slice 2 0 r n/\L=[⟨2,hs (dg (x-y)) n,58⟩]/\q=3):=by
 obtain⟨Z,hZ⟩:=exq (fun i=>hs (wr (dg (x-y)) i) n:Nat->List SV)
 have bZ:∀m i,bdLB m (Z i)=true:=fun m i=>by rw[hZ];exact hs_bd _ _ m
 have hZ0:List.replicate n (SV.int .u32 0)=Z 0:=by rw[hZ,hs_zero];show _=hs (wr _ 0) n;rw[wr_zero]
 have hZn:Z n=hs (dg (x-y)) n:=by rw[hZ];exact hs_wr _ _
 suffices raw:Con P 23 [.slice 0 0 n c,.slice 1 0 m e] [⟨0,hs f c,58⟩,⟨1,hs u e,58⟩] 2 [] (fun w L q=>w= .slice 2 0 r n/\find L 2=some ⟨2,Z n,58⟩)from
  raw.weak fun v L q ⟨h1,h2⟩=>⟨_root_.id,.slice 2 0 r n,[⟨2,Z n,58⟩],3,by subst h1;exact weak_id ⟨rfl,rfl,trivial⟩ ⟨h2,rfl,bZ 3 n,trivial⟩ rfl rfl,rfl,by rw[hZn],rfl⟩
 have hxy:x-y<4294967296^n:=Nat.lt_of_le_of_lt (Nat.sub_le _ _) hx.lt
 have hTr:Con P 42 [.slice 0 0 n n] [⟨0,Z n,58⟩] 1 [] (fun w _ _=>w= .slice 0 0 r n):=by
  rw[hZn];exact cTrim hP (dg (x-y)) n n r (Nat.le_refl _) (by omega) (by rw[hr,tl_dg hxy])
 have hdx:∀i,Con P 49 [.slice 0 0 n c,.int .i64 (.ofNat i)] [⟨0,hs f c,58⟩] 1 [] (fun w _ _=>w= .int .u64 (.ofNat (dg x i))):=fun i=>cRDigit hP f n c i _ hx.le hx.w (by
  by_cases h:i<n
  ·rw[if_pos h,hx.dig h]
  ·rw[if_neg h,hx.digz (by omega)])
 have hdy:∀i,Con P 49 [.slice 0 0 m e,.int .i64 (.ofNat i)] [⟨0,hs u e,58⟩] 1 [] (fun w _ _=>w= .int .u64 (.ofNat (dg y i))):=fun i=>cRDigit hP u m e i _ hy.le hy.w (by
  by_cases h:i<m
  ·rw[if_pos h,hy.dig h]
  ·rw[if_neg h,hy.digz (by omega)])
 obtain⟨cy,hcy⟩:=exq (fun i=>boA x y i:Nat->Nat)
 have cy0:cy 0=0:=by rw[hcy];exact boA_zero x y
 have cyl:∀i,cy i<=1:=fun i=>by rw[hcy];exact boA_le x y i
 have cys:∀i s,s=dg x i+4294967296-dg y i-cy i->dg (x-y) i=s%4294967296/\cy (i+1)=1-s/4294967296:=fun i s h=>by rw[hcy]at *;exact difDig i hle s h
 have dxl:=dg_lt x
 have dyl:=dg_lt y
 have dzl:=dg_lt (x-y)
 have hZs:∀i v,v=dg (x-y) i->wr (dg (x-y)) (i+1)=fun j=>if j=i then v else wr (dg (x-y)) i j:=fun i v h=>wr_step _ i v h
 obtain⟨X,hX⟩:=exq (dg x)
 obtain⟨Y,hY⟩:=exq (dg y)
 obtain⟨S,hS⟩:=exq (dg (x-y))
 rw[<-hX]at hdx dxl cys
 rw[<-hY]at hdy dyl cys
 rw[<-hS]at hZ dzl hZs cys
 obtain⟨C,hC⟩:=exq (hs f c)
 have bC:∀m,bdLB m C=true:=fun m=>by rw[hC];exact hs_bd f c m
 obtain⟨E,hE⟩:=exq (hs u e)
 have bE:∀m,bdLB m E=true:=fun m=>by rw[hE];exact hs_bd u e m
 rw[<-hC]at hdx⊢
 rw[<-hE]at hdy⊢
 clear hC hE hX hY hS hZn
 refine cof hP Tryz.func23 ⟨blq rfl,⟨blq rfl,trivial⟩⟩ (by simpa [bdL,bd]using⟨bdb _ (bC 2),bdb _ (bE 2)⟩) ?_
 intro A g K hA hg hK
 obtain⟨bin,sh,cmp,_,cvt,ix,_,_,_,_,_,_,_,_,nat,off,_,_,sub,spl⟩:=A
 have e0:∀n,nat n=Int.ofNat n:=fun n=>nat_of hA n
 have e2:∀i,i<n->cmp .lss (.ofNat i) (.ofNat n)=true:=fun i h=>lss_t hA h
 have e2f:cmp .lss (.ofNat n) (.ofNat n)=false:=lss_f hA (Nat.lt_irrefl n)
 have e3:∀i,i<n->bin .add .i64 (.ofNat i) 1=Int.ofNat (i+1):=fun i h=>addI hA (a:=i) (b:=1) (by omega)
 have e4:∀j,off 0 j 1=j:=fun j=>(off_of hA 0 j 1).trans (by omega)
 have e5:∀i,i<n->ix (.ofNat i) n=some i:=fun i h=>ix_of hA h
 have e6:∀i v,i<n->v=S i->spl (Z i) i [.int .u32 (.ofNat v)]=some (Z (i+1)):=fun i v h hv=>by rw[hZ];exact splW hA .u32 (n:=n) (wr S i) (wr S (i+1)) h (hZs i v hv)
 have hU:=u32B hP
 clear hZ
 cbv
 rw[e0]
 refine smk (hP▸tblOk) hg rfl rfl (show tyT 27=some _ from rfl) rfl (show tyT 58=some _ from rfl) hU rfl (m:=n) rfl rfl (by omega) (by omega) ?_
 rw[hZ0]
 cbv
 refine lpb Nat (fun i=>i<=n) (fun i=>n-i) (fun i=> [(6,.int .u64 (.ofNat (cy i))),(7,.int .i64 (.ofNat i))]) [0,1,4,5] (fun i=> [(2,Z i)]) 0 (Nat.zero_le _) ?_ ?_
 ·rw[cy0]
  exact wkih (by repeat' (first|exact trivial|refine⟨rfl,rfl,rfl,?_⟩|refine⟨rfl,rfl,bC 3,?_⟩|refine⟨rfl,rfl,bE 3,?_⟩|refine⟨rfl,rfl,bZ 3 0,?_⟩))
 intro i hi
 by_cases hlt:i<n
 ·obtain⟨s1,hs1⟩:=exq (X i+4294967296)
  obtain⟨s2,hs2⟩:=exq (s1-Y i)
  obtain⟨s3,hs3⟩:=exq (s2-cy i)
  obtain⟨s4,hs4⟩:=exq (s3%4294967296)
  obtain⟨s5,hs5⟩:=exq (s3/4294967296)
  have hl1:=dxl i
  have hl2:=dyl i
  have hl3:=cyl i
  obtain⟨q1,q2⟩:=cys i s3 (by rw[hs3,hs2,hs1])
  have g1:bin .add .u64 (.ofNat (X i)) 4294967296=Int.ofNat s1:=addV hA (b:=4294967296) (by omega) hs1
  have g2:bin .sub .u64 (.ofNat s1) (.ofNat (Y i))=Int.ofNat s2:=subU hA (by omega) (by omega) hs2
  have g3:bin .sub .u64 (.ofNat s2) (.ofNat (cy i))=Int.ofNat s3:=subU hA (by omega) (by omega) hs3
  have g4:bin .and .u64 (.ofNat s3) 4294967295=Int.ofNat s4:=lo32 hA (by omega) hs4
  have g5:cvt .u32 (.ofNat s4)=Int.ofNat s4:=c32 hA (by omega)
  have g6:sh .shr .u64 (.ofNat s3) 32=Int.ofNat s5:=hi32 hA hs5
  have g7:bin .sub .u64 1 (.ofNat s5)=Int.ofNat (cy (i+1)):=subU hA (a:=1) (by omega) (by omega) (by rw[q2,hs5])
  have g8:=e6 i s4 (by omega) (by rw[q1,hs4])
  obtain⟨cn,hcn⟩:=exq (cy (i+1))
  obtain⟨Zn,hZn⟩:=exq (Z (i+1))
  rw[<-hcn]at g7
  rw[<-hZn]at g8
  cbv
  rw[e0]
  cbv
  rw[e2 i hlt]
  cbv
  refine cro rfl hg rfl rfl (hdx i) (fun _=>0) rfl (ft1 (bC 0) rfl) ?_
  rintro _ _ _ rfl
  refine⟨trivial,trivial,?_⟩
  cbv
  rw[g1]
  cbv
  refine cro rfl hg rfl rfl (hdy i) (fun _=>1) rfl (ft1 (bE 0) rfl) ?_
  rintro _ _ _ rfl
  refine⟨trivial,trivial,?_⟩
  cbv
  rw[g2]
  cbv
  rw[g3]
  cbv
  rw[g4]
  cbv
  rw[g5]
  cbv
  rw[e5 i (by omega)]
  cbv
  rw[e4,g8]
  cbv
  rw[g6]
  cbv
  rw[g7]
  cbv
  rw[e3 i hlt]
  refine⟨i+1,_root_.id,hlt,(by show n-(i+1)<n-i;omega),?_⟩
  rw[hcn,hZn]
  exact wkih (by repeat' (first|exact trivial|refine⟨rfl,rfl,rfl,?_⟩|refine⟨rfl,rfl,bC 3,?_⟩|refine⟨rfl,rfl,bE 3,?_⟩|refine⟨rfl,rfl,bZ 3 (i+1),?_⟩))
 ·obtain rfl:i=n:=by omega
  cbv
  rw[e0]
  cbv
  rw[e2f]
  cbv
  refine cro rfl hg rfl rfl hTr (fun _=>2) rfl (ft1 (bZ 0 i) rfl) ?_
  rintro _ _ _ rfl
  refine⟨by simp[bd],by simp[bd,ren],?_⟩
  cbv
  exact hK _ _ _ ⟨rfl,rfl⟩
end Go.Proofs.YtdhmihfefgcbeaaGreat
namespace Go.Vg
open Go.RowKit Go.Lib
def mT(x y i:Nat):Nat:=x%4294967296^i*y
def mC(x y i k:Nat):Nat:=(mT x y i%4294967296^(i+k)+dg x i*(y%4294967296^k)*4294967296^i)/4294967296^(i+k)
theorem mT_succ(x y i:Nat):mT x y (i+1)=mT x y i+dg x i*y*4294967296^i:=by
 unfold mT
 rw[dig_mod,Nat.add_mul]
 show _+dg x i*_*y=_
 rw[Nat.mul_assoc,Nat.mul_comm (4294967296^i) y,<-Nat.mul_assoc]
theorem mC_zero(x y i:Nat):mC x y i 0=0:=by
 unfold mC
 rw[Nat.pow_zero,Nat.mod_one,Nat.mul_zero,Nat.zero_mul,Nat.add_zero]
 exact Nat.div_eq_of_lt (Nat.mod_lt _ (Nat.pow_pos (by decide)))
theorem mulDig(x y i k s:Nat)(hs:s=dg x i*dg y k+dg (mT x y i) (i+k)+mC x y i k):dg (mT x y (i+1)) (i+k)=s%4294967296/\mC x y i (k+1)=s/4294967296:=by
 have hp:0<4294967296^(i+k):=Nat.pow_pos (by decide)
 have e1:mT x y i%4294967296^(i+(k+1))=mT x y i%4294967296^(i+k)+dg (mT x y i) (i+k)*4294967296^(i+k):=dig_mod _ _ _
 have e2:y%4294967296^(k+1)=y%4294967296^k+dg y k*4294967296^k:=dig_mod _ _ _
 have e3:dg x i*(y%4294967296^(k+1))*4294967296^i=dg x i*(y%4294967296^k)*4294967296^i+dg x i*dg y k*4294967296^(i+k):=by
  rw[e2,Nat.mul_add,Nat.add_mul,Nat.pow_add,Nat.mul_comm (4294967296^i) (4294967296^k),<-Nat.mul_assoc,<-Nat.mul_assoc]
 have key:mT x y i%4294967296^(i+(k+1))+dg x i*(y%4294967296^(k+1))*4294967296^i=(mT x y i%4294967296^(i+k)+dg x i*(y%4294967296^k)*4294967296^i)%4294967296^(i+k)+s*4294967296^(i+k):=by
  rw[e1,e3,hs,Nat.add_mul,Nat.add_mul]
  have h:=Nat.div_add_mod (mT x y i%4294967296^(i+k)+dg x i*(y%4294967296^k)*4294967296^i) (4294967296^(i+k))
  rw[Nat.mul_comm]at h
  unfold mC
  generalize dg x i*dg y k*4294967296^(i+k)=a at *
  generalize dg (mT x y i) (i+k)*4294967296^(i+k)=b at *
  generalize (mT x y i%4294967296^(i+k)+dg x i*(y%4294967296^k)*4294967296^i)/4294967296^(i+k)*4294967296^(i+k)=c at *
  omega
 have hm:mT x y (i+1)%(4294967296^(i+k)*4294967296)=(mT x y i%4294967296^(i+(k+1))+dg x i*(y%4294967296^(k+1))*4294967296^i)%(4294967296^(i+k)*4294967296):=by
  have hM:4294967296^(i+k)*4294967296=4294967296^(i+k+1):=(Nat.pow_succ ..).symm
  rw[hM,mT_succ,<-Nat.add_assoc i k 1]
  have hy:=Nat.div_add_mod y (4294967296^(k+1))
  have h2:dg x i*y*4294967296^i=dg x i*(y%4294967296^(k+1))*4294967296^i+4294967296^(i+k+1)*(dg x i*(y/4294967296^(k+1))):=by
   rw[show 4294967296^(i+k+1)=4294967296^(k+1)*4294967296^i from by rw[<-Nat.pow_add];congr 1;omega]
   have h3:dg x i*y*4294967296^i=dg x i*(4294967296^(k+1)*(y/4294967296^(k+1))+y%4294967296^(k+1))*4294967296^i:=by rw[hy]
   rw[h3,Nat.mul_add,Nat.add_mul]
   generalize y/4294967296^(k+1)=q
   generalize y%4294967296^(k+1)=r
   generalize 4294967296^(k+1)=Q
   generalize 4294967296^i=R
   generalize dg x i=d
   rw[Nat.add_comm,show d*(Q*q)*R=Q*R*(d*q) by ac_rfl]
  rw[h2,<-Nat.add_assoc,Nat.add_mul_mod_self_left,Nat.mod_add_mod]
 have hst:=step_dig (Q:=4294967296^(i+k)) (B:=4294967296) (s:=s) (Z:=mT x y (i+1)) (by decide) (Nat.mod_lt _ hp) (by rw[<-key];exact hm)
 refine⟨hst.1,?_⟩
 unfold mC
 rw[key,<-Nat.add_assoc,Nat.pow_succ]
 exact hst.2
theorem mC_lt(x y i:Nat):∀k,mC x y i k<4294967296
 |0=>by rw[mC_zero];decide
 |k+1=>by
  rw[(mulDig x y i k _ rfl).2]
  have h1:=mC_lt x y i k
  have h2:=dg_lt (mT x y i) (i+k)
  have h3:dg x i*dg y k<=4294967295*4294967295:=Nat.mul_le_mul (by have:=dg_lt x i;omega) (by have:=dg_lt y k;omega)
  omega
theorem dg_low{T z i j:Nat}(h:j<i):dg (T+z*4294967296^i) j=dg T j:=by
 unfold dg Dg.dig
 obtain⟨d,rfl⟩:∃d,i=j+(d+1):=⟨i-j-1,by omega⟩
 rw[Nat.pow_add,Nat.mul_comm (4294967296^j),<-Nat.mul_assoc,Nat.add_mul_div_right _ _ (Nat.pow_pos (by decide)),Nat.pow_succ,<-Nat.mul_assoc,Nat.add_mul_mod_self_right]
theorem mT_low(x y:Nat){i j:Nat}(h:j<i):dg (mT x y (i+1)) j=dg (mT x y i) j:=by rw[mT_succ];exact dg_low h
theorem mT_lt{x y m:Nat}(i:Nat)(hy:y<4294967296^m):mT x y i<4294967296^(i+m):=by
 unfold mT
 rw[Nat.pow_add]
 have h1:=Nat.mod_lt x (show 0<4294967296^i from Nat.pow_pos (by decide))
 exact Nat.mul_lt_mul'' h1 hy
def mR(x y i k:Nat):Nat->Nat:=fun j=>if j<i+k then dg (mT x y (i+1)) j else dg (mT x y i) j
theorem mR_zero(x y i:Nat):mR x y i 0=dg (mT x y i):=by
 funext j;unfold mR
 by_cases h:j<i+0
 ·rw[if_pos h,mT_low x y (by omega)]
 ·rw[if_neg h]
theorem mR_step(x y i k v:Nat)(hv:v=dg (mT x y (i+1)) (i+k)):mR x y i (k+1)=fun j=>if j=i+k then v else mR x y i k j:=by
 funext j;unfold mR
 by_cases e:j=i+k
 ·rw[if_pos e,if_pos (by omega),hv,e]
 ·rw[if_neg e]
  by_cases e2:j<i+k
  ·rw[if_pos e2,if_pos (by omega)]
  ·rw[if_neg e2,if_neg (by omega)]
theorem mR_end(x:Nat){y m:Nat}(i:Nat)(hy:y<4294967296^m):dg (mT x y (i+1))=fun j=>if j=i+m then mC x y i m else mR x y i m j:=by
 funext j;unfold mR
 by_cases e:j=i+m
 ·rw[if_pos e,e,(mulDig x y i m _ rfl).1,show dg y m=0 from Dg.dig_big (by decide) hy (Nat.le_refl m),show dg (mT x y i) (i+m)=0 from Dg.dig_big (by decide) (mT_lt i hy) (Nat.le_refl _),Nat.mul_zero,Nat.zero_add,Nat.mod_eq_of_lt (mC_lt x y i m)]
 ·rw[if_neg e]
  by_cases e2:j<i+m
  ·rw[if_pos e2]
  ·rw[if_neg e2,show dg (mT x y (i+1)) j=0 from Dg.dig_big (by decide) (mT_lt (i+1) hy) (by omega),show dg (mT x y i) j=0 from Dg.dig_big (by decide) (mT_lt i hy) (by omega)]
theorem mT_zero(x y:Nat):dg (mT x y 0)=fun _=>0:=by
 funext j;unfold mT dg Dg.dig;rw[Nat.pow_zero,Nat.mod_one,Nat.zero_mul,Nat.zero_div]
theorem mT_all{x n:Nat}(y:Nat)(hx:x<4294967296^n):mT x y n=x*y:=by unfold mT;rw[Nat.mod_eq_of_lt hx]
end Go.Vg
namespace Go.Proofs.YtdhmihfefgcbeaaGreat
open Go.Vg Go.RowKit
set_option maxRecDepth 200000
set_option cbv.maxSteps 100000000
theorem cRMul{P:Program}(hP:P=Tryz.prog){n c x m e y:Nat}{f u:Nat->Nat}(hx:Nm n c f x)(hy:Nm m e u y)(hn:n<2^20)(hm:m<2^20)(l r:Nat)(hl:l=n+m)(hr:r=Vg.sz (x*y)):
 Con P 97 [.slice 0 0 n c,.slice 1 0 m e] [⟨0,hs f c,58⟩,⟨1,hs u e,58⟩] 2 [] (fun w L q=>w= .slice 2 0 r l/\L=[⟨2,hs (dg (x*y)) l,58⟩]/\q=3):=by
 have hnc:=hx.le
 have hme:=hy.le
 obtain⟨Z,hZ⟩:=exq (fun i=>hs (dg (mT x y i)) l:Nat->List SV)
 obtain⟨R,hR⟩:=exq (fun i k=>hs (mR x y i k) l:Nat->Nat->List SV)
 have bZ:∀m i,bdLB m (Z i)=true:=fun m i=>by rw[hZ];exact hs_bd _ _ m
 have bR:∀m i k,bdLB m (R i k)=true:=fun m i k=>by rw[hR];exact hs_bd _ _ m
 have hZ0:List.replicate l (SV.int .u32 0)=Z 0:=by rw[hZ,hs_zero];show _=hs (dg (mT x y 0)) l;rw[mT_zero]
 have hZR:∀i,Z i=R i 0:=fun i=>by rw[hZ,hR];show hs _ l=hs (mR x y i 0) l;rw[mR_zero]
 have hZn:Z n=hs (dg (x*y)) l:=by rw[hZ];show hs (dg (mT x y n)) l=_;rw[mT_all y hx.lt]
 suffices raw:Con P 97 [.slice 0 0 n c,.slice 1 0 m e] [⟨0,hs f c,58⟩,⟨1,hs u e,58⟩] 2 [] (fun w L q=>w= .slice 2 0 r l/\find L 2=some ⟨2,Z n,58⟩)from
  raw.weak fun v L q ⟨h1,h2⟩=>⟨_root_.id,.slice 2 0 r l,[⟨2,Z n,58⟩],3,by subst h1;exact weak_id ⟨rfl,rfl,trivial⟩ ⟨h2,rfl,bZ 3 n,trivial⟩ rfl rfl,rfl,by rw[hZn],rfl⟩
 have hxy:x*y<4294967296^l:=by rw[hl,<-mT_all y hx.lt];exact mT_lt n hy.lt
 have hTr:Con P 42 [.slice 0 0 l l] [⟨0,Z n,58⟩] 1 [] (fun w _ _=>w= .slice 0 0 r l):=by
  rw[hZn];exact cTrim hP (dg (x*y)) l l r (Nat.le_refl _) (by omega) (by rw[hr,tl_dg hxy])
 obtain⟨cy,hcy⟩:=exq (fun i k=>mC x y i k:Nat->Nat->Nat)
 have cy0:∀i,cy i 0=0:=fun i=>by rw[hcy];exact mC_zero x y i
 have cyl:∀i k,cy i k<4294967296:=fun i k=>by rw[hcy];exact mC_lt x y i k
 obtain⟨X,hX⟩:=exq (dg x)
 obtain⟨Y,hY⟩:=exq (dg y)
 obtain⟨O,hO⟩:=exq (fun i k=>dg (mT x y i) (i+k):Nat->Nat->Nat)
 obtain⟨V',hV'⟩:=exq (fun i k=>dg (mT x y (i+1)) (i+k):Nat->Nat->Nat)
 have cys:∀i k s,s=X i*Y k+O i k+cy i k->V' i k=s%4294967296/\cy i (k+1)=s/4294967296:=fun i k s h=>by rw[hX,hY,hO,hcy]at h;rw[hV',hcy];exact mulDig x y i k s h
 have dX:∀i,i<n->f i=X i:=fun i h=>by rw[hX];exact hx.dig h
 have dY:∀i,i<m->u i=Y i:=fun i h=>by rw[hY];exact hy.dig h
 have lX:∀i,X i<4294967296:=fun i=>by rw[hX];exact dg_lt x i
 have lY:∀i,Y i<4294967296:=fun i=>by rw[hY];exact dg_lt y i
 have lO:∀i k,O i k<4294967296:=fun i k=>by rw[hO];exact dg_lt _ _
 have hRs:∀i k v,v=V' i k->mR x y i (k+1)=fun j=>if j=i+k then v else mR x y i k j:=fun i k v h=>mR_step x y i k v (by rw[h,hV'])
 have hRe:∀i,dg (mT x y (i+1))=fun j=>if j=i+m then cy i m else mR x y i m j:=fun i=>by rw[hcy];exact mR_end x i hy.lt
 have hRg:∀i k,mR x y i k (i+k)=O i k:=fun i k=>by rw[hO];unfold mR;rw[if_neg (Nat.lt_irrefl _)]
 obtain⟨C,hC⟩:=exq (hs f c)
 have bC:∀m,bdLB m C=true:=fun m=>by rw[hC];exact hs_bd f c m
 obtain⟨E,hE⟩:=exq (hs u e)
 have bE:∀m,bdLB m E=true:=fun m=>by rw[hE];exact hs_bd u e m
 rw[<-hC,<-hE]
 clear hX hY hZn hcy hO hV'
 refine cof hP Tryz.func97 ⟨blq rfl,⟨blq rfl,trivial⟩⟩ (by simpa [bdL,bd]using⟨bdb _ (bC 2),bdb _ (bE 2)⟩) ?_
 intro A g K hA hg hK
 obtain⟨bin,sh,cmp,_,cvt,ix,_,_,_,_,_,_,_,_,nat,off,get,_,_,spl⟩:=A
 have e0:∀n,nat n=Int.ofNat n:=fun n=>nat_of hA n
 have e1:∀a b d,d=a+b->a+b<2^40->bin .add .i64 (.ofNat a) (.ofNat b)=Int.ofNat d:=fun a b d h h2=>(addI hA (a:=a) (b:=b) (by omega)).trans (by rw[h])
 have e2:∀i k,i<k->cmp .lss (.ofNat i) (.ofNat k)=true:=fun i k h=>lss_t hA h
 have e2f:∀k,cmp .lss (.ofNat k) (.ofNat k)=false:=fun k=>lss_f hA (Nat.lt_irrefl k)
 have e3:∀i,i<2^40->bin .add .i64 (.ofNat i) 1=Int.ofNat (i+1):=fun i h=>addI hA (a:=i) (b:=1) (by omega)
 have e4:∀j,off 0 j 1=j:=fun j=>(off_of hA 0 j 1).trans (by omega)
 have e5:∀i k,i<k->ix (.ofNat i) k=some i:=fun i k h=>ix_of hA h
 have f5:∀k,k<n->get C k=some (.int .u32 (.ofNat (X k))):=fun k h=>by rw[<-dX k h,hC];exact getW hA .u32 f (by omega)
 have g5:∀k,k<m->get E k=some (.int .u32 (.ofNat (Y k))):=fun k h=>by rw[<-dY k h,hE];exact getW hA .u32 u (by omega)
 have r5:∀i k j,j=i+k->j<l->get (R i k) j=some (.int .u32 (.ofNat (O i k))):=fun i k j h h2=>by rw[<-hRg i k,<-h,hR];exact getW hA .u32 (mR x y i k) h2
 have r6:∀i k v j,j=i+k->j<l->v=V' i k->spl (R i k) j [.int .u32 (.ofNat v)]=some (R i (k+1)):=fun i k v j h h2 hv=>by subst h;rw[hR];exact splW hA .u32 (n:=l) (mR x y i k) (mR x y i (k+1)) h2 (hRs i k v hv)
 have r7:∀i j,j=i+m->j<l->spl (R i m) j [.int .u32 (.ofNat (cy i m))]=some (Z (i+1)):=fun i j h h2=>by subst h;rw[hR,hZ];exact splW hA .u32 (n:=l) (mR x y i m) (dg (mT x y (i+1))) h2 (hRe i)
 have hU:=u32B hP
 clear hZ hR hRs hRe hRg hC hE dX dY
 cbv
 rw[e0,e0]
 rw[e1 n m l hl (by omega)]
 cbv
 refine smk (hP▸tblOk) hg rfl rfl (show tyT 27=some _ from rfl) rfl (show tyT 58=some _ from rfl) hU rfl (m:=l) rfl rfl (by omega) (by omega) ?_
 rw[hZ0]
 cbv
 refine lpb Nat (fun i=>i<=n) (fun i=>n-i) (fun i=> [(6,.int .i64 (.ofNat i))]) [0,1,4,5] (fun i=> [(2,Z i)]) 0 (Nat.zero_le _) ?_ ?_
 ·exact wkih (by repeat' (first|exact trivial|refine⟨rfl,rfl,rfl,?_⟩|refine⟨rfl,rfl,bC 3,?_⟩|refine⟨rfl,rfl,bE 3,?_⟩|refine⟨rfl,rfl,bZ 3 0,?_⟩))
 intro i hi
 by_cases hlt:i<n
 ·cbv
  rw[e0]
  cbv
  rw[e2 i n hlt]
  cbv
  rw[hZR i]
  refine lpb Nat (fun k=>k<=m) (fun k=>m-k) (fun k=> [(7,.int .u64 (.ofNat (cy i k))),(8,.int .i64 (.ofNat k))]) [0,1,4,5,6] (fun k=> [(2,R i k)]) 0 (Nat.zero_le _) ?_ ?_
  ·rw[cy0]
   exact wkih (by repeat' (first|exact trivial|refine⟨rfl,rfl,rfl,?_⟩|refine⟨rfl,rfl,bC 3,?_⟩|refine⟨rfl,rfl,bE 3,?_⟩|refine⟨rfl,rfl,bR 3 i 0,?_⟩))
  intro k hk
  by_cases hkm:k<m
  ·obtain⟨ik,hik⟩:=exq (i+k)
   have hikl:ik<l:=by omega
   obtain⟨p,hp⟩:=exq (X i*Y k)
   obtain⟨s1,hs1⟩:=exq (p+O i k)
   obtain⟨s2,hs2⟩:=exq (s1+cy i k)
   obtain⟨s3,hs3⟩:=exq (s2%4294967296)
   have l1:=lX i
   have l2:=lY k
   have l3:=lO i k
   have l4:=cyl i k
   have l5:p<=4294967295*4294967295:=by rw[hp];exact Nat.mul_le_mul (by omega) (by omega)
   obtain⟨q1,q2⟩:=cys i k s2 (by rw[hs2,hs1,hp])
   have gp:bin .mul .u64 (.ofNat (X i)) (.ofNat (Y k))=Int.ofNat p:=(mulW hA (k:= .u64) rfl (X i) (Y k)).trans (congrArg Int.ofNat (by rw[hp];exact Nat.mod_eq_of_lt (by show X i*Y k<0x10000000000000000;omega)))
   have g1:bin .add .u64 (.ofNat p) (.ofNat (O i k))=Int.ofNat s1:=addV hA (by omega) hs1
   have g2:bin .add .u64 (.ofNat s1) (.ofNat (cy i k))=Int.ofNat s2:=addV hA (by omega) hs2
   have g3:bin .and .u64 (.ofNat s2) 4294967295=Int.ofNat s3:=lo32 hA (by omega) hs3
   have g4:cvt .u32 (.ofNat s3)=Int.ofNat s3:=c32 hA (by omega)
   have gs:sh .shr .u64 (.ofNat s2) 32=Int.ofNat (cy i (k+1)):=hi32 hA q2
   have c1:cvt .u64 (.ofNat (X i))=Int.ofNat (X i):=c64 hA (by omega)
   have c2:cvt .u64 (.ofNat (Y k))=Int.ofNat (Y k):=c64 hA (by omega)
   have c3:cvt .u64 (.ofNat (O i k))=Int.ofNat (O i k):=c64 hA (by omega)
   have ga:=e1 i k ik hik (by omega)
   have gr:=r5 i k ik hik hikl
   have gw:=r6 i k s3 ik hik hikl (by rw[q1,hs3])
   obtain⟨cn,hcn⟩:=exq (cy i (k+1))
   obtain⟨Rn,hRn⟩:=exq (R i (k+1))
   rw[<-hcn]at gs
   rw[<-hRn]at gw
   cbv
   rw[e0]
   cbv
   rw[e2 k m hkm]
   cbv
   refine rgM hP hA hg fun mk _=> ?_
   cbv
   rw[e5 i n hlt]
   cbv
   rw[e4,f5 i hlt]
   cbv
   rw[c1]
   cbv
   rw[e5 k m hkm]
   cbv
   rw[e4,g5 k hkm]
   cbv
   rw[c2]
   cbv
   rw[gp]
   cbv
   rw[ga]
   cbv
   rw[e5 ik l hikl]
   cbv
   rw[e4,gr]
   cbv
   rw[c3]
   cbv
   rw[g1]
   cbv
   rw[g2]
   cbv
   rw[ga]
   cbv
   rw[g3]
   cbv
   rw[g4]
   cbv
   rw[e5 ik l hikl]
   cbv
   rw[e4,gw]
   cbv
   rw[gs]
   cbv
   rw[e3 k (by omega)]
   refine⟨k+1,_root_.id,hkm,(by show m-(k+1)<m-k;omega),?_⟩
   rw[hcn,hRn]
   exact wkih (by repeat' (first|exact trivial|refine⟨rfl,rfl,rfl,?_⟩|refine⟨rfl,rfl,bC 3,?_⟩|refine⟨rfl,rfl,bE 3,?_⟩|refine⟨rfl,rfl,bR 3 i (k+1),?_⟩))
  ·obtain⟨km,hkm2⟩:=exq k
   have hke:k=m:=by omega
   obtain⟨im,him⟩:=exq (i+m)
   have himl:im<l:=by omega
   have ga:=e1 i m im him (by omega)
   have gw:=r7 i im him himl
   have g4:cvt .u32 (.ofNat (cy i m))=Int.ofNat (cy i m):=c32 hA (cyl i m)
   have g3:=e3 i (by omega)
   clear hkm2
   subst hke
   obtain⟨Zn,hZn⟩:=exq (Z (i+1))
   rw[<-hZn]at gw
   cbv
   rw[e0]
   cbv
   rw[e2f]
   cbv
   rw[e0]
   cbv
   rw[ga]
   cbv
   rw[g4]
   cbv
   rw[e5 im l himl]
   cbv
   rw[e4,gw]
   cbv
   rw[g3]
   refine⟨i+1,_root_.id,hlt,(by show n-(i+1)<n-i;omega),?_⟩
   rw[hZn]
   exact wkih (by repeat' (first|exact trivial|refine⟨rfl,rfl,rfl,?_⟩|refine⟨rfl,rfl,bC 3,?_⟩|refine⟨rfl,rfl,bE 3,?_⟩|refine⟨rfl,rfl,bZ 3 (i+1),?_⟩))
 ·obtain rfl:i=n:=by omega
  cbv
  rw[e0]
  cbv
  rw[e2f]
  cbv
  refine cro rfl hg rfl rfl hTr (fun _=>2) rfl (ft1 (bZ 0 i) rfl) ?_
  rintro _ _ _ rfl
  refine⟨by simp[bd],by simp[bd,ren],?_⟩
  cbv
  exact hK _ _ _ ⟨rfl,rfl⟩
end Go.Proofs.YtdhmihfefgcbeaaGreat
