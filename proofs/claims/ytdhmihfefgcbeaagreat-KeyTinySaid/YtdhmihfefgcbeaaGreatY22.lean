/-
  This text proves what these texts prove: Pa, Pb, Pc, Pd, Pe, Pg, Pl, Pm, Pn, Po, Pp, Pq. Conditions: those of each theorem.
-/
import Derived.Test.YtdhmihfefgcbeaaGreatY21
set_option maxHeartbeats 8000000
set_option linter.all false
namespace Go.Vg
open Go.RowKit Go.Lib
def hs(f:Nat->Nat)(c:Nat):List SV:=lst .u32 (fun j=>Int.ofNat (f j)) 0 c
theorem hs_bd(f:Nat->Nat)(c m:Nat):bdLB m (hs f c)=true:=lst_bd m .u32 _ 0 c
theorem hs_zero(m:Nat):List.replicate m (SV.int .u32 0)=hs (fun _=>0) m:=by
 have:∀m s,List.replicate m (SV.int .u32 0)=lst .u32 (fun _=>Int.ofNat 0) s m:=fun m=>by
  induction m with
  |zero=>intro s;rfl
  |succ m ih=>intro s;rw[List.replicate_succ,ih (s+1)];rfl
 exact this m 0
theorem hs_congr{f g:Nat->Nat}{c:Nat}(h:∀j,j<c->f j=g j):hs f c=hs g c:=lcg fun j _ hj=>by rw[h j (by omega)]
structure Nm(n c:Nat)(f:Nat->Nat)(x:Nat):Prop where
 le:n<=c
 w:∀j,j<c->f j<4294967296
 v:Dg.num 4294967296 f n=x
 tr:n=0\/f (n-1)≠0
def tl(f:Nat->Nat):Nat->Nat
 |0=>0
 |m+1=>if f m=0 then tl f m else m+1
theorem tl_le(f:Nat->Nat):∀m,tl f m<=m
 |0=>Nat.le_refl _
 |m+1=>by unfold tl;split;exact Nat.le_succ_of_le (tl_le f m);exact Nat.le_refl _
theorem tl_tr(f:Nat->Nat):∀m,tl f m=0\/f (tl f m-1)≠0
 |0=>Or.inl rfl
 |m+1=>by
  unfold tl;split
  ·exact tl_tr f m
  ·rename_i h;exact Or.inr h
theorem tl_zero(f:Nat->Nat):∀m j,tl f m<=j->j<m->f j=0
 |0,_,_,h=>absurd h (Nat.not_lt_zero _)
 |m+1,j,h1,h2=>by
  unfold tl at h1;split at h1
  ·rcases Nat.lt_or_ge j m with h3|h3
   ·exact tl_zero f m j h1 h3
   ·rw[show j=m by omega];assumption
  ·omega
theorem tl_num(b:Nat)(f:Nat->Nat)(m:Nat):Dg.num b f (tl f m)=Dg.num b f m:=by
 have h:=Dg.num_zero (b:=b) f (tl f m) (m-tl f m) (fun i h1 h2=>tl_zero f m i h1 (by have:=tl_le f m;omega))
 rw[<-h,Nat.add_sub_cancel' (tl_le f m)]
theorem Nm.of{f:Nat->Nat}{m c:Nat}(hm:m<=c)(hw:∀j,j<c->f j<4294967296):Nm (tl f m) c f (Dg.num 4294967296 f m):=
 ⟨Nat.le_trans (tl_le f m) hm,hw,tl_num _ f m,tl_tr f m⟩
def IsSz(n x:Nat):Prop:=x<4294967296^n/\(n=0\/4294967296^(n-1)<=x)
theorem IsSz.uniq{n m x:Nat}(h:IsSz n x)(g:IsSz m x):n=m:=by
 have key:∀ {a b:Nat},IsSz a x->IsSz b x->¬a<b:=fun {a b} ha hb hlt=>by
  rcases hb.2 with h0|h0
  ·omega
  ·exact absurd (Nat.lt_of_lt_of_le ha.1 (Nat.pow_le_pow_right (by decide) (show a<=b-1 by omega))) (Nat.not_lt.2 h0)
 have h1:=key h g
 have h2:=key g h
 omega
theorem Nm.lt{n c x:Nat}{f:Nat->Nat}(h:Nm n c f x):x<4294967296^n:=by
 rw[<-h.v];exact Dg.num_lt n fun i hi=>h.w i (Nat.lt_of_lt_of_le hi h.le)
theorem Nm.sz{n c x:Nat}{f:Nat->Nat}(h:Nm n c f x):IsSz n x:=by
 refine⟨h.lt,?_⟩
 cases n with
 |zero=>exact Or.inl rfl
 |succ n=>
  right
  rcases h.tr with h0|h0
  ·omega
  ·rw[<-h.v]
   simp only[Nat.add_sub_cancel]at h0⊢
   show _<=Dg.num 4294967296 f n+f n*4294967296^n
   have:1*4294967296^n<=f n*4294967296^n:=Nat.mul_le_mul_right _ (by omega)
   omega
def dg(x:Nat):Nat->Nat:=Dg.dig 4294967296 x
theorem dg_lt(x j:Nat):dg x j<4294967296:=Dg.dig_lt (by decide) x j
def sz(x:Nat):Nat:=tl (dg x) x
theorem nm_dg0{x k:Nat}(h:x<4294967296^k):Nm (tl (dg x) k) k (dg x) x:=by
 have h1:=Nm.of (f:=dg x) (Nat.le_refl k) (fun j _=>dg_lt x j)
 have h2:Dg.num 4294967296 (dg x) k=x:=(Dg.num_dig (by decide) x k).trans (Nat.mod_eq_of_lt h)
 rwa [h2]at h1
theorem nm_dg{x k:Nat}(h:x<4294967296^k):Nm (sz x) k (dg x) x:=by
 have h1:=nm_dg0 h
 have h2:=nm_dg0 (x:=x) (k:=x) (Nat.lt_of_lt_of_le (Nat.lt_two_pow_self) (Nat.pow_le_pow_left (by decide) x))
 have h3:tl (dg x) k=sz x:=h1.sz.uniq h2.sz
 rwa [h3]at h1
theorem tl_dg{x k:Nat}(h:x<4294967296^k):tl (dg x) k=sz x:=(nm_dg0 h).sz.uniq (nm_dg h).sz
theorem Nm.n_le{n c x k:Nat}{f:Nat->Nat}(h:Nm n c f x)(hx:x<4294967296^k):n<=k:=by
 rcases h.sz.2 with h0|h0
 ·omega
 ·rcases Nat.lt_or_ge k n with h1|h1
  ·exact absurd (Nat.lt_of_le_of_lt h0 hx) (Nat.not_lt.2 (Nat.pow_le_pow_right (by decide) (by omega)))
  ·exact h1
theorem Nm.zero{n c x:Nat}{f:Nat->Nat}(h:Nm n c f x):n=0↔x=0:=by
 constructor
 ·intro h0;have:=h.lt;rw[h0]at this;omega
 ·intro h0;exact Nat.le_zero.1 (h.n_le (k:=0) (by rw[h0];decide))
theorem Nm.dig{n c x:Nat}{f:Nat->Nat}(h:Nm n c f x){i:Nat}(hi:i<n):f i=dg x i:=by
 rw[<-h.v];exact(Dg.dig_num (by decide) n (fun j hj=>h.w j (Nat.lt_of_lt_of_le hj h.le)) i hi).symm
theorem Nm.digz{n c x:Nat}{f:Nat->Nat}(h:Nm n c f x){i:Nat}(hi:n<=i):dg x i=0:=Dg.dig_big (by decide) h.lt hi
end Go.Vg
namespace Go.Proofs.YtdhmihfefgcbeaaGreat
open Go.Vg Go.RowKit
set_option maxRecDepth 200000
set_option cbv.maxSteps 100000000
theorem cTrim{P:Program}(hP:P=Tryz.prog)(f:Nat->Nat)(m c r:Nat)(hm:m<=c)(hm2:m<2^40)(hr:r=tl f m):Con P 42 [.slice 0 0 m c] [⟨0,hs f c,58⟩] 1 [] (fun w _ _=>w= .slice 0 0 r c):=by
 obtain⟨C,hC⟩:=exq (hs f c)
 have bC:∀m,bdLB m C=true:=fun m=>by rw[hC];exact hs_bd f c m
 rw[<-hC]
 refine cof hP Tryz.func42 ⟨blq rfl,trivial⟩ (by simpa [bdL,bd]using bdb _ (bC 1)) ?_
 intro A g K hA hg hK
 obtain⟨bin,_,cmp,_,_,ix,_,_,_,_,_,_,_,_,nat,off,get,_,sub⟩:=A
 have f1:∀k,0<k->cmp .gtr (.ofNat k) 0=true:=fun k h=>gtr_t hA (b:=0) h
 have f1f:∀k,¬0<k->cmp .gtr (.ofNat k) 0=false:=fun k h=>gtr_f hA (b:=0) h
 have f2:∀k l,k=l+1->k<=m->bin .sub .i64 (.ofNat k) 1=Int.ofNat l:=fun k l h h2=>(subI hA (a:=k) (b:=1) (by omega) (by omega)).trans (by rw[h,Nat.add_sub_cancel])
 have f3:∀k,k<m->ix (.ofNat k) m=some k:=fun k h=>ix_of hA h
 have f4:∀k,off 0 k 1=k:=fun k=>(off_of hA 0 k 1).trans (by omega)
 have f5:∀k,k<c->get C k=some (.int .u32 (.ofNat (f k))):=fun k h=>by rw[hC];exact getW hA .u32 f h
 have f6:∀k,f k=0->cmp .eql (.ofNat (f k)) 0=true:=fun k h=>eql_t hA (b:=0) h
 have f6f:∀k,f k≠0->cmp .eql (.ofNat (f k)) 0=false:=fun k h=>eql_f hA (b:=0) h
 have e0:nat m=Int.ofNat m:=nat_of hA m
 have hSl:∀k,k<=m->SlR P 27 (.slice 0 0 m c) none (some (.i64,Int.ofNat k)) (.slice 0 0 k c):=fun k h=>slr_h (hP▸tblOk) (show tyT 27=some _ from rfl) rfl 0 0 m c (j:=k) (by omega)
 clear hC
 cbv
 rw[e0]
 refine lpb Nat (fun k=>k<=m/\tl f k=r) (fun k=>k) (fun k=> [(3,.int .i64 (.ofNat k))]) [0,2] (fun _=> []) m ⟨Nat.le_refl _,hr.symm⟩ ?_ ?_
 ·exact wkih (by repeat' (first|exact trivial|refine⟨rfl,rfl,rfl,?_⟩|refine⟨rfl,rfl,bC 1,?_⟩))
 rintro k ⟨hk,ht⟩
 by_cases h0:0<k
 ·obtain⟨l,hl⟩:∃l,k=l+1:=⟨k-1,by omega⟩
  by_cases hz:f l=0
  ·cbv
   rw[f1 k h0]
   cbv
   rw[f2 k l hl hk]
   cbv
   rw[f3 l (by omega)]
   cbv
   rw[f4,f5 l (by omega)]
   cbv
   rw[f6 l hz]
   cbv
   rw[f2 k l hl hk]
   refine⟨l,_root_.id,⟨by omega,?_⟩,(by omega),?_⟩
   ·rw[<-ht,hl,show tl f (l+1)=if f l=0 then tl f l else l+1 from rfl,if_pos hz]
   exact wkih (by repeat' (first|exact trivial|refine⟨rfl,rfl,rfl,?_⟩|refine⟨rfl,rfl,bC 1,?_⟩))
  ·cbv
   rw[f1 k h0]
   cbv
   rw[f2 k l hl hk]
   cbv
   rw[f3 l (by omega)]
   cbv
   rw[f4,f5 l (by omega)]
   cbv
   rw[f6f l hz]
   cbv
   refine ssl hg rfl rfl rfl rfl rfl (hSl k hk) ?_
   cbv
   refine hK _ _ _ ?_
   rw[<-ht,hl,show tl f (l+1)=if f l=0 then tl f l else l+1 from rfl,if_neg hz]
   rfl
 ·have hkr:k=r:=by rw[<-ht,show k=0 by omega];rfl
  cbv
  rw[f1f k h0]
  cbv
  refine ssl hg rfl rfl rfl rfl rfl (hSl k hk) ?_
  cbv
  refine hK _ _ _ ?_
  rw[hkr]
  rfl
theorem cRDigit{P:Program}(hP:P=Tryz.prog)(f:Nat->Nat)(n c i d:Nat)(hn:n<=c)(hw:∀j,j<c->f j<4294967296)(hd:d=if i<n then f i else 0):Con P 49 [.slice 0 0 n c,.int .i64 (.ofNat i)] [⟨0,hs f c,58⟩] 1 [] (fun w _ _=>w= .int .u64 (.ofNat d)):=by
 obtain⟨C,hC⟩:=exq (hs f c)
 have bC:∀m,bdLB m C=true:=fun m=>by rw[hC];exact hs_bd f c m
 rw[<-hC]
 refine cof hP Tryz.func49 ⟨blq rfl,⟨trivial,trivial⟩⟩ (by simpa [bdL,bd]using bdb _ (bC 1)) ?_
 intro A g K hA hg hK
 obtain⟨_,_,cmp,_,cvt,ix,_,_,_,_,_,_,_,_,nat,off,get⟩:=A
 have e0:nat n=Int.ofNat n:=nat_of hA n
 have f4:off 0 i 1=i:=(off_of hA 0 i 1).trans (by omega)
 cbv
 rw[e0]
 by_cases h:i<n
 ·have f1:cmp .lss (.ofNat i) (.ofNat n)=true:=lss_t hA h
  have f3:ix (.ofNat i) n=some i:=ix_of hA h
  have f5:get C i=some (.int .u32 (.ofNat (f i))):=by rw[hC];exact getW hA .u32 f (by omega)
  have f6:cvt .u64 (.ofNat (f i))=Int.ofNat (f i):=cvtI hA (fun h=>by cases h) (fun _=>by have:=hw i (by omega);show f i<0x10000000000000000;omega)
  clear hC
  rw[f1]
  cbv
  rw[f3]
  cbv
  rw[f4,f5]
  cbv
  rw[f6]
  refine hK _ _ _ ?_
  rw[hd,if_pos h]
  rfl
 ·rw[show cmp .lss (.ofNat i) (.ofNat n)=false from lss_f hA h]
  cbv
  refine hK _ _ _ ?_
  rw[hd,if_neg h]
  rfl
end Go.Proofs.YtdhmihfefgcbeaaGreat
namespace Go.Vg
open Go.RowKit Go.Lib
theorem dig_mod(b z i:Nat):z%b^(i+1)=z%b^i+Dg.dig b z i*b^i:=by
 rw[Nat.mod_pow_succ,Nat.mul_comm];rfl
def boA(x y i:Nat):Nat:=if x%4294967296^i<y%4294967296^i then 1 else 0
theorem boA_zero(x y:Nat):boA x y 0=0:=by simp[boA,Nat.mod_one]
theorem boA_le(x y i:Nat):boA x y i<=1:=by unfold boA;split<;>omega
theorem difDig{x y:Nat}(i:Nat)(hxy:y<=x)(s:Nat)(hs:s=dg x i+4294967296-dg y i-boA x y i):dg (x-y) i=s%4294967296/\boA x y (i+1)=1-s/4294967296:=by
 have hp:0<4294967296^i:=Nat.pow_pos (by decide)
 have lx:=dg_lt x i
 have ly:=dg_lt y i
 have lb:=boA_le x y i
 have hX:x%4294967296^(i+1)=x%4294967296^i+dg x i*4294967296^i:=dig_mod _ _ _
 have hY:y%4294967296^(i+1)=y%4294967296^i+dg y i*4294967296^i:=dig_mod _ _ _
 have hbe:boA x y i=if x%4294967296^i<y%4294967296^i then 1 else 0:=rfl
 have mx:=Nat.mod_lt x hp
 have my:=Nat.mod_lt y hp
 have dx:=Nat.div_add_mod x (4294967296^i)
 have dy:=Nat.div_add_mod y (4294967296^i)
 have ex:dg x i=x/4294967296^i%4294967296:=rfl
 have ey:dg y i=y/4294967296^i%4294967296:=rfl
 have ez:dg (x-y) i=(x-y)/4294967296^i%4294967296:=rfl
 have hb1:boA x y (i+1)=if x%4294967296^i+dg x i*4294967296^i<y%4294967296^i+dg y i*4294967296^i then 1 else 0:=by unfold boA;rw[hX,hY]
 generalize boA x y (i+1)=b' at *
 generalize boA x y i=b at *
 generalize dg (x-y) i=z at *
 generalize dg x i=a at *
 generalize dg y i=e at *
 generalize 4294967296^i=Q at *
 generalize x%Q=X at *
 generalize y%Q=Y at *
 generalize x/Q=p at *
 generalize y/Q=q at *
 clear hX hY
 -- p - q - b is the quotient
 have hZ:x-y=(X+b*Q-Y)+(p-q-b)*Q/\X+b*Q-Y<Q/\q+b<=p:=by
  have hpq:q+b<=p:=by
   rcases Nat.lt_or_ge p (q+b)with h|h
   ·exfalso
    have h1:Q*(p+1)<=Q*(q+b):=Nat.mul_le_mul_left _ h
    rw[Nat.mul_add,Nat.mul_add,Nat.mul_one]at h1
    split at hbe
    ·subst hbe;rw[Nat.mul_one]at h1;omega
    ·subst hbe;rw[Nat.mul_zero]at h1;omega
   ·exact h
  obtain⟨t,rfl⟩:∃t,p=q+b+t:=⟨p-(q+b),by omega⟩
  rw[show q+b+t-q-b=t by omega]
  rw[Nat.mul_add,Nat.mul_add,Nat.mul_comm Q b,Nat.mul_comm Q t]at dx
  split at hbe
  ·subst hbe;rw[Nat.one_mul]at *;omega
  ·subst hbe;rw[Nat.zero_mul]at *;omega
 have hzq:(x-y)/Q=p-q-b:=by
  rw[hZ.1,Nat.add_mul_div_right _ _ (by omega),Nat.div_eq_of_lt hZ.2.1,Nat.zero_add]
 rw[hzq]at ez
 refine⟨by omega,?_⟩
 have hcmp:(X+a*Q<Y+e*Q)↔a<e+b:=by
  constructor
  ·intro h
   rcases Nat.lt_or_ge a (e+b)with h1|h1
   ·exact h1
   ·exfalso
    have h2:(e+b)*Q<=a*Q:=Nat.mul_le_mul_right _ h1
    rw[Nat.add_mul]at h2
    split at hbe
    ·subst hbe;rw[Nat.one_mul]at h2;omega
    ·subst hbe;rw[Nat.zero_mul]at h2;omega
  ·intro h
   split at hbe
   ·subst hbe
    have h2:a*Q<=e*Q:=Nat.mul_le_mul_right _ (by omega)
    omega
   ·subst hbe
    have h2:(a+1)*Q<=e*Q:=Nat.mul_le_mul_right _ (by omega)
    rw[Nat.add_mul,Nat.one_mul]at h2
    omega
 rw[hb1]
 by_cases h:a<e+b
 ·rw[if_pos (hcmp.2 h)];omega
 ·rw[if_neg (fun h2=>h (hcmp.1 h2))];omega
theorem ft1{ρ:Nat->Nat}{L:LL}{l:Nat}{C:List SV}{t:TypeId}(bC:bdLB 0 C=true)(h:find L (ρ l)=some ⟨ρ l,C,t⟩):foot ρ (find L) [⟨l,C,t⟩]:=
 ⟨by show find L (ρ l)=some ⟨ρ l,renL ρ C,t⟩;rw[rcl C bC];exact h,trivial⟩
theorem ft2{ρ:Nat->Nat}{L:LL}{l l':Nat}{C C':List SV}{t t':TypeId}(bC:bdLB 0 C=true)(bC':bdLB 0 C'=true)(h:find L (ρ l)=some ⟨ρ l,C,t⟩)(h':find L (ρ l')=some ⟨ρ l',C',t'⟩):foot ρ (find L) [⟨l,C,t⟩,⟨l',C',t'⟩]:=
 ⟨by show find L (ρ l)=some ⟨ρ l,renL ρ C,t⟩;rw[rcl C bC];exact h,by show find L (ρ l')=some ⟨ρ l',renL ρ C',t'⟩;rw[rcl C' bC'];exact h',trivial⟩
section
variable {A:Ar}
theorem lo32(hA:A=Ar.real){a b:Nat}(ha:a<0x10000000000000000)(hb:b=a%4294967296):A.bin .and .u64 (Int.ofNat a) 4294967295=Int.ofNat b:=
 (andW hA (k:= .u64) rfl (a:=a) (b:=4294967295) ha (by decide)).trans (congrArg Int.ofNat (by rw[hb,show(4294967295:Nat)=2^32-1 from rfl,Nat.and_two_pow_sub_one_eq_mod]))
theorem hi32(hA:A=Ar.real){a b:Nat}(hb:b=a/4294967296):A.sh .shr .u64 (Int.ofNat a) 32=Int.ofNat b:=
 (shrI hA (k:= .u64) (a:=a) (b:=32) (by decide)).trans (congrArg Int.ofNat hb.symm)
theorem c32(hA:A=Ar.real){a:Nat}(ha:a<4294967296):A.cvt .u32 (Int.ofNat a)=Int.ofNat a:=cvtI hA (fun h=>by cases h) (fun _=>ha)
theorem subU(hA:A=Ar.real){a b d:Nat}(h:b<=a)(ha:a<0x10000000000000000)(hd:d=a-b):A.bin .sub .u64 (Int.ofNat a) (Int.ofNat b)=Int.ofNat d:=
 (subW hA (k:= .u64) rfl (a:=a) (b:=b) (by show b<=0x10000000000000000;omega)).trans (congrArg Int.ofNat (by rw[hd];show(a+0x10000000000000000-b)%0x10000000000000000=a-b;omega))
theorem addV(hA:A=Ar.real){a b d:Nat}(h:a+b<0x10000000000000000)(hd:d=a+b):A.bin .add .u64 (Int.ofNat a) (Int.ofNat b)=Int.ofNat d:=(addU hA h).trans (by rw[hd])
end
end Go.Vg
namespace Go.Proofs.YtdhmihfefgcbeaaGreat
open Go.Vg Go.RowKit
set_option maxRecDepth 200000
set_option cbv.maxSteps 100000000
theorem u32B{P:Program}(hP:P=Tryz.prog):(P.info? 58).map (·.bytes)=some 4:=by subst hP;kernel_rfl
def wr(h:Nat->Nat)(i:Nat):Nat->Nat:=fun j=>if j<i then h j else 0
theorem wr_step(h:Nat->Nat)(i v:Nat)(hv:v=h i):wr h (i+1)=fun j=>if j=i then v else wr h i j:=by
 funext j;unfold wr
 by_cases e:j=i
 ·rw[if_pos e,if_pos (by omega),hv,e]
 ·rw[if_neg e]
  by_cases e2:j<i
  ·rw[if_pos e2,if_pos (by omega)]
  ·rw[if_neg e2,if_neg (by omega)]
theorem wr_zero(h:Nat->Nat):wr h 0=fun _=>0:=by funext j;unfold wr;rw[if_neg (Nat.not_lt_zero j)]
theorem hs_wr(h:Nat->Nat)(c:Nat):hs (wr h c) c=hs h c:=hs_congr fun j hj=>by unfold wr;rw[if_pos hj]
theorem cRSub{P:Program}(hP:P=Tryz.prog){n c x m e y:Nat}{f u:Nat->Nat}(hx:Nm n c f x)(hy:Nm m e u y)(hn:n<2^20)(hle:y<=x)(r:Nat)(hr:r=Vg.sz (x-y)):
 Con P 23 [.slice 0 0 n c,.slice 1 0 m e] [⟨0,hs f c,58⟩,⟨1,hs u e,58⟩] 2 [] (fun w L q=>w= .slice 2 0 r n/\L=[⟨2,hs (dg (x-y)) n,58⟩]/\q=3):=by
 obtain⟨Z,hZ⟩:=exq (fun i=>hs (wr (dg (x-y)) i) n:Nat->List SV)
 have bZ:∀m i,bdLB m (Z i)=true:=fun m i=>by rw[hZ];exact hs_bd _ _ m
 have hZ0:List.replicate n (SV.int .u32 0)=Z 0:=by rw[hZ,hs_zero];show _=hs (wr _ 0) n;rw[wr_zero]
 have hZn:Z n=hs (dg (x-y)) n:=by rw[hZ];exact hs_wr _ _
 suffices raw:Con P 23 [.slice 0 0 n c,.slice 1 0 m e] [⟨0,hs f c,58⟩,⟨1,hs u e,58⟩] 2 [] (fun w L q=>w= .slice 2 0 r n/\find L 2=some ⟨2,Z n,58⟩)from
  raw.weak fun v L q ⟨h1,h2⟩=>⟨_root_.id,.slice 2 0 r n,[⟨2,Z n,58⟩],3,by subst h1;exact weak_id ⟨rfl,rfl,trivial⟩ ⟨h2,rfl,bZ 3 n,trivial⟩ rfl rfl,rfl,by rw[hZn],rfl⟩
 have hxy:x-y<4294967296^n:=Nat.lt_of_le_of_lt (Nat.sub_le _ _) hx.lt
 have hTr:Con P 42 [.slice 0 0 n n] [⟨0,Z n,58⟩] 1 [] (fun w _ _=>w= .slice 0 0 r n):=by
  rw[hZn];exact cTrim hP (dg (x-y)) n n r (Nat.le_refl _) (by omega) (by rw[hr,tl_dg hxy])
 have hdx:∀i,Con P 49 [.slice 0 0 n c,.int .i64 (.ofNat i)] [⟨0,hs f c,58⟩] 1 [] (fun w _ _=>w= .int .u64 (.ofNat (dg x i))):=fun i=>cRDigit hP f n c i _ hx.le hx.w (by
  by_cases h:i<n
  ·rw[if_pos h,hx.dig h]
  ·rw[if_neg h,hx.digz (by omega)])
 have hdy:∀i,Con P 49 [.slice 0 0 m e,.int .i64 (.ofNat i)] [⟨0,hs u e,58⟩] 1 [] (fun w _ _=>w= .int .u64 (.ofNat (dg y i))):=fun i=>cRDigit hP u m e i _ hy.le hy.w (by
  by_cases h:i<m
  ·rw[if_pos h,hy.dig h]
  ·rw[if_neg h,hy.digz (by omega)])
 obtain⟨cy,hcy⟩:=exq (fun i=>boA x y i:Nat->Nat)
 have cy0:cy 0=0:=by rw[hcy];exact boA_zero x y
 have cyl:∀i,cy i<=1:=fun i=>by rw[hcy];exact boA_le x y i
 have cys:∀i s,s=dg x i+4294967296-dg y i-cy i->dg (x-y) i=s%4294967296/\cy (i+1)=1-s/4294967296:=fun i s h=>by rw[hcy]at *;exact difDig i hle s h
 have dxl:=dg_lt x
 have dyl:=dg_lt y
 have dzl:=dg_lt (x-y)
 have hZs:∀i v,v=dg (x-y) i->wr (dg (x-y)) (i+1)=fun j=>if j=i then v else wr (dg (x-y)) i j:=fun i v h=>wr_step _ i v h
 obtain⟨X,hX⟩:=exq (dg x)
 obtain⟨Y,hY⟩:=exq (dg y)
 obtain⟨S,hS⟩:=exq (dg (x-y))
 rw[<-hX]at hdx dxl cys
 rw[<-hY]at hdy dyl cys
 rw[<-hS]at hZ dzl hZs cys
 obtain⟨C,hC⟩:=exq (hs f c)
 have bC:∀m,bdLB m C=true:=fun m=>by rw[hC];exact hs_bd f c m
 obtain⟨E,hE⟩:=exq (hs u e)
 have bE:∀m,bdLB m E=true:=fun m=>by rw[hE];exact hs_bd u e m
 rw[<-hC]at hdx⊢
 rw[<-hE]at hdy⊢
 clear hC hE hX hY hS hZn
 refine cof hP Tryz.func23 ⟨blq rfl,⟨blq rfl,trivial⟩⟩ (by simpa [bdL,bd]using⟨bdb _ (bC 2),bdb _ (bE 2)⟩) ?_
 intro A g K hA hg hK
 obtain⟨bin,sh,cmp,_,cvt,ix,_,_,_,_,_,_,_,_,nat,off,_,_,sub,spl⟩:=A
 have e0:∀n,nat n=Int.ofNat n:=fun n=>nat_of hA n
 have e2:∀i,i<n->cmp .lss (.ofNat i) (.ofNat n)=true:=fun i h=>lss_t hA h
 have e2f:cmp .lss (.ofNat n) (.ofNat n)=false:=lss_f hA (Nat.lt_irrefl n)
 have e3:∀i,i<n->bin .add .i64 (.ofNat i) 1=Int.ofNat (i+1):=fun i h=>addI hA (a:=i) (b:=1) (by omega)
 have e4:∀j,off 0 j 1=j:=fun j=>(off_of hA 0 j 1).trans (by omega)
 have e5:∀i,i<n->ix (.ofNat i) n=some i:=fun i h=>ix_of hA h
 have e6:∀i v,i<n->v=S i->spl (Z i) i [.int .u32 (.ofNat v)]=some (Z (i+1)):=fun i v h hv=>by rw[hZ];exact splW hA .u32 (n:=n) (wr S i) (wr S (i+1)) h (hZs i v hv)
 have hU:=u32B hP
 clear hZ
 cbv
 rw[e0]
 refine smk (hP▸tblOk) hg rfl rfl (show tyT 27=some _ from rfl) rfl (show tyT 58=some _ from rfl) hU rfl (m:=n) rfl rfl (by omega) (by omega) ?_
 rw[hZ0]
 cbv
 refine lpb Nat (fun i=>i<=n) (fun i=>n-i) (fun i=> [(6,.int .u64 (.ofNat (cy i))),(7,.int .i64 (.ofNat i))]) [0,1,4,5] (fun i=> [(2,Z i)]) 0 (Nat.zero_le _) ?_ ?_
 ·rw[cy0]
  exact wkih (by repeat' (first|exact trivial|refine⟨rfl,rfl,rfl,?_⟩|refine⟨rfl,rfl,bC 3,?_⟩|refine⟨rfl,rfl,bE 3,?_⟩|refine⟨rfl,rfl,bZ 3 0,?_⟩))
 intro i hi
 by_cases hlt:i<n
 ·obtain⟨s1,hs1⟩:=exq (X i+4294967296)
  obtain⟨s2,hs2⟩:=exq (s1-Y i)
  obtain⟨s3,hs3⟩:=exq (s2-cy i)
  obtain⟨s4,hs4⟩:=exq (s3%4294967296)
  obtain⟨s5,hs5⟩:=exq (s3/4294967296)
  have hl1:=dxl i
  have hl2:=dyl i
  have hl3:=cyl i
  obtain⟨q1,q2⟩:=cys i s3 (by rw[hs3,hs2,hs1])
  have g1:bin .add .u64 (.ofNat (X i)) 4294967296=Int.ofNat s1:=addV hA (b:=4294967296) (by omega) hs1
  have g2:bin .sub .u64 (.ofNat s1) (.ofNat (Y i))=Int.ofNat s2:=subU hA (by omega) (by omega) hs2
  have g3:bin .sub .u64 (.ofNat s2) (.ofNat (cy i))=Int.ofNat s3:=subU hA (by omega) (by omega) hs3
  have g4:bin .and .u64 (.ofNat s3) 4294967295=Int.ofNat s4:=lo32 hA (by omega) hs4
  have g5:cvt .u32 (.ofNat s4)=Int.ofNat s4:=c32 hA (by omega)
  have g6:sh .shr .u64 (.ofNat s3) 32=Int.ofNat s5:=hi32 hA hs5
  have g7:bin .sub .u64 1 (.ofNat s5)=Int.ofNat (cy (i+1)):=subU hA (a:=1) (by omega) (by omega) (by rw[q2,hs5])
  have g8:=e6 i s4 (by omega) (by rw[q1,hs4])
  obtain⟨cn,hcn⟩:=exq (cy (i+1))
  obtain⟨Zn,hZn⟩:=exq (Z (i+1))
  rw[<-hcn]at g7
  rw[<-hZn]at g8
  cbv
  rw[e0]
  cbv
  rw[e2 i hlt]
  cbv
  refine cro rfl hg rfl rfl (hdx i) (fun _=>0) rfl (ft1 (bC 0) rfl) ?_
  rintro _ _ _ rfl
  refine⟨trivial,trivial,?_⟩
  cbv
  rw[g1]
  cbv
  refine cro rfl hg rfl rfl (hdy i) (fun _=>1) rfl (ft1 (bE 0) rfl) ?_
  rintro _ _ _ rfl
  refine⟨trivial,trivial,?_⟩
  cbv
  rw[g2]
  cbv
  rw[g3]
  cbv
  rw[g4]
  cbv
  rw[g5]
  cbv
  rw[e5 i (by omega)]
  cbv
  rw[e4,g8]
  cbv
  rw[g6]
  cbv
  rw[g7]
  cbv
  rw[e3 i hlt]
  refine⟨i+1,_root_.id,hlt,(by show n-(i+1)<n-i;omega),?_⟩
  rw[hcn,hZn]
  exact wkih (by repeat' (first|exact trivial|refine⟨rfl,rfl,rfl,?_⟩|refine⟨rfl,rfl,bC 3,?_⟩|refine⟨rfl,rfl,bE 3,?_⟩|refine⟨rfl,rfl,bZ 3 (i+1),?_⟩))
 ·obtain rfl:i=n:=by omega
  cbv
  rw[e0]
  cbv
  rw[e2f]
  cbv
  refine cro rfl hg rfl rfl hTr (fun _=>2) rfl (ft1 (bZ 0 i) rfl) ?_
  rintro _ _ _ rfl
  refine⟨by simp[bd],by simp[bd,ren],?_⟩
  cbv
  exact hK _ _ _ ⟨rfl,rfl⟩
end Go.Proofs.YtdhmihfefgcbeaaGreat
namespace Go.Vg
open Go.RowKit Go.Lib
theorem dg_low{T z i j:Nat}(h:j<i):dg (T+z*4294967296^i) j=dg T j:=by
 unfold dg Dg.dig
 obtain⟨d,rfl⟩:∃d,i=j+(d+1):=⟨i-j-1,by omega⟩
 rw[Nat.pow_add,Nat.mul_comm (4294967296^j),<-Nat.mul_assoc,Nat.add_mul_div_right _ _ (Nat.pow_pos (by decide)),Nat.pow_succ,<-Nat.mul_assoc,Nat.add_mul_mod_self_right]
end Go.Vg
namespace Go.Proofs.YtdhmihfefgcbeaaGreat
open Go.Vg Go.RowKit
set_option maxRecDepth 200000
set_option cbv.maxSteps 100000000
end Go.Proofs.YtdhmihfefgcbeaaGreat
namespace Go.Vg
open Go.RowKit Go.Lib
theorem B_pow(n:Nat):4294967296^n=2^(32*n):=by rw[Nat.pow_mul]
theorem shr_dig(x i k:Nat)(hk:k<32):(dg x i+dg x (i+1)*4294967296)/2^k%4294967296=dg (x/2^k) i:=by
 have h1:dg (x/2^k) i=x/4294967296^i/2^k%4294967296:=by
  unfold dg Dg.dig;rw[Nat.div_div_eq_div_mul,Nat.mul_comm,<-Nat.div_div_eq_div_mul]
 have h2:dg x (i+1)=x/4294967296^i/4294967296%4294967296:=by
  unfold dg Dg.dig;rw[Nat.pow_succ,Nat.div_div_eq_div_mul]
 rw[h1,h2]
 show(x/4294967296^i%4294967296+_)/_%_=_
 generalize x/4294967296^i=y
 have h3:y=(y%4294967296+y/4294967296%4294967296*4294967296)+0x10000000000000000*(y/0x10000000000000000):=by omega
 obtain⟨d,hd⟩:∃d,32=k+d:=⟨32-k,by omega⟩
 have h4:(0x10000000000000000:Nat)=2^k*(2^d*4294967296):=by
  rw[<-Nat.mul_assoc,<-Nat.pow_add,<-hd]
 have h5:y/2^k=(y%4294967296+y/4294967296%4294967296*4294967296)/2^k+2^d*(y/0x10000000000000000)*4294967296:=by
  have:=congrArg (· /2^k) h3
  refine this.trans ?_
  show(_+0x10000000000000000*(y/0x10000000000000000))/2^k=_
  rw[show 0x10000000000000000*(y/0x10000000000000000)=2^k*(2^d*(y/0x10000000000000000)*4294967296)from by
   generalize y/0x10000000000000000=q
   rw[h4];ac_rfl,Nat.add_mul_div_left _ _ (Nat.two_pow_pos k)]
 rw[h5,Nat.add_mul_mod_self_right]
end Go.Vg
namespace Go.Proofs.YtdhmihfefgcbeaaGreat
open Go.Vg Go.RowKit
set_option maxRecDepth 200000
set_option cbv.maxSteps 100000000
end Go.Proofs.YtdhmihfefgcbeaaGreat
namespace Go.Vg
structure Nw(n c:Nat)(f:Nat->Nat)(x:Nat):Prop where
 le:n<=c
 w:∀j,j<c->f j<4294967296
 v:Dg.num 4294967296 f n=x
theorem Nw.lt{n c x:Nat}{f:Nat->Nat}(h:Nw n c f x):x<4294967296^n:=by
 rw[<-h.v];exact Dg.num_lt n fun i hi=>h.w i (Nat.lt_of_lt_of_le hi h.le)
theorem Nw.dig{n c x:Nat}{f:Nat->Nat}(h:Nw n c f x){i:Nat}(hi:i<n):f i=dg x i:=by
 rw[<-h.v];exact(Dg.dig_num (by decide) n (fun j hj=>h.w j (Nat.lt_of_lt_of_le hj h.le)) i hi).symm
theorem Nw.digz{n c x:Nat}{f:Nat->Nat}(h:Nw n c f x){i:Nat}(hi:n<=i):dg x i=0:=Dg.dig_big (by decide) h.lt hi
end Go.Vg
namespace Go.Proofs.YtdhmihfefgcbeaaGreat
open Go.Vg Go.RowKit
set_option maxRecDepth 200000
set_option cbv.maxSteps 100000000
theorem cRShr{P:Program}(hP:P=Tryz.prog){n c x:Nat}{f:Nat->Nat}(hx:Nw n c f x)(hn:n<2^20)(hn0:0<n)(s:Nat)(hs32:s<32)(y r:Nat)(hy:y=x/2^s)(hr:r=Vg.sz y):
 Con P 34 [.slice 0 0 n c,.int .i64 (.ofNat s)] [⟨0,hs f c,58⟩] 1 [] (fun w L q=>w= .slice 1 0 r n/\L=[⟨1,hs (dg y) n,58⟩]/\q=2):=by
 have hnc:=hx.le
 obtain⟨Z,hZ⟩:=exq (fun i=>hs (wr (dg y) i) n:Nat->List SV)
 have bZ:∀m i,bdLB m (Z i)=true:=fun m i=>by rw[hZ];exact hs_bd _ _ m
 have hZ0:List.replicate n (SV.int .u32 0)=Z 0:=by rw[hZ,hs_zero];show _=hs (wr _ 0) n;rw[wr_zero]
 have hZn:Z n=hs (dg y) n:=by rw[hZ];exact hs_wr _ _
 suffices raw:Con P 34 [.slice 0 0 n c,.int .i64 (.ofNat s)] [⟨0,hs f c,58⟩] 1 [] (fun w L q=>w= .slice 1 0 r n/\find L 1=some ⟨1,Z n,58⟩)from
  raw.weak fun v L q ⟨h1,h2⟩=>⟨_root_.id,.slice 1 0 r n,[⟨1,Z n,58⟩],2,by subst h1;exact weak_id ⟨rfl,rfl,trivial⟩ ⟨h2,rfl,bZ 2 n,trivial⟩ rfl rfl,rfl,by rw[hZn],rfl⟩
 have hyl:y<4294967296^n:=by rw[hy];exact Nat.lt_of_le_of_lt (Nat.div_le_self _ _) hx.lt
 have hTr:Con P 42 [.slice 0 0 n n] [⟨0,Z n,58⟩] 1 [] (fun w _ _=>w= .slice 0 0 r n):=by
  rw[hZn];exact cTrim hP (dg y) n n r (Nat.le_refl _) (by omega) (by rw[hr,tl_dg hyl])
 have hdx:∀i,Con P 49 [.slice 0 0 n c,.int .i64 (.ofNat i)] [⟨0,hs f c,58⟩] 1 [] (fun w _ _=>w= .int .u64 (.ofNat (dg x i))):=fun i=>cRDigit hP f n c i _ hx.le hx.w (by
  by_cases h:i<n
  ·rw[if_pos h,hx.dig h]
  ·rw[if_neg h,hx.digz (by omega)])
 obtain⟨X,hX⟩:=exq (dg x)
 obtain⟨S,hS⟩:=exq (dg y)
 have lX:∀i,X i<4294967296:=fun i=>by rw[hX];exact dg_lt x i
 have hSX:∀i,(X i+X (i+1)*4294967296)/2^s%4294967296=S i:=fun i=>by rw[hX,hS,hy];exact shr_dig x i s hs32
 rw[<-hX]at hdx
 rw[<-hS]at hZ
 obtain⟨C,hC⟩:=exq (hs f c)
 have bC:∀m,bdLB m C=true:=fun m=>by rw[hC];exact hs_bd f c m
 rw[<-hC]at hdx⊢
 clear hC hX hS hZn
 refine cof hP Tryz.func34 ⟨blq rfl,⟨trivial,trivial⟩⟩ (by simpa [bdL,bd]using bdb _ (bC 1)) ?_
 intro A g K hA hg hK
 obtain⟨bin,sh,cmp,_,cvt,ix,nn,_,_,_,_,_,_,_,nat,off,_,_,sub,spl⟩:=A
 have e0:nat n=Int.ofNat n:=nat_of hA n
 have e1:bin .quo .i64 (.ofNat s) 32=0:=(quoI hA (a:=s) (b:=32) (by omega)).trans (by rw[Nat.div_eq_of_lt hs32];rfl)
 have e2:cmp .geq 0 (.ofNat n)=false:=geq_f hA (a:=0) (by omega)
 have e3:bin .sub .i64 (.ofNat n) 0=Int.ofNat n:=subI hA (b:=0) (Nat.zero_le n) (by omega)
 have e4:∀j,off 0 j 1=j:=fun j=>(off_of hA 0 j 1).trans (by omega)
 have e5:∀i,i<n->ix (.ofNat i) n=some i:=fun i h=>ix_of hA h
 have e6:∀i v,i<n->v=S i->spl (Z i) i [.int .u32 (.ofNat v)]=some (Z (i+1)):=fun i v h hv=>by rw[hZ];exact splW hA .u32 (n:=n) (wr S i) (wr S (i+1)) h (wr_step S i v hv)
 have e7:∀i,i<n->cmp .lss (.ofNat i) (.ofNat n)=true:=fun i h=>lss_t hA h
 have e7f:cmp .lss (.ofNat n) (.ofNat n)=false:=lss_f hA (Nat.lt_irrefl n)
 have e8:∀i,i<n->bin .add .i64 (.ofNat i) 1=Int.ofNat (i+1):=fun i h=>addI hA (a:=i) (b:=1) (by omega)
 have e9:∀i,i<n->bin .add .i64 (.ofNat i) 0=Int.ofNat i:=fun i h=>addI hA (a:=i) (b:=0) (by omega)
 have e10:bin .rem .i64 (.ofNat s) 32=Int.ofNat s:=(remW hA s 32).trans (by rw[Nat.mod_eq_of_lt hs32])
 have e11:nn (.ofNat s)=true:=nn_t hA s
 have hU:=u32B hP
 clear hZ
 cbv
 rw[e1,e0,e2]
 cbv
 rw[e1,e0,e3]
 cbv
 refine smk (hP▸tblOk) hg rfl rfl (show tyT 27=some _ from rfl) rfl (show tyT 58=some _ from rfl) hU rfl (m:=n) rfl rfl (by omega) (by omega) ?_
 rw[hZ0]
 cbv
 refine lpb Nat (fun i=>i<=n) (fun i=>n-i) (fun i=> [(6,.int .i64 (.ofNat i))]) [0,1,4,5] (fun i=> [(1,Z i)]) 0 (Nat.zero_le _) ?_ ?_
 ·exact wkih (by repeat' (first|exact trivial|refine⟨rfl,rfl,rfl,?_⟩|refine⟨rfl,rfl,bC 2,?_⟩|refine⟨rfl,rfl,bZ 2 0,?_⟩))
 intro i hi
 by_cases hlt:i<n
 ·obtain⟨i1,hi1⟩:=exq (i+1)
  obtain⟨w1,hw1⟩:=exq (X i1*4294967296)
  obtain⟨w2,hw2⟩:=exq (X i+w1)
  obtain⟨w3,hw3⟩:=exq (w2/2^s)
  obtain⟨w4,hw4⟩:=exq (w3%4294967296)
  have l1:=lX i
  have l2:=lX i1
  have l3:w3<=w2:=by rw[hw3];exact Nat.div_le_self _ _
  have hv:w4=S i:=by rw[hw4,hw3,hw2,hw1,hi1];exact hSX i
  have g0:=e8 i hlt
  rw[<-hi1]at g0
  have g1:sh .shl .u64 (.ofNat (X i1)) 32=Int.ofNat w1:=(shlW hA (k:= .u64) rfl (X i1) (s:=32) (by decide)).trans (congrArg Int.ofNat (by rw[hw1];show X i1*4294967296%0x10000000000000000=_;omega))
  have g2:bin .or .u64 (.ofNat (X i)) (.ofNat w1)=Int.ofNat w2:=(orW hA (k:= .u64) rfl (a:=X i) (b:=w1) (by show X i<0x10000000000000000;omega) (by show w1<0x10000000000000000;omega)).trans (congrArg Int.ofNat (by rw[hw2,hw1,Nat.or_comm,show(4294967296:Nat)=2^32 from rfl,or_add (s:=32) l1,Nat.add_comm]))
  have g3:sh .shr .u64 (.ofNat w2) (.ofNat s)=Int.ofNat w3:=(shrI hA (k:= .u64) (a:=w2) (b:=s) (by show s<=64;omega)).trans (by rw[hw3])
  have g4:bin .and .u64 (.ofNat w3) 4294967295=Int.ofNat w4:=lo32 hA (by omega) hw4
  have g5:cvt .u32 (.ofNat w4)=Int.ofNat w4:=c32 hA (by omega)
  have g6:=e6 i w4 hlt hv
  obtain⟨Zn,hZn⟩:=exq (Z (i+1))
  rw[<-hZn]at g6
  cbv
  rw[e0]
  cbv
  rw[e7 i hlt]
  cbv
  rw[e1]
  cbv
  rw[e9 i hlt]
  cbv
  refine cro rfl hg rfl rfl (hdx i) (fun _=>0) rfl (ft1 (bC 0) rfl) ?_
  rintro _ _ _ rfl
  refine⟨trivial,trivial,?_⟩
  cbv
  rw[e1]
  cbv
  rw[e9 i hlt]
  cbv
  rw[g0]
  cbv
  refine cro rfl hg rfl rfl (hdx i1) (fun _=>0) rfl (ft1 (bC 0) rfl) ?_
  rintro _ _ _ rfl
  refine⟨trivial,trivial,?_⟩
  cbv
  rw[g1]
  cbv
  rw[g2]
  cbv
  rw[e10]
  cbv
  rw[e11]
  cbv
  rw[g3]
  cbv
  rw[g4]
  cbv
  rw[g5]
  cbv
  rw[e5 i hlt]
  cbv
  rw[e4,g6]
  cbv
  rw[g0]
  refine⟨i+1,_root_.id,hlt,(by show n-(i+1)<n-i;omega),?_⟩
  rw[hi1,hZn]
  exact wkih (by repeat' (first|exact trivial|refine⟨rfl,rfl,rfl,?_⟩|refine⟨rfl,rfl,bC 2,?_⟩|refine⟨rfl,rfl,bZ 2 (i+1),?_⟩))
 ·obtain rfl:i=n:=by omega
  cbv
  rw[e0]
  cbv
  rw[e7f]
  cbv
  refine cro rfl hg rfl rfl hTr (fun _=>1) rfl (ft1 (bZ 0 i) rfl) ?_
  rintro _ _ _ rfl
  refine⟨by simp[bd],by simp[bd,ren],?_⟩
  cbv
  exact hK _ _ _ ⟨rfl,rfl⟩
end Go.Proofs.YtdhmihfefgcbeaaGreat
namespace Go.Vg
open Go.RowKit Go.Lib
theorem num_dgW{W n:Nat}(h:W<4294967296^n):Dg.num 4294967296 (dg W) n=W:=(Dg.num_dig (by decide) W n).trans (Nat.mod_eq_of_lt h)
end Go.Vg
namespace Go.Vg
structure HS(H:Nat->Nat->List SV)(S:Nat->Nat):Prop where
 h:H=fun x c=>hs (dg x) c
 s:S=Vg.sz
section
variable {H:Nat->Nat->List SV}{S:Nat->Nat}(hs:HS H S)
include hs
theorem HS.b(m x c:Nat):bdLB m (H x c)=true:=by rw[hs.h];exact hs_bd _ _ m
theorem HS.nm{x c:Nat}(h:x<4294967296^c):Nm (S x) c (dg x) x:=by rw[hs.s];exact nm_dg h
theorem HS.le{x k:Nat}(h:x<4294967296^k):S x<=k:=(hs.nm h).n_le h
theorem HS.one{y:Nat}(h:y<4294967296)(h0:0<y):S y=1:=by
 have h1:=hs.le (x:=y) (k:=1) (by rw[Nat.pow_one];exact h)
 have h2:=(hs.nm (x:=y) (c:=1) (by rw[Nat.pow_one];exact h)).zero
 omega
end
end Go.Vg
namespace Go.Proofs.YtdhmihfefgcbeaaGreat
open Go.Vg Go.RowKit
set_option maxRecDepth 200000
set_option cbv.maxSteps 100000000
section
variable {P:Program}(hP:P=Tryz.prog){H:Nat->Nat->List SV}{S:Nat->Nat}(hs:HS H S)
include hP hs
end
end Go.Proofs.YtdhmihfefgcbeaaGreat
namespace Go.Vg
open Go.RowKit Go.Lib
section
variable {A:Ar}(hA:A=Ar.real){x y:Nat}{r:Int}(h1:x<y->r= -1)(h2:x=y->r=0)(h3:y<x->r=1)
include hA h1 h2 h3
end
end Go.Vg
namespace Go.Proofs.YtdhmihfefgcbeaaGreat
open Go.Vg Go.RowKit
set_option maxRecDepth 200000
set_option cbv.maxSteps 100000000
section
variable {P:Program}(hP:P=Tryz.prog){H:Nat->Nat->List SV}{S:Nat->Nat}(hs:HS H S)
include hP hs
theorem mSub{x c y e:Nat}(hx:x<4294967296^c)(hy:y<4294967296^e)(hb:x<4294967296^40)(hle:y<=x)(s:Nat)(hd:s=x-y):∃k,s<4294967296^k/\Con P 23 [.slice 0 0 (S x) c,.slice 1 0 (S y) e] [⟨0,H x c,58⟩,⟨1,H y e,58⟩] 2 [] (fun w L q=>w= .slice 2 0 (S s) k/\L=[⟨2,H s k,58⟩]/\q=3):=by
 refine⟨S x,by rw[hd];exact Nat.lt_of_le_of_lt (Nat.sub_le _ _) (hs.nm hx).lt,?_⟩
 subst hd
 rw[hs.h];exact cRSub hP (hs.nm hx) (hs.nm hy) (by have:=hs.le hb;omega) hle _ (by rw[hs.s])
end
end Go.Proofs.YtdhmihfefgcbeaaGreat
namespace Go.Vg
open Go.RowKit Go.Lib
theorem or_dig{T t d e w q r:Nat}(he:e=32*q+r)(hrw:r+w<=32)(hd:d<2^w)(hT:T=t*2^(e+w)):(∀j,dg (T+d*2^e) j=if j=q then dg T q+d*2^r else dg T j)/\dg T q|||d*2^r=dg T q+d*2^r/\dg T q+d*2^r<4294967296:=by
 have hdr:d*2^r<2^(r+w):=by rw[Nat.pow_add,Nat.mul_comm];exact Nat.mul_lt_mul_of_pos_left hd (Nat.two_pow_pos r)
 have eT:T/4294967296^q=t*2^(r+w):=by
  rw[hT,B_pow,he,Nat.add_assoc,Nat.pow_add,<-Nat.mul_assoc,Nat.mul_comm t,Nat.mul_assoc,Nat.mul_div_cancel_left _ (Nat.two_pow_pos _)]
 have eT2:(T+d*2^e)/4294967296^q=t*2^(r+w)+d*2^r:=by
  rw[hT,B_pow,he,Nat.add_assoc,Nat.pow_add 2 (32*q) (r+w),Nat.pow_add 2 (32*q) r,show t*(2^(32*q)*2^(r+w))+d*(2^(32*q)*2^r)=2^(32*q)*(t*2^(r+w)+d*2^r)from by rw[Nat.mul_add];ac_rfl,Nat.mul_div_cancel_left _ (Nat.two_pow_pos _)]
 obtain⟨c,hc⟩:∃c,32=r+w+c:=⟨32-(r+w),by omega⟩
 have hB:(4294967296:Nat)=2^(r+w)*2^c:=by rw[<-Nat.pow_add,<-hc]
 have hq:dg T q=(t%2^c)*2^(r+w):=by
  show T/4294967296^q%4294967296=_
  rw[eT,hB,Nat.mul_comm t,Nat.mul_mod_mul_left,Nat.mul_comm]
 have h1:t%2^c+1<=2^c:=Nat.mod_lt _ (Nat.two_pow_pos c)
 have h2:=Nat.mul_le_mul_right (2^(r+w)) h1
 rw[Nat.add_mul,Nat.one_mul,<-hq,Nat.mul_comm (2^c),<-hB]at h2
 have hlt:dg T q+d*2^r<4294967296:=by omega
 refine⟨fun j=> ?_,by rw[hq];exact or_add hdr,hlt⟩
 by_cases hj:j=q
 ·subst hj
  rw[if_pos rfl]
  show(T+d*2^e)/4294967296^j%4294967296=_
  rw[eT2]
  have e3:t*2^(r+w)=dg T j+4294967296*(t/2^c):=by
   rw[hq,hB]
   have:=Nat.div_add_mod t (2^c)
   have h5:t*2^(r+w)=(2^c*(t/2^c)+t%2^c)*2^(r+w):=by rw[this]
   rw[h5,Nat.add_mul,Nat.add_comm]
   congr 1
   ac_rfl
  rw[e3,Nat.add_right_comm,Nat.add_mul_mod_self_left,Nat.mod_eq_of_lt hlt]
 ·rw[if_neg hj]
  rcases Nat.lt_or_gt_of_ne hj with h|h
  ·obtain⟨z,rfl⟩:∃z,q=j+1+z:=⟨q-(j+1),by omega⟩
   have e4:d*2^e=(d*2^(r+32*z))*4294967296^(j+1):=by
    rw[he,B_pow,Nat.mul_assoc,<-Nat.pow_add];congr 2;omega
   rw[e4];exact dg_low (by omega)
  ·-- the quotient does not change
   obtain⟨z,rfl⟩:∃z,j=q+1+z:=⟨j-(q+1),by omega⟩
   have e5:∀X,X/4294967296^(q+1+z)=X/4294967296^q/2^(r+w)/(2^c*4294967296^z):=fun X=>by
    rw[Nat.div_div_eq_div_mul,Nat.div_div_eq_div_mul,<-Nat.mul_assoc (2^(r+w)) (2^c),<-hB,Nat.pow_add,Nat.pow_succ,Nat.mul_assoc]
   show(T+d*2^e)/_%_=T/_%_
   rw[e5,e5,eT,eT2,Nat.mul_div_cancel _ (Nat.two_pow_pos _),Nat.mul_comm t,Nat.mul_add_div (Nat.two_pow_pos _),Nat.div_eq_of_lt hdr,Nat.add_zero]
def topN(b x k:Nat):Nat:=x/b^k*b^k
theorem topN_zero(b x:Nat):topN b x 0=x:=by unfold topN;rw[Nat.pow_zero,Nat.div_one,Nat.mul_one]
theorem topN_succ(b x k:Nat):topN b x k=topN b x (k+1)+x/b^k%b*b^k:=by
 unfold topN
 rw[Nat.pow_succ,<-Nat.div_div_eq_div_mul]
 have h:=Nat.div_add_mod (x/b^k) b
 generalize x/b^k=y at *
 generalize b^k=Q
 have h2:y*Q=(b*(y/b)+y%b)*Q:=by rw[h]
 rw[h2,Nat.add_mul]
 congr 1
 ac_rfl
theorem topN_all{b x n:Nat}(h:x<b^n):topN b x n=0:=by unfold topN;rw[Nat.div_eq_of_lt h,Nat.zero_mul]
end Go.Vg
namespace Go.Proofs.YtdhmihfefgcbeaaGreat
open Go.Vg Go.RowKit
set_option maxRecDepth 200000
set_option cbv.maxSteps 100000000
section
variable {P:Program}(hP:P=Tryz.prog){H:Nat->Nat->List SV}{S:Nat->Nat}(hs:HS H S)
include hP hs
end
theorem cRHexDigit{P:Program}(hP:P=Tryz.prog)(d c:Nat)(hd:d<16)(hc:c=if d<10 then 48+d else 87+d):Con P 56 [.int .u8 (.ofNat c)] [] 0 [] (fun w _ _=>w= .int .u32 (.ofNat d)):=by
 refine cof hP Tryz.func56 (bdb _ rfl) (bkb rfl) ?_
 intro A g K hA hg hK
 obtain⟨bin,_,cmp,_,cvt,_,_,_,_,_,_,_,_,_,_,_,_,_,sub⟩:=A
 by_cases h10:d<10
 ·rw[if_pos h10]at hc
  have g1:bin .sub .u8 (.ofNat c) 48=Int.ofNat d:=(subW hA (k:= .u8) rfl (a:=c) (b:=48) (by decide)).trans (congrArg Int.ofNat (by show(c+256-48)%256=d;omega))
  have g2:cvt .u32 (.ofNat d)=Int.ofNat d:=c32 hA (by omega)
  cbv
  rw[show cmp .geq (.ofNat c) 97=false from geq_f hA (b:=97) (by omega)]
  cbv
  rw[g1]
  cbv
  rw[g2]
  exact hK _ _ _ rfl
 ·rw[if_neg h10]at hc
  obtain⟨e,he⟩:=exq (d-10)
  have g1:bin .sub .u8 (.ofNat c) 97=Int.ofNat e:=(subW hA (k:= .u8) rfl (a:=c) (b:=97) (by decide)).trans (congrArg Int.ofNat (by show(c+256-97)%256=e;omega))
  have g2:cvt .u32 (.ofNat e)=Int.ofNat e:=c32 hA (by omega)
  have g3:bin .add .u32 (.ofNat e) 10=Int.ofNat d:=(addW hA (k:= .u32) rfl e 10).trans (congrArg Int.ofNat (by show(e+10)%4294967296=d;omega))
  cbv
  rw[show cmp .geq (.ofNat c) 97=true from geq_t hA (b:=97) (by omega)]
  cbv
  rw[g1]
  cbv
  rw[g2]
  cbv
  rw[g3]
  exact hK _ _ _ rfl
section
variable {P:Program}(hP:P=Tryz.prog){H:Nat->Nat->List SV}{S:Nat->Nat}(hs:HS H S)
include hP hs
theorem mHex(n x:Nat)(hn:n<=144)(hx:x<16^n)(s:ByteArray)(hsx:s=hexS x n)(c:Nat)(hc:c=n/8+1):x<4294967296^c/\Con P 38 [.str s] [] 0 [] (fun w L q=>w= .slice 0 0 (S x) c/\L=[⟨0,H x c,58⟩]/\q=1):=by
 have hpc:16^n<=4294967296^c:=by
  rw[show(4294967296:Nat)=16^8 from by decide,<-Nat.pow_mul]
  exact Nat.pow_le_pow_right (by decide) (by omega)
 have hxc:x<4294967296^c:=Nat.lt_of_lt_of_le hx hpc
 refine⟨hxc,?_⟩
 have hsz:s.size=n:=by rw[hsx,hexS_size]
 obtain⟨T,hT⟩:=exq (fun i=>topN 16 x (n-i):Nat->Nat)
 obtain⟨Dd,hDd⟩:=exq (fun k=>x/16^k%16:Nat->Nat)
 have lDd:∀k,Dd k<16:=fun k=>by rw[hDd];exact Nat.mod_lt _ (by decide)
 obtain⟨Z,hZ⟩:=exq (fun i=>Vg.hs (dg (T i)) c:Nat->List SV)
 have bZ:∀m i,bdLB m (Z i)=true:=fun m i=>by rw[hZ];exact hs_bd _ _ m
 have hZ0:List.replicate c (SV.int .u32 0)=Z 0:=by
  rw[hZ,hs_zero,hT];show _=Vg.hs (dg (topN 16 x (n-0))) c
  rw[Nat.sub_zero,topN_all hx]
  exact hs_congr fun j _=>by unfold dg Dg.dig;rw[Nat.zero_div]
 have hTn:T n=x:=by rw[hT];show topN 16 x (n-n)=x;rw[Nat.sub_self,topN_zero]
 have hZn:Z n=Vg.hs (dg x) c:=by rw[hZ];show Vg.hs (dg (T n)) c=_;rw[hTn]
 have hSh:=cRShr hP (n:=c) (c:=c) (f:=dg x) (x:=x) ⟨Nat.le_refl c,fun j _=>dg_lt x j,num_dgW hxc⟩ (by omega) (by omega) 0 (by decide) x (S x) (by rw[Nat.pow_zero,Nat.div_one]) (by rw[hs.s])
 rw[<-hZn]at hSh
 rw[hs.h]
 show Con P _ _ _ _ _ (fun w L q=>w= .slice 0 0 (S x) c/\L=[⟨0,Vg.hs (dg x) c,58⟩]/\q=1)
 rw[<-hZn]
 suffices raw:Con P 38 [.str s] [] 0 [] (fun w L q=>w= .slice 1 0 (S x) c/\find L 1=some ⟨1,Z n,58⟩)from
  raw.weak fun v L q ⟨h1,h2⟩=>⟨fun l=>l+1,.slice 0 0 (S x) c,[⟨0,Z n,58⟩],1,by subst h1;exact wkr ⟨rfl,rfl,trivial⟩ ⟨by rw[rcl (Z n) (bZ 0 n)];exact h2,rfl,rfl,bZ 1 n,trivial⟩ rfl rfl rfl,rfl,rfl,rfl⟩
 have hst:∀i k q r,i<n->k=n-1-i->q=k/8->r=4*(k%8)->(∀j,dg (T (i+1)) j=if j=q then dg (T i) q+Dd k*2^r else dg (T i) j)/\dg (T i) q|||Dd k*2^r=dg (T i) q+Dd k*2^r/\dg (T i) q+Dd k*2^r<4294967296:=fun i k q r hi hk hq hr=>by
  have e1:T i=topN 16 x (k+1):=by rw[hT];show topN 16 x (n-i)=_;congr 1;omega
  have e2:T (i+1)=T i+Dd k*2^(4*k):=by
   rw[e1,hT,hDd];show topN 16 x (n-(i+1))=_+x/16^k%16*_
   rw[show n-(i+1)=k by omega,topN_succ,Nat.pow_mul]
  rw[e2]
  refine or_dig (t:=x/16^(k+1)) (w:=4) (by omega) (by omega) (lDd k) ?_
  rw[e1];unfold topN
  rw[show 4*k+4=4*(k+1) by omega,Nat.pow_mul 2 4]
 have hdg:=fun d c hd hc=>cRHexDigit hP d c hd hc
 have hes:∀i k,i<n->k=n-1-i->s[i]? =some (hexc (Dd k)):=fun i k hi hk=>by
  have:=hexS_at x n k (by omega)
  rw[show n-1-k=i by omega]at this
  rw[hsx,hDd];exact this
 clear hT hDd hZn hTn hsx
 refine cof hP Tryz.func38 (bdb _ rfl) (bkb rfl) ?_
 intro A g K hA hg hK
 obtain⟨bin,sh,cmp,_,_,ix,nn,_,_,_,_,_,slen,six,nat,off,get,_,sub,spl⟩:=A
 have en:slen s=Int.ofNat n:=(slen_of hA s).trans (by rw[hsz])
 have e0:nat c=Int.ofNat c:=nat_of hA c
 have e1:bin .quo .i64 (.ofNat n) 8=Int.ofNat (n/8):=quoI hA (a:=n) (b:=8) (by omega)
 have e2:bin .add .i64 (.ofNat (n/8)) 1=Int.ofNat c:=(addI hA (a:=n/8) (b:=1) (by omega)).trans (by rw[hc])
 have e3:∀j,off 0 j 1=j:=fun j=>(off_of hA 0 j 1).trans (by omega)
 have e4:∀i m,i<m->ix (.ofNat i) m=some i:=fun i m h=>ix_of hA h
 have e5:∀i j,j<c->get (Z i) j=some (.int .u32 (.ofNat (dg (T i) j))):=fun i j h=>by rw[hZ];exact getW hA .u32 (dg (T i)) h
 have e6:∀i q v,q<c->(dg (T (i+1))=fun j=>if j=q then v else dg (T i) j)->spl (Z i) q [.int .u32 (.ofNat v)]=some (Z (i+1)):=fun i q v h hv=>by rw[hZ];exact splW hA .u32 (n:=c) (dg (T i)) (dg (T (i+1))) h hv
 have e7:∀i,i<n->cmp .lss (.ofNat i) (.ofNat n)=true:=fun i h=>lss_t hA h
 have e7f:cmp .lss (.ofNat n) (.ofNat n)=false:=lss_f hA (Nat.lt_irrefl n)
 have e8:∀i,i<n->bin .add .i64 (.ofNat i) 1=Int.ofNat (i+1):=fun i h=>addI hA (a:=i) (b:=1) (by omega)
 have es:∀i b,s[i]? =some b->six s (Int.ofNat i)=some (Int.ofNat b.toNat):=fun i b h=>by
  have e:six=Ar.real.six:=congrArg Ar.six hA
  rw[e]
  show(if 0<=Int.ofNat i then(s[(Int.ofNat i).toNat]?).map fun b=>(b.toNat:Int)else none)=_
  rw[if_pos (show(0:Int)<=Int.ofNat i from Int.natCast_nonneg _)]
  show(s[i]?).map _=_
  rw[h];rfl
 have hU:=u32B hP
 clear hZ
 cbv
 rw[en,e1,e2]
 cbv
 refine smk (hP▸tblOk) hg rfl rfl (show tyT 27=some _ from rfl) rfl (show tyT 58=some _ from rfl) hU rfl (m:=c) rfl rfl (by omega) (by omega) ?_
 rw[hZ0]
 cbv
 refine lpb Nat (fun i=>i<=n) (fun i=>n-i) (fun i=> [(4,.int .i64 (.ofNat i))]) [0,2,3] (fun i=> [(0,Z i)]) 0 (Nat.zero_le _) ?_ ?_
 ·exact wkih (by repeat' (first|exact trivial|refine⟨rfl,rfl,rfl,?_⟩|refine⟨rfl,rfl,bZ 1 0,?_⟩))
 intro i hi
 by_cases hlt:i<n
 ·obtain⟨n1,hn1⟩:=exq (n-1)
  obtain⟨k,hk⟩:=exq (n-1-i)
  obtain⟨q,hq⟩:=exq (k/8)
  obtain⟨r8,hr8⟩:=exq (k%8)
  obtain⟨r,hr⟩:=exq (4*r8)
  have hqc:q<c:=by omega
  obtain⟨t1,t2,t3⟩:=hst i k q r hlt hk hq (by rw[hr,hr8])
  obtain⟨d,hd⟩:=exq (Dd k)
  have ld:d<16:=by rw[hd];exact lDd k
  obtain⟨ch,hch⟩:=exq ((hexc d).toNat)
  have hch2:ch=if d<10 then 48+d else 87+d:=by rw[hch];exact hexc_nat ld
  have hsi:=es i (hexc d) (by rw[hd];exact hes i k hlt hk)
  rw[<-hch]at hsi
  rw[<-hd]at t1 t2 t3
  obtain⟨O,hO⟩:=exq (dg (T i) q)
  have gO:=e5 i q hqc
  rw[<-hO]at t1 t2 t3 gO
  obtain⟨y,hy⟩:=exq (d*2^r)
  obtain⟨w,hw⟩:=exq (O+y)
  rw[<-hy]at t1 t2 t3
  rw[<-hw]at t1 t2 t3
  have hdc:=hdg d ch ld hch2
  have g1:bin .sub .i64 (.ofNat n) 1=Int.ofNat n1:=(subI hA (a:=n) (b:=1) (by omega) (by omega)).trans (by rw[hn1])
  have g2:bin .sub .i64 (.ofNat n1) (.ofNat i)=Int.ofNat k:=(subI hA (a:=n1) (b:=i) (by omega) (by omega)).trans (by rw[hk,hn1])
  have g3:bin .quo .i64 (.ofNat k) 8=Int.ofNat q:=(quoI hA (a:=k) (b:=8) (by omega)).trans (by rw[hq])
  have g4:bin .rem .i64 (.ofNat k) 8=Int.ofNat r8:=(remW hA k 8).trans (by rw[hr8])
  have g5:bin .mul .i64 (.ofNat r8) 4=Int.ofNat r:=(mulI hA (a:=r8) (b:=4) (by omega)).trans (by rw[hr,Nat.mul_comm])
  have g6:nn (.ofNat r)=true:=nn_t hA r
  have g7:sh .shl .u32 (.ofNat d) (.ofNat r)=Int.ofNat y:=(shlW hA (k:= .u32) rfl d (s:=r) (by show r<=32;omega)).trans (congrArg Int.ofNat (by rw[<-hy];exact Nat.mod_eq_of_lt (by show y<4294967296;omega)))
  have g8:bin .or .u32 (.ofNat O) (.ofNat y)=Int.ofNat w:=(orW hA (k:= .u32) rfl (a:=O) (b:=y) (by show O<4294967296;omega) (by show y<4294967296;omega)).trans (congrArg Int.ofNat t2)
  have g9:=e6 i q w hqc (funext t1)
  have g10:=e8 i hlt
  obtain⟨Zn,hZn⟩:=exq (Z (i+1))
  rw[<-hZn]at g9
  have bZn:∀m,bdLB m Zn=true:=fun m=>by rw[hZn];exact bZ m _
  cbv
  rw[en]
  cbv
  rw[e7 i hlt]
  cbv
  rw[en,g1,g2]
  cbv
  refine reg_A (hP▸tblOk) hA hg (hP▸mixed) rfl rfl ?_
  cbv
  rw[g3]
  cbv
  rw[e4 q c hqc]
  cbv
  rw[e3,gO]
  cbv
  rw[hsi]
  cbv
  refine sdv hg hdc ?_
  cbv
  rw[g4]
  cbv
  rw[g5]
  cbv
  rw[g6]
  cbv
  rw[g7]
  cbv
  rw[g8]
  cbv
  rw[e4 q c hqc]
  cbv
  rw[e3,g9]
  cbv
  rw[g10]
  refine⟨i+1,_root_.id,hlt,(by show n-(i+1)<n-i;omega),?_⟩
  rw[<-hZn]
  exact wkih (by repeat' (first|exact trivial|refine⟨rfl,rfl,rfl,?_⟩|refine⟨rfl,rfl,bZn 1,?_⟩))
 ·have hin:n=i:=by omega
  subst hin
  cbv
  rw[en]
  cbv
  rw[e7f]
  cbv
  refine cgn rfl hg rfl rfl hSh (fun _=>0) rfl (ft1 (bZ 0 n) rfl) rfl rfl rfl ?_
  rintro _ _ _ ⟨rfl,rfl,rfl⟩ _
  refine⟨rfl,?_⟩
  simp only[renB,rcl (Z n) (bZ 0 n)]
  cbv
  exact hK _ _ _ ⟨rfl,rfl⟩
end
def minusS:ByteArray:=⟨⟨[45]⟩⟩
def rowRA(k:Nat):ByteArray:=if rowAL k=0 then minusS else hexS (rowA k) (rowAL k)
theorem mRow{P:Program}(hP:P=Tryz.prog)(k:Nat)(hk:1<=k/\k<=15)(p a b n x y:ByteArray)(hp:p=hexS (primeN k) (primeL k))(ha:a=rowRA k)(hb:b=hexS (rowB k) (rowBL k))(hn:n=hexS (rowN k) (rowNL k))(hx:x=hexS (rowX k) (rowXL k))(hy:y=hexS (rowY k) (rowYL k)):
 Con P 37 [.int .i64 (.ofNat k)] [] 0 [] (fun w L q=>w= .slice 0 0 6 6/\L=[⟨0,[.str p,.str a,.str b,.str n,.str x,.str y],9⟩]/\q=1):=by
 have:k=1\/k=2\/k=3\/k=4\/k=5\/k=6\/k=7\/k=8\/k=9\/k=10\/k=11\/k=12\/k=13\/k=14\/k=15:=by omega
 refine cof hP Tryz.func37 (bdb _ rfl) (bkb rfl) ?_
 intro A g K hA hg hK
 obtain⟨_,_,cmp⟩:=A
 have f:∀y z,cmp .eql y z=decide (y=z):=fun y z=>congrFun (congrFun (congrFun (cmp_of hA) .eql) y) z
 rcases this with rfl|rfl|rfl|rfl|rfl|rfl|rfl|rfl|rfl|rfl|rfl|rfl|rfl|rfl|rfl<;>(cbv;repeat (rw[f];cbv))<;>exact hK _ _ _ ⟨rfl,by rw[hp,ha,hb,hn,hx,hy];kernel_rfl,rfl⟩
theorem rowRA_minus(k:Nat)(h:1<=k/\k<=15):strCmp .eql (rowRA k) ⟨⟨[45]⟩⟩=decide (rowAL k=0):=by
 obtain⟨h1,h2⟩:=h
 show((rowRA k).toList==(ByteArray.mk ⟨[45]⟩).toList)=_
 rw[ByteArray.toList_eq,ByteArray.toList_eq]
 have:k=1\/k=2\/k=3\/k=4\/k=5\/k=6\/k=7\/k=8\/k=9\/k=10\/k=11\/k=12\/k=13\/k=14\/k=15:=by omega
 rcases this with rfl|rfl|rfl|rfl|rfl|rfl|rfl|rfl|rfl|rfl|rfl|rfl|rfl|rfl|rfl<;>decide +kernel
section
variable {P:Program}(hP:P=Tryz.prog){H:Nat->Nat->List SV}{S:Nat->Nat}(hs:HS H S)
include hP hs
theorem oneRow{y:Nat}(h:y<4294967296):H y 1=[.int .u32 (.ofNat y)]:=by
 have:=hP
 rw[hs.h]
 show [SV.int .u32 (.ofNat (dg y 0))]=_
 rw[show dg y 0=y from by unfold dg Dg.dig;rw[Nat.pow_zero,Nat.div_one];exact Nat.mod_eq_of_lt h]
theorem mGet(k:Nat)(hk:1<=k/\k<=15)(p a b n x y:Nat)(hp:p=primeN k)(ha:a=curA k)(hb:b=rowB k)(hn:n=rowN k)(hx:x=rowX k)(hy:y=rowY k):∃pc ac bc nc xc yc,p<4294967296^pc/\a<4294967296^ac/\b<4294967296^bc/\n<4294967296^nc/\x<4294967296^xc/\y<4294967296^yc/\
 Con P 10 [.int .i64 (.ofNat k)] [] 0 [] (fun w L q=>w= .tup [.agg [.int .i64 (.ofNat k),.slice 0 0 (S p) pc,.slice 1 0 (S a) ac,.slice 2 0 (S b) bc,.slice 3 0 (S n) nc,.slice 4 0 (S x) xc,.slice 5 0 (S y) yc],.bool true]/\
  L=[⟨0,H p pc,58⟩,⟨1,H a ac,58⟩,⟨2,H b bc,58⟩,⟨3,H n nc,58⟩,⟨4,H x xc,58⟩,⟨5,H y yc,58⟩]/\q=6):=by
 obtain⟨r1,r2,r3,r4,r5,l1,l2,l3,l4,l5,hbp,hp3⟩:=row_num k hk
 obtain⟨_,_,lp,_,rp⟩:=fld_num k hk
 obtain⟨ps,hps⟩:=exq (hexS (primeN k) (primeL k))
 obtain⟨sa,has⟩:=exq (rowRA k)
 obtain⟨bs,hbs⟩:=exq (hexS (rowB k) (rowBL k))
 obtain⟨ns,hns⟩:=exq (hexS (rowN k) (rowNL k))
 obtain⟨xs,hxs⟩:=exq (hexS (rowX k) (rowXL k))
 obtain⟨ys,hys⟩:=exq (hexS (rowY k) (rowYL k))
 have hR:=mRow hP k hk ps sa bs ns xs ys hps has hbs hns hxs hys
 obtain⟨pc,hpc⟩:=exq (primeL k/8+1)
 obtain⟨bc,hbc⟩:=exq (rowBL k/8+1)
 obtain⟨nc,hnc⟩:=exq (rowNL k/8+1)
 obtain⟨xc,hxc⟩:=exq (rowXL k/8+1)
 obtain⟨yc,hyc⟩:=exq (rowYL k/8+1)
 obtain⟨bp,hHp⟩:=mHex hP hs (primeL k) (primeN k) lp rp ps hps pc hpc
 obtain⟨bb,hHb⟩:=mHex hP hs (rowBL k) (rowB k) l2 r2 bs hbs bc hbc
 obtain⟨bn,hHn⟩:=mHex hP hs (rowNL k) (rowN k) l3 r3 ns hns nc hnc
 obtain⟨bx,hHx⟩:=mHex hP hs (rowXL k) (rowX k) l4 r4 xs hxs xc hxc
 obtain⟨by',hHy⟩:=mHex hP hs (rowYL k) (rowY k) l5 r5 ys hys yc hyc
 rw[<-hp]at hHp bp
 rw[<-hb]at hHb bb
 rw[<-hn]at hHn bn
 rw[<-hx]at hHx bx
 rw[<-hy]at hHy by'
 have vP:∀m,bdLB m (H p pc)=true:=fun m=>hs.b m p pc
 have vB:∀m,bdLB m (H b bc)=true:=fun m=>hs.b m b bc
 have vN:∀m,bdLB m (H n nc)=true:=fun m=>hs.b m n nc
 have vX:∀m,bdLB m (H x xc)=true:=fun m=>hs.b m x xc
 have vY:∀m,bdLB m (H y yc)=true:=fun m=>hs.b m y yc
 have h13:(3:Nat)<4294967296:=by decide
 have hrow3:=oneRow hP hs h13
 have hS3:=hs.one h13 (by decide)
 have hmi:=rowRA_minus k hk
 rw[<-has]at hmi
 by_cases hAL:rowAL k=0
 ·have hap:a=p-3:=by rw[ha,hp,curA,if_pos hAL]
  have hp40:p<4294967296^40:=by
   rw[hp];refine Nat.lt_of_lt_of_le rp (Nat.le_trans (Nat.pow_le_pow_right (by decide) lp) (by decide))
  obtain⟨ac,bac,hSb⟩:=mSub hP hs (x:=p) (c:=pc) (y:=3) (e:=1) bp (by decide) hp40 (by rw[hp];exact hp3) a hap
  rw[hS3,hrow3]at hSb
  have vA:∀m,bdLB m (H a ac)=true:=fun m=>hs.b m a ac
  refine⟨pc,ac,bc,nc,xc,yc,bp,bac,bb,bn,bx,by',?_⟩
  suffices raw:Con P 10 [.int .i64 (.ofNat k)] [] 0 [] (fun w L q=>w= .tup [.agg [.int .i64 (.ofNat k),.slice 2 0 (S p) pc,.slice 9 0 (S a) ac,.slice 3 0 (S b) bc,.slice 4 0 (S n) nc,.slice 5 0 (S x) xc,.slice 6 0 (S y) yc],.bool true]/\find L 2=some ⟨2,H p pc,58⟩/\find L 9=some ⟨9,H a ac,58⟩/\find L 3=some ⟨3,H b bc,58⟩/\find L 4=some ⟨4,H n nc,58⟩/\find L 5=some ⟨5,H x xc,58⟩/\find L 6=some ⟨6,H y yc,58⟩) by
   refine raw.weak fun v L q ⟨h1,h2,h3,h4,h5,h6,h7⟩=>⟨fun l=>if l=0 then 2 else if l=1 then 9 else l+1,.tup [.agg [.int .i64 (.ofNat k),.slice 0 0 (S p) pc,.slice 1 0 (S a) ac,.slice 2 0 (S b) bc,.slice 3 0 (S n) nc,.slice 4 0 (S x) xc,.slice 5 0 (S y) yc],.bool true],[⟨0,H p pc,58⟩,⟨1,H a ac,58⟩,⟨2,H b bc,58⟩,⟨3,H n nc,58⟩,⟨4,H x xc,58⟩,⟨5,H y yc,58⟩],6,?_,rfl,rfl,rfl⟩
   subst h1
   exact wkr ⟨rfl,rfl,trivial⟩ ⟨by rw[rcl _ (vP 0)];exact h2,rfl,rfl,vP 6,by rw[rcl _ (vA 0)];exact h3,rfl,rfl,vA 6,by rw[rcl _ (vB 0)];exact h4,rfl,rfl,vB 6,by rw[rcl _ (vN 0)];exact h5,rfl,rfl,vN 6,by rw[rcl _ (vX 0)];exact h6,rfl,rfl,vX 6,by rw[rcl _ (vY 0)];exact h7,rfl,rfl,vY 6,trivial⟩ rfl rfl rfl
  refine cof hP Tryz.func10 (bdb _ rfl) (bkb rfl) ?_
  intro A g K hA hg hK
  obtain⟨_,_,_,_,_,ix,_,_,_,_,_,scmp,_,_,_,off,get⟩:=A
  have e4:∀j,off 0 j 1=j:=fun j=>(off_of hA 0 j 1).trans (by omega)
  have i0:ix 0 6=some 0:=ix_of hA (k:=0) (n:=6) (by decide)
  have i1:ix 1 6=some 1:=ix_of hA (k:=1) (n:=6) (by decide)
  have i2:ix 2 6=some 2:=ix_of hA (k:=2) (n:=6) (by decide)
  have i3:ix 3 6=some 3:=ix_of hA (k:=3) (n:=6) (by decide)
  have i4:ix 4 6=some 4:=ix_of hA (k:=4) (n:=6) (by decide)
  have i5:ix 5 6=some 5:=ix_of hA (k:=5) (n:=6) (by decide)
  have q0:get [.str ps,.str sa,.str bs,.str ns,.str xs,.str ys] 0=some (.str ps):=(get_of hA _ _).trans rfl
  have q1:get [.str ps,.str sa,.str bs,.str ns,.str xs,.str ys] 1=some (.str sa):=(get_of hA _ _).trans rfl
  have q2:get [.str ps,.str sa,.str bs,.str ns,.str xs,.str ys] 2=some (.str bs):=(get_of hA _ _).trans rfl
  have q3:get [.str ps,.str sa,.str bs,.str ns,.str xs,.str ys] 3=some (.str ns):=(get_of hA _ _).trans rfl
  have q4:get [.str ps,.str sa,.str bs,.str ns,.str xs,.str ys] 4=some (.str xs):=(get_of hA _ _).trans rfl
  have q5:get [.str ps,.str sa,.str bs,.str ns,.str xs,.str ys] 5=some (.str ys):=(get_of hA _ _).trans rfl
  have hmin:scmp .eql sa ⟨⟨[45]⟩⟩=true:=by
   have e:scmp=Ar.real.scmp:=congrArg Ar.scmp hA
   rw[e]
   exact hmi.trans (decide_eq_true hAL)
  clear  hp ha hb hn hx hy hps has hbs hns hxs hys hpc hbc hnc hxc hyc
  cbv
  refine cgn rfl hg rfl rfl hR _root_.id rfl trivial rfl rfl rfl ?_
  rintro _ _ _ ⟨rfl,rfl,rfl⟩ _
  refine⟨rfl,?_⟩
  cbv
  refine reg_A (hP▸tblOk) hA hg (hP▸mixed) rfl rfl ?_
  cbv
  rw[i0]
  cbv
  rw[e4,q0]
  cbv
  refine stepDn (n':=3) (en_new rfl hg rfl rfl hHp _root_.id rfl trivial rfl (val:= .slice 0 0 (S p) pc) (NB:=[⟨0,H p pc,58⟩]) (n:=2) (n1:=1) (fun _ _ _ h=>⟨h.1,h.2.1,h.2.2⟩) rfl rfl (fun l h1 h2=>⟨_,List.mem_singleton.2 rfl,by show 0=l;omega⟩)) (by decide) rfl (by simp[renB]) ?_
  simp only[renB,rcl (H p pc) (vP 0)]
  cbv
  rw[i2]
  cbv
  rw[e4,q2]
  cbv
  refine stepDn (n':=4) (en_new rfl hg rfl rfl hHb _root_.id rfl trivial rfl (val:= .slice 0 0 (S b) bc) (NB:=[⟨0,H b bc,58⟩]) (n:=3) (n1:=1) (fun _ _ _ h=>⟨h.1,h.2.1,h.2.2⟩) rfl rfl (fun l h1 h2=>⟨_,List.mem_singleton.2 rfl,by show 0=l;omega⟩)) (by decide) rfl (by simp[renB]) ?_
  simp only[renB,rcl (H b bc) (vB 0)]
  cbv
  rw[i3]
  cbv
  rw[e4,q3]
  cbv
  refine stepDn (n':=5) (en_new rfl hg rfl rfl hHn _root_.id rfl trivial rfl (val:= .slice 0 0 (S n) nc) (NB:=[⟨0,H n nc,58⟩]) (n:=4) (n1:=1) (fun _ _ _ h=>⟨h.1,h.2.1,h.2.2⟩) rfl rfl (fun l h1 h2=>⟨_,List.mem_singleton.2 rfl,by show 0=l;omega⟩)) (by decide) rfl (by simp[renB]) ?_
  simp only[renB,rcl (H n nc) (vN 0)]
  cbv
  rw[i4]
  cbv
  rw[e4,q4]
  cbv
  refine stepDn (n':=6) (en_new rfl hg rfl rfl hHx _root_.id rfl trivial rfl (val:= .slice 0 0 (S x) xc) (NB:=[⟨0,H x xc,58⟩]) (n:=5) (n1:=1) (fun _ _ _ h=>⟨h.1,h.2.1,h.2.2⟩) rfl rfl (fun l h1 h2=>⟨_,List.mem_singleton.2 rfl,by show 0=l;omega⟩)) (by decide) rfl (by simp[renB]) ?_
  simp only[renB,rcl (H x xc) (vX 0)]
  cbv
  rw[i5]
  cbv
  rw[e4,q5]
  cbv
  refine stepDn (n':=7) (en_new rfl hg rfl rfl hHy _root_.id rfl trivial rfl (val:= .slice 0 0 (S y) yc) (NB:=[⟨0,H y yc,58⟩]) (n:=6) (n1:=1) (fun _ _ _ h=>⟨h.1,h.2.1,h.2.2⟩) rfl rfl (fun l h1 h2=>⟨_,List.mem_singleton.2 rfl,by show 0=l;omega⟩)) (by decide) rfl (by simp[renB]) ?_
  simp only[renB,rcl (H y yc) (vY 0)]
  cbv
  rw[i1]
  cbv
  rw[e4,q1]
  cbv
  rw[hmin]
  cbv
  refine cgn rfl hg rfl rfl hSb (fun l=>if l=0 then 2 else 8) rfl (ft2 (vP 0) rfl rfl rfl) rfl rfl rfl ?_
  rintro _ _ _ ⟨rfl,rfl,rfl⟩ _
  refine⟨rfl,?_⟩
  simp only[renB,rcl (H a ac) (vA 0)]
  cbv
  exact hK _ _ _ ⟨rfl,rfl,rfl,rfl,rfl,rfl,rfl⟩
 ·have hap:a=rowA k:=by rw[ha,curA,if_neg hAL]
  obtain⟨ac,hac⟩:=exq (rowAL k/8+1)
  obtain⟨ba,hHa⟩:=mHex hP hs (rowAL k) (rowA k) l1 r1 sa (by rw[has,rowRA,if_neg hAL]) ac hac
  rw[<-hap]at hHa ba
  have vA:∀m,bdLB m (H a ac)=true:=fun m=>hs.b m a ac
  refine⟨pc,ac,bc,nc,xc,yc,bp,ba,bb,bn,bx,by',?_⟩
  suffices raw:Con P 10 [.int .i64 (.ofNat k)] [] 0 [] (fun w L q=>w= .tup [.agg [.int .i64 (.ofNat k),.slice 2 0 (S p) pc,.slice 8 0 (S a) ac,.slice 3 0 (S b) bc,.slice 4 0 (S n) nc,.slice 5 0 (S x) xc,.slice 6 0 (S y) yc],.bool true]/\find L 2=some ⟨2,H p pc,58⟩/\find L 8=some ⟨8,H a ac,58⟩/\find L 3=some ⟨3,H b bc,58⟩/\find L 4=some ⟨4,H n nc,58⟩/\find L 5=some ⟨5,H x xc,58⟩/\find L 6=some ⟨6,H y yc,58⟩) by
   refine raw.weak fun v L q ⟨h1,h2,h3,h4,h5,h6,h7⟩=>⟨fun l=>if l=0 then 2 else if l=1 then 8 else l+1,.tup [.agg [.int .i64 (.ofNat k),.slice 0 0 (S p) pc,.slice 1 0 (S a) ac,.slice 2 0 (S b) bc,.slice 3 0 (S n) nc,.slice 4 0 (S x) xc,.slice 5 0 (S y) yc],.bool true],[⟨0,H p pc,58⟩,⟨1,H a ac,58⟩,⟨2,H b bc,58⟩,⟨3,H n nc,58⟩,⟨4,H x xc,58⟩,⟨5,H y yc,58⟩],6,?_,rfl,rfl,rfl⟩
   subst h1
   exact wkr ⟨rfl,rfl,trivial⟩ ⟨by rw[rcl _ (vP 0)];exact h2,rfl,rfl,vP 6,by rw[rcl _ (vA 0)];exact h3,rfl,rfl,vA 6,by rw[rcl _ (vB 0)];exact h4,rfl,rfl,vB 6,by rw[rcl _ (vN 0)];exact h5,rfl,rfl,vN 6,by rw[rcl _ (vX 0)];exact h6,rfl,rfl,vX 6,by rw[rcl _ (vY 0)];exact h7,rfl,rfl,vY 6,trivial⟩ rfl rfl rfl
  refine cof hP Tryz.func10 (bdb _ rfl) (bkb rfl) ?_
  intro A g K hA hg hK
  obtain⟨_,_,_,_,_,ix,_,_,_,_,_,scmp,_,_,_,off,get⟩:=A
  have e4:∀j,off 0 j 1=j:=fun j=>(off_of hA 0 j 1).trans (by omega)
  have i0:ix 0 6=some 0:=ix_of hA (k:=0) (n:=6) (by decide)
  have i1:ix 1 6=some 1:=ix_of hA (k:=1) (n:=6) (by decide)
  have i2:ix 2 6=some 2:=ix_of hA (k:=2) (n:=6) (by decide)
  have i3:ix 3 6=some 3:=ix_of hA (k:=3) (n:=6) (by decide)
  have i4:ix 4 6=some 4:=ix_of hA (k:=4) (n:=6) (by decide)
  have i5:ix 5 6=some 5:=ix_of hA (k:=5) (n:=6) (by decide)
  have q0:get [.str ps,.str sa,.str bs,.str ns,.str xs,.str ys] 0=some (.str ps):=(get_of hA _ _).trans rfl
  have q1:get [.str ps,.str sa,.str bs,.str ns,.str xs,.str ys] 1=some (.str sa):=(get_of hA _ _).trans rfl
  have q2:get [.str ps,.str sa,.str bs,.str ns,.str xs,.str ys] 2=some (.str bs):=(get_of hA _ _).trans rfl
  have q3:get [.str ps,.str sa,.str bs,.str ns,.str xs,.str ys] 3=some (.str ns):=(get_of hA _ _).trans rfl
  have q4:get [.str ps,.str sa,.str bs,.str ns,.str xs,.str ys] 4=some (.str xs):=(get_of hA _ _).trans rfl
  have q5:get [.str ps,.str sa,.str bs,.str ns,.str xs,.str ys] 5=some (.str ys):=(get_of hA _ _).trans rfl
  have hmin:scmp .eql sa ⟨⟨[45]⟩⟩=false:=by
   have e:scmp=Ar.real.scmp:=congrArg Ar.scmp hA
   rw[e]
   exact hmi.trans (decide_eq_false hAL)
  clear hac hp ha hb hn hx hy hps has hbs hns hxs hys hpc hbc hnc hxc hyc
  cbv
  refine cgn rfl hg rfl rfl hR _root_.id rfl trivial rfl rfl rfl ?_
  rintro _ _ _ ⟨rfl,rfl,rfl⟩ _
  refine⟨rfl,?_⟩
  cbv
  refine reg_A (hP▸tblOk) hA hg (hP▸mixed) rfl rfl ?_
  cbv
  rw[i0]
  cbv
  rw[e4,q0]
  cbv
  refine stepDn (n':=3) (en_new rfl hg rfl rfl hHp _root_.id rfl trivial rfl (val:= .slice 0 0 (S p) pc) (NB:=[⟨0,H p pc,58⟩]) (n:=2) (n1:=1) (fun _ _ _ h=>⟨h.1,h.2.1,h.2.2⟩) rfl rfl (fun l h1 h2=>⟨_,List.mem_singleton.2 rfl,by show 0=l;omega⟩)) (by decide) rfl (by simp[renB]) ?_
  simp only[renB,rcl (H p pc) (vP 0)]
  cbv
  rw[i2]
  cbv
  rw[e4,q2]
  cbv
  refine stepDn (n':=4) (en_new rfl hg rfl rfl hHb _root_.id rfl trivial rfl (val:= .slice 0 0 (S b) bc) (NB:=[⟨0,H b bc,58⟩]) (n:=3) (n1:=1) (fun _ _ _ h=>⟨h.1,h.2.1,h.2.2⟩) rfl rfl (fun l h1 h2=>⟨_,List.mem_singleton.2 rfl,by show 0=l;omega⟩)) (by decide) rfl (by simp[renB]) ?_
  simp only[renB,rcl (H b bc) (vB 0)]
  cbv
  rw[i3]
  cbv
  rw[e4,q3]
  cbv
  refine stepDn (n':=5) (en_new rfl hg rfl rfl hHn _root_.id rfl trivial rfl (val:= .slice 0 0 (S n) nc) (NB:=[⟨0,H n nc,58⟩]) (n:=4) (n1:=1) (fun _ _ _ h=>⟨h.1,h.2.1,h.2.2⟩) rfl rfl (fun l h1 h2=>⟨_,List.mem_singleton.2 rfl,by show 0=l;omega⟩)) (by decide) rfl (by simp[renB]) ?_
  simp only[renB,rcl (H n nc) (vN 0)]
  cbv
  rw[i4]
  cbv
  rw[e4,q4]
  cbv
  refine stepDn (n':=6) (en_new rfl hg rfl rfl hHx _root_.id rfl trivial rfl (val:= .slice 0 0 (S x) xc) (NB:=[⟨0,H x xc,58⟩]) (n:=5) (n1:=1) (fun _ _ _ h=>⟨h.1,h.2.1,h.2.2⟩) rfl rfl (fun l h1 h2=>⟨_,List.mem_singleton.2 rfl,by show 0=l;omega⟩)) (by decide) rfl (by simp[renB]) ?_
  simp only[renB,rcl (H x xc) (vX 0)]
  cbv
  rw[i5]
  cbv
  rw[e4,q5]
  cbv
  refine stepDn (n':=7) (en_new rfl hg rfl rfl hHy _root_.id rfl trivial rfl (val:= .slice 0 0 (S y) yc) (NB:=[⟨0,H y yc,58⟩]) (n:=6) (n1:=1) (fun _ _ _ h=>⟨h.1,h.2.1,h.2.2⟩) rfl rfl (fun l h1 h2=>⟨_,List.mem_singleton.2 rfl,by show 0=l;omega⟩)) (by decide) rfl (by simp[renB]) ?_
  simp only[renB,rcl (H y yc) (vY 0)]
  cbv
  rw[i1]
  cbv
  rw[e4,q1]
  cbv
  rw[hmin]
  cbv
  rw[i1]
  cbv
  rw[e4,q1]
  cbv
  refine cgn rfl hg rfl rfl hHa _root_.id rfl trivial rfl rfl rfl ?_
  rintro _ _ _ ⟨rfl,rfl,rfl⟩ _
  refine⟨rfl,?_⟩
  simp only[renB,rcl (H a ac) (vA 0)]
  cbv
  exact hK _ _ _ ⟨rfl,rfl,rfl,rfl,rfl,rfl,rfl⟩
end
end Go.Proofs.YtdhmihfefgcbeaaGreat
