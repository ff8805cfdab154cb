/-
  This text proves what these texts prove: Pd, Pe, Pf, Pg. Conditions: those of each theorem.
-/
import Derived.Test.YtdhmihfefgcbeaaGreatX22
set_option maxHeartbeats 8000000
set_option linter.all false
namespace Go.Vg
open Go.RowKit Go.Lib
theorem B_pow(n:Nat):4294967296^n=2^(32*n):=by rw[Nat.pow_mul]
theorem dg_bit(x i:Nat):dg x (i/32)/2^(i%32)%2=x/2^i%2:=by
 unfold dg Dg.dig
 rw[B_pow]
 have h:x/2^i=x/2^(32*(i/32))/2^(i%32):=by rw[Nat.div_div_eq_div_mul,<-Nat.pow_add,Nat.div_add_mod]
 rw[h]
 have hr:i%32<32:=Nat.mod_lt _ (by decide)
 generalize x/2^(32*(i/32))=y
 generalize i%32=r at *
 obtain⟨d,hd⟩:∃d,32=r+(d+1):=⟨31-r,by omega⟩
 rw[show(4294967296:Nat)=2^32 from rfl]
 generalize (32:Nat)=t at hd
 subst hd
 rw[Nat.pow_add 2 r (d+1),Nat.mod_mul_right_div_self,Nat.pow_succ]
 exact Nat.mod_mod_of_dvd _ ⟨2^d,Nat.mul_comm _ _⟩
theorem shr_dig(x i k:Nat)(hk:k<32):(dg x i+dg x (i+1)*4294967296)/2^k%4294967296=dg (x/2^k) i:=by
 have h1:dg (x/2^k) i=x/4294967296^i/2^k%4294967296:=by
  unfold dg Dg.dig;rw[Nat.div_div_eq_div_mul,Nat.mul_comm,<-Nat.div_div_eq_div_mul]
 have h2:dg x (i+1)=x/4294967296^i/4294967296%4294967296:=by
  unfold dg Dg.dig;rw[Nat.pow_succ,Nat.div_div_eq_div_mul]
 rw[h1,h2]
 show(x/4294967296^i%4294967296+_)/_%_=_
 generalize x/4294967296^i=y
 have h3:y=(y%4294967296+y/4294967296%4294967296*4294967296)+0x10000000000000000*(y/0x10000000000000000):=by omega
 obtain⟨d,hd⟩:∃d,32=k+d:=⟨32-k,by omega⟩
 have h4:(0x10000000000000000:Nat)=2^k*(2^d*4294967296):=by
  rw[<-Nat.mul_assoc,<-Nat.pow_add,<-hd]
 have h5:y/2^k=(y%4294967296+y/4294967296%4294967296*4294967296)/2^k+2^d*(y/0x10000000000000000)*4294967296:=by
  have:=congrArg (· /2^k) h3
  refine this.trans ?_
  show(_+0x10000000000000000*(y/0x10000000000000000))/2^k=_
  rw[show 0x10000000000000000*(y/0x10000000000000000)=2^k*(2^d*(y/0x10000000000000000)*4294967296)from by
   generalize y/0x10000000000000000=q
   rw[h4];ac_rfl,Nat.add_mul_div_left _ _ (Nat.two_pow_pos k)]
 rw[h5,Nat.add_mul_mod_self_right]
def shC(x s i:Nat):Nat:=(x%4294967296^i*2^s)/4294967296^i
theorem shC_zero(x s:Nat)(hs:s<32):shC x s 0=0:=by unfold shC;rw[Nat.pow_zero,Nat.mod_one,Nat.zero_mul]
theorem shC_lt(x s i:Nat):shC x s i<2^s:=by
 unfold shC
 have hp:0<4294967296^i:=Nat.pow_pos (by decide)
 exact Nat.div_lt_of_lt_mul (Nat.mul_lt_mul_of_pos_right (Nat.mod_lt x hp) (Nat.two_pow_pos s))
theorem shlDig(x s i z:Nat)(hz:z=dg x i*2^s+shC x s i):dg (x*2^s) i=z%4294967296/\shC x s (i+1)=z/4294967296:=by
 have hp:0<4294967296^i:=Nat.pow_pos (by decide)
 have key:x%4294967296^(i+1)*2^s=(x%4294967296^i*2^s)%4294967296^i+z*4294967296^i:=by
  rw[dig_mod,hz,Nat.add_mul,Nat.add_mul]
  have h:=Nat.div_add_mod (x%4294967296^i*2^s) (4294967296^i)
  rw[Nat.mul_comm]at h
  unfold shC
  have h2:dg x i*4294967296^i*2^s=dg x i*2^s*4294967296^i:=by ac_rfl
  show _+dg x i*_*_=_
  rw[h2]
  generalize dg x i*2^s*4294967296^i=a at *
  generalize (x%4294967296^i*2^s)/4294967296^i*4294967296^i=c at *
  omega
 have hst:=step_dig (Q:=4294967296^i) (B:=4294967296) (s:=z) (Z:=x*2^s) (by decide) (Nat.mod_lt _ hp) (by rw[<-key,<-Nat.pow_succ,Nat.mod_mul_mod])
 refine⟨hst.1,?_⟩
 unfold shC
 rw[key,Nat.pow_succ]
 exact hst.2
theorem shl_part{a s c z w:Nat}(hs:s<32)(ha:a<4294967296)(hc:c<2^s)(hw:w=a*2^s)(hz:z=w+c):z%4294967296=w%4294967296+c/\z/4294967296=w/4294967296/\c|||w%4294967296=w%4294967296+c/\w<0x10000000000000000/\w%4294967296+c<4294967296:=by
 obtain⟨d,hd⟩:∃d,32=s+d:=⟨32-s,by omega⟩
 have hB:(4294967296:Nat)=2^s*2^d:=by rw[<-Nat.pow_add,<-hd]
 have h1:w%4294967296=(a%2^d)*2^s:=by
  rw[hw,hB,Nat.mul_comm a,Nat.mul_mod_mul_left,Nat.mul_comm]
 have h2:a%2^d+1<=2^d:=Nat.mod_lt _ (Nat.two_pow_pos d)
 have h3:(a%2^d+1)*2^s<=2^d*2^s:=Nat.mul_le_mul_right _ h2
 rw[Nat.add_mul,Nat.one_mul,<-h1,Nat.mul_comm (2^d),<-hB]at h3
 have h4:2^s<=2^31:=Nat.pow_le_pow_right (by decide) (by omega)
 have h5:w<=4294967295*2147483648:=by rw[hw];exact Nat.mul_le_mul (by omega) h4
 refine⟨by omega,by omega,?_,by omega,by omega⟩
 rw[Nat.or_comm,h1]
 exact or_add hc
def shR(x s i:Nat):Nat->Nat:=fun j=>if j<i then dg (x*2^s) j else if j=i then shC x s i else 0
theorem shR_zero(x s:Nat)(hs:s<32):shR x s 0=fun _=>0:=by
 funext j;unfold shR
 rw[if_neg (Nat.not_lt_zero j)]
 split
 ·exact shC_zero x s hs
 ·rfl
def shM(x s i:Nat):Nat->Nat:=fun j=>if j<i+1 then dg (x*2^s) j else 0
theorem shM_of(x s i v:Nat)(hv:v=dg (x*2^s) i):shM x s i=fun j=>if j=i then v else shR x s i j:=by
 funext j;unfold shM shR
 by_cases e:j=i
 ·rw[if_pos e,if_pos (by omega),hv,e]
 ·rw[if_neg e]
  by_cases e2:j<i
  ·rw[if_pos e2,if_pos (by omega)]
  ·rw[if_neg e2,if_neg e,if_neg (by omega)]
theorem shR_of(x s i v:Nat)(hv:v=shC x s (i+1)):shR x s (i+1)=fun j=>if j=i+1 then v else shM x s i j:=by
 funext j;unfold shM shR
 by_cases e:j=i+1
 ·rw[if_pos e,if_neg (by omega),if_pos e,hv]
 ·rw[if_neg e,if_neg e]
theorem shR_end{x n:Nat}(s:Nat)(hx:x<4294967296^n)(hs:s<32){j:Nat}(hj:j<n+1):shR x s n j=dg (x*2^s) j:=by
 unfold shR
 by_cases e:j<n
 ·rw[if_pos e]
 ·obtain rfl:j=n:=by omega
  rw[if_neg e,if_pos rfl,(shlDig x s j _ rfl).1,show dg x j=0 from Dg.dig_big (by decide) hx (Nat.le_refl _),Nat.zero_mul,Nat.zero_add,Nat.mod_eq_of_lt]
  exact Nat.lt_of_lt_of_le (shC_lt x s j) (Nat.le_trans (Nat.pow_le_pow_right (by decide) (show s<=32 by omega)) (by decide))
end Go.Vg
namespace Go.Proofs.YtdhmihfefgcbeaaGreat
open Go.Vg Go.RowKit
set_option maxRecDepth 200000
set_option cbv.maxSteps 100000000
theorem cRBits{P:Program}(hP:P=Tryz.prog){n c x:Nat}{f:Nat->Nat}(hx:Nm n c f x)(hn:n<2^20)(b:Nat)(hb:IsBl x b):Con P 36 [.slice 0 0 n c] [⟨0,hs f c,58⟩] 1 [] (fun w _ _=>w= .int .i64 (.ofNat b)):=by
 have hnc:=hx.le
 obtain⟨C,hC⟩:=exq (hs f c)
 have bC:∀m,bdLB m C=true:=fun m=>by rw[hC];exact hs_bd f c m
 rw[<-hC]
 by_cases h0:n=0
 ·have hx0:=hx.zero.1 h0
  subst h0 hx0
  have hb0:b=0:=hb.zero
  subst hb0
  clear hC hx
  refine cof hP Tryz.func36 ⟨blq rfl,trivial⟩ (by simpa [bdL,bd]using bdb _ (bC 1)) ?_
  intro A g K hA hg hK
  obtain⟨bin,sh,cmp,_,_,ix,_,_,_,_,_,_,_,_,nat,off,get,_,sub⟩:=A
  have e0:nat 0=0:=nat_of hA 0
  have e1:cmp .eql 0 0=true:=eql_t hA (a:=0) (b:=0) rfl
  cbv
  rw[e0]
  rw[e1]
  cbv
  exact hK _ _ _ rfl
 ·obtain⟨k,hk⟩:∃k,n=k+1:=⟨n-1,by omega⟩
  obtain⟨t,ht⟩:=exq (f k)
  have htl:t<4294967296:=by rw[ht];exact hx.w k (by omega)
  have ht0:t≠0:=by
   rcases hx.tr with h|h
   ·exact absurd h h0
   ·rw[ht];rw[hk,Nat.add_sub_cancel]at h;exact h
  obtain⟨l,hl⟩:=bl_ex t
  have hl32:l<=32:=by
   rcases Nat.lt_or_ge 32 l with h|h
   ·have:=hl.2 (by omega)
    have h2:=Nat.pow_le_pow_right (n:=2) (by decide) (show 32<=l-1 by omega)
    omega
   ·exact h
  have hbl:b=32*k+l:=by
   have h1:=IsBl.shift (x:=Dg.num 4294967296 f k) (s:=32*k) (by rw[<-B_pow];exact Dg.num_lt k fun i hi=>hx.w i (by omega)) hl (by omega)
   have h2:x=Dg.num 4294967296 f k+t*2^(32*k):=by rw[<-hx.v,hk,ht,<-B_pow];rfl
   rw[<-h2]at h1
   exact hb.uniq h1
  obtain⟨kk,hkk⟩:=exq (32*k)
  obtain⟨T,hT⟩:=exq (fun j=>t/2^j:Nat->Nat)
  have T0:T 0=t:=by rw[hT];exact Nat.div_one t
  have Ts:∀j,T (j+1)=T j/2^1:=fun j=>by rw[hT];show t/2^(j+1)=t/2^j/2^1;rw[Nat.div_div_eq_div_mul,<-Nat.pow_add]
  have Tp:∀j,j<l->0<T j:=fun j h=>by rw[hT];exact Nat.div_pos (Nat.le_trans (Nat.pow_le_pow_right (by decide) (by omega)) (hl.2 (by omega))) (Nat.two_pow_pos j)
  have Tl:T l=0:=by rw[hT];exact Nat.div_eq_of_lt hl.1
  obtain⟨bb,hbb⟩:=exq (fun j=>kk+j:Nat->Nat)
  have b0:bb 0=kk:=by rw[hbb];rfl
  have bs:∀j,bb (j+1)=bb j+1:=fun j=>by rw[hbb];rfl
  have ble:∀j,j<=l->bb j<2^40:=fun j h=>by rw[hbb];show kk+j<_;omega
  have bl':bb l=b:=by rw[hbb,hbl,hkk]
  clear hT hbb
  refine cof hP Tryz.func36 ⟨blq rfl,trivial⟩ (by simpa [bdL,bd]using bdb _ (bC 1)) ?_
  intro A g K hA hg hK
  obtain⟨bin,sh,cmp,_,_,ix,_,_,_,_,_,_,_,_,nat,off,get,_,sub⟩:=A
  have e0:nat n=Int.ofNat n:=nat_of hA n
  have e1:cmp .eql (.ofNat n) 0=false:=eql_f hA (b:=0) h0
  have e2:bin .sub .i64 (.ofNat n) 1=Int.ofNat k:=(subI hA (a:=n) (b:=1) (by omega) (by omega)).trans (by rw[hk,Nat.add_sub_cancel])
  have e3:bin .mul .i64 32 (.ofNat k)=Int.ofNat kk:=(mulI hA (a:=32) (b:=k) (by omega)).trans (by rw[hkk])
  have e4:ix (.ofNat k) n=some k:=ix_of hA (by omega)
  have e5:off 0 k 1=k:=(off_of hA 0 k 1).trans (by omega)
  have e6:get C k=some (.int .u32 (.ofNat t)):=by rw[ht,hC];exact getW hA .u32 f (by omega)
  have e7:∀j,j<l->cmp .gtr (.ofNat (T j)) 0=true:=fun j h=>gtr_t hA (b:=0) (Tp j h)
  have e8:∀j,j<l->bin .add .i64 (.ofNat (bb j)) 1=Int.ofNat (bb (j+1)):=fun j h=>(addI hA (b:=1) (by have:=ble j (by omega);omega)).trans (by rw[bs])
  have e9:∀j,sh .shr .u32 (.ofNat (T j)) 1=Int.ofNat (T (j+1)):=fun j=>(shrI hA (k:= .u32) (a:=T j) (b:=1) (by decide)).trans (by rw[Ts])
  clear hC
  cbv
  rw[e0]
  rw[e1]
  cbv
  rw[e0,e2,e3]
  cbv
  rw[e4]
  cbv
  rw[e5,e6]
  cbv
  refine lpb Nat (fun j=>j<=l) (fun j=>l-j) (fun j=> [(3,.int .i64 (.ofNat (bb j))),(4,.int .u32 (.ofNat (T j)))]) [0,2] (fun _=> []) 0 (Nat.zero_le _) ?_ ?_
  ·rw[b0,T0]
   exact wkih (by repeat' (first|exact trivial|refine⟨rfl,rfl,rfl,?_⟩|refine⟨rfl,rfl,bC 1,?_⟩))
  intro j hj
  by_cases hjl:j<l
  ·have g1:=e7 j hjl
   have g2:=e8 j hjl
   have g3:=e9 j
   obtain⟨b1,hb1⟩:=exq (bb (j+1))
   obtain⟨t1,ht1⟩:=exq (T (j+1))
   rw[<-hb1]at g2
   rw[<-ht1]at g3
   cbv
   rw[g1]
   cbv
   rw[g2]
   cbv
   rw[g3]
   refine⟨j+1,_root_.id,hjl,(by show l-(j+1)<l-j;omega),?_⟩
   rw[hb1,ht1]
   exact wkih (by repeat' (first|exact trivial|refine⟨rfl,rfl,rfl,?_⟩|refine⟨rfl,rfl,bC 1,?_⟩))
  ·have hjl2:j=l:=by omega
   cbv
   rw[show cmp .gtr (.ofNat (T j)) 0=false from gtr_f hA (b:=0) (by rw[hjl2,Tl];exact Nat.lt_irrefl 0)]
   cbv
   refine hK _ _ _ ?_
   rw[hjl2,bl']
   rfl
theorem cRBit{P:Program}(hP:P=Tryz.prog){n c x:Nat}{f:Nat->Nat}(hx:Nm n c f x)(i r:Nat)(hi:i<2^40)(hr:r=x/2^i%2):Con P 45 [.slice 0 0 n c,.int .i64 (.ofNat i)] [⟨0,hs f c,58⟩] 1 [] (fun w _ _=>w= .int .i64 (.ofNat r)):=by
 obtain⟨q,hq⟩:=exq (i/32)
 obtain⟨s,hs⟩:=exq (i%32)
 obtain⟨d,hd⟩:=exq (dg x q)
 obtain⟨y,hy⟩:=exq (d/2^s)
 have hr2:r=y%2:=by rw[hr,hy,hd,hq,hs,dg_bit]
 have hdx:Con P 49 [.slice 0 0 n c,.int .i64 (.ofNat q)] [⟨0,Vg.hs f c,58⟩] 1 [] (fun w _ _=>w= .int .u64 (.ofNat d)):=cRDigit hP f n c q _ hx.le hx.w (by
  rw[hd]
  by_cases h:q<n
  ·rw[if_pos h,hx.dig h]
  ·rw[if_neg h,hx.digz (by omega)])
 have hdl:d<4294967296:=by rw[hd];exact dg_lt _ _
 have hyl:y<4294967296:=by rw[hy];exact Nat.lt_of_le_of_lt (Nat.div_le_self _ _) hdl
 obtain⟨C,hC⟩:=exq (Vg.hs f c)
 have bC:∀m,bdLB m C=true:=fun m=>by rw[hC];exact hs_bd f c m
 rw[<-hC]at hdx⊢
 clear hd
 refine cof hP Tryz.func45 ⟨blq rfl,⟨trivial,trivial⟩⟩ (by simpa [bdL,bd]using bdb _ (bC 1)) ?_
 intro A g K hA hg hK
 obtain⟨bin,sh,_,_,cvt,_,nn⟩:=A
 have e1:bin .quo .i64 (.ofNat i) 32=Int.ofNat q:=(quoI hA (a:=i) (b:=32) (by omega)).trans (by rw[hq])
 have e2:bin .rem .i64 (.ofNat i) 32=Int.ofNat s:=(remW hA i 32).trans (by rw[hs])
 have e3:nn (.ofNat s)=true:=nn_t hA s
 have e4:sh .shr .u64 (.ofNat d) (.ofNat s)=Int.ofNat y:=(shrI hA (k:= .u64) (a:=d) (b:=s) (by show s<=64;omega)).trans (by rw[hy])
 have e5:bin .and .u64 (.ofNat y) 1=Int.ofNat r:=(andW hA (k:= .u64) rfl (a:=y) (b:=1) (by show y<0x10000000000000000;omega) (by decide)).trans (congrArg Int.ofNat (by rw[hr2];exact Nat.and_two_pow_sub_one_eq_mod y 1))
 have e6:cvt .i64 (.ofNat r)=Int.ofNat r:=cvtI hA (k:= .i64) (a:=r) (fun _=>by show r<2^63;omega) (fun h=>by cases h)
 cbv
 rw[e1]
 cbv
 refine cro rfl hg rfl rfl hdx (fun _=>0) rfl (ft1 (bC 0) rfl) ?_
 rintro _ _ _ rfl
 refine⟨trivial,trivial,?_⟩
 cbv
 rw[e2]
 cbv
 rw[e3]
 cbv
 rw[e4]
 cbv
 rw[e5]
 cbv
 rw[e6]
 exact hK _ _ _ rfl
end Go.Proofs.YtdhmihfefgcbeaaGreat
namespace Go.Vg
structure Nw(n c:Nat)(f:Nat->Nat)(x:Nat):Prop where
 le:n<=c
 w:∀j,j<c->f j<4294967296
 v:Dg.num 4294967296 f n=x
theorem Nm.nw{n c x:Nat}{f:Nat->Nat}(h:Nm n c f x):Nw n c f x:=⟨h.le,h.w,h.v⟩
theorem Nw.lt{n c x:Nat}{f:Nat->Nat}(h:Nw n c f x):x<4294967296^n:=by
 rw[<-h.v];exact Dg.num_lt n fun i hi=>h.w i (Nat.lt_of_lt_of_le hi h.le)
theorem Nw.dig{n c x:Nat}{f:Nat->Nat}(h:Nw n c f x){i:Nat}(hi:i<n):f i=dg x i:=by
 rw[<-h.v];exact(Dg.dig_num (by decide) n (fun j hj=>h.w j (Nat.lt_of_lt_of_le hj h.le)) i hi).symm
theorem Nw.digz{n c x:Nat}{f:Nat->Nat}(h:Nw n c f x){i:Nat}(hi:n<=i):dg x i=0:=Dg.dig_big (by decide) h.lt hi
end Go.Vg
namespace Go.Proofs.YtdhmihfefgcbeaaGreat
open Go.Vg Go.RowKit
set_option maxRecDepth 200000
set_option cbv.maxSteps 100000000
theorem cRShrZ{P:Program}(hP:P=Tryz.prog){c:Nat}{f:Nat->Nat}(s:Nat)(hs32:s<32):Con P 34 [.slice 0 0 0 c,.int .i64 (.ofNat s)] [⟨0,hs f c,58⟩] 1 [] (fun w _ _=>w= .nils):=by
 obtain⟨C,hC⟩:=exq (hs f c)
 have bC:∀m,bdLB m C=true:=fun m=>by rw[hC];exact hs_bd f c m
 rw[<-hC]
 clear hC
 refine cof hP Tryz.func34 ⟨blq rfl,⟨trivial,trivial⟩⟩ (by simpa [bdL,bd]using bdb _ (bC 1)) ?_
 intro A g K hA hg hK
 obtain⟨bin,_,cmp,_,_,_,_,_,_,_,_,_,_,_,nat⟩:=A
 have e0:nat 0=Int.ofNat 0:=nat_of hA 0
 have e1:bin .quo .i64 (.ofNat s) 32=Int.ofNat 0:=(quoI hA (a:=s) (b:=32) (by omega)).trans (by rw[Nat.div_eq_of_lt hs32])
 have e2:cmp .geq (.ofNat 0) (.ofNat 0)=true:=geq_t hA (Nat.le_refl 0)
 cbv
 rw[e1,e0,e2]
 cbv
 exact hK _ _ _ rfl
theorem cRShr{P:Program}(hP:P=Tryz.prog){n c x:Nat}{f:Nat->Nat}(hx:Nw n c f x)(hn:n<2^20)(hn0:0<n)(s:Nat)(hs32:s<32)(y r:Nat)(hy:y=x/2^s)(hr:r=Vg.sz y):
 Con P 34 [.slice 0 0 n c,.int .i64 (.ofNat s)] [⟨0,hs f c,58⟩] 1 [] (fun w L q=>w= .slice 1 0 r n/\L=[⟨1,hs (dg y) n,58⟩]/\q=2):=by
 have hnc:=hx.le
 obtain⟨Z,hZ⟩:=exq (fun i=>hs (wr (dg y) i) n:Nat->List SV)
 have bZ:∀m i,bdLB m (Z i)=true:=fun m i=>by rw[hZ];exact hs_bd _ _ m
 have hZ0:List.replicate n (SV.int .u32 0)=Z 0:=by rw[hZ,hs_zero];show _=hs (wr _ 0) n;rw[wr_zero]
 have hZn:Z n=hs (dg y) n:=by rw[hZ];exact hs_wr _ _
 suffices raw:Con P 34 [.slice 0 0 n c,.int .i64 (.ofNat s)] [⟨0,hs f c,58⟩] 1 [] (fun w L q=>w= .slice 1 0 r n/\find L 1=some ⟨1,Z n,58⟩)from
  raw.weak fun v L q ⟨h1,h2⟩=>⟨_root_.id,.slice 1 0 r n,[⟨1,Z n,58⟩],2,by subst h1;exact weak_id ⟨rfl,rfl,trivial⟩ ⟨h2,rfl,bZ 2 n,trivial⟩ rfl rfl,rfl,by rw[hZn],rfl⟩
 have hyl:y<4294967296^n:=by rw[hy];exact Nat.lt_of_le_of_lt (Nat.div_le_self _ _) hx.lt
 have hTr:Con P 42 [.slice 0 0 n n] [⟨0,Z n,58⟩] 1 [] (fun w _ _=>w= .slice 0 0 r n):=by
  rw[hZn];exact cTrim hP (dg y) n n r (Nat.le_refl _) (by omega) (by rw[hr,tl_dg hyl])
 have hdx:∀i,Con P 49 [.slice 0 0 n c,.int .i64 (.ofNat i)] [⟨0,hs f c,58⟩] 1 [] (fun w _ _=>w= .int .u64 (.ofNat (dg x i))):=fun i=>cRDigit hP f n c i _ hx.le hx.w (by
  by_cases h:i<n
  ·rw[if_pos h,hx.dig h]
  ·rw[if_neg h,hx.digz (by omega)])
 obtain⟨X,hX⟩:=exq (dg x)
 obtain⟨S,hS⟩:=exq (dg y)
 have lX:∀i,X i<4294967296:=fun i=>by rw[hX];exact dg_lt x i
 have hSX:∀i,(X i+X (i+1)*4294967296)/2^s%4294967296=S i:=fun i=>by rw[hX,hS,hy];exact shr_dig x i s hs32
 rw[<-hX]at hdx
 rw[<-hS]at hZ
 obtain⟨C,hC⟩:=exq (hs f c)
 have bC:∀m,bdLB m C=true:=fun m=>by rw[hC];exact hs_bd f c m
 rw[<-hC]at hdx⊢
 clear hC hX hS hZn
 refine cof hP Tryz.func34 ⟨blq rfl,⟨trivial,trivial⟩⟩ (by simpa [bdL,bd]using bdb _ (bC 1)) ?_
 intro A g K hA hg hK
 obtain⟨bin,sh,cmp,_,cvt,ix,nn,_,_,_,_,_,_,_,nat,off,_,_,sub,spl⟩:=A
 have e0:nat n=Int.ofNat n:=nat_of hA n
 have e1:bin .quo .i64 (.ofNat s) 32=0:=(quoI hA (a:=s) (b:=32) (by omega)).trans (by rw[Nat.div_eq_of_lt hs32];rfl)
 have e2:cmp .geq 0 (.ofNat n)=false:=geq_f hA (a:=0) (by omega)
 have e3:bin .sub .i64 (.ofNat n) 0=Int.ofNat n:=subI hA (b:=0) (Nat.zero_le n) (by omega)
 have e4:∀j,off 0 j 1=j:=fun j=>(off_of hA 0 j 1).trans (by omega)
 have e5:∀i,i<n->ix (.ofNat i) n=some i:=fun i h=>ix_of hA h
 have e6:∀i v,i<n->v=S i->spl (Z i) i [.int .u32 (.ofNat v)]=some (Z (i+1)):=fun i v h hv=>by rw[hZ];exact splW hA .u32 (n:=n) (wr S i) (wr S (i+1)) h (wr_step S i v hv)
 have e7:∀i,i<n->cmp .lss (.ofNat i) (.ofNat n)=true:=fun i h=>lss_t hA h
 have e7f:cmp .lss (.ofNat n) (.ofNat n)=false:=lss_f hA (Nat.lt_irrefl n)
 have e8:∀i,i<n->bin .add .i64 (.ofNat i) 1=Int.ofNat (i+1):=fun i h=>addI hA (a:=i) (b:=1) (by omega)
 have e9:∀i,i<n->bin .add .i64 (.ofNat i) 0=Int.ofNat i:=fun i h=>addI hA (a:=i) (b:=0) (by omega)
 have e10:bin .rem .i64 (.ofNat s) 32=Int.ofNat s:=(remW hA s 32).trans (by rw[Nat.mod_eq_of_lt hs32])
 have e11:nn (.ofNat s)=true:=nn_t hA s
 have hU:=u32B hP
 clear hZ
 cbv
 rw[e1,e0,e2]
 cbv
 rw[e1,e0,e3]
 cbv
 refine smk (hP▸tblOk) hg rfl rfl (show tyT 27=some _ from rfl) rfl (show tyT 58=some _ from rfl) hU rfl (m:=n) rfl rfl (by omega) (by omega) ?_
 rw[hZ0]
 cbv
 refine lpb Nat (fun i=>i<=n) (fun i=>n-i) (fun i=> [(6,.int .i64 (.ofNat i))]) [0,1,4,5] (fun i=> [(1,Z i)]) 0 (Nat.zero_le _) ?_ ?_
 ·exact wkih (by repeat' (first|exact trivial|refine⟨rfl,rfl,rfl,?_⟩|refine⟨rfl,rfl,bC 2,?_⟩|refine⟨rfl,rfl,bZ 2 0,?_⟩))
 intro i hi
 by_cases hlt:i<n
 ·obtain⟨i1,hi1⟩:=exq (i+1)
  obtain⟨w1,hw1⟩:=exq (X i1*4294967296)
  obtain⟨w2,hw2⟩:=exq (X i+w1)
  obtain⟨w3,hw3⟩:=exq (w2/2^s)
  obtain⟨w4,hw4⟩:=exq (w3%4294967296)
  have l1:=lX i
  have l2:=lX i1
  have l3:w3<=w2:=by rw[hw3];exact Nat.div_le_self _ _
  have hv:w4=S i:=by rw[hw4,hw3,hw2,hw1,hi1];exact hSX i
  have g0:=e8 i hlt
  rw[<-hi1]at g0
  have g1:sh .shl .u64 (.ofNat (X i1)) 32=Int.ofNat w1:=(shlW hA (k:= .u64) rfl (X i1) (s:=32) (by decide)).trans (congrArg Int.ofNat (by rw[hw1];show X i1*4294967296%0x10000000000000000=_;omega))
  have g2:bin .or .u64 (.ofNat (X i)) (.ofNat w1)=Int.ofNat w2:=(orW hA (k:= .u64) rfl (a:=X i) (b:=w1) (by show X i<0x10000000000000000;omega) (by show w1<0x10000000000000000;omega)).trans (congrArg Int.ofNat (by rw[hw2,hw1,Nat.or_comm,show(4294967296:Nat)=2^32 from rfl,or_add (s:=32) l1,Nat.add_comm]))
  have g3:sh .shr .u64 (.ofNat w2) (.ofNat s)=Int.ofNat w3:=(shrI hA (k:= .u64) (a:=w2) (b:=s) (by show s<=64;omega)).trans (by rw[hw3])
  have g4:bin .and .u64 (.ofNat w3) 4294967295=Int.ofNat w4:=lo32 hA (by omega) hw4
  have g5:cvt .u32 (.ofNat w4)=Int.ofNat w4:=c32 hA (by omega)
  have g6:=e6 i w4 hlt hv
  obtain⟨Zn,hZn⟩:=exq (Z (i+1))
  rw[<-hZn]at g6
  cbv
  rw[e0]
  cbv
  rw[e7 i hlt]
  cbv
  rw[e1]
  cbv
  rw[e9 i hlt]
  cbv
  refine cro rfl hg rfl rfl (hdx i) (fun _=>0) rfl (ft1 (bC 0) rfl) ?_
  rintro _ _ _ rfl
  refine⟨trivial,trivial,?_⟩
  cbv
  rw[e1]
  cbv
  rw[e9 i hlt]
  cbv
  rw[g0]
  cbv
  refine cro rfl hg rfl rfl (hdx i1) (fun _=>0) rfl (ft1 (bC 0) rfl) ?_
  rintro _ _ _ rfl
  refine⟨trivial,trivial,?_⟩
  cbv
  rw[g1]
  cbv
  rw[g2]
  cbv
  rw[e10]
  cbv
  rw[e11]
  cbv
  rw[g3]
  cbv
  rw[g4]
  cbv
  rw[g5]
  cbv
  rw[e5 i hlt]
  cbv
  rw[e4,g6]
  cbv
  rw[g0]
  refine⟨i+1,_root_.id,hlt,(by show n-(i+1)<n-i;omega),?_⟩
  rw[hi1,hZn]
  exact wkih (by repeat' (first|exact trivial|refine⟨rfl,rfl,rfl,?_⟩|refine⟨rfl,rfl,bC 2,?_⟩|refine⟨rfl,rfl,bZ 2 (i+1),?_⟩))
 ·obtain rfl:i=n:=by omega
  cbv
  rw[e0]
  cbv
  rw[e7f]
  cbv
  refine cro rfl hg rfl rfl hTr (fun _=>1) rfl (ft1 (bZ 0 i) rfl) ?_
  rintro _ _ _ rfl
  refine⟨by simp[bd],by simp[bd,ren],?_⟩
  cbv
  exact hK _ _ _ ⟨rfl,rfl⟩
theorem cRShl{P:Program}(hP:P=Tryz.prog){n c x:Nat}{f:Nat->Nat}(hx:Nm n c f x)(hn:n<2^20)(s:Nat)(hs32:s<32)(n1 y r:Nat)(hn1:n1=n+1)(hy:y=x*2^s)(hr:r=Vg.sz y):
 Con P 80 [.slice 0 0 n c,.int .i64 (.ofNat s)] [⟨0,hs f c,58⟩] 1 [] (fun w L q=>w= .slice 1 0 r n1/\L=[⟨1,hs (dg y) n1,58⟩]/\q=2):=by
 have hnc:=hx.le
 obtain⟨Z,hZ⟩:=exq (fun i=>hs (shR x s i) n1:Nat->List SV)
 obtain⟨M,hM⟩:=exq (fun i=>hs (shM x s i) n1:Nat->List SV)
 have bZ:∀m i,bdLB m (Z i)=true:=fun m i=>by rw[hZ];exact hs_bd _ _ m
 have hZ0:List.replicate n1 (SV.int .u32 0)=Z 0:=by rw[hZ,hs_zero];show _=hs (shR x s 0) n1;rw[shR_zero x s hs32]
 have hZn:Z n=hs (dg y) n1:=by rw[hZ,hy];exact hs_congr fun j hj=>shR_end s hx.lt hs32 (by omega)
 suffices raw:Con P 80 [.slice 0 0 n c,.int .i64 (.ofNat s)] [⟨0,hs f c,58⟩] 1 [] (fun w L q=>w= .slice 1 0 r n1/\find L 1=some ⟨1,Z n,58⟩)from
  raw.weak fun v L q ⟨h1,h2⟩=>⟨_root_.id,.slice 1 0 r n1,[⟨1,Z n,58⟩],2,by subst h1;exact weak_id ⟨rfl,rfl,trivial⟩ ⟨h2,rfl,bZ 2 n,trivial⟩ rfl rfl,rfl,by rw[hZn],rfl⟩
 have h2s:2^s<4294967296:=Nat.lt_of_le_of_lt (Nat.pow_le_pow_right (show 0<2 by decide) (show s<=31 by omega)) (by decide)
 have hyl:y<4294967296^n1:=by
  rw[hy,hn1,Nat.pow_succ]
  exact Nat.mul_lt_mul'' hx.lt h2s
 have hTr:Con P 42 [.slice 0 0 n1 n1] [⟨0,Z n,58⟩] 1 [] (fun w _ _=>w= .slice 0 0 r n1):=by
  rw[hZn];exact cTrim hP (dg y) n1 n1 r (Nat.le_refl _) (by omega) (by rw[hr,tl_dg hyl])
 obtain⟨X,hX⟩:=exq (dg x)
 obtain⟨cy,hcy⟩:=exq (fun i=>shC x s i:Nat->Nat)
 obtain⟨S,hS⟩:=exq (dg y)
 have lX:∀i,X i<4294967296:=fun i=>by rw[hX];exact dg_lt x i
 have dX:∀i,i<n->f i=X i:=fun i h=>by rw[hX];exact hx.dig h
 have cyl:∀i,cy i<2^s:=fun i=>by rw[hcy];exact shC_lt x s i
 have cys:∀i z,z=X i*2^s+cy i->S i=z%4294967296/\cy (i+1)=z/4294967296:=fun i z h=>by rw[hX,hcy]at h;rw[hS,hcy,hy];exact shlDig x s i z h
 have hMs:∀i v,v=S i->shM x s i=fun j=>if j=i then v else shR x s i j:=fun i v h=>shM_of x s i v (by rw[h,hS,hy])
 have hRs:∀i v,v=cy (i+1)->shR x s (i+1)=fun j=>if j=i+1 then v else shM x s i j:=fun i v h=>shR_of x s i v (by rw[h,hcy])
 have hRg:∀i,shR x s i i=cy i:=fun i=>by rw[hcy];unfold shR;rw[if_neg (Nat.lt_irrefl i),if_pos rfl]
 obtain⟨C,hC⟩:=exq (hs f c)
 have bC:∀m,bdLB m C=true:=fun m=>by rw[hC];exact hs_bd f c m
 rw[<-hC]
 clear hX hZn hcy hS
 refine cof hP Tryz.func80 ⟨blq rfl,⟨trivial,trivial⟩⟩ (by simpa [bdL,bd]using bdb _ (bC 1)) ?_
 intro A g K hA hg hK
 obtain⟨bin,sh,cmp,_,cvt,ix,nn,_,_,_,_,_,_,_,nat,off,get,_,_,spl⟩:=A
 have e0:nat n=Int.ofNat n:=nat_of hA n
 have e1:bin .quo .i64 (.ofNat s) 32=0:=(quoI hA (a:=s) (b:=32) (by omega)).trans (by rw[Nat.div_eq_of_lt hs32];rfl)
 have e2:∀i,i<=n->bin .add .i64 (.ofNat i) 0=Int.ofNat i:=fun i h=>addI hA (a:=i) (b:=0) (by omega)
 have e3:bin .add .i64 (.ofNat n) 1=Int.ofNat n1:=(addI hA (a:=n) (b:=1) (by omega)).trans (by rw[hn1])
 have e4:∀j,off 0 j 1=j:=fun j=>(off_of hA 0 j 1).trans (by omega)
 have e5:∀i m,i<m->ix (.ofNat i) m=some i:=fun i m h=>ix_of hA h
 have f5:∀i,i<n->get C i=some (.int .u32 (.ofNat (X i))):=fun i h=>by rw[<-dX i h,hC];exact getW hA .u32 f (by omega)
 have r5:∀i,i<n->get (Z i) i=some (.int .u32 (.ofNat (cy i))):=fun i h=>by rw[<-hRg i,hZ];exact getW hA .u32 (shR x s i) (by omega)
 have r6:∀i v,i<n->v=S i->spl (Z i) i [.int .u32 (.ofNat v)]=some (M i):=fun i v h hv=>by rw[hZ,hM];exact splW hA .u32 (n:=n1) (shR x s i) (shM x s i) (by omega) (hMs i v hv)
 have r7:∀i i1 v,i1=i+1->i<n->v=cy (i+1)->spl (M i) i1 [.int .u32 (.ofNat v)]=some (Z (i+1)):=fun i i1 v h1 h hv=>by subst h1;rw[hM,hZ];exact splW hA .u32 (n:=n1) (shM x s i) (shR x s (i+1)) (by omega) (hRs i v hv)
 have e7:∀i,i<n->cmp .lss (.ofNat i) (.ofNat n)=true:=fun i h=>lss_t hA h
 have e7f:cmp .lss (.ofNat n) (.ofNat n)=false:=lss_f hA (Nat.lt_irrefl n)
 have e8:∀i,i<n->bin .add .i64 (.ofNat i) 1=Int.ofNat (i+1):=fun i h=>addI hA (a:=i) (b:=1) (by omega)
 have e10:bin .rem .i64 (.ofNat s) 32=Int.ofNat s:=(remW hA s 32).trans (by rw[Nat.mod_eq_of_lt hs32])
 have e11:nn (.ofNat s)=true:=nn_t hA s
 have hU:=u32B hP
 clear hZ hM hMs hRs hRg hC dX
 cbv
 rw[e1,e0]
 cbv
 rw[e2 n (Nat.le_refl n),e3]
 cbv
 refine smk (hP▸tblOk) hg rfl rfl (show tyT 27=some _ from rfl) rfl (show tyT 58=some _ from rfl) hU rfl (m:=n1) rfl rfl (by omega) (by omega) ?_
 rw[hZ0]
 cbv
 refine lpb Nat (fun i=>i<=n) (fun i=>n-i) (fun i=> [(6,.int .i64 (.ofNat i))]) [0,1,4,5] (fun i=> [(1,Z i)]) 0 (Nat.zero_le _) ?_ ?_
 ·exact wkih (by repeat' (first|exact trivial|refine⟨rfl,rfl,rfl,?_⟩|refine⟨rfl,rfl,bC 2,?_⟩|refine⟨rfl,rfl,bZ 2 0,?_⟩))
 intro i hi
 by_cases hlt:i<n
 ·obtain⟨i1,hi1⟩:=exq (i+1)
  obtain⟨w,hw⟩:=exq (X i*2^s)
  obtain⟨z,hz⟩:=exq (w+cy i)
  obtain⟨lo,hlo⟩:=exq (w%4294967296)
  obtain⟨w2,hw2⟩:=exq (lo+cy i)
  obtain⟨p1,p2,p3,p4,p5⟩:=shl_part hs32 (lX i) (cyl i) hw hz
  rw[<-hlo]at p1 p3 p5
  obtain⟨q1,q2⟩:=cys i z (by rw[hz,hw])
  have lc:cy i<4294967296:=by have:=cyl i;omega
  have g0:=e8 i hlt
  rw[<-hi1]at g0
  have gc:cvt .u64 (.ofNat (X i))=Int.ofNat (X i):=c64 hA (by have:=lX i;omega)
  have g1:sh .shl .u64 (.ofNat (X i)) (.ofNat s)=Int.ofNat w:=(shlW hA (k:= .u64) rfl (X i) (s:=s) (by show s<=64;omega)).trans (congrArg Int.ofNat (by rw[<-hw];exact Nat.mod_eq_of_lt p4))
  have g2:bin .and .u64 (.ofNat w) 4294967295=Int.ofNat lo:=lo32 hA p4 hlo
  have g3:cvt .u32 (.ofNat lo)=Int.ofNat lo:=c32 hA (by omega)
  have g4:bin .or .u32 (.ofNat (cy i)) (.ofNat lo)=Int.ofNat w2:=(orW hA (k:= .u32) rfl (a:=cy i) (b:=lo) (by show cy i<4294967296;omega) (by show lo<4294967296;omega)).trans (congrArg Int.ofNat (by rw[p3,hw2]))
  have g5:=r6 i w2 hlt (by rw[q1,p1,hw2])
  have g6:sh .shr .u64 (.ofNat w) 32=Int.ofNat (cy (i+1)):=hi32 hA (by rw[q2,p2])
  have g7:cvt .u32 (.ofNat (cy (i+1)))=Int.ofNat (cy (i+1)):=c32 hA (by have:=cyl (i+1);omega)
  have g8:=r7 i i1 (cy (i+1)) hi1 hlt rfl
  obtain⟨cn,hcn⟩:=exq (cy (i+1))
  rw[<-hcn]at g6 g7 g8
  obtain⟨Zn,hZn⟩:=exq (Z (i+1))
  rw[<-hZn]at g8
  cbv
  rw[e0]
  cbv
  rw[e7 i hlt]
  cbv
  rw[e5 i n hlt]
  cbv
  rw[e4,f5 i hlt]
  cbv
  rw[gc]
  cbv
  rw[e10]
  cbv
  rw[e11]
  cbv
  rw[g1]
  cbv
  rw[e1]
  cbv
  rw[e2 i hi]
  cbv
  rw[e5 i n1 (by omega)]
  cbv
  rw[e4,r5 i hlt]
  cbv
  rw[g2]
  cbv
  rw[g3]
  cbv
  rw[g4]
  cbv
  rw[e5 i n1 (by omega)]
  cbv
  rw[e4,g5]
  cbv
  rw[e1]
  cbv
  rw[e2 i hi]
  cbv
  rw[g0]
  cbv
  rw[g6]
  cbv
  rw[g7]
  cbv
  rw[e5 i1 n1 (by omega)]
  cbv
  rw[e4,g8]
  cbv
  rw[g0]
  refine⟨i+1,_root_.id,hlt,(by show n-(i+1)<n-i;omega),?_⟩
  rw[hi1,hZn]
  exact wkih (by repeat' (first|exact trivial|refine⟨rfl,rfl,rfl,?_⟩|refine⟨rfl,rfl,bC 2,?_⟩|refine⟨rfl,rfl,bZ 2 (i+1),?_⟩))
 ·obtain rfl:i=n:=by omega
  cbv
  rw[e0]
  cbv
  rw[e7f]
  cbv
  refine cro rfl hg rfl rfl hTr (fun _=>1) rfl (ft1 (bZ 0 i) rfl) ?_
  rintro _ _ _ rfl
  refine⟨by simp[bd],by simp[bd,ren],?_⟩
  cbv
  exact hK _ _ _ ⟨rfl,rfl⟩
end Go.Proofs.YtdhmihfefgcbeaaGreat
namespace Go.Vg
open Go.RowKit Go.Lib
theorem quo_dig(x m i:Nat)(hm:0<m):dg (x/m) i=(x/4294967296^(i+1)%m*4294967296+dg x i)/m/\x/4294967296^i%m=(x/4294967296^(i+1)%m*4294967296+dg x i)%m/\(x/4294967296^(i+1)%m*4294967296+dg x i)/m<4294967296:=by
 have h1:dg (x/m) i=x/4294967296^i/m%4294967296:=by
  unfold dg Dg.dig;rw[Nat.div_div_eq_div_mul,Nat.mul_comm,<-Nat.div_div_eq_div_mul]
 have h2:x/4294967296^(i+1)=x/4294967296^i/4294967296:=by rw[Nat.pow_succ,Nat.div_div_eq_div_mul]
 rw[h1,h2]
 show _=(_+x/4294967296^i%4294967296)/m/\_=(_+x/4294967296^i%4294967296)%m/\(_+x/4294967296^i%4294967296)/m<_
 generalize x/4294967296^i=y
 have hlt:y/4294967296%m<m:=Nat.mod_lt _ hm
 have hy:y=(y/4294967296%m*4294967296+y%4294967296)+m*(y/4294967296/m*4294967296):=by
  have e1:=Nat.div_add_mod y 4294967296
  have e2:=Nat.div_add_mod (y/4294967296) m
  have e3:m*(y/4294967296/m*4294967296)=m*(y/4294967296/m)*4294967296:=by rw[Nat.mul_assoc]
  rw[e3]
  generalize m*(y/4294967296/m)=a at *
  omega
 have hq:(y/4294967296%m*4294967296+y%4294967296)/m<4294967296:=by
  refine Nat.div_lt_of_lt_mul ?_
  have h5:(y/4294967296%m+1)*4294967296<=m*4294967296:=Nat.mul_le_mul_right _ hlt
  omega
 have hyd:y/m=(y/4294967296%m*4294967296+y%4294967296)/m+y/4294967296/m*4294967296:=by
  have:=congrArg (· /m) hy
  exact this.trans (Nat.add_mul_div_left _ _ hm)
 have hym:y%m=(y/4294967296%m*4294967296+y%4294967296)%m:=by
  have:=congrArg (· %m) hy
  exact this.trans (Nat.add_mul_mod_self_left _ _ _)
 refine⟨?_,hym,hq⟩
 rw[hyd,Nat.add_mul_mod_self_right,Nat.mod_eq_of_lt hq]
def wh(h:Nat->Nat)(n j:Nat):Nat->Nat:=fun i=>if n<=i+j then h i else 0
theorem wh_step(h:Nat->Nat)(n j i v:Nat)(hi:i+j+1=n)(hv:v=h i):wh h n (j+1)=fun k=>if k=i then v else wh h n j k:=by
 funext k;unfold wh
 by_cases e:k=i
 ·rw[if_pos e,if_pos (by omega),hv,e]
 ·rw[if_neg e]
  by_cases e2:n<=k+j
  ·rw[if_pos e2,if_pos (by omega)]
  ·rw[if_neg e2,if_neg (by omega)]
theorem hs_wh0(h:Nat->Nat)(n:Nat):hs (fun _=>0) n=hs (wh h n 0) n:=hs_congr fun j hj=>by unfold wh;rw[if_neg (by omega)]
theorem hs_wh(h:Nat->Nat)(n:Nat):hs (wh h n n) n=hs h n:=hs_congr fun j hj=>by unfold wh;rw[if_pos (by omega)]
theorem div_pow_all{x n:Nat}(h:x<4294967296^n):x/4294967296^n=0:=Nat.div_eq_of_lt h
end Go.Vg
namespace Go.Proofs.YtdhmihfefgcbeaaGreat
open Go.Vg Go.RowKit
set_option maxRecDepth 200000
set_option cbv.maxSteps 100000000
theorem cRShort{P:Program}(hP:P=Tryz.prog){n c x:Nat}{f:Nat->Nat}(hx:Nm n c f x)(hn:n<2^20)(m:Nat)(hm:0<m)(hmb:m<4294967296)(y r yz rz:Nat)(hy:y=x/m)(hr:r=x%m)(hyz:yz=Vg.sz y)(hrz:rz=Vg.sz r):
 Con P 79 [.slice 0 0 n c,.int .u64 (.ofNat m)] [⟨0,hs f c,58⟩] 1 [] (fun w L q=>w= .tup [.slice 1 0 yz n,.slice 2 0 rz 1]/\L=[⟨1,hs (dg y) n,58⟩,⟨2,hs (dg r) 1,58⟩]/\q=3):=by
 have hnc:=hx.le
 have hrl:r<m:=by rw[hr];exact Nat.mod_lt _ hm
 obtain⟨Z,hZ⟩:=exq (fun i=>hs (wh (dg y) n i) n:Nat->List SV)
 have bZ:∀m i,bdLB m (Z i)=true:=fun m i=>by rw[hZ];exact hs_bd _ _ m
 have hZ0:List.replicate n (SV.int .u32 0)=Z 0:=by rw[hZ,hs_zero];exact hs_wh0 _ _
 have hZn:Z n=hs (dg y) n:=by rw[hZ];exact hs_wh _ _
 have hR1:hs (dg r) 1=[.int .u32 (.ofNat r)]:=by
  show [SV.int .u32 (.ofNat (dg r 0))]=_
  rw[show dg r 0=r from by unfold dg Dg.dig;rw[Nat.pow_zero,Nat.div_one];exact Nat.mod_eq_of_lt (by omega)]
 suffices raw:Con P 79 [.slice 0 0 n c,.int .u64 (.ofNat m)] [⟨0,hs f c,58⟩] 1 [] (fun w L q=>w= .tup [.slice 1 0 yz n,.slice 2 0 rz 1]/\find L 1=some ⟨1,Z n,58⟩/\find L 2=some ⟨2,[.int .u32 (.ofNat r)],58⟩)from
  raw.weak fun v L q ⟨h1,h2,h3⟩=>⟨_root_.id,.tup [.slice 1 0 yz n,.slice 2 0 rz 1],[⟨1,Z n,58⟩,⟨2,[.int .u32 (.ofNat r)],58⟩],3,by subst h1;exact weak_id ⟨rfl,rfl,trivial⟩ ⟨h2,rfl,bZ 3 n,h3,rfl,rfl,trivial⟩ rfl rfl,rfl,by rw[hZn,hR1],rfl⟩
 have hyl:y<4294967296^n:=by rw[hy];exact Nat.lt_of_le_of_lt (Nat.div_le_self _ _) hx.lt
 have hTr:Con P 42 [.slice 0 0 n n] [⟨0,Z n,58⟩] 1 [] (fun w _ _=>w= .slice 0 0 yz n):=by
  rw[hZn];exact cTrim hP (dg y) n n yz (Nat.le_refl _) (by omega) (by rw[hyz,tl_dg hyl])
 have hTs:Con P 42 [.slice 0 0 1 1] [⟨0,[.int .u32 (.ofNat r)],58⟩] 1 [] (fun w _ _=>w= .slice 0 0 rz 1):=by
  rw[<-hR1];exact cTrim hP (dg r) 1 1 rz (Nat.le_refl _) (by decide) (by rw[hrz,tl_dg (by omega)])
 obtain⟨X,hX⟩:=exq (dg x)
 obtain⟨S,hS⟩:=exq (dg y)
 -- the rest behind j digits
 obtain⟨rr,hrr⟩:=exq (fun j=>x/4294967296^(n-j)%m:Nat->Nat)
 have rr0:rr 0=0:=by rw[hrr];show x/4294967296^(n-0)%m=0;rw[Nat.sub_zero,div_pow_all hx.lt,Nat.zero_mod]
 have rrn:rr n=r:=by rw[hrr];show x/4294967296^(n-n)%m=r;rw[Nat.sub_self,Nat.pow_zero,Nat.div_one,hr]
 have rrl:∀j,rr j<m:=fun j=>by rw[hrr];exact Nat.mod_lt _ hm
 have hst:∀j i z,i+j+1=n->z=rr j*4294967296+X i->S i=z/m/\rr (j+1)=z%m/\z/m<4294967296:=fun j i z h hz=>by
  obtain⟨h1,h2,h3⟩:=quo_dig x m i hm
  have e1:rr j=x/4294967296^(i+1)%m:=by rw[hrr];show x/4294967296^(n-j)%m=_;rw[show n-j=i+1 by omega]
  have e2:rr (j+1)=x/4294967296^i%m:=by rw[hrr];show x/4294967296^(n-(j+1))%m=_;rw[show n-(j+1)=i by omega]
  rw[hX,e1]at hz
  rw[e2,hS,hy,hz]
  exact⟨h1,h2,h3⟩
 have lX:∀i,X i<4294967296:=fun i=>by rw[hX];exact dg_lt x i
 have dX:∀i,i<n->f i=X i:=fun i h=>by rw[hX];exact hx.dig h
 have hZs:∀j i v,i+j+1=n->v=S i->wh (dg y) n (j+1)=fun k=>if k=i then v else wh (dg y) n j k:=fun j i v h hv=>wh_step _ n j i v h (by rw[hv,hS])
 obtain⟨IV,hIV⟩:=exq (fun j:Nat=>(n:Int)-1-(j:Int):Nat->Int)
 have iv:∀j i,i+j+1=n->IV j=Int.ofNat i:=fun j i h=>by rw[hIV];show(n:Int)-1-(j:Int)=(i:Int);omega
 have ivn:IV n= -1:=by rw[hIV];show(n:Int)-1-(n:Int)= -1;omega
 have iv0:IntKind.i64.wrap ((n:Int)-1)=IV 0:=by rw[hIV,IntKind.wrap_i64];show _=(n:Int)-1-((0:Nat):Int);omega
 obtain⟨C,hC⟩:=exq (hs f c)
 have bC:∀m,bdLB m C=true:=fun m=>by rw[hC];exact hs_bd f c m
 rw[<-hC]
 clear hX hS hZn hrr hR1
 refine cof hP Tryz.func79 ⟨blq rfl,⟨trivial,trivial⟩⟩ (by simpa [bdL,bd]using bdb _ (bC 1)) ?_
 intro A g K hA hg hK
 obtain⟨bin,sh,cmp,_,cvt,ix,_,nz,_,_,_,_,_,_,nat,off,get,_,sub,spl⟩:=A
 have hb:bin=intBin:=bin_of hA
 have e0:nat n=Int.ofNat n:=nat_of hA n
 have e1:bin .sub .i64 (.ofNat n) 1=IV 0:=by rw[hb];exact iv0
 have e2:∀j,j<n->bin .sub .i64 (IV j) 1=IV (j+1):=fun j h=>by
  rw[hb,hIV]
  show IntKind.i64.wrap ((n:Int)-1-(j:Int)-1)=(n:Int)-1-((j+1:Nat):Int)
  rw[IntKind.wrap_i64];omega
 have e3:∀j,cmp .geq (.ofNat j) 0=true:=fun j=>geq_t hA (b:=0) (Nat.zero_le _)
 have e3f:cmp .geq (-1) 0=false:=(congrFun (congrFun (congrFun (cmp_of hA) .geq) (-1)) 0).trans rfl
 have e4:∀j,off 0 j 1=j:=fun j=>(off_of hA 0 j 1).trans (by omega)
 have e5:∀i m,i<m->ix (.ofNat i) m=some i:=fun i m h=>ix_of hA h
 have f5:∀i,i<n->get C i=some (.int .u32 (.ofNat (X i))):=fun i h=>by rw[<-dX i h,hC];exact getW hA .u32 f (by omega)
 have r6:∀j i v,i+j+1=n->v=S i->spl (Z j) i [.int .u32 (.ofNat v)]=some (Z (j+1)):=fun j i v h hv=>by rw[hZ];exact splW hA .u32 (n:=n) (wh (dg y) n j) (wh (dg y) n (j+1)) (by omega) (hZs j i v h hv)
 have hU:=u32B hP
 clear hZ hZs hC dX
 cbv
 rw[e0]
 cbv
 refine smk (hP▸tblOk) hg rfl rfl (show tyT 27=some _ from rfl) rfl (show tyT 58=some _ from rfl) hU rfl (m:=n) rfl rfl (by omega) (by omega) ?_
 rw[hZ0]
 cbv
 rw[e0,e1]
 cbv
 refine lpb Nat (fun j=>j<=n) (fun j=>n-j) (fun j=> [(7,.int .u64 (.ofNat (rr j))),(8,.int .i64 (IV j))]) [0,1,4,5,6] (fun j=> [(1,Z j)]) 0 (Nat.zero_le _) ?_ ?_
 ·rw[rr0]
  exact wkih (by repeat' (first|exact trivial|refine⟨rfl,rfl,rfl,?_⟩|refine⟨rfl,rfl,bC 2,?_⟩|refine⟨rfl,rfl,bZ 2 0,?_⟩))
 intro j hj
 by_cases hlt:j<n
 ·obtain⟨i,hi⟩:∃i,i+j+1=n:=⟨n-j-1,by omega⟩
  have hiv:=iv j i hi
  obtain⟨w1,hw1⟩:=exq (rr j*4294967296)
  obtain⟨z,hz⟩:=exq (w1+X i)
  obtain⟨d,hd⟩:=exq (z/m)
  obtain⟨q1,q2,q3⟩:=hst j i z hi (by rw[hz,hw1])
  have l1:=rrl j
  have l2:=lX i
  have g1:sh .shl .u64 (.ofNat (rr j)) 32=Int.ofNat w1:=(shlW hA (k:= .u64) rfl (rr j) (s:=32) (by decide)).trans (congrArg Int.ofNat (by rw[hw1];show rr j*4294967296%0x10000000000000000=_;omega))
  have g2:cvt .u64 (.ofNat (X i))=Int.ofNat (X i):=c64 hA (by omega)
  have g3:bin .or .u64 (.ofNat w1) (.ofNat (X i))=Int.ofNat z:=(orW hA (k:= .u64) rfl (a:=w1) (b:=X i) (by show w1<0x10000000000000000;omega) (by show X i<0x10000000000000000;omega)).trans (congrArg Int.ofNat (by rw[hz,hw1,show(4294967296:Nat)=2^32 from rfl,or_add (s:=32) l2]))
  have hzl:z<0x10000000000000000:=by omega
  have g4:bin .quo .u64 (.ofNat z) (.ofNat m)=Int.ofNat d:=(quoW hA (k:= .u64) rfl (a:=z) hzl m).trans (by rw[hd])
  have g5:cvt .u32 (.ofNat d)=Int.ofNat d:=c32 hA (by omega)
  have g6:=r6 j i d hi (by rw[q1,hd])
  have g7:bin .rem .u64 (.ofNat z) (.ofNat m)=Int.ofNat (rr (j+1)):=(remW hA (k:= .u64) z m).trans (by rw[q2])
  have g8:=e2 j hlt
  have g9:nz (.ofNat m)=true:=nz_t hA (by omega)
  obtain⟨rn,hrn⟩:=exq (rr (j+1))
  obtain⟨Zn,hZn⟩:=exq (Z (j+1))
  obtain⟨In,hIn⟩:=exq (IV (j+1))
  rw[<-hrn]at g7
  rw[<-hZn]at g6
  rw[<-hIn,hiv]at g8
  rw[hiv]
  cbv
  rw[e3]
  cbv
  rw[g1]
  cbv
  rw[e5 i n (by omega)]
  cbv
  rw[e4,f5 i (by omega)]
  cbv
  rw[g2]
  cbv
  rw[g3]
  cbv
  rw[g9]
  cbv
  rw[g4]
  cbv
  rw[g5]
  cbv
  rw[e5 i n (by omega)]
  cbv
  rw[e4,g6]
  cbv
  rw[g9]
  cbv
  rw[g7]
  cbv
  rw[g8]
  refine⟨j+1,_root_.id,hlt,(by show n-(j+1)<n-j;omega),?_⟩
  rw[hrn,hZn,hIn]
  exact wkih (by repeat' (first|exact trivial|refine⟨rfl,rfl,rfl,?_⟩|refine⟨rfl,rfl,bC 2,?_⟩|refine⟨rfl,rfl,bZ 2 (j+1),?_⟩))
 ·obtain rfl:j=n:=by omega
  rw[ivn,rrn]
  cbv
  rw[e3f]
  cbv
  refine cro rfl hg rfl rfl hTr (fun _=>1) rfl (ft1 (bZ 0 j) rfl) ?_
  rintro _ _ _ rfl
  refine⟨by simp[bd],by simp[bd,ren],?_⟩
  cbv
  rw[show cvt .u32 (.ofNat r)=Int.ofNat r from c32 hA (by omega)]
  cbv
  refine cro rfl hg rfl rfl hTs (fun _=>2) rfl ⟨rfl,trivial⟩ ?_
  rintro _ _ _ rfl
  refine⟨by simp[bd],by simp[bd,ren],?_⟩
  cbv
  exact hK _ _ _ ⟨rfl,rfl,rfl⟩
end Go.Proofs.YtdhmihfefgcbeaaGreat
namespace Go.Vg
open Go.RowKit Go.Lib
theorem num_dgW{W n:Nat}(h:W<4294967296^n):Dg.num 4294967296 (dg W) n=W:=(Dg.num_dig (by decide) W n).trans (Nat.mod_eq_of_lt h)
structure Gs(v:Nat->Nat)(p V W:Nat):Prop where
 vv:Dg.num 4294967296 v (p+2)=V
 vw:∀j,j<p+2->v j<4294967296
 v0:0<v (p+1)
 lt:W<V*4294967296
theorem Gs.W_lt{v:Nat->Nat}{p V W:Nat}(h:Gs v p V W):W<4294967296^(p+3):=by
 have h1:V<4294967296^(p+2):=by rw[<-h.vv];exact Dg.num_lt _ h.vw
 have h2:V*4294967296<=4294967296^(p+2)*4294967296:=Nat.mul_le_mul_right _ (Nat.le_of_lt h1)
 rw[<-Nat.pow_succ]at h2
 exact Nat.lt_of_lt_of_le h.lt h2
theorem Gs.V0{v:Nat->Nat}{p V W:Nat}(h:Gs v p V W):0<V:=by
 rcases Nat.eq_zero_or_pos V with h0|h0
 ·have:=h.lt;rw[h0]at this;omega
 ·exact h0
theorem Gs.QB{v:Nat->Nat}{p V W:Nat}(h:Gs v p V W):W/V<4294967296:=Nat.div_lt_of_lt_mul h.lt
theorem Gs.g1{v:Nat->Nat}{p V W:Nat}(h:Gs v p V W):W/V*v (p+1)<=dg W (p+2)*4294967296+dg W (p+1):=by
 refine Dg.guess1 (b:=4294967296) (d:=v) (u:=dg W) (n:=p+1) (q:=W/V) (by decide) (fun i _=>dg_lt W i) ?_
 rw[h.vv,num_dgW h.W_lt]
 exact Nat.div_mul_le_self W V
theorem Gs.g2{v:Nat->Nat}{p V W:Nat}(h:Gs v p V W):W/V*(v (p+1)*4294967296+v p)<=(dg W (p+2)*4294967296+dg W (p+1))*4294967296+dg W p:=by
 refine Dg.guess2 (b:=4294967296) (d:=v) (u:=dg W) (n:=p) (q:=W/V) (by decide) (fun i _=>dg_lt W i) ?_
 rw[h.vv,num_dgW h.W_lt]
 exact Nat.div_mul_le_self W V
theorem Gs.top{v:Nat->Nat}{p V W:Nat}(h:Gs v p V W):dg W (p+2)<=v (p+1):=by
 have hW:=num_dgW h.W_lt
 have e1:Dg.num 4294967296 (dg W) (p+3)=Dg.num 4294967296 (dg W) (p+2)+dg W (p+2)*4294967296^(p+2):=rfl
 have e2:Dg.num 4294967296 v (p+2)=Dg.num 4294967296 v (p+1)+v (p+1)*4294967296^(p+1):=rfl
 have h1:Dg.num 4294967296 v (p+1)<4294967296^(p+1):=Dg.num_lt _ fun i hi=>h.vw i (by omega)
 have hl:=h.lt
 rw[<-h.vv,e2]at hl
 rw[<-hW,e1]at hl
 rw[show 4294967296^(p+2)=4294967296^(p+1)*4294967296 from Nat.pow_succ ..]at hl
 generalize Dg.num 4294967296 v (p+1)=a at *
 generalize Dg.num 4294967296 (dg W) (p+2)=b at *
 generalize 4294967296^(p+1)=Q at *
 rcases Nat.lt_or_ge (v (p+1)) (dg W (p+2))with h3|h3
 ·exfalso
  have h4:(v (p+1)+1)*(Q*4294967296)<=dg W (p+2)*(Q*4294967296):=Nat.mul_le_mul_right _ h3
  rw[Nat.add_mul,Nat.one_mul]at h4
  rw[Nat.add_mul,Nat.mul_assoc (v (p+1))]at hl
  omega
 ·exact h3
theorem Gs.last{v:Nat->Nat}{p V W d:Nat}(h:Gs v p V W)(hd:d<4294967296)(ht:d*(v (p+1)*4294967296+v p)<=(dg W (p+2)*4294967296+dg W (p+1))*4294967296+dg W p):d*V<=W+V:=by
 have hW:=num_dgW h.W_lt
 have e1:Dg.num 4294967296 (dg W) (p+3)=Dg.num 4294967296 (dg W) p+dg W p*4294967296^p+dg W (p+1)*4294967296^(p+1)+dg W (p+2)*4294967296^(p+2):=rfl
 have e2:Dg.num 4294967296 v (p+2)=Dg.num 4294967296 v p+v p*4294967296^p+v (p+1)*4294967296^(p+1):=rfl
 have h1:Dg.num 4294967296 v p<4294967296^p:=Dg.num_lt _ fun i hi=>h.vw i (by omega)
 rw[h.vv]at e2
 rw[hW]at e1
 have hv0:=h.v0
 rw[show 4294967296^(p+2)=4294967296^p*4294967296*4294967296 from by rw[Nat.pow_succ,Nat.pow_succ],show 4294967296^(p+1)=4294967296^p*4294967296 from Nat.pow_succ ..]at *
 generalize Dg.num 4294967296 v p=a at *
 generalize Dg.num 4294967296 (dg W) p=b at *
 generalize 4294967296^p=Q at *
 generalize dg W (p+2)=u0 at *
 generalize dg W (p+1)=u1 at *
 generalize dg W p=u2 at *
 generalize v (p+1)=v1 at *
 generalize v p=v2 at *
 have e3:W=b+((u0*4294967296+u1)*4294967296+u2)*Q:=by rw[e1];grind
 have e4:V=a+(v1*4294967296+v2)*Q:=by rw[e2];grind
 rcases Nat.eq_zero_or_pos d with h0|h0
 ·rw[h0,Nat.zero_mul];exact Nat.zero_le _
 ·obtain⟨t,rfl⟩:∃t,d=t+1:=⟨d-1,by omega⟩
  rw[Nat.add_mul,Nat.one_mul]
  refine Nat.add_le_add_right ?_ V
  obtain⟨s,hg⟩:=exq (v1*4294967296+v2)
  rw[<-hg]at ht e4
  have hs:t<=s:=by omega
  have h5:t*(s+1)<=(u0*4294967296+u1)*4294967296+u2:=by
   rw[Nat.mul_add,Nat.mul_one]
   rw[Nat.add_mul,Nat.one_mul]at ht
   omega
  have h6:V<=(s+1)*Q:=by rw[e4,Nat.add_mul,Nat.one_mul];omega
  have h7:t*V<=t*((s+1)*Q):=Nat.mul_le_mul_left _ h6
  rw[<-Nat.mul_assoc]at h7
  have h8:=Nat.mul_le_mul_right Q h5
  omega
def moC(x T i:Nat):Nat:=(x%4294967296^i*T)/4294967296^i
theorem moC_zero(x T:Nat):moC x T 0=0:=by unfold moC;rw[Nat.pow_zero,Nat.mod_one,Nat.zero_mul]
theorem mulOne(x T i z:Nat)(hz:z=dg x i*T+moC x T i):dg (x*T) i=z%4294967296/\moC x T (i+1)=z/4294967296:=by
 have hp:0<4294967296^i:=Nat.pow_pos (by decide)
 have key:x%4294967296^(i+1)*T=(x%4294967296^i*T)%4294967296^i+z*4294967296^i:=by
  rw[dig_mod,hz,Nat.add_mul,Nat.add_mul]
  have h:=Nat.div_add_mod (x%4294967296^i*T) (4294967296^i)
  rw[Nat.mul_comm]at h
  unfold moC
  have h2:dg x i*4294967296^i*T=dg x i*T*4294967296^i:=by ac_rfl
  show _+dg x i*_*_=_
  rw[h2]
  generalize dg x i*T*4294967296^i=a at *
  generalize (x%4294967296^i*T)/4294967296^i*4294967296^i=c at *
  omega
 have hst:=step_dig (Q:=4294967296^i) (B:=4294967296) (s:=z) (Z:=x*T) (by decide) (Nat.mod_lt _ hp) (by rw[<-key,<-Nat.pow_succ,Nat.mod_mul_mod])
 refine⟨hst.1,?_⟩
 unfold moC
 rw[key,Nat.pow_succ]
 exact hst.2
theorem moC_lt(x:Nat){T:Nat}(i:Nat)(hT:T<4294967296):moC x T i<4294967296:=by
 unfold moC
 have hp:0<4294967296^i:=Nat.pow_pos (by decide)
 refine Nat.div_lt_of_lt_mul ?_
 exact Nat.mul_lt_mul'' (Nat.mod_lt x hp) hT
def wn(u:Nat->Nat)(j:Nat)(h:Nat->Nat)(i:Nat):Nat->Nat:=fun a=>if j<=a/\a<j+i then h (a-j)else u a
theorem wn_zero(u:Nat->Nat)(j:Nat)(h:Nat->Nat):wn u j h 0=u:=by funext a;unfold wn;rw[if_neg (by omega)]
theorem wn_step(u:Nat->Nat)(j:Nat)(h:Nat->Nat)(i v:Nat)(hv:v=h i):wn u j h (i+1)=fun a=>if a=i+j then v else wn u j h i a:=by
 funext a;unfold wn
 by_cases e:a=i+j
 ·rw[if_pos e,if_pos (by omega),hv];congr 1;omega
 ·rw[if_neg e]
  by_cases e2:j<=a/\a<j+i
  ·rw[if_pos e2,if_pos (by omega)]
  ·rw[if_neg e2,if_neg (by omega)]
theorem wn_in(u:Nat->Nat)(j:Nat)(h:Nat->Nat)(i t:Nat)(ht:t<i):wn u j h i (t+j)=h t:=by unfold wn;rw[if_pos (by omega)];congr 1;omega
theorem wn_out(u:Nat->Nat)(j:Nat)(h:Nat->Nat)(i t:Nat)(ht:i<=t):wn u j h i (t+j)=u (t+j):=by unfold wn;rw[if_neg (by omega)]
theorem wn_wn(u:Nat->Nat)(j:Nat)(h h':Nat->Nat)(i:Nat):wn (wn u j h i) j h' i=wn u j h' i:=by
 funext a;unfold wn
 by_cases e:j<=a/\a<j+i
 ·rw[if_pos e,if_pos e]
 ·rw[if_neg e,if_neg e,if_neg e]
theorem wn_congr(u:Nat->Nat)(j:Nat){h h':Nat->Nat}{i:Nat}(e:∀t,t<i->h t=h' t):wn u j h i=wn u j h' i:=by
 funext a;unfold wn
 by_cases e2:j<=a/\a<j+i
 ·rw[if_pos e2,if_pos e2,e _ (by omega)]
 ·rw[if_neg e2,if_neg e2]
theorem take_ok{k V W d:Nat}(hV:0<V)(hlt:W/V<=d)(h:d*V<=W):d=W/V/\∀t,t<k->dg (W+4294967296^k-V*d) t=dg (W%V) t:=by
 have hd:d=W/V:=Nat.le_antisymm ((Nat.le_div_iff_mul_le hV).2 h) hlt
 refine⟨hd,fun t ht=> ?_⟩
 have hm:=Nat.div_add_mod W V
 rw[show W+4294967296^k-V*d=W%V+1*4294967296^k from by rw[hd];omega]
 exact dg_low ht
theorem take_back{k V W d:Nat}(hV:0<V)(hVk:V<=4294967296^k)(h1:d*V<=W+V)(h2:¬d*V<=W)(h3:d*V<4294967296^k):d-1=W/V/\0<d/\∀t,t<k->dg (W+4294967296^k-V*d+V) t=dg (W%V) t:=by
 have hd0:0<d:=by
  rcases Nat.eq_zero_or_pos d with h|h
  ·rw[h,Nat.zero_mul]at h2;omega
  ·exact h
 obtain⟨e,rfl⟩:∃e,d=e+1:=⟨d-1,by omega⟩
 rw[Nat.add_mul,Nat.one_mul]at h1 h2 h3
 have he:e*V<=W:=by omega
 have hq:e=W/V:=by
  refine Nat.le_antisymm ((Nat.le_div_iff_mul_le hV).2 he) ?_
  have:W/V<e+1:=by rw[Nat.div_lt_iff_lt_mul hV,Nat.add_mul,Nat.one_mul];omega
  omega
 refine⟨by omega,hd0,fun t ht=> ?_⟩
 have hm:=Nat.div_add_mod W V
 rw[<-hq]at hm
 rw[show W+4294967296^k-V*(e+1)+V=W%V+1*4294967296^k from by rw[Nat.mul_add,Nat.mul_one,Nat.mul_comm V e]at *;omega]
 exact dg_low ht
end Go.Vg
