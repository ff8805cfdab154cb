/-
  This text proves what these texts prove: Nd, Ne, Nf. Conditions: those of each theorem.
-/
import Derived.Test.YtdhmihfefgcbeaaGreatU08
import Derived.Test.YtdhmihfefgcbeaaGreatU07
set_option maxHeartbeats 8000000
namespace Go.Proofs.YtdhmihfefgcbeaaGreat
open Go.Vg Go.RowKit
set_option maxRecDepth 200000
set_option cbv.maxSteps 100000000
theorem dig_le{a b u v X r q:Nat}(e:X+r=u)(h:q*b<=4294967296*r+v)(hX:X=q*a):q<=(u*4294967296+v)/(a*4294967296+b)\/a*4294967296+b=0:=by
 rcases Nat.eq_zero_or_pos (a*4294967296+b)with h0|h0
 ·exact Or.inr h0
 ·left
  rw[Nat.le_div_iff_mul_le h0]
  have h1:q*(a*4294967296+b)=X*4294967296+q*b:=by rw[hX];grind
  rw[h1]
  generalize q*b=Z at *
  omega
theorem dig_gt{a b u v X r q:Nat}(e:X+r=u)(h:4294967296*r+v<q*b)(hX:X=q*a)(h0:0<a*4294967296+b):(u*4294967296+v)/(a*4294967296+b)<q:=by
 rw[Nat.div_lt_iff_lt_mul h0]
 have h1:q*(a*4294967296+b)=X*4294967296+q*b:=by rw[hX];grind
 rw[h1]
 generalize q*b=Z at *
 omega
structure Guess(a u Q q r:Nat):Prop where
 e:q*a+r=u
 le:Q<=q
 qb:q<=4294967297
 rb:r<4294967296
theorem guess_start{a b u v:Nat}(ha:2147483648<=a)(ha2:a<4294967296)(hb:b<4294967296)(hv:v<4294967296)(hu:u<a*4294967296+b):
 Guess a u ((u*4294967296+v)/(a*4294967296+b)) (u/a) (u%a):=by
 have h0:0<a:=by omega
 have e:u/a*a+u%a=u:=by rw[Nat.mul_comm];exact Nat.div_add_mod u a
 have hr:=Nat.mod_lt u h0
 refine⟨e,?_,?_,Nat.lt_trans hr ha2⟩
 ·refine Nat.le_of_lt_succ ?_
  rw[Nat.div_lt_iff_lt_mul (by omega)]
  have h1:(u/a).succ*(a*4294967296+b)=u/a*a*4294967296+a*4294967296+u/a*b+b:=by rw[Nat.succ_eq_add_one];grind
  rw[h1]
  generalize u/a*a=X at *
  generalize u/a*b=Z at *
  omega
 ·refine Nat.le_of_lt_succ ?_
  rw[Nat.div_lt_iff_lt_mul h0]
  omega
theorem guess_done{a b u v q r:Nat}(ha:0<a)(h:Guess a u ((u*4294967296+v)/(a*4294967296+b)) q r)(h2:q*b<=4294967296*r+v):q=(u*4294967296+v)/(a*4294967296+b):=by
 rcases dig_le h.e h2 rfl with h3|h3
 ·exact Nat.le_antisymm h3 h.le
 ·omega
theorem guess_dec{a b u v q r:Nat}(ha:0<a)(hQ:(u*4294967296+v)/(a*4294967296+b)<4294967296)(h:Guess a u ((u*4294967296+v)/(a*4294967296+b)) q r)(h2:4294967296<=q\/4294967296*r+v<q*b):
 0<q/\(q-1)*a+(r+a)=u/\(u*4294967296+v)/(a*4294967296+b)<=q-1/\q-1<=4294967296:=by
 have h3:(u*4294967296+v)/(a*4294967296+b)<q:=by
  rcases h2 with h2|h2
  ·exact Nat.lt_of_lt_of_le hQ h2
  ·exact dig_gt h.e h2 rfl (by omega)
 have h4:=h.qb
 have e:=h.e
 clear h
 generalize (u*4294967296+v)/(a*4294967296+b)=D at *
 refine⟨by omega,?_,by omega,by omega⟩
 obtain⟨p,rfl⟩:∃p,q=p+1:=⟨q-1,by omega⟩
 rw[Nat.add_mul,Nat.one_mul]at e
 rw[Nat.add_sub_cancel]
 omega
theorem guess_break{a b u v q r:Nat}(ha:0<a)(hb:b<4294967296)(e:q*a+r=u)(hQ:(u*4294967296+v)/(a*4294967296+b)<=q)(hq:q<=4294967296)(hr:4294967296<=r):q=(u*4294967296+v)/(a*4294967296+b):=by
 refine Nat.le_antisymm ?_ hQ
 have h2:q*b<=4294967296*4294967295:=Nat.mul_le_mul hq (by omega)
 have h4:=Nat.mul_le_mul_left 4294967296 hr
 rcases dig_le (v:=v) (b:=b) e (by omega) rfl with h3|h3
 ·exact h3
 ·omega
theorem guess_done'{a b u v q r Q:Nat}(hQ:Q=(u*4294967296+v)/(a*4294967296+b))(ha:2147483648<=a)(h:Guess a u Q q r)(h2:q*b<=4294967296*r+v):q=Q:=by
 subst hQ
 exact guess_done (by omega) h h2
theorem guess_dec'{a b u v q r Q:Nat}(hQ:Q=(u*4294967296+v)/(a*4294967296+b))(ha:2147483648<=a)(hQl:Q<4294967296)(h:Guess a u Q q r)(h2:4294967296<=q\/4294967296*r+v<q*b):
 0<q/\(q-1)*a+(r+a)=u/\Q<=q-1/\q-1<=4294967296:=by
 subst hQ
 exact guess_dec (by omega) hQl h h2
theorem guess_break'{a b u v q r Q:Nat}(hQ:Q=(u*4294967296+v)/(a*4294967296+b))(ha:2147483648<=a)(hb:b<4294967296)(e:q*a+r=u)(hQq:Q<=q)(hq:q<=4294967296)(hr:4294967296<=r):q=Q:=by
 subst hQ
 exact guess_break (by omega) hb e hQq hq hr
theorem two_digits{x c y B:Nat}(hy:0<y):(x*B+c)/y=x/y*B+(x%y*B+c)/y/\(x*B+c)%y=(x%y*B+c)%y:=by
 have e:x*B+c=y*(x/y*B)+(x%y*B+c):=by
  have h:=Nat.div_add_mod x y
  have h2:x*B=(y*(x/y)+x%y)*B:=by rw[h]
  rw[h2];grind
 rw[e]
 exact⟨Nat.mul_add_div hy _ _,Nat.mul_add_mod _ _ _⟩
theorem p64:2^IntKind.u64.bits=0x10000000000000000:=rfl
section
variable {A:Ar}
theorem add64(hA:A=Ar.real){a b r:Nat}(h:r=(a+b)%0x10000000000000000):A.bin .add .u64 (Int.ofNat a) (Int.ofNat b)=Int.ofNat r:=by rw[addW hA rfl,p64,h]
theorem mul64(hA:A=Ar.real){a b r:Nat}(h:r=a*b%0x10000000000000000):A.bin .mul .u64 (Int.ofNat a) (Int.ofNat b)=Int.ofNat r:=by rw[mulW hA rfl,p64,h]
theorem sub64(hA:A=Ar.real){a b r:Nat}(hb:b<=0x10000000000000000)(h:r=(a+0x10000000000000000-b)%0x10000000000000000):A.bin .sub .u64 (Int.ofNat a) (Int.ofNat b)=Int.ofNat r:=by rw[subW hA rfl (by rw[p64];exact hb),p64,h]
theorem shl64(hA:A=Ar.real){a s r:Nat}(hs:s<=64)(h:r=a*2^s%0x10000000000000000):A.sh .shl .u64 (Int.ofNat a) (Int.ofNat s)=Int.ofNat r:=by rw[shlW hA rfl a (by exact hs),p64,h]
theorem shr64(hA:A=Ar.real){a s r:Nat}(hs:s<=64)(h:r=a/2^s):A.sh .shr .u64 (Int.ofNat a) (Int.ofNat s)=Int.ofNat r:=by rw[shrI hA (by exact hs),h]
theorem or64(hA:A=Ar.real){a b r:Nat}(ha:a<0x10000000000000000)(hb:b<0x10000000000000000)(h:r=a|||b):A.bin .or .u64 (Int.ofNat a) (Int.ofNat b)=Int.ofNat r:=by rw[orW hA rfl (by rw[p64];exact ha) (by rw[p64];exact hb),h]
theorem and64(hA:A=Ar.real){a b r:Nat}(ha:a<0x10000000000000000)(hb:b<0x10000000000000000)(h:r=a&&&b):A.bin .and .u64 (Int.ofNat a) (Int.ofNat b)=Int.ofNat r:=by rw[andW hA rfl (by rw[p64];exact ha) (by rw[p64];exact hb),h]
theorem quo64(hA:A=Ar.real){a b r:Nat}(ha:a<0x10000000000000000)(h:r=a/b):A.bin .quo .u64 (Int.ofNat a) (Int.ofNat b)=Int.ofNat r:=by rw[quoW hA rfl (by rw[p64];exact ha),h]
theorem guess_words(hA:A=Ar.real){a b w v Q p ρ:Nat}(hG:Guess a w Q p ρ)(ha2:a<4294967296)(hb:b<4294967296)(hv:v<4294967296):
 ∃Z Y Y' ρ' p':Nat,Z=p*b/\Y'=4294967296*ρ+v/\ρ'=ρ+a/\p'=p-1/\(4294967296<=p->A.cmp .geq (Int.ofNat p) 4294967296=true)/\(¬4294967296<=p->A.cmp .geq (Int.ofNat p) 4294967296=false)/\A.bin .mul .u64 4294967296 (Int.ofNat ρ)=Int.ofNat Y/\A.bin .add .u64 (Int.ofNat Y) (Int.ofNat v)=Int.ofNat Y'/\
  (Y'<Z->A.cmp .gtr (Int.ofNat Z) (Int.ofNat Y')=true)/\(¬Y'<Z->A.cmp .gtr (Int.ofNat Z) (Int.ofNat Y')=false)/\(1<=p->A.bin .sub .u64 (Int.ofNat p) 1=Int.ofNat p')/\A.bin .add .u64 (Int.ofNat ρ) (Int.ofNat a)=Int.ofNat ρ'/\(4294967296<=ρ'->A.cmp .geq (Int.ofNat ρ') 4294967296=true)/\(¬4294967296<=ρ'->A.cmp .geq (Int.ofNat ρ') 4294967296=false)/\
  (p<4294967296->A.bin .mul .u64 (Int.ofNat p) (Int.ofNat b)=Int.ofNat Z):=by
 have h1:=hG.rb
 have h2:=hG.qb
 clear hG
 refine⟨p*b,4294967296*ρ,4294967296*ρ+v,ρ+a,p-1,rfl,rfl,rfl,rfl,fun h=>geq_t hA (b:=4294967296) h,fun h=>geq_f hA (b:=4294967296) h,mul64 hA (a:=4294967296) (by omega),add64 hA (by omega),fun h=>gtr_t hA h,fun h=>gtr_f hA h,fun h=>sub64 hA (b:=1) (by decide) (by omega),add64 hA (by omega),fun h=>geq_t hA (b:=4294967296) h,fun h=>geq_f hA (b:=4294967296) h,fun h=>mul64 hA ?_⟩
 have h3:p*b<=4294967295*4294967295:=Nat.mul_le_mul (by omega) (by omega)
 exact(Nat.mod_eq_of_lt (by omega)).symm
theorem start_words(hA:A=Ar.real){a w g0 r0 X:Nat}(hw:w<0x10000000000000000)(hg0:g0=w/a)(hr0:r0=w%a)(hX:X=g0*a):
 A.bin .quo .u64 (Int.ofNat w) (Int.ofNat a)=Int.ofNat g0/\A.bin .mul .u64 (Int.ofNat g0) (Int.ofNat a)=Int.ofNat X/\A.bin .sub .u64 (Int.ofNat w) (Int.ofNat X)=Int.ofNat r0:=by
 have e:=Nat.div_add_mod w a
 rw[<-hg0,<-hr0,Nat.mul_comm,<-hX]at e
 exact⟨quo64 hA hw hg0,mul64 hA (by rw[<-hX];omega),sub64 hA (by omega) (by omega)⟩
theorem rest_words(hA:A=Ar.real){w v Q Y t:Nat}(hQ:Q<4294967296)(hY:Y<0x10000000000000000)(ht:t<Y)(e:Q*Y+t=w*4294967296+v):
 ∃N1 N2 N3:Nat,A.bin .mul .u64 (Int.ofNat w) 4294967296=Int.ofNat N1/\A.bin .add .u64 (Int.ofNat N1) (Int.ofNat v)=Int.ofNat N2/\A.bin .mul .u64 (Int.ofNat Q) (Int.ofNat Y)=Int.ofNat N3/\A.bin .sub .u64 (Int.ofNat N2) (Int.ofNat N3)=Int.ofNat t:=by
 refine⟨w*4294967296%0x10000000000000000,(w*4294967296%0x10000000000000000+v)%0x10000000000000000,Q*Y%0x10000000000000000,mul64 hA (b:=4294967296) rfl,add64 hA rfl,mul64 hA rfl,sub64 hA (by omega) ?_⟩
 generalize Q*Y=Z at *
 omega
theorem split32(x:Nat):x/4294967296*4294967296+x%4294967296=x:=by omega
theorem split96(u lo:Nat):u*0x10000000000000000+lo=(u*4294967296+lo/4294967296)*4294967296+lo%4294967296:=by omega
theorem top_lt{u v y:Nat}(h:u<y)(hv:v<4294967296):u*4294967296+v<4294967296*y:=by omega
theorem div64_core{N S y y' u lo q r:Nat}(hS:0<S)(hy':y'=y*S)(hN:N*S=u*0x10000000000000000+lo)(huy:u<y')(hlo:lo<0x10000000000000000)(hq:q=N/y)(hr:r=N%y):
 ∃Q1 t Q0 z:Nat,Q1=(u*4294967296+lo/4294967296)/y'/\Q1<4294967296/\t<y'/\Q1*y'+t=u*4294967296+lo/4294967296/\Q0=(t*4294967296+lo%4294967296)/y'/\Q0<4294967296/\z<y'/\Q0*y'+z=t*4294967296+lo%4294967296/\q=Q1*4294967296+Q0/\r*S=z:=by
 have h0:0<y':=Nat.lt_of_le_of_lt (Nat.zero_le _) huy
 have hv1:lo/4294967296<4294967296:=by omega
 have hv0:lo%4294967296<4294967296:=Nat.mod_lt _ (by decide)
 have htl:=Nat.mod_lt (u*4294967296+lo/4294967296) h0
 refine⟨_,(u*4294967296+lo/4294967296)%y',_,(((u*4294967296+lo/4294967296)%y')*4294967296+lo%4294967296)%y',rfl,?_,htl,?_,rfl,?_,Nat.mod_lt _ h0,?_,?_,?_⟩
 ·rw[Nat.div_lt_iff_lt_mul h0];exact top_lt huy hv1
 ·rw[Nat.mul_comm];exact Nat.div_add_mod _ _
 ·rw[Nat.div_lt_iff_lt_mul h0];exact top_lt htl hv0
 ·rw[Nat.mul_comm];exact Nat.div_add_mod _ _
 ·rw[<-(two_digits (x:=u*4294967296+lo/4294967296) (c:=lo%4294967296) (B:=4294967296) h0).1,<-split96,<-hN,hy',Nat.mul_div_mul_right _ _ hS,hq]
 ·rw[<-(two_digits (x:=u*4294967296+lo/4294967296) (c:=lo%4294967296) (B:=4294967296) h0).2,<-split96,<-hN,hy',Nat.mul_mod_mul_right,hr]
theorem q_words{Q1 Q0 q:Nat}(h1:Q1<4294967296)(h0:Q0<4294967296)(hq:q=Q1*4294967296+Q0):Q1*4294967296=Q1*4294967296%0x10000000000000000/\q=(Q1*4294967296+Q0)%0x10000000000000000:=by omega
theorem top_word{y:Nat}(h:y<0x10000000000000000)(h2:9223372036854775808<=y):2147483648<=y/4294967296/\y/4294967296<4294967296:=by omega
theorem low_word{y:Nat}(h:y<0x10000000000000000):y/4294967296<4294967296:=by omega
theorem div64_words(hA:A=Ar.real){x1 x0 y q r k s:Nat}(hy:y<0x10000000000000000)(hx1:x1<y)(hx0:x0<0x10000000000000000)(hq:q=(x1*0x10000000000000000+x0)/y)(hr:r=(x1*0x10000000000000000+x0)%y)(hk:IsBl y k)(hs:s=64-k):
 s<=64/\∃s' y' hi mi lo u a b v1 v0 Q1 t Q0 z z' q':Nat,(A.cvt .u64 (Int.ofNat s)=Int.ofNat s/\A.sh .shl .u64 (Int.ofNat y) (Int.ofNat s)=Int.ofNat y'/\A.sh .shr .u64 (Int.ofNat y') 32=Int.ofNat a/\A.bin .and .u64 (Int.ofNat y') 4294967295=Int.ofNat b/\
   A.sh .shl .u64 (Int.ofNat x1) (Int.ofNat s)=Int.ofNat hi/\A.bin .sub .u64 64 (Int.ofNat s)=Int.ofNat s'/\A.sh .shr .u64 (Int.ofNat x0) (Int.ofNat s')=Int.ofNat mi/\A.bin .or .u64 (Int.ofNat hi) (Int.ofNat mi)=Int.ofNat u/\
   A.sh .shl .u64 (Int.ofNat x0) (Int.ofNat s)=Int.ofNat lo/\A.sh .shr .u64 (Int.ofNat lo) 32=Int.ofNat v1/\A.bin .and .u64 (Int.ofNat lo) 4294967295=Int.ofNat v0/\A.sh .shr .u64 (Int.ofNat z) (Int.ofNat s)=Int.ofNat z'/\A.bin .mul .u64 (Int.ofNat Q1) 4294967296=Int.ofNat q'/\A.bin .add .u64 (Int.ofNat q') (Int.ofNat Q0)=Int.ofNat q)/\
   a*4294967296+b=y'/\y'<0x10000000000000000/\2147483648<=a/\a<4294967296/\b<4294967296/\v1<4294967296/\v0<4294967296/\u<y'/\Q1=(u*4294967296+v1)/(a*4294967296+b)/\Q1<4294967296/\t<y'/\Q1*y'+t=u*4294967296+v1/\
   Q0=(t*4294967296+v0)/(a*4294967296+b)/\Q0<4294967296/\z<y'/\Q0*y'+z=t*4294967296+v0/\r=z':=by
 have hk64:k<=64:=Nat.le_of_not_lt fun h3=>by
  have h4:=hk.2 (by omega)
  have h5:=Nat.pow_le_pow_right (show 0<2 by decide) (show 64<=k-1 by omega)
  omega
 have hk0:0<k:=by
  rcases Nat.eq_zero_or_pos k with h|h
  ·subst h;have:=hk.1;simp at this;omega
  ·exact h
 have hpk:2^k*2^s=0x10000000000000000:=by rw[<-Nat.pow_add,show k+s=64 by omega]
 have hpk1:2^(k-1)*2^s=9223372036854775808:=by rw[<-Nat.pow_add,show k-1+s=63 by omega]
 have hps:2^(64-s)*2^s=0x10000000000000000:=by rw[<-Nat.pow_add,show 64-s+s=64 by omega]
 have h2s:0<2^s:=Nat.pow_pos (by decide)
 have h2s':0<2^(64-s):=Nat.pow_pos (by decide)
 have hy'lt:y*2^s<0x10000000000000000:=by rw[<-hpk];exact Nat.mul_lt_mul_of_pos_right hk.1 h2s
 have hy'ge:9223372036854775808<=y*2^s:=by rw[<-hpk1];exact Nat.mul_le_mul_right _ (hk.2 hk0)
 have hmilt:x0/2^(64-s)<2^s:=by rw[Nat.div_lt_iff_lt_mul h2s',Nat.mul_comm,hps];exact hx0
 have hhi1:x1*2^s+2^s<=y*2^s:=by
  have:=Nat.mul_le_mul_right (2^s) (show x1+1<=y from hx1)
  rwa [Nat.add_mul,Nat.one_mul]at this
 have hlo2:x0*2^s=x0/2^(64-s)*0x10000000000000000+x0*2^s%0x10000000000000000:=by
  have e:=Nat.div_add_mod (x0*2^s) 0x10000000000000000
  have e2:x0*2^s/0x10000000000000000=x0/2^(64-s):=by rw[<-hps,Nat.mul_div_mul_right _ _ h2s]
  rw[e2]at e
  omega
 have hor:x1*2^s|||x0/2^(64-s)=x1*2^s+x0/2^(64-s):=or_add hmilt
 have hN:(x1*0x10000000000000000+x0)*2^s=(x1*2^s+x0/2^(64-s))*0x10000000000000000+x0*2^s%0x10000000000000000:=by
  rw[Nat.add_mul,hlo2,Nat.mul_right_comm];omega
 obtain⟨y',hy'⟩:=exq (y*2^s)
 obtain⟨hi,hhi⟩:=exq (x1*2^s)
 obtain⟨mi,hmi⟩:=exq (x0/2^(64-s))
 obtain⟨lo,hlo⟩:=exq (x0*2^s%0x10000000000000000)
 obtain⟨u,hu⟩:=exq (hi+mi)
 have hlolt:lo<0x10000000000000000:=by rw[hlo];exact Nat.mod_lt _ (by decide)
 rw[<-hy']at hy'lt hy'ge hhi1
 rw[<-hmi]at hmilt hor hN
 rw[<-hhi]at hhi1 hor hN
 rw[<-hlo,<-hu]at hN
 rw[<-hu]at hor
 have hs64:s<64:=by omega
 have hhi2:hi<0x10000000000000000:=by omega
 have hmi2:mi<0x10000000000000000:=by omega
 have huy:u<y':=by omega
 obtain⟨Q1,t,Q0,z,g1,g2,g3,g4,g5,g6,g7,g8,g9,g10⟩:=div64_core h2s hy' hN huy hlolt hq hr
 obtain⟨w1,w2⟩:=q_words g2 g6 g9
 obtain⟨w3,w4⟩:=top_word hy'lt hy'ge
 have w5:=split32 y'
 refine⟨Nat.le_of_lt hs64,64-s,y',hi,mi,lo,u,y'/4294967296,y'%4294967296,lo/4294967296,lo%4294967296,Q1,t,Q0,z,z/2^s,Q1*4294967296,
  ⟨cvtI hA (fun h=>by cases h) (fun _=>by rw[p64];exact Nat.lt_trans hs64 (by decide)),shl64 hA (Nat.le_of_lt hs64) (by rw[<-hy'];exact(Nat.mod_eq_of_lt hy'lt).symm),shr64 hA (s:=32) (by decide) rfl,and64 hA (b:=4294967295) hy'lt (by decide) (Nat.and_two_pow_sub_one_eq_mod y' 32).symm,
   shl64 hA (Nat.le_of_lt hs64) (by rw[<-hhi];exact(Nat.mod_eq_of_lt hhi2).symm),sub64 hA (a:=64) (Nat.le_trans (Nat.le_of_lt hs64) (by decide)) ?_,shr64 hA (Nat.sub_le 64 s) hmi,or64 hA hhi2 hmi2 hor.symm,shl64 hA (Nat.le_of_lt hs64) hlo,shr64 hA (s:=32) (by decide) rfl,and64 hA (b:=4294967295) hlolt (by decide) (Nat.and_two_pow_sub_one_eq_mod lo 32).symm,
   shr64 hA (Nat.le_of_lt hs64) rfl,mul64 hA (b:=4294967296) w1,add64 hA w2⟩,
  w5,hy'lt,w3,w4,Nat.mod_lt _ (by decide),low_word hlolt,Nat.mod_lt _ (by decide),huy,by rw[w5];exact g1,g2,g3,g4,by rw[w5];exact g5,g6,g7,g8,?_⟩
 ·clear hN hor hy' hhi hmi hlo hu g1 g2 g3 g4 g5 g6 g7 g8 g9 g10 w1 w2 w3 w4 w5 hpk hpk1 hps hlo2 hq hr hhi1 huy hmilt h2s h2s'
  omega
 ·rw[<-g10,Nat.mul_div_cancel _ h2s]
end
theorem cDiv64{P:Program}(hP:P=Tryz.prog)(x1 x0 y q r:Nat)(hy:y<0x10000000000000000)(hx1:x1<y)(hx0:x0<0x10000000000000000)(hq:q=(x1*0x10000000000000000+x0)/y)(hr:r=(x1*0x10000000000000000+x0)%y):
 Con P 182 [.int .u64 (.ofNat x1),.int .u64 (.ofNat x0),.int .u64 (.ofNat y)] [] 0 [] (fun v _ _=>v= .tup [.int .u64 (.ofNat q),.int .u64 (.ofNat r)]):=by
 refine cof hP Tryz.func182 (bdb _ rfl) (bkb rfl) ?_
 intro A g K hA hg hK
 obtain⟨bin,_,cmp,_,_,_,nn,nz⟩:=A
 have hy0:0<y:=by omega
 have z1:cmp .eql (.ofNat y) 0=false:=(eqlI hA y 0).trans (decide_eq_false (by omega))
 have z2:cmp .leq (.ofNat y) (.ofNat x1)=false:=(leqI hA y x1).trans (decide_eq_false (by omega))
 have z3:cmp .eql (.ofNat x1) 0=decide (x1=0):=eqlI hA x1 0
 have zn:∀x,x≠0->nz (.ofNat x)=true:=fun x h=>nz_of hA (by intro e;exact h (Int.ofNat.inj e))
 have zs:∀x,nn (.ofNat x)=true:=fun x=>by
  have:nn=fun i=>decide (0<=i):=congrArg Ar.nn hA
  rw[this];exact decide_eq_true (Int.natCast_nonneg x)
 cbv
 rw[z1]
 cbv
 rw[z2]
 cbv
 rw[z3]
 by_cases h0:x1=0
 ·rw[decide_eq_true h0]
  subst h0
  rw[Nat.zero_mul,Nat.zero_add]at hq hr
  have e1:bin .quo .u64 (.ofNat x0) (.ofNat y)=Int.ofNat q:=quo64 hA hx0 hq
  have e2:bin .rem .u64 (.ofNat x0) (.ofNat y)=Int.ofNat r:=(remW hA x0 y).trans (by rw[hr])
  cbv
  refine rgM hP hA hg fun mk _=> ?_
  cbv
  rw[zn y (by omega)]
  cbv
  rw[e1]
  rw[zn y (by omega)]
  cbv
  rw[e2]
  exact hK _ _ _ rfl
 ·rw[decide_eq_false h0]
  obtain⟨k,hk⟩:=bl_ex y
  obtain⟨s,hs⟩:=exq (64-k)
  obtain⟨hs64,s',y',hi,mi,lo,u,a,b,v1,v0,Q1,t,Q0,z,z',q',hw,hyab,hy',ha,ha2,hb,hv1l,hv0l,huy,hQ1,hQ1l,htl,et,hQ0,hQ0l,hzl,ez,hrz⟩:=div64_words hA hy hx1 hx0 hq hr hk hs
  obtain⟨m1,m2,m3,m4,m5,m6,m7,m8,m9,m10,m11,m12,m13,m14⟩:=hw
  dsimp only at m1 m2 m3 m4 m5 m6 m7 m8 m9 m10 m11 m12 m13 m14
  have hul:u<0x10000000000000000:=by omega
  have htl2:t<0x10000000000000000:=by omega
  have ha0:a≠0:=by omega
  have hua:u<a*4294967296+b:=by rw[hyab];exact huy
  have hta:t<a*4294967296+b:=by rw[hyab];exact htl
  obtain⟨N1,N2,N3,n1,n2,n3,n4⟩:=rest_words hA hQ1l hy' htl et
  obtain⟨N4,N5,N6,n5,n6,n7,n8⟩:=rest_words hA hQ0l hy' hzl ez
  dsimp only at n1 n2 n3 n4 n5 n6 n7 n8
  clear hq hr z1 z2 z3 et ez hzl huy htl
  cbv
  refine cva rfl hg rfl rfl (cLz64 hP y k hy hk) ?_
  rintro _ _ _ rfl
  rw[<-hs]
  cbv
  rw[m1]
  rw[zs s]
  cbv
  rw[m2,m3,m4,zs s]
  cbv
  rw[m5,m6,zs s']
  cbv
  rw[m7,m8,zs s]
  cbv
  rw[m9,m10,m11,zn a ha0]
  cbv
  obtain⟨g0,hg0⟩:=exq (u/a)
  obtain⟨r0,hr0⟩:=exq (u%a)
  obtain⟨X,hX⟩:=exq (g0*a)
  obtain⟨e1,e2,e3⟩:=start_words hA hul hg0 hr0 hX
  dsimp only at e1 e2 e3
  rw[e1,e2,e3]
  have hG:=guess_start ha ha2 hb hv1l (u:=u) (v:=v1) hua
  rw[<-hg0,<-hr0,<-hQ1]at hG
  clear hg0 hr0 hX e1 e2 e3
  refine lpb (Nat×Nat) (fun s=>Guess a u Q1 s.1 s.2) (fun s=>s.1) (fun s=> [(15,.int .u64 (.ofNat s.1)),(16,.int .u64 (.ofNat s.2))]) [2,8,9,10,11,13,14] (fun _=> []) (g0,r0) hG ?_ ?_
  ·exact wkid
  rintro⟨p,ρ⟩ hG
  have hG:Guess a u Q1 p ρ:=hG
  obtain⟨Z,Y,Y',ρ',p',hZ,hYd,hρ',hp',c1,c1',c3,c4,c5,c5',c6,c7,c8,c8',c2⟩:=guess_words hA hG ha2 hb hv1l
  dsimp only at c1 c1' c2 c3 c4 c5 c5' c6 c7 c8 c8'
  cbv
  by_cases h1:4294967296<=p
  ·rw[c1 h1]
   have hd:=guess_dec' (b:=b) (v:=v1) (r:=ρ) hQ1 ha hQ1l hG (Or.inl h1)
   have d1:=hd.1
   have d2:=hd.2.1
   have d3:=hd.2.2.1
   have d4:=hd.2.2.2
   clear hd
   rw[<-hρ']at d2
   cbv
   rw[c6 d1,c7]
   rw[<-hp']at d2 d3 d4
   by_cases hbr:4294967296<=ρ'
   ·rw[c8 hbr]
    have hpQ:p'=Q1:=guess_break' hQ1 ha hb d2 d3 d4 hbr
    cbv
    rw[hpQ]
    clear hpQ
    rw[n1,n2,n3,n4,zn a ha0]
    cbv
    obtain⟨g0,hg0⟩:=exq (t/a)
    obtain⟨r0,hr0⟩:=exq (t%a)
    obtain⟨X,hX⟩:=exq (g0*a)
    obtain⟨e1,e2,e3⟩:=start_words hA htl2 hg0 hr0 hX
    dsimp only at e1 e2 e3
    rw[e1,e2,e3]
    have hG:=guess_start ha ha2 hb hv0l (u:=t) (v:=v0) hta
    rw[<-hg0,<-hr0,<-hQ0]at hG
    clear hg0 hr0 hX e1 e2 e3
    refine lpb (Nat×Nat) (fun s=>Guess a t Q0 s.1 s.2) (fun s=>s.1) (fun s=> [(18,.int .u64 (.ofNat s.1)),(16,.int .u64 (.ofNat s.2))]) [2,8,9,10,14,15,17] (fun _=> []) (g0,r0) hG ?_ ?_
    ·exact wkid
    rintro⟨p,ρ⟩ hG
    have hG:Guess a t Q0 p ρ:=hG
    obtain⟨Z,Y,Y',ρ',p',hZ,hYd,hρ',hp',c1,c1',c3,c4,c5,c5',c6,c7,c8,c8',c2⟩:=guess_words hA hG ha2 hb hv0l
    dsimp only at c1 c1' c2 c3 c4 c5 c5' c6 c7 c8 c8'
    cbv
    by_cases h1:4294967296<=p
    ·rw[c1 h1]
     have hd:=guess_dec' (b:=b) (v:=v0) (r:=ρ) hQ0 ha hQ0l hG (Or.inl h1)
     have d1:=hd.1
     have d2:=hd.2.1
     have d3:=hd.2.2.1
     have d4:=hd.2.2.2
     clear hd
     rw[<-hρ']at d2
     cbv
     rw[c6 d1,c7]
     rw[<-hp']at d2 d3 d4
     by_cases hbr:4294967296<=ρ'
     ·rw[c8 hbr]
      have hpQ:p'=Q0:=guess_break' hQ0 ha hb d2 d3 d4 hbr
      cbv
      rw[hpQ]
      rw[m13,m14,n5,n6,n7,n8,zs s]
      cbv
      rw[m12,<-hrz]
      exact hK _ _ _ rfl
     ·rw[c8' hbr]
      cbv
      refine⟨(p',ρ'),id,⟨d2,d3,Nat.le_succ_of_le d4,Nat.lt_of_not_le hbr⟩,(by show p'<p;rw[hp'];exact Nat.sub_lt d1 (by decide)),?_⟩
      exact wkid
    ·rw[c1' h1]
     have c2:=c2 (Nat.lt_of_not_le h1)
     cbv
     rw[c2,c3,c4]
     by_cases h2:Y'<Z
     ·rw[c5 h2]
      rw[hZ,hYd]at h2
      have hd:=guess_dec' (b:=b) (v:=v0) (r:=ρ) hQ0 ha hQ0l hG (Or.inr h2)
      have d1:=hd.1
      have d2:=hd.2.1
      have d3:=hd.2.2.1
      have d4:=hd.2.2.2
      clear hd
      rw[<-hρ']at d2
      cbv
      rw[c6 d1,c7]
      rw[<-hp']at d2 d3 d4
      by_cases hbr:4294967296<=ρ'
      ·rw[c8 hbr]
       have hpQ:p'=Q0:=guess_break' hQ0 ha hb d2 d3 d4 hbr
       cbv
       rw[hpQ]
       rw[m13,m14,n5,n6,n7,n8,zs s]
       cbv
       rw[m12,<-hrz]
       exact hK _ _ _ rfl
      ·rw[c8' hbr]
       cbv
       refine⟨(p',ρ'),id,⟨d2,d3,Nat.le_succ_of_le d4,Nat.lt_of_not_le hbr⟩,(by show p'<p;rw[hp'];exact Nat.sub_lt d1 (by decide)),?_⟩
       exact wkid
     ·rw[c5' h2]
      rw[hZ,hYd]at h2
      have hpQ:p=Q0:=guess_done' hQ0 ha hG (Nat.le_of_not_lt h2)
      cbv
      rw[hpQ]
      rw[m13,m14,n5,n6,n7,n8,zs s]
      cbv
      rw[m12,<-hrz]
      exact hK _ _ _ rfl
   ·rw[c8' hbr]
    cbv
    refine⟨(p',ρ'),id,⟨d2,d3,Nat.le_succ_of_le d4,Nat.lt_of_not_le hbr⟩,(by show p'<p;rw[hp'];exact Nat.sub_lt d1 (by decide)),?_⟩
    exact wkid
  ·rw[c1' h1]
   have c2:=c2 (Nat.lt_of_not_le h1)
   cbv
   rw[c2,c3,c4]
   by_cases h2:Y'<Z
   ·rw[c5 h2]
    rw[hZ,hYd]at h2
    have hd:=guess_dec' (b:=b) (v:=v1) (r:=ρ) hQ1 ha hQ1l hG (Or.inr h2)
    have d1:=hd.1
    have d2:=hd.2.1
    have d3:=hd.2.2.1
    have d4:=hd.2.2.2
    clear hd
    rw[<-hρ']at d2
    cbv
    rw[c6 d1,c7]
    rw[<-hp']at d2 d3 d4
    by_cases hbr:4294967296<=ρ'
    ·rw[c8 hbr]
     have hpQ:p'=Q1:=guess_break' hQ1 ha hb d2 d3 d4 hbr
     cbv
     rw[hpQ]
     clear hpQ
     rw[n1,n2,n3,n4,zn a ha0]
     cbv
     obtain⟨g0,hg0⟩:=exq (t/a)
     obtain⟨r0,hr0⟩:=exq (t%a)
     obtain⟨X,hX⟩:=exq (g0*a)
     obtain⟨e1,e2,e3⟩:=start_words hA htl2 hg0 hr0 hX
     dsimp only at e1 e2 e3
     rw[e1,e2,e3]
     have hG:=guess_start ha ha2 hb hv0l (u:=t) (v:=v0) hta
     rw[<-hg0,<-hr0,<-hQ0]at hG
     clear hg0 hr0 hX e1 e2 e3
     refine lpb (Nat×Nat) (fun s=>Guess a t Q0 s.1 s.2) (fun s=>s.1) (fun s=> [(18,.int .u64 (.ofNat s.1)),(16,.int .u64 (.ofNat s.2))]) [2,8,9,10,14,15,17] (fun _=> []) (g0,r0) hG ?_ ?_
     ·exact wkid
     rintro⟨p,ρ⟩ hG
     have hG:Guess a t Q0 p ρ:=hG
     obtain⟨Z,Y,Y',ρ',p',hZ,hYd,hρ',hp',c1,c1',c3,c4,c5,c5',c6,c7,c8,c8',c2⟩:=guess_words hA hG ha2 hb hv0l
     dsimp only at c1 c1' c2 c3 c4 c5 c5' c6 c7 c8 c8'
     cbv
     by_cases h1:4294967296<=p
     ·rw[c1 h1]
      have hd:=guess_dec' (b:=b) (v:=v0) (r:=ρ) hQ0 ha hQ0l hG (Or.inl h1)
      have d1:=hd.1
      have d2:=hd.2.1
      have d3:=hd.2.2.1
      have d4:=hd.2.2.2
      clear hd
      rw[<-hρ']at d2
      cbv
      rw[c6 d1,c7]
      rw[<-hp']at d2 d3 d4
      by_cases hbr:4294967296<=ρ'
      ·rw[c8 hbr]
       have hpQ:p'=Q0:=guess_break' hQ0 ha hb d2 d3 d4 hbr
       cbv
       rw[hpQ]
       rw[m13,m14,n5,n6,n7,n8,zs s]
       cbv
       rw[m12,<-hrz]
       exact hK _ _ _ rfl
      ·rw[c8' hbr]
       cbv
       refine⟨(p',ρ'),id,⟨d2,d3,Nat.le_succ_of_le d4,Nat.lt_of_not_le hbr⟩,(by show p'<p;rw[hp'];exact Nat.sub_lt d1 (by decide)),?_⟩
       exact wkid
     ·rw[c1' h1]
      have c2:=c2 (Nat.lt_of_not_le h1)
      cbv
      rw[c2,c3,c4]
      by_cases h2:Y'<Z
      ·rw[c5 h2]
       rw[hZ,hYd]at h2
       have hd:=guess_dec' (b:=b) (v:=v0) (r:=ρ) hQ0 ha hQ0l hG (Or.inr h2)
       have d1:=hd.1
       have d2:=hd.2.1
       have d3:=hd.2.2.1
       have d4:=hd.2.2.2
       clear hd
       rw[<-hρ']at d2
       cbv
       rw[c6 d1,c7]
       rw[<-hp']at d2 d3 d4
       by_cases hbr:4294967296<=ρ'
       ·rw[c8 hbr]
        have hpQ:p'=Q0:=guess_break' hQ0 ha hb d2 d3 d4 hbr
        cbv
        rw[hpQ]
        rw[m13,m14,n5,n6,n7,n8,zs s]
        cbv
        rw[m12,<-hrz]
        exact hK _ _ _ rfl
       ·rw[c8' hbr]
        cbv
        refine⟨(p',ρ'),id,⟨d2,d3,Nat.le_succ_of_le d4,Nat.lt_of_not_le hbr⟩,(by show p'<p;rw[hp'];exact Nat.sub_lt d1 (by decide)),?_⟩
        exact wkid
      ·rw[c5' h2]
       rw[hZ,hYd]at h2
       have hpQ:p=Q0:=guess_done' hQ0 ha hG (Nat.le_of_not_lt h2)
       cbv
       rw[hpQ]
       rw[m13,m14,n5,n6,n7,n8,zs s]
       cbv
       rw[m12,<-hrz]
       exact hK _ _ _ rfl
    ·rw[c8' hbr]
     cbv
     refine⟨(p',ρ'),id,⟨d2,d3,Nat.le_succ_of_le d4,Nat.lt_of_not_le hbr⟩,(by show p'<p;rw[hp'];exact Nat.sub_lt d1 (by decide)),?_⟩
     exact wkid
   ·rw[c5' h2]
    rw[hZ,hYd]at h2
    have hpQ:p=Q1:=guess_done' hQ1 ha hG (Nat.le_of_not_lt h2)
    cbv
    rw[hpQ]
    clear hpQ
    rw[n1,n2,n3,n4,zn a ha0]
    cbv
    obtain⟨g0,hg0⟩:=exq (t/a)
    obtain⟨r0,hr0⟩:=exq (t%a)
    obtain⟨X,hX⟩:=exq (g0*a)
    obtain⟨e1,e2,e3⟩:=start_words hA htl2 hg0 hr0 hX
    dsimp only at e1 e2 e3
    rw[e1,e2,e3]
    have hG:=guess_start ha ha2 hb hv0l (u:=t) (v:=v0) hta
    rw[<-hg0,<-hr0,<-hQ0]at hG
    clear hg0 hr0 hX e1 e2 e3
    refine lpb (Nat×Nat) (fun s=>Guess a t Q0 s.1 s.2) (fun s=>s.1) (fun s=> [(18,.int .u64 (.ofNat s.1)),(16,.int .u64 (.ofNat s.2))]) [2,8,9,10,14,15,17] (fun _=> []) (g0,r0) hG ?_ ?_
    ·exact wkid
    rintro⟨p,ρ⟩ hG
    have hG:Guess a t Q0 p ρ:=hG
    obtain⟨Z,Y,Y',ρ',p',hZ,hYd,hρ',hp',c1,c1',c3,c4,c5,c5',c6,c7,c8,c8',c2⟩:=guess_words hA hG ha2 hb hv0l
    dsimp only at c1 c1' c2 c3 c4 c5 c5' c6 c7 c8 c8'
    cbv
    by_cases h1:4294967296<=p
    ·rw[c1 h1]
     have hd:=guess_dec' (b:=b) (v:=v0) (r:=ρ) hQ0 ha hQ0l hG (Or.inl h1)
     have d1:=hd.1
     have d2:=hd.2.1
     have d3:=hd.2.2.1
     have d4:=hd.2.2.2
     clear hd
     rw[<-hρ']at d2
     cbv
     rw[c6 d1,c7]
     rw[<-hp']at d2 d3 d4
     by_cases hbr:4294967296<=ρ'
     ·rw[c8 hbr]
      have hpQ:p'=Q0:=guess_break' hQ0 ha hb d2 d3 d4 hbr
      cbv
      rw[hpQ]
      rw[m13,m14,n5,n6,n7,n8,zs s]
      cbv
      rw[m12,<-hrz]
      exact hK _ _ _ rfl
     ·rw[c8' hbr]
      cbv
      refine⟨(p',ρ'),id,⟨d2,d3,Nat.le_succ_of_le d4,Nat.lt_of_not_le hbr⟩,(by show p'<p;rw[hp'];exact Nat.sub_lt d1 (by decide)),?_⟩
      exact wkid
    ·rw[c1' h1]
     have c2:=c2 (Nat.lt_of_not_le h1)
     cbv
     rw[c2,c3,c4]
     by_cases h2:Y'<Z
     ·rw[c5 h2]
      rw[hZ,hYd]at h2
      have hd:=guess_dec' (b:=b) (v:=v0) (r:=ρ) hQ0 ha hQ0l hG (Or.inr h2)
      have d1:=hd.1
      have d2:=hd.2.1
      have d3:=hd.2.2.1
      have d4:=hd.2.2.2
      clear hd
      rw[<-hρ']at d2
      cbv
      rw[c6 d1,c7]
      rw[<-hp']at d2 d3 d4
      by_cases hbr:4294967296<=ρ'
      ·rw[c8 hbr]
       have hpQ:p'=Q0:=guess_break' hQ0 ha hb d2 d3 d4 hbr
       cbv
       rw[hpQ]
       rw[m13,m14,n5,n6,n7,n8,zs s]
       cbv
       rw[m12,<-hrz]
       exact hK _ _ _ rfl
      ·rw[c8' hbr]
       cbv
       refine⟨(p',ρ'),id,⟨d2,d3,Nat.le_succ_of_le d4,Nat.lt_of_not_le hbr⟩,(by show p'<p;rw[hp'];exact Nat.sub_lt d1 (by decide)),?_⟩
       exact wkid
     ·rw[c5' h2]
      rw[hZ,hYd]at h2
      have hpQ:p=Q0:=guess_done' hQ0 ha hG (Nat.le_of_not_lt h2)
      cbv
      rw[hpQ]
      rw[m13,m14,n5,n6,n7,n8,zs s]
      cbv
      rw[m12,<-hrz]
      exact hK _ _ _ rfl
def Vw(at_ n:Nat)(f:Nat->Nat):Nat:=V n (fun i=>f (at_+i))
theorem Vw_snoc(at_ n:Nat)(f:Nat->Nat):Vw at_ (n+1) f=Vw at_ n f+f (at_+n)*0x10000000000000000^n:=rfl
theorem Vw_upd{at_ n v:Nat}{f:Nat->Nat}:Vw at_ (n+1) (fun j=>if j=at_+n then v else f j)=Vw at_ n f+v*0x10000000000000000^n:=by
 rw[Vw_snoc]
 simp only[if_pos]
 congr 1
 exact Dg.num_congr n fun i hi=>if_neg (by omega)
theorem Vw_lt{at_ n N:Nat}{f:Nat->Nat}(h:Wn N f)(hn:at_+n<=N):Vw at_ n f<0x10000000000000000^n:=V_lt fun j hj=>h (at_+j) (by omega)
section
variable {A:Ar}
theorem getWx(hA:A=Ar.real)(K:IntKind){n:Nat}(f:Nat->Nat)(E:List SV){k:Nat}(h:k<n):A.get (lst K (fun j=>Int.ofNat (f j)) 0 n++E) k=some (.int K (Int.ofNat (f k))):=by
 rw[get_of hA,List.getElem?_append_left (by rw[lle];exact h),lst_get _ _ h,Nat.zero_add]
end
def dcells(d:Nat->Nat)(n s:Nat):List SV:=lst .u64 (fun j=>Int.ofNat (d j)) 0 9++[.int .i64 (.ofNat n),.int .i64 (.ofNat s)]
theorem cBack{P:Program}(hP:P=Tryz.prog){t:TypeId}(d f:Nat->Nat)(n s at_:Nat)(hd:Wn 9 d)(hf:Wn 19 f)(hn:n<=9)(hat:at_+n<19):
 Con P 177 [.ptr 0 0,.slice 1 0 19 19,.int .i64 (.ofNat at_)] [⟨0,dcells d n s,215⟩,⟨1,ws f 19,t⟩] 2 [1]
  (fun v L m=>∃q c,Wn 19 q/\c<=1/\(∀j,j<at_\/at_+n<j->q j=f j)/\Vw at_ (n+1) q+c*0x10000000000000000^(n+1)=Vw at_ (n+1) f+V n d/\v= .bool (decide (c=1))/\L=[⟨0,dcells d n s,215⟩,⟨1,ws q 19,t⟩]/\m=2):=by
 refine cof hP Tryz.func177 (bdb _ rfl) (bkb rfl) ?_
 intro A g K hA hg hK
 obtain⟨bin,_,cmp,_,_,ix,_,_,_,_,_,_,_,_,_,off⟩:=A
 have f1t:∀x y,x<y->cmp .lss (.ofNat x) (.ofNat y)=true:=fun x y h=>lss_t hA h
 have f1f:∀x y,¬x<y->cmp .lss (.ofNat x) (.ofNat y)=false:=fun x y h=>lss_f hA h
 have f2:∀i,i<9->ix (.ofNat i) 9=some i:=fun i h=>ix_of hA h
 have f2':∀i,i<19->ix (.ofNat i) 19=some i:=fun i h=>ix_of hA h
 have f3:∀i,off 0 i 1=i:=fun i=>(off_of hA 0 i 1).trans (by omega)
 have f4:=fun(f:Nat->Nat) (E:List SV) (k:Nat) (h:k<9)=>getWx hA .u64 (n:=9) f E h
 have f4':=fun(f:Nat->Nat) (k:Nat) (h:k<19)=>getW hA .u64 (n:=19) f h
 have f5:=fun(f g:Nat->Nat) (k v:Nat) (h:k<19) (e:g=fun j=>if j=k then v else f j)=>splW hA .u64 (n:=19) f g h e
 have f6:∀i,i<9->bin .add .i64 (.ofNat i) 1=Int.ofNat (i+1):=fun i h=>add_of hA (by omega)
 have f8:∀x y,x+y<19->bin .add .i64 (.ofNat x) (.ofNat y)=Int.ofNat (x+y):=fun x y h=>addI hA (by omega)
 simp only[lst,Nat.reduceAdd,List.cons_append,List.nil_append]at f4 f4' f5
 cbv
 refine lpb (Nat×(Nat->Nat)×Nat) (fun s=>s.1<=n/\Wn 19 s.2.1/\s.2.2<=1/\(∀j,j<at_\/at_+s.1<=j->s.2.1 j=f j)/\Vw at_ s.1 s.2.1+s.2.2*0x10000000000000000^s.1=Vw at_ s.1 f+V s.1 d) (fun s=>n-s.1)
  (fun s=> [(13,.int .i64 (.ofNat s.1)),(7,.int .u64 (.ofNat s.2.2))]) [0,1,2,6,12] (fun s=> [(1,ws s.2.1 19)]) (0,f,0) ⟨Nat.zero_le _,hf,Nat.zero_le _,fun _ _=>rfl,rfl⟩ ?_ ?_
 ·exact wkid
 rintro⟨i,q,c⟩ ⟨hi,hq,hc,hqf,hv⟩
 have hi:i<=n:=hi
 have hq:Wn 19 q:=hq
 have hc:c<=1:=hc
 have hqf:∀j,j<at_\/at_+i<=j->q j=f j:=hqf
 have hv:Vw at_ i q+c*0x10000000000000000^i=Vw at_ i f+V i d:=hv
 cbv
 by_cases hlt:i<n
 ·rw[f1t i n hlt]
  have i9:i<9:=by omega
  have e8:=f8 at_ i (by omega)
  obtain⟨k,hk⟩:=exq (at_+i)
  rw[<-hk]at e8
  have k19:k<19:=by omega
  obtain⟨w,hw⟩:=exq ((q k+d i+c)%0x10000000000000000)
  obtain⟨c',hc'⟩:=exq ((q k+d i+c)/0x10000000000000000)
  obtain⟨q',hq'⟩:=exq (fun j=>if j=k then w else q j:Nat->Nat)
  have e4:=f4 d [.int .i64 (.ofNat n),.int .i64 (.ofNat s)] i i9
  cbv
  refine rgM hP hA hg fun mk _=> ?_
  cbv
  rw[e8]
  cbv
  rw[f2' k k19]
  cbv
  rw[f3 k,f4' q k k19]
  cbv
  rw[f2 i i9]
  cbv
  rw[f3 i,e4]
  cbv
  refine stepD (en_ext rfl hg rfl rfl (xAdd64 hP (q k) (d i) c w c' hc hw hc')) ?_
  cbv
  rw[f2' k k19]
  cbv
  rw[f3 k,f5 q q' k w k19 hq']
  cbv
  rw[f6 i i9]
  refine⟨(i+1,q',c'),id,⟨hlt,?_,?_,?_,?_⟩,(by show n-(i+1)<n-i;omega),?_⟩
  ·intro j hj
   show q' j<_
   rw[hq']
   by_cases hjk:j=k
   ·simp only[hjk,if_pos];rw[hw];exact Nat.mod_lt _ (by decide)
   ·simp only[if_neg hjk];exact hq j hj
  ·have h1:=hq k k19
   have h2:=hd i i9
   show c'<=1
   rw[hc'];omega
  ·intro j hj
   have hj:j<at_\/at_+(i+1)<=j:=hj
   show q' j=f j
   rw[hq']
   simp only[if_neg (show j≠k by omega)]
   exact hqf j (by omega)
  ·show Vw at_ (i+1) q'+c'*0x10000000000000000^(i+1)=Vw at_ (i+1) f+V (i+1) d
   rw[hq',hk,Vw_upd,Vw_snoc at_ i f,nsn d]
   have h1:q k=f k:=hqf k (by omega)
   rw[hk]at h1
   rw[hk,h1]at hw hc'
   exact add_word hv hw hc' (Nat.pow_succ ..)
  ·exact wkid
 ·rw[f1f i n hlt]
  obtain rfl:i=n:=by omega
  have e8:=f8 at_ i (by omega)
  obtain⟨k,hk⟩:=exq (at_+i)
  rw[<-hk]at e8
  have k19:k<19:=by omega
  obtain⟨w,hw⟩:=exq ((q k+0+c)%0x10000000000000000)
  obtain⟨c',hc'⟩:=exq ((q k+0+c)/0x10000000000000000)
  obtain⟨q',hq'⟩:=exq (fun j=>if j=k then w else q j:Nat->Nat)
  obtain⟨o,ho⟩:=exq (decide (c'=1))
  have e9:cmp .eql (.ofNat c') 1=o:=(eqlI hA c' 1).trans ho.symm
  cbv
  refine rgM hP hA hg fun mk _=> ?_
  cbv
  rw[e8]
  cbv
  rw[f2' k k19]
  cbv
  rw[f3 k,f4' q k k19]
  cbv
  refine stepD (en_ext rfl hg rfl rfl (xAdd64 hP (q k) 0 c w c' hc hw hc')) ?_
  cbv
  rw[f2' k k19]
  cbv
  rw[f3 k,f5 q q' k w k19 hq']
  cbv
  rw[e9]
  refine hK _ _ _ ⟨q',c',?_,?_,?_,?_,by rw[ho];rfl,rfl,rfl⟩
  ·intro j hj
   rw[hq']
   by_cases hjk:j=k
   ·simp only[hjk,if_pos];rw[hw];exact Nat.mod_lt _ (by decide)
   ·simp only[if_neg hjk];exact hq j hj
  ·have h1:=hq k k19
   rw[hc'];omega
  ·intro j hj
   rw[hq']
   simp only[if_neg (show j≠k by omega)]
   exact hqf j (by omega)
  ·rw[hq',hk,Vw_upd,Vw_snoc at_ i f]
   have h1:q k=f k:=hqf k (by omega)
   rw[hk]at h1
   rw[hk,h1]at hw hc'
   have h2:=add_word hv hw hc' (Nat.pow_succ ..)
   rw[Nat.zero_mul,Nat.add_zero]at h2
   rw[h2]
theorem take_word{x y c h l l1 c1:Nat}(hx:x<0x10000000000000000)(hy:y<0x10000000000000000)(hc:c<0x10000000000000000)(hh:h=x*y/0x10000000000000000)(hl:l=x*y%0x10000000000000000)
 (hl1:l1=(l+c+0)%0x10000000000000000) (hc1:c1=(l+c+0)/0x10000000000000000):
 x*y+c=l1+(h+c1)*0x10000000000000000/\h+c1<0x10000000000000000/\l1<0x10000000000000000:=by
 have h1:x*y<=0xffffffffffffffff*0xffffffffffffffff:=Nat.mul_le_mul (by omega) (by omega)
 generalize x*y=p at *
 omega
theorem sub_one_word{w x y c s:Nat}(hx:x<0x10000000000000000)(hy:y<0x10000000000000000)(hc:c<=1)(hw:w=(x+0x10000000000000000-y-c)%0x10000000000000000)(hs:s=if x<y+c then 1 else 0):w+y+c=x+s*0x10000000000000000/\s<=1/\w<0x10000000000000000:=by
 subst hs
 split<;>omega
theorem take_step{Vq Vf D qq b c P w l fi di b' c':Nat}(hv:Vq+qq*D=Vf+(b+c)*P)(e1:qq*di+c=l+c'*0x10000000000000000)(e2:w+l+b=fi+b'*0x10000000000000000):Vq+w*P+qq*(D+di*P)=(Vf+fi*P)+(b'+c')*(P*0x10000000000000000):=by
 have h1:Vq+w*P+qq*(D+di*P)=(Vq+qq*D)+(w+qq*di)*P:=by grind
 have h2:(Vf+fi*P)+(b'+c')*(P*0x10000000000000000)=Vf+(fi+b'*0x10000000000000000+c'*0x10000000000000000)*P:=by grind
 rw[h1,h2,hv,<-e2]
 have h3:(w+l+b+c'*0x10000000000000000)*P=(w+b+(l+c'*0x10000000000000000))*P:=by congr 1;omega
 rw[h3,<-e1]
 grind
theorem take_last{Vq Vf X b c P w fi b':Nat}(hv:Vq+X=Vf+(b+c)*P)(e2:w+c+b=fi+b'*0x10000000000000000):Vq+w*P+X=(Vf+fi*P)+b'*(P*0x10000000000000000):=by
 have h1:Vq+w*P+X=(Vq+X)+w*P:=by omega
 have h2:(Vf+fi*P)+b'*(P*0x10000000000000000)=Vf+(fi+b'*0x10000000000000000)*P:=by grind
 rw[h1,h2,hv,<-e2]
 grind
theorem cTake{P:Program}(hP:P=Tryz.prog){t:TypeId}(d f:Nat->Nat)(n s at_ x:Nat)(hd:Wn 9 d)(hf:Wn 19 f)(hn:n<=9)(hat:at_+n<19)(hx:x<0x10000000000000000):
 Con P 176 [.ptr 0 0,.slice 1 0 19 19,.int .i64 (.ofNat at_),.int .u64 (.ofNat x)] [⟨0,dcells d n s,215⟩,⟨1,ws f 19,t⟩] 2 [1]
  (fun v L m=>∃q c,Wn 19 q/\c<=1/\(∀j,j<at_\/at_+n<j->q j=f j)/\Vw at_ (n+1) q+x*V n d=Vw at_ (n+1) f+c*0x10000000000000000^(n+1)/\v= .bool (decide (c=1))/\L=[⟨0,dcells d n s,215⟩,⟨1,ws q 19,t⟩]/\m=2):=by
 refine cof hP Tryz.func176 (bdb _ rfl) (bkb rfl) ?_
 intro A g K hA hg hK
 obtain⟨bin,_,cmp,_,_,ix,_,_,_,_,_,_,_,_,_,off⟩:=A
 have f1t:∀x y,x<y->cmp .lss (.ofNat x) (.ofNat y)=true:=fun x y h=>lss_t hA h
 have f1f:∀x y,¬x<y->cmp .lss (.ofNat x) (.ofNat y)=false:=fun x y h=>lss_f hA h
 have f2:∀i,i<9->ix (.ofNat i) 9=some i:=fun i h=>ix_of hA h
 have f2':∀i,i<19->ix (.ofNat i) 19=some i:=fun i h=>ix_of hA h
 have f3:∀i,off 0 i 1=i:=fun i=>(off_of hA 0 i 1).trans (by omega)
 have f4:=fun(f:Nat->Nat) (E:List SV) (k:Nat) (h:k<9)=>getWx hA .u64 (n:=9) f E h
 have f4':=fun(f:Nat->Nat) (k:Nat) (h:k<19)=>getW hA .u64 (n:=19) f h
 have f5:=fun(f g:Nat->Nat) (k v:Nat) (h:k<19) (e:g=fun j=>if j=k then v else f j)=>splW hA .u64 (n:=19) f g h e
 have f6:∀i,i<9->bin .add .i64 (.ofNat i) 1=Int.ofNat (i+1):=fun i h=>add_of hA (by omega)
 have f7:∀x y,x+y<0x10000000000000000->bin .add .u64 (.ofNat x) (.ofNat y)=Int.ofNat (x+y):=fun x y h=>addU hA h
 have f8:∀x y,x+y<19->bin .add .i64 (.ofNat x) (.ofNat y)=Int.ofNat (x+y):=fun x y h=>addI hA (by omega)
 simp only[lst,Nat.reduceAdd,List.cons_append,List.nil_append]at f4 f4' f5
 cbv
 refine lpb (Nat×(Nat->Nat)×Nat×Nat) (fun s=>s.1<=n/\Wn 19 s.2.1/\s.2.2.1<=1/\s.2.2.2<0x10000000000000000/\(∀j,j<at_\/at_+s.1<=j->s.2.1 j=f j)/\Vw at_ s.1 s.2.1+x*V s.1 d=Vw at_ s.1 f+(s.2.2.1+s.2.2.2)*0x10000000000000000^s.1) (fun s=>n-s.1)
  (fun s=> [(19,.int .i64 (.ofNat s.1)),(9,.int .u64 (.ofNat s.2.2.1)),(10,.int .u64 (.ofNat s.2.2.2))]) [0,1,2,3,8,18] (fun s=> [(1,ws s.2.1 19)]) (0,f,0,0) ⟨Nat.zero_le _,hf,Nat.zero_le _,by show 0<_;decide,fun _ _=>rfl,?_⟩ ?_ ?_
 ·show Vw at_ 0 f+x*V 0 d=Vw at_ 0 f+(0+0)*_
  rw[show V 0 d=0 from rfl];simp
 ·exact wkid
 rintro⟨i,q,b,c⟩ ⟨hi,hq,hb,hc,hqf,hv⟩
 have hi:i<=n:=hi
 have hq:Wn 19 q:=hq
 have hb:b<=1:=hb
 have hc:c<0x10000000000000000:=hc
 have hqf:∀j,j<at_\/at_+i<=j->q j=f j:=hqf
 have hv:Vw at_ i q+x*V i d=Vw at_ i f+(b+c)*0x10000000000000000^i:=hv
 cbv
 by_cases hlt:i<n
 ·rw[f1t i n hlt]
  have i9:i<9:=by omega
  have e8:=f8 at_ i (by omega)
  obtain⟨k,hk⟩:=exq (at_+i)
  rw[<-hk]at e8
  have k19:k<19:=by omega
  obtain⟨h,hh⟩:=exq (x*d i/0x10000000000000000)
  obtain⟨l,hl⟩:=exq (x*d i%0x10000000000000000)
  obtain⟨l1,hl1⟩:=exq ((l+c+0)%0x10000000000000000)
  obtain⟨c1,hc1⟩:=exq ((l+c+0)/0x10000000000000000)
  obtain⟨w1,w2,w3⟩:=take_word hx (hd i i9) hc hh hl hl1 hc1
  have e7:=f7 h c1 w2
  obtain⟨cc,hcc⟩:=exq (h+c1)
  rw[<-hcc]at e7 w1 w2
  obtain⟨w,hw⟩:=exq ((q k+0x10000000000000000-l1-b)%0x10000000000000000)
  obtain⟨b',hb'⟩:=exq (if q k<l1+b then 1 else 0)
  obtain⟨u1,u2,u3⟩:=sub_one_word (hq k k19) w3 hb hw hb'
  obtain⟨q',hq'⟩:=exq (fun j=>if j=k then w else q j:Nat->Nat)
  have e4:=f4 d [.int .i64 (.ofNat n),.int .i64 (.ofNat s)] i i9
  cbv
  rw[f2 i i9]
  cbv
  rw[f3 i,e4]
  cbv
  refine cva rfl hg rfl rfl (cMul64 hP x (d i) h l hx (hd i i9) hh hl) ?_
  rintro _ _ _ rfl
  cbv
  refine step_ext rfl hg rfl rfl (xAdd64 hP l c 0 l1 c1 (by decide) hl1 hc1) ?_
  cbv
  rw[e7,e8]
  rw[f2' k k19]
  cbv
  rw[f3 k,f4' q k k19]
  cbv
  refine step_ext rfl hg rfl rfl (xSub64 hP (q k) l1 b w b' hb hw hb') ?_
  cbv
  rw[f2' k k19]
  cbv
  rw[f3 k,f5 q q' k w k19 hq']
  cbv
  rw[f6 i i9]
  refine⟨(i+1,q',b',cc),id,⟨hlt,?_,u2,w2,?_,?_⟩,(by show n-(i+1)<n-i;omega),?_⟩
  ·intro j hj
   show q' j<_
   rw[hq']
   by_cases hjk:j=k
   ·simp only[hjk,if_pos];exact u3
   ·simp only[if_neg hjk];exact hq j hj
  ·intro j hj
   have hj:j<at_\/at_+(i+1)<=j:=hj
   show q' j=f j
   rw[hq']
   simp only[if_neg (show j≠k by omega)]
   exact hqf j (by omega)
  ·show Vw at_ (i+1) q'+x*V (i+1) d=Vw at_ (i+1) f+(b'+cc)*0x10000000000000000^(i+1)
   rw[hq',hk,Vw_upd,Vw_snoc at_ i f,nsn d]
   have h1:q k=f k:=hqf k (by omega)
   rw[h1,hk]at u1
   exact take_step hv w1 u1
  ·exact wkid
 ·rw[f1f i n hlt]
  obtain rfl:i=n:=by omega
  have e8:=f8 at_ i (by omega)
  obtain⟨k,hk⟩:=exq (at_+i)
  rw[<-hk]at e8
  have k19:k<19:=by omega
  obtain⟨w,hw⟩:=exq ((q k+0x10000000000000000-c-b)%0x10000000000000000)
  obtain⟨b',hb'⟩:=exq (if q k<c+b then 1 else 0)
  obtain⟨u1,u2,u3⟩:=sub_one_word (hq k k19) hc hb hw hb'
  obtain⟨q',hq'⟩:=exq (fun j=>if j=k then w else q j:Nat->Nat)
  obtain⟨o,ho⟩:=exq (decide (b'=1))
  have e9:cmp .eql (.ofNat b') 1=o:=(eqlI hA b' 1).trans ho.symm
  cbv
  refine rgM hP hA hg fun mk _=> ?_
  cbv
  rw[e8]
  cbv
  rw[f2' k k19]
  cbv
  rw[f3 k,f4' q k k19]
  cbv
  refine stepD (en_ext rfl hg rfl rfl (xSub64 hP (q k) c b w b' hb hw hb')) ?_
  cbv
  rw[f2' k k19]
  cbv
  rw[f3 k,f5 q q' k w k19 hq']
  cbv
  rw[e9]
  refine hK _ _ _ ⟨q',b',?_,u2,?_,?_,by rw[ho];rfl,rfl,rfl⟩
  ·intro j hj
   rw[hq']
   by_cases hjk:j=k
   ·simp only[hjk,if_pos];exact u3
   ·simp only[if_neg hjk];exact hq j hj
  ·intro j hj
   rw[hq']
   simp only[if_neg (show j≠k by omega)]
   exact hqf j (by omega)
  ·rw[hq',hk,Vw_upd,Vw_snoc at_ i f]
   have h1:q k=f k:=hqf k (by omega)
   rw[h1,hk]at u1
   exact take_last hv u1
theorem g_first{d f:Nat->Nat}{at_ m Q:Nat}(hf:Wn 19 f)(hat:at_+(m+1)<19)(hQ:Q*V (m+1) d<=Vw at_ (m+2) f):Q*d m<=f (at_+(m+1))*0x10000000000000000+f (at_+m):=
 Dg.guess1 (d:=d) (u:=fun i=>f (at_+i)) (by decide) (fun i hi=>hf _ (by omega)) hQ
theorem g_second{d f:Nat->Nat}{at_ p Q:Nat}(hf:Wn 19 f)(hat:at_+(p+2)<19)(hQ:Q*V (p+2) d<=Vw at_ (p+3) f):Q*(d (p+1)*0x10000000000000000+d p)<=(f (at_+(p+2))*0x10000000000000000+f (at_+(p+1)))*0x10000000000000000+f (at_+p):=
 Dg.guess2 (d:=d) (u:=fun i=>f (at_+i)) (by decide) (fun i hi=>hf _ (by omega)) hQ
theorem g_much{t d2 h l u2 q r Q:Nat}(e:q*t+r=h*0x10000000000000000+l)(hQ:Q*(t*0x10000000000000000+d2)<=(h*0x10000000000000000+l)*0x10000000000000000+u2)(much:r*0x10000000000000000+u2<q*d2)(hle:Q<=q):0<q/\Q<=q-1/\(q-1)*t+(r+t)=h*0x10000000000000000+l:=by
 have h0:0<q:=by
  rcases Nat.eq_zero_or_pos q with h|h
  ·subst h;rw[Nat.zero_mul]at much;omega
  ·exact h
 refine⟨h0,Dg.guess3 e hQ much hle,?_⟩
 obtain⟨p,rfl⟩:∃p,q=p+1:=⟨q-1,by omega⟩
 rw[Nat.add_mul,Nat.one_mul]at e
 rw[Nat.add_sub_cancel]
 omega
theorem pair_cmp{x y a b r u:Nat}(ha:a=x*y/0x10000000000000000)(hb:b=x*y%0x10000000000000000)(hu:u<0x10000000000000000):((a<r\/a=r/\b<=u)->x*y<=r*0x10000000000000000+u)/\(¬ (a<r\/a=r/\b<=u)->r*0x10000000000000000+u<x*y):=by
 generalize x*y=z at *
 constructor<;>intro h<;>omega
theorem cGuess{P:Program}(hP:P=Tryz.prog){t:TypeId}(d f:Nat->Nat)(m s at_ Q:Nat)(hd:Wn 9 d)(hf:Wn 19 f)(hn:m<9)(hat:at_+(m+1)<19)(htop:0<d m)(hQ:Q*V (m+1) d<=Vw at_ (m+2) f)(hQW:Q<0x10000000000000000):
 Con P 175 [.ptr 0 0,.slice 1 0 19 19,.int .i64 (.ofNat at_)] [⟨0,dcells d (m+1) s,215⟩,⟨1,ws f 19,t⟩] 2 []
  (fun v _ _=>∃q,Q<=q/\q<0x10000000000000000/\v= .int .u64 (.ofNat q)):=by
 obtain⟨n,hn1⟩:=exq (m+1)
 rw[<-hn1]
 refine cof hP Tryz.func175 (bdb _ rfl) (bkb rfl) ?_
 intro A g K hA hg hK
 obtain⟨bin,_,cmp,_,_,ix,_,_,_,_,_,_,_,_,_,off,_,_,sub⟩:=A
 have f2:∀i,i<9->ix (.ofNat i) 9=some i:=fun i h=>ix_of hA h
 have f2':∀i,i<19->ix (.ofNat i) 19=some i:=fun i h=>ix_of hA h
 have f3:∀i,off 0 i 1=i:=fun i=>(off_of hA 0 i 1).trans (by omega)
 have f4:=fun(f:Nat->Nat) (E:List SV) (k:Nat) (h:k<9)=>getWx hA .u64 (n:=9) f E h
 have f4':=fun(f:Nat->Nat) (k:Nat) (h:k<19)=>getW hA .u64 (n:=19) f h
 simp only[lst,Nat.reduceAdd,List.cons_append,List.nil_append]at f4 f4'
 have e4:=f4 d [.int .i64 (.ofNat n),.int .i64 (.ofNat s)] m hn
 have g1:bin .sub .i64 (.ofNat n) 1=Int.ofNat m:=(subI hA (a:=n) (b:=1) (by omega) (by omega)).trans (by rw[hn1];simp)
 obtain⟨k0,hk0⟩:=exq (at_+(m+1))
 obtain⟨k1,hk1⟩:=exq (at_+m)
 have g2:bin .add .i64 (.ofNat at_) (.ofNat n)=Int.ofNat k0:=(addI hA (by omega)).trans (by rw[hk0,hn1])
 have g3:bin .sub .i64 (.ofNat k0) 1=Int.ofNat k1:=(subI hA (a:=k0) (b:=1) (by omega) (by omega)).trans (congrArg Int.ofNat (by omega))
 have hh:=hf k0 (by omega)
 have hl:=hf k1 (by omega)
 have ht:=hd m hn
 have hQ1:=g_first hf hat hQ
 rw[<-hk0,<-hk1]at hQ1
 cbv
 refine rgM hP hA hg fun mk _=> ?_
 cbv
 rw[g1]
 cbv
 rw[f2 m hn]
 cbv
 rw[f3 m,e4]
 cbv
 refine rgM hP hA hg fun mk _=> ?_
 cbv
 rw[g2]
 cbv
 rw[f2' k0 (by omega)]
 cbv
 rw[f3 k0,f4' f k0 (by omega)]
 cbv
 rw[g2,g3]
 cbv
 rw[f2' k1 (by omega)]
 cbv
 rw[f3 k1,f4' f k1 (by omega)]
 cbv
 by_cases hge:d m<=f k0
 ·rw[show cmp .geq (.ofNat (f k0)) (.ofNat (d m))=true from geq_t hA hge]
  cbv
  exact hK _ _ _ ⟨0xffffffffffffffff,by omega,by decide,rfl⟩
 ·rw[show cmp .geq (.ofNat (f k0)) (.ofNat (d m))=false from geq_f hA hge]
  obtain⟨q0,hq0⟩:=exq ((f k0*0x10000000000000000+f k1)/d m)
  obtain⟨r0,hr0⟩:=exq ((f k0*0x10000000000000000+f k1)%d m)
  have hq0W:q0<0x10000000000000000:=by
   rw[hq0,Nat.div_lt_iff_lt_mul htop]
   have h1:=Nat.mul_le_mul_left 0x10000000000000000 (show f k0+1<=d m by omega)
   rw[Nat.mul_add,Nat.mul_one]at h1
   omega
  have hr0W:r0<0x10000000000000000:=Nat.lt_trans (hr0▸Nat.mod_lt _ htop) ht
  have hQq:Q<=q0:=by rw[hq0,Nat.le_div_iff_mul_le htop];exact hQ1
  have e0:q0*d m+r0=f k0*0x10000000000000000+f k1:=by rw[hq0,hr0,Nat.mul_comm];exact Nat.div_add_mod _ _
  cbv
  refine cva rfl hg rfl rfl (cDiv64 hP (f k0) (f k1) (d m) q0 r0 ht (by omega) hl hq0 hr0) ?_
  rintro _ _ _ rfl
  cbv
  clear hq0 hr0
  by_cases h1:n=1
  ·rw[show cmp .eql (.ofNat n) 1=true from eql_t hA (b:=1) h1]
   cbv
   exact hK _ _ _ ⟨q0,hQq,hq0W,rfl⟩
  ·rw[show cmp .eql (.ofNat n) 1=false from eql_f hA (b:=1) h1]
   obtain⟨p,rfl⟩:∃p,m=p+1:=⟨m-1,by omega⟩
   have hp9:p<9:=by omega
   have g4:bin .sub .i64 (.ofNat n) 2=Int.ofNat p:=(subI hA (a:=n) (b:=2) (by omega) (by omega)).trans (congrArg Int.ofNat (by omega))
   obtain⟨k2,hk2⟩:=exq (at_+p)
   have g5:bin .sub .i64 (.ofNat k0) 2=Int.ofNat k2:=(subI hA (a:=k0) (b:=2) (by omega) (by omega)).trans (congrArg Int.ofNat (by omega))
   have e5:=f4 d [.int .i64 (.ofNat n),.int .i64 (.ofNat s)] p hp9
   have hQ2:=g_second hf (by omega) hQ
   rw[<-hk2,show at_+(p+2)=k0 by omega,<-hk1]at hQ2
   have hu2:=hf k2 (by omega)
   generalize htop':d (p+1)=top at htop e0 hQ2 ht hge⊢
   cbv
   refine lpb (Nat×Nat) (fun s=>Q<=s.1/\s.1<0x10000000000000000/\s.2<0x10000000000000000/\s.1*top+s.2=f k0*0x10000000000000000+f k1) (fun s=>s.1) (fun s=> [(10,.int .u64 (.ofNat s.1)),(11,.int .u64 (.ofNat s.2))]) [0,1,2,6,7] (fun _=> []) (q0,r0) ⟨hQq,hq0W,hr0W,e0⟩ ?_ ?_
   ·exact wkid
   rintro⟨q,r⟩ hs
   have hs1:Q<=q:=hs.1
   have hs2:q<0x10000000000000000:=hs.2.1
   have hs3:r<0x10000000000000000:=hs.2.2.1
   have hs4:q*top+r=f k0*0x10000000000000000+f k1:=hs.2.2.2
   clear hs hQq hq0W hr0W e0
   obtain⟨a,ha⟩:=exq (q*d p/0x10000000000000000)
   obtain⟨b,hb⟩:=exq (q*d p%0x10000000000000000)
   obtain⟨c1,c2⟩:=pair_cmp (r:=r) ha hb hu2
   cbv
   refine rgM hP hA hg fun mk _=> ?_
   cbv
   rw[g4]
   cbv
   rw[f2 p hp9]
   cbv
   rw[f3 p,e5]
   cbv
   refine stepD (en_val rfl hg rfl rfl (cMul64 hP q (d p) a b hs2 (hd p hp9) ha hb) (fun _ _ _ h=>h) ⟨trivial,trivial,trivial⟩) ?_
   cbv
   by_cases hab:a<r\/a=r/\b<=f k2
   ·have fin:K (.int .u64 (.ofNat q)) [⟨0,dcells d n s,215⟩,⟨1,ws f 19,t⟩] 2:=hK _ _ _ ⟨q,hs1,hs2,rfl⟩
    rcases hab with h2|⟨h2,h3⟩
    ·rw[show cmp .lss (.ofNat a) (.ofNat r)=true from lss_t hA h2]
     cbv
     exact fin
    ·rw[show cmp .lss (.ofNat a) (.ofNat r)=false from lss_f hA (by omega)]
     cbv
     rw[show cmp .eql (.ofNat a) (.ofNat r)=true from eql_t hA h2]
     cbv
     rw[g2,g5]
     rw[f2' k2 (by omega)]
     cbv
     rw[f3 k2,f4' f k2 (by omega)]
     cbv
     rw[show cmp .leq (.ofNat b) (.ofNat (f k2))=true from leq_t hA h3]
     cbv
     exact fin
   ·obtain⟨z1,z2,z3⟩:=g_much hs4 hQ2 (c2 hab) hs1
    obtain⟨q',hq'⟩:=exq (q-1)
    rw[<-hq']at z2 z3
    have y1:bin .sub .u64 (.ofNat q) 1=Int.ofNat q':=sub64 hA (b:=1) (by decide) (by omega)
    obtain⟨s1,hs1'⟩:=exq ((r+top)%0x10000000000000000)
    have y2:bin .add .u64 (.ofNat r) (.ofNat top)=Int.ofNat s1:=add64 hA hs1'
    have tail:∀ (X:Prop),(s1<r->X)->(¬s1<r->s1=r+top->X)->X:=fun X h1 h2=>by
     by_cases h3:s1<r
     ·exact h1 h3
     ·exact h2 h3 (by omega)
    have go:cmp .lss (.ofNat a) (.ofNat r)=false:=lss_f hA (fun h=>hab (Or.inl h))
    rw[go]
    cbv
    by_cases har:a=r
    ·rw[show cmp .eql (.ofNat a) (.ofNat r)=true from eql_t hA har]
     cbv
     rw[g2,g5]
     rw[f2' k2 (by omega)]
     cbv
     rw[f3 k2,f4' f k2 (by omega)]
     cbv
     rw[show cmp .leq (.ofNat b) (.ofNat (f k2))=false from leq_f hA (fun h=>hab (Or.inr ⟨har,h⟩))]
     cbv
     rw[y1,y2]
     refine tail _ (fun h3=> ?_) (fun h3 h4=> ?_)
     ·rw[show cmp .lss (.ofNat s1) (.ofNat r)=true from lss_t hA h3]
      cbv
      exact hK _ _ _ ⟨q',z2,by omega,rfl⟩
     ·rw[show cmp .lss (.ofNat s1) (.ofNat r)=false from lss_f hA h3]
      cbv
      refine⟨(q',s1),id,⟨z2,by show q'<_;omega,by show s1<_;omega,by show q'*top+s1=_;rw[h4];exact z3⟩,(by show q'<q;omega),?_⟩
      exact wkid
    ·rw[show cmp .eql (.ofNat a) (.ofNat r)=false from eql_f hA har]
     cbv
     rw[y1,y2]
     refine tail _ (fun h3=> ?_) (fun h3 h4=> ?_)
     ·rw[show cmp .lss (.ofNat s1) (.ofNat r)=true from lss_t hA h3]
      cbv
      exact hK _ _ _ ⟨q',z2,by omega,rfl⟩
     ·rw[show cmp .lss (.ofNat s1) (.ofNat r)=false from lss_f hA h3]
      cbv
      refine⟨(q',s1),id,⟨z2,by show q'<_;omega,by show s1<_;omega,by show q'*top+s1=_;rw[h4];exact z3⟩,(by show q'<q;omega),?_⟩
      exact wkid
end Go.Proofs.YtdhmihfefgcbeaaGreat
