/-
  This text proves what these texts prove: Ga, MaP, Ta, Gb, EcB, PrA, FlA. Conditions: those of each theorem.
-/
import Derived.Test.YtdhmihfefgcbeaaGreatY12
import Derived.Test.YtdhmihfefgcbeaaGreatY08
import Derived.Test.YtdhmihfefgcbeaaGreatY06
set_option maxHeartbeats 8000000
set_option linter.all false
namespace Go.Proofs.YtdhmihfefgcbeaaGreat
open Go.Vg Go.RowKit
set_option maxRecDepth 200000
set_option cbv.maxSteps 100000000
theorem shr_word{a y s:Nat}(hs:s<64)(ha:a<0x10000000000000000):(a+0x10000000000000000*y)/2^s%0x10000000000000000=a/2^s|||(y%0x10000000000000000)*2^(64-s)%0x10000000000000000:=by
 have hB:(0x10000000000000000:Nat)=2^s*2^(64-s):=by rw[<-Nat.pow_add,show s+(64-s)=64 by omega]
 have h1:(a+0x10000000000000000*y)/2^s=a/2^s+y*2^(64-s):=by
  rw[hB,Nat.mul_assoc,Nat.add_mul_div_left _ _ (Nat.two_pow_pos s),Nat.mul_comm y]
 have h2:a/2^s<2^(64-s):=Nat.div_lt_of_lt_mul (by rw[<-hB];exact ha)
 have h3:(y%0x10000000000000000)*2^(64-s)%0x10000000000000000=(y%2^s)*2^(64-s):=by
  rw[Nat.mod_mul_mod,hB,Nat.mul_mod_mul_right]
 rw[h1,h3,Nat.or_comm,or_add h2,Nat.add_comm (a/2^s)]
 have h4:y*2^(64-s)%0x10000000000000000=(y%2^s)*2^(64-s):=by rw[hB,Nat.mul_mod_mul_right]
 have h5:y%2^s+1<=2^s:=Nat.mod_lt _ (Nat.two_pow_pos s)
 have h6:=Nat.mul_le_mul_right (2^(64-s)) h5
 rw[<-hB,Nat.add_mul,Nat.one_mul]at h6
 rw[Nat.add_mod,h4,Nat.mod_eq_of_lt (show a/2^s<0x10000000000000000 by omega),Nat.mod_eq_of_lt (by omega)]
def shrF(a:Nat->Nat)(w s:Nat)(j:Nat):Nat:=if j+w<9 then(if j+w+1<9 then a (j+w)/2^s|||a (j+w+1)*2^(64-s)%0x10000000000000000 else a (j+w)/2^s)else 0
theorem shrF_lt{a:Nat->Nat}(ha:Wn 9 a)(w s j:Nat):shrF a w s j<0x10000000000000000:=by
 unfold shrF
 have h2:∀x:Nat,x<0x10000000000000000->x/2^s<0x10000000000000000:=fun x h=>Nat.lt_of_le_of_lt (Nat.div_le_self _ _) h
 split
 ·split
  ·exact Nat.or_lt_two_pow (n:=64) (h2 _ (ha _ (by omega))) (Nat.mod_lt _ (by decide))
  ·exact h2 _ (ha _ (by omega))
 ·decide
theorem shrF_V{a:Nat->Nat}(ha:Wn 9 a){k w s:Nat}(hw:w=k/64)(hs:s=k%64):V 9 (shrF a w s)=V 9 a/2^k:=by
 have hB:(0:Nat)<0x10000000000000000:=by decide
 have hlt:V 9 a/2^k<0x10000000000000000^9:=Nat.lt_of_le_of_lt (Nat.div_le_self _ _) (V_lt ha)
 rw[<-Nat.mod_eq_of_lt hlt,<-Dg.num_dig hB]
 refine Dg.num_congr 9 fun j hj=> ?_
 unfold Dg.dig
 have hk:k=64*w+s:=by omega
 have hsl:s<64:=by omega
 have hd:∀i,V 9 a/0x10000000000000000^i%0x10000000000000000=if i<9 then a i else 0:=fun i=>by
  by_cases h:i<9
  ·rw[if_pos h];exact Dg.dig_num hB 9 ha i h
  ·rw[if_neg h];exact Dg.dig_big (by decide) (V_lt ha) (by omega)
 have e1:V 9 a/2^k/0x10000000000000000^j=V 9 a/0x10000000000000000^(j+w)/2^s:=by
  rw[Nat.div_div_eq_div_mul,Nat.div_div_eq_div_mul,W_pow,W_pow,<-Nat.pow_add,<-Nat.pow_add,hk]
  congr 2
  omega
 rw[e1,<-Nat.mod_add_div (V 9 a/0x10000000000000000^(j+w)) 0x10000000000000000,Nat.div_div_eq_div_mul _ (0x10000000000000000^(j+w)),<-Nat.pow_succ,hd]
 rw[shr_word hsl (by split;exact ha _ (by omega);decide),hd]
 unfold shrF
 by_cases h1:j+w<9
 ·rw[if_pos h1,if_pos h1]
  by_cases h2:j+w+1<9
  ·rw[if_pos h2,if_pos h2]
  ·rw[if_neg h2,if_neg h2,Nat.zero_mul,Nat.zero_mod,Nat.or_zero]
 ·rw[if_neg h1,if_neg h1,if_neg (by omega),Nat.zero_mul,Nat.zero_mod,Nat.or_zero,Nat.zero_div]
theorem cShr{P:Program}(hP:P=Tryz.prog)(a r:Nat->Nat)(ha:Wn 9 a)(hr:Wn 9 r)(k:Nat)(hk:k<=576)(hV:V 9 r=V 9 a/2^k):
 Con P 78 [.agg (ws a 9),.int .i64 (.ofNat k)] [] 0 [] (fun v _ _=>v= .tup [.agg (ws r 9),.int .i64 0]):=by
 obtain⟨w,hw⟩:=exq (k/64)
 obtain⟨s,hs⟩:=exq (k%64)
 obtain⟨m,hm⟩:=exq (9-w)
 obtain⟨s',hs'⟩:=exq (64-s)
 obtain⟨q,hq⟩:=exq (fun i j=>if j<i then shrF a w s j else 0:Nat->Nat->Nat)
 obtain⟨q1,hq1⟩:=exq (fun i j=>if j=i then a (i+w)/2^s else q i j:Nat->Nat->Nat)
 have q0:q 0=fun _=>0:=by rw[hq];rfl
 have hsl:s<64:=by omega
 have hm9:m<=9:=by omega
 have hend:ws (q m) 9=ws r 9:=by
  refine V_inj (fun j _=> ?_) hr ?_
  ·rw[hq];show(if j<m then _ else 0)<_
   split
   ·exact shrF_lt ha w s j
   ·decide
  ·rw[hV,<-shrF_V ha hw hs,hq]
   refine Dg.num_congr 9 fun j _=> ?_
   show(if j<m then _ else 0)=_
   by_cases h:j<m
   ·rw[if_pos h]
   ·rw[if_neg h];unfold shrF;rw[if_neg (by omega)]
 have hw1:∀i,i<m->a (i+w)/2^s<0x10000000000000000:=fun i hi=>Nat.lt_of_le_of_lt (Nat.div_le_self _ _) (ha _ (by omega))
 refine cof hP Tryz.func78 (bdb _ rfl) (bkb rfl) ?_
 intro A g K hA hg hK
 obtain⟨bin,sh,cmp,_,_,ix,nn,_,_,_,_,_,_,_,_,off,_,_,sub⟩:=A
 have f1:∀i,i<m->cmp .lss (.ofNat i) (.ofNat m)=true:=fun i h=>lss_t hA h
 have f1f:cmp .lss (.ofNat m) (.ofNat m)=false:=lss_f hA (by omega)
 have f2:∀i,i<9->ix (.ofNat i) 9=some i:=fun i h=>ix_of hA h
 have f3:∀i,off 0 i 1=i:=fun i=>(off_of hA 0 i 1).trans (by omega)
 have f4:=fun(f:Nat->Nat) (k:Nat) (h:k<9)=>getW hA .u64 (n:=9) f h
 have f5:=fun(f g:Nat->Nat) (k v:Nat) (h:k<9) (e:g=fun j=>if j=k then v else f j)=>splW hA .u64 (n:=9) f g h e
 have f6:∀i,i<9->bin .add .i64 (.ofNat i) 1=Int.ofNat (i+1):=fun i h=>add_of hA (by omega)
 have f7:cmp .lss (.ofNat k) 0=false:=lss_f hA (b:=0) (by omega)
 have f8:cmp .gtr (.ofNat k) 576=false:=gtr_f hA (b:=576) (by omega)
 have f9:bin .quo .i64 (.ofNat k) 64=Int.ofNat w:=(quoI hA (a:=k) (b:=64) (by omega)).trans (by rw[hw])
 have f10:bin .rem .i64 (.ofNat k) 64=Int.ofNat s:=(remW hA k 64).trans (by rw[hs])
 have f11:bin .sub .i64 9 (.ofNat w)=Int.ofNat m:=(subI hA (a:=9) (b:=w) (by omega) (by decide)).trans (by rw[hm])
 have f12:∀i,i<m->bin .add .i64 (.ofNat i) (.ofNat w)=Int.ofNat (i+w):=fun i h=>addI hA (by omega)
 have f13:∀x,sh .shr .u64 (.ofNat x) (.ofNat s)=Int.ofNat (x/2^s):=fun x=>shrI hA (k:= .u64) (by show s<=64;omega)
 have f14:bin .sub .i64 64 (.ofNat s)=Int.ofNat s':=(subI hA (a:=64) (b:=s) (by omega) (by decide)).trans (by rw[hs'])
 have f15:∀x,sh .shl .u64 (.ofNat x) (.ofNat s')=Int.ofNat (x*2^s'%0x10000000000000000):=fun x=>shlW hA rfl x (s:=s') (by show s'<=64;omega)
 have n1:nn (.ofNat s)=true:=nn_t hA s
 have n2:nn (.ofNat s')=true:=nn_t hA s'
 have f16:∀x y,x<0x10000000000000000->y<0x10000000000000000->bin .or .u64 (.ofNat x) (.ofNat y)=Int.ofNat (x|||y):=fun x y h1 h2=>orW hA rfl h1 h2
 simp only[lst,Nat.reduceAdd]at f4 f5
 simp only[ws,lst,Nat.reduceAdd]at hend
 cbv
 rw[f7]
 cbv
 rw[f8]
 cbv
 rw[f9,f10]
 cbv
 rw[f11]
 cbv
 refine lpb (Nat×(Nat->Nat)) (fun s=>s.1<=m/\s.2=q s.1) (fun s=>m-s.1) (fun s=> [(23,.int .i64 (.ofNat s.1))]) [2,4,5,6,7,8,22] (fun s=> [(2,ws s.2 9)]) (0,fun _=>0) ⟨Nat.zero_le _,q0.symm⟩ ?_ ?_
 ·exact wkid
 rintro⟨i,c⟩ ⟨hi,hc⟩
 have hi:i<=m:=hi
 have hc:c=q i:=hc
 subst hc
 by_cases hlt:i<m
 ·obtain⟨x,hx⟩:=exq (i+w)
  obtain⟨x1,hx1⟩:=exq (x+1)
  obtain⟨y,hy⟩:=exq (a x/2^s)
  have hx9:x<9:=by omega
  have e1:bin .add .i64 (.ofNat i) (.ofNat w)=Int.ofNat x:=by rw[hx];exact f12 i hlt
  have e2:bin .add .i64 (.ofNat x) 1=Int.ofNat x1:=by rw[hx1];exact f6 x hx9
  have e3:sh .shr .u64 (.ofNat (a x)) (.ofNat s)=Int.ofNat y:=by rw[hy];exact f13 (a x)
  have e4:q1 i=fun j=>if j=i then y else q i j:=by rw[hq1,hy,hx]
  have hyl:y<0x10000000000000000:=by rw[hy];exact Nat.lt_of_le_of_lt (Nat.div_le_self _ _) (ha _ hx9)
  have e5:=f6 i (by omega)
  cbv
  rw[f1 i hlt]
  cbv
  rw[e1]
  cbv
  rw[f2 x hx9]
  cbv
  rw[f3 x,f4 a x hx9]
  cbv
  rw[n1]
  cbv
  rw[e3,f2 i (by omega)]
  cbv
  rw[f3 i,f5 (q i) (q1 i) i y (by omega) e4]
  cbv
  rw[e1]
  cbv
  rw[e2]
  by_cases h9:x1<9
  ·obtain⟨u,hu⟩:=exq (a x1*2^s'%0x10000000000000000)
   have e6:sh .shl .u64 (.ofNat (a x1)) (.ofNat s')=Int.ofNat u:=by rw[hu];exact f15 _
   have e7:q1 i i=y:=by rw[e4];simp
   have e8:=f16 y u hyl (by rw[hu];exact Nat.mod_lt _ (by decide))
   obtain⟨t,ht⟩:=exq (y|||u)
   rw[<-ht]at e8
   have e9:q (i+1)=fun j=>if j=i then t else q1 i j:=by
    rw[e4,hq]
    funext j
    show(if j<i+1 then shrF a w s j else 0)=if j=i then t else if j=i then y else if j<i then shrF a w s j else 0
    by_cases hj:j=i
    ·rw[if_pos (by omega),if_pos hj,hj]
     unfold shrF
     rw[if_pos (by omega),if_pos (by omega),ht,hy,hu,hx1,hx,hs']
    ·rw[if_neg hj,if_neg hj]
     by_cases hj2:j<i
     ·rw[if_pos (by omega),if_pos hj2]
     ·rw[if_neg (by omega),if_neg hj2]
   obtain⟨qn,hqn⟩:=exq (q (i+1))
   rw[<-hqn]at e9
   rw[show cmp .lss (.ofNat x1) 9=true from lss_t hA (b:=9) h9]
   cbv
   refine rgM hP hA hg fun mk _=> ?_
   cbv
   rw[f2 i (by omega)]
   cbv
   rw[f3 i,f4 (q1 i) i (by omega),e7]
   cbv
   rw[e1]
   cbv
   rw[e2]
   cbv
   rw[f2 x1 h9]
   cbv
   rw[f3 x1,f4 a x1 h9]
   cbv
   rw[f14]
   cbv
   rw[n2]
   cbv
   rw[e6]
   cbv
   rw[e8]
   cbv
   rw[f2 i (by omega)]
   cbv
   rw[f3 i,f5 (q1 i) qn i t (by omega) e9]
   cbv
   rw[e5]
   refine⟨(i+1,qn),id,⟨hlt,hqn⟩,(by show m-(i+1)<m-i;omega),?_⟩
   exact wkid
  ·have e9:q (i+1)=q1 i:=by
    rw[e4,hq]
    funext j
    show(if j<i+1 then shrF a w s j else 0)=if j=i then y else if j<i then shrF a w s j else 0
    by_cases hj:j=i
    ·rw[if_pos (by omega),if_pos hj,hj]
     unfold shrF
     rw[if_pos (by omega),if_neg (by omega),hy,hx]
    ·rw[if_neg hj]
     by_cases hj2:j<i
     ·rw[if_pos (by omega),if_pos hj2]
     ·rw[if_neg (by omega),if_neg hj2]
   rw[show cmp .lss (.ofNat x1) 9=false from lss_f hA (b:=9) h9]
   cbv
   rw[e5]
   refine⟨(i+1,q1 i),id,⟨hlt,e9.symm⟩,(by show m-(i+1)<m-i;omega),?_⟩
   exact wkid
 ·obtain rfl:i=m:=by omega
  cbv
  rw[f1f]
  cbv
  rw[hend]
  exact hK _ _ _ rfl
end Go.Proofs.YtdhmihfefgcbeaaGreat
namespace Mk
/-! words of 64 bits by their highest bit-/
theorem top_or(x y:Nat):(x|||y)/9223372036854775808=x/9223372036854775808|||y/9223372036854775808:=by
 have h:=Nat.shiftRight_or_distrib (a:=x) (b:=y) (i:=63)
 simpa [Nat.shiftRight_eq_div_pow]using h
theorem top_xor(x y:Nat):(x^^^y)/9223372036854775808=x/9223372036854775808^^^y/9223372036854775808:=by
 have h:=Nat.shiftRight_xor_distrib (a:=x) (b:=y) (i:=63)
 simpa [Nat.shiftRight_eq_div_pow]using h
theorem bit2(x:Nat)(h:x<0x10000000000000000):x/9223372036854775808=0\/x/9223372036854775808=1:=by omega
theorem zero_bit(x:Nat)(h:x<0x10000000000000000):
 (0xffffffffffffffff^^^(x|||(0x10000000000000000-x)%0x10000000000000000))/9223372036854775808=if x=0 then 1 else 0:=by
 have h1:(0x10000000000000000-x)%0x10000000000000000<0x10000000000000000:=Nat.mod_lt _ (by omega)
 rw[top_xor,top_or]
 by_cases h0:x=0
 ·subst h0;rfl
 ·rw[if_neg h0]
  have h2:(0x10000000000000000-x)%0x10000000000000000=0x10000000000000000-x:=Nat.mod_eq_of_lt (by omega)
  rw[h2]
  rcases bit2 x h with e|e
  ·have:(0x10000000000000000-x)/9223372036854775808=1:=by omega
   rw[e,this];rfl
  ·rcases bit2 (0x10000000000000000-x) (by omega)with e2|e2<;>rw[e,e2]<;>rfl
end Mk
namespace Go.Proofs.YtdhmihfefgcbeaaGreat
open Go.Vg
set_option maxRecDepth 200000
set_option cbv.maxSteps 100000000
theorem tword{P:Program}(hP:P=Tryz.prog)(m a b r:Int)(hr:r=intBin .or .u64 (intBin .and .u64 a m) (intBin .andNot .u64 b m)):Con P 146 [.agg [.int .u64 m],.int .u64 a,.int .u64 b] [] 0 [] (fun v _ _=>v= .int .u64 r):=by
 refine cof hP Tryz.func146 ⟨⟨trivial,trivial⟩,trivial,trivial,trivial⟩ (by simp) ?_
 intro A g K hA hg hK
 obtain⟨bin⟩:=A
 cbv
 have e1:bin=intBin:=bin_of hA
 refine hK _ _ _ ?_
 rw[hr,e1]
 rfl
theorem tnat{P:Program}(hP:P=Tryz.prog)(m:Int)(a b r:Nat->Int)
 (hr:∀k,k<9->r k=intBin .or .u64 (intBin .and .u64 (a k) m) (intBin .andNot .u64 (b k) m)):
 Con P 145 [.fn (.func 146) [.agg [.int .u64 m]] [],.agg (lst .u64 a 0 9),.agg (lst .u64 b 0 9)] [] 0 [] (fun v _ _=>v= .agg (lst .u64 r 0 9)):=by
 obtain⟨c,rfl,c9,c1,c2⟩:∃c:Nat->Nat->Int,c 0=a/\lst .u64 (c 9) 0 9=lst .u64 r 0 9/\(∀k,k<9->c k k=a k)/\∀k,k<9->Vg.splice (lst .u64 (c k) 0 9) k [.int .u64 (r k)]=lst .u64 (c (k+1)) 0 9:=by
  refine⟨fun k j=>if j<k then r j else a j,funext fun j=>by simp,lcg fun j _ h=>by simp;omega,fun k _=>by simp,fun k hk=>lst_set hk (by simp) fun j _ h1 h2=> ?_⟩
  by_cases h:j<k
  ·simp[h,show j<k+1 by omega]
  ·simp[h,show ¬j<k+1 by omega]
 refine cof hP Tryz.func145 ⟨⟨⟨⟨trivial,trivial⟩,trivial⟩,trivial⟩,bdb _ rfl,bdb _ rfl,trivial⟩ (by simp) ?_
 intro A g K hA hg hK
 obtain⟨bin,_,cmp,_,_,ix,_,_,_,_,_,_,_,_,_,off,get,_,_,spl⟩:=A
 cbv
 refine⟨Nat,fun k=>k<=9,fun k=>9-k,fun k=> [(0,.fn (.func 146) [.agg [.int .u64 m]] []),(4,.ptr 0 0),(5,.ptr 1 0),(6,.ptr 2 0),(8,.int .i64 k)],fun k=> [⟨0,lst .u64 (c k) 0 9,25⟩,⟨1,lst .u64 b 0 9,25⟩,
  ⟨2,lst .u64 (fun _=>0) 0 9,25⟩],3,⟨0,id,by omega,?_⟩,?_⟩
 ·exact weak_id ⟨rfl,rfl,rfl,rfl,rfl,rfl,rfl,rfl,rfl,rfl,trivial⟩ ⟨rfl,rfl,rfl,rfl,rfl,rfl,rfl,rfl,rfl,trivial⟩ rfl rfl
 intro k hk
 by_cases hlt:k<9
 ·have e1:cmp .lss (.ofNat k) 9=true:=by
   refine(lss_of hA _ _).trans ?_;exact decide_eq_true (by simp;omega)
  have e2:ix (.ofNat k) 9=some k:=ix_of hA hlt
  have e3:off 0 k 1=k:=(off_of hA 0 k 1).trans (by omega)
  have e4:get (lst .u64 (c k) 0 9) k=some (.int .u64 (c 0 k)):=(get_of hA _ _).trans (by rw[lst_get _ _ hlt,Nat.zero_add,c1 k hlt])
  have e5:get (lst .u64 b 0 9) k=some (.int .u64 (b k)):=(get_of hA _ _).trans (by rw[lst_get _ _ hlt,Nat.zero_add])
  have e6:spl (lst .u64 (c k) 0 9) k [.int .u64 (r k)]=some (lst .u64 (c (k+1)) 0 9):=(spl_of hA (by rw[lle];exact hlt) _).trans (by rw[c2 k hlt])
  have e7:bin .add .i64 (.ofNat k) 1=Int.ofNat (k+1):=add_of hA (by omega)
  simp only[lst,Nat.reduceAdd]at e4 e5 e6
  cbv
  rw[e1]
  cbv
  refine rgM hP hA hg fun mk _=> ?_
  cbv
  rw[e2]
  cbv
  rw[e3,e4]
  cbv
  rw[e2]
  cbv
  rw[e3,e5]
  cbv
  refine sdv hg (tword hP _ _ _ _ (hr k hlt)) ?_
  cbv
  rw[e2]
  cbv
  rw[e3,e6]
  cbv
  rw[e7]
  refine⟨k+1,id,hlt,(by show 9-(k+1)<9-k;omega),?_⟩
  exact weak_id ⟨rfl,rfl,rfl,rfl,rfl,rfl,rfl,rfl,rfl,rfl,trivial⟩ ⟨rfl,rfl,rfl,rfl,rfl,rfl,rfl,rfl,rfl,trivial⟩ rfl rfl
 ·have e1:cmp .lss (.ofNat k) 9=false:=by
   refine(lss_of hA _ _).trans ?_;exact decide_eq_false (by simp;omega)
  obtain rfl:k=9:=by omega
  cbv
  rw[e1]
  cbv
  exact hK _ _ _ (congrArg SV.agg c9)
end Go.Proofs.YtdhmihfefgcbeaaGreat
namespace Go.Proofs.YtdhmihfefgcbeaaGreat
open Go.Vg Go.RowKit Mk
set_option maxRecDepth 200000
set_option cbv.maxSteps 100000000
def mskN(c:Bool):Nat:=if c then 0xffffffffffffffff else 0
theorem negW{A:Ar}(hA:A=Ar.real)(n:Nat)(h:n<0x10000000000000000):A.una .neg .u64 (Int.ofNat n)=Int.ofNat ((0x10000000000000000-n)%0x10000000000000000):=by
 rw[neg_of hA]
 show IntKind.u64.wrap (0-(n:Int))=_
 simp[IntKind.wrap,IntKind.signed,IntKind.bits]
 omega
theorem cSpread{P:Program}(hP:P=Tryz.prog)(c:Bool)(x r:Nat)(hx:x=if c then 1 else 0)(hr:r=mskN c):Con P 160 [.int .u64 (.ofNat x)] [] 0 [] (fun v _ _=>v= .int .u64 (.ofNat r)):=by
 obtain rfl:r=(0x10000000000000000-x)%0x10000000000000000:=by rw[hr,hx];cases c<;>rfl
 have hx1:x&&&1=x:=by rw[hx];cases c<;>rfl
 have hx2:x<0x10000000000000000:=by rw[hx];cases c<;>decide
 obtain⟨r,hr⟩:=exq ((0x10000000000000000-x)%0x10000000000000000)
 refine cof hP Tryz.func160 (bdb _ rfl) (bkb rfl) ?_
 intro A g K hA hg hK
 obtain⟨bin,_,_,una⟩:=A
 have e1:bin .and .u64 (.ofNat x) 1=Int.ofNat x:=(andW hA (k:= .u64) rfl (a:=x) (b:=1) hx2 (by decide)).trans (by rw[hx1])
 have e2:una .neg .u64 (Int.ofNat x)=Int.ofNat r:=(negW hA x hx2).trans (by rw[hr])
 rw[<-hr]at hK
 cbv
 rw[e1,e2]
 exact hK _ _ _ rfl
theorem cMZero{P:Program}(hP:P=Tryz.prog)(x r:Nat)(hx:x<0x10000000000000000)(hr:r=mskN (decide (x=0))):Con P 144 [.int .u64 (.ofNat x)] [] 0 [] (fun v _ _=>v= .int .u64 (.ofNat r)):=by
 obtain⟨n,hn⟩:=exq ((0x10000000000000000-x)%0x10000000000000000)
 have hn2:n<0x10000000000000000:=by omega
 obtain⟨o,ho⟩:=exq (x|||n)
 have ho2:o<0x10000000000000000:=by rw[ho];exact Nat.or_lt_two_pow (n:=64) hx hn2
 obtain⟨t,ht⟩:=exq (0xffffffffffffffff^^^o)
 have ht2:t<0x10000000000000000:=by rw[ht];exact Nat.xor_lt_two_pow (n:=64) (by decide) ho2
 obtain⟨b,hb⟩:=exq (t/9223372036854775808)
 have hS:=cSpread hP (decide (x=0)) b r (by
  rw[hb,ht,ho,hn,zero_bit x hx];by_cases h:x=0<;>simp[h]) hr
 refine cof hP Tryz.func144 (bdb _ rfl) (bkb rfl) ?_
 intro A g K hA hg hK
 obtain⟨bin,sh,_,una⟩:=A
 have e1:una .neg .u64 (Int.ofNat x)=Int.ofNat n:=(negW hA x hx).trans (by rw[hn])
 have e2:bin .or .u64 (.ofNat x) (.ofNat n)=Int.ofNat o:=(orW hA (k:= .u64) rfl (a:=x) (b:=n) hx hn2).trans (by rw[ho])
 have e3:una .xor .u64 (Int.ofNat o)=Int.ofNat t:=((not_of hA _).trans ((congrFun (congrFun (congrFun (congrFun (bin_of hA) .xor) .u64) 0xffffffffffffffff) (Int.ofNat o)).symm.trans (xorW hA (k:= .u64) rfl (a:=0xffffffffffffffff) (b:=o) (by decide) ho2))).trans (by rw[ht])
 have e4:sh .shr .u64 (.ofNat t) 63=Int.ofNat b:=(shrI hA (k:= .u64) (a:=t) (b:=63) (by decide)).trans (by rw[hb])
 cbv
 rw[e1,e2,e3,e4]
 cbv
 refine cva rfl hg rfl rfl hS ?_
 rintro _ _ _ rfl
 cbv
 exact hK _ _ _ rfl
theorem cMEqual{P:Program}(hP:P=Tryz.prog)(x y r:Nat)(hx:x<0x10000000000000000)(hy:y<0x10000000000000000)(hr:r=mskN (decide (x=y))):Con P 123 [.int .u64 (.ofNat x),.int .u64 (.ofNat y)] [] 0 [] (fun v _ _=>v= .int .u64 (.ofNat r)):=by
 obtain⟨o,ho⟩:=exq (x^^^y)
 have ho2:o<0x10000000000000000:=by rw[ho];exact Nat.xor_lt_two_pow (n:=64) hx hy
 have hZ:=cMZero hP o r ho2 (by
  rw[hr,ho];congr 1;refine decide_eq_decide.2 ⟨fun h=>by rw[h,Nat.xor_self],fun h=> ?_⟩
  have h2:x^^^y^^^y=y:=by rw[h,Nat.zero_xor]
  rwa [Nat.xor_assoc,Nat.xor_self,Nat.xor_zero]at h2)
 refine cof hP Tryz.func123 (bdb _ rfl) (bkb rfl) ?_
 intro A g K hA hg hK
 obtain⟨bin⟩:=A
 have e1:bin .xor .u64 (.ofNat x) (.ofNat y)=Int.ofNat o:=(xorW hA (k:= .u64) rfl (a:=x) (b:=y) hx hy).trans (by rw[ho])
 cbv
 rw[e1]
 cbv
 refine cva rfl hg rfl rfl hZ ?_
 rintro _ _ _ rfl
 cbv
 exact hK _ _ _ rfl
theorem pick_word(c:Bool)(a b:Nat)(ha:a<0x10000000000000000)(hb:b<0x10000000000000000):Int.ofNat (if c then a else b)=intBin .or .u64 (intBin .and .u64 (Int.ofNat a) (Int.ofNat (mskN c))) (intBin .andNot .u64 (Int.ofNat b) (Int.ofNat (mskN c))):=by
 have hand:=andW (A:=Ar.real) rfl (k:= .u64) rfl (a:=a) (b:=mskN c) ha (by cases c<;>decide)
 have hnot:intBin .andNot .u64 (Int.ofNat b) (Int.ofNat (mskN c))=Int.ofNat (if c then 0 else b):=by
  show IntKind.u64.wrap ((BitVec.ofInt 64 (Int.ofNat b)&&& ~~~ (BitVec.ofInt 64 (Int.ofNat (mskN c)))).toNat:Nat)=_
  cases c with
  |true=>
   have:BitVec.ofInt 64 (Int.ofNat (mskN true))=BitVec.allOnes 64:=by decide
   rw[this];simp[IntKind.wrap,IntKind.signed,IntKind.bits]
  |false=>
   have:BitVec.ofInt 64 (Int.ofNat (mskN false))=0#64:=by decide
   rw[this,show ~~~(0#64)=BitVec.allOnes 64 from by decide,BitVec.and_allOnes]
   simp[IntKind.wrap,IntKind.signed,IntKind.bits]
   omega
 rw[hnot,show intBin .and .u64 (Int.ofNat a) (Int.ofNat (mskN c))=_ from hand]
 cases c with
 |true=>
  have h1:a&&&mskN true=a:=by
   show a&&&2^64-1=a
   rw[Nat.and_two_pow_sub_one_eq_mod,Nat.mod_eq_of_lt ha]
  rw[h1]
  exact((orW (A:=Ar.real) rfl (k:= .u64) rfl (a:=a) (b:=0) ha (by decide)).trans (by simp)).symm
 |false=>
  have h1:a&&&mskN false=0:=by show a&&&0=0;simp
  rw[h1]
  exact((orW (A:=Ar.real) rfl (k:= .u64) rfl (a:=0) (b:=b) (by decide) hb).trans (by simp)).symm
theorem cSelect{P:Program}(hP:P=Tryz.prog)(c:Bool)(m:Nat)(hm:m=mskN c)(a b r:Nat->Nat)(ha:Wn 9 a)(hb:Wn 9 b)(hr:r=if c then a else b):
 Con P 124 [.int .u64 (.ofNat m),.agg (ws a 9),.agg (ws b 9)] [] 0 [] (fun v _ _=>v= .agg (ws r 9)):=by
 have hN:=tnat hP (Int.ofNat m) (fun j=>Int.ofNat (a j)) (fun j=>Int.ofNat (b j)) (fun j=>Int.ofNat (r j)) (fun k hk=>by
  rw[hm,hr,<-pick_word c (a k) (b k) (ha k hk) (hb k hk)];cases c<;>rfl)
 clear hr
 refine cof hP Tryz.func124 (bdb _ rfl) (bkb rfl) ?_
 intro A g K hA hg hK
 cases A
 cbv
 refine cva rfl hg rfl rfl hN ?_
 rintro _ _ _ rfl
 refine⟨by simp[bd,bdL,lst],?_⟩
 cbv
 exact hK _ _ _ rfl
end Go.Proofs.YtdhmihfefgcbeaaGreat
namespace EC
variable {p:Nat}[NeZero p]
structure Fld(p:Nat)[NeZero p]:Prop where
 nzd:∀x y:Fin p,x*y=0->x=0\/y=0
 two:∀x:Fin p,x+x=0->x=0
 inv:∀x:Fin p,x≠0->∃y,x*y=1
def Sl(a x1 y1 x2 y2 l:Fin p):Prop:=y2-y1=l*(x2-x1)/\l*(y1+y2)=x1*x1+x1*x2+x2*x2+a
def On(a b x y:Fin p):Prop:=y*y=x*x*x+a*x+b
theorem Sl.symm{a x1 y1 x2 y2 l:Fin p}(h:Sl a x1 y1 x2 y2 l):Sl a x2 y2 x1 y1 l:=by
 obtain⟨h1,h2⟩:=h
 constructor<;>grobner
def Th(x1 y1 x2 l x4 y4:Fin p):Prop:=x4=l*l-x1-x2/\y4=l*(x1-x4)-y1
theorem Th.symm{a x1 y1 x2 y2 l x4 y4:Fin p}(h:Sl a x1 y1 x2 y2 l)(t:Th x1 y1 x2 l x4 y4):Th x2 y2 x1 l x4 y4:=by
 obtain⟨h1,h2⟩:=h
 obtain⟨t1,t2⟩:=t
 constructor<;>grobner
theorem Th.on{a b x1 y1 x2 y2 l x4 y4:Fin p}(h:Sl a x1 y1 x2 y2 l)(t:Th x1 y1 x2 l x4 y4)(hb:On a b x1 y1):On a b x4 y4:=by
 obtain⟨h1,h2⟩:=h
 obtain⟨t1,t2⟩:=t
 unfold On at *
 subst t1;subst t2;grobner
theorem Th.back{a x1 y1 x2 y2 l x4 y4:Fin p}(h:Sl a x1 y1 x2 y2 l)(t:Th x1 y1 x2 l x4 y4):l*(y1-y4)=x1*x1+x1*x4+x4*x4+a:=by
 obtain⟨h1,h2⟩:=h
 obtain⟨t1,t2⟩:=t
 subst t1;subst t2;grobner
theorem Th.sub{a x1 y1 x2 y2 l x4 y4:Fin p}(h:Sl a x1 y1 x2 y2 l)(t:Th x1 y1 x2 l x4 y4):Sl a x4 y4 x2 (-y2) (-l)/\Th x4 y4 x2 (-l) x1 y1:=by
 have t':=t.symm h
 have hb:=t'.back h.symm
 obtain⟨h1,h2⟩:=h
 obtain⟨t1,t2⟩:=t
 obtain⟨t3,t4⟩:=t'
 refine⟨⟨?_,?_⟩,?_,?_⟩
 ·clear h1 h2 t1 t2 t3 hb;grobner
 ·clear h1 h2 t1 t2 t3;grobner
 ·clear h1 h2 t2 t4 hb t1;grobner
 ·clear h1 h2 hb t1 t3 t4;grobner
def Opp(x1 y1 x2 y2:Fin p):Prop:=x1=x2/\y2= -y1
section
variable (F:Fld p)
include F
theorem cancel{x y z:Fin p}(hx:x≠0)(h:x*y=x*z):y=z:=by
 have:x*(y-z)=0:=by grobner
 rcases F.nzd _ _ this with h|h
 ·exact(hx h).elim
 ·grobner
theorem sq_eq{x y:Fin p}(h:x*x=y*y):x=y\/x= -y:=by
 have:(x-y)*(x+y)=0:=by grobner
 rcases F.nzd _ _ this with h|h
 ·left;grobner
 ·right;grobner
theorem Sl.ex{a b x1 y1 x2 y2:Fin p}(h1:On a b x1 y1)(h2:On a b x2 y2)(no:¬Opp x1 y1 x2 y2):∃l,Sl a x1 y1 x2 y2 l:=by
 unfold On at h1 h2
 by_cases hx:x1=x2
 ·subst hx
  have hy:y2=y1:=by
   rcases sq_eq F (x:=y2) (y:=y1) (by grobner)with h|h
   ·exact h
   ·exact(no ⟨rfl,h⟩).elim
  subst hy
  have h2y:y2+y2≠0:=by
   intro h
   have:=F.two _ h
   exact no ⟨rfl,by grobner⟩
  obtain⟨i,hi⟩:=F.inv _ h2y
  exact⟨i*(x1*x1+x1*x1+x1*x1+a),by grobner,by grobner⟩
 ·have hd:x2-x1≠0:=by intro h;exact hx (by grobner)
  obtain⟨i,hi⟩:=F.inv _ hd
  refine⟨i*(y2-y1),by grobner,?_⟩
  apply cancel F hd
  grobner
end
theorem fP(x1 y1 l1 l2 a x4 y4:Fin p)(h:l1*(y1-y4)=x1*x1+x1*x4+x4*x4+a)(h5:y4=l1*(x1-x4)-y1):
 x1*x1+(x4+l1*l2)*x1-(l1+l2)*y1+(x4*x4+a+(l1-l2)*y4-l1*l2*x4)=0:=by grobner
theorem fR(x3 y3 l1 l2 a x4 y4:Fin p)(h:Sl a x4 y4 x3 y3 l2):
 x3*x3+(x4+l1*l2)*x3-(l1+l2)*y3+(x4*x4+a+(l1-l2)*y4-l1*l2*x4)=0:=by
 obtain⟨h1,h2⟩:=h
 grobner
theorem eA1{x1 y1 x5 y5 m1 m2:Fin p}(k1:y5-y1=m2*(x5-x1))(u2:y5=m1*(x1-x5)-y1):(m1+m2)*(x5-x1)= -(y1+y1):=by grobner
theorem eA2{a x1 y1 x3 y3 x5 l1 m1:Fin p}(h2:l1*(y1+y1)=x1*x1+x1*x1+x1*x1+a)(g1:y3-y1=m1*(x3-x1))(g2:m1*(y1+y3)=x1*x1+x1*x3+x3*x3+a)
 (u1:x5=m1*m1-x1-x3):(y1+y1)*(m1-l1)=(x3-x1)*(x1-x5):=by
 obtain rfl:y3=y1+m1*(x3-x1):=by clear h2 g2 u1;grobner
 obtain rfl:a=l1*(y1+y1)-x1*x1-x1*x1-x1*x1:=by clear g1 g2 u1;grobner
 subst u1;clear g1 h2
 grobner
theorem eA3{y1 z d x x3 x1 m l:Fin p}(e1:z*d= -(y1+y1))(e2:(y1+y1)*(m-l)=(x3-x1)*x)(e:x= -d):d*(z*(m-l))=d*(x3-x1):=by grobner
theorem eA4{x1 x3 x4 x5 l1 l2 m1 m2:Fin p}(e:(m1+m2)*(m1-l1)=x3-x1)(t:x4=l1*l1-x1-x1)(u:x5=m1*m1-x1-x3):
 (x4+l1*l2)-(x5+m1*m2)=((l1+l2)-(m1+m2))*l1:=by grobner
theorem eC{a x1 y1 x2 y2 x3 y3 l x4:Fin p}(h1:y2-y1=l*(x2-x1))(h2:l*(y1+y2)=x1*x1+x1*x2+x2*x2+a)
 (g1:y3-y2=l*(x3-x2)) (g2:l*(y2+y3)=x2*x2+x2*x3+x3*x3+a) (t:x4=l*l-x1-x2):(x3-x1)*(x3-x4)=0:=by
 obtain rfl:y1=y2-l*(x2-x1):=by clear h2 g1 g2 t;grobner
 obtain rfl:y3=y2+l*(x3-x2):=by clear h2 h1 g2 t;grobner
 obtain rfl:a=l*(y2-l*(x2-x1)+y2)-x1*x1-x1*x2-x2*x2:=by clear h1 g1 g2 t;grobner
 subst t;clear h1 g1 h2
 grobner
theorem eA5{x1 x2 y1 y2 A B k A' B' k' l:Fin p}(f1:x1*x1+A*x1-B*y1+k=0)(f2:x2*x2+A*x2-B*y2+k=0)
 (g1:x1*x1+A'*x1-B'*y1+k'=0) (g2:x2*x2+A'*x2-B'*y2+k'=0) (h:y2-y1=l*(x2-x1)):(x2-x1)*(A-A')=(x2-x1)*((B-B')*l):=by
 obtain rfl:y2=y1+l*(x2-x1):=by clear f1 f2 g1 g2;grobner
 obtain rfl:k= -(x1*x1+A*x1-B*y1):=by clear f2 g1 g2 h;grobner
 obtain rfl:k'= -(x1*x1+A'*x1-B'*y1):=by clear f2 f1 g2 h;grobner
 clear h f1 g1
 have:(x2-x1)*(A-A')-(x2-x1)*((B-B')*l)=(x2*x2+A*x2-B*(y1+l*(x2-x1))+ -(x1*x1+A*x1-B*y1))-(x2*x2+A'*x2-B'*(y1+l*(x2-x1))+ -(x1*x1+A'*x1-B'*y1)):=by clear f2 g2;grobner
 rw[f2,g2]at this
 clear f2 g2
 grobner
theorem eD1{x4 x5 s t P Q l m:Fin p}(hA:(x4+P)-(x5+Q)=(s-t)*l)(hB:(x5+Q)-(x4+P)=(t-s)*m):(l-m)*(s-t)=0:=by grobner
theorem eD2{x1 x2 x3 x4 x5 l1 l2 m1 m2 xu xv:Fin p}(t:x4=l1*l1-x1-x2)(u:x5=m1*m1-x2-x3)(v:xu=l2*l2-x4-x3)(w:xv=m2*m2-x1-x5)
 (d1:l1+l2=m1+m2) (d2:x4+l1*l2=x5+m1*m2):xu=xv:=by
 have:(l1+l2)*(l1+l2)=(m1+m2)*(m1+m2):=by rw[d1]
 clear d1
 grobner
theorem eE1{x k A B y z k':Fin p}(h:x*x+A*x-B*(-y)+k=0)(g:x*x+A*x-B*(-z)+k'=0)(e:k=k'):B*y=B*z:=by grobner
theorem eE2{x y A B k k':Fin p}(h:x*x+A*x-B*y+k=0)(g:x*x+A*x-B*y+k'=0):k=k':=by grobner
theorem eE3{x1 x2 x3 x4 y1 y3 l1 l2 k:Fin p}(h1:x1*x1+(x4+l1*l2)*x1-(l1+l2)*y1+k=0)(h3:x3*x3+(x4+l1*l2)*x3-(l1+l2)*y3+k=0)
 (z:l1+l2=0) (t:x4=l1*l1-x1-x2):(x3-x1)*(x3-x2)=0:=by
 have:l2= -l1:=by clear h1 h3 t;grobner
 subst this;clear z;subst t;grobner
section
variable (F:Fld p)
include F
theorem stepA{a x1 y1 x2 y2 x3 y3 l1 l2 m1 m2 x4 y4 x5 y5:Fin p}
 (hl1:Sl a x1 y1 x2 y2 l1) (t4:Th x1 y1 x2 l1 x4 y4)
 (hm1:Sl a x2 y2 x3 y3 m1) (t5:Th x2 y2 x3 m1 x5 y5) (hm2:Sl a x1 y1 x5 y5 m2)
 (n12:¬Opp x1 y1 x2 y2):
 (x4+l1*l2)-(x5+m1*m2)=((l1+l2)-(m1+m2))*l1:=by
 by_cases hx:x1=x2
 ·subst hx
  have hy:y2=y1:=by have:=hl1.1;grobner
  subst hy
  have e1:=eA1 hm2.1 t5.2
  have e2:=eA2 hl1.2 hm1.1 hm1.2 t5.1
  have hne:x5-x1≠0:=by
   intro h0
   have:y2+y2=0:=by rw[h0]at e1;clear e2;grobner
   have:=F.two _ this
   exact n12 ⟨rfl,by grobner⟩
  exact eA4 (cancel F hne (eA3 e1 e2 (by grobner))) t4.1 t5.1
 ·have hd:x2-x1≠0:=by intro h;exact hx (by grobner)
  exact cancel F hd (eA5 (fP _ _ l1 l2 _ _ _ (t4.back hl1) t4.2) (fP _ _ l1 l2 _ _ _ ((t4.symm hl1).back hl1.symm) (t4.symm hl1).2)
   (fR _ _ m1 m2 _ _ _ hm2.symm) (fP _ _ m1 m2 _ _ _ (t5.back hm1) t5.2) hl1.1)
theorem stepC{a x1 y1 x2 y2 x3 y3 l x4 y4:Fin p}(hl:Sl a x1 y1 x2 y2 l)(t4:Th x1 y1 x2 l x4 y4)
 (hm:Sl a x2 y2 x3 y3 l) (ne:¬ (x3=x1/\y3=y1)) (n43:¬Opp x4 y4 x3 y3):False:=by
 have e1:(x3-x1)*(x3-x4)=0:=by
  exact eC hl.1 hl.2 hm.1 hm.2 t4.1
 rcases F.nzd _ _ e1 with h|h
 ·apply ne
  have:x3=x1:=by grobner
  subst this
  refine⟨rfl,?_⟩
  have:=hl.1
  have:=hm.1
  grobner
 ·apply n43
  have:x3=x4:=by grobner
  subst this
  refine⟨rfl,?_⟩
  have:=(t4.symm hl).2
  have:=hm.1
  grobner
theorem assocGen{a b x1 y1 x2 y2 x3 y3 l1 l2 m1 m2 x4 y4 x5 y5 xu yu xv yv:Fin p}(o1:On a b x1 y1)(o3:On a b x3 y3)
 (hl1:Sl a x1 y1 x2 y2 l1) (t4:Th x1 y1 x2 l1 x4 y4) (hl2:Sl a x4 y4 x3 y3 l2) (tu:Th x4 y4 x3 l2 xu yu)
 (hm1:Sl a x2 y2 x3 y3 m1) (t5:Th x2 y2 x3 m1 x5 y5) (hm2:Sl a x1 y1 x5 y5 m2) (tv:Th x1 y1 x5 m2 xv yv)
 (n12:¬Opp x1 y1 x2 y2) (n43:¬Opp x4 y4 x3 y3) (n23:¬Opp x2 y2 x3 y3) (ne:¬ (x3=x1/\y3=y1)) (no:¬Opp x1 y1 x3 y3):
 xu=xv/\yu=yv:=by
 have n32:¬Opp x3 y3 x2 y2:=by
  rintro⟨e1,e2⟩
  exact n23 ⟨e1.symm,by grobner⟩
 have hA:=stepA F (l2:=l2) hl1 t4 hm1 t5 hm2 n12
 have hB:=stepA F (l2:=m2) hm1.symm (t5.symm hm1) hl1.symm (t4.symm hl1) hl2.symm n32
 have hlm:l1-m1≠0:=by
  intro h
  have:m1=l1:=by clear hA hB;grobner
  subst this
  exact stepC F hl1 t4 hm1 ne n43
 have d1:l1+l2=m1+m2:=by
  rcases F.nzd _ _ (eD1 hA hB)with h|h
  ·exact(hlm h).elim
  ·generalize eD1 hA hB=q at *;clear q hA hB;grobner
 have d2:x4+l1*l2=x5+m1*m2:=by
  rw[d1]at hA
  clear hB
  grobner
 have hx:xu=xv:=eD2 t4.1 t5.1 tu.1 tv.1 d1 d2
 refine⟨hx,?_⟩
 subst hx
 have fu:=fR xu (-yu) l1 l2 a x4 y4 (by
  have b1:=tu.back hl2
  have c1:=tu.2
  refine⟨?_,?_⟩
  ·clear b1;grobner
  ·clear c1;grobner)
 have fv:=fR xu (-yv) m1 m2 a x5 y5 (by
  have b1:=(tv.symm hm2).back hm2.symm
  have c1:=(tv.symm hm2).2
  refine⟨?_,?_⟩
  ·clear b1;grobner
  ·clear c1;grobner)
 have p1:=fP x1 y1 l1 l2 _ _ _ (t4.back hl1) t4.2
 have p1':=fR x1 y1 m1 m2 _ _ _ hm2.symm
 have p3:=fR x3 y3 l1 l2 _ _ _ hl2
 have p3':=fP x3 y3 m1 m2 _ _ _ ((t5.symm hm1).back hm1.symm) (t5.symm hm1).2
 by_cases z:l1+l2=0
 ·exfalso
  have q13:x3≠x1:=by
   intro h
   subst h
   rcases sq_eq F (x:=y3) (y:=y1) (by unfold On at o1 o3;rw[o1,o3])with h|h
   ·exact ne ⟨rfl,h⟩
   ·exact no ⟨rfl,h⟩
  have q23:x3=x2:=by
   rcases F.nzd _ _ (eE3 p1 p3 z t4.1)with h|h
   ·exact(q13 (by grobner)).elim
   ·clear p1 p3 p1' p3' fu fv hA hB;grobner
  have q12:x1=x2:=by
   have z':m1+m2=0:=by rw[<-d1];exact z
   rcases F.nzd _ _ (eE3 p3' p1' z' (t5.symm hm1).1)with h|h
   ·exact(q13 (by clear p1 p3 p1' p3' fu fv hA hB;grobner)).elim
   ·clear p1 p3 p1' p3' fu fv hA hB;grobner
  exact q13 (q23.trans q12.symm)
 ·have pp:=p1'
  rw[<-d1,<-d2]at fv pp
  have k:=eE2 p1 pp
  exact cancel F z (eE1 fu fv k)
def No2(a b:Fin p):Prop:=∀x:Fin p,x*x*x+a*x+b≠0
end
inductive Pt (p:Nat) where
 |O
 |A (x y:Fin p)
 deriving DecidableEq
open Pt
def OnC(a b:Fin p):Pt p->Prop
 |O=>True
 |A x y=>On a b x y
def neg:Pt p->Pt p
 |O=>O
 |A x y=>A x (-y)
def add(i:Fin p->Fin p)(a:Fin p):Pt p->Pt p->Pt p
 |O,q=>q
 |q,O=>q
 |A x1 y1,A x2 y2=>
  if x1=x2 then
   if y1=y2/\y1≠0 then
    let l:=(x1*x1+x1*x1+x1*x1+a)*i (y1+y1)
    A (l*l-x1-x2) (l*(x1-(l*l-x1-x2))-y1)
   else O
  else
   let l:=(y2-y1)*i (x2-x1)
   A (l*l-x1-x2) (l*(x1-(l*l-x1-x2))-y1)
structure Ok(i:Fin p->Fin p)(a b:Fin p):Prop where
 F:Fld p
 n2:No2 a b
 inv:∀x:Fin p,x≠0->x*i x=1
section
variable {i:Fin p->Fin p}{a b:Fin p}(K:Ok i a b)
include K
theorem Ok.y0{x y:Fin p}(h:On a b x y):y≠0:=by
 intro e
 subst e
 unfold On at h
 exact K.n2 x (by rw[<-h];grobner)
theorem Ok.yy{x y:Fin p}(h:On a b x y):y≠ -y:=by
 intro e
 have:=K.F.two y (by grobner)
 exact K.y0 h this
theorem add_opp{x1 y1 x2 y2:Fin p}(h1:On a b x1 y1)(h:Opp x1 y1 x2 y2):add i a (A x1 y1) (A x2 y2)=O:=by
 obtain⟨e1,e2⟩:=h
 subst e1;subst e2
 have:=K.yy h1
 simp[add,this]
theorem add_sl{x1 y1 x2 y2 l:Fin p}(h1:On a b x1 y1)(h2:On a b x2 y2)(s:Sl a x1 y1 x2 y2 l)(no:¬Opp x1 y1 x2 y2):
 ∃x4 y4,add i a (A x1 y1) (A x2 y2)=A x4 y4/\Th x1 y1 x2 l x4 y4:=by
 by_cases hx:x1=x2
 ·subst hx
  have hy:y1=y2:=by have:=s.1;grobner
  subst hy
  have hi:=K.inv (y1+y1) (fun h=>K.y0 h1 (K.F.two _ h))
  have hl:(x1*x1+x1*x1+x1*x1+a)*i (y1+y1)=l:=by
   have:=s.2
   have e:(y1+y1)*((x1*x1+x1*x1+x1*x1+a)*i (y1+y1))=(y1+y1)*l:=by
    have e1:(y1+y1)*((x1*x1+x1*x1+x1*x1+a)*i (y1+y1))=((y1+y1)*i (y1+y1))*(x1*x1+x1*x1+x1*x1+a):=by clear hi;grobner
    rw[e1,hi,<-this];clear e1 hi this;grobner
   exact cancel K.F (fun h=>K.y0 h1 (K.F.two _ h)) e
  refine⟨_,_,by simp only[add,if_true];rw[if_pos ⟨trivial,K.y0 h1⟩],?_,?_⟩
  ·rw[hl]
  ·rw[hl]
 ·have hd:x2-x1≠0:=by intro h;exact hx (by grobner)
  have hi:=K.inv _ hd
  have hl:(y2-y1)*i (x2-x1)=l:=by
   have e:(x2-x1)*((y2-y1)*i (x2-x1))=(x2-x1)*l:=by
    have e1:(x2-x1)*((y2-y1)*i (x2-x1))=((x2-x1)*i (x2-x1))*(y2-y1):=by clear hi;grobner
    rw[e1,hi,s.1];clear e1 hi;grobner
   exact cancel K.F hd e
  refine⟨_,_,by simp only[add];rw[if_neg hx],?_,?_⟩
  ·rw[hl]
  ·rw[hl]
theorem add_cases{x1 y1 x2 y2:Fin p}(h1:On a b x1 y1)(h2:On a b x2 y2):
 (Opp x1 y1 x2 y2/\add i a (A x1 y1) (A x2 y2)=O)\/
 (¬Opp x1 y1 x2 y2/\∃l x4 y4,Sl a x1 y1 x2 y2 l/\Th x1 y1 x2 l x4 y4/\On a b x4 y4/\add i a (A x1 y1) (A x2 y2)=A x4 y4):=by
 by_cases no:Opp x1 y1 x2 y2
 ·exact .inl ⟨no,add_opp K h1 no⟩
 ·obtain⟨l,s⟩:=Sl.ex K.F h1 h2 no
  obtain⟨x4,y4,e,t⟩:=add_sl K h1 h2 s no
  exact .inr ⟨no,l,x4,y4,s,t,t.on s h1,e⟩
theorem add_on{P Q:Pt p}(h1:OnC a b P)(h2:OnC a b Q):OnC a b (add i a P Q):=by
 cases P with
 |O=>exact h2
 |A x1 y1=>
  cases Q with
  |O=>exact h1
  |A x2 y2=>
   rcases add_cases K h1 h2 with⟨_,e⟩|⟨_,l,x4,y4,_,_,o,e⟩
   ·rw[e];trivial
   ·rw[e];exact o
theorem add_comm'{P Q:Pt p}(h1:OnC a b P)(h2:OnC a b Q):add i a P Q=add i a Q P:=by
 cases P with
 |O=>cases Q<;>rfl
 |A x1 y1=>
  cases Q with
  |O=>rfl
  |A x2 y2=>
   rcases add_cases K h1 h2 with⟨n,e⟩|⟨n,l,x4,y4,s,t,o,e⟩
   ·rw[e,add_opp K h2 ⟨n.1.symm,by have:=n.2;grobner⟩]
   ·have n':¬Opp x2 y2 x1 y1:=fun h=>n ⟨h.1.symm,by have:=h.2;grobner⟩
    obtain⟨x5,y5,e',t'⟩:=add_sl K h2 h1 s.symm n'
    rw[e,e']
    have t2:=t.symm s
    obtain⟨u1,u2⟩:=t2
    obtain⟨v1,v2⟩:=t'
    have:x4=x5:=by rw[u1,v1]
    subst this
    rw[u2,v2]
omit K in
theorem neg_on{P:Pt p}(h:OnC a b P):OnC a b (neg P):=by
 cases P with
 |O=>trivial
 |A x y=>simp only[neg,OnC,On]at *;rw[<-h];clear h;grobner
theorem add_neg'{P:Pt p}(h:OnC a b P):add i a P (neg P)=O:=by
 cases P with
 |O=>rfl
 |A x y=>exact add_opp K h ⟨rfl,rfl⟩
theorem add_sub'{P Q:Pt p}(h1:OnC a b P)(h2:OnC a b Q):add i a (add i a P Q) (neg Q)=P:=by
 cases Q with
 |O=>cases P<;>rfl
 |A x2 y2=>
  cases P with
  |O=>exact add_neg' K (P:=A x2 y2) h2
  |A x1 y1=>
   rcases add_cases K h1 h2 with⟨n,e⟩|⟨n,l,x4,y4,s,t,o,e⟩
   ·rw[e]
    obtain⟨e1,e2⟩:=n
    subst e1;subst e2
    simp only[neg]
    show A x1 (- -y1)=A x1 y1
    have: - -y1=y1:=by grobner
    rw[this]
   ·rw[e]
    simp only[neg]
    obtain⟨s',t'⟩:=t.sub s
    have o2:On a b x2 (-y2):=neg_on (P:=A x2 y2) h2
    have n':¬Opp x4 y4 x2 (-y2):=by
     rintro⟨e1,e2⟩
     have e2':y4=y2:=by clear s t s' t';grobner
     subst e1;subst e2'
     have:=(t.symm s).2
     have z:y4+y4=0:=by clear s t s' t' e2;grobner
     exact K.y0 o (K.F.two _ z)
    obtain⟨x5,y5,e',t''⟩:=add_sl K o o2 s' n'
    rw[e']
    obtain⟨u1,u2⟩:=t'
    obtain⟨v1,v2⟩:=t''
    have:x5=x1:=by rw[u1,v1]
    subst this
    rw[v2,<-u2]
theorem neg_add'{P Q:Pt p}(h1:OnC a b P)(h2:OnC a b Q):neg (add i a P Q)=add i a (neg P) (neg Q):=by
 cases P with
 |O=>cases Q<;>rfl
 |A x1 y1=>
  cases Q with
  |O=>rfl
  |A x2 y2=>
   have o1:On a b x1 (-y1):=neg_on (P:=A x1 y1) h1
   have o2:On a b x2 (-y2):=neg_on (P:=A x2 y2) h2
   rcases add_cases K h1 h2 with⟨n,e⟩|⟨n,l,x4,y4,s,t,o,e⟩
   ·rw[e]
    simp only[neg]
    exact(add_opp K o1 ⟨n.1,by rw[n.2]⟩).symm
   ·rw[e]
    simp only[neg]
    have s':Sl a x1 (-y1) x2 (-y2) (-l):=by
     obtain⟨s1,s2⟩:=s
     refine⟨?_,?_⟩
     ·clear s2 t;grobner
     ·clear s1 t;grobner
    have n':¬Opp x1 (-y1) x2 (-y2):=by
     rintro⟨e1,e2⟩
     exact n ⟨e1,by clear s s' t;grobner⟩
    obtain⟨x5,y5,e',t'⟩:=add_sl K o1 o2 s' n'
    rw[e']
    obtain⟨u1,u2⟩:=t
    obtain⟨v1,v2⟩:=t'
    have:x5=x4:=by clear u2 v2 s s' o;grobner
    subst this
    congr 1
    clear s s' u1 v1
    grobner
theorem assoc'{P Q R:Pt p}(h1:OnC a b P)(h2:OnC a b Q)(h3:OnC a b R):
 add i a (add i a P Q) R=add i a P (add i a Q R):=by
 have nn:∀S:Pt p,neg (neg S)=S:=by
  intro S
  cases S with
  |O=>rfl
  |A x y=>simp only[neg];congr 1;grobner
 have oPQ:=add_on K h1 h2
 have oQR:=add_on K h2 h3
 -- S - T = U gives back
 by_cases c1:R=P
 ·subst c1
  rw[add_comm' K oPQ h3,add_comm' K h2 h3]
 by_cases c2:R=neg P
 ·subst c2
  have e1:add i a (add i a P Q) (neg P)=Q:=by rw[add_comm' K h1 h2];exact add_sub' K h2 h1
  rw[e1,add_comm' K h1 oQR]
  have:=add_sub' K h2 (neg_on h1)
  rw[nn]at this
  exact this.symm
 by_cases c3:R=neg Q
 ·subst c3
  rw[add_sub' K h1 h2,add_neg' K h2]
  cases P<;>rfl
 by_cases c4:Q=neg P
 ·subst c4
  rw[add_neg' K h1]
  have e:add i a P (add i a (neg P) R)=R:=by
   rw[add_comm' K h1 (add_on K h2 h3),add_comm' K h2 h3]
   have:=add_sub' K h3 (neg_on h1)
   rw[nn]at this
   exact this
  rw[e];rfl
 by_cases c5:R=neg (add i a P Q)
 ·rw[c5,add_neg' K oPQ,neg_add' K h1 h2]
  have e:add i a Q (add i a (neg P) (neg Q))=neg P:=by
   rw[add_comm' K h2 (add_on K (neg_on h1) (neg_on h2))]
   have:=add_sub' K (neg_on h1) (neg_on h2)
   rw[nn]at this
   exact this
  rw[e,add_neg' K h1]
 by_cases c6:P=neg (add i a Q R)
 ·rw[c6]
  have e:add i a (neg (add i a Q R)) Q=neg R:=by
   rw[neg_add' K h2 h3,add_comm' K (neg_on h2) (neg_on h3)]
   have:=add_sub' K (neg_on h3) (neg_on h2)
   rw[nn]at this
   exact this
  rw[e,add_comm' K (neg_on h3) h3,add_neg' K h3,add_comm' K (neg_on oQR) oQR,add_neg' K oQR]
 cases P with
 |O=>rfl
 |A x1 y1=>
  cases Q with
  |O=>rfl
  |A x2 y2=>
   cases R with
   |O=>rw[show add i a (A x2 y2) O=A x2 y2 from rfl];cases add i a (A x1 y1) (A x2 y2)<;>rfl
   |A x3 y3=>
    simp only[neg,A.injEq,not_and]at c1 c2 c3 c4
    have n12:¬Opp x1 y1 x2 y2:=fun h=>c4 h.1.symm h.2
    have n23:¬Opp x2 y2 x3 y3:=fun h=>c3 h.1.symm h.2
    have n13:¬Opp x1 y1 x3 y3:=fun h=>c2 h.1.symm h.2
    rcases add_cases K h1 h2 with⟨n,_⟩|⟨_,l1,x4,y4,s4,t4,o4,e4⟩
    ·exact(n12 n).elim
    rcases add_cases K h2 h3 with⟨n,_⟩|⟨_,m1,x5,y5,s5,t5,o5,e5⟩
    ·exact(n23 n).elim
    rw[e4]at c5⊢
    rw[e5]at c6⊢
    simp only[neg,A.injEq,not_and]at c5 c6
    have n43:¬Opp x4 y4 x3 y3:=fun h=>c5 h.1.symm h.2
    have n15:¬Opp x1 y1 x5 y5:=fun h=>c6 h.1 (by have:=h.2;grobner)
    rcases add_cases K o4 h3 with⟨n,_⟩|⟨_,l2,xu,yu,su,tu,ou,eu⟩
    ·exact(n43 n).elim
    rcases add_cases K h1 o5 with⟨n,_⟩|⟨_,m2,xv,yv,sv,tv,ov,ev⟩
    ·exact(n15 n).elim
    rw[eu,ev]
    obtain⟨q1,q2⟩:=assocGen K.F h1 h3 s4 t4 su tu s5 t5 sv tv n12 n43 n23 (fun h=>c1 h.1 h.2) n13
    rw[q1,q2]
end
end EC
/-! ## triples:one row of products for all of them-/
namespace EC
variable {p:Nat}[NeZero p]
structure Tr(p:Nat) where
 X:Fin p
 Y:Fin p
 Z:Fin p
 deriving DecidableEq
open Pt
def Rep:Tr p->Pt p->Prop
 |t,O=>t.X=0/\t.Z=0/\t.Y≠0
 |t,A x y=>t.Z≠0/\t.X=x*t.Z/\t.Y=y*t.Z
def tsum(a b3:Fin p)(s t:Tr p):Tr p:=
 let t0:=s.X*t.X
 let t1:=s.Y*t.Y
 let t2:=s.Z*t.Z
 let t3:=(s.X+s.Y)*(t.X+t.Y)-(t0+t1)
 let t4:=(s.X+s.Z)*(t.X+t.Z)-(t0+t2)
 let t5:=(s.Y+s.Z)*(t.Y+t.Z)-(t1+t2)
 let z:=b3*t2+a*t4
 let x:=t1-z
 let z:=t1+z
 let y:=x*z
 let t1:=t0+t0+t0
 let t2:=a*t2
 let t4:=b3*t4
 let t1:=t1+t2
 let t2:=a*(t0-t2)
 let t4:=t4+t2
 ⟨t3*x-t5*t4,y+t1*t4,t5*z+t3*t1⟩
def sX(a b x1 y1 x2 y2:Fin p):Fin p:=(x1*y2+x2*y1)*(y1*y2-((b+b+b)+a*(x1+x2)))-(y1+y2)*((b+b+b)*(x1+x2)+a*(x1*x2-a))
def sY(a b x1 y1 x2 y2:Fin p):Fin p:=(y1*y2-((b+b+b)+a*(x1+x2)))*(y1*y2+((b+b+b)+a*(x1+x2)))+(x1*x2+x1*x2+x1*x2+a)*((b+b+b)*(x1+x2)+a*(x1*x2-a))
def sZ(a b x1 y1 x2 y2:Fin p):Fin p:=(y1+y2)*(y1*y2+((b+b+b)+a*(x1+x2)))+(x1*y2+x2*y1)*(x1*x2+x1*x2+x1*x2+a)
theorem tsum_aff(a b:Fin p)(x1 y1 z1 x2 y2 z2:Fin p):
 tsum a (b+b+b) ⟨x1*z1,y1*z1,z1⟩ ⟨x2*z2,y2*z2,z2⟩=
  ⟨(z1*z2)*(z1*z2)*sX a b x1 y1 x2 y2,(z1*z2)*(z1*z2)*sY a b x1 y1 x2 y2,(z1*z2)*(z1*z2)*sZ a b x1 y1 x2 y2⟩:=by
 simp only[tsum,sX,sY,sZ,Tr.mk.injEq]
 refine⟨?_,?_,?_⟩<;>grobner
theorem tsum_O1(a b3:Fin p)(y1 x2 y2 z2:Fin p):tsum a b3 ⟨0,y1,0⟩ ⟨x2,y2,z2⟩=⟨y1*y1*y2*x2,y1*y1*y2*y2,y1*y1*y2*z2⟩:=by
 simp only[tsum,Tr.mk.injEq]
 refine⟨?_,?_,?_⟩<;>grobner
theorem tsum_O2(a b3:Fin p)(x1 y1 z1 y2:Fin p):tsum a b3 ⟨x1,y1,z1⟩ ⟨0,y2,0⟩=⟨y2*y2*y1*x1,y2*y2*y1*y1,y2*y2*y1*z1⟩:=by
 simp only[tsum,Tr.mk.injEq]
 refine⟨?_,?_,?_⟩<;>grobner
theorem s_sl{a b x1 y1 x2 y2 l x4 y4:Fin p}(o:On a b x1 y1)(s:Sl a x1 y1 x2 y2 l)(t:Th x1 y1 x2 l x4 y4):
 sX a b x1 y1 x2 y2=x4*sZ a b x1 y1 x2 y2/\sY a b x1 y1 x2 y2=y4*sZ a b x1 y1 x2 y2:=by
 obtain⟨s1,s2⟩:=s
 obtain⟨t1,t2⟩:=t
 unfold On at o
 obtain rfl:y2=y1+l*(x2-x1):=by clear s2 t1 t2 o;grobner
 obtain rfl:a=l*(y1+(y1+l*(x2-x1)))-(x1*x1+x1*x2+x2*x2):=by clear s1 t1 t2 o;grobner
 obtain⟨a',ha⟩:=exq (l*(y1+(y1+l*(x2-x1)))-(x1*x1+x1*x2+x2*x2))
 rw[<-ha]at o⊢
 obtain rfl:b=y1*y1-x1*x1*x1-a'*x1:=by clear s1 s2 t1 t2 ha;grobner
 clear o s1 s2
 subst t2;subst t1;subst ha
 unfold sX sY sZ
 refine⟨?_,?_⟩<;>grobner
theorem s_Z{a b x1 y1 x2 y2 m x6 y6:Fin p}(o:On a b x1 y1)(s:Sl a x1 y1 x2 (-y2) m)(t:Th x1 y1 x2 m x6 y6):
 sZ a b x1 y1 x2 y2=y6*((x2-x1)*(x2-x1)*(x2-x1)):=by
 obtain⟨s1,s2⟩:=s
 obtain⟨t1,t2⟩:=t
 unfold On at o
 obtain rfl:y2= -y1-m*(x2-x1):=by clear s2 t1 t2 o;grobner
 obtain rfl:a=m*(y1+(y1+m*(x2-x1)))-(x1*x1+x1*x2+x2*x2):=by clear s1 t1 t2 o;grobner
 obtain⟨a',ha⟩:=exq (m*(y1+(y1+m*(x2-x1)))-(x1*x1+x1*x2+x2*x2))
 rw[<-ha]at o⊢
 obtain rfl:b=y1*y1-x1*x1*x1-a'*x1:=by clear s1 s2 t1 t2 ha;grobner
 clear o s1 s2
 subst t2;subst t1;subst ha
 unfold sZ
 grobner
theorem s_Z2{a b x y:Fin p}(o:On a b x y):sZ a b x y x y=(y+y)*((y+y)*(y+y)):=by
 unfold On at o
 obtain rfl:b=y*y-x*x*x-a*x:=by grobner
 clear o
 unfold sZ;grobner
theorem s_opp{a b x y l x4 y4:Fin p}(o:On a b x y)(s:Sl a x y x y l)(t:Th x y x l x4 y4):
 sX a b x y x (-y)=0/\sZ a b x y x (-y)=0/\sY a b x y x (-y)=((y+y)*((y+y)*(y+y)))*y4:=by
 obtain⟨_,s2⟩:=s
 obtain⟨t1,t2⟩:=t
 unfold On at o
 obtain rfl:a=l*(y+y)-(x*x+x*x+x*x):=by clear t1 t2 o;grobner
 obtain⟨a',ha⟩:=exq (l*(y+y)-(x*x+x*x+x*x))
 rw[<-ha]at o⊢
 obtain rfl:b=y*y-x*x*x-a'*x:=by clear s2 t1 t2 ha;grobner
 clear o s2
 subst t2;subst t1;subst ha
 unfold sX sY sZ
 refine⟨?_,?_,?_⟩<;>grobner
section
variable {i:Fin p->Fin p}{a b:Fin p}(K:Ok i a b)
include K
theorem Ok.mul0{x y:Fin p}(hx:x≠0)(hy:y≠0):x*y≠0:=by
 intro h
 rcases K.F.nzd _ _ h with h|h
 ·exact hx h
 ·exact hy h
theorem Ok.yd{x y:Fin p}(h:On a b x y):y+y≠0:=fun e=>K.y0 h (K.F.two _ e)
theorem tsum_rep{s t:Tr p}{P Q:Pt p}(h1:OnC a b P)(h2:OnC a b Q)(r1:Rep s P)(r2:Rep t Q):
 Rep (tsum a (b+b+b) s t) (add i a P Q):=by
 obtain⟨X1,Y1,Z1⟩:=s
 obtain⟨X2,Y2,Z2⟩:=t
 cases P with
 |O=>
  obtain⟨e1,e2,e3⟩:=r1
  simp only at e1 e2 e3
  subst e1;subst e2
  rw[tsum_O1]
  cases Q with
  |O=>
   obtain⟨g1,g2,g3⟩:=r2
   simp only at g1 g2 g3
   subst g1;subst g2
   exact⟨by grobner,by grobner,K.mul0 (K.mul0 (K.mul0 e3 e3) g3) g3⟩
  |A x y=>
   obtain⟨g1,g2,g3⟩:=r2
   simp only at g1 g2 g3
   subst g2;subst g3
   exact⟨K.mul0 (K.mul0 (K.mul0 e3 e3) (K.mul0 (K.y0 h2) g1)) g1,by simp only;grobner,by simp only;grobner⟩
 |A x1 y1=>
  obtain⟨e1,e2,e3⟩:=r1
  simp only at e1 e2 e3
  subst e2;subst e3
  cases Q with
  |O=>
   obtain⟨g1,g2,g3⟩:=r2
   simp only at g1 g2 g3
   subst g1;subst g2
   rw[tsum_O2]
   exact⟨K.mul0 (K.mul0 (K.mul0 g3 g3) (K.mul0 (K.y0 h1) e1)) e1,by simp only;grobner,by simp only;grobner⟩
  |A x2 y2=>
   obtain⟨g1,g2,g3⟩:=r2
   simp only at g1 g2 g3
   subst g2;subst g3
   rw[tsum_aff]
   have hz:(Z1*Z2)*(Z1*Z2)≠0:=K.mul0 (K.mul0 e1 g1) (K.mul0 e1 g1)
   generalize (Z1*Z2)*(Z1*Z2)=z at hz⊢
   rcases add_cases K h1 h2 with⟨n,e⟩|⟨n,l,x4,y4,sl,th,o,e⟩
   ·rw[e]
    obtain⟨n1,n2⟩:=n
    subst n1;subst n2
    have no:¬Opp x1 y1 x1 y1:=fun h=>K.yy h1 h.2
    rcases add_cases K h1 h1 with⟨n,_⟩|⟨_,l,x4,y4,sl,th,o,_⟩
    ·exact(no n).elim
    obtain⟨q1,q2,q3⟩:=s_opp h1 sl th
    rw[q1,q2,q3]
    have hd:=K.yd h1
    exact⟨by grobner,by grobner,K.mul0 hz (K.mul0 (K.mul0 hd (K.mul0 hd hd)) (K.y0 o))⟩
   ·rw[e]
    obtain⟨q1,q2⟩:=s_sl h1 sl th
    have hZ:sZ a b x1 y1 x2 y2≠0:=by
     by_cases hx:x1=x2
     ·subst hx
      have hy:y2=y1:=by have:=sl.1;grobner
      subst hy
      have hd:=K.yd h1
      rw[s_Z2 h1]
      exact K.mul0 hd (K.mul0 hd hd)
     ·have h2':On a b x2 (-y2):=neg_on (P:=A x2 y2) h2
      have no:¬Opp x1 y1 x2 (-y2):=fun h=>hx h.1
      rcases add_cases K h1 h2' with⟨n,_⟩|⟨_,m,x6,y6,sm,tm,om,_⟩
      ·exact(no n).elim
      rw[s_Z h1 sm tm]
      have hd:x2-x1≠0:=by intro h;exact hx (by clear sl th sm tm q1 q2;grobner)
      exact K.mul0 (K.y0 om) (K.mul0 (K.mul0 hd hd) hd)
    refine⟨K.mul0 hz hZ,?_,?_⟩
    ·simp only;rw[q1];clear q1 q2 sl th hZ;grobner
    ·simp only;rw[q2];clear q1 q2 sl th hZ;grobner
end
end EC
namespace Pr
def Prime(p:Nat):Prop:=2<=p/\∀m,m∣p->m=1\/m=p
theorem Prime.coprime{p a:Nat}(hp:Prime p)(h:¬p∣a):Nat.Coprime p a:=by
 rcases hp.2 _ (Nat.gcd_dvd_left p a)with h1|h1
 ·exact h1
 ·exact(h (h1▸Nat.gcd_dvd_right p a)).elim
theorem Prime.dvd_mul{p a b:Nat}(hp:Prime p)(h:p∣a*b):p∣a\/p∣b:=by
 by_cases ha:p∣a
 ·exact .inl ha
 ·exact .inr ((hp.coprime ha).dvd_of_dvd_mul_left h)
theorem exists_prime(n:Nat):2<=n->∃q,Prime q/\q∣n:=by
 induction n using Nat.strongRecOn with
 |ind n ih=>
  intro hn
  by_cases hp:Prime n
  ·exact⟨n,hp,Nat.dvd_refl n⟩
  ·have:∃m,m∣n/\m≠1/\m≠n:=by
    apply Classical.byContradiction
    intro hno
    apply hp
    refine⟨hn,fun m hm=> ?_⟩
    by_cases h1:m=1
    ·exact .inl h1
    ·by_cases h2:m=n
     ·exact .inr h2
     ·exact(hno ⟨m,hm,h1,h2⟩).elim
   obtain⟨m,hm,h1,h2⟩:=this
   have hle:=Nat.le_of_dvd (by omega) hm
   have h0:m≠0:=by
    rintro rfl
    have:=Nat.eq_zero_of_zero_dvd hm
    omega
   obtain⟨q,hq,hqm⟩:=ih m (by omega) (by omega)
   exact⟨q,hq,Nat.dvd_trans hqm hm⟩
theorem prime_of_sqrt{n:Nat}(hn:2<=n)(h:∀q,Prime q->q∣n->n<q*q):Prime n:=by
 refine⟨hn,fun m hm=> ?_⟩
 by_cases h1:m=1
 ·exact .inl h1
 right
 obtain⟨c,hc⟩:=hm
 by_cases hc1:c=1
 ·subst hc1;omega
 exfalso
 have m0:m≠0:=by rintro rfl;simp at hc;omega
 have c0:c≠0:=by rintro rfl;simp at hc;omega
 obtain⟨q,hq,hqm⟩:=exists_prime m (by omega)
 obtain⟨r,hr,hrc⟩:=exists_prime c (by omega)
 have q1:=h q hq (hc▸Nat.dvd_trans hqm (Nat.dvd_mul_right _ _))
 have r1:=h r hr (hc▸Nat.dvd_trans hrc (Nat.dvd_mul_left _ _))
 have hqr:q*r<=n:=by
  rw[hc]
  exact Nat.mul_le_mul (Nat.le_of_dvd (by omega) hqm) (Nat.le_of_dvd (by omega) hrc)
 rcases Nat.le_total q r with h|h
 ·have:=Nat.mul_le_mul_left q h
  omega
 ·have:=Nat.mul_le_mul_right r h
  omega
/-! binomials-/
def ch:Nat->Nat->Nat
 |_,0=>1
 |0,_+1=>0
 |n+1,k+1=>ch n k+ch n (k+1)
theorem ch_gt:∀n k,n<k->ch n k=0
 |0,k+1,_=>rfl
 |n+1,k+1,h=>by simp[ch,ch_gt n k (by omega),ch_gt n (k+1) (by omega)]
theorem ch_self:∀n,ch n n=1
 |0=>rfl
 |n+1=>by simp[ch,ch_self n,ch_gt n (n+1) (by omega)]
theorem ch_mul:∀n k,ch (n+1) (k+1)*(k+1)=(n+1)*ch n k
 |0,0=>rfl
 |0,k+1=>by simp[ch]
 |n+1,0=>by
  have:=ch_mul n 0
  simp[ch]at this⊢
  omega
 |n+1,k+1=>by
  have h1:=ch_mul n k
  have h2:=ch_mul n (k+1)
  show(ch (n+1) (k+1)+ch (n+1) (k+2))*(k+2)=(n+2)*ch (n+1) (k+1)
  have e:ch (n+1) (k+1)=ch n k+ch n (k+1):=rfl
  have:(ch (n+1) (k+1)+ch (n+1) (k+2))*(k+2)=ch (n+1) (k+1)*(k+1)+ch (n+1) (k+1)+ch (n+1) (k+2)*(k+2):=by
   rw[Nat.add_mul,show k+2=k+1+1 from rfl,Nat.mul_add (ch (n+1) (k+1)) (k+1) 1,Nat.mul_one]
  rw[this,h1,h2,Nat.add_right_comm,<-Nat.mul_add,<-e,Nat.add_mul (n+1) 1,Nat.one_mul]
def sm(f:Nat->Nat):Nat->Nat
 |0=>0
 |n+1=>sm f n+f n
theorem sm_congr{f g:Nat->Nat}:∀n,(∀i,i<n->f i=g i)->sm f n=sm g n
 |0,_=>rfl
 |n+1,h=>by simp only[sm];rw[sm_congr n (fun i hi=>h i (by omega)),h n (by omega)]
theorem sm_add(f g:Nat->Nat):∀n,sm (fun i=>f i+g i) n=sm f n+sm g n
 |0=>rfl
 |n+1=>by simp only[sm,sm_add f g n];omega
theorem sm_mul(c:Nat)(f:Nat->Nat):∀n,sm (fun i=>f i*c) n=sm f n*c
 |0=>by simp[sm]
 |n+1=>by simp only[sm,sm_mul c f n,Nat.add_mul]
theorem sm_front(f:Nat->Nat):∀n,sm f (n+1)=f 0+sm (fun i=>f (i+1)) n
 |0=>by simp[sm]
 |n+1=>by
  have:=sm_front f n
  show sm f (n+1)+f (n+1)=_
  rw[this]
  simp only[sm]
  omega
theorem binom(x:Nat):∀n,(x+1)^n=sm (fun k=>ch n k*x^k) (n+1)
 |0=>rfl
 |n+1=>by
  rw[Nat.pow_succ,binom x n,Nat.mul_add,Nat.mul_one,<-sm_mul,sm_front (fun k=>ch (n+1) k*x^k) (n+1)]
  have e1:sm (fun i=>ch n i*x^i*x) (n+1)=sm (fun i=>ch n i*x^(i+1)) (n+1):=
   sm_congr _ fun i _=>by rw[Nat.pow_succ,Nat.mul_assoc]
  have e2:sm (fun k=>ch n k*x^k) (n+1)=1+sm (fun k=>ch n (k+1)*x^(k+1)) (n+1):=by
   rw[sm_front]
   have:sm (fun k=>ch n (k+1)*x^(k+1)) (n+1)=sm (fun i=>ch n (i+1)*x^(i+1)) n:=by
    show _+ch n (n+1)*x^(n+1)=_
    rw[ch_gt n (n+1) (by omega)];simp
   rw[this];simp[ch]
  rw[e1,e2]
  have e3:sm (fun i=>ch (n+1) (i+1)*x^(i+1)) (n+1)=sm (fun i=>ch n i*x^(i+1)) (n+1)+sm (fun k=>ch n (k+1)*x^(k+1)) (n+1):=by
   rw[<-sm_add]
   exact sm_congr _ fun i _=>by show(ch n i+ch n (i+1))*_=_;rw[Nat.add_mul]
  rw[e3]
  simp[ch]
  omega
theorem sm_dvd{p:Nat}{f:Nat->Nat}:∀n,(∀i,i<n->p∣f i)->p∣sm f n
 |0,_=>⟨0,rfl⟩
 |n+1,h=>Nat.dvd_add (sm_dvd n fun i hi=>h i (by omega)) (h n (by omega))
theorem ch_dvd{p:Nat}(hp:Prime p)(k:Nat)(h0:0<k)(h1:k<p):p∣ch p k:=by
 obtain⟨n,rfl⟩:∃n,p=n+1:=⟨p-1,by omega⟩
 obtain⟨j,rfl⟩:∃j,k=j+1:=⟨k-1,by omega⟩
 have h:=ch_mul n j
 have:(n+1)∣ch (n+1) (j+1)*(j+1):=⟨_,h⟩
 rcases hp.dvd_mul this with h|h
 ·exact h
 ·have:=Nat.le_of_dvd (by omega) h
  omega
theorem flt{p:Nat}(hp:Prime p):∀x,x^p%p=x%p
 |0=>by rw[Nat.zero_pow (by have:=hp.1;omega)]
 |x+1=>by
  have h2:=hp.1
  obtain⟨n,hn⟩:∃n,p=n+1:=⟨p-1,by omega⟩
  have e:(x+1)^p=1+sm (fun i=>ch p (i+1)*x^(i+1)) n+x^p:=by
   rw[binom,sm_front]
   have:sm (fun i=>ch p (i+1)*x^(i+1)) p=sm (fun i=>ch p (i+1)*x^(i+1)) n+x^p:=by
    conv=>lhs;rw[hn]
    simp only[sm]
    rw[<-hn,ch_self];simp
   rw[this];simp[ch];omega
  have hd:p∣sm (fun i=>ch p (i+1)*x^(i+1)) n:=
   sm_dvd _ fun i hi=>Nat.dvd_trans (ch_dvd hp (i+1) (by omega) (by omega)) (Nat.dvd_mul_right _ _)
  obtain⟨c,hc⟩:=hd
  rw[e,hc,Nat.add_mod,flt hp x,<-Nat.add_mod,Nat.add_right_comm,Nat.add_mul_mod_self_left,Nat.add_comm]
theorem flt1{p x:Nat}(hp:Prime p)(h:¬p∣x):x^(p-1)%p=1:=by
 have h2:=hp.1
 have h1:=flt hp x
 have hx:1<=x:=by
  rcases Nat.eq_zero_or_pos x with rfl|h0
  ·exact(h (Nat.dvd_zero p)).elim
  ·exact h0
 have e:x^p=x^(p-1)*x:=by
  conv=>lhs;rw[show p=p-1+1 from by omega]
  rw[Nat.pow_succ]
 have hge:1<=x^(p-1):=Nat.one_le_pow _ _ hx
 have hd:p∣(x^(p-1)-1)*x:=by
  rw[Nat.sub_mul,Nat.one_mul,<-e]
  exact Nat.dvd_of_mod_eq_zero (Nat.sub_mod_eq_zero_of_mod_eq h1)
 rcases hp.dvd_mul hd with h3|h3
 ·obtain⟨c,hc⟩:=h3
  have:x^(p-1)=1+p*c:=by omega
  rw[this,Nat.add_mul_mod_self_left]
  exact Nat.mod_eq_of_lt (by omega)
 ·exact(h h3).elim
/-! powers and orders modulo q-/
theorem pow_mod_mul{a q m:Nat}(h:a^m%q=1%q):∀c,a^(m*c)%q=1%q
 |0=>by simp
 |c+1=>by rw[Nat.mul_add,Nat.mul_one,Nat.pow_add,Nat.mul_mod,pow_mod_mul h c,h,<-Nat.mul_mod]
theorem pow_gcd{a q:Nat}(hq:2<=q)(m:Nat):∀n,a^m%q=1->a^n%q=1->a^Nat.gcd m n%q=1:=by
 have one:1%q=1:=Nat.mod_eq_of_lt (by omega)
 induction m using Nat.strongRecOn with
 |ind m ih=>
  intro n hm hn
  by_cases h0:m=0
  ·subst h0;simpa using hn
  ·rw[Nat.gcd_rec]
   refine ih (n%m) (Nat.mod_lt _ (by omega)) m ?_ hm
   have e:a^n=a^(n%m)*a^(m*(n/m)):=by rw[<-Nat.pow_add,Nat.mod_add_div]
   rw[e,Nat.mul_mod,pow_mod_mul (by rw[hm,one]) (n/m),one,Nat.mul_one,Nat.mod_mod]at hn
   exact hn
theorem dvd_less{r e m d:Nat}(hr:Prime r)(h:d∣r^(e+1)*m)(hn:¬r^(e+1)∣d):d∣r^e*m:=by
 obtain⟨c,hc⟩:=h
 by_cases hrc:r∣c
 ·obtain⟨c',rfl⟩:=hrc
  refine⟨c',?_⟩
  apply Nat.eq_of_mul_eq_mul_left (show 0<r by have:=hr.1;omega)
  rw[<-Nat.mul_assoc,Nat.mul_comm r (r^e),<-Nat.pow_succ,hc,Nat.mul_left_comm]
 ·exfalso
  apply hn
  have hco:Nat.Coprime (r^(e+1)) c:=Nat.Coprime.pow_left _ (hr.coprime hrc)
  exact hco.dvd_of_dvd_mul_right (⟨m,hc.symm⟩:r^(e+1)∣d*c)
theorem pock1{n r e m a q:Nat}(hr:Prime r)(hn:n-1=r^(e+1)*m)(ha:a^(n-1)%n=1)(hg:Nat.gcd (a^(r^e*m)%n+(n-1)) n=1)
 (hn2:2<=n) (hq:Prime q) (hqn:q∣n):r^(e+1)∣q-1:=by
 have q2:=hq.1
 have one:1%q=1:=Nat.mod_eq_of_lt (by omega)
 have red:∀x y,x%n=y->x%q=y%q:=by
  intro x y h
  rw[<-h,Nat.mod_mod_of_dvd _ hqn]
 have ha':a^(n-1)%q=1:=by rw[red _ _ ha,one]
 have hqa:¬q∣a:=by
  intro h
  have n0:n-1≠0:=by omega
  obtain⟨k,hk⟩:∃k,n-1=k+1:=⟨n-2,by omega⟩
  have:q∣a^(n-1):=by rw[hk,Nat.pow_succ];exact Nat.dvd_trans h (Nat.dvd_mul_left _ _)
  have:=Nat.mod_eq_zero_of_dvd this
  omega
 have hf:=flt1 hq hqa
 have hd:=pow_gcd q2 _ _ ha' hf
 apply Classical.byContradiction
 intro hno
 have h1:Nat.gcd (n-1) (q-1)∣r^e*m:=by
  refine dvd_less hr (hn▸Nat.gcd_dvd_left _ _) (fun h=>hno (Nat.dvd_trans h (Nat.gcd_dvd_right _ _)))
 obtain⟨c,hc⟩:=h1
 have h2:a^(r^e*m)%q=1:=by
  rw[hc,pow_mod_mul (by rw[hd,one]) c,one]
 have h3:q∣a^(r^e*m)%n+(n-1):=by
  have e1:(a^(r^e*m)%n)%q=1:=by rw[Nat.mod_mod_of_dvd _ hqn,h2]
  obtain⟨k,hk⟩:=hqn
  have hk1:n-1+1=q*k:=by omega
  apply Nat.dvd_of_mod_eq_zero
  have e2:a^(r^e*m)%n=1+q*(a^(r^e*m)%n/q):=by
   have:=Nat.mod_add_div (a^(r^e*m)%n) q
   omega
  rw[e2,show 1+q*(a^(r^e*m)%n/q)+(n-1)=(n-1+1)+q*(a^(r^e*m)%n/q) by omega,hk1,<-Nat.mul_add]
  exact Nat.mul_mod_right _ _
 have h4:q∣1:=hg▸Nat.dvd_gcd h3 hqn
 have:=Nat.le_of_dvd (by omega) h4
 omega
def pm(m:Nat):Nat->Nat->Nat->Nat->Nat
 |0,_,_,acc=>acc
 |f+1,b,e,acc=>pm m f (b*b%m) (e/2) (if e%2=1 then acc*b%m else acc)
theorem pm_eq{m:Nat}:∀f b e acc,e<2^f->acc<m->pm m f b e acc=acc*b^e%m
 |0,b,e,acc,he,ha=>by
  have:e=0:=by simpa using he
  subst this
  simp[pm,Nat.mod_eq_of_lt ha]
 |f+1,b,e,acc,he,ha=>by
  have he2:e/2<2^f:=by rw[Nat.pow_succ]at he;omega
  have hb:(b*b%m)^(e/2)%m=b^(2*(e/2))%m:=by
   rw[<-Nat.pow_mod,Nat.pow_mul,Nat.pow_two]
  unfold pm
  by_cases h:e%2=1
  ·rw[if_pos h,pm_eq f _ _ _ he2 (Nat.mod_lt _ (by omega)),Nat.mod_mul_mod,Nat.mul_mod,hb,<-Nat.mul_mod,Nat.mul_assoc,<-Nat.pow_succ']
   congr 3
   omega
  ·rw[if_neg h,pm_eq f _ _ _ he2 ha,Nat.mul_mod,hb,<-Nat.mul_mod]
   congr 3
   omega
def powMod(b e m:Nat):Nat:=pm m (e.log2+1) (b%m) e (1%m)
theorem powMod_eq{b e m:Nat}(hm:0<m):powMod b e m=b^e%m:=by
 unfold powMod
 rw[pm_eq _ _ _ _ Nat.lt_log2_self (Nat.mod_lt _ hm)]
 rw[Nat.mod_mul_mod,Nat.one_mul,<-Nat.pow_mod]
def chk(n r e a:Nat):Bool:=
 let m:=(n-1)/r^(e+1)
 (n-1==r^(e+1)*m)&&powMod a (n-1) n==1&&Nat.gcd (powMod a (r^e*m) n+(n-1)) n==1
theorem chk_dvd{n r e a q:Nat}(hn:2<=n)(hr:Prime r)(h:chk n r e a=true)(hq:Prime q)(hqn:q∣n):r^(e+1)∣q-1:=by
 simp only[chk,Bool.and_eq_true,beq_iff_eq]at h
 obtain⟨⟨h1,h2⟩,h3⟩:=h
 rw[powMod_eq (by omega)]at h2 h3
 exact pock1 hr h1 h2 h3 hn hq hqn
def chkAll(n:Nat):List (Nat×Nat×Nat)->Nat->Bool
 | [],F=>decide (n<(F+1)*(F+1))
 |(r,e,a)::l,F=>chk n r e a&&Nat.gcd F (r^(e+1))==1&&chkAll n l (F*r^(e+1))
theorem pock_go{n:Nat}(hn:2<=n){q:Nat}(hq:Prime q)(hqn:q∣n):∀ (l:List (Nat×Nat×Nat)) (F:Nat),(∀x,x∈l->Prime x.1)->F∣q-1->chkAll n l F=true->n<q*q
 | [],F,_,hF,h=>by
   simp only[chkAll,decide_eq_true_eq]at h
   have q2:=hq.1
   have:=Nat.le_of_dvd (by omega) hF
   have h1:F+1<=q:=by omega
   exact Nat.lt_of_lt_of_le h (Nat.mul_le_mul h1 h1)
 |(r,e,a)::l,F,hp,hF,h=>by
  simp only[chkAll,Bool.and_eq_true,beq_iff_eq]at h
  obtain⟨⟨h1,h2⟩,h3⟩:=h
  refine pock_go hn hq hqn l _ (fun x hx=>hp x (.tail _ hx)) ?_ h3
  exact Nat.Coprime.mul_dvd_of_dvd_of_dvd h2 hF (chk_dvd hn (hp (r,e,a) (.head _)) h1 hq hqn)
theorem pock{n:Nat}(l:List (Nat×Nat×Nat))(hp:∀x,x∈l->Prime x.1)(h:(decide (2<=n)&&chkAll n l 1)=true):Prime n:=by
 simp only[Bool.and_eq_true,decide_eq_true_eq]at h
 exact prime_of_sqrt h.1 fun q hq hqn=>pock_go h.1 hq hqn l 1 hp (Nat.one_dvd _) h.2
def tri(n:Nat):Nat->Nat->Bool
 |0,d=>decide (n<d*d)
 |f+1,d=>if n<d*d then true else if n%d=0 then false else tri n f (d+1)
theorem tri_ok{n:Nat}:∀f d,tri n f d=true->∀q,Prime q->q∣n->d<=q->n<q*q
 |0,d,h,q,_,_,hd=>by
  simp only[tri,decide_eq_true_eq]at h
  exact Nat.lt_of_lt_of_le h (Nat.mul_le_mul hd hd)
 |f+1,d,h,q,hq,hqn,hd=>by
  unfold tri at h
  split at h
  ·rename_i h1
   exact Nat.lt_of_lt_of_le h1 (Nat.mul_le_mul hd hd)
  ·split at h
   ·cases h
   ·rename_i h2
    by_cases e:d=q
    ·subst e
     exact(h2 (Nat.mod_eq_zero_of_dvd hqn)).elim
    ·exact tri_ok f (d+1) h q hq hqn (by omega)
theorem trial{n:Nat}(f:Nat)(h:(decide (2<=n)&&tri n f 2)=true):Prime n:=by
 simp only[Bool.and_eq_true,decide_eq_true_eq]at h
 exact prime_of_sqrt h.1 fun q hq hqn=>tri_ok f 2 h.2 q hq hqn hq.1
end Pr
namespace EC
open Pr
variable {p:Nat}[NeZero p]
omit [NeZero p] in
theorem val_mul(x y:Fin p):(x*y).val=x.val*y.val%p:=rfl
omit [NeZero p] in
theorem val_add(x y:Fin p):(x+y).val=(x.val+y.val)%p:=rfl
theorem val_zero:(0:Fin p).val=0:=by simp
theorem eq_zero_of_dvd{x:Fin p}(h:p∣x.val):x=0:=by
 apply Fin.ext
 rw[val_zero]
 rcases Nat.eq_zero_or_pos x.val with h0|h0
 ·exact h0
 ·have:=Nat.le_of_dvd h0 h
  omega
theorem val_one(h:2<=p):(1:Fin p).val=1:=by
 show 1%p=1
 exact Nat.mod_eq_of_lt (by omega)
def finv(x:Fin p):Fin p:=⟨powMod x.val (p-2) p,by
 rw[powMod_eq (Nat.pos_of_ne_zero (NeZero.ne p))];exact Nat.mod_lt _ (Nat.pos_of_ne_zero (NeZero.ne p))⟩
theorem mul_finv(hp:Prime p){x:Fin p}(hx:x≠0):x*finv x=1:=by
 have h2:=hp.1
 apply Fin.ext
 rw[val_one h2,val_mul]
 simp only[finv]
 rw[powMod_eq (by omega),Nat.mul_mod,Nat.mod_mod,<-Nat.mul_mod,<-Nat.pow_succ',show(p-2).succ=p-1 by omega]
 exact flt1 hp fun h=>hx (eq_zero_of_dvd h)
theorem fld(hp:Prime p)(h2:p≠2):Fld p where
 nzd:=fun x y h=>by
  have h1:=congrArg Fin.val h
  rw[val_mul,val_zero]at h1
  rcases hp.dvd_mul (Nat.dvd_of_mod_eq_zero h1)with h|h
  ·exact .inl (eq_zero_of_dvd h)
  ·exact .inr (eq_zero_of_dvd h)
 two:=fun x h=>by
  have h1:=congrArg Fin.val h
  rw[val_add,val_zero]at h1
  have:p∣2*x.val:=by rw[Nat.two_mul];exact Nat.dvd_of_mod_eq_zero h1
  rcases hp.dvd_mul this with h|h
  ·have:=Nat.le_of_dvd (by omega) h
   have:=hp.1
   omega
  ·exact eq_zero_of_dvd h
 inv:=fun x hx=>⟨_,mul_finv hp hx⟩
theorem ok_of{a b:Fin p}(hp:Prime p)(h2:p≠2)(hn:No2 a b):Ok finv a b:=⟨fld hp h2,hn,fun _ hx=>mul_finv hp hx⟩
def smul(i:Fin p->Fin p)(a:Fin p):Nat->Pt p->Pt p
 |0,_=> .O
 |n+1,P=>add i a (smul i a n P) P
section
variable {i:Fin p->Fin p}{a b:Fin p}(K:Ok i a b)
include K
theorem smul_on{P:Pt p}(h:OnC a b P):∀n,OnC a b (smul i a n P)
 |0=>trivial
 |n+1=>add_on K (smul_on h n) h
omit K in
theorem add_O(P:Pt p):add i a P .O=P:=by cases P<;>rfl
theorem smul_add{P:Pt p}(h:OnC a b P)(m:Nat):∀n,smul i a (m+n) P=add i a (smul i a m P) (smul i a n P)
 |0=>(add_O _).symm
 |n+1=>by
  show add i a (smul i a (m+n) P) P=_
  rw[smul_add h m n,assoc' K (smul_on K h m) (smul_on K h n) h]
  rfl
theorem smul_mul{P:Pt p}(h:OnC a b P)(m:Nat):∀n,smul i a (m*n) P=smul i a n (smul i a m P)
 |0=>rfl
 |n+1=>by
  rw[Nat.mul_add,Nat.mul_one,smul_add K h,smul_mul h m n]
  rfl
theorem smul_two{P:Pt p}(h:OnC a b P)(m:Nat):smul i a (2*m) P=add i a (smul i a m P) (smul i a m P):=by
 rw[Nat.two_mul,smul_add K h]
omit K in
theorem smul_O:∀n,smul i a n (.O:Pt p)= .O
 |0=>rfl
 |n+1=>by show add i a (smul i a n .O) .O=_;rw[smul_O n];rfl
theorem smul_mod{P:Pt p}(h:OnC a b P){n:Nat}(hn:smul i a n P= .O)(m:Nat):smul i a (m%n) P=smul i a m P:=by
 conv=>rhs;rw[<-Nat.mod_add_div m n,smul_add K h,smul_mul K h,hn,smul_O,add_O]
end
end EC
