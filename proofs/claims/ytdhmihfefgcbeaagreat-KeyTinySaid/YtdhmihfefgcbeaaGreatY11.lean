/-
  This text proves what these texts prove: Ni, Vga, Nj, Nk, Fa, Fb. Conditions: those of each theorem.
-/
import Derived.Test.YtdhmihfefgcbeaaGreatY10
import Derived.Test.YtdhmihfefgcbeaaGreatY07
set_option maxHeartbeats 8000000
set_option linter.all false
namespace Go.Proofs.YtdhmihfefgcbeaaGreat
open Go.Vg Go.RowKit
set_option maxRecDepth 200000
set_option cbv.maxSteps 100000000
def fillw(w:Nat->Nat)(s i j:Nat):Nat:=if j<i then shw w s j else if j=i then(if i=0 then 0 else w (i-1)*2^s/0x10000000000000000)else 0
theorem wrap_z(z:Int)(h: -9223372036854775808<=z)(h2:z<9223372036854775808):IntKind.i64.wrap z=z:=by
 simp only[IntKind.wrap,IntKind.signed,IntKind.bits]
 have:((2:Int)^64)=0x10000000000000000:=by decide
 have h3:((2:Int)^(64-1))=9223372036854775808:=by decide
 simp only[this,h3,Bool.true_and,decide_eq_true_eq]
 split<;>omega
theorem subZ{A:Ar}(hA:A=Ar.real){a b:Nat}(ha:a<4294967296)(hb:b<4294967296):A.bin .sub .i64 (Int.ofNat a) (Int.ofNat b)=Int.ofNat a-Int.ofNat b:=by
 subst hA
 exact wrap_z _ (by simp only[Int.ofNat_eq_natCast];omega) (by simp only[Int.ofNat_eq_natCast];omega)
theorem digit_much{X X' x D Q P:Nat}(h:X'<P)(e:X'+x*D=X+P)(hQ:Q=X/D):Q<x:=by
 rw[hQ]
 exact Nat.div_lt_of_lt_mul (by rw[Nat.mul_comm];omega)
theorem digit_back{X X' X'' x y c D P:Nat}(e:X'+x*D=X+P)(hx:x=y+1)(h:X''+c*P=X'+D)(hc:c<=1):X''+y*D=X+(1-c)*P:=by
 subst hx
 rw[Nat.add_mul,Nat.one_mul]at e
 obtain rfl|rfl:c=0\/c=1:=by omega
 ·rw[Nat.zero_mul]at h;rw[Nat.sub_zero,Nat.one_mul];omega
 ·rw[Nat.one_mul]at h;rw[Nat.sub_self,Nat.zero_mul];omega
theorem quo_lt{u:Nat->Nat}{a n D:Nat}(hi:a+(n+1)<=19)(hD0:0<D)(hD:D<=0x10000000000000000^n)(h:V 19 u<D*0x10000000000000000^(a+1)):Vw a (n+1) u/D<0x10000000000000000:=by
 have h1:=win_all hi hD h
 rw[Nat.div_lt_iff_lt_mul hD0]
 rw[h1,Nat.pow_succ,Nat.mul_comm (0x10000000000000000^a),<-Nat.mul_assoc]at h
 refine Nat.lt_of_mul_lt_mul_right (Nat.lt_of_le_of_lt (Nat.le_add_left _ _) h)|>fun x=> ?_
 rw[Nat.mul_comm];exact x
theorem add_dig{R R' q x B D U q':Nat}(h:R+q*D=U)(h1:R'+x*B*D=R)(h2:q'=q+x*B):R'+q'*D=U:=by
 rw[h2,Nat.add_mul]
 generalize x*B*D=a at *
 generalize q*D=b at *
 omega
theorem srw_zero(u:Nat->Nat)(j:Nat):u j/2^0=srw u 0 j:=by
 rw[srw,shl_hi (by omega),Nat.pow_zero,Nat.mod_one,Nat.zero_mul,Nat.add_zero]
theorem rest_next{u r r1:Nat->Nat}{s i z:Nat}(hr:∀j,r j=if j<i then srw u s j else 0)(hz:z=srw u s i)(h:r1=fun j=>if j=i then z else r j)(j:Nat):r1 j=if j<i+1 then srw u s j else 0:=by
 rw[h];show(if j=i then z else r j)=_
 by_cases a:j=i
 ·rw[if_pos a,if_pos (by omega),hz,a]
 ·rw[if_neg a,hr j]
  exact ite_iff (by omega) rfl rfl
theorem fill_self(w:Nat->Nat)(s i:Nat):fillw w s i i=if i=0 then 0 else w (i-1)*2^s/0x10000000000000000:=by
 unfold fillw;rw[if_neg (Nat.lt_irrefl _),if_pos rfl]
theorem fill_lt{w:Nat->Nat}{s i k:Nat}(hs:s<=64)(hw:Wn k w)(hi:i<k):fillw w s i i<0x10000000000000000:=by
 rw[fill_self]
 split
 ·decide
 ·refine Nat.lt_of_lt_of_le (hi_lt hs (hw _ (by omega))) ?_
  exact Nat.le_trans (Nat.pow_le_pow_right (by decide) hs) (Nat.le_of_eq (by decide))
theorem fill_or{w:Nat->Nat}{s i k:Nat}(hs:s<=64)(hw:Wn k w)(hi:i<k):fillw w s i i|||(w i*2^s%0x10000000000000000)=shw w s i:=by
 rw[fill_self,Nat.or_comm]
 by_cases h:i=0
 ·subst h;rw[if_pos rfl,Nat.or_zero];rfl
 ·obtain⟨l,rfl⟩:∃l,i=l+1:=⟨i-1,by omega⟩
  rw[if_neg (by omega),Nat.add_sub_cancel,<-shr_hi hs]
  exact shw_or hs (hw l (by omega))
theorem fill_next{w u u1 u2:Nat->Nat}{s i:Nat}(hs:s<=64)(hu:∀j,u j=fillw w s i j)(h1:u1=fun j=>if j=i then shw w s i else u j)(h2:u2=fun j=>if j=i+1 then w i/2^(64-s)else u1 j)(j:Nat):u2 j=fillw w s (i+1) j:=by
 rw[h2];show(if j=i+1 then _ else u1 j)=_
 rw[h1];show(if j=i+1 then _ else if j=i then _ else u j)=_
 rw[hu j]
 unfold fillw
 by_cases a:j=i+1
 ·rw[if_pos a,if_neg (by omega),if_pos a,if_neg (by omega),Nat.add_sub_cancel,shr_hi hs]
 ·rw[if_neg a]
  by_cases b:j=i
  ·rw[if_pos b,if_pos (by omega),b]
  ·rw[if_neg b]
   by_cases c:j<i
   ·rw[if_pos c,if_pos (by omega)]
   ·rw[if_neg c,if_neg b,if_neg (by omega),if_neg a]
theorem fill_next0{w u u1:Nat->Nat}{s i k:Nat}(hw:Wn k w)(hi:i<k)(hs:s=0)(hu:∀j,u j=fillw w s i j)(h1:u1=fun j=>if j=i then shw w s i else u j)(j:Nat):u1 j=fillw w s (i+1) j:=by
 rw[<-fill_next (by omega) hu h1 rfl j]
 show _=if j=i+1 then _ else _
 by_cases a:j=i+1
 ·rw[if_pos a,hs]
  have hz:w i/2^(64-0)=0:=Nat.div_eq_of_lt (Nat.lt_of_lt_of_le (hw i hi) (Nat.le_of_eq (by decide)))
  rw[hz,h1]
  show(if j=i then _ else u j)=0
  rw[if_neg (by omega),hu j,fillw,if_neg (by omega),if_neg (by omega)]
 ·rw[if_neg a]
theorem fill_end{w u:Nat->Nat}{s k:Nat}(hs:s<=64)(hw:Wn k w)(hk:k<=18)(hu:∀j,u j=fillw w s k j):Wn 19 u/\V 19 u=V k w*2^s:=by
 constructor
 ·intro j hj
  rw[hu j,fillw]
  split
  ·refine shw_lt hs ?_
   by_cases h:j=0
   ·exact Or.inl h
   ·exact Or.inr (hw _ (by omega))
  ·split
   ·split
    ·decide
    ·refine Nat.lt_of_lt_of_le (hi_lt hs (hw _ (by omega))) ?_
     exact Nat.le_trans (Nat.pow_le_pow_right (by decide) hs) (Nat.le_of_eq (by decide))
   ·decide
 ·obtain⟨l,hl⟩:∃l,19=(k+1)+l:=⟨19-(k+1),by omega⟩
  have h1:V 19 u=V (k+1) u:=by
   rw[hl]
   exact Dg.num_zero u (k+1) l fun i h1 h2=>by rw[hu i,fillw,if_neg (by omega),if_neg (by omega)]
  have h2:V k u=V k (shw w s):=Dg.num_congr k fun i hi=>by rw[hu i,fillw,if_pos hi]
  rw[h1,nsn,h2,hu k,fill_self]
  exact V_shw w s k
theorem cDivideC{P:Program}(hP:P=Tryz.prog){t:TypeId}(m d:Nat->Nat)(n s:Nat)(hD:Dv m d n s)(w:Nat->Nat)(k c:Nat)(C:List SV)(hC:C=ws w c)(hw:Wn k w)(hk:k<=c)(hc18:c<=18)(rq rr:Nat->Nat)(hrq:Wn 18 rq)(hrr:Wn 9 rr)(hqV:V 18 rq=V k w/V 9 m)(hrV:V 9 rr=V k w%V 9 m):
 Con P 159 [.ptr 0 0,.slice 1 0 k c] [⟨0,dcells d n s,215⟩,⟨1,C,t⟩] 2 [] (fun v _ _=>v= .tup [.agg (ws rq 18),.agg (ws rr 9)]):=by
 have bC:∀m,bdLB m C=true:=fun m=>by rw[hC];exact lst_bd m _ _ _ _
 refine cof hP Tryz.func159 (bdb _ rfl) (bkb (by simp only[List.all_cons,List.all_nil,bC 2];rfl)) ?_
 intro A g K hA hg hK
 obtain⟨bin,sh,cmp,_,_,ix,nn,_,bnot,_,_,_,_,_,nat,off,get,_,sub⟩:=A
 have hs64:=hD.s64
 have hs2:s<=64:=by omega
 have en:nat k=Int.ofNat k:=nat_of hA k
 have f1t:∀x y,x<y->cmp .lss (.ofNat x) (.ofNat y)=true:=fun x y h=>lss_t hA h
 have f1f:∀x y,¬x<y->cmp .lss (.ofNat x) (.ofNat y)=false:=fun x y h=>lss_f hA h
 have f2:∀i,i<k->ix (.ofNat i) k=some i:=fun i h=>ix_of hA h
 have f2u:∀i,i<19->ix (.ofNat i) 19=some i:=fun i h=>ix_of hA h
 have f3:∀i,off 0 i 1=i:=fun i=>(off_of hA 0 i 1).trans (by omega)
 have f4:∀ (f:Nat->Nat) (i:Nat),i<k->get C i=some (.int .u64 (.ofNat (w i))):=fun _ i h=>by rw[hC];exact getW hA .u64 w (by omega)
 clear hC
 have f4u:=fun(f:Nat->Nat) (i:Nat) (h:i<19)=>getW hA .u64 (n:=19) f h
 have f5u:=fun(f g:Nat->Nat) (i v:Nat) (h:i<19) (e:g=fun j=>if j=i then v else f j)=>splW hA .u64 (n:=19) f g h e
 have f6:∀i,i<19->bin .add .i64 (.ofNat i) 1=Int.ofNat (i+1):=fun i h=>addI hA (b:=1) (by omega)
 simp only[lst,Nat.reduceAdd]at f4u f5u
 have zs:nn (.ofNat s)=true:=nn_t hA s
 have g3:bin .sub .i64 64 (.ofNat s)=Int.ofNat (64-s):=subI hA (a:=64) (b:=s) (by omega) (by omega)
 have zr:nn (.ofNat (64-s))=true:=nn_t hA _
 have zg:0<s->cmp .gtr (.ofNat s) 0=true:=fun h=>gtr_t hA (b:=0) h
 have zg':¬0<s->cmp .gtr (.ofNat s) 0=false:=fun h=>gtr_f hA (b:=0) h
 obtain⟨r,hr⟩:=exq (64-s)
 rw[<-hr]at g3 zr
 cbv
 rw[en]
 refine lpb (Nat×(Nat->Nat)) (fun σ=>σ.1<=k/\∀j,σ.2 j=fillw w s σ.1 j) (fun σ=>k-σ.1)
  (fun σ=> [(17,.int .i64 (.ofNat σ.1))]) [0,1,4,5,6,7,15,16] (fun σ=> [(4,ws σ.2 19)]) (0,fun _=>0) ⟨Nat.zero_le _,?_⟩ ?_ ?_
 ·intro j;show 0=fillw w s 0 j
  unfold fillw;rw[if_neg (Nat.not_lt_zero _)];split<;>rfl
 ·exact wkih (by repeat' (first|exact trivial|refine⟨rfl,rfl,rfl,?_⟩|refine⟨rfl,rfl,bC _,?_⟩))
 rintro⟨i,u⟩ ⟨hi,hu0⟩
 have hi:i<=k:=hi
 have hu:∀j,u j=fillw w s i j:=hu0
 clear hu0
 cbv
 by_cases hlt:i<k
 ·rw[f1t i k hlt]
  cbv
  rw[f2 i hlt]
  cbv
  rw[f3 i,f4 w i (by omega)]
  cbv
  refine rgM hP hA hg fun mk _=> ?_
  cbv
  obtain⟨w1,hw1⟩:=exq (w i*2^s%0x10000000000000000)
  have hw1W:w1<0x10000000000000000:=by rw[hw1];exact Nat.mod_lt _ (by decide)
  obtain⟨z,hz⟩:=exq (shw w s i)
  have hui:=hu i
  have c1:sh .shl .u64 (.ofNat (w i)) (.ofNat s)=Int.ofNat w1:=shl64 hA hs2 hw1
  have c2:bin .or .u64 (.ofNat (u i)) (.ofNat w1)=Int.ofNat z:=or64 hA (by rw[hui];exact fill_lt hs2 hw hlt) hw1W (by rw[hui,hz,hw1];exact(fill_or hs2 hw hlt).symm)
  obtain⟨u1,hu1⟩:=exq (fun j=>if j=i then z else u j:Nat->Nat)
  have i19:i<19:=by omega
  have j19:i+1<19:=by omega
  have e1:=f2u i i19
  have e2:=f3 i
  have e3:=f5u u u1 i z i19 hu1
  have e6:=f6 i i19
  have e7:=f2u (i+1) j19
  have e8:=f3 (i+1)
  obtain⟨y,hy⟩:=exq (w i/2^r)
  have c3:sh .shr .u64 (.ofNat (w i)) (.ofNat r)=Int.ofNat y:=shr64 hA (by omega) hy
  obtain⟨u2,hu2⟩:=exq (fun j=>if j=i+1 then y else u1 j:Nat->Nat)
  have e9:=f5u u1 u2 (i+1) y j19 hu2
  obtain⟨i1,hi1⟩:=exq (i+1)
  rw[<-hi1]at e6 e7 e8 e9
  rw[e1]
  cbv
  rw[e2,f4u u i i19]
  cbv
  rw[zs]
  cbv
  rw[c1]
  cbv
  rw[c2]
  cbv
  rw[e1]
  cbv
  rw[e2,e3]
  cbv
  by_cases hs0:0<s
  ·rw[zg hs0]
   cbv
   rw[e6,g3]
   cbv
   rw[zr]
   cbv
   rw[c3]
   cbv
   rw[e7]
   cbv
   rw[e8,e9]
   cbv
   rw[e6]
   refine⟨(i1,u2),id,⟨by show i1<=k;omega,?_⟩,(by show k-i1<k-i;omega),?_⟩
   ·show ∀j,u2 j=fillw w s i1 j
    rw[hi1]
    rw[hz]at hu1
    rw[hy,hr]at hu2
    exact fill_next hs2 hu hu1 hu2
   ·exact wkih (by repeat' (first|exact trivial|refine⟨rfl,rfl,rfl,?_⟩|refine⟨rfl,rfl,bC _,?_⟩))
  ·rw[zg' hs0]
   cbv
   rw[e6]
   refine⟨(i1,u1),id,⟨by show i1<=k;omega,?_⟩,(by show k-i1<k-i;omega),?_⟩
   ·show ∀j,u1 j=fillw w s i1 j
    rw[hi1]
    rw[hz]at hu1
    exact fill_next0 hw hlt (by omega) hu hu1
   ·exact wkih (by repeat' (first|exact trivial|refine⟨rfl,rfl,rfl,?_⟩|refine⟨rfl,rfl,bC _,?_⟩))
 ·obtain rfl:i=k:=by omega
  rw[f1f i i hlt]
  cbv
  obtain⟨hu19,hU⟩:=fill_end hs2 hw (by omega) hu
  obtain⟨D,hDe⟩:=exq (V n d)
  obtain⟨M,hM⟩:=exq (V 9 m)
  have hDM:D=M*2^s:=by rw[hDe,hD.val,hM,V_used hD.used]
  have hn9:=hD.used.1
  have hn0:=hD.n0
  have hdn:Wn n d:=fun j hj=>hD.w j (by omega)
  have hDP:D<=0x10000000000000000^n:=by rw[hDe];exact Nat.le_of_lt (V_lt hdn)
  obtain⟨W,hW⟩:=exq (V i w)
  rw[<-hW]at hU hqV hrV
  rw[<-hM]at hqV hrV
  have hst:∀t,i<=n-1+t->W*2^s<D*0x10000000000000000^t:=fun t ht=>start_lt (by rw[hW];exact V_lt hw) hn0 hD.top hDe hs64 ht
  have hD0:0<D:=by
   have:=hst i (by omega)
   rcases Nat.eq_zero_or_pos D with h|h
   ·rw[h,Nat.zero_mul]at this;exact absurd this (Nat.not_lt_zero _)
   ·exact h
  have g5:bin .sub .i64 (.ofNat i) (.ofNat n)=Int.ofNat i-Int.ofNat n:=subZ hA (by omega) (by omega)
  rw[en]
  obtain⟨iv0,hiv0⟩:=exq (Int.ofNat i-Int.ofNat n)
  rw[<-hiv0]at g5
  rw[g5]
  refine lpb (Nat×Int×(Nat->Nat)×(Nat->Nat)) (fun σ=>(σ.1=0/\σ.2.1<0\/0<σ.1/\σ.2.1=Int.ofNat σ.1-1/\σ.1+n<=i+1)/\Wn 19 σ.2.2.1/\Wn 18 σ.2.2.2/\(∀j,j<σ.1->σ.2.2.2 j=0)/\V 19 σ.2.2.1+V 18 σ.2.2.2*D=W*2^s/\V 19 σ.2.2.1<D*0x10000000000000000^σ.1) (fun σ=>σ.1)
   (fun σ=> [(10,.int .i64 σ.2.1)]) [0,4,5,6,7] (fun σ=> [(4,ws σ.2.2.1 19),(5,ws σ.2.2.2 18)]) (i+1-n,iv0,u,fun _=>0) ⟨?_,hu19,?_,fun _ _=>rfl,?_,?_⟩ ?_ ?_
  ·show(i+1-n=0/\iv0<0\/0<i+1-n/\iv0=Int.ofNat (i+1-n)-1/\i+1-n+n<=i+1)
   rw[hiv0]
   simp only[Int.ofNat_eq_natCast]
   omega
  ·intro j _;show 0<_;decide
  ·show V 19 u+V 18 (fun _=>0)*D=W*2^s
   have:V 18 (fun _=>0)=0:=by simp[V,Dg.num]
   rw[this,Nat.zero_mul,hU];rfl
  ·show V 19 u<_
   rw[hU];exact hst _ (by omega)
  ·exact wkih (by repeat' (first|exact trivial|refine⟨rfl,rfl,rfl,?_⟩|refine⟨rfl,rfl,bC _,?_⟩))
  clear hu hu19 hU
  rintro⟨t,iv,u,q⟩ ⟨ht',hu',hq',hq0',hR',hlt'⟩
  have ht:t=0/\iv<0\/0<t/\iv=Int.ofNat t-1/\t+n<=i+1:=ht'
  have hu:Wn 19 u:=hu'
  have hq:Wn 18 q:=hq'
  have hq0:∀j,j<t->q j=0:=hq0'
  have hR:V 19 u+V 18 q*D=W*2^s:=hR'
  have hlt2:V 19 u<D*0x10000000000000000^t:=hlt'
  clear ht' hu' hq' hq0' hR' hlt'
  by_cases hiv:0<=iv
  ·obtain⟨a,rfl⟩:∃a,t=a+1:=⟨t-1,by omega⟩
   obtain rfl:iv=Int.ofNat a:=by
    rcases ht with h|h
    ·exact absurd h.1 (Nat.succ_ne_zero a)
    ·rw[h.2.1];exact Int.add_sub_cancel (a:Int) 1
   cbv
   rw[show cmp .geq (.ofNat a) 0=true from geq_t hA (b:=0) (Nat.zero_le _)]
   cbv
   obtain⟨p,hp⟩:∃p,n=p+1:=⟨n-1,by omega⟩
   have han:a+n<19:=by
    rcases ht with h|h
    ·exact absurd h.1 (Nat.succ_ne_zero a)
    ·have:=h.2.2;omega
   have hani:a+1+n<=i+1:=by
    rcases ht with h|h
    ·exact absurd h.1 (Nat.succ_ne_zero a)
    ·exact h.2.2
   clear ht hiv
   obtain⟨X,hX⟩:=exq (Vw a (n+1) u)
   obtain⟨Qd,hQd⟩:=exq (X/D)
   have hQD:Qd*D<=X:=by rw[hQd];exact Nat.div_mul_le_self X D
   have hQW:Qd<0x10000000000000000:=by rw[hQd,hX];exact quo_lt (by omega) hD0 hDP hlt2
   have hG:=cGuess hP (t:=271) d u p s a Qd hD.w hu (by omega) (by omega) (by have:=hD.top;rw[hp,Nat.add_sub_cancel]at this;omega) (by rw[<-hp,<-hDe,show p+2=n+1 by omega,<-hX];exact hQD) hQW
   rw[<-hp]at hG
   refine ssl hg rfl rfl rfl rfl rfl (slr_arr (hP▸tblOk) (show tyT 271=some _ from rfl) rfl _ _) ?_
   cbv
   refine cro rfl hg rfl rfl hG (fun l=>4*l) rfl ⟨rfl,rfl,trivial⟩ ?_
   rintro _ _ _ ⟨x0,hx1,hx2,rfl⟩
   cbv
   refine ssl hg rfl rfl rfl rfl rfl (slr_arr (hP▸tblOk) (show tyT 271=some _ from rfl) rfl _ _) ?_
   cbv
   refine cgn rfl hg rfl rfl (cTake hP (t:=271) d u n s a x0 hD.w hu hn9 han hx2) (fun l=>4*l) rfl ⟨rfl,rfl,trivial⟩ rfl rfl rfl ?_
   rintro _ _ _ ⟨u1,c0,hu1,hc0,hf1,ht1,rfl,rfl,rfl⟩ _
   cbv
   rw[<-hX,<-hDe]at ht1
   have f2q:ix (.ofNat a) 18=some a:=ix_of hA (by omega)
   have g6:bin .sub .i64 (.ofNat a) 1=Int.ofNat a-1:=subZ hA (b:=1) (by omega) (by omega)
   obtain⟨iv',hiv'⟩:=exq (Int.ofNat a-1)
   rw[<-hiv']at g6
   have f3a:=f3 a
   refine lpb (Nat×Nat×(Nat->Nat)) (fun σ=>Wn 19 σ.2.2/\σ.1<0x10000000000000000/\σ.2.1<=1/\Qd<=σ.1/\(∀j,j<a\/a+n<j->σ.2.2 j=u j)/\Vw a (n+1) σ.2.2+σ.1*D=X+σ.2.1*0x10000000000000000^(n+1)) (fun σ=>σ.1)
    (fun σ=> [(11,.int .u64 (.ofNat σ.1)),(12,.bool (decide (σ.2.1=1)))]) [0,4,5,6,7,10] (fun σ=> [(4,ws σ.2.2 19)]) (x0,c0,u1) ⟨hu1,hx2,hc0,hx1,hf1,ht1⟩ ?_ ?_
   ·exact wkih (by repeat' (first|exact trivial|refine⟨rfl,rfl,rfl,?_⟩|refine⟨rfl,rfl,bC _,?_⟩))
   clear ht1 hf1 hu1 hc0 hx1 hx2 hG
   rintro⟨x,c,v⟩ ⟨hv',hx',hc',hQx',hf',he'⟩
   have hv:Wn 19 v:=hv'
   have hx:x<0x10000000000000000:=hx'
   have hc:c<=1:=hc'
   have hQx:Qd<=x:=hQx'
   have hf:∀j,j<a\/a+n<j->v j=u j:=hf'
   have he:Vw a (n+1) v+x*D=X+c*0x10000000000000000^(n+1):=he'
   clear hv' hx' hc' hQx' hf' he'
   by_cases hc1:c=1
   ·obtain rfl:c=1:=hc1
    rw[Nat.one_mul]at he
    have hlt:Qd<x:=digit_much (Vw_lt hv (by omega)) he hQd
    obtain⟨y,hy⟩:∃y,x=y+1:=⟨x-1,by omega⟩
    have e1:bin .sub .u64 (.ofNat x) 1=Int.ofNat y:=sub64 hA (a:=x) (b:=1) (by decide) (by omega)
    cbv
    rw[e1]
    refine ssl hg rfl rfl rfl rfl rfl (slr_arr (hP▸tblOk) (show tyT 271=some _ from rfl) rfl _ _) ?_
    cbv
    refine cgn rfl hg rfl rfl (cBack hP (t:=271) d v n s a hD.w hv hn9 han) (fun l=>4*l) rfl ⟨rfl,rfl,trivial⟩ rfl rfl rfl ?_
    rintro _ _ _ ⟨v1,c1,hv1,hc1,hf1,ht1,rfl,rfl,rfl⟩ _
    rw[<-hDe]at ht1
    obtain⟨c2,hc2⟩:=exq (1-c1)
    have e2:bnot (decide (c1=1))=decide (c2=1):=by
     refine(bnot_of hA _).trans ?_
     rw[hc2]
     obtain h|h:c1=0\/c1=1:=by omega
     ·rw[h];rfl
     ·rw[h];rfl
    have he2:=digit_back he hy ht1 hc1
    rw[<-hc2]at he2
    obtain⟨b1,hb1⟩:=exq (decide (c1=1))
    obtain⟨b2,hb2⟩:=exq (decide (c2=1))
    rw[<-hb1,<-hb2]at e2
    rw[<-hb1]
    cbv
    rw[e2]
    refine⟨(y,c2,v1),id,⟨hv1,(by show y<_;omega),(by show c2<=1;omega),(by show Qd<=y;omega),?_,he2⟩,(by show y<x;omega),?_⟩
    ·intro j hj
     exact(hf1 j hj).trans (hf j hj)
    ·rw[hb2]
     exact wkih (by repeat' (first|exact trivial|refine⟨rfl,rfl,rfl,?_⟩|refine⟨rfl,rfl,bC _,?_⟩))
   ·obtain rfl:c=0:=by omega
    rw[Nat.zero_mul,Nat.add_zero]at he
    obtain⟨q1,hq1⟩:=exq (fun j=>if j=a then x else q j:Nat->Nat)
    have e3:=splW hA .u64 (n:=18) q q1 (k:=a) (v:=x) (by omega) hq1
    simp only[lst,Nat.reduceAdd]at e3
    obtain⟨k1,k2⟩:=at_step (N:=19) (D:=D) hu (by omega) hD0 hDP hlt2 hf (by rw[he,hX];exact Nat.add_zero _) (by rw[<-hX,<-hQd];exact hQx)
    have k3:=V_put (x:=x) (q:=q) (i:=a) (N:=18) (by omega) (hq0 a (Nat.lt_succ_self a))
    rw[<-hq1]at k3
    cbv
    rw[f2q]
    cbv
    rw[f3a,e3]
    cbv
    rw[g6]
    refine⟨(a,iv',v,q1),id,⟨?_,hv,?_,?_,add_dig hR k1 k3,k2⟩,(by show a<a+1;omega),?_⟩
    ·show a=0/\iv'<0\/0<a/\iv'=Int.ofNat a-1/\a+n<=i+1
     rw[hiv']
     rcases Nat.eq_zero_or_pos a with h|h
     ·exact Or.inl ⟨h,by rw[h];decide⟩
     ·exact Or.inr ⟨h,rfl,by omega⟩
    ·intro j hj
     show q1 j<_
     rw[hq1]
     by_cases hja:j=a
     ·simp only[hja,if_pos];exact hx
     ·simp only[if_neg hja];exact hq j hj
    ·intro j hj
     have hj:j<a:=hj
     show q1 j=0
     rw[hq1]
     exact(if_neg (by omega)).trans (hq0 j (by omega))
    ·exact wkih (by repeat' (first|exact trivial|refine⟨rfl,rfl,rfl,?_⟩|refine⟨rfl,rfl,bC _,?_⟩))
  ·obtain rfl:t=0:=by
    rcases ht with h|h
    ·exact h.1
    ·exact absurd (show 0<=iv by rw[h.2.1];have:=h.1;show(0:Int)<=(t:Int)-1;omega) hiv
   cbv
   rw[show cmp .geq iv 0=false from(congrFun (congrFun (congrFun (cmp_of hA) .geq) iv) 0).trans (decide_eq_false hiv)]
   cbv
   clear ht hiv
   rw[Nat.pow_zero,Nat.mul_one]at hlt2
   rw[hDM]at hR
   obtain⟨k1,k2⟩:=fin_div (Nat.pow_pos (by decide)) hR (by rw[<-hDM];exact hlt2)
   obtain⟨k3,k4⟩:=rest_of hu hs64 hn9 hDP hlt2 k2
   have q1:ws rq 18=ws q 18:=V_inj hrq hq (hqV.trans k1.symm)
   have q2:ws rr 9=ws (fun i=>if i<n then srw u s i else 0) 9:=V_inj hrr k3 (hrV.trans k4.symm)
   clear k1 k2 k3 k4 hR hlt2
   have f2n:∀j,j<9->ix (.ofNat j) 9=some j:=fun j h=>ix_of hA h
   have f4n:=fun(f:Nat->Nat) (j:Nat) (h:j<9)=>getW hA .u64 (n:=9) f h
   have f5n:=fun(f g:Nat->Nat) (j v:Nat) (h:j<9) (e:g=fun x=>if x=j then v else f x)=>splW hA .u64 (n:=9) f g h e
   simp only[lst,Nat.reduceAdd]at f4n f5n
   refine lpb (Nat×(Nat->Nat)) (fun σ=>σ.1<=n/\∀j,σ.2 j=if j<σ.1 then srw u s j else 0) (fun σ=>n-σ.1)
    (fun σ=> [(85,.int .i64 (.ofNat σ.1))]) [0,4,5,6,7,13,84] (fun σ=> [(6,ws σ.2 9)]) (0,fun _=>0) ⟨Nat.zero_le _,?_⟩ ?_ ?_
   ·intro j;exact(if_neg (Nat.not_lt_zero _)).symm
   ·exact wkih (by repeat' (first|exact trivial|refine⟨rfl,rfl,rfl,?_⟩|refine⟨rfl,rfl,bC _,?_⟩))
   rintro⟨j,rs⟩ ⟨hj',hrs'⟩
   have hj:j<=n:=hj'
   have hrs:∀x,rs x=if x<j then srw u s x else 0:=hrs'
   clear hj' hrs'
   cbv
   by_cases hlt:j<n
   ·rw[f1t j n hlt]
    have j9:j<9:=by omega
    obtain⟨y1,hy1⟩:=exq (u j/2^s)
    have c1:sh .shr .u64 (.ofNat (u j)) (.ofNat s)=Int.ofNat y1:=shr64 hA hs2 hy1
    obtain⟨r1,hr1⟩:=exq (fun x=>if x=j then y1 else rs x:Nat->Nat)
    have e1:=f2n j j9
    have e2:=f3 j
    have e3:=f5n rs r1 j y1 j9 hr1
    have e4:=f2u j (by omega)
    have e5:=f4u u j (by omega)
    have e6:=f6 j (by omega)
    have e7:=f4n r1 j j9
    have e8:=f2u (j+1) (by omega)
    have e9:=f4u u (j+1) (by omega)
    have e10:=f3 (j+1)
    obtain⟨y2,hy2⟩:=exq (u (j+1)*2^r%0x10000000000000000)
    have c2:sh .shl .u64 (.ofNat (u (j+1))) (Int.ofNat r)=Int.ofNat y2:=shl64 hA (by omega) hy2
    have hujW:u j<0x10000000000000000:=hu j (by omega)
    have hr1j:r1 j=y1:=by rw[hr1];exact if_pos rfl
    rw[hr1j]at e7
    obtain⟨z,hz⟩:=exq (y1|||y2)
    have hzs:z=srw u s j:=by rw[hz,hy1,hy2,hr];exact srw_or hs2 hujW
    have c3:bin .or .u64 (.ofNat y1) (.ofNat y2)=Int.ofNat z:=or64 hA (by rw[hy1];exact Nat.lt_of_le_of_lt (Nat.div_le_self _ _) hujW) (by rw[hy2];exact Nat.mod_lt _ (by decide)) hz
    obtain⟨r2,hr2⟩:=exq (fun x=>if x=j then z else r1 x:Nat->Nat)
    have e11:=f5n r1 r2 j z j9 hr2
    have hr2':r2=fun x=>if x=j then z else rs x:=by
     rw[hr2,hr1];funext x
     by_cases h:x=j
     ·simp only[if_pos h]
     ·simp only[if_neg h]
    obtain⟨j1,hj1⟩:=exq (j+1)
    rw[<-hj1]at e6 e8 e9 e10 c2
    cbv
    refine rgM hP hA hg fun mk _=> ?_
    cbv
    rw[e4]
    cbv
    rw[e2,e5]
    cbv
    rw[zs]
    cbv
    rw[c1]
    cbv
    rw[e1]
    cbv
    rw[e2,e3]
    cbv
    by_cases hs0:0<s
    ·rw[zg hs0]
     cbv
     refine rgM hP hA hg fun mk _=> ?_
     cbv
     rw[e1]
     cbv
     rw[e2,e7]
     cbv
     rw[e6]
     cbv
     rw[e8]
     cbv
     rw[e10,e9]
     cbv
     rw[g3]
     cbv
     rw[zr]
     cbv
     rw[c2]
     cbv
     rw[c3]
     cbv
     rw[e1]
     cbv
     rw[e2,e11]
     cbv
     rw[e6]
     refine⟨(j1,r2),id,⟨by show j1<=n;omega,?_⟩,(by show n-j1<n-j;omega),?_⟩
     ·show ∀x,r2 x=if x<j1 then srw u s x else 0
      rw[hj1]
      exact rest_next hrs hzs hr2'
     ·exact wkih (by repeat' (first|exact trivial|refine⟨rfl,rfl,rfl,?_⟩|refine⟨rfl,rfl,bC _,?_⟩))
    ·rw[zg' hs0]
     cbv
     rw[e6]
     refine⟨(j1,r1),id,⟨by show j1<=n;omega,?_⟩,(by show n-j1<n-j;omega),?_⟩
     ·show ∀x,r1 x=if x<j1 then srw u s x else 0
      rw[hj1]
      have h0:s=0:=by omega
      exact rest_next hrs (by rw[hy1,h0];exact srw_zero u j) hr1
     ·exact wkih (by repeat' (first|exact trivial|refine⟨rfl,rfl,rfl,?_⟩|refine⟨rfl,rfl,bC _,?_⟩))
   ·obtain rfl:j=n:=by omega
    rw[f1f j j hlt]
    cbv
    refine reg_X (hP▸tblOk) hA hg (hP▸mixed) rfl rfl ?_
    cbv
    refine hK _ _ _ ?_
    have q3:rs=fun i=>if i<j then srw u s i else 0:=funext hrs
    rw[<-q3]at q2
    rw[q1,q2]
    rfl
theorem cDivide9{P:Program}(hP:P=Tryz.prog){t:TypeId}(m d:Nat->Nat)(n s:Nat)(hD:Dv m d n s)(w:Nat->Nat)(k:Nat)(hw:Wn k w)(hk:k<=9)(rq rr:Nat->Nat)(hrq:Wn 18 rq)(hrr:Wn 9 rr)(hqV:V 18 rq=V k w/V 9 m)(hrV:V 9 rr=V k w%V 9 m):
 Con P 159 [.ptr 0 0,.slice 1 0 k 9] [⟨0,dcells d n s,215⟩,⟨1,ws w 9,t⟩] 2 [] (fun v _ _=>v= .tup [.agg (ws rq 18),.agg (ws rr 9)]):=
 cDivideC hP m d n s hD w k 9 (ws w 9) rfl hw hk (by decide) rq rr hrq hrr hqV hrV
theorem cDivide18{P:Program}(hP:P=Tryz.prog){t:TypeId}(m d:Nat->Nat)(n s:Nat)(hD:Dv m d n s)(w:Nat->Nat)(k:Nat)(hw:Wn k w)(hk:k<=18)(rq rr:Nat->Nat)(hrq:Wn 18 rq)(hrr:Wn 9 rr)(hqV:V 18 rq=V k w/V 9 m)(hrV:V 9 rr=V k w%V 9 m):
 Con P 159 [.ptr 0 0,.slice 1 0 k 18] [⟨0,dcells d n s,215⟩,⟨1,ws w 18,t⟩] 2 [] (fun v _ _=>v= .tup [.agg (ws rq 18),.agg (ws rr 9)]):=
 cDivideC hP m d n s hD w k 18 (ws w 18) rfl hw hk (by decide) rq rr hrq hrr hqV hrV
end Go.Proofs.YtdhmihfefgcbeaaGreat
namespace Go.Vg
open Go.RowKit
section
variable {P:Program}{g:G}
theorem find_rho{ρ:Nat->Nat}{n0 n l:Nat}{c:Blk}{NB:LL}(h:find (renB (rho ρ n0 n) NB) l=some c):∃b∈NB,find NB b.l=some b/\rho ρ n0 n b.l=l/\c=⟨rho ρ n0 n b.l,renL (rho ρ n0 n) b.cs,b.t⟩:=find_renB h
theorem renB_mem{ρ:Nat->Nat}{NB:LL}{b:Blk}(h:b∈NB):∃c∈renB ρ NB,c.l=ρ b.l:=by
 induction NB with
 |nil=>cases h
 |cons d NB ih=>
  rcases List.mem_cons.1 h with rfl|h
  ·exact⟨_,List.mem_cons_self,rfl⟩
  ·obtain⟨c,hc,e⟩:=ih h
   exact⟨c,List.mem_cons_of_mem _ hc,e⟩
theorem en_new{o:Oper}{c:Call}(ho:o.op= .call c){m0 N:Nat}{ms:List Nat}(hg:GI g m0 ms N)(hd':dstLt N o.dst=true){F:Nat->Option SV}{f:FuncId}{us args:List SV}(hc:callee F c=some (f,us)){Lp:LL}{n0:Nat}{R:SV->LL->Nat->Prop}(hcon:Con P f args Lp n0 [] R)
 (ρ:Nat->Nat) (hus:us=renL ρ args) {M:Nat->Option Blk} (hft:foot ρ M Lp) (hcov:below (fun l=>memN (Lp.map Blk.l) l) n0=true) {val:SV} {NB:LL} {n n1:Nat}
 (hv:∀v L1 k,R v L1 k->v=val/\L1=Lp++NB/\k=n1) (hN:(NB.all fun b=>Nat.ble n0 b.l)=true) (hLp:(Lp.all fun b=>Nat.blt b.l n0)=true) (hcv:∀l,n0<=l->l<n1->∃b∈NB,b.l=l):
 EN g P o F M (ren (rho ρ n0 n) val) (renB (rho ρ n0 n) NB):=by
 have hd:=hg.dst hd'
 obtain⟨hcb,hcon⟩:=hcon
 refine⟨?_⟩
 intro β p F' L' a W hF hM hfr hm hf next Q hnext
 obtain⟨r1,r2⟩:=callee_run (P:=P) (W:=W) hf ho ((callee_congr ho hF).trans hc) hcb
 unfold Oper.wp
 rw[r1,Oper.upon_enter]
 have hft':foot ρ L' Lp:=by
  clear hus hcv hLp hN hv hcov hcon
  induction Lp with
  |nil=>trivial
  |cons b Lp ih=>exact⟨hM _ _ hft.1,ih hft.2⟩
 have hden:denL β us=denL (fun l=>β (ρ l)) args:=by rw[hus,denL_ren]
 rw[hden]
 refine(hcon (fun l=>β (ρ l)) W (foot_pre hm hft' (injB_nil ρ Lp) (fun m h=>by cases h))).mono ?_
 rintro e W' ⟨v,L1,k,β1,hR,rfl,hbv,hm1⟩
 obtain⟨rfl,rfl,rfl⟩:=hv v L1 k hR
 have hN':∀b∈NB,n0<=b.l:=fun b hb=>Nat.le_of_ble_eq_true (List.all_eq_true.1 hN b hb)
 have hρp:∀l,l<n0->p (ρ l):=fun l hl=>by
  obtain⟨b,hb,e⟩:=List.mem_map.1 (memN_mem (below_at (f:=fun l=>memN (Lp.map Blk.l) l) hcov hl))
  have:=hm.bL _ _ (foot_mem hft' hb)
  rw[e]at this;exact this.1
 let nw:=renB (rho ρ n0 n) NB
 have hnp:∀b∈NB,¬p (rho ρ n0 n b.l):=fun b hb=>by
  obtain⟨c',hc',e⟩:=renB_mem (ρ:=rho ρ n0 n) hb
  rw[<-e];exact hfr c' hc'
 obtain⟨γ,hg1,hg2⟩:∃γ:Nat->Nat,(∀l,p l->γ l=β l)/\∀b∈NB,γ (rho ρ n0 n b.l)=β1 b.l:=by
  classical
  refine⟨fun l=>if p l then β l else β1 (n0+(l-n)),fun l hl=>if_pos hl,fun b hb=> ?_⟩
  show(if p _ then _ else _)=_
  rw[if_neg (hnp b hb),rho_ge (hN' b hb)]
  congr 1
  have:=hN' b hb
  omega
 have hγ:∀l,l<k->γ (rho ρ n0 n l)=β1 l:=by
  intro l hl
  by_cases h:l<n0
  ·rw[rho_lt h,hg1 _ (hρp l h)];exact(hm1.old l h).symm
  ·obtain⟨b,hb,e⟩:=hcv l (by omega) hl
   rw[<-e];exact hg2 b hb
 have hlt:∀l,l<k->(p (rho ρ n0 n l)\/ ∃b∈nw,b.l=rho ρ n0 n l):=by
  intro l hl
  by_cases h:l<n0
  ·rw[rho_lt h];exact Or.inl (hρp l h)
  ·obtain⟨b,hb,e⟩:=hcv l (by omega) hl
   obtain⟨c',hc',e2⟩:=renB_mem (ρ:=rho ρ n0 n) hb
   exact Or.inr ⟨c',hc',by rw[e2,e]⟩
 have hcase:∀l b,addN L' nw l=some b->(L' l=some b)\/(∃b1∈NB,find (Lp++NB) b1.l=some b1/\l=rho ρ n0 n b1.l/\b=⟨rho ρ n0 n b1.l,renL (rho ρ n0 n) b1.cs,b1.t⟩):=by
  intro l b h
  unfold addN at h
  cases hq:L' l with
  |some c=>rw[hq]at h;exact Or.inl h
  |none=>
   rw[hq]at h
   obtain⟨b1,h1,h2,h3,h4⟩:=find_rho h
   refine Or.inr ⟨b1,h1,?_,h3.symm,h4⟩
   rw[fap]
   cases hl:find Lp b1.l with
   |none=>exact h2
   |some d=>
    obtain⟨d1,d2⟩:=fdm hl
    have h5:=Nat.le_of_ble_eq_true (show Nat.ble (d.l+1) n0=true from List.all_eq_true.1 hLp d d1)
    have:=hN' b1 h1
    omega
 have hup:=hm1.up
 have hnm:∀i,¬G.mod ⟨W,fun l=>β (ρ l),n0,0,[]⟩ i:=by rintro i ⟨l,hl,_⟩;cases hl
 have hnew:∀b1∈NB,find (Lp++NB) b1.l=some b1->W.heap.size<=β1 b1.l:=fun b1 hb1 h=>by
  rcases hm1.new b1.l b1 h (hN' b1 hb1)with h1|h1
  ·exact h1
  ·exact(hnm _ h1).elim
 have hmβ:=hm.call hup hnm
 have hdv:den γ (ren (rho ρ n0 n) v)=den β1 v:=by rw[den_ren];exact den_congr hγ v hbv
 rw[<-hdv]
 refine hnext γ _ W' ⟨?_,?_,?_,?_,?_,?_,hmβ.up⟩ ((hf.mono hg1 (fun l hl=>Or.inl hl)).put hd (bd_ren hlt v hbv))
 ·exact fun l hl=>Or.inl (hm.low l hl)
 ·intro l hl;rw[hg1 l (hm.low l hl)];exact hm.old l hl
 ·intro l b hb hl
  rcases hcase l b hb with h1|⟨b1,hb1,hf1,rfl,rfl⟩
  ·rw[hg1 _ (hm.bL l b h1).1];exact hm.new l b h1 hl
  ·rw[hg2 b1 hb1];exact Or.inl (Nat.le_trans hm.up.size (hnew b1 hb1 hf1))
 ·intro l b l' b' hb hb' hown e
  rcases hcase l b hb with h1|⟨b1,hb1,hf1,rfl,rfl⟩<;>rcases hcase l' b' hb' with k1|⟨c1,hc1,hf2,rfl,rfl⟩
  ·rw[hg1 _ (hm.bL l b h1).1,hg1 _ (hm.bL l' b' k1).1]at e
   exact hm.inj l b l' b' h1 k1 hown e
  ·rw[hg1 _ (hm.bL l b h1).1,hg2 c1 hc1]at e
   obtain⟨_,_,hcell⟩:=hm.cell l b h1
   have:=block_lt hcell
   have:=hnew c1 hc1 hf2
   omega
  ·rw[hg1 _ (hm.bL l' b' k1).1,hg2 b1 hb1]at e
   obtain⟨_,_,hcell⟩:=hm.cell l' b' k1
   have:=block_lt hcell
   have:=hnew b1 hb1 hf1
   omega
  ·rw[hg2 b1 hb1,hg2 c1 hc1]at e
   rw[hm1.inj _ _ _ _ hf1 hf2 (by
    show own n0 [] b1.l=true
    unfold own
    rw[Nat.ble_eq_true_of_le (hN' b1 hb1)]) e]
 ·intro l b hb
  rcases hcase l b hb with h1|⟨b1,hb1,hf1,rfl,rfl⟩
  ·obtain⟨m,h2,h3⟩:=hmβ.cell l b h1
   refine⟨m,h2,?_⟩
   rw[hg1 _ (hm.bL l b h1).1,dlc (p:=p) (fun l hl=>hg1 l hl) b.cs (hm.bL l b h1).2]
   exact h3
  ·obtain⟨m,h2,h3⟩:=hm1.cell b1.l b1 hf1
   refine⟨m,fun _=> ?_,?_⟩
   ·rw[renL_length]
    refine h2 ?_
    show own n0 [] b1.l=true
    unfold own
    rw[Nat.ble_eq_true_of_le (hN' b1 hb1)]
   ·rw[hg2 b1 hb1]
    rw[denL_ren,dlc hγ b1.cs (hm1.bL _ _ hf1).2]
    exact h3
 ·intro l b hb
  rcases hcase l b hb with h1|⟨b1,hb1,hf1,rfl,rfl⟩
  ·exact⟨Or.inl (hm.bL l b h1).1,bdm (fun _ h=>Or.inl h) _ (hm.bL l b h1).2⟩
  ·obtain⟨c',hc',e2⟩:=renB_mem (ρ:=rho ρ n0 n) hb1
   exact⟨Or.inr ⟨c',hc',e2⟩,bdL_ren hlt _ (hm1.bL _ _ hf1).2⟩
theorem en_s2ap{T:Nat->Option Ty}(hT:TOk P T){o:Oper}{m0 N:Nat}{ms:List Nat}(hg:GI g m0 ms N)(hd':dstLt N o.dst=true){x:Operand}{t:Nat}(ho:o.op= .sliceToArrayPointer t x){F:Nat->Option SV}{M:Nat->Option Blk}{l q k c m e es:Nat}{ag:Bool}{i:Ty}
 (ht:T t=some i) (hd:i.d= .ar m e es ag) (hx:ev F x=some (.slice l q k c)) (hk:m<=k):EN g P o F M (.ptr l q) []:=by
 obtain⟨hu,hm,_⟩:=arr_facts hT ht hd
 refine en_out hg hd' fun β p F' L' a W hF hM hm' hf=> ?_
 have E:∀z∈o.op.operands.toList,ev F' z=ev F z:=fun z hz=>ev_congr fun t ht=>hF t (tmpsL_mem hz ht)
 rw[ho]at E
 obtain⟨e1,b1⟩:=evd hf ((E x (by simp[Op.operands])).trans hx)
 refine⟨?_,b1⟩
 have e2:a.eval x= .slice (some ⟨β l,q,none⟩) k c:=e1
 have h:(Instr.arrayAt t (.slice (some ⟨β l,q,none⟩) k c)).run P W= .ok (.pointer (some ⟨β l,q,none⟩)) W:=by
  unfold Instr.arrayAt
  simp only[Sem.run_bind,run_underlying hu,Result.andThen_ok]
  rw[if_neg (by rw[hm];omega)]
  rfl
 unfold execOp
 simp only[ho,e2,Sem.run_bind,h,Result.andThen_ok,Sem.run_pure,den]
theorem stepDn{o:Oper}{F:FF}{M:LL}{n n':Nat}{K:SV->LL->Nat->Prop}{v:SV}{nw:LL}(h:EN g P o (look F) (selM o (find M)) v nw)(hn:n<=n')(hb:(nw.all fun b=>Nat.ble n b.l&&Nat.blt b.l n')=true)(hd:(nw.map Blk.l).Nodup)(hk:K v nw n'):StepD g P o F M n K:=by
 refine⟨v,nw,n',h,hn,fun b hb'=> ?_,hd,hk⟩
 have:=List.all_eq_true.1 hb b hb'
 simp only[Bool.and_eq_true]at this
 exact⟨Nat.le_of_ble_eq_true this.1,Nat.le_of_ble_eq_true this.2⟩
end
end Go.Vg
namespace Go.Proofs.YtdhmihfefgcbeaaGreat
open Go.Vg Go.RowKit
set_option maxRecDepth 200000
set_option cbv.maxSteps 100000000
def vals9(f:Nat->Nat):Array Value:= #[.int .u64 (.ofNat (f 0)),.int .u64 (.ofNat (f 1)),.int .u64 (.ofNat (f 2)),.int .u64 (.ofNat (f 3)),.int .u64 (.ofNat (f 4)),.int .u64 (.ofNat (f 5)),.int .u64 (.ofNat (f 6)),.int .u64 (.ofNat (f 7)),.int .u64 (.ofNat (f 8))]
theorem nine9{k:Nat}(h:k<9):k=0\/k=1\/k=2\/k=3\/k=4\/k=5\/k=6\/k=7\/k=8:=by omega
theorem vals9_get(f:Nat->Nat)(k:Nat)(h:k<9):(vals9 f)[k]? =some (.int .u64 (.ofNat (f k))):=by
 rcases nine9 h with rfl|rfl|rfl|rfl|rfl|rfl|rfl|rfl|rfl<;>rfl
def eq9(f g:Nat->Nat):Bool:=(List.range 9).all fun k=>Int.ofNat (f k)==Int.ofNat (g k)
theorem eq9_V{f g:Nat->Nat}(hf:Wn 9 f)(hg:Wn 9 g):eq9 f g=decide (V 9 f=V 9 g):=by
 rw[Bool.eq_iff_iff,decide_eq_true_iff]
 simp only[eq9,List.all_eq_true,List.mem_range,beq_iff_eq]
 constructor
 ·exact fun h=>Dg.num_congr 9 fun i hi=>Int.ofNat.inj (h i hi)
 ·exact fun h k hk=>congrArg Int.ofNat (Dg.num_inj (by decide) hf hg h k hk)
theorem eq_words9(f g:Nat->Nat)(d:Nat)(w:World):(Op.equalIn (d+2) 23 (.agg (vals9 f)) (.agg (vals9 g))).run Tryz.prog w= .ok (eq9 f g) w:=
 equalIn_array (m:=1) Tryz.underlying23 (by kernel_rfl) fun i hi=>⟨_,_,part_cell (by kernel_rfl) (by rw[Nat.mul_one];exact vals9_get f i hi),part_cell (by kernel_rfl) (by rw[Nat.mul_one];exact vals9_get g i hi),run_equalIn_int w d 22 .u64 .u64 (Int.ofNat (f i)) (Int.ofNat (g i)) Tryz.underlying22⟩
theorem eq_nat9(f g:Nat->Nat)(w:World):(Op.equalIn 10000 25 (.agg (vals9 f)) (.agg (vals9 g))).run Tryz.prog w= .ok (eq9 f g) w:=by
 rw[run_equalIn_struct w 9999 25 _ _ (by kernel_rfl) (by kernel_rfl)]
 have hf:(Tryz.prog.fieldsOf 25).toList=[{name:= "W",type:=23,offset:=0,embedded:=false,tag:= "",pkgPath:= "",byteOffset:=0}]:=by kernel_rfl
 have hp:∀h:Nat->Nat,(part 23 (vals9 h) 0).run Tryz.prog w= .ok (.agg (vals9 h)) w:=fun h=>by kernel_rfl
 rw[hf]
 simp only[Op.eqFields,Sem.run_bind,Sem.run_ite,hp,Result.andThen_ok,eq_words9 f g 9997 w]
 cases eq9 f g<;>rfl
theorem step_eq_nat{P:Program}(hP:P=Tryz.prog){g:G}{F:FF}{L:LL}{n:Nat}{o:Oper}{x y:Operand}{yt:TypeId}(ho:o.op= .binOp .eql 25 x y yt){m0 N:Nat}{ms:List Nat}(hg:GI g m0 ms N)(hd':dstLt N o.dst=true){a b:Nat->Nat}{r:Bool}(hr:r=eq9 a b)
 (hx:ev (Vg.look F) x=some (.agg (ws a 9))) (hy:ev (Vg.look F) y=some (.agg (ws b 9))) {K:FF->LL->Nat->Prop} (hK:K (putO F o.dst (.bool r)) L n):Step g P o K F L n:=by
 subst hP hr
 refine step_val hg hd' (fun β act W hm hf=> ?_) hK
 obtain⟨e1,_⟩:=evd hf hx
 obtain⟨e2,_⟩:=evd hf hy
 refine⟨?_,trivial⟩
 have h1:act.eval x= .agg (vals9 a):=e1
 have h2:act.eval y= .agg (vals9 b):=e2
 have h4:Tryz.prog.eqGuardType Tryz.prog.depth 25=false:=by kernel_rfl
 have h3:∀xs ys,(eqGuard .eql 25 x y (.agg xs) (.agg ys)).run Tryz.prog W= .ok () W:=fun xs ys=>run_eqGuard_agg W .eql 25 x y xs ys h4
 unfold execOp
 simp only[ho,h1,h2,Sem.run_bind,h3,Result.andThen_ok,run_eql_struct,eq_nat9,Sem.run_pure,den]
theorem cZero{P:Program}(hP:P=Tryz.prog)(m:Nat->Nat)(hm:Wn 9 m)(r:Bool)(hr:r=decide (V 9 m=0)):
 Con P 161 [.ptr 0 0] [⟨0,ws m 9,25⟩] 1 [] (fun v _ _=>v= .bool r):=by
 have h0:r=eq9 m (fun _=>0):=by
  rw[hr,eq9_V hm (fun _ _=>by decide)]
  rfl
 refine cof hP Tryz.func161 (bdb _ rfl) (bkb rfl) ?_
 intro A g K hA hg hK
 cases A
 cbv
 refine step_eq_nat hP rfl hg rfl (a:=m) (b:=fun _=>0) h0 rfl rfl ?_
 cbv
 exact hK _ _ _ rfl
theorem cBy{P:Program}(hP:P=Tryz.prog)(m:Nat->Nat)(n:Nat)(hm:Wn 9 m)(hn:Used 9 m n)(h0:0<n):
 ∃d s,Dv m d n s/\Con P 86 [.agg (ws m 9)] [] 0 [] (fun v L k=>v= .agg [.ptr 2 0]/\L=[⟨1,[.ptr 2 0],118⟩,⟨0,ws m 9,25⟩,⟨2,dcells d n s,215⟩]/\k=3):=by
 obtain⟨d,s,hD,hO⟩:=cOf hP m n hm hn h0
 refine⟨d,s,hD,?_⟩
 refine cof hP Tryz.func86 (bdb _ rfl) (bkb rfl) ?_
 intro A g K hA hg hK
 cases A
 cbv
 refine cgn rfl hg rfl rfl hO id rfl ⟨rfl,trivial⟩ rfl rfl rfl ?_
 rintro _ _ _ ⟨rfl,rfl,rfl⟩ _
 cbv
 exact hK _ _ _ ⟨rfl,rfl,rfl⟩
theorem cModMul{P:Program}(hP:P=Tryz.prog)(m d:Nat->Nat)(n s:Nat)(hD:Dv m d n s)(a b r:Nat->Nat)(ha:Wn 9 a)(hb:Wn 9 b)(hr:Wn 9 r)(hrV:V 9 r=V 9 a*V 9 b%V 9 m):
 Con P 143 [.agg [.ptr 0 0],.agg (ws a 9),.agg (ws b 9)] [⟨0,dcells d n s,215⟩] 1 [] (fun v _ _=>v= .agg (ws r 9)):=by
 have hab:V 9 a*V 9 b<0x10000000000000000^18:=Nat.lt_of_lt_of_le (Nat.mul_lt_mul'' (V_lt ha) (V_lt hb)) (Nat.le_of_eq (by rw[<-Nat.pow_add]))
 obtain⟨w,hw,hwV⟩:=exV 18 _ hab
 obtain⟨k,hk⟩:=used_ex w 18
 have hk18:=hk.1
 obtain⟨q,hq,hqV⟩:=exV 18 (V k w/V 9 m) (Nat.lt_of_le_of_lt (Nat.div_le_self _ _) (by rw[<-V_used hk];exact V_lt hw))
 have hM:=cMul hP a b w ha hb hw hwV
 have hL:=cLen18 hP (t:=248) w k hk
 have hV:=cDivide18 hP (t:=248) m d n s hD w k (fun j hj=>hw j (by omega)) hk18 q r hq hr hqV (by rw[hrV,<-hwV,V_used hk])
 clear hab hwV hqV hrV hq hr ha hb hD
 refine cof hP Tryz.func143 (bdb _ rfl) (bkb rfl) ?_
 intro A g K hA hg hK
 cases A
 cbv
 refine cva rfl hg rfl rfl hM ?_
 rintro _ _ _ rfl
 cbv
 refine reg_A (hP▸tblOk) hA hg (hP▸mixed) rfl rfl ?_
 cbv
 refine stepD (en_slice hg rfl rfl rfl rfl rfl (slr_arr (hP▸tblOk) (show tyT 246=some _ from rfl) rfl _ _)) ?_
 cbv
 refine stepD (enr rfl hg rfl rfl hL (fun l=>l+5) rfl ⟨rfl,trivial⟩ (fun _ _ _ h=>h) trivial) ?_
 cbv
 refine stepD (en_slice hg rfl rfl rfl rfl rfl (slr_arr_h (hP▸tblOk) (show tyT 246=some _ from rfl) rfl _ _ hk18)) ?_
 cbv
 refine stepD (enr rfl hg rfl rfl hV (fun l=>5*l) rfl ⟨rfl,rfl,trivial⟩ (fun _ _ _ h=>h) (by simp[bd,bdL,ws,lst])) ?_
 cbv
 exact hK _ _ _ rfl
theorem cDiv{P:Program}(hP:P=Tryz.prog)(a m q r:Nat->Nat)(ha:Wn 9 a)(hm:Wn 9 m)(hm0:0<V 9 m)(hq:Wn 9 q)(hr:Wn 9 r)(hqV:V 9 q=V 9 a/V 9 m)(hrV:V 9 r=V 9 a%V 9 m):
 Con P 162 [.agg (ws a 9),.agg (ws m 9)] [] 0 [] (fun v _ _=>v= .tup [.agg (ws q 9),.agg (ws r 9),.int .i64 0]):=by
 obtain⟨n,hn⟩:=used_ex m 9
 have hn0:0<n:=by
  rcases Nat.eq_zero_or_pos n with h|h
  ·rw[V_used hn,h]at hm0;exact absurd hm0 (Nat.lt_irrefl 0)
  ·exact h
 obtain⟨d,s,hD,hO⟩:=cOf hP m n hm hn hn0
 have hZ:=cZero hP m hm false (decide_eq_false (Nat.pos_iff_ne_zero.1 hm0)).symm
 obtain⟨q2,hq2⟩:=exq (fun j=>if j<9 then q j else 0:Nat->Nat)
 have hq2W:Wn 18 q2:=fun j _=>by
  rw[hq2];show(if j<9 then q j else 0)<_
  split
  ·exact hq j (by omega)
  ·decide
 have hq2V:V 18 q2=V 9 q:=by
  have h1:V 18 q2=V 9 q2:=Dg.num_zero q2 9 9 fun i h1 _=>by rw[hq2];exact if_neg (by omega)
  have h2:V 9 q2=V 9 q:=Dg.num_congr 9 fun i hi=>by rw[hq2];exact if_pos hi
  exact h1.trans h2
 have hV:=cDivide9 hP (t:=25) m d n s hD a 9 ha (Nat.le_refl 9) q2 r hq2W hr (hq2V.trans hqV) hrV
 have hq9:ws q2 9=ws q 9:=lcg fun j _ hj=>by rw[hq2];simp only[if_pos (show j<9 by omega)]
 clear hq2 hq2W hq2V hqV hrV hq hr hD ha hm hm0
 refine cof hP Tryz.func162 (bdb _ rfl) (bkb rfl) ?_
 intro A g K hA hg hK
 cases A
 cbv
 refine cro rfl hg rfl rfl hZ (fun l=>l+1) rfl ⟨rfl,trivial⟩ ?_
 rintro _ _ _ rfl
 cbv
 refine reg_A (hP▸tblOk) hA hg (hP▸mixed) rfl rfl ?_
 cbv
 refine stepDn (n':=5) (en_new rfl hg rfl rfl hO (fun l=>l+1) rfl ⟨rfl,trivial⟩ rfl (val:= .ptr 1 0) (NB:=[⟨1,dcells d n s,215⟩]) (n:=4) (n1:=2) (fun _ _ _ h=>⟨h.1,h.2.1,h.2.2⟩) rfl rfl (fun l h1 h2=>⟨_,List.mem_cons_self,(by show 1=l;omega)⟩)) (by decide) rfl (List.nodup_cons.2 ⟨List.not_mem_nil,List.nodup_nil⟩) ?_
 cbv
 refine stepD (en_slice hg rfl rfl rfl rfl rfl (slr_arr (hP▸tblOk) (show tyT 23=some _ from rfl) rfl _ _)) ?_
 cbv
 refine stepD (enr rfl hg rfl rfl hV (fun l=>4*(1-l)) rfl ⟨rfl,rfl,trivial⟩ (fun _ _ _ h=>h) (by simp[bd,bdL,ws,lst])) ?_
 cbv
 refine reg_X (hP▸tblOk) hA hg (hP▸mixed) rfl rfl ?_
 cbv
 refine stepD (en_slice hg rfl rfl rfl rfl rfl (slr_arr_h (hP▸tblOk) (show tyT 246=some _ from rfl) rfl _ _ (j:=9) (by decide))) ?_
 cbv
 refine stepD (en_s2ap (hP▸tblOk) hg rfl rfl (show tyT 23=some _ from rfl) rfl rfl (by decide)) ?_
 cbv
 refine hK _ _ _ ?_
 rw[<-hq9]
 rfl
theorem mod_cancel{x y c M:Nat}(h:(x+c)%M=(y+c)%M):x%M=y%M:=by
 have h1:((x:Int)+c)%M=((y:Int)+c)%M:=by exact_mod_cast congrArg (Nat.cast (R:=Int)) h
 have h2:=(Int.emod_add_cancel_right (c:Int)).1 h1
 exact_mod_cast h2
theorem inv_step{a M o w s t less next:Nat}(hs:s*a%M=o%M)(ht:t*a%M=w%M)(hl:less=o/w*t%M)(hn:next+less=s\/next+less=s+M):next*a%M=o%w%M:=by
 apply mod_cancel (c:=less*a)
 have h1:(next*a+less*a)%M=o%M:=by
  rw[<-Nat.add_mul]
  rcases hn with h|h
  ·rw[h];exact hs
  ·rw[h,Nat.add_mul,Nat.add_mul_mod_self_left];exact hs
 have h2:less*a%M=o/w*w%M:=by
  rw[hl,Nat.mul_mod,Nat.mod_mod,<-Nat.mul_mod,Nat.mul_assoc,Nat.mul_mod,ht,<-Nat.mul_mod]
 rw[h1,Nat.add_mod,h2,<-Nat.add_mod,Nat.add_comm,Nat.mul_comm,Nat.div_add_mod]
theorem inv_unique{s i a M:Nat}(hs:s<M)(hi:i<M)(h1:s*a%M=1)(h2:i*a%M=1)(hM:2<=M):s=i:=by
 have e1:s*(i*a)%M=s:=by
  rw[Nat.mul_mod,h2,Nat.mul_one,Nat.mod_mod,Nat.mod_eq_of_lt hs]
 have e2:i*(s*a)%M=i:=by
  rw[Nat.mul_mod,h1,Nat.mul_one,Nat.mod_mod,Nat.mod_eq_of_lt hi]
 exact e1.symm.trans ((congrArg (· %M) (Nat.mul_left_comm s i a)).trans e2)
theorem sub_wrap{s less M B r:Nat}(hs:s<M)(hl:less<M)(hM:M<=B)(hr:r=(s+B-less)%B):(¬s<less->r+less=s/\r<M)/\(s<less->(r+M)%B+less=s+M/\(r+M)%B<M):=by
 constructor
 ·intro h
  have:r=s-less:=by rw[hr,show s+B-less=(s-less)+B by omega,Nat.add_mod_right,Nat.mod_eq_of_lt (by omega)]
  omega
 ·intro h
  have h1:r=s+B-less:=by rw[hr,Nat.mod_eq_of_lt (by omega)]
  have h2:(r+M)%B=s+M-less:=by rw[h1,show s+B-less+M=(s+M-less)+B by omega,Nat.add_mod_right,Nat.mod_eq_of_lt (by omega)]
  omega
section
theorem en_cmp_nat{P:Program}(hP:P=Tryz.prog){g:G}{o:Oper}{x y:Operand}{yt:TypeId}{N m0:Nat}{ms:List Nat}(hg:GI g m0 ms N)(hd':dstLt N o.dst=true){F:Nat->Option SV}{M:Nat->Option Blk}{a b:Nat->Nat}{r:Bool}
 (ho:(o.op= .binOp .neq 25 x y yt/\r= !eq9 a b)\/(o.op= .binOp .eql 25 x y yt/\r=eq9 a b))
 (hx:ev F x=some (.agg (ws a 9))) (hy:ev F y=some (.agg (ws b 9))):EN g P o F M (.bool r) []:=by
 subst hP
 refine en_out hg hd' fun β p F' L' act W hF hM hm hf=> ?_
 have E:∀z∈o.op.operands.toList,ev F' z=ev F z:=fun z hz=>ev_congr fun t ht=>hF t (tmpsL_mem hz ht)
 have h4:Tryz.prog.eqGuardType Tryz.prog.depth 25=false:=by kernel_rfl
 rcases ho with⟨ho,hr⟩|⟨ho,hr⟩
 ·rw[ho]at E
  obtain⟨e1,_⟩:=evd hf ((E x (by simp[Op.operands])).trans hx)
  obtain⟨e2,_⟩:=evd hf ((E y (by simp[Op.operands])).trans hy)
  refine⟨?_,trivial⟩
  have h1:act.eval x= .agg (vals9 a):=e1
  have h2:act.eval y= .agg (vals9 b):=e2
  have h3:∀xs ys,(eqGuard .neq 25 x y (.agg xs) (.agg ys)).run Tryz.prog W= .ok () W:=fun xs ys=>run_eqGuard_agg W .neq 25 x y xs ys h4
  unfold execOp
  simp only[ho,h1,h2,Sem.run_bind,h3,Result.andThen_ok,run_neq_struct,eq_nat9,Sem.run_pure,den,hr]
 ·rw[ho]at E
  obtain⟨e1,_⟩:=evd hf ((E x (by simp[Op.operands])).trans hx)
  obtain⟨e2,_⟩:=evd hf ((E y (by simp[Op.operands])).trans hy)
  refine⟨?_,trivial⟩
  have h1:act.eval x= .agg (vals9 a):=e1
  have h2:act.eval y= .agg (vals9 b):=e2
  have h3:∀xs ys,(eqGuard .eql 25 x y (.agg xs) (.agg ys)).run Tryz.prog W= .ok () W:=fun xs ys=>run_eqGuard_agg W .eql 25 x y xs ys h4
  unfold execOp
  simp only[ho,h1,h2,Sem.run_bind,h3,Result.andThen_ok,run_eql_struct,eq_nat9,Sem.run_pure,den,hr]
end
theorem cInverse{P:Program}(hP:P=Tryz.prog)(a m i:Nat->Nat)(ha:Wn 9 a)(hm:Wn 9 m)(hi:Wn 9 i)(hm2:2<=V 9 m)(e:Int)
 (h1:Nat.gcd (V 9 a) (V 9 m)=1->V 9 i<V 9 m/\V 9 i*V 9 a%V 9 m=1/\e=0) (h2:Nat.gcd (V 9 a) (V 9 m)≠1->V 9 i=0/\e=401):
 Con P 147 [.agg (ws a 9),.agg (ws m 9)] [] 0 [] (fun v _ _=>v= .tup [.agg (ws i 9),.int .i64 e]):=by
 have hm0:0<V 9 m:=by omega
 obtain⟨n,hn⟩:=used_ex m 9
 have hn0:0<n:=by
  rcases Nat.eq_zero_or_pos n with h|h
  ·rw[V_used hn,h]at hm0;exact absurd hm0 (Nat.lt_irrefl 0)
  ·exact h
 have hZ:=cZero hP m hm false (decide_eq_false (Nat.pos_iff_ne_zero.1 hm0)).symm
 obtain⟨q0,hq0,hq0V⟩:=exV 9 (V 9 a/V 9 m) (Nat.lt_of_le_of_lt (Nat.div_le_self _ _) (V_lt ha))
 obtain⟨r0,hr0,hr0V⟩:=exV 9 (V 9 a%V 9 m) (Nat.lt_trans (Nat.mod_lt _ hm0) (V_lt hm))
 have hDiv:=cDiv hP a m q0 r0 ha hm hm0 hq0 hr0 hq0V hr0V
 obtain⟨one,h1e⟩:=exq (fun j=>if j=0 then 1 else 0:Nat->Nat)
 have hOne:=cSmall hP 1 (by decide) one h1e
 have hoW:Wn 9 one:=fun j _=>by rw[h1e];show(if j=0 then 1 else 0)<_;split<;>decide
 have hoV:V 9 one=1:=by rw[h1e];rfl
 obtain⟨d,sh0,hD,hBy⟩:=cBy hP m n hm hn hn0
 refine cof hP Tryz.func147 (bdb _ rfl) (bkb rfl) ?_
 intro A g K hA hg hK
 obtain⟨_,_,_,_,_,_,_,_,bnot⟩:=A
 cbv
 refine cro rfl hg rfl rfl hZ (fun l=>l+1) rfl ⟨rfl,trivial⟩ ?_
 rintro _ _ _ rfl
 cbv
 refine cva rfl hg rfl rfl hDiv ?_
 rintro _ _ _ rfl
 cbv
 refine reg_X (hP▸tblOk) hA hg (hP▸mixed) rfl rfl ?_
 cbv
 refine cva rfl hg rfl rfl hOne ?_
 rintro _ _ _ rfl
 cbv
 refine cgn rfl hg rfl rfl hBy id rfl trivial rfl rfl rfl ?_
 rintro _ _ _ ⟨rfl,rfl,rfl⟩ _
 cbv
 obtain⟨B,hB⟩:=exq (0x10000000000000000^9)
 have hmB:V 9 m<B:=by rw[hB];exact V_lt hm
 refine lpb ((Nat->Nat)×(Nat->Nat)×(Nat->Nat)×(Nat->Nat)) (fun σ=>Wn 9 σ.1/\Wn 9 σ.2.1/\Wn 9 σ.2.2.1/\Wn 9 σ.2.2.2/\Nat.gcd (V 9 σ.1) (V 9 σ.2.1)=Nat.gcd (V 9 a) (V 9 m)/\V 9 σ.2.2.1*V 9 a%V 9 m=V 9 σ.1%V 9 m/\V 9 σ.2.2.2*V 9 a%V 9 m=V 9 σ.2.1%V 9 m/\V 9 σ.2.2.1<V 9 m/\V 9 σ.2.2.2<V 9 m) (fun σ=>V 9 σ.2.1)
  (fun σ=> []) [3,4,9,10,11,12,13] (fun σ=> [(5,ws σ.1 9),(6,ws σ.2.1 9),(7,ws σ.2.2.1 9),(8,ws σ.2.2.2 9)]) (m,r0,(fun _=>0),one) ⟨hm,hr0,(fun _ _=>by show 0<_;decide),hoW,?_,?_,?_,?_,?_⟩ ?_ ?_
 ·show Nat.gcd (V 9 m) (V 9 r0)=_
  rw[hr0V,Nat.gcd_comm (V 9 m),<-Nat.gcd_rec,Nat.gcd_comm]
 ·show V 9 (fun _=>0)*V 9 a%V 9 m=V 9 m%V 9 m
  rw[show V 9 (fun _=>0)=0 from rfl,Nat.zero_mul,Nat.mod_self,Nat.zero_mod]
 ·show V 9 one*V 9 a%V 9 m=V 9 r0%V 9 m
  rw[hoV,Nat.one_mul,hr0V,Nat.mod_mod]
 ·show V 9 (fun _=>0)<V 9 m
  exact hm0
 ·show V 9 one<V 9 m
  rw[hoV];exact hm2
 ·exact wkid
 clear hDiv hq0V hr0V
 rintro⟨o,w,s,t⟩ ⟨ho',hw',hs',ht',hg',hsa',hta',hsM',htM'⟩
 have ho:Wn 9 o:=ho'
 have hw:Wn 9 w:=hw'
 have hs:Wn 9 s:=hs'
 have ht:Wn 9 t:=ht'
 have hgc:Nat.gcd (V 9 o) (V 9 w)=Nat.gcd (V 9 a) (V 9 m):=hg'
 have hsa:V 9 s*V 9 a%V 9 m=V 9 o%V 9 m:=hsa'
 have hta:V 9 t*V 9 a%V 9 m=V 9 w%V 9 m:=hta'
 have hsM:V 9 s<V 9 m:=hsM'
 have htM:V 9 t<V 9 m:=htM'
 clear ho' hw' hs' ht' hg' hsa' hta' hsM' htM'
 by_cases hw0:V 9 w=0
 ·cbv
  refine cro rfl hg rfl rfl (cZero hP w hw true (decide_eq_true hw0).symm) (fun l=>l+6) rfl ⟨rfl,trivial⟩ ?_
  rintro _ _ _ rfl
  cbv
  rw[show bnot true=false from bnot_of hA true]
  cbv
  have hgo:V 9 o=Nat.gcd (V 9 a) (V 9 m):=by rw[<-hgc,hw0,Nat.gcd_zero_right]
  have hm1:V 9 m≠1:=by omega
  refine reg_A (hP▸tblOk) hA hg (hP▸mixed) rfl rfl ?_
  by_cases ho1:V 9 o=1
  ·obtain⟨i1,i2,i3⟩:=h1 (by rw[<-hgo];exact ho1)
   have hsi:ws i 9=ws s 9:=V_inj hi hs (inv_unique i1 hsM i2 (by rw[hsa,ho1];exact Nat.mod_eq_of_lt hm2) hm2)
   cbv
   refine stepD (en_val rfl hg rfl rfl hOne (fun _ _ _ h=>h) (by simp[bd,bdL,ws,lst])) ?_
   cbv
   refine stepD (en_cmp_nat hP hg rfl (a:=o) (b:=one) (r:=false) (Or.inl ⟨rfl,by rw[eq9_V ho hoW,hoV,decide_eq_true ho1];rfl⟩) rfl rfl) ?_
   cbv
   refine stepD (en_val rfl hg rfl rfl hOne (fun _ _ _ h=>h) (by simp[bd,bdL,ws,lst])) ?_
   cbv
   refine stepD (en_cmp_nat hP hg rfl (a:=m) (b:=one) (r:=false) (Or.inr ⟨rfl,by rw[eq9_V hm hoW,hoV,decide_eq_false hm1]⟩) rfl rfl) ?_
   cbv
   refine hK _ _ _ ?_
   rw[hsi,i3]
   rfl
  ·obtain⟨i1,i2⟩:=h2 (by rw[<-hgo];exact ho1)
   have hsi:ws i 9=ws (fun _=>0) 9:=V_inj (g:=fun _=>0) hi (fun _ _=>by show 0<_;decide) (i1.trans rfl)
   cbv
   refine stepD (en_val rfl hg rfl rfl hOne (fun _ _ _ h=>h) (by simp[bd,bdL,ws,lst])) ?_
   cbv
   refine stepD (en_cmp_nat hP hg rfl (a:=o) (b:=one) (r:=true) (Or.inl ⟨rfl,by rw[eq9_V ho hoW,hoV,decide_eq_false ho1];rfl⟩) rfl rfl) ?_
   cbv
   refine hK _ _ _ ?_
   rw[hsi,i2]
   rfl
 ·have hw1:0<V 9 w:=Nat.pos_of_ne_zero hw0
  obtain⟨q,hq,hqV⟩:=exV 9 (V 9 o/V 9 w) (Nat.lt_of_le_of_lt (Nat.div_le_self _ _) (V_lt ho))
  obtain⟨r,hr,hrV⟩:=exV 9 (V 9 o%V 9 w) (Nat.lt_trans (Nat.mod_lt _ hw1) (V_lt hw))
  obtain⟨l,hl,hlV⟩:=exV 9 (V 9 q*V 9 t%V 9 m) (Nat.lt_trans (Nat.mod_lt _ hm0) (V_lt hm))
  have hlM:V 9 l<V 9 m:=by rw[hlV];exact Nat.mod_lt _ hm0
  obtain⟨c,hc,hcV⟩:=exV 9 ((V 9 s+0x10000000000000000^9-V 9 l)%0x10000000000000000^9) (Nat.mod_lt _ (Nat.pow_pos (by decide)))
  obtain⟨f1,f2⟩:=sub_wrap (B:=B) (r:=V 9 c) hsM hlM (Nat.le_of_lt hmB) (by rw[hB];exact hcV)
  have hgn:Nat.gcd (V 9 w) (V 9 r)=Nat.gcd (V 9 a) (V 9 m):=by
   rw[hrV,Nat.gcd_comm (V 9 w),<-Nat.gcd_rec,Nat.gcd_comm];exact hgc
  have hrlt:V 9 r<V 9 w:=by rw[hrV];exact Nat.mod_lt _ hw1
  cbv
  refine cro rfl hg rfl rfl (cZero hP w hw false (decide_eq_false hw0).symm) (fun l=>l+6) rfl ⟨rfl,trivial⟩ ?_
  rintro _ _ _ rfl
  cbv
  rw[show bnot false=true from bnot_of hA false]
  cbv
  refine cva rfl hg rfl rfl (cDiv hP o w q r ho hw hw1 hq hr hqV hrV) ?_
  rintro _ _ _ rfl
  cbv
  refine reg_X (hP▸tblOk) hA hg (hP▸mixed) rfl rfl ?_
  cbv
  refine cro rfl hg rfl rfl (cModMul hP m d n sh0 hD q t l hq ht hl hlV) (fun l=>l+11) rfl ⟨rfl,trivial⟩ ?_
  rintro _ _ _ rfl
  cbv
  by_cases hu:V 9 s<V 9 l
  ·obtain⟨x,hx,hxV⟩:=exV 9 ((V 9 c+V 9 m)%0x10000000000000000^9) (Nat.mod_lt _ (Nat.pow_pos (by decide)))
   have f3:=f2 hu
   rw[hB,<-hxV]at f3
   refine cva rfl hg rfl rfl (cSub hP s l c hs hl hc true hcV (decide_eq_true hu).symm) ?_
   rintro _ _ _ rfl
   cbv
   obtain⟨o2,ho2⟩:=exq (decide (0x10000000000000000^9<=V 9 c+V 9 m))
   refine cva rfl hg rfl rfl (cAdd hP c m x hc hm hx o2 hxV ho2) ?_
   rintro _ _ _ rfl
   cbv
   refine reg_X (hP▸tblOk) hA hg (hP▸mixed) rfl rfl ?_
   cbv
   refine⟨(w,r,t,x),id,⟨hw,hr,ht,hx,hgn,hta,?_,htM,f3.2⟩,hrlt,?_⟩
   ·show V 9 x*V 9 a%V 9 m=V 9 r%V 9 m
    rw[hrV];exact inv_step hsa hta (by rw[hlV,hqV]) (Or.inr f3.1)
   ·exact wkid
  ·have f3:=f1 hu
   refine cva rfl hg rfl rfl (cSub hP s l c hs hl hc false hcV (decide_eq_false hu).symm) ?_
   rintro _ _ _ rfl
   cbv
   refine reg_X (hP▸tblOk) hA hg (hP▸mixed) rfl rfl ?_
   cbv
   refine⟨(w,r,t,c),id,⟨hw,hr,ht,hc,hgn,hta,?_,htM,f3.2⟩,hrlt,?_⟩
   ·show V 9 c*V 9 a%V 9 m=V 9 r%V 9 m
    rw[hrV];exact inv_step hsa hta (by rw[hlV,hqV]) (Or.inl f3.1)
   ·exact wkid
def fcells(p:Nat->Nat)(l:Nat):List SV:=lst .u64 (fun j=>Int.ofNat (p j)) 0 9++[.ptr l 0]
theorem fadd_cases{a b p B c d r:Nat}(ha:a<p)(hb:b<p)(hp:p<B)(hc:c=(a+b)%B)(hd:d=(c+B-p)%B)(hr:r=(a+b)%p):(B<=a+b->c<p/\r=d)/\(¬B<=a+b->c<p->r=c)/\(¬B<=a+b->¬c<p->r=d):=by
 refine⟨fun h=> ?_,fun h h1=> ?_,fun h h1=> ?_⟩
 ·have e1:c=a+b-B:=by rw[hc,Nat.mod_eq_sub_mod h,Nat.mod_eq_of_lt (by omega)]
  have e2:d=c+B-p:=by rw[hd,Nat.mod_eq_of_lt (by omega)]
  have e3:r=a+b-p:=by rw[hr,Nat.mod_eq_sub_mod (by omega),Nat.mod_eq_of_lt (by omega)]
  omega
 ·have e1:c=a+b:=by rw[hc,Nat.mod_eq_of_lt (by omega)]
  rw[hr,<-e1,Nat.mod_eq_of_lt h1]
 ·have e1:c=a+b:=by rw[hc,Nat.mod_eq_of_lt (by omega)]
  have e2:d=c-p:=by rw[hd,show c+B-p=(c-p)+B by omega,Nat.add_mod_right,Nat.mod_eq_of_lt (by omega)]
  have e3:r=a+b-p:=by rw[hr,Nat.mod_eq_sub_mod (by omega),Nat.mod_eq_of_lt (by omega)]
  omega
theorem fsub_cases{a b p B c d r:Nat}(ha:a<p)(hb:b<p)(hp:p<B)(hc:c=(a+B-b)%B)(hd:d=(c+p)%B)(hr:r=(a+p-b)%p):(a<b->r=d)/\(¬a<b->r=c):=by
 refine⟨fun h=> ?_,fun h=> ?_⟩
 ·have e1:c=a+B-b:=by rw[hc,Nat.mod_eq_of_lt (by omega)]
  have e2:d=a+p-b:=by rw[hd,e1,show a+B-b+p=(a+p-b)+B by omega,Nat.add_mod_right,Nat.mod_eq_of_lt (by omega)]
  rw[hr,Nat.mod_eq_of_lt (by omega),e2]
 ·have e1:c=a-b:=by rw[hc,show a+B-b=(a-b)+B by omega,Nat.add_mod_right,Nat.mod_eq_of_lt (by omega)]
  rw[hr,show a+p-b=(a-b)+p by omega,Nat.add_mod_right,Nat.mod_eq_of_lt (by omega),e1]
theorem cFAdd{P:Program}(hP:P=Tryz.prog)(p a b r:Nat->Nat)(hp:Wn 9 p)(ha:Wn 9 a)(hb:Wn 9 b)(hr:Wn 9 r)(haM:V 9 a<V 9 p)(hbM:V 9 b<V 9 p)(hrV:V 9 r=(V 9 a+V 9 b)%V 9 p):
 Con P 63 [.ptr 0 0,.agg (ws a 9),.agg (ws b 9)] [⟨0,fcells p 1,120⟩] 2 [] (fun v _ _=>v= .agg (ws r 9)):=by
 obtain⟨c,hc,hcV⟩:=exV 9 ((V 9 a+V 9 b)%0x10000000000000000^9) (Nat.mod_lt _ (Nat.pow_pos (by decide)))
 obtain⟨d,hd,hdV⟩:=exV 9 ((V 9 c+0x10000000000000000^9-V 9 p)%0x10000000000000000^9) (Nat.mod_lt _ (Nat.pow_pos (by decide)))
 obtain⟨k1,k2,k3⟩:=fadd_cases haM hbM (V_lt hp) hcV hdV hrV
 have hA0:=fun o ho=>cAdd hP a b c ha hb hc o hcV ho
 have hS0:=fun o ho=>cSub hP c p d hc hp hd o hdV ho
 generalize hB:(0x10000000000000000^9:Nat)=B at *
 clear hcV hdV hrV
 refine cof hP Tryz.func63 (bdb _ rfl) (bkb rfl) ?_
 intro A g K hA hg hK
 obtain⟨_,_,_,_,_,_,_,_,bnot⟩:=A
 by_cases ho:B<=V 9 a+V 9 b
 ·obtain⟨h3,h4⟩:=k1 ho
  have e:ws r 9=ws d 9:=V_inj hr hd h4
  have hA1:=hA0 true (decide_eq_true ho).symm
  have hS1:=hS0 true (decide_eq_true h3).symm
  clear hA0 hS0
  cbv
  refine cva rfl hg rfl rfl hA1 ?_
  rintro _ _ _ rfl
  cbv
  refine reg_A (hP▸tblOk) hA hg (hP▸mixed) rfl rfl ?_
  cbv
  refine stepD (en_val rfl hg rfl rfl hS1 (fun _ _ _ h=>h) (by simp[bd,bdL,ws,lst])) ?_
  cbv
  refine hK _ _ _ ?_
  rw[e];rfl
 ·by_cases h3:V 9 c<V 9 p
  ·have e:ws r 9=ws c 9:=V_inj hr hc (k2 ho h3)
   have hA1:=hA0 false (decide_eq_false ho).symm
   have hS1:=hS0 true (decide_eq_true h3).symm
   clear hA0 hS0
   cbv
   refine cva rfl hg rfl rfl hA1 ?_
   rintro _ _ _ rfl
   cbv
   refine reg_A (hP▸tblOk) hA hg (hP▸mixed) rfl rfl ?_
   cbv
   refine stepD (en_val rfl hg rfl rfl hS1 (fun _ _ _ h=>h) (by simp[bd,bdL,ws,lst])) ?_
   cbv
   rw[show bnot true=false from bnot_of hA true]
   cbv
   refine hK _ _ _ ?_
   rw[e];rfl
  ·have e:ws r 9=ws d 9:=V_inj hr hd (k3 ho h3)
   have hA1:=hA0 false (decide_eq_false ho).symm
   have hS1:=hS0 false (decide_eq_false h3).symm
   clear hA0 hS0
   cbv
   refine cva rfl hg rfl rfl hA1 ?_
   rintro _ _ _ rfl
   cbv
   refine reg_A (hP▸tblOk) hA hg (hP▸mixed) rfl rfl ?_
   cbv
   refine stepD (en_val rfl hg rfl rfl hS1 (fun _ _ _ h=>h) (by simp[bd,bdL,ws,lst])) ?_
   cbv
   rw[show bnot false=true from bnot_of hA false]
   cbv
   refine hK _ _ _ ?_
   rw[e];rfl
theorem cFSub{P:Program}(hP:P=Tryz.prog)(p a b r:Nat->Nat)(hp:Wn 9 p)(ha:Wn 9 a)(hb:Wn 9 b)(hr:Wn 9 r)(haM:V 9 a<V 9 p)(hbM:V 9 b<V 9 p)(hrV:V 9 r=(V 9 a+V 9 p-V 9 b)%V 9 p):
 Con P 120 [.ptr 0 0,.agg (ws a 9),.agg (ws b 9)] [⟨0,fcells p 1,120⟩] 2 [] (fun v _ _=>v= .agg (ws r 9)):=by
 obtain⟨c,hc,hcV⟩:=exV 9 ((V 9 a+0x10000000000000000^9-V 9 b)%0x10000000000000000^9) (Nat.mod_lt _ (Nat.pow_pos (by decide)))
 obtain⟨d,hd,hdV⟩:=exV 9 ((V 9 c+V 9 p)%0x10000000000000000^9) (Nat.mod_lt _ (Nat.pow_pos (by decide)))
 obtain⟨k1,k2⟩:=fsub_cases haM hbM (V_lt hp) hcV hdV hrV
 have hS0:=fun o ho=>cSub hP a b c ha hb hc o hcV ho
 have hA0:=fun o ho=>cAdd hP c p d hc hp hd o hdV ho
 generalize hB:(0x10000000000000000^9:Nat)=B at *
 clear hcV hdV hrV
 refine cof hP Tryz.func120 (bdb _ rfl) (bkb rfl) ?_
 intro A g K hA hg hK
 cases A
 by_cases h3:V 9 a<V 9 b
 ·have e:ws r 9=ws d 9:=V_inj hr hd (k1 h3)
  have hS1:=hS0 true (decide_eq_true h3).symm
  obtain⟨o2,ho2⟩:=exq (decide (B<=V 9 c+V 9 p))
  have hA1:=hA0 o2 ho2
  clear hA0 hS0 ho2
  cbv
  refine cva rfl hg rfl rfl hS1 ?_
  rintro _ _ _ rfl
  cbv
  refine rgM hP hA hg fun mk _=> ?_
  cbv
  refine stepD (en_val rfl hg rfl rfl hA1 (fun _ _ _ h=>h) (by simp[bd,bdL,ws,lst])) ?_
  cbv
  refine hK _ _ _ ?_
  rw[e];rfl
 ·have e:ws r 9=ws c 9:=V_inj hr hc (k2 h3)
  have hS1:=hS0 false (decide_eq_false h3).symm
  clear hA0 hS0
  cbv
  refine cva rfl hg rfl rfl hS1 ?_
  rintro _ _ _ rfl
  cbv
  refine hK _ _ _ ?_
  rw[e];rfl
theorem cFMul{P:Program}(hP:P=Tryz.prog)(p d:Nat->Nat)(n s:Nat)(hD:Dv p d n s)(a b r:Nat->Nat)(ha:Wn 9 a)(hb:Wn 9 b)(hr:Wn 9 r)(hrV:V 9 r=V 9 a*V 9 b%V 9 p):
 Con P 121 [.ptr 0 0,.agg (ws a 9),.agg (ws b 9)] [⟨0,fcells p 1,120⟩,⟨1,dcells d n s,215⟩] 2 [] (fun v _ _=>v= .agg (ws r 9)):=by
 have hM:=cModMul hP p d n s hD a b r ha hb hr hrV
 refine cof hP Tryz.func121 (bdb _ rfl) (bkb rfl) ?_
 intro A g K hA hg hK
 cases A
 cbv
 refine rgM hP hA hg fun mk _=> ?_
 cbv
 refine stepD (enr rfl hg rfl rfl hM (fun l=>l+1) rfl ⟨rfl,trivial⟩ (fun _ _ _ h=>h) (by simp[bd,bdL,ws,lst])) ?_
 cbv
 exact hK _ _ _ rfl
theorem cFInv{P:Program}(hP:P=Tryz.prog)(p a i:Nat->Nat)(hp:Wn 9 p)(ha:Wn 9 a)(hi:Wn 9 i)(hp2:2<=V 9 p)(h1:Nat.gcd (V 9 a) (V 9 p)=1->V 9 i<V 9 p/\V 9 i*V 9 a%V 9 p=1)(h2:Nat.gcd (V 9 a) (V 9 p)≠1->V 9 i=0):
 Con P 125 [.ptr 0 0,.agg (ws a 9)] [⟨0,fcells p 1,120⟩] 2 [] (fun v _ _=>v= .agg (ws i 9)):=by
 obtain⟨e,he⟩:=exq (if Nat.gcd (V 9 a) (V 9 p)=1 then 0 else 401:Int)
 have hI:=cInverse hP a p i ha hp hi hp2 e (fun h=>⟨(h1 h).1,(h1 h).2,by rw[he,if_pos h]⟩) (fun h=>⟨h2 h,by rw[he,if_neg h]⟩)
 clear he
 refine cof hP Tryz.func125 (bdb _ rfl) (bkb rfl) ?_
 intro A g K hA hg hK
 cases A
 cbv
 refine reg_A (hP▸tblOk) hA hg (hP▸mixed) rfl rfl ?_
 cbv
 refine stepD (en_val rfl hg rfl rfl hI (fun _ _ _ h=>h) (by simp[bd,bdL,ws,lst])) ?_
 cbv
 exact hK _ _ _ rfl
def hexc(d:Nat):UInt8:=UInt8.ofNat (if d<10 then 48+d else 87+d)
def hexS(x n:Nat):ByteArray:=⟨⟨(List.range n).map fun i=>hexc (x/16^(n-1-i)%16)⟩⟩
def primeN:Nat->Nat
 |1=>0xfffffffffffffffffffffffffffffffeffffffffffffffff
 |2=>0xffffffffffffffffffffffffffffffff000000000000000000000001
 |3=>0xffffffff00000001000000000000000000000000ffffffffffffffffffffffff
 |4=>0xfffffffffffffffffffffffffffffffffffffffffffffffffffffffffffffffeffffffff0000000000000000ffffffff
 |5=>0x1ffffffffffffffffffffffffffffffffffffffffffffffffffffffffffffffffffffffffffffffffffffffffffffffffffffffffffffffffffffffffffffffffff
 |6=>0xfffffffffffffffffffffffffffffffffffffffffffffffffffffffefffffc2f
 |7=>0xe95e4a5f737059dc60dfc7ad95b3d8139515620f
 |8=>0xd7c134aa264366862a18302575d1d787b09f075797da89f57ec8c0ff
 |9=>0xa9fb57dba1eea9bc3e660a909d838d726e3bf623d52620282013481d1f6e5377
 |10=>0xd35e472036bc4fb7e13c785ed201e065f98fcfa6f6f40def4f92b9ec7893ec28fcd412b1f1b32e27
 |11=>0x8cb91e82a3386d280f5d6f7e50e641df152f7109ed5456b412b1da197fb71123acd3a729901d1a71874700133107ec53
 |12=>0xaadd9db8dbe9c48b3fd4e6ae33c9fc07cb308db3b3c9d20ed6639cca703308717d4d9b009bc66842aecda12ae6a380e62881ff2f2d82c68528aa6056583a48f3
 |13=>251
 |14=>241
 |15=>239
 |_=>0
def primeL:Nat->Nat
 |1=>48
 |2=>56
 |3=>64
 |4=>96
 |5=>132
 |6=>64
 |7=>40
 |8=>56
 |9=>64
 |10=>80
 |11=>96
 |12=>128
 |13=>2
 |14=>2
 |15=>2
 |_=>0
def primeB(x:Int):ByteArray:=
 if x=1 then hexS (primeN 1) (primeL 1)else if x=2 then hexS (primeN 2) (primeL 2)else if x=3 then hexS (primeN 3) (primeL 3)else if x=4 then hexS (primeN 4) (primeL 4)else if x=5 then hexS (primeN 5) (primeL 5)else if x=6 then hexS (primeN 6) (primeL 6)else if x=7 then hexS (primeN 7) (primeL 7)else if x=8 then hexS (primeN 8) (primeL 8)else if x=9 then hexS (primeN 9) (primeL 9)else if x=10 then hexS (primeN 10) (primeL 10)else if x=11 then hexS (primeN 11) (primeL 11)else if x=12 then hexS (primeN 12) (primeL 12)else if x=13 then hexS (primeN 13) (primeL 13)else if x=14 then hexS (primeN 14) (primeL 14)else if x=15 then hexS (primeN 15) (primeL 15)else⟨⟨[]⟩⟩
theorem primeB_of(k:Nat)(hk:1<=k/\k<=15):primeB (Int.ofNat k)=hexS (primeN k) (primeL k):=by
 have:k=1\/k=2\/k=3\/k=4\/k=5\/k=6\/k=7\/k=8\/k=9\/k=10\/k=11\/k=12\/k=13\/k=14\/k=15:=by omega
 rcases this with rfl|rfl|rfl|rfl|rfl|rfl|rfl|rfl|rfl|rfl|rfl|rfl|rfl|rfl|rfl<;>rfl
theorem cPrime{P:Program}(hP:P=Tryz.prog)(x:Int)(b:ByteArray)(hb:b=primeB x):Con P 85 [.int .i64 x] [] 0 [] (fun v _ _=>v= .str b):=by
 refine cof hP Tryz.func85 (bdb _ rfl) (bkb rfl) ?_
 intro A g K hA hg hK
 obtain⟨_,_,cmp⟩:=A
 have f:∀y z,cmp .eql y z=decide (y=z):=fun y z=>congrFun (congrFun (congrFun (cmp_of hA) .eql) y) z
 by_cases hx:∃k:Nat,(1<=k/\k<=15)/\x=Int.ofNat k
 ·obtain⟨k,hk,rfl⟩:=hx
  rw[primeB_of k hk]at hb
  have:k=1\/k=2\/k=3\/k=4\/k=5\/k=6\/k=7\/k=8\/k=9\/k=10\/k=11\/k=12\/k=13\/k=14\/k=15:=by omega
  rcases this with rfl|rfl|rfl|rfl|rfl|rfl|rfl|rfl|rfl|rfl|rfl|rfl|rfl|rfl|rfl<;>(cbv;repeat (rw[f];cbv))<;>exact hK _ _ _ (by rw[hb];kernel_rfl)
 ·have h:∀k:Nat,1<=k->k<=15->x≠Int.ofNat k:=fun k h1 h2 e=>hx ⟨k,⟨h1,h2⟩,e⟩
  have h1:x≠1:=h 1 (by decide) (by decide)
  have h2:x≠2:=h 2 (by decide) (by decide)
  have h3:x≠3:=h 3 (by decide) (by decide)
  have h4:x≠4:=h 4 (by decide) (by decide)
  have h5:x≠5:=h 5 (by decide) (by decide)
  have h6:x≠6:=h 6 (by decide) (by decide)
  have h7:x≠7:=h 7 (by decide) (by decide)
  have h8:x≠8:=h 8 (by decide) (by decide)
  have h9:x≠9:=h 9 (by decide) (by decide)
  have h10:x≠10:=h 10 (by decide) (by decide)
  have h11:x≠11:=h 11 (by decide) (by decide)
  have h12:x≠12:=h 12 (by decide) (by decide)
  have h13:x≠13:=h 13 (by decide) (by decide)
  have h14:x≠14:=h 14 (by decide) (by decide)
  have h15:x≠15:=h 15 (by decide) (by decide)
  cbv
  rw[f,decide_eq_false h1]
  cbv
  rw[f,decide_eq_false h2]
  cbv
  rw[f,decide_eq_false h3]
  cbv
  rw[f,decide_eq_false h4]
  cbv
  rw[f,decide_eq_false h5]
  cbv
  rw[f,decide_eq_false h6]
  cbv
  rw[f,decide_eq_false h7]
  cbv
  rw[f,decide_eq_false h8]
  cbv
  rw[f,decide_eq_false h9]
  cbv
  rw[f,decide_eq_false h10]
  cbv
  rw[f,decide_eq_false h11]
  cbv
  rw[f,decide_eq_false h12]
  cbv
  rw[f,decide_eq_false h13]
  cbv
  rw[f,decide_eq_false h14]
  cbv
  rw[f,decide_eq_false h15]
  cbv
  exact hK _ _ _ (by rw[hb,primeB,if_neg h1,if_neg h2,if_neg h3,if_neg h4,if_neg h5,if_neg h6,if_neg h7,if_neg h8,if_neg h9,if_neg h10,if_neg h11,if_neg h12,if_neg h13,if_neg h14,if_neg h15];rfl)
end Go.Proofs.YtdhmihfefgcbeaaGreat
