/-
  This text proves what these texts prove: Ng, Nh, Ni, Vga. Conditions: those of each theorem.
-/
import Derived.Test.YtdhmihfefgcbeaaGreatU09
import Derived.Test.YtdhmihfefgcbeaaGreatU07
set_option maxHeartbeats 8000000
namespace Go.Proofs.YtdhmihfefgcbeaaGreat
open Go.Vg Go.RowKit
set_option maxRecDepth 200000
set_option cbv.maxSteps 100000000
theorem cLen9{P:Program}(hP:P=Tryz.prog){t:TypeId}(a:Nat->Nat)(u:Nat)(hu:Used 9 a u):
 Con P 141 [.slice 0 0 9 9] [⟨0,ws a 9,t⟩] 1 [] (fun v _ _=>v= .int .i64 (.ofNat u)):=by
 refine cof hP Tryz.func141 (bdb _ rfl) (bkb rfl) ?_
 intro A g K hA hg hK
 obtain⟨bin,_,cmp,_,_,ix,_,_,_,_,_,_,_,_,nat,off,_,_,sub⟩:=A
 have en:nat 9=Int.ofNat 9:=nat_of hA 9
 have f1:∀i,i<9->bin .sub .i64 (.ofNat (i+1)) 1=Int.ofNat i:=fun i h=>(subI hA (a:=i+1) (b:=1) (by omega) (by omega)).trans (by simp)
 have f2:∀i,i<9->ix (.ofNat i) 9=some i:=fun i h=>ix_of hA h
 have f3:∀i,off 0 i 1=i:=fun i=>(off_of hA 0 i 1).trans (by omega)
 have f4:=fun(f:Nat->Nat) (k:Nat) (h:k<9)=>getW hA .u64 (n:=9) f h
 simp only[lst,Nat.reduceAdd]at f4
 cbv
 rw[en]
 refine lpb Nat (fun i=>i<=9/\u<=i) (fun i=>i) (fun i=> [(3,.int .i64 (.ofNat i))]) [0] (fun i=> []) 9 ⟨Nat.le_refl _,hu.1⟩ ?_ ?_
 ·exact wkid
 rintro i ⟨hi,hui⟩
 cbv
 cases i with
 |zero=>
  rw[show cmp .gtr (.ofNat 0) 0=false from gtr_f hA (b:=0) (by decide)]
  cbv
  exact hK _ _ _ (by rw[show u=0 by omega];rfl)
 |succ i=>
  have e0:cmp .gtr (.ofNat (i+1)) 0=true:=gtr_t hA (b:=0) (by omega)
  have e1:=f1 i (by omega)
  obtain⟨i1,hi1⟩:=exq (i+1)
  rw[<-hi1]at e0 e1⊢
  rw[e0]
  cbv
  rw[e1]
  rw[f2 i (by omega)]
  cbv
  rw[f3 i,f4 a i (by omega)]
  cbv
  by_cases hz:a i=0
  ·rw[show cmp .eql (.ofNat (a i)) 0=true from eql_t hA (b:=0) hz]
   cbv
   rw[e1]
   refine⟨i,id,⟨by omega,?_⟩,(by show i<i1;omega),?_⟩
   ·by_cases h:u=i1
    ·exact absurd (by rw[show u-1=i by omega];exact hz) (hu.2.2 (by omega))
    ·show u<=i
     omega
   ·exact wkid
  ·rw[show cmp .eql (.ofNat (a i)) 0=false from eql_f hA (b:=0) hz]
   cbv
   refine hK _ _ _ ?_
   have:u=i1:=by
    by_cases h:u=i1
    ·exact h
    ·exact absurd (hu.2.1 i (by omega) (by omega)) hz
   rw[this]
   rfl
theorem cLen18{P:Program}(hP:P=Tryz.prog){t:TypeId}(a:Nat->Nat)(u:Nat)(hu:Used 18 a u):
 Con P 141 [.slice 0 0 18 18] [⟨0,ws a 18,t⟩] 1 [] (fun v _ _=>v= .int .i64 (.ofNat u)):=by
 refine cof hP Tryz.func141 (bdb _ rfl) (bkb rfl) ?_
 intro A g K hA hg hK
 obtain⟨bin,_,cmp,_,_,ix,_,_,_,_,_,_,_,_,nat,off,_,_,sub⟩:=A
 have en:nat 18=Int.ofNat 18:=nat_of hA 18
 have f1:∀i,i<18->bin .sub .i64 (.ofNat (i+1)) 1=Int.ofNat i:=fun i h=>(subI hA (a:=i+1) (b:=1) (by omega) (by omega)).trans (by simp)
 have f2:∀i,i<18->ix (.ofNat i) 18=some i:=fun i h=>ix_of hA h
 have f3:∀i,off 0 i 1=i:=fun i=>(off_of hA 0 i 1).trans (by omega)
 have f4:=fun(f:Nat->Nat) (k:Nat) (h:k<18)=>getW hA .u64 (n:=18) f h
 simp only[lst,Nat.reduceAdd]at f4
 cbv
 rw[en]
 refine lpb Nat (fun i=>i<=18/\u<=i) (fun i=>i) (fun i=> [(3,.int .i64 (.ofNat i))]) [0] (fun i=> []) 18 ⟨Nat.le_refl _,hu.1⟩ ?_ ?_
 ·exact wkid
 rintro i ⟨hi,hui⟩
 cbv
 cases i with
 |zero=>
  rw[show cmp .gtr (.ofNat 0) 0=false from gtr_f hA (b:=0) (by decide)]
  cbv
  exact hK _ _ _ (by rw[show u=0 by omega];rfl)
 |succ i=>
  have e0:cmp .gtr (.ofNat (i+1)) 0=true:=gtr_t hA (b:=0) (by omega)
  have e1:=f1 i (by omega)
  obtain⟨i1,hi1⟩:=exq (i+1)
  rw[<-hi1]at e0 e1⊢
  rw[e0]
  cbv
  rw[e1]
  rw[f2 i (by omega)]
  cbv
  rw[f3 i,f4 a i (by omega)]
  cbv
  by_cases hz:a i=0
  ·rw[show cmp .eql (.ofNat (a i)) 0=true from eql_t hA (b:=0) hz]
   cbv
   rw[e1]
   refine⟨i,id,⟨by omega,?_⟩,(by show i<i1;omega),?_⟩
   ·by_cases h:u=i1
    ·exact absurd (by rw[show u-1=i by omega];exact hz) (hu.2.2 (by omega))
    ·show u<=i
     omega
   ·exact wkid
  ·rw[show cmp .eql (.ofNat (a i)) 0=false from eql_f hA (b:=0) hz]
   cbv
   refine hK _ _ _ ?_
   have:u=i1:=by
    by_cases h:u=i1
    ·exact h
    ·exact absurd (hu.2.1 i (by omega) (by omega)) hz
   rw[this]
   rfl
section
variable {A:Ar}
theorem splWx(hA:A=Ar.real)(K:IntKind){n:Nat}(f g:Nat->Nat)(E:List SV){k v:Nat}(h:k<n)(hg:g=fun j=>if j=k then v else f j):A.spl (lst K (fun j=>Int.ofNat (f j)) 0 n++E) k [.int K (Int.ofNat v)]=some (lst K (fun j=>Int.ofNat (g j)) 0 n++E):=by
 have h1:=splW hA K f g h hg
 rw[spl_of hA (by rw[lle];exact h)]at h1
 rw[spl_of hA (by rw[List.length_append,lle];omega)]
 congr 1
 rw[<-Option.some.inj h1]
 simp only[Vg.splice,List.length_cons,List.length_nil]
 rw[List.take_append_of_le_length (by rw[lle];omega),List.drop_append_of_le_length (by rw[lle];omega),List.append_assoc,List.append_assoc,List.append_assoc]
end
theorem shl_lo{x s:Nat}(hs:s<=64):x*2^s%0x10000000000000000=x%2^(64-s)*2^s:=by
 have h:0x10000000000000000=2^(64-s)*2^s:=by rw[<-Nat.pow_add,show 64-s+s=64 by omega]
 rw[h,Nat.mul_mod_mul_right]
theorem shr_hi{x s:Nat}(hs:s<=64):x/2^(64-s)=x*2^s/0x10000000000000000:=by
 have h:0x10000000000000000=2^(64-s)*2^s:=by rw[<-Nat.pow_add,show 64-s+s=64 by omega]
 rw[h,Nat.mul_div_mul_right _ _ (Nat.pow_pos (by decide))]
theorem hi_lt{x s:Nat}(hs:s<=64)(hx:x<0x10000000000000000):x*2^s/0x10000000000000000<2^s:=by
 rw[Nat.div_lt_iff_lt_mul (by decide),Nat.mul_comm]
 exact Nat.mul_lt_mul_of_pos_left hx (Nat.pow_pos (by decide))
theorem ite_iff{p q:Prop}[Decidable p][Decidable q](h:p↔q){a b c d:Nat}(h1:a=c)(h2:b=d):(if p then a else b)=if q then c else d:=by
 by_cases hp:p
 ·rw[if_pos hp,if_pos (h.1 hp),h1]
 ·rw[if_neg hp,if_neg (fun x=>hp (h.2 x)),h2]
def shw(m:Nat->Nat)(s j:Nat):Nat:=m j*2^s%0x10000000000000000+(if j=0 then 0 else m (j-1)*2^s/0x10000000000000000)
theorem shw_or{m:Nat->Nat}{s j:Nat}(hs:s<=64)(hm:m j<0x10000000000000000):(m (j+1)*2^s%0x10000000000000000)|||(m j/2^(64-s))=shw m s (j+1):=by
 have h:=hi_lt hs hm
 rw[shr_hi hs,shl_lo hs,or_add h,shw,if_neg (by omega),<-shl_lo hs,Nat.add_sub_cancel]
theorem shw_lt{m:Nat->Nat}{s j:Nat}(hs:s<=64)(h0:j=0\/m (j-1)<0x10000000000000000):shw m s j<0x10000000000000000:=by
 rcases h0 with h0|h0
 ·subst h0;rw[shw,if_pos rfl];exact Nat.mod_lt _ (by decide)
 ·have h:=hi_lt hs h0
  have h1:m j*2^s%0x10000000000000000+2^s<=0x10000000000000000:=by
   rw[shl_lo hs]
   have h2:=Nat.mul_le_mul_right (2^s) (show m j%2^(64-s)+1<=2^(64-s)from Nat.mod_lt _ (Nat.pow_pos (by decide)))
   rw[Nat.add_mul,Nat.one_mul,<-Nat.pow_add,show 64-s+s=64 by omega]at h2
   exact h2
  unfold shw
  split<;>omega
theorem V_shw(m:Nat->Nat)(s:Nat):∀n,V n (shw m s)+(if n=0 then 0 else m (n-1)*2^s/0x10000000000000000)*0x10000000000000000^n=V n m*2^s
 |0=>by simp[V,Dg.num]
 |n+1=>by
  have ih:=V_shw m s n
  have hs:shw m s n=m n*2^s%0x10000000000000000+(if n=0 then 0 else m (n-1)*2^s/0x10000000000000000):=rfl
  rw[nsn,nsn,hs,if_neg (show ¬n+1=0 by omega),Nat.add_sub_cancel,Nat.add_mul (V n m),<-ih,Nat.pow_succ]
  have e:=Nat.div_add_mod (m n*2^s) 0x10000000000000000
  generalize (if n=0 then 0 else m (n-1)*2^s/0x10000000000000000)=c at *
  have h1:m n*0x10000000000000000^n*2^s=(0x10000000000000000*(m n*2^s/0x10000000000000000)+m n*2^s%0x10000000000000000)*0x10000000000000000^n:=by rw[e];grind
  rw[h1]
  generalize m n*2^s/0x10000000000000000=a at *
  generalize m n*2^s%0x10000000000000000=b at *
  grind
structure Dv(m d:Nat->Nat)(n s:Nat):Prop where
 used:Used 9 m n
 n0:0<n
 s64:s<64
 w:Wn 9 d
 top:9223372036854775808<=d (n-1)
 val:V n d=V n m*2^s
theorem dv_of{m:Nat->Nat}{n p k s:Nat}(hm:Wn 9 m)(hn:Used 9 m n)(h0:0<n)(hp:n=p+1)(hk:IsBl (m p) k)(hs:s=64-k):Dv m (fun j=>if j<n then shw m s j else m j) n s:=by
 have hn9:=hn.1
 have hmp:m p≠0:=by have:=hn.2.2 h0;rw[hp]at this;simpa using this
 have hmW:=hm p (by omega)
 have hk64:k<=64:=Nat.le_of_not_lt fun h3=>by
  have h4:=hk.2 (by omega)
  have h5:=Nat.pow_le_pow_right (show 0<2 by decide) (show 64<=k-1 by omega)
  omega
 have hk0:0<k:=by
  rcases Nat.eq_zero_or_pos k with h|h
  ·subst h;have:=hk.1;simp at this;omega
  ·exact h
 have hs64:s<64:=by omega
 have hpk:2^k*2^s=0x10000000000000000:=by rw[<-Nat.pow_add,show k+s=64 by omega]
 have hpk1:2^(k-1)*2^s=9223372036854775808:=by rw[<-Nat.pow_add,show k-1+s=63 by omega]
 have h2s:0<2^s:=Nat.pow_pos (by decide)
 have hlt:m p*2^s<0x10000000000000000:=by rw[<-hpk];exact Nat.mul_lt_mul_of_pos_right hk.1 h2s
 have hge:9223372036854775808<=m p*2^s:=by rw[<-hpk1];exact Nat.mul_le_mul_right _ (hk.2 hk0)
 have hs2:s<=64:=Nat.le_of_lt hs64
 clear hk hs hpk hpk1 hk64 hk0
 have a1:Wn 9 (fun j=>if j<n then shw m s j else m j):=fun j hj=>by
  show(if j<n then shw m s j else m j)<_
  split
  ·refine shw_lt hs2 ?_
   by_cases h:j=0
   ·exact Or.inl h
   ·exact Or.inr (hm _ (by omega))
  ·exact hm j hj
 have a2:9223372036854775808<=(fun j=>if j<n then shw m s j else m j) (n-1):=by
  show 9223372036854775808<=if n-1<n then shw m s (n-1)else m (n-1)
  rw[if_pos (by omega),hp,Nat.add_sub_cancel,shw,Nat.mod_eq_of_lt hlt]
  exact Nat.le_trans hge (Nat.le_add_right _ _)
 have a3:V n (fun j=>if j<n then shw m s j else m j)=V n m*2^s:=by
  have h1:V n (fun j=>if j<n then shw m s j else m j)=V n (shw m s):=Dg.num_congr n fun i hi=>if_pos hi
  rw[h1]
  have h2:=V_shw m s n
  rw[hp,if_neg (by omega),Nat.add_sub_cancel,Nat.div_eq_of_lt hlt,Nat.zero_mul,Nat.add_zero]at h2
  rw[hp];exact h2
 exact⟨hn,h0,hs64,a1,a2,a3⟩
theorem cOf{P:Program}(hP:P=Tryz.prog)(m:Nat->Nat)(n:Nat)(hm:Wn 9 m)(hn:Used 9 m n)(h0:0<n):
 ∃d s,Dv m d n s/\Con P 117 [.ptr 0 0] [⟨0,ws m 9,25⟩] 1 [] (fun v L k=>v= .ptr 1 0/\L=[⟨0,ws m 9,25⟩,⟨1,dcells d n s,215⟩]/\k=2):=by
 have hn9:=hn.1
 obtain⟨p,hp⟩:∃p,n=p+1:=⟨n-1,by omega⟩
 obtain⟨k,hk⟩:=bl_ex (m p)
 have hmW:=hm p (by omega)
 obtain⟨s,hs⟩:=exq (64-k)
 have hD:=dv_of hm hn h0 hp hk hs
 have hs64:=hD.s64
 obtain⟨d,hd⟩:=exq (fun j=>if j<n then shw m s j else m j:Nat->Nat)
 rw[<-hd]at hD
 refine⟨d,s,hD,?_⟩
 clear hD
 refine cof hP Tryz.func117 (bdb _ rfl) (bkb rfl) ?_
 intro A g K hA hg hK
 obtain⟨bin,sh,cmp,_,_,ix,nn,_,_,_,_,_,_,_,_,off,_,_,sub⟩:=A
 have f2:∀i,i<9->ix (.ofNat i) 9=some i:=fun i h=>ix_of hA h
 have f3:∀i,off 0 i 1=i:=fun i=>(off_of hA 0 i 1).trans (by omega)
 have f4:=fun(f:Nat->Nat) (E:List SV) (k:Nat) (h:k<9)=>getWx hA .u64 (n:=9) f E h
 have f5:=fun(f g:Nat->Nat) (E:List SV) (k v:Nat) (h:k<9) (e:g=fun j=>if j=k then v else f j)=>splWx hA .u64 (n:=9) f g E h e
 simp only[lst,Nat.reduceAdd,List.cons_append,List.nil_append]at f4 f5
 have g1:bin .sub .i64 (.ofNat n) 1=Int.ofNat p:=(subI hA (a:=n) (b:=1) (by omega) (by omega)).trans (congrArg Int.ofNat (by omega))
 have e4:=f4 m [.int .i64 (.ofNat n),.int .i64 0] p (by omega)
 have zs:nn (.ofNat s)=true:=nn_t hA s
 cbv
 refine reg_A (hP▸tblOk) hA hg (hP▸mixed) rfl rfl ?_
 cbv
 refine stepD (en_slice hg rfl rfl rfl rfl rfl (slr_arr (hP▸tblOk) (show tyT 23=some _ from rfl) rfl _ _)) ?_
 cbv
 refine stepD (enr rfl hg rfl rfl (cLen9 hP m n hn) (fun _=>0) rfl ⟨rfl,trivial⟩ (fun _ _ _ h=>h) trivial) ?_
 cbv
 refine rgM hP hA hg fun mk _=> ?_
 cbv
 rw[g1]
 cbv
 rw[f2 p (by omega)]
 cbv
 rw[f3 p,e4]
 cbv
 refine sdv hg (cLz64 hP (m p) k hmW hk) ?_
 rw[<-hs]
 cbv
 rw[g1]
 have g3:bin .sub .i64 64 (.ofNat s)=Int.ofNat (64-s):=subI hA (a:=64) (b:=s) (by omega) (by omega)
 have zr:nn (.ofNat (64-s))=true:=nn_t hA _
 have zg:0<s->cmp .gtr (.ofNat s) 0=true:=fun h=>gtr_t hA (b:=0) h
 have zg':¬0<s->cmp .gtr (.ofNat s) 0=false:=fun h=>gtr_f hA (b:=0) h
 obtain⟨r,hr⟩:=exq (64-s)
 rw[<-hr]at g3 zr
 refine lpb (Nat×Int×(Nat->Nat)) (fun σ=>σ.1<=n/\σ.2.1=Int.ofNat σ.1-1/\∀j,σ.2.2 j=if σ.1<=j/\j<n then shw m s j else m j) (fun σ=>σ.1)
  (fun σ=> [(4,.int .i64 σ.2.1)]) [3] (fun σ=> [(1,dcells σ.2.2 n s)]) (n,Int.ofNat p,m) ⟨Nat.le_refl _,?_,?_⟩ ?_ ?_
 ·show Int.ofNat p=Int.ofNat n-1
  rw[hp];exact(Int.add_sub_cancel (p:Int) 1).symm
 ·intro j;exact(if_neg (by omega)).symm
 ·exact wkid
 rintro⟨t,iv,q⟩ ⟨ht,hiv,hq0⟩
 have ht:t<=n:=ht
 have hiv:iv=Int.ofNat t-1:=hiv
 have hq:∀j,q j=if t<=j/\j<n then shw m s j else m j:=hq0
 clear hq0
 cases t with
 |zero=>
  obtain rfl:iv= -1:=by rw[hiv];rfl
  cbv
  rw[show cmp .geq (-1) 0=false from congrFun (congrFun (congrFun (cmp_of hA) .geq) (-1)) 0]
  cbv
  have:q=d:=by
   rw[hd]
   exact funext fun j=>(hq j).trans (ite_iff ⟨fun h=>h.2,fun h=>⟨Nat.zero_le _,h⟩⟩ rfl rfl)
  rw[this]
  exact hK _ _ _ ⟨rfl,rfl,rfl⟩
 |succ i=>
  obtain rfl:iv=Int.ofNat i:=by rw[hiv];exact Int.add_sub_cancel (i:Int) 1
  have i9:i<9:=by omega
  have hqi:q i=m i:=(hq i).trans (if_neg (by omega))
  obtain⟨w,hw⟩:=exq (m i*2^s%0x10000000000000000)
  obtain⟨q1,hq1⟩:=exq (fun j=>if j=i then w else q j:Nat->Nat)
  have e1:sh .shl .u64 (.ofNat (q i)) (.ofNat s)=Int.ofNat w:=shl64 hA (by omega) (by rw[hqi];exact hw)
  have e2:cmp .geq (.ofNat i) 0=true:=geq_t hA (b:=0) (Nat.zero_le _)
  have e5:=f4 q [.int .i64 (.ofNat n),.int .i64 (.ofNat s)] i i9
  have e6:=f5 q q1 [.int .i64 (.ofNat n),.int .i64 (.ofNat s)] i w i9 hq1
  have e7:=f2 i i9
  have e8:=f3 i
  cbv
  rw[e2]
  cbv
  refine rgM hP hA hg fun mk _=> ?_
  cbv
  rw[e7]
  cbv
  rw[e8,e5]
  cbv
  rw[zs]
  cbv
  rw[e1]
  cbv
  rw[e7]
  cbv
  rw[e8,e6]
  cbv
  have hq1i:q1 i=w:=by rw[hq1];exact if_pos rfl
  have hq1o:∀j,j≠i->q1 j=q j:=fun j h=>by rw[hq1];exact if_neg h
  have hs2:s<=64:=Nat.le_of_lt hs64
  have nx:∀q2:Nat->Nat,q2 i=shw m s i->(∀j,j≠i->q2 j=q j)->∀j,q2 j=if i<=j/\j<n then shw m s j else m j:=by
   intro q2 h1 h2 j
   by_cases hj:j=i
   ·rw[hj,h1,if_pos ⟨Nat.le_refl _,by omega⟩]
   ·rw[h2 j hj,hq j]
    exact ite_iff ⟨fun h=>⟨by omega,h.2⟩,fun h=>⟨by omega,h.2⟩⟩ rfl rfl
  by_cases hi0:i=0
  ·obtain rfl:i=0:=hi0
   rw[show cmp .gtr (.ofNat 0) 0=false from gtr_f hA (b:=0) (by decide)]
   cbv
   rw[show bin .sub .i64 (.ofNat 0) 1= -1 from congrFun (congrFun (congrFun (congrFun (bin_of hA) .sub) .i64) 0) 1]
   refine⟨(0,-1,q1),id,⟨Nat.zero_le _,rfl,nx q1 ?_ hq1o⟩,(by show 0<0+1;omega),?_⟩
   ·rw[hq1i,hw];exact(Nat.add_zero _).symm
   ·exact wkid
  ·obtain⟨l,hl⟩:∃l,i=l+1:=⟨i-1,by omega⟩
   have g4:bin .sub .i64 (.ofNat i) 1=Int.ofNat l:=(subI hA (a:=i) (b:=1) (by omega) (by omega)).trans (by rw[hl];rfl)
   rw[show cmp .gtr (.ofNat i) 0=true from gtr_t hA (b:=0) (by omega)]
   cbv
   by_cases hs0:0<s
   ·rw[zg hs0]
    cbv
    refine rgM hP hA hg fun mk _=> ?_
    cbv
    have hll:l<9:=by omega
    have hqm:q1 l=m l:=(hq1o l (by omega)).trans ((hq l).trans (if_neg (by omega)))
    obtain⟨y,hy⟩:=exq (m l/2^r)
    obtain⟨z,hz⟩:=exq (w|||y)
    have hzs:z=shw m s i:=by rw[hz,hy,hw,hr,hl];exact shw_or hs2 (hm l hll)
    have c1:sh .shr .u64 (.ofNat (q1 l)) (.ofNat r)=Int.ofNat y:=shr64 hA (by omega) (by rw[hqm];exact hy)
    have hwW:w<0x10000000000000000:=by rw[hw];exact Nat.mod_lt _ (by decide)
    have hyW:y<0x10000000000000000:=by rw[hy];exact Nat.lt_of_le_of_lt (Nat.div_le_self _ _) (hm l hll)
    have c2:bin .or .u64 (.ofNat w) (.ofNat y)=Int.ofNat z:=or64 hA hwW hyW hz
    obtain⟨q2,hq2⟩:=exq (fun j=>if j=i then z else q1 j:Nat->Nat)
    have e9:=f4 q1 [.int .i64 (.ofNat n),.int .i64 (.ofNat s)] i i9
    have e10:=f4 q1 [.int .i64 (.ofNat n),.int .i64 (.ofNat s)] l hll
    have e11:=f5 q1 q2 [.int .i64 (.ofNat n),.int .i64 (.ofNat s)] i z i9 hq2
    rw[hq1i]at e9
    rw[e7]
    cbv
    rw[e8,e9]
    cbv
    rw[g4]
    cbv
    rw[f2 l hll]
    cbv
    rw[f3 l,e10]
    cbv
    rw[g3]
    cbv
    rw[zr]
    cbv
    rw[c1]
    cbv
    rw[c2]
    cbv
    rw[e7]
    cbv
    rw[e8,e11]
    cbv
    rw[g4]
    refine⟨(i,Int.ofNat l,q2),id,⟨by omega,?_,nx q2 ?_ ?_⟩,(by show i<i+1;omega),?_⟩
    ·show Int.ofNat l=Int.ofNat i-1
     rw[hl];exact(Int.add_sub_cancel (l:Int) 1).symm
    ·rw[hq2,<-hzs];exact if_pos rfl
    ·intro j hj;rw[hq2];exact(if_neg hj).trans (hq1o j hj)
    ·exact wkid
   ·rw[zg' hs0]
    cbv
    rw[g4]
    refine⟨(i,Int.ofNat l,q1),id,⟨by omega,?_,nx q1 ?_ hq1o⟩,(by show i<i+1;omega),?_⟩
    ·show Int.ofNat l=Int.ofNat i-1
     rw[hl];exact(Int.add_sub_cancel (l:Int) 1).symm
    ·have h0:s=0:=by omega
     have h1:m l<0x10000000000000000:=hm l (by omega)
     rw[hq1i,hw,h0,shw,if_neg (by omega),show i-1=l by omega]
     rw[Nat.pow_zero,Nat.mul_one,Nat.mul_one,Nat.div_eq_of_lt h1,Nat.add_zero]
    ·exact wkid
end Go.Proofs.YtdhmihfefgcbeaaGreat
namespace Go.Proofs.YtdhmihfefgcbeaaGreat
open Go.Vg Go.RowKit
set_option maxRecDepth 20000
theorem V_split(i j:Nat)(f:Nat->Nat):V (i+j) f=V i f+Vw i j f*0x10000000000000000^i:=Dg.num_split f i j
theorem Vw_split(a i j:Nat)(f:Nat->Nat):Vw a (i+j) f=Vw a i f+Vw (a+i) j f*0x10000000000000000^i:=by
 have h:=Dg.num_split (b:=0x10000000000000000) (fun t=>f (a+t)) i j
 have h2:Vw (a+i) j f=Dg.num 0x10000000000000000 (fun t=>f (a+(i+t))) j:=Dg.num_congr j fun t _=>congrArg f (by omega)
 rw[h2];exact h
theorem V_win{u u':Nat->Nat}{i n N:Nat}(hi:i+(n+1)<=N)(h:∀j,j<i\/i+n<j->u' j=u j):V N u'+Vw i (n+1) u*0x10000000000000000^i=V N u+Vw i (n+1) u'*0x10000000000000000^i:=by
 obtain⟨j,rfl⟩:∃j,N=i+((n+1)+j):=⟨N-(i+(n+1)),by omega⟩
 rw[V_split i _ u',V_split i _ u,Vw_split i (n+1) j u,Vw_split i (n+1) j u']
 have h1:V i u'=V i u:=Dg.num_congr i fun t ht=>h t (Or.inl ht)
 have h2:Vw (i+(n+1)) j u'=Vw (i+(n+1)) j u:=Dg.num_congr j fun t _=>h _ (Or.inr (by omega))
 rw[h1,h2,Nat.add_mul,Nat.add_mul]
 generalize Vw i (n+1) u*_=a
 generalize Vw i (n+1) u'*_=b
 omega
theorem win_all{u:Nat->Nat}{i n N D:Nat}(hi:i+(n+1)<=N)(hD:D<=0x10000000000000000^n)(h:V N u<D*0x10000000000000000^(i+1)):V N u=V i u+Vw i (n+1) u*0x10000000000000000^i:=by
 obtain⟨j,rfl⟩:∃j,N=i+((n+1)+j):=⟨N-(i+(n+1)),by omega⟩
 rw[V_split i _ u,Vw_split i (n+1) j u]at *
 generalize Vw (i+(n+1)) j u=r at *
 rcases Nat.eq_zero_or_pos r with h0|h0
 ·rw[h0,Nat.zero_mul,Nat.add_zero]
 ·exfalso
  have h1:D*0x10000000000000000^(i+1)<=0x10000000000000000^n*0x10000000000000000^(i+1):=Nat.mul_le_mul_right _ hD
  have h2:0x10000000000000000^n*0x10000000000000000^(i+1)=0x10000000000000000^(n+1)*0x10000000000000000^i:=by
   rw[<-Nat.pow_add,<-Nat.pow_add,show n+(i+1)=n+1+i by omega]
  have h3:1*0x10000000000000000^(n+1)<=r*0x10000000000000000^(n+1):=Nat.mul_le_mul_right _ h0
  rw[Nat.one_mul]at h3
  have h4:=Nat.mul_le_mul_right (0x10000000000000000^i) (Nat.le_trans h3 (Nat.le_add_left (r*0x10000000000000000^(n+1)) (Vw i (n+1) u)))
  have h5:=Nat.le_trans h4 (Nat.le_add_left _ (V i u))
  exact absurd h (Nat.not_lt.2 (Nat.le_trans h1 (Nat.le_trans (Nat.le_of_eq h2) h5)))
theorem at_step{u u':Nat->Nat}{i n N x D:Nat}(hu:Wn N u)(hi:i+(n+1)<=N)(hD0:0<D)(hD:D<=0x10000000000000000^n)(h:V N u<D*0x10000000000000000^(i+1))(hf:∀j,j<i\/i+n<j->u' j=u j)
 (e:Vw i (n+1) u'+x*D=Vw i (n+1) u) (hx:Vw i (n+1) u/D<=x):V N u'+x*0x10000000000000000^i*D=V N u/\V N u'<D*0x10000000000000000^i:=by
 have h1:=V_win hi hf
 have h2:=win_all hi hD h
 have hL:V i u<0x10000000000000000^i:=V_lt fun j hj=>hu j (by omega)
 have hX:Vw i (n+1) u'<D:=by
  have h3:Vw i (n+1) u<(x+1)*D:=by
   rw[<-Nat.div_lt_iff_lt_mul hD0];omega
  rw[Nat.add_mul,Nat.one_mul]at h3
  omega
 generalize Vw i (n+1) u'=X' at *
 generalize Vw i (n+1) u=X at *
 generalize 0x10000000000000000^i=B at *
 generalize V N u'=R' at *
 generalize V N u=R at *
 generalize V i u=L at *
 subst e
 have e1:(X'+x*D)*B=X'*B+x*B*D:=by rw[Nat.add_mul];congr 1;rw[Nat.mul_assoc,Nat.mul_assoc,Nat.mul_comm D B]
 have e2:(X'+1)*B<=D*B:=Nat.mul_le_mul_right _ hX
 rw[e1]at h1 h2
 rw[Nat.add_mul,Nat.one_mul]at e2
 generalize x*B*D=a at *
 generalize X'*B=b at *
 generalize D*B=c at *
 constructor<;>omega
theorem V_put{q:Nat->Nat}{i x N:Nat}(hi:i<N)(h:q i=0):V N (fun j=>if j=i then x else q j)=V N q+x*0x10000000000000000^i:=by
 have h1:=V_win (u:=q) (u':=fun j=>if j=i then x else q j) (i:=i) (n:=0) (N:=N) (by omega) fun j hj=>if_neg (by omega)
 have h2:Vw i (0+1) q=0:=by rw[Vw_snoc];show Vw i 0 q+q i*_=0;rw[h];rfl
 have h3:Vw i (0+1) (fun j=>if j=i then x else q j)=x:=by
  rw[Vw_snoc];show 0+(if i+0=i then x else q i)*_=x
  rw[if_pos (Nat.add_zero i),Nat.pow_zero,Nat.mul_one,Nat.zero_add]
 rw[h2,h3,Nat.zero_mul]at h1
 exact h1
theorem start_lt{W D k n s t:Nat}{d:Nat->Nat}(hW:W<0x10000000000000000^k)(hn:0<n)(hd:9223372036854775808<=d (n-1))(hD:D=V n d)(hs:s<64)(hk:k<=n-1+t):W*2^s<D*0x10000000000000000^t:=by
 have h1:9223372036854775808*0x10000000000000000^(n-1)<=D:=by
  rw[hD]
  obtain⟨p,rfl⟩:∃p,n=p+1:=⟨n-1,by omega⟩
  rw[nsn]
  exact Nat.le_trans (Nat.mul_le_mul_right _ hd) (Nat.le_add_left _ _)
 have h2:=Nat.mul_le_mul_right (0x10000000000000000^t) h1
 rw[Nat.mul_assoc,<-Nat.pow_add]at h2
 have h3:0x10000000000000000^k<=0x10000000000000000^(n-1+t):=Nat.pow_le_pow_right (by decide) hk
 have h4:2^s<=9223372036854775808:=Nat.le_trans (Nat.pow_le_pow_right (by decide) (show s<=63 by omega)) (Nat.le_of_eq (by decide))
 refine Nat.lt_of_lt_of_le ?_ h2
 refine Nat.lt_of_lt_of_le (Nat.mul_lt_mul_of_pos_right hW (Nat.pow_pos (by decide))) ?_
 rw[Nat.mul_comm]
 exact Nat.mul_le_mul h4 h3
theorem fin_div{W M S R Q:Nat}(hS:0<S)(e:R+Q*(M*S)=W*S)(h:R<M*S):Q=W/M/\R=W%M*S:=by
 constructor
 ·rw[<-Nat.mul_div_mul_right _ _ hS,<-e,Nat.add_mul_div_right _ _ (by omega),Nat.div_eq_of_lt h,Nat.zero_add]
 ·rw[<-Nat.mul_mod_mul_right,<-e,Nat.add_mul_mod_self_right,Nat.mod_eq_of_lt h]
def srw(u:Nat->Nat)(s i:Nat):Nat:=u i/2^s+u (i+1)*2^(64-s)%0x10000000000000000
theorem two_s{s:Nat}(hs:s<=64):2^(64-s)*2^s=0x10000000000000000:=by rw[<-Nat.pow_add,show 64-s+s=64 by omega]
theorem shl_hi{x s:Nat}(hs:s<=64):x*2^(64-s)%0x10000000000000000=x%2^s*2^(64-s):=by
 rw[<-two_s hs,Nat.mul_comm (2^(64-s)) (2^s),Nat.mul_mod_mul_right]
theorem div_lt2{x s:Nat}(hs:s<=64)(hx:x<0x10000000000000000):x/2^s<2^(64-s):=by
 rw[Nat.div_lt_iff_lt_mul (Nat.pow_pos (by decide)),two_s hs];exact hx
theorem srw_or{u:Nat->Nat}{s i:Nat}(hs:s<=64)(hu:u i<0x10000000000000000):(u i/2^s)|||(u (i+1)*2^(64-s)%0x10000000000000000)=srw u s i:=by
 rw[Nat.or_comm,shl_hi hs,or_add (div_lt2 hs hu),srw,shl_hi hs,Nat.add_comm]
theorem srw_lt{u:Nat->Nat}{s i:Nat}(hs:s<=64)(hu:u i<0x10000000000000000):srw u s i<0x10000000000000000:=by
 have h:=div_lt2 hs hu
 have h2:=Nat.mul_le_mul_right (2^(64-s)) (show u (i+1)%2^s+1<=2^s from Nat.mod_lt _ (Nat.pow_pos (by decide)))
 rw[Nat.add_mul,Nat.one_mul,Nat.mul_comm (2^s) (2^(64-s)),two_s hs]at h2
 rw[srw,shl_hi hs]
 omega
theorem V_srw(u:Nat->Nat){s:Nat}(hs:s<=64):∀n,V n (srw u s)*2^s+u 0%2^s=V n u+u n%2^s*0x10000000000000000^n
 |0=>by simp[V,Dg.num]
 |n+1=>by
  have ih:=V_srw u hs n
  have h1:srw u s n*2^s+u n%2^s=u n+u (n+1)%2^s*0x10000000000000000:=by
   rw[srw,shl_hi hs,Nat.add_mul,Nat.mul_assoc,two_s hs]
   have:=Nat.div_add_mod (u n) (2^s)
   rw[Nat.mul_comm]at this
   omega
  rw[nsn,nsn,Nat.pow_succ,Nat.add_mul]
  generalize srw u s n=x at *
  generalize V n (srw u s)*2^s=y at *
  generalize 2^s=S at *
  generalize 0x10000000000000000^n=B at *
  have h2:x*B*S+u n%S*B=u n*B+u (n+1)%S*(B*0x10000000000000000):=by
   have:=congrArg (· *B) h1
   simp only[Nat.add_mul]at this
   rw[Nat.mul_assoc x B S,Nat.mul_comm B S,<-Nat.mul_assoc,this,Nat.mul_comm B 0x10000000000000000,Nat.mul_assoc]
  omega
theorem hi_zero{u:Nat->Nat}{n N:Nat}(hu:Wn N u)(h:V N u<0x10000000000000000^n){j:Nat}(hj:n<=j)(hjN:j<N):u j=0:=by
 rw[<-Dg.dig_num (by decide) N hu j hjN]
 exact Dg.dig_big (by decide) h hj
theorem rest_of{u:Nat->Nat}{n s r D:Nat}(hu:Wn 19 u)(hs:s<64)(hn:n<=9)(hD:D<=0x10000000000000000^n)(h:V 19 u<D)(e:V 19 u=r*2^s):Wn 9 (fun i=>if i<n then srw u s i else 0)/\V 9 (fun i=>if i<n then srw u s i else 0)=r:=by
 have hz:∀j,n<=j->j<19->u j=0:=fun j h1 h2=>hi_zero hu (Nat.lt_of_lt_of_le h hD) h1 h2
 have hV:V 19 u=V n u:=by
  obtain⟨k,hk⟩:∃k,19=n+k:=⟨19-n,by omega⟩
  rw[hk]
  exact Dg.num_zero u n k fun i h1 h2=>hz i h1 (by omega)
 have hs2:s<=64:=by omega
 constructor
 ·intro j hj
  show(if j<n then srw u s j else 0)<_
  split
  ·exact srw_lt hs2 (hu j (by omega))
  ·decide
 ·have h1:V 9 (fun i=>if i<n then srw u s i else 0)=V n (fun i=>if i<n then srw u s i else 0):=by
   obtain⟨k,hk⟩:∃k,9=n+k:=⟨9-n,by omega⟩
   rw[hk]
   exact Dg.num_zero _ n k fun i h1 h2=>if_neg (by omega)
  have h2:V n (fun i=>if i<n then srw u s i else 0)=V n (srw u s):=Dg.num_congr n fun i hi=>if_pos hi
  have h3:=V_srw u hs2 n
  rw[hz n (Nat.le_refl _) (by omega),Nat.zero_mod,Nat.zero_mul,Nat.add_zero,<-hV,e]at h3
  have hS:0<2^s:=Nat.pow_pos (by decide)
  have hlt:=Nat.mod_lt (u 0) hS
  rw[h1,h2]
  generalize V n (srw u s)=v at *
  generalize 2^s=S at *
  have:v=(v*S+u 0%S)/S:=by
   rw[Nat.add_comm,Nat.add_mul_div_right _ _ hS,Nat.div_eq_of_lt hlt,Nat.zero_add]
  rw[this,h3,Nat.mul_div_cancel _ hS]
def fillw(w:Nat->Nat)(s i j:Nat):Nat:=if j<i then shw w s j else if j=i then(if i=0 then 0 else w (i-1)*2^s/0x10000000000000000)else 0
theorem wrap_z(z:Int)(h: -9223372036854775808<=z)(h2:z<9223372036854775808):IntKind.i64.wrap z=z:=by
 simp only[IntKind.wrap,IntKind.signed,IntKind.bits]
 have:((2:Int)^64)=0x10000000000000000:=by decide
 have h3:((2:Int)^(64-1))=9223372036854775808:=by decide
 simp only[this,h3,Bool.true_and,decide_eq_true_eq]
 split<;>omega
theorem subZ{A:Ar}(hA:A=Ar.real){a b:Nat}(ha:a<4294967296)(hb:b<4294967296):A.bin .sub .i64 (Int.ofNat a) (Int.ofNat b)=Int.ofNat a-Int.ofNat b:=by
 subst hA
 exact wrap_z _ (by simp only[Int.ofNat_eq_natCast];omega) (by simp only[Int.ofNat_eq_natCast];omega)
theorem digit_much{X X' x D Q P:Nat}(h:X'<P)(e:X'+x*D=X+P)(hQ:Q=X/D):Q<x:=by
 rw[hQ]
 exact Nat.div_lt_of_lt_mul (by rw[Nat.mul_comm];omega)
theorem digit_back{X X' X'' x y c D P:Nat}(e:X'+x*D=X+P)(hx:x=y+1)(h:X''+c*P=X'+D)(hc:c<=1):X''+y*D=X+(1-c)*P:=by
 subst hx
 rw[Nat.add_mul,Nat.one_mul]at e
 obtain rfl|rfl:c=0\/c=1:=by omega
 ·rw[Nat.zero_mul]at h;rw[Nat.sub_zero,Nat.one_mul];omega
 ·rw[Nat.one_mul]at h;rw[Nat.sub_self,Nat.zero_mul];omega
theorem quo_lt{u:Nat->Nat}{a n D:Nat}(hi:a+(n+1)<=19)(hD0:0<D)(hD:D<=0x10000000000000000^n)(h:V 19 u<D*0x10000000000000000^(a+1)):Vw a (n+1) u/D<0x10000000000000000:=by
 have h1:=win_all hi hD h
 rw[Nat.div_lt_iff_lt_mul hD0]
 rw[h1,Nat.pow_succ,Nat.mul_comm (0x10000000000000000^a),<-Nat.mul_assoc]at h
 refine Nat.lt_of_mul_lt_mul_right (Nat.lt_of_le_of_lt (Nat.le_add_left _ _) h)|>fun x=> ?_
 rw[Nat.mul_comm];exact x
theorem add_dig{R R' q x B D U q':Nat}(h:R+q*D=U)(h1:R'+x*B*D=R)(h2:q'=q+x*B):R'+q'*D=U:=by
 rw[h2,Nat.add_mul]
 generalize x*B*D=a at *
 generalize q*D=b at *
 omega
theorem srw_zero(u:Nat->Nat)(j:Nat):u j/2^0=srw u 0 j:=by
 rw[srw,shl_hi (by omega),Nat.pow_zero,Nat.mod_one,Nat.zero_mul,Nat.add_zero]
theorem rest_next{u r r1:Nat->Nat}{s i z:Nat}(hr:∀j,r j=if j<i then srw u s j else 0)(hz:z=srw u s i)(h:r1=fun j=>if j=i then z else r j)(j:Nat):r1 j=if j<i+1 then srw u s j else 0:=by
 rw[h];show(if j=i then z else r j)=_
 by_cases a:j=i
 ·rw[if_pos a,if_pos (by omega),hz,a]
 ·rw[if_neg a,hr j]
  exact ite_iff (by omega) rfl rfl
theorem fill_self(w:Nat->Nat)(s i:Nat):fillw w s i i=if i=0 then 0 else w (i-1)*2^s/0x10000000000000000:=by
 unfold fillw;rw[if_neg (Nat.lt_irrefl _),if_pos rfl]
theorem fill_lt{w:Nat->Nat}{s i k:Nat}(hs:s<=64)(hw:Wn k w)(hi:i<k):fillw w s i i<0x10000000000000000:=by
 rw[fill_self]
 split
 ·decide
 ·refine Nat.lt_of_lt_of_le (hi_lt hs (hw _ (by omega))) ?_
  exact Nat.le_trans (Nat.pow_le_pow_right (by decide) hs) (Nat.le_of_eq (by decide))
theorem fill_or{w:Nat->Nat}{s i k:Nat}(hs:s<=64)(hw:Wn k w)(hi:i<k):fillw w s i i|||(w i*2^s%0x10000000000000000)=shw w s i:=by
 rw[fill_self,Nat.or_comm]
 by_cases h:i=0
 ·subst h;rw[if_pos rfl,Nat.or_zero];rfl
 ·obtain⟨l,rfl⟩:∃l,i=l+1:=⟨i-1,by omega⟩
  rw[if_neg (by omega),Nat.add_sub_cancel,<-shr_hi hs]
  exact shw_or hs (hw l (by omega))
theorem fill_next{w u u1 u2:Nat->Nat}{s i:Nat}(hs:s<=64)(hu:∀j,u j=fillw w s i j)(h1:u1=fun j=>if j=i then shw w s i else u j)(h2:u2=fun j=>if j=i+1 then w i/2^(64-s)else u1 j)(j:Nat):u2 j=fillw w s (i+1) j:=by
 rw[h2];show(if j=i+1 then _ else u1 j)=_
 rw[h1];show(if j=i+1 then _ else if j=i then _ else u j)=_
 rw[hu j]
 unfold fillw
 by_cases a:j=i+1
 ·rw[if_pos a,if_neg (by omega),if_pos a,if_neg (by omega),Nat.add_sub_cancel,shr_hi hs]
 ·rw[if_neg a]
  by_cases b:j=i
  ·rw[if_pos b,if_pos (by omega),b]
  ·rw[if_neg b]
   by_cases c:j<i
   ·rw[if_pos c,if_pos (by omega)]
   ·rw[if_neg c,if_neg b,if_neg (by omega),if_neg a]
theorem fill_next0{w u u1:Nat->Nat}{s i k:Nat}(hw:Wn k w)(hi:i<k)(hs:s=0)(hu:∀j,u j=fillw w s i j)(h1:u1=fun j=>if j=i then shw w s i else u j)(j:Nat):u1 j=fillw w s (i+1) j:=by
 rw[<-fill_next (by omega) hu h1 rfl j]
 show _=if j=i+1 then _ else _
 by_cases a:j=i+1
 ·rw[if_pos a,hs]
  have hz:w i/2^(64-0)=0:=Nat.div_eq_of_lt (Nat.lt_of_lt_of_le (hw i hi) (Nat.le_of_eq (by decide)))
  rw[hz,h1]
  show(if j=i then _ else u j)=0
  rw[if_neg (by omega),hu j,fillw,if_neg (by omega),if_neg (by omega)]
 ·rw[if_neg a]
theorem fill_end{w u:Nat->Nat}{s k:Nat}(hs:s<=64)(hw:Wn k w)(hk:k<=18)(hu:∀j,u j=fillw w s k j):Wn 19 u/\V 19 u=V k w*2^s:=by
 constructor
 ·intro j hj
  rw[hu j,fillw]
  split
  ·refine shw_lt hs ?_
   by_cases h:j=0
   ·exact Or.inl h
   ·exact Or.inr (hw _ (by omega))
  ·split
   ·split
    ·decide
    ·refine Nat.lt_of_lt_of_le (hi_lt hs (hw _ (by omega))) ?_
     exact Nat.le_trans (Nat.pow_le_pow_right (by decide) hs) (Nat.le_of_eq (by decide))
   ·decide
 ·obtain⟨l,hl⟩:∃l,19=(k+1)+l:=⟨19-(k+1),by omega⟩
  have h1:V 19 u=V (k+1) u:=by
   rw[hl]
   exact Dg.num_zero u (k+1) l fun i h1 h2=>by rw[hu i,fillw,if_neg (by omega),if_neg (by omega)]
  have h2:V k u=V k (shw w s):=Dg.num_congr k fun i hi=>by rw[hu i,fillw,if_pos hi]
  rw[h1,nsn,h2,hu k,fill_self]
  exact V_shw w s k
theorem cDivideC{P:Program}(hP:P=Tryz.prog){t:TypeId}(m d:Nat->Nat)(n s:Nat)(hD:Dv m d n s)(w:Nat->Nat)(k c:Nat)(C:List SV)(hC:C=ws w c)(hw:Wn k w)(hk:k<=c)(hc18:c<=18)(rq rr:Nat->Nat)(hrq:Wn 18 rq)(hrr:Wn 9 rr)(hqV:V 18 rq=V k w/V 9 m)(hrV:V 9 rr=V k w%V 9 m):
 Con P 159 [.ptr 0 0,.slice 1 0 k c] [⟨0,dcells d n s,215⟩,⟨1,C,t⟩] 2 [] (fun v _ _=>v= .tup [.agg (ws rq 18),.agg (ws rr 9)]):=by
 have bC:∀m,bdLB m C=true:=fun m=>by rw[hC];exact lst_bd m _ _ _ _
 refine cof hP Tryz.func159 (bdb _ rfl) (bkb (by simp only[List.all_cons,List.all_nil,bC 2];rfl)) ?_
 intro A g K hA hg hK
 obtain⟨bin,sh,cmp,_,_,ix,nn,_,bnot,_,_,_,_,_,nat,off,get,_,sub⟩:=A
 have hs64:=hD.s64
 have hs2:s<=64:=by omega
 have en:nat k=Int.ofNat k:=nat_of hA k
 have f1t:∀x y,x<y->cmp .lss (.ofNat x) (.ofNat y)=true:=fun x y h=>lss_t hA h
 have f1f:∀x y,¬x<y->cmp .lss (.ofNat x) (.ofNat y)=false:=fun x y h=>lss_f hA h
 have f2:∀i,i<k->ix (.ofNat i) k=some i:=fun i h=>ix_of hA h
 have f2u:∀i,i<19->ix (.ofNat i) 19=some i:=fun i h=>ix_of hA h
 have f3:∀i,off 0 i 1=i:=fun i=>(off_of hA 0 i 1).trans (by omega)
 have f4:∀ (f:Nat->Nat) (i:Nat),i<k->get C i=some (.int .u64 (.ofNat (w i))):=fun _ i h=>by rw[hC];exact getW hA .u64 w (by omega)
 clear hC
 have f4u:=fun(f:Nat->Nat) (i:Nat) (h:i<19)=>getW hA .u64 (n:=19) f h
 have f5u:=fun(f g:Nat->Nat) (i v:Nat) (h:i<19) (e:g=fun j=>if j=i then v else f j)=>splW hA .u64 (n:=19) f g h e
 have f6:∀i,i<19->bin .add .i64 (.ofNat i) 1=Int.ofNat (i+1):=fun i h=>addI hA (b:=1) (by omega)
 simp only[lst,Nat.reduceAdd]at f4u f5u
 have zs:nn (.ofNat s)=true:=nn_t hA s
 have g3:bin .sub .i64 64 (.ofNat s)=Int.ofNat (64-s):=subI hA (a:=64) (b:=s) (by omega) (by omega)
 have zr:nn (.ofNat (64-s))=true:=nn_t hA _
 have zg:0<s->cmp .gtr (.ofNat s) 0=true:=fun h=>gtr_t hA (b:=0) h
 have zg':¬0<s->cmp .gtr (.ofNat s) 0=false:=fun h=>gtr_f hA (b:=0) h
 obtain⟨r,hr⟩:=exq (64-s)
 rw[<-hr]at g3 zr
 cbv
 rw[en]
 refine lpb (Nat×(Nat->Nat)) (fun σ=>σ.1<=k/\∀j,σ.2 j=fillw w s σ.1 j) (fun σ=>k-σ.1)
  (fun σ=> [(17,.int .i64 (.ofNat σ.1))]) [0,1,4,5,6,7,15,16] (fun σ=> [(4,ws σ.2 19)]) (0,fun _=>0) ⟨Nat.zero_le _,?_⟩ ?_ ?_
 ·intro j;show 0=fillw w s 0 j
  unfold fillw;rw[if_neg (Nat.not_lt_zero _)];split<;>rfl
 ·exact wkih (by repeat' (first|exact trivial|refine⟨rfl,rfl,rfl,?_⟩|refine⟨rfl,rfl,bC _,?_⟩))
 rintro⟨i,u⟩ ⟨hi,hu0⟩
 have hi:i<=k:=hi
 have hu:∀j,u j=fillw w s i j:=hu0
 clear hu0
 cbv
 by_cases hlt:i<k
 ·rw[f1t i k hlt]
  cbv
  rw[f2 i hlt]
  cbv
  rw[f3 i,f4 w i (by omega)]
  cbv
  refine rgM hP hA hg fun mk _=> ?_
  cbv
  obtain⟨w1,hw1⟩:=exq (w i*2^s%0x10000000000000000)
  have hw1W:w1<0x10000000000000000:=by rw[hw1];exact Nat.mod_lt _ (by decide)
  obtain⟨z,hz⟩:=exq (shw w s i)
  have hui:=hu i
  have c1:sh .shl .u64 (.ofNat (w i)) (.ofNat s)=Int.ofNat w1:=shl64 hA hs2 hw1
  have c2:bin .or .u64 (.ofNat (u i)) (.ofNat w1)=Int.ofNat z:=or64 hA (by rw[hui];exact fill_lt hs2 hw hlt) hw1W (by rw[hui,hz,hw1];exact(fill_or hs2 hw hlt).symm)
  obtain⟨u1,hu1⟩:=exq (fun j=>if j=i then z else u j:Nat->Nat)
  have i19:i<19:=by omega
  have j19:i+1<19:=by omega
  have e1:=f2u i i19
  have e2:=f3 i
  have e3:=f5u u u1 i z i19 hu1
  have e6:=f6 i i19
  have e7:=f2u (i+1) j19
  have e8:=f3 (i+1)
  obtain⟨y,hy⟩:=exq (w i/2^r)
  have c3:sh .shr .u64 (.ofNat (w i)) (.ofNat r)=Int.ofNat y:=shr64 hA (by omega) hy
  obtain⟨u2,hu2⟩:=exq (fun j=>if j=i+1 then y else u1 j:Nat->Nat)
  have e9:=f5u u1 u2 (i+1) y j19 hu2
  obtain⟨i1,hi1⟩:=exq (i+1)
  rw[<-hi1]at e6 e7 e8 e9
  rw[e1]
  cbv
  rw[e2,f4u u i i19]
  cbv
  rw[zs]
  cbv
  rw[c1]
  cbv
  rw[c2]
  cbv
  rw[e1]
  cbv
  rw[e2,e3]
  cbv
  by_cases hs0:0<s
  ·rw[zg hs0]
   cbv
   rw[e6,g3]
   cbv
   rw[zr]
   cbv
   rw[c3]
   cbv
   rw[e7]
   cbv
   rw[e8,e9]
   cbv
   rw[e6]
   refine⟨(i1,u2),id,⟨by show i1<=k;omega,?_⟩,(by show k-i1<k-i;omega),?_⟩
   ·show ∀j,u2 j=fillw w s i1 j
    rw[hi1]
    rw[hz]at hu1
    rw[hy,hr]at hu2
    exact fill_next hs2 hu hu1 hu2
   ·exact wkih (by repeat' (first|exact trivial|refine⟨rfl,rfl,rfl,?_⟩|refine⟨rfl,rfl,bC _,?_⟩))
  ·rw[zg' hs0]
   cbv
   rw[e6]
   refine⟨(i1,u1),id,⟨by show i1<=k;omega,?_⟩,(by show k-i1<k-i;omega),?_⟩
   ·show ∀j,u1 j=fillw w s i1 j
    rw[hi1]
    rw[hz]at hu1
    exact fill_next0 hw hlt (by omega) hu hu1
   ·exact wkih (by repeat' (first|exact trivial|refine⟨rfl,rfl,rfl,?_⟩|refine⟨rfl,rfl,bC _,?_⟩))
 ·obtain rfl:i=k:=by omega
  rw[f1f i i hlt]
  cbv
  obtain⟨hu19,hU⟩:=fill_end hs2 hw (by omega) hu
  obtain⟨D,hDe⟩:=exq (V n d)
  obtain⟨M,hM⟩:=exq (V 9 m)
  have hDM:D=M*2^s:=by rw[hDe,hD.val,hM,V_used hD.used]
  have hn9:=hD.used.1
  have hn0:=hD.n0
  have hdn:Wn n d:=fun j hj=>hD.w j (by omega)
  have hDP:D<=0x10000000000000000^n:=by rw[hDe];exact Nat.le_of_lt (V_lt hdn)
  obtain⟨W,hW⟩:=exq (V i w)
  rw[<-hW]at hU hqV hrV
  rw[<-hM]at hqV hrV
  have hst:∀t,i<=n-1+t->W*2^s<D*0x10000000000000000^t:=fun t ht=>start_lt (by rw[hW];exact V_lt hw) hn0 hD.top hDe hs64 ht
  have hD0:0<D:=by
   have:=hst i (by omega)
   rcases Nat.eq_zero_or_pos D with h|h
   ·rw[h,Nat.zero_mul]at this;exact absurd this (Nat.not_lt_zero _)
   ·exact h
  have g5:bin .sub .i64 (.ofNat i) (.ofNat n)=Int.ofNat i-Int.ofNat n:=subZ hA (by omega) (by omega)
  rw[en]
  obtain⟨iv0,hiv0⟩:=exq (Int.ofNat i-Int.ofNat n)
  rw[<-hiv0]at g5
  rw[g5]
  refine lpb (Nat×Int×(Nat->Nat)×(Nat->Nat)) (fun σ=>(σ.1=0/\σ.2.1<0\/0<σ.1/\σ.2.1=Int.ofNat σ.1-1/\σ.1+n<=i+1)/\Wn 19 σ.2.2.1/\Wn 18 σ.2.2.2/\(∀j,j<σ.1->σ.2.2.2 j=0)/\V 19 σ.2.2.1+V 18 σ.2.2.2*D=W*2^s/\V 19 σ.2.2.1<D*0x10000000000000000^σ.1) (fun σ=>σ.1)
   (fun σ=> [(10,.int .i64 σ.2.1)]) [0,4,5,6,7] (fun σ=> [(4,ws σ.2.2.1 19),(5,ws σ.2.2.2 18)]) (i+1-n,iv0,u,fun _=>0) ⟨?_,hu19,?_,fun _ _=>rfl,?_,?_⟩ ?_ ?_
  ·show(i+1-n=0/\iv0<0\/0<i+1-n/\iv0=Int.ofNat (i+1-n)-1/\i+1-n+n<=i+1)
   rw[hiv0]
   simp only[Int.ofNat_eq_natCast]
   omega
  ·intro j _;show 0<_;decide
  ·show V 19 u+V 18 (fun _=>0)*D=W*2^s
   have:V 18 (fun _=>0)=0:=by simp[V,Dg.num]
   rw[this,Nat.zero_mul,hU];rfl
  ·show V 19 u<_
   rw[hU];exact hst _ (by omega)
  ·exact wkih (by repeat' (first|exact trivial|refine⟨rfl,rfl,rfl,?_⟩|refine⟨rfl,rfl,bC _,?_⟩))
  clear hu hu19 hU
  rintro⟨t,iv,u,q⟩ ⟨ht',hu',hq',hq0',hR',hlt'⟩
  have ht:t=0/\iv<0\/0<t/\iv=Int.ofNat t-1/\t+n<=i+1:=ht'
  have hu:Wn 19 u:=hu'
  have hq:Wn 18 q:=hq'
  have hq0:∀j,j<t->q j=0:=hq0'
  have hR:V 19 u+V 18 q*D=W*2^s:=hR'
  have hlt2:V 19 u<D*0x10000000000000000^t:=hlt'
  clear ht' hu' hq' hq0' hR' hlt'
  by_cases hiv:0<=iv
  ·obtain⟨a,rfl⟩:∃a,t=a+1:=⟨t-1,by omega⟩
   obtain rfl:iv=Int.ofNat a:=by
    rcases ht with h|h
    ·exact absurd h.1 (Nat.succ_ne_zero a)
    ·rw[h.2.1];exact Int.add_sub_cancel (a:Int) 1
   cbv
   rw[show cmp .geq (.ofNat a) 0=true from geq_t hA (b:=0) (Nat.zero_le _)]
   cbv
   obtain⟨p,hp⟩:∃p,n=p+1:=⟨n-1,by omega⟩
   have han:a+n<19:=by
    rcases ht with h|h
    ·exact absurd h.1 (Nat.succ_ne_zero a)
    ·have:=h.2.2;omega
   have hani:a+1+n<=i+1:=by
    rcases ht with h|h
    ·exact absurd h.1 (Nat.succ_ne_zero a)
    ·exact h.2.2
   clear ht hiv
   obtain⟨X,hX⟩:=exq (Vw a (n+1) u)
   obtain⟨Qd,hQd⟩:=exq (X/D)
   have hQD:Qd*D<=X:=by rw[hQd];exact Nat.div_mul_le_self X D
   have hQW:Qd<0x10000000000000000:=by rw[hQd,hX];exact quo_lt (by omega) hD0 hDP hlt2
   have hG:=cGuess hP (t:=271) d u p s a Qd hD.w hu (by omega) (by omega) (by have:=hD.top;rw[hp,Nat.add_sub_cancel]at this;omega) (by rw[<-hp,<-hDe,show p+2=n+1 by omega,<-hX];exact hQD) hQW
   rw[<-hp]at hG
   refine ssl hg rfl rfl rfl rfl rfl (slr_arr (hP▸tblOk) (show tyT 271=some _ from rfl) rfl _ _) ?_
   cbv
   refine cro rfl hg rfl rfl hG (fun l=>4*l) rfl ⟨rfl,rfl,trivial⟩ ?_
   rintro _ _ _ ⟨x0,hx1,hx2,rfl⟩
   cbv
   refine ssl hg rfl rfl rfl rfl rfl (slr_arr (hP▸tblOk) (show tyT 271=some _ from rfl) rfl _ _) ?_
   cbv
   refine cgn rfl hg rfl rfl (cTake hP (t:=271) d u n s a x0 hD.w hu hn9 han hx2) (fun l=>4*l) rfl ⟨rfl,rfl,trivial⟩ rfl rfl rfl ?_
   rintro _ _ _ ⟨u1,c0,hu1,hc0,hf1,ht1,rfl,rfl,rfl⟩ _
   cbv
   rw[<-hX,<-hDe]at ht1
   have f2q:ix (.ofNat a) 18=some a:=ix_of hA (by omega)
   have g6:bin .sub .i64 (.ofNat a) 1=Int.ofNat a-1:=subZ hA (b:=1) (by omega) (by omega)
   obtain⟨iv',hiv'⟩:=exq (Int.ofNat a-1)
   rw[<-hiv']at g6
   have f3a:=f3 a
   refine lpb (Nat×Nat×(Nat->Nat)) (fun σ=>Wn 19 σ.2.2/\σ.1<0x10000000000000000/\σ.2.1<=1/\Qd<=σ.1/\(∀j,j<a\/a+n<j->σ.2.2 j=u j)/\Vw a (n+1) σ.2.2+σ.1*D=X+σ.2.1*0x10000000000000000^(n+1)) (fun σ=>σ.1)
    (fun σ=> [(11,.int .u64 (.ofNat σ.1)),(12,.bool (decide (σ.2.1=1)))]) [0,4,5,6,7,10] (fun σ=> [(4,ws σ.2.2 19)]) (x0,c0,u1) ⟨hu1,hx2,hc0,hx1,hf1,ht1⟩ ?_ ?_
   ·exact wkih (by repeat' (first|exact trivial|refine⟨rfl,rfl,rfl,?_⟩|refine⟨rfl,rfl,bC _,?_⟩))
   clear ht1 hf1 hu1 hc0 hx1 hx2 hG
   rintro⟨x,c,v⟩ ⟨hv',hx',hc',hQx',hf',he'⟩
   have hv:Wn 19 v:=hv'
   have hx:x<0x10000000000000000:=hx'
   have hc:c<=1:=hc'
   have hQx:Qd<=x:=hQx'
   have hf:∀j,j<a\/a+n<j->v j=u j:=hf'
   have he:Vw a (n+1) v+x*D=X+c*0x10000000000000000^(n+1):=he'
   clear hv' hx' hc' hQx' hf' he'
   by_cases hc1:c=1
   ·obtain rfl:c=1:=hc1
    rw[Nat.one_mul]at he
    have hlt:Qd<x:=digit_much (Vw_lt hv (by omega)) he hQd
    obtain⟨y,hy⟩:∃y,x=y+1:=⟨x-1,by omega⟩
    have e1:bin .sub .u64 (.ofNat x) 1=Int.ofNat y:=sub64 hA (a:=x) (b:=1) (by decide) (by omega)
    cbv
    rw[e1]
    refine ssl hg rfl rfl rfl rfl rfl (slr_arr (hP▸tblOk) (show tyT 271=some _ from rfl) rfl _ _) ?_
    cbv
    refine cgn rfl hg rfl rfl (cBack hP (t:=271) d v n s a hD.w hv hn9 han) (fun l=>4*l) rfl ⟨rfl,rfl,trivial⟩ rfl rfl rfl ?_
    rintro _ _ _ ⟨v1,c1,hv1,hc1,hf1,ht1,rfl,rfl,rfl⟩ _
    rw[<-hDe]at ht1
    obtain⟨c2,hc2⟩:=exq (1-c1)
    have e2:bnot (decide (c1=1))=decide (c2=1):=by
     refine(bnot_of hA _).trans ?_
     rw[hc2]
     obtain h|h:c1=0\/c1=1:=by omega
     ·rw[h];rfl
     ·rw[h];rfl
    have he2:=digit_back he hy ht1 hc1
    rw[<-hc2]at he2
    obtain⟨b1,hb1⟩:=exq (decide (c1=1))
    obtain⟨b2,hb2⟩:=exq (decide (c2=1))
    rw[<-hb1,<-hb2]at e2
    rw[<-hb1]
    cbv
    rw[e2]
    refine⟨(y,c2,v1),id,⟨hv1,(by show y<_;omega),(by show c2<=1;omega),(by show Qd<=y;omega),?_,he2⟩,(by show y<x;omega),?_⟩
    ·intro j hj
     exact(hf1 j hj).trans (hf j hj)
    ·rw[hb2]
     exact wkih (by repeat' (first|exact trivial|refine⟨rfl,rfl,rfl,?_⟩|refine⟨rfl,rfl,bC _,?_⟩))
   ·obtain rfl:c=0:=by omega
    rw[Nat.zero_mul,Nat.add_zero]at he
    obtain⟨q1,hq1⟩:=exq (fun j=>if j=a then x else q j:Nat->Nat)
    have e3:=splW hA .u64 (n:=18) q q1 (k:=a) (v:=x) (by omega) hq1
    simp only[lst,Nat.reduceAdd]at e3
    obtain⟨k1,k2⟩:=at_step (N:=19) (D:=D) hu (by omega) hD0 hDP hlt2 hf (by rw[he,hX];exact Nat.add_zero _) (by rw[<-hX,<-hQd];exact hQx)
    have k3:=V_put (x:=x) (q:=q) (i:=a) (N:=18) (by omega) (hq0 a (Nat.lt_succ_self a))
    rw[<-hq1]at k3
    cbv
    rw[f2q]
    cbv
    rw[f3a,e3]
    cbv
    rw[g6]
    refine⟨(a,iv',v,q1),id,⟨?_,hv,?_,?_,add_dig hR k1 k3,k2⟩,(by show a<a+1;omega),?_⟩
    ·show a=0/\iv'<0\/0<a/\iv'=Int.ofNat a-1/\a+n<=i+1
     rw[hiv']
     rcases Nat.eq_zero_or_pos a with h|h
     ·exact Or.inl ⟨h,by rw[h];decide⟩
     ·exact Or.inr ⟨h,rfl,by omega⟩
    ·intro j hj
     show q1 j<_
     rw[hq1]
     by_cases hja:j=a
     ·simp only[hja,if_pos];exact hx
     ·simp only[if_neg hja];exact hq j hj
    ·intro j hj
     have hj:j<a:=hj
     show q1 j=0
     rw[hq1]
     exact(if_neg (by omega)).trans (hq0 j (by omega))
    ·exact wkih (by repeat' (first|exact trivial|refine⟨rfl,rfl,rfl,?_⟩|refine⟨rfl,rfl,bC _,?_⟩))
  ·obtain rfl:t=0:=by
    rcases ht with h|h
    ·exact h.1
    ·exact absurd (show 0<=iv by rw[h.2.1];have:=h.1;show(0:Int)<=(t:Int)-1;omega) hiv
   cbv
   rw[show cmp .geq iv 0=false from(congrFun (congrFun (congrFun (cmp_of hA) .geq) iv) 0).trans (decide_eq_false hiv)]
   cbv
   clear ht hiv
   rw[Nat.pow_zero,Nat.mul_one]at hlt2
   rw[hDM]at hR
   obtain⟨k1,k2⟩:=fin_div (Nat.pow_pos (by decide)) hR (by rw[<-hDM];exact hlt2)
   obtain⟨k3,k4⟩:=rest_of hu hs64 hn9 hDP hlt2 k2
   have q1:ws rq 18=ws q 18:=V_inj hrq hq (hqV.trans k1.symm)
   have q2:ws rr 9=ws (fun i=>if i<n then srw u s i else 0) 9:=V_inj hrr k3 (hrV.trans k4.symm)
   clear k1 k2 k3 k4 hR hlt2
   have f2n:∀j,j<9->ix (.ofNat j) 9=some j:=fun j h=>ix_of hA h
   have f4n:=fun(f:Nat->Nat) (j:Nat) (h:j<9)=>getW hA .u64 (n:=9) f h
   have f5n:=fun(f g:Nat->Nat) (j v:Nat) (h:j<9) (e:g=fun x=>if x=j then v else f x)=>splW hA .u64 (n:=9) f g h e
   simp only[lst,Nat.reduceAdd]at f4n f5n
   refine lpb (Nat×(Nat->Nat)) (fun σ=>σ.1<=n/\∀j,σ.2 j=if j<σ.1 then srw u s j else 0) (fun σ=>n-σ.1)
    (fun σ=> [(85,.int .i64 (.ofNat σ.1))]) [0,4,5,6,7,13,84] (fun σ=> [(6,ws σ.2 9)]) (0,fun _=>0) ⟨Nat.zero_le _,?_⟩ ?_ ?_
   ·intro j;exact(if_neg (Nat.not_lt_zero _)).symm
   ·exact wkih (by repeat' (first|exact trivial|refine⟨rfl,rfl,rfl,?_⟩|refine⟨rfl,rfl,bC _,?_⟩))
   rintro⟨j,rs⟩ ⟨hj',hrs'⟩
   have hj:j<=n:=hj'
   have hrs:∀x,rs x=if x<j then srw u s x else 0:=hrs'
   clear hj' hrs'
   cbv
   by_cases hlt:j<n
   ·rw[f1t j n hlt]
    have j9:j<9:=by omega
    obtain⟨y1,hy1⟩:=exq (u j/2^s)
    have c1:sh .shr .u64 (.ofNat (u j)) (.ofNat s)=Int.ofNat y1:=shr64 hA hs2 hy1
    obtain⟨r1,hr1⟩:=exq (fun x=>if x=j then y1 else rs x:Nat->Nat)
    have e1:=f2n j j9
    have e2:=f3 j
    have e3:=f5n rs r1 j y1 j9 hr1
    have e4:=f2u j (by omega)
    have e5:=f4u u j (by omega)
    have e6:=f6 j (by omega)
    have e7:=f4n r1 j j9
    have e8:=f2u (j+1) (by omega)
    have e9:=f4u u (j+1) (by omega)
    have e10:=f3 (j+1)
    obtain⟨y2,hy2⟩:=exq (u (j+1)*2^r%0x10000000000000000)
    have c2:sh .shl .u64 (.ofNat (u (j+1))) (Int.ofNat r)=Int.ofNat y2:=shl64 hA (by omega) hy2
    have hujW:u j<0x10000000000000000:=hu j (by omega)
    have hr1j:r1 j=y1:=by rw[hr1];exact if_pos rfl
    rw[hr1j]at e7
    obtain⟨z,hz⟩:=exq (y1|||y2)
    have hzs:z=srw u s j:=by rw[hz,hy1,hy2,hr];exact srw_or hs2 hujW
    have c3:bin .or .u64 (.ofNat y1) (.ofNat y2)=Int.ofNat z:=or64 hA (by rw[hy1];exact Nat.lt_of_le_of_lt (Nat.div_le_self _ _) hujW) (by rw[hy2];exact Nat.mod_lt _ (by decide)) hz
    obtain⟨r2,hr2⟩:=exq (fun x=>if x=j then z else r1 x:Nat->Nat)
    have e11:=f5n r1 r2 j z j9 hr2
    have hr2':r2=fun x=>if x=j then z else rs x:=by
     rw[hr2,hr1];funext x
     by_cases h:x=j
     ·simp only[if_pos h]
     ·simp only[if_neg h]
    obtain⟨j1,hj1⟩:=exq (j+1)
    rw[<-hj1]at e6 e8 e9 e10 c2
    cbv
    refine rgM hP hA hg fun mk _=> ?_
    cbv
    rw[e4]
    cbv
    rw[e2,e5]
    cbv
    rw[zs]
    cbv
    rw[c1]
    cbv
    rw[e1]
    cbv
    rw[e2,e3]
    cbv
    by_cases hs0:0<s
    ·rw[zg hs0]
     cbv
     refine rgM hP hA hg fun mk _=> ?_
     cbv
     rw[e1]
     cbv
     rw[e2,e7]
     cbv
     rw[e6]
     cbv
     rw[e8]
     cbv
     rw[e10,e9]
     cbv
     rw[g3]
     cbv
     rw[zr]
     cbv
     rw[c2]
     cbv
     rw[c3]
     cbv
     rw[e1]
     cbv
     rw[e2,e11]
     cbv
     rw[e6]
     refine⟨(j1,r2),id,⟨by show j1<=n;omega,?_⟩,(by show n-j1<n-j;omega),?_⟩
     ·show ∀x,r2 x=if x<j1 then srw u s x else 0
      rw[hj1]
      exact rest_next hrs hzs hr2'
     ·exact wkih (by repeat' (first|exact trivial|refine⟨rfl,rfl,rfl,?_⟩|refine⟨rfl,rfl,bC _,?_⟩))
    ·rw[zg' hs0]
     cbv
     rw[e6]
     refine⟨(j1,r1),id,⟨by show j1<=n;omega,?_⟩,(by show n-j1<n-j;omega),?_⟩
     ·show ∀x,r1 x=if x<j1 then srw u s x else 0
      rw[hj1]
      have h0:s=0:=by omega
      exact rest_next hrs (by rw[hy1,h0];exact srw_zero u j) hr1
     ·exact wkih (by repeat' (first|exact trivial|refine⟨rfl,rfl,rfl,?_⟩|refine⟨rfl,rfl,bC _,?_⟩))
   ·obtain rfl:j=n:=by omega
    rw[f1f j j hlt]
    cbv
    refine reg_X (hP▸tblOk) hA hg (hP▸mixed) rfl rfl ?_
    cbv
    refine hK _ _ _ ?_
    have q3:rs=fun i=>if i<j then srw u s i else 0:=funext hrs
    rw[<-q3]at q2
    rw[q1,q2]
    rfl
theorem cDivide9{P:Program}(hP:P=Tryz.prog){t:TypeId}(m d:Nat->Nat)(n s:Nat)(hD:Dv m d n s)(w:Nat->Nat)(k:Nat)(hw:Wn k w)(hk:k<=9)(rq rr:Nat->Nat)(hrq:Wn 18 rq)(hrr:Wn 9 rr)(hqV:V 18 rq=V k w/V 9 m)(hrV:V 9 rr=V k w%V 9 m):
 Con P 159 [.ptr 0 0,.slice 1 0 k 9] [⟨0,dcells d n s,215⟩,⟨1,ws w 9,t⟩] 2 [] (fun v _ _=>v= .tup [.agg (ws rq 18),.agg (ws rr 9)]):=
 cDivideC hP m d n s hD w k 9 (ws w 9) rfl hw hk (by decide) rq rr hrq hrr hqV hrV
theorem cDivide18{P:Program}(hP:P=Tryz.prog){t:TypeId}(m d:Nat->Nat)(n s:Nat)(hD:Dv m d n s)(w:Nat->Nat)(k:Nat)(hw:Wn k w)(hk:k<=18)(rq rr:Nat->Nat)(hrq:Wn 18 rq)(hrr:Wn 9 rr)(hqV:V 18 rq=V k w/V 9 m)(hrV:V 9 rr=V k w%V 9 m):
 Con P 159 [.ptr 0 0,.slice 1 0 k 18] [⟨0,dcells d n s,215⟩,⟨1,ws w 18,t⟩] 2 [] (fun v _ _=>v= .tup [.agg (ws rq 18),.agg (ws rr 9)]):=
 cDivideC hP m d n s hD w k 18 (ws w 18) rfl hw hk (by decide) rq rr hrq hrr hqV hrV
end Go.Proofs.YtdhmihfefgcbeaaGreat
namespace Go.Vg
open Go.RowKit
section
variable {P:Program}{g:G}
theorem find_rho{ρ:Nat->Nat}{n0 n l:Nat}{c:Blk}{NB:LL}(h:find (renB (rho ρ n0 n) NB) l=some c):∃b∈NB,find NB b.l=some b/\rho ρ n0 n b.l=l/\c=⟨rho ρ n0 n b.l,renL (rho ρ n0 n) b.cs,b.t⟩:=find_renB h
theorem renB_mem{ρ:Nat->Nat}{NB:LL}{b:Blk}(h:b∈NB):∃c∈renB ρ NB,c.l=ρ b.l:=by
 induction NB with
 |nil=>cases h
 |cons d NB ih=>
  rcases List.mem_cons.1 h with rfl|h
  ·exact⟨_,List.mem_cons_self,rfl⟩
  ·obtain⟨c,hc,e⟩:=ih h
   exact⟨c,List.mem_cons_of_mem _ hc,e⟩
theorem en_new{o:Oper}{c:Call}(ho:o.op= .call c){m0 N:Nat}{ms:List Nat}(hg:GI g m0 ms N)(hd':dstLt N o.dst=true){F:Nat->Option SV}{f:FuncId}{us args:List SV}(hc:callee F c=some (f,us)){Lp:LL}{n0:Nat}{R:SV->LL->Nat->Prop}(hcon:Con P f args Lp n0 [] R)
 (ρ:Nat->Nat) (hus:us=renL ρ args) {M:Nat->Option Blk} (hft:foot ρ M Lp) (hcov:below (fun l=>memN (Lp.map Blk.l) l) n0=true) {val:SV} {NB:LL} {n n1:Nat}
 (hv:∀v L1 k,R v L1 k->v=val/\L1=Lp++NB/\k=n1) (hN:(NB.all fun b=>Nat.ble n0 b.l)=true) (hLp:(Lp.all fun b=>Nat.blt b.l n0)=true) (hcv:∀l,n0<=l->l<n1->∃b∈NB,b.l=l):
 EN g P o F M (ren (rho ρ n0 n) val) (renB (rho ρ n0 n) NB):=by
 have hd:=hg.dst hd'
 obtain⟨hcb,hcon⟩:=hcon
 refine⟨?_⟩
 intro β p F' L' a W hF hM hfr hm hf next Q hnext
 obtain⟨r1,r2⟩:=callee_run (P:=P) (W:=W) hf ho ((callee_congr ho hF).trans hc) hcb
 unfold Oper.wp
 rw[r1,Oper.upon_enter]
 have hft':foot ρ L' Lp:=by
  clear hus hcv hLp hN hv hcov hcon
  induction Lp with
  |nil=>trivial
  |cons b Lp ih=>exact⟨hM _ _ hft.1,ih hft.2⟩
 have hden:denL β us=denL (fun l=>β (ρ l)) args:=by rw[hus,denL_ren]
 rw[hden]
 refine(hcon (fun l=>β (ρ l)) W (foot_pre hm hft' (injB_nil ρ Lp) (fun m h=>by cases h))).mono ?_
 rintro e W' ⟨v,L1,k,β1,hR,rfl,hbv,hm1⟩
 obtain⟨rfl,rfl,rfl⟩:=hv v L1 k hR
 have hN':∀b∈NB,n0<=b.l:=fun b hb=>Nat.le_of_ble_eq_true (List.all_eq_true.1 hN b hb)
 have hρp:∀l,l<n0->p (ρ l):=fun l hl=>by
  obtain⟨b,hb,e⟩:=List.mem_map.1 (memN_mem (below_at (f:=fun l=>memN (Lp.map Blk.l) l) hcov hl))
  have:=hm.bL _ _ (foot_mem hft' hb)
  rw[e]at this;exact this.1
 let nw:=renB (rho ρ n0 n) NB
 have hnp:∀b∈NB,¬p (rho ρ n0 n b.l):=fun b hb=>by
  obtain⟨c',hc',e⟩:=renB_mem (ρ:=rho ρ n0 n) hb
  rw[<-e];exact hfr c' hc'
 obtain⟨γ,hg1,hg2⟩:∃γ:Nat->Nat,(∀l,p l->γ l=β l)/\∀b∈NB,γ (rho ρ n0 n b.l)=β1 b.l:=by
  classical
  refine⟨fun l=>if p l then β l else β1 (n0+(l-n)),fun l hl=>if_pos hl,fun b hb=> ?_⟩
  show(if p _ then _ else _)=_
  rw[if_neg (hnp b hb),rho_ge (hN' b hb)]
  congr 1
  have:=hN' b hb
  omega
 have hγ:∀l,l<k->γ (rho ρ n0 n l)=β1 l:=by
  intro l hl
  by_cases h:l<n0
  ·rw[rho_lt h,hg1 _ (hρp l h)];exact(hm1.old l h).symm
  ·obtain⟨b,hb,e⟩:=hcv l (by omega) hl
   rw[<-e];exact hg2 b hb
 have hlt:∀l,l<k->(p (rho ρ n0 n l)\/ ∃b∈nw,b.l=rho ρ n0 n l):=by
  intro l hl
  by_cases h:l<n0
  ·rw[rho_lt h];exact Or.inl (hρp l h)
  ·obtain⟨b,hb,e⟩:=hcv l (by omega) hl
   obtain⟨c',hc',e2⟩:=renB_mem (ρ:=rho ρ n0 n) hb
   exact Or.inr ⟨c',hc',by rw[e2,e]⟩
 have hcase:∀l b,addN L' nw l=some b->(L' l=some b)\/(∃b1∈NB,find (Lp++NB) b1.l=some b1/\l=rho ρ n0 n b1.l/\b=⟨rho ρ n0 n b1.l,renL (rho ρ n0 n) b1.cs,b1.t⟩):=by
  intro l b h
  unfold addN at h
  cases hq:L' l with
  |some c=>rw[hq]at h;exact Or.inl h
  |none=>
   rw[hq]at h
   obtain⟨b1,h1,h2,h3,h4⟩:=find_rho h
   refine Or.inr ⟨b1,h1,?_,h3.symm,h4⟩
   rw[fap]
   cases hl:find Lp b1.l with
   |none=>exact h2
   |some d=>
    obtain⟨d1,d2⟩:=fdm hl
    have h5:=Nat.le_of_ble_eq_true (show Nat.ble (d.l+1) n0=true from List.all_eq_true.1 hLp d d1)
    have:=hN' b1 h1
    omega
 have hup:=hm1.up
 have hnm:∀i,¬G.mod ⟨W,fun l=>β (ρ l),n0,0,[]⟩ i:=by rintro i ⟨l,hl,_⟩;cases hl
 have hnew:∀b1∈NB,find (Lp++NB) b1.l=some b1->W.heap.size<=β1 b1.l:=fun b1 hb1 h=>by
  rcases hm1.new b1.l b1 h (hN' b1 hb1)with h1|h1
  ·exact h1
  ·exact(hnm _ h1).elim
 have hmβ:=hm.call hup hnm
 have hdv:den γ (ren (rho ρ n0 n) v)=den β1 v:=by rw[den_ren];exact den_congr hγ v hbv
 rw[<-hdv]
 refine hnext γ _ W' ⟨?_,?_,?_,?_,?_,?_,hmβ.up⟩ ((hf.mono hg1 (fun l hl=>Or.inl hl)).put hd (bd_ren hlt v hbv))
 ·exact fun l hl=>Or.inl (hm.low l hl)
 ·intro l hl;rw[hg1 l (hm.low l hl)];exact hm.old l hl
 ·intro l b hb hl
  rcases hcase l b hb with h1|⟨b1,hb1,hf1,rfl,rfl⟩
  ·rw[hg1 _ (hm.bL l b h1).1];exact hm.new l b h1 hl
  ·rw[hg2 b1 hb1];exact Or.inl (Nat.le_trans hm.up.size (hnew b1 hb1 hf1))
 ·intro l b l' b' hb hb' hown e
  rcases hcase l b hb with h1|⟨b1,hb1,hf1,rfl,rfl⟩<;>rcases hcase l' b' hb' with k1|⟨c1,hc1,hf2,rfl,rfl⟩
  ·rw[hg1 _ (hm.bL l b h1).1,hg1 _ (hm.bL l' b' k1).1]at e
   exact hm.inj l b l' b' h1 k1 hown e
  ·rw[hg1 _ (hm.bL l b h1).1,hg2 c1 hc1]at e
   obtain⟨_,_,hcell⟩:=hm.cell l b h1
   have:=block_lt hcell
   have:=hnew c1 hc1 hf2
   omega
  ·rw[hg1 _ (hm.bL l' b' k1).1,hg2 b1 hb1]at e
   obtain⟨_,_,hcell⟩:=hm.cell l' b' k1
   have:=block_lt hcell
   have:=hnew b1 hb1 hf1
   omega
  ·rw[hg2 b1 hb1,hg2 c1 hc1]at e
   rw[hm1.inj _ _ _ _ hf1 hf2 (by
    show own n0 [] b1.l=true
    unfold own
    rw[Nat.ble_eq_true_of_le (hN' b1 hb1)]) e]
 ·intro l b hb
  rcases hcase l b hb with h1|⟨b1,hb1,hf1,rfl,rfl⟩
  ·obtain⟨m,h2,h3⟩:=hmβ.cell l b h1
   refine⟨m,h2,?_⟩
   rw[hg1 _ (hm.bL l b h1).1,dlc (p:=p) (fun l hl=>hg1 l hl) b.cs (hm.bL l b h1).2]
   exact h3
  ·obtain⟨m,h2,h3⟩:=hm1.cell b1.l b1 hf1
   refine⟨m,fun _=> ?_,?_⟩
   ·rw[renL_length]
    refine h2 ?_
    show own n0 [] b1.l=true
    unfold own
    rw[Nat.ble_eq_true_of_le (hN' b1 hb1)]
   ·rw[hg2 b1 hb1]
    rw[denL_ren,dlc hγ b1.cs (hm1.bL _ _ hf1).2]
    exact h3
 ·intro l b hb
  rcases hcase l b hb with h1|⟨b1,hb1,hf1,rfl,rfl⟩
  ·exact⟨Or.inl (hm.bL l b h1).1,bdm (fun _ h=>Or.inl h) _ (hm.bL l b h1).2⟩
  ·obtain⟨c',hc',e2⟩:=renB_mem (ρ:=rho ρ n0 n) hb1
   exact⟨Or.inr ⟨c',hc',e2⟩,bdL_ren hlt _ (hm1.bL _ _ hf1).2⟩
theorem en_s2ap{T:Nat->Option Ty}(hT:TOk P T){o:Oper}{m0 N:Nat}{ms:List Nat}(hg:GI g m0 ms N)(hd':dstLt N o.dst=true){x:Operand}{t:Nat}(ho:o.op= .sliceToArrayPointer t x){F:Nat->Option SV}{M:Nat->Option Blk}{l q k c m e es:Nat}{ag:Bool}{i:Ty}
 (ht:T t=some i) (hd:i.d= .ar m e es ag) (hx:ev F x=some (.slice l q k c)) (hk:m<=k):EN g P o F M (.ptr l q) []:=by
 obtain⟨hu,hm,_⟩:=arr_facts hT ht hd
 refine en_out hg hd' fun β p F' L' a W hF hM hm' hf=> ?_
 have E:∀z∈o.op.operands.toList,ev F' z=ev F z:=fun z hz=>ev_congr fun t ht=>hF t (tmpsL_mem hz ht)
 rw[ho]at E
 obtain⟨e1,b1⟩:=evd hf ((E x (by simp[Op.operands])).trans hx)
 refine⟨?_,b1⟩
 have e2:a.eval x= .slice (some ⟨β l,q,none⟩) k c:=e1
 have h:(Instr.arrayAt t (.slice (some ⟨β l,q,none⟩) k c)).run P W= .ok (.pointer (some ⟨β l,q,none⟩)) W:=by
  unfold Instr.arrayAt
  simp only[Sem.run_bind,run_underlying hu,Result.andThen_ok]
  rw[if_neg (by rw[hm];omega)]
  rfl
 unfold execOp
 simp only[ho,e2,Sem.run_bind,h,Result.andThen_ok,Sem.run_pure,den]
theorem stepDn{o:Oper}{F:FF}{M:LL}{n n':Nat}{K:SV->LL->Nat->Prop}{v:SV}{nw:LL}(h:EN g P o (look F) (selM o (find M)) v nw)(hn:n<=n')(hb:(nw.all fun b=>Nat.ble n b.l&&Nat.blt b.l n')=true)(hd:(nw.map Blk.l).Nodup)(hk:K v nw n'):StepD g P o F M n K:=by
 refine⟨v,nw,n',h,hn,fun b hb'=> ?_,hd,hk⟩
 have:=List.all_eq_true.1 hb b hb'
 simp only[Bool.and_eq_true]at this
 exact⟨Nat.le_of_ble_eq_true this.1,Nat.le_of_ble_eq_true this.2⟩
end
end Go.Vg
