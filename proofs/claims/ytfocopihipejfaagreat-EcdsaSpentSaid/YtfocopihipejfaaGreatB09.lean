/-
  This text proves what these texts prove: Ng, Nh, Ni, Vga. Conditions: those of each theorem.
-/
import Derived.Test.YtfocopihipejfaaGreatB08
set_option maxHeartbeats 8000000
set_option linter.all false
namespace Go.Proofs.YtfocopihipejfaaGreat
open Go.Vg Go.RowKit
set_option maxRecDepth 200000
set_option cbv.maxSteps 100000000
theorem agh{P:Program}(hP:P=Tryz.prog){t:TypeId}(a:Nat->Nat)(u:Nat)(hu:Used 9 a u):
 ah P 179 [.slice 0 0 9 9] [⟨0,ws a 9,t⟩] 1 [] (fun v _ _=>v= .int .i64 (.ofNat u)):=by
 refine aq hP Tryz.func179 (ak _ rfl) (aD rfl) ?_
 intro A g K hA hg hK
 obtain⟨bin,_,cmp,_,_,ix,_,_,_,_,_,_,_,_,nat,off,_,_,sub⟩:=A
 have en:nat 9=Int.ofNat 9:=fZ hA 9
 have f1:∀i,i<9->bin .sub .i64 (.ofNat (i+1)) 1=Int.ofNat i:=fun i h=>(er hA (a:=i+1) (b:=1) (by omega) (by omega)).trans (by simp)
 have f2:∀i,i<9->ix (.ofNat i) 9=some i:=fun i h=>bB hA h
 have f3:∀i,off 0 i 1=i:=fun i=>(dh hA 0 i 1).trans (by omega)
 have f4:=fun(f:Nat->Nat) (k:Nat) (h:k<9)=>ei hA .u64 (n:=9) f h
 simp only[aw,Nat.reduceAdd]at f4
 cbv
 rw[en]
 refine bH Nat (fun i=>i<=9/\u<=i) (fun i=>i) (fun i=> [(3,.int .i64 (.ofNat i))]) [0] (fun i=> []) 9 ⟨aE _,hu.1⟩ ?_ ?_
 ·exact a_
 rintro i ⟨hi,Eh⟩
 cbv
 cases i with
 |zero=>
  rw[show cmp .gtr (.ofNat 0) 0=false from jV hA (b:=0) (by decide)]
  cbv
  exact hK _ _ _ (by rw[show u=0 by omega];rfl)
 |succ i=>
  have e0:cmp .gtr (.ofNat (i+1)) 0=true:=po hA (b:=0) (by omega)
  have e1:=f1 i (by omega)
  obtain⟨i1,dQ⟩:=aa (i+1)
  rw[<-dQ]at e0 e1⊢
  rw[e0]
  cbv
  rw[e1]
  rw[f2 i (by omega)]
  cbv
  rw[f3 i,f4 a i (by omega)]
  cbv
  by_cases hz:a i=0
  ·rw[show cmp .eql (.ofNat (a i)) 0=true from iP hA (b:=0) hz]
   cbv
   rw[e1]
   refine⟨i,id,⟨by omega,?_⟩,(by show i<i1;omega),?_⟩
   ·by_cases h:u=i1
    ·exact absurd (by rw[show u-1=i by omega];exact hz) (hu.2.2 (by omega))
    ·show u<=i
     omega
   ·exact a_
  ·rw[show cmp .eql (.ofNat (a i)) 0=false from ja hA (b:=0) hz]
   cbv
   refine hK _ _ _ ?_
   have:u=i1:=by
    by_cases h:u=i1
    ·exact h
    ·exact absurd (hu.2.1 i (by omega) (by omega)) hz
   rw[this]
   rfl
theorem age{P:Program}(hP:P=Tryz.prog){t:TypeId}(a:Nat->Nat)(u:Nat)(hu:Used 18 a u):
 ah P 179 [.slice 0 0 18 18] [⟨0,ws a 18,t⟩] 1 [] (fun v _ _=>v= .int .i64 (.ofNat u)):=by
 refine aq hP Tryz.func179 (ak _ rfl) (aD rfl) ?_
 intro A g K hA hg hK
 obtain⟨bin,_,cmp,_,_,ix,_,_,_,_,_,_,_,_,nat,off,_,_,sub⟩:=A
 have en:nat 18=Int.ofNat 18:=fZ hA 18
 have f1:∀i,i<18->bin .sub .i64 (.ofNat (i+1)) 1=Int.ofNat i:=fun i h=>(er hA (a:=i+1) (b:=1) (by omega) (by omega)).trans (by simp)
 have f2:∀i,i<18->ix (.ofNat i) 18=some i:=fun i h=>bB hA h
 have f3:∀i,off 0 i 1=i:=fun i=>(dh hA 0 i 1).trans (by omega)
 have f4:=fun(f:Nat->Nat) (k:Nat) (h:k<18)=>ei hA .u64 (n:=18) f h
 simp only[aw,Nat.reduceAdd]at f4
 cbv
 rw[en]
 refine bH Nat (fun i=>i<=18/\u<=i) (fun i=>i) (fun i=> [(3,.int .i64 (.ofNat i))]) [0] (fun i=> []) 18 ⟨aE _,hu.1⟩ ?_ ?_
 ·exact a_
 rintro i ⟨hi,Eh⟩
 cbv
 cases i with
 |zero=>
  rw[show cmp .gtr (.ofNat 0) 0=false from jV hA (b:=0) (by decide)]
  cbv
  exact hK _ _ _ (by rw[show u=0 by omega];rfl)
 |succ i=>
  have e0:cmp .gtr (.ofNat (i+1)) 0=true:=po hA (b:=0) (by omega)
  have e1:=f1 i (by omega)
  obtain⟨i1,dQ⟩:=aa (i+1)
  rw[<-dQ]at e0 e1⊢
  rw[e0]
  cbv
  rw[e1]
  rw[f2 i (by omega)]
  cbv
  rw[f3 i,f4 a i (by omega)]
  cbv
  by_cases hz:a i=0
  ·rw[show cmp .eql (.ofNat (a i)) 0=true from iP hA (b:=0) hz]
   cbv
   rw[e1]
   refine⟨i,id,⟨by omega,?_⟩,(by show i<i1;omega),?_⟩
   ·by_cases h:u=i1
    ·exact absurd (by rw[show u-1=i by omega];exact hz) (hu.2.2 (by omega))
    ·show u<=i
     omega
   ·exact a_
  ·rw[show cmp .eql (.ofNat (a i)) 0=false from ja hA (b:=0) hz]
   cbv
   refine hK _ _ _ ?_
   have:u=i1:=by
    by_cases h:u=i1
    ·exact h
    ·exact absurd (hu.2.1 i (by omega) (by omega)) hz
   rw[this]
   rfl
section
variable {A:Ar}
theorem aqr(hA:A=Ar.real)(K:IntKind){n:Nat}(f g:Nat->Nat)(E:List SV){k v:Nat}(h:k<n)(hg:g=fun j=>if j=k then v else f j):A.eU (aw K (fun j=>Int.ofNat (f j)) 0 n++E) k [.int K (Int.ofNat v)]=some (aw K (fun j=>Int.ofNat (g j)) 0 n++E):=by
 have h1:=gX hA K f g h hg
 rw[zb hA (by rw[tB];exact h)]at h1
 rw[zb hA (by rw[dI,tB];omega)]
 congr 1
 rw[<-ef h1]
 simp only[Vg.splice,mU,pN]
 rw[LS (by rw[tB];omega),PS (by rw[tB];omega),jA,jA,jA]
end
theorem VU{x s:Nat}(hs:s<=64):x*2^s%0x10000000000000000=x%2^(64-s)*2^s:=by
 have h:0x10000000000000000=2^(64-s)*2^s:=by rw[<-dV,show 64-s+s=64 by omega]
 rw[h,Fk]
theorem VV{x s:Nat}(hs:s<=64):x/2^(64-s)=x*2^s/0x10000000000000000:=by
 have h:0x10000000000000000=2^(64-s)*2^s:=by rw[<-dV,show 64-s+s=64 by omega]
 rw[h,L5 _ _ (ew (by decide))]
theorem NI{x s:Nat}(hs:s<=64)(hx:x<0x10000000000000000):x*2^s/0x10000000000000000<2^s:=by
 rw[qN (by decide),bJ]
 exact ae1 hx (ew (by decide))
theorem Ur{p q:Prop}[Decidable p][Decidable q](h:p↔q){a b c d:Nat}(h1:a=c)(h2:b=d):(if p then a else b)=if q then c else d:=by
 by_cases hp:p
 ·rw[aj hp,aj (h.1 hp),h1]
 ·rw[af hp,af (fun x=>hp (h.2 x)),h2]
def jy(m:Nat->Nat)(s j:Nat):Nat:=m j*2^s%0x10000000000000000+(if j=0 then 0 else m (j-1)*2^s/0x10000000000000000)
theorem adI{m:Nat->Nat}{s j:Nat}(hs:s<=64)(hm:m j<0x10000000000000000):(m (j+1)*2^s%0x10000000000000000)|||(m j/2^(64-s))=jy m s (j+1):=by
 have h:=NI hs hm
 rw[VV hs,VU hs,oy h,jy,af (by omega),<-VU hs,oC]
theorem adH{m:Nat->Nat}{s j:Nat}(hs:s<=64)(h0:j=0\/m (j-1)<0x10000000000000000):jy m s j<0x10000000000000000:=by
 rcases h0 with h0|h0
 ·subst h0;rw[jy,aj rfl];exact ax _ (by decide)
 ·have h:=NI hs h0
  have h1:m j*2^s%0x10000000000000000+2^s<=0x10000000000000000:=by
   rw[VU hs]
   have h2:=ea (2^s) (show m j%2^(64-s)+1<=2^(64-s)from ax _ (ew (by decide)))
   rw[cw,fN,<-dV,show 64-s+s=64 by omega]at h2
   exact h2
  unfold jy
  split<;>omega
theorem Qb(m:Nat->Nat)(s:Nat):∀n,V n (jy m s)+(if n=0 then 0 else m (n-1)*2^s/0x10000000000000000)*0x10000000000000000^n=V n m*2^s
 |0=>by simp[V,Dg.num]
 |n+1=>by
  have ih:=Qb m s n
  have hs:jy m s n=m n*2^s%0x10000000000000000+(if n=0 then 0 else m (n-1)*2^s/0x10000000000000000):=rfl
  rw[iX,iX,hs,af (show ¬n+1=0 by omega),oC,cw (V n m),<-ih,br]
  have e:=gN (m n*2^s) 0x10000000000000000
  generalize (if n=0 then 0 else m (n-1)*2^s/0x10000000000000000)=c at *
  have h1:m n*0x10000000000000000^n*2^s=(0x10000000000000000*(m n*2^s/0x10000000000000000)+m n*2^s%0x10000000000000000)*0x10000000000000000^n:=by rw[e];grind
  rw[h1]
  generalize m n*2^s/0x10000000000000000=a at *
  generalize m n*2^s%0x10000000000000000=b at *
  grind
structure Dv(m d:Nat->Nat)(n s:Nat):Prop where
 used:Used 9 m n
 n0:0<n
 s64:s<64
 w:Wn 9 d
 top:9223372036854775808<=d (n-1)
 val:V n d=V n m*2^s
theorem ail{m:Nat->Nat}{n p k s:Nat}(hm:Wn 9 m)(hn:Used 9 m n)(h0:0<n)(hp:n=p+1)(hk:ig (m p) k)(hs:s=64-k):Dv m (fun j=>if j<n then jy m s j else m j) n s:=by
 have Gr:=hn.1
 have hmp:m p≠0:=by have:=hn.2.2 h0;rw[hp]at this;simpa using this
 have hmW:=hm p (by omega)
 have aa7:k<=64:=vk fun h3=>by
  have h4:=hk.2 (by omega)
  have h5:=cV (show 0<2 by decide) (show 64<=k-1 by omega)
  omega
 have fB:0<k:=by
  rcases Nat.eq_zero_or_pos k with h|h
  ·subst h;have:=hk.1;simp at this;omega
  ·exact h
 have pD:s<64:=by omega
 have JZ:2^k*2^s=0x10000000000000000:=by rw[<-dV,show k+s=64 by omega]
 have J0:2^(k-1)*2^s=9223372036854775808:=by rw[<-dV,show k-1+s=63 by omega]
 have zR:0<2^s:=ew (by decide)
 have ab:m p*2^s<0x10000000000000000:=by rw[<-JZ];exact HI hk.1 zR
 have ju:9223372036854775808<=m p*2^s:=by rw[<-J0];exact ea _ (hk.2 fB)
 have gk:s<=64:=ku pD
 clear hk hs JZ J0 aa7 fB
 have a1:Wn 9 (fun j=>if j<n then jy m s j else m j):=fun j hj=>by
  show(if j<n then jy m s j else m j)<_
  split
  ·refine adH gk ?_
   by_cases h:j=0
   ·exact Or.inl h
   ·exact Or.inr (hm _ (by omega))
  ·exact hm j hj
 have a2:9223372036854775808<=(fun j=>if j<n then jy m s j else m j) (n-1):=by
  show 9223372036854775808<=if n-1<n then jy m s (n-1)else m (n-1)
  rw[aj (by omega),hp,oC,jy,aO ab]
  exact eH ju (P2 _ _)
 have a3:V n (fun j=>if j<n then jy m s j else m j)=V n m*2^s:=by
  have h1:V n (fun j=>if j<n then jy m s j else m j)=V n (jy m s):=Dg.jP n fun i hi=>aj hi
  rw[h1]
  have h2:=Qb m s n
  rw[hp,af (by omega),oC,kg ab,fE,gY]at h2
  rw[hp];exact h2
 exact⟨hn,h0,pD,a1,a2,a3⟩
theorem Zt{P:Program}(hP:P=Tryz.prog)(m:Nat->Nat)(n:Nat)(hm:Wn 9 m)(hn:Used 9 m n)(h0:0<n):
 ∃d s,Dv m d n s/\ah P 156 [.ptr 0 0] [⟨0,ws m 9,31⟩] 1 [] (fun v L k=>v= .ptr 1 0/\L=[⟨0,ws m 9,31⟩,⟨1,jK d n s,275⟩]/\k=2):=by
 have Gr:=hn.1
 obtain⟨p,hp⟩:∃p,n=p+1:=⟨n-1,by omega⟩
 obtain⟨k,hk⟩:=ua (m p)
 have hmW:=hm p (by omega)
 obtain⟨s,hs⟩:=aa (64-k)
 have hD:=ail hm hn h0 hp hk hs
 have pD:=hD.s64
 obtain⟨d,hd⟩:=aa (fun j=>if j<n then jy m s j else m j:Nat->Nat)
 rw[<-hd]at hD
 refine⟨d,s,hD,?_⟩
 clear hD
 refine aq hP Tryz.func156 (ak _ rfl) (aD rfl) ?_
 intro A g K hA hg hK
 obtain⟨bin,sh,cmp,_,_,ix,nn,_,_,_,_,_,_,_,_,off,_,_,sub⟩:=A
 have f2:∀i,i<9->ix (.ofNat i) 9=some i:=fun i h=>bB hA h
 have f3:∀i,off 0 i 1=i:=fun i=>(dh hA 0 i 1).trans (by omega)
 have f4:=fun(f:Nat->Nat) (E:List SV) (k:Nat) (h:k<9)=>IB hA .u64 (n:=9) f E h
 have f5:=fun(f g:Nat->Nat) (E:List SV) (k v:Nat) (h:k<9) (e:g=fun j=>if j=k then v else f j)=>aqr hA .u64 (n:=9) f g E h e
 simp only[aw,Nat.reduceAdd,du,cM]at f4 f5
 have g1:bin .sub .i64 (.ofNat n) 1=Int.ofNat p:=(er hA (a:=n) (b:=1) (by omega) (by omega)).trans (aK Int.ofNat (by omega))
 have e4:=f4 m [.int .i64 (.ofNat n),.int .i64 0] p (by omega)
 have zs:nn (.ofNat s)=true:=kr hA s
 cbv
 refine cm hP hA hg ?_
 cbv
 refine eV (sI hg rfl rfl rfl rfl rfl (za (hP▸aI) (show av 29=some _ from rfl) rfl _ _)) ?_
 cbv
 refine aY hg (agh hP m n hn) (fun _=>0) ⟨rfl,trivial⟩ ?_
 cbv
 refine cf hP hA hg fun mk _=> ?_
 cbv
 rw[g1]
 cbv
 rw[f2 p (by omega)]
 cbv
 rw[f3 p,e4]
 cbv
 refine bN hg (Zl hP (m p) k hmW hk) ?_
 rw[<-hs]
 cbv
 rw[g1]
 have g3:bin .sub .i64 64 (.ofNat s)=Int.ofNat (64-s):=er hA (a:=64) (b:=s) (by omega) (by omega)
 have zr:nn (.ofNat (64-s))=true:=kr hA _
 have zg:0<s->cmp .gtr (.ofNat s) 0=true:=fun h=>po hA (b:=0) h
 have PK:¬0<s->cmp .gtr (.ofNat s) 0=false:=fun h=>jV hA (b:=0) h
 obtain⟨r,hr⟩:=aa (64-s)
 rw[<-hr]at g3 zr
 refine bH (Nat×Int×(Nat->Nat)) (fun σ=>σ.1<=n/\σ.2.1=Int.ofNat σ.1-1/\∀j,σ.2.2 j=if σ.1<=j/\j<n then jy m s j else m j) (fun σ=>σ.1)
  (fun σ=> [(4,.int .i64 σ.2.1)]) [3] (fun σ=> [(1,jK σ.2.2 n s)]) (n,Int.ofNat p,m) ⟨aE _,?_,?_⟩ ?_ ?_
 ·show Int.ofNat p=Int.ofNat n-1
  rw[hp];exact(LM (p:Int) 1).symm
 ·intro j;exact(af (by omega)).symm
 ·exact a_
 rintro⟨t,iv,q⟩ ⟨ht,iT,mE⟩
 have ht:t<=n:=ht
 have iT:iv=Int.ofNat t-1:=iT
 have hq:∀j,q j=if t<=j/\j<n then jy m s j else m j:=mE
 clear mE
 cases t with
 |zero=>
  obtain rfl:iv= -1:=by rw[iT];rfl
  cbv
  rw[show cmp .geq (-1) 0=false from bg (bg (bg (kA hA) .geq) (-1)) 0]
  cbv
  have:q=d:=by
   rw[hd]
   exact funext fun j=>(hq j).trans (Ur ⟨fun h=>h.2,fun h=>⟨bf _,h⟩⟩ rfl rfl)
  rw[this]
  exact hK _ _ _ ⟨rfl,rfl,rfl⟩
 |succ i=>
  obtain rfl:iv=Int.ofNat i:=by rw[iT];exact LM (i:Int) 1
  have i9:i<9:=by omega
  have J4:q i=m i:=(hq i).trans (af (by omega))
  obtain⟨w,hw⟩:=aa (m i*2^s%0x10000000000000000)
  obtain⟨q1,kV⟩:=aa (fun j=>if j=i then w else q j:Nat->Nat)
  have e1:sh .shl .u64 (.ofNat (q i)) (.ofNat s)=Int.ofNat w:=Cw hA (by omega) (by rw[J4];exact hw)
  have e2:cmp .geq (.ofNat i) 0=true:=kC hA (b:=0) (bf _)
  have e5:=f4 q [.int .i64 (.ofNat n),.int .i64 (.ofNat s)] i i9
  have e6:=f5 q q1 [.int .i64 (.ofNat n),.int .i64 (.ofNat s)] i w i9 kV
  have e7:=f2 i i9
  have e8:=f3 i
  cbv
  rw[e2]
  cbv
  refine cf hP hA hg fun mk _=> ?_
  cbv
  rw[e7]
  cbv
  rw[e8,e5]
  cbv
  rw[zs]
  cbv
  rw[e1]
  cbv
  rw[e7]
  cbv
  rw[e8,e6]
  cbv
  have TJ:q1 i=w:=by rw[kV];exact aj rfl
  have NZ:∀j,j≠i->q1 j=q j:=fun j h=>by rw[kV];exact af h
  have gk:s<=64:=ku pD
  have nx:∀q2:Nat->Nat,q2 i=jy m s i->(∀j,j≠i->q2 j=q j)->∀j,q2 j=if i<=j/\j<n then jy m s j else m j:=by
   intro q2 h1 h2 j
   by_cases hj:j=i
   ·rw[hj,h1,aj ⟨aE _,by omega⟩]
   ·rw[h2 j hj,hq j]
    exact Ur ⟨fun h=>⟨by omega,h.2⟩,fun h=>⟨by omega,h.2⟩⟩ rfl rfl
  by_cases DQ:i=0
  ·obtain rfl:i=0:=DQ
   rw[show cmp .gtr (.ofNat 0) 0=false from jV hA (b:=0) (by decide)]
   cbv
   rw[show bin .sub .i64 (.ofNat 0) 1= -1 from bg (bg (bg (bg (qQ hA) .sub) .i64) 0) 1]
   refine⟨(0,-1,q1),id,⟨bf _,rfl,nx q1 ?_ NZ⟩,(by show 0<0+1;omega),?_⟩
   ·rw[TJ,hw];exact(gY _).symm
   ·exact a_
  ·obtain⟨l,hl⟩:∃l,i=l+1:=⟨i-1,by omega⟩
   have g4:bin .sub .i64 (.ofNat i) 1=Int.ofNat l:=(er hA (a:=i) (b:=1) (by omega) (by omega)).trans (by rw[hl];rfl)
   rw[show cmp .gtr (.ofNat i) 0=true from po hA (b:=0) (by omega)]
   cbv
   by_cases iK:0<s
   ·rw[zg iK]
    cbv
    refine cf hP hA hg fun mk _=> ?_
    cbv
    have og:l<9:=by omega
    have Gx:q1 l=m l:=(NZ l (by omega)).trans ((hq l).trans (af (by omega)))
    obtain⟨y,hy⟩:=aa (m l/2^r)
    obtain⟨z,hz⟩:=aa (w|||y)
    have AN:z=jy m s i:=by rw[hz,hy,hw,hr,hl];exact adI gk (hm l og)
    have c1:sh .shr .u64 (.ofNat (q1 l)) (.ofNat r)=Int.ofNat y:=EL hA (by omega) (by rw[Gx];exact hy)
    have hwW:w<0x10000000000000000:=by rw[hw];exact ax _ (by decide)
    have hyW:y<0x10000000000000000:=by rw[hy];exact eB (gq _ _) (hm l og)
    have c2:bin .or .u64 (.ofNat w) (.ofNat y)=Int.ofNat z:=G0 hA hwW hyW hz
    obtain⟨q2,gv⟩:=aa (fun j=>if j=i then z else q1 j:Nat->Nat)
    have e9:=f4 q1 [.int .i64 (.ofNat n),.int .i64 (.ofNat s)] i i9
    have jT:=f4 q1 [.int .i64 (.ofNat n),.int .i64 (.ofNat s)] l og
    have kP:=f5 q1 q2 [.int .i64 (.ofNat n),.int .i64 (.ofNat s)] i z i9 gv
    rw[TJ]at e9
    rw[e7]
    cbv
    rw[e8,e9]
    cbv
    rw[g4]
    cbv
    rw[f2 l og]
    cbv
    rw[f3 l,jT]
    cbv
    rw[g3]
    cbv
    rw[zr]
    cbv
    rw[c1]
    cbv
    rw[c2]
    cbv
    rw[e7]
    cbv
    rw[e8,kP]
    cbv
    rw[g4]
    refine⟨(i,Int.ofNat l,q2),id,⟨by omega,?_,nx q2 ?_ ?_⟩,(by show i<i+1;omega),?_⟩
    ·show Int.ofNat l=Int.ofNat i-1
     rw[hl];exact(LM (l:Int) 1).symm
    ·rw[gv,<-AN];exact aj rfl
    ·intro j hj;rw[gv];exact(af hj).trans (NZ j hj)
    ·exact a_
   ·rw[PK iK]
    cbv
    rw[g4]
    refine⟨(i,Int.ofNat l,q1),id,⟨by omega,?_,nx q1 ?_ NZ⟩,(by show i<i+1;omega),?_⟩
    ·show Int.ofNat l=Int.ofNat i-1
     rw[hl];exact(LM (l:Int) 1).symm
    ·have h0:s=0:=by omega
     have h1:m l<0x10000000000000000:=hm l (by omega)
     rw[TJ,hw,h0,jy,af (by omega),show i-1=l by omega]
     rw[jB,fh,fh,kg h1,gY]
    ·exact a_
end Go.Proofs.YtfocopihipejfaaGreat
namespace Go.Proofs.YtfocopihipejfaaGreat
open Go.Vg Go.RowKit
set_option maxRecDepth 20000
theorem Qc(i j:Nat)(f:Nat->Nat):V (i+j) f=V i f+Vw i j f*0x10000000000000000^i:=Dg.yZ f i j
theorem Qe(a i j:Nat)(f:Nat->Nat):Vw a (i+j) f=Vw a i f+Vw (a+i) j f*0x10000000000000000^i:=by
 have h:=Dg.yZ (b:=0x10000000000000000) (fun t=>f (a+t)) i j
 have h2:Vw (a+i) j f=Dg.num 0x10000000000000000 (fun t=>f (a+(i+t))) j:=Dg.jP j fun t _=>aK f (by omega)
 rw[h2];exact h
theorem YL{u u':Nat->Nat}{i n N:Nat}(hi:i+(n+1)<=N)(h:∀j,j<i\/i+n<j->u' j=u j):V N u'+Vw i (n+1) u*0x10000000000000000^i=V N u+Vw i (n+1) u'*0x10000000000000000^i:=by
 obtain⟨j,rfl⟩:∃j,N=i+((n+1)+j):=⟨N-(i+(n+1)),by omega⟩
 rw[Qc i _ u',Qc i _ u,Qe i (n+1) j u,Qe i (n+1) j u']
 have h1:V i u'=V i u:=Dg.jP i fun t ht=>h t (Or.inl ht)
 have h2:Vw (i+(n+1)) j u'=Vw (i+(n+1)) j u:=Dg.jP j fun t _=>h _ (Or.inr (by omega))
 rw[h1,h2,cw,cw]
 generalize Vw i (n+1) u*_=a
 generalize Vw i (n+1) u'*_=b
 omega
theorem aeC{u:Nat->Nat}{i n N D:Nat}(hi:i+(n+1)<=N)(hD:D<=0x10000000000000000^n)(h:V N u<D*0x10000000000000000^(i+1)):V N u=V i u+Vw i (n+1) u*0x10000000000000000^i:=by
 obtain⟨j,rfl⟩:∃j,N=i+((n+1)+j):=⟨N-(i+(n+1)),by omega⟩
 rw[Qc i _ u,Qe i (n+1) j u]at *
 generalize Vw (i+(n+1)) j u=r at *
 rcases Nat.eq_zero_or_pos r with h0|h0
 ·rw[h0,fE,gY]
 ·exfalso
  have h1:D*0x10000000000000000^(i+1)<=0x10000000000000000^n*0x10000000000000000^(i+1):=ea _ hD
  have h2:0x10000000000000000^n*0x10000000000000000^(i+1)=0x10000000000000000^(n+1)*0x10000000000000000^i:=by
   rw[<-dV,<-dV,show n+(i+1)=n+1+i by omega]
  have h3:1*0x10000000000000000^(n+1)<=r*0x10000000000000000^(n+1):=ea _ h0
  rw[fN]at h3
  have h4:=ea (0x10000000000000000^i) (eH h3 (P1 (r*0x10000000000000000^(n+1)) (Vw i (n+1) u)))
  have h5:=eH h4 (P1 _ (V i u))
  exact absurd h (vC.2 (eH h1 (eH (pO h2) h5)))
theorem afc{u u':Nat->Nat}{i n N x D:Nat}(hu:Wn N u)(hi:i+(n+1)<=N)(FQ:0<D)(hD:D<=0x10000000000000000^n)(h:V N u<D*0x10000000000000000^(i+1))(hf:∀j,j<i\/i+n<j->u' j=u j)
 (e:Vw i (n+1) u'+x*D=Vw i (n+1) u) (hx:Vw i (n+1) u/D<=x):V N u'+x*0x10000000000000000^i*D=V N u/\V N u'<D*0x10000000000000000^i:=by
 have h1:=YL hi hf
 have h2:=aeC hi hD h
 have hL:V i u<0x10000000000000000^i:=eg fun j hj=>hu j (by omega)
 have hX:Vw i (n+1) u'<D:=by
  have h3:Vw i (n+1) u<(x+1)*D:=by
   rw[<-qN FQ];omega
  rw[cw,fN]at h3
  omega
 generalize Vw i (n+1) u'=X' at *
 generalize Vw i (n+1) u=X at *
 generalize 0x10000000000000000^i=B at *
 generalize V N u'=R' at *
 generalize V N u=R at *
 generalize V i u=L at *
 subst e
 have e1:(X'+x*D)*B=X'*B+x*B*D:=by rw[cw];congr 1;rw[eZ,eZ,bJ D B]
 have e2:(X'+1)*B<=D*B:=ea _ hX
 rw[e1]at h1 h2
 rw[cw,fN]at e2
 generalize x*B*D=a at *
 generalize X'*B=b at *
 generalize D*B=c at *
 constructor<;>omega
theorem ae6{q:Nat->Nat}{i x N:Nat}(hi:i<N)(h:q i=0):V N (fun j=>if j=i then x else q j)=V N q+x*0x10000000000000000^i:=by
 have h1:=YL (u:=q) (u':=fun j=>if j=i then x else q j) (i:=i) (n:=0) (N:=N) (by omega) fun j hj=>af (by omega)
 have h2:Vw i (0+1) q=0:=by rw[CU];show Vw i 0 q+q i*_=0;rw[h];rfl
 have h3:Vw i (0+1) (fun j=>if j=i then x else q j)=x:=by
  rw[CU];show 0+(if i+0=i then x else q i)*_=x
  rw[aj (gY i),jB,fh,dB]
 rw[h2,h3,fE]at h1
 exact h1
theorem aqx{W D k n s t:Nat}{d:Nat->Nat}(hW:W<0x10000000000000000^k)(hn:0<n)(hd:9223372036854775808<=d (n-1))(hD:D=V n d)(hs:s<64)(hk:k<=n-1+t):W*2^s<D*0x10000000000000000^t:=by
 have h1:9223372036854775808*0x10000000000000000^(n-1)<=D:=by
  rw[hD]
  obtain⟨p,rfl⟩:∃p,n=p+1:=⟨n-1,by omega⟩
  rw[iX]
  exact eH (ea _ hd) (P1 _ _)
 have h2:=ea (0x10000000000000000^t) h1
 rw[eZ,<-dV]at h2
 have h3:0x10000000000000000^k<=0x10000000000000000^(n-1+t):=cV (by decide) hk
 have h4:2^s<=9223372036854775808:=eH (cV (by decide) (show s<=63 by omega)) (pO (by decide))
 refine cg ?_ h2
 refine cg (HI hW (ew (by decide))) ?_
 rw[bJ]
 exact mV h4 h3
theorem aiJ{W M S R Q:Nat}(hS:0<S)(e:R+Q*(M*S)=W*S)(h:R<M*S):Q=W/M/\R=W%M*S:=by
 constructor
 ·rw[<-L5 _ _ hS,<-e,zj _ _ (by omega),kg h,dB]
 ·rw[<-Fk,<-e,tR,aO h]
def jz(u:Nat->Nat)(s i:Nat):Nat:=u i/2^s+u (i+1)*2^(64-s)%0x10000000000000000
theorem Pg{s:Nat}(hs:s<=64):2^(64-s)*2^s=0x10000000000000000:=by rw[<-dV,show 64-s+s=64 by omega]
theorem La{x s:Nat}(hs:s<=64):x*2^(64-s)%0x10000000000000000=x%2^s*2^(64-s):=by
 rw[<-Pg hs,bJ (2^(64-s)) (2^s),Fk]
theorem Z8{x s:Nat}(hs:s<=64)(hx:x<0x10000000000000000):x/2^s<2^(64-s):=by
 rw[qN (ew (by decide)),Pg hs];exact hx
theorem aqv{u:Nat->Nat}{s i:Nat}(hs:s<=64)(hu:u i<0x10000000000000000):(u i/2^s)|||(u (i+1)*2^(64-s)%0x10000000000000000)=jz u s i:=by
 rw[zm,La hs,oy (Z8 hs hu),jz,La hs,oB]
theorem aqu{u:Nat->Nat}{s i:Nat}(hs:s<=64)(hu:u i<0x10000000000000000):jz u s i<0x10000000000000000:=by
 have h:=Z8 hs hu
 have h2:=ea (2^(64-s)) (show u (i+1)%2^s+1<=2^s from ax _ (ew (by decide)))
 rw[cw,fN,bJ (2^s) (2^(64-s)),Pg hs]at h2
 rw[jz,La hs]
 omega
theorem YJ(u:Nat->Nat){s:Nat}(hs:s<=64):∀n,V n (jz u s)*2^s+u 0%2^s=V n u+u n%2^s*0x10000000000000000^n
 |0=>by simp[V,Dg.num]
 |n+1=>by
  have ih:=YJ u hs n
  have h1:jz u s n*2^s+u n%2^s=u n+u (n+1)%2^s*0x10000000000000000:=by
   rw[jz,La hs,cw,eZ,Pg hs]
   have:=gN (u n) (2^s)
   rw[bJ]at this
   omega
  rw[iX,iX,br,cw]
  generalize jz u s n=x at *
  generalize V n (jz u s)*2^s=y at *
  generalize 2^s=S at *
  generalize 0x10000000000000000^n=B at *
  have h2:x*B*S+u n%S*B=u n*B+u (n+1)%S*(B*0x10000000000000000):=by
   have:=aK (· *B) h1
   simp only[cw]at this
   rw[eZ x B S,bJ B S,<-eZ,this,bJ B 0x10000000000000000,eZ]
  omega
theorem ajO{u:Nat->Nat}{n N:Nat}(hu:Wn N u)(h:V N u<0x10000000000000000^n){j:Nat}(hj:n<=j)(hjN:j<N):u j=0:=by
 rw[<-Dg.zH (by decide) N hu j hjN]
 exact Dg.v8 (by decide) h hj
theorem apA{u:Nat->Nat}{n s r D:Nat}(hu:Wn 19 u)(hs:s<64)(hn:n<=9)(hD:D<=0x10000000000000000^n)(h:V 19 u<D)(e:V 19 u=r*2^s):Wn 9 (fun i=>if i<n then jz u s i else 0)/\V 9 (fun i=>if i<n then jz u s i else 0)=r:=by
 have hz:∀j,n<=j->j<19->u j=0:=fun j h1 h2=>ajO hu (cg h hD) h1 h2
 have hV:V 19 u=V n u:=by
  obtain⟨k,hk⟩:∃k,19=n+k:=⟨19-n,by omega⟩
  rw[hk]
  exact Dg.rM u n k fun i h1 h2=>hz i h1 (by omega)
 have gk:s<=64:=by omega
 constructor
 ·intro j hj
  show(if j<n then jz u s j else 0)<_
  split
  ·exact aqu gk (hu j (by omega))
  ·decide
 ·have h1:V 9 (fun i=>if i<n then jz u s i else 0)=V n (fun i=>if i<n then jz u s i else 0):=by
   obtain⟨k,hk⟩:∃k,9=n+k:=⟨9-n,by omega⟩
   rw[hk]
   exact Dg.rM _ n k fun i h1 h2=>af (by omega)
  have h2:V n (fun i=>if i<n then jz u s i else 0)=V n (jz u s):=Dg.jP n fun i hi=>aj hi
  have h3:=YJ u gk n
  rw[hz n (aE _) (by omega),zq,fE,gY,<-hV,e]at h3
  have hS:0<2^s:=ew (by decide)
  have ab:=ax (u 0) hS
  rw[h1,h2]
  generalize V n (jz u s)=v at *
  generalize 2^s=S at *
  have:v=(v*S+u 0%S)/S:=by
   rw[oB,zj _ _ hS,kg ab,dB]
  rw[this,h3,P5 _ hS]
def mr(w:Nat->Nat)(s i j:Nat):Nat:=if j<i then jy w s j else if j=i then(if i=0 then 0 else w (i-1)*2^s/0x10000000000000000)else 0
theorem ari(z:Int)(h: -9223372036854775808<=z)(h2:z<9223372036854775808):IntKind.i64.wrap z=z:=by
 simp only[IntKind.wrap,IntKind.signed,IntKind.bits]
 have:((2:Int)^64)=0x10000000000000000:=by decide
 have h3:((2:Int)^(64-1))=9223372036854775808:=by decide
 simp only[this,h3,Yc,qT]
 split<;>omega
theorem ad'{A:Ar}(hA:A=Ar.real){a b:Nat}(ha:a<4294967296)(hb:b<4294967296):A.bin .sub .i64 (Int.ofNat a) (Int.ofNat b)=Int.ofNat a-Int.ofNat b:=by
 subst hA
 exact ari _ (by simp only[Yf];omega) (by simp only[Yf];omega)
theorem aib{X X' x D Q P:Nat}(h:X'<P)(e:X'+x*D=X+P)(hQ:Q=X/D):Q<x:=by
 rw[hQ]
 exact xQ (by rw[bJ];omega)
theorem aia{X X' YM x y c D P:Nat}(e:X'+x*D=X+P)(hx:x=y+1)(h:YM+c*P=X'+D)(hc:c<=1):YM+y*D=X+(1-c)*P:=by
 subst hx
 rw[cw,fN]at e
 obtain rfl|rfl:c=0\/c=1:=by omega
 ·rw[fE]at h;rw[tU,fN];omega
 ·rw[fN]at h;rw[vH,fE];omega
theorem apq{u:Nat->Nat}{a n D:Nat}(hi:a+(n+1)<=19)(FQ:0<D)(hD:D<=0x10000000000000000^n)(h:V 19 u<D*0x10000000000000000^(a+1)):Vw a (n+1) u/D<0x10000000000000000:=by
 have h1:=aeC hi hD h
 rw[qN FQ]
 rw[h1,br,bJ (0x10000000000000000^a),<-eZ]at h
 refine LZ (eB (P1 _ _) h)|>fun x=> ?_
 rw[bJ];exact x
theorem ae9{R R' q x B D U q':Nat}(h:R+q*D=U)(h1:R'+x*B*D=R)(h2:q'=q+x*B):R'+q'*D=U:=by
 rw[h2,cw]
 generalize x*B*D=a at *
 generalize q*D=b at *
 omega
theorem aqw(u:Nat->Nat)(j:Nat):u j/2^0=jz u 0 j:=by
 rw[jz,La (by omega),jB,zl,fE,gY]
theorem adn{u r r1:Nat->Nat}{s i z:Nat}(hr:∀j,r j=if j<i then jz u s j else 0)(hz:z=jz u s i)(h:r1=fun j=>if j=i then z else r j)(j:Nat):r1 j=if j<i+1 then jz u s j else 0:=by
 rw[h];show(if j=i then z else r j)=_
 by_cases a:j=i
 ·rw[aj a,aj (by omega),hz,a]
 ·rw[af a,hr j]
  exact Ur (by omega) rfl rfl
theorem Rg(w:Nat->Nat)(s i:Nat):mr w s i i=if i=0 then 0 else w (i-1)*2^s/0x10000000000000000:=by
 unfold mr;rw[af (iO _),aj rfl]
theorem aiG{w:Nat->Nat}{s i k:Nat}(hs:s<=64)(hw:Wn k w)(hi:i<k):mr w s i i<0x10000000000000000:=by
 rw[Rg]
 split
 ·decide
 ·refine cg (NI hs (hw _ (by omega))) ?_
  exact eH (cV (by decide) hs) (pO (by decide))
theorem aiI{w:Nat->Nat}{s i k:Nat}(hs:s<=64)(hw:Wn k w)(hi:i<k):mr w s i i|||(w i*2^s%0x10000000000000000)=jy w s i:=by
 rw[Rg,zm]
 by_cases h:i=0
 ·subst h;rw[aj rfl,P6];rfl
 ·obtain⟨l,rfl⟩:∃l,i=l+1:=⟨i-1,by omega⟩
  rw[af (by omega),oC,<-VV hs]
  exact adI hs (hw l (by omega))
theorem aaj{w u u1 u2:Nat->Nat}{s i:Nat}(hs:s<=64)(hu:∀j,u j=mr w s i j)(h1:u1=fun j=>if j=i then jy w s i else u j)(h2:u2=fun j=>if j=i+1 then w i/2^(64-s)else u1 j)(j:Nat):u2 j=mr w s (i+1) j:=by
 rw[h2];show(if j=i+1 then _ else u1 j)=_
 rw[h1];show(if j=i+1 then _ else if j=i then _ else u j)=_
 rw[hu j]
 unfold mr
 by_cases a:j=i+1
 ·rw[aj a,af (by omega),aj a,af (by omega),oC,VV hs]
 ·rw[af a]
  by_cases b:j=i
  ·rw[aj b,aj (by omega),b]
  ·rw[af b]
   by_cases c:j<i
   ·rw[aj c,aj (by omega)]
   ·rw[af c,af b,af (by omega),af a]
theorem aiH{w u u1:Nat->Nat}{s i k:Nat}(hw:Wn k w)(hi:i<k)(hs:s=0)(hu:∀j,u j=mr w s i j)(h1:u1=fun j=>if j=i then jy w s i else u j)(j:Nat):u1 j=mr w s (i+1) j:=by
 rw[<-aaj (by omega) hu h1 rfl j]
 show _=if j=i+1 then _ else _
 by_cases a:j=i+1
 ·rw[aj a,hs]
  have hz:w i/2^(64-0)=0:=kg (cg (hw i hi) (pO (by decide)))
  rw[hz,h1]
  show(if j=i then _ else u j)=0
  rw[af (by omega),hu j,mr,af (by omega),af (by omega)]
 ·rw[af a]
theorem aiF{w u:Nat->Nat}{s k:Nat}(hs:s<=64)(hw:Wn k w)(hk:k<=18)(hu:∀j,u j=mr w s k j):Wn 19 u/\V 19 u=V k w*2^s:=by
 constructor
 ·intro j hj
  rw[hu j,mr]
  split
  ·refine adH hs ?_
   by_cases h:j=0
   ·exact Or.inl h
   ·exact Or.inr (hw _ (by omega))
  ·split
   ·split
    ·decide
    ·refine cg (NI hs (hw _ (by omega))) ?_
     exact eH (cV (by decide) hs) (pO (by decide))
   ·decide
 ·obtain⟨l,hl⟩:∃l,19=(k+1)+l:=⟨19-(k+1),by omega⟩
  have h1:V 19 u=V (k+1) u:=by
   rw[hl]
   exact Dg.rM u (k+1) l fun i h1 h2=>by rw[hu i,mr,af (by omega),af (by omega)]
  have h2:V k u=V k (jy w s):=Dg.jP k fun i hi=>by rw[hu i,mr,aj hi]
  rw[h1,iX,h2,hu k,Rg]
  exact Qb w s k
theorem Zg{P:Program}(hP:P=Tryz.prog){t:TypeId}(m d:Nat->Nat)(n s:Nat)(hD:Dv m d n s)(w:Nat->Nat)(k c:Nat)(C:List SV)(hC:C=ws w c)(hw:Wn k w)(hk:k<=c)(arv:c<=18)(rq rr:Nat->Nat)(J8:Wn 18 rq)(mH:Wn 9 rr)(mF:V 18 rq=V k w/V 9 m)(cG:V 9 rr=V k w%V 9 m):
 ah P 157 [.ptr 0 0,.slice 1 0 k c] [⟨0,jK d n s,275⟩,⟨1,C,t⟩] 2 [] (fun v _ _=>v= .aR [.agg (ws rq 18),.agg (ws rr 9)]):=by
 have bC:∀m,an m C=true:=fun m=>by rw[hC];exact AS m _ _ _ _
 refine aq hP Tryz.func157 (ak _ rfl) (aD (by simp only[kL,mf,bC 2];rfl)) ?_
 intro A g K hA hg hK
 obtain⟨bin,sh,cmp,_,_,ix,nn,_,fQ,_,_,_,_,_,nat,off,get,_,sub⟩:=A
 have pD:=hD.s64
 have gk:s<=64:=by omega
 have en:nat k=Int.ofNat k:=fZ hA k
 have yg:∀x y,x<y->cmp .lss (.ofNat x) (.ofNat y)=true:=fun x y h=>cZ hA h
 have iD:∀x y,¬x<y->cmp .lss (.ofNat x) (.ofNat y)=false:=fun x y h=>bM hA h
 have f2:∀i,i<k->ix (.ofNat i) k=some i:=fun i h=>bB hA h
 have MR:∀i,i<19->ix (.ofNat i) 19=some i:=fun i h=>bB hA h
 have f3:∀i,off 0 i 1=i:=fun i=>(dh hA 0 i 1).trans (by omega)
 have f4:∀ (f:Nat->Nat) (i:Nat),i<k->get C i=some (.int .u64 (.ofNat (w i))):=fun _ i h=>by rw[hC];exact ei hA .u64 w (by omega)
 clear hC
 have MS:=fun(f:Nat->Nat) (i:Nat) (h:i<19)=>ei hA .u64 (n:=19) f h
 have Ra:=fun(f g:Nat->Nat) (i v:Nat) (h:i<19) (e:g=fun j=>if j=i then v else f j)=>gX hA .u64 (n:=19) f g h e
 have f6:∀i,i<19->bin .add .i64 (.ofNat i) 1=Int.ofNat (i+1):=fun i h=>e_ hA (b:=1) (by omega)
 simp only[aw,Nat.reduceAdd]at MS Ra
 have zs:nn (.ofNat s)=true:=kr hA s
 have g3:bin .sub .i64 64 (.ofNat s)=Int.ofNat (64-s):=er hA (a:=64) (b:=s) (by omega) (by omega)
 have zr:nn (.ofNat (64-s))=true:=kr hA _
 have zg:0<s->cmp .gtr (.ofNat s) 0=true:=fun h=>po hA (b:=0) h
 have PK:¬0<s->cmp .gtr (.ofNat s) 0=false:=fun h=>jV hA (b:=0) h
 obtain⟨r,hr⟩:=aa (64-s)
 rw[<-hr]at g3 zr
 cbv
 rw[en]
 refine bH (Nat×(Nat->Nat)) (fun σ=>σ.1<=k/\∀j,σ.2 j=mr w s σ.1 j) (fun σ=>k-σ.1)
  (fun σ=> [(17,.int .i64 (.ofNat σ.1))]) [0,1,4,5,6,7,15,16] (fun σ=> [(4,ws σ.2 19)]) (0,fun _=>0) ⟨bf _,?_⟩ ?_ ?_
 ·intro j;show 0=mr w s 0 j
  unfold mr;rw[af (mh _)];split<;>rfl
 ·exact aS (by repeat' (first|exact trivial|refine⟨rfl,rfl,rfl,?_⟩|refine⟨rfl,rfl,bC _,?_⟩))
 rintro⟨i,u⟩ ⟨hi,yQ⟩
 have hi:i<=k:=hi
 have hu:∀j,u j=mr w s i j:=yQ
 clear yQ
 cbv
 by_cases ab:i<k
 ·rw[yg i k ab]
  cbv
  rw[f2 i ab]
  cbv
  rw[f3 i,f4 w i (by omega)]
  cbv
  refine cf hP hA hg fun mk _=> ?_
  cbv
  obtain⟨w1,kI⟩:=aa (w i*2^s%0x10000000000000000)
  have akq:w1<0x10000000000000000:=by rw[kI];exact ax _ (by decide)
  obtain⟨z,hz⟩:=aa (jy w s i)
  have Eh:=hu i
  have c1:sh .shl .u64 (.ofNat (w i)) (.ofNat s)=Int.ofNat w1:=Cw hA gk kI
  have c2:bin .or .u64 (.ofNat (u i)) (.ofNat w1)=Int.ofNat z:=G0 hA (by rw[Eh];exact aiG gk hw ab) akq (by rw[Eh,hz,kI];exact(aiI gk hw ab).symm)
  obtain⟨u1,lF⟩:=aa (fun j=>if j=i then z else u j:Nat->Nat)
  have i19:i<19:=by omega
  have j19:i+1<19:=by omega
  have e1:=MR i i19
  have e2:=f3 i
  have e3:=Ra u u1 i z i19 lF
  have e6:=f6 i i19
  have e7:=MR (i+1) j19
  have e8:=f3 (i+1)
  obtain⟨y,hy⟩:=aa (w i/2^r)
  have c3:sh .shr .u64 (.ofNat (w i)) (.ofNat r)=Int.ofNat y:=EL hA (by omega) hy
  obtain⟨u2,qp⟩:=aa (fun j=>if j=i+1 then y else u1 j:Nat->Nat)
  have e9:=Ra u1 u2 (i+1) y j19 qp
  obtain⟨i1,dQ⟩:=aa (i+1)
  rw[<-dQ]at e6 e7 e8 e9
  rw[e1]
  cbv
  rw[e2,MS u i i19]
  cbv
  rw[zs]
  cbv
  rw[c1]
  cbv
  rw[c2]
  cbv
  rw[e1]
  cbv
  rw[e2,e3]
  cbv
  by_cases iK:0<s
  ·rw[zg iK]
   cbv
   rw[e6,g3]
   cbv
   rw[zr]
   cbv
   rw[c3]
   cbv
   rw[e7]
   cbv
   rw[e8,e9]
   cbv
   rw[e6]
   refine⟨(i1,u2),id,⟨by show i1<=k;omega,?_⟩,(by show k-i1<k-i;omega),?_⟩
   ·show ∀j,u2 j=mr w s i1 j
    rw[dQ]
    rw[hz]at lF
    rw[hy,hr]at qp
    exact aaj gk hu lF qp
   ·exact aS (by repeat' (first|exact trivial|refine⟨rfl,rfl,rfl,?_⟩|refine⟨rfl,rfl,bC _,?_⟩))
  ·rw[PK iK]
   cbv
   rw[e6]
   refine⟨(i1,u1),id,⟨by show i1<=k;omega,?_⟩,(by show k-i1<k-i;omega),?_⟩
   ·show ∀j,u1 j=mr w s i1 j
    rw[dQ]
    rw[hz]at lF
    exact aiH hw ab (by omega) hu lF
   ·exact aS (by repeat' (first|exact trivial|refine⟨rfl,rfl,rfl,?_⟩|refine⟨rfl,rfl,bC _,?_⟩))
 ·obtain rfl:i=k:=by omega
  rw[iD i i ab]
  cbv
  obtain⟨abC,hU⟩:=aiF gk hw (by omega) hu
  obtain⟨D,FR⟩:=aa (V n d)
  obtain⟨M,hM⟩:=aa (V 9 m)
  have hDM:D=M*2^s:=by rw[FR,hD.val,hM,xV hD.used]
  have Gr:=hD.used.1
  have An:=hD.n0
  have re:Wn n d:=fun j hj=>hD.w j (by omega)
  have RQ:D<=0x10000000000000000^n:=by rw[FR];exact ku (eg re)
  obtain⟨W,hW⟩:=aa (V i w)
  rw[<-hW]at hU mF cG
  rw[<-hM]at mF cG
  have aW:∀t,i<=n-1+t->W*2^s<D*0x10000000000000000^t:=fun t ht=>aqx (by rw[hW];exact eg hw) An hD.top FR pD ht
  have FQ:0<D:=by
   have:=aW i (by omega)
   rcases Nat.eq_zero_or_pos D with h|h
   ·rw[h,fE]at this;exact absurd this (mh _)
   ·exact h
  have g5:bin .sub .i64 (.ofNat i) (.ofNat n)=Int.ofNat i-Int.ofNat n:=ad' hA (by omega) (by omega)
  rw[en]
  obtain⟨oY,aa2⟩:=aa (Int.ofNat i-Int.ofNat n)
  rw[<-aa2]at g5
  rw[g5]
  refine bH (Nat×Int×(Nat->Nat)×(Nat->Nat)) (fun σ=>(σ.1=0/\σ.2.1<0\/0<σ.1/\σ.2.1=Int.ofNat σ.1-1/\σ.1+n<=i+1)/\Wn 19 σ.2.2.1/\Wn 18 σ.2.2.2/\(∀j,j<σ.1->σ.2.2.2 j=0)/\V 19 σ.2.2.1+V 18 σ.2.2.2*D=W*2^s/\V 19 σ.2.2.1<D*0x10000000000000000^σ.1) (fun σ=>σ.1)
   (fun σ=> [(10,.int .i64 σ.2.1)]) [0,4,5,6,7] (fun σ=> [(4,ws σ.2.2.1 19),(5,ws σ.2.2.2 18)]) (i+1-n,oY,u,fun _=>0) ⟨?_,abC,?_,fun _ _=>rfl,?_,?_⟩ ?_ ?_
  ·show(i+1-n=0/\oY<0\/0<i+1-n/\oY=Int.ofNat (i+1-n)-1/\i+1-n+n<=i+1)
   rw[aa2]
   simp only[Yf]
   omega
  ·intro j _;show 0<_;decide
  ·show V 19 u+V 18 (fun _=>0)*D=W*2^s
   have:V 18 (fun _=>0)=0:=by simp[V,Dg.num]
   rw[this,fE,hU];rfl
  ·show V 19 u<_
   rw[hU];exact aW _ (by omega)
  ·exact aS (by repeat' (first|exact trivial|refine⟨rfl,rfl,rfl,?_⟩|refine⟨rfl,rfl,bC _,?_⟩))
  clear hu abC hU
  rintro⟨t,iv,u,q⟩ ⟨gJ,gK,dt,abh,dK,Gl⟩
  have ht:t=0/\iv<0\/0<t/\iv=Int.ofNat t-1/\t+n<=i+1:=gJ
  have hu:Wn 19 u:=gK
  have hq:Wn 18 q:=dt
  have mE:∀j,j<t->q j=0:=abh
  have hR:V 19 u+V 18 q*D=W*2^s:=dK
  have Al:V 19 u<D*0x10000000000000000^t:=Gl
  clear gJ gK dt abh dK Gl
  by_cases iT:0<=iv
  ·obtain⟨a,rfl⟩:∃a,t=a+1:=⟨t-1,by omega⟩
   obtain rfl:iv=Int.ofNat a:=by
    rcases ht with h|h
    ·exact absurd h.1 (YC a)
    ·rw[h.2.1];exact LM (a:Int) 1
   cbv
   rw[show cmp .geq (.ofNat a) 0=true from kC hA (b:=0) (bf _)]
   cbv
   obtain⟨p,hp⟩:∃p,n=p+1:=⟨n-1,by omega⟩
   have han:a+n<19:=by
    rcases ht with h|h
    ·exact absurd h.1 (YC a)
    ·have:=h.2.2;omega
   have art:a+1+n<=i+1:=by
    rcases ht with h|h
    ·exact absurd h.1 (YC a)
    ·exact h.2.2
   clear ht iT
   obtain⟨X,hX⟩:=aa (Vw a (n+1) u)
   obtain⟨Qd,Nd⟩:=aa (X/D)
   have z6:Qd*D<=X:=by rw[Nd];exact CP X D
   have z7:Qd<0x10000000000000000:=by rw[Nd,hX];exact apq (by omega) FQ RQ Al
   have hG:=af7 hP (t:=276) d u p s a Qd hD.w hu (by omega) (by omega) (by have:=hD.top;rw[hp,oC]at this;omega) (by rw[<-hp,<-FR,show p+2=n+1 by omega,<-hX];exact z6) z7
   rw[<-hp]at hG
   refine rS hg rfl rfl rfl rfl rfl (za (hP▸aI) (show av 276=some _ from rfl) rfl _ _) ?_
   cbv
   refine fT rfl hg rfl rfl hG (fun l=>4*l) rfl ⟨rfl,rfl,trivial⟩ ?_
   rintro _ _ _ ⟨x0,dR,eP,rfl⟩
   cbv
   refine rS hg rfl rfl rfl rfl rfl (za (hP▸aI) (show av 276=some _ from rfl) rfl _ _) ?_
   cbv
   refine gQ rfl hg rfl rfl (ag4 hP (t:=276) d u n s a x0 hD.w hu Gr han eP) (fun l=>4*l) rfl ⟨rfl,rfl,trivial⟩ rfl rfl rfl ?_
   rintro _ _ _ ⟨u1,c0,lF,wH,gU,mJ,rfl,rfl,rfl⟩ _
   cbv
   rw[<-hX,<-FR]at mJ
   have f2q:ix (.ofNat a) 18=some a:=bB hA (by omega)
   have g6:bin .sub .i64 (.ofNat a) 1=Int.ofNat a-1:=ad' hA (b:=1) (by omega) (by omega)
   obtain⟨qw,BM⟩:=aa (Int.ofNat a-1)
   rw[<-BM]at g6
   have f3a:=f3 a
   refine bH (Nat×Nat×(Nat->Nat)) (fun σ=>Wn 19 σ.2.2/\σ.1<0x10000000000000000/\σ.2.1<=1/\Qd<=σ.1/\(∀j,j<a\/a+n<j->σ.2.2 j=u j)/\Vw a (n+1) σ.2.2+σ.1*D=X+σ.2.1*0x10000000000000000^(n+1)) (fun σ=>σ.1)
    (fun σ=> [(11,.int .u64 (.ofNat σ.1)),(12,.bool (decide (σ.2.1=1)))]) [0,4,5,6,7,10] (fun σ=> [(4,ws σ.2.2 19)]) (x0,c0,u1) ⟨lF,eP,wH,dR,gU,mJ⟩ ?_ ?_
   ·exact aS (by repeat' (first|exact trivial|refine⟨rfl,rfl,rfl,?_⟩|refine⟨rfl,rfl,bC _,?_⟩))
   clear mJ gU lF wH dR eP hG
   rintro⟨x,c,v⟩ ⟨jv,B5,iF,aaJ,aT,lz⟩
   have hv:Wn 19 v:=jv
   have hx:x<0x10000000000000000:=B5
   have hc:c<=1:=iF
   have hQx:Qd<=x:=aaJ
   have hf:∀j,j<a\/a+n<j->v j=u j:=aT
   have he:Vw a (n+1) v+x*D=X+c*0x10000000000000000^(n+1):=lz
   clear jv B5 iF aaJ aT lz
   by_cases eA:c=1
   ·obtain rfl:c=1:=eA
    rw[fN]at he
    have ab:Qd<x:=aib (ae8 hv (by omega)) he Nd
    obtain⟨y,hy⟩:∃y,x=y+1:=⟨x-1,by omega⟩
    have e1:bin .sub .u64 (.ofNat x) 1=Int.ofNat y:=Hb hA (a:=x) (b:=1) (by decide) (by omega)
    cbv
    rw[e1]
    refine rS hg rfl rfl rfl rfl rfl (za (hP▸aI) (show av 276=some _ from rfl) rfl _ _) ?_
    cbv
    refine gQ rfl hg rfl rfl (afQ hP (t:=276) d v n s a hD.w hv Gr han) (fun l=>4*l) rfl ⟨rfl,rfl,trivial⟩ rfl rfl rfl ?_
    rintro _ _ _ ⟨v1,c1,gD,eA,gU,mJ,rfl,rfl,rfl⟩ _
    rw[<-FR]at mJ
    obtain⟨c2,dP⟩:=aa (1-c1)
    have e2:fQ (decide (c1=1))=decide (c2=1):=by
     refine(ln hA _).trans ?_
     rw[dP]
     obtain h|h:c1=0\/c1=1:=by omega
     ·rw[h];rfl
     ·rw[h];rfl
    have kT:=aia he hy mJ eA
    rw[<-dP]at kT
    obtain⟨b1,cS⟩:=aa (decide (c1=1))
    obtain⟨b2,cW⟩:=aa (decide (c2=1))
    rw[<-cS,<-cW]at e2
    rw[<-cS]
    cbv
    rw[e2]
    refine⟨(y,c2,v1),id,⟨gD,(by show y<_;omega),(by show c2<=1;omega),(by show Qd<=y;omega),?_,kT⟩,(by show y<x;omega),?_⟩
    ·intro j hj
     exact(gU j hj).trans (hf j hj)
    ·rw[cW]
     exact aS (by repeat' (first|exact trivial|refine⟨rfl,rfl,rfl,?_⟩|refine⟨rfl,rfl,bC _,?_⟩))
   ·obtain rfl:c=0:=by omega
    rw[fE,gY]at he
    obtain⟨q1,kV⟩:=aa (fun j=>if j=a then x else q j:Nat->Nat)
    have e3:=gX hA .u64 (n:=18) q q1 (k:=a) (v:=x) (by omega) kV
    simp only[aw,Nat.reduceAdd]at e3
    obtain⟨k1,k2⟩:=afc (N:=19) (D:=D) hu (by omega) FQ RQ Al hf (by rw[he,hX];exact gY _) (by rw[<-hX,<-Nd];exact hQx)
    have k3:=ae6 (x:=x) (q:=q) (i:=a) (N:=18) (by omega) (mE a (jR a))
    rw[<-kV]at k3
    cbv
    rw[f2q]
    cbv
    rw[f3a,e3]
    cbv
    rw[g6]
    refine⟨(a,qw,v,q1),id,⟨?_,hv,?_,?_,ae9 hR k1 k3,k2⟩,(by show a<a+1;omega),?_⟩
    ·show a=0/\qw<0\/0<a/\qw=Int.ofNat a-1/\a+n<=i+1
     rw[BM]
     rcases Nat.eq_zero_or_pos a with h|h
     ·exact Or.inl ⟨h,by rw[h];decide⟩
     ·exact Or.inr ⟨h,rfl,by omega⟩
    ·intro j hj
     show q1 j<_
     rw[kV]
     by_cases hja:j=a
     ·simp only[hja,aj];exact hx
     ·simp only[af hja];exact hq j hj
    ·intro j hj
     have hj:j<a:=hj
     show q1 j=0
     rw[kV]
     exact(af (by omega)).trans (mE j (by omega))
    ·exact aS (by repeat' (first|exact trivial|refine⟨rfl,rfl,rfl,?_⟩|refine⟨rfl,rfl,bC _,?_⟩))
  ·obtain rfl:t=0:=by
    rcases ht with h|h
    ·exact h.1
    ·exact absurd (show 0<=iv by rw[h.2.1];have:=h.1;show(0:Int)<=(t:Int)-1;omega) iT
   cbv
   rw[show cmp .geq iv 0=false from(bg (bg (bg (kA hA) .geq) iv) 0).trans (da iT)]
   cbv
   clear ht iT
   rw[jB,fh]at Al
   rw[hDM]at hR
   obtain⟨k1,k2⟩:=aiJ (ew (by decide)) hR (by rw[<-hDM];exact Al)
   obtain⟨k3,k4⟩:=apA hu pD Gr RQ Al k2
   have q1:ws rq 18=ws q 18:=kx J8 hq (mF.trans k1.symm)
   have q2:ws rr 9=ws (fun i=>if i<n then jz u s i else 0) 9:=kx mH k3 (cG.trans k4.symm)
   clear k1 k2 k3 k4 hR Al
   have f2n:∀j,j<9->ix (.ofNat j) 9=some j:=fun j h=>bB hA h
   have f4n:=fun(f:Nat->Nat) (j:Nat) (h:j<9)=>ei hA .u64 (n:=9) f h
   have Q':=fun(f g:Nat->Nat) (j v:Nat) (h:j<9) (e:g=fun x=>if x=j then v else f x)=>gX hA .u64 (n:=9) f g h e
   simp only[aw,Nat.reduceAdd]at f4n Q'
   refine bH (Nat×(Nat->Nat)) (fun σ=>σ.1<=n/\∀j,σ.2 j=if j<σ.1 then jz u s j else 0) (fun σ=>n-σ.1)
    (fun σ=> [(85,.int .i64 (.ofNat σ.1))]) [0,4,5,6,7,13,84] (fun σ=> [(6,ws σ.2 9)]) (0,fun _=>0) ⟨bf _,?_⟩ ?_ ?_
   ·intro j;exact(af (mh _)).symm
   ·exact aS (by repeat' (first|exact trivial|refine⟨rfl,rfl,rfl,?_⟩|refine⟨rfl,rfl,bC _,?_⟩))
   rintro⟨j,rs⟩ ⟨DS,abo⟩
   have hj:j<=n:=DS
   have mI:∀x,rs x=if x<j then jz u s x else 0:=abo
   clear DS abo
   cbv
   by_cases ab:j<n
   ·rw[yg j n ab]
    have j9:j<9:=by omega
    obtain⟨y1,fz⟩:=aa (u j/2^s)
    have c1:sh .shr .u64 (.ofNat (u j)) (.ofNat s)=Int.ofNat y1:=EL hA gk fz
    obtain⟨r1,kq⟩:=aa (fun x=>if x=j then y1 else rs x:Nat->Nat)
    have e1:=f2n j j9
    have e2:=f3 j
    have e3:=Q' rs r1 j y1 j9 kq
    have e4:=MR j (by omega)
    have e5:=MS u j (by omega)
    have e6:=f6 j (by omega)
    have e7:=f4n r1 j j9
    have e8:=MR (j+1) (by omega)
    have e9:=MS u (j+1) (by omega)
    have jT:=f3 (j+1)
    obtain⟨y2,gL⟩:=aa (u (j+1)*2^r%0x10000000000000000)
    have c2:sh .shl .u64 (.ofNat (u (j+1))) (Int.ofNat r)=Int.ofNat y2:=Cw hA (by omega) gL
    have abD:u j<0x10000000000000000:=hu j (by omega)
    have aj5:r1 j=y1:=by rw[kq];exact aj rfl
    rw[aj5]at e7
    obtain⟨z,hz⟩:=aa (y1|||y2)
    have AN:z=jz u s j:=by rw[hz,fz,gL,hr];exact aqv gk abD
    have c3:bin .or .u64 (.ofNat y1) (.ofNat y2)=Int.ofNat z:=G0 hA (by rw[fz];exact eB (gq _ _) abD) (by rw[gL];exact ax _ (by decide)) hz
    obtain⟨r2,ry⟩:=aa (fun x=>if x=j then z else r1 x:Nat->Nat)
    have kP:=Q' r1 r2 j z j9 ry
    have aj6:r2=fun x=>if x=j then z else rs x:=by
     rw[ry,kq];funext x
     by_cases h:x=j
     ·simp only[aj h]
     ·simp only[af h]
    obtain⟨j1,Gi⟩:=aa (j+1)
    rw[<-Gi]at e6 e8 e9 jT c2
    cbv
    refine cf hP hA hg fun mk _=> ?_
    cbv
    rw[e4]
    cbv
    rw[e2,e5]
    cbv
    rw[zs]
    cbv
    rw[c1]
    cbv
    rw[e1]
    cbv
    rw[e2,e3]
    cbv
    by_cases iK:0<s
    ·rw[zg iK]
     cbv
     refine cf hP hA hg fun mk _=> ?_
     cbv
     rw[e1]
     cbv
     rw[e2,e7]
     cbv
     rw[e6]
     cbv
     rw[e8]
     cbv
     rw[jT,e9]
     cbv
     rw[g3]
     cbv
     rw[zr]
     cbv
     rw[c2]
     cbv
     rw[c3]
     cbv
     rw[e1]
     cbv
     rw[e2,kP]
     cbv
     rw[e6]
     refine⟨(j1,r2),id,⟨by show j1<=n;omega,?_⟩,(by show n-j1<n-j;omega),?_⟩
     ·show ∀x,r2 x=if x<j1 then jz u s x else 0
      rw[Gi]
      exact adn mI AN aj6
     ·exact aS (by repeat' (first|exact trivial|refine⟨rfl,rfl,rfl,?_⟩|refine⟨rfl,rfl,bC _,?_⟩))
    ·rw[PK iK]
     cbv
     rw[e6]
     refine⟨(j1,r1),id,⟨by show j1<=n;omega,?_⟩,(by show n-j1<n-j;omega),?_⟩
     ·show ∀x,r1 x=if x<j1 then jz u s x else 0
      rw[Gi]
      have h0:s=0:=by omega
      exact adn mI (by rw[fz,h0];exact aqw u j) kq
     ·exact aS (by repeat' (first|exact trivial|refine⟨rfl,rfl,rfl,?_⟩|refine⟨rfl,rfl,bC _,?_⟩))
   ·obtain rfl:j=n:=by omega
    rw[iD j j ab]
    cbv
    refine EG (hP▸aI) hA hg (hP▸mixed) rfl rfl ?_
    cbv
    refine hK _ _ _ ?_
    have q3:rs=fun i=>if i<j then jz u s i else 0:=funext mI
    rw[<-q3]at q2
    rw[q1,q2]
    rfl
theorem af1{P:Program}(hP:P=Tryz.prog){t:TypeId}(m d:Nat->Nat)(n s:Nat)(hD:Dv m d n s)(w:Nat->Nat)(k:Nat)(hw:Wn k w)(hk:k<=9)(rq rr:Nat->Nat)(J8:Wn 18 rq)(mH:Wn 9 rr)(mF:V 18 rq=V k w/V 9 m)(cG:V 9 rr=V k w%V 9 m):
 ah P 157 [.ptr 0 0,.slice 1 0 k 9] [⟨0,jK d n s,275⟩,⟨1,ws w 9,t⟩] 2 [] (fun v _ _=>v= .aR [.agg (ws rq 18),.agg (ws rr 9)]):=
 Zg hP m d n s hD w k 9 (ws w 9) rfl hw hk (by decide) rq rr J8 mH mF cG
theorem Zf{P:Program}(hP:P=Tryz.prog){t:TypeId}(m d:Nat->Nat)(n s:Nat)(hD:Dv m d n s)(w:Nat->Nat)(k:Nat)(hw:Wn k w)(hk:k<=18)(rq rr:Nat->Nat)(J8:Wn 18 rq)(mH:Wn 9 rr)(mF:V 18 rq=V k w/V 9 m)(cG:V 9 rr=V k w%V 9 m):
 ah P 157 [.ptr 0 0,.slice 1 0 k 18] [⟨0,jK d n s,275⟩,⟨1,ws w 18,t⟩] 2 [] (fun v _ _=>v= .aR [.agg (ws rq 18),.agg (ws rr 9)]):=
 Zg hP m d n s hD w k 18 (ws w 18) rfl hw hk (by decide) rq rr J8 mH mF cG
end Go.Proofs.YtfocopihipejfaaGreat
namespace Go.Vg
open Go.RowKit
section
variable {P:Program}{g:G}
theorem aiL{ρ:Nat->Nat}{n0 n l:Nat}{c:aC}{NB:LL}(h:find (aG (eD ρ n0 n) NB) l=some c):∃b∈NB,find NB b.l=some b/\eD ρ n0 n b.l=l/\c=⟨eD ρ n0 n b.l,bj (eD ρ n0 n) b.cs,b.t⟩:=Rh h
theorem VL{ρ:Nat->Nat}{NB:LL}{b:aC}(h:b∈NB):∃c∈aG ρ NB,c.l=ρ b.l:=by
 induction NB with
 |nil=>cases h
 |cons d NB ih=>
  rcases List.mem_cons.1 h with rfl|h
  ·exact⟨_,kd,rfl⟩
  ·obtain⟨c,hc,e⟩:=ih h
   exact⟨c,lj _ hc,e⟩
theorem pZ{o:Oper}{c:Call}(ho:o.op= .call c){m0 N:Nat}{ms:List Nat}(hg:GI g m0 ms N)(aA:dD N o.dst=true){F:Nat->Option SV}{f:FuncId}{us args:List SV}(hc:callee F c=some (f,us)){Lp:LL}{n0:Nat}{R:SV->LL->Nat->Prop}(fg:ah P f args Lp n0 [] R)
 (ρ:Nat->Nat) (jh:us=bj ρ args) {M:Nat->Option aC} (l6:lu ρ M Lp) (BI:below (fun l=>eo (Lp.map aC.l) l) n0=true) {val:SV} {NB:LL} {n n1:Nat}
 (hv:∀v L1 k,R v L1 k->v=val/\L1=Lp++NB/\k=n1) (hN:(NB.all fun b=>Nat.ble n0 b.l)=true) (hLp:(Lp.all fun b=>Nat.blt b.l n0)=true) (DI:∀l,n0<=l->l<n1->∃b∈NB,b.l=l):
 EN g P o F M (cK (eD ρ n0 n) val) (aG (eD ρ n0 n) NB):=by
 have hd:=hg.dst aA
 obtain⟨lv,fg⟩:=fg
 refine⟨?_⟩
 intro β p F' L' a W hF hM BK hm hf next Q gj
 obtain⟨r1,r2⟩:=Di (P:=P) (W:=W) hf ho ((Ig ho hF).trans hc) lv
 unfold Oper.wp
 rw[r1,Oper.upon_enter]
 have DL:lu ρ L' Lp:=by
  clear jh DI hLp hN hv BI fg
  induction Lp with
  |nil=>trivial
  |cons b Lp ih=>exact⟨hM _ _ l6.1,ih l6.2⟩
 have Ag:aM β us=aM (fun l=>β (ρ l)) args:=by rw[jh,qU]
 rw[Ag]
 refine(fg (fun l=>β (ρ l)) W (Ix hm DL (Ol ρ Lp) (fun m h=>by cases h))).mono ?_
 rintro e W' ⟨v,L1,k,jJ,hR,rfl,q_,b_⟩
 obtain⟨rfl,rfl,rfl⟩:=hv v L1 k hR
 have FW:∀b∈NB,n0<=b.l:=fun b hb=>g_ (gf.1 hN b hb)
 have abN:∀l,l<n0->p (ρ l):=fun l hl=>by
  obtain⟨b,hb,e⟩:=iZ.1 (AU (Fs (f:=fun l=>eo (Lp.map aC.l) l) BI hl))
  have:=hm.bL _ _ (FK DL hb)
  rw[e]at this;exact this.1
 let nw:=aG (eD ρ n0 n) NB
 have hnp:∀b∈NB,¬p (eD ρ n0 n b.l):=fun b hb=>by
  obtain⟨c',iF,e⟩:=VL (ρ:=eD ρ n0 n) hb
  rw[<-e];exact BK c' iF
 obtain⟨γ,jW,uA⟩:∃γ:Nat->Nat,(∀l,p l->γ l=β l)/\∀b∈NB,γ (eD ρ n0 n b.l)=jJ b.l:=by
  classical
  refine⟨fun l=>if p l then β l else jJ (n0+(l-n)),fun l hl=>aj hl,fun b hb=> ?_⟩
  show(if p _ then _ else _)=_
  rw[af (hnp b hb),VN (FW b hb)]
  congr 1
  have:=FW b hb
  omega
 have gE:∀l,l<k->γ (eD ρ n0 n l)=jJ l:=by
  intro l hl
  by_cases h:l<n0
  ·rw[y_ h,jW _ (abN l h)];exact(b_.fC l h).symm
  ·obtain⟨b,hb,e⟩:=DI l (by omega) hl
   rw[<-e];exact uA b hb
 have ab:∀l,l<k->(p (eD ρ n0 n l)\/ ∃b∈nw,b.l=eD ρ n0 n l):=by
  intro l hl
  by_cases h:l<n0
  ·rw[y_ h];exact Or.inl (abN l h)
  ·obtain⟨b,hb,e⟩:=DI l (by omega) hl
   obtain⟨c',iF,e2⟩:=VL (ρ:=eD ρ n0 n) hb
   exact Or.inr ⟨c',iF,by rw[e2,e]⟩
 have eF:∀l b,addN L' nw l=some b->(L' l=some b)\/(∃b1∈NB,find (Lp++NB) b1.l=some b1/\l=eD ρ n0 n b1.l/\b=⟨eD ρ n0 n b1.l,bj (eD ρ n0 n) b1.cs,b1.t⟩):=by
  intro l b h
  unfold addN at h
  cases hq:L' l with
  |some c=>rw[hq]at h;exact Or.inl h
  |none=>
   rw[hq]at h
   obtain⟨b1,h1,h2,h3,h4⟩:=aiL h
   refine Or.inr ⟨b1,h1,?_,h3.symm,h4⟩
   rw[fap]
   cases hl:find Lp b1.l with
   |none=>exact h2
   |some d=>
    obtain⟨d1,d2⟩:=nT hl
    have h5:=g_ (show Nat.ble (d.l+1) n0=true from gf.1 hLp d d1)
    have:=FW b1 h1
    omega
 have B4:=b_.up
 have uD:∀i,¬G.mod ⟨W,fun l=>β (ρ l),n0,0,[]⟩ i:=by rintro i ⟨l,hl,_⟩;cases hl
 have JS:∀b1∈NB,find (Lp++NB) b1.l=some b1->W.heap.size<=jJ b1.l:=fun b1 cS h=>by
  rcases b_.new b1.l b1 h (FW b1 cS)with h1|h1
  ·exact h1
  ·exact(uD _ h1).elim
 have abb:=hm.call B4 uD
 have Ta:den γ (cK (eD ρ n0 n) v)=den jJ v:=by rw[Dj];exact ue gE v q_
 rw[<-Ta]
 refine gj γ _ W' ⟨?_,?_,?_,?_,?_,?_,abb.up⟩ ((hf.mono jW (fun l hl=>Or.inl hl)).put hd (Mm ab v q_))
 ·exact fun l hl=>Or.inl (hm.low l hl)
 ·intro l hl;rw[jW l (hm.low l hl)];exact hm.fC l hl
 ·intro l b hb hl
  rcases eF l b hb with h1|⟨b1,cS,gU,rfl,rfl⟩
  ·rw[jW _ (hm.bL l b h1).1];exact hm.new l b h1 hl
  ·rw[uA b1 cS];exact Or.inl (eH hm.up.size (JS b1 cS gU))
 ·intro l b l' b' hb h_ c_ e
  rcases eF l b hb with h1|⟨b1,cS,gU,rfl,rfl⟩<;>rcases eF l' b' h_ with k1|⟨c1,eA,pt,rfl,rfl⟩
  ·rw[jW _ (hm.bL l b h1).1,jW _ (hm.bL l' b' k1).1]at e
   exact hm.inj l b l' b' h1 k1 c_ e
  ·rw[jW _ (hm.bL l b h1).1,uA c1 eA]at e
   obtain⟨_,_,js⟩:=hm.cell l b h1
   have:=x8 js
   have:=JS c1 eA pt
   omega
  ·rw[jW _ (hm.bL l' b' k1).1,uA b1 cS]at e
   obtain⟨_,_,js⟩:=hm.cell l' b' k1
   have:=x8 js
   have:=JS b1 cS gU
   omega
  ·rw[uA b1 cS,uA c1 eA]at e
   rw[b_.inj _ _ _ _ gU pt (by
    show own n0 [] b1.l=true
    unfold own
    rw[oD (FW b1 cS)]) e]
 ·intro l b hb
  rcases eF l b hb with h1|⟨b1,cS,gU,rfl,rfl⟩
  ·obtain⟨m,h2,h3⟩:=abb.cell l b h1
   refine⟨m,h2,?_⟩
   rw[jW _ (hm.bL l b h1).1,nR (p:=p) (fun l hl=>jW l hl) b.cs (hm.bL l b h1).2]
   exact h3
  ·obtain⟨m,h2,h3⟩:=b_.cell b1.l b1 gU
   refine⟨m,fun _=> ?_,?_⟩
   ·rw[K5]
    refine h2 ?_
    show own n0 [] b1.l=true
    unfold own
    rw[oD (FW b1 cS)]
   ·rw[uA b1 cS]
    rw[qU,nR gE b1.cs (b_.bL _ _ gU).2]
    exact h3
 ·intro l b hb
  rcases eF l b hb with h1|⟨b1,cS,gU,rfl,rfl⟩
  ·exact⟨Or.inl (hm.bL l b h1).1,pg (fun _ h=>Or.inl h) _ (hm.bL l b h1).2⟩
  ·obtain⟨c',iF,e2⟩:=VL (ρ:=eD ρ n0 n) cS
   exact⟨Or.inr ⟨c',iF,e2⟩,C6 ab _ (b_.bL _ _ gU).2⟩
theorem aim{T:Nat->Option Ty}(hT:cI P T){o:Oper}{m0 N:Nat}{ms:List Nat}(hg:GI g m0 ms N)(aA:dD N o.dst=true){x:Operand}{t:Nat}(ho:o.op= .sliceToArrayPointer t x){F:Nat->Option SV}{M:Nat->Option aC}{l q k c m e es:Nat}{ag:Bool}{i:Ty}
 (ht:T t=some i) (hd:i.d= .ar m e es ag) (hx:ev F x=some (.slice l q k c)) (hk:m<=k):EN g P o F M (.ptr l q) []:=by
 obtain⟨hu,hm,_⟩:=Mg hT ht hd
 refine Is hg aA fun β p F' L' a W hF hM fb hf=> ?_
 have E:∀z∈o.op.operands.toList,ev F' z=ev F z:=fun z hz=>FG fun t ht=>hF t (EU hz ht)
 rw[ho]at E
 obtain⟨e1,b1⟩:=cq hf ((E x (by simp[Op.operands])).trans hx)
 refine⟨?_,b1⟩
 have e2:a.eval x= .slice (some ⟨β l,q,none⟩) k c:=e1
 have h:(Instr.arrayAt t (.slice (some ⟨β l,q,none⟩) k c)).run P W= .ok (.pointer (some ⟨β l,q,none⟩)) W:=by
  unfold Instr.arrayAt
  simp only[Sem.run_bind,run_underlying hu,Result.andThen_ok]
  rw[af (by rw[hm];omega)]
  rfl
 unfold execOp
 simp only[ho,e2,Sem.run_bind,h,Result.andThen_ok,Sem.run_pure,den]
theorem qF{o:Oper}{F:FF}{M:LL}{n n':Nat}{K:SV->LL->Nat->Prop}{v:SV}{nw:LL}(h:EN g P o (look F) (qD o (find M)) v nw)(hn:n<=n')(hb:(nw.all fun b=>Nat.ble n b.l&&Nat.blt b.l n')=true)(hd:(nw.map aC.l).Nodup)(hk:K v nw n'):zu g P o F M n K:=by
 refine⟨v,nw,n',h,hn,fun b h_=> ?_,hd,hk⟩
 have:=gf.1 hb b h_
 simp only[dq]at this
 exact⟨g_ this.1,g_ this.2⟩
end
end Go.Vg
