/-
  This text proves what these texts prove: Po, Pp, Pq, Pr, Ps, Pu, Jf. Conditions: those of each theorem.
-/
import Derived.Test.YtdhmihfefgcbeaaGreatT22
import Derived.Test.YtdhmihfefgcbeaaGreatT21
set_option maxHeartbeats 8000000
set_option linter.all false
namespace Go.Proofs.YtdhmihfefgcbeaaGreat
open Go.Vg Go.RowKit
set_option maxRecDepth 200000
set_option cbv.maxSteps 100000000
theorem cRHexDigit{P:Program}(hP:P=Tryz.prog)(d c:Nat)(hd:d<16)(hc:c=if d<10 then 48+d else 87+d):Con P 56 [.int .u8 (.ofNat c)] [] 0 [] (fun w _ _=>w= .int .u32 (.ofNat d)):=by
 refine cof hP Tryz.func56 (bdb _ rfl) (bkb rfl) ?_
 intro A g K hA hg hK
 obtain⟨bin,_,cmp,_,cvt,_,_,_,_,_,_,_,_,_,_,_,_,_,sub⟩:=A
 by_cases h10:d<10
 ·rw[if_pos h10]at hc
  have g1:bin .sub .u8 (.ofNat c) 48=Int.ofNat d:=(subW hA (k:= .u8) rfl (a:=c) (b:=48) (by decide)).trans (congrArg Int.ofNat (by show(c+256-48)%256=d;omega))
  have g2:cvt .u32 (.ofNat d)=Int.ofNat d:=c32 hA (by omega)
  cbv
  rw[show cmp .geq (.ofNat c) 97=false from geq_f hA (b:=97) (by omega)]
  cbv
  rw[g1]
  cbv
  rw[g2]
  exact hK _ _ _ rfl
 ·rw[if_neg h10]at hc
  obtain⟨e,he⟩:=exq (d-10)
  have g1:bin .sub .u8 (.ofNat c) 97=Int.ofNat e:=(subW hA (k:= .u8) rfl (a:=c) (b:=97) (by decide)).trans (congrArg Int.ofNat (by show(c+256-97)%256=e;omega))
  have g2:cvt .u32 (.ofNat e)=Int.ofNat e:=c32 hA (by omega)
  have g3:bin .add .u32 (.ofNat e) 10=Int.ofNat d:=(addW hA (k:= .u32) rfl e 10).trans (congrArg Int.ofNat (by show(e+10)%4294967296=d;omega))
  cbv
  rw[show cmp .geq (.ofNat c) 97=true from geq_t hA (b:=97) (by omega)]
  cbv
  rw[g1]
  cbv
  rw[g2]
  cbv
  rw[g3]
  exact hK _ _ _ rfl
section
variable {P:Program}(hP:P=Tryz.prog){H:Nat->Nat->List SV}{S:Nat->Nat}(hs:HS H S)
include hP hs
theorem mHex(n x:Nat)(hn:n<=144)(hx:x<16^n)(s:ByteArray)(hsx:s=hexS x n)(c:Nat)(hc:c=n/8+1):x<4294967296^c/\Con P 38 [.str s] [] 0 [] (fun w L q=>w= .slice 0 0 (S x) c/\L=[⟨0,H x c,58⟩]/\q=1):=by
 have hpc:16^n<=4294967296^c:=by
  rw[show(4294967296:Nat)=16^8 from by decide,<-Nat.pow_mul]
  exact Nat.pow_le_pow_right (by decide) (by omega)
 have hxc:x<4294967296^c:=Nat.lt_of_lt_of_le hx hpc
 refine⟨hxc,?_⟩
 have hsz:s.size=n:=by rw[hsx,hexS_size]
 obtain⟨T,hT⟩:=exq (fun i=>topN 16 x (n-i):Nat->Nat)
 obtain⟨Dd,hDd⟩:=exq (fun k=>x/16^k%16:Nat->Nat)
 have lDd:∀k,Dd k<16:=fun k=>by rw[hDd];exact Nat.mod_lt _ (by decide)
 obtain⟨Z,hZ⟩:=exq (fun i=>Vg.hs (dg (T i)) c:Nat->List SV)
 have bZ:∀m i,bdLB m (Z i)=true:=fun m i=>by rw[hZ];exact hs_bd _ _ m
 have hZ0:List.replicate c (SV.int .u32 0)=Z 0:=by
  rw[hZ,hs_zero,hT];show _=Vg.hs (dg (topN 16 x (n-0))) c
  rw[Nat.sub_zero,topN_all hx]
  exact hs_congr fun j _=>by unfold dg Dg.dig;rw[Nat.zero_div]
 have hTn:T n=x:=by rw[hT];show topN 16 x (n-n)=x;rw[Nat.sub_self,topN_zero]
 have hZn:Z n=Vg.hs (dg x) c:=by rw[hZ];show Vg.hs (dg (T n)) c=_;rw[hTn]
 have hSh:=cRShr hP (n:=c) (c:=c) (f:=dg x) (x:=x) ⟨Nat.le_refl c,fun j _=>dg_lt x j,num_dgW hxc⟩ (by omega) (by omega) 0 (by decide) x (S x) (by rw[Nat.pow_zero,Nat.div_one]) (by rw[hs.s])
 rw[<-hZn]at hSh
 rw[hs.h]
 show Con P _ _ _ _ _ (fun w L q=>w= .slice 0 0 (S x) c/\L=[⟨0,Vg.hs (dg x) c,58⟩]/\q=1)
 rw[<-hZn]
 suffices raw:Con P 38 [.str s] [] 0 [] (fun w L q=>w= .slice 1 0 (S x) c/\find L 1=some ⟨1,Z n,58⟩)from
  raw.weak fun v L q ⟨h1,h2⟩=>⟨fun l=>l+1,.slice 0 0 (S x) c,[⟨0,Z n,58⟩],1,by subst h1;exact wkr ⟨rfl,rfl,trivial⟩ ⟨by rw[rcl (Z n) (bZ 0 n)];exact h2,rfl,rfl,bZ 1 n,trivial⟩ rfl rfl rfl,rfl,rfl,rfl⟩
 have hst:∀i k q r,i<n->k=n-1-i->q=k/8->r=4*(k%8)->(∀j,dg (T (i+1)) j=if j=q then dg (T i) q+Dd k*2^r else dg (T i) j)/\dg (T i) q|||Dd k*2^r=dg (T i) q+Dd k*2^r/\dg (T i) q+Dd k*2^r<4294967296:=fun i k q r hi hk hq hr=>by
  have e1:T i=topN 16 x (k+1):=by rw[hT];show topN 16 x (n-i)=_;congr 1;omega
  have e2:T (i+1)=T i+Dd k*2^(4*k):=by
   rw[e1,hT,hDd];show topN 16 x (n-(i+1))=_+x/16^k%16*_
   rw[show n-(i+1)=k by omega,topN_succ,Nat.pow_mul]
  rw[e2]
  refine or_dig (t:=x/16^(k+1)) (w:=4) (by omega) (by omega) (lDd k) ?_
  rw[e1];unfold topN
  rw[show 4*k+4=4*(k+1) by omega,Nat.pow_mul 2 4]
 have hdg:=fun d c hd hc=>cRHexDigit hP d c hd hc
 have hes:∀i k,i<n->k=n-1-i->s[i]? =some (hexc (Dd k)):=fun i k hi hk=>by
  have:=hexS_at x n k (by omega)
  rw[show n-1-k=i by omega]at this
  rw[hsx,hDd];exact this
 clear hT hDd hZn hTn hsx
 refine cof hP Tryz.func38 (bdb _ rfl) (bkb rfl) ?_
 intro A g K hA hg hK
 obtain⟨bin,sh,cmp,_,_,ix,nn,_,_,_,_,_,slen,six,nat,off,get,_,sub,spl⟩:=A
 have en:slen s=Int.ofNat n:=(slen_of hA s).trans (by rw[hsz])
 have e0:nat c=Int.ofNat c:=nat_of hA c
 have e1:bin .quo .i64 (.ofNat n) 8=Int.ofNat (n/8):=quoI hA (a:=n) (b:=8) (by omega)
 have e2:bin .add .i64 (.ofNat (n/8)) 1=Int.ofNat c:=(addI hA (a:=n/8) (b:=1) (by omega)).trans (by rw[hc])
 have e3:∀j,off 0 j 1=j:=fun j=>(off_of hA 0 j 1).trans (by omega)
 have e4:∀i m,i<m->ix (.ofNat i) m=some i:=fun i m h=>ix_of hA h
 have e5:∀i j,j<c->get (Z i) j=some (.int .u32 (.ofNat (dg (T i) j))):=fun i j h=>by rw[hZ];exact getW hA .u32 (dg (T i)) h
 have e6:∀i q v,q<c->(dg (T (i+1))=fun j=>if j=q then v else dg (T i) j)->spl (Z i) q [.int .u32 (.ofNat v)]=some (Z (i+1)):=fun i q v h hv=>by rw[hZ];exact splW hA .u32 (n:=c) (dg (T i)) (dg (T (i+1))) h hv
 have e7:∀i,i<n->cmp .lss (.ofNat i) (.ofNat n)=true:=fun i h=>lss_t hA h
 have e7f:cmp .lss (.ofNat n) (.ofNat n)=false:=lss_f hA (Nat.lt_irrefl n)
 have e8:∀i,i<n->bin .add .i64 (.ofNat i) 1=Int.ofNat (i+1):=fun i h=>addI hA (a:=i) (b:=1) (by omega)
 have es:∀i b,s[i]? =some b->six s (Int.ofNat i)=some (Int.ofNat b.toNat):=fun i b h=>by
  have e:six=Ar.real.six:=congrArg Ar.six hA
  rw[e]
  show(if 0<=Int.ofNat i then(s[(Int.ofNat i).toNat]?).map fun b=>(b.toNat:Int)else none)=_
  rw[if_pos (show(0:Int)<=Int.ofNat i from Int.natCast_nonneg _)]
  show(s[i]?).map _=_
  rw[h];rfl
 have hU:=u32B hP
 clear hZ
 cbv
 rw[en,e1,e2]
 cbv
 refine smk (hP▸tblOk) hg rfl rfl (show tyT 27=some _ from rfl) rfl (show tyT 58=some _ from rfl) hU rfl (m:=c) rfl rfl (by omega) (by omega) ?_
 rw[hZ0]
 cbv
 refine lpb Nat (fun i=>i<=n) (fun i=>n-i) (fun i=> [(4,.int .i64 (.ofNat i))]) [0,2,3] (fun i=> [(0,Z i)]) 0 (Nat.zero_le _) ?_ ?_
 ·exact wkih (by repeat' (first|exact trivial|refine⟨rfl,rfl,rfl,?_⟩|refine⟨rfl,rfl,bZ 1 0,?_⟩))
 intro i hi
 by_cases hlt:i<n
 ·obtain⟨n1,hn1⟩:=exq (n-1)
  obtain⟨k,hk⟩:=exq (n-1-i)
  obtain⟨q,hq⟩:=exq (k/8)
  obtain⟨r8,hr8⟩:=exq (k%8)
  obtain⟨r,hr⟩:=exq (4*r8)
  have hqc:q<c:=by omega
  obtain⟨t1,t2,t3⟩:=hst i k q r hlt hk hq (by rw[hr,hr8])
  obtain⟨d,hd⟩:=exq (Dd k)
  have ld:d<16:=by rw[hd];exact lDd k
  obtain⟨ch,hch⟩:=exq ((hexc d).toNat)
  have hch2:ch=if d<10 then 48+d else 87+d:=by rw[hch];exact hexc_nat ld
  have hsi:=es i (hexc d) (by rw[hd];exact hes i k hlt hk)
  rw[<-hch]at hsi
  rw[<-hd]at t1 t2 t3
  obtain⟨O,hO⟩:=exq (dg (T i) q)
  have gO:=e5 i q hqc
  rw[<-hO]at t1 t2 t3 gO
  obtain⟨y,hy⟩:=exq (d*2^r)
  obtain⟨w,hw⟩:=exq (O+y)
  rw[<-hy]at t1 t2 t3
  rw[<-hw]at t1 t2 t3
  have hdc:=hdg d ch ld hch2
  have g1:bin .sub .i64 (.ofNat n) 1=Int.ofNat n1:=(subI hA (a:=n) (b:=1) (by omega) (by omega)).trans (by rw[hn1])
  have g2:bin .sub .i64 (.ofNat n1) (.ofNat i)=Int.ofNat k:=(subI hA (a:=n1) (b:=i) (by omega) (by omega)).trans (by rw[hk,hn1])
  have g3:bin .quo .i64 (.ofNat k) 8=Int.ofNat q:=(quoI hA (a:=k) (b:=8) (by omega)).trans (by rw[hq])
  have g4:bin .rem .i64 (.ofNat k) 8=Int.ofNat r8:=(remW hA k 8).trans (by rw[hr8])
  have g5:bin .mul .i64 (.ofNat r8) 4=Int.ofNat r:=(mulI hA (a:=r8) (b:=4) (by omega)).trans (by rw[hr,Nat.mul_comm])
  have g6:nn (.ofNat r)=true:=nn_t hA r
  have g7:sh .shl .u32 (.ofNat d) (.ofNat r)=Int.ofNat y:=(shlW hA (k:= .u32) rfl d (s:=r) (by show r<=32;omega)).trans (congrArg Int.ofNat (by rw[<-hy];exact Nat.mod_eq_of_lt (by show y<4294967296;omega)))
  have g8:bin .or .u32 (.ofNat O) (.ofNat y)=Int.ofNat w:=(orW hA (k:= .u32) rfl (a:=O) (b:=y) (by show O<4294967296;omega) (by show y<4294967296;omega)).trans (congrArg Int.ofNat t2)
  have g9:=e6 i q w hqc (funext t1)
  have g10:=e8 i hlt
  obtain⟨Zn,hZn⟩:=exq (Z (i+1))
  rw[<-hZn]at g9
  have bZn:∀m,bdLB m Zn=true:=fun m=>by rw[hZn];exact bZ m _
  cbv
  rw[en]
  cbv
  rw[e7 i hlt]
  cbv
  rw[en,g1,g2]
  cbv
  refine reg_A (hP▸tblOk) hA hg (hP▸mixed) rfl rfl ?_
  cbv
  rw[g3]
  cbv
  rw[e4 q c hqc]
  cbv
  rw[e3,gO]
  cbv
  rw[hsi]
  cbv
  refine sdv hg hdc ?_
  cbv
  rw[g4]
  cbv
  rw[g5]
  cbv
  rw[g6]
  cbv
  rw[g7]
  cbv
  rw[g8]
  cbv
  rw[e4 q c hqc]
  cbv
  rw[e3,g9]
  cbv
  rw[g10]
  refine⟨i+1,_root_.id,hlt,(by show n-(i+1)<n-i;omega),?_⟩
  rw[<-hZn]
  exact wkih (by repeat' (first|exact trivial|refine⟨rfl,rfl,rfl,?_⟩|refine⟨rfl,rfl,bZn 1,?_⟩))
 ·have hin:n=i:=by omega
  subst hin
  cbv
  rw[en]
  cbv
  rw[e7f]
  cbv
  refine cgn rfl hg rfl rfl hSh (fun _=>0) rfl (ft1 (bZ 0 n) rfl) rfl rfl rfl ?_
  rintro _ _ _ ⟨rfl,rfl,rfl⟩ _
  refine⟨rfl,?_⟩
  simp only[renB,rcl (Z n) (bZ 0 n)]
  cbv
  exact hK _ _ _ ⟨rfl,rfl⟩
end
def minusS:ByteArray:=⟨⟨[45]⟩⟩
def rowRA(k:Nat):ByteArray:=if rowAL k=0 then minusS else hexS (rowA k) (rowAL k)
theorem mRow{P:Program}(hP:P=Tryz.prog)(k:Nat)(hk:1<=k/\k<=15)(p a b n x y:ByteArray)(hp:p=hexS (primeN k) (primeL k))(ha:a=rowRA k)(hb:b=hexS (rowB k) (rowBL k))(hn:n=hexS (rowN k) (rowNL k))(hx:x=hexS (rowX k) (rowXL k))(hy:y=hexS (rowY k) (rowYL k)):
 Con P 37 [.int .i64 (.ofNat k)] [] 0 [] (fun w L q=>w= .slice 0 0 6 6/\L=[⟨0,[.str p,.str a,.str b,.str n,.str x,.str y],9⟩]/\q=1):=by
 have:k=1\/k=2\/k=3\/k=4\/k=5\/k=6\/k=7\/k=8\/k=9\/k=10\/k=11\/k=12\/k=13\/k=14\/k=15:=by omega
 refine cof hP Tryz.func37 (bdb _ rfl) (bkb rfl) ?_
 intro A g K hA hg hK
 obtain⟨_,_,cmp⟩:=A
 have f:∀y z,cmp .eql y z=decide (y=z):=fun y z=>congrFun (congrFun (congrFun (cmp_of hA) .eql) y) z
 rcases this with rfl|rfl|rfl|rfl|rfl|rfl|rfl|rfl|rfl|rfl|rfl|rfl|rfl|rfl|rfl<;>(cbv;repeat (rw[f];cbv))<;>exact hK _ _ _ ⟨rfl,by rw[hp,ha,hb,hn,hx,hy];kernel_rfl,rfl⟩
theorem mRow0{P:Program}(hP:P=Tryz.prog)(i:Int)(h:∀k:Nat,1<=k->k<=15->i≠Int.ofNat k):Con P 37 [.int .i64 i] [] 0 [] (fun w _ _=>w= .nils):=by
 refine cof hP Tryz.func37 (bdb _ rfl) (bkb rfl) ?_
 intro A g K hA hg hK
 obtain⟨_,_,cmp⟩:=A
 have f:∀z:Nat,1<=z->z<=15->cmp .eql i (Int.ofNat z)=false:=fun z h1 h2=>(congrFun (congrFun (congrFun (cmp_of hA) .eql) i) (Int.ofNat z)).trans (decide_eq_false (h z h1 h2))
 have g1:cmp .eql i 1=false:=f 1 (by decide) (by decide)
 have g2:cmp .eql i 2=false:=f 2 (by decide) (by decide)
 have g3:cmp .eql i 3=false:=f 3 (by decide) (by decide)
 have g4:cmp .eql i 4=false:=f 4 (by decide) (by decide)
 have g5:cmp .eql i 5=false:=f 5 (by decide) (by decide)
 have g6:cmp .eql i 6=false:=f 6 (by decide) (by decide)
 have g7:cmp .eql i 7=false:=f 7 (by decide) (by decide)
 have g8:cmp .eql i 8=false:=f 8 (by decide) (by decide)
 have g9:cmp .eql i 9=false:=f 9 (by decide) (by decide)
 have g10:cmp .eql i 10=false:=f 10 (by decide) (by decide)
 have g11:cmp .eql i 11=false:=f 11 (by decide) (by decide)
 have g12:cmp .eql i 12=false:=f 12 (by decide) (by decide)
 have g13:cmp .eql i 13=false:=f 13 (by decide) (by decide)
 have g14:cmp .eql i 14=false:=f 14 (by decide) (by decide)
 have g15:cmp .eql i 15=false:=f 15 (by decide) (by decide)
 cbv
 rw[g1];cbv
 rw[g2];cbv
 rw[g3];cbv
 rw[g4];cbv
 rw[g5];cbv
 rw[g6];cbv
 rw[g7];cbv
 rw[g8];cbv
 rw[g9];cbv
 rw[g10];cbv
 rw[g11];cbv
 rw[g12];cbv
 rw[g13];cbv
 rw[g14];cbv
 rw[g15];cbv
 exact hK _ _ _ rfl
theorem primeB_none(i:Int)(h:∀k:Nat,1<=k->k<=15->i≠Int.ofNat k):primeB i=⟨⟨[]⟩⟩:=by
 unfold primeB
 rw[if_neg (show i≠1 from h 1 (by decide) (by decide)),if_neg (show i≠2 from h 2 (by decide) (by decide)),if_neg (show i≠3 from h 3 (by decide) (by decide)),if_neg (show i≠4 from h 4 (by decide) (by decide)),if_neg (show i≠5 from h 5 (by decide) (by decide)),if_neg (show i≠6 from h 6 (by decide) (by decide)),if_neg (show i≠7 from h 7 (by decide) (by decide)),if_neg (show i≠8 from h 8 (by decide) (by decide)),if_neg (show i≠9 from h 9 (by decide) (by decide)),if_neg (show i≠10 from h 10 (by decide) (by decide)),if_neg (show i≠11 from h 11 (by decide) (by decide)),if_neg (show i≠12 from h 12 (by decide) (by decide)),if_neg (show i≠13 from h 13 (by decide) (by decide)),if_neg (show i≠14 from h 14 (by decide) (by decide)),if_neg (show i≠15 from h 15 (by decide) (by decide))]
theorem rowRA_minus(k:Nat)(h:1<=k/\k<=15):strCmp .eql (rowRA k) ⟨⟨[45]⟩⟩=decide (rowAL k=0):=by
 obtain⟨h1,h2⟩:=h
 show((rowRA k).toList==(ByteArray.mk ⟨[45]⟩).toList)=_
 rw[ByteArray.toList_eq,ByteArray.toList_eq]
 have:k=1\/k=2\/k=3\/k=4\/k=5\/k=6\/k=7\/k=8\/k=9\/k=10\/k=11\/k=12\/k=13\/k=14\/k=15:=by omega
 rcases this with rfl|rfl|rfl|rfl|rfl|rfl|rfl|rfl|rfl|rfl|rfl|rfl|rfl|rfl|rfl<;>decide +kernel
section
variable {P:Program}(hP:P=Tryz.prog){H:Nat->Nat->List SV}{S:Nat->Nat}(hs:HS H S)
include hP hs
theorem oneRow{y:Nat}(h:y<4294967296):H y 1=[.int .u32 (.ofNat y)]:=by
 have:=hP
 rw[hs.h]
 show [SV.int .u32 (.ofNat (dg y 0))]=_
 rw[show dg y 0=y from by unfold dg Dg.dig;rw[Nat.pow_zero,Nat.div_one];exact Nat.mod_eq_of_lt h]
theorem mGet0(i:Int)(h:∀k:Nat,1<=k->k<=15->i≠Int.ofNat k):Con P 10 [.int .i64 i] [] 0 [] (fun w _ _=>w= .tup [.agg [.int .i64 0,.nils,.nils,.nils,.nils,.nils,.nils],.bool false]):=by
 have:=hs.h
 have hR:=mRow0 hP i h
 refine cof hP Tryz.func10 (bdb _ rfl) (bkb rfl) ?_
 intro A g K hA hg hK
 cases A
 cbv
 refine cva rfl hg rfl rfl hR ?_
 rintro _ _ _ rfl
 refine⟨trivial,?_⟩
 cbv
 exact hK _ _ _ rfl
theorem mGet(k:Nat)(hk:1<=k/\k<=15)(p a b n x y:Nat)(hp:p=primeN k)(ha:a=curA k)(hb:b=rowB k)(hn:n=rowN k)(hx:x=rowX k)(hy:y=rowY k):∃pc ac bc nc xc yc,p<4294967296^pc/\a<4294967296^ac/\b<4294967296^bc/\n<4294967296^nc/\x<4294967296^xc/\y<4294967296^yc/\
 Con P 10 [.int .i64 (.ofNat k)] [] 0 [] (fun w L q=>w= .tup [.agg [.int .i64 (.ofNat k),.slice 0 0 (S p) pc,.slice 1 0 (S a) ac,.slice 2 0 (S b) bc,.slice 3 0 (S n) nc,.slice 4 0 (S x) xc,.slice 5 0 (S y) yc],.bool true]/\
  L=[⟨0,H p pc,58⟩,⟨1,H a ac,58⟩,⟨2,H b bc,58⟩,⟨3,H n nc,58⟩,⟨4,H x xc,58⟩,⟨5,H y yc,58⟩]/\q=6):=by
 obtain⟨r1,r2,r3,r4,r5,l1,l2,l3,l4,l5,hbp,hp3⟩:=row_num k hk
 obtain⟨_,_,lp,_,rp⟩:=fld_num k hk
 obtain⟨ps,hps⟩:=exq (hexS (primeN k) (primeL k))
 obtain⟨sa,has⟩:=exq (rowRA k)
 obtain⟨bs,hbs⟩:=exq (hexS (rowB k) (rowBL k))
 obtain⟨ns,hns⟩:=exq (hexS (rowN k) (rowNL k))
 obtain⟨xs,hxs⟩:=exq (hexS (rowX k) (rowXL k))
 obtain⟨ys,hys⟩:=exq (hexS (rowY k) (rowYL k))
 have hR:=mRow hP k hk ps sa bs ns xs ys hps has hbs hns hxs hys
 obtain⟨pc,hpc⟩:=exq (primeL k/8+1)
 obtain⟨bc,hbc⟩:=exq (rowBL k/8+1)
 obtain⟨nc,hnc⟩:=exq (rowNL k/8+1)
 obtain⟨xc,hxc⟩:=exq (rowXL k/8+1)
 obtain⟨yc,hyc⟩:=exq (rowYL k/8+1)
 obtain⟨bp,hHp⟩:=mHex hP hs (primeL k) (primeN k) lp rp ps hps pc hpc
 obtain⟨bb,hHb⟩:=mHex hP hs (rowBL k) (rowB k) l2 r2 bs hbs bc hbc
 obtain⟨bn,hHn⟩:=mHex hP hs (rowNL k) (rowN k) l3 r3 ns hns nc hnc
 obtain⟨bx,hHx⟩:=mHex hP hs (rowXL k) (rowX k) l4 r4 xs hxs xc hxc
 obtain⟨by',hHy⟩:=mHex hP hs (rowYL k) (rowY k) l5 r5 ys hys yc hyc
 rw[<-hp]at hHp bp
 rw[<-hb]at hHb bb
 rw[<-hn]at hHn bn
 rw[<-hx]at hHx bx
 rw[<-hy]at hHy by'
 have vP:∀m,bdLB m (H p pc)=true:=fun m=>hs.b m p pc
 have vB:∀m,bdLB m (H b bc)=true:=fun m=>hs.b m b bc
 have vN:∀m,bdLB m (H n nc)=true:=fun m=>hs.b m n nc
 have vX:∀m,bdLB m (H x xc)=true:=fun m=>hs.b m x xc
 have vY:∀m,bdLB m (H y yc)=true:=fun m=>hs.b m y yc
 have h13:(3:Nat)<4294967296:=by decide
 have hrow3:=oneRow hP hs h13
 have hS3:=hs.one h13 (by decide)
 have hmi:=rowRA_minus k hk
 rw[<-has]at hmi
 by_cases hAL:rowAL k=0
 ·have hap:a=p-3:=by rw[ha,hp,curA,if_pos hAL]
  have hp40:p<4294967296^40:=by
   rw[hp];refine Nat.lt_of_lt_of_le rp (Nat.le_trans (Nat.pow_le_pow_right (by decide) lp) (by decide))
  obtain⟨ac,bac,hSb⟩:=mSub hP hs (x:=p) (c:=pc) (y:=3) (e:=1) bp (by decide) hp40 (by rw[hp];exact hp3) a hap
  rw[hS3,hrow3]at hSb
  have vA:∀m,bdLB m (H a ac)=true:=fun m=>hs.b m a ac
  refine⟨pc,ac,bc,nc,xc,yc,bp,bac,bb,bn,bx,by',?_⟩
  suffices raw:Con P 10 [.int .i64 (.ofNat k)] [] 0 [] (fun w L q=>w= .tup [.agg [.int .i64 (.ofNat k),.slice 2 0 (S p) pc,.slice 9 0 (S a) ac,.slice 3 0 (S b) bc,.slice 4 0 (S n) nc,.slice 5 0 (S x) xc,.slice 6 0 (S y) yc],.bool true]/\find L 2=some ⟨2,H p pc,58⟩/\find L 9=some ⟨9,H a ac,58⟩/\find L 3=some ⟨3,H b bc,58⟩/\find L 4=some ⟨4,H n nc,58⟩/\find L 5=some ⟨5,H x xc,58⟩/\find L 6=some ⟨6,H y yc,58⟩) by
   refine raw.weak fun v L q ⟨h1,h2,h3,h4,h5,h6,h7⟩=>⟨fun l=>if l=0 then 2 else if l=1 then 9 else l+1,.tup [.agg [.int .i64 (.ofNat k),.slice 0 0 (S p) pc,.slice 1 0 (S a) ac,.slice 2 0 (S b) bc,.slice 3 0 (S n) nc,.slice 4 0 (S x) xc,.slice 5 0 (S y) yc],.bool true],[⟨0,H p pc,58⟩,⟨1,H a ac,58⟩,⟨2,H b bc,58⟩,⟨3,H n nc,58⟩,⟨4,H x xc,58⟩,⟨5,H y yc,58⟩],6,?_,rfl,rfl,rfl⟩
   subst h1
   exact wkr ⟨rfl,rfl,trivial⟩ ⟨by rw[rcl _ (vP 0)];exact h2,rfl,rfl,vP 6,by rw[rcl _ (vA 0)];exact h3,rfl,rfl,vA 6,by rw[rcl _ (vB 0)];exact h4,rfl,rfl,vB 6,by rw[rcl _ (vN 0)];exact h5,rfl,rfl,vN 6,by rw[rcl _ (vX 0)];exact h6,rfl,rfl,vX 6,by rw[rcl _ (vY 0)];exact h7,rfl,rfl,vY 6,trivial⟩ rfl rfl rfl
  refine cof hP Tryz.func10 (bdb _ rfl) (bkb rfl) ?_
  intro A g K hA hg hK
  obtain⟨_,_,_,_,_,ix,_,_,_,_,_,scmp,_,_,_,off,get⟩:=A
  have e4:∀j,off 0 j 1=j:=fun j=>(off_of hA 0 j 1).trans (by omega)
  have i0:ix 0 6=some 0:=ix_of hA (k:=0) (n:=6) (by decide)
  have i1:ix 1 6=some 1:=ix_of hA (k:=1) (n:=6) (by decide)
  have i2:ix 2 6=some 2:=ix_of hA (k:=2) (n:=6) (by decide)
  have i3:ix 3 6=some 3:=ix_of hA (k:=3) (n:=6) (by decide)
  have i4:ix 4 6=some 4:=ix_of hA (k:=4) (n:=6) (by decide)
  have i5:ix 5 6=some 5:=ix_of hA (k:=5) (n:=6) (by decide)
  have q0:get [.str ps,.str sa,.str bs,.str ns,.str xs,.str ys] 0=some (.str ps):=(get_of hA _ _).trans rfl
  have q1:get [.str ps,.str sa,.str bs,.str ns,.str xs,.str ys] 1=some (.str sa):=(get_of hA _ _).trans rfl
  have q2:get [.str ps,.str sa,.str bs,.str ns,.str xs,.str ys] 2=some (.str bs):=(get_of hA _ _).trans rfl
  have q3:get [.str ps,.str sa,.str bs,.str ns,.str xs,.str ys] 3=some (.str ns):=(get_of hA _ _).trans rfl
  have q4:get [.str ps,.str sa,.str bs,.str ns,.str xs,.str ys] 4=some (.str xs):=(get_of hA _ _).trans rfl
  have q5:get [.str ps,.str sa,.str bs,.str ns,.str xs,.str ys] 5=some (.str ys):=(get_of hA _ _).trans rfl
  have hmin:scmp .eql sa ⟨⟨[45]⟩⟩=true:=by
   have e:scmp=Ar.real.scmp:=congrArg Ar.scmp hA
   rw[e]
   exact hmi.trans (decide_eq_true hAL)
  clear  hp ha hb hn hx hy hps has hbs hns hxs hys hpc hbc hnc hxc hyc
  cbv
  refine cgn rfl hg rfl rfl hR _root_.id rfl trivial rfl rfl rfl ?_
  rintro _ _ _ ⟨rfl,rfl,rfl⟩ _
  refine⟨rfl,?_⟩
  cbv
  refine reg_A (hP▸tblOk) hA hg (hP▸mixed) rfl rfl ?_
  cbv
  rw[i0]
  cbv
  rw[e4,q0]
  cbv
  refine stepDn (n':=3) (en_new rfl hg rfl rfl hHp _root_.id rfl trivial rfl (val:= .slice 0 0 (S p) pc) (NB:=[⟨0,H p pc,58⟩]) (n:=2) (n1:=1) (fun _ _ _ h=>⟨h.1,h.2.1,h.2.2⟩) rfl rfl (fun l h1 h2=>⟨_,List.mem_singleton.2 rfl,by show 0=l;omega⟩)) (by decide) rfl (by simp[renB]) ?_
  simp only[renB,rcl (H p pc) (vP 0)]
  cbv
  rw[i2]
  cbv
  rw[e4,q2]
  cbv
  refine stepDn (n':=4) (en_new rfl hg rfl rfl hHb _root_.id rfl trivial rfl (val:= .slice 0 0 (S b) bc) (NB:=[⟨0,H b bc,58⟩]) (n:=3) (n1:=1) (fun _ _ _ h=>⟨h.1,h.2.1,h.2.2⟩) rfl rfl (fun l h1 h2=>⟨_,List.mem_singleton.2 rfl,by show 0=l;omega⟩)) (by decide) rfl (by simp[renB]) ?_
  simp only[renB,rcl (H b bc) (vB 0)]
  cbv
  rw[i3]
  cbv
  rw[e4,q3]
  cbv
  refine stepDn (n':=5) (en_new rfl hg rfl rfl hHn _root_.id rfl trivial rfl (val:= .slice 0 0 (S n) nc) (NB:=[⟨0,H n nc,58⟩]) (n:=4) (n1:=1) (fun _ _ _ h=>⟨h.1,h.2.1,h.2.2⟩) rfl rfl (fun l h1 h2=>⟨_,List.mem_singleton.2 rfl,by show 0=l;omega⟩)) (by decide) rfl (by simp[renB]) ?_
  simp only[renB,rcl (H n nc) (vN 0)]
  cbv
  rw[i4]
  cbv
  rw[e4,q4]
  cbv
  refine stepDn (n':=6) (en_new rfl hg rfl rfl hHx _root_.id rfl trivial rfl (val:= .slice 0 0 (S x) xc) (NB:=[⟨0,H x xc,58⟩]) (n:=5) (n1:=1) (fun _ _ _ h=>⟨h.1,h.2.1,h.2.2⟩) rfl rfl (fun l h1 h2=>⟨_,List.mem_singleton.2 rfl,by show 0=l;omega⟩)) (by decide) rfl (by simp[renB]) ?_
  simp only[renB,rcl (H x xc) (vX 0)]
  cbv
  rw[i5]
  cbv
  rw[e4,q5]
  cbv
  refine stepDn (n':=7) (en_new rfl hg rfl rfl hHy _root_.id rfl trivial rfl (val:= .slice 0 0 (S y) yc) (NB:=[⟨0,H y yc,58⟩]) (n:=6) (n1:=1) (fun _ _ _ h=>⟨h.1,h.2.1,h.2.2⟩) rfl rfl (fun l h1 h2=>⟨_,List.mem_singleton.2 rfl,by show 0=l;omega⟩)) (by decide) rfl (by simp[renB]) ?_
  simp only[renB,rcl (H y yc) (vY 0)]
  cbv
  rw[i1]
  cbv
  rw[e4,q1]
  cbv
  rw[hmin]
  cbv
  refine cgn rfl hg rfl rfl hSb (fun l=>if l=0 then 2 else 8) rfl (ft2 (vP 0) rfl rfl rfl) rfl rfl rfl ?_
  rintro _ _ _ ⟨rfl,rfl,rfl⟩ _
  refine⟨rfl,?_⟩
  simp only[renB,rcl (H a ac) (vA 0)]
  cbv
  exact hK _ _ _ ⟨rfl,rfl,rfl,rfl,rfl,rfl,rfl⟩
 ·have hap:a=rowA k:=by rw[ha,curA,if_neg hAL]
  obtain⟨ac,hac⟩:=exq (rowAL k/8+1)
  obtain⟨ba,hHa⟩:=mHex hP hs (rowAL k) (rowA k) l1 r1 sa (by rw[has,rowRA,if_neg hAL]) ac hac
  rw[<-hap]at hHa ba
  have vA:∀m,bdLB m (H a ac)=true:=fun m=>hs.b m a ac
  refine⟨pc,ac,bc,nc,xc,yc,bp,ba,bb,bn,bx,by',?_⟩
  suffices raw:Con P 10 [.int .i64 (.ofNat k)] [] 0 [] (fun w L q=>w= .tup [.agg [.int .i64 (.ofNat k),.slice 2 0 (S p) pc,.slice 8 0 (S a) ac,.slice 3 0 (S b) bc,.slice 4 0 (S n) nc,.slice 5 0 (S x) xc,.slice 6 0 (S y) yc],.bool true]/\find L 2=some ⟨2,H p pc,58⟩/\find L 8=some ⟨8,H a ac,58⟩/\find L 3=some ⟨3,H b bc,58⟩/\find L 4=some ⟨4,H n nc,58⟩/\find L 5=some ⟨5,H x xc,58⟩/\find L 6=some ⟨6,H y yc,58⟩) by
   refine raw.weak fun v L q ⟨h1,h2,h3,h4,h5,h6,h7⟩=>⟨fun l=>if l=0 then 2 else if l=1 then 8 else l+1,.tup [.agg [.int .i64 (.ofNat k),.slice 0 0 (S p) pc,.slice 1 0 (S a) ac,.slice 2 0 (S b) bc,.slice 3 0 (S n) nc,.slice 4 0 (S x) xc,.slice 5 0 (S y) yc],.bool true],[⟨0,H p pc,58⟩,⟨1,H a ac,58⟩,⟨2,H b bc,58⟩,⟨3,H n nc,58⟩,⟨4,H x xc,58⟩,⟨5,H y yc,58⟩],6,?_,rfl,rfl,rfl⟩
   subst h1
   exact wkr ⟨rfl,rfl,trivial⟩ ⟨by rw[rcl _ (vP 0)];exact h2,rfl,rfl,vP 6,by rw[rcl _ (vA 0)];exact h3,rfl,rfl,vA 6,by rw[rcl _ (vB 0)];exact h4,rfl,rfl,vB 6,by rw[rcl _ (vN 0)];exact h5,rfl,rfl,vN 6,by rw[rcl _ (vX 0)];exact h6,rfl,rfl,vX 6,by rw[rcl _ (vY 0)];exact h7,rfl,rfl,vY 6,trivial⟩ rfl rfl rfl
  refine cof hP Tryz.func10 (bdb _ rfl) (bkb rfl) ?_
  intro A g K hA hg hK
  obtain⟨_,_,_,_,_,ix,_,_,_,_,_,scmp,_,_,_,off,get⟩:=A
  have e4:∀j,off 0 j 1=j:=fun j=>(off_of hA 0 j 1).trans (by omega)
  have i0:ix 0 6=some 0:=ix_of hA (k:=0) (n:=6) (by decide)
  have i1:ix 1 6=some 1:=ix_of hA (k:=1) (n:=6) (by decide)
  have i2:ix 2 6=some 2:=ix_of hA (k:=2) (n:=6) (by decide)
  have i3:ix 3 6=some 3:=ix_of hA (k:=3) (n:=6) (by decide)
  have i4:ix 4 6=some 4:=ix_of hA (k:=4) (n:=6) (by decide)
  have i5:ix 5 6=some 5:=ix_of hA (k:=5) (n:=6) (by decide)
  have q0:get [.str ps,.str sa,.str bs,.str ns,.str xs,.str ys] 0=some (.str ps):=(get_of hA _ _).trans rfl
  have q1:get [.str ps,.str sa,.str bs,.str ns,.str xs,.str ys] 1=some (.str sa):=(get_of hA _ _).trans rfl
  have q2:get [.str ps,.str sa,.str bs,.str ns,.str xs,.str ys] 2=some (.str bs):=(get_of hA _ _).trans rfl
  have q3:get [.str ps,.str sa,.str bs,.str ns,.str xs,.str ys] 3=some (.str ns):=(get_of hA _ _).trans rfl
  have q4:get [.str ps,.str sa,.str bs,.str ns,.str xs,.str ys] 4=some (.str xs):=(get_of hA _ _).trans rfl
  have q5:get [.str ps,.str sa,.str bs,.str ns,.str xs,.str ys] 5=some (.str ys):=(get_of hA _ _).trans rfl
  have hmin:scmp .eql sa ⟨⟨[45]⟩⟩=false:=by
   have e:scmp=Ar.real.scmp:=congrArg Ar.scmp hA
   rw[e]
   exact hmi.trans (decide_eq_false hAL)
  clear hac hp ha hb hn hx hy hps has hbs hns hxs hys hpc hbc hnc hxc hyc
  cbv
  refine cgn rfl hg rfl rfl hR _root_.id rfl trivial rfl rfl rfl ?_
  rintro _ _ _ ⟨rfl,rfl,rfl⟩ _
  refine⟨rfl,?_⟩
  cbv
  refine reg_A (hP▸tblOk) hA hg (hP▸mixed) rfl rfl ?_
  cbv
  rw[i0]
  cbv
  rw[e4,q0]
  cbv
  refine stepDn (n':=3) (en_new rfl hg rfl rfl hHp _root_.id rfl trivial rfl (val:= .slice 0 0 (S p) pc) (NB:=[⟨0,H p pc,58⟩]) (n:=2) (n1:=1) (fun _ _ _ h=>⟨h.1,h.2.1,h.2.2⟩) rfl rfl (fun l h1 h2=>⟨_,List.mem_singleton.2 rfl,by show 0=l;omega⟩)) (by decide) rfl (by simp[renB]) ?_
  simp only[renB,rcl (H p pc) (vP 0)]
  cbv
  rw[i2]
  cbv
  rw[e4,q2]
  cbv
  refine stepDn (n':=4) (en_new rfl hg rfl rfl hHb _root_.id rfl trivial rfl (val:= .slice 0 0 (S b) bc) (NB:=[⟨0,H b bc,58⟩]) (n:=3) (n1:=1) (fun _ _ _ h=>⟨h.1,h.2.1,h.2.2⟩) rfl rfl (fun l h1 h2=>⟨_,List.mem_singleton.2 rfl,by show 0=l;omega⟩)) (by decide) rfl (by simp[renB]) ?_
  simp only[renB,rcl (H b bc) (vB 0)]
  cbv
  rw[i3]
  cbv
  rw[e4,q3]
  cbv
  refine stepDn (n':=5) (en_new rfl hg rfl rfl hHn _root_.id rfl trivial rfl (val:= .slice 0 0 (S n) nc) (NB:=[⟨0,H n nc,58⟩]) (n:=4) (n1:=1) (fun _ _ _ h=>⟨h.1,h.2.1,h.2.2⟩) rfl rfl (fun l h1 h2=>⟨_,List.mem_singleton.2 rfl,by show 0=l;omega⟩)) (by decide) rfl (by simp[renB]) ?_
  simp only[renB,rcl (H n nc) (vN 0)]
  cbv
  rw[i4]
  cbv
  rw[e4,q4]
  cbv
  refine stepDn (n':=6) (en_new rfl hg rfl rfl hHx _root_.id rfl trivial rfl (val:= .slice 0 0 (S x) xc) (NB:=[⟨0,H x xc,58⟩]) (n:=5) (n1:=1) (fun _ _ _ h=>⟨h.1,h.2.1,h.2.2⟩) rfl rfl (fun l h1 h2=>⟨_,List.mem_singleton.2 rfl,by show 0=l;omega⟩)) (by decide) rfl (by simp[renB]) ?_
  simp only[renB,rcl (H x xc) (vX 0)]
  cbv
  rw[i5]
  cbv
  rw[e4,q5]
  cbv
  refine stepDn (n':=7) (en_new rfl hg rfl rfl hHy _root_.id rfl trivial rfl (val:= .slice 0 0 (S y) yc) (NB:=[⟨0,H y yc,58⟩]) (n:=6) (n1:=1) (fun _ _ _ h=>⟨h.1,h.2.1,h.2.2⟩) rfl rfl (fun l h1 h2=>⟨_,List.mem_singleton.2 rfl,by show 0=l;omega⟩)) (by decide) rfl (by simp[renB]) ?_
  simp only[renB,rcl (H y yc) (vY 0)]
  cbv
  rw[i1]
  cbv
  rw[e4,q1]
  cbv
  rw[hmin]
  cbv
  rw[i1]
  cbv
  rw[e4,q1]
  cbv
  refine cgn rfl hg rfl rfl hHa _root_.id rfl trivial rfl rfl rfl ?_
  rintro _ _ _ ⟨rfl,rfl,rfl⟩ _
  refine⟨rfl,?_⟩
  simp only[renB,rcl (H a ac) (vA 0)]
  cbv
  exact hK _ _ _ ⟨rfl,rfl,rfl,rfl,rfl,rfl,rfl⟩
end
end Go.Proofs.YtdhmihfefgcbeaaGreat
namespace Go.Vg
open Go.RowKit Go.Lib
section
variable {P:Program}{g:G}
theorem stepD_one{o:Oper}{c:Call}(ho:o.op= .call c){m0 N:Nat}{ms:List Nat}(hg:GI g m0 ms N)(hd':dstLt N o.dst=true){F:FF}{M:LL}{n:Nat}{f:FuncId}{us args:List SV}(hc:callee (look F) c=some (f,us)){Lp:LL}{n0 a b:Nat}{C:List SV}{t:TypeId}
 (hcon:Con P f args Lp n0 [] (fun w L q=>w= .slice n0 0 a b/\L=[⟨n0,C,t⟩]/\q=n0+1)) (bC:bdLB 0 C=true) (hlo:∀b∈Lp,b.l<n0/\bdLB n0 b.cs=true)
 (ρ:Nat->Nat) (hus:us=renL ρ args) (hft:foot ρ (selM o (find M)) Lp) (hcov:below (fun l=>memN (Lp.map Blk.l) l) n0=true) {K:SV->LL->Nat->Prop} (hK:K (.slice n 0 a b) [⟨n,C,t⟩] (n+1)):StepD g P o F M n K:=by
 have hk:=hcon.keep (fun b hb=>⟨(hlo b hb).1,bdb _ (hlo b hb).2⟩) (fun v L q h b hb=>by obtain⟨_,rfl,_⟩:=h;obtain rfl:=List.mem_singleton.1 hb;exact Nat.le_refl _)
 have hen:=en_new (n:=n) (n1:=n0+1) (val:= .slice n0 0 a b) (NB:=[⟨n0,C,t⟩]) ho hg hd' hc hk ρ hus hft hcov (fun v L1 k h=>by
  obtain⟨NB,⟨h1,h2,h3⟩,h4⟩:=h
  rw[h2]at h4
  exact⟨h1,h4,h3⟩) (by simp) (List.all_eq_true.2 fun b hb=>by simpa using(hlo b hb).1) (fun l h1 h2=>⟨_,List.mem_singleton.2 rfl,by show n0=l;omega⟩)
 have hbl:Nat.blt n0 n0=false:=by
  cases h:Nat.blt n0 n0 with
  |false=>rfl
  |true=>exact absurd (Nat.le_of_ble_eq_true h) (Nat.lt_irrefl _)
 have hr:rho ρ n0 n n0=n:=by unfold rho;rw[hbl];simp
 rw[show ren (rho ρ n0 n) (.slice n0 0 a b)= .slice n 0 a b from by simp[ren,hr],show renB (rho ρ n0 n) [⟨n0,C,t⟩]=[⟨n,C,t⟩]from by simp[renB,hr,rcl C bC]]at hen
 exact stepDn (n':=n+1) hen (by omega) (by simp) (by simp) hK
end
end Go.Vg
namespace Go.Proofs.YtdhmihfefgcbeaaGreat
open Go.Vg Go.RowKit
set_option maxRecDepth 200000
set_option cbv.maxSteps 100000000
def cvS(k:Nat)(sp sa sb sn sx sy:SV):List SV:=[.int .i64 (.ofNat k),sp,sa,sb,sn,sx,sy]
section
variable {P:Program}(hP:P=Tryz.prog){H:Nat->Nat->List SV}{S:Nat->Nat}(hs:HS H S)
include hP hs
end
theorem ftM2{ρ:Nat->Nat}{M:Nat->Option Blk}{l l':Nat}{C C':List SV}{t t':TypeId}(bC:bdLB 0 C=true)(bC':bdLB 0 C'=true)(h:M (ρ l)=some ⟨ρ l,C,t⟩)(h':M (ρ l')=some ⟨ρ l',C',t'⟩):foot ρ M [⟨l,C,t⟩,⟨l',C',t'⟩]:=
 ⟨by show M (ρ l)=some ⟨ρ l,renL ρ C,t⟩;rw[rcl C bC];exact h,by show M (ρ l')=some ⟨ρ l',renL ρ C',t'⟩;rw[rcl C' bC'];exact h',trivial⟩
section
variable {P:Program}(hP:P=Tryz.prog){H:Nat->Nat->List SV}{S:Nat->Nat}(hs:HS H S)
include hP hs
end
section
variable {P:Program}(hP:P=Tryz.prog){H:Nat->Nat->List SV}{S:Nat->Nat}(hs:HS H S)
include hP hs
theorem mRead(n x:Nat)(hn:n<=144)(s:ByteArray)(hsz:s.size=n)(hxs:x=Sh.word (bl s))(c:Nat)(hc:c=n/4+1):x<4294967296^c/\Con P 35 [.str s] [] 0 [] (fun w L q=>w= .slice 0 0 (S x) c/\L=[⟨0,H x c,58⟩]/\q=1):=by
 have hx:x<256^n:=by rw[hxs,<-hsz,<-bll];exact word_bound (bl_lt s)
 have hpc:256^n<=4294967296^c:=by
  rw[show(4294967296:Nat)=256^4 from by decide,<-Nat.pow_mul]
  exact Nat.pow_le_pow_right (by decide) (by omega)
 have hxc:x<4294967296^c:=Nat.lt_of_lt_of_le hx hpc
 refine⟨hxc,?_⟩
 obtain⟨T,hT⟩:=exq (fun i=>topN 256 x (n-i):Nat->Nat)
 obtain⟨Dd,hDd⟩:=exq (fun k=>x/256^k%256:Nat->Nat)
 have lDd:∀k,Dd k<256:=fun k=>by rw[hDd];exact Nat.mod_lt _ (by decide)
 obtain⟨Z,hZ⟩:=exq (fun i=>Vg.hs (dg (T i)) c:Nat->List SV)
 have bZ:∀m i,bdLB m (Z i)=true:=fun m i=>by rw[hZ];exact hs_bd _ _ m
 have hZ0:List.replicate c (SV.int .u32 0)=Z 0:=by
  rw[hZ,hs_zero,hT];show _=Vg.hs (dg (topN 256 x (n-0))) c
  rw[Nat.sub_zero,topN_all hx]
  exact hs_congr fun j _=>by unfold dg Dg.dig;rw[Nat.zero_div]
 have hTn:T n=x:=by rw[hT];show topN 256 x (n-n)=x;rw[Nat.sub_self,topN_zero]
 have hZn:Z n=Vg.hs (dg x) c:=by rw[hZ];show Vg.hs (dg (T n)) c=_;rw[hTn]
 have hTr:Con P 42 [.slice 0 0 c c] [⟨0,Z n,58⟩] 1 [] (fun w _ _=>w= .slice 0 0 (S x) c):=by
  rw[hZn];exact cTrim hP (dg x) c c (S x) (Nat.le_refl _) (by omega) (by rw[hs.s,tl_dg hxc])
 rw[hs.h]
 show Con P _ _ _ _ _ (fun w L q=>w= .slice 0 0 (S x) c/\L=[⟨0,Vg.hs (dg x) c,58⟩]/\q=1)
 rw[<-hZn]
 suffices raw:Con P 35 [.str s] [] 0 [] (fun w L q=>w= .slice 0 0 (S x) c/\find L 0=some ⟨0,Z n,58⟩)from
  raw.weak fun v L q ⟨h1,h2⟩=>⟨_root_.id,.slice 0 0 (S x) c,[⟨0,Z n,58⟩],1,by subst h1;exact weak_id ⟨rfl,rfl,trivial⟩ ⟨h2,rfl,bZ 1 n,trivial⟩ rfl rfl,rfl,rfl,rfl⟩
 have hst:∀i k q r,i<n->k=n-1-i->q=k/4->r=8*(k%4)->(∀j,dg (T (i+1)) j=if j=q then dg (T i) q+Dd k*2^r else dg (T i) j)/\dg (T i) q|||Dd k*2^r=dg (T i) q+Dd k*2^r/\dg (T i) q+Dd k*2^r<4294967296:=fun i k q r hi hk hq hr=>by
  have e1:T i=topN 256 x (k+1):=by rw[hT];show topN 256 x (n-i)=_;congr 1;omega
  have e2:T (i+1)=T i+Dd k*2^(8*k):=by
   rw[e1,hT,hDd];show topN 256 x (n-(i+1))=_+x/256^k%256*_
   rw[show n-(i+1)=k by omega,topN_succ,Nat.pow_mul]
  rw[e2]
  refine or_dig (t:=x/256^(k+1)) (w:=8) (by omega) (by omega) (lDd k) ?_
  rw[e1];unfold topN
  rw[show 8*k+8=8*(k+1) by omega,Nat.pow_mul 2 8]
 have hes:∀i k,i<n->k=n-1-i->∃h:i<s.size,(s[i]'h).toNat=Dd k:=fun i k hi hk=>by
  refine⟨by omega,?_⟩
  have h:=word_byte (l:=bl s) (bl_lt s) (i:=k) (by rw[bll];omega)
  rw[bll,<-hxs]at h
  rw[hDd]
  show _=x/256^k%256
  rw[h,show s.size-1-k=i by omega,List.getD_eq_getElem?_getD]
  have h2:(bl s)[i]? =some (s[i]'(by omega)).toNat:=by
   unfold bl
   rw[List.getElem?_map,Array.getElem?_toList,Array.getElem?_eq_getElem (show i<s.data.size by have:=hsz;show i<s.size;omega)]
   rfl
  rw[h2]
  rfl
 clear hT hDd hZn hTn hxs
 refine cof hP Tryz.func35 (bdb _ rfl) (bkb rfl) ?_
 intro A g K hA hg hK
 obtain⟨bin,sh,cmp,_,cvt,ix,nn,_,_,_,_,_,slen,six,nat,off,get,_,sub,spl⟩:=A
 have en:slen s=Int.ofNat n:=(slen_of hA s).trans (by rw[hsz])
 have e0:nat c=Int.ofNat c:=nat_of hA c
 have e1:bin .quo .i64 (.ofNat n) 4=Int.ofNat (n/4):=quoI hA (a:=n) (b:=4) (by omega)
 have e2:bin .add .i64 (.ofNat (n/4)) 1=Int.ofNat c:=(addI hA (a:=n/4) (b:=1) (by omega)).trans (by rw[hc])
 have e3:∀j,off 0 j 1=j:=fun j=>(off_of hA 0 j 1).trans (by omega)
 have e4:∀i m,i<m->ix (.ofNat i) m=some i:=fun i m h=>ix_of hA h
 have e5:∀i j,j<c->get (Z i) j=some (.int .u32 (.ofNat (dg (T i) j))):=fun i j h=>by rw[hZ];exact getW hA .u32 (dg (T i)) h
 have e6:∀i q v,q<c->(dg (T (i+1))=fun j=>if j=q then v else dg (T i) j)->spl (Z i) q [.int .u32 (.ofNat v)]=some (Z (i+1)):=fun i q v h hv=>by rw[hZ];exact splW hA .u32 (n:=c) (dg (T i)) (dg (T (i+1))) h hv
 have e7:∀i,i<n->cmp .lss (.ofNat i) (.ofNat n)=true:=fun i h=>lss_t hA h
 have e7f:cmp .lss (.ofNat n) (.ofNat n)=false:=lss_f hA (Nat.lt_irrefl n)
 have e8:∀i,i<n->bin .add .i64 (.ofNat i) 1=Int.ofNat (i+1):=fun i h=>addI hA (a:=i) (b:=1) (by omega)
 have es:∀i b,s[i]? =some b->six s (Int.ofNat i)=some (Int.ofNat b.toNat):=fun i b h=>by
  have e:six=Ar.real.six:=congrArg Ar.six hA
  rw[e]
  show(if 0<=Int.ofNat i then(s[(Int.ofNat i).toNat]?).map fun b=>(b.toNat:Int)else none)=_
  rw[if_pos (show(0:Int)<=Int.ofNat i from Int.natCast_nonneg _)]
  show(s[i]?).map _=_
  rw[h];rfl
 have hU:=u32B hP
 clear hZ
 cbv
 rw[en,e1,e2]
 cbv
 refine smk (hP▸tblOk) hg rfl rfl (show tyT 27=some _ from rfl) rfl (show tyT 58=some _ from rfl) hU rfl (m:=c) rfl rfl (by omega) (by omega) ?_
 rw[hZ0]
 cbv
 refine lpb Nat (fun i=>i<=n) (fun i=>n-i) (fun i=> [(4,.int .i64 (.ofNat i))]) [0,2,3] (fun i=> [(0,Z i)]) 0 (Nat.zero_le _) ?_ ?_
 ·exact wkih (by repeat' (first|exact trivial|refine⟨rfl,rfl,rfl,?_⟩|refine⟨rfl,rfl,bZ 1 0,?_⟩))
 intro i hi
 by_cases hlt:i<n
 ·obtain⟨n1,hn1⟩:=exq (n-1)
  obtain⟨k,hk⟩:=exq (n-1-i)
  obtain⟨q,hq⟩:=exq (k/4)
  obtain⟨r8,hr8⟩:=exq (k%4)
  obtain⟨r,hr⟩:=exq (8*r8)
  have hqc:q<c:=by omega
  obtain⟨t1,t2,t3⟩:=hst i k q r hlt hk hq (by rw[hr,hr8])
  obtain⟨d,hd⟩:=exq (Dd k)
  have ld:d<256:=by rw[hd];exact lDd k
  obtain⟨hlt',hbv⟩:=hes i k hlt hk
  have hsi:=es i (s[i]'hlt') (by rw[getElem?_pos s i hlt'])
  rw[hbv,<-hd]at hsi
  rw[<-hd]at t1 t2 t3
  obtain⟨O,hO⟩:=exq (dg (T i) q)
  have gO:=e5 i q hqc
  rw[<-hO]at t1 t2 t3 gO
  obtain⟨y,hy⟩:=exq (d*2^r)
  obtain⟨w,hw⟩:=exq (O+y)
  rw[<-hy]at t1 t2 t3
  rw[<-hw]at t1 t2 t3
  have hdc:cvt .u32 (.ofNat d)=Int.ofNat d:=c32 hA (by omega)
  have g1:bin .sub .i64 (.ofNat n) 1=Int.ofNat n1:=(subI hA (a:=n) (b:=1) (by omega) (by omega)).trans (by rw[hn1])
  have g2:bin .sub .i64 (.ofNat n1) (.ofNat i)=Int.ofNat k:=(subI hA (a:=n1) (b:=i) (by omega) (by omega)).trans (by rw[hk,hn1])
  have g3:bin .quo .i64 (.ofNat k) 4=Int.ofNat q:=(quoI hA (a:=k) (b:=4) (by omega)).trans (by rw[hq])
  have g4:bin .rem .i64 (.ofNat k) 4=Int.ofNat r8:=(remW hA k 4).trans (by rw[hr8])
  have g5:bin .mul .i64 (.ofNat r8) 8=Int.ofNat r:=(mulI hA (a:=r8) (b:=8) (by omega)).trans (by rw[hr,Nat.mul_comm])
  have g6:nn (.ofNat r)=true:=nn_t hA r
  have g7:sh .shl .u32 (.ofNat d) (.ofNat r)=Int.ofNat y:=(shlW hA (k:= .u32) rfl d (s:=r) (by show r<=32;omega)).trans (congrArg Int.ofNat (by rw[<-hy];exact Nat.mod_eq_of_lt (by show y<4294967296;omega)))
  have g8:bin .or .u32 (.ofNat O) (.ofNat y)=Int.ofNat w:=(orW hA (k:= .u32) rfl (a:=O) (b:=y) (by show O<4294967296;omega) (by show y<4294967296;omega)).trans (congrArg Int.ofNat t2)
  have g9:=e6 i q w hqc (funext t1)
  have g10:=e8 i hlt
  obtain⟨Zn,hZn⟩:=exq (Z (i+1))
  rw[<-hZn]at g9
  have bZn:∀m,bdLB m Zn=true:=fun m=>by rw[hZn];exact bZ m _
  cbv
  rw[en]
  cbv
  rw[e7 i hlt]
  cbv
  rw[en,g1,g2]
  cbv
  refine rgM hP hA hg fun mk _=> ?_
  cbv
  rw[g3]
  cbv
  rw[e4 q c hqc]
  cbv
  rw[e3,gO]
  cbv
  rw[hsi]
  cbv
  rw[hdc]
  cbv
  rw[g4]
  cbv
  rw[g5]
  cbv
  rw[g6]
  cbv
  rw[g7]
  cbv
  rw[g8]
  cbv
  rw[e4 q c hqc]
  cbv
  rw[e3,g9]
  cbv
  rw[g10]
  refine⟨i+1,_root_.id,hlt,(by show n-(i+1)<n-i;omega),?_⟩
  rw[<-hZn]
  exact wkih (by repeat' (first|exact trivial|refine⟨rfl,rfl,rfl,?_⟩|refine⟨rfl,rfl,bZn 1,?_⟩))
 ·have hin:n=i:=by omega
  subst hin
  cbv
  rw[en]
  cbv
  rw[e7f]
  cbv
  refine cro rfl hg rfl rfl hTr (fun _=>0) rfl (ft1 (bZ 0 n) rfl) ?_
  rintro _ _ _ rfl
  refine⟨by simp[bd],by simp[bd,ren],?_⟩
  cbv
  exact hK _ _ _ ⟨rfl,rfl⟩
theorem mNSize(k nP nA nB nX nY cP cA cB cX cY:Nat)(r0 r1 r2 r4 r5:List SV)(b0:∀m,bdLB m r0=true)(b1:∀m,bdLB m r1=true)(b2:∀m,bdLB m r2=true)(b4:∀m,bdLB m r4=true)(b5:∀m,bdLB m r5=true){n nc:Nat}(hn:n<4294967296^nc)(hn18:n<4294967296^18)(bits:Nat)(hb:IsBl n bits)(hb2:bits<=576)(z:Nat)(hz:z=(bits+7)/8):
 Con P 33 [.agg (cvS k (.slice 0 0 nP cP) (.slice 1 0 nA cA) (.slice 2 0 nB cB) (.slice 3 0 (S n) nc) (.slice 4 0 nX cX) (.slice 5 0 nY cY))]
 [⟨0,r0,58⟩,⟨1,r1,58⟩,⟨2,r2,58⟩,⟨3,H n nc,58⟩,⟨4,r4,58⟩,⟨5,r5,58⟩] 6 [] (fun w _ _=>w= .int .i64 (.ofNat z)):=by
 have hB:=cRBits hP (hs.nm hn) (by have:=hs.le hn18;omega) bits hb
 rw[show Vg.hs (dg n) nc=H n nc from by rw[hs.h]]at hB
 have b3:∀m,bdLB m (H n nc)=true:=fun m=>hs.b m n nc
 obtain⟨b7,hb7⟩:=exq (bits+7)
 refine cof hP Tryz.func33 ⟨⟨trivial,blq rfl,blq rfl,blq rfl,blq rfl,blq rfl,blq rfl,trivial⟩,trivial⟩ (by simpa [bdL,bd]using⟨bdb _ (b0 6),bdb _ (b1 6),bdb _ (b2 6),bdb _ (b3 6),bdb _ (b4 6),bdb _ (b5 6)⟩) ?_
 intro A g K hA hg hK
 obtain⟨bin⟩:=A
 have e1:bin .add .i64 (.ofNat bits) 7=Int.ofNat b7:=(addI hA (a:=bits) (b:=7) (by omega)).trans (by rw[hb7])
 have e2:bin .quo .i64 (.ofNat b7) 8=Int.ofNat z:=(quoI hA (a:=b7) (b:=8) (by omega)).trans (by rw[hz,hb7])
 cbv
 refine cro rfl hg rfl rfl hB (fun _=>3) rfl (ft1 (b3 0) rfl) ?_
 rintro _ _ _ rfl
 refine⟨trivial,trivial,?_⟩
 cbv
 rw[e1]
 cbv
 rw[e2]
 exact hK _ _ _ rfl
end
def RO(P:Program)(id:Nat):Prop:=∀ (s dg:ByteArray),s.size<2^40->bl dg=Sh.of id (bl s)->Con P 83 [.int .i64 (.ofNat id),.str s] [] 0 [] (fun v _ _=>v= .str dg)
theorem ro32{P:Program}(hP:P=Tryz.prog){id:Nat}(h:id=1\/id=2):RO P id:=fun s dg hs hd=>by
 rcases h with rfl|rfl
 ·exact cROf32 hP 1 (f8A Sh.i224) (Or.inl ⟨rfl,rfl⟩) (by unfold Sh.ok8;decide) s dg hs hd
 ·exact cROf32 hP 2 (f8A Sh.i256) (Or.inr ⟨rfl,rfl⟩) (by unfold Sh.ok8;decide) s dg hs hd
theorem cRXor{P:Program}(hP:P=Tryz.prog)(id:Nat)(hid:1<=id/\id<=4)(hOf:RO P id)(key r:ByteArray)(x:Nat)(hx:x<256)(hks:key.size<2^40)(hr:bl r=(Sh.key id (bl key)).map (· ^^^x)):
 Con P 84 [.int .i64 (.ofNat id),.str key,.int .u8 (.ofNat x)] [] 0 [] (fun v _ _=>v= .str r):=by
 obtain⟨k,hk⟩:=exq (Sh.blk id)
 have hkb:=Sh.size_blk hid
 rw[<-hk]at hkb
 have hBk:=cRBlock hP id hid k hk
 obtain⟨kz,hkz⟩:=exq key.size
 have hU:=bytesU8 hP
 refine cof hP Tryz.func84 (bdb _ rfl) (bkb rfl) ?_
 intro A g K hA hg hK
 obtain⟨bin,_,cmp,_,_,ix,_,_,_,_,_,_,slen,_,nat,off,get,_,_,spl⟩:=A
 have f0:∀i,i<k->ix (.ofNat i) k=some i:=fun i h=>ix_of hA h
 have f1:∀i,off 0 i 1=i:=fun i=>(off_of hA 0 i 1).trans (by omega)
 have f2:∀i,i<k->cmp .lss (.ofNat i) (.ofNat k)=true:=fun i h=>lss_t hA h
 have f3:cmp .lss (.ofNat k) (.ofNat k)=false:=lss_f hA (by omega)
 have f4:∀i,i<k->bin .add .i64 (.ofNat i) 1=Int.ofNat (i+1):=fun i h=>add_of hA (by omega)
 have f5:nat k=Int.ofNat k:=nat_of hA k
 have e1:slen key=Int.ofNat kz:=(slen_of hA key).trans (by rw[hkz])
 cbv
 rw[e1]
 cbv
 refine cva rfl hg rfl rfl hBk ?_
 rintro _ _ _ rfl
 refine⟨trivial,?_⟩
 by_cases hlong:k<kz
 ·obtain⟨kb,hkbb⟩:∃b,bl b=Sh.of id (bl key):=⟨mkB (Sh.of id (bl key)),bmk (Sh.of_b _ _)⟩
  obtain⟨m,hm⟩:=exq kb.size
  have hmk:m<=k:=by rw[hm,<-bll,hkbb,Sh.of_len hid];exact hkb.1
  have hHo:=hOf key kb hks hkbb
  cbv
  rw[show cmp .gtr (.ofNat kz) (.ofNat k)=true from gtr_t hA hlong]
  cbv
  refine cva rfl hg rfl rfl hHo ?_
  rintro _ _ _ rfl
  refine⟨trivial,?_⟩
  obtain⟨l,hl⟩:=exq (bl kb++List.replicate (k-m) 0)
  have hlk:l=Sh.key id (bl key):=by
   rw[hl];unfold Sh.key;rw[bll,<-hk]
   rw[if_pos (by omega:k<key.size),hkbb,hm,<-bll,hkbb]
  have hll:l.length=k:=by rw[hlk,Sh.key_len hid,hk]
  have hlb:∀i,l.getD i 0<256:=fun i=>by
   rw[List.getD_eq_getElem?_getD]
   cases hq:l[i]? with
   |none=>decide
   |some y=>exact Sh.key_b id (bl key) (bl_lt key) y (by rw[<-hlk];exact List.mem_of_getElem? hq)
  obtain⟨C,hC⟩:=exq (fun i=>by8 (XR l x i):Nat->List SV)
  have bC:∀q i,bdLB q (C i)=true:=fun q i=>by rw[hC];exact by8_bd q _
  have gC:∀i,i<k->get (C i) i=some (.int .u8 (.ofNat (l.getD i 0))):=fun i h=>by
   rw[hC];have:=XR_get (l:=l) (x:=x) (i:=i) (by omega) [];rw[List.append_nil]at this;exact(get_of hA _ _).trans this
  have sC:∀i,i<k->spl (C i) i [.int .u8 (.ofNat (l.getD i 0^^^x))]=some (C (i+1)):=fun i h=>by
   rw[hC]
   refine(spl_of hA (by rw[by8_len,XR_len];omega) _).trans ?_
   have:=XR_set (l:=l) (x:=x) (i:=i) (by omega) []
   rw[List.append_nil,List.append_nil]at this
   rw[this]
  have hC0:bts kb++(List.replicate k (SV.int .u8 0)).drop kb.size=C 0:=by
   rw[hC,<-hm,List.drop_replicate,bts_by8]
   show _=by8 ([].map _++l.drop 0)
   rw[List.drop_zero,hl]
   simp[by8]
  have hCk:((C k).drop 0).take k=bts r:=by
   rw[hC,List.drop_zero]
   show(by8 (XR l x k)).take k=_
   unfold XR
   rw[<-hll,List.take_length,List.drop_length,List.append_nil,List.take_of_length_le (by rw[by8_len,List.length_map];exact Nat.le_refl _),bts_by8,hr,hlk]
  have hrs:r.size=k:=by rw[<-bll,hr,List.length_map,Sh.key_len hid,hk]
  clear hC
  cbv
  refine cva rfl hg rfl rfl hBk ?_
  rintro _ _ _ rfl
  refine⟨trivial,?_⟩
  cbv
  refine smk (hP▸tblOk) hg rfl rfl (show tyT 143=some _ from rfl) rfl (show tyT 5=some _ from rfl) hU rfl rfl rfl (by omega) (by omega) ?_
  obtain⟨Z,hZ⟩:=exq (List.replicate k (SV.int .u8 0):List SV)
  have hZl:Z.length=k:=by rw[hZ,List.length_replicate]
  rw[<-hZ]at hC0⊢
  cbv
  refine step_copy_str (hP▸tblOk) hg rfl rfl (show tyT 143=some _ from rfl) rfl (show ev _ _=some (.slice 0 0 k k)from rfl) (show find _ 0=some _ from rfl) rfl (d:=kb) rfl (by omega) (by omega) ?_
  rw[hC0]
  clear hC0 hZ hZl
  cbv
  refine lpb Nat (fun i=>i<=k) (fun i=>k-i) (fun i=> [(8,.int .i64 (.ofNat i))]) [2,7] (fun i=> [(0,C i)]) 0 (Nat.zero_le _) ?_ ?_
  ·exact wkih (by repeat' (first|exact trivial|refine⟨rfl,rfl,rfl,?_⟩|refine⟨rfl,rfl,bC 1 0,?_⟩))
  intro i hi
  by_cases hlt:i<k
  ·obtain⟨y,hy⟩:=exq (l.getD i 0)
   obtain⟨w,hw⟩:=exq (y^^^x)
   have hx8:bin .xor .u8 (.ofNat y) (.ofNat x)=Int.ofNat w:=(xorW hA rfl (by rw[hy];exact hlb i) hx).trans (by rw[hw])
   have g1:=gC i hlt
   have g2:=sC i hlt
   rw[<-hy]at g1 g2
   rw[<-hw]at g2
   cbv
   rw[f5]
   cbv
   rw[f2 i hlt]
   cbv
   rw[f0 i hlt]
   cbv
   rw[f1 i,g1]
   cbv
   rw[hx8,f0 i hlt]
   cbv
   rw[f1 i,g2]
   cbv
   rw[f4 i hlt]
   refine⟨i+1,_root_.id,hlt,(by show k-(i+1)<k-i;omega),?_⟩
   exact wkih (by repeat' (first|exact trivial|refine⟨rfl,rfl,rfl,?_⟩|refine⟨rfl,rfl,bC 1 (i+1),?_⟩))
  ·obtain rfl:i=k:=by omega
   cbv
   rw[f5]
   cbv
   rw[f3]
   cbv
   refine step_string (hP▸tblOk) hg rfl rfl (show tyT 9=some _ from rfl) rfl (show tyT 143=some _ from rfl) rfl (hP▸Tryz.underlying5) rfl (show find _ 0=some _ from rfl) hCk hrs ?_
   cbv
   exact hK _ _ _ rfl
 ·obtain⟨kb,hkbb⟩:=exq key
  obtain⟨m,hm⟩:=exq kb.size
  have hmk:m<=k:=by rw[hm,hkbb];omega
  rw[<-hkbb]at e1⊢
  cbv
  rw[show cmp .gtr (.ofNat kz) (.ofNat k)=false from gtr_f hA (by omega)]
  obtain⟨l,hl⟩:=exq (bl kb++List.replicate (k-m) 0)
  have hlk:l=Sh.key id (bl key):=by
   rw[hl];unfold Sh.key;rw[bll,<-hk]
   rw[if_neg (by omega:¬k<key.size),hm,hkbb,<-bll]
  have hll:l.length=k:=by rw[hlk,Sh.key_len hid,hk]
  have hlb:∀i,l.getD i 0<256:=fun i=>by
   rw[List.getD_eq_getElem?_getD]
   cases hq:l[i]? with
   |none=>decide
   |some y=>exact Sh.key_b id (bl key) (bl_lt key) y (by rw[<-hlk];exact List.mem_of_getElem? hq)
  obtain⟨C,hC⟩:=exq (fun i=>by8 (XR l x i):Nat->List SV)
  have bC:∀q i,bdLB q (C i)=true:=fun q i=>by rw[hC];exact by8_bd q _
  have gC:∀i,i<k->get (C i) i=some (.int .u8 (.ofNat (l.getD i 0))):=fun i h=>by
   rw[hC];have:=XR_get (l:=l) (x:=x) (i:=i) (by omega) [];rw[List.append_nil]at this;exact(get_of hA _ _).trans this
  have sC:∀i,i<k->spl (C i) i [.int .u8 (.ofNat (l.getD i 0^^^x))]=some (C (i+1)):=fun i h=>by
   rw[hC]
   refine(spl_of hA (by rw[by8_len,XR_len];omega) _).trans ?_
   have:=XR_set (l:=l) (x:=x) (i:=i) (by omega) []
   rw[List.append_nil,List.append_nil]at this
   rw[this]
  have hC0:bts kb++(List.replicate k (SV.int .u8 0)).drop kb.size=C 0:=by
   rw[hC,<-hm,List.drop_replicate,bts_by8]
   show _=by8 ([].map _++l.drop 0)
   rw[List.drop_zero,hl]
   simp[by8]
  have hCk:((C k).drop 0).take k=bts r:=by
   rw[hC,List.drop_zero]
   show(by8 (XR l x k)).take k=_
   unfold XR
   rw[<-hll,List.take_length,List.drop_length,List.append_nil,List.take_of_length_le (by rw[by8_len,List.length_map];exact Nat.le_refl _),bts_by8,hr,hlk]
  have hrs:r.size=k:=by rw[<-bll,hr,List.length_map,Sh.key_len hid,hk]
  clear hC
  cbv
  refine cva rfl hg rfl rfl hBk ?_
  rintro _ _ _ rfl
  refine⟨trivial,?_⟩
  cbv
  refine smk (hP▸tblOk) hg rfl rfl (show tyT 143=some _ from rfl) rfl (show tyT 5=some _ from rfl) hU rfl rfl rfl (by omega) (by omega) ?_
  obtain⟨Z,hZ⟩:=exq (List.replicate k (SV.int .u8 0):List SV)
  have hZl:Z.length=k:=by rw[hZ,List.length_replicate]
  rw[<-hZ]at hC0⊢
  cbv
  refine step_copy_str (hP▸tblOk) hg rfl rfl (show tyT 143=some _ from rfl) rfl (show ev _ _=some (.slice 0 0 k k)from rfl) (show find _ 0=some _ from rfl) rfl (d:=kb) rfl (by omega) (by omega) ?_
  rw[hC0]
  clear hC0 hZ hZl
  cbv
  refine lpb Nat (fun i=>i<=k) (fun i=>k-i) (fun i=> [(8,.int .i64 (.ofNat i))]) [2,7] (fun i=> [(0,C i)]) 0 (Nat.zero_le _) ?_ ?_
  ·exact wkih (by repeat' (first|exact trivial|refine⟨rfl,rfl,rfl,?_⟩|refine⟨rfl,rfl,bC 1 0,?_⟩))
  intro i hi
  by_cases hlt:i<k
  ·obtain⟨y,hy⟩:=exq (l.getD i 0)
   obtain⟨w,hw⟩:=exq (y^^^x)
   have hx8:bin .xor .u8 (.ofNat y) (.ofNat x)=Int.ofNat w:=(xorW hA rfl (by rw[hy];exact hlb i) hx).trans (by rw[hw])
   have g1:=gC i hlt
   have g2:=sC i hlt
   rw[<-hy]at g1 g2
   rw[<-hw]at g2
   cbv
   rw[f5]
   cbv
   rw[f2 i hlt]
   cbv
   rw[f0 i hlt]
   cbv
   rw[f1 i,g1]
   cbv
   rw[hx8,f0 i hlt]
   cbv
   rw[f1 i,g2]
   cbv
   rw[f4 i hlt]
   refine⟨i+1,_root_.id,hlt,(by show k-(i+1)<k-i;omega),?_⟩
   exact wkih (by repeat' (first|exact trivial|refine⟨rfl,rfl,rfl,?_⟩|refine⟨rfl,rfl,bC 1 (i+1),?_⟩))
  ·obtain rfl:i=k:=by omega
   cbv
   rw[f5]
   cbv
   rw[f3]
   cbv
   refine step_string (hP▸tblOk) hg rfl rfl (show tyT 9=some _ from rfl) rfl (show tyT 143=some _ from rfl) rfl (hP▸Tryz.underlying5) rfl (show find _ 0=some _ from rfl) hCk hrs ?_
   cbv
   exact hK _ _ _ rfl
theorem cRHmac{P:Program}(hP:P=Tryz.prog)(id:Nat)(hid:1<=id/\id<=4)(hOf:RO P id)(key msg dg:ByteArray)(hks:key.size<2^40)(hms:msg.size<2^39)(hdg:bl dg=Sh.hmac id (bl key) (bl msg)):
 Con P 54 [.int .i64 (.ofNat id),.str key,.str msg] [] 0 [] (fun v _ _=>v= .str dg):=by
 have hkk:=Sh.key_b id (bl key) (bl_lt key)
 have hkb:=Sh.size_blk hid
 obtain⟨ip,hip⟩:∃b,bl b=(Sh.key id (bl key)).map (· ^^^54):=⟨mkB ((Sh.key id (bl key)).map (· ^^^54)),bmk (Sh.xor_b hkk (by decide))⟩
 obtain⟨ok,hok⟩:∃b,bl b=(Sh.key id (bl key)).map (· ^^^92):=⟨mkB ((Sh.key id (bl key)).map (· ^^^92)),bmk (Sh.xor_b hkk (by decide))⟩
 have his:ip.size<=128:=by rw[<-bll,hip,List.length_map,Sh.key_len hid];omega
 have hos:ok.size<=128:=by rw[<-bll,hok,List.length_map,Sh.key_len hid];omega
 obtain⟨m1,hm1⟩:=exq (ip++msg)
 obtain⟨d1,hd1⟩:∃b,bl b=Sh.of id (bl m1):=⟨mkB (Sh.of id (bl m1)),bmk (Sh.of_b _ _)⟩
 obtain⟨m2,hm2⟩:=exq (ok++d1)
 have hm1s:m1.size=ip.size+msg.size:=by rw[hm1,ByteArray.size_append]
 have hd1s:d1.size=Sh.size id:=by rw[<-bll,hd1,Sh.of_len hid]
 have hm2s:m2.size=ok.size+d1.size:=by rw[hm2,ByteArray.size_append]
 have hXi:=cRXor hP id hid hOf key ip 54 (by decide) hks hip
 have hXo:=cRXor hP id hid hOf key ok 92 (by decide) hks hok
 have hO1:=hOf m1 d1 (by omega) hd1
 have hO2:=hOf m2 dg (by omega) (by rw[hdg,hm2,bl_app,hok,hd1,hm1,bl_app,hip];rfl)
 clear hip hok hd1 hdg hkk
 refine cof hP Tryz.func54 (bdb _ rfl) (bkb rfl) ?_
 intro A g K hA hg hK
 obtain⟨_,_,_,_,_,_,_,_,_,_,scat⟩:=A
 have e1:scat ip msg=some m1:=(scat_of hA (by omega)).trans (by rw[hm1])
 have e2:scat ok d1=some m2:=(scat_of hA (by omega)).trans (by rw[hm2])
 cbv
 refine cva rfl hg rfl rfl hXo ?_
 rintro _ _ _ rfl
 refine⟨trivial,?_⟩
 cbv
 refine cva rfl hg rfl rfl hXi ?_
 rintro _ _ _ rfl
 refine⟨trivial,?_⟩
 cbv
 rw[e1]
 cbv
 refine cva rfl hg rfl rfl hO1 ?_
 rintro _ _ _ rfl
 refine⟨trivial,?_⟩
 cbv
 rw[e2]
 cbv
 refine cva rfl hg rfl rfl hO2 ?_
 rintro _ _ _ rfl
 refine⟨trivial,?_⟩
 cbv
 exact hK _ _ _ rfl
end Go.Proofs.YtdhmihfefgcbeaaGreat
