/-
  This text proves what these texts prove: Px, Py. Conditions: those of each theorem.
-/
import Derived.Test.YtdhmihfefgcbeaaGreatT24
set_option maxHeartbeats 8000000
set_option linter.all false
namespace Go.Proofs.YtdhmihfefgcbeaaGreat
open Go.Vg Go.RowKit
set_option maxRecDepth 200000
set_option cbv.maxSteps 100000000
section
variable {P:Program}(hP:P=Tryz.prog){H:Nat->Nat->List SV}{S:Nat->Nat}(hs:HS H S)
include hP hs
theorem mMake(k nP nA nB nX nY cP cA cB cX cY:Nat)(r0 r1 r2 r4 r5:List SV)(b0:∀m,bdLB m r0=true)(b1:∀m,bdLB m r1=true)(b2:∀m,bdLB m r2=true)(b4:∀m,bdLB m r4=true)(b5:∀m,bdLB m r5=true){n nc:Nat}(hn:n<4294967296^nc)(hn18:n<4294967296^18)(bits:Nat)(hb:IsBl n bits)(hb2:1<=bits/\bits<=576)(z:Nat)(hz:z=(bits+7)/8)(s8:Nat)(hs8:s8=8*z-bits)
 (kb vb:ByteArray) (ct:Nat) (hks:kb.size=Sh.size 2) (hvs:vb.size=Sh.size 2) (hct:ct<2^30) (R:Nat×Nat×Nat×Sh.Dr) (hR:R=mkS z s8 n 64 ⟨2,bl kb,bl vb,ct⟩) (k' v':ByteArray) (hk':bl k'=R.2.2.2.k) (hv':bl v'=R.2.2.2.v):
 Con P 31 [.agg (cvS k (.slice 0 0 nP cP) (.slice 1 0 nA cA) (.slice 2 0 nB cB) (.slice 3 0 (S n) nc) (.slice 4 0 nX cX) (.slice 5 0 nY cY)),.ptr 6 0]
  [⟨0,r0,58⟩,⟨1,r1,58⟩,⟨2,r2,58⟩,⟨3,H n nc,58⟩,⟨4,r4,58⟩,⟨5,r5,58⟩,⟨6,[.int .i64 (.ofNat 2),.str kb,.str vb,.int .i64 (.ofNat ct)],73⟩] 7 [6]
  (fun w L q=>(R.2.2.1≠0/\w= .tup [.nils,.int .i64 (.ofNat R.2.1),.int .i64 (.ofNat R.2.2.1)]/\L=[⟨6,[.int .i64 (.ofNat 2),.str k',.str v',.int .i64 (.ofNat R.2.2.2.n)],73⟩]/\q=7)\/
   (∃dc,R.2.2.1=0/\R.1<4294967296^dc/\w= .tup [.slice 7 0 (S R.1) dc,.int .i64 (.ofNat R.2.1),.int .i64 (.ofNat R.2.2.1)]/\L=[⟨6,[.int .i64 (.ofNat 2),.str k',.str v',.int .i64 (.ofNat R.2.2.2.n)],73⟩,⟨7,H R.1 dc,58⟩]/\q=8)):=by
 have b3:∀m,bdLB m (H n nc)=true:=fun m=>hs.b m n nc
 have hN0:0<n:=by
  have:=hb.2 hb2.1
  have h2:=Nat.two_pow_pos (bits-1)
  omega
 obtain⟨tr,htr⟩:=exq R.2.1
 obtain⟨co,hco⟩:=exq R.2.2.1
 obtain⟨nr,hnr⟩:=exq R.2.2.2.n
 obtain⟨rk,hrk⟩:=exq R.1
 rw[<-htr,<-hco,<-hnr,<-hrk]
 suffices raw:Con P 31 [.agg (cvS k (.slice 0 0 nP cP) (.slice 1 0 nA cA) (.slice 2 0 nB cB) (.slice 3 0 (S n) nc) (.slice 4 0 nX cX) (.slice 5 0 nY cY)),.ptr 6 0]
  [⟨0,r0,58⟩,⟨1,r1,58⟩,⟨2,r2,58⟩,⟨3,H n nc,58⟩,⟨4,r4,58⟩,⟨5,r5,58⟩,⟨6,[.int .i64 (.ofNat 2),.str kb,.str vb,.int .i64 (.ofNat ct)],73⟩] 7 [6]
  (fun w L q=>find L 6=some ⟨6,[.int .i64 (.ofNat 2),.str k',.str v',.int .i64 (.ofNat nr)],73⟩/\((co≠0/\w= .tup [.nils,.int .i64 (.ofNat tr),.int .i64 (.ofNat co)])\/
   (∃dc,co=0/\rk<4294967296^dc/\w= .tup [.slice 8 0 (S rk) dc,.int .i64 (.ofNat tr),.int .i64 (.ofNat co)]/\find L 8=some ⟨8,H rk dc,58⟩)))from by
  refine raw.weak fun w L q ⟨h1,h2⟩=> ?_
  rcases h2 with⟨h2,rfl⟩|⟨dc,h2,h3,rfl,h4⟩
  ·exact⟨_root_.id,.tup [.nils,.int .i64 (.ofNat tr),.int .i64 (.ofNat co)],[⟨6,[.int .i64 (.ofNat 2),.str k',.str v',.int .i64 (.ofNat nr)],73⟩],7,weak_id ⟨rfl,rfl,trivial⟩ ⟨h1,rfl,rfl,trivial⟩ rfl rfl,Or.inl ⟨h2,rfl,rfl,rfl⟩⟩
  ·have vD:∀m,bdLB m (H rk dc)=true:=fun m=>hs.b m rk dc
   exact⟨fun l=>if l=7 then 8 else l,.tup [.slice 7 0 (S rk) dc,.int .i64 (.ofNat tr),.int .i64 (.ofNat co)],[⟨6,[.int .i64 (.ofNat 2),.str k',.str v',.int .i64 (.ofNat nr)],73⟩,⟨7,H rk dc,58⟩],8,wkr ⟨rfl,rfl,trivial⟩ ⟨h1,rfl,rfl,rfl,by rw[rcl _ (vD 0)];exact h4,rfl,rfl,vD 8,trivial⟩ rfl rfl rfl,Or.inr ⟨dc,h2,h3,rfl,rfl,rfl⟩⟩
 refine cof hP Tryz.func31 ⟨⟨trivial,blq rfl,blq rfl,blq rfl,blq rfl,blq rfl,blq rfl,trivial⟩,blq rfl,trivial⟩ (by simpa [bdL,bd]using⟨bdb _ (b0 7),bdb _ (b1 7),bdb _ (b2 7),bdb _ (b3 7),bdb _ (b4 7),bdb _ (b5 7)⟩) ?_
 intro A g K hA hg hK
 obtain⟨bin,_,cmp⟩:=A
 have e0:cmp .neq 0 0=false:=neq_f hA (a:=0) (b:=0) rfl
 have e1:cmp .neq 1103 0=true:=neq_t hA (a:=1103) (b:=0) (by decide)
 have f1:∀i,i<64->cmp .lss (.ofNat i) 64=true:=fun i h=>lss_t hA (b:=64) h
 have f2:cmp .lss (.ofNat 64) 64=false:=lss_f hA (a:=64) (b:=64) (by omega)
 have f3:∀i,i<64->bin .add .i64 (.ofNat i) 1=Int.ofNat (i+1):=fun i h=>add_of hA (by omega)
 cbv
 refine lpb (Nat×ByteArray×ByteArray×Nat) (fun σ=>σ.1<=64/\σ.2.1.size=Sh.size 2/\σ.2.2.1.size=Sh.size 2/\σ.2.2.2<=ct+σ.1/\R=((mkS z s8 n (64-σ.1) ⟨2,bl σ.2.1,bl σ.2.2.1,σ.2.2.2⟩).1,(mkS z s8 n (64-σ.1) ⟨2,bl σ.2.1,bl σ.2.2.1,σ.2.2.2⟩).2.1+σ.1,(mkS z s8 n (64-σ.1) ⟨2,bl σ.2.1,bl σ.2.2.1,σ.2.2.2⟩).2.2.1,(mkS z s8 n (64-σ.1) ⟨2,bl σ.2.1,bl σ.2.2.1,σ.2.2.2⟩).2.2.2)) (fun σ=>64-σ.1)
  (fun σ=> [(7,.int .i64 (.ofNat σ.1))]) [0,1,2] (fun σ=> [(6,[.int .i64 (.ofNat 2),.str σ.2.1,.str σ.2.2.1,.int .i64 (.ofNat σ.2.2.2)])]) (0,kb,vb,ct) ⟨Nat.zero_le _,hks,hvs,Nat.le_refl _,by rw[hR];rfl⟩ ?_ ?_
 ·exact wkih (by repeat' (first|exact trivial|refine⟨rfl,rfl,rfl,?_⟩|refine⟨rfl,rfl,b0 8,?_⟩|refine⟨rfl,rfl,b1 8,?_⟩|refine⟨rfl,rfl,b2 8,?_⟩|refine⟨rfl,rfl,b3 8,?_⟩|refine⟨rfl,rfl,b4 8,?_⟩|refine⟨rfl,rfl,b5 8,?_⟩))
 rintro⟨i,k1,v1,n1⟩ ⟨hi,hk1,hv1,hn1,hRi⟩
 change i<=64 at hi
 change k1.size=Sh.size 2 at hk1
 change v1.size=Sh.size 2 at hv1
 change n1<=ct+i at hn1
 change R=((mkS z s8 n (64-i) ⟨2,bl k1,bl v1,n1⟩).1,(mkS z s8 n (64-i) ⟨2,bl k1,bl v1,n1⟩).2.1+i,(mkS z s8 n (64-i) ⟨2,bl k1,bl v1,n1⟩).2.2.1,(mkS z s8 n (64-i) ⟨2,bl k1,bl v1,n1⟩).2.2.2)at hRi
 by_cases hlt:i<64
 ·rw[show 64-i=(64-(i+1))+1 by omega,mkS]at hRi
  by_cases h64:64<n1
  ·rw[if_pos (show 64<(⟨2,bl k1,bl v1,n1⟩:Sh.Dr).n from h64)]at hRi
   have hT:=mTryE hP hs k nP nA nB nX nY cP cA cB cX cY r0 r1 r2 r4 r5 b0 b1 b2 b4 b5 hn hn18 bits hb hb2 z hz 2 k1 v1 n1 h64 (by omega)
   have q1:tr=i:=by rw[htr,hRi];show 0+i=i;omega
   have q2:co=2402:=by rw[hco,hRi]
   have q3:nr=n1:=by rw[hnr,hRi]
   have q4:k'=k1:=bl_inj (by rw[hk',hRi])
   have q5:v'=v1:=bl_inj (by rw[hv',hRi])
   clear hk' hv'
   subst q1 q2 q3 q4 q5
   cbv
   rw[f1 _ hlt]
   cbv
   refine cro rfl hg rfl rfl hT _root_.id rfl (ft7 (b0 0) (b1 0) (b2 0) (b3 0) (b4 0) (b5 0) rfl rfl rfl rfl rfl rfl rfl rfl) ?_
   rintro _ _ _ rfl
   refine⟨by simp[bd,bdL],by simp[bd,bdL,ren,renL],?_⟩
   cbv
   rw[e1]
   cbv
   exact hK _ _ _ ⟨rfl,Or.inl ⟨by decide,rfl⟩⟩
  ·rw[if_neg (show ¬64<(⟨2,bl k1,bl v1,n1⟩:Sh.Dr).n from h64)]at hRi
   have hok1:Sh.Ok ⟨2,bl k1,bl v1,n1⟩:=⟨(by show 1<=2/\2<=4;decide),by rw[bll,hk1],by rw[bll,hv1],bl_lt k1,bl_lt v1⟩
   obtain⟨t,ht⟩:=exq (tryD z s8 ⟨2,bl k1,bl v1,n1⟩)
   have hok2:Sh.Ok t.2:=by rw[ht];exact generate_ok hok1 z
   have ht2:t.2.id=2/\t.2.n=n1+1:=by rw[ht];exact generate_n ⟨2,bl k1,bl v1,n1⟩ z
   obtain⟨k2,hk2⟩:∃x,bl x=t.2.k:=⟨mkB t.2.k,bmk hok2.kb⟩
   obtain⟨v2,hv2⟩:∃x,bl x=t.2.v:=⟨mkB t.2.v,bmk hok2.vb⟩
   have htD:t.2=⟨2,bl k2,bl v2,n1+1⟩:=by rw[hk2,hv2,<-ht2.1,<-ht2.2]
   have hk2s:k2.size=Sh.size 2:=by rw[<-bll,hk2,hok2.kl,ht2.1]
   have hv2s:v2.size=Sh.size 2:=by rw[<-bll,hv2,hok2.vl,ht2.1]
   obtain⟨d,hd⟩:=exq t.1
   obtain⟨r,hr⟩:=exq ((decide (d≠0)&&decide (d<n)):Bool)
   have hT:=mTry hP hs k nP nA nB nX nY cP cA cB cX cY r0 r1 r2 r4 r5 b0 b1 b2 b4 b5 hn hn18 bits hb hb2 z hz s8 hs8 k1 v1 n1 hk1 hv1 (by omega) k2 v2 (by rw[hk2,ht]) (by rw[hv2,ht]) d (by rw[hd,ht]) r hr
   rw[<-ht,<-hd]at hRi
   cases r with
   |true=>
    have h2:d≠0/\d<n:=by simpa using hr.symm
    rw[if_pos h2]at hRi
    rcases hT with⟨hf,_⟩|⟨dc,hdc,_,hT⟩
    ·cases hf
    have q1:tr=i+1:=by rw[htr,hRi];show 1+i=i+1;omega
    have q2:co=0:=by rw[hco,hRi]
    have q3:nr=n1+1:=by rw[hnr,hRi];exact ht2.2
    have q4:k'=k2:=bl_inj (by rw[hk',hRi,hk2])
    have q5:v'=v2:=bl_inj (by rw[hv',hRi,hv2])
    have q6:rk=d:=by rw[hrk,hRi]
    have vD:∀m,bdLB m (H d dc)=true:=fun m=>hs.b m d dc
    clear hk' hv' hr ht htD hRi hd hk2 hv2 hok2 hrk htr hco hnr
    subst q1 q2 q3 q4 q5 q6
    cbv
    rw[f1 i hlt]
    cbv
    refine cgn rfl hg rfl rfl hT _root_.id rfl (ft7 (b0 0) (b1 0) (b2 0) (b3 0) (b4 0) (b5 0) rfl rfl rfl rfl rfl rfl rfl rfl) rfl rfl rfl ?_
    rintro _ _ _ ⟨rfl,rfl,rfl⟩ _
    refine⟨rfl,?_⟩
    simp only[renB,rcl _ (vD 0)]
    cbv
    rw[e0]
    cbv
    rw[f3 i hlt]
    cbv
    exact hK _ _ _ ⟨rfl,Or.inr ⟨dc,rfl,hdc,rfl,rfl⟩⟩
   |false=>
    have h2:¬ (d≠0/\d<n):=fun h=>by rw[decide_eq_true h.1,decide_eq_true h.2]at hr;cases hr
    rw[if_neg h2,htD]at hRi
    clear hr ht htD hd hk2 hv2 hok2
    obtain⟨n2,hn2⟩:=exq (n1+1)
    rw[<-hn2]at hT hRi
    have next:i+1<=64/\k2.size=Sh.size 2/\v2.size=Sh.size 2/\n2<=ct+(i+1)/\R=((mkS z s8 n (64-(i+1)) ⟨2,bl k2,bl v2,n2⟩).1,(mkS z s8 n (64-(i+1)) ⟨2,bl k2,bl v2,n2⟩).2.1+(i+1),(mkS z s8 n (64-(i+1)) ⟨2,bl k2,bl v2,n2⟩).2.2.1,(mkS z s8 n (64-(i+1)) ⟨2,bl k2,bl v2,n2⟩).2.2.2):=
     ⟨hlt,hk2s,hv2s,by omega,by rw[hRi];simp only[Nat.add_assoc,Nat.add_comm 1 i]⟩
    clear hRi
    cbv
    rw[f1 i hlt]
    cbv
    rcases hT with⟨_,hT⟩|⟨dc,hdc,_,hT⟩
    ·refine cgn rfl hg rfl rfl hT _root_.id rfl (ft7 (b0 0) (b1 0) (b2 0) (b3 0) (b4 0) (b5 0) rfl rfl rfl rfl rfl rfl rfl rfl) rfl rfl rfl ?_
     rintro _ _ _ ⟨rfl,rfl,rfl⟩ _
     refine⟨rfl,?_⟩
     cbv
     rw[e0]
     cbv
     rw[f3 i hlt]
     refine⟨(i+1,k2,v2,n2),_root_.id,next,(by show 64-(i+1)<64-i;omega),?_⟩
     exact wkih (by repeat' (first|exact trivial|refine⟨rfl,rfl,rfl,?_⟩|refine⟨rfl,rfl,b0 8,?_⟩|refine⟨rfl,rfl,b1 8,?_⟩|refine⟨rfl,rfl,b2 8,?_⟩|refine⟨rfl,rfl,b3 8,?_⟩|refine⟨rfl,rfl,b4 8,?_⟩|refine⟨rfl,rfl,b5 8,?_⟩))
    ·have vD:∀m,bdLB m (H d dc)=true:=fun m=>hs.b m d dc
     refine cgn rfl hg rfl rfl hT _root_.id rfl (ft7 (b0 0) (b1 0) (b2 0) (b3 0) (b4 0) (b5 0) rfl rfl rfl rfl rfl rfl rfl rfl) rfl rfl rfl ?_
     rintro _ _ _ ⟨rfl,rfl,rfl⟩ _
     refine⟨rfl,?_⟩
     simp only[renB,rcl _ (vD 0)]
     cbv
     rw[e0]
     cbv
     rw[f3 i hlt]
     refine⟨(i+1,k2,v2,n2),_root_.id,next,(by show 64-(i+1)<64-i;omega),?_⟩
     exact wkih (by repeat' (first|exact trivial|refine⟨rfl,rfl,rfl,?_⟩|refine⟨rfl,rfl,b0 8,?_⟩|refine⟨rfl,rfl,b1 8,?_⟩|refine⟨rfl,rfl,b2 8,?_⟩|refine⟨rfl,rfl,b3 8,?_⟩|refine⟨rfl,rfl,b4 8,?_⟩|refine⟨rfl,rfl,b5 8,?_⟩))
 ·obtain rfl:i=64:=by omega
  have q1:tr=64:=by rw[htr,hRi];show 0+64=64;omega
  have q2:co=2403:=by rw[hco,hRi];rfl
  have q3:nr=n1:=by rw[hnr,hRi];rfl
  have q4:k'=k1:=bl_inj (by rw[hk',hRi];rfl)
  have q5:v'=v1:=bl_inj (by rw[hv',hRi];rfl)
  clear hk' hv' hRi hrk htr hco hnr
  subst q1 q2 q3 q4 q5
  cbv
  rw[f2]
  cbv
  exact hK _ _ _ ⟨rfl,Or.inl ⟨by decide,rfl⟩⟩
end
theorem step_neq_nat{P:Program}(hP:P=Tryz.prog){g:G}{F:FF}{L:LL}{n:Nat}{o:Oper}{x y:Operand}{yt:TypeId}(ho:o.op= .binOp .neq 25 x y yt){m0 N:Nat}{ms:List Nat}(hg:GI g m0 ms N)(hd':dstLt N o.dst=true){a b:Nat->Nat}{r:Bool}(hr:r= !eq9 a b)
 (hx:ev (Vg.look F) x=some (.agg (ws a 9))) (hy:ev (Vg.look F) y=some (.agg (ws b 9))) {K:FF->LL->Nat->Prop} (hK:K (putO F o.dst (.bool r)) L n):Step g P o K F L n:=by
 subst hP hr
 refine step_val hg hd' (fun β act W hm hf=> ?_) hK
 obtain⟨e1,_⟩:=evd hf hx
 obtain⟨e2,_⟩:=evd hf hy
 refine⟨?_,trivial⟩
 have h1:act.eval x= .agg (vals9 a):=e1
 have h2:act.eval y= .agg (vals9 b):=e2
 have h4:Tryz.prog.eqGuardType Tryz.prog.depth 25=false:=by kernel_rfl
 have h3:∀xs ys,(eqGuard .neq 25 x y (.agg xs) (.agg ys)).run Tryz.prog W= .ok () W:=fun xs ys=>run_eqGuard_agg W .neq 25 x y xs ys h4
 unfold execOp
 simp only[ho,h1,h2,Sem.run_bind,h3,Result.andThen_ok,run_neq_struct,eq_nat9,Sem.run_pure,den]
theorem and63{A:Ar}(hA:A=Ar.real)(x:Int):∃w:Nat,w<=63/\A.bin .and .i64 x 63=Int.ofNat w:=by
 have h0:(BitVec.ofInt 64 x&&&BitVec.ofInt 64 63).toNat<=63:=by
  rw[BitVec.toNat_and];exact Nat.le_trans Nat.and_le_right (by decide)
 refine⟨(BitVec.ofInt 64 x&&&BitVec.ofInt 64 63).toNat,h0,?_⟩
 rw[bin_of hA]
 exact cvtI (A:=Ar.real) rfl (k:= .i64) (fun _=>Nat.lt_of_le_of_lt h0 (by decide)) (fun h=>by cases h)
def cvN(x:Int):Nat:=if 1<=x/\x<=15 then x.toNat else 0
theorem cvN_cases(x:Int):(cvN x=0/\∀k:Nat,1<=k->k<=15->x≠Int.ofNat k)\/(1<=cvN x/\cvN x<=15/\x=Int.ofNat (cvN x)):=by
 unfold cvN
 by_cases h:1<=x/\x<=15
 ·right
  rw[if_pos h]
  refine⟨by omega,by omega,?_⟩
  show x=((x.toNat:Nat):Int)
  omega
 ·left
  rw[if_neg h]
  refine⟨rfl,fun k h1 h2 e=>h ?_⟩
  have:x=(k:Int):=e
  omega
def stM(bf:Nat->Nat)(ea:Nat->Int)(D:Sh.Dr):Nat->Sh.Dr
 |0=>D
 |i+1=>if cvN (ea i)=0 then stM bf ea D i else(mkS ((bf (cvN (ea i))+7)/8) (8*((bf (cvN (ea i))+7)/8)-bf (cvN (ea i))) (EC.cn (cvN (ea i))) 64 (stM bf ea D i)).2.2.2
theorem stM_ok{bf:Nat->Nat}(hbf:∀c,IsBl (EC.cn c) (bf c))(ea:Nat->Int){D:Sh.Dr}(h:Sh.Ok D):∀i,Sh.Ok (stM bf ea D i)/\(stM bf ea D i).id=D.id/\(stM bf ea D i).n<=D.n+64*i
 |0=>⟨h,rfl,Nat.le_add_right _ _⟩
 |i+1=>by
  obtain⟨h1,h2,h3⟩:=stM_ok hbf ea h i
  unfold stM
  by_cases hc:cvN (ea i)=0
  ·rw[if_pos hc];exact⟨h1,h2,by omega⟩
  ·rw[if_neg hc]
   have hcc:1<=cvN (ea i)/\cvN (ea i)<=15:=by
    rcases cvN_cases (ea i)with⟨h,_⟩|⟨h,h',_⟩
    ·exact absurd h hc
    ·exact⟨h,h'⟩
   have hb:=hbf (cvN (ea i))
   have hb2:=bits_all hcc hb
   have hN0:0<EC.cn (cvN (ea i)):=by
    have:=hb.2 hb2.1
    have h2:=Nat.two_pow_pos (bf (cvN (ea i))-1)
    omega
   obtain⟨m1,m2,m3,_,_⟩:=mkS_ok ((bf (cvN (ea i))+7)/8) (8*((bf (cvN (ea i))+7)/8)-bf (cvN (ea i))) (EC.cn (cvN (ea i))) hN0 64 h1
   exact⟨m1,by rw[m2,h2],by omega⟩
theorem mkS_err(sz sh N:Nat):∀f (D:Sh.Dr),(mkS sz sh N f D).2.2.1≠0->(mkS sz sh N f D).1=0
 |0,_,_=>rfl
 |f+1,D,h=>by
  unfold mkS at h⊢
  split at h
  ·rename_i h1;rw[if_pos h1]
  ·rename_i h1
   rw[if_neg h1]
   split at h
   ·exact absurd rfl h
   ·rename_i h2
    rw[if_neg h2]
    exact mkS_err sz sh N f _ h
theorem cKeyMakes{P:Program}(hP:P=Tryz.prog){t:TypeId}(o n c:Nat)(hn62:n<2^62)(E:List SV)(ea:Nat->Int)(hEj:∀j,j<n->E[o+j]? =some (.int .i64 (ea j)))(bE:∀m,bdLB m E=true)(s:ByteArray)(hs:s.size<2^62)(before:Int):
 Con P 7 [.slice 0 o n c,.str s,.int .i64 before] [⟨0,E,t⟩] 1 [] (fun v _ _=>v= .bool true):=by
 obtain⟨H,hH⟩:=exq (fun x c=>Vg.hs (dg x) c:Nat->Nat->List SV)
 obtain⟨S,hS⟩:=exq (Vg.sz:Nat->Nat)
 have hs':HS H S:=⟨hH,hS⟩
 clear hH hS
 obtain⟨bf,hbf⟩:∃f:Nat->Nat,∀c,IsBl (EC.cn c) (f c):=⟨fun c=>(bl_ex (EC.cn c)).choose,fun c=>(bl_ex (EC.cn c)).choose_spec⟩
 obtain⟨D,hD⟩:=exq (Sh.new 2 (seedL (bl s)))
 have hDo:Sh.Ok D:=by rw[hD];exact Sh.Ok.new (by decide) _
 have hDi:D.id=2:=by rw[hD];exact Sh.upd_id _ _
 have hDn:D.n=1:=by rw[hD];exact Sh.upd_n _ _
 have hAw:=cAwake hP
 have hN:=fun x=>cNum hP x
 -- the generators' states while they are warmed
 have gok:=genN_ok 1 hDo
 have gn':=genN_n 1 D
 obtain⟨kk,hkk⟩:=exq (fun i=>mkB (genN 1 D i).k:Nat->ByteArray)
 obtain⟨vv,hvv⟩:=exq (fun i=>mkB (genN 1 D i).v:Nat->ByteArray)
 obtain⟨rr,hrr⟩:=exq (fun i=>mkB (Sh.generate (genN 1 D i) 1 []).1:Nat->ByteArray)
 have bk:∀i,bl (kk i)=(genN 1 D i).k:=fun i=>by rw[hkk];exact bmk (gok i).kb
 have bv:∀i,bl (vv i)=(genN 1 D i).v:=fun i=>by rw[hvv];exact bmk (gok i).vb
 have ks:∀i,(kk i).size=Sh.size 2:=fun i=>by rw[<-bll,bk,(gok i).kl,(gn' i).1,hDi]
 have vs:∀i,(vv i).size=Sh.size 2:=fun i=>by rw[<-bll,bv,(gok i).vl,(gn' i).1,hDi]
 have hGb:∀i,∀y∈(Sh.generate (genN 1 D i) 1 []).1,y<256:=fun i y hy=>by
  unfold Sh.generate at hy
  exact Sh.gen_b _ _ _ _ y (List.mem_of_mem_take hy)
 have br:∀i,bl (rr i)=(Sh.generate (genN 1 D i) 1 []).1:=fun i=>by rw[hrr];exact bmk (hGb i)
 obtain⟨ct,hct⟩:=exq (fun i=>1+i:Nat->Nat)
 have eD:∀i,(⟨2,bl (kk i),bl (vv i),ct i⟩:Sh.Dr)=genN 1 D i:=fun i=>by
  obtain⟨h1,h2⟩:=gn' i
  rw[hDi]at h1
  rw[hDn]at h2
  rw[bk,bv,hct]
  generalize genN 1 D i=Z at h1 h2
  cases Z
  simp only at h1 h2
  subst h1 h2
  rfl
 have hSe:=cSeeded hP s (kk 0) (vv 0) hs (by rw[bk,<-hD];rfl) (by rw[bv,<-hD];rfl)
 have c0:ct 0=1:=by rw[hct]
 have hGe:∀i,i<63->Con P 29 [.ptr 0 0,.int .i64 (.ofNat 1),.str ⟨#[]⟩] [⟨0,[.int .i64 (.ofNat 2),.str (kk i),.str (vv i),.int .i64 (.ofNat (ct i))],100⟩] 1 [0] (fun w L q=>w= .tup [.str (rr i),.int .i64 0]/\L=[⟨0,[.int .i64 (.ofNat 2),.str (kk (i+1)),.str (vv (i+1)),.int .i64 (.ofNat (ct (i+1)))],100⟩]/\q=1):=fun i h=>by
  have h3:=cDGen hP 2 (by decide) (kk i) (vv i) ⟨#[]⟩ (ct i) 1 (ks i) (vs i) (by decide) (by decide) (by rw[hct];show 1+i<=64;omega) (rr i) (kk (i+1)) (vv (i+1)) (by rw[eD,br];rfl) (by rw[eD,bk];rfl) (by rw[eD,bv];rfl)
  rw[show ct i+1=ct (i+1)from by rw[hct];show 1+i+1=1+(i+1);omega]at h3
  exact h3
 have hRe:∀i,i<63->Con P 30 [.ptr 0 0,.int .i64 (.ofNat 1),.str ⟨#[]⟩] [⟨0,[.int .i64 (.ofNat 2),.str (kk i),.str (vv i),.int .i64 (.ofNat (ct i))],73⟩] 1 [0] (fun w L q=>w= .tup [.str (rr i),.int .i64 0]/\L=[⟨0,[.int .i64 (.ofNat 2),.str (kk (i+1)),.str (vv (i+1)),.int .i64 (.ofNat (ct (i+1)))],73⟩]/\q=1):=fun i h=>by
  have h3:=cRGen hP 2 (by decide) (ro32 hP (Or.inr rfl)) (kk i) (vv i) ⟨#[]⟩ (ct i) 1 (ks i) (vs i) (by decide) (by decide) (by rw[hct];show 1+i<=64;omega) (rr i) (kk (i+1)) (vv (i+1)) (by rw[eD,br];rfl) (by rw[eD,bk];rfl) (by rw[eD,bv];rfl)
  rw[show ct i+1=ct (i+1)from by rw[hct];show 1+i+1=1+(i+1);omega]at h3
  exact h3
 -- the generators' states from curve to curve
 have next:∀w,w<=63->∃ (k2 v2:Nat->ByteArray) (c2:Nat->Nat),k2 0=kk w/\v2 0=vv w/\c2 0=ct w/\(∀i,i<20->(cvN (ea i)=0->k2 (i+1)=k2 i/\v2 (i+1)=v2 i/\c2 (i+1)=c2 i)/\(cvN (ea i)≠0->∀R,R=mkS ((bf (cvN (ea i))+7)/8) (8*((bf (cvN (ea i))+7)/8)-bf (cvN (ea i))) (EC.cn (cvN (ea i))) 64 ⟨2,bl (k2 i),bl (v2 i),c2 i⟩->bl (k2 (i+1))=R.2.2.2.k/\bl (v2 (i+1))=R.2.2.2.v/\c2 (i+1)=R.2.2.2.n))/\(∀i,(k2 i).size=Sh.size 2/\(v2 i).size=Sh.size 2)/\∀i,i<=20->c2 i<2^30:=fun w hw=>by
  have so:=stM_ok hbf ea (gok w)
  have e2:∀i,(⟨2,bl (mkB (stM bf ea (genN 1 D w) i).k),bl (mkB (stM bf ea (genN 1 D w) i).v),(stM bf ea (genN 1 D w) i).n⟩:Sh.Dr)=stM bf ea (genN 1 D w) i:=fun i=>by
   obtain⟨h1,h2,_⟩:=so i
   rw[bmk h1.kb,bmk h1.vb]
   have h3:(stM bf ea (genN 1 D w) i).id=2:=by rw[h2,(gn' w).1,hDi]
   rw[<-h3]
  refine⟨fun i=>mkB (stM bf ea (genN 1 D w) i).k,fun i=>mkB (stM bf ea (genN 1 D w) i).v,fun i=>(stM bf ea (genN 1 D w) i).n,?_,?_,?_,?_,?_,?_⟩
  ·rw[hkk];rfl
  ·rw[hvv];rfl
  ·rw[hct];show(genN 1 D w).n=1+w;rw[(gn' w).2,hDn]
  ·refine fun i hi=>⟨fun h=> ?_,fun h R hR=> ?_⟩
   ·have:stM bf ea (genN 1 D w) (i+1)=stM bf ea (genN 1 D w) i:=by show(if cvN (ea i)=0 then _ else _)=_;rw[if_pos h]
    simp only[this,and_self]
   ·rw[e2]at hR
    have:stM bf ea (genN 1 D w) (i+1)=R.2.2.2:=by show(if cvN (ea i)=0 then _ else _)=_;rw[if_neg h,hR]
    have h1:=(so (i+1)).1
    rw[this]at h1
    simp only[this]
    exact⟨bmk h1.kb,bmk h1.vb,trivial⟩
  ·intro i
   obtain⟨h1,h2,_⟩:=so i
   have h3:(stM bf ea (genN 1 D w) i).id=2:=by rw[h2,(gn' w).1,hDi]
   exact⟨by rw[<-bll,bmk h1.kb,h1.kl,h3],by rw[<-bll,bmk h1.vb,h1.vl,h3]⟩
  ·intro i hi
   have h3:=(so i).2.2
   have h4:(genN 1 D w).n=1+w:=by rw[(gn' w).2,hDn]
   show(stM bf ea (genN 1 D w) i).n<2^30
   omega
 clear bk bv eD hkk hvv hrr br hGb gok gn'
 refine cof hP Tryz.func7 ⟨Nat.zero_lt_succ _,trivial,trivial,trivial⟩ (by simpa using bdb _ (bE 1)) ?_
 intro A g K hA hg hK
 obtain⟨bin,_,cmp,_,_,ix,_,_,bnot,_,_,_,_,_,nat,off,get⟩:=A
 have e1:bnot true=false:=bnot_of hA true
 have e1f:bnot false=true:=bnot_of hA false
 obtain⟨w,hw,hwb⟩:=and63 hA before
 have hwb':bin .and .i64 before 63=Int.ofNat w:=hwb
 have en:nat n=Int.ofNat n:=nat_of hA n
 have f1:∀i,i<w->cmp .lss (.ofNat i) (.ofNat w)=true:=fun i h=>lss_t hA h
 have f2:cmp .lss (.ofNat w) (.ofNat w)=false:=lss_f hA (Nat.lt_irrefl w)
 have f3:∀i,i<63->bin .add .i64 (.ofNat i) 1=Int.ofNat (i+1):=fun i h=>add_of hA (by omega)
 cbv
 refine cgn rfl hg rfl rfl hSe _root_.id rfl trivial rfl rfl rfl ?_
 rintro _ _ _ ⟨rfl,rfl,rfl⟩ _
 refine⟨rfl,?_⟩
 cbv
 rw[e1]
 cbv
 refine lpb Nat (fun i=>i<=w) (fun i=>w-i) (fun i=> [(10,.int .i64 (.ofNat i))]) [0,2,7,8] (fun i=> [(1,[.int .i64 (.ofNat 2),.str (kk i),.str (vv i),.int .i64 (.ofNat (ct i))]),(2,[.int .i64 (.ofNat 2),.str (kk i),.str (vv i),.int .i64 (.ofNat (ct i))])]) 0 (Nat.zero_le _) ?_ ?_
 ·rw[c0]
  exact wkih (by repeat' (first|exact trivial|refine⟨rfl,rfl,rfl,?_⟩|refine⟨rfl,rfl,bE 3,?_⟩))
 intro i hi
 by_cases hlt:i<w
 ·have hG:=hGe i (by omega)
  have hR:=hRe i (by omega)
  obtain⟨cn,hcn⟩:=exq (ct (i+1))
  obtain⟨k1,hk1⟩:=exq (kk (i+1))
  obtain⟨v1,hv1⟩:=exq (vv (i+1))
  rw[<-hcn,<-hk1,<-hv1]at hG hR
  cbv
  rw[hwb',f1 i hlt]
  cbv
  refine cgn rfl hg rfl rfl hG (fun _=>1) rfl ⟨rfl,trivial⟩ rfl rfl rfl ?_
  rintro _ _ _ ⟨rfl,rfl,rfl⟩ _
  refine⟨rfl,?_⟩
  cbv
  refine cgn rfl hg rfl rfl hR (fun _=>2) rfl ⟨rfl,trivial⟩ rfl rfl rfl ?_
  rintro _ _ _ ⟨rfl,rfl,rfl⟩ _
  refine⟨rfl,?_⟩
  cbv
  rw[f3 i (by omega)]
  refine⟨i+1,_root_.id,hlt,(by show w-(i+1)<w-i;omega),?_⟩
  rw[hcn,hk1,hv1]
  exact wkih (by repeat' (first|exact trivial|refine⟨rfl,rfl,rfl,?_⟩|refine⟨rfl,rfl,bE 3,?_⟩))
 ·have hiw:i=w:=by omega
  subst hiw
  cbv
  rw[hwb',f2]
  cbv
  obtain⟨k2,v2,c2,k20,v20,c20,hst,hsz,hcs⟩:=next i hw
  obtain⟨m,hm⟩:=exq (min n 20)
  have g1:∀j,j<m->cmp .lss (.ofNat j) (.ofNat n)=true:=fun j h=>lss_t hA (by omega)
  have g2:∀j,j<m->cmp .lss (.ofNat j) 20=true:=fun j h=>lss_t hA (b:=20) (by omega)
  have g3:∀j,j<m->bin .add .i64 (.ofNat j) 1=Int.ofNat (j+1):=fun j h=>add_of hA (by omega)
  have g4:∀j,j<m->ix (.ofNat j) n=some j:=fun j h=>ix_of hA (by omega)
  have g5:∀j,off o j 1=o+j:=fun j=>(off_of hA o j 1).trans (by omega)
  have g6:∀j,j<m->get E (o+j)=some (.int .i64 (ea j)):=fun j h=>(get_of hA _ _).trans (hEj j (by omega))
  have t0:cmp .neq 0 0=false:=neq_f hA (a:=0) (b:=0) rfl
  have t1:cmp .neq 2400 2400=false:=neq_f hA (a:=2400) (b:=2400) rfl
  have t2:∀x:Nat,cmp .neq (.ofNat x) (.ofNat x)=false:=fun x=>neq_f hA (a:=x) (b:=x) rfl
  have q0:false= !eq9 (fun _=>0) (fun _=>0):=by simp[eq9]
  clear hGe hRe hSe next
  refine lpb Nat (fun j=>j<=m) (fun j=>m-j) (fun j=> [(11,.int .i64 (.ofNat j))]) [0,7,8] (fun j=> [(1,[.int .i64 (.ofNat 2),.str (k2 j),.str (v2 j),.int .i64 (.ofNat (c2 j))]),(2,[.int .i64 (.ofNat 2),.str (k2 j),.str (v2 j),.int .i64 (.ofNat (c2 j))])]) 0 (Nat.zero_le _) ?_ ?_
  ·rw[k20,v20,c20]
   exact wkih (by repeat' (first|exact trivial|refine⟨rfl,rfl,rfl,?_⟩|refine⟨rfl,rfl,bE 3,?_⟩))
  intro j hj
  by_cases hjm:j<m
  ·obtain⟨x,hx⟩:=exq (ea j)
   have h6:=g6 j hjm
   obtain⟨k4,hk4⟩:=exq (k2 (j+1))
   obtain⟨v4,hv4⟩:=exq (v2 (j+1))
   obtain⟨c4,hc4⟩:=exq (c2 (j+1))
   obtain⟨k3,hk3⟩:=exq (k2 j)
   obtain⟨v3,hv3⟩:=exq (v2 j)
   obtain⟨c3,hc3⟩:=exq (c2 j)
   have hsj:=hst j (by omega)
   have hzj:=hsz j
   have hcj:=hcs j (by omega)
   rw[<-hx]at h6 hsj
   rw[<-hk3,<-hv3,<-hc3,<-hk4,<-hv4,<-hc4]at hsj
   rw[<-hk3,<-hv3]at hzj
   rw[<-hc3]at hcj
   have em:∀F:Prop,F->F:=fun _ h=>h
   obtain⟨cc,hcc⟩:=exq (cvN x)
   have hcv:=cvN_cases x
   rw[<-hcc]at hsj hcv
   rw[<-hk3,<-hv3,<-hc3]
   cbv
   rw[en,g1 j hjm]
   cbv
   rw[g2 j hjm]
   cbv
   rw[g4 j hjm]
   cbv
   rw[g5 j,h6]
   cbv
   rcases hcv with⟨hc0,hno⟩|⟨hc1,hc2,hxc⟩
   ·obtain⟨p1,p2,p3⟩:=hsj.1 hc0
    have hG0:=mGet0 hP hs' x hno
    have hM0:=cMake0 hP x (primeB_none x hno)
    refine cva rfl hg rfl rfl hG0 ?_
    rintro _ _ _ rfl
    refine⟨by simp[bd,bdL],?_⟩
    cbv
    rw[g4 j hjm]
    cbv
    rw[g5 j,h6]
    cbv
    refine cro rfl hg rfl rfl hM0 (fun _=>1) rfl trivial ?_
    rintro _ _ _ rfl
    refine⟨by simp[bd,bdL,ws,lst],by simp[bd,bdL,ren,renL,ws,lst],?_⟩
    cbv
    rw[e1f]
    cbv
    refine cva rfl hg rfl rfl (hN 2400) ?_
    rintro _ _ _ rfl
    refine⟨trivial,?_⟩
    cbv
    rw[t1]
    cbv
    rw[t0]
    cbv
    refine step_neq_nat hP rfl hg rfl (a:=fun _=>0) (b:=fun _=>0) q0 rfl rfl ?_
    cbv
    rw[g3 j hjm]
    refine⟨j+1,_root_.id,hjm,(by show m-(j+1)<m-j;omega),?_⟩
    rw[<-hk4,<-hv4,<-hc4,p1,p2,p3]
    exact wkih (by repeat' (first|exact trivial|refine⟨rfl,rfl,rfl,?_⟩|refine⟨rfl,rfl,bE 3,?_⟩))
   ·have hc0:cc≠0:=by omega
    obtain⟨bits,hbi⟩:=exq (bf cc)
    have hbl:=hbf cc
    rw[<-hbi]at hbl
    have hbits:=bits_all ⟨hc1,hc2⟩ hbl
    obtain⟨sp,sa,sb,sn,sx,sy⟩:=same_nums ⟨hc1,hc2⟩
    obtain⟨pp,hp⟩:=exq (primeN cc)
    obtain⟨va,hva⟩:=exq (curA cc)
    obtain⟨vb,hvb⟩:=exq (rowB cc)
    obtain⟨nv,hnv⟩:=exq (rowN cc)
    obtain⟨gx,hgx⟩:=exq (rowX cc)
    obtain⟨gy,hgy⟩:=exq (rowY cc)
    obtain⟨pc,ac,bc,nc,xc,yc,bp,ba,bb,bn,bx,by',hGet⟩:=mGet hP hs' cc ⟨hc1,hc2⟩ pp va vb nv gx gy hp hva hvb hnv hgx hgy
    rw[<-hnv]at sn
    have n18:nv<4294967296^18:=by
     rw[<-sn]
     have h:((List.range 16).all fun k=>decide (EC.cn k<4294967296^18))=true:=by decide +kernel
     exact of_decide_eq_true (List.all_eq_true.1 h cc (List.mem_range.2 (by omega)))
    rw[sn]at hbl
    obtain⟨z,hz⟩:=exq ((bits+7)/8)
    obtain⟨s8,hs8⟩:=exq (8*z-bits)
    obtain⟨R,hR⟩:=exq (mkS z s8 nv 64 ⟨2,bl k3,bl v3,c3⟩)
    obtain⟨p1,p2,p3⟩:=hsj.2 hc0 R (by rw[hR,hs8,hz,hbi,sn])
    obtain⟨dk,k',v',wd,vd,hk',hv',_,_,_,_,hMk⟩:=cMake hP cc ⟨hc1,hc2⟩ bits z s8 nv hbl sn.symm hbits hz hs8 2 (by decide) k3 v3 c3 hzj.1 hzj.2 hcj R hR
    obtain rfl:k'=k4:=bl_inj (hk'.trans p1.symm)
    obtain rfl:v'=v4:=bl_inj (hv'.trans p2.symm)
    have vP:∀m,bdLB m (H pp pc)=true:=fun m=>hs'.b m pp pc
    have vA:∀m,bdLB m (H va ac)=true:=fun m=>hs'.b m va ac
    have vB:∀m,bdLB m (H vb bc)=true:=fun m=>hs'.b m vb bc
    have vN:∀m,bdLB m (H nv nc)=true:=fun m=>hs'.b m nv nc
    have vX:∀m,bdLB m (H gx xc)=true:=fun m=>hs'.b m gx xc
    have vY:∀m,bdLB m (H gy yc)=true:=fun m=>hs'.b m gy yc
    have hMM:=mMake hP hs' cc (S pp) (S va) (S vb) (S gx) (S gy) pc ac bc xc yc (H pp pc) (H va ac) (H vb bc) (H gx xc) (H gy yc) vP vA vB vX vY bn n18 bits hbl hbits z hz s8 hs8 k3 v3 c3 hzj.1 hzj.2 hcj R hR k' v' hk' hv'
    have hres:=mkS_res z s8 nv 64 ⟨2,bl k3,bl v3,c3⟩
    rw[<-hR]at hres
    obtain⟨many,hmany⟩:=exq R.2.1
    obtain⟨code,hcode⟩:=exq R.2.2.1
    obtain⟨rk,hrk⟩:=exq R.1
    rw[<-hmany,<-hcode,<-p3]at hMk
    rw[<-hmany,<-hcode,<-hrk,<-p3]at hMM
    rw[<-hcode]at hres
    have hCo:=cDCount hP 2 c4 k' v'
    have hNn:=mNatN hP hs' rfl
    subst hxc
    refine cgn rfl hg rfl rfl hGet _root_.id rfl trivial rfl rfl rfl ?_
    rintro _ _ _ ⟨rfl,rfl,rfl⟩ _
    refine⟨rfl,?_⟩
    simp only[renB,rcl _ (vP 0),rcl _ (vA 0),rcl _ (vB 0),rcl _ (vN 0),rcl _ (vX 0),rcl _ (vY 0)]
    cbv
    rw[g4 j hjm]
    cbv
    rw[g5 j,h6]
    cbv
    refine cgn rfl hg rfl rfl hMk (fun _=>1) rfl ⟨rfl,trivial⟩ rfl rfl rfl ?_
    rintro _ _ _ ⟨rfl,rfl,rfl⟩ _
    refine⟨rfl,?_⟩
    cbv
    rw[e1]
    cbv
    refine cgn rfl hg rfl rfl hMM (fun l=>if l=6 then 2 else l+3) rfl (ft7 (vP 0) (vA 0) (vB 0) (vN 0) (vX 0) (vY 0) rfl rfl rfl rfl rfl rfl rfl rfl) rfl rfl rfl ?_
    rintro _ _ _ hor _
    rcases hor with⟨hce,rfl,rfl,rfl⟩|⟨dc,hce,hdc,rfl,rfl,rfl⟩
    ·have hd0:false= !eq9 dk (fun _=>0):=by
      rw[eq9_V wd (fun _ _=>by show 0<0x10000000000000000;decide),decide_eq_true];· rfl
      rw[vd,<-hrk]
      have h:=mkS_err z s8 nv 64 ⟨2,bl k3,bl v3,c3⟩
      rw[<-hR,<-hcode,<-hrk]at h
      rw[h hce];rfl
     refine⟨rfl,?_⟩
     cbv
     refine reg_A (hP▸tblOk) hA hg (hP▸mixed) rfl rfl ?_
     cbv
     refine sdv hg (hN (Int.ofNat code)) ?_
     cbv
     rw[t2 code]
     cbv
     rw[t2 many]
     cbv
     refine stepD (en_val rfl hg rfl rfl hNn (fun _ _ _ h=>h) (by simp[bd,bdL,ws,lst])) ?_
     cbv
     refine stepD (en_cmp_nat hP hg rfl (a:=dk) (b:=fun _=>0) (r:=false) (Or.inl ⟨rfl,hd0⟩) rfl rfl) ?_
     cbv
     refine stepD (enr rfl hg rfl rfl hCo (fun _=>1) rfl ⟨rfl,trivial⟩ (fun _ _ _ h=>h) trivial) ?_
     cbv
     rw[t2 c4]
     cbv
     rw[g3 j hjm]
     refine⟨j+1,_root_.id,hjm,(by show m-(j+1)<m-j;omega),?_⟩
     rw[<-hk4,<-hv4,<-hc4]
     exact wkih (by repeat' (first|exact trivial|refine⟨rfl,rfl,rfl,?_⟩|refine⟨rfl,rfl,bE 3,?_⟩|refine⟨rfl,rfl,vP 12,?_⟩|refine⟨rfl,rfl,vA 12,?_⟩|refine⟨rfl,rfl,vB 12,?_⟩|refine⟨rfl,rfl,vN 12,?_⟩|refine⟨rfl,rfl,vX 12,?_⟩|refine⟨rfl,rfl,vY 12,?_⟩))
    ·have vR:∀m,bdLB m (H rk dc)=true:=fun m=>hs'.b m rk dc
     have hNt:=mNat hP hs' hdc dk wd (by rw[vd,<-hrk])
     have hd0:false= !eq9 dk dk:=by simp[eq9]
     refine⟨rfl,?_⟩
     simp only[renB,rcl _ (vR 0)]
     cbv
     refine reg_A (hP▸tblOk) hA hg (hP▸mixed) rfl rfl ?_
     cbv
     refine sdv hg (hN (Int.ofNat code)) ?_
     cbv
     rw[t2 code]
     cbv
     rw[t2 many]
     cbv
     refine stepD (enr rfl hg rfl rfl hNt (fun _=>11) rfl (ftM (vR 0) rfl) (fun _ _ _ h=>h) (by simp[bd,bdL,ws,lst])) ?_
     cbv
     refine stepD (en_cmp_nat hP hg rfl (a:=dk) (b:=dk) (r:=false) (Or.inl ⟨rfl,hd0⟩) rfl rfl) ?_
     cbv
     refine stepD (enr rfl hg rfl rfl hCo (fun _=>1) rfl ⟨rfl,trivial⟩ (fun _ _ _ h=>h) trivial) ?_
     cbv
     rw[t2 c4]
     cbv
     rw[g3 j hjm]
     refine⟨j+1,_root_.id,hjm,(by show m-(j+1)<m-j;omega),?_⟩
     rw[<-hk4,<-hv4,<-hc4]
     exact wkih (by repeat' (first|exact trivial|refine⟨rfl,rfl,rfl,?_⟩|refine⟨rfl,rfl,bE 3,?_⟩|refine⟨rfl,rfl,vP 12,?_⟩|refine⟨rfl,rfl,vA 12,?_⟩|refine⟨rfl,rfl,vB 12,?_⟩|refine⟨rfl,rfl,vN 12,?_⟩|refine⟨rfl,rfl,vX 12,?_⟩|refine⟨rfl,rfl,vY 12,?_⟩))
  ·have hjm':j=m:=by omega
   subst hjm'
   cbv
   rw[en]
   by_cases hn20:n<=20
   ·have h:j=n:=by omega
    rw[h,show cmp .lss (.ofNat n) (.ofNat n)=false from lss_f hA (Nat.lt_irrefl n)]
    cbv
    refine cva rfl hg rfl rfl hAw ?_
    rintro _ _ _ rfl
    refine⟨trivial,?_⟩
    cbv
    exact hK _ _ _ rfl
   ·have h:j=20:=by omega
    rw[h,show cmp .lss (.ofNat 20) (.ofNat n)=true from lss_t hA (by omega)]
    cbv
    rw[show cmp .lss (.ofNat 20) 20=false from lss_f hA (a:=20) (b:=20) (by omega)]
    cbv
    refine cva rfl hg rfl rfl hAw ?_
    rintro _ _ _ rfl
    refine⟨trivial,?_⟩
    cbv
    exact hK _ _ _ rfl
theorem cKeyMakesN{P:Program}(hP:P=Tryz.prog)(s:ByteArray)(hs:s.size<2^62)(before:Int):
 Con P 7 [.nils,.str s,.int .i64 before] [] 0 [] (fun v _ _=>v= .bool true):=by
 obtain⟨H,hH⟩:=exq (fun x c=>Vg.hs (dg x) c:Nat->Nat->List SV)
 obtain⟨S,hS⟩:=exq (Vg.sz:Nat->Nat)
 have hs':HS H S:=⟨hH,hS⟩
 clear hH hS
 obtain⟨D,hD⟩:=exq (Sh.new 2 (seedL (bl s)))
 have hDo:Sh.Ok D:=by rw[hD];exact Sh.Ok.new (by decide) _
 have hDi:D.id=2:=by rw[hD];exact Sh.upd_id _ _
 have hDn:D.n=1:=by rw[hD];exact Sh.upd_n _ _
 have hAw:=cAwake hP
 have hN:=fun x=>cNum hP x
 -- the generators' states while they are warmed
 have gok:=genN_ok 1 hDo
 have gn':=genN_n 1 D
 obtain⟨kk,hkk⟩:=exq (fun i=>mkB (genN 1 D i).k:Nat->ByteArray)
 obtain⟨vv,hvv⟩:=exq (fun i=>mkB (genN 1 D i).v:Nat->ByteArray)
 obtain⟨rr,hrr⟩:=exq (fun i=>mkB (Sh.generate (genN 1 D i) 1 []).1:Nat->ByteArray)
 have bk:∀i,bl (kk i)=(genN 1 D i).k:=fun i=>by rw[hkk];exact bmk (gok i).kb
 have bv:∀i,bl (vv i)=(genN 1 D i).v:=fun i=>by rw[hvv];exact bmk (gok i).vb
 have ks:∀i,(kk i).size=Sh.size 2:=fun i=>by rw[<-bll,bk,(gok i).kl,(gn' i).1,hDi]
 have vs:∀i,(vv i).size=Sh.size 2:=fun i=>by rw[<-bll,bv,(gok i).vl,(gn' i).1,hDi]
 have hGb:∀i,∀y∈(Sh.generate (genN 1 D i) 1 []).1,y<256:=fun i y hy=>by
  unfold Sh.generate at hy
  exact Sh.gen_b _ _ _ _ y (List.mem_of_mem_take hy)
 have br:∀i,bl (rr i)=(Sh.generate (genN 1 D i) 1 []).1:=fun i=>by rw[hrr];exact bmk (hGb i)
 obtain⟨ct,hct⟩:=exq (fun i=>1+i:Nat->Nat)
 have eD:∀i,(⟨2,bl (kk i),bl (vv i),ct i⟩:Sh.Dr)=genN 1 D i:=fun i=>by
  obtain⟨h1,h2⟩:=gn' i
  rw[hDi]at h1
  rw[hDn]at h2
  rw[bk,bv,hct]
  generalize genN 1 D i=Z at h1 h2
  cases Z
  simp only at h1 h2
  subst h1 h2
  rfl
 have hSe:=cSeeded hP s (kk 0) (vv 0) hs (by rw[bk,<-hD];rfl) (by rw[bv,<-hD];rfl)
 have c0:ct 0=1:=by rw[hct]
 have hGe:∀i,i<63->Con P 29 [.ptr 0 0,.int .i64 (.ofNat 1),.str ⟨#[]⟩] [⟨0,[.int .i64 (.ofNat 2),.str (kk i),.str (vv i),.int .i64 (.ofNat (ct i))],100⟩] 1 [0] (fun w L q=>w= .tup [.str (rr i),.int .i64 0]/\L=[⟨0,[.int .i64 (.ofNat 2),.str (kk (i+1)),.str (vv (i+1)),.int .i64 (.ofNat (ct (i+1)))],100⟩]/\q=1):=fun i h=>by
  have h3:=cDGen hP 2 (by decide) (kk i) (vv i) ⟨#[]⟩ (ct i) 1 (ks i) (vs i) (by decide) (by decide) (by rw[hct];show 1+i<=64;omega) (rr i) (kk (i+1)) (vv (i+1)) (by rw[eD,br];rfl) (by rw[eD,bk];rfl) (by rw[eD,bv];rfl)
  rw[show ct i+1=ct (i+1)from by rw[hct];show 1+i+1=1+(i+1);omega]at h3
  exact h3
 have hRe:∀i,i<63->Con P 30 [.ptr 0 0,.int .i64 (.ofNat 1),.str ⟨#[]⟩] [⟨0,[.int .i64 (.ofNat 2),.str (kk i),.str (vv i),.int .i64 (.ofNat (ct i))],73⟩] 1 [0] (fun w L q=>w= .tup [.str (rr i),.int .i64 0]/\L=[⟨0,[.int .i64 (.ofNat 2),.str (kk (i+1)),.str (vv (i+1)),.int .i64 (.ofNat (ct (i+1)))],73⟩]/\q=1):=fun i h=>by
  have h3:=cRGen hP 2 (by decide) (ro32 hP (Or.inr rfl)) (kk i) (vv i) ⟨#[]⟩ (ct i) 1 (ks i) (vs i) (by decide) (by decide) (by rw[hct];show 1+i<=64;omega) (rr i) (kk (i+1)) (vv (i+1)) (by rw[eD,br];rfl) (by rw[eD,bk];rfl) (by rw[eD,bv];rfl)
  rw[show ct i+1=ct (i+1)from by rw[hct];show 1+i+1=1+(i+1);omega]at h3
  exact h3
 clear bk bv eD hkk hvv hrr br hGb gok gn'
 refine cof hP Tryz.func7 (bdb _ rfl) (bkb rfl) ?_
 intro A g K hA hg hK
 obtain⟨bin,_,cmp,_,_,_,_,_,bnot⟩:=A
 have e1:bnot true=false:=bnot_of hA true
 have e1f:bnot false=true:=bnot_of hA false
 obtain⟨w,hw,hwb⟩:=and63 hA before
 have hwb':bin .and .i64 before 63=Int.ofNat w:=hwb
 have f1:∀i,i<w->cmp .lss (.ofNat i) (.ofNat w)=true:=fun i h=>lss_t hA h
 have f2:cmp .lss (.ofNat w) (.ofNat w)=false:=lss_f hA (Nat.lt_irrefl w)
 have f3:∀i,i<63->bin .add .i64 (.ofNat i) 1=Int.ofNat (i+1):=fun i h=>add_of hA (by omega)
 cbv
 refine cgn rfl hg rfl rfl hSe _root_.id rfl trivial rfl rfl rfl ?_
 rintro _ _ _ ⟨rfl,rfl,rfl⟩ _
 refine⟨rfl,?_⟩
 cbv
 rw[e1]
 cbv
 refine lpb Nat (fun i=>i<=w) (fun i=>w-i) (fun i=> [(10,.int .i64 (.ofNat i))]) [0,2,7,8] (fun i=> [(0,[.int .i64 (.ofNat 2),.str (kk i),.str (vv i),.int .i64 (.ofNat (ct i))]),(1,[.int .i64 (.ofNat 2),.str (kk i),.str (vv i),.int .i64 (.ofNat (ct i))])]) 0 (Nat.zero_le _) ?_ ?_
 ·rw[c0]
  exact wkid
 intro i hi
 by_cases hlt:i<w
 ·have hG:=hGe i (by omega)
  have hR:=hRe i (by omega)
  obtain⟨cn,hcn⟩:=exq (ct (i+1))
  obtain⟨k1,hk1⟩:=exq (kk (i+1))
  obtain⟨v1,hv1⟩:=exq (vv (i+1))
  rw[<-hcn,<-hk1,<-hv1]at hG hR
  cbv
  rw[hwb',f1 i hlt]
  cbv
  refine cgn rfl hg rfl rfl hG (fun _=>0) rfl ⟨rfl,trivial⟩ rfl rfl rfl ?_
  rintro _ _ _ ⟨rfl,rfl,rfl⟩ _
  refine⟨rfl,?_⟩
  cbv
  refine cgn rfl hg rfl rfl hR (fun _=>1) rfl ⟨rfl,trivial⟩ rfl rfl rfl ?_
  rintro _ _ _ ⟨rfl,rfl,rfl⟩ _
  refine⟨rfl,?_⟩
  cbv
  rw[f3 i (by omega)]
  refine⟨i+1,_root_.id,hlt,(by show w-(i+1)<w-i;omega),?_⟩
  rw[hcn,hk1,hv1]
  exact wkid
 ·have hiw:i=w:=by omega
  subst hiw
  cbv
  rw[hwb',f2]
  cbv
  have t0:cmp .lss (.ofNat 0) 0=false:=lss_f hA (a:=0) (b:=0) (by omega)
  refine lpb Nat (fun j=>j=0) (fun j=>0) (fun j=> [(11,.int .i64 (.ofNat j))]) [0,7,8] (fun j=> []) 0 rfl ?_ ?_
  ·exact wkid
  intro j hj
  have hj':j=0:=hj
  subst hj'
  cbv
  rw[t0]
  cbv
  refine cva rfl hg rfl rfl hAw ?_
  rintro _ _ _ rfl
  refine⟨trivial,?_⟩
  cbv
  exact hK _ _ _ rfl
end Go.Proofs.YtdhmihfefgcbeaaGreat
