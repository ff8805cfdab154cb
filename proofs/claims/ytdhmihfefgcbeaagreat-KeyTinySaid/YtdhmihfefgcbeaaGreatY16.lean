/-
  This text proves what these texts prove: Gg, Gh, ShA, ShB, Ha, Hb. Conditions: those of each theorem.
-/
import Derived.Test.YtdhmihfefgcbeaaGreatY15
import Derived.Test.YtdhmihfefgcbeaaGreatY08
set_option maxHeartbeats 8000000
set_option linter.all false
namespace Go.Proofs.YtdhmihfefgcbeaaGreat
open Go.Vg Go.RowKit
set_option maxRecDepth 200000
set_option cbv.maxSteps 100000000
theorem horner(x n i:Nat)(h:i<n):x/2^((n-(i+1))*4)=x/2^((n-i)*4)*16+dgt x n i:=by
 unfold dgt
 rw[show n-1-i=n-(i+1) by omega,show(n-i)*4=(n-(i+1))*4+4 by omega,Nat.pow_add,<-Nat.div_div_eq_div_mul]
 omega
section
variable {k:Nat}(hk:1<=k/\k<=15){p a b n gx gy th d:Nat->Nat}{m s1 bits size:Nat}{leg:Bool}(hC:Cv k p a b n gx gy th bits size)
include hk hC
theorem bits_small:1<=bits/\bits<=576:=by
 have h:=hC.bits
 have hn:=cn_small hk
 rw[(same_nums hk).2.2.2.1]at hn
 have h2:2<=rowN k:=by rw[<-(same_nums hk).2.2.2.1];exact(EC.prime_cn k).1
 constructor
 ·rcases Nat.eq_zero_or_pos bits with h0|h0
  ·have:=h.1;rw[h0]at this;simp at this;omega
  ·exact h0
 ·have:=bl_le16 h hn
  omega
theorem cMultN{P:Program}(hP:P=Tryz.prog)(hD:Dv p d m s1){Q:EC.Pt (EC.cp k)}(o:EC.OnC (EC.ca k) (EC.cb k) Q)(e:Nat->Nat)(he:Wn 9 e)(hel:V 9 e<2^bits){c:Nat}{C:List SV}(hc:16<=c)(hCl:C.length=c*19)(hT:TabC k Q 16 C)(hb:∀m,bdLB m C=true){x y:Nat->Nat}{inf:Bool}(hR:PtW k (EC.smul EC.finv (EC.ca k) (V 9 e) Q) x y inf):
 Con P 65 [.nilp,.ptr 0 0,.agg (ws e 9),.ptr 3 0] (cvB k p a b n gx gy th d m s1 bits size leg++[⟨3,[.slice 4 0 16 c],165⟩,⟨4,C,35⟩]) 5 [] (fun v _ _=>v= .agg (ptS x y inf)):=by
 obtain⟨hb1,hb2⟩:=bits_small hk hC
 obtain⟨nd,hnd⟩:=exq ((bits+3)/4)
 have hDig:=cDigits hP e he bits nd ⟨hb1,hb2⟩ hel hnd
 obtain⟨X0,Y0,Z0,t0,hNo⟩:=cNoneP hk hP
 have rC:∀r,renL r C=C:=fun r=>rcl C (hb 0)
 refine cof hP Tryz.func65 ⟨trivial,blq rfl,bdb _ rfl,blq rfl,trivial⟩ (bkb (by simp only[cvB,List.all_cons,List.all_nil,List.cons_append,List.nil_append,hb 5];rfl)) ?_
 intro A g K hA hg hK
 obtain⟨bin,_,cmp,_,_,ix,_,_,_,_,_,_,_,_,nat,off,get⟩:=A
 cbv
 refine reg_cA (hP▸tblOk) hA hg (hP▸mixed) rfl rfl [(6,[])] rfl ?_
 cbv
 refine cgn rfl hg rfl rfl hDig id rfl trivial rfl rfl rfl ?_
 rintro _ _ _ ⟨dc,dC,rfl,rfl,rfl,h1,h2,h3,h4⟩ _
 have rD:∀r,renL r dC=dC:=fun r=>rcl dC (h4 0)
 simp only[renB,rD]
 cbv
 refine cva rfl hg rfl rfl hNo ?_
 rintro _ _ _ rfl
 refine⟨by simp[bd,bdL,ws,lst],?_⟩
 have e1:nat nd=Int.ofNat nd:=nat_of hA nd
 have f1:∀i,i<nd->cmp .lss (.ofNat i) (.ofNat nd)=true:=fun i h=>lss_t hA h
 have f2:cmp .lss (.ofNat nd) (.ofNat nd)=false:=lss_f hA (by omega)
 have f3:∀i,i<nd->ix (.ofNat i) nd=some i:=fun i h=>ix_of hA h
 have f4:∀i,off 0 i 1=i:=fun i=>(off_of hA 0 i 1).trans (by omega)
 have f5:∀i,i<nd->get dC i=some (.int .i64 (.ofNat (dgt (V 9 e) nd i))):=fun i h=>(get_of hA _ _).trans (h3 i h)
 have f6:∀i,i<nd->bin .add .i64 (.ofNat i) 1=Int.ofNat (i+1):=fun i h=>add_of hA (by omega)
 have f7:∀q,q<4->cmp .lss (.ofNat q) 4=true:=fun q h=>lss_t hA (b:=4) h
 have f8:cmp .lss (.ofNat 4) 4=false:=lss_f hA (b:=4) (by omega)
 have f9:∀q,q<4->bin .add .i64 (.ofNat q) 1=Int.ofNat (q+1):=fun i h=>add_of hA (by omega)
 cbv
 rw[e1]
 refine lpb (Nat×(Nat->Nat)×(Nat->Nat)×(Nat->Nat)) (fun s=>s.1<=nd/\TrW k (EC.smul EC.finv (EC.ca k) (V 9 e/2^((nd-s.1)*4)) Q) s.2.1 s.2.2.1 s.2.2.2) (fun s=>nd-s.1)
  (fun s=> [(29,.int .i64 (.ofNat s.1))]) [0,1,3,6,8,11,27,28] (fun s=> [(9,ws s.2.1 9++ws s.2.2.1 9++ws s.2.2.2 9)]) (0,X0,Y0,Z0) ⟨Nat.zero_le _,?_⟩ ?_ ?_
 ·show TrW k (EC.smul EC.finv (EC.ca k) (V 9 e/2^((nd-0)*4)) Q) X0 Y0 Z0
  rw[Nat.div_eq_of_lt]
  ·exact t0
  ·exact Nat.lt_of_lt_of_le hel (Nat.pow_le_pow_right (by decide) (by omega))
 ·exact wkih (by repeat' (first|exact trivial|refine⟨rfl,rfl,rfl,?_⟩|refine⟨rfl,rfl,hb 10,?_⟩|refine⟨rfl,rfl,h4 10,?_⟩))
 rintro⟨i,X,Y,Z⟩ ⟨hi,ht⟩
 change i<=nd at hi
 change TrW k (EC.smul EC.finv (EC.ca k) (V 9 e/2^((nd-i)*4)) Q) X Y Z at ht
 by_cases hlt:i<nd
 ·obtain⟨di,hdi⟩:=exq (dgt (V 9 e) nd i)
  obtain⟨vi,hvi⟩:=exq (V 9 e/2^((nd-i)*4))
  have hdi16:di<16:=by rw[hdi];exact Nat.mod_lt _ (by decide)
  have f5i:=f5 i hlt
  rw[<-hdi]at f5i
  rw[<-hvi]at ht
  obtain⟨px,py,pinf,hpt,hPick⟩:=cPickN hP hc (by decide) hCl hT hb di hdi16
  cbv
  rw[f1 i hlt]
  cbv
  rw[f3 i hlt]
  cbv
  rw[f4 i,f5i]
  cbv
  refine lpb (Nat×(Nat->Nat)×(Nat->Nat)×(Nat->Nat)) (fun s=>s.1<=4/\TrW k (EC.smul EC.finv (EC.ca k) (vi*2^s.1) Q) s.2.1 s.2.2.1 s.2.2.2) (fun s=>4-s.1)
   (fun s=> [(33,.int .i64 (.ofNat s.1))]) [0,1,3,6,8,11,13,27,28,29] (fun s=> [(9,ws s.2.1 9++ws s.2.2.1 9++ws s.2.2.2 9)]) (0,X,Y,Z) ⟨Nat.zero_le _,by show TrW k (EC.smul EC.finv (EC.ca k) (vi*2^0) Q) X Y Z;rw[Nat.pow_zero,Nat.mul_one];exact ht⟩ ?_ ?_
  ·exact wkih (by repeat' (first|exact trivial|refine⟨rfl,rfl,rfl,?_⟩|refine⟨rfl,rfl,hb 10,?_⟩|refine⟨rfl,rfl,h4 10,?_⟩))
  rintro⟨q,X,Y,Z⟩ ⟨hq,ht⟩
  change q<=4 at hq
  change TrW k (EC.smul EC.finv (EC.ca k) (vi*2^q) Q) X Y Z at ht
  have oi:=EC.smul_on (EC.okc k) o (vi*2^q)
  by_cases hq4:q<4
  ·obtain⟨X',Y',Z',ht',hSum⟩:=cSumP hk hC (leg:=leg) hP hD oi oi ht ht
   rw[<-EC.smul_two (EC.okc k) o,show 2*(vi*2^q)=vi*2^(q+1) by rw[Nat.pow_succ,Nat.mul_left_comm,Nat.mul_comm 2]]at ht'
   cbv
   rw[f7 q hq4]
   cbv
   refine cro rfl hg rfl rfl hSum id rfl ⟨rfl,rfl,rfl,trivial⟩ ?_
   rintro _ _ _ rfl
   refine⟨by simp[bd,bdL,ws,lst],by simp[bd,bdL,ren,renL,ws,lst],?_⟩
   cbv
   rw[f9 q hq4]
   refine⟨(q+1,X',Y',Z'),id,⟨hq4,ht'⟩,(by show 4-(q+1)<4-q;omega),?_⟩
   exact wkih (by repeat' (first|exact trivial|refine⟨rfl,rfl,rfl,?_⟩|refine⟨rfl,rfl,hb 10,?_⟩|refine⟨rfl,rfl,h4 10,?_⟩))
  ·obtain rfl:q=4:=by omega
   obtain⟨TX,TY,TZ,tt,hTr⟩:=cTripleP hk hP hpt
   obtain⟨X',Y',Z',ht',hSum⟩:=cSumP hk hC (leg:=leg) hP hD oi (EC.smul_on (EC.okc k) o di) ht tt
   rw[<-EC.smul_add (EC.okc k) o,show vi*2^4+di=V 9 e/2^((nd-(i+1))*4) by rw[horner _ _ _ hlt,hvi,hdi]]at ht'
   cbv
   rw[f8]
   cbv
   refine cro rfl hg rfl rfl hPick (fun l=>l+3) rfl ⟨rfl,by rw[rC];rfl,trivial⟩ ?_
   rintro _ _ _ rfl
   refine⟨by simp[bd,bdL,ptS,ws,lst],by simp[bd,bdL,ren,renL,ptS,ws,lst],?_⟩
   cbv
   refine rgM hP hA hg fun mk _=> ?_
   cbv
   refine stepD (en_val rfl hg rfl rfl hTr (fun _ _ _ h=>h) (by simp[bd,bdL,ws,lst])) ?_
   cbv
   refine stepD (enr rfl hg rfl rfl hSum id rfl ⟨rfl,rfl,rfl,trivial⟩ (fun _ _ _ h=>h) (by simp[bd,bdL,ws,lst])) ?_
   cbv
   rw[f6 i hlt]
   refine⟨(i+1,X',Y',Z'),id,⟨hlt,ht'⟩,(by show nd-(i+1)<nd-i;omega),?_⟩
   exact wkih (by repeat' (first|exact trivial|refine⟨rfl,rfl,rfl,?_⟩|refine⟨rfl,rfl,hb 10,?_⟩|refine⟨rfl,rfl,h4 10,?_⟩))
 ·obtain rfl:i=nd:=by omega
  rw[Nat.sub_self,Nat.zero_mul,Nat.pow_zero,Nat.div_one]at ht
  have hPl:=cPlainP hk hC (leg:=leg) hP hD ht hR
  cbv
  rw[f2]
  cbv
  refine cro rfl hg rfl rfl hPl id rfl ⟨rfl,rfl,rfl,trivial⟩ ?_
  rintro _ _ _ rfl
  refine⟨by simp[bd,bdL,ws,lst],by simp[bd,bdL,ren,renL,ws,lst],?_⟩
  cbv
  exact hK _ _ _ rfl
theorem gW:PtW k (EC.G k) gx gy false:=by
 have hs:=EC.small k
 simp only[Bool.and_eq_true,decide_eq_true_eq]at hs
 obtain⟨_,_,_,_,h5,h6⟩:=same_nums hk
 exact⟨hC.wx,hC.wy,by rw[hC.vx,<-h5];exact(EC.val_nf _ hs.1.1.1.1.2).symm,by rw[hC.vy,<-h6];exact(EC.val_nf _ hs.1.1.1.2).symm,rfl⟩
theorem cBaseN{P:Program}(hP:P=Tryz.prog)(hD:Dv p d m s1)(e:Nat->Nat)(he:Wn 9 e)(hel:V 9 e<2^bits){x y:Nat->Nat}{inf:Bool}(hR:PtW k (EC.smul EC.finv (EC.ca k) (V 9 e) (EC.G k)) x y inf):
 Con P 41 [.nilp,.ptr 0 0,.agg (ws e 9)] (cvB k p a b n gx gy th d m s1 bits size leg) 3 [] (fun v _ _=>v= .agg (ptS x y inf)):=by
 have o:=EC.G_on k
 have hOf:=cTabOf hk hC (leg:=leg) hP hD o (gW hk hC) 16 (by decide)
 refine cof hP Tryz.func41 ⟨trivial,blq rfl,bdb _ rfl,trivial⟩ (bkb rfl) ?_
 intro A g K hA hg hK
 cases A
 cbv
 refine reg_cA (hP▸tblOk) hA hg (hP▸mixed) rfl rfl [(9,[0,1,2])] rfl ?_
 cbv
 refine cgn rfl hg rfl rfl hOf id rfl ⟨rfl,rfl,rfl,trivial⟩ rfl rfl rfl ?_
 rintro _ _ _ ⟨c,C,rfl,rfl,rfl,h1,h2,h3,h4⟩ _
 have rC:∀r,renL r C=C:=fun r=>rcl C (h4 0)
 have hM:=cMultN hk hC (leg:=leg) hP hD o e he hel h1 h2 h3 h4 hR
 refine⟨rfl,?_⟩
 simp only[renB,rC,cvB,List.cons_append,List.nil_append]
 cbv
 refine stepD (enr rfl hg rfl rfl hM (fun l=>if l<3 then l else l+2) rfl ⟨rfl,rfl,rfl,rfl,by rw[rC];rfl,trivial⟩ (fun _ _ _ h=>h) (by simp[bd,bdL,ptS,ws,lst])) ?_
 cbv
 exact hK _ _ _ rfl
end
def legK(k:Nat):Bool:=decide (k=1)||decide (k=7)
theorem cCheck0{P:Program}(hP:P=Tryz.prog)(x:Int)(hx:primeB x=⟨⟨[]⟩⟩)(e:Nat->Nat):Con P 11 [.int .i64 x,.agg (ws e 9)] [] 0 [] (fun v _ _=>v= .int .i64 2400):=by
 have hO:=cOpen0 hP x hx
 refine cof hP Tryz.func11 (bdb _ rfl) (bkb rfl) ?_
 intro A g K hA hg hK
 cases A
 cbv
 refine cva rfl hg rfl rfl hO ?_
 rintro _ _ _ rfl
 cbv
 exact hK _ _ _ rfl
theorem cCheck{P:Program}(hP:P=Tryz.prog)(k:Nat)(hk:1<=k/\k<=15)(e:Nat->Nat)(he:Wn 9 e)(r:Int)(hr:r=if V 9 e≠0/\V 9 e<EC.cn k then 0 else 2401):Con P 11 [.int .i64 (.ofNat k),.agg (ws e 9)] [] 0 [] (fun v _ _=>v= .int .i64 r):=by
 obtain⟨p,d,m,s,a,b,n,gx,gy,th,bits,size,hC,hD,hO⟩:=cOpen hP k hk (legK k) rfl
 obtain⟨leg,hleg⟩:=exq (legK k)
 rw[<-hleg]at hO
 have hn:V 9 n=EC.cn k:=hC.vn.trans (same_nums hk).2.2.2.1.symm
 obtain⟨q,hq⟩:=exq ((decide (V 9 e≠0)&&decide (V 9 e<V 9 n)):Bool)
 have hKey:=cKey hP k p a b n gx gy th e bits size leg hC.wn he q hq
 refine cof hP Tryz.func11 (bdb _ rfl) (bkb rfl) ?_
 intro A g K hA hg hK
 obtain⟨_,_,_,_,_,_,_,_,bnot⟩:=A
 have f1:bnot true=false:=bnot_of hA true
 have f2:bnot false=true:=bnot_of hA false
 cbv
 refine cgn rfl hg rfl rfl hO id rfl trivial rfl rfl rfl ?_
 rintro _ _ _ ⟨rfl,rfl,rfl⟩ _
 refine⟨rfl,?_⟩
 cbv
 refine cro rfl hg rfl rfl hKey (fun l=>l+1) rfl ⟨rfl,trivial⟩ ?_
 rintro _ _ _ rfl
 refine⟨trivial,trivial,?_⟩
 rw[hn]at hq
 cases q with
 |true=>
  have h2:V 9 e≠0/\V 9 e<EC.cn k:=by simpa using hq.symm
  rw[if_pos h2]at hr
  subst hr
  cbv
  rw[f1]
  cbv
  exact hK _ _ _ rfl
 |false=>
  have h2:¬ (V 9 e≠0/\V 9 e<EC.cn k):=fun h=>by
   rw[decide_eq_true h.1,decide_eq_true h.2]at hq;cases hq
  rw[if_neg h2]at hr
  subst hr
  cbv
  rw[f2]
  cbv
  exact hK _ _ _ rfl
theorem cPublicR{P:Program}(hP:P=Tryz.prog)(k:Nat)(hk:1<=k/\k<=15)(e:Nat->Nat)(he:Wn 9 e)(hr:¬ (V 9 e≠0/\V 9 e<EC.cn k)):Con P 12 [.nilp,.int .i64 (.ofNat k),.agg (ws e 9)] [] 0 [] (fun v _ _=>v= .tup [.agg (ptS (fun _=>0) (fun _=>0) false),.int .i64 2401]):=by
 have hCk:=cCheck hP k hk e he 2401 (if_neg hr).symm
 refine cof hP Tryz.func12 (bdb _ rfl) (bkb rfl) ?_
 intro A g K hA hg hK
 obtain⟨_,_,cmp⟩:=A
 have f1:cmp .neq 2401 0=true:=neq_t hA (a:=2401) (b:=0) (by decide)
 cbv
 refine cva rfl hg rfl rfl hCk ?_
 rintro _ _ _ rfl
 cbv
 rw[f1]
 cbv
 exact hK _ _ _ rfl
theorem cn_bits{k:Nat}(hk:1<=k/\k<=15){p a b n gx gy th:Nat->Nat}{bits size:Nat}(hC:Cv k p a b n gx gy th bits size):EC.cn k<2^bits:=by
 rw[(same_nums hk).2.2.2.1];exact hC.bits.1
theorem cPublic{P:Program}(hP:P=Tryz.prog)(k:Nat)(hk:1<=k/\k<=15)(e:Nat->Nat)(he:Wn 9 e)(hr:V 9 e≠0/\V 9 e<EC.cn k){x y:Nat->Nat}{inf:Bool}(hR:PtW k (EC.smul EC.finv (EC.ca k) (V 9 e) (EC.G k)) x y inf):
 Con P 12 [.nilp,.int .i64 (.ofNat k),.agg (ws e 9)] [] 0 [] (fun v _ _=>v= .tup [.agg (ptS x y inf),.int .i64 0]):=by
 have hCk:=cCheck hP k hk e he 0 (if_pos hr).symm
 obtain⟨p,d,m,s,a,b,n,gx,gy,th,bits,size,hC,hD,hO⟩:=cOpen hP k hk (legK k) rfl
 obtain⟨leg,hleg⟩:=exq (legK k)
 rw[<-hleg]at hO
 have hB:=cBaseN hk hC (leg:=leg) hP hD e he (Nat.lt_trans hr.2 (cn_bits hk hC)) hR
 refine cof hP Tryz.func12 (bdb _ rfl) (bkb rfl) ?_
 intro A g K hA hg hK
 obtain⟨_,_,cmp⟩:=A
 have f1:cmp .neq 0 0=false:=neq_f hA (a:=0) (b:=0) rfl
 cbv
 refine cva rfl hg rfl rfl hCk ?_
 rintro _ _ _ rfl
 cbv
 rw[f1]
 cbv
 refine reg_A (hP▸tblOk) hA hg (hP▸mixed) rfl rfl ?_
 cbv
 refine stepDn (n':=5) (en_new rfl hg rfl rfl hO id rfl trivial rfl (val:= .ptr 0 0) (NB:=cvB k p a b n gx gy th d m s bits size leg) (n:=2) (n1:=3) (fun _ _ _ h=>⟨h.1,h.2.1,h.2.2⟩) rfl rfl (fun l h1 h2=> ?_)) (by decide) rfl ?_ ?_
 ·rcases(show l=0\/l=1\/l=2 by omega)with rfl|rfl|rfl
  ·exact⟨_,List.mem_cons_self,rfl⟩
  ·exact⟨_,List.mem_cons_of_mem _ List.mem_cons_self,rfl⟩
  ·exact⟨_,List.mem_cons_of_mem _ (List.mem_cons_of_mem _ List.mem_cons_self),rfl⟩
 ·show([2,3,4]:List Nat).Nodup
  decide
 cbv
 refine stepD (enr rfl hg rfl rfl hB (fun l=>l+2) rfl ⟨rfl,rfl,rfl,trivial⟩ (fun _ _ _ h=>h) (by simp[bd,bdL,ptS,ws,lst])) ?_
 cbv
 exact hK _ _ _ rfl
end Go.Proofs.YtdhmihfefgcbeaaGreat
namespace Sh
structure S8 where
 a:Nat
 b:Nat
 c:Nat
 d:Nat
 e:Nat
 f:Nat
 g:Nat
 h:Nat
structure Kd where
 wb:Nat
 S0:Nat×Nat×Nat
 S1:Nat×Nat×Nat
 s0:Nat×Nat×Nat
 s1:Nat×Nat×Nat
 ks:List Nat
 len:Nat
def rotr(n x k:Nat):Nat:=(x>>>k)|||(x<<<(n-k))%2^n
def big(n:Nat)(r:Nat×Nat×Nat)(x:Nat):Nat:=(rotr n x r.1^^^rotr n x r.2.1)^^^rotr n x r.2.2
def small(n:Nat)(r:Nat×Nat×Nat)(x:Nat):Nat:=(rotr n x r.1^^^rotr n x r.2.1)^^^(x>>>r.2.2)
def more(K:Kd)(ws:List Nat):List Nat:=
 ((ws.getD 15 0+small K.wb K.s0 (ws.getD 14 0)+ws.getD 6 0+small K.wb K.s1 (ws.getD 1 0))%2^K.wb)::ws
def mores(K:Kd):Nat->List Nat->List Nat
 |0,ws=>ws
 |n+1,ws=>mores K n (more K ws)
def ch(n e f g:Nat):Nat:=(e&&&f)^^^((2^n-1-e)&&&g)
def maj(a b c:Nat):Nat:=((a&&&b)^^^(a&&&c))^^^(b&&&c)
def round(K:Kd)(s:S8)(k w:Nat):S8:=
 let t1:=(s.h+big K.wb K.S1 s.e+ch K.wb s.e s.f s.g+k+w)%2^K.wb
 ⟨(t1+big K.wb K.S0 s.a+maj s.a s.b s.c)%2^K.wb,s.a,s.b,s.c,(s.d+t1)%2^K.wb,s.e,s.f,s.g⟩
def rounds(K:Kd):List Nat->List Nat->S8->S8
 |k::ks,w::ws,s=>rounds K ks ws (round K s k w)
 |_,_,s=>s
def word:List Nat->Nat
 |l=>l.foldl (fun x b=>x*256+b) 0
def words(n:Nat):Nat->List Nat->List Nat
 |0,_=> []
 |f+1,l=>word (l.take n)::words n f (l.drop n)
def add8(n:Nat)(s t:S8):S8:=⟨(s.a+t.a)%2^n,(s.b+t.b)%2^n,(s.c+t.c)%2^n,(s.d+t.d)%2^n,(s.e+t.e)%2^n,(s.f+t.f)%2^n,(s.g+t.g)%2^n,(s.h+t.h)%2^n⟩
def sched(K:Kd)(b:List Nat):List Nat:=(mores K (K.ks.length-16) (words (K.wb/8) 16 b).reverse).reverse
def turn(K:Kd)(s:S8)(b:List Nat):S8:=add8 K.wb s (rounds K K.ks (sched K b) s)
def turns(K:Kd):Nat->S8->List Nat->S8
 |0,s,_=>s
 |f+1,s,l=>if l.length<2*K.wb then s else turns K f (turn K s (l.take (2*K.wb))) (l.drop (2*K.wb))
def be(n x:Nat):List Nat:=(List.range n).map fun i=>x/256^(n-1-i)%256
def pad(K:Kd)(l:List Nat):List Nat:=
 let z:=(2*K.wb-(l.length+1+K.len)%(2*K.wb))%(2*K.wb)
 l++[128]++List.replicate (z+(K.len-8)) 0++be 8 (l.length*8%2^64)
def out(n:Nat)(s:S8):List Nat:=be n s.a++be n s.b++be n s.c++be n s.d++be n s.e++be n s.f++be n s.g++be n s.h
def hash(K:Kd)(s:S8)(size:Nat)(l:List Nat):List Nat:=
 (out (K.wb/8) (turns K (l.length+1) s (pad K l))).take size
def k256:List Nat:=[1116352408,1899447441,3049323471,3921009573,961987163,1508970993,2453635748,2870763221,3624381080,310598401,607225278,1426881987,1925078388,2162078206,2614888103,3248222580,3835390401,4022224774,264347078,604807628,770255983,1249150122,1555081692,1996064986,2554220882,2821834349,2952996808,3210313671,3336571891,3584528711,113926993,338241895,666307205,773529912,1294757372,1396182291,1695183700,1986661051,2177026350,2456956037,2730485921,2820302411,3259730800,3345764771,3516065817,3600352804,4094571909,275423344,430227734,506948616,659060556,883997877,958139571,1322822218,1537002063,1747873779,1955562222,2024104815,2227730452,2361852424,2428436474,2756734187,3204031479,3329325298]
def k512:List Nat:=[4794697086780616226,8158064640168781261,0xb5c0fbcfec4d3b2f,0xe9b5dba58189dbbc,4131703408338449720,6480981068601479193,0x923f82a4af194f9b,0xab1c5ed5da6d8118,0xd807aa98a3030242,1334009975649890238,2608012711638119052,6128411473006802146,8268148722764581231,9286055187155687089,0x9bdc06a725c71235,0xc19bf174cf692694,0xe49b69c19ef14ad2,0xefbe4786384f25e3,1135362057144423861,2597628984639134821,3308224258029322869,5365058923640841347,6679025012923562964,8573033837759648693,0x983e5152ee66dfab,0xa831c66d2db43210,0xb00327c898fb213f,0xbf597fc7beef0ee4,0xc6e00bf33da88fc2,0xd5a79147930aa725,489312712824947311,1452737877330783856,2861767655752347644,3322285676063803686,5560940570517711597,5996557281743188959,7280758554555802590,8532644243296465576,9350256976987008742,0x92722c851482353b,0xa2bfe8a14cf10364,0xa81a664bbc423001,0xc24b8b70d0f89791,0xc76c51a30654be30,0xd192e819d6ef5218,0xd69906245565a910,0xf40e35855771202a,1182934255886127544,1847814050463011016,2177327727835720531,2830643537854262169,3796741975233480872,4115178125766777443,5681478168544905931,6601373596472566643,7507060721942968483,8399075790359081724,8693463985226723168,9568029438360202098,0x8cc702081a6439ec,0x90befffa23631e28,0xa4506cebde82bde9,0xbef9a3f7b2c67915,0xc67178f2e372532b,0xca273eceea26619c,0xd186b8c721c0c207,0xeada7dd6cde0eb1e,0xf57d4f7fee6ed178,500013540394364858,748580250866718886,1242879168328830382,1977374033974150939,2944078676154940804,3659926193048069267,4368137639120453308,4836135668995329356,5532061633213252278,6448918945643986474,6902733635092675308,7801388544844847127]
def i224:S8:=⟨3238371032,914150663,812702999,4144912697,4290775857,1750603025,1694076839,3204075428⟩
def i256:S8:=⟨1779033703,3144134277,1013904242,2773480762,1359893119,2600822924,528734635,1541459225⟩
def i384:S8:=⟨0xcbbb9d5dc1059ed8,7105036623409894663,0x9159015a3070dd17,1526699215303891257,7436329637833083697,0x8eb44a8768581511,0xdb0c2e0d64f98fa7,5167115440072839076⟩
def i512:S8:=⟨7640891576956012808,0xbb67ae8584caa73b,4354685564936845355,0xa54ff53a5f1d36f1,5840696475078001361,0x9b05688c2b3e6c1f,2270897969802886507,6620516959819538809⟩
def K256:Kd:=⟨32,(2,13,22),(6,11,25),(7,18,3),(17,19,10),k256,8⟩
def K512:Kd:=⟨64,(28,34,39),(14,18,41),(1,8,7),(19,61,6),k512,16⟩
def size:Nat->Nat
 |1=>28
 |2=>32
 |3=>48
 |4=>64
 |_=>0
def blk:Nat->Nat
 |1=>64
 |2=>64
 |3=>128
 |4=>128
 |_=>0
def of:Nat->List Nat->List Nat
 |1,l=>hash K256 i224 28 l
 |2,l=>hash K256 i256 32 l
 |3,l=>hash K512 i384 48 l
 |4,l=>hash K512 i512 64 l
 |_,_=> []
def key(id:Nat)(k:List Nat):List Nat:=
 let k:=if blk id<k.length then of id k else k
 k++List.replicate (blk id-k.length) 0
def hmac(id:Nat)(k m:List Nat):List Nat:=
 of id ((key id k).map (· ^^^92)++of id ((key id k).map (· ^^^54)++m))
structure Dr where
 id:Nat
 k:List Nat
 v:List Nat
 n:Nat
def upd(d:Dr)(s:List Nat):Dr:=
 let k:=hmac d.id d.k (d.v++[0]++s)
 let v:=hmac d.id k d.v
 if s=[]then⟨d.id,k,v,d.n⟩else
 let k2:=hmac d.id k (v++[1]++s)
 ⟨d.id,k2,hmac d.id k2 v,d.n⟩
def new(id:Nat)(e:List Nat):Dr:=upd ⟨id,List.replicate (size id) 0,List.replicate (size id) 1,1⟩ e
def gen(id:Nat)(k:List Nat):Nat->List Nat->List Nat×List Nat
 |0,v=>([],v)
 |f+1,v=>let v':=hmac id k v;let r:=gen id k f v';(v'++r.1,r.2)
def generate(d:Dr)(sz:Nat)(m:List Nat):List Nat×Dr:=
 let d:=if m=[]then d else upd d m
 let r:=gen d.id d.k ((sz+size d.id-1)/size d.id) d.v
 let d:=upd ⟨d.id,d.k,r.2,d.n⟩ m
 (r.1.take sz,⟨d.id,d.k,d.v,d.n+1⟩)
end Sh
namespace Sh
/-! the schedule word by word,the rounds one by one-/
variable {K:Kd}
def wd(K:Kd)(b:List Nat)(j:Nat):Nat:=(sched K b).getD j 0
theorem mores_succ(n:Nat):∀ws,mores K (n+1) ws=more K (mores K n ws):=by
 induction n with
 |zero=>intro ws;rfl
 |succ n ih=>intro ws;rw[mores,ih (more K ws),<-mores]
theorem words_len(n:Nat):∀f l,(words n f l).length=f
 |0,_=>rfl
 |f+1,l=>by rw[words,List.length_cons,words_len n f]
theorem words_get(n:Nat):∀f l j,j<f->(words n f l).getD j 0=word ((l.drop (n*j)).take n)
 |0,_,_,h=>by omega
 |f+1,l,0,_=>by simp[words]
 |f+1,l,j+1,h=>by
  rw[words,List.getD_cons_succ,words_get n f (l.drop n) j (by omega),List.drop_drop,show n+n*j=n*(j+1) by rw[Nat.mul_succ];omega]
def w0(K:Kd)(b:List Nat):List Nat:=(words (K.wb/8) 16 b).reverse
theorem q_len(b:List Nat):∀n,(mores K n (w0 K b)).length=16+n
 |0=>by rw[mores,w0,List.length_reverse,words_len]
 |n+1=>by rw[mores_succ,more,List.length_cons,q_len b n];omega
theorem q_old(b:List Nat)(n j:Nat)(hj:j<16+n):∀m,n<=m->(mores K m (w0 K b)).getD (16+m-1-j) 0=(mores K n (w0 K b)).getD (16+n-1-j) 0:=by
 intro m hm
 induction m with
 |zero=>obtain rfl:n=0:=by omega
        rfl
 |succ m ih=>
  by_cases h:n=m+1
  ·subst h;rfl
  ·rw[<-ih (by omega),mores_succ,more,show 16+(m+1)-1-j=(16+m-1-j)+1 by omega,List.getD_cons_succ]
theorem getD_rev(l:List Nat)(j:Nat)(h:j<l.length):l.reverse.getD j 0=l.getD (l.length-1-j) 0:=by
 simp only[List.getD_eq_getElem?_getD,List.getElem?_reverse h]
theorem wd_q(b:List Nat){n j:Nat}(hj:j<16+n)(hn:16+n<=K.ks.length):wd K b j=(mores K n (w0 K b)).getD (16+n-1-j) 0:=by
 unfold wd sched
 have hl:=q_len (K:=K) b (K.ks.length-16)
 rw[w0]at hl
 rw[getD_rev _ _ (by rw[hl];omega),hl]
 exact q_old b n j hj (K.ks.length-16) (by omega)
theorem wd_lo(b:List Nat){j:Nat}(hj:j<16)(hn:16<=K.ks.length):wd K b j=word ((b.drop (K.wb/8*j)).take (K.wb/8)):=by
 rw[wd_q b (n:=0) (by omega) (by omega)]
 show(w0 K b).getD (16+0-1-j) 0=_
 rw[w0,getD_rev _ _ (by rw[words_len];omega),words_len,words_get _ _ _ _ (by omega)]
 congr 4
 omega
theorem wd_hi(b:List Nat){j:Nat}(h1:16<=j)(h2:j<K.ks.length):wd K b j=(wd K b (j-16)+small K.wb K.s0 (wd K b (j-15))+wd K b (j-7)+small K.wb K.s1 (wd K b (j-2)))%2^K.wb:=by
 obtain⟨n,rfl⟩:∃n,j=16+n:=⟨j-16,by omega⟩
 rw[wd_q b (n:=n+1) (by omega) (by omega),wd_q b (n:=n) (j:=16+n-16) (by omega) (by omega),wd_q b (n:=n) (j:=16+n-15) (by omega) (by omega),wd_q b (n:=n) (j:=16+n-7) (by omega) (by omega),wd_q b (n:=n) (j:=16+n-2) (by omega) (by omega)]
 rw[mores_succ,more,show 16+(n+1)-1-(16+n)=0 by omega,List.getD_cons_zero]
 rw[show 16+n-1-(16+n-16)=15 by omega,show 16+n-1-(16+n-15)=14 by omega,show 16+n-1-(16+n-7)=6 by omega,show 16+n-1-(16+n-2)=1 by omega]
theorem sched_len(b:List Nat)(hn:16<=K.ks.length):(sched K b).length=K.ks.length:=by
 unfold sched
 have hl:=q_len (K:=K) b (K.ks.length-16)
 rw[w0]at hl
 rw[List.length_reverse,hl];omega
theorem word_snoc(l:List Nat)(x:Nat):word (l++[x])=word l*256+x:=by
 unfold word
 rw[List.foldl_append];rfl
theorem word_take(l:List Nat){k:Nat}(h:k<l.length):word (l.take (k+1))=word (l.take k)*256+l.getD k 0:=by
 rw[List.take_succ_eq_append_getElem h,word_snoc,List.getD_eq_getElem?_getD,List.getElem?_eq_getElem h];rfl
theorem word_lt(l:List Nat)(h:∀x∈l,x<256):∀k,k<=l.length->word (l.take k)<256^k
 |0,_=>by simp[word]
 |k+1,hk=>by
  have ih:=word_lt l h k (by omega)
  have hx:l.getD k 0<256:=by
   rw[List.getD_eq_getElem?_getD,List.getElem?_eq_getElem (by omega)]
   exact h _ (List.getElem_mem _)
  rw[word_take l (by omega),Nat.pow_succ]
  have:=Nat.mul_le_mul_right 256 (show word (l.take k)+1<=256^k from ih)
  omega
def rnd(K:Kd)(b:List Nat)(s:S8)(i:Nat):S8:=rounds K (K.ks.take i) ((sched K b).take i) s
theorem rounds_snoc(k w:Nat):∀ (ks ws:List Nat) (s:S8),ks.length=ws.length->rounds K (ks++[k]) (ws++[w]) s=round K (rounds K ks ws s) k w
 | [],[],s,_=>rfl
 | [],_::_,_,h=>by simp at h
 |_::_,[],_,h=>by simp at h
 |k'::ks,w'::ws,s,h=>by
  simp only[List.cons_append,rounds]
  exact rounds_snoc k w ks ws _ (by simpa using h)
theorem rnd_succ(b:List Nat)(s:S8){i:Nat}(hn:16<=K.ks.length)(h:i<K.ks.length):rnd K b s (i+1)=round K (rnd K b s i) (K.ks.getD i 0) (wd K b i):=by
 have hl:=sched_len b hn
 unfold rnd
 rw[List.take_succ_eq_append_getElem h,List.take_succ_eq_append_getElem (by rw[hl];exact h),rounds_snoc _ _ _ _ _ (by rw[List.length_take,List.length_take,hl]),wd,List.getD_eq_getElem?_getD,List.getD_eq_getElem?_getD,List.getElem?_eq_getElem h,List.getElem?_eq_getElem (by rw[hl];exact h)]
 rfl
theorem turn_rnd(b:List Nat)(s:S8)(hn:16<=K.ks.length):turn K s b=add8 K.wb s (rnd K b s K.ks.length):=by
 unfold turn rnd
 rw[List.take_length,List.take_of_length_le (by rw[sched_len b hn];exact Nat.le_refl _)]
def ok8(n:Nat)(s:S8):Prop:=s.a<2^n/\s.b<2^n/\s.c<2^n/\s.d<2^n/\s.e<2^n/\s.f<2^n/\s.g<2^n/\s.h<2^n
theorem ok8_round{s:S8}(h:ok8 K.wb s)(k w:Nat):ok8 K.wb (round K s k w):=
 ⟨Nat.mod_lt _ (Nat.two_pow_pos _),h.1,h.2.1,h.2.2.1,Nat.mod_lt _ (Nat.two_pow_pos _),h.2.2.2.2.1,h.2.2.2.2.2.1,h.2.2.2.2.2.2.1⟩
theorem ok8_rnd(b:List Nat){s:S8}(h:ok8 K.wb s)(hn:16<=K.ks.length):∀i,i<=K.ks.length->ok8 K.wb (rnd K b s i)
 |0,_=>by simpa [rnd,rounds]using h
 |i+1,hi=>by rw[rnd_succ b s hn (by omega)];exact ok8_round (ok8_rnd b h hn i (by omega)) _ _
theorem ok8_add(n:Nat)(s t:S8):ok8 n (add8 n s t):=⟨Nat.mod_lt _ (Nat.two_pow_pos _),Nat.mod_lt _ (Nat.two_pow_pos _),Nat.mod_lt _ (Nat.two_pow_pos _),Nat.mod_lt _ (Nat.two_pow_pos _),Nat.mod_lt _ (Nat.two_pow_pos _),Nat.mod_lt _ (Nat.two_pow_pos _),Nat.mod_lt _ (Nat.two_pow_pos _),Nat.mod_lt _ (Nat.two_pow_pos _)⟩
theorem wd_lt(b:List Nat)(hb:∀x∈b,x<256)(hl:2*K.wb<=b.length)(h8:K.wb=8*(K.wb/8))(hn:16<=K.ks.length){j:Nat}(hj:j<K.ks.length):wd K b j<2^K.wb:=by
 by_cases h:j<16
 ·rw[wd_lo b h hn]
  have hm:K.wb/8*j+K.wb/8<=b.length:=by
   have:=Nat.mul_le_mul_left (K.wb/8) (show j+1<=16 from h)
   rw[Nat.mul_succ]at this
   omega
  have:=word_lt (b.drop (K.wb/8*j)) (fun x hx=>hb x (List.mem_of_mem_drop hx)) (K.wb/8) (by rw[List.length_drop];omega)
  rwa [show(256:Nat)=2^8 from rfl,<-Nat.pow_mul,<-h8]at this
 ·rw[wd_hi b (by omega) hj];exact Nat.mod_lt _ (Nat.two_pow_pos _)
def tq(K:Kd)(s:S8)(l:List Nat):Nat->S8
 |0=>s
 |j+1=>turn K (tq K s l j) ((l.drop (j*(2*K.wb))).take (2*K.wb))
theorem tq_shift(s:S8)(l:List Nat):∀j,tq K s l (j+1)=tq K (turn K s (l.take (2*K.wb))) (l.drop (2*K.wb)) j
 |0=>by simp[tq]
 |j+1=>by
  rw[tq,tq_shift s l j,tq,List.drop_drop,show 2*K.wb+j*(2*K.wb)=(j+1)*(2*K.wb) by rw[Nat.succ_mul j,Nat.add_comm]]
theorem turns_tq(hw:0<K.wb):∀ (f:Nat) (s:S8) (l:List Nat),l.length/(2*K.wb)<=f->turns K f s l=tq K s l (l.length/(2*K.wb))
 |0,s,l,h=>by rw[Nat.le_zero.1 h];rfl
 |f+1,s,l,h=>by
  by_cases hl:l.length<2*K.wb
  ·rw[turns,if_pos hl,Nat.div_eq_of_lt hl];rfl
  ·have hd:l.length/(2*K.wb)=(l.length-2*K.wb)/(2*K.wb)+1:=by
    rw[Nat.div_eq_sub_div (by omega) (by omega)]
   rw[turns,if_neg hl,hd,tq_shift,turns_tq hw f _ _ (by rw[List.length_drop];omega),List.length_drop]
theorem tq_app(s:S8){p:List Nat}{q:Nat}(hp:p.length=q*(2*K.wb))(x:List Nat):∀j,j<=q->tq K s (p++x) j=tq K s p j
 |0,_=>rfl
 |j+1,h=>by
  have h1:=Nat.mul_le_mul_right (2*K.wb) h
  rw[Nat.succ_mul j]at h1
  rw[tq,tq,tq_app s hp x j (by omega),List.drop_append_of_le_length (by omega),List.take_append_of_le_length (by rw[List.length_drop];omega)]
theorem tq_more(s:S8){p:List Nat}{q:Nat}(hp:p.length=q*(2*K.wb))(x:List Nat):∀j,tq K s (p++x) (q+j)=tq K (tq K s p q) x j
 |0=>tq_app s hp x q (Nat.le_refl q)
 |j+1=>by
  rw[<-Nat.add_assoc,tq,tq_more s hp x j,tq,Nat.add_mul,<-hp,List.drop_append,show p.length+j*(2*K.wb)-p.length=j*(2*K.wb) by omega,List.drop_of_length_le (by omega),List.nil_append]
def hst(K:Kd)(s:S8)(l:List Nat):S8:=tq K s l (l.length/(2*K.wb))
def left(K:Kd)(l:List Nat):List Nat:=l.drop (l.length/(2*K.wb)*(2*K.wb))
theorem left_len(l:List Nat):(left K l).length=l.length%(2*K.wb):=by
 unfold left
 rw[List.length_drop]
 have:=Nat.div_add_mod l.length (2*K.wb)
 rw[Nat.mul_comm]at this
 omega
theorem hst_app(hw:0<K.wb)(s:S8)(l x:List Nat):hst K s (l++x)=tq K (hst K s l) (left K l++x) ((left K l++x).length/(2*K.wb))/\left K (l++x)=(left K l++x).drop ((left K l++x).length/(2*K.wb)*(2*K.wb)):=by
 obtain⟨q,hq⟩:=exq (l.length/(2*K.wb))
 have hle:q*(2*K.wb)<=l.length:=by rw[hq];exact Nat.div_mul_le_self _ _
 have hp:(l.take (q*(2*K.wb))).length=q*(2*K.wb):=by rw[List.length_take];omega
 have hsplit:l++x=l.take (q*(2*K.wb))++(left K l++x):=by
  unfold left
  rw[<-hq,<-List.append_assoc,List.take_append_drop]
 have hlen:(l++x).length=q*(2*K.wb)+(left K l++x).length:=by
  rw[hsplit,List.length_append,hp]
 have hdiv:(l++x).length/(2*K.wb)=q+(left K l++x).length/(2*K.wb):=by
  rw[hlen,Nat.mul_comm,Nat.mul_add_div (by omega)]
 have hh:hst K s l=tq K s (l.take (q*(2*K.wb))) q:=by
  unfold hst
  rw[<-hq]
  conv=>lhs;rw[<-List.take_append_drop (q*(2*K.wb)) l]
  exact tq_app s hp _ q (Nat.le_refl q)
 refine⟨?_,?_⟩
 ·rw[hh,<-tq_more s hp,<-hsplit,<-hdiv];rfl
 ·show(l++x).drop ((l++x).length/(2*K.wb)*(2*K.wb))=_
  rw[hdiv,Nat.add_mul,<-hp]
  conv=>lhs;rw[hsplit]
  rw[hp,<-List.drop_drop,List.drop_left' hp]
theorem ok8_tq(h16:16<=K.ks.length){s:S8}(h:ok8 K.wb s)(l:List Nat):∀j,ok8 K.wb (tq K s l j)
 |0=>h
 |j+1=>by rw[tq,turn_rnd _ _ h16];exact ok8_add _ _ _
theorem hash_hst(hw:0<K.wb)(s:S8)(size:Nat)(l:List Nat)(hp:(pad K l).length/(2*K.wb)<=l.length+1):hash K s size l=(out (K.wb/8) (hst K s (pad K l))).take size:=by
 unfold hash hst
 rw[turns_tq hw _ _ _ hp]
end Sh
namespace Go.Proofs.YtdhmihfefgcbeaaGreat
open Go.Vg Go.RowKit
set_option maxRecDepth 200000
set_option cbv.maxSteps 100000000
theorem cARotL{P:Program}(hP:P=Tryz.prog)(x k:Nat)(hx:x<4294967296)(hk:1<=k/\k<32)(z:Int)(hz:z= -(k:Int))(r:Nat)(hr:r=Sh.rotr 32 x k):
 Con P 183 [.int .u32 (.ofNat x),.int .i64 z] [] 0 [] (fun v _ _=>v= .int .u32 (.ofNat r)):=by
 obtain⟨c,hc⟩:=exq (0x10000000000000000-k)
 obtain⟨k',hk'⟩:=exq (32-k)
 obtain⟨u,hu⟩:=exq (x*2^k'%4294967296)
 obtain⟨w,hw⟩:=exq (x/2^k)
 have hul:u<4294967296:=by rw[hu];exact Nat.mod_lt _ (by decide)
 have hwl:w<4294967296:=by rw[hw];exact Nat.lt_of_le_of_lt (Nat.div_le_self _ _) hx
 have hr2:r=u|||w:=by
  rw[hr,Sh.rotr,Nat.shiftRight_eq_div_pow,Nat.shiftLeft_eq,Nat.or_comm,hu,hw,hk']
 refine cof hP Tryz.func183 (bdb _ rfl) (bkb rfl) ?_
 intro A g K hA hg hK
 obtain⟨bin,sh,_,_,cvt,_,nn,_,_,_,_,_,_,_,_,_,_,_,sub⟩:=A
 have e1:cvt .u64 z=Int.ofNat c:=by
  refine(cvt_of hA .u64 z).trans ?_
  rw[hz,hc]
  simp[IntKind.wrap,IntKind.signed,IntKind.bits]
  omega
 have e2:bin .and .u64 (.ofNat c) 31=Int.ofNat k':=(andW hA (k:= .u64) rfl (a:=c) (b:=31) (by show c<0x10000000000000000;omega) (by decide)).trans (congrArg Int.ofNat (by
  rw[show(31:Nat)=2^5-1 from rfl,Nat.and_two_pow_sub_one_eq_mod,hc,hk'];omega))
 have e3:nn (.ofNat k')=true:=nn_t hA k'
 have e4:sh .shl .u32 (.ofNat x) (.ofNat k')=Int.ofNat u:=(shlW hA (k:= .u32) rfl x (s:=k') (by show k'<=32;omega)).trans (by rw[hu];rfl)
 have e5:bin .sub .u64 32 (.ofNat k')=Int.ofNat k:=(subW hA (k:= .u64) rfl (a:=32) (b:=k') (by show k'<=0x10000000000000000;omega)).trans (congrArg Int.ofNat (by show(32+0x10000000000000000-k')%0x10000000000000000=k;omega))
 have e6:nn (.ofNat k)=true:=nn_t hA k
 have e7:sh .shr .u32 (.ofNat x) (.ofNat k)=Int.ofNat w:=(shrI hA (k:= .u32) (a:=x) (b:=k) (by show k<=32;omega)).trans (by rw[hw])
 have e8:bin .or .u32 (.ofNat u) (.ofNat w)=Int.ofNat r:=(orW hA (k:= .u32) rfl (a:=u) (b:=w) hul hwl).trans (by rw[hr2])
 cbv
 rw[e1]
 cbv
 rw[e2,e3]
 cbv
 rw[e4,e5]
 cbv
 rw[e6]
 cbv
 rw[e7,e8]
 exact hK _ _ _ rfl
theorem cARot{P:Program}(hP:P=Tryz.prog)(x k:Nat)(hx:x<4294967296)(hk:1<=k/\k<32)(r:Nat)(hr:r=Sh.rotr 32 x k):
 Con P 179 [.int .u32 (.ofNat x),.int .i64 (.ofNat k)] [] 0 [] (fun v _ _=>v= .int .u32 (.ofNat r)):=by
 obtain⟨z,hz⟩:=exq (-(k:Int):Int)
 have hR:=cARotL hP x k hx hk z hz r hr
 refine cof hP Tryz.func179 (bdb _ rfl) (bkb rfl) ?_
 intro A g K hA hg hK
 obtain⟨_,_,_,una⟩:=A
 have e1:una .neg .i64 (Int.ofNat k)=z:=by
  refine(neg_of hA .i64 _).trans ?_
  rw[hz]
  simp[IntKind.wrap,IntKind.signed,IntKind.bits]
  omega
 cbv
 rw[e1]
 cbv
 refine cva rfl hg rfl rfl hR ?_
 rintro _ _ _ rfl
 cbv
 exact hK _ _ _ rfl
def swA(b:List Nat)(t j:Nat):Nat:=if j<t then Sh.wd Sh.K256 b j else 0
def sqA(b:List Nat)(i k j:Nat):Nat:=if j=i then Sh.word ((b.drop (4*i)).take k)else swA b i j
theorem byA_get{C:List SV}{o:Nat}{b:List Nat}{m:Nat}(h:(C.drop o).take m=by8 b)(hb:b.length=m){j:Nat}(hj:j<m):C[o+j]? =some (.int .u8 (.ofNat (b.getD j 0))):=by
 have h1:=congrArg (fun l=>l[j]?) h
 simp only[List.getElem?_take,if_pos hj,List.getElem?_drop,by8,List.getElem?_map]at h1
 rw[h1,List.getD_eq_getElem?_getD,List.getElem?_eq_getElem (by omega)];rfl
theorem biteA{b:List Nat}(hb:∀x∈b,x<256)(j:Nat):b.getD j 0<256:=by
 rw[List.getD_eq_getElem?_getD]
 cases h:b[j]? with
 |none=>decide
 |some x=>exact hb x (List.mem_of_getElem? h)
theorem cASched{P:Program}(hP:P=Tryz.prog){t:TypeId}(o c:Nat)(C:List SV)(b:List Nat)(hb:∀x∈b,x<256)(hl:b.length=64)(hC:(C.drop o).take 64=by8 b)(bC:∀m,bdLB m C=true)(W:Nat->Nat)(hW:W=Sh.wd Sh.K256 b):
 Con P 178 [.slice 0 o 64 c] [⟨0,C,t⟩] 1 [] (fun v _ _=>v= .agg (lst .u32 (fun j=>Int.ofNat (W j)) 0 64)):=by
 have hwd:∀j,j<64->Sh.wd Sh.K256 b j<4294967296:=fun j hj=>Sh.wd_lt b hb (by rw[hl];decide) (by decide) (by decide) hj
 have hw0:∀i j,j<64->swA b i j<4294967296:=fun i j hj=>by unfold swA;split;exact hwd j hj;decide
 obtain⟨wA,hwA⟩:=exq (swA b)
 obtain⟨wB,hwB⟩:=exq (sqA b)
 have z0:wA 0=fun _=>0:=by rw[hwA];funext j;unfold swA;rw[if_neg (Nat.not_lt_zero j)]
 have zB0:∀i,wB i 0=wA i:=fun i=>by
  rw[hwA,hwB];funext j;unfold sqA
  split
  ·rename_i h;subst h;unfold swA;rw[if_neg (Nat.lt_irrefl j)];rfl
  ·rfl
 have zB4:∀i,i<16->wB i 4=wA (i+1):=fun i hi=>by
  rw[hwA,hwB];funext j;unfold sqA
  split
  ·rename_i h;subst h;unfold swA;rw[if_pos (Nat.lt_succ_self j),Sh.wd_lo b hi (by decide)];rfl
  ·rename_i h;unfold swA
   by_cases h2:j<i
   ·rw[if_pos h2,if_pos (by omega)]
   ·rw[if_neg h2,if_neg (by omega)]
 have zBk:∀i k v,v=Sh.word ((b.drop (4*i)).take (k+1))->wB i (k+1)=fun j=>if j=i then v else wB i k j:=fun i k v hv=>by
  rw[hwB];funext j;unfold sqA
  by_cases h:j=i
  ·rw[if_pos h,if_pos h,hv]
  ·rw[if_neg h,if_neg h,if_neg h]
 have zBg:∀i k,wB i k i=Sh.word ((b.drop (4*i)).take k):=fun i k=>by rw[hwB];unfold sqA;rw[if_pos rfl]
 have zA1:∀i v,v=Sh.wd Sh.K256 b i->wA (i+1)=fun j=>if j=i then v else wA i j:=fun i v hv=>by
  rw[hwA];funext j;unfold swA
  by_cases h:j=i
  ·rw[if_pos h,if_pos (by omega),hv,h]
  ·rw[if_neg h]
   by_cases h2:j<i
   ·rw[if_pos h2,if_pos (by omega)]
   ·rw[if_neg h2,if_neg (by omega)]
 have zAg:∀i j,j<i->wA i j=Sh.wd Sh.K256 b j:=fun i j h=>by rw[hwA];unfold swA;rw[if_pos h]
 have hend:lst .u32 (fun j=>Int.ofNat (wA 64 j)) 0 64=lst .u32 (fun j=>Int.ofNat (W j)) 0 64:=lcg fun j _ hj=>by rw[zAg 64 j (by omega),hW]
 clear hwA hwB
 refine cof hP Tryz.func178 ⟨blq rfl,trivial⟩ (by simpa [bdL,bd]using bdb _ (bC 1)) ?_
 intro A g K hA hg hK
 obtain⟨bin,sh,cmp,_,cvt,ix,_,_,_,_,_,_,_,_,_,off,get,_,sub⟩:=A
 have f1:∀i,i<16->cmp .lss (.ofNat i) 16=true:=fun i h=>lss_t hA (b:=16) h
 have f1f:cmp .lss (.ofNat 16) 16=false:=lss_f hA (a:=16) (b:=16) (by omega)
 have f2:∀i,i<4->cmp .lss (.ofNat i) 4=true:=fun i h=>lss_t hA (b:=4) h
 have f2f:cmp .lss (.ofNat 4) 4=false:=lss_f hA (a:=4) (b:=4) (by omega)
 have f3:∀i,i<64->cmp .lss (.ofNat i) 64=true:=fun i h=>lss_t hA (b:=64) h
 have f3f:cmp .lss (.ofNat 64) 64=false:=lss_f hA (a:=64) (b:=64) (by omega)
 have f4:∀i,i<200->bin .add .i64 (.ofNat i) 1=Int.ofNat (i+1):=fun i h=>add_of hA (by omega)
 have f5:∀i,i<64->ix (.ofNat i) 64=some i:=fun i h=>ix_of hA h
 have f6:∀i,off 0 i 1=i:=fun i=>(off_of hA 0 i 1).trans (by omega)
 have f7:=fun(f:Nat->Nat) (k:Nat) (h:k<64)=>getW hA .u32 (n:=64) f h
 have f8:=fun(f g:Nat->Nat) (k v:Nat) (h:k<64) (e:g=fun j=>if j=k then v else f j)=>splW hA .u32 (n:=64) f g h e
 have f9:∀j,j<64->ix (.ofNat j) 64=some j:=fun i h=>ix_of hA h
 have f10:∀j,off o j 1=o+j:=fun j=>(off_of hA o j 1).trans (by omega)
 have f11:∀j,j<64->get C (o+j)=some (.int .u8 (.ofNat (b.getD j 0))):=fun j h=>(get_of hA _ _).trans (byA_get hC hl h)
 simp only[lst,Nat.reduceAdd]at f7 f8 hend
 cbv
 refine lpb (Nat×(Nat->Nat)) (fun s=>s.1<=16/\s.2=wA s.1) (fun s=>16-s.1) (fun s=> [(11,.int .i64 (.ofNat s.1))]) [0,2,3] (fun s=> [(2,lst .u32 (fun j=>Int.ofNat (s.2 j)) 0 64)]) (0,fun _=>0) ⟨Nat.zero_le _,z0.symm⟩ ?_ ?_
 ·exact wkih (by repeat' (first|exact trivial|refine⟨rfl,rfl,rfl,?_⟩|refine⟨rfl,rfl,bC 3,?_⟩))
 rintro⟨i,w⟩ ⟨hi,hw⟩
 change i<=16 at hi
 change w=wA i at hw
 subst hw
 by_cases h16:i<16
 ·cbv
  rw[f1 i h16]
  cbv
  refine lpb (Nat×(Nat->Nat)) (fun s=>s.1<=4/\s.2=wB i s.1) (fun s=>4-s.1) (fun s=> [(14,.int .i64 (.ofNat s.1))]) [0,2,3,4,11] (fun s=> [(2,lst .u32 (fun j=>Int.ofNat (s.2 j)) 0 64)]) (0,wA i) ⟨Nat.zero_le _,(zB0 i).symm⟩ ?_ ?_
  ·exact wkih (by repeat' (first|exact trivial|refine⟨rfl,rfl,rfl,?_⟩|refine⟨rfl,rfl,bC 3,?_⟩))
  rintro⟨k,w⟩ ⟨hk,hw⟩
  change k<=4 at hk
  change w=wB i k at hw
  subst hw
  by_cases hkb:k<4
  ·obtain⟨j4,hj4⟩:=exq (4*i)
   obtain⟨jk,hjk⟩:=exq (j4+k)
   obtain⟨x,hx⟩:=exq (Sh.word ((b.drop (4*i)).take k))
   obtain⟨y,hy⟩:=exq (b.getD jk 0)
   have hy2:y<256:=by rw[hy];exact biteA hb jk
   have hxl:x<256^3:=by
    have h1:=Sh.word_lt (b.drop (4*i)) (fun z hz=>hb z (List.mem_of_mem_drop hz)) k (by rw[List.length_drop,hl];omega)
    rw[hx]
    exact Nat.lt_of_lt_of_le h1 (Nat.pow_le_pow_right (by decide) (by omega))
   have hxy:x*256%4294967296|||y=Sh.word ((b.drop (4*i)).take (k+1)):=by
    rw[Sh.word_take _ (by rw[List.length_drop,hl];omega),<-hx,Nat.mod_eq_of_lt (show x*256<4294967296 by omega),show(256:Nat)=2^8 from rfl,or_add (s:=8) hy2,hy]
    congr 1
    rw[List.getD_eq_getElem?_getD,List.getD_eq_getElem?_getD,List.getElem?_drop,hjk,hj4]
   obtain⟨xs,hxs⟩:=exq (x*256%4294967296)
   obtain⟨v,hv⟩:=exq (xs|||y)
   have hv2:v=Sh.word ((b.drop (4*i)).take (k+1)):=by rw[hv,hxs,hxy]
   have hwn:=zBk i k v hv2
   obtain⟨wn,hwn2⟩:=exq (wB i (k+1))
   rw[<-hwn2]at hwn
   have g1:sh .shl .u32 (.ofNat x) 8=Int.ofNat xs:=(shlW hA (k:= .u32) rfl x (s:=8) (by decide)).trans (by rw[hxs];rfl)
   have g2:bin .mul .i64 4 (.ofNat i)=Int.ofNat j4:=(mulI hA (a:=4) (b:=i) (by omega)).trans (by rw[hj4])
   have g3:bin .add .i64 (.ofNat j4) (.ofNat k)=Int.ofNat jk:=(addI hA (a:=j4) (b:=k) (by omega)).trans (by rw[hjk])
   have g4:cvt .u32 (.ofNat y)=Int.ofNat y:=cvtI hA (fun h=>by cases h) (fun _=>by show y<4294967296;omega)
   have g5:bin .or .u32 (.ofNat xs) (.ofNat y)=Int.ofNat v:=(orW hA (k:= .u32) rfl (a:=xs) (b:=y) (by rw[hxs];exact Nat.mod_lt _ (by decide)) (by show y<4294967296;omega)).trans (by rw[hv])
   have g6:=f7 (wB i k) i (by omega)
   rw[zBg i k,<-hx]at g6
   have g7:=f11 jk (by omega)
   rw[<-hy]at g7
   cbv
   rw[f2 k hkb]
   cbv
   refine rgM hP hA hg fun mk _=> ?_
   cbv
   rw[f5 i (by omega)]
   cbv
   rw[f6 i,g6]
   cbv
   rw[g1,g2]
   cbv
   rw[g3]
   cbv
   rw[f9 jk (by omega)]
   cbv
   rw[f10 jk,g7]
   cbv
   rw[g4]
   cbv
   rw[g5]
   cbv
   rw[f5 i (by omega)]
   cbv
   rw[f6 i,f8 (wB i k) wn i v (by omega) hwn]
   cbv
   rw[f4 k (by omega)]
   refine⟨(k+1,wn),id,⟨hkb,hwn2⟩,(by show 4-(k+1)<4-k;omega),?_⟩
   exact wkih (by repeat' (first|exact trivial|refine⟨rfl,rfl,rfl,?_⟩|refine⟨rfl,rfl,bC 3,?_⟩))
  ·obtain rfl:k=4:=by omega
   have hwn:=zB4 i h16
   obtain⟨wn,hwn2⟩:=exq (wB i 4)
   rw[<-hwn2]at hwn⊢
   cbv
   rw[f2f]
   cbv
   rw[f4 i (by omega)]
   refine⟨(i+1,wn),id,⟨h16,hwn⟩,(by show 16-(i+1)<16-i;omega),?_⟩
   exact wkih (by repeat' (first|exact trivial|refine⟨rfl,rfl,rfl,?_⟩|refine⟨rfl,rfl,bC 3,?_⟩))
 ·obtain rfl:i=16:=by omega
  have hw16:wA 16=wA 16:=rfl
  obtain⟨w16,hw16⟩:=exq (wA 16)
  rw[<-hw16]
  cbv
  rw[f1f]
  cbv
  refine lpb (Nat×(Nat->Nat)) (fun s=>16<=s.1/\s.1<=64/\s.2=wA s.1) (fun s=>64-s.1) (fun s=> [(6,.int .i64 (.ofNat s.1))]) [0,2,3] (fun s=> [(2,lst .u32 (fun j=>Int.ofNat (s.2 j)) 0 64)]) (16,w16) ⟨Nat.le_refl _,(by show 16<=64;decide),hw16⟩ ?_ ?_
  ·exact wkih (by repeat' (first|exact trivial|refine⟨rfl,rfl,rfl,?_⟩|refine⟨rfl,rfl,bC 3,?_⟩))
  rintro⟨i,w⟩ ⟨h16,hi,hw⟩
  change 16<=i at h16
  change i<=64 at hi
  change w=wA i at hw
  subst hw
  by_cases hlt:i<64
  ·obtain⟨i16,hi16⟩:=exq (i-16)
   obtain⟨i15,hi15⟩:=exq (i-15)
   obtain⟨i7,hi7⟩:=exq (i-7)
   obtain⟨i2,hi2⟩:=exq (i-2)
   obtain⟨a,ha⟩:=exq (Sh.wd Sh.K256 b i15)
   obtain⟨c,hc⟩:=exq (Sh.wd Sh.K256 b i2)
   obtain⟨d,hd⟩:=exq (Sh.wd Sh.K256 b i16)
   obtain⟨e,he⟩:=exq (Sh.wd Sh.K256 b i7)
   have hal:a<4294967296:=by rw[ha];exact hwd _ (by omega)
   have hcl:c<4294967296:=by rw[hc];exact hwd _ (by omega)
   have hdl:d<4294967296:=by rw[hd];exact hwd _ (by omega)
   have hel:e<4294967296:=by rw[he];exact hwd _ (by omega)
   have hrl:∀x k,x<4294967296->Sh.rotr 32 x k<4294967296:=fun x k hx=>by
    unfold Sh.rotr
    exact Nat.or_lt_two_pow (n:=32) (by rw[Nat.shiftRight_eq_div_pow];exact Nat.lt_of_le_of_lt (Nat.div_le_self _ _) hx) (Nat.mod_lt _ (by decide))
   obtain⟨a1,ha1⟩:=exq (Sh.rotr 32 a 7)
   obtain⟨a2,ha2⟩:=exq (Sh.rotr 32 a 18)
   obtain⟨c1,hc1⟩:=exq (Sh.rotr 32 c 17)
   obtain⟨c2,hc2⟩:=exq (Sh.rotr 32 c 19)
   have ha1l:a1<4294967296:=by rw[ha1];exact hrl _ _ hal
   have ha2l:a2<4294967296:=by rw[ha2];exact hrl _ _ hal
   have hc1l:c1<4294967296:=by rw[hc1];exact hrl _ _ hcl
   have hc2l:c2<4294967296:=by rw[hc2];exact hrl _ _ hcl
   obtain⟨a3,ha3⟩:=exq (a/2^3)
   obtain⟨c3,hc3⟩:=exq (c/2^10)
   have ha3l:a3<4294967296:=by rw[ha3];exact Nat.lt_of_le_of_lt (Nat.div_le_self _ _) hal
   have hc3l:c3<4294967296:=by rw[hc3];exact Nat.lt_of_le_of_lt (Nat.div_le_self _ _) hcl
   obtain⟨a4,ha4⟩:=exq (a1^^^a2)
   obtain⟨c4,hc4⟩:=exq (c1^^^c2)
   have ha4l:a4<4294967296:=by rw[ha4];exact Nat.xor_lt_two_pow (n:=32) ha1l ha2l
   have hc4l:c4<4294967296:=by rw[hc4];exact Nat.xor_lt_two_pow (n:=32) hc1l hc2l
   obtain⟨a5,ha5⟩:=exq (a4^^^a3)
   obtain⟨c5,hc5⟩:=exq (c4^^^c3)
   have ha5l:a5<4294967296:=by rw[ha5];exact Nat.xor_lt_two_pow (n:=32) ha4l ha3l
   have hc5l:c5<4294967296:=by rw[hc5];exact Nat.xor_lt_two_pow (n:=32) hc4l hc3l
   obtain⟨u1,hu1⟩:=exq ((d+a5)%4294967296)
   obtain⟨u2,hu2⟩:=exq ((u1+e)%4294967296)
   obtain⟨u3,hu3⟩:=exq ((u2+c5)%4294967296)
   have hv:u3=Sh.wd Sh.K256 b i:=by
    rw[Sh.wd_hi (K:=Sh.K256) b h16 (show i<Sh.K256.ks.length from hlt),<-hi16,<-hi15,<-hi7,<-hi2,<-ha,<-hc,<-hd,<-he]
    have e1:Sh.small Sh.K256.wb Sh.K256.s0 a=a5:=by
     rw[ha5,ha4,ha3,ha1,ha2,<-Nat.shiftRight_eq_div_pow];rfl
    have e2:Sh.small Sh.K256.wb Sh.K256.s1 c=c5:=by
     rw[hc5,hc4,hc3,hc1,hc2,<-Nat.shiftRight_eq_div_pow];rfl
    rw[e1,e2,hu3,hu2,hu1]
    show _=_%4294967296
    omega
   have hR1:=cARot hP a 7 hal (by decide) a1 ha1
   have hR2:=cARot hP a 18 hal (by decide) a2 ha2
   have hR3:=cARot hP c 17 hcl (by decide) c1 hc1
   have hR4:=cARot hP c 19 hcl (by decide) c2 hc2
   have g15:=f7 (wA i) i15 (by omega)
   have g2:=f7 (wA i) i2 (by omega)
   have g16:=f7 (wA i) i16 (by omega)
   have g7:=f7 (wA i) i7 (by omega)
   rw[zAg i i15 (by omega),<-ha]at g15
   rw[zAg i i2 (by omega),<-hc]at g2
   rw[zAg i i16 (by omega),<-hd]at g16
   rw[zAg i i7 (by omega),<-he]at g7
   have q15:bin .sub .i64 (.ofNat i) 15=Int.ofNat i15:=(subI hA (a:=i) (b:=15) (by omega) (by omega)).trans (by rw[hi15])
   have q2:bin .sub .i64 (.ofNat i) 2=Int.ofNat i2:=(subI hA (a:=i) (b:=2) (by omega) (by omega)).trans (by rw[hi2])
   have q16:bin .sub .i64 (.ofNat i) 16=Int.ofNat i16:=(subI hA (a:=i) (b:=16) (by omega) (by omega)).trans (by rw[hi16])
   have q7:bin .sub .i64 (.ofNat i) 7=Int.ofNat i7:=(subI hA (a:=i) (b:=7) (by omega) (by omega)).trans (by rw[hi7])
   have r1:bin .xor .u32 (.ofNat a1) (.ofNat a2)=Int.ofNat a4:=(xorW hA (k:= .u32) rfl (a:=a1) (b:=a2) ha1l ha2l).trans (by rw[ha4])
   have r2:sh .shr .u32 (.ofNat a) 3=Int.ofNat a3:=(shrI hA (k:= .u32) (a:=a) (b:=3) (by decide)).trans (by rw[ha3])
   have r3:bin .xor .u32 (.ofNat a4) (.ofNat a3)=Int.ofNat a5:=(xorW hA (k:= .u32) rfl (a:=a4) (b:=a3) ha4l ha3l).trans (by rw[ha5])
   have r4:bin .xor .u32 (.ofNat c1) (.ofNat c2)=Int.ofNat c4:=(xorW hA (k:= .u32) rfl (a:=c1) (b:=c2) hc1l hc2l).trans (by rw[hc4])
   have r5:sh .shr .u32 (.ofNat c) 10=Int.ofNat c3:=(shrI hA (k:= .u32) (a:=c) (b:=10) (by decide)).trans (by rw[hc3])
   have r6:bin .xor .u32 (.ofNat c4) (.ofNat c3)=Int.ofNat c5:=(xorW hA (k:= .u32) rfl (a:=c4) (b:=c3) hc4l hc3l).trans (by rw[hc5])
   have r7:bin .add .u32 (.ofNat d) (.ofNat a5)=Int.ofNat u1:=(addW hA (k:= .u32) rfl d a5).trans (by rw[hu1];rfl)
   have r8:bin .add .u32 (.ofNat u1) (.ofNat e)=Int.ofNat u2:=(addW hA (k:= .u32) rfl u1 e).trans (by rw[hu2];rfl)
   have r9:bin .add .u32 (.ofNat u2) (.ofNat c5)=Int.ofNat u3:=(addW hA (k:= .u32) rfl u2 c5).trans (by rw[hu3];rfl)
   have hwn:=zA1 i u3 hv
   obtain⟨wn,hwn2⟩:=exq (wA (i+1))
   rw[<-hwn2]at hwn
   cbv
   rw[f3 i hlt]
   cbv
   refine rgM hP hA hg fun mk _=> ?_
   cbv
   rw[q15]
   cbv
   rw[f5 i15 (by omega)]
   cbv
   rw[f6 i15,g15]
   cbv
   rw[q2]
   cbv
   rw[f5 i2 (by omega)]
   cbv
   rw[f6 i2,g2]
   cbv
   refine cva rfl hg rfl rfl hR1 ?_
   rintro _ _ _ rfl
   cbv
   refine cva rfl hg rfl rfl hR2 ?_
   rintro _ _ _ rfl
   cbv
   rw[r1,r2]
   cbv
   rw[r3]
   cbv
   refine cva rfl hg rfl rfl hR3 ?_
   rintro _ _ _ rfl
   cbv
   refine cva rfl hg rfl rfl hR4 ?_
   rintro _ _ _ rfl
   cbv
   rw[r4,r5]
   cbv
   rw[r6]
   cbv
   refine rgM hP hA hg fun mk _=> ?_
   cbv
   rw[q16]
   cbv
   rw[f5 i16 (by omega)]
   cbv
   rw[f6 i16,g16]
   cbv
   rw[r7]
   cbv
   rw[q7]
   cbv
   rw[f5 i7 (by omega)]
   cbv
   rw[f6 i7,g7]
   cbv
   rw[r8]
   cbv
   rw[r9]
   cbv
   rw[f5 i (by omega)]
   cbv
   rw[f6 i,f8 (wA i) wn i u3 (by omega) hwn]
   cbv
   rw[f4 i (by omega)]
   refine⟨(i+1,wn),id,⟨by show 16<=i+1;omega,hlt,hwn2⟩,(by show 64-(i+1)<64-i;omega),?_⟩
   exact wkih (by repeat' (first|exact trivial|refine⟨rfl,rfl,rfl,?_⟩|refine⟨rfl,rfl,bC 3,?_⟩))
  ·obtain rfl:i=64:=by omega
   obtain⟨wr,hwr⟩:=exq (wA 64)
   rw[<-hwr]at hend⊢
   cbv
   rw[f3f]
   cbv
   rw[hend]
   exact hK _ _ _ rfl
end Go.Proofs.YtdhmihfefgcbeaaGreat
