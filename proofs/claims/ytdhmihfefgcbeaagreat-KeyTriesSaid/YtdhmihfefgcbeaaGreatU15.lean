/-
  This text proves what these texts prove: Ge, Gf, Gg, Gh, ShA, ShB, Ha. Conditions: those of each theorem.
-/
import Derived.Test.YtdhmihfefgcbeaaGreatU14
import Derived.Test.YtdhmihfefgcbeaaGreatU06
import Derived.Test.YtdhmihfefgcbeaaGreatU07
set_option maxHeartbeats 8000000
namespace Go.Proofs.YtdhmihfefgcbeaaGreat
open Go.Vg Go.RowKit
set_option maxRecDepth 200000
set_option cbv.maxSteps 100000000
def dgt(x n j:Nat):Nat:=x/2^((n-1-j)*4)%16
theorem bytesI64{P:Program}(hP:P=Tryz.prog):(P.info? 3).map (·.bytes)=some 8:=by
 subst hP;kernel_rfl
def RowV(l es:Nat)(t:TypeId)(i c:Nat)(C:List SV)(v:SV)(B:LL):Prop:=(v= .nils/\B=[]/\i=0)\/(v= .slice l 0 i c/\B=[⟨l,C,t⟩]/\i<=c/\C.length=c*es/\c<=maxLen)
theorem cWide{P:Program}(hP:P=Tryz.prog):Con P 119 [.int .i64 4] [] 0 [] (fun v _ _=>v= .bool true):=by
 refine cof hP Tryz.func119 (bdb _ rfl) (bkb rfl) ?_
 intro A g K hA hg hK
 obtain⟨_,_,cmp⟩:=A
 have e1:cmp .geq 4 1=true:=geq_t hA (a:=4) (b:=1) (by decide)
 have e2:cmp .leq 4 6=true:=leq_t hA (a:=4) (b:=6) (by decide)
 cbv
 rw[e1]
 cbv
 rw[e2]
 exact hK _ _ _ rfl
theorem cDigits{P:Program}(hP:P=Tryz.prog)(a:Nat->Nat)(ha:Wn 9 a)(b n:Nat)(hb:1<=b/\b<=576)(hl:V 9 a<2^b)(hn:n=(b+3)/4):
 Con P 91 [.agg (ws a 9),.int .i64 (.ofNat b),.int .i64 4] [] 0 [] (fun v L q=>∃c C,v= .tup [.slice 1 0 n c,.int .i64 0]/\L=[⟨0,ws a 9,25⟩,⟨1,C,3⟩]/\q=2/\n<=c/\C.length=c/\(∀j,j<n->C[j]? =some (.int .i64 (.ofNat (dgt (V 9 a) n j))))/\∀m,bdLB m C=true):=by
 obtain⟨bl,hbl⟩:=bl_ex (V 9 a)
 have hBits:=cBits hP a ha bl hbl
 have hblb:bl<=b:=by
  rcases Nat.lt_or_ge b bl with h|h
  ·have h1:=hbl.2 (by omega)
   have h2:=Nat.pow_le_pow_right (n:=2) (by decide) (show b<=bl-1 by omega)
   omega
  ·exact h
 have hWide:=cWide hP
 have hn1:1<=n:=by omega
 refine cof hP Tryz.func91 (bdb _ rfl) (bkb rfl) ?_
 intro A g K hA hg hK
 obtain⟨bin,sh,cmp,_,cvt,_,nn,nz,bnot,_,_,_,_,_,_,_,_,_,sub⟩:=A
 have e1:cmp .lss (.ofNat b) 1=false:=lss_f hA (b:=1) (by omega)
 have e2:cmp .gtr (.ofNat b) 576=false:=gtr_f hA (b:=576) (by omega)
 have e3:cmp .gtr (.ofNat bl) (.ofNat b)=false:=gtr_f hA (by omega)
 have e4:bnot true=false:=bnot_of hA true
 obtain⟨b4,hb4⟩:=exq (b+4)
 obtain⟨b3,hb3⟩:=exq (b+3)
 have e5:bin .add .i64 (.ofNat b) 4=Int.ofNat b4:=(addI hA (a:=b) (b:=4) (by omega)).trans (by rw[hb4])
 have e6:bin .sub .i64 (.ofNat b4) 1=Int.ofNat b3:=(subI hA (a:=b4) (b:=1) (by omega) (by omega)).trans (by rw[hb3,hb4];rfl)
 have e7:bin .quo .i64 (.ofNat b3) 4=Int.ofNat n:=(quoI hA (a:=b3) (b:=4) (by omega)).trans (by rw[hn,hb3])
 have e8:nz 4=true:=nz_of hA (by decide)
 have e9:bin .sub .i64 (.ofNat n) 1=(n:Int)-1-(0:Nat):=(subI hA (a:=n) (b:=1) (by omega) (by omega)).trans (by simp;omega)
 have e10:nn 4=true:=nn_t hA 4
 have e11:sh .shl .u64 1 4=16:=(shlW hA (k:= .u64) rfl 1 (s:=4) (by decide)).trans (by rfl)
 have e12:bin .sub .u64 16 1=15:=(subW hA (k:= .u64) rfl (a:=16) (b:=1) (by decide)).trans (by rfl)
 cbv
 refine cva rfl hg rfl rfl hWide ?_
 rintro _ _ _ rfl
 cbv
 rw[e4]
 cbv
 rw[e1]
 cbv
 rw[e2]
 cbv
 refine cva rfl hg rfl rfl hBits ?_
 rintro _ _ _ rfl
 cbv
 rw[e3]
 cbv
 rw[e5]
 cbv
 rw[e6,e8]
 cbv
 rw[e7,e9]
 obtain⟨z0,hz0⟩:=exq ((n:Int)-1-(0:Nat):Int)
 rw[<-hz0]
 refine⟨Nat×List SV×Nat×Int×SV×LL,fun s=>s.1<=n/\s.2.2.2.1=(n:Int)-1-s.1/\RowV 1 1 3 s.1 s.2.2.1 s.2.1 s.2.2.2.2.1 s.2.2.2.2.2/\(∀j,j<s.1->s.2.1[j]? =some (.int .i64 (.ofNat (dgt (V 9 a) n j))))/\(∀m,bdLB m s.2.1=true),fun s=>n-s.1,
  fun s=> [(1,.int .i64 (.ofNat b)),(2,.int .i64 4),(3,.ptr 0 0),(6,.nils),(7,.int .i64 0),(8,s.2.2.2.2.1),(9,.int .i64 s.2.2.2.1)],
  fun s=>⟨0,ws a 9,25⟩::s.2.2.2.2.2,2,⟨(0,[],0,z0,.nils,[]),id,⟨Nat.zero_le _,hz0,Or.inl ⟨rfl,rfl,rfl⟩,fun j h=>absurd h (Nat.not_lt_zero j),fun _=>rfl⟩,?_⟩,?_⟩
 ·exact wkid
 rintro⟨i,C,c,z,v,B⟩ ⟨hi,hz,hR,hCd,hCb⟩
 change i<=n at hi
 change z=(n:Int)-1-i at hz
 change RowV 1 1 3 i c C v B at hR
 change ∀j,j<i->C[j]? =some (.int .i64 (.ofNat (dgt (V 9 a) n j)))at hCd
 change ∀m,bdLB m C=true at hCb
 by_cases hlt:i<n
 ·obtain⟨at_,hat⟩:=exq (n-1-i)
  obtain rfl:z=Int.ofNat at_:=by rw[hz,hat];simp;omega
  obtain⟨a4,ha4⟩:=exq (at_*4)
  have g1:cmp .geq (.ofNat at_) 0=true:=geq_t hA (b:=0) (Nat.zero_le _)
  have g2:bin .mul .i64 (.ofNat at_) 4=Int.ofNat a4:=(mulI hA (a:=at_) (b:=4) (by omega)).trans (by rw[ha4])
  obtain⟨x,wx,vx⟩:=exV 9 (V 9 a/2^a4) (Nat.lt_of_le_of_lt (Nat.div_le_self _ _) (V_lt ha))
  have hShr:=cShr hP a x ha wx a4 (by omega) vx
  obtain⟨dd,hdd⟩:=exq (dgt (V 9 a) n i)
  have hx0:x 0%16=dd:=by
   rw[hdd]
   unfold dgt
   rw[<-hat,<-ha4,<-vx]
   have h1:V 9 x%0x10000000000000000=x 0:=by
    have:=Dg.dig_num (b:=0x10000000000000000) (by decide) 9 wx 0 (by decide)
    rw[<-this]
    unfold Dg.dig
    rw[Nat.pow_zero,Nat.div_one];rfl
   rw[<-h1]
   exact Nat.mod_mod_of_dvd _ (by decide)
  have g3:bin .and .u64 (.ofNat (x 0)) 15=Int.ofNat dd:=(andW hA (k:= .u64) rfl (a:=x 0) (b:=15) (wx 0 (by decide)) (by decide)).trans (by rw[<-hx0];exact congrArg Int.ofNat (Nat.and_two_pow_sub_one_eq_mod (x 0) 4))
  have g4:cvt .i64 (.ofNat dd)=Int.ofNat dd:=cvtI hA (fun _=>by show dd<2^63;omega) (fun h=>by cases h)
  have g5:bin .sub .i64 (.ofNat at_) 1=(n:Int)-1-(i+1:Nat):=by
   have:bin .sub .i64 (.ofNat at_) 1=IntKind.i64.wrap (Int.ofNat at_-1):=congrFun (congrFun (congrFun (congrFun (bin_of hA) .sub) .i64) (Int.ofNat at_)) 1
   rw[this,hat]
   simp only[IntKind.wrap,IntKind.signed,IntKind.bits]
   simp
   omega
  obtain⟨z',hz'⟩:=exq ((n:Int)-1-(i+1:Nat):Int)
  rw[<-hz']at g5
  rcases hR with⟨rfl,rfl,rfl⟩|⟨rfl,rfl,hic,hCl,hc⟩
  ·cbv
   rw[g1]
   cbv
   rw[g2]
   cbv
   refine step_min hg rfl rfl rfl rfl (r:=Int.ofNat a4) (if_neg (show ¬ (576:Int)<(a4:Int) by omega)).symm ?_
   cbv
   refine cva rfl hg rfl rfl hShr ?_
   rintro _ _ _ rfl
   refine⟨by simp[bd,bdL,ws,lst],?_⟩
   cbv
   refine reg_cA (hP▸tblOk) hA hg (hP▸mixed) rfl rfl [(10,[])] rfl ?_
   cbv
   rw[e10]
   cbv
   rw[e11]
   cbv
   rw[e12]
   cbv
   rw[g3]
   cbv
   rw[g4]
   cbv
   refine step_append_nil (hP▸tblOk) hg rfl rfl (show tyT 64=some _ from rfl) rfl (show tyT 3=some _ from rfl) (bytesI64 hP) (by decide) rfl (show ev _ _=some (.slice 3 0 1 1)from rfl) (show find _ 3=some _ from rfl) (by exact Nat.le_refl 1) (by decide) (by decide) (by decide) ?_
   intro c' hc1 hc2
   obtain⟨Y,hY⟩:=exq (([SV.int .i64 (.ofNat dd)].drop 0).take (1*1)++rep (c'-1) [SV.int .i64 0])
   rw[<-hY]
   cbv
   rw[g5]
   have hYl:Y.length=c':=by rw[hY];simp[rep_length];omega
   have hYb:∀m,bdLB m Y=true:=fun m=>by rw[hY];exact bap rfl (rep_bdLB rfl _)
   refine⟨(1,Y,c',z',.slice 1 0 1 c',[⟨1,Y,3⟩]),fun l=>if l=1 then 4 else l,⟨hn1,hz',Or.inr ⟨rfl,rfl,hc1,by rw[hYl,Nat.mul_one],hc2⟩,fun j hj=> ?_,hYb⟩,(by show n-1<n-0;omega),?_⟩
   ·have hj:j<1:=hj
    obtain rfl:j=0:=by omega
    show Y[0]? =_
    rw[hY,hdd];rfl
   ·exact wkr (by repeat' (first|exact trivial|refine⟨rfl,rfl,?_⟩)) ⟨rfl,rfl,rfl,rfl,by rw[rcl Y (hYb 0)];rfl,rfl,rfl,hYb 2,trivial⟩ rfl rfl rfl
  ·cbv
   rw[g1]
   cbv
   rw[g2]
   cbv
   refine step_min hg rfl rfl rfl rfl (r:=Int.ofNat a4) (if_neg (show ¬ (576:Int)<(a4:Int) by omega)).symm ?_
   cbv
   refine cva rfl hg rfl rfl hShr ?_
   rintro _ _ _ rfl
   refine⟨by simp[bd,bdL,ws,lst],?_⟩
   cbv
   refine reg_cA (hP▸tblOk) hA hg (hP▸mixed) rfl rfl [(10,[])] rfl ?_
   cbv
   rw[e10]
   cbv
   rw[e11]
   cbv
   rw[e12]
   cbv
   rw[g3]
   cbv
   rw[g4]
   cbv
   refine step_append_own (hP▸tblOk) hg rfl rfl (show tyT 64=some _ from rfl) rfl (show tyT 3=some _ from rfl) (bytesI64 hP) (by decide) (show ev _ _=some (.slice 1 0 i c)from rfl) (show find _ 1=some _ from rfl) rfl hic hCl hc (show ev _ _=some (.slice 3 0 1 1)from rfl) (show find _ 3=some _ from rfl) (by exact Nat.le_refl 1) rfl (by simp only[maxLen];omega) (by omega) ?_
   intro c' tail h1 h2 h3 h4
   obtain⟨Y,hY⟩:=exq (C.take (i*1)++([SV.int .i64 (.ofNat dd)].drop 0).take (1*1)++tail)
   rw[<-hY]
   obtain⟨i1,hi1⟩:=exq (i+1)
   rw[<-hi1]at h1 h3⊢
   cbv
   rw[g5]
   have hYl:Y.length=c':=by
    rw[hY,List.length_append,List.length_append,h3,List.length_take,hCl]
    simp;omega
   have hYb:∀m,bdLB m Y=true:=fun m=>by rw[hY];exact bap (bap (bdLB_take (hCb m)) rfl) (h4 m (hCb m) rfl)
   refine⟨(i1,Y,c',z',.slice 1 0 i1 c',[⟨1,Y,3⟩]),fun l=>if l=1 then 4 else l,⟨by show i1<=n;omega,by rw[hi1];exact hz',Or.inr ⟨rfl,rfl,h1,by rw[hYl,Nat.mul_one],h2⟩,fun j hj=> ?_,hYb⟩,(by show n-i1<n-i;omega),?_⟩
   ·have hj:j<i1:=hj
    show Y[j]? =_
    rw[hY,Nat.mul_one,List.append_assoc]
    by_cases hji:j<i
    ·rw[List.getElem?_append_left (by rw[List.length_take,hCl];omega),List.getElem?_take,if_pos hji]
     exact hCd j hji
    ·obtain rfl:j=i:=by omega
     rw[List.getElem?_append_right (by rw[List.length_take,hCl];omega),List.length_take,hCl,show j-min j (c*1)=0 by omega,hdd]
     rfl
   ·exact wkr (by repeat' (first|exact trivial|refine⟨rfl,rfl,?_⟩)) ⟨rfl,rfl,rfl,rfl,by rw[rcl Y (hYb 0)];rfl,rfl,rfl,hYb 2,trivial⟩ rfl rfl rfl
 ·obtain rfl:i=n:=by omega
  have g1:cmp .geq z 0=false:=by
   have:cmp .geq z 0=boolCmp .geq z 0:=congrFun (congrFun (congrFun (cmp_of hA) .geq) z) 0
   rw[this]
   show decide (z≥0)=false
   exact decide_eq_false (by rw[hz];omega)
  rcases hR with⟨rfl,rfl,rfl⟩|⟨rfl,rfl,hic,hCl,hc⟩
  ·omega
  cbv
  rw[g1]
  cbv
  exact hK _ _ _ ⟨c,C,rfl,rfl,rfl,hic,by rw[hCl,Nat.mul_one],hCd,hCb⟩
def ptS(X Y:Nat->Nat)(inf:Bool):List SV:=ws X 9++ws Y 9++[.bool inf]
def TabC(k:Nat)(Q:EC.Pt (EC.cp k))(n:Nat)(C:List SV):Prop:=
 ∀i,i<n->∃X Y inf,PtW k (EC.smul EC.finv (EC.ca k) i Q) X Y inf/\(C.drop (i*19)).take 19=ptS X Y inf
theorem bytesPt{P:Program}(hP:P=Tryz.prog):(P.info? 35).map (·.bytes)=some 152:=by
 subst hP;kernel_rfl
theorem ptS_len(X Y:Nat->Nat)(inf:Bool):(ptS X Y inf).length=19:=rfl
theorem TabC.app{k:Nat}{Q:EC.Pt (EC.cp k)}{n:Nat}{C tail:List SV}{c:Nat}(h:TabC k Q n C)(hl:C.length=c*19)(hn:n<=c){X Y:Nat->Nat}{inf:Bool}(hp:PtW k (EC.smul EC.finv (EC.ca k) n Q) X Y inf):
 TabC k Q (n+1) (C.take (n*19)++ptS X Y inf++tail):=by
 have hlt:(C.take (n*19)).length=n*19:=by rw[List.length_take,hl];omega
 intro i hi
 by_cases h1:i<n
 ·obtain⟨X',Y',inf',q1,q2⟩:=h i h1
  refine⟨X',Y',inf',q1,?_⟩
  rw[<-q2,List.append_assoc,List.drop_append_of_le_length (by omega),List.take_append_of_le_length (by rw[List.length_drop];omega),List.drop_take,List.take_take]
  congr 1;omega
 ·obtain rfl:i=n:=by omega
  refine⟨X,Y,inf,hp,?_⟩
  rw[List.append_assoc,List.drop_left' hlt,List.take_append_of_le_length (by rw[ptS_len];exact Nat.le_refl _)]
  exact List.take_of_length_le (by rw[ptS_len];exact Nat.le_refl _)
section
variable {k:Nat}(hk:1<=k/\k<=15){p a b n gx gy th d:Nat->Nat}{m s1 bits size:Nat}{leg:Bool}(hC:Cv k p a b n gx gy th bits size)
include hk hC
theorem cTabOfL{P:Program}(hP:P=Tryz.prog)(hD:Dv p d m s1){Q:EC.Pt (EC.cp k)}(o:EC.OnC (EC.ca k) (EC.cb k) Q){x y:Nat->Nat}{inf:Bool}(hQ:PtW k Q x y inf)(N:Nat)(hN:1<=N/\N<=1000):
 Con P 66 [.ptr 0 0,.agg (ws x 9++ws y 9++[.bool inf]),.int .i64 (.ofNat N)] (cvB k p a b n gx gy th d m s1 bits size leg) 3 [] (fun v L q=>∃c C,v= .ptr 4 0/\find L 4=some ⟨4,[.slice 7 0 N c],165⟩/\find L 7=some ⟨7,C,35⟩/\find L 0=find (cvB k p a b n gx gy th d m s1 bits size leg) 0/\find L 1=find (cvB k p a b n gx gy th d m s1 bits size leg) 1/\find L 2=find (cvB k p a b n gx gy th d m s1 bits size leg) 2/\q=8/\N<=c/\C.length=c*19/\TabC k Q N C/\∀m,bdLB m C=true):=by
 obtain⟨X1,Y1,Z1,t1,hTr⟩:=cTripleP hk hP hQ
 obtain⟨X0,Y0,Z0,t0,hNo⟩:=cNoneP hk hP
 have bPt:=bytesPt hP
 refine cof hP Tryz.func66 (bdb _ rfl) (bkb rfl) ?_
 intro A g K hA hg hK
 obtain⟨bin,_,cmp⟩:=A
 have f1:∀i,i<N->cmp .lss (.ofNat i) (.ofNat N)=true:=fun i h=>lss_t hA h
 have f2:cmp .lss (.ofNat N) (.ofNat N)=false:=lss_f hA (by omega)
 have f3:∀i,i<N->bin .add .i64 (.ofNat i) 1=Int.ofNat (i+1):=fun i h=>add_of hA (by omega)
 cbv
 refine cva rfl hg rfl rfl hTr ?_
 rintro _ _ _ rfl
 refine⟨by simp[bd,bdL,ws,lst],?_⟩
 cbv
 refine cva rfl hg rfl rfl hNo ?_
 rintro _ _ _ rfl
 refine⟨by simp[bd,bdL,ws,lst],?_⟩
 cbv
 refine⟨Nat×(Nat->Nat)×(Nat->Nat)×(Nat->Nat)×List SV×Nat×SV×LL,fun s=>s.1<=N/\TrW k (EC.smul EC.finv (EC.ca k) s.1 Q) s.2.1 s.2.2.1 s.2.2.2.1/\RowV 7 19 35 s.1 s.2.2.2.2.2.1 s.2.2.2.2.1 s.2.2.2.2.2.2.1 s.2.2.2.2.2.2.2/\TabC k Q s.1 s.2.2.2.2.1/\(∀m,bdLB m s.2.2.2.2.1=true),fun s=>N-s.1,
  fun s=> [(0,.ptr 0 0),(6,.nilp),(7,.ptr 4 0),(8,.ptr 5 0),(9,.ptr 6 0),(15,.int .i64 (.ofNat N)),(16,.int .i64 (.ofNat s.1))],
  fun s=>cvB k p a b n gx gy th d m s1 bits size leg++[⟨4,[s.2.2.2.2.2.2.1],165⟩,⟨5,ws X1 9++ws Y1 9++ws Z1 9,157⟩,⟨6,ws s.2.1 9++ws s.2.2.1 9++ws s.2.2.2.1 9,157⟩]++s.2.2.2.2.2.2.2,8,⟨(0,X0,Y0,Z0,[],0,.nils,[]),id,⟨Nat.zero_le _,t0,Or.inl ⟨rfl,rfl,rfl⟩,fun i h=>absurd h (Nat.not_lt_zero i),fun _=>rfl⟩,?_⟩,?_⟩
 ·exact wkid
 rintro⟨i,X,Y,Z,C,c,v,B⟩ ⟨hi,ht,hR,hT,hb⟩
 change i<=N at hi
 change TrW k (EC.smul EC.finv (EC.ca k) i Q) X Y Z at ht
 change RowV 7 19 35 i c C v B at hR
 change TabC k Q i C at hT
 change ∀m,bdLB m C=true at hb
 by_cases hlt:i<N
 ·have oi:=EC.smul_on (EC.okc k) o i
  obtain⟨px,py,pinf,hpt⟩:∃px py pinf,PtW k (EC.smul EC.finv (EC.ca k) i Q) px py pinf:=⟨_,_,_,(exPt hk _).choose_spec.choose_spec⟩
  have hPl:=cPlainP hk hC (leg:=leg) hP hD ht hpt
  obtain⟨X',Y',Z',ht',hSum⟩:=cSumP hk hC (leg:=leg) hP hD oi o ht t1
  rcases hR with⟨rfl,rfl,rfl⟩|⟨rfl,rfl,hic,hCl,hc⟩
  ·cbv
   rw[f1 0 hlt]
   cbv
   refine reg_cA (hP▸tblOk) hA hg (hP▸mixed) rfl rfl [(9,[0])] rfl ?_
   cbv
   refine stepD (enr rfl hg rfl rfl hPl id rfl ⟨rfl,rfl,rfl,trivial⟩ (fun _ _ _ h=>h) (by simp[bd,bdL,ws,lst])) ?_
   cbv
   refine step_app_nil (hP▸tblOk) hg rfl rfl (show tyT 163=some _ from rfl) rfl (show tyT 35=some _ from rfl) bPt (by decide) rfl (show ev _ _=some (.slice 8 0 1 1)from rfl) (show find _ 8=some _ from rfl) (by exact Nat.le_refl 19) (by decide) (by decide) (by decide) ?_
   intro c' W hW hc1 hc2 hWl hWb
   have hWb:∀m,bdLB m W=true:=fun m=>hWb m rfl rfl
   have hWT:TabC k Q 1 W:=by
    have:=TabC.app (C:=[]) (c:=0) (n:=0) (tail:=rep (c'-1) (ptS (fun _=>0) (fun _=>0) false)) (fun i h=>absurd h (Nat.not_lt_zero i)) rfl (Nat.le_refl 0) hpt
    rw[hW];exact this
   cbv
   refine cro rfl hg rfl rfl hSum id rfl ⟨rfl,rfl,rfl,trivial⟩ ?_
   rintro _ _ _ rfl
   refine⟨by simp[bd,bdL,ws,lst],by simp[bd,bdL,ren,renL,ws,lst],?_⟩
   cbv
   rw[f3 0 hlt]
   refine⟨(1,X',Y',Z',W,c',.slice 7 0 1 c',[⟨7,W,35⟩]),fun l=>if l=7 then 9 else l,⟨hlt,ht',Or.inr ⟨rfl,rfl,hc1,hWl,hc2⟩,hWT,hWb⟩,(by show N-1<N-0;omega),?_⟩
   exact wkr (by repeat' (first|exact trivial|refine⟨rfl,rfl,?_⟩)) ⟨rfl,rfl,rfl,rfl,rfl,rfl,rfl,rfl,rfl,rfl,rfl,rfl,rfl,rfl,rfl,rfl,rfl,rfl,rfl,rfl,rfl,rfl,rfl,rfl,by rw[rcl W (hWb 0)];rfl,rfl,rfl,hWb 8,trivial⟩ rfl rfl rfl
  ·cbv
   rw[f1 i hlt]
   cbv
   refine reg_cA (hP▸tblOk) hA hg (hP▸mixed) rfl rfl [(9,[0])] rfl ?_
   cbv
   refine stepD (enr rfl hg rfl rfl hPl id rfl ⟨rfl,rfl,rfl,trivial⟩ (fun _ _ _ h=>h) (by simp[bd,bdL,ws,lst])) ?_
   cbv
   refine step_app_own (hP▸tblOk) hg rfl rfl (show tyT 163=some _ from rfl) rfl (show tyT 35=some _ from rfl) bPt (by decide) (show ev _ _=some (.slice 7 0 i c)from rfl) (show find _ 7=some _ from rfl) rfl hic hCl hc (show ev _ _=some (.slice 8 0 1 1)from rfl) (show find _ 8=some _ from rfl) (by exact Nat.le_refl 19) rfl (by simp only[maxLen];omega) (by omega) ?_
   intro c' tail W i1 hW hi1 h1 h2 hWl hWb
   have hWb:∀m,bdLB m W=true:=fun m=>hWb m (hb m) rfl rfl
   have f3i:bin .add .i64 (.ofNat i) 1=Int.ofNat i1:=by rw[hi1];exact f3 i hlt
   have hWT:TabC k Q i1 W:=by rw[hW,hi1];exact TabC.app (tail:=tail) hT hCl hic hpt
   have ht':TrW k (EC.smul EC.finv (EC.ca k) i1 Q) X' Y' Z':=by rw[hi1];exact ht'
   cbv
   refine cro rfl hg rfl rfl hSum id rfl ⟨rfl,rfl,rfl,trivial⟩ ?_
   rintro _ _ _ rfl
   refine⟨by simp[bd,bdL,ws,lst],by simp[bd,bdL,ren,renL,ws,lst],?_⟩
   cbv
   rw[f3i]
   refine⟨(i1,X',Y',Z',W,c',.slice 7 0 i1 c',[⟨7,W,35⟩]),fun l=>if l=7 then 9 else l,⟨by show i1<=N;omega,ht',Or.inr ⟨rfl,rfl,h1,hWl,h2⟩,hWT,hWb⟩,(by show N-i1<N-i;omega),?_⟩
   exact wkr (by repeat' (first|exact trivial|refine⟨rfl,rfl,?_⟩)) ⟨rfl,rfl,rfl,rfl,rfl,rfl,rfl,rfl,rfl,rfl,rfl,rfl,rfl,rfl,rfl,rfl,rfl,rfl,rfl,rfl,rfl,rfl,rfl,rfl,by rw[rcl W (hWb 0)];rfl,rfl,rfl,hWb 8,trivial⟩ rfl rfl rfl
 ·obtain rfl:i=N:=by omega
  rcases hR with⟨rfl,rfl,rfl⟩|⟨rfl,rfl,hic,hCl,hc⟩
  ·omega
  cbv
  rw[f2]
  cbv
  exact hK _ _ _ ⟨c,C,rfl,rfl,rfl,rfl,rfl,rfl,rfl,hic,hCl,hT,hb⟩
theorem cTabOf{P:Program}(hP:P=Tryz.prog)(hD:Dv p d m s1){Q:EC.Pt (EC.cp k)}(o:EC.OnC (EC.ca k) (EC.cb k) Q){x y:Nat->Nat}{inf:Bool}(hQ:PtW k Q x y inf)(N:Nat)(hN:1<=N/\N<=1000):
 Con P 66 [.ptr 0 0,.agg (ws x 9++ws y 9++[.bool inf]),.int .i64 (.ofNat N)] (cvB k p a b n gx gy th d m s1 bits size leg) 3 [] (fun v L q=>∃c C,v= .ptr 3 0/\L=cvB k p a b n gx gy th d m s1 bits size leg++[⟨3,[.slice 4 0 N c],165⟩,⟨4,C,35⟩]/\q=5/\N<=c/\C.length=c*19/\TabC k Q N C/\∀m,bdLB m C=true):=by
 refine(cTabOfL hk hC hP hD o hQ N hN).weak fun v L q ⟨c,C,h1,h2,h3,h4,h5,h6,h7,h8,h9,h10,h11⟩=>⟨fun l=>if l=3 then 4 else if l=4 then 7 else l,.ptr 3 0,_,5,?_,c,C,rfl,rfl,rfl,h8,h9,h10,h11⟩
 subst h1 h7
 exact wkr ⟨rfl,rfl,trivial⟩ ⟨h4,rfl,rfl,rfl,h5,rfl,rfl,rfl,h6,rfl,rfl,rfl,h2,rfl,rfl,rfl,(by rw[rcl C (h11 0)];exact h3),rfl,rfl,h11 5,trivial⟩ rfl rfl rfl
end
theorem cIndexN'{P:Program}(hP:P=Tryz.prog)(i:Int):Con P 122 [.nilp,.int .i64 i] [] 0 [] (fun v _ _=>v= .int .i64 1):=by
 refine cof hP Tryz.func122 (bdb _ rfl) (bkb rfl) ?_
 intro A g K hA hg hK
 cases A
 cbv
 exact hK _ _ _ rfl
theorem cPickN{P:Program}(hP:P=Tryz.prog){k:Nat}{Q:EC.Pt (EC.cp k)}{N c:Nat}{C:List SV}(hN:N<=c)(hN1:N<=1000)(hl:C.length=c*19)(hT:TabC k Q N C)(hb:∀m,bdLB m C=true)(i:Nat)(hi:i<N):
 ∃X Y inf,PtW k (EC.smul EC.finv (EC.ca k) i Q) X Y inf/\Con P 94 [.ptr 0 0,.nilp,.int .i64 (.ofNat i)] [⟨0,[.slice 1 0 N c],165⟩,⟨1,C,35⟩] 2 [] (fun v _ _=>v= .tup [.agg (ptS X Y inf),.int .i64 0]):=by
 obtain⟨fX,fY,fI,hf⟩:∃ (fX fY:Nat->Nat->Nat) (fI:Nat->Bool),∀j,j<N->PtW k (EC.smul EC.finv (EC.ca k) j Q) (fX j) (fY j) (fI j)/\(C.drop (j*19)).take 19=ptS (fX j) (fY j) (fI j):=by
  refine⟨fun j=>if h:j<N then(hT j h).choose else fun _=>0,fun j=>if h:j<N then(hT j h).choose_spec.choose else fun _=>0,fun j=>if h:j<N then(hT j h).choose_spec.choose_spec.choose else false,fun j hj=> ?_⟩
  simp only[dif_pos hj]
  exact(hT j hj).choose_spec.choose_spec.choose_spec
 refine⟨fX i,fY i,fI i,(hf i hi).1,?_⟩
 refine cof hP Tryz.func94 ⟨blq rfl,trivial,trivial,trivial⟩ (by simpa [bdL,bd]using bdb _ (hb 2)) ?_
 intro A g K hA hg hK
 obtain⟨bin,_,cmp,_,cvt,ix,_,_,_,_,_,_,_,_,nat,off,_,_,sub⟩:=A
 have f1:cmp .lss (.ofNat i) 0=false:=lss_f hA (b:=0) (Nat.not_lt_zero i)
 have f2:nat N=Int.ofNat N:=nat_of hA N
 have f3:cmp .geq (.ofNat i) (.ofNat N)=false:=geq_f hA (by omega)
 have f4:∀j,j<N->cmp .lss (.ofNat j) (.ofNat N)=true:=fun j h=>lss_t hA h
 have f5:cmp .lss (.ofNat N) (.ofNat N)=false:=lss_f hA (by omega)
 have f6:∀j,j<N->ix (.ofNat j) N=some j:=fun j h=>ix_of hA h
 have f7:∀j,off 0 j 19=j*19:=fun j=>(off_of hA 0 j 19).trans (by omega)
 have f8:∀j,j<N->sub C (j*19) 19=some (ptS (fX j) (fY j) (fI j)):=fun j h=>sub_cs hA (by rw[hl];omega) (hf j h).2
 have f9:∀j,j<N->cvt .u64 (.ofNat j)=Int.ofNat j:=fun j h=>cvtI hA (fun h=>by cases h) (fun _=>by show j<2^64;omega)
 have f10:∀j,j<N->bin .add .i64 (.ofNat j) 1=Int.ofNat (j+1):=fun j h=>add_of hA (by omega)
 have f11:∀a m:Nat,a<0x10000000000000000->m<0x10000000000000000->bin .and .u64 (.ofNat a) (.ofNat m)=Int.ofNat (a&&&m):=fun a m h1 h2=>andW hA (k:= .u64) rfl h1 h2
 have f12:∀a m:Nat,a<0x10000000000000000->m<0x10000000000000000->bin .or .u64 (.ofNat a) (.ofNat m)=Int.ofNat (a|||m):=fun a m h1 h2=>orW hA (k:= .u64) rfl h1 h2
 simp only[ptS,ws,lst,Nat.reduceAdd,List.cons_append,List.nil_append]at f8
 cbv
 rw[f1]
 cbv
 rw[f2,f3]
 cbv
 rw[f2]
 refine lpb (Nat×(Nat->Nat)×(Nat->Nat)×Nat) (fun s=>s.1<=N/\(s.2.1=if i<s.1 then fX i else fun _=>0)/\(s.2.2.1=if i<s.1 then fY i else fun _=>0)/\s.2.2.2=if i<s.1/\fI i=true then 1 else 0) (fun s=>N-s.1)
  (fun s=> [(36,.int .i64 (.ofNat s.1)),(9,.int .u64 (.ofNat s.2.2.2))]) [0,1,2,6,7,8,34,35] (fun s=> [(3,ws s.2.1 9++ws s.2.2.1 9++[.bool false])]) (0,fun _=>0,fun _=>0,0) ⟨Nat.zero_le _,(if_neg (Nat.not_lt_zero i)).symm,(if_neg (Nat.not_lt_zero i)).symm,(if_neg (fun h=>Nat.not_lt_zero i h.1)).symm⟩ ?_ ?_
 ·exact wkih ⟨rfl,rfl,rfl,rfl,rfl,hb 4,rfl,rfl,rfl,rfl,rfl,rfl,trivial⟩
 rintro⟨j,X,Y,w⟩ ⟨hj,hX,hY,hw⟩
 change j<=N at hj
 change X=if i<j then fX i else fun _=>0 at hX
 change Y=if i<j then fY i else fun _=>0 at hY
 change w=if i<j/\fI i=true then 1 else 0 at hw
 by_cases hlt:j<N
 ·obtain⟨hpj,_⟩:=hf j hlt
  have wX:Wn 9 X:=by rw[hX];split;exact(hf i hi).1.wX;exact w_zero
  have wY:Wn 9 Y:=by rw[hY];split;exact(hf i hi).1.wY;exact w_zero
  obtain⟨m,hm⟩:=exq (mskN (decide (j=i)))
  have hEq:=cMEqual hP j i m (by omega) (by omega) hm
  obtain⟨X',hX'⟩:=exq (if decide (j=i)=true then fX j else X)
  obtain⟨Y',hY'⟩:=exq (if decide (j=i)=true then fY j else Y)
  have hSX:=cSelect hP (decide (j=i)) m hm (fX j) X X' hpj.wX wX hX'
  have hSY:=cSelect hP (decide (j=i)) m hm (fY j) Y Y' hpj.wY wY hY'
  have hIdx:=cIndexN' hP (Int.ofNat j)
  have hml:m<0x10000000000000000:=by rw[hm];cases decide (j=i)<;>decide
  have hwl:w<=1:=by rw[hw];split<;>omega
  obtain⟨b,hbj⟩:=exq (fI j)
  have f8j:=f8 j hlt
  rw[<-hbj]at f8j
  have hX'2:X'=if i<j+1 then fX i else fun _=>0:=by
   rw[hX',hX]
   by_cases h:j=i
   ·rw[if_pos (by simpa using h),if_pos (by omega),h]
   ·rw[if_neg (by simpa using h)]
    by_cases h2:i<j
    ·rw[if_pos h2,if_pos (by omega)]
    ·rw[if_neg h2,if_neg (by omega)]
  have hY'2:Y'=if i<j+1 then fY i else fun _=>0:=by
   rw[hY',hY]
   by_cases h:j=i
   ·rw[if_pos (by simpa using h),if_pos (by omega),h]
   ·rw[if_neg (by simpa using h)]
    by_cases h2:i<j
    ·rw[if_pos h2,if_pos (by omega)]
    ·rw[if_neg h2,if_neg (by omega)]
  obtain⟨na,hna⟩:=exq ((if b=true then 1 else 0)&&&m)
  have hna1:na<=1:=by
   rw[hna]
   cases b with
   |true=>exact Nat.and_le_left
   |false=>exact Nat.le_trans Nat.and_le_left (by decide)
  obtain⟨w',hw'⟩:=exq (w|||na)
  have hw'2:w'=if i<j+1/\fI i=true then 1 else 0:=by
   rw[hw',hna,hw,hm,hbj]
   by_cases h:j=i
   ·subst h
    rw[if_neg (fun h=>Nat.lt_irrefl _ h.1)]
    cases fI j<;>simp[mskN]
   ·rw[decide_eq_false h]
    simp only[mskN,Bool.false_eq_true,if_false,Nat.and_zero,Nat.or_zero]
    by_cases h2:i<j
    ·simp[h2,show i<j+1 by omega]
    ·simp[h2,show ¬i<j+1 by omega]
  have g3:bin .and .u64 (if b=true then 1 else 0) (Int.ofNat m)=Int.ofNat na:=by
   cases b with
   |true=>exact(f11 1 m (by decide) hml).trans (by rw[hna];rfl)
   |false=>exact(f11 0 m (by decide) hml).trans (by rw[hna];rfl)
  have g4:bin .or .u64 (.ofNat w) (.ofNat na)=Int.ofNat w':=(f12 w na (by omega) (by omega)).trans (by rw[hw'])
  clear hX hY hw hw' hna hX' hY' hm
  cbv
  rw[f4 j hlt]
  cbv
  rw[f6 j hlt]
  cbv
  rw[f7 j,f8j]
  cbv
  refine cva rfl hg rfl rfl hIdx ?_
  rintro _ _ _ rfl
  cbv
  rw[f9 j hlt,f9 i hi]
  cbv
  refine cva rfl hg rfl rfl hEq ?_
  rintro _ _ _ rfl
  cbv
  refine rgM hP hA hg fun mk _=> ?_
  cbv
  refine stepD (en_val rfl hg rfl rfl hSX (fun _ _ _ h=>h) (by simp[bd,bdL,ws,lst])) ?_
  cbv
  refine stepD (en_val rfl hg rfl rfl hSY (fun _ _ _ h=>h) (by simp[bd,bdL,ws,lst])) ?_
  cbv
  cases b with
  |true=>
   have g3:bin .and .u64 1 (.ofNat m)=Int.ofNat na:=g3
   cbv
   rw[g3]
   cbv
   rw[g4]
   cbv
   rw[f10 j hlt]
   refine⟨(j+1,X',Y',w'),id,⟨hlt,hX'2,hY'2,hw'2⟩,(by show N-(j+1)<N-j;omega),?_⟩
   exact wkih ⟨rfl,rfl,rfl,rfl,rfl,hb 4,rfl,rfl,rfl,rfl,rfl,rfl,trivial⟩
  |false=>
   have g3:bin .and .u64 0 (.ofNat m)=Int.ofNat na:=g3
   cbv
   rw[g3]
   cbv
   rw[g4]
   cbv
   rw[f10 j hlt]
   refine⟨(j+1,X',Y',w'),id,⟨hlt,hX'2,hY'2,hw'2⟩,(by show N-(j+1)<N-j;omega),?_⟩
   exact wkih ⟨rfl,rfl,rfl,rfl,rfl,hb 4,rfl,rfl,rfl,rfl,rfl,rfl,trivial⟩
 ·obtain rfl:j=N:=by omega
  rw[if_pos hi]at hX hY
  subst hX hY
  have g1:cmp .eql (.ofNat w) 1=fI i:=by
   refine(eqlI hA w 1).trans ?_
   rw[hw]
   cases fI i with
   |true=>rw[if_pos ⟨hi,rfl⟩];rfl
   |false=>rw[if_neg (fun h=>by cases h.2)];rfl
  cbv
  rw[f5]
  cbv
  rw[g1]
  cbv
  exact hK _ _ _ rfl
theorem horner(x n i:Nat)(h:i<n):x/2^((n-(i+1))*4)=x/2^((n-i)*4)*16+dgt x n i:=by
 unfold dgt
 rw[show n-1-i=n-(i+1) by omega,show(n-i)*4=(n-(i+1))*4+4 by omega,Nat.pow_add,<-Nat.div_div_eq_div_mul]
 omega
section
variable {k:Nat}(hk:1<=k/\k<=15){p a b n gx gy th d:Nat->Nat}{m s1 bits size:Nat}{leg:Bool}(hC:Cv k p a b n gx gy th bits size)
include hk hC
theorem bits_small:1<=bits/\bits<=576:=by
 have h:=hC.bits
 have hn:=cn_small hk
 rw[(same_nums hk).2.2.2.1]at hn
 have h2:2<=rowN k:=by rw[<-(same_nums hk).2.2.2.1];exact(EC.prime_cn k).1
 constructor
 ·rcases Nat.eq_zero_or_pos bits with h0|h0
  ·have:=h.1;rw[h0]at this;simp at this;omega
  ·exact h0
 ·have:=bl_le16 h hn
  omega
theorem cMultN{P:Program}(hP:P=Tryz.prog)(hD:Dv p d m s1){Q:EC.Pt (EC.cp k)}(o:EC.OnC (EC.ca k) (EC.cb k) Q)(e:Nat->Nat)(he:Wn 9 e)(hel:V 9 e<2^bits){c:Nat}{C:List SV}(hc:16<=c)(hCl:C.length=c*19)(hT:TabC k Q 16 C)(hb:∀m,bdLB m C=true){x y:Nat->Nat}{inf:Bool}(hR:PtW k (EC.smul EC.finv (EC.ca k) (V 9 e) Q) x y inf):
 Con P 65 [.nilp,.ptr 0 0,.agg (ws e 9),.ptr 3 0] (cvB k p a b n gx gy th d m s1 bits size leg++[⟨3,[.slice 4 0 16 c],165⟩,⟨4,C,35⟩]) 5 [] (fun v _ _=>v= .agg (ptS x y inf)):=by
 obtain⟨hb1,hb2⟩:=bits_small hk hC
 obtain⟨nd,hnd⟩:=exq ((bits+3)/4)
 have hDig:=cDigits hP e he bits nd ⟨hb1,hb2⟩ hel hnd
 obtain⟨X0,Y0,Z0,t0,hNo⟩:=cNoneP hk hP
 have rC:∀r,renL r C=C:=fun r=>rcl C (hb 0)
 refine cof hP Tryz.func65 ⟨trivial,blq rfl,bdb _ rfl,blq rfl,trivial⟩ (bkb (by simp only[cvB,List.all_cons,List.all_nil,List.cons_append,List.nil_append,hb 5];rfl)) ?_
 intro A g K hA hg hK
 obtain⟨bin,_,cmp,_,_,ix,_,_,_,_,_,_,_,_,nat,off,get⟩:=A
 cbv
 refine reg_cA (hP▸tblOk) hA hg (hP▸mixed) rfl rfl [(6,[])] rfl ?_
 cbv
 refine cgn rfl hg rfl rfl hDig id rfl trivial rfl rfl rfl ?_
 rintro _ _ _ ⟨dc,dC,rfl,rfl,rfl,h1,h2,h3,h4⟩ _
 have rD:∀r,renL r dC=dC:=fun r=>rcl dC (h4 0)
 simp only[renB,rD]
 cbv
 refine cva rfl hg rfl rfl hNo ?_
 rintro _ _ _ rfl
 refine⟨by simp[bd,bdL,ws,lst],?_⟩
 have e1:nat nd=Int.ofNat nd:=nat_of hA nd
 have f1:∀i,i<nd->cmp .lss (.ofNat i) (.ofNat nd)=true:=fun i h=>lss_t hA h
 have f2:cmp .lss (.ofNat nd) (.ofNat nd)=false:=lss_f hA (by omega)
 have f3:∀i,i<nd->ix (.ofNat i) nd=some i:=fun i h=>ix_of hA h
 have f4:∀i,off 0 i 1=i:=fun i=>(off_of hA 0 i 1).trans (by omega)
 have f5:∀i,i<nd->get dC i=some (.int .i64 (.ofNat (dgt (V 9 e) nd i))):=fun i h=>(get_of hA _ _).trans (h3 i h)
 have f6:∀i,i<nd->bin .add .i64 (.ofNat i) 1=Int.ofNat (i+1):=fun i h=>add_of hA (by omega)
 have f7:∀q,q<4->cmp .lss (.ofNat q) 4=true:=fun q h=>lss_t hA (b:=4) h
 have f8:cmp .lss (.ofNat 4) 4=false:=lss_f hA (b:=4) (by omega)
 have f9:∀q,q<4->bin .add .i64 (.ofNat q) 1=Int.ofNat (q+1):=fun i h=>add_of hA (by omega)
 cbv
 rw[e1]
 refine lpb (Nat×(Nat->Nat)×(Nat->Nat)×(Nat->Nat)) (fun s=>s.1<=nd/\TrW k (EC.smul EC.finv (EC.ca k) (V 9 e/2^((nd-s.1)*4)) Q) s.2.1 s.2.2.1 s.2.2.2) (fun s=>nd-s.1)
  (fun s=> [(29,.int .i64 (.ofNat s.1))]) [0,1,3,6,8,11,27,28] (fun s=> [(9,ws s.2.1 9++ws s.2.2.1 9++ws s.2.2.2 9)]) (0,X0,Y0,Z0) ⟨Nat.zero_le _,?_⟩ ?_ ?_
 ·show TrW k (EC.smul EC.finv (EC.ca k) (V 9 e/2^((nd-0)*4)) Q) X0 Y0 Z0
  rw[Nat.div_eq_of_lt]
  ·exact t0
  ·exact Nat.lt_of_lt_of_le hel (Nat.pow_le_pow_right (by decide) (by omega))
 ·exact wkih (by repeat' (first|exact trivial|refine⟨rfl,rfl,rfl,?_⟩|refine⟨rfl,rfl,hb 10,?_⟩|refine⟨rfl,rfl,h4 10,?_⟩))
 rintro⟨i,X,Y,Z⟩ ⟨hi,ht⟩
 change i<=nd at hi
 change TrW k (EC.smul EC.finv (EC.ca k) (V 9 e/2^((nd-i)*4)) Q) X Y Z at ht
 by_cases hlt:i<nd
 ·obtain⟨di,hdi⟩:=exq (dgt (V 9 e) nd i)
  obtain⟨vi,hvi⟩:=exq (V 9 e/2^((nd-i)*4))
  have hdi16:di<16:=by rw[hdi];exact Nat.mod_lt _ (by decide)
  have f5i:=f5 i hlt
  rw[<-hdi]at f5i
  rw[<-hvi]at ht
  obtain⟨px,py,pinf,hpt,hPick⟩:=cPickN hP hc (by decide) hCl hT hb di hdi16
  cbv
  rw[f1 i hlt]
  cbv
  rw[f3 i hlt]
  cbv
  rw[f4 i,f5i]
  cbv
  refine lpb (Nat×(Nat->Nat)×(Nat->Nat)×(Nat->Nat)) (fun s=>s.1<=4/\TrW k (EC.smul EC.finv (EC.ca k) (vi*2^s.1) Q) s.2.1 s.2.2.1 s.2.2.2) (fun s=>4-s.1)
   (fun s=> [(33,.int .i64 (.ofNat s.1))]) [0,1,3,6,8,11,13,27,28,29] (fun s=> [(9,ws s.2.1 9++ws s.2.2.1 9++ws s.2.2.2 9)]) (0,X,Y,Z) ⟨Nat.zero_le _,by show TrW k (EC.smul EC.finv (EC.ca k) (vi*2^0) Q) X Y Z;rw[Nat.pow_zero,Nat.mul_one];exact ht⟩ ?_ ?_
  ·exact wkih (by repeat' (first|exact trivial|refine⟨rfl,rfl,rfl,?_⟩|refine⟨rfl,rfl,hb 10,?_⟩|refine⟨rfl,rfl,h4 10,?_⟩))
  rintro⟨q,X,Y,Z⟩ ⟨hq,ht⟩
  change q<=4 at hq
  change TrW k (EC.smul EC.finv (EC.ca k) (vi*2^q) Q) X Y Z at ht
  have oi:=EC.smul_on (EC.okc k) o (vi*2^q)
  by_cases hq4:q<4
  ·obtain⟨X',Y',Z',ht',hSum⟩:=cSumP hk hC (leg:=leg) hP hD oi oi ht ht
   rw[<-EC.smul_two (EC.okc k) o,show 2*(vi*2^q)=vi*2^(q+1) by rw[Nat.pow_succ,Nat.mul_left_comm,Nat.mul_comm 2]]at ht'
   cbv
   rw[f7 q hq4]
   cbv
   refine cro rfl hg rfl rfl hSum id rfl ⟨rfl,rfl,rfl,trivial⟩ ?_
   rintro _ _ _ rfl
   refine⟨by simp[bd,bdL,ws,lst],by simp[bd,bdL,ren,renL,ws,lst],?_⟩
   cbv
   rw[f9 q hq4]
   refine⟨(q+1,X',Y',Z'),id,⟨hq4,ht'⟩,(by show 4-(q+1)<4-q;omega),?_⟩
   exact wkih (by repeat' (first|exact trivial|refine⟨rfl,rfl,rfl,?_⟩|refine⟨rfl,rfl,hb 10,?_⟩|refine⟨rfl,rfl,h4 10,?_⟩))
  ·obtain rfl:q=4:=by omega
   obtain⟨TX,TY,TZ,tt,hTr⟩:=cTripleP hk hP hpt
   obtain⟨X',Y',Z',ht',hSum⟩:=cSumP hk hC (leg:=leg) hP hD oi (EC.smul_on (EC.okc k) o di) ht tt
   rw[<-EC.smul_add (EC.okc k) o,show vi*2^4+di=V 9 e/2^((nd-(i+1))*4) by rw[horner _ _ _ hlt,hvi,hdi]]at ht'
   cbv
   rw[f8]
   cbv
   refine cro rfl hg rfl rfl hPick (fun l=>l+3) rfl ⟨rfl,by rw[rC];rfl,trivial⟩ ?_
   rintro _ _ _ rfl
   refine⟨by simp[bd,bdL,ptS,ws,lst],by simp[bd,bdL,ren,renL,ptS,ws,lst],?_⟩
   cbv
   refine rgM hP hA hg fun mk _=> ?_
   cbv
   refine stepD (en_val rfl hg rfl rfl hTr (fun _ _ _ h=>h) (by simp[bd,bdL,ws,lst])) ?_
   cbv
   refine stepD (enr rfl hg rfl rfl hSum id rfl ⟨rfl,rfl,rfl,trivial⟩ (fun _ _ _ h=>h) (by simp[bd,bdL,ws,lst])) ?_
   cbv
   rw[f6 i hlt]
   refine⟨(i+1,X',Y',Z'),id,⟨hlt,ht'⟩,(by show nd-(i+1)<nd-i;omega),?_⟩
   exact wkih (by repeat' (first|exact trivial|refine⟨rfl,rfl,rfl,?_⟩|refine⟨rfl,rfl,hb 10,?_⟩|refine⟨rfl,rfl,h4 10,?_⟩))
 ·obtain rfl:i=nd:=by omega
  rw[Nat.sub_self,Nat.zero_mul,Nat.pow_zero,Nat.div_one]at ht
  have hPl:=cPlainP hk hC (leg:=leg) hP hD ht hR
  cbv
  rw[f2]
  cbv
  refine cro rfl hg rfl rfl hPl id rfl ⟨rfl,rfl,rfl,trivial⟩ ?_
  rintro _ _ _ rfl
  refine⟨by simp[bd,bdL,ws,lst],by simp[bd,bdL,ren,renL,ws,lst],?_⟩
  cbv
  exact hK _ _ _ rfl
theorem gW:PtW k (EC.G k) gx gy false:=by
 have hs:=EC.small k
 simp only[Bool.and_eq_true,decide_eq_true_eq]at hs
 obtain⟨_,_,_,_,h5,h6⟩:=same_nums hk
 exact⟨hC.wx,hC.wy,by rw[hC.vx,<-h5];exact(EC.val_nf _ hs.1.1.1.1.2).symm,by rw[hC.vy,<-h6];exact(EC.val_nf _ hs.1.1.1.2).symm,rfl⟩
theorem cBaseN{P:Program}(hP:P=Tryz.prog)(hD:Dv p d m s1)(e:Nat->Nat)(he:Wn 9 e)(hel:V 9 e<2^bits){x y:Nat->Nat}{inf:Bool}(hR:PtW k (EC.smul EC.finv (EC.ca k) (V 9 e) (EC.G k)) x y inf):
 Con P 41 [.nilp,.ptr 0 0,.agg (ws e 9)] (cvB k p a b n gx gy th d m s1 bits size leg) 3 [] (fun v _ _=>v= .agg (ptS x y inf)):=by
 have o:=EC.G_on k
 have hOf:=cTabOf hk hC (leg:=leg) hP hD o (gW hk hC) 16 (by decide)
 refine cof hP Tryz.func41 ⟨trivial,blq rfl,bdb _ rfl,trivial⟩ (bkb rfl) ?_
 intro A g K hA hg hK
 cases A
 cbv
 refine reg_cA (hP▸tblOk) hA hg (hP▸mixed) rfl rfl [(9,[0,1,2])] rfl ?_
 cbv
 refine cgn rfl hg rfl rfl hOf id rfl ⟨rfl,rfl,rfl,trivial⟩ rfl rfl rfl ?_
 rintro _ _ _ ⟨c,C,rfl,rfl,rfl,h1,h2,h3,h4⟩ _
 have rC:∀r,renL r C=C:=fun r=>rcl C (h4 0)
 have hM:=cMultN hk hC (leg:=leg) hP hD o e he hel h1 h2 h3 h4 hR
 refine⟨rfl,?_⟩
 simp only[renB,rC,cvB,List.cons_append,List.nil_append]
 cbv
 refine stepD (enr rfl hg rfl rfl hM (fun l=>if l<3 then l else l+2) rfl ⟨rfl,rfl,rfl,rfl,by rw[rC];rfl,trivial⟩ (fun _ _ _ h=>h) (by simp[bd,bdL,ptS,ws,lst])) ?_
 cbv
 exact hK _ _ _ rfl
end
def legK(k:Nat):Bool:=decide (k=1)||decide (k=7)
theorem cCheck0{P:Program}(hP:P=Tryz.prog)(x:Int)(hx:primeB x=⟨⟨[]⟩⟩)(e:Nat->Nat):Con P 11 [.int .i64 x,.agg (ws e 9)] [] 0 [] (fun v _ _=>v= .int .i64 2400):=by
 have hO:=cOpen0 hP x hx
 refine cof hP Tryz.func11 (bdb _ rfl) (bkb rfl) ?_
 intro A g K hA hg hK
 cases A
 cbv
 refine cva rfl hg rfl rfl hO ?_
 rintro _ _ _ rfl
 cbv
 exact hK _ _ _ rfl
theorem cCheck{P:Program}(hP:P=Tryz.prog)(k:Nat)(hk:1<=k/\k<=15)(e:Nat->Nat)(he:Wn 9 e)(r:Int)(hr:r=if V 9 e≠0/\V 9 e<EC.cn k then 0 else 2401):Con P 11 [.int .i64 (.ofNat k),.agg (ws e 9)] [] 0 [] (fun v _ _=>v= .int .i64 r):=by
 obtain⟨p,d,m,s,a,b,n,gx,gy,th,bits,size,hC,hD,hO⟩:=cOpen hP k hk (legK k) rfl
 obtain⟨leg,hleg⟩:=exq (legK k)
 rw[<-hleg]at hO
 have hn:V 9 n=EC.cn k:=hC.vn.trans (same_nums hk).2.2.2.1.symm
 obtain⟨q,hq⟩:=exq ((decide (V 9 e≠0)&&decide (V 9 e<V 9 n)):Bool)
 have hKey:=cKey hP k p a b n gx gy th e bits size leg hC.wn he q hq
 refine cof hP Tryz.func11 (bdb _ rfl) (bkb rfl) ?_
 intro A g K hA hg hK
 obtain⟨_,_,_,_,_,_,_,_,bnot⟩:=A
 have f1:bnot true=false:=bnot_of hA true
 have f2:bnot false=true:=bnot_of hA false
 cbv
 refine cgn rfl hg rfl rfl hO id rfl trivial rfl rfl rfl ?_
 rintro _ _ _ ⟨rfl,rfl,rfl⟩ _
 refine⟨rfl,?_⟩
 cbv
 refine cro rfl hg rfl rfl hKey (fun l=>l+1) rfl ⟨rfl,trivial⟩ ?_
 rintro _ _ _ rfl
 refine⟨trivial,trivial,?_⟩
 rw[hn]at hq
 cases q with
 |true=>
  have h2:V 9 e≠0/\V 9 e<EC.cn k:=by simpa using hq.symm
  rw[if_pos h2]at hr
  subst hr
  cbv
  rw[f1]
  cbv
  exact hK _ _ _ rfl
 |false=>
  have h2:¬ (V 9 e≠0/\V 9 e<EC.cn k):=fun h=>by
   rw[decide_eq_true h.1,decide_eq_true h.2]at hq;cases hq
  rw[if_neg h2]at hr
  subst hr
  cbv
  rw[f2]
  cbv
  exact hK _ _ _ rfl
theorem cn_bits{k:Nat}(hk:1<=k/\k<=15){p a b n gx gy th:Nat->Nat}{bits size:Nat}(hC:Cv k p a b n gx gy th bits size):EC.cn k<2^bits:=by
 rw[(same_nums hk).2.2.2.1];exact hC.bits.1
theorem cPublic{P:Program}(hP:P=Tryz.prog)(k:Nat)(hk:1<=k/\k<=15)(e:Nat->Nat)(he:Wn 9 e)(hr:V 9 e≠0/\V 9 e<EC.cn k){x y:Nat->Nat}{inf:Bool}(hR:PtW k (EC.smul EC.finv (EC.ca k) (V 9 e) (EC.G k)) x y inf):
 Con P 12 [.nilp,.int .i64 (.ofNat k),.agg (ws e 9)] [] 0 [] (fun v _ _=>v= .tup [.agg (ptS x y inf),.int .i64 0]):=by
 have hCk:=cCheck hP k hk e he 0 (if_pos hr).symm
 obtain⟨p,d,m,s,a,b,n,gx,gy,th,bits,size,hC,hD,hO⟩:=cOpen hP k hk (legK k) rfl
 obtain⟨leg,hleg⟩:=exq (legK k)
 rw[<-hleg]at hO
 have hB:=cBaseN hk hC (leg:=leg) hP hD e he (Nat.lt_trans hr.2 (cn_bits hk hC)) hR
 refine cof hP Tryz.func12 (bdb _ rfl) (bkb rfl) ?_
 intro A g K hA hg hK
 obtain⟨_,_,cmp⟩:=A
 have f1:cmp .neq 0 0=false:=neq_f hA (a:=0) (b:=0) rfl
 cbv
 refine cva rfl hg rfl rfl hCk ?_
 rintro _ _ _ rfl
 cbv
 rw[f1]
 cbv
 refine reg_A (hP▸tblOk) hA hg (hP▸mixed) rfl rfl ?_
 cbv
 refine stepDn (n':=5) (en_new rfl hg rfl rfl hO id rfl trivial rfl (val:= .ptr 0 0) (NB:=cvB k p a b n gx gy th d m s bits size leg) (n:=2) (n1:=3) (fun _ _ _ h=>⟨h.1,h.2.1,h.2.2⟩) rfl rfl (fun l h1 h2=> ?_)) (by decide) rfl ?_ ?_
 ·rcases(show l=0\/l=1\/l=2 by omega)with rfl|rfl|rfl
  ·exact⟨_,List.mem_cons_self,rfl⟩
  ·exact⟨_,List.mem_cons_of_mem _ List.mem_cons_self,rfl⟩
  ·exact⟨_,List.mem_cons_of_mem _ (List.mem_cons_of_mem _ List.mem_cons_self),rfl⟩
 ·show([2,3,4]:List Nat).Nodup
  decide
 cbv
 refine stepD (enr rfl hg rfl rfl hB (fun l=>l+2) rfl ⟨rfl,rfl,rfl,trivial⟩ (fun _ _ _ h=>h) (by simp[bd,bdL,ptS,ws,lst])) ?_
 cbv
 exact hK _ _ _ rfl
end Go.Proofs.YtdhmihfefgcbeaaGreat
namespace Sh
structure S8 where
 a:Nat
 b:Nat
 c:Nat
 d:Nat
 e:Nat
 f:Nat
 g:Nat
 h:Nat
structure Kd where
 wb:Nat
 S0:Nat×Nat×Nat
 S1:Nat×Nat×Nat
 s0:Nat×Nat×Nat
 s1:Nat×Nat×Nat
 ks:List Nat
 len:Nat
def rotr(n x k:Nat):Nat:=(x>>>k)|||(x<<<(n-k))%2^n
def big(n:Nat)(r:Nat×Nat×Nat)(x:Nat):Nat:=(rotr n x r.1^^^rotr n x r.2.1)^^^rotr n x r.2.2
def small(n:Nat)(r:Nat×Nat×Nat)(x:Nat):Nat:=(rotr n x r.1^^^rotr n x r.2.1)^^^(x>>>r.2.2)
def more(K:Kd)(ws:List Nat):List Nat:=
 ((ws.getD 15 0+small K.wb K.s0 (ws.getD 14 0)+ws.getD 6 0+small K.wb K.s1 (ws.getD 1 0))%2^K.wb)::ws
def mores(K:Kd):Nat->List Nat->List Nat
 |0,ws=>ws
 |n+1,ws=>mores K n (more K ws)
def ch(n e f g:Nat):Nat:=(e&&&f)^^^((2^n-1-e)&&&g)
def maj(a b c:Nat):Nat:=((a&&&b)^^^(a&&&c))^^^(b&&&c)
def round(K:Kd)(s:S8)(k w:Nat):S8:=
 let t1:=(s.h+big K.wb K.S1 s.e+ch K.wb s.e s.f s.g+k+w)%2^K.wb
 ⟨(t1+big K.wb K.S0 s.a+maj s.a s.b s.c)%2^K.wb,s.a,s.b,s.c,(s.d+t1)%2^K.wb,s.e,s.f,s.g⟩
def rounds(K:Kd):List Nat->List Nat->S8->S8
 |k::ks,w::ws,s=>rounds K ks ws (round K s k w)
 |_,_,s=>s
def word:List Nat->Nat
 |l=>l.foldl (fun x b=>x*256+b) 0
def words(n:Nat):Nat->List Nat->List Nat
 |0,_=> []
 |f+1,l=>word (l.take n)::words n f (l.drop n)
def add8(n:Nat)(s t:S8):S8:=⟨(s.a+t.a)%2^n,(s.b+t.b)%2^n,(s.c+t.c)%2^n,(s.d+t.d)%2^n,(s.e+t.e)%2^n,(s.f+t.f)%2^n,(s.g+t.g)%2^n,(s.h+t.h)%2^n⟩
def sched(K:Kd)(b:List Nat):List Nat:=(mores K (K.ks.length-16) (words (K.wb/8) 16 b).reverse).reverse
def turn(K:Kd)(s:S8)(b:List Nat):S8:=add8 K.wb s (rounds K K.ks (sched K b) s)
def turns(K:Kd):Nat->S8->List Nat->S8
 |0,s,_=>s
 |f+1,s,l=>if l.length<2*K.wb then s else turns K f (turn K s (l.take (2*K.wb))) (l.drop (2*K.wb))
def be(n x:Nat):List Nat:=(List.range n).map fun i=>x/256^(n-1-i)%256
def pad(K:Kd)(l:List Nat):List Nat:=
 let z:=(2*K.wb-(l.length+1+K.len)%(2*K.wb))%(2*K.wb)
 l++[128]++List.replicate (z+(K.len-8)) 0++be 8 (l.length*8%2^64)
def out(n:Nat)(s:S8):List Nat:=be n s.a++be n s.b++be n s.c++be n s.d++be n s.e++be n s.f++be n s.g++be n s.h
def hash(K:Kd)(s:S8)(size:Nat)(l:List Nat):List Nat:=
 (out (K.wb/8) (turns K (l.length+1) s (pad K l))).take size
def k256:List Nat:=[1116352408,1899447441,3049323471,3921009573,961987163,1508970993,2453635748,2870763221,3624381080,310598401,607225278,1426881987,1925078388,2162078206,2614888103,3248222580,3835390401,4022224774,264347078,604807628,770255983,1249150122,1555081692,1996064986,2554220882,2821834349,2952996808,3210313671,3336571891,3584528711,113926993,338241895,666307205,773529912,1294757372,1396182291,1695183700,1986661051,2177026350,2456956037,2730485921,2820302411,3259730800,3345764771,3516065817,3600352804,4094571909,275423344,430227734,506948616,659060556,883997877,958139571,1322822218,1537002063,1747873779,1955562222,2024104815,2227730452,2361852424,2428436474,2756734187,3204031479,3329325298]
def k512:List Nat:=[4794697086780616226,8158064640168781261,0xb5c0fbcfec4d3b2f,0xe9b5dba58189dbbc,4131703408338449720,6480981068601479193,0x923f82a4af194f9b,0xab1c5ed5da6d8118,0xd807aa98a3030242,1334009975649890238,2608012711638119052,6128411473006802146,8268148722764581231,9286055187155687089,0x9bdc06a725c71235,0xc19bf174cf692694,0xe49b69c19ef14ad2,0xefbe4786384f25e3,1135362057144423861,2597628984639134821,3308224258029322869,5365058923640841347,6679025012923562964,8573033837759648693,0x983e5152ee66dfab,0xa831c66d2db43210,0xb00327c898fb213f,0xbf597fc7beef0ee4,0xc6e00bf33da88fc2,0xd5a79147930aa725,489312712824947311,1452737877330783856,2861767655752347644,3322285676063803686,5560940570517711597,5996557281743188959,7280758554555802590,8532644243296465576,9350256976987008742,0x92722c851482353b,0xa2bfe8a14cf10364,0xa81a664bbc423001,0xc24b8b70d0f89791,0xc76c51a30654be30,0xd192e819d6ef5218,0xd69906245565a910,0xf40e35855771202a,1182934255886127544,1847814050463011016,2177327727835720531,2830643537854262169,3796741975233480872,4115178125766777443,5681478168544905931,6601373596472566643,7507060721942968483,8399075790359081724,8693463985226723168,9568029438360202098,0x8cc702081a6439ec,0x90befffa23631e28,0xa4506cebde82bde9,0xbef9a3f7b2c67915,0xc67178f2e372532b,0xca273eceea26619c,0xd186b8c721c0c207,0xeada7dd6cde0eb1e,0xf57d4f7fee6ed178,500013540394364858,748580250866718886,1242879168328830382,1977374033974150939,2944078676154940804,3659926193048069267,4368137639120453308,4836135668995329356,5532061633213252278,6448918945643986474,6902733635092675308,7801388544844847127]
def i224:S8:=⟨3238371032,914150663,812702999,4144912697,4290775857,1750603025,1694076839,3204075428⟩
def i256:S8:=⟨1779033703,3144134277,1013904242,2773480762,1359893119,2600822924,528734635,1541459225⟩
def i384:S8:=⟨0xcbbb9d5dc1059ed8,7105036623409894663,0x9159015a3070dd17,1526699215303891257,7436329637833083697,0x8eb44a8768581511,0xdb0c2e0d64f98fa7,5167115440072839076⟩
def i512:S8:=⟨7640891576956012808,0xbb67ae8584caa73b,4354685564936845355,0xa54ff53a5f1d36f1,5840696475078001361,0x9b05688c2b3e6c1f,2270897969802886507,6620516959819538809⟩
def K256:Kd:=⟨32,(2,13,22),(6,11,25),(7,18,3),(17,19,10),k256,8⟩
def K512:Kd:=⟨64,(28,34,39),(14,18,41),(1,8,7),(19,61,6),k512,16⟩
def size:Nat->Nat
 |1=>28
 |2=>32
 |3=>48
 |4=>64
 |_=>0
def blk:Nat->Nat
 |1=>64
 |2=>64
 |3=>128
 |4=>128
 |_=>0
def of:Nat->List Nat->List Nat
 |1,l=>hash K256 i224 28 l
 |2,l=>hash K256 i256 32 l
 |3,l=>hash K512 i384 48 l
 |4,l=>hash K512 i512 64 l
 |_,_=> []
def key(id:Nat)(k:List Nat):List Nat:=
 let k:=if blk id<k.length then of id k else k
 k++List.replicate (blk id-k.length) 0
def hmac(id:Nat)(k m:List Nat):List Nat:=
 of id ((key id k).map (· ^^^92)++of id ((key id k).map (· ^^^54)++m))
structure Dr where
 id:Nat
 k:List Nat
 v:List Nat
 n:Nat
def upd(d:Dr)(s:List Nat):Dr:=
 let k:=hmac d.id d.k (d.v++[0]++s)
 let v:=hmac d.id k d.v
 if s=[]then⟨d.id,k,v,d.n⟩else
 let k2:=hmac d.id k (v++[1]++s)
 ⟨d.id,k2,hmac d.id k2 v,d.n⟩
def new(id:Nat)(e:List Nat):Dr:=upd ⟨id,List.replicate (size id) 0,List.replicate (size id) 1,1⟩ e
def gen(id:Nat)(k:List Nat):Nat->List Nat->List Nat×List Nat
 |0,v=>([],v)
 |f+1,v=>let v':=hmac id k v;let r:=gen id k f v';(v'++r.1,r.2)
def generate(d:Dr)(sz:Nat)(m:List Nat):List Nat×Dr:=
 let d:=if m=[]then d else upd d m
 let r:=gen d.id d.k ((sz+size d.id-1)/size d.id) d.v
 let d:=upd ⟨d.id,d.k,r.2,d.n⟩ m
 (r.1.take sz,⟨d.id,d.k,d.v,d.n+1⟩)
end Sh
namespace Sh
/-! the schedule word by word,the rounds one by one-/
variable {K:Kd}
def wd(K:Kd)(b:List Nat)(j:Nat):Nat:=(sched K b).getD j 0
theorem mores_succ(n:Nat):∀ws,mores K (n+1) ws=more K (mores K n ws):=by
 induction n with
 |zero=>intro ws;rfl
 |succ n ih=>intro ws;rw[mores,ih (more K ws),<-mores]
theorem words_len(n:Nat):∀f l,(words n f l).length=f
 |0,_=>rfl
 |f+1,l=>by rw[words,List.length_cons,words_len n f]
theorem words_get(n:Nat):∀f l j,j<f->(words n f l).getD j 0=word ((l.drop (n*j)).take n)
 |0,_,_,h=>by omega
 |f+1,l,0,_=>by simp[words]
 |f+1,l,j+1,h=>by
  rw[words,List.getD_cons_succ,words_get n f (l.drop n) j (by omega),List.drop_drop,show n+n*j=n*(j+1) by rw[Nat.mul_succ];omega]
def w0(K:Kd)(b:List Nat):List Nat:=(words (K.wb/8) 16 b).reverse
theorem q_len(b:List Nat):∀n,(mores K n (w0 K b)).length=16+n
 |0=>by rw[mores,w0,List.length_reverse,words_len]
 |n+1=>by rw[mores_succ,more,List.length_cons,q_len b n];omega
theorem q_old(b:List Nat)(n j:Nat)(hj:j<16+n):∀m,n<=m->(mores K m (w0 K b)).getD (16+m-1-j) 0=(mores K n (w0 K b)).getD (16+n-1-j) 0:=by
 intro m hm
 induction m with
 |zero=>obtain rfl:n=0:=by omega
        rfl
 |succ m ih=>
  by_cases h:n=m+1
  ·subst h;rfl
  ·rw[<-ih (by omega),mores_succ,more,show 16+(m+1)-1-j=(16+m-1-j)+1 by omega,List.getD_cons_succ]
theorem getD_rev(l:List Nat)(j:Nat)(h:j<l.length):l.reverse.getD j 0=l.getD (l.length-1-j) 0:=by
 simp only[List.getD_eq_getElem?_getD,List.getElem?_reverse h]
theorem wd_q(b:List Nat){n j:Nat}(hj:j<16+n)(hn:16+n<=K.ks.length):wd K b j=(mores K n (w0 K b)).getD (16+n-1-j) 0:=by
 unfold wd sched
 have hl:=q_len (K:=K) b (K.ks.length-16)
 rw[w0]at hl
 rw[getD_rev _ _ (by rw[hl];omega),hl]
 exact q_old b n j hj (K.ks.length-16) (by omega)
theorem wd_lo(b:List Nat){j:Nat}(hj:j<16)(hn:16<=K.ks.length):wd K b j=word ((b.drop (K.wb/8*j)).take (K.wb/8)):=by
 rw[wd_q b (n:=0) (by omega) (by omega)]
 show(w0 K b).getD (16+0-1-j) 0=_
 rw[w0,getD_rev _ _ (by rw[words_len];omega),words_len,words_get _ _ _ _ (by omega)]
 congr 4
 omega
theorem wd_hi(b:List Nat){j:Nat}(h1:16<=j)(h2:j<K.ks.length):wd K b j=(wd K b (j-16)+small K.wb K.s0 (wd K b (j-15))+wd K b (j-7)+small K.wb K.s1 (wd K b (j-2)))%2^K.wb:=by
 obtain⟨n,rfl⟩:∃n,j=16+n:=⟨j-16,by omega⟩
 rw[wd_q b (n:=n+1) (by omega) (by omega),wd_q b (n:=n) (j:=16+n-16) (by omega) (by omega),wd_q b (n:=n) (j:=16+n-15) (by omega) (by omega),wd_q b (n:=n) (j:=16+n-7) (by omega) (by omega),wd_q b (n:=n) (j:=16+n-2) (by omega) (by omega)]
 rw[mores_succ,more,show 16+(n+1)-1-(16+n)=0 by omega,List.getD_cons_zero]
 rw[show 16+n-1-(16+n-16)=15 by omega,show 16+n-1-(16+n-15)=14 by omega,show 16+n-1-(16+n-7)=6 by omega,show 16+n-1-(16+n-2)=1 by omega]
theorem sched_len(b:List Nat)(hn:16<=K.ks.length):(sched K b).length=K.ks.length:=by
 unfold sched
 have hl:=q_len (K:=K) b (K.ks.length-16)
 rw[w0]at hl
 rw[List.length_reverse,hl];omega
theorem word_snoc(l:List Nat)(x:Nat):word (l++[x])=word l*256+x:=by
 unfold word
 rw[List.foldl_append];rfl
theorem word_take(l:List Nat){k:Nat}(h:k<l.length):word (l.take (k+1))=word (l.take k)*256+l.getD k 0:=by
 rw[List.take_succ_eq_append_getElem h,word_snoc,List.getD_eq_getElem?_getD,List.getElem?_eq_getElem h];rfl
theorem word_lt(l:List Nat)(h:∀x∈l,x<256):∀k,k<=l.length->word (l.take k)<256^k
 |0,_=>by simp[word]
 |k+1,hk=>by
  have ih:=word_lt l h k (by omega)
  have hx:l.getD k 0<256:=by
   rw[List.getD_eq_getElem?_getD,List.getElem?_eq_getElem (by omega)]
   exact h _ (List.getElem_mem _)
  rw[word_take l (by omega),Nat.pow_succ]
  have:=Nat.mul_le_mul_right 256 (show word (l.take k)+1<=256^k from ih)
  omega
def rnd(K:Kd)(b:List Nat)(s:S8)(i:Nat):S8:=rounds K (K.ks.take i) ((sched K b).take i) s
theorem rounds_snoc(k w:Nat):∀ (ks ws:List Nat) (s:S8),ks.length=ws.length->rounds K (ks++[k]) (ws++[w]) s=round K (rounds K ks ws s) k w
 | [],[],s,_=>rfl
 | [],_::_,_,h=>by simp at h
 |_::_,[],_,h=>by simp at h
 |k'::ks,w'::ws,s,h=>by
  simp only[List.cons_append,rounds]
  exact rounds_snoc k w ks ws _ (by simpa using h)
theorem rnd_succ(b:List Nat)(s:S8){i:Nat}(hn:16<=K.ks.length)(h:i<K.ks.length):rnd K b s (i+1)=round K (rnd K b s i) (K.ks.getD i 0) (wd K b i):=by
 have hl:=sched_len b hn
 unfold rnd
 rw[List.take_succ_eq_append_getElem h,List.take_succ_eq_append_getElem (by rw[hl];exact h),rounds_snoc _ _ _ _ _ (by rw[List.length_take,List.length_take,hl]),wd,List.getD_eq_getElem?_getD,List.getD_eq_getElem?_getD,List.getElem?_eq_getElem h,List.getElem?_eq_getElem (by rw[hl];exact h)]
 rfl
theorem turn_rnd(b:List Nat)(s:S8)(hn:16<=K.ks.length):turn K s b=add8 K.wb s (rnd K b s K.ks.length):=by
 unfold turn rnd
 rw[List.take_length,List.take_of_length_le (by rw[sched_len b hn];exact Nat.le_refl _)]
def ok8(n:Nat)(s:S8):Prop:=s.a<2^n/\s.b<2^n/\s.c<2^n/\s.d<2^n/\s.e<2^n/\s.f<2^n/\s.g<2^n/\s.h<2^n
theorem ok8_round{s:S8}(h:ok8 K.wb s)(k w:Nat):ok8 K.wb (round K s k w):=
 ⟨Nat.mod_lt _ (Nat.two_pow_pos _),h.1,h.2.1,h.2.2.1,Nat.mod_lt _ (Nat.two_pow_pos _),h.2.2.2.2.1,h.2.2.2.2.2.1,h.2.2.2.2.2.2.1⟩
theorem ok8_rnd(b:List Nat){s:S8}(h:ok8 K.wb s)(hn:16<=K.ks.length):∀i,i<=K.ks.length->ok8 K.wb (rnd K b s i)
 |0,_=>by simpa [rnd,rounds]using h
 |i+1,hi=>by rw[rnd_succ b s hn (by omega)];exact ok8_round (ok8_rnd b h hn i (by omega)) _ _
theorem ok8_add(n:Nat)(s t:S8):ok8 n (add8 n s t):=⟨Nat.mod_lt _ (Nat.two_pow_pos _),Nat.mod_lt _ (Nat.two_pow_pos _),Nat.mod_lt _ (Nat.two_pow_pos _),Nat.mod_lt _ (Nat.two_pow_pos _),Nat.mod_lt _ (Nat.two_pow_pos _),Nat.mod_lt _ (Nat.two_pow_pos _),Nat.mod_lt _ (Nat.two_pow_pos _),Nat.mod_lt _ (Nat.two_pow_pos _)⟩
theorem wd_lt(b:List Nat)(hb:∀x∈b,x<256)(hl:2*K.wb<=b.length)(h8:K.wb=8*(K.wb/8))(hn:16<=K.ks.length){j:Nat}(hj:j<K.ks.length):wd K b j<2^K.wb:=by
 by_cases h:j<16
 ·rw[wd_lo b h hn]
  have hm:K.wb/8*j+K.wb/8<=b.length:=by
   have:=Nat.mul_le_mul_left (K.wb/8) (show j+1<=16 from h)
   rw[Nat.mul_succ]at this
   omega
  have:=word_lt (b.drop (K.wb/8*j)) (fun x hx=>hb x (List.mem_of_mem_drop hx)) (K.wb/8) (by rw[List.length_drop];omega)
  rwa [show(256:Nat)=2^8 from rfl,<-Nat.pow_mul,<-h8]at this
 ·rw[wd_hi b (by omega) hj];exact Nat.mod_lt _ (Nat.two_pow_pos _)
def tq(K:Kd)(s:S8)(l:List Nat):Nat->S8
 |0=>s
 |j+1=>turn K (tq K s l j) ((l.drop (j*(2*K.wb))).take (2*K.wb))
theorem tq_shift(s:S8)(l:List Nat):∀j,tq K s l (j+1)=tq K (turn K s (l.take (2*K.wb))) (l.drop (2*K.wb)) j
 |0=>by simp[tq]
 |j+1=>by
  rw[tq,tq_shift s l j,tq,List.drop_drop,show 2*K.wb+j*(2*K.wb)=(j+1)*(2*K.wb) by rw[Nat.succ_mul j,Nat.add_comm]]
theorem turns_tq(hw:0<K.wb):∀ (f:Nat) (s:S8) (l:List Nat),l.length/(2*K.wb)<=f->turns K f s l=tq K s l (l.length/(2*K.wb))
 |0,s,l,h=>by rw[Nat.le_zero.1 h];rfl
 |f+1,s,l,h=>by
  by_cases hl:l.length<2*K.wb
  ·rw[turns,if_pos hl,Nat.div_eq_of_lt hl];rfl
  ·have hd:l.length/(2*K.wb)=(l.length-2*K.wb)/(2*K.wb)+1:=by
    rw[Nat.div_eq_sub_div (by omega) (by omega)]
   rw[turns,if_neg hl,hd,tq_shift,turns_tq hw f _ _ (by rw[List.length_drop];omega),List.length_drop]
theorem tq_app(s:S8){p:List Nat}{q:Nat}(hp:p.length=q*(2*K.wb))(x:List Nat):∀j,j<=q->tq K s (p++x) j=tq K s p j
 |0,_=>rfl
 |j+1,h=>by
  have h1:=Nat.mul_le_mul_right (2*K.wb) h
  rw[Nat.succ_mul j]at h1
  rw[tq,tq,tq_app s hp x j (by omega),List.drop_append_of_le_length (by omega),List.take_append_of_le_length (by rw[List.length_drop];omega)]
theorem tq_more(s:S8){p:List Nat}{q:Nat}(hp:p.length=q*(2*K.wb))(x:List Nat):∀j,tq K s (p++x) (q+j)=tq K (tq K s p q) x j
 |0=>tq_app s hp x q (Nat.le_refl q)
 |j+1=>by
  rw[<-Nat.add_assoc,tq,tq_more s hp x j,tq,Nat.add_mul,<-hp,List.drop_append,show p.length+j*(2*K.wb)-p.length=j*(2*K.wb) by omega,List.drop_of_length_le (by omega),List.nil_append]
def hst(K:Kd)(s:S8)(l:List Nat):S8:=tq K s l (l.length/(2*K.wb))
def left(K:Kd)(l:List Nat):List Nat:=l.drop (l.length/(2*K.wb)*(2*K.wb))
theorem left_len(l:List Nat):(left K l).length=l.length%(2*K.wb):=by
 unfold left
 rw[List.length_drop]
 have:=Nat.div_add_mod l.length (2*K.wb)
 rw[Nat.mul_comm]at this
 omega
theorem hst_app(hw:0<K.wb)(s:S8)(l x:List Nat):hst K s (l++x)=tq K (hst K s l) (left K l++x) ((left K l++x).length/(2*K.wb))/\left K (l++x)=(left K l++x).drop ((left K l++x).length/(2*K.wb)*(2*K.wb)):=by
 obtain⟨q,hq⟩:=exq (l.length/(2*K.wb))
 have hle:q*(2*K.wb)<=l.length:=by rw[hq];exact Nat.div_mul_le_self _ _
 have hp:(l.take (q*(2*K.wb))).length=q*(2*K.wb):=by rw[List.length_take];omega
 have hsplit:l++x=l.take (q*(2*K.wb))++(left K l++x):=by
  unfold left
  rw[<-hq,<-List.append_assoc,List.take_append_drop]
 have hlen:(l++x).length=q*(2*K.wb)+(left K l++x).length:=by
  rw[hsplit,List.length_append,hp]
 have hdiv:(l++x).length/(2*K.wb)=q+(left K l++x).length/(2*K.wb):=by
  rw[hlen,Nat.mul_comm,Nat.mul_add_div (by omega)]
 have hh:hst K s l=tq K s (l.take (q*(2*K.wb))) q:=by
  unfold hst
  rw[<-hq]
  conv=>lhs;rw[<-List.take_append_drop (q*(2*K.wb)) l]
  exact tq_app s hp _ q (Nat.le_refl q)
 refine⟨?_,?_⟩
 ·rw[hh,<-tq_more s hp,<-hsplit,<-hdiv];rfl
 ·show(l++x).drop ((l++x).length/(2*K.wb)*(2*K.wb))=_
  rw[hdiv,Nat.add_mul,<-hp]
  conv=>lhs;rw[hsplit]
  rw[hp,<-List.drop_drop,List.drop_left' hp]
theorem ok8_tq(h16:16<=K.ks.length){s:S8}(h:ok8 K.wb s)(l:List Nat):∀j,ok8 K.wb (tq K s l j)
 |0=>h
 |j+1=>by rw[tq,turn_rnd _ _ h16];exact ok8_add _ _ _
theorem hash_hst(hw:0<K.wb)(s:S8)(size:Nat)(l:List Nat)(hp:(pad K l).length/(2*K.wb)<=l.length+1):hash K s size l=(out (K.wb/8) (hst K s (pad K l))).take size:=by
 unfold hash hst
 rw[turns_tq hw _ _ _ hp]
end Sh
namespace Go.Proofs.YtdhmihfefgcbeaaGreat
open Go.Vg Go.RowKit
set_option maxRecDepth 200000
set_option cbv.maxSteps 100000000
theorem cARotL{P:Program}(hP:P=Tryz.prog)(x k:Nat)(hx:x<4294967296)(hk:1<=k/\k<32)(z:Int)(hz:z= -(k:Int))(r:Nat)(hr:r=Sh.rotr 32 x k):
 Con P 183 [.int .u32 (.ofNat x),.int .i64 z] [] 0 [] (fun v _ _=>v= .int .u32 (.ofNat r)):=by
 obtain⟨c,hc⟩:=exq (0x10000000000000000-k)
 obtain⟨k',hk'⟩:=exq (32-k)
 obtain⟨u,hu⟩:=exq (x*2^k'%4294967296)
 obtain⟨w,hw⟩:=exq (x/2^k)
 have hul:u<4294967296:=by rw[hu];exact Nat.mod_lt _ (by decide)
 have hwl:w<4294967296:=by rw[hw];exact Nat.lt_of_le_of_lt (Nat.div_le_self _ _) hx
 have hr2:r=u|||w:=by
  rw[hr,Sh.rotr,Nat.shiftRight_eq_div_pow,Nat.shiftLeft_eq,Nat.or_comm,hu,hw,hk']
 refine cof hP Tryz.func183 (bdb _ rfl) (bkb rfl) ?_
 intro A g K hA hg hK
 obtain⟨bin,sh,_,_,cvt,_,nn,_,_,_,_,_,_,_,_,_,_,_,sub⟩:=A
 have e1:cvt .u64 z=Int.ofNat c:=by
  refine(cvt_of hA .u64 z).trans ?_
  rw[hz,hc]
  simp[IntKind.wrap,IntKind.signed,IntKind.bits]
  omega
 have e2:bin .and .u64 (.ofNat c) 31=Int.ofNat k':=(andW hA (k:= .u64) rfl (a:=c) (b:=31) (by show c<0x10000000000000000;omega) (by decide)).trans (congrArg Int.ofNat (by
  rw[show(31:Nat)=2^5-1 from rfl,Nat.and_two_pow_sub_one_eq_mod,hc,hk'];omega))
 have e3:nn (.ofNat k')=true:=nn_t hA k'
 have e4:sh .shl .u32 (.ofNat x) (.ofNat k')=Int.ofNat u:=(shlW hA (k:= .u32) rfl x (s:=k') (by show k'<=32;omega)).trans (by rw[hu];rfl)
 have e5:bin .sub .u64 32 (.ofNat k')=Int.ofNat k:=(subW hA (k:= .u64) rfl (a:=32) (b:=k') (by show k'<=0x10000000000000000;omega)).trans (congrArg Int.ofNat (by show(32+0x10000000000000000-k')%0x10000000000000000=k;omega))
 have e6:nn (.ofNat k)=true:=nn_t hA k
 have e7:sh .shr .u32 (.ofNat x) (.ofNat k)=Int.ofNat w:=(shrI hA (k:= .u32) (a:=x) (b:=k) (by show k<=32;omega)).trans (by rw[hw])
 have e8:bin .or .u32 (.ofNat u) (.ofNat w)=Int.ofNat r:=(orW hA (k:= .u32) rfl (a:=u) (b:=w) hul hwl).trans (by rw[hr2])
 cbv
 rw[e1]
 cbv
 rw[e2,e3]
 cbv
 rw[e4,e5]
 cbv
 rw[e6]
 cbv
 rw[e7,e8]
 exact hK _ _ _ rfl
theorem cARot{P:Program}(hP:P=Tryz.prog)(x k:Nat)(hx:x<4294967296)(hk:1<=k/\k<32)(r:Nat)(hr:r=Sh.rotr 32 x k):
 Con P 179 [.int .u32 (.ofNat x),.int .i64 (.ofNat k)] [] 0 [] (fun v _ _=>v= .int .u32 (.ofNat r)):=by
 obtain⟨z,hz⟩:=exq (-(k:Int):Int)
 have hR:=cARotL hP x k hx hk z hz r hr
 refine cof hP Tryz.func179 (bdb _ rfl) (bkb rfl) ?_
 intro A g K hA hg hK
 obtain⟨_,_,_,una⟩:=A
 have e1:una .neg .i64 (Int.ofNat k)=z:=by
  refine(neg_of hA .i64 _).trans ?_
  rw[hz]
  simp[IntKind.wrap,IntKind.signed,IntKind.bits]
  omega
 cbv
 rw[e1]
 cbv
 refine cva rfl hg rfl rfl hR ?_
 rintro _ _ _ rfl
 cbv
 exact hK _ _ _ rfl
end Go.Proofs.YtdhmihfefgcbeaaGreat
