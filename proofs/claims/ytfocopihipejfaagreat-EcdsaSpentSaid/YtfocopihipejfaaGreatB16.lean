/-
  This text proves what these texts prove: Ge, Gf, Gg, Gh, Oh, Oi, Oj. Conditions: those of each theorem.
-/
import Derived.Test.YtfocopihipejfaaGreatB15
import Derived.Test.YtfocopihipejfaaGreatB10
import Derived.Test.YtfocopihipejfaaGreatB13
set_option maxHeartbeats 8000000
set_option linter.all false
namespace Go.Proofs.YtfocopihipejfaaGreat
open Go.Vg Go.RowKit
set_option maxRecDepth 200000
set_option cbv.maxSteps 100000000
def pX(x n j:Nat):Nat:=x/2^((n-1-j)*4)%16
theorem Zc{P:Program}(hP:P=Tryz.prog):(P.info? 3).map (·.bytes)=some 8:=by
 subst hP;kernel_rfl
def L_(l es:Nat)(t:TypeId)(i c:Nat)(C:List SV)(v:SV)(B:LL):Prop:=(v= .au/\B=[]/\i=0)\/(v= .slice l 0 i c/\B=[⟨l,C,t⟩]/\i<=c/\C.length=c*es/\c<=maxLen)
theorem ag8{P:Program}(hP:P=Tryz.prog):ah P 192 [.int .i64 4] [] 0 [] (fun v _ _=>v= .bool true):=by
 refine aq hP Tryz.func192 (ak _ rfl) (aD rfl) ?_
 intro A g K hA hg hK
 obtain⟨_,_,cmp⟩:=A
 have e1:cmp .geq 4 1=true:=kC hA (a:=4) (b:=1) (by decide)
 have e2:cmp .leq 4 6=true:=abY hA (a:=4) (b:=6) (by decide)
 cbv
 rw[e1]
 cbv
 rw[e2]
 exact hK _ _ _ rfl
theorem afZ{P:Program}(hP:P=Tryz.prog)(a:Nat->Nat)(ha:Wn 9 a)(b n:Nat)(hb:1<=b/\b<=576)(hl:V 9 a<2^b)(hn:n=(b+3)/4):
 ah P 167 [.agg (ws a 9),.int .i64 (.ofNat b),.int .i64 4] [] 0 [] (fun v L q=>∃c C,v= .aR [.slice 1 0 n c,.int .i64 0]/\L=[⟨0,ws a 9,31⟩,⟨1,C,3⟩]/\q=2/\n<=c/\C.length=c/\(∀j,j<n->C[j]? =some (.int .i64 (.ofNat (pX (V 9 a) n j))))/\∀m,an m C=true):=by
 obtain⟨bl,jD⟩:=ua (V 9 a)
 have ai5:=Ib hP a ha bl jD
 have aru:bl<=b:=by
  rcases Nat.lt_or_ge b bl with h|h
  ·have h1:=jD.2 (by omega)
   have h2:=cV (n:=2) (by decide) (show b<=bl-1 by omega)
   omega
  ·exact h
 have aje:=ag8 hP
 have iy:1<=n:=by omega
 refine aq hP Tryz.func167 (ak _ rfl) (aD rfl) ?_
 intro A g K hA hg hK
 obtain⟨bin,sh,cmp,_,aX,_,nn,nz,fQ,_,_,_,_,_,_,_,_,_,sub⟩:=A
 have e1:cmp .lss (.ofNat b) 1=false:=bM hA (b:=1) (by omega)
 have e2:cmp .gtr (.ofNat b) 576=false:=jV hA (b:=576) (by omega)
 have e3:cmp .gtr (.ofNat bl) (.ofNat b)=false:=jV hA (by omega)
 have e4:fQ true=false:=ln hA true
 obtain⟨b4,yr⟩:=aa (b+4)
 obtain⟨b3,yq⟩:=aa (b+3)
 have e5:bin .add .i64 (.ofNat b) 4=Int.ofNat b4:=(e_ hA (a:=b) (b:=4) (by omega)).trans (by rw[yr])
 have e6:bin .sub .i64 (.ofNat b4) 1=Int.ofNat b3:=(er hA (a:=b4) (b:=1) (by omega) (by omega)).trans (by rw[yq,yr];rfl)
 have e7:bin .quo .i64 (.ofNat b3) 4=Int.ofNat n:=(mO hA (a:=b3) (b:=4) (by omega)).trans (by rw[hn,yq])
 have e8:nz 4=true:=Ve hA (by decide)
 have e9:bin .sub .i64 (.ofNat n) 1=(n:Int)-1-(0:Nat):=(er hA (a:=n) (b:=1) (by omega) (by omega)).trans (by simp;omega)
 have jT:nn 4=true:=kr hA 4
 have kP:sh .shl .u64 1 4=16:=(mP hA (k:= .u64) rfl 1 (s:=4) (by decide)).trans (by rfl)
 have zJ:bin .sub .u64 16 1=15:=(A8 hA (k:= .u64) rfl (a:=16) (b:=1) (by decide)).trans (by rfl)
 cbv
 refine fe rfl hg rfl rfl aje ?_
 rintro _ _ _ rfl
 cbv
 rw[e4]
 cbv
 rw[e1]
 cbv
 rw[e2]
 cbv
 refine fe rfl hg rfl rfl ai5 ?_
 rintro _ _ _ rfl
 cbv
 rw[e3]
 cbv
 rw[e5]
 cbv
 rw[e6,e8]
 cbv
 rw[e7,e9]
 obtain⟨z0,oW⟩:=aa ((n:Int)-1-(0:Nat):Int)
 rw[<-oW]
 refine⟨Nat×List SV×Nat×Int×SV×LL,fun s=>s.1<=n/\s.2.2.2.1=(n:Int)-1-s.1/\L_ 1 1 3 s.1 s.2.2.1 s.2.1 s.2.2.2.2.1 s.2.2.2.2.2/\(∀j,j<s.1->s.2.1[j]? =some (.int .i64 (.ofNat (pX (V 9 a) n j))))/\(∀m,an m s.2.1=true),fun s=>n-s.1,
  fun s=> [(1,.int .i64 (.ofNat b)),(2,.int .i64 4),(3,.ptr 0 0),(6,.au),(7,.int .i64 0),(8,s.2.2.2.2.1),(9,.int .i64 s.2.2.2.1)],
  fun s=>⟨0,ws a 9,31⟩::s.2.2.2.2.2,2,⟨(0,[],0,z0,.au,[]),id,⟨bf _,oW,Or.inl ⟨rfl,rfl,rfl⟩,fun j h=>absurd h (mh j),fun _=>rfl⟩,?_⟩,?_⟩
 ·exact a_
 rintro⟨i,C,c,z,v,B⟩ ⟨hi,hz,hR,RM,M6⟩
 change i<=n at hi
 change z=(n:Int)-1-i at hz
 change L_ 1 1 3 i c C v B at hR
 change ∀j,j<i->C[j]? =some (.int .i64 (.ofNat (pX (V 9 a) n j)))at RM
 change ∀m,an m C=true at M6
 by_cases ab:i<n
 ·obtain⟨at_,sS⟩:=aa (n-1-i)
  obtain rfl:z=Int.ofNat at_:=by rw[hz,sS];simp;omega
  obtain⟨a4,yp⟩:=aa (at_*4)
  have g1:cmp .geq (.ofNat at_) 0=true:=kC hA (b:=0) (bf _)
  have g2:bin .mul .i64 (.ofNat at_) 4=Int.ofNat a4:=(k8 hA (a:=at_) (b:=4) (by omega)).trans (by rw[yp])
  obtain⟨x,wx,vx⟩:=cD 9 (V 9 a/2^a4) (eB (gq _ _) (eg ha))
  have aaK:=QU hP a x ha wx a4 (by omega) vx
  obtain⟨dd,lU⟩:=aa (pX (V 9 a) n i)
  have kY:x 0%16=dd:=by
   rw[lU]
   unfold pX
   rw[<-sS,<-yp,<-vx]
   have h1:V 9 x%0x10000000000000000=x 0:=by
    have:=Dg.zH (b:=0x10000000000000000) (by decide) 9 wx 0 (by decide)
    rw[<-this]
    unfold Dg.eJ
    rw[jB,pf];rfl
   rw[<-h1]
   exact HH _ (by decide)
  have g3:bin .and .u64 (.ofNat (x 0)) 15=Int.ofNat dd:=(qP hA (k:= .u64) rfl (a:=x 0) (b:=15) (wx 0 (by decide)) (by decide)).trans (by rw[<-kY];exact aK Int.ofNat (Bf (x 0) 4))
  have g4:aX .i64 (.ofNat dd)=Int.ofNat dd:=nQ hA (fun _=>by show dd<2^63;omega) (fun h=>by cases h)
  have g5:bin .sub .i64 (.ofNat at_) 1=(n:Int)-1-(i+1:Nat):=by
   have:bin .sub .i64 (.ofNat at_) 1=IntKind.i64.wrap (Int.ofNat at_-1):=bg (bg (bg (bg (qQ hA) .sub) .i64) (Int.ofNat at_)) 1
   rw[this,sS]
   simp only[IntKind.wrap,IntKind.signed,IntKind.bits]
   simp
   omega
  obtain⟨z',uK⟩:=aa ((n:Int)-1-(i+1:Nat):Int)
  rw[<-uK]at g5
  rcases hR with⟨rfl,rfl,rfl⟩|⟨rfl,rfl,BL,qX,hc⟩
  ·cbv
   rw[g1]
   cbv
   rw[g2]
   cbv
   refine ad5 hg rfl rfl rfl rfl (r:=Int.ofNat a4) (af (show ¬ (576:Int)<(a4:Int) by omega)).symm ?_
   cbv
   refine dJ hg aaK ?_
   cbv
   refine tG (hP▸aI) hA hg (hP▸mixed) rfl rfl [(10,[])] rfl ?_
   cbv
   rw[jT]
   cbv
   rw[kP]
   cbv
   rw[zJ]
   cbv
   rw[g3]
   cbv
   rw[g4]
   cbv
   refine ad1 (hP▸aI) hg rfl rfl (show av 244=some _ from rfl) rfl (show av 3=some _ from rfl) (Zc hP) (by decide) rfl (show ev _ _=some (.slice 3 0 1 1)from rfl) (show find _ 3=some _ from rfl) (by exact aE 1) (by decide) (by decide) (by decide) ?_
   intro c' eA dP
   obtain⟨Y,hY⟩:=aa (([SV.int .i64 (.ofNat dd)].drop 0).take (1*1)++rep (c'-1) [SV.int .i64 0])
   rw[<-hY]
   cbv
   rw[g5]
   have SN:Y.length=c':=by rw[hY];simp[G5];omega
   have DD:∀m,an m Y=true:=fun m=>by rw[hY];exact mX rfl (EH rfl _)
   refine⟨(1,Y,c',z',.slice 1 0 1 c',[⟨1,Y,3⟩]),fun l=>if l=1 then 4 else l,⟨iy,uK,Or.inr ⟨rfl,rfl,eA,by rw[SN,fh],dP⟩,fun j hj=> ?_,DD⟩,(by show n-1<n-0;omega),?_⟩
   ·have hj:j<1:=hj
    obtain rfl:j=0:=by omega
    show Y[0]? =_
    rw[hY,lU];rfl
   ·exact dH (by repeat' (first|exact trivial|refine⟨rfl,rfl,?_⟩)) ⟨rfl,rfl,rfl,rfl,by rw[ae Y (DD 0)];rfl,rfl,rfl,DD 2,trivial⟩ rfl rfl rfl
  ·cbv
   rw[g1]
   cbv
   rw[g2]
   cbv
   refine ad5 hg rfl rfl rfl rfl (r:=Int.ofNat a4) (af (show ¬ (576:Int)<(a4:Int) by omega)).symm ?_
   cbv
   refine dJ hg aaK ?_
   cbv
   refine tG (hP▸aI) hA hg (hP▸mixed) rfl rfl [(10,[])] rfl ?_
   cbv
   rw[jT]
   cbv
   rw[kP]
   cbv
   rw[zJ]
   cbv
   rw[g3]
   cbv
   rw[g4]
   cbv
   refine ad2 (hP▸aI) hg rfl rfl (show av 244=some _ from rfl) rfl (show av 3=some _ from rfl) (Zc hP) (by decide) (show ev _ _=some (.slice 1 0 i c)from rfl) (show find _ 1=some _ from rfl) rfl BL qX hc (show ev _ _=some (.slice 3 0 1 1)from rfl) (show find _ 3=some _ from rfl) (by exact aE 1) rfl (by simp only[maxLen];omega) (by omega) ?_
   intro c' tail h1 h2 h3 h4
   obtain⟨Y,hY⟩:=aa (C.take (i*1)++([SV.int .i64 (.ofNat dd)].drop 0).take (1*1)++tail)
   rw[<-hY]
   obtain⟨i1,dQ⟩:=aa (i+1)
   rw[<-dQ]at h1 h3⊢
   cbv
   rw[g5]
   have SN:Y.length=c':=by
    rw[hY,dI,dI,h3,eY,qX]
    simp;omega
   have DD:∀m,an m Y=true:=fun m=>by rw[hY];exact mX (mX (CZ (M6 m)) rfl) (h4 m (M6 m) rfl)
   refine⟨(i1,Y,c',z',.slice 1 0 i1 c',[⟨1,Y,3⟩]),fun l=>if l=1 then 4 else l,⟨by show i1<=n;omega,by rw[dQ];exact uK,Or.inr ⟨rfl,rfl,h1,by rw[SN,fh],h2⟩,fun j hj=> ?_,DD⟩,(by show n-i1<n-i;omega),?_⟩
   ·have hj:j<i1:=hj
    show Y[j]? =_
    rw[hY,fh,jA]
    by_cases oO:j<i
    ·rw[se (by rw[eY,qX];omega),Fc,aj oO]
     exact RM j oO
    ·obtain rfl:j=i:=by omega
     rw[Hs (by rw[eY,qX];omega),eY,qX,show j-min j (c*1)=0 by omega,lU]
     rfl
   ·exact dH (by repeat' (first|exact trivial|refine⟨rfl,rfl,?_⟩)) ⟨rfl,rfl,rfl,rfl,by rw[ae Y (DD 0)];rfl,rfl,rfl,DD 2,trivial⟩ rfl rfl rfl
 ·obtain rfl:i=n:=by omega
  have g1:cmp .geq z 0=false:=by
   have:cmp .geq z 0=H2 .geq z 0:=bg (bg (bg (kA hA) .geq) z) 0
   rw[this]
   show decide (z≥0)=false
   exact da (by rw[hz];omega)
  rcases hR with⟨rfl,rfl,rfl⟩|⟨rfl,rfl,BL,qX,hc⟩
  ·omega
  cbv
  rw[g1]
  cbv
  exact hK _ _ _ ⟨c,C,rfl,rfl,rfl,BL,by rw[qX,fh],RM,M6⟩
def l_(X Y:Nat->Nat)(inf:Bool):List SV:=ws X 9++ws Y 9++[.bool inf]
def sj(k:Nat)(Q:EC.Pt (EC.cp k))(n:Nat)(C:List SV):Prop:=
 ∀i,i<n->∃X Y inf,mW k (EC.smul EC.aN (EC.ca k) i Q) X Y inf/\(C.drop (i*19)).take 19=l_ X Y inf
theorem afz{P:Program}(hP:P=Tryz.prog):(P.info? 42).map (·.bytes)=some 152:=by
 subst hP;kernel_rfl
theorem ac9(X Y:Nat->Nat)(inf:Bool):(l_ X Y inf).length=19:=rfl
theorem sj.app{k:Nat}{Q:EC.Pt (EC.cp k)}{n:Nat}{C tail:List SV}{c:Nat}(h:sj k Q n C)(hl:C.length=c*19)(hn:n<=c){X Y:Nat->Nat}{inf:Bool}(hp:mW k (EC.smul EC.aN (EC.ca k) n Q) X Y inf):
 sj k Q (n+1) (C.take (n*19)++l_ X Y inf++tail):=by
 have ab:(C.take (n*19)).length=n*19:=by rw[eY,hl];omega
 intro i hi
 by_cases h1:i<n
 ·obtain⟨X',Y',akv,q1,q2⟩:=h i h1
  refine⟨X',Y',akv,q1,?_⟩
  rw[<-q2,jA,PS (by omega),LS (by rw[iY];omega),PU,Hz]
  congr 1;omega
 ·obtain rfl:i=n:=by omega
  refine⟨X,Y,inf,hp,?_⟩
  rw[jA,PT ab,LS (by rw[ac9];exact aE _)]
  exact vf (by rw[ac9];exact aE _)
section
variable {k:Nat}(hk:1<=k/\k<=15){p a b n gx gy th d:Nat->Nat}{m s1 bits size:Nat}{leg:Bool}(hC:Cv k p a b n gx gy th bits size)
include hk hC
theorem ag3{P:Program}(hP:P=Tryz.prog)(hD:Dv p d m s1){Q:EC.Pt (EC.cp k)}(o:EC.eI (EC.ca k) (EC.cb k) Q){x y:Nat->Nat}{inf:Bool}(hQ:mW k Q x y inf)(N:Nat)(hN:1<=N/\N<=1000):
 ah P 134 [.ptr 0 0,.agg (ws x 9++ws y 9++[.bool inf]),.int .i64 (.ofNat N)] (mq k p a b n gx gy th d m s1 bits size leg) 3 [] (fun v L q=>∃c C,v= .ptr 4 0/\find L 4=some ⟨4,[.slice 7 0 N c],250⟩/\find L 7=some ⟨7,C,42⟩/\find L 0=find (mq k p a b n gx gy th d m s1 bits size leg) 0/\find L 1=find (mq k p a b n gx gy th d m s1 bits size leg) 1/\find L 2=find (mq k p a b n gx gy th d m s1 bits size leg) 2/\q=8/\N<=c/\C.length=c*19/\sj k Q N C/\∀m,an m C=true):=by
 obtain⟨X1,Y1,Z1,t1,jb⟩:=MD hk hP hQ
 obtain⟨X0,Y0,Z0,t0,FY⟩:=QO hk hP
 have YU:=afz hP
 refine aq hP Tryz.func134 (ak _ rfl) (aD rfl) ?_
 intro A g K hA hg hK
 obtain⟨bin,_,cmp⟩:=A
 have f1:∀i,i<N->cmp .lss (.ofNat i) (.ofNat N)=true:=fun i h=>cZ hA h
 have f2:cmp .lss (.ofNat N) (.ofNat N)=false:=bM hA (by omega)
 have f3:∀i,i<N->bin .add .i64 (.ofNat i) 1=Int.ofNat (i+1):=fun i h=>gP hA (by omega)
 cbv
 refine dJ hg jb ?_
 cbv
 refine dJ hg FY ?_
 cbv
 refine⟨Nat×(Nat->Nat)×(Nat->Nat)×(Nat->Nat)×List SV×Nat×SV×LL,fun s=>s.1<=N/\kO k (EC.smul EC.aN (EC.ca k) s.1 Q) s.2.1 s.2.2.1 s.2.2.2.1/\L_ 7 19 42 s.1 s.2.2.2.2.2.1 s.2.2.2.2.1 s.2.2.2.2.2.2.1 s.2.2.2.2.2.2.2/\sj k Q s.1 s.2.2.2.2.1/\(∀m,an m s.2.2.2.2.1=true),fun s=>N-s.1,
  fun s=> [(0,.ptr 0 0),(6,.cR),(7,.ptr 4 0),(8,.ptr 5 0),(9,.ptr 6 0),(15,.int .i64 (.ofNat N)),(16,.int .i64 (.ofNat s.1))],
  fun s=>mq k p a b n gx gy th d m s1 bits size leg++[⟨4,[s.2.2.2.2.2.2.1],250⟩,⟨5,ws X1 9++ws Y1 9++ws Z1 9,182⟩,⟨6,ws s.2.1 9++ws s.2.2.1 9++ws s.2.2.2.1 9,182⟩]++s.2.2.2.2.2.2.2,8,⟨(0,X0,Y0,Z0,[],0,.au,[]),id,⟨bf _,t0,Or.inl ⟨rfl,rfl,rfl⟩,fun i h=>absurd h (mh i),fun _=>rfl⟩,?_⟩,?_⟩
 ·exact a_
 rintro⟨i,X,Y,Z,C,c,v,B⟩ ⟨hi,ht,hR,hT,hb⟩
 change i<=N at hi
 change kO k (EC.smul EC.aN (EC.ca k) i Q) X Y Z at ht
 change L_ 7 19 42 i c C v B at hR
 change sj k Q i C at hT
 change ∀m,an m C=true at hb
 by_cases ab:i<N
 ·have oi:=EC.nM (EC.nF k) o i
  obtain⟨px,py,Vr,J1⟩:∃px py Vr,mW k (EC.smul EC.aN (EC.ca k) i Q) px py Vr:=⟨_,_,_,(aiA hk _).choose_spec.choose_spec⟩
  have F4:=QP hk hC (leg:=leg) hP hD ht J1
  obtain⟨X',Y',Z',gJ,BB⟩:=Bm hk hC (leg:=leg) hP hD oi o ht t1
  rcases hR with⟨rfl,rfl,rfl⟩|⟨rfl,rfl,BL,qX,hc⟩
  ·cbv
   rw[f1 0 ab]
   cbv
   refine tG (hP▸aI) hA hg (hP▸mixed) rfl rfl [(9,[0])] rfl ?_
   cbv
   refine aY hg F4 id ⟨rfl,rfl,rfl,trivial⟩ ?_
   cbv
   refine adY (hP▸aI) hg rfl rfl (show av 248=some _ from rfl) rfl (show av 42=some _ from rfl) YU (by decide) rfl (show ev _ _=some (.slice 8 0 1 1)from rfl) (show find _ 8=some _ from rfl) (by exact aE 19) (by decide) (by decide) (by decide) ?_
   intro c' W hW eA dP SJ wE
   have wE:∀m,an m W=true:=fun m=>wE m rfl rfl
   have SH:sj k Q 1 W:=by
    have:=sj.app (C:=[]) (c:=0) (n:=0) (tail:=rep (c'-1) (l_ (fun _=>0) (fun _=>0) false)) (fun i h=>absurd h (mh i)) rfl (aE 0) J1
    rw[hW];exact this
   cbv
   refine aZ hg BB id ⟨rfl,rfl,rfl,trivial⟩ ?_
   cbv
   rw[f3 0 ab]
   refine⟨(1,X',Y',Z',W,c',.slice 7 0 1 c',[⟨7,W,42⟩]),fun l=>if l=7 then 9 else l,⟨ab,gJ,Or.inr ⟨rfl,rfl,eA,SJ,dP⟩,SH,wE⟩,(by show N-1<N-0;omega),?_⟩
   exact dH (by repeat' (first|exact trivial|refine⟨rfl,rfl,?_⟩)) ⟨rfl,rfl,rfl,rfl,rfl,rfl,rfl,rfl,rfl,rfl,rfl,rfl,rfl,rfl,rfl,rfl,rfl,rfl,rfl,rfl,rfl,rfl,rfl,rfl,by rw[ae W (wE 0)];rfl,rfl,rfl,wE 8,trivial⟩ rfl rfl rfl
  ·cbv
   rw[f1 i ab]
   cbv
   refine tG (hP▸aI) hA hg (hP▸mixed) rfl rfl [(9,[0])] rfl ?_
   cbv
   refine aY hg F4 id ⟨rfl,rfl,rfl,trivial⟩ ?_
   cbv
   refine ad0 (hP▸aI) hg rfl rfl (show av 248=some _ from rfl) rfl (show av 42=some _ from rfl) YU (by decide) (show ev _ _=some (.slice 7 0 i c)from rfl) (show find _ 7=some _ from rfl) rfl BL qX hc (show ev _ _=some (.slice 8 0 1 1)from rfl) (show find _ 8=some _ from rfl) (by exact aE 19) rfl (by simp only[maxLen];omega) (by omega) ?_
   intro c' tail W i1 hW dQ h1 h2 SJ wE
   have wE:∀m,an m W=true:=fun m=>wE m (hb m) rfl rfl
   have f3i:bin .add .i64 (.ofNat i) 1=Int.ofNat i1:=by rw[dQ];exact f3 i ab
   have SH:sj k Q i1 W:=by rw[hW,dQ];exact sj.app (tail:=tail) hT qX BL J1
   have gJ:kO k (EC.smul EC.aN (EC.ca k) i1 Q) X' Y' Z':=by rw[dQ];exact gJ
   cbv
   refine aZ hg BB id ⟨rfl,rfl,rfl,trivial⟩ ?_
   cbv
   rw[f3i]
   refine⟨(i1,X',Y',Z',W,c',.slice 7 0 i1 c',[⟨7,W,42⟩]),fun l=>if l=7 then 9 else l,⟨by show i1<=N;omega,gJ,Or.inr ⟨rfl,rfl,h1,SJ,h2⟩,SH,wE⟩,(by show N-i1<N-i;omega),?_⟩
   exact dH (by repeat' (first|exact trivial|refine⟨rfl,rfl,?_⟩)) ⟨rfl,rfl,rfl,rfl,rfl,rfl,rfl,rfl,rfl,rfl,rfl,rfl,rfl,rfl,rfl,rfl,rfl,rfl,rfl,rfl,rfl,rfl,rfl,rfl,by rw[ae W (wE 0)];rfl,rfl,rfl,wE 8,trivial⟩ rfl rfl rfl
 ·obtain rfl:i=N:=by omega
  rcases hR with⟨rfl,rfl,rfl⟩|⟨rfl,rfl,BL,qX,hc⟩
  ·omega
  cbv
  rw[f2]
  cbv
  exact hK _ _ _ ⟨c,C,rfl,rfl,rfl,rfl,rfl,rfl,rfl,BL,qX,hT,hb⟩
theorem ag2{P:Program}(hP:P=Tryz.prog)(hD:Dv p d m s1){Q:EC.Pt (EC.cp k)}(o:EC.eI (EC.ca k) (EC.cb k) Q){x y:Nat->Nat}{inf:Bool}(hQ:mW k Q x y inf)(N:Nat)(hN:1<=N/\N<=1000):
 ah P 134 [.ptr 0 0,.agg (ws x 9++ws y 9++[.bool inf]),.int .i64 (.ofNat N)] (mq k p a b n gx gy th d m s1 bits size leg) 3 [] (fun v L q=>∃c C,v= .ptr 3 0/\L=mq k p a b n gx gy th d m s1 bits size leg++[⟨3,[.slice 4 0 N c],250⟩,⟨4,C,42⟩]/\q=5/\N<=c/\C.length=c*19/\sj k Q N C/\∀m,an m C=true):=by
 refine(ag3 hk hC hP hD o hQ N hN).dj fun v L q ⟨c,C,h1,h2,h3,h4,h5,h6,h7,h8,h9,mu,ui⟩=>⟨fun l=>if l=3 then 4 else if l=4 then 7 else l,.ptr 3 0,_,5,?_,c,C,rfl,rfl,rfl,h8,h9,mu,ui⟩
 subst h1 h7
 exact dH ⟨rfl,rfl,trivial⟩ ⟨h4,rfl,rfl,rfl,h5,rfl,rfl,rfl,h6,rfl,rfl,rfl,h2,rfl,rfl,rfl,(by rw[ae C (ui 0)];exact h3),rfl,rfl,ui 5,trivial⟩ rfl rfl rfl
end
theorem agc{P:Program}(hP:P=Tryz.prog)(i:Int):ah P 193 [.cR,.int .i64 i] [] 0 [] (fun v _ _=>v= .int .i64 1):=by
 refine aq hP Tryz.func193 (ak _ rfl) (aD rfl) ?_
 intro A g K hA hg hK
 cases A
 cbv
 exact hK _ _ _ rfl
theorem agv{P:Program}(hP:P=Tryz.prog){k:Nat}{Q:EC.Pt (EC.cp k)}{N c:Nat}{C:List SV}(hN:N<=c)(hN1:N<=1000)(hl:C.length=c*19)(hT:sj k Q N C)(hb:∀m,an m C=true)(i:Nat)(hi:i<N):
 ∃X Y inf,mW k (EC.smul EC.aN (EC.ca k) i Q) X Y inf/\ah P 168 [.ptr 0 0,.cR,.int .i64 (.ofNat i)] [⟨0,[.slice 1 0 N c],250⟩,⟨1,C,42⟩] 2 [] (fun v _ _=>v= .aR [.agg (l_ X Y inf),.int .i64 0]):=by
 obtain⟨fX,fY,fI,hf⟩:∃ (fX fY:Nat->Nat->Nat) (fI:Nat->Bool),∀j,j<N->mW k (EC.smul EC.aN (EC.ca k) j Q) (fX j) (fY j) (fI j)/\(C.drop (j*19)).take 19=l_ (fX j) (fY j) (fI j):=by
  refine⟨fun j=>if h:j<N then(hT j h).choose else fun _=>0,fun j=>if h:j<N then(hT j h).choose_spec.choose else fun _=>0,fun j=>if h:j<N then(hT j h).choose_spec.choose_spec.choose else false,fun j hj=> ?_⟩
  simp only[dif_pos hj]
  exact(hT j hj).choose_spec.choose_spec.choose_spec
 refine⟨fX i,fY i,fI i,(hf i hi).1,?_⟩
 refine aq hP Tryz.func168 ⟨ao rfl,trivial,trivial,trivial⟩ (by simpa [ay,bd]using ak _ (hb 2)) ?_
 intro A g K hA hg hK
 obtain⟨bin,_,cmp,_,aX,ix,_,_,_,_,_,_,_,_,nat,off,_,_,sub⟩:=A
 have f1:cmp .lss (.ofNat i) 0=false:=bM hA (b:=0) (mh i)
 have f2:nat N=Int.ofNat N:=fZ hA N
 have f3:cmp .geq (.ofNat i) (.ofNat N)=false:=qW hA (by omega)
 have f4:∀j,j<N->cmp .lss (.ofNat j) (.ofNat N)=true:=fun j h=>cZ hA h
 have f5:cmp .lss (.ofNat N) (.ofNat N)=false:=bM hA (by omega)
 have f6:∀j,j<N->ix (.ofNat j) N=some j:=fun j h=>bB hA h
 have f7:∀j,off 0 j 19=j*19:=fun j=>(dh hA 0 j 19).trans (by omega)
 have f8:∀j,j<N->sub C (j*19) 19=some (l_ (fX j) (fY j) (fI j)):=fun j h=>ET hA (by rw[hl];omega) (hf j h).2
 have f9:∀j,j<N->aX .u64 (.ofNat j)=Int.ofNat j:=fun j h=>nQ hA (fun h=>by cases h) (fun _=>by show j<2^64;omega)
 have f10:∀j,j<N->bin .add .i64 (.ofNat j) 1=Int.ofNat (j+1):=fun j h=>gP hA (by omega)
 have f11:∀a m:Nat,a<0x10000000000000000->m<0x10000000000000000->bin .and .u64 (.ofNat a) (.ofNat m)=Int.ofNat (a&&&m):=fun a m h1 h2=>qP hA (k:= .u64) rfl h1 h2
 have f12:∀a m:Nat,a<0x10000000000000000->m<0x10000000000000000->bin .or .u64 (.ofNat a) (.ofNat m)=Int.ofNat (a|||m):=fun a m h1 h2=>l9 hA (k:= .u64) rfl h1 h2
 simp only[l_,ws,aw,Nat.reduceAdd,du,cM]at f8
 cbv
 rw[f1]
 cbv
 rw[f2,f3]
 cbv
 rw[f2]
 refine bH (Nat×(Nat->Nat)×(Nat->Nat)×Nat) (fun s=>s.1<=N/\(s.2.1=if i<s.1 then fX i else fun _=>0)/\(s.2.2.1=if i<s.1 then fY i else fun _=>0)/\s.2.2.2=if i<s.1/\fI i=true then 1 else 0) (fun s=>N-s.1)
  (fun s=> [(36,.int .i64 (.ofNat s.1)),(9,.int .u64 (.ofNat s.2.2.2))]) [0,1,2,6,7,8,34,35] (fun s=> [(3,ws s.2.1 9++ws s.2.2.1 9++[.bool false])]) (0,fun _=>0,fun _=>0,0) ⟨bf _,(af (mh i)).symm,(af (mh i)).symm,(af (fun h=>mh i h.1)).symm⟩ ?_ ?_
 ·exact aS ⟨rfl,rfl,rfl,rfl,rfl,hb 4,rfl,rfl,rfl,rfl,rfl,rfl,trivial⟩
 rintro⟨j,X,Y,w⟩ ⟨hj,hX,hY,hw⟩
 change j<=N at hj
 change X=if i<j then fX i else fun _=>0 at hX
 change Y=if i<j then fY i else fun _=>0 at hY
 change w=if i<j/\fI i=true then 1 else 0 at hw
 by_cases ab:j<N
 ·obtain⟨hpj,_⟩:=hf j ab
  have wX:Wn 9 X:=by rw[hX];split;exact(hf i hi).1.wX;exact Hf
  have wY:Wn 9 Y:=by rw[hY];split;exact(hf i hi).1.wY;exact Hf
  obtain⟨m,hm⟩:=aa (o7 (decide (j=i)))
  have hEq:=agi hP j i m (by omega) (by omega) hm
  obtain⟨X',dO⟩:=aa (if decide (j=i)=true then fX j else X)
  obtain⟨Y',SM⟩:=aa (if decide (j=i)=true then fY j else Y)
  have I5:=ZE hP (decide (j=i)) m hm (fX j) X X' hpj.wX wX dO
  have hSY:=ZE hP (decide (j=i)) m hm (fY j) Y Y' hpj.wY wY SM
  have hIdx:=agc hP (Int.ofNat j)
  have Gn:m<0x10000000000000000:=by rw[hm];cases decide (j=i)<;>decide
  have xf:w<=1:=by rw[hw];split<;>omega
  obtain⟨b,hbj⟩:=aa (fI j)
  have f8j:=f8 j ab
  rw[<-hbj]at f8j
  have aaL:X'=if i<j+1 then fX i else fun _=>0:=by
   rw[dO,hX]
   by_cases h:j=i
   ·rw[aj (by simpa using h),aj (by omega),h]
   ·rw[af (by simpa using h)]
    by_cases h2:i<j
    ·rw[aj h2,aj (by omega)]
    ·rw[af h2,af (by omega)]
  have aaM:Y'=if i<j+1 then fY i else fun _=>0:=by
   rw[SM,hY]
   by_cases h:j=i
   ·rw[aj (by simpa using h),aj (by omega),h]
   ·rw[af (by simpa using h)]
    by_cases h2:i<j
    ·rw[aj h2,aj (by omega)]
    ·rw[af h2,af (by omega)]
  obtain⟨na,JQ⟩:=aa ((if b=true then 1 else 0)&&&m)
  have arC:na<=1:=by
   rw[JQ]
   cases b with
   |true=>exact Nat.and_le_left
   |false=>exact eH Nat.and_le_left (by decide)
  obtain⟨w',rE⟩:=aa (w|||na)
  have abF:w'=if i<j+1/\fI i=true then 1 else 0:=by
   rw[rE,JQ,hw,hm,hbj]
   by_cases h:j=i
   ·subst h
    rw[af (fun h=>iO _ h.1)]
    cases fI j<;>simp[o7]
   ·rw[da h]
    simp only[o7,LJ,GH,Nat.and_zero,P6]
    by_cases h2:i<j
    ·simp[h2,show i<j+1 by omega]
    ·simp[h2,show ¬i<j+1 by omega]
  have g3:bin .and .u64 (if b=true then 1 else 0) (Int.ofNat m)=Int.ofNat na:=by
   cases b with
   |true=>exact(f11 1 m (by decide) Gn).trans (by rw[JQ];rfl)
   |false=>exact(f11 0 m (by decide) Gn).trans (by rw[JQ];rfl)
  have g4:bin .or .u64 (.ofNat w) (.ofNat na)=Int.ofNat w':=(f12 w na (by omega) (by omega)).trans (by rw[rE])
  clear hX hY hw rE JQ dO SM hm
  cbv
  rw[f4 j ab]
  cbv
  rw[f6 j ab]
  cbv
  rw[f7 j,f8j]
  cbv
  refine fe rfl hg rfl rfl hIdx ?_
  rintro _ _ _ rfl
  cbv
  rw[f9 j ab,f9 i hi]
  cbv
  refine fe rfl hg rfl rfl hEq ?_
  rintro _ _ _ rfl
  cbv
  refine cf hP hA hg fun mk _=> ?_
  cbv
  refine bN hg I5 ?_
  cbv
  refine bN hg hSY ?_
  cbv
  cases b with
  |true=>
   have g3:bin .and .u64 1 (.ofNat m)=Int.ofNat na:=g3
   cbv
   rw[g3]
   cbv
   rw[g4]
   cbv
   rw[f10 j ab]
   refine⟨(j+1,X',Y',w'),id,⟨ab,aaL,aaM,abF⟩,(by show N-(j+1)<N-j;omega),?_⟩
   exact aS ⟨rfl,rfl,rfl,rfl,rfl,hb 4,rfl,rfl,rfl,rfl,rfl,rfl,trivial⟩
  |false=>
   have g3:bin .and .u64 0 (.ofNat m)=Int.ofNat na:=g3
   cbv
   rw[g3]
   cbv
   rw[g4]
   cbv
   rw[f10 j ab]
   refine⟨(j+1,X',Y',w'),id,⟨ab,aaL,aaM,abF⟩,(by show N-(j+1)<N-j;omega),?_⟩
   exact aS ⟨rfl,rfl,rfl,rfl,rfl,hb 4,rfl,rfl,rfl,rfl,rfl,rfl,trivial⟩
 ·obtain rfl:j=N:=by omega
  rw[aj hi]at hX hY
  subst hX hY
  have g1:cmp .eql (.ofNat w) 1=fI i:=by
   refine(sJ hA w 1).trans ?_
   rw[hw]
   cases fI i with
   |true=>rw[aj ⟨hi,rfl⟩];rfl
   |false=>rw[af (fun h=>by cases h.2)];rfl
  cbv
  rw[f5]
  cbv
  rw[g1]
  cbv
  exact hK _ _ _ rfl
theorem horner(x n i:Nat)(h:i<n):x/2^((n-(i+1))*4)=x/2^((n-i)*4)*16+pX x n i:=by
 unfold pX
 rw[show n-1-i=n-(i+1) by omega,show(n-i)*4=(n-(i+1))*4+4 by omega,dV,<-ke]
 omega
section
variable {k:Nat}(hk:1<=k/\k<=15){p a b n gx gy th d:Nat->Nat}{m s1 bits size:Nat}{leg:Bool}(hC:Cv k p a b n gx gy th bits size)
include hk hC
theorem Mp:1<=bits/\bits<=576:=by
 have h:=hC.bits
 have hn:=ahx hk
 rw[(tK hk).2.2.2.1]at hn
 have h2:2<=qC k:=by rw[<-(tK hk).2.2.2.1];exact(EC.A0 k).1
 constructor
 ·rcases Nat.eq_zero_or_pos bits with h0|h0
  ·have:=h.1;rw[h0]at this;simp at this;omega
  ·exact h0
 ·have:=afr h hn
  omega
theorem ags{P:Program}(hP:P=Tryz.prog)(hD:Dv p d m s1){Q:EC.Pt (EC.cp k)}(o:EC.eI (EC.ca k) (EC.cb k) Q)(e:Nat->Nat)(he:Wn 9 e)(wJ:V 9 e<2^bits){c:Nat}{C:List SV}(hc:16<=c)(qX:C.length=c*19)(hT:sj k Q 16 C)(hb:∀m,an m C=true){x y:Nat->Nat}{inf:Bool}(hR:mW k (EC.smul EC.aN (EC.ca k) (V 9 e) Q) x y inf):
 ah P 133 [.cR,.ptr 0 0,.agg (ws e 9),.ptr 3 0] (mq k p a b n gx gy th d m s1 bits size leg++[⟨3,[.slice 4 0 16 c],250⟩,⟨4,C,42⟩]) 5 [] (fun v _ _=>v= .agg (l_ x y inf)):=by
 obtain⟨cS,cW⟩:=Mp hk hC
 obtain⟨nd,Ao⟩:=aa ((bits+3)/4)
 have ai6:=afZ hP e he bits nd ⟨cS,cW⟩ wJ Ao
 obtain⟨X0,Y0,Z0,t0,FY⟩:=QO hk hP
 have rC:∀r,bj r C=C:=fun r=>ae C (hb 0)
 refine aq hP Tryz.func133 ⟨trivial,ao rfl,ak _ rfl,ao rfl,trivial⟩ (aD (by simp only[mq,kL,mf,du,cM,hb 5];rfl)) ?_
 intro A g K hA hg hK
 obtain⟨bin,_,cmp,_,_,ix,_,_,_,_,_,_,_,_,nat,off,get⟩:=A
 cbv
 refine tG (hP▸aI) hA hg (hP▸mixed) rfl rfl [(6,[])] rfl ?_
 cbv
 refine gQ rfl hg rfl rfl ai6 id rfl trivial rfl rfl rfl ?_
 rintro _ _ _ ⟨dc,dC,rfl,rfl,rfl,h1,h2,h3,h4⟩ _
 have rD:∀r,bj r dC=dC:=fun r=>ae dC (h4 0)
 simp only[aG,rD]
 cbv
 refine dJ hg FY ?_
 have e1:nat nd=Int.ofNat nd:=fZ hA nd
 have f1:∀i,i<nd->cmp .lss (.ofNat i) (.ofNat nd)=true:=fun i h=>cZ hA h
 have f2:cmp .lss (.ofNat nd) (.ofNat nd)=false:=bM hA (by omega)
 have f3:∀i,i<nd->ix (.ofNat i) nd=some i:=fun i h=>bB hA h
 have f4:∀i,off 0 i 1=i:=fun i=>(dh hA 0 i 1).trans (by omega)
 have f5:∀i,i<nd->get dC i=some (.int .i64 (.ofNat (pX (V 9 e) nd i))):=fun i h=>(jU hA _ _).trans (h3 i h)
 have f6:∀i,i<nd->bin .add .i64 (.ofNat i) 1=Int.ofNat (i+1):=fun i h=>gP hA (by omega)
 have f7:∀q,q<4->cmp .lss (.ofNat q) 4=true:=fun q h=>cZ hA (b:=4) h
 have f8:cmp .lss (.ofNat 4) 4=false:=bM hA (b:=4) (by omega)
 have f9:∀q,q<4->bin .add .i64 (.ofNat q) 1=Int.ofNat (q+1):=fun i h=>gP hA (by omega)
 cbv
 rw[e1]
 refine bH (Nat×(Nat->Nat)×(Nat->Nat)×(Nat->Nat)) (fun s=>s.1<=nd/\kO k (EC.smul EC.aN (EC.ca k) (V 9 e/2^((nd-s.1)*4)) Q) s.2.1 s.2.2.1 s.2.2.2) (fun s=>nd-s.1)
  (fun s=> [(29,.int .i64 (.ofNat s.1))]) [0,1,3,6,8,11,27,28] (fun s=> [(9,ws s.2.1 9++ws s.2.2.1 9++ws s.2.2.2 9)]) (0,X0,Y0,Z0) ⟨bf _,?_⟩ ?_ ?_
 ·show kO k (EC.smul EC.aN (EC.ca k) (V 9 e/2^((nd-0)*4)) Q) X0 Y0 Z0
  rw[kg]
  ·exact t0
  ·exact cg wJ (cV (by decide) (by omega))
 ·exact aS (by repeat' (first|exact trivial|refine⟨rfl,rfl,rfl,?_⟩|refine⟨rfl,rfl,hb 10,?_⟩|refine⟨rfl,rfl,h4 10,?_⟩))
 rintro⟨i,X,Y,Z⟩ ⟨hi,ht⟩
 change i<=nd at hi
 change kO k (EC.smul EC.aN (EC.ca k) (V 9 e/2^((nd-i)*4)) Q) X Y Z at ht
 by_cases ab:i<nd
 ·obtain⟨di,BJ⟩:=aa (pX (V 9 e) nd i)
  obtain⟨vi,yR⟩:=aa (V 9 e/2^((nd-i)*4))
  have ajE:di<16:=by rw[BJ];exact ax _ (by decide)
  have f5i:=f5 i ab
  rw[<-BJ]at f5i
  rw[<-yR]at ht
  obtain⟨px,py,Vr,J1,aja⟩:=agv hP hc (by decide) qX hT hb di ajE
  cbv
  rw[f1 i ab]
  cbv
  rw[f3 i ab]
  cbv
  rw[f4 i,f5i]
  cbv
  refine bH (Nat×(Nat->Nat)×(Nat->Nat)×(Nat->Nat)) (fun s=>s.1<=4/\kO k (EC.smul EC.aN (EC.ca k) (vi*2^s.1) Q) s.2.1 s.2.2.1 s.2.2.2) (fun s=>4-s.1)
   (fun s=> [(33,.int .i64 (.ofNat s.1))]) [0,1,3,6,8,11,13,27,28,29] (fun s=> [(9,ws s.2.1 9++ws s.2.2.1 9++ws s.2.2.2 9)]) (0,X,Y,Z) ⟨bf _,by show kO k (EC.smul EC.aN (EC.ca k) (vi*2^0) Q) X Y Z;rw[jB,fh];exact ht⟩ ?_ ?_
  ·exact aS (by repeat' (first|exact trivial|refine⟨rfl,rfl,rfl,?_⟩|refine⟨rfl,rfl,hb 10,?_⟩|refine⟨rfl,rfl,h4 10,?_⟩))
  rintro⟨q,X,Y,Z⟩ ⟨hq,ht⟩
  change q<=4 at hq
  change kO k (EC.smul EC.aN (EC.ca k) (vi*2^q) Q) X Y Z at ht
  have oi:=EC.nM (EC.nF k) o (vi*2^q)
  by_cases wV:q<4
  ·obtain⟨X',Y',Z',gJ,BB⟩:=Bm hk hC (leg:=leg) hP hD oi oi ht ht
   rw[<-EC.Lb (EC.nF k) o,show 2*(vi*2^q)=vi*2^(q+1) by rw[br,L6,bJ 2]]at gJ
   cbv
   rw[f7 q wV]
   cbv
   refine aZ hg BB id ⟨rfl,rfl,rfl,trivial⟩ ?_
   cbv
   rw[f9 q wV]
   refine⟨(q+1,X',Y',Z'),id,⟨wV,gJ⟩,(by show 4-(q+1)<4-q;omega),?_⟩
   exact aS (by repeat' (first|exact trivial|refine⟨rfl,rfl,rfl,?_⟩|refine⟨rfl,rfl,hb 10,?_⟩|refine⟨rfl,rfl,h4 10,?_⟩))
  ·obtain rfl:q=4:=by omega
   obtain⟨TX,TY,TZ,tt,jb⟩:=MD hk hP J1
   obtain⟨X',Y',Z',gJ,BB⟩:=Bm hk hC (leg:=leg) hP hD oi (EC.nM (EC.nF k) o di) ht tt
   rw[<-EC.smul_add (EC.nF k) o,show vi*2^4+di=V 9 e/2^((nd-(i+1))*4) by rw[horner _ _ _ ab,yR,BJ]]at gJ
   cbv
   rw[f8]
   cbv
   refine aZ hg aja (fun l=>l+3) ⟨rfl,by rw[rC];rfl,trivial⟩ ?_
   cbv
   refine cf hP hA hg fun mk _=> ?_
   cbv
   refine bN hg jb ?_
   cbv
   refine aY hg BB id ⟨rfl,rfl,rfl,trivial⟩ ?_
   cbv
   rw[f6 i ab]
   refine⟨(i+1,X',Y',Z'),id,⟨ab,gJ⟩,(by show nd-(i+1)<nd-i;omega),?_⟩
   exact aS (by repeat' (first|exact trivial|refine⟨rfl,rfl,rfl,?_⟩|refine⟨rfl,rfl,hb 10,?_⟩|refine⟨rfl,rfl,h4 10,?_⟩))
 ·obtain rfl:i=nd:=by omega
  rw[vH,fE,jB,pf]at ht
  have F4:=QP hk hC (leg:=leg) hP hD ht hR
  cbv
  rw[f2]
  cbv
  refine aZ hg F4 id ⟨rfl,rfl,rfl,trivial⟩ ?_
  cbv
  exact hK _ _ _ rfl
theorem gW:mW k (EC.G k) gx gy false:=by
 have hs:=EC.small k
 simp only[dq,qT]at hs
 obtain⟨_,_,_,_,h5,h6⟩:=tK hk
 exact⟨hC.wx,hC.wy,by rw[hC.vx,<-h5];exact(EC.qH _ hs.1.1.1.1.2).symm,by rw[hC.vy,<-h6];exact(EC.qH _ hs.1.1.1.2).symm,rfl⟩
theorem afR{P:Program}(hP:P=Tryz.prog)(hD:Dv p d m s1)(e:Nat->Nat)(he:Wn 9 e)(wJ:V 9 e<2^bits){x y:Nat->Nat}{inf:Bool}(hR:mW k (EC.smul EC.aN (EC.ca k) (V 9 e) (EC.G k)) x y inf):
 ah P 87 [.cR,.ptr 0 0,.agg (ws e 9)] (mq k p a b n gx gy th d m s1 bits size leg) 3 [] (fun v _ _=>v= .agg (l_ x y inf)):=by
 have o:=EC.qK k
 have kS:=ag2 hk hC (leg:=leg) hP hD o (gW hk hC) 16 (by decide)
 refine aq hP Tryz.func87 ⟨trivial,ao rfl,ak _ rfl,trivial⟩ (aD rfl) ?_
 intro A g K hA hg hK
 cases A
 cbv
 refine tG (hP▸aI) hA hg (hP▸mixed) rfl rfl [(9,[0,1,2])] rfl ?_
 cbv
 refine gQ rfl hg rfl rfl kS id rfl ⟨rfl,rfl,rfl,trivial⟩ rfl rfl rfl ?_
 rintro _ _ _ ⟨c,C,rfl,rfl,rfl,h1,h2,h3,h4⟩ _
 have rC:∀r,bj r C=C:=fun r=>ae C (h4 0)
 have hM:=ags hk hC (leg:=leg) hP hD o e he wJ h1 h2 h3 h4 hR
 refine⟨rfl,?_⟩
 simp only[aG,rC,mq,du,cM]
 cbv
 refine aY hg hM (fun l=>if l<3 then l else l+2) ⟨rfl,rfl,rfl,rfl,by rw[rC];rfl,trivial⟩ ?_
 cbv
 exact hK _ _ _ rfl
end
def rL(k:Nat):Bool:=decide (k=1)||decide (k=7)
theorem ZP{k:Nat}(hk:1<=k/\k<=15){p a b n gx gy th:Nat->Nat}{bits size:Nat}(hC:Cv k p a b n gx gy th bits size):EC.cn k<2^bits:=by
 rw[(tK hk).2.2.2.1];exact hC.bits.1
end Go.Proofs.YtfocopihipejfaaGreat
namespace EC
open Pr
section
variable {p:Nat}[NeZero p]
theorem GQ{u v:Nat}(h:(nf u:Fin p)=nf v):u%p=v%p:=by
 have:=aK Fin.val h
 simpa [nf,Fin.ofNat]using this
theorem acM{u v:Nat}(h:u%p=v%p):(nf u:Fin p)=nf v:=by rw[<-iA u,h,iA]
theorem aky(hp:ai p){a R Q r:Nat}(ha:a%p≠0)(hR:R%p≠0)(hQ:Q=R*R%p)(hr:r*a%p=1):
 ∃t y x1 x2,t<p/\y<p/\x1<p/\x2<p/\Nat.gcd t p=1/\t*R%p=a*Q%p/\y*t%p=1/\x1*R%p=y*Q%p/\x2*R%p=x1*Q%p/\r*R%p=x2%p:=by
 have BS:0<p:=vF (HL p)
 have h2:=hp.1
 have yO:a*R%p≠0:=fun h=>by
  rcases hp.dvd_mul (vh h)with h|h
  ·exact ha (L4 h)
  ·exact hR (L4 h)
 have xa:(nf (a*R%p):Fin p)≠0:=fun h=>yO (by
  have:=aK Fin.val h
  rwa [qH _ (ax _ BS),val_zero]at this)
 have hy:=KO hp xa
 obtain⟨y',jG⟩:=aa (aN (nf (a*R%p):Fin p))
 rw[<-jG]at hy
 have e1:(nf (r*a):Fin p)=1:=by
  have:(nf (r*a):Fin p)=nf 1:=acM (by rw[hr,aO (by omega)])
  rw[this];rfl
 have eQ:(nf Q:Fin p)=nf R*nf R:=by rw[hQ,iA,jm]
 have ey:(nf y'.val:Fin p)=y':=AW _
 rw[iA,jm]at hy
 rw[jm]at e1
 refine⟨a*R%p,y'.val,y'.val*R%p,y'.val*R*R%p,ax _ BS,y'.isLt,ax _ BS,ax _ BS,?_,?_,?_,?_,?_,?_⟩
 ·exact((hp.coprime fun h=>yO (L4 ((Nat.dvd_mod_iff (Yu p)).1 h))).symm)
 ·refine GQ ?_
  rw[jm,jm,iA,jm,eQ]
  clear hy e1 ey eQ jG xa;grobner
 ·have h1:(nf (y'.val*(a*R%p)):Fin p)=nf 1:=by
   rw[jm,iA,jm,ey]
   show _=(1:Fin p)
   rw[<-hy];clear hy e1 ey eQ jG xa;grobner
  have:=GQ h1
  rwa [aO (show 1<p by omega)]at this
 ·refine GQ ?_
  rw[jm,jm,iA,jm,eQ]
  clear hy e1 ey eQ jG xa;grobner
 ·refine GQ ?_
  simp only[jm,iA,eQ]
  clear hy e1 ey eQ jG xa;grobner
 ·refine GQ ?_
  rw[iA,jm,jm,jm,ey]
  have h3:nf r=(nf r*nf a)*(y'*nf R):=by
   have:(nf r*nf a)*(y'*nf R)=nf r*(nf a*nf R*y'):=by clear hy e1 ey eQ jG xa;grobner
   rw[this,hy];clear hy e1 ey eQ jG xa;grobner
  rw[e1]at h3
  have h4:(nf r:Fin p)=y'*nf R:=by rw[h3];clear h3 hy e1 ey eQ jG xa;grobner
  rw[h4]
end
theorem ahw:((List.range 16).all fun k=>k==0||(decide (cn k%2=1)&&decide (3<=cn k)&&decide (2*cn k<0x10000000000000000^9)))=true:=by decide +kernel
theorem MJ{k:Nat}(h:1<=k/\k<=15):cn k%2=1/\3<=cn k/\2*cn k<0x10000000000000000^9:=by
 have h1:=gf.1 ahw k (tQ.2 (by omega))
 rw[show(k==0)=false by simp;omega,Bb]at h1
 simp only[dq,qT]at h1
 exact⟨h1.1.1,h1.1.2,h1.2⟩
end EC
namespace Go.Proofs.YtfocopihipejfaaGreat
open Go.Vg Go.RowKit
set_option maxRecDepth 200000
set_option cbv.maxSteps 100000000
def VS(k:Nat)(p a b n gx gy th d:Nat->Nat)(m s bits size:Nat)(leg:Bool)(nn less:Nat)(rr:Nat->Nat):LL:=mq k p a b n gx gy th d m s bits size leg++[⟨3,nE n nn less rr,220⟩]
section
variable {k:Nat}(hk:1<=k/\k<=15){p a b n gx gy th d:Nat->Nat}{m s bits size:Nat}{leg:Bool}(hC:Cv k p a b n gx gy th bits size)
include hk hC
theorem zD:V 9 n=EC.cn k:=hC.vn.trans (tK hk).2.2.2.1.symm
theorem Zu{P:Program}(hP:P=Tryz.prog):ah P 63 [.ptr 0 0] (mq k p a b n gx gy th d m s bits size leg) 3 [] (fun v L q=>∃nn less rr,Mo n nn less rr/\v= .agg [.ptr 0 0,.ptr 3 0]/\L=[⟨3,nE n nn less rr,220⟩]/\q=4):=by
 obtain⟨h1,h2,h3⟩:=EC.MJ hk
 have hn:=zD hk hC
 have hN:=agq hP n hC.wn (by rw[hn];exact h1) (by rw[hn];exact h2)
 refine ah.dj (R:=fun v L q=>∃nn less rr,Mo n nn less rr/\v= .agg [.ptr 0 0,.ptr 4 0]/\find L 4=some ⟨4,nE n nn less rr,220⟩) ?_ fun v L q ⟨nn,less,rr,h1,h2,h3⟩=>⟨fun l=>if l=3 then 4 else l,.agg [.ptr 0 0,.ptr 3 0],[⟨3,nE n nn less rr,220⟩],4,by subst h2;exact dH ⟨rfl,rfl,trivial⟩ ⟨by rw[ae _ (Ez n nn less rr 0)];exact h3,rfl,rfl,Ez n nn less rr 4,trivial⟩ rfl rfl rfl,nn,less,rr,h1,rfl,rfl,rfl⟩
 refine aq hP Tryz.func63 (ak _ rfl) (aD rfl) ?_
 intro A g K hA hg hK
 obtain⟨_,_,_,_,_,_,nn⟩:=A
 cbv
 refine gQ rfl hg rfl rfl hN _root_.id rfl trivial rfl rfl rfl ?_
 rintro _ _ _ ⟨nn,less,rr,dr,rfl,rfl,rfl⟩ _
 refine⟨rfl,?_⟩
 simp only[aG,ae _ (Ez n nn less rr 0)]
 cbv
 exact hK _ _ _ ⟨nn,less,rr,dr,rfl,rfl⟩
theorem QT{P:Program}(hP:P=Tryz.prog)(x r:Nat->Nat)(hx:Wn 9 x)(hr:Wn 9 r)(cG:V 9 r=V 9 x%EC.cn k):ah P 67 [.ptr 0 0,.agg (ws x 9)] (mq k p a b n gx gy th d m s bits size leg) 3 [] (fun v _ _=>v= .agg (ws r 9)):=by
 obtain⟨h1,h2,h3⟩:=EC.MJ hk
 have hn:=zD hk hC
 obtain⟨q,wq,vq⟩:=cD 9 (V 9 x/V 9 n) (eB (gq _ _) (eg hx))
 have hD:=QJ hP x n q r hx hC.wn (by rw[hn];omega) wq hr vq (by rw[cG,hn])
 refine aq hP Tryz.func67 (ak _ rfl) (aD rfl) ?_
 intro A g K hA hg hK
 cases A
 cbv
 refine EG (hP▸aI) hA hg (hP▸mixed) rfl rfl ?_
 cbv
 refine bN hg hD ?_
 cbv
 exact hK _ _ _ rfl
variable {nn less:Nat}{rr:Nat->Nat}(dr:Mo n nn less rr)
include dr
theorem Zj{P:Program}(hP:P=Tryz.prog)(x r:Nat->Nat)(hx:Wn 9 x)(hr:Wn 9 r)(GF:V 9 x<EC.cn k)(kY:0<V 9 x)(D8:V 9 r<EC.cn k)(cG:V 9 r*V 9 x%EC.cn k=1):
 ah P 64 [.agg [.ptr 0 0,.ptr 3 0],.agg (ws x 9)] (VS k p a b n gx gy th d m s bits size leg nn less rr) 4 [] (fun v _ _=>v= .agg (ws r 9)):=by
 have hn:=zD hk hC
 have hp:=EC.A0 k
 have ab:EC.cn k<0x10000000000000000^9:=by rw[<-hn];exact eg hC.wn
 haveI:NeZero (EC.cn k):=⟨by have:=hp.1;omega⟩
 have Dz:0x10000000000000000^nn%EC.cn k≠0:=fun h=>by
  have h1:=dr.co
  rw[hn]at h1
  have h2:=LW (vh h) (Yu (EC.cn k))
  rw[h1]at h2
  have:=mg (by decide) h2
  have:=hp.1
  omega
 obtain⟨t,y,x1,x2,l1,l2,l3,l4,g,e1,e2,e3,e4,e5⟩:=EC.aky hp (a:=V 9 x) (R:=0x10000000000000000^nn) (Q:=V 9 rr) (r:=V 9 r) (by rw[aO GF];omega) Dz (by rw[dr.rr,hn]) cG
 obtain⟨tw,wt,vt⟩:=cD 9 t (cT l1 ab)
 obtain⟨yw,wy,vy⟩:=cD 9 y (cT l2 ab)
 obtain⟨x1w,wx1,W8⟩:=cD 9 x1 (cT l3 ab)
 obtain⟨x2w,wx2,Po⟩:=cD 9 x2 (cT l4 ab)
 have hT:=Zo hP dr x tw hx wt (by rw[hn];exact GF) (by rw[vt,hn];exact l1) (by rw[vt,hn];exact e1)
 have hI:=agk hP dr tw yw x1w x2w wt wy wx1 wx2 (by rw[vt,hn];exact l1) (by rw[vt,hn];exact g) (by rw[vy,hn];exact l2) (by rw[vy,vt,hn];exact e2) (by rw[W8,hn];exact l3) (by rw[W8,vy,hn];exact e3) (by rw[Po,hn];exact l4) (by rw[Po,W8,hn];exact e4)
 have hF:=agj hP dr x2w r wx2 hr (by rw[Po,hn];exact l4) (by rw[hn];exact D8) (by rw[Po,hn];exact e5)
 refine aq hP Tryz.func64 ⟨⟨ao rfl,ao rfl,trivial⟩,ak _ rfl⟩ (aD rfl) ?_
 intro A g K hA hg hK
 obtain⟨_,_,_,_,_,_,nn⟩:=A
 cbv
 refine aZ hg hT (fun _=>3) ⟨rfl,trivial⟩ ?_
 cbv
 refine aZ hg hI (fun _=>3) ⟨rfl,trivial⟩ ?_
 cbv
 refine aZ hg hF (fun _=>3) ⟨rfl,trivial⟩ ?_
 cbv
 exact hK _ _ _ rfl
theorem My{P:Program}(hP:P=Tryz.prog)(x y r:Nat->Nat)(hx:Wn 9 x)(hy:Wn 9 y)(hr:Wn 9 r)(GF:V 9 x<EC.cn k)(Uk:V 9 y<EC.cn k)(cG:V 9 r=V 9 x*V 9 y%EC.cn k):
 ah P 66 [.agg [.ptr 0 0,.ptr 3 0],.agg (ws x 9),.agg (ws y 9)] (VS k p a b n gx gy th d m s bits size leg nn less rr) 4 [] (fun v _ _=>v= .agg (ws r 9)):=by
 have hn:=zD hk hC
 have hp:=EC.A0 k
 have h0:0<EC.cn k:=by have:=hp.1;omega
 have ab:EC.cn k<0x10000000000000000^9:=by rw[<-hn];exact eg hC.wn
 obtain⟨tw,wt,vt⟩:=cD 9 (V 9 x*0x10000000000000000^nn%EC.cn k) (cT (ax _ h0) ab)
 have hT:=Zo hP dr x tw hx wt (by rw[hn];exact GF) (by rw[vt,hn];exact ax _ h0) (by rw[vt,dr.rr,hn,tT,Yy,eZ])
 have hM:=agl hP dr tw y r wt hy hr (by rw[vt,hn];exact ax _ h0) (by rw[hn];exact Uk) (by rw[cG,hn];exact ax _ h0) (by rw[cG,vt,hn,tT,tT];congr 1;grind)
 refine aq hP Tryz.func66 ⟨⟨ao rfl,ao rfl,trivial⟩,ak _ rfl⟩ (aD rfl) ?_
 intro A g K hA hg hK
 obtain⟨_,_,_,_,_,_,nn⟩:=A
 cbv
 refine cf hP hA hg fun mk _=> ?_
 cbv
 refine aZ hg hT (fun _=>3) ⟨rfl,trivial⟩ ?_
 cbv
 refine aZ hg hM (fun _=>3) ⟨rfl,trivial⟩ ?_
 cbv
 exact hK _ _ _ rfl
theorem afO{P:Program}(hP:P=Tryz.prog)(x y r:Nat->Nat)(hx:Wn 9 x)(hy:Wn 9 y)(hr:Wn 9 r)(GF:V 9 x<EC.cn k)(Uk:V 9 y<EC.cn k)(cG:V 9 r=(V 9 x+V 9 y)%EC.cn k):
 ah P 88 [.agg [.ptr 0 0,.ptr 3 0],.agg (ws x 9),.agg (ws y 9)] (VS k p a b n gx gy th d m s bits size leg nn less rr) 4 [] (fun v _ _=>v= .agg (ws r 9)):=by
 have hn:=zD hk hC
 obtain⟨_,_,h2⟩:=EC.MJ hk
 obtain⟨B9,FP⟩:=aa (0x10000000000000000^9)
 obtain⟨N,hN⟩:=aa (EC.cn k)
 rw[<-hN]at hn GF Uk cG h2
 rw[<-FP]at h2
 obtain⟨sw,XN,vs⟩:=cD 9 (V 9 x+V 9 y) (by rw[<-FP];omega)
 have kR:=Ms hP x y sw hx hy XN false (by rw[vs,<-FP,aO (by omega)]) (by rw[<-FP,da (by omega)])
 obtain⟨dw,wdw,vd⟩:=cD 9 ((V 9 sw+B9-N)%B9) (by rw[FP];exact ax _ (ew (by decide)))
 obtain⟨u,hu⟩:=aa (decide (V 9 sw<N))
 have jC:=Dh hP sw n dw XN hC.wn wdw u (by rw[vd,hn,FP]) (by rw[hu,hn])
 have Aw:(u=true/\ws sw 9=ws r 9)\/(u=false/\ws dw 9=ws r 9):=by
  rcases Nat.lt_or_ge (V 9 sw) N with h|h
  ·exact Or.inl ⟨by rw[hu,eh h],kx XN hr (by rw[cG,<-vs,aO h])⟩
  ·refine Or.inr ⟨by rw[hu,da (by omega)],kx wdw hr ?_⟩
   rw[cG,<-vs,vd,HG h,aO (show V 9 sw-N<N by omega),show V 9 sw+B9-N=V 9 sw-N+B9 by omega,vg,aO (by omega)]
 refine aq hP Tryz.func88 ⟨⟨ao rfl,ao rfl,trivial⟩,ak _ rfl⟩ (aD rfl) ?_
 intro A g K hA hg hK
 obtain⟨_,_,_,_,_,_,nn,_,fQ⟩:=A
 have b1:fQ true=false:=ln hA true
 have b0:fQ false=true:=ln hA false
 cbv
 refine dJ hg kR ?_
 cbv
 refine cm hP hA hg ?_
 cbv
 refine bN hg jC ?_
 rcases Aw with⟨lF,he⟩|⟨lF,he⟩
 ·rw[lF]
  cbv
  rw[b1]
  cbv
  exact hK _ _ _ (aK SV.agg he)
 ·rw[lF]
  cbv
  rw[b0]
  cbv
  exact hK _ _ _ (aK SV.agg he)
end
end Go.Proofs.YtfocopihipejfaaGreat
namespace EC
section
variable {p:Nat}[NeZero p]{i:Fin p->Fin p}{a b:Fin p}(K:Ok i a b)
include K
theorem aif{G Q:Pt p}(hG:eI a b G)(hQ:eI a b Q)(u v j bu bv:Nat)(hu:bu=u/2^j%2)(hv:bv=v/2^j%2):
 add i a (smul i a (u/2^j) G) (smul i a (v/2^j) Q)=add i a (add i a (add i a (smul i a (u/2^(j+1)) G) (smul i a (v/2^(j+1)) Q)) (add i a (smul i a (u/2^(j+1)) G) (smul i a (v/2^(j+1)) Q))) (add i a (smul i a bu G) (smul i a bv Q)):=by
 have e1:u/2^j=2*(u/2^(j+1))+bu:=by rw[hu,br,<-ke];omega
 have e2:v/2^j=2*(v/2^(j+1))+bv:=by rw[hv,br,<-ke];omega
 rw[e1,e2]
 generalize u/2^(j+1)=x
 generalize v/2^(j+1)=y
 rw[smul_add K hG,smul_add K hQ,Lb K hG,Lb K hQ]
 have oG:=nM K hG x
 have oQ:=nM K hQ y
 rw[YO K oG oQ oG oQ]
 exact YO K (sq K oG oG) (nM K hG bu) (sq K oQ oQ) (nM K hQ bv)
end
end EC
namespace Go.Proofs.YtfocopihipejfaaGreat
open Go.Vg Go.RowKit
set_option maxRecDepth 200000
set_option cbv.maxSteps 100000000
theorem afn{a:Nat->Nat}(ha:Wn 9 a){i:Nat}(hi:i<576):V 9 a/2^i%2=a (i/64)/2^(i%64)%2:=by
 have h1:=Dg.zH (b:=0x10000000000000000) (by decide) 9 ha (i/64) (by omega)
 unfold Dg.eJ at h1
 have e1:(2:Nat)^i=0x10000000000000000^(i/64)*2^(i%64):=by
  rw[zx,<-dV,gN]
 rw[e1,<-ke,<-h1]
 show _=V 9 a/0x10000000000000000^(i/64)%0x10000000000000000/2^(i%64)%2
 generalize V 9 a/0x10000000000000000^(i/64)=x
 have hs:i%64<64:=ax _ (by decide)
 generalize i%64=s at *
 have e2:(0x10000000000000000:Nat)=2^s*(2*2^(63-s)):=by
  rw[<-YA,<-dV,show s+(63-s+1)=64 by omega]
 have h2:=gN x 0x10000000000000000
 generalize x%0x10000000000000000=r at *
 generalize x/0x10000000000000000=q at *
 rw[<-h2]
 conv=>lhs;rw[e2]
 rw[eZ,P4 (i_ s),eZ,Nat.mul_add_mod]
theorem Zp{P:Program}(hP:P=Tryz.prog)(a:Nat->Nat)(ha:Wn 9 a)(i r:Nat)(hi:i<576)(hr:r=V 9 a/2^i%2):ah P 119 [.agg (ws a 9),.int .i64 (.ofNat i)] [] 0 [] (fun v _ _=>v= .int .i64 (.ofNat r)):=by
 rw[afn ha hi]at hr
 obtain⟨j,hj⟩:=aa (i/64)
 obtain⟨s,hs⟩:=aa (i%64)
 obtain⟨w,hw⟩:=aa (a j/2^s)
 rw[<-hj,<-hs,<-hw]at hr
 have To:j<9:=by omega
 have xf:w<0x10000000000000000:=by rw[hw];exact eB (gq _ _) (ha j To)
 refine aq hP Tryz.func119 (ak _ rfl) (aD rfl) ?_
 intro A g K hA hg hK
 obtain⟨bin,sh,cmp,_,aX,ix,nn,_,_,_,_,_,_,_,_,off⟩:=A
 have f4:=ei hA .u64 (n:=9) a To
 simp only[aw,Nat.reduceAdd]at f4
 have e1:cmp .lss (.ofNat i) 0=false:=bM hA (b:=0) (mh _)
 have e2:cmp .geq (.ofNat i) 576=false:=qW hA (b:=576) (by omega)
 have e3:bin .quo .i64 (.ofNat i) 64=Int.ofNat j:=(mO hA (a:=i) (b:=64) (by omega)).trans (by rw[hj])
 have e4:bin .rem .i64 (.ofNat i) 64=Int.ofNat s:=(pJ hA i 64).trans (by rw[hs])
 have e5:ix (.ofNat j) 9=some j:=bB hA To
 have e6:off 0 j 1=j:=(dh hA 0 j 1).trans (by omega)
 have e7:sh .shr .u64 (.ofNat (a j)) (.ofNat s)=Int.ofNat w:=(k_ hA (k:= .u64) (a:=a j) (b:=s) (by show s<=64;omega)).trans (by rw[hw])
 have e8:bin .and .u64 (.ofNat w) 1=Int.ofNat r:=(qP hA (k:= .u64) rfl (a:=w) (b:=1) xf (by decide)).trans (aK Int.ofNat (by rw[Nat.and_one_is_mod,hr]))
 have e9:aX .i64 (.ofNat r)=Int.ofNat r:=nQ hA (fun _=>by show r<9223372036854775808;omega) (fun h=>by cases h)
 have jT:nn (.ofNat s)=true:=kr hA s
 clear hr hw
 cbv
 rw[e1]
 cbv
 rw[e2]
 cbv
 rw[e3]
 cbv
 rw[e5]
 cbv
 rw[e6,f4]
 cbv
 rw[e4]
 cbv
 rw[jT]
 cbv
 rw[e7]
 cbv
 rw[e8]
 cbv
 rw[e9]
 exact hK _ _ _ rfl
section
variable {k:Nat}(hk:1<=k/\k<=15){p a b n gx gy th d:Nat->Nat}{m s bits size:Nat}{leg:Bool}(hC:Cv k p a b n gx gy th bits size)
include hk hC
theorem af2{P:Program}(hP:P=Tryz.prog)(hD:Dv p d m s){Q:EC.Pt (EC.cp k)}(oQ:EC.eI (EC.ca k) (EC.cb k) Q){qx qy:Nat->Nat}{qi:Bool}(hQ:mW k Q qx qy qi)(u v:Nat->Nat)(hu:Wn 9 u)(hv:Wn 9 v)(Ei:V 9 u<2^bits)(hvl:V 9 v<2^bits){x y:Nat->Nat}{inf:Bool}(hR:mW k (EC.add EC.aN (EC.ca k) (EC.smul EC.aN (EC.ca k) (V 9 u) (EC.G k)) (EC.smul EC.aN (EC.ca k) (V 9 v) Q)) x y inf):
 ah P 65 [.ptr 0 0,.agg (ws u 9),.agg (ws v 9),.agg (l_ qx qy qi)] (mq k p a b n gx gy th d m s bits size leg) 3 [] (fun w _ _=>w= .agg (l_ x y inf)):=by
 obtain⟨cS,cW⟩:=Mp hk hC
 have oG:=EC.qK k
 have Kc:=EC.nF k
 obtain⟨X0,Y0,Z0,t0,FY⟩:=QO hk hP
 obtain⟨X1,Y1,Z1,t1,hTg⟩:=MD hk hP (gW hk hC)
 obtain⟨X2,Y2,Z2,t2,SB⟩:=MD hk hP hQ
 obtain⟨X3,Y3,Z3,t3,z8⟩:=Bm hk hC (leg:=leg) hP hD oG oQ t1 t2
 obtain⟨IV,jL⟩:=aa (fun j:Nat=>(j:Int)-1:Nat->Int)
 have oY:IV 0= -1:=by rw[jL];rfl
 have Ky:∀j,IV (j+1)=Int.ofNat j:=fun j=>by rw[jL];show((j+1:Nat):Int)-1=(j:Int);omega
 refine aq hP Tryz.func65 (ak _ rfl) (aD rfl) ?_
 intro A g K hA hg hK
 obtain⟨bin,_,cmp,_,_,ix,_,_,_,_,_,_,_,_,_,off,_,_,sub⟩:=A
 have SY:bin=jH:=qQ hA
 have sb:∀j:Nat,j<=bits->bin .sub .i64 (.ofNat j) 1=IV j:=fun j hj=>by
  rw[SY,jL]
  show IntKind.i64.wrap ((j:Int)-1)=(j:Int)-1
  rw[IntKind.wrap_i64];omega
 have gT:∀j:Nat,cmp .geq (.ofNat j) 0=true:=fun j=>kC hA (b:=0) (bf _)
 have gF:cmp .geq (-1) 0=false:=(bg (bg (bg (kA hA) .geq) (-1)) 0).trans rfl
 have m0:bin .mul .i64 2 (.ofNat 0)=Int.ofNat 0:=k8 hA (a:=2) (b:=0) (by decide)
 have m1:bin .mul .i64 2 (.ofNat 1)=Int.ofNat 2:=k8 hA (a:=2) (b:=1) (by decide)
 have ad:∀x y,x+y<9->bin .add .i64 (.ofNat x) (.ofNat y)=Int.ofNat (x+y):=fun x y h=>e_ hA (by omega)
 have pT:∀j,0<j->cmp .gtr (.ofNat j) 0=true:=fun j h=>po hA (b:=0) h
 have pF:cmp .gtr (.ofNat 0) 0=false:=jV hA (b:=0) (by decide)
 have Ut:∀j,j<4->ix (.ofNat j) 4=some j:=fun j h=>bB hA h
 have Vh:∀j,off 0 j 27=j*27:=fun j=>(dh hA 0 j 27).trans (by omega)
 obtain⟨C,Bz⟩:=aa (ws X0 9++ws Y0 9++ws Z0 9++(ws X1 9++ws Y1 9++ws Z1 9)++(ws X2 9++ws Y2 9++ws Z2 9)++(ws X3 9++ws Y3 9++ws Z3 9))
 have s1:=ET hA (C:=C) (o:=27) (n:=27) (vs:=ws X1 9++ws Y1 9++ws Z1 9) (by rw[Bz];show 54<=108;decide) (by rw[Bz];rfl)
 have s2:=ET hA (C:=C) (o:=54) (n:=27) (vs:=ws X2 9++ws Y2 9++ws Z2 9) (by rw[Bz];show 81<=108;decide) (by rw[Bz];rfl)
 have s3:=ET hA (C:=C) (o:=81) (n:=27) (vs:=ws X3 9++ws Y3 9++ws Z3 9) (by rw[Bz];show 108<=108;decide) (by rw[Bz];rfl)
 rw[Bz]at s1 s2 s3
 clear Bz
 simp only[ws,aw,Nat.reduceAdd,du,cM]at s1 s2 s3
 cbv
 refine cm hP hA hg ?_
 cbv
 refine bN hg hTg ?_
 cbv
 refine bN hg SB ?_
 cbv
 refine cm hP hA hg ?_
 cbv
 refine bN hg FY ?_
 cbv
 refine aY hg z8 _root_.id ⟨rfl,rfl,rfl,trivial⟩ ?_
 cbv
 refine dJ hg FY ?_
 cbv
 rw[sb bits (aE _)]
 refine bH (Nat×(Nat->Nat)×(Nat->Nat)×(Nat->Nat)) (fun s=>s.1<=bits/\kO k (EC.add EC.aN (EC.ca k) (EC.smul EC.aN (EC.ca k) (V 9 u/2^s.1) (EC.G k)) (EC.smul EC.aN (EC.ca k) (V 9 v/2^s.1) Q)) s.2.1 s.2.2.1 s.2.2.2) (fun s=>s.1) (fun s=> [(13,.int .i64 (IV s.1))]) [0,5,6,8,11,12] (fun s=> [(10,ws s.2.1 9++ws s.2.2.1 9++ws s.2.2.2 9)]) (bits,X0,Y0,Z0) ⟨aE _,?_⟩ ?_ ?_
 ·show kO k (EC.add EC.aN (EC.ca k) (EC.smul EC.aN (EC.ca k) (V 9 u/2^bits) (EC.G k)) (EC.smul EC.aN (EC.ca k) (V 9 v/2^bits) Q)) X0 Y0 Z0
  rw[kg Ei,kg hvl]
  exact t0
 ·exact a_
 rintro⟨i,X,Y,Z⟩ ⟨hi,ht⟩
 change i<=bits at hi
 change kO k (EC.add EC.aN (EC.ca k) (EC.smul EC.aN (EC.ca k) (V 9 u/2^i) (EC.G k)) (EC.smul EC.aN (EC.ca k) (V 9 v/2^i) Q)) X Y Z at ht
 cases i with
 |zero=>
  rw[jB,pf,pf]at ht
  have F4:=QP hk hC (leg:=leg) hP hD ht hR
  cbv
  rw[oY,gF]
  cbv
  refine aZ hg F4 _root_.id ⟨rfl,rfl,rfl,trivial⟩ ?_
  cbv
  exact hK _ _ _ rfl
 |succ j=>
  obtain⟨bu,BG⟩:=aa (V 9 u/2^j%2)
  obtain⟨bv,q_⟩:=aa (V 9 v/2^j%2)
  have zT:=Zp hP u hu j bu (by omega) BG
  have zU:=Zp hP v hv j bv (by omega) q_
  have aW:=EC.aif Kc oG oQ (V 9 u) (V 9 v) j bu bv BG q_
  have OO:=EC.sq Kc (EC.nM Kc oG (V 9 u/2^(j+1))) (EC.nM Kc oQ (V 9 v/2^(j+1)))
  obtain⟨X',Y',Z',gJ,BB⟩:=Bm hk hC (leg:=leg) hP hD OO OO ht ht
  have Vk:=EC.sq Kc OO OO
  have fs:=sb j (by omega)
  have ajs:bu=0\/bu=1:=by omega
  have ajt:bv=0\/bv=1:=by omega
  cbv
  rw[Ky,gT]
  cbv
  refine aZ hg BB _root_.id ⟨rfl,rfl,rfl,trivial⟩ ?_
  cbv
  refine cm hP hA hg ?_
  cbv
  refine bN hg zT ?_
  cbv
  refine bN hg zU ?_
  rcases ajs with yQ|yQ<;>rcases ajt with kH|kH<;>rw[yQ,kH]at aW⊢ <;>clear zT zU
  ·cbv
   rw[m0]
   cbv
   rw[show bin .add .i64 (.ofNat 0) (.ofNat 0)=Int.ofNat 0 from ad 0 0 (by decide)]
   cbv
   rw[pF]
   cbv
   rw[fs]
   have e0:EC.add EC.aN (EC.ca k) (EC.smul EC.aN (EC.ca k) 0 (EC.G k)) (EC.smul EC.aN (EC.ca k) 0 Q)= .O:=rfl
   rw[e0,EC.Mc]at aW
   refine⟨(j,X',Y',Z'),id,⟨by show j<=bits;omega,?_⟩,jR j,?_⟩
   ·show kO k (EC.add EC.aN (EC.ca k) (EC.smul EC.aN (EC.ca k) (V 9 u/2^j) (EC.G k)) (EC.smul EC.aN (EC.ca k) (V 9 v/2^j) Q)) X' Y' Z'
    rw[aW];exact gJ
   ·exact a_
  ·cbv
   rw[m1]
   cbv
   rw[show bin .add .i64 (.ofNat 0) (.ofNat 2)=Int.ofNat 2 from ad 0 2 (by decide)]
   cbv
   rw[pT 2 (by decide)]
   cbv
   have e0:EC.add EC.aN (EC.ca k) (EC.smul EC.aN (EC.ca k) 0 (EC.G k)) (EC.smul EC.aN (EC.ca k) 1 Q)=Q:=rfl
   rw[e0]at aW
   obtain⟨X4,Y4,Z4,w9,I8⟩:=Bm hk hC (leg:=leg) hP hD Vk oQ gJ t2
   refine cm hP hA hg ?_
   cbv
   rw[Ut 2 (by decide)]
   cbv
   rw[show off 0 2 27=54 from Vh 2,s2]
   cbv
   refine aY hg I8 _root_.id ⟨rfl,rfl,rfl,trivial⟩ ?_
   cbv
   rw[fs]
   refine⟨(j,X4,Y4,Z4),id,⟨by show j<=bits;omega,?_⟩,jR j,?_⟩
   ·show kO k (EC.add EC.aN (EC.ca k) (EC.smul EC.aN (EC.ca k) (V 9 u/2^j) (EC.G k)) (EC.smul EC.aN (EC.ca k) (V 9 v/2^j) Q)) X4 Y4 Z4
    rw[aW];exact w9
   ·exact a_
  ·cbv
   rw[m0]
   cbv
   rw[show bin .add .i64 (.ofNat 1) (.ofNat 0)=Int.ofNat 1 from ad 1 0 (by decide)]
   cbv
   rw[pT 1 (by decide)]
   cbv
   have e0:EC.add EC.aN (EC.ca k) (EC.smul EC.aN (EC.ca k) 1 (EC.G k)) (EC.smul EC.aN (EC.ca k) 0 Q)=EC.G k:=EC.Mc _
   rw[e0]at aW
   obtain⟨X4,Y4,Z4,w9,I8⟩:=Bm hk hC (leg:=leg) hP hD Vk oG gJ t1
   refine cm hP hA hg ?_
   cbv
   rw[Ut 1 (by decide)]
   cbv
   rw[show off 0 1 27=27 from Vh 1,s1]
   cbv
   refine aY hg I8 _root_.id ⟨rfl,rfl,rfl,trivial⟩ ?_
   cbv
   rw[fs]
   refine⟨(j,X4,Y4,Z4),id,⟨by show j<=bits;omega,?_⟩,jR j,?_⟩
   ·show kO k (EC.add EC.aN (EC.ca k) (EC.smul EC.aN (EC.ca k) (V 9 u/2^j) (EC.G k)) (EC.smul EC.aN (EC.ca k) (V 9 v/2^j) Q)) X4 Y4 Z4
    rw[aW];exact w9
   ·exact a_
  ·cbv
   rw[m1]
   cbv
   rw[show bin .add .i64 (.ofNat 1) (.ofNat 2)=Int.ofNat 3 from ad 1 2 (by decide)]
   cbv
   rw[pT 3 (by decide)]
   cbv
   have e0:EC.add EC.aN (EC.ca k) (EC.smul EC.aN (EC.ca k) 1 (EC.G k)) (EC.smul EC.aN (EC.ca k) 1 Q)=EC.add EC.aN (EC.ca k) (EC.G k) Q:=rfl
   rw[e0]at aW
   obtain⟨X4,Y4,Z4,w9,I8⟩:=Bm hk hC (leg:=leg) hP hD Vk (EC.sq Kc oG oQ) gJ t3
   refine cm hP hA hg ?_
   cbv
   rw[Ut 3 (by decide)]
   cbv
   rw[show off 0 3 27=81 from Vh 3,s3]
   cbv
   refine aY hg I8 _root_.id ⟨rfl,rfl,rfl,trivial⟩ ?_
   cbv
   rw[fs]
   refine⟨(j,X4,Y4,Z4),id,⟨by show j<=bits;omega,?_⟩,jR j,?_⟩
   ·show kO k (EC.add EC.aN (EC.ca k) (EC.smul EC.aN (EC.ca k) (V 9 u/2^j) (EC.G k)) (EC.smul EC.aN (EC.ca k) (V 9 v/2^j) Q)) X4 Y4 Z4
    rw[aW];exact w9
   ·exact a_
end
theorem Zh{P:Program}(hP:P=Tryz.prog)(p x:Nat->Nat)(hp:Wn 9 p)(hx:Wn 9 x)(r:Bool)(hr:r=decide (V 9 x<V 9 p)):
 ah P 108 [.ptr 0 0,.agg (ws x 9)] [⟨0,qa p 1,163⟩] 2 [] (fun v _ _=>v= .bool r):=by
 obtain⟨o,ho⟩:=aa (if V 9 x<V 9 p then -1 else if V 9 p<V 9 x then 1 else 0:Int)
 have hC:=Da hP x p hx hp o ho
 refine aq hP Tryz.func108 (ak _ rfl) (aD rfl) ?_
 intro A g K hA hg hK
 obtain⟨_,_,cmp⟩:=A
 have e1:cmp .lss o 0=r:=by
  by_cases h:V 9 x<V 9 p
  ·rw[ho,aj h,hr,eh h]
   exact(bg (bg (bg (kA hA) .lss) (-1)) 0).trans rfl
  ·rw[ho,af h,hr,da h]
   split
   ·exact bM hA (a:=1) (b:=0) (by decide)
   ·exact bM hA (a:=0) (b:=0) (by decide)
 clear ho hr
 cbv
 refine cm hP hA hg ?_
 cbv
 refine bN hg hC ?_
 cbv
 rw[e1]
 exact hK _ _ _ rfl
instance {p:Nat} {a b x y:Fin p}:Decidable (EC.On a b x y):=by unfold EC.On;infer_instance
section
variable {k:Nat}(hk:1<=k/\k<=15){p a b n gx gy th d:Nat->Nat}{m s bits size:Nat}{leg:Bool}(hC:Cv k p a b n gx gy th bits size)
include hk hC
theorem agR{P:Program}(hP:P=Tryz.prog)(hD:Dv p d m s)(x r:Nat->Nat)(hx:Wn 9 x)(hr:Wn 9 r)(cG:V 9 r=((V 9 x*V 9 x%EC.cp k+V 9 a)%EC.cp k*V 9 x%EC.cp k+V 9 b)%EC.cp k):
 ah P 110 [.ptr 0 0,.agg (ws x 9)] (mq k p a b n gx gy th d m s bits size leg) 3 [] (fun v _ _=>v= .agg (ws r 9)):=by
 obtain⟨e1,e2,e3,e4,e5⟩:=MK hk hC
 have hb:V 9 b<EC.cp k:=by
  have hs:=EC.small k
  simp only[dq,qT]at hs
  rw[hC.vb,<-(tK hk).2.2.1];exact hs.1.1.1.1.1.2
 have h0:=y9 k
 have ab:=pV hk
 obtain⟨x2,w2,v2⟩:=cD 9 (V 9 x*V 9 x%EC.cp k) (cT (ax _ h0) ab)
 obtain⟨x3,w3,v3⟩:=cD 9 ((V 9 x2+V 9 a)%EC.cp k) (cT (ax _ h0) ab)
 obtain⟨x4,w4,v4⟩:=cD 9 (V 9 x3*V 9 x%EC.cp k) (cT (ax _ h0) ab)
 have yj:=lq hP p d m s hD x x x2 hx hx w2 (by rw[v2,e1])
 have kR:=lN hP p x2 a x3 hC.wp w2 hC.wa w3 (by rw[v2,e1];exact ax _ h0) (by rw[e1];exact e3) (by rw[v3,e1])
 have yk:=lq hP p d m s hD x3 x x4 w3 hx w4 (by rw[v4,e1])
 have Bx:=lN hP p x4 b r hC.wp w4 hC.wb hr (by rw[v4,e1];exact ax _ h0) (by rw[e1];exact hb) (by rw[cG,v4,v3,v2,e1])
 refine aq hP Tryz.func110 (ak _ rfl) (aD rfl) ?_
 intro A g K hA hg hK
 cases A
 cbv
 refine cm hP hA hg ?_
 cbv
 refine aY hg yj (fun l=>l+1) ⟨rfl,rfl,trivial⟩ ?_
 cbv
 refine aY hg kR (fun l=>l+1) ⟨rfl,trivial⟩ ?_
 cbv
 refine aY hg yk (fun l=>l+1) ⟨rfl,rfl,trivial⟩ ?_
 cbv
 refine aY hg Bx (fun l=>l+1) ⟨rfl,trivial⟩ ?_
 cbv
 exact hK _ _ _ rfl
theorem Zv{P:Program}(hP:P=Tryz.prog)(hD:Dv p d m s)(x y:Nat->Nat)(hx:Wn 9 x)(hy:Wn 9 y)(r:Bool)(hr:r=(decide (V 9 x<EC.cp k)&&(decide (V 9 y<EC.cp k)&&decide (EC.On (EC.ca k) (EC.cb k) (EC.nf (V 9 x)) (EC.nf (V 9 y)))))):
 ah P 61 [.ptr 0 0,.agg (l_ x y false)] (mq k p a b n gx gy th d m s bits size leg) 3 [] (fun v _ _=>v= .bool r):=by
 obtain⟨e1,e2,e3,e4,e5⟩:=MK hk hC
 have h0:=y9 k
 have ab:=pV hk
 obtain⟨b1,cS⟩:=aa (decide (V 9 x<V 9 p):Bool)
 obtain⟨b2,cW⟩:=aa (decide (V 9 y<V 9 p):Bool)
 have hH1:=Zh hP p x hC.wp hx b1 cS
 have hH2:=Zh hP p y hC.wp hy b2 cW
 obtain⟨y2,wy2,vy2⟩:=cD 9 (V 9 y*V 9 y%EC.cp k) (cT (ax _ h0) ab)
 obtain⟨rt,wrt,vrt⟩:=cD 9 (((V 9 x*V 9 x%EC.cp k+V 9 a)%EC.cp k*V 9 x%EC.cp k+V 9 b)%EC.cp k) (cT (ax _ h0) ab)
 have hM:=lq hP p d m s hD y y y2 hy hy wy2 (by rw[vy2,e1])
 have hRt:=agR hk hC (leg:=leg) hP hD x rt hx wrt vrt
 have hon:lP y2 rt=decide (EC.On (EC.ca k) (EC.cb k) (EC.nf (V 9 x)) (EC.nf (V 9 y))):=by
  rw[ug wy2 wrt,Ya,Q7,Q7,vy2,vrt]
  have sQ:(EC.nf (V 9 a):Fin (EC.cp k))=EC.ca k:=by rw[e2];rfl
  have yx:(EC.nf (V 9 b):Fin (EC.cp k))=EC.cb k:=by rw[hC.vb,<-(tK hk).2.2.1];rfl
  unfold EC.On
  constructor
  ·intro h
   have h1:(EC.nf (V 9 y*V 9 y):Fin (EC.cp k))=EC.nf ((V 9 x*V 9 x%EC.cp k+V 9 a)%EC.cp k*V 9 x%EC.cp k+V 9 b):=EC.acM h
   simp only[EC.mN,EC.jm,EC.iA,sQ,yx]at h1
   rw[h1];clear h1;grobner
  ·intro h
   refine EC.GQ ?_
   simp only[EC.mN,EC.jm,EC.iA,sQ,yx]
   rw[h];clear h;grobner
 rw[<-hon]at hr
 have hr:r=(b1&&(b2&&lP y2 rt)):=by rw[hr,cS,cW,e1]
 refine aq hP Tryz.func61 (ak _ rfl) (aD rfl) ?_
 intro A g K hA hg hK
 cases A
 cbv
 refine cm hP hA hg ?_
 cbv
 refine aY hg hH1 (fun l=>l+1) ⟨rfl,trivial⟩ ?_
 cases b1 with
 |false=>
  obtain rfl:r=false:=by rw[hr];rfl
  cbv
  exact hK _ _ _ rfl
 |true=>
  cbv
  refine aY hg hH2 (fun l=>l+1) ⟨rfl,trivial⟩ ?_
  cases b2 with
  |false=>
   obtain rfl:r=false:=by rw[hr];rfl
   cbv
   exact hK _ _ _ rfl
  |true=>
   have w6:r=lP y2 rt:=by rw[hr];rfl
   cbv
   refine aY hg hM (fun l=>l+1) ⟨rfl,rfl,trivial⟩ ?_
   cbv
   refine aY hg hRt _root_.id ⟨rfl,rfl,rfl,trivial⟩ ?_
   cbv
   refine eV (Bq hP hg rfl (a:=y2) (b:=rt) (r:=r) (Or.inr ⟨rfl,w6⟩) rfl rfl) ?_
   cbv
   exact hK _ _ _ rfl
end
end Go.Proofs.YtfocopihipejfaaGreat
