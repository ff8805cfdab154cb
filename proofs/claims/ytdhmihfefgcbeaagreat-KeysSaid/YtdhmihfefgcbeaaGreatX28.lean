/-
  This text proves what these texts prove: Qf, Jf, Jg, Jh, La, Lb, Lc, Pt, Pw, Pz, Py. Conditions: those of each theorem.
-/
import Derived.Test.YtdhmihfefgcbeaaGreatX27
import Derived.Test.YtdhmihfefgcbeaaGreatX26
import Derived.Test.YtdhmihfefgcbeaaGreatX21
import Derived.Test.YtdhmihfefgcbeaaGreatX20
set_option maxHeartbeats 8000000
set_option linter.all false
namespace Go.Vg
open Go.RowKit
theorem loop_by2{n0:Nat}{c:Code}{body:(Exit->FF->LL->Nat->Prop)->FF->LL->Nat->Prop}{Q:Exit->FF->LL->Nat->Prop}{F:FF}{L:LL}{n:Nat}(σ:Type)(ok:σ->Prop)(m:σ->Nat)(cF:σ->FF)(ks:List Nat)(cL:σ->List (Nat×List SV))(xL:σ->LL)(nI:Nat)(s0:σ)(h0:ok s0)
 (h1:Weak n0 id (cF s0++pickF ks F) (overL (cL s0) L++xL s0) nI F L n)
 (h2:∀s,ok s->body (onLoop (fun F' L' n'=>∃s' ρ,ok s'/\m s'<m s/\Weak n0 ρ (cF s'++pickF ks F) (overL (cL s') L++xL s') nI F' L' n') Q) (cF s++pickF ks F) (overL (cL s) L++xL s) nI):LoopP n0 c body Q F L n:=
 ⟨σ,ok,m,fun s=>cF s++pickF ks F,fun s=>overL (cL s) L++xL s,nI,⟨s0,id,h0,h1⟩,h2⟩
end Go.Vg
namespace EC
section
variable {p:Nat}[NeZero p]{i:Fin p->Fin p}{a b:Fin p}(K:Ok i a b)
include K
theorem dbl_ne{x y:Fin p}(h:On a b x y):add i a (.A x y) (.A x y)≠ .O:=by
 simp only[add]
 rw[if_pos trivial,if_pos ⟨trivial,K.y0 h⟩]
 intro h
 cases h
theorem smul_half{P:Pt p}(h:OnC a b P)(k j:Nat):smul i a (k/2^j) P=if k/2^j%2=1 then add i a (add i a (smul i a (k/2^(j+1)) P) (smul i a (k/2^(j+1)) P)) P else add i a (smul i a (k/2^(j+1)) P) (smul i a (k/2^(j+1)) P):=by
 have e:k/2^(j+1)=k/2^j/2:=by rw[Nat.pow_succ,Nat.div_div_eq_div_mul]
 rw[e,<-smul_two K h]
 split
 ·show _=smul i a (2*(k/2^j/2)+1) P
  congr 1;omega
 ·congr 1;omega
end
end EC
namespace Go.Proofs.YtdhmihfefgcbeaaGreat
open Go.Vg Go.RowKit
set_option maxRecDepth 200000
set_option cbv.maxSteps 100000000
structure TmS where
 κ:Nat
 i:Nat
 x:Nat
 y:Nat
 c:Nat
 e:Nat
def TmS.ok{p:Nat}[NeZero p](Av X Y:Fin p)(k b:Nat)(s:TmS):Prop:=s.i<=b/\((s.κ=0/\EC.smul EC.finv Av (k/2^s.i) (.A X Y)= .O)\/(s.κ=1/\EC.smul EC.finv Av (k/2^s.i) (.A X Y)= .A X Y)\/(s.κ=2/\∃U V:Fin p,EC.smul EC.finv Av (k/2^s.i) (.A X Y)= .A U V/\s.x=U.val/\s.y=V.val/\s.x<4294967296^s.c/\s.y<4294967296^s.e))
def TmS.cells(S:Nat->Nat)(x1 c1 y1 e1:Nat)(s:TmS):List SV:=match s.κ with
 |0=> [.nils,.nils,.bool true]
 |1=> [.slice 7 0 (S x1) c1,.slice 8 0 (S y1) e1,.bool false]
 |_=> [.slice 13 0 (S s.x) s.c,.slice 14 0 (S s.y) s.e,.bool false]
def TmS.rows(H:Nat->Nat->List SV)(s:TmS):LL:=match s.κ with
 |0=> []
 |1=> []
 |_=> [⟨13,H s.x s.c,58⟩,⟨14,H s.y s.e,58⟩]
section
variable {P:Program}(hP:P=Tryz.prog){H:Nat->Nat->List SV}{S:Nat->Nat}(hs:HS H S){p pc:Nat}[NeZero p](hp:Pr.Prime p)(hpc:p<4294967296^pc)(hpb:p<4294967296^18)
include hP hs
omit [NeZero p] hP hs in
theorem bl_32{x b n:Nat}(h:IsBl x b)(hx:x<4294967296^n):b<=32*n:=bl_le h (by rw[Nat.pow_mul];exact hx)
omit [NeZero p] in
theorem mBits{x c b:Nat}(hx:x<4294967296^c)(hx18:x<4294967296^40)(hb:IsBl x b):Con P 36 [.slice 0 0 (S x) c] [⟨0,H x c,58⟩] 1 [] (fun w _ _=>w= .int .i64 (.ofNat b)):=by
 have h:=cRBits hP (hs.nm hx) (by have:=hs.le hx18;omega) b hb
 rwa [show Vg.hs (dg x) c=H x c from by rw[hs.h]]at h
omit [NeZero p] in
theorem mBit{x c:Nat}(hx:x<4294967296^c)(i r:Nat)(hi:i<2^40)(hr:r=x/2^i%2):Con P 45 [.slice 0 0 (S x) c,.int .i64 (.ofNat i)] [⟨0,H x c,58⟩] 1 [] (fun w _ _=>w= .int .i64 (.ofNat r)):=by
 have h:=cRBit hP (hs.nm hx) i r hi hr
 rwa [show Vg.hs (dg x) c=H x c from by rw[hs.h]]at h
include hpc hpb hp
theorem mTimes{a ac kk kc x1 c1 y1 e1:Nat}(k nB nN nX nY cB cN cX cY:Nat)(rB rN rX rY:List SV)(b2:∀m,bdLB m rB=true)(b3:∀m,bdLB m rN=true)(b4:∀m,bdLB m rX=true)(b5:∀m,bdLB m rY=true)(hp2:p≠2)(Av Bv X Y:Fin p)(Kk:EC.Ok EC.finv Av Bv)(o1:EC.On Av Bv X Y)(ha:a=Av.val)(h1:x1=X.val)(h2:y1=Y.val)(hac:a<4294967296^ac)(hkc:kk<4294967296^kc)(hk40:kk<4294967296^40)(hx1:x1<4294967296^c1)(hy1:y1<4294967296^e1)(W:EC.Pt p)(hW:W=EC.smul EC.finv Av kk (.A X Y)):
 Con P 18 [.agg (cvS k (.slice 0 0 (S p) pc) (.slice 1 0 (S a) ac) (.slice 2 0 nB cB) (.slice 3 0 nN cN) (.slice 4 0 nX cX) (.slice 5 0 nY cY)),.slice 6 0 (S kk) kc,.agg [.slice 7 0 (S x1) c1,.slice 8 0 (S y1) e1,.bool false]]
  [⟨0,H p pc,58⟩,⟨1,H a ac,58⟩,⟨2,rB,58⟩,⟨3,rN,58⟩,⟨4,rX,58⟩,⟨5,rY,58⟩,⟨6,H kk kc,58⟩,⟨7,H x1 c1,58⟩,⟨8,H y1 e1,58⟩] 9 [] (fun w L q=>(W= .O/\w= .agg [.nils,.nils,.bool true]/\L=[]/\q=9)\/(W= .A X Y/\w= .agg [.slice 7 0 (S x1) c1,.slice 8 0 (S y1) e1,.bool false]/\L=[]/\q=9)\/ ∃U V:Fin p,∃x3 y3 c3 e3,W= .A U V/\x3=U.val/\y3=V.val/\x3<4294967296^c3/\y3<4294967296^e3/\w= .agg [.slice 9 0 (S x3) c3,.slice 10 0 (S y3) e3,.bool false]/\L=[⟨9,H x3 c3,58⟩,⟨10,H y3 e3,58⟩]/\q=11):=by
 have onP:EC.OnC Av Bv (.A X Y):=o1
 have vP:∀m,bdLB m (H p pc)=true:=fun m=>hs.b m p pc
 have vA:∀m,bdLB m (H a ac)=true:=fun m=>hs.b m a ac
 have vK:∀m,bdLB m (H kk kc)=true:=fun m=>hs.b m kk kc
 have v1:∀m,bdLB m (H x1 c1)=true:=fun m=>hs.b m x1 c1
 have v2:∀m,bdLB m (H y1 e1)=true:=fun m=>hs.b m y1 e1
 obtain⟨b,hb⟩:=bl_ex kk
 have hb2:b<=32*40:=bl_32 hb hk40
 have hB:=mBits hP hs hkc hk40 hb
 obtain⟨IV,hIV⟩:=exq (fun j:Nat=>(j:Int)-1:Nat->Int)
 have iv0:IV 0= -1:=by rw[hIV];rfl
 have ivs:∀j,IV (j+1)=Int.ofNat j:=fun j=>by rw[hIV];show((j+1:Nat):Int)-1=(j:Int);omega
 have hOO:=mPlusOO hP hs (p:=p) (pc:=pc) (a:=a) (ac:=ac) k nB nN nX nY cB cN cX cY rB rN rX rY vP vA b2 b3 b4 b5
 have hO:=mPlusO hP hs (p:=p) (pc:=pc) (a:=a) (ac:=ac) (x:=x1) (c:=c1) (y:=y1) (e:=e1) k nB nN nX nY cB cN cX cY rB rN rX rY vP vA b2 b3 b4 b5
 have hF:=fun {x1 c1 y1 e1 x2 c2 y2 e2:Nat} (X1 Y1 X2 Y2:Fin p) (o1:EC.On Av Bv X1 Y1) (h1:x1=X1.val) (h2:y1=Y1.val) (h3:x2=X2.val) (h4:y2=Y2.val) (hx1:x1<4294967296^c1) (hy1:y1<4294967296^e1) (hx2:x2<4294967296^c2) (hy2:y2<4294967296^e2)=>mPlusF hP hs hp hpc hpb k nB nN nX nY cB cN cX cY rB rN rX rY b2 b3 b4 b5 hp2 Av Bv X1 Y1 X2 Y2 Kk o1 ha h1 h2 h3 h4 hac hx1 hy1 hx2 hy2
 suffices raw:Con P 18 [.agg (cvS k (.slice 0 0 (S p) pc) (.slice 1 0 (S a) ac) (.slice 2 0 nB cB) (.slice 3 0 nN cN) (.slice 4 0 nX cX) (.slice 5 0 nY cY)),.slice 6 0 (S kk) kc,.agg [.slice 7 0 (S x1) c1,.slice 8 0 (S y1) e1,.bool false]]
  [⟨0,H p pc,58⟩,⟨1,H a ac,58⟩,⟨2,rB,58⟩,⟨3,rN,58⟩,⟨4,rX,58⟩,⟨5,rY,58⟩,⟨6,H kk kc,58⟩,⟨7,H x1 c1,58⟩,⟨8,H y1 e1,58⟩] 9 [] (fun w L q=>(W= .O/\w= .agg [.nils,.nils,.bool true])\/(W= .A X Y/\w= .agg [.slice 7 0 (S x1) c1,.slice 8 0 (S y1) e1,.bool false])\/ ∃U V:Fin p,∃x3 y3 c3 e3,W= .A U V/\x3=U.val/\y3=V.val/\x3<4294967296^c3/\y3<4294967296^e3/\w= .agg [.slice 13 0 (S x3) c3,.slice 14 0 (S y3) e3,.bool false]/\find L 13=some ⟨13,H x3 c3,58⟩/\find L 14=some ⟨14,H y3 e3,58⟩) by
  refine raw.weak fun w L q h=> ?_
  rcases h with⟨g1,g2⟩|⟨g1,g2⟩|⟨Ux,Vx,x3,y3,c3,e3,g1,g2,g3,g4,g5,g6,g7,g8⟩
  ·exact⟨_root_.id,.agg [.nils,.nils,.bool true],[],9,by subst g2;exact weak_id ⟨rfl,rfl,trivial⟩ trivial rfl rfl,Or.inl ⟨g1,rfl,rfl,rfl⟩⟩
  ·exact⟨_root_.id,.agg [.slice 7 0 (S x1) c1,.slice 8 0 (S y1) e1,.bool false],[],9,by subst g2;exact weak_id ⟨rfl,rfl,trivial⟩ trivial rfl rfl,Or.inr (Or.inl ⟨g1,rfl,rfl,rfl⟩)⟩
  ·exact⟨fun l=>if l=9 then 13 else if l=10 then 14 else l,.agg [.slice 9 0 (S x3) c3,.slice 10 0 (S y3) e3,.bool false],[⟨9,H x3 c3,58⟩,⟨10,H y3 e3,58⟩],11,by subst g6;exact wkr ⟨rfl,rfl,trivial⟩ ⟨by rw[rcl (H x3 c3) (hs.b 0 x3 c3)];exact g7,rfl,rfl,hs.b 11 x3 c3,by rw[rcl (H y3 e3) (hs.b 0 y3 e3)];exact g8,rfl,rfl,hs.b 11 y3 e3,trivial⟩ rfl rfl rfl,Or.inr (Or.inr ⟨Ux,Vx,x3,y3,c3,e3,g1,g2,g3,g4,g5,rfl,rfl,rfl⟩)⟩
 refine cof hP Tryz.func18 ⟨⟨trivial,blq rfl,blq rfl,blq rfl,blq rfl,blq rfl,blq rfl,trivial⟩,blq rfl,⟨blq rfl,blq rfl,trivial,trivial⟩,trivial⟩ (by simpa [bdL,bd]using⟨bdb _ (vP 9),bdb _ (vA 9),bdb _ (b2 9),bdb _ (b3 9),bdb _ (b4 9),bdb _ (b5 9),bdb _ (vK 9),bdb _ (v1 9),bdb _ (v2 9)⟩) ?_
 intro A g K hA hg hK
 obtain⟨bin,_,cmp,_,_,_,_,_,_,_,_,_,_,_,_,_,_,_,sub⟩:=A
 have hbin:bin=intBin:=bin_of hA
 have sb:∀j:Nat,j<=b->bin .sub .i64 (.ofNat j) 1=IV j:=fun j hj=>by
  rw[hbin,hIV]
  show IntKind.i64.wrap ((j:Int)-1)=(j:Int)-1
  rw[IntKind.wrap_i64];omega
 have gT:∀j:Nat,cmp .geq (.ofNat j) 0=true:=fun j=>geq_t hA (b:=0) (Nat.zero_le _)
 have gF:cmp .geq (-1) 0=false:=(congrFun (congrFun (congrFun (cmp_of hA) .geq) (-1)) 0).trans rfl
 cbv
 refine cro rfl hg rfl rfl hB (fun _=>6) rfl (ft1 (vK 0) rfl) ?_
 rintro _ _ _ rfl
 refine⟨trivial,trivial,?_⟩
 cbv
 rw[sb b (Nat.le_refl _)]
 refine loop_by2 TmS (TmS.ok Av X Y kk b) TmS.i (fun s=> [(8,.int .i64 (IV s.i))]) [1,3,5,6,7] (fun s=> [(12,s.cells S x1 c1 y1 e1)]) (TmS.rows H) 15 ⟨0,b,0,0,0,0⟩ ⟨Nat.le_refl _,Or.inl ⟨rfl,?_⟩⟩ ?_ ?_
 ·show EC.smul EC.finv Av (kk/2^b) (.A X Y)= .O
  rw[Nat.div_eq_of_lt hb.1];rfl
 ·exact weak_id ⟨rfl,rfl,rfl,rfl,rfl,rfl,rfl,rfl,rfl,rfl,rfl,rfl,trivial⟩ ⟨rfl,rfl,vP 15,rfl,rfl,vA 15,rfl,rfl,b2 15,rfl,rfl,b3 15,rfl,rfl,b4 15,rfl,rfl,b5 15,rfl,rfl,vK 15,rfl,rfl,v1 15,rfl,rfl,v2 15,rfl,rfl,rfl,rfl,rfl,rfl,rfl,rfl,rfl,rfl,rfl,rfl,trivial⟩ rfl rfl
 rintro⟨κ,i,x,y,c,e⟩ ⟨hi,hκ⟩
 change i<=b at hi
 change (κ=0/\EC.smul EC.finv Av (kk/2^i) (.A X Y)= .O)\/(κ=1/\EC.smul EC.finv Av (kk/2^i) (.A X Y)= .A X Y)\/(κ=2/\∃U V:Fin p,EC.smul EC.finv Av (kk/2^i) (.A X Y)= .A U V/\x=U.val/\y=V.val/\x<4294967296^c/\y<4294967296^e)at hκ
 cases i with
 |zero=>
  rw[Nat.pow_zero,Nat.div_one,<-hW]at hκ
  rcases hκ with⟨rfl,hq⟩|⟨rfl,hq⟩|⟨rfl,Ux,Vx,hq,hxU,hyV,hxc,hye⟩
  ·cbv
   rw[iv0,gF]
   cbv
   exact hK _ _ _ (Or.inl ⟨hq,rfl⟩)
  ·cbv
   rw[iv0,gF]
   cbv
   exact hK _ _ _ (Or.inr (Or.inl ⟨hq,rfl⟩))
  ·cbv
   rw[iv0,gF]
   cbv
   exact hK _ _ _ (Or.inr (Or.inr ⟨Ux,Vx,x,y,c,e,hq,hxU,hyV,hxc,hye,rfl,rfl,rfl⟩))
 |succ j=>
  obtain⟨r,hr⟩:=exq (kk/2^j%2)
  have hBt:=mBit hP hs hkc j r (by omega) hr
  have hh:=EC.smul_half Kk onP kk j
  rw[<-hr]at hh
  have hon2:=EC.add_on Kk (EC.smul_on Kk onP (kk/2^(j+1))) (EC.smul_on Kk onP (kk/2^(j+1)))
  have hr2:r=0\/r=1:=by omega
  have fs:=sb j (by omega)
  rcases hκ with⟨rfl,hq⟩|⟨rfl,hq⟩|⟨rfl,Ux,Vx,hq,hxU,hyV,hxc,hye⟩
  ·rw[hq]at hh hon2
   cbv
   rw[ivs,gT]
   cbv
   refine cro rfl hg rfl rfl hOO _root_.id rfl ⟨by rw[rcl (H p pc) (vP 0)];rfl,by rw[rcl (H a ac) (vA 0)];rfl,by rw[rcl rB (b2 0)];rfl,by rw[rcl rN (b3 0)];rfl,by rw[rcl rX (b4 0)];rfl,by rw[rcl rY (b5 0)];rfl,trivial⟩ ?_
   rintro _ _ _ rfl
   refine⟨by simp[bd,bdL],by simp[bd,bdL,ren,renL],?_⟩
   cbv
   refine cro rfl hg rfl rfl hBt (fun _=>6) rfl (ft1 (vK 0) rfl) ?_
   rintro _ _ _ rfl
   refine⟨trivial,trivial,?_⟩
   cbv
   rcases hr2 with hr0|hr1
   ·rw[hr0]at hh⊢
    have q1:cmp .eql (.ofNat 0) 1=false:=eql_f hA (b:=1) (by decide)
    rw[if_neg (by decide)]at hh
    cbv
    rw[q1]
    cbv
    rw[fs]
    exact⟨⟨0,j,0,0,0,0⟩,_root_.id,⟨by show j<=b;omega,Or.inl ⟨rfl,hh⟩⟩,Nat.lt_succ_self j,weak_id ⟨rfl,rfl,rfl,rfl,rfl,rfl,rfl,rfl,rfl,rfl,rfl,rfl,trivial⟩ ⟨rfl,rfl,vP 15,rfl,rfl,vA 15,rfl,rfl,b2 15,rfl,rfl,b3 15,rfl,rfl,b4 15,rfl,rfl,b5 15,rfl,rfl,vK 15,rfl,rfl,v1 15,rfl,rfl,v2 15,rfl,rfl,rfl,rfl,rfl,rfl,rfl,rfl,rfl,rfl,rfl,rfl,trivial⟩ rfl rfl⟩
   ·rw[hr1]at hh⊢
    have q1:cmp .eql (.ofNat 1) 1=true:=eql_t hA (b:=1) rfl
    rw[if_pos rfl]at hh
    cbv
    rw[q1]
    cbv
    refine cro rfl hg rfl rfl hO (fun l=>if l=6 then 7 else if l=7 then 8 else l) rfl ⟨by rw[rcl (H p pc) (vP 0)];rfl,by rw[rcl (H a ac) (vA 0)];rfl,by rw[rcl rB (b2 0)];rfl,by rw[rcl rN (b3 0)];rfl,by rw[rcl rX (b4 0)];rfl,by rw[rcl rY (b5 0)];rfl,by rw[rcl (H x1 c1) (v1 0)];rfl,by rw[rcl (H y1 e1) (v2 0)];rfl,trivial⟩ ?_
    rintro _ _ _ rfl
    refine⟨by simp[bd,bdL],by simp[bd,bdL,ren,renL],?_⟩
    cbv
    rw[fs]
    exact⟨⟨1,j,0,0,0,0⟩,_root_.id,⟨by show j<=b;omega,Or.inr (Or.inl ⟨rfl,hh⟩)⟩,Nat.lt_succ_self j,weak_id ⟨rfl,rfl,rfl,rfl,rfl,rfl,rfl,rfl,rfl,rfl,rfl,rfl,trivial⟩ ⟨rfl,rfl,vP 15,rfl,rfl,vA 15,rfl,rfl,b2 15,rfl,rfl,b3 15,rfl,rfl,b4 15,rfl,rfl,b5 15,rfl,rfl,vK 15,rfl,rfl,v1 15,rfl,rfl,v2 15,rfl,rfl,rfl,rfl,rfl,rfl,rfl,rfl,rfl,rfl,rfl,rfl,trivial⟩ rfl rfl⟩
  ·rw[hq]at hh hon2
   have hD:=hF X Y X Y o1 h1 h2 h1 h2 hx1 hy1 hx1 hy1
   cbv
   rw[ivs,gT]
   cbv
   refine cgn rfl hg rfl rfl hD (fun l=>if l=6 then 7 else if l=7 then 8 else if l=8 then 7 else if l=9 then 8 else l) rfl ⟨by rw[rcl (H p pc) (vP 0)];rfl,by rw[rcl (H a ac) (vA 0)];rfl,by rw[rcl rB (b2 0)];rfl,by rw[rcl rN (b3 0)];rfl,by rw[rcl rX (b4 0)];rfl,by rw[rcl rY (b5 0)];rfl,by rw[rcl (H x1 c1) (v1 0)];rfl,by rw[rcl (H y1 e1) (v2 0)];rfl,by rw[rcl (H x1 c1) (v1 0)];rfl,by rw[rcl (H y1 e1) (v2 0)];rfl,trivial⟩ rfl rfl rfl ?_
   rintro _ _ _ (⟨hd,_⟩|⟨U2,V2,x2,y2,c2,e2,hd,hx2,hy2,hxc2,hye2,rfl,rfl,rfl⟩) _
   ·exact absurd hd (EC.dbl_ne Kk o1)
   refine⟨rfl,?_⟩
   rw[hd]at hh hon2
   have w1:∀m,bdLB m (H x2 c2)=true:=fun m=>hs.b m x2 c2
   have w2:∀m,bdLB m (H y2 e2)=true:=fun m=>hs.b m y2 e2
   simp only[renB,rcl (H x2 c2) (w1 0),rcl (H y2 e2) (w2 0)]
   cbv
   refine cro rfl hg rfl rfl hBt (fun _=>6) rfl (ft1 (vK 0) rfl) ?_
   rintro _ _ _ rfl
   refine⟨trivial,trivial,?_⟩
   cbv
   rcases hr2 with hr0|hr1
   ·rw[hr0]at hh⊢
    have q1:cmp .eql (.ofNat 0) 1=false:=eql_f hA (b:=1) (by decide)
    rw[if_neg (by decide)]at hh
    cbv
    rw[q1]
    cbv
    rw[fs]
    exact⟨⟨2,j,x2,y2,c2,e2⟩,fun l=>if l=13 then 15 else if l=14 then 16 else l,⟨by show j<=b;omega,Or.inr (Or.inr ⟨rfl,U2,V2,hh,hx2,hy2,hxc2,hye2⟩)⟩,Nat.lt_succ_self j,wkr ⟨rfl,rfl,rfl,rfl,rfl,rfl,rfl,rfl,rfl,rfl,rfl,rfl,trivial⟩ ⟨by rw[rcl (H p pc) (vP 0)];rfl,rfl,rfl,vP 15,by rw[rcl (H a ac) (vA 0)];rfl,rfl,rfl,vA 15,by rw[rcl rB (b2 0)];rfl,rfl,rfl,b2 15,by rw[rcl rN (b3 0)];rfl,rfl,rfl,b3 15,by rw[rcl rX (b4 0)];rfl,rfl,rfl,b4 15,by rw[rcl rY (b5 0)];rfl,rfl,rfl,b5 15,by rw[rcl (H kk kc) (vK 0)];rfl,rfl,rfl,vK 15,by rw[rcl (H x1 c1) (v1 0)];rfl,rfl,rfl,v1 15,by rw[rcl (H y1 e1) (v2 0)];rfl,rfl,rfl,v2 15,rfl,rfl,rfl,rfl,rfl,rfl,rfl,rfl,rfl,rfl,rfl,rfl,rfl,rfl,rfl,rfl,by rw[rcl (H x2 c2) (w1 0)];rfl,rfl,rfl,w1 15,by rw[rcl (H y2 e2) (w2 0)];rfl,rfl,rfl,w2 15,trivial⟩ rfl rfl rfl⟩
   ·rw[hr1]at hh⊢
    have q1:cmp .eql (.ofNat 1) 1=true:=eql_t hA (b:=1) rfl
    rw[if_pos rfl]at hh
    have hE:=hF U2 V2 X Y hon2 hx2 hy2 h1 h2 hxc2 hye2 hx1 hy1
    cbv
    rw[q1]
    cbv
    refine cgn rfl hg rfl rfl hE (fun l=>if l=6 then 15 else if l=7 then 16 else if l=8 then 7 else if l=9 then 8 else l) rfl ⟨by rw[rcl (H p pc) (vP 0)];rfl,by rw[rcl (H a ac) (vA 0)];rfl,by rw[rcl rB (b2 0)];rfl,by rw[rcl rN (b3 0)];rfl,by rw[rcl rX (b4 0)];rfl,by rw[rcl rY (b5 0)];rfl,by rw[rcl (H x2 c2) (w1 0)];rfl,by rw[rcl (H y2 e2) (w2 0)];rfl,by rw[rcl (H x1 c1) (v1 0)];rfl,by rw[rcl (H y1 e1) (v2 0)];rfl,trivial⟩ rfl rfl rfl ?_
    rintro _ _ _ (⟨hd2,rfl,rfl,rfl⟩|⟨U4,V4,x4,y4,c4,e4,hd2,hx4,hy4,hxc4,hye4,rfl,rfl,rfl⟩) _
    ·refine⟨rfl,?_⟩
     cbv
     rw[fs]
     exact⟨⟨0,j,0,0,0,0⟩,_root_.id,⟨by show j<=b;omega,Or.inl ⟨rfl,hh.trans hd2⟩⟩,Nat.lt_succ_self j,weak_id ⟨rfl,rfl,rfl,rfl,rfl,rfl,rfl,rfl,rfl,rfl,rfl,rfl,trivial⟩ ⟨rfl,rfl,vP 15,rfl,rfl,vA 15,rfl,rfl,b2 15,rfl,rfl,b3 15,rfl,rfl,b4 15,rfl,rfl,b5 15,rfl,rfl,vK 15,rfl,rfl,v1 15,rfl,rfl,v2 15,rfl,rfl,rfl,rfl,rfl,rfl,rfl,rfl,rfl,rfl,rfl,rfl,trivial⟩ rfl rfl⟩
    ·refine⟨rfl,?_⟩
     have w3:∀m,bdLB m (H x4 c4)=true:=fun m=>hs.b m x4 c4
     have w4:∀m,bdLB m (H y4 e4)=true:=fun m=>hs.b m y4 e4
     simp only[renB,rcl (H x4 c4) (w3 0),rcl (H y4 e4) (w4 0)]
     cbv
     rw[fs]
     exact⟨⟨2,j,x4,y4,c4,e4⟩,fun l=>if l=13 then 17 else if l=14 then 18 else l,⟨by show j<=b;omega,Or.inr (Or.inr ⟨rfl,U4,V4,hh.trans hd2,hx4,hy4,hxc4,hye4⟩)⟩,Nat.lt_succ_self j,wkr ⟨rfl,rfl,rfl,rfl,rfl,rfl,rfl,rfl,rfl,rfl,rfl,rfl,trivial⟩ ⟨by rw[rcl (H p pc) (vP 0)];rfl,rfl,rfl,vP 15,by rw[rcl (H a ac) (vA 0)];rfl,rfl,rfl,vA 15,by rw[rcl rB (b2 0)];rfl,rfl,rfl,b2 15,by rw[rcl rN (b3 0)];rfl,rfl,rfl,b3 15,by rw[rcl rX (b4 0)];rfl,rfl,rfl,b4 15,by rw[rcl rY (b5 0)];rfl,rfl,rfl,b5 15,by rw[rcl (H kk kc) (vK 0)];rfl,rfl,rfl,vK 15,by rw[rcl (H x1 c1) (v1 0)];rfl,rfl,rfl,v1 15,by rw[rcl (H y1 e1) (v2 0)];rfl,rfl,rfl,v2 15,rfl,rfl,rfl,rfl,rfl,rfl,rfl,rfl,rfl,rfl,rfl,rfl,rfl,rfl,rfl,rfl,by rw[rcl (H x4 c4) (w3 0)];rfl,rfl,rfl,w3 15,by rw[rcl (H y4 e4) (w4 0)];rfl,rfl,rfl,w4 15,trivial⟩ rfl rfl rfl⟩
  ·rw[hq]at hh hon2
   have oU:EC.On Av Bv Ux Vx:=by have h:=EC.smul_on Kk onP (kk/2^(j+1));rw[hq]at h;exact h
   have vX:∀m,bdLB m (H x c)=true:=fun m=>hs.b m x c
   have vY:∀m,bdLB m (H y e)=true:=fun m=>hs.b m y e
   have hD:=hF Ux Vx Ux Vx oU hxU hyV hxU hyV hxc hye hxc hye
   cbv
   rw[ivs,gT]
   cbv
   refine cgn rfl hg rfl rfl hD (fun l=>if l=6 then 13 else if l=7 then 14 else if l=8 then 13 else if l=9 then 14 else l) rfl ⟨by rw[rcl (H p pc) (vP 0)];rfl,by rw[rcl (H a ac) (vA 0)];rfl,by rw[rcl rB (b2 0)];rfl,by rw[rcl rN (b3 0)];rfl,by rw[rcl rX (b4 0)];rfl,by rw[rcl rY (b5 0)];rfl,by rw[rcl (H x c) (vX 0)];rfl,by rw[rcl (H y e) (vY 0)];rfl,by rw[rcl (H x c) (vX 0)];rfl,by rw[rcl (H y e) (vY 0)];rfl,trivial⟩ rfl rfl rfl ?_
   rintro _ _ _ (⟨hd,_⟩|⟨U2,V2,x2,y2,c2,e2,hd,hx2,hy2,hxc2,hye2,rfl,rfl,rfl⟩) _
   ·exact absurd hd (EC.dbl_ne Kk oU)
   refine⟨rfl,?_⟩
   rw[hd]at hh hon2
   have w1:∀m,bdLB m (H x2 c2)=true:=fun m=>hs.b m x2 c2
   have w2:∀m,bdLB m (H y2 e2)=true:=fun m=>hs.b m y2 e2
   simp only[renB,rcl (H x2 c2) (w1 0),rcl (H y2 e2) (w2 0)]
   cbv
   refine cro rfl hg rfl rfl hBt (fun _=>6) rfl (ft1 (vK 0) rfl) ?_
   rintro _ _ _ rfl
   refine⟨trivial,trivial,?_⟩
   cbv
   rcases hr2 with hr0|hr1
   ·rw[hr0]at hh⊢
    have q1:cmp .eql (.ofNat 0) 1=false:=eql_f hA (b:=1) (by decide)
    rw[if_neg (by decide)]at hh
    cbv
    rw[q1]
    cbv
    rw[fs]
    exact⟨⟨2,j,x2,y2,c2,e2⟩,fun l=>if l=13 then 15 else if l=14 then 16 else l,⟨by show j<=b;omega,Or.inr (Or.inr ⟨rfl,U2,V2,hh,hx2,hy2,hxc2,hye2⟩)⟩,Nat.lt_succ_self j,wkr ⟨rfl,rfl,rfl,rfl,rfl,rfl,rfl,rfl,rfl,rfl,rfl,rfl,trivial⟩ ⟨by rw[rcl (H p pc) (vP 0)];rfl,rfl,rfl,vP 15,by rw[rcl (H a ac) (vA 0)];rfl,rfl,rfl,vA 15,by rw[rcl rB (b2 0)];rfl,rfl,rfl,b2 15,by rw[rcl rN (b3 0)];rfl,rfl,rfl,b3 15,by rw[rcl rX (b4 0)];rfl,rfl,rfl,b4 15,by rw[rcl rY (b5 0)];rfl,rfl,rfl,b5 15,by rw[rcl (H kk kc) (vK 0)];rfl,rfl,rfl,vK 15,by rw[rcl (H x1 c1) (v1 0)];rfl,rfl,rfl,v1 15,by rw[rcl (H y1 e1) (v2 0)];rfl,rfl,rfl,v2 15,rfl,rfl,rfl,rfl,rfl,rfl,rfl,rfl,rfl,rfl,rfl,rfl,rfl,rfl,rfl,rfl,by rw[rcl (H x2 c2) (w1 0)];rfl,rfl,rfl,w1 15,by rw[rcl (H y2 e2) (w2 0)];rfl,rfl,rfl,w2 15,trivial⟩ rfl rfl rfl⟩
   ·rw[hr1]at hh⊢
    have q1:cmp .eql (.ofNat 1) 1=true:=eql_t hA (b:=1) rfl
    rw[if_pos rfl]at hh
    have hE:=hF U2 V2 X Y hon2 hx2 hy2 h1 h2 hxc2 hye2 hx1 hy1
    cbv
    rw[q1]
    cbv
    refine cgn rfl hg rfl rfl hE (fun l=>if l=6 then 15 else if l=7 then 16 else if l=8 then 7 else if l=9 then 8 else l) rfl ⟨by rw[rcl (H p pc) (vP 0)];rfl,by rw[rcl (H a ac) (vA 0)];rfl,by rw[rcl rB (b2 0)];rfl,by rw[rcl rN (b3 0)];rfl,by rw[rcl rX (b4 0)];rfl,by rw[rcl rY (b5 0)];rfl,by rw[rcl (H x2 c2) (w1 0)];rfl,by rw[rcl (H y2 e2) (w2 0)];rfl,by rw[rcl (H x1 c1) (v1 0)];rfl,by rw[rcl (H y1 e1) (v2 0)];rfl,trivial⟩ rfl rfl rfl ?_
    rintro _ _ _ (⟨hd2,rfl,rfl,rfl⟩|⟨U4,V4,x4,y4,c4,e4,hd2,hx4,hy4,hxc4,hye4,rfl,rfl,rfl⟩) _
    ·refine⟨rfl,?_⟩
     cbv
     rw[fs]
     exact⟨⟨0,j,0,0,0,0⟩,_root_.id,⟨by show j<=b;omega,Or.inl ⟨rfl,hh.trans hd2⟩⟩,Nat.lt_succ_self j,weak_id ⟨rfl,rfl,rfl,rfl,rfl,rfl,rfl,rfl,rfl,rfl,rfl,rfl,trivial⟩ ⟨rfl,rfl,vP 15,rfl,rfl,vA 15,rfl,rfl,b2 15,rfl,rfl,b3 15,rfl,rfl,b4 15,rfl,rfl,b5 15,rfl,rfl,vK 15,rfl,rfl,v1 15,rfl,rfl,v2 15,rfl,rfl,rfl,rfl,rfl,rfl,rfl,rfl,rfl,rfl,rfl,rfl,trivial⟩ rfl rfl⟩
    ·refine⟨rfl,?_⟩
     have w3:∀m,bdLB m (H x4 c4)=true:=fun m=>hs.b m x4 c4
     have w4:∀m,bdLB m (H y4 e4)=true:=fun m=>hs.b m y4 e4
     simp only[renB,rcl (H x4 c4) (w3 0),rcl (H y4 e4) (w4 0)]
     cbv
     rw[fs]
     exact⟨⟨2,j,x4,y4,c4,e4⟩,fun l=>if l=13 then 17 else if l=14 then 18 else l,⟨by show j<=b;omega,Or.inr (Or.inr ⟨rfl,U4,V4,hh.trans hd2,hx4,hy4,hxc4,hye4⟩)⟩,Nat.lt_succ_self j,wkr ⟨rfl,rfl,rfl,rfl,rfl,rfl,rfl,rfl,rfl,rfl,rfl,rfl,trivial⟩ ⟨by rw[rcl (H p pc) (vP 0)];rfl,rfl,rfl,vP 15,by rw[rcl (H a ac) (vA 0)];rfl,rfl,rfl,vA 15,by rw[rcl rB (b2 0)];rfl,rfl,rfl,b2 15,by rw[rcl rN (b3 0)];rfl,rfl,rfl,b3 15,by rw[rcl rX (b4 0)];rfl,rfl,rfl,b4 15,by rw[rcl rY (b5 0)];rfl,rfl,rfl,b5 15,by rw[rcl (H kk kc) (vK 0)];rfl,rfl,rfl,vK 15,by rw[rcl (H x1 c1) (v1 0)];rfl,rfl,rfl,v1 15,by rw[rcl (H y1 e1) (v2 0)];rfl,rfl,rfl,v2 15,rfl,rfl,rfl,rfl,rfl,rfl,rfl,rfl,rfl,rfl,rfl,rfl,rfl,rfl,rfl,rfl,by rw[rcl (H x4 c4) (w3 0)];rfl,rfl,rfl,w3 15,by rw[rcl (H y4 e4) (w4 0)];rfl,rfl,rfl,w4 15,trivial⟩ rfl rfl rfl⟩
end
def RO(P:Program)(id:Nat):Prop:=∀ (s dg:ByteArray),s.size<2^40->bl dg=Sh.of id (bl s)->Con P 83 [.int .i64 (.ofNat id),.str s] [] 0 [] (fun v _ _=>v= .str dg)
theorem ro32{P:Program}(hP:P=Tryz.prog){id:Nat}(h:id=1\/id=2):RO P id:=fun s dg hs hd=>by
 rcases h with rfl|rfl
 ·exact cROf32 hP 1 (f8A Sh.i224) (Or.inl ⟨rfl,rfl⟩) (by unfold Sh.ok8;decide) s dg hs hd
 ·exact cROf32 hP 2 (f8A Sh.i256) (Or.inr ⟨rfl,rfl⟩) (by unfold Sh.ok8;decide) s dg hs hd
theorem cRXor{P:Program}(hP:P=Tryz.prog)(id:Nat)(hid:1<=id/\id<=4)(hOf:RO P id)(key r:ByteArray)(x:Nat)(hx:x<256)(hks:key.size<2^40)(hr:bl r=(Sh.key id (bl key)).map (· ^^^x)):
 Con P 84 [.int .i64 (.ofNat id),.str key,.int .u8 (.ofNat x)] [] 0 [] (fun v _ _=>v= .str r):=by
 obtain⟨k,hk⟩:=exq (Sh.blk id)
 have hkb:=Sh.size_blk hid
 rw[<-hk]at hkb
 have hBk:=cRBlock hP id hid k hk
 obtain⟨kz,hkz⟩:=exq key.size
 have hU:=bytesU8 hP
 refine cof hP Tryz.func84 (bdb _ rfl) (bkb rfl) ?_
 intro A g K hA hg hK
 obtain⟨bin,_,cmp,_,_,ix,_,_,_,_,_,_,slen,_,nat,off,get,_,_,spl⟩:=A
 have f0:∀i,i<k->ix (.ofNat i) k=some i:=fun i h=>ix_of hA h
 have f1:∀i,off 0 i 1=i:=fun i=>(off_of hA 0 i 1).trans (by omega)
 have f2:∀i,i<k->cmp .lss (.ofNat i) (.ofNat k)=true:=fun i h=>lss_t hA h
 have f3:cmp .lss (.ofNat k) (.ofNat k)=false:=lss_f hA (by omega)
 have f4:∀i,i<k->bin .add .i64 (.ofNat i) 1=Int.ofNat (i+1):=fun i h=>add_of hA (by omega)
 have f5:nat k=Int.ofNat k:=nat_of hA k
 have e1:slen key=Int.ofNat kz:=(slen_of hA key).trans (by rw[hkz])
 cbv
 rw[e1]
 cbv
 refine cva rfl hg rfl rfl hBk ?_
 rintro _ _ _ rfl
 refine⟨trivial,?_⟩
 by_cases hlong:k<kz
 ·obtain⟨kb,hkbb⟩:∃b,bl b=Sh.of id (bl key):=⟨mkB (Sh.of id (bl key)),bmk (Sh.of_b _ _)⟩
  obtain⟨m,hm⟩:=exq kb.size
  have hmk:m<=k:=by rw[hm,<-bll,hkbb,Sh.of_len hid];exact hkb.1
  have hHo:=hOf key kb hks hkbb
  cbv
  rw[show cmp .gtr (.ofNat kz) (.ofNat k)=true from gtr_t hA hlong]
  cbv
  refine cva rfl hg rfl rfl hHo ?_
  rintro _ _ _ rfl
  refine⟨trivial,?_⟩
  obtain⟨l,hl⟩:=exq (bl kb++List.replicate (k-m) 0)
  have hlk:l=Sh.key id (bl key):=by
   rw[hl];unfold Sh.key;rw[bll,<-hk]
   rw[if_pos (by omega:k<key.size),hkbb,hm,<-bll,hkbb]
  have hll:l.length=k:=by rw[hlk,Sh.key_len hid,hk]
  have hlb:∀i,l.getD i 0<256:=fun i=>by
   rw[List.getD_eq_getElem?_getD]
   cases hq:l[i]? with
   |none=>decide
   |some y=>exact Sh.key_b id (bl key) (bl_lt key) y (by rw[<-hlk];exact List.mem_of_getElem? hq)
  obtain⟨C,hC⟩:=exq (fun i=>by8 (XR l x i):Nat->List SV)
  have bC:∀q i,bdLB q (C i)=true:=fun q i=>by rw[hC];exact by8_bd q _
  have gC:∀i,i<k->get (C i) i=some (.int .u8 (.ofNat (l.getD i 0))):=fun i h=>by
   rw[hC];have:=XR_get (l:=l) (x:=x) (i:=i) (by omega) [];rw[List.append_nil]at this;exact(get_of hA _ _).trans this
  have sC:∀i,i<k->spl (C i) i [.int .u8 (.ofNat (l.getD i 0^^^x))]=some (C (i+1)):=fun i h=>by
   rw[hC]
   refine(spl_of hA (by rw[by8_len,XR_len];omega) _).trans ?_
   have:=XR_set (l:=l) (x:=x) (i:=i) (by omega) []
   rw[List.append_nil,List.append_nil]at this
   rw[this]
  have hC0:bts kb++(List.replicate k (SV.int .u8 0)).drop kb.size=C 0:=by
   rw[hC,<-hm,List.drop_replicate,bts_by8]
   show _=by8 ([].map _++l.drop 0)
   rw[List.drop_zero,hl]
   simp[by8]
  have hCk:((C k).drop 0).take k=bts r:=by
   rw[hC,List.drop_zero]
   show(by8 (XR l x k)).take k=_
   unfold XR
   rw[<-hll,List.take_length,List.drop_length,List.append_nil,List.take_of_length_le (by rw[by8_len,List.length_map];exact Nat.le_refl _),bts_by8,hr,hlk]
  have hrs:r.size=k:=by rw[<-bll,hr,List.length_map,Sh.key_len hid,hk]
  clear hC
  cbv
  refine cva rfl hg rfl rfl hBk ?_
  rintro _ _ _ rfl
  refine⟨trivial,?_⟩
  cbv
  refine smk (hP▸tblOk) hg rfl rfl (show tyT 143=some _ from rfl) rfl (show tyT 5=some _ from rfl) hU rfl rfl rfl (by omega) (by omega) ?_
  obtain⟨Z,hZ⟩:=exq (List.replicate k (SV.int .u8 0):List SV)
  have hZl:Z.length=k:=by rw[hZ,List.length_replicate]
  rw[<-hZ]at hC0⊢
  cbv
  refine step_copy_str (hP▸tblOk) hg rfl rfl (show tyT 143=some _ from rfl) rfl (show ev _ _=some (.slice 0 0 k k)from rfl) (show find _ 0=some _ from rfl) rfl (d:=kb) rfl (by omega) (by omega) ?_
  rw[hC0]
  clear hC0 hZ hZl
  cbv
  refine lpb Nat (fun i=>i<=k) (fun i=>k-i) (fun i=> [(8,.int .i64 (.ofNat i))]) [2,7] (fun i=> [(0,C i)]) 0 (Nat.zero_le _) ?_ ?_
  ·exact wkih (by repeat' (first|exact trivial|refine⟨rfl,rfl,rfl,?_⟩|refine⟨rfl,rfl,bC 1 0,?_⟩))
  intro i hi
  by_cases hlt:i<k
  ·obtain⟨y,hy⟩:=exq (l.getD i 0)
   obtain⟨w,hw⟩:=exq (y^^^x)
   have hx8:bin .xor .u8 (.ofNat y) (.ofNat x)=Int.ofNat w:=(xorW hA rfl (by rw[hy];exact hlb i) hx).trans (by rw[hw])
   have g1:=gC i hlt
   have g2:=sC i hlt
   rw[<-hy]at g1 g2
   rw[<-hw]at g2
   cbv
   rw[f5]
   cbv
   rw[f2 i hlt]
   cbv
   rw[f0 i hlt]
   cbv
   rw[f1 i,g1]
   cbv
   rw[hx8,f0 i hlt]
   cbv
   rw[f1 i,g2]
   cbv
   rw[f4 i hlt]
   refine⟨i+1,_root_.id,hlt,(by show k-(i+1)<k-i;omega),?_⟩
   exact wkih (by repeat' (first|exact trivial|refine⟨rfl,rfl,rfl,?_⟩|refine⟨rfl,rfl,bC 1 (i+1),?_⟩))
  ·obtain rfl:i=k:=by omega
   cbv
   rw[f5]
   cbv
   rw[f3]
   cbv
   refine step_string (hP▸tblOk) hg rfl rfl (show tyT 9=some _ from rfl) rfl (show tyT 143=some _ from rfl) rfl (hP▸Tryz.underlying5) rfl (show find _ 0=some _ from rfl) hCk hrs ?_
   cbv
   exact hK _ _ _ rfl
 ·obtain⟨kb,hkbb⟩:=exq key
  obtain⟨m,hm⟩:=exq kb.size
  have hmk:m<=k:=by rw[hm,hkbb];omega
  rw[<-hkbb]at e1⊢
  cbv
  rw[show cmp .gtr (.ofNat kz) (.ofNat k)=false from gtr_f hA (by omega)]
  obtain⟨l,hl⟩:=exq (bl kb++List.replicate (k-m) 0)
  have hlk:l=Sh.key id (bl key):=by
   rw[hl];unfold Sh.key;rw[bll,<-hk]
   rw[if_neg (by omega:¬k<key.size),hm,hkbb,<-bll]
  have hll:l.length=k:=by rw[hlk,Sh.key_len hid,hk]
  have hlb:∀i,l.getD i 0<256:=fun i=>by
   rw[List.getD_eq_getElem?_getD]
   cases hq:l[i]? with
   |none=>decide
   |some y=>exact Sh.key_b id (bl key) (bl_lt key) y (by rw[<-hlk];exact List.mem_of_getElem? hq)
  obtain⟨C,hC⟩:=exq (fun i=>by8 (XR l x i):Nat->List SV)
  have bC:∀q i,bdLB q (C i)=true:=fun q i=>by rw[hC];exact by8_bd q _
  have gC:∀i,i<k->get (C i) i=some (.int .u8 (.ofNat (l.getD i 0))):=fun i h=>by
   rw[hC];have:=XR_get (l:=l) (x:=x) (i:=i) (by omega) [];rw[List.append_nil]at this;exact(get_of hA _ _).trans this
  have sC:∀i,i<k->spl (C i) i [.int .u8 (.ofNat (l.getD i 0^^^x))]=some (C (i+1)):=fun i h=>by
   rw[hC]
   refine(spl_of hA (by rw[by8_len,XR_len];omega) _).trans ?_
   have:=XR_set (l:=l) (x:=x) (i:=i) (by omega) []
   rw[List.append_nil,List.append_nil]at this
   rw[this]
  have hC0:bts kb++(List.replicate k (SV.int .u8 0)).drop kb.size=C 0:=by
   rw[hC,<-hm,List.drop_replicate,bts_by8]
   show _=by8 ([].map _++l.drop 0)
   rw[List.drop_zero,hl]
   simp[by8]
  have hCk:((C k).drop 0).take k=bts r:=by
   rw[hC,List.drop_zero]
   show(by8 (XR l x k)).take k=_
   unfold XR
   rw[<-hll,List.take_length,List.drop_length,List.append_nil,List.take_of_length_le (by rw[by8_len,List.length_map];exact Nat.le_refl _),bts_by8,hr,hlk]
  have hrs:r.size=k:=by rw[<-bll,hr,List.length_map,Sh.key_len hid,hk]
  clear hC
  cbv
  refine cva rfl hg rfl rfl hBk ?_
  rintro _ _ _ rfl
  refine⟨trivial,?_⟩
  cbv
  refine smk (hP▸tblOk) hg rfl rfl (show tyT 143=some _ from rfl) rfl (show tyT 5=some _ from rfl) hU rfl rfl rfl (by omega) (by omega) ?_
  obtain⟨Z,hZ⟩:=exq (List.replicate k (SV.int .u8 0):List SV)
  have hZl:Z.length=k:=by rw[hZ,List.length_replicate]
  rw[<-hZ]at hC0⊢
  cbv
  refine step_copy_str (hP▸tblOk) hg rfl rfl (show tyT 143=some _ from rfl) rfl (show ev _ _=some (.slice 0 0 k k)from rfl) (show find _ 0=some _ from rfl) rfl (d:=kb) rfl (by omega) (by omega) ?_
  rw[hC0]
  clear hC0 hZ hZl
  cbv
  refine lpb Nat (fun i=>i<=k) (fun i=>k-i) (fun i=> [(8,.int .i64 (.ofNat i))]) [2,7] (fun i=> [(0,C i)]) 0 (Nat.zero_le _) ?_ ?_
  ·exact wkih (by repeat' (first|exact trivial|refine⟨rfl,rfl,rfl,?_⟩|refine⟨rfl,rfl,bC 1 0,?_⟩))
  intro i hi
  by_cases hlt:i<k
  ·obtain⟨y,hy⟩:=exq (l.getD i 0)
   obtain⟨w,hw⟩:=exq (y^^^x)
   have hx8:bin .xor .u8 (.ofNat y) (.ofNat x)=Int.ofNat w:=(xorW hA rfl (by rw[hy];exact hlb i) hx).trans (by rw[hw])
   have g1:=gC i hlt
   have g2:=sC i hlt
   rw[<-hy]at g1 g2
   rw[<-hw]at g2
   cbv
   rw[f5]
   cbv
   rw[f2 i hlt]
   cbv
   rw[f0 i hlt]
   cbv
   rw[f1 i,g1]
   cbv
   rw[hx8,f0 i hlt]
   cbv
   rw[f1 i,g2]
   cbv
   rw[f4 i hlt]
   refine⟨i+1,_root_.id,hlt,(by show k-(i+1)<k-i;omega),?_⟩
   exact wkih (by repeat' (first|exact trivial|refine⟨rfl,rfl,rfl,?_⟩|refine⟨rfl,rfl,bC 1 (i+1),?_⟩))
  ·obtain rfl:i=k:=by omega
   cbv
   rw[f5]
   cbv
   rw[f3]
   cbv
   refine step_string (hP▸tblOk) hg rfl rfl (show tyT 9=some _ from rfl) rfl (show tyT 143=some _ from rfl) rfl (hP▸Tryz.underlying5) rfl (show find _ 0=some _ from rfl) hCk hrs ?_
   cbv
   exact hK _ _ _ rfl
theorem cRHmac{P:Program}(hP:P=Tryz.prog)(id:Nat)(hid:1<=id/\id<=4)(hOf:RO P id)(key msg dg:ByteArray)(hks:key.size<2^40)(hms:msg.size<2^39)(hdg:bl dg=Sh.hmac id (bl key) (bl msg)):
 Con P 54 [.int .i64 (.ofNat id),.str key,.str msg] [] 0 [] (fun v _ _=>v= .str dg):=by
 have hkk:=Sh.key_b id (bl key) (bl_lt key)
 have hkb:=Sh.size_blk hid
 obtain⟨ip,hip⟩:∃b,bl b=(Sh.key id (bl key)).map (· ^^^54):=⟨mkB ((Sh.key id (bl key)).map (· ^^^54)),bmk (Sh.xor_b hkk (by decide))⟩
 obtain⟨ok,hok⟩:∃b,bl b=(Sh.key id (bl key)).map (· ^^^92):=⟨mkB ((Sh.key id (bl key)).map (· ^^^92)),bmk (Sh.xor_b hkk (by decide))⟩
 have his:ip.size<=128:=by rw[<-bll,hip,List.length_map,Sh.key_len hid];omega
 have hos:ok.size<=128:=by rw[<-bll,hok,List.length_map,Sh.key_len hid];omega
 obtain⟨m1,hm1⟩:=exq (ip++msg)
 obtain⟨d1,hd1⟩:∃b,bl b=Sh.of id (bl m1):=⟨mkB (Sh.of id (bl m1)),bmk (Sh.of_b _ _)⟩
 obtain⟨m2,hm2⟩:=exq (ok++d1)
 have hm1s:m1.size=ip.size+msg.size:=by rw[hm1,ByteArray.size_append]
 have hd1s:d1.size=Sh.size id:=by rw[<-bll,hd1,Sh.of_len hid]
 have hm2s:m2.size=ok.size+d1.size:=by rw[hm2,ByteArray.size_append]
 have hXi:=cRXor hP id hid hOf key ip 54 (by decide) hks hip
 have hXo:=cRXor hP id hid hOf key ok 92 (by decide) hks hok
 have hO1:=hOf m1 d1 (by omega) hd1
 have hO2:=hOf m2 dg (by omega) (by rw[hdg,hm2,bl_app,hok,hd1,hm1,bl_app,hip];rfl)
 clear hip hok hd1 hdg hkk
 refine cof hP Tryz.func54 (bdb _ rfl) (bkb rfl) ?_
 intro A g K hA hg hK
 obtain⟨_,_,_,_,_,_,_,_,_,_,scat⟩:=A
 have e1:scat ip msg=some m1:=(scat_of hA (by omega)).trans (by rw[hm1])
 have e2:scat ok d1=some m2:=(scat_of hA (by omega)).trans (by rw[hm2])
 cbv
 refine cva rfl hg rfl rfl hXo ?_
 rintro _ _ _ rfl
 refine⟨trivial,?_⟩
 cbv
 refine cva rfl hg rfl rfl hXi ?_
 rintro _ _ _ rfl
 refine⟨trivial,?_⟩
 cbv
 rw[e1]
 cbv
 refine cva rfl hg rfl rfl hO1 ?_
 rintro _ _ _ rfl
 refine⟨trivial,?_⟩
 cbv
 rw[e2]
 cbv
 refine cva rfl hg rfl rfl hO2 ?_
 rintro _ _ _ rfl
 refine⟨trivial,?_⟩
 cbv
 exact hK _ _ _ rfl
theorem cRUpd{P:Program}(hP:P=Tryz.prog)(id:Nat)(hid:1<=id/\id<=4)(hOf:RO P id)(k v s:ByteArray)(n:Nat)(hks:k.size<=64)(hvs:v.size<=64)(hss:s.size<2^20)(k' v':ByteArray)(hk':bl k'=(Sh.upd ⟨id,bl k,bl v,n⟩ (bl s)).k)(hv':bl v'=(Sh.upd ⟨id,bl k,bl v,n⟩ (bl s)).v):
 Con P 53 [.ptr 0 0,.str s] [⟨0,[.int .i64 (.ofNat id),.str k,.str v,.int .i64 (.ofNat n)],73⟩] 1 [0] (fun w L q=>w= .tup []/\L=[⟨0,[.int .i64 (.ofNat id),.str k',.str v',.int .i64 (.ofNat n)],73⟩]/\q=1):=by
 suffices raw:Con P 53 [.ptr 0 0,.str s] [⟨0,[.int .i64 (.ofNat id),.str k,.str v,.int .i64 (.ofNat n)],73⟩] 1 [0] (fun w L q=>w= .tup []/\find L 0=some ⟨0,[.int .i64 (.ofNat id),.str k',.str v',.int .i64 (.ofNat n)],73⟩)from
  raw.weak fun w L q ⟨h1,h2⟩=>⟨_root_.id,.tup [],_,1,by subst h1;exact weak_id ⟨rfl,rfl,trivial⟩ ⟨h2,rfl,rfl,trivial⟩ rfl rfl,rfl,rfl,rfl⟩
 have hsz:=kvB_sz id hid (bl s) k v hks hvs
 have hu:=fun i hi=>kvB_upd id (bl s) k v n i hi
 have hK1:∀i,bl (kvB id (bl s) k v (i+1)).1=Sh.hmac id (bl (kvB id (bl s) k v i).1) (bl (kvB id (bl s) k v i).2++[i]++bl s):=fun i=>by rw[kvB,bmk (Sh.hmac_b _ _ _)]
 have hV1:∀i,bl (kvB id (bl s) k v (i+1)).2=Sh.hmac id (bl (kvB id (bl s) k v (i+1)).1) (bl (kvB id (bl s) k v i).2):=fun i=>by rw[kvB,bmk (Sh.hmac_b _ _ _)]
 obtain⟨k1,hk1⟩:=exq ((kvB id (bl s) k v 1).1)
 obtain⟨v1,hv1⟩:=exq ((kvB id (bl s) k v 1).2)
 obtain⟨k2,hk2⟩:=exq ((kvB id (bl s) k v 2).1)
 obtain⟨v2,hv2⟩:=exq ((kvB id (bl s) k v 2).2)
 have s1:=hsz 1
 have s2:=hsz 2
 have b1:=hK1 0
 have c1:=hV1 0
 have b2:=hK1 1
 have c2:=hV1 1
 simp only[Nat.zero_add,Nat.reduceAdd]at b1 c1 b2 c2
 rw[<-hk1,<-hv1]at s1
 rw[<-hk2,<-hv2]at s2
 rw[<-hk1]at b1
 rw[<-hk1,<-hv1]at c1
 rw[<-hk1,<-hv1,<-hk2]at b2
 rw[<-hk2,<-hv1,<-hv2]at c2
 have u1:bl s=[]->k1=k'/\v1=v':=fun h=>by
  have:=hu 1 (by rw[if_pos h])
  rw[<-hk1,<-hv1]at this
  exact⟨bl_inj (this.1.trans hk'.symm),bl_inj (this.2.trans hv'.symm)⟩
 have u2:bl s≠ []->k2=k'/\v2=v':=fun h=>by
  have:=hu 2 (by rw[if_neg h])
  rw[<-hk2,<-hv2]at this
  exact⟨bl_inj (this.1.trans hk'.symm),bl_inj (this.2.trans hv'.symm)⟩
 obtain⟨m1,hm1⟩:=exq (v++ByteArray.mk #[0])
 obtain⟨m2,hm2⟩:=exq (m1++s)
 obtain⟨m3,hm3⟩:=exq (v1++ByteArray.mk #[1])
 obtain⟨m4,hm4⟩:=exq (m3++s)
 have z1:m1.size<=65:=by rw[hm1,ByteArray.size_append];show v.size+1<=65;omega
 have z2:m2.size<2^21:=by rw[hm2,ByteArray.size_append];omega
 have z3:m3.size<=65:=by rw[hm3,ByteArray.size_append];show v1.size+1<=65;omega
 have z4:m4.size<2^21:=by rw[hm4,ByteArray.size_append];omega
 have hA1:=cRHmac hP id hid hOf k m2 k1 (by omega) (by omega) (by rw[b1,hm2,bl_app,hm1,bl_app];rfl)
 have hB1:=cRHmac hP id hid hOf k1 v v1 (by omega) (by omega) c1
 have hA2:=cRHmac hP id hid hOf k1 m4 k2 (by omega) (by omega) (by rw[b2,hm4,bl_app,hm3,bl_app];rfl)
 have hB2:=cRHmac hP id hid hOf k2 v1 v2 (by omega) (by omega) c2
 clear hu hK1 hV1 hk1 hv1 hk2 hv2 b1 c1 b2 c2 hsz hk' hv'
 refine cof hP Tryz.func53 ⟨(by show 0<1;decide),trivial,trivial⟩ (bkb rfl) ?_
 intro A g K hA hg hK
 obtain⟨_,_,_,_,_,_,_,_,_,_,scat,scmp⟩:=A
 have e1:scat v (ByteArray.mk #[0])=some m1:=(scat_of hA (by show v.size+1<_;omega)).trans (by rw[hm1])
 have e2:scat m1 s=some m2:=(scat_of hA (by omega)).trans (by rw[hm2])
 have e3:scat v1 (ByteArray.mk #[1])=some m3:=(scat_of hA (by show v1.size+1<_;omega)).trans (by rw[hm3])
 have e4:scat m3 s=some m4:=(scat_of hA (by omega)).trans (by rw[hm4])
 have f6:scmp .neq s (ByteArray.mk #[])= !decide (bl s=[]):=by
  have e:scmp=Ar.real.scmp:=congrArg Ar.scmp hA
  rw[e]
  exact strCmp_nilN s
 cbv
 refine reg_A (hP▸tblOk) hA hg (hP▸mixed) rfl rfl ?_
 cbv
 rw[e1]
 cbv
 rw[e2]
 cbv
 refine sdv hg hA1 ?_
 cbv
 refine reg_A (hP▸tblOk) hA hg (hP▸mixed) rfl rfl ?_
 cbv
 refine sdv hg hB1 ?_
 cbv
 rw[f6]
 by_cases hs:bl s=[]
 ·rw[decide_eq_true hs]
  cbv
  exact hK _ _ _ ⟨rfl,by rw[<-(u1 hs).1,<-(u1 hs).2];rfl⟩
 ·rw[decide_eq_false hs]
  cbv
  refine reg_A (hP▸tblOk) hA hg (hP▸mixed) rfl rfl ?_
  cbv
  rw[e3]
  cbv
  rw[e4]
  cbv
  refine sdv hg hA2 ?_
  cbv
  refine reg_A (hP▸tblOk) hA hg (hP▸mixed) rfl rfl ?_
  cbv
  refine sdv hg hB2 ?_
  cbv
  exact hK _ _ _ ⟨rfl,by rw[<-(u2 hs).1,<-(u2 hs).2];rfl⟩
theorem cRNew{P:Program}(hP:P=Tryz.prog)(id:Nat)(hid:1<=id/\id<=4)(hOf:RO P id)(e a b:ByteArray)(he:Sh.size id<=2*e.size/\e.size<=256)(ha:a.size<=256)(hb:b.size<=256)(k v:ByteArray)(hk:bl k=(Sh.new id (bl e++bl a++bl b)).k)(hv:bl v=(Sh.new id (bl e++bl a++bl b)).v):
 Con P 47 [.int .i64 (.ofNat id),.str e,.str a,.str b] [] 0 [] (fun w L q=>w= .tup [.ptr 0 0,.int .i64 0]/\L=[⟨0,[.int .i64 (.ofNat id),.str k,.str v,.int .i64 1],73⟩]/\q=1):=by
 obtain⟨z,hz⟩:=exq (Sh.size id)
 have hzb:=Sh.size_blk hid
 rw[<-hz]at hzb he
 have hS:=cRSize hP id hid z hz
 obtain⟨k0,hk0⟩:∃b,bl b=List.replicate z 0:=⟨mkB (List.replicate z 0),bmk fun x hx=>by rw[(List.mem_replicate.1 hx).2];decide⟩
 obtain⟨v0,hv0⟩:∃b,bl b=List.replicate z 1:=⟨mkB (List.replicate z 1),bmk fun x hx=>by rw[(List.mem_replicate.1 hx).2];decide⟩
 have hk0s:k0.size=z:=by rw[<-bll,hk0,List.length_replicate]
 have hv0s:v0.size=z:=by rw[<-bll,hv0,List.length_replicate]
 have hR0:=cSame hP z 0 (by decide) (by omega) k0 hk0
 have hR1:=cSame hP z 1 (by decide) (by omega) v0 hv0
 obtain⟨m1,hm1⟩:=exq (e++a)
 obtain⟨m2,hm2⟩:=exq (m1++b)
 have hm1s:m1.size=e.size+a.size:=by rw[hm1,ByteArray.size_append]
 have hm2s:m2.size=m1.size+b.size:=by rw[hm2,ByteArray.size_append]
 have hm2b:bl m2=bl e++bl a++bl b:=by rw[hm2,bl_app,hm1,bl_app]
 have hU:Con P 53 [.ptr 0 0,.str m2] [⟨0,[.int .i64 (.ofNat id),.str k0,.str v0,.int .i64 1],73⟩] 1 [0] (fun w L q=>w= .tup []/\L=[⟨0,[.int .i64 (.ofNat id),.str k,.str v,.int .i64 1],73⟩]/\q=1):=
  cRUpd hP id hid hOf k0 v0 m2 1 (by omega) (by omega) (by omega) k v (by rw[hk,hm2b,hk0,hv0,hz];rfl) (by rw[hv,hm2b,hk0,hv0,hz];rfl)
 suffices raw:Con P 47 [.int .i64 (.ofNat id),.str e,.str a,.str b] [] 0 [] (fun w L q=>∃l,w= .tup [.ptr l 0,.int .i64 0]/\find L l=some ⟨l,[.int .i64 (.ofNat id),.str k,.str v,.int .i64 1],73⟩)from
  raw.weak fun w L q ⟨l,h1,h2⟩=>⟨fun _=>l,.tup [.ptr 0 0,.int .i64 0],_,1,by subst h1;exact wkr ⟨rfl,rfl,trivial⟩ ⟨h2,rfl,rfl,rfl,trivial⟩ rfl rfl rfl,rfl,rfl,rfl⟩
 clear hk hv hk0 hv0
 obtain⟨ez,hez⟩:=exq e.size
 obtain⟨az,haz⟩:=exq a.size
 obtain⟨bz,hbz⟩:=exq b.size
 obtain⟨e2,he2⟩:=exq (2*ez)
 refine cof hP Tryz.func47 (bdb _ rfl) (bkb rfl) ?_
 intro A g K hA hg hK
 obtain⟨bin,_,cmp,_,_,_,_,_,_,_,scat,_,slen⟩:=A
 have g1:cmp .eql (.ofNat z) 0=false:=eql_f hA (a:=z) (b:=0) (by omega)
 have g2:scat e a=some m1:=(scat_of hA (by omega)).trans (by rw[hm1])
 have g3:scat m1 b=some m2:=(scat_of hA (by omega)).trans (by rw[hm2])
 have s1:slen e=Int.ofNat ez:=(slen_of hA e).trans (by rw[hez])
 have s2:slen a=Int.ofNat az:=(slen_of hA a).trans (by rw[haz])
 have s3:slen b=Int.ofNat bz:=(slen_of hA b).trans (by rw[hbz])
 have g4:bin .mul .i64 2 (.ofNat ez)=Int.ofNat e2:=(mulI hA (a:=2) (b:=ez) (by omega)).trans (by rw[he2])
 have g5:cmp .lss (.ofNat e2) (.ofNat z)=false:=lss_f hA (by omega)
 have g6:∀x,x<=256->cmp .gtr (.ofNat x) 256=false:=fun x h=>gtr_f hA (a:=x) (b:=256) (by omega)
 have g7:=g6 ez (by omega)
 have g8:=g6 az (by omega)
 have g9:=g6 bz (by omega)
 cbv
 refine cva rfl hg rfl rfl hS ?_
 rintro _ _ _ rfl
 refine⟨trivial,?_⟩
 cbv
 rw[g1]
 cbv
 rw[s1]
 cbv
 rw[g4]
 cbv
 refine cva rfl hg rfl rfl hS ?_
 rintro _ _ _ rfl
 refine⟨trivial,?_⟩
 cbv
 rw[g5]
 cbv
 rw[s1]
 cbv
 rw[g7]
 cbv
 rw[s2]
 cbv
 rw[g8]
 cbv
 rw[s3]
 cbv
 rw[g9]
 cbv
 refine cva rfl hg rfl rfl hS ?_
 rintro _ _ _ rfl
 refine⟨trivial,?_⟩
 cbv
 refine cva rfl hg rfl rfl hR0 ?_
 rintro _ _ _ rfl
 refine⟨trivial,?_⟩
 cbv
 refine cva rfl hg rfl rfl hS ?_
 rintro _ _ _ rfl
 refine⟨trivial,?_⟩
 cbv
 refine cva rfl hg rfl rfl hR1 ?_
 rintro _ _ _ rfl
 refine⟨trivial,?_⟩
 cbv
 rw[g2]
 cbv
 rw[g3]
 cbv
 refine cgn rfl hg rfl rfl hU (fun _=>0) rfl ⟨rfl,trivial⟩ rfl rfl rfl ?_
 rintro _ _ _ ⟨rfl,rfl,rfl⟩ _
 refine⟨rfl,?_⟩
 cbv
 exact hK _ _ _ ⟨0,rfl,rfl⟩
theorem cNum{P:Program}(hP:P=Tryz.prog)(x:Int):Con P 14 [.int .i64 x] [] 0 [] (fun v _ _=>v= .int .i64 x):=by
 refine cof hP Tryz.func14 (bdb _ rfl) (bkb rfl) ?_
 intro A g K hA hg hK
 cases A
 cbv
 exact hK _ _ _ rfl
theorem cOne{P:Program}(hP:P=Tryz.prog)(x:Nat)(r:Nat->Nat)(hr:r=fun j=>if j=0 then x else 0):Con P 26 [.int .u64 (.ofNat x)] [] 0 [] (fun v _ _=>v= .agg (ws r 9)):=by
 have e:ws r 9=[.int .u64 (.ofNat x),.int .u64 0,.int .u64 0,.int .u64 0,.int .u64 0,.int .u64 0,.int .u64 0,.int .u64 0,.int .u64 0]:=by rw[hr];rfl
 rw[e]
 clear hr e
 refine cof hP Tryz.func26 (bdb _ rfl) (bkb rfl) ?_
 intro A g K hA hg hK
 cases A
 cbv
 exact hK _ _ _ rfl
def seedL(l:List Nat):List Nat:=(l++[48,49,50,51,52,53,54,55,56,57,97,98,99,100,101,102]).take 200
theorem cSeeded{P:Program}(hP:P=Tryz.prog)(s k v:ByteArray)(hs:s.size<2^62)(hk:bl k=(Sh.new 2 (seedL (bl s))).k)(hv:bl v=(Sh.new 2 (seedL (bl s))).v):
 Con P 20 [.str s] [] 0 [] (fun w L q=>w= .tup [.ptr 0 0,.ptr 1 0,.bool true]/\L=[⟨0,[.int .i64 (.ofNat 2),.str k,.str v,.int .i64 1],100⟩,⟨1,[.int .i64 (.ofNat 2),.str k,.str v,.int .i64 1],73⟩]/\q=2):=by
 obtain⟨lit,hlit⟩:=exq (⟨#[48,49,50,51,52,53,54,55,56,57,97,98,99,100,101,102]⟩:ByteArray)
 have hlb:bl lit=[48,49,50,51,52,53,54,55,56,57,97,98,99,100,101,102]:=by rw[hlit];rfl
 have hls:lit.size=16:=by rw[hlit];rfl
 obtain⟨t,ht⟩:=exq (s++lit)
 have hts:t.size=s.size+16:=by rw[ht,ByteArray.size_append,hls]
 have htb:bl t=bl s++[48,49,50,51,52,53,54,55,56,57,97,98,99,100,101,102]:=by rw[ht,bl_app,hlb]
 obtain⟨u,hu⟩:=exq (t.extract 0 200)
 have hub:bl u=seedL (bl s):=by rw[hu,bl_extract,htb];rfl
 have hus:16<=u.size/\u.size<=200:=by
  rw[<-bll,hu,bl_extract,List.length_take,bll,hts];omega
 have hN:Con P 46 [.int .i64 (.ofNat 2),.str u,.str ⟨#[]⟩,.str ⟨#[]⟩] [] 0 [] _:=cDNew hP 2 (by decide) u ⟨#[]⟩ ⟨#[]⟩ ⟨by show 16<=_;omega,by omega⟩ (by decide) (by decide) k v (by rw[hk,hub];show _=(Sh.new 2 (seedL (bl s)++[]++[])).k;rw[List.append_nil,List.append_nil]) (by rw[hv,hub];show _=(Sh.new 2 (seedL (bl s)++[]++[])).v;rw[List.append_nil,List.append_nil])
 have hR:Con P 47 [.int .i64 (.ofNat 2),.str u,.str ⟨#[]⟩,.str ⟨#[]⟩] [] 0 [] _:=cRNew hP 2 (by decide) (ro32 hP (Or.inr rfl)) u ⟨#[]⟩ ⟨#[]⟩ ⟨by show 32<=_;omega,by omega⟩ (by decide) (by decide) k v (by rw[hk,hub];show _=(Sh.new 2 (seedL (bl s)++[]++[])).k;rw[List.append_nil,List.append_nil]) (by rw[hv,hub];show _=(Sh.new 2 (seedL (bl s)++[]++[])).v;rw[List.append_nil,List.append_nil])
 have hNu:=cNum hP 0
 obtain⟨tz,htz⟩:=exq t.size
 clear hk hv hub hlb
 refine cof hP Tryz.func20 (bdb _ rfl) (bkb rfl) ?_
 intro A g K hA hg hK
 obtain⟨_,_,cmp,_,_,_,_,_,_,_,scat,_,slen⟩:=A
 have e1:scat s ⟨#[48,49,50,51,52,53,54,55,56,57,97,98,99,100,101,102]⟩=some t:=by
  rw[<-hlit];exact(scat_of hA (by omega)).trans (by rw[ht])
 have e2:slen t=Int.ofNat tz:=(slen_of hA t).trans (by rw[htz])
 have e3:cmp .eql 0 0=true:=eql_t hA (a:=0) (b:=0) rfl
 cbv
 rw[e1]
 cbv
 rw[e2]
 by_cases hlong:200<tz
 ·have hSl:SlR P 9 (.str t) none (some (.i64,200)) (.str u):=by
   rw[hu];exact slr_str (hP▸tblOk) (show tyT 9=some _ from rfl) rfl t (j:=200) (by omega)
  cbv
  rw[show cmp .gtr (.ofNat tz) 200=true from gtr_t hA (a:=tz) (b:=200) hlong]
  cbv
  refine ssl hg rfl rfl rfl rfl rfl hSl ?_
  cbv
  refine cgn rfl hg rfl rfl hN _root_.id rfl trivial rfl rfl rfl ?_
  rintro _ _ _ ⟨rfl,rfl,rfl⟩ _
  refine⟨rfl,?_⟩
  cbv
  refine cgn rfl hg rfl rfl hR _root_.id rfl trivial rfl rfl rfl ?_
  rintro _ _ _ ⟨rfl,rfl,rfl⟩ _
  refine⟨rfl,?_⟩
  cbv
  refine cva rfl hg rfl rfl hNu ?_
  rintro _ _ _ rfl
  refine⟨trivial,?_⟩
  cbv
  rw[e3]
  cbv
  rw[e3]
  cbv
  exact hK _ _ _ ⟨rfl,rfl,rfl⟩
 ·obtain rfl:t=u:=by
   rw[hu];exact bl_inj (by rw[bl_extract,List.take_of_length_le (by rw[bll];omega)])
  cbv
  rw[show cmp .gtr (.ofNat tz) 200=false from gtr_f hA (a:=tz) (b:=200) hlong]
  cbv
  refine cgn rfl hg rfl rfl hN _root_.id rfl trivial rfl rfl rfl ?_
  rintro _ _ _ ⟨rfl,rfl,rfl⟩ _
  refine⟨rfl,?_⟩
  cbv
  refine cgn rfl hg rfl rfl hR _root_.id rfl trivial rfl rfl rfl ?_
  rintro _ _ _ ⟨rfl,rfl,rfl⟩ _
  refine⟨rfl,?_⟩
  cbv
  refine cva rfl hg rfl rfl hNu ?_
  rintro _ _ _ rfl
  refine⟨trivial,?_⟩
  cbv
  rw[e3]
  cbv
  rw[e3]
  cbv
  exact hK _ _ _ ⟨rfl,rfl,rfl⟩
def awD:Sh.Dr:=Sh.new 2 (seedL [101])
theorem awR:(mkS 1 0 223 64 awD).1=141/\(mkS 1 0 223 64 awD).2.1=1/\(mkS 1 0 223 64 awD).2.2.1=0:=by decide +kernel
def sm(x j:Nat):Nat:=if j=0 then x else 0
theorem sm_V(x:Nat):V 9 (sm x)=x:=by
 have:∀n,V (n+1) (sm x)=x:=fun n=>by
  induction n with
  |zero=>show 0+x*0x10000000000000000^0=x;omega
  |succ n ih=>
   show V (n+1) (sm x)+0*_=x
   rw[ih,Nat.zero_mul,Nat.add_zero]
 exact this 8
theorem sm_W{x:Nat}(h:x<0x10000000000000000):Wn 9 (sm x):=fun j _=>by
 unfold sm;split
 ·exact h
 ·decide
theorem awP:ptx (EC.G 13)=2/\pty (EC.G 13)=84/\ptinf (EC.G 13)=false:=by decide +kernel
theorem awN:EC.cn 13=223:=by decide +kernel
def valsP(f g:Nat->Nat)(b:Bool):Array Value:= #[.int .u64 (.ofNat (f 0)),.int .u64 (.ofNat (f 1)),.int .u64 (.ofNat (f 2)),.int .u64 (.ofNat (f 3)),.int .u64 (.ofNat (f 4)),.int .u64 (.ofNat (f 5)),.int .u64 (.ofNat (f 6)),.int .u64 (.ofNat (f 7)),.int .u64 (.ofNat (f 8)),.int .u64 (.ofNat (g 0)),.int .u64 (.ofNat (g 1)),.int .u64 (.ofNat (g 2)),.int .u64 (.ofNat (g 3)),.int .u64 (.ofNat (g 4)),.int .u64 (.ofNat (g 5)),.int .u64 (.ofNat (g 6)),.int .u64 (.ofNat (g 7)),.int .u64 (.ofNat (g 8)),.bool b]
theorem eq_natD(f g:Nat->Nat)(d:Nat)(w:World):(Op.equalIn (d+3) 25 (.agg (vals9 f)) (.agg (vals9 g))).run Tryz.prog w= .ok (eq9 f g) w:=by
 rw[run_equalIn_struct w (d+2) 25 _ _ (by kernel_rfl) (by kernel_rfl)]
 have hf:(Tryz.prog.fieldsOf 25).toList=[{name:= "W",type:=23,offset:=0,embedded:=false,tag:= "",pkgPath:= "",byteOffset:=0}]:=by kernel_rfl
 have hp:∀h:Nat->Nat,(part 23 (vals9 h) 0).run Tryz.prog w= .ok (.agg (vals9 h)) w:=fun h=>by kernel_rfl
 rw[hf]
 simp only[Op.eqFields,Sem.run_bind,Sem.run_ite,hp,Result.andThen_ok,eq_words9 f g d w]
 cases eq9 f g<;>rfl
theorem eq_pt(f g:Nat->Nat)(b:Bool)(f' g':Nat->Nat)(b':Bool)(w:World):(Op.equalIn 10000 35 (.agg (valsP f g b)) (.agg (valsP f' g' b'))).run Tryz.prog w= .ok (eq9 f f'&&eq9 g g'&&(b==b')) w:=by
 rw[run_equalIn_struct w 9999 35 _ _ (by kernel_rfl) (by kernel_rfl)]
 have hf:(Tryz.prog.fieldsOf 35).toList=[{name:= "X",type:=25,offset:=0,embedded:=false,tag:= "",pkgPath:= "",byteOffset:=0},{name:= "Y",type:=25,offset:=9,embedded:=false,tag:= "",pkgPath:= "",byteOffset:=72},{name:= "Inf",type:=4,offset:=18,embedded:=false,tag:= "",pkgPath:= "",byteOffset:=144}]:=by kernel_rfl
 have h1:∀f g b,(part 25 (valsP f g b) 0).run Tryz.prog w= .ok (.agg (vals9 f)) w:=fun f g b=>by kernel_rfl
 have h2:∀f g b,(part 25 (valsP f g b) 9).run Tryz.prog w= .ok (.agg (vals9 g)) w:=fun f g b=>by kernel_rfl
 have h3:∀f g b,(part 4 (valsP f g b) 18).run Tryz.prog w= .ok (.bool b) w:=fun f g b=>by kernel_rfl
 rw[hf]
 simp only[Op.eqFields,Sem.run_bind,Sem.run_ite,h1,h2,h3,Result.andThen_ok,eq_natD _ _ 9996 w,eqIn_bool (d:=9998) (show Tryz.prog.underlying 4=some .bool by kernel_rfl)]
 cases eq9 f f'<;>cases eq9 g g'<;>cases b==b'<;>rfl
theorem en_cmp_pt{P:Program}(hP:P=Tryz.prog){g:G}{o:Oper}{x y:Operand}{yt:TypeId}{N m0:Nat}{ms:List Nat}(hg:GI g m0 ms N)(hd':dstLt N o.dst=true){F:Nat->Option SV}{M:Nat->Option Blk}{f h f' h':Nat->Nat}{b b' r:Bool}
 (ho:o.op= .binOp .eql 35 x y yt) (hr:r=(eq9 f f'&&eq9 h h'&&(b==b')))
 (hx:ev F x=some (.agg (ptS f h b))) (hy:ev F y=some (.agg (ptS f' h' b'))):EN g P o F M (.bool r) []:=by
 subst hP
 refine en_out hg hd' fun β p F' L' act W hF hM hm hf=> ?_
 have E:∀z∈o.op.operands.toList,ev F' z=ev F z:=fun z hz=>ev_congr fun t ht=>hF t (tmpsL_mem hz ht)
 have h4:Tryz.prog.eqGuardType Tryz.prog.depth 35=false:=by kernel_rfl
 rw[ho]at E
 obtain⟨e1,_⟩:=evd hf ((E x (by simp[Op.operands])).trans hx)
 obtain⟨e2,_⟩:=evd hf ((E y (by simp[Op.operands])).trans hy)
 refine⟨?_,trivial⟩
 have h1:act.eval x= .agg (valsP f h b):=e1
 have h2:act.eval y= .agg (valsP f' h' b'):=e2
 have h3:∀xs ys,(eqGuard .eql 35 x y (.agg xs) (.agg ys)).run Tryz.prog W= .ok () W:=fun xs ys=>run_eqGuard_agg W .eql 35 x y xs ys h4
 unfold execOp
 simp only[ho,h1,h2,Sem.run_bind,h3,Result.andThen_ok,run_eql_struct,eq_pt,Sem.run_pure,den,hr]
theorem awD_eq:(⟨2,awD.k,awD.v,1⟩:Sh.Dr)=awD:=by
 have h1:awD.id=2:=Sh.upd_id _ _
 have h2:awD.n=1:=Sh.upd_n _ _
 generalize awD=D at h1 h2
 cases D
 simp only at h1 h2
 subst h1 h2
 rfl
theorem awOk:Sh.Ok awD:=Sh.Ok.new (by decide) _
theorem cAwake{P:Program}(hP:P=Tryz.prog):Con P 15 [] [] 0 [] (fun v _ _=>v= .bool true):=by
 have hid:awD.id=2:=Sh.upd_id _ _
 obtain⟨k0,hk0⟩:∃b,bl b=awD.k:=⟨mkB awD.k,bmk awOk.kb⟩
 obtain⟨v0,hv0⟩:∃b,bl b=awD.v:=⟨mkB awD.v,bmk awOk.vb⟩
 have hks:k0.size=Sh.size 2:=by rw[<-bll,hk0,awOk.kl,hid]
 have hvs:v0.size=Sh.size 2:=by rw[<-bll,hv0,awOk.vl,hid]
 have hSe:=cSeeded hP ⟨#[101]⟩ k0 v0 (by decide) hk0 hv0
 obtain⟨d,k',v',wd,vd,_,_,_,_,_,_,hMk⟩:=cMake hP 13 (by decide) 8 1 0 223 (by unfold IsBl;decide) awN.symm (by decide) rfl rfl 2 (by decide) k0 v0 1 hks hvs (by decide) (mkS 1 0 223 64 awD) (by rw[hk0,hv0,awD_eq])
 obtain⟨r1,r2,r3⟩:=awR
 rw[r1]at vd
 rw[r2,r3]at hMk
 obtain⟨nr,hnr⟩:=exq ((mkS 1 0 223 64 awD).2.2.2.n)
 rw[<-hnr]at hMk
 obtain⟨a1,ha1⟩:=exq (sm 1)
 obtain⟨a2,ha2⟩:=exq (sm 2)
 obtain⟨a84,ha84⟩:=exq (sm 84)
 obtain⟨a223,ha223⟩:=exq (sm 223)
 have w1:Wn 9 a1:=by rw[ha1];exact sm_W (by decide)
 have w2:Wn 9 a2:=by rw[ha2];exact sm_W (by decide)
 have w84:Wn 9 a84:=by rw[ha84];exact sm_W (by decide)
 have w223:Wn 9 a223:=by rw[ha223];exact sm_W (by decide)
 have v1:V 9 a1=1:=by rw[ha1];exact sm_V 1
 have v2:V 9 a2=2:=by rw[ha2];exact sm_V 2
 have v84:V 9 a84=84:=by rw[ha84];exact sm_V 84
 have v223:V 9 a223=223:=by rw[ha223];exact sm_V 223
 have hO1:=cOne hP 1 a1 ha1
 have hO2:=cOne hP 2 a2 ha2
 have hO84:=cOne hP 84 a84 ha84
 have hO223:=cOne hP 223 a223 ha223
 have hCk:=cCheck hP 13 (by decide) a223 w223 2401 (by rw[v223,awN];rfl)
 have hPt:PtW 13 (EC.smul EC.finv (EC.ca 13) (V 9 a1) (EC.G 13)) a2 a84 false:=by
  rw[v1,show EC.smul EC.finv (EC.ca 13) 1 (EC.G 13)=EC.G 13 from rfl]
  exact⟨w2,w84,v2.trans awP.1.symm,v84.trans awP.2.1.symm,awP.2.2.symm⟩
 have hPu:=cPublic hP 13 (by decide) a1 w1 (by rw[v1,awN];decide) hPt
 have hMn:=cMakeN hP 13 (by decide)
 have hC0:=cCheck0 hP 0 rfl a1
 have hN:=fun x=>cNum hP x
 have q1:(!eq9 d (fun _=>0))=true:=by
  rw[eq9_V wd (fun _ _=>by show 0<0x10000000000000000;decide),vd];rfl
 have q2:∀f,eq9 f f=true:=fun f=>by simp[eq9]
 clear ha1 ha2 ha84 ha223 hk0 hv0 hnr hPt vd
 refine cof hP Tryz.func15 (bdb _ rfl) (bkb rfl) ?_
 intro A g K hA hg hK
 obtain⟨_,_,cmp,_,_,_,_,_,bnot⟩:=A
 have e1:bnot true=false:=bnot_of hA true
 cbv
 refine cgn rfl hg rfl rfl hSe _root_.id rfl trivial rfl rfl rfl ?_
 rintro _ _ _ ⟨rfl,rfl,rfl⟩ _
 refine⟨rfl,?_⟩
 cbv
 rw[e1]
 cbv
 refine cgn rfl hg rfl rfl hMk (fun _=>0) rfl ⟨rfl,trivial⟩ rfl rfl rfl ?_
 rintro _ _ _ ⟨rfl,rfl,rfl⟩ _
 refine⟨rfl,?_⟩
 cbv
 refine cva rfl hg rfl rfl hO223 ?_
 rintro _ _ _ rfl
 refine⟨by simp[bd,bdL,ws,lst],?_⟩
 cbv
 refine cva rfl hg rfl rfl hCk ?_
 rintro _ _ _ rfl
 refine⟨trivial,?_⟩
 cbv
 refine cva rfl hg rfl rfl hO1 ?_
 rintro _ _ _ rfl
 refine⟨by simp[bd,bdL,ws,lst],?_⟩
 cbv
 refine cva rfl hg rfl rfl hPu ?_
 rintro _ _ _ rfl
 refine⟨by simp[bd,bdL,ptS,ws,lst],?_⟩
 cbv
 refine cva rfl hg rfl rfl hMn ?_
 rintro _ _ _ rfl
 refine⟨by simp[bd,bdL,ws,lst],?_⟩
 cbv
 refine cva rfl hg rfl rfl hO1 ?_
 rintro _ _ _ rfl
 refine⟨by simp[bd,bdL,ws,lst],?_⟩
 cbv
 refine cva rfl hg rfl rfl hC0 ?_
 rintro _ _ _ rfl
 refine⟨trivial,?_⟩
 have t0:cmp .eql 0 0=true:=eql_t hA (a:=0) (b:=0) rfl
 have t1:cmp .eql 1 1=true:=eql_t hA (a:=1) (b:=1) rfl
 have t2:cmp .eql 2401 2401=true:=eql_t hA (a:=2401) (b:=2401) rfl
 have t3:cmp .eql 2400 2400=true:=eql_t hA (a:=2400) (b:=2400) rfl
 have t4:cmp .geq (.ofNat 1) 1=true:=geq_t hA (a:=1) (b:=1) (by decide)
 have t5:cmp .eql (.ofNat 0) 0=true:=t0
 have t6:cmp .eql (.ofNat 1) 1=true:=t1
 cbv
 refine reg_A (hP▸tblOk) hA hg (hP▸mixed) rfl rfl ?_
 cbv
 refine sdv hg (hN 0) ?_
 cbv
 rw[t0]
 cbv
 rw[t4]
 cbv
 refine stepD (en_cmp_nat hP hg rfl (a:=d) (b:=fun _=>0) (r:=true) (Or.inl ⟨rfl,q1.symm⟩) rfl rfl) ?_
 cbv
 refine sdv hg (hN 2401) ?_
 cbv
 rw[t2]
 cbv
 refine stepD (en_val rfl hg rfl rfl hO2 (fun _ _ _ h=>h) (by simp[bd,bdL,ws,lst])) ?_
 cbv
 refine stepD (en_val rfl hg rfl rfl hO84 (fun _ _ _ h=>h) (by simp[bd,bdL,ws,lst])) ?_
 cbv
 refine stepD (en_cmp_pt hP hg rfl (f:=a2) (h:=a84) (b:=false) (f':=a2) (h':=a84) (b':=false) (r:=true) rfl (by rw[q2,q2];rfl) rfl rfl) ?_
 cbv
 refine sdv hg (hN 0) ?_
 cbv
 rw[t0]
 cbv
 refine sdv hg (hN 1) ?_
 cbv
 rw[t1]
 cbv
 refine sdv hg (hN 2400) ?_
 cbv
 rw[t3]
 cbv
 exact hK _ _ _ rfl
structure GN(k x y:Nat):Prop where
 gx:ptx (EC.G k)=x
 gy:pty (EC.G k)=y
 gi:ptinf (EC.G k)=false
 nx:ptx (EC.neg (EC.G k))=x
 ny:pty (EC.neg (EC.G k))=EC.cp k-y
 ni:ptinf (EC.neg (EC.G k))=false
 y0:0<y
 yl:y<EC.cp k
 xl:x<EC.cp k
theorem gn(k:Nat):GN k (EC.cxN k) (EC.cyN k):=by
 have hs:=EC.small k
 simp only[Bool.and_eq_true,decide_eq_true_eq]at hs
 have hx:=hs.1.1.1.1.2
 have hy:=hs.1.1.1.2
 have e2:pty (EC.G k)=EC.cyN k:=EC.val_nf _ hy
 have hy0:(EC.nf (EC.cyN k):Fin (EC.cp k))≠0:=EC.Ok.y0 (EC.okc k) (EC.G_on k)
 have hyp:0<EC.cyN k:=by
  refine Nat.pos_of_ne_zero fun h=>hy0 ?_
  rw[h]
  exact Fin.ext (EC.val_nf 0 (pos_cp k)|>.trans EC.val_zero.symm)
 refine⟨EC.val_nf _ hx,e2,rfl,EC.val_nf _ hx,?_,rfl,hyp,hy,hx⟩
 show(-(EC.nf (EC.cyN k):Fin (EC.cp k))).val=_
 rw[Fin.val_neg,EC.val_nf _ hy]
 rw[if_neg hy0]
theorem ft6{ρ:Nat->Nat}{M:Nat->Option Blk}{l0 l1 l2 l3 l4 l5:Nat}{C0 C1 C2 C3 C4 C5:List SV}{t:TypeId}(b0:bdLB 0 C0=true)(b1:bdLB 0 C1=true)(b2:bdLB 0 C2=true)(b3:bdLB 0 C3=true)(b4:bdLB 0 C4=true)(b5:bdLB 0 C5=true)
 (h0:M (ρ l0)=some ⟨ρ l0,C0,t⟩) (h1:M (ρ l1)=some ⟨ρ l1,C1,t⟩) (h2:M (ρ l2)=some ⟨ρ l2,C2,t⟩) (h3:M (ρ l3)=some ⟨ρ l3,C3,t⟩) (h4:M (ρ l4)=some ⟨ρ l4,C4,t⟩) (h5:M (ρ l5)=some ⟨ρ l5,C5,t⟩):foot ρ M [⟨l0,C0,t⟩,⟨l1,C1,t⟩,⟨l2,C2,t⟩,⟨l3,C3,t⟩,⟨l4,C4,t⟩,⟨l5,C5,t⟩]:=
 ⟨by rw[rcl _ b0];exact h0,by rw[rcl _ b1];exact h1,by rw[rcl _ b2];exact h2,by rw[rcl _ b3];exact h3,by rw[rcl _ b4];exact h4,by rw[rcl _ b5];exact h5,trivial⟩
section
variable {P:Program}(hP:P=Tryz.prog){H:Nat->Nat->List SV}{S:Nat->Nat}(hs:HS H S)
include hP hs
theorem mGood(k nP nA nB nX nY cP cA cB cX cY:Nat)(r0 r1 r2 r4 r5:List SV)(b0:∀m,bdLB m r0=true)(b1:∀m,bdLB m r1=true)(b2:∀m,bdLB m r2=true)(b4:∀m,bdLB m r4=true)(b5:∀m,bdLB m r5=true){n nc d dc:Nat}(hn:n<4294967296^nc)(hd:d<4294967296^dc)(hd40:d<4294967296^40)(r:Bool)(hr:r=(decide (d≠0)&&decide (d<n))):
 Con P 16 [.agg (cvS k (.slice 0 0 nP cP) (.slice 1 0 nA cA) (.slice 2 0 nB cB) (.slice 3 0 (S n) nc) (.slice 4 0 nX cX) (.slice 5 0 nY cY)),.slice 6 0 (S d) dc]
 [⟨0,r0,58⟩,⟨1,r1,58⟩,⟨2,r2,58⟩,⟨3,H n nc,58⟩,⟨4,r4,58⟩,⟨5,r5,58⟩,⟨6,H d dc,58⟩] 7 [] (fun w _ _=>w= .bool r):=by
 obtain⟨q,q1,q2,q3⟩:=cmp_ex d n
 have hC:=mCmp hP hs hd hn hd40 q q1 q2 q3
 have hz:=(hs.nm hd).zero
 have hS40:=hs.le hd40
 have b3:∀m,bdLB m (H n nc)=true:=fun m=>hs.b m n nc
 have b6:∀m,bdLB m (H d dc)=true:=fun m=>hs.b m d dc
 refine cof hP Tryz.func16 ⟨⟨trivial,blq rfl,blq rfl,blq rfl,blq rfl,blq rfl,blq rfl,trivial⟩,blq rfl,trivial⟩ (by simpa [bdL,bd]using⟨bdb _ (b0 7),bdb _ (b1 7),bdb _ (b2 7),bdb _ (b3 7),bdb _ (b4 7),bdb _ (b5 7),bdb _ (b6 7)⟩) ?_
 intro A g K hA hg hK
 obtain⟨_,_,cmp,_,_,_,_,_,_,_,_,_,_,_,nat⟩:=A
 have e0:nat (S d)=Int.ofNat (S d):=nat_of hA _
 by_cases h0:d=0
 ·have e1:cmp .gtr (.ofNat (S d)) 0=false:=gtr_f hA (a:=S d) (b:=0) (by rw[hz.2 h0];decide)
  have hr0:r=false:=by rw[hr,h0];rfl
  subst hr0
  cbv
  rw[e0]
  cbv
  rw[e1]
  cbv
  exact hK _ _ _ rfl
 ·have e1:cmp .gtr (.ofNat (S d)) 0=true:=gtr_t hA (a:=S d) (b:=0) (Nat.pos_of_ne_zero fun h=>h0 (hz.1 h))
  have hr0:r=cmp .lss q 0:=by
   rw[hr,decide_eq_true h0,Bool.true_and]
   by_cases hl:d<n
   ·rw[decide_eq_true hl];exact(cmp_lss_t hA q1 q2 q3 hl).symm
   ·rw[decide_eq_false hl];exact(cmp_lss_f hA q1 q2 q3 (by omega)).symm
  cbv
  rw[e0]
  cbv
  rw[e1]
  cbv
  refine cro rfl hg rfl rfl hC (fun l=>if l=0 then 6 else 3) rfl (ftM2 (b6 0) (b3 0) rfl rfl) ?_
  rintro _ _ _ rfl
  refine⟨trivial,trivial,?_⟩
  cbv
  rw[<-hr0]
  exact hK _ _ _ rfl
end
end Go.Proofs.YtdhmihfefgcbeaaGreat
namespace EC
open Pr
theorem smul_cong(id:Nat){m m':Nat}(h:m%cn id=m'%cn id):smul finv (ca id) m (G id)=smul finv (ca id) m' (G id):=by
 rw[<-smul_mod (okc id) (G_on id) (nG id) m,h,smul_mod (okc id) (G_on id) (nG id)]
theorem smul_ne_O(id:Nat){f:Nat}(h0:0<f)(h1:f<cn id):smul finv (ca id) f (G id)≠ .O:=by
 intro h
 have hp:=prime_cn id
 have hnd:¬cn id∣f:=fun hd=>absurd (Nat.le_of_dvd h0 hd) (by omega)
 have h2:f^(cn id-1)%cn id=1:=flt1 hp hnd
 have hp2:=hp.1
 rw[show cn id-1=(cn id-2)+1 by omega,Nat.pow_succ,Nat.mul_comm]at h2
 have h4:smul finv (ca id) (f*f^(cn id-2)) (G id)= .O:=by rw[smul_mul (okc id) (G_on id),h,smul_O]
 rw[smul_cong id (m':=1) (by rw[h2,Nat.mod_eq_of_lt (show 1<cn id by omega)])]at h4
 have h5:smul finv (ca id) 1 (G id)=G id:=rfl
 rw[h5]at h4
 cases h4
end EC
namespace Go.Proofs.YtdhmihfefgcbeaaGreat
open Go.Vg Go.RowKit
set_option maxRecDepth 200000
set_option cbv.maxSteps 100000000
def cvN(x:Int):Nat:=if 1<=x/\x<=15 then x.toNat else 0
theorem cvN_cases(x:Int):(cvN x=0/\∀k:Nat,1<=k->k<=15->x≠Int.ofNat k)\/(1<=cvN x/\cvN x<=15/\x=Int.ofNat (cvN x)):=by
 unfold cvN
 by_cases h:1<=x/\x<=15
 ·right
  rw[if_pos h]
  refine⟨by omega,by omega,?_⟩
  show x=((x.toNat:Nat):Int)
  omega
 ·left
  rw[if_neg h]
  refine⟨rfl,fun k h1 h2 e=>h ?_⟩
  have:x=(k:Int):=e
  omega
end Go.Proofs.YtdhmihfefgcbeaaGreat
