/-
  This text proves what these texts prove: Qg. Conditions: those of each theorem.
-/
import Derived.Test.YtdhmihfefgcbeaaGreatX28
set_option maxHeartbeats 8000000
set_option linter.all false
namespace EC
theorem cp_ne2{c:Nat}(h:1<=c/\c<=15):cp c≠2:=by
 have h0:((List.range 16).all fun k=>k==0||decide (cp k≠2))=true:=by decide +kernel
 have h1:=List.all_eq_true.1 h0 c (List.mem_range.2 (by omega))
 rw[show(c==0)=false by simp;omega,Bool.false_or]at h1
 exact of_decide_eq_true h1
end EC
namespace Go.Proofs.YtdhmihfefgcbeaaGreat
open Go.Vg Go.RowKit
set_option maxRecDepth 200000
set_option cbv.maxSteps 100000000
theorem step_cmp_pt{P:Program}(hP:P=Tryz.prog){g:G}{F:FF}{L:LL}{n:Nat}{o:Oper}{x y:Operand}{yt:TypeId}(ho:o.op= .binOp .eql 35 x y yt){m0 N:Nat}{ms:List Nat}(hg:GI g m0 ms N)(hd':dstLt N o.dst=true){f h f' h':Nat->Nat}{b b' r:Bool}(hr:r=(eq9 f f'&&eq9 h h'&&(b==b')))
 (hx:ev (Vg.look F) x=some (.agg (ptS f h b))) (hy:ev (Vg.look F) y=some (.agg (ptS f' h' b'))) {K:FF->LL->Nat->Prop} (hK:K (putO F o.dst (.bool r)) L n):Step g P o K F L n:=by
 subst hP hr
 refine step_val hg hd' (fun β act W hm hf=> ?_) hK
 obtain⟨e1,_⟩:=evd hf hx
 obtain⟨e2,_⟩:=evd hf hy
 refine⟨?_,trivial⟩
 have h4:Tryz.prog.eqGuardType Tryz.prog.depth 35=false:=by kernel_rfl
 have h1:act.eval x= .agg (valsP f h b):=e1
 have h2:act.eval y= .agg (valsP f' h' b'):=e2
 have h3:∀xs ys,(eqGuard .eql 35 x y (.agg xs) (.agg ys)).run Tryz.prog W= .ok () W:=fun xs ys=>run_eqGuard_agg W .eql 35 x y xs ys h4
 unfold execOp
 simp only[ho,h1,h2,Sem.run_bind,h3,Result.andThen_ok,run_eql_struct,eq_pt,Sem.run_pure,den]
theorem cKeys{P:Program}(hP:P=Tryz.prog)(i:Int)(a:Nat->Nat)(ha:Wn 9 a):Con P 3 [.int .i64 i,.agg (ws a 9)] [] 0 [] (fun v _ _=>v= .bool true):=by
 obtain⟨H,hH⟩:=exq (fun x c=>hs (dg x) c:Nat->Nat->List SV)
 obtain⟨S,hS⟩:=exq (Vg.sz:Nat->Nat)
 have hs':HS H S:=⟨hH,hS⟩
 clear hH hS
 have hAw:=cAwake hP
 have hN:=fun x=>cNum hP x
 obtain⟨x,hx⟩:=exq (V 9 a)
 obtain⟨hx18,hFrom⟩:=mFrom hP hs' a ha x hx.symm
 have hx40:x<4294967296^40:=pow40 hP hs' hx18
 have vF:∀m,bdLB m (H x 18)=true:=fun m=>hs'.b m x 18
 have q2:∀f,eq9 f f=true:=fun f=>by simp[eq9]
 rcases cvN_cases i with⟨_,hno⟩|⟨hc1,hc2,hie⟩
 ·have hGet:=mGet0 hP hs' i hno
  have hx0:=primeB_none i hno
  have hCk:=cCheck0 hP i hx0 a
  have hPu:=cPublic0 hP i hx0 a
  refine cof hP Tryz.func3 (bdb _ rfl) (bkb rfl) ?_
  intro A g K hA hg hK
  obtain⟨_,_,cmp,_,_,_,_,_,bnot⟩:=A
  have e1:bnot false=true:=bnot_of hA false
  have t1:cmp .eql 2400 2400=true:=eql_t hA (a:=2400) (b:=2400) rfl
  cbv
  refine cva rfl hg rfl rfl hGet ?_
  rintro _ _ _ rfl
  refine⟨by simp[bd,bdL],?_⟩
  cbv
  refine cva rfl hg rfl rfl hCk ?_
  rintro _ _ _ rfl
  refine⟨trivial,?_⟩
  cbv
  refine cva rfl hg rfl rfl hPu ?_
  rintro _ _ _ rfl
  refine⟨by simp[bd,bdL,ptS,ws,lst],?_⟩
  cbv
  refine cgn rfl hg rfl rfl hFrom _root_.id rfl trivial rfl rfl rfl ?_
  rintro _ _ _ ⟨rfl,rfl,rfl⟩ _
  refine⟨rfl,?_⟩
  simp only[renB,rcl (H x 18) (vF 0)]
  cbv
  rw[e1]
  cbv
  refine cva rfl hg rfl rfl (hN 2400) ?_
  rintro _ _ _ rfl
  refine⟨trivial,?_⟩
  cbv
  rw[t1]
  cbv
  refine cva rfl hg rfl rfl (hN 2400) ?_
  rintro _ _ _ rfl
  refine⟨trivial,?_⟩
  cbv
  rw[t1]
  cbv
  refine step_cmp_pt hP rfl hg rfl (f:=fun _=>0) (h:=fun _=>0) (f':=fun _=>0) (h':=fun _=>0) (b:=false) (b':=false) (r:=true) (by rw[q2];rfl) rfl rfl ?_
  cbv
  refine cva rfl hg rfl rfl hAw ?_
  rintro _ _ _ rfl
  refine⟨trivial,?_⟩
  cbv
  exact hK _ _ _ rfl
 ·obtain⟨c,hc⟩:=exq (cvN i)
  rw[<-hc]at hc1 hc2 hie
  subst hie
  clear hc
  obtain⟨sp,sa,sb,sn,sx,sy⟩:=same_nums ⟨hc1,hc2⟩
  obtain⟨p,hp⟩:=exq (primeN c)
  obtain⟨va,hva⟩:=exq (curA c)
  obtain⟨vb,hvb⟩:=exq (rowB c)
  obtain⟨n,hn⟩:=exq (rowN c)
  obtain⟨gx,hgx⟩:=exq (rowX c)
  obtain⟨gy,hgy⟩:=exq (rowY c)
  obtain⟨pc,ac,bc,nc,xc,yc,bp,ba,bb,bn,bx,by',hGet⟩:=mGet hP hs' c ⟨hc1,hc2⟩ p va vb n gx gy hp hva hvb hn hgx hgy
  rw[<-hp]at sp
  rw[<-hva]at sa
  rw[<-hn]at sn
  rw[<-hgx]at sx
  rw[<-hgy]at sy
  have vN:∀m,bdLB m (H n nc)=true:=fun m=>hs'.b m n nc
  have vP:∀m,bdLB m (H p pc)=true:=fun m=>hs'.b m p pc
  have vA:∀m,bdLB m (H va ac)=true:=fun m=>hs'.b m va ac
  have vB:∀m,bdLB m (H vb bc)=true:=fun m=>hs'.b m vb bc
  have vX:∀m,bdLB m (H gx xc)=true:=fun m=>hs'.b m gx xc
  have vY:∀m,bdLB m (H gy yc)=true:=fun m=>hs'.b m gy yc
  clear hp hva hvb hn hgx hgy
  obtain⟨r,hr⟩:=exq ((decide (x≠0)&&decide (x<n)):Bool)
  have hGood:=mGood hP hs' c (S p) (S va) (S vb) (S gx) (S gy) pc ac bc xc yc (H p pc) (H va ac) (H vb bc) (H gx xc) (H gy yc) vP vA vB vX vY bn hx18 hx40 r hr
  by_cases hgd:x≠0/\x<n
  ·have hrt:r=true:=by rw[hr,decide_eq_true hgd.1,decide_eq_true hgd.2];rfl
   subst hrt
   have hnc:n=EC.cn c:=sn.symm
   have hpc:p=EC.cp c:=sp.symm
   have GNc:=gn c
   rw[sx,sy]at GNc
   obtain⟨W,hW⟩:=exq (EC.smul EC.finv (EC.ca c) x (EC.G c))
   have hWO:W≠ .O:=by rw[hW];exact EC.smul_ne_O c (by omega) (by rw[<-hnc];exact hgd.2)
   obtain⟨X1,wX1,vX1⟩:=exV 9 (ptx W) (Nat.lt_trans (ptx_lt W) (cp_small ⟨hc1,hc2⟩))
   obtain⟨Y1,wY1,vY1⟩:=exV 9 (pty W) (Nat.lt_trans (pty_lt W) (cp_small ⟨hc1,hc2⟩))
   have hinf:false=ptinf W:=by
    cases W with
    |O=>exact absurd rfl hWO
    |A _ _=>rfl
   have hCk:=cCheck hP c ⟨hc1,hc2⟩ a ha 0 (if_pos (by rw[<-hx,<-hnc];exact hgd)).symm
   have hPu:=cPublic hP c ⟨hc1,hc2⟩ a ha (by rw[<-hx,<-hnc];exact hgd) (x:=X1) (y:=Y1) (inf:=false) (by rw[<-hx,<-hW];exact⟨wX1,wY1,vX1,vY1,hinf⟩)
   have hp18:EC.cp c<4294967296^18:=Nat.lt_of_lt_of_le (cp_small ⟨hc1,hc2⟩) (by decide)
   have hsm:=EC.small c
   simp only[Bool.and_eq_true,decide_eq_true_eq]at hsm
   have hT:=mTimes hP hs' (p:=EC.cp c) (pc:=pc) (EC.prime_cp c) (by rw[<-hpc];exact bp) hp18 c (S vb) (S n) (S gx) (S gy) bc nc xc yc (H vb bc) (H n nc) (H gx xc) (H gy yc) vB vN vX vY (EC.cp_ne2 ⟨hc1,hc2⟩) (EC.ca c) (EC.cb c) (EC.nf (EC.cxN c)) (EC.nf (EC.cyN c)) (EC.okc c) (EC.G_on c) (a:=va) (by rw[<-sa];exact(EC.val_nf _ hsm.1.1.1.1.1.1).symm) GNc.gx.symm GNc.gy.symm ba hx18 hx40 bx by' W hW
   rw[show S (EC.cp c)=S p from by rw[hpc],show H (EC.cp c) pc=H p pc from by rw[hpc]]at hT
   have hGG:=mG hP hs' c (S p) (S va) (S vb) (S n) (S gx) (S gy) pc ac bc nc xc yc (H p pc) (H va ac) (H vb bc) (H n nc) (H gx xc) (H gy yc) vP vA vB vN vX vY
   refine cof hP Tryz.func3 (bdb _ rfl) (bkb rfl) ?_
   intro A g K hA hg hK
   obtain⟨_,_,cmp,_,_,_,_,_,bnot⟩:=A
   have e1:bnot true=false:=bnot_of hA true
   have t0:cmp .eql 0 0=true:=eql_t hA (a:=0) (b:=0) rfl
   cbv
   refine cgn rfl hg rfl rfl hGet _root_.id rfl trivial rfl rfl rfl ?_
   rintro _ _ _ ⟨rfl,rfl,rfl⟩ _
   refine⟨rfl,?_⟩
   simp only[renB,rcl _ (vP 0),rcl _ (vA 0),rcl _ (vB 0),rcl _ (vN 0),rcl _ (vX 0),rcl _ (vY 0)]
   cbv
   refine cva rfl hg rfl rfl hCk ?_
   rintro _ _ _ rfl
   refine⟨trivial,?_⟩
   cbv
   refine cva rfl hg rfl rfl hPu ?_
   rintro _ _ _ rfl
   refine⟨by simp[bd,bdL,ptS,ws,lst],?_⟩
   cbv
   refine cgn rfl hg rfl rfl hFrom _root_.id rfl trivial rfl rfl rfl ?_
   rintro _ _ _ ⟨rfl,rfl,rfl⟩ _
   refine⟨rfl,?_⟩
   simp only[renB,rcl (H x 18) (vF 0)]
   cbv
   rw[e1]
   cbv
   refine cro rfl hg rfl rfl hGood (fun l=>if l=6 then 9 else l+1) rfl ⟨by rw[rcl _ (vP 0)];rfl,by rw[rcl _ (vA 0)];rfl,by rw[rcl _ (vB 0)];rfl,by rw[rcl _ (vN 0)];rfl,by rw[rcl _ (vX 0)];rfl,by rw[rcl _ (vY 0)];rfl,by rw[rcl _ (vF 0)];rfl,trivial⟩ ?_
   rintro _ _ _ rfl
   refine⟨trivial,trivial,?_⟩
   cbv
   rw[e1]
   cbv
   refine reg_cA (hP▸tblOk) hA hg (hP▸mixed) rfl rfl [(14,[9])] rfl ?_
   cbv
   refine sdv hg (hN 0) ?_
   cbv
   rw[t0]
   cbv
   refine sdv hg (hN 0) ?_
   cbv
   rw[t0]
   cbv
   refine stepD (en_ro rfl hg rfl rfl hGG (fun l=>l+1) rfl (ft6 (vP 0) (vA 0) (vB 0) (vN 0) (vX 0) (vY 0) rfl rfl rfl rfl rfl rfl) rfl (fun _ _ _ h=>h) ⟨blq rfl,blq rfl,trivial,trivial⟩) ?_
   cbv
   refine cgn rfl hg rfl rfl hT (fun l=>if l<6 then l+1 else if l=6 then 9 else if l=7 then 5 else 6) rfl ⟨by rw[rcl _ (vP 0)];rfl,by rw[rcl _ (vA 0)];rfl,by rw[rcl _ (vB 0)];rfl,by rw[rcl _ (vN 0)];rfl,by rw[rcl _ (vX 0)];rfl,by rw[rcl _ (vY 0)];rfl,by rw[rcl _ (vF 0)];rfl,by rw[rcl _ (vX 0)];rfl,by rw[rcl _ (vY 0)];rfl,trivial⟩ rfl rfl rfl ?_
   rintro _ _ _ (⟨h1,_⟩|⟨h1,rfl,rfl,rfl⟩|⟨U,U',x3,y3,c3,e3,h1,h2,h3,h4,h5,rfl,rfl,rfl⟩) _
   ·exact absurd h1 hWO
   ·have hOut:=mOut hP hs' (x:=gx) (c:=xc) (y:=gy) (e:=yc) bx by' X1 Y1 wX1 wY1 (by rw[vX1,h1];exact GNc.gx) (by rw[vY1,h1];exact GNc.gy) false
    refine⟨rfl,?_⟩
    cbv
    refine stepD (enr rfl hg rfl rfl hOut (fun l=>l+5) rfl (ftM2 (vX 0) (vY 0) rfl rfl) (fun _ _ _ h=>h) (by simp[bd,bdL,ptS,ws,lst])) ?_
    cbv
    refine stepD (en_cmp_pt hP hg rfl (f:=X1) (h:=Y1) (b:=false) (f':=X1) (h':=Y1) (b':=false) (r:=true) rfl (by rw[q2,q2];rfl) rfl rfl) ?_
    cbv
    refine sdv hg hAw ?_
    cbv
    exact hK _ _ _ rfl
   ·have hOut:=mOut hP hs' (x:=x3) (c:=c3) (y:=y3) (e:=e3) h4 h5 X1 Y1 wX1 wY1 (by rw[vX1,h1,h2];rfl) (by rw[vY1,h1,h3];rfl) false
    have w3:∀m,bdLB m (H x3 c3)=true:=fun m=>hs'.b m x3 c3
    have w4:∀m,bdLB m (H y3 e3)=true:=fun m=>hs'.b m y3 e3
    refine⟨rfl,?_⟩
    simp only[renB,rcl _ (w3 0),rcl _ (w4 0)]
    cbv
    refine stepD (enr rfl hg rfl rfl hOut (fun l=>l+10) rfl (ftM2 (w3 0) (w4 0) rfl rfl) (fun _ _ _ h=>h) (by simp[bd,bdL,ptS,ws,lst])) ?_
    cbv
    refine stepD (en_cmp_pt hP hg rfl (f:=X1) (h:=Y1) (b:=false) (f':=X1) (h':=Y1) (b':=false) (r:=true) rfl (by rw[q2,q2];rfl) rfl rfl) ?_
    cbv
    refine sdv hg hAw ?_
    cbv
    exact hK _ _ _ rfl
  ·have hrt:r=false:=by
    rw[hr]
    by_cases h:x≠0
    ·rw[decide_eq_false (fun h2=>hgd ⟨h,h2⟩),Bool.and_false]
    ·rw[decide_eq_false h,Bool.false_and]
   subst hrt
   have hCk:=cCheck hP c ⟨hc1,hc2⟩ a ha 2401 (if_neg (by rw[<-hx,sn];exact hgd)).symm
   have hPu:=cPublicR hP c ⟨hc1,hc2⟩ a ha (by rw[<-hx,sn];exact hgd)
   refine cof hP Tryz.func3 (bdb _ rfl) (bkb rfl) ?_
   intro A g K hA hg hK
   obtain⟨_,_,cmp,_,_,_,_,_,bnot⟩:=A
   have e1:bnot true=false:=bnot_of hA true
   have e2:bnot false=true:=bnot_of hA false
   have t1:cmp .eql 2401 2401=true:=eql_t hA (a:=2401) (b:=2401) rfl
   cbv
   refine cgn rfl hg rfl rfl hGet _root_.id rfl trivial rfl rfl rfl ?_
   rintro _ _ _ ⟨rfl,rfl,rfl⟩ _
   refine⟨rfl,?_⟩
   simp only[renB,rcl _ (vP 0),rcl _ (vA 0),rcl _ (vB 0),rcl _ (vN 0),rcl _ (vX 0),rcl _ (vY 0)]
   cbv
   refine cva rfl hg rfl rfl hCk ?_
   rintro _ _ _ rfl
   refine⟨trivial,?_⟩
   cbv
   refine cva rfl hg rfl rfl hPu ?_
   rintro _ _ _ rfl
   refine⟨by simp[bd,bdL,ptS,ws,lst],?_⟩
   cbv
   refine cgn rfl hg rfl rfl hFrom _root_.id rfl trivial rfl rfl rfl ?_
   rintro _ _ _ ⟨rfl,rfl,rfl⟩ _
   refine⟨rfl,?_⟩
   simp only[renB,rcl (H x 18) (vF 0)]
   cbv
   rw[e1]
   cbv
   refine cro rfl hg rfl rfl hGood (fun l=>if l=6 then 9 else l+1) rfl ⟨by rw[rcl _ (vP 0)];rfl,by rw[rcl _ (vA 0)];rfl,by rw[rcl _ (vB 0)];rfl,by rw[rcl _ (vN 0)];rfl,by rw[rcl _ (vX 0)];rfl,by rw[rcl _ (vY 0)];rfl,by rw[rcl _ (vF 0)];rfl,trivial⟩ ?_
   rintro _ _ _ rfl
   refine⟨trivial,trivial,?_⟩
   cbv
   rw[e2]
   cbv
   refine cva rfl hg rfl rfl (hN 2401) ?_
   rintro _ _ _ rfl
   refine⟨trivial,?_⟩
   cbv
   rw[t1]
   cbv
   refine cva rfl hg rfl rfl (hN 2401) ?_
   rintro _ _ _ rfl
   refine⟨trivial,?_⟩
   cbv
   rw[t1]
   cbv
   refine step_cmp_pt hP rfl hg rfl (f:=fun _=>0) (h:=fun _=>0) (f':=fun _=>0) (h':=fun _=>0) (b:=false) (b':=false) (r:=true) (by rw[q2];rfl) rfl rfl ?_
   cbv
   refine cva rfl hg rfl rfl hAw ?_
   rintro _ _ _ rfl
   refine⟨trivial,?_⟩
   cbv
   exact hK _ _ _ rfl
end Go.Proofs.YtdhmihfefgcbeaaGreat
