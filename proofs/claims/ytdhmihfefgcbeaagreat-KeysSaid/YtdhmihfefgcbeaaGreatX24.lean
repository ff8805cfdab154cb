/-
  This text proves what these texts prove: Ph, Pi, Pj, Pk. Conditions: those of each theorem.
-/
import Derived.Test.YtdhmihfefgcbeaaGreatX23
set_option maxHeartbeats 8000000
set_option linter.all false
namespace Go.Proofs.YtdhmihfefgcbeaaGreat
open Go.Vg Go.RowKit
set_option maxRecDepth 200000
set_option cbv.maxSteps 100000000
theorem gs_test{d v1 v2 r x x2:Nat}(e:d*v1+r=x)(h:d*v2<=r*4294967296+x2):d*(v1*4294967296+v2)<=x*4294967296+x2:=by
 rw[Nat.mul_add,<-Nat.mul_assoc,<-e,Nat.add_mul];omega
theorem gs_break{d v1 v2 r x x0 x1 x2:Nat}(e:d*v1+r=x)(hx:x=x0*4294967296+x1)(hx1:x1<4294967296)(h0:x0<=v1)(hr:4294967296<=r)(hv:v2<4294967296):d<4294967296/\d*v2<=r*4294967296+x2:=by
 have hd:d<4294967296:=by
  rcases Nat.lt_or_ge d 4294967296 with h|h
  ·exact h
  ·exfalso
   have h1:4294967296*v1<=d*v1:=Nat.mul_le_mul_right _ h
   omega
 refine⟨hd,?_⟩
 have h2:d*v2<=4294967295*4294967295:=Nat.mul_le_mul (by omega) (by omega)
 omega
theorem gs_less{d v1 v2 r x x0 x1 x2 Q:Nat}(e:d*v1+r=x)(hx:x=x0*4294967296+x1)(hQ:Q<4294967296)(hle:Q<=d)(hg:Q*(v1*4294967296+v2)<=x*4294967296+x2)(h:4294967296<=d\/r*4294967296+x2<d*v2):0<d/\Q<=d-1/\(d-1)*v1+(r+v1)=x:=by
 have h0:0<d:=by
  rcases Nat.eq_zero_or_pos d with h1|h1
  ·subst h1;rw[Nat.zero_mul]at h;omega
  ·exact h1
 refine⟨h0,?_,?_⟩
 ·rcases h with h|h
  ·omega
  ·rw[hx]at e hg
   exact Dg.guess3 e hg h hle
 ·obtain⟨t,rfl⟩:∃t,d=t+1:=⟨d-1,by omega⟩
  rw[Nat.add_mul,Nat.one_mul]at e
  rw[Nat.add_sub_cancel];omega
theorem cRStep{P:Program}(hP:P=Tryz.prog){k cv V:Nat}{v:Nat->Nat}(hv:Nm k cv v V)(p:Nat)(hkp:k=p+2)(hk20:k<2^20){U cu:Nat}{u:Nat->Nat}(hU:U<=cu)(hU20:U<2^20)(j:Nat)(hj:j+k<U)(W:Nat)(hWV:W<V*4294967296)
 (hw:∀t,t<=k->u (t+j)=dg W t) (q:Nat) (hq:q=W/V) (u':Nat->Nat) (hu':u'=wn u j (dg (W%V)) (k+1)):
 Con P 81 [.slice 0 0 U cu,.slice 1 0 k cv,.int .i64 (.ofNat j)] [⟨0,hs u cu,58⟩,⟨1,hs v cv,58⟩] 2 [0] (fun w L n=>w= .int .u64 (.ofNat q)/\L=[⟨0,hs u' cu,58⟩]/\n=2):=by
 have hkc:=hv.le
 have hvt:0<v (p+1):=by
  rcases hv.tr with h|h
  ·omega
  ·rw[hkp]at h;exact Nat.pos_of_ne_zero h
 have hG:Gs v p V W:=⟨by rw[<-hkp];exact hv.v,fun a ha=>hv.w a (by omega),hvt,hWV⟩
 have hVk:V<4294967296^k:=hv.lt
 have hWk:W<4294967296^(k+1):=by rw[hkp];exact hG.W_lt
 have hV0:=hG.V0
 have hQB:=hG.QB
 obtain⟨v1,hv1⟩:=exq (v (p+1))
 obtain⟨v2,hv2⟩:=exq (v p)
 obtain⟨x0,hx0⟩:=exq (dg W (p+2))
 obtain⟨x1,hx1⟩:=exq (dg W (p+1))
 obtain⟨x2,hx2⟩:=exq (dg W p)
 obtain⟨x,hx⟩:=exq (x0*4294967296+x1)
 have g1:=hG.g1
 have g2:=hG.g2
 have g3:=hG.top
 have g4:∀d,d<4294967296->d*(v1*4294967296+v2)<=x*4294967296+x2->d*V<=W+V:=fun d h1 h2=>hG.last h1 (by rw[hx,hx0,hx1,hx2,hv1,hv2]at h2;exact h2)
 rw[<-hx0,<-hx1,<-hv1,<-hx]at g1
 rw[<-hx0,<-hx1,<-hx2,<-hv1,<-hv2,<-hx]at g2
 rw[<-hx0,<-hv1]at g3
 have lx0:x0<4294967296:=by rw[hx0];exact dg_lt _ _
 have lx1:x1<4294967296:=by rw[hx1];exact dg_lt _ _
 have lx2:x2<4294967296:=by rw[hx2];exact dg_lt _ _
 have lv1:v1<4294967296:=by rw[hv1];exact hv.w _ (by omega)
 have lv2:v2<4294967296:=by rw[hv2];exact hv.w _ (by omega)
 have pv1:0<v1:=by rw[hv1];exact hvt
 obtain⟨jk,hjk⟩:=exq (j+k)
 obtain⟨jk1,hjk1⟩:=exq (j+k-1)
 obtain⟨jk2,hjk2⟩:=exq (j+k-2)
 obtain⟨p1,hp1⟩:=exq (p+1)
 have u0e:u jk=x0:=by rw[hjk,hx0,<-hkp,Nat.add_comm];exact hw k (Nat.le_refl k)
 have u1e:u jk1=x1:=by rw[hjk1,hx1,show j+k-1=p+1+j by omega];exact hw _ (by omega)
 have u2e:u jk2=x2:=by rw[hjk2,hx2,show j+k-2=p+j by omega];exact hw _ (by omega)
 obtain⟨C,hC⟩:=exq (hs u cu)
 have bC:∀m,bdLB m C=true:=fun m=>by rw[hC];exact hs_bd u cu m
 obtain⟨E,hE⟩:=exq (hs v cv)
 have bE:∀m,bdLB m E=true:=fun m=>by rw[hE];exact hs_bd v cv m
 obtain⟨C',hC'⟩:=exq (hs u' cu)
 have bC':∀m,bdLB m C'=true:=fun m=>by rw[hC'];exact hs_bd u' cu m
 rw[<-hC,<-hE,<-hC']
 suffices raw:Con P 81 [.slice 0 0 U cu,.slice 1 0 k cv,.int .i64 (.ofNat j)] [⟨0,C,58⟩,⟨1,E,58⟩] 2 [0] (fun w L n=>w= .int .u64 (.ofNat q)/\find L 0=some ⟨0,C',58⟩)from
  raw.weak fun w L n ⟨h1,h2⟩=>⟨_root_.id,.int .u64 (.ofNat q),[⟨0,C',58⟩],2,by subst h1;exact weak_id ⟨rfl,rfl,trivial⟩ ⟨h2,rfl,bC' 2,trivial⟩ rfl rfl,rfl,rfl,rfl⟩
 refine cof hP Tryz.func81 ⟨blq rfl,⟨blq rfl,⟨trivial,trivial⟩⟩⟩ (by simpa [bdL,bd]using⟨bdb _ (bC 2),bdb _ (bE 2)⟩) ?_
 intro A g K hA hg hK
 obtain⟨bin,sh,cmp,_,cvt,ix,_,nz,_,_,_,_,_,_,nat,off,get,_,sub,spl⟩:=A
 have e0:nat k=Int.ofNat k:=nat_of hA k
 have a1:bin .add .i64 (.ofNat j) (.ofNat k)=Int.ofNat jk:=(addI hA (a:=j) (b:=k) (by omega)).trans (by rw[hjk])
 have a2:bin .sub .i64 (.ofNat jk) 1=Int.ofNat jk1:=(subI hA (a:=jk) (b:=1) (by omega) (by omega)).trans (by rw[hjk1,hjk])
 have a3:bin .sub .i64 (.ofNat jk) 2=Int.ofNat jk2:=(subI hA (a:=jk) (b:=2) (by omega) (by omega)).trans (by rw[hjk2,hjk])
 have a4:bin .sub .i64 (.ofNat k) 1=Int.ofNat p1:=(subI hA (a:=k) (b:=1) (by omega) (by omega)).trans (congrArg Int.ofNat (by omega))
 have a5:bin .sub .i64 (.ofNat k) 2=Int.ofNat p:=(subI hA (a:=k) (b:=2) (by omega) (by omega)).trans (congrArg Int.ofNat (by omega))
 have e4:∀j,off 0 j 1=j:=fun j=>(off_of hA 0 j 1).trans (by omega)
 have e5:∀i m,i<m->ix (.ofNat i) m=some i:=fun i m h=>ix_of hA h
 have f5:∀i,i<cu->get C i=some (.int .u32 (.ofNat (u i))):=fun i h=>by rw[hC];exact getW hA .u32 u h
 have c0:=f5 jk (by omega)
 have c1:=f5 jk1 (by omega)
 have c2:=f5 jk2 (by omega)
 rw[u0e]at c0
 rw[u1e]at c1
 rw[u2e]at c2
 have w5:∀i,i<k->get E i=some (.int .u32 (.ofNat (v i))):=fun i h=>by rw[hE];exact getW hA .u32 v (by omega)
 have w1:=w5 p1 (by omega)
 have w2:=w5 p (by omega)
 rw[hp1,<-hv1,<-hp1]at w1
 rw[<-hv2]at w2
 have cc:∀a,a<4294967296->cvt .u64 (.ofNat a)=Int.ofNat a:=fun a h=>c64 hA (by omega)
 obtain⟨xs,hxs⟩:=exq (x0*4294967296)
 have b1:sh .shl .u64 (.ofNat x0) 32=Int.ofNat xs:=(shlW hA (k:= .u64) rfl x0 (s:=32) (by decide)).trans (congrArg Int.ofNat (by rw[hxs];show x0*4294967296%0x10000000000000000=_;omega))
 have b2:bin .or .u64 (.ofNat xs) (.ofNat x1)=Int.ofNat x:=(orW hA (k:= .u64) rfl (a:=xs) (b:=x1) (by show xs<0x10000000000000000;omega) (by show x1<0x10000000000000000;omega)).trans (congrArg Int.ofNat (by rw[hx,hxs,show(4294967296:Nat)=2^32 from rfl,or_add (s:=32) lx1]))
 have b3:nz (.ofNat v1)=true:=nz_t hA (by omega)
 obtain⟨d0,hd0⟩:=exq (x/v1)
 obtain⟨r0,hr0⟩:=exq (x%v1)
 have b4:bin .quo .u64 (.ofNat x) (.ofNat v1)=Int.ofNat d0:=(quoW hA (k:= .u64) rfl (a:=x) (by show x<0x10000000000000000;omega) v1).trans (by rw[hd0])
 have b5:bin .rem .u64 (.ofNat x) (.ofNat v1)=Int.ofNat r0:=(remW hA (k:= .u64) x v1).trans (by rw[hr0])
 have hd0e:d0*v1+r0=x:=by rw[hd0,hr0,Nat.mul_comm];exact Nat.div_add_mod x v1
 have hr0l:r0<v1:=by rw[hr0];exact Nat.mod_lt _ pv1
 have hd0Q:W/V<=d0:=by rw[hd0];exact(Nat.le_div_iff_mul_le pv1).2 g1
 have hd0l:d0<=x:=by rw[hd0];exact Nat.div_le_self _ _
 cbv
 rw[e0]
 cbv
 refine rgM hP hA hg fun mk _=> ?_
 cbv
 rw[a1]
 cbv
 rw[e5 jk U (by omega)]
 cbv
 rw[e4,c0]
 cbv
 rw[cc x0 lx0]
 cbv
 rw[b1]
 cbv
 rw[a1]
 cbv
 rw[a2]
 cbv
 rw[e5 jk1 U (by omega)]
 cbv
 rw[e4,c1]
 cbv
 rw[cc x1 lx1]
 cbv
 rw[b2]
 cbv
 refine rgM hP hA hg fun mk _=> ?_
 cbv
 rw[a4]
 cbv
 rw[e5 p1 k (by omega)]
 cbv
 rw[e4,w1]
 cbv
 rw[cc v1 lv1]
 cbv
 rw[b3]
 cbv
 rw[b4]
 cbv
 rw[a4]
 cbv
 rw[e5 p1 k (by omega)]
 cbv
 rw[e4,w1]
 cbv
 rw[cc v1 lv1]
 cbv
 rw[b3]
 cbv
 rw[b5]
 cbv
 refine lpb (Nat×Nat) (fun s=>W/V<=s.1/\s.1*v1+s.2=x/\s.2<4294967296/\s.1<=x) (fun s=>s.1) (fun s=> [(9,.int .u64 (.ofNat s.1)),(10,.int .u64 (.ofNat s.2))]) [0,1,2,6,7] (fun _=> []) (d0,r0) ⟨hd0Q,hd0e,by show r0<_;omega,hd0l⟩ ?_ ?_
 ·exact wkih (by repeat' (first|exact trivial|refine⟨rfl,rfl,rfl,?_⟩|refine⟨rfl,rfl,bC 2,?_⟩|refine⟨rfl,rfl,bE 2,?_⟩))
 rintro⟨d,r⟩ ⟨hdQ,hde,hrl,hdx⟩
 change W/V<=d at hdQ
 change d*v1+r=x at hde
 change r<4294967296 at hrl
 change d<=x at hdx
 have hxl:x<0x10000000000000000:=by omega
 obtain⟨rs,hrs⟩:=exq (r*4294967296)
 obtain⟨rx,hrx⟩:=exq (rs+x2)
 obtain⟨dm,hdm⟩:=exq (d*v2)
 have t1:sh .shl .u64 (.ofNat r) 32=Int.ofNat rs:=(shlW hA (k:= .u64) rfl r (s:=32) (by decide)).trans (congrArg Int.ofNat (by rw[hrs];show r*4294967296%0x10000000000000000=_;omega))
 have t2:bin .or .u64 (.ofNat rs) (.ofNat x2)=Int.ofNat rx:=(orW hA (k:= .u64) rfl (a:=rs) (b:=x2) (by show rs<0x10000000000000000;omega) (by show x2<0x10000000000000000;omega)).trans (congrArg Int.ofNat (by rw[hrx,hrs,show(4294967296:Nat)=2^32 from rfl,or_add (s:=32) lx2]))
 have t3:d<4294967296->bin .mul .u64 (.ofNat d) (.ofNat v2)=Int.ofNat dm:=fun h=>(mulW hA (k:= .u64) rfl d v2).trans (congrArg Int.ofNat (by
  have:d*v2<=4294967295*4294967295:=Nat.mul_le_mul (by omega) (by omega)
  rw[hdm];exact Nat.mod_eq_of_lt (by show d*v2<0x10000000000000000;omega)))
 cbv
 refine rgM hP hA hg fun mk _=> ?_
 cbv
 by_cases hge:4294967296<=d
 focus
  have hless:=gs_less hde hx hQB hdQ g2 (Or.inl hge)
  rw[show cmp .geq (.ofNat d) 4294967296=true from geq_t hA (b:=4294967296) hge]
  cbv
  obtain⟨hl0,hl1,hl2⟩:=hless
  obtain⟨d',hd'⟩:=exq (d-1)
  obtain⟨r',hr'⟩:=exq (r+v1)
  rw[<-hd']at hl1 hl2
  rw[<-hr']at hl2
  have s1:bin .sub .u64 (.ofNat d) 1=Int.ofNat d':=subU hA (b:=1) (by omega) (by omega) hd'
  have s2:bin .add .u64 (.ofNat r) (.ofNat v1)=Int.ofNat r':=addV hA (by omega) hr'
  rw[s1]
  cbv
  rw[a4]
  cbv
  rw[e5 p1 k (by omega)]
  cbv
  rw[e4,w1]
  cbv
  rw[cc v1 lv1]
  cbv
  rw[s2]
  cbv
  by_cases hbr:4294967296<=r'
  rotate_left
  focus
   rw[show cmp .geq (.ofNat r') 4294967296=false from geq_f hA (b:=4294967296) hbr]
   cbv
   refine⟨(d',r'),_root_.id,⟨hl1,hl2,by show r'<4294967296;omega,by show d'<=x;omega⟩,(by show d'<d;omega),?_⟩
   exact wkih (by repeat' (first|exact trivial|refine⟨rfl,rfl,rfl,?_⟩|refine⟨rfl,rfl,bC 2,?_⟩|refine⟨rfl,rfl,bE 2,?_⟩))
  obtain⟨hdB,hts⟩:=gs_break (x2:=x2) hl2 hx lx1 g3 hbr lv2
  have hlast:=g4 d' hdB (gs_test hl2 hts)
  rw[show cmp .geq (.ofNat r') 4294967296=true from geq_t hA (b:=4294967296) hbr]
  cbv
 rotate_left
 focus
  rw[show cmp .geq (.ofNat d) 4294967296=false from geq_f hA (b:=4294967296) hge]
  cbv
  rw[a5]
  cbv
  rw[e5 p k (by omega)]
  cbv
  rw[e4,w2]
  cbv
  rw[cc v2 lv2]
  cbv
  rw[t3 (by omega)]
  cbv
  rw[t1]
  cbv
  rw[a1]
  cbv
  rw[a3]
  cbv
  rw[e5 jk2 U (by omega)]
  cbv
  rw[e4,c2]
  cbv
  rw[cc x2 lx2]
  cbv
  rw[t2]
  cbv
  by_cases hmu:rx<dm
  rotate_left
  focus
   obtain⟨d',hd'⟩:=exq d
   have hdB:d'<4294967296:=by omega
   have hl1:W/V<=d':=by rw[hd'];exact hdQ
   have hlast:d'*V<=W+V:=by rw[hd']at hdB⊢;exact g4 d hdB (gs_test hde (by rw[<-hdm,<-hrs,<-hrx];omega))
   rw[show cmp .gtr (.ofNat dm) (.ofNat rx)=false from gtr_f hA hmu]
   rw[<-hd']
   cbv
  rotate_left
  focus
   have hless:=gs_less hde hx hQB hdQ g2 (Or.inr (by rw[<-hdm,<-hrs,<-hrx];exact hmu))
   rw[show cmp .gtr (.ofNat dm) (.ofNat rx)=true from gtr_t hA hmu]
   cbv
   obtain⟨hl0,hl1,hl2⟩:=hless
   obtain⟨d',hd'⟩:=exq (d-1)
   obtain⟨r',hr'⟩:=exq (r+v1)
   rw[<-hd']at hl1 hl2
   rw[<-hr']at hl2
   have s1:bin .sub .u64 (.ofNat d) 1=Int.ofNat d':=subU hA (b:=1) (by omega) (by omega) hd'
   have s2:bin .add .u64 (.ofNat r) (.ofNat v1)=Int.ofNat r':=addV hA (by omega) hr'
   rw[s1]
   cbv
   rw[a4]
   cbv
   rw[e5 p1 k (by omega)]
   cbv
   rw[e4,w1]
   cbv
   rw[cc v1 lv1]
   cbv
   rw[s2]
   cbv
   by_cases hbr:4294967296<=r'
   rotate_left
   focus
    rw[show cmp .geq (.ofNat r') 4294967296=false from geq_f hA (b:=4294967296) hbr]
    cbv
    refine⟨(d',r'),_root_.id,⟨hl1,hl2,by show r'<4294967296;omega,by show d'<=x;omega⟩,(by show d'<d;omega),?_⟩
    exact wkih (by repeat' (first|exact trivial|refine⟨rfl,rfl,rfl,?_⟩|refine⟨rfl,rfl,bC 2,?_⟩|refine⟨rfl,rfl,bE 2,?_⟩))
   obtain⟨hdB,hts⟩:=gs_break (x2:=x2) hl2 hx lx1 g3 hbr lv2
   have hlast:=g4 d' hdB (gs_test hl2 hts)
   rw[show cmp .geq (.ofNat r') 4294967296=true from geq_t hA (b:=4294967296) hbr]
   cbv
 all_goals
  obtain⟨D,hD⟩:=exq (V*d')
  obtain⟨X',hX'⟩:=exq (W+4294967296^(k+1))
  obtain⟨Ee,hEe⟩:=exq (X'-D)
  have hDl:D<4294967296^(k+1):=by rw[hD,Nat.pow_succ];exact Nat.mul_lt_mul'' hVk hdB
  have hDX:D<=X':=by omega
  obtain⟨cy,hcy⟩:=exq (fun i=>moC V d' i:Nat->Nat)
  obtain⟨bo,hbo⟩:=exq (fun i=>boA X' D i:Nat->Nat)
  obtain⟨Wf,hWf⟩:=exq (dg W)
  obtain⟨Df,hDf⟩:=exq (dg D)
  obtain⟨Ef,hEf⟩:=exq (dg Ee)
  have cy0:cy 0=0:=by rw[hcy];exact moC_zero V d'
  have bo0:bo 0=0:=by rw[hbo];exact boA_zero X' D
  have cyl:∀i,cy i<4294967296:=fun i=>by rw[hcy];exact moC_lt V i hdB
  have bol:∀i,bo i<=1:=fun i=>by rw[hbo];exact boA_le X' D i
  have hms:∀i z,i<k->z=d'*v i+cy i->Df i=z%4294967296/\cy (i+1)=z/4294967296:=fun i z h hz=>by
   rw[hDf,hD,hcy];exact mulOne V d' i z (by rw[hz,hcy,hv.dig h,Nat.mul_comm])
  have hdk:Df k=cy k:=by
   rw[hDf,hD,(mulOne V d' k _ rfl).1,hv.digz (Nat.le_refl k),Nat.zero_mul,Nat.zero_add,hcy]
   exact Nat.mod_eq_of_lt (moC_lt V k hdB)
  have hXd:∀i,i<=k->dg X' i=Wf i:=fun i h=>by rw[hX',hWf,<-Nat.one_mul (4294967296^(k+1))];exact dg_low (by omega)
  have hdif:∀i s,i<=k->s=Wf i+4294967296-Df i-bo i->Ef i=s%4294967296/\bo (i+1)=1-s/4294967296:=fun i s h hs=>by
   rw[hEf,hEe,hbo];exact difDig i hDX s (by rw[hs,<-hXd i h,hDf,hbo])
  have hfin:bo (k+1)=if W<D then 1 else 0:=by
   rw[hbo];show boA X' D (k+1)=_
   unfold boA
   rw[hX',Nat.add_mod_right,Nat.mod_eq_of_lt hWk,Nat.mod_eq_of_lt hDl]
  have lW:∀i,Wf i<4294967296:=fun i=>by rw[hWf];exact dg_lt _ _
  have lD:∀i,Df i<4294967296:=fun i=>by rw[hDf];exact dg_lt _ _
  have lE:∀i,Ef i<4294967296:=fun i=>by rw[hEf];exact dg_lt _ _
  obtain⟨R,hR⟩:=exq (fun i=>hs (wn u j Ef i) cu:Nat->List SV)
  have bR:∀m i,bdLB m (R i)=true:=fun m i=>by rw[hR];exact hs_bd _ _ m
  have hR0:C=R 0:=by rw[hR,hC];show _=hs (wn u j Ef 0) cu;rw[wn_zero]
  have r5:∀i ij,ij=i+j->i<=k->get (R i) ij=some (.int .u32 (.ofNat (Wf i))):=fun i ij h h2=>by
   have e:wn u j Ef i ij=Wf i:=by rw[h,wn_out u j Ef i i (Nat.le_refl i),hw i h2,hWf]
   rw[<-e,hR];exact getW hA .u32 (wn u j Ef i) (by omega)
  have r6:∀i ij z,ij=i+j->i<=k->z=Ef i->spl (R i) ij [.int .u32 (.ofNat z)]=some (R (i+1)):=fun i ij z h h2 hz=>by
   subst h;rw[hR];exact splW hA .u32 (n:=cu) (wn u j Ef i) (wn u j Ef (i+1)) (by omega) (wn_step u j Ef i z hz)
  have a6:∀i ij,ij=i+j->i<=k->bin .add .i64 (.ofNat i) (.ofNat j)=Int.ofNat ij:=fun i ij h h2=>(addI hA (a:=i) (b:=j) (by omega)).trans (by rw[h])
  have a7:∀i,i<k->cmp .lss (.ofNat i) (.ofNat k)=true:=fun i h=>lss_t hA h
  have a7f:cmp .lss (.ofNat k) (.ofNat k)=false:=lss_f hA (Nat.lt_irrefl k)
  have a8:∀i,i<k->bin .add .i64 (.ofNat i) 1=Int.ofNat (i+1):=fun i h=>addI hA (a:=i) (b:=1) (by omega)
  rw[hR0]
  refine lpb Nat (fun i=>i<=k) (fun i=>k-i) (fun i=> [(11,.int .u64 (.ofNat (cy i))),(12,.int .u64 (.ofNat (bo i))),(13,.int .i64 (.ofNat i))]) [0,1,2,6,7,9] (fun i=> [(0,R i)]) 0 (Nat.zero_le _) ?_ ?_
  focus
   rw[cy0,bo0]
   exact wkih (by repeat' (first|exact trivial|refine⟨rfl,rfl,rfl,?_⟩|refine⟨rfl,rfl,bR 2 0,?_⟩|refine⟨rfl,rfl,bE 2,?_⟩))
  intro i hi
  by_cases hlt:i<k
  focus
   obtain⟨ij,hij⟩:=exq (i+j)
   obtain⟨vi,hvi⟩:=exq (v i)
   obtain⟨z1,hz1⟩:=exq (d'*vi)
   obtain⟨z2,hz2⟩:=exq (z1+cy i)
   obtain⟨z3,hz3⟩:=exq (z2%4294967296)
   obtain⟨y1,hy1⟩:=exq (Wf i+4294967296)
   obtain⟨y2,hy2⟩:=exq (y1-z3)
   obtain⟨y3,hy3⟩:=exq (y2-bo i)
   obtain⟨y4,hy4⟩:=exq (y3%4294967296)
   obtain⟨y5,hy5⟩:=exq (y3/4294967296)
   have l1:=cyl i
   have l2:=bol i
   have l3:=lW i
   have l4:vi<4294967296:=by rw[hvi];exact hv.w i (by omega)
   have l5:z1<=4294967295*4294967295:=by rw[hz1];exact Nat.mul_le_mul (by omega) (by omega)
   obtain⟨q1,q2⟩:=hms i z2 hlt (by rw[hz2,hz1,hvi])
   obtain⟨q3,q4⟩:=hdif i y3 hi (by rw[hy3,hy2,hy1,hz3,q1])
   have m1:bin .mul .u64 (.ofNat d') (.ofNat vi)=Int.ofNat z1:=(mulW hA (k:= .u64) rfl d' vi).trans (congrArg Int.ofNat (by rw[<-hz1];exact Nat.mod_eq_of_lt (by show z1<0x10000000000000000;omega)))
   have m2:bin .add .u64 (.ofNat z1) (.ofNat (cy i))=Int.ofNat z2:=addV hA (by omega) hz2
   have m3:sh .shr .u64 (.ofNat z2) 32=Int.ofNat (cy (i+1)):=hi32 hA q2
   have m4:bin .add .u64 (.ofNat (Wf i)) 4294967296=Int.ofNat y1:=addV hA (b:=4294967296) (by omega) hy1
   have m5:bin .and .u64 (.ofNat z2) 4294967295=Int.ofNat z3:=lo32 hA (by omega) hz3
   have m6:bin .sub .u64 (.ofNat y1) (.ofNat z3)=Int.ofNat y2:=subU hA (by omega) (by omega) hy2
   have m7:bin .sub .u64 (.ofNat y2) (.ofNat (bo i))=Int.ofNat y3:=subU hA (by omega) (by omega) hy3
   have m8:bin .and .u64 (.ofNat y3) 4294967295=Int.ofNat y4:=lo32 hA (by omega) hy4
   have m9:cvt .u32 (.ofNat y4)=Int.ofNat y4:=c32 hA (by omega)
   have m10:sh .shr .u64 (.ofNat y3) 32=Int.ofNat y5:=hi32 hA hy5
   have m11:bin .sub .u64 1 (.ofNat y5)=Int.ofNat (bo (i+1)):=subU hA (a:=1) (by omega) (by omega) (by rw[q4,hy5])
   have n1:=r5 i ij hij hi
   have n2:=r6 i ij y4 hij hi (by rw[hy4,q3])
   have n3:=a6 i ij hij hi
   have n4:=w5 i hlt
   rw[<-hvi]at n4
   obtain⟨cn,hcn⟩:=exq (cy (i+1))
   obtain⟨bn,hbn⟩:=exq (bo (i+1))
   obtain⟨Rn,hRn⟩:=exq (R (i+1))
   rw[<-hcn]at m3
   rw[<-hbn]at m11
   rw[<-hRn]at n2
   cbv
   rw[a7 i hlt]
   cbv
   rw[e5 i k hlt]
   cbv
   rw[e4,n4]
   cbv
   rw[cc vi l4]
   cbv
   rw[m1]
   cbv
   rw[m2]
   cbv
   rw[m3]
   cbv
   rw[n3]
   cbv
   rw[e5 ij U (by omega)]
   cbv
   rw[e4,n1]
   cbv
   rw[cc _ l3]
   cbv
   rw[m4]
   cbv
   rw[m5]
   cbv
   rw[m6]
   cbv
   rw[m7]
   cbv
   rw[n3]
   cbv
   rw[m8]
   cbv
   rw[m9]
   cbv
   rw[e5 ij U (by omega)]
   cbv
   rw[e4,n2]
   cbv
   rw[m10]
   cbv
   rw[m11]
   cbv
   rw[a8 i hlt]
   refine⟨i+1,_root_.id,hlt,(by show k-(i+1)<k-i;omega),?_⟩
   rw[hcn,hbn,hRn]
   exact wkih (by repeat' (first|exact trivial|refine⟨rfl,rfl,rfl,?_⟩|refine⟨rfl,rfl,bR 2 (i+1),?_⟩|refine⟨rfl,rfl,bE 2,?_⟩))
  have hik:k=i:=by omega
  subst hik
  obtain⟨y1,hy1⟩:=exq (Wf k+4294967296)
  obtain⟨y2,hy2⟩:=exq (y1-cy k)
  obtain⟨y3,hy3⟩:=exq (y2-bo k)
  obtain⟨y4,hy4⟩:=exq (y3%4294967296)
  obtain⟨y5,hy5⟩:=exq (y3/4294967296)
  have l1:=cyl k
  have l2:=bol k
  have l3:=lW k
  obtain⟨q3,q4⟩:=hdif k y3 (Nat.le_refl k) (by rw[hy3,hy2,hy1,hdk])
  have m4:bin .add .u64 (.ofNat (Wf k)) 4294967296=Int.ofNat y1:=addV hA (b:=4294967296) (by omega) hy1
  have m6:bin .sub .u64 (.ofNat y1) (.ofNat (cy k))=Int.ofNat y2:=subU hA (by omega) (by omega) hy2
  have m7:bin .sub .u64 (.ofNat y2) (.ofNat (bo k))=Int.ofNat y3:=subU hA (by omega) (by omega) hy3
  have m8:bin .and .u64 (.ofNat y3) 4294967295=Int.ofNat y4:=lo32 hA (by omega) hy4
  have m9:cvt .u32 (.ofNat y4)=Int.ofNat y4:=c32 hA (by omega)
  have m10:sh .shr .u64 (.ofNat y3) 32=Int.ofNat y5:=hi32 hA hy5
  have hjk':jk=k+j:=by omega
  have n1:=r5 k jk hjk' (Nat.le_refl k)
  have n2:=r6 k jk y4 hjk' (Nat.le_refl k) (by rw[hy4,q3])
  obtain⟨kn,hkn⟩:=exq (k+1)
  rw[<-hkn]at n2 q4 hfin
  cbv
  rw[a7f]
  cbv
  rw[a1]
  cbv
  rw[e5 jk U (by omega)]
  cbv
  rw[e4,n1]
  cbv
  rw[cc _ l3]
  cbv
  rw[m4]
  cbv
  rw[m6]
  cbv
  rw[m7]
  cbv
  rw[a1]
  cbv
  rw[m8]
  cbv
  rw[m9]
  cbv
  rw[e5 jk U (by omega)]
  cbv
  rw[e4,n2]
  cbv
  rw[m10]
  cbv
  by_cases hWD:W<D
  rotate_left
  focus
   rw[if_neg hWD]at hfin
   have hy:y5=1:=by omega
   obtain⟨t1,t2⟩:=take_ok (k:=k+1) hV0 hl1 (by rw[Nat.mul_comm,<-hD];omega)
   have hRC:R kn=C':=by
    rw[hR,hC',hu',hkn];show hs (wn u j Ef (k+1)) cu=_
    rw[wn_congr u j (h:=Ef) (h':=dg (W%V)) (fun t ht=>by rw[<-t2 t ht,hEf,hEe,hX',hD])]
   rw[show cmp .eql (.ofNat y5) 1=true from eql_t hA (b:=1) hy]
   rw[hRC]
   cbv
   refine hK _ _ _ ⟨?_,rfl⟩
   rw[hq,<-t1]
   rfl
  rw[if_pos hWD]at hfin
  have hy:y5=0:=by omega
  rw[show cmp .eql (.ofNat y5) 1=false from eql_f hA (b:=1) (by omega)]
  cbv
  obtain⟨t1,t0,t2⟩:=take_back (k:=k+1) hV0 (Nat.le_trans (Nat.le_of_lt hVk) (Nat.pow_le_pow_right (by decide) (Nat.le_succ k))) hlast (by rw[Nat.mul_comm,<-hD];omega) (by rw[Nat.mul_comm,<-hD];exact hDl)
  obtain⟨Ff,hFf⟩:=exq (dg (Ee+V))
  obtain⟨cz,hcz⟩:=exq (fun i=>cyA Ee V i:Nat->Nat)
  have cz0:cz 0=0:=by rw[hcz];exact cyA_zero Ee V
  have czl:∀i,cz i<=1:=fun i=>by rw[hcz];exact cyA_le Ee V i
  have hsm:∀i z,i<k->z=Ef i+v i+cz i->Ff i=z%4294967296/\cz (i+1)=z/4294967296:=fun i z h hz=>by
   rw[hFf,hcz];exact sumDig Ee V i z (by rw[hz,hEf,hv.dig h,hcz])
  have hsk:Ff k=(Ef k+cz k)%4294967296:=by
   rw[hFf,(sumDig Ee V k _ rfl).1,hv.digz (Nat.le_refl k),Nat.add_zero,hEf,hcz]
  obtain⟨S,hS⟩:=exq (fun i=>hs (wn (wn u j Ef kn) j Ff i) cu:Nat->List SV)
  have bS:∀m i,bdLB m (S i)=true:=fun m i=>by rw[hS];exact hs_bd _ _ m
  have hS0:R kn=S 0:=by rw[hS,hR];show hs (wn u j Ef kn) cu=hs (wn _ j Ff 0) cu;rw[wn_zero]
  have hSC:S kn=C':=by
   rw[hS,hC',hu',hkn];show hs (wn (wn u j Ef (k+1)) j Ff (k+1)) cu=_
   rw[wn_wn,wn_congr u j (h:=Ff) (h':=dg (W%V)) (fun t ht=>by rw[<-t2 t ht,hFf,hEe,hX',hD])]
  have s5:∀i ij,ij=i+j->i<=k->get (S i) ij=some (.int .u32 (.ofNat (Ef i))):=fun i ij h h2=>by
   have e:wn (wn u j Ef kn) j Ff i ij=Ef i:=by rw[h,wn_out _ j Ff i i (Nat.le_refl i),wn_in u j Ef kn i (by omega)]
   rw[<-e,hS];exact getW hA .u32 (wn (wn u j Ef kn) j Ff i) (by omega)
  have s6:∀i ij z,ij=i+j->i<=k->z=Ff i->spl (S i) ij [.int .u32 (.ofNat z)]=some (S (i+1)):=fun i ij z h h2 hz=>by
   subst h;rw[hS];exact splW hA .u32 (n:=cu) (wn (wn u j Ef kn) j Ff i) (wn (wn u j Ef kn) j Ff (i+1)) (by omega) (wn_step _ j Ff i z hz)
  rw[hS0]
  refine lpb Nat (fun i=>i<=k) (fun i=>k-i) (fun i=> [(11,.int .u64 (.ofNat (cz i))),(17,.int .i64 (.ofNat i))]) [0,1,2,6,7,9] (fun i=> [(0,S i)]) 0 (Nat.zero_le _) ?_ ?_
  focus
   rw[cz0]
   exact wkih (by repeat' (first|exact trivial|refine⟨rfl,rfl,rfl,?_⟩|refine⟨rfl,rfl,bS 2 0,?_⟩|refine⟨rfl,rfl,bE 2,?_⟩))
  intro i hi
  by_cases hlt:i<k
  focus
   obtain⟨ij,hij⟩:=exq (i+j)
   obtain⟨vi,hvi⟩:=exq (v i)
   obtain⟨z1,hz1⟩:=exq (Ef i+vi)
   obtain⟨z2,hz2⟩:=exq (z1+cz i)
   obtain⟨z3,hz3⟩:=exq (z2%4294967296)
   have l1:=czl i
   have l3:=lE i
   have l4:vi<4294967296:=by rw[hvi];exact hv.w i (by omega)
   obtain⟨q1,q2⟩:=hsm i z2 hlt (by rw[hz2,hz1,hvi])
   have m1:bin .add .u64 (.ofNat (Ef i)) (.ofNat vi)=Int.ofNat z1:=addV hA (by omega) hz1
   have m2:bin .add .u64 (.ofNat z1) (.ofNat (cz i))=Int.ofNat z2:=addV hA (by omega) hz2
   have m3:sh .shr .u64 (.ofNat z2) 32=Int.ofNat (cz (i+1)):=hi32 hA q2
   have m5:bin .and .u64 (.ofNat z2) 4294967295=Int.ofNat z3:=lo32 hA (by omega) hz3
   have m6:cvt .u32 (.ofNat z3)=Int.ofNat z3:=c32 hA (by omega)
   have n1:=s5 i ij hij hi
   have n2:=s6 i ij z3 hij hi (by rw[hz3,q1])
   have n3:=a6 i ij hij hi
   have n4:=w5 i hlt
   rw[<-hvi]at n4
   obtain⟨cn,hcn⟩:=exq (cz (i+1))
   obtain⟨Sn,hSn⟩:=exq (S (i+1))
   rw[<-hcn]at m3
   rw[<-hSn]at n2
   cbv
   rw[a7 i hlt]
   cbv
   refine rgM hP hA hg fun mk _=> ?_
   cbv
   rw[n3]
   cbv
   rw[e5 ij U (by omega)]
   cbv
   rw[e4,n1]
   cbv
   rw[cc _ l3]
   cbv
   rw[e5 i k hlt]
   cbv
   rw[e4,n4]
   cbv
   rw[cc vi l4]
   cbv
   rw[m1]
   cbv
   rw[m2]
   cbv
   rw[n3]
   cbv
   rw[m5]
   cbv
   rw[m6]
   cbv
   rw[e5 ij U (by omega)]
   cbv
   rw[e4,n2]
   cbv
   rw[m3]
   cbv
   rw[a8 i hlt]
   refine⟨i+1,_root_.id,hlt,(by show k-(i+1)<k-i;omega),?_⟩
   rw[hcn,hSn]
   exact wkih (by repeat' (first|exact trivial|refine⟨rfl,rfl,rfl,?_⟩|refine⟨rfl,rfl,bS 2 (i+1),?_⟩|refine⟨rfl,rfl,bE 2,?_⟩))
  have hik:k=i:=by omega
  subst hik
  obtain⟨w3,hw3⟩:=exq (Ff k)
  have n1:=s5 k jk hjk' (Nat.le_refl k)
  have n2:=s6 k jk w3 hjk' (Nat.le_refl k) hw3
  rw[<-hkn,hSC]at n2
  have m1:cvt .u32 (.ofNat (cz k))=Int.ofNat (cz k):=c32 hA (by have:=czl k;omega)
  have m2:bin .add .u32 (.ofNat (Ef k)) (.ofNat (cz k))=Int.ofNat w3:=(addW hA (k:= .u32) rfl (Ef k) (cz k)).trans (by rw[hw3,hsk];rfl)
  have m3:bin .sub .u64 (.ofNat d') 1=Int.ofNat q:=subU hA (b:=1) (by omega) (by omega) (by rw[hq,t1])
  cbv
  rw[a7f]
  cbv
  rw[a1]
  cbv
  rw[e5 jk U (by omega)]
  cbv
  rw[e4,n1]
  cbv
  rw[m1]
  cbv
  rw[m2]
  cbv
  rw[e5 jk U (by omega)]
  cbv
  rw[e4,n2]
  cbv
  rw[m3]
  cbv
  exact hK _ _ _ ⟨rfl,rfl⟩
end Go.Proofs.YtdhmihfefgcbeaaGreat
namespace Go.Vg
open Go.RowKit Go.Lib
section
variable {P:Program}{g:G}{T:Nat->Option Ty}{F:FF}{L:LL}{n:Nat}
theorem run_copy_sl_ok{W:World}{dT sT ty elem:TypeId}{gb dLen dCap:Nat}{cur:Array Value}{t:TypeId}{mk:Nat×Nat}(hu:P.underlying dT=some (.slice elem)){i:TypeInfo}(hi:P.info? elem=some i)(hs:i.size=1)(hg:W.heap[gb]? =some (.cells cur t mk))(hmk:okM mk cur.size)
 (ad:Addr) (m c:Nat) (news:List Value) (hl:news.length=m) (hnews:∀j v,news[j]? =some v->W.cell? (ad.add j)=some v) (h1:∀u∈news,u.oneCell'=true) (hle:m<=dLen) (hfit:m<=cur.size):
 (Builtin.copy_ #[dT,sT] ty #[.slice (some ⟨gb,0,none⟩) dLen dCap,.slice (some ad) m c]).run P W= .ok (goInt m) (W.setRow gb (news++cur.toList.drop m).toArray):=by
 have hst:=rsk (P:=P) gb 0 t mk news 0 cur W hg hmk (by simpa [hl]using hfit) h1
 have hmin:Nat.min m dLen=m:=Nat.min_eq_left hle
 have hf:=run_firstCells_some (P:=P) W 1 m ad m c news (by omega) hnews
 simp only[Nat.add_zero,hl,Nat.zero_add,List.take_zero,List.nil_append]at hst
 simp[Builtin.copy_,run_underlying hu,Builtin.lenOf,sizeOf,typeInfo,hi,hs,hmin,hf]
 rw[hst]
 simp[Result.andThen]
theorem step_copy_sl(hT:TOk P T){o:Oper}{m0 N:Nat}{ms:List Nat}(hg:GI g m0 ms N)(hd':dstLt N o.dst=true){s x:Operand}{t u:Nat}(ho:o.op= .call {callee:= .builtin .copy,args:= #[s,x],argTypes:= #[t,u]})
 {i:Ty} (ht:T t=some i) {e:Nat} (hd:i.d= .sl e 1) {l n1 c:Nat} (hs:ev (look F) s=some (.slice l 0 n1 c)) {cs:List SV} {tb:TypeId} (hl:find L l=some ⟨l,cs,tb⟩) (hown:own m0 ms l=true)
 {k m mc:Nat} (hx:ev (look F) x=some (.slice k 0 m mc)) {ds:List SV} {tk:TypeId} (hk:find L k=some ⟨k,ds,tk⟩) (hkl:m<=ds.length) (hones:ones (ds.take m)=true) (h1:m<=n1) (h2:m<=cs.length) {K:FF->LL->Nat->Prop}
 (hK:K (putO F o.dst (.int .i64 (.ofNat m))) (updL L l (ds.take m++cs.drop m)) n):Step g P o K F L n:=by
 obtain⟨hu,hsz⟩:=sl_of hT ht hd
 have hinfo:∃info,P.info? e=some info/\info.size=1:=by
  unfold sizeB at hsz
  cases hq:P.info? e with
  |none=>simp[hq]at hsz
  |some info=>exact⟨info,rfl,by simpa [hq]using hsz⟩
 obtain⟨info,hi,hi1⟩:=hinfo
 have hnl:(ds.take m).length=m:=by rw[List.length_take];omega
 have hsp:splice cs 0 (ds.take m)=ds.take m++cs.drop m:=by rw[splice,hnl,List.take_zero,List.nil_append,Nat.zero_add]
 rw[<-hg.n0,<-hg.ms]at hown
 refine step_gen hg hd' fun β a W hm hf=> ?_
 obtain⟨e1,b1⟩:=evd hf hs
 obtain⟨e2,b2⟩:=evd hf hx
 obtain⟨mk,hmk,hcell⟩:=hm.cell l _ hl
 have hvs:bdL (fun l=>l<n) (ds.take m):=by
  have:=bdL_sub (hm.bL k _ hk).2 0 m
  rwa [List.drop_zero]at this
 have hst:=hm.store (o:=0) hl (vs:=ds.take m) (by show 0+_<=cs.length;rw[hnl];omega) hown hvs
 rw[show upL (find L) l ⟨l,splice cs 0 (ds.take m),tb⟩=find (updL L l (splice cs 0 (ds.take m)))from by
  funext q
  rw[find_updL]
  simp only[upL,hl]
  rfl]at hst
 have hcf:=cells_from hm hk 0 m
 rw[show((⟨k,ds,tk⟩:Blk).cs.drop 0).take m=ds.take m from by rw[List.drop_zero]]at hcf
 have hrun:(execOp a.eval o).run P W= .ok (.value (den β (.int .i64 (.ofNat m)))) (W.setRow (β l) (denL β (splice cs 0 (ds.take m))).toArray):=by
  refine run_copy_op ho ?_
  rw[e1,e2]
  have:=run_copy_sl_ok (P:=P) (ty:=o.type) (sT:=u) (dLen:=n1) (dCap:=c) hu hi hi1 hcell (by simpa [dle]using hmk hown) ⟨β k,0,none⟩ m mc (denL β (ds.take m)) (by rw[dle,List.length_map,hnl]) hcf (fun w hw=>by
   rw[dle]at hw
   obtain⟨y,hy,rfl⟩:=List.mem_map.1 hw
   exact one_den β (ones_all hones y hy)) h1 (by
   simp only[List.size_toArray,dle,List.length_map]
   omega)
  simp only[den]
  rw[this,splice_den]
  simp[dle,hnl,goInt]
 refine⟨_,_,updL L l (splice cs 0 (ds.take m)),n,β,hrun,hst,fun _ _=>rfl,Nat.le_refl n,trivial,by rw[hsp];exact hK⟩
end
theorem hs_len(f:Nat->Nat)(c:Nat):(hs f c).length=c:=lle _ _ _ _
theorem hs_ones(f:Nat->Nat)(c m:Nat):ones ((hs f c).take m)=true:=by
 have:∀l:List SV,(∀v∈l,∃x,v= .int .u32 x)->ones l=true:=fun l=>by
  induction l with
  |nil=>intro _;rfl
  |cons a l ih=>
   intro h
   obtain⟨x,rfl⟩:=h a List.mem_cons_self
   exact ih fun v hv=>h v (List.mem_cons_of_mem _ hv)
 refine this _ fun v hv=> ?_
 have hv:=List.mem_of_mem_take hv
 have:∀n s,v∈lst .u32 (fun j=>Int.ofNat (f j)) s n->∃x,v= .int .u32 x:=fun n=>by
  induction n with
  |zero=>intro s h;cases h
  |succ n ih=>
   intro s h
   rcases List.mem_cons.1 h with h|h
   ·exact⟨_,h⟩
   ·exact ih _ h
 exact this c 0 hv
theorem lst_take(K:IntKind)(f:Nat->Int):∀m s n,m<=n->(lst K f s n).take m=lst K f s m
 |0,_,_,_=>by rw[List.take_zero];rfl
 |m+1,s,0,h=>absurd h (Nat.not_succ_le_zero m)
 |m+1,s,n+1,h=>by rw[lst,lst,List.take_succ_cons,lst_take K f m (s+1) n (by omega)]
theorem lst_drop(K:IntKind)(f:Nat->Int):∀m s n,(lst K f s (m+n)).drop m=lst K f (s+m) n
 |0,_,_=>by rw[List.drop_zero,Nat.zero_add,Nat.add_zero]
 |m+1,s,n=>by rw[show m+1+n=(m+n)+1 by omega,lst,List.drop_succ_cons,lst_drop K f m (s+1) n,show s+1+m=s+(m+1) by omega]
theorem lst_app(K:IntKind)(f:Nat->Int):∀m s n,lst K f s m++lst K f (s+m) n=lst K f s (m+n)
 |0,_,_=>by rw[Nat.zero_add,Nat.add_zero];rfl
 |m+1,s,n=>by rw[show m+1+n=(m+n)+1 by omega,lst,lst,List.cons_append,show s+(m+1)=s+1+m by omega,lst_app K f m (s+1) n]
theorem hs_copy{y m c n1:Nat}(h:Nm m c (dg y) y)(hn:m<=n1):(hs (dg y) c).take m++(hs (fun _=>0) n1).drop m=hs (dg y) n1:=by
 unfold hs
 rw[lst_take _ _ _ _ _ h.le]
 obtain⟨d,rfl⟩:∃d,n1=m+d:=⟨n1-m,by omega⟩
 rw[lst_drop]
 have e:lst .u32 (fun _=>Int.ofNat 0) (0+m) d=lst .u32 (fun j=>Int.ofNat (dg y j)) (0+m) d:=lcg fun j hj _=>by rw[h.digz (by omega)]
 rw[e,lst_app]
end Go.Vg
namespace Go.Vg
open Go.RowKit Go.Lib
theorem Con.keep{P:Program}{f:FuncId}{args:List SV}{Lp:LL}{n0:Nat}{R:SV->LL->Nat->Prop}(h:Con P f args Lp n0 [] R)(hlo:∀b∈Lp,b.l<n0/\bdL (fun l=>l<n0) b.cs)(hnew:∀v L q,R v L q->∀b∈L,n0<=b.l):Con P f args Lp n0 [] (fun v L q=>∃NB,R v NB q/\L=Lp++NB):=by
 refine⟨h.1,fun β0 W0 hpre=>(h.2 β0 W0 hpre).mono ?_⟩
 rintro e W ⟨v,L,q,β,hR,rfl,hb,hm⟩
 refine⟨v,Lp++L,q,β,⟨L,hR,rfl⟩,rfl,hb,?_⟩
 have hmod:∀k,¬ (⟨W0,β0,n0,0,[]⟩:G).mod k:=fun k ⟨l,hl,_⟩=>by cases hl
 have hcase:∀l b,find (Lp++L) l=some b->(b∈Lp/\b.l=l/\l<n0)\/(find L l=some b/\n0<=l):=fun l b hf=>by
  rw[fap]at hf
  cases hq:find Lp l with
  |some b'=>
   rw[hq]at hf
   obtain rfl:=Option.some.inj hf
   obtain⟨h1,h2⟩:=fdm hq
   exact Or.inl ⟨h1,h2,h2▸(hlo _ h1).1⟩
  |none=>
   rw[hq]at hf
   obtain⟨h1,h2⟩:=fdm hf
   exact Or.inr ⟨hf,h2▸hnew _ _ _ hR _ h1⟩
 have hold:∀b∈Lp,β b.l=β0 b.l/\∃m,W0.heap[β0 b.l]? =some (.cells (denL β0 b.cs).toArray b.t m):=fun b hb'=>by
  obtain⟨m,_,h2⟩:=hpre.cell b hb'
  exact⟨hm.old _ (hlo b hb').1,m,h2⟩
 have hlt:∀b∈Lp,β b.l<W0.heap.size:=fun b hb'=>by
  obtain⟨h1,m,h2⟩:=hold b hb'
  rw[h1]
  exact(Array.getElem?_eq_some_iff.1 h2).1
 have hown:∀l,l<n0->own n0 [] l=true->False:=fun l h1 h2=>by
  unfold own at h2
  cases hq:Nat.ble n0 l with
  |true=>have:=Nat.le_of_ble_eq_true hq;omega
  |false=>rw[hq]at h2;exact Bool.noConfusion h2
 refine⟨hm.low,hm.old,?_,?_,?_,?_,hm.up⟩
 ·intro l b hf hge
  rcases hcase l b hf with⟨_,_,h3⟩|⟨h1,_⟩
  ·exact absurd hge (Nat.not_le.2 h3)
  ·exact hm.new l b h1 hge
 ·intro l b l' b' hf hf' ho he
  rcases hcase l b hf with⟨_,_,h3⟩|⟨h1,h2⟩
  ·exact(hown l h3 ho).elim
  ·rcases hcase l' b' hf' with⟨k1,k2,k3⟩|⟨k1,_⟩
   ·exfalso
    have hl:=hlt b' k1
    rw[k2,<-he]at hl
    rcases hm.new l b h1 h2 with h4|h4
    ·exact absurd hl (Nat.not_lt.2 h4)
    ·exact hmod _ h4
   ·exact hm.inj _ _ _ _ h1 k1 ho he
 ·intro l b hf
  rcases hcase l b hf with⟨h1,h2,h3⟩|⟨h1,_⟩
  ·obtain⟨k1,m,k2⟩:=hold b h1
   refine⟨m,fun ho=>(hown l h3 ho).elim,?_⟩
   rw[<-h2,dlc (β:=β0) (γ:=β) (p:=fun l=>l<n0) (fun l hl=>hm.old l hl) b.cs (hlo b h1).2,k1,<-k2]
   exact hm.up.block _ (by rw[<-k1];exact hlt b h1) (hmod _)
  ·exact hm.cell l b h1
 ·intro l b hf
  rcases hcase l b hf with⟨h1,h2,h3⟩|⟨h1,_⟩
  ·exact⟨hm.low l h3,bdm (fun _ h=>hm.low _ h) _ (hlo b h1).2⟩
  ·exact hm.bL l b h1
def dvU(A V i:Nat):Nat->Nat:=fun a=>if a<i then dg A a else dg (A/4294967296^i%V) (a-i)
def dvW(A V i:Nat):Nat:=A/4294967296^(i+1)%V*4294967296+dg A i
theorem dg_cons(h l t:Nat)(hl:l<4294967296):dg (h*4294967296+l) t=if t=0 then l else dg h (t-1):=by
 unfold dg Dg.dig
 by_cases e:t=0
 ·subst e;rw[if_pos rfl,Nat.pow_zero,Nat.div_one];omega
 ·obtain⟨u,rfl⟩:∃u,t=u+1:=⟨t-1,by omega⟩
  rw[if_neg e,Nat.pow_succ,Nat.mul_comm (4294967296^u),<-Nat.div_div_eq_div_mul,show(h*4294967296+l)/4294967296=h by omega,Nat.add_sub_cancel]
theorem dvU_win(A V i t:Nat):dvU A V (i+1) (t+i)=dg (dvW A V i) t:=by
 unfold dvU dvW
 rw[dg_cons _ _ _ (dg_lt A i)]
 by_cases e:t=0
 ·subst e;rw[if_pos (by omega),if_pos rfl,Nat.zero_add]
 ·rw[if_neg (by omega),if_neg e];congr 1;omega
theorem dvW_lt{A V i:Nat}(hV:0<V):dvW A V i<V*4294967296:=by
 unfold dvW
 have h1:A/4294967296^(i+1)%V+1<=V:=Nat.mod_lt _ hV
 have h2:=Nat.mul_le_mul_right 4294967296 h1
 have:=dg_lt A i
 omega
theorem dvU_step{A V i k:Nat}(hV:0<V)(hVk:V<4294967296^k):wn (dvU A V (i+1)) i (dg (dvW A V i%V)) (k+1)=dvU A V i:=by
 have hq:=(quo_dig A V i hV).2.1
 funext a
 unfold wn
 by_cases e:i<=a/\a<i+(k+1)
 ·rw[if_pos e];unfold dvU;rw[if_neg (by omega),hq];rfl
 ·rw[if_neg e]
  unfold dvU
  by_cases e2:a<i
  ·rw[if_pos (by omega),if_pos e2]
  ·have h1:∀z,z%V<4294967296^k:=fun z=>Nat.lt_trans (Nat.mod_lt _ hV) hVk
   rw[if_neg (by omega),if_neg e2,show dg (A/4294967296^(i+1)%V) (a-(i+1))=0 from Dg.dig_big (by decide) (h1 _) (by omega),show dg (A/4294967296^i%V) (a-i)=0 from Dg.dig_big (by decide) (h1 _) (by omega)]
theorem dg_shift(A i t:Nat):dg (A/4294967296^i) t=dg A (i+t):=by
 unfold dg Dg.dig;rw[Nat.div_div_eq_div_mul,<-Nat.pow_add]
theorem dvU_first{A V J:Nat}(h:A/4294967296^J<V):dvU A V J=dg A:=by
 funext a;unfold dvU
 by_cases e:a<J
 ·rw[if_pos e]
 ·rw[if_neg e,Nat.mod_eq_of_lt h,dg_shift];congr 1;omega
theorem dvU_last(A V:Nat):dvU A V 0=dg (A%V):=by
 funext a;unfold dvU;rw[if_neg (Nat.not_lt_zero a),Nat.pow_zero,Nat.div_one,Nat.sub_zero]
theorem norm_div{m y b s:Nat}(hm:IsSz m y)(hm0:0<m)(hy:0<y)(hb:IsBl y b)(hs:s=32*m-b):b<=32*m/\s<32/\y*2^s<4294967296^m/\IsSz m (y*2^s)/\4294967296^m<=y*2^s*2:=by
 have hb0:0<b:=by
  rcases Nat.eq_zero_or_pos b with h|h
  ·have:=hb.1;rw[h]at this;simp at this;omega
  ·exact h
 have h1:b<=32*m:=by
  rcases Nat.lt_or_ge (32*m) b with h|h
  ·exfalso
   have h2:=hb.2 hb0
   have h3:2^(32*m)<=2^(b-1):=Nat.pow_le_pow_right (by decide) (by omega)
   have h4:=hm.1
   rw[B_pow]at h4
   omega
  ·exact h
 have h2:32*m<b+32:=by
  rcases Nat.lt_or_ge (32*m) (b+32)with h|h
  ·exact h
  ·exfalso
   rcases hm.2 with h0|h0
   ·omega
   ·rw[B_pow]at h0
    have h3:2^b<=2^(32*(m-1)):=Nat.pow_le_pow_right (by decide) (by omega)
    have:=hb.1
    omega
 have e:4294967296^m=2^b*2^s:=by rw[B_pow,<-Nat.pow_add];congr 1;omega
 have h3:y*2^s<4294967296^m:=by rw[e];exact Nat.mul_lt_mul_of_pos_right hb.1 (Nat.two_pow_pos s)
 have h4:4294967296^m<=y*2^s*2:=by
  have h5:=Nat.mul_le_mul_right (2^s) (hb.2 hb0)
  have h6:2^b=2^(b-1)*2:=by rw[<-Nat.pow_succ];congr 1;omega
  rw[e,h6,Nat.mul_right_comm]
  exact Nat.mul_le_mul_right 2 h5
 refine⟨h1,by omega,h3,⟨h3,Or.inr ?_⟩,h4⟩
 obtain⟨t,rfl⟩:∃t,m=t+1:=⟨m-1,by omega⟩
 rw[Nat.pow_succ]at h4
 rw[Nat.add_sub_cancel]
 omega
theorem first_lt{A V s J m n x:Nat}(hA:A=x*2^s)(hs:s<32)(hx:x<4294967296^n)(hJ:J+m=n+1)(hm:0<m)(h4:4294967296^m<=V*2):A/4294967296^J<V:=by
 refine Nat.div_lt_of_lt_mul ?_
 have h1:A<4294967296^n*2^s:=by rw[hA];exact Nat.mul_lt_mul_of_pos_right hx (Nat.two_pow_pos s)
 have h2:2^s<=2^31:=Nat.pow_le_pow_right (by decide) (by omega)
 have h3:4294967296^n*2^s<=4294967296^n*2^31:=Nat.mul_le_mul_left _ h2
 have h5:4294967296^J*4294967296^m=4294967296^n*4294967296:=by rw[<-Nat.pow_add,hJ,Nat.pow_succ]
 have h6:=Nat.mul_le_mul_left (4294967296^J) h4
 rw[h5,<-Nat.mul_assoc]at h6
 omega
end Go.Vg
namespace Go.Proofs.YtdhmihfefgcbeaaGreat
open Go.Vg Go.RowKit
set_option maxRecDepth 200000
set_option cbv.maxSteps 100000000
theorem cRDivL{P:Program}(hP:P=Tryz.prog){n c x m e y:Nat}{f u:Nat->Nat}(hx:Nm n c f x)(hy:Nm m e u y)(hn:n<2^18)(hlt:x<y):
 Con P 50 [.slice 0 0 n c,.slice 1 0 m e] [⟨0,hs f c,58⟩,⟨1,hs u e,58⟩] 2 [] (fun w _ _=>w= .tup [.nils,.slice 0 0 n c]):=by
 have hC:=cRCmp hP hx hy (by omega) (-1) (fun _=>rfl) (fun h=>by omega) (fun h=>by omega)
 obtain⟨C,hC'⟩:=exq (hs f c)
 have bC:∀m,bdLB m C=true:=fun m=>by rw[hC'];exact hs_bd f c m
 obtain⟨E,hE⟩:=exq (hs u e)
 have bE:∀m,bdLB m E=true:=fun m=>by rw[hE];exact hs_bd u e m
 rw[<-hC',<-hE]at hC⊢
 refine cof hP Tryz.func50 ⟨blq rfl,⟨blq rfl,trivial⟩⟩ (by simpa [bdL,bd]using⟨bdb _ (bC 2),bdb _ (bE 2)⟩) ?_
 intro A g K hA hg hK
 obtain⟨_,_,cmp⟩:=A
 have e1:cmp .lss (-1) 0=true:=(congrFun (congrFun (congrFun (cmp_of hA) .lss) (-1)) 0).trans rfl
 cbv
 refine cro rfl hg rfl rfl hC _root_.id rfl (ft2 (bC 0) (bE 0) rfl rfl) ?_
 rintro _ _ _ rfl
 refine⟨trivial,trivial,?_⟩
 cbv
 rw[e1]
 cbv
 exact hK _ _ _ rfl
theorem cRDivS{P:Program}(hP:P=Tryz.prog){n c x e y:Nat}{f u:Nat->Nat}(hx:Nm n c f x)(hy:Nm 1 e u y)(hn:n<2^18)(hle:y<=x)(hy0:0<y):
 Con P 50 [.slice 0 0 n c,.slice 1 0 1 e] [⟨0,hs f c,58⟩,⟨1,hs u e,58⟩] 2 [] (fun w L q=>w= .tup [.slice 2 0 (Vg.sz (x/y)) n,.slice 3 0 (Vg.sz (x%y)) 1]/\L=[⟨2,hs (dg (x/y)) n,58⟩,⟨3,hs (dg (x%y)) 1,58⟩]/\q=4):=by
 obtain⟨rc,hrc,hrl⟩:∃rc:Int,(x<y->rc= -1)/\(x=y->rc=0)/\(y<x->rc=1):=⟨if x<y then -1 else if x=y then 0 else 1,fun h=>if_pos h,fun h=>by rw[if_neg (by omega),if_pos h],fun h=>by rw[if_neg (by omega),if_neg (by omega)]⟩
 have hC:=cRCmp hP hx hy (by omega) rc hrc hrl.1 hrl.2
 have hu0:u 0=y:=by rw[<-hy.v];show _=0+u 0*1;omega
 have hyB:y<4294967296:=by rw[<-hu0];exact hy.w 0 hy.le
 obtain⟨d,hd⟩:=exq (x/y)
 obtain⟨r,hr⟩:=exq (x%y)
 obtain⟨dz,hdz⟩:=exq (Vg.sz d)
 obtain⟨rz,hrz⟩:=exq (Vg.sz r)
 have hSh:=cRShort hP hx (by omega) y hy0 hyB d r dz rz hd hr hdz hrz
 rw[<-hd,<-hr,<-hdz,<-hrz]
 obtain⟨QD,hQD⟩:=exq (hs (dg d) n)
 obtain⟨RD,hRD⟩:=exq (hs (dg r) 1)
 have bQ:∀m,bdLB m QD=true:=fun m=>by rw[hQD];exact hs_bd _ _ m
 have bR:∀m,bdLB m RD=true:=fun m=>by rw[hRD];exact hs_bd _ _ m
 rw[<-hQD,<-hRD]at hSh⊢
 have he1:=hy.le
 obtain⟨C,hC'⟩:=exq (hs f c)
 have bC:∀m,bdLB m C=true:=fun m=>by rw[hC'];exact hs_bd f c m
 obtain⟨E,hE⟩:=exq (hs u e)
 have bE:∀m,bdLB m E=true:=fun m=>by rw[hE];exact hs_bd u e m
 rw[<-hC',<-hE]at hC⊢
 rw[<-hC']at hSh
 suffices raw:Con P 50 [.slice 0 0 n c,.slice 1 0 1 e] [⟨0,C,58⟩,⟨1,E,58⟩] 2 [] (fun w L q=>w= .tup [.slice 2 0 dz n,.slice 3 0 rz 1]/\find L 2=some ⟨2,QD,58⟩/\find L 3=some ⟨3,RD,58⟩)from
  raw.weak fun v L q ⟨h1,h2,h3⟩=>⟨_root_.id,.tup [.slice 2 0 dz n,.slice 3 0 rz 1],[⟨2,QD,58⟩,⟨3,RD,58⟩],4,by subst h1;exact weak_id ⟨rfl,rfl,trivial⟩ ⟨h2,rfl,bQ 4,h3,rfl,bR 4,trivial⟩ rfl rfl,rfl,rfl,rfl⟩
 refine cof hP Tryz.func50 ⟨blq rfl,⟨blq rfl,trivial⟩⟩ (by simpa [bdL,bd]using⟨bdb _ (bC 2),bdb _ (bE 2)⟩) ?_
 intro A g K hA hg hK
 obtain⟨_,_,cmp,_,cvt,ix,_,_,_,_,_,_,_,_,nat,off,get⟩:=A
 have e1:cmp .lss rc 0=false:=by
  rcases Nat.lt_or_ge y x with h|h
  ·rw[hrl.2 h];exact lss_f hA (a:=1) (b:=0) (by decide)
  ·rw[hrl.1 (by omega)];exact lss_f hA (a:=0) (b:=0) (by decide)
 have e0:nat 1=Int.ofNat 1:=nat_of hA 1
 have e2:cmp .eql (.ofNat 1) 1=true:=eql_t hA (a:=1) (b:=1) rfl
 have e3:ix 0 1=some 0:=ix_of hA (k:=0) (n:=1) (by decide)
 have e4:off 0 0 1=0:=(off_of hA 0 0 1).trans rfl
 have e5:get E 0=some (.int .u32 (.ofNat y)):=by rw[<-hu0,hE];exact getW hA .u32 (n:=e) u (k:=0) (by omega)
 have e6:cvt .u64 (.ofNat y)=Int.ofNat y:=c64 hA (by omega)
 clear hC' hE hQD hRD
 cbv
 refine cro rfl hg rfl rfl hC _root_.id rfl (ft2 (bC 0) (bE 0) rfl rfl) ?_
 rintro _ _ _ rfl
 refine⟨trivial,trivial,?_⟩
 cbv
 rw[e1]
 cbv
 rw[e0,e2]
 cbv
 rw[e3]
 cbv
 rw[e4,e5]
 cbv
 rw[e6]
 cbv
 refine cgn rfl hg rfl rfl hSh _root_.id rfl (ft1 (bC 0) rfl) rfl rfl rfl ?_
 rintro _ _ _ ⟨rfl,rfl,rfl⟩ _
 refine⟨rfl,?_⟩
 simp only[renB,rcl QD (bQ 0),rcl RD (bR 0)]
 cbv
 exact hK _ _ _ ⟨rfl,rfl,rfl⟩
theorem ftM{ρ:Nat->Nat}{M:Nat->Option Blk}{l:Nat}{C:List SV}{t:TypeId}(bC:bdLB 0 C=true)(h:M (ρ l)=some ⟨ρ l,C,t⟩):foot ρ M [⟨l,C,t⟩]:=
 ⟨by show M (ρ l)=some ⟨ρ l,renL ρ C,t⟩;rw[rcl C bC];exact h,trivial⟩
theorem cRDivK{P:Program}(hP:P=Tryz.prog){n c x m e y:Nat}{f u:Nat->Nat}(hx:Nm n c f x)(hy:Nm m e u y)(hn:n<2^18)(hm2:2<=m)(hle:y<=x)(d r J rc n3:Nat)(rv:SV)(RB:LL)
 (hd:d=x/y) (hr:r=x%y) (hJ:J+m=n+1) (hcase:(r=0/\rv= .nils/\RB=[]/\n3=3)\/(r≠0/\rv= .slice 3 0 (Vg.sz r) rc/\RB=[⟨3,hs (dg r) rc,58⟩]/\n3=4)) (hrc:∃b,IsBl y b/\rc=Vg.sz (r*2^(32*m-b))):
 Con P 50 [.slice 0 0 n c,.slice 1 0 m e] [⟨0,hs f c,58⟩,⟨1,hs u e,58⟩] 2 [] (fun w L q=>w= .tup [.slice 2 0 (Vg.sz d) J,rv]/\L=⟨2,hs (dg d) J,58⟩::RB/\q=n3):=by
 have hy0:0<y:=by
  rcases Nat.eq_zero_or_pos y with h|h
  ·have:=hy.zero.2 h;omega
  ·exact h
 have hmn:m<=n:=by
  rcases hy.sz.2 with h|h
  ·omega
  ·rcases Nat.lt_or_ge n m with h2|h2
   ·exact absurd (Nat.lt_of_lt_of_le hx.lt (Nat.pow_le_pow_right (by decide) (show n<=m-1 by omega))) (Nat.not_lt.2 (Nat.le_trans h hle))
   ·exact h2
 have hme:=hy.le
 have hnc:=hx.le
 obtain⟨ci,hci,hcl⟩:∃rc:Int,(x<y->rc= -1)/\(x=y->rc=0)/\(y<x->rc=1):=⟨if x<y then -1 else if x=y then 0 else 1,fun h=>if_pos h,fun h=>by rw[if_neg (by omega),if_pos h],fun h=>by rw[if_neg (by omega),if_neg (by omega)]⟩
 have hCm:=cRCmp hP hx hy (by omega) ci hci hcl.1 hcl.2
 obtain⟨b,hb,hrc⟩:=hrc
 have hBi:=cRBits hP hy (by omega) b hb
 obtain⟨s,hs'⟩:=exq (32*m-b)
 rw[<-hs']at hrc
 obtain⟨hb1,hs32,hVl,hVs,hVn⟩:=norm_div hy.sz (by omega) hy0 hb hs'
 obtain⟨V,hV⟩:=exq (y*2^s)
 obtain⟨A',hA'⟩:=exq (x*2^s)
 rw[<-hV]at hVl hVs hVn
 have hV0:0<V:=by rw[hV];exact Nat.mul_pos hy0 (Nat.two_pow_pos s)
 obtain⟨m1,hm1⟩:=exq (m+1)
 obtain⟨n1,hn1⟩:=exq (n+1)
 have hNV:Nm m m1 (dg V) V:=by
  have h:=nm_dg (x:=V) (k:=m1) (Nat.lt_trans hVl (Nat.pow_lt_pow_right (by decide) (by omega)))
  rw[show Vg.sz V=m from h.sz.uniq hVs]at h
  exact h
 obtain⟨az,haz⟩:=exq (Vg.sz A')
 have hAl:A'<4294967296^n1:=by
  rw[hA',hn1,Nat.pow_succ]
  exact Nat.mul_lt_mul'' hx.lt (Nat.lt_of_le_of_lt (Nat.pow_le_pow_right (show 0<2 by decide) (show s<=31 by omega)) (by decide))
 have hNA:Nm az n1 (dg A') A':=by rw[haz];exact nm_dg hAl
 have hSv:=cRShl hP hy (by omega) s hs32 m1 V m hm1 hV (hNV.n_eq)
 have hSa:=cRShl hP hx (by omega) s hs32 n1 A' az hn1 hA' haz
 have hVm:V<4294967296^m:=hVl
 have hdV:d=A'/V:=by rw[hd,hA',hV];exact(Nat.mul_div_mul_right _ _ (Nat.two_pow_pos s)).symm
 have hrV:r*2^s=A'%V:=by rw[hr,hA',hV];exact(Nat.mul_mod_mul_right _ _ _).symm
 obtain⟨rr,hrr⟩:=exq (A'%V)
 rw[<-hrr]at hrV
 have hrr2:r=rr/2^s:=by rw[<-hrV];exact(Nat.mul_div_cancel _ (Nat.two_pow_pos s)).symm
 have hrrV:rr<V:=by rw[hrr];exact Nat.mod_lt _ hV0
 rw[hrV]at hrc
 -- rows
 obtain⟨Us,hUs⟩:=exq (fun i=>hs (dvU A' V i) n1:Nat->List SV)
 have bU:∀m i,bdLB m (Us i)=true:=fun m i=>by rw[hUs];exact hs_bd _ _ m
 have hUJ:hs (dg A') n1=Us J:=by rw[hUs];show _=hs (dvU A' V J) n1;rw[dvU_first (first_lt hA' hs32 hx.lt (by omega) (by omega) hVn)]
 obtain⟨Q,hQ⟩:=exq (fun t=>hs (wh (dg d) J t) J:Nat->List SV)
 have bQ:∀m i,bdLB m (Q i)=true:=fun m i=>by rw[hQ];exact hs_bd _ _ m
 have hQ0:List.replicate J (SV.int .u32 0)=Q 0:=by rw[hQ,hs_zero];exact hs_wh0 _ _
 have hQJ:Q J=hs (dg d) J:=by rw[hQ];exact hs_wh _ _
 obtain⟨S,hS⟩:=exq (dg d)
 have lS:∀i,S i<4294967296:=fun i=>by rw[hS];exact dg_lt _ _
 obtain⟨VR,hVR⟩:=exq (hs (dg V) m1)
 have bV:∀m,bdLB m VR=true:=fun k=>by rw[hVR];exact hs_bd _ _ k
 obtain⟨AR,hAR⟩:=exq (hs (dg A') n1)
 have bA:∀m,bdLB m AR=true:=fun k=>by rw[hAR];exact hs_bd _ _ k
 have hSt:∀i i1,i1=i+1->i<J->Con P 81 [.slice 0 0 n1 n1,.slice 1 0 m m1,.int .i64 (.ofNat i)] [⟨0,Us i1,58⟩,⟨1,VR,58⟩] 2 [0] (fun w L n=>w= .int .u64 (.ofNat (S i))/\L=[⟨0,Us i,58⟩]/\n=2):=fun i i1 h1 h=>by
  subst h1
  rw[hUs,hVR]
  have hq:=quo_dig A' V i hV0
  refine cRStep hP hNV (m-2) (by omega) (by omega) (Nat.le_refl n1) (by omega) i (by omega) (dvW A' V i) (dvW_lt hV0) (fun t _=>dvU_win A' V i t) (S i) (by rw[hS,hdV];exact hq.1) (dvU A' V i) (dvU_step hV0 hVm).symm
 have hcp:AR.take az++(hs (fun _=>0) n1).drop az=Us J:=by rw[<-hUJ,hAR];exact hs_copy hNA hNA.le
 have hAl2:AR.length=n1:=by rw[hAR];exact hs_len _ _
 have hAo:ones (AR.take az)=true:=by rw[hAR];exact hs_ones _ _ _
 have hdl:d<4294967296^J:=by
  rw[hdV]
  refine Nat.div_lt_of_lt_mul ?_
  have h1:A'/4294967296^J<V:=first_lt hA' hs32 hx.lt (by omega) (by omega) hVn
  exact(Nat.div_lt_iff_lt_mul (Nat.pow_pos (by decide))).1 h1
 obtain⟨dz,hdz⟩:=exq (Vg.sz d)
 have hTq:Con P 42 [.slice 0 0 J J] [⟨0,Q J,58⟩] 1 [] (fun w _ _=>w= .slice 0 0 dz J):=by
  rw[hQJ];exact cTrim hP (dg d) J J dz (Nat.le_refl _) (by omega) (by rw[hdz,tl_dg hdl])
 have hrrm:rr<4294967296^m:=Nat.lt_trans hrrV hVm
 have hTu:Con P 42 [.slice 0 0 m n1] [⟨0,Us 0,58⟩] 1 [] (fun w _ _=>w= .slice 0 0 rc n1):=by
  rw[hUs];show Con P _ _ [⟨0,hs (dvU A' V 0) n1,_⟩] 1 [] _
  rw[dvU_last,<-hrr]
  exact cTrim hP (dg rr) m n1 rc (by omega) (by omega) (by rw[hrc,tl_dg hrrm])
 have hNr:Nm rc n1 (dg rr) rr:=by
  rw[hrc];exact nm_dg (Nat.lt_trans hrrm (Nat.pow_lt_pow_right (by decide) (by omega)))
 have hU0:Us 0=hs (dg rr) n1:=by rw[hUs];show hs (dvU A' V 0) n1=_;rw[dvU_last,<-hrr]
 obtain⟨C,hC⟩:=exq (hs f c)
 have bC:∀m,bdLB m C=true:=fun m=>by rw[hC];exact hs_bd f c m
 obtain⟨E,hE⟩:=exq (hs u e)
 have bE:∀m,bdLB m E=true:=fun m=>by rw[hE];exact hs_bd u e m
 rw[<-hC]at hCm hSa⊢
 rw[<-hE]at hCm hBi hSv⊢
 rw[<-hVR]at hSv
 rw[<-hAR]at hSa
 rw[<-hQJ,<-hdz]
 obtain⟨IV,hIV⟩:=exq (fun j:Nat=>(J:Int)-1-(j:Int):Nat->Int)
 have iv:∀j i,i+j+1=J->IV j=Int.ofNat i:=fun j i h=>by rw[hIV];show(J:Int)-1-(j:Int)=(i:Int);omega
 have ivn:IV J= -1:=by rw[hIV];show(J:Int)-1-(J:Int)= -1;omega
 have iv0:IntKind.i64.wrap ((J:Int)-1)=IV 0:=by rw[hIV,IntKind.wrap_i64];show _=(J:Int)-1-((0:Nat):Int);omega
 obtain⟨m32,hm32⟩:=exq (32*m)
 have hU:=u32B hP
 obtain⟨Z0,hZ0⟩:=exq (hs (fun _=>0) n1)
 have bZ0:∀m,bdLB m Z0=true:=fun k=>by rw[hZ0];exact hs_bd _ _ k
 have hZl:Z0.length=n1:=by rw[hZ0];exact hs_len _ _
 have hZr:List.replicate n1 (SV.int .u32 0)=Z0:=by rw[hZ0];exact hs_zero n1
 rw[<-hZ0]at hcp
 have hQs:∀j i v,i+j+1=J->v=S i->wh (dg d) J (j+1)=fun k=>if k=i then v else wh (dg d) J j k:=fun j i v h hv=>wh_step _ J j i v h (by rw[hv,hS])
 clear hUs hS hVR hAR hC hE hQJ hZ0 hUJ
 obtain⟨RR,hRR⟩:=exq (hs (dg r) rc)
 have bRR:∀m,bdLB m RR=true:=fun k=>by rw[hRR];exact hs_bd _ _ k
 obtain⟨rz,hrz⟩:=exq (Vg.sz r)
 rw[<-hRR,<-hrz]at hcase
 suffices raw:Con P 50 [.slice 0 0 n c,.slice 1 0 m e] [⟨0,C,58⟩,⟨1,E,58⟩] 2 [] (fun w L q=>find L 5=some ⟨5,Q J,58⟩/\((r=0/\w= .tup [.slice 5 0 dz J,.nils])\/(r≠0/\w= .tup [.slice 5 0 dz J,.slice 6 0 rz rc]/\find L 6=some ⟨6,RR,58⟩))) by
  refine raw.weak fun v L q ⟨h5,h⟩=> ?_
  rcases hcase with⟨k1,rfl,rfl,rfl⟩|⟨k1,rfl,rfl,rfl⟩
  ·rcases h with⟨_,rfl⟩|⟨k2,_⟩
   ·exact⟨fun l=>if l=2 then 5 else l,.tup [.slice 2 0 dz J,.nils],[⟨2,Q J,58⟩],3,wkr ⟨rfl,rfl,trivial⟩ ⟨by rw[rcl (Q J) (bQ 0 J)];exact h5,rfl,rfl,bQ 3 J,trivial⟩ rfl rfl rfl,rfl,rfl,rfl⟩
   ·exact absurd k1 k2
  ·rcases h with⟨k2,_⟩|⟨_,rfl,h6⟩
   ·exact absurd k2 k1
   ·exact⟨fun l=>if l=2 then 5 else if l=3 then 6 else l,.tup [.slice 2 0 dz J,.slice 3 0 rz rc],[⟨2,Q J,58⟩,⟨3,RR,58⟩],4,wkr ⟨rfl,rfl,trivial⟩ ⟨by rw[rcl (Q J) (bQ 0 J)];exact h5,rfl,rfl,bQ 4 J,by rw[rcl RR (bRR 0)];exact h6,rfl,rfl,bRR 4,trivial⟩ rfl rfl rfl,rfl,rfl,rfl⟩
 refine cof hP Tryz.func50 ⟨blq rfl,⟨blq rfl,trivial⟩⟩ (by simpa [bdL,bd]using⟨bdb _ (bC 2),bdb _ (bE 2)⟩) ?_
 intro A g K hA hg hK
 obtain⟨bin,_,cmp,_,cvt,ix,_,_,_,_,_,_,_,_,nat,off,_,_,sub,spl⟩:=A
 have hbn:bin=intBin:=bin_of hA
 have e0:∀n,nat n=Int.ofNat n:=fun n=>nat_of hA n
 have c1:cmp .lss ci 0=false:=by
  rcases Nat.lt_or_ge y x with h|h
  ·rw[hcl.2 h];exact lss_f hA (a:=1) (b:=0) (by decide)
  ·rw[hcl.1 (by omega)];exact lss_f hA (a:=0) (b:=0) (by decide)
 have c2:cmp .eql (.ofNat m) 1=false:=eql_f hA (b:=1) (by omega)
 have a1:bin .mul .i64 32 (.ofNat m)=Int.ofNat m32:=(mulI hA (a:=32) (b:=m) (by omega)).trans (by rw[hm32])
 have a2:bin .sub .i64 (.ofNat m32) (.ofNat b)=Int.ofNat s:=(subI hA (a:=m32) (b:=b) (by omega) (by omega)).trans (by rw[hs',hm32])
 have a3:bin .add .i64 (.ofNat n) 1=Int.ofNat n1:=(addI hA (a:=n) (b:=1) (by omega)).trans (by rw[hn1])
 have a4:bin .sub .i64 (.ofNat n1) (.ofNat m)=Int.ofNat J:=(subI hA (a:=n1) (b:=m) (by omega) (by omega)).trans (congrArg Int.ofNat (by omega))
 have a5:bin .sub .i64 (.ofNat J) 1=IV 0:=by rw[hbn];exact iv0
 have a6:∀j,j<J->bin .sub .i64 (IV j) 1=IV (j+1):=fun j h=>by
  rw[hbn,hIV]
  show IntKind.i64.wrap ((J:Int)-1-(j:Int)-1)=(J:Int)-1-((j+1:Nat):Int)
  rw[IntKind.wrap_i64];omega
 have g1:∀j,cmp .geq (.ofNat j) 0=true:=fun j=>geq_t hA (b:=0) (Nat.zero_le _)
 have g1f:cmp .geq (-1) 0=false:=(congrFun (congrFun (congrFun (cmp_of hA) .geq) (-1)) 0).trans rfl
 have e4:∀j,off 0 j 1=j:=fun j=>(off_of hA 0 j 1).trans (by omega)
 have e5:∀i m,i<m->ix (.ofNat i) m=some i:=fun i m h=>ix_of hA h
 have r6:∀j i v,i+j+1=J->v=S i->spl (Q j) i [.int .u32 (.ofNat v)]=some (Q (j+1)):=fun j i v h hv=>by rw[hQ];exact splW hA .u32 (n:=J) (wh (dg d) J j) (wh (dg d) J (j+1)) (by omega) (hQs j i v h hv)
 have hSl:SlR P 27 (.slice 3 0 n1 n1) none (some (.i64,Int.ofNat m)) (.slice 3 0 m n1):=slr_h (hP▸tblOk) (show tyT 27=some _ from rfl) rfl 3 0 n1 n1 (j:=m) (by omega)
 clear hQ hQs
 cbv
 refine cro rfl hg rfl rfl hCm _root_.id rfl (ft2 (bC 0) (bE 0) rfl rfl) ?_
 rintro _ _ _ rfl
 refine⟨trivial,trivial,?_⟩
 cbv
 rw[c1]
 cbv
 rw[e0,c2]
 cbv
 rw[e0,a1]
 cbv
 refine cro rfl hg rfl rfl hBi (fun _=>1) rfl (ft1 (bE 0) rfl) ?_
 rintro _ _ _ rfl
 refine⟨trivial,trivial,?_⟩
 cbv
 rw[a2]
 cbv
 refine cgn rfl hg rfl rfl hSv (fun _=>1) rfl (ft1 (bE 0) rfl) rfl rfl rfl ?_
 rintro _ _ _ ⟨rfl,rfl,rfl⟩ _
 refine⟨rfl,?_⟩
 simp only[renB,rcl VR (bV 0)]
 cbv
 rw[e0,a3]
 cbv
 refine smk (hP▸tblOk) hg rfl rfl (show tyT 27=some _ from rfl) rfl (show tyT 58=some _ from rfl) hU rfl (m:=n1) rfl rfl (by omega) (by omega) ?_
 rw[hZr]
 cbv
 refine cgn rfl hg rfl rfl hSa (fun _=>0) rfl (ft1 (bC 0) rfl) rfl rfl rfl ?_
 rintro _ _ _ ⟨rfl,rfl,rfl⟩ _
 refine⟨rfl,?_⟩
 simp only[renB,rcl AR (bA 0)]
 cbv
 refine step_copy_sl (hP▸tblOk) hg rfl rfl (show tyT 27=some _ from rfl) rfl rfl rfl rfl rfl rfl (by rw[hAl2];exact hNA.le) hAo hNA.le (by rw[hZl];exact hNA.le) ?_
 rw[hcp]
 cbv
 rw[e0 n1,e0 m,a4]
 refine smk (hP▸tblOk) hg rfl rfl (show tyT 27=some _ from rfl) rfl (show tyT 58=some _ from rfl) hU rfl (m:=J) rfl rfl (by omega) (by omega) ?_
 rw[hQ0]
 cbv
 rw[e0 n1,a4,a5]
 have hUJ0:Us J=Us (J-0):=rfl
 rw[hUJ0]
 refine lpb Nat (fun t=>t<=J) (fun t=>J-t) (fun t=> [(11,.int .i64 (IV t))]) [0,1,4,5,6,7,8,9,10] (fun t=> [(3,Us (J-t)),(5,Q t)]) 0 (Nat.zero_le _) ?_ ?_
 ·exact wkih (by repeat' (first|exact trivial|refine⟨rfl,rfl,rfl,?_⟩|refine⟨rfl,rfl,bC 6,?_⟩|refine⟨rfl,rfl,bE 6,?_⟩|refine⟨rfl,rfl,bV 6,?_⟩|refine⟨rfl,rfl,bA 6,?_⟩|refine⟨rfl,rfl,bU 6 (J-0),?_⟩|refine⟨rfl,rfl,bQ 6 0,?_⟩))
 intro j hj
 by_cases hlt:j<J
 ·obtain⟨i,hi⟩:∃i,i+j+1=J:=⟨J-j-1,by omega⟩
  obtain⟨i1,hi1⟩:=exq (J-j)
  have hiv:=iv j i hi
  have hS1:=hSt i i1 (by omega) (by omega)
  have q1:=g1 i
  have q2:cvt .u32 (.ofNat (S i))=Int.ofNat (S i):=c32 hA (lS i)
  have q3:=r6 j i (S i) hi rfl
  have q4:=a6 j hlt
  obtain⟨In,hIn⟩:=exq (IV (j+1))
  obtain⟨Qn,hQn⟩:=exq (Q (j+1))
  obtain⟨Un,hUn⟩:=exq (Us i)
  obtain⟨Uo,hUo⟩:=exq (Us i1)
  obtain⟨Si,hSi⟩:=exq (S i)
  have bUn:∀m,bdLB m Un=true:=fun m=>by rw[hUn];exact bU m i
  have bUo:∀m,bdLB m Uo=true:=fun m=>by rw[hUo];exact bU m i1
  rw[<-hIn,hiv]at q4
  rw[<-hQn,<-hSi]at q3
  rw[<-hSi]at q2
  rw[<-hUn,<-hUo,<-hSi]at hS1
  rw[hiv,<-hi1,<-hUo]
  cbv
  rw[q1]
  cbv
  refine cgn rfl hg rfl rfl hS1 (fun l=>if l=0 then 3 else 2) rfl (ft2 (bUo 0) (bV 0) rfl rfl) rfl rfl rfl ?_
  rintro _ _ _ ⟨rfl,rfl,rfl⟩ _
  refine⟨rfl,?_⟩
  simp only[renB,rcl Un (bUn 0)]
  cbv
  rw[q2]
  cbv
  rw[e5 i J (by omega)]
  cbv
  rw[e4,q3]
  cbv
  rw[q4]
  refine⟨j+1,_root_.id,hlt,(by show J-(j+1)<i1;omega),?_⟩
  rw[show J-(j+1)=i by omega,<-hUn,hIn,hQn]
  exact wkih (by repeat' (first|exact trivial|refine⟨rfl,rfl,rfl,?_⟩|refine⟨rfl,rfl,bC 6,?_⟩|refine⟨rfl,rfl,bE 6,?_⟩|refine⟨rfl,rfl,bV 6,?_⟩|refine⟨rfl,rfl,bA 6,?_⟩|refine⟨rfl,rfl,bUn 6,?_⟩|refine⟨rfl,rfl,bQ 6 (j+1),?_⟩))
 ·have hjJ:J=j:=by omega
  subst hjJ
  rw[ivn,Nat.sub_self]
  cbv
  rw[g1f]
  cbv
  refine reg_A (hP▸tblOk) hA hg (hP▸mixed) rfl rfl ?_
  cbv
  refine stepD (en_ro rfl hg rfl rfl hTq (fun _=>5) rfl (ftM (bQ 0 _) rfl) rfl (fun _ _ _ h=>h) (blq rfl)) ?_
  cbv
  refine stepD (en_slice hg rfl rfl rfl rfl rfl hSl) ?_
  cbv
  refine stepD (en_ro rfl hg rfl rfl hTu (fun _=>3) rfl (ftM (bU 0 0) rfl) rfl (fun _ _ _ h=>h) (blq rfl)) ?_
  cbv
  by_cases hr0:r=0
  ·have hrr0:rr=0:=by rw[<-hrV,hr0,Nat.zero_mul]
   have hrc0:rc=0:=hNr.zero.2 hrr0
   have hZZ:=cRShrZ hP (c:=n1) (f:=dg rr) s hs32
   rw[<-hU0]at hZZ
   rw[hrc0]
   refine stepD (enr rfl hg rfl rfl hZZ (fun _=>3) rfl (ftM (bU 0 0) rfl) (fun _ _ _ h=>h) trivial) ?_
   cbv
   exact hK _ _ _ ⟨rfl,Or.inl ⟨hr0,rfl⟩⟩
  ·have hrc1:0<rc:=by
    refine Nat.pos_of_ne_zero fun h=>hr0 ?_
    have:=hNr.zero.1 h
    rw[hrr2,this,Nat.zero_div]
   have hSh:=cRShr hP hNr.nw (by have:=hNr.n_le hrrm;omega) hrc1 s hs32 r rz hrr2 hrz
   rw[<-hU0,<-hRR]at hSh
   have hShK:=hSh.keep (fun b hb=>by obtain rfl:=List.mem_singleton.1 hb;exact⟨blq rfl,bdb _ (bU 1 0)⟩) (fun v L q h b hb=>by obtain⟨_,rfl,_⟩:=h;obtain rfl:=List.mem_singleton.1 hb;exact Nat.le_refl _)
   refine stepDn (n':=7) (en_new rfl hg rfl rfl hShK (fun _=>3) rfl (ftM (bU 0 0) rfl) rfl (val:= .slice 1 0 rz rc) (NB:=[⟨1,RR,58⟩]) (n:=6) (n1:=2) (fun v L1 k h=> ?_) rfl rfl (fun l h1 h2=>⟨_,List.mem_singleton.2 rfl,by show 1=l;omega⟩)) (by decide) rfl (by simp[renB]) ?_
   ·obtain⟨NB,⟨h1,h2,h3⟩,h4⟩:=h
    rw[h2]at h4
    exact⟨h1,h4,h3⟩
   simp only[renB,rcl RR (bRR 0)]
   cbv
   exact hK _ _ _ ⟨rfl,Or.inr ⟨hr0,rfl,rfl⟩⟩
end Go.Proofs.YtdhmihfefgcbeaaGreat
