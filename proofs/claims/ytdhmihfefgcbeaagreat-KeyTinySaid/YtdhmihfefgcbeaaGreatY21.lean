/-
  This text proves what these texts prove: Jb, Jc, Jd, Je. Conditions: those of each theorem.
-/
import Derived.Test.YtdhmihfefgcbeaaGreatY20
set_option maxHeartbeats 8000000
set_option linter.all false
namespace Go.Proofs.YtdhmihfefgcbeaaGreat
open Go.Vg Go.RowKit
set_option maxRecDepth 200000
set_option cbv.maxSteps 100000000
theorem word4{b0 b1 b2 b3:Nat}(h1:b1<256)(h2:b2<256)(h3:b3<256):((b0*16777216|||b1*65536)|||b2*256)|||b3=((b0*256+b1)*256+b2)*256+b3:=by
 rw[show b0*16777216|||b1*65536=(b0*256+b1)*65536 from by
  rw[show(16777216:Nat)=2^24 from rfl,or_add (s:=24) (by omega)];omega]
 rw[show(b0*256+b1)*65536|||b2*256=((b0*256+b1)*256+b2)*256 from by
  rw[show(65536:Nat)=2^16 from rfl,or_add (s:=16) (by omega)];omega]
 rw[show(256:Nat)=2^8 from rfl,or_add (s:=8) h3]
theorem word_four{b:List Nat}{i:Nat}(h:4*i+4<=b.length):Sh.word ((b.drop (4*i)).take 4)=((b.getD (4*i) 0*256+b.getD (4*i+1) 0)*256+b.getD (4*i+2) 0)*256+b.getD (4*i+3) 0:=by
 have g:∀k,(b.drop (4*i)).getD k 0=b.getD (4*i+k) 0:=fun k=>by
  rw[List.getD_eq_getElem?_getD,List.getD_eq_getElem?_getD,List.getElem?_drop]
 have hl:∀k,k<4->k<(b.drop (4*i)).length:=fun k hk=>by rw[List.length_drop];omega
 rw[Sh.word_take _ (hl 3 (by decide)),Sh.word_take _ (hl 2 (by decide)),Sh.word_take _ (hl 1 (by decide)),Sh.word_take _ (hl 0 (by decide)),g,g,g,g]
 simp[Sh.word]
theorem cWords32{P:Program}(hP:P=Tryz.prog){t:TypeId}(o c:Nat)(C:List SV)(b:List Nat)(hb:∀x∈b,x<256)(hl:b.length=64)(hC:(C.drop o).take 64=by8 b)(bC:∀m,bdLB m C=true)(W:Nat->Nat)(hW:W=Sh.wd Sh.K256 b):
 Con P 137 [.slice 0 o 64 c] [⟨0,C,t⟩] 1 [] (fun v L q=>v= .slice 1 0 64 64/\L=[⟨1,lst .u32 (fun j=>Int.ofNat (W j)) 0 64,58⟩]/\q=2):=by
 suffices raw:Con P 137 [.slice 0 o 64 c] [⟨0,C,t⟩] 1 [] (fun v L _=>v= .slice 1 0 64 64/\find L 1=some ⟨1,lst .u32 (fun j=>Int.ofNat (W j)) 0 64,58⟩)from
  raw.weak fun v L q ⟨h1,h2⟩=>⟨id,.slice 1 0 64 64,_,2,by subst h1;exact weak_id ⟨rfl,rfl,trivial⟩ ⟨h2,rfl,lst_bd _ _ _ _ _,trivial⟩ rfl rfl,rfl,rfl,rfl⟩
 have hwd:∀j,j<64->Sh.wd Sh.K256 b j<4294967296:=fun j hj=>Sh.wd_lt b hb (by rw[hl];decide) (by decide) (by decide) hj
 obtain⟨wA,hwA⟩:=exq (swA b)
 have z0:wA 0=fun _=>0:=by rw[hwA];funext j;unfold swA;rw[if_neg (Nat.not_lt_zero j)]
 have zA1:∀i v,v=Sh.wd Sh.K256 b i->wA (i+1)=fun j=>if j=i then v else wA i j:=fun i v hv=>by
  rw[hwA];funext j;unfold swA
  by_cases h:j=i
  ·rw[if_pos h,if_pos (by omega),hv,h]
  ·rw[if_neg h]
   by_cases h2:j<i
   ·rw[if_pos h2,if_pos (by omega)]
   ·rw[if_neg h2,if_neg (by omega)]
 have zAg:∀i j,j<i->wA i j=Sh.wd Sh.K256 b j:=fun i j h=>by rw[hwA];unfold swA;rw[if_pos h]
 have hend:lst .u32 (fun j=>Int.ofNat (wA 64 j)) 0 64=lst .u32 (fun j=>Int.ofNat (W j)) 0 64:=lcg fun j _ hj=>by rw[zAg 64 j (by omega),hW]
 have hU32:(P.info? 58).map (·.bytes)=some 4:=by subst hP;kernel_rfl
 clear hwA
 refine cof hP Tryz.func137 ⟨blq rfl,trivial⟩ (by simpa [bdL,bd]using bdb _ (bC 1)) ?_
 intro A g K hA hg hK
 obtain⟨bin,sh,cmp,_,cvt,ix,_,_,_,_,_,_,_,_,_,off,get,_,sub⟩:=A
 have f1:∀i,i<16->cmp .lss (.ofNat i) 16=true:=fun i h=>lss_t hA (b:=16) h
 have f1f:cmp .lss (.ofNat 16) 16=false:=lss_f hA (a:=16) (b:=16) (by omega)
 have f3:∀i,i<64->cmp .lss (.ofNat i) 64=true:=fun i h=>lss_t hA (b:=64) h
 have f3f:cmp .lss (.ofNat 64) 64=false:=lss_f hA (a:=64) (b:=64) (by omega)
 have f4:∀i,i<200->bin .add .i64 (.ofNat i) 1=Int.ofNat (i+1):=fun i h=>add_of hA (by omega)
 have f5:∀i,i<64->ix (.ofNat i) 64=some i:=fun i h=>ix_of hA h
 have f6:∀i,off 0 i 1=i:=fun i=>(off_of hA 0 i 1).trans (by omega)
 have f7:=fun(f:Nat->Nat) (k:Nat) (h:k<64)=>getW hA .u32 (n:=64) f h
 have f8:=fun(f g:Nat->Nat) (k v:Nat) (h:k<64) (e:g=fun j=>if j=k then v else f j)=>splW hA .u32 (n:=64) f g h e
 have f9:∀j,j<64->ix (.ofNat j) 64=some j:=fun i h=>ix_of hA h
 have f10:∀j,off o j 1=o+j:=fun j=>(off_of hA o j 1).trans (by omega)
 have f11:∀j,j<64->get C (o+j)=some (.int .u8 (.ofNat (b.getD j 0))):=fun j h=>(get_of hA _ _).trans (byA_get hC hl h)
 simp only[lst,Nat.reduceAdd]at f7 f8 hend
 cbv
 refine smk (hP▸tblOk) hg rfl rfl (show tyT 26=some _ from rfl) rfl (show tyT 58=some _ from rfl) hU32 rfl (m:=64) rfl rfl (by decide) (by decide) ?_
 cbv
 refine lpb (Nat×(Nat->Nat)) (fun s=>s.1<=16/\s.2=wA s.1) (fun s=>16-s.1) (fun s=> [(4,.int .i64 (.ofNat s.1))]) [0,2,3] (fun s=> [(1,lst .u32 (fun j=>Int.ofNat (s.2 j)) 0 64)]) (0,fun _=>0) ⟨Nat.zero_le _,z0.symm⟩ ?_ ?_
 ·exact wkih (by repeat' (first|exact trivial|refine⟨rfl,rfl,rfl,?_⟩|refine⟨rfl,rfl,bC 2,?_⟩))
 rintro⟨i,w⟩ ⟨hi,hw⟩
 change i<=16 at hi
 change w=wA i at hw
 subst hw
 by_cases h16:i<16
 ·obtain⟨j0,hj0⟩:=exq (4*i)
  obtain⟨j1,hj1⟩:=exq (j0+1)
  obtain⟨j2,hj2⟩:=exq (j0+2)
  obtain⟨j3,hj3⟩:=exq (j0+3)
  obtain⟨y0,hy0⟩:=exq (b.getD j0 0)
  obtain⟨y1,hy1⟩:=exq (b.getD j1 0)
  obtain⟨y2,hy2⟩:=exq (b.getD j2 0)
  obtain⟨y3,hy3⟩:=exq (b.getD j3 0)
  have l0:y0<256:=by rw[hy0];exact biteA hb j0
  have l1:y1<256:=by rw[hy1];exact biteA hb j1
  have l2:y2<256:=by rw[hy2];exact biteA hb j2
  have l3:y3<256:=by rw[hy3];exact biteA hb j3
  obtain⟨s0,hs0⟩:=exq (y0*16777216)
  obtain⟨s1,hs1⟩:=exq (y1*65536)
  obtain⟨s2,hs2⟩:=exq (y2*256)
  obtain⟨u1,hu1⟩:=exq (s0|||s1)
  obtain⟨u2,hu2⟩:=exq (u1|||s2)
  obtain⟨v,hv⟩:=exq (u2|||y3)
  have u1l:u1<4294967296:=by rw[hu1];exact Nat.or_lt_two_pow (n:=32) (by omega) (by omega)
  have u2l:u2<4294967296:=by rw[hu2];exact Nat.or_lt_two_pow (n:=32) u1l (by omega)
  have hvw:v=Sh.wd Sh.K256 b i:=by
   rw[Sh.wd_lo (K:=Sh.K256) b h16 (by decide),hv,hu2,hu1,hs0,hs1,hs2,word4 l1 l2 l3]
   have:=word_four (b:=b) (i:=i) (by omega)
   rw[<-hj0,<-hj1,<-hj2,<-hj3,<-hy0,<-hy1,<-hy2,<-hy3]at this
   rw[<-this,hj0];rfl
  have g0:bin .mul .i64 4 (.ofNat i)=Int.ofNat j0:=(mulI hA (a:=4) (b:=i) (by omega)).trans (by rw[hj0])
  have g1:bin .add .i64 (.ofNat j0) 1=Int.ofNat j1:=(addI hA (a:=j0) (b:=1) (by omega)).trans (by rw[hj1])
  have g2:bin .add .i64 (.ofNat j0) 2=Int.ofNat j2:=(addI hA (a:=j0) (b:=2) (by omega)).trans (by rw[hj2])
  have g3:bin .add .i64 (.ofNat j0) 3=Int.ofNat j3:=(addI hA (a:=j0) (b:=3) (by omega)).trans (by rw[hj3])
  have gb:∀y,y<256->cvt .u32 (.ofNat y)=Int.ofNat y:=fun y h=>cvtI hA (fun h=>by cases h) (fun _=>by show y<4294967296;omega)
  have gs0:sh .shl .u32 (.ofNat y0) 24=Int.ofNat s0:=(shlW hA (k:= .u32) rfl y0 (s:=24) (by decide)).trans (congrArg Int.ofNat (by rw[hs0];show y0*16777216%4294967296=_;omega))
  have gs1:sh .shl .u32 (.ofNat y1) 16=Int.ofNat s1:=(shlW hA (k:= .u32) rfl y1 (s:=16) (by decide)).trans (congrArg Int.ofNat (by rw[hs1];show y1*65536%4294967296=_;omega))
  have gs2:sh .shl .u32 (.ofNat y2) 8=Int.ofNat s2:=(shlW hA (k:= .u32) rfl y2 (s:=8) (by decide)).trans (congrArg Int.ofNat (by rw[hs2];show y2*256%4294967296=_;omega))
  have go1:bin .or .u32 (.ofNat s0) (.ofNat s1)=Int.ofNat u1:=(orW hA (k:= .u32) rfl (a:=s0) (b:=s1) (by show s0<4294967296;omega) (by show s1<4294967296;omega)).trans (by rw[hu1])
  have go2:bin .or .u32 (.ofNat u1) (.ofNat s2)=Int.ofNat u2:=(orW hA (k:= .u32) rfl (a:=u1) (b:=s2) u1l (by show s2<4294967296;omega)).trans (by rw[hu2])
  have go3:bin .or .u32 (.ofNat u2) (.ofNat y3)=Int.ofNat v:=(orW hA (k:= .u32) rfl (a:=u2) (b:=y3) u2l (by show y3<4294967296;omega)).trans (by rw[hv])
  have c0:=f11 j0 (by omega)
  have c1:=f11 j1 (by omega)
  have c2:=f11 j2 (by omega)
  have c3:=f11 j3 (by omega)
  rw[<-hy0]at c0
  rw[<-hy1]at c1
  rw[<-hy2]at c2
  rw[<-hy3]at c3
  have hwn:=zA1 i v hvw
  obtain⟨wn,hwn2⟩:=exq (wA (i+1))
  rw[<-hwn2]at hwn
  cbv
  rw[f1 i h16]
  cbv
  refine rgM hP hA hg fun mk _=> ?_
  cbv
  rw[g0]
  cbv
  rw[f9 j0 (by omega)]
  cbv
  rw[f10 j0,c0]
  cbv
  rw[gb y0 l0]
  cbv
  rw[gs0]
  cbv
  rw[g0]
  cbv
  rw[g1]
  cbv
  rw[f9 j1 (by omega)]
  cbv
  rw[f10 j1,c1]
  cbv
  rw[gb y1 l1]
  cbv
  rw[gs1]
  cbv
  rw[go1]
  cbv
  rw[g0]
  cbv
  rw[g2]
  cbv
  rw[f9 j2 (by omega)]
  cbv
  rw[f10 j2,c2]
  cbv
  rw[gb y2 l2]
  cbv
  rw[gs2]
  cbv
  rw[go2]
  cbv
  rw[g0]
  cbv
  rw[g3]
  cbv
  rw[f9 j3 (by omega)]
  cbv
  rw[f10 j3,c3]
  cbv
  rw[gb y3 l3]
  cbv
  rw[go3]
  cbv
  rw[f5 i (by omega)]
  cbv
  rw[f6 i,f8 (wA i) wn i v (by omega) hwn]
  cbv
  rw[f4 i (by omega)]
  refine⟨(i+1,wn),id,⟨h16,hwn2⟩,(by show 16-(i+1)<16-i;omega),?_⟩
  exact wkih (by repeat' (first|exact trivial|refine⟨rfl,rfl,rfl,?_⟩|refine⟨rfl,rfl,bC 2,?_⟩))
 ·obtain rfl:i=16:=by omega
  obtain⟨w16,hw16⟩:=exq (wA 16)
  rw[<-hw16]
  cbv
  rw[f1f]
  cbv
  refine lpb (Nat×(Nat->Nat)) (fun s=>16<=s.1/\s.1<=64/\s.2=wA s.1) (fun s=>64-s.1) (fun s=> [(5,.int .i64 (.ofNat s.1))]) [0,2,3] (fun s=> [(1,lst .u32 (fun j=>Int.ofNat (s.2 j)) 0 64)]) (16,w16) ⟨Nat.le_refl _,by show 16<=64;decide,hw16⟩ ?_ ?_
  ·exact wkih (by repeat' (first|exact trivial|refine⟨rfl,rfl,rfl,?_⟩|refine⟨rfl,rfl,bC 2,?_⟩))
  rintro⟨i,w⟩ ⟨h16,hi,hw⟩
  change 16<=i at h16
  change i<=64 at hi
  change w=wA i at hw
  subst hw
  by_cases hlt:i<64
  ·obtain⟨i16,hi16⟩:=exq (i-16)
   obtain⟨i15,hi15⟩:=exq (i-15)
   obtain⟨i7,hi7⟩:=exq (i-7)
   obtain⟨i2,hi2⟩:=exq (i-2)
   obtain⟨a,ha⟩:=exq (Sh.wd Sh.K256 b i15)
   obtain⟨c,hc⟩:=exq (Sh.wd Sh.K256 b i2)
   obtain⟨d,hd⟩:=exq (Sh.wd Sh.K256 b i16)
   obtain⟨e,he⟩:=exq (Sh.wd Sh.K256 b i7)
   have hal:a<4294967296:=by rw[ha];exact hwd _ (by omega)
   have hcl:c<4294967296:=by rw[hc];exact hwd _ (by omega)
   have hdl:d<4294967296:=by rw[hd];exact hwd _ (by omega)
   have hel:e<4294967296:=by rw[he];exact hwd _ (by omega)
   have hrl:∀x k,x<4294967296->Sh.rotr 32 x k<4294967296:=fun x k hx=>by
    unfold Sh.rotr
    exact Nat.or_lt_two_pow (n:=32) (by rw[Nat.shiftRight_eq_div_pow];exact Nat.lt_of_le_of_lt (Nat.div_le_self _ _) hx) (Nat.mod_lt _ (by decide))
   obtain⟨a1,ha1⟩:=exq (Sh.rotr 32 a 7)
   obtain⟨a2,ha2⟩:=exq (Sh.rotr 32 a 18)
   obtain⟨c1,hc1⟩:=exq (Sh.rotr 32 c 17)
   obtain⟨c2,hc2⟩:=exq (Sh.rotr 32 c 19)
   have ha1l:a1<4294967296:=by rw[ha1];exact hrl _ _ hal
   have ha2l:a2<4294967296:=by rw[ha2];exact hrl _ _ hal
   have hc1l:c1<4294967296:=by rw[hc1];exact hrl _ _ hcl
   have hc2l:c2<4294967296:=by rw[hc2];exact hrl _ _ hcl
   obtain⟨a3,ha3⟩:=exq (a/2^3)
   obtain⟨c3,hc3⟩:=exq (c/2^10)
   have ha3l:a3<4294967296:=by rw[ha3];exact Nat.lt_of_le_of_lt (Nat.div_le_self _ _) hal
   have hc3l:c3<4294967296:=by rw[hc3];exact Nat.lt_of_le_of_lt (Nat.div_le_self _ _) hcl
   obtain⟨a4,ha4⟩:=exq (a1^^^a2)
   obtain⟨c4,hc4⟩:=exq (c1^^^c2)
   have ha4l:a4<4294967296:=by rw[ha4];exact Nat.xor_lt_two_pow (n:=32) ha1l ha2l
   have hc4l:c4<4294967296:=by rw[hc4];exact Nat.xor_lt_two_pow (n:=32) hc1l hc2l
   obtain⟨a5,ha5⟩:=exq (a4^^^a3)
   obtain⟨c5,hc5⟩:=exq (c4^^^c3)
   have ha5l:a5<4294967296:=by rw[ha5];exact Nat.xor_lt_two_pow (n:=32) ha4l ha3l
   have hc5l:c5<4294967296:=by rw[hc5];exact Nat.xor_lt_two_pow (n:=32) hc4l hc3l
   obtain⟨u1,hu1⟩:=exq ((d+a5)%4294967296)
   obtain⟨u2,hu2⟩:=exq ((u1+e)%4294967296)
   obtain⟨u3,hu3⟩:=exq ((u2+c5)%4294967296)
   have hv:u3=Sh.wd Sh.K256 b i:=by
    rw[Sh.wd_hi (K:=Sh.K256) b h16 (show i<Sh.K256.ks.length from hlt),<-hi16,<-hi15,<-hi7,<-hi2,<-ha,<-hc,<-hd,<-he]
    have e1:Sh.small Sh.K256.wb Sh.K256.s0 a=a5:=by
     rw[ha5,ha4,ha3,ha1,ha2,<-Nat.shiftRight_eq_div_pow];rfl
    have e2:Sh.small Sh.K256.wb Sh.K256.s1 c=c5:=by
     rw[hc5,hc4,hc3,hc1,hc2,<-Nat.shiftRight_eq_div_pow];rfl
    rw[e1,e2,hu3,hu2,hu1]
    show _=_%4294967296
    omega
   have hR1:=cRot32 hP a 7 hal (by decide) a1 ha1
   have hR2:=cRot32 hP a 18 hal (by decide) a2 ha2
   have hR3:=cRot32 hP c 17 hcl (by decide) c1 hc1
   have hR4:=cRot32 hP c 19 hcl (by decide) c2 hc2
   have g15:=f7 (wA i) i15 (by omega)
   have g2:=f7 (wA i) i2 (by omega)
   have g16:=f7 (wA i) i16 (by omega)
   have g7:=f7 (wA i) i7 (by omega)
   rw[zAg i i15 (by omega),<-ha]at g15
   rw[zAg i i2 (by omega),<-hc]at g2
   rw[zAg i i16 (by omega),<-hd]at g16
   rw[zAg i i7 (by omega),<-he]at g7
   have q15:bin .sub .i64 (.ofNat i) 15=Int.ofNat i15:=(subI hA (a:=i) (b:=15) (by omega) (by omega)).trans (by rw[hi15])
   have q2:bin .sub .i64 (.ofNat i) 2=Int.ofNat i2:=(subI hA (a:=i) (b:=2) (by omega) (by omega)).trans (by rw[hi2])
   have q16:bin .sub .i64 (.ofNat i) 16=Int.ofNat i16:=(subI hA (a:=i) (b:=16) (by omega) (by omega)).trans (by rw[hi16])
   have q7:bin .sub .i64 (.ofNat i) 7=Int.ofNat i7:=(subI hA (a:=i) (b:=7) (by omega) (by omega)).trans (by rw[hi7])
   have r1:bin .xor .u32 (.ofNat a1) (.ofNat a2)=Int.ofNat a4:=(xorW hA (k:= .u32) rfl (a:=a1) (b:=a2) ha1l ha2l).trans (by rw[ha4])
   have r2:sh .shr .u32 (.ofNat a) 3=Int.ofNat a3:=(shrI hA (k:= .u32) (a:=a) (b:=3) (by decide)).trans (by rw[ha3])
   have r3:bin .xor .u32 (.ofNat a4) (.ofNat a3)=Int.ofNat a5:=(xorW hA (k:= .u32) rfl (a:=a4) (b:=a3) ha4l ha3l).trans (by rw[ha5])
   have r4:bin .xor .u32 (.ofNat c1) (.ofNat c2)=Int.ofNat c4:=(xorW hA (k:= .u32) rfl (a:=c1) (b:=c2) hc1l hc2l).trans (by rw[hc4])
   have r5:sh .shr .u32 (.ofNat c) 10=Int.ofNat c3:=(shrI hA (k:= .u32) (a:=c) (b:=10) (by decide)).trans (by rw[hc3])
   have r6:bin .xor .u32 (.ofNat c4) (.ofNat c3)=Int.ofNat c5:=(xorW hA (k:= .u32) rfl (a:=c4) (b:=c3) hc4l hc3l).trans (by rw[hc5])
   have r7:bin .add .u32 (.ofNat d) (.ofNat a5)=Int.ofNat u1:=(addW hA (k:= .u32) rfl d a5).trans (by rw[hu1];rfl)
   have r8:bin .add .u32 (.ofNat u1) (.ofNat e)=Int.ofNat u2:=(addW hA (k:= .u32) rfl u1 e).trans (by rw[hu2];rfl)
   have r9:bin .add .u32 (.ofNat u2) (.ofNat c5)=Int.ofNat u3:=(addW hA (k:= .u32) rfl u2 c5).trans (by rw[hu3];rfl)
   have hwn:=zA1 i u3 hv
   obtain⟨wn,hwn2⟩:=exq (wA (i+1))
   rw[<-hwn2]at hwn
   cbv
   rw[f3 i hlt]
   cbv
   refine rgM hP hA hg fun mk _=> ?_
   cbv
   rw[q15]
   cbv
   rw[f5 i15 (by omega)]
   cbv
   rw[f6 i15,g15]
   cbv
   rw[q2]
   cbv
   rw[f5 i2 (by omega)]
   cbv
   rw[f6 i2,g2]
   cbv
   refine rgM hP hA hg fun mk _=> ?_
   cbv
   rw[q16]
   cbv
   rw[f5 i16 (by omega)]
   cbv
   rw[f6 i16,g16]
   cbv
   refine sdv hg hR1 ?_
   cbv
   refine sdv hg hR2 ?_
   cbv
   rw[r1]
   cbv
   rw[r2]
   cbv
   rw[r3]
   cbv
   rw[r7]
   cbv
   rw[q7]
   cbv
   rw[f5 i7 (by omega)]
   cbv
   rw[f6 i7,g7]
   cbv
   rw[r8]
   cbv
   refine sdv hg hR3 ?_
   cbv
   refine sdv hg hR4 ?_
   cbv
   rw[r4]
   cbv
   rw[r5]
   cbv
   rw[r6]
   cbv
   rw[r9]
   cbv
   rw[f5 i (by omega)]
   cbv
   rw[f6 i,f8 (wA i) wn i u3 (by omega) hwn]
   cbv
   rw[f4 i (by omega)]
   refine⟨(i+1,wn),id,⟨by show 16<=i+1;omega,hlt,hwn2⟩,(by show 64-(i+1)<64-i;omega),?_⟩
   exact wkih (by repeat' (first|exact trivial|refine⟨rfl,rfl,rfl,?_⟩|refine⟨rfl,rfl,bC 2,?_⟩))
  ·obtain rfl:i=64:=by omega
   obtain⟨wr,hwr⟩:=exq (wA 64)
   rw[<-hwr]at hend⊢
   cbv
   rw[f3f]
   cbv
   rw[hend]
   exact hK _ _ _ ⟨rfl,rfl⟩
theorem xor_ones{x:Nat}(h:x<4294967296):x^^^4294967295=4294967296-1-x:=by
 apply Nat.eq_of_testBit_eq
 intro i
 rw[Nat.testBit_xor,show(4294967295:Nat)=2^32-1 from rfl,Nat.testBit_two_pow_sub_one,show 4294967296-1-x=2^32-(x+1) by omega,Nat.testBit_two_pow_sub_succ (show x<2^32 from h)]
 by_cases hi:i<32
 ·simp[hi]
 ·have:x.testBit i=false:=Nat.testBit_lt_two_pow (Nat.lt_of_lt_of_le h (Nat.pow_le_pow_right (n:=2) (by decide) (show 32<=i by omega)))
  simp[hi,this]
theorem lst_tl_get{f:Nat->Nat}{tl:List SV}{i:Nat}(h:i<8):(lst .u32 (fun j=>Int.ofNat (f j)) 0 8++tl)[i]? =some (.int .u32 (.ofNat (f i))):=by
 rw[List.getElem?_append_left (by rw[lle];exact h),lst_get _ _ h,Nat.zero_add]
theorem lst_tl_set{f g:Nat->Nat}{tl:List SV}{i v:Nat}(h:i<8)(hg:g=fun j=>if j=i then v else f j):Vg.splice (lst .u32 (fun j=>Int.ofNat (f j)) 0 8++tl) i [.int .u32 (.ofNat v)]=lst .u32 (fun j=>Int.ofNat (g j)) 0 8++tl:=by
 rw[<-lst_set (K:= .u32) (f:=fun j=>Int.ofNat (f j)) (g:=fun j=>Int.ofNat (g j)) (v:=Int.ofNat v) (k:=i) (s:=0) (n:=8) h (by rw[hg];simp) (fun j _ _ h3=>by rw[hg];simp only;rw[if_neg (by omega)])]
 have hl:=lle .u32 (fun j=>Int.ofNat (f j)) 0 8
 simp only[Vg.splice,List.length_cons,List.length_nil]
 rw[List.take_append_of_le_length (by omega),List.drop_append_of_le_length (by omega)]
 simp only[List.append_assoc]
theorem cBlock32{P:Program}(hP:P=Tryz.prog){t:TypeId}(hf hf' kf:Nat->Nat)(hkf:kf=fun j=>Sh.K256.ks.getD j 0)(o c:Nat)(C:List SV)(b:List Nat)(hb:∀x∈b,x<256)(hl:b.length=64)(hC:(C.drop o).take 64=by8 b)(bC:∀m,bdLB m C=true)(h8:Sh.ok8 32 (soA hf))(hS:soA hf'=Sh.turn Sh.K256 (soA hf) b):
 Con P 112 [.slice 0 0 8 8,.slice 1 o 64 c,.slice 2 0 64 64] [⟨0,lst .u32 (fun j=>Int.ofNat (hf j)) 0 8,58⟩,⟨1,C,t⟩,⟨2,lst .u32 (fun j=>Int.ofNat (kf j)) 0 64,58⟩] 3 [0] (fun v L q=>v= .tup []/\L=[⟨0,lst .u32 (fun j=>Int.ofNat (hf' j)) 0 8,58⟩]/\q=3):=by
 suffices raw:Con P 112 [.slice 0 0 8 8,.slice 1 o 64 c,.slice 2 0 64 64] [⟨0,lst .u32 (fun j=>Int.ofNat (hf j)) 0 8,58⟩,⟨1,C,t⟩,⟨2,lst .u32 (fun j=>Int.ofNat (kf j)) 0 64,58⟩] 3 [0] (fun v L _=>v= .tup []/\find L 0=some ⟨0,lst .u32 (fun j=>Int.ofNat (hf' j)) 0 8,58⟩)from
  raw.weak fun v L q ⟨h1,h2⟩=>⟨id,.tup [],_,3,by subst h1;exact weak_id ⟨rfl,rfl,trivial⟩ ⟨h2,rfl,lst_bd _ _ _ _ _,trivial⟩ rfl rfl,rfl,rfl,rfl⟩
 obtain⟨W,hW⟩:=exq (Sh.wd Sh.K256 b)
 have hSch:=cWords32 hP (t:=t) o c C b hb hl hC bC W hW
 have hwl:∀j,j<64->W j<4294967296:=fun j hj=>by rw[hW];exact Sh.wd_lt b hb (by rw[hl];decide) (by decide) (by decide) hj
 have hU32:(P.info? 58).map (·.bytes)=some 4:=by subst hP;kernel_rfl
 refine cof hP Tryz.func112 ⟨blq rfl,blq rfl,blq rfl,trivial⟩ (bkb (by simp only[List.all_cons,List.all_nil,bC 3,lst_bd];rfl)) ?_
 intro A g K hA hg hK
 obtain⟨bin,_,cmp,_,_,ix,_,_,_,_,_,_,_,_,_,off,get,_,_,spl⟩:=A
 have f1:∀i,i<64->cmp .lss (.ofNat i) 64=true:=fun i h=>lss_t hA (b:=64) h
 have f1f:cmp .lss (.ofNat 64) 64=false:=lss_f hA (a:=64) (b:=64) (by omega)
 have f2:∀i,i<8->cmp .lss (.ofNat i) 8=true:=fun i h=>lss_t hA (b:=8) h
 have f2f:cmp .lss (.ofNat 8) 8=false:=lss_f hA (a:=8) (b:=8) (by omega)
 have f3:∀i,i<200->bin .add .i64 (.ofNat i) 1=Int.ofNat (i+1):=fun i h=>add_of hA (by omega)
 have f4:∀i,i<64->ix (.ofNat i) 64=some i:=fun i h=>ix_of hA h
 have f5:∀i,i<8->ix (.ofNat i) 8=some i:=fun i h=>ix_of hA h
 have f6:∀i,off 0 i 1=i:=fun i=>(off_of hA 0 i 1).trans (by omega)
 have f7:=fun(f:Nat->Nat) (k:Nat) (h:k<64)=>getW hA .u32 (n:=64) f h
 have f7h:=fun(f:Nat->Nat) (k:Nat) (h:k<8)=>getW hA .u32 (n:=8) f h
 have f8h:=fun(f g:Nat->Nat) (k v:Nat) (h:k<8) (e:g=fun j=>if j=k then v else f j)=>splW hA .u32 (n:=8) f g h e
 simp only[lst,Nat.reduceAdd]at f7 f7h f8h
 have i0:ix 0 8=some 0:=f5 0 (by decide)
 have i1:ix 1 8=some 1:=f5 1 (by decide)
 have i2:ix 2 8=some 2:=f5 2 (by decide)
 have i3:ix 3 8=some 3:=f5 3 (by decide)
 have i4:ix 4 8=some 4:=f5 4 (by decide)
 have i5:ix 5 8=some 5:=f5 5 (by decide)
 have i6:ix 6 8=some 6:=f5 6 (by decide)
 have i7:ix 7 8=some 7:=f5 7 (by decide)
 have fx:∀a b,a<4294967296->b<4294967296->bin .xor .u32 (.ofNat a) (.ofNat b)=Int.ofNat (a^^^b):=fun a b h1 h2=>xorW hA (k:= .u32) rfl h1 h2
 have fa:∀a b,a<4294967296->b<4294967296->bin .and .u32 (.ofNat a) (.ofNat b)=Int.ofNat (a&&&b):=fun a b h1 h2=>andW hA (k:= .u32) rfl h1 h2
 have fp:∀a b,bin .add .u32 (.ofNat a) (.ofNat b)=Int.ofNat ((a+b)%4294967296):=fun a b=>addW hA (k:= .u32) rfl a b
 have lx:∀a b,a<4294967296->b<4294967296->a^^^b<4294967296:=fun a b h1 h2=>Nat.xor_lt_two_pow (n:=32) h1 h2
 have la:∀a b,b<4294967296->a&&&b<4294967296:=fun a b h2=>Nat.and_lt_two_pow (n:=32) a h2
 have lr:∀x k,x<4294967296->Sh.rotr 32 x k<4294967296:=fun x k hx=>by
  unfold Sh.rotr
  exact Nat.or_lt_two_pow (n:=32) (by rw[Nat.shiftRight_eq_div_pow];exact Nat.lt_of_le_of_lt (Nat.div_le_self _ _) hx) (Nat.mod_lt _ (by decide))
 cbv
 refine cgn rfl hg rfl rfl hSch (fun l=>l+1) rfl ⟨by rw[rcl C (bC 0)];rfl,trivial⟩ rfl rfl rfl ?_
 rintro _ _ _ ⟨rfl,rfl,rfl⟩ _
 refine⟨rfl,?_⟩
 cbv
 refine step_buildSlice0 (hP▸tblOk) hg rfl rfl (show tyT 26=some _ from rfl) rfl ?_
 cbv
 refine step_app_own (hP▸tblOk) hg rfl rfl (show tyT 26=some _ from rfl) rfl (show tyT 58=some _ from rfl) hU32 (by decide) (show ev _ _=some (.slice 4 0 0 0)from rfl) (show find _ 4=some _ from rfl) rfl (Nat.le_refl 0) rfl (by decide) (show ev _ _=some (.slice 0 0 8 8)from rfl) (show find _ 0=some _ from rfl) (by exact Nat.le_refl 8) rfl (by decide) (by decide) ?_
 intro c' tl X M hX hM hMc hc' hXl hXb
 obtain rfl:M=8:=hM
 have btl:∀q,bdLB q tl=true:=fun q=>by
  have h1:=hXb q rfl (by rfl) rfl
  have h2:X.drop 8=tl:=by rw[hX];rfl
  rw[<-h2];exact bdLB_drop h1
 obtain⟨VC,hVC⟩:=exq (fun f=>lst .u32 (fun j=>Int.ofNat (f j)) 0 8++tl:(Nat->Nat)->List SV)
 have bV:∀f q,bdLB q (VC f)=true:=fun f q=>by rw[hVC];exact bap (lst_bd _ _ _ _ _) (btl q)
 have gV:∀f i,i<8->get (VC f) i=some (.int .u32 (.ofNat (f i))):=fun f i h=>by rw[hVC];exact(get_of hA _ _).trans (lst_tl_get h)
 have sV:∀f f' i v,i<8->f'=(fun j=>if j=i then v else f j)->spl (VC f) i [.int .u32 (.ofNat v)]=some (VC f'):=fun f f' i v h e=>by
  rw[hVC]
  refine(spl_of hA (by rw[List.length_append,lle];omega) _).trans ?_
  rw[lst_tl_set h e]
 have hXV:X=VC hf:=by rw[hX,hVC];rfl
 rw[hXV]
 clear hX hXl hXb hXV hVC
 clear X
 cbv
 refine lpb (Nat×(Nat->Nat)) (fun s=>s.1<=64/\soA s.2=Sh.rnd Sh.K256 b (soA hf) s.1) (fun s=>64-s.1) (fun s=> [(8,.int .i64 (.ofNat s.1))]) [0,1,2,6,7] (fun s=> [(5,VC s.2)]) (0,hf) ⟨Nat.zero_le _,rfl⟩ ?_ ?_
 ·exact wkih (by repeat' (first|exact trivial|refine⟨rfl,rfl,rfl,?_⟩|refine⟨rfl,rfl,bC 6,?_⟩|refine⟨rfl,rfl,bV hf 6,?_⟩))
 rintro⟨i,x⟩ ⟨hi,hx⟩
 change i<=64 at hi
 change soA x=Sh.rnd Sh.K256 b (soA hf) i at hx
 have hx8:Sh.ok8 32 (soA x):=by rw[hx];exact Sh.ok8_rnd (K:=Sh.K256) b h8 (by decide) i hi
 by_cases hlt:i<64
 ·have hl4:x 4<4294967296:=hx8.2.2.2.2.1
  have hl0:x 0<4294967296:=hx8.1
  have hl1:x 1<4294967296:=hx8.2.1
  have hl2:x 2<4294967296:=hx8.2.2.1
  have hl5:x 5<4294967296:=hx8.2.2.2.2.2.1
  have hl6:x 6<4294967296:=hx8.2.2.2.2.2.2.1
  obtain⟨p1,hp1⟩:=exq (Sh.rotr 32 (x 4) 6)
  obtain⟨p2,hp2⟩:=exq (Sh.rotr 32 (x 4) 11)
  obtain⟨p3,hp3⟩:=exq (Sh.rotr 32 (x 4) 25)
  obtain⟨q1,hq1⟩:=exq (Sh.rotr 32 (x 0) 2)
  obtain⟨q2,hq2⟩:=exq (Sh.rotr 32 (x 0) 13)
  obtain⟨q3,hq3⟩:=exq (Sh.rotr 32 (x 0) 22)
  have hP1:=cRot32 hP (x 4) 6 hl4 (by decide) p1 hp1
  have hP2:=cRot32 hP (x 4) 11 hl4 (by decide) p2 hp2
  have hP3:=cRot32 hP (x 4) 25 hl4 (by decide) p3 hp3
  have hQ1:=cRot32 hP (x 0) 2 hl0 (by decide) q1 hq1
  have hQ2:=cRot32 hP (x 0) 13 hl0 (by decide) q2 hq2
  have hQ3:=cRot32 hP (x 0) 22 hl0 (by decide) q3 hq3
  have lp1:p1<4294967296:=by rw[hp1];exact lr _ _ hl4
  have lp2:p2<4294967296:=by rw[hp2];exact lr _ _ hl4
  have lp3:p3<4294967296:=by rw[hp3];exact lr _ _ hl4
  have lq1:q1<4294967296:=by rw[hq1];exact lr _ _ hl0
  have lq2:q2<4294967296:=by rw[hq2];exact lr _ _ hl0
  have lq3:q3<4294967296:=by rw[hq3];exact lr _ _ hl0
  obtain⟨p4,hp4⟩:=exq (p1^^^p2)
  have lp4:p4<4294967296:=by rw[hp4];exact lx _ _ lp1 lp2
  obtain⟨s1,hs1⟩:=exq (p4^^^p3)
  obtain⟨q4,hq4⟩:=exq (q1^^^q2)
  have lq4:q4<4294967296:=by rw[hq4];exact lx _ _ lq1 lq2
  obtain⟨s0,hs0⟩:=exq (q4^^^q3)
  obtain⟨a1,ha1⟩:=exq (x 4&&&x 5)
  obtain⟨ne,hne⟩:=exq (4294967296-1-x 4)
  have lne:ne<4294967296:=by omega
  obtain⟨a2,ha2⟩:=exq (ne&&&x 6)
  have la1:a1<4294967296:=by rw[ha1];exact la _ _ hl5
  have la2:a2<4294967296:=by rw[ha2];exact la _ _ hl6
  obtain⟨ch,hch⟩:=exq (a1^^^a2)
  obtain⟨b1,hb1⟩:=exq (x 0&&&x 1)
  obtain⟨b2,hb2⟩:=exq (x 0&&&x 2)
  obtain⟨b3,hb3⟩:=exq (x 1&&&x 2)
  have lb1:b1<4294967296:=by rw[hb1];exact la _ _ hl1
  have lb2:b2<4294967296:=by rw[hb2];exact la _ _ hl2
  have lb3:b3<4294967296:=by rw[hb3];exact la _ _ hl2
  obtain⟨b4,hb4⟩:=exq (b1^^^b2)
  have lb4:b4<4294967296:=by rw[hb4];exact lx _ _ lb1 lb2
  obtain⟨mj,hmj⟩:=exq (b4^^^b3)
  obtain⟨m1,hm1⟩:=exq ((x 7+s1)%4294967296)
  obtain⟨m2,hm2⟩:=exq ((m1+ch)%4294967296)
  obtain⟨m3,hm3⟩:=exq ((m2+kf i)%4294967296)
  obtain⟨t1,ht1⟩:=exq ((m3+W i)%4294967296)
  obtain⟨m4,hm4⟩:=exq ((t1+s0)%4294967296)
  obtain⟨u,hu⟩:=exq ((m4+mj)%4294967296)
  obtain⟨v,hv⟩:=exq ((x 3+t1)%4294967296)
  have hrnd:=rndA_parts (soA x) (kf i) (W i) (s1:=s1) (ch:=ch) (m1:=m1) (m2:=m2) (m3:=m3) (m4:=m4) (t1:=t1) (s0:=s0) (maj:=mj) (u:=u) (v:=v) (by rw[hs1,hp4,hp1,hp2,hp3];rfl) (by rw[hch,ha1,ha2,hne];rfl) hm1 hm2 hm3 ht1 (by rw[hs0,hq4,hq1,hq2,hq3];rfl) (by rw[hmj,hb4,hb1,hb2,hb3];rfl) hm4 hu hv
  obtain⟨ki,hki⟩:=exq (kf i)
  obtain⟨wi,hwi⟩:=exq (W i)
  have g8:=f7 kf i hlt
  have g7:=f7 W i hlt
  rw[<-hki]at g8 hm3
  rw[<-hwi]at g7 ht1
  have r1:bin .xor .u32 (.ofNat p1) (.ofNat p2)=Int.ofNat p4:=(fx _ _ lp1 lp2).trans (by rw[hp4])
  have r2:bin .xor .u32 (.ofNat p4) (.ofNat p3)=Int.ofNat s1:=(fx _ _ lp4 lp3).trans (by rw[hs1])
  have r3:bin .and .u32 (.ofNat (x 4)) (.ofNat (x 5))=Int.ofNat a1:=(fa _ _ hl4 hl5).trans (by rw[ha1])
  have r4:bin .xor .u32 (.ofNat (x 4)) 4294967295=Int.ofNat ne:=(fx (x 4) 4294967295 hl4 (by decide)).trans (by rw[hne,xor_ones hl4])
  have r5:bin .and .u32 (.ofNat ne) (.ofNat (x 6))=Int.ofNat a2:=(fa _ _ lne hl6).trans (by rw[ha2])
  have r6:bin .xor .u32 (.ofNat a1) (.ofNat a2)=Int.ofNat ch:=(fx _ _ la1 la2).trans (by rw[hch])
  have r7:bin .add .u32 (.ofNat (x 7)) (.ofNat s1)=Int.ofNat m1:=(fp _ _).trans (by rw[hm1])
  have r8:bin .add .u32 (.ofNat m1) (.ofNat ch)=Int.ofNat m2:=(fp _ _).trans (by rw[hm2])
  have r9:bin .add .u32 (.ofNat m2) (.ofNat ki)=Int.ofNat m3:=(fp _ _).trans (by rw[hm3])
  have r10:bin .add .u32 (.ofNat m3) (.ofNat wi)=Int.ofNat t1:=(fp _ _).trans (by rw[ht1])
  have r11:bin .xor .u32 (.ofNat q1) (.ofNat q2)=Int.ofNat q4:=(fx _ _ lq1 lq2).trans (by rw[hq4])
  have r12:bin .xor .u32 (.ofNat q4) (.ofNat q3)=Int.ofNat s0:=(fx _ _ lq4 lq3).trans (by rw[hs0])
  have r13:bin .and .u32 (.ofNat (x 0)) (.ofNat (x 1))=Int.ofNat b1:=(fa _ _ hl0 hl1).trans (by rw[hb1])
  have r14:bin .and .u32 (.ofNat (x 0)) (.ofNat (x 2))=Int.ofNat b2:=(fa _ _ hl0 hl2).trans (by rw[hb2])
  have r15:bin .and .u32 (.ofNat (x 1)) (.ofNat (x 2))=Int.ofNat b3:=(fa _ _ hl1 hl2).trans (by rw[hb3])
  have r16:bin .xor .u32 (.ofNat b1) (.ofNat b2)=Int.ofNat b4:=(fx _ _ lb1 lb2).trans (by rw[hb4])
  have r17:bin .xor .u32 (.ofNat b4) (.ofNat b3)=Int.ofNat mj:=(fx _ _ lb4 lb3).trans (by rw[hmj])
  have r18:bin .add .u32 (.ofNat t1) (.ofNat s0)=Int.ofNat m4:=(fp _ _).trans (by rw[hm4])
  have r19:bin .add .u32 (.ofNat m4) (.ofNat mj)=Int.ofNat u:=(fp _ _).trans (by rw[hu])
  have r20:bin .add .u32 (.ofNat (x 3)) (.ofNat t1)=Int.ofNat v:=(fp _ _).trans (by rw[hv])
  obtain⟨x1,hx1⟩:=exq (fun j=>if j=7 then x 6 else x j:Nat->Nat)
  obtain⟨x2,hx2⟩:=exq (fun j=>if j=6 then x 5 else x1 j:Nat->Nat)
  obtain⟨x3,hx3⟩:=exq (fun j=>if j=5 then x 4 else x2 j:Nat->Nat)
  obtain⟨x4,hx4⟩:=exq (fun j=>if j=4 then v else x3 j:Nat->Nat)
  obtain⟨x5,hx5⟩:=exq (fun j=>if j=3 then x 2 else x4 j:Nat->Nat)
  obtain⟨x6,hx6⟩:=exq (fun j=>if j=2 then x 1 else x5 j:Nat->Nat)
  obtain⟨x7,hx7⟩:=exq (fun j=>if j=1 then x 0 else x6 j:Nat->Nat)
  obtain⟨x9,hx9⟩:=exq (fun j=>if j=0 then u else x7 j:Nat->Nat)
  have v0:=gV x 0 (by decide)
  have v1:=gV x 1 (by decide)
  have v2:=gV x 2 (by decide)
  have v4:=gV x 4 (by decide)
  have v5:=gV x 5 (by decide)
  have v6:=gV x 6 (by decide)
  have v7:=gV x 7 (by decide)
  have w5:=gV x1 5 (by decide)
  rw[show x1 5=x 5 by rw[hx1];rfl]at w5
  have w4:=gV x2 4 (by decide)
  rw[show x2 4=x 4 by rw[hx2,hx1];rfl]at w4
  have w3:=gV x3 3 (by decide)
  rw[show x3 3=x 3 by rw[hx3,hx2,hx1];rfl]at w3
  have w2:=gV x4 2 (by decide)
  rw[show x4 2=x 2 by rw[hx4,hx3,hx2,hx1];rfl]at w2
  have w1:=gV x5 1 (by decide)
  rw[show x5 1=x 1 by rw[hx5,hx4,hx3,hx2,hx1];rfl]at w1
  have w0:=gV x6 0 (by decide)
  rw[show x6 0=x 0 by rw[hx6,hx5,hx4,hx3,hx2,hx1];rfl]at w0
  have s7:=sV x x1 7 (x 6) (by decide) hx1
  have s6:=sV x1 x2 6 (x 5) (by decide) hx2
  have s5:=sV x2 x3 5 (x 4) (by decide) hx3
  have s4:=sV x3 x4 4 v (by decide) hx4
  have s3:=sV x4 x5 3 (x 2) (by decide) hx5
  have s2:=sV x5 x6 2 (x 1) (by decide) hx6
  have z1:=sV x6 x7 1 (x 0) (by decide) hx7
  have z0:=sV x7 x9 0 u (by decide) hx9
  have hx10:soA x9=⟨u,x 0,x 1,x 2,v,x 4,x 5,x 6⟩:=by rw[hx9,hx7,hx6,hx5,hx4,hx3,hx2,hx1];rfl
  cbv
  rw[f1 i hlt]
  cbv
  refine rgM hP hA hg fun mk _=> ?_
  cbv
  rw[i4]
  cbv
  rw[f6 4,v4]
  cbv
  refine sdv hg hP1 ?_
  cbv
  rw[i4]
  cbv
  rw[f6 4,v4]
  cbv
  refine sdv hg hP2 ?_
  cbv
  rw[r1]
  cbv
  rw[i4]
  cbv
  rw[f6 4,v4]
  cbv
  refine sdv hg hP3 ?_
  cbv
  rw[r2]
  cbv
  refine rgM hP hA hg fun mk _=> ?_
  cbv
  rw[i4]
  cbv
  rw[f6 4,v4]
  cbv
  rw[i5]
  cbv
  rw[f6 5,v5]
  cbv
  rw[r3]
  cbv
  rw[i4]
  cbv
  rw[f6 4,v4]
  cbv
  rw[r4]
  cbv
  rw[i6]
  cbv
  rw[f6 6,v6]
  cbv
  rw[r5]
  cbv
  rw[r6]
  cbv
  refine rgM hP hA hg fun mk _=> ?_
  cbv
  rw[i7]
  cbv
  rw[f6 7,v7]
  cbv
  rw[r7]
  cbv
  rw[r8]
  cbv
  rw[f4 i hlt]
  cbv
  rw[f6 i,g8]
  cbv
  rw[r9]
  cbv
  rw[f4 i hlt]
  cbv
  rw[f6 i,g7]
  cbv
  rw[r10]
  cbv
  refine rgM hP hA hg fun mk _=> ?_
  cbv
  rw[i0]
  cbv
  rw[f6 0,v0]
  cbv
  refine sdv hg hQ1 ?_
  cbv
  rw[i0]
  cbv
  rw[f6 0,v0]
  cbv
  refine sdv hg hQ2 ?_
  cbv
  rw[r11]
  cbv
  rw[i0]
  cbv
  rw[f6 0,v0]
  cbv
  refine sdv hg hQ3 ?_
  cbv
  rw[r12]
  cbv
  refine rgM hP hA hg fun mk _=> ?_
  cbv
  rw[i0]
  cbv
  rw[f6 0,v0]
  cbv
  rw[i1]
  cbv
  rw[f6 1,v1]
  cbv
  rw[r13]
  cbv
  rw[i0]
  cbv
  rw[f6 0,v0]
  cbv
  rw[i2]
  cbv
  rw[f6 2,v2]
  cbv
  rw[r14]
  cbv
  rw[r16]
  cbv
  rw[i1]
  cbv
  rw[f6 1,v1]
  cbv
  rw[i2]
  cbv
  rw[f6 2,v2]
  cbv
  rw[r15]
  cbv
  rw[r17]
  cbv
  rw[i6]
  cbv
  rw[f6 6,v6]
  cbv
  rw[i7]
  cbv
  rw[f6 7,s7]
  cbv
  rw[i5]
  cbv
  rw[f6 5,w5]
  cbv
  rw[i6]
  cbv
  rw[f6 6,s6]
  cbv
  rw[i4]
  cbv
  rw[f6 4,w4]
  cbv
  rw[i5]
  cbv
  rw[f6 5,s5]
  cbv
  rw[i3]
  cbv
  rw[f6 3,w3]
  cbv
  rw[r20]
  cbv
  rw[i4]
  cbv
  rw[f6 4,s4]
  cbv
  rw[i2]
  cbv
  rw[f6 2,w2]
  cbv
  rw[i3]
  cbv
  rw[f6 3,s3]
  cbv
  rw[i1]
  cbv
  rw[f6 1,w1]
  cbv
  rw[i2]
  cbv
  rw[f6 2,s2]
  cbv
  rw[i0]
  cbv
  rw[f6 0,w0]
  cbv
  rw[i1]
  cbv
  rw[f6 1,z1]
  cbv
  rw[r18]
  cbv
  rw[r19]
  cbv
  rw[i0]
  cbv
  rw[f6 0,z0]
  cbv
  rw[f3 i (by omega)]
  refine⟨(i+1,x9),id,⟨hlt,?_⟩,(by show 64-(i+1)<64-i;omega),?_⟩
  ·show soA x9=Sh.rnd Sh.K256 b (soA hf) (i+1)
   rw[Sh.rnd_succ (K:=Sh.K256) b _ (by decide) (show i<Sh.K256.ks.length from hlt),<-hx,show Sh.K256.ks.getD i 0=kf i by rw[hkf],show Sh.wd Sh.K256 b i=W i by rw[hW],hrnd,hx10]
   rfl
  ·exact wkih (by repeat' (first|exact trivial|refine⟨rfl,rfl,rfl,?_⟩|refine⟨rfl,rfl,bC 6,?_⟩|refine⟨rfl,rfl,bV x9 6,?_⟩))
 ·obtain rfl:i=64:=by omega
  have hfin:Sh.turn Sh.K256 (soA hf) b=Sh.add8 32 (soA hf) (soA x):=by
   rw[Sh.turn_rnd (K:=Sh.K256) b _ (by decide),hx];rfl
  obtain⟨hc,hhc⟩:=exq (fun i j=>if j<i then(hf j+x j)%4294967296 else hf j:Nat->Nat->Nat)
  have hc0:hc 0=hf:=by rw[hhc];rfl
  have hcS:∀i v,v=(hf i+x i)%4294967296->hc (i+1)=fun j=>if j=i then v else hc i j:=fun i v hv=>by
   rw[hhc];funext j
   show(if j<i+1 then _ else _)=if j=i then v else if j<i then _ else _
   by_cases h:j=i
   ·rw[if_pos h,if_pos (by omega),hv,h]
   ·rw[if_neg h]
    by_cases h2:j<i
    ·rw[if_pos h2,if_pos (by omega)]
    ·rw[if_neg h2,if_neg (by omega)]
  have hcg:∀i,hc i i=hf i:=fun i=>by rw[hhc];exact if_neg (Nat.lt_irrefl i)
  have hend:lst .u32 (fun j=>Int.ofNat (hc 8 j)) 0 8=lst .u32 (fun j=>Int.ofNat (hf' j)) 0 8:=lcg fun j _ hj=>by
   have e:soA (hc 8)=soA hf':=by
    rw[hS,hfin,hhc];rfl
   rw[soA_eq e j (by omega)]
  clear hhc
  simp only[lst,Nat.reduceAdd]at hend
  cbv
  rw[f1f]
  cbv
  refine lpb (Nat×(Nat->Nat)) (fun s=>s.1<=8/\s.2=hc s.1) (fun s=>8-s.1) (fun s=> [(14,.int .i64 (.ofNat s.1))]) [0,7] (fun s=> [(0,lst .u32 (fun j=>Int.ofNat (s.2 j)) 0 8)]) (0,hf) ⟨Nat.zero_le _,hc0.symm⟩ ?_ ?_
  ·exact wkih (by repeat' (first|exact trivial|refine⟨rfl,rfl,rfl,?_⟩|refine⟨rfl,rfl,bC 6,?_⟩|refine⟨rfl,rfl,bV x 6,?_⟩))
  rintro⟨i,h⟩ ⟨hi,hh⟩
  change i<=8 at hi
  change h=hc i at hh
  subst hh
  by_cases h8:i<8
  ·obtain⟨hi0,hhi0⟩:=exq (hf i)
   obtain⟨xi,hxi⟩:=exq (x i)
   obtain⟨v,hv⟩:=exq ((hi0+xi)%4294967296)
   have hn:=hcS i v (by rw[hv,hhi0,hxi])
   obtain⟨hnx,hnx2⟩:=exq (hc (i+1))
   rw[<-hnx2]at hn
   have g9:=f7h (hc i) i h8
   rw[hcg i,<-hhi0]at g9
   have g7:=gV x i h8
   rw[<-hxi]at g7
   have r1:bin .add .u32 (.ofNat hi0) (.ofNat xi)=Int.ofNat v:=(fp _ _).trans (by rw[hv])
   cbv
   rw[f2 i h8]
   cbv
   refine rgM hP hA hg fun mk _=> ?_
   cbv
   rw[f5 i h8]
   cbv
   rw[f6 i,g9]
   cbv
   rw[f5 i h8]
   cbv
   rw[f6 i,g7]
   cbv
   rw[r1]
   cbv
   rw[f5 i h8]
   cbv
   rw[f6 i,f8h (hc i) hnx i v h8 hn]
   cbv
   rw[f3 i (by omega)]
   refine⟨(i+1,hnx),id,⟨h8,hnx2⟩,(by show 8-(i+1)<8-i;omega),?_⟩
   exact wkih (by repeat' (first|exact trivial|refine⟨rfl,rfl,rfl,?_⟩|refine⟨rfl,rfl,bC 6,?_⟩|refine⟨rfl,rfl,bV x 6,?_⟩))
  ·obtain rfl:i=8:=by omega
   obtain⟨h9,hh9⟩:=exq (hc 8)
   rw[<-hh9]at hend⊢
   cbv
   rw[f2f]
   cbv
   rw[hend]
   exact hK _ _ _ ⟨rfl,rfl⟩
end Go.Proofs.YtdhmihfefgcbeaaGreat
namespace Go.Vg
open Go.RowKit Go.Lib
section
variable {P:Program}{g:G}{T:Nat->Option Ty}{F:FF}{L:LL}{n:Nat}
theorem step_bytes2(hT:TOk P T){o:Oper}{m0 N:Nat}{ms:List Nat}(hg:GI g m0 ms N)(hd':dstLt N o.dst=true){x:Operand}{src dst:Nat}(ho:o.op= .convert src dst x){i j:Ty}(hs:T src=some i)(hsd:i.d= .s){e es:Nat}(ht:T dst=some j)(hd:j.d= .sl e es)(he:P.underlying e=some (.int .u8))
 {s:ByteArray} (hx:ev (look F) x=some (.str s)) (hsz:s.size<=140737488355328) {K:FF->LL->Nat->Prop} (hK:∀c,s.size<=c->c<=maxLen->K (putO F o.dst (.slice n 0 s.size c)) (L++[⟨n,bts s++List.replicate (c-s.size) (.int .u8 0),e⟩]) (n+1)):Step g P o K F L n:=by
 have h1:=str_of hT hs hsd
 have h2:=(sl_of hT ht hd).1
 refine step_new hg hd' fun β a W hm hf=> ?_
 obtain⟨e1,b1⟩:=evd hf hx
 have hrun:=run_bytes_of_string (P:=P) W src dst e s h1 h2 he
 have hge:=grownCap_ge W s.size 0 e
 have hle:=grownCap_le_maxLen W s.size 0 e (by simp only[maxLen];omega)
 have hsz:(bytesRow s (grownCap W s.size 0 e)).size=(bts s++List.replicate (grownCap W s.size 0 e-s.size) (SV.int .u8 0)).length:=by
  simp[bytesRow,bts]
 refine⟨.slice n 0 s.size (grownCap W s.size 0 e),_,W.heap.size,_,e,((bytesRow s (grownCap W s.size 0 e)).size,(bytesRow s (grownCap W s.size 0 e)).size+1),fun γ hγ=>run_convert_op ho (W':=W.drew.alloc (.cells (bytesRow s (grownCap W s.size 0 e)) e ((bytesRow s (grownCap W s.size 0 e)).size,(bytesRow s (grownCap W s.size 0 e)).size+1))) ?_,upd_drew W _,Nat.le_refl _,Or.inr ?_,?_,?_,Nat.lt_succ_self n,hK _ hge hle⟩
 ·rw[e1]
  simp only[den,hγ]
  exact hrun
 ·rw[hsz];exact Nat.le_refl _
 ·rw[show(W.drew.alloc (.cells (bytesRow s (grownCap W s.size 0 e)) e ((bytesRow s (grownCap W s.size 0 e)).size,(bytesRow s (grownCap W s.size 0 e)).size+1))).heap[W.heap.size]? =some (.cells (bytesRow s (grownCap W s.size 0 e)) e ((bytesRow s (grownCap W s.size 0 e)).size,(bytesRow s (grownCap W s.size 0 e)).size+1))from heap_alloc_new W.drew _]
  congr 2
  apply Array.ext'
  simp only[bytesRow,Array.toList_append,Array.toList_map,Array.toList_replicate,dle,List.map_append,List.map_replicate,bts,List.map_map]
  rfl
 ·rw[bdi]
  intro v hv
  rcases List.mem_append.1 hv with hv|hv
  ·exact(bdi _ _).1 (bts_bd _ _) v hv
  ·rw[(List.mem_replicate.1 hv).2];trivial
end
end Go.Vg
namespace Go.Proofs.YtdhmihfefgcbeaaGreat
open Go.Vg Go.RowKit
set_option maxRecDepth 200000
set_option cbv.maxSteps 100000000
theorem rowX_bytes(s:ByteArray){c:Nat}(h1:s.size<=c)(h2:c<=maxLen):RowX (bl s) c (bts s++List.replicate (c-s.size) (.int .u8 0)) where
 dat:=by rw[bts_by8,List.take_left' (by rw[by8_len])]
 len:=by rw[List.length_append,bts_len,List.length_replicate];omega
 le:=by rw[bll];exact h1
 max:=h2
 b:=fun m=>bap (bts_bdLB m s) (bdLB_reps m _)
theorem cPadded{P:Program}(hP:P=Tryz.prog)(s:ByteArray)(hs:s.size<2^40)(pl:List Nat)(hpl:pl=Sh.pad Sh.K256 (bl s)):
 Con P 111 [.str s] [] 0 [] (fun v L q=>∃k c X,k=pl.length/\RowX pl c X/\v= .slice 0 0 k c/\L=[⟨0,X,5⟩]/\q=1):=by
 have hU8:=bytesU8 hP
 obtain⟨r0,hr0⟩:=exq (bl s)
 obtain⟨n,hn⟩:=exq s.size
 have hr0l:r0.length=n:=by rw[hr0,bll,hn]
 rw[<-hr0]at hpl
 have hpe:=padA_eq r0
 rw[<-hpl]at hpe
 obtain⟨n8,hn8⟩:=exq (n*8%0x10000000000000000)
 obtain⟨l1,hl1⟩:=exq (r0++[128])
 have hl1l:l1.length=n+1:=by rw[hl1,List.length_append,hr0l];rfl
 obtain⟨zt,hzt⟩:=exq ((64-(l1.length+8)%64)%64)
 obtain⟨l2,hl2⟩:=exq (l1++List.replicate zt 0)
 have hl2l:l2.length=l1.length+zt:=by rw[hl2,List.length_append,List.length_replicate]
 have hfin:pl=l2++Sh.be 8 n8:=by
  rw[hpe,hl2,hl1,hzt,hl1l,hn8,hr0l]
  simp only[List.append_assoc,Nat.add_zero]
 obtain⟨IV,hIV⟩:=exq (fun j:Nat=>(7:Int)-(j:Int):Nat->Int)
 have iv:∀j,j<8->IV j=Int.ofNat (7-j):=fun j h=>by rw[hIV];show(7:Int)-(j:Int)=((7-j:Nat):Int);omega
 have iv0:IV 0=7:=by rw[hIV];rfl
 have iv8:IV 8= -1:=by rw[hIV];rfl
 suffices raw:Con P 111 [.str s] [] 0 [] (fun v L q=>∃k c X,k=pl.length/\RowX pl c X/\v= .slice 2 0 k c/\find L 2=some ⟨2,X,5⟩) by
  refine raw.weak fun v L q hq=> ?_
  obtain⟨k,c,X,h1,h2,rfl,h4⟩:=hq
  refine⟨fun _=>2,.slice 0 0 k c,[⟨0,X,5⟩],1,wkr ⟨rfl,rfl,trivial⟩ ⟨by rw[rcl X (h2.b 0)];exact h4,rfl,rfl,h2.b 1,trivial⟩ rfl rfl rfl,k,c,X,h1,h2,rfl,rfl,rfl⟩
 clear hpe hpl
 have hsb:∀c,s.size<=c->c<=maxLen->RowX r0 c (bts s++List.replicate (c-s.size) (.int .u8 0)):=fun c h1 h2=>by rw[hr0];exact rowX_bytes s h1 h2
 clear hr0
 refine cof hP Tryz.func111 (bdb _ rfl) (bkb rfl) ?_
 intro A g K hA hg hK
 obtain⟨bin,sh,cmp,_,cvt,_,nn,_,_,_,_,_,slen,_,nat,_,_,_,sub⟩:=A
 have e0:slen s=Int.ofNat n:=(slen_of hA s).trans (by rw[hn])
 have e1:∀k,nat k=Int.ofNat k:=fun k=>nat_of hA k
 have e2:∀k,bin .rem .i64 (.ofNat k) 64=Int.ofNat (k%64):=fun k=>remW hA k 64
 have e3:∀k,k≠56->cmp .neq (.ofNat k) 56=true:=fun k h=>neq_t hA (b:=56) h
 have e3f:cmp .neq (.ofNat 56) 56=false:=neq_f hA (a:=56) (b:=56) rfl
 have e4:cvt .u64 (.ofNat n)=Int.ofNat n:=cvtI hA (fun h=>by cases h) (fun _=>by show n<0x10000000000000000;omega)
 have e5:bin .mul .u64 (.ofNat n) 8=Int.ofNat n8:=(mulW hA (k:= .u64) rfl n 8).trans (by rw[hn8];rfl)
 have e6:∀j,j<8->cmp .geq (.ofNat (7-j)) 0=true:=fun j h=>geq_t hA (b:=0) (Nat.zero_le _)
 have e6f:cmp .geq (-1) 0=false:=(congrFun (congrFun (congrFun (cmp_of hA) .geq) (-1)) 0).trans rfl
 have e7:∀j,j<8->bin .sub .i64 (IV j) 1=IV (j+1):=fun j h=>by
  have hb:bin=intBin:=bin_of hA
  rw[hb,hIV]
  show IntKind.i64.wrap ((7-(j:Int))-1)=7-((j+1:Nat):Int)
  rw[IntKind.wrap_i64];omega
 cbv
 refine step_bytes2 (hP▸tblOk) hg rfl rfl (show tyT 9=some _ from rfl) rfl (show tyT 143=some _ from rfl) rfl (hP▸Tryz.underlying5) rfl (by omega) ?_
 intro c0 hc0 hc0m
 have hX0:=hsb c0 hc0 hc0m
 rw[<-hn]at hX0⊢
 obtain⟨X0,hXe⟩:=exq (bts s++List.replicate (c0-n) (.int .u8 0):List SV)
 rw[<-hXe]at hX0⊢
 clear hXe
 cbv
 refine sbp (hP▸tblOk) hg rfl rfl (show tyT 143=some _ from rfl) rfl (show tyT 5=some _ from rfl) hU8 rfl (L0:=[⟨1,[.int .u8 128],5⟩]) (B1:=[⟨0,X0,5⟩]) (lb:=0) ((hX0.row hr0l.symm 5 0).mid (A:=[]) (C:=[⟨1,[.int .u8 128],5⟩]) rfl) rfl rfl (hX0.row hr0l.symm _ 0) rfl rfl (d:=[128]) (Or.inr ⟨1,0,1,1,_,rfl,rfl,rfl,rfl⟩) (by show r0.length+1<=_;omega) ?_
 intro v2 B2 hR2
 obtain⟨k2,c2,X2,hk2,rfl,rfl,hX2⟩:=hR2.some (by simp)
 rw[<-hl1]at hk2 hX2
 cbv
 refine lpb (List Nat×Nat×Nat×List SV) (fun s=>(∃z,z<=zt/\s.1=l1++List.replicate z 0)/\s.2.1=s.1.length/\RowX s.1 s.2.2.1 s.2.2.2) (fun s=>2*64+n-s.2.1) (fun s=> [(3,.slice 2 0 s.2.1 s.2.2.1)]) [0] (fun s=> [(2,s.2.2.2)]) (l1,k2,c2,X2) ⟨⟨0,Nat.zero_le _,by simp⟩,hk2,hX2⟩ ?_ ?_
 ·exact wkih (by repeat' (first|exact trivial|refine⟨rfl,rfl,rfl,?_⟩|refine⟨rfl,rfl,hX2.b 3,?_⟩))
 rintro⟨l,k,c,X⟩ ⟨⟨z,hz,hl⟩,hk,hX⟩
 change l=l1++List.replicate z 0 at hl
 change k=l.length at hk
 change RowX l c X at hX
 have hkz:k=l1.length+z:=by rw[hk,hl,List.length_append,List.length_replicate]
 by_cases hzz:k%64=56
 ·have hze:z=zt:=by omega
  rw[hze,<-hl2]at hl
  cbv
  rw[e1 k]
  cbv
  rw[e2 k,hzz]
  cbv
  rw[e3f]
  cbv
  rw[e0]
  cbv
  rw[e4]
  cbv
  rw[e5]
  cbv
  rw[<-iv0]
  refine lpb (Nat×List Nat×Nat×Nat×List SV) (fun s=>s.1<=8/\s.2.1=l2++(Sh.be 8 n8).take s.1/\s.2.2.1=s.2.1.length/\RowX s.2.1 s.2.2.2.1 s.2.2.2.2) (fun s=>8-s.1) (fun s=> [(3,.slice 2 0 s.2.2.1 s.2.2.2.1),(5,.int .i64 (IV s.1))]) [0,4] (fun s=> [(2,s.2.2.2.2)]) (0,l,k,c,X) ⟨Nat.zero_le _,by show l=l2++[];rw[List.append_nil,hl],hk,hX⟩ ?_ ?_
  ·exact wkih (by repeat' (first|exact trivial|refine⟨rfl,rfl,rfl,?_⟩|refine⟨rfl,rfl,hX.b 3,?_⟩))
  clear hX hkz hk hl
  rintro⟨i,l,k,c,X⟩ ⟨hi,hl,hk,hX⟩
  change i<=8 at hi
  change l=l2++(Sh.be 8 n8).take i at hl
  change k=l.length at hk
  change RowX l c X at hX
  have hkz:k=l2.length+i:=by rw[hk,hl,List.length_append,List.length_take,beA_len];omega
  by_cases hlt:i<8
  ·obtain⟨i7,hi7⟩:=exq (7-i)
   obtain⟨b8,hb8⟩:=exq (8*i7)
   obtain⟨y,hy⟩:=exq (n8/2^b8)
   obtain⟨yb,hyb⟩:=exq (y%256)
   have hn8l:n8<0x10000000000000000:=by rw[hn8];exact Nat.mod_lt _ (by decide)
   have hyl:y<0x10000000000000000:=by rw[hy];exact Nat.lt_of_le_of_lt (Nat.div_le_self _ _) hn8l
   have g1:=iv i hlt
   rw[<-hi7]at g1
   have g2:bin .mul .i64 8 (.ofNat i7)=Int.ofNat b8:=(mulI hA (a:=8) (b:=i7) (by omega)).trans (by rw[hb8])
   have g4:nn (.ofNat b8)=true:=nn_t hA b8
   have g5:sh .shr .u64 (.ofNat n8) (.ofNat b8)=Int.ofNat y:=(shrI hA (k:= .u64) (a:=n8) (b:=b8) (by show b8<=64;omega)).trans (by rw[hy])
   have g6:bin .and .u64 (.ofNat y) 255=Int.ofNat yb:=(andW hA (k:= .u64) rfl (a:=y) (b:=255) hyl (by decide)).trans (congrArg Int.ofNat (by
    rw[hyb,show(255:Nat)=2^8-1 from rfl,Nat.and_two_pow_sub_one_eq_mod]))
   have g7:cvt .u8 (.ofNat yb)=Int.ofNat yb:=(cvt8A hA yb).trans (by rw[Nat.mod_eq_of_lt (by omega)])
   have g8:=e6 i hlt
   rw[<-hi7]at g8
   have g9:=e7 i hlt
   rw[g1]at g9
   rw[g1]
   cbv
   rw[g8]
   cbv
   rw[g2]
   cbv
   rw[g4]
   cbv
   rw[g5]
   cbv
   rw[g6]
   cbv
   rw[g7]
   cbv
   refine sbp (hP▸tblOk) hg rfl rfl (show tyT 143=some _ from rfl) rfl (show tyT 5=some _ from rfl) hU8 rfl (L0:=[⟨1,[.int .u8 128],5⟩,⟨3,[.int .u8 (.ofNat yb)],5⟩]) (B1:=[⟨2,X,5⟩]) (lb:=2) ((hX.row hk 5 2).mid (A:=[⟨1,[.int .u8 128],5⟩]) (C:=[⟨3,[.int .u8 (.ofNat yb)],5⟩]) rfl) rfl rfl (hX.row hk _ 2) rfl rfl (d:=[yb]) (Or.inr ⟨3,0,1,1,_,rfl,rfl,rfl,rfl⟩) (by show l.length+1<=_;omega) ?_
   intro v' B' hR'
   obtain⟨k',c',X',hk',rfl,rfl,hX'⟩:=hR'.some (by simp)
   cbv
   rw[g9]
   refine⟨(i+1,l++[yb],k',c',X'),fun l=>if l=2 then 4 else l,⟨hlt,?_,hk',hX'⟩,(by show 8-(i+1)<8-i;omega),?_⟩
   ·show l++[yb]=l2++(Sh.be 8 n8).take (i+1)
    rw[hl,beA_take 8 n8 hlt,List.append_assoc,hyb,hy,hb8,hi7,show 7-i=8-1-i by omega,Nat.pow_mul]
   exact wkr (by repeat' (first|exact trivial|refine⟨rfl,rfl,?_⟩)) ⟨rfl,rfl,rfl,rfl,by rw[rcl X' (hX'.b 0)];rfl,rfl,rfl,hX'.b 3,trivial⟩ rfl rfl rfl
  ·obtain rfl:i=8:=by omega
   rw[List.take_of_length_le (by rw[beA_len];exact Nat.le_refl 8),<-hfin]at hl
   rw[hl]at hk hX
   rw[iv8]
   cbv
   rw[e6f]
   cbv
   exact hK _ _ _ ⟨k,c,X,hk,hX,rfl,rfl⟩
 ·have hzl:z<zt:=by omega
  cbv
  rw[e1 k]
  cbv
  rw[e2 k]
  cbv
  rw[e3 _ hzz]
  cbv
  refine sbp (hP▸tblOk) hg rfl rfl (show tyT 143=some _ from rfl) rfl (show tyT 5=some _ from rfl) hU8 rfl (L0:=[⟨1,[.int .u8 128],5⟩,⟨3,[.int .u8 0],5⟩]) (B1:=[⟨2,X,5⟩]) (lb:=2) ((hX.row hk 5 2).mid (A:=[⟨1,[.int .u8 128],5⟩]) (C:=[⟨3,[.int .u8 0],5⟩]) rfl) rfl rfl (hX.row hk _ 2) rfl rfl (d:=[0]) (Or.inr ⟨3,0,1,1,_,rfl,rfl,rfl,rfl⟩) (by show l.length+1<=_;omega) ?_
  intro v' B' hR'
  obtain⟨k',c',X',hk',rfl,rfl,hX'⟩:=hR'.some (by simp)
  cbv
  refine⟨(l++[0],k',c',X'),fun l=>if l=2 then 4 else l,⟨⟨z+1,hzl,by rw[hl,List.append_assoc,List.replicate_succ']⟩,hk',hX'⟩,?_,?_⟩
  ·show 2*64+n-k'<2*64+n-k
   have:k'=k+1:=by rw[hk',hk,List.length_append];rfl
   omega
  exact wkr (by repeat' (first|exact trivial|refine⟨rfl,rfl,?_⟩)) ⟨rfl,rfl,rfl,rfl,by rw[rcl X' (hX'.b 0)];rfl,rfl,rfl,hX'.b 3,trivial⟩ rfl rfl rfl
end Go.Proofs.YtdhmihfefgcbeaaGreat
namespace Go.Vg
open Go.RowKit
section
variable {P:Program}{T:Nat->Option Ty}
theorem slr_lh(hT:TOk P T){t:Nat}{i:Ty}(ht:T t=some i){e es:Nat}(hd:i.d= .sl e es)(l o m c:Nat){k k':IntKind}{j h:Nat}(hj:j<h)(hh:h<=c):SlR P t (.slice l o m c) (some (k,Int.ofNat j)) (some (k',Int.ofNat h)) (.slice l (o+j*es) (h-j) (c-j)):=by
 obtain⟨hu,hs⟩:=sl_of hT ht hd
 have he:P.elem t=e:=by simp[Program.elem,hu]
 refine⟨fun β W=> ?_,fun p h=>h⟩
 show(Instr.sliceAt t (.slice (some ⟨β l,o,none⟩) m c) (some (.int k (Int.ofNat j))) (some (.int k' (Int.ofNat h))) none).run P W=_
 rw[run_sliceAt_slice W t _ _ _ _ (by rw[he];exact hu),run_slice_lh W t _ m c (by rw[he];exact hu) k k' (Int.ofNat j) (Int.ofNat h) (by simp) (by simp;omega) (by simpa using hh),he,rsz hs]
 simp only[Result.andThen,sliced,den]
 rw[if_neg (by simp;omega)]
 simp[addr_add']
end
end Go.Vg
namespace Go.Proofs.YtdhmihfefgcbeaaGreat
open Go.Vg Go.RowKit
set_option maxRecDepth 200000
set_option cbv.maxSteps 100000000
theorem be4(x:Nat):Sh.be 4 x=[x/2^24%256,x/2^16%256,x/2^8%256,x%256]:=by
 show [x/256^3%256,x/256^2%256,x/256^1%256,x/256^0%256]=_
 rw[Nat.pow_zero,Nat.div_one]
theorem cROf32{P:Program}(hP:P=Tryz.prog)(id:Nat)(h0:Nat->Nat)(hid:(id=1/\soA h0=Sh.i224)\/(id=2/\soA h0=Sh.i256))(h8:Sh.ok8 32 (soA h0))(s dg:ByteArray)(hs:s.size<2^40)(hdg:bl dg=Sh.of id (bl s)):
 Con P 83 [.int .i64 (.ofNat id),.str s] [] 0 [] (fun v _ _=>v= .str dg):=by
 have hid4:1<=id/\id<=4:=by omega
 obtain⟨pl,hpl⟩:=exq (Sh.pad Sh.K256 (bl s))
 obtain⟨z,hz⟩:=exq (Sh.size id)
 obtain⟨bk,hbk,hbk2⟩:∃b,b=Sh.blk id/\b=64:=⟨_,rfl,by rcases hid with⟨rfl,_⟩|⟨rfl,_⟩<;>rfl⟩
 have hzl:z<=32:=by rw[hz];rcases hid with⟨rfl,_⟩|⟨rfl,_⟩<;>decide
 have hBl:=cRBlock hP id hid4 bk hbk
 have hSz:=cRSize hP id hid4 z hz
 have hBe:=cBegin32 hP id h0 hid
 obtain⟨kf,hkf⟩:=exq (fun j=>Sh.K256.ks.getD j 0)
 have hK32:=cK32 hP kf hkf
 have hPa:=cPadded hP s hs pl hpl
 obtain⟨m,hm⟩:=exq pl.length
 have hml:m%64=0/\m/64<=(bl s).length+1/\m<2^41:=by
  rw[hm,hpl,padA_eq]
  simp only[List.length_append,List.length_replicate,beA_len,List.length_cons,List.length_nil,bll]
  omega
 have hpb:∀x∈pl,x<256:=fun x hx=>by
  rw[hpl,padA_eq]at hx
  rcases List.mem_append.1 hx with h|h
  ·exact bl_lt s x h
  ·rcases List.mem_append.1 h with h|h
   ·obtain rfl:=List.mem_singleton.1 h;decide
   ·rcases List.mem_append.1 h with h|h
    ·rw[(List.mem_replicate.1 h).2];decide
    ·exact beA_b _ _ x h
 have hof:bl dg=(Sh.out 4 (Sh.tq Sh.K256 (soA h0) pl (m/64))).take z:=by
  have e:∀size s0,soA h0=s0->Sh.hash Sh.K256 s0 size (bl s)=(Sh.out 4 (Sh.tq Sh.K256 (soA h0) pl (m/64))).take size:=fun size s0 he=>by
   rw[Sh.hash_hst (by decide) s0 size (bl s) (by rw[<-hpl,<-hm];exact hml.2.1),Sh.hst,<-hpl,<-hm,he];rfl
  rw[hdg,hz]
  rcases hid with⟨rfl,h⟩|⟨rfl,h⟩
  ·exact e 28 _ h
  ·exact e 32 _ h
 have hU8:=bytesU8 hP
 clear hpl hdg
 refine cof hP Tryz.func83 (bdb _ rfl) (bkb rfl) ?_
 intro A g K hA hg hK
 obtain⟨bin,sh,cmp,_,cvt,ix,_,_,_,_,_,_,_,_,nat,off⟩:=A
 have e0:cmp .eql (.ofNat bk) 64=true:=eql_t hA (b:=64) hbk2
 have e1:nat m=Int.ofNat m:=nat_of hA m
 have e2:∀i,i<m->cmp .lss (.ofNat i) (.ofNat m)=true:=fun i h=>lss_t hA h
 have e2f:cmp .lss (.ofNat m) (.ofNat m)=false:=lss_f hA (by omega)
 have e3:∀i,i<m->bin .add .i64 (.ofNat i) 64=Int.ofNat (i+64):=fun i h=>addI hA (b:=64) (by omega)
 have e4:∀i,i<8->cmp .lss (.ofNat i) 8=true:=fun i h=>lss_t hA (b:=8) h
 have e4f:cmp .lss (.ofNat 8) 8=false:=lss_f hA (a:=8) (b:=8) (by omega)
 have e5:∀i,i<8->bin .add .i64 (.ofNat i) 1=Int.ofNat (i+1):=fun i h=>add_of hA (by omega)
 have e6:∀i,i<8->ix (.ofNat i) 8=some i:=fun i h=>ix_of hA h
 have e7:∀i,off 0 i 1=i:=fun i=>(off_of hA 0 i 1).trans (by omega)
 have e8:=fun(f:Nat->Nat) (k:Nat) (h:k<8)=>getW hA .u32 (n:=8) f h
 simp only[lst,Nat.reduceAdd]at e8
 cbv
 refine cva rfl hg rfl rfl hBl ?_
 rintro _ _ _ rfl
 refine⟨trivial,?_⟩
 cbv
 rw[e0]
 cbv
 refine cgn rfl hg rfl rfl hBe _root_.id rfl trivial rfl rfl rfl ?_
 rintro _ _ _ ⟨rfl,rfl,rfl⟩ _
 refine⟨rfl,?_⟩
 cbv
 refine cgn rfl hg rfl rfl hK32 _root_.id rfl trivial rfl rfl rfl ?_
 rintro _ _ _ ⟨rfl,rfl,rfl⟩ _
 refine⟨rfl,?_⟩
 cbv
 refine cgn rfl hg rfl rfl hPa _root_.id rfl trivial rfl rfl rfl ?_
 rintro _ _ _ ⟨km,c,X,hkm,hX,rfl,rfl,rfl⟩ _
 obtain rfl:km=m:=by rw[hkm,hm]
 have rX:∀ρ,renL ρ X=X:=fun ρ=>rcl X (hX.b 0)
 refine⟨rfl,?_⟩
 simp only[renB,rX]
 cbv
 refine lpb (Nat×Nat×(Nat->Nat)) (fun s=>s.2.1=s.1*64/\s.2.1<=km/\soA s.2.2=Sh.tq Sh.K256 (soA h0) pl s.1) (fun s=>km-s.2.1) (fun s=> [(9,.int .i64 (.ofNat s.2.1))]) [0,1,5,6,7,8] (fun s=> [(0,lst .u32 (fun j=>Int.ofNat (s.2.2 j)) 0 8)]) (0,0,h0) ⟨rfl,Nat.zero_le _,rfl⟩ ?_ ?_
 ·exact wkih (by repeat' (first|exact trivial|refine⟨rfl,rfl,rfl,?_⟩|refine⟨rfl,rfl,hX.b 3,?_⟩))
 rintro⟨j,iv,h⟩ ⟨hiv,hil,hh⟩
 change iv=j*64 at hiv
 change iv<=km at hil
 change soA h=Sh.tq Sh.K256 (soA h0) pl j at hh
 by_cases hlt:iv<km
 ·obtain⟨i2,hi2⟩:=exq (iv+64)
  have hi2m:i2<=km:=by omega
  have hcm:km<=c:=by rw[hm];exact hX.le
  obtain⟨h',hh'⟩:=exq (f8A (Sh.turn Sh.K256 (soA h) ((pl.drop (j*64)).take 64)))
  obtain⟨c2,hc2⟩:=exq (c-iv)
  have hB:=cBlock32 hP (t:=5) h h' kf hkf iv c2 X ((pl.drop (j*64)).take 64) (fun x hx=>hpb x (List.mem_of_mem_drop (List.mem_of_mem_take hx))) (by rw[List.length_take,List.length_drop,<-hm];omega) (by
   have h1:=hX.dat
   rw[by8_take,by8_drop,<-h1,<-hiv,List.drop_take,List.take_take]
   congr 1
   rw[<-hm];omega) hX.b (by rw[hh];exact Sh.ok8_tq (K:=Sh.K256) (by decide) h8 pl j) (by rw[hh',soA_f8])
  have hSl:SlR P 143 (.slice 2 0 km c) (some (.i64,Int.ofNat iv)) (some (.i64,Int.ofNat i2)) (.slice 2 iv 64 c2):=by
   have:=slr_lh (hP▸tblOk) (show tyT 143=some _ from rfl) rfl 2 0 km c (k:= .i64) (k':= .i64) (j:=iv) (h:=i2) (by omega) (by omega)
   rw[Nat.zero_add,Nat.mul_one,show i2-iv=64 by omega,<-hc2]at this
   exact this
  have g3:=e3 iv hlt
  rw[<-hi2]at g3
  cbv
  rw[e1]
  cbv
  rw[e2 iv hlt]
  cbv
  rw[g3]
  cbv
  refine ssl hg rfl rfl rfl rfl rfl hSl ?_
  cbv
  refine cgn rfl hg rfl rfl hB (fun l=>if l=0 then 0 else if l=1 then 2 else 1) rfl ⟨rfl,by rw[rX];rfl,rfl,trivial⟩ rfl rfl rfl ?_
  rintro _ _ _ ⟨rfl,rfl,rfl⟩ _
  refine⟨rfl,?_⟩
  cbv
  rw[g3]
  refine⟨(j+1,i2,h'),_root_.id,⟨by show i2=(j+1)*64;omega,hi2m,?_⟩,(by show km-i2<km-iv;omega),?_⟩
  ·show soA h'=Sh.tq Sh.K256 (soA h0) pl (j+1)
   rw[hh',soA_f8,Sh.tq,hh];rfl
  ·exact wkih (by repeat' (first|exact trivial|refine⟨rfl,rfl,rfl,?_⟩|refine⟨rfl,rfl,hX.b 3,?_⟩))
 ·obtain rfl:iv=km:=by omega
  have hj:j=iv/64:=by omega
  rw[<-hj,<-hh]at hof
  have h8h:Sh.ok8 32 (soA h):=by rw[hh];exact Sh.ok8_tq (K:=Sh.K256) (by decide) h8 pl j
  have hhl:∀i,i<8->h i<4294967296:=fun i hi=>by
   have:i=0\/i=1\/i=2\/i=3\/i=4\/i=5\/i=6\/i=7:=by omega
   rcases this with rfl|rfl|rfl|rfl|rfl|rfl|rfl|rfl
   ·exact h8h.1
   ·exact h8h.2.1
   ·exact h8h.2.2.1
   ·exact h8h.2.2.2.1
   ·exact h8h.2.2.2.2.1
   ·exact h8h.2.2.2.2.2.1
   ·exact h8h.2.2.2.2.2.2.1
   ·exact h8h.2.2.2.2.2.2.2
  cbv
  rw[e1]
  cbv
  rw[e2f]
  cbv
  refine⟨Nat×SV×LL,fun s=>s.1<=8/\BRow 5 3 (obA h s.1) s.2.1 s.2.2,fun s=>8-s.1,fun s=> [(0,.int .i64 (.ofNat id)),(5,s.2.1),(6,.slice 0 0 8 8),(10,.int .i64 (.ofNat s.1))],fun s=>⟨0,lst .u32 (fun j=>Int.ofNat (h j)) 0 8,58⟩::s.2.2,4,⟨(0,.nils,[]),_root_.id,⟨Nat.zero_le _,BRow.nil _ _⟩,?_⟩,?_⟩
  ·exact wkid
  rintro⟨i,v,B⟩ ⟨hi,hR⟩
  change i<=8 at hi
  change BRow 5 3 (obA h i) v B at hR
  by_cases hlt:i<8
  ·obtain⟨x,hx⟩:=exq (h i)
   have hxl:x<4294967296:=by rw[hx];exact hhl i hlt
   obtain⟨a0,ha0⟩:=exq (x/2^24)
   obtain⟨a1,ha1⟩:=exq (x/2^16)
   obtain⟨a2,ha2⟩:=exq (x/2^8)
   obtain⟨y0,hy0⟩:=exq (a0%256)
   obtain⟨y1,hy1⟩:=exq (a1%256)
   obtain⟨y2,hy2⟩:=exq (a2%256)
   obtain⟨y3,hy3⟩:=exq (x%256)
   have g0:=e8 h i hlt
   rw[<-hx]at g0
   have p0:sh .shr .u32 (.ofNat x) 24=Int.ofNat a0:=(shrI hA (k:= .u32) (a:=x) (b:=24) (by decide)).trans (by rw[ha0])
   have p1:sh .shr .u32 (.ofNat x) 16=Int.ofNat a1:=(shrI hA (k:= .u32) (a:=x) (b:=16) (by decide)).trans (by rw[ha1])
   have p2:sh .shr .u32 (.ofNat x) 8=Int.ofNat a2:=(shrI hA (k:= .u32) (a:=x) (b:=8) (by decide)).trans (by rw[ha2])
   have fand:∀y,y<4294967296->bin .and .u32 (.ofNat y) 255=Int.ofNat (y%256):=fun y h=>(andW hA (k:= .u32) rfl (a:=y) (b:=255) h (by decide)).trans (congrArg Int.ofNat (by rw[show(255:Nat)=2^8-1 from rfl,Nat.and_two_pow_sub_one_eq_mod]))
   have q1:bin .and .u32 (.ofNat a1) 255=Int.ofNat y1:=(fand a1 (by omega)).trans (by rw[hy1])
   have q2:bin .and .u32 (.ofNat a2) 255=Int.ofNat y2:=(fand a2 (by omega)).trans (by rw[hy2])
   have q3:bin .and .u32 (.ofNat x) 255=Int.ofNat y3:=(fand x hxl).trans (by rw[hy3])
   have c0':cvt .u8 (.ofNat a0)=Int.ofNat y0:=(cvt8A hA a0).trans (by rw[hy0])
   have cc:∀y,y<256->cvt .u8 (.ofNat y)=Int.ofNat y:=fun y h=>(cvt8A hA y).trans (by rw[Nat.mod_eq_of_lt h])
   have k1:=cc y1 (by omega)
   have k2:=cc y2 (by omega)
   have k3:=cc y3 (by omega)
   have hnext:obA h (i+1)=obA h i++[y0,y1,y2,y3]:=by rw[obA_succ,be4,<-hx,hy0,hy1,hy2,hy3,ha0,ha1,ha2]
   have hbl:=obA_len h i
   cbv
   rw[e4 i hlt]
   cbv
   refine reg_cA (hP▸tblOk) hA hg (hP▸mixed) rfl rfl [(28,[])] rfl ?_
   cbv
   rw[e6 i hlt]
   cbv
   rw[e7 i,g0]
   cbv
   rw[p0]
   cbv
   rw[c0']
   cbv
   rw[e6 i hlt]
   cbv
   rw[e7 i,g0]
   cbv
   rw[p1]
   cbv
   rw[q1]
   cbv
   rw[k1]
   cbv
   rw[e6 i hlt]
   cbv
   rw[e7 i,g0]
   cbv
   rw[p2]
   cbv
   rw[q2]
   cbv
   rw[k2]
   cbv
   rw[e6 i hlt]
   cbv
   rw[e7 i,g0]
   cbv
   rw[q3]
   cbv
   rw[k3]
   cbv
   refine sbp (hP▸tblOk) hg rfl rfl (show tyT 143=some _ from rfl) rfl (show tyT 5=some _ from rfl) hU8 rfl (L0:=[⟨0,lst .u32 (fun j=>Int.ofNat (h j)) 0 8,58⟩,⟨4,[.int .u8 (.ofNat y0),.int .u8 (.ofNat y1),.int .u8 (.ofNat y2),.int .u8 (.ofNat y3)],5⟩]) (B1:=B) (lb:=3) (Eq.trans (by cases B<;>rfl) (hR.mid (A:=[⟨0,lst .u32 (fun j=>Int.ofNat (h j)) 0 8,58⟩]) (C:=[⟨4,[.int .u8 (.ofNat y0),.int .u8 (.ofNat y1),.int .u8 (.ofNat y2),.int .u8 (.ofNat y3)],5⟩]) rfl)) rfl rfl hR rfl rfl (d:=[y0,y1,y2,y3]) (Or.inr ⟨4,0,4,4,_,rfl,rfl,rfl,rfl⟩) (by show(obA h i).length+4<=_;rw[hbl];omega) ?_
   intro v' B' hR'
   obtain⟨k',c',X',hk',rfl,rfl,hX'⟩:=hR'.some (by simp)
   rw[<-hnext]at hk' hX'
   cbv
   rw[e5 i hlt]
   refine⟨(i+1,.slice 3 0 k' c',[⟨3,X',5⟩]),fun l=>if l=3 then 5 else l,⟨hlt,hX'.row hk' _ 3⟩,(by show 8-(i+1)<8-i;omega),?_⟩
   exact wkr (by repeat' (first|exact trivial|refine⟨rfl,rfl,?_⟩)) ⟨rfl,rfl,rfl,rfl,by rw[rcl X' (hX'.b 0)];rfl,rfl,rfl,hX'.b 4,trivial⟩ rfl rfl rfl
  ·obtain rfl:i=8:=by omega
   have hol:(obA h 8).length=32:=obA_len h 8
   obtain⟨k4,c4,X4,hk4,rfl,rfl,hX4⟩:=hR.some (fun h=>by rw[h]at hol;simp at hol)
   have hdgl:dg.size=z:=by
    rw[<-bll,hof,<-obA_out,List.length_take,hol];omega
   have hbt:X4.take z=bts dg:=by
    have h1:=hX4.dat
    rw[bts_by8,hof,<-obA_out,by8_take,<-h1,List.take_take,Nat.min_eq_left (by rw[hol];omega)]
   have hc4:z<=c4:=by have:=hX4.le;rw[hol]at this;omega
   cbv
   rw[e4f]
   cbv
   refine cva rfl hg rfl rfl hSz ?_
   rintro _ _ _ rfl
   refine⟨trivial,?_⟩
   cbv
   refine ssl hg rfl rfl rfl rfl rfl (slr_h (hP▸tblOk) (show tyT 143=some _ from rfl) rfl 3 0 k4 c4 (j:=z) hc4) ?_
   cbv
   refine step_string (hP▸tblOk) hg rfl rfl (show tyT 9=some _ from rfl) rfl (show tyT 143=some _ from rfl) rfl (hP▸Tryz.underlying5) rfl (show find _ 3=some _ from rfl) (s:=dg) (by rw[List.drop_zero];exact hbt) hdgl ?_
   cbv
   exact hK _ _ _ rfl
end Go.Proofs.YtdhmihfefgcbeaaGreat
