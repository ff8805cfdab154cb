/-
  This text proves what these texts prove: Hc, Hd, He. Conditions: those of each theorem.
-/
import Derived.Test.YtdhmihfefgcbeaaGreatY16
set_option maxHeartbeats 8000000
set_option linter.all false
namespace Go.Proofs.YtdhmihfefgcbeaaGreat
open Go.Vg Go.RowKit
set_option maxRecDepth 200000
set_option cbv.maxSteps 100000000
def soA(f:Nat->Nat):Sh.S8:=⟨f 0,f 1,f 2,f 3,f 4,f 5,f 6,f 7⟩
def hAx(size n:Nat)(h kf:Nat->Nat)(rest:SV):List SV:=[.int .i64 (.ofNat size)]++lst .u32 (fun j=>Int.ofNat (h j)) 0 8++lst .u32 (fun j=>Int.ofNat (kf j)) 0 64++[rest,.int .u64 (.ofNat n)]
theorem soA_eq{f g:Nat->Nat}(h:soA f=soA g):∀j,j<8->f j=g j:=by
 unfold soA at h
 injection h with h0 h1 h2 h3 h4 h5 h6 h7
 intro j hj
 rcases(show j=0\/j=1\/j=2\/j=3\/j=4\/j=5\/j=6\/j=7 by omega)with rfl|rfl|rfl|rfl|rfl|rfl|rfl|rfl<;>assumption
theorem notA{A:Ar}(hA:A=Ar.real)(x:Nat)(hx:x<4294967296):A.una .xor .u32 (Int.ofNat x)=Int.ofNat (4294967296-1-x):=by
 have h1:A.una .xor .u32 (Int.ofNat x)=A.bin .xor .u32 (Int.ofNat 4294967295) (Int.ofNat x):=by subst hA;rfl
 rw[h1,xorW hA (k:= .u32) rfl (a:=4294967295) (b:=x) (by decide) hx]
 congr 1
 apply Nat.eq_of_testBit_eq
 intro i
 rw[Nat.testBit_xor,show(4294967295:Nat)=2^32-1 from rfl,Nat.testBit_two_pow_sub_one,show 4294967296-1-x=2^32-(x+1) by show _=4294967296-(x+1);omega,Nat.testBit_two_pow_sub_succ hx]
 by_cases hi:i<32
 ·simp[hi]
 ·have:x.testBit i=false:=Nat.testBit_lt_two_pow (Nat.lt_of_lt_of_le hx (Nat.pow_le_pow_right (n:=2) (by decide) (show 32<=i by omega)))
  simp[hi,this]
theorem getAh{A:Ar}(hA:A=Ar.real)(size n:Nat)(h kf:Nat->Nat)(rest:SV){i:Nat}(hi:i<8):A.get (hAx size n h kf rest) (1+i)=some (.int .u32 (.ofNat (h i))):=by
 rw[get_of hA]
 rcases(show i=0\/i=1\/i=2\/i=3\/i=4\/i=5\/i=6\/i=7 by omega)with rfl|rfl|rfl|rfl|rfl|rfl|rfl|rfl<;>rfl
theorem splAh{A:Ar}(hA:A=Ar.real)(size n:Nat)(h h' kf:Nat->Nat)(rest:SV){i v:Nat}(hi:i<8)(hh:h'=fun j=>if j=i then v else h j):A.spl (hAx size n h kf rest) (1+i) [.int .u32 (.ofNat v)]=some (hAx size n h' kf rest):=by
 rw[spl_of hA (by show 1+i<64+11;omega),hh]
 rcases(show i=0\/i=1\/i=2\/i=3\/i=4\/i=5\/i=6\/i=7 by omega)with rfl|rfl|rfl|rfl|rfl|rfl|rfl|rfl<;>rfl
theorem getAk{A:Ar}(hA:A=Ar.real)(size n:Nat)(h kf:Nat->Nat)(rest:SV){i:Nat}(hi:i<64):A.get (hAx size n h kf rest) (9+i)=some (.int .u32 (.ofNat (kf i))):=by
 rw[get_of hA]
 unfold hAx
 rw[List.append_assoc,List.getElem?_append_right (by show 9<=9+i;omega)]
 show(lst .u32 (fun j=>Int.ofNat (kf j)) 0 64++[rest,.int .u64 (.ofNat n)])[9+i-9]? =_
 rw[Nat.add_sub_cancel_left,List.getElem?_append_left (by rw[lle];exact hi),lst_get _ _ hi,Nat.zero_add]
theorem rndA_parts(s:Sh.S8)(k w:Nat){s1 ch m1 m2 m3 m4 t1 s0 maj u v:Nat}(h1:s1=Sh.big 32 Sh.K256.S1 s.e)(h2:ch=Sh.ch 32 s.e s.f s.g)(h3:m1=(s.h+s1)%4294967296)(h4:m2=(m1+ch)%4294967296)(h5:m3=(m2+k)%4294967296)(h6:t1=(m3+w)%4294967296)
 (h7:s0=Sh.big 32 Sh.K256.S0 s.a) (h8:maj=Sh.maj s.a s.b s.c) (h9:m4=(t1+s0)%4294967296) (h10:u=(m4+maj)%4294967296) (h11:v=(s.d+t1)%4294967296):Sh.round Sh.K256 s k w=⟨u,s.a,s.b,s.c,v,s.e,s.f,s.g⟩:=by
 have e1:t1=(s.h+s1+ch+k+w)%4294967296:=by rw[h6,h5,h4,h3];omega
 have e2:u=(t1+s0+maj)%4294967296:=by rw[h10,h9];omega
 unfold Sh.round
 rw[show Sh.K256.wb=32 from rfl,<-h1,<-h2,<-h7,<-h8,show(2:Nat)^32=4294967296 from rfl,<-e1,h11,e2]
theorem cATurnL{P:Program}(hP:P=Tryz.prog){t:TypeId}(size n:Nat)(hf hf' kf:Nat->Nat)(hkf:kf=fun j=>Sh.K256.ks.getD j 0)(rest:SV)(hrest:bdB 3 rest=true)(o c:Nat)(C:List SV)(b:List Nat)(hb:∀x∈b,x<256)(hl:b.length=64)(hC:(C.drop o).take 64=by8 b)(bC:∀m,bdLB m C=true)(h8:Sh.ok8 32 (soA hf))(hS:soA hf'=Sh.turn Sh.K256 (soA hf) b):
 Con P 168 [.ptr 0 0,.slice 1 o 64 c] [⟨0,hAx size n hf kf rest,261⟩,⟨1,C,t⟩] 3 [0] (fun v L _=>v= .tup []/\find L 0=some ⟨0,hAx size n hf' kf rest,261⟩):=by
 obtain⟨W,hW⟩:=exq (Sh.wd Sh.K256 b)
 have hSch:=cASched hP (t:=t) o c C b hb hl hC bC W hW
 have hwl:∀j,j<64->W j<4294967296:=fun j hj=>by rw[hW];exact Sh.wd_lt b hb (by rw[hl];decide) (by decide) (by decide) hj
 have hkl:∀j,kf j<4294967296:=fun j=>by
  have h0:(Sh.K256.ks.all fun x=>decide (x<4294967296))=true:=by decide +kernel
  rw[hkf]
  show Sh.K256.ks.getD j 0<_
  rw[List.getD_eq_getElem?_getD]
  cases hj:Sh.K256.ks[j]? with
  |none=>decide
  |some x=>exact of_decide_eq_true (List.all_eq_true.1 h0 x (List.mem_of_getElem? hj))
 have bR:∀m,3<=m->bdB m rest=true:=fun m hm=>bdB_le hm rest hrest
 refine cof hP Tryz.func168 ⟨(by show 0<3;decide),(by show 1<3;decide),trivial⟩ (bkb (by simp only[hAx,List.all_cons,List.all_nil,bC 3,lst,List.cons_append,List.nil_append,bdLB,hrest];rfl)) ?_
 intro A g K hA hg hK
 obtain⟨bin,_,cmp,una,_,ix,_,_,_,_,_,_,_,_,_,off⟩:=A
 cbv
 refine cro rfl hg rfl rfl hSch (fun l=>l+1) rfl ⟨by rw[rcl C (bC 0)];rfl,trivial⟩ ?_
 rintro _ _ _ rfl
 refine⟨by simp[bd,bdL,lst],by simp[bd,bdL,ren,renL,lst],?_⟩
 cbv
 have hH:∀f m,3<=m->bdLB m (hAx size n f kf rest)=true:=fun f m hm=>by
  simp only[hAx,lst,List.cons_append,List.nil_append,bdLB,bR m hm];rfl
 have f1:∀i,i<64->cmp .lss (.ofNat i) 64=true:=fun i h=>lss_t hA (b:=64) h
 have f1f:cmp .lss (.ofNat 64) 64=false:=lss_f hA (a:=64) (b:=64) (by omega)
 have f2:∀i,i<8->cmp .lss (.ofNat i) 8=true:=fun i h=>lss_t hA (b:=8) h
 have f2f:cmp .lss (.ofNat 8) 8=false:=lss_f hA (a:=8) (b:=8) (by omega)
 have f3:∀i,i<200->bin .add .i64 (.ofNat i) 1=Int.ofNat (i+1):=fun i h=>add_of hA (by omega)
 have f4:∀i,i<64->ix (.ofNat i) 64=some i:=fun i h=>ix_of hA h
 have f5:∀i,i<8->ix (.ofNat i) 8=some i:=fun i h=>ix_of hA h
 have f6:∀q i,off q i 1=q+i:=fun q i=>(off_of hA q i 1).trans (by omega)
 have f7:=fun(f:Nat->Nat) (k:Nat) (h:k<64)=>getW hA .u32 (n:=64) f h
 have f7x:=fun(f:Nat->Nat) (k:Nat) (h:k<8)=>getW hA .u32 (n:=8) f h
 have f8:=fun(f:Nat->Nat) (i:Nat) (h:i<64)=>getAk hA size n f kf rest h
 have f9:=fun(f:Nat->Nat) (i:Nat) (h:i<8)=>getAh hA size n f kf rest h
 have f10:=fun(f f':Nat->Nat) (i v:Nat) (h:i<8) (e:f'=fun j=>if j=i then v else f j)=>splAh hA size n f f' kf rest h e
 simp only[lst,Nat.reduceAdd]at f7 f7x
 simp only[hAx,lst,Nat.reduceAdd,List.cons_append,List.nil_append]at f8 f9 f10
 have fx:∀a b,a<4294967296->b<4294967296->bin .xor .u32 (.ofNat a) (.ofNat b)=Int.ofNat (a^^^b):=fun a b h1 h2=>xorW hA (k:= .u32) rfl h1 h2
 have fa:∀a b,a<4294967296->b<4294967296->bin .and .u32 (.ofNat a) (.ofNat b)=Int.ofNat (a&&&b):=fun a b h1 h2=>andW hA (k:= .u32) rfl h1 h2
 have fp:∀a b,bin .add .u32 (.ofNat a) (.ofNat b)=Int.ofNat ((a+b)%4294967296):=fun a b=>addW hA (k:= .u32) rfl a b
 have fn:∀a,a<4294967296->una .xor .u32 (Int.ofNat a)=Int.ofNat (4294967296-1-a):=fun a h=>notA hA a h
 have lx:∀a b,a<4294967296->b<4294967296->a^^^b<4294967296:=fun a b h1 h2=>Nat.xor_lt_two_pow (n:=32) h1 h2
 have la:∀a b,b<4294967296->a&&&b<4294967296:=fun a b h2=>Nat.and_lt_two_pow (n:=32) a h2
 have lr:∀x k,x<4294967296->Sh.rotr 32 x k<4294967296:=fun x k hx=>by
  unfold Sh.rotr
  exact Nat.or_lt_two_pow (n:=32) (by rw[Nat.shiftRight_eq_div_pow];exact Nat.lt_of_le_of_lt (Nat.div_le_self _ _) hx) (Nat.mod_lt _ (by decide))
 refine lpb (Nat×(Nat->Nat)) (fun s=>s.1<=64/\soA s.2=Sh.rnd Sh.K256 b (soA hf) s.1) (fun s=>64-s.1) (fun s=> [(19,.int .i64 (.ofNat s.1))]) [0,4,5] (fun s=> [(4,lst .u32 (fun j=>Int.ofNat (s.2 j)) 0 8)]) (0,hf) ⟨Nat.zero_le _,rfl⟩ ?_ ?_
 ·exact wkih (by repeat' (first|exact trivial|refine⟨rfl,rfl,rfl,?_⟩|refine⟨rfl,rfl,bC 5,?_⟩|refine⟨rfl,rfl,hH hf 5 (by decide),?_⟩))
 rintro⟨i,x⟩ ⟨hi,hx⟩
 change i<=64 at hi
 change soA x=Sh.rnd Sh.K256 b (soA hf) i at hx
 have hx8:Sh.ok8 32 (soA x):=by rw[hx];exact Sh.ok8_rnd (K:=Sh.K256) b h8 (by decide) i hi
 by_cases hlt:i<64
 ·have hl4:x 4<4294967296:=hx8.2.2.2.2.1
  have hl0:x 0<4294967296:=hx8.1
  have hl1:x 1<4294967296:=hx8.2.1
  have hl2:x 2<4294967296:=hx8.2.2.1
  have hl5:x 5<4294967296:=hx8.2.2.2.2.2.1
  have hl6:x 6<4294967296:=hx8.2.2.2.2.2.2.1
  obtain⟨p1,hp1⟩:=exq (Sh.rotr 32 (x 4) 6)
  obtain⟨p2,hp2⟩:=exq (Sh.rotr 32 (x 4) 11)
  obtain⟨p3,hp3⟩:=exq (Sh.rotr 32 (x 4) 25)
  obtain⟨q1,hq1⟩:=exq (Sh.rotr 32 (x 0) 2)
  obtain⟨q2,hq2⟩:=exq (Sh.rotr 32 (x 0) 13)
  obtain⟨q3,hq3⟩:=exq (Sh.rotr 32 (x 0) 22)
  have hP1:=cARot hP (x 4) 6 hl4 (by decide) p1 hp1
  have hP2:=cARot hP (x 4) 11 hl4 (by decide) p2 hp2
  have hP3:=cARot hP (x 4) 25 hl4 (by decide) p3 hp3
  have hQ1:=cARot hP (x 0) 2 hl0 (by decide) q1 hq1
  have hQ2:=cARot hP (x 0) 13 hl0 (by decide) q2 hq2
  have hQ3:=cARot hP (x 0) 22 hl0 (by decide) q3 hq3
  have lp1:p1<4294967296:=by rw[hp1];exact lr _ _ hl4
  have lp2:p2<4294967296:=by rw[hp2];exact lr _ _ hl4
  have lp3:p3<4294967296:=by rw[hp3];exact lr _ _ hl4
  have lq1:q1<4294967296:=by rw[hq1];exact lr _ _ hl0
  have lq2:q2<4294967296:=by rw[hq2];exact lr _ _ hl0
  have lq3:q3<4294967296:=by rw[hq3];exact lr _ _ hl0
  obtain⟨p4,hp4⟩:=exq (p1^^^p2)
  have lp4:p4<4294967296:=by rw[hp4];exact lx _ _ lp1 lp2
  obtain⟨s1,hs1⟩:=exq (p4^^^p3)
  obtain⟨q4,hq4⟩:=exq (q1^^^q2)
  have lq4:q4<4294967296:=by rw[hq4];exact lx _ _ lq1 lq2
  obtain⟨s0,hs0⟩:=exq (q4^^^q3)
  obtain⟨a1,ha1⟩:=exq (x 4&&&x 5)
  obtain⟨ne,hne⟩:=exq (4294967296-1-x 4)
  have lne:ne<4294967296:=by omega
  obtain⟨a2,ha2⟩:=exq (ne&&&x 6)
  have la1:a1<4294967296:=by rw[ha1];exact la _ _ hl5
  have la2:a2<4294967296:=by rw[ha2];exact la _ _ hl6
  obtain⟨ch,hch⟩:=exq (a1^^^a2)
  obtain⟨b1,hb1⟩:=exq (x 0&&&x 1)
  obtain⟨b2,hb2⟩:=exq (x 0&&&x 2)
  obtain⟨b3,hb3⟩:=exq (x 1&&&x 2)
  have lb1:b1<4294967296:=by rw[hb1];exact la _ _ hl1
  have lb2:b2<4294967296:=by rw[hb2];exact la _ _ hl2
  have lb3:b3<4294967296:=by rw[hb3];exact la _ _ hl2
  obtain⟨b4,hb4⟩:=exq (b1^^^b2)
  have lb4:b4<4294967296:=by rw[hb4];exact lx _ _ lb1 lb2
  obtain⟨mj,hmj⟩:=exq (b4^^^b3)
  obtain⟨m1,hm1⟩:=exq ((x 7+s1)%4294967296)
  obtain⟨m2,hm2⟩:=exq ((m1+ch)%4294967296)
  obtain⟨m3,hm3⟩:=exq ((m2+kf i)%4294967296)
  obtain⟨t1,ht1⟩:=exq ((m3+W i)%4294967296)
  obtain⟨m4,hm4⟩:=exq ((t1+s0)%4294967296)
  obtain⟨u,hu⟩:=exq ((m4+mj)%4294967296)
  obtain⟨v,hv⟩:=exq ((x 3+t1)%4294967296)
  have hrnd:=rndA_parts (soA x) (kf i) (W i) (s1:=s1) (ch:=ch) (m1:=m1) (m2:=m2) (m3:=m3) (m4:=m4) (t1:=t1) (s0:=s0) (maj:=mj) (u:=u) (v:=v) (by rw[hs1,hp4,hp1,hp2,hp3];rfl) (by rw[hch,ha1,ha2,hne];rfl) hm1 hm2 hm3 ht1 (by rw[hs0,hq4,hq1,hq2,hq3];rfl) (by rw[hmj,hb4,hb1,hb2,hb3];rfl) hm4 hu hv
  obtain⟨ki,hki⟩:=exq (kf i)
  obtain⟨wi,hwi⟩:=exq (W i)
  have g8:=f8 hf i hlt
  have g7:=f7 W i hlt
  rw[<-hki]at g8 hm3
  rw[<-hwi]at g7 ht1
  have r1:bin .xor .u32 (.ofNat p1) (.ofNat p2)=Int.ofNat p4:=(fx _ _ lp1 lp2).trans (by rw[hp4])
  have r2:bin .xor .u32 (.ofNat p4) (.ofNat p3)=Int.ofNat s1:=(fx _ _ lp4 lp3).trans (by rw[hs1])
  have r3:bin .and .u32 (.ofNat (x 4)) (.ofNat (x 5))=Int.ofNat a1:=(fa _ _ hl4 hl5).trans (by rw[ha1])
  have r4:una .xor .u32 (Int.ofNat (x 4))=Int.ofNat ne:=(fn _ hl4).trans (by rw[hne])
  have r5:bin .and .u32 (.ofNat ne) (.ofNat (x 6))=Int.ofNat a2:=(fa _ _ lne hl6).trans (by rw[ha2])
  have r6:bin .xor .u32 (.ofNat a1) (.ofNat a2)=Int.ofNat ch:=(fx _ _ la1 la2).trans (by rw[hch])
  have r7:bin .add .u32 (.ofNat (x 7)) (.ofNat s1)=Int.ofNat m1:=(fp _ _).trans (by rw[hm1])
  have r8:bin .add .u32 (.ofNat m1) (.ofNat ch)=Int.ofNat m2:=(fp _ _).trans (by rw[hm2])
  have r9:bin .add .u32 (.ofNat m2) (.ofNat ki)=Int.ofNat m3:=(fp _ _).trans (by rw[hm3])
  have r10:bin .add .u32 (.ofNat m3) (.ofNat wi)=Int.ofNat t1:=(fp _ _).trans (by rw[ht1])
  have r11:bin .xor .u32 (.ofNat q1) (.ofNat q2)=Int.ofNat q4:=(fx _ _ lq1 lq2).trans (by rw[hq4])
  have r12:bin .xor .u32 (.ofNat q4) (.ofNat q3)=Int.ofNat s0:=(fx _ _ lq4 lq3).trans (by rw[hs0])
  have r13:bin .and .u32 (.ofNat (x 0)) (.ofNat (x 1))=Int.ofNat b1:=(fa _ _ hl0 hl1).trans (by rw[hb1])
  have r14:bin .and .u32 (.ofNat (x 0)) (.ofNat (x 2))=Int.ofNat b2:=(fa _ _ hl0 hl2).trans (by rw[hb2])
  have r15:bin .and .u32 (.ofNat (x 1)) (.ofNat (x 2))=Int.ofNat b3:=(fa _ _ hl1 hl2).trans (by rw[hb3])
  have r16:bin .xor .u32 (.ofNat b1) (.ofNat b2)=Int.ofNat b4:=(fx _ _ lb1 lb2).trans (by rw[hb4])
  have r17:bin .xor .u32 (.ofNat b4) (.ofNat b3)=Int.ofNat mj:=(fx _ _ lb4 lb3).trans (by rw[hmj])
  have r18:bin .add .u32 (.ofNat t1) (.ofNat s0)=Int.ofNat m4:=(fp _ _).trans (by rw[hm4])
  have r19:bin .add .u32 (.ofNat m4) (.ofNat mj)=Int.ofNat u:=(fp _ _).trans (by rw[hu])
  have r20:bin .add .u32 (.ofNat (x 3)) (.ofNat t1)=Int.ofNat v:=(fp _ _).trans (by rw[hv])
  cbv
  rw[f1 i hlt]
  cbv
  refine rgM hP hA hg fun mk _=> ?_
  cbv
  refine sdv hg hP1 ?_
  cbv
  refine sdv hg hP2 ?_
  cbv
  rw[r1]
  cbv
  refine sdv hg hP3 ?_
  cbv
  rw[r2]
  cbv
  rw[r3,r4]
  cbv
  rw[r5]
  cbv
  rw[r6]
  cbv
  refine rgM hP hA hg fun mk _=> ?_
  cbv
  rw[r7]
  cbv
  rw[r8]
  cbv
  rw[f4 i hlt]
  cbv
  rw[f6 9 i,g8]
  cbv
  rw[r9]
  cbv
  rw[f4 i hlt]
  cbv
  rw[f6 0 i,Nat.zero_add,g7]
  cbv
  rw[r10]
  cbv
  refine rgM hP hA hg fun mk _=> ?_
  cbv
  refine sdv hg hQ1 ?_
  cbv
  refine sdv hg hQ2 ?_
  cbv
  rw[r11]
  cbv
  refine sdv hg hQ3 ?_
  cbv
  rw[r12]
  cbv
  rw[r13,r14]
  cbv
  rw[r15,r16]
  cbv
  rw[r17]
  cbv
  rw[r18]
  cbv
  rw[r19,r20]
  cbv
  rw[f3 i (by omega)]
  refine⟨(i+1,fun j=>match j with|0=>u|1=>x 0|2=>x 1|3=>x 2|4=>v|5=>x 4|6=>x 5|_=>x 6),id,⟨hlt,?_⟩,(by show 64-(i+1)<64-i;omega),?_⟩
  ·show _=Sh.rnd Sh.K256 b (soA hf) (i+1)
   rw[Sh.rnd_succ (K:=Sh.K256) b _ (by decide) (show i<Sh.K256.ks.length from hlt),<-hx,show Sh.K256.ks.getD i 0=kf i by rw[hkf],show Sh.wd Sh.K256 b i=W i by rw[hW],hrnd]
   rfl
  ·exact wkih (by repeat' (first|exact trivial|refine⟨rfl,rfl,rfl,?_⟩|refine⟨rfl,rfl,bC 5,?_⟩|refine⟨rfl,rfl,hH hf 5 (by decide),?_⟩))
 ·obtain rfl:i=64:=by omega
  have hfin:Sh.turn Sh.K256 (soA hf) b=Sh.add8 32 (soA hf) (soA x):=by
   rw[Sh.turn_rnd (K:=Sh.K256) b _ (by decide),hx];rfl
  obtain⟨hc,hhc⟩:=exq (fun i j=>if j<i then(hf j+x j)%4294967296 else hf j:Nat->Nat->Nat)
  have hc0:hc 0=hf:=by rw[hhc];rfl
  have hcS:∀i v,v=(hf i+x i)%4294967296->hc (i+1)=fun j=>if j=i then v else hc i j:=fun i v hv=>by
   rw[hhc];funext j
   show(if j<i+1 then _ else _)=if j=i then v else if j<i then _ else _
   by_cases h:j=i
   ·rw[if_pos h,if_pos (by omega),hv,h]
   ·rw[if_neg h]
    by_cases h2:j<i
    ·rw[if_pos h2,if_pos (by omega)]
    ·rw[if_neg h2,if_neg (by omega)]
  have hcg:∀i,hc i i=hf i:=fun i=>by rw[hhc];exact if_neg (Nat.lt_irrefl i)
  have hend:hAx size n (hc 8) kf rest=hAx size n hf' kf rest:=by
   unfold hAx
   rw[lcg (f:=fun j=>Int.ofNat (hc 8 j)) (g:=fun j=>Int.ofNat (hf' j)) fun j _ hj=> ?_]
   have e:soA (hc 8)=soA hf':=by
    rw[hS,hfin,hhc];rfl
   rw[soA_eq e j (by omega)]
  clear hhc
  simp only[hAx,lst,Nat.reduceAdd,List.cons_append,List.nil_append]at hend
  cbv
  rw[f1f]
  cbv
  refine lpb (Nat×(Nat->Nat)) (fun s=>s.1<=8/\s.2=hc s.1) (fun s=>8-s.1) (fun s=> [(113,.int .i64 (.ofNat s.1))]) [0,5] (fun s=> [(0,hAx size n s.2 kf rest)]) (0,hf) ⟨Nat.zero_le _,hc0.symm⟩ ?_ ?_
  ·exact wkih (by repeat' (first|exact trivial|refine⟨rfl,rfl,rfl,?_⟩|refine⟨rfl,rfl,bC 5,?_⟩|refine⟨rfl,rfl,hH hf 5 (by decide),?_⟩))
  rintro⟨i,h⟩ ⟨hi,hh⟩
  change i<=8 at hi
  change h=hc i at hh
  subst hh
  by_cases h8:i<8
  ·obtain⟨hi0,hhi0⟩:=exq (hf i)
   obtain⟨xi,hxi⟩:=exq (x i)
   obtain⟨v,hv⟩:=exq ((hi0+xi)%4294967296)
   have hn:=hcS i v (by rw[hv,hhi0,hxi])
   obtain⟨hnx,hnx2⟩:=exq (hc (i+1))
   rw[<-hnx2]at hn
   have g9:=f9 (hc i) i h8
   rw[hcg i,<-hhi0]at g9
   have g7:=f7x x i h8
   rw[<-hxi]at g7
   have r1:bin .add .u32 (.ofNat hi0) (.ofNat xi)=Int.ofNat v:=(fp _ _).trans (by rw[hv])
   cbv
   rw[f2 i h8]
   cbv
   refine rgM hP hA hg fun mk _=> ?_
   cbv
   rw[f5 i h8]
   cbv
   rw[f6 1 i,g9]
   cbv
   rw[f5 i h8]
   cbv
   rw[f6 0 i,Nat.zero_add,g7]
   cbv
   rw[r1]
   cbv
   rw[f5 i h8]
   cbv
   rw[f6 1 i,f10 (hc i) hnx i v h8 hn]
   cbv
   rw[f3 i (by omega)]
   refine⟨(i+1,hnx),id,⟨h8,hnx2⟩,(by show 8-(i+1)<8-i;omega),?_⟩
   exact wkih (by repeat' (first|exact trivial|refine⟨rfl,rfl,rfl,?_⟩|refine⟨rfl,rfl,bC 5,?_⟩|refine⟨rfl,rfl,hH hnx 5 (by decide),?_⟩))
  ·obtain rfl:i=8:=by omega
   obtain⟨h9,hh9⟩:=exq (hc 8)
   rw[<-hh9]at hend⊢
   cbv
   rw[f2f]
   cbv
   rw[hend]
   exact hK _ _ _ ⟨rfl,rfl⟩
theorem hAbd(size n:Nat)(f kf:Nat->Nat){rest:SV}{m:Nat}(h:bdB m rest=true):bdLB m (hAx size n f kf rest)=true:=by
 simp only[hAx,lst,List.cons_append,List.nil_append,bdLB,h];rfl
theorem cATurn{P:Program}(hP:P=Tryz.prog){t:TypeId}(size n:Nat)(hf hf' kf:Nat->Nat)(hkf:kf=fun j=>Sh.K256.ks.getD j 0)(rest:SV)(hrest:bdB 3 rest=true)(o c:Nat)(C:List SV)(b:List Nat)(hb:∀x∈b,x<256)(hl:b.length=64)(hC:(C.drop o).take 64=by8 b)(bC:∀m,bdLB m C=true)(h8:Sh.ok8 32 (soA hf))(hS:soA hf'=Sh.turn Sh.K256 (soA hf) b):
 Con P 168 [.ptr 0 0,.slice 1 o 64 c] [⟨0,hAx size n hf kf rest,261⟩,⟨1,C,t⟩] 3 [0] (fun v L q=>v= .tup []/\L=[⟨0,hAx size n hf' kf rest,261⟩]/\q=3):=
 (cATurnL hP size n hf hf' kf hkf rest hrest o c C b hb hl hC bC h8 hS).weak fun v L q ⟨h1,h2⟩=>⟨id,.tup [],_,3,by subst h1;exact weak_id ⟨rfl,rfl,trivial⟩ ⟨h2,rfl,hAbd _ _ _ _ hrest,trivial⟩ rfl rfl,rfl,rfl,rfl⟩
def f8A(s:Sh.S8)(j:Nat):Nat:=match j with|0=>s.a|1=>s.b|2=>s.c|3=>s.d|4=>s.e|5=>s.f|6=>s.g|_=>s.h
theorem soA_f8(s:Sh.S8):soA (f8A s)=s:=rfl
theorem cABlocksN{P:Program}(hP:P=Tryz.prog):Con P 167 [.fn (.func 168) [.ptr 0 0] [],.nils] [] 1 [] (fun v _ _=>v= .nils):=by
 refine cof hP Tryz.func167 ⟨⟨⟨(by show 0<1;decide),trivial⟩,trivial⟩,trivial,trivial⟩ (bkb rfl) ?_
 intro A g K hA hg hK
 obtain⟨_,_,cmp⟩:=A
 have f1:cmp .geq 0 64=false:=geq_f hA (a:=0) (b:=64) (by decide)
 cbv
 refine lpb Unit (fun _=>True) (fun _=>0) (fun _=> []) [1,4] (fun _=> []) () trivial ?_ ?_
 ·exact wkid
 intro _ _
 cbv
 rw[f1]
 cbv
 exact hK _ _ _ rfl
theorem cABlocks{P:Program}(hP:P=Tryz.prog){t:TypeId}(size n:Nat)(hf kf:Nat->Nat)(hkf:kf=fun j=>Sh.K256.ks.getD j 0)(rest:SV)(hrest:bdB 3 rest=true)(o c:Nat)(C:List SV)(d:List Nat)(hd:∀x∈d,x<256)(m:Nat)(hm:m=d.length)(hC:(C.drop o).take d.length=by8 d)(hdc:d.length<=c)(hds:d.length<2^60)(bC:∀m,bdLB m C=true)(h8:Sh.ok8 32 (soA hf)):
 Con P 167 [.fn (.func 168) [.ptr 0 0] [],.slice 1 o m c] [⟨0,hAx size n hf kf rest,261⟩,⟨1,C,t⟩] 3 [0]
  (fun v L q=>∃hf' o' c' r rl,rl=r.length/\soA hf'=Sh.tq Sh.K256 (soA hf) d (d.length/64)/\r=d.drop (d.length/64*64)/\v= .slice 1 o' rl c'/\(C.drop o').take r.length=by8 r/\L=[⟨0,hAx size n hf' kf rest,261⟩,⟨1,C,t⟩]/\q=3):=by
 rw[<-hm]at hC hdc hds⊢
 have rR:∀ρ:Nat->Nat,(∀l,l<3->ρ l=l)->ren ρ rest=rest:=fun ρ h=>ren_fix h rest hrest
 have rH:∀f,∀ρ:Nat->Nat,(∀l,l<3->ρ l=l)->renL ρ (hAx size n f kf rest)=hAx size n f kf rest:=fun f ρ h=>renL_fix h _ (hAbd _ _ _ _ hrest)
 have rC:∀r,renL r C=C:=fun r=>rcl C (bC 0)
 obtain⟨HC,hHC⟩:=exq (fun f=>hAx size n f kf rest:(Nat->Nat)->List SV)
 have hHb:∀f,bdLB 3 (HC f)=true:=fun f=>by rw[hHC];exact hAbd _ _ _ _ hrest
 refine cof hP Tryz.func167 ⟨⟨⟨(by show 0<3;decide),trivial⟩,trivial⟩,(by show 1<3;decide),trivial⟩ (bkb (by simp only[List.all_cons,List.all_nil,bC 3,hAbd _ _ _ _ hrest];rfl)) ?_
 intro A g K hA hg hK
 obtain⟨_,_,cmp,_,_,_,_,_,_,_,_,_,_,_,nat⟩:=A
 rw[show hAx size n hf kf rest=HC hf by rw[hHC]]
 have f1:∀x,64<=x->cmp .geq (.ofNat x) 64=true:=fun x h=>geq_t hA (b:=64) h
 have f2:∀x,¬64<=x->cmp .geq (.ofNat x) 64=false:=fun x h=>geq_f hA (b:=64) h
 have f3:∀x,nat x=Int.ofNat x:=fun x=>nat_of hA x
 have rHC:∀f k,renL (rho id 3 k) (HC f)=HC f:=fun f k=>by rw[hHC];exact rH f _ fun l h=>rho_lt h
 cbv
 refine lpb (Nat×(Nat->Nat)×Nat×Nat×Nat) (fun s=>s.2.2.1+s.1*64=m/\soA s.2.1=Sh.tq Sh.K256 (soA hf) d s.1/\(0<s.2.2.1->s.2.2.2.1=o+s.1*64)/\s.2.2.1<=s.2.2.2.2) (fun s=>s.2.2.1) (fun s=> [(1,.slice 1 s.2.2.2.1 s.2.2.1 s.2.2.2.2)]) [0,4] (fun s=> [(0,HC s.2.1)]) (0,hf,m,o,c) ⟨by show m+0*64=m;omega,rfl,fun _=>by show o=o+0*64;omega,hdc⟩ ?_ ?_
 ·exact wkih (by repeat' (first|exact trivial|refine⟨rfl,rfl,rfl,?_⟩|refine⟨rfl,rfl,bC 3,?_⟩|refine⟨rfl,rfl,hHb hf,?_⟩))
 rintro⟨j,h,mm,o',c'⟩ ⟨h1,h2,h3,h4⟩
 change mm+j*64=m at h1
 change soA h=Sh.tq Sh.K256 (soA hf) d j at h2
 change 0<mm->o'=o+j*64 at h3
 change mm<=c' at h4
 by_cases hlt:64<=mm
 ·have ho:=h3 (by omega)
  obtain⟨h',hh'⟩:=exq (f8A (Sh.turn Sh.K256 (soA h) ((d.drop (j*64)).take 64)))
  have hTurn:Con P 168 [.ptr 0 0,.slice 1 o' 64 c'] [⟨0,HC h,261⟩,⟨1,C,t⟩] 3 [0] (fun v L q=>v= .tup []/\L=[⟨0,HC h',261⟩]/\q=3):=by
   rw[hHC]
   refine cATurn hP (t:=t) size n h h' kf hkf rest hrest o' c' C ((d.drop (j*64)).take 64) (fun x hx=>hd x (List.mem_of_mem_drop (List.mem_of_mem_take hx))) (by rw[List.length_take,List.length_drop,<-hm];omega) ?_ bC (by rw[h2];exact Sh.ok8_tq (K:=Sh.K256) (by decide) h8 d j) (by rw[hh',soA_f8])
   rw[by8_take,by8_drop,<-hC,ho,List.drop_take,List.drop_drop,List.take_take]
   congr 1
   omega
  obtain⟨m2,hm2⟩:=exq (mm-64)
  obtain⟨c2,hc2⟩:=exq (c'-64)
  obtain⟨o2,ho2⟩:=exq (if c'=64 then o' else o'+64*1)
  have hSl:SlR P 143 (.slice 1 o' mm c') (some (.i64,64)) none (.slice 1 o2 m2 c2):=by
   rw[hm2,hc2,ho2]
   exact slr_lo (hP▸tblOk) (show tyT 143=some _ from rfl) rfl 1 o' mm c' (j:=64) hlt h4
  cbv
  rw[f3 mm,f1 mm hlt]
  cbv
  refine ssl hg rfl rfl rfl rfl rfl (slr_h (hP▸tblOk) (show tyT 143=some _ from rfl) rfl 1 o' mm c' (j:=64) (by omega)) ?_
  cbv
  refine cgn rfl hg rfl rfl hTurn id rfl ⟨by rw[renL_id];rfl,by rw[renL_id];rfl,trivial⟩ rfl rfl rfl ?_
  rintro _ _ _ ⟨rfl,rfl,rfl⟩ _
  refine⟨rfl,?_⟩
  simp only[renB,rHC]
  cbv
  refine ssl hg rfl rfl rfl rfl rfl hSl ?_
  cbv
  refine⟨(j+1,h',m2,o2,c2),id,⟨by show m2+(j+1)*64=m;omega,?_,fun hp=> ?_,by show m2<=c2;omega⟩,(by show m2<mm;omega),?_⟩
  ·show soA h'=Sh.tq Sh.K256 (soA hf) d (j+1)
   rw[hh',soA_f8,Sh.tq,h2];rfl
  ·show o2=o+(j+1)*64
   have hp:0<m2:=hp
   rw[ho2,if_neg (by omega),ho];omega
  ·exact wkih (by repeat' (first|exact trivial|refine⟨rfl,rfl,rfl,?_⟩|refine⟨rfl,rfl,bC 3,?_⟩|refine⟨rfl,rfl,hHb h',?_⟩))
 ·have hj:j=m/64:=by omega
  cbv
  rw[f3 mm,f2 mm hlt]
  cbv
  have hr:mm=(d.drop (d.length/64*64)).length:=by rw[List.length_drop,<-hm];omega
  refine hK _ _ _ ⟨h,o',c',_,mm,hr,by rw[h2,hj],by rw[hm],rfl,?_,?_,rfl⟩
  ·rcases Nat.eq_zero_or_pos mm with h0|h0
   ·rw[hr]at h0
    rw[h0,List.eq_nil_of_length_eq_zero h0];rfl
   ·rw[h3 h0,<-hm,<-hj,by8_drop,<-hC,List.drop_take,List.drop_drop]
    congr 1
    rw[List.length_drop,<-hm]
  ·rw[hHC]
theorem cAConst{P:Program}(hP:P=Tryz.prog)(kf:Nat->Nat)(hkf:kf=fun j=>Sh.K256.ks.getD j 0):Con P 164 [] [] 0 [] (fun v _ _=>v= .agg (lst .u32 (fun j=>Int.ofNat (kf j)) 0 64)):=by
 subst hkf
 refine cof hP Tryz.func164 (bdb _ rfl) (bkb rfl) ?_
 intro A g K hA hg hK
 cases A
 cbv
 exact hK _ _ _ rfl
theorem cABegin{P:Program}(hP:P=Tryz.prog)(bits:Nat)(h0:Nat->Nat)(hb:(bits=224/\soA h0=Sh.i224)\/(bits=256/\soA h0=Sh.i256)):Con P 163 [.int .i64 (.ofNat bits)] [] 0 [] (fun v _ _=>v= .tup [.agg (lst .u32 (fun j=>Int.ofNat (h0 j)) 0 8),.bool true]):=by
 have fin:∀s,soA h0=s->lst .u32 (fun j=>Int.ofNat (h0 j)) 0 8=lst .u32 (fun j=>Int.ofNat (f8A s j)) 0 8:=fun s hs=>lcg fun j _ hj=>by
  rw[soA_eq (hs.trans (soA_f8 s).symm) j (by omega)]
 refine cof hP Tryz.func163 (bdb _ rfl) (bkb rfl) ?_
 intro A g K hA hg hK
 obtain⟨_,_,cmp⟩:=A
 rcases hb with⟨rfl,hs⟩|⟨rfl,hs⟩
 ·have e1:cmp .eql (.ofNat 224) 224=true:=eql_t hA (a:=224) (b:=224) rfl
  rw[fin _ hs]at hK
  cbv
  rw[e1]
  cbv
  exact hK _ _ _ rfl
 ·have e1:cmp .eql (.ofNat 256) 224=false:=eql_f hA (a:=256) (b:=224) (by decide)
  have e2:cmp .eql (.ofNat 256) 256=true:=eql_t hA (a:=256) (b:=256) rfl
  rw[fin _ hs]at hK
  cbv
  rw[e1]
  cbv
  rw[e2]
  cbv
  exact hK _ _ _ rfl
theorem cANew{P:Program}(hP:P=Tryz.prog)(bits:Nat)(h0 kf:Nat->Nat)(hkf:kf=fun j=>Sh.K256.ks.getD j 0)(hb:(bits=224/\soA h0=Sh.i224)\/(bits=256/\soA h0=Sh.i256)):
 Con P 150 [.int .i64 (.ofNat bits)] [] 0 [] (fun v L q=>v= .tup [.ptr 0 0,.int .i64 0]/\L=[⟨0,hAx bits 0 h0 kf .nils,261⟩]/\q=1):=by
 have hB:=cABegin hP bits h0 hb
 have hCo:=cAConst hP kf hkf
 have raw:Con P 150 [.int .i64 (.ofNat bits)] [] 0 [] (fun v L q=>v= .tup [.ptr 1 0,.int .i64 0]/\find L 1=some ⟨1,hAx bits 0 h0 kf .nils,261⟩/\q=2):=by
  clear hkf hb
  refine cof hP Tryz.func150 (bdb _ rfl) (bkb rfl) ?_
  intro A g K hA hg hK
  obtain⟨_,_,_,_,_,_,_,_,bnot⟩:=A
  have e1:bnot true=false:=bnot_of hA true
  cbv
  refine cva rfl hg rfl rfl hB ?_
  rintro _ _ _ rfl
  refine⟨by simp[bd,bdL,lst],?_⟩
  cbv
  rw[e1]
  cbv
  refine reg_A (hP▸tblOk) hA hg (hP▸mixed) rfl rfl ?_
  cbv
  refine stepD (en_val rfl hg rfl rfl hCo (fun _ _ _ h=>h) (by simp[bd,bdL,lst])) ?_
  cbv
  exact hK _ _ _ ⟨rfl,rfl,rfl⟩
 exact raw.weak fun v L q ⟨h1,h2,h3⟩=>⟨fun _=>1,.tup [.ptr 0 0,.int .i64 0],_,1,by subst h1 h3;exact wkr ⟨rfl,rfl,trivial⟩ ⟨h2,rfl,rfl,hAbd _ _ _ _ rfl,trivial⟩ rfl rfl rfl,rfl,rfl,rfl⟩
theorem leftA_b{M:List Nat}(h:∀x∈M,x<256):∀x∈Sh.left Sh.K256 M,x<256:=fun x hx=>h x (List.mem_of_mem_drop hx)
theorem bytesU8{P:Program}(hP:P=Tryz.prog):(P.info? 5).map (·.bytes)=some 1:=by
 subst hP;kernel_rfl
theorem cAWriteN{P:Program}(hP:P=Tryz.prog)(size:Nat)(h0 hf kf:Nat->Nat)(hkf:kf=fun j=>Sh.K256.ks.getD j 0)(M:List Nat)(s:ByteArray)(hM:∀x∈M,x<256)(hsz:M.length+s.size<2^40)(h8:Sh.ok8 32 (soA h0))(hh:soA hf=Sh.hst Sh.K256 (soA h0) M)(n:Nat)(hn:n=M.length)(n':Nat)(hn':n'=M.length+s.size)
 {rv:SV} {B:LL} (hR:BRow 5 1 (Sh.left Sh.K256 M) rv B):
 Con P 152 [.ptr 0 0,.str s] (⟨0,hAx size n hf kf rv,261⟩::B) 2 [0]
  (fun v L q=>∃hf' rv' B',soA hf'=Sh.hst Sh.K256 (soA h0) (M++bl s)/\BRow 5 2 (Sh.left Sh.K256 (M++bl s)) rv' B'/\v= .int .i64 0/\L=⟨0,hAx size n' hf' kf rv',261⟩::B'/\q=3):=by
 have hw:=Sh.hst_app (K:=Sh.K256) (by decide) (soA h0) M (bl s)
 obtain⟨r0,hr0⟩:=exq (Sh.left Sh.K256 M)
 have hr0b:∀x∈r0,x<256:=by rw[hr0];exact leftA_b hM
 have hr0l:r0.length<64:=by rw[hr0,Sh.left_len];exact Nat.mod_lt _ (by decide)
 rw[<-hr0]at hR hw
 rw[<-hh]at hw
 have h8f:Sh.ok8 32 (soA hf):=by rw[hh];exact Sh.ok8_tq (K:=Sh.K256) (by decide) h8 M _
 have hU8:=bytesU8 hP
 obtain⟨a,ha⟩:=exq (r0++bl s)
 rw[<-ha]at hw
 have hab:∀x∈a,x<256:=fun x hx=>by
  rw[ha]at hx
  rcases List.mem_append.1 hx with h|h
  ·exact hr0b x h
  ·exact bl_lt s x h
 have hal:a.length=r0.length+s.size:=by rw[ha,List.length_append,bll]
 have hBN:=cABlocksN hP
 suffices raw:Con P 152 [.ptr 0 0,.str s] (⟨0,hAx size n hf kf rv,261⟩::B) 2 [0]
  (fun v L q=>∃hf' rv' B' k,soA hf'=Sh.hst Sh.K256 (soA h0) (M++bl s)/\BRow 5 k (Sh.left Sh.K256 (M++bl s)) rv' B'/\v= .int .i64 0/\find L 0=some ⟨0,hAx size n' hf' kf rv',261⟩/\(∀b∈B',find L b.l=some b)/\k<q/\2<=k) by
  refine raw.weak fun v L q hq=> ?_
  obtain⟨hf',rv',B',k,h1,h2,rfl,h4,h5,h6,h7⟩:=hq
  rcases h2.get with⟨rfl,rfl,hl⟩|⟨kl,c,X,hkl,rfl,rfl,hX⟩
  ·exact⟨id,.int .i64 0,[⟨0,hAx size n' hf' kf .nils,261⟩],3,weak_id ⟨rfl,rfl,trivial⟩ ⟨h4,rfl,hAbd _ _ _ _ rfl,trivial⟩ rfl rfl,hf',.nils,[],h1,by rw[hl];exact BRow.nil _ _,rfl,rfl,rfl⟩
  ·refine⟨fun l=>if l=2 then k else l,.int .i64 0,[⟨0,hAx size n' hf' kf (.slice 2 0 kl c),261⟩,⟨2,X,5⟩],3,?_,hf',_,_,h1,hX.row hkl _ 2,rfl,rfl,rfl⟩
   refine wkr ⟨rfl,rfl,trivial⟩ ⟨?_,rfl,rfl,hAbd _ _ _ _ (by rfl),(by rw[rcl X (hX.b 0)];exact h5 _ List.mem_cons_self),rfl,?_,hX.b 3,trivial⟩ ?_ rfl rfl
   ·exact h4
   ·show(Nat.blt 2 2||Nat.ble 2 k)=true
    rw[Nat.ble_eq_true_of_le h7];rfl
   ·show ndN [0,k]=true
    have hk0:k≠0:=by omega
    simp[ndN,memN,hk0]
 have fin:∀ (hf':Nat->Nat) (r:List Nat),soA hf'=Sh.tq Sh.K256 (soA hf) a (a.length/64)->r=a.drop (a.length/64*64)->soA hf'=Sh.hst Sh.K256 (soA h0) (M++bl s)/\r=Sh.left Sh.K256 (M++bl s):=fun hf' r h1 h2=>⟨by rw[hw.1];exact h1,by rw[hw.2];exact h2⟩
 have hmax:∀r:List Nat,r=a.drop (a.length/64*64)->r.length<=a.length:=fun r h=>by rw[h,List.length_drop];omega
 clear hw
 rcases hR.get with⟨rfl,rfl,hr00⟩|⟨k0,c0,X0,hk0,rfl,rfl,hX0⟩
 ·refine cof hP Tryz.func152 ⟨(by show 0<2;decide),trivial,trivial⟩ (bkb (by simp only[List.all_cons,List.all_nil,hAbd _ _ _ _ (show bdB 2 .nils=true from rfl)];rfl)) ?_
  intro A g K hA hg hK
  obtain⟨bin,_,_,_,cvt,_,_,_,_,_,_,_,slen,_,_,_,get⟩:=A
  obtain⟨sz,hszv⟩:=exq s.size
  have e1:cvt .u64 (.ofNat sz)=Int.ofNat sz:=cvtI hA (fun h=>by cases h) (fun _=>by show sz<2^64;omega)
  have e2:slen s=Int.ofNat sz:=(slen_of hA s).trans (by rw[hszv])
  have e3:bin .add .u64 (.ofNat n) (.ofNat sz)=Int.ofNat n':=(addU hA (a:=n) (b:=sz) (by omega)).trans (by rw[hn',hn,hszv])
  cbv
  rw[e2]
  cbv
  rw[e1]
  cbv
  rw[e3]
  cbv
  refine sbp (hP▸tblOk) hg rfl rfl (show tyT 143=some _ from rfl) rfl (show tyT 5=some _ from rfl) hU8 rfl (L0:=_) (B1:=[]) (lb:=99) (by rw[List.append_nil]) rfl rfl (BRow.nil _ _) rfl rfl (d:=r0) (Or.inl ⟨rfl,hr00⟩) (by show 0+r0.length<=_;omega) ?_
  intro v1 B1 hR1
  rw[List.nil_append]at hR1
  cbv
  refine step_sapp (hP▸tblOk) hg rfl rfl (show tyT 143=some _ from rfl) rfl (show tyT 5=some _ from rfl) hU8 rfl (show tyT 9=some _ from rfl) rfl (L0:=[⟨0,hAx size n' hf kf .nils,261⟩]) (B1:=B1) (lb:=2) rfl rfl rfl hR1 rfl rfl (by omega) ?_
  intro v2 B2 hR2
  rw[<-ha]at hR2
  rcases hR2.get with⟨rfl,rfl,hanil⟩|⟨al,c2,X2,hal2,rfl,rfl,hX2⟩
  ·cbv
   refine cro rfl hg rfl rfl hBN id rfl trivial ?_
   rintro _ _ _ rfl
   refine⟨trivial,trivial,?_⟩
   cbv
   refine sbp (hP▸tblOk) hg rfl rfl (show tyT 143=some _ from rfl) rfl (show tyT 5=some _ from rfl) hU8 rfl (L0:=_) (B1:=[]) (lb:=99) (by rw[List.append_nil]) rfl rfl (BRow.nil _ _) rfl rfl (d:=[]) (Or.inl ⟨rfl,rfl⟩) (by decide) ?_
   intro v3 B3 hR3
   obtain⟨q1,q2⟩:=fin hf [] (by rw[hanil];rfl) (by rw[hanil];rfl)
   rcases hR3.get with⟨rfl,rfl,_⟩|⟨k3,c3,X3,hk3,rfl,rfl,hX3⟩
   ·cbv
    exact hK _ _ _ ⟨hf,.nils,[],2,q1,by rw[<-q2];exact BRow.nil _ _,rfl,rfl,fun b h=>(by cases h),(by decide),Nat.le_refl 2⟩
   ·cbv
    exact hK _ _ _ ⟨hf,.slice 4 0 k3 c3,[⟨4,X3,5⟩],4,q1,by rw[<-q2];exact hX3.row hk3 _ 4,rfl,rfl,fun b h=>(by obtain rfl:=List.mem_singleton.1 h;rfl),(by decide),by decide⟩
  ·have hBl:=cABlocks hP (t:=5) size n' hf kf hkf (.nils) rfl 0 c2 X2 a hab al hal2 (by rw[List.drop_zero];exact hX2.dat) hX2.le (by omega) hX2.b h8f
   have rX:∀r,renL r X2=X2:=fun r=>rcl X2 (hX2.b 0)
   cbv
   refine cgn rfl hg rfl rfl hBl (fun l=>if l=1 then 3 else if l=2 then 1 else l) rfl ⟨rfl,by rw[rX];rfl,trivial⟩ rfl rfl rfl ?_
   rintro _ _ _ ⟨hf',o',c',r,rl,hrl2,k1,k2,rfl,k4,rfl,rfl⟩ _
   refine⟨rfl,?_⟩
   have hrl:=hmax r k2
   obtain⟨q1,q2⟩:=fin hf' r k1 k2
   simp only[renB,rX]
   cbv
   refine sbp (hP▸tblOk) hg rfl rfl (show tyT 143=some _ from rfl) rfl (show tyT 5=some _ from rfl) hU8 rfl (L0:=_) (B1:=[]) (lb:=99) (by rw[List.append_nil]) rfl rfl (BRow.nil _ _) rfl rfl (d:=r) (Or.inr ⟨3,o',rl,c',_,hrl2,rfl,rfl,k4⟩) (by show 0+r.length<=_;omega) ?_
   intro v3 B3 hR3
   rw[List.nil_append]at hR3
   rcases hR3.get with⟨rfl,rfl,hr0'⟩|⟨k3,c3,X3,hk3,rfl,rfl,hX3⟩
   ·cbv
    exact hK _ _ _ ⟨hf',.nils,[],2,q1,by rw[<-q2,hr0'];exact BRow.nil _ _,rfl,rfl,fun b h=>(by cases h),(by decide),Nat.le_refl 2⟩
   ·cbv
    exact hK _ _ _ ⟨hf',.slice 4 0 k3 c3,[⟨4,X3,5⟩],4,q1,by rw[<-q2];exact hX3.row hk3 _ 4,rfl,rfl,fun b h=>(by obtain rfl:=List.mem_singleton.1 h;rfl),(by decide),by decide⟩
 ·refine cof hP Tryz.func152 ⟨(by show 0<2;decide),trivial,trivial⟩ (bkb (by simp only[List.all_cons,List.all_nil,hAbd _ _ _ _ (show bdB 2 (.slice 1 0 k0 c0)=true from rfl),hX0.b 2];rfl)) ?_
  intro A g K hA hg hK
  obtain⟨bin,_,_,_,cvt,_,_,_,_,_,_,_,slen,_,_,_,get⟩:=A
  obtain⟨sz,hszv⟩:=exq s.size
  have e1:cvt .u64 (.ofNat sz)=Int.ofNat sz:=cvtI hA (fun h=>by cases h) (fun _=>by show sz<2^64;omega)
  have e2:slen s=Int.ofNat sz:=(slen_of hA s).trans (by rw[hszv])
  have e3:bin .add .u64 (.ofNat n) (.ofNat sz)=Int.ofNat n':=(addU hA (a:=n) (b:=sz) (by omega)).trans (by rw[hn',hn,hszv])
  cbv
  rw[e2]
  cbv
  rw[e1]
  cbv
  rw[e3]
  cbv
  refine sbp (hP▸tblOk) hg rfl rfl (show tyT 143=some _ from rfl) rfl (show tyT 5=some _ from rfl) hU8 rfl (L0:=_) (B1:=[]) (lb:=99) (by rw[List.append_nil]) rfl rfl (BRow.nil _ _) rfl rfl (d:=r0) (Or.inr ⟨1,0,k0,c0,_,hk0,rfl,rfl,by rw[List.drop_zero];exact hX0.dat⟩) (by show 0+r0.length<=_;omega) ?_
  intro v1 B1 hR1
  rw[List.nil_append]at hR1
  cbv
  refine step_sapp (hP▸tblOk) hg rfl rfl (show tyT 143=some _ from rfl) rfl (show tyT 5=some _ from rfl) hU8 rfl (show tyT 9=some _ from rfl) rfl (L0:=[⟨0,hAx size n' hf kf (.slice 1 0 k0 c0),261⟩,⟨1,X0,5⟩]) (B1:=B1) (lb:=2) rfl rfl rfl hR1 rfl rfl (by omega) ?_
  intro v2 B2 hR2
  rw[<-ha]at hR2
  rcases hR2.get with⟨rfl,rfl,hanil⟩|⟨al,c2,X2,hal2,rfl,rfl,hX2⟩
  ·cbv
   refine cro rfl hg rfl rfl hBN id rfl trivial ?_
   rintro _ _ _ rfl
   refine⟨trivial,trivial,?_⟩
   cbv
   refine sbp (hP▸tblOk) hg rfl rfl (show tyT 143=some _ from rfl) rfl (show tyT 5=some _ from rfl) hU8 rfl (L0:=_) (B1:=[]) (lb:=99) (by rw[List.append_nil]) rfl rfl (BRow.nil _ _) rfl rfl (d:=[]) (Or.inl ⟨rfl,rfl⟩) (by decide) ?_
   intro v3 B3 hR3
   obtain⟨q1,q2⟩:=fin hf [] (by rw[hanil];rfl) (by rw[hanil];rfl)
   rcases hR3.get with⟨rfl,rfl,_⟩|⟨k3,c3,X3,hk3,rfl,rfl,hX3⟩
   ·cbv
    exact hK _ _ _ ⟨hf,.nils,[],2,q1,by rw[<-q2];exact BRow.nil _ _,rfl,rfl,fun b h=>(by cases h),(by decide),Nat.le_refl 2⟩
   ·cbv
    exact hK _ _ _ ⟨hf,.slice 4 0 k3 c3,[⟨4,X3,5⟩],4,q1,by rw[<-q2];exact hX3.row hk3 _ 4,rfl,rfl,fun b h=>(by obtain rfl:=List.mem_singleton.1 h;rfl),(by decide),by decide⟩
  ·have hBl:=cABlocks hP (t:=5) size n' hf kf hkf (.slice 2 0 k0 c0) rfl 0 c2 X2 a hab al hal2 (by rw[List.drop_zero];exact hX2.dat) hX2.le (by omega) hX2.b h8f
   have rX:∀r,renL r X2=X2:=fun r=>rcl X2 (hX2.b 0)
   cbv
   refine cgn rfl hg rfl rfl hBl (fun l=>if l=1 then 3 else if l=2 then 1 else l) rfl ⟨rfl,by rw[rX];rfl,trivial⟩ rfl rfl rfl ?_
   rintro _ _ _ ⟨hf',o',c',r,rl,hrl2,k1,k2,rfl,k4,rfl,rfl⟩ _
   refine⟨rfl,?_⟩
   have hrl:=hmax r k2
   obtain⟨q1,q2⟩:=fin hf' r k1 k2
   simp only[renB,rX]
   cbv
   refine sbp (hP▸tblOk) hg rfl rfl (show tyT 143=some _ from rfl) rfl (show tyT 5=some _ from rfl) hU8 rfl (L0:=_) (B1:=[]) (lb:=99) (by rw[List.append_nil]) rfl rfl (BRow.nil _ _) rfl rfl (d:=r) (Or.inr ⟨3,o',rl,c',_,hrl2,rfl,rfl,k4⟩) (by show 0+r.length<=_;omega) ?_
   intro v3 B3 hR3
   rw[List.nil_append]at hR3
   rcases hR3.get with⟨rfl,rfl,hr0'⟩|⟨k3,c3,X3,hk3,rfl,rfl,hX3⟩
   ·cbv
    exact hK _ _ _ ⟨hf',.nils,[],2,q1,by rw[<-q2,hr0'];exact BRow.nil _ _,rfl,rfl,fun b h=>(by cases h),(by decide),Nat.le_refl 2⟩
   ·cbv
    exact hK _ _ _ ⟨hf',.slice 4 0 k3 c3,[⟨4,X3,5⟩],4,q1,by rw[<-q2];exact hX3.row hk3 _ 4,rfl,rfl,fun b h=>(by obtain rfl:=List.mem_singleton.1 h;rfl),(by decide),by decide⟩
end Go.Proofs.YtdhmihfefgcbeaaGreat
