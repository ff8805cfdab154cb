/-
  This text proves what these texts prove: Pq, Pr, Ps, Qa, Qb, Qc. Conditions: those of each theorem.
-/
import Derived.Test.YtdhmihfefgcbeaaGreatX25
set_option maxHeartbeats 8000000
set_option linter.all false
namespace Go.Proofs.YtdhmihfefgcbeaaGreat
open Go.Vg Go.RowKit
set_option maxRecDepth 200000
set_option cbv.maxSteps 100000000
theorem rowRA_minus(k:Nat)(h:1<=k/\k<=15):strCmp .eql (rowRA k) ⟨⟨[45]⟩⟩=decide (rowAL k=0):=by
 obtain⟨h1,h2⟩:=h
 show((rowRA k).toList==(ByteArray.mk ⟨[45]⟩).toList)=_
 rw[ByteArray.toList_eq,ByteArray.toList_eq]
 have:k=1\/k=2\/k=3\/k=4\/k=5\/k=6\/k=7\/k=8\/k=9\/k=10\/k=11\/k=12\/k=13\/k=14\/k=15:=by omega
 rcases this with rfl|rfl|rfl|rfl|rfl|rfl|rfl|rfl|rfl|rfl|rfl|rfl|rfl|rfl|rfl<;>decide +kernel
section
variable {P:Program}(hP:P=Tryz.prog){H:Nat->Nat->List SV}{S:Nat->Nat}(hs:HS H S)
include hP hs
theorem oneRow{y:Nat}(h:y<4294967296):H y 1=[.int .u32 (.ofNat y)]:=by
 have:=hP
 rw[hs.h]
 show [SV.int .u32 (.ofNat (dg y 0))]=_
 rw[show dg y 0=y from by unfold dg Dg.dig;rw[Nat.pow_zero,Nat.div_one];exact Nat.mod_eq_of_lt h]
theorem mGet0(i:Int)(h:∀k:Nat,1<=k->k<=15->i≠Int.ofNat k):Con P 10 [.int .i64 i] [] 0 [] (fun w _ _=>w= .tup [.agg [.int .i64 0,.nils,.nils,.nils,.nils,.nils,.nils],.bool false]):=by
 have:=hs.h
 have hR:=mRow0 hP i h
 refine cof hP Tryz.func10 (bdb _ rfl) (bkb rfl) ?_
 intro A g K hA hg hK
 cases A
 cbv
 refine cva rfl hg rfl rfl hR ?_
 rintro _ _ _ rfl
 refine⟨trivial,?_⟩
 cbv
 exact hK _ _ _ rfl
theorem mGet(k:Nat)(hk:1<=k/\k<=15)(p a b n x y:Nat)(hp:p=primeN k)(ha:a=curA k)(hb:b=rowB k)(hn:n=rowN k)(hx:x=rowX k)(hy:y=rowY k):∃pc ac bc nc xc yc,p<4294967296^pc/\a<4294967296^ac/\b<4294967296^bc/\n<4294967296^nc/\x<4294967296^xc/\y<4294967296^yc/\
 Con P 10 [.int .i64 (.ofNat k)] [] 0 [] (fun w L q=>w= .tup [.agg [.int .i64 (.ofNat k),.slice 0 0 (S p) pc,.slice 1 0 (S a) ac,.slice 2 0 (S b) bc,.slice 3 0 (S n) nc,.slice 4 0 (S x) xc,.slice 5 0 (S y) yc],.bool true]/\
  L=[⟨0,H p pc,58⟩,⟨1,H a ac,58⟩,⟨2,H b bc,58⟩,⟨3,H n nc,58⟩,⟨4,H x xc,58⟩,⟨5,H y yc,58⟩]/\q=6):=by
 obtain⟨r1,r2,r3,r4,r5,l1,l2,l3,l4,l5,hbp,hp3⟩:=row_num k hk
 obtain⟨_,_,lp,_,rp⟩:=fld_num k hk
 obtain⟨ps,hps⟩:=exq (hexS (primeN k) (primeL k))
 obtain⟨sa,has⟩:=exq (rowRA k)
 obtain⟨bs,hbs⟩:=exq (hexS (rowB k) (rowBL k))
 obtain⟨ns,hns⟩:=exq (hexS (rowN k) (rowNL k))
 obtain⟨xs,hxs⟩:=exq (hexS (rowX k) (rowXL k))
 obtain⟨ys,hys⟩:=exq (hexS (rowY k) (rowYL k))
 have hR:=mRow hP k hk ps sa bs ns xs ys hps has hbs hns hxs hys
 obtain⟨pc,hpc⟩:=exq (primeL k/8+1)
 obtain⟨bc,hbc⟩:=exq (rowBL k/8+1)
 obtain⟨nc,hnc⟩:=exq (rowNL k/8+1)
 obtain⟨xc,hxc⟩:=exq (rowXL k/8+1)
 obtain⟨yc,hyc⟩:=exq (rowYL k/8+1)
 obtain⟨bp,hHp⟩:=mHex hP hs (primeL k) (primeN k) lp rp ps hps pc hpc
 obtain⟨bb,hHb⟩:=mHex hP hs (rowBL k) (rowB k) l2 r2 bs hbs bc hbc
 obtain⟨bn,hHn⟩:=mHex hP hs (rowNL k) (rowN k) l3 r3 ns hns nc hnc
 obtain⟨bx,hHx⟩:=mHex hP hs (rowXL k) (rowX k) l4 r4 xs hxs xc hxc
 obtain⟨by',hHy⟩:=mHex hP hs (rowYL k) (rowY k) l5 r5 ys hys yc hyc
 rw[<-hp]at hHp bp
 rw[<-hb]at hHb bb
 rw[<-hn]at hHn bn
 rw[<-hx]at hHx bx
 rw[<-hy]at hHy by'
 have vP:∀m,bdLB m (H p pc)=true:=fun m=>hs.b m p pc
 have vB:∀m,bdLB m (H b bc)=true:=fun m=>hs.b m b bc
 have vN:∀m,bdLB m (H n nc)=true:=fun m=>hs.b m n nc
 have vX:∀m,bdLB m (H x xc)=true:=fun m=>hs.b m x xc
 have vY:∀m,bdLB m (H y yc)=true:=fun m=>hs.b m y yc
 have h13:(3:Nat)<4294967296:=by decide
 have hrow3:=oneRow hP hs h13
 have hS3:=hs.one h13 (by decide)
 have hmi:=rowRA_minus k hk
 rw[<-has]at hmi
 by_cases hAL:rowAL k=0
 ·have hap:a=p-3:=by rw[ha,hp,curA,if_pos hAL]
  have hp40:p<4294967296^40:=by
   rw[hp];refine Nat.lt_of_lt_of_le rp (Nat.le_trans (Nat.pow_le_pow_right (by decide) lp) (by decide))
  obtain⟨ac,bac,hSb⟩:=mSub hP hs (x:=p) (c:=pc) (y:=3) (e:=1) bp (by decide) hp40 (by rw[hp];exact hp3) a hap
  rw[hS3,hrow3]at hSb
  have vA:∀m,bdLB m (H a ac)=true:=fun m=>hs.b m a ac
  refine⟨pc,ac,bc,nc,xc,yc,bp,bac,bb,bn,bx,by',?_⟩
  suffices raw:Con P 10 [.int .i64 (.ofNat k)] [] 0 [] (fun w L q=>w= .tup [.agg [.int .i64 (.ofNat k),.slice 2 0 (S p) pc,.slice 9 0 (S a) ac,.slice 3 0 (S b) bc,.slice 4 0 (S n) nc,.slice 5 0 (S x) xc,.slice 6 0 (S y) yc],.bool true]/\find L 2=some ⟨2,H p pc,58⟩/\find L 9=some ⟨9,H a ac,58⟩/\find L 3=some ⟨3,H b bc,58⟩/\find L 4=some ⟨4,H n nc,58⟩/\find L 5=some ⟨5,H x xc,58⟩/\find L 6=some ⟨6,H y yc,58⟩) by
   refine raw.weak fun v L q ⟨h1,h2,h3,h4,h5,h6,h7⟩=>⟨fun l=>if l=0 then 2 else if l=1 then 9 else l+1,.tup [.agg [.int .i64 (.ofNat k),.slice 0 0 (S p) pc,.slice 1 0 (S a) ac,.slice 2 0 (S b) bc,.slice 3 0 (S n) nc,.slice 4 0 (S x) xc,.slice 5 0 (S y) yc],.bool true],[⟨0,H p pc,58⟩,⟨1,H a ac,58⟩,⟨2,H b bc,58⟩,⟨3,H n nc,58⟩,⟨4,H x xc,58⟩,⟨5,H y yc,58⟩],6,?_,rfl,rfl,rfl⟩
   subst h1
   exact wkr ⟨rfl,rfl,trivial⟩ ⟨by rw[rcl _ (vP 0)];exact h2,rfl,rfl,vP 6,by rw[rcl _ (vA 0)];exact h3,rfl,rfl,vA 6,by rw[rcl _ (vB 0)];exact h4,rfl,rfl,vB 6,by rw[rcl _ (vN 0)];exact h5,rfl,rfl,vN 6,by rw[rcl _ (vX 0)];exact h6,rfl,rfl,vX 6,by rw[rcl _ (vY 0)];exact h7,rfl,rfl,vY 6,trivial⟩ rfl rfl rfl
  refine cof hP Tryz.func10 (bdb _ rfl) (bkb rfl) ?_
  intro A g K hA hg hK
  obtain⟨_,_,_,_,_,ix,_,_,_,_,_,scmp,_,_,_,off,get⟩:=A
  have e4:∀j,off 0 j 1=j:=fun j=>(off_of hA 0 j 1).trans (by omega)
  have i0:ix 0 6=some 0:=ix_of hA (k:=0) (n:=6) (by decide)
  have i1:ix 1 6=some 1:=ix_of hA (k:=1) (n:=6) (by decide)
  have i2:ix 2 6=some 2:=ix_of hA (k:=2) (n:=6) (by decide)
  have i3:ix 3 6=some 3:=ix_of hA (k:=3) (n:=6) (by decide)
  have i4:ix 4 6=some 4:=ix_of hA (k:=4) (n:=6) (by decide)
  have i5:ix 5 6=some 5:=ix_of hA (k:=5) (n:=6) (by decide)
  have q0:get [.str ps,.str sa,.str bs,.str ns,.str xs,.str ys] 0=some (.str ps):=(get_of hA _ _).trans rfl
  have q1:get [.str ps,.str sa,.str bs,.str ns,.str xs,.str ys] 1=some (.str sa):=(get_of hA _ _).trans rfl
  have q2:get [.str ps,.str sa,.str bs,.str ns,.str xs,.str ys] 2=some (.str bs):=(get_of hA _ _).trans rfl
  have q3:get [.str ps,.str sa,.str bs,.str ns,.str xs,.str ys] 3=some (.str ns):=(get_of hA _ _).trans rfl
  have q4:get [.str ps,.str sa,.str bs,.str ns,.str xs,.str ys] 4=some (.str xs):=(get_of hA _ _).trans rfl
  have q5:get [.str ps,.str sa,.str bs,.str ns,.str xs,.str ys] 5=some (.str ys):=(get_of hA _ _).trans rfl
  have hmin:scmp .eql sa ⟨⟨[45]⟩⟩=true:=by
   have e:scmp=Ar.real.scmp:=congrArg Ar.scmp hA
   rw[e]
   exact hmi.trans (decide_eq_true hAL)
  clear  hp ha hb hn hx hy hps has hbs hns hxs hys hpc hbc hnc hxc hyc
  cbv
  refine cgn rfl hg rfl rfl hR _root_.id rfl trivial rfl rfl rfl ?_
  rintro _ _ _ ⟨rfl,rfl,rfl⟩ _
  refine⟨rfl,?_⟩
  cbv
  refine reg_A (hP▸tblOk) hA hg (hP▸mixed) rfl rfl ?_
  cbv
  rw[i0]
  cbv
  rw[e4,q0]
  cbv
  refine stepDn (n':=3) (en_new rfl hg rfl rfl hHp _root_.id rfl trivial rfl (val:= .slice 0 0 (S p) pc) (NB:=[⟨0,H p pc,58⟩]) (n:=2) (n1:=1) (fun _ _ _ h=>⟨h.1,h.2.1,h.2.2⟩) rfl rfl (fun l h1 h2=>⟨_,List.mem_singleton.2 rfl,by show 0=l;omega⟩)) (by decide) rfl (by simp[renB]) ?_
  simp only[renB,rcl (H p pc) (vP 0)]
  cbv
  rw[i2]
  cbv
  rw[e4,q2]
  cbv
  refine stepDn (n':=4) (en_new rfl hg rfl rfl hHb _root_.id rfl trivial rfl (val:= .slice 0 0 (S b) bc) (NB:=[⟨0,H b bc,58⟩]) (n:=3) (n1:=1) (fun _ _ _ h=>⟨h.1,h.2.1,h.2.2⟩) rfl rfl (fun l h1 h2=>⟨_,List.mem_singleton.2 rfl,by show 0=l;omega⟩)) (by decide) rfl (by simp[renB]) ?_
  simp only[renB,rcl (H b bc) (vB 0)]
  cbv
  rw[i3]
  cbv
  rw[e4,q3]
  cbv
  refine stepDn (n':=5) (en_new rfl hg rfl rfl hHn _root_.id rfl trivial rfl (val:= .slice 0 0 (S n) nc) (NB:=[⟨0,H n nc,58⟩]) (n:=4) (n1:=1) (fun _ _ _ h=>⟨h.1,h.2.1,h.2.2⟩) rfl rfl (fun l h1 h2=>⟨_,List.mem_singleton.2 rfl,by show 0=l;omega⟩)) (by decide) rfl (by simp[renB]) ?_
  simp only[renB,rcl (H n nc) (vN 0)]
  cbv
  rw[i4]
  cbv
  rw[e4,q4]
  cbv
  refine stepDn (n':=6) (en_new rfl hg rfl rfl hHx _root_.id rfl trivial rfl (val:= .slice 0 0 (S x) xc) (NB:=[⟨0,H x xc,58⟩]) (n:=5) (n1:=1) (fun _ _ _ h=>⟨h.1,h.2.1,h.2.2⟩) rfl rfl (fun l h1 h2=>⟨_,List.mem_singleton.2 rfl,by show 0=l;omega⟩)) (by decide) rfl (by simp[renB]) ?_
  simp only[renB,rcl (H x xc) (vX 0)]
  cbv
  rw[i5]
  cbv
  rw[e4,q5]
  cbv
  refine stepDn (n':=7) (en_new rfl hg rfl rfl hHy _root_.id rfl trivial rfl (val:= .slice 0 0 (S y) yc) (NB:=[⟨0,H y yc,58⟩]) (n:=6) (n1:=1) (fun _ _ _ h=>⟨h.1,h.2.1,h.2.2⟩) rfl rfl (fun l h1 h2=>⟨_,List.mem_singleton.2 rfl,by show 0=l;omega⟩)) (by decide) rfl (by simp[renB]) ?_
  simp only[renB,rcl (H y yc) (vY 0)]
  cbv
  rw[i1]
  cbv
  rw[e4,q1]
  cbv
  rw[hmin]
  cbv
  refine cgn rfl hg rfl rfl hSb (fun l=>if l=0 then 2 else 8) rfl (ft2 (vP 0) rfl rfl rfl) rfl rfl rfl ?_
  rintro _ _ _ ⟨rfl,rfl,rfl⟩ _
  refine⟨rfl,?_⟩
  simp only[renB,rcl (H a ac) (vA 0)]
  cbv
  exact hK _ _ _ ⟨rfl,rfl,rfl,rfl,rfl,rfl,rfl⟩
 ·have hap:a=rowA k:=by rw[ha,curA,if_neg hAL]
  obtain⟨ac,hac⟩:=exq (rowAL k/8+1)
  obtain⟨ba,hHa⟩:=mHex hP hs (rowAL k) (rowA k) l1 r1 sa (by rw[has,rowRA,if_neg hAL]) ac hac
  rw[<-hap]at hHa ba
  have vA:∀m,bdLB m (H a ac)=true:=fun m=>hs.b m a ac
  refine⟨pc,ac,bc,nc,xc,yc,bp,ba,bb,bn,bx,by',?_⟩
  suffices raw:Con P 10 [.int .i64 (.ofNat k)] [] 0 [] (fun w L q=>w= .tup [.agg [.int .i64 (.ofNat k),.slice 2 0 (S p) pc,.slice 8 0 (S a) ac,.slice 3 0 (S b) bc,.slice 4 0 (S n) nc,.slice 5 0 (S x) xc,.slice 6 0 (S y) yc],.bool true]/\find L 2=some ⟨2,H p pc,58⟩/\find L 8=some ⟨8,H a ac,58⟩/\find L 3=some ⟨3,H b bc,58⟩/\find L 4=some ⟨4,H n nc,58⟩/\find L 5=some ⟨5,H x xc,58⟩/\find L 6=some ⟨6,H y yc,58⟩) by
   refine raw.weak fun v L q ⟨h1,h2,h3,h4,h5,h6,h7⟩=>⟨fun l=>if l=0 then 2 else if l=1 then 8 else l+1,.tup [.agg [.int .i64 (.ofNat k),.slice 0 0 (S p) pc,.slice 1 0 (S a) ac,.slice 2 0 (S b) bc,.slice 3 0 (S n) nc,.slice 4 0 (S x) xc,.slice 5 0 (S y) yc],.bool true],[⟨0,H p pc,58⟩,⟨1,H a ac,58⟩,⟨2,H b bc,58⟩,⟨3,H n nc,58⟩,⟨4,H x xc,58⟩,⟨5,H y yc,58⟩],6,?_,rfl,rfl,rfl⟩
   subst h1
   exact wkr ⟨rfl,rfl,trivial⟩ ⟨by rw[rcl _ (vP 0)];exact h2,rfl,rfl,vP 6,by rw[rcl _ (vA 0)];exact h3,rfl,rfl,vA 6,by rw[rcl _ (vB 0)];exact h4,rfl,rfl,vB 6,by rw[rcl _ (vN 0)];exact h5,rfl,rfl,vN 6,by rw[rcl _ (vX 0)];exact h6,rfl,rfl,vX 6,by rw[rcl _ (vY 0)];exact h7,rfl,rfl,vY 6,trivial⟩ rfl rfl rfl
  refine cof hP Tryz.func10 (bdb _ rfl) (bkb rfl) ?_
  intro A g K hA hg hK
  obtain⟨_,_,_,_,_,ix,_,_,_,_,_,scmp,_,_,_,off,get⟩:=A
  have e4:∀j,off 0 j 1=j:=fun j=>(off_of hA 0 j 1).trans (by omega)
  have i0:ix 0 6=some 0:=ix_of hA (k:=0) (n:=6) (by decide)
  have i1:ix 1 6=some 1:=ix_of hA (k:=1) (n:=6) (by decide)
  have i2:ix 2 6=some 2:=ix_of hA (k:=2) (n:=6) (by decide)
  have i3:ix 3 6=some 3:=ix_of hA (k:=3) (n:=6) (by decide)
  have i4:ix 4 6=some 4:=ix_of hA (k:=4) (n:=6) (by decide)
  have i5:ix 5 6=some 5:=ix_of hA (k:=5) (n:=6) (by decide)
  have q0:get [.str ps,.str sa,.str bs,.str ns,.str xs,.str ys] 0=some (.str ps):=(get_of hA _ _).trans rfl
  have q1:get [.str ps,.str sa,.str bs,.str ns,.str xs,.str ys] 1=some (.str sa):=(get_of hA _ _).trans rfl
  have q2:get [.str ps,.str sa,.str bs,.str ns,.str xs,.str ys] 2=some (.str bs):=(get_of hA _ _).trans rfl
  have q3:get [.str ps,.str sa,.str bs,.str ns,.str xs,.str ys] 3=some (.str ns):=(get_of hA _ _).trans rfl
  have q4:get [.str ps,.str sa,.str bs,.str ns,.str xs,.str ys] 4=some (.str xs):=(get_of hA _ _).trans rfl
  have q5:get [.str ps,.str sa,.str bs,.str ns,.str xs,.str ys] 5=some (.str ys):=(get_of hA _ _).trans rfl
  have hmin:scmp .eql sa ⟨⟨[45]⟩⟩=false:=by
   have e:scmp=Ar.real.scmp:=congrArg Ar.scmp hA
   rw[e]
   exact hmi.trans (decide_eq_false hAL)
  clear hac hp ha hb hn hx hy hps has hbs hns hxs hys hpc hbc hnc hxc hyc
  cbv
  refine cgn rfl hg rfl rfl hR _root_.id rfl trivial rfl rfl rfl ?_
  rintro _ _ _ ⟨rfl,rfl,rfl⟩ _
  refine⟨rfl,?_⟩
  cbv
  refine reg_A (hP▸tblOk) hA hg (hP▸mixed) rfl rfl ?_
  cbv
  rw[i0]
  cbv
  rw[e4,q0]
  cbv
  refine stepDn (n':=3) (en_new rfl hg rfl rfl hHp _root_.id rfl trivial rfl (val:= .slice 0 0 (S p) pc) (NB:=[⟨0,H p pc,58⟩]) (n:=2) (n1:=1) (fun _ _ _ h=>⟨h.1,h.2.1,h.2.2⟩) rfl rfl (fun l h1 h2=>⟨_,List.mem_singleton.2 rfl,by show 0=l;omega⟩)) (by decide) rfl (by simp[renB]) ?_
  simp only[renB,rcl (H p pc) (vP 0)]
  cbv
  rw[i2]
  cbv
  rw[e4,q2]
  cbv
  refine stepDn (n':=4) (en_new rfl hg rfl rfl hHb _root_.id rfl trivial rfl (val:= .slice 0 0 (S b) bc) (NB:=[⟨0,H b bc,58⟩]) (n:=3) (n1:=1) (fun _ _ _ h=>⟨h.1,h.2.1,h.2.2⟩) rfl rfl (fun l h1 h2=>⟨_,List.mem_singleton.2 rfl,by show 0=l;omega⟩)) (by decide) rfl (by simp[renB]) ?_
  simp only[renB,rcl (H b bc) (vB 0)]
  cbv
  rw[i3]
  cbv
  rw[e4,q3]
  cbv
  refine stepDn (n':=5) (en_new rfl hg rfl rfl hHn _root_.id rfl trivial rfl (val:= .slice 0 0 (S n) nc) (NB:=[⟨0,H n nc,58⟩]) (n:=4) (n1:=1) (fun _ _ _ h=>⟨h.1,h.2.1,h.2.2⟩) rfl rfl (fun l h1 h2=>⟨_,List.mem_singleton.2 rfl,by show 0=l;omega⟩)) (by decide) rfl (by simp[renB]) ?_
  simp only[renB,rcl (H n nc) (vN 0)]
  cbv
  rw[i4]
  cbv
  rw[e4,q4]
  cbv
  refine stepDn (n':=6) (en_new rfl hg rfl rfl hHx _root_.id rfl trivial rfl (val:= .slice 0 0 (S x) xc) (NB:=[⟨0,H x xc,58⟩]) (n:=5) (n1:=1) (fun _ _ _ h=>⟨h.1,h.2.1,h.2.2⟩) rfl rfl (fun l h1 h2=>⟨_,List.mem_singleton.2 rfl,by show 0=l;omega⟩)) (by decide) rfl (by simp[renB]) ?_
  simp only[renB,rcl (H x xc) (vX 0)]
  cbv
  rw[i5]
  cbv
  rw[e4,q5]
  cbv
  refine stepDn (n':=7) (en_new rfl hg rfl rfl hHy _root_.id rfl trivial rfl (val:= .slice 0 0 (S y) yc) (NB:=[⟨0,H y yc,58⟩]) (n:=6) (n1:=1) (fun _ _ _ h=>⟨h.1,h.2.1,h.2.2⟩) rfl rfl (fun l h1 h2=>⟨_,List.mem_singleton.2 rfl,by show 0=l;omega⟩)) (by decide) rfl (by simp[renB]) ?_
  simp only[renB,rcl (H y yc) (vY 0)]
  cbv
  rw[i1]
  cbv
  rw[e4,q1]
  cbv
  rw[hmin]
  cbv
  rw[i1]
  cbv
  rw[e4,q1]
  cbv
  refine cgn rfl hg rfl rfl hHa _root_.id rfl trivial rfl rfl rfl ?_
  rintro _ _ _ ⟨rfl,rfl,rfl⟩ _
  refine⟨rfl,?_⟩
  simp only[renB,rcl (H a ac) (vA 0)]
  cbv
  exact hK _ _ _ ⟨rfl,rfl,rfl,rfl,rfl,rfl,rfl⟩
end
end Go.Proofs.YtdhmihfefgcbeaaGreat
namespace Go.Vg
open Go.RowKit Go.Lib
section
variable {P:Program}{g:G}
theorem stepD_one{o:Oper}{c:Call}(ho:o.op= .call c){m0 N:Nat}{ms:List Nat}(hg:GI g m0 ms N)(hd':dstLt N o.dst=true){F:FF}{M:LL}{n:Nat}{f:FuncId}{us args:List SV}(hc:callee (look F) c=some (f,us)){Lp:LL}{n0 a b:Nat}{C:List SV}{t:TypeId}
 (hcon:Con P f args Lp n0 [] (fun w L q=>w= .slice n0 0 a b/\L=[⟨n0,C,t⟩]/\q=n0+1)) (bC:bdLB 0 C=true) (hlo:∀b∈Lp,b.l<n0/\bdLB n0 b.cs=true)
 (ρ:Nat->Nat) (hus:us=renL ρ args) (hft:foot ρ (selM o (find M)) Lp) (hcov:below (fun l=>memN (Lp.map Blk.l) l) n0=true) {K:SV->LL->Nat->Prop} (hK:K (.slice n 0 a b) [⟨n,C,t⟩] (n+1)):StepD g P o F M n K:=by
 have hk:=hcon.keep (fun b hb=>⟨(hlo b hb).1,bdb _ (hlo b hb).2⟩) (fun v L q h b hb=>by obtain⟨_,rfl,_⟩:=h;obtain rfl:=List.mem_singleton.1 hb;exact Nat.le_refl _)
 have hen:=en_new (n:=n) (n1:=n0+1) (val:= .slice n0 0 a b) (NB:=[⟨n0,C,t⟩]) ho hg hd' hc hk ρ hus hft hcov (fun v L1 k h=>by
  obtain⟨NB,⟨h1,h2,h3⟩,h4⟩:=h
  rw[h2]at h4
  exact⟨h1,h4,h3⟩) (by simp) (List.all_eq_true.2 fun b hb=>by simpa using(hlo b hb).1) (fun l h1 h2=>⟨_,List.mem_singleton.2 rfl,by show n0=l;omega⟩)
 have hbl:Nat.blt n0 n0=false:=by
  cases h:Nat.blt n0 n0 with
  |false=>rfl
  |true=>exact absurd (Nat.le_of_ble_eq_true h) (Nat.lt_irrefl _)
 have hr:rho ρ n0 n n0=n:=by unfold rho;rw[hbl];simp
 rw[show ren (rho ρ n0 n) (.slice n0 0 a b)= .slice n 0 a b from by simp[ren,hr],show renB (rho ρ n0 n) [⟨n0,C,t⟩]=[⟨n,C,t⟩]from by simp[renB,hr,rcl C bC]]at hen
 exact stepDn (n':=n+1) hen (by omega) (by simp) (by simp) hK
end
end Go.Vg
namespace Go.Proofs.YtdhmihfefgcbeaaGreat
open Go.Vg Go.RowKit
set_option maxRecDepth 200000
set_option cbv.maxSteps 100000000
def cvS(k:Nat)(sp sa sb sn sx sy:SV):List SV:=[.int .i64 (.ofNat k),sp,sa,sb,sn,sx,sy]
section
variable {P:Program}(hP:P=Tryz.prog){H:Nat->Nat->List SV}{S:Nat->Nat}(hs:HS H S)
include hP hs
theorem mOut{x c y e:Nat}(hx:x<4294967296^c)(hy:y<4294967296^e)(X Y:Nat->Nat)(wX:Wn 9 X)(wY:Wn 9 Y)(vX:V 9 X=x)(vY:V 9 Y=y)(inf:Bool):Con P 17 [.agg [.slice 0 0 (S x) c,.slice 1 0 (S y) e,.bool inf]] [⟨0,H x c,58⟩,⟨1,H y e,58⟩] 2 [] (fun w _ _=>w= .agg (ptS X Y inf)):=by
 have h1:=mNat hP hs hx X wX vX
 have h2:=mNat hP hs hy Y wY vY
 obtain⟨C,hC⟩:=exq (H x c)
 have bC:∀m,bdLB m C=true:=fun m=>by rw[hC];exact hs.b m x c
 obtain⟨E,hE⟩:=exq (H y e)
 have bE:∀m,bdLB m E=true:=fun m=>by rw[hE];exact hs.b m y e
 rw[<-hC]at h1⊢
 rw[<-hE]at h2⊢
 clear hC hE
 refine cof hP Tryz.func17 ⟨⟨blq rfl,⟨blq rfl,⟨trivial,trivial⟩⟩⟩,trivial⟩ (by simpa [bdL,bd]using⟨bdb _ (bC 2),bdb _ (bE 2)⟩) ?_
 intro A g K hA hg hK
 cases A
 cbv
 refine reg_A (hP▸tblOk) hA hg (hP▸mixed) rfl rfl ?_
 cbv
 refine stepD (enr rfl hg rfl rfl h1 (fun _=>0) rfl (ftM (bC 0) rfl) (fun _ _ _ h=>h) (by simp[bd,bdL,ws,lst])) ?_
 cbv
 refine stepD (enr rfl hg rfl rfl h2 (fun _=>1) rfl (ftM (bE 0) rfl) (fun _ _ _ h=>h) (by simp[bd,bdL,ws,lst])) ?_
 cbv
 exact hK _ _ _ rfl
theorem mG(k:Nat)(np na nb nm nx ny cp ca cb cn cx cy:Nat)(r0 r1 r2 r3 r4 r5:List SV)(b0:∀m,bdLB m r0=true)(b1:∀m,bdLB m r1=true)(b2:∀m,bdLB m r2=true)(b3:∀m,bdLB m r3=true)(b4:∀m,bdLB m r4=true)(b5:∀m,bdLB m r5=true):Con P 19 [.agg (cvS k (.slice 0 0 np cp) (.slice 1 0 na ca) (.slice 2 0 nb cb) (.slice 3 0 nm cn) (.slice 4 0 nx cx) (.slice 5 0 ny cy))]
 [⟨0,r0,58⟩,⟨1,r1,58⟩,⟨2,r2,58⟩,⟨3,r3,58⟩,⟨4,r4,58⟩,⟨5,r5,58⟩] 6 [] (fun w _ _=>w= .agg [.slice 4 0 nx cx,.slice 5 0 ny cy,.bool false]):=by
 have:=hs.h
 refine cof hP Tryz.func19 ⟨⟨trivial,blq rfl,blq rfl,blq rfl,blq rfl,blq rfl,blq rfl,trivial⟩,trivial⟩ (by simpa [bdL,bd]using⟨bdb _ (b0 6),bdb _ (b1 6),bdb _ (b2 6),bdb _ (b3 6),bdb _ (b4 6),bdb _ (b5 6)⟩) ?_
 intro A g K hA hg hK
 cases A
 cbv
 exact hK _ _ _ rfl
end
theorem ftM2{ρ:Nat->Nat}{M:Nat->Option Blk}{l l':Nat}{C C':List SV}{t t':TypeId}(bC:bdLB 0 C=true)(bC':bdLB 0 C'=true)(h:M (ρ l)=some ⟨ρ l,C,t⟩)(h':M (ρ l')=some ⟨ρ l',C',t'⟩):foot ρ M [⟨l,C,t⟩,⟨l',C',t'⟩]:=
 ⟨by show M (ρ l)=some ⟨ρ l,renL ρ C,t⟩;rw[rcl C bC];exact h,by show M (ρ l')=some ⟨ρ l',renL ρ C',t'⟩;rw[rcl C' bC'];exact h',trivial⟩
section
variable {P:Program}(hP:P=Tryz.prog){H:Nat->Nat->List SV}{S:Nat->Nat}(hs:HS H S)
include hP hs
end
theorem cRCmpF{P:Program}(hP:P=Tryz.prog){m e y:Nat}{u:Nat->Nat}(hy:Nm m e u y)(r:Int)(h1:0<y->r= -1)(h2:y=0->r=0):
 Con P 43 [.nils,.slice 0 0 m e] [⟨0,hs u e,58⟩] 1 [] (fun w _ _=>w= .int .i64 r):=by
 obtain⟨E,hE⟩:=exq (hs u e)
 have bE:∀m,bdLB m E=true:=fun m=>by rw[hE];exact hs_bd u e m
 rw[<-hE]
 clear hE
 have hz:=hy.zero
 refine cof hP Tryz.func43 ⟨trivial,⟨blq rfl,trivial⟩⟩ (by simpa [bdL,bd]using bdb _ (bE 1)) ?_
 intro A g K hA hg hK
 obtain⟨bin,_,cmp,_,_,_,_,_,_,_,_,_,_,_,nat,_,_,_,sub⟩:=A
 have e0:nat m=Int.ofNat m:=nat_of hA m
 have hb:bin .sub .i64 0 1= -1:=by rw[show bin=intBin from bin_of hA];rfl
 have e3f:cmp .geq (-1) 0=false:=(congrFun (congrFun (congrFun (cmp_of hA) .geq) (-1)) 0).trans rfl
 by_cases hy0:y=0
 ·have hm0:m=0:=hz.2 hy0
  obtain rfl:=h2 hy0
  cbv
  rw[e0,show cmp .neq 0 (.ofNat m)=false from neq_f hA (a:=0) (b:=m) hm0.symm]
  cbv
  rw[hb]
  refine lpb Nat (fun j=>j=0) (fun j=>0) (fun j=> [(5,.int .i64 (-1))]) [0,1,4] (fun _=> []) 0 rfl ?_ ?_
  ·exact wkih (by repeat' (first|exact trivial|refine⟨rfl,rfl,rfl,?_⟩|refine⟨rfl,rfl,bE 1,?_⟩))
  intro j hj
  cbv
  rw[e3f]
  cbv
  exact hK _ _ _ rfl
 ·have hm0:m≠0:=fun h=>hy0 (hz.1 h)
  obtain rfl:=h1 (Nat.pos_of_ne_zero hy0)
  cbv
  rw[e0,show cmp .neq 0 (.ofNat m)=true from neq_t hA (a:=0) (b:=m) (fun h=>hm0 h.symm)]
  cbv
  rw[e0,show cmp .lss 0 (.ofNat m)=true from lss_t hA (a:=0) (b:=m) (by omega)]
  cbv
  exact hK _ _ _ rfl
theorem cRAddF{P:Program}(hP:P=Tryz.prog){m e y:Nat}{u:Nat->Nat}(hy:Nm m e u y)(hm:m<2^20)(k k1:Nat)(hk:k=m)(hk1:k1=k+1)(r:Nat)(hr:r=Vg.sz (0+y)):
 Con P 24 [.nils,.slice 0 0 m e] [⟨0,hs u e,58⟩] 1 [] (fun w L q=>w= .slice 1 0 r k1/\L=[⟨1,hs (dg (0+y)) k1,58⟩]/\q=2):=by
 obtain⟨Z,hZ⟩:=exq (fun i=>hs (wr (dg (0+y)) i) k1:Nat->List SV)
 have bZ:∀m i,bdLB m (Z i)=true:=fun m i=>by rw[hZ];exact hs_bd _ _ m
 have hZ0:List.replicate k1 (SV.int .u32 0)=Z 0:=by rw[hZ,hs_zero];show _=hs (wr _ 0) k1;rw[wr_zero]
 have hZn:Z k1=hs (dg (0+y)) k1:=by rw[hZ];exact hs_wr _ _
 suffices raw:Con P 24 [.nils,.slice 0 0 m e] [⟨0,hs u e,58⟩] 1 [] (fun w L q=>w= .slice 1 0 r k1/\find L 1=some ⟨1,Z k1,58⟩)from
  raw.weak fun v L q ⟨h1,h2⟩=>⟨_root_.id,.slice 1 0 r k1,[⟨1,Z k1,58⟩],2,by subst h1;exact weak_id ⟨rfl,rfl,trivial⟩ ⟨h2,rfl,bZ 2 k1,trivial⟩ rfl rfl,rfl,by rw[hZn],rfl⟩
 have hmax:Int.ofNat k=if Int.ofNat m>0 then Int.ofNat m else 0:=by
  rw[hk]
  by_cases h:0<m
  ·rw[if_pos (show Int.ofNat m>0 from Int.ofNat_lt.2 h)]
  ·rw[if_neg (fun h2:Int.ofNat m>0=>h (Int.ofNat_lt.1 h2))];show((m:Nat):Int)=0;omega
 have hmk:m<=k:=by omega
 have hkb:k<2^20:=by omega
 have hxy:0+y<4294967296^k1:=by
  have h2:=Nat.lt_of_lt_of_le hy.lt (Nat.pow_le_pow_right (show 0<4294967296 by decide) hmk)
  rw[hk1,Nat.pow_succ];omega
 have hTr:Con P 42 [.slice 0 0 k1 k1] [⟨0,Z k1,58⟩] 1 [] (fun w _ _=>w= .slice 0 0 r k1):=by
  rw[hZn];exact cTrim hP (dg (0+y)) k1 k1 r (Nat.le_refl _) (by omega) (by rw[hr,tl_dg hxy])
 have hdx:∀i,Con P 49 [.nils,.int .i64 (.ofNat i)] [] 0 [] (fun w _ _=>w= .int .u64 0):=fun i=>cRDigitN hP i
 have hdy:∀i,Con P 49 [.slice 0 0 m e,.int .i64 (.ofNat i)] [⟨0,hs u e,58⟩] 1 [] (fun w _ _=>w= .int .u64 (.ofNat (dg y i))):=fun i=>cRDigit hP u m e i _ hy.le hy.w (by
  by_cases h:i<m
  ·rw[if_pos h,hy.dig h]
  ·rw[if_neg h,hy.digz (by omega)])
 have hlast:cyA 0 y k=dg (0+y) k:=by
  have h1:=(sumDig 0 y k _ rfl).1
  rw[show dg 0 k=0 from by unfold dg Dg.dig;rw[Nat.zero_div],hy.digz hmk]at h1
  have:=cyA_le 0 y k
  omega
 obtain⟨cy,hcy⟩:=exq (fun i=>cyA 0 y i:Nat->Nat)
 have cy0:cy 0=0:=by rw[hcy];exact cyA_zero 0 y
 have cyl:∀i,cy i<=1:=fun i=>by rw[hcy];exact cyA_le 0 y i
 have cys:∀i s,s=dg 0 i+dg y i+cy i->dg (0+y) i=s%4294967296/\cy (i+1)=s/4294967296:=fun i s h=>by rw[hcy]at *;exact sumDig 0 y i s h
 have cyk:cy k=dg (0+y) k:=by rw[hcy];exact hlast
 have dyl:=dg_lt y
 have dzl:=dg_lt (0+y)
 have hZs:∀i v,v=dg (0+y) i->wr (dg (0+y)) (i+1)=fun j=>if j=i then v else wr (dg (0+y)) i j:=fun i v h=>wr_step _ i v h
 obtain⟨X,hX⟩:=exq (fun _=>0:Nat->Nat)
 have X0:∀i,X i=0:=fun i=>by rw[hX]
 have dxl:∀i,X i<4294967296:=fun i=>by rw[X0];decide
 obtain⟨Y,hY⟩:=exq (dg y)
 obtain⟨S,hS⟩:=exq (dg (0+y))
 have cys:∀i s,s=X i+dg y i+cy i->dg (0+y) i=s%4294967296/\cy (i+1)=s/4294967296:=fun i s h=>cys i s (by rw[h,X0,show dg 0 i=0 from by unfold dg Dg.dig;rw[Nat.zero_div]])
 rw[<-hY]at hdy dyl cys
 rw[<-hS]at hZ dzl hZs cys cyk
 obtain⟨E,hE⟩:=exq (hs u e)
 have bE:∀m,bdLB m E=true:=fun m=>by rw[hE];exact hs_bd u e m
 rw[<-hE]at hdy⊢
 clear hE hX hY hS hZn
 refine cof hP Tryz.func24 ⟨trivial,⟨blq rfl,trivial⟩⟩ (by simpa [bdL,bd]using bdb _ (bE 1)) ?_
 intro A g K hA hg hK
 obtain⟨bin,sh,cmp,_,cvt,ix,_,_,_,_,_,_,_,_,nat,off,_,_,_,spl⟩:=A
 have e0:∀n,nat n=Int.ofNat n:=fun n=>nat_of hA n
 have e1:bin .add .i64 (.ofNat k) 1=Int.ofNat k1:=(addI hA (a:=k) (b:=1) (by omega)).trans (by rw[hk1])
 have e2:∀i,i<k->cmp .lss (.ofNat i) (.ofNat k)=true:=fun i h=>lss_t hA h
 have e2f:cmp .lss (.ofNat k) (.ofNat k)=false:=lss_f hA (Nat.lt_irrefl k)
 have e3:∀i,i<k->bin .add .i64 (.ofNat i) 1=Int.ofNat (i+1):=fun i h=>addI hA (a:=i) (b:=1) (by omega)
 have e4:∀j,off 0 j 1=j:=fun j=>(off_of hA 0 j 1).trans (by omega)
 have e5:∀i,i<k1->ix (.ofNat i) k1=some i:=fun i h=>ix_of hA h
 have e6:∀i v,i<k1->v=S i->spl (Z i) i [.int .u32 (.ofNat v)]=some (Z (i+1)):=fun i v h hv=>by rw[hZ];exact splW hA .u32 (n:=k1) (wr S i) (wr S (i+1)) h (hZs i v hv)
 have hU:=u32B hP
 clear hZ
 cbv
 rw[e0]
 refine step_max hg rfl rfl rfl rfl (r:=Int.ofNat k) hmax ?_
 cbv
 rw[e1]
 cbv
 refine smk (hP▸tblOk) hg rfl rfl (show tyT 27=some _ from rfl) rfl (show tyT 58=some _ from rfl) hU rfl (m:=k1) rfl rfl (by omega) (by omega) ?_
 rw[hZ0]
 cbv
 refine lpb Nat (fun i=>i<=k) (fun i=>k-i) (fun i=> [(7,.int .u64 (.ofNat (cy i))),(8,.int .i64 (.ofNat i))]) [0,1,4,5,6] (fun i=> [(1,Z i)]) 0 (Nat.zero_le _) ?_ ?_
 ·rw[cy0]
  exact wkih (by repeat' (first|exact trivial|refine⟨rfl,rfl,rfl,?_⟩|refine⟨rfl,rfl,bE 2,?_⟩|refine⟨rfl,rfl,bZ 2 0,?_⟩))
 intro i hi
 by_cases hlt:i<k
 ·obtain⟨s1,hs1⟩:=exq (X i+Y i)
  obtain⟨s2,hs2⟩:=exq (s1+cy i)
  obtain⟨s3,hs3⟩:=exq (s2%4294967296)
  have hl1:=dxl i
  have hl2:=dyl i
  have hl3:=cyl i
  obtain⟨q1,q2⟩:=cys i s2 (by rw[hs2,hs1])
  have g1:bin .add .u64 0 (.ofNat (Y i))=Int.ofNat s1:=by have h:=addV hA (a:=0) (b:=Y i) (d:=s1) (by omega) (by rw[hs1,X0]);exact h
  have g2:bin .add .u64 (.ofNat s1) (.ofNat (cy i))=Int.ofNat s2:=addV hA (by omega) hs2
  have g3:bin .and .u64 (.ofNat s2) 4294967295=Int.ofNat s3:=lo32 hA (by omega) hs3
  have g4:cvt .u32 (.ofNat s3)=Int.ofNat s3:=c32 hA (by omega)
  have g5:sh .shr .u64 (.ofNat s2) 32=Int.ofNat (cy (i+1)):=hi32 hA q2
  have g6:=e6 i s3 (by omega) (by rw[q1,hs3])
  obtain⟨cn,hcn⟩:=exq (cy (i+1))
  obtain⟨Zn,hZn⟩:=exq (Z (i+1))
  rw[<-hcn]at g5
  rw[<-hZn]at g6
  cbv
  rw[e2 i hlt]
  cbv
  refine cva rfl hg rfl rfl (hdx i) ?_
  rintro _ _ _ rfl
  refine⟨trivial,?_⟩
  cbv
  refine cro rfl hg rfl rfl (hdy i) (fun _=>0) rfl (ft1 (bE 0) rfl) ?_
  rintro _ _ _ rfl
  refine⟨trivial,trivial,?_⟩
  cbv
  rw[g1]
  cbv
  rw[g2]
  cbv
  rw[g3]
  cbv
  rw[g4]
  cbv
  rw[e5 i (by omega)]
  cbv
  rw[e4,g6]
  cbv
  rw[g5]
  cbv
  rw[e3 i hlt]
  refine⟨i+1,_root_.id,hlt,(by show k-(i+1)<k-i;omega),?_⟩
  rw[hcn,hZn]
  exact wkih (by repeat' (first|exact trivial|refine⟨rfl,rfl,rfl,?_⟩|refine⟨rfl,rfl,bE 2,?_⟩|refine⟨rfl,rfl,bZ 2 (i+1),?_⟩))
 ·obtain rfl:i=k:=by omega
  cbv
  rw[e2f]
  cbv
  have g4:cvt .u32 (.ofNat (cy i))=Int.ofNat (cy i):=c32 hA (by have:=cyl i;omega)
  have g6:=e6 i (cy i) (by omega) cyk
  rw[<-hk1]at g6
  rw[g4]
  cbv
  rw[e5 i (by omega)]
  cbv
  rw[e4,g6]
  cbv
  refine cro rfl hg rfl rfl hTr (fun _=>1) rfl (ft1 (bZ 0 k1) rfl) ?_
  rintro _ _ _ rfl
  refine⟨by simp[bd],by simp[bd,ren],?_⟩
  cbv
  exact hK _ _ _ ⟨rfl,rfl⟩
theorem cRSubF{P:Program}(hP:P=Tryz.prog){m e:Nat}{u:Nat->Nat}:
 Con P 23 [.nils,.slice 0 0 m e] [⟨0,hs u e,58⟩] 1 [] (fun w L q=>w= .slice 1 0 0 0/\L=[⟨1,hs (dg 0) 0,58⟩]/\q=2):=by
 suffices raw:Con P 23 [.nils,.slice 0 0 m e] [⟨0,hs u e,58⟩] 1 [] (fun w L q=>w= .slice 1 0 0 0/\find L 1=some ⟨1,hs (dg 0) 0,58⟩)from
  raw.weak fun v L q ⟨h1,h2⟩=>⟨_root_.id,.slice 1 0 0 0,[⟨1,hs (dg 0) 0,58⟩],2,by subst h1;exact weak_id ⟨rfl,rfl,trivial⟩ ⟨h2,rfl,hs_bd _ _ 2,trivial⟩ rfl rfl,rfl,rfl,rfl⟩
 have hTr:Con P 42 [.slice 0 0 0 0] [⟨0,hs (dg 0) 0,58⟩] 1 [] (fun w _ _=>w= .slice 0 0 0 0):=cTrim hP (dg 0) 0 0 0 (Nat.le_refl _) (by decide) rfl
 obtain⟨E,hE⟩:=exq (hs u e)
 have bE:∀m,bdLB m E=true:=fun m=>by rw[hE];exact hs_bd u e m
 rw[<-hE]
 clear hE
 obtain⟨O,hO⟩:=exq (hs (dg 0) 0)
 have bO:∀m,bdLB m O=true:=fun m=>by rw[hO];exact hs_bd _ _ m
 have hO0:List.replicate 0 (SV.int .u32 0)=O:=by rw[hO];rfl
 rw[<-hO]at hTr⊢
 clear hO
 have hU:=u32B hP
 refine cof hP Tryz.func23 ⟨trivial,⟨blq rfl,trivial⟩⟩ (by simpa [bdL,bd]using bdb _ (bE 1)) ?_
 intro A g K hA hg hK
 obtain⟨_,_,cmp⟩:=A
 have e1:cmp .lss 0 0=false:=lss_f hA (a:=0) (b:=0) (by decide)
 cbv
 refine smk (hP▸tblOk) hg rfl rfl (show tyT 27=some _ from rfl) rfl (show tyT 58=some _ from rfl) hU rfl (m:=0) rfl rfl (by omega) (by omega) ?_
 rw[hO0]
 cbv
 refine lpb Nat (fun j=>j=0) (fun j=>0) (fun j=> [(6,.int .u64 0),(7,.int .i64 0)]) [0,1,4,5] (fun _=> []) 0 rfl ?_ ?_
 ·exact wkih (by repeat' (first|exact trivial|refine⟨rfl,rfl,rfl,?_⟩|refine⟨rfl,rfl,bE 2,?_⟩|refine⟨rfl,rfl,bO 2,?_⟩))
 intro j hj
 cbv
 rw[e1]
 cbv
 refine cro rfl hg rfl rfl hTr (fun _=>1) rfl (ft1 (bO 0) rfl) ?_
 rintro _ _ _ rfl
 refine⟨by simp[bd],by simp[bd,ren],?_⟩
 cbv
 exact hK _ _ _ ⟨rfl,rfl⟩
theorem cRMulF{P:Program}(hP:P=Tryz.prog){m e y:Nat}{u:Nat->Nat}(hy:Nm m e u y)(hm:m<2^20):
 Con P 97 [.nils,.slice 0 0 m e] [⟨0,hs u e,58⟩] 1 [] (fun w L q=>w= .slice 1 0 0 m/\L=[⟨1,hs (dg 0) m,58⟩]/\q=2):=by
 suffices raw:Con P 97 [.nils,.slice 0 0 m e] [⟨0,hs u e,58⟩] 1 [] (fun w L q=>w= .slice 1 0 0 m/\find L 1=some ⟨1,hs (dg 0) m,58⟩)from
  raw.weak fun v L q ⟨h1,h2⟩=>⟨_root_.id,.slice 1 0 0 m,[⟨1,hs (dg 0) m,58⟩],2,by subst h1;exact weak_id ⟨rfl,rfl,trivial⟩ ⟨h2,rfl,hs_bd _ _ 2,trivial⟩ rfl rfl,rfl,rfl,rfl⟩
 have hTr:Con P 42 [.slice 0 0 m m] [⟨0,hs (dg 0) m,58⟩] 1 [] (fun w _ _=>w= .slice 0 0 0 m):=cTrim hP (dg 0) m m 0 (Nat.le_refl _) (by omega) (by rw[tl_dg (show 0<4294967296^m from Nat.pow_pos (by decide))];exact(nm_dg (x:=0) (k:=0) (by decide)).n_eq.symm.trans rfl)
 obtain⟨E,hE⟩:=exq (hs u e)
 have bE:∀m,bdLB m E=true:=fun m=>by rw[hE];exact hs_bd u e m
 rw[<-hE]
 clear hE
 obtain⟨O,hO⟩:=exq (hs (dg 0) m)
 have bO:∀m,bdLB m O=true:=fun m=>by rw[hO];exact hs_bd _ _ m
 have hO0:List.replicate m (SV.int .u32 0)=O:=by
  rw[hO,hs_zero]
  exact hs_congr fun j _=>by unfold dg Dg.dig;rw[Nat.zero_div]
 rw[<-hO]at hTr⊢
 clear hO
 have hU:=u32B hP
 refine cof hP Tryz.func97 ⟨trivial,⟨blq rfl,trivial⟩⟩ (by simpa [bdL,bd]using bdb _ (bE 1)) ?_
 intro A g K hA hg hK
 obtain⟨bin,_,cmp,_,_,_,_,_,_,_,_,_,_,_,nat⟩:=A
 have e1:cmp .lss 0 0=false:=lss_f hA (a:=0) (b:=0) (by decide)
 have e0:nat m=Int.ofNat m:=nat_of hA m
 have e2:bin .add .i64 0 (.ofNat m)=Int.ofNat m:=(addI hA (a:=0) (b:=m) (by omega)).trans (by rw[Nat.zero_add])
 cbv
 rw[e0,e2]
 cbv
 refine smk (hP▸tblOk) hg rfl rfl (show tyT 27=some _ from rfl) rfl (show tyT 58=some _ from rfl) hU rfl (m:=m) rfl rfl (by omega) (by omega) ?_
 rw[hO0]
 cbv
 refine lpb Nat (fun j=>j=0) (fun j=>0) (fun j=> [(6,.int .i64 0)]) [0,1,4,5] (fun _=> []) 0 rfl ?_ ?_
 ·exact wkih (by repeat' (first|exact trivial|refine⟨rfl,rfl,rfl,?_⟩|refine⟨rfl,rfl,bE 2,?_⟩|refine⟨rfl,rfl,bO 2,?_⟩))
 intro j hj
 cbv
 rw[e1]
 cbv
 refine cro rfl hg rfl rfl hTr (fun _=>1) rfl (ft1 (bO 0) rfl) ?_
 rintro _ _ _ rfl
 refine⟨by simp[bd],by simp[bd,ren],?_⟩
 cbv
 exact hK _ _ _ ⟨rfl,rfl⟩
section
variable {P:Program}(hP:P=Tryz.prog){H:Nat->Nat->List SV}{S:Nat->Nat}(hs:HS H S)
include hP hs
theorem s_zero(hP':P=P):S 0=0:=by have:=hP;exact(hs.nm (x:=0) (c:=0) (by decide)).zero.2 rfl
theorem mCmpF{y e:Nat}(hy:y<4294967296^e)(r:Int)(h1:0<y->r= -1)(h2:y=0->r=0):Con P 43 [.nils,.slice 0 0 (S y) e] [⟨0,H y e,58⟩] 1 [] (fun w _ _=>w= .int .i64 r):=by
 have h:=cRCmpF hP (hs.nm hy) r h1 h2
 rw[show Vg.hs (dg y) e=H y e from by rw[hs.h]]at h
 exact h
theorem mAddF{y e:Nat}(hy:y<4294967296^e)(hb:y<4294967296^40):∃k,y<4294967296^k/\Con P 24 [.nils,.slice 0 0 (S y) e] [⟨0,H y e,58⟩] 1 [] (fun w L q=>w= .slice 1 0 (S y) k/\L=[⟨1,H y k,58⟩]/\q=2):=by
 have h:=cRAddF hP (hs.nm hy) (by have:=hs.le hb;omega) (S y) (S y+1) rfl rfl (S y) (by rw[Nat.zero_add,hs.s])
 rw[Nat.zero_add,show Vg.hs (dg y) e=H y e from by rw[hs.h],show Vg.hs (dg y) (S y+1)=H y (S y+1)from by rw[hs.h]]at h
 exact⟨S y+1,Nat.lt_of_lt_of_le (hs.nm hy).lt (Nat.pow_le_pow_right (by decide) (by omega)),h⟩
theorem mSubF{y e:Nat}:Con P 23 [.nils,.slice 0 0 (S y) e] [⟨0,H y e,58⟩] 1 [] (fun w L q=>w= .slice 1 0 (S 0) 0/\L=[⟨1,H 0 0,58⟩]/\q=2):=by
 have h:=cRSubF hP (m:=S y) (e:=e) (u:=dg y)
 rw[show Vg.hs (dg y) e=H y e from by rw[hs.h],show Vg.hs (dg 0) 0=H 0 0 from by rw[hs.h]]at h
 rw[s_zero hP hs rfl]
 exact h
theorem mMulF{y e:Nat}(hy:y<4294967296^e)(hb:y<4294967296^40):Con P 97 [.nils,.slice 0 0 (S y) e] [⟨0,H y e,58⟩] 1 [] (fun w L q=>w= .slice 1 0 (S 0) (S y)/\L=[⟨1,H 0 (S y),58⟩]/\q=2):=by
 have h:=cRMulF hP (hs.nm hy) (by have:=hs.le hb;omega)
 rw[show Vg.hs (dg y) e=H y e from by rw[hs.h],show Vg.hs (dg 0) (S y)=H 0 (S y)from by rw[hs.h]]at h
 rw[s_zero hP hs rfl]
 exact h
theorem mMulModF{y e z g':Nat}(hy:y<4294967296^e)(hz:z<4294967296^g')(hb2:y<4294967296^18)(hz0:0<z):
 Con P 67 [.nils,.slice 0 0 (S y) e,.slice 1 0 (S z) g'] [⟨0,H y e,58⟩,⟨1,H z g',58⟩] 2 [] (fun w L q=>w= .slice 2 0 (S 0) (S y)/\L=[⟨2,H 0 (S y),58⟩]/\q=3):=by
 have hM:=mMulF hP hs hy (pow40 hP hs hb2)
 have hD:=mModL hP hs (x:=0) (c:=S y) (Nat.pow_pos (by decide)) hz (Nat.pow_pos (by decide)) hz0
 have bE:∀m,bdLB m (H y e)=true:=fun m=>hs.b m y e
 have bG:∀m,bdLB m (H z g')=true:=fun m=>hs.b m z g'
 have bL:∀m,bdLB m (H 0 (S y))=true:=fun m=>hs.b m 0 (S y)
 obtain⟨s0,hs0⟩:=exq (S 0)
 obtain⟨C,hC⟩:=exq (H 0 (S y))
 rw[<-hC]at hM hD bL⊢
 rw[<-hs0]at hM hD⊢
 clear hC
 suffices raw:Con P 67 [.nils,.slice 0 0 (S y) e,.slice 1 0 (S z) g'] [⟨0,H y e,58⟩,⟨1,H z g',58⟩] 2 [] (fun w L q=>w= .slice 2 0 s0 (S y)/\find L 2=some ⟨2,C,58⟩)from
  raw.weak fun v L q ⟨h1,h2⟩=>⟨_root_.id,.slice 2 0 s0 (S y),[⟨2,C,58⟩],3,by subst h1;exact weak_id ⟨rfl,rfl,trivial⟩ ⟨h2,rfl,bL 3,trivial⟩ rfl rfl,rfl,rfl,rfl⟩
 refine cof hP Tryz.func67 ⟨trivial,⟨blq rfl,⟨blq rfl,trivial⟩⟩⟩ (by simpa [bdL,bd]using⟨bdb _ (bE 2),bdb _ (bG 2)⟩) ?_
 intro A g K hA hg hK
 cases A
 cbv
 refine cgn rfl hg rfl rfl hM _root_.id rfl (ft1 (bE 0) rfl) rfl rfl rfl ?_
 rintro _ _ _ ⟨rfl,rfl,rfl⟩ _
 refine⟨rfl,?_⟩
 simp only[renB,rcl C (bL 0)]
 cbv
 refine cro rfl hg rfl rfl hD (fun k=>if k=0 then 2 else 1) rfl (ft2 (bL 0) (bG 0) rfl rfl) ?_
 rintro _ _ _ rfl
 refine⟨by simp[bd],by simp[bd,ren],?_⟩
 cbv
 exact hK _ _ _ ⟨rfl,rfl⟩
theorem mSubModF{y e z g':Nat}(hy:y<4294967296^e)(hz:z<4294967296^g')(hb2:z<4294967296^18)(hyz:y<=z)(r:Nat)(hr:r=if y=0 then 0 else z-y):
 ∃k,r<4294967296^k/\Con P 69 [.nils,.slice 0 0 (S y) e,.slice 1 0 (S z) g'] [⟨0,H y e,58⟩,⟨1,H z g',58⟩] 2 [] (fun w L q=>w= .slice 2 0 (S r) k/\L=[⟨2,H r k,58⟩]/\q=3):=by
 have bE:∀m,bdLB m (H y e)=true:=fun m=>hs.b m y e
 have bG:∀m,bdLB m (H z g')=true:=fun m=>hs.b m z g'
 by_cases hy0:y=0
 ·rw[if_pos hy0]at hr
  have hC:=mCmpF hP hs hy 0 (fun h=>absurd hy0 (by omega)) (fun _=>rfl)
  have hD:=mSubF hP hs (y:=y) (e:=e)
  subst hr
  refine⟨0,by decide,?_⟩
  obtain⟨r,hr⟩:=exq (S 0)
  obtain⟨C,hC'⟩:=exq (H 0 0)
  have bK:∀m,bdLB m C=true:=fun m=>by rw[hC'];exact hs.b m 0 0
  rw[<-hr,<-hC']at hD⊢
  clear hC' hr
  suffices raw:Con P 69 [.nils,.slice 0 0 (S y) e,.slice 1 0 (S z) g'] [⟨0,H y e,58⟩,⟨1,H z g',58⟩] 2 [] (fun w L q=>w= .slice 2 0 r 0/\find L 2=some ⟨2,C,58⟩)from
   raw.weak fun v L q ⟨h1,h2⟩=>⟨_root_.id,.slice 2 0 r 0,[⟨2,C,58⟩],3,by subst h1;exact weak_id ⟨rfl,rfl,trivial⟩ ⟨h2,rfl,bK 3,trivial⟩ rfl rfl,rfl,rfl,rfl⟩
  refine cof hP Tryz.func69 ⟨trivial,⟨blq rfl,⟨blq rfl,trivial⟩⟩⟩ (by simpa [bdL,bd]using⟨bdb _ (bE 2),bdb _ (bG 2)⟩) ?_
  intro A g K hA hg hK
  obtain⟨_,_,cmp⟩:=A
  have e1:cmp .geq 0 0=true:=geq_t hA (a:=0) (b:=0) (by decide)
  cbv
  refine cro rfl hg rfl rfl hC _root_.id rfl (ft1 (bE 0) rfl) ?_
  rintro _ _ _ rfl
  refine⟨trivial,trivial,?_⟩
  cbv
  rw[e1]
  cbv
  refine cgn rfl hg rfl rfl hD _root_.id rfl (ft1 (bE 0) rfl) rfl rfl rfl ?_
  rintro _ _ _ ⟨rfl,rfl,rfl⟩ _
  refine⟨rfl,?_⟩
  simp only[renB,rcl C (bK 0)]
  cbv
  exact hK _ _ _ ⟨rfl,rfl⟩
 ·rw[if_neg hy0]at hr
  have hC:=mCmpF hP hs hy (-1) (fun _=>rfl) (fun h=>absurd h hy0)
  obtain⟨l,hl,hM⟩:=mAddF hP hs hz (pow40 hP hs hb2)
  obtain⟨k,hk,hD⟩:=mSub hP hs hl hy (pow40 hP hs hb2) hyz r hr
  refine⟨k,hk,?_⟩
  have bL:∀m,bdLB m (H z l)=true:=fun m=>hs.b m z l
  have bK:∀m,bdLB m (H r k)=true:=fun m=>hs.b m r k
  suffices raw:Con P 69 [.nils,.slice 0 0 (S y) e,.slice 1 0 (S z) g'] [⟨0,H y e,58⟩,⟨1,H z g',58⟩] 2 [] (fun w L q=>w= .slice 3 0 (S r) k/\find L 3=some ⟨3,H r k,58⟩)from
   raw.weak fun v L q ⟨h1,h2⟩=>⟨fun l=>if l=2 then 3 else l,.slice 2 0 (S r) k,[⟨2,H r k,58⟩],3,by subst h1;exact wkr ⟨rfl,rfl,trivial⟩ ⟨by rw[rcl (H r k) (bK 0)];exact h2,rfl,rfl,bK 3,trivial⟩ rfl rfl rfl,rfl,rfl,rfl⟩
  refine cof hP Tryz.func69 ⟨trivial,⟨blq rfl,⟨blq rfl,trivial⟩⟩⟩ (by simpa [bdL,bd]using⟨bdb _ (bE 2),bdb _ (bG 2)⟩) ?_
  intro A g K hA hg hK
  obtain⟨_,_,cmp⟩:=A
  have e1:cmp .geq (-1) 0=false:=(congrFun (congrFun (congrFun (cmp_of hA) .geq) (-1)) 0).trans rfl
  cbv
  refine cro rfl hg rfl rfl hC _root_.id rfl (ft1 (bE 0) rfl) ?_
  rintro _ _ _ rfl
  refine⟨trivial,trivial,?_⟩
  cbv
  rw[e1]
  cbv
  refine cgn rfl hg rfl rfl hM (fun _=>1) rfl (ft1 (bG 0) rfl) rfl rfl rfl ?_
  rintro _ _ _ ⟨rfl,rfl,rfl⟩ _
  refine⟨rfl,?_⟩
  simp only[renB,rcl (H z l) (bL 0)]
  cbv
  refine cgn rfl hg rfl rfl hD (fun k=>if k=0 then 2 else 0) rfl (ft2 (bL 0) (bE 0) rfl rfl) rfl rfl rfl ?_
  rintro _ _ _ ⟨rfl,rfl,rfl⟩ _
  refine⟨rfl,?_⟩
  simp only[renB,rcl (H r k) (bK 0)]
  cbv
  exact hK _ _ _ ⟨rfl,rfl⟩
theorem mDiv{x c y e:Nat}(hx:x<4294967296^c)(hy:y<4294967296^e)(hb:x<4294967296^40)(hle:y<=x)(hy0:0<y)(q r:Nat)(hq:q=x/y)(hr:r=x%y)(hr0:y<4294967296\/r≠0):
 ∃qc rc,q<4294967296^qc/\r<4294967296^rc/\Con P 50 [.slice 0 0 (S x) c,.slice 1 0 (S y) e] [⟨0,H x c,58⟩,⟨1,H y e,58⟩] 2 [] (fun w L n=>w= .tup [.slice 2 0 (S q) qc,.slice 3 0 (S r) rc]/\L=[⟨2,H q qc,58⟩,⟨3,H r rc,58⟩]/\n=4):=by
 have hS40:=hs.le hb
 have hqx:q<4294967296^S x:=by rw[hq];exact Nat.lt_of_le_of_lt (Nat.div_le_self _ _) (hs.nm hx).lt
 rcases Nat.lt_or_ge y 4294967296 with hyB|hyB
 ·have hNy:=hs.nm hy
  rw[hs.one hyB hy0]at hNy
  have hD:=cRDivS hP (hs.nm hx) hNy (by omega) hle hy0
  refine⟨S x,1,hqx,by rw[Nat.pow_one,hr];exact Nat.lt_trans (Nat.mod_lt _ hy0) hyB,?_⟩
  rw[hs.one hyB hy0]
  rw[show Vg.hs (dg x) c=H x c from by rw[hs.h],show Vg.hs (dg y) e=H y e from by rw[hs.h],<-hr,<-hq,show Vg.hs (dg r) 1=H r 1 from by rw[hs.h],show Vg.hs (dg q) (S x)=H q (S x)from by rw[hs.h],show Vg.sz r=S r from by rw[hs.s],show Vg.sz q=S q from by rw[hs.s]]at hD
  exact hD
 ·obtain⟨b,hbl⟩:=bl_ex y
  obtain⟨rc,hrc⟩:=exq (Vg.sz (r*2^(32*S y-b)))
  have hm2:=hs.two hyB
  have hxy:S y<=S x:=by
   rcases(hs.nm hy).sz.2 with h|h
   ·omega
   ·rcases Nat.lt_or_ge (S x) (S y)with h2|h2
    ·exact absurd (Nat.lt_of_lt_of_le (hs.nm hx).lt (Nat.pow_le_pow_right (by decide) (show S x<=S y-1 by omega))) (Nat.not_lt.2 (Nat.le_trans h hle))
    ·exact h2
  have hr1:r≠0:=by omega
  obtain⟨J,hJ⟩:=exq (S x+1-S y)
  have hrl:r<4294967296^rc:=by
   have h1:r<=r*2^(32*S y-b):=Nat.le_mul_of_pos_right _ (Nat.two_pow_pos _)
   have h2:=(nm_dg (x:=r*2^(32*S y-b)) (k:=r*2^(32*S y-b)) (Nat.lt_of_lt_of_le Nat.lt_two_pow_self (Nat.pow_le_pow_left (by decide) _))).lt
   rw[<-hrc]at h2
   exact Nat.lt_of_le_of_lt h1 h2
  have hyl:4294967296^(S y-1)<=y:=by
   rcases(hs.nm hy).sz.2 with h|h
   ·omega
   ·exact h
  have hql:q<4294967296^J:=by
   refine Nat.lt_of_mul_lt_mul_right (a:=4294967296^(S y-1)) ?_
   rw[<-Nat.pow_add,show J+(S y-1)=S x by omega]
   refine Nat.lt_of_le_of_lt ?_ (hs.nm hx).lt
   refine Nat.le_trans (Nat.mul_le_mul_left q hyl) ?_
   rw[hq];exact Nat.div_mul_le_self x y
  have hD:=cRDivK hP (hs.nm hx) (hs.nm hy) (by omega) hm2 hle q r J rc 4 (.slice 3 0 (Vg.sz r) rc) [⟨3,Vg.hs (dg r) rc,58⟩] hq hr (by omega) (Or.inr ⟨hr1,rfl,rfl,rfl⟩) ⟨b,hbl,hrc⟩
  rw[show Vg.hs (dg x) c=H x c from by rw[hs.h],show Vg.hs (dg y) e=H y e from by rw[hs.h],show Vg.hs (dg r) rc=H r rc from by rw[hs.h],show Vg.hs (dg q) J=H q J from by rw[hs.h],show Vg.sz r=S r from by rw[hs.s],show Vg.sz q=S q from by rw[hs.s]]at hD
  exact⟨J,rc,hql,hrl,hD⟩
end
end Go.Proofs.YtdhmihfefgcbeaaGreat
namespace EC
open Pr
section
variable {p:Nat}[NeZero p]
theorem nf_self:(nf p:Fin p)=0:=by apply Fin.ext;simp[nf,Fin.ofNat]
theorem nf_dif{t x n:Nat}(hn:n=if x<=t then t-x else t+p-x)(hxp:x<p):(nf n:Fin p)=nf t-nf x:=by
 have e1:(nf n:Fin p)+nf x=nf t:=by
  rw[<-nf_add,hn]
  split
  ·congr 1;omega
  ·rw[show t+p-x+x=t+p by omega,nf_add,nf_self];grobner
 clear hn;grobner
theorem nf_zero:(nf 0:Fin p)=0:=by apply Fin.ext;simp[nf,Fin.ofNat]
omit [NeZero p] in
theorem mul_nz(hp:Prime p){x y:Nat}(hx0:0<x)(hx:x<p)(hy0:0<y)(hy:y<p):x*y%p≠0:=fun h=>by
 rcases hp.dvd_mul (Nat.dvd_of_mod_eq_zero h)with h|h
 ·exact absurd (Nat.le_of_dvd hx0 h) (by omega)
 ·exact absurd (Nat.le_of_dvd hy0 h) (by omega)
omit [NeZero p] in
theorem mul_hnz(hp:Prime p){x y:Nat}(hx:x<p)(hy:y<p):x*y<p\/p<4294967296\/x*y%p≠0:=by
 rcases Nat.eq_zero_or_pos x with rfl|hx0
 ·left;rw[Nat.zero_mul];omega
 ·rcases Nat.eq_zero_or_pos y with rfl|hy0
  ·left;rw[Nat.mul_zero];omega
  ·exact .inr (.inr (mul_nz hp hx0 hx hy0 hy))
structure IOk(p a r s t u:Nat)[NeZero p]:Prop where
 sr:s<r
 rp:r<=p
 g:Nat.gcd r s=1
 tp:t<p
 up:u<p
 t:(nf t:Fin p)*nf a=nf r
 u:(nf u:Fin p)*nf a=nf s
theorem IOk.start(hp:Prime p){a:Nat}(h0:0<a)(ha:a<p):IOk p a p a 0 1:=by
 have h1:=hp.1
 refine⟨ha,Nat.le_refl _,hp.coprime fun h=>absurd (Nat.le_of_dvd h0 h) (by omega),by omega,by omega,?_,?_⟩
 ·rw[nf_zero,nf_self];grobner
 ·rw[<-nf_mul,Nat.one_mul]
variable {a r s t u:Nat}
theorem IOk.div(h:IOk p a r s t u)(hs:0<s):s<4294967296\/r%s≠0:=by
 by_cases h0:r%s=0
 ·left
  have h1:=h.g
  rw[Nat.gcd_comm,Nat.gcd_rec,h0,Nat.gcd_zero_left]at h1
  omega
 ·exact .inr h0
theorem IOk.next(h:IOk p a r s t u)(hs:0<s){x n:Nat}(hx:x=r/s%p*u%p)(hn:n=if x<=t then t-x else t+p-x):IOk p a s (r%s) u n:=by
 have h1:=h.sr
 have h2:=h.rp
 have h3:=h.tp
 have hxp:x<p:=by rw[hx];exact Nat.mod_lt _ (by omega)
 refine⟨Nat.mod_lt _ hs,by omega,?_,h.up,by rw[hn];split<;>omega,h.u,?_⟩
 ·rw[Nat.gcd_comm,<-Nat.gcd_rec,Nat.gcd_comm];exact h.g
 ·have e1:=nf_dif (p:=p) hn hxp
  have e2:(nf x:Fin p)=nf (r/s)*nf u:=by rw[hx,nf_mod,nf_mul,nf_mod]
  have e3:(nf r:Fin p)=nf s*nf (r/s)+nf (r%s):=by rw[<-nf_mul,<-nf_add,Nat.div_add_mod]
  have e4:=h.t
  have e5:=h.u
  clear hx hn hxp h1 h2 h3 h hs
  grobner
theorem IOk.fin(h:IOk p a r 0 t u):r=1:=by have:=h.g;rwa [Nat.gcd_zero_right]at this
theorem IOk.out(hp:Prime p)(h2:p≠2)(h:IOk p a r 0 t u):t=(finv (nf a:Fin p)).val:=by
 have h1:=h.t
 rw[h.fin]at h1
 have e:(nf 1:Fin p)=1:=rfl
 rw[e]at h1
 have ha:(nf a:Fin p)≠0:=fun h3=>by
  rw[h3]at h1
  have h4:(1:Fin p)=0:=by rw[<-h1];grobner
  have h5:=congrArg Fin.val h4
  rw[val_one hp.1,val_zero]at h5
  omega
 have h3:=mul_finv hp ha
 have h4:(nf t:Fin p)=finv (nf a):=cancel (fld hp h2) ha (by rw[h3,<-h1];grobner)
 rw[<-h4,val_nf t h.tp]
theorem IOk.quo(h:IOk p a r s t u)(hs:0<s):r/s<p\/(r=p/\s=1/\r/s=p):=by
 have h1:=h.rp
 have h2:=h.sr
 rcases Nat.lt_or_ge (r/s) p with h3|h3
 ·exact .inl h3
 ·have h4:=Nat.div_le_self r s
  have h5:r=p:=by omega
  have h6:s=1:=by
   rcases Nat.lt_or_ge s 2 with h6|h6
   ·omega
   ·have:=Nat.div_lt_self (show 0<r by omega) h6;omega
  exact .inr ⟨h5,h6,by omega⟩
end
end EC
namespace Go.Vg
open Go.RowKit
theorem hs_rep(c M:Nat)(hM:M<=c):rep (c-M) [SV.int .u32 0]=(hs (fun _=>0) c).drop M:=by
 rw[<-hs_zero,List.drop_replicate]
 generalize c-M=k
 induction k with
 |zero=>rfl
 |succ k ih=>rw[rep,ih,List.replicate_succ];rfl
section
variable {P:Program}{g:G}{T:Nat->Option Ty}{F:FF}{L:LL}{n:Nat}{H:Nat->Nat->List SV}{S:Nat->Nat}
theorem step_appH(hh:HS H S)(hT:TOk P T){o:Oper}{m0 N:Nat}{ms:List Nat}(hg:GI g m0 ms N)(hd':dstLt N o.dst=true){s x:Operand}{t:Nat}(ho:o.op= .call {callee:= .builtin .append,args:= #[s,x],argTypes:= #[t,t]})
 {i:Ty} (ht:T t=some i) {e:Nat} (hd:i.d= .sl e 1) {j:Ty} (hj:T e=some j) (hz:j.z=[SV.int .u32 0]) (hB:(P.info? e).map (·.bytes)=some 4)
 {l k X c:Nat} (hs:ev (look F) s=some (.slice l 0 0 0)) (hl:find L l=some ⟨l,[],e⟩) (hown:own m0 ms l=true) (hx:ev (look F) x=some (.slice k 0 (S X) c)) (hk:find L k=some ⟨k,H X c,e⟩) (hX:X<4294967296^c) (hb:X<4294967296^40)
 {K:FF->LL->Nat->Prop} (h0:X<4294967296^0->K (putO F o.dst (.slice l 0 (S X) 0)) (updL L l (H X 0)) n)
 (h1:0<S X->∀c',X<4294967296^c'->K (putO F o.dst (.slice n 0 (S X) c')) (L++[⟨n,H X c',e⟩]) (n+1)):Step g P o K F L n:=by
 have hN:=hh.nm hX
 have hle:=hh.le hb
 have hlen:(H X c).length=c:=by rw[hh.h];exact hs_len _ _
 refine step_append hT hg hd' ho ht hd hj hB (by decide) hs hl (by simp) hx hk (by rw[hlen];have:=hN.le;omega) (by rw[List.drop_zero,Nat.mul_one,hh.h];exact hs_ones _ _ _) (by simp only[maxLen];omega) (by omega) ?_ ?_
 ·intro h
  have hz0:S X=0:=by omega
  refine⟨hown,by simp[hz0],?_⟩
  have h2:=h0 (by rw[hN.zero.1 hz0];decide)
  rw[show H X 0=[]from by rw[hh.h];rfl,hz0]at h2
  rw[hz0]
  simpa [Vg.splice]using h2
 ·intro h c' hc1 _
  have:=h1 (by omega) c' (Nat.lt_of_lt_of_le hN.lt (Nat.pow_le_pow_right (by decide) (by omega)))
  rw[Nat.zero_add]at hc1⊢
  rw[List.drop_nil,List.take_nil,List.nil_append,List.drop_zero,Nat.mul_one,hz,hs_rep _ _ hc1,hh.h]
  rw[show(fun x c=>Vg.hs (dg x) c) X c=Vg.hs (dg X) c from rfl,hs_copy hN hc1]
  rw[hh.h]at this
  exact this
end
end Go.Vg
