/-
  This text proves what these texts prove: Jg, Jh, La, Lb, Lc, Ld, Pt, Pw, Le, Pv. Conditions: those of each theorem.
-/
import Derived.Test.YtdhmihfefgcbeaaGreatT23
import Derived.Test.YtdhmihfefgcbeaaGreatT20
set_option maxHeartbeats 8000000
set_option linter.all false
namespace Go.Proofs.YtdhmihfefgcbeaaGreat
open Go.Vg Go.RowKit
set_option maxRecDepth 200000
set_option cbv.maxSteps 100000000
theorem cRUpd{P:Program}(hP:P=Tryz.prog)(id:Nat)(hid:1<=id/\id<=4)(hOf:RO P id)(k v s:ByteArray)(n:Nat)(hks:k.size<=64)(hvs:v.size<=64)(hss:s.size<2^20)(k' v':ByteArray)(hk':bl k'=(Sh.upd ⟨id,bl k,bl v,n⟩ (bl s)).k)(hv':bl v'=(Sh.upd ⟨id,bl k,bl v,n⟩ (bl s)).v):
 Con P 53 [.ptr 0 0,.str s] [⟨0,[.int .i64 (.ofNat id),.str k,.str v,.int .i64 (.ofNat n)],73⟩] 1 [0] (fun w L q=>w= .tup []/\L=[⟨0,[.int .i64 (.ofNat id),.str k',.str v',.int .i64 (.ofNat n)],73⟩]/\q=1):=by
 suffices raw:Con P 53 [.ptr 0 0,.str s] [⟨0,[.int .i64 (.ofNat id),.str k,.str v,.int .i64 (.ofNat n)],73⟩] 1 [0] (fun w L q=>w= .tup []/\find L 0=some ⟨0,[.int .i64 (.ofNat id),.str k',.str v',.int .i64 (.ofNat n)],73⟩)from
  raw.weak fun w L q ⟨h1,h2⟩=>⟨_root_.id,.tup [],_,1,by subst h1;exact weak_id ⟨rfl,rfl,trivial⟩ ⟨h2,rfl,rfl,trivial⟩ rfl rfl,rfl,rfl,rfl⟩
 have hsz:=kvB_sz id hid (bl s) k v hks hvs
 have hu:=fun i hi=>kvB_upd id (bl s) k v n i hi
 have hK1:∀i,bl (kvB id (bl s) k v (i+1)).1=Sh.hmac id (bl (kvB id (bl s) k v i).1) (bl (kvB id (bl s) k v i).2++[i]++bl s):=fun i=>by rw[kvB,bmk (Sh.hmac_b _ _ _)]
 have hV1:∀i,bl (kvB id (bl s) k v (i+1)).2=Sh.hmac id (bl (kvB id (bl s) k v (i+1)).1) (bl (kvB id (bl s) k v i).2):=fun i=>by rw[kvB,bmk (Sh.hmac_b _ _ _)]
 obtain⟨k1,hk1⟩:=exq ((kvB id (bl s) k v 1).1)
 obtain⟨v1,hv1⟩:=exq ((kvB id (bl s) k v 1).2)
 obtain⟨k2,hk2⟩:=exq ((kvB id (bl s) k v 2).1)
 obtain⟨v2,hv2⟩:=exq ((kvB id (bl s) k v 2).2)
 have s1:=hsz 1
 have s2:=hsz 2
 have b1:=hK1 0
 have c1:=hV1 0
 have b2:=hK1 1
 have c2:=hV1 1
 simp only[Nat.zero_add,Nat.reduceAdd]at b1 c1 b2 c2
 rw[<-hk1,<-hv1]at s1
 rw[<-hk2,<-hv2]at s2
 rw[<-hk1]at b1
 rw[<-hk1,<-hv1]at c1
 rw[<-hk1,<-hv1,<-hk2]at b2
 rw[<-hk2,<-hv1,<-hv2]at c2
 have u1:bl s=[]->k1=k'/\v1=v':=fun h=>by
  have:=hu 1 (by rw[if_pos h])
  rw[<-hk1,<-hv1]at this
  exact⟨bl_inj (this.1.trans hk'.symm),bl_inj (this.2.trans hv'.symm)⟩
 have u2:bl s≠ []->k2=k'/\v2=v':=fun h=>by
  have:=hu 2 (by rw[if_neg h])
  rw[<-hk2,<-hv2]at this
  exact⟨bl_inj (this.1.trans hk'.symm),bl_inj (this.2.trans hv'.symm)⟩
 obtain⟨m1,hm1⟩:=exq (v++ByteArray.mk #[0])
 obtain⟨m2,hm2⟩:=exq (m1++s)
 obtain⟨m3,hm3⟩:=exq (v1++ByteArray.mk #[1])
 obtain⟨m4,hm4⟩:=exq (m3++s)
 have z1:m1.size<=65:=by rw[hm1,ByteArray.size_append];show v.size+1<=65;omega
 have z2:m2.size<2^21:=by rw[hm2,ByteArray.size_append];omega
 have z3:m3.size<=65:=by rw[hm3,ByteArray.size_append];show v1.size+1<=65;omega
 have z4:m4.size<2^21:=by rw[hm4,ByteArray.size_append];omega
 have hA1:=cRHmac hP id hid hOf k m2 k1 (by omega) (by omega) (by rw[b1,hm2,bl_app,hm1,bl_app];rfl)
 have hB1:=cRHmac hP id hid hOf k1 v v1 (by omega) (by omega) c1
 have hA2:=cRHmac hP id hid hOf k1 m4 k2 (by omega) (by omega) (by rw[b2,hm4,bl_app,hm3,bl_app];rfl)
 have hB2:=cRHmac hP id hid hOf k2 v1 v2 (by omega) (by omega) c2
 clear hu hK1 hV1 hk1 hv1 hk2 hv2 b1 c1 b2 c2 hsz hk' hv'
 refine cof hP Tryz.func53 ⟨(by show 0<1;decide),trivial,trivial⟩ (bkb rfl) ?_
 intro A g K hA hg hK
 obtain⟨_,_,_,_,_,_,_,_,_,_,scat,scmp⟩:=A
 have e1:scat v (ByteArray.mk #[0])=some m1:=(scat_of hA (by show v.size+1<_;omega)).trans (by rw[hm1])
 have e2:scat m1 s=some m2:=(scat_of hA (by omega)).trans (by rw[hm2])
 have e3:scat v1 (ByteArray.mk #[1])=some m3:=(scat_of hA (by show v1.size+1<_;omega)).trans (by rw[hm3])
 have e4:scat m3 s=some m4:=(scat_of hA (by omega)).trans (by rw[hm4])
 have f6:scmp .neq s (ByteArray.mk #[])= !decide (bl s=[]):=by
  have e:scmp=Ar.real.scmp:=congrArg Ar.scmp hA
  rw[e]
  exact strCmp_nilN s
 cbv
 refine reg_A (hP▸tblOk) hA hg (hP▸mixed) rfl rfl ?_
 cbv
 rw[e1]
 cbv
 rw[e2]
 cbv
 refine sdv hg hA1 ?_
 cbv
 refine reg_A (hP▸tblOk) hA hg (hP▸mixed) rfl rfl ?_
 cbv
 refine sdv hg hB1 ?_
 cbv
 rw[f6]
 by_cases hs:bl s=[]
 ·rw[decide_eq_true hs]
  cbv
  exact hK _ _ _ ⟨rfl,by rw[<-(u1 hs).1,<-(u1 hs).2];rfl⟩
 ·rw[decide_eq_false hs]
  cbv
  refine reg_A (hP▸tblOk) hA hg (hP▸mixed) rfl rfl ?_
  cbv
  rw[e3]
  cbv
  rw[e4]
  cbv
  refine sdv hg hA2 ?_
  cbv
  refine reg_A (hP▸tblOk) hA hg (hP▸mixed) rfl rfl ?_
  cbv
  refine sdv hg hB2 ?_
  cbv
  exact hK _ _ _ ⟨rfl,by rw[<-(u2 hs).1,<-(u2 hs).2];rfl⟩
theorem cRGen{P:Program}(hP:P=Tryz.prog)(id:Nat)(hid:1<=id/\id<=4)(hOf:RO P id)(k v m:ByteArray)(n sz:Nat)(hks:k.size=Sh.size id)(hvs:v.size=Sh.size id)(hms:m.size<=256)(hsz:sz<=256)(hn:n<=64)(r k' v':ByteArray)(hr:bl r=(Sh.generate ⟨id,bl k,bl v,n⟩ sz (bl m)).1)(hk':bl k'=(Sh.generate ⟨id,bl k,bl v,n⟩ sz (bl m)).2.k)(hv':bl v'=(Sh.generate ⟨id,bl k,bl v,n⟩ sz (bl m)).2.v):
 Con P 30 [.ptr 0 0,.int .i64 (.ofNat sz),.str m] [⟨0,[.int .i64 (.ofNat id),.str k,.str v,.int .i64 (.ofNat n)],73⟩] 1 [0] (fun w L q=>w= .tup [.str r,.int .i64 0]/\L=[⟨0,[.int .i64 (.ofNat id),.str k',.str v',.int .i64 (.ofNat (n+1))],73⟩]/\q=1):=by
 suffices raw:Con P 30 [.ptr 0 0,.int .i64 (.ofNat sz),.str m] [⟨0,[.int .i64 (.ofNat id),.str k,.str v,.int .i64 (.ofNat n)],73⟩] 1 [0] (fun w L q=>w= .tup [.str r,.int .i64 0]/\find L 0=some ⟨0,[.int .i64 (.ofNat id),.str k',.str v',.int .i64 (.ofNat (n+1))],73⟩)from
  raw.weak fun w L q ⟨h1,h2⟩=>⟨_root_.id,.tup [.str r,.int .i64 0],_,1,by subst h1;exact weak_id ⟨rfl,rfl,trivial⟩ ⟨h2,rfl,rfl,trivial⟩ rfl rfl,rfl,rfl,rfl⟩
 obtain⟨mz,hmz⟩:=exq m.size
 have hsb:=Sh.size_blk hid
 refine cof hP Tryz.func30 ⟨(by show 0<1;decide),trivial,trivial,trivial⟩ (bkb rfl) ?_
 intro A g K hA hg hK
 obtain⟨bin,_,cmp,_,_,_,_,_,_,_,scat,scmp,slen⟩:=A
 have f1:cmp .lss (.ofNat sz) 0=false:=lss_f hA (a:=sz) (b:=0) (by omega)
 have f2:cmp .gtr (.ofNat sz) 256=false:=gtr_f hA (a:=sz) (b:=256) (by omega)
 have f3:slen m=Int.ofNat mz:=(slen_of hA m).trans (by rw[hmz])
 have f4:cmp .gtr (.ofNat mz) 256=false:=gtr_f hA (a:=mz) (b:=256) (by omega)
 have f5:cmp .gtr (.ofNat n) 64=false:=gtr_f hA (a:=n) (b:=64) (by omega)
 have f6:scmp .neq m (ByteArray.mk #[])= !decide (bl m=[]):=by
  have e:scmp=Ar.real.scmp:=congrArg Ar.scmp hA
  rw[e]
  exact strCmp_nilN m
 cbv
 rw[f1]
 cbv
 rw[f2]
 cbv
 rw[f3]
 cbv
 rw[f4]
 cbv
 rw[f5]
 cbv
 rw[f6]
 by_cases hm:bl m=[]
 ·obtain⟨k1,hk1⟩:=exq k
  obtain⟨v1,hv1⟩:=exq v
  have hk1s:k1.size=Sh.size id:=by rw[hk1,hks]
  have hv1s:v1.size=Sh.size id:=by rw[hv1,hvs]
  rw[decide_eq_true hm,<-hk1,<-hv1]
  rw[<-hk1,<-hv1]at hr hk' hv'
  cbv
  obtain⟨z,hz⟩:=exq (Sh.size id)
  have hzb:=Sh.size_blk hid
  rw[<-hz]at hzb
  obtain⟨f,hf⟩:=exq ((sz+z-1)/z)
  obtain⟨o,ho⟩:=exq (fun j=>mkB (Sh.gen id (bl k1) j (bl v1)).1:Nat->ByteArray)
  obtain⟨w,hw⟩:=exq (fun j=>mkB (Sh.gen id (bl k1) j (bl v1)).2:Nat->ByteArray)
  have bo:∀j,bl (o j)=(Sh.gen id (bl k1) j (bl v1)).1:=fun j=>by rw[ho];exact bmk (Sh.gen_b _ _ _ j)
  have bw:∀j,bl (w j)=(Sh.gen id (bl k1) j (bl v1)).2:=fun j=>by rw[hw];exact bmk (Sh.gen_b2 _ _ _ (bl_lt v1) j)
  have so:∀j,(o j).size=j*z:=fun j=>by rw[<-bll,bo,Sh.gen_len hid,hz]
  have sw:∀j,(w j).size=z:=fun j=>by rw[<-bll,bw,Sh.gen_len2 hid _ _ (by rw[bll,hv1s]),hz]
  have o0:o 0=ByteArray.mk #[]:=by rw[ho];rfl
  have w0:w 0=v1:=bl_inj (by rw[bw];rfl)
  have oS:∀j,o (j+1)=o j++w (j+1):=fun j=>bl_inj (by rw[bl_app,bo,bo,bw,Sh.gen_snoc])
  have wS:∀j,bl (w (j+1))=Sh.hmac id (bl k1) (bl (w j)):=fun j=>by rw[bw,bw,Sh.gen_snoc]
  have hjf:∀j,j<f↔j*z<sz:=fun j=>by
   rw[hf,Nat.lt_iff_add_one_le,Nat.le_div_iff_mul_le (by omega),Nat.succ_mul];omega
  have hfz:f*z<sz+z:=by
   have:=Nat.div_mul_le_self (sz+z-1) z
   rw[<-hf]at this;omega
  have hszf:sz<=f*z:=Nat.not_lt.1 fun h=>Nat.lt_irrefl f ((hjf f).2 h)
  have hMac:∀j,Con P 54 [.int .i64 (.ofNat id),.str k1,.str (w j)] [] 0 [] (fun v _ _=>v= .str (w (j+1))):=fun j=>cRHmac hP id hid hOf k1 (w j) (w (j+1)) (by omega) (by rw[sw];omega) (wS j)
  have hG:Sh.generate ⟨id,bl k1,bl v1,n⟩ sz (bl m)=(((bl (o f)).take sz),⟨id,(Sh.upd ⟨id,bl k1,bl (w f),n⟩ (bl m)).k,(Sh.upd ⟨id,bl k1,bl (w f),n⟩ (bl m)).v,(Sh.upd ⟨id,bl k1,bl (w f),n⟩ (bl m)).n+1⟩):=by
   rw[bo,bw,hf,hz]
   unfold Sh.generate
   simp only[if_pos hm,Sh.upd_id]
  rw[hG]at hr hk' hv'
  have hU:=cRUpd hP id hid hOf k1 (w f) m n (by omega) (by rw[sw];omega) (by omega) k' v' hk' hv'
  have hre:r=(o f).extract 0 sz:=bl_inj (by rw[hr,bl_extract])
  have h0:[SV.int .i64 (.ofNat id),.str k1,.str v1,.int .i64 (.ofNat n)]=[SV.int .i64 (.ofNat id),.str k1,.str (w 0),.int .i64 (.ofNat n)]:=by rw[w0]
  clear hG hr hk' hv' wS bo bw ho hw
  cbv
  refine lpb Nat (fun j=>j<=f) (fun j=>f-j) (fun j=> [(8,.str (o j))]) [0,1,2] (fun j=> [(0,[.int .i64 (.ofNat id),.str k1,.str (w j),.int .i64 (.ofNat n)])]) 0 (Nat.zero_le _) ?_ ?_
  ·rw[o0,w0]
   exact wkid
  intro j hj
  obtain⟨x,hx⟩:=exq (j*z)
  have g1:slen (o j)=Int.ofNat x:=(slen_of hA _).trans (by rw[so,hx])
  by_cases hlt:j<f
  ·have hxs:x<sz:=by rw[hx];exact(hjf j).1 hlt
   have hMj:=hMac j
   have g2:scat (o j) (w (j+1))=some (o (j+1)):=(scat_of hA (by rw[so,sw,<-hx];omega)).trans (by rw[oS])
   cbv
   rw[g1]
   cbv
   rw[show cmp .lss (.ofNat x) (.ofNat sz)=true from lss_t hA hxs]
   cbv
   refine reg_A (hP▸tblOk) hA hg (hP▸mixed) rfl rfl ?_
   cbv
   refine sdv hg hMj ?_
   cbv
   rw[g2]
   refine⟨j+1,_root_.id,hlt,(by show f-(j+1)<f-j;omega),?_⟩
   exact wkid
  ·obtain rfl:j=f:=by omega
   have hos:sz<=(o j).size:=by rw[so];exact hszf
   have hSl:SlR P 9 (.str (o j)) none (some (.i64,Int.ofNat sz)) (.str r):=by rw[hre];exact slr_str (hP▸tblOk) (show tyT 9=some _ from rfl) rfl (o j) hos
   have g3:bin .add .i64 (.ofNat n) 1=Int.ofNat (n+1):=add_of hA (by omega)
   cbv
   rw[g1]
   cbv
   rw[show cmp .lss (.ofNat x) (.ofNat sz)=false from lss_f hA (by omega)]
   cbv
   refine cgn rfl hg rfl rfl hU _root_.id rfl ⟨rfl,trivial⟩ rfl rfl rfl ?_
   rintro _ _ _ ⟨rfl,rfl,rfl⟩ _
   refine⟨rfl,?_⟩
   cbv
   rw[g3]
   cbv
   refine ssl hg rfl rfl rfl rfl rfl hSl ?_
   cbv
   exact hK _ _ _ ⟨rfl,rfl⟩
 ·have hok:Sh.Ok ⟨id,bl k,bl v,n⟩:=⟨hid,by rw[bll,hks],by rw[bll,hvs],bl_lt k,bl_lt v⟩
  have hok1:=hok.upd (bl m)
  obtain⟨k1,hk1⟩:∃x,bl x=(Sh.upd ⟨id,bl k,bl v,n⟩ (bl m)).k:=⟨mkB (Sh.upd ⟨id,bl k,bl v,n⟩ (bl m)).k,bmk hok1.kb⟩
  obtain⟨v1,hv1⟩:∃x,bl x=(Sh.upd ⟨id,bl k,bl v,n⟩ (bl m)).v:=⟨mkB (Sh.upd ⟨id,bl k,bl v,n⟩ (bl m)).v,bmk hok1.vb⟩
  have hk1s:k1.size=Sh.size id:=by rw[<-bll,hk1,hok1.kl,Sh.upd_id]
  have hv1s:v1.size=Sh.size id:=by rw[<-bll,hv1,hok1.vl,Sh.upd_id]
  have hU0:=cRUpd hP id hid hOf k v m n (by omega) (by omega) (by omega) k1 v1 hk1 hv1
  rw[decide_eq_false hm]
  cbv
  refine cgn rfl hg rfl rfl hU0 _root_.id rfl ⟨rfl,trivial⟩ rfl rfl rfl ?_
  rintro _ _ _ ⟨rfl,rfl,rfl⟩ _
  refine⟨rfl,?_⟩
  obtain⟨z,hz⟩:=exq (Sh.size id)
  have hzb:=Sh.size_blk hid
  rw[<-hz]at hzb
  obtain⟨f,hf⟩:=exq ((sz+z-1)/z)
  obtain⟨o,ho⟩:=exq (fun j=>mkB (Sh.gen id (bl k1) j (bl v1)).1:Nat->ByteArray)
  obtain⟨w,hw⟩:=exq (fun j=>mkB (Sh.gen id (bl k1) j (bl v1)).2:Nat->ByteArray)
  have bo:∀j,bl (o j)=(Sh.gen id (bl k1) j (bl v1)).1:=fun j=>by rw[ho];exact bmk (Sh.gen_b _ _ _ j)
  have bw:∀j,bl (w j)=(Sh.gen id (bl k1) j (bl v1)).2:=fun j=>by rw[hw];exact bmk (Sh.gen_b2 _ _ _ (bl_lt v1) j)
  have so:∀j,(o j).size=j*z:=fun j=>by rw[<-bll,bo,Sh.gen_len hid,hz]
  have sw:∀j,(w j).size=z:=fun j=>by rw[<-bll,bw,Sh.gen_len2 hid _ _ (by rw[bll,hv1s]),hz]
  have o0:o 0=ByteArray.mk #[]:=by rw[ho];rfl
  have w0:w 0=v1:=bl_inj (by rw[bw];rfl)
  have oS:∀j,o (j+1)=o j++w (j+1):=fun j=>bl_inj (by rw[bl_app,bo,bo,bw,Sh.gen_snoc])
  have wS:∀j,bl (w (j+1))=Sh.hmac id (bl k1) (bl (w j)):=fun j=>by rw[bw,bw,Sh.gen_snoc]
  have hjf:∀j,j<f↔j*z<sz:=fun j=>by
   rw[hf,Nat.lt_iff_add_one_le,Nat.le_div_iff_mul_le (by omega),Nat.succ_mul];omega
  have hfz:f*z<sz+z:=by
   have:=Nat.div_mul_le_self (sz+z-1) z
   rw[<-hf]at this;omega
  have hszf:sz<=f*z:=Nat.not_lt.1 fun h=>Nat.lt_irrefl f ((hjf f).2 h)
  have hMac:∀j,Con P 54 [.int .i64 (.ofNat id),.str k1,.str (w j)] [] 0 [] (fun v _ _=>v= .str (w (j+1))):=fun j=>cRHmac hP id hid hOf k1 (w j) (w (j+1)) (by omega) (by rw[sw];omega) (wS j)
  have hG:Sh.generate ⟨id,bl k,bl v,n⟩ sz (bl m)=(((bl (o f)).take sz),⟨id,(Sh.upd ⟨id,bl k1,bl (w f),n⟩ (bl m)).k,(Sh.upd ⟨id,bl k1,bl (w f),n⟩ (bl m)).v,(Sh.upd ⟨id,bl k1,bl (w f),n⟩ (bl m)).n+1⟩):=by
   rw[bo,bw,hf,hz]
   unfold Sh.generate
   simp only[if_neg hm,Sh.upd_id,Sh.upd_n,<-hk1,<-hv1]
  rw[hG]at hr hk' hv'
  have hU:=cRUpd hP id hid hOf k1 (w f) m n (by omega) (by rw[sw];omega) (by omega) k' v' hk' hv'
  have hre:r=(o f).extract 0 sz:=bl_inj (by rw[hr,bl_extract])
  have h0:[SV.int .i64 (.ofNat id),.str k1,.str v1,.int .i64 (.ofNat n)]=[SV.int .i64 (.ofNat id),.str k1,.str (w 0),.int .i64 (.ofNat n)]:=by rw[w0]
  clear hG hr hk' hv' wS bo bw ho hw
  cbv
  refine lpb Nat (fun j=>j<=f) (fun j=>f-j) (fun j=> [(8,.str (o j))]) [0,1,2] (fun j=> [(0,[.int .i64 (.ofNat id),.str k1,.str (w j),.int .i64 (.ofNat n)])]) 0 (Nat.zero_le _) ?_ ?_
  ·rw[o0,w0]
   exact wkid
  intro j hj
  obtain⟨x,hx⟩:=exq (j*z)
  have g1:slen (o j)=Int.ofNat x:=(slen_of hA _).trans (by rw[so,hx])
  by_cases hlt:j<f
  ·have hxs:x<sz:=by rw[hx];exact(hjf j).1 hlt
   have hMj:=hMac j
   have g2:scat (o j) (w (j+1))=some (o (j+1)):=(scat_of hA (by rw[so,sw,<-hx];omega)).trans (by rw[oS])
   cbv
   rw[g1]
   cbv
   rw[show cmp .lss (.ofNat x) (.ofNat sz)=true from lss_t hA hxs]
   cbv
   refine reg_A (hP▸tblOk) hA hg (hP▸mixed) rfl rfl ?_
   cbv
   refine sdv hg hMj ?_
   cbv
   rw[g2]
   refine⟨j+1,_root_.id,hlt,(by show f-(j+1)<f-j;omega),?_⟩
   exact wkid
  ·obtain rfl:j=f:=by omega
   have hos:sz<=(o j).size:=by rw[so];exact hszf
   have hSl:SlR P 9 (.str (o j)) none (some (.i64,Int.ofNat sz)) (.str r):=by rw[hre];exact slr_str (hP▸tblOk) (show tyT 9=some _ from rfl) rfl (o j) hos
   have g3:bin .add .i64 (.ofNat n) 1=Int.ofNat (n+1):=add_of hA (by omega)
   cbv
   rw[g1]
   cbv
   rw[show cmp .lss (.ofNat x) (.ofNat sz)=false from lss_f hA (by omega)]
   cbv
   refine cgn rfl hg rfl rfl hU _root_.id rfl ⟨rfl,trivial⟩ rfl rfl rfl ?_
   rintro _ _ _ ⟨rfl,rfl,rfl⟩ _
   refine⟨rfl,?_⟩
   cbv
   rw[g3]
   cbv
   refine ssl hg rfl rfl rfl rfl rfl hSl ?_
   cbv
   exact hK _ _ _ ⟨rfl,rfl⟩
theorem cRNew{P:Program}(hP:P=Tryz.prog)(id:Nat)(hid:1<=id/\id<=4)(hOf:RO P id)(e a b:ByteArray)(he:Sh.size id<=2*e.size/\e.size<=256)(ha:a.size<=256)(hb:b.size<=256)(k v:ByteArray)(hk:bl k=(Sh.new id (bl e++bl a++bl b)).k)(hv:bl v=(Sh.new id (bl e++bl a++bl b)).v):
 Con P 47 [.int .i64 (.ofNat id),.str e,.str a,.str b] [] 0 [] (fun w L q=>w= .tup [.ptr 0 0,.int .i64 0]/\L=[⟨0,[.int .i64 (.ofNat id),.str k,.str v,.int .i64 1],73⟩]/\q=1):=by
 obtain⟨z,hz⟩:=exq (Sh.size id)
 have hzb:=Sh.size_blk hid
 rw[<-hz]at hzb he
 have hS:=cRSize hP id hid z hz
 obtain⟨k0,hk0⟩:∃b,bl b=List.replicate z 0:=⟨mkB (List.replicate z 0),bmk fun x hx=>by rw[(List.mem_replicate.1 hx).2];decide⟩
 obtain⟨v0,hv0⟩:∃b,bl b=List.replicate z 1:=⟨mkB (List.replicate z 1),bmk fun x hx=>by rw[(List.mem_replicate.1 hx).2];decide⟩
 have hk0s:k0.size=z:=by rw[<-bll,hk0,List.length_replicate]
 have hv0s:v0.size=z:=by rw[<-bll,hv0,List.length_replicate]
 have hR0:=cSame hP z 0 (by decide) (by omega) k0 hk0
 have hR1:=cSame hP z 1 (by decide) (by omega) v0 hv0
 obtain⟨m1,hm1⟩:=exq (e++a)
 obtain⟨m2,hm2⟩:=exq (m1++b)
 have hm1s:m1.size=e.size+a.size:=by rw[hm1,ByteArray.size_append]
 have hm2s:m2.size=m1.size+b.size:=by rw[hm2,ByteArray.size_append]
 have hm2b:bl m2=bl e++bl a++bl b:=by rw[hm2,bl_app,hm1,bl_app]
 have hU:Con P 53 [.ptr 0 0,.str m2] [⟨0,[.int .i64 (.ofNat id),.str k0,.str v0,.int .i64 1],73⟩] 1 [0] (fun w L q=>w= .tup []/\L=[⟨0,[.int .i64 (.ofNat id),.str k,.str v,.int .i64 1],73⟩]/\q=1):=
  cRUpd hP id hid hOf k0 v0 m2 1 (by omega) (by omega) (by omega) k v (by rw[hk,hm2b,hk0,hv0,hz];rfl) (by rw[hv,hm2b,hk0,hv0,hz];rfl)
 suffices raw:Con P 47 [.int .i64 (.ofNat id),.str e,.str a,.str b] [] 0 [] (fun w L q=>∃l,w= .tup [.ptr l 0,.int .i64 0]/\find L l=some ⟨l,[.int .i64 (.ofNat id),.str k,.str v,.int .i64 1],73⟩)from
  raw.weak fun w L q ⟨l,h1,h2⟩=>⟨fun _=>l,.tup [.ptr 0 0,.int .i64 0],_,1,by subst h1;exact wkr ⟨rfl,rfl,trivial⟩ ⟨h2,rfl,rfl,rfl,trivial⟩ rfl rfl rfl,rfl,rfl,rfl⟩
 clear hk hv hk0 hv0
 obtain⟨ez,hez⟩:=exq e.size
 obtain⟨az,haz⟩:=exq a.size
 obtain⟨bz,hbz⟩:=exq b.size
 obtain⟨e2,he2⟩:=exq (2*ez)
 refine cof hP Tryz.func47 (bdb _ rfl) (bkb rfl) ?_
 intro A g K hA hg hK
 obtain⟨bin,_,cmp,_,_,_,_,_,_,_,scat,_,slen⟩:=A
 have g1:cmp .eql (.ofNat z) 0=false:=eql_f hA (a:=z) (b:=0) (by omega)
 have g2:scat e a=some m1:=(scat_of hA (by omega)).trans (by rw[hm1])
 have g3:scat m1 b=some m2:=(scat_of hA (by omega)).trans (by rw[hm2])
 have s1:slen e=Int.ofNat ez:=(slen_of hA e).trans (by rw[hez])
 have s2:slen a=Int.ofNat az:=(slen_of hA a).trans (by rw[haz])
 have s3:slen b=Int.ofNat bz:=(slen_of hA b).trans (by rw[hbz])
 have g4:bin .mul .i64 2 (.ofNat ez)=Int.ofNat e2:=(mulI hA (a:=2) (b:=ez) (by omega)).trans (by rw[he2])
 have g5:cmp .lss (.ofNat e2) (.ofNat z)=false:=lss_f hA (by omega)
 have g6:∀x,x<=256->cmp .gtr (.ofNat x) 256=false:=fun x h=>gtr_f hA (a:=x) (b:=256) (by omega)
 have g7:=g6 ez (by omega)
 have g8:=g6 az (by omega)
 have g9:=g6 bz (by omega)
 cbv
 refine cva rfl hg rfl rfl hS ?_
 rintro _ _ _ rfl
 refine⟨trivial,?_⟩
 cbv
 rw[g1]
 cbv
 rw[s1]
 cbv
 rw[g4]
 cbv
 refine cva rfl hg rfl rfl hS ?_
 rintro _ _ _ rfl
 refine⟨trivial,?_⟩
 cbv
 rw[g5]
 cbv
 rw[s1]
 cbv
 rw[g7]
 cbv
 rw[s2]
 cbv
 rw[g8]
 cbv
 rw[s3]
 cbv
 rw[g9]
 cbv
 refine cva rfl hg rfl rfl hS ?_
 rintro _ _ _ rfl
 refine⟨trivial,?_⟩
 cbv
 refine cva rfl hg rfl rfl hR0 ?_
 rintro _ _ _ rfl
 refine⟨trivial,?_⟩
 cbv
 refine cva rfl hg rfl rfl hS ?_
 rintro _ _ _ rfl
 refine⟨trivial,?_⟩
 cbv
 refine cva rfl hg rfl rfl hR1 ?_
 rintro _ _ _ rfl
 refine⟨trivial,?_⟩
 cbv
 rw[g2]
 cbv
 rw[g3]
 cbv
 refine cgn rfl hg rfl rfl hU (fun _=>0) rfl ⟨rfl,trivial⟩ rfl rfl rfl ?_
 rintro _ _ _ ⟨rfl,rfl,rfl⟩ _
 refine⟨rfl,?_⟩
 cbv
 exact hK _ _ _ ⟨0,rfl,rfl⟩
theorem cNum{P:Program}(hP:P=Tryz.prog)(x:Int):Con P 14 [.int .i64 x] [] 0 [] (fun v _ _=>v= .int .i64 x):=by
 refine cof hP Tryz.func14 (bdb _ rfl) (bkb rfl) ?_
 intro A g K hA hg hK
 cases A
 cbv
 exact hK _ _ _ rfl
theorem cOne{P:Program}(hP:P=Tryz.prog)(x:Nat)(r:Nat->Nat)(hr:r=fun j=>if j=0 then x else 0):Con P 26 [.int .u64 (.ofNat x)] [] 0 [] (fun v _ _=>v= .agg (ws r 9)):=by
 have e:ws r 9=[.int .u64 (.ofNat x),.int .u64 0,.int .u64 0,.int .u64 0,.int .u64 0,.int .u64 0,.int .u64 0,.int .u64 0,.int .u64 0]:=by rw[hr];rfl
 rw[e]
 clear hr e
 refine cof hP Tryz.func26 (bdb _ rfl) (bkb rfl) ?_
 intro A g K hA hg hK
 cases A
 cbv
 exact hK _ _ _ rfl
def seedL(l:List Nat):List Nat:=(l++[48,49,50,51,52,53,54,55,56,57,97,98,99,100,101,102]).take 200
theorem cSeeded{P:Program}(hP:P=Tryz.prog)(s k v:ByteArray)(hs:s.size<2^62)(hk:bl k=(Sh.new 2 (seedL (bl s))).k)(hv:bl v=(Sh.new 2 (seedL (bl s))).v):
 Con P 20 [.str s] [] 0 [] (fun w L q=>w= .tup [.ptr 0 0,.ptr 1 0,.bool true]/\L=[⟨0,[.int .i64 (.ofNat 2),.str k,.str v,.int .i64 1],100⟩,⟨1,[.int .i64 (.ofNat 2),.str k,.str v,.int .i64 1],73⟩]/\q=2):=by
 obtain⟨lit,hlit⟩:=exq (⟨#[48,49,50,51,52,53,54,55,56,57,97,98,99,100,101,102]⟩:ByteArray)
 have hlb:bl lit=[48,49,50,51,52,53,54,55,56,57,97,98,99,100,101,102]:=by rw[hlit];rfl
 have hls:lit.size=16:=by rw[hlit];rfl
 obtain⟨t,ht⟩:=exq (s++lit)
 have hts:t.size=s.size+16:=by rw[ht,ByteArray.size_append,hls]
 have htb:bl t=bl s++[48,49,50,51,52,53,54,55,56,57,97,98,99,100,101,102]:=by rw[ht,bl_app,hlb]
 obtain⟨u,hu⟩:=exq (t.extract 0 200)
 have hub:bl u=seedL (bl s):=by rw[hu,bl_extract,htb];rfl
 have hus:16<=u.size/\u.size<=200:=by
  rw[<-bll,hu,bl_extract,List.length_take,bll,hts];omega
 have hN:Con P 46 [.int .i64 (.ofNat 2),.str u,.str ⟨#[]⟩,.str ⟨#[]⟩] [] 0 [] _:=cDNew hP 2 (by decide) u ⟨#[]⟩ ⟨#[]⟩ ⟨by show 16<=_;omega,by omega⟩ (by decide) (by decide) k v (by rw[hk,hub];show _=(Sh.new 2 (seedL (bl s)++[]++[])).k;rw[List.append_nil,List.append_nil]) (by rw[hv,hub];show _=(Sh.new 2 (seedL (bl s)++[]++[])).v;rw[List.append_nil,List.append_nil])
 have hR:Con P 47 [.int .i64 (.ofNat 2),.str u,.str ⟨#[]⟩,.str ⟨#[]⟩] [] 0 [] _:=cRNew hP 2 (by decide) (ro32 hP (Or.inr rfl)) u ⟨#[]⟩ ⟨#[]⟩ ⟨by show 32<=_;omega,by omega⟩ (by decide) (by decide) k v (by rw[hk,hub];show _=(Sh.new 2 (seedL (bl s)++[]++[])).k;rw[List.append_nil,List.append_nil]) (by rw[hv,hub];show _=(Sh.new 2 (seedL (bl s)++[]++[])).v;rw[List.append_nil,List.append_nil])
 have hNu:=cNum hP 0
 obtain⟨tz,htz⟩:=exq t.size
 clear hk hv hub hlb
 refine cof hP Tryz.func20 (bdb _ rfl) (bkb rfl) ?_
 intro A g K hA hg hK
 obtain⟨_,_,cmp,_,_,_,_,_,_,_,scat,_,slen⟩:=A
 have e1:scat s ⟨#[48,49,50,51,52,53,54,55,56,57,97,98,99,100,101,102]⟩=some t:=by
  rw[<-hlit];exact(scat_of hA (by omega)).trans (by rw[ht])
 have e2:slen t=Int.ofNat tz:=(slen_of hA t).trans (by rw[htz])
 have e3:cmp .eql 0 0=true:=eql_t hA (a:=0) (b:=0) rfl
 cbv
 rw[e1]
 cbv
 rw[e2]
 by_cases hlong:200<tz
 ·have hSl:SlR P 9 (.str t) none (some (.i64,200)) (.str u):=by
   rw[hu];exact slr_str (hP▸tblOk) (show tyT 9=some _ from rfl) rfl t (j:=200) (by omega)
  cbv
  rw[show cmp .gtr (.ofNat tz) 200=true from gtr_t hA (a:=tz) (b:=200) hlong]
  cbv
  refine ssl hg rfl rfl rfl rfl rfl hSl ?_
  cbv
  refine cgn rfl hg rfl rfl hN _root_.id rfl trivial rfl rfl rfl ?_
  rintro _ _ _ ⟨rfl,rfl,rfl⟩ _
  refine⟨rfl,?_⟩
  cbv
  refine cgn rfl hg rfl rfl hR _root_.id rfl trivial rfl rfl rfl ?_
  rintro _ _ _ ⟨rfl,rfl,rfl⟩ _
  refine⟨rfl,?_⟩
  cbv
  refine cva rfl hg rfl rfl hNu ?_
  rintro _ _ _ rfl
  refine⟨trivial,?_⟩
  cbv
  rw[e3]
  cbv
  rw[e3]
  cbv
  exact hK _ _ _ ⟨rfl,rfl,rfl⟩
 ·obtain rfl:t=u:=by
   rw[hu];exact bl_inj (by rw[bl_extract,List.take_of_length_le (by rw[bll];omega)])
  cbv
  rw[show cmp .gtr (.ofNat tz) 200=false from gtr_f hA (a:=tz) (b:=200) hlong]
  cbv
  refine cgn rfl hg rfl rfl hN _root_.id rfl trivial rfl rfl rfl ?_
  rintro _ _ _ ⟨rfl,rfl,rfl⟩ _
  refine⟨rfl,?_⟩
  cbv
  refine cgn rfl hg rfl rfl hR _root_.id rfl trivial rfl rfl rfl ?_
  rintro _ _ _ ⟨rfl,rfl,rfl⟩ _
  refine⟨rfl,?_⟩
  cbv
  refine cva rfl hg rfl rfl hNu ?_
  rintro _ _ _ rfl
  refine⟨trivial,?_⟩
  cbv
  rw[e3]
  cbv
  rw[e3]
  cbv
  exact hK _ _ _ ⟨rfl,rfl,rfl⟩
def awD:Sh.Dr:=Sh.new 2 (seedL [101])
theorem awR:(mkS 1 0 223 64 awD).1=141/\(mkS 1 0 223 64 awD).2.1=1/\(mkS 1 0 223 64 awD).2.2.1=0:=by decide +kernel
def sm(x j:Nat):Nat:=if j=0 then x else 0
theorem sm_V(x:Nat):V 9 (sm x)=x:=by
 have:∀n,V (n+1) (sm x)=x:=fun n=>by
  induction n with
  |zero=>show 0+x*0x10000000000000000^0=x;omega
  |succ n ih=>
   show V (n+1) (sm x)+0*_=x
   rw[ih,Nat.zero_mul,Nat.add_zero]
 exact this 8
theorem sm_W{x:Nat}(h:x<0x10000000000000000):Wn 9 (sm x):=fun j _=>by
 unfold sm;split
 ·exact h
 ·decide
theorem awP:ptx (EC.G 13)=2/\pty (EC.G 13)=84/\ptinf (EC.G 13)=false:=by decide +kernel
theorem awN:EC.cn 13=223:=by decide +kernel
def valsP(f g:Nat->Nat)(b:Bool):Array Value:= #[.int .u64 (.ofNat (f 0)),.int .u64 (.ofNat (f 1)),.int .u64 (.ofNat (f 2)),.int .u64 (.ofNat (f 3)),.int .u64 (.ofNat (f 4)),.int .u64 (.ofNat (f 5)),.int .u64 (.ofNat (f 6)),.int .u64 (.ofNat (f 7)),.int .u64 (.ofNat (f 8)),.int .u64 (.ofNat (g 0)),.int .u64 (.ofNat (g 1)),.int .u64 (.ofNat (g 2)),.int .u64 (.ofNat (g 3)),.int .u64 (.ofNat (g 4)),.int .u64 (.ofNat (g 5)),.int .u64 (.ofNat (g 6)),.int .u64 (.ofNat (g 7)),.int .u64 (.ofNat (g 8)),.bool b]
theorem eq_natD(f g:Nat->Nat)(d:Nat)(w:World):(Op.equalIn (d+3) 25 (.agg (vals9 f)) (.agg (vals9 g))).run Tryz.prog w= .ok (eq9 f g) w:=by
 rw[run_equalIn_struct w (d+2) 25 _ _ (by kernel_rfl) (by kernel_rfl)]
 have hf:(Tryz.prog.fieldsOf 25).toList=[{name:= "W",type:=23,offset:=0,embedded:=false,tag:= "",pkgPath:= "",byteOffset:=0}]:=by kernel_rfl
 have hp:∀h:Nat->Nat,(part 23 (vals9 h) 0).run Tryz.prog w= .ok (.agg (vals9 h)) w:=fun h=>by kernel_rfl
 rw[hf]
 simp only[Op.eqFields,Sem.run_bind,Sem.run_ite,hp,Result.andThen_ok,eq_words9 f g d w]
 cases eq9 f g<;>rfl
theorem eq_pt(f g:Nat->Nat)(b:Bool)(f' g':Nat->Nat)(b':Bool)(w:World):(Op.equalIn 10000 35 (.agg (valsP f g b)) (.agg (valsP f' g' b'))).run Tryz.prog w= .ok (eq9 f f'&&eq9 g g'&&(b==b')) w:=by
 rw[run_equalIn_struct w 9999 35 _ _ (by kernel_rfl) (by kernel_rfl)]
 have hf:(Tryz.prog.fieldsOf 35).toList=[{name:= "X",type:=25,offset:=0,embedded:=false,tag:= "",pkgPath:= "",byteOffset:=0},{name:= "Y",type:=25,offset:=9,embedded:=false,tag:= "",pkgPath:= "",byteOffset:=72},{name:= "Inf",type:=4,offset:=18,embedded:=false,tag:= "",pkgPath:= "",byteOffset:=144}]:=by kernel_rfl
 have h1:∀f g b,(part 25 (valsP f g b) 0).run Tryz.prog w= .ok (.agg (vals9 f)) w:=fun f g b=>by kernel_rfl
 have h2:∀f g b,(part 25 (valsP f g b) 9).run Tryz.prog w= .ok (.agg (vals9 g)) w:=fun f g b=>by kernel_rfl
 have h3:∀f g b,(part 4 (valsP f g b) 18).run Tryz.prog w= .ok (.bool b) w:=fun f g b=>by kernel_rfl
 rw[hf]
 simp only[Op.eqFields,Sem.run_bind,Sem.run_ite,h1,h2,h3,Result.andThen_ok,eq_natD _ _ 9996 w,eqIn_bool (d:=9998) (show Tryz.prog.underlying 4=some .bool by kernel_rfl)]
 cases eq9 f f'<;>cases eq9 g g'<;>cases b==b'<;>rfl
theorem en_cmp_pt{P:Program}(hP:P=Tryz.prog){g:G}{o:Oper}{x y:Operand}{yt:TypeId}{N m0:Nat}{ms:List Nat}(hg:GI g m0 ms N)(hd':dstLt N o.dst=true){F:Nat->Option SV}{M:Nat->Option Blk}{f h f' h':Nat->Nat}{b b' r:Bool}
 (ho:o.op= .binOp .eql 35 x y yt) (hr:r=(eq9 f f'&&eq9 h h'&&(b==b')))
 (hx:ev F x=some (.agg (ptS f h b))) (hy:ev F y=some (.agg (ptS f' h' b'))):EN g P o F M (.bool r) []:=by
 subst hP
 refine en_out hg hd' fun β p F' L' act W hF hM hm hf=> ?_
 have E:∀z∈o.op.operands.toList,ev F' z=ev F z:=fun z hz=>ev_congr fun t ht=>hF t (tmpsL_mem hz ht)
 have h4:Tryz.prog.eqGuardType Tryz.prog.depth 35=false:=by kernel_rfl
 rw[ho]at E
 obtain⟨e1,_⟩:=evd hf ((E x (by simp[Op.operands])).trans hx)
 obtain⟨e2,_⟩:=evd hf ((E y (by simp[Op.operands])).trans hy)
 refine⟨?_,trivial⟩
 have h1:act.eval x= .agg (valsP f h b):=e1
 have h2:act.eval y= .agg (valsP f' h' b'):=e2
 have h3:∀xs ys,(eqGuard .eql 35 x y (.agg xs) (.agg ys)).run Tryz.prog W= .ok () W:=fun xs ys=>run_eqGuard_agg W .eql 35 x y xs ys h4
 unfold execOp
 simp only[ho,h1,h2,Sem.run_bind,h3,Result.andThen_ok,run_eql_struct,eq_pt,Sem.run_pure,den,hr]
theorem awD_eq:(⟨2,awD.k,awD.v,1⟩:Sh.Dr)=awD:=by
 have h1:awD.id=2:=Sh.upd_id _ _
 have h2:awD.n=1:=Sh.upd_n _ _
 generalize awD=D at h1 h2
 cases D
 simp only at h1 h2
 subst h1 h2
 rfl
theorem awOk:Sh.Ok awD:=Sh.Ok.new (by decide) _
theorem cAwake{P:Program}(hP:P=Tryz.prog):Con P 15 [] [] 0 [] (fun v _ _=>v= .bool true):=by
 have hid:awD.id=2:=Sh.upd_id _ _
 obtain⟨k0,hk0⟩:∃b,bl b=awD.k:=⟨mkB awD.k,bmk awOk.kb⟩
 obtain⟨v0,hv0⟩:∃b,bl b=awD.v:=⟨mkB awD.v,bmk awOk.vb⟩
 have hks:k0.size=Sh.size 2:=by rw[<-bll,hk0,awOk.kl,hid]
 have hvs:v0.size=Sh.size 2:=by rw[<-bll,hv0,awOk.vl,hid]
 have hSe:=cSeeded hP ⟨#[101]⟩ k0 v0 (by decide) hk0 hv0
 obtain⟨d,k',v',wd,vd,_,_,_,_,_,_,hMk⟩:=cMake hP 13 (by decide) 8 1 0 223 (by unfold IsBl;decide) awN.symm (by decide) rfl rfl 2 (by decide) k0 v0 1 hks hvs (by decide) (mkS 1 0 223 64 awD) (by rw[hk0,hv0,awD_eq])
 obtain⟨r1,r2,r3⟩:=awR
 rw[r1]at vd
 rw[r2,r3]at hMk
 obtain⟨nr,hnr⟩:=exq ((mkS 1 0 223 64 awD).2.2.2.n)
 rw[<-hnr]at hMk
 obtain⟨a1,ha1⟩:=exq (sm 1)
 obtain⟨a2,ha2⟩:=exq (sm 2)
 obtain⟨a84,ha84⟩:=exq (sm 84)
 obtain⟨a223,ha223⟩:=exq (sm 223)
 have w1:Wn 9 a1:=by rw[ha1];exact sm_W (by decide)
 have w2:Wn 9 a2:=by rw[ha2];exact sm_W (by decide)
 have w84:Wn 9 a84:=by rw[ha84];exact sm_W (by decide)
 have w223:Wn 9 a223:=by rw[ha223];exact sm_W (by decide)
 have v1:V 9 a1=1:=by rw[ha1];exact sm_V 1
 have v2:V 9 a2=2:=by rw[ha2];exact sm_V 2
 have v84:V 9 a84=84:=by rw[ha84];exact sm_V 84
 have v223:V 9 a223=223:=by rw[ha223];exact sm_V 223
 have hO1:=cOne hP 1 a1 ha1
 have hO2:=cOne hP 2 a2 ha2
 have hO84:=cOne hP 84 a84 ha84
 have hO223:=cOne hP 223 a223 ha223
 have hCk:=cCheck hP 13 (by decide) a223 w223 2401 (by rw[v223,awN];rfl)
 have hPt:PtW 13 (EC.smul EC.finv (EC.ca 13) (V 9 a1) (EC.G 13)) a2 a84 false:=by
  rw[v1,show EC.smul EC.finv (EC.ca 13) 1 (EC.G 13)=EC.G 13 from rfl]
  exact⟨w2,w84,v2.trans awP.1.symm,v84.trans awP.2.1.symm,awP.2.2.symm⟩
 have hPu:=cPublic hP 13 (by decide) a1 w1 (by rw[v1,awN];decide) hPt
 have hMn:=cMakeN hP 13 (by decide)
 have hC0:=cCheck0 hP 0 rfl a1
 have hN:=fun x=>cNum hP x
 have q1:(!eq9 d (fun _=>0))=true:=by
  rw[eq9_V wd (fun _ _=>by show 0<0x10000000000000000;decide),vd];rfl
 have q2:∀f,eq9 f f=true:=fun f=>by simp[eq9]
 clear ha1 ha2 ha84 ha223 hk0 hv0 hnr hPt vd
 refine cof hP Tryz.func15 (bdb _ rfl) (bkb rfl) ?_
 intro A g K hA hg hK
 obtain⟨_,_,cmp,_,_,_,_,_,bnot⟩:=A
 have e1:bnot true=false:=bnot_of hA true
 cbv
 refine cgn rfl hg rfl rfl hSe _root_.id rfl trivial rfl rfl rfl ?_
 rintro _ _ _ ⟨rfl,rfl,rfl⟩ _
 refine⟨rfl,?_⟩
 cbv
 rw[e1]
 cbv
 refine cgn rfl hg rfl rfl hMk (fun _=>0) rfl ⟨rfl,trivial⟩ rfl rfl rfl ?_
 rintro _ _ _ ⟨rfl,rfl,rfl⟩ _
 refine⟨rfl,?_⟩
 cbv
 refine cva rfl hg rfl rfl hO223 ?_
 rintro _ _ _ rfl
 refine⟨by simp[bd,bdL,ws,lst],?_⟩
 cbv
 refine cva rfl hg rfl rfl hCk ?_
 rintro _ _ _ rfl
 refine⟨trivial,?_⟩
 cbv
 refine cva rfl hg rfl rfl hO1 ?_
 rintro _ _ _ rfl
 refine⟨by simp[bd,bdL,ws,lst],?_⟩
 cbv
 refine cva rfl hg rfl rfl hPu ?_
 rintro _ _ _ rfl
 refine⟨by simp[bd,bdL,ptS,ws,lst],?_⟩
 cbv
 refine cva rfl hg rfl rfl hMn ?_
 rintro _ _ _ rfl
 refine⟨by simp[bd,bdL,ws,lst],?_⟩
 cbv
 refine cva rfl hg rfl rfl hO1 ?_
 rintro _ _ _ rfl
 refine⟨by simp[bd,bdL,ws,lst],?_⟩
 cbv
 refine cva rfl hg rfl rfl hC0 ?_
 rintro _ _ _ rfl
 refine⟨trivial,?_⟩
 have t0:cmp .eql 0 0=true:=eql_t hA (a:=0) (b:=0) rfl
 have t1:cmp .eql 1 1=true:=eql_t hA (a:=1) (b:=1) rfl
 have t2:cmp .eql 2401 2401=true:=eql_t hA (a:=2401) (b:=2401) rfl
 have t3:cmp .eql 2400 2400=true:=eql_t hA (a:=2400) (b:=2400) rfl
 have t4:cmp .geq (.ofNat 1) 1=true:=geq_t hA (a:=1) (b:=1) (by decide)
 have t5:cmp .eql (.ofNat 0) 0=true:=t0
 have t6:cmp .eql (.ofNat 1) 1=true:=t1
 cbv
 refine reg_A (hP▸tblOk) hA hg (hP▸mixed) rfl rfl ?_
 cbv
 refine sdv hg (hN 0) ?_
 cbv
 rw[t0]
 cbv
 rw[t4]
 cbv
 refine stepD (en_cmp_nat hP hg rfl (a:=d) (b:=fun _=>0) (r:=true) (Or.inl ⟨rfl,q1.symm⟩) rfl rfl) ?_
 cbv
 refine sdv hg (hN 2401) ?_
 cbv
 rw[t2]
 cbv
 refine stepD (en_val rfl hg rfl rfl hO2 (fun _ _ _ h=>h) (by simp[bd,bdL,ws,lst])) ?_
 cbv
 refine stepD (en_val rfl hg rfl rfl hO84 (fun _ _ _ h=>h) (by simp[bd,bdL,ws,lst])) ?_
 cbv
 refine stepD (en_cmp_pt hP hg rfl (f:=a2) (h:=a84) (b:=false) (f':=a2) (h':=a84) (b':=false) (r:=true) rfl (by rw[q2,q2];rfl) rfl rfl) ?_
 cbv
 refine sdv hg (hN 0) ?_
 cbv
 rw[t0]
 cbv
 refine sdv hg (hN 1) ?_
 cbv
 rw[t1]
 cbv
 refine sdv hg (hN 2400) ?_
 cbv
 rw[t3]
 cbv
 exact hK _ _ _ rfl
theorem bits_all{c:Nat}(hc:1<=c/\c<=15){bits:Nat}(hb:IsBl (EC.cn c) bits):1<=bits/\bits<=576:=by
 have hn:=cn_small hc
 have h2:2<=EC.cn c:=(EC.prime_cn c).1
 constructor
 ·rcases Nat.eq_zero_or_pos bits with h0|h0
  ·have:=hb.1;rw[h0]at this;simp at this;omega
  ·exact h0
 ·have:=bl_le16 hb hn
  omega
theorem ft6{ρ:Nat->Nat}{M:Nat->Option Blk}{l0 l1 l2 l3 l4 l5:Nat}{C0 C1 C2 C3 C4 C5:List SV}{t:TypeId}(b0:bdLB 0 C0=true)(b1:bdLB 0 C1=true)(b2:bdLB 0 C2=true)(b3:bdLB 0 C3=true)(b4:bdLB 0 C4=true)(b5:bdLB 0 C5=true)
 (h0:M (ρ l0)=some ⟨ρ l0,C0,t⟩) (h1:M (ρ l1)=some ⟨ρ l1,C1,t⟩) (h2:M (ρ l2)=some ⟨ρ l2,C2,t⟩) (h3:M (ρ l3)=some ⟨ρ l3,C3,t⟩) (h4:M (ρ l4)=some ⟨ρ l4,C4,t⟩) (h5:M (ρ l5)=some ⟨ρ l5,C5,t⟩):foot ρ M [⟨l0,C0,t⟩,⟨l1,C1,t⟩,⟨l2,C2,t⟩,⟨l3,C3,t⟩,⟨l4,C4,t⟩,⟨l5,C5,t⟩]:=
 ⟨by rw[rcl _ b0];exact h0,by rw[rcl _ b1];exact h1,by rw[rcl _ b2];exact h2,by rw[rcl _ b3];exact h3,by rw[rcl _ b4];exact h4,by rw[rcl _ b5];exact h5,trivial⟩
theorem ft7{ρ:Nat->Nat}{M:Nat->Option Blk}{l0 l1 l2 l3 l4 l5 l6:Nat}{C0 C1 C2 C3 C4 C5 C6:List SV}{t t6:TypeId}(b0:bdLB 0 C0=true)(b1:bdLB 0 C1=true)(b2:bdLB 0 C2=true)(b3:bdLB 0 C3=true)(b4:bdLB 0 C4=true)(b5:bdLB 0 C5=true)(b6:bdLB 0 C6=true)
 (h0:M (ρ l0)=some ⟨ρ l0,C0,t⟩) (h1:M (ρ l1)=some ⟨ρ l1,C1,t⟩) (h2:M (ρ l2)=some ⟨ρ l2,C2,t⟩) (h3:M (ρ l3)=some ⟨ρ l3,C3,t⟩) (h4:M (ρ l4)=some ⟨ρ l4,C4,t⟩) (h5:M (ρ l5)=some ⟨ρ l5,C5,t⟩) (h6:M (ρ l6)=some ⟨ρ l6,C6,t6⟩):
 foot ρ M [⟨l0,C0,t⟩,⟨l1,C1,t⟩,⟨l2,C2,t⟩,⟨l3,C3,t⟩,⟨l4,C4,t⟩,⟨l5,C5,t⟩,⟨l6,C6,t6⟩]:=
 ⟨by rw[rcl C0 b0];exact h0,by rw[rcl C1 b1];exact h1,by rw[rcl C2 b2];exact h2,by rw[rcl C3 b3];exact h3,by rw[rcl C4 b4];exact h4,by rw[rcl C5 b5];exact h5,by rw[rcl C6 b6];exact h6,trivial⟩
theorem cRGenE{P:Program}(hP:P=Tryz.prog)(id:Nat)(k v m:ByteArray)(n sz:Nat)(hms:m.size<=256)(hsz:sz<=256)(hn:64<n)(hn2:n<2^40):
 Con P 30 [.ptr 0 0,.int .i64 (.ofNat sz),.str m] [⟨0,[.int .i64 (.ofNat id),.str k,.str v,.int .i64 (.ofNat n)],73⟩] 1 [] (fun w _ _=>w= .tup [.str ⟨#[]⟩,.int .i64 1103]):=by
 obtain⟨mz,hmz⟩:=exq m.size
 refine cof hP Tryz.func30 ⟨(by show 0<1;decide),trivial,trivial,trivial⟩ (bkb rfl) ?_
 intro A g K hA hg hK
 obtain⟨_,_,cmp,_,_,_,_,_,_,_,_,_,slen⟩:=A
 have f1:cmp .lss (.ofNat sz) 0=false:=lss_f hA (a:=sz) (b:=0) (by omega)
 have f2:cmp .gtr (.ofNat sz) 256=false:=gtr_f hA (a:=sz) (b:=256) (by omega)
 have f3:slen m=Int.ofNat mz:=(slen_of hA m).trans (by rw[hmz])
 have f4:cmp .gtr (.ofNat mz) 256=false:=gtr_f hA (a:=mz) (b:=256) (by omega)
 have f5:cmp .gtr (.ofNat n) 64=true:=gtr_t hA (a:=n) (b:=64) (by omega)
 cbv
 rw[f1]
 cbv
 rw[f2]
 cbv
 rw[f3]
 cbv
 rw[f4]
 cbv
 rw[f5]
 cbv
 exact hK _ _ _ rfl
section
variable {P:Program}(hP:P=Tryz.prog){H:Nat->Nat->List SV}{S:Nat->Nat}(hs:HS H S)
include hP hs
theorem mGood(k nP nA nB nX nY cP cA cB cX cY:Nat)(r0 r1 r2 r4 r5:List SV)(b0:∀m,bdLB m r0=true)(b1:∀m,bdLB m r1=true)(b2:∀m,bdLB m r2=true)(b4:∀m,bdLB m r4=true)(b5:∀m,bdLB m r5=true){n nc d dc:Nat}(hn:n<4294967296^nc)(hd:d<4294967296^dc)(hd40:d<4294967296^40)(r:Bool)(hr:r=(decide (d≠0)&&decide (d<n))):
 Con P 16 [.agg (cvS k (.slice 0 0 nP cP) (.slice 1 0 nA cA) (.slice 2 0 nB cB) (.slice 3 0 (S n) nc) (.slice 4 0 nX cX) (.slice 5 0 nY cY)),.slice 6 0 (S d) dc]
 [⟨0,r0,58⟩,⟨1,r1,58⟩,⟨2,r2,58⟩,⟨3,H n nc,58⟩,⟨4,r4,58⟩,⟨5,r5,58⟩,⟨6,H d dc,58⟩] 7 [] (fun w _ _=>w= .bool r):=by
 obtain⟨q,q1,q2,q3⟩:=cmp_ex d n
 have hC:=mCmp hP hs hd hn hd40 q q1 q2 q3
 have hz:=(hs.nm hd).zero
 have hS40:=hs.le hd40
 have b3:∀m,bdLB m (H n nc)=true:=fun m=>hs.b m n nc
 have b6:∀m,bdLB m (H d dc)=true:=fun m=>hs.b m d dc
 refine cof hP Tryz.func16 ⟨⟨trivial,blq rfl,blq rfl,blq rfl,blq rfl,blq rfl,blq rfl,trivial⟩,blq rfl,trivial⟩ (by simpa [bdL,bd]using⟨bdb _ (b0 7),bdb _ (b1 7),bdb _ (b2 7),bdb _ (b3 7),bdb _ (b4 7),bdb _ (b5 7),bdb _ (b6 7)⟩) ?_
 intro A g K hA hg hK
 obtain⟨_,_,cmp,_,_,_,_,_,_,_,_,_,_,_,nat⟩:=A
 have e0:nat (S d)=Int.ofNat (S d):=nat_of hA _
 by_cases h0:d=0
 ·have e1:cmp .gtr (.ofNat (S d)) 0=false:=gtr_f hA (a:=S d) (b:=0) (by rw[hz.2 h0];decide)
  have hr0:r=false:=by rw[hr,h0];rfl
  subst hr0
  cbv
  rw[e0]
  cbv
  rw[e1]
  cbv
  exact hK _ _ _ rfl
 ·have e1:cmp .gtr (.ofNat (S d)) 0=true:=gtr_t hA (a:=S d) (b:=0) (Nat.pos_of_ne_zero fun h=>h0 (hz.1 h))
  have hr0:r=cmp .lss q 0:=by
   rw[hr,decide_eq_true h0,Bool.true_and]
   by_cases hl:d<n
   ·rw[decide_eq_true hl];exact(cmp_lss_t hA q1 q2 q3 hl).symm
   ·rw[decide_eq_false hl];exact(cmp_lss_f hA q1 q2 q3 (by omega)).symm
  cbv
  rw[e0]
  cbv
  rw[e1]
  cbv
  refine cro rfl hg rfl rfl hC (fun l=>if l=0 then 6 else 3) rfl (ftM2 (b6 0) (b3 0) rfl rfl) ?_
  rintro _ _ _ rfl
  refine⟨trivial,trivial,?_⟩
  cbv
  rw[<-hr0]
  exact hK _ _ _ rfl
theorem mGoodN(k nP nA nB nX nY cP cA cB cX cY:Nat)(r0 r1 r2 r4 r5:List SV)(b0:∀m,bdLB m r0=true)(b1:∀m,bdLB m r1=true)(b2:∀m,bdLB m r2=true)(b4:∀m,bdLB m r4=true)(b5:∀m,bdLB m r5=true){n nc:Nat}:
 Con P 16 [.agg (cvS k (.slice 0 0 nP cP) (.slice 1 0 nA cA) (.slice 2 0 nB cB) (.slice 3 0 (S n) nc) (.slice 4 0 nX cX) (.slice 5 0 nY cY)),.nils]
 [⟨0,r0,58⟩,⟨1,r1,58⟩,⟨2,r2,58⟩,⟨3,H n nc,58⟩,⟨4,r4,58⟩,⟨5,r5,58⟩] 6 [] (fun w _ _=>w= .bool false):=by
 have b3:∀m,bdLB m (H n nc)=true:=fun m=>hs.b m n nc
 refine cof hP Tryz.func16 ⟨⟨trivial,blq rfl,blq rfl,blq rfl,blq rfl,blq rfl,blq rfl,trivial⟩,trivial,trivial⟩ (by simpa [bdL,bd]using⟨bdb _ (b0 6),bdb _ (b1 6),bdb _ (b2 6),bdb _ (b3 6),bdb _ (b4 6),bdb _ (b5 6)⟩) ?_
 intro A g K hA hg hK
 obtain⟨_,_,cmp⟩:=A
 have e1:cmp .gtr 0 0=false:=gtr_f hA (a:=0) (b:=0) (by decide)
 cbv
 rw[e1]
 cbv
 exact hK _ _ _ rfl
/-- one of a key's numbers:the generator wants a reseed-/
theorem mTryE(k nP nA nB nX nY cP cA cB cX cY:Nat)(r0 r1 r2 r4 r5:List SV)(b0:∀m,bdLB m r0=true)(b1:∀m,bdLB m r1=true)(b2:∀m,bdLB m r2=true)(b4:∀m,bdLB m r4=true)(b5:∀m,bdLB m r5=true){n nc:Nat}(hn:n<4294967296^nc)(hn18:n<4294967296^18)(bits:Nat)(hb:IsBl n bits)(hb2:1<=bits/\bits<=576)(z:Nat)(hz:z=(bits+7)/8)(id:Nat)(kb vb:ByteArray)(ct:Nat)(hct:64<ct)(hct2:ct<2^40):
 Con P 55 [.agg (cvS k (.slice 0 0 nP cP) (.slice 1 0 nA cA) (.slice 2 0 nB cB) (.slice 3 0 (S n) nc) (.slice 4 0 nX cX) (.slice 5 0 nY cY)),.ptr 6 0]
 [⟨0,r0,58⟩,⟨1,r1,58⟩,⟨2,r2,58⟩,⟨3,H n nc,58⟩,⟨4,r4,58⟩,⟨5,r5,58⟩,⟨6,[.int .i64 (.ofNat id),.str kb,.str vb,.int .i64 (.ofNat ct)],73⟩] 7 [] (fun w _ _=>w= .tup [.nils,.bool false,.int .i64 1103]):=by
 have hNS:=mNSize hP hs k nP nA nB nX nY cP cA cB cX cY r0 r1 r2 r4 r5 b0 b1 b2 b4 b5 hn hn18 bits hb hb2.2 z hz
 have hGe:=cRGenE hP id kb vb ⟨#[]⟩ ct z (by decide) (by omega) hct hct2
 have b3:∀m,bdLB m (H n nc)=true:=fun m=>hs.b m n nc
 refine cof hP Tryz.func55 ⟨⟨trivial,blq rfl,blq rfl,blq rfl,blq rfl,blq rfl,blq rfl,trivial⟩,blq rfl,trivial⟩ (by simpa [bdL,bd]using⟨bdb _ (b0 7),bdb _ (b1 7),bdb _ (b2 7),bdb _ (b3 7),bdb _ (b4 7),bdb _ (b5 7)⟩) ?_
 intro A g K hA hg hK
 obtain⟨_,_,cmp⟩:=A
 have e1:cmp .neq 1103 0=true:=neq_t hA (a:=1103) (b:=0) (by decide)
 cbv
 refine cro rfl hg rfl rfl hNS _root_.id rfl (ft6 (b0 0) (b1 0) (b2 0) (b3 0) (b4 0) (b5 0) rfl rfl rfl rfl rfl rfl) ?_
 rintro _ _ _ rfl
 refine⟨trivial,trivial,?_⟩
 cbv
 refine cro rfl hg rfl rfl hGe (fun _=>6) rfl ⟨rfl,trivial⟩ ?_
 rintro _ _ _ rfl
 refine⟨by simp[bd,bdL],by simp[bd,bdL,ren,renL],?_⟩
 cbv
 rw[e1]
 cbv
 exact hK _ _ _ rfl
/-- one of a key's numbers:the generator's bytes are not all nought-/
theorem mTry(k nP nA nB nX nY cP cA cB cX cY:Nat)(r0 r1 r2 r4 r5:List SV)(b0:∀m,bdLB m r0=true)(b1:∀m,bdLB m r1=true)(b2:∀m,bdLB m r2=true)(b4:∀m,bdLB m r4=true)(b5:∀m,bdLB m r5=true){n nc:Nat}(hn:n<4294967296^nc)(hn18:n<4294967296^18)(bits:Nat)(hb:IsBl n bits)(hb2:1<=bits/\bits<=576)(z:Nat)(hz:z=(bits+7)/8)(s8:Nat)(hs8:s8=8*z-bits)
 (kb vb:ByteArray) (ct:Nat) (hks:kb.size=Sh.size 2) (hvs:vb.size=Sh.size 2) (hct:ct<=64) (k' v':ByteArray) (hk':bl k'=(tryD z s8 ⟨2,bl kb,bl vb,ct⟩).2.k) (hv':bl v'=(tryD z s8 ⟨2,bl kb,bl vb,ct⟩).2.v) (d:Nat) (hd:d=(tryD z s8 ⟨2,bl kb,bl vb,ct⟩).1) (r:Bool) (hr:r=(decide (d≠0)&&decide (d<n))):
 (r=false/\Con P 55 [.agg (cvS k (.slice 0 0 nP cP) (.slice 1 0 nA cA) (.slice 2 0 nB cB) (.slice 3 0 (S n) nc) (.slice 4 0 nX cX) (.slice 5 0 nY cY)),.ptr 6 0]
 [⟨0,r0,58⟩,⟨1,r1,58⟩,⟨2,r2,58⟩,⟨3,H n nc,58⟩,⟨4,r4,58⟩,⟨5,r5,58⟩,⟨6,[.int .i64 (.ofNat 2),.str kb,.str vb,.int .i64 (.ofNat ct)],73⟩] 7 [6] (fun w L q=>w= .tup [.nils,.bool false,.int .i64 0]/\L=[⟨6,[.int .i64 (.ofNat 2),.str k',.str v',.int .i64 (.ofNat (ct+1))],73⟩]/\q=7))\/
 (∃dc,d<4294967296^dc/\d<4294967296^40/\Con P 55 [.agg (cvS k (.slice 0 0 nP cP) (.slice 1 0 nA cA) (.slice 2 0 nB cB) (.slice 3 0 (S n) nc) (.slice 4 0 nX cX) (.slice 5 0 nY cY)),.ptr 6 0]
 [⟨0,r0,58⟩,⟨1,r1,58⟩,⟨2,r2,58⟩,⟨3,H n nc,58⟩,⟨4,r4,58⟩,⟨5,r5,58⟩,⟨6,[.int .i64 (.ofNat 2),.str kb,.str vb,.int .i64 (.ofNat ct)],73⟩] 7 [6] (fun w L q=>w= .tup [.slice 7 0 (S d) dc,.bool r,.int .i64 0]/\L=[⟨6,[.int .i64 (.ofNat 2),.str k',.str v',.int .i64 (.ofNat (ct+1))],73⟩,⟨7,H d dc,58⟩]/\q=8)):=by
 have hNS:=mNSize hP hs k nP nA nB nX nY cP cA cB cX cY r0 r1 r2 r4 r5 b0 b1 b2 b4 b5 hn hn18 bits hb hb2.2 z hz
 have b3:∀m,bdLB m (H n nc)=true:=fun m=>hs.b m n nc
 have hszb:1<=z/\z<=72:=by omega
 have hs8b:s8<8:=by omega
 have hBi:=cRBits hP (hs.nm hn) (by have:=hs.le hn18;omega) bits hb
 rw[show Vg.hs (dg n) nc=H n nc from by rw[hs.h]]at hBi
 obtain⟨G,hG⟩:=exq (Sh.generate ⟨2,bl kb,bl vb,ct⟩ z [])
 have hGl:G.1.length<=72:=by
  rw[hG];unfold Sh.generate
  rw[List.length_take];omega
 have hGb:∀x∈G.1,x<256:=fun x hx=>by
  rw[hG]at hx;unfold Sh.generate at hx
  exact Sh.gen_b _ _ _ _ x (List.mem_of_mem_take hx)
 obtain⟨s,hss⟩:∃s,bl s=G.1:=⟨mkB G.1,bmk hGb⟩
 have hsz:s.size<=72:=by rw[<-bll,hss];exact hGl
 unfold tryD at hk' hv' hd
 rw[<-hG]at hk' hv' hd
 have hGen:=cRGen hP 2 (by decide) (ro32 hP (Or.inr rfl)) kb vb ⟨#[]⟩ ct z hks hvs (by decide) (by omega) hct s k' v' (by rw[hss,hG];rfl) (by rw[hk',hG];rfl) (by rw[hv',hG];rfl)
 obtain⟨y,hy⟩:=exq (Sh.word (bl s))
 have hdy:d=y/2^s8:=by rw[hd,hy,hss]
 obtain⟨yc,hyc⟩:=exq (s.size/4+1)
 obtain⟨by',hRd⟩:=mRead hP hs s.size y (by omega) s rfl hy yc hyc
 have vY:∀m,bdLB m (H y yc)=true:=fun m=>hs.b m y yc
 have hSyc:S y<=yc:=hs.le by'
 have hyd:d<=y:=by rw[hdy];exact Nat.div_le_self _ _
 have hd40:d<4294967296^40:=Nat.lt_of_le_of_lt hyd (Nat.lt_of_lt_of_le by' (Nat.pow_le_pow_right (by decide) (by omega)))
 have hz0:=(hs.nm by').zero
 obtain⟨b8,hb8⟩:=exq (8*z)
 have fin:∀ {A:Ar},A=Ar.real->A.cmp .neq 0 0=false/\A.bin .mul .i64 8 (Int.ofNat z)=Int.ofNat b8/\A.bin .sub .i64 (Int.ofNat b8) (Int.ofNat bits)=Int.ofNat s8:=fun {A} hA=>
  ⟨neq_f hA (a:=0) (b:=0) rfl,(mulI hA (a:=8) (b:=z) (by omega)).trans (by rw[hb8]),(subI hA (a:=b8) (b:=bits) (by omega) (by omega)).trans (by rw[hs8,hb8])⟩
 by_cases hy0:y=0
 ·left
  have hd0:d=0:=by omega
  refine⟨by rw[hr,hd0];rfl,?_⟩
  have hSh:=cRShrZ hP (c:=yc) (f:=dg y) s8 (by omega)
  rw[show Vg.hs (dg y) yc=H y yc from by rw[hs.h]]at hSh
  have hGo:=mGoodN hP hs k nP nA nB nX nY cP cA cB cX cY r0 r1 r2 r4 r5 b0 b1 b2 b4 b5 (n:=n) (nc:=nc)
  rw[show S y=0 from hz0.2 hy0]at hRd
  clear hG hGl hGb hss hk' hv' hd hr hy
  suffices raw:Con P 55 [.agg (cvS k (.slice 0 0 nP cP) (.slice 1 0 nA cA) (.slice 2 0 nB cB) (.slice 3 0 (S n) nc) (.slice 4 0 nX cX) (.slice 5 0 nY cY)),.ptr 6 0]
   [⟨0,r0,58⟩,⟨1,r1,58⟩,⟨2,r2,58⟩,⟨3,H n nc,58⟩,⟨4,r4,58⟩,⟨5,r5,58⟩,⟨6,[.int .i64 (.ofNat 2),.str kb,.str vb,.int .i64 (.ofNat ct)],73⟩] 7 [6] (fun w L q=>w= .tup [.nils,.bool false,.int .i64 0]/\find L 6=some ⟨6,[.int .i64 (.ofNat 2),.str k',.str v',.int .i64 (.ofNat (ct+1))],73⟩)from
   raw.weak fun w L q ⟨h1,h2⟩=>⟨_root_.id,.tup [.nils,.bool false,.int .i64 0],_,7,by subst h1;exact weak_id ⟨rfl,rfl,trivial⟩ ⟨h2,rfl,rfl,trivial⟩ rfl rfl,rfl,rfl,rfl⟩
  refine cof hP Tryz.func55 ⟨⟨trivial,blq rfl,blq rfl,blq rfl,blq rfl,blq rfl,blq rfl,trivial⟩,blq rfl,trivial⟩ (by simpa [bdL,bd]using⟨bdb _ (b0 7),bdb _ (b1 7),bdb _ (b2 7),bdb _ (b3 7),bdb _ (b4 7),bdb _ (b5 7)⟩) ?_
  intro A g K hA hg hK
  obtain⟨bin,_,cmp,_,_,_,_,_,_,_,_,_,_,_,_,_,_,_,sub⟩:=A
  have e1:cmp .neq 0 0=false:=(fin hA).1
  have e2:bin .mul .i64 8 (.ofNat z)=Int.ofNat b8:=(fin hA).2.1
  have e3:bin .sub .i64 (.ofNat b8) (.ofNat bits)=Int.ofNat s8:=(fin hA).2.2
  cbv
  refine cro rfl hg rfl rfl hNS _root_.id rfl (ft6 (b0 0) (b1 0) (b2 0) (b3 0) (b4 0) (b5 0) rfl rfl rfl rfl rfl rfl) ?_
  rintro _ _ _ rfl
  refine⟨trivial,trivial,?_⟩
  cbv
  refine cgn rfl hg rfl rfl hGen (fun _=>6) rfl ⟨rfl,trivial⟩ rfl rfl rfl ?_
  rintro _ _ _ ⟨rfl,rfl,rfl⟩ _
  refine⟨rfl,?_⟩
  cbv
  rw[e1]
  cbv
  refine reg_A (hP▸tblOk) hA hg (hP▸mixed) rfl rfl ?_
  cbv
  refine stepD_one rfl hg rfl rfl hRd (vY 0) (fun _ h=>by cases h) _root_.id rfl trivial rfl ?_
  cbv
  rw[e2]
  cbv
  refine stepD (enr rfl hg rfl rfl hBi (fun _=>3) rfl (ftM (b3 0) rfl) (fun _ _ _ h=>h) trivial) ?_
  cbv
  rw[e3]
  cbv
  refine stepD (enr rfl hg rfl rfl hSh (fun _=>8) rfl (ftM (vY 0) rfl) (fun _ _ _ h=>h) trivial) ?_
  cbv
  refine cro rfl hg rfl rfl hGo _root_.id rfl (ft6 (b0 0) (b1 0) (b2 0) (b3 0) (b4 0) (b5 0) rfl rfl rfl rfl rfl rfl) ?_
  rintro _ _ _ rfl
  refine⟨trivial,trivial,?_⟩
  cbv
  exact hK _ _ _ ⟨rfl,rfl⟩
 ·right
  have hSy0:0<S y:=Nat.pos_of_ne_zero fun h=>hy0 (hz0.1 h)
  have hdc:d<4294967296^S y:=Nat.lt_of_le_of_lt hyd (hs.nm by').lt
  have hSh:=cRShr hP (hs.nm by').nw (by omega) hSy0 s8 (by omega) d (S d) hdy (by rw[hs.s])
  have vD:∀m,bdLB m (H d (S y))=true:=fun m=>hs.b m d (S y)
  have hGo:=mGood hP hs k nP nA nB nX nY cP cA cB cX cY r0 r1 r2 r4 r5 b0 b1 b2 b4 b5 hn hdc hd40 r hr
  refine⟨S y,hdc,hd40,?_⟩
  rw[show Vg.hs (dg y) yc=H y yc from by rw[hs.h],show Vg.hs (dg d) (S y)=H d (S y)from by rw[hs.h]]at hSh
  obtain⟨sy,hsy⟩:=exq (S y)
  rw[<-hsy]at hSh hRd hGo vD⊢
  clear hG hGl hGb hss hk' hv' hd hr hy
  suffices raw:Con P 55 [.agg (cvS k (.slice 0 0 nP cP) (.slice 1 0 nA cA) (.slice 2 0 nB cB) (.slice 3 0 (S n) nc) (.slice 4 0 nX cX) (.slice 5 0 nY cY)),.ptr 6 0]
   [⟨0,r0,58⟩,⟨1,r1,58⟩,⟨2,r2,58⟩,⟨3,H n nc,58⟩,⟨4,r4,58⟩,⟨5,r5,58⟩,⟨6,[.int .i64 (.ofNat 2),.str kb,.str vb,.int .i64 (.ofNat ct)],73⟩] 7 [6] (fun w L q=>w= .tup [.slice 9 0 (S d) sy,.bool r,.int .i64 0]/\find L 6=some ⟨6,[.int .i64 (.ofNat 2),.str k',.str v',.int .i64 (.ofNat (ct+1))],73⟩/\find L 9=some ⟨9,H d sy,58⟩)from
   raw.weak fun w L q ⟨h1,h2,h3⟩=>⟨fun l=>if l=7 then 9 else l,.tup [.slice 7 0 (S d) sy,.bool r,.int .i64 0],[⟨6,[.int .i64 (.ofNat 2),.str k',.str v',.int .i64 (.ofNat (ct+1))],73⟩,⟨7,H d sy,58⟩],8,by subst h1;exact wkr ⟨rfl,rfl,trivial⟩ ⟨h2,rfl,rfl,rfl,by rw[rcl _ (vD 0)];exact h3,rfl,rfl,vD 8,trivial⟩ rfl rfl rfl,rfl,rfl,rfl⟩
  refine cof hP Tryz.func55 ⟨⟨trivial,blq rfl,blq rfl,blq rfl,blq rfl,blq rfl,blq rfl,trivial⟩,blq rfl,trivial⟩ (by simpa [bdL,bd]using⟨bdb _ (b0 7),bdb _ (b1 7),bdb _ (b2 7),bdb _ (b3 7),bdb _ (b4 7),bdb _ (b5 7)⟩) ?_
  intro A g K hA hg hK
  obtain⟨bin,_,cmp,_,_,_,_,_,_,_,_,_,_,_,_,_,_,_,sub⟩:=A
  have e1:cmp .neq 0 0=false:=(fin hA).1
  have e2:bin .mul .i64 8 (.ofNat z)=Int.ofNat b8:=(fin hA).2.1
  have e3:bin .sub .i64 (.ofNat b8) (.ofNat bits)=Int.ofNat s8:=(fin hA).2.2
  cbv
  refine cro rfl hg rfl rfl hNS _root_.id rfl (ft6 (b0 0) (b1 0) (b2 0) (b3 0) (b4 0) (b5 0) rfl rfl rfl rfl rfl rfl) ?_
  rintro _ _ _ rfl
  refine⟨trivial,trivial,?_⟩
  cbv
  refine cgn rfl hg rfl rfl hGen (fun _=>6) rfl ⟨rfl,trivial⟩ rfl rfl rfl ?_
  rintro _ _ _ ⟨rfl,rfl,rfl⟩ _
  refine⟨rfl,?_⟩
  cbv
  rw[e1]
  cbv
  refine reg_A (hP▸tblOk) hA hg (hP▸mixed) rfl rfl ?_
  cbv
  refine stepD_one rfl hg rfl rfl hRd (vY 0) (fun _ h=>by cases h) _root_.id rfl trivial rfl ?_
  cbv
  rw[e2]
  cbv
  refine stepD (enr rfl hg rfl rfl hBi (fun _=>3) rfl (ftM (b3 0) rfl) (fun _ _ _ h=>h) trivial) ?_
  cbv
  rw[e3]
  cbv
  refine stepD_one rfl hg rfl rfl hSh (vD 0) (by intro b hb;obtain rfl:=List.mem_singleton.1 hb;exact⟨blq rfl,vY 1⟩) (fun _=>8) rfl (ftM (vY 0) rfl) rfl ?_
  cbv
  refine cro rfl hg rfl rfl hGo (fun l=>if l=6 then 9 else l) rfl (ft7 (b0 0) (b1 0) (b2 0) (b3 0) (b4 0) (b5 0) (vD 0) rfl rfl rfl rfl rfl rfl rfl) ?_
  rintro _ _ _ rfl
  refine⟨trivial,trivial,?_⟩
  cbv
  exact hK _ _ _ ⟨rfl,rfl,rfl⟩
end
theorem mkS_res(sz sh N:Nat):∀f (D:Sh.Dr),((mkS sz sh N f D).2.2.1=0/\(mkS sz sh N f D).1≠0/\(mkS sz sh N f D).1<N/\1<=(mkS sz sh N f D).2.1/\(mkS sz sh N f D).2.1<=f)\/(mkS sz sh N f D).2.2.1=2402\/(mkS sz sh N f D).2.2.1=2403
 |0,_=>Or.inr (Or.inr rfl)
 |f+1,D=>by
  unfold mkS
  split
  ·exact Or.inr (Or.inl rfl)
  ·split
   ·rename_i hgood
    exact Or.inl ⟨rfl,hgood.1,hgood.2,Nat.le_refl _,by show 1<=f+1;omega⟩
   ·rcases mkS_res sz sh N f (tryD sz sh D).2 with⟨h1,h2,h3,h4,h5⟩|h|h
    ·exact Or.inl ⟨h1,h2,h3,by show 1<=_+1;omega,by show _+1<=f+1;omega⟩
    ·exact Or.inr (Or.inl h)
    ·exact Or.inr (Or.inr h)
def genN(sz:Nat)(D:Sh.Dr):Nat->Sh.Dr
 |0=>D
 |i+1=>(Sh.generate (genN sz D i) sz []).2
theorem genN_ok(sz:Nat){D:Sh.Dr}(h:Sh.Ok D):∀i,Sh.Ok (genN sz D i)
 |0=>h
 |i+1=>generate_ok (genN_ok sz h i) sz
theorem genN_n(sz:Nat)(D:Sh.Dr):∀i,(genN sz D i).id=D.id/\(genN sz D i).n=D.n+i
 |0=>⟨rfl,rfl⟩
 |i+1=>by
  obtain⟨h1,h2⟩:=genN_n sz D i
  obtain⟨g1,g2⟩:=generate_n (genN sz D i) sz
  exact⟨g1.trans h1,by rw[show(genN sz D (i+1)).n=(genN sz D i).n+1 from g2,h2];omega⟩
end Go.Proofs.YtdhmihfefgcbeaaGreat
