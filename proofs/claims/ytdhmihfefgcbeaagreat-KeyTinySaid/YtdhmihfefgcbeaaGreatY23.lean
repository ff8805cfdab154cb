/-
  This text proves what these texts prove: Jf, Jg, Jh, La, Lb, Lc, Ld, Pz. Conditions: those of each theorem.
-/
import Derived.Test.YtdhmihfefgcbeaaGreatY21
import Derived.Test.YtdhmihfefgcbeaaGreatY22
import Derived.Test.YtdhmihfefgcbeaaGreatY20
set_option maxHeartbeats 8000000
set_option linter.all false
namespace Go.Proofs.YtdhmihfefgcbeaaGreat
open Go.Vg Go.RowKit
set_option maxRecDepth 200000
set_option cbv.maxSteps 100000000
def RO(P:Program)(id:Nat):Prop:=∀ (s dg:ByteArray),s.size<2^40->bl dg=Sh.of id (bl s)->Con P 83 [.int .i64 (.ofNat id),.str s] [] 0 [] (fun v _ _=>v= .str dg)
theorem ro32{P:Program}(hP:P=Tryz.prog){id:Nat}(h:id=1\/id=2):RO P id:=fun s dg hs hd=>by
 rcases h with rfl|rfl
 ·exact cROf32 hP 1 (f8A Sh.i224) (Or.inl ⟨rfl,rfl⟩) (by unfold Sh.ok8;decide) s dg hs hd
 ·exact cROf32 hP 2 (f8A Sh.i256) (Or.inr ⟨rfl,rfl⟩) (by unfold Sh.ok8;decide) s dg hs hd
theorem cRXor{P:Program}(hP:P=Tryz.prog)(id:Nat)(hid:1<=id/\id<=4)(hOf:RO P id)(key r:ByteArray)(x:Nat)(hx:x<256)(hks:key.size<2^40)(hr:bl r=(Sh.key id (bl key)).map (· ^^^x)):
 Con P 84 [.int .i64 (.ofNat id),.str key,.int .u8 (.ofNat x)] [] 0 [] (fun v _ _=>v= .str r):=by
 obtain⟨k,hk⟩:=exq (Sh.blk id)
 have hkb:=Sh.size_blk hid
 rw[<-hk]at hkb
 have hBk:=cRBlock hP id hid k hk
 obtain⟨kz,hkz⟩:=exq key.size
 have hU:=bytesU8 hP
 refine cof hP Tryz.func84 (bdb _ rfl) (bkb rfl) ?_
 intro A g K hA hg hK
 obtain⟨bin,_,cmp,_,_,ix,_,_,_,_,_,_,slen,_,nat,off,get,_,_,spl⟩:=A
 have f0:∀i,i<k->ix (.ofNat i) k=some i:=fun i h=>ix_of hA h
 have f1:∀i,off 0 i 1=i:=fun i=>(off_of hA 0 i 1).trans (by omega)
 have f2:∀i,i<k->cmp .lss (.ofNat i) (.ofNat k)=true:=fun i h=>lss_t hA h
 have f3:cmp .lss (.ofNat k) (.ofNat k)=false:=lss_f hA (by omega)
 have f4:∀i,i<k->bin .add .i64 (.ofNat i) 1=Int.ofNat (i+1):=fun i h=>add_of hA (by omega)
 have f5:nat k=Int.ofNat k:=nat_of hA k
 have e1:slen key=Int.ofNat kz:=(slen_of hA key).trans (by rw[hkz])
 cbv
 rw[e1]
 cbv
 refine cva rfl hg rfl rfl hBk ?_
 rintro _ _ _ rfl
 refine⟨trivial,?_⟩
 by_cases hlong:k<kz
 ·obtain⟨kb,hkbb⟩:∃b,bl b=Sh.of id (bl key):=⟨mkB (Sh.of id (bl key)),bmk (Sh.of_b _ _)⟩
  obtain⟨m,hm⟩:=exq kb.size
  have hmk:m<=k:=by rw[hm,<-bll,hkbb,Sh.of_len hid];exact hkb.1
  have hHo:=hOf key kb hks hkbb
  cbv
  rw[show cmp .gtr (.ofNat kz) (.ofNat k)=true from gtr_t hA hlong]
  cbv
  refine cva rfl hg rfl rfl hHo ?_
  rintro _ _ _ rfl
  refine⟨trivial,?_⟩
  obtain⟨l,hl⟩:=exq (bl kb++List.replicate (k-m) 0)
  have hlk:l=Sh.key id (bl key):=by
   rw[hl];unfold Sh.key;rw[bll,<-hk]
   rw[if_pos (by omega:k<key.size),hkbb,hm,<-bll,hkbb]
  have hll:l.length=k:=by rw[hlk,Sh.key_len hid,hk]
  have hlb:∀i,l.getD i 0<256:=fun i=>by
   rw[List.getD_eq_getElem?_getD]
   cases hq:l[i]? with
   |none=>decide
   |some y=>exact Sh.key_b id (bl key) (bl_lt key) y (by rw[<-hlk];exact List.mem_of_getElem? hq)
  obtain⟨C,hC⟩:=exq (fun i=>by8 (XR l x i):Nat->List SV)
  have bC:∀q i,bdLB q (C i)=true:=fun q i=>by rw[hC];exact by8_bd q _
  have gC:∀i,i<k->get (C i) i=some (.int .u8 (.ofNat (l.getD i 0))):=fun i h=>by
   rw[hC];have:=XR_get (l:=l) (x:=x) (i:=i) (by omega) [];rw[List.append_nil]at this;exact(get_of hA _ _).trans this
  have sC:∀i,i<k->spl (C i) i [.int .u8 (.ofNat (l.getD i 0^^^x))]=some (C (i+1)):=fun i h=>by
   rw[hC]
   refine(spl_of hA (by rw[by8_len,XR_len];omega) _).trans ?_
   have:=XR_set (l:=l) (x:=x) (i:=i) (by omega) []
   rw[List.append_nil,List.append_nil]at this
   rw[this]
  have hC0:bts kb++(List.replicate k (SV.int .u8 0)).drop kb.size=C 0:=by
   rw[hC,<-hm,List.drop_replicate,bts_by8]
   show _=by8 ([].map _++l.drop 0)
   rw[List.drop_zero,hl]
   simp[by8]
  have hCk:((C k).drop 0).take k=bts r:=by
   rw[hC,List.drop_zero]
   show(by8 (XR l x k)).take k=_
   unfold XR
   rw[<-hll,List.take_length,List.drop_length,List.append_nil,List.take_of_length_le (by rw[by8_len,List.length_map];exact Nat.le_refl _),bts_by8,hr,hlk]
  have hrs:r.size=k:=by rw[<-bll,hr,List.length_map,Sh.key_len hid,hk]
  clear hC
  cbv
  refine cva rfl hg rfl rfl hBk ?_
  rintro _ _ _ rfl
  refine⟨trivial,?_⟩
  cbv
  refine smk (hP▸tblOk) hg rfl rfl (show tyT 143=some _ from rfl) rfl (show tyT 5=some _ from rfl) hU rfl rfl rfl (by omega) (by omega) ?_
  obtain⟨Z,hZ⟩:=exq (List.replicate k (SV.int .u8 0):List SV)
  have hZl:Z.length=k:=by rw[hZ,List.length_replicate]
  rw[<-hZ]at hC0⊢
  cbv
  refine step_copy_str (hP▸tblOk) hg rfl rfl (show tyT 143=some _ from rfl) rfl (show ev _ _=some (.slice 0 0 k k)from rfl) (show find _ 0=some _ from rfl) rfl (d:=kb) rfl (by omega) (by omega) ?_
  rw[hC0]
  clear hC0 hZ hZl
  cbv
  refine lpb Nat (fun i=>i<=k) (fun i=>k-i) (fun i=> [(8,.int .i64 (.ofNat i))]) [2,7] (fun i=> [(0,C i)]) 0 (Nat.zero_le _) ?_ ?_
  ·exact wkih (by repeat' (first|exact trivial|refine⟨rfl,rfl,rfl,?_⟩|refine⟨rfl,rfl,bC 1 0,?_⟩))
  intro i hi
  by_cases hlt:i<k
  ·obtain⟨y,hy⟩:=exq (l.getD i 0)
   obtain⟨w,hw⟩:=exq (y^^^x)
   have hx8:bin .xor .u8 (.ofNat y) (.ofNat x)=Int.ofNat w:=(xorW hA rfl (by rw[hy];exact hlb i) hx).trans (by rw[hw])
   have g1:=gC i hlt
   have g2:=sC i hlt
   rw[<-hy]at g1 g2
   rw[<-hw]at g2
   cbv
   rw[f5]
   cbv
   rw[f2 i hlt]
   cbv
   rw[f0 i hlt]
   cbv
   rw[f1 i,g1]
   cbv
   rw[hx8,f0 i hlt]
   cbv
   rw[f1 i,g2]
   cbv
   rw[f4 i hlt]
   refine⟨i+1,_root_.id,hlt,(by show k-(i+1)<k-i;omega),?_⟩
   exact wkih (by repeat' (first|exact trivial|refine⟨rfl,rfl,rfl,?_⟩|refine⟨rfl,rfl,bC 1 (i+1),?_⟩))
  ·obtain rfl:i=k:=by omega
   cbv
   rw[f5]
   cbv
   rw[f3]
   cbv
   refine step_string (hP▸tblOk) hg rfl rfl (show tyT 9=some _ from rfl) rfl (show tyT 143=some _ from rfl) rfl (hP▸Tryz.underlying5) rfl (show find _ 0=some _ from rfl) hCk hrs ?_
   cbv
   exact hK _ _ _ rfl
 ·obtain⟨kb,hkbb⟩:=exq key
  obtain⟨m,hm⟩:=exq kb.size
  have hmk:m<=k:=by rw[hm,hkbb];omega
  rw[<-hkbb]at e1⊢
  cbv
  rw[show cmp .gtr (.ofNat kz) (.ofNat k)=false from gtr_f hA (by omega)]
  obtain⟨l,hl⟩:=exq (bl kb++List.replicate (k-m) 0)
  have hlk:l=Sh.key id (bl key):=by
   rw[hl];unfold Sh.key;rw[bll,<-hk]
   rw[if_neg (by omega:¬k<key.size),hm,hkbb,<-bll]
  have hll:l.length=k:=by rw[hlk,Sh.key_len hid,hk]
  have hlb:∀i,l.getD i 0<256:=fun i=>by
   rw[List.getD_eq_getElem?_getD]
   cases hq:l[i]? with
   |none=>decide
   |some y=>exact Sh.key_b id (bl key) (bl_lt key) y (by rw[<-hlk];exact List.mem_of_getElem? hq)
  obtain⟨C,hC⟩:=exq (fun i=>by8 (XR l x i):Nat->List SV)
  have bC:∀q i,bdLB q (C i)=true:=fun q i=>by rw[hC];exact by8_bd q _
  have gC:∀i,i<k->get (C i) i=some (.int .u8 (.ofNat (l.getD i 0))):=fun i h=>by
   rw[hC];have:=XR_get (l:=l) (x:=x) (i:=i) (by omega) [];rw[List.append_nil]at this;exact(get_of hA _ _).trans this
  have sC:∀i,i<k->spl (C i) i [.int .u8 (.ofNat (l.getD i 0^^^x))]=some (C (i+1)):=fun i h=>by
   rw[hC]
   refine(spl_of hA (by rw[by8_len,XR_len];omega) _).trans ?_
   have:=XR_set (l:=l) (x:=x) (i:=i) (by omega) []
   rw[List.append_nil,List.append_nil]at this
   rw[this]
  have hC0:bts kb++(List.replicate k (SV.int .u8 0)).drop kb.size=C 0:=by
   rw[hC,<-hm,List.drop_replicate,bts_by8]
   show _=by8 ([].map _++l.drop 0)
   rw[List.drop_zero,hl]
   simp[by8]
  have hCk:((C k).drop 0).take k=bts r:=by
   rw[hC,List.drop_zero]
   show(by8 (XR l x k)).take k=_
   unfold XR
   rw[<-hll,List.take_length,List.drop_length,List.append_nil,List.take_of_length_le (by rw[by8_len,List.length_map];exact Nat.le_refl _),bts_by8,hr,hlk]
  have hrs:r.size=k:=by rw[<-bll,hr,List.length_map,Sh.key_len hid,hk]
  clear hC
  cbv
  refine cva rfl hg rfl rfl hBk ?_
  rintro _ _ _ rfl
  refine⟨trivial,?_⟩
  cbv
  refine smk (hP▸tblOk) hg rfl rfl (show tyT 143=some _ from rfl) rfl (show tyT 5=some _ from rfl) hU rfl rfl rfl (by omega) (by omega) ?_
  obtain⟨Z,hZ⟩:=exq (List.replicate k (SV.int .u8 0):List SV)
  have hZl:Z.length=k:=by rw[hZ,List.length_replicate]
  rw[<-hZ]at hC0⊢
  cbv
  refine step_copy_str (hP▸tblOk) hg rfl rfl (show tyT 143=some _ from rfl) rfl (show ev _ _=some (.slice 0 0 k k)from rfl) (show find _ 0=some _ from rfl) rfl (d:=kb) rfl (by omega) (by omega) ?_
  rw[hC0]
  clear hC0 hZ hZl
  cbv
  refine lpb Nat (fun i=>i<=k) (fun i=>k-i) (fun i=> [(8,.int .i64 (.ofNat i))]) [2,7] (fun i=> [(0,C i)]) 0 (Nat.zero_le _) ?_ ?_
  ·exact wkih (by repeat' (first|exact trivial|refine⟨rfl,rfl,rfl,?_⟩|refine⟨rfl,rfl,bC 1 0,?_⟩))
  intro i hi
  by_cases hlt:i<k
  ·obtain⟨y,hy⟩:=exq (l.getD i 0)
   obtain⟨w,hw⟩:=exq (y^^^x)
   have hx8:bin .xor .u8 (.ofNat y) (.ofNat x)=Int.ofNat w:=(xorW hA rfl (by rw[hy];exact hlb i) hx).trans (by rw[hw])
   have g1:=gC i hlt
   have g2:=sC i hlt
   rw[<-hy]at g1 g2
   rw[<-hw]at g2
   cbv
   rw[f5]
   cbv
   rw[f2 i hlt]
   cbv
   rw[f0 i hlt]
   cbv
   rw[f1 i,g1]
   cbv
   rw[hx8,f0 i hlt]
   cbv
   rw[f1 i,g2]
   cbv
   rw[f4 i hlt]
   refine⟨i+1,_root_.id,hlt,(by show k-(i+1)<k-i;omega),?_⟩
   exact wkih (by repeat' (first|exact trivial|refine⟨rfl,rfl,rfl,?_⟩|refine⟨rfl,rfl,bC 1 (i+1),?_⟩))
  ·obtain rfl:i=k:=by omega
   cbv
   rw[f5]
   cbv
   rw[f3]
   cbv
   refine step_string (hP▸tblOk) hg rfl rfl (show tyT 9=some _ from rfl) rfl (show tyT 143=some _ from rfl) rfl (hP▸Tryz.underlying5) rfl (show find _ 0=some _ from rfl) hCk hrs ?_
   cbv
   exact hK _ _ _ rfl
theorem cRHmac{P:Program}(hP:P=Tryz.prog)(id:Nat)(hid:1<=id/\id<=4)(hOf:RO P id)(key msg dg:ByteArray)(hks:key.size<2^40)(hms:msg.size<2^39)(hdg:bl dg=Sh.hmac id (bl key) (bl msg)):
 Con P 54 [.int .i64 (.ofNat id),.str key,.str msg] [] 0 [] (fun v _ _=>v= .str dg):=by
 have hkk:=Sh.key_b id (bl key) (bl_lt key)
 have hkb:=Sh.size_blk hid
 obtain⟨ip,hip⟩:∃b,bl b=(Sh.key id (bl key)).map (· ^^^54):=⟨mkB ((Sh.key id (bl key)).map (· ^^^54)),bmk (Sh.xor_b hkk (by decide))⟩
 obtain⟨ok,hok⟩:∃b,bl b=(Sh.key id (bl key)).map (· ^^^92):=⟨mkB ((Sh.key id (bl key)).map (· ^^^92)),bmk (Sh.xor_b hkk (by decide))⟩
 have his:ip.size<=128:=by rw[<-bll,hip,List.length_map,Sh.key_len hid];omega
 have hos:ok.size<=128:=by rw[<-bll,hok,List.length_map,Sh.key_len hid];omega
 obtain⟨m1,hm1⟩:=exq (ip++msg)
 obtain⟨d1,hd1⟩:∃b,bl b=Sh.of id (bl m1):=⟨mkB (Sh.of id (bl m1)),bmk (Sh.of_b _ _)⟩
 obtain⟨m2,hm2⟩:=exq (ok++d1)
 have hm1s:m1.size=ip.size+msg.size:=by rw[hm1,ByteArray.size_append]
 have hd1s:d1.size=Sh.size id:=by rw[<-bll,hd1,Sh.of_len hid]
 have hm2s:m2.size=ok.size+d1.size:=by rw[hm2,ByteArray.size_append]
 have hXi:=cRXor hP id hid hOf key ip 54 (by decide) hks hip
 have hXo:=cRXor hP id hid hOf key ok 92 (by decide) hks hok
 have hO1:=hOf m1 d1 (by omega) hd1
 have hO2:=hOf m2 dg (by omega) (by rw[hdg,hm2,bl_app,hok,hd1,hm1,bl_app,hip];rfl)
 clear hip hok hd1 hdg hkk
 refine cof hP Tryz.func54 (bdb _ rfl) (bkb rfl) ?_
 intro A g K hA hg hK
 obtain⟨_,_,_,_,_,_,_,_,_,_,scat⟩:=A
 have e1:scat ip msg=some m1:=(scat_of hA (by omega)).trans (by rw[hm1])
 have e2:scat ok d1=some m2:=(scat_of hA (by omega)).trans (by rw[hm2])
 cbv
 refine cva rfl hg rfl rfl hXo ?_
 rintro _ _ _ rfl
 refine⟨trivial,?_⟩
 cbv
 refine cva rfl hg rfl rfl hXi ?_
 rintro _ _ _ rfl
 refine⟨trivial,?_⟩
 cbv
 rw[e1]
 cbv
 refine cva rfl hg rfl rfl hO1 ?_
 rintro _ _ _ rfl
 refine⟨trivial,?_⟩
 cbv
 rw[e2]
 cbv
 refine cva rfl hg rfl rfl hO2 ?_
 rintro _ _ _ rfl
 refine⟨trivial,?_⟩
 cbv
 exact hK _ _ _ rfl
theorem cRUpd{P:Program}(hP:P=Tryz.prog)(id:Nat)(hid:1<=id/\id<=4)(hOf:RO P id)(k v s:ByteArray)(n:Nat)(hks:k.size<=64)(hvs:v.size<=64)(hss:s.size<2^20)(k' v':ByteArray)(hk':bl k'=(Sh.upd ⟨id,bl k,bl v,n⟩ (bl s)).k)(hv':bl v'=(Sh.upd ⟨id,bl k,bl v,n⟩ (bl s)).v):
 Con P 53 [.ptr 0 0,.str s] [⟨0,[.int .i64 (.ofNat id),.str k,.str v,.int .i64 (.ofNat n)],73⟩] 1 [0] (fun w L q=>w= .tup []/\L=[⟨0,[.int .i64 (.ofNat id),.str k',.str v',.int .i64 (.ofNat n)],73⟩]/\q=1):=by
 suffices raw:Con P 53 [.ptr 0 0,.str s] [⟨0,[.int .i64 (.ofNat id),.str k,.str v,.int .i64 (.ofNat n)],73⟩] 1 [0] (fun w L q=>w= .tup []/\find L 0=some ⟨0,[.int .i64 (.ofNat id),.str k',.str v',.int .i64 (.ofNat n)],73⟩)from
  raw.weak fun w L q ⟨h1,h2⟩=>⟨_root_.id,.tup [],_,1,by subst h1;exact weak_id ⟨rfl,rfl,trivial⟩ ⟨h2,rfl,rfl,trivial⟩ rfl rfl,rfl,rfl,rfl⟩
 have hsz:=kvB_sz id hid (bl s) k v hks hvs
 have hu:=fun i hi=>kvB_upd id (bl s) k v n i hi
 have hK1:∀i,bl (kvB id (bl s) k v (i+1)).1=Sh.hmac id (bl (kvB id (bl s) k v i).1) (bl (kvB id (bl s) k v i).2++[i]++bl s):=fun i=>by rw[kvB,bmk (Sh.hmac_b _ _ _)]
 have hV1:∀i,bl (kvB id (bl s) k v (i+1)).2=Sh.hmac id (bl (kvB id (bl s) k v (i+1)).1) (bl (kvB id (bl s) k v i).2):=fun i=>by rw[kvB,bmk (Sh.hmac_b _ _ _)]
 obtain⟨k1,hk1⟩:=exq ((kvB id (bl s) k v 1).1)
 obtain⟨v1,hv1⟩:=exq ((kvB id (bl s) k v 1).2)
 obtain⟨k2,hk2⟩:=exq ((kvB id (bl s) k v 2).1)
 obtain⟨v2,hv2⟩:=exq ((kvB id (bl s) k v 2).2)
 have s1:=hsz 1
 have s2:=hsz 2
 have b1:=hK1 0
 have c1:=hV1 0
 have b2:=hK1 1
 have c2:=hV1 1
 simp only[Nat.zero_add,Nat.reduceAdd]at b1 c1 b2 c2
 rw[<-hk1,<-hv1]at s1
 rw[<-hk2,<-hv2]at s2
 rw[<-hk1]at b1
 rw[<-hk1,<-hv1]at c1
 rw[<-hk1,<-hv1,<-hk2]at b2
 rw[<-hk2,<-hv1,<-hv2]at c2
 have u1:bl s=[]->k1=k'/\v1=v':=fun h=>by
  have:=hu 1 (by rw[if_pos h])
  rw[<-hk1,<-hv1]at this
  exact⟨bl_inj (this.1.trans hk'.symm),bl_inj (this.2.trans hv'.symm)⟩
 have u2:bl s≠ []->k2=k'/\v2=v':=fun h=>by
  have:=hu 2 (by rw[if_neg h])
  rw[<-hk2,<-hv2]at this
  exact⟨bl_inj (this.1.trans hk'.symm),bl_inj (this.2.trans hv'.symm)⟩
 obtain⟨m1,hm1⟩:=exq (v++ByteArray.mk #[0])
 obtain⟨m2,hm2⟩:=exq (m1++s)
 obtain⟨m3,hm3⟩:=exq (v1++ByteArray.mk #[1])
 obtain⟨m4,hm4⟩:=exq (m3++s)
 have z1:m1.size<=65:=by rw[hm1,ByteArray.size_append];show v.size+1<=65;omega
 have z2:m2.size<2^21:=by rw[hm2,ByteArray.size_append];omega
 have z3:m3.size<=65:=by rw[hm3,ByteArray.size_append];show v1.size+1<=65;omega
 have z4:m4.size<2^21:=by rw[hm4,ByteArray.size_append];omega
 have hA1:=cRHmac hP id hid hOf k m2 k1 (by omega) (by omega) (by rw[b1,hm2,bl_app,hm1,bl_app];rfl)
 have hB1:=cRHmac hP id hid hOf k1 v v1 (by omega) (by omega) c1
 have hA2:=cRHmac hP id hid hOf k1 m4 k2 (by omega) (by omega) (by rw[b2,hm4,bl_app,hm3,bl_app];rfl)
 have hB2:=cRHmac hP id hid hOf k2 v1 v2 (by omega) (by omega) c2
 clear hu hK1 hV1 hk1 hv1 hk2 hv2 b1 c1 b2 c2 hsz hk' hv'
 refine cof hP Tryz.func53 ⟨(by show 0<1;decide),trivial,trivial⟩ (bkb rfl) ?_
 intro A g K hA hg hK
 obtain⟨_,_,_,_,_,_,_,_,_,_,scat,scmp⟩:=A
 have e1:scat v (ByteArray.mk #[0])=some m1:=(scat_of hA (by show v.size+1<_;omega)).trans (by rw[hm1])
 have e2:scat m1 s=some m2:=(scat_of hA (by omega)).trans (by rw[hm2])
 have e3:scat v1 (ByteArray.mk #[1])=some m3:=(scat_of hA (by show v1.size+1<_;omega)).trans (by rw[hm3])
 have e4:scat m3 s=some m4:=(scat_of hA (by omega)).trans (by rw[hm4])
 have f6:scmp .neq s (ByteArray.mk #[])= !decide (bl s=[]):=by
  have e:scmp=Ar.real.scmp:=congrArg Ar.scmp hA
  rw[e]
  exact strCmp_nilN s
 cbv
 refine reg_A (hP▸tblOk) hA hg (hP▸mixed) rfl rfl ?_
 cbv
 rw[e1]
 cbv
 rw[e2]
 cbv
 refine sdv hg hA1 ?_
 cbv
 refine reg_A (hP▸tblOk) hA hg (hP▸mixed) rfl rfl ?_
 cbv
 refine sdv hg hB1 ?_
 cbv
 rw[f6]
 by_cases hs:bl s=[]
 ·rw[decide_eq_true hs]
  cbv
  exact hK _ _ _ ⟨rfl,by rw[<-(u1 hs).1,<-(u1 hs).2];rfl⟩
 ·rw[decide_eq_false hs]
  cbv
  refine reg_A (hP▸tblOk) hA hg (hP▸mixed) rfl rfl ?_
  cbv
  rw[e3]
  cbv
  rw[e4]
  cbv
  refine sdv hg hA2 ?_
  cbv
  refine reg_A (hP▸tblOk) hA hg (hP▸mixed) rfl rfl ?_
  cbv
  refine sdv hg hB2 ?_
  cbv
  exact hK _ _ _ ⟨rfl,by rw[<-(u2 hs).1,<-(u2 hs).2];rfl⟩
theorem cRNew{P:Program}(hP:P=Tryz.prog)(id:Nat)(hid:1<=id/\id<=4)(hOf:RO P id)(e a b:ByteArray)(he:Sh.size id<=2*e.size/\e.size<=256)(ha:a.size<=256)(hb:b.size<=256)(k v:ByteArray)(hk:bl k=(Sh.new id (bl e++bl a++bl b)).k)(hv:bl v=(Sh.new id (bl e++bl a++bl b)).v):
 Con P 47 [.int .i64 (.ofNat id),.str e,.str a,.str b] [] 0 [] (fun w L q=>w= .tup [.ptr 0 0,.int .i64 0]/\L=[⟨0,[.int .i64 (.ofNat id),.str k,.str v,.int .i64 1],73⟩]/\q=1):=by
 obtain⟨z,hz⟩:=exq (Sh.size id)
 have hzb:=Sh.size_blk hid
 rw[<-hz]at hzb he
 have hS:=cRSize hP id hid z hz
 obtain⟨k0,hk0⟩:∃b,bl b=List.replicate z 0:=⟨mkB (List.replicate z 0),bmk fun x hx=>by rw[(List.mem_replicate.1 hx).2];decide⟩
 obtain⟨v0,hv0⟩:∃b,bl b=List.replicate z 1:=⟨mkB (List.replicate z 1),bmk fun x hx=>by rw[(List.mem_replicate.1 hx).2];decide⟩
 have hk0s:k0.size=z:=by rw[<-bll,hk0,List.length_replicate]
 have hv0s:v0.size=z:=by rw[<-bll,hv0,List.length_replicate]
 have hR0:=cSame hP z 0 (by decide) (by omega) k0 hk0
 have hR1:=cSame hP z 1 (by decide) (by omega) v0 hv0
 obtain⟨m1,hm1⟩:=exq (e++a)
 obtain⟨m2,hm2⟩:=exq (m1++b)
 have hm1s:m1.size=e.size+a.size:=by rw[hm1,ByteArray.size_append]
 have hm2s:m2.size=m1.size+b.size:=by rw[hm2,ByteArray.size_append]
 have hm2b:bl m2=bl e++bl a++bl b:=by rw[hm2,bl_app,hm1,bl_app]
 have hU:Con P 53 [.ptr 0 0,.str m2] [⟨0,[.int .i64 (.ofNat id),.str k0,.str v0,.int .i64 1],73⟩] 1 [0] (fun w L q=>w= .tup []/\L=[⟨0,[.int .i64 (.ofNat id),.str k,.str v,.int .i64 1],73⟩]/\q=1):=
  cRUpd hP id hid hOf k0 v0 m2 1 (by omega) (by omega) (by omega) k v (by rw[hk,hm2b,hk0,hv0,hz];rfl) (by rw[hv,hm2b,hk0,hv0,hz];rfl)
 suffices raw:Con P 47 [.int .i64 (.ofNat id),.str e,.str a,.str b] [] 0 [] (fun w L q=>∃l,w= .tup [.ptr l 0,.int .i64 0]/\find L l=some ⟨l,[.int .i64 (.ofNat id),.str k,.str v,.int .i64 1],73⟩)from
  raw.weak fun w L q ⟨l,h1,h2⟩=>⟨fun _=>l,.tup [.ptr 0 0,.int .i64 0],_,1,by subst h1;exact wkr ⟨rfl,rfl,trivial⟩ ⟨h2,rfl,rfl,rfl,trivial⟩ rfl rfl rfl,rfl,rfl,rfl⟩
 clear hk hv hk0 hv0
 obtain⟨ez,hez⟩:=exq e.size
 obtain⟨az,haz⟩:=exq a.size
 obtain⟨bz,hbz⟩:=exq b.size
 obtain⟨e2,he2⟩:=exq (2*ez)
 refine cof hP Tryz.func47 (bdb _ rfl) (bkb rfl) ?_
 intro A g K hA hg hK
 obtain⟨bin,_,cmp,_,_,_,_,_,_,_,scat,_,slen⟩:=A
 have g1:cmp .eql (.ofNat z) 0=false:=eql_f hA (a:=z) (b:=0) (by omega)
 have g2:scat e a=some m1:=(scat_of hA (by omega)).trans (by rw[hm1])
 have g3:scat m1 b=some m2:=(scat_of hA (by omega)).trans (by rw[hm2])
 have s1:slen e=Int.ofNat ez:=(slen_of hA e).trans (by rw[hez])
 have s2:slen a=Int.ofNat az:=(slen_of hA a).trans (by rw[haz])
 have s3:slen b=Int.ofNat bz:=(slen_of hA b).trans (by rw[hbz])
 have g4:bin .mul .i64 2 (.ofNat ez)=Int.ofNat e2:=(mulI hA (a:=2) (b:=ez) (by omega)).trans (by rw[he2])
 have g5:cmp .lss (.ofNat e2) (.ofNat z)=false:=lss_f hA (by omega)
 have g6:∀x,x<=256->cmp .gtr (.ofNat x) 256=false:=fun x h=>gtr_f hA (a:=x) (b:=256) (by omega)
 have g7:=g6 ez (by omega)
 have g8:=g6 az (by omega)
 have g9:=g6 bz (by omega)
 cbv
 refine cva rfl hg rfl rfl hS ?_
 rintro _ _ _ rfl
 refine⟨trivial,?_⟩
 cbv
 rw[g1]
 cbv
 rw[s1]
 cbv
 rw[g4]
 cbv
 refine cva rfl hg rfl rfl hS ?_
 rintro _ _ _ rfl
 refine⟨trivial,?_⟩
 cbv
 rw[g5]
 cbv
 rw[s1]
 cbv
 rw[g7]
 cbv
 rw[s2]
 cbv
 rw[g8]
 cbv
 rw[s3]
 cbv
 rw[g9]
 cbv
 refine cva rfl hg rfl rfl hS ?_
 rintro _ _ _ rfl
 refine⟨trivial,?_⟩
 cbv
 refine cva rfl hg rfl rfl hR0 ?_
 rintro _ _ _ rfl
 refine⟨trivial,?_⟩
 cbv
 refine cva rfl hg rfl rfl hS ?_
 rintro _ _ _ rfl
 refine⟨trivial,?_⟩
 cbv
 refine cva rfl hg rfl rfl hR1 ?_
 rintro _ _ _ rfl
 refine⟨trivial,?_⟩
 cbv
 rw[g2]
 cbv
 rw[g3]
 cbv
 refine cgn rfl hg rfl rfl hU (fun _=>0) rfl ⟨rfl,trivial⟩ rfl rfl rfl ?_
 rintro _ _ _ ⟨rfl,rfl,rfl⟩ _
 refine⟨rfl,?_⟩
 cbv
 exact hK _ _ _ ⟨0,rfl,rfl⟩
theorem cNum{P:Program}(hP:P=Tryz.prog)(x:Int):Con P 14 [.int .i64 x] [] 0 [] (fun v _ _=>v= .int .i64 x):=by
 refine cof hP Tryz.func14 (bdb _ rfl) (bkb rfl) ?_
 intro A g K hA hg hK
 cases A
 cbv
 exact hK _ _ _ rfl
theorem cOne{P:Program}(hP:P=Tryz.prog)(x:Nat)(r:Nat->Nat)(hr:r=fun j=>if j=0 then x else 0):Con P 26 [.int .u64 (.ofNat x)] [] 0 [] (fun v _ _=>v= .agg (ws r 9)):=by
 have e:ws r 9=[.int .u64 (.ofNat x),.int .u64 0,.int .u64 0,.int .u64 0,.int .u64 0,.int .u64 0,.int .u64 0,.int .u64 0,.int .u64 0]:=by rw[hr];rfl
 rw[e]
 clear hr e
 refine cof hP Tryz.func26 (bdb _ rfl) (bkb rfl) ?_
 intro A g K hA hg hK
 cases A
 cbv
 exact hK _ _ _ rfl
def seedL(l:List Nat):List Nat:=(l++[48,49,50,51,52,53,54,55,56,57,97,98,99,100,101,102]).take 200
theorem cSeeded{P:Program}(hP:P=Tryz.prog)(s k v:ByteArray)(hs:s.size<2^62)(hk:bl k=(Sh.new 2 (seedL (bl s))).k)(hv:bl v=(Sh.new 2 (seedL (bl s))).v):
 Con P 20 [.str s] [] 0 [] (fun w L q=>w= .tup [.ptr 0 0,.ptr 1 0,.bool true]/\L=[⟨0,[.int .i64 (.ofNat 2),.str k,.str v,.int .i64 1],100⟩,⟨1,[.int .i64 (.ofNat 2),.str k,.str v,.int .i64 1],73⟩]/\q=2):=by
 obtain⟨lit,hlit⟩:=exq (⟨#[48,49,50,51,52,53,54,55,56,57,97,98,99,100,101,102]⟩:ByteArray)
 have hlb:bl lit=[48,49,50,51,52,53,54,55,56,57,97,98,99,100,101,102]:=by rw[hlit];rfl
 have hls:lit.size=16:=by rw[hlit];rfl
 obtain⟨t,ht⟩:=exq (s++lit)
 have hts:t.size=s.size+16:=by rw[ht,ByteArray.size_append,hls]
 have htb:bl t=bl s++[48,49,50,51,52,53,54,55,56,57,97,98,99,100,101,102]:=by rw[ht,bl_app,hlb]
 obtain⟨u,hu⟩:=exq (t.extract 0 200)
 have hub:bl u=seedL (bl s):=by rw[hu,bl_extract,htb];rfl
 have hus:16<=u.size/\u.size<=200:=by
  rw[<-bll,hu,bl_extract,List.length_take,bll,hts];omega
 have hN:Con P 46 [.int .i64 (.ofNat 2),.str u,.str ⟨#[]⟩,.str ⟨#[]⟩] [] 0 [] _:=cDNew hP 2 (by decide) u ⟨#[]⟩ ⟨#[]⟩ ⟨by show 16<=_;omega,by omega⟩ (by decide) (by decide) k v (by rw[hk,hub];show _=(Sh.new 2 (seedL (bl s)++[]++[])).k;rw[List.append_nil,List.append_nil]) (by rw[hv,hub];show _=(Sh.new 2 (seedL (bl s)++[]++[])).v;rw[List.append_nil,List.append_nil])
 have hR:Con P 47 [.int .i64 (.ofNat 2),.str u,.str ⟨#[]⟩,.str ⟨#[]⟩] [] 0 [] _:=cRNew hP 2 (by decide) (ro32 hP (Or.inr rfl)) u ⟨#[]⟩ ⟨#[]⟩ ⟨by show 32<=_;omega,by omega⟩ (by decide) (by decide) k v (by rw[hk,hub];show _=(Sh.new 2 (seedL (bl s)++[]++[])).k;rw[List.append_nil,List.append_nil]) (by rw[hv,hub];show _=(Sh.new 2 (seedL (bl s)++[]++[])).v;rw[List.append_nil,List.append_nil])
 have hNu:=cNum hP 0
 obtain⟨tz,htz⟩:=exq t.size
 clear hk hv hub hlb
 refine cof hP Tryz.func20 (bdb _ rfl) (bkb rfl) ?_
 intro A g K hA hg hK
 obtain⟨_,_,cmp,_,_,_,_,_,_,_,scat,_,slen⟩:=A
 have e1:scat s ⟨#[48,49,50,51,52,53,54,55,56,57,97,98,99,100,101,102]⟩=some t:=by
  rw[<-hlit];exact(scat_of hA (by omega)).trans (by rw[ht])
 have e2:slen t=Int.ofNat tz:=(slen_of hA t).trans (by rw[htz])
 have e3:cmp .eql 0 0=true:=eql_t hA (a:=0) (b:=0) rfl
 cbv
 rw[e1]
 cbv
 rw[e2]
 by_cases hlong:200<tz
 ·have hSl:SlR P 9 (.str t) none (some (.i64,200)) (.str u):=by
   rw[hu];exact slr_str (hP▸tblOk) (show tyT 9=some _ from rfl) rfl t (j:=200) (by omega)
  cbv
  rw[show cmp .gtr (.ofNat tz) 200=true from gtr_t hA (a:=tz) (b:=200) hlong]
  cbv
  refine ssl hg rfl rfl rfl rfl rfl hSl ?_
  cbv
  refine cgn rfl hg rfl rfl hN _root_.id rfl trivial rfl rfl rfl ?_
  rintro _ _ _ ⟨rfl,rfl,rfl⟩ _
  refine⟨rfl,?_⟩
  cbv
  refine cgn rfl hg rfl rfl hR _root_.id rfl trivial rfl rfl rfl ?_
  rintro _ _ _ ⟨rfl,rfl,rfl⟩ _
  refine⟨rfl,?_⟩
  cbv
  refine cva rfl hg rfl rfl hNu ?_
  rintro _ _ _ rfl
  refine⟨trivial,?_⟩
  cbv
  rw[e3]
  cbv
  rw[e3]
  cbv
  exact hK _ _ _ ⟨rfl,rfl,rfl⟩
 ·obtain rfl:t=u:=by
   rw[hu];exact bl_inj (by rw[bl_extract,List.take_of_length_le (by rw[bll];omega)])
  cbv
  rw[show cmp .gtr (.ofNat tz) 200=false from gtr_f hA (a:=tz) (b:=200) hlong]
  cbv
  refine cgn rfl hg rfl rfl hN _root_.id rfl trivial rfl rfl rfl ?_
  rintro _ _ _ ⟨rfl,rfl,rfl⟩ _
  refine⟨rfl,?_⟩
  cbv
  refine cgn rfl hg rfl rfl hR _root_.id rfl trivial rfl rfl rfl ?_
  rintro _ _ _ ⟨rfl,rfl,rfl⟩ _
  refine⟨rfl,?_⟩
  cbv
  refine cva rfl hg rfl rfl hNu ?_
  rintro _ _ _ rfl
  refine⟨trivial,?_⟩
  cbv
  rw[e3]
  cbv
  rw[e3]
  cbv
  exact hK _ _ _ ⟨rfl,rfl,rfl⟩
def awD:Sh.Dr:=Sh.new 2 (seedL [101])
theorem awR:(mkS 1 0 223 64 awD).1=141/\(mkS 1 0 223 64 awD).2.1=1/\(mkS 1 0 223 64 awD).2.2.1=0:=by decide +kernel
def sm(x j:Nat):Nat:=if j=0 then x else 0
theorem sm_V(x:Nat):V 9 (sm x)=x:=by
 have:∀n,V (n+1) (sm x)=x:=fun n=>by
  induction n with
  |zero=>show 0+x*0x10000000000000000^0=x;omega
  |succ n ih=>
   show V (n+1) (sm x)+0*_=x
   rw[ih,Nat.zero_mul,Nat.add_zero]
 exact this 8
theorem sm_W{x:Nat}(h:x<0x10000000000000000):Wn 9 (sm x):=fun j _=>by
 unfold sm;split
 ·exact h
 ·decide
theorem awP:ptx (EC.G 13)=2/\pty (EC.G 13)=84/\ptinf (EC.G 13)=false:=by decide +kernel
theorem awN:EC.cn 13=223:=by decide +kernel
def valsP(f g:Nat->Nat)(b:Bool):Array Value:= #[.int .u64 (.ofNat (f 0)),.int .u64 (.ofNat (f 1)),.int .u64 (.ofNat (f 2)),.int .u64 (.ofNat (f 3)),.int .u64 (.ofNat (f 4)),.int .u64 (.ofNat (f 5)),.int .u64 (.ofNat (f 6)),.int .u64 (.ofNat (f 7)),.int .u64 (.ofNat (f 8)),.int .u64 (.ofNat (g 0)),.int .u64 (.ofNat (g 1)),.int .u64 (.ofNat (g 2)),.int .u64 (.ofNat (g 3)),.int .u64 (.ofNat (g 4)),.int .u64 (.ofNat (g 5)),.int .u64 (.ofNat (g 6)),.int .u64 (.ofNat (g 7)),.int .u64 (.ofNat (g 8)),.bool b]
theorem eq_natD(f g:Nat->Nat)(d:Nat)(w:World):(Op.equalIn (d+3) 25 (.agg (vals9 f)) (.agg (vals9 g))).run Tryz.prog w= .ok (eq9 f g) w:=by
 rw[run_equalIn_struct w (d+2) 25 _ _ (by kernel_rfl) (by kernel_rfl)]
 have hf:(Tryz.prog.fieldsOf 25).toList=[{name:= "W",type:=23,offset:=0,embedded:=false,tag:= "",pkgPath:= "",byteOffset:=0}]:=by kernel_rfl
 have hp:∀h:Nat->Nat,(part 23 (vals9 h) 0).run Tryz.prog w= .ok (.agg (vals9 h)) w:=fun h=>by kernel_rfl
 rw[hf]
 simp only[Op.eqFields,Sem.run_bind,Sem.run_ite,hp,Result.andThen_ok,eq_words9 f g d w]
 cases eq9 f g<;>rfl
theorem eq_pt(f g:Nat->Nat)(b:Bool)(f' g':Nat->Nat)(b':Bool)(w:World):(Op.equalIn 10000 35 (.agg (valsP f g b)) (.agg (valsP f' g' b'))).run Tryz.prog w= .ok (eq9 f f'&&eq9 g g'&&(b==b')) w:=by
 rw[run_equalIn_struct w 9999 35 _ _ (by kernel_rfl) (by kernel_rfl)]
 have hf:(Tryz.prog.fieldsOf 35).toList=[{name:= "X",type:=25,offset:=0,embedded:=false,tag:= "",pkgPath:= "",byteOffset:=0},{name:= "Y",type:=25,offset:=9,embedded:=false,tag:= "",pkgPath:= "",byteOffset:=72},{name:= "Inf",type:=4,offset:=18,embedded:=false,tag:= "",pkgPath:= "",byteOffset:=144}]:=by kernel_rfl
 have h1:∀f g b,(part 25 (valsP f g b) 0).run Tryz.prog w= .ok (.agg (vals9 f)) w:=fun f g b=>by kernel_rfl
 have h2:∀f g b,(part 25 (valsP f g b) 9).run Tryz.prog w= .ok (.agg (vals9 g)) w:=fun f g b=>by kernel_rfl
 have h3:∀f g b,(part 4 (valsP f g b) 18).run Tryz.prog w= .ok (.bool b) w:=fun f g b=>by kernel_rfl
 rw[hf]
 simp only[Op.eqFields,Sem.run_bind,Sem.run_ite,h1,h2,h3,Result.andThen_ok,eq_natD _ _ 9996 w,eqIn_bool (d:=9998) (show Tryz.prog.underlying 4=some .bool by kernel_rfl)]
 cases eq9 f f'<;>cases eq9 g g'<;>cases b==b'<;>rfl
theorem en_cmp_pt{P:Program}(hP:P=Tryz.prog){g:G}{o:Oper}{x y:Operand}{yt:TypeId}{N m0:Nat}{ms:List Nat}(hg:GI g m0 ms N)(hd':dstLt N o.dst=true){F:Nat->Option SV}{M:Nat->Option Blk}{f h f' h':Nat->Nat}{b b' r:Bool}
 (ho:o.op= .binOp .eql 35 x y yt) (hr:r=(eq9 f f'&&eq9 h h'&&(b==b')))
 (hx:ev F x=some (.agg (ptS f h b))) (hy:ev F y=some (.agg (ptS f' h' b'))):EN g P o F M (.bool r) []:=by
 subst hP
 refine en_out hg hd' fun β p F' L' act W hF hM hm hf=> ?_
 have E:∀z∈o.op.operands.toList,ev F' z=ev F z:=fun z hz=>ev_congr fun t ht=>hF t (tmpsL_mem hz ht)
 have h4:Tryz.prog.eqGuardType Tryz.prog.depth 35=false:=by kernel_rfl
 rw[ho]at E
 obtain⟨e1,_⟩:=evd hf ((E x (by simp[Op.operands])).trans hx)
 obtain⟨e2,_⟩:=evd hf ((E y (by simp[Op.operands])).trans hy)
 refine⟨?_,trivial⟩
 have h1:act.eval x= .agg (valsP f h b):=e1
 have h2:act.eval y= .agg (valsP f' h' b'):=e2
 have h3:∀xs ys,(eqGuard .eql 35 x y (.agg xs) (.agg ys)).run Tryz.prog W= .ok () W:=fun xs ys=>run_eqGuard_agg W .eql 35 x y xs ys h4
 unfold execOp
 simp only[ho,h1,h2,Sem.run_bind,h3,Result.andThen_ok,run_eql_struct,eq_pt,Sem.run_pure,den,hr]
theorem awD_eq:(⟨2,awD.k,awD.v,1⟩:Sh.Dr)=awD:=by
 have h1:awD.id=2:=Sh.upd_id _ _
 have h2:awD.n=1:=Sh.upd_n _ _
 generalize awD=D at h1 h2
 cases D
 simp only at h1 h2
 subst h1 h2
 rfl
theorem awOk:Sh.Ok awD:=Sh.Ok.new (by decide) _
theorem cAwake{P:Program}(hP:P=Tryz.prog):Con P 15 [] [] 0 [] (fun v _ _=>v= .bool true):=by
 have hid:awD.id=2:=Sh.upd_id _ _
 obtain⟨k0,hk0⟩:∃b,bl b=awD.k:=⟨mkB awD.k,bmk awOk.kb⟩
 obtain⟨v0,hv0⟩:∃b,bl b=awD.v:=⟨mkB awD.v,bmk awOk.vb⟩
 have hks:k0.size=Sh.size 2:=by rw[<-bll,hk0,awOk.kl,hid]
 have hvs:v0.size=Sh.size 2:=by rw[<-bll,hv0,awOk.vl,hid]
 have hSe:=cSeeded hP ⟨#[101]⟩ k0 v0 (by decide) hk0 hv0
 obtain⟨d,k',v',wd,vd,_,_,_,_,_,_,hMk⟩:=cMake hP 13 (by decide) 8 1 0 223 (by unfold IsBl;decide) awN.symm (by decide) rfl rfl 2 (by decide) k0 v0 1 hks hvs (by decide) (mkS 1 0 223 64 awD) (by rw[hk0,hv0,awD_eq])
 obtain⟨r1,r2,r3⟩:=awR
 rw[r1]at vd
 rw[r2,r3]at hMk
 obtain⟨nr,hnr⟩:=exq ((mkS 1 0 223 64 awD).2.2.2.n)
 rw[<-hnr]at hMk
 obtain⟨a1,ha1⟩:=exq (sm 1)
 obtain⟨a2,ha2⟩:=exq (sm 2)
 obtain⟨a84,ha84⟩:=exq (sm 84)
 obtain⟨a223,ha223⟩:=exq (sm 223)
 have w1:Wn 9 a1:=by rw[ha1];exact sm_W (by decide)
 have w2:Wn 9 a2:=by rw[ha2];exact sm_W (by decide)
 have w84:Wn 9 a84:=by rw[ha84];exact sm_W (by decide)
 have w223:Wn 9 a223:=by rw[ha223];exact sm_W (by decide)
 have v1:V 9 a1=1:=by rw[ha1];exact sm_V 1
 have v2:V 9 a2=2:=by rw[ha2];exact sm_V 2
 have v84:V 9 a84=84:=by rw[ha84];exact sm_V 84
 have v223:V 9 a223=223:=by rw[ha223];exact sm_V 223
 have hO1:=cOne hP 1 a1 ha1
 have hO2:=cOne hP 2 a2 ha2
 have hO84:=cOne hP 84 a84 ha84
 have hO223:=cOne hP 223 a223 ha223
 have hCk:=cCheck hP 13 (by decide) a223 w223 2401 (by rw[v223,awN];rfl)
 have hPt:PtW 13 (EC.smul EC.finv (EC.ca 13) (V 9 a1) (EC.G 13)) a2 a84 false:=by
  rw[v1,show EC.smul EC.finv (EC.ca 13) 1 (EC.G 13)=EC.G 13 from rfl]
  exact⟨w2,w84,v2.trans awP.1.symm,v84.trans awP.2.1.symm,awP.2.2.symm⟩
 have hPu:=cPublic hP 13 (by decide) a1 w1 (by rw[v1,awN];decide) hPt
 have hMn:=cMakeN hP 13 (by decide)
 have hC0:=cCheck0 hP 0 rfl a1
 have hN:=fun x=>cNum hP x
 have q1:(!eq9 d (fun _=>0))=true:=by
  rw[eq9_V wd (fun _ _=>by show 0<0x10000000000000000;decide),vd];rfl
 have q2:∀f,eq9 f f=true:=fun f=>by simp[eq9]
 clear ha1 ha2 ha84 ha223 hk0 hv0 hnr hPt vd
 refine cof hP Tryz.func15 (bdb _ rfl) (bkb rfl) ?_
 intro A g K hA hg hK
 obtain⟨_,_,cmp,_,_,_,_,_,bnot⟩:=A
 have e1:bnot true=false:=bnot_of hA true
 cbv
 refine cgn rfl hg rfl rfl hSe _root_.id rfl trivial rfl rfl rfl ?_
 rintro _ _ _ ⟨rfl,rfl,rfl⟩ _
 refine⟨rfl,?_⟩
 cbv
 rw[e1]
 cbv
 refine cgn rfl hg rfl rfl hMk (fun _=>0) rfl ⟨rfl,trivial⟩ rfl rfl rfl ?_
 rintro _ _ _ ⟨rfl,rfl,rfl⟩ _
 refine⟨rfl,?_⟩
 cbv
 refine cva rfl hg rfl rfl hO223 ?_
 rintro _ _ _ rfl
 refine⟨by simp[bd,bdL,ws,lst],?_⟩
 cbv
 refine cva rfl hg rfl rfl hCk ?_
 rintro _ _ _ rfl
 refine⟨trivial,?_⟩
 cbv
 refine cva rfl hg rfl rfl hO1 ?_
 rintro _ _ _ rfl
 refine⟨by simp[bd,bdL,ws,lst],?_⟩
 cbv
 refine cva rfl hg rfl rfl hPu ?_
 rintro _ _ _ rfl
 refine⟨by simp[bd,bdL,ptS,ws,lst],?_⟩
 cbv
 refine cva rfl hg rfl rfl hMn ?_
 rintro _ _ _ rfl
 refine⟨by simp[bd,bdL,ws,lst],?_⟩
 cbv
 refine cva rfl hg rfl rfl hO1 ?_
 rintro _ _ _ rfl
 refine⟨by simp[bd,bdL,ws,lst],?_⟩
 cbv
 refine cva rfl hg rfl rfl hC0 ?_
 rintro _ _ _ rfl
 refine⟨trivial,?_⟩
 have t0:cmp .eql 0 0=true:=eql_t hA (a:=0) (b:=0) rfl
 have t1:cmp .eql 1 1=true:=eql_t hA (a:=1) (b:=1) rfl
 have t2:cmp .eql 2401 2401=true:=eql_t hA (a:=2401) (b:=2401) rfl
 have t3:cmp .eql 2400 2400=true:=eql_t hA (a:=2400) (b:=2400) rfl
 have t4:cmp .geq (.ofNat 1) 1=true:=geq_t hA (a:=1) (b:=1) (by decide)
 have t5:cmp .eql (.ofNat 0) 0=true:=t0
 have t6:cmp .eql (.ofNat 1) 1=true:=t1
 cbv
 refine reg_A (hP▸tblOk) hA hg (hP▸mixed) rfl rfl ?_
 cbv
 refine sdv hg (hN 0) ?_
 cbv
 rw[t0]
 cbv
 rw[t4]
 cbv
 refine stepD (en_cmp_nat hP hg rfl (a:=d) (b:=fun _=>0) (r:=true) (Or.inl ⟨rfl,q1.symm⟩) rfl rfl) ?_
 cbv
 refine sdv hg (hN 2401) ?_
 cbv
 rw[t2]
 cbv
 refine stepD (en_val rfl hg rfl rfl hO2 (fun _ _ _ h=>h) (by simp[bd,bdL,ws,lst])) ?_
 cbv
 refine stepD (en_val rfl hg rfl rfl hO84 (fun _ _ _ h=>h) (by simp[bd,bdL,ws,lst])) ?_
 cbv
 refine stepD (en_cmp_pt hP hg rfl (f:=a2) (h:=a84) (b:=false) (f':=a2) (h':=a84) (b':=false) (r:=true) rfl (by rw[q2,q2];rfl) rfl rfl) ?_
 cbv
 refine sdv hg (hN 0) ?_
 cbv
 rw[t0]
 cbv
 refine sdv hg (hN 1) ?_
 cbv
 rw[t1]
 cbv
 refine sdv hg (hN 2400) ?_
 cbv
 rw[t3]
 cbv
 exact hK _ _ _ rfl
theorem wrap_u64(x:Int):0<=IntKind.u64.wrap x/\IntKind.u64.wrap x<0x10000000000000000:=by
 simp only[IntKind.wrap,IntKind.bits,IntKind.signed]
 simp
 omega
theorem rem_at(x:Int)(m:Nat)(hm:0<m):∃k:Nat,k<m/\intBin .rem .u64 (IntKind.u64.wrap x) (Int.ofNat m)=Int.ofNat k:=by
 obtain⟨h0,_⟩:=wrap_u64 x
 obtain⟨w,hw⟩:=Int.eq_ofNat_of_zero_le h0
 refine⟨w%m,Nat.mod_lt _ hm,?_⟩
 rw[hw]
 rfl
end Go.Proofs.YtdhmihfefgcbeaaGreat
namespace EC
open Pr
theorem smul_cong(id:Nat){m m':Nat}(h:m%cn id=m'%cn id):smul finv (ca id) m (G id)=smul finv (ca id) m' (G id):=by
 rw[<-smul_mod (okc id) (G_on id) (nG id) m,h,smul_mod (okc id) (G_on id) (nG id)]
theorem smul_ne_O(id:Nat){f:Nat}(h0:0<f)(h1:f<cn id):smul finv (ca id) f (G id)≠ .O:=by
 intro h
 have hp:=prime_cn id
 have hnd:¬cn id∣f:=fun hd=>absurd (Nat.le_of_dvd h0 hd) (by omega)
 have h2:f^(cn id-1)%cn id=1:=flt1 hp hnd
 have hp2:=hp.1
 rw[show cn id-1=(cn id-2)+1 by omega,Nat.pow_succ,Nat.mul_comm]at h2
 have h4:smul finv (ca id) (f*f^(cn id-2)) (G id)= .O:=by rw[smul_mul (okc id) (G_on id),h,smul_O]
 rw[smul_cong id (m':=1) (by rw[h2,Nat.mod_eq_of_lt (show 1<cn id by omega)])]at h4
 have h5:smul finv (ca id) 1 (G id)=G id:=rfl
 rw[h5]at h4
 cases h4
theorem smul_inj(id:Nat){d e:Nat}(hd:d<e)(he:e<cn id):smul finv (ca id) d (G id)≠smul finv (ca id) e (G id):=by
 intro h
 have h1:=smul_add (okc id) (G_on id) e (cn id-d)
 rw[<-h,<-smul_add (okc id) (G_on id) d (cn id-d),show d+(cn id-d)=cn id by omega,nG]at h1
 rw[smul_cong id (m':=e-d) (by rw[show e+(cn id-d)=(e-d)+cn id by omega,Nat.add_mod_right])]at h1
 exact smul_ne_O id (by omega) (by omega) h1
theorem tiny0:((List.range 3).all fun k=>decide (cp (13+k)<256)&&decide (cn (13+k)<300))=true:=by decide +kernel
theorem tiny{k:Nat}(h:k<3):cp (13+k)<256/\cn (13+k)<300:=by
 have:=List.all_eq_true.1 tiny0 k (List.mem_range.2 h)
 simpa using this
end EC
namespace Go.Proofs.YtdhmihfefgcbeaaGreat
open Go.Vg Go.RowKit
set_option maxRecDepth 200000
set_option cbv.maxSteps 100000000
def tAt(c d:Nat):Nat:=ptx (EC.smul EC.finv (EC.ca c) d (EC.G c))*256+pty (EC.smul EC.finv (EC.ca c) d (EC.G c))
theorem tAt_lt{c:Nat}(h:EC.cp c<256)(d:Nat):ptx (EC.smul EC.finv (EC.ca c) d (EC.G c))<256/\pty (EC.smul EC.finv (EC.ca c) d (EC.G c))<256:=by
 have h1:=ptx_lt (k:=c) (EC.smul EC.finv (EC.ca c) d (EC.G c))
 have h2:=pty_lt (k:=c) (EC.smul EC.finv (EC.ca c) d (EC.G c))
 omega
theorem pt_eq{k:Nat}{P Q:EC.Pt (EC.cp k)}(hP:P≠ .O)(hQ:Q≠ .O)(h1:ptx P=ptx Q)(h2:pty P=pty Q):P=Q:=by
 cases P with
 |O=>exact absurd rfl hP
 |A x y=>
  cases Q with
  |O=>exact absurd rfl hQ
  |A u v=>rw[show x=u from Fin.ext h1,show y=v from Fin.ext h2]
theorem tAt_inj{c:Nat}(h:EC.cp c<256){d e:Nat}(h0:0<d)(hd:d<e)(he:e<EC.cn c):tAt c d≠tAt c e:=by
 intro hh
 obtain⟨a1,a2⟩:=tAt_lt h d
 obtain⟨b1,b2⟩:=tAt_lt h e
 unfold tAt at hh
 exact EC.smul_inj c hd he (pt_eq (EC.smul_ne_O c h0 (by omega)) (EC.smul_ne_O c (by omega) he) (by omega) (by omega))
def tSeen(c d i:Nat):Bool:=(List.range d).any fun e=>decide (0<e)&&decide (e<EC.cn c)&&decide (tAt c e=i)
theorem tSeen_new{c:Nat}(h:EC.cp c<256){d:Nat}(h0:0<d)(hd:d<EC.cn c):tSeen c d (tAt c d)=false:=by
 unfold tSeen
 rw[List.any_eq_false]
 intro e he
 rw[List.mem_range]at he
 simp only[Bool.and_eq_true,decide_eq_true_eq,not_and]
 intro h1
 exact tAt_inj h h1.1 he hd
theorem tSeen_tick{c d:Nat}(h0:0<d)(hd:d<EC.cn c):tSeen c (d+1)=fun i=>if i=tAt c d then true else tSeen c d i:=by
 funext i
 unfold tSeen
 rw[List.range_succ,List.any_append,List.any_cons,List.any_nil,Bool.or_false,decide_eq_true h0,decide_eq_true hd,Bool.true_and,Bool.true_and]
 by_cases h:i=tAt c d
 ·rw[if_pos h,decide_eq_true h.symm,Bool.or_true]
 ·rw[if_neg h,decide_eq_false fun e=>h e.symm,Bool.or_false]
theorem tSeen_keep{c d:Nat}(h:¬ (0<d/\d<EC.cn c)):tSeen c (d+1)=tSeen c d:=by
 funext i
 unfold tSeen
 rw[List.range_succ,List.any_append,List.any_cons,List.any_nil,Bool.or_false]
 have:(decide (0<d)&&decide (d<EC.cn c)&&decide (tAt c d=i))=false:=by
  by_cases h0:0<d
  ·rw[decide_eq_false (fun h1=>h ⟨h0,h1⟩)];simp
  ·rw[decide_eq_false h0];rfl
 rw[this,Bool.or_false]
def bs(f:Nat->Bool)(n:Nat):List SV:=(List.range n).map fun i=>SV.bool (f i)
theorem bs_len(f:Nat->Bool)(n:Nat):(bs f n).length=n:=by unfold bs;rw[List.length_map,List.length_range]
theorem bs_get(f:Nat->Bool){n k:Nat}(h:k<n):(bs f n)[k]? =some (.bool (f k)):=by
 unfold bs;rw[List.getElem?_map,List.getElem?_range h];rfl
theorem bs_bd(f:Nat->Bool)(n m:Nat):bdLB m (bs f n)=true:=by
 unfold bs
 generalize List.range n=l
 induction l with
 |nil=>rfl
 |cons a l ih=>show(bdB m (SV.bool (f a))&&bdLB m (l.map _))=true;rw[ih];rfl
theorem bs_rep(n:Nat):List.replicate n (SV.bool false)=bs (fun _=>false) n:=by
 apply List.ext_getElem?
 intro k
 by_cases h:k<n
 ·rw[bs_get _ h,List.getElem?_replicate,if_pos h]
 ·rw[List.getElem?_eq_none (by rw[List.length_replicate];omega),List.getElem?_eq_none (by rw[bs_len];omega)]
theorem bs_spl{A:Ar}(hA:A=Ar.real)(f g:Nat->Bool){n k:Nat}(h:k<n)(v:Bool)(hg:g=fun j=>if j=k then v else f j):A.spl (bs f n) k [.bool v]=some (bs g n):=by
 rw[spl_of hA (by rw[bs_len];exact h)]
 congr 1
 apply List.ext_getElem?
 intro j
 unfold Vg.splice
 by_cases hj:j<n
 ·rw[bs_get _ hj,hg]
  show _=some (SV.bool (if j=k then v else f j))
  by_cases e:j=k
  ·subst e
   rw[if_pos rfl,List.append_assoc,List.getElem?_append_right (by rw[List.length_take,bs_len];omega),List.length_take,bs_len,show j-min j n=0 by omega];rfl
  ·rw[if_neg e]
   by_cases hl:j<k
   ·rw[List.append_assoc,List.getElem?_append_left (by rw[List.length_take,bs_len];omega),List.getElem?_take,if_pos hl,bs_get _ hj]
   ·rw[List.getElem?_append_right (by rw[List.length_append,List.length_take,bs_len];show min k n+1<=j;omega),List.getElem?_drop,List.length_append,List.length_take,bs_len]
    show(bs f n)[k+1+(j-(min k n+1))]? =_
    rw[show k+1+(j-(min k n+1))=j by omega,bs_get _ hj]
 ·rw[List.getElem?_eq_none (by simp only[List.length_append,List.length_take,List.length_drop,bs_len,List.length_cons,List.length_nil];omega),List.getElem?_eq_none (by rw[bs_len];omega)]
theorem cv3{A:Ar}(hA:A=Ar.real)(x:Int):∃k:Nat,k<3/\A.bin .add .i64 13 (A.cvt .i64 (A.bin .rem .u64 (A.cvt .u64 x) 3))=Int.ofNat (13+k):=by
 obtain⟨k,hk,he⟩:=rem_at x 3 (by decide)
 refine⟨k,hk,?_⟩
 have h1:A.bin .rem .u64 (A.cvt .u64 x) 3=Int.ofNat k:=by rw[bin_of hA,cvt_of hA];exact he
 rw[h1,cvtI hA (k:= .i64) (a:=k) (fun _=>by show k<2^63;omega) (fun h=>by cases h)]
 exact addI hA (a:=13) (b:=k) (by omega)
theorem subW1{A:Ar}(hA:A=Ar.real){n:Nat}(h0:0<n)(h:n<1000):A.bin .sub .u64 (Int.ofNat n) 1=Int.ofNat (n-1):=by
 exact(subW hA (k:= .u64) rfl (a:=n) (b:=1) (by decide)).trans (congrArg Int.ofNat (by show(n+0x10000000000000000-1)%0x10000000000000000=n-1;omega))
theorem cKeyTiny{P:Program}(hP:P=Tryz.prog)(x:Int):Con P 6 [.int .i64 x] [] 0 [] (fun v _ _=>v= .bool true):=by
 obtain⟨H,hH⟩:=exq (fun x c=>Vg.hs (dg x) c:Nat->Nat->List SV)
 obtain⟨S,hS⟩:=exq (Vg.sz:Nat->Nat)
 have hs':HS H S:=⟨hH,hS⟩
 have hAw:=cAwake hP
 have hN:=fun x=>cNum hP x
 refine cof hP Tryz.func6 (bdb _ rfl) (bkb rfl) ?_
 intro A g K hA hg hK
 obtain⟨bin,_,cmp,_,cvt,ix,_,_,bnot,beq,_,_,_,_,_,off,get,_,sub,spl⟩:=A
 obtain⟨k,hk3,hc⟩:=cv3 hA x
 obtain⟨c,hcc⟩:=exq (13+k)
 rw[<-hcc]at hc
 have hc':bin .add .i64 13 (cvt .i64 (bin .rem .u64 (cvt .u64 x) 3))=Int.ofNat c:=hc
 have hc1:1<=c/\c<=15:=by omega
 obtain⟨tp,tn⟩:=EC.tiny hk3
 rw[<-hcc]at tp tn
 obtain⟨sp,sa,sb,sn,sx,sy⟩:=same_nums hc1
 obtain⟨pp,hp⟩:=exq (primeN c)
 obtain⟨va,hva⟩:=exq (curA c)
 obtain⟨vb,hvb⟩:=exq (rowB c)
 obtain⟨nv,hnv⟩:=exq (rowN c)
 obtain⟨gx,hgx⟩:=exq (rowX c)
 obtain⟨gy,hgy⟩:=exq (rowY c)
 obtain⟨pc,ac,bc,nc,xc,yc,bp,ba,bb,bn,bx,by',hGet⟩:=mGet hP hs' c hc1 pp va vb nv gx gy hp hva hvb hnv hgx hgy
 have vP:∀m,bdLB m (H pp pc)=true:=fun m=>hs'.b m pp pc
 have vA:∀m,bdLB m (H va ac)=true:=fun m=>hs'.b m va ac
 have vB:∀m,bdLB m (H vb bc)=true:=fun m=>hs'.b m vb bc
 have vN:∀m,bdLB m (H nv nc)=true:=fun m=>hs'.b m nv nc
 have vX:∀m,bdLB m (H gx xc)=true:=fun m=>hs'.b m gx xc
 have vY:∀m,bdLB m (H gy yc)=true:=fun m=>hs'.b m gy yc
 rw[<-hnv]at sn
 rw[sn]at tn
 have n0:0<nv:=by rw[<-sn];have:=(EC.prime_cn c).1;omega
 have hSn:S nv=1:=hs'.one (by omega) n0
 have nc0:0<nc:=by have:=hs'.le bn;omega
 have gN:get (H nv nc) 0=some (.int .u32 (.ofNat nv)):=by
  rw[hs'.h]
  have:=getW hA .u32 (dg nv) (n:=nc) (k:=0) nc0
  rw[show dg nv 0=nv from by unfold dg Dg.dig;rw[Nat.pow_zero,Nat.div_one,Nat.mod_eq_of_lt (by omega)]]at this
  exact this
 clear hH hS
 obtain⟨Z,hZ⟩:=exq (fun d=>bs (tSeen c d) 65536:Nat->List SV)
 have bZ:∀m d,bdLB m (Z d)=true:=fun m d=>by rw[hZ];exact bs_bd _ _ m
 have hZ0:List.replicate 65536 (SV.bool false)=Z 0:=by rw[hZ,bs_rep];rfl
 have hZk:∀d,¬ (0<d/\d<nv)->Z (d+1)=Z d:=fun d h=>by rw[hZ];show bs (tSeen c (d+1)) _=_;rw[tSeen_keep (by rw[sn];exact h)]
 have hZg:∀d i,i<65536->get (Z d) i=some (.bool (tSeen c d i)):=fun d i h=>(get_of hA _ _).trans (by rw[hZ];exact bs_get _ h)
 have hZs:∀d,0<d->d<nv->tAt c d<65536->spl (Z d) (tAt c d) [.bool true]=some (Z (d+1)):=fun d h0 h1 h2=>by rw[hZ];exact bs_spl hA _ _ h2 true (tSeen_tick h0 (by rw[sn];exact h1))
 clear hZ
 obtain⟨ct,hct⟩:=exq (fun d=>min (d-1) (nv-1):Nat->Nat)
 have ct0:ct 0=0:=by rw[hct];show min (0-1) _=0;omega
 have ctk:∀d,¬ (0<d/\d<nv)->ct (d+1)=ct d:=fun d h=>by rw[hct];show min (d+1-1) (nv-1)=min (d-1) (nv-1);omega
 have cts:∀d,0<d->d<nv->ct (d+1)=ct d+1:=fun d h0 h1=>by rw[hct];show min (d+1-1) (nv-1)=min (d-1) (nv-1)+1;omega
 have cte:ct 300=nv-1:=by rw[hct];show min (300-1) (nv-1)=nv-1;omega
 have ctb:∀d,ct d<1000:=fun d=>by rw[hct];show min (d-1) (nv-1)<1000;omega
 clear hct
 have e1:bnot true=false:=bnot_of hA true
 have e2:ix 0 1=some 0:=ix_of hA (k:=0) (n:=1) (by decide)
 have e3:cvt .u64 (.ofNat nv)=Int.ofNat nv:=cvtI hA (k:= .u64) (a:=nv) (fun h=>by cases h) (fun _=>by show nv<2^64;omega)
 have e4:off 0 0 1=0:=off_of hA 0 0 1
 have bB:(P.info? 4).map (·.bytes)=some 1:=by rw[hP];kernel_rfl
 cbv
 refine cva rfl hg rfl rfl hAw ?_
 rintro _ _ _ rfl
 refine⟨trivial,?_⟩
 cbv
 rw[e1]
 cbv
 rw[hc']
 refine cgn rfl hg rfl rfl hGet _root_.id rfl trivial rfl rfl rfl ?_
 rintro _ _ _ ⟨rfl,rfl,rfl⟩ _
 refine⟨rfl,?_⟩
 simp only[renB,rcl _ (vP 0),rcl _ (vA 0),rcl _ (vB 0),rcl _ (vN 0),rcl _ (vX 0),rcl _ (vY 0)]
 rw[hSn]
 cbv
 rw[e1]
 cbv
 rw[e2]
 cbv
 rw[e4,gN]
 cbv
 rw[e3]
 cbv
 refine smk (hP▸tblOk) hg rfl rfl (show tyT 62=some _ from rfl) rfl (show tyT 4=some _ from rfl) bB rfl (m:=65536) rfl rfl (by omega) (by omega) ?_
 rw[hZ0]
 cbv
 have f1:∀d,d<300->cmp .lss (.ofNat d) 300=true:=fun d h=>lss_t hA (b:=300) h
 have f2:cmp .lss (.ofNat 300) 300=false:=lss_f hA (a:=300) (b:=300) (by omega)
 have f3:∀d,d<300->bin .add .u64 (.ofNat d) 1=Int.ofNat (d+1):=fun d h=>(addW hA (k:= .u64) rfl d 1).trans (congrArg Int.ofNat (Nat.mod_eq_of_lt (by show d+1<0x10000000000000000;omega)))
 have f4:cmp .neq 2401 2401=false:=neq_f hA (a:=2401) (b:=2401) rfl
 have f5:cmp .eql 2401 0=false:=eql_f hA (a:=2401) (b:=0) (by decide)
 have f6:cmp .neq 2401 0=true:=neq_t hA (a:=2401) (b:=0) (by decide)
 have f7:cmp .neq 0 0=false:=neq_f hA (a:=0) (b:=0) rfl
 have f8:cmp .eql 0 0=true:=eql_t hA (a:=0) (b:=0) rfl
 have eb:beq=Ar.real.beq:=congrArg Ar.beq hA
 have b0:bnot (beq false false)=false:=by rw[eb];exact bnot_of hA _
 have b1:bnot (beq true true)=false:=by rw[eb];exact bnot_of hA _
 refine lpb Nat (fun d=>d<=300) (fun d=>300-d) (fun d=> [(7,.int .u64 (.ofNat (ct d))),(8,.int .u64 (.ofNat d))]) [3,5,6] (fun d=> [(7,Z d)]) 0 (Nat.zero_le _) ?_ ?_
 ·rw[ct0]
  exact wkih (by repeat' (first|exact trivial|refine⟨rfl,rfl,rfl,?_⟩|refine⟨rfl,rfl,vP 8,?_⟩|refine⟨rfl,rfl,vA 8,?_⟩|refine⟨rfl,rfl,vB 8,?_⟩|refine⟨rfl,rfl,vN 8,?_⟩|refine⟨rfl,rfl,vX 8,?_⟩|refine⟨rfl,rfl,vY 8,?_⟩|refine⟨rfl,rfl,bZ 8 0,?_⟩))
 intro d hd
 by_cases hlt:d<300
 ·obtain⟨r,hr⟩:=exq (sm d)
  have wr':Wn 9 r:=by rw[hr];exact sm_W (by omega)
  have vr:V 9 r=d:=by rw[hr];exact sm_V d
  have hOne:=cOne hP d r (by rw[hr];rfl)
  obtain⟨Zd,hZd⟩:=exq (Z d)
  have bZd:∀m,bdLB m Zd=true:=fun m=>by rw[hZd];exact bZ m d
  obtain⟨Zn,hZn⟩:=exq (Z (d+1))
  have bZn:∀m,bdLB m Zn=true:=fun m=>by rw[hZn];exact bZ m (d+1)
  obtain⟨cd,hcd⟩:=exq (ct d)
  obtain⟨cn,hcn⟩:=exq (ct (d+1))
  rw[<-hcd,<-hZd]
  by_cases hgd:0<d/\d<nv
  ·have hgd':V 9 r≠0/\V 9 r<EC.cn c:=by rw[vr,sn];omega
   have hCk:=cCheck hP c hc1 r wr' 0 (if_pos hgd').symm
   obtain⟨l1,l2⟩:=tAt_lt tp d
   obtain⟨Q,hQ⟩:=exq (EC.smul EC.finv (EC.ca c) d (EC.G c))
   have hQ0:Q≠ .O:=by rw[hQ];exact EC.smul_ne_O c hgd.1 (by rw[sn];exact hgd.2)
   rw[<-hQ]at l1 l2
   obtain⟨px,hpx⟩:=exq (ptx Q)
   obtain⟨py,hpy⟩:=exq (pty Q)
   have hat:tAt c d=px*256+py:=by unfold tAt;rw[<-hQ,hpx,hpy]
   rw[<-hpx]at l1
   rw[<-hpy]at l2
   obtain⟨X,hX⟩:=exq (sm px)
   obtain⟨Y,hY⟩:=exq (sm py)
   have hR:PtW c (EC.smul EC.finv (EC.ca c) (V 9 r) (EC.G c)) X Y false:=by
    rw[vr,<-hQ]
    exact⟨by rw[hX];exact sm_W (by omega),by rw[hY];exact sm_W (by omega),by rw[hX,sm_V,hpx],by rw[hY,sm_V,hpy],by cases Q with|O=>exact absurd rfl hQ0|A x y=>rfl⟩
   have hPu:=cPublic hP c hc1 r wr' hgd' hR
   have x0:X 0=px:=by rw[hX];rfl
   have y0:Y 0=py:=by rw[hY];rfl
   obtain⟨at',hat'⟩:=exq (tAt c d)
   obtain⟨p2,hp2⟩:=exq (px*256)
   have hs1:=hZs d hgd.1 hgd.2 (by rw[hat];omega)
   have hs2:=hZg d (tAt c d) (by rw[hat];omega)
   rw[tSeen_new tp hgd.1 (by rw[sn];exact hgd.2),<-hZd,<-hat']at hs2
   rw[<-hZd,<-hZn,<-hat']at hs1
   have hcs:cn=cd+1:=by rw[hcn,hcd];exact cts d hgd.1 hgd.2
   have g1:bin .and .u64 (.ofNat (X 0)) 255=Int.ofNat px:=by
    rw[x0]
    exact(andW hA (k:= .u64) rfl (a:=px) (b:=255) (by show px<2^64;omega) (by decide)).trans (congrArg Int.ofNat ((Nat.and_two_pow_sub_one_eq_mod px 8).trans (Nat.mod_eq_of_lt l1)))
   have g2:bin .and .u64 (.ofNat (Y 0)) 255=Int.ofNat py:=by
    rw[y0]
    exact(andW hA (k:= .u64) rfl (a:=py) (b:=255) (by show py<2^64;omega) (by decide)).trans (congrArg Int.ofNat ((Nat.and_two_pow_sub_one_eq_mod py 8).trans (Nat.mod_eq_of_lt l2)))
   have g3:cvt .i64 (.ofNat px)=Int.ofNat px:=cvtI hA (k:= .i64) (a:=px) (fun _=>by show px<2^63;omega) (fun h=>by cases h)
   have g4:cvt .i64 (.ofNat py)=Int.ofNat py:=cvtI hA (k:= .i64) (a:=py) (fun _=>by show py<2^63;omega) (fun h=>by cases h)
   have g5:bin .mul .i64 (.ofNat px) 256=Int.ofNat p2:=(mulI hA (a:=px) (b:=256) (by omega)).trans (by rw[hp2])
   have g6:bin .add .i64 (.ofNat p2) (.ofNat py)=Int.ofNat at':=(addI hA (a:=p2) (b:=py) (by omega)).trans (by rw[hp2,hat',hat])
   have g7:ix (.ofNat at') 65536=some at':=ix_of hA (by omega)
   have g8:off 0 at' 1=at':=(off_of hA 0 at' 1).trans (by omega)
   have g9:bin .add .u64 (.ofNat cd) 1=Int.ofNat cn:=(addW hA (k:= .u64) rfl cd 1).trans (congrArg Int.ofNat (by rw[hcs];have:=ctb d;rw[<-hcd]at this;exact Nat.mod_eq_of_lt (by show cd+1<0x10000000000000000;omega)))
   clear hX hY hR hgd' hat hat' hQ hpx hpy
   cbv
   rw[f1 d hlt]
   cbv
   refine reg_A (hP▸tblOk) hA hg (hP▸mixed) rfl rfl ?_
   cbv
   refine stepD (en_val rfl hg rfl rfl hOne (fun _ _ _ h=>h) (by simp[bd,bdL,ws,lst])) ?_
   cbv
   refine sdv hg hCk ?_
   cbv
   refine reg_A (hP▸tblOk) hA hg (hP▸mixed) rfl rfl ?_
   cbv
   refine stepD (en_val rfl hg rfl rfl hOne (fun _ _ _ h=>h) (by simp[bd,bdL,ws,lst])) ?_
   cbv
   refine stepD (en_val rfl hg rfl rfl hPu (fun _ _ _ h=>h) (by simp[bd,bdL,ptS,ws,lst])) ?_
   cbv
   refine cva rfl hg rfl rfl (hN 0) ?_
   rintro _ _ _ rfl
   refine⟨trivial,?_⟩
   cbv
   refine cva rfl hg rfl rfl (hN 0) ?_
   rintro _ _ _ rfl
   refine⟨trivial,?_⟩
   cbv
   rw[f7]
   cbv
   refine cva rfl hg rfl rfl (hN 0) ?_
   rintro _ _ _ rfl
   refine⟨trivial,?_⟩
   cbv
   rw[f8]
   cbv
   rw[show cmp .gtr (.ofNat d) 0=true from gtr_t hA (a:=d) (b:=0) (by omega)]
   cbv
   rw[show cmp .lss (.ofNat d) (.ofNat nv)=true from lss_t hA hgd.2]
   cbv
   rw[b1]
   cbv
   refine cva rfl hg rfl rfl (hN 0) ?_
   rintro _ _ _ rfl
   refine⟨trivial,?_⟩
   cbv
   rw[f7]
   cbv
   rw[g1]
   cbv
   rw[g3]
   cbv
   rw[g5]
   cbv
   rw[g2]
   cbv
   rw[g4]
   cbv
   rw[g6]
   cbv
   rw[g7]
   cbv
   rw[g8,hs2]
   cbv
   rw[g7]
   cbv
   rw[g8,hs1]
   cbv
   rw[g9]
   cbv
   rw[f3 d hlt]
   refine⟨d+1,_root_.id,hlt,(by show 300-(d+1)<300-d;omega),?_⟩
   rw[<-hZn,<-hcn]
   exact wkih (by repeat' (first|exact trivial|refine⟨rfl,rfl,rfl,?_⟩|refine⟨rfl,rfl,vP 8,?_⟩|refine⟨rfl,rfl,vA 8,?_⟩|refine⟨rfl,rfl,vB 8,?_⟩|refine⟨rfl,rfl,vN 8,?_⟩|refine⟨rfl,rfl,vX 8,?_⟩|refine⟨rfl,rfl,vY 8,?_⟩|refine⟨rfl,rfl,bZn 8,?_⟩))
  ·have hgd':¬ (V 9 r≠0/\V 9 r<EC.cn c):=by rw[vr,sn];omega
   have hCk:=cCheck hP c hc1 r wr' 2401 (if_neg hgd').symm
   have hPu:=cPublicR hP c hc1 r wr' hgd'
   have hk1:Z (d+1)=Zd:=by rw[hZd];exact hZk d hgd
   have hk2:ct (d+1)=cd:=by rw[hcd];exact ctk d hgd
   cbv
   rw[f1 d hlt]
   cbv
   refine reg_A (hP▸tblOk) hA hg (hP▸mixed) rfl rfl ?_
   cbv
   refine stepD (en_val rfl hg rfl rfl hOne (fun _ _ _ h=>h) (by simp[bd,bdL,ws,lst])) ?_
   cbv
   refine sdv hg hCk ?_
   cbv
   refine reg_A (hP▸tblOk) hA hg (hP▸mixed) rfl rfl ?_
   cbv
   refine stepD (en_val rfl hg rfl rfl hOne (fun _ _ _ h=>h) (by simp[bd,bdL,ws,lst])) ?_
   cbv
   refine stepD (en_val rfl hg rfl rfl hPu (fun _ _ _ h=>h) (by simp[bd,bdL,ptS,ws,lst])) ?_
   cbv
   refine cva rfl hg rfl rfl (hN 2401) ?_
   rintro _ _ _ rfl
   refine⟨trivial,?_⟩
   cbv
   refine cva rfl hg rfl rfl (hN 2401) ?_
   rintro _ _ _ rfl
   refine⟨trivial,?_⟩
   cbv
   rw[f4]
   cbv
   refine cva rfl hg rfl rfl (hN 2401) ?_
   rintro _ _ _ rfl
   refine⟨trivial,?_⟩
   cbv
   rw[f5]
   cbv
   by_cases hd0:d=0
   ·rw[show cmp .gtr (.ofNat d) 0=false from gtr_f hA (a:=d) (b:=0) (by omega)]
    cbv
    rw[b0]
    cbv
    refine cva rfl hg rfl rfl (hN 2401) ?_
    rintro _ _ _ rfl
    refine⟨trivial,?_⟩
    cbv
    rw[f6]
    cbv
    rw[f3 d hlt]
    refine⟨d+1,_root_.id,hlt,(by show 300-(d+1)<300-d;omega),?_⟩
    rw[hk1,hk2]
    exact wkih (by repeat' (first|exact trivial|refine⟨rfl,rfl,rfl,?_⟩|refine⟨rfl,rfl,vP 8,?_⟩|refine⟨rfl,rfl,vA 8,?_⟩|refine⟨rfl,rfl,vB 8,?_⟩|refine⟨rfl,rfl,vN 8,?_⟩|refine⟨rfl,rfl,vX 8,?_⟩|refine⟨rfl,rfl,vY 8,?_⟩|refine⟨rfl,rfl,bZd 8,?_⟩))
   ·rw[show cmp .gtr (.ofNat d) 0=true from gtr_t hA (a:=d) (b:=0) (by omega)]
    cbv
    rw[show cmp .lss (.ofNat d) (.ofNat nv)=false from lss_f hA (by omega)]
    cbv
    rw[b0]
    cbv
    refine cva rfl hg rfl rfl (hN 2401) ?_
    rintro _ _ _ rfl
    refine⟨trivial,?_⟩
    cbv
    rw[f6]
    cbv
    rw[f3 d hlt]
    refine⟨d+1,_root_.id,hlt,(by show 300-(d+1)<300-d;omega),?_⟩
    rw[hk1,hk2]
    exact wkih (by repeat' (first|exact trivial|refine⟨rfl,rfl,rfl,?_⟩|refine⟨rfl,rfl,vP 8,?_⟩|refine⟨rfl,rfl,vA 8,?_⟩|refine⟨rfl,rfl,vB 8,?_⟩|refine⟨rfl,rfl,vN 8,?_⟩|refine⟨rfl,rfl,vX 8,?_⟩|refine⟨rfl,rfl,vY 8,?_⟩|refine⟨rfl,rfl,bZd 8,?_⟩))
 ·have hd3:d=300:=by omega
  subst hd3
  rw[cte]
  have f9:bin .sub .u64 (.ofNat nv) 1=Int.ofNat (nv-1):=subW1 hA n0 (by omega)
  have f10:cmp .eql (.ofNat (nv-1)) (.ofNat (nv-1))=true:=eql_t hA rfl
  obtain⟨n1,hn1⟩:=exq (nv-1)
  rw[<-hn1]at f9 f10⊢
  cbv
  rw[f2]
  cbv
  rw[f9]
  cbv
  rw[f10]
  exact hK _ _ _ rfl
end Go.Proofs.YtdhmihfefgcbeaaGreat
