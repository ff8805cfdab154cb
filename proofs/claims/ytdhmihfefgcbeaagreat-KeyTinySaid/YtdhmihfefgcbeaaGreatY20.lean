/-
  This text proves what these texts prove: Ia, Ib, Ic, Id, Ja. Conditions: those of each theorem.
-/
import Derived.Test.YtdhmihfefgcbeaaGreatY19
import Derived.Test.YtdhmihfefgcbeaaGreatY08
set_option maxHeartbeats 8000000
set_option linter.all false
namespace Go.Vg
open Go.RowKit
theorem slr_str{P:Program}{T:Nat->Option Ty}(hT:TOk P T){t:Nat}{i:Ty}(ht:T t=some i)(hd:i.d= .s)(s:ByteArray){k:IntKind}{j:Nat}(hj:j<=s.size):SlR P t (.str s) none (some (k,Int.ofNat j)) (.str (s.extract 0 j)):=by
 have hu:=str_of hT ht hd
 refine⟨fun β W=> ?_,fun p h=>h⟩
 show(Instr.sliceAt t (.string s) none (some (.int k (Int.ofNat j))) none).run P W=_
 rw[run_sliceAt_string W t _ _ _ _ hu,run_slice_string_to_if W t s k (Int.ofNat j) hu,if_pos ⟨by simp,by simpa using hj⟩]
 rfl
theorem bl_extract(s:ByteArray)(j:Nat):bl (s.extract 0 j)=(bl s).take j:=by
 unfold bl
 rw[ByteArray.data_extract,Array.toList_extract,<-List.map_take]
 simp[List.extract]
end Go.Vg
namespace Sh
theorem gen_snoc(id:Nat)(k:List Nat):∀j v,gen id k (j+1) v=((gen id k j v).1++hmac id k (gen id k j v).2,hmac id k (gen id k j v).2)
 |0,v=>by simp[gen]
 |j+1,v=>by
  rw[gen,gen_snoc id k j (hmac id k v)]
  simp only[gen,List.append_assoc]
theorem gen_len{id:Nat}(h:1<=id/\id<=4)(k:List Nat)(v:List Nat):∀j,(gen id k j v).1.length=j*size id
 |0=>by simp[gen]
 |j+1=>by rw[gen_snoc];simp only[List.length_append,gen_len h k v j,hmac_len h,Nat.succ_mul]
theorem gen_len2{id:Nat}(h:1<=id/\id<=4)(k:List Nat)(v:List Nat)(hv:v.length=size id):∀j,(gen id k j v).2.length=size id
 |0=>by simp[gen,hv]
 |j+1=>by rw[gen_snoc];exact hmac_len h _ _
theorem gen_b2(id:Nat)(k:List Nat)(v:List Nat)(hv:∀x∈v,x<256):∀j,∀x∈(gen id k j v).2,x<256
 |0=>by simpa [gen]using hv
 |j+1=>by rw[gen_snoc];exact hmac_b _ _ _
theorem gen_b(id:Nat)(k:List Nat)(v:List Nat):∀j,∀x∈(gen id k j v).1,x<256
 |0=>by simp[gen]
 |j+1=>by
  rw[gen_snoc]
  intro x hx
  rcases List.mem_append.1 hx with hx|hx
  ·exact gen_b id k v j x hx
  ·exact hmac_b _ _ _ x hx
end Sh
namespace Go.Proofs.YtdhmihfefgcbeaaGreat
open Go.Vg Go.RowKit
set_option maxRecDepth 200000
set_option cbv.maxSteps 100000000
theorem cDMay{P:Program}(hP:P=Tryz.prog)(id:Nat)(hid:1<=id/\id<=4)(e a b:ByteArray)(he:Sh.size id/2<=e.size/\e.size<=256)(ha:a.size<=256)(hb:b.size<=256):
 Con P 72 [.int .i64 (.ofNat id),.str e,.slice 0 0 2 2] [⟨0,[.str a,.str b],9⟩] 1 [] (fun w _ _=>w= .int .i64 0):=by
 obtain⟨z,hz⟩:=exq (Sh.size id)
 have hzb:=Sh.size_blk hid
 have hS:Con P 71 [.int .i64 (.ofNat id)] [] 0 [] (fun v _ _=>v= .int .i64 (.ofNat z)):=by rw[hz];exact cHSize hP id _ _ _ (HK.at hid)
 obtain⟨es,hes⟩:=exq e.size
 obtain⟨h,hh⟩:=exq (z/2)
 rw[<-hz]at he hzb
 refine cof hP Tryz.func72 ⟨trivial,trivial,(by show 0<1;decide),trivial⟩ (bkb rfl) ?_
 intro A g K hA hg hK
 obtain⟨bin,_,cmp,_,_,ix,_,_,_,_,_,_,slen,_,nat,off,get⟩:=A
 have f1:slen e=Int.ofNat es:=(slen_of hA e).trans (by rw[hes])
 have f2:bin .quo .i64 (.ofNat z) 2=Int.ofNat h:=(quoI hA (a:=z) (b:=2) (by omega)).trans (by rw[hh])
 have f3:cmp .lss (.ofNat es) (.ofNat h)=false:=lss_f hA (by omega)
 have f4:cmp .gtr (.ofNat es) 256=false:=gtr_f hA (a:=es) (b:=256) (by omega)
 have f5:∀i,i<2->cmp .lss (.ofNat i) 2=true:=fun i h=>lss_t hA (b:=2) h
 have f6:cmp .lss (.ofNat 2) 2=false:=lss_f hA (a:=2) (b:=2) (by omega)
 have f7:∀i,i<2->bin .add .i64 (.ofNat i) 1=Int.ofNat (i+1):=fun i h=>add_of hA (by omega)
 have f8:∀i,i<2->ix (.ofNat i) 2=some i:=fun i h=>ix_of hA h
 have f9:∀i,off 0 i 1=i:=fun i=>(off_of hA 0 i 1).trans (by omega)
 have f10:∀x:ByteArray,slen x=Int.ofNat x.size:=fun x=>slen_of hA x
 have f11:∀x,x<=256->cmp .gtr (.ofNat x) 256=false:=fun x h=>gtr_f hA (a:=x) (b:=256) (by omega)
 have f12:nat 2=2:=nat_of hA 2
 obtain⟨c,hc⟩:=exq (fun i=>if i=0 then a else b:Nat->ByteArray)
 have hcs:∀i,(c i).size<=256:=fun i=>by rw[hc];show(if i=0 then a else b).size<=256;split<;>assumption
 have f13:∀i,i<2->get [.str a,.str b] i=some (.str (c i)):=fun i h=>by
  rw[show get [.str a,.str b] i=[SV.str a,SV.str b][i]? from get_of hA _ _,hc]
  have:i=0\/i=1:=by omega
  rcases this with rfl|rfl<;>rfl
 cbv
 rw[f1]
 cbv
 refine cva rfl hg rfl rfl hS ?_
 rintro _ _ _ rfl
 refine⟨trivial,?_⟩
 cbv
 rw[f2]
 cbv
 rw[f3]
 cbv
 rw[f1]
 cbv
 rw[f4]
 cbv
 rw[f12]
 cbv
 refine lpb Nat (fun i=>i<=2) (fun i=>2-i) (fun i=> [(22,.int .i64 (.ofNat i))]) [0,1,2,20,21] (fun _=> []) 0 (Nat.zero_le _) ?_ ?_
 ·exact wkid
 intro i hi
 by_cases hlt:i<2
 ·have hci:=hcs i
  obtain⟨x,hx⟩:=exq ((c i).size)
  have g1:slen (c i)=Int.ofNat x:=(f10 _).trans (by rw[hx])
  rw[<-hx]at hci
  cbv
  rw[f5 i hlt]
  cbv
  rw[f8 i hlt]
  cbv
  rw[f9 i,f13 i hlt]
  cbv
  rw[g1]
  cbv
  rw[f11 x hci]
  cbv
  rw[f7 i hlt]
  refine⟨i+1,_root_.id,hlt,(by show 2-(i+1)<2-i;omega),?_⟩
  exact wkid
 ·obtain rfl:i=2:=by omega
  cbv
  rw[f6]
  cbv
  exact hK _ _ _ rfl
theorem cDNew{P:Program}(hP:P=Tryz.prog)(id:Nat)(hid2:1<=id/\id<=2)(e a b:ByteArray)(he:Sh.size id/2<=e.size/\e.size<=256)(ha:a.size<=256)(hb:b.size<=256)(k v:ByteArray)(hk:bl k=(Sh.new id (bl e++bl a++bl b)).k)(hv:bl v=(Sh.new id (bl e++bl a++bl b)).v):
 Con P 46 [.int .i64 (.ofNat id),.str e,.str a,.str b] [] 0 [] (fun w L q=>w= .tup [.ptr 0 0,.int .i64 0]/\L=[⟨0,[.int .i64 (.ofNat id),.str k,.str v,.int .i64 1],100⟩]/\q=1):=by
 have hid:1<=id/\id<=4:=⟨hid2.1,Nat.le_trans hid2.2 (by decide)⟩
 obtain⟨z,hz⟩:=exq (Sh.size id)
 have hzb:=Sh.size_blk hid
 rw[<-hz]at hzb
 have hS:Con P 71 [.int .i64 (.ofNat id)] [] 0 [] (fun v _ _=>v= .int .i64 (.ofNat z)):=by rw[hz];exact cHSize hP id _ _ _ (HK.at hid)
 have hMay:=cDMay hP id hid e a b he ha hb
 obtain⟨k0,hk0⟩:∃b,bl b=List.replicate z 0:=⟨mkB (List.replicate z 0),bmk fun x hx=>by rw[(List.mem_replicate.1 hx).2];decide⟩
 obtain⟨v0,hv0⟩:∃b,bl b=List.replicate z 1:=⟨mkB (List.replicate z 1),bmk fun x hx=>by rw[(List.mem_replicate.1 hx).2];decide⟩
 have hk0s:k0.size=z:=by rw[<-bll,hk0,List.length_replicate]
 have hv0s:v0.size=z:=by rw[<-bll,hv0,List.length_replicate]
 have hR0:=cRepeat hP ⟨#[0]⟩ 0 rfl z (by omega) k0 (by rw[hk0];rfl)
 have hR1:=cRepeat hP ⟨#[1]⟩ 1 rfl z (by omega) v0 (by rw[hv0];rfl)
 obtain⟨m1,hm1⟩:=exq (e++a)
 obtain⟨m2,hm2⟩:=exq (m1++b)
 have hm1s:m1.size=e.size+a.size:=by rw[hm1,ByteArray.size_append]
 have hm2s:m2.size=m1.size+b.size:=by rw[hm2,ByteArray.size_append]
 have hm2b:bl m2=bl e++bl a++bl b:=by rw[hm2,bl_app,hm1,bl_app]
 have hU:Con P 51 [.ptr 0 0,.str m2] [⟨0,[.int .i64 (.ofNat id),.str k0,.str v0,.int .i64 1],100⟩] 1 [0] (fun w L q=>w= .tup []/\L=[⟨0,[.int .i64 (.ofNat id),.str k,.str v,.int .i64 1],100⟩]/\q=1):=
  cDUpd hP id hid2 k0 v0 m2 1 (by omega) (by omega) (by omega) k v (by rw[hk,hm2b,hk0,hv0,hz];rfl) (by rw[hv,hm2b,hk0,hv0,hz];rfl)
 suffices raw:Con P 46 [.int .i64 (.ofNat id),.str e,.str a,.str b] [] 0 [] (fun w L q=>∃l,w= .tup [.ptr l 0,.int .i64 0]/\find L l=some ⟨l,[.int .i64 (.ofNat id),.str k,.str v,.int .i64 1],100⟩)from
  raw.weak fun w L q ⟨l,h1,h2⟩=>⟨fun _=>l,.tup [.ptr 0 0,.int .i64 0],_,1,by subst h1;exact wkr ⟨rfl,rfl,trivial⟩ ⟨h2,rfl,rfl,rfl,trivial⟩ rfl rfl rfl,rfl,rfl,rfl⟩
 clear hk hv hk0 hv0
 refine cof hP Tryz.func46 (bdb _ rfl) (bkb rfl) ?_
 intro A g K hA hg hK
 obtain⟨_,_,cmp,_,_,_,_,_,_,_,scat⟩:=A
 have e0:cmp .neq 0 0=false:=neq_f hA (a:=0) (b:=0) rfl
 have e1:cmp .eql (.ofNat z) 0=false:=eql_f hA (a:=z) (b:=0) (by omega)
 have e2:scat e a=some m1:=(scat_of hA (by omega)).trans (by rw[hm1])
 have e3:scat m1 b=some m2:=(scat_of hA (by omega)).trans (by rw[hm2])
 cbv
 refine cva rfl hg rfl rfl hS ?_
 rintro _ _ _ rfl
 refine⟨trivial,?_⟩
 cbv
 rw[e1]
 cbv
 refine cro rfl hg rfl rfl hMay _root_.id rfl ⟨rfl,trivial⟩ ?_
 rintro _ _ _ rfl
 refine⟨trivial,trivial,?_⟩
 cbv
 rw[e0]
 cbv
 refine cva rfl hg rfl rfl hR0 ?_
 rintro _ _ _ rfl
 refine⟨trivial,?_⟩
 cbv
 refine cva rfl hg rfl rfl hR1 ?_
 rintro _ _ _ rfl
 refine⟨trivial,?_⟩
 cbv
 rw[e2]
 cbv
 rw[e3]
 cbv
 refine cgn rfl hg rfl rfl hU (fun _=>1) rfl ⟨rfl,trivial⟩ rfl rfl rfl ?_
 rintro _ _ _ ⟨rfl,rfl,rfl⟩ _
 refine⟨rfl,?_⟩
 cbv
 exact hK _ _ _ ⟨1,rfl,rfl⟩
theorem cDGen{P:Program}(hP:P=Tryz.prog)(id:Nat)(hid2:1<=id/\id<=2)(k v m:ByteArray)(n sz:Nat)(hks:k.size=Sh.size id)(hvs:v.size=Sh.size id)(hms:m.size<=256)(hsz:sz<=256)(hn:n<=64)(r k' v':ByteArray)(hr:bl r=(Sh.generate ⟨id,bl k,bl v,n⟩ sz (bl m)).1)(hk':bl k'=(Sh.generate ⟨id,bl k,bl v,n⟩ sz (bl m)).2.k)(hv':bl v'=(Sh.generate ⟨id,bl k,bl v,n⟩ sz (bl m)).2.v):
 Con P 29 [.ptr 0 0,.int .i64 (.ofNat sz),.str m] [⟨0,[.int .i64 (.ofNat id),.str k,.str v,.int .i64 (.ofNat n)],100⟩] 1 [0] (fun w L q=>w= .tup [.str r,.int .i64 0]/\L=[⟨0,[.int .i64 (.ofNat id),.str k',.str v',.int .i64 (.ofNat (n+1))],100⟩]/\q=1):=by
 have hid:1<=id/\id<=4:=⟨hid2.1,Nat.le_trans hid2.2 (by decide)⟩
 suffices raw:Con P 29 [.ptr 0 0,.int .i64 (.ofNat sz),.str m] [⟨0,[.int .i64 (.ofNat id),.str k,.str v,.int .i64 (.ofNat n)],100⟩] 1 [0] (fun w L q=>w= .tup [.str r,.int .i64 0]/\find L 0=some ⟨0,[.int .i64 (.ofNat id),.str k',.str v',.int .i64 (.ofNat (n+1))],100⟩)from
  raw.weak fun w L q ⟨h1,h2⟩=>⟨_root_.id,.tup [.str r,.int .i64 0],_,1,by subst h1;exact weak_id ⟨rfl,rfl,trivial⟩ ⟨h2,rfl,rfl,trivial⟩ rfl rfl,rfl,rfl,rfl⟩
 obtain⟨mz,hmz⟩:=exq m.size
 have hsb:=Sh.size_blk hid
 refine cof hP Tryz.func29 ⟨(by show 0<1;decide),trivial,trivial,trivial⟩ (bkb rfl) ?_
 intro A g K hA hg hK
 obtain⟨bin,_,cmp,_,_,_,_,_,_,_,scat,scmp,slen⟩:=A
 have f1:cmp .lss (.ofNat sz) 0=false:=lss_f hA (a:=sz) (b:=0) (by omega)
 have f2:cmp .gtr (.ofNat sz) 256=false:=gtr_f hA (a:=sz) (b:=256) (by omega)
 have f3:slen m=Int.ofNat mz:=(slen_of hA m).trans (by rw[hmz])
 have f4:cmp .gtr (.ofNat mz) 256=false:=gtr_f hA (a:=mz) (b:=256) (by omega)
 have f5:cmp .gtr (.ofNat n) 64=false:=gtr_f hA (a:=n) (b:=64) (by omega)
 have f6:scmp .neq m (ByteArray.mk #[])= !decide (bl m=[]):=by
  have e:scmp=Ar.real.scmp:=congrArg Ar.scmp hA
  rw[e]
  exact strCmp_nilN m
 cbv
 rw[f1]
 cbv
 rw[f2]
 cbv
 rw[f3]
 cbv
 rw[f4]
 cbv
 rw[f5]
 cbv
 rw[f6]
 by_cases hm:bl m=[]
 ·obtain⟨k1,hk1⟩:=exq k
  obtain⟨v1,hv1⟩:=exq v
  have hk1s:k1.size=Sh.size id:=by rw[hk1,hks]
  have hv1s:v1.size=Sh.size id:=by rw[hv1,hvs]
  rw[decide_eq_true hm,<-hk1,<-hv1]
  rw[<-hk1,<-hv1]at hr hk' hv'
  cbv
  obtain⟨z,hz⟩:=exq (Sh.size id)
  have hzb:=Sh.size_blk hid
  rw[<-hz]at hzb
  obtain⟨f,hf⟩:=exq ((sz+z-1)/z)
  obtain⟨o,ho⟩:=exq (fun j=>mkB (Sh.gen id (bl k1) j (bl v1)).1:Nat->ByteArray)
  obtain⟨w,hw⟩:=exq (fun j=>mkB (Sh.gen id (bl k1) j (bl v1)).2:Nat->ByteArray)
  have bo:∀j,bl (o j)=(Sh.gen id (bl k1) j (bl v1)).1:=fun j=>by rw[ho];exact bmk (Sh.gen_b _ _ _ j)
  have bw:∀j,bl (w j)=(Sh.gen id (bl k1) j (bl v1)).2:=fun j=>by rw[hw];exact bmk (Sh.gen_b2 _ _ _ (bl_lt v1) j)
  have so:∀j,(o j).size=j*z:=fun j=>by rw[<-bll,bo,Sh.gen_len hid,hz]
  have sw:∀j,(w j).size=z:=fun j=>by rw[<-bll,bw,Sh.gen_len2 hid _ _ (by rw[bll,hv1s]),hz]
  have o0:o 0=ByteArray.mk #[]:=by rw[ho];rfl
  have w0:w 0=v1:=bl_inj (by rw[bw];rfl)
  have oS:∀j,o (j+1)=o j++w (j+1):=fun j=>bl_inj (by rw[bl_app,bo,bo,bw,Sh.gen_snoc])
  have wS:∀j,bl (w (j+1))=Sh.hmac id (bl k1) (bl (w j)):=fun j=>by rw[bw,bw,Sh.gen_snoc]
  have hjf:∀j,j<f↔j*z<sz:=fun j=>by
   rw[hf,Nat.lt_iff_add_one_le,Nat.le_div_iff_mul_le (by omega),Nat.succ_mul];omega
  have hfz:f*z<sz+z:=by
   have:=Nat.div_mul_le_self (sz+z-1) z
   rw[<-hf]at this;omega
  have hszf:sz<=f*z:=Nat.not_lt.1 fun h=>Nat.lt_irrefl f ((hjf f).2 h)
  have hMac:∀j,Con P 52 [.ptr 0 0,.str (w j)] [⟨0,[.int .i64 (.ofNat id),.str k1,.str (w j),.int .i64 (.ofNat n)],100⟩] 1 [] (fun v _ _=>v= .str (w (j+1))):=fun j=>cDMac hP id hid2 k1 (w j) (w j) (w (j+1)) n (by omega) (by rw[sw];omega) (wS j)
  have hG:Sh.generate ⟨id,bl k1,bl v1,n⟩ sz (bl m)=(((bl (o f)).take sz),⟨id,(Sh.upd ⟨id,bl k1,bl (w f),n⟩ (bl m)).k,(Sh.upd ⟨id,bl k1,bl (w f),n⟩ (bl m)).v,(Sh.upd ⟨id,bl k1,bl (w f),n⟩ (bl m)).n+1⟩):=by
   rw[bo,bw,hf,hz]
   unfold Sh.generate
   simp only[if_pos hm,Sh.upd_id]
  rw[hG]at hr hk' hv'
  have hU:=cDUpd hP id hid2 k1 (w f) m n (by omega) (by rw[sw];omega) (by omega) k' v' hk' hv'
  have hre:r=(o f).extract 0 sz:=bl_inj (by rw[hr,bl_extract])
  have h0:[SV.int .i64 (.ofNat id),.str k1,.str v1,.int .i64 (.ofNat n)]=[SV.int .i64 (.ofNat id),.str k1,.str (w 0),.int .i64 (.ofNat n)]:=by rw[w0]
  clear hG hr hk' hv' wS bo bw ho hw
  cbv
  refine lpb Nat (fun j=>j<=f) (fun j=>f-j) (fun j=> [(8,.str (o j))]) [0,1,2] (fun j=> [(0,[.int .i64 (.ofNat id),.str k1,.str (w j),.int .i64 (.ofNat n)])]) 0 (Nat.zero_le _) ?_ ?_
  ·rw[o0,w0]
   exact wkid
  intro j hj
  obtain⟨x,hx⟩:=exq (j*z)
  have g1:slen (o j)=Int.ofNat x:=(slen_of hA _).trans (by rw[so,hx])
  by_cases hlt:j<f
  ·have hxs:x<sz:=by rw[hx];exact(hjf j).1 hlt
   have hMj:=hMac j
   have g2:scat (o j) (w (j+1))=some (o (j+1)):=(scat_of hA (by rw[so,sw,<-hx];omega)).trans (by rw[oS])
   cbv
   rw[g1]
   cbv
   rw[show cmp .lss (.ofNat x) (.ofNat sz)=true from lss_t hA hxs]
   cbv
   refine cro rfl hg rfl rfl hMj _root_.id rfl ⟨rfl,trivial⟩ ?_
   rintro _ _ _ rfl
   refine⟨trivial,trivial,?_⟩
   cbv
   rw[g2]
   refine⟨j+1,_root_.id,hlt,(by show f-(j+1)<f-j;omega),?_⟩
   exact wkid
  ·obtain rfl:j=f:=by omega
   have hos:sz<=(o j).size:=by rw[so];exact hszf
   have hSl:SlR P 9 (.str (o j)) none (some (.i64,Int.ofNat sz)) (.str r):=by rw[hre];exact slr_str (hP▸tblOk) (show tyT 9=some _ from rfl) rfl (o j) hos
   have g3:bin .add .i64 (.ofNat n) 1=Int.ofNat (n+1):=add_of hA (by omega)
   cbv
   rw[g1]
   cbv
   rw[show cmp .lss (.ofNat x) (.ofNat sz)=false from lss_f hA (by omega)]
   cbv
   refine cgn rfl hg rfl rfl hU _root_.id rfl ⟨rfl,trivial⟩ rfl rfl rfl ?_
   rintro _ _ _ ⟨rfl,rfl,rfl⟩ _
   refine⟨rfl,?_⟩
   cbv
   rw[g3]
   cbv
   refine ssl hg rfl rfl rfl rfl rfl hSl ?_
   cbv
   exact hK _ _ _ ⟨rfl,rfl⟩
 ·have hok:Sh.Ok ⟨id,bl k,bl v,n⟩:=⟨hid,by rw[bll,hks],by rw[bll,hvs],bl_lt k,bl_lt v⟩
  have hok1:=hok.upd (bl m)
  obtain⟨k1,hk1⟩:∃x,bl x=(Sh.upd ⟨id,bl k,bl v,n⟩ (bl m)).k:=⟨mkB (Sh.upd ⟨id,bl k,bl v,n⟩ (bl m)).k,bmk hok1.kb⟩
  obtain⟨v1,hv1⟩:∃x,bl x=(Sh.upd ⟨id,bl k,bl v,n⟩ (bl m)).v:=⟨mkB (Sh.upd ⟨id,bl k,bl v,n⟩ (bl m)).v,bmk hok1.vb⟩
  have hk1s:k1.size=Sh.size id:=by rw[<-bll,hk1,hok1.kl,Sh.upd_id]
  have hv1s:v1.size=Sh.size id:=by rw[<-bll,hv1,hok1.vl,Sh.upd_id]
  have hU0:=cDUpd hP id hid2 k v m n (by omega) (by omega) (by omega) k1 v1 hk1 hv1
  rw[decide_eq_false hm]
  cbv
  refine cgn rfl hg rfl rfl hU0 _root_.id rfl ⟨rfl,trivial⟩ rfl rfl rfl ?_
  rintro _ _ _ ⟨rfl,rfl,rfl⟩ _
  refine⟨rfl,?_⟩
  obtain⟨z,hz⟩:=exq (Sh.size id)
  have hzb:=Sh.size_blk hid
  rw[<-hz]at hzb
  obtain⟨f,hf⟩:=exq ((sz+z-1)/z)
  obtain⟨o,ho⟩:=exq (fun j=>mkB (Sh.gen id (bl k1) j (bl v1)).1:Nat->ByteArray)
  obtain⟨w,hw⟩:=exq (fun j=>mkB (Sh.gen id (bl k1) j (bl v1)).2:Nat->ByteArray)
  have bo:∀j,bl (o j)=(Sh.gen id (bl k1) j (bl v1)).1:=fun j=>by rw[ho];exact bmk (Sh.gen_b _ _ _ j)
  have bw:∀j,bl (w j)=(Sh.gen id (bl k1) j (bl v1)).2:=fun j=>by rw[hw];exact bmk (Sh.gen_b2 _ _ _ (bl_lt v1) j)
  have so:∀j,(o j).size=j*z:=fun j=>by rw[<-bll,bo,Sh.gen_len hid,hz]
  have sw:∀j,(w j).size=z:=fun j=>by rw[<-bll,bw,Sh.gen_len2 hid _ _ (by rw[bll,hv1s]),hz]
  have o0:o 0=ByteArray.mk #[]:=by rw[ho];rfl
  have w0:w 0=v1:=bl_inj (by rw[bw];rfl)
  have oS:∀j,o (j+1)=o j++w (j+1):=fun j=>bl_inj (by rw[bl_app,bo,bo,bw,Sh.gen_snoc])
  have wS:∀j,bl (w (j+1))=Sh.hmac id (bl k1) (bl (w j)):=fun j=>by rw[bw,bw,Sh.gen_snoc]
  have hjf:∀j,j<f↔j*z<sz:=fun j=>by
   rw[hf,Nat.lt_iff_add_one_le,Nat.le_div_iff_mul_le (by omega),Nat.succ_mul];omega
  have hfz:f*z<sz+z:=by
   have:=Nat.div_mul_le_self (sz+z-1) z
   rw[<-hf]at this;omega
  have hszf:sz<=f*z:=Nat.not_lt.1 fun h=>Nat.lt_irrefl f ((hjf f).2 h)
  have hMac:∀j,Con P 52 [.ptr 0 0,.str (w j)] [⟨0,[.int .i64 (.ofNat id),.str k1,.str (w j),.int .i64 (.ofNat n)],100⟩] 1 [] (fun v _ _=>v= .str (w (j+1))):=fun j=>cDMac hP id hid2 k1 (w j) (w j) (w (j+1)) n (by omega) (by rw[sw];omega) (wS j)
  have hG:Sh.generate ⟨id,bl k,bl v,n⟩ sz (bl m)=(((bl (o f)).take sz),⟨id,(Sh.upd ⟨id,bl k1,bl (w f),n⟩ (bl m)).k,(Sh.upd ⟨id,bl k1,bl (w f),n⟩ (bl m)).v,(Sh.upd ⟨id,bl k1,bl (w f),n⟩ (bl m)).n+1⟩):=by
   rw[bo,bw,hf,hz]
   unfold Sh.generate
   simp only[if_neg hm,Sh.upd_id,Sh.upd_n,<-hk1,<-hv1]
  rw[hG]at hr hk' hv'
  have hU:=cDUpd hP id hid2 k1 (w f) m n (by omega) (by rw[sw];omega) (by omega) k' v' hk' hv'
  have hre:r=(o f).extract 0 sz:=bl_inj (by rw[hr,bl_extract])
  have h0:[SV.int .i64 (.ofNat id),.str k1,.str v1,.int .i64 (.ofNat n)]=[SV.int .i64 (.ofNat id),.str k1,.str (w 0),.int .i64 (.ofNat n)]:=by rw[w0]
  clear hG hr hk' hv' wS bo bw ho hw
  cbv
  refine lpb Nat (fun j=>j<=f) (fun j=>f-j) (fun j=> [(8,.str (o j))]) [0,1,2] (fun j=> [(0,[.int .i64 (.ofNat id),.str k1,.str (w j),.int .i64 (.ofNat n)])]) 0 (Nat.zero_le _) ?_ ?_
  ·rw[o0,w0]
   exact wkid
  intro j hj
  obtain⟨x,hx⟩:=exq (j*z)
  have g1:slen (o j)=Int.ofNat x:=(slen_of hA _).trans (by rw[so,hx])
  by_cases hlt:j<f
  ·have hxs:x<sz:=by rw[hx];exact(hjf j).1 hlt
   have hMj:=hMac j
   have g2:scat (o j) (w (j+1))=some (o (j+1)):=(scat_of hA (by rw[so,sw,<-hx];omega)).trans (by rw[oS])
   cbv
   rw[g1]
   cbv
   rw[show cmp .lss (.ofNat x) (.ofNat sz)=true from lss_t hA hxs]
   cbv
   refine cro rfl hg rfl rfl hMj _root_.id rfl ⟨rfl,trivial⟩ ?_
   rintro _ _ _ rfl
   refine⟨trivial,trivial,?_⟩
   cbv
   rw[g2]
   refine⟨j+1,_root_.id,hlt,(by show f-(j+1)<f-j;omega),?_⟩
   exact wkid
  ·obtain rfl:j=f:=by omega
   have hos:sz<=(o j).size:=by rw[so];exact hszf
   have hSl:SlR P 9 (.str (o j)) none (some (.i64,Int.ofNat sz)) (.str r):=by rw[hre];exact slr_str (hP▸tblOk) (show tyT 9=some _ from rfl) rfl (o j) hos
   have g3:bin .add .i64 (.ofNat n) 1=Int.ofNat (n+1):=add_of hA (by omega)
   cbv
   rw[g1]
   cbv
   rw[show cmp .lss (.ofNat x) (.ofNat sz)=false from lss_f hA (by omega)]
   cbv
   refine cgn rfl hg rfl rfl hU _root_.id rfl ⟨rfl,trivial⟩ rfl rfl rfl ?_
   rintro _ _ _ ⟨rfl,rfl,rfl⟩ _
   refine⟨rfl,?_⟩
   cbv
   rw[g3]
   cbv
   refine ssl hg rfl rfl rfl rfl rfl hSl ?_
   cbv
   exact hK _ _ _ ⟨rfl,rfl⟩
end Go.Proofs.YtdhmihfefgcbeaaGreat
namespace Go.Proofs.YtdhmihfefgcbeaaGreat
open Go.Vg Go.RowKit
set_option maxRecDepth 20000
theorem pow256{i q r:Nat}(hi:i=8*q+r):256^i=256^r*0x10000000000000000^q:=by
 rw[hi,Nat.pow_add,Nat.pow_mul,Nat.mul_comm]
theorem byt_top{y i q r:Nat}(hi:i=8*q+r)(hy:y<256^i):y/0x10000000000000000^q<256^r:=by
 rw[Nat.div_lt_iff_lt_mul (Nat.pow_pos (by decide)),<-pow256 hi];exact hy
theorem byt_step{y d i q r:Nat}(hi:i=8*q+r)(hr:r<8)(hy:y<256^i)(hd:d<256)(j:Nat):hexw (y+d*256^i) j=if j=q then hexw y q+d*256^r else hexw y j:=by
 have ht:=byt_top hi hy
 have h16:256^r*256<=0x10000000000000000:=by
  have h:=Nat.pow_le_pow_right (show 0<256 by decide) (show r+1<=8 by omega)
  rw[Nat.pow_succ]at h
  exact Nat.le_trans h (Nat.le_of_eq (by decide))
 have hm:d*256^r+256^r<=256^r*256:=by
  have h:=Nat.mul_le_mul_right (256^r) (show d+1<=256 from hd)
  rw[Nat.add_mul,Nat.one_mul]at h
  rw[Nat.mul_comm (256^r)];exact h
 have hy':y+d*256^i<0x10000000000000000^(q+1):=by
  have h:=Nat.mul_le_mul_right (256^i) (show d+1<=256 from hd)
  rw[Nat.add_mul,Nat.one_mul]at h
  have h2:256*256^i<=0x10000000000000000^(q+1):=by
   rw[pow256 hi,Nat.pow_succ,<-Nat.mul_assoc,Nat.mul_comm 256,Nat.mul_comm (0x10000000000000000^q)]
   exact Nat.mul_le_mul_right _ h16
  omega
 unfold hexw
 by_cases h:j=q
 ·subst h
  rw[if_pos rfl,pow256 hi,<-Nat.mul_assoc,Nat.add_mul_div_right _ _ (Nat.pow_pos (by decide))]
  rw[Nat.mod_eq_of_lt (by omega),Nat.mod_eq_of_lt (by omega)]
 ·rw[if_neg h]
  by_cases hj:j<q
  ·obtain⟨k,rfl⟩:∃k,q=j+1+k:=⟨q-(j+1),by omega⟩
   have e:d*256^i=(d*256^r*0x10000000000000000^k*0x10000000000000000)*0x10000000000000000^j:=by
    rw[pow256 hi,Nat.pow_add,Nat.pow_succ]
    simp only[Nat.mul_assoc,Nat.mul_comm,Nat.mul_left_comm]
   rw[e,Nat.add_mul_div_right _ _ (Nat.pow_pos (by decide)),Nat.add_mul_mod_self_right]
  ·have hle:=Nat.pow_le_pow_right (show 0<0x10000000000000000 by decide) (show q+1<=j by omega)
   rw[Nat.div_eq_of_lt (Nat.lt_of_lt_of_le hy' hle),Nat.div_eq_of_lt (Nat.lt_of_le_of_lt (Nat.le_add_right _ _) (Nat.lt_of_lt_of_le hy' hle))]
theorem byt_or{y d i q r:Nat}(hi:i=8*q+r)(hr:r<8)(hy:y<256^i)(hd:d<256):hexw y q|||(d*2^(8*r)%0x10000000000000000)=hexw y q+d*256^r:=by
 have ht:=byt_top hi hy
 have e:2^(8*r)=256^r:=by rw[Nat.pow_mul]
 have h16:256^r*256<=0x10000000000000000:=by
  have h:=Nat.pow_le_pow_right (show 0<256 by decide) (show r+1<=8 by omega)
  rw[Nat.pow_succ]at h
  exact Nat.le_trans h (Nat.le_of_eq (by decide))
 have hm:d*256^r+256^r<=256^r*256:=by
  have h:=Nat.mul_le_mul_right (256^r) (show d+1<=256 from hd)
  rw[Nat.add_mul,Nat.one_mul]at h
  rw[Nat.mul_comm (256^r)];exact h
 have hp:0<256^r:=Nat.pow_pos (by decide)
 have hw:hexw y q=y/0x10000000000000000^q:=Nat.mod_eq_of_lt (by omega)
 rw[hw,Nat.or_comm,Nat.mod_eq_of_lt (by rw[e];omega),or_add (by rw[e];exact ht),e,Nat.add_comm]
theorem byt_next(x i:Nat):x%256^i+x/256^i%256*256^i=x%256^(i+1):=by
 rw[Nat.pow_succ,Nat.mod_mul,Nat.mul_comm]
theorem word_bound{l:List Nat}(h:∀x∈l,x<256):Sh.word l<256^l.length:=by
 have:=Sh.word_lt l h l.length (Nat.le_refl _)
 rwa [List.take_length]at this
theorem word_div{l:List Nat}(h:∀x∈l,x<256):∀k,k<=l.length->Sh.word l/256^k=Sh.word (l.take (l.length-k))
 |0,_=>by rw[Nat.pow_zero,Nat.div_one,Nat.sub_zero,List.take_length]
 |k+1,hk=>by
  have e:l.length-k=(l.length-(k+1))+1:=by omega
  rw[Nat.pow_succ,<-Nat.div_div_eq_div_mul,word_div h k (by omega),e,Sh.word_take l (by omega)]
  have hx:l.getD (l.length-(k+1)) 0<256:=by
   rw[List.getD_eq_getElem?_getD,List.getElem?_eq_getElem (by omega)]
   exact h _ (List.getElem_mem _)
  omega
theorem word_byte{l:List Nat}(h:∀x∈l,x<256){i:Nat}(hi:i<l.length):Sh.word l/256^i%256=l.getD (l.length-1-i) 0:=by
 have e:l.length-i=(l.length-1-i)+1:=by omega
 rw[word_div h i (by omega),e,Sh.word_take l (by omega)]
 have hx:l.getD (l.length-1-i) 0<256:=by
  rw[List.getD_eq_getElem?_getD,List.getElem?_eq_getElem (by omega)]
  exact h _ (List.getElem_mem _)
 omega
set_option maxRecDepth 200000
set_option cbv.maxSteps 100000000
theorem cNatOf{P:Program}(hP:P=Tryz.prog)(s:ByteArray)(hn2:s.size<=72)(r:Nat->Nat)(hr:Wn 9 r)(hrV:V 9 r=Sh.word (bl s)):
 Con P 77 [.str s] [] 0 [] (fun v _ _=>v= .tup [.agg (ws r 9),.int .i64 0]):=by
 obtain⟨n,hn⟩:=exq s.size
 obtain⟨x,hx⟩:=exq (Sh.word (bl s))
 have hxb:x<256^n:=by
  have:=word_bound (bl_lt s)
  rw[bll]at this
  rw[hx,hn];exact this
 rw[<-hx]at hrV
 have hs:∀i,i<n->(s[n-1-i]?).map (fun b=>(b.toNat:Int))=some (Int.ofNat (x/256^i%256)):=fun i h=>by
  have hl:(bl s).length=n:=by rw[bll,hn]
  rw[hx,word_byte (bl_lt s) (by rw[hl];exact h),hl,List.getD_eq_getElem?_getD]
  have hk:n-1-i<s.data.size:=by show n-1-i<s.size;omega
  rw[show s[n-1-i]? =some (s.data[n-1-i])from by
   rw[getElem?_pos s (n-1-i) hk];rfl]
  unfold bl
  rw[List.getElem?_map,List.getElem?_eq_getElem (by rw[Array.length_toList];exact hk)]
  rfl
 refine cof hP Tryz.func77 (bdb _ rfl) (bkb rfl) ?_
 intro A g K hA hg hK
 obtain⟨bin,sh,cmp,_,cvt,ix,nn,nz,_,_,_,_,slen,six,_,off,_,_,sub⟩:=A
 have en:slen s=Int.ofNat n:=(slen_of hA s).trans (by rw[hn])
 have es:∀i,i<n->six s (Int.ofNat (n-1-i))=some (Int.ofNat (x/256^i%256)):=fun i h=>by
  have e:six=Ar.real.six:=congrArg Ar.six hA
  rw[e]
  show(if 0<=Int.ofNat (n-1-i)then(s[(Int.ofNat (n-1-i)).toNat]?).map fun b=>(b.toNat:Int)else none)=_
  rw[if_pos (show(0:Int)<=Int.ofNat (n-1-i)from Int.natCast_nonneg _)]
  exact hs i h
 have f1t:∀x y,x<y->cmp .lss (.ofNat x) (.ofNat y)=true:=fun x y h=>lss_t hA h
 have f1f:∀x y,¬x<y->cmp .lss (.ofNat x) (.ofNat y)=false:=fun x y h=>lss_f hA h
 have f2:∀i,i<9->ix (.ofNat i) 9=some i:=fun i h=>ix_of hA h
 have f3:∀i,off 0 i 1=i:=fun i=>(off_of hA 0 i 1).trans (by omega)
 have f4:=fun(f:Nat->Nat) (i:Nat) (h:i<9)=>getW hA .u64 (n:=9) f h
 have f5:=fun(f g:Nat->Nat) (i v:Nat) (h:i<9) (e:g=fun j=>if j=i then v else f j)=>splW hA .u64 (n:=9) f g h e
 have f6:cmp .gtr (.ofNat n) 72=false:=gtr_f hA (a:=n) (b:=72) (by omega)
 have znz:nz 8=true:=nz_t hA (a:=8) (by decide)
 simp only[lst,Nat.reduceAdd]at f4 f5
 clear hs
 cbv
 rw[en]
 cbv
 rw[f6]
 cbv
 rw[en]
 refine lpb (Nat×(Nat->Nat)) (fun σ=>σ.1<=n/\∀j,σ.2 j=hexw (x%256^σ.1) j) (fun σ=>n-σ.1)
  (fun σ=> [(13,.int .i64 (.ofNat σ.1))]) [0,2,3,4,12] (fun σ=> [(1,ws σ.2 9)]) (0,fun _=>0) ⟨Nat.zero_le _,?_⟩ ?_ ?_
 ·intro j
  show 0=hexw (x%256^0) j
  rw[Nat.pow_zero,Nat.mod_one,hexw,Nat.zero_div,Nat.zero_mod]
 ·exact wkid
 rintro⟨i,f⟩ ⟨hi',hf'⟩
 have hi:i<=n:=hi'
 have hf:∀j,f j=hexw (x%256^i) j:=hf'
 clear hi' hf'
 by_cases hlt:i<n
 ·obtain⟨d,hd⟩:=exq (x/256^i%256)
  have hd16:d<256:=by rw[hd];exact Nat.mod_lt _ (by decide)
  obtain⟨k,hk⟩:=exq (n-1-i)
  have e1:=es i hlt
  rw[<-hd,<-hk]at e1
  obtain⟨k1,hk1⟩:=exq (n-1)
  have e2:bin .sub .i64 (.ofNat n) 1=Int.ofNat k1:=(subI hA (a:=n) (b:=1) (by omega) (by omega)).trans (by rw[hk1])
  have e3:bin .sub .i64 (.ofNat k1) (.ofNat i)=Int.ofNat k:=(subI hA (by omega) (by omega)).trans (by rw[hk,hk1])
  have e5:cvt .u64 (.ofNat d)=Int.ofNat d:=cvtI hA (fun h=>by cases h) (fun _=>by show d<0x10000000000000000;omega)
  obtain⟨q,hq⟩:=exq (i/8)
  obtain⟨t,ht⟩:=exq (i%8)
  have hiq:i=8*q+t:=by rw[hq,ht];exact(Nat.div_add_mod i 8).symm
  have ht16:t<8:=by rw[ht];exact Nat.mod_lt _ (by decide)
  have hq9:q<9:=by omega
  have e6:bin .quo .i64 (.ofNat i) 8=Int.ofNat q:=(quoI hA (a:=i) (b:=8) (by omega)).trans (by rw[hq])
  have e7:bin .rem .i64 (.ofNat i) 8=Int.ofNat t:=(remW hA (k:= .i64) i 8).trans (by rw[ht])
  obtain⟨t4,ht4⟩:=exq (8*t)
  have e8:bin .mul .i64 8 (.ofNat t)=Int.ofNat t4:=(mulI hA (a:=8) (b:=t) (by omega)).trans (by rw[ht4])
  obtain⟨y,hy⟩:=exq (d*2^t4%0x10000000000000000)
  have e9:sh .shl .u64 (.ofNat d) (.ofNat t4)=Int.ofNat y:=shl64 hA (by omega) hy
  obtain⟨z,hz⟩:=exq (f q|||y)
  have hyx:x%256^i<256^i:=Nat.mod_lt _ (Nat.pow_pos (by decide))
  have hfq:=hf q
  have e10:bin .or .u64 (.ofNat (f q)) (.ofNat y)=Int.ofNat z:=or64 hA (by rw[hfq];exact hexw_lt _ _) (by rw[hy];exact Nat.mod_lt _ (by decide)) hz
  have hzv:z=hexw (x%256^i) q+d*256^t:=by rw[hz,hfq,hy,ht4];exact byt_or hiq ht16 hyx hd16
  obtain⟨f',hf'⟩:=exq (fun j=>if j=q then z else f j:Nat->Nat)
  have e11:=f4 f q hq9
  have e12:=f5 f f' q z hq9 hf'
  have e13:=f2 q hq9
  have e14:=f3 q
  have e15:bin .add .i64 (.ofNat i) 1=Int.ofNat (i+1):=addI hA (b:=1) (by omega)
  have znn:nn (.ofNat t4)=true:=nn_t hA t4
  have hnext:∀j,f' j=hexw (x%256^(i+1)) j:=fun j=>by
   rw[<-byt_next,<-hd,byt_step hiq ht16 hyx hd16 j,hf']
   show(if j=q then z else f j)=_
   rw[hzv,hf j]
  obtain⟨i1,hi1⟩:=exq (i+1)
  rw[<-hi1]at e15 hnext
  cbv
  rw[f1t i n hlt]
  cbv
  rw[en]
  cbv
  rw[e2]
  cbv
  rw[e3]
  cbv
  refine rgM hP hA hg fun mk _=> ?_
  cbv
  rw[e6]
  cbv
  rw[e13]
  cbv
  rw[e14,e11]
  cbv
  rw[e1]
  cbv
  rw[e5]
  cbv
  rw[e7]
  cbv
  rw[e8]
  cbv
  rw[znn]
  cbv
  rw[e9]
  cbv
  rw[e10]
  cbv
  rw[e13]
  cbv
  rw[e14,e12]
  cbv
  rw[e15]
  refine⟨(i1,f'),id,⟨by show i1<=n;omega,hnext⟩,(by show n-i1<n-i;omega),?_⟩
  exact wkid
 ·obtain rfl:i=n:=by omega
  have hend:ws f 9=ws r 9:=by
   refine V_inj (fun j _=>by rw[hf];exact hexw_lt _ _) hr ?_
   rw[show V 9 f=V 9 (hexw (x%256^i))from Dg.num_congr 9 fun j _=>hf j,V_hexw,hrV,Nat.mod_eq_of_lt hxb]
   refine Nat.mod_eq_of_lt (Nat.lt_of_lt_of_le hxb ?_)
   exact Nat.le_trans (Nat.pow_le_pow_right (by decide) (show i<=72 by omega)) (by decide)
  simp only[ws,lst,Nat.reduceAdd]at hend
  cbv
  rw[f1f i i hlt]
  cbv
  refine hK _ _ _ ?_
  simp only[ws,lst,Nat.reduceAdd]
  rw[hend]
  rfl
theorem cDGenE{P:Program}(hP:P=Tryz.prog)(id:Nat)(k v m:ByteArray)(n sz:Nat)(hms:m.size<=256)(hsz:sz<=256)(hn:64<n)(hn2:n<2^40):
 Con P 29 [.ptr 0 0,.int .i64 (.ofNat sz),.str m] [⟨0,[.int .i64 (.ofNat id),.str k,.str v,.int .i64 (.ofNat n)],100⟩] 1 [] (fun w _ _=>w= .tup [.str ⟨#[]⟩,.int .i64 1103]):=by
 obtain⟨mz,hmz⟩:=exq m.size
 refine cof hP Tryz.func29 ⟨(by show 0<1;decide),trivial,trivial,trivial⟩ (bkb rfl) ?_
 intro A g K hA hg hK
 obtain⟨_,_,cmp,_,_,_,_,_,_,_,_,_,slen⟩:=A
 have f1:cmp .lss (.ofNat sz) 0=false:=lss_f hA (a:=sz) (b:=0) (by omega)
 have f2:cmp .gtr (.ofNat sz) 256=false:=gtr_f hA (a:=sz) (b:=256) (by omega)
 have f3:slen m=Int.ofNat mz:=(slen_of hA m).trans (by rw[hmz])
 have f4:cmp .gtr (.ofNat mz) 256=false:=gtr_f hA (a:=mz) (b:=256) (by omega)
 have f5:cmp .gtr (.ofNat n) 64=true:=gtr_t hA (a:=n) (b:=64) (by omega)
 cbv
 rw[f1]
 cbv
 rw[f2]
 cbv
 rw[f3]
 cbv
 rw[f4]
 cbv
 rw[f5]
 cbv
 exact hK _ _ _ rfl
def tryD(sz sh:Nat)(D:Sh.Dr):Nat×Sh.Dr:=(Sh.word (Sh.generate D sz []).1/2^sh,(Sh.generate D sz []).2)
theorem cTry{P:Program}(hP:P=Tryz.prog)(c:Nat){p a b nn gx gy th:Nat->Nat}{bits size:Nat}(leg:Bool)(hC:Cv c p a b nn gx gy th bits size)(hbits:1<=bits/\bits<=576)(id:Nat)(hid2:1<=id/\id<=2)(k v:ByteArray)(n sz s8:Nat)(hsz:sz=(bits+7)/8)(hs8:s8=8*sz-bits)(hks:k.size=Sh.size id)(hvs:v.size=Sh.size id)(hn:n<=64)
 (k' v':ByteArray) (hk':bl k'=(tryD sz s8 ⟨id,bl k,bl v,n⟩).2.k) (hv':bl v'=(tryD sz s8 ⟨id,bl k,bl v,n⟩).2.v) (d:Nat->Nat) (hd:Wn 9 d) (hdV:V 9 d=(tryD sz s8 ⟨id,bl k,bl v,n⟩).1) (r:Bool) (hr:r=(decide (V 9 d≠0)&&decide (V 9 d<V 9 nn))):
 Con P 48 [.ptr 0 0,.fn (.func 29) [.ptr 2 0] []] [⟨0,ccells c p a b nn gx gy th bits size leg 1,115⟩,⟨2,[.int .i64 (.ofNat id),.str k,.str v,.int .i64 (.ofNat n)],100⟩] 3 [2]
  (fun w L q=>w= .tup [.agg (ws d 9),.bool r,.int .i64 0]/\L=[⟨2,[.int .i64 (.ofNat id),.str k',.str v',.int .i64 (.ofNat (n+1))],100⟩]/\q=3):=by
 have hid:1<=id/\id<=4:=⟨hid2.1,Nat.le_trans hid2.2 (by decide)⟩
 suffices raw:Con P 48 [.ptr 0 0,.fn (.func 29) [.ptr 2 0] []] [⟨0,ccells c p a b nn gx gy th bits size leg 1,115⟩,⟨2,[.int .i64 (.ofNat id),.str k,.str v,.int .i64 (.ofNat n)],100⟩] 3 [2]
  (fun w L q=>w= .tup [.agg (ws d 9),.bool r,.int .i64 0]/\find L 2=some ⟨2,[.int .i64 (.ofNat id),.str k',.str v',.int .i64 (.ofNat (n+1))],100⟩)from
  raw.weak fun w L q ⟨h1,h2⟩=>⟨_root_.id,.tup [.agg (ws d 9),.bool r,.int .i64 0],_,3,by subst h1;exact weak_id ⟨rfl,rfl,trivial⟩ ⟨h2,rfl,rfl,trivial⟩ rfl rfl,rfl,rfl,rfl⟩
 have hszb:1<=sz/\sz<=72:=by omega
 have hs8b:s8<8:=by omega
 obtain⟨G,hG⟩:=exq (Sh.generate ⟨id,bl k,bl v,n⟩ sz [])
 have hok:Sh.Ok ⟨id,bl k,bl v,n⟩:=⟨hid,by rw[bll,hks],by rw[bll,hvs],bl_lt k,bl_lt v⟩
 have hGl:G.1.length<=72:=by
  rw[hG];unfold Sh.generate
  rw[List.length_take];omega
 have hGb:∀x∈G.1,x<256:=fun x hx=>by
  rw[hG]at hx;unfold Sh.generate at hx
  exact Sh.gen_b _ _ _ _ x (List.mem_of_mem_take hx)
 obtain⟨s,hs⟩:∃s,bl s=G.1:=⟨mkB G.1,bmk hGb⟩
 have hss:s.size<=72:=by rw[<-bll,hs];exact hGl
 unfold tryD at hk' hv' hdV
 rw[<-hG]at hk' hv' hdV
 have hGen:=cDGen hP id hid2 k v ⟨#[]⟩ n sz hks hvs (by decide) (by omega) hn s k' v' (by rw[hs,hG];rfl) (by rw[hk',hG];rfl) (by rw[hv',hG];rfl)
 obtain⟨w,hw,hwV⟩:∃w:Nat->Nat,Wn 9 w/\V 9 w=Sh.word (bl s):=by
  refine⟨hexw (Sh.word (bl s)),fun j _=>hexw_lt _ _,?_⟩
  rw[V_hexw]
  refine Nat.mod_eq_of_lt (Nat.lt_of_lt_of_le (word_bound (bl_lt s)) ?_)
  rw[bll]
  exact Nat.le_trans (Nat.pow_le_pow_right (by decide) hss) (by decide)
 have hOf:=cNatOf hP s hss w hw hwV
 have hSh:=cShr hP w d hw hd s8 (by omega) (by rw[hdV,hwV,hs])
 have hBy:=cBytes hP c p a b nn gx gy th bits size leg (by omega) sz hsz
 have hKe:=cKey hP c p a b nn gx gy th d bits size leg hC.wn hd r hr
 clear hG hGl hGb hs hwV hk' hv' hdV hr hok
 refine cof hP Tryz.func48 ⟨(by show 0<3;decide),⟨⟨(by show 2<3;decide),trivial⟩,trivial⟩,trivial⟩ (bkb rfl) ?_
 intro A g K hA hg hK
 obtain⟨bin,_,cmp,_,_,_,nn,_,_,_,_,_,_,_,_,_,_,_,sub⟩:=A
 have e0:cmp .neq 0 0=false:=neq_f hA (a:=0) (b:=0) rfl
 obtain⟨s9,hs9⟩:=exq (8*sz)
 have e1:bin .mul .i64 8 (.ofNat sz)=Int.ofNat s9:=(mulI hA (a:=8) (b:=sz) (by omega)).trans (by rw[hs9])
 have e2:bin .sub .i64 (.ofNat s9) (.ofNat bits)=Int.ofNat s8:=(subI hA (by omega) (by omega)).trans (by rw[hs8,hs9])
 cbv
 refine cro rfl hg rfl rfl hBy _root_.id rfl ⟨rfl,trivial⟩ ?_
 rintro _ _ _ rfl
 refine⟨trivial,trivial,?_⟩
 cbv
 refine cgn rfl hg rfl rfl hGen (fun _=>2) rfl ⟨rfl,trivial⟩ rfl rfl rfl ?_
 rintro _ _ _ ⟨rfl,rfl,rfl⟩ _
 refine⟨rfl,?_⟩
 cbv
 rw[e0]
 cbv
 refine cva rfl hg rfl rfl hOf ?_
 rintro _ _ _ rfl
 refine⟨by simp[bd,bdL,ws,lst],?_⟩
 cbv
 refine reg_A (hP▸tblOk) hA hg (hP▸mixed) rfl rfl ?_
 cbv
 refine stepD (enr rfl hg rfl rfl hBy _root_.id rfl ⟨rfl,trivial⟩ (fun _ _ _ h=>h) trivial) ?_
 cbv
 rw[e1]
 cbv
 rw[e2]
 cbv
 refine stepD (en_val rfl hg rfl rfl hSh (fun _ _ _ h=>h) (by simp[bd,bdL,ws,lst])) ?_
 cbv
 refine reg_A (hP▸tblOk) hA hg (hP▸mixed) rfl rfl ?_
 cbv
 refine stepD (enr rfl hg rfl rfl hKe _root_.id rfl ⟨rfl,trivial⟩ (fun _ _ _ h=>h) trivial) ?_
 cbv
 exact hK _ _ _ ⟨rfl,rfl⟩
theorem cTryE{P:Program}(hP:P=Tryz.prog)(c:Nat){p a b nn gx gy th:Nat->Nat}{bits size:Nat}(leg:Bool)(hbits:1<=bits/\bits<=576)(id:Nat)(k v:ByteArray)(n:Nat)(hn:64<n)(hn2:n<2^40):
 Con P 48 [.ptr 0 0,.fn (.func 29) [.ptr 2 0] []] [⟨0,ccells c p a b nn gx gy th bits size leg 1,115⟩,⟨2,[.int .i64 (.ofNat id),.str k,.str v,.int .i64 (.ofNat n)],100⟩] 3 []
  (fun w _ _=>w= .tup [.agg (ws (fun _=>0) 9),.bool false,.int .i64 1103]):=by
 obtain⟨sz,hsz⟩:=exq ((bits+7)/8)
 have hGen:=cDGenE hP id k v ⟨#[]⟩ n sz (by decide) (by omega) hn hn2
 have hBy:=cBytes hP c p a b nn gx gy th bits size leg (by omega) sz hsz
 refine cof hP Tryz.func48 ⟨(by show 0<3;decide),⟨⟨(by show 2<3;decide),trivial⟩,trivial⟩,trivial⟩ (bkb rfl) ?_
 intro A g K hA hg hK
 obtain⟨_,_,cmp,_,_,_,nn⟩:=A
 have e0:cmp .neq 1103 0=true:=neq_t hA (a:=1103) (b:=0) (by decide)
 cbv
 refine cro rfl hg rfl rfl hBy _root_.id rfl ⟨rfl,trivial⟩ ?_
 rintro _ _ _ rfl
 refine⟨trivial,trivial,?_⟩
 cbv
 refine cro rfl hg rfl rfl hGen (fun _=>2) rfl ⟨rfl,trivial⟩ ?_
 rintro _ _ _ rfl
 refine⟨⟨trivial,trivial,trivial⟩,⟨trivial,trivial,trivial⟩,?_⟩
 cbv
 rw[e0]
 cbv
 exact hK _ _ _ rfl
def mkS(sz sh N:Nat):Nat->Sh.Dr->Nat×Nat×Nat×Sh.Dr
 |0,D=>(0,0,2403,D)
 |f+1,D=>if 64<D.n then(0,0,2402,D)else
   if(tryD sz sh D).1≠0/\(tryD sz sh D).1<N then((tryD sz sh D).1,1,0,(tryD sz sh D).2)else
    ((mkS sz sh N f (tryD sz sh D).2).1,(mkS sz sh N f (tryD sz sh D).2).2.1+1,(mkS sz sh N f (tryD sz sh D).2).2.2.1,(mkS sz sh N f (tryD sz sh D).2).2.2.2)
theorem generate_eq(id:Nat)(k v:List Nat)(n sz:Nat):(Sh.generate ⟨id,k,v,n⟩ sz []).2.id=id/\(Sh.generate ⟨id,k,v,n⟩ sz []).2.n=n+1:=by
 simp[Sh.generate,Sh.upd_id,Sh.upd_n]
theorem generate_ok{D:Sh.Dr}(h:Sh.Ok D)(sz:Nat):Sh.Ok (Sh.generate D sz []).2:=by
 have h1:Sh.Ok ⟨D.id,D.k,(Sh.gen D.id D.k ((sz+Sh.size D.id-1)/Sh.size D.id) D.v).2,D.n⟩:=⟨h.id,h.kl,Sh.gen_len2 h.id _ _ h.vl _,h.kb,Sh.gen_b2 _ _ _ h.vb _⟩
 have h2:=h1.upd []
 exact⟨h2.id,h2.kl,h2.vl,h2.kb,h2.vb⟩
theorem generate_n(D:Sh.Dr)(sz:Nat):(Sh.generate D sz []).2.id=D.id/\(Sh.generate D sz []).2.n=D.n+1:=generate_eq D.id D.k D.v D.n sz
theorem mkS_ok(sz sh N:Nat)(hN:0<N):∀f {D:Sh.Dr},Sh.Ok D->Sh.Ok (mkS sz sh N f D).2.2.2/\(mkS sz sh N f D).2.2.2.id=D.id/\(mkS sz sh N f D).2.2.2.n<=D.n+f/\(mkS sz sh N f D).1<N/\(mkS sz sh N f D).2.1<=f
 |0,D,h=>⟨h,rfl,Nat.le_refl _,hN,Nat.le_refl _⟩
 |f+1,D,h=>by
  unfold mkS
  split
  ·exact⟨h,rfl,Nat.le_add_right _ _,hN,Nat.zero_le _⟩
  ·have hg:=generate_ok h sz
   obtain⟨g1,g2⟩:=generate_n D sz
   split
   ·rename_i hgood
    exact⟨hg,g1,by show(tryD sz sh D).2.n<=_;unfold tryD;rw[g2];omega,hgood.2,by show 1<=f+1;omega⟩
   ·obtain⟨m1,m2,m3,m4,m5⟩:=mkS_ok sz sh N hN f (D:=(tryD sz sh D).2) hg
    have e1:(tryD sz sh D).2.id=D.id:=g1
    have e2:(tryD sz sh D).2.n=D.n+1:=g2
    exact⟨m1,by rw[m2,e1],by show(mkS sz sh N f (tryD sz sh D).2).2.2.2.n<=_;omega,m4,by show _+1<=f+1;omega⟩
theorem cMakeN{P:Program}(hP:P=Tryz.prog)(c:Nat)(hc:1<=c/\c<=15):Con P 21 [.int .i64 (.ofNat c),.nilp] [] 0 [] (fun w _ _=>w= .tup [.agg (ws (fun _=>0) 9),.int .i64 0,.int .i64 1]):=by
 obtain⟨p,dv,m,s,a,b,nn,gx,gy,th,bits,size,hC,hD,hO⟩:=cOpen hP c hc (legK c) rfl
 obtain⟨leg,hleg⟩:=exq (legK c)
 rw[<-hleg]at hO
 refine cof hP Tryz.func21 (bdb _ rfl) (bkb rfl) ?_
 intro A g K hA hg hK
 obtain⟨_,_,_,_,_,_,nn⟩:=A
 cbv
 refine cgn rfl hg rfl rfl hO _root_.id rfl trivial rfl rfl rfl ?_
 rintro _ _ _ ⟨rfl,rfl,rfl⟩ _
 refine⟨rfl,?_⟩
 cbv
 exact hK _ _ _ rfl
theorem cMake{P:Program}(hP:P=Tryz.prog)(c:Nat)(hc:1<=c/\c<=15)(bits sz s8 N:Nat)(hb:IsBl N bits)(hN:N=EC.cn c)(hbits:1<=bits/\bits<=576)(hsz:sz=(bits+7)/8)(hs8:s8=8*sz-bits)
 (id:Nat) (hid2:1<=id/\id<=2) (k v:ByteArray) (n:Nat) (hks:k.size=Sh.size id) (hvs:v.size=Sh.size id) (hn:n<2^30)
 (R:Nat×Nat×Nat×Sh.Dr) (hR:R=mkS sz s8 N 64 ⟨id,bl k,bl v,n⟩):
 ∃ (d:Nat->Nat) (k' v':ByteArray),Wn 9 d/\V 9 d=R.1/\bl k'=R.2.2.2.k/\bl v'=R.2.2.2.v/\k'.size=Sh.size id/\v'.size=Sh.size id/\R.2.2.2.id=id/\R.2.2.2.n<=n+64/\
 Con P 21 [.int .i64 (.ofNat c),.ptr 0 0] [⟨0,[.int .i64 (.ofNat id),.str k,.str v,.int .i64 (.ofNat n)],100⟩] 1 [0]
  (fun w L q=>w= .tup [.agg (ws d 9),.int .i64 (.ofNat R.2.1),.int .i64 (.ofNat R.2.2.1)]/\L=[⟨0,[.int .i64 (.ofNat id),.str k',.str v',.int .i64 (.ofNat R.2.2.2.n)],100⟩]/\q=1):=by
 have hid:1<=id/\id<=4:=⟨hid2.1,Nat.le_trans hid2.2 (by decide)⟩
 have hN0:0<N:=by
  have:=hb.2 hbits.1
  have h2:=Nat.two_pow_pos (bits-1)
  omega
 have hok:Sh.Ok ⟨id,bl k,bl v,n⟩:=⟨hid,by rw[bll,hks],by rw[bll,hvs],bl_lt k,bl_lt v⟩
 obtain⟨m1,m2,m3,m4,m5⟩:=mkS_ok sz s8 N hN0 64 hok
 rw[<-hR]at m1 m2 m3 m4 m5
 have m2':R.2.2.2.id=id:=m2
 have hNb:N<0x10000000000000000^9:=Nat.lt_of_lt_of_le hb.1 (Nat.le_trans (Nat.pow_le_pow_right (by decide) hbits.2) (Nat.le_of_eq (W9 (b:=576) rfl).symm))
 obtain⟨d,hd⟩:=exq (hexw R.1)
 have wd:Wn 9 d:=fun j _=>by rw[hd];exact hexw_lt _ _
 have vd:V 9 d=R.1:=by rw[hd,V_hexw,Nat.mod_eq_of_lt (by omega)]
 obtain⟨k',hk'⟩:∃x,bl x=R.2.2.2.k:=⟨mkB R.2.2.2.k,bmk m1.kb⟩
 obtain⟨v',hv'⟩:∃x,bl x=R.2.2.2.v:=⟨mkB R.2.2.2.v,bmk m1.vb⟩
 refine⟨d,k',v',wd,vd,hk',hv',by rw[<-bll,hk',m1.kl,m2'],by rw[<-bll,hv',m1.vl,m2'],m2',m3,?_⟩
 obtain⟨p,dv,m,s,a,b,nw,gx,gy,th,bits',size,hC,hD,hO⟩:=cOpen hP c hc (legK c) rfl
 obtain rfl:bits'=bits:=by
  have h1:IsBl N bits':=by rw[hN,(same_nums hc).2.2.2.1];exact hC.bits
  exact h1.uniq hb
 have hnw:V 9 nw=N:=by rw[hC.vn,hN,(same_nums hc).2.2.2.1]
 obtain⟨leg,hleg⟩:=exq (legK c)
 rw[<-hleg]at hO
 suffices raw:Con P 21 [.int .i64 (.ofNat c),.ptr 0 0] [⟨0,[.int .i64 (.ofNat id),.str k,.str v,.int .i64 (.ofNat n)],100⟩] 1 [0]
  (fun w L q=>w= .tup [.agg (ws d 9),.int .i64 (.ofNat R.2.1),.int .i64 (.ofNat R.2.2.1)]/\find L 0=some ⟨0,[.int .i64 (.ofNat id),.str k',.str v',.int .i64 (.ofNat R.2.2.2.n)],100⟩)from
  raw.weak fun w L q ⟨h1,h2⟩=>⟨_root_.id,.tup [.agg (ws d 9),.int .i64 (.ofNat R.2.1),.int .i64 (.ofNat R.2.2.1)],_,1,by subst h1;exact weak_id ⟨rfl,rfl,trivial⟩ ⟨h2,rfl,rfl,trivial⟩ rfl rfl,rfl,rfl,rfl⟩
 have fin:∀ (x:Nat->Nat) (k1 v1:ByteArray) (n1 i e:Nat),Wn 9 x->V 9 x=R.1->bl k1=R.2.2.2.k->bl v1=R.2.2.2.v->n1=R.2.2.2.n->i=R.2.1->e=R.2.2.1->ws x 9=ws d 9/\k1=k'/\v1=v'/\n1=R.2.2.2.n/\i=R.2.1/\e=R.2.2.1:=fun x k1 v1 n1 i e h1 h2 h3 h4 h5 h6 h7=>
  ⟨V_inj h1 wd (h2.trans vd.symm),bl_inj (h3.trans hk'.symm),bl_inj (h4.trans hv'.symm),h5,h6,h7⟩
 obtain⟨tr,htr⟩:=exq R.2.1
 obtain⟨co,hco⟩:=exq R.2.2.1
 obtain⟨nr,hnr⟩:=exq R.2.2.2.n
 rw[<-htr,<-hco,<-hnr]at fin⊢
 clear hk' hv' vd m1 m2 m3 m4 m5
 refine cof hP Tryz.func21 ⟨trivial,(by show 0<1;decide),trivial⟩ (bkb rfl) ?_
 intro A g K hA hg hK
 obtain⟨bin,_,cmp,_,_,_,nn⟩:=A
 have e0:cmp .neq 0 0=false:=neq_f hA (a:=0) (b:=0) rfl
 have e1:cmp .neq 1103 0=true:=neq_t hA (a:=1103) (b:=0) (by decide)
 have f1:∀i,i<64->cmp .lss (.ofNat i) 64=true:=fun i h=>lss_t hA (b:=64) h
 have f2:cmp .lss (.ofNat 64) 64=false:=lss_f hA (a:=64) (b:=64) (by omega)
 have f3:∀i,i<64->bin .add .i64 (.ofNat i) 1=Int.ofNat (i+1):=fun i h=>add_of hA (by omega)
 cbv
 refine cgn rfl hg rfl rfl hO (fun l=>l) rfl trivial rfl rfl rfl ?_
 rintro _ _ _ ⟨rfl,rfl,rfl⟩ _
 refine⟨rfl,?_⟩
 cbv
 refine lpb (Nat×ByteArray×ByteArray×Nat) (fun σ=>σ.1<=64/\σ.2.1.size=Sh.size id/\σ.2.2.1.size=Sh.size id/\σ.2.2.2<=n+σ.1/\R=((mkS sz s8 N (64-σ.1) ⟨id,bl σ.2.1,bl σ.2.2.1,σ.2.2.2⟩).1,(mkS sz s8 N (64-σ.1) ⟨id,bl σ.2.1,bl σ.2.2.1,σ.2.2.2⟩).2.1+σ.1,(mkS sz s8 N (64-σ.1) ⟨id,bl σ.2.1,bl σ.2.2.1,σ.2.2.2⟩).2.2.1,(mkS sz s8 N (64-σ.1) ⟨id,bl σ.2.1,bl σ.2.2.1,σ.2.2.2⟩).2.2.2)) (fun σ=>64-σ.1)
  (fun σ=> [(25,.int .i64 (.ofNat σ.1))]) [0,1,4,7,8] (fun σ=> [(0,[.int .i64 (.ofNat id),.str σ.2.1,.str σ.2.2.1,.int .i64 (.ofNat σ.2.2.2)])]) (0,k,v,n) ⟨Nat.zero_le _,hks,hvs,Nat.le_refl _,by rw[hR];rfl⟩ ?_ ?_
 ·exact wkid
 rintro⟨i,k1,v1,n1⟩ ⟨hi,hk1,hv1,hn1,hRi⟩
 change i<=64 at hi
 change k1.size=Sh.size id at hk1
 change v1.size=Sh.size id at hv1
 change n1<=n+i at hn1
 change R=((mkS sz s8 N (64-i) ⟨id,bl k1,bl v1,n1⟩).1,(mkS sz s8 N (64-i) ⟨id,bl k1,bl v1,n1⟩).2.1+i,(mkS sz s8 N (64-i) ⟨id,bl k1,bl v1,n1⟩).2.2.1,(mkS sz s8 N (64-i) ⟨id,bl k1,bl v1,n1⟩).2.2.2)at hRi
 by_cases hlt:i<64
 ·rw[show 64-i=(64-(i+1))+1 by omega,mkS]at hRi
  by_cases h64:64<n1
  ·rw[if_pos (show 64<(⟨id,bl k1,bl v1,n1⟩:Sh.Dr).n from h64)]at hRi
   have hT:=cTryE hP c (p:=p) (a:=a) (b:=b) (nn:=nw) (gx:=gx) (gy:=gy) (th:=th) (size:=size) leg hbits id k1 v1 n1 h64 (by omega)
   obtain⟨q1,q2,q3,q4,q5,q6⟩:=fin (fun _=>0) k1 v1 n1 i 2402 (fun _ _=>by show 0<0x10000000000000000;decide) (by rw[hRi];rfl) (by rw[hRi]) (by rw[hRi]) (by rw[hnr,hRi]) (by rw[htr,hRi];show i=0+i;omega) (by rw[hco,hRi])
   cbv
   rw[f1 i hlt]
   cbv
   refine cro rfl hg rfl rfl hT (fun l=>if l=0 then 2 else if l=1 then 3 else 0) rfl ⟨rfl,rfl,trivial⟩ ?_
   rintro _ _ _ rfl
   refine⟨by simp[bd,bdL,ws,lst],by simp[bd,bdL,ren,renL,ws,lst],?_⟩
   cbv
   rw[e1]
   cbv
   refine hK _ _ _ ⟨?_,?_⟩
   ·rw[<-q1,<-q5,<-q6];rfl
   ·rw[<-q2,<-q3,<-q4];rfl
  ·rw[if_neg (show ¬64<(⟨id,bl k1,bl v1,n1⟩:Sh.Dr).n from h64)]at hRi
   have hok1:Sh.Ok ⟨id,bl k1,bl v1,n1⟩:=⟨hid,by rw[bll,hk1],by rw[bll,hv1],bl_lt k1,bl_lt v1⟩
   obtain⟨t,ht⟩:=exq (tryD sz s8 ⟨id,bl k1,bl v1,n1⟩)
   have hok2:Sh.Ok t.2:=by rw[ht];exact generate_ok hok1 sz
   have ht2:t.2.id=id/\t.2.n=n1+1:=by rw[ht];exact generate_n ⟨id,bl k1,bl v1,n1⟩ sz
   obtain⟨k2,hk2⟩:∃x,bl x=t.2.k:=⟨mkB t.2.k,bmk hok2.kb⟩
   obtain⟨v2,hv2⟩:∃x,bl x=t.2.v:=⟨mkB t.2.v,bmk hok2.vb⟩
   have htD:t.2=⟨id,bl k2,bl v2,n1+1⟩:=by rw[hk2,hv2,<-ht2.1,<-ht2.2]
   have ht1:t.1<0x10000000000000000^9:=by
    rw[ht]
    show Sh.word (Sh.generate ⟨id,bl k1,bl v1,n1⟩ sz []).1/2^s8<_
    refine Nat.lt_of_le_of_lt (Nat.div_le_self _ _) (Nat.lt_of_lt_of_le (word_bound ?_) ?_)
    ·intro x hx
     unfold Sh.generate at hx
     exact Sh.gen_b _ _ _ _ x (List.mem_of_mem_take hx)
    ·refine Nat.le_trans (Nat.pow_le_pow_right (by decide) (show _<=72 from ?_)) (show 256^72<=_ by decide)
     unfold Sh.generate
     rw[List.length_take];omega
   obtain⟨x,hx⟩:=exq (hexw t.1)
   have wx:Wn 9 x:=fun j _=>by rw[hx];exact hexw_lt _ _
   have vx:V 9 x=t.1:=by rw[hx,V_hexw,Nat.mod_eq_of_lt ht1]
   obtain⟨r,hr⟩:=exq ((decide (V 9 x≠0)&&decide (V 9 x<V 9 nw)):Bool)
   have hT:=cTry hP c leg hC hbits id hid2 k1 v1 n1 sz s8 hsz hs8 hk1 hv1 (by omega) k2 v2 (by rw[hk2,ht]) (by rw[hv2,ht]) x wx (by rw[vx,ht]) r hr
   rw[<-ht]at hRi
   have f4:bin .add .i64 (.ofNat n1) 1=Int.ofNat (n1+1):=add_of hA (by omega)
   rw[vx,hnw]at hr
   cases r with
   |true=>
    have h2:t.1≠0/\t.1<N:=by simpa using hr.symm
    rw[if_pos h2]at hRi
    obtain⟨q1,q2,q3,q4,q5,q6⟩:=fin x k2 v2 (n1+1) (i+1) 0 wx (by rw[vx,hRi]) (by rw[hk2,hRi]) (by rw[hv2,hRi]) (by rw[hnr,hRi,<-ht2.2]) (by rw[htr,hRi];show i+1=1+i;omega) (by rw[hco,hRi])
    clear hr vx hx ht htD hRi
    cbv
    rw[f1 i hlt]
    cbv
    refine cgn rfl hg rfl rfl hT (fun l=>if l=0 then 2 else if l=1 then 3 else 0) rfl ⟨rfl,rfl,trivial⟩ rfl rfl rfl ?_
    rintro _ _ _ ⟨rfl,rfl,rfl⟩ _
    refine⟨rfl,?_⟩
    cbv
    rw[e0]
    cbv
    rw[f3 i hlt]
    cbv
    refine hK _ _ _ ⟨?_,?_⟩
    ·rw[<-q1,<-q5,<-q6];rfl
    ·rw[<-q2,<-q3,<-q4];rfl
   |false=>
    have h2:¬ (t.1≠0/\t.1<N):=fun h=>by rw[decide_eq_true h.1,decide_eq_true h.2]at hr;cases hr
    rw[if_neg h2,htD]at hRi
    have hk2s:k2.size=Sh.size id:=by rw[<-bll,hk2,hok2.kl,ht2.1]
    have hv2s:v2.size=Sh.size id:=by rw[<-bll,hv2,hok2.vl,ht2.1]
    clear hr vx hx ht htD
    cbv
    rw[f1 i hlt]
    cbv
    refine cgn rfl hg rfl rfl hT (fun l=>if l=0 then 2 else if l=1 then 3 else 0) rfl ⟨rfl,rfl,trivial⟩ rfl rfl rfl ?_
    rintro _ _ _ ⟨rfl,rfl,rfl⟩ _
    refine⟨rfl,?_⟩
    cbv
    rw[e0]
    cbv
    rw[f3 i hlt]
    refine⟨(i+1,k2,v2,n1+1),fun l=>l,⟨hlt,hk2s,hv2s,by show n1+1<=n+(i+1);omega,?_⟩,(by show 64-(i+1)<64-i;omega),?_⟩
    ·rw[hRi]
     simp only[Prod.mk.injEq,true_and,and_true]
     omega
    ·exact wkid
 ·obtain rfl:i=64:=by omega
  obtain⟨q1,q2,q3,q4,q5,q6⟩:=fin (fun _=>0) k1 v1 n1 64 2403 (fun _ _=>by show 0<0x10000000000000000;decide) (by rw[hRi];rfl) (by rw[hRi];rfl) (by rw[hRi];rfl) (by rw[hnr,hRi];rfl) (by rw[htr,hRi];rfl) (by rw[hco,hRi];rfl)
  cbv
  rw[f2]
  cbv
  refine hK _ _ _ ⟨?_,?_⟩
  ·rw[<-q1,<-q5,<-q6];rfl
  ·rw[<-q2,<-q3,<-q4];rfl
theorem cRot32{P:Program}(hP:P=Tryz.prog)(x k:Nat)(hx:x<4294967296)(hk:1<=k/\k<32)(r:Nat)(hr:r=Sh.rotr 32 x k):
 Con P 138 [.int .u32 (.ofNat x),.int .i64 (.ofNat k)] [] 0 [] (fun v _ _=>v= .int .u32 (.ofNat r)):=by
 obtain⟨k',hk'⟩:=exq (32-k)
 obtain⟨u,hu⟩:=exq (x*2^k'%4294967296)
 obtain⟨w,hw⟩:=exq (x/2^k)
 have hul:u<4294967296:=by rw[hu];exact Nat.mod_lt _ (by decide)
 have hwl:w<4294967296:=by rw[hw];exact Nat.lt_of_le_of_lt (Nat.div_le_self _ _) hx
 have hr2:r=w|||u:=by
  rw[hr,Sh.rotr,Nat.shiftRight_eq_div_pow,Nat.shiftLeft_eq,hu,hw,hk']
 refine cof hP Tryz.func138 (bdb _ rfl) (bkb rfl) ?_
 intro A g K hA hg hK
 obtain⟨bin,sh,_,_,_,_,nn,_,_,_,_,_,_,_,_,_,_,_,sub⟩:=A
 have e3:nn (.ofNat k')=true:=nn_t hA k'
 have e4:sh .shl .u32 (.ofNat x) (.ofNat k')=Int.ofNat u:=(shlW hA (k:= .u32) rfl x (s:=k') (by show k'<=32;omega)).trans (by rw[hu];rfl)
 have e5:bin .sub .i64 32 (.ofNat k)=Int.ofNat k':=(subI hA (a:=32) (b:=k) (by omega) (by decide)).trans (by rw[hk'])
 have e6:nn (.ofNat k)=true:=nn_t hA k
 have e7:sh .shr .u32 (.ofNat x) (.ofNat k)=Int.ofNat w:=(shrI hA (k:= .u32) (a:=x) (b:=k) (by show k<=32;omega)).trans (by rw[hw])
 have e8:bin .or .u32 (.ofNat w) (.ofNat u)=Int.ofNat r:=(orW hA (k:= .u32) rfl (a:=w) (b:=u) hwl hul).trans (by rw[hr2])
 cbv
 refine rgM hP hA hg fun mk _=> ?_
 cbv
 rw[e6]
 cbv
 rw[e7,e5]
 cbv
 rw[e3]
 cbv
 rw[e4]
 cbv
 rw[e8]
 exact hK _ _ _ rfl
theorem cRSize{P:Program}(hP:P=Tryz.prog)(id:Nat)(h:1<=id/\id<=4)(z:Nat)(hz:z=Sh.size id):Con P 74 [.int .i64 (.ofNat id)] [] 0 [] (fun v _ _=>v= .int .i64 (.ofNat z)):=by
 refine cof hP Tryz.func74 (bdb _ rfl) (bkb rfl) ?_
 intro A g K hA hg hK
 obtain⟨_,_,cmp⟩:=A
 have t1:∀x,cmp .eql (.ofNat x) (.ofNat x)=true:=fun x=>eql_t hA (a:=x) (b:=x) rfl
 have f1:∀x y,x≠y->cmp .eql (.ofNat x) (.ofNat y)=false:=fun x y h=>eql_f hA (a:=x) (b:=y) h
 have c21:cmp .eql (.ofNat 2) 1=false:=f1 2 1 (by decide)
 have c31:cmp .eql (.ofNat 3) 1=false:=f1 3 1 (by decide)
 have c41:cmp .eql (.ofNat 4) 1=false:=f1 4 1 (by decide)
 have c32:cmp .eql (.ofNat 3) 2=false:=f1 3 2 (by decide)
 have c42:cmp .eql (.ofNat 4) 2=false:=f1 4 2 (by decide)
 have c43:cmp .eql (.ofNat 4) 3=false:=f1 4 3 (by decide)
 have c11:cmp .eql (.ofNat 1) 1=true:=t1 1
 have c22:cmp .eql (.ofNat 2) 2=true:=t1 2
 have c33:cmp .eql (.ofNat 3) 3=true:=t1 3
 have c44:cmp .eql (.ofNat 4) 4=true:=t1 4
 obtain rfl|rfl|rfl|rfl:id=1\/id=2\/id=3\/id=4:=by omega
 ·subst hz
  cbv
  rw[c11]
  cbv
  exact hK _ _ _ rfl
 ·subst hz
  cbv
  rw[c21]
  cbv
  rw[c22]
  cbv
  exact hK _ _ _ rfl
 ·subst hz
  cbv
  rw[c31]
  cbv
  rw[c32]
  cbv
  rw[c33]
  cbv
  exact hK _ _ _ rfl
 ·subst hz
  cbv
  rw[c41]
  cbv
  rw[c42]
  cbv
  rw[c43]
  cbv
  rw[c44]
  cbv
  exact hK _ _ _ rfl
theorem cRBlock{P:Program}(hP:P=Tryz.prog)(id:Nat)(h:1<=id/\id<=4)(z:Nat)(hz:z=Sh.blk id):Con P 108 [.int .i64 (.ofNat id)] [] 0 [] (fun v _ _=>v= .int .i64 (.ofNat z)):=by
 refine cof hP Tryz.func108 (bdb _ rfl) (bkb rfl) ?_
 intro A g K hA hg hK
 obtain⟨_,_,cmp⟩:=A
 have t1:∀x,cmp .eql (.ofNat x) (.ofNat x)=true:=fun x=>eql_t hA (a:=x) (b:=x) rfl
 have f1:∀x y,x≠y->cmp .eql (.ofNat x) (.ofNat y)=false:=fun x y h=>eql_f hA (a:=x) (b:=y) h
 have c21:cmp .eql (.ofNat 2) 1=false:=f1 2 1 (by decide)
 have c31:cmp .eql (.ofNat 3) 1=false:=f1 3 1 (by decide)
 have c41:cmp .eql (.ofNat 4) 1=false:=f1 4 1 (by decide)
 have c32:cmp .eql (.ofNat 3) 2=false:=f1 3 2 (by decide)
 have c42:cmp .eql (.ofNat 4) 2=false:=f1 4 2 (by decide)
 have c43:cmp .eql (.ofNat 4) 3=false:=f1 4 3 (by decide)
 have c11:cmp .eql (.ofNat 1) 1=true:=t1 1
 have c22:cmp .eql (.ofNat 2) 2=true:=t1 2
 have c33:cmp .eql (.ofNat 3) 3=true:=t1 3
 have c44:cmp .eql (.ofNat 4) 4=true:=t1 4
 obtain rfl|rfl|rfl|rfl:id=1\/id=2\/id=3\/id=4:=by omega
 ·subst hz
  cbv
  rw[c11]
  cbv
  exact hK _ _ _ rfl
 ·subst hz
  cbv
  rw[c21]
  cbv
  rw[c22]
  cbv
  exact hK _ _ _ rfl
 ·subst hz
  cbv
  rw[c31]
  cbv
  rw[c32]
  cbv
  rw[c33]
  cbv
  exact hK _ _ _ rfl
 ·subst hz
  cbv
  rw[c41]
  cbv
  rw[c42]
  cbv
  rw[c43]
  cbv
  rw[c44]
  cbv
  exact hK _ _ _ rfl
theorem cK32{P:Program}(hP:P=Tryz.prog)(kf:Nat->Nat)(hkf:kf=fun j=>Sh.K256.ks.getD j 0):Con P 110 [] [] 0 [] (fun v L q=>v= .slice 0 0 64 64/\L=[⟨0,lst .u32 (fun j=>Int.ofNat (kf j)) 0 64,58⟩]/\q=1):=by
 subst hkf
 refine cof hP Tryz.func110 (bdb _ rfl) (bkb rfl) ?_
 intro A g K hA hg hK
 cases A
 cbv
 exact hK _ _ _ ⟨rfl,rfl,rfl⟩
theorem cBegin32{P:Program}(hP:P=Tryz.prog)(id:Nat)(h0:Nat->Nat)(hb:(id=1/\soA h0=Sh.i224)\/(id=2/\soA h0=Sh.i256)):Con P 109 [.int .i64 (.ofNat id)] [] 0 [] (fun v L q=>v= .slice 0 0 8 8/\L=[⟨0,lst .u32 (fun j=>Int.ofNat (h0 j)) 0 8,58⟩]/\q=1):=by
 have fin:∀s,soA h0=s->lst .u32 (fun j=>Int.ofNat (h0 j)) 0 8=lst .u32 (fun j=>Int.ofNat (f8A s j)) 0 8:=fun s hs=>lcg fun j _ hj=>by
  rw[soA_eq (hs.trans (soA_f8 s).symm) j (by omega)]
 refine cof hP Tryz.func109 (bdb _ rfl) (bkb rfl) ?_
 intro A g K hA hg hK
 obtain⟨_,_,cmp⟩:=A
 rcases hb with⟨rfl,hs⟩|⟨rfl,hs⟩
 ·have e1:cmp .eql (.ofNat 1) 1=true:=eql_t hA (a:=1) (b:=1) rfl
  rw[fin _ hs]at hK
  cbv
  rw[e1]
  cbv
  exact hK _ _ _ ⟨rfl,rfl,rfl⟩
 ·have e1:cmp .eql (.ofNat 2) 1=false:=eql_f hA (a:=2) (b:=1) (by decide)
  rw[fin _ hs]at hK
  cbv
  rw[e1]
  cbv
  exact hK _ _ _ ⟨rfl,rfl,rfl⟩
theorem set_reps(m x i:Nat)(h:i<m):Vg.splice (by8 (List.replicate i x++List.replicate (m-i) 0)) i [.int .u8 (.ofNat x)]=by8 (List.replicate (i+1) x++List.replicate (m-(i+1)) 0):=by
 obtain⟨j,hj⟩:∃j,m-i=j+1:=⟨m-i-1,by omega⟩
 rw[hj,show m-(i+1)=j by omega,List.replicate_succ,by8_app]
 simp only[Vg.splice,List.length_cons,List.length_nil]
 rw[List.take_left' (by rw[by8_len,List.length_replicate]),show by8 (List.replicate i x)++by8 (0::List.replicate j 0)=(by8 (List.replicate i x)++[SV.int .u8 (.ofNat 0)])++by8 (List.replicate j 0) by simp[by8],List.drop_left' (by rw[List.length_append,by8_len,List.length_replicate];rfl),List.replicate_succ',by8_app,by8_app]
 rfl
theorem cSame{P:Program}(hP:P=Tryz.prog)(z x:Nat)(hx:x<256)(hz:z<=1000)(r:ByteArray)(hr:bl r=List.replicate z x):
 Con P 75 [.int .i64 (.ofNat z),.int .u8 (.ofNat x)] [] 0 [] (fun v _ _=>v= .str r):=by
 have hU:=bytesU8 hP
 obtain⟨C,hC⟩:=exq (fun i=>by8 (List.replicate i x++List.replicate (z-i) 0):Nat->List SV)
 have bC:∀q i,bdLB q (C i)=true:=fun q i=>by rw[hC];exact by8_bd q _
 have C0:C 0=List.replicate z (.int .u8 0):=by rw[hC];simp[by8]
 have hrs:r.size=z:=by rw[<-bll,hr,List.length_replicate]
 have hCz:((C z).drop 0).take z=bts r:=by
  rw[hC,List.drop_zero]
  show(by8 (List.replicate z x++List.replicate (z-z) 0)).take z=_
  rw[Nat.sub_self,List.replicate_zero,List.append_nil,List.take_of_length_le (by rw[by8_len,List.length_replicate];exact Nat.le_refl z),bts_by8,hr]
 refine cof hP Tryz.func75 (bdb _ rfl) (bkb rfl) ?_
 intro A g K hA hg hK
 obtain⟨bin,_,cmp,_,_,ix,_,_,_,_,_,_,_,_,_,off,_,_,_,spl⟩:=A
 have f0:∀i,i<z->ix (.ofNat i) z=some i:=fun i h=>ix_of hA h
 have f1:∀i,off 0 i 1=i:=fun i=>(off_of hA 0 i 1).trans (by omega)
 have f2:∀i,i<z->cmp .lss (.ofNat i) (.ofNat z)=true:=fun i h=>lss_t hA h
 have f3:cmp .lss (.ofNat z) (.ofNat z)=false:=lss_f hA (by omega)
 have f4:∀i,i<z->bin .add .i64 (.ofNat i) 1=Int.ofNat (i+1):=fun i h=>add_of hA (by omega)
 have sC:∀i,i<z->spl (C i) i [.int .u8 (.ofNat x)]=some (C (i+1)):=fun i h=>by
  rw[hC]
  refine(spl_of hA (by rw[by8_len,List.length_append,List.length_replicate,List.length_replicate];omega) _).trans ?_
  rw[set_reps z x i h]
 clear hC hr
 cbv
 refine smk (hP▸tblOk) hg rfl rfl (show tyT 143=some _ from rfl) rfl (show tyT 5=some _ from rfl) hU rfl rfl rfl (by omega) (by omega) ?_
 rw[<-C0]
 cbv
 refine lpb Nat (fun i=>i<=z) (fun i=>z-i) (fun i=> [(6,.int .i64 (.ofNat i))]) [0,1,5] (fun i=> [(0,C i)]) 0 (Nat.zero_le _) ?_ ?_
 ·exact wkih (by repeat' (first|exact trivial|refine⟨rfl,rfl,rfl,?_⟩|refine⟨rfl,rfl,bC 1 0,?_⟩))
 intro i hi
 by_cases hlt:i<z
 ·have g2:=sC i hlt
  cbv
  rw[f2 i hlt]
  cbv
  rw[f0 i hlt]
  cbv
  rw[f1 i,g2]
  cbv
  rw[f4 i hlt]
  refine⟨i+1,_root_.id,hlt,(by show z-(i+1)<z-i;omega),?_⟩
  exact wkih (by repeat' (first|exact trivial|refine⟨rfl,rfl,rfl,?_⟩|refine⟨rfl,rfl,bC 1 (i+1),?_⟩))
 ·obtain rfl:i=z:=by omega
  cbv
  rw[f3]
  cbv
  refine step_string (hP▸tblOk) hg rfl rfl (show tyT 9=some _ from rfl) rfl (show tyT 143=some _ from rfl) rfl (hP▸Tryz.underlying5) rfl (show find _ 0=some _ from rfl) hCz hrs ?_
  cbv
  exact hK _ _ _ rfl
end Go.Proofs.YtdhmihfefgcbeaaGreat
