/-
  This text proves what these texts prove: Hm, Hg, Hv, Hn, Ho. Conditions: those of each theorem.
-/
import Derived.Test.YtdhmihfefgcbeaaGreatY18
set_option maxHeartbeats 8000000
set_option linter.all false
namespace Go.Proofs.YtdhmihfefgcbeaaGreat
open Go.Vg Go.RowKit
set_option maxRecDepth 200000
set_option cbv.maxSteps 100000000
def XR(l:List Nat)(x i:Nat):List Nat:=(l.take i).map (· ^^^x)++l.drop i
theorem XR_len(l:List Nat)(x i:Nat):(XR l x i).length=l.length:=by
 unfold XR
 rw[List.length_append,List.length_map,List.length_take,List.length_drop];omega
theorem XR_get{l:List Nat}{x i:Nat}(h:i<l.length)(tl:List SV):(by8 (XR l x i)++tl)[i]? =some (.int .u8 (.ofNat (l.getD i 0))):=by
 have hl:((l.take i).map (· ^^^x)).length=i:=by rw[List.length_map,List.length_take];omega
 rw[List.getElem?_append_left (by rw[by8_len,XR_len];exact h)]
 unfold by8 XR
 rw[List.getElem?_map,List.getElem?_append_right (by rw[hl];exact Nat.le_refl i),hl,Nat.sub_self,List.getElem?_drop,Nat.add_zero,List.getElem?_eq_getElem h,Option.map_some,List.getD_eq_getElem?_getD,List.getElem?_eq_getElem h]
 rfl
theorem XR_set{l:List Nat}{x i:Nat}(h:i<l.length)(tl:List SV):Vg.splice (by8 (XR l x i)++tl) i [.int .u8 (.ofNat (l.getD i 0^^^x))]=by8 (XR l x (i+1))++tl:=by
 have hl:(by8 ((l.take i).map (· ^^^x))).length=i:=by rw[by8_len,List.length_map,List.length_take];omega
 have h1:XR l x (i+1)=(l.take i).map (· ^^^x)++[l.getD i 0^^^x]++l.drop (i+1):=by
  unfold XR
  rw[List.take_succ_eq_append_getElem h,List.map_append,List.getD_eq_getElem?_getD,List.getElem?_eq_getElem h];rfl
 have h2:l.drop i=[l.getD i 0]++l.drop (i+1):=by
  rw[List.drop_eq_getElem_cons h,List.getD_eq_getElem?_getD,List.getElem?_eq_getElem h];rfl
 rw[h1]
 unfold XR
 rw[h2]
 simp only[Vg.splice,by8_app,List.append_assoc,List.length_cons,List.length_nil]
 rw[List.take_left' hl,<-List.append_assoc (by8 _) (by8 [l.getD i 0]),List.drop_left' (by rw[List.length_append,hl];rfl)]
 rfl
theorem bdLB_reps(q:Nat):∀n,bdLB q (List.replicate n (.int .u8 0))=true
 |0=>rfl
 |n+1=>by rw[List.replicate_succ,bdLB,bdLB_reps q n];rfl
theorem cPad{P:Program}(hP:P=Tryz.prog)(s r:ByteArray)(x:Nat)(hx:x<256)(hs:s.size<2^40)(hr:bl r=(bl s).map (· ^^^x)):Con P 135 [.str s,.int .u8 (.ofNat x)] [] 0 [] (fun v _ _=>v= .str r):=by
 obtain⟨l,hl⟩:=exq (bl s)
 obtain⟨m,hm⟩:=exq l.length
 have hms:s.size=m:=by rw[hm,hl,bll]
 have hU:=bytesU8 hP
 refine cof hP Tryz.func135 (bdb _ rfl) (bkb rfl) ?_
 intro A g K hA hg hK
 obtain⟨bin,_,cmp,_,_,ix,_,_,_,_,_,_,_,_,nat,off,get,_,_,spl⟩:=A
 have f0:∀i,i<m->ix (.ofNat i) m=some i:=fun i h=>ix_of hA h
 have f1:∀i,off 0 i 1=i:=fun i=>(off_of hA 0 i 1).trans (by omega)
 have f2:∀i,i<m->cmp .lss (.ofNat i) (.ofNat m)=true:=fun i h=>lss_t hA h
 have f3:cmp .lss (.ofNat m) (.ofNat m)=false:=lss_f hA (by omega)
 have f4:∀i,i<m->bin .add .i64 (.ofNat i) 1=Int.ofNat (i+1):=fun i h=>add_of hA (by omega)
 have f5:nat m=Int.ofNat m:=nat_of hA m
 cbv
 refine step_bytes (hP▸tblOk) hg rfl rfl (show tyT 9=some _ from rfl) rfl (show tyT 143=some _ from rfl) rfl (hP▸Tryz.underlying5) rfl ?_
 intro c hc
 rw[hms]at hc⊢
 obtain⟨tl,htl⟩:=exq (List.replicate (c-m) (.int .u8 0):List SV)
 have btl:∀q,bdLB q tl=true:=fun q=>by rw[htl];exact bdLB_reps q _
 obtain⟨C,hC⟩:=exq (fun i=>by8 (XR l x i)++tl:Nat->List SV)
 have bC:∀q i,bdLB q (C i)=true:=fun q i=>by rw[hC];exact bap (by8_bd q _) (btl q)
 have gC:∀i,i<m->get (C i) i=some (.int .u8 (.ofNat (l.getD i 0))):=fun i h=>by rw[hC];exact(get_of hA _ _).trans (XR_get (by omega) tl)
 have sC:∀i,i<m->spl (C i) i [.int .u8 (.ofNat (l.getD i 0^^^x))]=some (C (i+1)):=fun i h=>by
  rw[hC]
  refine(spl_of hA (by rw[List.length_append,by8_len,XR_len];omega) _).trans ?_
  rw[XR_set (by omega)]
 have hC0:bts s++List.replicate (c-m) (.int .u8 0)=C 0:=by rw[hC,<-htl];show _=by8 ([].map _++l.drop 0)++tl;rw[List.drop_zero,hl,bts_by8];rfl
 rw[hC0]
 have hCm:((C m).drop 0).take m=bts r:=by
  rw[hC,List.drop_zero]
  show(by8 (XR l x m)++tl).take m=_
  rw[List.take_left' (by rw[by8_len,XR_len,hm])]
  unfold XR
  rw[hm,List.take_length,List.drop_length,List.append_nil,hl,<-hr,bts_by8]
 have hrs:r.size=m:=by rw[<-bll,hr,List.length_map,hm,hl]
 have hlb:∀i,i<m->l.getD i 0<256:=fun i h=>by
  rw[List.getD_eq_getElem?_getD,List.getElem?_eq_getElem (by omega)]
  exact bl_lt s _ (by rw[<-hl];exact List.getElem_mem _)
 clear hC0 hC
 cbv
 rw[f5]
 cbv
 refine lpb Nat (fun i=>i<=m) (fun i=>m-i) (fun i=> [(11,.int .i64 (.ofNat i))]) [0,1,5,10] (fun i=> [(0,C i)]) 0 (Nat.zero_le _) ?_ ?_
 ·exact wkih (by repeat' (first|exact trivial|refine⟨rfl,rfl,rfl,?_⟩|refine⟨rfl,rfl,bC 1 0,?_⟩))
 intro i hi
 by_cases hlt:i<m
 ·obtain⟨y,hy⟩:=exq (l.getD i 0)
  obtain⟨w,hw⟩:=exq (y^^^x)
  have hx8:bin .xor .u8 (.ofNat y) (.ofNat x)=Int.ofNat w:=(xorW hA rfl (by rw[hy];exact hlb i hlt) hx).trans (by rw[hw])
  have g1:=gC i hlt
  have g2:=sC i hlt
  rw[<-hy]at g1 g2
  rw[<-hw]at g2
  cbv
  rw[f2 i hlt]
  cbv
  rw[f0 i hlt]
  cbv
  rw[f1 i,g1]
  cbv
  rw[hx8,f0 i hlt]
  cbv
  rw[f1 i,g2]
  cbv
  rw[f4 i hlt]
  refine⟨i+1,_root_.id,hlt,(by show m-(i+1)<m-i;omega),?_⟩
  exact wkih (by repeat' (first|exact trivial|refine⟨rfl,rfl,rfl,?_⟩|refine⟨rfl,rfl,bC 1 (i+1),?_⟩))
 ·obtain rfl:i=m:=by omega
  cbv
  rw[f3]
  cbv
  refine step_string (hP▸tblOk) hg rfl rfl (show tyT 9=some _ from rfl) rfl (show tyT 143=some _ from rfl) rfl (hP▸Tryz.underlying5) rfl (show find _ 0=some _ from rfl) hCm hrs ?_
  cbv
  exact hK _ _ _ rfl
theorem Con.mac{P:Program}{f:FuncId}{args:List SV}{Lp:LL}{n0:Nat}{ms:List Nat}{KK:SK}{Q:(SV->List SV)->Prop}{t:TypeId}{l:List Nat}{w:SV}{mc:List SV}{lb q0:Nat}(h6:6≠lb)(h4:4<lb)(hq:Nat.ble n0 q0=true)(hw:bdB q0 w=true)
 (h:Con P f args Lp n0 ms (fun v L q=>∃CH' rv' B',Q CH'/\BRow t lb l rv' B'/\v=w/\wkL1 q0 L (SBlk KK (CH' rv')++⟨6,mc,208⟩::B')/\q=q0)):
 Con P f args Lp n0 ms (fun v L q=>∃CH' rv' B',Q CH'/\BRow t lb l rv' B'/\v=w/\L=SBlk KK (CH' rv')++⟨6,mc,208⟩::B'/\q=q0):=by
 refine h.weak fun v L q hq'=> ?_
 obtain⟨CH',rv',B',h1,h2,rfl,h4',rfl⟩:=hq'
 refine⟨id,v,SBlk KK (CH' rv')++⟨6,mc,208⟩::B',q,weak_id ⟨rfl,hw,trivial⟩ h4' ?_ hq,CH',rv',B',h1,h2,rfl,rfl,rfl⟩
 rcases h2.get with⟨_,rfl,_⟩|⟨k,c,X,_,_,rfl,_⟩
 ·rfl
 ·show ndN [0,1,2,3,4,6,lb]=true
  have a0:(0:Nat)≠lb:=by omega
  have a1:1≠lb:=by omega
  have a2:2≠lb:=by omega
  have a3:3≠lb:=by omega
  have a4:4≠lb:=by omega
  simp[ndN,memN,a0,a1,a2,a3,a4,h6,Ne.symm a0,Ne.symm a1,Ne.symm a2,Ne.symm a3,Ne.symm a4,Ne.symm h6]
section
variable {P:Program}{id:Nat}{KK:SK}{lf:List Nat->List Nat}{HB:List Nat->(SV->List SV)->Prop}
theorem cMNew(hP:P=Tryz.prog)(hO:SO P id KK lf HB)(hid:1<=id/\id<=4)(key ip ok:ByteArray)(hks:key.size<2^40)(hip:bl ip=(Sh.key id (bl key)).map (· ^^^54))(hok:bl ok=(Sh.key id (bl key)).map (· ^^^92)):
 Con P 105 [.int .i64 (.ofNat id),.str key] [] 0 [] (fun v L q=>∃CH rv B,HB (bl ip) CH/\BRow 5 5 (lf (bl ip)) rv B/\v= .tup [.ptr 6 0,.int .i64 0]/\L=SBlk KK (CH rv)++⟨6,[.int .i64 (.ofNat id),.str ok,.ptr 0 0],208⟩::B/\q=7):=by
 refine Con.mac (Q:=HB (bl ip)) (by decide) (by decide) rfl rfl ?_
 have hN:=hO.new
 obtain⟨k,hk⟩:=exq (Sh.blk id)
 have hkb:=Sh.size_blk hid
 rw[<-hk]at hkb
 have hBl:Con P 132 [.int .i64 (.ofNat id)] [] 0 [] (fun v _ _=>v= .int .i64 (.ofNat k)):=by rw[hk];exact cHBlock hP id _ _ _ (HK.at hid)
 obtain⟨kz,hkz⟩:=exq key.size
 have hips:ip.size<2^20:=by rw[<-bll,hip,List.length_map,Sh.key_len hid,<-hk];omega
 refine cof hP Tryz.func105 (bdb _ rfl) (bkb rfl) ?_
 intro A g K hA hg hK
 obtain⟨bin,_,cmp,_,_,_,_,_,_,_,scat,_,slen,_,_,_,get,_,sub⟩:=A
 have e0:cmp .neq 0 0=false:=neq_f hA (a:=0) (b:=0) rfl
 have e1:slen key=Int.ofNat kz:=(slen_of hA key).trans (by rw[hkz])
 cbv
 refine cgn rfl hg rfl rfl hN _root_.id rfl trivial rfl rfl rfl ?_
 rintro _ _ _ ⟨CH,q0,rfl,rfl,rfl⟩ _
 have rCH:=hO.renH q0
 have hw:=cHWrite hP hO [] ip CH .nils [] (fun x h=>by cases h) (by show 0+ip.size<_;omega) q0 (by rw[hO.nil];exact BRow.nil _ _)
 rw[List.nil_append]at hw
 refine⟨rfl,?_⟩
 simp only[renB,SBlk,rCH]
 cbv
 rw[e0]
 cbv
 refine cva rfl hg rfl rfl hBl ?_
 rintro _ _ _ rfl
 refine⟨trivial,?_⟩
 cbv
 rw[e1]
 by_cases hlong:k<kz
 ·obtain⟨kb,hkbb⟩:∃b,bl b=Sh.of id (bl key):=⟨mkB (Sh.of id (bl key)),bmk (Sh.of_b _ _)⟩
  obtain⟨m,hm⟩:=exq kb.size
  have hmk:m<=k:=by rw[hm,<-bll,hkbb,Sh.of_len hid];exact hkb.1
  have hHo:=cHashOf hP hO key kb hks hkbb
  cbv
  rw[show cmp .gtr (.ofNat kz) (.ofNat k)=true from gtr_t hA hlong]
  cbv
  refine cva rfl hg rfl rfl hHo ?_
  rintro _ _ _ rfl
  refine⟨⟨trivial,trivial,trivial⟩,?_⟩
  have hkbs:kb.size=m:=by rw[hm]
  obtain⟨d,hd⟩:=exq (k-m)
  obtain⟨z,hz⟩:∃z,bl z=List.replicate d 0:=⟨mkB (List.replicate d 0),bmk fun x hx=>by rw[(List.mem_replicate.1 hx).2];decide⟩
  obtain⟨full,hfull⟩:=exq (kb++z)
  have hzs:z.size=d:=by rw[<-bll,hz,List.length_replicate]
  have hfb:bl full=Sh.key id (bl key):=by
   rw[hfull,bl_app,hz]
   unfold Sh.key
   rw[bll,<-hk]
   rw[if_pos (by omega:k<key.size),hkbb,hd,hm,<-bll,hkbb]
  have hfs:full.size=k:=by rw[<-bll,hfb,Sh.key_len hid,hk]
  have e2:slen kb=Int.ofNat m:=(slen_of hA kb).trans (by rw[hm])
  have e3:bin .sub .i64 (.ofNat k) (.ofNat m)=Int.ofNat d:=(subI hA hmk (by omega)).trans (by rw[hd])
  have e4:scat kb z=some full:=(scat_of hA (by rw[hkbs,hzs];omega)).trans (by rw[hfull])
  have hRe:=cRepeat hP ⟨#[0]⟩ 0 rfl d (by omega) z (by rw[hz];rfl)
  have hPi:=cPad hP full ip 54 (by decide) (by omega) (by rw[hip,hfb])
  have hPo:=cPad hP full ok 92 (by decide) (by omega) (by rw[hok,hfb])
  cbv
  rw[e2]
  cbv
  rw[e3]
  cbv
  refine cva rfl hg rfl rfl hRe ?_
  rintro _ _ _ rfl
  refine⟨trivial,?_⟩
  cbv
  rw[e4]
  cbv
  refine cva rfl hg rfl rfl hPi ?_
  rintro _ _ _ rfl
  refine⟨trivial,?_⟩
  cbv
  refine cgn rfl hg rfl rfl hw (fun l=>if l=5 then 0 else l) rfl ⟨rfl,by rw[rCH];rfl,rfl,rfl,rfl,trivial⟩ rfl rfl rfl ?_
  rintro _ _ _ ⟨CH',rv',B',q1,hR',rfl,rfl,rfl⟩ _
  have rCH':=hO.renH q1
  have bCH':=hO.bdH q1
  rcases hR'.get with⟨rfl,rfl,hr⟩|⟨k3,c3,X3,hk3,rfl,rfl,hX⟩
  ·refine⟨rfl,?_⟩
   simp only[renB,SBlk,List.cons_append,List.nil_append,rCH']
   cbv
   refine cva rfl hg rfl rfl hPo ?_
   rintro _ _ _ rfl
   refine⟨trivial,?_⟩
   cbv
   exact hK _ _ _ ⟨CH',.nils,[],q1,by rw[hr];exact BRow.nil _ _,rfl,⟨rfl,rfl,rfl,rfl,rfl,bCH' _ _ rfl,rfl,rfl,rfl,rfl,rfl,rfl,rfl,rfl,rfl,rfl,rfl,rfl,trivial⟩,rfl⟩
  ·have rX:∀ρ,renL ρ X3=X3:=fun ρ=>rcl X3 (hX.b 0)
   refine⟨rfl,?_⟩
   simp only[renB,SBlk,List.cons_append,List.nil_append,rCH',rX]
   cbv
   refine cva rfl hg rfl rfl hPo ?_
   rintro _ _ _ rfl
   refine⟨trivial,?_⟩
   cbv
   exact hK _ _ _ ⟨CH',.slice 5 0 k3 c3,_,q1,hX.row hk3 _ 5,rfl,⟨rfl,rfl,rfl,rfl,rfl,bCH' _ _ rfl,rfl,rfl,rfl,rfl,rfl,rfl,rfl,rfl,rfl,rfl,rfl,rfl,rfl,rfl,hX.b 7,trivial⟩,rfl⟩
 ·obtain⟨kb,hkbb⟩:=exq key
  obtain⟨m,hm⟩:=exq kb.size
  have hmk:m<=k:=by rw[hm,hkbb];omega
  rw[<-hkbb]at e1⊢
  cbv
  rw[show cmp .gtr (.ofNat kz) (.ofNat k)=false from gtr_f hA (by omega)]
  have hkbs:kb.size=m:=by rw[hm]
  obtain⟨d,hd⟩:=exq (k-m)
  obtain⟨z,hz⟩:∃z,bl z=List.replicate d 0:=⟨mkB (List.replicate d 0),bmk fun x hx=>by rw[(List.mem_replicate.1 hx).2];decide⟩
  obtain⟨full,hfull⟩:=exq (kb++z)
  have hzs:z.size=d:=by rw[<-bll,hz,List.length_replicate]
  have hfb:bl full=Sh.key id (bl key):=by
   rw[hfull,bl_app,hz]
   unfold Sh.key
   rw[bll,<-hk]
   rw[if_neg (by omega:¬k<key.size),hkbb,hd,hm,hkbb,<-bll]
  have hfs:full.size=k:=by rw[<-bll,hfb,Sh.key_len hid,hk]
  have e2:slen kb=Int.ofNat m:=(slen_of hA kb).trans (by rw[hm])
  have e3:bin .sub .i64 (.ofNat k) (.ofNat m)=Int.ofNat d:=(subI hA hmk (by omega)).trans (by rw[hd])
  have e4:scat kb z=some full:=(scat_of hA (by rw[hkbs,hzs];omega)).trans (by rw[hfull])
  have hRe:=cRepeat hP ⟨#[0]⟩ 0 rfl d (by omega) z (by rw[hz];rfl)
  have hPi:=cPad hP full ip 54 (by decide) (by omega) (by rw[hip,hfb])
  have hPo:=cPad hP full ok 92 (by decide) (by omega) (by rw[hok,hfb])
  cbv
  rw[e2]
  cbv
  rw[e3]
  cbv
  refine cva rfl hg rfl rfl hRe ?_
  rintro _ _ _ rfl
  refine⟨trivial,?_⟩
  cbv
  rw[e4]
  cbv
  refine cva rfl hg rfl rfl hPi ?_
  rintro _ _ _ rfl
  refine⟨trivial,?_⟩
  cbv
  refine cgn rfl hg rfl rfl hw (fun l=>if l=5 then 0 else l) rfl ⟨rfl,by rw[rCH];rfl,rfl,rfl,rfl,trivial⟩ rfl rfl rfl ?_
  rintro _ _ _ ⟨CH',rv',B',q1,hR',rfl,rfl,rfl⟩ _
  have rCH':=hO.renH q1
  have bCH':=hO.bdH q1
  rcases hR'.get with⟨rfl,rfl,hr⟩|⟨k3,c3,X3,hk3,rfl,rfl,hX⟩
  ·refine⟨rfl,?_⟩
   simp only[renB,SBlk,List.cons_append,List.nil_append,rCH']
   cbv
   refine cva rfl hg rfl rfl hPo ?_
   rintro _ _ _ rfl
   refine⟨trivial,?_⟩
   cbv
   exact hK _ _ _ ⟨CH',.nils,[],q1,by rw[hr];exact BRow.nil _ _,rfl,⟨rfl,rfl,rfl,rfl,rfl,bCH' _ _ rfl,rfl,rfl,rfl,rfl,rfl,rfl,rfl,rfl,rfl,rfl,rfl,rfl,trivial⟩,rfl⟩
  ·have rX:∀ρ,renL ρ X3=X3:=fun ρ=>rcl X3 (hX.b 0)
   refine⟨rfl,?_⟩
   simp only[renB,SBlk,List.cons_append,List.nil_append,rCH',rX]
   cbv
   refine cva rfl hg rfl rfl hPo ?_
   rintro _ _ _ rfl
   refine⟨trivial,?_⟩
   cbv
   exact hK _ _ _ ⟨CH',.slice 5 0 k3 c3,_,q1,hX.row hk3 _ 5,rfl,⟨rfl,rfl,rfl,rfl,rfl,bCH' _ _ rfl,rfl,rfl,rfl,rfl,rfl,rfl,rfl,rfl,rfl,rfl,rfl,rfl,rfl,rfl,hX.b 7,trivial⟩,rfl⟩
end
section
variable {P:Program}{id:Nat}{KK:SK}{lf:List Nat->List Nat}{HB:List Nat->(SV->List SV)->Prop}
theorem cMWrite(hP:P=Tryz.prog)(hO:SO P id KK lf HB)(ok:ByteArray)(M:List Nat)(s:ByteArray)(CH:SV->List SV)(rv:SV)(B:LL)(hM:∀x∈M,x<256)(hsz:M.length+s.size<2^40)(hh:HB M CH)(hR:BRow 5 5 (lf M) rv B):
 Con P 106 [.ptr 6 0,.str s] (SBlk KK (CH rv)++⟨6,[.int .i64 (.ofNat id),.str ok,.ptr 0 0],208⟩::B) 7 [1] (fun v L q=>∃CH' rv' B',HB (M++bl s) CH'/\BRow 5 7 (lf (M++bl s)) rv' B'/\v= .int .i64 0/\L=SBlk KK (CH' rv')++⟨6,[.int .i64 (.ofNat id),.str ok,.ptr 0 0],208⟩::B'/\q=8):=by
 have hw:=cHWrite hP hO M s CH rv B hM hsz hh hR
 refine Con.mac (Q:=HB (M++bl s)) (by decide) (by decide) rfl rfl ?_
 have bCH:=hO.bdH hh
 have rCH:=hO.renH hh
 rcases hR.get with⟨rfl,rfl,hr0⟩|⟨k0,c0,X0,hk0,rfl,rfl,hX0⟩
 ·refine cof hP Tryz.func106 ⟨(by show 6<7;decide),trivial,trivial⟩ (bkb (by simp only[SBlk,List.cons_append,List.nil_append,List.all_cons,List.all_nil,bCH 7 .nils rfl];rfl)) ?_
  intro A g K hA hg hK
  obtain⟨_,_,_,_,_,_,_,_,_,_,_,_,_,_,_,_,get⟩:=A
  cbv
  refine cgn rfl hg rfl rfl hw _root_.id rfl ⟨rfl,by rw[rCH];rfl,rfl,rfl,rfl,trivial⟩ rfl rfl rfl ?_
  rintro _ _ _ ⟨CH',rv',B',q1,hR',rfl,rfl,rfl⟩ _
  have rCH':=hO.renH q1
  have bCH':=hO.bdH q1
  rcases hR'.get with⟨rfl,rfl,hr⟩|⟨k,c,X,hk,rfl,rfl,hX⟩
  ·refine⟨rfl,?_⟩
   simp only[renB,SBlk,List.cons_append,List.nil_append,rCH']
   cbv
   exact hK _ _ _ ⟨CH',.nils,[],q1,by rw[hr];exact BRow.nil _ _,rfl,⟨rfl,rfl,rfl,rfl,rfl,bCH' _ _ rfl,rfl,rfl,rfl,rfl,rfl,rfl,rfl,rfl,rfl,rfl,rfl,rfl,trivial⟩,rfl⟩
  ·have rX:∀ρ,renL ρ X=X:=fun ρ=>rcl X (hX.b 0)
   refine⟨rfl,?_⟩
   simp only[renB,SBlk,List.cons_append,List.nil_append,rCH',rX]
   cbv
   exact hK _ _ _ ⟨CH',.slice 7 0 k c,_,q1,hX.row hk _ 7,rfl,⟨rfl,rfl,rfl,rfl,rfl,bCH' _ _ rfl,rfl,rfl,rfl,rfl,rfl,rfl,rfl,rfl,rfl,rfl,rfl,rfl,rfl,rfl,hX.b 8,trivial⟩,rfl⟩
 ·have rX0:∀ρ,renL ρ X0=X0:=fun ρ=>rcl X0 (hX0.b 0)
  refine cof hP Tryz.func106 ⟨(by show 6<7;decide),trivial,trivial⟩ (bkb (by simp only[SBlk,List.cons_append,List.nil_append,List.all_cons,List.all_nil,bCH 7 (.slice 5 0 k0 c0) rfl,hX0.b 7];rfl)) ?_
  intro A g K hA hg hK
  obtain⟨_,_,_,_,_,_,_,_,_,_,_,_,_,_,_,_,get⟩:=A
  cbv
  refine cgn rfl hg rfl rfl hw _root_.id rfl ⟨rfl,by rw[rCH];rfl,rfl,rfl,rfl,by rw[rX0];rfl,trivial⟩ rfl rfl rfl ?_
  rintro _ _ _ ⟨CH',rv',B',q1,hR',rfl,rfl,rfl⟩ _
  have rCH':=hO.renH q1
  have bCH':=hO.bdH q1
  rcases hR'.get with⟨rfl,rfl,hr⟩|⟨k,c,X,hk,rfl,rfl,hX⟩
  ·refine⟨rfl,?_⟩
   simp only[renB,SBlk,List.cons_append,List.nil_append,rCH']
   cbv
   exact hK _ _ _ ⟨CH',.nils,[],q1,by rw[hr];exact BRow.nil _ _,rfl,⟨rfl,rfl,rfl,rfl,rfl,bCH' _ _ rfl,rfl,rfl,rfl,rfl,rfl,rfl,rfl,rfl,rfl,rfl,rfl,rfl,trivial⟩,rfl⟩
  ·have rX:∀ρ,renL ρ X=X:=fun ρ=>rcl X (hX.b 0)
   refine⟨rfl,?_⟩
   simp only[renB,SBlk,List.cons_append,List.nil_append,rCH',rX]
   cbv
   exact hK _ _ _ ⟨CH',.slice 7 0 k c,_,q1,hX.row hk _ 7,rfl,⟨rfl,rfl,rfl,rfl,rfl,bCH' _ _ rfl,rfl,rfl,rfl,rfl,rfl,rfl,rfl,rfl,rfl,rfl,rfl,rfl,rfl,rfl,hX.b 8,trivial⟩,rfl⟩
theorem cMSum(hP:P=Tryz.prog)(hO:SO P id KK lf HB)(ok dg:ByteArray)(M:List Nat)(CH:SV->List SV)(rv:SV)(B:LL)(hM:∀x∈M,x<256)(hsz:M.length<2^40)(hos:ok.size<2^20)(hid:1<=id/\id<=4)(hdg:bl dg=Sh.of id (bl ok++Sh.of id M))(hh:HB M CH)(hR:BRow 5 7 (lf M) rv B):
 Con P 107 [.ptr 6 0] (SBlk KK (CH rv)++⟨6,[.int .i64 (.ofNat id),.str ok,.ptr 0 0],208⟩::B) 8 [] (fun v _ _=>v= .str dg):=by
 obtain⟨di,hdi⟩:∃d,bl d=Sh.of id M:=⟨mkB (Sh.of id M),bmk (Sh.of_b _ _)⟩
 obtain⟨full,hfull⟩:=exq (ok++di)
 have hds:di.size=Sh.size id:=by rw[<-bll,hdi,Sh.of_len hid]
 have hsb:=Sh.size_blk hid
 have hfs:full.size<2^40:=by rw[hfull,ByteArray.size_append];omega
 have hHo:=cHashOf hP hO full dg hfs (by rw[hfull,bl_app,hdi,hdg])
 have bCH:=hO.bdH hh
 have rCH:=hO.renH hh
 rcases hR.get with⟨rfl,rfl,hr0⟩|⟨k0,c0,X0,hk0,rfl,rfl,hX0⟩
 ·have hs:=cHSum hP hO M di CH .nils [] hM hsz hdi hh (by rw[hr0];exact BRow.nil _ _)
  refine cof hP Tryz.func107 ⟨(by show 6<8;decide),trivial⟩ (bkb (by simp only[SBlk,List.cons_append,List.nil_append,List.all_cons,List.all_nil,bCH 8 .nils rfl];rfl)) ?_
  intro A g K hA hg hK
  obtain⟨_,_,_,_,_,_,_,_,_,_,scat,_,_,_,_,_,get⟩:=A
  have e1:scat ok di=some full:=(scat_of hA (by omega)).trans (by rw[hfull])
  cbv
  refine reg_cA (hP▸tblOk) hA hg (hP▸mixed) rfl rfl [(12,[0,1,2,3,4,5,6,7])] rfl ?_
  cbv
  refine cro rfl hg rfl rfl hs (fun l=>if l=5 then 7 else l) rfl ⟨rfl,by rw[rCH];rfl,rfl,rfl,rfl,trivial⟩ ?_
  rintro _ _ _ rfl
  refine⟨trivial,trivial,?_⟩
  cbv
  rw[e1]
  cbv
  refine stepD (en_val rfl hg rfl rfl hHo (fun _ _ _ h=>h) ⟨trivial,trivial,trivial⟩) ?_
  cbv
  exact hK _ _ _ rfl
 ·have rX0:∀ρ,renL ρ X0=X0:=fun ρ=>rcl X0 (hX0.b 0)
  have hs:=cHSum hP hO M di CH _ _ hM hsz hdi hh (hX0.row hk0 5 5)
  refine cof hP Tryz.func107 ⟨(by show 6<8;decide),trivial⟩ (bkb (by simp only[SBlk,List.cons_append,List.nil_append,List.all_cons,List.all_nil,bCH 8 (.slice 7 0 k0 c0) rfl,hX0.b 8];rfl)) ?_
  intro A g K hA hg hK
  obtain⟨_,_,_,_,_,_,_,_,_,_,scat,_,_,_,_,_,get⟩:=A
  have e1:scat ok di=some full:=(scat_of hA (by omega)).trans (by rw[hfull])
  cbv
  refine reg_cA (hP▸tblOk) hA hg (hP▸mixed) rfl rfl [(12,[0,1,2,3,4,5,6,7])] rfl ?_
  cbv
  refine cro rfl hg rfl rfl hs (fun l=>if l=5 then 7 else l) rfl ⟨rfl,by rw[rCH];rfl,rfl,rfl,rfl,by rw[rX0];rfl,trivial⟩ ?_
  rintro _ _ _ rfl
  refine⟨trivial,trivial,?_⟩
  cbv
  rw[e1]
  cbv
  refine stepD (en_val rfl hg rfl rfl hHo (fun _ _ _ h=>h) ⟨trivial,trivial,trivial⟩) ?_
  cbv
  exact hK _ _ _ rfl
end
def KA:SK:=⟨165,166,152,153,261,233,238,239⟩
def HBA(z:Nat)(h0:Nat->Nat)(M:List Nat)(CH:SV->List SV):Prop:=
 ∃hf,soA hf=Sh.hst Sh.K256 (soA h0) M/\CH=fun rv=>hAx z M.length hf (fun j=>Sh.K256.ks.getD j 0) rv
theorem renL_cellsA(ρ:Nat->Nat)(size n:Nat)(f kf:Nat->Nat)(rest:SV):renL ρ (hAx size n f kf rest)=hAx size n f kf (ren ρ rest):=by
 simp only[hAx,lst,List.cons_append,List.nil_append,renL,ren]
theorem cABind{P:Program}(hP:P=Tryz.prog):Con P 151 [.ptr 0 0,.fn (.func 152) [] [],.fn (.func 153) [] []] [] 1 [] (fun v L q=>v= .tup [.fn (.func 165) [] [.ptr 2 0,.ptr 1 0],.fn (.func 166) [] [.ptr 3 0,.ptr 1 0]]/\L=[⟨1,[.ptr 0 0],233⟩,⟨2,[.fn (.func 152) [] []],238⟩,⟨3,[.fn (.func 153) [] []],239⟩]/\q=4):=by
 refine cof hP Tryz.func151 ⟨(by show 0<1;decide),⟨trivial,trivial⟩,⟨trivial,trivial⟩,trivial⟩ (bkb rfl) ?_
 intro A g K hA hg hK
 cases A
 cbv
 exact hK _ _ _ ⟨rfl,rfl,rfl⟩
theorem cAHNew{P:Program}(hP:P=Tryz.prog)(id z:Nat)(h0:Nat->Nat)(hid:(id=1/\z=224/\soA h0=Sh.i224)\/(id=2/\z=256/\soA h0=Sh.i256)):
 Con P 131 [.int .i64 (.ofNat id)] [] 0 [] (fun v L q=>∃CH,HBA z h0 [] CH/\v= .tup [.ptr 0 0,.int .i64 0]/\L=SBlk KA (CH .nils)/\q=5):=by
 obtain⟨b,k,hk,hHK,hb⟩:∃b k,k=64/\HK id z b k/\((z=224/\soA h0=Sh.i224)\/(z=256/\soA h0=Sh.i256)):=by
  rcases hid with⟨rfl,rfl,h⟩|⟨rfl,rfl,h⟩
  ·exact⟨28,64,rfl,by unfold HK;omega,Or.inl ⟨rfl,h⟩⟩
  ·exact⟨32,64,rfl,by unfold HK;omega,Or.inr ⟨rfl,h⟩⟩
 have hO:=cHOf hP id z b k hHK
 obtain⟨HC,hHC⟩:=exq (hAx z 0 h0 (fun j=>Sh.K256.ks.getD j 0) .nils)
 have hHB:∃CH,HBA z h0 [] CH/\CH .nils=HC:=⟨_,⟨h0,rfl,rfl⟩,hHC.symm⟩
 have hN:Con P 150 [.int .i64 (.ofNat z)] [] 0 [] (fun v L q=>v= .tup [.ptr 0 0,.int .i64 0]/\L=[⟨0,HC,261⟩]/\q=1):=by
  rw[hHC]
  exact cANew hP z h0 _ rfl hb
 have hBi:=cABind hP
 have bHC:∀m,bdLB m HC=true:=fun m=>by rw[hHC];exact hAbd _ _ _ _ rfl
 have rHC:∀ρ,renL ρ HC=HC:=fun ρ=>rcl HC (bHC 0)
 suffices raw:Con P 131 [.int .i64 (.ofNat id)] [] 0 [] (fun v L q=>v= .tup [.ptr 1 0,.int .i64 0]/\wkL2 (fun l=>l+1) 0 5 L (SBlk KA HC)/\q=6) by
  refine raw.weak fun v L q ⟨h1,h2,h3⟩=>⟨fun l=>l+1,.tup [.ptr 0 0,.int .i64 0],SBlk KA HC,5,?_,hHB.choose,hHB.choose_spec.1,rfl,by rw[hHB.choose_spec.2],rfl⟩
  subst h1
  exact wkr ⟨rfl,rfl,trivial⟩ h2 rfl rfl rfl
 clear hHB hb hHC
 refine cof hP Tryz.func131 (bdb _ rfl) (bkb rfl) ?_
 intro A g K hA hg hK
 obtain⟨_,_,cmp,_,_,_,_,_,bnot⟩:=A
 have e1:bnot true=false:=bnot_of hA true
 have e2:cmp .eql (.ofNat k) 64=true:=eql_t hA (a:=k) (b:=64) hk
 cbv
 refine cva rfl hg rfl rfl hO ?_
 rintro _ _ _ rfl
 refine⟨by simp[bd,bdL],?_⟩
 cbv
 rw[e1]
 cbv
 rw[e2]
 cbv
 refine cgn rfl hg rfl rfl hN _root_.id rfl trivial rfl rfl rfl ?_
 rintro _ _ _ ⟨rfl,rfl,rfl⟩ _
 refine⟨rfl,?_⟩
 simp only[renB,rHC]
 cbv
 refine cgn rfl hg rfl rfl hBi (fun l=>if l=0 then 2 else l) rfl trivial rfl rfl rfl ?_
 rintro _ _ _ ⟨rfl,rfl,rfl⟩ _
 refine⟨rfl,?_⟩
 cbv
 exact hK _ _ _ ⟨rfl,⟨rfl,rfl,rfl,rfl,by rw[rHC];rfl,rfl,rfl,bHC 5,rfl,rfl,rfl,rfl,rfl,rfl,rfl,rfl,rfl,rfl,rfl,rfl,trivial⟩,rfl⟩
theorem cAW1{P:Program}(hP:P=Tryz.prog)(z:Nat)(h0:Nat->Nat)(h8:Sh.ok8 32 (soA h0))(M:List Nat)(s:ByteArray)(CH0:SV->List SV)(rv:SV)(B:LL)(hM:∀x∈M,x<256)(hsz:M.length+s.size<2^40)(hh:HBA z h0 M CH0)(hR:BRow 5 5 (Sh.left Sh.K256 M) rv B):
 Con P KA.f1 [.str s,.ptr 3 0,.ptr 2 0] (SBlk KA (CH0 rv)++B) 6 [1] (fun v L q=>∃CH' rv' B',HBA z h0 (M++bl s) CH'/\BRow 5 6 (Sh.left Sh.K256 (M++bl s)) rv' B'/\v= .int .i64 0/\L=SBlk KA (CH' rv')++B'/\q=7):=by
 refine Con.stream (Q:=HBA z h0 (M++bl s)) ?_
 obtain⟨hf,hh1,rfl⟩:=hh
 obtain⟨n,hn⟩:=exq M.length
 obtain⟨n',hn'⟩:=exq (M.length+s.size)
 obtain⟨kf,hkf⟩:=exq (fun j=>Sh.K256.ks.getD j 0)
 have hml:(M++bl s).length=n':=by rw[List.length_append,bll,hn']
 rw[<-hn,<-hkf]
 obtain⟨CH,hCH⟩:=exq (fun f n rv=>hAx z n f kf rv:(Nat->Nat)->Nat->SV->List SV)
 have rCH:∀ρ f n rv,renL ρ (CH f n rv)=CH f n (ren ρ rv):=fun ρ f n rv=>by rw[hCH];exact renL_cellsA ..
 have bCH:∀m f n rv,bdB m rv=true->bdLB m (CH f n rv)=true:=fun m f n rv h=>by rw[hCH];exact hAbd _ _ _ _ h
 have hHB:∀f,soA f=Sh.hst Sh.K256 (soA h0) (M++bl s)->HBA z h0 (M++bl s) (CH f n'):=fun f h=>⟨f,h,by rw[hCH,hml,hkf]⟩
 have hWr:∀rv B,BRow 5 1 (Sh.left Sh.K256 M) rv B->Con P 152 [.ptr 0 0,.str s] (⟨0,CH hf n rv,261⟩::B) 2 [0]
  (fun v L q=>∃hf' rv' B',soA hf'=Sh.hst Sh.K256 (soA h0) (M++bl s)/\BRow 5 2 (Sh.left Sh.K256 (M++bl s)) rv' B'/\v= .int .i64 0/\L=⟨0,CH hf' n' rv',261⟩::B'/\q=3):=fun rv B h=>by
  rw[hCH]
  exact cAWriteN hP z h0 hf kf hkf M s hM hsz h8 hh1 n hn n' hn' h
 show Con P KA.f1 _ (SBlk KA (hAx z n hf kf rv)++B) _ _ _
 rw[show hAx z n hf kf rv=CH hf n rv by rw[hCH]]
 clear hCH hh1
 rcases hR.get with⟨rfl,rfl,hr0⟩|⟨k0,c0,X0,hk0,rfl,rfl,hX0⟩
 ·have hWn:=hWr .nils [] (by rw[hr0];exact BRow.nil _ _)
  refine cof hP Tryz.func165 ⟨trivial,(by show 3<6;decide),(by show 2<6;decide),trivial⟩ (bkb (by simp only[SBlk,List.cons_append,List.nil_append,List.all_cons,List.all_nil,bCH 6 hf n .nils rfl];rfl)) ?_
  intro A g K hA hg hK
  obtain⟨_,_,_,_,_,_,_,_,_,_,_,_,_,_,_,_,get⟩:=A
  cbv
  refine cgn rfl hg rfl rfl hWn (fun l=>if l=0 then 1 else 5) rfl ⟨by rw[rCH];rfl,trivial⟩ rfl rfl rfl ?_
  rintro _ _ _ ⟨hf',rv',B',q1,hR',rfl,rfl,rfl⟩ _
  rcases hR'.get with⟨rfl,rfl,hr⟩|⟨k,c,X,hk,rfl,rfl,hX⟩
  ·refine⟨rfl,?_⟩
   simp only[renB,rCH]
   cbv
   exact hK _ _ _ ⟨CH hf' n',.nils,[],hHB _ q1,by rw[hr];exact BRow.nil _ _,rfl,⟨rfl,rfl,rfl,rfl,rfl,bCH _ _ _ _ rfl,rfl,rfl,rfl,rfl,rfl,rfl,rfl,rfl,rfl,trivial⟩,rfl⟩
  ·have rX:∀ρ,renL ρ X=X:=fun ρ=>rcl X (hX.b 0)
   refine⟨rfl,?_⟩
   simp only[renB,rCH,rX]
   cbv
   exact hK _ _ _ ⟨CH hf' n',.slice 6 0 k c,_,hHB _ q1,hX.row hk _ 6,rfl,⟨rfl,rfl,rfl,rfl,rfl,bCH _ _ _ _ rfl,rfl,rfl,rfl,rfl,rfl,rfl,rfl,rfl,rfl,rfl,rfl,hX.b 7,trivial⟩,rfl⟩
 ·have hWn:=hWr _ _ (hX0.row hk0 5 1)
  have rX0:∀ρ,renL ρ X0=X0:=fun ρ=>rcl X0 (hX0.b 0)
  refine cof hP Tryz.func165 ⟨trivial,(by show 3<6;decide),(by show 2<6;decide),trivial⟩ (bkb (by simp only[SBlk,List.cons_append,List.nil_append,List.all_cons,List.all_nil,bCH 6 hf n (.slice 5 0 k0 c0) rfl,hX0.b 6];rfl)) ?_
  intro A g K hA hg hK
  obtain⟨_,_,_,_,_,_,_,_,_,_,_,_,_,_,_,_,get⟩:=A
  cbv
  refine cgn rfl hg rfl rfl hWn (fun l=>if l=0 then 1 else 5) rfl ⟨by rw[rCH];rfl,by rw[rX0];rfl,trivial⟩ rfl rfl rfl ?_
  rintro _ _ _ ⟨hf',rv',B',q1,hR',rfl,rfl,rfl⟩ _
  rcases hR'.get with⟨rfl,rfl,hr⟩|⟨k,c,X,hk,rfl,rfl,hX⟩
  ·refine⟨rfl,?_⟩
   simp only[renB,rCH]
   cbv
   exact hK _ _ _ ⟨CH hf' n',.nils,[],hHB _ q1,by rw[hr];exact BRow.nil _ _,rfl,⟨rfl,rfl,rfl,rfl,rfl,bCH _ _ _ _ rfl,rfl,rfl,rfl,rfl,rfl,rfl,rfl,rfl,rfl,trivial⟩,rfl⟩
  ·have rX:∀ρ,renL ρ X=X:=fun ρ=>rcl X (hX.b 0)
   refine⟨rfl,?_⟩
   simp only[renB,rCH,rX]
   cbv
   exact hK _ _ _ ⟨CH hf' n',.slice 6 0 k c,_,hHB _ q1,hX.row hk _ 6,rfl,⟨rfl,rfl,rfl,rfl,rfl,bCH _ _ _ _ rfl,rfl,rfl,rfl,rfl,rfl,rfl,rfl,rfl,rfl,rfl,rfl,hX.b 7,trivial⟩,rfl⟩
theorem cAS1{P:Program}(hP:P=Tryz.prog)(id z:Nat)(h0:Nat->Nat)(hid:(id=1/\z=224/\soA h0=Sh.i224)\/(id=2/\z=256/\soA h0=Sh.i256))(h8:Sh.ok8 32 (soA h0))(M:List Nat)(dg:ByteArray)(CH0:SV->List SV)(rv:SV)(B:LL)(hM:∀x∈M,x<256)(hsz:M.length<2^40)(hdg:bl dg=Sh.of id M)(hh:HBA z h0 M CH0)(hR:BRow 5 5 (Sh.left Sh.K256 M) rv B):
 Con P KA.f2 [.ptr 4 0,.ptr 2 0] (SBlk KA (CH0 rv)++B) 6 [] (fun v _ _=>v= .str dg):=by
 obtain⟨hf,hh1,rfl⟩:=hh
 obtain⟨n,hn⟩:=exq M.length
 obtain⟨kf,hkf⟩:=exq (fun j=>Sh.K256.ks.getD j 0)
 rw[<-hn,<-hkf]
 have hpl:(Sh.pad Sh.K256 M).length/(2*Sh.K256.wb)<=M.length+1:=by
  rw[padA_eq]
  simp only[List.length_append,List.length_replicate,beA_len,List.length_cons,List.length_nil]
  show _/64<=_
  omega
 have hz:z<=4*64:=by rcases hid with⟨_,rfl,_⟩|⟨_,rfl,_⟩<;>decide
 have hof:bl dg=(Sh.out 4 (Sh.hst Sh.K256 (soA h0) (Sh.pad Sh.K256 M))).take (z/8):=by
  rw[hdg]
  rcases hid with⟨rfl,rfl,h⟩|⟨rfl,rfl,h⟩
  ·rw[h];exact Sh.hash_hst (by decide) _ _ _ hpl
  ·rw[h];exact Sh.hash_hst (by decide) _ _ _ hpl
 obtain⟨CH,hCH⟩:=exq (fun rv=>hAx z n hf kf rv:SV->List SV)
 have rCH:∀ρ rv,renL ρ (CH rv)=CH (ren ρ rv):=fun ρ rv=>by rw[hCH];exact renL_cellsA ..
 have bCH:∀m rv,bdB m rv=true->bdLB m (CH rv)=true:=fun m rv h=>by rw[hCH];exact hAbd _ _ _ _ h
 have hSu:∀rv B,BRow 5 1 (Sh.left Sh.K256 M) rv B->Con P 153 [.ptr 0 0] (⟨0,CH rv,261⟩::B) 2 [] (fun v _ _=>v= .str dg):=fun rv B h=>by
  rw[hCH]
  exact cASum hP z hz h0 hf kf hkf M hM hsz h8 hh1 n hn h dg hof
 show Con P KA.f2 _ (SBlk KA (hAx z n hf kf rv)++B) _ _ _
 rw[show hAx z n hf kf rv=CH rv by rw[hCH]]
 clear hCH hh1 hof hdg hpl
 rcases hR.get with⟨rfl,rfl,hr0⟩|⟨k0,c0,X0,hk0,rfl,rfl,hX0⟩
 ·have hSn:=hSu .nils [] (by rw[hr0];exact BRow.nil _ _)
  refine cof hP Tryz.func166 ⟨(by show 4<6;decide),(by show 2<6;decide),trivial⟩ (bkb (by simp only[SBlk,List.cons_append,List.nil_append,List.all_cons,List.all_nil,bCH 6 .nils rfl];rfl)) ?_
  intro A g K hA hg hK
  obtain⟨_,_,_,_,_,_,_,_,_,_,_,_,_,_,_,_,get⟩:=A
  cbv
  refine cro rfl hg rfl rfl hSn (fun l=>if l=0 then 1 else 5) rfl ⟨by rw[rCH];rfl,trivial⟩ ?_
  rintro _ _ _ rfl
  refine⟨trivial,trivial,?_⟩
  cbv
  exact hK _ _ _ rfl
 ·have hSn:=hSu _ _ (hX0.row hk0 5 1)
  have rX0:∀ρ,renL ρ X0=X0:=fun ρ=>rcl X0 (hX0.b 0)
  refine cof hP Tryz.func166 ⟨(by show 4<6;decide),(by show 2<6;decide),trivial⟩ (bkb (by simp only[SBlk,List.cons_append,List.nil_append,List.all_cons,List.all_nil,bCH 6 (.slice 5 0 k0 c0) rfl,hX0.b 6];rfl)) ?_
  intro A g K hA hg hK
  obtain⟨_,_,_,_,_,_,_,_,_,_,_,_,_,_,_,_,get⟩:=A
  cbv
  refine cro rfl hg rfl rfl hSn (fun l=>if l=0 then 1 else 5) rfl ⟨by rw[rCH];rfl,by rw[rX0];rfl,trivial⟩ ?_
  rintro _ _ _ rfl
  refine⟨trivial,trivial,?_⟩
  cbv
  exact hK _ _ _ rfl
theorem soAO{P:Program}(hP:P=Tryz.prog)(id z:Nat)(h0:Nat->Nat)(hid:(id=1/\z=224/\soA h0=Sh.i224)\/(id=2/\z=256/\soA h0=Sh.i256))(h8:Sh.ok8 32 (soA h0)):SO P id KA (Sh.left Sh.K256) (HBA z h0) where
 bdH:=fun⟨_,_,h⟩ m rv hr=>by rw[h];exact hAbd _ _ _ _ hr
 renH:=fun⟨f,h1,h2⟩ ρ rv=>by rw[h2];exact renL_cellsA ..
 new:=cAHNew hP id z h0 hid
 nil:=rfl
 w1:=fun M s CH rv B hM hsz hh hR=>cAW1 hP z h0 h8 M s CH rv B hM hsz hh hR
 s1:=fun M dg CH rv B hM hsz hdg hh hR=>cAS1 hP id z h0 hid h8 M dg CH rv B hM hsz hdg hh hR
def KB:SK:=⟨171,172,156,157,270,240,244,245⟩
def HBB(z:Nat)(h0:Nat->Nat)(M:List Nat)(CH:SV->List SV):Prop:=
 ∃hf,soB hf=Sh.hst Sh.K512 (soB h0) M/\CH=fun rv=>hBcells z M.length hf (fun j=>Sh.K512.ks.getD j 0) rv
section
variable {P:Program}{id:Nat}{KK:SK}{lf:List Nat->List Nat}{HB:List Nat->(SV->List SV)->Prop}
theorem cHmacN(hP:P=Tryz.prog)(hO:SO P id KK lf HB)(hid:1<=id/\id<=4)(key msg dg:ByteArray)(hks:key.size<2^40)(hms:msg.size<2^39)(hdg:bl dg=Sh.hmac id (bl key) (bl msg)):
 Con P 82 [.int .i64 (.ofNat id),.str key,.str msg] [] 0 [] (fun v _ _=>v= .tup [.str dg,.int .i64 0]):=by
 have hkb:=Sh.size_blk hid
 have hkk:=Sh.key_b id (bl key) (bl_lt key)
 obtain⟨ip,hip⟩:∃b,bl b=(Sh.key id (bl key)).map (· ^^^54):=⟨mkB ((Sh.key id (bl key)).map (· ^^^54)),bmk (Sh.xor_b hkk (by decide))⟩
 obtain⟨ok,hok⟩:∃b,bl b=(Sh.key id (bl key)).map (· ^^^92):=⟨mkB ((Sh.key id (bl key)).map (· ^^^92)),bmk (Sh.xor_b hkk (by decide))⟩
 have his:ip.size<2^20:=by rw[<-bll,hip,List.length_map,Sh.key_len hid];omega
 have hos:ok.size<2^20:=by rw[<-bll,hok,List.length_map,Sh.key_len hid];omega
 have hN:=cMNew hP hO hid key ip ok hks hip hok
 obtain⟨M,hM⟩:=exq (bl ip++bl msg)
 have hMb:∀x∈M,x<256:=fun x h=>by
  rw[hM]at h
  rcases List.mem_append.1 h with h|h
  ·exact bl_lt ip x h
  ·exact bl_lt msg x h
 have hMl:M.length<2^40:=by rw[hM,List.length_append,bll,bll];omega
 have hdg':bl dg=Sh.of id (bl ok++Sh.of id M):=by rw[hdg,hM,hip,hok];rfl
 refine cof hP Tryz.func82 (bdb _ rfl) (bkb rfl) ?_
 intro A g K hA hg hK
 obtain⟨_,_,cmp,_,_,_,_,_,_,_,_,_,_,_,_,_,get⟩:=A
 have e0:cmp .neq 0 0=false:=neq_f hA (a:=0) (b:=0) rfl
 cbv
 refine cgn rfl hg rfl rfl hN _root_.id rfl trivial rfl rfl rfl ?_
 rintro _ _ _ ⟨CH,rv,B,q0,hR,rfl,rfl,rfl⟩ _
 have rCH:=hO.renH q0
 have hw:=cMWrite hP hO ok (bl ip) msg CH rv B (bl_lt ip) (by rw[bll];omega) q0 hR
 rw[<-hM]at hw
 rcases hR.get with⟨rfl,rfl,hr0⟩|⟨k0,c0,X0,hk0,rfl,rfl,hX0⟩
 ·refine⟨rfl,?_⟩
  simp only[renB,SBlk,List.cons_append,List.nil_append,rCH]
  cbv
  rw[e0]
  cbv
  refine cgn rfl hg rfl rfl hw _root_.id rfl ⟨rfl,by rw[rCH];rfl,rfl,rfl,rfl,rfl,trivial⟩ rfl rfl rfl ?_
  rintro _ _ _ ⟨CH',rv',B',q1,hR',rfl,rfl,rfl⟩ _
  have rCH':=hO.renH q1
  have hs:=cMSum hP hO ok dg M CH' rv' B' hMb hMl hos hid hdg' q1 hR'
  rcases hR'.get with⟨rfl,rfl,hr⟩|⟨k,c,X,hk,rfl,rfl,hX⟩
  ·refine⟨rfl,?_⟩
   simp only[renB,SBlk,List.cons_append,List.nil_append,rCH']
   cbv
   refine cro rfl hg rfl rfl hs _root_.id rfl ⟨rfl,by rw[rCH'];rfl,rfl,rfl,rfl,rfl,trivial⟩ ?_
   rintro _ _ _ rfl
   refine⟨trivial,trivial,?_⟩
   cbv
   exact hK _ _ _ rfl
  ·have rX:∀ρ,renL ρ X=X:=fun ρ=>rcl X (hX.b 0)
   refine⟨rfl,?_⟩
   simp only[renB,SBlk,List.cons_append,List.nil_append,rCH',rX]
   cbv
   refine cro rfl hg rfl rfl hs _root_.id rfl ⟨rfl,by rw[rCH'];rfl,rfl,rfl,rfl,rfl,by rw[rX];rfl,trivial⟩ ?_
   rintro _ _ _ rfl
   refine⟨trivial,trivial,?_⟩
   cbv
   exact hK _ _ _ rfl
 ·have rX0:∀ρ,renL ρ X0=X0:=fun ρ=>rcl X0 (hX0.b 0)
  refine⟨rfl,?_⟩
  simp only[renB,SBlk,List.cons_append,List.nil_append,rCH,rX0]
  cbv
  rw[e0]
  cbv
  refine cgn rfl hg rfl rfl hw _root_.id rfl ⟨rfl,by rw[rCH];rfl,rfl,rfl,rfl,rfl,by rw[rX0];rfl,trivial⟩ rfl rfl rfl ?_
  rintro _ _ _ ⟨CH',rv',B',q1,hR',rfl,rfl,rfl⟩ _
  have rCH':=hO.renH q1
  have hs:=cMSum hP hO ok dg M CH' rv' B' hMb hMl hos hid hdg' q1 hR'
  rcases hR'.get with⟨rfl,rfl,hr⟩|⟨k,c,X,hk,rfl,rfl,hX⟩
  ·refine⟨rfl,?_⟩
   simp only[renB,SBlk,List.cons_append,List.nil_append,rCH']
   cbv
   refine cro rfl hg rfl rfl hs _root_.id rfl ⟨rfl,by rw[rCH'];rfl,rfl,rfl,rfl,rfl,trivial⟩ ?_
   rintro _ _ _ rfl
   refine⟨trivial,trivial,?_⟩
   cbv
   exact hK _ _ _ rfl
  ·have rX:∀ρ,renL ρ X=X:=fun ρ=>rcl X (hX.b 0)
   refine⟨rfl,?_⟩
   simp only[renB,SBlk,List.cons_append,List.nil_append,rCH',rX]
   cbv
   refine cro rfl hg rfl rfl hs _root_.id rfl ⟨rfl,by rw[rCH'];rfl,rfl,rfl,rfl,rfl,by rw[rX];rfl,trivial⟩ ?_
   rintro _ _ _ rfl
   refine⟨trivial,trivial,?_⟩
   cbv
   exact hK _ _ _ rfl
end
theorem cHmac{P:Program}(hP:P=Tryz.prog)(id:Nat)(hid2:1<=id/\id<=2)(key msg dg:ByteArray)(hks:key.size<2^40)(hms:msg.size<2^39)(hdg:bl dg=Sh.hmac id (bl key) (bl msg)):
 Con P 82 [.int .i64 (.ofNat id),.str key,.str msg] [] 0 [] (fun v _ _=>v= .tup [.str dg,.int .i64 0]):=by
 have hid:1<=id/\id<=4:=⟨hid2.1,Nat.le_trans hid2.2 (by decide)⟩
 obtain rfl|rfl:id=1\/id=2:=by omega
 ·exact cHmacN hP (soAO hP 1 224 (f8A Sh.i224) (Or.inl ⟨rfl,rfl,rfl⟩) (by unfold Sh.ok8;decide)) hid key msg dg hks hms hdg
 ·exact cHmacN hP (soAO hP 2 256 (f8A Sh.i256) (Or.inr ⟨rfl,rfl,rfl⟩) (by unfold Sh.ok8;decide)) hid key msg dg hks hms hdg
end Go.Proofs.YtdhmihfefgcbeaaGreat
namespace Go.Vg
open Go.RowKit
section
variable {P:Program}{T:Nat->Option Ty}{g:G}
theorem en_string(hT:TOk P T){o:Oper}{m0 N:Nat}{ms:List Nat}(hg:GI g m0 ms N)(hd':dstLt N o.dst=true){x:Operand}{src dst:Nat}(ho:o.op= .convert src dst x){i j:Ty}(hs:T dst=some i)(hsd:i.d= .s){e es:Nat}(ht:T src=some j)(hd:j.d= .sl e es)(he:P.underlying e=some (.int .u8))
 {F:Nat->Option SV} {M:Nat->Option Blk} {l q m c:Nat} (hx:ev F x=some (.slice l q m c)) {b:Blk} (hl:M l=some b) {s:ByteArray} (hb:(b.cs.drop q).take m=bts s) (hm:s.size=m):EN g P o F M (.str s) []:=by
 have h1:=str_of hT hs hsd
 have h2:=(sl_of hT ht hd).1
 refine en_out hg hd' fun β p F' L' a W hF hM hm' hf=> ?_
 have E:∀z∈o.op.operands.toList,ev F' z=ev F z:=fun z hz=>ev_congr fun t ht=>hF t (tmpsL_mem hz ht)
 rw[ho]at E
 obtain⟨e1,b1⟩:=evd hf ((E x (by simp[Op.operands])).trans hx)
 refine⟨run_convert_op ho ?_,trivial⟩
 rw[e1]
 have hc:=cells_from hm' (hM l b hl) q m
 rw[hb,bts_den]at hc
 have:=run_convert_bytes_back (P:=P) W src dst e ⟨β l,q,none⟩ c s.data.toList h2 he h1 (fun k hk=>hc k _ (by simp[List.getElem?_eq_getElem (show k<s.data.toList.length from hk)]))
 have hlen:s.data.toList.length=m:=by rw[<-hm];rfl
 rw[hlen]at this
 simpa [den]using this
end
end Go.Vg
namespace Go.Proofs.YtdhmihfefgcbeaaGreat
open Go.Vg Go.RowKit
set_option maxRecDepth 200000
set_option cbv.maxSteps 100000000
theorem cDMac{P:Program}(hP:P=Tryz.prog)(id:Nat)(hid2:1<=id/\id<=2)(k v m dg:ByteArray)(n:Nat)(hks:k.size<2^20)(hms:m.size<2^30)(hdg:bl dg=Sh.hmac id (bl k) (bl m)):
 Con P 52 [.ptr 0 0,.str m] [⟨0,[.int .i64 (.ofNat id),.str k,.str v,.int .i64 (.ofNat n)],100⟩] 1 [] (fun v _ _=>v= .str dg):=by
 have hid:1<=id/\id<=4:=⟨hid2.1,Nat.le_trans hid2.2 (by decide)⟩
 have hH:=cHmac hP id hid2 k m dg (by omega) (by omega) hdg
 refine cof hP Tryz.func52 ⟨(by show 0<1;decide),trivial,trivial⟩ (bkb rfl) ?_
 intro A g K hA hg hK
 cases A
 cbv
 refine reg_A (hP▸tblOk) hA hg (hP▸mixed) rfl rfl ?_
 cbv
 refine stepD (en_val rfl hg rfl rfl hH (fun _ _ _ h=>h) ⟨trivial,trivial,trivial⟩) ?_
 cbv
 exact hK _ _ _ rfl
theorem strCmp_nil(s:ByteArray):strCmp .eql s (ByteArray.mk #[])=decide (bl s=[]):=by
 show(s.toList==(ByteArray.mk #[]).toList)=_
 rw[ByteArray.toList_eq,ByteArray.toList_eq]
 unfold bl
 cases s.data.toList<;>rfl
theorem strCmp_nilN(s:ByteArray):strCmp .neq s (ByteArray.mk #[])= !decide (bl s=[]):=by
 rw[<-strCmp_nil];rfl
def kvB(id:Nat)(s:List Nat)(k v:ByteArray):Nat->ByteArray×ByteArray
 |0=>(k,v)
 |i+1=>(mkB (Sh.hmac id (bl (kvB id s k v i).1) (bl (kvB id s k v i).2++[i]++s)),mkB (Sh.hmac id (bl (mkB (Sh.hmac id (bl (kvB id s k v i).1) (bl (kvB id s k v i).2++[i]++s)))) (bl (kvB id s k v i).2)))
theorem kvB_sz(id:Nat)(hid:1<=id/\id<=4)(s:List Nat)(k v:ByteArray)(hk:k.size<=64)(hv:v.size<=64):∀i,(kvB id s k v i).1.size<=64/\(kvB id s k v i).2.size<=64
 |0=>⟨hk,hv⟩
 |i+1=>by
  have hb:=Sh.size_blk hid
  constructor
  ·rw[kvB,<-bll,bmk (Sh.hmac_b _ _ _),Sh.hmac_len hid];omega
  ·rw[kvB,<-bll,bmk (Sh.hmac_b _ _ _),Sh.hmac_len hid];omega
theorem kvB_upd(id:Nat)(s:List Nat)(k v:ByteArray)(n:Nat)(i:Nat)(hi:i=if s=[]then 1 else 2):bl (kvB id s k v i).1=(Sh.upd ⟨id,bl k,bl v,n⟩ s).k/\bl (kvB id s k v i).2=(Sh.upd ⟨id,bl k,bl v,n⟩ s).v:=by
 unfold Sh.upd
 simp only
 by_cases hs:s=[]
 ·rw[if_pos hs]at hi
  subst hi
  rw[if_pos hs]
  simp only[kvB,bmk (Sh.hmac_b _ _ _),and_self]
 ·rw[if_neg hs]at hi
  subst hi
  rw[if_neg hs]
  simp only[kvB,bmk (Sh.hmac_b _ _ _),and_self]
theorem cDUpd{P:Program}(hP:P=Tryz.prog)(id:Nat)(hid2:1<=id/\id<=2)(k v s:ByteArray)(n:Nat)(hks:k.size<=64)(hvs:v.size<=64)(hss:s.size<2^20)(k' v':ByteArray)(hk':bl k'=(Sh.upd ⟨id,bl k,bl v,n⟩ (bl s)).k)(hv':bl v'=(Sh.upd ⟨id,bl k,bl v,n⟩ (bl s)).v):
 Con P 51 [.ptr 0 0,.str s] [⟨0,[.int .i64 (.ofNat id),.str k,.str v,.int .i64 (.ofNat n)],100⟩] 1 [0] (fun w L q=>w= .tup []/\L=[⟨0,[.int .i64 (.ofNat id),.str k',.str v',.int .i64 (.ofNat n)],100⟩]/\q=1):=by
 have hid:1<=id/\id<=4:=⟨hid2.1,Nat.le_trans hid2.2 (by decide)⟩
 suffices raw:Con P 51 [.ptr 0 0,.str s] [⟨0,[.int .i64 (.ofNat id),.str k,.str v,.int .i64 (.ofNat n)],100⟩] 1 [0] (fun w L q=>w= .tup []/\find L 0=some ⟨0,[.int .i64 (.ofNat id),.str k',.str v',.int .i64 (.ofNat n)],100⟩)from
  raw.weak fun w L q ⟨h1,h2⟩=>⟨_root_.id,.tup [],_,1,by subst h1;exact weak_id ⟨rfl,rfl,trivial⟩ ⟨h2,rfl,rfl,trivial⟩ rfl rfl,rfl,rfl,rfl⟩
 have hsz:=kvB_sz id hid (bl s) k v hks hvs
 have hfin:∀i,i=(if bl s=[]then 1 else 2)->(kvB id (bl s) k v i).1=k'/\(kvB id (bl s) k v i).2=v':=fun i hi=>by
  have:=kvB_upd id (bl s) k v n i hi
  exact⟨bl_inj (this.1.trans hk'.symm),bl_inj (this.2.trans hv'.symm)⟩
 have hK1:∀i,bl (kvB id (bl s) k v (i+1)).1=Sh.hmac id (bl (kvB id (bl s) k v i).1) (bl (kvB id (bl s) k v i).2++[i]++bl s):=fun i=>by rw[kvB,bmk (Sh.hmac_b _ _ _)]
 have hV1:∀i,bl (kvB id (bl s) k v (i+1)).2=Sh.hmac id (bl (kvB id (bl s) k v (i+1)).1) (bl (kvB id (bl s) k v i).2):=fun i=>by rw[kvB,bmk (Sh.hmac_b _ _ _)]
 obtain⟨K0,hK0⟩:=exq (fun i=>(kvB id (bl s) k v i).1:Nat->ByteArray)
 obtain⟨V0,hV0⟩:=exq (fun i=>(kvB id (bl s) k v i).2:Nat->ByteArray)
 replace hsz:∀i,(K0 i).size<=64/\(V0 i).size<=64:=fun i=>by rw[hK0,hV0];exact hsz i
 replace hfin:∀i,i=(if bl s=[]then 1 else 2)->K0 i=k'/\V0 i=v':=fun i hi=>by rw[hK0,hV0];exact hfin i hi
 replace hK1:∀i,bl (K0 (i+1))=Sh.hmac id (bl (K0 i)) (bl (V0 i)++[i]++bl s):=fun i=>by rw[hK0,hV0];exact hK1 i
 replace hV1:∀i,bl (V0 (i+1))=Sh.hmac id (bl (K0 (i+1))) (bl (V0 i)):=fun i=>by rw[hK0,hV0];exact hV1 i
 have hk0:k=K0 0:=by rw[hK0];rfl
 have hv0:v=V0 0:=by rw[hV0];rfl
 rw[hk0,hv0]
 clear hK0 hV0
 have hM:∀ (k v m dg:ByteArray),k.size<=64->m.size<2^30->bl dg=Sh.hmac id (bl k) (bl m)->Con P 52 [.ptr 0 0,.str m] [⟨0,[.int .i64 (.ofNat id),.str k,.str v,.int .i64 (.ofNat n)],100⟩] 1 [] (fun v _ _=>v= .str dg):=fun k v m dg h1 h2 h3=>cDMac hP id hid2 k v m dg n (by omega) h2 h3
 refine cof hP Tryz.func51 ⟨(by show 0<1;decide),trivial,trivial⟩ (bkb rfl) ?_
 intro A g K hA hg hK
 obtain⟨bin,_,cmp,_,cvt,_,_,_,_,_,scat,scmp⟩:=A
 have f1:∀i,i<2->cmp .lss (.ofNat i) 2=true:=fun i h=>lss_t hA (b:=2) h
 have f2:cmp .lss (.ofNat 2) 2=false:=lss_f hA (a:=2) (b:=2) (by omega)
 have f3:∀i,i<2->bin .add .i64 (.ofNat i) 1=Int.ofNat (i+1):=fun i h=>add_of hA (by omega)
 have f4:∀i,i<2->cvt .u8 (.ofNat i)=Int.ofNat i:=fun i h=>(cvt8A hA i).trans (by rw[Nat.mod_eq_of_lt (by omega)])
 have f5:cmp .eql (.ofNat 1) 1=true:=eql_t hA (a:=1) (b:=1) rfl
 have f6:cmp .eql (.ofNat 0) 1=false:=eql_f hA (a:=0) (b:=1) (by decide)
 have f7:scmp .eql s (ByteArray.mk #[])=decide (bl s=[]):=by
  have e:scmp=Ar.real.scmp:=congrArg Ar.scmp hA
  rw[e]
  exact strCmp_nil s
 cbv
 refine lpb Nat (fun i=>i<=2/\(i=2->bl s≠ [])) (fun i=>2-i) (fun i=> [(8,.int .i64 (.ofNat i))]) [0,1,4] (fun i=> [(0,[.int .i64 (.ofNat id),.str (K0 i),.str (V0 i),.int .i64 (.ofNat n)])]) 0 ⟨Nat.zero_le _,fun h=>by cases h⟩ ?_ ?_
 ·exact wkid
 rintro i ⟨hi,hi2⟩
 by_cases hlt:i<2
 ·obtain⟨b1,hb1⟩:=exq (⟨#[UInt8.ofNat i]⟩:ByteArray)
  have hbl1:bl b1=[i]:=by
   rw[hb1]
   show [(UInt8.ofNat i).toNat]=[i]
   have:i=0\/i=1:=by omega
   rcases this with rfl|rfl<;>rfl
  have hbs1:b1.size=1:=by rw[<-bll,hbl1];rfl
  obtain⟨m1,hm1⟩:=exq (V0 i++b1)
  obtain⟨m2,hm2⟩:=exq (m1++s)
  have hz:=hsz i
  have hz':=hsz (i+1)
  have hm1s:m1.size<=65:=by rw[hm1,ByteArray.size_append,hbs1];omega
  have hm2s:m2.size<2^21:=by rw[hm2,ByteArray.size_append];omega
  have g1:scat (V0 i) b1=some m1:=(scat_of hA (by omega)).trans (by rw[hm1])
  have g2:scat m1 s=some m2:=(scat_of hA (by omega)).trans (by rw[hm2])
  have hMa:=hM (K0 i) (V0 i) m2 (K0 (i+1)) hz.1 (by omega) (by rw[hK1,hm2,bl_app,hm1,bl_app,hbl1])
  have hMb:=hM (K0 (i+1)) (V0 i) (V0 i) (V0 (i+1)) hz'.1 (by omega) (hV1 i)
  have g3:bts b1=[.int .u8 (.ofNat i)]:=by rw[bts_by8,hbl1];rfl
  cbv
  rw[f1 i hlt]
  cbv
  by_cases hi1:i=1
  ·rw[show cmp .eql (.ofNat i) 1=true from eql_t hA (b:=1) hi1]
   cbv
   by_cases hs:bl s=[]
   ·rw[f7,decide_eq_true hs]
    cbv
    have:=hfin 1 (by rw[if_pos hs])
    rw[<-hi1]at this
    exact hK _ _ _ ⟨rfl,by rw[<-this.1,<-this.2];rfl⟩
   ·rw[f7,decide_eq_false hs]
    cbv
    refine reg_A (hP▸tblOk) hA hg (hP▸mixed) rfl rfl ?_
    cbv
    rw[f4 i hlt]
    cbv
    refine stepD (en_string (hP▸tblOk) hg rfl rfl (show tyT 9=some _ from rfl) rfl (show tyT 143=some _ from rfl) rfl (hP▸Tryz.underlying5) rfl rfl (s:=b1) (by rw[g3];rfl) hbs1) ?_
    cbv
    rw[g1]
    cbv
    rw[g2]
    cbv
    refine stepD (enr rfl hg rfl rfl hMa _root_.id rfl ⟨rfl,trivial⟩ (fun _ _ _ h=>h) trivial) ?_
    cbv
    refine cro rfl hg rfl rfl hMb _root_.id rfl ⟨rfl,trivial⟩ ?_
    rintro _ _ _ rfl
    refine⟨trivial,trivial,?_⟩
    cbv
    rw[f3 i hlt]
    refine⟨i+1,_root_.id,⟨hlt,fun _=>hs⟩,(by show 2-(i+1)<2-i;omega),?_⟩
    exact wkid
  ·rw[show cmp .eql (.ofNat i) 1=false from eql_f hA (b:=1) hi1]
   cbv
   refine reg_A (hP▸tblOk) hA hg (hP▸mixed) rfl rfl ?_
   cbv
   rw[f4 i hlt]
   cbv
   refine stepD (en_string (hP▸tblOk) hg rfl rfl (show tyT 9=some _ from rfl) rfl (show tyT 143=some _ from rfl) rfl (hP▸Tryz.underlying5) rfl rfl (s:=b1) (by rw[g3];rfl) hbs1) ?_
   cbv
   rw[g1]
   cbv
   rw[g2]
   cbv
   refine stepD (enr rfl hg rfl rfl hMa _root_.id rfl ⟨rfl,trivial⟩ (fun _ _ _ h=>h) trivial) ?_
   cbv
   refine cro rfl hg rfl rfl hMb _root_.id rfl ⟨rfl,trivial⟩ ?_
   rintro _ _ _ rfl
   refine⟨trivial,trivial,?_⟩
   cbv
   rw[f3 i hlt]
   refine⟨i+1,_root_.id,⟨hlt,fun h=>by omega⟩,(by show 2-(i+1)<2-i;omega),?_⟩
   exact wkid
 ·obtain rfl:i=2:=by omega
  have:=hfin 2 (by rw[if_neg (hi2 rfl)])
  cbv
  rw[f2]
  cbv
  exact hK _ _ _ ⟨rfl,by rw[<-this.1,<-this.2];rfl⟩
end Go.Proofs.YtdhmihfefgcbeaaGreat
