/-
  This text proves what these texts prove: Vgc, Vgd, VgT, Na. Conditions: those of each theorem.
-/
import Derived.Lib.AppendStr
import Derived.Laws.OwnMore
import Derived.Test.YtdhmihfefgcbeaaGreatY07
import Derived.Test.YtdhmihfefgcbeaaGreatY05
import Derived.Test.YtdhmihfefgcbeaaGreatRows
set_option maxHeartbeats 8000000
set_option linter.all false
namespace Go.Vg
open Go.RowKit Go.Lib
section
variable {P:Program}{g:G}{T:Nat->Option Ty}{F:FF}{L:LL}{n:Nat}
theorem run_append_op2{a:Act}{W:World}{o:Oper}{s x:Operand}{t u:TypeId}(ho:o.op= .call {callee:= .builtin .append,args:= #[s,x],argTypes:= #[t,u]}){v:Value}{W':World}(h:(Builtin.append_ #[t,u] o.type #[a.eval s,a.eval x]).run P W= .ok v W'):(execOp a.eval o).run P W= .ok (.value v) W':=by
 unfold execOp
 simp only[ho,resolve,invoke,builtin,Sem.run_bind,Sem.run_pure,Result.andThen_ok,List.map_toArray,List.map_cons,List.map_nil,h]
theorem run_append_room_str{W:World}{t u ty e:TypeId}{i:TypeInfo}(ht:P.underlying t=some (.slice e))(hu:P.underlying u=some .string)(hi:P.info? e=some i)(hs1:i.size=1){gb sLen sCap:Nat}{cur:Array Value}{t':TypeId}{mk:Nat×Nat}(hg:W.heap[gb]? =some (.cells cur t' mk))(hmk:okM mk cur.size)
 (s:ByteArray) (hroom:sLen+s.size<=sCap) (hfit:sLen+s.size<=cur.size):
 (Builtin.append_ #[t,u] ty #[.slice (some ⟨gb,0,none⟩) sLen sCap,.string s]).run P W=
  .ok (.slice (some ⟨gb,0,none⟩) (sLen+s.size) sCap) (W.setRow gb (cur.toList.take sLen++strCells s++cur.toList.drop (sLen+s.size)).toArray):=by
 have hf:=run_firstCells_string (P:=P) W 1 s
 have hst:=rsk (P:=P) gb sLen t' mk (strCells s) 0 cur W hg hmk (by simpa [strCells_length]using hfit) (strCells_oneCell s)
 simp only[Nat.add_zero,strCells_length]at hst
 simp[Builtin.append_,run_underlying ht,run_underlying hu,sizeOf,typeInfo,hi,hs1,Builtin.lenOf,hroom,hf,Addr.add_lit,hst]
theorem bts_len(s:ByteArray):(bts s).length=s.size:=by rw[bts,List.length_map,Array.length_toList];rfl
theorem bts_bdLB(m:Nat)(s:ByteArray):bdLB m (bts s)=true:=by
 unfold bts
 induction s.data.toList with
 |nil=>rfl
 |cons b l ih=>rw[List.map_cons,bdLB,ih];rfl
theorem bts_str(β:Nat->Nat)(s:ByteArray):denL β (bts s)=strCells s:=bts_den β s
theorem step_str_nil(hT:TOk P T){o:Oper}{m0 N:Nat}{ms:List Nat}(hg:GI g m0 ms N)(hd':dstLt N o.dst=true){s x:Operand}{t u:Nat}(ho:o.op= .call {callee:= .builtin .append,args:= #[s,x],argTypes:= #[t,u]})
 {i:Ty} (ht:T t=some i) {e:Nat} (hd:i.d= .sl e 1) {j:Ty} (hj:T e=some j) (hB:(P.info? e).map (·.bytes)=some 1) {iu:Ty} (hu':T u=some iu) (hud:iu.d= .s)
 (hs:ev (look F) s=some .nils) {d:ByteArray} (hx:ev (look F) x=some (.str d)) (hm0:0<d.size) (h63:d.size<=140737488355328) {K:FF->LL->Nat->Prop}
 (hgrow:∀c',d.size<=c'->c'<=maxLen->K (putO F o.dst (.slice n 0 d.size c')) (L++[⟨n,bts d++rep (c'-d.size) j.z,e⟩]) (n+1)):Step g P o K F L n:=by
 obtain⟨info,z,hu,hi,hz,hsz,hby,hes,hzc,hzb,hzn⟩:=sl_facts hT ht hd hj hB
 have hus:=str_of hT hu' hud
 refine step_new hg hd' fun β a W hm hf=> ?_
 obtain⟨e1,b1⟩:=evd hf hs
 obtain⟨e2,b2⟩:=evd hf hx
 obtain⟨X,hX,hrun⟩:=cells_out (run_append_nil_string (P:=P) W t u o.type e info z hu hus hi hz d hm0 (by omega) (by rw[hby];omega))
 have hge:=grownCap_ge W d.size 0 e
 refine⟨.slice n 0 d.size (grownCap W d.size 0 e),W.drew.alloc (.cells X e),W.heap.size,_,e,(0,0),fun γ hγ=>run_append_op2 ho ?_,upd_drew W _,Nat.le_refl _,Or.inl (Nat.le_refl 0),?_,?_,Nat.lt_succ_self n,hgrow _ hge (grownCap_le_maxLen W d.size 0 e (by simp only[maxLen];omega))⟩
 ·rw[e1,e2]
  simp only[den,hγ]
  exact hrun
 ·rw[show(W.drew.alloc (.cells X e)).heap[W.heap.size]? =some (.cells X e)from heap_alloc_new W.drew _,hX]
  congr 2
  apply Array.ext'
  have hzz:=zeroCells_den β (hzc β) (by intro h;rw[h]at hzn;simp at hzn) (grownCap W d.size 0 e-d.size)
  have hb:=bts_den β d
  simp only[dle]at hb hzz⊢
  simp[hzz,hb]
 ·rw[bdi]
  intro v hv
  rcases List.mem_append.1 hv with hv|hv
  ·exact(bdi _ _).1 (bts_bd _ d) v hv
  ·exact(bdi _ _).1 (rep_bd (hzb _) _) v hv
theorem step_str_own(hT:TOk P T){o:Oper}{m0 N:Nat}{ms:List Nat}(hg:GI g m0 ms N)(hd':dstLt N o.dst=true){s x:Operand}{t u:Nat}(ho:o.op= .call {callee:= .builtin .append,args:= #[s,x],argTypes:= #[t,u]})
 {i:Ty} (ht:T t=some i) {e:Nat} (hd:i.d= .sl e 1) {j:Ty} (hj:T e=some j) (hB:(P.info? e).map (·.bytes)=some 1) {iu:Ty} (hu':T u=some iu) (hud:iu.d= .s)
 {l n1 c:Nat} (hs:ev (look F) s=some (.slice l 0 n1 c)) {cs:List SV} (hl:find L l=some ⟨l,cs,e⟩) (hown:own m0 ms l=true) (hn1:n1<=c) (hcs:cs.length=c) (hc:c<=maxLen)
 {d:ByteArray} (hx:ev (look F) x=some (.str d)) (hbytes:n1+d.size<=140737488355328) {K:FF->LL->Nat->Prop}
 (hK:∀c' tail,n1+d.size<=c'->c'<=maxLen->tail.length=c'-(n1+d.size)->(∀q,bdLB q cs=true->bdLB q j.z=true->bdLB q tail=true)->K (putO F o.dst (.slice n 0 (n1+d.size) c')) (remL [l] L++[⟨n,cs.take n1++bts d++tail,e⟩]) (n+1)):Step g P o K F L n:=by
 obtain⟨info,z,hu,hi,hz,hsz,hby,hes,hzc,hzb,hzn⟩:=sl_facts hT ht hd hj hB
 have hus:=str_of hT hu' hud
 have hnl:=bts_len d
 by_cases hr:n1+d.size<=c
 ·have hsp:splice cs n1 (bts d)=cs.take n1++bts d++cs.drop (n1+d.size):=by rw[splice,hnl]
  rw[<-hg.n0,<-hg.ms]at hown
  have hKr:=hK c (cs.drop (n1+d.size)) hr hc (by rw[List.length_drop,hcs]) (fun q h _=>bdLB_drop h)
  rw[<-hsp]at hKr
  refine step_gen hg hd' fun β a W hm hf=> ?_
  obtain⟨e1,b1⟩:=evd hf hs
  obtain⟨e2,b2⟩:=evd hf hx
  obtain⟨mk,hmk,hcell⟩:=hm.cell l _ hl
  have hst:=hm.store (o:=n1) hl (vs:=bts d) (by show n1+_<=cs.length;omega) hown (bts_bd _ d)
  rw[show upL (find L) l ⟨l,splice cs n1 (bts d),e⟩=find (updL L l (splice cs n1 (bts d)))from by
   funext q
   rw[find_updL]
   simp only[upL,hl]
   rfl]at hst
  obtain⟨γ,hag,hγ,hm2⟩:=hst.relabel (l:=l) (b:=⟨l,splice cs n1 (bts d),e⟩) (by rw[find_updL,if_pos rfl,hl];rfl) hown
  have hrun:(execOp a.eval o).run P W= .ok (.value (.slice (some ⟨β l,0,none⟩) (n1+d.size) c)) (W.setRow (β l) (denL β (splice cs n1 (bts d))).toArray):=by
   refine run_append_op2 ho ?_
   rw[e1,e2]
   have:=run_append_room_str (P:=P) (ty:=o.type) (sLen:=n1) (sCap:=c) hu hus hi hsz hcell (by simpa [dle]using hmk hown) d hr (by
    simp only[List.size_toArray,dle,List.length_map]
    omega)
   simp only[den]
   rw[this,splice_den]
   have hb:=bts_str β d
   simp only[dle]at hb⊢
   simp[hb,hnl]
  refine⟨.slice n 0 (n1+d.size) c,_,remL [l] L++[⟨n,splice cs n1 (bts d),e⟩],n+1,γ,hrun.trans (by simp only[den,hγ]),hm2.less fun q b hq=> ?_,hag,Nat.le_succ n,Nat.lt_succ_self n,hKr⟩
  ·rw[fap,find_remL]at hq⊢
   rw[find_updL]
   by_cases hql:q=l
   ·rw[show memN [l] q=true by simp[memN,hql]]at hq⊢
    exact hq
   ·rw[show memN [l] q=false by simp[memN,Ne.symm hql]]at hq⊢
    rw[if_neg hql]
    exact hq
 ·refine step_gen hg hd' fun β a W hm hf=> ?_
  obtain⟨e1,b1⟩:=evd hf hs
  obtain⟨e2,b2⟩:=evd hf hx
  have hold:=cells_from hm hl 0 n1
  have hol:(denL β (((⟨l,cs,e⟩:Blk).cs.drop 0).take n1)).length=n1*info.size:=by
   rw[dle,List.length_map,List.length_take,List.length_drop,hsz];show min _ (cs.length-0)=_;omega
  obtain⟨X,hX,hrun⟩:=cells_out (run_append_grow_string (P:=P) W t u o.type e info z hu hus hi hz ⟨β l,0,none⟩ n1 c _ hol hold d (by omega) (by omega) (growslice_fits (by omega) (by rw[hby];omega)))
  have hge:=grownCap_ge W (n1+d.size) c e
  have hcells:(W.drew.alloc (.cells X e)).heap[W.heap.size]? =some (.cells (denL β (cs.take n1++bts d++rep (grownCap W (n1+d.size) c e-(n1+d.size)) j.z)).toArray e (0,0)):=by
   rw[show(W.drew.alloc (.cells X e)).heap[W.heap.size]? =some (.cells X e)from heap_alloc_new W.drew _,hX]
   congr 2
   apply Array.ext'
   have hzz:=zeroCells_den β (hzc β) (by intro h;rw[h]at hzn;simp at hzn) (grownCap W (n1+d.size) c e-(n1+d.size))
   have hb:=bts_str β d
   simp only[dle]at hb hzz⊢
   simp[hzz,hb]
  obtain⟨γ,h1,h2,h3⟩:=hm.fresh (k:=n) (fun h=>Nat.lt_irrefl n h) (cs:=cs.take n1++bts d++rep (grownCap W (n1+d.size) c e-(n1+d.size)) j.z) (by
   rw[bdi]
   intro v hv
   rcases List.mem_append.1 hv with hv|hv
   ·rcases List.mem_append.1 hv with hv|hv
    ·exact(bdi _ _).1 (hm.bL l _ hl).2 v (List.mem_of_mem_take hv)
    ·exact(bdi _ _).1 (bts_bd _ d) v hv
   ·exact(bdi _ _).1 (rep_bd (hzb _) _) v hv) e (upd_drew W _) (Nat.le_refl _) (m:=(0,0)) (Or.inl (Nat.le_refl 0)) hcells
  have hrl:(rep (grownCap W (n1+d.size) c e-(n1+d.size)) j.z).length=grownCap W (n1+d.size) c e-(n1+d.size):=by
   rw[rep_length,hzn,Nat.mul_one]
  refine⟨.slice n 0 (n1+d.size) (grownCap W (n1+d.size) c e),W.drew.alloc (.cells X e),_,n+1,γ,run_append_op2 ho ?_,?_,h1,Nat.le_succ n,Nat.lt_succ_self n,hK _ _ hge (grownCap_le_maxLen W (n1+d.size) c e (by simp only[maxLen];omega)) hrl (fun q _ h=>rep_bdLB h _)⟩
  ·rw[e1,e2]
   simp only[den,h2]
   exact hrun
  ·rw[<-succ_p]
   refine h3.less fun q b hq=> ?_
   rw[fap,find_remL]at hq
   simp only[upL]
   by_cases hqn:q=n
   ·rw[if_pos hqn]
    have hno:find L q=none:=by
     cases hq2:find L q with
     |none=>rfl
     |some d=>have:=(hm.bL q d hq2).1;omega
    rw[hno,ite_self]at hq
    simpa [find,hqn]using hq
   ·rw[if_neg hqn]
    split at hq
    ·rename_i d hd2
     split at hd2
     ·cases hd2
     ·rw[hd2];exact hq
    ·simp only[find]at hq
     rw[if_neg (fun e=>hqn e.symm)]at hq
     cases hq
theorem step_app_none(hT:TOk P T){o:Oper}{m0 N:Nat}{ms:List Nat}(hg:GI g m0 ms N)(hd':dstLt N o.dst=true){s x:Operand}{t u:Nat}(ho:o.op= .call {callee:= .builtin .append,args:= #[s,x],argTypes:= #[t,u]})
 {i:Ty} (ht:T t=some i) {e es:Nat} (hd:i.d= .sl e es) {iu:Ty} (hu':T u=some iu) (hud:(∃e' es',iu.d= .sl e' es')\/iu.d= .s)
 (hs:ev (look F) s=some .nils) {xv:SV} (hx:ev (look F) x=some xv) (hxv:xv= .nils\/(∃k o c,xv= .slice k o 0 c)\/ ∃d:ByteArray,xv= .str d/\d.size=0) {K:FF->LL->Nat->Prop} (hK:K (putO F o.dst .nils) L n):Step g P o K F L n:=by
 obtain⟨hu,hsz⟩:=sl_of hT ht hd
 refine step_val hg hd' (v:= .nils) (fun β a W hm hf=> ?_) hK
 obtain⟨e1,b1⟩:=evd hf hs
 obtain⟨e2,b2⟩:=evd hf hx
 refine⟨run_append_op2 ho ?_,trivial⟩
 rw[e1,e2]
 have hsr:=rsz (w:=W) hsz
 rcases hud with⟨e',es',h⟩|h
 ·have hd1:=(sl_of hT hu' h).1
  rcases hxv with rfl|⟨k,q,c,rfl⟩|⟨w,rfl,hw⟩<;>simp[Builtin.append_,run_underlying hu,run_underlying hd1,hsr,Builtin.lenOf,Builtin.firstCells,loadCells,loadCellsFrom,den, *]
 ·have hd1:=str_of hT hu' h
  rcases hxv with rfl|⟨k,q,c,rfl⟩|⟨w,rfl,hw⟩<;>simp[Builtin.append_,run_underlying hu,run_underlying hd1,hsr,Builtin.lenOf,Builtin.firstCells,loadCells,loadCellsFrom,den, *]
theorem step_app_same(hT:TOk P T){o:Oper}{m0 N:Nat}{ms:List Nat}(hg:GI g m0 ms N)(hd':dstLt N o.dst=true){s x:Operand}{t u:Nat}(ho:o.op= .call {callee:= .builtin .append,args:= #[s,x],argTypes:= #[t,u]})
 {i:Ty} (ht:T t=some i) {e es:Nat} (hd:i.d= .sl e es) {iu:Ty} (hu':T u=some iu) (hud:(∃e' es',iu.d= .sl e' es')\/iu.d= .s)
 {l n1 c:Nat} (hs:ev (look F) s=some (.slice l 0 n1 c)) {cs:List SV} (hl:find L l=some ⟨l,cs,e⟩) (hown:own m0 ms l=true) (hn1:n1<=c) (_:cs.length=c*es)
 (hx:ev (look F) x=some .nils) {K:FF->LL->Nat->Prop} (hK:K (putO F o.dst (.slice n 0 n1 c)) (remL [l] L++[⟨n,cs,e⟩]) (n+1)):Step g P o K F L n:=by
 obtain⟨hu,hsz⟩:=sl_of hT ht hd
 rw[<-hg.n0,<-hg.ms]at hown
 refine step_gen hg hd' fun β a W hm hf=> ?_
 obtain⟨e1,b1⟩:=evd hf hs
 obtain⟨e2,b2⟩:=evd hf hx
 obtain⟨γ,hag,hγ,hm2⟩:=hm.relabel hl hown
 have hsr:=rsz (w:=W) hsz
 have hrun:(execOp a.eval o).run P W= .ok (.value (.slice (some ⟨β l,0,none⟩) n1 c)) W:=by
  refine run_append_op2 ho ?_
  rw[e1,e2]
  rcases hud with⟨e',es',h⟩|h
  ·have hd1:=(sl_of hT hu' h).1
   simp[Builtin.append_,run_underlying hu,run_underlying hd1,hsr,Builtin.lenOf,Builtin.firstCells,storeCells,den,hn1]
  ·have hd1:=str_of hT hu' h
   simp[Builtin.append_,run_underlying hu,run_underlying hd1,hsr,Builtin.lenOf,Builtin.firstCells,storeCells,den,hn1]
 exact⟨.slice n 0 n1 c,_,_,n+1,γ,hrun.trans (by simp only[den,hγ]),hm2,hag,Nat.le_succ n,Nat.lt_succ_self n,hK⟩
end
def by8(l:List Nat):List SV:=l.map fun x=> .int .u8 (.ofNat x)
def bl(s:ByteArray):List Nat:=s.data.toList.map UInt8.toNat
def mkB(l:List Nat):ByteArray:=⟨(l.map UInt8.ofNat).toArray⟩
theorem by8_len(l:List Nat):(by8 l).length=l.length:=List.length_map ..
theorem by8_app(a b:List Nat):by8 (a++b)=by8 a++by8 b:=List.map_append
theorem by8_bd(m:Nat):∀l,bdLB m (by8 l)=true
 | []=>rfl
 |x::l=>by show bdLB m (_::by8 l)=true;rw[bdLB,by8_bd m l];rfl
theorem by8_ones:∀l,ones (by8 l)=true
 | []=>rfl
 |x::l=>by8_ones l
theorem by8_take(l:List Nat)(k:Nat):by8 (l.take k)=(by8 l).take k:=List.map_take
theorem by8_drop(l:List Nat)(k:Nat):by8 (l.drop k)=(by8 l).drop k:=List.map_drop
theorem bts_by8(s:ByteArray):bts s=by8 (bl s):=by
 unfold bts by8 bl
 rw[List.map_map];rfl
theorem bll(s:ByteArray):(bl s).length=s.size:=by unfold bl;rw[List.length_map,Array.length_toList];rfl
theorem bl_app(s t:ByteArray):bl (s++t)=bl s++bl t:=by
 unfold bl
 rw[show(s++t).data=s.data++t.data from ByteArray.data_append ..,Array.toList_append,List.map_append]
theorem bmk{l:List Nat}(h:∀x∈l,x<256):bl (mkB l)=l:=by
 unfold bl mkB
 rw[List.toList_toArray,List.map_map]
 conv=>rhs;rw[<-List.map_id l]
 exact List.map_congr_left fun x hx=>by simp[UInt8.toNat_ofNat,Nat.mod_eq_of_lt (h x hx)]
theorem bl_lt(s:ByteArray):∀x∈bl s,x<256:=fun x hx=>by
 unfold bl at hx
 obtain⟨b,_,rfl⟩:=List.mem_map.1 hx
 exact b.toNat_lt
theorem bl_inj{s t:ByteArray}(h:bl s=bl t):s=t:=by
 cases s;cases t
 congr 1
 apply Array.ext'
 unfold bl at h
 simp only at h
 exact(List.map_inj_right fun a b e=>UInt8.toNat_inj.1 e).1 h
def BRow(t:TypeId)(lb:Nat)(l:List Nat)(v:SV)(B:LL):Prop:=
 (v= .nils/\B=[]/\l=[])\/ ∃c X,v= .slice lb 0 l.length c/\B=[⟨lb,X,t⟩]/\X.take l.length=by8 l/\X.length=c/\l.length<=c/\c<=maxLen/\∀m,bdLB m X=true
def BSrc(L:LL)(xv:SV)(d:List Nat):Prop:=(xv= .nils/\d=[])\/ ∃k o m c b,m=d.length/\xv= .slice k o m c/\find L k=some b/\(b.cs.drop o).take d.length=by8 d
structure RowX(l:List Nat)(c:Nat)(X:List SV):Prop where
 dat:X.take l.length=by8 l
 len:X.length=c
 le:l.length<=c
 max:c<=maxLen
 b:∀m,bdLB m X=true
theorem RowX.row{l:List Nat}{c k:Nat}{X:List SV}(h:RowX l c X)(hk:k=l.length)(t:TypeId)(lb:Nat):BRow t lb l (.slice lb 0 k c) [⟨lb,X,t⟩]:=hk▸Or.inr ⟨c,X,rfl,rfl,h.dat,h.len,h.le,h.max,h.b⟩
theorem BRow.get{t:TypeId}{lb:Nat}{l:List Nat}{v:SV}{B:LL}(h:BRow t lb l v B):(v= .nils/\B=[]/\l=[])\/ ∃k c X,k=l.length/\v= .slice lb 0 k c/\B=[⟨lb,X,t⟩]/\RowX l c X:=by
 rcases h with h|⟨c,X,h1,h2,h3,h4,h5,h6,h7⟩
 ·exact Or.inl h
 ·exact Or.inr ⟨_,c,X,rfl,h1,h2,h3,h4,h5,h6,h7⟩
theorem BRow.some{t:TypeId}{lb:Nat}{l:List Nat}{v:SV}{B:LL}(h:BRow t lb l v B)(hl:l≠ []):∃k c X,k=l.length/\v= .slice lb 0 k c/\B=[⟨lb,X,t⟩]/\RowX l c X:=by
 rcases h.get with⟨_,_,h⟩|h
 ·exact(hl h).elim
 ·exact h
theorem BRow.nil(t:TypeId)(lb:Nat):BRow t lb [] .nils []:=Or.inl ⟨rfl,rfl,rfl⟩
theorem find_mid{A B C:LL}(h:∀x∈B,∀y∈C,x.l≠y.l):find (A++(B++C))=find (A++C++B):=by
 funext l
 rw[fap,fap,fap,fap]
 cases find A l with
 |some b=>rfl
 |none=>
  cases hb:find B l with
  |none=>cases hc:find C l<;>rfl
  |some b=>
   cases hc:find C l with
   |none=>rfl
   |some c=>
    obtain⟨h1,h2⟩:=fdm hb
    obtain⟨h3,h4⟩:=fdm hc
    exact(h b h1 c h3 (h2.trans h4.symm)).elim
theorem BRow.mid{t:TypeId}{lb:Nat}{l:List Nat}{v:SV}{A B C:LL}(h:BRow t lb l v B)(hC:(C.all fun b=> !Nat.beq b.l lb)=true):find (A++(B++C))=find (A++C++B):=by
 refine find_mid fun x hx y hy e=> ?_
 have:=List.all_eq_true.1 hC y hy
 rcases h with⟨_,rfl,_⟩|⟨_,_,_,rfl,_⟩
 ·cases hx
 ·obtain rfl:=List.mem_singleton.1 hx
  rw[<-e,Nat.beq_refl]at this;cases this
theorem BRow.src{t:TypeId}{lb:Nat}{l:List Nat}{v:SV}{B L0:LL}(h:BRow t lb l v B)(h0:(L0.all fun b=> !Nat.beq b.l lb)=true):BSrc (L0++B) v l:=by
 rcases h with⟨rfl,rfl,rfl⟩|⟨c,X,rfl,rfl,h1,h2,h3,h4,h5⟩
 ·exact Or.inl ⟨rfl,rfl⟩
 ·refine Or.inr ⟨lb,0,_,c,⟨lb,X,t⟩,rfl,rfl,?_,h1⟩
  rw[fap]
  have:find L0 lb=none:=by
   cases hf:find L0 lb with
   |none=>rfl
   |some b=>
    obtain⟨q1,q2⟩:=fdm hf
    have:=List.all_eq_true.1 h0 b q1
    rw[q2,Nat.beq_refl]at this;cases this
  rw[this]
  simp[find]
theorem remL_app{L0:LL}{lb:Nat}(h0:(L0.all fun b=> !Nat.beq b.l lb)=true){X:List SV}{t:TypeId}:remL [lb] (L0++[⟨lb,X,t⟩])=L0:=by
 induction L0 with
 |nil=>simp[remL,memN]
 |cons b L ih=>
  have h0':=h0
  simp only[List.all_cons,Bool.and_eq_true]at h0
  have hb:memN [lb] b.l=false:=by
   simp only[memN]
   have h1:=h0.1
   have hne:lb≠b.l:=fun e=>by rw[e,Nat.beq_refl]at h1;cases h1
   simp[hne]
  simp only[List.cons_append,remL,hb,ih h0.2]
section
variable {P:Program}{g:G}{T:Nat->Option Ty}{F:FF}{L:LL}{n:Nat}
theorem Step.up{o:Oper}{K:FF->LL->Nat->Prop}(h:Step g P o (fun F' L' n'=>K F' L' (n'+1)) F L n):Step g P o K F L n:=by
 refine⟨fun a W hst next Q hn=>h.run a W hst next Q fun F' L' n' a' W' hk ⟨β,hm,hf⟩=>hn F' L' (n'+1) a' W' hk ⟨β,?_,?_⟩⟩
 ·exact⟨fun l hl=>Nat.lt_succ_of_lt (hm.low l hl),hm.old,hm.new,hm.inj,hm.cell,fun l b hb=>⟨Nat.lt_succ_of_lt (hm.bL l b hb).1,bdm (fun _ h=>Nat.lt_succ_of_lt h) _ (hm.bL l b hb).2⟩,hm.up⟩
 ·exact hf.mono (fun _ _=>rfl) fun l hl=>Nat.lt_succ_of_lt hl
theorem Step.perm{o:Oper}{K:FF->LL->Nat->Prop}{L2:LL}(h:find L=find L2)(hs:Step g P o K F L2 n):Step g P o K F L n:=
 ⟨fun a W hst next Q hn=>hs.run a W (by obtain⟨β,hm,hf⟩:=hst;exact⟨β,by rw[<-h];exact hm,hf⟩) next Q hn⟩
theorem sbp(hT:TOk P T){o:Oper}{m0 N:Nat}{ms:List Nat}(hg:GI g m0 ms N)(hd':dstLt N o.dst=true){s x:Operand}{t:Nat}(ho:o.op= .call {callee:= .builtin .append,args:= #[s,x],argTypes:= #[t,t]})
 {i:Ty} (ht:T t=some i) {e:Nat} (hd:i.d= .sl e 1) {j:Ty} (hj:T e=some j) (hB:(P.info? e).map (·.bytes)=some 1) (hjz:j.z=[.int .u8 0])
 {L0 B1:LL} {lb:Nat} (hL:find L=find (L0++B1)) (h0:(L0.all fun b=> !Nat.beq b.l lb)=true) (hown:own m0 ms lb=true) {l d:List Nat} {v1 xv:SV} (hR:BRow e lb l v1 B1) (hs:ev (look F) s=some v1) (hx:ev (look F) x=some xv) (hX:BSrc (L0++B1) xv d)
 (hsz:l.length+d.length<=140737488355328) {K:FF->LL->Nat->Prop} (hK:∀v B,BRow e n (l++d) v B->K (putO F o.dst v) (L0++B) (n+1)):Step g P o K F L n:=by
 refine Step.perm hL ?_
 generalize hLL:L0++B1=L2 at hL hX⊢
 replace hL:=hLL.symm
 rcases hR with⟨rfl,rfl,rfl⟩|⟨c,X,rfl,rfl,h1,h2,h3,h4,h5⟩
 ·rw[List.append_nil]at hL
  subst hL
  rcases Nat.eq_zero_or_pos d.length with hd0|hd0
  ·have hd0':d=[]:=List.eq_nil_of_length_eq_zero hd0
   refine Step.up (step_app_none hT hg hd' ho ht hd ht (Or.inl ⟨_,_,hd⟩) hs hx ?_ ?_)
   ·rcases hX with⟨rfl,_⟩|⟨k,q,_,c,b,rfl,rfl,_,_⟩
    ·exact Or.inl rfl
    ·exact Or.inr (Or.inl ⟨k,q,c,by rw[hd0]⟩)
   ·have:=hK .nils [] (Or.inl ⟨rfl,rfl,by rw[hd0'];rfl⟩)
    rwa [List.append_nil]at this
  ·rcases hX with⟨rfl,rfl⟩|⟨k,q,_,c,b,rfl,rfl,hk,hbk⟩
   ·cases hd0
   ·obtain⟨bl,bcs,bt⟩:=b
    obtain rfl:=(find_l hk:bl=k)
    have hbl:q+d.length<=bcs.length:=by
     have:=congrArg List.length hbk
     rw[List.length_take,List.length_drop,by8_len]at this
     have h7:bcs.length-q≥d.length:=by show(Blk.cs ⟨bl,bcs,bt⟩).length-q≥_;omega
     omega
    refine step_app_nil hT hg hd' ho ht hd hj hB (by decide) hs hx hk (by rw[Nat.mul_one];exact hbl) hd0 (by simp only[maxLen];simp at hsz;omega) (by simp at hsz;omega) fun c' X hX h1 h2 h3 h4=> ?_
    rw[Nat.mul_one]at hX h3
    refine hK _ _ (Or.inr ⟨c',X,rfl,rfl,?_,h3,h1,h2,fun m=> ?_⟩)
    ·rw[hX,show(bcs.drop q).take d.length=by8 d from hbk]
     show(by8 d++_).take d.length=by8 d
     rw[List.take_left' (by8_len d)]
    ·rw[hX,show(bcs.drop q).take d.length=by8 d from hbk,hjz]
     exact bap (by8_bd m d) (rep_bdLB rfl _)
 ·have hsrc:(xv= .nils/\d=[])\/ ∃k q m c b,m=d.length/\xv= .slice k q m c/\find L2 k=some b/\(b.cs.drop q).take d.length=by8 d:=hX
  subst hL
  have hf:find (L0++[⟨lb,X,e⟩]) lb=some ⟨lb,X,e⟩:=by
   rcases BRow.src (t:=e) (lb:=lb) (l:=l) (v:= .slice lb 0 l.length c) (B:=[⟨lb,X,e⟩]) (Or.inr ⟨c,X,rfl,rfl,h1,h2,h3,h4,h5⟩) h0 with⟨h,_⟩|⟨k,q,_,c',b,_,h,hb,_⟩
   ·cases h
   ·cases h
    rw[fap]at hb⊢
    cases hz:find L0 lb with
    |none=>simp[find]
    |some b'=>
     obtain⟨q1,q2⟩:=fdm hz
     have:=List.all_eq_true.1 h0 b' q1
     rw[q2,Nat.beq_refl]at this;cases this
  have fin:∀c' tail Y M,Y=X.take l.length++by8 d++tail->M=l.length+d.length->M<=c'->c'<=maxLen->Y.length=c'->(∀m,bdLB m Y=true)->K (putO F o.dst (.slice n 0 M c')) (L0++[⟨n,Y,e⟩]) (n+1):=by
   intro c' tail Y M hY hM q1 q2 q3 q4
   refine hK _ _ (Or.inr ⟨c',Y,by rw[List.length_append,hM],rfl,?_,q3,by rw[List.length_append,<-hM];exact q1,q2,q4⟩)
   rw[hY,h1,<-by8_app]
   exact List.take_left' (by rw[by8_len])
  rcases hsrc with⟨rfl,rfl⟩|⟨k,q,_,c2,b,rfl,rfl,hk,hbk⟩
  ·have hfin:=fin c (X.drop l.length) X l.length (by rw[show by8 []=[]from rfl,List.append_nil,List.take_append_drop]) (by simp) h3 h4 h2 h5
   exact step_app_same hT hg hd' ho ht hd ht (Or.inl ⟨_,_,hd⟩) hs hf hown h3 (by rw[Nat.mul_one];exact h2) hx (by
    rw[remL_app h0];exact hfin)
  ·obtain⟨bl,bcs,bt⟩:=b
   obtain rfl:=(find_l hk:bl=k)
   have hbl:0<d.length->q+d.length*1<=bcs.length:=fun hd0=>by
    have:=congrArg List.length hbk
    rw[List.length_take,List.length_drop,by8_len]at this
    have h7:bcs.length-q≥d.length:=by show(Blk.cs ⟨bl,bcs,bt⟩).length-q≥_;omega
    omega
   have hbk':(bcs.drop q).take (d.length*1)=by8 d:=by rw[Nat.mul_one];exact hbk
   refine step_append_own0 hT hg hd' ho ht hd hj hB (by decide) hs hf hown h3 (by rw[Nat.mul_one];exact h2) h4 hx hk hbl (by rw[hbk'];exact by8_ones d) (by simp only[maxLen];omega) (by omega) fun c' tail r1 r2 r3 r4=> ?_
   rw[remL_app h0]
   rw[Nat.mul_one]at r3
   refine fin c' tail _ _ (by rw[hbk',Nat.mul_one]) rfl r1 r2 ?_ fun m=> ?_
   ·rw[hbk',Nat.mul_one,List.length_append,List.length_append,by8_len,r3,List.length_take,h2,Nat.min_eq_left h3];omega
   ·rw[hbk']
    exact bap (bap (bdLB_take (h5 m)) (by8_bd m d)) (r4 m (h5 m) (by rw[hjz];rfl))
theorem step_sapp(hT:TOk P T){o:Oper}{m0 N:Nat}{ms:List Nat}(hg:GI g m0 ms N)(hd':dstLt N o.dst=true){s x:Operand}{t u:Nat}(ho:o.op= .call {callee:= .builtin .append,args:= #[s,x],argTypes:= #[t,u]})
 {i:Ty} (ht:T t=some i) {e:Nat} (hd:i.d= .sl e 1) {j:Ty} (hj:T e=some j) (hB:(P.info? e).map (·.bytes)=some 1) (hjz:j.z=[.int .u8 0]) {iu:Ty} (hu':T u=some iu) (hud:iu.d= .s)
 {L0 B1:LL} {lb:Nat} (hL:find L=find (L0++B1)) (h0:(L0.all fun b=> !Nat.beq b.l lb)=true) (hown:own m0 ms lb=true) {l:List Nat} {v1:SV} {d:ByteArray} (hR:BRow e lb l v1 B1) (hs:ev (look F) s=some v1) (hx:ev (look F) x=some (.str d))
 (hsz:l.length+d.size<=140737488355328) {K:FF->LL->Nat->Prop} (hK:∀v B,BRow e n (l++bl d) v B->K (putO F o.dst v) (L0++B) (n+1)):Step g P o K F L n:=by
 refine Step.perm hL ?_
 generalize hLL:L0++B1=L2 at hL⊢
 replace hL:=hLL.symm
 rcases hR with⟨rfl,rfl,rfl⟩|⟨c,X,rfl,rfl,h1,h2,h3,h4,h5⟩
 ·rw[List.append_nil]at hL
  subst hL
  rcases Nat.eq_zero_or_pos d.size with hd0|hd0
  ·refine Step.up (step_app_none hT hg hd' ho ht hd hu' (Or.inr hud) hs hx (Or.inr (Or.inr ⟨d,rfl,hd0⟩)) ?_)
   have:=hK .nils [] (Or.inl ⟨rfl,rfl,by rw[List.nil_append];exact List.eq_nil_of_length_eq_zero (by rw[bll,hd0])⟩)
   rwa [List.append_nil]at this
  ·refine step_str_nil hT hg hd' ho ht hd hj hB hu' hud hs hx hd0 (by simp at hsz;omega) fun c' h1 h2=> ?_
   refine hK _ _ (Or.inr ⟨c',_,by rw[List.nil_append,bll],rfl,?_,?_,by rw[List.nil_append,bll];exact h1,h2,fun m=>bap (bts_bdLB m d) (rep_bdLB (by rw[hjz];rfl) _)⟩)
   ·rw[List.nil_append,bts_by8,List.take_left' (by8_len _)]
   ·rw[List.length_append,bts_len,rep_length,hjz,List.length_singleton,Nat.mul_one];omega
 ·subst hL
  have hf:find (L0++[⟨lb,X,e⟩]) lb=some ⟨lb,X,e⟩:=by
   rw[fap]
   cases hz:find L0 lb with
   |none=>simp[find]
   |some b'=>
    obtain⟨q1,q2⟩:=fdm hz
    have:=List.all_eq_true.1 h0 b' q1
    rw[q2,Nat.beq_refl]at this;cases this
  refine step_str_own hT hg hd' ho ht hd hj hB hu' hud hs hf hown h3 h2 h4 hx hsz fun c' tail r1 r2 r3 r4=> ?_
  rw[remL_app h0]
  refine hK _ _ (Or.inr ⟨c',_,by rw[List.length_append,bll],rfl,?_,?_,by rw[List.length_append,bll];exact r1,r2,fun m=>bap (bap (bdLB_take (h5 m)) (bts_bdLB m d)) (r4 m (h5 m) (by rw[hjz];rfl))⟩)
  ·rw[h1,bts_by8,<-by8_app]
   exact List.take_left' (by rw[by8_len])
  ·rw[List.length_append,List.length_append,bts_len,r3,List.length_take,h2,Nat.min_eq_left h3];omega
end
mutual
theorem bdB_le{m k:Nat}(h:m<=k):∀v,bdB m v=true->bdB k v=true
 | .bool _,_| .int _ _,_| .str _,_| .nilp,_| .nils,_| .nilfn,_| .raw _,_=>rfl
 | .ptr _ _,hv| .ptrS _ _,hv| .slice _ _ _ _,hv=>by
   simp only[bdB]at hv⊢
   exact Nat.ble_eq_true_of_le (Nat.le_trans (Nat.le_of_ble_eq_true hv) h)
 | .fn _ a b,hv=>by
   simp only[bdB,Bool.and_eq_true]at hv⊢
   exact⟨bdLB_le h a hv.1,bdLB_le h b hv.2⟩
 | .agg cs,hv=>by simp only[bdB]at hv⊢;exact bdLB_le h cs hv
 | .tup vs,hv=>by simp only[bdB]at hv⊢;exact bdLB_le h vs hv
theorem bdLB_le{m k:Nat}(h:m<=k):∀l,bdLB m l=true->bdLB k l=true
 | [],_=>rfl
 |v::vs,hl=>by
  simp only[bdLB,Bool.and_eq_true]at hl⊢
  exact⟨bdB_le h v hl.1,bdLB_le h vs hl.2⟩
end
mutual
theorem ren_fix{ρ:Nat->Nat}{m:Nat}(h:∀l,l<m->ρ l=l):∀v,bdB m v=true->ren ρ v=v
 | .bool _,_| .int _ _,_| .str _,_| .nilp,_| .nils,_| .nilfn,_| .raw _,_=>rfl
 | .ptr l _,hv| .ptrS l _,hv| .slice l _ _ _,hv=>by
   simp only[ren,h l (blq (by simpa only[bdB]using hv))]
 | .fn _ a b,hv=>by
   simp only[bdB,Bool.and_eq_true]at hv
   simp only[ren,renL_fix h a hv.1,renL_fix h b hv.2]
 | .agg cs,hv=>by simp only[bdB]at hv;simp only[ren,renL_fix h cs hv]
 | .tup vs,hv=>by simp only[bdB]at hv;simp only[ren,renL_fix h vs hv]
theorem renL_fix{ρ:Nat->Nat}{m:Nat}(h:∀l,l<m->ρ l=l):∀l,bdLB m l=true->renL ρ l=l
 | [],_=>rfl
 |v::vs,hl=>by
  simp only[bdLB,Bool.and_eq_true]at hl
  simp only[renL,ren_fix h v hl.1,renL_fix h vs hl.2]
end
section
variable {P:Program}{T:Nat->Option Ty}
theorem slr_lo(hT:TOk P T){t:Nat}{i:Ty}(ht:T t=some i){e es:Nat}(hd:i.d= .sl e es)(l o m c:Nat){k:IntKind}{j:Nat}(hj:j<=m)(hc:m<=c):SlR P t (.slice l o m c) (some (k,Int.ofNat j)) none (.slice l (if c=j then o else o+j*es) (m-j) (c-j)):=by
 by_cases h:c=j
 ·obtain⟨hu,hs⟩:=sl_of hT ht hd
  have he:P.elem t=e:=by simp[Program.elem,hu]
  refine⟨fun β W=> ?_,fun p h=>h⟩
  show(Instr.sliceAt t (.slice (some ⟨β l,o,none⟩) m c) (some (.int k (Int.ofNat j))) none none).run P W=_
  rw[run_sliceAt_slice W t _ _ _ _ (by rw[he];exact hu),run_slice_l W t _ m c (by rw[he];exact hu) k (Int.ofNat j) (by simp) (by simpa using hj),he,rsz hs]
  simp only[Result.andThen,sliced,den]
  rw[if_pos (by simp;omega),if_pos h]
  simp
 ·rw[if_neg h]
  exact slr_l hT ht hd l o m c hj (by omega)
end
end Go.Vg
namespace Go.Vg
open Go.RowKit Go.Lib
section
variable {P:Program}{g:G}{T:Nat->Option Ty}{F:FF}{L:LL}{n:Nat}
theorem smk(hT:TOk P T){o:Oper}{m0 N:Nat}{ms:List Nat}(hg:GI g m0 ms N)(hd':dstLt N o.dst=true){t:Nat}{l c:Operand}(ho:o.op= .makeSlice t l c){i:Ty}(ht:T t=some i){e:Nat}(hd:i.d= .sl e 1){j:Ty}(hj:T e=some j){bytes:Nat}(hB:(P.info? e).map (·.bytes)=some bytes){zv:SV}(hjz:j.z=[zv])
 {kl kc:IntKind} {m:Nat} (hl:ev (look F) l=some (.int kl (Int.ofNat m))) (hc:ev (look F) c=some (.int kc (Int.ofNat m))) (hbm:bytes*m<=281474976710656) (hm:m<=281474976710656) {K:FF->LL->Nat->Prop}
 (hK:K (putO F o.dst (.slice n 0 m m)) (L++[⟨n,List.replicate m zv,e⟩]) (n+1)):Step g P o K F L n:=by
 obtain⟨info,z,hu,hi,hz,hsz,hby,hes,hzc,hzb,hzn⟩:=sl_facts hT ht hd hj hB
 have hbz:∀p,bd p zv:=fun p=>by have:=hzb p;rw[hjz]at this;exact this.1
 refine step_new hg hd' fun β a W hm' hf=> ?_
 obtain⟨e1,_⟩:=evd hf hl
 obtain⟨e2,_⟩:=evd hf hc
 have hzcells:z.cells= #[den β zv]:=by
  apply Array.ext'
  rw[hzc β,hjz];rfl
 have hrun:=run_make (P:=P) W t e info z hu hi hz kl kc (Int.ofNat m) (Int.ofNat m) (Int.natCast_nonneg m) (Int.le_refl _) (by
  have h:((info.bytes*m:Nat):Int)<=281474976710656:=by rw[hby];omega
  rwa [Int.natCast_mul]at h) (by show(m:Int)<=_;omega)
 refine⟨.slice n 0 m m,W.alloc (.cells (madeCells z.cells ((Int.ofNat m).toNat*info.size)) e),W.heap.size,List.replicate m zv,e,(0,0),fun γ hγ=> ?_,⟨rfl,rfl,rfl,by simp,fun k hk _=>heap_alloc_old W _ hk⟩,Nat.le_refl _,Or.inl (Nat.le_refl 0),?_,?_,Nat.lt_succ_self n,hK⟩
 ·unfold execOp
  simp only[ho,Sem.run_bind,Sem.run_pure,Result.andThen_ok,e1,e2,den]
  have:=hrun
  simp only[this,Result.andThen_ok,hγ]
  rfl
 ·rw[heap_alloc_new W _]
  congr 2
  apply Array.ext'
  rw[hzcells,hsz,Nat.mul_one]
  show(madeCells #[den β zv] m).toList=_
  rw[toList_madeCells_one,dle,List.toList_toArray,List.map_replicate]
 ·rw[bdi]
  intro v hv
  rw[(List.mem_replicate.1 hv).2];exact hbz _
theorem run_copy_str_ok{W:World}{dT sT ty elem:TypeId}{gb dLen dCap:Nat}{cur:Array Value}{t:TypeId}{mk:Nat×Nat}(hu:P.underlying dT=some (.slice elem)){i:TypeInfo}(hi:P.info? elem=some i)(hs:i.size=1)(hg:W.heap[gb]? =some (.cells cur t mk))(hmk:okM mk cur.size)(s:ByteArray)(hle:s.size<=dLen)(hfit:s.size<=cur.size):
 (Builtin.copy_ #[dT,sT] ty #[.slice (some ⟨gb,0,none⟩) dLen dCap,.string s]).run P W= .ok (goInt s.size) (W.setRow gb (strCells s++cur.toList.drop s.size).toArray):=by
 have hst:=rsk (P:=P) gb 0 t mk (strCells s) 0 cur W hg hmk (by simpa [strCells_length]using hfit) (strCells_oneCell s)
 have hmin:Nat.min s.size dLen=s.size:=Nat.min_eq_left hle
 have htk:List.take s.size (List.map (fun b:UInt8=>Value.int IntKind.u8 (b.toNat:Int)) s.data.toList)=strCells s:=by
  rw[List.take_of_length_le (by rw[List.length_map];exact Nat.le_refl _)]
  rfl
 simp only[Nat.add_zero,strCells_length,Nat.zero_add,List.take_zero,List.nil_append]at hst
 simp[Builtin.copy_,run_underlying hu,Builtin.lenOf,Builtin.firstCells,sizeOf,typeInfo,hi,hs,hmin]
 rw[htk,hst]
 simp[Result.andThen]
theorem run_copy_op{a:Act}{W:World}{o:Oper}{s x:Operand}{t u:TypeId}(ho:o.op= .call {callee:= .builtin .copy,args:= #[s,x],argTypes:= #[t,u]}){v:Value}{W':World}(h:(Builtin.copy_ #[t,u] o.type #[a.eval s,a.eval x]).run P W= .ok v W'):(execOp a.eval o).run P W= .ok (.value v) W':=by
 unfold execOp
 simp only[ho,resolve,invoke,builtin,Sem.run_bind,Sem.run_pure,Result.andThen_ok,List.map_toArray,List.map_cons,List.map_nil,h]
theorem step_copy_str(hT:TOk P T){o:Oper}{m0 N:Nat}{ms:List Nat}(hg:GI g m0 ms N)(hd':dstLt N o.dst=true){s x:Operand}{t u:Nat}(ho:o.op= .call {callee:= .builtin .copy,args:= #[s,x],argTypes:= #[t,u]})
 {i:Ty} (ht:T t=some i) {e:Nat} (hd:i.d= .sl e 1) {l n1 c:Nat} (hs:ev (look F) s=some (.slice l 0 n1 c)) {cs:List SV} {tb:TypeId} (hl:find L l=some ⟨l,cs,tb⟩) (hown:own m0 ms l=true)
 {d:ByteArray} (hx:ev (look F) x=some (.str d)) (h1:d.size<=n1) (h2:d.size<=cs.length) {K:FF->LL->Nat->Prop}
 (hK:K (putO F o.dst (.int .i64 (.ofNat d.size))) (updL L l (bts d++cs.drop d.size)) n):Step g P o K F L n:=by
 obtain⟨hu,hsz⟩:=sl_of hT ht hd
 have hinfo:∃info,P.info? e=some info/\info.size=1:=by
  unfold sizeB at hsz
  cases hq:P.info? e with
  |none=>simp[hq]at hsz
  |some info=>exact⟨info,rfl,by simpa [hq]using hsz⟩
 obtain⟨info,hi,hi1⟩:=hinfo
 have hnl:=bts_len d
 have hsp:splice cs 0 (bts d)=bts d++cs.drop d.size:=by rw[splice,hnl,List.take_zero,List.nil_append,Nat.zero_add]
 rw[<-hg.n0,<-hg.ms]at hown
 refine step_gen hg hd' fun β a W hm hf=> ?_
 obtain⟨e1,b1⟩:=evd hf hs
 obtain⟨e2,b2⟩:=evd hf hx
 obtain⟨mk,hmk,hcell⟩:=hm.cell l _ hl
 have hst:=hm.store (o:=0) hl (vs:=bts d) (by show 0+_<=cs.length;omega) hown (bts_bd _ d)
 rw[show upL (find L) l ⟨l,splice cs 0 (bts d),tb⟩=find (updL L l (splice cs 0 (bts d)))from by
  funext q
  rw[find_updL]
  simp only[upL,hl]
  rfl]at hst
 have hrun:(execOp a.eval o).run P W= .ok (.value (den β (.int .i64 (.ofNat d.size)))) (W.setRow (β l) (denL β (splice cs 0 (bts d))).toArray):=by
  refine run_copy_op ho ?_
  rw[e1,e2]
  have:=run_copy_str_ok (P:=P) (ty:=o.type) (sT:=u) (dLen:=n1) (dCap:=c) hu hi hi1 hcell (by simpa [dle]using hmk hown) d h1 (by
   simp only[List.size_toArray,dle,List.length_map]
   omega)
  simp only[den]
  rw[this,splice_den]
  have hb:=bts_str β d
  simp only[dle]at hb⊢
  simp[hb,hnl,goInt]
 refine⟨_,_,updL L l (splice cs 0 (bts d)),n,β,hrun,hst,fun _ _=>rfl,Nat.le_refl n,trivial,by rw[hsp];exact hK⟩
end
end Go.Vg
namespace Go.Proofs.YtdhmihfefgcbeaaGreat
open Go.Vg
def tbl : List (Nat × Ty) := [
 (1, ⟨.f,1,[.nilfn]⟩),
 (2, ⟨.i .i64,1,[.int .i64 0]⟩),
 (3, ⟨.i .i64,1,[.int .i64 0]⟩),
 (4, ⟨.b,1,[.bool false]⟩),
 (5, ⟨.i .u8,1,[.int .u8 0]⟩),
 (6, ⟨.i .u8,1,[.int .u8 0]⟩),
 (7, ⟨.st [(0,1,false),(1,1,false),(2,1,false),(3,1,false)],4,[.int .i64 0,.int .i64 0,.bool false,.int .u8 0]⟩),
 (8, ⟨.st [(0,1,false),(1,1,false),(2,1,false),(3,1,false)],4,[.int .i64 0,.int .i64 0,.bool false,.int .u8 0]⟩),
 (9, ⟨.s,1,[.str ⟨#[]⟩]⟩),
 (10, ⟨.s,1,[.str ⟨#[]⟩]⟩),
 (11, ⟨.s,1,[.str ⟨#[]⟩]⟩),
 (12, ⟨.i .u64,1,[.int .u64 0]⟩),
 (13, ⟨.st [(0,1,false),(1,1,false)],2,[.str ⟨#[]⟩,.int .u64 0]⟩),
 (14, ⟨.st [(0,1,false),(1,1,false)],2,[.str ⟨#[]⟩,.int .u64 0]⟩),
 (15, ⟨.p,1,[.nilp]⟩),
 (16, ⟨.p,1,[.nilp]⟩),
 (17, ⟨.p,1,[.nilp]⟩),
 (18, ⟨.st [(0,1,false)],1,[.nilp]⟩),
 (19, ⟨.st [(0,1,false)],1,[.nilp]⟩),
 (21, ⟨.i .i32,1,[.int .i32 0]⟩),
 (22, ⟨.i .u64,1,[.int .u64 0]⟩),
 (23, ⟨.ar 9 22 1 false,9,List.replicate 9 (.int .u64 0)⟩),
 (24, ⟨.st [(0,9,true)],9,List.replicate 9 (.int .u64 0)⟩),
 (25, ⟨.st [(0,9,true)],9,List.replicate 9 (.int .u64 0)⟩),
 (26, ⟨.sl 58 1,1,[.nils]⟩),
 (27, ⟨.sl 58 1,1,[.nils]⟩),
 (28, ⟨.st [(0,1,false),(1,1,false),(2,1,false),(3,1,false),(4,1,false),(5,1,false),(6,1,false)],7,[.int .i64 0,.nils,.nils,.nils,.nils,.nils,.nils]⟩),
 (29, ⟨.st [(0,1,false),(1,1,false),(2,1,false),(3,1,false),(4,1,false),(5,1,false),(6,1,false)],7,[.int .i64 0,.nils,.nils,.nils,.nils,.nils,.nils]⟩),
 (31, ⟨.f,1,[.nilfn]⟩),
 (32, ⟨.i .i64,1,[.int .i64 0]⟩),
 (33, ⟨.f,1,[.nilfn]⟩),
 (34, ⟨.st [(0,9,true),(9,9,true),(18,1,false)],19,[.int .u64 0,.int .u64 0,.int .u64 0,.int .u64 0,.int .u64 0,.int .u64 0,.int .u64 0,.int .u64 0,.int .u64 0,.int .u64 0,.int .u64 0,.int .u64 0,.int .u64 0,.int .u64 0,.int .u64 0,.int .u64 0,.int .u64 0,.int .u64 0,.bool false]⟩),
 (35, ⟨.st [(0,9,true),(9,9,true),(18,1,false)],19,[.int .u64 0,.int .u64 0,.int .u64 0,.int .u64 0,.int .u64 0,.int .u64 0,.int .u64 0,.int .u64 0,.int .u64 0,.int .u64 0,.int .u64 0,.int .u64 0,.int .u64 0,.int .u64 0,.int .u64 0,.int .u64 0,.int .u64 0,.int .u64 0,.bool false]⟩),
 (37, ⟨.f,1,[.nilfn]⟩),
 (38, ⟨.f,1,[.nilfn]⟩),
 (39, ⟨.f,1,[.nilfn]⟩),
 (40, ⟨.f,1,[.nilfn]⟩),
 (41, ⟨.f,1,[.nilfn]⟩),
 (42, ⟨.f,1,[.nilfn]⟩),
 (43, ⟨.st [(0,1,false),(1,1,false),(2,1,false)],3,[.nils,.nils,.bool false]⟩),
 (44, ⟨.st [(0,1,false),(1,1,false),(2,1,false)],3,[.nils,.nils,.bool false]⟩),
 (45, ⟨.f,1,[.nilfn]⟩),
 (46, ⟨.f,1,[.nilfn]⟩),
 (47, ⟨.f,1,[.nilfn]⟩),
 (48, ⟨.p,1,[.nilp]⟩),
 (49, ⟨.p,1,[.nilp]⟩),
 (51, ⟨.f,1,[.nilfn]⟩),
 (52, ⟨.i .u64,1,[.int .u64 0]⟩),
 (54, ⟨.f,1,[.nilfn]⟩),
 (55, ⟨.f,1,[.nilfn]⟩),
 (56, ⟨.f,1,[.nilfn]⟩),
 (57, ⟨.f,1,[.nilfn]⟩),
 (58, ⟨.i .u32,1,[.int .u32 0]⟩),
 (59, ⟨.f,1,[.nilfn]⟩),
 (60, ⟨.f,1,[.nilfn]⟩),
 (61, ⟨.f,1,[.nilfn]⟩),
 (62, ⟨.sl 4 1,1,[.nils]⟩),
 (63, ⟨.f,1,[.nilfn]⟩),
 (64, ⟨.sl 3 1,1,[.nils]⟩),
 (66, ⟨.f,1,[.nilfn]⟩),
 (71, ⟨.f,1,[.nilfn]⟩),
 (72, ⟨.st [(0,1,false),(1,1,false),(2,1,false),(3,1,false)],4,[.int .i64 0,.str ⟨#[]⟩,.str ⟨#[]⟩,.int .i64 0]⟩),
 (73, ⟨.st [(0,1,false),(1,1,false),(2,1,false),(3,1,false)],4,[.int .i64 0,.str ⟨#[]⟩,.str ⟨#[]⟩,.int .i64 0]⟩),
 (74, ⟨.f,1,[.nilfn]⟩),
 (75, ⟨.f,1,[.nilfn]⟩),
 (76, ⟨.f,1,[.nilfn]⟩),
 (77, ⟨.f,1,[.nilfn]⟩),
 (78, ⟨.f,1,[.nilfn]⟩),
 (79, ⟨.sl 9 1,1,[.nils]⟩),
 (80, ⟨.f,1,[.nilfn]⟩),
 (81, ⟨.p,1,[.nilp]⟩),
 (82, ⟨.f,1,[.nilfn]⟩),
 (83, ⟨.f,1,[.nilfn]⟩),
 (84, ⟨.p,1,[.nilp]⟩),
 (85, ⟨.f,1,[.nilfn]⟩),
 (86, ⟨.f,1,[.nilfn]⟩),
 (87, ⟨.f,1,[.nilfn]⟩),
 (88, ⟨.f,1,[.nilfn]⟩),
 (89, ⟨.f,1,[.nilfn]⟩),
 (91, ⟨.f,1,[.nilfn]⟩),
 (93, ⟨.f,1,[.nilfn]⟩),
 (95, ⟨.f,1,[.nilfn]⟩),
 (96, ⟨.f,1,[.nilfn]⟩),
 (98, ⟨.f,1,[.nilfn]⟩),
 (99, ⟨.st [(0,1,false),(1,1,false),(2,1,false),(3,1,false)],4,[.int .i64 0,.str ⟨#[]⟩,.str ⟨#[]⟩,.int .i64 0]⟩),
 (100, ⟨.st [(0,1,false),(1,1,false),(2,1,false),(3,1,false)],4,[.int .i64 0,.str ⟨#[]⟩,.str ⟨#[]⟩,.int .i64 0]⟩),
 (101, ⟨.f,1,[.nilfn]⟩),
 (102, ⟨.f,1,[.nilfn]⟩),
 (103, ⟨.f,1,[.nilfn]⟩),
 (105, ⟨.f,1,[.nilfn]⟩),
 (106, ⟨.f,1,[.nilfn]⟩),
 (107, ⟨.p,1,[.nilp]⟩),
 (108, ⟨.f,1,[.nilfn]⟩),
 (109, ⟨.st [(0,1,false),(1,1,false),(2,1,false),(3,1,false),(4,1,false)],5,[.str ⟨#[]⟩,.str ⟨#[]⟩,.str ⟨#[]⟩,.str ⟨#[]⟩,.str ⟨#[]⟩]⟩),
 (110, ⟨.st [(0,1,false),(1,1,false),(2,1,false),(3,1,false),(4,1,false)],5,[.str ⟨#[]⟩,.str ⟨#[]⟩,.str ⟨#[]⟩,.str ⟨#[]⟩,.str ⟨#[]⟩]⟩),
 (111, ⟨.f,1,[.nilfn]⟩),
 (112, ⟨.st [(0,1,false),(1,9,true),(10,9,true),(19,9,true),(28,9,true),(37,19,true),(56,1,false),(57,1,false),(58,1,false)],59,[.int .i64 0,.int .u64 0,.int .u64 0,.int .u64 0,.int .u64 0,.int .u64 0,.int .u64 0,.int .u64 0,.int .u64 0,.int .u64 0,.int .u64 0,.int .u64 0,.int .u64 0,.int .u64 0,.int .u64 0,.int .u64 0,.int .u64 0,.int .u64 0,.int .u64 0,.int .u64 0,.int .u64 0,.int .u64 0,.int .u64 0,.int .u64 0,.int .u64 0,.int .u64 0,.int .u64 0,.int .u64 0,.int .u64 0,.int .u64 0,.int .u64 0,.int .u64 0,.int .u64 0,.int .u64 0,.int .u64 0,.int .u64 0,.int .u64 0,.int .u64 0,.int .u64 0,.int .u64 0,.int .u64 0,.int .u64 0,.int .u64 0,.int .u64 0,.int .u64 0,.int .u64 0,.int .u64 0,.int .u64 0,.int .u64 0,.int .u64 0,.int .u64 0,.int .u64 0,.int .u64 0,.int .u64 0,.int .u64 0,.bool false,.int .i64 0,.int .i64 0,.bool false]⟩),
 (113, ⟨.st [(0,1,false),(1,9,true),(10,9,true),(19,9,true),(28,9,true),(37,19,true),(56,1,false),(57,1,false),(58,1,false)],59,[.int .i64 0,.int .u64 0,.int .u64 0,.int .u64 0,.int .u64 0,.int .u64 0,.int .u64 0,.int .u64 0,.int .u64 0,.int .u64 0,.int .u64 0,.int .u64 0,.int .u64 0,.int .u64 0,.int .u64 0,.int .u64 0,.int .u64 0,.int .u64 0,.int .u64 0,.int .u64 0,.int .u64 0,.int .u64 0,.int .u64 0,.int .u64 0,.int .u64 0,.int .u64 0,.int .u64 0,.int .u64 0,.int .u64 0,.int .u64 0,.int .u64 0,.int .u64 0,.int .u64 0,.int .u64 0,.int .u64 0,.int .u64 0,.int .u64 0,.int .u64 0,.int .u64 0,.int .u64 0,.int .u64 0,.int .u64 0,.int .u64 0,.int .u64 0,.int .u64 0,.int .u64 0,.int .u64 0,.int .u64 0,.int .u64 0,.int .u64 0,.int .u64 0,.int .u64 0,.int .u64 0,.int .u64 0,.int .u64 0,.bool false,.int .i64 0,.int .i64 0,.bool false]⟩),
 (115, ⟨.st [(0,59,true),(59,1,false),(60,9,true)],69,[.int .i64 0,.int .u64 0,.int .u64 0,.int .u64 0,.int .u64 0,.int .u64 0,.int .u64 0,.int .u64 0,.int .u64 0,.int .u64 0,.int .u64 0,.int .u64 0,.int .u64 0,.int .u64 0,.int .u64 0,.int .u64 0,.int .u64 0,.int .u64 0,.int .u64 0,.int .u64 0,.int .u64 0,.int .u64 0,.int .u64 0,.int .u64 0,.int .u64 0,.int .u64 0,.int .u64 0,.int .u64 0,.int .u64 0,.int .u64 0,.int .u64 0,.int .u64 0,.int .u64 0,.int .u64 0,.int .u64 0,.int .u64 0,.int .u64 0,.int .u64 0,.int .u64 0,.int .u64 0,.int .u64 0,.int .u64 0,.int .u64 0,.int .u64 0,.int .u64 0,.int .u64 0,.int .u64 0,.int .u64 0,.int .u64 0,.int .u64 0,.int .u64 0,.int .u64 0,.int .u64 0,.int .u64 0,.int .u64 0,.bool false,.int .i64 0,.int .i64 0,.bool false,.nilp,.int .u64 0,.int .u64 0,.int .u64 0,.int .u64 0,.int .u64 0,.int .u64 0,.int .u64 0,.int .u64 0,.int .u64 0]⟩),
 (116, ⟨.p,1,[.nilp]⟩),
 (117, ⟨.st [(0,1,false)],1,[.nilp]⟩),
 (118, ⟨.st [(0,1,false)],1,[.nilp]⟩),
 (119, ⟨.st [(0,9,true),(9,1,true)],10,[.int .u64 0,.int .u64 0,.int .u64 0,.int .u64 0,.int .u64 0,.int .u64 0,.int .u64 0,.int .u64 0,.int .u64 0,.nilp]⟩),
 (120, ⟨.st [(0,9,true),(9,1,true)],10,[.int .u64 0,.int .u64 0,.int .u64 0,.int .u64 0,.int .u64 0,.int .u64 0,.int .u64 0,.int .u64 0,.int .u64 0,.nilp]⟩),
 (121, ⟨.f,1,[.nilfn]⟩),
 (123, ⟨.f,1,[.nilfn]⟩),
 (124, ⟨.f,1,[.nilfn]⟩),
 (125, ⟨.f,1,[.nilfn]⟩),
 (126, ⟨.f,1,[.nilfn]⟩),
 (127, ⟨.f,1,[.nilfn]⟩),
 (128, ⟨.f,1,[.nilfn]⟩),
 (129, ⟨.p,1,[.nilp]⟩),
 (130, ⟨.f,1,[.nilfn]⟩),
 (131, ⟨.f,1,[.nilfn]⟩),
 (133, ⟨.f,1,[.nilfn]⟩),
 (134, ⟨.f,1,[.nilfn]⟩),
 (135, ⟨.f,1,[.nilfn]⟩),
 (136, ⟨.f,1,[.nilfn]⟩),
 (137, ⟨.f,1,[.nilfn]⟩),
 (141, ⟨.f,1,[.nilfn]⟩),
 (142, ⟨.f,1,[.nilfn]⟩),
 (143, ⟨.sl 5 1,1,[.nils]⟩),
 (144, ⟨.f,1,[.nilfn]⟩),
 (145, ⟨.f,1,[.nilfn]⟩),
 (146, ⟨.f,1,[.nilfn]⟩),
 (147, ⟨.f,1,[.nilfn]⟩),
 (148, ⟨.f,1,[.nilfn]⟩),
 (150, ⟨.f,1,[.nilfn]⟩),
 (151, ⟨.f,1,[.nilfn]⟩),
 (152, ⟨.p,1,[.nilp]⟩),
 (153, ⟨.f,1,[.nilfn]⟩),
 (157, ⟨.st [(0,9,true),(9,9,true),(18,9,true)],27,List.replicate 27 (.int .u64 0)⟩),
 (158, ⟨.f,1,[.nilfn]⟩),
 (159, ⟨.f,1,[.nilfn]⟩),
 (160, ⟨.f,1,[.nilfn]⟩),
 (161, ⟨.f,1,[.nilfn]⟩),
 (162, ⟨.f,1,[.nilfn]⟩),
 (163, ⟨.sl 35 19,1,[.nils]⟩),
 (164, ⟨.st [(0,1,false)],1,[.nils]⟩),
 (165, ⟨.st [(0,1,false)],1,[.nils]⟩),
 (166, ⟨.st [(0,1,false),(1,1,false),(2,1,false)],3,[.int .i64 0,.int .i64 0,.int .i64 0]⟩),
 (167, ⟨.st [(0,1,false),(1,1,false),(2,1,false)],3,[.int .i64 0,.int .i64 0,.int .i64 0]⟩),
 (173, ⟨.p,1,[.nilp]⟩),
 (175, ⟨.st [(0,1,false),(1,1,false)],2,[.nilp,.nils]⟩),
 (176, ⟨.f,1,[.nilfn]⟩),
 (181, ⟨.f,1,[.nilfn]⟩),
 (182, ⟨.p,1,[.nilp]⟩),
 (185, ⟨.f,1,[.nilfn]⟩),
 (190, ⟨.sl 22 1,1,[.nils]⟩),
 (196, ⟨.f,1,[.nilfn]⟩),
 (202, ⟨.p,1,[.nilp]⟩),
 (203, ⟨.p,1,[.nilp]⟩),
 (208, ⟨.st [(0,1,false),(1,1,false),(2,1,false)],3,[.int .i64 0,.str ⟨#[]⟩,.nilp]⟩),
 (213, ⟨.f,1,[.nilfn]⟩),
 (215, ⟨.st [(0,9,true),(9,1,false),(10,1,false)],11,[.int .u64 0,.int .u64 0,.int .u64 0,.int .u64 0,.int .u64 0,.int .u64 0,.int .u64 0,.int .u64 0,.int .u64 0,.int .i64 0,.int .i64 0]⟩),
 (216, ⟨.sl 220 2,1,[.nils]⟩),
 (218, ⟨.st [(0,1,false)],1,[.nils]⟩),
 (220, ⟨.st [(0,1,false),(1,1,false)],2,[.int .i64 0,.int .i64 0]⟩),
 (224, ⟨.st [(0,1,false)],1,[.int .u64 0]⟩),
 (229, ⟨.f,1,[.nilfn]⟩),
 (230, ⟨.f,1,[.nilfn]⟩),
 (232, ⟨.st [(0,1,false),(1,1,false)],2,[.nilfn,.nilfn]⟩),
 (233, ⟨.p,1,[.nilp]⟩),
 (238, ⟨.f,1,[.nilfn]⟩),
 (239, ⟨.f,1,[.nilfn]⟩),
 (240, ⟨.p,1,[.nilp]⟩),
 (246, ⟨.ar 18 22 1 false,18,List.replicate 18 (.int .u64 0)⟩),
 (248, ⟨.st [(0,18,true)],18,List.replicate 18 (.int .u64 0)⟩),
 (255, ⟨.ar 8 58 1 false,8,[.int .u32 0,.int .u32 0,.int .u32 0,.int .u32 0,.int .u32 0,.int .u32 0,.int .u32 0,.int .u32 0]⟩),
 (258, ⟨.ar 64 58 1 false,64,List.replicate 64 (.int .u32 0)⟩),
 (261, ⟨.st [(0,1,false),(1,8,true),(9,64,true),(73,1,false),(74,1,false)],75,[.int .i64 0,.int .u32 0,.int .u32 0,.int .u32 0,.int .u32 0,.int .u32 0,.int .u32 0,.int .u32 0,.int .u32 0,.int .u32 0,.int .u32 0,.int .u32 0,.int .u32 0,.int .u32 0,.int .u32 0,.int .u32 0,.int .u32 0,.int .u32 0,.int .u32 0,.int .u32 0,.int .u32 0,.int .u32 0,.int .u32 0,.int .u32 0,.int .u32 0,.int .u32 0,.int .u32 0,.int .u32 0,.int .u32 0,.int .u32 0,.int .u32 0,.int .u32 0,.int .u32 0,.int .u32 0,.int .u32 0,.int .u32 0,.int .u32 0,.int .u32 0,.int .u32 0,.int .u32 0,.int .u32 0,.int .u32 0,.int .u32 0,.int .u32 0,.int .u32 0,.int .u32 0,.int .u32 0,.int .u32 0,.int .u32 0,.int .u32 0,.int .u32 0,.int .u32 0,.int .u32 0,.int .u32 0,.int .u32 0,.int .u32 0,.int .u32 0,.int .u32 0,.int .u32 0,.int .u32 0,.int .u32 0,.int .u32 0,.int .u32 0,.int .u32 0,.int .u32 0,.int .u32 0,.int .u32 0,.int .u32 0,.int .u32 0,.int .u32 0,.int .u32 0,.int .u32 0,.int .u32 0,.nils,.int .u64 0]⟩),
 (263, ⟨.f,1,[.nilfn]⟩),
 (271, ⟨.ar 19 22 1 false,19,List.replicate 19 (.int .u64 0)⟩)]
set_option maxRecDepth 100000 in
theorem tblOk0:TOk Tryz.prog (fun k=>ty tbl k):=TOk.of (by kernel_rfl)
def tyT(k:Nat):Option Ty:=ty tbl k
theorem tblOk:TOk Tryz.prog tyT:=tblOk0
theorem mixed:Tryz.prog.follows .mixedOrders=true:=by kernel_rfl
end Go.Proofs.YtdhmihfefgcbeaaGreat
namespace Go.Proofs.YtdhmihfefgcbeaaGreat
open Go.Vg
theorem cof {P : Program} (hP : P = Tryz.prog) {f : FuncId} {fn : Func} {c : Code} {rs : List ResultVar} {N n0 : Nat} {ms : List Nat} {args : List SV} {Lp : LL} {R : SV → LL → Nat → Prop} (hf : Tryz.prog.funcs[f]? = some fn) (hba : bdL (fun l => l < n0) args) (hbl : ∀ b ∈ Lp, bdL (fun l => l < n0) b.cs)
  (h : ∀ (A : Ar) (g : G) (K : SV → LL → Nat → Prop), A = Ar.real → GI g n0 ms N → (∀ v L n, R v L n → K v L n) → vcC tyT A P g n0 ms c (retQ tyT A rs K) (argF 0 args) Lp n0) (hb : fn.body = some c := by rfl) (hrs : fn.results.toList = rs := by rfl) (hcall : (fn.body.isNone || fn.name == "runtime.NumGoroutine") = false := by rfl) (hN : fn.ntmps = N := by rfl) (hd : dstsB N c = true := by decide) (hargs : Nat.ble args.length N = true := by rfl) (hlb : lblsB n0 Lp = true := by rfl) : Con P f args Lp n0 ms R :=
  Con.of (hP ▸ tblOk) (hP ▸ hf) hb hrs hcall hN hd hargs hlb hba hbl h
theorem rgM {P : Program} (hP : P = Tryz.prog) {A : Ar} {g : G} (hA : A = Ar.real) {n0 N : Nat} {ms : List Nat} (hg : GI g n0 ms N) {id : Nat} {ops : Array Oper} {K : FF → LL → Nat → Prop} {F : FF} {L : LL} {n : Nat}
  (h : ∀ m, maskL [] ops.toList = m → vcD tyT A P g n0 ms (fun _ _ => true) ops.toList m K ops.toList 0 F L [] n) (hB : drawB ops.toList = true := by rfl) (hd : (ops.toList.all fun o => dstLt N o.dst) = true := by rfl) : Reg g P id ops K F L n :=
  reg_M (hP ▸ tblOk) hA hg (hP ▸ mixed) hB hd h
end Go.Proofs.YtdhmihfefgcbeaaGreat

namespace Go.Proofs.YtdhmihfefgcbeaaGreat
open Go.Vg
set_option maxRecDepth 200000
set_option cbv.maxSteps 100000000
theorem xAdd64{P:Program}(hP:P=Tryz.prog)(x y c r s:Nat)(hc:c<=1)(hr:r=(x+y+c)%0x10000000000000000)(hs:s=(x+y+c)/0x10000000000000000):
 ExtF P 118 [.int .u64 (.ofNat x),.int .u64 (.ofNat y),.int .u64 (.ofNat c)] (.tup [.int .u64 (.ofNat r),.int .u64 (.ofNat s)]):=by
 subst hP
 refine⟨fun w=> ?_,⟨trivial,trivial,trivial,trivial⟩,⟨trivial,trivial,trivial⟩⟩
 show(callFunc 118 #[.int .u64 (x:Int),.int .u64 (y:Int),.int .u64 (c:Int)]).run Tryz.prog w=_
 rw[run_callFunc_extern Tryz.func118 (by kernel_rfl) (by kernel_rfl) (by kernel_rfl) (e:=add64Entry) (by kernel_rfl),run_add64 x y c (by omega) (by omega) (by omega) (by omega)]
 subst hr hs
 simp only[Result.andThen,den,denL]
 congr 5
theorem xSub64{P:Program}(hP:P=Tryz.prog)(x y c r s:Nat)(hc:c<=1)(hr:r=(x+0x10000000000000000-y-c)%0x10000000000000000)(hs:s=if x<y+c then 1 else 0):
 ExtF P 87 [.int .u64 (.ofNat x),.int .u64 (.ofNat y),.int .u64 (.ofNat c)] (.tup [.int .u64 (.ofNat r),.int .u64 (.ofNat s)]):=by
 subst hP
 refine⟨fun w=> ?_,⟨trivial,trivial,trivial,trivial⟩,⟨trivial,trivial,trivial⟩⟩
 show(callFunc 87 #[.int .u64 (x:Int),.int .u64 (y:Int),.int .u64 (c:Int)]).run Tryz.prog w=_
 rw[run_callFunc_extern Tryz.func87 (by kernel_rfl) (by kernel_rfl) (by kernel_rfl) (e:=sub64Entry) (by kernel_rfl),run_sub64 x y c hc]
 subst hr hs
 rfl
theorem lst_bdL{p:Nat->Prop}{K:IntKind}{f:Nat->Int}:∀ {s:Nat} (n:Nat),bdL p (lst K f s n)
 |_,0=>trivial
 |_,n+1=>⟨trivial,lst_bdL n⟩
theorem nsn(f:Nat->Nat)(n:Nat):V (n+1) f=V n f+f n*0x10000000000000000^n:=rfl
theorem V_upd{r:Nat->Nat}{i v:Nat}:V (i+1) (fun j=>if j=i then v else r j)=V i r+v*0x10000000000000000^i:=by
 rw[nsn]
 simp only[V]
 rw[Dg.num_set _ (Nat.le_refl i)]
 simp
theorem add_word{R C A B P x y c r s:Nat}(h:R+c*P=A+B)(hr:r=(x+y+c)%0x10000000000000000)(hs:s=(x+y+c)/0x10000000000000000)(hP:C=P*0x10000000000000000):R+r*P+s*C=(A+x*P)+(B+y*P):=by
 have e:=Nat.div_add_mod (x+y+c) 0x10000000000000000
 rw[<-hs,<-hr]at e
 subst hP
 have h2:R+r*P+s*(P*0x10000000000000000)=R+(0x10000000000000000*s+r)*P:=by grind
 rw[h2,e]
 grind
theorem sub_word{R C A B P x y c r s:Nat}(h:R+B=A+c*P)(hx:x<0x10000000000000000)(hy:y<0x10000000000000000)(hc:c<=1)(hr:r=(x+0x10000000000000000-y-c)%0x10000000000000000)(hs:s=if x<y+c then 1 else 0)(hP:C=P*0x10000000000000000):
 R+r*P+(B+y*P)=(A+x*P)+s*C:=by
 have e:r+y+c=x+s*0x10000000000000000:=by
  subst hs
  split<;>omega
 subst hP
 have h2:R+r*P+(B+y*P)+c*P=R+B+(r+y+c)*P:=by grind
 have h3:R+r*P+(B+y*P)+c*P=A+x*P+s*(P*0x10000000000000000)+c*P:=by
  rw[h2,e,h];grind
 omega
theorem cAdd{P:Program}(hP:P=Tryz.prog)(a b r:Nat->Nat)(ha:Wn 9 a)(hb:Wn 9 b)(hr:Wn 9 r)(o:Bool)(hVr:V 9 r=(V 9 a+V 9 b)%0x10000000000000000^9)(ho:o=decide (0x10000000000000000^9<=V 9 a+V 9 b)):
 Con P 90 [.agg (ws a 9),.agg (ws b 9)] [] 0 [] (fun v _ _=>v= .tup [.agg (ws r 9),.bool o]):=by
 refine cof hP Tryz.func90 ⟨lst_bdL _,lst_bdL _,trivial⟩ (by simp) ?_
 intro A g K hA hg hK
 obtain⟨bin,_,cmp,_,_,ix,_,_,_,_,_,_,_,_,_,off⟩:=A
 have f1:∀i,i<9->cmp .lss (.ofNat i) 9=true:=fun i h=>(lssI hA i 9).trans (decide_eq_true h)
 have f2:∀i,i<9->ix (.ofNat i) 9=some i:=fun i h=>ix_of hA h
 have f3:∀i,off 0 i 1=i:=fun i=>(off_of hA 0 i 1).trans (by omega)
 have f4:=fun(f:Nat->Nat) (k:Nat) (h:k<9)=>getW hA .u64 (n:=9) f h
 have f5:=fun(f g:Nat->Nat) (k v:Nat) (h:k<9) (e:g=fun j=>if j=k then v else f j)=>splW hA .u64 (n:=9) f g h e
 have f6:∀i,i<9->bin .add .i64 (.ofNat i) 1=Int.ofNat (i+1):=fun i h=>add_of hA (by omega)
 simp only[lst,Nat.reduceAdd]at f4 f5
 cbv
 refine lpb (Nat×(Nat->Nat)×Nat) (fun s=>s.1<=9/\s.2.2<=1/\Wn s.1 s.2.1/\(∀j,s.1<=j->s.2.1 j=a j)/\V s.1 s.2.1+s.2.2*0x10000000000000000^s.1=V s.1 a+V s.1 b) (fun s=>9-s.1)
  (fun s=> [(8,.int .i64 (.ofNat s.1)),(6,.int .u64 (.ofNat s.2.2))]) [2,3,4,5] (fun s=> [(0,ws s.2.1 9)]) (0,a,0) ⟨Nat.zero_le _,Nat.zero_le _,fun j h=>absurd h (Nat.not_lt_zero j),fun _ _=>rfl,rfl⟩ ?_ ?_
 ·exact wkid
 rintro⟨i,q,c⟩ ⟨hi,hc,hw,hq,hv⟩
 have hi:i<=9:=hi
 have hc:c<=1:=hc
 have hw:Wn i q:=hw
 have hq:∀j,i<=j->q j=a j:=hq
 cbv
 by_cases hlt:i<9
 ·obtain⟨w,hwd⟩:=exq ((q i+b i+c)%0x10000000000000000)
  obtain⟨s,hsd⟩:=exq ((q i+b i+c)/0x10000000000000000)
  obtain⟨q',hq'⟩:=exq (fun j=>if j=i then w else q j:Nat->Nat)
  rw[f1 i hlt]
  cbv
  refine rgM hP hA hg fun mk _=> ?_
  cbv
  rw[f2 i hlt]
  cbv
  rw[f3 i,f4 q i hlt]
  cbv
  rw[f2 i hlt]
  cbv
  rw[f3 i,f4 b i hlt]
  cbv
  refine stepD (en_ext rfl hg rfl rfl (xAdd64 hP (q i) (b i) c w s hc hwd hsd)) ?_
  cbv
  rw[f2 i hlt]
  cbv
  rw[f3 i,f5 q q' i w hlt hq']
  cbv
  rw[f6 i hlt]
  refine⟨(i+1,q',s),id,⟨hlt,?_,?_,?_,?_⟩,(by show 9-(i+1)<9-i;omega),?_⟩
  ·have h1:=ha i hlt
   have h2:=hb i hlt
   rw[hq i (Nat.le_refl i)]at hsd
   show s<=1
   rw[hsd];omega
  ·intro j hj
   show q' j<_
   rw[hq']
   by_cases hji:j=i
   ·simp only[hji,if_pos];rw[hwd];exact Nat.mod_lt _ (by decide)
   ·simp only[if_neg hji];exact hw j (by have:j<i+1:=hj;omega)
  ·intro j hj
   have hj:i+1<=j:=hj
   show q' j=a j
   rw[hq']
   simp only[if_neg (show j≠i by omega)]
   exact hq j (by omega)
  ·show V (i+1) q'+s*0x10000000000000000^(i+1)=V (i+1) a+V (i+1) b
   rw[hq',V_upd,nsn a,nsn b]
   rw[hq i (Nat.le_refl i)]at hwd hsd
   exact add_word hv hwd hsd (Nat.pow_succ ..)
  ·exact wkid
 ·obtain rfl:i=9:=by omega
  have f7:cmp .lss (.ofNat 9) 9=false:=(lssI hA 9 9).trans (by decide)
  have f8:cmp .eql (.ofNat c) 1=decide (c=1):=eqlI hA c 1
  obtain⟨o',ho'⟩:=exq (decide (c=1))
  rw[<-ho']at f8
  rw[f7]
  cbv
  rw[f8]
  have hv:V 9 q+c*0x10000000000000000^9=V 9 a+V 9 b:=hv
  have e1:V 9 q=V 9 r:=by
   have h1:=V_lt hw
   have h2:=V_lt ha
   have h3:=V_lt hb
   rw[hVr]
   generalize 0x10000000000000000^9=M at *
   rcases(show c=0\/c=1 by omega)with rfl|rfl
   ·rw[Nat.mod_eq_of_lt (by omega)];omega
   ·rw[show V 9 a+V 9 b=V 9 q+M by omega,Nat.add_mod_right,Nat.mod_eq_of_lt h1]
  have e2:o'=o:=by
   have h1:=V_lt hw
   have h2:=V_lt ha
   have h3:=V_lt hb
   rw[ho,ho']
   generalize 0x10000000000000000^9=M at *
   refine decide_eq_decide.2 ?_
   rcases(show c=0\/c=1 by omega)with rfl|rfl
   ·constructor<;>intro h<;>omega
   ·constructor<;>intro h<;>omega
  have e3:=V_inj hw hr e1 (k:= .u64)
  simp only[lst,Nat.reduceAdd]at e3
  refine hK _ _ _ ?_
  rw[e3,e2]
  rfl
theorem cSub{P:Program}(hP:P=Tryz.prog)(a b r:Nat->Nat)(ha:Wn 9 a)(hb:Wn 9 b)(hr:Wn 9 r)(o:Bool)(hVr:V 9 r=(V 9 a+0x10000000000000000^9-V 9 b)%0x10000000000000000^9)(ho:o=decide (V 9 a<V 9 b)):
 Con P 60 [.agg (ws a 9),.agg (ws b 9)] [] 0 [] (fun v _ _=>v= .tup [.agg (ws r 9),.bool o]):=by
 refine cof hP Tryz.func60 ⟨lst_bdL _,lst_bdL _,trivial⟩ (by simp) ?_
 intro A g K hA hg hK
 obtain⟨bin,_,cmp,_,_,ix,_,_,_,_,_,_,_,_,_,off⟩:=A
 have f1:∀i,i<9->cmp .lss (.ofNat i) 9=true:=fun i h=>(lssI hA i 9).trans (decide_eq_true h)
 have f2:∀i,i<9->ix (.ofNat i) 9=some i:=fun i h=>ix_of hA h
 have f3:∀i,off 0 i 1=i:=fun i=>(off_of hA 0 i 1).trans (by omega)
 have f4:=fun(f:Nat->Nat) (k:Nat) (h:k<9)=>getW hA .u64 (n:=9) f h
 have f5:=fun(f g:Nat->Nat) (k v:Nat) (h:k<9) (e:g=fun j=>if j=k then v else f j)=>splW hA .u64 (n:=9) f g h e
 have f6:∀i,i<9->bin .add .i64 (.ofNat i) 1=Int.ofNat (i+1):=fun i h=>add_of hA (by omega)
 simp only[lst,Nat.reduceAdd]at f4 f5
 cbv
 refine lpb (Nat×(Nat->Nat)×Nat) (fun s=>s.1<=9/\s.2.2<=1/\Wn s.1 s.2.1/\(∀j,s.1<=j->s.2.1 j=a j)/\V s.1 s.2.1+V s.1 b=V s.1 a+s.2.2*0x10000000000000000^s.1) (fun s=>9-s.1)
  (fun s=> [(8,.int .i64 (.ofNat s.1)),(6,.int .u64 (.ofNat s.2.2))]) [2,3,4,5] (fun s=> [(0,ws s.2.1 9)]) (0,a,0) ⟨Nat.zero_le _,Nat.zero_le _,fun j h=>absurd h (Nat.not_lt_zero j),fun _ _=>rfl,rfl⟩ ?_ ?_
 ·exact wkid
 rintro⟨i,q,c⟩ ⟨hi,hc,hw,hq,hv⟩
 have hi:i<=9:=hi
 have hc:c<=1:=hc
 have hw:Wn i q:=hw
 have hq:∀j,i<=j->q j=a j:=hq
 cbv
 by_cases hlt:i<9
 ·obtain⟨w,hwd⟩:=exq ((q i+0x10000000000000000-b i-c)%0x10000000000000000)
  obtain⟨s,hsd⟩:=exq (if q i<b i+c then 1 else 0)
  obtain⟨q',hq'⟩:=exq (fun j=>if j=i then w else q j:Nat->Nat)
  rw[f1 i hlt]
  cbv
  refine rgM hP hA hg fun mk _=> ?_
  cbv
  rw[f2 i hlt]
  cbv
  rw[f3 i,f4 q i hlt]
  cbv
  rw[f2 i hlt]
  cbv
  rw[f3 i,f4 b i hlt]
  cbv
  refine stepD (en_ext rfl hg rfl rfl (xSub64 hP (q i) (b i) c w s hc hwd hsd)) ?_
  cbv
  rw[f2 i hlt]
  cbv
  rw[f3 i,f5 q q' i w hlt hq']
  cbv
  rw[f6 i hlt]
  refine⟨(i+1,q',s),id,⟨hlt,?_,?_,?_,?_⟩,(by show 9-(i+1)<9-i;omega),?_⟩
  ·have h1:=ha i hlt
   have h2:=hb i hlt
   rw[hq i (Nat.le_refl i)]at hsd
   show s<=1
   rw[hsd];split<;>omega
  ·intro j hj
   show q' j<_
   rw[hq']
   by_cases hji:j=i
   ·simp only[hji,if_pos];rw[hwd];exact Nat.mod_lt _ (by decide)
   ·simp only[if_neg hji];exact hw j (by have:j<i+1:=hj;omega)
  ·intro j hj
   have hj:i+1<=j:=hj
   show q' j=a j
   rw[hq']
   simp only[if_neg (show j≠i by omega)]
   exact hq j (by omega)
  ·show V (i+1) q'+V (i+1) b=V (i+1) a+s*0x10000000000000000^(i+1)
   rw[hq',V_upd,nsn a,nsn b]
   rw[hq i (Nat.le_refl i)]at hwd hsd
   exact sub_word hv (ha i hlt) (hb i hlt) hc hwd hsd (Nat.pow_succ ..)
  ·exact wkid
 ·obtain rfl:i=9:=by omega
  have f7:cmp .lss (.ofNat 9) 9=false:=(lssI hA 9 9).trans (by decide)
  have f8:cmp .eql (.ofNat c) 1=decide (c=1):=eqlI hA c 1
  obtain⟨o',ho'⟩:=exq (decide (c=1))
  rw[<-ho']at f8
  rw[f7]
  cbv
  rw[f8]
  have hv:V 9 q+V 9 b=V 9 a+c*0x10000000000000000^9:=hv
  have e1:V 9 q=V 9 r:=by
   have h1:=V_lt hw
   have h2:=V_lt ha
   have h3:=V_lt hb
   rw[hVr]
   generalize 0x10000000000000000^9=M at *
   rcases(show c=0\/c=1 by omega)with rfl|rfl
   ·rw[show V 9 a+M-V 9 b=V 9 q+M by omega,Nat.add_mod_right,Nat.mod_eq_of_lt h1]
   ·rw[Nat.mod_eq_of_lt (by omega)];omega
  have e2:o'=o:=by
   have h1:=V_lt hw
   have h2:=V_lt ha
   have h3:=V_lt hb
   rw[ho,ho']
   generalize 0x10000000000000000^9=M at *
   refine decide_eq_decide.2 ?_
   rcases(show c=0\/c=1 by omega)with rfl|rfl
   ·constructor<;>intro h<;>omega
   ·constructor<;>intro h<;>omega
  have e3:=V_inj hw hr e1 (k:= .u64)
  simp only[lst,Nat.reduceAdd]at e3
  refine hK _ _ _ ?_
  rw[e3,e2]
  rfl
end Go.Proofs.YtdhmihfefgcbeaaGreat
