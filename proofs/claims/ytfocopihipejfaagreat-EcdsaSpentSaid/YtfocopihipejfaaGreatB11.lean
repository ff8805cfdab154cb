/-
  This text proves what these texts prove: Vgc, Vgd, Od, Oe. Conditions: those of each theorem.
-/
import Derived.Lib.AppendStr
import Derived.Laws.OwnMore
import Derived.Test.YtfocopihipejfaaGreatB10
import Derived.Test.YtfocopihipejfaaGreatB08
set_option maxHeartbeats 8000000
set_option linter.all false
namespace Go.Vg
open Go.RowKit Go.Lib
section
variable {P:Program}{g:G}{T:Nat->Option Ty}{F:FF}{L:LL}{n:Nat}
theorem K9{a:Act}{W:World}{o:Oper}{s x:Operand}{t u:TypeId}(ho:o.op= .call {callee:= .builtin .append,args:= #[s,x],argTypes:= #[t,u]}){v:Value}{W':World}(h:(Builtin.append_ #[t,u] o.type #[a.eval s,a.eval x]).run P W= .ok v W'):(execOp a.eval o).run P W= .ok (.value v) W':=by
 unfold execOp
 simp only[ho,resolve,invoke,builtin,Sem.run_bind,Sem.run_pure,Result.andThen_ok,Hv,ve,Hu,h]
theorem apH{W:World}{t u ty e:TypeId}{i:TypeInfo}(ht:P.underlying t=some (.slice e))(hu:P.underlying u=some .string)(hi:P.info? e=some i)(jg:i.size=1){gb sLen sCap:Nat}{cur:Array Value}{t':TypeId}{mk:Nat×Nat}(hg:W.heap[gb]? =some (.cells cur t' mk))(fJ:rO mk cur.size)
 (s:ByteArray) (J7:sLen+s.size<=sCap) (rf:sLen+s.size<=cur.size):
 (Builtin.append_ #[t,u] ty #[.slice (some ⟨gb,0,none⟩) sLen sCap,.string s]).run P W=
  .ok (.slice (some ⟨gb,0,none⟩) (sLen+s.size) sCap) (W.setRow gb (cur.toList.take sLen++strCells s++cur.toList.drop (sLen+s.size)).toArray):=by
 have hf:=run_firstCells_string (P:=P) W 1 s
 have aW:=EI (P:=P) gb sLen t' mk (strCells s) 0 cur W hg fJ (by simpa [strCells_length]using rf) (strCells_oneCell s)
 simp only[gY,strCells_length]at aW
 simp[Builtin.append_,run_underlying ht,run_underlying hu,sizeOf,typeInfo,hi,jg,Builtin.lenOf,J7,hf,Addr.add_lit,aW]
theorem H3(s:ByteArray):(dZ s).length=s.size:=by rw[dZ,fL,tO];rfl
theorem Qx(m:Nat)(s:ByteArray):an m (dZ s)=true:=by
 unfold dZ
 induction s.data.toList with
 |nil=>rfl
 |cons b l ih=>rw[ve,an,ih];rfl
theorem Qy(β:Nat->Nat)(s:ByteArray):aM β (dZ s)=strCells s:=Mq β s
theorem aqD(hT:cI P T){o:Oper}{m0 N:Nat}{ms:List Nat}(hg:GI g m0 ms N)(aA:dD N o.dst=true){s x:Operand}{t u:Nat}(ho:o.op= .call {callee:= .builtin .append,args:= #[s,x],argTypes:= #[t,u]})
 {i:Ty} (ht:T t=some i) {e:Nat} (hd:i.d= .sl e 1) {j:Ty} (hj:T e=some j) (hB:(P.info? e).map (·.bytes)=some 1) {iu:Ty} (gK:T u=some iu) (xb:iu.d= .s)
 (hs:ev (look F) s=some .au) {d:ByteArray} (hx:ev (look F) x=some (.str d)) (iH:0<d.size) (qd:d.size<=140737488355328) {K:FF->LL->Nat->Prop}
 (DM:∀c',d.size<=c'->c'<=maxLen->K (cH F o.dst (.slice n 0 d.size c')) (L++[⟨n,dZ d++rep (c'-d.size) j.z,e⟩]) (n+1)):Step g P o K F L n:=by
 obtain⟨info,z,hu,hi,hz,aJ,uw,mB,nC,jl,iL⟩:=EO hT ht hd hj hB
 have jh:=A7 hT gK xb
 refine ER hg aA fun β a W hm hf=> ?_
 obtain⟨e1,b1⟩:=cq hf hs
 obtain⟨e2,b2⟩:=cq hf hx
 obtain⟨X,hX,gA⟩:=Ih (run_append_nil_string (P:=P) W t u o.type e info z hu jh hi hz d iH (by omega) (by rw[uw];omega))
 have ju:=grownCap_ge W d.size 0 e
 refine⟨.slice n 0 d.size (grownCap W d.size 0 e),W.drew.alloc (.cells X e),W.heap.size,_,e,(0,0),fun γ gE=>K9 ho ?_,EW W _,aE _,Or.inl (aE 0),?_,?_,jR n,DM _ ju (grownCap_le_maxLen W d.size 0 e (by simp only[maxLen];omega))⟩
 ·rw[e1,e2]
  simp only[den,gE]
  exact gA
 ·rw[show(W.drew.alloc (.cells X e)).heap[W.heap.size]? =some (.cells X e)from heap_alloc_new W.drew _,hX]
  congr 2
  apply rZ
  have lH:=LH β (nC β) (by intro h;rw[h]at iL;simp at iL) (grownCap W d.size 0 e-d.size)
  have hb:=Mq β d
  simp only[cO]at hb lH⊢
  simp[lH,hb]
 ·rw[gI]
  intro v hv
  rcases List.mem_append.1 hv with hv|hv
  ·exact(gI _ _).1 (Fu _ d) v hv
  ·exact(gI _ _).1 (G4 (jl _) _) v hv
theorem aqE(hT:cI P T){o:Oper}{m0 N:Nat}{ms:List Nat}(hg:GI g m0 ms N)(aA:dD N o.dst=true){s x:Operand}{t u:Nat}(ho:o.op= .call {callee:= .builtin .append,args:= #[s,x],argTypes:= #[t,u]})
 {i:Ty} (ht:T t=some i) {e:Nat} (hd:i.d= .sl e 1) {j:Ty} (hj:T e=some j) (hB:(P.info? e).map (·.bytes)=some 1) {iu:Ty} (gK:T u=some iu) (xb:iu.d= .s)
 {l n1 c:Nat} (hs:ev (look F) s=some (.slice l 0 n1 c)) {cs:List SV} (hl:find L l=some ⟨l,cs,e⟩) (c_:own m0 ms l=true) (iy:n1<=c) (qj:cs.length=c) (hc:c<=maxLen)
 {d:ByteArray} (hx:ev (look F) x=some (.str d)) (ux:n1+d.size<=140737488355328) {K:FF->LL->Nat->Prop}
 (hK:∀c' tail,n1+d.size<=c'->c'<=maxLen->tail.length=c'-(n1+d.size)->(∀q,an q cs=true->an q j.z=true->an q tail=true)->K (cH F o.dst (.slice n 0 (n1+d.size) c')) (nJ [l] L++[⟨n,cs.take n1++dZ d++tail,e⟩]) (n+1)):Step g P o K F L n:=by
 obtain⟨info,z,hu,hi,hz,aJ,uw,mB,nC,jl,iL⟩:=EO hT ht hd hj hB
 have jh:=A7 hT gK xb
 have oh:=H3 d
 by_cases hr:n1+d.size<=c
 ·have ot:splice cs n1 (dZ d)=cs.take n1++dZ d++cs.drop (n1+d.size):=by rw[splice,oh]
  rw[<-hg.n0,<-hg.ms]at c_
  have IP:=hK c (cs.drop (n1+d.size)) hr hc (by rw[iY,qj]) (fun q h _=>Fq h)
  rw[<-ot]at IP
  refine xE hg aA fun β a W hm hf=> ?_
  obtain⟨e1,b1⟩:=cq hf hs
  obtain⟨e2,b2⟩:=cq hf hx
  obtain⟨mk,fJ,js⟩:=hm.cell l _ hl
  have aW:=hm.store (o:=n1) hl (vs:=dZ d) (by show n1+_<=cs.length;omega) c_ (Fu _ d)
  rw[show ic (find L) l ⟨l,splice cs n1 (dZ d),e⟩=find (me L l (splice cs n1 (dZ d)))from by
   funext q
   rw[wu]
   simp only[ic,hl]
   rfl]at aW
  obtain⟨γ,eG,gE,cU⟩:=aW.relabel (l:=l) (b:=⟨l,splice cs n1 (dZ d),e⟩) (by rw[wu,aj rfl,hl];rfl) c_
  have gA:(execOp a.eval o).run P W= .ok (.value (.slice (some ⟨β l,0,none⟩) (n1+d.size) c)) (W.setRow (β l) (aM β (splice cs n1 (dZ d))).toArray):=by
   refine K9 ho ?_
   rw[e1,e2]
   have:=apH (P:=P) (ty:=o.type) (sLen:=n1) (sCap:=c) hu jh hi aJ js (by simpa [cO]using fJ c_) d hr (by
    simp only[CM,cO,fL]
    omega)
   simp only[den]
   rw[this,Cx]
   have hb:=Qy β d
   simp only[cO]at hb⊢
   simp[hb,oh]
  refine⟨.slice n 0 (n1+d.size) c,_,nJ [l] L++[⟨n,splice cs n1 (dZ d),e⟩],n+1,γ,gA.trans (by simp only[den,gE]),cU.less fun q b hq=> ?_,eG,vu n,jR n,IP⟩
  ·rw[fap,FH]at hq⊢
   rw[wu]
   by_cases oq:q=l
   ·rw[show eo [l] q=true by simp[eo,oq]]at hq⊢
    exact hq
   ·rw[show eo [l] q=false by simp[eo,oE oq]]at hq⊢
    rw[af oq]
    exact hq
 ·refine xE hg aA fun β a W hm hf=> ?_
  obtain⟨e1,b1⟩:=cq hf hs
  obtain⟨e2,b2⟩:=cq hf hx
  have hold:=cells_from hm hl 0 n1
  have Aq:(aM β (((⟨l,cs,e⟩:aC).cs.drop 0).take n1)).length=n1*info.size:=by
   rw[cO,fL,eY,iY,aJ];show min _ (cs.length-0)=_;omega
  obtain⟨X,hX,gA⟩:=Ih (run_append_grow_string (P:=P) W t u o.type e info z hu jh hi hz ⟨β l,0,none⟩ n1 c _ Aq hold d (by omega) (by omega) (growslice_fits (by omega) (by rw[uw];omega)))
  have ju:=grownCap_ge W (n1+d.size) c e
  have S6:(W.drew.alloc (.cells X e)).heap[W.heap.size]? =some (.cells (aM β (cs.take n1++dZ d++rep (grownCap W (n1+d.size) c e-(n1+d.size)) j.z)).toArray e (0,0)):=by
   rw[show(W.drew.alloc (.cells X e)).heap[W.heap.size]? =some (.cells X e)from heap_alloc_new W.drew _,hX]
   congr 2
   apply rZ
   have lH:=LH β (nC β) (by intro h;rw[h]at iL;simp at iL) (grownCap W (n1+d.size) c e-(n1+d.size))
   have hb:=Qy β d
   simp only[cO]at hb lH⊢
   simp[lH,hb]
  obtain⟨γ,h1,h2,h3⟩:=hm.fresh (k:=n) (fun h=>iO n h) (cs:=cs.take n1++dZ d++rep (grownCap W (n1+d.size) c e-(n1+d.size)) j.z) (by
   rw[gI]
   intro v hv
   rcases List.mem_append.1 hv with hv|hv
   ·rcases List.mem_append.1 hv with hv|hv
    ·exact(gI _ _).1 (hm.bL l _ hl).2 v (xO hv)
    ·exact(gI _ _).1 (Fu _ d) v hv
   ·exact(gI _ _).1 (G4 (jl _) _) v hv) e (EW W _) (aE _) (m:=(0,0)) (Or.inl (aE 0)) S6
  have iW:(rep (grownCap W (n1+d.size) c e-(n1+d.size)) j.z).length=grownCap W (n1+d.size) c e-(n1+d.size):=by
   rw[G5,iL,fh]
  refine⟨.slice n 0 (n1+d.size) (grownCap W (n1+d.size) c e),W.drew.alloc (.cells X e),_,n+1,γ,K9 ho ?_,?_,h1,vu n,jR n,hK _ _ ju (grownCap_le_maxLen W (n1+d.size) c e (by simp only[maxLen];omega)) iW (fun q _ h=>EH h _)⟩
  ·rw[e1,e2]
   simp only[den,h2]
   exact gA
  ·rw[<-Ld]
   refine h3.less fun q b hq=> ?_
   rw[fap,FH]at hq
   simp only[ic]
   by_cases fW:q=n
   ·rw[aj fW]
    have wT:find L q=none:=by
     cases gv:find L q with
     |none=>rfl
     |some d=>have:=(hm.bL q d gv).1;omega
    rw[wT,ite_self]at hq
    simpa [find,fW]using hq
   ·rw[af fW]
    split at hq
    ·rename_i d lT
     split at lT
     ·cases lT
     ·rw[lT];exact hq
    ·simp only[find]at hq
     rw[af (fun e=>fW e.symm)]at hq
     cases hq
theorem adZ(hT:cI P T){o:Oper}{m0 N:Nat}{ms:List Nat}(hg:GI g m0 ms N)(aA:dD N o.dst=true){s x:Operand}{t u:Nat}(ho:o.op= .call {callee:= .builtin .append,args:= #[s,x],argTypes:= #[t,u]})
 {i:Ty} (ht:T t=some i) {e es:Nat} (hd:i.d= .sl e es) {iu:Ty} (gK:T u=some iu) (xb:(∃e' p_,iu.d= .sl e' p_)\/iu.d= .s)
 (hs:ev (look F) s=some .au) {xv:SV} (hx:ev (look F) x=some xv) (hxv:xv= .au\/(∃k o c,xv= .slice k o 0 c)\/ ∃d:ByteArray,xv= .str d/\d.size=0) {K:FF->LL->Nat->Prop} (hK:K (cH F o.dst .au) L n):Step g P o K F L n:=by
 obtain⟨hu,aJ⟩:=ma hT ht hd
 refine Cy hg aA (v:= .au) (fun β a W hm hf=> ?_) hK
 obtain⟨e1,b1⟩:=cq hf hs
 obtain⟨e2,b2⟩:=cq hf hx
 refine⟨K9 ho ?_,trivial⟩
 rw[e1,e2]
 have Ay:=rQ (w:=W) aJ
 rcases xb with⟨e',p_,h⟩|h
 ·have qk:=(ma hT gK h).1
  rcases hxv with rfl|⟨k,q,c,rfl⟩|⟨w,rfl,hw⟩<;>simp[Builtin.append_,run_underlying hu,run_underlying qk,Ay,Builtin.lenOf,Builtin.firstCells,loadCells,loadCellsFrom,den, *]
 ·have qk:=A7 hT gK h
  rcases hxv with rfl|⟨k,q,c,rfl⟩|⟨w,rfl,hw⟩<;>simp[Builtin.append_,run_underlying hu,run_underlying qk,Ay,Builtin.lenOf,Builtin.firstCells,loadCells,loadCellsFrom,den, *]
theorem aqz(hT:cI P T){o:Oper}{m0 N:Nat}{ms:List Nat}(hg:GI g m0 ms N)(aA:dD N o.dst=true){s x:Operand}{t u:Nat}(ho:o.op= .call {callee:= .builtin .append,args:= #[s,x],argTypes:= #[t,u]})
 {i:Ty} (ht:T t=some i) {e es:Nat} (hd:i.d= .sl e es) {iu:Ty} (gK:T u=some iu) (xb:(∃e' p_,iu.d= .sl e' p_)\/iu.d= .s)
 {l n1 c:Nat} (hs:ev (look F) s=some (.slice l 0 n1 c)) {cs:List SV} (hl:find L l=some ⟨l,cs,e⟩) (c_:own m0 ms l=true) (iy:n1<=c) (_:cs.length=c*es)
 (hx:ev (look F) x=some .au) {K:FF->LL->Nat->Prop} (hK:K (cH F o.dst (.slice n 0 n1 c)) (nJ [l] L++[⟨n,cs,e⟩]) (n+1)):Step g P o K F L n:=by
 obtain⟨hu,aJ⟩:=ma hT ht hd
 rw[<-hg.n0,<-hg.ms]at c_
 refine xE hg aA fun β a W hm hf=> ?_
 obtain⟨e1,b1⟩:=cq hf hs
 obtain⟨e2,b2⟩:=cq hf hx
 obtain⟨γ,eG,gE,cU⟩:=hm.relabel hl c_
 have Ay:=rQ (w:=W) aJ
 have gA:(execOp a.eval o).run P W= .ok (.value (.slice (some ⟨β l,0,none⟩) n1 c)) W:=by
  refine K9 ho ?_
  rw[e1,e2]
  rcases xb with⟨e',p_,h⟩|h
  ·have qk:=(ma hT gK h).1
   simp[Builtin.append_,run_underlying hu,run_underlying qk,Ay,Builtin.lenOf,Builtin.firstCells,storeCells,den,iy]
  ·have qk:=A7 hT gK h
   simp[Builtin.append_,run_underlying hu,run_underlying qk,Ay,Builtin.lenOf,Builtin.firstCells,storeCells,den,iy]
 exact⟨.slice n 0 n1 c,_,_,n+1,γ,gA.trans (by simp only[den,gE]),cU,eG,vu n,jR n,hK⟩
end
def dk(l:List Nat):List SV:=l.map fun x=> .int .u8 (.ofNat x)
def bl(s:ByteArray):List Nat:=s.data.toList.map UInt8.toNat
def ib(l:List Nat):ByteArray:=⟨(l.map UInt8.ofNat).toArray⟩
theorem ml(l:List Nat):(dk l).length=l.length:=fL ..
theorem Fv(a b:List Nat):dk (a++b)=dk a++dk b:=CJ
theorem C8(m:Nat):∀l,an m (dk l)=true
 | []=>rfl
 |x::l=>by show an m (_::dk l)=true;rw[an,C8 m l];rfl
theorem Y_:∀l,nH (dk l)=true
 | []=>rfl
 |x::l=>Y_ l
theorem H4(l:List Nat)(k:Nat):dk (l.take k)=(dk l).take k:=List.map_take
theorem QF(l:List Nat)(k:Nat):dk (l.drop k)=(dk l).drop k:=List.map_drop
theorem qR(s:ByteArray):dZ s=dk (bl s):=by
 unfold dZ dk bl
 rw[CK];rfl
theorem bh(s:ByteArray):(bl s).length=s.size:=by unfold bl;rw[fL,tO];rfl
theorem nO(s t:ByteArray):bl (s++t)=bl s++bl t:=by
 unfold bl
 rw[show(s++t).data=s.data++t.data from ByteArray.data_append ..,LI,CJ]
theorem gu{l:List Nat}(h:∀x∈l,x<256):bl (ib l)=l:=by
 unfold bl ib
 rw[List.toList_toArray,CK]
 conv=>rhs;rw[<-List.map_id l]
 exact PV fun x hx=>by simp[UInt8.toNat_ofNat,aO (h x hx)]
theorem i'(s:ByteArray):∀x∈bl s,x<256:=fun x hx=>by
 unfold bl at hx
 obtain⟨b,_,rfl⟩:=iZ.1 hx
 exact b.toNat_lt
theorem ph{s t:ByteArray}(h:bl s=bl t):s=t:=by
 cases s;cases t
 congr 1
 apply rZ
 unfold bl at h
 simp only at h
 exact(List.map_inj_right fun a b e=>UInt8.toNat_inj.1 e).1 h
def bI(t:TypeId)(lb:Nat)(l:List Nat)(v:SV)(B:LL):Prop:=
 (v= .au/\B=[]/\l=[])\/ ∃c X,v= .slice lb 0 l.length c/\B=[⟨lb,X,t⟩]/\X.take l.length=dk l/\X.length=c/\l.length<=c/\c<=maxLen/\∀m,an m X=true
def X_(L:LL)(xv:SV)(d:List Nat):Prop:=(xv= .au/\d=[])\/ ∃k o m c b,m=d.length/\xv= .slice k o m c/\find L k=some b/\(b.cs.drop o).take d.length=dk d
structure kv(l:List Nat)(c:Nat)(X:List SV):Prop where
 ud:X.take l.length=dk l
 len:X.length=c
 le:l.length<=c
 max:c<=maxLen
 b:∀m,an m X=true
theorem kv.row{l:List Nat}{c k:Nat}{X:List SV}(h:kv l c X)(hk:k=l.length)(t:TypeId)(lb:Nat):bI t lb l (.slice lb 0 k c) [⟨lb,X,t⟩]:=hk▸Or.inr ⟨c,X,rfl,rfl,h.ud,h.len,h.le,h.max,h.b⟩
theorem bI.get{t:TypeId}{lb:Nat}{l:List Nat}{v:SV}{B:LL}(h:bI t lb l v B):(v= .au/\B=[]/\l=[])\/ ∃k c X,k=l.length/\v= .slice lb 0 k c/\B=[⟨lb,X,t⟩]/\kv l c X:=by
 rcases h with h|⟨c,X,h1,h2,h3,h4,h5,h6,h7⟩
 ·exact Or.inl h
 ·exact Or.inr ⟨_,c,X,rfl,h1,h2,h3,h4,h5,h6,h7⟩
theorem bI.some{t:TypeId}{lb:Nat}{l:List Nat}{v:SV}{B:LL}(h:bI t lb l v B)(hl:l≠ []):∃k c X,k=l.length/\v= .slice lb 0 k c/\B=[⟨lb,X,t⟩]/\kv l c X:=by
 rcases h.get with⟨_,_,h⟩|h
 ·exact(hl h).elim
 ·exact h
theorem bI.nil(t:TypeId)(lb:Nat):bI t lb [] .au []:=Or.inl ⟨rfl,rfl,rfl⟩
theorem aiK{A B C:LL}(h:∀x∈B,∀y∈C,x.l≠y.l):find (A++(B++C))=find (A++C++B):=by
 funext l
 rw[fap,fap,fap,fap]
 cases find A l with
 |some b=>rfl
 |none=>
  cases hb:find B l with
  |none=>cases hc:find C l<;>rfl
  |some b=>
   cases hc:find C l with
   |none=>rfl
   |some c=>
    obtain⟨h1,h2⟩:=nT hb
    obtain⟨h3,h4⟩:=nT hc
    exact(h b h1 c h3 (h2.trans h4.symm)).elim
theorem bI.mid{t:TypeId}{lb:Nat}{l:List Nat}{v:SV}{A B C:LL}(h:bI t lb l v B)(hC:(C.all fun b=> !Nat.beq b.l lb)=true):find (A++(B++C))=find (A++C++B):=by
 refine aiK fun x hx y hy e=> ?_
 have:=gf.1 hC y hy
 rcases h with⟨_,rfl,_⟩|⟨_,_,_,rfl,_⟩
 ·cases hx
 ·obtain rfl:=il.1 hx
  rw[<-e,zk]at this;cases this
theorem bI.src{t:TypeId}{lb:Nat}{l:List Nat}{v:SV}{B L0:LL}(h:bI t lb l v B)(h0:(L0.all fun b=> !Nat.beq b.l lb)=true):X_ (L0++B) v l:=by
 rcases h with⟨rfl,rfl,rfl⟩|⟨c,X,rfl,rfl,h1,h2,h3,h4,h5⟩
 ·exact Or.inl ⟨rfl,rfl⟩
 ·refine Or.inr ⟨lb,0,_,c,⟨lb,X,t⟩,rfl,rfl,?_,h1⟩
  rw[fap]
  have:find L0 lb=none:=by
   cases hf:find L0 lb with
   |none=>rfl
   |some b=>
    obtain⟨q1,q2⟩:=nT hf
    have:=gf.1 h0 b q1
    rw[q2,zk]at this;cases this
  rw[this]
  simp[find]
theorem VK{L0:LL}{lb:Nat}(h0:(L0.all fun b=> !Nat.beq b.l lb)=true){X:List SV}{t:TypeId}:nJ [lb] (L0++[⟨lb,X,t⟩])=L0:=by
 induction L0 with
 |nil=>simp[nJ,eo]
 |cons b L ih=>
  have h0':=h0
  simp only[kL,dq]at h0
  have hb:eo [lb] b.l=false:=by
   simp only[eo]
   have h1:=h0.1
   have ek:lb≠b.l:=fun e=>by rw[e,zk]at h1;cases h1
   simp[ek]
  simp only[du,nJ,hb,ih h0.2]
section
variable {P:Program}{g:G}{T:Nat->Option Ty}{F:FF}{L:LL}{n:Nat}
theorem Step.up{o:Oper}{K:FF->LL->Nat->Prop}(h:Step g P o (fun F' L' n'=>K F' L' (n'+1)) F L n):Step g P o K F L n:=by
 refine⟨fun a W aW next Q hn=>h.run a W aW next Q fun F' L' n' a' W' hk ⟨β,hm,hf⟩=>hn F' L' (n'+1) a' W' hk ⟨β,?_,?_⟩⟩
 ·exact⟨fun l hl=>CR (hm.low l hl),hm.fC,hm.new,hm.inj,hm.cell,fun l b hb=>⟨CR (hm.bL l b hb).1,pg (fun _ h=>CR h) _ (hm.bL l b hb).2⟩,hm.up⟩
 ·exact hf.mono (fun _ _=>rfl) fun l hl=>CR hl
theorem Step.perm{o:Oper}{K:FF->LL->Nat->Prop}{L2:LL}(h:find L=find L2)(hs:Step g P o K F L2 n):Step g P o K F L n:=
 ⟨fun a W aW next Q hn=>hs.run a W (by obtain⟨β,hm,hf⟩:=aW;exact⟨β,by rw[<-h];exact hm,hf⟩) next Q hn⟩
theorem lI(hT:cI P T){o:Oper}{m0 N:Nat}{ms:List Nat}(hg:GI g m0 ms N)(aA:dD N o.dst=true){s x:Operand}{t:Nat}(ho:o.op= .call {callee:= .builtin .append,args:= #[s,x],argTypes:= #[t,t]})
 {i:Ty} (ht:T t=some i) {e:Nat} (hd:i.d= .sl e 1) {j:Ty} (hj:T e=some j) (hB:(P.info? e).map (·.bytes)=some 1) (Aj:j.z=[.int .u8 0])
 {L0 B1:LL} {lb:Nat} (hL:find L=find (L0++B1)) (h0:(L0.all fun b=> !Nat.beq b.l lb)=true) (c_:own m0 ms lb=true) {l d:List Nat} {v1 xv:SV} (hR:bI e lb l v1 B1) (hs:ev (look F) s=some v1) (hx:ev (look F) x=some xv) (hX:X_ (L0++B1) xv d)
 (aJ:l.length+d.length<=140737488355328) {K:FF->LL->Nat->Prop} (hK:∀v B,bI e n (l++d) v B->K (cH F o.dst v) (L0++B) (n+1)):Step g P o K F L n:=by
 refine Step.perm hL ?_
 generalize Du:L0++B1=L2 at hL hX⊢
 replace hL:=Du.symm
 rcases hR with⟨rfl,rfl,rfl⟩|⟨c,X,rfl,rfl,h1,h2,h3,h4,h5⟩
 ·rw[gg]at hL
  subst hL
  rcases Nat.eq_zero_or_pos d.length with mA|mA
  ·have ajz:d=[]:=Yj mA
   refine Step.up (adZ hT hg aA ho ht hd ht (Or.inl ⟨_,_,hd⟩) hs hx ?_ ?_)
   ·rcases hX with⟨rfl,_⟩|⟨k,q,_,c,b,rfl,rfl,_,_⟩
    ·exact Or.inl rfl
    ·exact Or.inr (Or.inl ⟨k,q,c,by rw[mA]⟩)
   ·have:=hK .au [] (Or.inl ⟨rfl,rfl,by rw[ajz];rfl⟩)
    rwa [gg]at this
  ·rcases hX with⟨rfl,rfl⟩|⟨k,q,_,c,b,rfl,rfl,hk,yA⟩
   ·cases mA
   ·obtain⟨bl,xY,bt⟩:=b
    obtain rfl:=(aak hk:bl=k)
    have jD:q+d.length<=xY.length:=by
     have:=aK List.length yA
     rw[eY,iY,ml]at this
     have h7:xY.length-q≥d.length:=by show(aC.cs ⟨bl,xY,bt⟩).length-q≥_;omega
     omega
    refine adY hT hg aA ho ht hd hj hB (by decide) hs hx hk (by rw[fh];exact jD) mA (by simp only[maxLen];simp at aJ;omega) (by simp at aJ;omega) fun c' X hX h1 h2 h3 h4=> ?_
    rw[fh]at hX h3
    refine hK _ _ (Or.inr ⟨c',X,rfl,rfl,?_,h3,h1,h2,fun m=> ?_⟩)
    ·rw[hX,show(xY.drop q).take d.length=dk d from yA]
     show(dk d++_).take d.length=dk d
     rw[CN (ml d)]
    ·rw[hX,show(xY.drop q).take d.length=dk d from yA,Aj]
     exact mX (C8 m d) (EH rfl _)
 ·have aki:(xv= .au/\d=[])\/ ∃k q m c b,m=d.length/\xv= .slice k q m c/\find L2 k=some b/\(b.cs.drop q).take d.length=dk d:=hX
  subst hL
  have hf:find (L0++[⟨lb,X,e⟩]) lb=some ⟨lb,X,e⟩:=by
   rcases bI.src (t:=e) (lb:=lb) (l:=l) (v:= .slice lb 0 l.length c) (B:=[⟨lb,X,e⟩]) (Or.inr ⟨c,X,rfl,rfl,h1,h2,h3,h4,h5⟩) h0 with⟨h,_⟩|⟨k,q,_,c',b,_,h,hb,_⟩
   ·cases h
   ·cases h
    rw[fap]at hb⊢
    cases hz:find L0 lb with
    |none=>simp[find]
    |some b'=>
     obtain⟨q1,q2⟩:=nT hz
     have:=gf.1 h0 b' q1
     rw[q2,zk]at this;cases this
  have fin:∀c' tail Y M,Y=X.take l.length++dk d++tail->M=l.length+d.length->M<=c'->c'<=maxLen->Y.length=c'->(∀m,an m Y=true)->K (cH F o.dst (.slice n 0 M c')) (L0++[⟨n,Y,e⟩]) (n+1):=by
   intro c' tail Y M hY hM q1 q2 q3 q4
   refine hK _ _ (Or.inr ⟨c',Y,by rw[dI,hM],rfl,?_,q3,by rw[dI,<-hM];exact q1,q2,q4⟩)
   rw[hY,h1,<-Fv]
   exact CN (by rw[ml])
  rcases aki with⟨rfl,rfl⟩|⟨k,q,_,c2,b,rfl,rfl,hk,yA⟩
  ·have lA:=fin c (X.drop l.length) X l.length (by rw[show dk []=[]from rfl,gg,PY]) (by simp) h3 h4 h2 h5
   exact aqz hT hg aA ho ht hd ht (Or.inl ⟨_,_,hd⟩) hs hf c_ h3 (by rw[fh];exact h2) hx (by
    rw[VK h0];exact lA)
  ·obtain⟨bl,xY,bt⟩:=b
   obtain rfl:=(aak hk:bl=k)
   have jD:0<d.length->q+d.length*1<=xY.length:=fun mA=>by
    have:=aK List.length yA
    rw[eY,iY,ml]at this
    have h7:xY.length-q≥d.length:=by show(aC.cs ⟨bl,xY,bt⟩).length-q≥_;omega
    omega
   have Ns:(xY.drop q).take (d.length*1)=dk d:=by rw[fh];exact yA
   refine ad3 hT hg aA ho ht hd hj hB (by decide) hs hf c_ h3 (by rw[fh];exact h2) h4 hx hk jD (by rw[Ns];exact Y_ d) (by simp only[maxLen];omega) (by omega) fun c' tail r1 r2 r3 r4=> ?_
   rw[VK h0]
   rw[fh]at r3
   refine fin c' tail _ _ (by rw[Ns,fh]) rfl r1 r2 ?_ fun m=> ?_
   ·rw[Ns,fh,dI,dI,ml,r3,eY,h2,tS h3];omega
   ·rw[Ns]
    exact mX (mX (CZ (h5 m)) (C8 m d)) (r4 m (h5 m) (by rw[Aj];rfl))
theorem ad7(hT:cI P T){o:Oper}{m0 N:Nat}{ms:List Nat}(hg:GI g m0 ms N)(aA:dD N o.dst=true){s x:Operand}{t u:Nat}(ho:o.op= .call {callee:= .builtin .append,args:= #[s,x],argTypes:= #[t,u]})
 {i:Ty} (ht:T t=some i) {e:Nat} (hd:i.d= .sl e 1) {j:Ty} (hj:T e=some j) (hB:(P.info? e).map (·.bytes)=some 1) (Aj:j.z=[.int .u8 0]) {iu:Ty} (gK:T u=some iu) (xb:iu.d= .s)
 {L0 B1:LL} {lb:Nat} (hL:find L=find (L0++B1)) (h0:(L0.all fun b=> !Nat.beq b.l lb)=true) (c_:own m0 ms lb=true) {l:List Nat} {v1:SV} {d:ByteArray} (hR:bI e lb l v1 B1) (hs:ev (look F) s=some v1) (hx:ev (look F) x=some (.str d))
 (aJ:l.length+d.size<=140737488355328) {K:FF->LL->Nat->Prop} (hK:∀v B,bI e n (l++bl d) v B->K (cH F o.dst v) (L0++B) (n+1)):Step g P o K F L n:=by
 refine Step.perm hL ?_
 generalize Du:L0++B1=L2 at hL⊢
 replace hL:=Du.symm
 rcases hR with⟨rfl,rfl,rfl⟩|⟨c,X,rfl,rfl,h1,h2,h3,h4,h5⟩
 ·rw[gg]at hL
  subst hL
  rcases Nat.eq_zero_or_pos d.size with mA|mA
  ·refine Step.up (adZ hT hg aA ho ht hd gK (Or.inr xb) hs hx (Or.inr (Or.inr ⟨d,rfl,mA⟩)) ?_)
   have:=hK .au [] (Or.inl ⟨rfl,rfl,by rw[cM];exact Yj (by rw[bh,mA])⟩)
   rwa [gg]at this
  ·refine aqD hT hg aA ho ht hd hj hB gK xb hs hx mA (by simp at aJ;omega) fun c' h1 h2=> ?_
   refine hK _ _ (Or.inr ⟨c',_,by rw[cM,bh],rfl,?_,?_,by rw[cM,bh];exact h1,h2,fun m=>mX (Qx m d) (EH (by rw[Aj];rfl) _)⟩)
   ·rw[cM,qR,CN (ml _)]
   ·rw[dI,H3,G5,Aj,List.length_singleton,fh];omega
 ·subst hL
  have hf:find (L0++[⟨lb,X,e⟩]) lb=some ⟨lb,X,e⟩:=by
   rw[fap]
   cases hz:find L0 lb with
   |none=>simp[find]
   |some b'=>
    obtain⟨q1,q2⟩:=nT hz
    have:=gf.1 h0 b' q1
    rw[q2,zk]at this;cases this
  refine aqE hT hg aA ho ht hd hj hB gK xb hs hf c_ h3 h2 h4 hx aJ fun c' tail r1 r2 r3 r4=> ?_
  rw[VK h0]
  refine hK _ _ (Or.inr ⟨c',_,by rw[dI,bh],rfl,?_,?_,by rw[dI,bh];exact r1,r2,fun m=>mX (mX (CZ (h5 m)) (Qx m d)) (r4 m (h5 m) (by rw[Aj];rfl))⟩)
  ·rw[h1,qR,<-Fv]
   exact CN (by rw[ml])
  ·rw[dI,dI,H3,r3,eY,h2,tS h3];omega
end
mutual
theorem YW{m k:Nat}(h:m<=k):∀v,gh m v=true->gh k v=true
 | .bool _,_| .int _ _,_| .str _,_| .cR,_| .au,_| .aH,_| .raw _,_=>rfl
 | .ptr _ _,hv| .gM _ _,hv| .slice _ _ _ _,hv=>by
   simp only[gh]at hv⊢
   exact oD (eH (g_ hv) h)
 | .fn _ a b,hv=>by
   simp only[gh,dq]at hv⊢
   exact⟨HX h a hv.1,HX h b hv.2⟩
 | .agg cs,hv=>by simp only[gh]at hv⊢;exact HX h cs hv
 | .aR vs,hv=>by simp only[gh]at hv⊢;exact HX h vs hv
theorem HX{m k:Nat}(h:m<=k):∀l,an m l=true->an k l=true
 | [],_=>rfl
 |v::vs,hl=>by
  simp only[an,dq]at hl⊢
  exact⟨YW h v hl.1,HX h vs hl.2⟩
end
mutual
theorem adf{ρ:Nat->Nat}{m:Nat}(h:∀l,l<m->ρ l=l):∀v,gh m v=true->cK ρ v=v
 | .bool _,_| .int _ _,_| .str _,_| .cR,_| .au,_| .aH,_| .raw _,_=>rfl
 | .ptr l _,hv| .gM l _,hv| .slice l _ _ _,hv=>by
   simp only[cK,h l (ao (by simpa only[gh]using hv))]
 | .fn _ a b,hv=>by
   simp only[gh,dq]at hv
   simp only[cK,G3 h a hv.1,G3 h b hv.2]
 | .agg cs,hv=>by simp only[gh]at hv;simp only[cK,G3 h cs hv]
 | .aR vs,hv=>by simp only[gh]at hv;simp only[cK,G3 h vs hv]
theorem G3{ρ:Nat->Nat}{m:Nat}(h:∀l,l<m->ρ l=l):∀l,an m l=true->bj ρ l=l
 | [],_=>rfl
 |v::vs,hl=>by
  simp only[an,dq]at hl
  simp only[bj,adf h v hl.1,G3 h vs hl.2]
end
section
variable {P:Program}{T:Nat->Option Ty}
theorem ap_(hT:cI P T){t:Nat}{i:Ty}(ht:T t=some i){e es:Nat}(hd:i.d= .sl e es)(l o m c:Nat){k:IntKind}{j:Nat}(hj:j<=m)(hc:m<=c):oF P t (.slice l o m c) (some (k,Int.ofNat j)) none (.slice l (if c=j then o else o+j*es) (m-j) (c-j)):=by
 by_cases h:c=j
 ·obtain⟨hu,hs⟩:=ma hT ht hd
  have he:P.elem t=e:=by simp[Program.elem,hu]
  refine⟨fun β W=> ?_,fun p h=>h⟩
  show(Instr.sliceAt t (.slice (some ⟨β l,o,none⟩) m c) (some (.int k (Int.ofNat j))) none none).run P W=_
  rw[run_sliceAt_slice W t _ _ _ _ (by rw[he];exact hu),run_slice_l W t _ m c (by rw[he];exact hu) k (Int.ofNat j) (by simp) (by simpa using hj),he,rQ hs]
  simp only[Result.andThen,sliced,den]
  rw[aj (by simp;omega),aj h]
  simp
 ·rw[af h]
  exact ap8 hT ht hd l o m c hj (by omega)
end
end Go.Vg
namespace Go.Vg
open Go.RowKit Go.Lib
section
variable {P:Program}{g:G}{T:Nat->Option Ty}{F:FF}{L:LL}{n:Nat}
theorem nL(hT:cI P T){o:Oper}{m0 N:Nat}{ms:List Nat}(hg:GI g m0 ms N)(aA:dD N o.dst=true){t:Nat}{l c:Operand}(ho:o.op= .makeSlice t l c){i:Ty}(ht:T t=some i){e:Nat}(hd:i.d= .sl e 1){j:Ty}(hj:T e=some j){bytes:Nat}(hB:(P.info? e).map (·.bytes)=some bytes){zv:SV}(Aj:j.z=[zv])
 {kl kc:IntKind} {m:Nat} (hl:ev (look F) l=some (.int kl (Int.ofNat m))) (hc:ev (look F) c=some (.int kc (Int.ofNat m))) (n_:bytes*m<=281474976710656) (hm:m<=281474976710656) {K:FF->LL->Nat->Prop}
 (hK:K (cH F o.dst (.slice n 0 m m)) (L++[⟨n,List.replicate m zv,e⟩]) (n+1)):Step g P o K F L n:=by
 obtain⟨info,z,hu,hi,hz,aJ,uw,mB,nC,jl,iL⟩:=EO hT ht hd hj hB
 have S3:∀p,bd p zv:=fun p=>by have:=jl p;rw[Aj]at this;exact this.1
 refine ER hg aA fun β a W fb hf=> ?_
 obtain⟨e1,_⟩:=cq hf hl
 obtain⟨e2,_⟩:=cq hf hc
 have akt:z.cells= #[den β zv]:=by
  apply rZ
  rw[nC β,Aj];rfl
 have gA:=run_make (P:=P) W t e info z hu hi hz kl kc (Int.ofNat m) (Int.ofNat m) (zi m) (Int.le_refl _) (by
  have h:((info.bytes*m:Nat):Int)<=281474976710656:=by rw[uw];omega
  rwa [Int.natCast_mul]at h) (by show(m:Int)<=_;omega)
 refine⟨.slice n 0 m m,W.alloc (.cells (madeCells z.cells ((Int.ofNat m).toNat*info.size)) e),W.heap.size,List.replicate m zv,e,(0,0),fun γ gE=> ?_,⟨rfl,rfl,rfl,by simp,fun k hk _=>heap_alloc_old W _ hk⟩,aE _,Or.inl (aE 0),?_,?_,jR n,hK⟩
 ·unfold execOp
  simp only[ho,Sem.run_bind,Sem.run_pure,Result.andThen_ok,e1,e2,den]
  have:=gA
  simp only[this,Result.andThen_ok,gE]
  rfl
 ·rw[heap_alloc_new W _]
  congr 2
  apply rZ
  rw[akt,aJ,fh]
  show(madeCells #[den β zv] m).toList=_
  rw[toList_madeCells_one,cO,List.toList_toArray,Ym]
 ·rw[gI]
  intro v hv
  rw[(qM.1 hv).2];exact S3 _
theorem apL{W:World}{dT sT ty elem:TypeId}{gb dLen dCap:Nat}{cur:Array Value}{t:TypeId}{mk:Nat×Nat}(hu:P.underlying dT=some (.slice elem)){i:TypeInfo}(hi:P.info? elem=some i)(hs:i.size=1)(hg:W.heap[gb]? =some (.cells cur t mk))(fJ:rO mk cur.size)(s:ByteArray)(hle:s.size<=dLen)(rf:s.size<=cur.size):
 (Builtin.copy_ #[dT,sT] ty #[.slice (some ⟨gb,0,none⟩) dLen dCap,.string s]).run P W= .ok (goInt s.size) (W.setRow gb (strCells s++cur.toList.drop s.size).toArray):=by
 have aW:=EI (P:=P) gb 0 t mk (strCells s) 0 cur W hg fJ (by simpa [strCells_length]using rf) (strCells_oneCell s)
 have wQ:Nat.min s.size dLen=s.size:=tS hle
 have htk:List.take s.size (List.map (fun b:UInt8=>Value.int IntKind.u8 (b.toNat:Int)) s.data.toList)=strCells s:=by
  rw[vf (by rw[fL];exact aE _)]
  rfl
 simp only[gY,strCells_length,dB,HA,cM]at aW
 simp[Builtin.copy_,run_underlying hu,Builtin.lenOf,Builtin.firstCells,sizeOf,typeInfo,hi,hs,wQ]
 rw[htk,aW]
 simp[Result.andThen]
theorem VP{a:Act}{W:World}{o:Oper}{s x:Operand}{t u:TypeId}(ho:o.op= .call {callee:= .builtin .copy,args:= #[s,x],argTypes:= #[t,u]}){v:Value}{W':World}(h:(Builtin.copy_ #[t,u] o.type #[a.eval s,a.eval x]).run P W= .ok v W'):(execOp a.eval o).run P W= .ok (.value v) W':=by
 unfold execOp
 simp only[ho,resolve,invoke,builtin,Sem.run_bind,Sem.run_pure,Result.andThen_ok,Hv,ve,Hu,h]
theorem ad4(hT:cI P T){o:Oper}{m0 N:Nat}{ms:List Nat}(hg:GI g m0 ms N)(aA:dD N o.dst=true){s x:Operand}{t u:Nat}(ho:o.op= .call {callee:= .builtin .copy,args:= #[s,x],argTypes:= #[t,u]})
 {i:Ty} (ht:T t=some i) {e:Nat} (hd:i.d= .sl e 1) {l n1 c:Nat} (hs:ev (look F) s=some (.slice l 0 n1 c)) {cs:List SV} {tb:TypeId} (hl:find L l=some ⟨l,cs,tb⟩) (c_:own m0 ms l=true)
 {d:ByteArray} (hx:ev (look F) x=some (.str d)) (h1:d.size<=n1) (h2:d.size<=cs.length) {K:FF->LL->Nat->Prop}
 (hK:K (cH F o.dst (.int .i64 (.ofNat d.size))) (me L l (dZ d++cs.drop d.size)) n):Step g P o K F L n:=by
 obtain⟨hu,aJ⟩:=ma hT ht hd
 have JH:∃info,P.info? e=some info/\info.size=1:=by
  unfold lJ at aJ
  cases hq:P.info? e with
  |none=>simp[hq]at aJ
  |some info=>exact⟨info,rfl,by simpa [hq]using aJ⟩
 obtain⟨info,hi,dQ⟩:=JH
 have oh:=H3 d
 have ot:splice cs 0 (dZ d)=dZ d++cs.drop d.size:=by rw[splice,oh,HA,cM,dB]
 rw[<-hg.n0,<-hg.ms]at c_
 refine xE hg aA fun β a W hm hf=> ?_
 obtain⟨e1,b1⟩:=cq hf hs
 obtain⟨e2,b2⟩:=cq hf hx
 obtain⟨mk,fJ,js⟩:=hm.cell l _ hl
 have aW:=hm.store (o:=0) hl (vs:=dZ d) (by show 0+_<=cs.length;omega) c_ (Fu _ d)
 rw[show ic (find L) l ⟨l,splice cs 0 (dZ d),tb⟩=find (me L l (splice cs 0 (dZ d)))from by
  funext q
  rw[wu]
  simp only[ic,hl]
  rfl]at aW
 have gA:(execOp a.eval o).run P W= .ok (.value (den β (.int .i64 (.ofNat d.size)))) (W.setRow (β l) (aM β (splice cs 0 (dZ d))).toArray):=by
  refine VP ho ?_
  rw[e1,e2]
  have:=apL (P:=P) (ty:=o.type) (sT:=u) (dLen:=n1) (dCap:=c) hu hi dQ js (by simpa [cO]using fJ c_) d h1 (by
   simp only[CM,cO,fL]
   omega)
  simp only[den]
  rw[this,Cx]
  have hb:=Qy β d
  simp only[cO]at hb⊢
  simp[hb,oh,goInt]
 refine⟨_,_,me L l (splice cs 0 (dZ d)),n,β,gA,aW,fun _ _=>rfl,aE n,trivial,by rw[ot];exact hK⟩
end
end Go.Vg
namespace Go.Vg
open Go.RowKit
section
variable {P:Program}{g:G}{T:Nat->Option Ty}{F:FF}{L:LL}{n:Nat}
theorem apJ{W:World}{dT sT ty elem:TypeId}{gb of dLen dCap:Nat}{cur:Array Value}{t:TypeId}{mk:Nat×Nat}(hu:P.underlying dT=some (.slice elem)){i:TypeInfo}(hi:P.info? elem=some i)(hs:i.size=1)(hg:W.heap[gb]? =some (.cells cur t mk))(fJ:rO mk cur.size)
 (ad:Addr) (m c:Nat) (news:List Value) (hl:news.length=m) (wR:∀j v,news[j]? =some v->W.cell? (ad.add j)=some v) (h1:∀u∈news,u.oneCell'=true) (hle:m<=dLen) (rf:of+m<=cur.size):
 (Builtin.copy_ #[dT,sT] ty #[.slice (some ⟨gb,of,none⟩) dLen dCap,.slice (some ad) m c]).run P W= .ok (goInt m) (W.setRow gb (cur.toList.take of++news++cur.toList.drop (of+m)).toArray):=by
 have aW:=EI (P:=P) gb of t mk news 0 cur W hg fJ (by simpa [hl]using rf) h1
 have wQ:Nat.min m dLen=m:=tS hle
 have hf:=run_firstCells_some (P:=P) W 1 m ad m c news (by omega) wR
 simp only[gY,hl]at aW
 simp[Builtin.copy_,run_underlying hu,Builtin.lenOf,sizeOf,typeInfo,hi,hs,wQ,hf]
 rw[aW]
 simp[Result.andThen]
theorem V8(hT:cI P T){o:Oper}{m0 N:Nat}{ms:List Nat}(hg:GI g m0 ms N)(aA:dD N o.dst=true){s x:Operand}{t u:Nat}(ho:o.op= .call {callee:= .builtin .copy,args:= #[s,x],argTypes:= #[t,u]})
 {i:Ty} (ht:T t=some i) {e:Nat} (hd:i.d= .sl e 1) {l of n1 c:Nat} (hs:ev (look F) s=some (.slice l of n1 c)) {cs:List SV} {tb:TypeId} (hl:find L l=some ⟨l,cs,tb⟩) (c_:own m0 ms l=true)
 {k ox m mc:Nat} (hx:ev (look F) x=some (.slice k ox m mc)) {ds:List SV} {tk:TypeId} (hk:find L k=some ⟨k,ds,tk⟩) (jE:ox+m<=ds.length) (tj:nH ((ds.drop ox).take m)=true) (h1:m<=n1) (h2:of+m<=cs.length) {K:FF->LL->Nat->Prop}
 (hK:K (cH F o.dst (.int .i64 (.ofNat m))) (me L l (splice cs of ((ds.drop ox).take m))) n):Step g P o K F L n:=by
 obtain⟨hu,aJ⟩:=ma hT ht hd
 have JH:∃info,P.info? e=some info/\info.size=1:=by
  unfold lJ at aJ
  cases hq:P.info? e with
  |none=>simp[hq]at aJ
  |some info=>exact⟨info,rfl,by simpa [hq]using aJ⟩
 obtain⟨info,hi,dQ⟩:=JH
 have oh:((ds.drop ox).take m).length=m:=by rw[eY,iY];omega
 rw[<-hg.n0,<-hg.ms]at c_
 refine xE hg aA fun β a W hm hf=> ?_
 obtain⟨e1,b1⟩:=cq hf hs
 obtain⟨e2,b2⟩:=cq hf hx
 obtain⟨mk,fJ,js⟩:=hm.cell l _ hl
 have iz:ay (fun l=>l<n) ((ds.drop ox).take m):=xZ (hm.bL k _ hk).2 ox m
 have aW:=hm.store (o:=of) hl (vs:=(ds.drop ox).take m) (by show of+_<=cs.length;rw[oh];omega) c_ iz
 rw[show ic (find L) l ⟨l,splice cs of ((ds.drop ox).take m),tb⟩=find (me L l (splice cs of ((ds.drop ox).take m)))from by
  funext q
  rw[wu]
  simp only[ic,hl]
  rfl]at aW
 have Nu:=cells_from hm hk ox m
 have gA:(execOp a.eval o).run P W= .ok (.value (den β (.int .i64 (.ofNat m)))) (W.setRow (β l) (aM β (splice cs of ((ds.drop ox).take m))).toArray):=by
  refine VP ho ?_
  rw[e1,e2]
  have:=apJ (P:=P) (ty:=o.type) (sT:=u) (dLen:=n1) (dCap:=c) hu hi dQ js (by simpa [cO]using fJ c_) ⟨β k,ox,none⟩ m mc (aM β ((ds.drop ox).take m)) (by rw[cO,fL,oh]) Nu (fun w hw=>by
   rw[cO]at hw
   obtain⟨y,hy,rfl⟩:=iZ.1 hw
   exact one_den β (KX tj y hy)) h1 (by
   simp only[CM,cO,fL]
   omega)
  simp only[den]
  rw[this,Cx]
  simp[cO,oh,goInt]
 refine⟨_,_,me L l (splice cs of ((ds.drop ox).take m)),n,β,gA,aW,fun _ _=>rfl,aE n,trivial,hK⟩
theorem adJ(hT:cI P T){t:Nat}{i:Ty}(ht:T t=some i){m e:Nat}{ag:Bool}(hd:i.d= .ar m e 1 ag)(l o:Nat){k:IntKind}{j:Nat}(hj:j<m):oF P t (.ptr l o) (some (k,Int.ofNat j)) none (.slice l (o+j) (m-j) (m-j)):=by
 obtain⟨hu,hm,hs⟩:=Mg hT ht hd
 refine⟨fun β W=> ?_,fun p h=>h⟩
 show(Instr.sliceAt t (.pointer (some ⟨β l,o,none⟩)) (some (.int k (Int.ofNat j))) none none).run P W=_
 rw[run_sliceAt_array_l W t ⟨β l,o,none⟩ hu k (Int.ofNat j) (by simp) (by rw[hm];exact PQ.2 (by omega)),hs W,hm]
 simp only[Result.andThen,slicedAt,den]
 rw[af (by simp;omega)]
 simp[tY]
end
theorem acX:∀l:List SV,(∀v∈l,∃k x,v= .int k x)->nH l=true
 | [],_=>rfl
 |a::l,h=>by
  obtain⟨k,x,rfl⟩:=h a kd
  exact acX l fun v hv=>h v (lj _ hv)
theorem ack{K:IntKind}{f:Nat->Int}{v:SV}:∀n s,v∈aw K f s n->∃k x,v= .int k x
 |0,_,h=>by cases h
 |n+1,s,h=>by
  rcases List.mem_cons.1 h with h|h
  ·exact⟨_,_,h⟩
  ·exact ack n _ h
theorem aeP(f:Nat->Nat)(c m:Nat):nH ((ws f c).take m)=true:=acX _ fun v hv=>ack _ _ (xO hv)
end Go.Vg
namespace Dg
theorem alx{T T1 T2 T' q M b a less B i A:Nat}(hB:0<B)(ha:a<B)(hT:T<M+b)(hinv:T*B^i%M=A*b%M)(h1:T1=T+a*b)(hq:q=T1%B*less%B)(h2:T2=T1+q*M)(h3:T'*B=T2):T'<M+b/\T'*B^(i+1)%M=(A+a*B^i)*b%M:=
 ⟨apD hT ha (q:=q) (by rw[hq];exact ax _ hB) (by rw[h3,h2,h1]),aly hinv (by rw[h3,h2,h1])⟩
theorem afk{T M b a P B:Nat}(hT:T<M+b)(hM:M<P)(hb:b<P)(ha:a<B)(hB:2<=B):T+a*b<P*B*B:=by
 have h1:a*b<=(B-1)*P:=mV (by omega) (by omega)
 have h2:(B-1)*P+2*P<=P*B*B:=by
  rw[<-cw,bJ,eZ]
  refine xS P ?_
  have:=ea B hB
  omega
 omega
theorem afl{T M b a P B q:Nat}(hT:T<M+b)(hM:M<P)(hb:b<P)(ha:a<B)(hB:2<=B)(hq:q<B):T+a*b+q*M<P*B*B:=by
 have h1:a*b<=(B-1)*P:=mV (by omega) (by omega)
 have h3:q*M<=(B-1)*P:=mV (by omega) (by omega)
 have h2:(B-1)*P+(B-1)*P+2*P<=P*B*B:=by
  rw[<-cw,<-cw,bJ,eZ]
  refine xS P ?_
  have:=ea B hB
  omega
 omega
end Dg
namespace Go.Vg
theorem YK{n:Nat}{a:Nat->Nat}:∀d,V (n+d) a<0x10000000000000000^n->V (n+d) a=V n a
 |0,_=>rfl
 |d+1,h=>by
  have e:V (n+(d+1)) a=V (n+d) a+a (n+d)*0x10000000000000000^(n+d):=rfl
  rw[e]at h⊢
  have hz:a (n+d)=0:=by
   rcases Nat.eq_zero_or_pos (a (n+d))with h0|h0
   ·exact h0
   ·have h1:0x10000000000000000^(n+d)<=a (n+d)*0x10000000000000000^(n+d):=Nat.le_mul_of_pos_left _ h0
    have h2:0x10000000000000000^n<=0x10000000000000000^(n+d):=cV (by decide) (by omega)
    omega
  rw[hz,fE,gY]at h⊢
  exact YK d h
theorem YI(n:Nat):V n (fun _=>0)=0:=by
 have:=Dg.rM (b:=0x10000000000000000) (fun _=>0) 0 n (fun _ _ _=>rfl)
 rwa [dB]at this
theorem HM(n:Nat)(f:Nat->Nat):V (n+1) f=f 0+V n (fun j=>f (j+1))*0x10000000000000000:=by
 have h:=Dg.yZ (b:=0x10000000000000000) f 1 n
 rw[oB 1 n,zo]at h
 rw[show V (n+1) f=Dg.num 0x10000000000000000 f (n+1)from rfl,h]
 have e:Dg.num 0x10000000000000000 f 1=f 0:=by show 0+f 0*0x10000000000000000^0=f 0;rw[jB,fh,dB]
 rw[e]
 congr 2
 exact Dg.jP n fun i _=>by rw[oB]
structure Mo(m:Nat->Nat)(n less:Nat)(rr:Nat->Nat):Prop where
 wm:Wn 9 m
 wr:Wn 9 rr
 n9:n<=9
 mn:V 9 m<0x10000000000000000^n
 l:less<0x10000000000000000
 m1:1<V 9 m
 low:(V 9 m*less+1)%0x10000000000000000=0
 co:Nat.Coprime (0x10000000000000000^n) (V 9 m)
 rr:V 9 rr=0x10000000000000000^n*0x10000000000000000^n%V 9 m
theorem Mo.vm{m:Nat->Nat}{n less:Nat}{rr:Nat->Nat}(h:Mo m n less rr){a:Nat->Nat}(ha:V 9 a<=V 9 m):V 9 a=V n a:=by
 have e:=YK (n:=n) (a:=a) (9-n)
 rw[show n+(9-n)=9 by have:=h.n9;omega]at e
 exact e (eB ha h.mn)
theorem ahz(f:Nat->Nat){n:Nat}(h:n<=9):Vg.splice (ws (fun _=>0) 9) 0 (((ws f 11).drop 0).take n)=ws (fun j=>if j<n then f j else 0) 9:=by
 obtain rfl|rfl|rfl|rfl|rfl|rfl|rfl|rfl|rfl|rfl:n=0\/n=1\/n=2\/n=3\/n=4\/n=5\/n=6\/n=7\/n=8\/n=9:=by omega
 all_goals rfl
end Go.Vg
namespace Go.Proofs.YtfocopihipejfaaGreat
open Go.Vg Go.RowKit
set_option maxRecDepth 200000
set_option cbv.maxSteps 100000000
theorem Ie{P:Program}(hP:P=Tryz.prog)(m rr:Nat->Nat)(n less:Nat)(dr:Mo m n less rr)(a b r:Nat->Nat)(ha:Wn 9 a)(hb:Wn 9 b)(hr:Wn 9 r)(sR:V 9 a<V 9 m)(n_:V 9 b<V 9 m)(yN:V 9 r<V 9 m)(cG:V 9 r*0x10000000000000000^n%V 9 m=V 9 a*V 9 b%V 9 m):
 ah P 151 [.ptr 0 0,.agg (ws a 9),.agg (ws b 9)] [⟨0,nE m n less rr,220⟩] 1 [] (fun v _ _=>v= .agg (ws r 9)):=by
 have n9:=dr.n9
 have Gb:=dr.vm (aE _)
 have SE:=dr.vm (ku n_)
 have hVa:=dr.vm (ku sR)
 obtain⟨Mv,M9⟩:=aa (V 9 m)
 obtain⟨Bv,hBv⟩:=aa (V 9 b)
 obtain⟨Pn,zZ⟩:=aa (0x10000000000000000^n)
 have hMP:Mv<Pn:=by rw[M9,zZ];exact dr.mn
 have Sf:=dr.l
 have DW:=dr.low
 have yD:=dr.co
 have wm:=dr.wm
 rw[<-M9]at Gb n_ sR yN cG DW yD
 rw[<-hBv]at SE n_ cG
 rw[<-zZ]at cG yD
 have hBP:Bv<Pn:=by omega
 have FZ:0x10000000000000000^(n+2)=Pn*0x10000000000000000*0x10000000000000000:=by rw[br,br,zZ]
 clear dr
 refine aq hP Tryz.func151 (ak _ rfl) (aD rfl) ?_
 intro A g K hA hg hK
 obtain⟨bin,_,cmp,_,_,ix,_,_,fQ,_,_,_,_,_,_,off⟩:=A
 have fa:=fun(i:Nat) (h:i<9)=>ei hA .u64 (n:=9) a h
 have gZ:=fun(f:Nat->Nat) (i:Nat) (h:i<11)=>ei hA .u64 (n:=11) f h
 have sD:=fun(f f':Nat->Nat) (i v:Nat) (h:i<9) (e:f'=(fun j=>if j=i then v else f j))=>gX hA .u64 (n:=9) f f' h e
 have f1:∀i,i<n->cmp .lss (.ofNat i) (.ofNat n)=true:=fun i h=>cZ hA h
 have iD:cmp .lss (.ofNat n) (.ofNat n)=false:=bM hA (by omega)
 have f19:∀i,i<9->cmp .lss (.ofNat i) 9=true:=fun i h=>cZ hA (b:=9) h
 have aaf:cmp .lss (.ofNat 9) 9=false:=bM hA (b:=9) (by omega)
 have f2:∀i,i<9->ix (.ofNat i) 9=some i:=fun i h=>bB hA h
 have iq:∀i,i<11->ix (.ofNat i) 11=some i:=fun i h=>bB hA h
 have f3:∀i,off 0 i 1=i:=fun i=>(dh hA 0 i 1).trans (by omega)
 have f6:∀i,i<10->bin .add .i64 (.ofNat i) 1=Int.ofNat (i+1):=fun i h=>gP hA (by omega)
 have f8:∀x y,bin .mul .u64 (.ofNat x) (.ofNat y)=Int.ofNat (x*y%0x10000000000000000):=fun x y=>EA hA (k:= .u64) rfl x y
 have cS:fQ true=false:=ln hA true
 have ko:fQ false=true:=ln hA false
 simp only[aw,Nat.reduceAdd,du,cM]at fa gZ sD
 cbv
 refine bH (Nat×(Nat->Nat)) (fun s=>s.1<=n/\Wn 11 s.2/\(∀j,n<j->s.2 j=0)/\V (n+1) s.2<Mv+Bv/\V (n+1) s.2*0x10000000000000000^s.1%Mv=V s.1 a*Bv%Mv) (fun s=>n-s.1) (fun s=> [(18,.int .i64 (.ofNat s.1))]) [0,4,5,6,7,17] (fun s=> [(4,ws s.2 11)]) (0,fun _=>0) ⟨bf _,fun _ _=>by show 0<0x10000000000000000;decide,fun _ _=>rfl,?_,?_⟩ ?_ ?_
 ·show V (n+1) (fun _=>0)<Mv+Bv
  rw[YI];omega
 ·show V (n+1) (fun _=>0)*0x10000000000000000^0%Mv=V 0 a*Bv%Mv
  rw[YI,fE,show V 0 a=0 from rfl,fE]
 ·exact a_
 rintro⟨i,f⟩ ⟨hi,hf,Gg,Jw,Jx⟩
 have hi:i<=n:=hi
 have hf:Wn 11 f:=hf
 have Gg:∀j,n<j->f j=0:=Gg
 have Jw:V (n+1) f<Mv+Bv:=Jw
 have Jx:V (n+1) f*0x10000000000000000^i%Mv=V i a*Bv%Mv:=Jx
 have pt:V (n+2) f=V (n+1) f:=by rw[iX f (n+1),Gg (n+1) (by omega),fE,gY]
 by_cases ab:i<n
 ·have i9:i<9:=by omega
  have ajo:=Dg.afk Jw hMP hBP (ha i i9) (show 2<=0x10000000000000000 by decide)
  have zT:=agS hP (ty:=271) m b f rr n less (a i) wm hb hf n9 (ha i i9) (by rw[pt,<-SE,FZ];exact ajo)
  cbv
  rw[f1 i ab]
  cbv
  rw[f2 i i9]
  cbv
  rw[f3 i,fa i i9]
  cbv
  refine gQ rfl hg rfl rfl zT (fun l=>if l=1 then 4 else l) rfl ⟨rfl,rfl,rfl,trivial⟩ rfl rfl rfl ?_
  rintro _ _ _ ⟨s1,jg,qv,gD,rfl,rfl⟩ _
  rw[pt,<-SE]at gD
  obtain⟨q,hq⟩:=aa (s1 0*less%0x10000000000000000)
  have oq:q<0x10000000000000000:=by rw[hq];exact ax _ (by decide)
  have abp:s1 0=V (n+2) s1%0x10000000000000000:=by
   rw[HM (n+1),tR,aO (jg 0 (by decide))]
  have ajp:=Dg.afl Jw hMP hBP (ha i i9) (show 2<=0x10000000000000000 by decide) oq
  have zU:=agT hP (ty:=271) m s1 rr n less q wm jg n9 oq (by rw[gD,<-Gb,FZ];exact ajp)
  have e8:=f8 (s1 0) less
  rw[<-hq]at e8
  cbv
  refine cf hP hA hg fun mk _=> ?_
  cbv
  rw[e8]
  cbv
  refine gQ rfl hg rfl rfl zU (fun l=>if l=1 then 4 else l) rfl ⟨rfl,rfl,trivial⟩ rfl rfl rfl ?_
  rintro _ _ _ ⟨s2,gk,Et,mK,rfl,rfl⟩ _
  rw[<-Gb]at mK
  have akf:s2 0=0:=by
   have h1:s2 0=V (n+2) s2%0x10000000000000000:=by
    rw[HM (n+1),tR,aO (gk 0 (by decide))]
   rw[h1,mK,hq,abp]
   exact Dg.UJ DW
  obtain⟨f',aT⟩:=aa (fun j=>if j<10 then s2 (j+1)else 0:Nat->Nat)
  have ajL:V (n+1) f'*0x10000000000000000=V (n+2) s2:=by
   rw[HM (n+1),akf,dB]
   congr 1
   exact Dg.jP (n+1) fun j hj=>by rw[aT];exact aj (by omega)
  obtain⟨k1,k2⟩:=Dg.alx (by decide) (ha i i9) Jw Jx gD (by rw[hq,abp]) mK ajL
  have g6:=f6 i (by omega)
  cbv
  refine tG (hP▸aI) hA hg (hP▸mixed) rfl rfl [(2,[])] rfl ?_
  cbv
  refine eV (sI hg rfl rfl rfl rfl rfl (za (hP▸aI) (show av 271=some _ from rfl) rfl 4 0)) ?_
  cbv
  refine eV (sI hg rfl rfl rfl rfl rfl (adJ (hP▸aI) (show av 271=some _ from rfl) rfl 4 0 (k:= .i64) (j:=1) (by decide))) ?_
  cbv
  refine V8 (hP▸aI) hg rfl rfl (show av 125=some _ from rfl) rfl (show ev _ _=some (.slice 4 0 11 11)from rfl) (show find _ 4=some _ from rfl) rfl (show ev _ _=some (.slice 4 1 10 10)from rfl) (show find _ 4=some _ from rfl) (by exact aE 11) rfl (by decide) (by exact vu 10) ?_
  cbv
  rw[g6]
  refine⟨(i+1,f'),id,⟨ab,?_,?_,k1,?_⟩,(by show n-(i+1)<n-i;omega),?_⟩
  ·intro j hj
   show f' j<_
   rw[aT]
   show(if j<10 then s2 (j+1)else 0)<_
   split
   ·exact gk (j+1) (by omega)
   ·decide
  ·intro j hj
   show f' j=0
   rw[aT]
   show(if j<10 then s2 (j+1)else 0)=0
   split
   ·rw[Et (j+1) (by omega),qv (j+1) (by omega),Gg (j+1) (by omega)]
   ·rfl
  ·show V (n+1) f'*0x10000000000000000^(i+1)%Mv=V (i+1) a*Bv%Mv
   rw[k2];rfl
  ·rw[aT]
   exact a_
 ·obtain rfl:i=n:=by omega
  rw[<-hVa,<-zZ]at Jx
  obtain⟨o,ho⟩:=aa (fun j=>if j<i then f j else 0:Nat->Nat)
  have wo:Wn 9 o:=fun j hj=>by
   rw[ho]
   show(if j<i then f j else 0)<_
   split
   ·exact hf j (by omega)
   ·decide
  have BQ:V 9 o=V i f:=by
   have h1:=Dg.rM (b:=0x10000000000000000) o i (9-i) (fun j h1 h2=>by rw[ho];exact af (by omega))
   rw[show i+(9-i)=9 by omega]at h1
   rw[show V 9 o=Dg.num 0x10000000000000000 o 9 from rfl,h1]
   exact Dg.jP i fun j hj=>by rw[ho];exact aj hj
  obtain⟨Ov,IZ⟩:=aa (V 9 o)
  have hT:V (i+1) f=Ov+f i*Pn:=by rw[iX,IZ,BQ,zZ]
  have hOP:Ov<Pn:=by rw[IZ,BQ,zZ];exact eg fun j hj=>hf j (by omega)
  have hP9:Pn<=0x10000000000000000^9:=by rw[zZ];exact cV (by decide) n9
  obtain⟨P9,Nc⟩:=aa (0x10000000000000000^9)
  have hdP:Pn∣P9:=by rw[zZ,Nc];exact Nat.pow_dvd_pow _ n9
  obtain⟨d,wd,ob⟩:=cD 9 ((Ov+P9-Mv)%P9) (by rw[Nc];exact ax _ (ew (by decide)))
  rw[<-Nc]at hP9
  obtain⟨un,kX⟩:=aa (decide (Ov<Mv))
  have F6:=Dh hP o m d wo wm wd un (by rw[ob,IZ,M9,Nc]) (by rw[kX,IZ,M9])
  have Tc:f i=0\/f i=1:=by
   rcases Nat.lt_or_ge (f i) 2 with h|h
   ·omega
   ·have:=ea Pn h
    omega
  obtain⟨kq,ry⟩:=Dg.alw (r:=if Mv<=Ov+f i*Pn then Ov+f i*Pn-Mv else Ov+f i*Pn) (a:=V 9 a) (b:=Bv) (R:=Pn) (m:=Mv) (by rw[<-hT];exact Jx) (by omega) rfl
  have mH:V 9 r=if Mv<=Ov+f i*Pn then Ov+f i*Pn-Mv else Ov+f i*Pn:=Dg.ag_ yD yN kq (by rw[cG,ry])
  have e9:cmp .neq (.ofNat (f i)) 0=decide (f i≠0):=by
   rcases Nat.eq_zero_or_pos (f i)with h|h
   ·rw[h];exact ow hA (a:=0) (b:=0) rfl
   ·rw[eh (by omega)];exact yX hA (b:=0) (by omega)
  cbv
  rw[iD]
  cbv
  refine tG (hP▸aI) hA hg (hP▸mixed) rfl rfl [(7,[])] rfl ?_
  cbv
  refine eV (sI hg rfl rfl rfl rfl rfl (za (hP▸aI) (show av 29=some _ from rfl) rfl 5 0)) ?_
  cbv
  refine eV (sI hg rfl rfl rfl rfl rfl (VW (hP▸aI) (show av 271=some _ from rfl) rfl 4 0 (k:= .i64) (j:=i) (by omega))) ?_
  cbv
  refine V8 (cs:=ws (fun _=>0) 9) (ds:=ws f 11) (hP▸aI) hg rfl rfl (show av 125=some _ from rfl) rfl (show ev _ _=some (.slice 5 0 9 9)from rfl) (show find _ 5=some _ from rfl) rfl (show ev _ _=some (.slice 4 0 i 11)from rfl) (show find _ 4=some _ from rfl) (by show 0+i<=11;omega) (by rw[lh];exact aeP _ _ _) (by omega) (by show 0+i<=9;omega) ?_
  rw[ahz f n9,<-ho]
  cbv
  refine cm hP hA hg ?_
  cbv
  refine bN hg F6 ?_
  have g2:=iq i (by omega)
  have gz:=gZ f i (by omega)
  have eF:(f i=0/\un=true)\/(f i=0/\un=false)\/f i=1:=by
   cases un with
   |true=>rcases Tc with h|h;exact Or.inl ⟨h,rfl⟩;exact Or.inr (Or.inr h)
   |false=>rcases Tc with h|h;exact Or.inr (Or.inl ⟨h,rfl⟩);exact Or.inr (Or.inr h)
  rcases eF with⟨h0,hu⟩|eF
  ·rw[h0]at e9 gz
   rw[da (by decide)]at e9
   subst hu
   cbv
   rw[g2]
   cbv
   rw[f3 i,gz]
   cbv
   rw[e9]
   cbv
   rw[cS]
   cbv
   refine hK _ _ _ (aK SV.agg (kx wo hr ?_))
   have Al:Ov<Mv:=KT kX.symm
   rw[mH,h0,fE,gY,af (by omega),IZ]
  have Ng:Mv<=Ov+f i*Pn:=by
   rcases eF with⟨h,hu⟩|h
   ·rw[hu]at kX
    have:=of_decide_eq_false kX.symm
    omega
   ·rw[h];omega
  have hVd:V i d=V 9 r:=by
   have h1:=Dg.yZ (b:=0x10000000000000000) d i (9-i)
   rw[show i+(9-i)=9 by omega]at h1
   have h2:V i d<0x10000000000000000^i:=eg fun j hj=>wd j (by omega)
   have h3:V 9 d%0x10000000000000000^i=V i d:=by
    rw[show V 9 d=V i d+V (9-i) (fun j=>d (i+j))*0x10000000000000000^i from h1,tR,aO h2]
   rw[<-h3,ob,<-zZ,HH _ hdP,mH,aj Ng]
   obtain⟨c,hc⟩:=hdP
   rw[aj Ng]at kq
   rcases Tc with h|h
   ·rw[h,fE,gY]at Ng kq⊢
    rw[show Ov+P9-Mv=Ov-Mv+Pn*c by omega,CO,aO (by omega)]
   ·rw[h,fN]at Ng kq⊢
    have eA:1<=c:=by
     rcases Nat.eq_zero_or_pos c with h0|h0
     ·rw[h0,L7]at hc;omega
     ·exact h0
    have dP:Pn*c=Pn*(c-1)+Pn:=by
     obtain⟨c',rfl⟩:∃c',c=c'+1:=⟨c-1,by omega⟩
     rw[oC,Yz]
    rw[show Ov+P9-Mv=Ov+Pn-Mv+Pn*(c-1) by omega,CO,aO (by omega)]
  rcases eF with⟨h0,hu⟩|h0
  ·rw[h0]at e9 gz
   rw[da (by decide)]at e9
   subst hu
   cbv
   rw[g2]
   cbv
   rw[f3 i,gz]
   cbv
   rw[e9]
   cbv
   rw[ko]
   cbv
   refine bH (Nat×(Nat->Nat)) (fun s=>i<=s.1/\s.1<=9/\∀j,s.2 j=if i<=j/\j<s.1 then 0 else d j) (fun s=>9-s.1) (fun s=> [(13,.int .i64 (.ofNat s.1))]) [0,6,11] (fun s=> [(6,ws s.2 9)]) (i,d) ⟨aE _,n9,fun j=>by rw[af (by omega)]⟩ ?_ ?_
   ·exact a_
   rintro⟨k,dd⟩ ⟨dM,fq,lU⟩
   have dM:i<=k:=dM
   have fq:k<=9:=fq
   have lU:∀j,dd j=if i<=j/\j<k then 0 else d j:=lU
   by_cases Ak:k<9
   ·obtain⟨dn,re⟩:=aa (fun j=>if j=k then 0 else dd j:Nat->Nat)
    have e5:=sD dd dn k 0 Ak re
    simp only[show Int.ofNat 0=(0:Int)from rfl]at e5
    cbv
    rw[f19 k Ak]
    cbv
    rw[f2 k Ak]
    cbv
    rw[f3 k,e5]
    cbv
    rw[f6 k (by omega)]
    refine⟨(k+1,dn),id,⟨by show i<=k+1;omega,Ak,fun j=> ?_⟩,(by show 9-(k+1)<9-k;omega),?_⟩
    ·show dn j=if i<=j/\j<k+1 then 0 else d j
     rw[re]
     show(if j=k then 0 else dd j)=_
     rw[lU j]
     by_cases eM:j=k
     ·rw[aj eM,aj (by omega)]
     ·rw[af eM]
      by_cases h2:i<=j/\j<k
      ·rw[aj h2,aj (by omega)]
      ·rw[af h2,af (by omega)]
    ·exact a_
   ·obtain rfl:k=9:=by omega
    cbv
    rw[aaf]
    cbv
    refine hK _ _ _ (aK SV.agg (kx (fun j hj=> ?_) hr ?_))
    ·rw[lU j]
     split
     ·decide
     ·exact wd j hj
    ·rw[<-hVd]
     have h1:=Dg.rM (b:=0x10000000000000000) dd i (9-i) (fun j h1 h2=>by rw[lU j,aj (by omega)])
     rw[show i+(9-i)=9 by omega]at h1
     rw[show V 9 dd=Dg.num 0x10000000000000000 dd 9 from rfl,h1]
     exact Dg.jP i fun j hj=>by rw[lU j,af (by omega)]
  ·rw[h0]at e9 gz
   rw[eh (by decide)]at e9
   cbv
   rw[g2]
   cbv
   rw[f3 i,gz]
   cbv
   rw[e9]
   cbv
   refine bH (Nat×(Nat->Nat)) (fun s=>i<=s.1/\s.1<=9/\∀j,s.2 j=if i<=j/\j<s.1 then 0 else d j) (fun s=>9-s.1) (fun s=> [(13,.int .i64 (.ofNat s.1))]) [0,6,11] (fun s=> [(6,ws s.2 9)]) (i,d) ⟨aE _,n9,fun j=>by rw[af (by omega)]⟩ ?_ ?_
   ·exact a_
   rintro⟨k,dd⟩ ⟨dM,fq,lU⟩
   have dM:i<=k:=dM
   have fq:k<=9:=fq
   have lU:∀j,dd j=if i<=j/\j<k then 0 else d j:=lU
   by_cases Ak:k<9
   ·obtain⟨dn,re⟩:=aa (fun j=>if j=k then 0 else dd j:Nat->Nat)
    have e5:=sD dd dn k 0 Ak re
    simp only[show Int.ofNat 0=(0:Int)from rfl]at e5
    cbv
    rw[f19 k Ak]
    cbv
    rw[f2 k Ak]
    cbv
    rw[f3 k,e5]
    cbv
    rw[f6 k (by omega)]
    refine⟨(k+1,dn),id,⟨by show i<=k+1;omega,Ak,fun j=> ?_⟩,(by show 9-(k+1)<9-k;omega),?_⟩
    ·show dn j=if i<=j/\j<k+1 then 0 else d j
     rw[re]
     show(if j=k then 0 else dd j)=_
     rw[lU j]
     by_cases eM:j=k
     ·rw[aj eM,aj (by omega)]
     ·rw[af eM]
      by_cases h2:i<=j/\j<k
      ·rw[aj h2,aj (by omega)]
      ·rw[af h2,af (by omega)]
    ·exact a_
   ·obtain rfl:k=9:=by omega
    cbv
    rw[aaf]
    cbv
    refine hK _ _ _ (aK SV.agg (kx (fun j hj=> ?_) hr ?_))
    ·rw[lU j]
     split
     ·decide
     ·exact wd j hj
    ·rw[<-hVd]
     have h1:=Dg.rM (b:=0x10000000000000000) dd i (9-i) (fun j h1 h2=>by rw[lU j,aj (by omega)])
     rw[show i+(9-i)=9 by omega]at h1
     rw[show V 9 dd=Dg.num 0x10000000000000000 dd 9 from rfl,h1]
     exact Dg.jP i fun j hj=>by rw[lU j,af (by omega)]
end Go.Proofs.YtfocopihipejfaaGreat
