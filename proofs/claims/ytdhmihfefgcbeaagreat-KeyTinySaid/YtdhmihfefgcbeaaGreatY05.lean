/-
  This text proves what these texts prove: VgP, VgQ, VgR. Conditions: those of each theorem.
-/
import Derived.Test.YtdhmihfefgcbeaaGreatY04
set_option maxHeartbeats 8000000
set_option linter.all false
namespace Go.Vg
open Go.RowKit
theorem maskOf_bit{acc:List Nat}{k:Nat}:∀ {es:List Edge},(maskOf acc es).testBit k=true->∃e∈es,Region.binds .any e=true/\(e.on=k\/(acc.getD e.on 0).testBit k=true)
 | [],h=>by simp[maskOf]at h
 |e::es,h=>by
  simp only[maskOf]at h
  cases hb:Region.binds .any e with
  |false=>
   rw[hb]at h
   obtain⟨e',h1,h2⟩:=maskOf_bit h
   exact⟨e',List.mem_cons_of_mem _ h1,h2⟩
  |true=>
   rw[hb]at h
   simp only[Nat.testBit_or,Bool.or_eq_true]at h
   rcases h with(h|h)|h
   ·rw[Nat.testBit_two_pow]at h
    exact⟨e,List.mem_cons_self,hb,Or.inl (by simpa using h)⟩
   ·exact⟨e,List.mem_cons_self,hb,Or.inr h⟩
   ·obtain⟨e',h1,h2⟩:=maskOf_bit h
    exact⟨e',List.mem_cons_of_mem _ h1,h2⟩
theorem maskL_old:∀ (os:List Oper) (acc:List Nat) (i:Nat),i<acc.length->(maskL acc os).getD i 0=acc.getD i 0
 | [],acc,i,_=>rfl
 |o::os,acc,i,h=>by
  simp only[maskL]
  rw[maskL_old os _ i (by simp;omega)]
  simp[List.getD_eq_getElem?_getD,List.getElem?_append_left h]
theorem maskL_new:∀ (os:List Oper) (acc:List Nat) (i:Nat) (o:Oper),os[i]? =some o->∃acc':List Nat,acc'.length=acc.length+i/\(maskL acc os).getD (acc.length+i) 0=maskOf acc' o.after.toList/\∀j,j<acc'.length->acc'.getD j 0=(maskL acc os).getD j 0
 | [],acc,i,o,h=>by simp at h
 |o'::os,acc,0,o,h=>by
  simp only[List.getElem?_cons_zero,Option.some.injEq]at h
  subst h
  refine⟨acc,by simp,?_,fun j hj=> ?_⟩
  ·simp only[maskL,Nat.add_zero]
   rw[maskL_old os _ _ (by simp)]
   simp[List.getD_eq_getElem?_getD]
  ·simp only[maskL]
   rw[maskL_old os _ j (by simp;omega)]
   simp[List.getD_eq_getElem?_getD,List.getElem?_append_left hj]
 |o'::os,acc,i+1,o,h=>by
  obtain⟨acc',h1,h2,h3⟩:=maskL_new os (acc++[maskOf acc o'.after.toList]) i o (by simpa using h)
  refine⟨acc',by simp at h1;omega,?_,fun j hj=> ?_⟩
  ·simp only[maskL]
   rw[<-h2]
   congr 1
   simp
   omega
  ·simp only[maskL];exact h3 j hj
structure Edges(all:List Oper)(m:List Nat)(fl:Nat->Option Nat)(ck:Nat->Nat->Bool):Prop where
 clos:∀ (i:Nat) (o:Oper) (k:Nat),all[i]? =some o->befB m i k=true->∃e∈o.after,Region.binds .any e=true/\(e.on=k\/befB m e.on k=true)
 back:∀ (i:Nat) (o:Oper) (e:Edge),all[i]? =some o->e∈o.after->Region.binds .any e=true->e.on<i
 dst:∀ (i k:Nat) (o o':Oper) (t:Nat),all[i]? =some o->all[k]? =some o'->i≠k->o'.dst=some t->o.dst≠some t/\(t∈lkOf all o->(k<i/\befB m i k=true)\/(i<k/\befB m k i=true))
 ord:∀ (i k:Nat) (o o':Oper),all[i]? =some o->all[k]? =some o'->i≠k->isStore o'=true->memOf o=true->((k<i/\befB m i k=true)\/(i<k/\befB m k i=true))\/ ∀l,ck k l=true->∃a,fl i=some a/\l≠a
theorem ordB_or{m:List Nat}{i k:Nat}(h:ordB m i k=true):(k<i/\befB m i k=true)\/(i<k/\befB m k i=true):=by
 simp only[ordB,Bool.or_eq_true,Bool.and_eq_true]at h
 rcases h with⟨h1,h2⟩|⟨h1,h2⟩
 ·exact Or.inl ⟨Nat.le_of_ble_eq_true h1,h2⟩
 ·exact Or.inr ⟨Nat.le_of_ble_eq_true h1,h2⟩
theorem Edges.of{all:List Oper}{ck:Nat->Nat->Bool}(h:drawB all=true):Edges all (maskL [] all) (fun _=>none) ck:=by
 have h0:∀i o,all[i]? =some o->(∀e∈o.after,Region.binds .any e=true->e.on<i)/\∀k o',all[k]? =some o'->i≠k->(∀t,o'.dst=some t->o.dst≠some t/\(t∈lkOf all o->ordB (maskL [] all) i k=true))/\(isStore o'=true->memOf o=true->ordB (maskL [] all) i k=true):=by
  intro i o hi
  have hil:i<all.length:=(List.getElem?_eq_some_iff.1 hi).1
  simp only[drawB,List.all_eq_true,List.mem_range]at h
  have h1:=h i hil
  rw[hi]at h1
  simp only[Bool.and_eq_true,List.all_eq_true]at h1
  refine⟨fun e he hb=> ?_,fun k o' hk hik=> ?_⟩
  ·have:=h1.1 e (by simpa using he)
   rw[hb]at this
   simpa using this
  ·have hkl:k<all.length:=(List.getElem?_eq_some_iff.1 hk).1
   have h2:=h1.2 k (List.mem_range.2 hkl)
   rw[hk]at h2
   have hne:Nat.beq i k=false:=by
    cases hb:Nat.beq i k with
    |false=>rfl
    |true=>exact(hik (Nat.eq_of_beq_eq_true hb)).elim
   rw[hne]at h2
   simp only[Bool.false_or,Bool.and_eq_true]at h2
   refine⟨fun t ht=> ?_,fun hs hmm=> ?_⟩
   ·have h3:=h2.1
    rw[ht]at h3
    simp only[Bool.and_eq_true,Bool.not_eq_true',Bool.or_eq_true]at h3
    refine⟨fun e=>by rw[e]at h3;simp at h3,fun hm=> ?_⟩
    rcases h3.2 with h4|h4
    ·rw[memN_iff.2 hm]at h4;cases h4
    ·exact h4
   ·have h3:=h2.2
    rw[hs,hmm]at h3
    simpa using h3
 refine⟨?_,fun i o e hi=>(h0 i o hi).1 e,?_,?_⟩
 ·intro i o k hi hb
  obtain⟨acc',h1,h2,h3⟩:=maskL_new all [] i o hi
  simp only[List.length_nil,Nat.zero_add]at h1 h2
  unfold befB at hb
  rw[h2]at hb
  obtain⟨e,he,hbi,hor⟩:=maskOf_bit hb
  refine⟨e,by simpa using he,hbi,?_⟩
  rcases hor with h4|h4
  ·exact Or.inl h4
  ·right
   have hlt:=(h0 i o hi).1 e (by simpa using he) hbi
   unfold befB
   rw[<-h3 e.on (by omega)]
   exact h4
 ·intro i k o o' t hi hk hik ht
  obtain⟨h1,h2⟩:=((h0 i o hi).2 k o' hk hik).1 t ht
  exact⟨h1,fun hm=>ordB_or (h2 hm)⟩
 ·intro i k o o' hi hk hik hs hm
  exact Or.inl (ordB_or (((h0 i o hi).2 k o' hk hik).2 hs hm))
theorem Edges.ofC{all:List Oper}{F:Nat->Option SV}(h:drawC all=true):Edges all (maskL [] all) (frL all F) (ckC all (maskL [] all) F):=by
 have h0:∀i o,all[i]? =some o->(∀e∈o.after,Region.binds .any e=true->e.on<i)/\∀k o',all[k]? =some o'->i≠k->(∀t,o'.dst=some t->o.dst≠some t/\(t∈lkOf all o->ordB (maskL [] all) i k=true))/\(isStore o'=true->memOf o=true->ordB (maskL [] all) i k=true\/(freeL all o).isSome=true):=by
  intro i o hi
  have hil:i<all.length:=(List.getElem?_eq_some_iff.1 hi).1
  simp only[drawC,List.all_eq_true,List.mem_range]at h
  have h1:=h i hil
  rw[hi]at h1
  simp only[Bool.and_eq_true,List.all_eq_true]at h1
  refine⟨fun e he hb=> ?_,fun k o' hk hik=> ?_⟩
  ·have:=h1.1 e (by simpa using he)
   rw[hb]at this
   simpa using this
  ·have hkl:k<all.length:=(List.getElem?_eq_some_iff.1 hk).1
   have h2:=h1.2 k (List.mem_range.2 hkl)
   rw[hk]at h2
   have hne:Nat.beq i k=false:=by
    cases hb:Nat.beq i k with
    |false=>rfl
    |true=>exact(hik (Nat.eq_of_beq_eq_true hb)).elim
   rw[hne]at h2
   simp only[Bool.false_or,Bool.and_eq_true]at h2
   refine⟨fun t ht=> ?_,fun hs hmm=> ?_⟩
   ·have h3:=h2.1
    rw[ht]at h3
    simp only[Bool.and_eq_true,Bool.not_eq_true',Bool.or_eq_true]at h3
    refine⟨fun e=>by rw[e]at h3;simp at h3,fun hm=> ?_⟩
    rcases h3.2 with h4|h4
    ·rw[memN_iff.2 hm]at h4;cases h4
    ·exact h4
   ·have h3:=h2.2
    rw[hs,hmm]at h3
    simpa using h3
 refine⟨?_,fun i o e hi=>(h0 i o hi).1 e,?_,?_⟩
 ·intro i o k hi hb
  obtain⟨acc',h1,h2,h3⟩:=maskL_new all [] i o hi
  simp only[List.length_nil,Nat.zero_add]at h1 h2
  unfold befB at hb
  rw[h2]at hb
  obtain⟨e,he,hbi,hor⟩:=maskOf_bit hb
  refine⟨e,by simpa using he,hbi,?_⟩
  rcases hor with h4|h4
  ·exact Or.inl h4
  ·right
   have hlt:=(h0 i o hi).1 e (by simpa using he) hbi
   unfold befB
   rw[<-h3 e.on (by omega)]
   exact h4
 ·intro i k o o' t hi hk hik ht
  obtain⟨h1,h2⟩:=((h0 i o hi).2 k o' hk hik).1 t ht
  exact⟨h1,fun hm=>ordB_or (h2 hm)⟩
 ·intro i k o o' hi hk hik hs hm
  rcases((h0 i o hi).2 k o' hk hik).2 hs hm with h1|h1
  ·exact Or.inl (ordB_or h1)
  ·cases hb:ordB (maskL [] all) i k with
   |true=>exact Or.inl (ordB_or hb)
   |false=>
    right
    intro l hl
    obtain⟨t,ht⟩:=Option.isSome_iff_exists.1 h1
    simp only[ckC,List.all_eq_true,List.mem_range]at hl
    have h2:=hl i (List.getElem?_eq_some_iff.1 hi).1
    rw[hi]at h2
    simp only[ht,hb,Bool.false_or]at h2
    cases hlab:labS F t with
    |none=>rw[hlab]at h2;cases h2
    |some a=>
     rw[hlab]at h2
     refine⟨a,by simp[frL,hi,ht,hlab],fun e=> ?_⟩
     subst e
     simp at h2
section
variable {P:Program}{g:G}{T:Nat->Option Ty}
def Case(T:Nat->Option Ty)(P:Program)(g:G)(all:List Oper)(o:Oper)(e:E)(Ft:Nat->Option SV)(V:Nat->Option Blk):Prop:=
 ((∃x,o.guard=none\/ ∃j oj d,o.guard=some (j,x)/\all[j]? =some oj/\oj.dst=some d/\d∈lkOf all o/\Ft d=some (.bool x))/\
    ((∃v,Runs T Ft V o.op (.val v)/\e=⟨o.dst,v,[],none⟩)\/(∃f cs t k,Runs T Ft V o.op (.new f cs t)/\e=⟨o.dst,f k,[⟨k,cs,t⟩],none⟩)\/
      (∃l q vs b,Runs T Ft V o.op (.wr l q vs)/\V l=some b/\own g.n0 g.ms l=true/\e=⟨o.dst,.raw undef,[],some (l,q,vs)⟩)\/(∃v nw,EN g P o Ft (selM o V) v nw/\e=⟨o.dst,v,nw,none⟩)))\/
    ((∃j x oj d,o.guard=some (j,!x)/\all[j]? =some oj/\oj.dst=some d/\d∈lkOf all o/\Ft d=some (.bool x))/\e=⟨o.dst,.raw undef,[],none⟩)
theorem Runs.wr_store{op:Op}{F:Nat->Option SV}{L:Nat->Option Blk}{l q:Nat}{vs:List SV}(h:Runs T F L op (.wr l q vs)):∃t x y,op= .store t x y:=by
 cases h
 exact⟨_,_,_,rfl⟩
def visV(fl:Nat->Option Nat)(i:Nat)(V:Nat->Option Blk)(l:Nat):Option Blk:=
 match fl i with
 |none=>V l
 |some a=>if l=a then V l else none
theorem visV_none{fl:Nat->Option Nat}{i:Nat}(h:fl i=none)(V:Nat->Option Blk):visV fl i V=V:=by
 funext l;simp only[visV,h]
theorem load_vis{F:Nat->Option SV}{M V:Nat->Option Blk}{t x a:Nat}{e:Eff}(hr:Runs T F M (.load t (.tmp x)) e)(hlab:labS F x=some a)(h:V a=M a):Runs T F V (.load t (.tmp x)) e:=by
 generalize hop:Op.load t (.tmp x)=op at hr
 cases hr with
 |val hn hv=>
  subst hop
  refine .val hn ?_
  have hx:ev F (.tmp x)=F x:=rfl
  simp only[valV,hx]at hv⊢
  unfold labS at hlab
  cases hF:F x with
  |none=>rw[hF]at hlab;cases hlab
  |some v=>
   rw[hF]at hlab hv
   simp only at hv⊢
   cases hT:T t with
   |none=>rw[hT]at hv;cases hv
   |some i=>
    rw[hT]at hv
    simp only at hv⊢
    cases v with
    |ptr l o=>simp only[Option.some.injEq]at hlab;subst hlab;simp only[rd,h]at hv⊢;exact hv
    |ptrS l o=>simp only[Option.some.injEq]at hlab;subst hlab;simp only[rd,h]at hv⊢;exact hv
    |_=>simp at hlab
 |_=>cases hop
theorem vcOp_load{F:FF}{L:LL}{n n0:Nat}{ms:List Nat}{o:Oper}{S:Prop}{Kv:FF->Prop}{Kn:FF->Blk->Prop}{Kw:FF->Nat->List SV->Prop}{t:Nat}{x:Operand}(hop:o.op= .load t x)(h:vcOpG T Ar.real n0 ms S Kv Kn Kw o F L n):
 ∃v,Runs T (look F) (find L) o.op (.val v)/\Kv (putO F o.dst v):=by
 unfold vcOpG at h
 rw[hop]at h⊢
 simp only[native]at h
 cases hv:valV Ar.real T (look F) (find L) (.load t x)with
 |none=>rw[hv]at h;exact h.elim
 |some v=>rw[hv]at h;exact⟨v,.val rfl hv,h⟩
theorem vcOp_cases2{F:FF}{L:LL}{n n0:Nat}{ms:List Nat}{o:Oper}{S p:Prop}{Kv:FF->Prop}{Kn:FF->Blk->Prop}{Kw:FF->Nat->List SV->Prop}(hor:p\/ ∃t x,o.op= .load t x)(h:vcOpG T Ar.real n0 ms S Kv Kn Kw o F L n):
 (p/\S)\/(∃v,Runs T (look F) (find L) o.op (.val v)/\Kv (putO F o.dst v))\/(∃f cs t,Runs T (look F) (find L) o.op (.new f cs t)/\Kn (putO F o.dst (f n)) ⟨n,cs,t⟩)\/
 (∃l q vs b,Runs T (look F) (find L) o.op (.wr l q vs)/\find L l=some b/\own n0 ms l=true/\Kw (putO F o.dst (.raw undef)) l (splice b.cs q vs)):=by
 rcases hor with hp|⟨t,x,hop⟩
 ·rcases vcOp_cases h with h|h
  ·exact Or.inl ⟨hp,h⟩
  ·exact Or.inr h
 ·exact Or.inr (Or.inl (vcOp_load hop h))
theorem Runs.quiet_new{o:Oper}{F:Nat->Option SV}{L:Nat->Option Blk}{f:Nat->SV}{cs:List SV}{t:Nat}(h:Runs T F L o.op (.new f cs t))(hq:quiet o=true):False:=by
 unfold quiet at hq
 generalize o.op=op at h hq
 cases h<;>simp at hq
theorem vcOp_cases3{F:FF}{L:LL}{n n0:Nat}{ms:List Nat}{o:Oper}{S p:Prop}{Kv:FF->Prop}{Kn:FF->Blk->Prop}{Kw:FF->Nat->List SV->Prop}(hor:p\/ ∃t x,o.op= .load t x)(h:vcOpG T Ar.real n0 ms S Kv Kn Kw o F L n):
 ((p/\quiet o=false)/\S)\/(∃v,Runs T (look F) (find L) o.op (.val v)/\Kv (putO F o.dst v))\/(∃f cs t,Runs T (look F) (find L) o.op (.new f cs t)/\Kn (putO F o.dst (f n)) ⟨n,cs,t⟩)\/
 (∃l q vs b,Runs T (look F) (find L) o.op (.wr l q vs)/\find L l=some b/\own n0 ms l=true/\Kw (putO F o.dst (.raw undef)) l (splice b.cs q vs)):=by
 cases hq:quiet o with
 |false=>
  rcases vcOp_cases2 hor h with⟨hp,hs⟩|h
  ·exact Or.inl ⟨⟨hp,rfl⟩,hs⟩
  ·exact Or.inr h
 |true=>
  right;left
  unfold quiet at hq
  unfold vcOpG at h
  cases ho:o.op with
  |move _|assign _|load _ _|fieldAddr _ _ _|nilCheck _|extract _ _=>
   rw[ho]at h
   simp only[native]at h
   split at h
   ·rename_i v hv
    exact⟨v,.val rfl hv,h⟩
   ·exact h.elim
  |_=>rw[ho]at hq;simp at hq
theorem vcT_run{sk:Nat->Bool}{all:List Oper}{m:List Nat}{fl:Nat->Option Nat}{ck:Nat->Nat->Bool}(hE:Edges all m fl ck){F0:FF}{B0:LL}{nS:Nat}{K:FF->LL->NL->Nat->Prop}(hfl:∀i a,fl i=some a->∃o t x,all[i]? =some o/\o.op= .load t (.tmp x)/\(∀o'∈all,o'.dst≠some x)/\labS (look F0) x=some a):∀ (rest:List Oper) (done:List E) (F:FF) (B:LL) (N:NL) (n:Nat),(∃tl,all.drop done.length=rest++tl)->Told done F0 B0 nS F B N n->
 (∀ (k:Nat) (e:E),done[k]? =some e->∃o,all[k]? =some o/\(∀t,e.d=some t->o.dst=some t)/\∀l q vs,e.w=some (l,q,vs)->isStore o=true/\ck k l=true)->vcT T Ar.real P g g.n0 g.ms ck sk all m K rest done.length F B N n->
 ∃ (es:List E) (F':FF) (B':LL) (N':NL) (n':Nat) (nnf:Nat->Nat),es.length=rest.length/\Told (done++es) F0 B0 nS F' B' N' n'/\K F' B' N' n'/\nnf 0=n/\
   (∀ (j:Nat) (e:E) (o:Oper),es[j]? =some e->rest[j]? =some o->((sk (done.length+j)=false/\e.d=o.dst/\(e.w≠none->isStore o=true/\memOf o=true)/\Case T P g all o e (FD (done++es.take j) (fun _=>true) (look F0)) (visV fl (done.length+j) (LD (done++es.take j) (befB m (done.length+j)) (find B0))))\/(sk (done.length+j)=true/\e=⟨none,.nilp,[],none⟩))/\
    (∀l q vs,e.w=some (l,q,vs)->(∃b,LD (done++es.take j) (befB m (done.length+j)) (find B0) l=some b)/\ck (done.length+j) l=true)/\(∀b∈e.nw,nnf j<=b.l/\b.l<nnf (j+1))/\nnf j<=nnf (j+1)/\(quiet o=true->e.nw=[]/\e.w=none)):=by
 intro rest
 induction rest with
 |nil=>
  intro done F B N n _ ht _ h
  exact⟨[],F,B,N,n,fun _=>n,rfl,by simpa using ht,h,rfl,fun j e o hj=>by simp at hj⟩
 |cons o rest ih=>
  intro done F B N n hdrop ht hst h
  obtain⟨tl,hdrop⟩:=hdrop
  have hoi:all[done.length]? =some o:=by
   have:=congrArg (fun l=>l[0]?) hdrop
   simpa using this
  have hdrop':all.drop (done.length+1)=rest++tl:=by
   have:=congrArg (List.drop 1) hdrop
   simpa [Nat.add_comm]using this
  have hV:memOf o=true->∀l,(fl done.length=none\/fl done.length=some l)->LD done (befB m done.length) (find B0) l=find (B++filN m done.length N) l:=by
   intro hm l hor
   rw[filN_eq]
   refine ht.bl _ l (fun k e q vs hk hw=> ?_)
   obtain⟨o',ho',_,hst'⟩:=hst k e hk
   obtain⟨hs,hck⟩:=hst' l q vs hw
   have hkl:k<done.length:=(List.getElem?_eq_some_iff.1 hk).1
   rcases hE.ord _ _ _ _ hoi ho' (by omega) hs hm with(⟨_,h2⟩|⟨h1,_⟩)|h3
   ·exact h2
   ·omega
   ·obtain⟨a,ha,hne⟩:=h3 l hck
    rcases hor with h|h
    ·rw[h]at ha;cases ha
    ·rw[h]at ha;exact(hne (Option.some.inj ha)).elim
  have conv:∀ {e:Eff},Runs T (look F) (find (B++filN m done.length N)) o.op e->Runs T (FD done (fun _=>true) (look F0)) (visV fl done.length (LD done (befB m done.length) (find B0))) o.op e:=by
   intro e hr
   cases hf:fl done.length with
   |none=>
    rw[<-ht.fr,visV_none hf]
    exact hr.congr (fun _ _=>rfl) (fun hm l b hl=>by rw[hV hm l (Or.inl hf)];exact hl)
   |some a=>
    obtain⟨o',t,x,ho',hop,hx,hlab⟩:=hfl _ _ hf
    rw[hoi]at ho'
    obtain rfl:=Option.some.inj ho'
    have hFx:look F x=look F0 x:=by
     rw[ht.fr]
     refine ft_none fun k e h1 _=> ?_
     obtain⟨o'',h2,h3,_⟩:=hst k e h1
     intro h4
     exact hx o'' (List.mem_of_getElem? h2) (h3 _ h4)
    have hlab':labS (look F) x=some a:=by unfold labS at hlab⊢;rw[hFx];exact hlab
    rw[<-ht.fr]
    rw[hop]at hr⊢
    refine load_vis hr hlab' ?_
    simp only[visV,hf,if_true]
    exact hV (by simp[memOf,hop]) a (Or.inr hf)
  -- one operation's effect, then the rest
  have step:∀ (e:E) (F1:FF) (B1:LL) (N1:NL) (n1:Nat),((sk done.length=false/\e.d=o.dst/\(e.w≠none->isStore o=true/\memOf o=true)/\Case T P g all o e (FD done (fun _=>true) (look F0)) (visV fl done.length (LD done (befB m done.length) (find B0))))\/(sk done.length=true/\e=⟨none,.nilp,[],none⟩))->
   (∀l q vs,e.w=some (l,q,vs)->(∃b,LD done (befB m done.length) (find B0) l=some b)/\ck done.length l=true)->(quiet o=true->e.nw=[]/\e.w=none)->(∀b∈e.nw,n<=b.l/\b.l<n1)->n<=n1->Told (done++[e]) F0 B0 nS F1 B1 N1 n1->
   vcT T Ar.real P g g.n0 g.ms ck sk all m K rest (done.length+1) F1 B1 N1 n1->∃ (es:List E) (F':FF) (B':LL) (N':NL) (n':Nat) (nnf:Nat->Nat),es.length=(o::rest).length/\Told (done++es) F0 B0 nS F' B' N' n'/\K F' B' N' n'/\nnf 0=n/\
   (∀ (j:Nat) (e:E) (o':Oper),es[j]? =some e->(o::rest)[j]? =some o'->((sk (done.length+j)=false/\e.d=o'.dst/\(e.w≠none->isStore o'=true/\memOf o'=true)/\Case T P g all o' e (FD (done++es.take j) (fun _=>true) (look F0)) (visV fl (done.length+j) (LD (done++es.take j) (befB m (done.length+j)) (find B0))))\/(sk (done.length+j)=true/\e=⟨none,.nilp,[],none⟩))/\
    (∀l q vs,e.w=some (l,q,vs)->(∃b,LD (done++es.take j) (befB m (done.length+j)) (find B0) l=some b)/\ck (done.length+j) l=true)/\(∀b∈e.nw,nnf j<=b.l/\b.l<nnf (j+1))/\nnf j<=nnf (j+1)/\(quiet o'=true->e.nw=[]/\e.w=none)):=by
   intro e F1 B1 N1 n1 h1 h4 hqt h5 h6 h7 h8
   obtain⟨es,F',B',N',n',nnf,k1,k2,k3,k4,k5⟩:=ih (done++[e]) F1 B1 N1 n1 ⟨tl,by simpa using hdrop'⟩ h7 (fun k e' hk=>by
    by_cases hlt:k<done.length
    ·rw[List.getElem?_append_left hlt]at hk
     exact hst k e' hk
    ·rw[List.getElem?_append_right (by omega)]at hk
     cases hkk:k-done.length with
     |zero=>
      rw[hkk]at hk
      simp only[List.getElem?_cons_zero,Option.some.injEq]at hk
      subst hk
      have hk':k=done.length:=by omega
      refine⟨o,by rw[hk'];exact hoi,fun t ht=> ?_,fun l q vs hw=>⟨?_,by rw[hk'];exact(h4 l q vs hw).2⟩⟩
      ·rcases h1 with h1|h1
       ·rw[<-h1.2.1];exact ht
       ·rw[h1.2]at ht;cases ht
      ·rcases h1 with h1|h1
       ·exact(h1.2.2.1 (by rw[hw];simp)).1
       ·rw[h1.2]at hw;cases hw
     |succ j=>rw[hkk]at hk;simp at hk) (by simpa using h8)
   refine⟨e::es,F',B',N',n',fun j=>if j=0 then n else nnf (j-1),by simp[k1],by simpa using k2,k3,rfl,?_⟩
   intro j e' o' hj ho'
   cases j with
   |zero=>
    simp only[List.getElem?_cons_zero,Option.some.injEq]at hj ho'
    subst hj ho'
    refine⟨by simpa using h1,by simpa using h4,?_,?_,hqt⟩
    ·intro b hb
     have:=h5 b hb
     simp only[if_true,Nat.zero_add,Nat.one_ne_zero,if_false,Nat.sub_self,k4]
     exact this
    ·simp only[if_true,Nat.zero_add,Nat.one_ne_zero,if_false,Nat.sub_self,k4]
     exact h6
   |succ j=>
    have:=k5 j e' o' (by simpa using hj) (by simpa using ho')
    simp only[List.take_succ_cons,List.length_append,List.length_cons,List.length_nil,List.append_assoc,List.cons_append,List.nil_append]at this⊢
    rw[show done.length+(0+1)+j=done.length+(j+1) by omega]at this
    refine⟨this.1,this.2.1,?_,?_,this.2.2.2.2⟩
    ·simpa using this.2.2.1
    ·simpa using this.2.2.2.1
  simp only[vcT,vcR]at h
  cases hsk:sk done.length with
  |true=>
   simp only[hsk]at h
   refine step ⟨none,.nilp,[],none⟩ F B N n (Or.inr ⟨hsk,rfl⟩) (fun _ _ _ h=>by cases h) (fun _=>⟨rfl,rfl⟩) (fun b hb=>by cases hb) (Nat.le_refl n) ?_ h
   exact ht.val (d:=none) (v:= .nilp)
  |false=>
  simp only[hsk]at h
  have exec:(∃x,o.guard=none\/ ∃j oj d,o.guard=some (j,x)/\all[j]? =some oj/\oj.dst=some d/\d∈lkOf all o/\FD done (fun _=>true) (look F0) d=some (.bool x))->
   vcOpG T Ar.real g.n0 g.ms (StepD g P o F (B++filN m done.length N) n fun v nw n'=>vcT T Ar.real P g g.n0 g.ms ck sk all m K rest (done.length+1) (putO F o.dst v) B (N++ownN done.length nw) n') (fun F'=>vcT T Ar.real P g g.n0 g.ms ck sk all m K rest (done.length+1) F' B N n)
    (fun F' b=>vcT T Ar.real P g g.n0 g.ms ck sk all m K rest (done.length+1) F' B (N++[(done.length,b)]) (n+1)) (fun F' l cs=>ck done.length l=true/\vcT T Ar.real P g g.n0 g.ms ck sk all m K rest (done.length+1) F' (updA l cs B) (updN l cs N) n) o F (B++filN m done.length N) n->
   ∃ (es:List E) (F':FF) (B':LL) (N':NL) (n':Nat) (nnf:Nat->Nat),es.length=(o::rest).length/\Told (done++es) F0 B0 nS F' B' N' n'/\K F' B' N' n'/\nnf 0=n/\
   (∀ (j:Nat) (e:E) (o':Oper),es[j]? =some e->(o::rest)[j]? =some o'->((sk (done.length+j)=false/\e.d=o'.dst/\(e.w≠none->isStore o'=true/\memOf o'=true)/\Case T P g all o' e (FD (done++es.take j) (fun _=>true) (look F0)) (visV fl (done.length+j) (LD (done++es.take j) (befB m (done.length+j)) (find B0))))\/(sk (done.length+j)=true/\e=⟨none,.nilp,[],none⟩))/\
    (∀l q vs,e.w=some (l,q,vs)->(∃b,LD (done++es.take j) (befB m (done.length+j)) (find B0) l=some b)/\ck (done.length+j) l=true)/\(∀b∈e.nw,nnf j<=b.l/\b.l<nnf (j+1))/\nnf j<=nnf (j+1)/\(quiet o'=true->e.nw=[]/\e.w=none)):=by
   intro hg hv
   have hcs:=vcOp_cases3 (p:=fl done.length=none) (by
    cases hf:fl done.length with
    |none=>exact Or.inl rfl
    |some a=>
     obtain⟨o',t,x,ho',hop,_,_⟩:=hfl _ _ hf
     rw[hoi]at ho'
     obtain rfl:=Option.some.inj ho'
     exact Or.inr ⟨t,_,hop⟩) hv
   rcases hcs with⟨⟨hf,hqf⟩,v,nw,n1,hen,hn,hnw,hnd,hk⟩|⟨v,hr,hk⟩|⟨f,cs,t,hr,hk⟩|⟨l,q,vs,b,hr,hb,hown,hck,hk⟩
   ·refine step ⟨o.dst,v,nw,none⟩ _ B _ n1 (Or.inl ⟨hsk,rfl,fun h=>(h rfl).elim,Or.inl ⟨hg,Or.inr (Or.inr (Or.inr ⟨v,nw,?_,rfl⟩))⟩⟩) (fun _ _ _ h=>by cases h) (fun hq=>by rw[hqf]at hq;cases hq) hnw hn (ht.app hn hnw hnd) hk
    rw[<-ht.fr]
    have:selM o (visV fl done.length (LD done (befB m done.length) (find B0)))=selM o (find (B++filN m done.length N)):=by
     rw[visV_none hf]
     unfold selM
     cases hm:memOf o with
     |true=>exact funext fun l=>hV hm l (Or.inl hf)
     |false=>rfl
    rw[this];exact hen
   ·exact step ⟨o.dst,v,[],none⟩ _ B N n (Or.inl ⟨hsk,rfl,fun h=>(h rfl).elim,Or.inl ⟨hg,Or.inl ⟨v,conv hr,rfl⟩⟩⟩) (fun _ _ _ h=>by cases h) (fun _=>⟨rfl,rfl⟩) (fun b hb=>by cases hb) (Nat.le_refl n) ht.val hk
   ·refine step ⟨o.dst,f n,[⟨n,cs,t⟩],none⟩ _ B (N++[(done.length,⟨n,cs,t⟩)]) (n+1) (Or.inl ⟨hsk,rfl,fun h=>(h rfl).elim,Or.inl ⟨hg,Or.inr (Or.inl ⟨f,cs,t,n,conv hr,rfl⟩)⟩⟩) (fun _ _ _ h=>by cases h) (fun hq=>(hr.quiet_new hq).elim) (fun b hb=> ?_) (Nat.le_succ n) ?_ hk
    ·obtain rfl:=List.mem_singleton.1 hb;simp
    ·have:=ht.app (d:=o.dst) (v:=f n) (nw:=[⟨n,cs,t⟩]) (Nat.le_succ n) (fun b hb=>by obtain rfl:=List.mem_singleton.1 hb;simp) (by simp)
     simpa [ownN]using this
   ·obtain⟨t',x',y',hop⟩:=hr.wr_store
    have hs:isStore o=true:=by simp[isStore,hop]
    have hm:memOf o=true:=by simp[memOf,hop]
    have hf:fl done.length=none:=by
     cases hf:fl done.length with
     |none=>rfl
     |some a=>
      obtain⟨o',t,x,ho',hop2,_,_⟩:=hfl _ _ hf
      rw[hoi]at ho'
      obtain rfl:=Option.some.inj ho'
      rw[hop]at hop2;cases hop2
    have hVl:LD done (befB m done.length) (find B0) l=some b:=by rw[hV hm l (Or.inl hf)];exact hb
    refine step ⟨o.dst,.raw undef,[],some (l,q,vs)⟩ _ _ _ n (Or.inl ⟨hsk,rfl,fun _=>⟨hs,hm⟩,Or.inl ⟨hg,Or.inr (Or.inr (Or.inl ⟨l,q,vs,b,conv hr,by rw[visV_none hf];exact hVl,hown,rfl⟩))⟩⟩) (fun l' q' vs' h=> ?_) (fun hq=>by simp[quiet,hop]at hq) (fun b hb=>by cases hb) (Nat.le_refl n) (ht.wr (by rw[<-filN_eq];exact hb)) hk
    simp only[Option.some.injEq,Prod.mk.injEq]at h
    obtain⟨rfl,_,_⟩:=h
    exact⟨⟨b,hVl⟩,hck⟩
  cases hgd:o.guard with
  |none=>
   simp only[hgd]at h
   exact exec ⟨true,Or.inl hgd⟩ h
  |some p=>
   obtain⟨j,bb⟩:=p
   simp only[hgd]at h
   cases hj:all[j]? with
   |none=>simp[hj]at h
   |some oj=>
    simp only[hj]at h
    cases hdj:oj.dst with
    |none=>simp[hdj]at h
    |some d=>
     simp only[hdj]at h
     have hlk:d∈lkOf all o:=by
      unfold lkOf
      simp[hgd,hj,hdj]
     cases hl:look F d with
     |none=>simp[hl]at h
     |some v=>
      cases v with
      |bool x=>
       have hFd:FD done (fun _=>true) (look F0) d=some (.bool x):=by rw[<-ht.fr];exact hl
       have skip:bb= !x->vcT T Ar.real P g g.n0 g.ms ck sk all m K rest (done.length+1) (putO F o.dst (.raw undef)) B N n->_:=fun hbb hk=>
        step ⟨o.dst,.raw undef,[],none⟩ _ B N n (Or.inl ⟨hsk,rfl,fun h=>(h rfl).elim,Or.inr ⟨⟨j,x,oj,d,by rw[hgd,hbb],hj,hdj,hlk,hFd⟩,rfl⟩⟩) (fun _ _ _ h=>by cases h) (fun _=>⟨rfl,rfl⟩) (fun b hb=>by cases hb) (Nat.le_refl n) ht.val hk
       simp only[hl]at h
       cases x<;>cases bb<;>simp only at h
       ·exact exec ⟨false,Or.inr ⟨j,oj,d,hgd,hj,hdj,hlk,hFd⟩⟩ h
       ·exact skip rfl h
       ·exact skip rfl h
       ·exact exec ⟨true,Or.inr ⟨j,oj,d,hgd,hj,hdj,hlk,hFd⟩⟩ h
      |_=>simp[hl]at h
end
end Go.Vg
namespace Go.Vg
open Go.RowKit
section
variable {P:Program}{g:G}{T:Nat->Option Ty}
theorem Mem.pmono{β:Nat->Nat}{L:Nat->Option Blk}{p q:Nat->Prop}{W:World}(hm:Mem g β L p W)(h:∀l,p l->q l):Mem g β L q W:=
 ⟨fun l hl=>h l (hm.low l hl),hm.old,hm.new,hm.inj,hm.cell,fun l b hb=>⟨h l (hm.bL l b hb).1,bdm h _ (hm.bL l b hb).2⟩,hm.up⟩
theorem Mem.drawn{β:Nat->Nat}{L:Nat->Option Blk}{p:Nat->Prop}{W:World}(hm:Mem g β L p W):Mem g β L p {W with drawn:=W.drawn+1}:=
 ⟨hm.low,hm.old,hm.new,hm.inj,hm.cell,hm.bL,⟨hm.up.os,hm.up.tape,hm.up.output,hm.up.size,hm.up.block⟩⟩
theorem Edges.lt{all:List Oper}{m:List Nat}{fl:Nat->Option Nat}{ck:Nat->Nat->Bool}(h:Edges all m fl ck){k:Nat}:∀ {i:Nat},i<all.length->befB m i k=true->k<i:=by
 intro i
 induction i using Nat.strongRecOn with
 |_ i ih=>
  intro hi hb
  obtain⟨e,he,hbi,hor⟩:=h.clos i (all[i]'hi) k (List.getElem?_eq_getElem hi) hb
  have hlt:=h.back i _ e (List.getElem?_eq_getElem hi) he hbi
  rcases hor with h1|h1
  ·omega
  ·have:=ih e.on hlt (by omega) h1
   omega
theorem fits_of(hT:TOk P T){ops:Array Oper}{fl:Nat->Option Nat}{ck:Nat->Nat->Bool}{sk:Nat->Bool}(hE:Edges ops.toList (maskL [] ops.toList) fl ck)(hd:∀o∈ops.toList,∀t,o.dst=some t->t<g.N){F:FF}{L:LL}{n:Nat}(hL:∀l b,find L l=some b->l<n){es:List E}{nnf:Nat->Nat}(hlen:es.length<=ops.size)(k4:nnf 0=n)
 (k5:∀ (j:Nat) (e:E) (o:Oper),es[j]? =some e->ops.toList[j]? =some o->((sk j=false/\e.d=o.dst/\(e.w≠none->isStore o=true/\memOf o=true)/\Case T P g ops.toList o e (FD (es.take j) (fun _=>true) (look F)) (visV fl j (LD (es.take j) (befB (maskL [] ops.toList) j) (find L))))\/(sk j=true/\e=⟨none,.nilp,[],none⟩))/\
    (∀l q vs,e.w=some (l,q,vs)->(∃b,LD (es.take j) (befB (maskL [] ops.toList) j) (find L) l=some b)/\ck j l=true)/\(∀b∈e.nw,nnf j<=b.l/\b.l<nnf (j+1))/\nnf j<=nnf (j+1)/\(quiet o=true->e.nw=[]/\e.w=none))
 (hfl:∀i a,fl i=some a->∃o t x,ops.toList[i]? =some o/\o.op= .load t (.tmp x)/\(∀o'∈ops.toList,o'.dst≠some x)/\labS (look F) x=some a):
 Fits P g ops es (look F) (find L) n (fun i=>match ops[i]? with|some o=>lkOf ops.toList o|none=> []) (fun i l=>match ops[i]? with|some o=>memOf o&&(match fl i with|none=>true|some a=>Nat.beq l a)|none=>false) (befB (maskL [] ops.toList)) nnf (fun i=>sk i=false):=by
 have hops:∀ (i:Nat) (o:Oper),ops[i]? =some o↔ops.toList[i]? =some o:=fun i o=>by rw[Array.getElem?_toList]
 have hpair:∀ (i:Nat) (e:E),es[i]? =some e->∃o,ops.toList[i]? =some o:=fun i e he=>by
  have h1:=(List.getElem?_eq_some_iff.1 he).1
  have:i<ops.toList.length:=by rw[Array.length_toList];omega
  exact⟨_,List.getElem?_eq_getElem this⟩
 have hdd:∀ (i:Nat) (e:E) (o:Oper) (t:Nat),es[i]? =some e->ops.toList[i]? =some o->e.d=some t->o.dst=some t:=fun i e o t he ho ht=>by
  rcases(k5 i e o he ho).1 with h|h
  ·rw[<-h.2.1];exact ht
  ·rw[h.2]at ht;cases ht
 have hww:∀ (i:Nat) (e:E) (o:Oper),es[i]? =some e->ops.toList[i]? =some o->e.w≠none->isStore o=true/\memOf o=true:=fun i e o he ho hw=>by
  rcases(k5 i e o he ho).1 with h|h
  ·exact h.2.2.1 hw
  ·rw[h.2]at hw;exact(hw rfl).elim
 have hFt:∀i,FD es (fun k=>decide (k<i)) (look F)=FD (es.take i) (fun _=>true) (look F):=fun i=>funext fun t=>by
  simp only[FD]
  rw[fo_take (i:=i) (fun k hk=>by simp;omega) (Nat.zero_le i),Nat.sub_zero]
  refine fo_congr2 fun k e hk=> ?_
  have:k<i:=by
   have:=(List.getElem?_eq_some_iff.1 hk).1
   rw[List.length_take]at this
   omega
  simp[this]
 have hLt:∀i,i<ops.size->LD es (fun k=>befB (maskL [] ops.toList) i k) (find L)=LD (es.take i) (befB (maskL [] ops.toList) i) (find L):=fun i hi=>funext fun l=>by
  simp only[LD]
  rw[fo_take (i:=i) (fun k hk=> ?_) (Nat.zero_le i),Nat.sub_zero]
  cases hb:befB (maskL [] ops.toList) i k with
  |false=>rfl
  |true=>have:=hE.lt (by simpa using hi) hb;omega
 refine⟨hlen,fun i o k ho hb=>hE.clos i o k ((hops i o).1 ho) hb,fun i o e ho he hb=>hE.back i o e ((hops i o).1 ho) he hb,?_,?_,?_,?_,?_,k4,?_,hL,?_⟩
 ·intro i k e e' t he he' hik hdt hdt'
  obtain⟨o,ho⟩:=hpair i e he
  obtain⟨o',ho'⟩:=hpair k e' he'
  exact(hE.dst i k o o' t ho ho' hik (hdd k e' o' t he' ho' hdt')).1 (hdd i e o t he ho hdt)
 ·intro i k e t hio he hik hdt ht
  obtain⟨o',ho'⟩:=hpair k e he
  have ho:=Array.getElem?_eq_getElem hio
  rw[ho]at ht
  exact(hE.dst i k _ o' t ((hops i _).1 ho) ho' hik (hdd k e o' t he ho' hdt)).2 ht
 ·intro i k e l q vs hmem hio he hw hik
  obtain⟨o',ho'⟩:=hpair k e he
  have ho:=Array.getElem?_eq_getElem hio
  rw[ho]at hmem
  simp only[Bool.and_eq_true]at hmem
  rcases hE.ord i k _ o' ((hops i _).1 ho) ho' hik (hww k e o' he ho' (by rw[hw];simp)).1 hmem.1 with h3|h3
  ·exact h3
  ·exfalso
   obtain⟨a,ha,hne⟩:=h3 l ((k5 k e o' he ho').2.1 l q vs hw).2
   have h4:=hmem.2
   rw[ha]at h4
   exact hne (Nat.eq_of_beq_eq_true h4)
 ·intro i e l q vs he hw
  obtain⟨o,ho⟩:=hpair i e he
  have h3:=hww i e o he ho (by rw[hw];simp)
  have hf:fl i=none:=by
   cases hf:fl i with
   |none=>rfl
   |some a=>
    obtain⟨o',t,x,ho',hop,_,_⟩:=hfl _ _ hf
    rw[ho]at ho'
    obtain rfl:=Option.some.inj ho'
    have:=h3.1
    rw[isStore,hop]at this;cases this
  rw[(hops i o).2 ho]
  simp only[h3.2,hf,Bool.and_self]
 ·intro i e he
  obtain⟨o,ho⟩:=hpair i e he
  exact⟨(k5 i e o he ho).2.2.1,(k5 i e o he ho).2.2.2.1⟩
 ·intro i e k q vs he hw
  obtain⟨o,ho⟩:=hpair i e he
  have hio:i<ops.size:=Nat.lt_of_lt_of_le (List.getElem?_eq_some_iff.1 he).1 hlen
  have:=((k5 i e o he ho).2.1 k q vs hw).1
  rw[<-hLt i hio]at this
  exact this
 ·intro i e hun he
  obtain⟨o,ho⟩:=hpair i e he
  have hio:i<ops.size:=Nat.lt_of_lt_of_le (List.getElem?_eq_some_iff.1 he).1 hlen
  obtain⟨hed,_,hc⟩:e.d=o.dst/\(e.w≠none->isStore o=true/\memOf o=true)/\Case T P g ops.toList o e (FD (es.take i) (fun _=>true) (look F)) (visV fl i (LD (es.take i) (befB (maskL [] ops.toList) i) (find L))):=by
   rcases(k5 i e o he ho).1 with h|h
   ·exact h.2
   ·rw[h.1]at hun;cases hun
  rw[<-hFt i,<-hLt i hio]at hc
  have ho2:=(hops i o).2 ho
  intro β p F1 L1 a W hF hM hfr hlow hm hf
  simp only[ho2]at hF hM
  refine op_ex hT ho2 (hd o (List.mem_of_getElem? ho)) hed (V:=visV fl i (LD es (fun k=>befB (maskL [] ops.toList) i k) (find L))) ?_ β p F1 L1 a W hF (fun hmo l b hl=> ?_) hfr hlow hm hf
  rotate_left
  ·unfold visV at hl
   cases hf:fl i with
   |none=>rw[hf]at hl;exact hM l b (by simp[hmo,hf]) hl
   |some a=>
    rw[hf]at hl
    simp only at hl
    by_cases hla:l=a
    ·rw[if_pos hla]at hl;exact hM l b (by simp[hmo,hf,hla]) hl
    ·rw[if_neg hla]at hl;cases hl
  unfold Case at hc
  simpa only[hops]using hc
structure Later(es:List E)(U:Nat->Prop)(F':FF)(F1:Nat->Option SV)(es':List E)(un':Nat->Prop):Prop where
 val:∀ (k:Nat) (e:E) (t:Nat),U k->es[k]? =some e->e.d=some t->look F' t=some e.v/\F1 t=none
 le:∀t v,F1 t=some v->look F' t=some v
 same:∀ (k:Nat) (e e':E),U k->es[k]? =some e->es'[k]? =some e'->e'.d=e.d/\e'.v=e.v/\e'.nw=[]/\e'.w=none
 blank:∀ (k:Nat) (e':E),k<=es.length->¬ (U k/\k<es.length)->es'[k]? =some e'->e'=⟨none,.nilp,[],none⟩
 len:es.length<es'.length
 un:∀k,(U k/\k<es.length)\/es.length<k->un' k
def grdOk(ops:Array Oper)(lk:List Nat)(F:FF)(o:Oper):Prop:=o.guard=none\/ ∃j b oj d,o.guard=some (j,b)/\ops[j]? =some oj/\oj.dst=some d/\d∈lk/\look F d=some (.bool b)
inductive Tree (P:Program) (g:G) (ops:Array Oper) (Q:Exit->Act->World->Prop):(Nat->Option SV)->(Nat->Option Blk)->Nat->List E->(Nat->Prop)->Prop
 |fin {F0:Nat->Option SV} {L0:Nat->Option Blk} {n:Nat} {es:List E} {un:Nat->Prop} {lk:Nat->List Nat} {mem:Nat->Nat->Bool} {bef:Nat->Nat->Bool} {nn:Nat->Nat} (hl:es.length=ops.size) (hF:Fits P g ops es F0 L0 n lk mem bef nn un)
  (hQ:∀β a W,Mem g β (LD es (fun _=>true) L0) (PD es (fun _=>true) (fun l=>l<n)) W->Fra g β (FD es (fun _=>true) F0) (PD es (fun _=>true) (fun l=>l<n)) a->Q .normal a W):Tree P g ops Q F0 L0 n es un
 |cut {F0:Nat->Option SV} {L0:Nat->Option Blk} {n:Nat} {es:List E} {un:Nat->Prop} {lk:Nat->List Nat} {mem:Nat->Nat->Bool} {bef:Nat->Nat->Bool} {nn:Nat->Nat} {o:Oper} {F:FF} {L:LL} {n1:Nat} {U:Nat->Prop} {R:FF->LL->Nat->Prop}
  (ho:ops[es.length]? =some o) (hg:grdOk ops (lk es.length) F o) (hF:Fits P g ops es F0 L0 n lk mem bef nn un)
  (late:∀k,es.length<k->k<ops.size->bef k es.length=true) (hU:∀k,k<es.length->bef es.length k=true\/U k)
  (hsel:∀cs b,o.op≠ .select cs b) (hUe:∀ (k:Nat) (e:E),U k->es[k]? =some e->e.nw=[]/\e.w=none/\bd (fun l=>l<n1) e.v) (hlk:∀t∈tmpsL o.op.operands.toList,t∈lk es.length)
  (hdN:∀ (k:Nat) (e:E) (t:Nat),es[k]? =some e->e.d=some t->t<g.N)
  (hFF:look F=FD es (fun _=>true) F0) (hLL:find L=LD es (fun _=>true) L0) (hp:∀l,PD es (fun _=>true) (fun l=>l<n) l->l<n1) (hS:Step g P o R F L n1)
  (X:FF->LL->Nat->(Nat->Option SV)×List E×(Nat->Prop)) (next:∀F' L' n',R F' L' n'->(∀l b,find L' l=some b->l<n')->Later es U F' (X F' L' n').1 (X F' L' n').2.1 (X F' L' n').2.2) (rest:∀F' L' n',R F' L' n'->(∀l b,find L' l=some b->l<n')->Tree P g ops Q (X F' L' n').1 (find L') n' (X F' L' n').2.1 (X F' L' n').2.2):Tree P g ops Q F0 L0 n es un
theorem fo_same{α:Type}{f:E->α->α}{D:Nat->Bool}:∀ {es:List E} {s:Nat} {x:α},(∀k e,es[k]? =some e->D (s+k)=true->∀y,f e y=y)->fo f D s es x=x
 | [],_,_,_=>rfl
 |e::es,s,x,h=>by
  simp only[fo]
  have h0:(if D s=true then f e x else x)=x:=by
   by_cases hD:D s=true
   ·rw[if_pos hD];exact h 0 e rfl (by simpa using hD) x
   ·rw[if_neg hD]
  rw[h0]
  exact fo_same fun k e' hk hD=>h (k+1) e' (by simpa using hk) (by rw[<-hD];congr 1;omega)
theorem wp_agree{o:Oper}{a a2:Act}{W:World}{next next2:Act->World->Prop}{Q:Exit->Act->World->Prop}(hev:(execOp a.eval o).run P W=(execOp a2.eval o).run P W)(h:o.wp P a2 W next2 (fun _ _ _=>False))(hn:∀v W',next2 (a2.put o.dst v) W'->next (a.put o.dst v) W')(hdef:∀b W',next2 b W'->b.defers=[]):o.wp P a W next Q:=by
 unfold Oper.wp at h⊢
 rw[hev]
 revert h
 generalize (execOp a2.eval o).run P W=r
 intro h
 cases r with
 |ok nx w'=>
  cases nx with
  |value v=>exact hn _ _ h
  |skip=>exact hn _ _ h
  |defer d=>
   have:=hdef _ _ h
   cases hd:o.dst with
   |none=>rw[hd]at this;cases this
   |some t=>rw[hd]at this;cases this
  |enter f args=>
   refine Calls.mono h fun e w'' he=> ?_
   cases e with
   |returned v=>exact hn _ _ he
   |panicked _=>exact he.elim
   |outgrown=>obtain⟨_,_,h⟩:=he;exact h.elim
  |row row args=>
   refine Rows.mono h fun v w'' he=> ?_
   exact hn _ _ he
  |_=>exact h.elim
 |halt hh w'=>
  cases hh with
  |panic v=>exact h.elim
  |_=>exact h.elim
theorem fo_skip{α:Type}{f:E->α->α}{D:Nat->Bool}:∀ {es:List E} {s:Nat} {x:α},(∀k e,es[k]? =some e->D (s+k)=false->∀y,f e y=y)->fo f D s es x=fo f (fun _=>true) s es x
 | [],_,_,_=>rfl
 |e::es,s,x,h=>by
  simp only[fo]
  have h0:(if D s=true then f e x else x)=f e x:=by
   by_cases hD:D s=true
   ·rw[if_pos hD]
   ·rw[if_neg hD,h 0 e rfl (by simpa using hD) x]
  rw[h0,if_pos trivial]
  exact fo_skip fun k e' hk hD=>h (k+1) e' (by simpa using hk) (by rw[<-hD];congr 1;omega)
theorem eval_agree{a a2:Act}{xs:Array Operand}(h:∀t∈tmpsL xs.toList,a.tmps[t]? =a2.tmps[t]?):∀x∈xs,a.eval x=a2.eval x:=by
 intro x hx
 cases x with
 |tmp t=>
  have:=h t (tmpsL_mem (x:= .tmp t) (by simpa using hx) (by simp[tmpOf]))
  simp only[Act.eval,Array.getD_eq_getD_getElem?,this]
 |_=>rfl
theorem ft_cases{D:Nat->Bool}{t:Nat}{v:SV}:∀ {es:List E} {s:Nat} {x:Option SV},fo (ft t) D s es x=some v->(∃k e,es[k]? =some e/\D (s+k)=true/\e.d=some t/\e.v=v)\/x=some v
 | [],_,_,h=>Or.inr h
 |e::es,s,x,h=>by
  simp only[fo]at h
  rcases ft_cases h with⟨k,e',h1,h2,h3⟩|h
  ·exact Or.inl ⟨k+1,e',by simpa using h1,by rw[<-h2];congr 1;omega,h3⟩
  ·by_cases hD:D s=true
   ·rw[if_pos hD]at h
    unfold ft at h
    by_cases ht:e.d=some t
    ·rw[if_pos ht]at h
     exact Or.inl ⟨0,e,rfl,hD,ht,Option.some.inj h⟩
    ·rw[if_neg ht]at h;exact Or.inr h
   ·rw[if_neg hD]at h;exact Or.inr h
theorem catch_up{ops:Array Oper}{es:List E}{F0:Nat->Option SV}{L0:Nat->Option Blk}{n:Nat}{lk:Nat->List Nat}{mem:Nat->Nat->Bool}{bef:Nat->Nat->Bool}{nn:Nat->Nat}{un:Nat->Prop}(hF:Fits P g ops es F0 L0 n lk mem bef nn un)(hdN:∀ (k:Nat) (e:E) (t:Nat),es[k]? =some e->e.d=some t->t<g.N)
 {D:Nat->Bool} {β:Nat->Nat} {p:Nat->Prop} (hun:∀ (k:Nat) (e:E),D k=false->es[k]? =some e->bd p e.v) {a:Act} (hf:Fra g β (FD es D F0) p a):∀j,j<=es.length->
 ∃a2:Act,Fra g β (FD es (fun k=>D k||decide (k<j)) F0) p a2/\a2.defers=a.defers/\∀t,(∀ (k:Nat) (e:E),D k=false->es[k]? =some e->e.d≠some t)->a2.tmps[t]? =a.tmps[t]? :=by
 intro j
 induction j with
 |zero=>exact fun _=>⟨a,by simpa using hf,rfl,fun _ _=>rfl⟩
 |succ j ih=>
  intro hj
  obtain⟨a2,h1,h2,h3⟩:=ih (by omega)
  cases hD:D j with
  |true=>
   refine⟨a2,?_,h2,h3⟩
   have:(fun k=>D k||decide (k<j+1))=fun k=>D k||decide (k<j):=funext fun k=>by
    by_cases hk:k=j
    ·subst hk;simp[hD]
    ·have:decide (k<j+1)=decide (k<j):=decide_eq_decide.2 (by omega)
     rw[this]
   rw[this];exact h1
  |false=>
   have he:es[j]? =some (es[j]'(by omega)):=List.getElem?_eq_getElem _
   generalize hee:es[j]'(by omega)=e at he
   refine⟨a2.put e.d (den β e.v),?_,?_,?_⟩
   ·have:(fun k=>D k||decide (k<j+1))=add (fun k=>D k||decide (k<j)) j:=funext fun k=>by
     simp only[add]
     by_cases hk:k=j
     ·subst hk;simp
     ·rw[if_neg hk]
      have:decide (k<j+1)=decide (k<j):=decide_eq_decide.2 (by omega)
      rw[this]
    rw[this,FD_add hF he (by simp[hD])]
    exact h1.put (fun t ht=>hdN j e t he ht) (hun j e hD he)
   ·rw[<-h2]
    cases e.d<;>rfl
   ·intro t ht
    rw[<-h3 t ht]
    have hne:=ht j e hD he
    cases hd:e.d with
    |none=>rfl
    |some t'=>
     rw[hd]at hne
     simp only[Act.put]
     rw[Array.getElem?_setIfInBounds_ne (fun e=>hne (by rw[e]))]
theorem wpAny_tree{ops:Array Oper}{Q:Exit->Act->World->Prop}:
 ∀ (fuel:Nat) {F0:Nat->Option SV} {L0:Nat->Option Blk} {n:Nat} {es:List E} {un:Nat->Prop},Tree P g ops Q F0 L0 n es un->∀ (ls:Array Bool) (a:Act) (W:World) (β:Nat->Nat),ls.size=ops.size->ls.toList.count false=fuel->Closed ops (fun i=>ls.getD i false)->
   (∀i,i<es.length->¬un i->ls.getD i false=true)->(∀i,ls.getD i false=true->i<es.length)->
   Mem g β (LD es (fun i=>ls.getD i false) L0) (PD es (fun i=>ls.getD i false) (fun l=>l<n)) W->Fra g β (FD es (fun i=>ls.getD i false) F0) (PD es (fun i=>ls.getD i false) (fun l=>l<n)) a->wpAny P .any ops Q fuel ls a W:=by
 intro fuel
 induction fuel with
 |zero=>
  intro F0 L0 n es un h ls a W β hs hc hcl hsk hbd hm hf
  have hall:=all_listed hs hc
  cases h with
  |fin hl hF hQ=>
   refine⟨none_ready hs hall,?_⟩
   obtain⟨e1,e2,e3⟩:=mono_D (es:=es) (F0:=F0) (L0:=L0) (n:=n) (D:=fun i=>ls.getD i false) (D':=fun _=>true) fun k hk=>hall k (by omega)
   rw[e1,e3]at hf
   rw[e2,e3]at hm
   exact hQ β a W hm hf
  |cut ho hg hF late hU hsel hUe hlk hdN hFF hLL hp hS X next rest=>
   have:=hbd _ (hall es.length (Array.getElem?_eq_some_iff.1 ho).1)
   omega
 |succ fuel ih=>
  intro F0 L0 n es un h ls a W β hs hc hcl hsk hbd hm hf
  have hin:=listed_lt hs
  have hgo:∀ {lk:Nat->List Nat} {mem:Nat->Nat->Bool} {bef:Nat->Nat->Bool} {nn:Nat->Nat},Fits P g ops es F0 L0 n lk mem bef nn un->∀i∈Region.ready .any ops ls,i<es.length->wpOp P ops Q i (wpAny P .any ops Q fuel (ls.setIfInBounds i true)) a W:=by
   intro lk mem bef nn hF i hi hil
   obtain⟨hDi,o,ho,hall⟩:=unlisted hs hi
   have hio:i<ops.size:=(Array.getElem?_eq_some_iff.1 ho).1
   have hset:=set_add hs hio
   have hui:un i:=Classical.byContradiction fun hn=>by rw[hsk i hil hn]at hDi;cases hDi
   refine fits_step hF hcl hin ho hall hDi hil hui hm hf fun γ a' W' hm' hf'=>ih h _ a' W' γ (by simpa using hs) (set_count hs hio hDi hc) ?_ ?_ ?_ ?_ ?_
   ·rw[hset];exact closed_add hcl ho hall
   ·intro k hk hn
    rw[congrFun hset k]
    simp only[add]
    split
    ·rfl
    ·exact hsk k hk hn
   ·intro k hk
    rw[congrFun hset k]at hk
    simp only[add]at hk
    by_cases hki:k=i
    ·omega
    ·rw[if_neg hki]at hk;exact hbd k hk
   ·rw[hset];exact hm'
   ·rw[hset];exact hf'
  have hh:=h
  cases h with
  |fin hl hF hQ=>
   refine⟨fun hr=>(some_ready hs hF.back hc hr).elim,fun i hi=> ?_⟩
   obtain⟨hDi,o,ho,hall⟩:=unlisted hs hi
   exact hgo hF i hi (by have:=(Array.getElem?_eq_some_iff.1 ho).1;omega)
  | @cut _ _ _ _ _ lk mem bef nn o F L n1 U R ho hg hF late hU hsel hUe hlk hdN hFF hLL hp hS X next rest=>
    refine⟨fun hr=>(some_ready hs hF.back hc hr).elim,fun i hi=> ?_⟩
    obtain⟨hDi,o',ho',hall⟩:=unlisted hs hi
    have hio:i<ops.size:=(Array.getElem?_eq_some_iff.1 ho').1
    rcases Nat.lt_trichotomy i es.length with hlt|rfl|hgt
    ·exact hgo hF i hi hlt
    ·rw[ho]at ho'
     obtain rfl:=Option.some.inj ho'
     have hpre:∀k,bef es.length k=true->ls.getD k false=true:=fun k hk=>ready_bef hF hcl hin ho hall hk
     have hUn:∀k,ls.getD k false=false->k<es.length->U k:=fun k hk hkl=>by
      rcases hU k hkl with h1|h1
      ·rw[hpre k h1]at hk;cases hk
      ·exact h1
     have hPD:∀l,PD es (fun i=>ls.getD i false) (fun l=>l<n) l->l<n1:=by
      intro l hl
      refine hp l ?_
      rcases PD_iff.1 hl with h1|⟨k,e,h1,_,h2⟩
      ·exact PD_iff.2 (Or.inl h1)
      ·exact PD_iff.2 (Or.inr ⟨k,e,h1,rfl,h2⟩)
     have hf1:Fra g β (FD es (fun i=>ls.getD i false) F0) (fun l=>l<n1) a:=hf.mono (fun _ _=>rfl) hPD
     obtain⟨a2,hf2,hdf,hag⟩:=catch_up hF hdN (D:=fun i=>ls.getD i false) (p:=fun l=>l<n1) (fun k e hk he=>(hUe k e (hUn k hk (List.getElem?_eq_some_iff.1 he).1) he).2.2) hf1 es.length (Nat.le_refl _)
     have hall2:FD es (fun k=>ls.getD k false||decide (k<es.length)) F0=look F:=by
      rw[hFF]
      exact(mono_D (L0:=L0) (n:=n) fun k hk=>by simp[hk]).1
     rw[hall2]at hf2
     have hm2:Mem g β (find L) (fun l=>l<n1) W:=by
      have e2:LD es (fun i=>ls.getD i false) L0=find L:=by
       rw[hLL]
       funext l
       simp only[LD]
       refine(fo_skip (es:=es) (s:=0) (D:=fun i=>ls.getD i false) fun k e he hk y=> ?_)
       rw[Nat.zero_add]at hk
       obtain⟨h1,h2,_⟩:=hUe k e (hUn k hk (List.getElem?_eq_some_iff.1 he).1) he
       unfold gl
       rw[h1,h2]
       cases y<;>rfl
      rw[e2]at hm
      exact hm.pmono hPD
     have hst:St g F L n1 a2 W:=⟨β,hm2,hf2⟩
     have hagL:∀t∈lk es.length,a.tmps[t]? =a2.tmps[t]? :=fun t ht=>(hag t fun k e hk he hd=>by
      have hkl:=(List.getElem?_eq_some_iff.1 he).1
      rcases hF.look es.length k e t hio he (by omega) hd ht with⟨_,h1⟩|⟨h1,_⟩
      ·have h2:=hpre k h1
       rw[h2]at hk;cases hk
      ·omega).symm
     have hag2:∀t∈tmpsL o.op.operands.toList,a.tmps[t]? =a2.tmps[t]? :=fun t ht=>hagL t (hlk t ht)
     have hev:(execOp a.eval o).run P W=(execOp a2.eval o).run P W:=by
      rw[execOp_congr o hsel (eval_agree hag2)]
     have hw:Region.wanted o (yielded ops a.tmps)=true:=by
      rcases hg with hg|⟨j,x,oj,d,hg,hj,hdj,hlk2,hd2⟩
      ·simp[Region.wanted,hg]
      ·have h1:=hf2.fr d (.bool x) hd2
       rw[<-hagL d hlk2]at h1
       have hy:yielded ops a.tmps j=some x:=by
        unfold yielded
        simp[hj,hdj,h1,den]
       simp[Region.wanted,hg,hy]
     unfold wpOp
     simp only[ho]
     rw[if_pos hw]
     left
     refine wp_agree hev (hS.run a2 W hst (fun b W'=>b.defers=[]/\∀v,b=a2.put o.dst v->wpAny P .any ops Q fuel (ls.setIfInBounds es.length true) (a.put o.dst v) W') _ ?_) (fun v W' h=>h.2 v rfl) (fun b W' h=>h.1)
     rintro F' L' n' b W' hR ⟨γ,hm3,hf3⟩
     refine⟨hf3.defs,fun v hb=> ?_⟩
     subst hb
     have hL':∀l b,find L' l=some b->l<n':=fun l b hb=>(hm3.bL l b hb).1
     obtain⟨k1,k2,k4,k5,k6,k7⟩:=next F' L' n' hR hL'
     have hT:=rest F' L' n' hR hL'
     revert k1 k2 k4 k5 k6 k7 hT
     generalize (X F' L' n').1=F1
     generalize (X F' L' n').2.1=es'
     generalize (X F' L' n').2.2=un'
     intro k1 k2 k4 k5 k6 k7 hT
     have hset:=set_add hs hio
     have hD':∀k,(add (fun k=>ls.getD k false) es.length) k=true->k<=es.length:=by
      intro k hk
      simp only[add]at hk
      by_cases h1:k=es.length
      ·omega
      ·rw[if_neg h1]at hk
       have:=hbd k hk
       omega
     have hnoeff:∀ (k:Nat) (e':E),es'[k]? =some e'->(add (fun k=>ls.getD k false) es.length) k=true->e'.nw=[]/\e'.w=none:=by
      intro k e' he' hk
      have hk2:=hD' k hk
      by_cases hUk:U k/\k<es.length
      ·have he:es[k]? =some (es[k]'hUk.2):=List.getElem?_eq_getElem _
       exact(k4 k _ e' hUk.1 he he').2.2
      ·rw[k5 k e' hk2 hUk he'];exact⟨rfl,rfl⟩
     refine ih hT _ _ W' γ (by simpa using hs) (set_count hs hio hDi hc) ?_ ?_ ?_ ?_ ?_
     ·rw[hset];exact closed_add hcl ho hall
     ·intro k hk hn
      rw[congrFun hset k]
      simp only[add]
      split
      ·rfl
      ·rename_i hne
       have h1:¬ ((U k/\k<es.length)\/es.length<k):=fun h=>hn (k7 k h)
       have hkl:k<es.length:=by
        rcases Nat.lt_trichotomy k es.length with h2|h2|h2
        ·exact h2
        ·exact(hne h2).elim
        ·exact(h1 (Or.inr h2)).elim
       rcases hU k hkl with h2|h2
       ·exact hpre k h2
       ·exact(h1 (Or.inl ⟨h2,hkl⟩)).elim
     ·intro k hk
      rw[congrFun hset k]at hk
      have:=hD' k hk
      omega
     ·rw[hset]
      have e2:LD es' (add (fun k=>ls.getD k false) es.length) (find L')=find L':=by
       funext l
       refine fo_same fun k e' he' hk y=> ?_
       rw[Nat.zero_add]at hk
       obtain⟨h1,h2⟩:=hnoeff k e' he' hk
       unfold gl
       rw[h1,h2]
       cases y<;>rfl
      rw[e2]
      exact hm3.pmono fun l hl=>PD_iff.2 (Or.inl hl)
     ·rw[hset]
      have key:∀t w,FD es' (add (fun k=>ls.getD k false) es.length) F1 t=some w->look F' t=some w/\(∀ (k:Nat) (e:E),ls.getD k false=false->es[k]? =some e->e.d≠some t):=by
       intro t w hw
       rcases ft_cases hw with⟨k,e',h1,h2,h3,h4⟩|h1
       ·rw[Nat.zero_add]at h2
        have hk2:=hD' k h2
        by_cases hUk:U k/\k<es.length
        ·have he:es[k]? =some (es[k]'hUk.2):=List.getElem?_eq_getElem _
         obtain⟨q1,q2,_⟩:=k4 k _ e' hUk.1 he h1
         have q3:=(k1 k _ t hUk.1 he (by rw[<-q1];exact h3)).1
         refine⟨by rw[q3,<-q2,h4],fun j ej hj hej hd=> ?_⟩
         have hjk:j≠k:=by
          rintro rfl
          simp only[add]at h2
          rw[if_neg (by omega),hj]at h2
          cases h2
         exact hF.dst k j _ ej t he hej (fun e=>hjk e.symm) (by rw[<-q1];exact h3) hd
        ·rw[k5 k e' hk2 hUk h1]at h3;cases h3
       ·refine⟨k2 t w h1,fun j ej hj hej hd=> ?_⟩
        have:=(k1 j ej t (hUn j hj (List.getElem?_eq_some_iff.1 hej).1) hej hd).2
        rw[this]at h1;cases h1
      refine⟨?_,?_,?_,?_⟩
      ·rw[<-hf.size]
       cases o.dst<;>simp[Act.put]
      ·have:=hf.defs
       cases o.dst<;>simpa [Act.put]using this
      ·intro t w hw
       exact bd_mono (fun l hl=>PD_iff.2 (Or.inl hl)) w (hf3.bF t w (key t w hw).1)
      ·intro t w hw
       obtain⟨h1,h2⟩:=key t w hw
       have h3:=hf3.fr t w h1
       have h4:=hag t h2
       rw[<-h3]
       cases hd:o.dst with
       |none=>simp only[Act.put];exact h4.symm
       |some t'=>
        simp only[Act.put]
        by_cases htt:t'=t
        ·subst htt
         have hsz:a.tmps.size=a2.tmps.size:=by rw[hf.size,hf2.size]
         simp only[Array.getElem?_setIfInBounds,if_true,hsz]
        ·rw[Array.getElem?_setIfInBounds_ne htt,Array.getElem?_setIfInBounds_ne htt,h4]
    ·exfalso
     have:=ready_bef hF hcl hin ho' hall (late i hgt hio)
     have:=hbd _ this
     omega
theorem reg_gen(hT:TOk P T){n0:Nat}{ms:List Nat}(h0:g.n0=n0)(h1:g.ms=ms)(hmix:P.follows .mixedOrders=true){id:Nat}{ops:Array Oper}{fl:Nat->Option Nat}{ck:Nat->Nat->Bool}(hE:Edges ops.toList (maskL [] ops.toList) fl ck)(hd:∀o∈ops.toList,∀t,o.dst=some t->t<g.N){K:FF->LL->Nat->Prop}{F:FF}{L:LL}{n:Nat}
 (hfl:∀i a,fl i=some a->∃o t x,ops.toList[i]? =some o/\o.op= .load t (.tmp x)/\(∀o'∈ops.toList,o'.dst≠some x)/\labS (look F) x=some a)
 (h:vcD T Ar.real P g n0 ms ck ops.toList (maskL [] ops.toList) K ops.toList 0 F L [] n):Reg g P id ops K F L n:=by
 subst h0 h1
 refine⟨?_⟩
 rintro a W ⟨β,hm,hf⟩
 have hbL:∀l b,find L l=some b->l<n:=fun l b hb=>(hm.bL l b hb).1
 have told0:Told [] F L n F L [] n:=by
  refine⟨rfl,fun D l _=> ?_,fun k b hb=>(by cases hb),List.nodup_nil,hbL,Nat.le_refl n,fun k e hk=>(by simp at hk)⟩
  simp[LD,fo,filP]
 obtain⟨sk0,hsk0⟩:=exq (fun _=>false:Nat->Bool)
 rw[vcD_eq,<-hsk0]at h
 obtain⟨es,F',B',N',n',nnf,k1,k2,k3,k4,k5⟩:=vcT_run (g:=g) (P:=P) (T:=T) hE hfl ops.toList [] F L [] n ⟨[],by simp⟩ told0 (fun k e hk=>by simp at hk) h
 simp only[List.nil_append,List.length_nil,Nat.zero_add]at k2 k5
 have hlen:es.length=ops.size:=by rw[k1];simp
 have hF:=fits_of hT hE hd hbL (Nat.le_of_eq hlen) k4 k5 hfl
 have e0:∀k,(Array.replicate ops.size false).getD k false=false:=fun k=>getD_replicate_false _ _
 refine wp_region_any hmix (wpAny_tree ops.size (Tree.fin hlen hF ?_) (Array.replicate ops.size false) a _ β (by simp) (by simp) (fun i o hi=> ?_) (fun i _ h=>(h (by rw[hsk0])).elim) (fun i hi=> ?_) ?_ ?_)
 ·intro γ a' W' hm' hf'
  have e1:LD es (fun _=>true) (find L)=find (B'++allN N'):=by
   funext l
   rw[k2.bl (fun _=>true) l (fun _ _ _ _ _ _=>rfl),allN_eq]
  have hPD:∀l,PD es (fun _=>true) (fun l=>l<n) l->l<n':=by
   intro l hl
   rcases PD_iff.1 hl with h|⟨k,e,hk,_,b,hb,rfl⟩
   ·have:=k2.le;omega
   ·exact k2.pd k e hk b hb
  refine⟨F',B'++allN N',n',k3,γ,?_,?_⟩
  ·rw[<-e1];exact hm'.pmono hPD
  ·rw[k2.fr];exact hf'.mono (fun _ _=>rfl) hPD
 ·have h2:(Array.replicate ops.size false).getD i false=true:=hi
  rw[e0]at h2;cases h2
 ·rw[e0]at hi;cases hi
 ·have e1:LD es (fun i=>(Array.replicate ops.size false).getD i false) (find L)=find L:=funext fun l=>fo_false e0
  have e2:PD es (fun i=>(Array.replicate ops.size false).getD i false) (fun l=>l<n)=fun l=>l<n:=funext fun l=>fo_false e0
  rw[e1,e2];exact hm.drawn
 ·have e1:FD es (fun i=>(Array.replicate ops.size false).getD i false) (look F)=look F:=funext fun l=>fo_false e0
  have e2:PD es (fun i=>(Array.replicate ops.size false).getD i false) (fun l=>l<n)=fun l=>l<n:=funext fun l=>fo_false e0
  rw[e1,e2];exact hf
theorem reg_of(hT:TOk P T){n0:Nat}{ms:List Nat}(h0:g.n0=n0)(h1:g.ms=ms)(hmix:P.follows .mixedOrders=true){id:Nat}{ops:Array Oper}(hB:drawB ops.toList=true)(hd:∀o∈ops.toList,∀t,o.dst=some t->t<g.N){K:FF->LL->Nat->Prop}{F:FF}{L:LL}{n:Nat}
 (h:vcD T Ar.real P g n0 ms (fun _ _=>true) ops.toList (maskL [] ops.toList) K ops.toList 0 F L [] n):Reg g P id ops K F L n:=
 reg_gen hT h0 h1 hmix (Edges.of hB) hd (fun i a h=>by cases h) h
theorem freeL_spec{all:List Oper}{o:Oper}{t:Nat}(h:freeL all o=some t):(∃ty,o.op= .load ty (.tmp t))/\∀o'∈all,o'.dst≠some t:=by
 unfold freeL at h
 split at h
 ·rename_i ty t' hop
  split at h
  ·rename_i hall
   obtain rfl:=Option.some.inj h
   refine⟨⟨ty,hop⟩,fun o' ho' hd=> ?_⟩
   have:=List.all_eq_true.1 hall o' ho'
   rw[hd]at this
   simp at this
  ·cases h
 ·cases h
theorem reg_C(hT:TOk P T){n0:Nat}{ms:List Nat}(h0:g.n0=n0)(h1:g.ms=ms)(hmix:P.follows .mixedOrders=true){id:Nat}{ops:Array Oper}(hB:drawC ops.toList=true)(hd:∀o∈ops.toList,∀t,o.dst=some t->t<g.N){K:FF->LL->Nat->Prop}{F:FF}{L:LL}{n:Nat}
 (h:vcD T Ar.real P g n0 ms (ckC ops.toList (maskL [] ops.toList) (look F)) ops.toList (maskL [] ops.toList) K ops.toList 0 F L [] n):Reg g P id ops K F L n:=by
 refine reg_gen hT h0 h1 hmix (Edges.ofC (F:=look F) hB) hd (fun i a hfa=> ?_) h
 unfold frL at hfa
 cases ho:ops.toList[i]? with
 |none=>rw[ho]at hfa;cases hfa
 |some o=>
  rw[ho]at hfa
  simp only at hfa
  cases hf:freeL ops.toList o with
  |none=>rw[hf]at hfa;cases hfa
  |some t=>
   rw[hf]at hfa
   obtain⟨⟨ty,hop⟩,h2⟩:=freeL_spec hf
   exact⟨o,ty,t,rfl,hop,h2,hfa⟩
end
end Go.Vg
namespace Go.Vg
open Go.RowKit
theorem callee_congr{F F':Nat->Option SV}{o:Oper}{c:Call}(ho:o.op= .call c)(h:∀t∈tmpsL o.op.operands.toList,F' t=F t):callee F' c=callee F c:=by
 rw[ho]at h
 have E:∀x∈(Op.call c).operands.toList,ev F' x=ev F x:=fun x hx=>ev_congr fun t ht=>h t (tmpsL_mem hx ht)
 unfold callee
 split
 ·rename_i f hf
  have h1:ev F' f=ev F f:=E f (by simp[Op.operands,Call.operands,hf])
  have h2:evs F' c.args.toList=evs F c.args.toList:=evs_congr fun x hx=>E x (by
   simp only[Op.operands,Call.operands,Array.toList_append,List.mem_append]
   exact Or.inr hx)
  rw[h1,h2]
 ·rfl
theorem foot_mono{ρ:Nat->Nat}{M L:Nat->Option Blk}(h:∀l b,M l=some b->L l=some b):∀ {Lp:LL},foot ρ M Lp->foot ρ L Lp
 | [],_=>trivial
 |_::_,hf=>⟨h _ _ hf.1,foot_mono h hf.2⟩
section
variable {P:Program}{g:G}
theorem en_val{o:Oper}{c:Call}(ho:o.op= .call c){m0 N:Nat}{ms:List Nat}(hg:GI g m0 ms N)(hd':dstLt N o.dst=true){F:Nat->Option SV}{f:FuncId}{args:List SV}(hc:callee F c=some (f,args)){R:SV->LL->Nat->Prop}(hcon:Con P f args [] 0 [] R)
 {M:Nat->Option Blk} {val:SV} (hv:∀v L1 n1,R v L1 n1->v=val) (hb0:bd (fun _=>False) val):EN g P o F M val []:=by
 have hd:=hg.dst hd'
 obtain⟨hcb,hcon⟩:=hcon
 refine EN.of_step fun β p F' L' a W hF hM hm hf next Q hnext=> ?_
 obtain⟨r1,r2⟩:=callee_run (P:=P) (W:=W) hf ho ((callee_congr ho hF).trans hc) hcb
 unfold Oper.wp
 rw[r1,Oper.upon_enter]
 refine(hcon β W ⟨fun b h=>(by cases h),fun b h=>(by cases h)⟩).mono ?_
 rintro e W' ⟨v,L1,n1,β1,hR,rfl,_,hm1⟩
 obtain rfl:=hv v L1 n1 hR
 have hvd:den β1 v=den β v:=den_congr (p:=fun _=>False) (fun l hl=>hl.elim) v hb0
 simp only[hvd]
 exact hnext _ _ (hm.call hm1.up (by rintro k ⟨l,hl,_⟩;cases hl)) (hf.put hd (bd_mono (fun l h=>h.elim) v hb0))
theorem enr{o:Oper}{c:Call}(ho:o.op= .call c){m0 N:Nat}{ms:List Nat}(hg:GI g m0 ms N)(hd':dstLt N o.dst=true){F:Nat->Option SV}{f:FuncId}{us args:List SV}(hc:callee F c=some (f,us)){Lp:LL}{n0:Nat}{R:SV->LL->Nat->Prop}(hcon:Con P f args Lp n0 [] R)
 (ρ:Nat->Nat) (hus:us=renL ρ args) {M:Nat->Option Blk} (hft:foot ρ M Lp) {val:SV} (hv:∀v L1 n1,R v L1 n1->v=val) (hb0:bd (fun _=>False) val):EN g P o F M val []:=by
 have hd:=hg.dst hd'
 obtain⟨hcb,hcon⟩:=hcon
 refine EN.of_step fun β p F' L' a W hF hM hm hf next Q hnext=> ?_
 obtain⟨r1,r2⟩:=callee_run (P:=P) (W:=W) hf ho ((callee_congr ho hF).trans hc) hcb
 unfold Oper.wp
 rw[r1,Oper.upon_enter]
 have hden:denL β us=denL (fun l=>β (ρ l)) args:=by rw[hus,denL_ren]
 have hft':=foot_mono hM hft
 rw[hden]
 refine(hcon (fun l=>β (ρ l)) W (foot_pre hm hft' (injB_nil ρ Lp) (fun m h=>by cases h))).mono ?_
 rintro e W' ⟨v,L1,n1,β1,hR,rfl,_,hm1⟩
 obtain rfl:=hv v L1 n1 hR
 have hvd:den β1 v=den β v:=den_congr (p:=fun _=>False) (fun l hl=>hl.elim) v hb0
 simp only[hvd]
 exact hnext _ _ (hm.call hm1.up (by rintro k ⟨l,hl,_⟩;cases hl)) (hf.put hd (bd_mono (fun l h=>h.elim) v hb0))
theorem stepD{o:Oper}{F:FF}{M:LL}{n:Nat}{K:SV->LL->Nat->Prop}{v:SV}(h:EN g P o (look F) (selM o (find M)) v [])(hk:K v [] n):StepD g P o F M n K:=
 ⟨v,[],n,h,Nat.le_refl n,fun b hb=>(by cases hb),List.nodup_nil,hk⟩
theorem Con.weak{f:FuncId}{args:List SV}{Lp:LL}{n0:Nat}{ms:List Nat}{R R':SV->LL->Nat->Prop}(h:Con P f args Lp n0 ms R)(hw:∀v L n,R v L n->∃ (ρ:Nat->Nat) (v':SV) (L':LL) (n':Nat),Weak n0 ρ [(0,v')] L' n' [(0,v)] L n/\R' v' L' n'):Con P f args Lp n0 ms R':=by
 refine⟨h.1,fun β0 W0 hpre=>(h.2 β0 W0 hpre).mono ?_⟩
 rintro e W ⟨v,L,n,β,hR,rfl,hbv,hm⟩
 obtain⟨ρ,v',L',n',⟨hF,hL,hni,hn,hb⟩,hR'⟩:=hw v L n hR
 have h0:=wkF_look (t:=0) (v:=v') hF rfl
 have hv:v=ren ρ v':=Option.some.inj h0.1
 refine⟨v',L',n',fun l=>β (ρ l),hR',?_,h0.2,hm.weak hL hni hn hb⟩
 rw[hv,den_ren]
theorem Con.calls{f:FuncId}{args:List SV}{R:SV->LL->Nat->Prop}(h:Con P f args [] 0 [] R){val:SV}(hv:∀v L n,R v L n->v=val)(hb0:bd (fun _=>False) val)(W:World):Calls P f (denL id args).toArray W fun e W'=>e= .returned (den id val)/\Below W.heap.size W W':=by
 refine(h.2 id W ⟨fun b h=>(by cases h),fun b h=>(by cases h)⟩).mono ?_
 rintro e W' ⟨v,L,n,β,hR,rfl,hbv,hm⟩
 obtain rfl:=hv v L n hR
 rw[den_congr (p:=fun _=>False) (β:=id) (γ:=β) (fun l hl=>hl.elim) v hb0]
 exact⟨rfl,hm.up.os,hm.up.tape,hm.up.output,hm.up.size,fun k hk=>hm.up.block k hk (by rintro⟨l,hl,_⟩;cases hl)⟩
end
end Go.Vg
