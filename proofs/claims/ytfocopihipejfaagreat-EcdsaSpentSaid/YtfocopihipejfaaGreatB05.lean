/-
  This text proves what these texts prove: VgP, VgQ, VgR. Conditions: those of each theorem.
-/
import Derived.Test.YtfocopihipejfaaGreatB04
set_option maxHeartbeats 8000000
set_option linter.all false
namespace Go.Vg
open Go.RowKit
theorem OF{acc:List Nat}{k:Nat}:∀ {es:List Edge},(B_ acc es).testBit k=true->∃e∈es,Region.binds .any e=true/\(e.on=k\/(acc.getD e.on 0).testBit k=true)
 | [],h=>by simp[B_]at h
 |e::es,h=>by
  simp only[B_]at h
  cases hb:Region.binds .any e with
  |false=>
   rw[hb]at h
   obtain⟨e',h1,h2⟩:=OF h
   exact⟨e',lj _ h1,h2⟩
  |true=>
   rw[hb]at h
   simp only[Nat.testBit_or,Fa]at h
   rcases h with(h|h)|h
   ·rw[Nat.testBit_two_pow]at h
    exact⟨e,kd,hb,Or.inl (by simpa using h)⟩
   ·exact⟨e,kd,hb,Or.inr h⟩
   ·obtain⟨e',h1,h2⟩:=OF h
    exact⟨e',lj _ h1,h2⟩
theorem U7:∀ (os:List Oper) (acc:List Nat) (i:Nat),i<acc.length->(eR acc os).getD i 0=acc.getD i 0
 | [],acc,i,_=>rfl
 |o::os,acc,i,h=>by
  simp only[eR]
  rw[U7 os _ i (by simp;omega)]
  simp[jQ,se h]
theorem U6:∀ (os:List Oper) (acc:List Nat) (i:Nat) (o:Oper),os[i]? =some o->∃Bi:List Nat,Bi.length=acc.length+i/\(eR acc os).getD (acc.length+i) 0=B_ Bi o.after.toList/\∀j,j<Bi.length->Bi.getD j 0=(eR acc os).getD j 0
 | [],acc,i,o,h=>by simp at h
 |o'::os,acc,0,o,h=>by
  simp only[Ht,fc]at h
  subst h
  refine⟨acc,by simp,?_,fun j hj=> ?_⟩
  ·simp only[eR,gY]
   rw[U7 os _ _ (by simp)]
   simp[jQ]
  ·simp only[eR]
   rw[U7 os _ j (by simp;omega)]
   simp[jQ,se hj]
 |o'::os,acc,i+1,o,h=>by
  obtain⟨Bi,h1,h2,h3⟩:=U6 os (acc++[B_ acc o'.after.toList]) i o (by simpa using h)
  refine⟨Bi,by simp at h1;omega,?_,fun j hj=> ?_⟩
  ·simp only[eR]
   rw[<-h2]
   congr 1
   simp
   omega
  ·simp only[eR];exact h3 j hj
structure sc(all:List Oper)(m:List Nat)(fl:Nat->Option Nat)(ck:Nat->Nat->Bool):Prop where
 FA:∀ (i:Nat) (o:Oper) (k:Nat),all[i]? =some o->fO m i k=true->∃e∈o.after,Region.binds .any e=true/\(e.on=k\/fO m e.on k=true)
 back:∀ (i:Nat) (o:Oper) (e:Edge),all[i]? =some o->e∈o.after->Region.binds .any e=true->e.on<i
 dst:∀ (i k:Nat) (o o':Oper) (t:Nat),all[i]? =some o->all[k]? =some o'->i≠k->o'.dst=some t->o.dst≠some t/\(t∈oZ all o->(k<i/\fO m i k=true)\/(i<k/\fO m k i=true))
 ord:∀ (i k:Nat) (o o':Oper),all[i]? =some o->all[k]? =some o'->i≠k->pG o'=true->jw o=true->((k<i/\fO m i k=true)\/(i<k/\fO m k i=true))\/ ∀l,ck k l=true->∃a,fl i=some a/\l≠a
theorem KY{m:List Nat}{i k:Nat}(h:uN m i k=true):(k<i/\fO m i k=true)\/(i<k/\fO m k i=true):=by
 simp only[uN,Fa,dq]at h
 rcases h with⟨h1,h2⟩|⟨h1,h2⟩
 ·exact Or.inl ⟨g_ h1,h2⟩
 ·exact Or.inr ⟨g_ h1,h2⟩
theorem sc.of{all:List Oper}{ck:Nat->Nat->Bool}(h:zI all=true):sc all (eR [] all) (fun _=>none) ck:=by
 have h0:∀i o,all[i]? =some o->(∀e∈o.after,Region.binds .any e=true->e.on<i)/\∀k o',all[k]? =some o'->i≠k->(∀t,o'.dst=some t->o.dst≠some t/\(t∈oZ all o->uN (eR [] all) i k=true))/\(pG o'=true->jw o=true->uN (eR [] all) i k=true):=by
  intro i o hi
  have kD:i<all.length:=(iN.1 hi).1
  simp only[zI,gf,tQ]at h
  have h1:=h i kD
  rw[hi]at h1
  simp only[dq,gf]at h1
  refine⟨fun e he hb=> ?_,fun k o' hk fV=> ?_⟩
  ·have:=h1.1 e (by simpa using he)
   rw[hb]at this
   simpa using this
  ·have jE:k<all.length:=(iN.1 hk).1
   have h2:=h1.2 k (tQ.2 jE)
   rw[hk]at h2
   have ek:Nat.beq i k=false:=by
    cases hb:Nat.beq i k with
    |false=>rfl
    |true=>exact(fV (vj hb)).elim
   rw[ek]at h2
   simp only[Bb,dq]at h2
   refine⟨fun t ht=> ?_,fun hs yK=> ?_⟩
   ·have h3:=h2.1
    rw[ht]at h3
    simp only[dq,Yb,Fa]at h3
    refine⟨fun e=>by rw[e]at h3;simp at h3,fun hm=> ?_⟩
    rcases h3.2 with h4|h4
    ·rw[Ca.2 hm]at h4;cases h4
    ·exact h4
   ·have h3:=h2.2
    rw[hs,yK]at h3
    simpa using h3
 refine⟨?_,fun i o e hi=>(h0 i o hi).1 e,?_,?_⟩
 ·intro i o k hi hb
  obtain⟨Bi,h1,h2,h3⟩:=U6 all [] i o hi
  simp only[pN,dB]at h1 h2
  unfold fO at hb
  rw[h2]at hb
  obtain⟨e,he,q8,kU⟩:=OF hb
  refine⟨e,by simpa using he,q8,?_⟩
  rcases kU with h4|h4
  ·exact Or.inl h4
  ·right
   have ab:=(h0 i o hi).1 e (by simpa using he) q8
   unfold fO
   rw[<-h3 e.on (by omega)]
   exact h4
 ·intro i k o o' t hi hk fV ht
  obtain⟨h1,h2⟩:=((h0 i o hi).2 k o' hk fV).1 t ht
  exact⟨h1,fun hm=>KY (h2 hm)⟩
 ·intro i k o o' hi hk fV hs hm
  exact Or.inl (KY (((h0 i o hi).2 k o' hk fV).2 hs hm))
theorem sc.ofC{all:List Oper}{F:Nat->Option SV}(h:MM all=true):sc all (eR [] all) (Rr all F) (MH all (eR [] all) F):=by
 have h0:∀i o,all[i]? =some o->(∀e∈o.after,Region.binds .any e=true->e.on<i)/\∀k o',all[k]? =some o'->i≠k->(∀t,o'.dst=some t->o.dst≠some t/\(t∈oZ all o->uN (eR [] all) i k=true))/\(pG o'=true->jw o=true->uN (eR [] all) i k=true\/(Dm all o).isSome=true):=by
  intro i o hi
  have kD:i<all.length:=(iN.1 hi).1
  simp only[MM,gf,tQ]at h
  have h1:=h i kD
  rw[hi]at h1
  simp only[dq,gf]at h1
  refine⟨fun e he hb=> ?_,fun k o' hk fV=> ?_⟩
  ·have:=h1.1 e (by simpa using he)
   rw[hb]at this
   simpa using this
  ·have jE:k<all.length:=(iN.1 hk).1
   have h2:=h1.2 k (tQ.2 jE)
   rw[hk]at h2
   have ek:Nat.beq i k=false:=by
    cases hb:Nat.beq i k with
    |false=>rfl
    |true=>exact(fV (vj hb)).elim
   rw[ek]at h2
   simp only[Bb,dq]at h2
   refine⟨fun t ht=> ?_,fun hs yK=> ?_⟩
   ·have h3:=h2.1
    rw[ht]at h3
    simp only[dq,Yb,Fa]at h3
    refine⟨fun e=>by rw[e]at h3;simp at h3,fun hm=> ?_⟩
    rcases h3.2 with h4|h4
    ·rw[Ca.2 hm]at h4;cases h4
    ·exact h4
   ·have h3:=h2.2
    rw[hs,yK]at h3
    simpa using h3
 refine⟨?_,fun i o e hi=>(h0 i o hi).1 e,?_,?_⟩
 ·intro i o k hi hb
  obtain⟨Bi,h1,h2,h3⟩:=U6 all [] i o hi
  simp only[pN,dB]at h1 h2
  unfold fO at hb
  rw[h2]at hb
  obtain⟨e,he,q8,kU⟩:=OF hb
  refine⟨e,by simpa using he,q8,?_⟩
  rcases kU with h4|h4
  ·exact Or.inl h4
  ·right
   have ab:=(h0 i o hi).1 e (by simpa using he) q8
   unfold fO
   rw[<-h3 e.on (by omega)]
   exact h4
 ·intro i k o o' t hi hk fV ht
  obtain⟨h1,h2⟩:=((h0 i o hi).2 k o' hk fV).1 t ht
  exact⟨h1,fun hm=>KY (h2 hm)⟩
 ·intro i k o o' hi hk fV hs hm
  rcases((h0 i o hi).2 k o' hk fV).2 hs hm with h1|h1
  ·exact Or.inl (KY h1)
  ·cases hb:uN (eR [] all) i k with
   |true=>exact Or.inl (KY hb)
   |false=>
    right
    intro l hl
    obtain⟨t,ht⟩:=ae5.1 h1
    simp only[MH,gf,tQ]at hl
    have h2:=hl i (iN.1 hi).1
    rw[hi]at h2
    simp only[ht,hb,Bb]at h2
    cases pB:yT F t with
    |none=>rw[pB]at h2;cases h2
    |some a=>
     rw[pB]at h2
     refine⟨a,by simp[Rr,hi,ht,pB],fun e=> ?_⟩
     subst e
     simp at h2
section
variable {P:Program}{g:G}{T:Nat->Option Ty}
def Case(T:Nat->Option Ty)(P:Program)(g:G)(all:List Oper)(o:Oper)(e:E)(Ft:Nat->Option SV)(V:Nat->Option aC):Prop:=
 ((∃x,o.guard=none\/ ∃j oj d,o.guard=some (j,x)/\all[j]? =some oj/\oj.dst=some d/\d∈oZ all o/\Ft d=some (.bool x))/\
    ((∃v,fF T Ft V o.op (.val v)/\e=⟨o.dst,v,[],none⟩)\/(∃f cs t k,fF T Ft V o.op (.new f cs t)/\e=⟨o.dst,f k,[⟨k,cs,t⟩],none⟩)\/
      (∃l q vs b,fF T Ft V o.op (.wr l q vs)/\V l=some b/\own g.n0 g.ms l=true/\e=⟨o.dst,.raw undef,[],some (l,q,vs)⟩)\/(∃v nw,EN g P o Ft (qD o V) v nw/\e=⟨o.dst,v,nw,none⟩)))\/
    ((∃j x oj d,o.guard=some (j,!x)/\all[j]? =some oj/\oj.dst=some d/\d∈oZ all o/\Ft d=some (.bool x))/\e=⟨o.dst,.raw undef,[],none⟩)
theorem fF.arh{op:Op}{F:Nat->Option SV}{L:Nat->Option aC}{l q:Nat}{vs:List SV}(h:fF T F L op (.wr l q vs)):∃t x y,op= .store t x y:=by
 cases h
 exact⟨_,_,_,rfl⟩
def tN(fl:Nat->Option Nat)(i:Nat)(V:Nat->Option aC)(l:Nat):Option aC:=
 match fl i with
 |none=>V l
 |some a=>if l=a then V l else none
theorem Wj{fl:Nat->Option Nat}{i:Nat}(h:fl i=none)(V:Nat->Option aC):tN fl i V=V:=by
 funext l;simp only[tN,h]
theorem akL{F:Nat->Option SV}{M V:Nat->Option aC}{t x a:Nat}{e:Ho}(hr:fF T F M (.load t (.tmp x)) e)(pB:yT F x=some a)(h:V a=M a):fF T F V (.load t (.tmp x)) e:=by
 generalize iI:Op.load t (.tmp x)=op at hr
 cases hr with
 |val hn hv=>
  subst iI
  refine .val hn ?_
  have hx:ev F (.tmp x)=F x:=rfl
  simp only[gd,hx]at hv⊢
  unfold yT at pB
  cases hF:F x with
  |none=>rw[hF]at pB;cases pB
  |some v=>
   rw[hF]at pB hv
   simp only at hv⊢
   cases hT:T t with
   |none=>rw[hT]at hv;cases hv
   |some i=>
    rw[hT]at hv
    simp only at hv⊢
    cases v with
    |ptr l o=>simp only[fc]at pB;subst pB;simp only[rd,h]at hv⊢;exact hv
    |gM l o=>simp only[fc]at pB;subst pB;simp only[rd,h]at hv⊢;exact hv
    |_=>simp at pB
 |_=>cases iI
theorem aq_{F:FF}{L:LL}{n n0:Nat}{ms:List Nat}{o:Oper}{S:Prop}{Kv:FF->Prop}{Kn:FF->aC->Prop}{Kw:FF->Nat->List SV->Prop}{t:Nat}{x:Operand}(iI:o.op= .load t x)(h:ze T Ar.real n0 ms S Kv Kn Kw o F L n):
 ∃v,fF T (look F) (find L) o.op (.val v)/\Kv (cH F o.dst v):=by
 unfold ze at h
 rw[iI]at h⊢
 simp only[native]at h
 cases hv:gd Ar.real T (look F) (find L) (.load t x)with
 |none=>rw[hv]at h;exact h.elim
 |some v=>rw[hv]at h;exact⟨v,.val rfl hv,h⟩
theorem aq8{F:FF}{L:LL}{n n0:Nat}{ms:List Nat}{o:Oper}{S p:Prop}{Kv:FF->Prop}{Kn:FF->aC->Prop}{Kw:FF->Nat->List SV->Prop}(kU:p\/ ∃t x,o.op= .load t x)(h:ze T Ar.real n0 ms S Kv Kn Kw o F L n):
 (p/\S)\/(∃v,fF T (look F) (find L) o.op (.val v)/\Kv (cH F o.dst v))\/(∃f cs t,fF T (look F) (find L) o.op (.new f cs t)/\Kn (cH F o.dst (f n)) ⟨n,cs,t⟩)\/
 (∃l q vs b,fF T (look F) (find L) o.op (.wr l q vs)/\find L l=some b/\own n0 ms l=true/\Kw (cH F o.dst (.raw undef)) l (splice b.cs q vs)):=by
 rcases kU with hp|⟨t,x,iI⟩
 ·rcases aez h with h|h
  ·exact Or.inl ⟨hp,h⟩
  ·exact Or.inr h
 ·exact Or.inr (Or.inl (aq_ iI h))
theorem fF.apo{o:Oper}{F:Nat->Option SV}{L:Nat->Option aC}{f:Nat->SV}{cs:List SV}{t:Nat}(h:fF T F L o.op (.new f cs t))(hq:quiet o=true):False:=by
 unfold quiet at hq
 generalize o.op=op at h hq
 cases h<;>simp at hq
theorem aq9{F:FF}{L:LL}{n n0:Nat}{ms:List Nat}{o:Oper}{S p:Prop}{Kv:FF->Prop}{Kn:FF->aC->Prop}{Kw:FF->Nat->List SV->Prop}(kU:p\/ ∃t x,o.op= .load t x)(h:ze T Ar.real n0 ms S Kv Kn Kw o F L n):
 ((p/\quiet o=false)/\S)\/(∃v,fF T (look F) (find L) o.op (.val v)/\Kv (cH F o.dst v))\/(∃f cs t,fF T (look F) (find L) o.op (.new f cs t)/\Kn (cH F o.dst (f n)) ⟨n,cs,t⟩)\/
 (∃l q vs b,fF T (look F) (find L) o.op (.wr l q vs)/\find L l=some b/\own n0 ms l=true/\Kw (cH F o.dst (.raw undef)) l (splice b.cs q vs)):=by
 cases hq:quiet o with
 |false=>
  rcases aq8 kU h with⟨hp,hs⟩|h
  ·exact Or.inl ⟨⟨hp,rfl⟩,hs⟩
  ·exact Or.inr h
 |true=>
  right;left
  unfold quiet at hq
  unfold ze at h
  cases ho:o.op with
  |move _|assign _|load _ _|fieldAddr _ _ _|nilCheck _|extract _ _=>
   rw[ho]at h
   simp only[native]at h
   split at h
   ·rename_i v hv
    exact⟨v,.val rfl hv,h⟩
   ·exact h.elim
  |_=>rw[ho]at hq;simp at hq
theorem Wi{sk:Nat->Bool}{all:List Oper}{m:List Nat}{fl:Nat->Option Nat}{ck:Nat->Nat->Bool}(hE:sc all m fl ck){F0:FF}{B0:LL}{nS:Nat}{K:FF->LL->NL->Nat->Prop}(uz:∀i a,fl i=some a->∃o t x,all[i]? =some o/\o.op= .load t (.tmp x)/\(∀o'∈all,o'.dst≠some x)/\yT (look F0) x=some a):∀ (rest:List Oper) (done:List E) (F:FF) (B:LL) (N:NL) (n:Nat),(∃tl,all.drop done.length=rest++tl)->Told done F0 B0 nS F B N n->
 (∀ (k:Nat) (e:E),done[k]? =some e->∃o,all[k]? =some o/\(∀t,e.d=some t->o.dst=some t)/\∀l q vs,e.w=some (l,q,vs)->pG o=true/\ck k l=true)->oz T Ar.real P g g.n0 g.ms ck sk all m K rest done.length F B N n->
 ∃ (es:List E) (F':FF) (B':LL) (N':NL) (n':Nat) (jx:Nat->Nat),es.length=rest.length/\Told (done++es) F0 B0 nS F' B' N' n'/\K F' B' N' n'/\jx 0=n/\
   (∀ (j:Nat) (e:E) (o:Oper),es[j]? =some e->rest[j]? =some o->((sk (done.length+j)=false/\e.d=o.dst/\(e.w≠none->pG o=true/\jw o=true)/\Case T P g all o e (FD (done++es.take j) (fun _=>true) (look F0)) (tN fl (done.length+j) (LD (done++es.take j) (fO m (done.length+j)) (find B0))))\/(sk (done.length+j)=true/\e=⟨none,.cR,[],none⟩))/\
    (∀l q vs,e.w=some (l,q,vs)->(∃b,LD (done++es.take j) (fO m (done.length+j)) (find B0) l=some b)/\ck (done.length+j) l=true)/\(∀b∈e.nw,jx j<=b.l/\b.l<jx (j+1))/\jx j<=jx (j+1)/\(quiet o=true->e.nw=[]/\e.w=none)):=by
 intro rest
 induction rest with
 |nil=>
  intro done F B N n _ ht _ h
  exact⟨[],F,B,N,n,fun _=>n,rfl,by simpa using ht,h,rfl,fun j e o hj=>by simp at hj⟩
 |cons o rest ih=>
  intro done F B N n NA ht aW h
  obtain⟨tl,NA⟩:=NA
  have JW:all[done.length]? =some o:=by
   have:=aK (fun l=>l[0]?) NA
   simpa using this
  have ajF:all.drop (done.length+1)=rest++tl:=by
   have:=aK (List.drop 1) NA
   simpa [oB]using this
  have hV:jw o=true->∀l,(fl done.length=none\/fl done.length=some l)->LD done (fO m done.length) (find B0) l=find (B++wk m done.length N) l:=by
   intro hm l kU
   rw[Rc]
   refine ht.bl _ l (fun k e q vs hk hw=> ?_)
   obtain⟨o',d_,_,BV⟩:=aW k e hk
   obtain⟨hs,S7⟩:=BV l q vs hw
   have jE:k<done.length:=(iN.1 hk).1
   rcases hE.ord _ _ _ _ JW d_ (by omega) hs hm with(⟨_,h2⟩|⟨h1,_⟩)|h3
   ·exact h2
   ·omega
   ·obtain⟨a,ha,ek⟩:=h3 l S7
    rcases kU with h|h
    ·rw[h]at ha;cases ha
    ·rw[h]at ha;exact(ek (ef ha)).elim
  have conv:∀ {e:Ho},fF T (look F) (find (B++wk m done.length N)) o.op e->fF T (FD done (fun _=>true) (look F0)) (tN fl done.length (LD done (fO m done.length) (find B0))) o.op e:=by
   intro e hr
   cases hf:fl done.length with
   |none=>
    rw[<-ht.fr,Wj hf]
    exact hr.congr (fun _ _=>rfl) (fun hm l b hl=>by rw[hV hm l (Or.inl hf)];exact hl)
   |some a=>
    obtain⟨o',t,x,d_,iI,hx,pB⟩:=uz _ _ hf
    rw[JW]at d_
    obtain rfl:=ef d_
    have R6:look F x=look F0 x:=by
     rw[ht.fr]
     refine MZ fun k e h1 _=> ?_
     obtain⟨o'',h2,h3,_⟩:=aW k e h1
     intro h4
     exact hx o'' (CL h2) (h3 _ h4)
    have ajT:yT (look F) x=some a:=by unfold yT at pB⊢;rw[R6];exact pB
    rw[<-ht.fr]
    rw[iI]at hr⊢
    refine akL hr ajT ?_
    simp only[tN,hf,xk]
    exact hV (by simp[jw,iI]) a (Or.inr hf)
  -- one operation's effect, then the rest
  have step:∀ (e:E) (F1:FF) (B1:LL) (N1:NL) (n1:Nat),((sk done.length=false/\e.d=o.dst/\(e.w≠none->pG o=true/\jw o=true)/\Case T P g all o e (FD done (fun _=>true) (look F0)) (tN fl done.length (LD done (fO m done.length) (find B0))))\/(sk done.length=true/\e=⟨none,.cR,[],none⟩))->
   (∀l q vs,e.w=some (l,q,vs)->(∃b,LD done (fO m done.length) (find B0) l=some b)/\ck done.length l=true)->(quiet o=true->e.nw=[]/\e.w=none)->(∀b∈e.nw,n<=b.l/\b.l<n1)->n<=n1->Told (done++[e]) F0 B0 nS F1 B1 N1 n1->
   oz T Ar.real P g g.n0 g.ms ck sk all m K rest (done.length+1) F1 B1 N1 n1->∃ (es:List E) (F':FF) (B':LL) (N':NL) (n':Nat) (jx:Nat->Nat),es.length=(o::rest).length/\Told (done++es) F0 B0 nS F' B' N' n'/\K F' B' N' n'/\jx 0=n/\
   (∀ (j:Nat) (e:E) (o':Oper),es[j]? =some e->(o::rest)[j]? =some o'->((sk (done.length+j)=false/\e.d=o'.dst/\(e.w≠none->pG o'=true/\jw o'=true)/\Case T P g all o' e (FD (done++es.take j) (fun _=>true) (look F0)) (tN fl (done.length+j) (LD (done++es.take j) (fO m (done.length+j)) (find B0))))\/(sk (done.length+j)=true/\e=⟨none,.cR,[],none⟩))/\
    (∀l q vs,e.w=some (l,q,vs)->(∃b,LD (done++es.take j) (fO m (done.length+j)) (find B0) l=some b)/\ck (done.length+j) l=true)/\(∀b∈e.nw,jx j<=b.l/\b.l<jx (j+1))/\jx j<=jx (j+1)/\(quiet o'=true->e.nw=[]/\e.w=none)):=by
   intro e F1 B1 N1 n1 h1 h4 hqt h5 h6 h7 h8
   obtain⟨es,F',B',N',n',jx,k1,k2,k3,k4,k5⟩:=ih (done++[e]) F1 B1 N1 n1 ⟨tl,by simpa using ajF⟩ h7 (fun k e' hk=>by
    by_cases ab:k<done.length
    ·rw[se ab]at hk
     exact aW k e' hk
    ·rw[Hs (by omega)]at hk
     cases kE:k-done.length with
     |zero=>
      rw[kE]at hk
      simp only[Ht,fc]at hk
      subst hk
      have dF:k=done.length:=by omega
      refine⟨o,by rw[dF];exact JW,fun t ht=> ?_,fun l q vs hw=>⟨?_,by rw[dF];exact(h4 l q vs hw).2⟩⟩
      ·rcases h1 with h1|h1
       ·rw[<-h1.2.1];exact ht
       ·rw[h1.2]at ht;cases ht
      ·rcases h1 with h1|h1
       ·exact(h1.2.2.1 (by rw[hw];simp)).1
       ·rw[h1.2]at hw;cases hw
     |succ j=>rw[kE]at hk;simp at hk) (by simpa using h8)
   refine⟨e::es,F',B',N',n',fun j=>if j=0 then n else jx (j-1),by simp[k1],by simpa using k2,k3,rfl,?_⟩
   intro j e' o' hj d_
   cases j with
   |zero=>
    simp only[Ht,fc]at hj d_
    subst hj d_
    refine⟨by simpa using h1,by simpa using h4,?_,?_,hqt⟩
    ·intro b hb
     have:=h5 b hb
     simp only[xk,dB,Nat.one_ne_zero,GH,vH,k4]
     exact this
    ·simp only[xk,dB,Nat.one_ne_zero,GH,vH,k4]
     exact h6
   |succ j=>
    have:=k5 j e' o' (by simpa using hj) (by simpa using d_)
    simp only[LU,dI,mU,pN,jA,du,cM]at this⊢
    rw[show done.length+(0+1)+j=done.length+(j+1) by omega]at this
    refine⟨this.1,this.2.1,?_,?_,this.2.2.2.2⟩
    ·simpa using this.2.2.1
    ·simpa using this.2.2.2.1
  simp only[oz,EY]at h
  cases pE:sk done.length with
  |true=>
   simp only[pE]at h
   refine step ⟨none,.cR,[],none⟩ F B N n (Or.inr ⟨pE,rfl⟩) (fun _ _ _ h=>by cases h) (fun _=>⟨rfl,rfl⟩) (fun b hb=>by cases hb) (aE n) ?_ h
   exact ht.val (d:=none) (v:= .cR)
  |false=>
  simp only[pE]at h
  have exec:(∃x,o.guard=none\/ ∃j oj d,o.guard=some (j,x)/\all[j]? =some oj/\oj.dst=some d/\d∈oZ all o/\FD done (fun _=>true) (look F0) d=some (.bool x))->
   ze T Ar.real g.n0 g.ms (zu g P o F (B++wk m done.length N) n fun v nw n'=>oz T Ar.real P g g.n0 g.ms ck sk all m K rest (done.length+1) (cH F o.dst v) B (N++tE done.length nw) n') (fun F'=>oz T Ar.real P g g.n0 g.ms ck sk all m K rest (done.length+1) F' B N n)
    (fun F' b=>oz T Ar.real P g g.n0 g.ms ck sk all m K rest (done.length+1) F' B (N++[(done.length,b)]) (n+1)) (fun F' l cs=>ck done.length l=true/\oz T Ar.real P g g.n0 g.ms ck sk all m K rest (done.length+1) F' (u6 l cs B) (zc l cs N) n) o F (B++wk m done.length N) n->
   ∃ (es:List E) (F':FF) (B':LL) (N':NL) (n':Nat) (jx:Nat->Nat),es.length=(o::rest).length/\Told (done++es) F0 B0 nS F' B' N' n'/\K F' B' N' n'/\jx 0=n/\
   (∀ (j:Nat) (e:E) (o':Oper),es[j]? =some e->(o::rest)[j]? =some o'->((sk (done.length+j)=false/\e.d=o'.dst/\(e.w≠none->pG o'=true/\jw o'=true)/\Case T P g all o' e (FD (done++es.take j) (fun _=>true) (look F0)) (tN fl (done.length+j) (LD (done++es.take j) (fO m (done.length+j)) (find B0))))\/(sk (done.length+j)=true/\e=⟨none,.cR,[],none⟩))/\
    (∀l q vs,e.w=some (l,q,vs)->(∃b,LD (done++es.take j) (fO m (done.length+j)) (find B0) l=some b)/\ck (done.length+j) l=true)/\(∀b∈e.nw,jx j<=b.l/\b.l<jx (j+1))/\jx j<=jx (j+1)/\(quiet o'=true->e.nw=[]/\e.w=none)):=by
   intro hg hv
   have qj:=aq9 (p:=fl done.length=none) (by
    cases hf:fl done.length with
    |none=>exact Or.inl rfl
    |some a=>
     obtain⟨o',t,x,d_,iI,_,_⟩:=uz _ _ hf
     rw[JW]at d_
     obtain rfl:=ef d_
     exact Or.inr ⟨t,_,iI⟩) hv
   rcases qj with⟨⟨hf,iV⟩,v,nw,n1,wK,hn,Gt,Ao,hk⟩|⟨v,hr,hk⟩|⟨f,cs,t,hr,hk⟩|⟨l,q,vs,b,hr,hb,c_,S7,hk⟩
   ·refine step ⟨o.dst,v,nw,none⟩ _ B _ n1 (Or.inl ⟨pE,rfl,fun h=>(h rfl).elim,Or.inl ⟨hg,Or.inr (Or.inr (Or.inr ⟨v,nw,?_,rfl⟩))⟩⟩) (fun _ _ _ h=>by cases h) (fun hq=>by rw[iV]at hq;cases hq) Gt hn (ht.app hn Gt Ao) hk
    rw[<-ht.fr]
    have:qD o (tN fl done.length (LD done (fO m done.length) (find B0)))=qD o (find (B++wk m done.length N)):=by
     rw[Wj hf]
     unfold qD
     cases hm:jw o with
     |true=>exact funext fun l=>hV hm l (Or.inl hf)
     |false=>rfl
    rw[this];exact wK
   ·exact step ⟨o.dst,v,[],none⟩ _ B N n (Or.inl ⟨pE,rfl,fun h=>(h rfl).elim,Or.inl ⟨hg,Or.inl ⟨v,conv hr,rfl⟩⟩⟩) (fun _ _ _ h=>by cases h) (fun _=>⟨rfl,rfl⟩) (fun b hb=>by cases hb) (aE n) ht.val hk
   ·refine step ⟨o.dst,f n,[⟨n,cs,t⟩],none⟩ _ B (N++[(done.length,⟨n,cs,t⟩)]) (n+1) (Or.inl ⟨pE,rfl,fun h=>(h rfl).elim,Or.inl ⟨hg,Or.inr (Or.inl ⟨f,cs,t,n,conv hr,rfl⟩)⟩⟩) (fun _ _ _ h=>by cases h) (fun hq=>(hr.apo hq).elim) (fun b hb=> ?_) (vu n) ?_ hk
    ·obtain rfl:=il.1 hb;simp
    ·have:=ht.app (d:=o.dst) (v:=f n) (nw:=[⟨n,cs,t⟩]) (vu n) (fun b hb=>by obtain rfl:=il.1 hb;simp) (by simp)
     simpa [tE]using this
   ·obtain⟨t',x',y',iI⟩:=hr.arh
    have hs:pG o=true:=by simp[pG,iI]
    have hm:jw o=true:=by simp[jw,iI]
    have hf:fl done.length=none:=by
     cases hf:fl done.length with
     |none=>rfl
     |some a=>
      obtain⟨o',t,x,d_,abe,_,_⟩:=uz _ _ hf
      rw[JW]at d_
      obtain rfl:=ef d_
      rw[iI]at abe;cases abe
    have Ga:LD done (fO m done.length) (find B0) l=some b:=by rw[hV hm l (Or.inl hf)];exact hb
    refine step ⟨o.dst,.raw undef,[],some (l,q,vs)⟩ _ _ _ n (Or.inl ⟨pE,rfl,fun _=>⟨hs,hm⟩,Or.inl ⟨hg,Or.inr (Or.inr (Or.inl ⟨l,q,vs,b,conv hr,by rw[Wj hf];exact Ga,c_,rfl⟩))⟩⟩) (fun l' q' He h=> ?_) (fun hq=>by simp[quiet,iI]at hq) (fun b hb=>by cases hb) (aE n) (ht.wr (by rw[<-Rc];exact hb)) hk
    simp only[fc,xT]at h
    obtain⟨rfl,_,_⟩:=h
    exact⟨⟨b,Ga⟩,S7⟩
  cases l7:o.guard with
  |none=>
   simp only[l7]at h
   exact exec ⟨true,Or.inl l7⟩ h
  |some p=>
   obtain⟨j,bb⟩:=p
   simp only[l7]at h
   cases hj:all[j]? with
   |none=>simp[hj]at h
   |some oj=>
    simp only[hj]at h
    cases pr:oj.dst with
    |none=>simp[pr]at h
    |some d=>
     simp only[pr]at h
     have je:d∈oZ all o:=by
      unfold oZ
      simp[l7,hj,pr]
     cases hl:look F d with
     |none=>simp[hl]at h
     |some v=>
      cases v with
      |bool x=>
       have IK:FD done (fun _=>true) (look F0) d=some (.bool x):=by rw[<-ht.fr];exact hl
       have skip:bb= !x->oz T Ar.real P g g.n0 g.ms ck sk all m K rest (done.length+1) (cH F o.dst (.raw undef)) B N n->_:=fun yx hk=>
        step ⟨o.dst,.raw undef,[],none⟩ _ B N n (Or.inl ⟨pE,rfl,fun h=>(h rfl).elim,Or.inr ⟨⟨j,x,oj,d,by rw[l7,yx],hj,pr,je,IK⟩,rfl⟩⟩) (fun _ _ _ h=>by cases h) (fun _=>⟨rfl,rfl⟩) (fun b hb=>by cases hb) (aE n) ht.val hk
       simp only[hl]at h
       cases x<;>cases bb<;>simp only at h
       ·exact exec ⟨false,Or.inr ⟨j,oj,d,l7,hj,pr,je,IK⟩⟩ h
       ·exact skip rfl h
       ·exact skip rfl h
       ·exact exec ⟨true,Or.inr ⟨j,oj,d,l7,hj,pr,je,IK⟩⟩ h
      |_=>simp[hl]at h
end
end Go.Vg
namespace Go.Vg
open Go.RowKit
section
variable {P:Program}{g:G}{T:Nat->Option Ty}
theorem Mem.OY{β:Nat->Nat}{L:Nat->Option aC}{p q:Nat->Prop}{W:World}(hm:Mem g β L p W)(h:∀l,p l->q l):Mem g β L q W:=
 ⟨fun l hl=>h l (hm.low l hl),hm.fC,hm.new,hm.inj,hm.cell,fun l b hb=>⟨h l (hm.bL l b hb).1,pg h _ (hm.bL l b hb).2⟩,hm.up⟩
theorem Mem.drawn{β:Nat->Nat}{L:Nat->Option aC}{p:Nat->Prop}{W:World}(hm:Mem g β L p W):Mem g β L p {W with drawn:=W.drawn+1}:=
 ⟨hm.low,hm.fC,hm.new,hm.inj,hm.cell,hm.bL,⟨hm.up.os,hm.up.tape,hm.up.output,hm.up.size,hm.up.block⟩⟩
theorem sc.lt{all:List Oper}{m:List Nat}{fl:Nat->Option Nat}{ck:Nat->Nat->Bool}(h:sc all m fl ck){k:Nat}:∀ {i:Nat},i<all.length->fO m i k=true->k<i:=by
 intro i
 induction i using Nat.strongRecOn with
 |_ i ih=>
  intro hi hb
  obtain⟨e,he,q8,kU⟩:=h.FA i (all[i]'hi) k (jo hi) hb
  have ab:=h.back i _ e (jo hi) he q8
  rcases kU with h1|h1
  ·omega
  ·have:=ih e.on ab (by omega) h1
   omega
theorem Ri(hT:cI P T){ops:Array Oper}{fl:Nat->Option Nat}{ck:Nat->Nat->Bool}{sk:Nat->Bool}(hE:sc ops.toList (eR [] ops.toList) fl ck)(hd:∀o∈ops.toList,∀t,o.dst=some t->t<g.N){F:FF}{L:LL}{n:Nat}(hL:∀l b,find L l=some b->l<n){es:List E}{jx:Nat->Nat}(hlen:es.length<=ops.size)(k4:jx 0=n)
 (k5:∀ (j:Nat) (e:E) (o:Oper),es[j]? =some e->ops.toList[j]? =some o->((sk j=false/\e.d=o.dst/\(e.w≠none->pG o=true/\jw o=true)/\Case T P g ops.toList o e (FD (es.take j) (fun _=>true) (look F)) (tN fl j (LD (es.take j) (fO (eR [] ops.toList) j) (find L))))\/(sk j=true/\e=⟨none,.cR,[],none⟩))/\
    (∀l q vs,e.w=some (l,q,vs)->(∃b,LD (es.take j) (fO (eR [] ops.toList) j) (find L) l=some b)/\ck j l=true)/\(∀b∈e.nw,jx j<=b.l/\b.l<jx (j+1))/\jx j<=jx (j+1)/\(quiet o=true->e.nw=[]/\e.w=none))
 (uz:∀i a,fl i=some a->∃o t x,ops.toList[i]? =some o/\o.op= .load t (.tmp x)/\(∀o'∈ops.toList,o'.dst≠some x)/\yT (look F) x=some a):
 Fits P g ops es (look F) (find L) n (fun i=>match ops[i]? with|some o=>oZ ops.toList o|none=> []) (fun i l=>match ops[i]? with|some o=>jw o&&(match fl i with|none=>true|some a=>Nat.beq l a)|none=>false) (fO (eR [] ops.toList)) jx (fun i=>sk i=false):=by
 have uE:∀ (i:Nat) (o:Oper),ops[i]? =some o↔ops.toList[i]? =some o:=fun i o=>by rw[E']
 have BT:∀ (i:Nat) (e:E),es[i]? =some e->∃o,ops.toList[i]? =some o:=fun i e he=>by
  have h1:=(iN.1 he).1
  have:i<ops.toList.length:=by rw[tO];omega
  exact⟨_,jo this⟩
 have lU:∀ (i:Nat) (e:E) (o:Oper) (t:Nat),es[i]? =some e->ops.toList[i]? =some o->e.d=some t->o.dst=some t:=fun i e o t he ho ht=>by
  rcases(k5 i e o he ho).1 with h|h
  ·rw[<-h.2.1];exact ht
  ·rw[h.2]at ht;cases ht
 have hww:∀ (i:Nat) (e:E) (o:Oper),es[i]? =some e->ops.toList[i]? =some o->e.w≠none->pG o=true/\jw o=true:=fun i e o he ho hw=>by
  rcases(k5 i e o he ho).1 with h|h
  ·exact h.2.2.1 hw
  ·rw[h.2]at hw;exact(hw rfl).elim
 have hFt:∀i,FD es (fun k=>decide (k<i)) (look F)=FD (es.take i) (fun _=>true) (look F):=fun i=>funext fun t=>by
  simp only[FD]
  rw[Rm (i:=i) (fun k hk=>by simp;omega) (bf i),tU]
  refine Iw fun k e hk=> ?_
  have:k<i:=by
   have:=(iN.1 hk).1
   rw[eY]at this
   omega
  simp[this]
 have hLt:∀i,i<ops.size->LD es (fun k=>fO (eR [] ops.toList) i k) (find L)=LD (es.take i) (fO (eR [] ops.toList) i) (find L):=fun i hi=>funext fun l=>by
  simp only[LD]
  rw[Rm (i:=i) (fun k hk=> ?_) (bf i),tU]
  cases hb:fO (eR [] ops.toList) i k with
  |false=>rfl
  |true=>have:=hE.lt (by simpa using hi) hb;omega
 refine⟨hlen,fun i o k ho hb=>hE.FA i o k ((uE i o).1 ho) hb,fun i o e ho he hb=>hE.back i o e ((uE i o).1 ho) he hb,?_,?_,?_,?_,?_,k4,?_,hL,?_⟩
 ·intro i k e e' t he lz fV DK ajG
  obtain⟨o,ho⟩:=BT i e he
  obtain⟨o',d_⟩:=BT k e' lz
  exact(hE.dst i k o o' t ho d_ fV (lU k e' o' t lz d_ ajG)).1 (lU i e o t he ho DK)
 ·intro i k e t pv he fV DK ht
  obtain⟨o',d_⟩:=BT k e he
  have ho:=oA pv
  rw[ho]at ht
  exact(hE.dst i k _ o' t ((uE i _).1 ho) d_ fV (lU k e o' t he d_ DK)).2 ht
 ·intro i k e l q vs wP pv he hw fV
  obtain⟨o',d_⟩:=BT k e he
  have ho:=oA pv
  rw[ho]at wP
  simp only[dq]at wP
  rcases hE.ord i k _ o' ((uE i _).1 ho) d_ fV (hww k e o' he d_ (by rw[hw];simp)).1 wP.1 with h3|h3
  ·exact h3
  ·exfalso
   obtain⟨a,ha,ek⟩:=h3 l ((k5 k e o' he d_).2.1 l q vs hw).2
   have h4:=wP.2
   rw[ha]at h4
   exact ek (vj h4)
 ·intro i e l q vs he hw
  obtain⟨o,ho⟩:=BT i e he
  have h3:=hww i e o he ho (by rw[hw];simp)
  have hf:fl i=none:=by
   cases hf:fl i with
   |none=>rfl
   |some a=>
    obtain⟨o',t,x,d_,iI,_,_⟩:=uz _ _ hf
    rw[ho]at d_
    obtain rfl:=ef d_
    have:=h3.1
    rw[pG,iI]at this;cases this
  rw[(uE i o).2 ho]
  simp only[h3.2,hf,Bool.and_self]
 ·intro i e he
  obtain⟨o,ho⟩:=BT i e he
  exact⟨(k5 i e o he ho).2.2.1,(k5 i e o he ho).2.2.2.1⟩
 ·intro i e k q vs he hw
  obtain⟨o,ho⟩:=BT i e he
  have pv:i<ops.size:=cg (iN.1 he).1 hlen
  have:=((k5 i e o he ho).2.1 k q vs hw).1
  rw[<-hLt i pv]at this
  exact this
 ·intro i e kX he
  obtain⟨o,ho⟩:=BT i e he
  have pv:i<ops.size:=cg (iN.1 he).1 hlen
  obtain⟨ta,_,hc⟩:e.d=o.dst/\(e.w≠none->pG o=true/\jw o=true)/\Case T P g ops.toList o e (FD (es.take i) (fun _=>true) (look F)) (tN fl i (LD (es.take i) (fO (eR [] ops.toList) i) (find L))):=by
   rcases(k5 i e o he ho).1 with h|h
   ·exact h.2
   ·rw[h.1]at kX;cases kX
  rw[<-hFt i,<-hLt i pv]at hc
  have nj:=(uE i o).2 ho
  intro β p F1 L1 a W hF hM BK DW hm hf
  simp only[nj]at hF hM
  refine al9 hT nj (hd o (CL ho)) ta (V:=tN fl i (LD es (fun k=>fO (eR [] ops.toList) i k) (find L))) ?_ β p F1 L1 a W hF (fun Gp l b hl=> ?_) BK DW hm hf
  rotate_left
  ·unfold tN at hl
   cases hf:fl i with
   |none=>rw[hf]at hl;exact hM l b (by simp[Gp,hf]) hl
   |some a=>
    rw[hf]at hl
    simp only at hl
    by_cases Tw:l=a
    ·rw[aj Tw]at hl;exact hM l b (by simp[Gp,hf,Tw]) hl
    ·rw[af Tw]at hl;cases hl
  unfold Case at hc
  simpa only[uE]using hc
structure PR(es:List E)(U:Nat->Prop)(F':FF)(F1:Nat->Option SV)(p_:List E)(u5:Nat->Prop):Prop where
 val:∀ (k:Nat) (e:E) (t:Nat),U k->es[k]? =some e->e.d=some t->look F' t=some e.v/\F1 t=none
 le:∀t v,F1 t=some v->look F' t=some v
 same:∀ (k:Nat) (e e':E),U k->es[k]? =some e->p_[k]? =some e'->e'.d=e.d/\e'.v=e.v/\e'.nw=[]/\e'.w=none
 blank:∀ (k:Nat) (e':E),k<=es.length->¬ (U k/\k<es.length)->p_[k]? =some e'->e'=⟨none,.cR,[],none⟩
 len:es.length<p_.length
 un:∀k,(U k/\k<es.length)\/es.length<k->u5 k
def Ry(ops:Array Oper)(lk:List Nat)(F:FF)(o:Oper):Prop:=o.guard=none\/ ∃j b oj d,o.guard=some (j,b)/\ops[j]? =some oj/\oj.dst=some d/\d∈lk/\look F d=some (.bool b)
inductive Tree (P:Program) (g:G) (ops:Array Oper) (Q:Exit->Act->World->Prop):(Nat->Option SV)->(Nat->Option aC)->Nat->List E->(Nat->Prop)->Prop
 |fin {F0:Nat->Option SV} {L0:Nat->Option aC} {n:Nat} {es:List E} {un:Nat->Prop} {lk:Nat->List Nat} {mem:Nat->Nat->Bool} {fj:Nat->Nat->Bool} {nn:Nat->Nat} (hl:es.length=ops.size) (hF:Fits P g ops es F0 L0 n lk mem fj nn un)
  (hQ:∀β a W,Mem g β (LD es (fun _=>true) L0) (PD es (fun _=>true) (fun l=>l<n)) W->eX g β (FD es (fun _=>true) F0) (PD es (fun _=>true) (fun l=>l<n)) a->Q .normal a W):Tree P g ops Q F0 L0 n es un
 |cut {F0:Nat->Option SV} {L0:Nat->Option aC} {n:Nat} {es:List E} {un:Nat->Prop} {lk:Nat->List Nat} {mem:Nat->Nat->Bool} {fj:Nat->Nat->Bool} {nn:Nat->Nat} {o:Oper} {F:FF} {L:LL} {n1:Nat} {U:Nat->Prop} {R:FF->LL->Nat->Prop}
  (ho:ops[es.length]? =some o) (hg:Ry ops (lk es.length) F o) (hF:Fits P g ops es F0 L0 n lk mem fj nn un)
  (late:∀k,es.length<k->k<ops.size->fj k es.length=true) (hU:∀k,k<es.length->fj es.length k=true\/U k)
  (TR:∀cs b,o.op≠ .select cs b) (F9:∀ (k:Nat) (e:E),U k->es[k]? =some e->e.nw=[]/\e.w=none/\bd (fun l=>l<n1) e.v) (je:∀t∈tM o.op.operands.toList,t∈lk es.length)
  (DJ:∀ (k:Nat) (e:E) (t:Nat),es[k]? =some e->e.d=some t->t<g.N)
  (R3:look F=FD es (fun _=>true) F0) (Du:find L=LD es (fun _=>true) L0) (hp:∀l,PD es (fun _=>true) (fun l=>l<n) l->l<n1) (hS:Step g P o R F L n1)
  (X:FF->LL->Nat->(Nat->Option SV)×List E×(Nat->Prop)) (next:∀F' L' n',R F' L' n'->(∀l b,find L' l=some b->l<n')->PR es U F' (X F' L' n').1 (X F' L' n').2.1 (X F' L' n').2.2) (rest:∀F' L' n',R F' L' n'->(∀l b,find L' l=some b->l<n')->Tree P g ops Q (X F' L' n').1 (find L') n' (X F' L' n').2.1 (X F' L' n').2.2):Tree P g ops Q F0 L0 n es un
theorem aaq{α:Type}{f:E->α->α}{D:Nat->Bool}:∀ {es:List E} {s:Nat} {x:α},(∀k e,es[k]? =some e->D (s+k)=true->∀y,f e y=y)->fo f D s es x=x
 | [],_,_,_=>rfl
 |e::es,s,x,h=>by
  simp only[fo]
  have h0:(if D s=true then f e x else x)=x:=by
   by_cases hD:D s=true
   ·rw[aj hD];exact h 0 e rfl (by simpa using hD) x
   ·rw[af hD]
  rw[h0]
  exact aaq fun k e' hk hD=>h (k+1) e' (by simpa using hk) (by rw[<-hD];congr 1;omega)
theorem arf{o:Oper}{a a2:Act}{W:World}{next GV:Act->World->Prop}{Q:Exit->Act->World->Prop}(Ah:(execOp a.eval o).run P W=(execOp a2.eval o).run P W)(h:o.wp P a2 W GV (fun _ _ _=>False))(hn:∀v W',GV (a2.put o.dst v) W'->next (a.put o.dst v) W')(ajD:∀b W',GV b W'->b.defers=[]):o.wp P a W next Q:=by
 unfold Oper.wp at h⊢
 rw[Ah]
 revert h
 generalize (execOp a2.eval o).run P W=r
 intro h
 cases r with
 |ok nx w'=>
  cases nx with
  |value v=>exact hn _ _ h
  |skip=>exact hn _ _ h
  |defer d=>
   have:=ajD _ _ h
   cases hd:o.dst with
   |none=>rw[hd]at this;cases this
   |some t=>rw[hd]at this;cases this
  |enter f args=>
   refine Calls.mono h fun e w'' he=> ?_
   cases e with
   |returned v=>exact hn _ _ he
   |panicked _=>exact he.elim
   |outgrown=>obtain⟨_,_,h⟩:=he;exact h.elim
  |row row args=>
   refine Rows.mono h fun v w'' he=> ?_
   exact hn _ _ he
  |_=>exact h.elim
 |halt hh w'=>
  cases hh with
  |panic v=>exact h.elim
  |_=>exact h.elim
theorem aar{α:Type}{f:E->α->α}{D:Nat->Bool}:∀ {es:List E} {s:Nat} {x:α},(∀k e,es[k]? =some e->D (s+k)=false->∀y,f e y=y)->fo f D s es x=fo f (fun _=>true) s es x
 | [],_,_,_=>rfl
 |e::es,s,x,h=>by
  simp only[fo]
  have h0:(if D s=true then f e x else x)=f e x:=by
   by_cases hD:D s=true
   ·rw[aj hD]
   ·rw[af hD,h 0 e rfl (by simpa using hD) x]
  rw[h0,aj trivial]
  exact aar fun k e' hk hD=>h (k+1) e' (by simpa using hk) (by rw[<-hD];congr 1;omega)
theorem aiz{a a2:Act}{xs:Array Operand}(h:∀t∈tM xs.toList,a.tmps[t]? =a2.tmps[t]?):∀x∈xs,a.eval x=a2.eval x:=by
 intro x hx
 cases x with
 |tmp t=>
  have:=h t (EU (x:= .tmp t) (by simpa using hx) (by simp[Le]))
  simp only[Act.eval,Ba,this]
 |_=>rfl
theorem aay{D:Nat->Bool}{t:Nat}{v:SV}:∀ {es:List E} {s:Nat} {x:Option SV},fo (ft t) D s es x=some v->(∃k e,es[k]? =some e/\D (s+k)=true/\e.d=some t/\e.v=v)\/x=some v
 | [],_,_,h=>Or.inr h
 |e::es,s,x,h=>by
  simp only[fo]at h
  rcases aay h with⟨k,e',h1,h2,h3⟩|h
  ·exact Or.inl ⟨k+1,e',by simpa using h1,by rw[<-h2];congr 1;omega,h3⟩
  ·by_cases hD:D s=true
   ·rw[aj hD]at h
    unfold ft at h
    by_cases ht:e.d=some t
    ·rw[aj ht]at h
     exact Or.inl ⟨0,e,rfl,hD,ht,ef h⟩
    ·rw[af ht]at h;exact Or.inr h
   ·rw[af hD]at h;exact Or.inr h
theorem ag'{ops:Array Oper}{es:List E}{F0:Nat->Option SV}{L0:Nat->Option aC}{n:Nat}{lk:Nat->List Nat}{mem:Nat->Nat->Bool}{fj:Nat->Nat->Bool}{nn:Nat->Nat}{un:Nat->Prop}(hF:Fits P g ops es F0 L0 n lk mem fj nn un)(DJ:∀ (k:Nat) (e:E) (t:Nat),es[k]? =some e->e.d=some t->t<g.N)
 {D:Nat->Bool} {β:Nat->Nat} {p:Nat->Prop} (kX:∀ (k:Nat) (e:E),D k=false->es[k]? =some e->bd p e.v) {a:Act} (hf:eX g β (FD es D F0) p a):∀j,j<=es.length->
 ∃a2:Act,eX g β (FD es (fun k=>D k||decide (k<j)) F0) p a2/\a2.defers=a.defers/\∀t,(∀ (k:Nat) (e:E),D k=false->es[k]? =some e->e.d≠some t)->a2.tmps[t]? =a.tmps[t]? :=by
 intro j
 induction j with
 |zero=>exact fun _=>⟨a,by simpa using hf,rfl,fun _ _=>rfl⟩
 |succ j ih=>
  intro hj
  obtain⟨a2,h1,h2,h3⟩:=ih (by omega)
  cases hD:D j with
  |true=>
   refine⟨a2,?_,h2,h3⟩
   have:(fun k=>D k||decide (k<j+1))=fun k=>D k||decide (k<j):=funext fun k=>by
    by_cases hk:k=j
    ·subst hk;simp[hD]
    ·have:decide (k<j+1)=decide (k<j):=ye.2 (by omega)
     rw[this]
   rw[this];exact h1
  |false=>
   have he:es[j]? =some (es[j]'(by omega)):=jo _
   generalize hee:es[j]'(by omega)=e at he
   refine⟨a2.put e.d (den β e.v),?_,?_,?_⟩
   ·have:(fun k=>D k||decide (k<j+1))=add (fun k=>D k||decide (k<j)) j:=funext fun k=>by
     simp only[add]
     by_cases hk:k=j
     ·subst hk;simp
     ·rw[af hk]
      have:decide (k<j+1)=decide (k<j):=ye.2 (by omega)
      rw[this]
    rw[this,Ye hF he (by simp[hD])]
    exact h1.put (fun t ht=>DJ j e t he ht) (kX j e hD he)
   ·rw[<-h2]
    cases e.d<;>rfl
   ·intro t ht
    rw[<-h3 t ht]
    have ek:=ht j e hD he
    cases hd:e.d with
    |none=>rfl
    |some t'=>
     rw[hd]at ek
     simp only[Act.put]
     rw[X8 (fun e=>ek (by rw[e]))]
theorem aeO{ops:Array Oper}{Q:Exit->Act->World->Prop}:
 ∀ (fuel:Nat) {F0:Nat->Option SV} {L0:Nat->Option aC} {n:Nat} {es:List E} {un:Nat->Prop},Tree P g ops Q F0 L0 n es un->∀ (ls:Array Bool) (a:Act) (W:World) (β:Nat->Nat),ls.size=ops.size->ls.toList.count false=fuel->zh ops (fun i=>ls.getD i false)->
   (∀i,i<es.length->¬un i->ls.getD i false=true)->(∀i,ls.getD i false=true->i<es.length)->
   Mem g β (LD es (fun i=>ls.getD i false) L0) (PD es (fun i=>ls.getD i false) (fun l=>l<n)) W->eX g β (FD es (fun i=>ls.getD i false) F0) (PD es (fun i=>ls.getD i false) (fun l=>l<n)) a->wpAny P .any ops Q fuel ls a W:=by
 intro fuel
 induction fuel with
 |zero=>
  intro F0 L0 n es un h ls a W β hs hc iG pE Jh hm hf
  have iE:=ae' hs hc
  cases h with
  |fin hl hF hQ=>
   refine⟨alX hs iE,?_⟩
   obtain⟨e1,e2,e3⟩:=acD (es:=es) (F0:=F0) (L0:=L0) (n:=n) (D:=fun i=>ls.getD i false) (D':=fun _=>true) fun k hk=>iE k (by omega)
   rw[e1,e3]at hf
   rw[e2,e3]at hm
   exact hQ β a W hm hf
  |cut ho hg hF late hU TR F9 je DJ R3 Du hp hS X next rest=>
   have:=Jh _ (iE es.length (xK.1 ho).1)
   omega
 |succ fuel ih=>
  intro F0 L0 n es un h ls a W β hs hc iG pE Jh hm hf
  have wM:=akJ hs
  have Jz:∀ {lk:Nat->List Nat} {mem:Nat->Nat->Bool} {fj:Nat->Nat->Bool} {nn:Nat->Nat},Fits P g ops es F0 L0 n lk mem fj nn un->∀i∈Region.ready .any ops ls,i<es.length->wpOp P ops Q i (wpAny P .any ops Q fuel (ls.setIfInBounds i true)) a W:=by
   intro lk mem fj nn hF i hi kD
   obtain⟨mv,o,ho,iE⟩:=We hs hi
   have pv:i<ops.size:=(xK.1 ho).1
   have w8:=adC hs pv
   have Eh:un i:=Hn fun hn=>by rw[pE i kD hn]at mv;cases mv
   refine aiM hF iG wM ho iE mv kD Eh hm hf fun γ a' W' fb aT=>ih h _ a' W' γ (by simpa using hs) (adD hs pv mv hc) ?_ ?_ ?_ ?_ ?_
   ·rw[w8];exact ZK iG ho iE
   ·intro k hk hn
    rw[bg w8 k]
    simp only[add]
    split
    ·rfl
    ·exact pE k hk hn
   ·intro k hk
    rw[bg w8 k]at hk
    simp only[add]at hk
    by_cases pz:k=i
    ·omega
    ·rw[af pz]at hk;exact Jh k hk
   ·rw[w8];exact fb
   ·rw[w8];exact aT
  have hh:=h
  cases h with
  |fin hl hF hQ=>
   refine⟨fun hr=>(adT hs hF.back hc hr).elim,fun i hi=> ?_⟩
   obtain⟨mv,o,ho,iE⟩:=We hs hi
   exact Jz hF i hi (by have:=(xK.1 ho).1;omega)
  | @cut _ _ _ _ _ lk mem fj nn o F L n1 U R ho hg hF late hU TR F9 je DJ R3 Du hp hS X next rest=>
    refine⟨fun hr=>(adT hs hF.back hc hr).elim,fun i hi=> ?_⟩
    obtain⟨mv,o',d_,iE⟩:=We hs hi
    have pv:i<ops.size:=(xK.1 d_).1
    rcases Nat.lt_trichotomy i es.length with ab|rfl|Ti
    ·exact Jz hF i hi ab
    ·rw[ho]at d_
     obtain rfl:=ef d_
     have tx:∀k,fj es.length k=true->ls.getD k false=true:=fun k hk=>O6 hF iG wM ho iE hk
     have DB:∀k,ls.getD k false=false->k<es.length->U k:=fun k hk jE=>by
      rcases hU k jE with h1|h1
      ·rw[tx k h1]at hk;cases hk
      ·exact h1
     have ym:∀l,PD es (fun i=>ls.getD i false) (fun l=>l<n) l->l<n1:=by
      intro l hl
      refine hp l ?_
      rcases vI.1 hl with h1|⟨k,e,h1,_,h2⟩
      ·exact vI.2 (Or.inl h1)
      ·exact vI.2 (Or.inr ⟨k,e,h1,rfl,h2⟩)
     have gU:eX g β (FD es (fun i=>ls.getD i false) F0) (fun l=>l<n1) a:=hf.mono (fun _ _=>rfl) ym
     obtain⟨a2,pt,S_,eG⟩:=ag' hF DJ (D:=fun i=>ls.getD i false) (p:=fun l=>l<n1) (fun k e hk he=>(F9 k e (DB k hk (iN.1 he).1) he).2.2) gU es.length (aE _)
     have ajh:FD es (fun k=>ls.getD k false||decide (k<es.length)) F0=look F:=by
      rw[R3]
      exact(acD (L0:=L0) (n:=n) fun k hk=>by simp[hk]).1
     rw[ajh]at pt
     have cU:Mem g β (find L) (fun l=>l<n1) W:=by
      have e2:LD es (fun i=>ls.getD i false) L0=find L:=by
       rw[Du]
       funext l
       simp only[LD]
       refine(aar (es:=es) (s:=0) (D:=fun i=>ls.getD i false) fun k e he hk y=> ?_)
       rw[dB]at hk
       obtain⟨h1,h2,_⟩:=F9 k e (DB k hk (iN.1 he).1) he
       unfold gl
       rw[h1,h2]
       cases y<;>rfl
      rw[e2]at hm
      exact hm.OY ym
     have aW:St g F L n1 a2 W:=⟨β,cU,pt⟩
     have aaN:∀t∈lk es.length,a.tmps[t]? =a2.tmps[t]? :=fun t ht=>(eG t fun k e hk he hd=>by
      have jE:=(iN.1 he).1
      rcases hF.look es.length k e t pv he (by omega) hd ht with⟨_,h1⟩|⟨h1,_⟩
      ·have h2:=tx k h1
       rw[h2]at hk;cases hk
      ·omega).symm
     have SQ:∀t∈tM o.op.operands.toList,a.tmps[t]? =a2.tmps[t]? :=fun t ht=>aaN t (je t ht)
     have Ah:(execOp a.eval o).run P W=(execOp a2.eval o).run P W:=by
      rw[execOp_congr o TR (aiz SQ)]
     have hw:Region.wanted o (yielded ops a.tmps)=true:=by
      rcases hg with hg|⟨j,x,oj,d,hg,hj,pr,ajU,lT⟩
      ·simp[Region.wanted,hg]
      ·have h1:=pt.fr d (.bool x) lT
       rw[<-aaN d ajU]at h1
       have hy:yielded ops a.tmps j=some x:=by
        unfold yielded
        simp[hj,pr,h1,den]
       simp[Region.wanted,hg,hy]
     unfold wpOp
     simp only[ho]
     rw[aj hw]
     left
     refine arf Ah (hS.run a2 W aW (fun b W'=>b.defers=[]/\∀v,b=a2.put o.dst v->wpAny P .any ops Q fuel (ls.setIfInBounds es.length true) (a.put o.dst v) W') _ ?_) (fun v W' h=>h.2 v rfl) (fun b W' h=>h.1)
     rintro F' L' n' b W' hR ⟨γ,ri,Tb⟩
     refine⟨Tb.defs,fun v hb=> ?_⟩
     subst hb
     have hL':∀l b,find L' l=some b->l<n':=fun l b hb=>(ri.bL l b hb).1
     obtain⟨k1,k2,k4,k5,k6,k7⟩:=next F' L' n' hR hL'
     have hT:=rest F' L' n' hR hL'
     revert k1 k2 k4 k5 k6 k7 hT
     generalize (X F' L' n').1=F1
     generalize (X F' L' n').2.1=p_
     generalize (X F' L' n').2.2=u5
     intro k1 k2 k4 k5 k6 k7 hT
     have w8:=adC hs pv
     have RP:∀k,(add (fun k=>ls.getD k false) es.length) k=true->k<=es.length:=by
      intro k hk
      simp only[add]at hk
      by_cases h1:k=es.length
      ·omega
      ·rw[af h1]at hk
       have:=Jh k hk
       omega
     have ajZ:∀ (k:Nat) (e':E),p_[k]? =some e'->(add (fun k=>ls.getD k false) es.length) k=true->e'.nw=[]/\e'.w=none:=by
      intro k e' lz hk
      have fq:=RP k hk
      by_cases BC:U k/\k<es.length
      ·have he:es[k]? =some (es[k]'BC.2):=jo _
       exact(k4 k _ e' BC.1 he lz).2.2
      ·rw[k5 k e' fq BC lz];exact⟨rfl,rfl⟩
     refine ih hT _ _ W' γ (by simpa using hs) (adD hs pv mv hc) ?_ ?_ ?_ ?_ ?_
     ·rw[w8];exact ZK iG ho iE
     ·intro k hk hn
      rw[bg w8 k]
      simp only[add]
      split
      ·rfl
      ·rename_i ek
       have h1:¬ ((U k/\k<es.length)\/es.length<k):=fun h=>hn (k7 k h)
       have jE:k<es.length:=by
        rcases Nat.lt_trichotomy k es.length with h2|h2|h2
        ·exact h2
        ·exact(ek h2).elim
        ·exact(h1 (Or.inr h2)).elim
       rcases hU k jE with h2|h2
       ·exact tx k h2
       ·exact(h1 (Or.inl ⟨h2,jE⟩)).elim
     ·intro k hk
      rw[bg w8 k]at hk
      have:=RP k hk
      omega
     ·rw[w8]
      have e2:LD p_ (add (fun k=>ls.getD k false) es.length) (find L')=find L':=by
       funext l
       refine aaq fun k e' lz hk y=> ?_
       rw[dB]at hk
       obtain⟨h1,h2⟩:=ajZ k e' lz hk
       unfold gl
       rw[h1,h2]
       cases y<;>rfl
      rw[e2]
      exact ri.OY fun l hl=>vI.2 (Or.inl hl)
     ·rw[w8]
      have key:∀t w,FD p_ (add (fun k=>ls.getD k false) es.length) F1 t=some w->look F' t=some w/\(∀ (k:Nat) (e:E),ls.getD k false=false->es[k]? =some e->e.d≠some t):=by
       intro t w hw
       rcases aay hw with⟨k,e',h1,h2,h3,h4⟩|h1
       ·rw[dB]at h2
        have fq:=RP k h2
        by_cases BC:U k/\k<es.length
        ·have he:es[k]? =some (es[k]'BC.2):=jo _
         obtain⟨q1,q2,_⟩:=k4 k _ e' BC.1 he h1
         have q3:=(k1 k _ t BC.1 he (by rw[<-q1];exact h3)).1
         refine⟨by rw[q3,<-q2,h4],fun j ej hj ND hd=> ?_⟩
         have eM:j≠k:=by
          rintro rfl
          simp only[add]at h2
          rw[af (by omega),hj]at h2
          cases h2
         exact hF.dst k j _ ej t he ND (fun e=>eM e.symm) (by rw[<-q1];exact h3) hd
        ·rw[k5 k e' fq BC h1]at h3;cases h3
       ·refine⟨k2 t w h1,fun j ej hj ND hd=> ?_⟩
        have:=(k1 j ej t (DB j hj (iN.1 ND).1) ND hd).2
        rw[this]at h1;cases h1
      refine⟨?_,?_,?_,?_⟩
      ·rw[<-hf.size]
       cases o.dst<;>simp[Act.put]
      ·have:=hf.defs
       cases o.dst<;>simpa [Act.put]using this
      ·intro t w hw
       exact zz (fun l hl=>vI.2 (Or.inl hl)) w (Tb.bF t w (key t w hw).1)
      ·intro t w hw
       obtain⟨h1,h2⟩:=key t w hw
       have h3:=Tb.fr t w h1
       have h4:=eG t h2
       rw[<-h3]
       cases hd:o.dst with
       |none=>simp only[Act.put];exact h4.symm
       |some t'=>
        simp only[Act.put]
        by_cases T_:t'=t
        ·subst T_
         have aJ:a.tmps.size=a2.tmps.size:=by rw[hf.size,pt.size]
         simp only[aeT,xk,aJ]
        ·rw[X8 T_,X8 T_,h4]
    ·exfalso
     have:=O6 hF iG wM d_ iE (late i Ti pv)
     have:=Jh _ this
     omega
theorem ade(hT:cI P T){n0:Nat}{ms:List Nat}(h0:g.n0=n0)(h1:g.ms=ms)(ql:P.follows .mixedOrders=true){id:Nat}{ops:Array Oper}{fl:Nat->Option Nat}{ck:Nat->Nat->Bool}(hE:sc ops.toList (eR [] ops.toList) fl ck)(hd:∀o∈ops.toList,∀t,o.dst=some t->t<g.N){K:FF->LL->Nat->Prop}{F:FF}{L:LL}{n:Nat}
 (uz:∀i a,fl i=some a->∃o t x,ops.toList[i]? =some o/\o.op= .load t (.tmp x)/\(∀o'∈ops.toList,o'.dst≠some x)/\yT (look F) x=some a)
 (h:qJ T Ar.real P g n0 ms ck ops.toList (eR [] ops.toList) K ops.toList 0 F L [] n):tV g P id ops K F L n:=by
 subst h0 h1
 refine⟨?_⟩
 rintro a W ⟨β,hm,hf⟩
 have DH:∀l b,find L l=some b->l<n:=fun l b hb=>(hm.bL l b hb).1
 have Lf:Told [] F L n F L [] n:=by
  refine⟨rfl,fun D l _=> ?_,fun k b hb=>(by cases hb),LR,DH,aE n,fun k e hk=>(by simp at hk)⟩
  simp[LD,fo,kB]
 obtain⟨sk0,abx⟩:=aa (fun _=>false:Nat->Bool)
 rw[aex,<-abx]at h
 obtain⟨es,F',B',N',n',jx,k1,k2,k3,k4,k5⟩:=Wi (g:=g) (P:=P) (T:=T) hE uz ops.toList [] F L [] n ⟨[],by simp⟩ Lf (fun k e hk=>by simp at hk) h
 simp only[cM,pN,dB]at k2 k5
 have hlen:es.length=ops.size:=by rw[k1];simp
 have hF:=Ri hT hE hd DH (pO hlen) k4 k5 uz
 have e0:∀k,(Array.replicate ops.size false).getD k false=false:=fun k=>getD_replicate_false _ _
 refine wp_region_any ql (aeO ops.size (Tree.fin hlen hF ?_) (Array.replicate ops.size false) a _ β (by simp) (by simp) (fun i o hi=> ?_) (fun i _ h=>(h (by rw[abx])).elim) (fun i hi=> ?_) ?_ ?_)
 ·intro γ a' W' fb aT
  have e1:LD es (fun _=>true) (find L)=find (B'++tZ N'):=by
   funext l
   rw[k2.bl (fun _=>true) l (fun _ _ _ _ _ _=>rfl),Mf]
  have ym:∀l,PD es (fun _=>true) (fun l=>l<n) l->l<n':=by
   intro l hl
   rcases vI.1 hl with h|⟨k,e,hk,_,b,hb,rfl⟩
   ·have:=k2.le;omega
   ·exact k2.pd k e hk b hb
  refine⟨F',B'++tZ N',n',k3,γ,?_,?_⟩
  ·rw[<-e1];exact fb.OY ym
  ·rw[k2.fr];exact aT.mono (fun _ _=>rfl) ym
 ·have h2:(Array.replicate ops.size false).getD i false=true:=hi
  rw[e0]at h2;cases h2
 ·rw[e0]at hi;cases hi
 ·have e1:LD es (fun i=>(Array.replicate ops.size false).getD i false) (find L)=find L:=funext fun l=>zN e0
  have e2:PD es (fun i=>(Array.replicate ops.size false).getD i false) (fun l=>l<n)=fun l=>l<n:=funext fun l=>zN e0
  rw[e1,e2];exact hm.drawn
 ·have e1:FD es (fun i=>(Array.replicate ops.size false).getD i false) (look F)=look F:=funext fun l=>zN e0
  have e2:PD es (fun i=>(Array.replicate ops.size false).getD i false) (fun l=>l<n)=fun l=>l<n:=funext fun l=>zN e0
  rw[e1,e2];exact hf
theorem apv(hT:cI P T){n0:Nat}{ms:List Nat}(h0:g.n0=n0)(h1:g.ms=ms)(ql:P.follows .mixedOrders=true){id:Nat}{ops:Array Oper}(hB:zI ops.toList=true)(hd:∀o∈ops.toList,∀t,o.dst=some t->t<g.N){K:FF->LL->Nat->Prop}{F:FF}{L:LL}{n:Nat}
 (h:qJ T Ar.real P g n0 ms (fun _ _=>true) ops.toList (eR [] ops.toList) K ops.toList 0 F L [] n):tV g P id ops K F L n:=
 ade hT h0 h1 ql (sc.of hB) hd (fun i a h=>by cases h) h
theorem aiN{all:List Oper}{o:Oper}{t:Nat}(h:Dm all o=some t):(∃ty,o.op= .load ty (.tmp t))/\∀o'∈all,o'.dst≠some t:=by
 unfold Dm at h
 split at h
 ·rename_i ty t' iI
  split at h
  ·rename_i iE
   obtain rfl:=ef h
   refine⟨⟨ty,iI⟩,fun o' d_ hd=> ?_⟩
   have:=gf.1 iE o' d_
   rw[hd]at this
   simp at this
  ·cases h
 ·cases h
theorem aps(hT:cI P T){n0:Nat}{ms:List Nat}(h0:g.n0=n0)(h1:g.ms=ms)(ql:P.follows .mixedOrders=true){id:Nat}{ops:Array Oper}(hB:MM ops.toList=true)(hd:∀o∈ops.toList,∀t,o.dst=some t->t<g.N){K:FF->LL->Nat->Prop}{F:FF}{L:LL}{n:Nat}
 (h:qJ T Ar.real P g n0 ms (MH ops.toList (eR [] ops.toList) (look F)) ops.toList (eR [] ops.toList) K ops.toList 0 F L [] n):tV g P id ops K F L n:=by
 refine ade hT h0 h1 ql (sc.ofC (F:=look F) hB) hd (fun i a wL=> ?_) h
 unfold Rr at wL
 cases ho:ops.toList[i]? with
 |none=>rw[ho]at wL;cases wL
 |some o=>
  rw[ho]at wL
  simp only at wL
  cases hf:Dm ops.toList o with
  |none=>rw[hf]at wL;cases wL
  |some t=>
   rw[hf]at wL
   obtain⟨⟨ty,iI⟩,h2⟩:=aiN hf
   exact⟨o,ty,t,rfl,iI,h2,wL⟩
end
end Go.Vg
namespace Go.Vg
open Go.RowKit
theorem Ig{F F':Nat->Option SV}{o:Oper}{c:Call}(ho:o.op= .call c)(h:∀t∈tM o.op.operands.toList,F' t=F t):callee F' c=callee F c:=by
 rw[ho]at h
 have E:∀x∈(Op.call c).operands.toList,ev F' x=ev F x:=fun x hx=>FG fun t ht=>h t (EU hx ht)
 unfold callee
 split
 ·rename_i f hf
  have h1:ev F' f=ev F f:=E f (by simp[Op.operands,Call.operands,hf])
  have h2:lQ F' c.args.toList=lQ F c.args.toList:=MP fun x hx=>E x (by
   simp only[Op.operands,Call.operands,LI,xN]
   exact Or.inr hx)
  rw[h1,h2]
 ·rfl
theorem Ro{ρ:Nat->Nat}{M L:Nat->Option aC}(h:∀l b,M l=some b->L l=some b):∀ {Lp:LL},lu ρ M Lp->lu ρ L Lp
 | [],_=>trivial
 |_::_,hf=>⟨h _ _ hf.1,Ro h hf.2⟩
section
variable {P:Program}{g:G}
theorem FE{o:Oper}{c:Call}(ho:o.op= .call c){m0 N:Nat}{ms:List Nat}(hg:GI g m0 ms N)(aA:dD N o.dst=true){F:Nat->Option SV}{f:FuncId}{us args:List SV}(hc:callee F c=some (f,us)){Lp:LL}{n0:Nat}{R:SV->LL->Nat->Prop}(fg:ah P f args Lp n0 [] R)
 (ρ:Nat->Nat) (jh:us=bj ρ args) {M:Nat->Option aC} (l6:lu ρ M Lp) (BI:below (fun l=>eo (Lp.map aC.l) l) n0=true) {val:SV} (hv:∀v L1 n1,R v L1 n1->v=val) (ko:bd (fun l=>l<n0) val):EN g P o F M (cK ρ val) []:=by
 have hd:=hg.dst aA
 obtain⟨lv,fg⟩:=fg
 refine EN.ON fun β p F' L' a W hF hM hm hf next Q gj=> ?_
 obtain⟨r1,r2⟩:=Di (P:=P) (W:=W) hf ho ((Ig ho hF).trans hc) lv
 unfold Oper.wp
 rw[r1,Oper.upon_enter]
 have Ag:aM β us=aM (fun l=>β (ρ l)) args:=by rw[jh,qU]
 have DL:=Ro hM l6
 rw[Ag]
 refine(fg (fun l=>β (ρ l)) W (Ix hm DL (Ol ρ Lp) (fun m h=>by cases h))).mono ?_
 rintro e W' ⟨v,L1,n1,jJ,hR,rfl,_,b_⟩
 obtain rfl:=hv v L1 n1 hR
 have At:bd p (cK ρ v):=Mm (fun l hl=>by
  have:=Fs (f:=fun l=>eo (Lp.map aC.l) l) BI hl
  obtain⟨b,hb,rfl⟩:=iZ.1 (AU this)
  exact(hm.bL _ _ (FK DL hb)).1) v ko
 have Ke:den jJ v=den β (cK ρ v):=by
  rw[Dj]
  exact ue (fun l hl=>b_.fC l hl) v ko
 simp only[Ke]
 exact gj _ _ (hm.call b_.up (by rintro k ⟨l,hl,_⟩;cases hl)) (hf.put hd At)
theorem Dl{o:Oper}{c:Call}(ho:o.op= .call c){m0 N:Nat}{ms:List Nat}(hg:GI g m0 ms N)(aA:dD N o.dst=true){F:Nat->Option SV}{f:FuncId}{args:List SV}(hc:callee F c=some (f,args)){R:SV->LL->Nat->Prop}(fg:ah P f args [] 0 [] R)
 {M:Nat->Option aC} {val:SV} (hv:∀v L1 n1,R v L1 n1->v=val) (ko:bd (fun _=>False) val):EN g P o F M val []:=by
 have hd:=hg.dst aA
 obtain⟨lv,fg⟩:=fg
 refine EN.ON fun β p F' L' a W hF hM hm hf next Q gj=> ?_
 obtain⟨r1,r2⟩:=Di (P:=P) (W:=W) hf ho ((Ig ho hF).trans hc) lv
 unfold Oper.wp
 rw[r1,Oper.upon_enter]
 refine(fg β W ⟨fun b h=>(by cases h),fun b h=>(by cases h)⟩).mono ?_
 rintro e W' ⟨v,L1,n1,jJ,hR,rfl,_,b_⟩
 obtain rfl:=hv v L1 n1 hR
 have Ke:den jJ v=den β v:=ue (p:=fun _=>False) (fun l hl=>hl.elim) v ko
 simp only[Ke]
 exact gj _ _ (hm.call b_.up (by rintro k ⟨l,hl,_⟩;cases hl)) (hf.put hd (zz (fun l h=>h.elim) v ko))
theorem enr{o:Oper}{c:Call}(ho:o.op= .call c){m0 N:Nat}{ms:List Nat}(hg:GI g m0 ms N)(aA:dD N o.dst=true){F:Nat->Option SV}{f:FuncId}{us args:List SV}(hc:callee F c=some (f,us)){Lp:LL}{n0:Nat}{R:SV->LL->Nat->Prop}(fg:ah P f args Lp n0 [] R)
 (ρ:Nat->Nat) (jh:us=bj ρ args) {M:Nat->Option aC} (l6:lu ρ M Lp) {val:SV} (hv:∀v L1 n1,R v L1 n1->v=val) (ko:bd (fun _=>False) val):EN g P o F M val []:=by
 have hd:=hg.dst aA
 obtain⟨lv,fg⟩:=fg
 refine EN.ON fun β p F' L' a W hF hM hm hf next Q gj=> ?_
 obtain⟨r1,r2⟩:=Di (P:=P) (W:=W) hf ho ((Ig ho hF).trans hc) lv
 unfold Oper.wp
 rw[r1,Oper.upon_enter]
 have Ag:aM β us=aM (fun l=>β (ρ l)) args:=by rw[jh,qU]
 have DL:=Ro hM l6
 rw[Ag]
 refine(fg (fun l=>β (ρ l)) W (Ix hm DL (Ol ρ Lp) (fun m h=>by cases h))).mono ?_
 rintro e W' ⟨v,L1,n1,jJ,hR,rfl,_,b_⟩
 obtain rfl:=hv v L1 n1 hR
 have Ke:den jJ v=den β v:=ue (p:=fun _=>False) (fun l hl=>hl.elim) v ko
 simp only[Ke]
 exact gj _ _ (hm.call b_.up (by rintro k ⟨l,hl,_⟩;cases hl)) (hf.put hd (zz (fun l h=>h.elim) v ko))
theorem eV{o:Oper}{F:FF}{M:LL}{n:Nat}{K:SV->LL->Nat->Prop}{v:SV}(h:EN g P o (look F) (qD o (find M)) v [])(hk:K v [] n):zu g P o F M n K:=
 ⟨v,[],n,h,aE n,fun b hb=>(by cases hb),LR,hk⟩
theorem ah.dj{f:FuncId}{args:List SV}{Lp:LL}{n0:Nat}{ms:List Nat}{R R':SV->LL->Nat->Prop}(h:ah P f args Lp n0 ms R)(hw:∀v L n,R v L n->∃ (ρ:Nat->Nat) (v':SV) (L':LL) (n':Nat),tW n0 ρ [(0,v')] L' n' [(0,v)] L n/\R' v' L' n'):ah P f args Lp n0 ms R':=by
 refine⟨h.1,fun kt W0 tx=>(h.2 kt W0 tx).mono ?_⟩
 rintro e W ⟨v,L,n,β,hR,rfl,q_,hm⟩
 obtain⟨ρ,v',L',n',⟨hF,hL,JT,hn,hb⟩,dK⟩:=hw v L n hR
 have h0:=Xj (t:=0) (v:=v') hF rfl
 have hv:v=cK ρ v':=ef h0.1
 refine⟨v',L',n',fun l=>β (ρ l),dK,?_,h0.2,hm.dj hL JT hn hb⟩
 rw[hv,Dj]
theorem ah.mono{f:FuncId}{args:List SV}{Lp:LL}{n0:Nat}{ms:List Nat}{R R':SV->LL->Nat->Prop}(h:ah P f args Lp n0 ms R)(hw:∀v L n,R v L n->R' v L n):ah P f args Lp n0 ms R':=
 ⟨h.1,fun kt W0 tx=>(h.2 kt W0 tx).mono fun _ _ ⟨v,L,n,β,hR,r⟩=>⟨v,L,n,β,hw v L n hR,r⟩⟩
theorem ah.calls{f:FuncId}{args:List SV}{R:SV->LL->Nat->Prop}(h:ah P f args [] 0 [] R){val:SV}(hv:∀v L n,R v L n->v=val)(ko:bd (fun _=>False) val)(W:World):Calls P f (aM id args).toArray W fun e W'=>e= .returned (den id val)/\Below W.heap.size W W':=by
 refine(h.2 id W ⟨fun b h=>(by cases h),fun b h=>(by cases h)⟩).mono ?_
 rintro e W' ⟨v,L,n,β,hR,rfl,q_,hm⟩
 obtain rfl:=hv v L n hR
 rw[ue (p:=fun _=>False) (β:=id) (γ:=β) (fun l hl=>hl.elim) v ko]
 exact⟨rfl,hm.up.os,hm.up.tape,hm.up.output,hm.up.size,fun k hk=>hm.up.block k hk (by rintro⟨l,hl,_⟩;cases hl)⟩
end
end Go.Vg
