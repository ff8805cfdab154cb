/-
  This text proves what these texts prove: Vgb, VgV, DgA, VgW, VgX, VgY, VgZ. Conditions: those of each theorem.
-/
import Derived.Laws.Externs
import Derived.Shelf.Spec.BitsCarry
import Derived.Laws.Small
import Derived.Test.YtdhmihfefgcbeaaGreatY06
set_option maxHeartbeats 8000000
set_option linter.all false
namespace Go.Vg
open Go.RowKit
/-! regions in which an operation's outcome is not fixed:all later ones wait for it-/
def dstK(all:List Oper)(k:Nat):Option Nat:=
 match all[k]? with
 |some o=>o.dst
 |none=>none
def notSel(o:Oper):Bool:=
 match o.op with
 | .select _ _=>false
 |_=>true
def cutG(all:List Oper)(m:List Nat)(c:Nat)(us:List Nat):Bool:=
 match all[c]? with
 |none=>false
 |some o=>(match o.guard with
  |none=>true
  |some (j,_)=>Nat.blt j c)&&notSel o&&(List.range all.length).all (fun k=>(!Nat.blt c k||befB m k c)&&(!Nat.blt k c||befB m c k||memN us k))&&
  us.all fun k=>Nat.blt k c&&(dstK all k).isSome&&match all[k]? with
   |some o'=>quiet o'
   |none=>false
def grdP(all:List Oper)(F:FF)(o:Oper):Prop:=
 match o.guard with
 |none=>True
 |some (j,b)=>match dstK all j with
  |none=>False
  |some d=>match look F d with
   |some (.bool x)=>match x,b with
    |true,true=>True
    |false,false=>True
    |_,_=>False
   |_=>False
theorem grdP_ok{ops:Array Oper}{F:FF}{o:Oper}(h:grdP ops.toList F o):grdOk ops (lkOf ops.toList o) F o:=by
 unfold grdP at h
 cases hg:o.guard with
 |none=>exact Or.inl hg
 |some q=>
  obtain⟨j,b⟩:=q
  rw[hg]at h
  simp only at h
  unfold dstK at h
  cases hj:ops.toList[j]? with
  |none=>simp[hj]at h
  |some oj=>
   cases hd:oj.dst with
   |none=>simp[hj,hd]at h
   |some d=>
    simp only[hj,hd]at h
    refine Or.inr ⟨j,b,oj,d,hg,by rw[<-Array.getElem?_toList];exact hj,hd,?_,?_⟩
    ·unfold lkOf
     refine List.mem_append_right _ ?_
     simp[hg,hj,hd]
    ·cases hl:look F d with
     |none=>simp[hl]at h
     |some v=>
      cases v with
      |bool x=>cases x<;>cases b<;>simp_all
      |_=>simp[hl]at h
def cutsOk(all:List Oper)(m:List Nat):Nat->List (Nat×List Nat)->Bool
 |_,[]=>true
 |lo,(c,us)::cs=>Nat.ble lo c&&cutG all m c us&&cutsOk all m (c+1) cs
def uB(all:List Oper)(sk:Nat->Bool)(n:Nat)(F:FF):List Nat->Prop
 | []=>True
 |k::us=>match dstK all k with
  |some t=>match look F t with
   |some v=>sk k=false/\bdB n v=true/\uB all sk n F us
   |none=>False
  |none=>False
def sameU(all:List Oper)(F F':FF):List Nat->Prop
 | []=>True
 |k::us=>match dstK all k with
  |some t=>look F' t=look F t/\sameU all F F' us
  |none=>False
def remF(ts:List (Option Nat)):FF->FF
 | []=> []
 |(t,v)::F=>match ts.any fun x=>match x with
  |some y=>Nat.beq y t
  |none=>false with
  |true=>remF ts F
  |false=>(t,v)::remF ts F
section
variable (T:Nat->Option Ty)(A:Ar)(P:Program)(g:G)(n0:Nat)(ms:List Nat)(ck:Nat->Nat->Bool)
def vcCut(all:List Oper)(m:List Nat)(K:FF->LL->Nat->Prop):List (Nat×List Nat)->(Nat->Bool)->(FF->Prop)->FF->LL->Nat->Prop
 | [],sk,chk,F,L,n=>vcT T A P g n0 ms ck sk all m (fun F B N n=>chk F/\K F (B++allN N) n) all 0 F L [] n
 |(c,us)::cs,sk,chk,F,L,n=>vcT T A P g n0 ms ck sk all m (fun F B N n=>chk F/\uB all sk n F us/\match all[c]? with
  |some o=>grdP all F o/\Step g P o (fun F' L' n'=>sameU all F F' us/\vcCut all m K cs (fun k=>Nat.ble k c&& !memN us k) (fun F2=>sameU all F F2 us) (remF (us.map (dstK all)) F') L' n') F (B++allN N) n
  |none=>False) (all.take c) 0 F L [] n
end
theorem look_remF(ts:List (Option Nat))(t:Nat):∀F:FF,look (remF ts F) t=if some t∈ts then none else look F t
 | []=>by simp[remF,look]
 |(s,v)::F=>by
  have ih:=look_remF ts t F
  have hb:(ts.any fun x=>match x with|some y=>Nat.beq y s|none=>false)=decide (some s∈ts):=by
   rw[Bool.eq_iff_iff,List.any_eq_true,decide_eq_true_iff]
   constructor
   ·rintro⟨x,hx,h⟩
    cases x with
    |none=>cases h
    |some y=>rw[<-Nat.eq_of_beq_eq_true h];exact hx
   ·exact fun h=>⟨some s,h,Nat.beq_refl s⟩
  simp only[remF,hb]
  by_cases hs:some s∈ts
  ·simp only[hs,decide_true,ih,look]
   by_cases hst:s=t
   ·subst hst;simp[hs]
   ·simp[hst]
  ·simp only[hs,decide_false,look,ih]
   by_cases hst:s=t
   ·subst hst;simp[hs]
   ·simp[hst]
theorem uB_mem{all:List Oper}{sk:Nat->Bool}{n:Nat}{F:FF}{k t:Nat}{v:SV}:∀ {us:List Nat},uB all sk n F us->k∈us->dstK all k=some t->look F t=some v->bd (fun l=>l<n) v
 | [],_,h,_,_=>by cases h
 |j::us,hu,h,hd,hv=>by
  simp only[uB]at hu
  split at hu
  ·rename_i t' ht'
   split at hu
   ·rename_i v' hv'
    rcases List.mem_cons.1 h with rfl|h
    ·rw[hd]at ht'
     obtain rfl:=Option.some.inj ht'
     rw[hv]at hv'
     obtain rfl:=Option.some.inj hv'
     exact bdB_bd _ hu.2.1
    ·exact uB_mem hu.2.2 h hd hv
   ·exact hu.elim
  ·exact hu.elim
theorem uB_sk{all:List Oper}{sk:Nat->Bool}{n:Nat}{F:FF}{k:Nat}:∀ {us:List Nat},uB all sk n F us->k∈us->sk k=false
 | [],_,h=>by cases h
 |j::us,hu,h=>by
  simp only[uB]at hu
  split at hu
  ·split at hu
   ·rcases List.mem_cons.1 h with rfl|h
    ·exact hu.1
    ·exact uB_sk hu.2.2 h
   ·exact hu.elim
  ·exact hu.elim
theorem sameU_mem{all:List Oper}{F F':FF}{k t:Nat}:∀ {us:List Nat},sameU all F F' us->k∈us->dstK all k=some t->look F' t=look F t
 | [],_,h,_=>by cases h
 |j::us,hu,h,hd=>by
  simp only[sameU]at hu
  split at hu
  ·rename_i t' ht'
   rcases List.mem_cons.1 h with rfl|h
   ·rw[hd]at ht'
    obtain rfl:=Option.some.inj ht'
    exact hu.1
   ·exact sameU_mem hu.2 h hd
  ·exact hu.elim
section
variable {P:Program}{g:G}{T:Nat->Option Ty}
theorem tree_of(hT:TOk P T){ops:Array Oper}{ck:Nat->Nat->Bool}(hE:Edges ops.toList (maskL [] ops.toList) (fun _=>none) ck)(hd:∀o∈ops.toList,∀t,o.dst=some t->t<g.N){K:FF->LL->Nat->Prop}:
 ∀ (cuts:List (Nat×List Nat)) (lo:Nat) (sk:Nat->Bool) (chk:FF->Prop) (F:FF) (L:LL) (n:Nat),cutsOk ops.toList (maskL [] ops.toList) lo cuts=true->lo<=ops.size->(∀l b,find L l=some b->l<n)->vcCut T Ar.real P g g.n0 g.ms ck ops.toList (maskL [] ops.toList) K cuts sk chk F L n->
 ∃ (es:List E) (Fe:FF),lo<=es.length/\look Fe=FD es (fun _=>true) (look F)/\chk Fe/\(∀k e,es[k]? =some e->sk k=true->e=⟨none,.nilp,[],none⟩)/\
   (∀k e o,es[k]? =some e->ops.toList[k]? =some o->sk k=false->e.d=o.dst/\(quiet o=true->e.nw=[]/\e.w=none))/\
   (∃lk mem bef nn,Fits P g ops es (look F) (find L) n lk mem bef nn (fun i=>sk i=false))/\Tree P g ops (Qn g K) (look F) (find L) n es (fun i=>sk i=false):=by
 intro cuts
 induction cuts with
 |nil=>
  intro lo sk chk F L n hc hlo hL h
  have told0:Told [] F L n F L [] n:=by
   refine⟨rfl,fun D l _=> ?_,fun k b hb=>(by cases hb),List.nodup_nil,hL,Nat.le_refl n,fun k e hk=>(by simp at hk)⟩
   simp[LD,fo,filP]
  obtain⟨es,F',B',N',n',nnf,k1,k2,k3,k4,k5⟩:=vcT_run (g:=g) (P:=P) (T:=T) hE (fun i a h=>by cases h) ops.toList [] F L [] n ⟨[],by simp⟩ told0 (fun k e hk=>by simp at hk) h
  simp only[List.nil_append,List.length_nil,Nat.zero_add]at k2 k5
  have hlen:es.length=ops.size:=by rw[k1];simp
  have hF:=fits_of hT hE hd hL (Nat.le_of_eq hlen) k4 k5 (fun i a h=>by cases h)
  refine⟨es,F',by omega,k2.fr,k3.1,fun k e he hs=> ?_,fun k e o he ho hs=> ?_,⟨_,_,_,_,hF⟩,Tree.fin hlen hF ?_⟩
  ·have hk:k<ops.toList.length:=by rw[Array.length_toList,<-hlen];exact(List.getElem?_eq_some_iff.1 he).1
   rcases(k5 k e _ he (List.getElem?_eq_getElem hk)).1 with h1|h1
   ·rw[h1.1]at hs;cases hs
   ·exact h1.2
  ·rcases(k5 k e o he ho).1 with h1|h1
   ·exact⟨h1.2.1,(k5 k e o he ho).2.2.2.2⟩
   ·rw[h1.1]at hs;cases hs
  ·intro γ a' W' hm' hf'
   have e1:LD es (fun _=>true) (find L)=find (B'++allN N'):=by
    funext l
    rw[k2.bl (fun _=>true) l (fun _ _ _ _ _ _=>rfl),allN_eq]
   have hPD:∀l,PD es (fun _=>true) (fun l=>l<n) l->l<n':=by
    intro l hl
    rcases PD_iff.1 hl with h|⟨k,e,hk,_,b,hb,rfl⟩
    ·have:=k2.le;omega
    ·exact k2.pd k e hk b hb
   refine⟨F',B'++allN N',n',k3.2,γ,?_,?_⟩
   ·rw[<-e1];exact hm'.pmono hPD
   ·rw[k2.fr];exact hf'.mono (fun _ _=>rfl) hPD
 |cons p cs ih=>
  obtain⟨c,us⟩:=p
  intro lo sk chk F L n hc hlo hL h
  simp only[cutsOk,Bool.and_eq_true]at hc
  obtain⟨⟨hlc,hcg⟩,hcs⟩:=hc
  have hlc:=Nat.le_of_ble_eq_true hlc
  have told0:Told [] F L n F L [] n:=by
   refine⟨rfl,fun D l _=> ?_,fun k b hb=>(by cases hb),List.nodup_nil,hL,Nat.le_refl n,fun k e hk=>(by simp at hk)⟩
   simp[LD,fo,filP]
  obtain⟨es,F',B',N',n',nnf,k1,k2,k3,k4,k5⟩:=vcT_run (g:=g) (P:=P) (T:=T) hE (fun i a h=>by cases h) (ops.toList.take c) [] F L [] n ⟨ops.toList.drop c,by simp⟩ told0 (fun k e hk=>by simp at hk) h
  simp only[List.nil_append,List.length_nil,Nat.zero_add]at k2 k5
  unfold cutG at hcg
  cases ho:ops.toList[c]? with
  |none=>rw[ho]at hcg;cases hcg
  |some o=>
  rw[ho]at hcg
  simp only[Bool.and_eq_true,List.all_eq_true,List.mem_range,Array.length_toList]at hcg
  obtain⟨⟨⟨hgd,hns⟩,hord⟩,hus⟩:=hcg
  have hcl:c<ops.size:=by simpa using(List.getElem?_eq_some_iff.1 ho).1
  have hlen:es.length=c:=by rw[k1,List.length_take,Array.length_toList];omega
  have k5':∀ (j:Nat) (e:E) (o:Oper),es[j]? =some e->ops.toList[j]? =some o->_:=fun j e o he ho=>k5 j e o he (by
   have:j<c:=by rw[<-hlen];exact(List.getElem?_eq_some_iff.1 he).1
   rw[List.getElem?_take,if_pos this];exact ho)
  have hF:=fits_of hT hE hd hL (show es.length<=ops.size by omega) k4 k5' (fun i a h=>by cases h)
  obtain⟨k3a,k3b,k3c⟩:=k3
  rw[ho]at k3c
  simp only at k3c
  obtain⟨k3g,k3c⟩:=k3c
  have hU1:∀k,k∈us->k<c/\∃o',ops.toList[k]? =some o'/\quiet o'=true/\∃t,dstK ops.toList k=some t/\o'.dst=some t:=by
   intro k hk
   obtain⟨⟨h1,h2⟩,h3⟩:=hus k hk
   refine⟨Nat.le_of_ble_eq_true h1,?_⟩
   cases hk2:ops.toList[k]? with
   |none=>rw[hk2]at h3;cases h3
   |some o'=>
    rw[hk2]at h3
    obtain⟨t,ht⟩:=Option.isSome_iff_exists.1 h2
    exact⟨o',rfl,h3,t,ht,by simpa [dstK,hk2]using ht⟩
  have hUe:∀ (k:Nat) (e:E),k∈us->es[k]? =some e->e.nw=[]/\e.w=none/\bd (fun l=>l<n') e.v:=by
   intro k e hk he
   obtain⟨h1,o',h2,h3,t,h4,h5⟩:=hU1 k hk
   obtain⟨q1,q2⟩:=(k5' k e o' he h2).2.2.2.2 h3
   have hed:e.d=some t:=by
    rcases(k5' k e o' he h2).1 with h6|h6
    ·rw[h6.2.1,h5]
    ·rw[uB_sk k3b hk]at h6;cases h6.1
   refine⟨q1,q2,uB_mem k3b hk h4 ?_⟩
   rw[k2.fr]
   exact ft_some he rfl hed fun j e' hj hjk=>hF.dst k j e e' t he hj (Ne.symm hjk) hed
  have hPD:∀l,PD es (fun _=>true) (fun l=>l<n) l->l<n':=by
   intro l hl
   rcases PD_iff.1 hl with h|⟨k,e,hk,_,b,hb,rfl⟩
   ·have:=k2.le;omega
   ·exact k2.pd k e hk b hb
  have hdN:∀ (k:Nat) (e:E) (t:Nat),es[k]? =some e->e.d=some t->t<g.N:=by
   intro k e t he ht
   have hk:k<ops.toList.length:=by have:=(List.getElem?_eq_some_iff.1 he).1;simp;omega
   have ho':=List.getElem?_eq_getElem hk
   rcases(k5' k e _ he ho').1 with h1|h1
   ·exact hd _ (List.getElem_mem hk) t (by rw[<-h1.2.1];exact ht)
   ·rw[h1.2]at ht;cases ht
  have key:∀ (F2:FF) (L2:LL) (n2:Nat),(sameU ops.toList F' F2 us/\vcCut T Ar.real P g g.n0 g.ms ck ops.toList (maskL [] ops.toList) K cs (fun k=>Nat.ble k c&& !memN us k) (fun F3=>sameU ops.toList F' F3 us) (remF (us.map (dstK ops.toList)) F2) L2 n2)->(∀l b,find L2 l=some b->l<n2)->
   ∃x:(Nat->Option SV)×List E×(Nat->Prop),Later es (fun k=>k∈us) F2 x.1 x.2.1 x.2.2/\Tree P g ops (Qn g K) x.1 (find L2) n2 x.2.1 x.2.2:=by
   rintro F2 L2 n2 ⟨hs1,hv⟩ hL2
   obtain⟨es',Fe,q1,q2,q3,q4,q5,⟨lk,mem,bef,nn,q6⟩,q7⟩:=ih (c+1) _ _ _ L2 n2 hcs hcl hL2 hv
   refine⟨(_,es',_),⟨?_,?_,?_,?_,by simp only;omega,?_⟩,q7⟩
   ·intro k e t hk he hd'
    obtain⟨h1,o',h2,h3,t',h4,h5⟩:=hU1 k hk
    have hed:e.d=some t':=by
     rcases(k5' k e o' he h2).1 with h6|h6
     ·rw[h6.2.1,h5]
     ·rw[uB_sk k3b hk]at h6;cases h6.1
    obtain rfl:t'=t:=Option.some.inj (hed.symm.trans hd')
    refine⟨?_,?_⟩
    ·rw[sameU_mem hs1 hk h4,k2.fr]
     exact ft_some he rfl hed fun j e' hj hjk=>hF.dst k j e e' t' he hj (Ne.symm hjk) hed
    ·show look (remF _ F2) t'=none
     rw[look_remF,if_pos (List.mem_map.2 ⟨k,hk,h4⟩)]
   ·intro t v hv
    have hv:look (remF _ F2) t=some v:=hv
    rw[look_remF]at hv
    split at hv
    ·cases hv
    ·exact hv
   ·intro k e e' hk he he'
    obtain⟨h1,o',h2,h3,t',h4,h5⟩:=hU1 k hk
    have hed:e.d=some t':=by
     rcases(k5' k e o' he h2).1 with h6|h6
     ·rw[h6.2.1,h5]
     ·rw[uB_sk k3b hk]at h6;cases h6.1
    have hsk:(Nat.ble k c&& !memN us k)=false:=by rw[memN_iff.2 hk];simp
    obtain⟨r1,r2⟩:=q5 k e' o' he' h2 hsk
    have hev:look F' t'=some e.v:=by
     rw[k2.fr]
     exact ft_some he rfl hed fun j e' hj hjk=>hF.dst k j e e' t' he hj (Ne.symm hjk) hed
    have hev':look Fe t'=some e'.v:=by
     rw[q2]
     exact ft_some he' rfl (by rw[r1,h5]) fun j e2 hj hjk=>q6.dst k j e' e2 t' he' hj (Ne.symm hjk) (by rw[r1,h5])
    have:=sameU_mem q3 hk h4
    rw[hev,hev']at this
    exact⟨by rw[r1,h5,hed],Option.some.inj this,r2 h3⟩
   ·intro k e' hkc hn he'
    rw[hlen]at hkc hn
    by_cases hku:k∈us
    ·exact(hn ⟨hku,(hU1 k hku).1⟩).elim
    ·refine q4 k e' he' ?_
     rw[Nat.ble_eq_true_of_le hkc]
     cases hm:memN us k with
     |false=>rfl
     |true=>exact(hku (memN_iff.1 hm)).elim
   ·intro k hk
    rw[hlen]at hk
    rcases hk with⟨h1,_⟩|h1
    ·simp only[memN_iff.2 h1,Bool.not_true,Bool.and_false]
    ·have:Nat.ble k c=false:=by
      cases hb:Nat.ble k c with
      |false=>rfl
      |true=>have:=Nat.le_of_ble_eq_true hb;omega
     simp only[this,Bool.false_and]
  refine⟨es,F',by omega,k2.fr,k3a,fun k e he hs=> ?_,fun k e o' he ho' hs=> ?_,⟨_,_,_,_,hF⟩,?_⟩
  ·have hk:k<ops.toList.length:=by have:=(List.getElem?_eq_some_iff.1 he).1;simp;omega
   rcases(k5' k e _ he (List.getElem?_eq_getElem hk)).1 with h1|h1
   ·rw[h1.1]at hs;cases hs
   ·exact h1.2
  ·rcases(k5' k e o' he ho').1 with h1|h1
   ·exact⟨h1.2.1,(k5' k e o' he ho').2.2.2.2⟩
   ·rw[h1.1]at hs;cases hs
  ·have hoA:ops[es.length]? =some o:=by rw[hlen,<-Array.getElem?_toList];exact ho
   refine Tree.cut (o:=o) (F:=F') (L:=B'++allN N') (n1:=n') (U:=fun k=>k∈us) hoA (by have h:=grdP_ok k3g;unfold grdOk at h⊢;simpa only[hoA]using h) hF (fun k hk hks=> ?_) (fun k hk=> ?_) (fun cs' b e=> ?_) hUe (fun t ht=> ?_) hdN k2.fr ?_ hPD k3c
    (fun F2 L2 n2=> @Classical.epsilon _ ⟨(fun _=>none,[],fun _=>True)⟩ fun x:(Nat->Option SV)×List E×(Nat->Prop)=>Later es (fun k=>k∈us) F2 x.1 x.2.1 x.2.2/\Tree P g ops (Qn g K) x.1 (find L2) n2 x.2.1 x.2.2) (fun F2 L2 n2 hR hL2=> ?_) (fun F2 L2 n2 hR hL2=> ?_)
   ·rw[hlen]at hk⊢
    have:=(hord k hks).1
    rw[show Nat.blt c k=true from Nat.ble_eq_true_of_le hk]at this
    simpa using this
   ·rw[hlen]at hk⊢
    have:=(hord k (by omega)).2
    rw[show Nat.blt k c=true from Nat.ble_eq_true_of_le hk]at this
    simp only[Bool.not_true,Bool.false_or,Bool.or_eq_true]at this
    exact this.imp id memN_mem
   ·rw[notSel,e]at hns;cases hns
   ·simp only[hoA]
    unfold lkOf
    exact List.mem_append_left _ ht
   ·funext l
    rw[k2.bl (fun _=>true) l (fun _ _ _ _ _ _=>rfl),allN_eq]
   ·exact(Classical.epsilon_spec (key F2 L2 n2 hR hL2)).1
   ·exact(Classical.epsilon_spec (key F2 L2 n2 hR hL2)).2
theorem reg_cut(hT:TOk P T){n0:Nat}{ms:List Nat}(h0:g.n0=n0)(h1:g.ms=ms)(hmix:P.follows .mixedOrders=true){id:Nat}{ops:Array Oper}(hB:drawB ops.toList=true)(hd:∀o∈ops.toList,∀t,o.dst=some t->t<g.N)(cuts:List (Nat×List Nat))(hc:cutsOk ops.toList (maskL [] ops.toList) 0 cuts=true){K:FF->LL->Nat->Prop}{F:FF}{L:LL}{n:Nat}
 (h:vcCut T Ar.real P g n0 ms (fun _ _=>true) ops.toList (maskL [] ops.toList) K cuts (fun _=>false) (fun _=>True) F L n):Reg g P id ops K F L n:=by
 subst h0 h1
 refine⟨?_⟩
 rintro a W ⟨β,hm,hf⟩
 have hbL:∀l b,find L l=some b->l<n:=fun l b hb=>(hm.bL l b hb).1
 obtain⟨es,Fe,_,_,_,_,_,_,tree⟩:=tree_of hT (Edges.of hB) hd cuts 0 _ _ F L n hc (Nat.zero_le _) hbL h
 have e0:∀k,(Array.replicate ops.size false).getD k false=false:=fun k=>getD_replicate_false _ _
 refine wp_region_any hmix (wpAny_tree ops.size tree (Array.replicate ops.size false) a _ β (by simp) (by simp) (fun i o hi=> ?_) (fun i _ h=>(h rfl).elim) (fun i hi=> ?_) ?_ ?_)
 ·have h2:(Array.replicate ops.size false).getD i false=true:=hi
  rw[e0]at h2;cases h2
 ·rw[e0]at hi;cases hi
 ·have e1:LD es (fun i=>(Array.replicate ops.size false).getD i false) (find L)=find L:=funext fun l=>fo_false e0
  have e2:PD es (fun i=>(Array.replicate ops.size false).getD i false) (fun l=>l<n)=fun l=>l<n:=funext fun l=>fo_false e0
  rw[e1,e2];exact hm.drawn
 ·have e1:FD es (fun i=>(Array.replicate ops.size false).getD i false) (look F)=look F:=funext fun l=>fo_false e0
  have e2:PD es (fun i=>(Array.replicate ops.size false).getD i false) (fun l=>l<n)=fun l=>l<n:=funext fun l=>fo_false e0
  rw[e1,e2];exact hf
end
section
variable {P:Program}{g:G}{T:Nat->Option Ty}{A:Ar}
theorem reg_cA(hT:TOk P T)(hA:A=Ar.real){n0 N:Nat}{ms:List Nat}(hg:GI g n0 ms N)(hmix:P.follows .mixedOrders=true){id:Nat}{ops:Array Oper}(hB:drawB ops.toList=true)(hd:(ops.toList.all fun o=>dstLt N o.dst)=true)(cuts:List (Nat×List Nat))(hc:cutsOk ops.toList (maskL [] ops.toList) 0 cuts=true){K:FF->LL->Nat->Prop}{F:FF}{L:LL}{n:Nat}
 (h:vcCut T A P g n0 ms (fun _ _=>true) ops.toList (maskL [] ops.toList) K cuts (fun _=>false) (fun _=>True) F L n):Reg g P id ops K F L n:=by
 subst hA
 exact reg_cut hT hg.n0 hg.ms hmix hB (fun o ho=>hg.dst (List.all_eq_true.1 hd o ho)) cuts hc h
end
section
variable {P:Program}{g:G}{T:Nat->Option Ty}{F:FF}{L:LL}{n:Nat}
theorem step_app_nil(hT:TOk P T){o:Oper}{m0 N:Nat}{ms:List Nat}(hg:GI g m0 ms N)(hd':dstLt N o.dst=true){s x:Operand}{t:Nat}(ho:o.op= .call {callee:= .builtin .append,args:= #[s,x],argTypes:= #[t,t]})
 {i:Ty} (ht:T t=some i) {e es:Nat} (hd:i.d= .sl e es) {j:Ty} (hj:T e=some j) {B:Nat} (hB:(P.info? e).map (·.bytes)=some B) (h0:0<es)
 (hs:ev (look F) s=some .nils) {k ox m mc:Nat} (hx:ev (look F) x=some (.slice k ox m mc)) {ds:List SV} {tk:TypeId} (hk:find L k=some ⟨k,ds,tk⟩) (hkl:ox+m*es<=ds.length)
 (hm0:0<m) (h63:m<=maxLen) (hbytes:m*B<=281474976710656) {K:FF->LL->Nat->Prop}
 (hgrow:∀c' X,X=(ds.drop ox).take (m*es)++rep (c'-m) j.z->m<=c'->c'<=maxLen->X.length=c'*es->(∀q,bdLB q ds=true->bdLB q j.z=true->bdLB q X=true)->K (putO F o.dst (.slice n 0 m c')) (L++[⟨n,X,e⟩]) (n+1)):Step g P o K F L n:=by
 refine step_append_nil hT hg hd' ho ht hd hj hB h0 hs hx hk hkl hm0 h63 hbytes fun c' h1 h2=>hgrow c' _ rfl h1 h2 ?_ fun q hq hz=>bap (bdLB_take (bdLB_drop hq)) (rep_bdLB hz _)
 obtain⟨info,z,hu,hi,hz,hsz,hby,hes,hzc,hzb,hzn⟩:=sl_facts hT ht hd hj hB
 rw[List.length_append,rep_length,List.length_take,List.length_drop,hzn,Nat.min_eq_left (by omega),Nat.sub_mul]
 have:=Nat.mul_le_mul_right es h1
 omega
theorem step_app_own(hT:TOk P T){o:Oper}{m0 N:Nat}{ms:List Nat}(hg:GI g m0 ms N)(hd':dstLt N o.dst=true){s x:Operand}{t:Nat}(ho:o.op= .call {callee:= .builtin .append,args:= #[s,x],argTypes:= #[t,t]})
 {i:Ty} (ht:T t=some i) {e es:Nat} (hd:i.d= .sl e es) {j:Ty} (hj:T e=some j) {B:Nat} (hB:(P.info? e).map (·.bytes)=some B) (h0:0<es)
 {l n1 c:Nat} (hs:ev (look F) s=some (.slice l 0 n1 c)) {cs:List SV} (hl:find L l=some ⟨l,cs,e⟩) (hown:own m0 ms l=true) (hn1:n1<=c) (hcs:cs.length=c*es) (hc:c<=maxLen)
 {k ox m mc:Nat} (hx:ev (look F) x=some (.slice k ox m mc)) {ds:List SV} {tk:TypeId} (hk:find L k=some ⟨k,ds,tk⟩) (hkl:ox+m*es<=ds.length) (hones:ones ((ds.drop ox).take (m*es))=true)
 (h63:n1+m<=maxLen) (hbytes:(n1+m)*B<=140737488355328) {K:FF->LL->Nat->Prop}
 (hK:∀c' tail X M,X=cs.take (n1*es)++(ds.drop ox).take (m*es)++tail->M=n1+m->M<=c'->c'<=maxLen->X.length=c'*es->(∀q,bdLB q cs=true->bdLB q ds=true->bdLB q j.z=true->bdLB q X=true)->K (putO F o.dst (.slice n 0 M c')) (remL [l] L++[⟨n,X,e⟩]) (n+1)):Step g P o K F L n:=by
 refine step_append_own hT hg hd' ho ht hd hj hB h0 hs hl hown hn1 hcs hc hx hk hkl hones h63 hbytes fun c' tail h1 h2 h3 h4=>hK c' tail _ _ rfl rfl h1 h2 ?_ fun q hq hds hz=>bap (bap (bdLB_take hq) (bdLB_take (bdLB_drop hds))) (h4 q hq hz)
 rw[List.length_append,List.length_append,List.length_take,List.length_take,List.length_drop,h3,hcs,Nat.min_eq_left (Nat.mul_le_mul_right es hn1),Nat.min_eq_left (by omega),Nat.sub_mul,Nat.add_mul]
 have:=Nat.mul_le_mul_right es h1
 rw[Nat.add_mul]at this
 omega
end
theorem sub_cs{A:Ar}(hA:A=Ar.real){C vs:List SV}{o n:Nat}(h:o+n<=C.length)(hv:(C.drop o).take n=vs):A.sub C o n=some vs:=by
 subst hA;simp only[Ar.real];rw[if_pos h,hv]
end Go.Vg
namespace Go.Vg
open Go.RowKit
def wkF2(ρ:Nat->Nat)(m:Nat)(F:FF):FF->Prop
 | []=>True
 |(t,v)::F'=>look F t=some (ren ρ v)/\bdB m v=true/\wkF2 ρ m F F'
def wkL2(ρ:Nat->Nat)(n0 m:Nat)(L:LL):LL->Prop
 | []=>True
 |b::L'=>find L (ρ b.l)=some ⟨ρ b.l,renL ρ b.cs,b.t⟩/\Nat.blt b.l m=true/\(Nat.blt b.l n0||Nat.ble n0 (ρ b.l))=true/\bdLB m b.cs=true/\wkL2 ρ n0 m L L'
theorem wkF_of2{ρ:Nat->Nat}{m:Nat}{F:FF}:∀ {F':FF},wkF2 ρ m F F'->wkF ρ m F F'
 | [],_=>trivial
 |(_,_)::_,h=>⟨h.1,bdB_bd _ h.2.1,wkF_of2 h.2.2⟩
theorem wkL_of2{ρ:Nat->Nat}{n0 m:Nat}{L:LL}:∀ {L':LL},wkL2 ρ n0 m L L'->wkL ρ n0 m L L'
 | [],_=>trivial
 |_::_,h=>⟨h.1,h.2.1,h.2.2.1,bdb _ h.2.2.2.1,wkL_of2 h.2.2.2.2⟩
theorem wkr{ρ:Nat->Nat}{n0 n':Nat}{F F':FF}{L L':LL}{n:Nat}(hF:wkF2 ρ n' F F')(hL:wkL2 ρ n0 n' L L')(hd:ndN (L'.map fun b=>ρ b.l)=true)(hn:Nat.ble n0 n'=true)(hb:below (fun l=>Nat.beq (ρ l) l) n0=true):Weak n0 ρ F' L' n' F L n:=
 ⟨wkF_of2 hF,wkL_of2 hL,hd,hn,hb⟩
section
variable {P:Program}{g:G}{T:Nat->Option Ty}{F:FF}{L:LL}{n:Nat}
theorem run_slice_op{W:World}{a:Act}{o:Oper}{x:Operand}{t:TypeId}{lo hi mx:Option Operand}(ho:o.op= .slice t x lo hi mx){v:Value}{W':World}(h:(Instr.sliceAt t (a.eval x) (lo.map a.eval) (hi.map a.eval) (mx.map a.eval)).run P W= .ok v W'):(execOp a.eval o).run P W= .ok (.value v) W':=by
 unfold execOp
 simp only[ho,Sem.run_bind,Sem.run_pure,Result.andThen_ok,h]
end
end Go.Vg
namespace Dg
/-! numbers as rows of digits of base b-/
def num(b:Nat)(f:Nat->Nat):Nat->Nat
 |0=>0
 |n+1=>num b f n+f n*b^n
def dig(b x i:Nat):Nat:=x/b^i%b
variable {b:Nat}
theorem dig_lt(hb:0<b)(x i:Nat):dig b x i<b:=Nat.mod_lt _ hb
theorem num_congr{f g:Nat->Nat}:∀n,(∀i,i<n->f i=g i)->num b f n=num b g n
 |0,_=>rfl
 |n+1,h=>by simp only[num];rw[num_congr n fun i hi=>h i (by omega),h n (by omega)]
theorem num_lt{f:Nat->Nat}:∀n,(∀i,i<n->f i<b)->num b f n<b^n
 |0,_=>by simp[num]
 |n+1,h=>by
  have h1:=num_lt n fun i hi=>h i (by omega)
  have h2:=h n (by omega)
  have h3:=Nat.mul_le_mul_right (b^n) (show f n+1<=b by omega)
  rw[Nat.add_mul,Nat.one_mul]at h3
  simp only[num,Nat.pow_succ]
  rw[Nat.mul_comm (b^n) b]
  omega
theorem num_dig(hb:0<b)(x:Nat):∀n,num b (dig b x) n=x%b^n
 |0=>by simp[num,Nat.mod_one]
 |n+1=>by
  simp only[num,dig]
  rw[num_dig hb x n,Nat.pow_succ,Nat.mod_mul,Nat.mul_comm (x/b^n%b)]
theorem num_split(f:Nat->Nat)(m:Nat):∀n,num b f (m+n)=num b f m+num b (fun i=>f (m+i)) n*b^m
 |0=>by simp[num]
 |n+1=>by
  show num b f (m+n)+f (m+n)*b^(m+n)=_
  rw[num_split f m n]
  simp only[num]
  rw[Nat.add_mul,Nat.pow_add,Nat.mul_assoc,Nat.mul_comm (b^n),Nat.add_assoc]
theorem dig_num(hb:0<b){f:Nat->Nat}(n:Nat)(h:∀i,i<n->f i<b)(i:Nat)(hi:i<n):dig b (num b f n) i=f i:=by
 obtain⟨k,rfl⟩:∃k,n=i+(1+k):=⟨n-i-1,by omega⟩
 have h1:num b f i<b^i:=num_lt i fun j hj=>h j (by omega)
 have hp:0<b^i:=Nat.pow_pos hb
 rw[num_split,num_split]
 simp only[dig,num]
 rw[Nat.add_mul_div_right _ _ hp,Nat.div_eq_of_lt h1]
 simp only[Nat.zero_add,Nat.pow_zero,Nat.mul_one,Nat.add_zero,Nat.pow_one]
 rw[Nat.add_mul_mod_self_right,Nat.mod_eq_of_lt (h i (by omega))]
theorem dig_big(hb:1<b){x n:Nat}(h:x<b^n){i:Nat}(hi:n<=i):dig b x i=0:=by
 unfold dig
 rw[Nat.div_eq_of_lt (Nat.lt_of_lt_of_le h (Nat.pow_le_pow_right (by omega) hi)),Nat.zero_mod]
theorem num_zero(f:Nat->Nat)(m:Nat):∀n,(∀i,m<=i->i<m+n->f i=0)->num b f (m+n)=num b f m
 |0,_=>rfl
 |n+1,h=>by
  show num b f (m+n)+f (m+n)*b^(m+n)=_
  rw[num_zero f m n fun i h1 h2=>h i h1 (by omega),h (m+n) (by omega) (by omega)];simp
theorem num_inj(hb:0<b){f g:Nat->Nat}{n:Nat}(hf:∀i,i<n->f i<b)(hg:∀i,i<n->g i<b)(h:num b f n=num b g n)(i:Nat)(hi:i<n):f i=g i:=by
 rw[<-dig_num hb n hf i hi,h,dig_num hb n hg i hi]
theorem num_set{f:Nat->Nat}{k v:Nat}:∀n,n<=k->num b (fun j=>if j=k then v else f j) n=num b f n
 |0,_=>rfl
 |n+1,h=>by
  simp only[num]
  rw[num_set n (by omega),if_neg (by omega)]
/-! a digit of a quotient:guessed from the highest digits-/
theorem guess1{d u:Nat->Nat}{n q:Nat}(hb:0<b)(hu:∀i,i<=n+1->u i<b)
 (hq:q*num b d (n+1)<=num b u (n+2)):q*d n<=u (n+1)*b+u n:=by
 have h1:num b u n<b^n:=num_lt n fun i hi=>hu i (by omega)
 have hp:0<b^n:=Nat.pow_pos hb
 simp only[num,Nat.pow_succ]at hq
 generalize b^n=P at *
 have h2:q*d n*P<(u (n+1)*b+u n+1)*P:=by
  have e1:q*(num b d n+d n*P)=q*num b d n+q*d n*P:=by grind
  have e2:(u (n+1)*b+u n+1)*P=u n*P+u (n+1)*(P*b)+P:=by grind
  omega
 have:=Nat.lt_of_mul_lt_mul_right h2
 omega
theorem guess2{d u:Nat->Nat}{n q:Nat}(hb:0<b)(hu:∀i,i<=n+2->u i<b)
 (hq:q*num b d (n+2)<=num b u (n+3)):q*(d (n+1)*b+d n)<=(u (n+2)*b+u (n+1))*b+u n:=by
 have h1:num b u n<b^n:=num_lt n fun i hi=>hu i (by omega)
 have hp:0<b^n:=Nat.pow_pos hb
 simp only[num,Nat.pow_succ]at hq
 generalize b^n=P at *
 have h2:q*(d (n+1)*b+d n)*P<((u (n+2)*b+u (n+1))*b+u n+1)*P:=by
  have e1:q*(num b d n+d n*P+d (n+1)*(P*b))=q*num b d n+q*(d (n+1)*b+d n)*P:=by grind
  have e2:((u (n+2)*b+u (n+1))*b+u n+1)*P=u n*P+u (n+1)*(P*b)+u (n+2)*(P*b*b)+P:=by grind
  omega
 have:=Nat.lt_of_mul_lt_mul_right h2
 omega
theorem guess3{t d2 h l u2 q r Q:Nat}(e:q*t+r=h*b+l)(hQ:Q*(t*b+d2)<=(h*b+l)*b+u2)(much:r*b+u2<q*d2)(hle:Q<=q):Q<=q-1:=by
 rcases Nat.lt_or_eq_of_le hle with h1|h1
 ·omega
 ·subst h1
  exfalso
  rw[<-e,Nat.mul_add,Nat.add_mul,<-Nat.mul_assoc]at hQ
  omega
end Dg
namespace Go.Vg
open Go.RowKit
structure ExtF(P:Program)(f:FuncId)(us:List SV)(v:SV):Prop where
 run:∀w,(callFunc f (denL id us).toArray).run P w= .ok (.value (den id v)) w
 cu:bdL (fun _=>False) us
 cv:bd (fun _=>False) v
section
variable {P:Program}{g:G}
theorem ext_run{β:Nat->Nat}{a:Act}{W:World}{F:Nat->Option SV}{q:Nat->Prop}(hf:Fra g β F q a){o:Oper}{c:Call}(ho:o.op= .call c){f:FuncId}{args:List SV}{v:SV}(hc:callee F c=some (f,args))(he:ExtF P f args v):
 (execOp a.eval o).run P W= .ok (.value (den β v)) W:=by
 obtain⟨hr,hu,hcv⟩:=he
 have hu':denL β args=denL id args:=dlc (p:=fun _=>False) (fun l hl=>hl.elim) args hu
 have hv':den β v=den id v:=den_congr (p:=fun _=>False) (fun l hl=>hl.elim) v hcv
 unfold callee at hc
 split at hc
 ·rename_i fo hfo
  split at hc
  ·rename_i f' x y hev
   cases hvs:evs F c.args.toList with
   |none=>simp[hvs]at hc
   |some vs=>
    simp only[hvs,Option.some.injEq,Prod.mk.injEq]at hc
    obtain⟨rfl,rfl⟩:=hc
    obtain⟨e0,b0⟩:=evd hf hev
    obtain⟨e1,b1⟩:=evs_sound hf hvs
    have m1:c.args.map a.eval=(denL β vs).toArray:=by rw[<-e1,<-Array.toList_map]
    unfold execOp
    have hres:(resolve a.eval c o.type).run P W= .ok {target:= .fn (.func f') (denL β y).toArray,args:=(denL β x).toArray++(denL β vs).toArray} W:=by
     unfold resolve
     simp[hfo,e0,den,Deferred.ofValue,m1]
    have h2:(callFunc f' ((denL β x).toArray++(denL β vs).toArray++(denL β y).toArray)).run P W= .ok (.value (den β v)) W:=by
     rw[hv',<-hr W,<-hu']
     simp[dle]
    simp only[ho,Sem.run_bind,hres,Result.andThen_ok,invoke,h2]
  ·cases hc
 ·cases hc
theorem step_ext{F:FF}{L:LL}{n:Nat}{o:Oper}{c:Call}(ho:o.op= .call c){m0 N:Nat}{ms:List Nat}(hg:GI g m0 ms N)(hd':dstLt N o.dst=true){f:FuncId}{args:List SV}{v:SV}(hc:callee (look F) c=some (f,args))(he:ExtF P f args v)
 {K:FF->LL->Nat->Prop} (hK:K (putO F o.dst v) L n):Step g P o K F L n:=
 step_val hg hd' (fun _ _ _ _ hf=>⟨ext_run hf ho hc he,bd_mono (fun _ h=>h.elim) v he.cv⟩) hK
theorem en_ext{o:Oper}{c:Call}(ho:o.op= .call c){m0 N:Nat}{ms:List Nat}(hg:GI g m0 ms N)(hd':dstLt N o.dst=true){F:Nat->Option SV}{f:FuncId}{args:List SV}{v:SV}(hc:callee F c=some (f,args))(he:ExtF P f args v){M:Nat->Option Blk}:EN g P o F M v []:=
 en_out hg hd' fun _ _ _ _ _ _ hF _ _ hf=>⟨ext_run hf ho ((callee_congr ho hF).trans hc) he,bd_mono (fun _ h=>h.elim) v he.cv⟩
end
def pickF:List Nat->FF->FF
 | [],_=> []
 |k::ks,F=>match look F k with
  |some v=>(k,v)::pickF ks F
  |none=>pickF ks F
def overL:List (Nat×List SV)->LL->LL
 | [],L=>L
 |(l,cs)::U,L=>overL U (updL L l cs)
theorem lpb{n0:Nat}{c:Code}{body:(Exit->FF->LL->Nat->Prop)->FF->LL->Nat->Prop}{Q:Exit->FF->LL->Nat->Prop}{F:FF}{L:LL}{n:Nat}(σ:Type)(ok:σ->Prop)(m:σ->Nat)(cF:σ->FF)(ks:List Nat)(cL:σ->List (Nat×List SV))(s0:σ)(h0:ok s0)
 (h1:Weak n0 id (cF s0++pickF ks F) (overL (cL s0) L) n F L n)
 (h2:∀s,ok s->body (onLoop (fun F' L' n'=>∃s' ρ,ok s'/\m s'<m s/\Weak n0 ρ (cF s'++pickF ks F) (overL (cL s') L) n F' L' n') Q) (cF s++pickF ks F) (overL (cL s) L) n):LoopP n0 c body Q F L n:=
 ⟨σ,ok,m,fun s=>cF s++pickF ks F,fun s=>overL (cL s) L,n,⟨s0,id,h0,h1⟩,h2⟩
theorem bkb{n0:Nat}{Lp:LL}(h:(Lp.all fun b=>bdLB n0 b.cs)=true):∀b∈Lp,bdL (fun l=>l<n0) b.cs:=fun b hb=>bdb _ (List.all_eq_true.1 h b hb)
def ws(f:Nat->Nat)(n:Nat):List SV:=lst .u64 (fun j=>Int.ofNat (f j)) 0 n
def Wn(n:Nat)(f:Nat->Nat):Prop:=∀j,j<n->f j<0x10000000000000000
def V(n:Nat)(f:Nat->Nat):Nat:=Dg.num 0x10000000000000000 f n
theorem V_lt{n:Nat}{f:Nat->Nat}(h:Wn n f):V n f<0x10000000000000000^n:=Dg.num_lt n h
theorem V_inj{n:Nat}{f g:Nat->Nat}(hf:Wn n f)(hg:Wn n g)(h:V n f=V n g){k:IntKind}:lst k (fun j=>Int.ofNat (f j)) 0 n=lst k (fun j=>Int.ofNat (g j)) 0 n:=
 lcg fun j _ hj=>congrArg Int.ofNat (Dg.num_inj (by decide) hf hg h j (by omega))
theorem exV(n x:Nat)(h:x<0x10000000000000000^n):∃r,Wn n r/\V n r=x:=
 ⟨Dg.dig 0x10000000000000000 x,fun j _=>Dg.dig_lt (by decide) x j,(Dg.num_dig (by decide) x n).trans (Nat.mod_eq_of_lt h)⟩
section
variable {A:Ar}
theorem getW(hA:A=Ar.real)(K:IntKind){n:Nat}(f:Nat->Nat){k:Nat}(h:k<n):A.get (lst K (fun j=>Int.ofNat (f j)) 0 n) k=some (.int K (Int.ofNat (f k))):=by
 rw[get_of hA,lst_get _ _ h,Nat.zero_add]
theorem splW(hA:A=Ar.real)(K:IntKind){n:Nat}(f g:Nat->Nat){k v:Nat}(h:k<n)(hg:g=fun j=>if j=k then v else f j):A.spl (lst K (fun j=>Int.ofNat (f j)) 0 n) k [.int K (Int.ofNat v)]=some (lst K (fun j=>Int.ofNat (g j)) 0 n):=by
 rw[spl_of hA (by rw[lle];exact h)]
 congr 1
 refine lst_set h ?_ fun j _ _ h3=> ?_
 ·rw[Nat.zero_add,hg];simp
 ·rw[Nat.zero_add]at h3;rw[hg];simp[h3]
theorem lssI(hA:A=Ar.real)(a b:Nat):A.cmp .lss (Int.ofNat a) (Int.ofNat b)=decide (a<b):=by
 rw[lss_of hA];exact decide_eq_decide.2 Int.ofNat_lt
theorem subI(hA:A=Ar.real){a b:Nat}(h:b<=a)(ha:a<2^63):A.bin .sub .i64 (Int.ofNat a) (Int.ofNat b)=Int.ofNat (a-b):=by
 subst hA
 show IntKind.i64.wrap (Int.ofNat a-Int.ofNat b)=_
 rw[show Int.ofNat a-Int.ofNat b=((a-b:Nat):Int) by simp;omega]
 exact wrap_of _ (by omega)
theorem addI(hA:A=Ar.real){a b:Nat}(h:a+b<2^63):A.bin .add .i64 (Int.ofNat a) (Int.ofNat b)=Int.ofNat (a+b):=by
 subst hA
 exact wrap_of _ h
theorem mulI(hA:A=Ar.real){a b:Nat}(h:a*b<2^63):A.bin .mul .i64 (Int.ofNat a) (Int.ofNat b)=Int.ofNat (a*b):=by
 subst hA
 exact wrap_of _ h
theorem eqlI(hA:A=Ar.real)(a b:Nat):A.cmp .eql (Int.ofNat a) (Int.ofNat b)=decide (a=b):=by
 rw[eql_of hA];exact decide_eq_decide.2 ⟨fun h=>Int.ofNat.inj h,fun h=>congrArg Int.ofNat h⟩
theorem gtrI(hA:A=Ar.real)(a b:Nat):A.cmp .gtr (Int.ofNat a) (Int.ofNat b)=decide (b<a):=by
 subst hA
 show decide (Int.ofNat a>Int.ofNat b)=_
 exact decide_eq_decide.2 Int.ofNat_lt
theorem geqI(hA:A=Ar.real)(a b:Nat):A.cmp .geq (Int.ofNat a) (Int.ofNat b)=decide (b<=a):=by
 subst hA
 show decide (Int.ofNat a≥Int.ofNat b)=_
 exact decide_eq_decide.2 Int.ofNat_le
theorem leqI(hA:A=Ar.real)(a b:Nat):A.cmp .leq (Int.ofNat a) (Int.ofNat b)=decide (a<=b):=by
 subst hA
 show decide (Int.ofNat a<=Int.ofNat b)=_
 exact decide_eq_decide.2 Int.ofNat_le
theorem neqI(hA:A=Ar.real)(a b:Nat):A.cmp .neq (Int.ofNat a) (Int.ofNat b)=decide (a≠b):=by
 rw[neq_of hA];exact decide_eq_decide.2 ⟨fun h e=>h (congrArg Int.ofNat e),fun h e=>h (Int.ofNat.inj e)⟩
theorem shrI(hA:A=Ar.real){k:IntKind}{a b:Nat}(hb:b<=k.bits):A.sh .shr k (Int.ofNat a) (Int.ofNat b)=Int.ofNat (a/2^b):=by
 subst hA
 show Int.fdiv (Int.ofNat a) (2^(min (Int.ofNat b).toNat k.bits))=_
 rw[show(Int.ofNat b).toNat=b from rfl,Nat.min_eq_left hb]
 have h:(2:Int)^b=Int.ofNat (2^b):=by simp
 rw[h];exact(Int.ofNat_fdiv ..).symm
theorem cvtI(hA:A=Ar.real){k:IntKind}{a:Nat}(h:k.signed=true->a<2^(k.bits-1))(h2:k.signed=false->a<2^k.bits):A.cvt k (Int.ofNat a)=Int.ofNat a:=by
 rw[cvt_of hA]
 cases k<;>simp[IntKind.wrap,IntKind.signed,IntKind.bits]at h h2⊢ <;>omega
end
def IsBl(x k:Nat):Prop:=x<2^k/\(0<k->2^(k-1)<=x)
theorem IsBl.uniq{x k l:Nat}(h:IsBl x k)(h2:IsBl x l):k=l:=by
 rcases Nat.lt_trichotomy k l with h3|h3|h3
 ·have:=Nat.pow_le_pow_right (show 0<2 by decide) (show k<=l-1 by omega)
  have:=h2.2 (by omega)
  have:=h.1
  omega
 ·exact h3
 ·have:=Nat.pow_le_pow_right (show 0<2 by decide) (show l<=k-1 by omega)
  have:=h.2 (by omega)
  have:=h2.1
  omega
def Used(m:Nat)(a:Nat->Nat)(u:Nat):Prop:=u<=m/\(∀j,u<=j->j<m->a j=0)/\(0<u->a (u-1)≠0)
end Go.Vg
namespace Go.Vg
open Go.RowKit
section
variable {P:Program}{g:G}{F:FF}{L:LL}{n:Nat}
theorem run_max_op{W:World}{a:Act}{o:Oper}{s x:Operand}{ats:Array TypeId}(ho:o.op= .call {callee:= .builtin .max,args:= #[s,x],argTypes:=ats}){v:Value}{W':World}(h:(Builtin.max_ ats o.type #[a.eval s,a.eval x]).run P W= .ok v W'):(execOp a.eval o).run P W= .ok (.value v) W':=by
 unfold execOp
 simp only[ho,resolve,invoke,builtin,Sem.run_bind,Sem.run_pure,Result.andThen_ok,List.map_toArray,List.map_cons,List.map_nil,h]
theorem run_min_op{W:World}{a:Act}{o:Oper}{s x:Operand}{ats:Array TypeId}(ho:o.op= .call {callee:= .builtin .min,args:= #[s,x],argTypes:=ats}){v:Value}{W':World}(h:(Builtin.min_ ats o.type #[a.eval s,a.eval x]).run P W= .ok v W'):(execOp a.eval o).run P W= .ok (.value v) W':=by
 unfold execOp
 simp only[ho,resolve,invoke,builtin,Sem.run_bind,Sem.run_pure,Result.andThen_ok,List.map_toArray,List.map_cons,List.map_nil,h]
theorem step_max{o:Oper}{m0 N:Nat}{ms:List Nat}(hg:GI g m0 ms N)(hd':dstLt N o.dst=true){s x:Operand}{ats:Array TypeId}(ho:o.op= .call {callee:= .builtin .max,args:= #[s,x],argTypes:=ats})
 {k k':IntKind} {a b r:Int} (hs:ev (look F) s=some (.int k a)) (hx:ev (look F) x=some (.int k' b)) (hr:r=if b>a then b else a) {K:FF->LL->Nat->Prop} (hK:K (putO F o.dst (.int k r)) L n):Step g P o K F L n:=by
 refine step_val hg hd' (fun β act W hm hf=> ?_) hK
 obtain⟨e1,_⟩:=evd hf hs
 obtain⟨e2,_⟩:=evd hf hx
 refine⟨run_max_op ho ?_,trivial⟩
 rw[e1,e2,hr]
 exact run_max_int2 W ats o.type k k' a b
theorem step_min{o:Oper}{m0 N:Nat}{ms:List Nat}(hg:GI g m0 ms N)(hd':dstLt N o.dst=true){s x:Operand}{ats:Array TypeId}(ho:o.op= .call {callee:= .builtin .min,args:= #[s,x],argTypes:=ats})
 {k k':IntKind} {a b r:Int} (hs:ev (look F) s=some (.int k a)) (hx:ev (look F) x=some (.int k' b)) (hr:r=if b<a then b else a) {K:FF->LL->Nat->Prop} (hK:K (putO F o.dst (.int k r)) L n):Step g P o K F L n:=by
 refine step_val hg hd' (fun β act W hm hf=> ?_) hK
 obtain⟨e1,_⟩:=evd hf hs
 obtain⟨e2,_⟩:=evd hf hx
 refine⟨run_min_op ho ?_,trivial⟩
 rw[e1,e2,hr]
 exact run_min_int2 W ats o.type k k' a b
end
theorem used_ex(a:Nat->Nat):∀m,∃u,Used m a u
 |0=>⟨0,Nat.le_refl 0,fun j h1 h2=>by omega,fun h=>absurd h (by decide)⟩
 |m+1=>by
  by_cases h:a m=0
  ·obtain⟨u,h1,h2,h3⟩:=used_ex a m
   refine⟨u,by omega,fun j hj hl=> ?_,h3⟩
   by_cases hm:j=m
   ·rw[hm];exact h
   ·exact h2 j hj (by omega)
  ·exact⟨m+1,Nat.le_refl _,fun j h1 h2=>by omega,fun _=>h⟩
theorem V_used{m u:Nat}{a:Nat->Nat}(h:Used m a u):V m a=V u a:=by
 obtain⟨k,rfl⟩:∃k,m=u+k:=⟨m-u,by have:=h.1;omega⟩
 exact Dg.num_zero a u k fun i h1 h2=>h.2.1 i h1 h2
theorem IsBl.zero{k:Nat}(h:IsBl 0 k):k=0:=by
 rcases Nat.eq_zero_or_pos k with h1|h1
 ·exact h1
 ·have:=h.2 h1
  have:=Nat.pow_pos (n:=k-1) (show 0<2 by decide)
  omega
theorem IsBl.shift{x y s l:Nat}(hx:x<2^s)(hy:IsBl y l)(h0:0<y):IsBl (x+y*2^s) (s+l):=by
 have hl:0<l:=by
  rcases Nat.eq_zero_or_pos l with h|h
  ·subst h;have:=hy.1;simp at this;omega
  ·exact h
 refine⟨?_,fun _=> ?_⟩
 ·have h1:=Nat.mul_le_mul_right (2^s) (show y+1<=2^l from hy.1)
  rw[Nat.add_mul,Nat.one_mul]at h1
  rw[Nat.pow_add,Nat.mul_comm (2^s)]
  omega
 ·have h1:=Nat.mul_le_mul_right (2^s) (hy.2 hl)
  rw[show s+l-1=l-1+s by omega,Nat.pow_add]
  omega
theorem bl_ex(x:Nat):∃k,IsBl x k:=by
 by_cases h:x=0
 ·exact⟨0,by subst h;decide,fun h=>absurd h (by decide)⟩
 ·exact⟨Nat.log2 x+1,Nat.lt_log2_self,fun _=>Nat.log2_self_le h⟩
theorem W_pow(n:Nat):18446744073709551616^n=2^(64*n):=by
 rw[Nat.pow_mul]
theorem W9 {b : Nat} (hb : b = 64 * 9) : 18446744073709551616 ^ 9 = 2 ^ b := by rw [hb, W_pow]
section
variable {A:Ar}
theorem addU(hA:A=Ar.real){a b:Nat}(h:a+b<0x10000000000000000):A.bin .add .u64 (Int.ofNat a) (Int.ofNat b)=Int.ofNat (a+b):=by
 subst hA
 show IntKind.u64.wrap (Int.ofNat a+Int.ofNat b)=_
 simp[IntKind.wrap,IntKind.signed,IntKind.bits]
 omega
end
end Go.Vg
namespace Go.Vg
open Go.RowKit
def ovI(F:Nat->Option SV):Option Operand->Option (Option (IntKind×Int))
 |none=>some none
 |some x=>match ev F x with
  |some (.int k i)=>some (some (k,i))
  |_=>none
def ivO(p:Option (IntKind×Int)):Option Value:=p.map fun p=> .int p.1 p.2
structure SlR(P:Program)(t:TypeId)(u:SV)(lo hi:Option (IntKind×Int))(r:SV):Prop where
 run:∀ (β:Nat->Nat) (W:World),(Instr.sliceAt t (den β u) (ivO lo) (ivO hi) none).run P W= .ok (den β r) W
 bd:∀p,bd p u->bd p r
section
variable {P:Program}{g:G}{T:Nat->Option Ty}
theorem ovI_sound{F:Nat->Option SV}{β:Nat->Nat}{q:Nat->Prop}{a:Act}(hf:Fra g β F q a){x:Option Operand}{p:Option (IntKind×Int)}(h:ovI F x=some p):x.map a.eval=ivO p:=by
 cases x with
 |none=>simp only[ovI,Option.some.injEq]at h;subst h;rfl
 |some x=>
  simp only[ovI]at h
  split at h
  ·rename_i k i he
   simp only[Option.some.injEq]at h
   subst h
   simp only[Option.map_some,(evd hf he).1,den,ivO]
  ·cases h
theorem ovI_congr{F F':Nat->Option SV}{x:Option Operand}(h:∀y,x=some y->ev F' y=ev F y):ovI F' x=ovI F x:=by
 cases x with
 |none=>rfl
 |some x=>simp only[ovI,h x rfl]
theorem ssl{F:FF}{L:LL}{n:Nat}{o:Oper}{m0 N:Nat}{ms:List Nat}(hg:GI g m0 ms N)(hd':dstLt N o.dst=true){x:Operand}{t:Nat}{lo hi:Option Operand}(ho:o.op= .slice t x lo hi none){u r:SV}{l h:Option (IntKind×Int)}
 (hx:ev (look F) x=some u) (hl:ovI (look F) lo=some l) (hh:ovI (look F) hi=some h) (hr:SlR P t u l h r) {K:FF->LL->Nat->Prop} (hK:K (putO F o.dst r) L n):Step g P o K F L n:=by
 refine step_val hg hd' (fun β a W hm hf=> ?_) hK
 obtain⟨e1,b1⟩:=evd hf hx
 refine⟨run_slice_op ho ?_,hr.bd _ b1⟩
 rw[e1,ovI_sound hf hl,ovI_sound hf hh]
 exact hr.run β W
theorem en_slice{F:Nat->Option SV}{M:Nat->Option Blk}{o:Oper}{m0 N:Nat}{ms:List Nat}(hg:GI g m0 ms N)(hd':dstLt N o.dst=true){x:Operand}{t:Nat}{lo hi:Option Operand}(ho:o.op= .slice t x lo hi none){u r:SV}{l h:Option (IntKind×Int)}
 (hx:ev F x=some u) (hl:ovI F lo=some l) (hh:ovI F hi=some h) (hr:SlR P t u l h r):EN g P o F M r []:=by
 refine en_out hg hd' fun β p F' L' a W hF hM hm hf=> ?_
 have E:∀z∈o.op.operands.toList,ev F' z=ev F z:=fun z hz=>ev_congr fun t ht=>hF t (tmpsL_mem hz ht)
 rw[ho]at E
 obtain⟨e1,b1⟩:=evd hf ((E x (by cases lo<;>cases hi<;>simp[Op.operands])).trans hx)
 refine⟨run_slice_op ho ?_,hr.bd _ b1⟩
 rw[e1,ovI_sound hf ((ovI_congr fun y hy=>E y (by subst hy;cases hi<;>simp[Op.operands])).trans hl),ovI_sound hf ((ovI_congr fun y hy=>E y (by subst hy;cases lo<;>simp[Op.operands])).trans hh)]
 exact hr.run β W
theorem arr_facts(hT:TOk P T){t:Nat}{i:Ty}(ht:T t=some i){m e es:Nat}{ag:Bool}(hd:i.d= .ar m e es ag):P.underlying t=some (.array (P.arrayLen t) (P.elem t))/\P.arrayLen t=m/\∀w,(sizeOf (P.elem t)).run P w= .ok es w:=by
 obtain⟨hu,hs,_⟩:=arr_of hT ht hd
 have h1:P.arrayLen t=m:=by simp[Program.arrayLen,hu]
 have h2:P.elem t=e:=by simp[Program.elem,hu]
 exact⟨by rw[h1,h2];exact hu,h1,fun w=>by rw[h2];exact rsz hs w⟩
theorem slr_arr(hT:TOk P T){t:Nat}{i:Ty}(ht:T t=some i){m e es:Nat}{ag:Bool}(hd:i.d= .ar m e es ag)(l o:Nat):SlR P t (.ptr l o) none none (.slice l o m m):=by
 obtain⟨hu,hm,hs⟩:=arr_facts hT ht hd
 refine⟨fun β W=> ?_,fun p h=>h⟩
 show(Instr.sliceAt t (.pointer (some ⟨β l,o,none⟩)) none none none).run P W=_
 rw[run_sliceAt_array_all W t ⟨β l,o,none⟩ hu,hs W,hm]
 simp only[Result.andThen,slicedAt,Nat.sub_zero,den]
 split
 ·rfl
 ·rw[Nat.zero_mul,addr_add'];rfl
theorem slr_arr_h(hT:TOk P T){t:Nat}{i:Ty}(ht:T t=some i){m e es:Nat}{ag:Bool}(hd:i.d= .ar m e es ag)(l o:Nat){k:IntKind}{j:Nat}(hj:j<=m):SlR P t (.ptr l o) none (some (k,Int.ofNat j)) (.slice l o j m):=by
 obtain⟨hu,hm,hs⟩:=arr_facts hT ht hd
 refine⟨fun β W=> ?_,fun p h=>h⟩
 show(Instr.sliceAt t (.pointer (some ⟨β l,o,none⟩)) none (some (.int k (Int.ofNat j))) none).run P W=_
 rw[run_sliceAt_array_h W t ⟨β l,o,none⟩ hu k (Int.ofNat j) (by simp) (by rw[hm];exact Int.ofNat_le.2 hj),hs W,hm]
 simp only[Result.andThen,slicedAt,Nat.sub_zero,den]
 split
 ·rfl
 ·rw[Nat.zero_mul,addr_add'];rfl
theorem slr_h(hT:TOk P T){t:Nat}{i:Ty}(ht:T t=some i){e es:Nat}(hd:i.d= .sl e es)(l o m c:Nat){k:IntKind}{j:Nat}(hj:j<=c):SlR P t (.slice l o m c) none (some (k,Int.ofNat j)) (.slice l o j c):=by
 obtain⟨hu,hs⟩:=sl_of hT ht hd
 have he:P.elem t=e:=by simp[Program.elem,hu]
 refine⟨fun β W=> ?_,fun p h=>h⟩
 show(Instr.sliceAt t (.slice (some ⟨β l,o,none⟩) m c) none (some (.int k (Int.ofNat j))) none).run P W=_
 rw[run_sliceAt_slice W t _ _ _ _ (by rw[he];exact hu),run_slice_h W t _ m c (by rw[he];exact hu) k (Int.ofNat j) (by simp) (by simpa using hj),he,rsz hs]
 simp[Result.andThen,sliced,addr_add',den]
theorem slr_l(hT:TOk P T){t:Nat}{i:Ty}(ht:T t=some i){e es:Nat}(hd:i.d= .sl e es)(l o m c:Nat){k:IntKind}{j:Nat}(hj:j<=m)(hc:j<c):SlR P t (.slice l o m c) (some (k,Int.ofNat j)) none (.slice l (o+j*es) (m-j) (c-j)):=by
 obtain⟨hu,hs⟩:=sl_of hT ht hd
 have he:P.elem t=e:=by simp[Program.elem,hu]
 refine⟨fun β W=> ?_,fun p h=>h⟩
 show(Instr.sliceAt t (.slice (some ⟨β l,o,none⟩) m c) (some (.int k (Int.ofNat j))) none none).run P W=_
 rw[run_sliceAt_slice W t _ _ _ _ (by rw[he];exact hu),run_slice_l W t _ m c (by rw[he];exact hu) k (Int.ofNat j) (by simp) (by simpa using hj),he,rsz hs]
 simp only[Result.andThen,sliced,den]
 rw[if_neg (by simp;omega)]
 simp[addr_add']
end
end Go.Vg
namespace Go.Vg
open Go.RowKit
section
variable {A:Ar}{k:IntKind}
theorem addW(hA:A=Ar.real)(hk:k.signed=false)(a b:Nat):A.bin .add k (Int.ofNat a) (Int.ofNat b)=Int.ofNat ((a+b)%2^k.bits):=by
 subst hA
 exact wrap_nat k hk (a+b)
theorem mulW(hA:A=Ar.real)(hk:k.signed=false)(a b:Nat):A.bin .mul k (Int.ofNat a) (Int.ofNat b)=Int.ofNat (a*b%2^k.bits):=by
 subst hA
 exact wrap_nat k hk (a*b)
theorem subW(hA:A=Ar.real)(hk:k.signed=false){a b:Nat}(hb:b<=2^k.bits):A.bin .sub k (Int.ofNat a) (Int.ofNat b)=Int.ofNat ((a+2^k.bits-b)%2^k.bits):=by
 subst hA
 show k.wrap ((a:Int)-(b:Int))=_
 cases k<;>simp[IntKind.signed]at hk<;>simp[IntKind.wrap,IntKind.signed,IntKind.bits]at hb⊢ <;>omega
theorem quoW(hA:A=Ar.real)(hk:k.signed=false){a:Nat}(ha:a<2^k.bits)(b:Nat):A.bin .quo k (Int.ofNat a) (Int.ofNat b)=Int.ofNat (a/b):=by
 subst hA
 show k.wrap ((a:Int).tdiv (b:Int))=_
 rw[show(a:Int).tdiv (b:Int)=((a/b:Nat):Int)from(Int.ofNat_tdiv a b).symm,wrap_nat k hk,Nat.mod_eq_of_lt (Nat.lt_of_le_of_lt (Nat.div_le_self a b) ha)]
 rfl
theorem remW(hA:A=Ar.real)(a b:Nat):A.bin .rem k (Int.ofNat a) (Int.ofNat b)=Int.ofNat (a%b):=by
 subst hA
 exact(Int.ofNat_tmod a b).symm
theorem orW(hA:A=Ar.real)(hk:k.signed=false){a b:Nat}(ha:a<2^k.bits)(hb:b<2^k.bits):A.bin .or k (Int.ofNat a) (Int.ofNat b)=Int.ofNat (a|||b):=by
 subst hA
 exact(ubits k hk a b ha hb).2.1
theorem andW(hA:A=Ar.real)(hk:k.signed=false){a b:Nat}(ha:a<2^k.bits)(hb:b<2^k.bits):A.bin .and k (Int.ofNat a) (Int.ofNat b)=Int.ofNat (a&&&b):=by
 subst hA
 exact(ubits k hk a b ha hb).1
theorem xorW(hA:A=Ar.real)(hk:k.signed=false){a b:Nat}(ha:a<2^k.bits)(hb:b<2^k.bits):A.bin .xor k (Int.ofNat a) (Int.ofNat b)=Int.ofNat (a^^^b):=by
 subst hA
 exact(ubits k hk a b ha hb).2.2
theorem shlW(hA:A=Ar.real)(hk:k.signed=false)(a:Nat){s:Nat}(hs:s<=k.bits):A.sh .shl k (Int.ofNat a) (Int.ofNat s)=Int.ofNat (a*2^s%2^k.bits):=by
 subst hA
 show k.wrap ((a:Int)*2^(min (Int.ofNat s).toNat k.bits))=_
 rw[show(Int.ofNat s).toNat=s from rfl,Nat.min_eq_left hs]
 have h:(a:Int)*(2:Int)^s=((a*2^s:Nat):Int):=by simp
 rw[h,wrap_nat k hk]
 rfl
end
section
variable {A:Ar}
theorem lss_t(hA:A=Ar.real){a b:Nat}(h:a<b):A.cmp .lss (Int.ofNat a) (Int.ofNat b)=true:=(lssI hA a b).trans (decide_eq_true h)
theorem lss_f(hA:A=Ar.real){a b:Nat}(h:¬a<b):A.cmp .lss (Int.ofNat a) (Int.ofNat b)=false:=(lssI hA a b).trans (decide_eq_false h)
theorem gtr_t(hA:A=Ar.real){a b:Nat}(h:b<a):A.cmp .gtr (Int.ofNat a) (Int.ofNat b)=true:=(gtrI hA a b).trans (decide_eq_true h)
theorem gtr_f(hA:A=Ar.real){a b:Nat}(h:¬b<a):A.cmp .gtr (Int.ofNat a) (Int.ofNat b)=false:=(gtrI hA a b).trans (decide_eq_false h)
theorem geq_t(hA:A=Ar.real){a b:Nat}(h:b<=a):A.cmp .geq (Int.ofNat a) (Int.ofNat b)=true:=(geqI hA a b).trans (decide_eq_true h)
theorem geq_f(hA:A=Ar.real){a b:Nat}(h:¬b<=a):A.cmp .geq (Int.ofNat a) (Int.ofNat b)=false:=(geqI hA a b).trans (decide_eq_false h)
theorem leq_t(hA:A=Ar.real){a b:Nat}(h:a<=b):A.cmp .leq (Int.ofNat a) (Int.ofNat b)=true:=(leqI hA a b).trans (decide_eq_true h)
theorem leq_f(hA:A=Ar.real){a b:Nat}(h:¬a<=b):A.cmp .leq (Int.ofNat a) (Int.ofNat b)=false:=(leqI hA a b).trans (decide_eq_false h)
theorem eql_t(hA:A=Ar.real){a b:Nat}(h:a=b):A.cmp .eql (Int.ofNat a) (Int.ofNat b)=true:=(eqlI hA a b).trans (decide_eq_true h)
theorem eql_f(hA:A=Ar.real){a b:Nat}(h:¬a=b):A.cmp .eql (Int.ofNat a) (Int.ofNat b)=false:=(eqlI hA a b).trans (decide_eq_false h)
theorem neq_t(hA:A=Ar.real){a b:Nat}(h:a≠b):A.cmp .neq (Int.ofNat a) (Int.ofNat b)=true:=(neqI hA a b).trans (decide_eq_true h)
theorem neq_f(hA:A=Ar.real){a b:Nat}(h:a=b):A.cmp .neq (Int.ofNat a) (Int.ofNat b)=false:=(neqI hA a b).trans (decide_eq_false (fun h2=>h2 h))
theorem nz_t(hA:A=Ar.real){a:Nat}(h:a≠0):A.nz (Int.ofNat a)=true:=nz_of hA (fun e=>h (Int.ofNat.inj e))
theorem nn_t(hA:A=Ar.real)(a:Nat):A.nn (Int.ofNat a)=true:=by
 have h:A.nn=fun i=>decide (0<=i):=congrArg Ar.nn hA
 rw[h];exact decide_eq_true (Int.natCast_nonneg a)
end
theorem or_add{a b s:Nat}(h:b<2^s):a*2^s|||b=a*2^s+b:=by
 rw[Nat.mul_comm,<-Nat.two_pow_add_eq_or_of_lt h]
end Go.Vg
