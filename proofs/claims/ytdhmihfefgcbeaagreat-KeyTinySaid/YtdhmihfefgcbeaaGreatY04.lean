/-
  This text proves what these texts prove: VgL, VgM, VgN, VgO. Conditions: those of each theorem.
-/
import Derived.Test.YtdhmihfefgcbeaaGreatY03
set_option maxHeartbeats 8000000
set_option linter.all false
namespace Go.Vg
open Go.RowKit
structure Fits(P:Program)(g:G)(ops:Array Oper)(es:List E)(F0:Nat->Option SV)(L0:Nat->Option Blk)(n:Nat)(lk:Nat->List Nat)(mem:Nat->Nat->Bool)(bef:Nat->Nat->Bool)(nn:Nat->Nat)(un:Nat->Prop):Prop where
 len:es.length<=ops.size
 clos:∀ (i:Nat) (o:Oper) (k:Nat),ops[i]? =some o->bef i k=true->∃e∈o.after,Region.binds .any e=true/\(e.on=k\/bef e.on k=true)
 back:∀ (i:Nat) (o:Oper) (e:Edge),ops[i]? =some o->e∈o.after->Region.binds .any e=true->e.on<i
 dst:∀ (i k:Nat) (e e':E) (t:Nat),es[i]? =some e->es[k]? =some e'->i≠k->e.d=some t->e'.d≠some t
 look:∀ (i k:Nat) (e:E) (t:Nat),i<ops.size->es[k]? =some e->i≠k->e.d=some t->t∈lk i->(k<i/\bef i k=true)\/(i<k/\bef k i=true)
 ord:∀ (i k:Nat) (e:E) (l q:Nat) (vs:List SV),mem i l=true->i<ops.size->es[k]? =some e->e.w=some (l,q,vs)->i≠k->(k<i/\bef i k=true)\/(i<k/\bef k i=true)
 memw:∀ (i:Nat) (e:E) (l q:Nat) (vs:List SV),es[i]? =some e->e.w=some (l,q,vs)->mem i l=true
 lab:∀ (k:Nat) (e:E),es[k]? =some e->(∀b∈e.nw,nn k<=b.l/\b.l<nn (k+1))/\nn k<=nn (k+1)
 nn0:nn 0=n
 tgt:∀ (i:Nat) (e:E) (k q:Nat) (vs:List SV),es[i]? =some e->e.w=some (k,q,vs)->∃b,LD es (fun j=>bef i j) L0 k=some b
 old:∀ (l:Nat) (b:Blk),L0 l=some b->l<n
 ex:∀ (i:Nat) (e:E),un i->es[i]? =some e->∀ (β:Nat->Nat) (p:Nat->Prop) (F':Nat->Option SV) (L':Nat->Option Blk) (a:Act) (W:World),(∀t∈lk i,F' t=FD es (fun k=>decide (k<i)) F0 t)->(∀l b,mem i l=true->LD es (fun k=>bef i k) L0 l=some b->L' l=some b)->(∀b∈e.nw,¬p b.l)->(∀l,l<n->p l)->
  Mem g β L' p W->Fra g β F' p a->∀ (K:Act->World->Prop) (Q:Exit->Act->World->Prop),(∀γ a' W',Mem g γ (aL e L') (aP e p) W'->Fra g γ (aF e F') (aP e p) a'->K a' W')->wpOp P ops Q i K a W
section
variable {P:Program}{g:G}{ops:Array Oper}{es:List E}{F0:Nat->Option SV}{L0:Nat->Option Blk}{n:Nat}{lk:Nat->List Nat}{mem:Nat->Nat->Bool}{bef:Nat->Nat->Bool}{nn:Nat->Nat}{un:Nat->Prop}
theorem nn_mono(h:Fits P g ops es F0 L0 n lk mem bef nn un){i k:Nat}(hik:i<=k)(hk:k<=es.length):nn i<=nn k:=by
 induction k with
 |zero=>rw[show i=0 by omega];exact Nat.le_refl _
 |succ k ih=>
  by_cases e:i=k+1
  ·rw[e];exact Nat.le_refl _
  ·have h1:=ih (by omega) (by omega)
   have h2:=(h.lab k (es[k]'(by omega)) (List.getElem?_eq_getElem (by omega))).2
   omega
theorem lab_at(h:Fits P g ops es F0 L0 n lk mem bef nn un){i:Nat}{e:E}(he:es[i]? =some e){b:Blk}(hb:b∈e.nw):n<=b.l/\nn i<=b.l/\b.l<nn (i+1):=by
 have h1:=(h.lab i e he).1 b hb
 have hi:i<es.length:=(List.getElem?_eq_some_iff.1 he).1
 have h2:=nn_mono h (Nat.zero_le i) (by omega)
 rw[h.nn0]at h2
 omega
theorem lab_ne(h:Fits P g ops es F0 L0 n lk mem bef nn un){i k:Nat}{e e':E}(he:es[i]? =some e)(he':es[k]? =some e')(hik:i≠k){b b':Blk}(hb:b∈e.nw)(hb':b'∈e'.nw):b.l≠b'.l:=by
 have h1:=lab_at h he hb
 have h2:=lab_at h he' hb'
 have hi:i<es.length:=(List.getElem?_eq_some_iff.1 he).1
 have hk:k<es.length:=(List.getElem?_eq_some_iff.1 he').1
 rcases Nat.lt_or_ge i k with hlt|hge
 ·have:=nn_mono h (show i+1<=k from hlt) (by omega);omega
 ·have:=nn_mono h (show k+1<=i by omega) (by omega);omega
def Closed(ops:Array Oper)(D:Nat->Bool):Prop:=∀i o,D i=true->ops[i]? =some o->∀e∈o.after,Region.binds .any e=true->D e.on=true
theorem closed_bef(h:Fits P g ops es F0 L0 n lk mem bef nn un){D:Nat->Bool}(hD:Closed ops D)(hb:∀i,D i=true->i<ops.size){k:Nat}:∀ {i:Nat},D i=true->bef i k=true->D k=true:=by
 intro i
 induction i using Nat.strongRecOn with
 |_ i ih=>
  intro hi hbef
  obtain⟨o,ho⟩:∃o,ops[i]? =some o:=⟨ops[i]'(hb i hi),Array.getElem?_eq_getElem (hb i hi)⟩
  obtain⟨e,he,hbi,hor⟩:=h.clos i o k ho hbef
  have h1:=hD i o hi ho e he hbi
  rcases hor with rfl|h2
  ·exact h1
  ·exact ih e.on (h.back i o e ho he hbi) h1 h2
theorem ready_bef(h:Fits P g ops es F0 L0 n lk mem bef nn un){D:Nat->Bool}(hD:Closed ops D)(hb:∀i,D i=true->i<ops.size){i:Nat}{o:Oper}(ho:ops[i]? =some o)(hall:∀e∈o.after,Region.binds .any e=true->D e.on=true){k:Nat}(hk:bef i k=true):D k=true:=by
 obtain⟨e,he,hbi,hor⟩:=h.clos i o k ho hk
 have h1:=hall e he hbi
 rcases hor with rfl|h2
 ·exact h1
 ·exact closed_bef h hD hb h1 h2
theorem FD_at{D:Nat->Bool}{t:Nat}(h:Fits P g ops es F0 L0 n lk mem bef nn un):(∃k e,es[k]? =some e/\D k=true/\e.d=some t/\FD es D F0 t=some e.v)\/((∀k e,es[k]? =some e->D k=true->e.d≠some t)/\FD es D F0 t=F0 t):=by
 by_cases hex:∃k e,es[k]? =some e/\D k=true/\e.d=some t
 ·obtain⟨k,e,h1,h2,h3⟩:=hex
  exact Or.inl ⟨k,e,h1,h2,h3,ft_some h1 (by simpa using h2) h3 fun j e' hj hjk=>h.dst k j e e' t h1 hj (Ne.symm hjk) h3⟩
 ·have hn:∀k e,es[k]? =some e->D k=true->e.d≠some t:=fun k e h1 h2 h3=>hex ⟨k,e,h1,h2,h3⟩
  exact Or.inr ⟨hn,ft_none fun k e h1 h2=>hn k e h1 (by simpa using h2)⟩
theorem look_agree(h:Fits P g ops es F0 L0 n lk mem bef nn un){D:Nat->Bool}(hD:Closed ops D)(hb:∀i,D i=true->i<ops.size){i:Nat}{o:Oper}(ho:ops[i]? =some o)(hall:∀e∈o.after,Region.binds .any e=true->D e.on=true)(hi:D i=false){t:Nat}(ht:t∈lk i):
 FD es D F0 t=FD es (fun k=>decide (k<i)) F0 t:=by
 have hil:i<ops.size:=(Array.getElem?_eq_some_iff.1 ho).1
 have key:∀k e,es[k]? =some e->e.d=some t->k≠i->(D k=true↔k<i):=by
  intro k e hk hd hki
  rcases h.look i k e t hil hk (Ne.symm hki) hd ht with⟨h1,h2⟩|⟨h1,h2⟩
  ·exact⟨fun _=>h1,fun _=>ready_bef h hD hb ho hall h2⟩
  ·refine⟨fun h3=> ?_,fun h3=>by omega⟩
   have:=closed_bef h hD hb h3 h2
   rw[hi]at this;cases this
 rcases FD_at (D:=D) (t:=t) h with⟨k,e,h1,h2,h3,h4⟩|⟨h1,h2⟩
 ·have hki:k≠i:=fun e=>by rw[e,hi]at h2;cases h2
  rcases FD_at (D:=fun k=>decide (k<i)) (t:=t) h with⟨k',e',k1,k2,k3,k4⟩|⟨k1,_⟩
  ·have:k=k':=by
    refine Classical.byContradiction fun hne=>h.dst k k' e e' t h1 k1 hne h3 k3
   subst this
   rw[h1]at k1
   obtain rfl:=Option.some.inj k1
   rw[h4,k4]
  ·exact(k1 k e h1 (by simpa using(key k e h1 h3 hki).1 h2) h3).elim
 ·rcases FD_at (D:=fun k=>decide (k<i)) (t:=t) h with⟨k',e',k1,k2,k3,k4⟩|⟨_,k2⟩
  ·have hlt:k'<i:=by simpa using k2
   exact(h1 k' e' k1 ((key k' e' k1 k3 (by omega)).2 hlt) k3).elim
  ·rw[h2,k2]
theorem mem_agree(h:Fits P g ops es F0 L0 n lk mem bef nn un){D:Nat->Bool}(hD:Closed ops D)(hb:∀i,D i=true->i<ops.size){i:Nat}{o:Oper}(ho:ops[i]? =some o)(hall:∀e∈o.after,Region.binds .any e=true->D e.on=true)(hi:D i=false)
 {l:Nat} {b:Blk} (hm:mem i l=true) (hl:LD es (fun k=>bef i k) L0 l=some b):LD es D L0 l=some b:=by
 have hil:i<ops.size:=(Array.getElem?_eq_some_iff.1 ho).1
 refine gl_mono nn (fun k e hk=>by simpa using h.lab k e hk) (fun k e hk hd=> ?_) (fun k e hk hd hn=> ?_) (Or.inr rfl) (fun b hb=>by rw[h.nn0];exact h.old l b hb) b hl
 ·simp only[Nat.zero_add]at hd⊢
  exact ready_bef h hD hb ho hall hd
 ·simp only[Nat.zero_add]at hd hn
  rintro l' q vs hw rfl
  have hki:i≠k:=fun e=>by rw[<-e,hi]at hd;cases hd
  rcases h.ord i k e l' q vs hm hil hk hw hki with⟨_,h2⟩|⟨_,h2⟩
  ·rw[hn]at h2;cases h2
  ·have:=closed_bef h hD hb hd h2
   rw[hi]at this;cases this
theorem FD_add(h:Fits P g ops es F0 L0 n lk mem bef nn un){D:Nat->Bool}{i:Nat}{e:E}(he:es[i]? =some e)(hi:D i=false):FD es (add D i) F0=aF e (FD es D F0):=by
 funext t
 refine fo_insert hi (Nat.zero_le i) (by simpa using he) ?_
 intro k e' hik hk _ y
 simp only[Nat.sub_zero]at hk
 unfold ft
 by_cases h1:e.d=some t
 ·have:=h.dst i k e e' t he hk (by omega) h1
  rw[if_neg this,if_neg this]
 ·rw[if_neg h1,if_neg h1]
theorem PD_add{D:Nat->Bool}{p:Nat->Prop}{i:Nat}{e:E}(he:es[i]? =some e)(hi:D i=false):PD es (add D i) p=aP e (PD es D p):=by
 funext l
 refine fo_insert hi (Nat.zero_le i) (by simpa using he) ?_
 intro k e' hik hk _ y
 simp only[pl]
 exact propext ⟨fun h=>by rcases h with(h|h)|h<;>simp[h],fun h=>by rcases h with(h|h)|h<;>simp[h]⟩
theorem LD_label(h:Fits P g ops es F0 L0 n lk mem bef nn un){D:Nat->Bool}{l:Nat}{b:Blk}(hl:LD es D L0 l=some b):l<n\/ ∃k e,es[k]? =some e/\D k=true/\∃c∈e.nw,c.l=l:=by
 have key:∀ (es:List E) (s:Nat) (x:Option Blk),(∃b,fo (gl l) D s es x=some b)->(∃b,x=some b)\/ ∃k e,es[k]? =some e/\D (s+k)=true/\∃c∈e.nw,c.l=l:=by
  intro es
  induction es with
  |nil=>intro s x hx;exact Or.inl hx
  |cons e es ih=>
   intro s x hx
   simp only[fo]at hx
   rcases ih _ _ hx with⟨b,hb⟩|⟨k,e',h1,h2,h3⟩
   ·by_cases hD:D s=true
    ·rw[if_pos hD]at hb
     unfold gl at hb
     cases hw:e.w with
     |some q=>
      obtain⟨k,q,vs⟩:=q
      rw[hw]at hb
      simp only at hb
      left
      by_cases hlk:l=k
      ·rw[if_pos hlk]at hb
       obtain⟨d,hd,_⟩:=Option.map_eq_some_iff.1 hb
       exact⟨d,hd⟩
      ·rw[if_neg hlk]at hb;exact⟨b,hb⟩
     |none=>
      rw[hw]at hb
      cases x with
      |some c=>exact Or.inl ⟨c,rfl⟩
      |none=>
       simp only at hb
       exact Or.inr ⟨0,e,rfl,hD,find_some_label hb⟩
    ·rw[if_neg hD]at hb;exact Or.inl ⟨b,hb⟩
   ·exact Or.inr ⟨k+1,e',by simpa using h1,by rw[<-h2];congr 1;omega,h3⟩
 rcases key es 0 (L0 l) ⟨b,hl⟩with⟨b,hb⟩|⟨k,e,h1,h2,h3⟩
 ·exact Or.inl (h.old l b hb)
 ·exact Or.inr ⟨k,e,h1,by simpa using h2,h3⟩
theorem LD_add(h:Fits P g ops es F0 L0 n lk mem bef nn un){D:Nat->Bool}(hD:Closed ops D)(hb:∀i,D i=true->i<ops.size){i:Nat}{e:E}(he:es[i]? =some e)(hi:D i=false):LD es (add D i) L0=aL e (LD es D L0):=by
 funext l
 refine fo_insert hi (Nat.zero_le i) (by simpa using he) ?_
 intro k e' hik hk hDk y
 simp only[Nat.sub_zero]at hk
 have hil:i<es.length:=(List.getElem?_eq_some_iff.1 he).1
 have nob:bef k i=true->False:=fun hb'=>by
  have:=closed_bef h hD hb hDk hb'
  rw[hi]at this;cases this
 -- one of the two leaves the label alone
 have hid:(∀y,gl l e y=y)\/(∀y,gl l e' y=y):=by
  cases hw:e.w with
  |some q=>
   obtain⟨m,q,vs⟩:=q
   by_cases hlm:l=m
   ·right
    intro y
    cases hw':e'.w with
    |some q'=>
     obtain⟨m',q',vs'⟩:=q'
     by_cases hmm:m'=m
     ·rcases h.ord i k e' m q' vs' (h.memw i e m q vs he hw) (Nat.lt_of_lt_of_le hil h.len) hk (by rw[hw',hmm]) (by omega)with⟨h1,_⟩|⟨_,h2⟩
      ·omega
      ·exact(nob h2).elim
     ·unfold gl
      rw[hw']
      exact if_neg (by rw[hlm];exact fun e=>hmm e.symm)
    |none=>
     unfold gl
     rw[hw']
     cases y with
     |some c=>rfl
     |none=>
      simp only
      cases hf:find e'.nw l with
      |none=>rfl
      |some c=>
       exfalso
       obtain⟨d,hd,e1⟩:=find_some_label hf
       have h1:=lab_at h hk hd
       obtain⟨b,hb'⟩:=h.tgt i e m q vs he hw
       rw[<-hlm]at hb'
       have hnk:=nn_mono h (show i+1<=k by omega) (Nat.le_of_lt (List.getElem?_eq_some_iff.1 hk).1)
       rcases LD_label h hb' with h2|⟨j,ej,h2,h3,c',hc',e2⟩
       ·omega
       ·have hj:=lab_at h h2 hc'
        by_cases hjk:j=k
        ·subst hjk
         have h3':bef i j=true:=h3
         have:∃o,ops[i]? =some o:=⟨ops[i]'(Nat.lt_of_lt_of_le hil h.len),Array.getElem?_eq_getElem (Nat.lt_of_lt_of_le hil h.len)⟩
         -- what i waits for lies before i
         have hbk:∀i,bef i j=true->i<ops.size->j<i:=by
          intro i
          induction i using Nat.strongRecOn with
          |_ i ih=>
           intro hbi hlt
           obtain⟨ee,he1,he2,hor⟩:=h.clos i (ops[i]'hlt) j (Array.getElem?_eq_getElem hlt) hbi
           have hlt2:=h.back i _ ee (Array.getElem?_eq_getElem hlt) he1 he2
           rcases hor with h5|h5
           ·omega
           ·have:=ih ee.on hlt2 h5 (by omega)
            omega
         have:=hbk i h3' (Nat.lt_of_lt_of_le hil h.len)
         omega
        ·exact lab_ne h h2 hk hjk hc' hd (by rw[e1,e2])
   ·left
    intro y
    unfold gl
    rw[hw]
    simp only
    rw[if_neg hlm]
  |none=>
   cases hf:find e.nw l with
   |none=>
    left
    intro y
    unfold gl
    rw[hw]
    cases y with
    |some c=>rfl
    |none=>exact hf
   |some c=>
    right
    obtain⟨d,hd,e1⟩:=find_some_label hf
    intro y
    cases hw':e'.w with
    |some q'=>
     obtain⟨m,q,vs⟩:=q'
     unfold gl
     rw[hw']
     simp only
     refine if_neg fun hlm=> ?_
     obtain⟨b,hb'⟩:=h.tgt k e' m q vs hk hw'
     rw[<-hlm]at hb'
     have h1:=lab_at h he hd
     rcases LD_label h hb' with h2|⟨j,ej,h2,h3,c',hc',e2⟩
     ·omega
     ·by_cases hji:j=i
      ·subst hji;exact nob h3
      ·exact lab_ne h h2 he hji hc' hd (by rw[e1,e2])
    |none=>
     unfold gl
     rw[hw']
     cases y with
     |some c=>rfl
     |none=>
      simp only
      cases hf':find e'.nw l with
      |none=>rfl
      |some c'=>
       obtain⟨d',hd',e2⟩:=find_some_label hf'
       exact(lab_ne h he hk (by omega) hd hd' (by rw[e1,e2])).elim
 rcases hid with h1|h1
 ·rw[h1,h1]
 ·rw[h1,h1]
theorem fits_step(h:Fits P g ops es F0 L0 n lk mem bef nn un){D:Nat->Bool}(hcl:Closed ops D)(hin:∀i,D i=true->i<ops.size){i:Nat}{o:Oper}(ho:ops[i]? =some o)(hall:∀e∈o.after,Region.binds .any e=true->D e.on=true)(hDi:D i=false)(hil:i<es.length)(hu:un i)
 {a:Act} {W:World} {β:Nat->Nat} (hm:Mem g β (LD es D L0) (PD es D (fun l=>l<n)) W) (hf:Fra g β (FD es D F0) (PD es D (fun l=>l<n)) a) {K:Act->World->Prop} {Q:Exit->Act->World->Prop}
 (hK:∀γ a' W',Mem g γ (LD es (add D i) L0) (PD es (add D i) (fun l=>l<n)) W'->Fra g γ (FD es (add D i) F0) (PD es (add D i) (fun l=>l<n)) a'->K a' W'):wpOp P ops Q i K a W:=by
 have he:es[i]? =some (es[i]'hil):=List.getElem?_eq_getElem _
 refine h.ex i _ hu he β _ _ _ a W (fun t ht=>look_agree h hcl hin ho hall hDi ht) (fun l b hmm hl=>mem_agree h hcl hin ho hall hDi hmm hl) ?_ (fun l hl=>PD_iff.2 (Or.inl hl)) hm hf _ Q ?_
 ·intro b hb hp
  rcases PD_iff.1 hp with hp|⟨k,e',h1,h2,c,hc',h3⟩
  ·have:=(lab_at h he hb).1;omega
  ·simp only[Nat.zero_add]at h2
   have hki:i≠k:=fun e=>by rw[<-e,hDi]at h2;cases h2
   exact lab_ne h he h1 hki hb hc' h3.symm
 ·intro γ a' W' hm' hf'
  refine hK γ a' W' ?_ ?_
  ·rw[LD_add h hcl hin he hDi,PD_add he hDi];exact hm'
  ·rw[FD_add h he hDi,PD_add he hDi];exact hf'
theorem set_add{ls:Array Bool}{s i:Nat}(hs:ls.size=s)(hi:i<s):(fun k=>(ls.setIfInBounds i true).getD k false)=add (fun k=>ls.getD k false) i:=by
 funext k
 simp only[add]
 by_cases hk:k=i
 ·subst hk
  rw[if_pos rfl,Array.getD_eq_getD_getElem?]
  simp[show k<ls.size by omega]
 ·rw[if_neg hk,getD_set_ne false (Ne.symm hk)]
theorem set_count{ls:Array Bool}{s i fuel:Nat}(hs:ls.size=s)(hi:i<s)(hDi:ls.getD i false=false)(hc:ls.toList.count false=fuel+1):(ls.setIfInBounds i true).toList.count false=fuel:=by
 have h1:ls.toList[i]? =some false:=by
  rw[Array.getElem?_toList,Array.getElem?_eq_getElem (show i<ls.size by omega)]
  rw[Array.getD_eq_getD_getElem?,Array.getElem?_eq_getElem (show i<ls.size by omega)]at hDi
  simpa using hDi
 have h2:i<ls.toList.length:=(List.getElem?_eq_some_iff.1 h1).1
 have h3:ls.toList[i]=false:=(List.getElem?_eq_some_iff.1 h1).2
 rw[Array.toList_setIfInBounds,List.count_set h2,h3,hc]
 simp
theorem closed_add{D:Nat->Bool}(hcl:Closed ops D){i:Nat}{o:Oper}(ho:ops[i]? =some o)(hall:∀e∈o.after,Region.binds .any e=true->D e.on=true):Closed ops (add D i):=by
 intro k o' hk ho' e' he' hb'
 simp only[add]at hk⊢
 by_cases hke:e'.on=i
 ·rw[if_pos hke]
 ·rw[if_neg hke]
  by_cases hki:k=i
  ·subst hki
   rw[ho]at ho'
   obtain rfl:=Option.some.inj ho'
   exact hall e' he' hb'
  ·rw[if_neg hki]at hk
   exact hcl k o' hk ho' e' he' hb'
theorem listed_lt{ls:Array Bool}{s:Nat}(hs:ls.size=s):∀i,ls.getD i false=true->i<s:=by
 intro i hi
 refine Nat.lt_of_not_le fun hge=> ?_
 rw[Array.getD_eq_getD_getElem?,Array.getElem?_eq_none (by omega)]at hi
 cases hi
theorem all_listed{ls:Array Bool}{s:Nat}(hs:ls.size=s)(hc:ls.toList.count false=0):∀i,i<s->ls.getD i false=true:=by
 intro i hi
 have h0:=List.count_eq_zero.1 hc
 have:ls[i]? =some ls[i]:=Array.getElem?_eq_getElem (by omega)
 rw[Array.getD_eq_getD_getElem?,this]
 simp only[Option.getD_some]
 refine Classical.byContradiction fun hne=>h0 ?_
 have h1:ls[i]=false:=by simpa using hne
 rw[<-h1]
 exact Array.getElem_mem_toList _
theorem none_ready{ls:Array Bool}(hs:ls.size=ops.size)(hall:∀i,i<ops.size->ls.getD i false=true):Region.ready .any ops ls=[]:=by
 refine List.eq_nil_iff_forall_not_mem.2 fun i hi=> ?_
 obtain⟨h1,o,ho,_⟩:=mem_ready.1 hi
 have h2:=hall i (Array.getElem?_eq_some_iff.1 ho).1
 rw[Array.getD_eq_getD_getElem?]at h1 h2
 have h3:i<ls.size:=by rw[hs];exact(Array.getElem?_eq_some_iff.1 ho).1
 rw[Array.getElem?_eq_getElem h3]at h1 h2
 simp only[Option.getD_some]at h1 h2
 rw[h1]at h2;cases h2
theorem some_ready{ls:Array Bool}(hs:ls.size=ops.size)(hback:∀ (i:Nat) (o:Oper) (e:Edge),ops[i]? =some o->e∈o.after->Region.binds .any e=true->e.on<i){fuel:Nat}(hc:ls.toList.count false=fuel+1):Region.ready .any ops ls≠ []:=by
 intro hr
 have hex:∃i,i<ops.size/\ls.getD i false=false:=by
  have hpos:0<ls.toList.count false:=by omega
  obtain⟨i,hi,he⟩:=List.getElem_of_mem (List.count_pos_iff.1 hpos)
  refine⟨i,by rw[<-hs];simpa using hi,?_⟩
  rw[Array.getD_eq_getD_getElem?,Array.getElem?_eq_getElem (by simpa using hi)]
  simpa using he
 have none:∀i,i<ops.size->ls.getD i false=false->False:=by
  intro i
  induction i using Nat.strongRecOn with
  |_ i ihi=>
   intro hi hf
   have ho:=Array.getElem?_eq_getElem hi
   by_cases hd:∀e∈(ops[i]'hi).after,Region.binds .any e=true->ls.getD e.on false=true
   ·have:i∈Region.ready .any ops ls:=mem_ready.2 ⟨by
     rw[Array.getD_eq_getD_getElem?]at hf⊢
     rw[Array.getElem?_eq_getElem (show i<ls.size by omega)]at hf⊢
     exact hf,_,ho,hd⟩
    rw[hr]at this
    cases this
   ·simp only[Classical.not_forall]at hd
    obtain⟨e,he,hb,hne⟩:=hd
    have hlt:=hback i _ e ho he hb
    exact ihi e.on hlt (by omega) (by simpa using hne)
 obtain⟨i,hi,hfa⟩:=hex
 exact none i hi hfa
theorem unlisted{ls:Array Bool}(hs:ls.size=ops.size){i:Nat}(hi:i∈Region.ready .any ops ls):ls.getD i false=false/\∃o,ops[i]? =some o/\∀e∈o.after,Region.binds .any e=true->ls.getD e.on false=true:=by
 obtain⟨hun,o,ho,hall⟩:=mem_ready.1 hi
 have hio:i<ops.size:=(Array.getElem?_eq_some_iff.1 ho).1
 refine⟨?_,o,ho,hall⟩
 rw[Array.getD_eq_getD_getElem?]at hun⊢
 rw[Array.getElem?_eq_getElem (show i<ls.size by omega)]at hun⊢
 exact hun
theorem mono_D{D D':Nat->Bool}(hd:∀k,k<es.length->D k=D' k):FD es D F0=FD es D' F0/\LD es D L0=LD es D' L0/\PD es D (fun l=>l<n)=PD es D' (fun l=>l<n):=by
 have hd':∀k e,es[k]? =some e->D (0+k)=D' (0+k):=fun k e hk=>by rw[Nat.zero_add];exact hd k (List.getElem?_eq_some_iff.1 hk).1
 exact⟨funext fun t=>fo_congr2 hd',funext fun l=>fo_congr2 hd',funext fun l=>fo_congr2 hd'⟩
end
end Go.Vg
namespace Go.Vg
open Go.RowKit
def tmpOf:Operand->List Nat
 | .tmp t=> [t]
 |_=> []
def tmpsL:List Operand->List Nat
 | []=> []
 |x::xs=>tmpOf x++tmpsL xs
def lkOf(all:List Oper)(o:Oper):List Nat:=
 tmpsL o.op.operands.toList++match o.guard with
  |some (j,_)=>match all[j]? with
   |some oj=>match oj.dst with
    |some d=> [d]
    |none=> []
   |none=> []
  |none=> []
def memOf(o:Oper):Bool:=
 match o.op with
 | .move _| .assign _| .pick _ _ _| .nilCheck _| .unOp _ _ _| .makeFunc _ _ _| .fieldAddr _ _ _| .field _ _ _| .indexAddr _ _ _| .index _ _ _| .extract _ _| .build _ _| .alloc _| .box _ _| .buildSlice _ _ _=>false
 | .binOp _ _ _ _ _=>false
 | .call c=>match c.callee with
   | .builtin .len=>false
   |_=>true
 |_=>true
def quiet(o:Oper):Bool:=
 match o.op with
 | .move _| .assign _| .load _ _| .fieldAddr _ _ _| .nilCheck _| .extract _ _=>true
 |_=>false
def isStore(o:Oper):Bool:=
 match o.op with
 | .store _ _ _=>true
 |_=>false
def maskOf(acc:List Nat):List Edge->Nat
 | []=>0
 |e::es=>match Region.binds .any e with
  |true=>2^e.on|||acc.getD e.on 0|||maskOf acc es
  |false=>maskOf acc es
def maskL(acc:List Nat):List Oper->List Nat
 | []=>acc
 |o::os=>maskL (acc++[maskOf acc o.after.toList]) os
def befB(m:List Nat)(i k:Nat):Bool:=(m.getD i 0).testBit k
def ordB(m:List Nat)(i k:Nat):Bool:=(Nat.blt k i&&befB m i k)||(Nat.blt i k&&befB m k i)
def drawB(all:List Oper):Bool:=
 let m:=maskL [] all
 let is:=List.range all.length
 is.all fun i=>match all[i]? with
  |none=>false
  |some o=>(o.after.toList.all fun e=> !Region.binds .any e||Nat.blt e.on i)&&
   is.all fun k=>Nat.beq i k||match all[k]? with
    |none=>false
    |some o'=>(match o'.dst with
     |some t=> !(o.dst==some t)&&(!memN (lkOf all o) t||ordB m i k)
     |none=>true)&&(!isStore o'|| !memOf o||ordB m i k)
def freeL(all:List Oper)(o:Oper):Option Nat:=
 match o.op with
 | .load _ (.tmp t)=>match all.all fun o'=>match o'.dst with|some d=> !Nat.beq d t|none=>true with
   |true=>some t
   |false=>none
 |_=>none
def drawC(all:List Oper):Bool:=
 let m:=maskL [] all
 let is:=List.range all.length
 is.all fun i=>match all[i]? with
  |none=>false
  |some o=>(o.after.toList.all fun e=> !Region.binds .any e||Nat.blt e.on i)&&
   is.all fun k=>Nat.beq i k||match all[k]? with
    |none=>false
    |some o'=>(match o'.dst with
     |some t=> !(o.dst==some t)&&(!memN (lkOf all o) t||ordB m i k)
     |none=>true)&&(!isStore o'|| !memOf o||ordB m i k||(freeL all o).isSome)
def labS(F:Nat->Option SV)(t:Nat):Option Nat:=
 match F t with
 |some (.ptr a _)=>some a
 |some (.ptrS a _)=>some a
 |_=>none
def frL(all:List Oper)(F:Nat->Option SV)(i:Nat):Option Nat:=
 match all[i]? with
 |some o=>match freeL all o with
  |some t=>labS F t
  |none=>none
 |none=>none
def ckC(all:List Oper)(m:List Nat)(F:Nat->Option SV)(k l:Nat):Bool:=
 (List.range all.length).all fun i=>match all[i]? with
  |some o=>match freeL all o with
   |some t=>ordB m i k||match labS F t with
    |some a=> !Nat.beq a l
    |none=>false
   |none=>true
  |none=>true
abbrev NL:=List (Nat×Blk)
def filN(m:List Nat)(i:Nat):NL->LL
 | []=> []
 |(k,b)::N=>match befB m i k with
  |true=>b::filN m i N
  |false=>filN m i N
def allN:NL->LL
 | []=> []
 |(_,b)::N=>b::allN N
def updA(l:Nat)(cs:List SV):LL->LL
 | []=> []
 |b::L=>(if b.l=l then⟨b.l,cs,b.t⟩else b)::updA l cs L
def updN(l:Nat)(cs:List SV):NL->NL
 | []=> []
 |(k,b)::N=>(k,if b.l=l then⟨b.l,cs,b.t⟩else b)::updN l cs N
def ownN(i:Nat):LL->NL
 | []=> []
 |b::L=>(i,b)::ownN i L
def addN(L:Nat->Option Blk)(nw:LL)(l:Nat):Option Blk:=
 match L l with
 |some b=>some b
 |none=>find nw l
structure EN(g:G)(P:Program)(o:Oper)(F:Nat->Option SV)(M:Nat->Option Blk)(v:SV)(nw:LL):Prop where
 run:∀ (β:Nat->Nat) (p:Nat->Prop) (F':Nat->Option SV) (L':Nat->Option Blk) (a:Act) (W:World),(∀t∈tmpsL o.op.operands.toList,F' t=F t)->(∀l b,M l=some b->L' l=some b)->(∀b∈nw,¬p b.l)->Mem g β L' p W->Fra g β F' p a->
  ∀ (next:Act->World->Prop) (Q:Exit->Act->World->Prop),(∀γ a' W',Mem g γ (addN L' nw) (fun l=>p l\/ ∃b∈nw,b.l=l) W'->
    Fra g γ (upF F' o.dst v) (fun l=>p l\/ ∃b∈nw,b.l=l) a'->next a' W')->o.wp P a W next Q
def selM(o:Oper)(M:Nat->Option Blk):Nat->Option Blk:=
 match memOf o with
 |true=>M
 |false=>fun _=>none
def StepD(g:G)(P:Program)(o:Oper)(F:FF)(M:LL)(n:Nat)(K:SV->LL->Nat->Prop):Prop:=
 ∃v nw n',EN g P o (look F) (selM o (find M)) v nw/\n<=n'/\(∀b∈nw,n<=b.l/\b.l<n')/\(nw.map Blk.l).Nodup/\K v nw n'
section
variable (T:Nat->Option Ty)(A:Ar)(P:Program)(g:G)(n0:Nat)(ms:List Nat)(ck:Nat->Nat->Bool)
def vcR(R:FF->LL->NL->Nat->Prop)(m:List Nat)(i:Nat)(o:Oper)(F:FF)(B:LL)(N:NL)(n:Nat):Prop:=
 vcOpG T A n0 ms (StepD g P o F (B++filN m i N) n fun v nw n'=>R (putO F o.dst v) B (N++ownN i nw) n') (fun F'=>R F' B N n)
  (fun F' b=>R F' B (N++[(i,b)]) (n+1)) (fun F' l cs=>ck i l=true/\R F' (updA l cs B) (updN l cs N) n) o F (B++filN m i N) n
def vcD(all:List Oper)(m:List Nat)(K:FF->LL->Nat->Prop):List Oper->Nat->FF->LL->NL->Nat->Prop
 | [],_,F,B,N,n=>K F (B++allN N) n
 |o::rest,i,F,B,N,n=>
  match o.guard with
  |none=>vcR T A P g n0 ms ck (vcD all m K rest (i+1)) m i o F B N n
  |some (j,b)=>match all[j]? with
   |some oj=>match oj.dst with
    |some d=>match look F d with
     |some (.bool x)=>match x with
      |true=>match b with
       |true=>vcR T A P g n0 ms ck (vcD all m K rest (i+1)) m i o F B N n
       |false=>vcD all m K rest (i+1) (putO F o.dst (.raw undef)) B N n
      |false=>match b with
       |true=>vcD all m K rest (i+1) (putO F o.dst (.raw undef)) B N n
       |false=>vcR T A P g n0 ms ck (vcD all m K rest (i+1)) m i o F B N n
     |_=>False
    |none=>False
   |none=>False
def vcT(sk:Nat->Bool)(all:List Oper)(m:List Nat)(K:FF->LL->NL->Nat->Prop):List Oper->Nat->FF->LL->NL->Nat->Prop
 | [],_,F,B,N,n=>K F B N n
 |o::rest,i,F,B,N,n=>
  match sk i with
  |true=>vcT sk all m K rest (i+1) F B N n
  |false=>match o.guard with
   |none=>vcR T A P g n0 ms ck (vcT sk all m K rest (i+1)) m i o F B N n
   |some (j,b)=>match all[j]? with
    |some oj=>match oj.dst with
     |some d=>match look F d with
      |some (.bool x)=>match x with
       |true=>match b with
        |true=>vcR T A P g n0 ms ck (vcT sk all m K rest (i+1)) m i o F B N n
        |false=>vcT sk all m K rest (i+1) (putO F o.dst (.raw undef)) B N n
       |false=>match b with
        |true=>vcT sk all m K rest (i+1) (putO F o.dst (.raw undef)) B N n
        |false=>vcR T A P g n0 ms ck (vcT sk all m K rest (i+1)) m i o F B N n
      |_=>False
     |none=>False
    |none=>False
theorem vcD_eq(all:List Oper)(m:List Nat)(K:FF->LL->Nat->Prop):∀ (rest:List Oper) (i:Nat),vcD T A P g n0 ms ck all m K rest i=vcT T A P g n0 ms ck (fun _=>false) all m (fun F B N n=>K F (B++allN N) n) rest i
 | [],_=>rfl
 |o::rest,i=>by
  funext F B N n
  simp only[vcD,vcT,vcD_eq all m K rest (i+1)]
end
end Go.Vg
namespace Go.Vg
open Go.RowKit
theorem ev_congr{F F':Nat->Option SV}{x:Operand}(h:∀t∈tmpOf x,F' t=F t):ev F' x=ev F x:=by
 cases x with
 |tmp t=>exact h t (by simp[tmpOf])
 |_=>rfl
theorem tmpsL_mem{xs:List Operand}{x:Operand}(hx:x∈xs){t:Nat}(ht:t∈tmpOf x):t∈tmpsL xs:=by
 induction xs with
 |nil=>cases hx
 |cons y ys ih=>
  simp only[tmpsL,List.mem_append]
  rcases List.mem_cons.1 hx with rfl|hx
  ·exact Or.inl ht
  ·exact Or.inr (ih hx)
theorem evs_congr{F F':Nat->Option SV}:∀ {xs:List Operand},(∀x∈xs,ev F' x=ev F x)->evs F' xs=evs F xs
 | [],_=>rfl
 |x::xs,h=>by
  simp only[evs]
  rw[h x List.mem_cons_self,evs_congr fun y hy=>h y (List.mem_cons_of_mem _ hy)]
theorem fillS_congr{F F':Nat->Option SV}{pl:Nat->Option (Nat×Nat)}:∀ {parts:List (Nat×Operand)} {cs:List SV},(∀p∈parts,ev F' p.2=ev F p.2)->fillS pl F' cs parts=fillS pl F cs parts
 | [],_,_=>rfl
 |(i,x)::rest,cs,h=>by
  have h1:ev F' x=ev F x:=h (i,x) List.mem_cons_self
  have h2:∀cs,fillS pl F' cs rest=fillS pl F cs rest:=fun cs=>fillS_congr fun p hp=>h p (List.mem_cons_of_mem _ hp)
  simp only[fillS,h1,h2]
theorem rd_mono{A:Ar}{M L:Nat->Option Blk}(h:∀l b,M l=some b->L l=some b){i:Ty}{u v:SV}(hr:rd A M i u=some v):rd A L i u=some v:=by
 cases u with
 |ptr l o=>
  simp only[rd]at hr⊢
  cases hl:M l with
  |none=>simp[hl]at hr
  |some b=>rw[h l b hl];simpa only[hl]using hr
 |ptrS l o=>
  simp only[rd]at hr⊢
  cases hl:M l with
  |none=>simp[hl]at hr
  |some b=>rw[h l b hl];simpa only[hl]using hr
 |_=>simp[rd]at hr
section
variable {T:Nat->Option Ty}{F F':Nat->Option SV}{M L:Nat->Option Blk}
theorem native_congr{op:Op}(E:∀x∈op.operands.toList,ev F' x=ev F x):native T F' op=native T F op:=by
 cases op with
 |binOp op xt x y yt=>simp only[native,E x (by simp[Op.operands]),E y (by simp[Op.operands])]
 |_=>rfl
theorem valV_congr{A:Ar}{op:Op}(E:∀x∈op.operands.toList,ev F' x=ev F x)(hM:(∀l b,M l=some b->L l=some b)\/(∀t x,op≠ .load t x)){v:SV}(h:valV A T F M op=some v):valV A T F' L op=some v:=by
 cases op with
 |load t x=>
  have E1:=E x (by simp[Op.operands])
  simp only[valV,E1]at h⊢
  cases hx:ev F x with
  |none=>simp[hx]at h
  |some u=>
   cases ht:T t with
   |none=>simp[hx,ht]at h
   |some i=>
    simp only[hx,ht]at h⊢
    rcases hM with hM|hM
    ·exact rd_mono hM h
    ·exact(hM t x rfl).elim
 |move x=>simpa only[valV,E x (by simp[Op.operands])]using h
 |assign x=>simpa only[valV,E x (by simp[Op.operands])]using h
 |pick c x y=>simpa only[valV,E c (by simp[Op.operands]),E x (by simp[Op.operands]),E y (by simp[Op.operands])]using h
 |nilCheck x=>simpa only[valV,E x (by simp[Op.operands])]using h
 |binOp op xt x y yt=>simpa only[valV,E x (by simp[Op.operands]),E y (by simp[Op.operands])]using h
 |unOp op t x=>simpa only[valV,E x (by simp[Op.operands])]using h
 |convert s d x=>simpa only[valV,E x (by simp[Op.operands])]using h
 |makeFunc f x y=>
  have h1:evs F' x.toList=evs F x.toList:=evs_congr fun z hz=>E z (by simp[Op.operands]at hz⊢;exact Or.inl hz)
  have h2:evs F' y.toList=evs F y.toList:=evs_congr fun z hz=>E z (by simp[Op.operands]at hz⊢;exact Or.inr hz)
  simpa only[valV,h1,h2]using h
 |fieldAddr s x f=>simpa only[valV,E x (by simp[Op.operands])]using h
 |field t x f=>simpa only[valV,E x (by simp[Op.operands])]using h
 |indexAddr t x ix=>simpa only[valV,E x (by simp[Op.operands]),E ix (by simp[Op.operands])]using h
 |index t x ix=>simpa only[valV,E x (by simp[Op.operands]),E ix (by simp[Op.operands])]using h
 |extract x i=>simpa only[valV,E x (by simp[Op.operands])]using h
 |build t parts=>
  have h1:∀pl cs,fillS pl F' cs parts.toList=fillS pl F cs parts.toList:=fun pl cs=>fillS_congr fun p hp=>E p.2 (by
   simp only[Op.operands]
   exact List.mem_map.2 ⟨p,hp,rfl⟩)
  simpa only[valV,h1]using h
 |call c=>
  simp only[valV]at h⊢
  split at h
  ·rename_i x t hx hat
   have hc:x∈(Op.call c).operands.toList:=by
    simp only[Op.operands,Call.operands,Array.toList_append,List.mem_append]
    right;rw[hx];exact List.mem_cons_self
   simpa only[hx,hat,E x hc]using h
  ·cases h
 |_=>simp[valV]at h
theorem memOf_load{o:Oper}(h:memOf o=false)(t:TypeId)(x:Operand):o.op≠ .load t x:=by
 intro e
 simp[memOf,e]at h
theorem Runs.congr{o:Oper}{e:Eff}(hr:Runs T F M o.op e)(hF:∀t∈tmpsL o.op.operands.toList,F' t=F t)(hM:memOf o=true->∀l b,M l=some b->L l=some b):Runs T F' L o.op e:=by
 have E:∀x∈o.op.operands.toList,ev F' x=ev F x:=fun x hx=>ev_congr fun t ht=>hF t (tmpsL_mem hx ht)
 have hM2:(∀l b,M l=some b->L l=some b)\/(∀t x,o.op≠ .load t x):=by
  cases hm:memOf o with
  |true=>exact Or.inl (hM hm)
  |false=>exact Or.inr (memOf_load hm)
 generalize hop:o.op=op at hr E hM2
 cases hr with
 |val hn hv=>exact .val (by rw[native_congr E];exact hn) (valV_congr E hM2 hv)
 |alloc ht=>exact .alloc ht
 |box hx hr=>exact .box (by rw[E _ (by simp[Op.operands])];exact hx) hr
 |buildSlice ht hd hj h1 h2 hs=>
  refine .buildSlice ht hd hj h1 h2 ?_
  rw[fillS_congr fun p hp=>E p.2 (by
   simp only[Op.operands]
   exact List.mem_map.2 ⟨p,hp,rfl⟩)]
  exact hs
 |store hx hy ht hl h1 hL hp hle=>
  have hmem:memOf o=true:=by simp[memOf,hop]
  exact .store (by rw[E _ (by simp[Op.operands])];exact hx) (by rw[E _ (by simp[Op.operands])];exact hy) ht hl h1 (hM hmem _ _ hL) hp hle
end
section
variable {P:Program}{g:G}{T:Nat->Option Ty}
theorem EN.of_step{o:Oper}{F:Nat->Option SV}{M:Nat->Option Blk}{v:SV}(h:∀ (β:Nat->Nat) (p:Nat->Prop) (F':Nat->Option SV) (L':Nat->Option Blk) (a:Act) (W:World),(∀t∈tmpsL o.op.operands.toList,F' t=F t)->(∀l b,M l=some b->L' l=some b)->Mem g β L' p W->Fra g β F' p a->
 ∀ (next:Act->World->Prop) (Q:Exit->Act->World->Prop),(∀a' W',Mem g β L' p W'->Fra g β (upF F' o.dst v) p a'->next a' W')->o.wp P a W next Q):EN g P o F M v []:=by
 refine⟨?_⟩
 intro β p F' L' a W h1 h2 _ hm hf next Q hn
 refine h β p F' L' a W h1 h2 hm hf next Q fun a' W' hm' hf'=>hn β a' W' ?_ ?_
 ·have e1:addN L' []=L':=by
   funext l;unfold addN;cases L' l<;>rfl
  have e2:(fun l=>p l\/ ∃b∈([]:LL),b.l=l)=p:=by funext l;simp
  rw[e1,e2];exact hm'
 ·have e2:(fun l=>p l\/ ∃b∈([]:LL),b.l=l)=p:=by funext l;simp
  rw[e2];exact hf'
theorem op_ex(hT:TOk P T){ops:Array Oper}{i:Nat}{o:Oper}(ho:ops[i]? =some o)(hd:∀t,o.dst=some t->t<g.N){e:E}(hed:e.d=o.dst){Ft:Nat->Option SV}{V:Nat->Option Blk}{n:Nat}
 (hcase:((∃x,o.guard=none\/ ∃j oj d,o.guard=some (j,x)/\ops[j]? =some oj/\oj.dst=some d/\d∈lkOf ops.toList o/\Ft d=some (.bool x))/\
  ((∃v,Runs T Ft V o.op (.val v)/\e=⟨o.dst,v,[],none⟩)\/(∃f cs t k,Runs T Ft V o.op (.new f cs t)/\e=⟨o.dst,f k,[⟨k,cs,t⟩],none⟩)\/
    (∃l q vs b,Runs T Ft V o.op (.wr l q vs)/\V l=some b/\own g.n0 g.ms l=true/\e=⟨o.dst,.raw undef,[],some (l,q,vs)⟩)\/(∃v nw,EN g P o Ft (selM o V) v nw/\e=⟨o.dst,v,nw,none⟩)))\/
  ((∃j x oj d,o.guard=some (j,!x)/\ops[j]? =some oj/\oj.dst=some d/\d∈lkOf ops.toList o/\Ft d=some (.bool x))/\e=⟨o.dst,.raw undef,[],none⟩)):
 ∀ (β:Nat->Nat) (p:Nat->Prop) (F':Nat->Option SV) (L':Nat->Option Blk) (a:Act) (W:World),(∀t∈lkOf ops.toList o,F' t=Ft t)->(memOf o=true->∀l b,V l=some b->L' l=some b)->(∀b∈e.nw,¬p b.l)->(∀l,l<n->p l)->
 Mem g β L' p W->Fra g β F' p a->∀ (K:Act->World->Prop) (Q:Exit->Act->World->Prop),(∀γ a' W',Mem g γ (aL e L') (aP e p) W'->Fra g γ (aF e F') (aP e p) a'->K a' W')->wpOp P ops Q i K a W:=by
 intro β p F' L' a W hF hM hfr hlow hm hf K Q hK
 have nil1:∀v:SV,aL ⟨o.dst,v,[],none⟩ L'=L':=by
  intro v;funext l;simp only[aL,gl];cases L' l<;>rfl
 have nil2:∀ (v:SV) w,aP ⟨o.dst,v,[],w⟩ p=p:=by
  intro v w;funext l;simp[aP,pl]
 have fr:∀ (v:SV) nw w,aF ⟨o.dst,v,nw,w⟩ F'=upF F' o.dst v:=fun v nw w=>rfl
 have hops:∀t∈tmpsL o.op.operands.toList,F' t=Ft t:=fun t ht=>hF t (List.mem_append.2 (Or.inl ht))
 unfold wpOp
 simp only[ho]
 rcases hcase with⟨⟨x,hg⟩,hc⟩|⟨⟨j,x,oj,d,hg,hj,hdj,hlk,hd2⟩,rfl⟩
 ·have hw:Region.wanted o (yielded ops a.tmps)=true:=by
   rcases hg with hg|⟨j,oj,d,hg,hj,hdj,hlk,hd2⟩
   ·simp[Region.wanted,hg]
   ·have:=hf.fr d (.bool x) (by rw[hF d hlk];exact hd2)
    have hy:yielded ops a.tmps j=some x:=by
     unfold yielded
     simp[hj,hdj,this,den]
    simp[Region.wanted,hg,hy]
  rw[if_pos hw]
  left
  rcases hc with⟨v,hr,rfl⟩|⟨f,cs,t,k,hr,rfl⟩|⟨l,q,vs,b,hr,hV,hown,rfl⟩|⟨v,nw,hen,rfl⟩
  ·refine(Runs.sound hT hm hf hd (hr.congr hops hM)).1 v rfl fun a' W' _ hm' hf'=>hK β a' W' ?_ ?_
   ·rw[nil1,nil2];exact hm'
   ·rw[nil2];exact hf'
  ·have hk:¬p k:=hfr ⟨k,cs,t⟩ List.mem_cons_self
   refine(Runs.sound hT hm hf hd (hr.congr hops hM)).2.1 f cs t k rfl hk fun γ a' W' _ _ hm' hf'=>hK γ a' W' ?_ ?_
   ·have e1:aL ⟨o.dst,f k,[⟨k,cs,t⟩],none⟩ L'=upL L' k ⟨k,cs,t⟩:=by
     funext l
     simp only[aL,gl,upL]
     by_cases hl:l=k
     ·subst hl
      cases hq:L' l with
      |some c=>exact(hk (hm.bL l c hq).1).elim
      |none=>simp[find]
     ·cases hq:L' l with
      |some c=>simp[hl]
      |none=>simp[find,hl,Ne.symm hl]
    have e2:aP ⟨o.dst,f k,[⟨k,cs,t⟩],none⟩ p=fun l=>p l\/l=k:=by
     funext l;simp[aP,pl,eq_comm]
    rw[e1,e2];exact hm'
   ·have e2:aP ⟨o.dst,f k,[⟨k,cs,t⟩],none⟩ p=fun l=>p l\/l=k:=by
     funext l;simp[aP,pl,eq_comm]
    rw[e2];exact hf'
  ·have hmm:memOf o=true:=by
    generalize hop:o.op=op at hr
    cases hr
    simp[memOf,hop]
   have hL:=hM hmm l b hV
   refine(Runs.sound hT hm hf hd (hr.congr hops hM)).2.2 l q vs b rfl hL hown fun a' W' _ hm' hf'=>hK β a' W' ?_ ?_
   ·have e1:aL ⟨o.dst,.raw undef,[],some (l,q,vs)⟩ L'=upL L' l ⟨b.l,splice b.cs q vs,b.t⟩:=by
     funext k
     simp only[aL,gl,upL]
     by_cases hk:k=l
     ·subst hk;simp[hL]
     ·simp[hk]
    rw[e1,nil2];exact hm'
   ·rw[nil2];exact hf'
  ·refine hen.run β p F' L' a W hops (fun l b hl=>by unfold selM at hl;cases hmo:memOf o with|true=>rw[hmo]at hl;exact hM hmo l b hl|false=>rw[hmo]at hl;cases hl) hfr hm hf _ _ fun γ a' W' hm' hf'=>hK γ a' W' ?_ ?_
   ·have e1:aL ⟨o.dst,v,nw,none⟩ L'=addN L' nw:=by
     funext l;simp only[aL,gl,addN];cases L' l<;>rfl
    rw[e1];exact hm'
   ·exact hf'
 ·have:=hf.fr d (.bool x) (by rw[hF d hlk];exact hd2)
  have hy:yielded ops a.tmps j=some x:=by
   unfold yielded
   simp[hj,hdj,this,den]
  have hw:Region.wanted o (yielded ops a.tmps)=false:=by
   simp[Region.wanted,hg,hy]
  rw[if_neg (by rw[hw];simp)]
  refine hK β _ W ?_ ?_
  ·rw[nil1,nil2];exact hm
  ·rw[nil2]
   exact hf.put hd (v:= .raw undef) (by simp[bd])
end
end Go.Vg
namespace Go.Vg
open Go.RowKit
theorem fo_append{α:Type}{f:E->α->α}{D:Nat->Bool}{e:E}:∀ {es:List E} {s:Nat} {x:α},fo f D s (es++[e]) x=if D (s+es.length)then f e (fo f D s es x)else fo f D s es x
 | [],s,x=>by simp[fo]
 |e'::es,s,x=>by
  simp only[List.cons_append,fo,List.length_cons]
  rw[fo_append,show s+1+es.length=s+(es.length+1) by omega]
theorem fo_false{α:Type}{f:E->α->α}{D:Nat->Bool}(hD:∀k,D k=false):∀ {es:List E} {s:Nat} {x:α},fo f D s es x=x
 | [],_,_=>rfl
 |e::es,s,x=>by
  simp only[fo,hD s]
  exact fo_false hD
theorem fo_take{α:Type}{f:E->α->α}{D:Nat->Bool}{i:Nat}(hD:∀k,i<=k->D k=false):∀ {es:List E} {s:Nat} {x:α},s<=i->fo f D s es x=fo f D s (es.take (i-s)) x
 | [],_,_,_=>by simp[fo]
 |e::es,s,x,hs=>by
  by_cases h:s=i
  ·subst h
   simp only[Nat.sub_self,List.take_zero,fo]
   rw[hD s (Nat.le_refl _)]
   simp only[Bool.false_eq_true,if_false]
   have:∀ (es:List E) (s':Nat) (x:α),s<=s'->fo f D s' es x=x:=by
    intro es
    induction es with
    |nil=>intros;rfl
    |cons e es ih=>
     intro s' x hs'
     simp only[fo,hD s' hs']
     exact ih _ _ (by omega)
   exact this es _ _ (by omega)
  ·rw[show i-s=(i-(s+1))+1 by omega,List.take_succ_cons]
   simp only[fo]
   exact fo_take hD (by omega)
def filP(D:Nat->Bool):NL->LL
 | []=> []
 |(k,b)::N=>match D k with
  |true=>b::filP D N
  |false=>filP D N
theorem filN_eq(m:List Nat)(i:Nat):∀N,filN m i N=filP (befB m i) N
 | []=>rfl
 |(k,b)::N=>by simp only[filN,filP,filN_eq m i N];all_goals (cases befB m i k<;>rfl)
theorem allN_eq:∀N,allN N=filP (fun _=>true) N
 | []=>rfl
 |(k,b)::N=>by simp only[allN,filP,allN_eq N]
theorem filP_append(D:Nat->Bool):∀N M,filP D (N++M)=filP D N++filP D M
 | [],_=>rfl
 |(k,b)::N,M=>by
  simp only[List.cons_append,filP,filP_append D N M]
  cases D k<;>rfl
theorem filP_own(D:Nat->Bool)(i:Nat):∀nw,filP D (ownN i nw)=if D i then nw else []
 | []=>by simp[ownN,filP]
 |b::nw=>by
  simp only[ownN,filP,filP_own D i nw]
  cases D i<;>rfl
theorem filP_mem{D:Nat->Bool}{b:Blk}:∀ {N},b∈filP D N->∃k,(k,b)∈N
 | [],h=>by cases h
 |(k,c)::N,h=>by
  simp only[filP]at h
  cases hD:D k with
  |true=>
   rw[hD]at h
   rcases List.mem_cons.1 h with rfl|h
   ·exact⟨k,List.mem_cons_self⟩
   ·obtain⟨j,hj⟩:=filP_mem h;exact⟨j,List.mem_cons_of_mem _ hj⟩
  |false=>
   rw[hD]at h
   obtain⟨j,hj⟩:=filP_mem h;exact⟨j,List.mem_cons_of_mem _ hj⟩
theorem find_updA(l0:Nat)(cs:List SV)(l:Nat):∀X,find (updA l0 cs X) l=if l=l0 then(find X l).map fun c=>⟨c.l,cs,c.t⟩else find X l
 | []=>by by_cases h:l=l0<;>simp[updA,find,h]
 |b::X=>by
  simp only[updA,find,find_updA l0 cs l X]
  by_cases hb:b.l=l0
  ·rw[if_pos hb]
   by_cases hl:l=l0
   ·subst hl;simp[hb]
   ·simp[hb,hl,Ne.symm hl]
  ·rw[if_neg hb]
   by_cases hl:l=l0
   ·subst hl;simp[hb]
   ·simp[hl]
theorem updA_append(l0:Nat)(cs:List SV):∀X Y,updA l0 cs (X++Y)=updA l0 cs X++updA l0 cs Y
 | [],_=>rfl
 |b::X,Y=>by simp only[List.cons_append,updA,updA_append l0 cs X Y]
theorem filP_updN(D:Nat->Bool)(l0:Nat)(cs:List SV):∀N,filP D (updN l0 cs N)=updA l0 cs (filP D N)
 | []=>rfl
 |(k,b)::N=>by
  simp only[updN,filP,filP_updN D l0 cs N]
  cases D k<;>rfl
theorem updN_mem{l0:Nat}{cs:List SV}{k:Nat}{b:Blk}:∀ {N},(k,b)∈updN l0 cs N->∃c,(k,c)∈N/\c.l=b.l
 | [],h=>by cases h
 |(j,c)::N,h=>by
  simp only[updN]at h
  rcases List.mem_cons.1 h with e|h
  ·simp only[Prod.mk.injEq]at e
   obtain⟨rfl,rfl⟩:=e
   refine⟨c,List.mem_cons_self,?_⟩
   by_cases hc:c.l=l0<;>simp[hc]
  ·obtain⟨d,hd,e⟩:=updN_mem h
   exact⟨d,List.mem_cons_of_mem _ hd,e⟩
theorem updN_map(l0:Nat)(cs:List SV):∀N:NL,(updN l0 cs N).map (fun p=>p.2.l)=N.map fun p=>p.2.l
 | []=>rfl
 |(k,b)::N=>by
  simp only[updN,List.map_cons,updN_map l0 cs N]
  by_cases hb:b.l=l0<;>simp[hb]
theorem ownN_mem{i k:Nat}{b:Blk}:∀ {nw},(k,b)∈ownN i nw->k=i/\b∈nw
 | [],h=>by cases h
 |c::nw,h=>by
  simp only[ownN]at h
  rcases List.mem_cons.1 h with e|h
  ·simp only[Prod.mk.injEq]at e
   obtain⟨rfl,rfl⟩:=e
   exact⟨rfl,List.mem_cons_self⟩
  ·obtain⟨h1,h2⟩:=ownN_mem h
   exact⟨h1,List.mem_cons_of_mem _ h2⟩
theorem ownN_map(i:Nat):∀nw,(ownN i nw).map (fun p=>p.2.l)=nw.map Blk.l
 | []=>rfl
 |b::nw=>by simp[ownN,ownN_map i nw]
theorem nl_uniq{N:NL}(h:(N.map fun p=>p.2.l).Nodup){p q:Nat×Blk}(hp:p∈N)(hq:q∈N)(e:p.2.l=q.2.l):p=q:=by
 induction N with
 |nil=>cases hp
 |cons x xs ih=>
  simp only[List.map_cons,List.nodup_cons]at h
  rcases List.mem_cons.1 hp with hp|hp<;>rcases List.mem_cons.1 hq with hq|hq
  ·rw[hp,hq]
  ·exact(h.1 (List.mem_map.2 ⟨q,hq,by rw[<-e,hp]⟩)).elim
  ·exact(h.1 (List.mem_map.2 ⟨p,hp,by rw[e,hq]⟩)).elim
  ·exact ih h.2 hp hq
structure Told(done:List E)(F0:FF)(B0:LL)(n0:Nat)(F:FF)(B:LL)(N:NL)(n:Nat):Prop where
 fr:look F=FD done (fun _=>true) (look F0)
 bl:∀ (D:Nat->Bool) (l:Nat),(∀ (k:Nat) (e:E) (q:Nat) (vs:List SV),done[k]? =some e->e.w=some (l,q,vs)->D k=true)->LD done D (find B0) l=find (B++filP D N) l
 lb:∀ (k:Nat) (b:Blk),(k,b)∈N->n0<=b.l/\b.l<n
 nd:(N.map fun p=>p.2.l).Nodup
 old:∀ (l:Nat) (b:Blk),find B l=some b->l<n0
 le:n0<=n
 pd:∀ (k:Nat) (e:E),done[k]? =some e->∀b:Blk,b∈e.nw->b.l<n
section
variable {done:List E}{F0 F:FF}{B0 B:LL}{n0 n:Nat}{N:NL}
theorem Told.app(h:Told done F0 B0 n0 F B N n){d:Option Nat}{v:SV}{nw:LL}{n':Nat}(hn:n<=n')(hnw:∀b∈nw,n<=b.l/\b.l<n')(hnd:(nw.map Blk.l).Nodup):Told (done++[⟨d,v,nw,none⟩]) F0 B0 n0 (putO F d v) B (N++ownN done.length nw) n':=by
 refine⟨?_,?_,?_,?_,h.old,Nat.le_trans h.le hn,?_⟩
 ·rw[look_putO,h.fr]
  funext t
  simp only[FD,fo_append,if_true,upF,ft]
 ·intro D l hD
  have h1:=h.bl D l (fun k e q vs hk hw=>hD k e q vs (by rw[List.getElem?_append_left (List.getElem?_eq_some_iff.1 hk).1];exact hk) hw)
  simp only[LD,fo_append,Nat.zero_add]at h1⊢
  rw[filP_append,filP_own,<-List.append_assoc,fap,<-h1]
  by_cases hd:D done.length=true
  ·rw[if_pos hd,if_pos hd];rfl
  ·rw[if_neg hd,if_neg hd]
   cases fo (gl l) D 0 done (find B0 l)<;>rfl
 ·intro k b hb
  rcases List.mem_append.1 hb with hb|hb
  ·have:=h.lb k b hb;omega
  ·have:=hnw b (ownN_mem hb).2
   have:=h.le
   omega
 ·rw[List.map_append,ownN_map,List.nodup_append]
  refine⟨h.nd,hnd,?_⟩
  intro x hx y hy
  obtain⟨p,hp,rfl⟩:=List.mem_map.1 hx
  obtain⟨b,hb,rfl⟩:=List.mem_map.1 hy
  have h1:=(h.lb p.1 p.2 hp).2
  have h2:=(hnw b hb).1
  omega
 ·intro k e hk b hb
  by_cases hlt:k<done.length
  ·rw[List.getElem?_append_left hlt]at hk
   have:=h.pd k e hk b hb;omega
  ·rw[List.getElem?_append_right (by omega)]at hk
   cases hkk:k-done.length with
   |zero=>
    rw[hkk]at hk
    simp only[List.getElem?_cons_zero,Option.some.injEq]at hk
    subst hk
    exact(hnw b hb).2
   |succ j=>rw[hkk]at hk;simp at hk
theorem Told.val(h:Told done F0 B0 n0 F B N n){d:Option Nat}{v:SV}:Told (done++[⟨d,v,[],none⟩]) F0 B0 n0 (putO F d v) B N n:=by
 have:=h.app (d:=d) (v:=v) (nw:=[]) (Nat.le_refl n) (fun b hb=>by cases hb) (by simp)
 simpa [ownN]using this
theorem Told.wr(h:Told done F0 B0 n0 F B N n){d:Option Nat}{l0 q:Nat}{vs:List SV}{b:Blk}{D':Nat->Bool}(hb:find (B++filP D' N) l0=some b):
 Told (done++[⟨d,.raw undef,[],some (l0,q,vs)⟩]) F0 B0 n0 (putO F d (.raw undef)) (updA l0 (splice b.cs q vs) B) (updN l0 (splice b.cs q vs) N) n:=by
 refine⟨?_,?_,?_,?_,?_,h.le,?_⟩
 ·rw[look_putO,h.fr]
  funext t
  simp only[FD,fo_append,if_true,upF,ft]
 ·intro D l hD
  have h1:=h.bl D l (fun k e q vs hk hw=>hD k e q vs (by rw[List.getElem?_append_left (List.getElem?_eq_some_iff.1 hk).1];exact hk) hw)
  by_cases hl:l=l0
  ·have hDi:=hD done.length ⟨d,.raw undef,[],some (l0,q,vs)⟩ q vs (by simp) (by rw[hl])
   simp only[LD,fo_append,Nat.zero_add]at h1⊢
   rw[if_pos hDi,filP_updN,<-updA_append,find_updA,h1]
   simp only[gl]
   subst hl
   rw[if_pos rfl,if_pos rfl]
   cases hq:find (B++filP D N) l with
   |none=>rfl
   |some c=>
    have:c=b:=by
     rw[fap]at hq hb
     cases hB:find B l with
     |some c'=>
      rw[hB]at hq hb
      simp only[Option.some.injEq]at hq hb
      rw[<-hq,<-hb]
     |none=>
      rw[hB]at hq hb
      simp only at hq hb
      obtain⟨m1,e1⟩:=fdm hq
      obtain⟨m2,e2⟩:=fdm hb
      obtain⟨k1,p1⟩:=filP_mem m1
      obtain⟨k2,p2⟩:=filP_mem m2
      have:=nl_uniq h.nd p1 p2 (by rw[e1,e2])
      simp only[Prod.mk.injEq]at this
      exact this.2
    subst this
    rfl
  ·simp only[LD,fo_append,Nat.zero_add]at h1⊢
   rw[filP_updN,<-updA_append,find_updA,if_neg hl,<-h1]
   split
   ·simp only[gl];rw[if_neg hl]
   ·rfl
 ·intro k c hc
  obtain⟨c',hc',e⟩:=updN_mem hc
  rw[<-e];exact h.lb k c' hc'
 ·rw[updN_map];exact h.nd
 ·intro l c hc
  rw[find_updA]at hc
  by_cases hl:l=l0
  ·rw[if_pos hl]at hc
   obtain⟨c',hc',_⟩:=Option.map_eq_some_iff.1 hc
   exact h.old l c' hc'
  ·rw[if_neg hl]at hc;exact h.old l c hc
 ·intro k e hk b' hb'
  by_cases hlt:k<done.length
  ·rw[List.getElem?_append_left hlt]at hk
   exact h.pd k e hk b' hb'
  ·rw[List.getElem?_append_right (by omega)]at hk
   cases hkk:k-done.length with
   |zero=>
    rw[hkk]at hk
    simp only[List.getElem?_cons_zero,Option.some.injEq]at hk
    subst hk
    cases hb'
   |succ j=>rw[hkk]at hk;simp at hk
end
end Go.Vg
