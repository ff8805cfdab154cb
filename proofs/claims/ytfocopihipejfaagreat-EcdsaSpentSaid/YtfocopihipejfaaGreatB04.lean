/-
  This text proves what these texts prove: VgL, VgM, VgN, VgO. Conditions: those of each theorem.
-/
import Derived.Test.YtfocopihipejfaaGreatB03
set_option maxHeartbeats 8000000
set_option linter.all false
namespace Go.Vg
open Go.RowKit
structure Fits(P:Program)(g:G)(ops:Array Oper)(es:List E)(F0:Nat->Option SV)(L0:Nat->Option aC)(n:Nat)(lk:Nat->List Nat)(mem:Nat->Nat->Bool)(fj:Nat->Nat->Bool)(nn:Nat->Nat)(un:Nat->Prop):Prop where
 len:es.length<=ops.size
 FA:∀ (i:Nat) (o:Oper) (k:Nat),ops[i]? =some o->fj i k=true->∃e∈o.after,Region.binds .any e=true/\(e.on=k\/fj e.on k=true)
 back:∀ (i:Nat) (o:Oper) (e:Edge),ops[i]? =some o->e∈o.after->Region.binds .any e=true->e.on<i
 dst:∀ (i k:Nat) (e e':E) (t:Nat),es[i]? =some e->es[k]? =some e'->i≠k->e.d=some t->e'.d≠some t
 look:∀ (i k:Nat) (e:E) (t:Nat),i<ops.size->es[k]? =some e->i≠k->e.d=some t->t∈lk i->(k<i/\fj i k=true)\/(i<k/\fj k i=true)
 ord:∀ (i k:Nat) (e:E) (l q:Nat) (vs:List SV),mem i l=true->i<ops.size->es[k]? =some e->e.w=some (l,q,vs)->i≠k->(k<i/\fj i k=true)\/(i<k/\fj k i=true)
 alr:∀ (i:Nat) (e:E) (l q:Nat) (vs:List SV),es[i]? =some e->e.w=some (l,q,vs)->mem i l=true
 UB:∀ (k:Nat) (e:E),es[k]? =some e->(∀b∈e.nw,nn k<=b.l/\b.l<nn (k+1))/\nn k<=nn (k+1)
 nn0:nn 0=n
 tgt:∀ (i:Nat) (e:E) (k q:Nat) (vs:List SV),es[i]? =some e->e.w=some (k,q,vs)->∃b,LD es (fun j=>fj i j) L0 k=some b
 fC:∀ (l:Nat) (b:aC),L0 l=some b->l<n
 ex:∀ (i:Nat) (e:E),un i->es[i]? =some e->∀ (β:Nat->Nat) (p:Nat->Prop) (F':Nat->Option SV) (L':Nat->Option aC) (a:Act) (W:World),(∀t∈lk i,F' t=FD es (fun k=>decide (k<i)) F0 t)->(∀l b,mem i l=true->LD es (fun k=>fj i k) L0 l=some b->L' l=some b)->(∀b∈e.nw,¬p b.l)->(∀l,l<n->p l)->
  Mem g β L' p W->eX g β F' p a->∀ (K:Act->World->Prop) (Q:Exit->Act->World->Prop),(∀γ a' W',Mem g γ (aL e L') (aP e p) W'->eX g γ (aF e F') (aP e p) a'->K a' W')->wpOp P ops Q i K a W
section
variable {P:Program}{g:G}{ops:Array Oper}{es:List E}{F0:Nat->Option SV}{L0:Nat->Option aC}{n:Nat}{lk:Nat->List Nat}{mem:Nat->Nat->Bool}{fj:Nat->Nat->Bool}{nn:Nat->Nat}{un:Nat->Prop}
theorem OI(h:Fits P g ops es F0 L0 n lk mem fj nn un){i k:Nat}(fV:i<=k)(hk:k<=es.length):nn i<=nn k:=by
 induction k with
 |zero=>rw[show i=0 by omega];exact aE _
 |succ k ih=>
  by_cases e:i=k+1
  ·rw[e];exact aE _
  ·have h1:=ih (by omega) (by omega)
   have h2:=(h.UB k (es[k]'(by omega)) (jo (by omega))).2
   omega
theorem GK(h:Fits P g ops es F0 L0 n lk mem fj nn un){i:Nat}{e:E}(he:es[i]? =some e){b:aC}(hb:b∈e.nw):n<=b.l/\nn i<=b.l/\b.l<nn (i+1):=by
 have h1:=(h.UB i e he).1 b hb
 have hi:i<es.length:=(iN.1 he).1
 have h2:=OI h (bf i) (by omega)
 rw[h.nn0]at h2
 omega
theorem Ow(h:Fits P g ops es F0 L0 n lk mem fj nn un){i k:Nat}{e e':E}(he:es[i]? =some e)(lz:es[k]? =some e')(fV:i≠k){b b':aC}(hb:b∈e.nw)(h_:b'∈e'.nw):b.l≠b'.l:=by
 have h1:=GK h he hb
 have h2:=GK h lz h_
 have hi:i<es.length:=(iN.1 he).1
 have hk:k<es.length:=(iN.1 lz).1
 rcases Nat.lt_or_ge i k with ab|ju
 ·have:=OI h (show i+1<=k from ab) (by omega);omega
 ·have:=OI h (show k+1<=i by omega) (by omega);omega
def zh(ops:Array Oper)(D:Nat->Bool):Prop:=∀i o,D i=true->ops[i]? =some o->∀e∈o.after,Region.binds .any e=true->D e.on=true
theorem MI(h:Fits P g ops es F0 L0 n lk mem fj nn un){D:Nat->Bool}(hD:zh ops D)(hb:∀i,D i=true->i<ops.size){k:Nat}:∀ {i:Nat},D i=true->fj i k=true->D k=true:=by
 intro i
 induction i using Nat.strongRecOn with
 |_ i ih=>
  intro hi ajn
  obtain⟨o,ho⟩:∃o,ops[i]? =some o:=⟨ops[i]'(hb i hi),oA (hb i hi)⟩
  obtain⟨e,he,q8,kU⟩:=h.FA i o k ho ajn
  have h1:=hD i o hi ho e he q8
  rcases kU with rfl|h2
  ·exact h1
  ·exact ih e.on (h.back i o e ho he q8) h1 h2
theorem O6(h:Fits P g ops es F0 L0 n lk mem fj nn un){D:Nat->Bool}(hD:zh ops D)(hb:∀i,D i=true->i<ops.size){i:Nat}{o:Oper}(ho:ops[i]? =some o)(iE:∀e∈o.after,Region.binds .any e=true->D e.on=true){k:Nat}(hk:fj i k=true):D k=true:=by
 obtain⟨e,he,q8,kU⟩:=h.FA i o k ho hk
 have h1:=iE e he q8
 rcases kU with rfl|h2
 ·exact h1
 ·exact MI h hD hb h1 h2
theorem PO{D:Nat->Bool}{t:Nat}(h:Fits P g ops es F0 L0 n lk mem fj nn un):(∃k e,es[k]? =some e/\D k=true/\e.d=some t/\FD es D F0 t=some e.v)\/((∀k e,es[k]? =some e->D k=true->e.d≠some t)/\FD es D F0 t=F0 t):=by
 by_cases hex:∃k e,es[k]? =some e/\D k=true/\e.d=some t
 ·obtain⟨k,e,h1,h2,h3⟩:=hex
  exact Or.inl ⟨k,e,h1,h2,h3,FL h1 (by simpa using h2) h3 fun j e' hj eM=>h.dst k j e e' t h1 hj (oE eM) h3⟩
 ·have hn:∀k e,es[k]? =some e->D k=true->e.d≠some t:=fun k e h1 h2 h3=>hex ⟨k,e,h1,h2,h3⟩
  exact Or.inr ⟨hn,MZ fun k e h1 h2=>hn k e h1 (by simpa using h2)⟩
theorem akM(h:Fits P g ops es F0 L0 n lk mem fj nn un){D:Nat->Bool}(hD:zh ops D)(hb:∀i,D i=true->i<ops.size){i:Nat}{o:Oper}(ho:ops[i]? =some o)(iE:∀e∈o.after,Region.binds .any e=true->D e.on=true)(hi:D i=false){t:Nat}(ht:t∈lk i):
 FD es D F0 t=FD es (fun k=>decide (k<i)) F0 t:=by
 have kD:i<ops.size:=(xK.1 ho).1
 have key:∀k e,es[k]? =some e->e.d=some t->k≠i->(D k=true↔k<i):=by
  intro k e hk hd pz
  rcases h.look i k e t kD hk (oE pz) hd ht with⟨h1,h2⟩|⟨h1,h2⟩
  ·exact⟨fun _=>h1,fun _=>O6 h hD hb ho iE h2⟩
  ·refine⟨fun h3=> ?_,fun h3=>by omega⟩
   have:=MI h hD hb h3 h2
   rw[hi]at this;cases this
 rcases PO (D:=D) (t:=t) h with⟨k,e,h1,h2,h3,h4⟩|⟨h1,h2⟩
 ·have pz:k≠i:=fun e=>by rw[e,hi]at h2;cases h2
  rcases PO (D:=fun k=>decide (k<i)) (t:=t) h with⟨k',e',k1,k2,k3,k4⟩|⟨k1,_⟩
  ·have:k=k':=by
    refine Hn fun ek=>h.dst k k' e e' t h1 k1 ek h3 k3
   subst this
   rw[h1]at k1
   obtain rfl:=ef k1
   rw[h4,k4]
  ·exact(k1 k e h1 (by simpa using(key k e h1 h3 pz).1 h2) h3).elim
 ·rcases PO (D:=fun k=>decide (k<i)) (t:=t) h with⟨k',e',k1,k2,k3,k4⟩|⟨_,k2⟩
  ·have ab:k'<i:=by simpa using k2
   exact(h1 k' e' k1 ((key k' e' k1 k3 (by omega)).2 ab) k3).elim
  ·rw[h2,k2]
theorem alp(h:Fits P g ops es F0 L0 n lk mem fj nn un){D:Nat->Bool}(hD:zh ops D)(hb:∀i,D i=true->i<ops.size){i:Nat}{o:Oper}(ho:ops[i]? =some o)(iE:∀e∈o.after,Region.binds .any e=true->D e.on=true)(hi:D i=false)
 {l:Nat} {b:aC} (hm:mem i l=true) (hl:LD es (fun k=>fj i k) L0 l=some b):LD es D L0 l=some b:=by
 have kD:i<ops.size:=(xK.1 ho).1
 refine aaC nn (fun k e hk=>by simpa using h.UB k e hk) (fun k e hk hd=> ?_) (fun k e hk hd hn=> ?_) (Or.inr rfl) (fun b hb=>by rw[h.nn0];exact h.fC l b hb) b hl
 ·simp only[dB]at hd⊢
  exact O6 h hD hb ho iE hd
 ·simp only[dB]at hd hn
  rintro l' q vs hw rfl
  have pz:i≠k:=fun e=>by rw[<-e,hi]at hd;cases hd
  rcases h.ord i k e l' q vs hm kD hk hw pz with⟨_,h2⟩|⟨_,h2⟩
  ·rw[hn]at h2;cases h2
  ·have:=MI h hD hb hd h2
   rw[hi]at this;cases this
theorem Ye(h:Fits P g ops es F0 L0 n lk mem fj nn un){D:Nat->Bool}{i:Nat}{e:E}(he:es[i]? =some e)(hi:D i=false):FD es (add D i) F0=aF e (FD es D F0):=by
 funext t
 refine MV hi (bf i) (by simpa using he) ?_
 intro k e' fV hk _ y
 simp only[tU]at hk
 unfold ft
 by_cases h1:e.d=some t
 ·have:=h.dst i k e e' t he hk (by omega) h1
  rw[af this,af this]
 ·rw[af h1,af h1]
theorem YE{D:Nat->Bool}{p:Nat->Prop}{i:Nat}{e:E}(he:es[i]? =some e)(hi:D i=false):PD es (add D i) p=aP e (PD es D p):=by
 funext l
 refine MV hi (bf i) (by simpa using he) ?_
 intro k e' fV hk _ y
 simp only[pl]
 exact propext ⟨fun h=>by rcases h with(h|h)|h<;>simp[h],fun h=>by rcases h with(h|h)|h<;>simp[h]⟩
theorem Yg(h:Fits P g ops es F0 L0 n lk mem fj nn un){D:Nat->Bool}{l:Nat}{b:aC}(hl:LD es D L0 l=some b):l<n\/ ∃k e,es[k]? =some e/\D k=true/\∃c∈e.nw,c.l=l:=by
 have key:∀ (es:List E) (s:Nat) (x:Option aC),(∃b,fo (gl l) D s es x=some b)->(∃b,x=some b)\/ ∃k e,es[k]? =some e/\D (s+k)=true/\∃c∈e.nw,c.l=l:=by
  intro es
  induction es with
  |nil=>intro s x hx;exact Or.inl hx
  |cons e es ih=>
   intro s x hx
   simp only[fo]at hx
   rcases ih _ _ hx with⟨b,hb⟩|⟨k,e',h1,h2,h3⟩
   ·by_cases hD:D s=true
    ·rw[aj hD]at hb
     unfold gl at hb
     cases hw:e.w with
     |some q=>
      obtain⟨k,q,vs⟩:=q
      rw[hw]at hb
      simp only at hb
      left
      by_cases je:l=k
      ·rw[aj je]at hb
       obtain⟨d,hd,_⟩:=Fm.1 hb
       exact⟨d,hd⟩
      ·rw[af je]at hb;exact⟨b,hb⟩
     |none=>
      rw[hw]at hb
      cases x with
      |some c=>exact Or.inl ⟨c,rfl⟩
      |none=>
       simp only at hb
       exact Or.inr ⟨0,e,rfl,hD,FI hb⟩
    ·rw[af hD]at hb;exact Or.inl ⟨b,hb⟩
   ·exact Or.inr ⟨k+1,e',by simpa using h1,by rw[<-h2];congr 1;omega,h3⟩
 rcases key es 0 (L0 l) ⟨b,hl⟩with⟨b,hb⟩|⟨k,e,h1,h2,h3⟩
 ·exact Or.inl (h.fC l b hb)
 ·exact Or.inr ⟨k,e,h1,by simpa using h2,h3⟩
theorem aeY(h:Fits P g ops es F0 L0 n lk mem fj nn un){D:Nat->Bool}(hD:zh ops D)(hb:∀i,D i=true->i<ops.size){i:Nat}{e:E}(he:es[i]? =some e)(hi:D i=false):LD es (add D i) L0=aL e (LD es D L0):=by
 funext l
 refine MV hi (bf i) (by simpa using he) ?_
 intro k e' fV hk Dp y
 simp only[tU]at hk
 have kD:i<es.length:=(iN.1 he).1
 have nob:fj k i=true->False:=fun h_=>by
  have:=MI h hD hb Dp h_
  rw[hi]at this;cases this
 -- one of the two leaves the label alone
 have hid:(∀y,gl l e y=y)\/(∀y,gl l e' y=y):=by
  cases hw:e.w with
  |some q=>
   obtain⟨m,q,vs⟩:=q
   by_cases oR:l=m
   ·right
    intro y
    cases rE:e'.w with
    |some q'=>
     obtain⟨m',q',He⟩:=q'
     by_cases yK:m'=m
     ·rcases h.ord i k e' m q' He (h.alr i e m q vs he hw) (cg kD h.len) hk (by rw[rE,yK]) (by omega)with⟨h1,_⟩|⟨_,h2⟩
      ·omega
      ·exact(nob h2).elim
     ·unfold gl
      rw[rE]
      exact af (by rw[oR];exact fun e=>yK e.symm)
    |none=>
     unfold gl
     rw[rE]
     cases y with
     |some c=>rfl
     |none=>
      simp only
      cases hf:find e'.nw l with
      |none=>rfl
      |some c=>
       exfalso
       obtain⟨d,hd,e1⟩:=FI hf
       have h1:=GK h hk hd
       obtain⟨b,h_⟩:=h.tgt i e m q vs he hw
       rw[<-oR]at h_
       have TF:=OI h (show i+1<=k by omega) (ku (iN.1 hk).1)
       rcases Yg h h_ with h2|⟨j,ej,h2,h3,c',iF,e2⟩
       ·omega
       ·have hj:=GK h h2 iF
        by_cases eM:j=k
        ·subst eM
         have RF:fj i j=true:=h3
         have:∃o,ops[i]? =some o:=⟨ops[i]'(cg kD h.len),oA (cg kD h.len)⟩
         -- what i waits for lies before i
         have yA:∀i,fj i j=true->i<ops.size->j<i:=by
          intro i
          induction i using Nat.strongRecOn with
          |_ i ih=>
           intro q8 ab
           obtain⟨ee,he1,kT,kU⟩:=h.FA i (ops[i]'ab) j (oA ab) q8
           have Al:=h.back i _ ee (oA ab) he1 kT
           rcases kU with h5|h5
           ·omega
           ·have:=ih ee.on Al h5 (by omega)
            omega
         have:=yA i RF (cg kD h.len)
         omega
        ·exact Ow h h2 hk eM iF hd (by rw[e1,e2])
   ·left
    intro y
    unfold gl
    rw[hw]
    simp only
    rw[af oR]
  |none=>
   cases hf:find e.nw l with
   |none=>
    left
    intro y
    unfold gl
    rw[hw]
    cases y with
    |some c=>rfl
    |none=>exact hf
   |some c=>
    right
    obtain⟨d,hd,e1⟩:=FI hf
    intro y
    cases rE:e'.w with
    |some q'=>
     obtain⟨m,q,vs⟩:=q'
     unfold gl
     rw[rE]
     simp only
     refine af fun oR=> ?_
     obtain⟨b,h_⟩:=h.tgt k e' m q vs hk rE
     rw[<-oR]at h_
     have h1:=GK h he hd
     rcases Yg h h_ with h2|⟨j,ej,h2,h3,c',iF,e2⟩
     ·omega
     ·by_cases oO:j=i
      ·subst oO;exact nob h3
      ·exact Ow h h2 he oO iF hd (by rw[e1,e2])
    |none=>
     unfold gl
     rw[rE]
     cases y with
     |some c=>rfl
     |none=>
      simp only
      cases aT:find e'.nw l with
      |none=>rfl
      |some c'=>
       obtain⟨d',aA,e2⟩:=FI aT
       exact(Ow h he hk (by omega) hd aA (by rw[e1,e2])).elim
 rcases hid with h1|h1
 ·rw[h1,h1]
 ·rw[h1,h1]
theorem aiM(h:Fits P g ops es F0 L0 n lk mem fj nn un){D:Nat->Bool}(iG:zh ops D)(wM:∀i,D i=true->i<ops.size){i:Nat}{o:Oper}(ho:ops[i]? =some o)(iE:∀e∈o.after,Region.binds .any e=true->D e.on=true)(mv:D i=false)(kD:i<es.length)(hu:un i)
 {a:Act} {W:World} {β:Nat->Nat} (hm:Mem g β (LD es D L0) (PD es D (fun l=>l<n)) W) (hf:eX g β (FD es D F0) (PD es D (fun l=>l<n)) a) {K:Act->World->Prop} {Q:Exit->Act->World->Prop}
 (hK:∀γ a' W',Mem g γ (LD es (add D i) L0) (PD es (add D i) (fun l=>l<n)) W'->eX g γ (FD es (add D i) F0) (PD es (add D i) (fun l=>l<n)) a'->K a' W'):wpOp P ops Q i K a W:=by
 have he:es[i]? =some (es[i]'kD):=jo _
 refine h.ex i _ hu he β _ _ _ a W (fun t ht=>akM h iG wM ho iE mv ht) (fun l b yK hl=>alp h iG wM ho iE mv yK hl) ?_ (fun l hl=>vI.2 (Or.inl hl)) hm hf _ Q ?_
 ·intro b hb hp
  rcases vI.1 hp with hp|⟨k,e',h1,h2,c,iF,h3⟩
  ·have:=(GK h he hb).1;omega
  ·simp only[dB]at h2
   have pz:i≠k:=fun e=>by rw[<-e,mv]at h2;cases h2
   exact Ow h he h1 pz hb iF h3.symm
 ·intro γ a' W' fb aT
  refine hK γ a' W' ?_ ?_
  ·rw[aeY h iG wM he mv,YE he mv];exact fb
  ·rw[Ye h he mv,YE he mv];exact aT
theorem adC{ls:Array Bool}{s i:Nat}(hs:ls.size=s)(hi:i<s):(fun k=>(ls.setIfInBounds i true).getD k false)=add (fun k=>ls.getD k false) i:=by
 funext k
 simp only[add]
 by_cases hk:k=i
 ·subst hk
  rw[aj rfl,Ba]
  simp[show k<ls.size by omega]
 ·rw[af hk,getD_set_ne false (oE hk)]
theorem adD{ls:Array Bool}{s i fuel:Nat}(hs:ls.size=s)(hi:i<s)(mv:ls.getD i false=false)(hc:ls.toList.count false=fuel+1):(ls.setIfInBounds i true).toList.count false=fuel:=by
 have h1:ls.toList[i]? =some false:=by
  rw[E',oA (show i<ls.size by omega)]
  rw[Ba,oA (show i<ls.size by omega)]at mv
  simpa using mv
 have h2:i<ls.toList.length:=(iN.1 h1).1
 have h3:ls.toList[i]=false:=(iN.1 h1).2
 rw[X9,List.count_set h2,h3,hc]
 simp
theorem ZK{D:Nat->Bool}(iG:zh ops D){i:Nat}{o:Oper}(ho:ops[i]? =some o)(iE:∀e∈o.after,Region.binds .any e=true->D e.on=true):zh ops (add D i):=by
 intro k o' hk d_ e' lz h_
 simp only[add]at hk⊢
 by_cases NO:e'.on=i
 ·rw[aj NO]
 ·rw[af NO]
  by_cases pz:k=i
  ·subst pz
   rw[ho]at d_
   obtain rfl:=ef d_
   exact iE e' lz h_
  ·rw[af pz]at hk
   exact iG k o' hk d_ e' lz h_
theorem akJ{ls:Array Bool}{s:Nat}(hs:ls.size=s):∀i,ls.getD i false=true->i<s:=by
 intro i hi
 refine sg fun ju=> ?_
 rw[Ba,X7 (by omega)]at hi
 cases hi
theorem ae'{ls:Array Bool}{s:Nat}(hs:ls.size=s)(hc:ls.toList.count false=0):∀i,i<s->ls.getD i false=true:=by
 intro i hi
 have h0:=List.count_eq_zero.1 hc
 have:ls[i]? =some ls[i]:=oA (by omega)
 rw[Ba,this]
 simp only[Option.getD_some]
 refine Hn fun ek=>h0 ?_
 have h1:ls[i]=false:=by simpa using ek
 rw[<-h1]
 exact Array.getElem_mem_toList _
theorem alX{ls:Array Bool}(hs:ls.size=ops.size)(iE:∀i,i<ops.size->ls.getD i false=true):Region.ready .any ops ls=[]:=by
 refine List.eq_nil_iff_forall_not_mem.2 fun i hi=> ?_
 obtain⟨h1,o,ho,_⟩:=mem_ready.1 hi
 have h2:=iE i (xK.1 ho).1
 rw[Ba]at h1 h2
 have h3:i<ls.size:=by rw[hs];exact(xK.1 ho).1
 rw[oA h3]at h1 h2
 simp only[Option.getD_some]at h1 h2
 rw[h1]at h2;cases h2
theorem adT{ls:Array Bool}(hs:ls.size=ops.size)(ajl:∀ (i:Nat) (o:Oper) (e:Edge),ops[i]? =some o->e∈o.after->Region.binds .any e=true->e.on<i){fuel:Nat}(hc:ls.toList.count false=fuel+1):Region.ready .any ops ls≠ []:=by
 intro hr
 have hex:∃i,i<ops.size/\ls.getD i false=false:=by
  have abg:0<ls.toList.count false:=by omega
  obtain⟨i,hi,he⟩:=List.getElem_of_mem (List.count_pos_iff.1 abg)
  refine⟨i,by rw[<-hs];simpa using hi,?_⟩
  rw[Ba,oA (by simpa using hi)]
  simpa using he
 have none:∀i,i<ops.size->ls.getD i false=false->False:=by
  intro i
  induction i using Nat.strongRecOn with
  |_ i ihi=>
   intro hi hf
   have ho:=oA hi
   by_cases hd:∀e∈(ops[i]'hi).after,Region.binds .any e=true->ls.getD e.on false=true
   ·have:i∈Region.ready .any ops ls:=mem_ready.2 ⟨by
     rw[Ba]at hf⊢
     rw[oA (show i<ls.size by omega)]at hf⊢
     exact hf,_,ho,hd⟩
    rw[hr]at this
    cases this
   ·simp only[Classical.not_forall]at hd
    obtain⟨e,he,hb,ek⟩:=hd
    have ab:=ajl i _ e ho he hb
    exact ihi e.on ab (by omega) (by simpa using ek)
 obtain⟨i,hi,wL⟩:=hex
 exact none i hi wL
theorem We{ls:Array Bool}(hs:ls.size=ops.size){i:Nat}(hi:i∈Region.ready .any ops ls):ls.getD i false=false/\∃o,ops[i]? =some o/\∀e∈o.after,Region.binds .any e=true->ls.getD e.on false=true:=by
 obtain⟨kX,o,ho,iE⟩:=mem_ready.1 hi
 have pv:i<ops.size:=(xK.1 ho).1
 refine⟨?_,o,ho,iE⟩
 rw[Ba]at kX⊢
 rw[oA (show i<ls.size by omega)]at kX⊢
 exact kX
theorem acD{D D':Nat->Bool}(hd:∀k,k<es.length->D k=D' k):FD es D F0=FD es D' F0/\LD es D L0=LD es D' L0/\PD es D (fun l=>l<n)=PD es D' (fun l=>l<n):=by
 have aA:∀k e,es[k]? =some e->D (0+k)=D' (0+k):=fun k e hk=>by rw[dB];exact hd k (iN.1 hk).1
 exact⟨funext fun t=>Iw aA,funext fun l=>Iw aA,funext fun l=>Iw aA⟩
end
end Go.Vg
namespace Go.Vg
open Go.RowKit
def Le:Operand->List Nat
 | .tmp t=> [t]
 |_=> []
def tM:List Operand->List Nat
 | []=> []
 |x::xs=>Le x++tM xs
def oZ(all:List Oper)(o:Oper):List Nat:=
 tM o.op.operands.toList++match o.guard with
  |some (j,_)=>match all[j]? with
   |some oj=>match oj.dst with
    |some d=> [d]
    |none=> []
   |none=> []
  |none=> []
def jw(o:Oper):Bool:=
 match o.op with
 | .move _| .assign _| .pick _ _ _| .nilCheck _| .unOp _ _ _| .makeFunc _ _ _| .fieldAddr _ _ _| .field _ _ _| .indexAddr _ _ _| .index _ _ _| .extract _ _| .build _ _| .alloc _| .box _ _| .buildSlice _ _ _=>false
 | .binOp _ _ _ _ _=>false
 | .call c=>match c.callee with
   | .builtin .len=>false
   |_=>true
 |_=>true
def quiet(o:Oper):Bool:=
 match o.op with
 | .move _| .assign _| .load _ _| .fieldAddr _ _ _| .nilCheck _| .extract _ _=>true
 |_=>false
def pG(o:Oper):Bool:=
 match o.op with
 | .store _ _ _=>true
 |_=>false
def B_(acc:List Nat):List Edge->Nat
 | []=>0
 |e::es=>match Region.binds .any e with
  |true=>2^e.on|||acc.getD e.on 0|||B_ acc es
  |false=>B_ acc es
def eR(acc:List Nat):List Oper->List Nat
 | []=>acc
 |o::os=>eR (acc++[B_ acc o.after.toList]) os
def fO(m:List Nat)(i k:Nat):Bool:=(m.getD i 0).testBit k
def uN(m:List Nat)(i k:Nat):Bool:=(Nat.blt k i&&fO m i k)||(Nat.blt i k&&fO m k i)
def zI(all:List Oper):Bool:=
 let m:=eR [] all
 let is:=List.range all.length
 is.all fun i=>match all[i]? with
  |none=>false
  |some o=>(o.after.toList.all fun e=> !Region.binds .any e||Nat.blt e.on i)&&
   is.all fun k=>Nat.beq i k||match all[k]? with
    |none=>false
    |some o'=>(match o'.dst with
     |some t=> !(o.dst==some t)&&(!eo (oZ all o) t||uN m i k)
     |none=>true)&&(!pG o'|| !jw o||uN m i k)
def Dm(all:List Oper)(o:Oper):Option Nat:=
 match o.op with
 | .load _ (.tmp t)=>match all.all fun o'=>match o'.dst with|some d=> !Nat.beq d t|none=>true with
   |true=>some t
   |false=>none
 |_=>none
def MM(all:List Oper):Bool:=
 let m:=eR [] all
 let is:=List.range all.length
 is.all fun i=>match all[i]? with
  |none=>false
  |some o=>(o.after.toList.all fun e=> !Region.binds .any e||Nat.blt e.on i)&&
   is.all fun k=>Nat.beq i k||match all[k]? with
    |none=>false
    |some o'=>(match o'.dst with
     |some t=> !(o.dst==some t)&&(!eo (oZ all o) t||uN m i k)
     |none=>true)&&(!pG o'|| !jw o||uN m i k||(Dm all o).isSome)
def yT(F:Nat->Option SV)(t:Nat):Option Nat:=
 match F t with
 |some (.ptr a _)=>some a
 |some (.gM a _)=>some a
 |_=>none
def Rr(all:List Oper)(F:Nat->Option SV)(i:Nat):Option Nat:=
 match all[i]? with
 |some o=>match Dm all o with
  |some t=>yT F t
  |none=>none
 |none=>none
def MH(all:List Oper)(m:List Nat)(F:Nat->Option SV)(k l:Nat):Bool:=
 (List.range all.length).all fun i=>match all[i]? with
  |some o=>match Dm all o with
   |some t=>uN m i k||match yT F t with
    |some a=> !Nat.beq a l
    |none=>false
   |none=>true
  |none=>true
abbrev NL:=List (Nat×aC)
def wk(m:List Nat)(i:Nat):NL->LL
 | []=> []
 |(k,b)::N=>match fO m i k with
  |true=>b::wk m i N
  |false=>wk m i N
def tZ:NL->LL
 | []=> []
 |(_,b)::N=>b::tZ N
def u6(l:Nat)(cs:List SV):LL->LL
 | []=> []
 |b::L=>(if b.l=l then⟨b.l,cs,b.t⟩else b)::u6 l cs L
def zc(l:Nat)(cs:List SV):NL->NL
 | []=> []
 |(k,b)::N=>(k,if b.l=l then⟨b.l,cs,b.t⟩else b)::zc l cs N
def tE(i:Nat):LL->NL
 | []=> []
 |b::L=>(i,b)::tE i L
def addN(L:Nat->Option aC)(nw:LL)(l:Nat):Option aC:=
 match L l with
 |some b=>some b
 |none=>find nw l
structure EN(g:G)(P:Program)(o:Oper)(F:Nat->Option SV)(M:Nat->Option aC)(v:SV)(nw:LL):Prop where
 run:∀ (β:Nat->Nat) (p:Nat->Prop) (F':Nat->Option SV) (L':Nat->Option aC) (a:Act) (W:World),(∀t∈tM o.op.operands.toList,F' t=F t)->(∀l b,M l=some b->L' l=some b)->(∀b∈nw,¬p b.l)->Mem g β L' p W->eX g β F' p a->
  ∀ (next:Act->World->Prop) (Q:Exit->Act->World->Prop),(∀γ a' W',Mem g γ (addN L' nw) (fun l=>p l\/ ∃b∈nw,b.l=l) W'->
    eX g γ (qG F' o.dst v) (fun l=>p l\/ ∃b∈nw,b.l=l) a'->next a' W')->o.wp P a W next Q
def qD(o:Oper)(M:Nat->Option aC):Nat->Option aC:=
 match jw o with
 |true=>M
 |false=>fun _=>none
def zu(g:G)(P:Program)(o:Oper)(F:FF)(M:LL)(n:Nat)(K:SV->LL->Nat->Prop):Prop:=
 ∃v nw n',EN g P o (look F) (qD o (find M)) v nw/\n<=n'/\(∀b∈nw,n<=b.l/\b.l<n')/\(nw.map aC.l).Nodup/\K v nw n'
section
variable (T:Nat->Option Ty)(A:Ar)(P:Program)(g:G)(n0:Nat)(ms:List Nat)(ck:Nat->Nat->Bool)
def EY(R:FF->LL->NL->Nat->Prop)(m:List Nat)(i:Nat)(o:Oper)(F:FF)(B:LL)(N:NL)(n:Nat):Prop:=
 ze T A n0 ms (zu g P o F (B++wk m i N) n fun v nw n'=>R (cH F o.dst v) B (N++tE i nw) n') (fun F'=>R F' B N n)
  (fun F' b=>R F' B (N++[(i,b)]) (n+1)) (fun F' l cs=>ck i l=true/\R F' (u6 l cs B) (zc l cs N) n) o F (B++wk m i N) n
def qJ(all:List Oper)(m:List Nat)(K:FF->LL->Nat->Prop):List Oper->Nat->FF->LL->NL->Nat->Prop
 | [],_,F,B,N,n=>K F (B++tZ N) n
 |o::rest,i,F,B,N,n=>
  match o.guard with
  |none=>EY T A P g n0 ms ck (qJ all m K rest (i+1)) m i o F B N n
  |some (j,b)=>match all[j]? with
   |some oj=>match oj.dst with
    |some d=>match look F d with
     |some (.bool x)=>match x with
      |true=>match b with
       |true=>EY T A P g n0 ms ck (qJ all m K rest (i+1)) m i o F B N n
       |false=>qJ all m K rest (i+1) (cH F o.dst (.raw undef)) B N n
      |false=>match b with
       |true=>qJ all m K rest (i+1) (cH F o.dst (.raw undef)) B N n
       |false=>EY T A P g n0 ms ck (qJ all m K rest (i+1)) m i o F B N n
     |_=>False
    |none=>False
   |none=>False
def oz(sk:Nat->Bool)(all:List Oper)(m:List Nat)(K:FF->LL->NL->Nat->Prop):List Oper->Nat->FF->LL->NL->Nat->Prop
 | [],_,F,B,N,n=>K F B N n
 |o::rest,i,F,B,N,n=>
  match sk i with
  |true=>oz sk all m K rest (i+1) F B N n
  |false=>match o.guard with
   |none=>EY T A P g n0 ms ck (oz sk all m K rest (i+1)) m i o F B N n
   |some (j,b)=>match all[j]? with
    |some oj=>match oj.dst with
     |some d=>match look F d with
      |some (.bool x)=>match x with
       |true=>match b with
        |true=>EY T A P g n0 ms ck (oz sk all m K rest (i+1)) m i o F B N n
        |false=>oz sk all m K rest (i+1) (cH F o.dst (.raw undef)) B N n
       |false=>match b with
        |true=>oz sk all m K rest (i+1) (cH F o.dst (.raw undef)) B N n
        |false=>EY T A P g n0 ms ck (oz sk all m K rest (i+1)) m i o F B N n
      |_=>False
     |none=>False
    |none=>False
theorem aex(all:List Oper)(m:List Nat)(K:FF->LL->Nat->Prop):∀ (rest:List Oper) (i:Nat),qJ T A P g n0 ms ck all m K rest i=oz T A P g n0 ms ck (fun _=>false) all m (fun F B N n=>K F (B++tZ N) n) rest i
 | [],_=>rfl
 |o::rest,i=>by
  funext F B N n
  simp only[qJ,oz,aex all m K rest (i+1)]
end
end Go.Vg
namespace Go.Vg
open Go.RowKit
theorem FG{F F':Nat->Option SV}{x:Operand}(h:∀t∈Le x,F' t=F t):ev F' x=ev F x:=by
 cases x with
 |tmp t=>exact h t (by simp[Le])
 |_=>rfl
theorem EU{xs:List Operand}{x:Operand}(hx:x∈xs){t:Nat}(ht:t∈Le x):t∈tM xs:=by
 induction xs with
 |nil=>cases hx
 |cons y ys ih=>
  simp only[tM,xN]
  rcases List.mem_cons.1 hx with rfl|hx
  ·exact Or.inl ht
  ·exact Or.inr (ih hx)
theorem MP{F F':Nat->Option SV}:∀ {xs:List Operand},(∀x∈xs,ev F' x=ev F x)->lQ F' xs=lQ F xs
 | [],_=>rfl
 |x::xs,h=>by
  simp only[lQ]
  rw[h x kd,MP fun y hy=>h y (lj _ hy)]
theorem Re{F F':Nat->Option SV}{pl:Nat->Option (Nat×Nat)}:∀ {parts:List (Nat×Operand)} {cs:List SV},(∀p∈parts,ev F' p.2=ev F p.2)->nU pl F' cs parts=nU pl F cs parts
 | [],_,_=>rfl
 |(i,x)::rest,cs,h=>by
  have h1:ev F' x=ev F x:=h (i,x) kd
  have h2:∀cs,nU pl F' cs rest=nU pl F cs rest:=fun cs=>Re fun p hp=>h p (lj _ hp)
  simp only[nU,h1,h2]
theorem apr{A:Ar}{M L:Nat->Option aC}(h:∀l b,M l=some b->L l=some b){i:Ty}{u v:SV}(hr:rd A M i u=some v):rd A L i u=some v:=by
 cases u with
 |ptr l o=>
  simp only[rd]at hr⊢
  cases hl:M l with
  |none=>simp[hl]at hr
  |some b=>rw[h l b hl];simpa only[hl]using hr
 |gM l o=>
  simp only[rd]at hr⊢
  cases hl:M l with
  |none=>simp[hl]at hr
  |some b=>rw[h l b hl];simpa only[hl]using hr
 |_=>simp[rd]at hr
section
variable {T:Nat->Option Ty}{F F':Nat->Option SV}{M L:Nat->Option aC}
theorem alD{op:Op}(E:∀x∈op.operands.toList,ev F' x=ev F x):native T F' op=native T F op:=by
 cases op with
 |binOp op xt x y yt=>simp only[native,E x (by simp[Op.operands]),E y (by simp[Op.operands])]
 |_=>rfl
theorem aq5{A:Ar}{op:Op}(E:∀x∈op.operands.toList,ev F' x=ev F x)(hM:(∀l b,M l=some b->L l=some b)\/(∀t x,op≠ .load t x)){v:SV}(h:gd A T F M op=some v):gd A T F' L op=some v:=by
 cases op with
 |load t x=>
  have E1:=E x (by simp[Op.operands])
  simp only[gd,E1]at h⊢
  cases hx:ev F x with
  |none=>simp[hx]at h
  |some u=>
   cases ht:T t with
   |none=>simp[hx,ht]at h
   |some i=>
    simp only[hx,ht]at h⊢
    rcases hM with hM|hM
    ·exact apr hM h
    ·exact(hM t x rfl).elim
 |move x=>simpa only[gd,E x (by simp[Op.operands])]using h
 |assign x=>simpa only[gd,E x (by simp[Op.operands])]using h
 |pick c x y=>simpa only[gd,E c (by simp[Op.operands]),E x (by simp[Op.operands]),E y (by simp[Op.operands])]using h
 |nilCheck x=>simpa only[gd,E x (by simp[Op.operands])]using h
 |binOp op xt x y yt=>simpa only[gd,E x (by simp[Op.operands]),E y (by simp[Op.operands])]using h
 |unOp op t x=>simpa only[gd,E x (by simp[Op.operands])]using h
 |convert s d x=>simpa only[gd,E x (by simp[Op.operands])]using h
 |makeFunc f x y=>
  have h1:lQ F' x.toList=lQ F x.toList:=MP fun z hz=>E z (by simp[Op.operands]at hz⊢;exact Or.inl hz)
  have h2:lQ F' y.toList=lQ F y.toList:=MP fun z hz=>E z (by simp[Op.operands]at hz⊢;exact Or.inr hz)
  simpa only[gd,h1,h2]using h
 |fieldAddr s x f=>simpa only[gd,E x (by simp[Op.operands])]using h
 |field t x f=>simpa only[gd,E x (by simp[Op.operands])]using h
 |indexAddr t x ix=>simpa only[gd,E x (by simp[Op.operands]),E ix (by simp[Op.operands])]using h
 |index t x ix=>simpa only[gd,E x (by simp[Op.operands]),E ix (by simp[Op.operands])]using h
 |extract x i=>simpa only[gd,E x (by simp[Op.operands])]using h
 |build t parts=>
  have h1:∀pl cs,nU pl F' cs parts.toList=nU pl F cs parts.toList:=fun pl cs=>Re fun p hp=>E p.2 (by
   simp only[Op.operands]
   exact iZ.2 ⟨p,hp,rfl⟩)
  simpa only[gd,h1]using h
 |call c=>
  simp only[gd]at h⊢
  split at h
  ·rename_i x t hx sS
   have hc:x∈(Op.call c).operands.toList:=by
    simp only[Op.operands,Call.operands,LI,xN]
    right;rw[hx];exact kd
   simpa only[hx,sS,E x hc]using h
  ·cases h
 |_=>simp[gd]at h
theorem alo{o:Oper}(h:jw o=false)(t:TypeId)(x:Operand):o.op≠ .load t x:=by
 intro e
 simp[jw,e]at h
theorem fF.congr{o:Oper}{e:Ho}(hr:fF T F M o.op e)(hF:∀t∈tM o.op.operands.toList,F' t=F t)(hM:jw o=true->∀l b,M l=some b->L l=some b):fF T F' L o.op e:=by
 have E:∀x∈o.op.operands.toList,ev F' x=ev F x:=fun x hx=>FG fun t ht=>hF t (EU hx ht)
 have yk:(∀l b,M l=some b->L l=some b)\/(∀t x,o.op≠ .load t x):=by
  cases hm:jw o with
  |true=>exact Or.inl (hM hm)
  |false=>exact Or.inr (alo hm)
 generalize iI:o.op=op at hr E yk
 cases hr with
 |val hn hv=>exact .val (by rw[alD E];exact hn) (aq5 E yk hv)
 |alloc ht=>exact .alloc ht
 |box hx hr=>exact .box (by rw[E _ (by simp[Op.operands])];exact hx) hr
 |buildSlice ht hd hj h1 h2 hs=>
  refine .buildSlice ht hd hj h1 h2 ?_
  rw[Re fun p hp=>E p.2 (by
   simp only[Op.operands]
   exact iZ.2 ⟨p,hp,rfl⟩)]
  exact hs
 |store hx hy ht hl h1 hL hp hle=>
  have wP:jw o=true:=by simp[jw,iI]
  exact .store (by rw[E _ (by simp[Op.operands])];exact hx) (by rw[E _ (by simp[Op.operands])];exact hy) ht hl h1 (hM wP _ _ hL) hp hle
end
section
variable {P:Program}{g:G}{T:Nat->Option Ty}
theorem EN.ON{o:Oper}{F:Nat->Option SV}{M:Nat->Option aC}{v:SV}(h:∀ (β:Nat->Nat) (p:Nat->Prop) (F':Nat->Option SV) (L':Nat->Option aC) (a:Act) (W:World),(∀t∈tM o.op.operands.toList,F' t=F t)->(∀l b,M l=some b->L' l=some b)->Mem g β L' p W->eX g β F' p a->
 ∀ (next:Act->World->Prop) (Q:Exit->Act->World->Prop),(∀a' W',Mem g β L' p W'->eX g β (qG F' o.dst v) p a'->next a' W')->o.wp P a W next Q):EN g P o F M v []:=by
 refine⟨?_⟩
 intro β p F' L' a W h1 h2 _ hm hf next Q hn
 refine h β p F' L' a W h1 h2 hm hf next Q fun a' W' fb aT=>hn β a' W' ?_ ?_
 ·have e1:addN L' []=L':=by
   funext l;unfold addN;cases L' l<;>rfl
  have e2:(fun l=>p l\/ ∃b∈([]:LL),b.l=l)=p:=by funext l;simp
  rw[e1,e2];exact fb
 ·have e2:(fun l=>p l\/ ∃b∈([]:LL),b.l=l)=p:=by funext l;simp
  rw[e2];exact aT
theorem al9(hT:cI P T){ops:Array Oper}{i:Nat}{o:Oper}(ho:ops[i]? =some o)(hd:∀t,o.dst=some t->t<g.N){e:E}(ta:e.d=o.dst){Ft:Nat->Option SV}{V:Nat->Option aC}{n:Nat}
 (eF:((∃x,o.guard=none\/ ∃j oj d,o.guard=some (j,x)/\ops[j]? =some oj/\oj.dst=some d/\d∈oZ ops.toList o/\Ft d=some (.bool x))/\
  ((∃v,fF T Ft V o.op (.val v)/\e=⟨o.dst,v,[],none⟩)\/(∃f cs t k,fF T Ft V o.op (.new f cs t)/\e=⟨o.dst,f k,[⟨k,cs,t⟩],none⟩)\/
    (∃l q vs b,fF T Ft V o.op (.wr l q vs)/\V l=some b/\own g.n0 g.ms l=true/\e=⟨o.dst,.raw undef,[],some (l,q,vs)⟩)\/(∃v nw,EN g P o Ft (qD o V) v nw/\e=⟨o.dst,v,nw,none⟩)))\/
  ((∃j x oj d,o.guard=some (j,!x)/\ops[j]? =some oj/\oj.dst=some d/\d∈oZ ops.toList o/\Ft d=some (.bool x))/\e=⟨o.dst,.raw undef,[],none⟩)):
 ∀ (β:Nat->Nat) (p:Nat->Prop) (F':Nat->Option SV) (L':Nat->Option aC) (a:Act) (W:World),(∀t∈oZ ops.toList o,F' t=Ft t)->(jw o=true->∀l b,V l=some b->L' l=some b)->(∀b∈e.nw,¬p b.l)->(∀l,l<n->p l)->
 Mem g β L' p W->eX g β F' p a->∀ (K:Act->World->Prop) (Q:Exit->Act->World->Prop),(∀γ a' W',Mem g γ (aL e L') (aP e p) W'->eX g γ (aF e F') (aP e p) a'->K a' W')->wpOp P ops Q i K a W:=by
 intro β p F' L' a W hF hM BK DW hm hf K Q hK
 have acO:∀v:SV,aL ⟨o.dst,v,[],none⟩ L'=L':=by
  intro v;funext l;simp only[aL,gl];cases L' l<;>rfl
 have GW:∀ (v:SV) w,aP ⟨o.dst,v,[],w⟩ p=p:=by
  intro v w;funext l;simp[aP,pl]
 have fr:∀ (v:SV) nw w,aF ⟨o.dst,v,nw,w⟩ F'=qG F' o.dst v:=fun v nw w=>rfl
 have uE:∀t∈tM o.op.operands.toList,F' t=Ft t:=fun t ht=>hF t (xN.2 (Or.inl ht))
 unfold wpOp
 simp only[ho]
 rcases eF with⟨⟨x,hg⟩,hc⟩|⟨⟨j,x,oj,d,hg,hj,pr,je,lT⟩,rfl⟩
 ·have hw:Region.wanted o (yielded ops a.tmps)=true:=by
   rcases hg with hg|⟨j,oj,d,hg,hj,pr,je,lT⟩
   ·simp[Region.wanted,hg]
   ·have:=hf.fr d (.bool x) (by rw[hF d je];exact lT)
    have hy:yielded ops a.tmps j=some x:=by
     unfold yielded
     simp[hj,pr,this,den]
    simp[Region.wanted,hg,hy]
  rw[aj hw]
  left
  rcases hc with⟨v,hr,rfl⟩|⟨f,cs,t,k,hr,rfl⟩|⟨l,q,vs,b,hr,hV,c_,rfl⟩|⟨v,nw,wK,rfl⟩
  ·refine(fF.sound hT hm hf hd (hr.congr uE hM)).1 v rfl fun a' W' _ fb aT=>hK β a' W' ?_ ?_
   ·rw[acO,GW];exact fb
   ·rw[GW];exact aT
  ·have hk:¬p k:=BK ⟨k,cs,t⟩ kd
   refine(fF.sound hT hm hf hd (hr.congr uE hM)).2.1 f cs t k rfl hk fun γ a' W' _ _ fb aT=>hK γ a' W' ?_ ?_
   ·have e1:aL ⟨o.dst,f k,[⟨k,cs,t⟩],none⟩ L'=ic L' k ⟨k,cs,t⟩:=by
     funext l
     simp only[aL,gl,ic]
     by_cases hl:l=k
     ·subst hl
      cases hq:L' l with
      |some c=>exact(hk (hm.bL l c hq).1).elim
      |none=>simp[find]
     ·cases hq:L' l with
      |some c=>simp[hl]
      |none=>simp[find,hl,oE hl]
    have e2:aP ⟨o.dst,f k,[⟨k,cs,t⟩],none⟩ p=fun l=>p l\/l=k:=by
     funext l;simp[aP,pl,eq_comm]
    rw[e1,e2];exact fb
   ·have e2:aP ⟨o.dst,f k,[⟨k,cs,t⟩],none⟩ p=fun l=>p l\/l=k:=by
     funext l;simp[aP,pl,eq_comm]
    rw[e2];exact aT
  ·have yK:jw o=true:=by
    generalize iI:o.op=op at hr
    cases hr
    simp[jw,iI]
   have hL:=hM yK l b hV
   refine(fF.sound hT hm hf hd (hr.congr uE hM)).2.2 l q vs b rfl hL c_ fun a' W' _ fb aT=>hK β a' W' ?_ ?_
   ·have e1:aL ⟨o.dst,.raw undef,[],some (l,q,vs)⟩ L'=ic L' l ⟨b.l,splice b.cs q vs,b.t⟩:=by
     funext k
     simp only[aL,gl,ic]
     by_cases hk:k=l
     ·subst hk;simp[hL]
     ·simp[hk]
    rw[e1,GW];exact fb
   ·rw[GW];exact aT
  ·refine wK.run β p F' L' a W uE (fun l b hl=>by unfold qD at hl;cases Gp:jw o with|true=>rw[Gp]at hl;exact hM Gp l b hl|false=>rw[Gp]at hl;cases hl) BK hm hf _ _ fun γ a' W' fb aT=>hK γ a' W' ?_ ?_
   ·have e1:aL ⟨o.dst,v,nw,none⟩ L'=addN L' nw:=by
     funext l;simp only[aL,gl,addN];cases L' l<;>rfl
    rw[e1];exact fb
   ·exact aT
 ·have:=hf.fr d (.bool x) (by rw[hF d je];exact lT)
  have hy:yielded ops a.tmps j=some x:=by
   unfold yielded
   simp[hj,pr,this,den]
  have hw:Region.wanted o (yielded ops a.tmps)=false:=by
   simp[Region.wanted,hg,hy]
  rw[af (by rw[hw];simp)]
  refine hK β _ W ?_ ?_
  ·rw[acO,GW];exact hm
  ·rw[GW]
   exact hf.put hd (v:= .raw undef) (by simp[bd])
end
end Go.Vg
namespace Go.Vg
open Go.RowKit
theorem FJ{α:Type}{f:E->α->α}{D:Nat->Bool}{e:E}:∀ {es:List E} {s:Nat} {x:α},fo f D s (es++[e]) x=if D (s+es.length)then f e (fo f D s es x)else fo f D s es x
 | [],s,x=>by simp[fo]
 |e'::es,s,x=>by
  simp only[du,fo,mU]
  rw[FJ,show s+1+es.length=s+(es.length+1) by omega]
theorem zN{α:Type}{f:E->α->α}{D:Nat->Bool}(hD:∀k,D k=false):∀ {es:List E} {s:Nat} {x:α},fo f D s es x=x
 | [],_,_=>rfl
 |e::es,s,x=>by
  simp only[fo,hD s]
  exact zN hD
theorem Rm{α:Type}{f:E->α->α}{D:Nat->Bool}{i:Nat}(hD:∀k,i<=k->D k=false):∀ {es:List E} {s:Nat} {x:α},s<=i->fo f D s es x=fo f D s (es.take (i-s)) x
 | [],_,_,_=>by simp[fo]
 |e::es,s,x,hs=>by
  by_cases h:s=i
  ·subst h
   simp only[vH,HA,fo]
   rw[hD s (aE _)]
   simp only[LJ,GH]
   have:∀ (es:List E) (s':Nat) (x:α),s<=s'->fo f D s' es x=x:=by
    intro es
    induction es with
    |nil=>intros;rfl
    |cons e es ih=>
     intro s' x b9
     simp only[fo,hD s' b9]
     exact ih _ _ (by omega)
   exact this es _ _ (by omega)
  ·rw[show i-s=(i-(s+1))+1 by omega,LU]
   simp only[fo]
   exact Rm hD (by omega)
def kB(D:Nat->Bool):NL->LL
 | []=> []
 |(k,b)::N=>match D k with
  |true=>b::kB D N
  |false=>kB D N
theorem Rc(m:List Nat)(i:Nat):∀N,wk m i N=kB (fO m i) N
 | []=>rfl
 |(k,b)::N=>by simp only[wk,kB,Rc m i N];all_goals (cases fO m i k<;>rfl)
theorem Mf:∀N,tZ N=kB (fun _=>true) N
 | []=>rfl
 |(k,b)::N=>by simp only[tZ,kB,Mf N]
theorem aah(D:Nat->Bool):∀N M,kB D (N++M)=kB D N++kB D M
 | [],_=>rfl
 |(k,b)::N,M=>by
  simp only[du,kB,aah D N M]
  cases D k<;>rfl
theorem aai(D:Nat->Bool)(i:Nat):∀nw,kB D (tE i nw)=if D i then nw else []
 | []=>by simp[tE,kB]
 |b::nw=>by
  simp only[tE,kB,aai D i nw]
  cases D i<;>rfl
theorem MT{D:Nat->Bool}{b:aC}:∀ {N},b∈kB D N->∃k,(k,b)∈N
 | [],h=>by cases h
 |(k,c)::N,h=>by
  simp only[kB]at h
  cases hD:D k with
  |true=>
   rw[hD]at h
   rcases List.mem_cons.1 h with rfl|h
   ·exact⟨k,kd⟩
   ·obtain⟨j,hj⟩:=MT h;exact⟨j,lj _ hj⟩
  |false=>
   rw[hD]at h
   obtain⟨j,hj⟩:=MT h;exact⟨j,lj _ hj⟩
theorem MU(l0:Nat)(cs:List SV)(l:Nat):∀X,find (u6 l0 cs X) l=if l=l0 then(find X l).map fun c=>⟨c.l,cs,c.t⟩else find X l
 | []=>by by_cases h:l=l0<;>simp[u6,find,h]
 |b::X=>by
  simp only[u6,find,MU l0 cs l X]
  by_cases hb:b.l=l0
  ·rw[aj hb]
   by_cases hl:l=l0
   ·subst hl;simp[hb]
   ·simp[hb,hl,oE hl]
  ·rw[af hb]
   by_cases hl:l=l0
   ·subst hl;simp[hb]
   ·simp[hl]
theorem Wg(l0:Nat)(cs:List SV):∀X Y,u6 l0 cs (X++Y)=u6 l0 cs X++u6 l0 cs Y
 | [],_=>rfl
 |b::X,Y=>by simp only[du,u6,Wg l0 cs X Y]
theorem Rd(D:Nat->Bool)(l0:Nat)(cs:List SV):∀N,kB D (zc l0 cs N)=u6 l0 cs (kB D N)
 | []=>rfl
 |(k,b)::N=>by
  simp only[zc,kB,Rd D l0 cs N]
  cases D k<;>rfl
theorem aet{l0:Nat}{cs:List SV}{k:Nat}{b:aC}:∀ {N},(k,b)∈zc l0 cs N->∃c,(k,c)∈N/\c.l=b.l
 | [],h=>by cases h
 |(j,c)::N,h=>by
  simp only[zc]at h
  rcases List.mem_cons.1 h with e|h
  ·simp only[xT]at e
   obtain⟨rfl,rfl⟩:=e
   refine⟨c,kd,?_⟩
   by_cases hc:c.l=l0<;>simp[hc]
  ·obtain⟨d,hd,e⟩:=aet h
   exact⟨d,lj _ hd,e⟩
theorem aes(l0:Nat)(cs:List SV):∀N:NL,(zc l0 cs N).map (fun p=>p.2.l)=N.map fun p=>p.2.l
 | []=>rfl
 |(k,b)::N=>by
  simp only[zc,ve,aes l0 cs N]
  by_cases hb:b.l=l0<;>simp[hb]
theorem ac2{i k:Nat}{b:aC}:∀ {nw},(k,b)∈tE i nw->k=i/\b∈nw
 | [],h=>by cases h
 |c::nw,h=>by
  simp only[tE]at h
  rcases List.mem_cons.1 h with e|h
  ·simp only[xT]at e
   obtain⟨rfl,rfl⟩:=e
   exact⟨rfl,kd⟩
  ·obtain⟨h1,h2⟩:=ac2 h
   exact⟨h1,lj _ h2⟩
theorem ac1(i:Nat):∀nw,(tE i nw).map (fun p=>p.2.l)=nw.map aC.l
 | []=>rfl
 |b::nw=>by simp[tE,ac1 i nw]
theorem alU{N:NL}(h:(N.map fun p=>p.2.l).Nodup){p q:Nat×aC}(hp:p∈N)(hq:q∈N)(e:p.2.l=q.2.l):p=q:=by
 induction N with
 |nil=>cases hp
 |cons x xs ih=>
  simp only[ve,PW]at h
  rcases List.mem_cons.1 hp with hp|hp<;>rcases List.mem_cons.1 hq with hq|hq
  ·rw[hp,hq]
  ·exact(h.1 (iZ.2 ⟨q,hq,by rw[<-e,hp]⟩)).elim
  ·exact(h.1 (iZ.2 ⟨p,hp,by rw[e,hq]⟩)).elim
  ·exact ih h.2 hp hq
structure Told(done:List E)(F0:FF)(B0:LL)(n0:Nat)(F:FF)(B:LL)(N:NL)(n:Nat):Prop where
 fr:look F=FD done (fun _=>true) (look F0)
 bl:∀ (D:Nat->Bool) (l:Nat),(∀ (k:Nat) (e:E) (q:Nat) (vs:List SV),done[k]? =some e->e.w=some (l,q,vs)->D k=true)->LD done D (find B0) l=find (B++kB D N) l
 lb:∀ (k:Nat) (b:aC),(k,b)∈N->n0<=b.l/\b.l<n
 nd:(N.map fun p=>p.2.l).Nodup
 fC:∀ (l:Nat) (b:aC),find B l=some b->l<n0
 le:n0<=n
 pd:∀ (k:Nat) (e:E),done[k]? =some e->∀b:aC,b∈e.nw->b.l<n
section
variable {done:List E}{F0 F:FF}{B0 B:LL}{n0 n:Nat}{N:NL}
theorem Told.app(h:Told done F0 B0 n0 F B N n){d:Option Nat}{v:SV}{nw:LL}{n':Nat}(hn:n<=n')(Gt:∀b∈nw,n<=b.l/\b.l<n')(Ao:(nw.map aC.l).Nodup):Told (done++[⟨d,v,nw,none⟩]) F0 B0 n0 (cH F d v) B (N++tE done.length nw) n':=by
 refine⟨?_,?_,?_,?_,h.fC,eH h.le hn,?_⟩
 ·rw[yU,h.fr]
  funext t
  simp only[FD,FJ,xk,qG,ft]
 ·intro D l hD
  have h1:=h.bl D l (fun k e q vs hk hw=>hD k e q vs (by rw[se (iN.1 hk).1];exact hk) hw)
  simp only[LD,FJ,dB]at h1⊢
  rw[aah,aai,<-jA,fap,<-h1]
  by_cases hd:D done.length=true
  ·rw[aj hd,aj hd];rfl
  ·rw[af hd,af hd]
   cases fo (gl l) D 0 done (find B0 l)<;>rfl
 ·intro k b hb
  rcases List.mem_append.1 hb with hb|hb
  ·have:=h.lb k b hb;omega
  ·have:=Gt b (ac2 hb).2
   have:=h.le
   omega
 ·rw[CJ,ac1,List.nodup_append]
  refine⟨h.nd,Ao,?_⟩
  intro x hx y hy
  obtain⟨p,hp,rfl⟩:=iZ.1 hx
  obtain⟨b,hb,rfl⟩:=iZ.1 hy
  have h1:=(h.lb p.1 p.2 hp).2
  have h2:=(Gt b hb).1
  omega
 ·intro k e hk b hb
  by_cases ab:k<done.length
  ·rw[se ab]at hk
   have:=h.pd k e hk b hb;omega
  ·rw[Hs (by omega)]at hk
   cases kE:k-done.length with
   |zero=>
    rw[kE]at hk
    simp only[Ht,fc]at hk
    subst hk
    exact(Gt b hb).2
   |succ j=>rw[kE]at hk;simp at hk
theorem Told.val(h:Told done F0 B0 n0 F B N n){d:Option Nat}{v:SV}:Told (done++[⟨d,v,[],none⟩]) F0 B0 n0 (cH F d v) B N n:=by
 have:=h.app (d:=d) (v:=v) (nw:=[]) (aE n) (fun b hb=>by cases hb) (by simp)
 simpa [tE]using this
theorem Told.wr(h:Told done F0 B0 n0 F B N n){d:Option Nat}{l0 q:Nat}{vs:List SV}{b:aC}{D':Nat->Bool}(hb:find (B++kB D' N) l0=some b):
 Told (done++[⟨d,.raw undef,[],some (l0,q,vs)⟩]) F0 B0 n0 (cH F d (.raw undef)) (u6 l0 (splice b.cs q vs) B) (zc l0 (splice b.cs q vs) N) n:=by
 refine⟨?_,?_,?_,?_,?_,h.le,?_⟩
 ·rw[yU,h.fr]
  funext t
  simp only[FD,FJ,xk,qG,ft]
 ·intro D l hD
  have h1:=h.bl D l (fun k e q vs hk hw=>hD k e q vs (by rw[se (iN.1 hk).1];exact hk) hw)
  by_cases hl:l=l0
  ·have mv:=hD done.length ⟨d,.raw undef,[],some (l0,q,vs)⟩ q vs (by simp) (by rw[hl])
   simp only[LD,FJ,dB]at h1⊢
   rw[aj mv,Rd,<-Wg,MU,h1]
   simp only[gl]
   subst hl
   rw[aj rfl,aj rfl]
   cases hq:find (B++kB D N) l with
   |none=>rfl
   |some c=>
    have:c=b:=by
     rw[fap]at hq hb
     cases hB:find B l with
     |some c'=>
      rw[hB]at hq hb
      simp only[fc]at hq hb
      rw[<-hq,<-hb]
     |none=>
      rw[hB]at hq hb
      simp only at hq hb
      obtain⟨m1,e1⟩:=nT hq
      obtain⟨m2,e2⟩:=nT hb
      obtain⟨k1,p1⟩:=MT m1
      obtain⟨k2,p2⟩:=MT m2
      have:=alU h.nd p1 p2 (by rw[e1,e2])
      simp only[xT]at this
      exact this.2
    subst this
    rfl
  ·simp only[LD,FJ,dB]at h1⊢
   rw[Rd,<-Wg,MU,af hl,<-h1]
   split
   ·simp only[gl];rw[af hl]
   ·rfl
 ·intro k c hc
  obtain⟨c',iF,e⟩:=aet hc
  rw[<-e];exact h.lb k c' iF
 ·rw[aes];exact h.nd
 ·intro l c hc
  rw[MU]at hc
  by_cases hl:l=l0
  ·rw[aj hl]at hc
   obtain⟨c',iF,_⟩:=Fm.1 hc
   exact h.fC l c' iF
  ·rw[af hl]at hc;exact h.fC l c hc
 ·intro k e hk b' h_
  by_cases ab:k<done.length
  ·rw[se ab]at hk
   exact h.pd k e hk b' h_
  ·rw[Hs (by omega)]at hk
   cases kE:k-done.length with
   |zero=>
    rw[kE]at hk
    simp only[Ht,fc]at hk
    subst hk
    cases h_
   |succ j=>rw[kE]at hk;simp at hk
end
end Go.Vg
