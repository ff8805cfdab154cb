/-
  This text proves what these texts prove: VgH, VgI, VgJ, VgK. Conditions: those of each theorem.
-/
import Derived.RegionTactic
import Derived.StillTailTactics
import Derived.Test.YtfocopihipejfaaGreatB02
set_option maxHeartbeats 8000000
set_option linter.all false
namespace Go.Vg
open Go.RowKit
def Qn(g:G)(K:FF->LL->Nat->Prop):Exit->Act->World->Prop
 | .normal,a,W=>∃F L n,K F L n/\St g F L n a W
 |_,_,_=>False
def up(g:G)(Q:Exit->FF->LL->Nat->Prop):Exit->Act->World->Prop:=fun e a W=>∃F L n,Q e F L n/\St g F L n a W
structure tV(g:G)(P:Program)(id:Nat)(ops:Array Oper)(K:FF->LL->Nat->Prop)(F:FF)(L:LL)(n:Nat):Prop where
 run:∀a W,St g F L n a W->(Code.region id ops true).wp P (Qn g K) a W
mutual
def cK(ρ:Nat->Nat):SV->SV
 | .ptr l o=> .ptr (ρ l) o
 | .gM l o=> .gM (ρ l) o
 | .slice l o n c=> .slice (ρ l) o n c
 | .fn f a b=> .fn f (bj ρ a) (bj ρ b)
 | .agg cs=> .agg (bj ρ cs)
 | .aR vs=> .aR (bj ρ vs)
 |v=>v
def bj(ρ:Nat->Nat):List SV->List SV
 | []=> []
 |v::vs=>cK ρ v::bj ρ vs
end
mutual
theorem Dj(β ρ:Nat->Nat):∀v,den β (cK ρ v)=den (fun l=>β (ρ l)) v
 | .ptr _ _| .gM _ _| .slice _ _ _ _| .bool _| .int _ _| .str _| .cR| .au| .aH| .raw _=>by simp[cK,den]
 | .fn _ a b=>by simp only[cK,den,qU β ρ a,qU β ρ b]
 | .agg cs=>by simp only[cK,den,qU β ρ cs]
 | .aR vs=>by simp only[cK,den,qU β ρ vs]
theorem qU(β ρ:Nat->Nat):∀l,aM β (bj ρ l)=aM (fun l=>β (ρ l)) l
 | []=>rfl
 |v::vs=>by simp only[bj,aM,Dj β ρ v,qU β ρ vs]
end
theorem K5(ρ:Nat->Nat):∀l,(bj ρ l).length=l.length
 | []=>rfl
 |v::vs=>by rw[bj,mU,mU,K5 ρ vs]
def Hh(ρ:Nat->Nat)(n':Nat)(F:FF):FF->Prop
 | []=>True
 |(t,v)::F'=>look F t=some (cK ρ v)/\bd (fun l=>l<n') v/\Hh ρ n' F F'
def EZ(ρ:Nat->Nat)(n0 n':Nat)(L:LL):LL->Prop
 | []=>True
 |b::L'=>find L (ρ b.l)=some ⟨ρ b.l,bj ρ b.cs,b.t⟩/\Nat.blt b.l n'=true/\(Nat.blt b.l n0||Nat.ble n0 (ρ b.l))=true/\ay (fun l=>l<n') b.cs/\EZ ρ n0 n' L L'
def tC:List Nat->Bool
 | []=>true
 |x::xs=>(!eo xs x)&&tC xs
def below(f:Nat->Bool):Nat->Bool
 |0=>true
 |n+1=>f n&&below f n
def tW(n0:Nat)(ρ:Nat->Nat)(F':FF)(L':LL)(n':Nat)(F:FF)(L:LL)(_:Nat):Prop:=
 Hh ρ n' F F'/\EZ ρ n0 n' L L'/\tC (L'.map fun b=>ρ b.l)=true/\Nat.ble n0 n'=true/\below (fun l=>Nat.beq (ρ l) l) n0=true
theorem Xj{ρ:Nat->Nat}{n':Nat}{F F':FF}(h:Hh ρ n' F F'){t:Nat}{v:SV}(hv:look F' t=some v):look F t=some (cK ρ v)/\bd (fun l=>l<n') v:=by
 induction F' with
 |nil=>simp[look]at hv
 |cons p F' ih=>
  obtain⟨s,u⟩:=p
  simp only[Hh]at h
  simp only[look]at hv
  by_cases hs:s=t
  ·rw[aj hs]at hv
   obtain rfl:=ef hv
   exact⟨hs▸h.1,h.2.1⟩
  ·rw[af hs]at hv
   exact ih h.2.2 hv
theorem E2{ρ:Nat->Nat}{n0 n':Nat}{L L':LL}(h:EZ ρ n0 n' L L'){b:aC}(hb:b∈L'):find L (ρ b.l)=some ⟨ρ b.l,bj ρ b.cs,b.t⟩/\b.l<n'/\(n0<=b.l->n0<=ρ b.l)/\ay (fun l=>l<n') b.cs:=by
 induction L' with
 |nil=>cases hb
 |cons c L' ih=>
  simp only[EZ]at h
  rcases List.mem_cons.1 hb with rfl|hb
  ·refine⟨h.1,g_ h.2.1,fun h2=> ?_,h.2.2.2.1⟩
   have:=h.2.2.1
   simp only[Fa]at this
   rcases this with h3|h3
   ·have:=g_ h3;omega
   ·exact g_ h3
  ·exact ih h.2.2.2.2 hb
theorem alE{l:List Nat}(h:tC l=true):l.Nodup:=by
 induction l with
 |nil=>simp
 |cons x xs ih=>
  simp only[tC,dq,Yb]at h
  refine PW.2 ⟨fun hx=> ?_,ih h.2⟩
  have:eo xs x=true:=by
   clear ih
   have h2:=hx
   clear h hx
   induction xs with
   |nil=>cases h2
   |cons y ys ih=>
    simp only[eo]
    by_cases hy:y=x
    ·simp[hy]
    ·rw[af hy]
     exact ih ((Fg.1 h2).resolve_left (fun e=>hy e.symm))
  rw[h.1]at this
  cases this
theorem Fs{f:Nat->Bool}{n l:Nat}(h:below f n=true)(hl:l<n):f l=true:=by
 induction n with
 |zero=>omega
 |succ n ih=>
  simp only[below,dq]at h
  by_cases e:l=n
  ·subst e;exact h.1
  ·exact ih h.2 (by omega)
theorem alW{l:LL}{f:aC->Nat}(h:(l.map f).Nodup){b c:aC}(hb:b∈l)(hc:c∈l)(he:f b=f c):b=c:=by
 induction l with
 |nil=>cases hb
 |cons x xs ih=>
  simp only[ve,PW]at h
  rcases List.mem_cons.1 hb with hb|hb<;>rcases List.mem_cons.1 hc with hc|hc
  ·rw[hb,hc]
  ·exact(h.1 (iZ.2 ⟨c,hc,by rw[<-he,hb]⟩)).elim
  ·exact(h.1 (iZ.2 ⟨b,hb,by rw[he,hc]⟩)).elim
  ·exact ih h.2 hb hc
theorem Mem.dj{g:G}{β ρ:Nat->Nat}{L L':LL}{n n':Nat}{W:World}(hm:Mem g β (find L) (fun l=>l<n) W)(hL:EZ ρ g.n0 n' L L')(JT:tC (L'.map fun b=>ρ b.l)=true)(hn:Nat.ble g.n0 n'=true)(hb:below (fun l=>Nat.beq (ρ l) l) g.n0=true):
 Mem g (fun l=>β (ρ l)) (find L') (fun l=>l<n') W:=by
 have D0:=g_ hn
 refine⟨fun l hl=>cg hl D0,?_,?_,?_,?_,?_,hm.up⟩
 ·intro l hl
  have:=vj (Fs (f:=fun l=>Nat.beq (ρ l) l) hb hl)
  show β (ρ l)=_
  rw[this];exact hm.fC l hl
 ·intro l b h hl
  obtain⟨n_,rfl⟩:=nT h
  obtain⟨h1,_,h3,_⟩:=E2 hL n_
  exact hm.new _ _ h1 (h3 hl)
 ·intro l b l' b' h h' ho he
  obtain⟨n_,rfl⟩:=nT h
  obtain⟨aaO,rfl⟩:=nT h'
  have d_:own g.n0 g.ms (ρ b.l)=true:=by
   by_cases h0:b.l<g.n0
   ·rw[vj (Fs (f:=fun l=>Nat.beq (ρ l) l) hb h0)];exact ho
   ·unfold own
    rw[oD ((E2 hL n_).2.2.1 (by omega))]
  have:=hm.inj _ _ _ _ (E2 hL n_).1 (E2 hL aaO).1 d_ he
  have:=alW (f:=fun b=>ρ b.l) (alE JT) n_ aaO this
  rw[this]
 ·intro l b h
  obtain⟨n_,rfl⟩:=nT h
  obtain⟨m,h1,h2⟩:=hm.cell _ _ (E2 hL n_).1
  rw[qU]at h2
  refine⟨m,fun ho=> ?_,h2⟩
  rw[K5]at h1
  refine h1 ?_
  by_cases h0:b.l<g.n0
  ·show own g.n0 g.ms (ρ b.l)=true
   rw[vj (Fs (f:=fun l=>Nat.beq (ρ l) l) hb h0)];exact ho
  ·show own g.n0 g.ms (ρ b.l)=true
   unfold own
   rw[oD ((E2 hL n_).2.2.1 (by omega))]
 ·intro l b h
  obtain⟨n_,rfl⟩:=nT h
  obtain⟨_,h2,_,h4⟩:=E2 hL n_
  exact⟨h2,h4⟩
theorem St.dj{g:G}{ρ:Nat->Nat}{F' F:FF}{L' L:LL}{n' n:Nat}{a:Act}{W:World}(h:tW g.n0 ρ F' L' n' F L n)(hs:St g F L n a W):St g F' L' n' a W:=by
 obtain⟨β,hm,hf⟩:=hs
 obtain⟨hF,hL,JT,hn,hb⟩:=h
 refine⟨fun l=>β (ρ l),hm.dj hL JT hn hb,⟨hf.size,hf.defs,?_,?_⟩⟩
 ·intro t v hv
  exact(Xj hF hv).2
 ·intro t v hv
  have:=hf.fr t _ (Xj hF hv).1
  rw[Dj]at this
  exact this
section
variable (T:Nat->Option Ty)(A:Ar)(P:Program)(g:G)(n0:Nat)(ms:List Nat)
def al8(next:FF->LL->Nat->Prop)(Q:Exit->FF->LL->Nat->Prop):Exit->FF->LL->Nat->Prop
 | .normal=>next
 | .exit i=>Q (.exit i)
 | .goto l=>Q (.goto l)
 | .ret=>Q .ret
 | .panic c=>Q (.panic c)
 | .outgrown=>Q .outgrown
def acV(id:Nat)(Q:Exit->FF->LL->Nat->Prop):Exit->FF->LL->Nat->Prop
 | .exit i=>match Nat.beq i id with
   |true=>Q .normal
   |false=>Q (.exit i)
 | .normal=>Q .normal
 | .goto l=>Q (.goto l)
 | .ret=>Q .ret
 | .panic c=>Q (.panic c)
 | .outgrown=>Q .outgrown
def Vl(I:FF->LL->Nat->Prop)(Q:Exit->FF->LL->Nat->Prop):Exit->FF->LL->Nat->Prop
 | .normal=>I
 | .exit i=>Q (.exit i)
 | .goto l=>Q (.goto l)
 | .ret=>Q .ret
 | .panic c=>Q (.panic c)
 | .outgrown=>Q .outgrown
structure PZ(n0:Nat)(c:Code)(body:(Exit->FF->LL->Nat->Prop)->FF->LL->Nat->Prop)(Q:Exit->FF->LL->Nat->Prop)(F:FF)(L:LL)(n:Nat):Prop where
 out:∃ (σ:Type) (ok:σ->Prop) (m:σ->Nat) (IF:σ->FF) (IL:σ->LL) (nI:Nat),(∃s ρ,ok s/\tW n0 ρ (IF s) (IL s) nI F L n)/\
  ∀s,ok s->body (Vl (fun F' L' n'=>∃s' ρ,ok s'/\m s'<m s/\tW n0 ρ (IF s') (IL s') nI F' L' n') Q) (IF s) (IL s) nI
def zd:Code->(Exit->FF->LL->Nat->Prop)->FF->LL->Nat->Prop
 | .skip,Q,F,L,n=>Q .normal F L n
 | .region id ops draw,Q,F,L,n=>match draw with
   |false=>u7 T A P g n0 ms ops.toList ops.toList (Q .normal) F L n
   |true=>tV g P id ops (Q .normal) F L n
 | .seq x y,Q,F,L,n=>zd x (al8 (zd y Q) Q) F L n
 | .cond c x y,Q,F,L,n=>match ev (look F) c with
   |some (.bool t)=>match t with
    |true=>zd x Q F L n
    |false=>zd y Q F L n
   |_=>False
 | .block id c,Q,F,L,n=>zd c (acV id Q) F L n
 | .loop c,Q,F,L,n=>PZ n0 c (zd c) Q F L n
 | .exit id,Q,F,L,n=>Q (.exit id) F L n
 | .ret,Q,F,L,n=>Q .ret F L n
 |_,_,_,_,_=>False
def yf(N:Nat):Code->Bool
 | .region _ ops _=>ops.toList.all fun o=>match o.dst with
   |some d=>Nat.blt d N
   |none=>true
 | .seq x y| .cond _ x y=>yf N x&&yf N y
 | .block _ c| .loop c| .scope c=>yf N c
 |_=>true
end
section
variable {T:Nat->Option Ty}{P:Program}{g:G}{n0:Nat}{ms:List Nat}
theorem aey(hT:cI P T)(h0:g.n0=n0)(h1:g.ms=ms){all:List Oper}{K:FF->LL->Nat->Prop}:∀ {rest:List Oper},(∀o∈rest,∀t,o.dst=some t->t<g.N)->∀ {F:FF} {L:LL} {n:Nat},u7 T Ar.real P g n0 ms all rest K F L n->
 ∀ {a:Act} {W:World},St g F L n a W->wpList P all.toArray (Qn g K) rest a W
 | [],_,F,L,n,h,a,W,hs=>⟨F,L,n,h,hs⟩
 |o::rest,hd,F,L,n,h,a,W,hs=>by
  have qk:=hd o kd
  have ih:= @aey hT h0 h1 all K rest (fun o ho=>hd o (lj _ ho))
  have exec:Ll T Ar.real P g n0 ms o (u7 T Ar.real P g n0 ms all rest K) F L n->o.wp P a W (wpList P all.toArray (Qn g K) rest) (Qn g K):=fun h2=>
   (aq' hT h0 h1 qk h2).run a W hs _ _ fun F' L' n' a' W' hk b9=>ih hk b9
  have skip:u7 T Ar.real P g n0 ms all rest K (cH F o.dst (.raw undef)) L n->wpList P all.toArray (Qn g K) rest (a.put o.dst undef) W:=fun h2=>by
   obtain⟨β,hm,hf⟩:=hs
   exact ih h2 ⟨β,hm,by rw[yU];exact hf.put qk (v:= .raw undef) (by simp[bd])⟩
  simp only[u7]at h
  unfold wpList
  cases l7:o.guard with
  |none=>
   simp only[l7]at h
   rw[aj (by simp[Region.wanted,l7])]
   exact .inl (exec h)
  |some p=>
   obtain⟨j,b⟩:=p
   simp only[l7]at h
   cases hj:all[j]? with
   |none=>simp[hj]at h
   |some oj=>
    simp only[hj]at h
    cases pr:oj.dst with
    |none=>simp[pr]at h
    |some d=>
     simp only[pr]at h
     cases hl:look F d with
     |none=>simp[hl]at h
     |some v=>
      cases v with
      |bool x=>
       have hy:yielded all.toArray a.tmps j=some x:=by
        obtain⟨β,hm,hf⟩:=hs
        have:=hf.fr d _ hl
        unfold yielded
        simp[hj,pr,this,den]
       simp only[hl]at h
       cases x<;>cases b<;>simp only at h
       ·rw[aj (by simp[Region.wanted,l7,hy])];exact .inl (exec h)
       ·rw[af (by simp[Region.wanted,l7,hy])];exact skip h
       ·rw[af (by simp[Region.wanted,l7,hy])];exact skip h
       ·rw[aj (by simp[Region.wanted,l7,hy])];exact .inl (exec h)
      |raw u=>
       simp only[hl]at h
       cases hu:Vd u with
       |false=>simp[hu]at h
       |true=>
        simp only[hu]at h
        have hy:yielded all.toArray a.tmps j=none:=by
         obtain⟨β,hm,hf⟩:=hs
         have:=hf.fr d _ hl
         unfold yielded
         cases u<;>simp_all [den,Vd]
        rw[af (by simp[Region.wanted,l7,hy])];exact skip h
      |_=>simp[hl]at h
theorem aq7(hT:cI P T)(h0:g.n0=n0)(h1:g.ms=ms):∀ {c:Code} {Q:Exit->FF->LL->Nat->Prop},yf g.N c=true->∀ {F:FF} {L:LL} {n:Nat},zd T Ar.real P g n0 ms c Q F L n->
 ∀ {a:Act} {W:World},St g F L n a W->c.wp P (up g Q) a W:=by
 intro c
 induction c with
 |skip=>intro Q _ F L n h a W hs;exact wp_skip ⟨F,L,n,h,hs⟩
 |exit id=>intro Q _ F L n h a W hs;exact wp_exit ⟨F,L,n,h,hs⟩
 |ret=>intro Q _ F L n h a W hs;exact wp_ret ⟨F,L,n,h,hs⟩
 |region id ops draw=>
  intro Q hd F L n h a W hs
  have fin:∀e a' W',Qn g (Q .normal) e a' W'->up g Q e a' W':=by
   intro e a' W' hq
   cases e<;>first|exact hq|exact hq.elim
  cases draw with
  |true=>exact wp_mono (tV.run h a W hs) fin
  |false=>
   refine wp_mono (wp_region_list ?_) fin
   have:=aey hT h0 h1 (all:=ops.toList) (K:=Q .normal) (rest:=ops.toList) (fun o ho t ht=>by
    simp only[yf,gf]at hd
    have:=hd o ho
    simp only[ht]at this
    exact g_ this) (show u7 T Ar.real P g n0 ms ops.toList ops.toList (Q .normal) F L n from h) hs
   simpa using this
 |seq x y Up Uq=>
  intro Q hd F L n h a W hs
  simp only[yf,dq]at hd
  refine wp_seq (wp_mono (Up hd.1 h hs) ?_)
  rintro e a' W' ⟨F',L',n',hq,b9⟩
  cases e with
  |normal=>exact Uq hd.2 hq b9
  |_=>exact⟨F',L',n',hq,b9⟩
 |cond c x y Up Uq=>
  intro Q hd F L n h a W hs
  simp only[yf,dq]at hd
  simp only[zd]at h
  cases he:ev (look F) c with
  |none=>simp[he]at h
  |some v=>
   have gk:=hs
   obtain⟨β,hm,hf⟩:=gk
   obtain⟨e0,_⟩:=cq hf he
   cases v with
   |bool t=>
    simp only[he]at h
    cases t with
    |true=>exact wp_cond (t:=true) (by rw[e0];rfl) (Up hd.1 h hs)
    |false=>exact wp_cond (t:=false) (by rw[e0];rfl) (Uq hd.2 h hs)
   |_=>simp[he]at h
 |block id c ih=>
  intro Q hd F L n h a W hs
  refine wp_block (wp_mono (ih hd h hs) ?_)
  rintro e a' W' ⟨F',L',n',hq,b9⟩
  cases e with
  |exit i=>
   simp only[acV]at hq
   simp only[Exit.inBlock]
   cases hb:Nat.beq i id with
   |true=>
    simp only[hb]at hq
    rw[aj (vj hb)]
    exact⟨F',L',n',hq,b9⟩
   |false=>
    simp only[hb]at hq
    rw[af (fun e=>by rw[e,zk]at hb;cases hb)]
    exact⟨F',L',n',hq,b9⟩
  |_=>exact⟨F',L',n',hq,b9⟩
 |loop c ih=>
  intro Q hd F L n h a W hs
  obtain⟨⟨σ,ok,m,IF,IL,nI,⟨s0,ρ0,aj3,mL⟩,hr⟩⟩:=h
  subst h0
  have st0:St g (IF s0) (IL s0) nI a W:=hs.dj mL
  have key:∀k:Nat,∀s,m s=k->ok s->∀a W,St g (IF s) (IL s) nI a W->∀b kk cs,∃e a' w',up g Q e a' w'/\Arrives P (lone (b.at a (.code c:: .inLoop c::kk)) cs W) b kk cs e a' w':=by
   intro k
   induction k using Nat.strongRecOn with
   |_ k ihk=>
    intro s gk jf a W aW b kk cs
    obtain⟨e,a1,W1,hq,BE⟩:=ih (show yf g.N c=true from hd) (hr s jf) aW b (.inLoop c::kk) cs
    obtain⟨F',L',n',hq,BV⟩:=hq
    cases e with
    |normal=>
     obtain⟨s',ρ,aj2,ab,hw⟩:=hq
     obtain⟨e2,a2,W2,gv,aji⟩:=ihk (m s') (by omega) s' rfl aj2 a1 W1 (BV.dj hw) b kk cs
     exact⟨e2,a2,W2,gv,.of_steps (Steps.trans BE (.one step_inLoop)) aji⟩
    |exit id=>exact⟨_,a1,W1,⟨F',L',n',hq,BV⟩,.pass (x:= .inLoop c) rfl (fun _ _=> .inl (by simp)) BE⟩
    |goto l=>exact⟨_,a1,W1,⟨F',L',n',hq,BV⟩,.pass (x:= .inLoop c) rfl (fun _ _=> .inl (by simp)) BE⟩
    |ret=>exact⟨_,a1,W1,⟨F',L',n',hq,BV⟩,.pass (x:= .inLoop c) rfl (fun _ _=> .inl (by simp)) BE⟩
    |panic ch=>exact⟨_,a1,W1,⟨F',L',n',hq,BV⟩,.pass (x:= .inLoop c) rfl (fun _ _=> .inl (by simp)) BE⟩
    |outgrown=>exact⟨_,a1,W1,⟨F',L',n',hq,BV⟩,.pass (x:= .inLoop c) rfl (fun _ _=> .inl (by simp)) BE⟩
  intro b kk cs
  obtain⟨e,a',w',hq,BE⟩:=key _ s0 rfl aj3 a W st0 b kk cs
  exact⟨e,a',w',hq,.of_steps (.one step_loop) BE⟩
 |_=>intro Q _ F L n h;exact h.elim
end
end Go.Vg
namespace Go.Vg
open Go.RowKit
structure YF(β:Nat->Nat)(L:LL)(ms:List Nat)(W:World):Prop where
 inj:∀b∈L,∀c∈L,eo ms b.l=true->β b.l=β c.l->b.l=c.l
 cell:∀b∈L,∃m,(eo ms b.l=true->rO m b.cs.length)/\W.heap[β b.l]? =some (.cells (aM β b.cs).toArray b.t m)
def u_(P:Program)(f:FuncId):Prop:=∃fn,P.funcs[f]? =some fn/\fn.body.isNone=false/\(fn.name== "runtime.NumGoroutine")=false
theorem u_.of{P:Program}{f:FuncId}{fn:Func}(h:P.funcs[f]? =some fn)(h2:(fn.body.isNone||fn.name== "runtime.NumGoroutine")=false):u_ P f:=by
 simp only[Bool.or_eq_false_iff]at h2
 exact⟨fn,h,h2.1,h2.2⟩
structure GI(g:G)(n0:Nat)(ms:List Nat)(N:Nat):Prop where
 n0:g.n0=n0
 ms:g.ms=ms
 N:g.N=N
def dD(N:Nat)(d:Option Nat):Bool:=
 match d with
 |some d=>Nat.blt d N
 |none=>true
theorem GI.dst{g:G}{n0:Nat}{ms:List Nat}{N:Nat}(h:GI g n0 ms N){d:Option Nat}(hd:dD N d=true):∀t,d=some t->t<g.N:=by
 rintro t rfl
 rw[h.N]
 exact g_ hd
def ah(P:Program)(f:FuncId)(args:List SV)(Lp:LL)(n0:Nat)(ms:List Nat)(R:SV->LL->Nat->Prop):Prop:=
 u_ P f/\∀ (kt:Nat->Nat) (W0:World),YF kt Lp ms W0->Calls P f (aM kt args).toArray W0 fun e W=>∃v L n β,R v L n/\e= .returned (den β v)/\bd (fun l=>l<n) v/\Mem ⟨W0,kt,n0,0,ms⟩ β (find L) (fun l=>l<n) W
def O7(T:Nat->Option Ty)(A:Ar)(F:FF)(L:LL):ResultVar->Option SV
 | .tmp t=>look F t
 | .cell a t=>match look F a with
   |some v=>match T t with
    |some i=>rd A (find L) i v
    |none=>none
   |none=>none
def Cr(T:Nat->Option Ty)(A:Ar)(F:FF)(L:LL):List ResultVar->Option (List SV)
 | []=>some []
 |r::rs=>match O7 T A F L r with
  |some v=>match Cr T A F L rs with
   |some vs=>some (v::vs)
   |none=>none
  |none=>none
def Vm:List SV->SV
 | [v]=>v
 |vs=> .aR vs
def O8(T:Nat->Option Ty)(A:Ar)(rs:List ResultVar)(R:SV->LL->Nat->Prop)(F:FF)(L:LL)(n:Nat):Prop:=
 match Cr T A F L rs with
 |some vs=>R (Vm vs) L n
 |none=>False
def adp(T:Nat->Option Ty)(A:Ar)(rs:List ResultVar)(R:SV->LL->Nat->Prop):Exit->FF->LL->Nat->Prop
 | .normal=>O8 T A rs R
 | .ret=>O8 T A rs R
 |_=>fun _ _ _=>False
def CX:Nat->List SV->FF
 |_,[]=> []
 |k,v::vs=>(k,v)::CX (k+1) vs
theorem abZ{k:Nat}{vs:List SV}{t:Nat}{v:SV}(h:look (CX k vs) t=some v):k<=t/\vs[t-k]? =some v:=by
 induction vs generalizing k with
 |nil=>simp[CX,look]at h
 |cons u vs ih=>
  simp only[CX,look]at h
  by_cases hk:k=t
  ·subst hk;rw[aj rfl]at h;simpa using h
  ·rw[af hk]at h
   obtain⟨h1,h2⟩:=ih h
   refine⟨by omega,?_⟩
   rw[show t-k=(t-(k+1))+1 by omega]
   simpa using h2
def G6(tmps:Array Value):ResultVar->Sem Value
 | .tmp t=>pure (tmps.getD t undef)
 | .cell x t=>do loadVar t (<-asAddr (tmps.getD x undef))
theorem apB(fn:Func)(tmps:Array Value):results fn tmps=(do let vs<-fn.results.mapM (G6 tmps);pure (if h:vs.size=1 then vs[0]else .tuple vs)):=by
 unfold results
 congr 1
def UE(n0:Nat)(Lp:LL):Bool:=Lp.all fun b=>Nat.blt b.l n0
section
variable {P:Program}{T:Nat->Option Ty}{g:G}{β:Nat->Nat}{F:FF}{L:LL}{n:Nat->Prop}{a:Act}{W:World}
theorem apz(hT:cI P T)(hm:Mem g β (find L) n W)(hf:eX g β (look F) n a){r:ResultVar}{v:SV}(h:O7 T Ar.real F L r=some v):
 (G6 a.tmps r).run P W= .ok (den β v) W/\bd n v:=by
 cases r with
 |tmp t=>
  have h1:=hf.fr t v h
  exact⟨by simp[G6,h1],hf.bF t v h⟩
 |cell x t=>
  simp only[O7]at h
  cases hx:look F x with
  |none=>simp[hx]at h
  |some u=>
   cases ht:T t with
   |none=>simp[hx,ht]at h
   |some i=>
    simp only[hx,ht]at h
    have h1:=hf.fr x u hx
    obtain⟨r1,r2⟩:=ada hT hm ht h
    refine⟨?_,r2⟩
    have hp:∃ad,den β u= .pointer (some ad):=by
     cases u<;>simp[rd]at h<;>exact⟨_,rfl⟩
    obtain⟨ad,had⟩:=hp
    rw[had]at r1
    simp only[Instr.loadAt,Instr.sureAddr,Sem.run_bind,Sem.run_pure,Result.andThen_ok]at r1
    have h2:a.tmps.getD x undef= .pointer (some ad):=by simp[h1,had]
    simp only[G6,Sem.run_bind,h2,asAddr,Sem.run_pure,Result.andThen_ok,r1]
theorem adm(hT:cI P T)(hm:Mem g β (find L) n W)(hf:eX g β (look F) n a):∀ {rs:List ResultVar} {vs:List SV},Cr T Ar.real F L rs=some vs->
 (rs.mapM (G6 a.tmps)).run P W= .ok (aM β vs) W/\ay n vs
 | [],vs,h=>by simp only[Cr,fc]at h;subst h;exact⟨by simp[aM],trivial⟩
 |r::rs,vs,h=>by
  simp only[Cr]at h
  cases h1:O7 T Ar.real F L r with
  |none=>simp[h1]at h
  |some v=>
   cases h2:Cr T Ar.real F L rs with
   |none=>simp[h1,h2]at h
   |some us=>
    simp only[h1,h2,fc]at h
    subst h
    obtain⟨e1,b1⟩:=apz hT hm hf h1
    obtain⟨e2,b2⟩:=adm hT hm hf h2
    refine⟨?_,b1,b2⟩
    rw[List.mapM_cons]
    simp only[Sem.run_bind,e1,Result.andThen_ok,e2,Sem.run_pure,aM]
theorem apC(hT:cI P T)(hm:Mem g β (find L) n W)(hf:eX g β (look F) n a){fn:Func}{rs:List ResultVar}(hr:fn.results.toList=rs){vs:List SV}(h:Cr T Ar.real F L rs=some vs):
 (results fn a.tmps).run P W= .ok (den β (Vm vs)) W/\bd n (Vm vs):=by
 obtain⟨e1,b1⟩:=adm hT hm hf h
 rw[apB,Array.mapM_eq_mapM_toList,hr]
 refine⟨?_,?_⟩
 ·have e2:(List.toArray<$>rs.mapM (G6 a.tmps)).run P W= .ok (aM β vs).toArray W:=by
   rw[Sem.run_map,e1];rfl
  simp only[Sem.run_bind,e2,Result.andThen_ok,Sem.run_pure]
  congr 1
  match vs with
  | []=>rfl
  | [v]=>rfl
  |u::v::vs=>rfl
 ·match vs,b1 with
  | [],_=>trivial
  | [v],b1=>exact b1.1
  |_::_::_,b1=>exact b1
theorem ah.of(hT:cI P T){f:FuncId}{fn:Func}{c:Code}{rs:List ResultVar}{N n0:Nat}{ms:List Nat}{args:List SV}{Lp:LL}{R:SV->LL->Nat->Prop}(hf:P.funcs[f]? =some fn)(hb:fn.body=some c)(mI:fn.results.toList=rs)
 (S5:(fn.body.isNone||fn.name== "runtime.NumGoroutine")=false) (hN:fn.ntmps=N) (hd:yf N c=true) (Gc:Nat.ble args.length N=true) (oP:UE n0 Lp=true) (SW:ay (fun l=>l<n0) args) (jD:∀b∈Lp,ay (fun l=>l<n0) b.cs)
 (h:∀ (A:Ar) (g:G) (K:SV->LL->Nat->Prop),A=Ar.real->GI g n0 ms N->(∀v L n,R v L n->K v L n)->zd T A P g n0 ms c (adp T A rs K) (CX 0 args) Lp n0):ah P f args Lp n0 ms R:=by
 refine⟨u_.of hf S5,?_⟩
 intro kt W0 tx
 simp only[UE,gf]at oP
 have hlen:args.length<=N:=g_ Gc
 let g:G:=⟨W0,kt,n0,N,ms⟩
 have ab:∀l b,find Lp l=some b->b∈Lp/\b.l=l/\l<n0:=fun l b h=>by
  obtain⟨h1,rfl⟩:=nT h
  exact⟨h1,rfl,g_ (oP b h1)⟩
 have hm:Mem g kt (find Lp) (fun l=>l<n0) W0:=by
  refine⟨fun _ h=>h,fun _ _=>rfl,?_,?_,?_,?_,⟨rfl,rfl,rfl,aE _,fun _ _ _=>rfl⟩⟩
  ·intro l b h hl
   obtain⟨_,_,h3⟩:=ab l b h
   have:n0<=l:=hl
   omega
  ·intro l b l' b' h h' ho he
   obtain⟨h1,rfl,h3⟩:=ab l b h
   obtain⟨h2,rfl,_⟩:=ab l' b' h'
   refine tx.inj b h1 b' h2 ?_ he
   unfold own at ho
   cases hq:Nat.ble n0 b.l with
   |true=>have:=g_ hq;omega
   |false=>simpa only[g,hq]using ho
  ·intro l b h
   obtain⟨h1,rfl,h3⟩:=ab l b h
   obtain⟨m,q1,q2⟩:=tx.cell b h1
   refine⟨m,fun ho=>q1 ?_,q2⟩
   unfold own at ho
   cases hq:Nat.ble n0 b.l with
   |true=>have:=g_ hq;omega
   |false=>simpa only[g,hq]using ho
  ·intro l b h
   obtain⟨h1,rfl,h3⟩:=ab l b h
   exact⟨h3,jD b h1⟩
 have BK:eX g kt (look (CX 0 args)) (fun l=>l<n0) {tmps:=(aM kt args).toArray++Array.replicate (fn.ntmps-(aM kt args).toArray.size) undef,defers:=[]}:=by
  refine⟨?_,rfl,?_,?_⟩
  ·simp[cO,hN,g];omega
  ·intro t v hv
   obtain⟨_,h2⟩:=abZ hv
   exact(gI _ _).1 SW v (CL h2)
  ·intro t v hv
   obtain⟨_,h2⟩:=abZ hv
   simp only[tU]at h2
   have ab:t<args.length:=(iN.1 h2).1
   rw[Array.getElem?_append_left (by simp[cO];omega)]
   simp[cO,h2]
 refine calls_of_wp hf hb (wp_mono (aq7 (g:=g) hT rfl rfl hd (h Ar.real g R rfl ⟨rfl,rfl,rfl⟩ (fun _ _ _ h=>h)) ⟨kt,hm,BK⟩) ?_)
 rintro e a' W' ⟨F',L',n',hq,β,fb,aT⟩
 have fin:O8 T Ar.real rs R F' L' n'->a'.defers=[]/\∃v,(results fn a'.tmps).run P W'= .ok v W'/\∃v' L n β,R v' L n/\Ending.returned v= .returned (den β v')/\bd (fun l=>l<n) v'/\Mem ⟨W0,kt,n0,0,ms⟩ β (find L) (fun l=>l<n) W':=by
  intro hk
  unfold O8 at hk
  cases hv:Cr T Ar.real F' L' rs with
  |none=>simp[hv]at hk
  |some vs=>
   simp only[hv]at hk
   obtain⟨r1,r2⟩:=apC hT fb aT mI hv
   exact⟨aT.defs,_,r1,_,_,_,β,hk,rfl,r2,⟨fb.low,fb.fC,fb.new,fb.inj,fb.cell,fb.bL,fb.up⟩⟩
 cases e with
 |normal=>exact fin hq
 |ret=>exact fin hq
 |_=>exact hq.elim
end
end Go.Vg
namespace Go.Vg
open Go.RowKit
theorem apI{P:Program}{f:FuncId}(h:u_ P f)(args:Array Value)(w:World):(callFunc f args).run P w= .ok (.enter f args) w:=by
 obtain⟨fn,h1,h2,h3⟩:=h
 have RF:¬fn.name= "runtime.NumGoroutine" :=by simpa using h3
 have RE:¬fn.body=none:=by intro e;rw[e]at h2;cases h2
 unfold callFunc
 simp[h1,RE,RF]
def callee(F:Nat->Option SV)(c:Call):Option (FuncId×List SV):=
 match c.callee with
 | .value f=>match ev F f with
   |some (.fn (.func f) a b)=>match lQ F c.args.toList with
    |some vs=>some (f,a++vs++b)
    |none=>none
   |_=>none
 |_=>none
section
variable {P:Program}{T:Nat->Option Ty}{g:G}{β:Nat->Nat}{F:FF}{L:LL}{n:Nat}{a:Act}{W:World}
theorem Di{F:Nat->Option SV}{q:Nat->Prop}(hf:eX g β F q a){o:Oper}{c:Call}(ho:o.op= .call c){f:FuncId}{args:List SV}(hc:callee F c=some (f,args))(lv:u_ P f):(execOp a.eval o).run P W= .ok (.enter f (aM β args).toArray) W/\ay q args:=by
 unfold callee at hc
 split at hc
 ·rename_i fo Td
  split at hc
  ·rename_i f' x y Ah
   cases iz:lQ F c.args.toList with
   |none=>simp[iz]at hc
   |some vs=>
    simp only[iz,fc,xT]at hc
    obtain⟨rfl,rfl⟩:=hc
    obtain⟨e0,b0⟩:=cq hf Ah
    obtain⟨e1,b1⟩:=MQ hf iz
    have m1:c.args.map a.eval=(aM β vs).toArray:=by rw[<-e1,<-CI]
    simp only[bd]at b0
    refine⟨?_,?_⟩
    ·unfold execOp
     have hr:(resolve a.eval c o.type).run P W= .ok {target:= .fn (.func f') (aM β y).toArray,args:=(aM β x).toArray++(aM β vs).toArray} W:=by
      unfold resolve
      simp[Td,e0,den,Deferred.ofValue,m1]
     have h2:=apI lv ((aM β x).toArray++(aM β vs).toArray++(aM β y).toArray) W
     simp only[ho,Sem.run_bind,hr,Result.andThen_ok,invoke,h2]
     simp[cO]
    ·rw[gI]
     intro v hv
     simp only[xN]at hv
     rcases hv with(hv|hv)|hv
     ·exact(gI _ _).1 b0.1 v hv
     ·exact(gI _ _).1 b1 v hv
     ·exact(gI _ _).1 b0.2 v hv
  ·cases hc
 ·cases hc
theorem zw.trans{W0 W1 W2:World}{M N:Nat->Prop}(h:zw W0 W1 M)(k:zw W1 W2 N)(hN:∀k,k<W0.heap.size->¬M k->¬N k):zw W0 W2 M:=
 ⟨k.os.trans h.os,k.tape.trans h.tape,k.output.trans h.output,eH h.size k.size,fun i hi hM=>(k.block i (cg hi h.size) (hN i hi hM)).trans (h.block i hi hM)⟩
theorem Mem.call{L:Nat->Option aC}{q:Nat->Prop}(hm:Mem g β L q W){W':World}{M:Nat->Prop}(hu:zw W W' M)(hM:∀k,¬M k):Mem g β L q W':=
 ⟨hm.low,hm.fC,hm.new,hm.inj,fun l b hb=>by
  obtain⟨m,h1,h2⟩:=hm.cell l b hb
  exact⟨m,h1,by rw[hu.block _ (x8 h2) (hM _)];exact h2⟩,hm.bL,hm.up.trans hu (fun k _ _=>hM k)⟩
def lu(ρ:Nat->Nat)(L:Nat->Option aC):LL->Prop
 | []=>True
 |b::Lp=>L (ρ b.l)=some ⟨ρ b.l,bj ρ b.cs,b.t⟩/\lu ρ L Lp
theorem FK{ρ:Nat->Nat}{L:Nat->Option aC}{Lp:LL}(h:lu ρ L Lp){b:aC}(hb:b∈Lp):L (ρ b.l)=some ⟨ρ b.l,bj ρ b.cs,b.t⟩:=by
 induction Lp with
 |nil=>cases hb
 |cons c Lp ih=>
  rcases List.mem_cons.1 hb with rfl|hb
  ·exact h.1
  ·exact ih h.2 hb
def Oj(mc:List Nat)(ρ:Nat->Nat)(Lp:LL):Bool:=Lp.all fun b=> !eo mc b.l||Lp.all fun c=> !Nat.beq (ρ b.l) (ρ c.l)||Nat.beq b.l c.l
theorem Ol(ρ:Nat->Nat)(Lp:LL):Oj [] ρ Lp=true:=gf.2 fun _ _=>rfl
theorem Ix{L:Nat->Option aC}{q:Nat->Prop}(hm:Mem g β L q W){ρ:Nat->Nat}{Lp:LL}{mc:List Nat}(h:lu ρ L Lp)(hi:Oj mc ρ Lp=true)(ho:∀m∈mc,own g.n0 g.ms (ρ m)=true):YF (fun l=>β (ρ l)) Lp mc W:=by
 refine⟨?_,?_⟩
 ·intro b hb c hc ti he
  have h1:=hm.inj _ _ _ _ (FK h hb) (FK h hc) (ho _ (AU ti)) he
  have h2:=gf.1 hi b hb
  rw[ti]at h2
  simp only[PN,Bb,gf]at h2
  have h3:=h2 c hc
  rw[h1,zk]at h3
  exact vj h3
 ·intro b hb
  obtain⟨m,h1,h2⟩:=hm.cell _ _ (FK h hb)
  rw[qU]at h2
  exact⟨m,fun ti=>by rw[K5]at h1;exact h1 (ho _ (AU ti)),h2⟩
theorem fT{o:Oper}{c:Call}(ho:o.op= .call c){m0 N:Nat}{ms:List Nat}(hg:GI g m0 ms N)(aA:dD N o.dst=true){f:FuncId}{us args:List SV}(hc:callee (look F) c=some (f,us)){Lp:LL}{n0:Nat}{R:SV->LL->Nat->Prop}(fg:ah P f args Lp n0 [] R)
 (ρ:Nat->Nat) (jh:us=bj ρ args) (l6:lu ρ (find L) Lp) {K:FF->LL->Nat->Prop} (hK:∀v L1 n1,R v L1 n1->bd (fun l=>l<n0) v/\bd (fun l=>l<n) (cK ρ v)/\K (cH F o.dst (cK ρ v)) L n):Step g P o K F L n:=by
 have hd:=hg.dst aA
 obtain⟨lv,fg⟩:=fg
 refine⟨?_⟩
 intro a W ⟨β,hm,hf⟩ next Q gj
 obtain⟨r1,r2⟩:=Di (P:=P) (W:=W) hf ho hc lv
 unfold Oper.wp
 rw[r1,Oper.upon_enter]
 have Ag:aM β us=aM (fun l=>β (ρ l)) args:=by rw[jh,qU]
 rw[Ag]
 refine(fg (fun l=>β (ρ l)) W (Ix hm l6 (Ol ρ Lp) (fun m h=>by cases h))).mono ?_
 rintro e W' ⟨v,L1,n1,jJ,hR,rfl,_,b_⟩
 obtain⟨b0,b1,hk⟩:=hK v L1 n1 hR
 have hv:den jJ v=den β (cK ρ v):=by
  rw[Dj]
  exact ue (fun l hl=>b_.fC l hl) v b0
 simp only[hv]
 exact gj _ _ _ _ _ hk ⟨β,hm.call b_.up (by rintro k ⟨l,hl,_⟩;cases hl),by rw[yU];exact hf.put hd b1⟩
theorem fe{o:Oper}{c:Call}(ho:o.op= .call c){m0 N:Nat}{ms:List Nat}(hg:GI g m0 ms N)(aA:dD N o.dst=true){f:FuncId}{args:List SV}(hc:callee (look F) c=some (f,args)){R:SV->LL->Nat->Prop}(fg:ah P f args [] 0 [] R)
 {K:FF->LL->Nat->Prop} (hK:∀v L1 n1,R v L1 n1->bd (fun _=>False) v/\K (cH F o.dst v) L n):Step g P o K F L n:=by
 have hd:=hg.dst aA
 obtain⟨lv,fg⟩:=fg
 refine⟨?_⟩
 intro a W ⟨β,hm,hf⟩ next Q gj
 obtain⟨r1,r2⟩:=Di (P:=P) (W:=W) hf ho hc lv
 unfold Oper.wp
 rw[r1,Oper.upon_enter]
 refine(fg β W ⟨fun b h=>(by cases h),fun b h=>(by cases h)⟩).mono ?_
 rintro e W' ⟨v,L1,n1,jJ,hR,rfl,_,b_⟩
 obtain⟨b0,hk⟩:=hK v L1 n1 hR
 have hv:den jJ v=den β v:=ue (p:=fun _=>False) (fun l hl=>hl.elim) v b0
 simp only[hv]
 exact gj _ _ _ _ _ hk ⟨β,hm.call b_.up (by rintro k ⟨l,hl,_⟩;cases hl),by rw[yU];exact hf.put hd (zz (fun l h=>h.elim) v b0)⟩
def nJ(ls:List Nat):LL->LL
 | []=> []
 |b::L=>match eo ls b.l with
  |true=>nJ ls L
  |false=>b::nJ ls L
theorem Ca{ms:List Nat}{l:Nat}:eo ms l=true↔l∈ms:=by
 constructor
 ·exact AU
 ·intro h
  induction ms with
  |nil=>cases h
  |cons m ms ih=>
   simp only[eo]
   by_cases hm:m=l
   ·rw[aj hm]
   ·rw[af hm]
    exact ih ((Fg.1 h).resolve_left fun e=>hm e.symm)
theorem FH{ls:List Nat}(l:Nat):find (nJ ls L) l=if eo ls l then none else find L l:=by
 induction L with
 |nil=>cases eo ls l<;>rfl
 |cons c L ih=>
  simp only[nJ]
  cases hc:eo ls c.l with
  |true=>
   simp only[ih,find]
   by_cases hl:c.l=l
   ·subst hl;simp[hc]
   ·rw[af hl]
  |false=>
   simp only[find,ih]
   by_cases hl:c.l=l
   ·subst hl;simp[hc]
   ·rw[af hl,af hl]
def eD(ρ:Nat->Nat)(n0 n:Nat)(l:Nat):Nat:=
 match Nat.blt l n0 with
 |true=>ρ l
 |false=>n+(l-n0)
theorem y_{ρ:Nat->Nat}{n0 n l:Nat}(h:l<n0):eD ρ n0 n l=ρ l:=by
 unfold eD
 rw[show Nat.blt l n0=true from oD h]
theorem VN{ρ:Nat->Nat}{n0 n l:Nat}(h:n0<=l):eD ρ n0 n l=n+(l-n0):=by
 unfold eD
 cases hb:Nat.blt l n0 with
 |false=>rfl
 |true=>have:=g_ hb;omega
def xq(n0:Nat):LL->List Nat
 | []=> []
 |b::L=>match Nat.blt b.l n0 with
  |true=>b.l::xq n0 L
  |false=>xq n0 L
theorem alq{n0 l:Nat}(hl:l<n0)(h:∃b∈L,b.l=l):l∈xq n0 L:=by
 induction L with
 |nil=>obtain⟨b,hb,_⟩:=h;cases hb
 |cons c L ih=>
  obtain⟨b,hb,e⟩:=h
  simp only[xq]
  rcases List.mem_cons.1 hb with rfl|hb
  ·rw[show Nat.blt b.l n0=true from oD (e▸hl)]
   rw[e];exact kd
  ·cases Nat.blt c.l n0 with
   |true=>exact lj _ (ih ⟨b,hb,e⟩)
   |false=>exact ih ⟨b,hb,e⟩
def aG(ρ:Nat->Nat):LL->LL
 | []=> []
 |b::L=>⟨ρ b.l,bj ρ b.cs,b.t⟩::aG ρ L
theorem Rh{ρ:Nat->Nat}{l:Nat}{c:aC}(h:find (aG ρ L) l=some c):∃b∈L,find L b.l=some b/\ρ b.l=l/\c=⟨ρ b.l,bj ρ b.cs,b.t⟩:=by
 induction L with
 |nil=>cases h
 |cons b L ih=>
  simp only[aG,find]at h
  by_cases hb:ρ b.l=l
  ·rw[aj hb]at h
   exact⟨b,kd,by simp[find],hb,(ef h).symm⟩
  ·rw[af hb]at h
   obtain⟨d,hd,h1,h2,h3⟩:=ih h
   refine⟨d,lj _ hd,?_,h2,h3⟩
   simp only[find]
   rw[af (fun e=>hb (by rw[e,h2]))]
   exact h1
mutual
theorem Mm{ρ:Nat->Nat}{n m:Nat->Prop}(h:∀l,n l->m (ρ l)):∀v,bd n v->bd m (cK ρ v)
 | .bool _,_| .int _ _,_| .str _,_| .cR,_| .au,_| .aH,_| .raw _,_=>by simp[bd,cK]
 | .ptr _ _,hv| .gM _ _,hv| .slice _ _ _ _,hv=>h _ (by simpa [bd]using hv)
 | .fn _ x y,hv=>by
   simp only[bd]at hv
   exact⟨C6 h x hv.1,C6 h y hv.2⟩
 | .agg cs,hv=>by simp only[bd]at hv;exact C6 h cs hv
 | .aR vs,hv=>by simp only[bd]at hv;exact C6 h vs hv
theorem C6{ρ:Nat->Nat}{n m:Nat->Prop}(h:∀l,n l->m (ρ l)):∀l,ay n l->ay m (bj ρ l)
 | [],_=>trivial
 |v::vs,hl=>by
  simp only[ay]at hl
  exact⟨Mm h v hl.1,C6 h vs hl.2⟩
end
theorem gQ{o:Oper}{c:Call}(ho:o.op= .call c){m0 N:Nat}{ms:List Nat}(hg:GI g m0 ms N)(aA:dD N o.dst=true){f:FuncId}{us args:List SV}(hc:callee (look F) c=some (f,us)){Lp:LL}{n0:Nat}{mc:List Nat}{R:SV->LL->Nat->Prop}(fg:ah P f args Lp n0 mc R)
 (ρ:Nat->Nat) (jh:us=bj ρ args) (l6:lu ρ (find L) Lp) (hi:Oj mc ρ Lp=true) (Um:below (fun l=>Nat.blt (ρ l) n) n0=true)
 (ti:mc.all (fun m=>own m0 ms (ρ m)&&eo (Lp.map aC.l) m&&Nat.blt m n0)=true) {K:FF->LL->Nat->Prop}
 (hK:∀v L1 n1,R v L1 n1->n0<=n1->L1.all (fun b=>Nat.ble n0 b.l||eo (Lp.map aC.l) b.l)=true/\
  K (cH F o.dst (cK (eD ρ n0 n) v)) (nJ (mc.map ρ++(xq n0 L1).map ρ) L++aG (eD ρ n0 n) L1) (n+(n1-n0))):Step g P o K F L n:=by
 have hd:=hg.dst aA
 rw[<-hg.n0,<-hg.ms]at ti
 obtain⟨lv,fg⟩:=fg
 refine⟨?_⟩
 intro a W ⟨β,hm,hf⟩ next Q gj
 obtain⟨r1,r2⟩:=Di (P:=P) (W:=W) hf ho hc lv
 unfold Oper.wp
 rw[r1,Oper.upon_enter]
 have Ag:aM β us=aM (fun l=>β (ρ l)) args:=by rw[jh,qU]
 rw[Ag]
 refine(fg (fun l=>β (ρ l)) W (Ix hm l6 hi (fun m h=>by
  have:=(gf.1 ti) m h
  simp only[dq]at this
  exact this.1.1))).mono ?_
 rintro e W' ⟨v,L1,n1,jJ,hR,rfl,q_,b_⟩
 have ajX:n0<=n1:=vk fun h=>iO n1 (b_.low n1 h)
 obtain⟨hL1,hk⟩:=hK v L1 n1 hR ajX
 have Tg:g.n0<=n:=vk fun h=>iO n (hm.low n h)
 obtain⟨γ,jW,uA⟩:∃γ:Nat->Nat,(∀l,l<n->γ l=β l)/\∀l,n<=l->γ l=jJ (n0+(l-n)):=⟨fun l=>if l<n then β l else jJ (n0+(l-n)),fun l hl=>aj hl,fun l hl=>af (by omega)⟩
 have rJ:∀l,l<n0->ρ l<n:=fun l hl=>g_ (Fs (f:=fun l=>Nat.blt (ρ l) n) Um hl)
 have gE:∀l,l<n1->γ (eD ρ n0 n l)=jJ l:=by
  intro l _
  by_cases h:l<n0
  ·rw[y_ h,jW _ (rJ l h)];exact(b_.fC l h).symm
  ·rw[VN (by omega),uA _ (by omega)];congr 1;omega
 have ab:∀l,l<n1->eD ρ n0 n l<n+(n1-n0):=by
  intro l hl
  by_cases h:l<n0
  ·rw[y_ h];have:=rJ l h;omega
  ·rw[VN (by omega)];omega
 have Ta:∀u,bd (fun l=>l<n1) u->den γ (cK (eD ρ n0 n) u)=den jJ u:=by
  intro u hu
  rw[Dj];exact ue gE u hu
 have hdL:∀us,ay (fun l=>l<n1) us->aM γ (bj (eD ρ n0 n) us)=aM jJ us:=by
  intro us hu
  rw[qU];exact nR gE us hu
 have Gq:∀k,(∃l∈mc,β (ρ l)=k)->∃m∈mc,m<n0/\own g.n0 g.ms (ρ m)=true/\(∃b∈Lp,b.l=m)/\k=β (ρ m):=by
  rintro k ⟨m,fb,rfl⟩
  have:=(gf.1 ti) m fb
  simp only[dq]at this
  obtain⟨b,hb,e⟩:=iZ.1 (AU this.1.2)
  exact⟨m,fb,g_ this.2,this.1.1,⟨b,hb,e⟩,rfl⟩
 have yG:∀b∈Lp,∃c,find L (ρ b.l)=some c:=fun b hb=>⟨_,FK l6 hb⟩
 have ajr:∀l b,find L l=some b->l∉(mc.map ρ)->W'.heap[β l]? =W.heap[β l]? :=by
  intro l b hb uD
  obtain⟨_,_,js⟩:=hm.cell l b hb
  refine b_.up.block _ (x8 js) ?_
  rintro⟨m,fb,e⟩
  obtain⟨m2,cU,_,As,⟨b2,cW,e2⟩,e3⟩:=Gq _ ⟨m,fb,rfl⟩
  have e':β (ρ m)=β l:=e
  obtain⟨c,hc⟩:=yG b2 cW
  have e5:=hm.inj _ _ _ _ hc hb (by rw[e2];exact As) (by rw[e2,<-e3,e'])
  exact uD (iZ.2 ⟨m2,cU,by rw[<-e5,e2]⟩)
 have M8:∀b∈L1,n0<=b.l\/(b.l<n0/\∃d∈Lp,d.l=b.l):=by
  intro b hb
  have:=(gf.1 hL1) b hb
  simp only[Fa]at this
  by_cases h:n0<=b.l
  ·exact Or.inl h
  ·rcases this with h2|h2
   ·exact(h (g_ h2)).elim
   ·obtain⟨d,aA,e⟩:=iZ.1 (AU h2)
    exact Or.inr ⟨by omega,d,aA,e⟩
 have eF:∀l b,find (nJ (mc.map ρ++(xq n0 L1).map ρ) L++aG (eD ρ n0 n) L1) l=some b->
  (find L l=some b/\l∉mc.map ρ/\l∉(xq n0 L1).map ρ)\/(∃b1∈L1,find L1 b1.l=some b1/\l=eD ρ n0 n b1.l/\b=⟨eD ρ n0 n b1.l,bj (eD ρ n0 n) b1.cs,b1.t⟩):=by
  intro l b h
  rw[fap,FH]at h
  cases wP:eo (mc.map ρ++(xq n0 L1).map ρ) l with
  |true=>
   simp only[wP,xk]at h
   obtain⟨b1,h1,h2,h3,h4⟩:=Rh h
   exact Or.inr ⟨b1,h1,h2,h3.symm,h4⟩
  |false=>
   have hn:l∉mc.map ρ++(xq n0 L1).map ρ:=fun h=>by rw[Ca.2 h]at wP;cases wP
   simp only[wP,LJ,GH]at h
   cases hq:find L l with
   |some c=>
    simp only[hq]at h
    exact Or.inl ⟨h,fun h=>hn (xN.2 (Or.inl h)),fun h=>hn (xN.2 (Or.inr h))⟩
   |none=>
    simp only[hq]at h
    obtain⟨b1,h1,h2,h3,h4⟩:=Rh h
    exact Or.inr ⟨b1,h1,h2,h3.symm,h4⟩
 have Ac:∀b1,find L1 b1.l=some b1->b1.l<n1/\ay (fun l=>l<n1) b1.cs:=fun b1 h=>b_.bL _ b1 h
 have aaS:∀l b b1,find L l=some b->l∉mc.map ρ->l∉(xq n0 L1).map ρ->b1∈L1->find L1 b1.l=some b1->(own g.n0 g.ms l=true\/own g.n0 g.ms (ρ b1.l)=true)->β l≠jJ b1.l:=by
  intro l b b1 hb uD wT cS gU ho e
  rcases M8 b1 cS with h|⟨h,d,aA,ed⟩
  ·obtain⟨_,_,js⟩:=hm.cell l b hb
   have k2:=x8 js
   rcases b_.new b1.l b1 gU h with k1|k1
   ·have k3:W.heap.size<=jJ b1.l:=k1
    omega
   ·obtain⟨m2,cU,_,As,⟨b2,cW,e2⟩,e3⟩:=Gq _ k1
    obtain⟨c,hc⟩:=yG b2 cW
    have e5:=hm.inj _ _ _ _ hc hb (by rw[e2];exact As) (by rw[e2,<-e3,e])
    exact uD (iZ.2 ⟨m2,cU,by rw[<-e5,e2]⟩)
  ·have k1:jJ b1.l=β (ρ b1.l):=b_.fC b1.l h
   obtain⟨c,hc⟩:=yG d aA
   have k2:l=ρ d.l:=by
    rcases ho with ho|ho
    ·exact hm.inj _ _ _ _ hb hc ho (by rw[e,k1,ed])
    ·exact(hm.inj _ _ _ _ hc hb (by rw[ed];exact ho) (by rw[e,k1,ed])).symm
   exact wT (iZ.2 ⟨b1.l,alq h ⟨b1,cS,rfl⟩,by rw[k2,ed]⟩)
 simp only[<-Ta v q_]
 refine gj _ _ _ _ _ hk ⟨γ,⟨fun l hl=>cg hl (by omega),?_,?_,?_,?_,?_,?_⟩,by rw[yU];exact(hf.mono jW (fun l hl=>cg hl (by omega))).put hd (Mm ab v q_)⟩
 ·intro l hl
  rw[jW l (by omega)];exact hm.fC l hl
 ·intro l b hb hl
  rcases eF l b hb with⟨h1,_⟩|⟨b1,cS,gU,rfl,rfl⟩
  ·rw[jW _ (hm.bL l b h1).1];exact hm.new l b h1 hl
  ·rw[gE _ (Ac b1 gU).1]
   rcases M8 b1 cS with h|⟨h,d,aA,e⟩
   ·have h2:=hm.up.size
    rcases b_.new b1.l b1 gU h with h1|h1
    ·exact Or.inl (eH h2 h1)
    ·obtain⟨m2,cU,_,As,⟨b2,cW,e2⟩,e3⟩:=Gq _ h1
     obtain⟨c,hc⟩:=yG b2 cW
     rw[e2]at hc
     rw[e3]
     rcases OU As with h|h
     ·exact hm.new _ c hc h
     ·by_cases h0:ρ m2<g.n0
      ·exact Or.inr ⟨ρ m2,h,(hm.fC _ h0).symm⟩
      ·exact hm.new _ c hc (by omega)
   ·rw[y_ h]at hl
    obtain⟨c,hc⟩:=yG d aA
    have h1:=hm.new _ c hc (by rw[e];exact hl)
    have h2:jJ b1.l=β (ρ b1.l):=b_.fC b1.l h
    rw[h2,<-e];exact h1
 ·intro l b l' b' hb h_ ho e
  rcases eF l b hb with⟨h1,h1m,IC⟩|⟨b1,cS,gU,rfl,rfl⟩<;>rcases eF l' b' h_ with⟨k1,k1m,k1'⟩|⟨c1,eA,pt,rfl,rfl⟩
  ·rw[jW _ (hm.bL l b h1).1,jW _ (hm.bL l' b' k1).1]at e
   exact hm.inj l b l' b' h1 k1 ho e
  ·rw[jW _ (hm.bL l b h1).1,gE _ (Ac c1 pt).1]at e
   exact(aaS l b c1 h1 h1m IC eA pt (Or.inl ho) e).elim
  ·rw[jW _ (hm.bL l' b' k1).1,gE _ (Ac b1 gU).1]at e
   by_cases ko:b1.l<n0
   ·rw[y_ ko]at ho
    exact(aaS l' b' b1 k1 k1m k1' cS gU (Or.inr ho) e.symm).elim
   ·obtain⟨_,_,js⟩:=hm.cell l' b' k1
    have k2:=x8 js
    rcases b_.new b1.l b1 gU (by show n0<=_;omega)with k3|k3
    ·have k4:W.heap.size<=jJ b1.l:=k3
     omega
    ·obtain⟨m2,cU,_,As,⟨b2,cW,e2⟩,e3⟩:=Gq _ k3
     obtain⟨c,hc⟩:=yG b2 cW
     have e5:=hm.inj _ _ _ _ hc k1 (by rw[e2];exact As) (by rw[e2,<-e3,e])
     exact(k1m (iZ.2 ⟨m2,cU,by rw[<-e5,e2]⟩)).elim
  ·rw[gE _ (Ac b1 gU).1,gE _ (Ac c1 pt).1]at e
   have hold:∀x∈L1,x.l<n0->∃d,find L (ρ x.l)=some d/\jJ x.l=β (ρ x.l)/\β (ρ x.l)<W.heap.size:=by
    intro x hx h
    rcases M8 x hx with h2|⟨_,d,aA,ed⟩
    ·omega
    ·obtain⟨c,hc⟩:=yG d aA
     rw[ed]at hc
     obtain⟨_,_,js⟩:=hm.cell _ c hc
     exact⟨c,hc,b_.fC x.l h,x8 js⟩
   by_cases ko:b1.l<n0
   ·obtain⟨d,k1,k2,k3⟩:=hold b1 cS ko
    rw[y_ ko]at ho⊢
    by_cases wH:c1.l<n0
    ·obtain⟨d',q1,q2,_⟩:=hold c1 eA wH
     rw[y_ wH]
     exact hm.inj _ _ _ _ k1 q1 ho (by rw[<-k2,<-q2,e])
    ·have q:=b_.inj _ _ _ _ pt gU (by
      show own n0 mc c1.l=true
      unfold own
      rw[oD (show n0<=c1.l by omega)]) e.symm
     omega
   ·rw[b_.inj _ _ _ _ gU pt (by
     show own n0 mc b1.l=true
     unfold own
     rw[oD (show n0<=b1.l by omega)]) e]
 ·intro l b hb
  rcases eF l b hb with⟨h1,h2,_⟩|⟨b1,cS,gU,rfl,rfl⟩
  ·obtain⟨m,q1,q2⟩:=hm.cell l b h1
   exact⟨m,q1,by rw[jW _ (hm.bL l b h1).1,ajr l b h1 h2,q2,nR jW _ (hm.bL l b h1).2]⟩
  ·obtain⟨m,q1,q2⟩:=b_.cell _ b1 gU
   refine⟨m,fun ho=> ?_,?_⟩
   ·show rO m (bj _ b1.cs).length
    rw[K5]
    by_cases ko:b1.l<n0
    ·rw[y_ ko]at ho
     rcases M8 b1 cS with h2|⟨_,d,aA,ed⟩
     ·omega
     obtain⟨c,hc⟩:=yG d aA
     rw[ed]at hc
     obtain⟨m0,p1,p2⟩:=hm.cell _ c hc
     have hk:jJ b1.l=β (ρ b1.l):=b_.fC b1.l ko
     rw[hk]at q2
     by_cases DZ:(⟨W,fun l=>β (ρ l),n0,0,mc⟩:G).mod (β (ρ b1.l))
     ·obtain⟨m2,cU,_,As,⟨b2,cW,e2⟩,e3⟩:=Gq _ DZ
      obtain⟨c2,dP⟩:=yG b2 cW
      rw[e2]at dP
      have e5:=hm.inj _ _ _ _ dP hc As e3.symm
      refine q1 ?_
      have h3:=gf.1 hi b2 cW
      rw[e2,Ca.2 cU]at h3
      simp only[PN,Bb,gf]at h3
      have h4:=h3 d aA
      rw[ed,e5,zk]at h4
      have h5:m2=b1.l:=vj (by simpa using h4)
      show own n0 mc b1.l=true
      unfold own
      cases Nat.ble n0 b1.l with
      |true=>rfl
      |false=>rw[<-h5];exact Ca.2 cU
     ·have h6:=b_.up.block _ (x8 p2) DZ
      rw[q2,p2]at h6
      simp only[fc,Obj.cells.injEq]at h6
      obtain⟨h7,_,rfl⟩:=h6
      have h8:b1.cs.length=c.cs.length:=by
       have:=aK Array.size h7
       simpa [cO]using this
      rw[h8];exact p1 ho
    ·refine q1 ?_
     show own n0 mc b1.l=true
     unfold own
     rw[oD (show n0<=b1.l by omega)]
   show W'.heap[γ (eD ρ n0 n b1.l)]? =some (.cells (aM γ (bj (eD ρ n0 n) b1.cs)).toArray b1.t m)
   rw[gE _ (Ac b1 gU).1,hdL _ (Ac b1 gU).2]
   exact q2
 ·intro l b hb
  rcases eF l b hb with⟨h1,_⟩|⟨b1,cS,gU,rfl,rfl⟩
  ·exact⟨cg (hm.bL l b h1).1 (by omega),pg (fun l hl=>cg hl (by omega)) _ (hm.bL l b h1).2⟩
  ·exact⟨ab _ (Ac b1 gU).1,C6 ab _ (Ac b1 gU).2⟩
 ·refine hm.up.trans b_.up ?_
  rintro k hk hM DZ
  obtain⟨m,fb,Gl,c_,⟨b,hb,eb⟩,rfl⟩:=Gq k DZ
  obtain⟨c,hc⟩:=yG b hb
  rw[eb]at hc
  rcases OU c_ with h|h
  ·rcases hm.new _ c hc h with h2|h2
   ·omega
   ·exact hM h2
  ·by_cases h0:ρ m<g.n0
   ·exact hM ⟨ρ m,h,(hm.fC _ h0).symm⟩
   ·rcases hm.new _ c hc (by omega)with h2|h2
    ·omega
    ·exact hM h2
end
end Go.Vg
namespace Go.Vg
open Go.RowKit
structure E where
 d:Option Nat
 v:SV
 nw:LL
 w:Option (Nat×Nat×List SV)
def fo{α:Type}(f:E->α->α)(D:Nat->Bool):Nat->List E->α->α
 |_,[],x=>x
 |k,e::es,x=>fo f D (k+1) es (if D k then f e x else x)
theorem aap{α:Type}{f:E->α->α}{D D':Nat->Bool}:∀ {es:List E} {s:Nat} {x:α},(∀k,s<=k->D k=D' k)->fo f D s es x=fo f D' s es x
 | [],_,_,_=>rfl
 |e::es,s,x,h=>by
  simp only[fo]
  rw[h s (aE _)]
  exact aap fun k hk=>h k (by omega)
theorem Iw{α:Type}{f:E->α->α}{D D':Nat->Bool}:∀ {es:List E} {s:Nat} {x:α},(∀k e,es[k]? =some e->D (s+k)=D' (s+k))->fo f D s es x=fo f D' s es x
 | [],_,_,_=>rfl
 |e::es,s,x,h=>by
  simp only[fo]
  have h0:=h 0 e rfl
  simp only[gY]at h0
  rw[h0]
  exact Iw fun k e' hk=>by rw[show s+1+k=s+(k+1) by omega];exact h (k+1) e' (by simpa using hk)
theorem Rl{α:Type}{f:E->α->α}{D:Nat->Bool}{e0:E}:∀ {es:List E} {s:Nat} {x:α},(∀k e,es[k]? =some e->D (s+k)=true->∀y,f e (f e0 y)=f e0 (f e y))->fo f D s es (f e0 x)=f e0 (fo f D s es x)
 | [],_,_,_=>rfl
 |e::es,s,x,h=>by
  simp only[fo]
  have h0:=h 0 e rfl
  have hr:∀k e',es[k]? =some e'->D (s+1+k)=true->∀y,f e' (f e0 y)=f e0 (f e' y):=fun k e' hk hD=>h (k+1) e' (by simpa using hk) (by rw[<-hD];congr 1;omega)
  by_cases hD:D s=true
  ·rw[aj hD,aj hD,h0 (by simpa using hD),Rl hr]
  ·rw[af hD,af hD,Rl hr]
def add(D:Nat->Bool)(i:Nat):Nat->Bool:=fun k=>if k=i then true else D k
theorem MV{α:Type}{f:E->α->α}{D:Nat->Bool}{i:Nat}{e0:E}(hD:D i=false):∀ {es:List E} {s:Nat} {x:α},s<=i->es[i-s]? =some e0->
 (∀k e,i<k->es[k-s]? =some e->D k=true->∀y,f e (f e0 y)=f e0 (f e y))->fo f (add D i) s es x=f e0 (fo f D s es x)
 | [],_,_,_,h,_=>by simp at h
 |e::es,s,x,hs,h,hc=>by
  simp only[fo]
  by_cases uH:s=i
  ·subst uH
   have he:e=e0:=by simpa using h
   subst he
   rw[show add D s s=true from aj rfl,aj rfl,hD,af (by simp)]
   rw[aap (D:=add D s) (D':=D) fun k hk=>af (by omega)]
   exact Rl fun k e' hk Dp=>hc (s+1+k) e' (by omega) (by rw[show s+1+k-s=k+1 by omega];simpa using hk) Dp
  ·rw[show add D i s=D s from af uH]
   exact MV hD (by omega) (by rw[show i-(s+1)=i-s-1 by omega];rw[show i-s=(i-s-1)+1 by omega]at h;simpa using h)
    (fun k e' hk fq Dp=>hc k e' hk (by rw[show k-s=(k-(s+1))+1 by omega];simpa using fq) Dp)
/-! slots-/
def ft(t:Nat)(e:E)(x:Option SV):Option SV:=if e.d=some t then some e.v else x
theorem MZ{D:Nat->Bool}{t:Nat}:∀ {es:List E} {s:Nat} {x:Option SV},(∀k e,es[k]? =some e->D (s+k)=true->e.d≠some t)->fo (ft t) D s es x=x
 | [],_,_,_=>rfl
 |e::es,s,x,h=>by
  simp only[fo]
  have hx:(if D s=true then ft t e x else x)=x:=by
   by_cases hD:D s=true
   ·rw[aj hD];exact af (h 0 e rfl hD)
   ·rw[af hD]
  rw[hx]
  exact MZ fun k e' hk Dp=>h (k+1) e' (by simpa using hk) (by rw[<-Dp];congr 1;omega)
theorem FL{D:Nat->Bool}{t:Nat}{e0:E}:∀ {es:List E} {s k:Nat} {x:Option SV},es[k]? =some e0->D (s+k)=true->e0.d=some t->(∀j e,es[j]? =some e->j≠k->e.d≠some t)->fo (ft t) D s es x=some e0.v
 | [],_,_,_,h,_,_,_=>by simp at h
 |e::es,s,k,x,h,hD,hd,hu=>by
  simp only[fo]
  cases k with
  |zero=>
   have he:e=e0:=by simpa using h
   subst he
   rw[aj (by simpa using hD)]
   rw[show ft t e x=some e.v from aj hd]
   exact MZ fun j e' hj _=>hu (j+1) e' (by simpa using hj) (by omega)
  |succ k=>
   exact FL (k:=k) (by simpa using h) (by rw[<-hD];congr 1;omega) hd fun j e' hj eM=>hu (j+1) e' (by simpa using hj) (by omega)
/-! blocks-/
def gl(l:Nat)(e:E)(x:Option aC):Option aC:=
 match e.w with
 |some (k,q,vs)=>if l=k then x.map fun b=>⟨b.l,splice b.cs q vs,b.t⟩else x
 |none=>match x with
  |some b=>some b
  |none=>find e.nw l
def pl(l:Nat)(e:E)(x:Prop):Prop:=x\/ ∃b∈e.nw,b.l=l
def aF(e:E)(F:Nat->Option SV):Nat->Option SV:=fun t=>ft t e (F t)
def aL(e:E)(L:Nat->Option aC):Nat->Option aC:=fun l=>gl l e (L l)
def aP(e:E)(p:Nat->Prop):Nat->Prop:=fun l=>pl l e (p l)
def FD(es:List E)(D:Nat->Bool)(F:Nat->Option SV):Nat->Option SV:=fun t=>fo (ft t) D 0 es (F t)
def LD(es:List E)(D:Nat->Bool)(L:Nat->Option aC):Nat->Option aC:=fun l=>fo (gl l) D 0 es (L l)
def PD(es:List E)(D:Nat->Bool)(p:Nat->Prop):Nat->Prop:=fun l=>fo (pl l) D 0 es (p l)
theorem vI{D:Nat->Bool}{l:Nat}:∀ {es:List E} {s:Nat} {x:Prop},fo (pl l) D s es x↔x\/ ∃k e,es[k]? =some e/\D (s+k)=true/\∃b∈e.nw,b.l=l
 | [],_,_=>by simp[fo]
 |e::es,s,x=>by
  simp only[fo]
  rw[vI]
  constructor
  ·rintro(h|⟨k,e',h1,h2,h3⟩)
   ·by_cases hD:D s=true
    ·rw[aj hD]at h
     rcases h with h|h
     ·exact Or.inl h
     ·exact Or.inr ⟨0,e,rfl,hD,h⟩
    ·rw[af hD]at h;exact Or.inl h
   ·exact Or.inr ⟨k+1,e',by simpa using h1,by rw[<-h2];congr 1;omega,h3⟩
  ·rintro(h|⟨k,e',h1,h2,h3⟩)
   ·left
    by_cases hD:D s=true
    ·rw[aj hD];exact Or.inl h
    ·rw[af hD];exact h
   ·cases k with
    |zero=>
     have he:e=e':=by simpa using h1
     subst he
     left
     rw[aj (by simpa using h2)]
     exact Or.inr h3
    |succ k=>exact Or.inr ⟨k,e',by simpa using h1,by rw[<-h2];congr 1;omega,h3⟩
theorem FI{L:LL}{l:Nat}{b:aC}(h:find L l=some b):∃c∈L,c.l=l:=⟨b,(nT h).1,(nT h).2⟩
theorem aaC{l:Nat}{D' D:Nat->Bool}(nn:Nat->Nat):∀ {es:List E} {s:Nat} {x' x:Option aC},(∀k e,es[k]? =some e->(∀b∈e.nw,nn (s+k)<=b.l/\b.l<nn (s+k+1))/\nn (s+k)<=nn (s+k+1))->
 (∀k e,es[k]? =some e->D' (s+k)=true->D (s+k)=true)->(∀k e,es[k]? =some e->D (s+k)=true->D' (s+k)=false->∀l' q vs,e.w=some (l',q,vs)->l'≠l)->(x'=none\/x'=x)->(∀b,x=some b->l<nn s)->
 ∀b,fo (gl l) D' s es x'=some b->fo (gl l) D s es x=some b
 | [],_,x',x,_,_,_,hx,_,b,h=>by
   simp only[fo]at h⊢
   rcases hx with rfl|rfl
   ·cases h
   ·exact h
 |e::es,s,x',x,hl,hs,hw,hx,hb,b,h=>by
  simp only[fo]at h⊢
  have shift:∀k,s+1+k=s+(k+1):=fun k=>by omega
  have kF:=hl 0 e rfl
  refine aaC nn (es:=es) (s:=s+1) (fun k e' hk=>by rw[shift,show s+(k+1)+1=s+(k+1)+1 from rfl];exact hl (k+1) e' (by simpa using hk)) (fun k e' hk hd=>by rw[shift]at hd⊢;exact hs (k+1) e' (by simpa using hk) hd)
   (fun k e' hk hd aA=>by rw[shift]at hd aA;exact hw (k+1) e' (by simpa using hk) hd aA) ?_ ?_ b h
  ·have iK:=hs 0 e rfl
   have mL:=hw 0 e rfl
   simp only[gY]at iK mL kF
   by_cases aA:D' s=true
   ·rw[aj aA,aj (iK aA)]
    unfold gl
    cases Ju:e.w with
    |some q=>
     obtain⟨k,q,vs⟩:=q
     simp only
     by_cases je:l=k
     ·rw[aj je,aj je]
      rcases hx with rfl|rfl
      ·left;rfl
      ·right;rfl
     ·rw[af je,af je];exact hx
    |none=>
     simp only
     rcases hx with rfl|rfl
     ·cases x with
      |none=>right;rfl
      |some c=>
       have:=hb c rfl
       cases hf:find e.nw l with
       |none=>left;rfl
       |some c'=>
        obtain⟨d,hd,e1⟩:=FI hf
        have:=(kF.1 d hd).1
        omega
     ·right;rfl
   ·rw[af aA]
    by_cases hd:D s=true
    ·rw[aj hd]
     have Ju:=mL hd (by simpa using aA)
     unfold gl
     cases hqw:e.w with
     |some q=>
      obtain⟨k,q,vs⟩:=q
      simp only
      rw[af (fun h=>Ju k q vs hqw h.symm)]
      exact hx
     |none=>
      simp only
      rcases hx with rfl|rfl
      ·left;rfl
      ·cases x' with
       |none=>left;rfl
       |some c=>right;rfl
    ·rw[af hd];exact hx
  ·intro c hc
   simp only[gY]at kF
   by_cases hd:D s=true
   ·rw[aj hd]at hc
    unfold gl at hc
    cases Ju:e.w with
    |some q=>
     obtain⟨k,q,vs⟩:=q
     rw[Ju]at hc
     simp only at hc
     have:∃d,x=some d:=by
      by_cases je:l=k
      ·rw[aj je]at hc
       obtain⟨d,hd,_⟩:=Fm.1 hc
       exact⟨d,hd⟩
      ·rw[af je]at hc;exact⟨c,hc⟩
     obtain⟨d,hd⟩:=this
     have:=hb d hd
     omega
    |none=>
     rw[Ju]at hc
     cases x with
     |some d=>have:=hb d rfl;omega
     |none=>
      simp only at hc
      obtain⟨d,hd,e1⟩:=FI hc
      have:=(kF.1 d hd).2
      omega
   ·rw[af hd]at hc
    have:=hb c hc
    omega
end Go.Vg
