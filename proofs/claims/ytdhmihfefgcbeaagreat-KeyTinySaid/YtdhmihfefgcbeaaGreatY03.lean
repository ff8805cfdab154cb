/-
  This text proves what these texts prove: VgH, VgI, VgJ, VgK. Conditions: those of each theorem.
-/
import Derived.RegionTactic
import Derived.StillTailTactics
import Derived.Test.YtdhmihfefgcbeaaGreatY02
set_option maxHeartbeats 8000000
set_option linter.all false
namespace Go.Vg
open Go.RowKit
def Qn(g:G)(K:FF->LL->Nat->Prop):Exit->Act->World->Prop
 | .normal,a,W=>∃F L n,K F L n/\St g F L n a W
 |_,_,_=>False
def up(g:G)(Q:Exit->FF->LL->Nat->Prop):Exit->Act->World->Prop:=fun e a W=>∃F L n,Q e F L n/\St g F L n a W
structure Reg(g:G)(P:Program)(id:Nat)(ops:Array Oper)(K:FF->LL->Nat->Prop)(F:FF)(L:LL)(n:Nat):Prop where
 run:∀a W,St g F L n a W->(Code.region id ops true).wp P (Qn g K) a W
mutual
def ren(ρ:Nat->Nat):SV->SV
 | .ptr l o=> .ptr (ρ l) o
 | .ptrS l o=> .ptrS (ρ l) o
 | .slice l o n c=> .slice (ρ l) o n c
 | .fn f a b=> .fn f (renL ρ a) (renL ρ b)
 | .agg cs=> .agg (renL ρ cs)
 | .tup vs=> .tup (renL ρ vs)
 |v=>v
def renL(ρ:Nat->Nat):List SV->List SV
 | []=> []
 |v::vs=>ren ρ v::renL ρ vs
end
mutual
theorem den_ren(β ρ:Nat->Nat):∀v,den β (ren ρ v)=den (fun l=>β (ρ l)) v
 | .ptr _ _| .ptrS _ _| .slice _ _ _ _| .bool _| .int _ _| .str _| .nilp| .nils| .nilfn| .raw _=>by simp[ren,den]
 | .fn _ a b=>by simp only[ren,den,denL_ren β ρ a,denL_ren β ρ b]
 | .agg cs=>by simp only[ren,den,denL_ren β ρ cs]
 | .tup vs=>by simp only[ren,den,denL_ren β ρ vs]
theorem denL_ren(β ρ:Nat->Nat):∀l,denL β (renL ρ l)=denL (fun l=>β (ρ l)) l
 | []=>rfl
 |v::vs=>by simp only[renL,denL,den_ren β ρ v,denL_ren β ρ vs]
end
theorem renL_length(ρ:Nat->Nat):∀l,(renL ρ l).length=l.length
 | []=>rfl
 |v::vs=>by rw[renL,List.length_cons,List.length_cons,renL_length ρ vs]
def wkF(ρ:Nat->Nat)(n':Nat)(F:FF):FF->Prop
 | []=>True
 |(t,v)::F'=>look F t=some (ren ρ v)/\bd (fun l=>l<n') v/\wkF ρ n' F F'
def wkL(ρ:Nat->Nat)(n0 n':Nat)(L:LL):LL->Prop
 | []=>True
 |b::L'=>find L (ρ b.l)=some ⟨ρ b.l,renL ρ b.cs,b.t⟩/\Nat.blt b.l n'=true/\(Nat.blt b.l n0||Nat.ble n0 (ρ b.l))=true/\bdL (fun l=>l<n') b.cs/\wkL ρ n0 n' L L'
def ndN:List Nat->Bool
 | []=>true
 |x::xs=>(!memN xs x)&&ndN xs
def below(f:Nat->Bool):Nat->Bool
 |0=>true
 |n+1=>f n&&below f n
def Weak(n0:Nat)(ρ:Nat->Nat)(F':FF)(L':LL)(n':Nat)(F:FF)(L:LL)(_:Nat):Prop:=
 wkF ρ n' F F'/\wkL ρ n0 n' L L'/\ndN (L'.map fun b=>ρ b.l)=true/\Nat.ble n0 n'=true/\below (fun l=>Nat.beq (ρ l) l) n0=true
theorem wkF_look{ρ:Nat->Nat}{n':Nat}{F F':FF}(h:wkF ρ n' F F'){t:Nat}{v:SV}(hv:look F' t=some v):look F t=some (ren ρ v)/\bd (fun l=>l<n') v:=by
 induction F' with
 |nil=>simp[look]at hv
 |cons p F' ih=>
  obtain⟨s,u⟩:=p
  simp only[wkF]at h
  simp only[look]at hv
  by_cases hs:s=t
  ·rw[if_pos hs]at hv
   obtain rfl:=Option.some.inj hv
   exact⟨hs▸h.1,h.2.1⟩
  ·rw[if_neg hs]at hv
   exact ih h.2.2 hv
theorem wkL_mem{ρ:Nat->Nat}{n0 n':Nat}{L L':LL}(h:wkL ρ n0 n' L L'){b:Blk}(hb:b∈L'):find L (ρ b.l)=some ⟨ρ b.l,renL ρ b.cs,b.t⟩/\b.l<n'/\(n0<=b.l->n0<=ρ b.l)/\bdL (fun l=>l<n') b.cs:=by
 induction L' with
 |nil=>cases hb
 |cons c L' ih=>
  simp only[wkL]at h
  rcases List.mem_cons.1 hb with rfl|hb
  ·refine⟨h.1,Nat.le_of_ble_eq_true h.2.1,fun h2=> ?_,h.2.2.2.1⟩
   have:=h.2.2.1
   simp only[Bool.or_eq_true]at this
   rcases this with h3|h3
   ·have:=Nat.le_of_ble_eq_true h3;omega
   ·exact Nat.le_of_ble_eq_true h3
  ·exact ih h.2.2.2.2 hb
theorem ndN_nodup{l:List Nat}(h:ndN l=true):l.Nodup:=by
 induction l with
 |nil=>simp
 |cons x xs ih=>
  simp only[ndN,Bool.and_eq_true,Bool.not_eq_true']at h
  refine List.nodup_cons.2 ⟨fun hx=> ?_,ih h.2⟩
  have:memN xs x=true:=by
   clear ih
   have h2:=hx
   clear h hx
   induction xs with
   |nil=>cases h2
   |cons y ys ih=>
    simp only[memN]
    by_cases hy:y=x
    ·simp[hy]
    ·rw[if_neg hy]
     exact ih ((List.mem_cons.1 h2).resolve_left (fun e=>hy e.symm))
  rw[h.1]at this
  cases this
theorem below_at{f:Nat->Bool}{n l:Nat}(h:below f n=true)(hl:l<n):f l=true:=by
 induction n with
 |zero=>omega
 |succ n ih=>
  simp only[below,Bool.and_eq_true]at h
  by_cases e:l=n
  ·subst e;exact h.1
  ·exact ih h.2 (by omega)
theorem nodup_inj{l:LL}{f:Blk->Nat}(h:(l.map f).Nodup){b c:Blk}(hb:b∈l)(hc:c∈l)(he:f b=f c):b=c:=by
 induction l with
 |nil=>cases hb
 |cons x xs ih=>
  simp only[List.map_cons,List.nodup_cons]at h
  rcases List.mem_cons.1 hb with hb|hb<;>rcases List.mem_cons.1 hc with hc|hc
  ·rw[hb,hc]
  ·exact(h.1 (List.mem_map.2 ⟨c,hc,by rw[<-he,hb]⟩)).elim
  ·exact(h.1 (List.mem_map.2 ⟨b,hb,by rw[he,hc]⟩)).elim
  ·exact ih h.2 hb hc
theorem Mem.weak{g:G}{β ρ:Nat->Nat}{L L':LL}{n n':Nat}{W:World}(hm:Mem g β (find L) (fun l=>l<n) W)(hL:wkL ρ g.n0 n' L L')(hni:ndN (L'.map fun b=>ρ b.l)=true)(hn:Nat.ble g.n0 n'=true)(hb:below (fun l=>Nat.beq (ρ l) l) g.n0=true):
 Mem g (fun l=>β (ρ l)) (find L') (fun l=>l<n') W:=by
 have hn':=Nat.le_of_ble_eq_true hn
 refine⟨fun l hl=>Nat.lt_of_lt_of_le hl hn',?_,?_,?_,?_,?_,hm.up⟩
 ·intro l hl
  have:=Nat.eq_of_beq_eq_true (below_at (f:=fun l=>Nat.beq (ρ l) l) hb hl)
  show β (ρ l)=_
  rw[this];exact hm.old l hl
 ·intro l b h hl
  obtain⟨hbm,rfl⟩:=fdm h
  obtain⟨h1,_,h3,_⟩:=wkL_mem hL hbm
  exact hm.new _ _ h1 (h3 hl)
 ·intro l b l' b' h h' ho he
  obtain⟨hbm,rfl⟩:=fdm h
  obtain⟨hbm',rfl⟩:=fdm h'
  have ho':own g.n0 g.ms (ρ b.l)=true:=by
   by_cases h0:b.l<g.n0
   ·rw[Nat.eq_of_beq_eq_true (below_at (f:=fun l=>Nat.beq (ρ l) l) hb h0)];exact ho
   ·unfold own
    rw[Nat.ble_eq_true_of_le ((wkL_mem hL hbm).2.2.1 (by omega))]
  have:=hm.inj _ _ _ _ (wkL_mem hL hbm).1 (wkL_mem hL hbm').1 ho' he
  have:=nodup_inj (f:=fun b=>ρ b.l) (ndN_nodup hni) hbm hbm' this
  rw[this]
 ·intro l b h
  obtain⟨hbm,rfl⟩:=fdm h
  obtain⟨m,h1,h2⟩:=hm.cell _ _ (wkL_mem hL hbm).1
  rw[denL_ren]at h2
  refine⟨m,fun ho=> ?_,h2⟩
  rw[renL_length]at h1
  refine h1 ?_
  by_cases h0:b.l<g.n0
  ·show own g.n0 g.ms (ρ b.l)=true
   rw[Nat.eq_of_beq_eq_true (below_at (f:=fun l=>Nat.beq (ρ l) l) hb h0)];exact ho
  ·show own g.n0 g.ms (ρ b.l)=true
   unfold own
   rw[Nat.ble_eq_true_of_le ((wkL_mem hL hbm).2.2.1 (by omega))]
 ·intro l b h
  obtain⟨hbm,rfl⟩:=fdm h
  obtain⟨_,h2,_,h4⟩:=wkL_mem hL hbm
  exact⟨h2,h4⟩
theorem St.weak{g:G}{ρ:Nat->Nat}{F' F:FF}{L' L:LL}{n' n:Nat}{a:Act}{W:World}(h:Weak g.n0 ρ F' L' n' F L n)(hs:St g F L n a W):St g F' L' n' a W:=by
 obtain⟨β,hm,hf⟩:=hs
 obtain⟨hF,hL,hni,hn,hb⟩:=h
 refine⟨fun l=>β (ρ l),hm.weak hL hni hn hb,⟨hf.size,hf.defs,?_,?_⟩⟩
 ·intro t v hv
  exact(wkF_look hF hv).2
 ·intro t v hv
  have:=hf.fr t _ (wkF_look hF hv).1
  rw[den_ren]at this
  exact this
section
variable (T:Nat->Option Ty)(A:Ar)(P:Program)(g:G)(n0:Nat)(ms:List Nat)
def onSeq(next:FF->LL->Nat->Prop)(Q:Exit->FF->LL->Nat->Prop):Exit->FF->LL->Nat->Prop
 | .normal=>next
 | .exit i=>Q (.exit i)
 | .goto l=>Q (.goto l)
 | .ret=>Q .ret
 | .panic c=>Q (.panic c)
 | .outgrown=>Q .outgrown
def onBlock(id:Nat)(Q:Exit->FF->LL->Nat->Prop):Exit->FF->LL->Nat->Prop
 | .exit i=>match Nat.beq i id with
   |true=>Q .normal
   |false=>Q (.exit i)
 | .normal=>Q .normal
 | .goto l=>Q (.goto l)
 | .ret=>Q .ret
 | .panic c=>Q (.panic c)
 | .outgrown=>Q .outgrown
def onLoop(I:FF->LL->Nat->Prop)(Q:Exit->FF->LL->Nat->Prop):Exit->FF->LL->Nat->Prop
 | .normal=>I
 | .exit i=>Q (.exit i)
 | .goto l=>Q (.goto l)
 | .ret=>Q .ret
 | .panic c=>Q (.panic c)
 | .outgrown=>Q .outgrown
structure LoopP(n0:Nat)(c:Code)(body:(Exit->FF->LL->Nat->Prop)->FF->LL->Nat->Prop)(Q:Exit->FF->LL->Nat->Prop)(F:FF)(L:LL)(n:Nat):Prop where
 out:∃ (σ:Type) (ok:σ->Prop) (m:σ->Nat) (IF:σ->FF) (IL:σ->LL) (nI:Nat),(∃s ρ,ok s/\Weak n0 ρ (IF s) (IL s) nI F L n)/\
  ∀s,ok s->body (onLoop (fun F' L' n'=>∃s' ρ,ok s'/\m s'<m s/\Weak n0 ρ (IF s') (IL s') nI F' L' n') Q) (IF s) (IL s) nI
def vcC:Code->(Exit->FF->LL->Nat->Prop)->FF->LL->Nat->Prop
 | .skip,Q,F,L,n=>Q .normal F L n
 | .region id ops draw,Q,F,L,n=>match draw with
   |false=>vcL T A P g n0 ms ops.toList ops.toList (Q .normal) F L n
   |true=>Reg g P id ops (Q .normal) F L n
 | .seq x y,Q,F,L,n=>vcC x (onSeq (vcC y Q) Q) F L n
 | .cond c x y,Q,F,L,n=>match ev (look F) c with
   |some (.bool t)=>match t with
    |true=>vcC x Q F L n
    |false=>vcC y Q F L n
   |_=>False
 | .block id c,Q,F,L,n=>vcC c (onBlock id Q) F L n
 | .loop c,Q,F,L,n=>LoopP n0 c (vcC c) Q F L n
 | .exit id,Q,F,L,n=>Q (.exit id) F L n
 | .ret,Q,F,L,n=>Q .ret F L n
 |_,_,_,_,_=>False
def dstsB(N:Nat):Code->Bool
 | .region _ ops _=>ops.toList.all fun o=>match o.dst with
   |some d=>Nat.blt d N
   |none=>true
 | .seq x y| .cond _ x y=>dstsB N x&&dstsB N y
 | .block _ c| .loop c| .scope c=>dstsB N c
 |_=>true
end
section
variable {T:Nat->Option Ty}{P:Program}{g:G}{n0:Nat}{ms:List Nat}
theorem vcL_sound(hT:TOk P T)(h0:g.n0=n0)(h1:g.ms=ms){all:List Oper}{K:FF->LL->Nat->Prop}:∀ {rest:List Oper},(∀o∈rest,∀t,o.dst=some t->t<g.N)->∀ {F:FF} {L:LL} {n:Nat},vcL T Ar.real P g n0 ms all rest K F L n->
 ∀ {a:Act} {W:World},St g F L n a W->wpList P all.toArray (Qn g K) rest a W
 | [],_,F,L,n,h,a,W,hs=>⟨F,L,n,h,hs⟩
 |o::rest,hd,F,L,n,h,a,W,hs=>by
  have hd1:=hd o List.mem_cons_self
  have ih:= @vcL_sound hT h0 h1 all K rest (fun o ho=>hd o (List.mem_cons_of_mem _ ho))
  have exec:vcOp T Ar.real P g n0 ms o (vcL T Ar.real P g n0 ms all rest K) F L n->o.wp P a W (wpList P all.toArray (Qn g K) rest) (Qn g K):=fun h2=>
   (vcOp_sound hT h0 h1 hd1 h2).run a W hs _ _ fun F' L' n' a' W' hk hs'=>ih hk hs'
  have skip:vcL T Ar.real P g n0 ms all rest K (putO F o.dst (.raw undef)) L n->wpList P all.toArray (Qn g K) rest (a.put o.dst undef) W:=fun h2=>by
   obtain⟨β,hm,hf⟩:=hs
   exact ih h2 ⟨β,hm,by rw[look_putO];exact hf.put hd1 (v:= .raw undef) (by simp[bd])⟩
  simp only[vcL]at h
  unfold wpList
  cases hgd:o.guard with
  |none=>
   simp only[hgd]at h
   rw[if_pos (by simp[Region.wanted,hgd])]
   exact .inl (exec h)
  |some p=>
   obtain⟨j,b⟩:=p
   simp only[hgd]at h
   cases hj:all[j]? with
   |none=>simp[hj]at h
   |some oj=>
    simp only[hj]at h
    cases hdj:oj.dst with
    |none=>simp[hdj]at h
    |some d=>
     simp only[hdj]at h
     cases hl:look F d with
     |none=>simp[hl]at h
     |some v=>
      cases v with
      |bool x=>
       have hy:yielded all.toArray a.tmps j=some x:=by
        obtain⟨β,hm,hf⟩:=hs
        have:=hf.fr d _ hl
        unfold yielded
        simp[hj,hdj,this,den]
       simp only[hl]at h
       cases x<;>cases b<;>simp only at h
       ·rw[if_pos (by simp[Region.wanted,hgd,hy])];exact .inl (exec h)
       ·rw[if_neg (by simp[Region.wanted,hgd,hy])];exact skip h
       ·rw[if_neg (by simp[Region.wanted,hgd,hy])];exact skip h
       ·rw[if_pos (by simp[Region.wanted,hgd,hy])];exact .inl (exec h)
      |raw u=>
       simp only[hl]at h
       cases hu:notB u with
       |false=>simp[hu]at h
       |true=>
        simp only[hu]at h
        have hy:yielded all.toArray a.tmps j=none:=by
         obtain⟨β,hm,hf⟩:=hs
         have:=hf.fr d _ hl
         unfold yielded
         cases u<;>simp_all [den,notB]
        rw[if_neg (by simp[Region.wanted,hgd,hy])];exact skip h
      |_=>simp[hl]at h
theorem vcC_sound(hT:TOk P T)(h0:g.n0=n0)(h1:g.ms=ms):∀ {c:Code} {Q:Exit->FF->LL->Nat->Prop},dstsB g.N c=true->∀ {F:FF} {L:LL} {n:Nat},vcC T Ar.real P g n0 ms c Q F L n->
 ∀ {a:Act} {W:World},St g F L n a W->c.wp P (up g Q) a W:=by
 intro c
 induction c with
 |skip=>intro Q _ F L n h a W hs;exact wp_skip ⟨F,L,n,h,hs⟩
 |exit id=>intro Q _ F L n h a W hs;exact wp_exit ⟨F,L,n,h,hs⟩
 |ret=>intro Q _ F L n h a W hs;exact wp_ret ⟨F,L,n,h,hs⟩
 |region id ops draw=>
  intro Q hd F L n h a W hs
  have fin:∀e a' W',Qn g (Q .normal) e a' W'->up g Q e a' W':=by
   intro e a' W' hq
   cases e<;>first|exact hq|exact hq.elim
  cases draw with
  |true=>exact wp_mono (Reg.run h a W hs) fin
  |false=>
   refine wp_mono (wp_region_list ?_) fin
   have:=vcL_sound hT h0 h1 (all:=ops.toList) (K:=Q .normal) (rest:=ops.toList) (fun o ho t ht=>by
    simp only[dstsB,List.all_eq_true]at hd
    have:=hd o ho
    simp only[ht]at this
    exact Nat.le_of_ble_eq_true this) (show vcL T Ar.real P g n0 ms ops.toList ops.toList (Q .normal) F L n from h) hs
   simpa using this
 |seq x y ihx ihy=>
  intro Q hd F L n h a W hs
  simp only[dstsB,Bool.and_eq_true]at hd
  refine wp_seq (wp_mono (ihx hd.1 h hs) ?_)
  rintro e a' W' ⟨F',L',n',hq,hs'⟩
  cases e with
  |normal=>exact ihy hd.2 hq hs'
  |_=>exact⟨F',L',n',hq,hs'⟩
 |cond c x y ihx ihy=>
  intro Q hd F L n h a W hs
  simp only[dstsB,Bool.and_eq_true]at hd
  simp only[vcC]at h
  cases he:ev (look F) c with
  |none=>simp[he]at h
  |some v=>
   have hs2:=hs
   obtain⟨β,hm,hf⟩:=hs2
   obtain⟨e0,_⟩:=evd hf he
   cases v with
   |bool t=>
    simp only[he]at h
    cases t with
    |true=>exact wp_cond (t:=true) (by rw[e0];rfl) (ihx hd.1 h hs)
    |false=>exact wp_cond (t:=false) (by rw[e0];rfl) (ihy hd.2 h hs)
   |_=>simp[he]at h
 |block id c ih=>
  intro Q hd F L n h a W hs
  refine wp_block (wp_mono (ih hd h hs) ?_)
  rintro e a' W' ⟨F',L',n',hq,hs'⟩
  cases e with
  |exit i=>
   simp only[onBlock]at hq
   simp only[Exit.inBlock]
   cases hb:Nat.beq i id with
   |true=>
    simp only[hb]at hq
    rw[if_pos (Nat.eq_of_beq_eq_true hb)]
    exact⟨F',L',n',hq,hs'⟩
   |false=>
    simp only[hb]at hq
    rw[if_neg (fun e=>by rw[e,Nat.beq_refl]at hb;cases hb)]
    exact⟨F',L',n',hq,hs'⟩
  |_=>exact⟨F',L',n',hq,hs'⟩
 |loop c ih=>
  intro Q hd F L n h a W hs
  obtain⟨⟨σ,ok,m,IF,IL,nI,⟨s0,ρ0,hok0,hw0⟩,hr⟩⟩:=h
  subst h0
  have st0:St g (IF s0) (IL s0) nI a W:=hs.weak hw0
  have key:∀k:Nat,∀s,m s=k->ok s->∀a W,St g (IF s) (IL s) nI a W->∀b kk cs,∃e a' w',up g Q e a' w'/\Arrives P (lone (b.at a (.code c:: .inLoop c::kk)) cs W) b kk cs e a' w':=by
   intro k
   induction k using Nat.strongRecOn with
   |_ k ihk=>
    intro s hs2 hok a W hst b kk cs
    obtain⟨e,a1,W1,hq,harr⟩:=ih (show dstsB g.N c=true from hd) (hr s hok) hst b (.inLoop c::kk) cs
    obtain⟨F',L',n',hq,hst'⟩:=hq
    cases e with
    |normal=>
     obtain⟨s',ρ,hok',hlt,hw⟩:=hq
     obtain⟨e2,a2,W2,hq2,harr2⟩:=ihk (m s') (by omega) s' rfl hok' a1 W1 (hst'.weak hw) b kk cs
     exact⟨e2,a2,W2,hq2,.of_steps (Steps.trans harr (.one step_inLoop)) harr2⟩
    |exit id=>exact⟨_,a1,W1,⟨F',L',n',hq,hst'⟩,.pass (x:= .inLoop c) rfl (fun _ _=> .inl (by simp)) harr⟩
    |goto l=>exact⟨_,a1,W1,⟨F',L',n',hq,hst'⟩,.pass (x:= .inLoop c) rfl (fun _ _=> .inl (by simp)) harr⟩
    |ret=>exact⟨_,a1,W1,⟨F',L',n',hq,hst'⟩,.pass (x:= .inLoop c) rfl (fun _ _=> .inl (by simp)) harr⟩
    |panic ch=>exact⟨_,a1,W1,⟨F',L',n',hq,hst'⟩,.pass (x:= .inLoop c) rfl (fun _ _=> .inl (by simp)) harr⟩
    |outgrown=>exact⟨_,a1,W1,⟨F',L',n',hq,hst'⟩,.pass (x:= .inLoop c) rfl (fun _ _=> .inl (by simp)) harr⟩
  intro b kk cs
  obtain⟨e,a',w',hq,harr⟩:=key _ s0 rfl hok0 a W st0 b kk cs
  exact⟨e,a',w',hq,.of_steps (.one step_loop) harr⟩
 |_=>intro Q _ F L n h;exact h.elim
end
end Go.Vg
namespace Go.Vg
open Go.RowKit
structure Pre(β:Nat->Nat)(L:LL)(ms:List Nat)(W:World):Prop where
 inj:∀b∈L,∀c∈L,memN ms b.l=true->β b.l=β c.l->b.l=c.l
 cell:∀b∈L,∃m,(memN ms b.l=true->okM m b.cs.length)/\W.heap[β b.l]? =some (.cells (denL β b.cs).toArray b.t m)
def Callable(P:Program)(f:FuncId):Prop:=∃fn,P.funcs[f]? =some fn/\fn.body.isNone=false/\(fn.name== "runtime.NumGoroutine")=false
theorem Callable.of{P:Program}{f:FuncId}{fn:Func}(h:P.funcs[f]? =some fn)(h2:(fn.body.isNone||fn.name== "runtime.NumGoroutine")=false):Callable P f:=by
 simp only[Bool.or_eq_false_iff]at h2
 exact⟨fn,h,h2.1,h2.2⟩
structure GI(g:G)(n0:Nat)(ms:List Nat)(N:Nat):Prop where
 n0:g.n0=n0
 ms:g.ms=ms
 N:g.N=N
def dstLt(N:Nat)(d:Option Nat):Bool:=
 match d with
 |some d=>Nat.blt d N
 |none=>true
theorem GI.dst{g:G}{n0:Nat}{ms:List Nat}{N:Nat}(h:GI g n0 ms N){d:Option Nat}(hd:dstLt N d=true):∀t,d=some t->t<g.N:=by
 rintro t rfl
 rw[h.N]
 exact Nat.le_of_ble_eq_true hd
def Con(P:Program)(f:FuncId)(args:List SV)(Lp:LL)(n0:Nat)(ms:List Nat)(R:SV->LL->Nat->Prop):Prop:=
 Callable P f/\∀ (β0:Nat->Nat) (W0:World),Pre β0 Lp ms W0->Calls P f (denL β0 args).toArray W0 fun e W=>∃v L n β,R v L n/\e= .returned (den β v)/\bd (fun l=>l<n) v/\Mem ⟨W0,β0,n0,0,ms⟩ β (find L) (fun l=>l<n) W
def resV(T:Nat->Option Ty)(A:Ar)(F:FF)(L:LL):ResultVar->Option SV
 | .tmp t=>look F t
 | .cell a t=>match look F a with
   |some v=>match T t with
    |some i=>rd A (find L) i v
    |none=>none
   |none=>none
def resVs(T:Nat->Option Ty)(A:Ar)(F:FF)(L:LL):List ResultVar->Option (List SV)
 | []=>some []
 |r::rs=>match resV T A F L r with
  |some v=>match resVs T A F L rs with
   |some vs=>some (v::vs)
   |none=>none
  |none=>none
def oneOr:List SV->SV
 | [v]=>v
 |vs=> .tup vs
def retK(T:Nat->Option Ty)(A:Ar)(rs:List ResultVar)(R:SV->LL->Nat->Prop)(F:FF)(L:LL)(n:Nat):Prop:=
 match resVs T A F L rs with
 |some vs=>R (oneOr vs) L n
 |none=>False
def retQ(T:Nat->Option Ty)(A:Ar)(rs:List ResultVar)(R:SV->LL->Nat->Prop):Exit->FF->LL->Nat->Prop
 | .normal=>retK T A rs R
 | .ret=>retK T A rs R
 |_=>fun _ _ _=>False
def argF:Nat->List SV->FF
 |_,[]=> []
 |k,v::vs=>(k,v)::argF (k+1) vs
theorem look_argF{k:Nat}{vs:List SV}{t:Nat}{v:SV}(h:look (argF k vs) t=some v):k<=t/\vs[t-k]? =some v:=by
 induction vs generalizing k with
 |nil=>simp[argF,look]at h
 |cons u vs ih=>
  simp only[argF,look]at h
  by_cases hk:k=t
  ·subst hk;rw[if_pos rfl]at h;simpa using h
  ·rw[if_neg hk]at h
   obtain⟨h1,h2⟩:=ih h
   refine⟨by omega,?_⟩
   rw[show t-k=(t-(k+1))+1 by omega]
   simpa using h2
def resS(tmps:Array Value):ResultVar->Sem Value
 | .tmp t=>pure (tmps.getD t undef)
 | .cell x t=>do loadVar t (<-asAddr (tmps.getD x undef))
theorem results_eq(fn:Func)(tmps:Array Value):results fn tmps=(do let vs<-fn.results.mapM (resS tmps);pure (if h:vs.size=1 then vs[0]else .tuple vs)):=by
 unfold results
 congr 1
def lblsB(n0:Nat)(Lp:LL):Bool:=Lp.all fun b=>Nat.blt b.l n0
section
variable {P:Program}{T:Nat->Option Ty}{g:G}{β:Nat->Nat}{F:FF}{L:LL}{n:Nat->Prop}{a:Act}{W:World}
theorem res_sound(hT:TOk P T)(hm:Mem g β (find L) n W)(hf:Fra g β (look F) n a){r:ResultVar}{v:SV}(h:resV T Ar.real F L r=some v):
 (resS a.tmps r).run P W= .ok (den β v) W/\bd n v:=by
 cases r with
 |tmp t=>
  have h1:=hf.fr t v h
  exact⟨by simp[resS,h1],hf.bF t v h⟩
 |cell x t=>
  simp only[resV]at h
  cases hx:look F x with
  |none=>simp[hx]at h
  |some u=>
   cases ht:T t with
   |none=>simp[hx,ht]at h
   |some i=>
    simp only[hx,ht]at h
    have h1:=hf.fr x u hx
    obtain⟨r1,r2⟩:=rd_sound hT hm ht h
    refine⟨?_,r2⟩
    have hp:∃ad,den β u= .pointer (some ad):=by
     cases u<;>simp[rd]at h<;>exact⟨_,rfl⟩
    obtain⟨ad,had⟩:=hp
    rw[had]at r1
    simp only[Instr.loadAt,Instr.sureAddr,Sem.run_bind,Sem.run_pure,Result.andThen_ok]at r1
    have h2:a.tmps.getD x undef= .pointer (some ad):=by simp[h1,had]
    simp only[resS,Sem.run_bind,h2,asAddr,Sem.run_pure,Result.andThen_ok,r1]
theorem resVs_sound(hT:TOk P T)(hm:Mem g β (find L) n W)(hf:Fra g β (look F) n a):∀ {rs:List ResultVar} {vs:List SV},resVs T Ar.real F L rs=some vs->
 (rs.mapM (resS a.tmps)).run P W= .ok (denL β vs) W/\bdL n vs
 | [],vs,h=>by simp only[resVs,Option.some.injEq]at h;subst h;exact⟨by simp[denL],trivial⟩
 |r::rs,vs,h=>by
  simp only[resVs]at h
  cases h1:resV T Ar.real F L r with
  |none=>simp[h1]at h
  |some v=>
   cases h2:resVs T Ar.real F L rs with
   |none=>simp[h1,h2]at h
   |some us=>
    simp only[h1,h2,Option.some.injEq]at h
    subst h
    obtain⟨e1,b1⟩:=res_sound hT hm hf h1
    obtain⟨e2,b2⟩:=resVs_sound hT hm hf h2
    refine⟨?_,b1,b2⟩
    rw[List.mapM_cons]
    simp only[Sem.run_bind,e1,Result.andThen_ok,e2,Sem.run_pure,denL]
theorem ret_sound(hT:TOk P T)(hm:Mem g β (find L) n W)(hf:Fra g β (look F) n a){fn:Func}{rs:List ResultVar}(hr:fn.results.toList=rs){vs:List SV}(h:resVs T Ar.real F L rs=some vs):
 (results fn a.tmps).run P W= .ok (den β (oneOr vs)) W/\bd n (oneOr vs):=by
 obtain⟨e1,b1⟩:=resVs_sound hT hm hf h
 rw[results_eq,Array.mapM_eq_mapM_toList,hr]
 refine⟨?_,?_⟩
 ·have e2:(List.toArray<$>rs.mapM (resS a.tmps)).run P W= .ok (denL β vs).toArray W:=by
   rw[Sem.run_map,e1];rfl
  simp only[Sem.run_bind,e2,Result.andThen_ok,Sem.run_pure]
  congr 1
  match vs with
  | []=>rfl
  | [v]=>rfl
  |u::v::vs=>rfl
 ·match vs,b1 with
  | [],_=>trivial
  | [v],b1=>exact b1.1
  |_::_::_,b1=>exact b1
theorem Con.of(hT:TOk P T){f:FuncId}{fn:Func}{c:Code}{rs:List ResultVar}{N n0:Nat}{ms:List Nat}{args:List SV}{Lp:LL}{R:SV->LL->Nat->Prop}(hf:P.funcs[f]? =some fn)(hb:fn.body=some c)(hrs:fn.results.toList=rs)
 (hcall:(fn.body.isNone||fn.name== "runtime.NumGoroutine")=false) (hN:fn.ntmps=N) (hd:dstsB N c=true) (hargs:Nat.ble args.length N=true) (hlb:lblsB n0 Lp=true) (hba:bdL (fun l=>l<n0) args) (hbl:∀b∈Lp,bdL (fun l=>l<n0) b.cs)
 (h:∀ (A:Ar) (g:G) (K:SV->LL->Nat->Prop),A=Ar.real->GI g n0 ms N->(∀v L n,R v L n->K v L n)->vcC T A P g n0 ms c (retQ T A rs K) (argF 0 args) Lp n0):Con P f args Lp n0 ms R:=by
 refine⟨Callable.of hf hcall,?_⟩
 intro β0 W0 hpre
 simp only[lblsB,List.all_eq_true]at hlb
 have hlen:args.length<=N:=Nat.le_of_ble_eq_true hargs
 let g:G:=⟨W0,β0,n0,N,ms⟩
 have hlt:∀l b,find Lp l=some b->b∈Lp/\b.l=l/\l<n0:=fun l b h=>by
  obtain⟨h1,rfl⟩:=fdm h
  exact⟨h1,rfl,Nat.le_of_ble_eq_true (hlb b h1)⟩
 have hm:Mem g β0 (find Lp) (fun l=>l<n0) W0:=by
  refine⟨fun _ h=>h,fun _ _=>rfl,?_,?_,?_,?_,⟨rfl,rfl,rfl,Nat.le_refl _,fun _ _ _=>rfl⟩⟩
  ·intro l b h hl
   obtain⟨_,_,h3⟩:=hlt l b h
   have:n0<=l:=hl
   omega
  ·intro l b l' b' h h' ho he
   obtain⟨h1,rfl,h3⟩:=hlt l b h
   obtain⟨h2,rfl,_⟩:=hlt l' b' h'
   refine hpre.inj b h1 b' h2 ?_ he
   unfold own at ho
   cases hq:Nat.ble n0 b.l with
   |true=>have:=Nat.le_of_ble_eq_true hq;omega
   |false=>simpa only[g,hq]using ho
  ·intro l b h
   obtain⟨h1,rfl,h3⟩:=hlt l b h
   obtain⟨m,q1,q2⟩:=hpre.cell b h1
   refine⟨m,fun ho=>q1 ?_,q2⟩
   unfold own at ho
   cases hq:Nat.ble n0 b.l with
   |true=>have:=Nat.le_of_ble_eq_true hq;omega
   |false=>simpa only[g,hq]using ho
  ·intro l b h
   obtain⟨h1,rfl,h3⟩:=hlt l b h
   exact⟨h3,hbl b h1⟩
 have hfr:Fra g β0 (look (argF 0 args)) (fun l=>l<n0) {tmps:=(denL β0 args).toArray++Array.replicate (fn.ntmps-(denL β0 args).toArray.size) undef,defers:=[]}:=by
  refine⟨?_,rfl,?_,?_⟩
  ·simp[dle,hN,g];omega
  ·intro t v hv
   obtain⟨_,h2⟩:=look_argF hv
   exact(bdi _ _).1 hba v (List.mem_of_getElem? h2)
  ·intro t v hv
   obtain⟨_,h2⟩:=look_argF hv
   simp only[Nat.sub_zero]at h2
   have hlt:t<args.length:=(List.getElem?_eq_some_iff.1 h2).1
   rw[Array.getElem?_append_left (by simp[dle];omega)]
   simp[dle,h2]
 refine calls_of_wp hf hb (wp_mono (vcC_sound (g:=g) hT rfl rfl hd (h Ar.real g R rfl ⟨rfl,rfl,rfl⟩ (fun _ _ _ h=>h)) ⟨β0,hm,hfr⟩) ?_)
 rintro e a' W' ⟨F',L',n',hq,β,hm',hf'⟩
 have fin:retK T Ar.real rs R F' L' n'->a'.defers=[]/\∃v,(results fn a'.tmps).run P W'= .ok v W'/\∃v' L n β,R v' L n/\Ending.returned v= .returned (den β v')/\bd (fun l=>l<n) v'/\Mem ⟨W0,β0,n0,0,ms⟩ β (find L) (fun l=>l<n) W':=by
  intro hk
  unfold retK at hk
  cases hv:resVs T Ar.real F' L' rs with
  |none=>simp[hv]at hk
  |some vs=>
   simp only[hv]at hk
   obtain⟨r1,r2⟩:=ret_sound hT hm' hf' hrs hv
   exact⟨hf'.defs,_,r1,_,_,_,β,hk,rfl,r2,⟨hm'.low,hm'.old,hm'.new,hm'.inj,hm'.cell,hm'.bL,hm'.up⟩⟩
 cases e with
 |normal=>exact fin hq
 |ret=>exact fin hq
 |_=>exact hq.elim
end
end Go.Vg
namespace Go.Vg
open Go.RowKit
theorem run_callFunc{P:Program}{f:FuncId}(h:Callable P f)(args:Array Value)(w:World):(callFunc f args).run P w= .ok (.enter f args) w:=by
 obtain⟨fn,h1,h2,h3⟩:=h
 have h3':¬fn.name= "runtime.NumGoroutine" :=by simpa using h3
 have h2':¬fn.body=none:=by intro e;rw[e]at h2;cases h2
 unfold callFunc
 simp[h1,h2',h3']
def callee(F:Nat->Option SV)(c:Call):Option (FuncId×List SV):=
 match c.callee with
 | .value f=>match ev F f with
   |some (.fn (.func f) a b)=>match evs F c.args.toList with
    |some vs=>some (f,a++vs++b)
    |none=>none
   |_=>none
 |_=>none
section
variable {P:Program}{T:Nat->Option Ty}{g:G}{β:Nat->Nat}{F:FF}{L:LL}{n:Nat}{a:Act}{W:World}
theorem callee_run{F:Nat->Option SV}{q:Nat->Prop}(hf:Fra g β F q a){o:Oper}{c:Call}(ho:o.op= .call c){f:FuncId}{args:List SV}(hc:callee F c=some (f,args))(hcb:Callable P f):(execOp a.eval o).run P W= .ok (.enter f (denL β args).toArray) W/\bdL q args:=by
 unfold callee at hc
 split at hc
 ·rename_i fo hfo
  split at hc
  ·rename_i f' x y hev
   cases hvs:evs F c.args.toList with
   |none=>simp[hvs]at hc
   |some vs=>
    simp only[hvs,Option.some.injEq,Prod.mk.injEq]at hc
    obtain⟨rfl,rfl⟩:=hc
    obtain⟨e0,b0⟩:=evd hf hev
    obtain⟨e1,b1⟩:=evs_sound hf hvs
    have m1:c.args.map a.eval=(denL β vs).toArray:=by rw[<-e1,<-Array.toList_map]
    simp only[bd]at b0
    refine⟨?_,?_⟩
    ·unfold execOp
     have hr:(resolve a.eval c o.type).run P W= .ok {target:= .fn (.func f') (denL β y).toArray,args:=(denL β x).toArray++(denL β vs).toArray} W:=by
      unfold resolve
      simp[hfo,e0,den,Deferred.ofValue,m1]
     have h2:=run_callFunc hcb ((denL β x).toArray++(denL β vs).toArray++(denL β y).toArray) W
     simp only[ho,Sem.run_bind,hr,Result.andThen_ok,invoke,h2]
     simp[dle]
    ·rw[bdi]
     intro v hv
     simp only[List.mem_append]at hv
     rcases hv with(hv|hv)|hv
     ·exact(bdi _ _).1 b0.1 v hv
     ·exact(bdi _ _).1 b1 v hv
     ·exact(bdi _ _).1 b0.2 v hv
  ·cases hc
 ·cases hc
theorem Upd.trans{W0 W1 W2:World}{M N:Nat->Prop}(h:Upd W0 W1 M)(k:Upd W1 W2 N)(hN:∀k,k<W0.heap.size->¬M k->¬N k):Upd W0 W2 M:=
 ⟨k.os.trans h.os,k.tape.trans h.tape,k.output.trans h.output,Nat.le_trans h.size k.size,fun i hi hM=>(k.block i (Nat.lt_of_lt_of_le hi h.size) (hN i hi hM)).trans (h.block i hi hM)⟩
theorem Mem.call{L:Nat->Option Blk}{q:Nat->Prop}(hm:Mem g β L q W){W':World}{M:Nat->Prop}(hu:Upd W W' M)(hM:∀k,¬M k):Mem g β L q W':=
 ⟨hm.low,hm.old,hm.new,hm.inj,fun l b hb=>by
  obtain⟨m,h1,h2⟩:=hm.cell l b hb
  exact⟨m,h1,by rw[hu.block _ (block_lt h2) (hM _)];exact h2⟩,hm.bL,hm.up.trans hu (fun k _ _=>hM k)⟩
def foot(ρ:Nat->Nat)(L:Nat->Option Blk):LL->Prop
 | []=>True
 |b::Lp=>L (ρ b.l)=some ⟨ρ b.l,renL ρ b.cs,b.t⟩/\foot ρ L Lp
theorem foot_mem{ρ:Nat->Nat}{L:Nat->Option Blk}{Lp:LL}(h:foot ρ L Lp){b:Blk}(hb:b∈Lp):L (ρ b.l)=some ⟨ρ b.l,renL ρ b.cs,b.t⟩:=by
 induction Lp with
 |nil=>cases hb
 |cons c Lp ih=>
  rcases List.mem_cons.1 hb with rfl|hb
  ·exact h.1
  ·exact ih h.2 hb
def injB(mc:List Nat)(ρ:Nat->Nat)(Lp:LL):Bool:=Lp.all fun b=> !memN mc b.l||Lp.all fun c=> !Nat.beq (ρ b.l) (ρ c.l)||Nat.beq b.l c.l
theorem injB_nil(ρ:Nat->Nat)(Lp:LL):injB [] ρ Lp=true:=List.all_eq_true.2 fun _ _=>rfl
theorem foot_pre{L:Nat->Option Blk}{q:Nat->Prop}(hm:Mem g β L q W){ρ:Nat->Nat}{Lp:LL}{mc:List Nat}(h:foot ρ L Lp)(hi:injB mc ρ Lp=true)(ho:∀m∈mc,own g.n0 g.ms (ρ m)=true):Pre (fun l=>β (ρ l)) Lp mc W:=by
 refine⟨?_,?_⟩
 ·intro b hb c hc hmc he
  have h1:=hm.inj _ _ _ _ (foot_mem h hb) (foot_mem h hc) (ho _ (memN_mem hmc)) he
  have h2:=List.all_eq_true.1 hi b hb
  rw[hmc]at h2
  simp only[Bool.not_true,Bool.false_or,List.all_eq_true]at h2
  have h3:=h2 c hc
  rw[h1,Nat.beq_refl]at h3
  exact Nat.eq_of_beq_eq_true h3
 ·intro b hb
  obtain⟨m,h1,h2⟩:=hm.cell _ _ (foot_mem h hb)
  rw[denL_ren]at h2
  exact⟨m,fun hmc=>by rw[renL_length]at h1;exact h1 (ho _ (memN_mem hmc)),h2⟩
theorem cro{o:Oper}{c:Call}(ho:o.op= .call c){m0 N:Nat}{ms:List Nat}(hg:GI g m0 ms N)(hd':dstLt N o.dst=true){f:FuncId}{us args:List SV}(hc:callee (look F) c=some (f,us)){Lp:LL}{n0:Nat}{R:SV->LL->Nat->Prop}(hcon:Con P f args Lp n0 [] R)
 (ρ:Nat->Nat) (hus:us=renL ρ args) (hft:foot ρ (find L) Lp) {K:FF->LL->Nat->Prop} (hK:∀v L1 n1,R v L1 n1->bd (fun l=>l<n0) v/\bd (fun l=>l<n) (ren ρ v)/\K (putO F o.dst (ren ρ v)) L n):Step g P o K F L n:=by
 have hd:=hg.dst hd'
 obtain⟨hcb,hcon⟩:=hcon
 refine⟨?_⟩
 intro a W ⟨β,hm,hf⟩ next Q hnext
 obtain⟨r1,r2⟩:=callee_run (P:=P) (W:=W) hf ho hc hcb
 unfold Oper.wp
 rw[r1,Oper.upon_enter]
 have hden:denL β us=denL (fun l=>β (ρ l)) args:=by rw[hus,denL_ren]
 rw[hden]
 refine(hcon (fun l=>β (ρ l)) W (foot_pre hm hft (injB_nil ρ Lp) (fun m h=>by cases h))).mono ?_
 rintro e W' ⟨v,L1,n1,β1,hR,rfl,_,hm1⟩
 obtain⟨b0,b1,hk⟩:=hK v L1 n1 hR
 have hv:den β1 v=den β (ren ρ v):=by
  rw[den_ren]
  exact den_congr (fun l hl=>hm1.old l hl) v b0
 simp only[hv]
 exact hnext _ _ _ _ _ hk ⟨β,hm.call hm1.up (by rintro k ⟨l,hl,_⟩;cases hl),by rw[look_putO];exact hf.put hd b1⟩
theorem cva{o:Oper}{c:Call}(ho:o.op= .call c){m0 N:Nat}{ms:List Nat}(hg:GI g m0 ms N)(hd':dstLt N o.dst=true){f:FuncId}{args:List SV}(hc:callee (look F) c=some (f,args)){R:SV->LL->Nat->Prop}(hcon:Con P f args [] 0 [] R)
 {K:FF->LL->Nat->Prop} (hK:∀v L1 n1,R v L1 n1->bd (fun _=>False) v/\K (putO F o.dst v) L n):Step g P o K F L n:=by
 have hd:=hg.dst hd'
 obtain⟨hcb,hcon⟩:=hcon
 refine⟨?_⟩
 intro a W ⟨β,hm,hf⟩ next Q hnext
 obtain⟨r1,r2⟩:=callee_run (P:=P) (W:=W) hf ho hc hcb
 unfold Oper.wp
 rw[r1,Oper.upon_enter]
 refine(hcon β W ⟨fun b h=>(by cases h),fun b h=>(by cases h)⟩).mono ?_
 rintro e W' ⟨v,L1,n1,β1,hR,rfl,_,hm1⟩
 obtain⟨b0,hk⟩:=hK v L1 n1 hR
 have hv:den β1 v=den β v:=den_congr (p:=fun _=>False) (fun l hl=>hl.elim) v b0
 simp only[hv]
 exact hnext _ _ _ _ _ hk ⟨β,hm.call hm1.up (by rintro k ⟨l,hl,_⟩;cases hl),by rw[look_putO];exact hf.put hd (bd_mono (fun l h=>h.elim) v b0)⟩
def remL(ls:List Nat):LL->LL
 | []=> []
 |b::L=>match memN ls b.l with
  |true=>remL ls L
  |false=>b::remL ls L
theorem memN_iff{ms:List Nat}{l:Nat}:memN ms l=true↔l∈ms:=by
 constructor
 ·exact memN_mem
 ·intro h
  induction ms with
  |nil=>cases h
  |cons m ms ih=>
   simp only[memN]
   by_cases hm:m=l
   ·rw[if_pos hm]
   ·rw[if_neg hm]
    exact ih ((List.mem_cons.1 h).resolve_left fun e=>hm e.symm)
theorem find_remL{ls:List Nat}(l:Nat):find (remL ls L) l=if memN ls l then none else find L l:=by
 induction L with
 |nil=>cases memN ls l<;>rfl
 |cons c L ih=>
  simp only[remL]
  cases hc:memN ls c.l with
  |true=>
   simp only[ih,find]
   by_cases hl:c.l=l
   ·subst hl;simp[hc]
   ·rw[if_neg hl]
  |false=>
   simp only[find,ih]
   by_cases hl:c.l=l
   ·subst hl;simp[hc]
   ·rw[if_neg hl,if_neg hl]
def rho(ρ:Nat->Nat)(n0 n:Nat)(l:Nat):Nat:=
 match Nat.blt l n0 with
 |true=>ρ l
 |false=>n+(l-n0)
theorem rho_lt{ρ:Nat->Nat}{n0 n l:Nat}(h:l<n0):rho ρ n0 n l=ρ l:=by
 unfold rho
 rw[show Nat.blt l n0=true from Nat.ble_eq_true_of_le h]
theorem rho_ge{ρ:Nat->Nat}{n0 n l:Nat}(h:n0<=l):rho ρ n0 n l=n+(l-n0):=by
 unfold rho
 cases hb:Nat.blt l n0 with
 |false=>rfl
 |true=>have:=Nat.le_of_ble_eq_true hb;omega
def oldL(n0:Nat):LL->List Nat
 | []=> []
 |b::L=>match Nat.blt b.l n0 with
  |true=>b.l::oldL n0 L
  |false=>oldL n0 L
theorem mem_oldL{n0 l:Nat}(hl:l<n0)(h:∃b∈L,b.l=l):l∈oldL n0 L:=by
 induction L with
 |nil=>obtain⟨b,hb,_⟩:=h;cases hb
 |cons c L ih=>
  obtain⟨b,hb,e⟩:=h
  simp only[oldL]
  rcases List.mem_cons.1 hb with rfl|hb
  ·rw[show Nat.blt b.l n0=true from Nat.ble_eq_true_of_le (e▸hl)]
   rw[e];exact List.mem_cons_self
  ·cases Nat.blt c.l n0 with
   |true=>exact List.mem_cons_of_mem _ (ih ⟨b,hb,e⟩)
   |false=>exact ih ⟨b,hb,e⟩
def renB(ρ:Nat->Nat):LL->LL
 | []=> []
 |b::L=>⟨ρ b.l,renL ρ b.cs,b.t⟩::renB ρ L
theorem find_renB{ρ:Nat->Nat}{l:Nat}{c:Blk}(h:find (renB ρ L) l=some c):∃b∈L,find L b.l=some b/\ρ b.l=l/\c=⟨ρ b.l,renL ρ b.cs,b.t⟩:=by
 induction L with
 |nil=>cases h
 |cons b L ih=>
  simp only[renB,find]at h
  by_cases hb:ρ b.l=l
  ·rw[if_pos hb]at h
   exact⟨b,List.mem_cons_self,by simp[find],hb,(Option.some.inj h).symm⟩
  ·rw[if_neg hb]at h
   obtain⟨d,hd,h1,h2,h3⟩:=ih h
   refine⟨d,List.mem_cons_of_mem _ hd,?_,h2,h3⟩
   simp only[find]
   rw[if_neg (fun e=>hb (by rw[e,h2]))]
   exact h1
mutual
theorem bd_ren{ρ:Nat->Nat}{n m:Nat->Prop}(h:∀l,n l->m (ρ l)):∀v,bd n v->bd m (ren ρ v)
 | .bool _,_| .int _ _,_| .str _,_| .nilp,_| .nils,_| .nilfn,_| .raw _,_=>by simp[bd,ren]
 | .ptr _ _,hv| .ptrS _ _,hv| .slice _ _ _ _,hv=>h _ (by simpa [bd]using hv)
 | .fn _ x y,hv=>by
   simp only[bd]at hv
   exact⟨bdL_ren h x hv.1,bdL_ren h y hv.2⟩
 | .agg cs,hv=>by simp only[bd]at hv;exact bdL_ren h cs hv
 | .tup vs,hv=>by simp only[bd]at hv;exact bdL_ren h vs hv
theorem bdL_ren{ρ:Nat->Nat}{n m:Nat->Prop}(h:∀l,n l->m (ρ l)):∀l,bdL n l->bdL m (renL ρ l)
 | [],_=>trivial
 |v::vs,hl=>by
  simp only[bdL]at hl
  exact⟨bd_ren h v hl.1,bdL_ren h vs hl.2⟩
end
theorem cgn{o:Oper}{c:Call}(ho:o.op= .call c){m0 N:Nat}{ms:List Nat}(hg:GI g m0 ms N)(hd':dstLt N o.dst=true){f:FuncId}{us args:List SV}(hc:callee (look F) c=some (f,us)){Lp:LL}{n0:Nat}{mc:List Nat}{R:SV->LL->Nat->Prop}(hcon:Con P f args Lp n0 mc R)
 (ρ:Nat->Nat) (hus:us=renL ρ args) (hft:foot ρ (find L) Lp) (hi:injB mc ρ Lp=true) (hρ:below (fun l=>Nat.blt (ρ l) n) n0=true)
 (hmc:mc.all (fun m=>own m0 ms (ρ m)&&memN (Lp.map Blk.l) m&&Nat.blt m n0)=true) {K:FF->LL->Nat->Prop}
 (hK:∀v L1 n1,R v L1 n1->n0<=n1->L1.all (fun b=>Nat.ble n0 b.l||memN (Lp.map Blk.l) b.l)=true/\
  K (putO F o.dst (ren (rho ρ n0 n) v)) (remL (mc.map ρ++(oldL n0 L1).map ρ) L++renB (rho ρ n0 n) L1) (n+(n1-n0))):Step g P o K F L n:=by
 have hd:=hg.dst hd'
 rw[<-hg.n0,<-hg.ms]at hmc
 obtain⟨hcb,hcon⟩:=hcon
 refine⟨?_⟩
 intro a W ⟨β,hm,hf⟩ next Q hnext
 obtain⟨r1,r2⟩:=callee_run (P:=P) (W:=W) hf ho hc hcb
 unfold Oper.wp
 rw[r1,Oper.upon_enter]
 have hden:denL β us=denL (fun l=>β (ρ l)) args:=by rw[hus,denL_ren]
 rw[hden]
 refine(hcon (fun l=>β (ρ l)) W (foot_pre hm hft hi (fun m h=>by
  have:=(List.all_eq_true.1 hmc) m h
  simp only[Bool.and_eq_true]at this
  exact this.1.1))).mono ?_
 rintro e W' ⟨v,L1,n1,β1,hR,rfl,hbv,hm1⟩
 have hn01:n0<=n1:=Nat.le_of_not_lt fun h=>Nat.lt_irrefl n1 (hm1.low n1 h)
 obtain⟨hL1,hk⟩:=hK v L1 n1 hR hn01
 have hgn:g.n0<=n:=Nat.le_of_not_lt fun h=>Nat.lt_irrefl n (hm.low n h)
 obtain⟨γ,hg1,hg2⟩:∃γ:Nat->Nat,(∀l,l<n->γ l=β l)/\∀l,n<=l->γ l=β1 (n0+(l-n)):=⟨fun l=>if l<n then β l else β1 (n0+(l-n)),fun l hl=>if_pos hl,fun l hl=>if_neg (by omega)⟩
 have hρ':∀l,l<n0->ρ l<n:=fun l hl=>Nat.le_of_ble_eq_true (below_at (f:=fun l=>Nat.blt (ρ l) n) hρ hl)
 have hγ:∀l,l<n1->γ (rho ρ n0 n l)=β1 l:=by
  intro l _
  by_cases h:l<n0
  ·rw[rho_lt h,hg1 _ (hρ' l h)];exact(hm1.old l h).symm
  ·rw[rho_ge (by omega),hg2 _ (by omega)];congr 1;omega
 have hlt:∀l,l<n1->rho ρ n0 n l<n+(n1-n0):=by
  intro l hl
  by_cases h:l<n0
  ·rw[rho_lt h];have:=hρ' l h;omega
  ·rw[rho_ge (by omega)];omega
 have hdv:∀u,bd (fun l=>l<n1) u->den γ (ren (rho ρ n0 n) u)=den β1 u:=by
  intro u hu
  rw[den_ren];exact den_congr hγ u hu
 have hdL:∀us,bdL (fun l=>l<n1) us->denL γ (renL (rho ρ n0 n) us)=denL β1 us:=by
  intro us hu
  rw[denL_ren];exact dlc hγ us hu
 have hmods:∀k,(∃l∈mc,β (ρ l)=k)->∃m∈mc,m<n0/\own g.n0 g.ms (ρ m)=true/\(∃b∈Lp,b.l=m)/\k=β (ρ m):=by
  rintro k ⟨m,hm',rfl⟩
  have:=(List.all_eq_true.1 hmc) m hm'
  simp only[Bool.and_eq_true]at this
  obtain⟨b,hb,e⟩:=List.mem_map.1 (memN_mem this.1.2)
  exact⟨m,hm',Nat.le_of_ble_eq_true this.2,this.1.1,⟨b,hb,e⟩,rfl⟩
 have hfoot:∀b∈Lp,∃c,find L (ρ b.l)=some c:=fun b hb=>⟨_,foot_mem hft hb⟩
 have hblk:∀l b,find L l=some b->l∉(mc.map ρ)->W'.heap[β l]? =W.heap[β l]? :=by
  intro l b hb hnm
  obtain⟨_,_,hcell⟩:=hm.cell l b hb
  refine hm1.up.block _ (block_lt hcell) ?_
  rintro⟨m,hm',e⟩
  obtain⟨m2,hm2,_,hown2,⟨b2,hb2,e2⟩,e3⟩:=hmods _ ⟨m,hm',rfl⟩
  have e':β (ρ m)=β l:=e
  obtain⟨c,hc⟩:=hfoot b2 hb2
  have e5:=hm.inj _ _ _ _ hc hb (by rw[e2];exact hown2) (by rw[e2,<-e3,e'])
  exact hnm (List.mem_map.2 ⟨m2,hm2,by rw[<-e5,e2]⟩)
 have hL1':∀b∈L1,n0<=b.l\/(b.l<n0/\∃d∈Lp,d.l=b.l):=by
  intro b hb
  have:=(List.all_eq_true.1 hL1) b hb
  simp only[Bool.or_eq_true]at this
  by_cases h:n0<=b.l
  ·exact Or.inl h
  ·rcases this with h2|h2
   ·exact(h (Nat.le_of_ble_eq_true h2)).elim
   ·obtain⟨d,hd',e⟩:=List.mem_map.1 (memN_mem h2)
    exact Or.inr ⟨by omega,d,hd',e⟩
 have hcase:∀l b,find (remL (mc.map ρ++(oldL n0 L1).map ρ) L++renB (rho ρ n0 n) L1) l=some b->
  (find L l=some b/\l∉mc.map ρ/\l∉(oldL n0 L1).map ρ)\/(∃b1∈L1,find L1 b1.l=some b1/\l=rho ρ n0 n b1.l/\b=⟨rho ρ n0 n b1.l,renL (rho ρ n0 n) b1.cs,b1.t⟩):=by
  intro l b h
  rw[fap,find_remL]at h
  cases hmem:memN (mc.map ρ++(oldL n0 L1).map ρ) l with
  |true=>
   simp only[hmem,if_true]at h
   obtain⟨b1,h1,h2,h3,h4⟩:=find_renB h
   exact Or.inr ⟨b1,h1,h2,h3.symm,h4⟩
  |false=>
   have hn:l∉mc.map ρ++(oldL n0 L1).map ρ:=fun h=>by rw[memN_iff.2 h]at hmem;cases hmem
   simp only[hmem,Bool.false_eq_true,if_false]at h
   cases hq:find L l with
   |some c=>
    simp only[hq]at h
    exact Or.inl ⟨h,fun h=>hn (List.mem_append.2 (Or.inl h)),fun h=>hn (List.mem_append.2 (Or.inr h))⟩
   |none=>
    simp only[hq]at h
    obtain⟨b1,h1,h2,h3,h4⟩:=find_renB h
    exact Or.inr ⟨b1,h1,h2,h3.symm,h4⟩
 have hb1n:∀b1,find L1 b1.l=some b1->b1.l<n1/\bdL (fun l=>l<n1) b1.cs:=fun b1 h=>hm1.bL _ b1 h
 have hdis:∀l b b1,find L l=some b->l∉mc.map ρ->l∉(oldL n0 L1).map ρ->b1∈L1->find L1 b1.l=some b1->(own g.n0 g.ms l=true\/own g.n0 g.ms (ρ b1.l)=true)->β l≠β1 b1.l:=by
  intro l b b1 hb hnm hno hb1 hf1 ho e
  rcases hL1' b1 hb1 with h|⟨h,d,hd',ed⟩
  ·obtain⟨_,_,hcell⟩:=hm.cell l b hb
   have k2:=block_lt hcell
   rcases hm1.new b1.l b1 hf1 h with k1|k1
   ·have k3:W.heap.size<=β1 b1.l:=k1
    omega
   ·obtain⟨m2,hm2,_,hown2,⟨b2,hb2,e2⟩,e3⟩:=hmods _ k1
    obtain⟨c,hc⟩:=hfoot b2 hb2
    have e5:=hm.inj _ _ _ _ hc hb (by rw[e2];exact hown2) (by rw[e2,<-e3,e])
    exact hnm (List.mem_map.2 ⟨m2,hm2,by rw[<-e5,e2]⟩)
  ·have k1:β1 b1.l=β (ρ b1.l):=hm1.old b1.l h
   obtain⟨c,hc⟩:=hfoot d hd'
   have k2:l=ρ d.l:=by
    rcases ho with ho|ho
    ·exact hm.inj _ _ _ _ hb hc ho (by rw[e,k1,ed])
    ·exact(hm.inj _ _ _ _ hc hb (by rw[ed];exact ho) (by rw[e,k1,ed])).symm
   exact hno (List.mem_map.2 ⟨b1.l,mem_oldL h ⟨b1,hb1,rfl⟩,by rw[k2,ed]⟩)
 simp only[<-hdv v hbv]
 refine hnext _ _ _ _ _ hk ⟨γ,⟨fun l hl=>Nat.lt_of_lt_of_le hl (by omega),?_,?_,?_,?_,?_,?_⟩,by rw[look_putO];exact(hf.mono hg1 (fun l hl=>Nat.lt_of_lt_of_le hl (by omega))).put hd (bd_ren hlt v hbv)⟩
 ·intro l hl
  rw[hg1 l (by omega)];exact hm.old l hl
 ·intro l b hb hl
  rcases hcase l b hb with⟨h1,_⟩|⟨b1,hb1,hf1,rfl,rfl⟩
  ·rw[hg1 _ (hm.bL l b h1).1];exact hm.new l b h1 hl
  ·rw[hγ _ (hb1n b1 hf1).1]
   rcases hL1' b1 hb1 with h|⟨h,d,hd',e⟩
   ·have h2:=hm.up.size
    rcases hm1.new b1.l b1 hf1 h with h1|h1
    ·exact Or.inl (Nat.le_trans h2 h1)
    ·obtain⟨m2,hm2,_,hown2,⟨b2,hb2,e2⟩,e3⟩:=hmods _ h1
     obtain⟨c,hc⟩:=hfoot b2 hb2
     rw[e2]at hc
     rw[e3]
     rcases own_or hown2 with h|h
     ·exact hm.new _ c hc h
     ·by_cases h0:ρ m2<g.n0
      ·exact Or.inr ⟨ρ m2,h,(hm.old _ h0).symm⟩
      ·exact hm.new _ c hc (by omega)
   ·rw[rho_lt h]at hl
    obtain⟨c,hc⟩:=hfoot d hd'
    have h1:=hm.new _ c hc (by rw[e];exact hl)
    have h2:β1 b1.l=β (ρ b1.l):=hm1.old b1.l h
    rw[h2,<-e];exact h1
 ·intro l b l' b' hb hb' ho e
  rcases hcase l b hb with⟨h1,h1m,h1'⟩|⟨b1,hb1,hf1,rfl,rfl⟩<;>rcases hcase l' b' hb' with⟨k1,k1m,k1'⟩|⟨c1,hc1,hf2,rfl,rfl⟩
  ·rw[hg1 _ (hm.bL l b h1).1,hg1 _ (hm.bL l' b' k1).1]at e
   exact hm.inj l b l' b' h1 k1 ho e
  ·rw[hg1 _ (hm.bL l b h1).1,hγ _ (hb1n c1 hf2).1]at e
   exact(hdis l b c1 h1 h1m h1' hc1 hf2 (Or.inl ho) e).elim
  ·rw[hg1 _ (hm.bL l' b' k1).1,hγ _ (hb1n b1 hf1).1]at e
   by_cases hb0:b1.l<n0
   ·rw[rho_lt hb0]at ho
    exact(hdis l' b' b1 k1 k1m k1' hb1 hf1 (Or.inr ho) e.symm).elim
   ·obtain⟨_,_,hcell⟩:=hm.cell l' b' k1
    have k2:=block_lt hcell
    rcases hm1.new b1.l b1 hf1 (by show n0<=_;omega)with k3|k3
    ·have k4:W.heap.size<=β1 b1.l:=k3
     omega
    ·obtain⟨m2,hm2,_,hown2,⟨b2,hb2,e2⟩,e3⟩:=hmods _ k3
     obtain⟨c,hc⟩:=hfoot b2 hb2
     have e5:=hm.inj _ _ _ _ hc k1 (by rw[e2];exact hown2) (by rw[e2,<-e3,e])
     exact(k1m (List.mem_map.2 ⟨m2,hm2,by rw[<-e5,e2]⟩)).elim
  ·rw[hγ _ (hb1n b1 hf1).1,hγ _ (hb1n c1 hf2).1]at e
   have hold:∀x∈L1,x.l<n0->∃d,find L (ρ x.l)=some d/\β1 x.l=β (ρ x.l)/\β (ρ x.l)<W.heap.size:=by
    intro x hx h
    rcases hL1' x hx with h2|⟨_,d,hd',ed⟩
    ·omega
    ·obtain⟨c,hc⟩:=hfoot d hd'
     rw[ed]at hc
     obtain⟨_,_,hcell⟩:=hm.cell _ c hc
     exact⟨c,hc,hm1.old x.l h,block_lt hcell⟩
   by_cases hb0:b1.l<n0
   ·obtain⟨d,k1,k2,k3⟩:=hold b1 hb1 hb0
    rw[rho_lt hb0]at ho⊢
    by_cases hc0:c1.l<n0
    ·obtain⟨d',q1,q2,_⟩:=hold c1 hc1 hc0
     rw[rho_lt hc0]
     exact hm.inj _ _ _ _ k1 q1 ho (by rw[<-k2,<-q2,e])
    ·have q:=hm1.inj _ _ _ _ hf2 hf1 (by
      show own n0 mc c1.l=true
      unfold own
      rw[Nat.ble_eq_true_of_le (show n0<=c1.l by omega)]) e.symm
     omega
   ·rw[hm1.inj _ _ _ _ hf1 hf2 (by
     show own n0 mc b1.l=true
     unfold own
     rw[Nat.ble_eq_true_of_le (show n0<=b1.l by omega)]) e]
 ·intro l b hb
  rcases hcase l b hb with⟨h1,h2,_⟩|⟨b1,hb1,hf1,rfl,rfl⟩
  ·obtain⟨m,q1,q2⟩:=hm.cell l b h1
   exact⟨m,q1,by rw[hg1 _ (hm.bL l b h1).1,hblk l b h1 h2,q2,dlc hg1 _ (hm.bL l b h1).2]⟩
  ·obtain⟨m,q1,q2⟩:=hm1.cell _ b1 hf1
   refine⟨m,fun ho=> ?_,?_⟩
   ·show okM m (renL _ b1.cs).length
    rw[renL_length]
    by_cases hb0:b1.l<n0
    ·rw[rho_lt hb0]at ho
     rcases hL1' b1 hb1 with h2|⟨_,d,hd',ed⟩
     ·omega
     obtain⟨c,hc⟩:=hfoot d hd'
     rw[ed]at hc
     obtain⟨m0,p1,p2⟩:=hm.cell _ c hc
     have hk:β1 b1.l=β (ρ b1.l):=hm1.old b1.l hb0
     rw[hk]at q2
     by_cases hmod:(⟨W,fun l=>β (ρ l),n0,0,mc⟩:G).mod (β (ρ b1.l))
     ·obtain⟨m2,hm2,_,hown2,⟨b2,hb2,e2⟩,e3⟩:=hmods _ hmod
      obtain⟨c2,hc2⟩:=hfoot b2 hb2
      rw[e2]at hc2
      have e5:=hm.inj _ _ _ _ hc2 hc hown2 e3.symm
      refine q1 ?_
      have h3:=List.all_eq_true.1 hi b2 hb2
      rw[e2,memN_iff.2 hm2]at h3
      simp only[Bool.not_true,Bool.false_or,List.all_eq_true]at h3
      have h4:=h3 d hd'
      rw[ed,e5,Nat.beq_refl]at h4
      have h5:m2=b1.l:=Nat.eq_of_beq_eq_true (by simpa using h4)
      show own n0 mc b1.l=true
      unfold own
      cases Nat.ble n0 b1.l with
      |true=>rfl
      |false=>rw[<-h5];exact memN_iff.2 hm2
     ·have h6:=hm1.up.block _ (block_lt p2) hmod
      rw[q2,p2]at h6
      simp only[Option.some.injEq,Obj.cells.injEq]at h6
      obtain⟨h7,_,rfl⟩:=h6
      have h8:b1.cs.length=c.cs.length:=by
       have:=congrArg Array.size h7
       simpa [dle]using this
      rw[h8];exact p1 ho
    ·refine q1 ?_
     show own n0 mc b1.l=true
     unfold own
     rw[Nat.ble_eq_true_of_le (show n0<=b1.l by omega)]
   show W'.heap[γ (rho ρ n0 n b1.l)]? =some (.cells (denL γ (renL (rho ρ n0 n) b1.cs)).toArray b1.t m)
   rw[hγ _ (hb1n b1 hf1).1,hdL _ (hb1n b1 hf1).2]
   exact q2
 ·intro l b hb
  rcases hcase l b hb with⟨h1,_⟩|⟨b1,hb1,hf1,rfl,rfl⟩
  ·exact⟨Nat.lt_of_lt_of_le (hm.bL l b h1).1 (by omega),bdm (fun l hl=>Nat.lt_of_lt_of_le hl (by omega)) _ (hm.bL l b h1).2⟩
  ·exact⟨hlt _ (hb1n b1 hf1).1,bdL_ren hlt _ (hb1n b1 hf1).2⟩
 ·refine hm.up.trans hm1.up ?_
  rintro k hk hM hmod
  obtain⟨m,hm',hlt',hown,⟨b,hb,eb⟩,rfl⟩:=hmods k hmod
  obtain⟨c,hc⟩:=hfoot b hb
  rw[eb]at hc
  rcases own_or hown with h|h
  ·rcases hm.new _ c hc h with h2|h2
   ·omega
   ·exact hM h2
  ·by_cases h0:ρ m<g.n0
   ·exact hM ⟨ρ m,h,(hm.old _ h0).symm⟩
   ·rcases hm.new _ c hc (by omega)with h2|h2
    ·omega
    ·exact hM h2
end
end Go.Vg
namespace Go.Vg
open Go.RowKit
structure E where
 d:Option Nat
 v:SV
 nw:LL
 w:Option (Nat×Nat×List SV)
def fo{α:Type}(f:E->α->α)(D:Nat->Bool):Nat->List E->α->α
 |_,[],x=>x
 |k,e::es,x=>fo f D (k+1) es (if D k then f e x else x)
theorem fo_congr{α:Type}{f:E->α->α}{D D':Nat->Bool}:∀ {es:List E} {s:Nat} {x:α},(∀k,s<=k->D k=D' k)->fo f D s es x=fo f D' s es x
 | [],_,_,_=>rfl
 |e::es,s,x,h=>by
  simp only[fo]
  rw[h s (Nat.le_refl _)]
  exact fo_congr fun k hk=>h k (by omega)
theorem fo_congr2{α:Type}{f:E->α->α}{D D':Nat->Bool}:∀ {es:List E} {s:Nat} {x:α},(∀k e,es[k]? =some e->D (s+k)=D' (s+k))->fo f D s es x=fo f D' s es x
 | [],_,_,_=>rfl
 |e::es,s,x,h=>by
  simp only[fo]
  have h0:=h 0 e rfl
  simp only[Nat.add_zero]at h0
  rw[h0]
  exact fo_congr2 fun k e' hk=>by rw[show s+1+k=s+(k+1) by omega];exact h (k+1) e' (by simpa using hk)
theorem fo_comm{α:Type}{f:E->α->α}{D:Nat->Bool}{e0:E}:∀ {es:List E} {s:Nat} {x:α},(∀k e,es[k]? =some e->D (s+k)=true->∀y,f e (f e0 y)=f e0 (f e y))->fo f D s es (f e0 x)=f e0 (fo f D s es x)
 | [],_,_,_=>rfl
 |e::es,s,x,h=>by
  simp only[fo]
  have h0:=h 0 e rfl
  have hr:∀k e',es[k]? =some e'->D (s+1+k)=true->∀y,f e' (f e0 y)=f e0 (f e' y):=fun k e' hk hD=>h (k+1) e' (by simpa using hk) (by rw[<-hD];congr 1;omega)
  by_cases hD:D s=true
  ·rw[if_pos hD,if_pos hD,h0 (by simpa using hD),fo_comm hr]
  ·rw[if_neg hD,if_neg hD,fo_comm hr]
def add(D:Nat->Bool)(i:Nat):Nat->Bool:=fun k=>if k=i then true else D k
theorem fo_insert{α:Type}{f:E->α->α}{D:Nat->Bool}{i:Nat}{e0:E}(hD:D i=false):∀ {es:List E} {s:Nat} {x:α},s<=i->es[i-s]? =some e0->
 (∀k e,i<k->es[k-s]? =some e->D k=true->∀y,f e (f e0 y)=f e0 (f e y))->fo f (add D i) s es x=f e0 (fo f D s es x)
 | [],_,_,_,h,_=>by simp at h
 |e::es,s,x,hs,h,hc=>by
  simp only[fo]
  by_cases hsi:s=i
  ·subst hsi
   have he:e=e0:=by simpa using h
   subst he
   rw[show add D s s=true from if_pos rfl,if_pos rfl,hD,if_neg (by simp)]
   rw[fo_congr (D:=add D s) (D':=D) fun k hk=>if_neg (by omega)]
   exact fo_comm fun k e' hk hDk=>hc (s+1+k) e' (by omega) (by rw[show s+1+k-s=k+1 by omega];simpa using hk) hDk
  ·rw[show add D i s=D s from if_neg hsi]
   exact fo_insert hD (by omega) (by rw[show i-(s+1)=i-s-1 by omega];rw[show i-s=(i-s-1)+1 by omega]at h;simpa using h)
    (fun k e' hk hk2 hDk=>hc k e' hk (by rw[show k-s=(k-(s+1))+1 by omega];simpa using hk2) hDk)
/-! slots-/
def ft(t:Nat)(e:E)(x:Option SV):Option SV:=if e.d=some t then some e.v else x
theorem ft_none{D:Nat->Bool}{t:Nat}:∀ {es:List E} {s:Nat} {x:Option SV},(∀k e,es[k]? =some e->D (s+k)=true->e.d≠some t)->fo (ft t) D s es x=x
 | [],_,_,_=>rfl
 |e::es,s,x,h=>by
  simp only[fo]
  have hx:(if D s=true then ft t e x else x)=x:=by
   by_cases hD:D s=true
   ·rw[if_pos hD];exact if_neg (h 0 e rfl hD)
   ·rw[if_neg hD]
  rw[hx]
  exact ft_none fun k e' hk hDk=>h (k+1) e' (by simpa using hk) (by rw[<-hDk];congr 1;omega)
theorem ft_some{D:Nat->Bool}{t:Nat}{e0:E}:∀ {es:List E} {s k:Nat} {x:Option SV},es[k]? =some e0->D (s+k)=true->e0.d=some t->(∀j e,es[j]? =some e->j≠k->e.d≠some t)->fo (ft t) D s es x=some e0.v
 | [],_,_,_,h,_,_,_=>by simp at h
 |e::es,s,k,x,h,hD,hd,hu=>by
  simp only[fo]
  cases k with
  |zero=>
   have he:e=e0:=by simpa using h
   subst he
   rw[if_pos (by simpa using hD)]
   rw[show ft t e x=some e.v from if_pos hd]
   exact ft_none fun j e' hj _=>hu (j+1) e' (by simpa using hj) (by omega)
  |succ k=>
   exact ft_some (k:=k) (by simpa using h) (by rw[<-hD];congr 1;omega) hd fun j e' hj hjk=>hu (j+1) e' (by simpa using hj) (by omega)
/-! blocks-/
def gl(l:Nat)(e:E)(x:Option Blk):Option Blk:=
 match e.w with
 |some (k,q,vs)=>if l=k then x.map fun b=>⟨b.l,splice b.cs q vs,b.t⟩else x
 |none=>match x with
  |some b=>some b
  |none=>find e.nw l
def pl(l:Nat)(e:E)(x:Prop):Prop:=x\/ ∃b∈e.nw,b.l=l
def aF(e:E)(F:Nat->Option SV):Nat->Option SV:=fun t=>ft t e (F t)
def aL(e:E)(L:Nat->Option Blk):Nat->Option Blk:=fun l=>gl l e (L l)
def aP(e:E)(p:Nat->Prop):Nat->Prop:=fun l=>pl l e (p l)
def FD(es:List E)(D:Nat->Bool)(F:Nat->Option SV):Nat->Option SV:=fun t=>fo (ft t) D 0 es (F t)
def LD(es:List E)(D:Nat->Bool)(L:Nat->Option Blk):Nat->Option Blk:=fun l=>fo (gl l) D 0 es (L l)
def PD(es:List E)(D:Nat->Bool)(p:Nat->Prop):Nat->Prop:=fun l=>fo (pl l) D 0 es (p l)
theorem PD_iff{D:Nat->Bool}{l:Nat}:∀ {es:List E} {s:Nat} {x:Prop},fo (pl l) D s es x↔x\/ ∃k e,es[k]? =some e/\D (s+k)=true/\∃b∈e.nw,b.l=l
 | [],_,_=>by simp[fo]
 |e::es,s,x=>by
  simp only[fo]
  rw[PD_iff]
  constructor
  ·rintro(h|⟨k,e',h1,h2,h3⟩)
   ·by_cases hD:D s=true
    ·rw[if_pos hD]at h
     rcases h with h|h
     ·exact Or.inl h
     ·exact Or.inr ⟨0,e,rfl,hD,h⟩
    ·rw[if_neg hD]at h;exact Or.inl h
   ·exact Or.inr ⟨k+1,e',by simpa using h1,by rw[<-h2];congr 1;omega,h3⟩
  ·rintro(h|⟨k,e',h1,h2,h3⟩)
   ·left
    by_cases hD:D s=true
    ·rw[if_pos hD];exact Or.inl h
    ·rw[if_neg hD];exact h
   ·cases k with
    |zero=>
     have he:e=e':=by simpa using h1
     subst he
     left
     rw[if_pos (by simpa using h2)]
     exact Or.inr h3
    |succ k=>exact Or.inr ⟨k,e',by simpa using h1,by rw[<-h2];congr 1;omega,h3⟩
theorem find_some_label{L:LL}{l:Nat}{b:Blk}(h:find L l=some b):∃c∈L,c.l=l:=⟨b,(fdm h).1,(fdm h).2⟩
theorem gl_mono{l:Nat}{D' D:Nat->Bool}(nn:Nat->Nat):∀ {es:List E} {s:Nat} {x' x:Option Blk},(∀k e,es[k]? =some e->(∀b∈e.nw,nn (s+k)<=b.l/\b.l<nn (s+k+1))/\nn (s+k)<=nn (s+k+1))->
 (∀k e,es[k]? =some e->D' (s+k)=true->D (s+k)=true)->(∀k e,es[k]? =some e->D (s+k)=true->D' (s+k)=false->∀l' q vs,e.w=some (l',q,vs)->l'≠l)->(x'=none\/x'=x)->(∀b,x=some b->l<nn s)->
 ∀b,fo (gl l) D' s es x'=some b->fo (gl l) D s es x=some b
 | [],_,x',x,_,_,_,hx,_,b,h=>by
   simp only[fo]at h⊢
   rcases hx with rfl|rfl
   ·cases h
   ·exact h
 |e::es,s,x',x,hl,hs,hw,hx,hb,b,h=>by
  simp only[fo]at h⊢
  have shift:∀k,s+1+k=s+(k+1):=fun k=>by omega
  have hl0:=hl 0 e rfl
  refine gl_mono nn (es:=es) (s:=s+1) (fun k e' hk=>by rw[shift,show s+(k+1)+1=s+(k+1)+1 from rfl];exact hl (k+1) e' (by simpa using hk)) (fun k e' hk hd=>by rw[shift]at hd⊢;exact hs (k+1) e' (by simpa using hk) hd)
   (fun k e' hk hd hd'=>by rw[shift]at hd hd';exact hw (k+1) e' (by simpa using hk) hd hd') ?_ ?_ b h
  ·have hs0:=hs 0 e rfl
   have hw0:=hw 0 e rfl
   simp only[Nat.add_zero]at hs0 hw0 hl0
   by_cases hd':D' s=true
   ·rw[if_pos hd',if_pos (hs0 hd')]
    unfold gl
    cases hew:e.w with
    |some q=>
     obtain⟨k,q,vs⟩:=q
     simp only
     by_cases hlk:l=k
     ·rw[if_pos hlk,if_pos hlk]
      rcases hx with rfl|rfl
      ·left;rfl
      ·right;rfl
     ·rw[if_neg hlk,if_neg hlk];exact hx
    |none=>
     simp only
     rcases hx with rfl|rfl
     ·cases x with
      |none=>right;rfl
      |some c=>
       have:=hb c rfl
       cases hf:find e.nw l with
       |none=>left;rfl
       |some c'=>
        obtain⟨d,hd,e1⟩:=find_some_label hf
        have:=(hl0.1 d hd).1
        omega
     ·right;rfl
   ·rw[if_neg hd']
    by_cases hd:D s=true
    ·rw[if_pos hd]
     have hew:=hw0 hd (by simpa using hd')
     unfold gl
     cases hqw:e.w with
     |some q=>
      obtain⟨k,q,vs⟩:=q
      simp only
      rw[if_neg (fun h=>hew k q vs hqw h.symm)]
      exact hx
     |none=>
      simp only
      rcases hx with rfl|rfl
      ·left;rfl
      ·cases x' with
       |none=>left;rfl
       |some c=>right;rfl
    ·rw[if_neg hd];exact hx
  ·intro c hc
   simp only[Nat.add_zero]at hl0
   by_cases hd:D s=true
   ·rw[if_pos hd]at hc
    unfold gl at hc
    cases hew:e.w with
    |some q=>
     obtain⟨k,q,vs⟩:=q
     rw[hew]at hc
     simp only at hc
     have:∃d,x=some d:=by
      by_cases hlk:l=k
      ·rw[if_pos hlk]at hc
       obtain⟨d,hd,_⟩:=Option.map_eq_some_iff.1 hc
       exact⟨d,hd⟩
      ·rw[if_neg hlk]at hc;exact⟨c,hc⟩
     obtain⟨d,hd⟩:=this
     have:=hb d hd
     omega
    |none=>
     rw[hew]at hc
     cases x with
     |some d=>have:=hb d rfl;omega
     |none=>
      simp only at hc
      obtain⟨d,hd,e1⟩:=find_some_label hc
      have:=(hl0.1 d hd).2
      omega
   ·rw[if_neg hd]at hc
    have:=hb c hc
    omega
end Go.Vg
