/-
  This text proves what these texts prove: VgE, VgF, VgG. Conditions: those of each theorem.
-/
import Derived.Great.BuildSlice
import Derived.Test.YtfocopihipejfaaGreatB01
set_option maxHeartbeats 8000000
set_option linter.all false
namespace Go.Vg
open Go.RowKit
theorem aas(off:Nat):∀ (vs:List Value) (k:Nat) (cells:Array Value),off+k+vs.length<=cells.size->
 ((vs.zipIdx k).foldl (fun cs (p:Value×Nat)=>cs.setIfInBounds (off+p.2) p.1) cells)=(cells.toList.take (off+k)++vs++cells.toList.drop (off+k+vs.length)).toArray
 | [],k,cells,_=>by simp
 |v::vs,k,cells,h=>by
  simp only[mU]at h
  rw[List.zipIdx_cons,List.foldl_cons,aas off vs (k+1) _ (by simp;omega)]
  congr 1
  apply Yk
  intro q
  simp only[X9,mU]
  rw[show off+(k+1)=off+k+1 from rfl,show off+k+(vs.length+1)=off+k+1+vs.length from by omega]
  simp only[List.getElem?_append,dI,eY,List.length_set,tO,Be,Fc,List.getElem?_set,mU,show min (off+k) cells.size=off+k by omega,
   show min (off+k+1) cells.size=off+k+1 by omega]
  by_cases h2:q<off+k
  ·simp[show q<off+k+1 by omega,show q<off+k+(vs.length+1) by omega,show q<off+k+1+vs.length by omega,h2,show off+k≠q by omega]
  ·by_cases h3:q=off+k
   ·subst h3;simp[show off+k<cells.size by omega,show off+k<off+k+1+vs.length by omega]
   ·by_cases h4:q<off+k+1+vs.length
    ·simp[h2,h4,show ¬q<off+k+1 by omega,show q<off+k+(vs.length+1) by omega,show q-(off+k)=(q-(off+k+1))+1 by omega]
    ·simp[h4,show ¬q<off+k+(vs.length+1) by omega]
     rw[af (by omega)]
     congr 1
     omega
section
variable {P:Program}{T:Nat->Option Ty}{g:G}{β:Nat->Nat}{F:Nat->Option SV}{L:Nat->Option aC}{n:Nat->Prop}{a:Act}{W:World}
theorem QZ(β:Nat->Nat){v:SV}(h:yY v=true):(den β v).cells=(aM β (cellsOf v)).toArray:=by
 cases v<;>simp_all [yY,den,cellsOf,Value.cells,aM]
theorem Ml{n:Nat->Prop}{v:SV}(h:bd n v):ay n (cellsOf v):=by
 cases v<;>simp_all [cellsOf,bd,ay]
theorem Cx(β:Nat->Nat)(cs vs:List SV)(o:Nat):aM β (splice cs o vs)=(aM β cs).take o++aM β vs++(aM β cs).drop (o+vs.length):=by
 simp[splice,cO]
theorem YX{n:Nat->Prop}{o:Nat}{cs vs:List SV}(h1:ay n cs)(h2:ay n vs):ay n (splice cs o vs):=by
 rw[gI]at *
 intro v hv
 simp only[splice,xN]at hv
 rcases hv with(hv|hv)|hv
 ·exact h1 v (xO hv)
 ·exact h2 v hv
 ·exact h1 v (Fh hv)
theorem Rf(hf:eX g β F n a){pl K1:Nat->Option (Nat×Nat)}(hp:∀i p,pl i=some p->K1 i=some p):∀ {parts:List (Nat×Operand)} {cs r:List SV},ay n cs->nU pl F cs parts=some r->
 Instr.fill K1 (aM β cs).toArray (parts.map fun p=>(p.1,a.eval p.2))=some (aM β r).toArray/\ay n r:=by
 intro parts
 induction parts with
 |nil=>intro cs r hb h;simp only[nU,fc]at h;subst h;exact⟨rfl,hb⟩
 |cons p parts ih=>
  obtain⟨i,x⟩:=p
  intro cs r hb h
  simp only[nU]at h
  cases h1:ev F x with
  |none=>simp[h1]at h
  |some v=>
   cases h2:pl i with
   |none=>cases h0:yY v<;>simp[h1,h2,h0]at h
   |some q=>
    obtain⟨o,s⟩:=q
    cases h0:yY v with
    |false=>simp[h1,h0]at h
    |true=>
    simp only[h1,h2,h0]at h
    cases h3:Nat.beq (cellsOf v).length s with
    |false=>simp[h3]at h
    |true=>
     cases h4:Nat.ble (o+s) cs.length with
     |false=>simp[h3,h4]at h
     |true=>
      simp only[h3,h4]at h
      obtain⟨e1,b1⟩:=cq hf h1
      have h5:(cellsOf v).length=s:=vj h3
      have h6:o+s<=cs.length:=g_ h4
      have hc:(den β v).cells=(aM β (cellsOf v)).toArray:=QZ β h0
      have hl:(aM β (cellsOf v)).length=s:=by rw[cO,fL,h5]
      have eO:(aM β cs).length=cs.length:=by rw[cO,fL]
      obtain⟨r1,r2⟩:=ih (YX hb (Ml b1)) h
      refine⟨?_,r2⟩
      rw[ve]
      simp only[Instr.fill,hp _ _ h2,e1,hc]
      rw[af (by simp[hl,eO];omega)]
      rw[<-r1]
      congr 1
      rw[Cx,h5]
      have:=aas o (aM β (cellsOf v)) 0 (aM β cs).toArray (by simp[hl,eO];omega)
      simp only[gY,hl]at this
      rw[<-this]
      rw[<-Array.foldl_toList]
      simp
theorem aln{fl:List Field}{fs:List (Nat×Nat×Bool)}(h:wv P fl fs=true):fl.mapM (fun f=>(P.info? f.type).map fun i=>(f.offset,i.size))=some (fs.map fun p=>(p.1,p.2.1)):=by
 induction fl generalizing fs with
 |nil=>cases fs<;>simp_all [wv]
 |cons f fl ih=>
  cases fs with
  |nil=>simp[wv]at h
  |cons p fs=>
   obtain⟨o1,s1,a1⟩:=p
   simp only[wv,dq,vT]at h
   obtain⟨⟨⟨h1,h2⟩,h3⟩,h4⟩:=h
   unfold lJ at h2
   obtain⟨i,hi,hs⟩:=Fm.1 h2
   simp[List.mapM_cons,ih h4,hi,hs,h1]
theorem aft(hT:cI P T)(hf:eX g β F n a){t:Nat}{i:Ty}(ht:T t=some i){parts:Array (Nat×Operand)}{cs:List SV}(hg:i.d.agg=true)
 (h:nU (place i) F i.z parts.toList=some cs):(Instr.build t (parts.map fun p=>(p.1,a.eval p.2))).run P W= .ok (.agg (aM β cs).toArray) W/\ay n cs:=by
 obtain⟨info,hi,aJ,z,hz,nC,jl,_⟩:=EV (β:=β) hT ht
 have h1:=hT t i ht
 simp only[tD,dq]at h1
 obtain⟨_,h2⟩:=h1
 have oW:z.cells=(aM β i.z).toArray:=by rw[<-nC]
 have iL:ay n i.z:=jl n
 have NY:(parts.map fun p=>(p.1,a.eval p.2)).toList=parts.toList.map fun p=>(p.1,a.eval p.2):=by simp
 cases hd:i.d with
 |ar m e es ag=>
  rw[hd]at h2
  cases hq:P.underlying t with
  |none=>simp[hq]at h2
  |some d=>
   cases d<;>simp[hq]at h2
   rename_i m' e'
   obtain⟨⟨⟨rfl,rfl⟩,h3⟩,h4⟩:=h2
   unfold lJ at h3
   obtain⟨ie,hie,mB⟩:=Fm.1 h3
   obtain⟨r1,r2⟩:=Rf hf (K1:=fun i=>some (i*ie.size,ie.size)) (fun k p hk=>by simp only[place,hd]at hk;rw[mB];exact hk) iL h
   refine⟨run_build W t _ _ ?_,r2⟩
   simp only[Program.built,hi,hq,hz,hie,NY,oW]
   exact r1
 |st fs=>
  obtain⟨fl,hu,uz⟩:=Rj hT ht hd
  obtain⟨r1,r2⟩:=Rf hf (K1:=fun k=>(fs.map fun p=>(p.1,p.2.1)).toArray[k]?) (fun k p hk=>by
   simp only[place,hd]at hk
   cases fq:fs[k]? with
   |none=>simp[fq]at hk
   |some q=>obtain⟨o,s,ag⟩:=q;simp only[fq,fc]at hk;subst hk;simp[fq]) iL h
  refine⟨run_build W t _ _ ?_,r2⟩
  simp only[Program.built,hi,hu,hz,aln uz,NY,oW]
  exact r1
 |_=>simp[hd,Fo.agg]at hg
theorem abR{x:Operand}{v:SV}(hf:eX g β F n a)(he:ev F x=some v){len:Nat}:(∀j,AP Ar.real x v len= .st j->∃k,a.eval x= .int k j/\j<len)/\(∀j,AP Ar.real x v len= .dy j->∃k,a.eval x= .int k j/\j<len):=by
 have kT:=(cq hf he).1
 have key:∀k q j,v= .int k q->Ar.real.ix q len=some j->a.eval x= .int k j/\j<len:=by
  intro k q j hv hq
  simp only[Ar.real]at hq
  split at hq
  ·rename_i hb
   obtain rfl:=ef hq
   rw[kT,hv]
   refine⟨?_,by omega⟩
   simp only[den]
   congr 1
   omega
  ·cases hq
 have s_:∀j,Kz Ar.real v len= .dy j->∃k,a.eval x= .int k j/\j<len:=by
  intro j h
  unfold Kz at h
  cases v with
  |int k q=>
   simp only at h
   cases hq:Ar.real.ix q len with
   |none=>simp[hq]at h
   |some i=>
    simp only[hq,LO.dy.injEq]at h
    subst h
    exact⟨k,key k q i rfl hq⟩
  |_=>simp at h
 have aW:∀j,Kz Ar.real v len= .st j->False:=by
  intro j h
  unfold Kz at h
  cases v with
  |int k q=>simp only at h;cases hq:Ar.real.ix q len<;>simp[hq]at h
  |_=>simp at h
 unfold AP
 split
 ·rename_i k m
  constructor
  ·intro j h
   cases hb:Nat.blt m len with
   |false=>simp[hb]at h
   |true=>
    simp only[hb,LO.st.injEq]at h
    subst h
    exact⟨k,rfl,g_ hb⟩
  ·intro j h
   cases hb:Nat.blt m len<;>simp[hb]at h
 ·exact⟨fun j h=>(aW j h).elim,s_⟩
theorem Oi{t m e es:Nat}(hu:P.underlying t=some (.array m e))(hs:lJ P e=some es)(b o j:Nat)(k:IntKind)(hj:j<m)(w:World):
 (Instr.indexAt t (.pointer (some ⟨b,o,none⟩)) (.int k j)).run P w= .ok (.pointer (some ⟨b,o+j*es,none⟩)) w:=by
 unfold Instr.indexAt
 simp[Sem.run_bind,run_underlying hu,asIntOf,Instr.sureAddr,rQ hs,tY,hj,show(0:Int)<=j from zi j]
theorem aku{t e es:Nat}(hu:P.underlying t=some (.slice e))(hs:lJ P e=some es)(b o m c j:Nat)(k:IntKind)(hj:j<m)(w:World):
 (Instr.indexAt t (.slice (some ⟨b,o,none⟩) m c) (.int k j)).run P w= .ok (.pointer (some ⟨b,o+j*es,none⟩)) w:=by
 unfold Instr.indexAt
 simp[Sem.run_bind,run_underlying hu,asIntOf,rQ hs,tY,hj,show(0:Int)<=j from zi j]
theorem Qi(hT:cI P T){t:Nat}{i:Ty}(ht:T t=some i){m e es:Nat}{ag:Bool}(hd:i.d= .ar m e es ag):P.underlying t=some (.array m e)/\lJ P e=some es/\zy P e=some ag:=by
 have h1:=hT t i ht
 simp only[tD,dq]at h1
 obtain⟨_,h2⟩:=h1
 rw[hd]at h2
 cases hq:P.underlying t with
 |none=>simp[hq]at h2
 |some d=>
  cases d<;>simp[hq]at h2
  obtain⟨⟨⟨rfl,rfl⟩,h3⟩,h4⟩:=h2
  exact⟨rfl,h3,h4⟩
theorem ma(hT:cI P T){t:Nat}{i:Ty}(ht:T t=some i){e es:Nat}(hd:i.d= .sl e es):P.underlying t=some (.slice e)/\lJ P e=some es:=by
 have h1:=hT t i ht
 simp only[tD,dq]at h1
 obtain⟨_,h2⟩:=h1
 rw[hd]at h2
 cases hq:P.underlying t with
 |none=>simp[hq]at h2
 |some d=>
  cases d<;>simp[hq]at h2
  obtain⟨rfl,h3⟩:=h2
  exact⟨rfl,h3⟩
theorem akz(hT:cI P T)(hf:eX g β F n a){t:Nat}{u r iv:SV}{ix:Operand}(iT:ev F ix=some iv)(BG:bd n u)(h:Uu Ar.real T t u ix iv=some r):
 (Instr.indexAt t (den β u) (a.eval ix)).run P W= .ok (den β r) W/\bd n r:=by
 unfold Uu at h
 cases ht:T t with
 |none=>simp[ht]at h
 |some i=>
  simp only[ht]at h
  obtain⟨s1,s2⟩:=abR hf iT (len:=(match i.d with| .ar m _ _ _=>m|_=>0))
  cases hd:i.d with
  |ar m e es ag=>
   obtain⟨hu,hs,_⟩:=Qi hT ht hd
   simp only[hd]at h s1 s2
   cases u with
   |ptr l o=>
    simp only at h
    cases hx:AP Ar.real ix iv m with
    |no=>simp[hx]at h
    |st j=>
     simp only[hx,fc]at h;subst h
     obtain⟨k,hk,hj⟩:=s1 j hx
     rw[hk]
     exact⟨Oi hu hs _ _ _ _ hj _,BG⟩
    |dy j=>
     simp only[hx,fc]at h;subst h
     obtain⟨k,hk,hj⟩:=s2 j hx
     rw[hk]
     exact⟨Oi hu hs _ _ _ _ hj _,BG⟩
   |gM l o=>
    simp only at h
    cases hx:AP Ar.real ix iv m with
    |no=>simp[hx]at h
    |st j=>
     simp only[hx,fc]at h;subst h
     obtain⟨k,hk,hj⟩:=s1 j hx
     rw[hk]
     exact⟨Oi hu hs _ _ _ _ hj _,BG⟩
    |dy j=>
     simp only[hx,fc]at h;subst h
     obtain⟨k,hk,hj⟩:=s2 j hx
     rw[hk]
     exact⟨Oi hu hs _ _ _ _ hj _,BG⟩
   |_=>simp at h
  |sl e es=>
   obtain⟨hu,hs⟩:=ma hT ht hd
   simp only[hd]at h
   cases u with
   |slice l o m c=>
    simp only at h
    cases iv with
    |int k q=>
     simp only at h
     cases hx:Ar.real.ix q m with
     |none=>simp[hx]at h
     |some j=>
      simp only[hx,fc]at h;subst h
      have he:=(cq hf iT).1
      simp only[Ar.real]at hx
      split at hx
      ·rename_i hb
       obtain rfl:=ef hx
       have:a.eval ix= .int k (q.toNat:Int):=by rw[he];simp only[den];congr 1;omega
       rw[this]
       exact⟨aku hu hs _ _ _ _ _ _ (by omega) _,BG⟩
      ·cases hx
    |_=>simp at h
   |_=>simp at h
  |_=>simp[hd]at h
end
end Go.Vg
namespace Go.Vg
open Go.RowKit
section
variable {P:Program}{T:Nat->Option Ty}{g:G}{β:Nat->Nat}{F:Nat->Option SV}{L:Nat->Option aC}{n:Nat->Prop}{a:Act}{W:World}
theorem aq4{o:Oper}{s:Sem Value}{v:Value}{W':World}(he:execOp a.eval o=(do pure (.value (<-s))))(hs:s.run P W= .ok v W'):(execOp a.eval o).run P W= .ok (.value v) W':=by
 rw[he];simp[hs]
theorem aq6(hT:cI P T)(hm:Mem g β L n W)(hf:eX g β F n a){o:Oper}(hn:native T F o.op=true){r:SV}(h:gd Ar.real T F L o.op=some r):
 (execOp a.eval o).run P W= .ok (.value (den β r)) W/\bd n r:=by
 cases ho:o.op with
 |move x=>
  rw[ho]at h
  obtain⟨e1,b1⟩:=cq hf (show ev F x=some r from h)
  exact⟨by unfold execOp;simp[ho,e1],b1⟩
 |assign x=>
  rw[ho]at h
  obtain⟨e1,b1⟩:=cq hf (show ev F x=some r from h)
  exact⟨by unfold execOp;simp[ho,e1],b1⟩
 |pick c x y=>
  rw[ho]at h
  simp only[gd]at h
  cases hc:ev F c with
  |none=>simp[hc]at h
  |some u=>
   obtain⟨e0,_⟩:=cq hf hc
   cases u with
   |bool t=>
    simp only[hc]at h
    cases t with
    |true=>
     obtain⟨e1,b1⟩:=cq hf (show ev F x=some r from h)
     exact⟨by unfold execOp;simp[ho,e0,e1,den,asBool],b1⟩
    |false=>
     obtain⟨e1,b1⟩:=cq hf (show ev F y=some r from h)
     exact⟨by unfold execOp;simp[ho,e0,e1,den,asBool],b1⟩
   |_=>simp[hc]at h
 |load t x=>
  rw[ho]at h
  simp only[gd]at h
  cases hc:ev F x with
  |none=>simp[hc]at h
  |some u=>
   cases ht:T t with
   |none=>simp[hc,ht]at h
   |some i=>
    simp only[hc,ht]at h
    obtain⟨e0,_⟩:=cq hf hc
    obtain⟨r1,r2⟩:=ada hT hm ht h
    exact⟨by unfold execOp;simp[ho,e0,r1],r2⟩
 |nilCheck x=>
  rw[ho]at h
  simp only[gd]at h
  split at h
  all_goals first
   |(cases h;done)
   |(rename_i hc
     obtain rfl:=ef h
     obtain⟨e0,b0⟩:=cq hf hc
     exact⟨by unfold execOp;simp[ho,e0,den],b0⟩)
 |unOp op t x=>
  rw[ho]at h
  simp only[gd]at h
  cases hc:ev F x with
  |none=>simp[hc]at h
  |some u=>
   simp only[hc]at h
   obtain⟨e0,_⟩:=cq hf hc
   obtain⟨r1,r2⟩:=aq2 (P:=P) (β:=β) (n:=n) h W
   exact⟨by unfold execOp;simp[ho,e0,r1],r2⟩
 |makeFunc f x y=>
  rw[ho]at h
  simp only[gd]at h
  cases h1:lQ F x.toList with
  |none=>simp[h1]at h
  |some xs=>
   cases h2:lQ F y.toList with
   |none=>simp[h1,h2]at h
   |some ys=>
    simp only[h1,h2,fc]at h
    subst h
    obtain⟨e1,b1⟩:=MQ hf h1
    obtain⟨e2,b2⟩:=MQ hf h2
    have m1:x.map a.eval=(aM β xs).toArray:=by rw[<-e1,<-CI]
    have m2:y.map a.eval=(aM β ys).toArray:=by rw[<-e2,<-CI]
    exact⟨by unfold execOp;simp[ho,Instr.makeFunc,den,m1,m2],⟨b1,b2⟩⟩
 |fieldAddr s x f=>
  rw[ho]at h
  simp only[gd]at h
  cases hc:ev F x with
  |none=>simp[hc]at h
  |some u=>
   cases ht:T s with
   |none=>simp[hc,ht]at h
   |some i=>
    simp only[hc,ht]at h
    obtain⟨e0,b0⟩:=cq hf hc
    cases hd:i.d with
    |st fs=>
     simp only[hd]at h
     cases hk:fs[f]? with
     |none=>simp[hk]at h
     |some q=>
      obtain⟨o',s',ag⟩:=q
      simp only[hk]at h
      cases s' with
      |zero=>simp at h
      |succ s'=>
       cases u with
       |ptr l q=>
        simp only[fc]at h
        subst h
        have:=aag hT ht hd hk (β l) q W
        exact⟨by unfold execOp;simp[ho,e0,den,this],b0⟩
       |gM l q=>
        simp only[fc]at h
        subst h
        have:=aag hT ht hd hk (β l) q W
        exact⟨by unfold execOp;simp[ho,e0,den,this,Ar.real],b0⟩
       |_=>simp at h
    |_=>simp[hd]at h
 |field t x f=>
  rw[ho]at h
  simp only[gd]at h
  cases hc:ev F x with
  |none=>simp[hc]at h
  |some u=>
   cases ht:T t with
   |none=>cases u<;>simp[hc,ht]at h
   |some i=>
    obtain⟨e0,b0⟩:=cq hf hc
    cases u with
    |agg cs=>
     simp only[hc,ht]at h
     cases hd:i.d with
     |st fs=>
      simp only[hd]at h
      cases hk:fs[f]? with
      |none=>simp[hk]at h
      |some q=>
       obtain⟨o',s',ag⟩:=q
       simp only[hk]at h
       obtain⟨fl,hu,uz⟩:=Rj hT ht hd
       obtain⟨ff,h1,h2,h3,h4⟩:=aan uz hk
       have IC:fl[f]? =some ff:=by simpa using h1
       obtain⟨r1,r2⟩:=Vo (n:=n) (β:=β) h3 h4 (show ay n cs from b0) (o:=o') (r:=r) (Or.inl h) W
       refine⟨?_,r2⟩
       unfold execOp
       simp[ho,e0,den,Instr.field,run_underlying hu,IC,asAgg,h2,r1]
     |_=>simp[hd]at h
    |_=>simp[hc,ht]at h
 |indexAddr t x ix=>
  rw[ho]at h
  simp only[gd]at h
  cases hc:ev F x with
  |none=>simp[hc]at h
  |some u=>
   cases hi:ev F ix with
   |none=>simp[hc,hi]at h
   |some iv=>
    simp only[hc,hi]at h
    obtain⟨e0,b0⟩:=cq hf hc
    obtain⟨r1,r2⟩:=akz hT hf (W:=W) hi b0 h
    exact⟨by unfold execOp;simp[ho,e0,r1],r2⟩
 |index t x ix=>
  rw[ho]at h
  simp only[gd]at h
  cases hc:ev F x with
  |none=>simp[hc]at h
  |some u=>
   obtain⟨e0,b0⟩:=cq hf hc
   cases hi:ev F ix with
   |none=>cases u<;>simp[hc,hi]at h
   |some iv=>
    obtain⟨e1,b1⟩:=cq hf hi
    cases u with
    |str s=>
     cases iv with
     |int k q=>
      simp only[hc,hi]at h
      cases ht:T t with
      |none=>simp[ht]at h
      |some i=>
       simp only[ht]at h
       have h1:=hT t i ht
       simp only[tD,dq]at h1
       obtain⟨_,h2⟩:=h1
       cases hd:i.d with
       |s=>
        rw[hd]at h2
        simp only[hd]at h
        cases hu:P.underlying t with
        |none=>simp[hu]at h2
        |some d=>
         cases d<;>simp[hu]at h2
         cases hx:Ar.real.lg s q with
         |none=>simp[hx]at h
         |some b=>
          simp only[hx,fc]at h
          subst h
          simp only[Ar.real]at hx
          split at hx
          ·rename_i hq
           obtain⟨c,dP,rfl⟩:=Fm.1 hx
           refine⟨?_,by simp[bd]⟩
           unfold execOp
           simp only[ho,e0,e1,den]
           have:(Instr.index t (.string s) (.int k q)).run P W= .ok (.int .u8 c.toNat) W:=by
            unfold Instr.index
            simp[asIntOf,run_underlying hu,hq,dP]
           simp[this]
          ·cases hx
       |_=>simp[hd]at h
     |_=>simp[hc,hi]at h
    |agg cs=>
     have h':Uv Ar.real T t cs ix iv=some r:=by simpa only[hc,hi]using h
     clear h
     unfold Uv at h'
     cases ht:T t with
     |none=>simp[ht]at h'
     |some q=>
      simp only[ht]at h'
      cases hd:q.d with
      |ar len e es ag=>
       simp only[hd]at h'
       obtain⟨hu,hs,eG⟩:=Qi hT ht hd
       obtain⟨s1,s2⟩:=abR hf hi (len:=len)
       have fin:∀ (k:IntKind) (j:Nat),a.eval ix= .int k j->j<len->(part e (aM β cs).toArray (j*es)).run P W= .ok (den β r) W/\bd n r->(execOp a.eval o).run P W= .ok (.value (den β r)) W/\bd n r:=by
        intro k j hk hj hp
        refine⟨?_,hp.2⟩
        unfold execOp
        simp[ho,e0,den,Instr.index,hk,asIntOf,run_underlying hu,hj,show(0:Int)<=j from zi j,rQ hs,hp.1]
       cases hx:AP Ar.real ix iv len with
       |no=>simp[hx]at h'
       |st j=>
        simp only[hx]at h'
        obtain⟨k,hk,hj⟩:=s1 j hx
        exact fin k j hk hj (Vo hs eG (show ay n cs from b0) (Or.inl h') W)
       |dy j=>
        simp only[hx]at h'
        obtain⟨k,hk,hj⟩:=s2 j hx
        have h3:Ar.real.off 0 j es=j*es:=by simp[Ar.real]
        rw[h3]at h'
        exact fin k j hk hj (Vo hs eG (show ay n cs from b0) (Or.inr h') W)
      |_=>simp[hd]at h'
    |_=>simp[hc,hi]at h
 |extract x i=>
  rw[ho]at h
  simp only[gd]at h
  cases hc:ev F x with
  |none=>simp[hc]at h
  |some u=>
   obtain⟨e0,b0⟩:=cq hf hc
   cases u with
   |aR vs=>
    simp only[hc]at h
    refine⟨?_,Qo (show ay n vs from b0) h⟩
    unfold execOp
    simp[ho,e0,den,Instr.extract,cO,h]
   |_=>simp[hc]at h
 |build t parts=>
  rw[ho]at h
  simp only[gd]at h
  cases ht:T t with
  |none=>simp[ht]at h
  |some i=>
   simp only[ht]at h
   cases hg:i.d.agg with
   |false=>simp[hg]at h
   |true=>
    simp only[hg]at h
    cases hs:nU (place i) F i.z parts.toList with
    |none=>simp[hs]at h
    |some cs=>
     simp only[hs,fc]at h
     subst h
     obtain⟨r1,r2⟩:=aft (W:=W) hT hf ht hg hs
     refine⟨?_,r2⟩
     unfold execOp
     simp[ho,den,r1]
 |binOp op xt x y yt=>
  rw[ho]at h hn
  simp only[gd,native]at h hn
  cases hc:ev F x with
  |none=>simp[hc]at h
  |some u=>
   cases hi:ev F y with
   |none=>simp[hc,hi]at h
   |some v=>
    simp only[hc,hi]at h hn
    obtain⟨e0,b0⟩:=cq hf hc
    obtain⟨e1,b1⟩:=cq hf hi
    have hg:(eqGuard op xt x y (den β u) (den β v)).run P W= .ok () W:=by
     refine ain op xt x y ?_ ?_ W
     ·cases u<;>first|(simp[den];done)|(exfalso;cases v<;>simp at hn)
     ·cases u<;>first|(simp[den];done)|(exfalso;cases v<;>simp at hn)
    have hr:(binOp op xt (den β u) (den β v)).run P W= .ok (den β r) W/\bd n r:=by
     have B6:∀k c,y= .const (.int k c)->v= .int k c:=fun k c e=>by rw[e]at hi;simpa [ev,Vi,eq_comm]using hi
     split at h
     ·exact YZ B6 h W
     ·exact YZ B6 h W
     ·cases ht:T xt with
      |none=>simp[ht]at h
      |some i=>simp only[ht]at h;exact afm hT ht h W
    exact⟨by unfold execOp;simp[ho,e0,e1,hg,hr.1],hr.2⟩
 |convert s d x=>
  rw[ho]at h
  simp only[gd]at h
  cases hc:ev F x with
  |none=>simp[hc]at h
  |some u=>
   obtain⟨e0,b0⟩:=cq hf hc
   cases hs:T s with
   |none=>cases u<;>simp[hc,hs]at h
   |some i0=>
   cases ht:T d with
   |none=>cases u<;>simp[hc,hs,ht]at h
   |some i=>
    cases u with
    |int k m=>
     simp only[hc,hs,ht]at h
     obtain⟨d0,yQ,_⟩:=aeq hT hs
     have h1:=hT d i ht
     simp only[tD,dq]at h1
     obtain⟨_,h2⟩:=h1
     cases hd:i.d with
     |i k'=>
      rw[hd]at h2
      simp only[hd,fc]at h
      subst h
      cases hu:P.underlying d with
      |none=>simp[hu]at h2
      |some dd=>
       cases dd<;>simp[hu]at h2
       subst h2
       refine⟨?_,by simp[bd]⟩
       have:(convert s d (.int k m)).run P W= .ok (.int k' (k'.wrap m)) W:=by
        unfold convert
        simp[run_underlying yQ,run_underlying hu,Conv.intToInt]
       unfold execOp
       simp[ho,e0,den,this,Ar.real]
     |_=>simp[hd]at h
    |_=>simp[hc,hs,ht]at h
 |call c=>
  rw[ho]at h hn
  simp only[gd]at h
  have hb:c.callee= .builtin .len:=by
   simp only[native]at hn
   split at hn
   ·rename_i b hb
    split at hn
    ·exact hb
    ·cases hn
   ·cases hn
  obtain⟨callee,args,sA⟩:=c
  simp only at hb
  subst hb
  split at h
  ·rename_i x t hx sS
   have B5:args= #[x]:=by
    apply rZ;exact hx
   have ajj:sA= #[t]:=by
    apply rZ;exact sS
   subst B5 ajj
   cases hc:ev F x with
   |none=>simp[hc]at h
   |some u=>
    cases ht:T t with
    |none=>simp[hc,ht]at h
    |some i=>
     simp only[hc,ht]at h
     obtain⟨e0,b0⟩:=cq hf hc
     have h1:=hT t i ht
     simp only[tD,dq]at h1
     obtain⟨_,h2⟩:=h1
     have fin:∀v,(Builtin.len_ #[t] o.type #[den β u]).run P W= .ok v W->(execOp a.eval o).run P W= .ok (.value v) W:=by
      intro v hv
      unfold execOp
      simp[ho,resolve,invoke,builtin,e0,hv]
     split at h
     ·rename_i s hd
      rw[hd]at h2
      obtain rfl:=ef h
      refine⟨fin _ ?_,by simp[bd]⟩
      cases hu:P.underlying t with
      |none=>simp[hu]at h2
      |some dd=>
       cases dd<;>simp[hu]at h2
       simp[Builtin.len_,run_underlying hu,den,goInt,Ar.real]
     ·rename_i l o m cc hd
      obtain⟨hu,_⟩:=ma hT ht hd
      obtain rfl:=ef h
      refine⟨fin _ ?_,by simp[bd]⟩
      simp[Builtin.len_,run_underlying hu,den,goInt,Ar.real]
     ·rename_i hd
      obtain⟨hu,_⟩:=ma hT ht hd
      obtain rfl:=ef h
      refine⟨fin _ ?_,by simp[bd]⟩
      simp[Builtin.len_,run_underlying hu,den,goInt]
     ·cases h
  ·cases h
 |_=>rw[ho]at hn;simp[native]at hn
def qG(F:Nat->Option SV)(d:Option Nat)(v:SV):Nat->Option SV:=fun t=>if d=some t then some v else F t
def ic(L:Nat->Option aC)(k:Nat)(b:aC):Nat->Option aC:=fun l=>if l=k then some b else L l
theorem yU(F:FF)(d:Option Nat)(v:SV):look (cH F d v)=qG (look F) d v:=by
 funext t
 cases d with
 |none=>simp[cH,qG]
 |some d=>simp[cH,qG,akN]
theorem eX.put(hf:eX g β F n a){d:Option Nat}(hd:∀t,d=some t->t<g.N){v:SV}(hv:bd n v):eX g β (qG F d v) n (a.put d (den β v)):=by
 refine⟨?_,?_,?_,?_⟩
 ·cases d<;>simp[Act.put,hf.size]
 ·cases d<;>simp[Act.put,hf.defs]
 ·intro t u h
  simp only[qG]at h
  split at h
  ·obtain rfl:=ef h;exact hv
  ·exact hf.bF t u h
 ·intro t u h
  simp only[qG]at h
  split at h
  ·rename_i DK
   obtain rfl:=ef h
   subst DK
   have:=hd t rfl
   simp[Act.put,hf.size,this]
  ·rename_i DK
   have h2:=hf.fr t u h
   cases d with
   |none=>exact h2
   |some d=>
    have:d≠t:=by simpa using DK
    simp only[Act.put,aeT,af this]
    exact h2
theorem eX.mono(hf:eX g β F n a){γ:Nat->Nat}{m:Nat->Prop}(h:∀l,n l->γ l=β l)(hn:∀l,n l->m l):eX g γ F m a:=
 ⟨hf.size,hf.defs,fun t v hv=>zz hn v (hf.bF t v hv),fun t v hv=>by rw[ue h v (hf.bF t v hv)];exact hf.fr t v hv⟩
theorem Mem.alloc(hm:Mem g β L n W){k:Nat}(hk:¬n k){cs:List SV}(hb:ay n cs)(t:TypeId):
 ∃γ,(∀l,n l->γ l=β l)/\γ k=W.heap.size/\Mem g γ (ic L k ⟨k,cs,t⟩) (fun l=>n l\/l=k) (W.alloc (.cells (aM β cs).toArray t)):=by
 obtain⟨γ,eG,oX⟩:∃γ:Nat->Nat,(∀l,n l->γ l=β l)/\γ k=W.heap.size:=⟨fun l=>if l=k then W.heap.size else β l,fun l hl=>af (by rintro rfl;exact hk hl),aj rfl⟩
 refine⟨γ,eG,oX,?_⟩
 have ab:∀l b,L l=some b->β l<W.heap.size:=fun l b hb=>by
  obtain⟨m,_,hc⟩:=hm.cell l b hb
  exact x8 hc
 have eF:∀l b,ic L k ⟨k,cs,t⟩ l=some b->(l=k/\b=⟨k,cs,t⟩)\/(l≠k/\L l=some b):=by
  intro l b h
  simp only[ic]at h
  split at h
  ·rename_i e;exact Or.inl ⟨e,(ef h).symm⟩
  ·rename_i e;exact Or.inr ⟨e,h⟩
 refine⟨fun l hl=>Or.inl (hm.low l hl),?_,?_,?_,?_,?_,?_⟩
 ·intro l hl
  rw[eG l (hm.low l hl)];exact hm.fC l hl
 ·intro l b h hl
  rcases eF l b h with⟨rfl,rfl⟩|⟨_,h⟩
  ·rw[oX];exact Or.inl hm.up.size
  ·rw[eG _ (hm.bL l b h).1];exact hm.new l b h hl
 ·intro l b l' b' h h' ho he
  rcases eF l b h with⟨e1,e2⟩|⟨_,h2⟩<;>rcases eF l' b' h' with⟨e3,e4⟩|⟨_,h3⟩
  ·rw[e1,e3]
  ·rw[e1,oX,eG _ (hm.bL l' b' h3).1]at he
   have:=ab l' b' h3
   omega
  ·rw[e3,oX,eG _ (hm.bL l b h2).1]at he
   have:=ab l b h2
   omega
  ·rw[eG _ (hm.bL l b h2).1,eG _ (hm.bL l' b' h3).1]at he
   exact hm.inj l b l' b' h2 h3 ho he
 ·intro l b h
  rcases eF l b h with⟨rfl,rfl⟩|⟨_,h⟩
  ·exact⟨(0,0),fun _=>Or.inl (aE 0),by rw[oX,heap_alloc_new,nR eG _ hb]⟩
  ·obtain⟨m,h1,h2⟩:=hm.cell l b h
   exact⟨m,h1,by rw[eG _ (hm.bL l b h).1,heap_alloc_old _ _ (ab l b h),h2,nR eG _ (hm.bL l b h).2]⟩
 ·intro l b h
  rcases eF l b h with⟨rfl,rfl⟩|⟨_,h⟩
  ·exact⟨Or.inr rfl,pg (fun l hl=>Or.inl hl) _ hb⟩
  ·exact⟨Or.inl (hm.bL l b h).1,pg (fun l hl=>Or.inl hl) _ (hm.bL l b h).2⟩
 ·refine⟨hm.up.os,hm.up.tape,hm.up.output,?_,?_⟩
  ·have:=hm.up.size;simp;omega
  ·intro i hi hM
   rw[heap_alloc_old _ _ (by have:=hm.up.size;omega)]
   exact hm.up.block i hi hM
theorem Ld(n:Nat):(fun l=>l<n\/l=n)=fun l=>l<n+1:=by
 funext l;exact propext (by omega)
theorem aal{L:LL}{n:Nat}(h:∀l b,find L l=some b->l<n)(cs:List SV)(t:TypeId):find (L++[⟨n,cs,t⟩])=ic (find L) n ⟨n,cs,t⟩:=by
 funext l
 rw[fap]
 simp only[ic,find]
 by_cases hl:l=n
 ·subst hl
  cases hq:find L l with
  |none=>simp
  |some b=>have:=h l b hq;omega
 ·rw[af hl,af (fun e=>hl e.symm)]
  cases find L l<;>rfl
end
end Go.Vg
namespace Go.Vg
open Go.RowKit
theorem AU{ms:List Nat}{l:Nat}(h:eo ms l=true):l∈ms:=by
 induction ms with
 |nil=>simp[eo]at h
 |cons m ms ih=>
  simp only[eo]at h
  by_cases hm:m=l
  ·subst hm;exact kd
  ·rw[af hm]at h;exact lj _ (ih h)
theorem OU{n0:Nat}{ms:List Nat}{l:Nat}(h:own n0 ms l=true):n0<=l\/l∈ms:=by
 unfold own at h
 split at h
 ·rename_i hb;exact Or.inl (g_ hb)
 ·exact Or.inr (AU h)
theorem KX{vs:List SV}(h:nH vs=true):∀v∈vs,one v=true:=by
 induction vs with
 |nil=>simp
 |cons v vs ih=>
  simp only[nH]at h
  cases hv:one v with
  |false=>simp[hv]at h
  |true=>
   simp only[hv]at h
   intro u hu
   rcases List.mem_cons.1 hu with rfl|hu
   ·exact hv
   ·exact ih h u hu
theorem one_den{v:SV}(β:Nat->Nat)(h:one v=true):(den β v).oneCell'=true:=by
 cases v<;>simp_all [one,den,Value.oneCell']
section
variable {P:Program}{T:Nat->Option Ty}{g:G}{β:Nat->Nat}{F:Nat->Option SV}{L:Nat->Option aC}{n:Nat->Prop}{a:Act}{W:World}
theorem rO.frozen{m:Nat×Nat}{n:Nat}(h:rO m n){W:World}{g:Nat}{cs:Array Value}{t:TypeId}(hg:W.heap[g]? =some (.cells cs t m)){o:Nat}(ho:o<n):W.frozen? ⟨g,o,none⟩=false:=by
 obtain⟨lo,hi⟩:=m
 simp only[World.frozen?,hg,Bool.and_eq_false_iff,decide_eq_false_iff_not]
 rcases h with h|h
 ·simp only at h;by_cases h2:lo<=o
  ·right;omega
  ·left;omega
 ·simp only at h;left;omega
theorem EI(g off:Nat)(t:TypeId)(m:Nat×Nat):∀ (vs:List Value) (i:Nat) (cur:Array Value) (w:World),w.heap[g]? =some (.cells cur t m)->rO m cur.size->off+i+vs.length<=cur.size->(∀v∈vs,v.oneCell'=true)->
 (storeCells ⟨g,off,none⟩ vs i).run P w= .ok () (w.setRow g (cur.toList.take (off+i)++vs++cur.toList.drop (off+i+vs.length)).toArray)
 | [],i,cur,w,hg,_,_,_=>by
   simp only[storeCells,gg,pN,gY,PY,Array.toArray_toList]
   rw[setRow_self w g cur t m hg];rfl
 |v::rest,i,cur,w,hg,hm,hl,h1=>by
  have hi:off+i<cur.size:=by simp at hl;omega
  have js:w.cell? ⟨g,off+i,none⟩=some cur[off+i]:=by simp[World.cell?,hg,hi]
  have ajM:w.frozen? ⟨g,off+i,none⟩=false:=hm.frozen hg hi
  have aW:(store ((⟨g,off,none⟩:Addr).add i) v).run P w= .ok () (w.setRow g (cur.setIfInBounds (off+i) v)):=by
   rw[tY,run_store P w _ v _ (h1 v (by simp)),js]
   simp[ajM,setCell_eq_setRow w g (off+i) cur t m v hg]
  have ih:=EI g off t m rest (i+1) (cur.setIfInBounds (off+i) v) (w.setRow g (cur.setIfInBounds (off+i) v)) (setRow_heap w g cur _ t _ hg) (by simpa using hm) (by simp at hl⊢;omega) (fun x hx=>h1 x (by simp[hx]))
  simp only[storeCells,Sem.run_bind,aW,Result.andThen_ok,ih,setRow_setRow]
  congr 3
  apply Yk
  intro k
  simp only[X9,mU]
  rw[show off+(i+1)=off+i+1 from rfl,show off+i+(rest.length+1)=off+i+1+rest.length from by omega]
  simp only[List.getElem?_append,dI,eY,List.length_set,tO,Be,List.getElem?_set,mU,show min (off+i) cur.size=off+i by omega,
   show min (off+i+1) cur.size=off+i+1 by simp at hl;omega]
  by_cases h2:k<off+i
  ·simp[show k<off+i+1 by omega,show k<off+i+(rest.length+1) by omega,show k<off+i+1+rest.length by omega,h2,show off+i≠k by omega]
  ·by_cases h3:k=off+i
   ·subst h3;simp[hi,show off+i<off+i+1+rest.length by omega]
   ·by_cases h4:k<off+i+1+rest.length
    ·simp[h2,h4,show ¬k<off+i+1 by omega,show k<off+i+(rest.length+1) by omega,show k-(off+i)=(k-(off+i+1))+1 by omega]
    ·simp[h4,show ¬k<off+i+(rest.length+1) by omega]
     rw[af (by omega)]
     congr 1
     omega
theorem apQ{ty g off s:Nat}{t:TypeId}{m:Nat×Nat}{fC vs:List Value}{v:Value}(hg:W.heap[g]? =some (.cells fC.toArray t m))(hm:rO m fC.length)(hv:v.cells=vs.toArray)(hs:lJ P ty=some s)(hl:vs.length=s)
 (ho:off+s<=fC.length) (h1:∀x∈vs,x.oneCell'=true):
 (storeVar ty ⟨g,off,none⟩ v).run P W= .ok () (W.setRow g (fC.take off++vs++fC.drop (off+vs.length)).toArray):=by
 have:=EI (P:=P) g off t m vs 0 fC.toArray W hg (by simpa using hm) (by simp;omega) h1
 unfold storeVar
 simp only[Sem.run_bind,rQ hs,Result.andThen_ok,hv,CM]
 rw[af (by omega)]
 simpa using this
theorem aqs{cs vs:List SV}{o:Nat}(h:o+vs.length<=cs.length):(splice cs o vs).length=cs.length:=by
 simp only[splice,dI,eY,iY];omega
theorem Mem.store(hm:Mem g β L n W){l o:Nat}{b:aC}(hb:L l=some b){vs:List SV}(hle:o+vs.length<=b.cs.length)(c_:own g.n0 g.ms l=true)(iz:ay n vs):
 Mem g β (ic L l ⟨b.l,splice b.cs o vs,b.t⟩) n (W.setRow (β l) (aM β (splice b.cs o vs)).toArray):=by
 obtain⟨mk,ajW,js⟩:=hm.cell l b hb
 have fJ:=ajW c_
 have eF:∀k c,ic L l ⟨b.l,splice b.cs o vs,b.t⟩ k=some c->(k=l/\c=⟨b.l,splice b.cs o vs,b.t⟩)\/(k≠l/\L k=some c):=by
  intro k c h
  simp only[ic]at h
  split at h
  ·rename_i e;exact Or.inl ⟨e,(ef h).symm⟩
  ·rename_i e;exact Or.inr ⟨e,h⟩
 have TU:∀k c,ic L l ⟨b.l,splice b.cs o vs,b.t⟩ k=some c->∃d,L k=some d:=by
  intro k c h
  rcases eF k c h with⟨rfl,_⟩|⟨_,h⟩
  ·exact⟨b,hb⟩
  ·exact⟨c,h⟩
 refine⟨hm.low,hm.fC,?_,?_,?_,?_,?_⟩
 ·intro k c h hl
  obtain⟨d,hd⟩:=TU k c h
  exact hm.new k d hd hl
 ·intro k c k' c' h h' ho he
  obtain⟨d,hd⟩:=TU k c h
  obtain⟨d',aA⟩:=TU k' c' h'
  exact hm.inj k d k' d' hd aA ho he
 ·intro k c h
  rcases eF k c h with⟨rfl,rfl⟩|⟨ek,h⟩
  ·exact⟨mk,fun _=>by rw[aqs hle];exact fJ,setRow_heap W (β k) _ _ _ _ js⟩
  ·obtain⟨m,h1,h2⟩:=hm.cell k c h
   exact⟨m,h1,by rw[setRow_other _ _ _ _ (fun e=>ek (hm.inj l b k c hb h c_ e.symm).symm)];exact h2⟩
 ·intro k c h
  rcases eF k c h with⟨rfl,rfl⟩|⟨_,h⟩
  ·exact⟨(hm.bL k b hb).1,YX (hm.bL k b hb).2 iz⟩
  ·exact hm.bL k c h
 ·have ek:∀k,k<g.W0.heap.size->¬g.mod k->k≠β l:=by
   intro k hk hM e
   rcases OU c_ with h|h
   ·rcases hm.new l b hb h with h2|h2
    ·omega
    ·exact hM (e▸h2)
   ·by_cases h0:l<g.n0
    ·exact hM ⟨l,h,by rw[e,hm.fC l h0]⟩
    ·rcases hm.new l b hb (by omega)with h2|h2
     ·omega
     ·exact hM (e▸h2)
  refine⟨hm.up.os,hm.up.tape,hm.up.output,?_,?_⟩
  ·have:(W.setRow (β l) (aM β (splice b.cs o vs)).toArray).heap.size=W.heap.size:=by simp[World.setRow]
   rw[this];exact hm.up.size
  ·intro k hk hM
   rw[setRow_other _ _ _ _ (ek k hk hM)]
   exact hm.up.block k hk hM
theorem Pj{o:Oper}{next:Act->World->Prop}{Q:Exit->Act->World->Prop}{v:Value}{W':World}(h:(execOp a.eval o).run P W= .ok (.value v) W')(hn:next (a.put o.dst v) W'):o.wp P a W next Q:=by
 unfold Oper.wp
 rw[h];exact hn
theorem aq3{o:Oper}{next:Act->World->Prop}{Q:Exit->Act->World->Prop}{W':World}(h:(execOp a.eval o).run P W= .ok .skip W')(hn:next (a.put o.dst undef) W'):o.wp P a W next Q:=by
 unfold Oper.wp
 rw[h];exact hn
theorem adk(z:List SV)(hz:z≠ [])(m:Nat):rep m z=(List.range (m*z.length)).map fun q=>z.getD (q%z.length) default:=by
 have abg:0<z.length:=Yl.2 hz
 induction m with
 |zero=>simp[rep]
 |succ m ih=>
  rw[rep,ih,show(m+1)*z.length=z.length+m*z.length by rw[cw];omega,List.range_add,CJ]
  congr 1
  ·apply Yk
   intro q
   by_cases h:q<z.length
   ·simp[h,aO h]
   ·simp[vC.1 h]
  ·rw[CK]
   apply PV
   intro q _
   simp[Nat.add_mod_left]
theorem G4{k:Nat->Prop}{z:List SV}(h:ay k z)(m:Nat):ay k (rep m z):=by
 induction m with
 |zero=>trivial
 |succ m ih=>
  rw[rep,gI]
  intro v hv
  rcases List.mem_append.1 hv with hv|hv
  ·exact(gI _ _).1 h v hv
  ·exact(gI _ _).1 ih v hv
theorem afs(hT:cI P T)(hf:eX g β F n a){t:Nat}{i:Ty}(ht:T t=some i){e es:Nat}(hd:i.d= .sl e es){j:Ty}(hj:T e=some j){m:Nat}(b_:m*j.sz<=16777216)(cU:1<=m*j.sz)
 {parts:Array (Nat×Operand)} {cs:List SV} (h:nU (place i) F (rep m j.z) parts.toList=some cs):
 (Instr.buildSlice t m (parts.map fun p=>(p.1,a.eval p.2))).run P W= .ok (.slice (some ⟨W.heap.size,0,none⟩) m m) (W.alloc (.cells (aM β cs).toArray e))/\ay n cs:=by
 obtain⟨hu,hs⟩:=ma hT ht hd
 obtain⟨info,hi,aJ,z,hz,nC,jl,_,iL⟩:=EV (β:=β) hT hj
 have mB:es=j.sz:=by
  have:=Wb hT hj
  rw[this]at hs
  exact(ef hs).symm
 subst mB
 have nD:z.cells.size=j.z.length:=by rw[<-tO,nC,cO,fL]
 have NY:(parts.map fun p=>(p.1,a.eval p.2)).toList=parts.toList.map fun p=>(p.1,a.eval p.2):=by simp
 obtain⟨r1,r2⟩:=Rf hf (K1:=fun k=>some (k*info.size,info.size)) (fun k p hk=>by simp only[place,hd]at hk;rw[aJ];exact hk) (G4 (jl n) m) h
 refine⟨run_buildSlice W t e m _ _ info z hu hi hz (by rw[aJ];omega) (by rw[aJ];omega) ?_,r2⟩
 rw[NY,<-r1]
 congr 1
 apply rZ
 have ek:j.z≠ []:=by
  intro e
  rw[e]at iL
  simp only[pN]at iL
  rw[<-iL]at cU
  omega
 rw[cO,adk _ ek,CK,iL,<-aJ]
 simp only[CI,Array.toList_range]
 apply PV
 intro q _
 have ab:q%info.size<j.z.length:=by rw[iL,<-aJ];exact ax _ (by rw[aJ,<-iL];exact Yl.2 ek)
 have AN:z.cells.size=info.size:=by rw[nD,iL,aJ]
 simp only[Function.comp]
 rw[AN]
 have h1:z.cells[q%info.size]? =some (den β (j.z.getD (q%info.size) default)):=by
  rw[<-E',nC,cO,xM,jo ab,jQ,jo ab]
  rfl
 have h2:q%info.size<z.cells.size:=by rw[nD];exact ab
 rw[getElem!_pos z.cells _ h2]
 rw[oA h2]at h1
 exact ef h1
inductive Ho where
 |val (v:SV)
 |new (v:Nat->SV) (cs:List SV) (t:TypeId)
 |wr (l:Nat) (o:Nat) (vs:List SV)
inductive fF (T:Nat->Option Ty) (F:Nat->Option SV) (L:Nat->Option aC):Op->Ho->Prop
 |val {op:Op} {v:SV}:native T F op=true->gd Ar.real T F L op=some v->fF T F L op (.val v)
 |alloc {e:Nat} {i:Ty}:T e=some i->fF T F L (.alloc e) (.new (fun n=> .ptr n 0) i.z e)
 |box {e:Nat} {x:Operand} {v:SV}:ev F x=some v->yY v=true->fF T F L (.box e x) (.new (fun n=> .ptr n 0) (cellsOf v) e)
 |buildSlice {t m e es:Nat} {parts:Array (Nat×Operand)} {i j:Ty} {cs:List SV}:T t=some i->i.d= .sl e es->T e=some j->m*j.sz<=16777216->1<=m*j.sz->nU (place i) F (rep m j.z) parts.toList=some cs->
  fF T F L (.buildSlice t m parts) (.new (fun n=> .slice n 0 m m) cs e)
 |store {t:Nat} {x y:Operand} {p u:SV} {i:Ty} {l o:Nat} {b:aC}:ev F x=some p->ev F y=some u->T t=some i->(cellsOf u).length=i.sz->nH (cellsOf u)=true->L l=some b->(p= .ptr l o\/p= .gM l o)->o+(cellsOf u).length<=b.cs.length->
  fF T F L (.store t x y) (.wr l o (cellsOf u))
theorem fF.sound(hT:cI P T)(hm:Mem g β L n W)(hf:eX g β F n a){o:Oper}(hd:∀t,o.dst=some t->t<g.N){e:Ho}(hr:fF T F L o.op e){next:Act->World->Prop}{Q:Exit->Act->World->Prop}:
 (∀v,e= .val v->(∀a' W',bd n v->Mem g β L n W'->eX g β (qG F o.dst v) n a'->next a' W')->o.wp P a W next Q)/\
 (∀f cs t k,e= .new f cs t->¬n k->(∀γ a' W',(∀l,n l->γ l=β l)->ay n cs->Mem g γ (ic L k ⟨k,cs,t⟩) (fun l=>n l\/l=k) W'->eX g γ (qG F o.dst (f k)) (fun l=>n l\/l=k) a'->next a' W')->o.wp P a W next Q)/\
 (∀l q vs b,e= .wr l q vs->L l=some b->own g.n0 g.ms l=true->(∀a' W',ay n vs->Mem g β (ic L l ⟨b.l,splice b.cs q vs,b.t⟩) n W'->eX g β (qG F o.dst (.raw undef)) n a'->next a' W')->o.wp P a W next Q):=by
 have news:∀ {e:Nat} {cs:List SV} {f:Nat->SV} {s:Sem Value} {k:Nat},execOp a.eval o=(do pure (.value (<-s)))->ay n cs->(∀γ:Nat->Nat,γ k=W.heap.size->s.run P W= .ok (den γ (f k)) (W.alloc (.cells (aM β cs).toArray e)))->bd (fun l=>n l\/l=k) (f k)->¬n k->
  (∀γ a' W',(∀l,n l->γ l=β l)->ay n cs->Mem g γ (ic L k ⟨k,cs,e⟩) (fun l=>n l\/l=k) W'->eX g γ (qG F o.dst (f k)) (fun l=>n l\/l=k) a'->next a' W')->o.wp P a W next Q:=by
  intro e cs f s k he hb hs eE hk gj
  obtain⟨γ,g1,g2,g3⟩:=hm.alloc hk hb e
  exact Pj (aq4 he (hs γ g2)) (gj γ _ _ g1 hb g3 ((hf.mono g1 (fun l hl=>Or.inl hl)).put hd eE))
 generalize iI:o.op=op at hr
 cases hr with
 |val hn hv=>
  subst iI
  refine⟨?_,fun _ _ _ _ h=>(by cases h),fun _ _ _ _ h=>(by cases h)⟩
  intro v e gj
  cases e
  obtain⟨e1,b1⟩:=aq6 hT hm hf hn hv
  exact Pj e1 (gj _ _ b1 hm (hf.put hd b1))
 | @alloc ee ii ht=>
   refine⟨fun _ h=>(by cases h),?_,fun _ _ _ _ h=>(by cases h)⟩
   rintro f cs t k e hk gj
   cases e
   obtain⟨info,hi,aJ,z,hz,nC,jl,_⟩:=EV (β:=β) hT ht
   have oW:z.cells=(aM β ii.z).toArray:=by rw[<-nC]
   refine news (e:=ee) (f:=fun n=> .ptr n 0) (s:=Instr.alloc ee true (.tuple #[])) (by unfold execOp;simp only[iI]) (jl n) ?_ (show bd (fun l=>n l\/l=k) (.ptr k 0)from Or.inr rfl) hk gj
   intro γ gE
   simp[Instr.alloc,zeroValue,typeInfo,hi,hz,newVar,newRow,oW,den,gE]
 | @box ee x v hx hr=>
   refine⟨fun _ h=>(by cases h),?_,fun _ _ _ _ h=>(by cases h)⟩
   rintro f cs t k e hk gj
   cases e
   obtain⟨e0,b0⟩:=cq hf hx
   refine news (e:=ee) (f:=fun n=> .ptr n 0) (s:=Instr.box ee (a.eval x)) (by unfold execOp;simp only[iI]) (Ml b0) ?_ (show bd (fun l=>n l\/l=k) (.ptr k 0)from Or.inr rfl) hk gj
   intro γ gE
   simp[Instr.box,newVar,newRow,e0,QZ β hr,den,gE]
 | @buildSlice tt m ee es parts ii jj cs0 ht aA hj h1 h2 hs=>
   refine⟨fun _ h=>(by cases h),?_,fun _ _ _ _ h=>(by cases h)⟩
   rintro f cs t k e hk gj
   cases e
   obtain⟨r1,r2⟩:=afs (W:=W) hT hf ht aA hj h1 h2 hs
   refine news (e:=ee) (f:=fun n=> .slice n 0 m m) (s:=Instr.buildSlice tt m (parts.map fun p=>(p.1,a.eval p.2))) (by unfold execOp;simp only[iI]) r2 ?_ (show bd (fun l=>n l\/l=k) (.slice k 0 m m)from Or.inr rfl) hk gj
   intro γ gE
   simpa [den,gE]using r1
 | @store tt x y p u ii ll oo bb hx hy ht hlen tj hL hp hle=>
   refine⟨fun _ h=>(by cases h),fun _ _ _ _ h=>(by cases h),?_⟩
   rintro l q vs b e hb c_ gj
   cases e
   obtain rfl:b=bb:=ef (hb.symm.trans hL)
   obtain⟨e0,b0⟩:=cq hf hx
   obtain⟨e1,b1⟩:=cq hf hy
   have Ap:yY u=true:=by
    cases u<;>simp_all [yY,cellsOf,nH,one]
   have hpd:den β p= .pointer (some ⟨β ll,oo,none⟩):=by rcases hp with rfl|rfl<;>rfl
   obtain⟨mk,fJ,js⟩:=hm.cell ll b hb
   have gA:=apQ (P:=P) (W:=W) (off:=oo) js (by simpa [cO]using fJ c_) (QZ β Ap) (Wb hT ht) (by rw[cO,fL,hlen]) (by rw[cO,fL];omega)
    (fun x hx=>by
     rw[cO]at hx
     obtain⟨y,hy,rfl⟩:=iZ.1 hx
     exact one_den β (KX tj y hy))
   have he:(execOp a.eval o).run P W= .ok .skip (W.setRow (β ll) (aM β (splice b.cs oo (cellsOf u))).toArray):=by
    unfold execOp
    simp only[iI,e0,e1,hpd,Instr.storeAt,Instr.sureAddr,Sem.run_bind,Sem.run_pure,Result.andThen_ok,gA]
    rw[Cx]
    simp[cO]
   exact aq3 he (gj _ _ (Ml b1) (hm.store hb (by omega) c_ (Ml b1)) (hf.put hd (v:= .raw undef) (by simp[bd])))
theorem aez{F:FF}{L:LL}{n n0:Nat}{ms:List Nat}{o:Oper}{S:Prop}{Kv:FF->Prop}{Kn:FF->aC->Prop}{Kw:FF->Nat->List SV->Prop}(h:ze T Ar.real n0 ms S Kv Kn Kw o F L n):
 S\/(∃v,fF T (look F) (find L) o.op (.val v)/\Kv (cH F o.dst v))\/(∃f cs t,fF T (look F) (find L) o.op (.new f cs t)/\Kn (cH F o.dst (f n)) ⟨n,cs,t⟩)\/
 (∃l q vs b,fF T (look F) (find L) o.op (.wr l q vs)/\find L l=some b/\own n0 ms l=true/\Kw (cH F o.dst (.raw undef)) l (splice b.cs q vs)):=by
 have other:(match native T (look F) o.op with
  |true=>match gd Ar.real T (look F) (find L) o.op with
   |some v=>Kv (cH F o.dst v)
   |none=>False
  |false=>S)->S\/(∃v,fF T (look F) (find L) o.op (.val v)/\Kv (cH F o.dst v)):=by
  intro h2
  cases hn:native T (look F) o.op with
  |false=>simp only[hn]at h2;exact Or.inl h2
  |true=>
   simp only[hn]at h2
   cases hv:gd Ar.real T (look F) (find L) o.op with
   |none=>simp[hv]at h2
   |some r=>simp only[hv]at h2;exact Or.inr ⟨r,.val hn hv,h2⟩
 unfold ze at h
 split at h
 ·rename_i e ho
  cases ht:T e with
  |none=>simp[ht]at h
  |some i=>
   simp only[ht]at h
   exact Or.inr (Or.inr (Or.inl ⟨_,_,_,by rw[ho];exact .alloc ht,h⟩))
 ·rename_i e x ho
  cases hx:ev (look F) x with
  |none=>simp[hx]at h
  |some v=>
   simp only[hx]at h
   cases hr:yY v with
   |false=>simp[hr]at h
   |true=>
    simp only[hr]at h
    exact Or.inr (Or.inr (Or.inl ⟨_,_,_,by rw[ho];exact .box hx hr,h⟩))
 ·rename_i t m parts ho
  cases ht:T t with
  |none=>simp[ht]at h
  |some i=>
   simp only[ht]at h
   cases aA:i.d with
   |sl e es=>
    simp only[aA]at h
    cases hj:T e with
    |none=>simp[hj]at h
    |some j=>
     simp only[hj]at h
     cases cS:Nat.ble (m*j.sz) 16777216 with
     |false=>simp[cS]at h
     |true=>
      cases cW:Nat.ble 1 (m*j.sz)with
      |false=>
       simp only[cS,cW]at h
       exact Or.inl h
      |true=>
       simp only[cS,cW]at h
       cases hs:nU (place i) (look F) (rep m j.z) parts.toList with
       |none=>simp[hs]at h
       |some cs=>
        simp only[hs]at h
        exact Or.inr (Or.inr (Or.inl ⟨_,_,_,by rw[ho];exact .buildSlice ht aA hj (g_ cS) (g_ cW) hs,h⟩))
   |_=>simp[aA]at h
 ·rename_i t x v ho
  cases hx:ev (look F) x with
  |none=>simp[hx]at h
  |some p=>
   cases hv:ev (look F) v with
   |none=>simp[hx,hv]at h
   |some u=>
    cases ht:T t with
    |none=>simp[hx,hv,ht]at h
    |some i=>
     simp only[hx,hv,ht]at h
     cases cS:Nat.beq (cellsOf u).length i.sz with
     |false=>simp[cS]at h
     |true=>
      cases cW:nH (cellsOf u)with
      |false=>simp[cS,cW]at h
      |true=>
       simp only[cS,cW]at h
       cases hw:wr Ar.real (find L) (cellsOf u) p with
       |none=>simp[hw]at h
       |some q=>
        obtain⟨l,cs⟩:=q
        simp only[hw]at h
        cases nj:own n0 ms l with
        |false=>simp[nj]at h
        |true=>
         simp only[nj]at h
         have hlen:(cellsOf u).length=i.sz:=vj cS
         have key:∃b o',find L l=some b/\(p= .ptr l o'\/p= .gM l o')/\o'+(cellsOf u).length<=b.cs.length/\cs=splice b.cs o' (cellsOf u):=by
          cases p with
          |ptr l' o'=>
           simp only[wr]at hw
           cases aT:find L l' with
           |none=>simp[aT]at hw
           |some b=>
            simp only[aT]at hw
            cases hs:V6 b.cs o' (cellsOf u)with
            |none=>simp[hs]at hw
            |some ZR=>
             simp only[hs,fc,xT]at hw
             obtain⟨rfl,rfl⟩:=hw
             unfold V6 at hs
             split at hs
             ·rename_i jD
              exact⟨b,o',aT,Or.inl rfl,g_ jD,(ef hs).symm⟩
             ·cases hs
          |gM l' o'=>
           simp only[wr]at hw
           cases aT:find L l' with
           |none=>simp[aT]at hw
           |some b=>
            simp only[aT]at hw
            cases hs:Ar.real.eU b.cs o' (cellsOf u)with
            |none=>simp[hs]at hw
            |some ZR=>
             simp only[hs,fc,xT]at hw
             obtain⟨rfl,rfl⟩:=hw
             simp only[Ar.real]at hs
             split at hs
             ·rename_i jD
              exact⟨b,o',aT,Or.inr rfl,jD,(ef hs).symm⟩
             ·cases hs
          |_=>simp[wr]at hw
         obtain⟨b,o',yF,hp,hle,rfl⟩:=key
         exact Or.inr (Or.inr (Or.inr ⟨l,o',_,b,by rw[ho];exact .store hx hv ht hlen cW yF hp hle,yF,nj,h⟩))
 ·exact(other h).imp id Or.inl
theorem aq'(hT:cI P T){F:FF}{L:LL}{n:Nat}{n0:Nat}{ms:List Nat}(h0:g.n0=n0)(h1:g.ms=ms){o:Oper}(hd:∀t,o.dst=some t->t<g.N){K:FF->LL->Nat->Prop}(h:Ll T Ar.real P g n0 ms o K F L n):
 Step g P o K F L n:=by
 subst h0 h1
 rcases aez h with h|⟨v,hr,hk⟩|⟨f,cs,t,hr,hk⟩|⟨l,q,vs,b,hr,hb,c_,hk⟩
 ·exact h
 ·refine⟨?_⟩
  rintro a W ⟨β,hm,hf⟩ next Q hK
  refine(fF.sound hT hm hf hd hr).1 v rfl fun a' W' _ fb aT=>hK _ _ _ _ _ hk ⟨β,fb,?_⟩
  rw[yU];exact aT
 ·refine⟨?_⟩
  rintro a W ⟨β,hm,hf⟩ next Q hK
  refine(fF.sound hT hm hf hd hr).2.1 f cs t n rfl (iO n) fun γ a' W' _ _ fb aT=>hK _ _ _ _ _ hk ⟨γ,?_,?_⟩
  ·rw[aal (fun l b h=>(hm.bL l b h).1),<-Ld];exact fb
  ·rw[yU,<-Ld];exact aT
 ·refine⟨?_⟩
  rintro a W ⟨β,hm,hf⟩ next Q hK
  refine(fF.sound hT hm hf hd hr).2.2 l q vs b rfl hb c_ fun a' W' _ fb aT=>hK _ _ _ _ _ hk ⟨β,?_,?_⟩
  ·have:find (me L l (splice b.cs q vs))=ic (find L) l ⟨b.l,splice b.cs q vs,b.t⟩:=by
    funext k
    rw[wu,hb];rfl
   rw[this];exact fb
  ·rw[yU];exact aT
end
end Go.Vg
