/-
  This text proves what these texts prove: VgE, VgF, VgG. Conditions: those of each theorem.
-/
import Derived.Great.BuildSlice
import Derived.Test.YtdhmihfefgcbeaaGreatY01
set_option maxHeartbeats 8000000
set_option linter.all false
namespace Go.Vg
open Go.RowKit
theorem foldl_put(off:Nat):∀ (vs:List Value) (k:Nat) (cells:Array Value),off+k+vs.length<=cells.size->
 ((vs.zipIdx k).foldl (fun cs (p:Value×Nat)=>cs.setIfInBounds (off+p.2) p.1) cells)=(cells.toList.take (off+k)++vs++cells.toList.drop (off+k+vs.length)).toArray
 | [],k,cells,_=>by simp
 |v::vs,k,cells,h=>by
  simp only[List.length_cons]at h
  rw[List.zipIdx_cons,List.foldl_cons,foldl_put off vs (k+1) _ (by simp;omega)]
  congr 1
  apply List.ext_getElem?
  intro q
  simp only[Array.toList_setIfInBounds,List.length_cons]
  rw[show off+(k+1)=off+k+1 from rfl,show off+k+(vs.length+1)=off+k+1+vs.length from by omega]
  simp only[List.getElem?_append,List.length_append,List.length_take,List.length_set,Array.length_toList,List.getElem?_drop,List.getElem?_take,List.getElem?_set,List.length_cons,show min (off+k) cells.size=off+k by omega,
   show min (off+k+1) cells.size=off+k+1 by omega]
  by_cases h2:q<off+k
  ·simp[show q<off+k+1 by omega,show q<off+k+(vs.length+1) by omega,show q<off+k+1+vs.length by omega,h2,show off+k≠q by omega]
  ·by_cases h3:q=off+k
   ·subst h3;simp[show off+k<cells.size by omega,show off+k<off+k+1+vs.length by omega]
   ·by_cases h4:q<off+k+1+vs.length
    ·simp[h2,h4,show ¬q<off+k+1 by omega,show q<off+k+(vs.length+1) by omega,show q-(off+k)=(q-(off+k+1))+1 by omega]
    ·simp[h4,show ¬q<off+k+(vs.length+1) by omega]
     rw[if_neg (by omega)]
     congr 1
     omega
section
variable {P:Program}{T:Nat->Option Ty}{g:G}{β:Nat->Nat}{F:Nat->Option SV}{L:Nat->Option Blk}{n:Nat->Prop}{a:Act}{W:World}
theorem cells_den2(β:Nat->Nat){v:SV}(h:noRaw v=true):(den β v).cells=(denL β (cellsOf v)).toArray:=by
 cases v<;>simp_all [noRaw,den,cellsOf,Value.cells,denL]
theorem bd_cells{n:Nat->Prop}{v:SV}(h:bd n v):bdL n (cellsOf v):=by
 cases v<;>simp_all [cellsOf,bd,bdL]
theorem splice_den(β:Nat->Nat)(cs vs:List SV)(o:Nat):denL β (splice cs o vs)=(denL β cs).take o++denL β vs++(denL β cs).drop (o+vs.length):=by
 simp[splice,dle]
theorem bdL_splice{n:Nat->Prop}{o:Nat}{cs vs:List SV}(h1:bdL n cs)(h2:bdL n vs):bdL n (splice cs o vs):=by
 rw[bdi]at *
 intro v hv
 simp only[splice,List.mem_append]at hv
 rcases hv with(hv|hv)|hv
 ·exact h1 v (List.mem_of_mem_take hv)
 ·exact h2 v hv
 ·exact h1 v (List.mem_of_mem_drop hv)
theorem fillS_sound(hf:Fra g β F n a){pl pl':Nat->Option (Nat×Nat)}(hp:∀i p,pl i=some p->pl' i=some p):∀ {parts:List (Nat×Operand)} {cs r:List SV},bdL n cs->fillS pl F cs parts=some r->
 Instr.fill pl' (denL β cs).toArray (parts.map fun p=>(p.1,a.eval p.2))=some (denL β r).toArray/\bdL n r:=by
 intro parts
 induction parts with
 |nil=>intro cs r hb h;simp only[fillS,Option.some.injEq]at h;subst h;exact⟨rfl,hb⟩
 |cons p parts ih=>
  obtain⟨i,x⟩:=p
  intro cs r hb h
  simp only[fillS]at h
  cases h1:ev F x with
  |none=>simp[h1]at h
  |some v=>
   cases h2:pl i with
   |none=>cases h0:noRaw v<;>simp[h1,h2,h0]at h
   |some q=>
    obtain⟨o,s⟩:=q
    cases h0:noRaw v with
    |false=>simp[h1,h0]at h
    |true=>
    simp only[h1,h2,h0]at h
    cases h3:Nat.beq (cellsOf v).length s with
    |false=>simp[h3]at h
    |true=>
     cases h4:Nat.ble (o+s) cs.length with
     |false=>simp[h3,h4]at h
     |true=>
      simp only[h3,h4]at h
      obtain⟨e1,b1⟩:=evd hf h1
      have h5:(cellsOf v).length=s:=Nat.eq_of_beq_eq_true h3
      have h6:o+s<=cs.length:=Nat.le_of_ble_eq_true h4
      have hc:(den β v).cells=(denL β (cellsOf v)).toArray:=cells_den2 β h0
      have hl:(denL β (cellsOf v)).length=s:=by rw[dle,List.length_map,h5]
      have hl2:(denL β cs).length=cs.length:=by rw[dle,List.length_map]
      obtain⟨r1,r2⟩:=ih (bdL_splice hb (bd_cells b1)) h
      refine⟨?_,r2⟩
      rw[List.map_cons]
      simp only[Instr.fill,hp _ _ h2,e1,hc]
      rw[if_neg (by simp[hl,hl2];omega)]
      rw[<-r1]
      congr 1
      rw[splice_den,h5]
      have:=foldl_put o (denL β (cellsOf v)) 0 (denL β cs).toArray (by simp[hl,hl2];omega)
      simp only[Nat.add_zero,hl]at this
      rw[<-this]
      rw[<-Array.foldl_toList]
      simp
theorem mapM_fld{fl:List Field}{fs:List (Nat×Nat×Bool)}(h:fldOk P fl fs=true):fl.mapM (fun f=>(P.info? f.type).map fun i=>(f.offset,i.size))=some (fs.map fun p=>(p.1,p.2.1)):=by
 induction fl generalizing fs with
 |nil=>cases fs<;>simp_all [fldOk]
 |cons f fl ih=>
  cases fs with
  |nil=>simp[fldOk]at h
  |cons p fs=>
   obtain⟨o1,s1,a1⟩:=p
   simp only[fldOk,Bool.and_eq_true,beq_iff_eq]at h
   obtain⟨⟨⟨h1,h2⟩,h3⟩,h4⟩:=h
   unfold sizeB at h2
   obtain⟨i,hi,hs⟩:=Option.map_eq_some_iff.1 h2
   simp[List.mapM_cons,ih h4,hi,hs,h1]
theorem build_sound(hT:TOk P T)(hf:Fra g β F n a){t:Nat}{i:Ty}(ht:T t=some i){parts:Array (Nat×Operand)}{cs:List SV}(hg:i.d.agg=true)
 (h:fillS (place i) F i.z parts.toList=some cs):(Instr.build t (parts.map fun p=>(p.1,a.eval p.2))).run P W= .ok (.agg (denL β cs).toArray) W/\bdL n cs:=by
 obtain⟨info,hi,hsz,z,hz,hzc,hzb,_⟩:=ty_size (β:=β) hT ht
 have h1:=hT t i ht
 simp only[okTyB,Bool.and_eq_true]at h1
 obtain⟨_,h2⟩:=h1
 have hz0:z.cells=(denL β i.z).toArray:=by rw[<-hzc]
 have hzn:bdL n i.z:=hzb n
 have hpm:(parts.map fun p=>(p.1,a.eval p.2)).toList=parts.toList.map fun p=>(p.1,a.eval p.2):=by simp
 cases hd:i.d with
 |ar m e es ag=>
  rw[hd]at h2
  cases hq:P.underlying t with
  |none=>simp[hq]at h2
  |some d=>
   cases d<;>simp[hq]at h2
   rename_i m' e'
   obtain⟨⟨⟨rfl,rfl⟩,h3⟩,h4⟩:=h2
   unfold sizeB at h3
   obtain⟨ie,hie,hes⟩:=Option.map_eq_some_iff.1 h3
   obtain⟨r1,r2⟩:=fillS_sound hf (pl':=fun i=>some (i*ie.size,ie.size)) (fun k p hk=>by simp only[place,hd]at hk;rw[hes];exact hk) hzn h
   refine⟨run_build W t _ _ ?_,r2⟩
   simp only[Program.built,hi,hq,hz,hie,hpm,hz0]
   exact r1
 |st fs=>
  obtain⟨fl,hu,hfl⟩:=fld_of hT ht hd
  obtain⟨r1,r2⟩:=fillS_sound hf (pl':=fun k=>(fs.map fun p=>(p.1,p.2.1)).toArray[k]?) (fun k p hk=>by
   simp only[place,hd]at hk
   cases hk2:fs[k]? with
   |none=>simp[hk2]at hk
   |some q=>obtain⟨o,s,ag⟩:=q;simp only[hk2,Option.some.injEq]at hk;subst hk;simp[hk2]) hzn h
  refine⟨run_build W t _ _ ?_,r2⟩
  simp only[Program.built,hi,hu,hz,mapM_fld hfl,hpm,hz0]
  exact r1
 |_=>simp[hd,TyD.agg]at hg
theorem ixd_sound{x:Operand}{v:SV}(hf:Fra g β F n a)(he:ev F x=some v){len:Nat}:(∀j,ixd Ar.real x v len= .st j->∃k,a.eval x= .int k j/\j<len)/\(∀j,ixd Ar.real x v len= .dy j->∃k,a.eval x= .int k j/\j<len):=by
 have he2:=(evd hf he).1
 have key:∀k q j,v= .int k q->Ar.real.ix q len=some j->a.eval x= .int k j/\j<len:=by
  intro k q j hv hq
  simp only[Ar.real]at hq
  split at hq
  ·rename_i hb
   obtain rfl:=Option.some.inj hq
   rw[he2,hv]
   refine⟨?_,by omega⟩
   simp only[den]
   congr 1
   omega
  ·cases hq
 have hdy:∀j,ixdy Ar.real v len= .dy j->∃k,a.eval x= .int k j/\j<len:=by
  intro j h
  unfold ixdy at h
  cases v with
  |int k q=>
   simp only at h
   cases hq:Ar.real.ix q len with
   |none=>simp[hq]at h
   |some i=>
    simp only[hq,Ixd.dy.injEq]at h
    subst h
    exact⟨k,key k q i rfl hq⟩
  |_=>simp at h
 have hst:∀j,ixdy Ar.real v len= .st j->False:=by
  intro j h
  unfold ixdy at h
  cases v with
  |int k q=>simp only at h;cases hq:Ar.real.ix q len<;>simp[hq]at h
  |_=>simp at h
 unfold ixd
 split
 ·rename_i k m
  constructor
  ·intro j h
   cases hb:Nat.blt m len with
   |false=>simp[hb]at h
   |true=>
    simp only[hb,Ixd.st.injEq]at h
    subst h
    exact⟨k,rfl,Nat.le_of_ble_eq_true hb⟩
  ·intro j h
   cases hb:Nat.blt m len<;>simp[hb]at h
 ·exact⟨fun j h=>(hst j h).elim,hdy⟩
theorem indexAt_arr{t m e es:Nat}(hu:P.underlying t=some (.array m e))(hs:sizeB P e=some es)(b o j:Nat)(k:IntKind)(hj:j<m)(w:World):
 (Instr.indexAt t (.pointer (some ⟨b,o,none⟩)) (.int k j)).run P w= .ok (.pointer (some ⟨b,o+j*es,none⟩)) w:=by
 unfold Instr.indexAt
 simp[Sem.run_bind,run_underlying hu,asIntOf,Instr.sureAddr,rsz hs,addr_add',hj,show(0:Int)<=j from Int.natCast_nonneg j]
theorem indexAt_sl{t e es:Nat}(hu:P.underlying t=some (.slice e))(hs:sizeB P e=some es)(b o m c j:Nat)(k:IntKind)(hj:j<m)(w:World):
 (Instr.indexAt t (.slice (some ⟨b,o,none⟩) m c) (.int k j)).run P w= .ok (.pointer (some ⟨b,o+j*es,none⟩)) w:=by
 unfold Instr.indexAt
 simp[Sem.run_bind,run_underlying hu,asIntOf,rsz hs,addr_add',hj,show(0:Int)<=j from Int.natCast_nonneg j]
theorem arr_of(hT:TOk P T){t:Nat}{i:Ty}(ht:T t=some i){m e es:Nat}{ag:Bool}(hd:i.d= .ar m e es ag):P.underlying t=some (.array m e)/\sizeB P e=some es/\aggB P e=some ag:=by
 have h1:=hT t i ht
 simp only[okTyB,Bool.and_eq_true]at h1
 obtain⟨_,h2⟩:=h1
 rw[hd]at h2
 cases hq:P.underlying t with
 |none=>simp[hq]at h2
 |some d=>
  cases d<;>simp[hq]at h2
  obtain⟨⟨⟨rfl,rfl⟩,h3⟩,h4⟩:=h2
  exact⟨rfl,h3,h4⟩
theorem sl_of(hT:TOk P T){t:Nat}{i:Ty}(ht:T t=some i){e es:Nat}(hd:i.d= .sl e es):P.underlying t=some (.slice e)/\sizeB P e=some es:=by
 have h1:=hT t i ht
 simp only[okTyB,Bool.and_eq_true]at h1
 obtain⟨_,h2⟩:=h1
 rw[hd]at h2
 cases hq:P.underlying t with
 |none=>simp[hq]at h2
 |some d=>
  cases d<;>simp[hq]at h2
  obtain⟨rfl,h3⟩:=h2
  exact⟨rfl,h3⟩
theorem ixAddr_sound(hT:TOk P T)(hf:Fra g β F n a){t:Nat}{u r iv:SV}{ix:Operand}(hiv:ev F ix=some iv)(hbu:bd n u)(h:ixAddr Ar.real T t u ix iv=some r):
 (Instr.indexAt t (den β u) (a.eval ix)).run P W= .ok (den β r) W/\bd n r:=by
 unfold ixAddr at h
 cases ht:T t with
 |none=>simp[ht]at h
 |some i=>
  simp only[ht]at h
  obtain⟨s1,s2⟩:=ixd_sound hf hiv (len:=(match i.d with| .ar m _ _ _=>m|_=>0))
  cases hd:i.d with
  |ar m e es ag=>
   obtain⟨hu,hs,_⟩:=arr_of hT ht hd
   simp only[hd]at h s1 s2
   cases u with
   |ptr l o=>
    simp only at h
    cases hx:ixd Ar.real ix iv m with
    |no=>simp[hx]at h
    |st j=>
     simp only[hx,Option.some.injEq]at h;subst h
     obtain⟨k,hk,hj⟩:=s1 j hx
     rw[hk]
     exact⟨indexAt_arr hu hs _ _ _ _ hj _,hbu⟩
    |dy j=>
     simp only[hx,Option.some.injEq]at h;subst h
     obtain⟨k,hk,hj⟩:=s2 j hx
     rw[hk]
     exact⟨indexAt_arr hu hs _ _ _ _ hj _,hbu⟩
   |ptrS l o=>
    simp only at h
    cases hx:ixd Ar.real ix iv m with
    |no=>simp[hx]at h
    |st j=>
     simp only[hx,Option.some.injEq]at h;subst h
     obtain⟨k,hk,hj⟩:=s1 j hx
     rw[hk]
     exact⟨indexAt_arr hu hs _ _ _ _ hj _,hbu⟩
    |dy j=>
     simp only[hx,Option.some.injEq]at h;subst h
     obtain⟨k,hk,hj⟩:=s2 j hx
     rw[hk]
     exact⟨indexAt_arr hu hs _ _ _ _ hj _,hbu⟩
   |_=>simp at h
  |sl e es=>
   obtain⟨hu,hs⟩:=sl_of hT ht hd
   simp only[hd]at h
   cases u with
   |slice l o m c=>
    simp only at h
    cases iv with
    |int k q=>
     simp only at h
     cases hx:Ar.real.ix q m with
     |none=>simp[hx]at h
     |some j=>
      simp only[hx,Option.some.injEq]at h;subst h
      have he:=(evd hf hiv).1
      simp only[Ar.real]at hx
      split at hx
      ·rename_i hb
       obtain rfl:=Option.some.inj hx
       have:a.eval ix= .int k (q.toNat:Int):=by rw[he];simp only[den];congr 1;omega
       rw[this]
       exact⟨indexAt_sl hu hs _ _ _ _ _ _ (by omega) _,hbu⟩
      ·cases hx
    |_=>simp at h
   |_=>simp at h
  |_=>simp[hd]at h
end
end Go.Vg
namespace Go.Vg
open Go.RowKit
section
variable {P:Program}{T:Nat->Option Ty}{g:G}{β:Nat->Nat}{F:Nat->Option SV}{L:Nat->Option Blk}{n:Nat->Prop}{a:Act}{W:World}
theorem v_run{o:Oper}{s:Sem Value}{v:Value}{W':World}(he:execOp a.eval o=(do pure (.value (<-s))))(hs:s.run P W= .ok v W'):(execOp a.eval o).run P W= .ok (.value v) W':=by
 rw[he];simp[hs]
theorem valV_sound(hT:TOk P T)(hm:Mem g β L n W)(hf:Fra g β F n a){o:Oper}(hn:native T F o.op=true){r:SV}(h:valV Ar.real T F L o.op=some r):
 (execOp a.eval o).run P W= .ok (.value (den β r)) W/\bd n r:=by
 cases ho:o.op with
 |move x=>
  rw[ho]at h
  obtain⟨e1,b1⟩:=evd hf (show ev F x=some r from h)
  exact⟨by unfold execOp;simp[ho,e1],b1⟩
 |assign x=>
  rw[ho]at h
  obtain⟨e1,b1⟩:=evd hf (show ev F x=some r from h)
  exact⟨by unfold execOp;simp[ho,e1],b1⟩
 |pick c x y=>
  rw[ho]at h
  simp only[valV]at h
  cases hc:ev F c with
  |none=>simp[hc]at h
  |some u=>
   obtain⟨e0,_⟩:=evd hf hc
   cases u with
   |bool t=>
    simp only[hc]at h
    cases t with
    |true=>
     obtain⟨e1,b1⟩:=evd hf (show ev F x=some r from h)
     exact⟨by unfold execOp;simp[ho,e0,e1,den,asBool],b1⟩
    |false=>
     obtain⟨e1,b1⟩:=evd hf (show ev F y=some r from h)
     exact⟨by unfold execOp;simp[ho,e0,e1,den,asBool],b1⟩
   |_=>simp[hc]at h
 |load t x=>
  rw[ho]at h
  simp only[valV]at h
  cases hc:ev F x with
  |none=>simp[hc]at h
  |some u=>
   cases ht:T t with
   |none=>simp[hc,ht]at h
   |some i=>
    simp only[hc,ht]at h
    obtain⟨e0,_⟩:=evd hf hc
    obtain⟨r1,r2⟩:=rd_sound hT hm ht h
    exact⟨by unfold execOp;simp[ho,e0,r1],r2⟩
 |nilCheck x=>
  rw[ho]at h
  simp only[valV]at h
  split at h
  all_goals first
   |(cases h;done)
   |(rename_i hc
     obtain rfl:=Option.some.inj h
     obtain⟨e0,b0⟩:=evd hf hc
     exact⟨by unfold execOp;simp[ho,e0,den],b0⟩)
 |unOp op t x=>
  rw[ho]at h
  simp only[valV]at h
  cases hc:ev F x with
  |none=>simp[hc]at h
  |some u=>
   simp only[hc]at h
   obtain⟨e0,_⟩:=evd hf hc
   obtain⟨r1,r2⟩:=unV_sound (P:=P) (β:=β) (n:=n) h W
   exact⟨by unfold execOp;simp[ho,e0,r1],r2⟩
 |makeFunc f x y=>
  rw[ho]at h
  simp only[valV]at h
  cases h1:evs F x.toList with
  |none=>simp[h1]at h
  |some xs=>
   cases h2:evs F y.toList with
   |none=>simp[h1,h2]at h
   |some ys=>
    simp only[h1,h2,Option.some.injEq]at h
    subst h
    obtain⟨e1,b1⟩:=evs_sound hf h1
    obtain⟨e2,b2⟩:=evs_sound hf h2
    have m1:x.map a.eval=(denL β xs).toArray:=by rw[<-e1,<-Array.toList_map]
    have m2:y.map a.eval=(denL β ys).toArray:=by rw[<-e2,<-Array.toList_map]
    exact⟨by unfold execOp;simp[ho,Instr.makeFunc,den,m1,m2],⟨b1,b2⟩⟩
 |fieldAddr s x f=>
  rw[ho]at h
  simp only[valV]at h
  cases hc:ev F x with
  |none=>simp[hc]at h
  |some u=>
   cases ht:T s with
   |none=>simp[hc,ht]at h
   |some i=>
    simp only[hc,ht]at h
    obtain⟨e0,b0⟩:=evd hf hc
    cases hd:i.d with
    |st fs=>
     simp only[hd]at h
     cases hk:fs[f]? with
     |none=>simp[hk]at h
     |some q=>
      obtain⟨o',s',ag⟩:=q
      simp only[hk]at h
      cases s' with
      |zero=>simp at h
      |succ s'=>
       cases u with
       |ptr l q=>
        simp only[Option.some.injEq]at h
        subst h
        have:=fieldAddr_sound hT ht hd hk (β l) q W
        exact⟨by unfold execOp;simp[ho,e0,den,this],b0⟩
       |ptrS l q=>
        simp only[Option.some.injEq]at h
        subst h
        have:=fieldAddr_sound hT ht hd hk (β l) q W
        exact⟨by unfold execOp;simp[ho,e0,den,this,Ar.real],b0⟩
       |_=>simp at h
    |_=>simp[hd]at h
 |field t x f=>
  rw[ho]at h
  simp only[valV]at h
  cases hc:ev F x with
  |none=>simp[hc]at h
  |some u=>
   cases ht:T t with
   |none=>cases u<;>simp[hc,ht]at h
   |some i=>
    obtain⟨e0,b0⟩:=evd hf hc
    cases u with
    |agg cs=>
     simp only[hc,ht]at h
     cases hd:i.d with
     |st fs=>
      simp only[hd]at h
      cases hk:fs[f]? with
      |none=>simp[hk]at h
      |some q=>
       obtain⟨o',s',ag⟩:=q
       simp only[hk]at h
       obtain⟨fl,hu,hfl⟩:=fld_of hT ht hd
       obtain⟨ff,h1,h2,h3,h4⟩:=fldOk_get hfl hk
       have h1':fl[f]? =some ff:=by simpa using h1
       obtain⟨r1,r2⟩:=part_sound (n:=n) (β:=β) h3 h4 (show bdL n cs from b0) (o:=o') (r:=r) (Or.inl h) W
       refine⟨?_,r2⟩
       unfold execOp
       simp[ho,e0,den,Instr.field,run_underlying hu,h1',asAgg,h2,r1]
     |_=>simp[hd]at h
    |_=>simp[hc,ht]at h
 |indexAddr t x ix=>
  rw[ho]at h
  simp only[valV]at h
  cases hc:ev F x with
  |none=>simp[hc]at h
  |some u=>
   cases hi:ev F ix with
   |none=>simp[hc,hi]at h
   |some iv=>
    simp only[hc,hi]at h
    obtain⟨e0,b0⟩:=evd hf hc
    obtain⟨r1,r2⟩:=ixAddr_sound hT hf (W:=W) hi b0 h
    exact⟨by unfold execOp;simp[ho,e0,r1],r2⟩
 |index t x ix=>
  rw[ho]at h
  simp only[valV]at h
  cases hc:ev F x with
  |none=>simp[hc]at h
  |some u=>
   obtain⟨e0,b0⟩:=evd hf hc
   cases hi:ev F ix with
   |none=>cases u<;>simp[hc,hi]at h
   |some iv=>
    obtain⟨e1,b1⟩:=evd hf hi
    cases u with
    |str s=>
     cases iv with
     |int k q=>
      simp only[hc,hi]at h
      cases ht:T t with
      |none=>simp[ht]at h
      |some i=>
       simp only[ht]at h
       have h1:=hT t i ht
       simp only[okTyB,Bool.and_eq_true]at h1
       obtain⟨_,h2⟩:=h1
       cases hd:i.d with
       |s=>
        rw[hd]at h2
        simp only[hd]at h
        cases hu:P.underlying t with
        |none=>simp[hu]at h2
        |some d=>
         cases d<;>simp[hu]at h2
         cases hx:Ar.real.six s q with
         |none=>simp[hx]at h
         |some b=>
          simp only[hx,Option.some.injEq]at h
          subst h
          simp only[Ar.real]at hx
          split at hx
          ·rename_i hq
           obtain⟨c,hc2,rfl⟩:=Option.map_eq_some_iff.1 hx
           refine⟨?_,by simp[bd]⟩
           unfold execOp
           simp only[ho,e0,e1,den]
           have:(Instr.index t (.string s) (.int k q)).run P W= .ok (.int .u8 c.toNat) W:=by
            unfold Instr.index
            simp[asIntOf,run_underlying hu,hq,hc2]
           simp[this]
          ·cases hx
       |_=>simp[hd]at h
     |_=>simp[hc,hi]at h
    |agg cs=>
     have h':ixPart Ar.real T t cs ix iv=some r:=by simpa only[hc,hi]using h
     clear h
     unfold ixPart at h'
     cases ht:T t with
     |none=>simp[ht]at h'
     |some q=>
      simp only[ht]at h'
      cases hd:q.d with
      |ar len e es ag=>
       simp only[hd]at h'
       obtain⟨hu,hs,hag⟩:=arr_of hT ht hd
       obtain⟨s1,s2⟩:=ixd_sound hf hi (len:=len)
       have fin:∀ (k:IntKind) (j:Nat),a.eval ix= .int k j->j<len->(part e (denL β cs).toArray (j*es)).run P W= .ok (den β r) W/\bd n r->(execOp a.eval o).run P W= .ok (.value (den β r)) W/\bd n r:=by
        intro k j hk hj hp
        refine⟨?_,hp.2⟩
        unfold execOp
        simp[ho,e0,den,Instr.index,hk,asIntOf,run_underlying hu,hj,show(0:Int)<=j from Int.natCast_nonneg j,rsz hs,hp.1]
       cases hx:ixd Ar.real ix iv len with
       |no=>simp[hx]at h'
       |st j=>
        simp only[hx]at h'
        obtain⟨k,hk,hj⟩:=s1 j hx
        exact fin k j hk hj (part_sound hs hag (show bdL n cs from b0) (Or.inl h') W)
       |dy j=>
        simp only[hx]at h'
        obtain⟨k,hk,hj⟩:=s2 j hx
        have h3:Ar.real.off 0 j es=j*es:=by simp[Ar.real]
        rw[h3]at h'
        exact fin k j hk hj (part_sound hs hag (show bdL n cs from b0) (Or.inr h') W)
      |_=>simp[hd]at h'
    |_=>simp[hc,hi]at h
 |extract x i=>
  rw[ho]at h
  simp only[valV]at h
  cases hc:ev F x with
  |none=>simp[hc]at h
  |some u=>
   obtain⟨e0,b0⟩:=evd hf hc
   cases u with
   |tup vs=>
    simp only[hc]at h
    refine⟨?_,bdL_get (show bdL n vs from b0) h⟩
    unfold execOp
    simp[ho,e0,den,Instr.extract,dle,h]
   |_=>simp[hc]at h
 |build t parts=>
  rw[ho]at h
  simp only[valV]at h
  cases ht:T t with
  |none=>simp[ht]at h
  |some i=>
   simp only[ht]at h
   cases hg:i.d.agg with
   |false=>simp[hg]at h
   |true=>
    simp only[hg]at h
    cases hs:fillS (place i) F i.z parts.toList with
    |none=>simp[hs]at h
    |some cs=>
     simp only[hs,Option.some.injEq]at h
     subst h
     obtain⟨r1,r2⟩:=build_sound (W:=W) hT hf ht hg hs
     refine⟨?_,r2⟩
     unfold execOp
     simp[ho,den,r1]
 |binOp op xt x y yt=>
  rw[ho]at h hn
  simp only[valV,native]at h hn
  cases hc:ev F x with
  |none=>simp[hc]at h
  |some u=>
   cases hi:ev F y with
   |none=>simp[hc,hi]at h
   |some v=>
    simp only[hc,hi]at h hn
    obtain⟨e0,b0⟩:=evd hf hc
    obtain⟨e1,b1⟩:=evd hf hi
    have hg:(eqGuard op xt x y (den β u) (den β v)).run P W= .ok () W:=by
     refine eqGuard_int op xt x y ?_ ?_ W
     ·cases u<;>first|(simp[den];done)|(exfalso;cases v<;>simp at hn)
     ·cases u<;>first|(simp[den];done)|(exfalso;cases v<;>simp at hn)
    have hr:(binOp op xt (den β u) (den β v)).run P W= .ok (den β r) W/\bd n r:=by
     have hyc:∀k c,y= .const (.int k c)->v= .int k c:=fun k c e=>by rw[e]at hi;simpa [ev,ofV,eq_comm]using hi
     split at h
     ·exact binV_sound hyc h W
     ·exact binV_sound hyc h W
     ·cases ht:T xt with
      |none=>simp[ht]at h
      |some i=>simp only[ht]at h;exact binT_sound hT ht h W
    exact⟨by unfold execOp;simp[ho,e0,e1,hg,hr.1],hr.2⟩
 |convert s d x=>
  rw[ho]at h
  simp only[valV]at h
  cases hc:ev F x with
  |none=>simp[hc]at h
  |some u=>
   obtain⟨e0,b0⟩:=evd hf hc
   cases hs:T s with
   |none=>cases u<;>simp[hc,hs]at h
   |some i0=>
   cases ht:T d with
   |none=>cases u<;>simp[hc,hs,ht]at h
   |some i=>
    cases u with
    |int k m=>
     simp only[hc,hs,ht]at h
     obtain⟨d0,hu0,_⟩:=ty_agg hT hs
     have h1:=hT d i ht
     simp only[okTyB,Bool.and_eq_true]at h1
     obtain⟨_,h2⟩:=h1
     cases hd:i.d with
     |i k'=>
      rw[hd]at h2
      simp only[hd,Option.some.injEq]at h
      subst h
      cases hu:P.underlying d with
      |none=>simp[hu]at h2
      |some dd=>
       cases dd<;>simp[hu]at h2
       subst h2
       refine⟨?_,by simp[bd]⟩
       have:(convert s d (.int k m)).run P W= .ok (.int k' (k'.wrap m)) W:=by
        unfold convert
        simp[run_underlying hu0,run_underlying hu,Conv.intToInt]
       unfold execOp
       simp[ho,e0,den,this,Ar.real]
     |_=>simp[hd]at h
    |_=>simp[hc,hs,ht]at h
 |call c=>
  rw[ho]at h hn
  simp only[valV]at h
  have hb:c.callee= .builtin .len:=by
   simp only[native]at hn
   split at hn
   ·rename_i b hb
    split at hn
    ·exact hb
    ·cases hn
   ·cases hn
  obtain⟨callee,args,ats⟩:=c
  simp only at hb
  subst hb
  split at h
  ·rename_i x t hx hat
   have hx':args= #[x]:=by
    apply Array.ext';exact hx
   have hat':ats= #[t]:=by
    apply Array.ext';exact hat
   subst hx' hat'
   cases hc:ev F x with
   |none=>simp[hc]at h
   |some u=>
    cases ht:T t with
    |none=>simp[hc,ht]at h
    |some i=>
     simp only[hc,ht]at h
     obtain⟨e0,b0⟩:=evd hf hc
     have h1:=hT t i ht
     simp only[okTyB,Bool.and_eq_true]at h1
     obtain⟨_,h2⟩:=h1
     have fin:∀v,(Builtin.len_ #[t] o.type #[den β u]).run P W= .ok v W->(execOp a.eval o).run P W= .ok (.value v) W:=by
      intro v hv
      unfold execOp
      simp[ho,resolve,invoke,builtin,e0,hv]
     split at h
     ·rename_i s hd
      rw[hd]at h2
      obtain rfl:=Option.some.inj h
      refine⟨fin _ ?_,by simp[bd]⟩
      cases hu:P.underlying t with
      |none=>simp[hu]at h2
      |some dd=>
       cases dd<;>simp[hu]at h2
       simp[Builtin.len_,run_underlying hu,den,goInt,Ar.real]
     ·rename_i l o m cc hd
      obtain⟨hu,_⟩:=sl_of hT ht hd
      obtain rfl:=Option.some.inj h
      refine⟨fin _ ?_,by simp[bd]⟩
      simp[Builtin.len_,run_underlying hu,den,goInt,Ar.real]
     ·rename_i hd
      obtain⟨hu,_⟩:=sl_of hT ht hd
      obtain rfl:=Option.some.inj h
      refine⟨fin _ ?_,by simp[bd]⟩
      simp[Builtin.len_,run_underlying hu,den,goInt]
     ·cases h
  ·cases h
 |_=>rw[ho]at hn;simp[native]at hn
def upF(F:Nat->Option SV)(d:Option Nat)(v:SV):Nat->Option SV:=fun t=>if d=some t then some v else F t
def upL(L:Nat->Option Blk)(k:Nat)(b:Blk):Nat->Option Blk:=fun l=>if l=k then some b else L l
theorem look_putO(F:FF)(d:Option Nat)(v:SV):look (putO F d v)=upF (look F) d v:=by
 funext t
 cases d with
 |none=>simp[putO,upF]
 |some d=>simp[putO,upF,look_put]
theorem Fra.put(hf:Fra g β F n a){d:Option Nat}(hd:∀t,d=some t->t<g.N){v:SV}(hv:bd n v):Fra g β (upF F d v) n (a.put d (den β v)):=by
 refine⟨?_,?_,?_,?_⟩
 ·cases d<;>simp[Act.put,hf.size]
 ·cases d<;>simp[Act.put,hf.defs]
 ·intro t u h
  simp only[upF]at h
  split at h
  ·obtain rfl:=Option.some.inj h;exact hv
  ·exact hf.bF t u h
 ·intro t u h
  simp only[upF]at h
  split at h
  ·rename_i hdt
   obtain rfl:=Option.some.inj h
   subst hdt
   have:=hd t rfl
   simp[Act.put,hf.size,this]
  ·rename_i hdt
   have h2:=hf.fr t u h
   cases d with
   |none=>exact h2
   |some d=>
    have:d≠t:=by simpa using hdt
    simp only[Act.put,Array.getElem?_setIfInBounds,if_neg this]
    exact h2
theorem Fra.mono(hf:Fra g β F n a){γ:Nat->Nat}{m:Nat->Prop}(h:∀l,n l->γ l=β l)(hn:∀l,n l->m l):Fra g γ F m a:=
 ⟨hf.size,hf.defs,fun t v hv=>bd_mono hn v (hf.bF t v hv),fun t v hv=>by rw[den_congr h v (hf.bF t v hv)];exact hf.fr t v hv⟩
theorem Mem.alloc(hm:Mem g β L n W){k:Nat}(hk:¬n k){cs:List SV}(hb:bdL n cs)(t:TypeId):
 ∃γ,(∀l,n l->γ l=β l)/\γ k=W.heap.size/\Mem g γ (upL L k ⟨k,cs,t⟩) (fun l=>n l\/l=k) (W.alloc (.cells (denL β cs).toArray t)):=by
 obtain⟨γ,hag,hγn⟩:∃γ:Nat->Nat,(∀l,n l->γ l=β l)/\γ k=W.heap.size:=⟨fun l=>if l=k then W.heap.size else β l,fun l hl=>if_neg (by rintro rfl;exact hk hl),if_pos rfl⟩
 refine⟨γ,hag,hγn,?_⟩
 have hlt:∀l b,L l=some b->β l<W.heap.size:=fun l b hb=>by
  obtain⟨m,_,hc⟩:=hm.cell l b hb
  exact block_lt hc
 have hcase:∀l b,upL L k ⟨k,cs,t⟩ l=some b->(l=k/\b=⟨k,cs,t⟩)\/(l≠k/\L l=some b):=by
  intro l b h
  simp only[upL]at h
  split at h
  ·rename_i e;exact Or.inl ⟨e,(Option.some.inj h).symm⟩
  ·rename_i e;exact Or.inr ⟨e,h⟩
 refine⟨fun l hl=>Or.inl (hm.low l hl),?_,?_,?_,?_,?_,?_⟩
 ·intro l hl
  rw[hag l (hm.low l hl)];exact hm.old l hl
 ·intro l b h hl
  rcases hcase l b h with⟨rfl,rfl⟩|⟨_,h⟩
  ·rw[hγn];exact Or.inl hm.up.size
  ·rw[hag _ (hm.bL l b h).1];exact hm.new l b h hl
 ·intro l b l' b' h h' ho he
  rcases hcase l b h with⟨e1,e2⟩|⟨_,h2⟩<;>rcases hcase l' b' h' with⟨e3,e4⟩|⟨_,h3⟩
  ·rw[e1,e3]
  ·rw[e1,hγn,hag _ (hm.bL l' b' h3).1]at he
   have:=hlt l' b' h3
   omega
  ·rw[e3,hγn,hag _ (hm.bL l b h2).1]at he
   have:=hlt l b h2
   omega
  ·rw[hag _ (hm.bL l b h2).1,hag _ (hm.bL l' b' h3).1]at he
   exact hm.inj l b l' b' h2 h3 ho he
 ·intro l b h
  rcases hcase l b h with⟨rfl,rfl⟩|⟨_,h⟩
  ·exact⟨(0,0),fun _=>Or.inl (Nat.le_refl 0),by rw[hγn,heap_alloc_new,dlc hag _ hb]⟩
  ·obtain⟨m,h1,h2⟩:=hm.cell l b h
   exact⟨m,h1,by rw[hag _ (hm.bL l b h).1,heap_alloc_old _ _ (hlt l b h),h2,dlc hag _ (hm.bL l b h).2]⟩
 ·intro l b h
  rcases hcase l b h with⟨rfl,rfl⟩|⟨_,h⟩
  ·exact⟨Or.inr rfl,bdm (fun l hl=>Or.inl hl) _ hb⟩
  ·exact⟨Or.inl (hm.bL l b h).1,bdm (fun l hl=>Or.inl hl) _ (hm.bL l b h).2⟩
 ·refine⟨hm.up.os,hm.up.tape,hm.up.output,?_,?_⟩
  ·have:=hm.up.size;simp;omega
  ·intro i hi hM
   rw[heap_alloc_old _ _ (by have:=hm.up.size;omega)]
   exact hm.up.block i hi hM
theorem succ_p(n:Nat):(fun l=>l<n\/l=n)=fun l=>l<n+1:=by
 funext l;exact propext (by omega)
theorem find_new{L:LL}{n:Nat}(h:∀l b,find L l=some b->l<n)(cs:List SV)(t:TypeId):find (L++[⟨n,cs,t⟩])=upL (find L) n ⟨n,cs,t⟩:=by
 funext l
 rw[fap]
 simp only[upL,find]
 by_cases hl:l=n
 ·subst hl
  cases hq:find L l with
  |none=>simp
  |some b=>have:=h l b hq;omega
 ·rw[if_neg hl,if_neg (fun e=>hl e.symm)]
  cases find L l<;>rfl
end
end Go.Vg
namespace Go.Vg
open Go.RowKit
theorem memN_mem{ms:List Nat}{l:Nat}(h:memN ms l=true):l∈ms:=by
 induction ms with
 |nil=>simp[memN]at h
 |cons m ms ih=>
  simp only[memN]at h
  by_cases hm:m=l
  ·subst hm;exact List.mem_cons_self
  ·rw[if_neg hm]at h;exact List.mem_cons_of_mem _ (ih h)
theorem own_or{n0:Nat}{ms:List Nat}{l:Nat}(h:own n0 ms l=true):n0<=l\/l∈ms:=by
 unfold own at h
 split at h
 ·rename_i hb;exact Or.inl (Nat.le_of_ble_eq_true hb)
 ·exact Or.inr (memN_mem h)
theorem ones_all{vs:List SV}(h:ones vs=true):∀v∈vs,one v=true:=by
 induction vs with
 |nil=>simp
 |cons v vs ih=>
  simp only[ones]at h
  cases hv:one v with
  |false=>simp[hv]at h
  |true=>
   simp only[hv]at h
   intro u hu
   rcases List.mem_cons.1 hu with rfl|hu
   ·exact hv
   ·exact ih h u hu
theorem one_den{v:SV}(β:Nat->Nat)(h:one v=true):(den β v).oneCell'=true:=by
 cases v<;>simp_all [one,den,Value.oneCell']
section
variable {P:Program}{T:Nat->Option Ty}{g:G}{β:Nat->Nat}{F:Nat->Option SV}{L:Nat->Option Blk}{n:Nat->Prop}{a:Act}{W:World}
theorem okM.frozen{m:Nat×Nat}{n:Nat}(h:okM m n){W:World}{g:Nat}{cs:Array Value}{t:TypeId}(hg:W.heap[g]? =some (.cells cs t m)){o:Nat}(ho:o<n):W.frozen? ⟨g,o,none⟩=false:=by
 obtain⟨lo,hi⟩:=m
 simp only[World.frozen?,hg,Bool.and_eq_false_iff,decide_eq_false_iff_not]
 rcases h with h|h
 ·simp only at h;by_cases h2:lo<=o
  ·right;omega
  ·left;omega
 ·simp only at h;left;omega
theorem rsk(g off:Nat)(t:TypeId)(m:Nat×Nat):∀ (vs:List Value) (i:Nat) (cur:Array Value) (w:World),w.heap[g]? =some (.cells cur t m)->okM m cur.size->off+i+vs.length<=cur.size->(∀v∈vs,v.oneCell'=true)->
 (storeCells ⟨g,off,none⟩ vs i).run P w= .ok () (w.setRow g (cur.toList.take (off+i)++vs++cur.toList.drop (off+i+vs.length)).toArray)
 | [],i,cur,w,hg,_,_,_=>by
   simp only[storeCells,List.append_nil,List.length_nil,Nat.add_zero,List.take_append_drop,Array.toArray_toList]
   rw[setRow_self w g cur t m hg];rfl
 |v::rest,i,cur,w,hg,hm,hl,h1=>by
  have hi:off+i<cur.size:=by simp at hl;omega
  have hcell:w.cell? ⟨g,off+i,none⟩=some cur[off+i]:=by simp[World.cell?,hg,hi]
  have hfro:w.frozen? ⟨g,off+i,none⟩=false:=hm.frozen hg hi
  have hst:(store ((⟨g,off,none⟩:Addr).add i) v).run P w= .ok () (w.setRow g (cur.setIfInBounds (off+i) v)):=by
   rw[addr_add',run_store P w _ v _ (h1 v (by simp)),hcell]
   simp[hfro,setCell_eq_setRow w g (off+i) cur t m v hg]
  have ih:=rsk g off t m rest (i+1) (cur.setIfInBounds (off+i) v) (w.setRow g (cur.setIfInBounds (off+i) v)) (setRow_heap w g cur _ t _ hg) (by simpa using hm) (by simp at hl⊢;omega) (fun x hx=>h1 x (by simp[hx]))
  simp only[storeCells,Sem.run_bind,hst,Result.andThen_ok,ih,setRow_setRow]
  congr 3
  apply List.ext_getElem?
  intro k
  simp only[Array.toList_setIfInBounds,List.length_cons]
  rw[show off+(i+1)=off+i+1 from rfl,show off+i+(rest.length+1)=off+i+1+rest.length from by omega]
  simp only[List.getElem?_append,List.length_append,List.length_take,List.length_set,Array.length_toList,List.getElem?_drop,List.getElem?_set,List.length_cons,show min (off+i) cur.size=off+i by omega,
   show min (off+i+1) cur.size=off+i+1 by simp at hl;omega]
  by_cases h2:k<off+i
  ·simp[show k<off+i+1 by omega,show k<off+i+(rest.length+1) by omega,show k<off+i+1+rest.length by omega,h2,show off+i≠k by omega]
  ·by_cases h3:k=off+i
   ·subst h3;simp[hi,show off+i<off+i+1+rest.length by omega]
   ·by_cases h4:k<off+i+1+rest.length
    ·simp[h2,h4,show ¬k<off+i+1 by omega,show k<off+i+(rest.length+1) by omega,show k-(off+i)=(k-(off+i+1))+1 by omega]
    ·simp[h4,show ¬k<off+i+(rest.length+1) by omega]
     rw[if_neg (by omega)]
     congr 1
     omega
theorem run_store_any{ty g off s:Nat}{t:TypeId}{m:Nat×Nat}{old vs:List Value}{v:Value}(hg:W.heap[g]? =some (.cells old.toArray t m))(hm:okM m old.length)(hv:v.cells=vs.toArray)(hs:sizeB P ty=some s)(hl:vs.length=s)
 (ho:off+s<=old.length) (h1:∀x∈vs,x.oneCell'=true):
 (storeVar ty ⟨g,off,none⟩ v).run P W= .ok () (W.setRow g (old.take off++vs++old.drop (off+vs.length)).toArray):=by
 have:=rsk (P:=P) g off t m vs 0 old.toArray W hg (by simpa using hm) (by simp;omega) h1
 unfold storeVar
 simp only[Sem.run_bind,rsz hs,Result.andThen_ok,hv,List.size_toArray]
 rw[if_neg (by omega)]
 simpa using this
theorem splice_length{cs vs:List SV}{o:Nat}(h:o+vs.length<=cs.length):(splice cs o vs).length=cs.length:=by
 simp only[splice,List.length_append,List.length_take,List.length_drop];omega
theorem Mem.store(hm:Mem g β L n W){l o:Nat}{b:Blk}(hb:L l=some b){vs:List SV}(hle:o+vs.length<=b.cs.length)(hown:own g.n0 g.ms l=true)(hvs:bdL n vs):
 Mem g β (upL L l ⟨b.l,splice b.cs o vs,b.t⟩) n (W.setRow (β l) (denL β (splice b.cs o vs)).toArray):=by
 obtain⟨mk,hmk0,hcell⟩:=hm.cell l b hb
 have hmk:=hmk0 hown
 have hcase:∀k c,upL L l ⟨b.l,splice b.cs o vs,b.t⟩ k=some c->(k=l/\c=⟨b.l,splice b.cs o vs,b.t⟩)\/(k≠l/\L k=some c):=by
  intro k c h
  simp only[upL]at h
  split at h
  ·rename_i e;exact Or.inl ⟨e,(Option.some.inj h).symm⟩
  ·rename_i e;exact Or.inr ⟨e,h⟩
 have hsome:∀k c,upL L l ⟨b.l,splice b.cs o vs,b.t⟩ k=some c->∃d,L k=some d:=by
  intro k c h
  rcases hcase k c h with⟨rfl,_⟩|⟨_,h⟩
  ·exact⟨b,hb⟩
  ·exact⟨c,h⟩
 refine⟨hm.low,hm.old,?_,?_,?_,?_,?_⟩
 ·intro k c h hl
  obtain⟨d,hd⟩:=hsome k c h
  exact hm.new k d hd hl
 ·intro k c k' c' h h' ho he
  obtain⟨d,hd⟩:=hsome k c h
  obtain⟨d',hd'⟩:=hsome k' c' h'
  exact hm.inj k d k' d' hd hd' ho he
 ·intro k c h
  rcases hcase k c h with⟨rfl,rfl⟩|⟨hne,h⟩
  ·exact⟨mk,fun _=>by rw[splice_length hle];exact hmk,setRow_heap W (β k) _ _ _ _ hcell⟩
  ·obtain⟨m,h1,h2⟩:=hm.cell k c h
   exact⟨m,h1,by rw[setRow_other _ _ _ _ (fun e=>hne (hm.inj l b k c hb h hown e.symm).symm)];exact h2⟩
 ·intro k c h
  rcases hcase k c h with⟨rfl,rfl⟩|⟨_,h⟩
  ·exact⟨(hm.bL k b hb).1,bdL_splice (hm.bL k b hb).2 hvs⟩
  ·exact hm.bL k c h
 ·have hne:∀k,k<g.W0.heap.size->¬g.mod k->k≠β l:=by
   intro k hk hM e
   rcases own_or hown with h|h
   ·rcases hm.new l b hb h with h2|h2
    ·omega
    ·exact hM (e▸h2)
   ·by_cases h0:l<g.n0
    ·exact hM ⟨l,h,by rw[e,hm.old l h0]⟩
    ·rcases hm.new l b hb (by omega)with h2|h2
     ·omega
     ·exact hM (e▸h2)
  refine⟨hm.up.os,hm.up.tape,hm.up.output,?_,?_⟩
  ·have:(W.setRow (β l) (denL β (splice b.cs o vs)).toArray).heap.size=W.heap.size:=by simp[World.setRow]
   rw[this];exact hm.up.size
  ·intro k hk hM
   rw[setRow_other _ _ _ _ (hne k hk hM)]
   exact hm.up.block k hk hM
theorem upon_ok{o:Oper}{next:Act->World->Prop}{Q:Exit->Act->World->Prop}{v:Value}{W':World}(h:(execOp a.eval o).run P W= .ok (.value v) W')(hn:next (a.put o.dst v) W'):o.wp P a W next Q:=by
 unfold Oper.wp
 rw[h];exact hn
theorem upon_skip'{o:Oper}{next:Act->World->Prop}{Q:Exit->Act->World->Prop}{W':World}(h:(execOp a.eval o).run P W= .ok .skip W')(hn:next (a.put o.dst undef) W'):o.wp P a W next Q:=by
 unfold Oper.wp
 rw[h];exact hn
theorem rep_spec(z:List SV)(hz:z≠ [])(m:Nat):rep m z=(List.range (m*z.length)).map fun q=>z.getD (q%z.length) default:=by
 have hpos:0<z.length:=List.length_pos_iff.2 hz
 induction m with
 |zero=>simp[rep]
 |succ m ih=>
  rw[rep,ih,show(m+1)*z.length=z.length+m*z.length by rw[Nat.add_mul];omega,List.range_add,List.map_append]
  congr 1
  ·apply List.ext_getElem?
   intro q
   by_cases h:q<z.length
   ·simp[h,Nat.mod_eq_of_lt h]
   ·simp[Nat.not_lt.1 h]
  ·rw[List.map_map]
   apply List.map_congr_left
   intro q _
   simp[Nat.add_mod_left]
theorem rep_bd{k:Nat->Prop}{z:List SV}(h:bdL k z)(m:Nat):bdL k (rep m z):=by
 induction m with
 |zero=>trivial
 |succ m ih=>
  rw[rep,bdi]
  intro v hv
  rcases List.mem_append.1 hv with hv|hv
  ·exact(bdi _ _).1 h v hv
  ·exact(bdi _ _).1 ih v hv
theorem buildSlice_sound(hT:TOk P T)(hf:Fra g β F n a){t:Nat}{i:Ty}(ht:T t=some i){e es:Nat}(hd:i.d= .sl e es){j:Ty}(hj:T e=some j){m:Nat}(hm1:m*j.sz<=16777216)(hm2:1<=m*j.sz)
 {parts:Array (Nat×Operand)} {cs:List SV} (h:fillS (place i) F (rep m j.z) parts.toList=some cs):
 (Instr.buildSlice t m (parts.map fun p=>(p.1,a.eval p.2))).run P W= .ok (.slice (some ⟨W.heap.size,0,none⟩) m m) (W.alloc (.cells (denL β cs).toArray e))/\bdL n cs:=by
 obtain⟨hu,hs⟩:=sl_of hT ht hd
 obtain⟨info,hi,hsz,z,hz,hzc,hzb,_,hzn⟩:=ty_size (β:=β) hT hj
 have hes:es=j.sz:=by
  have:=ty_sizeB hT hj
  rw[this]at hs
  exact(Option.some.inj hs).symm
 subst hes
 have hzl:z.cells.size=j.z.length:=by rw[<-Array.length_toList,hzc,dle,List.length_map]
 have hpm:(parts.map fun p=>(p.1,a.eval p.2)).toList=parts.toList.map fun p=>(p.1,a.eval p.2):=by simp
 obtain⟨r1,r2⟩:=fillS_sound hf (pl':=fun k=>some (k*info.size,info.size)) (fun k p hk=>by simp only[place,hd]at hk;rw[hsz];exact hk) (rep_bd (hzb n) m) h
 refine⟨run_buildSlice W t e m _ _ info z hu hi hz (by rw[hsz];omega) (by rw[hsz];omega) ?_,r2⟩
 rw[hpm,<-r1]
 congr 1
 apply Array.ext'
 have hne:j.z≠ []:=by
  intro e
  rw[e]at hzn
  simp only[List.length_nil]at hzn
  rw[<-hzn]at hm2
  omega
 rw[dle,rep_spec _ hne,List.map_map,hzn,<-hsz]
 simp only[Array.toList_map,Array.toList_range]
 apply List.map_congr_left
 intro q _
 have hlt:q%info.size<j.z.length:=by rw[hzn,<-hsz];exact Nat.mod_lt _ (by rw[hsz,<-hzn];exact List.length_pos_iff.2 hne)
 have hzs:z.cells.size=info.size:=by rw[hzl,hzn,hsz]
 simp only[Function.comp]
 rw[hzs]
 have h1:z.cells[q%info.size]? =some (den β (j.z.getD (q%info.size) default)):=by
  rw[<-Array.getElem?_toList,hzc,dle,List.getElem?_map,List.getElem?_eq_getElem hlt,List.getD_eq_getElem?_getD,List.getElem?_eq_getElem hlt]
  rfl
 have h2:q%info.size<z.cells.size:=by rw[hzl];exact hlt
 rw[getElem!_pos z.cells _ h2]
 rw[Array.getElem?_eq_getElem h2]at h1
 exact Option.some.inj h1
inductive Eff where
 |val (v:SV)
 |new (v:Nat->SV) (cs:List SV) (t:TypeId)
 |wr (l:Nat) (o:Nat) (vs:List SV)
inductive Runs (T:Nat->Option Ty) (F:Nat->Option SV) (L:Nat->Option Blk):Op->Eff->Prop
 |val {op:Op} {v:SV}:native T F op=true->valV Ar.real T F L op=some v->Runs T F L op (.val v)
 |alloc {e:Nat} {i:Ty}:T e=some i->Runs T F L (.alloc e) (.new (fun n=> .ptr n 0) i.z e)
 |box {e:Nat} {x:Operand} {v:SV}:ev F x=some v->noRaw v=true->Runs T F L (.box e x) (.new (fun n=> .ptr n 0) (cellsOf v) e)
 |buildSlice {t m e es:Nat} {parts:Array (Nat×Operand)} {i j:Ty} {cs:List SV}:T t=some i->i.d= .sl e es->T e=some j->m*j.sz<=16777216->1<=m*j.sz->fillS (place i) F (rep m j.z) parts.toList=some cs->
  Runs T F L (.buildSlice t m parts) (.new (fun n=> .slice n 0 m m) cs e)
 |store {t:Nat} {x y:Operand} {p u:SV} {i:Ty} {l o:Nat} {b:Blk}:ev F x=some p->ev F y=some u->T t=some i->(cellsOf u).length=i.sz->ones (cellsOf u)=true->L l=some b->(p= .ptr l o\/p= .ptrS l o)->o+(cellsOf u).length<=b.cs.length->
  Runs T F L (.store t x y) (.wr l o (cellsOf u))
theorem Runs.sound(hT:TOk P T)(hm:Mem g β L n W)(hf:Fra g β F n a){o:Oper}(hd:∀t,o.dst=some t->t<g.N){e:Eff}(hr:Runs T F L o.op e){next:Act->World->Prop}{Q:Exit->Act->World->Prop}:
 (∀v,e= .val v->(∀a' W',bd n v->Mem g β L n W'->Fra g β (upF F o.dst v) n a'->next a' W')->o.wp P a W next Q)/\
 (∀f cs t k,e= .new f cs t->¬n k->(∀γ a' W',(∀l,n l->γ l=β l)->bdL n cs->Mem g γ (upL L k ⟨k,cs,t⟩) (fun l=>n l\/l=k) W'->Fra g γ (upF F o.dst (f k)) (fun l=>n l\/l=k) a'->next a' W')->o.wp P a W next Q)/\
 (∀l q vs b,e= .wr l q vs->L l=some b->own g.n0 g.ms l=true->(∀a' W',bdL n vs->Mem g β (upL L l ⟨b.l,splice b.cs q vs,b.t⟩) n W'->Fra g β (upF F o.dst (.raw undef)) n a'->next a' W')->o.wp P a W next Q):=by
 have news:∀ {e:Nat} {cs:List SV} {f:Nat->SV} {s:Sem Value} {k:Nat},execOp a.eval o=(do pure (.value (<-s)))->bdL n cs->(∀γ:Nat->Nat,γ k=W.heap.size->s.run P W= .ok (den γ (f k)) (W.alloc (.cells (denL β cs).toArray e)))->bd (fun l=>n l\/l=k) (f k)->¬n k->
  (∀γ a' W',(∀l,n l->γ l=β l)->bdL n cs->Mem g γ (upL L k ⟨k,cs,e⟩) (fun l=>n l\/l=k) W'->Fra g γ (upF F o.dst (f k)) (fun l=>n l\/l=k) a'->next a' W')->o.wp P a W next Q:=by
  intro e cs f s k he hb hs hbr hk hnext
  obtain⟨γ,g1,g2,g3⟩:=hm.alloc hk hb e
  exact upon_ok (v_run he (hs γ g2)) (hnext γ _ _ g1 hb g3 ((hf.mono g1 (fun l hl=>Or.inl hl)).put hd hbr))
 generalize hop:o.op=op at hr
 cases hr with
 |val hn hv=>
  subst hop
  refine⟨?_,fun _ _ _ _ h=>(by cases h),fun _ _ _ _ h=>(by cases h)⟩
  intro v e hnext
  cases e
  obtain⟨e1,b1⟩:=valV_sound hT hm hf hn hv
  exact upon_ok e1 (hnext _ _ b1 hm (hf.put hd b1))
 | @alloc ee ii ht=>
   refine⟨fun _ h=>(by cases h),?_,fun _ _ _ _ h=>(by cases h)⟩
   rintro f cs t k e hk hnext
   cases e
   obtain⟨info,hi,hsz,z,hz,hzc,hzb,_⟩:=ty_size (β:=β) hT ht
   have hz0:z.cells=(denL β ii.z).toArray:=by rw[<-hzc]
   refine news (e:=ee) (f:=fun n=> .ptr n 0) (s:=Instr.alloc ee true (.tuple #[])) (by unfold execOp;simp only[hop]) (hzb n) ?_ (show bd (fun l=>n l\/l=k) (.ptr k 0)from Or.inr rfl) hk hnext
   intro γ hγ
   simp[Instr.alloc,zeroValue,typeInfo,hi,hz,newVar,newRow,hz0,den,hγ]
 | @box ee x v hx hr=>
   refine⟨fun _ h=>(by cases h),?_,fun _ _ _ _ h=>(by cases h)⟩
   rintro f cs t k e hk hnext
   cases e
   obtain⟨e0,b0⟩:=evd hf hx
   refine news (e:=ee) (f:=fun n=> .ptr n 0) (s:=Instr.box ee (a.eval x)) (by unfold execOp;simp only[hop]) (bd_cells b0) ?_ (show bd (fun l=>n l\/l=k) (.ptr k 0)from Or.inr rfl) hk hnext
   intro γ hγ
   simp[Instr.box,newVar,newRow,e0,cells_den2 β hr,den,hγ]
 | @buildSlice tt m ee es parts ii jj cs0 ht hd' hj h1 h2 hs=>
   refine⟨fun _ h=>(by cases h),?_,fun _ _ _ _ h=>(by cases h)⟩
   rintro f cs t k e hk hnext
   cases e
   obtain⟨r1,r2⟩:=buildSlice_sound (W:=W) hT hf ht hd' hj h1 h2 hs
   refine news (e:=ee) (f:=fun n=> .slice n 0 m m) (s:=Instr.buildSlice tt m (parts.map fun p=>(p.1,a.eval p.2))) (by unfold execOp;simp only[hop]) r2 ?_ (show bd (fun l=>n l\/l=k) (.slice k 0 m m)from Or.inr rfl) hk hnext
   intro γ hγ
   simpa [den,hγ]using r1
 | @store tt x y p u ii ll oo bb hx hy ht hlen hones hL hp hle=>
   refine⟨fun _ h=>(by cases h),fun _ _ _ _ h=>(by cases h),?_⟩
   rintro l q vs b e hb hown hnext
   cases e
   obtain rfl:b=bb:=Option.some.inj (hb.symm.trans hL)
   obtain⟨e0,b0⟩:=evd hf hx
   obtain⟨e1,b1⟩:=evd hf hy
   have hnr:noRaw u=true:=by
    cases u<;>simp_all [noRaw,cellsOf,ones,one]
   have hpd:den β p= .pointer (some ⟨β ll,oo,none⟩):=by rcases hp with rfl|rfl<;>rfl
   obtain⟨mk,hmk,hcell⟩:=hm.cell ll b hb
   have hrun:=run_store_any (P:=P) (W:=W) (off:=oo) hcell (by simpa [dle]using hmk hown) (cells_den2 β hnr) (ty_sizeB hT ht) (by rw[dle,List.length_map,hlen]) (by rw[dle,List.length_map];omega)
    (fun x hx=>by
     rw[dle]at hx
     obtain⟨y,hy,rfl⟩:=List.mem_map.1 hx
     exact one_den β (ones_all hones y hy))
   have he:(execOp a.eval o).run P W= .ok .skip (W.setRow (β ll) (denL β (splice b.cs oo (cellsOf u))).toArray):=by
    unfold execOp
    simp only[hop,e0,e1,hpd,Instr.storeAt,Instr.sureAddr,Sem.run_bind,Sem.run_pure,Result.andThen_ok,hrun]
    rw[splice_den]
    simp[dle]
   exact upon_skip' he (hnext _ _ (bd_cells b1) (hm.store hb (by omega) hown (bd_cells b1)) (hf.put hd (v:= .raw undef) (by simp[bd])))
theorem vcOp_cases{F:FF}{L:LL}{n n0:Nat}{ms:List Nat}{o:Oper}{S:Prop}{Kv:FF->Prop}{Kn:FF->Blk->Prop}{Kw:FF->Nat->List SV->Prop}(h:vcOpG T Ar.real n0 ms S Kv Kn Kw o F L n):
 S\/(∃v,Runs T (look F) (find L) o.op (.val v)/\Kv (putO F o.dst v))\/(∃f cs t,Runs T (look F) (find L) o.op (.new f cs t)/\Kn (putO F o.dst (f n)) ⟨n,cs,t⟩)\/
 (∃l q vs b,Runs T (look F) (find L) o.op (.wr l q vs)/\find L l=some b/\own n0 ms l=true/\Kw (putO F o.dst (.raw undef)) l (splice b.cs q vs)):=by
 have other:(match native T (look F) o.op with
  |true=>match valV Ar.real T (look F) (find L) o.op with
   |some v=>Kv (putO F o.dst v)
   |none=>False
  |false=>S)->S\/(∃v,Runs T (look F) (find L) o.op (.val v)/\Kv (putO F o.dst v)):=by
  intro h2
  cases hn:native T (look F) o.op with
  |false=>simp only[hn]at h2;exact Or.inl h2
  |true=>
   simp only[hn]at h2
   cases hv:valV Ar.real T (look F) (find L) o.op with
   |none=>simp[hv]at h2
   |some r=>simp only[hv]at h2;exact Or.inr ⟨r,.val hn hv,h2⟩
 unfold vcOpG at h
 split at h
 ·rename_i e ho
  cases ht:T e with
  |none=>simp[ht]at h
  |some i=>
   simp only[ht]at h
   exact Or.inr (Or.inr (Or.inl ⟨_,_,_,by rw[ho];exact .alloc ht,h⟩))
 ·rename_i e x ho
  cases hx:ev (look F) x with
  |none=>simp[hx]at h
  |some v=>
   simp only[hx]at h
   cases hr:noRaw v with
   |false=>simp[hr]at h
   |true=>
    simp only[hr]at h
    exact Or.inr (Or.inr (Or.inl ⟨_,_,_,by rw[ho];exact .box hx hr,h⟩))
 ·rename_i t m parts ho
  cases ht:T t with
  |none=>simp[ht]at h
  |some i=>
   simp only[ht]at h
   cases hd':i.d with
   |sl e es=>
    simp only[hd']at h
    cases hj:T e with
    |none=>simp[hj]at h
    |some j=>
     simp only[hj]at h
     cases hb1:Nat.ble (m*j.sz) 16777216 with
     |false=>simp[hb1]at h
     |true=>
      cases hb2:Nat.ble 1 (m*j.sz)with
      |false=>
       simp only[hb1,hb2]at h
       exact Or.inl h
      |true=>
       simp only[hb1,hb2]at h
       cases hs:fillS (place i) (look F) (rep m j.z) parts.toList with
       |none=>simp[hs]at h
       |some cs=>
        simp only[hs]at h
        exact Or.inr (Or.inr (Or.inl ⟨_,_,_,by rw[ho];exact .buildSlice ht hd' hj (Nat.le_of_ble_eq_true hb1) (Nat.le_of_ble_eq_true hb2) hs,h⟩))
   |_=>simp[hd']at h
 ·rename_i t x v ho
  cases hx:ev (look F) x with
  |none=>simp[hx]at h
  |some p=>
   cases hv:ev (look F) v with
   |none=>simp[hx,hv]at h
   |some u=>
    cases ht:T t with
    |none=>simp[hx,hv,ht]at h
    |some i=>
     simp only[hx,hv,ht]at h
     cases hb1:Nat.beq (cellsOf u).length i.sz with
     |false=>simp[hb1]at h
     |true=>
      cases hb2:ones (cellsOf u)with
      |false=>simp[hb1,hb2]at h
      |true=>
       simp only[hb1,hb2]at h
       cases hw:wr Ar.real (find L) (cellsOf u) p with
       |none=>simp[hw]at h
       |some q=>
        obtain⟨l,cs⟩:=q
        simp only[hw]at h
        cases ho2:own n0 ms l with
        |false=>simp[ho2]at h
        |true=>
         simp only[ho2]at h
         have hlen:(cellsOf u).length=i.sz:=Nat.eq_of_beq_eq_true hb1
         have key:∃b o',find L l=some b/\(p= .ptr l o'\/p= .ptrS l o')/\o'+(cellsOf u).length<=b.cs.length/\cs=splice b.cs o' (cellsOf u):=by
          cases p with
          |ptr l' o'=>
           simp only[wr]at hw
           cases hf':find L l' with
           |none=>simp[hf']at hw
           |some b=>
            simp only[hf']at hw
            cases hs:spl1 b.cs o' (cellsOf u)with
            |none=>simp[hs]at hw
            |some cs'=>
             simp only[hs,Option.some.injEq,Prod.mk.injEq]at hw
             obtain⟨rfl,rfl⟩:=hw
             unfold spl1 at hs
             split at hs
             ·rename_i hbl
              exact⟨b,o',hf',Or.inl rfl,Nat.le_of_ble_eq_true hbl,(Option.some.inj hs).symm⟩
             ·cases hs
          |ptrS l' o'=>
           simp only[wr]at hw
           cases hf':find L l' with
           |none=>simp[hf']at hw
           |some b=>
            simp only[hf']at hw
            cases hs:Ar.real.spl b.cs o' (cellsOf u)with
            |none=>simp[hs]at hw
            |some cs'=>
             simp only[hs,Option.some.injEq,Prod.mk.injEq]at hw
             obtain⟨rfl,rfl⟩:=hw
             simp only[Ar.real]at hs
             split at hs
             ·rename_i hbl
              exact⟨b,o',hf',Or.inr rfl,hbl,(Option.some.inj hs).symm⟩
             ·cases hs
          |_=>simp[wr]at hw
         obtain⟨b,o',hfb,hp,hle,rfl⟩:=key
         exact Or.inr (Or.inr (Or.inr ⟨l,o',_,b,by rw[ho];exact .store hx hv ht hlen hb2 hfb hp hle,hfb,ho2,h⟩))
 ·exact(other h).imp id Or.inl
theorem vcOp_sound(hT:TOk P T){F:FF}{L:LL}{n:Nat}{n0:Nat}{ms:List Nat}(h0:g.n0=n0)(h1:g.ms=ms){o:Oper}(hd:∀t,o.dst=some t->t<g.N){K:FF->LL->Nat->Prop}(h:vcOp T Ar.real P g n0 ms o K F L n):
 Step g P o K F L n:=by
 subst h0 h1
 rcases vcOp_cases h with h|⟨v,hr,hk⟩|⟨f,cs,t,hr,hk⟩|⟨l,q,vs,b,hr,hb,hown,hk⟩
 ·exact h
 ·refine⟨?_⟩
  rintro a W ⟨β,hm,hf⟩ next Q hK
  refine(Runs.sound hT hm hf hd hr).1 v rfl fun a' W' _ hm' hf'=>hK _ _ _ _ _ hk ⟨β,hm',?_⟩
  rw[look_putO];exact hf'
 ·refine⟨?_⟩
  rintro a W ⟨β,hm,hf⟩ next Q hK
  refine(Runs.sound hT hm hf hd hr).2.1 f cs t n rfl (Nat.lt_irrefl n) fun γ a' W' _ _ hm' hf'=>hK _ _ _ _ _ hk ⟨γ,?_,?_⟩
  ·rw[find_new (fun l b h=>(hm.bL l b h).1),<-succ_p];exact hm'
  ·rw[look_putO,<-succ_p];exact hf'
 ·refine⟨?_⟩
  rintro a W ⟨β,hm,hf⟩ next Q hK
  refine(Runs.sound hT hm hf hd hr).2.2 l q vs b rfl hb hown fun a' W' _ hm' hf'=>hK _ _ _ _ _ hk ⟨β,?_,?_⟩
  ·have:find (updL L l (splice b.cs q vs))=upL (find L) l ⟨b.l,splice b.cs q vs,b.t⟩:=by
    funext k
    rw[find_updL,hb];rfl
   rw[this];exact hm'
  ·rw[look_putO];exact hf'
end
end Go.Vg
