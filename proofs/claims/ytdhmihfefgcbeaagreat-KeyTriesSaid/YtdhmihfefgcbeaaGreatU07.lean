/-
  This text proves what these texts prove: VgV, DgA, VgW, VgX, VgY, VgZ, Vgc, Vgd. Conditions: those of each theorem.
-/
import Derived.Laws.Externs
import Derived.Shelf.Spec.BitsCarry
import Derived.Laws.Small
import Derived.Lib.AppendStr
import Derived.Laws.OwnMore
import Derived.Test.YtdhmihfefgcbeaaGreatU06
set_option maxHeartbeats 8000000
namespace Go.Vg
open Go.RowKit
def wkF2(ρ:Nat->Nat)(m:Nat)(F:FF):FF->Prop
 | []=>True
 |(t,v)::F'=>look F t=some (ren ρ v)/\bdB m v=true/\wkF2 ρ m F F'
def wkL2(ρ:Nat->Nat)(n0 m:Nat)(L:LL):LL->Prop
 | []=>True
 |b::L'=>find L (ρ b.l)=some ⟨ρ b.l,renL ρ b.cs,b.t⟩/\Nat.blt b.l m=true/\(Nat.blt b.l n0||Nat.ble n0 (ρ b.l))=true/\bdLB m b.cs=true/\wkL2 ρ n0 m L L'
theorem wkF_of2{ρ:Nat->Nat}{m:Nat}{F:FF}:∀ {F':FF},wkF2 ρ m F F'->wkF ρ m F F'
 | [],_=>trivial
 |(_,_)::_,h=>⟨h.1,bdB_bd _ h.2.1,wkF_of2 h.2.2⟩
theorem wkL_of2{ρ:Nat->Nat}{n0 m:Nat}{L:LL}:∀ {L':LL},wkL2 ρ n0 m L L'->wkL ρ n0 m L L'
 | [],_=>trivial
 |_::_,h=>⟨h.1,h.2.1,h.2.2.1,bdb _ h.2.2.2.1,wkL_of2 h.2.2.2.2⟩
theorem wkr{ρ:Nat->Nat}{n0 n':Nat}{F F':FF}{L L':LL}{n:Nat}(hF:wkF2 ρ n' F F')(hL:wkL2 ρ n0 n' L L')(hd:ndN (L'.map fun b=>ρ b.l)=true)(hn:Nat.ble n0 n'=true)(hb:below (fun l=>Nat.beq (ρ l) l) n0=true):Weak n0 ρ F' L' n' F L n:=
 ⟨wkF_of2 hF,wkL_of2 hL,hd,hn,hb⟩
section
variable {P:Program}{g:G}{T:Nat->Option Ty}{F:FF}{L:LL}{n:Nat}
theorem run_slice_op{W:World}{a:Act}{o:Oper}{x:Operand}{t:TypeId}{lo hi mx:Option Operand}(ho:o.op= .slice t x lo hi mx){v:Value}{W':World}(h:(Instr.sliceAt t (a.eval x) (lo.map a.eval) (hi.map a.eval) (mx.map a.eval)).run P W= .ok v W'):(execOp a.eval o).run P W= .ok (.value v) W':=by
 unfold execOp
 simp only[ho,Sem.run_bind,Sem.run_pure,Result.andThen_ok,h]
end
end Go.Vg
namespace Dg
/-! numbers as rows of digits of base b-/
def num(b:Nat)(f:Nat->Nat):Nat->Nat
 |0=>0
 |n+1=>num b f n+f n*b^n
def dig(b x i:Nat):Nat:=x/b^i%b
variable {b:Nat}
theorem dig_lt(hb:0<b)(x i:Nat):dig b x i<b:=Nat.mod_lt _ hb
theorem num_congr{f g:Nat->Nat}:∀n,(∀i,i<n->f i=g i)->num b f n=num b g n
 |0,_=>rfl
 |n+1,h=>by simp only[num];rw[num_congr n fun i hi=>h i (by omega),h n (by omega)]
theorem num_lt{f:Nat->Nat}:∀n,(∀i,i<n->f i<b)->num b f n<b^n
 |0,_=>by simp[num]
 |n+1,h=>by
  have h1:=num_lt n fun i hi=>h i (by omega)
  have h2:=h n (by omega)
  have h3:=Nat.mul_le_mul_right (b^n) (show f n+1<=b by omega)
  rw[Nat.add_mul,Nat.one_mul]at h3
  simp only[num,Nat.pow_succ]
  rw[Nat.mul_comm (b^n) b]
  omega
theorem num_dig(hb:0<b)(x:Nat):∀n,num b (dig b x) n=x%b^n
 |0=>by simp[num,Nat.mod_one]
 |n+1=>by
  simp only[num,dig]
  rw[num_dig hb x n,Nat.pow_succ,Nat.mod_mul,Nat.mul_comm (x/b^n%b)]
theorem num_split(f:Nat->Nat)(m:Nat):∀n,num b f (m+n)=num b f m+num b (fun i=>f (m+i)) n*b^m
 |0=>by simp[num]
 |n+1=>by
  show num b f (m+n)+f (m+n)*b^(m+n)=_
  rw[num_split f m n]
  simp only[num]
  rw[Nat.add_mul,Nat.pow_add,Nat.mul_assoc,Nat.mul_comm (b^n),Nat.add_assoc]
theorem dig_num(hb:0<b){f:Nat->Nat}(n:Nat)(h:∀i,i<n->f i<b)(i:Nat)(hi:i<n):dig b (num b f n) i=f i:=by
 obtain⟨k,rfl⟩:∃k,n=i+(1+k):=⟨n-i-1,by omega⟩
 have h1:num b f i<b^i:=num_lt i fun j hj=>h j (by omega)
 have hp:0<b^i:=Nat.pow_pos hb
 rw[num_split,num_split]
 simp only[dig,num]
 rw[Nat.add_mul_div_right _ _ hp,Nat.div_eq_of_lt h1]
 simp only[Nat.zero_add,Nat.pow_zero,Nat.mul_one,Nat.add_zero,Nat.pow_one]
 rw[Nat.add_mul_mod_self_right,Nat.mod_eq_of_lt (h i (by omega))]
theorem dig_big(hb:1<b){x n:Nat}(h:x<b^n){i:Nat}(hi:n<=i):dig b x i=0:=by
 unfold dig
 rw[Nat.div_eq_of_lt (Nat.lt_of_lt_of_le h (Nat.pow_le_pow_right (by omega) hi)),Nat.zero_mod]
theorem num_zero(f:Nat->Nat)(m:Nat):∀n,(∀i,m<=i->i<m+n->f i=0)->num b f (m+n)=num b f m
 |0,_=>rfl
 |n+1,h=>by
  show num b f (m+n)+f (m+n)*b^(m+n)=_
  rw[num_zero f m n fun i h1 h2=>h i h1 (by omega),h (m+n) (by omega) (by omega)];simp
theorem num_inj(hb:0<b){f g:Nat->Nat}{n:Nat}(hf:∀i,i<n->f i<b)(hg:∀i,i<n->g i<b)(h:num b f n=num b g n)(i:Nat)(hi:i<n):f i=g i:=by
 rw[<-dig_num hb n hf i hi,h,dig_num hb n hg i hi]
theorem num_set{f:Nat->Nat}{k v:Nat}:∀n,n<=k->num b (fun j=>if j=k then v else f j) n=num b f n
 |0,_=>rfl
 |n+1,h=>by
  simp only[num]
  rw[num_set n (by omega),if_neg (by omega)]
/-! a digit of a quotient:guessed from the highest digits-/
theorem guess1{d u:Nat->Nat}{n q:Nat}(hb:0<b)(hu:∀i,i<=n+1->u i<b)
 (hq:q*num b d (n+1)<=num b u (n+2)):q*d n<=u (n+1)*b+u n:=by
 have h1:num b u n<b^n:=num_lt n fun i hi=>hu i (by omega)
 have hp:0<b^n:=Nat.pow_pos hb
 simp only[num,Nat.pow_succ]at hq
 generalize b^n=P at *
 have h2:q*d n*P<(u (n+1)*b+u n+1)*P:=by
  have e1:q*(num b d n+d n*P)=q*num b d n+q*d n*P:=by grind
  have e2:(u (n+1)*b+u n+1)*P=u n*P+u (n+1)*(P*b)+P:=by grind
  omega
 have:=Nat.lt_of_mul_lt_mul_right h2
 omega
theorem guess2{d u:Nat->Nat}{n q:Nat}(hb:0<b)(hu:∀i,i<=n+2->u i<b)
 (hq:q*num b d (n+2)<=num b u (n+3)):q*(d (n+1)*b+d n)<=(u (n+2)*b+u (n+1))*b+u n:=by
 have h1:num b u n<b^n:=num_lt n fun i hi=>hu i (by omega)
 have hp:0<b^n:=Nat.pow_pos hb
 simp only[num,Nat.pow_succ]at hq
 generalize b^n=P at *
 have h2:q*(d (n+1)*b+d n)*P<((u (n+2)*b+u (n+1))*b+u n+1)*P:=by
  have e1:q*(num b d n+d n*P+d (n+1)*(P*b))=q*num b d n+q*(d (n+1)*b+d n)*P:=by grind
  have e2:((u (n+2)*b+u (n+1))*b+u n+1)*P=u n*P+u (n+1)*(P*b)+u (n+2)*(P*b*b)+P:=by grind
  omega
 have:=Nat.lt_of_mul_lt_mul_right h2
 omega
theorem guess3{t d2 h l u2 q r Q:Nat}(e:q*t+r=h*b+l)(hQ:Q*(t*b+d2)<=(h*b+l)*b+u2)(much:r*b+u2<q*d2)(hle:Q<=q):Q<=q-1:=by
 rcases Nat.lt_or_eq_of_le hle with h1|h1
 ·omega
 ·subst h1
  exfalso
  rw[<-e,Nat.mul_add,Nat.add_mul,<-Nat.mul_assoc]at hQ
  omega
end Dg
namespace Go.Vg
open Go.RowKit
structure ExtF(P:Program)(f:FuncId)(us:List SV)(v:SV):Prop where
 run:∀w,(callFunc f (denL id us).toArray).run P w= .ok (.value (den id v)) w
 cu:bdL (fun _=>False) us
 cv:bd (fun _=>False) v
section
variable {P:Program}{g:G}
theorem ext_run{β:Nat->Nat}{a:Act}{W:World}{F:Nat->Option SV}{q:Nat->Prop}(hf:Fra g β F q a){o:Oper}{c:Call}(ho:o.op= .call c){f:FuncId}{args:List SV}{v:SV}(hc:callee F c=some (f,args))(he:ExtF P f args v):
 (execOp a.eval o).run P W= .ok (.value (den β v)) W:=by
 obtain⟨hr,hu,hcv⟩:=he
 have hu':denL β args=denL id args:=dlc (p:=fun _=>False) (fun l hl=>hl.elim) args hu
 have hv':den β v=den id v:=den_congr (p:=fun _=>False) (fun l hl=>hl.elim) v hcv
 unfold callee at hc
 split at hc
 ·rename_i fo hfo
  split at hc
  ·rename_i f' x y hev
   cases hvs:evs F c.args.toList with
   |none=>simp[hvs]at hc
   |some vs=>
    simp only[hvs,Option.some.injEq,Prod.mk.injEq]at hc
    obtain⟨rfl,rfl⟩:=hc
    obtain⟨e0,b0⟩:=evd hf hev
    obtain⟨e1,b1⟩:=evs_sound hf hvs
    have m1:c.args.map a.eval=(denL β vs).toArray:=by rw[<-e1,<-Array.toList_map]
    unfold execOp
    have hres:(resolve a.eval c o.type).run P W= .ok {target:= .fn (.func f') (denL β y).toArray,args:=(denL β x).toArray++(denL β vs).toArray} W:=by
     unfold resolve
     simp[hfo,e0,den,Deferred.ofValue,m1]
    have h2:(callFunc f' ((denL β x).toArray++(denL β vs).toArray++(denL β y).toArray)).run P W= .ok (.value (den β v)) W:=by
     rw[hv',<-hr W,<-hu']
     simp[dle]
    simp only[ho,Sem.run_bind,hres,Result.andThen_ok,invoke,h2]
  ·cases hc
 ·cases hc
theorem step_ext{F:FF}{L:LL}{n:Nat}{o:Oper}{c:Call}(ho:o.op= .call c){m0 N:Nat}{ms:List Nat}(hg:GI g m0 ms N)(hd':dstLt N o.dst=true){f:FuncId}{args:List SV}{v:SV}(hc:callee (look F) c=some (f,args))(he:ExtF P f args v)
 {K:FF->LL->Nat->Prop} (hK:K (putO F o.dst v) L n):Step g P o K F L n:=
 step_val hg hd' (fun _ _ _ _ hf=>⟨ext_run hf ho hc he,bd_mono (fun _ h=>h.elim) v he.cv⟩) hK
theorem en_ext{o:Oper}{c:Call}(ho:o.op= .call c){m0 N:Nat}{ms:List Nat}(hg:GI g m0 ms N)(hd':dstLt N o.dst=true){F:Nat->Option SV}{f:FuncId}{args:List SV}{v:SV}(hc:callee F c=some (f,args))(he:ExtF P f args v){M:Nat->Option Blk}:EN g P o F M v []:=
 en_out hg hd' fun _ _ _ _ _ _ hF _ _ hf=>⟨ext_run hf ho ((callee_congr ho hF).trans hc) he,bd_mono (fun _ h=>h.elim) v he.cv⟩
end
def pickF:List Nat->FF->FF
 | [],_=> []
 |k::ks,F=>match look F k with
  |some v=>(k,v)::pickF ks F
  |none=>pickF ks F
def overL:List (Nat×List SV)->LL->LL
 | [],L=>L
 |(l,cs)::U,L=>overL U (updL L l cs)
theorem lpb{n0:Nat}{c:Code}{body:(Exit->FF->LL->Nat->Prop)->FF->LL->Nat->Prop}{Q:Exit->FF->LL->Nat->Prop}{F:FF}{L:LL}{n:Nat}(σ:Type)(ok:σ->Prop)(m:σ->Nat)(cF:σ->FF)(ks:List Nat)(cL:σ->List (Nat×List SV))(s0:σ)(h0:ok s0)
 (h1:Weak n0 id (cF s0++pickF ks F) (overL (cL s0) L) n F L n)
 (h2:∀s,ok s->body (onLoop (fun F' L' n'=>∃s' ρ,ok s'/\m s'<m s/\Weak n0 ρ (cF s'++pickF ks F) (overL (cL s') L) n F' L' n') Q) (cF s++pickF ks F) (overL (cL s) L) n):LoopP n0 c body Q F L n:=
 ⟨σ,ok,m,fun s=>cF s++pickF ks F,fun s=>overL (cL s) L,n,⟨s0,id,h0,h1⟩,h2⟩
theorem bkb{n0:Nat}{Lp:LL}(h:(Lp.all fun b=>bdLB n0 b.cs)=true):∀b∈Lp,bdL (fun l=>l<n0) b.cs:=fun b hb=>bdb _ (List.all_eq_true.1 h b hb)
def ws(f:Nat->Nat)(n:Nat):List SV:=lst .u64 (fun j=>Int.ofNat (f j)) 0 n
def Wn(n:Nat)(f:Nat->Nat):Prop:=∀j,j<n->f j<0x10000000000000000
def V(n:Nat)(f:Nat->Nat):Nat:=Dg.num 0x10000000000000000 f n
theorem V_lt{n:Nat}{f:Nat->Nat}(h:Wn n f):V n f<0x10000000000000000^n:=Dg.num_lt n h
theorem V_inj{n:Nat}{f g:Nat->Nat}(hf:Wn n f)(hg:Wn n g)(h:V n f=V n g){k:IntKind}:lst k (fun j=>Int.ofNat (f j)) 0 n=lst k (fun j=>Int.ofNat (g j)) 0 n:=
 lcg fun j _ hj=>congrArg Int.ofNat (Dg.num_inj (by decide) hf hg h j (by omega))
theorem exV(n x:Nat)(h:x<0x10000000000000000^n):∃r,Wn n r/\V n r=x:=
 ⟨Dg.dig 0x10000000000000000 x,fun j _=>Dg.dig_lt (by decide) x j,(Dg.num_dig (by decide) x n).trans (Nat.mod_eq_of_lt h)⟩
section
variable {A:Ar}
theorem getW(hA:A=Ar.real)(K:IntKind){n:Nat}(f:Nat->Nat){k:Nat}(h:k<n):A.get (lst K (fun j=>Int.ofNat (f j)) 0 n) k=some (.int K (Int.ofNat (f k))):=by
 rw[get_of hA,lst_get _ _ h,Nat.zero_add]
theorem splW(hA:A=Ar.real)(K:IntKind){n:Nat}(f g:Nat->Nat){k v:Nat}(h:k<n)(hg:g=fun j=>if j=k then v else f j):A.spl (lst K (fun j=>Int.ofNat (f j)) 0 n) k [.int K (Int.ofNat v)]=some (lst K (fun j=>Int.ofNat (g j)) 0 n):=by
 rw[spl_of hA (by rw[lle];exact h)]
 congr 1
 refine lst_set h ?_ fun j _ _ h3=> ?_
 ·rw[Nat.zero_add,hg];simp
 ·rw[Nat.zero_add]at h3;rw[hg];simp[h3]
theorem lssI(hA:A=Ar.real)(a b:Nat):A.cmp .lss (Int.ofNat a) (Int.ofNat b)=decide (a<b):=by
 rw[lss_of hA];exact decide_eq_decide.2 Int.ofNat_lt
theorem subI(hA:A=Ar.real){a b:Nat}(h:b<=a)(ha:a<2^63):A.bin .sub .i64 (Int.ofNat a) (Int.ofNat b)=Int.ofNat (a-b):=by
 subst hA
 show IntKind.i64.wrap (Int.ofNat a-Int.ofNat b)=_
 rw[show Int.ofNat a-Int.ofNat b=((a-b:Nat):Int) by simp;omega]
 exact wrap_of _ (by omega)
theorem addI(hA:A=Ar.real){a b:Nat}(h:a+b<2^63):A.bin .add .i64 (Int.ofNat a) (Int.ofNat b)=Int.ofNat (a+b):=by
 subst hA
 exact wrap_of _ h
theorem mulI(hA:A=Ar.real){a b:Nat}(h:a*b<2^63):A.bin .mul .i64 (Int.ofNat a) (Int.ofNat b)=Int.ofNat (a*b):=by
 subst hA
 exact wrap_of _ h
theorem eqlI(hA:A=Ar.real)(a b:Nat):A.cmp .eql (Int.ofNat a) (Int.ofNat b)=decide (a=b):=by
 rw[eql_of hA];exact decide_eq_decide.2 ⟨fun h=>Int.ofNat.inj h,fun h=>congrArg Int.ofNat h⟩
theorem gtrI(hA:A=Ar.real)(a b:Nat):A.cmp .gtr (Int.ofNat a) (Int.ofNat b)=decide (b<a):=by
 subst hA
 show decide (Int.ofNat a>Int.ofNat b)=_
 exact decide_eq_decide.2 Int.ofNat_lt
theorem geqI(hA:A=Ar.real)(a b:Nat):A.cmp .geq (Int.ofNat a) (Int.ofNat b)=decide (b<=a):=by
 subst hA
 show decide (Int.ofNat a≥Int.ofNat b)=_
 exact decide_eq_decide.2 Int.ofNat_le
theorem leqI(hA:A=Ar.real)(a b:Nat):A.cmp .leq (Int.ofNat a) (Int.ofNat b)=decide (a<=b):=by
 subst hA
 show decide (Int.ofNat a<=Int.ofNat b)=_
 exact decide_eq_decide.2 Int.ofNat_le
theorem neqI(hA:A=Ar.real)(a b:Nat):A.cmp .neq (Int.ofNat a) (Int.ofNat b)=decide (a≠b):=by
 rw[neq_of hA];exact decide_eq_decide.2 ⟨fun h e=>h (congrArg Int.ofNat e),fun h e=>h (Int.ofNat.inj e)⟩
theorem shrI(hA:A=Ar.real){k:IntKind}{a b:Nat}(hb:b<=k.bits):A.sh .shr k (Int.ofNat a) (Int.ofNat b)=Int.ofNat (a/2^b):=by
 subst hA
 show Int.fdiv (Int.ofNat a) (2^(min (Int.ofNat b).toNat k.bits))=_
 rw[show(Int.ofNat b).toNat=b from rfl,Nat.min_eq_left hb]
 have h:(2:Int)^b=Int.ofNat (2^b):=by simp
 rw[h];exact(Int.ofNat_fdiv ..).symm
theorem cvtI(hA:A=Ar.real){k:IntKind}{a:Nat}(h:k.signed=true->a<2^(k.bits-1))(h2:k.signed=false->a<2^k.bits):A.cvt k (Int.ofNat a)=Int.ofNat a:=by
 rw[cvt_of hA]
 cases k<;>simp[IntKind.wrap,IntKind.signed,IntKind.bits]at h h2⊢ <;>omega
end
def IsBl(x k:Nat):Prop:=x<2^k/\(0<k->2^(k-1)<=x)
theorem IsBl.uniq{x k l:Nat}(h:IsBl x k)(h2:IsBl x l):k=l:=by
 rcases Nat.lt_trichotomy k l with h3|h3|h3
 ·have:=Nat.pow_le_pow_right (show 0<2 by decide) (show k<=l-1 by omega)
  have:=h2.2 (by omega)
  have:=h.1
  omega
 ·exact h3
 ·have:=Nat.pow_le_pow_right (show 0<2 by decide) (show l<=k-1 by omega)
  have:=h.2 (by omega)
  have:=h2.1
  omega
def Used(m:Nat)(a:Nat->Nat)(u:Nat):Prop:=u<=m/\(∀j,u<=j->j<m->a j=0)/\(0<u->a (u-1)≠0)
end Go.Vg
namespace Go.Vg
open Go.RowKit
section
variable {P:Program}{g:G}{F:FF}{L:LL}{n:Nat}
theorem run_max_op{W:World}{a:Act}{o:Oper}{s x:Operand}{ats:Array TypeId}(ho:o.op= .call {callee:= .builtin .max,args:= #[s,x],argTypes:=ats}){v:Value}{W':World}(h:(Builtin.max_ ats o.type #[a.eval s,a.eval x]).run P W= .ok v W'):(execOp a.eval o).run P W= .ok (.value v) W':=by
 unfold execOp
 simp only[ho,resolve,invoke,builtin,Sem.run_bind,Sem.run_pure,Result.andThen_ok,List.map_toArray,List.map_cons,List.map_nil,h]
theorem run_min_op{W:World}{a:Act}{o:Oper}{s x:Operand}{ats:Array TypeId}(ho:o.op= .call {callee:= .builtin .min,args:= #[s,x],argTypes:=ats}){v:Value}{W':World}(h:(Builtin.min_ ats o.type #[a.eval s,a.eval x]).run P W= .ok v W'):(execOp a.eval o).run P W= .ok (.value v) W':=by
 unfold execOp
 simp only[ho,resolve,invoke,builtin,Sem.run_bind,Sem.run_pure,Result.andThen_ok,List.map_toArray,List.map_cons,List.map_nil,h]
theorem step_max{o:Oper}{m0 N:Nat}{ms:List Nat}(hg:GI g m0 ms N)(hd':dstLt N o.dst=true){s x:Operand}{ats:Array TypeId}(ho:o.op= .call {callee:= .builtin .max,args:= #[s,x],argTypes:=ats})
 {k k':IntKind} {a b r:Int} (hs:ev (look F) s=some (.int k a)) (hx:ev (look F) x=some (.int k' b)) (hr:r=if b>a then b else a) {K:FF->LL->Nat->Prop} (hK:K (putO F o.dst (.int k r)) L n):Step g P o K F L n:=by
 refine step_val hg hd' (fun β act W hm hf=> ?_) hK
 obtain⟨e1,_⟩:=evd hf hs
 obtain⟨e2,_⟩:=evd hf hx
 refine⟨run_max_op ho ?_,trivial⟩
 rw[e1,e2,hr]
 exact run_max_int2 W ats o.type k k' a b
theorem step_min{o:Oper}{m0 N:Nat}{ms:List Nat}(hg:GI g m0 ms N)(hd':dstLt N o.dst=true){s x:Operand}{ats:Array TypeId}(ho:o.op= .call {callee:= .builtin .min,args:= #[s,x],argTypes:=ats})
 {k k':IntKind} {a b r:Int} (hs:ev (look F) s=some (.int k a)) (hx:ev (look F) x=some (.int k' b)) (hr:r=if b<a then b else a) {K:FF->LL->Nat->Prop} (hK:K (putO F o.dst (.int k r)) L n):Step g P o K F L n:=by
 refine step_val hg hd' (fun β act W hm hf=> ?_) hK
 obtain⟨e1,_⟩:=evd hf hs
 obtain⟨e2,_⟩:=evd hf hx
 refine⟨run_min_op ho ?_,trivial⟩
 rw[e1,e2,hr]
 exact run_min_int2 W ats o.type k k' a b
end
theorem used_ex(a:Nat->Nat):∀m,∃u,Used m a u
 |0=>⟨0,Nat.le_refl 0,fun j h1 h2=>by omega,fun h=>absurd h (by decide)⟩
 |m+1=>by
  by_cases h:a m=0
  ·obtain⟨u,h1,h2,h3⟩:=used_ex a m
   refine⟨u,by omega,fun j hj hl=> ?_,h3⟩
   by_cases hm:j=m
   ·rw[hm];exact h
   ·exact h2 j hj (by omega)
  ·exact⟨m+1,Nat.le_refl _,fun j h1 h2=>by omega,fun _=>h⟩
theorem V_used{m u:Nat}{a:Nat->Nat}(h:Used m a u):V m a=V u a:=by
 obtain⟨k,rfl⟩:∃k,m=u+k:=⟨m-u,by have:=h.1;omega⟩
 exact Dg.num_zero a u k fun i h1 h2=>h.2.1 i h1 h2
theorem IsBl.zero{k:Nat}(h:IsBl 0 k):k=0:=by
 rcases Nat.eq_zero_or_pos k with h1|h1
 ·exact h1
 ·have:=h.2 h1
  have:=Nat.pow_pos (n:=k-1) (show 0<2 by decide)
  omega
theorem IsBl.shift{x y s l:Nat}(hx:x<2^s)(hy:IsBl y l)(h0:0<y):IsBl (x+y*2^s) (s+l):=by
 have hl:0<l:=by
  rcases Nat.eq_zero_or_pos l with h|h
  ·subst h;have:=hy.1;simp at this;omega
  ·exact h
 refine⟨?_,fun _=> ?_⟩
 ·have h1:=Nat.mul_le_mul_right (2^s) (show y+1<=2^l from hy.1)
  rw[Nat.add_mul,Nat.one_mul]at h1
  rw[Nat.pow_add,Nat.mul_comm (2^s)]
  omega
 ·have h1:=Nat.mul_le_mul_right (2^s) (hy.2 hl)
  rw[show s+l-1=l-1+s by omega,Nat.pow_add]
  omega
theorem bl_ex(x:Nat):∃k,IsBl x k:=by
 by_cases h:x=0
 ·exact⟨0,by subst h;decide,fun h=>absurd h (by decide)⟩
 ·exact⟨Nat.log2 x+1,Nat.lt_log2_self,fun _=>Nat.log2_self_le h⟩
theorem W_pow(n:Nat):18446744073709551616^n=2^(64*n):=by
 rw[Nat.pow_mul]
theorem W9 {b : Nat} (hb : b = 64 * 9) : 18446744073709551616 ^ 9 = 2 ^ b := by rw [hb, W_pow]
section
variable {A:Ar}
theorem addU(hA:A=Ar.real){a b:Nat}(h:a+b<0x10000000000000000):A.bin .add .u64 (Int.ofNat a) (Int.ofNat b)=Int.ofNat (a+b):=by
 subst hA
 show IntKind.u64.wrap (Int.ofNat a+Int.ofNat b)=_
 simp[IntKind.wrap,IntKind.signed,IntKind.bits]
 omega
end
end Go.Vg
namespace Go.Vg
open Go.RowKit
def ovI(F:Nat->Option SV):Option Operand->Option (Option (IntKind×Int))
 |none=>some none
 |some x=>match ev F x with
  |some (.int k i)=>some (some (k,i))
  |_=>none
def ivO(p:Option (IntKind×Int)):Option Value:=p.map fun p=> .int p.1 p.2
structure SlR(P:Program)(t:TypeId)(u:SV)(lo hi:Option (IntKind×Int))(r:SV):Prop where
 run:∀ (β:Nat->Nat) (W:World),(Instr.sliceAt t (den β u) (ivO lo) (ivO hi) none).run P W= .ok (den β r) W
 bd:∀p,bd p u->bd p r
section
variable {P:Program}{g:G}{T:Nat->Option Ty}
theorem ovI_sound{F:Nat->Option SV}{β:Nat->Nat}{q:Nat->Prop}{a:Act}(hf:Fra g β F q a){x:Option Operand}{p:Option (IntKind×Int)}(h:ovI F x=some p):x.map a.eval=ivO p:=by
 cases x with
 |none=>simp only[ovI,Option.some.injEq]at h;subst h;rfl
 |some x=>
  simp only[ovI]at h
  split at h
  ·rename_i k i he
   simp only[Option.some.injEq]at h
   subst h
   simp only[Option.map_some,(evd hf he).1,den,ivO]
  ·cases h
theorem ovI_congr{F F':Nat->Option SV}{x:Option Operand}(h:∀y,x=some y->ev F' y=ev F y):ovI F' x=ovI F x:=by
 cases x with
 |none=>rfl
 |some x=>simp only[ovI,h x rfl]
theorem ssl{F:FF}{L:LL}{n:Nat}{o:Oper}{m0 N:Nat}{ms:List Nat}(hg:GI g m0 ms N)(hd':dstLt N o.dst=true){x:Operand}{t:Nat}{lo hi:Option Operand}(ho:o.op= .slice t x lo hi none){u r:SV}{l h:Option (IntKind×Int)}
 (hx:ev (look F) x=some u) (hl:ovI (look F) lo=some l) (hh:ovI (look F) hi=some h) (hr:SlR P t u l h r) {K:FF->LL->Nat->Prop} (hK:K (putO F o.dst r) L n):Step g P o K F L n:=by
 refine step_val hg hd' (fun β a W hm hf=> ?_) hK
 obtain⟨e1,b1⟩:=evd hf hx
 refine⟨run_slice_op ho ?_,hr.bd _ b1⟩
 rw[e1,ovI_sound hf hl,ovI_sound hf hh]
 exact hr.run β W
theorem en_slice{F:Nat->Option SV}{M:Nat->Option Blk}{o:Oper}{m0 N:Nat}{ms:List Nat}(hg:GI g m0 ms N)(hd':dstLt N o.dst=true){x:Operand}{t:Nat}{lo hi:Option Operand}(ho:o.op= .slice t x lo hi none){u r:SV}{l h:Option (IntKind×Int)}
 (hx:ev F x=some u) (hl:ovI F lo=some l) (hh:ovI F hi=some h) (hr:SlR P t u l h r):EN g P o F M r []:=by
 refine en_out hg hd' fun β p F' L' a W hF hM hm hf=> ?_
 have E:∀z∈o.op.operands.toList,ev F' z=ev F z:=fun z hz=>ev_congr fun t ht=>hF t (tmpsL_mem hz ht)
 rw[ho]at E
 obtain⟨e1,b1⟩:=evd hf ((E x (by cases lo<;>cases hi<;>simp[Op.operands])).trans hx)
 refine⟨run_slice_op ho ?_,hr.bd _ b1⟩
 rw[e1,ovI_sound hf ((ovI_congr fun y hy=>E y (by subst hy;cases hi<;>simp[Op.operands])).trans hl),ovI_sound hf ((ovI_congr fun y hy=>E y (by subst hy;cases lo<;>simp[Op.operands])).trans hh)]
 exact hr.run β W
theorem arr_facts(hT:TOk P T){t:Nat}{i:Ty}(ht:T t=some i){m e es:Nat}{ag:Bool}(hd:i.d= .ar m e es ag):P.underlying t=some (.array (P.arrayLen t) (P.elem t))/\P.arrayLen t=m/\∀w,(sizeOf (P.elem t)).run P w= .ok es w:=by
 obtain⟨hu,hs,_⟩:=arr_of hT ht hd
 have h1:P.arrayLen t=m:=by simp[Program.arrayLen,hu]
 have h2:P.elem t=e:=by simp[Program.elem,hu]
 exact⟨by rw[h1,h2];exact hu,h1,fun w=>by rw[h2];exact rsz hs w⟩
theorem slr_arr(hT:TOk P T){t:Nat}{i:Ty}(ht:T t=some i){m e es:Nat}{ag:Bool}(hd:i.d= .ar m e es ag)(l o:Nat):SlR P t (.ptr l o) none none (.slice l o m m):=by
 obtain⟨hu,hm,hs⟩:=arr_facts hT ht hd
 refine⟨fun β W=> ?_,fun p h=>h⟩
 show(Instr.sliceAt t (.pointer (some ⟨β l,o,none⟩)) none none none).run P W=_
 rw[run_sliceAt_array_all W t ⟨β l,o,none⟩ hu,hs W,hm]
 simp only[Result.andThen,slicedAt,Nat.sub_zero,den]
 split
 ·rfl
 ·rw[Nat.zero_mul,addr_add'];rfl
theorem slr_arr_h(hT:TOk P T){t:Nat}{i:Ty}(ht:T t=some i){m e es:Nat}{ag:Bool}(hd:i.d= .ar m e es ag)(l o:Nat){k:IntKind}{j:Nat}(hj:j<=m):SlR P t (.ptr l o) none (some (k,Int.ofNat j)) (.slice l o j m):=by
 obtain⟨hu,hm,hs⟩:=arr_facts hT ht hd
 refine⟨fun β W=> ?_,fun p h=>h⟩
 show(Instr.sliceAt t (.pointer (some ⟨β l,o,none⟩)) none (some (.int k (Int.ofNat j))) none).run P W=_
 rw[run_sliceAt_array_h W t ⟨β l,o,none⟩ hu k (Int.ofNat j) (by simp) (by rw[hm];exact Int.ofNat_le.2 hj),hs W,hm]
 simp only[Result.andThen,slicedAt,Nat.sub_zero,den]
 split
 ·rfl
 ·rw[Nat.zero_mul,addr_add'];rfl
theorem slr_h(hT:TOk P T){t:Nat}{i:Ty}(ht:T t=some i){e es:Nat}(hd:i.d= .sl e es)(l o m c:Nat){k:IntKind}{j:Nat}(hj:j<=c):SlR P t (.slice l o m c) none (some (k,Int.ofNat j)) (.slice l o j c):=by
 obtain⟨hu,hs⟩:=sl_of hT ht hd
 have he:P.elem t=e:=by simp[Program.elem,hu]
 refine⟨fun β W=> ?_,fun p h=>h⟩
 show(Instr.sliceAt t (.slice (some ⟨β l,o,none⟩) m c) none (some (.int k (Int.ofNat j))) none).run P W=_
 rw[run_sliceAt_slice W t _ _ _ _ (by rw[he];exact hu),run_slice_h W t _ m c (by rw[he];exact hu) k (Int.ofNat j) (by simp) (by simpa using hj),he,rsz hs]
 simp[Result.andThen,sliced,addr_add',den]
theorem slr_l(hT:TOk P T){t:Nat}{i:Ty}(ht:T t=some i){e es:Nat}(hd:i.d= .sl e es)(l o m c:Nat){k:IntKind}{j:Nat}(hj:j<=m)(hc:j<c):SlR P t (.slice l o m c) (some (k,Int.ofNat j)) none (.slice l (o+j*es) (m-j) (c-j)):=by
 obtain⟨hu,hs⟩:=sl_of hT ht hd
 have he:P.elem t=e:=by simp[Program.elem,hu]
 refine⟨fun β W=> ?_,fun p h=>h⟩
 show(Instr.sliceAt t (.slice (some ⟨β l,o,none⟩) m c) (some (.int k (Int.ofNat j))) none none).run P W=_
 rw[run_sliceAt_slice W t _ _ _ _ (by rw[he];exact hu),run_slice_l W t _ m c (by rw[he];exact hu) k (Int.ofNat j) (by simp) (by simpa using hj),he,rsz hs]
 simp only[Result.andThen,sliced,den]
 rw[if_neg (by simp;omega)]
 simp[addr_add']
end
end Go.Vg
namespace Go.Vg
open Go.RowKit
section
variable {A:Ar}{k:IntKind}
theorem addW(hA:A=Ar.real)(hk:k.signed=false)(a b:Nat):A.bin .add k (Int.ofNat a) (Int.ofNat b)=Int.ofNat ((a+b)%2^k.bits):=by
 subst hA
 exact wrap_nat k hk (a+b)
theorem mulW(hA:A=Ar.real)(hk:k.signed=false)(a b:Nat):A.bin .mul k (Int.ofNat a) (Int.ofNat b)=Int.ofNat (a*b%2^k.bits):=by
 subst hA
 exact wrap_nat k hk (a*b)
theorem subW(hA:A=Ar.real)(hk:k.signed=false){a b:Nat}(hb:b<=2^k.bits):A.bin .sub k (Int.ofNat a) (Int.ofNat b)=Int.ofNat ((a+2^k.bits-b)%2^k.bits):=by
 subst hA
 show k.wrap ((a:Int)-(b:Int))=_
 cases k<;>simp[IntKind.signed]at hk<;>simp[IntKind.wrap,IntKind.signed,IntKind.bits]at hb⊢ <;>omega
theorem quoW(hA:A=Ar.real)(hk:k.signed=false){a:Nat}(ha:a<2^k.bits)(b:Nat):A.bin .quo k (Int.ofNat a) (Int.ofNat b)=Int.ofNat (a/b):=by
 subst hA
 show k.wrap ((a:Int).tdiv (b:Int))=_
 rw[show(a:Int).tdiv (b:Int)=((a/b:Nat):Int)from(Int.ofNat_tdiv a b).symm,wrap_nat k hk,Nat.mod_eq_of_lt (Nat.lt_of_le_of_lt (Nat.div_le_self a b) ha)]
 rfl
theorem remW(hA:A=Ar.real)(a b:Nat):A.bin .rem k (Int.ofNat a) (Int.ofNat b)=Int.ofNat (a%b):=by
 subst hA
 exact(Int.ofNat_tmod a b).symm
theorem orW(hA:A=Ar.real)(hk:k.signed=false){a b:Nat}(ha:a<2^k.bits)(hb:b<2^k.bits):A.bin .or k (Int.ofNat a) (Int.ofNat b)=Int.ofNat (a|||b):=by
 subst hA
 exact(ubits k hk a b ha hb).2.1
theorem andW(hA:A=Ar.real)(hk:k.signed=false){a b:Nat}(ha:a<2^k.bits)(hb:b<2^k.bits):A.bin .and k (Int.ofNat a) (Int.ofNat b)=Int.ofNat (a&&&b):=by
 subst hA
 exact(ubits k hk a b ha hb).1
theorem xorW(hA:A=Ar.real)(hk:k.signed=false){a b:Nat}(ha:a<2^k.bits)(hb:b<2^k.bits):A.bin .xor k (Int.ofNat a) (Int.ofNat b)=Int.ofNat (a^^^b):=by
 subst hA
 exact(ubits k hk a b ha hb).2.2
theorem shlW(hA:A=Ar.real)(hk:k.signed=false)(a:Nat){s:Nat}(hs:s<=k.bits):A.sh .shl k (Int.ofNat a) (Int.ofNat s)=Int.ofNat (a*2^s%2^k.bits):=by
 subst hA
 show k.wrap ((a:Int)*2^(min (Int.ofNat s).toNat k.bits))=_
 rw[show(Int.ofNat s).toNat=s from rfl,Nat.min_eq_left hs]
 have h:(a:Int)*(2:Int)^s=((a*2^s:Nat):Int):=by simp
 rw[h,wrap_nat k hk]
 rfl
end
section
variable {A:Ar}
theorem lss_t(hA:A=Ar.real){a b:Nat}(h:a<b):A.cmp .lss (Int.ofNat a) (Int.ofNat b)=true:=(lssI hA a b).trans (decide_eq_true h)
theorem lss_f(hA:A=Ar.real){a b:Nat}(h:¬a<b):A.cmp .lss (Int.ofNat a) (Int.ofNat b)=false:=(lssI hA a b).trans (decide_eq_false h)
theorem gtr_t(hA:A=Ar.real){a b:Nat}(h:b<a):A.cmp .gtr (Int.ofNat a) (Int.ofNat b)=true:=(gtrI hA a b).trans (decide_eq_true h)
theorem gtr_f(hA:A=Ar.real){a b:Nat}(h:¬b<a):A.cmp .gtr (Int.ofNat a) (Int.ofNat b)=false:=(gtrI hA a b).trans (decide_eq_false h)
theorem geq_t(hA:A=Ar.real){a b:Nat}(h:b<=a):A.cmp .geq (Int.ofNat a) (Int.ofNat b)=true:=(geqI hA a b).trans (decide_eq_true h)
theorem geq_f(hA:A=Ar.real){a b:Nat}(h:¬b<=a):A.cmp .geq (Int.ofNat a) (Int.ofNat b)=false:=(geqI hA a b).trans (decide_eq_false h)
theorem leq_t(hA:A=Ar.real){a b:Nat}(h:a<=b):A.cmp .leq (Int.ofNat a) (Int.ofNat b)=true:=(leqI hA a b).trans (decide_eq_true h)
theorem leq_f(hA:A=Ar.real){a b:Nat}(h:¬a<=b):A.cmp .leq (Int.ofNat a) (Int.ofNat b)=false:=(leqI hA a b).trans (decide_eq_false h)
theorem eql_t(hA:A=Ar.real){a b:Nat}(h:a=b):A.cmp .eql (Int.ofNat a) (Int.ofNat b)=true:=(eqlI hA a b).trans (decide_eq_true h)
theorem eql_f(hA:A=Ar.real){a b:Nat}(h:¬a=b):A.cmp .eql (Int.ofNat a) (Int.ofNat b)=false:=(eqlI hA a b).trans (decide_eq_false h)
theorem neq_t(hA:A=Ar.real){a b:Nat}(h:a≠b):A.cmp .neq (Int.ofNat a) (Int.ofNat b)=true:=(neqI hA a b).trans (decide_eq_true h)
theorem neq_f(hA:A=Ar.real){a b:Nat}(h:a=b):A.cmp .neq (Int.ofNat a) (Int.ofNat b)=false:=(neqI hA a b).trans (decide_eq_false (fun h2=>h2 h))
theorem nz_t(hA:A=Ar.real){a:Nat}(h:a≠0):A.nz (Int.ofNat a)=true:=nz_of hA (fun e=>h (Int.ofNat.inj e))
theorem nn_t(hA:A=Ar.real)(a:Nat):A.nn (Int.ofNat a)=true:=by
 have h:A.nn=fun i=>decide (0<=i):=congrArg Ar.nn hA
 rw[h];exact decide_eq_true (Int.natCast_nonneg a)
end
theorem or_add{a b s:Nat}(h:b<2^s):a*2^s|||b=a*2^s+b:=by
 rw[Nat.mul_comm,<-Nat.two_pow_add_eq_or_of_lt h]
end Go.Vg
namespace Go.Vg
open Go.RowKit Go.Lib
section
variable {P:Program}{g:G}{T:Nat->Option Ty}{F:FF}{L:LL}{n:Nat}
theorem run_append_op2{a:Act}{W:World}{o:Oper}{s x:Operand}{t u:TypeId}(ho:o.op= .call {callee:= .builtin .append,args:= #[s,x],argTypes:= #[t,u]}){v:Value}{W':World}(h:(Builtin.append_ #[t,u] o.type #[a.eval s,a.eval x]).run P W= .ok v W'):(execOp a.eval o).run P W= .ok (.value v) W':=by
 unfold execOp
 simp only[ho,resolve,invoke,builtin,Sem.run_bind,Sem.run_pure,Result.andThen_ok,List.map_toArray,List.map_cons,List.map_nil,h]
theorem run_append_room_str{W:World}{t u ty e:TypeId}{i:TypeInfo}(ht:P.underlying t=some (.slice e))(hu:P.underlying u=some .string)(hi:P.info? e=some i)(hs1:i.size=1){gb sLen sCap:Nat}{cur:Array Value}{t':TypeId}{mk:Nat×Nat}(hg:W.heap[gb]? =some (.cells cur t' mk))(hmk:okM mk cur.size)
 (s:ByteArray) (hroom:sLen+s.size<=sCap) (hfit:sLen+s.size<=cur.size):
 (Builtin.append_ #[t,u] ty #[.slice (some ⟨gb,0,none⟩) sLen sCap,.string s]).run P W=
  .ok (.slice (some ⟨gb,0,none⟩) (sLen+s.size) sCap) (W.setRow gb (cur.toList.take sLen++strCells s++cur.toList.drop (sLen+s.size)).toArray):=by
 have hf:=run_firstCells_string (P:=P) W 1 s
 have hst:=rsk (P:=P) gb sLen t' mk (strCells s) 0 cur W hg hmk (by simpa [strCells_length]using hfit) (strCells_oneCell s)
 simp only[Nat.add_zero,strCells_length]at hst
 simp[Builtin.append_,run_underlying ht,run_underlying hu,sizeOf,typeInfo,hi,hs1,Builtin.lenOf,hroom,hf,Addr.add_lit,hst]
theorem bts_len(s:ByteArray):(bts s).length=s.size:=by rw[bts,List.length_map,Array.length_toList];rfl
theorem bts_bdLB(m:Nat)(s:ByteArray):bdLB m (bts s)=true:=by
 unfold bts
 induction s.data.toList with
 |nil=>rfl
 |cons b l ih=>rw[List.map_cons,bdLB,ih];rfl
theorem bts_str(β:Nat->Nat)(s:ByteArray):denL β (bts s)=strCells s:=bts_den β s
theorem step_str_nil(hT:TOk P T){o:Oper}{m0 N:Nat}{ms:List Nat}(hg:GI g m0 ms N)(hd':dstLt N o.dst=true){s x:Operand}{t u:Nat}(ho:o.op= .call {callee:= .builtin .append,args:= #[s,x],argTypes:= #[t,u]})
 {i:Ty} (ht:T t=some i) {e:Nat} (hd:i.d= .sl e 1) {j:Ty} (hj:T e=some j) (hB:(P.info? e).map (·.bytes)=some 1) {iu:Ty} (hu':T u=some iu) (hud:iu.d= .s)
 (hs:ev (look F) s=some .nils) {d:ByteArray} (hx:ev (look F) x=some (.str d)) (hm0:0<d.size) (h63:d.size<=140737488355328) {K:FF->LL->Nat->Prop}
 (hgrow:∀c',d.size<=c'->c'<=maxLen->K (putO F o.dst (.slice n 0 d.size c')) (L++[⟨n,bts d++rep (c'-d.size) j.z,e⟩]) (n+1)):Step g P o K F L n:=by
 obtain⟨info,z,hu,hi,hz,hsz,hby,hes,hzc,hzb,hzn⟩:=sl_facts hT ht hd hj hB
 have hus:=str_of hT hu' hud
 refine step_new hg hd' fun β a W hm hf=> ?_
 obtain⟨e1,b1⟩:=evd hf hs
 obtain⟨e2,b2⟩:=evd hf hx
 obtain⟨X,hX,hrun⟩:=cells_out (run_append_nil_string (P:=P) W t u o.type e info z hu hus hi hz d hm0 (by omega) (by rw[hby];omega))
 have hge:=grownCap_ge W d.size 0 e
 refine⟨.slice n 0 d.size (grownCap W d.size 0 e),W.drew.alloc (.cells X e),W.heap.size,_,e,(0,0),fun γ hγ=>run_append_op2 ho ?_,upd_drew W _,Nat.le_refl _,Or.inl (Nat.le_refl 0),?_,?_,Nat.lt_succ_self n,hgrow _ hge (grownCap_le_maxLen W d.size 0 e (by simp only[maxLen];omega))⟩
 ·rw[e1,e2]
  simp only[den,hγ]
  exact hrun
 ·rw[show(W.drew.alloc (.cells X e)).heap[W.heap.size]? =some (.cells X e)from heap_alloc_new W.drew _,hX]
  congr 2
  apply Array.ext'
  have hzz:=zeroCells_den β (hzc β) (by intro h;rw[h]at hzn;simp at hzn) (grownCap W d.size 0 e-d.size)
  have hb:=bts_den β d
  simp only[dle]at hb hzz⊢
  simp[hzz,hb]
 ·rw[bdi]
  intro v hv
  rcases List.mem_append.1 hv with hv|hv
  ·exact(bdi _ _).1 (bts_bd _ d) v hv
  ·exact(bdi _ _).1 (rep_bd (hzb _) _) v hv
theorem step_str_own(hT:TOk P T){o:Oper}{m0 N:Nat}{ms:List Nat}(hg:GI g m0 ms N)(hd':dstLt N o.dst=true){s x:Operand}{t u:Nat}(ho:o.op= .call {callee:= .builtin .append,args:= #[s,x],argTypes:= #[t,u]})
 {i:Ty} (ht:T t=some i) {e:Nat} (hd:i.d= .sl e 1) {j:Ty} (hj:T e=some j) (hB:(P.info? e).map (·.bytes)=some 1) {iu:Ty} (hu':T u=some iu) (hud:iu.d= .s)
 {l n1 c:Nat} (hs:ev (look F) s=some (.slice l 0 n1 c)) {cs:List SV} (hl:find L l=some ⟨l,cs,e⟩) (hown:own m0 ms l=true) (hn1:n1<=c) (hcs:cs.length=c) (hc:c<=maxLen)
 {d:ByteArray} (hx:ev (look F) x=some (.str d)) (hbytes:n1+d.size<=140737488355328) {K:FF->LL->Nat->Prop}
 (hK:∀c' tail,n1+d.size<=c'->c'<=maxLen->tail.length=c'-(n1+d.size)->(∀q,bdLB q cs=true->bdLB q j.z=true->bdLB q tail=true)->K (putO F o.dst (.slice n 0 (n1+d.size) c')) (remL [l] L++[⟨n,cs.take n1++bts d++tail,e⟩]) (n+1)):Step g P o K F L n:=by
 obtain⟨info,z,hu,hi,hz,hsz,hby,hes,hzc,hzb,hzn⟩:=sl_facts hT ht hd hj hB
 have hus:=str_of hT hu' hud
 have hnl:=bts_len d
 by_cases hr:n1+d.size<=c
 ·have hsp:splice cs n1 (bts d)=cs.take n1++bts d++cs.drop (n1+d.size):=by rw[splice,hnl]
  rw[<-hg.n0,<-hg.ms]at hown
  have hKr:=hK c (cs.drop (n1+d.size)) hr hc (by rw[List.length_drop,hcs]) (fun q h _=>bdLB_drop h)
  rw[<-hsp]at hKr
  refine step_gen hg hd' fun β a W hm hf=> ?_
  obtain⟨e1,b1⟩:=evd hf hs
  obtain⟨e2,b2⟩:=evd hf hx
  obtain⟨mk,hmk,hcell⟩:=hm.cell l _ hl
  have hst:=hm.store (o:=n1) hl (vs:=bts d) (by show n1+_<=cs.length;omega) hown (bts_bd _ d)
  rw[show upL (find L) l ⟨l,splice cs n1 (bts d),e⟩=find (updL L l (splice cs n1 (bts d)))from by
   funext q
   rw[find_updL]
   simp only[upL,hl]
   rfl]at hst
  obtain⟨γ,hag,hγ,hm2⟩:=hst.relabel (l:=l) (b:=⟨l,splice cs n1 (bts d),e⟩) (by rw[find_updL,if_pos rfl,hl];rfl) hown
  have hrun:(execOp a.eval o).run P W= .ok (.value (.slice (some ⟨β l,0,none⟩) (n1+d.size) c)) (W.setRow (β l) (denL β (splice cs n1 (bts d))).toArray):=by
   refine run_append_op2 ho ?_
   rw[e1,e2]
   have:=run_append_room_str (P:=P) (ty:=o.type) (sLen:=n1) (sCap:=c) hu hus hi hsz hcell (by simpa [dle]using hmk hown) d hr (by
    simp only[List.size_toArray,dle,List.length_map]
    omega)
   simp only[den]
   rw[this,splice_den]
   have hb:=bts_str β d
   simp only[dle]at hb⊢
   simp[hb,hnl]
  refine⟨.slice n 0 (n1+d.size) c,_,remL [l] L++[⟨n,splice cs n1 (bts d),e⟩],n+1,γ,hrun.trans (by simp only[den,hγ]),hm2.less fun q b hq=> ?_,hag,Nat.le_succ n,Nat.lt_succ_self n,hKr⟩
  ·rw[fap,find_remL]at hq⊢
   rw[find_updL]
   by_cases hql:q=l
   ·rw[show memN [l] q=true by simp[memN,hql]]at hq⊢
    exact hq
   ·rw[show memN [l] q=false by simp[memN,Ne.symm hql]]at hq⊢
    rw[if_neg hql]
    exact hq
 ·refine step_gen hg hd' fun β a W hm hf=> ?_
  obtain⟨e1,b1⟩:=evd hf hs
  obtain⟨e2,b2⟩:=evd hf hx
  have hold:=cells_from hm hl 0 n1
  have hol:(denL β (((⟨l,cs,e⟩:Blk).cs.drop 0).take n1)).length=n1*info.size:=by
   rw[dle,List.length_map,List.length_take,List.length_drop,hsz];show min _ (cs.length-0)=_;omega
  obtain⟨X,hX,hrun⟩:=cells_out (run_append_grow_string (P:=P) W t u o.type e info z hu hus hi hz ⟨β l,0,none⟩ n1 c _ hol hold d (by omega) (by omega) (growslice_fits (by omega) (by rw[hby];omega)))
  have hge:=grownCap_ge W (n1+d.size) c e
  have hcells:(W.drew.alloc (.cells X e)).heap[W.heap.size]? =some (.cells (denL β (cs.take n1++bts d++rep (grownCap W (n1+d.size) c e-(n1+d.size)) j.z)).toArray e (0,0)):=by
   rw[show(W.drew.alloc (.cells X e)).heap[W.heap.size]? =some (.cells X e)from heap_alloc_new W.drew _,hX]
   congr 2
   apply Array.ext'
   have hzz:=zeroCells_den β (hzc β) (by intro h;rw[h]at hzn;simp at hzn) (grownCap W (n1+d.size) c e-(n1+d.size))
   have hb:=bts_str β d
   simp only[dle]at hb hzz⊢
   simp[hzz,hb]
  obtain⟨γ,h1,h2,h3⟩:=hm.fresh (k:=n) (fun h=>Nat.lt_irrefl n h) (cs:=cs.take n1++bts d++rep (grownCap W (n1+d.size) c e-(n1+d.size)) j.z) (by
   rw[bdi]
   intro v hv
   rcases List.mem_append.1 hv with hv|hv
   ·rcases List.mem_append.1 hv with hv|hv
    ·exact(bdi _ _).1 (hm.bL l _ hl).2 v (List.mem_of_mem_take hv)
    ·exact(bdi _ _).1 (bts_bd _ d) v hv
   ·exact(bdi _ _).1 (rep_bd (hzb _) _) v hv) e (upd_drew W _) (Nat.le_refl _) (m:=(0,0)) (Or.inl (Nat.le_refl 0)) hcells
  have hrl:(rep (grownCap W (n1+d.size) c e-(n1+d.size)) j.z).length=grownCap W (n1+d.size) c e-(n1+d.size):=by
   rw[rep_length,hzn,Nat.mul_one]
  refine⟨.slice n 0 (n1+d.size) (grownCap W (n1+d.size) c e),W.drew.alloc (.cells X e),_,n+1,γ,run_append_op2 ho ?_,?_,h1,Nat.le_succ n,Nat.lt_succ_self n,hK _ _ hge (grownCap_le_maxLen W (n1+d.size) c e (by simp only[maxLen];omega)) hrl (fun q _ h=>rep_bdLB h _)⟩
  ·rw[e1,e2]
   simp only[den,h2]
   exact hrun
  ·rw[<-succ_p]
   refine h3.less fun q b hq=> ?_
   rw[fap,find_remL]at hq
   simp only[upL]
   by_cases hqn:q=n
   ·rw[if_pos hqn]
    have hno:find L q=none:=by
     cases hq2:find L q with
     |none=>rfl
     |some d=>have:=(hm.bL q d hq2).1;omega
    rw[hno,ite_self]at hq
    simpa [find,hqn]using hq
   ·rw[if_neg hqn]
    split at hq
    ·rename_i d hd2
     split at hd2
     ·cases hd2
     ·rw[hd2];exact hq
    ·simp only[find]at hq
     rw[if_neg (fun e=>hqn e.symm)]at hq
     cases hq
theorem step_app_none(hT:TOk P T){o:Oper}{m0 N:Nat}{ms:List Nat}(hg:GI g m0 ms N)(hd':dstLt N o.dst=true){s x:Operand}{t u:Nat}(ho:o.op= .call {callee:= .builtin .append,args:= #[s,x],argTypes:= #[t,u]})
 {i:Ty} (ht:T t=some i) {e es:Nat} (hd:i.d= .sl e es) {iu:Ty} (hu':T u=some iu) (hud:(∃e' es',iu.d= .sl e' es')\/iu.d= .s)
 (hs:ev (look F) s=some .nils) {xv:SV} (hx:ev (look F) x=some xv) (hxv:xv= .nils\/(∃k o c,xv= .slice k o 0 c)\/ ∃d:ByteArray,xv= .str d/\d.size=0) {K:FF->LL->Nat->Prop} (hK:K (putO F o.dst .nils) L n):Step g P o K F L n:=by
 obtain⟨hu,hsz⟩:=sl_of hT ht hd
 refine step_val hg hd' (v:= .nils) (fun β a W hm hf=> ?_) hK
 obtain⟨e1,b1⟩:=evd hf hs
 obtain⟨e2,b2⟩:=evd hf hx
 refine⟨run_append_op2 ho ?_,trivial⟩
 rw[e1,e2]
 have hsr:=rsz (w:=W) hsz
 rcases hud with⟨e',es',h⟩|h
 ·have hd1:=(sl_of hT hu' h).1
  rcases hxv with rfl|⟨k,q,c,rfl⟩|⟨w,rfl,hw⟩<;>simp[Builtin.append_,run_underlying hu,run_underlying hd1,hsr,Builtin.lenOf,Builtin.firstCells,loadCells,loadCellsFrom,den, *]
 ·have hd1:=str_of hT hu' h
  rcases hxv with rfl|⟨k,q,c,rfl⟩|⟨w,rfl,hw⟩<;>simp[Builtin.append_,run_underlying hu,run_underlying hd1,hsr,Builtin.lenOf,Builtin.firstCells,loadCells,loadCellsFrom,den, *]
theorem step_app_same(hT:TOk P T){o:Oper}{m0 N:Nat}{ms:List Nat}(hg:GI g m0 ms N)(hd':dstLt N o.dst=true){s x:Operand}{t u:Nat}(ho:o.op= .call {callee:= .builtin .append,args:= #[s,x],argTypes:= #[t,u]})
 {i:Ty} (ht:T t=some i) {e es:Nat} (hd:i.d= .sl e es) {iu:Ty} (hu':T u=some iu) (hud:(∃e' es',iu.d= .sl e' es')\/iu.d= .s)
 {l n1 c:Nat} (hs:ev (look F) s=some (.slice l 0 n1 c)) {cs:List SV} (hl:find L l=some ⟨l,cs,e⟩) (hown:own m0 ms l=true) (hn1:n1<=c) (_:cs.length=c*es)
 (hx:ev (look F) x=some .nils) {K:FF->LL->Nat->Prop} (hK:K (putO F o.dst (.slice n 0 n1 c)) (remL [l] L++[⟨n,cs,e⟩]) (n+1)):Step g P o K F L n:=by
 obtain⟨hu,hsz⟩:=sl_of hT ht hd
 rw[<-hg.n0,<-hg.ms]at hown
 refine step_gen hg hd' fun β a W hm hf=> ?_
 obtain⟨e1,b1⟩:=evd hf hs
 obtain⟨e2,b2⟩:=evd hf hx
 obtain⟨γ,hag,hγ,hm2⟩:=hm.relabel hl hown
 have hsr:=rsz (w:=W) hsz
 have hrun:(execOp a.eval o).run P W= .ok (.value (.slice (some ⟨β l,0,none⟩) n1 c)) W:=by
  refine run_append_op2 ho ?_
  rw[e1,e2]
  rcases hud with⟨e',es',h⟩|h
  ·have hd1:=(sl_of hT hu' h).1
   simp[Builtin.append_,run_underlying hu,run_underlying hd1,hsr,Builtin.lenOf,Builtin.firstCells,storeCells,den,hn1]
  ·have hd1:=str_of hT hu' h
   simp[Builtin.append_,run_underlying hu,run_underlying hd1,hsr,Builtin.lenOf,Builtin.firstCells,storeCells,den,hn1]
 exact⟨.slice n 0 n1 c,_,_,n+1,γ,hrun.trans (by simp only[den,hγ]),hm2,hag,Nat.le_succ n,Nat.lt_succ_self n,hK⟩
end
def by8(l:List Nat):List SV:=l.map fun x=> .int .u8 (.ofNat x)
def bl(s:ByteArray):List Nat:=s.data.toList.map UInt8.toNat
def mkB(l:List Nat):ByteArray:=⟨(l.map UInt8.ofNat).toArray⟩
theorem by8_len(l:List Nat):(by8 l).length=l.length:=List.length_map ..
theorem by8_app(a b:List Nat):by8 (a++b)=by8 a++by8 b:=List.map_append
theorem by8_bd(m:Nat):∀l,bdLB m (by8 l)=true
 | []=>rfl
 |x::l=>by show bdLB m (_::by8 l)=true;rw[bdLB,by8_bd m l];rfl
theorem by8_ones:∀l,ones (by8 l)=true
 | []=>rfl
 |x::l=>by8_ones l
theorem by8_take(l:List Nat)(k:Nat):by8 (l.take k)=(by8 l).take k:=List.map_take
theorem by8_drop(l:List Nat)(k:Nat):by8 (l.drop k)=(by8 l).drop k:=List.map_drop
theorem bts_by8(s:ByteArray):bts s=by8 (bl s):=by
 unfold bts by8 bl
 rw[List.map_map];rfl
theorem bll(s:ByteArray):(bl s).length=s.size:=by unfold bl;rw[List.length_map,Array.length_toList];rfl
theorem bl_app(s t:ByteArray):bl (s++t)=bl s++bl t:=by
 unfold bl
 rw[show(s++t).data=s.data++t.data from ByteArray.data_append ..,Array.toList_append,List.map_append]
theorem bmk{l:List Nat}(h:∀x∈l,x<256):bl (mkB l)=l:=by
 unfold bl mkB
 rw[List.toList_toArray,List.map_map]
 conv=>rhs;rw[<-List.map_id l]
 exact List.map_congr_left fun x hx=>by simp[UInt8.toNat_ofNat,Nat.mod_eq_of_lt (h x hx)]
theorem bl_lt(s:ByteArray):∀x∈bl s,x<256:=fun x hx=>by
 unfold bl at hx
 obtain⟨b,_,rfl⟩:=List.mem_map.1 hx
 exact b.toNat_lt
theorem bl_inj{s t:ByteArray}(h:bl s=bl t):s=t:=by
 cases s;cases t
 congr 1
 apply Array.ext'
 unfold bl at h
 simp only at h
 exact(List.map_inj_right fun a b e=>UInt8.toNat_inj.1 e).1 h
def BRow(t:TypeId)(lb:Nat)(l:List Nat)(v:SV)(B:LL):Prop:=
 (v= .nils/\B=[]/\l=[])\/ ∃c X,v= .slice lb 0 l.length c/\B=[⟨lb,X,t⟩]/\X.take l.length=by8 l/\X.length=c/\l.length<=c/\c<=maxLen/\∀m,bdLB m X=true
def BSrc(L:LL)(xv:SV)(d:List Nat):Prop:=(xv= .nils/\d=[])\/ ∃k o m c b,m=d.length/\xv= .slice k o m c/\find L k=some b/\(b.cs.drop o).take d.length=by8 d
structure RowX(l:List Nat)(c:Nat)(X:List SV):Prop where
 dat:X.take l.length=by8 l
 len:X.length=c
 le:l.length<=c
 max:c<=maxLen
 b:∀m,bdLB m X=true
theorem RowX.row{l:List Nat}{c k:Nat}{X:List SV}(h:RowX l c X)(hk:k=l.length)(t:TypeId)(lb:Nat):BRow t lb l (.slice lb 0 k c) [⟨lb,X,t⟩]:=hk▸Or.inr ⟨c,X,rfl,rfl,h.dat,h.len,h.le,h.max,h.b⟩
theorem BRow.get{t:TypeId}{lb:Nat}{l:List Nat}{v:SV}{B:LL}(h:BRow t lb l v B):(v= .nils/\B=[]/\l=[])\/ ∃k c X,k=l.length/\v= .slice lb 0 k c/\B=[⟨lb,X,t⟩]/\RowX l c X:=by
 rcases h with h|⟨c,X,h1,h2,h3,h4,h5,h6,h7⟩
 ·exact Or.inl h
 ·exact Or.inr ⟨_,c,X,rfl,h1,h2,h3,h4,h5,h6,h7⟩
theorem BRow.some{t:TypeId}{lb:Nat}{l:List Nat}{v:SV}{B:LL}(h:BRow t lb l v B)(hl:l≠ []):∃k c X,k=l.length/\v= .slice lb 0 k c/\B=[⟨lb,X,t⟩]/\RowX l c X:=by
 rcases h.get with⟨_,_,h⟩|h
 ·exact(hl h).elim
 ·exact h
theorem BRow.nil(t:TypeId)(lb:Nat):BRow t lb [] .nils []:=Or.inl ⟨rfl,rfl,rfl⟩
theorem find_mid{A B C:LL}(h:∀x∈B,∀y∈C,x.l≠y.l):find (A++(B++C))=find (A++C++B):=by
 funext l
 rw[fap,fap,fap,fap]
 cases find A l with
 |some b=>rfl
 |none=>
  cases hb:find B l with
  |none=>cases hc:find C l<;>rfl
  |some b=>
   cases hc:find C l with
   |none=>rfl
   |some c=>
    obtain⟨h1,h2⟩:=fdm hb
    obtain⟨h3,h4⟩:=fdm hc
    exact(h b h1 c h3 (h2.trans h4.symm)).elim
theorem BRow.mid{t:TypeId}{lb:Nat}{l:List Nat}{v:SV}{A B C:LL}(h:BRow t lb l v B)(hC:(C.all fun b=> !Nat.beq b.l lb)=true):find (A++(B++C))=find (A++C++B):=by
 refine find_mid fun x hx y hy e=> ?_
 have:=List.all_eq_true.1 hC y hy
 rcases h with⟨_,rfl,_⟩|⟨_,_,_,rfl,_⟩
 ·cases hx
 ·obtain rfl:=List.mem_singleton.1 hx
  rw[<-e,Nat.beq_refl]at this;cases this
theorem BRow.src{t:TypeId}{lb:Nat}{l:List Nat}{v:SV}{B L0:LL}(h:BRow t lb l v B)(h0:(L0.all fun b=> !Nat.beq b.l lb)=true):BSrc (L0++B) v l:=by
 rcases h with⟨rfl,rfl,rfl⟩|⟨c,X,rfl,rfl,h1,h2,h3,h4,h5⟩
 ·exact Or.inl ⟨rfl,rfl⟩
 ·refine Or.inr ⟨lb,0,_,c,⟨lb,X,t⟩,rfl,rfl,?_,h1⟩
  rw[fap]
  have:find L0 lb=none:=by
   cases hf:find L0 lb with
   |none=>rfl
   |some b=>
    obtain⟨q1,q2⟩:=fdm hf
    have:=List.all_eq_true.1 h0 b q1
    rw[q2,Nat.beq_refl]at this;cases this
  rw[this]
  simp[find]
theorem remL_app{L0:LL}{lb:Nat}(h0:(L0.all fun b=> !Nat.beq b.l lb)=true){X:List SV}{t:TypeId}:remL [lb] (L0++[⟨lb,X,t⟩])=L0:=by
 induction L0 with
 |nil=>simp[remL,memN]
 |cons b L ih=>
  have h0':=h0
  simp only[List.all_cons,Bool.and_eq_true]at h0
  have hb:memN [lb] b.l=false:=by
   simp only[memN]
   have h1:=h0.1
   have hne:lb≠b.l:=fun e=>by rw[e,Nat.beq_refl]at h1;cases h1
   simp[hne]
  simp only[List.cons_append,remL,hb,ih h0.2]
section
variable {P:Program}{g:G}{T:Nat->Option Ty}{F:FF}{L:LL}{n:Nat}
theorem Step.up{o:Oper}{K:FF->LL->Nat->Prop}(h:Step g P o (fun F' L' n'=>K F' L' (n'+1)) F L n):Step g P o K F L n:=by
 refine⟨fun a W hst next Q hn=>h.run a W hst next Q fun F' L' n' a' W' hk ⟨β,hm,hf⟩=>hn F' L' (n'+1) a' W' hk ⟨β,?_,?_⟩⟩
 ·exact⟨fun l hl=>Nat.lt_succ_of_lt (hm.low l hl),hm.old,hm.new,hm.inj,hm.cell,fun l b hb=>⟨Nat.lt_succ_of_lt (hm.bL l b hb).1,bdm (fun _ h=>Nat.lt_succ_of_lt h) _ (hm.bL l b hb).2⟩,hm.up⟩
 ·exact hf.mono (fun _ _=>rfl) fun l hl=>Nat.lt_succ_of_lt hl
theorem Step.perm{o:Oper}{K:FF->LL->Nat->Prop}{L2:LL}(h:find L=find L2)(hs:Step g P o K F L2 n):Step g P o K F L n:=
 ⟨fun a W hst next Q hn=>hs.run a W (by obtain⟨β,hm,hf⟩:=hst;exact⟨β,by rw[<-h];exact hm,hf⟩) next Q hn⟩
theorem sbp(hT:TOk P T){o:Oper}{m0 N:Nat}{ms:List Nat}(hg:GI g m0 ms N)(hd':dstLt N o.dst=true){s x:Operand}{t:Nat}(ho:o.op= .call {callee:= .builtin .append,args:= #[s,x],argTypes:= #[t,t]})
 {i:Ty} (ht:T t=some i) {e:Nat} (hd:i.d= .sl e 1) {j:Ty} (hj:T e=some j) (hB:(P.info? e).map (·.bytes)=some 1) (hjz:j.z=[.int .u8 0])
 {L0 B1:LL} {lb:Nat} (hL:find L=find (L0++B1)) (h0:(L0.all fun b=> !Nat.beq b.l lb)=true) (hown:own m0 ms lb=true) {l d:List Nat} {v1 xv:SV} (hR:BRow e lb l v1 B1) (hs:ev (look F) s=some v1) (hx:ev (look F) x=some xv) (hX:BSrc (L0++B1) xv d)
 (hsz:l.length+d.length<=140737488355328) {K:FF->LL->Nat->Prop} (hK:∀v B,BRow e n (l++d) v B->K (putO F o.dst v) (L0++B) (n+1)):Step g P o K F L n:=by
 refine Step.perm hL ?_
 generalize hLL:L0++B1=L2 at hL hX⊢
 replace hL:=hLL.symm
 rcases hR with⟨rfl,rfl,rfl⟩|⟨c,X,rfl,rfl,h1,h2,h3,h4,h5⟩
 ·rw[List.append_nil]at hL
  subst hL
  rcases Nat.eq_zero_or_pos d.length with hd0|hd0
  ·have hd0':d=[]:=List.eq_nil_of_length_eq_zero hd0
   refine Step.up (step_app_none hT hg hd' ho ht hd ht (Or.inl ⟨_,_,hd⟩) hs hx ?_ ?_)
   ·rcases hX with⟨rfl,_⟩|⟨k,q,_,c,b,rfl,rfl,_,_⟩
    ·exact Or.inl rfl
    ·exact Or.inr (Or.inl ⟨k,q,c,by rw[hd0]⟩)
   ·have:=hK .nils [] (Or.inl ⟨rfl,rfl,by rw[hd0'];rfl⟩)
    rwa [List.append_nil]at this
  ·rcases hX with⟨rfl,rfl⟩|⟨k,q,_,c,b,rfl,rfl,hk,hbk⟩
   ·cases hd0
   ·obtain⟨bl,bcs,bt⟩:=b
    obtain rfl:=(find_l hk:bl=k)
    have hbl:q+d.length<=bcs.length:=by
     have:=congrArg List.length hbk
     rw[List.length_take,List.length_drop,by8_len]at this
     have h7:bcs.length-q≥d.length:=by show(Blk.cs ⟨bl,bcs,bt⟩).length-q≥_;omega
     omega
    refine step_app_nil hT hg hd' ho ht hd hj hB (by decide) hs hx hk (by rw[Nat.mul_one];exact hbl) hd0 (by simp only[maxLen];simp at hsz;omega) (by simp at hsz;omega) fun c' X hX h1 h2 h3 h4=> ?_
    rw[Nat.mul_one]at hX h3
    refine hK _ _ (Or.inr ⟨c',X,rfl,rfl,?_,h3,h1,h2,fun m=> ?_⟩)
    ·rw[hX,show(bcs.drop q).take d.length=by8 d from hbk]
     show(by8 d++_).take d.length=by8 d
     rw[List.take_left' (by8_len d)]
    ·rw[hX,show(bcs.drop q).take d.length=by8 d from hbk,hjz]
     exact bap (by8_bd m d) (rep_bdLB rfl _)
 ·have hsrc:(xv= .nils/\d=[])\/ ∃k q m c b,m=d.length/\xv= .slice k q m c/\find L2 k=some b/\(b.cs.drop q).take d.length=by8 d:=hX
  subst hL
  have hf:find (L0++[⟨lb,X,e⟩]) lb=some ⟨lb,X,e⟩:=by
   rcases BRow.src (t:=e) (lb:=lb) (l:=l) (v:= .slice lb 0 l.length c) (B:=[⟨lb,X,e⟩]) (Or.inr ⟨c,X,rfl,rfl,h1,h2,h3,h4,h5⟩) h0 with⟨h,_⟩|⟨k,q,_,c',b,_,h,hb,_⟩
   ·cases h
   ·cases h
    rw[fap]at hb⊢
    cases hz:find L0 lb with
    |none=>simp[find]
    |some b'=>
     obtain⟨q1,q2⟩:=fdm hz
     have:=List.all_eq_true.1 h0 b' q1
     rw[q2,Nat.beq_refl]at this;cases this
  have fin:∀c' tail Y M,Y=X.take l.length++by8 d++tail->M=l.length+d.length->M<=c'->c'<=maxLen->Y.length=c'->(∀m,bdLB m Y=true)->K (putO F o.dst (.slice n 0 M c')) (L0++[⟨n,Y,e⟩]) (n+1):=by
   intro c' tail Y M hY hM q1 q2 q3 q4
   refine hK _ _ (Or.inr ⟨c',Y,by rw[List.length_append,hM],rfl,?_,q3,by rw[List.length_append,<-hM];exact q1,q2,q4⟩)
   rw[hY,h1,<-by8_app]
   exact List.take_left' (by rw[by8_len])
  rcases hsrc with⟨rfl,rfl⟩|⟨k,q,_,c2,b,rfl,rfl,hk,hbk⟩
  ·have hfin:=fin c (X.drop l.length) X l.length (by rw[show by8 []=[]from rfl,List.append_nil,List.take_append_drop]) (by simp) h3 h4 h2 h5
   exact step_app_same hT hg hd' ho ht hd ht (Or.inl ⟨_,_,hd⟩) hs hf hown h3 (by rw[Nat.mul_one];exact h2) hx (by
    rw[remL_app h0];exact hfin)
  ·obtain⟨bl,bcs,bt⟩:=b
   obtain rfl:=(find_l hk:bl=k)
   have hbl:0<d.length->q+d.length*1<=bcs.length:=fun hd0=>by
    have:=congrArg List.length hbk
    rw[List.length_take,List.length_drop,by8_len]at this
    have h7:bcs.length-q≥d.length:=by show(Blk.cs ⟨bl,bcs,bt⟩).length-q≥_;omega
    omega
   have hbk':(bcs.drop q).take (d.length*1)=by8 d:=by rw[Nat.mul_one];exact hbk
   refine step_append_own0 hT hg hd' ho ht hd hj hB (by decide) hs hf hown h3 (by rw[Nat.mul_one];exact h2) h4 hx hk hbl (by rw[hbk'];exact by8_ones d) (by simp only[maxLen];omega) (by omega) fun c' tail r1 r2 r3 r4=> ?_
   rw[remL_app h0]
   rw[Nat.mul_one]at r3
   refine fin c' tail _ _ (by rw[hbk',Nat.mul_one]) rfl r1 r2 ?_ fun m=> ?_
   ·rw[hbk',Nat.mul_one,List.length_append,List.length_append,by8_len,r3,List.length_take,h2,Nat.min_eq_left h3];omega
   ·rw[hbk']
    exact bap (bap (bdLB_take (h5 m)) (by8_bd m d)) (r4 m (h5 m) (by rw[hjz];rfl))
theorem step_sapp(hT:TOk P T){o:Oper}{m0 N:Nat}{ms:List Nat}(hg:GI g m0 ms N)(hd':dstLt N o.dst=true){s x:Operand}{t u:Nat}(ho:o.op= .call {callee:= .builtin .append,args:= #[s,x],argTypes:= #[t,u]})
 {i:Ty} (ht:T t=some i) {e:Nat} (hd:i.d= .sl e 1) {j:Ty} (hj:T e=some j) (hB:(P.info? e).map (·.bytes)=some 1) (hjz:j.z=[.int .u8 0]) {iu:Ty} (hu':T u=some iu) (hud:iu.d= .s)
 {L0 B1:LL} {lb:Nat} (hL:find L=find (L0++B1)) (h0:(L0.all fun b=> !Nat.beq b.l lb)=true) (hown:own m0 ms lb=true) {l:List Nat} {v1:SV} {d:ByteArray} (hR:BRow e lb l v1 B1) (hs:ev (look F) s=some v1) (hx:ev (look F) x=some (.str d))
 (hsz:l.length+d.size<=140737488355328) {K:FF->LL->Nat->Prop} (hK:∀v B,BRow e n (l++bl d) v B->K (putO F o.dst v) (L0++B) (n+1)):Step g P o K F L n:=by
 refine Step.perm hL ?_
 generalize hLL:L0++B1=L2 at hL⊢
 replace hL:=hLL.symm
 rcases hR with⟨rfl,rfl,rfl⟩|⟨c,X,rfl,rfl,h1,h2,h3,h4,h5⟩
 ·rw[List.append_nil]at hL
  subst hL
  rcases Nat.eq_zero_or_pos d.size with hd0|hd0
  ·refine Step.up (step_app_none hT hg hd' ho ht hd hu' (Or.inr hud) hs hx (Or.inr (Or.inr ⟨d,rfl,hd0⟩)) ?_)
   have:=hK .nils [] (Or.inl ⟨rfl,rfl,by rw[List.nil_append];exact List.eq_nil_of_length_eq_zero (by rw[bll,hd0])⟩)
   rwa [List.append_nil]at this
  ·refine step_str_nil hT hg hd' ho ht hd hj hB hu' hud hs hx hd0 (by simp at hsz;omega) fun c' h1 h2=> ?_
   refine hK _ _ (Or.inr ⟨c',_,by rw[List.nil_append,bll],rfl,?_,?_,by rw[List.nil_append,bll];exact h1,h2,fun m=>bap (bts_bdLB m d) (rep_bdLB (by rw[hjz];rfl) _)⟩)
   ·rw[List.nil_append,bts_by8,List.take_left' (by8_len _)]
   ·rw[List.length_append,bts_len,rep_length,hjz,List.length_singleton,Nat.mul_one];omega
 ·subst hL
  have hf:find (L0++[⟨lb,X,e⟩]) lb=some ⟨lb,X,e⟩:=by
   rw[fap]
   cases hz:find L0 lb with
   |none=>simp[find]
   |some b'=>
    obtain⟨q1,q2⟩:=fdm hz
    have:=List.all_eq_true.1 h0 b' q1
    rw[q2,Nat.beq_refl]at this;cases this
  refine step_str_own hT hg hd' ho ht hd hj hB hu' hud hs hf hown h3 h2 h4 hx hsz fun c' tail r1 r2 r3 r4=> ?_
  rw[remL_app h0]
  refine hK _ _ (Or.inr ⟨c',_,by rw[List.length_append,bll],rfl,?_,?_,by rw[List.length_append,bll];exact r1,r2,fun m=>bap (bap (bdLB_take (h5 m)) (bts_bdLB m d)) (r4 m (h5 m) (by rw[hjz];rfl))⟩)
  ·rw[h1,bts_by8,<-by8_app]
   exact List.take_left' (by rw[by8_len])
  ·rw[List.length_append,List.length_append,bts_len,r3,List.length_take,h2,Nat.min_eq_left h3];omega
end
mutual
theorem bdB_le{m k:Nat}(h:m<=k):∀v,bdB m v=true->bdB k v=true
 | .bool _,_| .int _ _,_| .str _,_| .nilp,_| .nils,_| .nilfn,_| .raw _,_=>rfl
 | .ptr _ _,hv| .ptrS _ _,hv| .slice _ _ _ _,hv=>by
   simp only[bdB]at hv⊢
   exact Nat.ble_eq_true_of_le (Nat.le_trans (Nat.le_of_ble_eq_true hv) h)
 | .fn _ a b,hv=>by
   simp only[bdB,Bool.and_eq_true]at hv⊢
   exact⟨bdLB_le h a hv.1,bdLB_le h b hv.2⟩
 | .agg cs,hv=>by simp only[bdB]at hv⊢;exact bdLB_le h cs hv
 | .tup vs,hv=>by simp only[bdB]at hv⊢;exact bdLB_le h vs hv
theorem bdLB_le{m k:Nat}(h:m<=k):∀l,bdLB m l=true->bdLB k l=true
 | [],_=>rfl
 |v::vs,hl=>by
  simp only[bdLB,Bool.and_eq_true]at hl⊢
  exact⟨bdB_le h v hl.1,bdLB_le h vs hl.2⟩
end
mutual
theorem ren_fix{ρ:Nat->Nat}{m:Nat}(h:∀l,l<m->ρ l=l):∀v,bdB m v=true->ren ρ v=v
 | .bool _,_| .int _ _,_| .str _,_| .nilp,_| .nils,_| .nilfn,_| .raw _,_=>rfl
 | .ptr l _,hv| .ptrS l _,hv| .slice l _ _ _,hv=>by
   simp only[ren,h l (blq (by simpa only[bdB]using hv))]
 | .fn _ a b,hv=>by
   simp only[bdB,Bool.and_eq_true]at hv
   simp only[ren,renL_fix h a hv.1,renL_fix h b hv.2]
 | .agg cs,hv=>by simp only[bdB]at hv;simp only[ren,renL_fix h cs hv]
 | .tup vs,hv=>by simp only[bdB]at hv;simp only[ren,renL_fix h vs hv]
theorem renL_fix{ρ:Nat->Nat}{m:Nat}(h:∀l,l<m->ρ l=l):∀l,bdLB m l=true->renL ρ l=l
 | [],_=>rfl
 |v::vs,hl=>by
  simp only[bdLB,Bool.and_eq_true]at hl
  simp only[renL,ren_fix h v hl.1,renL_fix h vs hl.2]
end
section
variable {P:Program}{T:Nat->Option Ty}
theorem slr_lo(hT:TOk P T){t:Nat}{i:Ty}(ht:T t=some i){e es:Nat}(hd:i.d= .sl e es)(l o m c:Nat){k:IntKind}{j:Nat}(hj:j<=m)(hc:m<=c):SlR P t (.slice l o m c) (some (k,Int.ofNat j)) none (.slice l (if c=j then o else o+j*es) (m-j) (c-j)):=by
 by_cases h:c=j
 ·obtain⟨hu,hs⟩:=sl_of hT ht hd
  have he:P.elem t=e:=by simp[Program.elem,hu]
  refine⟨fun β W=> ?_,fun p h=>h⟩
  show(Instr.sliceAt t (.slice (some ⟨β l,o,none⟩) m c) (some (.int k (Int.ofNat j))) none none).run P W=_
  rw[run_sliceAt_slice W t _ _ _ _ (by rw[he];exact hu),run_slice_l W t _ m c (by rw[he];exact hu) k (Int.ofNat j) (by simp) (by simpa using hj),he,rsz hs]
  simp only[Result.andThen,sliced,den]
  rw[if_pos (by simp;omega),if_pos h]
  simp
 ·rw[if_neg h]
  exact slr_l hT ht hd l o m c hj (by omega)
end
end Go.Vg
namespace Go.Vg
open Go.RowKit Go.Lib
section
variable {P:Program}{g:G}{T:Nat->Option Ty}{F:FF}{L:LL}{n:Nat}
theorem smk(hT:TOk P T){o:Oper}{m0 N:Nat}{ms:List Nat}(hg:GI g m0 ms N)(hd':dstLt N o.dst=true){t:Nat}{l c:Operand}(ho:o.op= .makeSlice t l c){i:Ty}(ht:T t=some i){e:Nat}(hd:i.d= .sl e 1){j:Ty}(hj:T e=some j){bytes:Nat}(hB:(P.info? e).map (·.bytes)=some bytes){zv:SV}(hjz:j.z=[zv])
 {kl kc:IntKind} {m:Nat} (hl:ev (look F) l=some (.int kl (Int.ofNat m))) (hc:ev (look F) c=some (.int kc (Int.ofNat m))) (hbm:bytes*m<=281474976710656) (hm:m<=281474976710656) {K:FF->LL->Nat->Prop}
 (hK:K (putO F o.dst (.slice n 0 m m)) (L++[⟨n,List.replicate m zv,e⟩]) (n+1)):Step g P o K F L n:=by
 obtain⟨info,z,hu,hi,hz,hsz,hby,hes,hzc,hzb,hzn⟩:=sl_facts hT ht hd hj hB
 have hbz:∀p,bd p zv:=fun p=>by have:=hzb p;rw[hjz]at this;exact this.1
 refine step_new hg hd' fun β a W hm' hf=> ?_
 obtain⟨e1,_⟩:=evd hf hl
 obtain⟨e2,_⟩:=evd hf hc
 have hzcells:z.cells= #[den β zv]:=by
  apply Array.ext'
  rw[hzc β,hjz];rfl
 have hrun:=run_make (P:=P) W t e info z hu hi hz kl kc (Int.ofNat m) (Int.ofNat m) (Int.natCast_nonneg m) (Int.le_refl _) (by
  have h:((info.bytes*m:Nat):Int)<=281474976710656:=by rw[hby];omega
  rwa [Int.natCast_mul]at h) (by show(m:Int)<=_;omega)
 refine⟨.slice n 0 m m,W.alloc (.cells (madeCells z.cells ((Int.ofNat m).toNat*info.size)) e),W.heap.size,List.replicate m zv,e,(0,0),fun γ hγ=> ?_,⟨rfl,rfl,rfl,by simp,fun k hk _=>heap_alloc_old W _ hk⟩,Nat.le_refl _,Or.inl (Nat.le_refl 0),?_,?_,Nat.lt_succ_self n,hK⟩
 ·unfold execOp
  simp only[ho,Sem.run_bind,Sem.run_pure,Result.andThen_ok,e1,e2,den]
  have:=hrun
  simp only[this,Result.andThen_ok,hγ]
  rfl
 ·rw[heap_alloc_new W _]
  congr 2
  apply Array.ext'
  rw[hzcells,hsz,Nat.mul_one]
  show(madeCells #[den β zv] m).toList=_
  rw[toList_madeCells_one,dle,List.toList_toArray,List.map_replicate]
 ·rw[bdi]
  intro v hv
  rw[(List.mem_replicate.1 hv).2];exact hbz _
theorem run_copy_str_ok{W:World}{dT sT ty elem:TypeId}{gb dLen dCap:Nat}{cur:Array Value}{t:TypeId}{mk:Nat×Nat}(hu:P.underlying dT=some (.slice elem)){i:TypeInfo}(hi:P.info? elem=some i)(hs:i.size=1)(hg:W.heap[gb]? =some (.cells cur t mk))(hmk:okM mk cur.size)(s:ByteArray)(hle:s.size<=dLen)(hfit:s.size<=cur.size):
 (Builtin.copy_ #[dT,sT] ty #[.slice (some ⟨gb,0,none⟩) dLen dCap,.string s]).run P W= .ok (goInt s.size) (W.setRow gb (strCells s++cur.toList.drop s.size).toArray):=by
 have hst:=rsk (P:=P) gb 0 t mk (strCells s) 0 cur W hg hmk (by simpa [strCells_length]using hfit) (strCells_oneCell s)
 have hmin:Nat.min s.size dLen=s.size:=Nat.min_eq_left hle
 have htk:List.take s.size (List.map (fun b:UInt8=>Value.int IntKind.u8 (b.toNat:Int)) s.data.toList)=strCells s:=by
  rw[List.take_of_length_le (by rw[List.length_map];exact Nat.le_refl _)]
  rfl
 simp only[Nat.add_zero,strCells_length,Nat.zero_add,List.take_zero,List.nil_append]at hst
 simp[Builtin.copy_,run_underlying hu,Builtin.lenOf,Builtin.firstCells,sizeOf,typeInfo,hi,hs,hmin]
 rw[htk,hst]
 simp[Result.andThen]
theorem run_copy_op{a:Act}{W:World}{o:Oper}{s x:Operand}{t u:TypeId}(ho:o.op= .call {callee:= .builtin .copy,args:= #[s,x],argTypes:= #[t,u]}){v:Value}{W':World}(h:(Builtin.copy_ #[t,u] o.type #[a.eval s,a.eval x]).run P W= .ok v W'):(execOp a.eval o).run P W= .ok (.value v) W':=by
 unfold execOp
 simp only[ho,resolve,invoke,builtin,Sem.run_bind,Sem.run_pure,Result.andThen_ok,List.map_toArray,List.map_cons,List.map_nil,h]
theorem step_copy_str(hT:TOk P T){o:Oper}{m0 N:Nat}{ms:List Nat}(hg:GI g m0 ms N)(hd':dstLt N o.dst=true){s x:Operand}{t u:Nat}(ho:o.op= .call {callee:= .builtin .copy,args:= #[s,x],argTypes:= #[t,u]})
 {i:Ty} (ht:T t=some i) {e:Nat} (hd:i.d= .sl e 1) {l n1 c:Nat} (hs:ev (look F) s=some (.slice l 0 n1 c)) {cs:List SV} {tb:TypeId} (hl:find L l=some ⟨l,cs,tb⟩) (hown:own m0 ms l=true)
 {d:ByteArray} (hx:ev (look F) x=some (.str d)) (h1:d.size<=n1) (h2:d.size<=cs.length) {K:FF->LL->Nat->Prop}
 (hK:K (putO F o.dst (.int .i64 (.ofNat d.size))) (updL L l (bts d++cs.drop d.size)) n):Step g P o K F L n:=by
 obtain⟨hu,hsz⟩:=sl_of hT ht hd
 have hinfo:∃info,P.info? e=some info/\info.size=1:=by
  unfold sizeB at hsz
  cases hq:P.info? e with
  |none=>simp[hq]at hsz
  |some info=>exact⟨info,rfl,by simpa [hq]using hsz⟩
 obtain⟨info,hi,hi1⟩:=hinfo
 have hnl:=bts_len d
 have hsp:splice cs 0 (bts d)=bts d++cs.drop d.size:=by rw[splice,hnl,List.take_zero,List.nil_append,Nat.zero_add]
 rw[<-hg.n0,<-hg.ms]at hown
 refine step_gen hg hd' fun β a W hm hf=> ?_
 obtain⟨e1,b1⟩:=evd hf hs
 obtain⟨e2,b2⟩:=evd hf hx
 obtain⟨mk,hmk,hcell⟩:=hm.cell l _ hl
 have hst:=hm.store (o:=0) hl (vs:=bts d) (by show 0+_<=cs.length;omega) hown (bts_bd _ d)
 rw[show upL (find L) l ⟨l,splice cs 0 (bts d),tb⟩=find (updL L l (splice cs 0 (bts d)))from by
  funext q
  rw[find_updL]
  simp only[upL,hl]
  rfl]at hst
 have hrun:(execOp a.eval o).run P W= .ok (.value (den β (.int .i64 (.ofNat d.size)))) (W.setRow (β l) (denL β (splice cs 0 (bts d))).toArray):=by
  refine run_copy_op ho ?_
  rw[e1,e2]
  have:=run_copy_str_ok (P:=P) (ty:=o.type) (sT:=u) (dLen:=n1) (dCap:=c) hu hi hi1 hcell (by simpa [dle]using hmk hown) d h1 (by
   simp only[List.size_toArray,dle,List.length_map]
   omega)
  simp only[den]
  rw[this,splice_den]
  have hb:=bts_str β d
  simp only[dle]at hb⊢
  simp[hb,hnl,goInt]
 refine⟨_,_,updL L l (splice cs 0 (bts d)),n,β,hrun,hst,fun _ _=>rfl,Nat.le_refl n,trivial,by rw[hsp];exact hK⟩
end
end Go.Vg
