/-
  This text proves what these texts prove: RB, RC, KA, KB, VgA, VgB, VgC, VgD. Conditions: those of each theorem.
-/
import Derived.WalkKit
import Derived.ProofKit
import Derived.OpenShut
import Derived.Carry
import Derived.ChangeMaps5
import Derived.ChangeCalls
import Derived.SizedLaws
import Derived.HandedShaped
import Derived.Outline
import Derived.Handy
import Derived.Laws.CopyOwn
import Derived.StillTailTactics
import Derived.Deep.QuietTactic
import Derived.BigQuiet
import Derived.Lib.Hide
import Derived.Test.YtdhmihfefgcbeaaGreatRows
set_option maxHeartbeats 8000000
set_option linter.all false
theorem exq {α : Sort _} (e : α) : ∃ z, z = e := ⟨_, rfl⟩
namespace Go.Proofs.YtdhmihfefgcbeaaGreat
open Go.ChangeShapes Go.WideShapes Go.ChangeAt Go.RowKit
theorem stays_all{H:Type}{enc:TypeId×Value->H}{P:Program}(hl:laidOutB P=true){W W':World}(hB:Below W.heap.size W W')(sp:Nat->Bool):
 ∀ {ts:List TypeId} {vs:List Value} {ds:List (DataW H)} {ps:List MemPlace},(∀t∈ts,P.readableRec t=true/\t<P.types.size)->
   DataW.TrodAll enc P W 0 (fun _=>true) true ts vs ds ps->(∀p∈ps,p.block<W.heap.size)->(∀p∈ps,sp p.block=true)->DataW.TrodAll enc P W' 0 sp true ts vs ds ps
 | [],_,_,_,_,h,_,_=>by
   obtain⟨rfl,rfl,rfl⟩:=trodAll_nil h
   exact trodAll_mk0
 |t::ts,_,_,_,ht,h,hlt,hs=>by
  obtain⟨v,vs1,d,ds1,p,q,rfl,rfl,rfl,h1,h2⟩:=trodAll_cons h
  have hk:=ht t List.mem_cons_self
  exact trodAll_cons_mk (WideElems.Trod_stays hl hk.1 hk.2 h1 (fun x hx=>hB.same (hlt x (List.mem_append_left _ hx))) (fun x hx=>hs x (List.mem_append_left _ hx)))
   (stays_all hl hB sp (fun t h=>ht t (List.mem_cons_of_mem _ h)) h2 (fun x hx=>hlt x (List.mem_append_right _ hx)) (fun x hx=>hs x (List.mem_append_right _ hx)))
theorem true_post{H:Type}{enc:TypeId×Value->H}{P:Program}{f:Func}{s:ChangeSpec}{W W':World}{args:Array Value}{ds gs:List (DataW H)}{before:List MemPlace}{apart fresh handsOn again:Bool}(bt:TypeId)
 (hl:laidOutB P=true) (hts:∀t∈f.params.toList,P.readableRec t=true/\t<P.types.size) (hvars:s.vars=[]) (hbt:P.underlying bt=some .bool) (hrt:f.resultTypes= #[bt])
 (hfn:∀ds:List (DataW H),ds.length=f.params.toList.length->s.fn H ds= {results:=[.lit (.bool true)],args:=ds})
 (hW:DataW.Whole enc P f.params.toList s.vars apart W args.toList ds gs before) (hB:Below W.heap.size W W'):s.post enc P f apart fresh handsOn again W args (.bool true) W':=by
 have hW0:=hW
 have hlt:=hW.lt
 obtain⟨p,q,hA,hV,rfl,hz,hn⟩:=hW
 rw[hvars]at hV
 obtain⟨rfl,rfl⟩:=trodVars_none hV
 have hlen:ds.length=f.params.toList.length:=(trodAll_length hA).2
 have hf:s.fn H (ds++[])= {results:=[.lit (.bool true)],args:=ds}:=by rw[List.append_nil];exact hfn ds hlen
 rw[List.append_nil]at hlt
 have hold:∀x∈p,(fun b=>decide (b<W.heap.size)) x.block=true:=fun x hx=>by simpa using hlt x hx
 have hargs:∀sp:Nat->Bool,(∀x∈p,sp x.block=true)->DataW.TrodAll enc P W' 0 sp true f.params.toList args.toList ds p:=fun sp hs=>stays_all hl hB sp hts hA hlt hs
 have hres:∀ (b:Nat) (sp:Nat->Bool) (hd:Bool),DataW.TrodAll enc P W' b sp hd f.resultTypes.toList ((Value.bool true).resultList f.resultTypes.size) (s.fn H (ds++[])).results []:=by
  intro b sp hd
  rw[hf,hrt]
  exact trodAll_cons_mk (shut_bool hbt _) trodAll_mk0
 refine⟨ds,[],p++[],[],p,[],hW0,hres _ _ _,by rw[hf];exact hargs _ hold,?_,hB.frame _,fun _=> ?_⟩
 ·rw[hvars,hf];exact hV
 ·refine⟨ok_one (t:=bt) hrt rfl (okWide_bool_mk hbt _),_,[],([]++p)++[],⟨[]++p,[],trodAll_append (hargs _ (fun _ _=>rfl)) (hres _ _ _),?_,rfl,?_,?_⟩,?_⟩
  ·rw[hvars];exact hV
  ·intro b off hp
   have hp':MemPlace.cell b off∈p:=by simpa using hp
   rw[hB.frozen (hlt _ hp')]
   exact hz b off (by simpa using hp')
  ·intro ha
   simpa using hn ha
  ·intro x hx _
   simpa using hx
theorem args1{xs:Array Value}(h:xs.size=1):∃v0,xs= #[v0]:=by
 rcases xs with⟨l⟩
 match l,h with
 | [v0],_=>exact⟨v0,rfl⟩
end Go.Proofs.YtdhmihfefgcbeaaGreat
namespace Go.RowKit
open Go.ChangeShapes Go.WideShapes Go.ChangeAt
theorem open_i64{P:Program}{w:World}{r:Reach}{b:Nat}{t:TypeId}{v:Value}(ht:P.underlying t=some (.int .i64))(h:Cell.okWide P w r b t v):∃n:Int,v= .int .i64 n/\ -9223372036854775808<=n/\n<=9223372036854775807:=by
 simp only[Cell.okWide,ht]at h
 cases v
 all_goals simp only[Cell.ok,ht]at h
 rename_i k n
 obtain⟨rfl,h1,h2⟩:=h
 exact⟨n,rfl,h1,h2⟩
section
variable {H:Type}{enc:TypeId×Value->H}{P:Program}{w:World}{base:Nat}{sp:Nat->Bool}{held:Bool}
end
end Go.RowKit
namespace Go
section
variable {P:Program}{ops:Array Oper}{md:Region.Mode}{C:World->Prop}
end
structure Ext(B:Nat)(w:World) where
 val:World
 ok:RowKit.Below B w val
theorem Ext.frozen{B:Nat}{w:World}(x:Ext B w)(b o:Nat)(h:b<B):x.val.frozen? ⟨b,o,none⟩=w.frozen? ⟨b,o,none⟩:=x.ok.frozen (p:=⟨b,o,none⟩) h
end Go
namespace Go
open Go.RowKit
section
variable {P:Program}
theorem addr_add(g off j:Nat):(⟨g,off,none⟩:Addr).add j=⟨g,off+j,none⟩:=by
 unfold Addr.add
 split
 ·subst_vars;simp
 ·rfl
theorem run_loadVar_part(w:World)(g off:Nat)(ty:TypeId)(cs:Array Value)(d:TypeDesc)(hc:∀j v,cs[j]? =some v->w.cell? ⟨g,off+j,none⟩=some v)
 (hu:P.underlying ty=some d) (hd:(match d with| .struct _| .array _ _=>true|_=>false)=true) (hi:(P.info? ty).map (·.size)=some cs.size):
 (loadVar ty ⟨g,off,none⟩).run P w= .ok (.agg cs) w:=by
 have hl:(loadCells ⟨g,off,none⟩ cs.toList.length).run P w= .ok cs.toList.toArray w:=
  run_loadCells_list (P:=P) w ⟨g,off,none⟩ cs.toList (fun j v hv=>by
   rw[addr_add]
   exact hc j v (by simpa using hv))
 cases hq:P.info? ty with
 |none=>simp[hq]at hi
 |some i=>
  have hs:i.size=cs.size:=by simpa [hq]using hi
  have hagg:(isAgg ty).run P w= .ok true w:=by
   unfold isAgg
   rw[Sem.run_bind,run_underlying hu w]
   cases d<;>simp_all
  simp only[Array.length_toList,Array.toArray_toList]at hl
  simp[loadVar,Sem.run_bind,hagg,sizeOf,typeInfo,hq,hs,hl]
end
section
variable {P:Program}
end
/-! words as natural numbers-/
theorem ofInt_toNat(n a:Nat)(h:a<2^n):(BitVec.ofInt n (a:Int)).toNat=a:=by
 rw[BitVec.ofInt_natCast,BitVec.toNat_ofNat];exact Nat.mod_eq_of_lt h
theorem wrap_nat(k:IntKind)(hk:k.signed=false)(a:Nat):k.wrap (a:Int)=((a%2^k.bits:Nat):Int):=by
 simp[IntKind.wrap,hk]
theorem ubits(k:IntKind)(hk:k.signed=false)(a b:Nat)(ha:a<2^k.bits)(hb:b<2^k.bits):
 bits .and k a b=((a&&&b:Nat):Int)/\bits .or k a b=((a|||b:Nat):Int)/\bits .xor k a b=((a^^^b:Nat):Int):=by
 simp only[bits]
 refine⟨?_,?_,?_⟩
 ·rw[BitVec.toNat_and,ofInt_toNat _ _ ha,ofInt_toNat _ _ hb,wrap_nat k hk,Nat.mod_eq_of_lt (Nat.and_lt_two_pow _ hb)]
 ·rw[BitVec.toNat_or,ofInt_toNat _ _ ha,ofInt_toNat _ _ hb,wrap_nat k hk,Nat.mod_eq_of_lt (Nat.or_lt_two_pow ha hb)]
 ·rw[BitVec.toNat_xor,ofInt_toNat _ _ ha,ofInt_toNat _ _ hb,wrap_nat k hk,Nat.mod_eq_of_lt (Nat.xor_lt_two_pow ha hb)]
theorem block_lt{w:World}{g:Nat}{o:Obj}(h:w.heap[g]? =some o):g<w.heap.size:=(Array.getElem?_eq_some_iff.1 h).1
section
variable {P:Program}{ops:Array Oper}{C:World->Prop}
end
section
variable {P:Program}
end
section
variable {P:Program}
theorem forIn_all{body:Nat->Option Bool×Unit->Sem (ForInStep (Option Bool×Unit))}{w:World}{c:Nat->Bool}:∀ (l:List Nat),
 (∀i∈l,(body i (none,())).run P w= .ok (if c i then .yield (none,())else .done (some false,())) w)->(forIn l (none,()) body).run P w= .ok (if l.all c then(none,())else(some false,())) w
 | [],_=>rfl
 |i::l,h=>by
  have h1:=h i (.head _)
  have ih:=forIn_all l (fun j hj=>h j (.tail _ hj))
  rw[List.forIn_cons,Sem.run_bind,h1,Result.andThen_ok]
  by_cases hc:c i=true
  ·simp only[hc,if_true,List.all_cons,Bool.true_and];exact ih
  ·simp[hc]
theorem equalIn_array{w:World}{d:Nat}{t e:TypeId}{n m:Nat}{xs ys:Array Value}{c:Nat->Bool}(ht:P.underlying t=some (.array n e))(hs:(sizeOf e).run P w= .ok m w)
 (h:∀i,i<n->∃a b,(part e xs (i*m)).run P w= .ok a w/\(part e ys (i*m)).run P w= .ok b w/\(Op.equalIn d e a b).run P w= .ok (c i) w):
 (Op.equalIn (d+1) t (.agg xs) (.agg ys)).run P w= .ok ((List.range n).all c) w:=by
 unfold Op.equalIn
 simp only[Sem.run_bind,run_underlying ht,Result.andThen_ok,hs,Std.Legacy.Range.forIn_eq_forIn_range',Std.Legacy.Range.size]
 rw[show(n-0+1-1)/1=n by simp,<-List.range_eq_range',forIn_all (c:=c) (List.range n) (fun i hi=>by
  obtain⟨a,b,h1,h2,h3⟩:=h i (List.mem_range.1 hi)
  simp only[Sem.run_bind,h1,h2,h3,Result.andThen_ok]
  cases c i<;>rfl)]
 simp only[Result.andThen_ok]
 cases(List.range n).all c<;>rfl
theorem part_cell{w:World}{e:TypeId}{xs:Array Value}{i:Nat}{v:Value}(hi:(isAgg e).run P w= .ok false w)(hv:xs[i]? =some v):(part e xs i).run P w= .ok v w:=by
 unfold part
 simp[Sem.run_bind,hi,hv]
end
end Go
namespace Go.Vg
inductive SV where
 |bool (b:Bool)
 |int (k:IntKind) (n:Int)
 |str (s:ByteArray)
 |ptr (l o:Nat)
 |ptrS (l o:Nat)
 |nilp
 |slice (l o n c:Nat)
 |nils
 |fn (f:Fn) (a b:List SV)
 |nilfn
 |agg (cs:List SV)
 |tup (vs:List SV)
 |raw (v:Value)
 deriving Inhabited
mutual
def den(β:Nat->Nat):SV->Value
 | .bool b=> .bool b
 | .int k n=> .int k n
 | .str s=> .string s
 | .ptr l o=> .pointer (some ⟨β l,o,none⟩)
 | .ptrS l o=> .pointer (some ⟨β l,o,none⟩)
 | .nilp=> .pointer none
 | .slice l o n c=> .slice (some ⟨β l,o,none⟩) n c
 | .nils=> .slice none 0 0
 | .fn f a b=> .func f (denL β a).toArray (denL β b).toArray
 | .nilfn=> .nilFunc
 | .agg cs=> .agg (denL β cs).toArray
 | .tup vs=> .tuple (denL β vs).toArray
 | .raw v=>v
def denL(β:Nat->Nat):List SV->List Value
 | []=> []
 |v::vs=>den β v::denL β vs
end
theorem dle(β:Nat->Nat):∀l,denL β l=l.map (den β)
 | []=>rfl
 |v::vs=>by rw[denL,dle β vs,List.map_cons]
mutual
/-- its labels are among p-/
def bd(p:Nat->Prop):SV->Prop
 | .ptr l _| .ptrS l _| .slice l _ _ _=>p l
 | .fn _ a b=>bdL p a/\bdL p b
 | .agg cs=>bdL p cs
 | .tup vs=>bdL p vs
 |_=>True
def bdL(p:Nat->Prop):List SV->Prop
 | []=>True
 |v::vs=>bd p v/\bdL p vs
end
theorem bdi(p:Nat->Prop):∀l,bdL p l↔ ∀v∈l,bd p v
 | []=>by simp[bdL]
 |v::vs=>by simp[bdL,bdi p vs]
mutual
theorem bd_mono{p q:Nat->Prop}(h:∀l,p l->q l):∀v,bd p v->bd q v
 | .bool _,_| .int _ _,_| .str _,_| .nilp,_| .nils,_| .nilfn,_| .raw _,_=>by simp[bd]
 | .ptr _ _,hv| .ptrS _ _,hv| .slice _ _ _ _,hv=>h _ (by simpa [bd]using hv)
 | .fn _ a b,hv=>by
   simp only[bd]at hv⊢
   exact⟨bdm h a hv.1,bdm h b hv.2⟩
 | .agg cs,hv=>by simp only[bd]at hv⊢;exact bdm h cs hv
 | .tup vs,hv=>by simp only[bd]at hv⊢;exact bdm h vs hv
theorem bdm{p q:Nat->Prop}(h:∀l,p l->q l):∀l,bdL p l->bdL q l
 | [],_=>trivial
 |v::vs,hl=>by
  simp only[bdL]at hl⊢
  exact⟨bd_mono h v hl.1,bdm h vs hl.2⟩
end
mutual
theorem den_congr{β γ:Nat->Nat}{p:Nat->Prop}(h:∀l,p l->γ l=β l):∀v,bd p v->den γ v=den β v
 | .bool _,_| .int _ _,_| .str _,_| .nilp,_| .nils,_| .nilfn,_| .raw _,_=>by simp[den]
 | .ptr _ _,hv| .ptrS _ _,hv| .slice _ _ _ _,hv=>by simp only[den,h _ (show p _ by simpa [bd]using hv)]
 | .fn _ a b,hv=>by
   simp only[bd]at hv
   simp only[den,dlc h a hv.1,dlc h b hv.2]
 | .agg cs,hv=>by simp only[bd]at hv;simp only[den,dlc h cs hv]
 | .tup vs,hv=>by simp only[bd]at hv;simp only[den,dlc h vs hv]
theorem dlc{β γ:Nat->Nat}{p:Nat->Prop}(h:∀l,p l->γ l=β l):∀l,bdL p l->denL γ l=denL β l
 | [],_=>rfl
 |v::vs,hl=>by
  simp only[bdL]at hl
  simp only[denL,den_congr h v hl.1,dlc h vs hl.2]
end
abbrev FF:=List (Nat×SV)
structure Blk where
 l:Nat
 cs:List SV
 t:TypeId
abbrev LL:=List Blk
def look:FF->Nat->Option SV
 | [],_=>none
 |(t,v)::F,k=>if t=k then some v else look F k
def put:FF->Nat->SV->FF
 | [],k,v=> [(k,v)]
 |(t,u)::F,k,v=>if t=k then(t,v)::F else(t,u)::put F k v
theorem look_put(F:FF)(k:Nat)(v:SV)(t:Nat):look (put F k v) t=if k=t then some v else look F t:=by
 induction F with
 |nil=>simp[put,look]
 |cons p F ih=>
  obtain⟨s,u⟩:=p
  simp only[put]
  by_cases h:s=k
  ·subst h
   simp only[if_pos,look]
   by_cases h2:s=t<;>simp[h2]
  ·rw[if_neg h]
   simp only[look,ih]
   by_cases h2:s=t
   ·subst h2;simp[Ne.symm h]
   ·simp[h2]
def putO(F:FF)(d:Option Nat)(v:SV):FF:=
 match d with
 |some d=>put F d v
 |none=>F
def find:LL->Nat->Option Blk
 | [],_=>none
 |b::L,k=>if b.l=k then some b else find L k
def updL:LL->Nat->List SV->LL
 | [],_,_=> []
 |b::L,k,cs=>if b.l=k then⟨b.l,cs,b.t⟩::L else b::updL L k cs
theorem find_l{L:LL}{k:Nat}{b:Blk}(h:find L k=some b):b.l=k:=by
 induction L with
 |nil=>simp[find]at h
 |cons c L ih=>
  simp only[find]at h
  by_cases hc:c.l=k
  ·rw[if_pos hc]at h
   obtain rfl:=Option.some.inj h
   exact hc
  ·rw[if_neg hc]at h
   exact ih h
theorem fap(L M:LL)(k:Nat):find (L++M) k=match find L k with
 |some b=>some b
 |none=>find M k:=by
 induction L with
 |nil=>rfl
 |cons c L ih=>
  simp only[List.cons_append,find]
  by_cases hc:c.l=k
  ·rw[if_pos hc,if_pos hc]
  ·rw[if_neg hc,if_neg hc];exact ih
theorem find_updL(L:LL)(k:Nat)(cs:List SV)(l:Nat):find (updL L k cs) l=if l=k then(find L k).map fun b=>⟨b.l,cs,b.t⟩else find L l:=by
 induction L with
 |nil=>by_cases h:l=k<;>simp[updL,find,h]
 |cons c L ih=>
  simp only[updL,find]
  by_cases hc:c.l=k
  ·rw[if_pos hc,if_pos hc]
   simp only[find]
   by_cases hl:l=k
   ·subst hl;simp[hc]
   ·rw[if_neg (by rw[hc];exact fun e=>hl e.symm),if_neg hl,if_neg (by rw[hc];exact fun e=>hl e.symm)]
  ·rw[if_neg hc,if_neg hc]
   simp only[find,ih]
   by_cases hl:l=k
   ·subst hl;rw[if_neg hc,if_pos rfl,if_pos rfl]
   ·rw[if_neg hl,if_neg hl]
theorem fdm{L:LL}{k:Nat}{b:Blk}(h:find L k=some b):b∈L/\b.l=k:=by
 induction L with
 |nil=>simp[find]at h
 |cons c L ih=>
  simp only[find]at h
  by_cases hc:c.l=k
  ·rw[if_pos hc]at h
   obtain rfl:=Option.some.inj h
   exact⟨List.mem_cons_self,hc⟩
  ·rw[if_neg hc]at h
   exact⟨List.mem_cons_of_mem _ (ih h).1,(ih h).2⟩
structure Ar where
 bin:BinOp->IntKind->Int->Int->Int
 sh:BinOp->IntKind->Int->Int->Int
 cmp:BinOp->Int->Int->Bool
 una:UnOp->IntKind->Int->Int
 cvt:IntKind->Int->Int
 ix:Int->Nat->Option Nat
 nn:Int->Bool
 nz:Int->Bool
 bnot:Bool->Bool
 beq:Bool->Bool->Bool
 scat:ByteArray->ByteArray->Option ByteArray
 scmp:BinOp->ByteArray->ByteArray->Bool
 slen:ByteArray->Int
 six:ByteArray->Int->Option Int
 nat:Nat->Int
 off:Nat->Nat->Nat->Nat
 get:List SV->Nat->Option SV
 set:List SV->Nat->SV->List SV
 sub:List SV->Nat->Nat->Option (List SV)
 spl:List SV->Nat->List SV->Option (List SV)
def boolCmp(op:BinOp)(x y:Int):Bool:=
 match op with
 | .eql=>x==y
 | .neq=>x !=y
 | .lss=>x<y
 | .leq=>x<=y
 | .gtr=>x>y
 |_=>x≥y
def strCmp(op:BinOp)(x y:ByteArray):Bool:=
 match op with
 | .eql=>x.toList==y.toList
 | .neq=> !(x.toList==y.toList)
 | .lss=>Op.bytesLess x.toList y.toList
 | .leq=>Op.bytesLess x.toList y.toList||x.toList==y.toList
 | .gtr=> !(Op.bytesLess x.toList y.toList||x.toList==y.toList)
 |_=> !(Op.bytesLess x.toList y.toList)
def intBin(op:BinOp)(k:IntKind)(x y:Int):Int:=
 match op with
 | .add=>k.wrap (x+y)
 | .sub=>k.wrap (x-y)
 | .mul=>k.wrap (x*y)
 | .quo=>k.wrap (x.tdiv y)
 | .rem=>x.tmod y
 | .and=>k.wrap (BitVec.ofInt k.bits x&&&BitVec.ofInt k.bits y).toNat
 | .or=>k.wrap (BitVec.ofInt k.bits x|||BitVec.ofInt k.bits y).toNat
 | .xor=>k.wrap (BitVec.ofInt k.bits x^^^BitVec.ofInt k.bits y).toNat
 |_=>k.wrap (BitVec.ofInt k.bits x&&& ~~~BitVec.ofInt k.bits y).toNat
def splice(cs:List SV)(o:Nat)(vs:List SV):List SV:=cs.take o++vs++cs.drop (o+vs.length)
def Ar.real:Ar where
 bin:=intBin
 sh op k x y:=match op with
  | .shl=>k.wrap (x*2^(min y.toNat k.bits))
  |_=>x.fdiv (2^(min y.toNat k.bits))
 cmp:=boolCmp
 una op k n:=match op with
  | .neg=>k.wrap (0-n)
  |_=>intBin .xor k (if k.signed then -1 else k.max) n
 cvt k n:=k.wrap n
 ix i n:=if 0<=i/\i<n then some i.toNat else none
 nn i:=decide (0<=i)
 nz i:=i !=0
 bnot b:= !b
 beq a b:=a==b
 scat a b:=if((a.size+b.size:Nat):Int)>IntKind.i64.max then none else some (a++b)
 scmp:=strCmp
 slen s:=s.size
 six s i:=if 0<=i then(s[i.toNat]?).map fun b=>(b.toNat:Int)else none
 nat n:=n
 off o j s:=o+j*s
 get cs o:=cs[o]?
 set cs o v:=cs.set o v
 sub cs o n:=if o+n<=cs.length then some ((cs.drop o).take n)else none
 spl cs o vs:=if o+vs.length<=cs.length then some (splice cs o vs)else none
inductive TyD where
 |i (k:IntKind)|b|s|p|f|o
 |sl (e es:Nat)
 |ar (n e es:Nat) (ag:Bool)
 |st (fs:List (Nat×Nat×Bool))
structure Ty where
 d:TyD
 sz:Nat
 z:List SV
def TyD.agg:TyD->Bool
 | .ar .. | .st _=>true
 |_=>false
def ty:List (Nat×Ty)->Nat->Option Ty
 | [],_=>none
 |(t,i)::T,k=>if t=k then some i else ty T k
def ofV:Value->Option SV
 | .bool b=>some (.bool b)
 | .int k n=>some (.int k n)
 | .string s=>some (.str s)
 | .pointer none=>some .nilp
 | .slice none 0 0=>some .nils
 | .nilFunc=>some .nilfn
 |_=>none
def ev(F:Nat->Option SV):Operand->Option SV
 | .tmp t=>F t
 | .const v=>ofV v
 | .func f=>some (.fn (.func f) [] [])
 | .global _=>none
def evs(F:Nat->Option SV):List Operand->Option (List SV)
 | []=>some []
 |x::xs=>match ev F x with
  |some v=>match evs F xs with
   |some vs=>some (v::vs)
   |none=>none
  |none=>none
def cellsOf:SV->List SV
 | .agg cs=>cs
 |v=> [v]
def one:SV->Bool
 | .agg _| .tup _| .raw _=>false
 |_=>true
def ones:List SV->Bool
 | []=>true
 |v::vs=>match one v with
  |true=>ones vs
  |false=>false
def isCmp:BinOp->Bool
 | .eql| .neq| .lss| .leq| .gtr| .geq=>true
 |_=>false
def nilCmp:BinOp->Bool->Option Bool
 | .eql,b=>some b
 | .neq,b=>some (!b)
 |_,_=>none
def place(i:Ty)(n:Nat):Option (Nat×Nat):=
 match i.d with
 | .st fs=>match fs[n]? with
   |some (o,s,_)=>some (o,s)
   |none=>none
 | .ar _ _ es _=>some (n*es,es)
 | .sl _ es=>some (n*es,es)
 |_=>none
def noRaw:SV->Bool
 | .raw _=>false
 |_=>true
def fillS(pl:Nat->Option (Nat×Nat))(F:Nat->Option SV):List SV->List (Nat×Operand)->Option (List SV)
 |cs,[]=>some cs
 |cs,(i,x)::rest=>match ev F x with
  |some v=>match noRaw v with
   |true=>match pl i with
    |some (o,s)=>match Nat.beq (cellsOf v).length s with
     |true=>match Nat.ble (o+s) cs.length with
      |true=>fillS pl F (splice cs o (cellsOf v)) rest
      |false=>none
     |false=>none
    |none=>none
   |false=>none
  |none=>none
end Go.Vg
namespace Go.Vg
structure Upd(W0 W:World)(M:Nat->Prop):Prop where
 os:W.os=W0.os
 tape:W.tape=W0.tape
 output:W.output=W0.output
 size:W0.heap.size<=W.heap.size
 block:∀k,k<W0.heap.size->¬M k->W.heap[k]? =W0.heap[k]?
structure G where
 W0:World
 β0:Nat->Nat
 n0:Nat
 N:Nat
 ms:List Nat
def G.mod(g:G)(k:Nat):Prop:=∃l∈g.ms,g.β0 l=k
def memN:List Nat->Nat->Bool
 | [],_=>false
 |m::ms,l=>if m=l then true else memN ms l
def own(n0:Nat)(ms:List Nat)(l:Nat):Bool:=
 match Nat.ble n0 l with
 |true=>true
 |false=>memN ms l
def okM(m:Nat×Nat)(n:Nat):Prop:=m.2<=m.1\/n<=m.1
structure Mem(g:G)(β:Nat->Nat)(L:Nat->Option Blk)(p:Nat->Prop)(W:World):Prop where
 low:∀l,l<g.n0->p l
 old:∀l,l<g.n0->β l=g.β0 l
 new:∀l b,L l=some b->g.n0<=l->g.W0.heap.size<=β l\/g.mod (β l)
 inj:∀l b l' b',L l=some b->L l'=some b'->own g.n0 g.ms l=true->β l=β l'->l=l'
 cell:∀l b,L l=some b->∃m,(own g.n0 g.ms l=true->okM m b.cs.length)/\W.heap[β l]? =some (.cells (denL β b.cs).toArray b.t m)
 bL:∀l b,L l=some b->p l/\bdL p b.cs
 up:Upd g.W0 W g.mod
structure Fra(g:G)(β:Nat->Nat)(F:Nat->Option SV)(p:Nat->Prop)(a:Act):Prop where
 size:a.tmps.size=g.N
 defs:a.defers=[]
 bF:∀t v,F t=some v->bd p v
 fr:∀t v,F t=some v->a.tmps[t]? =some (den β v)
def St(g:G)(F:FF)(L:LL)(n:Nat)(a:Act)(W:World):Prop:=∃β,Mem g β (find L) (fun l=>l<n) W/\Fra g β (look F) (fun l=>l<n) a
structure Step(g:G)(P:Program)(o:Oper)(K:FF->LL->Nat->Prop)(F:FF)(L:LL)(n:Nat):Prop where
 run:∀a W,St g F L n a W->∀ (next:Act->World->Prop) (Q:Exit->Act->World->Prop),(∀F' L' n' a' W',K F' L' n'->St g F' L' n' a' W'->next a' W')->o.wp P a W next Q
def sub1(cs:List SV)(o n:Nat):Option (List SV):=
 match Nat.ble (o+n) cs.length with
 |true=>some ((cs.drop o).take n)
 |false=>none
def spl1(cs:List SV)(o:Nat)(vs:List SV):Option (List SV):=
 match Nat.ble (o+vs.length) cs.length with
 |true=>some (splice cs o vs)
 |false=>none
def wrapO(ag:Bool)(x:Option (List SV)):Option SV:=
 match x with
 |some cs=>match ag with
  |true=>some (.agg cs)
  |false=>match cs with
   | [v]=>some v
   |_=>none
 |none=>none
def prt(ag:Bool)(cs:List SV)(o s:Nat):Option SV:=
 match ag with
 |true=>wrapO true (sub1 cs o s)
 |false=>cs[o]?
def prtD(A:Ar)(ag:Bool)(cs:List SV)(o s:Nat):Option SV:=
 match ag with
 |true=>wrapO true (A.sub cs o s)
 |false=>A.get cs o
def rd(A:Ar)(L:Nat->Option Blk)(i:Ty):SV->Option SV
 | .ptr l o=>match L l with
   |some b=>match i.d.agg with
    |true=>wrapO true (sub1 b.cs o i.sz)
    |false=>b.cs[o]?
   |none=>none
 | .ptrS l o=>match L l with
   |some b=>match i.d.agg with
    |true=>wrapO true (A.sub b.cs o i.sz)
    |false=>A.get b.cs o
   |none=>none
 |_=>none
def wr(A:Ar)(L:Nat->Option Blk)(vs:List SV):SV->Option (Nat×List SV)
 | .ptr l o=>match L l with
   |some b=>match spl1 b.cs o vs with
    |some cs=>some (l,cs)
    |none=>none
   |none=>none
 | .ptrS l o=>match L l with
   |some b=>match A.spl b.cs o vs with
    |some cs=>some (l,cs)
    |none=>none
   |none=>none
 |_=>none
def sameK:IntKind->IntKind->Bool
 | .i8,.i8| .i16,.i16| .i32,.i32| .i64,.i64| .u8,.u8| .u16,.u16| .u32,.u32| .u64,.u64=>true
 |_,_=>false
def okSh(A:Ar)(y:Operand)(b:Int):Bool:=
 match y with
 | .const (.int _ (.ofNat _))=>true
 |_=>A.nn b
def okQu(A:Ar)(y:Operand)(b:Int):Bool:=
 match y with
 | .const (.int _ (.ofNat (_+1)))=>true
 |_=>A.nz b
def binV(A:Ar)(op:BinOp)(yo:Operand)(x y:SV):Option SV:=
 match x,y with
 | .int k a,.int k' b=>
   match op with
   | .shl| .shr=>match okSh A yo b with
     |true=>some (.int k (A.sh op k a b))
     |false=>none
   |_=>match sameK k k' with
    |true=>match isCmp op with
     |true=>some (.bool (A.cmp op a b))
     |false=>match op with
      | .quo| .rem=>match okQu A yo b with
        |true=>some (.int k (A.bin op k a b))
        |false=>none
      |_=>some (.int k (A.bin op k a b))
    |false=>none
 | .str a,.str b=>match isCmp op with
   |true=>some (.bool (A.scmp op a b))
   |false=>match op with
    | .add=>match A.scat a b with
      |some s=>some (.str s)
      |none=>none
    |_=>none
 |_,_=>none
def binT(A:Ar)(d:TyD)(op:BinOp)(x y:SV):Option SV:=
 match d,x,y with
 | .b,.bool a,.bool b=>match op with
   | .eql=>some (.bool (A.beq a b))
   | .neq=>some (.bool (A.bnot (A.beq a b)))
   |_=>none
 | .p,.nilp,.nilp| .sl _ _,.nils,.nils| .f,.nilfn,.nilfn=>match nilCmp op true with
   |some b=>some (.bool b)
   |none=>none
 | .p,.ptr _ _,.nilp| .p,.nilp,.ptr _ _| .p,.ptrS _ _,.nilp| .p,.nilp,.ptrS _ _| .sl _ _,.slice _ _ _ _,.nils| .sl _ _,.nils,.slice _ _ _ _| .f,.fn _ _ _,.nilfn| .f,.nilfn,.fn _ _ _=>match nilCmp op false with
   |some b=>some (.bool b)
   |none=>none
 |_,_,_=>none
def unV(A:Ar)(op:UnOp)(x:SV):Option SV:=
 match op,x with
 | .neg,.int k n=>some (.int k (A.una .neg k n))
 | .xor,.int k n=>some (.int k (A.una .xor k n))
 | .not,.bool b=>some (.bool (A.bnot b))
 |_,_=>none
inductive Ixd where
 |st (j:Nat)
 |dy (j:Nat)
 |no
def ixdy(A:Ar)(v:SV)(len:Nat):Ixd:=
 match v with
 | .int _ i=>match A.ix i len with
   |some j=> .dy j
   |none=> .no
 |_=> .no
def ixd(A:Ar)(x:Operand)(v:SV)(len:Nat):Ixd:=
 match x with
 | .const (.int _ (.ofNat j))=>match Nat.blt j len with
   |true=> .st j
   |false=> .no
 |_=>ixdy A v len
def ixAddr(A:Ar)(T:Nat->Option Ty)(t:Nat)(x:SV)(iop:Operand)(iv:SV):Option SV:=
 match T t with
 |some i=>match i.d,x with
  | .ar len _ es _,.ptr l o=>match ixd A iop iv len with
    | .st j=>some (.ptr l (o+j*es))
    | .dy j=>some (.ptrS l (A.off o j es))
    | .no=>none
  | .ar len _ es _,.ptrS l o=>match ixd A iop iv len with
    | .st j=>some (.ptrS l (A.off o j es))
    | .dy j=>some (.ptrS l (A.off o j es))
    | .no=>none
  | .sl _ es,.slice l o len _=>match iv with
    | .int _ q=>match A.ix q len with
      |some j=>some (.ptrS l (A.off o j es))
      |none=>none
    |_=>none
  |_,_=>none
 |none=>none
def ixPart(A:Ar)(T:Nat->Option Ty)(t:Nat)(cs:List SV)(ix:Operand)(i:SV):Option SV:=
 match T t with
 |some q=>match q.d with
  | .ar len _ es ag=>match ixd A ix i len with
    | .st j=>prt ag cs (j*es) es
    | .dy j=>prtD A ag cs (A.off 0 j es) es
    | .no=>none
  |_=>none
 |none=>none
def native(T:Nat->Option Ty)(F:Nat->Option SV):Op->Bool
 | .move _| .assign _| .pick _ _ _| .load _ _| .nilCheck _| .unOp _ _ _| .makeFunc _ _ _| .fieldAddr _ _ _| .field _ _ _| .indexAddr _ _ _| .index _ _ _| .extract _ _| .build _ _=>true
 | .binOp _ _ x y _=>match ev F x,ev F y with
   |some (.agg _),_|_,some (.agg _)|some (.raw _),_|_,some (.raw _)=>false
   |some (.ptr _ _),some (.ptr _ _)=>false
   |_,_=>true
 | .convert _ d _=>match T d with
   |some i=>match i.d with
    | .i _=>true
    |_=>false
   |none=>false
 | .call c=>match c.callee with
   | .builtin b=>match b with
     | .len=>true
     |_=>false
   |_=>false
 |_=>false
def valV(A:Ar)(T:Nat->Option Ty)(F:Nat->Option SV)(L:Nat->Option Blk):Op->Option SV
 | .move x| .assign x=>ev F x
 | .pick c a b=>match ev F c with
   |some (.bool t)=>match t with
    |true=>ev F a
    |false=>ev F b
   |_=>none
 | .load t x=>match ev F x with
   |some v=>match T t with
    |some i=>rd A L i v
    |none=>none
   |none=>none
 | .nilCheck x=>match ev F x with
   |some (.ptr l o)=>some (.ptr l o)
   |some (.ptrS l o)=>some (.ptrS l o)
   |some (.fn (.func f) a b)=>some (.fn (.func f) a b)
   |_=>none
 | .binOp op xt x y _=>match ev F x,ev F y with
   |some u,some v=>match u,v with
    | .int k a,.int k' b=>binV A op y (.int k a) (.int k' b)
    | .str a,.str b=>binV A op y (.str a) (.str b)
    |u,v=>match T xt with
     |some i=>binT A i.d op u v
     |none=>none
   |_,_=>none
 | .unOp op _ x=>match ev F x with
   |some v=>unV A op v
   |none=>none
 | .convert s d x=>match ev F x,T s,T d with
   |some (.int _ n),some _,some i=>match i.d with
    | .i k=>some (.int k (A.cvt k n))
    |_=>none
   |_,_,_=>none
 | .makeFunc f a c=>match evs F a.toList,evs F c.toList with
   |some a,some c=>some (.fn f a c)
   |_,_=>none
 | .fieldAddr s x f=>match ev F x,T s with
   |some v,some i=>match i.d with
    | .st fs=>match fs[f]? with
      |some (o',s',_)=>match s' with
       |0=>none
       |_+1=>match v with
        | .ptr l o=>some (.ptr l (o+o'))
        | .ptrS l o=>some (.ptrS l (A.off o o' 1))
        |_=>none
      |none=>none
    |_=>none
   |_,_=>none
 | .field t x f=>match ev F x,T t with
   |some (.agg cs),some i=>match i.d with
    | .st fs=>match fs[f]? with
      |some (o,s,ag)=>prt ag cs o s
      |none=>none
    |_=>none
   |_,_=>none
 | .indexAddr t x ix=>match ev F x,ev F ix with
   |some v,some i=>ixAddr A T t v ix i
   |_,_=>none
 | .index t x ix=>match ev F x,ev F ix with
   |some (.str s),some (.int _ i)=>match T t with
    |some q=>match q.d with
     | .s=>match A.six s i with
       |some b=>some (.int .u8 b)
       |none=>none
     |_=>none
    |none=>none
   |some (.agg cs),some i=>ixPart A T t cs ix i
   |_,_=>none
 | .extract x i=>match ev F x with
   |some (.tup vs)=>vs[i]?
   |_=>none
 | .build t parts=>match T t with
   |some i=>match i.d.agg with
    |true=>match fillS (place i) F i.z parts.toList with
     |some cs=>some (.agg cs)
     |none=>none
    |false=>none
   |none=>none
 | .call c=>match c.args.toList,c.argTypes.toList with
   | [x],[t]=>match ev F x,T t with
     |some u,some i=>match i.d,u with
      | .s,.str s=>some (.int .i64 (A.slen s))
      | .sl _ _,.slice _ _ m _=>some (.int .i64 (A.nat m))
      | .sl _ _,.nils=>some (.int .i64 0)
      |_,_=>none
     |_,_=>none
   |_,_=>none
 |_=>none
def rep:Nat->List SV->List SV
 |0,_=> []
 |m+1,z=>z++rep m z
section
variable (T:Nat->Option Ty)(A:Ar)(P:Program)(g:G)(n0:Nat)(ms:List Nat)
def vcOpG(S:Prop)(Kv:FF->Prop)(Kn:FF->Blk->Prop)(Kw:FF->Nat->List SV->Prop)(o:Oper)(F:FF)(L:LL)(n:Nat):Prop:=
 match o.op with
 | .alloc e=>match T e with
   |some i=>Kn (putO F o.dst (.ptr n 0)) ⟨n,i.z,e⟩
   |none=>False
 | .box e x=>match ev (look F) x with
   |some v=>match noRaw v with
    |true=>Kn (putO F o.dst (.ptr n 0)) ⟨n,cellsOf v,e⟩
    |false=>False
   |none=>False
 | .buildSlice t m parts=>match T t with
   |some i=>match i.d with
    | .sl e _=>match T e with
      |some j=>match Nat.ble (m*j.sz) 16777216 with
       |true=>match Nat.ble 1 (m*j.sz)with
        |true=>match fillS (place i) (look F) (rep m j.z) parts.toList with
         |some cs=>Kn (putO F o.dst (.slice n 0 m m)) ⟨n,cs,e⟩
         |none=>False
        |false=>S
       |false=>False
      |none=>False
    |_=>False
   |none=>False
 | .store t x v=>match ev (look F) x,ev (look F) v,T t with
   |some p,some u,some i=>match Nat.beq (cellsOf u).length i.sz with
    |true=>match ones (cellsOf u)with
     |true=>match wr A (find L) (cellsOf u) p with
      |some (l,cs)=>match own n0 ms l with
       |true=>Kw (putO F o.dst (.raw undef)) l cs
       |false=>False
      |none=>False
     |false=>False
    |false=>False
   |_,_,_=>False
 |op=>match native T (look F) op with
  |true=>match valV A T (look F) (find L) op with
   |some v=>Kv (putO F o.dst v)
   |none=>False
  |false=>S
def vcOp(o:Oper)(K:FF->LL->Nat->Prop)(F:FF)(L:LL)(n:Nat):Prop:=
 vcOpG T A n0 ms (Step g P o K F L n) (fun F'=>K F' L n) (fun F' b=>K F' (L++[b]) (n+1)) (fun F' l cs=>K F' (updL L l cs) n) o F L n
def notB:Value->Bool
 | .bool _=>false
 |_=>true
def vcL(all:List Oper):List Oper->(FF->LL->Nat->Prop)->FF->LL->Nat->Prop
 | [],K,F,L,n=>K F L n
 |o::rest,K,F,L,n=>
  match o.guard with
  |none=>vcOp T A P g n0 ms o (vcL all rest K) F L n
  |some (j,b)=>match all[j]? with
   |some oj=>match oj.dst with
    |some d=>match look F d with
     |some (.bool x)=>match x with
      |true=>match b with
       |true=>vcOp T A P g n0 ms o (vcL all rest K) F L n
       |false=>vcL all rest K (putO F o.dst (.raw undef)) L n
      |false=>match b with
       |true=>vcL all rest K (putO F o.dst (.raw undef)) L n
       |false=>vcOp T A P g n0 ms o (vcL all rest K) F L n
     |some (.raw u)=>match notB u with
      |true=>vcL all rest K (putO F o.dst (.raw undef)) L n
      |false=>False
     |_=>False
    |none=>False
   |none=>False
end
end Go.Vg
namespace Go.Vg
open Go.RowKit
def sizeB(P:Program)(t:Nat):Option Nat:=(P.info? t).map (·.size)
def aggB(P:Program)(t:Nat):Option Bool:=
 match P.underlying t with
 |some (.struct _)|some (.array _ _)=>some true
 |some _=>some false
 |none=>none
def zOk:Value->SV->Bool
 | .int k n,.int k' m=>k==k'&&n==m
 | .bool a,.bool b=>a==b
 | .string a,.str b=>a.size==0&&b.size==0
 | .pointer none,.nilp=>true
 | .slice none 0 0,.nils=>true
 | .nilFunc,.nilfn=>true
 | .nilIface,.raw .nilIface=>true
 |_,_=>false
def zsOk:List Value->List SV->Bool
 | [],[]=>true
 |v::vs,s::ss=>zOk v s&&zsOk vs ss
 |_,_=>false
def fldOk(P:Program):List Field->List (Nat×Nat×Bool)->Bool
 | [],[]=>true
 |f::fs,(o,s,ag)::r=>f.offset==o&&sizeB P f.type==some s&&aggB P f.type==some ag&&fldOk P fs r
 |_,_=>false
def okTyB(P:Program)(t:Nat)(i:Ty):Bool:=
 sizeB P t==some i.sz&&(match(P.info? t).bind (·.zero)with|some v=>zsOk v.cells.toList i.z&&i.z.length==i.sz|none=>false)&&
 match i.d,P.underlying t with
 | .i k,some (.int k')=>k==k'
 | .b,some .bool=>true
 | .s,some .string=>true
 | .p,some (.pointer _)=>true
 | .f,some (.func _ _ _)=>true
 | .o,some d=>(match d with| .struct _| .array _ _=>false|_=>true)
 | .sl e es,some (.slice e')=>e==e'&&sizeB P e==some es
 | .ar n e es ag,some (.array n' e')=>n==n'&&e==e'&&sizeB P e==some es&&aggB P e==some ag
 | .st fs,some (.struct fl)=>fldOk P fl.toList fs
 |_,_=>false
def TOk(P:Program)(T:Nat->Option Ty):Prop:=∀t i,T t=some i->okTyB P t i=true
theorem TOk.of{P:Program}{T:List (Nat×Ty)}(h:(T.all fun p=>okTyB P p.1 p.2)=true):TOk P (fun k=>ty T k):=by
 intro t i hi
 induction T with
 |nil=>simp[ty]at hi
 |cons p T ih=>
  obtain⟨s,j⟩:=p
  simp only[List.all_cons,Bool.and_eq_true]at h
  simp only[ty]at hi
  by_cases hs:s=t
  ·rw[if_pos hs]at hi
   obtain rfl:=Option.some.inj hi
   subst hs
   exact h.1
  ·rw[if_neg hs]at hi
   exact ih h.2 hi
def aggD:TypeDesc->Bool
 | .struct _| .array _ _=>true
 |_=>false
theorem zOk_den{v:Value}{s:SV}(h:zOk v s=true)(β:Nat->Nat)(p:Nat->Prop):v=den β s/\bd p s/\v.oneCell'=true:=by
 unfold zOk at h
 split at h<;>simp_all [den,bd,Value.oneCell']
theorem zsOk_den{vs:List Value}{ss:List SV}(β:Nat->Nat)(p:Nat->Prop):zsOk vs ss=true->vs=denL β ss/\bdL p ss/\∀v∈vs,v.oneCell'=true:=by
 induction vs generalizing ss with
 |nil=>cases ss<;>simp[zsOk,denL,bdL]
 |cons v vs ih=>
  cases ss with
  |nil=>simp[zsOk]
  |cons s ss=>
   simp only[zsOk,Bool.and_eq_true]
   rintro⟨h1,h2⟩
   obtain⟨a1,a2,a3⟩:=zOk_den h1 β p
   obtain⟨b1,b2,b3⟩:=ih h2
   refine⟨by rw[denL,<-a1,<-b1],⟨a2,b2⟩,?_⟩
   intro x hx
   rcases List.mem_cons.1 hx with rfl|hx
   ·exact a3
   ·exact b3 x hx
section
variable {P:Program}{T:Nat->Option Ty}{g:G}{β:Nat->Nat}{F:Nat->Option SV}{L:Nat->Option Blk}{n:Nat->Prop}{a:Act}{W:World}
theorem ty_size{t:Nat}{i:Ty}(hT:TOk P T)(h:T t=some i):∃info,P.info? t=some info/\info.size=i.sz/\∃v,info.zero=some v/\v.cells.toList=denL β i.z/\(∀p,bdL p i.z)/\(∀x∈v.cells.toList,x.oneCell'=true)/\i.z.length=i.sz:=by
 have h1:=hT t i h
 simp only[okTyB,Bool.and_eq_true]at h1
 obtain⟨⟨h2,h3⟩,_⟩:=h1
 cases hi:P.info? t with
 |none=>simp[sizeB,hi]at h2
 |some info=>
  simp only[hi,Option.bind_some]at h3
  cases hz:info.zero with
  |none=>simp[hz]at h3
  |some v=>
   simp only[hz,Bool.and_eq_true,beq_iff_eq]at h3
   obtain⟨b1,_,b3⟩:=zsOk_den β (fun _=>True) h3.1
   exact⟨info,rfl,by simpa [sizeB,hi]using h2,v,hz,b1,fun p=>(zsOk_den β p h3.1).2.1,b3,h3.2⟩
theorem ty_agg{t:Nat}{i:Ty}(hT:TOk P T)(h:T t=some i):∃d,P.underlying t=some d/\aggD d=i.d.agg:=by
 have h1:=hT t i h
 simp only[okTyB,Bool.and_eq_true]at h1
 obtain⟨_,h2⟩:=h1
 cases hu:P.underlying t with
 |none=>rw[hu]at h2;cases hd:i.d<;>simp[hd]at h2
 |some d=>rw[hu]at h2;cases hd:i.d<;>cases d<;>simp_all [TyD.agg,aggD]
theorem run_isAgg{t:Nat}{b:Bool}(h:aggB P t=some b)(w:World):(isAgg t).run P w= .ok b w:=by
 unfold aggB at h
 unfold isAgg
 rw[Sem.run_bind]
 cases hu:P.underlying t with
 |none=>simp[hu]at h
 |some d=>
  rw[run_underlying hu w]
  rw[hu]at h
  cases d<;>simp_all
theorem rsz{t s:Nat}(h:sizeB P t=some s)(w:World):(sizeOf t).run P w= .ok s w:=by
 unfold sizeB at h
 cases hq:P.info? t with
 |none=>simp[hq]at h
 |some i=>simp[sizeOf,typeInfo,Sem.run_bind,hq];simpa [hq]using h
theorem aggB_of{t:Nat}{d:TypeDesc}{b:Bool}(hu:P.underlying t=some d)(hd:aggD d=b):aggB P t=some b:=by
 unfold aggB
 rw[hu]
 cases d<;>simp_all [aggD]
theorem ty_sizeB{t:Nat}{i:Ty}(hT:TOk P T)(h:T t=some i):sizeB P t=some i.sz:=by
 obtain⟨info,h1,h2,_⟩:=ty_size (β:=id) hT h
 simp[sizeB,h1,h2]
theorem evd(hf:Fra g β F n a){x:Operand}{v:SV}(h:ev F x=some v):a.eval x=den β v/\bd n v:=by
 cases x with
 |tmp t=>
  have h1:=hf.fr t v h
  refine⟨?_,hf.bF t v h⟩
  simp[Act.eval,h1]
 |const c=>
  simp only[ev]at h
  unfold ofV at h
  split at h<;>simp_all [Act.eval]
  all_goals (subst h;simp[den,bd])
 |global _=>simp[ev]at h
 |func f=>
  simp only[ev,Option.some.injEq]at h
  subst h
  simp[Act.eval,den,denL,bd,bdL]
theorem evs_sound(hf:Fra g β F n a):∀ {xs:List Operand} {vs:List SV},evs F xs=some vs->xs.map a.eval=denL β vs/\bdL n vs:=by
 intro xs
 induction xs with
 |nil=>intro vs h;simp[evs]at h;subst h;simp[denL,bdL]
 |cons x xs ih=>
  intro vs h
  simp only[evs]at h
  cases h1:ev F x with
  |none=>simp[h1]at h
  |some v=>
   cases h2:evs F xs with
   |none=>simp[h1,h2]at h
   |some us=>
    simp only[h1,h2,Option.some.injEq]at h
    subst h
    obtain⟨e1,b1⟩:=evd hf h1
    obtain⟨e2,b2⟩:=ih h2
    exact⟨by rw[List.map_cons,e1,e2,denL],⟨b1,b2⟩⟩
theorem cell_at(hm:Mem g β L n W){l:Nat}{b:Blk}(h:L l=some b)(o:Nat):W.cell? ⟨β l,o,none⟩=(b.cs[o]?).map (den β):=by
 obtain⟨m,_,hc⟩:=hm.cell l b h
 simp[World.cell?,hc,dle]
theorem run_load_cell{ad:Addr}{v:Value}(h:W.cell? ad=some v):(load ad).run P W= .ok v W:=by
 simp[load,Sem.run,h]
theorem bdL_get{n:Nat->Prop}{cs:List SV}(h:bdL n cs){o:Nat}{v:SV}(hv:cs[o]? =some v):bd n v:=(bdi n cs).1 h v (List.mem_of_getElem? hv)
theorem bdL_sub{n:Nat->Prop}{cs:List SV}(h:bdL n cs)(o m:Nat):bdL n ((cs.drop o).take m):=by
 rw[bdi]at h⊢
 intro v hv
 exact h v (List.mem_of_mem_drop (List.mem_of_mem_take hv))
theorem sub1_eq{cs vs:List SV}{o m:Nat}(h:sub1 cs o m=some vs):o+m<=cs.length/\vs=(cs.drop o).take m:=by
 unfold sub1 at h
 split at h
 ·rename_i hb;exact⟨Nat.le_of_ble_eq_true hb,(Option.some.inj h).symm⟩
 ·cases h
theorem subr_eq{cs vs:List SV}{o m:Nat}(h:Ar.real.sub cs o m=some vs):o+m<=cs.length/\vs=(cs.drop o).take m:=by
 simp only[Ar.real]at h
 split at h
 ·rename_i hb;exact⟨hb,(Option.some.inj h).symm⟩
 ·cases h
theorem load_sound(hT:TOk P T)(hm:Mem g β L n W){t:Nat}{i:Ty}(ht:T t=some i){l o:Nat}{b:Blk}(hb:L l=some b){v:SV}
 (hag:∀vs,i.d.agg=true->v= .agg vs->o+i.sz<=b.cs.length/\vs=(b.cs.drop o).take i.sz) (hag2:i.d.agg=true->∃vs,v= .agg vs) (hone:i.d.agg=false->b.cs[o]? =some v):
 (loadVar t ⟨β l,o,none⟩).run P W= .ok (den β v) W/\bd n v:=by
 obtain⟨info,hi,hsz,_⟩:=ty_size (β:=β) hT ht
 obtain⟨d,hu,hd⟩:=ty_agg hT ht
 have hbL:=(hm.bL l b hb).2
 cases hg:i.d.agg with
 |true=>
  obtain⟨vs,rfl⟩:=hag2 hg
  obtain⟨h1,h2⟩:=hag vs hg rfl
  have hlen:vs.length=i.sz:=by rw[h2,List.length_take,List.length_drop];omega
  have h3:∀j x,(denL β vs).toArray[j]? =some x->W.cell? ⟨β l,o+j,none⟩=some x:=by
   intro j x hx
   rw[cell_at hm hb]
   simp only[dle,List.getElem?_toArray,List.getElem?_map]at hx
   obtain⟨s,hs,rfl⟩:=Option.map_eq_some_iff.1 hx
   rw[h2,List.getElem?_take]at hs
   split at hs
   ·rw[List.getElem?_drop]at hs
    rw[hs];rfl
   ·cases hs
  refine⟨?_,by simp only[bd];rw[h2];exact bdL_sub hbL _ _⟩
  have:=run_loadVar_part (P:=P) W (β l) o t (denL β vs).toArray d h3 hu (by rw[hg]at hd;cases d<;>simp_all [aggD]) (by rw[hi];simp[hsz,dle,hlen])
  rw[this];rfl
 |false=>
  have h1:=hone hg
  refine⟨?_,bdL_get hbL h1⟩
  unfold loadVar
  rw[Sem.run_bind,run_isAgg (aggB_of hu (hd.trans hg))]
  simp only[Result.andThen_ok,if_false,Bool.false_eq_true]
  exact run_load_cell (by rw[cell_at hm hb,h1];rfl)
theorem rd_sound(hT:TOk P T)(hm:Mem g β L n W){t:Nat}{i:Ty}(ht:T t=some i){u v:SV}(h:rd Ar.real L i u=some v):
 (Instr.loadAt t (den β u)).run P W= .ok (den β v) W/\bd n v:=by
 have key:∀l o b,L l=some b->den β u= .pointer (some ⟨β l,o,none⟩)->
  (∀vs,i.d.agg=true->v= .agg vs->o+i.sz<=b.cs.length/\vs=(b.cs.drop o).take i.sz)->(i.d.agg=true->∃vs,v= .agg vs)->(i.d.agg=false->b.cs[o]? =some v)->
  (Instr.loadAt t (den β u)).run P W= .ok (den β v) W/\bd n v:=by
  intro l o b hb hd h1 h2 h3
  obtain⟨r1,r2⟩:=load_sound hT hm ht hb h1 h2 h3
  refine⟨?_,r2⟩
  rw[hd]
  simp only[Instr.loadAt,Instr.sureAddr,Sem.run_bind,Sem.run_pure,Result.andThen_ok,r1]
 cases u with
 |ptr l o=>
  simp only[rd]at h
  cases hb:L l with
  |none=>simp[hb]at h
  |some b=>
   simp only[hb]at h
   cases hg:i.d.agg with
   |true=>
    simp only[hg,wrapO]at h
    cases hs:sub1 b.cs o i.sz with
    |none=>simp[hs]at h
    |some vs=>
     simp only[hs,Option.some.injEq]at h
     subst h
     exact key l o b hb rfl (fun vs' _ e=>by cases e;exact sub1_eq hs) (fun _=>⟨_,rfl⟩) (fun e=>by rw[hg]at e;cases e)
   |false=>
    simp only[hg]at h
    exact key l o b hb rfl (fun vs' e=>by rw[hg]at e;cases e) (fun e=>by rw[hg]at e;cases e) (fun _=>h)
 |ptrS l o=>
  simp only[rd]at h
  cases hb:L l with
  |none=>simp[hb]at h
  |some b=>
   simp only[hb]at h
   cases hg:i.d.agg with
   |true=>
    simp only[hg,wrapO]at h
    cases hs:Ar.real.sub b.cs o i.sz with
    |none=>simp[hs]at h
    |some vs=>
     simp only[hs,Option.some.injEq]at h
     subst h
     exact key l o b hb rfl (fun vs' _ e=>by cases e;exact subr_eq hs) (fun _=>⟨_,rfl⟩) (fun e=>by rw[hg]at e;cases e)
   |false=>
    simp only[hg]at h
    exact key l o b hb rfl (fun vs' e=>by rw[hg]at e;cases e) (fun e=>by rw[hg]at e;cases e) (fun _=>h)
 |_=>simp[rd]at h
end
end Go.Vg
namespace Go.Vg
open Go.RowKit
section
variable {P:Program}{T:Nat->Option Ty}{g:G}{β:Nat->Nat}{F:Nat->Option SV}{L:Nat->Option Blk}{n:Nat->Prop}{a:Act}{W:World}
theorem sameK_eq{k k':IntKind}(h:sameK k k'=true):k=k':=by cases k<;>cases k'<;>simp_all [sameK]
theorem eqGuard_int(op:BinOp)(t:TypeId)(x y:Operand){u v:Value}(hu:u≠ .nilIface)(hv:∀c d,¬ (u= .agg c/\v= .agg d))(w:World):(eqGuard op t x y u v).run P w= .ok () w:=by
 unfold eqGuard
 cases op<;>simp
 all_goals (cases u<;>cases v<;>simp_all)
theorem okSh_sound{y:Operand}{b:Int}(hy:∀k c,y= .const (.int k c)->b=c)(h:okSh Ar.real y b=true):¬b<0:=by
 unfold okSh at h
 split at h
 ·rename_i k m
  rw[hy k _ rfl]
  show ¬ ((m:Nat):Int)<0
  omega
 ·simpa [Ar.real]using h
theorem okQu_sound{y:Operand}{b:Int}(hy:∀k c,y= .const (.int k c)->b=c)(h:okQu Ar.real y b=true):¬b=0:=by
 unfold okQu at h
 split at h
 ·rename_i k m
  rw[hy k _ rfl]
  show ¬ (((m+1:Nat)):Int)=0
  omega
 ·simpa [Ar.real]using h
theorem binV_sound{op:BinOp}{xt:TypeId}{yo:Operand}{u v r:SV}(hy:∀k c,yo= .const (.int k c)->v= .int k c)(h:binV Ar.real op yo u v=some r)(w:World):(binOp op xt (den β u) (den β v)).run P w= .ok (den β r) w/\bd n r:=by
 cases u with
 |int k x=>
  cases v with
  |int k' y=>
   have hy':∀k c,yo= .const (.int k c)->y=c:=fun k c e=>by have:=hy k c e;cases this;rfl
   by_cases hs:op= .shl\/op= .shr
   ·have h2:(match okSh Ar.real yo y with|true=>some (SV.int k (Ar.real.sh op k x y))|false=>none)=some r:=by
     rcases hs with rfl|rfl<;>exact h
    cases hn:okSh Ar.real yo y with
    |false=>simp[hn]at h2
    |true=>
     simp only[hn,Option.some.injEq]at h2
     subst h2
     have hy:=okSh_sound hy' hn
     rcases hs with rfl|rfl<;>simp[binOp,Op.shift,den,bd,hy,Ar.real]
   ·have h2:(match sameK k k' with
     |true=>match isCmp op with
      |true=>some (SV.bool (Ar.real.cmp op x y))
      |false=>match op with
       | .quo| .rem=>match okQu Ar.real yo y with
         |true=>some (.int k (Ar.real.bin op k x y))
         |false=>none
       |_=>some (.int k (Ar.real.bin op k x y))
     |false=>none)=some r:=by
     cases op<;>first|exact h|exact absurd (Or.inl rfl) hs|exact absurd (Or.inr rfl) hs
    cases hk:sameK k k' with
    |false=>simp[hk]at h2
    |true=>
     obtain rfl:=sameK_eq hk
     simp only[hk]at h2
     cases op<;>simp only[isCmp,Option.some.injEq]at h2<;>first
      |exact absurd (Or.inl rfl) hs
      |exact absurd (Or.inr rfl) hs
      |(subst h2;simp[binOp,Op.intArith,Op.intBits,Op.intCmp,den,bd,Ar.real,intBin,boolCmp];done)
      |(cases hz:okQu Ar.real yo y with
        |false=>simp[hz]at h2
        |true=>
         simp only[hz,Option.some.injEq]at h2
         subst h2
         have hy:=okQu_sound hy' hz
         simp[binOp,Op.intDiv,den,bd,Ar.real,intBin,hy])
  |_=>simp[binV]at h
 |str x=>
  cases v with
  |str y=>
   cases hc:isCmp op with
   |true=>
    simp only[binV,hc,Option.some.injEq]at h
    subst h
    cases op<;>simp[isCmp]at hc<;>simp[binOp,Op.stringOp,den,bd,Ar.real,strCmp]
   |false=>
    simp only[binV,hc]at h
    cases op<;>simp at h
    cases hs:Ar.real.scat x y with
    |none=>simp[hs]at h
    |some z=>
     simp only[hs,Option.some.injEq]at h
     subst h
     simp only[Ar.real]at hs
     split at hs
     ·cases hs
     ·rename_i hb
      obtain rfl:=Option.some.inj hs
      simp only[binOp,Op.stringOp,den,bd]
      rw[if_neg hb]
      simp
  |_=>simp[binV]at h
 |_=>simp[binV]at h
theorem eqIn_bool{d:Nat}{t:TypeId}(hu:P.underlying t=some .bool)(x y:Bool)(w:World):(Op.equalIn (d+1) t (.bool x) (.bool y)).run P w= .ok (x==y) w:=by
 simp[Op.equalIn,run_underlying hu]
theorem eqIn_pp{d:Nat}{t e:TypeId}(hu:P.underlying t=some (.pointer e))(w:World):(Op.equalIn (d+1) t (.pointer none) (.pointer none)).run P w= .ok true w:=by
 simp[Op.equalIn,run_underlying hu]
theorem eqIn_np{d:Nat}{t e:TypeId}(hu:P.underlying t=some (.pointer e))(x:Addr)(w:World):(Op.equalIn (d+1) t (.pointer none) (.pointer (some x))).run P w= .ok false w:=by
 simp[Op.equalIn,run_underlying hu]
theorem eqIn_pn{d:Nat}{t e:TypeId}(hu:P.underlying t=some (.pointer e))(x:Addr)(w:World):(Op.equalIn (d+1) t (.pointer (some x)) (.pointer none)).run P w= .ok false w:=by
 simp[Op.equalIn,run_underlying hu]
theorem eqIn_ss{d:Nat}{t e:TypeId}(hu:P.underlying t=some (.slice e))(w:World):(Op.equalIn (d+1) t (.slice none 0 0) (.slice none 0 0)).run P w= .ok true w:=by
 simp[Op.equalIn,run_underlying hu]
theorem eqIn_ns{d:Nat}{t e:TypeId}(hu:P.underlying t=some (.slice e))(x:Addr)(m c:Nat)(w:World):(Op.equalIn (d+1) t (.slice none 0 0) (.slice (some x) m c)).run P w= .ok false w:=by
 simp[Op.equalIn,run_underlying hu]
theorem eqIn_sn{d:Nat}{t e:TypeId}(hu:P.underlying t=some (.slice e))(x:Addr)(m c:Nat)(w:World):(Op.equalIn (d+1) t (.slice (some x) m c) (.slice none 0 0)).run P w= .ok false w:=by
 simp[Op.equalIn,run_underlying hu]
theorem eqIn_ff{d:Nat}{t:TypeId}{p q:Array TypeId}{v:Bool}(hu:P.underlying t=some (.func p q v))(w:World):(Op.equalIn (d+1) t .nilFunc .nilFunc).run P w= .ok true w:=by
 simp[Op.equalIn,run_underlying hu]
theorem eqIn_nf{d:Nat}{t:TypeId}{p q:Array TypeId}{v:Bool}(hu:P.underlying t=some (.func p q v))(f:Fn)(x y:Array Value)(w:World):(Op.equalIn (d+1) t .nilFunc (.func f x y)).run P w= .ok false w:=by
 simp[Op.equalIn,run_underlying hu]
theorem eqIn_fn{d:Nat}{t:TypeId}{p q:Array TypeId}{v:Bool}(hu:P.underlying t=some (.func p q v))(f:Fn)(x y:Array Value)(w:World):(Op.equalIn (d+1) t (.func f x y) .nilFunc).run P w= .ok false w:=by
 simp[Op.equalIn,run_underlying hu]
theorem eq_run{t:TypeId}{u v:Value}{b:Bool}{w:World}(h:(Op.equalIn (9999+1) t u v).run P w= .ok b w)(h1:binOp .eql t u v=(do pure (.bool (<-Op.equal t u v))))(h2:binOp .neq t u v=(do pure (.bool (!(<-Op.equal t u v))))):
 (binOp .eql t u v).run P w= .ok (.bool b) w/\(binOp .neq t u v).run P w= .ok (.bool (!b)) w:=by
 have h':(Op.equal t u v).run P w= .ok b w:=h
 rw[h1,h2]
 simp only[Sem.run_bind,h',Result.andThen_ok,Sem.run_pure,and_self]
theorem nil_of{op:BinOp}{b:Bool}{u v:Value}{t:TypeId}{w:World}{r:SV}(h:(match nilCmp op b with|some b=>some (SV.bool b)|none=>none)=some r)
 (hr:(binOp .eql t u v).run P w= .ok (.bool b) w/\(binOp .neq t u v).run P w= .ok (.bool (!b)) w):(binOp op t u v).run P w= .ok (den β r) w/\bd n r:=by
 cases op<;>simp[nilCmp]at h<;>subst h
 ·exact⟨hr.1,by simp[bd]⟩
 ·exact⟨hr.2,by simp[bd]⟩
theorem binT_sound(hT:TOk P T){op:BinOp}{xt:TypeId}{i:Ty}(hi:T xt=some i){u v r:SV}(h:binT Ar.real i.d op u v=some r)(w:World):(binOp op xt (den β u) (den β v)).run P w= .ok (den β r) w/\bd n r:=by
 have h1:=hT xt i hi
 simp only[okTyB,Bool.and_eq_true]at h1
 obtain⟨_,h2⟩:=h1
 generalize i.d=dd at h h2
 cases hq:P.underlying xt with
 |none=>rw[hq]at h2;cases dd<;>cases h2
 |some d=>
  rw[hq]at h2
  unfold binT at h
  split at h
  ·cases d<;>first|(cases h2;done)|skip
   rename_i x y
   have hr:=eq_run (eqIn_bool hq x y w) rfl rfl
   split at h
   ·obtain rfl:=Option.some.inj h
    exact⟨hr.1,by simp[bd]⟩
   ·obtain rfl:=Option.some.inj h
    exact⟨hr.2,by simp[bd]⟩
   ·cases h
  ·cases d<;>first|(cases h2;done)|skip
   exact nil_of h (eq_run (eqIn_pp hq w) rfl rfl)
  ·cases d<;>first|(cases h2;done)|skip
   exact nil_of h (eq_run (eqIn_ss hq w) rfl rfl)
  ·cases d<;>first|(cases h2;done)|skip
   exact nil_of h (eq_run (eqIn_ff hq w) rfl rfl)
  ·cases d<;>first|(cases h2;done)|skip
   exact nil_of h (eq_run (eqIn_pn hq _ w) rfl rfl)
  ·cases d<;>first|(cases h2;done)|skip
   exact nil_of h (eq_run (eqIn_np hq _ w) rfl rfl)
  ·cases d<;>first|(cases h2;done)|skip
   exact nil_of h (eq_run (eqIn_pn hq _ w) rfl rfl)
  ·cases d<;>first|(cases h2;done)|skip
   exact nil_of h (eq_run (eqIn_np hq _ w) rfl rfl)
  ·cases d<;>first|(cases h2;done)|skip
   exact nil_of h (eq_run (eqIn_sn hq _ _ _ w) rfl rfl)
  ·cases d<;>first|(cases h2;done)|skip
   exact nil_of h (eq_run (eqIn_ns hq _ _ _ w) rfl rfl)
  ·cases d<;>first|(cases h2;done)|skip
   exact nil_of h (eq_run (eqIn_fn hq _ _ _ w) rfl rfl)
  ·cases d<;>first|(cases h2;done)|skip
   exact nil_of h (eq_run (eqIn_nf hq _ _ _ w) rfl rfl)
  ·cases h
theorem unV_sound{op:UnOp}{u r:SV}(h:unV Ar.real op u=some r)(w:World):(Op.unary op (den β u)).run P w= .ok (den β r) w/\bd n r:=by
 unfold unV at h
 split at h
 ·simp only[Option.some.injEq]at h;subst h
  simp[Op.unary,Op.intArith,den,bd,Ar.real]
 ·simp only[Option.some.injEq]at h;subst h
  simp[Op.unary,Op.intBits,den,bd,Ar.real,intBin]
 ·simp only[Option.some.injEq]at h;subst h
  simp[Op.unary,den,bd,Ar.real]
 ·cases h
theorem fld_of(hT:TOk P T){t:Nat}{i:Ty}(ht:T t=some i){fs:List (Nat×Nat×Bool)}(hd:i.d= .st fs):∃fl,P.underlying t=some (.struct fl)/\fldOk P fl.toList fs=true:=by
 have h1:=hT t i ht
 simp only[okTyB,Bool.and_eq_true]at h1
 obtain⟨_,h2⟩:=h1
 rw[hd]at h2
 cases hq:P.underlying t with
 |none=>simp[hq]at h2
 |some d=>cases d<;>simp_all
theorem fldOk_get{fl:List Field}{fs:List (Nat×Nat×Bool)}(h:fldOk P fl fs=true){k o s:Nat}{ag:Bool}(hk:fs[k]? =some (o,s,ag)):∃f,fl[k]? =some f/\f.offset=o/\sizeB P f.type=some s/\aggB P f.type=some ag:=by
 induction fl generalizing fs k with
 |nil=>cases fs<;>simp_all [fldOk]
 |cons f fl ih=>
  cases fs with
  |nil=>simp[fldOk]at h
  |cons p fs=>
   obtain⟨o1,s1,a1⟩:=p
   simp only[fldOk,Bool.and_eq_true,beq_iff_eq]at h
   obtain⟨⟨⟨h1,h2⟩,h3⟩,h4⟩:=h
   cases k with
   |zero=>
    simp only[List.getElem?_cons_zero,Option.some.injEq,Prod.mk.injEq]at hk
    obtain⟨rfl,rfl,rfl⟩:=hk
    exact⟨f,rfl,h1,h2,h3⟩
   |succ k=>exact ih h4 (by simpa using hk)
theorem addr_add'(b o k:Nat):(⟨b,o,none⟩:Addr).add k=⟨b,o+k,none⟩:=addr_add b o k
theorem fieldAddr_sound(hT:TOk P T){t:Nat}{i:Ty}(ht:T t=some i){fs:List (Nat×Nat×Bool)}(hd:i.d= .st fs){k o s:Nat}{ag:Bool}(hk:fs[k]? =some (o,s+1,ag))(b q:Nat)(w:World):
 (Instr.fieldAt t (.pointer (some ⟨b,q,none⟩)) k).run P w= .ok (.pointer (some ⟨b,q+o,none⟩)) w:=by
 obtain⟨fl,hu,hf⟩:=fld_of hT ht hd
 obtain⟨f,h1,h2,h3,_⟩:=fldOk_get hf hk
 have h1':fl[k]? =some f:=by simpa using h1
 unfold Instr.fieldAt
 simp[Sem.run_bind,run_underlying hu,h1',Instr.sureAddr,fieldPlace,rsz h3,addr_add',h2]
theorem part_sound{t s:Nat}{ag:Bool}{cs:List SV}{o:Nat}{r:SV}(hs:sizeB P t=some s)(ha:aggB P t=some ag)(hb:bdL n cs)
 (h:prt ag cs o s=some r\/prtD Ar.real ag cs o s=some r) (w:World):
 (part t (denL β cs).toArray o).run P w= .ok (den β r) w/\bd n r:=by
 unfold part
 rw[Sem.run_bind,run_isAgg ha]
 simp only[Result.andThen_ok]
 cases ag with
 |true=>
  have h2:∃vs,r= .agg vs/\o+s<=cs.length/\vs=(cs.drop o).take s:=by
   rcases h with h|h
   ·simp only[prt,wrapO]at h
    cases hq:sub1 cs o s with
    |none=>simp[hq]at h
    |some vs=>simp only[hq,Option.some.injEq]at h;exact⟨vs,h.symm,sub1_eq hq⟩
   ·simp only[prtD,wrapO]at h
    cases hq:Ar.real.sub cs o s with
    |none=>simp[hq]at h
    |some vs=>simp only[hq,Option.some.injEq]at h;exact⟨vs,h.symm,subr_eq hq⟩
  obtain⟨vs,rfl,h3,rfl⟩:=h2
  refine⟨?_,by simp only[bd];exact bdL_sub hb _ _⟩
  simp only[if_true,Sem.run_bind,rsz hs,Result.andThen_ok,Sem.run_pure,den]
  congr 2
  apply Array.ext_getElem?
  intro j
  simp only[dle,Array.getElem?_extract,List.getElem?_toArray,List.getElem?_map,List.getElem?_take,List.getElem?_drop,List.size_toArray,List.length_map]
  by_cases hj:j<s
  ·rw[if_pos (by omega),if_pos hj]
  ·rw[if_neg (by omega),if_neg hj];rfl
 |false=>
  have h2:cs[o]? =some r:=by rcases h with h|h<;>exact h
  refine⟨?_,bdL_get hb h2⟩
  simp[dle,h2]
end
end Go.Vg
