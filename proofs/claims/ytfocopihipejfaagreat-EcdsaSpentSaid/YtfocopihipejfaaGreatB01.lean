/-
  This text proves what these texts prove: RB, RC, KA, KB, VgA, VgB, VgC, VgD. Conditions: those of each theorem.
-/
import Derived.WalkKit
import Derived.ProofKit
import Derived.OpenShut
import Derived.Carry
import Derived.ChangeMaps5
import Derived.ChangeCalls
import Derived.SizedLaws
import Derived.HandedShaped
import Derived.Outline
import Derived.Handy
import Derived.Laws.CopyOwn
import Derived.StillTailTactics
import Derived.Deep.QuietTactic
import Derived.BigQuiet
import Derived.Lib.Hide
import Derived.Test.YtfocopihipejfaaGreatRows
set_option maxHeartbeats 8000000
set_option linter.all false
def rZ:=@Array.ext'
def Ba:=@Array.getD_eq_getD_getElem?
def oA:=@Array.getElem?_eq_getElem
def X7:=@Array.getElem?_eq_none
def xK:=@Array.getElem?_eq_some_iff
def aeT:=@Array.getElem?_setIfInBounds
def X8:=@Array.getElem?_setIfInBounds_ne
def E':=@Array.getElem?_toList
def tO:=@Array.length_toList
def LI:=@Array.toList_append
def CI:=@Array.toList_map
def aeU:=@Array.toList_replicate
def X9:=@Array.toList_setIfInBounds
def dq:=@Bool.and_eq_true
def Ya:=@Bool.eq_iff_iff
def LJ:=@Bool.false_eq_true
def Bb:=@Bool.false_or
def Yb:=@Bool.not_eq_true'
def PN:=@Bool.not_true
def Fa:=@Bool.or_eq_true
def Yc:=@Bool.true_and
def r_:=@ByteArray.size_append
def Hn:=@Classical.byContradiction
def aeW:=@Classical.epsilon_spec
def LK:=@Eq.trans
def pM:=@Fin.ext
def LM:=@Int.add_sub_cancel
def zi:=@Int.natCast_nonneg
def LN:=@Int.ofNat.inj
def Yf:=@Int.ofNat_eq_natCast
def PQ:=@Int.ofNat_le
def Hr:=@Int.ofNat_lt
def kL:=@List.all_cons
def gf:=@List.all_eq_true
def mf:=@List.all_nil
def jA:=@List.append_assoc
def gg:=@List.append_nil
def du:=@List.cons_append
def PS:=@List.drop_append_of_le_length
def LP:=@List.drop_drop
def PT:=@List.drop_left'
def Yh:=@List.drop_length
def Yi:=@List.drop_replicate
def PU:=@List.drop_take
def lh:=@List.drop_zero
def Yj:=@List.eq_nil_of_length_eq_zero
def Yk:=@List.ext_getElem?
def jQ:=@List.getD_eq_getElem?_getD
def se:=@List.getElem?_append_left
def Hs:=@List.getElem?_append_right
def Ht:=@List.getElem?_cons_zero
def Be:=@List.getElem?_drop
def jo:=@List.getElem?_eq_getElem
def iN:=@List.getElem?_eq_some_iff
def xM:=@List.getElem?_map
def Fc:=@List.getElem?_take
def LQ:=@List.getElem_mem
def dI:=@List.length_append
def mU:=@List.length_cons
def iY:=@List.length_drop
def fL:=@List.length_map
def pN:=@List.length_nil
def Yl:=@List.length_pos_iff
def jq:=@List.length_replicate
def eY:=@List.length_take
def CJ:=@List.map_append
def PV:=@List.map_congr_left
def ve:=@List.map_cons
def CK:=@List.map_map
def Hu:=@List.map_nil
def Ym:=@List.map_replicate
def Hv:=@List.map_toArray
def xN:=@List.mem_append
def Yn:=@List.mem_append_left
def Yo:=@List.mem_append_right
def Fg:=@List.mem_cons
def lj:=@List.mem_cons_of_mem
def kd:=@List.mem_cons_self
def iZ:=@List.mem_map
def CL:=@List.mem_of_getElem?
def Fh:=@List.mem_of_mem_drop
def xO:=@List.mem_of_mem_take
def tQ:=@List.mem_range
def qM:=@List.mem_replicate
def il:=@List.mem_singleton
def cM:=@List.nil_append
def PW:=@List.nodup_cons
def LR:=@List.nodup_nil
def Hw:=@List.not_mem_nil
def PX:=@List.replicate_succ
def Hx:=@List.replicate_succ'
def CM:=@List.size_toArray
def PY:=@List.take_append_drop
def LS:=@List.take_append_of_le_length
def CN:=@List.take_left'
def Hy:=@List.take_length
def vf:=@List.take_of_length_le
def LU:=@List.take_succ_cons
def LV:=@List.take_succ_eq_append_getElem
def Hz:=@List.take_take
def HA:=@List.take_zero
def xP:=@Nat.add_assoc
def oB:=@Nat.add_comm
def sf:=@Nat.add_mod
def vg:=@Nat.add_mod_right
def cw:=@Nat.add_mul
def Yp:=@Nat.add_mul_div_left
def zj:=@Nat.add_mul_div_right
def CO:=@Nat.add_mul_mod_self_left
def tR:=@Nat.add_mul_mod_self_right
def Yq:=@Nat.add_right_comm
def oC:=@Nat.add_sub_cancel
def gY:=@Nat.add_zero
def Yr:=@Nat.and_lt_two_pow
def Bf:=@Nat.and_two_pow_sub_one_eq_mod
def zk:=@Nat.beq_refl
def oD:=@Nat.ble_eq_true_of_le
def gN:=@Nat.div_add_mod
def ke:=@Nat.div_div_eq_div_mul
def kg:=@Nat.div_eq_of_lt
def gq:=@Nat.div_le_self
def qN:=@Nat.div_lt_iff_lt_mul
def xQ:=@Nat.div_lt_of_lt_mul
def CP:=@Nat.div_mul_le_self
def pf:=@Nat.div_one
def LW:=@Nat.dvd_gcd
def Ys:=@Nat.dvd_mul_left
def Yt:=@Nat.dvd_mul_right
def vh:=@Nat.dvd_of_mod_eq_zero
def Yu:=@Nat.dvd_refl
def CQ:=@Nat.dvd_trans
def P0:=@Nat.dvd_zero
def vj:=@Nat.eq_of_beq_eq_true
def Fi:=@Nat.gcd_comm
def LX:=@Nat.gcd_dvd_left
def LY:=@Nat.gcd_dvd_right
def HD:=@Nat.gcd_rec
def P1:=@Nat.le_add_left
def P2:=@Nat.le_add_right
def P3:=@Nat.le_antisymm
def Fj:=@Nat.le_div_iff_mul_le
def aeZ:=@Nat.le_mul_of_pos_right
def g_:=@Nat.le_of_ble_eq_true
def mg:=@Nat.le_of_dvd
def pO:=@Nat.le_of_eq
def ku:=@Nat.le_of_lt
def vk:=@Nat.le_of_not_lt
def aE:=@Nat.le_refl
def vu:=@Nat.le_succ
def Bg:=@Nat.le_succ_of_le
def eH:=@Nat.le_trans
def iO:=@Nat.lt_irrefl
def HE:=@Nat.lt_log2_self
def eB:=@Nat.lt_of_le_of_lt
def cg:=@Nat.lt_of_lt_of_le
def LZ:=@Nat.lt_of_mul_lt_mul_right
def sg:=@Nat.lt_of_not_le
def CR:=@Nat.lt_succ_of_lt
def jR:=@Nat.lt_succ_self
def cT:=@Nat.lt_trans
def L3:=@Nat.lt_two_pow_self
def tS:=@Nat.min_eq_left
def HF:=@Nat.mod_add_div
def aO:=@Nat.mod_eq_of_lt
def HG:=@Nat.mod_eq_sub_mod
def L4:=@Nat.mod_eq_zero_of_dvd
def ax:=@Nat.mod_lt
def xR:=@Nat.mod_mod
def HH:=@Nat.mod_mod_of_dvd
def Yv:=@Nat.mod_mul
def tT:=@Nat.mod_mul_mod
def Yw:=@Nat.mod_mul_right_div_self
def zl:=@Nat.mod_one
def Yx:=@Nat.mod_self
def lL:=@Nat.mul_add
def P4:=@Nat.mul_add_div
def eZ:=@Nat.mul_assoc
def bJ:=@Nat.mul_comm
def P5:=@Nat.mul_div_cancel
def ae0:=@Nat.mul_div_cancel_left
def L5:=@Nat.mul_div_mul_right
def mV:=@Nat.mul_le_mul
def xS:=@Nat.mul_le_mul_left
def ea:=@Nat.mul_le_mul_right
def L6:=@Nat.mul_left_comm
def CS:=@Nat.mul_lt_mul''
def ae1:=@Nat.mul_lt_mul_of_pos_left
def HI:=@Nat.mul_lt_mul_of_pos_right
def kM:=@Nat.mul_mod
def Yy:=@Nat.mul_mod_mod
def Fk:=@Nat.mul_mod_mul_right
def fh:=@Nat.mul_one
def Yz:=@Nat.mul_succ
def L7:=@Nat.mul_zero
def vC:=@Nat.not_lt
def mh:=@Nat.not_lt_zero
def fN:=@Nat.one_mul
def zm:=@Nat.or_comm
def Bh:=@Nat.or_lt_two_pow
def P6:=@Nat.or_zero
def vF:=@Nat.pos_of_ne_zero
def dV:=@Nat.pow_add
def L8:=@Nat.pow_le_pow_left
def cV:=@Nat.pow_le_pow_right
def L9:=@Nat.pow_lt_pow_right
def jS:=@Nat.pow_mul
def zo:=@Nat.pow_one
def ew:=@Nat.pow_pos
def br:=@Nat.pow_succ
def YA:=@Nat.pow_succ'
def jB:=@Nat.pow_zero
def vG:=@Nat.shiftRight_eq_div_pow
def P7:=@Nat.sub_le
def CT:=@Nat.sub_lt
def YB:=@Nat.sub_mod_eq_zero_of_mod_eq
def Fl:=@Nat.sub_mul
def vH:=@Nat.sub_self
def tU:=@Nat.sub_zero
def HJ:=@Nat.succ_mul
def YC:=@Nat.succ_ne_zero
def ae2:=@Nat.testBit_lt_two_pow
def ae3:=@Nat.testBit_two_pow_sub_one
def ae4:=@Nat.testBit_two_pow_sub_succ
def YD:=@Nat.two_mul
def i_:=@Nat.two_pow_pos
def si:=@Nat.xor_lt_two_pow
def dB:=@Nat.zero_add
def zp:=@Nat.zero_div
def bf:=@Nat.zero_le
def zq:=@Nat.zero_mod
def fE:=@Nat.zero_mul
def oE:=@Ne.symm
def HL:=@NeZero.ne
def ae5:=@Option.isSome_iff_exists
def Fm:=@Option.map_eq_some_iff
def ef:=@Option.some.inj
def fc:=@Option.some.injEq
def xT:=@Prod.mk.injEq
def vT:=@beq_iff_eq
def aK:=@congrArg
def bg:=@congrFun
def ye:=@decide_eq_decide
def da:=@decide_eq_false
def eh:=@decide_eq_true
def qT:=@decide_eq_true_eq
def Q7:=@decide_eq_true_iff
def GH:=@if_false
def af:=@if_neg
def aj:=@if_pos
def xk:=@if_true
def KT:=@of_decide_eq_true
def OR:=@or_false
theorem aa {α : Sort _} (e : α) : ∃ z, z = e := ⟨_, rfl⟩
namespace Go.Proofs.YtfocopihipejfaaGreat
open Go.ChangeShapes Go.WideShapes Go.ChangeAt Go.RowKit
theorem adV{H:Type}{enc:TypeId×Value->H}{P:Program}(hl:laidOutB P=true){W W':World}(hB:Below W.heap.size W W')(sp:Nat->Bool):
 ∀ {ts:List TypeId} {vs:List Value} {ds:List (DataW H)} {ps:List MemPlace},(∀t∈ts,P.readableRec t=true/\t<P.types.size)->
   DataW.TrodAll enc P W 0 (fun _=>true) true ts vs ds ps->(∀p∈ps,p.block<W.heap.size)->(∀p∈ps,sp p.block=true)->DataW.TrodAll enc P W' 0 sp true ts vs ds ps
 | [],_,_,_,_,h,_,_=>by
   obtain⟨rfl,rfl,rfl⟩:=trodAll_nil h
   exact trodAll_mk0
 |t::ts,_,_,_,ht,h,ab,hs=>by
  obtain⟨v,vs1,d,ds1,p,q,rfl,rfl,rfl,h1,h2⟩:=trodAll_cons h
  have hk:=ht t kd
  exact trodAll_cons_mk (WideElems.Trod_stays hl hk.1 hk.2 h1 (fun x hx=>hB.same (ab x (Yn _ hx))) (fun x hx=>hs x (Yn _ hx)))
   (adV hl hB sp (fun t h=>ht t (lj _ h)) h2 (fun x hx=>ab x (Yo _ hx)) (fun x hx=>hs x (Yo _ hx)))
theorem aqW{H:Type}{enc:TypeId×Value->H}{P:Program}{f:Func}{s:ChangeSpec}{W W':World}{args:Array Value}{ds gs:List (DataW H)}{before:List MemPlace}{apart fresh handsOn again:Bool}(bt:TypeId)
 (hl:laidOutB P=true) (yP:∀t∈f.params.toList,P.readableRec t=true/\t<P.types.size) (Ue:s.vars=[]) (q9:P.underlying bt=some .bool) (hrt:f.resultTypes= #[bt])
 (NG:∀ds:List (DataW H),ds.length=f.params.toList.length->s.fn H ds= {results:=[.lit (.bool true)],args:=ds})
 (hW:DataW.Whole enc P f.params.toList s.vars apart W args.toList ds gs before) (hB:Below W.heap.size W W'):s.post enc P f apart fresh handsOn again W args (.bool true) W':=by
 have hW0:=hW
 have ab:=hW.lt
 obtain⟨p,q,hA,hV,rfl,hz,hn⟩:=hW
 rw[Ue]at hV
 obtain⟨rfl,rfl⟩:=trodVars_none hV
 have hlen:ds.length=f.params.toList.length:=(trodAll_length hA).2
 have hf:s.fn H (ds++[])= {results:=[.lit (.bool true)],args:=ds}:=by rw[gg];exact NG ds hlen
 rw[gg]at ab
 have hold:∀x∈p,(fun b=>decide (b<W.heap.size)) x.block=true:=fun x hx=>by simpa using ab x hx
 have Gc:∀sp:Nat->Bool,(∀x∈p,sp x.block=true)->DataW.TrodAll enc P W' 0 sp true f.params.toList args.toList ds p:=fun sp hs=>adV hl hB sp yP hA ab hs
 have Aw:∀ (b:Nat) (sp:Nat->Bool) (hd:Bool),DataW.TrodAll enc P W' b sp hd f.resultTypes.toList ((Value.bool true).resultList f.resultTypes.size) (s.fn H (ds++[])).results []:=by
  intro b sp hd
  rw[hf,hrt]
  exact trodAll_cons_mk (shut_bool q9 _) trodAll_mk0
 refine⟨ds,[],p++[],[],p,[],hW0,Aw _ _ _,by rw[hf];exact Gc _ hold,?_,hB.frame _,fun _=> ?_⟩
 ·rw[Ue,hf];exact hV
 ·refine⟨ok_one (t:=bt) hrt rfl (okWide_bool_mk q9 _),_,[],([]++p)++[],⟨[]++p,[],trodAll_append (Gc _ (fun _ _=>rfl)) (Aw _ _ _),?_,rfl,?_,?_⟩,?_⟩
  ·rw[Ue];exact hV
  ·intro b off hp
   have iJ:MemPlace.cell b off∈p:=by simpa using hp
   rw[hB.frozen (ab _ iJ)]
   exact hz b off (by simpa using iJ)
  ·intro ha
   simpa using hn ha
  ·intro x hx _
   simpa using hx
theorem al'{P:Program}{w:World}{r:Reach}{b:Nat}{t:TypeId}{v:Value}(ht:P.underlying t=some (.int .u64))(h:Cell.okWide P w r b t v):∃n:Nat,v= .int .u64 n/\n<0x10000000000000000:=by
 simp only[Cell.okWide,ht]at h
 cases v
 all_goals simp only[Cell.ok,ht]at h
 rename_i k n
 obtain⟨rfl,h1,h2⟩:=h
 have h3:(0:Int)<=n:=h1
 have h4:n<=0xffffffffffffffff:=h2
 exact⟨n.toNat,by rw[Int.toNat_of_nonneg h3],by omega⟩
theorem arN{xs:Array Value}(h:xs.size=3):∃v0 v1 v2,xs= #[v0,v1,v2]:=by
 rcases xs with⟨l⟩
 match l,h with
 | [v0,v1,v2],_=>exact⟨v0,v1,v2,rfl⟩
theorem afa{xs:Array Value}(h:xs.size=4):∃v0 v1 v2 v3,xs= #[v0,v1,v2,v3]:=by
 rcases xs with⟨l⟩
 match l,h with
 | [v0,v1,v2,v3],_=>exact⟨v0,v1,v2,v3,rfl⟩
end Go.Proofs.YtfocopihipejfaaGreat
namespace Go.RowKit
open Go.ChangeShapes Go.WideShapes Go.ChangeAt
theorem al_{P:Program}{w:World}{r:Reach}{b:Nat}{t:TypeId}{v:Value}(ht:P.underlying t=some (.int .i64))(h:Cell.okWide P w r b t v):∃n:Int,v= .int .i64 n/\ -9223372036854775808<=n/\n<=9223372036854775807:=by
 simp only[Cell.okWide,ht]at h
 cases v
 all_goals simp only[Cell.ok,ht]at h
 rename_i k n
 obtain⟨rfl,h1,h2⟩:=h
 exact⟨n,rfl,h1,h2⟩
section
variable {H:Type}{enc:TypeId×Value->H}{P:Program}{w:World}{base:Nat}{sp:Nat->Bool}{held:Bool}
theorem ael:∀ {ts:List TypeId} {vs:List Value} {ds:List (DataW H)} {ps:List MemPlace},DataW.TrodAll enc P w base sp held ts vs ds ps->∀ {j:Nat} {t:TypeId} {v:Value},ts[j]? =some t->vs[j]? =some v->∃d p,ds[j]? =some d/\DataW.Trod enc P w base sp held t v d p/\∀x∈p,x∈ps
 | [],[],[],_,_,_,_,_,ht,_=>by simp at ht
 |t::ts,v::vs,d::ds,ps,h,j,t',v',ht,hv=>by
  obtain⟨p,q,h1,h2,rfl⟩:=h
  cases j with
  |zero=>
   obtain rfl:t=t':=by simpa using ht
   obtain rfl:v=v':=by simpa using hv
   exact⟨d,p,rfl,h1,fun x hx=>xN.2 (Or.inl hx)⟩
  |succ j=>
   obtain⟨d',p',k1,k2,k3⟩:=ael h2 (j:=j) (by simpa using ht) (by simpa using hv)
   exact⟨d',p',by simpa using k1,k2,fun x hx=>xN.2 (Or.inr (k3 x hx))⟩
 | [],_::_,_,_,h,_,_,_,_,_=>h.elim
 | [],[],_::_,_,h,_,_,_,_,_=>h.elim
 |_::_,[],_,_,h,_,_,_,_,_=>h.elim
 |_::_,_::_,[],_,h,_,_,_,_,_=>h.elim
theorem aqO{ts us:List TypeId}{vs:List Value}{ds gs:List (DataW H)}{ps:List MemPlace}(hA:DataW.TrodAll enc P w base sp held ts vs ds ps)(aJ:(DataW.weightsEach P (ts++us) (ds++gs)).all (· <=reachBytes)=true){r:Reach}{b:Nat}{j:Nat}{t:TypeId}{v:Value}
 (ht:ts[j]? =some t) (hv:vs[j]? =some v) (hu:P.underlying t=some .string) (Ek:Value.okWide P w r b t v):∃s:ByteArray,v= .string s/\s.size<=140737488351232:=by
 obtain⟨d,p,k1,k2,_⟩:=ael hA ht hv
 obtain⟨s,rfl,rfl,_⟩:=Go.ChangeMaps.open_string hu Ek k2
 refine⟨s,rfl,?_⟩
 have hj:j<ts.length:=(iN.1 ht).1
 have DS:j<ds.length:=(iN.1 k1).1
 exact sized_string aJ (j:=j) (by rw[se hj];exact ht) (by rw[se DS];exact k1)
end
end Go.RowKit
namespace Go
section
variable {P:Program}{ops:Array Oper}{md:Region.Mode}{C:World->Prop}
end
structure Ext(B:Nat)(w:World) where
 val:World
 ok:RowKit.Below B w val
theorem Ext.frozen{B:Nat}{w:World}(x:Ext B w)(b o:Nat)(h:b<B):x.val.frozen? ⟨b,o,none⟩=w.frozen? ⟨b,o,none⟩:=x.ok.frozen (p:=⟨b,o,none⟩) h
end Go
namespace Go
open Go.RowKit
section
variable {P:Program}
theorem YP(g off j:Nat):(⟨g,off,none⟩:Addr).add j=⟨g,off+j,none⟩:=by
 unfold Addr.add
 split
 ·subst_vars;simp
 ·rfl
theorem apM(w:World)(g off:Nat)(ty:TypeId)(cs:Array Value)(d:TypeDesc)(hc:∀j v,cs[j]? =some v->w.cell? ⟨g,off+j,none⟩=some v)
 (hu:P.underlying ty=some d) (hd:(match d with| .struct _| .array _ _=>true|_=>false)=true) (hi:(P.info? ty).map (·.size)=some cs.size):
 (loadVar ty ⟨g,off,none⟩).run P w= .ok (.agg cs) w:=by
 have hl:(loadCells ⟨g,off,none⟩ cs.toList.length).run P w= .ok cs.toList.toArray w:=
  run_loadCells_list (P:=P) w ⟨g,off,none⟩ cs.toList (fun j v hv=>by
   rw[YP]
   exact hc j v (by simpa using hv))
 cases hq:P.info? ty with
 |none=>simp[hq]at hi
 |some i=>
  have hs:i.size=cs.size:=by simpa [hq]using hi
  have ajg:(isAgg ty).run P w= .ok true w:=by
   unfold isAgg
   rw[Sem.run_bind,run_underlying hu w]
   cases d<;>simp_all
  simp only[tO,Array.toArray_toList]at hl
  simp[loadVar,Sem.run_bind,ajg,sizeOf,typeInfo,hq,hs,hl]
end
section
variable {P:Program}
end
/-! words as natural numbers-/
theorem GZ(n a:Nat)(h:a<2^n):(BitVec.ofInt n (a:Int)).toNat=a:=by
 rw[BitVec.ofInt_natCast,BitVec.toNat_ofNat];exact aO h
theorem CG(k:IntKind)(hk:k.signed=false)(a:Nat):k.wrap (a:Int)=((a%2^k.bits:Nat):Int):=by
 simp[IntKind.wrap,hk]
theorem Wc(k:IntKind)(hk:k.signed=false)(a b:Nat)(ha:a<2^k.bits)(hb:b<2^k.bits):
 bits .and k a b=((a&&&b:Nat):Int)/\bits .or k a b=((a|||b:Nat):Int)/\bits .xor k a b=((a^^^b:Nat):Int):=by
 simp only[bits]
 refine⟨?_,?_,?_⟩
 ·rw[BitVec.toNat_and,GZ _ _ ha,GZ _ _ hb,CG k hk,aO (Yr _ hb)]
 ·rw[BitVec.toNat_or,GZ _ _ ha,GZ _ _ hb,CG k hk,aO (Bh ha hb)]
 ·rw[BitVec.toNat_xor,GZ _ _ ha,GZ _ _ hb,CG k hk,aO (si ha hb)]
theorem x8{w:World}{g:Nat}{o:Obj}(h:w.heap[g]? =some o):g<w.heap.size:=(xK.1 h).1
section
variable {P:Program}{ops:Array Oper}{C:World->Prop}
end
section
variable {P:Program}
end
section
variable {P:Program}
theorem aat{body:Nat->Option Bool×Unit->Sem (ForInStep (Option Bool×Unit))}{w:World}{c:Nat->Bool}:∀ (l:List Nat),
 (∀i∈l,(body i (none,())).run P w= .ok (if c i then .yield (none,())else .done (some false,())) w)->(forIn l (none,()) body).run P w= .ok (if l.all c then(none,())else(some false,())) w
 | [],_=>rfl
 |i::l,h=>by
  have h1:=h i (.head _)
  have ih:=aat l (fun j hj=>h j (.tail _ hj))
  rw[List.forIn_cons,Sem.run_bind,h1,Result.andThen_ok]
  by_cases hc:c i=true
  ·simp only[hc,xk,kL,Yc];exact ih
  ·simp[hc]
theorem aiy{w:World}{d:Nat}{t e:TypeId}{n m:Nat}{xs ys:Array Value}{c:Nat->Bool}(ht:P.underlying t=some (.array n e))(hs:(sizeOf e).run P w= .ok m w)
 (h:∀i,i<n->∃a b,(part e xs (i*m)).run P w= .ok a w/\(part e ys (i*m)).run P w= .ok b w/\(Op.equalIn d e a b).run P w= .ok (c i) w):
 (Op.equalIn (d+1) t (.agg xs) (.agg ys)).run P w= .ok ((List.range n).all c) w:=by
 unfold Op.equalIn
 simp only[Sem.run_bind,run_underlying ht,Result.andThen_ok,hs,Std.Legacy.Range.forIn_eq_forIn_range',Std.Legacy.Range.size]
 rw[show(n-0+1-1)/1=n by simp,<-List.range_eq_range',aat (c:=c) (List.range n) (fun i hi=>by
  obtain⟨a,b,h1,h2,h3⟩:=h i (tQ.1 hi)
  simp only[Sem.run_bind,h1,h2,h3,Result.andThen_ok]
  cases c i<;>rfl)]
 simp only[Result.andThen_ok]
 cases(List.range n).all c<;>rfl
theorem ac7{w:World}{e:TypeId}{xs:Array Value}{i:Nat}{v:Value}(hi:(isAgg e).run P w= .ok false w)(hv:xs[i]? =some v):(part e xs i).run P w= .ok v w:=by
 unfold part
 simp[Sem.run_bind,hi,hv]
end
end Go
namespace Go.Vg
inductive SV where
 |bool (b:Bool)
 |int (k:IntKind) (n:Int)
 |str (s:ByteArray)
 |ptr (l o:Nat)
 |gM (l o:Nat)
 |cR
 |slice (l o n c:Nat)
 |au
 |fn (f:Fn) (a b:List SV)
 |aH
 |agg (cs:List SV)
 |aR (vs:List SV)
 |raw (v:Value)
 deriving Inhabited
mutual
def den(β:Nat->Nat):SV->Value
 | .bool b=> .bool b
 | .int k n=> .int k n
 | .str s=> .string s
 | .ptr l o=> .pointer (some ⟨β l,o,none⟩)
 | .gM l o=> .pointer (some ⟨β l,o,none⟩)
 | .cR=> .pointer none
 | .slice l o n c=> .slice (some ⟨β l,o,none⟩) n c
 | .au=> .slice none 0 0
 | .fn f a b=> .func f (aM β a).toArray (aM β b).toArray
 | .aH=> .nilFunc
 | .agg cs=> .agg (aM β cs).toArray
 | .aR vs=> .tuple (aM β vs).toArray
 | .raw v=>v
def aM(β:Nat->Nat):List SV->List Value
 | []=> []
 |v::vs=>den β v::aM β vs
end
theorem cO(β:Nat->Nat):∀l,aM β l=l.map (den β)
 | []=>rfl
 |v::vs=>by rw[aM,cO β vs,ve]
mutual
/-- its labels are among p-/
def bd(p:Nat->Prop):SV->Prop
 | .ptr l _| .gM l _| .slice l _ _ _=>p l
 | .fn _ a b=>ay p a/\ay p b
 | .agg cs=>ay p cs
 | .aR vs=>ay p vs
 |_=>True
def ay(p:Nat->Prop):List SV->Prop
 | []=>True
 |v::vs=>bd p v/\ay p vs
end
theorem gI(p:Nat->Prop):∀l,ay p l↔ ∀v∈l,bd p v
 | []=>by simp[ay]
 |v::vs=>by simp[ay,gI p vs]
mutual
theorem zz{p q:Nat->Prop}(h:∀l,p l->q l):∀v,bd p v->bd q v
 | .bool _,_| .int _ _,_| .str _,_| .cR,_| .au,_| .aH,_| .raw _,_=>by simp[bd]
 | .ptr _ _,hv| .gM _ _,hv| .slice _ _ _ _,hv=>h _ (by simpa [bd]using hv)
 | .fn _ a b,hv=>by
   simp only[bd]at hv⊢
   exact⟨pg h a hv.1,pg h b hv.2⟩
 | .agg cs,hv=>by simp only[bd]at hv⊢;exact pg h cs hv
 | .aR vs,hv=>by simp only[bd]at hv⊢;exact pg h vs hv
theorem pg{p q:Nat->Prop}(h:∀l,p l->q l):∀l,ay p l->ay q l
 | [],_=>trivial
 |v::vs,hl=>by
  simp only[ay]at hl⊢
  exact⟨zz h v hl.1,pg h vs hl.2⟩
end
mutual
theorem ue{β γ:Nat->Nat}{p:Nat->Prop}(h:∀l,p l->γ l=β l):∀v,bd p v->den γ v=den β v
 | .bool _,_| .int _ _,_| .str _,_| .cR,_| .au,_| .aH,_| .raw _,_=>by simp[den]
 | .ptr _ _,hv| .gM _ _,hv| .slice _ _ _ _,hv=>by simp only[den,h _ (show p _ by simpa [bd]using hv)]
 | .fn _ a b,hv=>by
   simp only[bd]at hv
   simp only[den,nR h a hv.1,nR h b hv.2]
 | .agg cs,hv=>by simp only[bd]at hv;simp only[den,nR h cs hv]
 | .aR vs,hv=>by simp only[bd]at hv;simp only[den,nR h vs hv]
theorem nR{β γ:Nat->Nat}{p:Nat->Prop}(h:∀l,p l->γ l=β l):∀l,ay p l->aM γ l=aM β l
 | [],_=>rfl
 |v::vs,hl=>by
  simp only[ay]at hl
  simp only[aM,ue h v hl.1,nR h vs hl.2]
end
abbrev FF:=List (Nat×SV)
structure aC where
 l:Nat
 cs:List SV
 t:TypeId
abbrev LL:=List aC
def look:FF->Nat->Option SV
 | [],_=>none
 |(t,v)::F,k=>if t=k then some v else look F k
def put:FF->Nat->SV->FF
 | [],k,v=> [(k,v)]
 |(t,u)::F,k,v=>if t=k then(t,v)::F else(t,u)::put F k v
theorem akN(F:FF)(k:Nat)(v:SV)(t:Nat):look (put F k v) t=if k=t then some v else look F t:=by
 induction F with
 |nil=>simp[put,look]
 |cons p F ih=>
  obtain⟨s,u⟩:=p
  simp only[put]
  by_cases h:s=k
  ·subst h
   simp only[aj,look]
   by_cases h2:s=t<;>simp[h2]
  ·rw[af h]
   simp only[look,ih]
   by_cases h2:s=t
   ·subst h2;simp[oE h]
   ·simp[h2]
def cH(F:FF)(d:Option Nat)(v:SV):FF:=
 match d with
 |some d=>put F d v
 |none=>F
def find:LL->Nat->Option aC
 | [],_=>none
 |b::L,k=>if b.l=k then some b else find L k
def me:LL->Nat->List SV->LL
 | [],_,_=> []
 |b::L,k,cs=>if b.l=k then⟨b.l,cs,b.t⟩::L else b::me L k cs
theorem aak{L:LL}{k:Nat}{b:aC}(h:find L k=some b):b.l=k:=by
 induction L with
 |nil=>simp[find]at h
 |cons c L ih=>
  simp only[find]at h
  by_cases hc:c.l=k
  ·rw[aj hc]at h
   obtain rfl:=ef h
   exact hc
  ·rw[af hc]at h
   exact ih h
theorem fap(L M:LL)(k:Nat):find (L++M) k=match find L k with
 |some b=>some b
 |none=>find M k:=by
 induction L with
 |nil=>rfl
 |cons c L ih=>
  simp only[du,find]
  by_cases hc:c.l=k
  ·rw[aj hc,aj hc]
  ·rw[af hc,af hc];exact ih
theorem wu(L:LL)(k:Nat)(cs:List SV)(l:Nat):find (me L k cs) l=if l=k then(find L k).map fun b=>⟨b.l,cs,b.t⟩else find L l:=by
 induction L with
 |nil=>by_cases h:l=k<;>simp[me,find,h]
 |cons c L ih=>
  simp only[me,find]
  by_cases hc:c.l=k
  ·rw[aj hc,aj hc]
   simp only[find]
   by_cases hl:l=k
   ·subst hl;simp[hc]
   ·rw[af (by rw[hc];exact fun e=>hl e.symm),af hl,af (by rw[hc];exact fun e=>hl e.symm)]
  ·rw[af hc,af hc]
   simp only[find,ih]
   by_cases hl:l=k
   ·subst hl;rw[af hc,aj rfl,aj rfl]
   ·rw[af hl,af hl]
theorem nT{L:LL}{k:Nat}{b:aC}(h:find L k=some b):b∈L/\b.l=k:=by
 induction L with
 |nil=>simp[find]at h
 |cons c L ih=>
  simp only[find]at h
  by_cases hc:c.l=k
  ·rw[aj hc]at h
   obtain rfl:=ef h
   exact⟨kd,hc⟩
  ·rw[af hc]at h
   exact⟨lj _ (ih h).1,(ih h).2⟩
structure Ar where
 bin:BinOp->IntKind->Int->Int->Int
 sh:BinOp->IntKind->Int->Int->Int
 cmp:BinOp->Int->Int->Bool
 mS:UnOp->IntKind->Int->Int
 aX:IntKind->Int->Int
 ix:Int->Nat->Option Nat
 nn:Int->Bool
 nz:Int->Bool
 fQ:Bool->Bool
 beq:Bool->Bool->Bool
 iC:ByteArray->ByteArray->Option ByteArray
 gH:BinOp->ByteArray->ByteArray->Bool
 fK:ByteArray->Int
 lg:ByteArray->Int->Option Int
 nat:Nat->Int
 off:Nat->Nat->Nat->Nat
 get:List SV->Nat->Option SV
 set:List SV->Nat->SV->List SV
 sub:List SV->Nat->Nat->Option (List SV)
 eU:List SV->Nat->List SV->Option (List SV)
def H2(op:BinOp)(x y:Int):Bool:=
 match op with
 | .eql=>x==y
 | .neq=>x !=y
 | .lss=>x<y
 | .leq=>x<=y
 | .gtr=>x>y
 |_=>x≥y
def Cz(op:BinOp)(x y:ByteArray):Bool:=
 match op with
 | .eql=>x.toList==y.toList
 | .neq=> !(x.toList==y.toList)
 | .lss=>Op.bytesLess x.toList y.toList
 | .leq=>Op.bytesLess x.toList y.toList||x.toList==y.toList
 | .gtr=> !(Op.bytesLess x.toList y.toList||x.toList==y.toList)
 |_=> !(Op.bytesLess x.toList y.toList)
def jH(op:BinOp)(k:IntKind)(x y:Int):Int:=
 match op with
 | .add=>k.wrap (x+y)
 | .sub=>k.wrap (x-y)
 | .mul=>k.wrap (x*y)
 | .quo=>k.wrap (x.tdiv y)
 | .rem=>x.tmod y
 | .and=>k.wrap (BitVec.ofInt k.bits x&&&BitVec.ofInt k.bits y).toNat
 | .or=>k.wrap (BitVec.ofInt k.bits x|||BitVec.ofInt k.bits y).toNat
 | .xor=>k.wrap (BitVec.ofInt k.bits x^^^BitVec.ofInt k.bits y).toNat
 |_=>k.wrap (BitVec.ofInt k.bits x&&& ~~~BitVec.ofInt k.bits y).toNat
def splice(cs:List SV)(o:Nat)(vs:List SV):List SV:=cs.take o++vs++cs.drop (o+vs.length)
def Ar.real:Ar where
 bin:=jH
 sh op k x y:=match op with
  | .shl=>k.wrap (x*2^(min y.toNat k.bits))
  |_=>x.fdiv (2^(min y.toNat k.bits))
 cmp:=H2
 mS op k n:=match op with
  | .neg=>k.wrap (0-n)
  |_=>jH .xor k (if k.signed then -1 else k.max) n
 aX k n:=k.wrap n
 ix i n:=if 0<=i/\i<n then some i.toNat else none
 nn i:=decide (0<=i)
 nz i:=i !=0
 fQ b:= !b
 beq a b:=a==b
 iC a b:=if((a.size+b.size:Nat):Int)>IntKind.i64.max then none else some (a++b)
 gH:=Cz
 fK s:=s.size
 lg s i:=if 0<=i then(s[i.toNat]?).map fun b=>(b.toNat:Int)else none
 nat n:=n
 off o j s:=o+j*s
 get cs o:=cs[o]?
 set cs o v:=cs.set o v
 sub cs o n:=if o+n<=cs.length then some ((cs.drop o).take n)else none
 eU cs o vs:=if o+vs.length<=cs.length then some (splice cs o vs)else none
inductive Fo where
 |i (k:IntKind)|b|s|p|f|o
 |sl (e es:Nat)
 |ar (n e es:Nat) (ag:Bool)
 |st (fs:List (Nat×Nat×Bool))
structure Ty where
 d:Fo
 sz:Nat
 z:List SV
def Fo.agg:Fo->Bool
 | .ar .. | .st _=>true
 |_=>false
def ty:List (Nat×Ty)->Nat->Option Ty
 | [],_=>none
 |(t,i)::T,k=>if t=k then some i else ty T k
def Vi:Value->Option SV
 | .bool b=>some (.bool b)
 | .int k n=>some (.int k n)
 | .string s=>some (.str s)
 | .pointer none=>some .cR
 | .slice none 0 0=>some .au
 | .nilFunc=>some .aH
 |_=>none
def ev(F:Nat->Option SV):Operand->Option SV
 | .tmp t=>F t
 | .const v=>Vi v
 | .func f=>some (.fn (.func f) [] [])
 | .global _=>none
def lQ(F:Nat->Option SV):List Operand->Option (List SV)
 | []=>some []
 |x::xs=>match ev F x with
  |some v=>match lQ F xs with
   |some vs=>some (v::vs)
   |none=>none
  |none=>none
def cellsOf:SV->List SV
 | .agg cs=>cs
 |v=> [v]
def one:SV->Bool
 | .agg _| .aR _| .raw _=>false
 |_=>true
def nH:List SV->Bool
 | []=>true
 |v::vs=>match one v with
  |true=>nH vs
  |false=>false
def GJ:BinOp->Bool
 | .eql| .neq| .lss| .leq| .gtr| .geq=>true
 |_=>false
def OH:BinOp->Bool->Option Bool
 | .eql,b=>some b
 | .neq,b=>some (!b)
 |_,_=>none
def place(i:Ty)(n:Nat):Option (Nat×Nat):=
 match i.d with
 | .st fs=>match fs[n]? with
   |some (o,s,_)=>some (o,s)
   |none=>none
 | .ar _ _ es _=>some (n*es,es)
 | .sl _ es=>some (n*es,es)
 |_=>none
def yY:SV->Bool
 | .raw _=>false
 |_=>true
def nU(pl:Nat->Option (Nat×Nat))(F:Nat->Option SV):List SV->List (Nat×Operand)->Option (List SV)
 |cs,[]=>some cs
 |cs,(i,x)::rest=>match ev F x with
  |some v=>match yY v with
   |true=>match pl i with
    |some (o,s)=>match Nat.beq (cellsOf v).length s with
     |true=>match Nat.ble (o+s) cs.length with
      |true=>nU pl F (splice cs o (cellsOf v)) rest
      |false=>none
     |false=>none
    |none=>none
   |false=>none
  |none=>none
end Go.Vg
namespace Go.Vg
structure zw(W0 W:World)(M:Nat->Prop):Prop where
 os:W.os=W0.os
 tape:W.tape=W0.tape
 output:W.output=W0.output
 size:W0.heap.size<=W.heap.size
 block:∀k,k<W0.heap.size->¬M k->W.heap[k]? =W0.heap[k]?
structure G where
 W0:World
 kt:Nat->Nat
 n0:Nat
 N:Nat
 ms:List Nat
def G.mod(g:G)(k:Nat):Prop:=∃l∈g.ms,g.kt l=k
def eo:List Nat->Nat->Bool
 | [],_=>false
 |m::ms,l=>if m=l then true else eo ms l
def own(n0:Nat)(ms:List Nat)(l:Nat):Bool:=
 match Nat.ble n0 l with
 |true=>true
 |false=>eo ms l
def rO(m:Nat×Nat)(n:Nat):Prop:=m.2<=m.1\/n<=m.1
structure Mem(g:G)(β:Nat->Nat)(L:Nat->Option aC)(p:Nat->Prop)(W:World):Prop where
 low:∀l,l<g.n0->p l
 fC:∀l,l<g.n0->β l=g.kt l
 new:∀l b,L l=some b->g.n0<=l->g.W0.heap.size<=β l\/g.mod (β l)
 inj:∀l b l' b',L l=some b->L l'=some b'->own g.n0 g.ms l=true->β l=β l'->l=l'
 cell:∀l b,L l=some b->∃m,(own g.n0 g.ms l=true->rO m b.cs.length)/\W.heap[β l]? =some (.cells (aM β b.cs).toArray b.t m)
 bL:∀l b,L l=some b->p l/\ay p b.cs
 up:zw g.W0 W g.mod
structure eX(g:G)(β:Nat->Nat)(F:Nat->Option SV)(p:Nat->Prop)(a:Act):Prop where
 size:a.tmps.size=g.N
 defs:a.defers=[]
 bF:∀t v,F t=some v->bd p v
 fr:∀t v,F t=some v->a.tmps[t]? =some (den β v)
def St(g:G)(F:FF)(L:LL)(n:Nat)(a:Act)(W:World):Prop:=∃β,Mem g β (find L) (fun l=>l<n) W/\eX g β (look F) (fun l=>l<n) a
structure Step(g:G)(P:Program)(o:Oper)(K:FF->LL->Nat->Prop)(F:FF)(L:LL)(n:Nat):Prop where
 run:∀a W,St g F L n a W->∀ (next:Act->World->Prop) (Q:Exit->Act->World->Prop),(∀F' L' n' a' W',K F' L' n'->St g F' L' n' a' W'->next a' W')->o.wp P a W next Q
def Ha(cs:List SV)(o n:Nat):Option (List SV):=
 match Nat.ble (o+n) cs.length with
 |true=>some ((cs.drop o).take n)
 |false=>none
def V6(cs:List SV)(o:Nat)(vs:List SV):Option (List SV):=
 match Nat.ble (o+vs.length) cs.length with
 |true=>some (splice cs o vs)
 |false=>none
def CF(ag:Bool)(x:Option (List SV)):Option SV:=
 match x with
 |some cs=>match ag with
  |true=>some (.agg cs)
  |false=>match cs with
   | [v]=>some v
   |_=>none
 |none=>none
def O3(ag:Bool)(cs:List SV)(o s:Nat):Option SV:=
 match ag with
 |true=>CF true (Ha cs o s)
 |false=>cs[o]?
def Vz(A:Ar)(ag:Bool)(cs:List SV)(o s:Nat):Option SV:=
 match ag with
 |true=>CF true (A.sub cs o s)
 |false=>A.get cs o
def rd(A:Ar)(L:Nat->Option aC)(i:Ty):SV->Option SV
 | .ptr l o=>match L l with
   |some b=>match i.d.agg with
    |true=>CF true (Ha b.cs o i.sz)
    |false=>b.cs[o]?
   |none=>none
 | .gM l o=>match L l with
   |some b=>match i.d.agg with
    |true=>CF true (A.sub b.cs o i.sz)
    |false=>A.get b.cs o
   |none=>none
 |_=>none
def wr(A:Ar)(L:Nat->Option aC)(vs:List SV):SV->Option (Nat×List SV)
 | .ptr l o=>match L l with
   |some b=>match V6 b.cs o vs with
    |some cs=>some (l,cs)
    |none=>none
   |none=>none
 | .gM l o=>match L l with
   |some b=>match A.eU b.cs o vs with
    |some cs=>some (l,cs)
    |none=>none
   |none=>none
 |_=>none
def K_:IntKind->IntKind->Bool
 | .i8,.i8| .i16,.i16| .i32,.i32| .i64,.i64| .u8,.u8| .u16,.u16| .u32,.u32| .u64,.u64=>true
 |_,_=>false
def KW(A:Ar)(y:Operand)(b:Int):Bool:=
 match y with
 | .const (.int _ (.ofNat _))=>true
 |_=>A.nn b
def KV(A:Ar)(y:Operand)(b:Int):Bool:=
 match y with
 | .const (.int _ (.ofNat (_+1)))=>true
 |_=>A.nz b
def Bj(A:Ar)(op:BinOp)(yo:Operand)(x y:SV):Option SV:=
 match x,y with
 | .int k a,.int k' b=>
   match op with
   | .shl| .shr=>match KW A yo b with
     |true=>some (.int k (A.sh op k a b))
     |false=>none
   |_=>match K_ k k' with
    |true=>match GJ op with
     |true=>some (.bool (A.cmp op a b))
     |false=>match op with
      | .quo| .rem=>match KV A yo b with
        |true=>some (.int k (A.bin op k a b))
        |false=>none
      |_=>some (.int k (A.bin op k a b))
    |false=>none
 | .str a,.str b=>match GJ op with
   |true=>some (.bool (A.gH op a b))
   |false=>match op with
    | .add=>match A.iC a b with
      |some s=>some (.str s)
      |none=>none
    |_=>none
 |_,_=>none
def Qq(A:Ar)(d:Fo)(op:BinOp)(x y:SV):Option SV:=
 match d,x,y with
 | .b,.bool a,.bool b=>match op with
   | .eql=>some (.bool (A.beq a b))
   | .neq=>some (.bool (A.fQ (A.beq a b)))
   |_=>none
 | .p,.cR,.cR| .sl _ _,.au,.au| .f,.aH,.aH=>match OH op true with
   |some b=>some (.bool b)
   |none=>none
 | .p,.ptr _ _,.cR| .p,.cR,.ptr _ _| .p,.gM _ _,.cR| .p,.cR,.gM _ _| .sl _ _,.slice _ _ _ _,.au| .sl _ _,.au,.slice _ _ _ _| .f,.fn _ _ _,.aH| .f,.aH,.fn _ _ _=>match OH op false with
   |some b=>some (.bool b)
   |none=>none
 |_,_,_=>none
def Wd(A:Ar)(op:UnOp)(x:SV):Option SV:=
 match op,x with
 | .neg,.int k n=>some (.int k (A.mS .neg k n))
 | .xor,.int k n=>some (.int k (A.mS .xor k n))
 | .not,.bool b=>some (.bool (A.fQ b))
 |_,_=>none
inductive LO where
 |st (j:Nat)
 |dy (j:Nat)
 |no
def Kz(A:Ar)(v:SV)(len:Nat):LO:=
 match v with
 | .int _ i=>match A.ix i len with
   |some j=> .dy j
   |none=> .no
 |_=> .no
def AP(A:Ar)(x:Operand)(v:SV)(len:Nat):LO:=
 match x with
 | .const (.int _ (.ofNat j))=>match Nat.blt j len with
   |true=> .st j
   |false=> .no
 |_=>Kz A v len
def Uu(A:Ar)(T:Nat->Option Ty)(t:Nat)(x:SV)(iop:Operand)(iv:SV):Option SV:=
 match T t with
 |some i=>match i.d,x with
  | .ar len _ es _,.ptr l o=>match AP A iop iv len with
    | .st j=>some (.ptr l (o+j*es))
    | .dy j=>some (.gM l (A.off o j es))
    | .no=>none
  | .ar len _ es _,.gM l o=>match AP A iop iv len with
    | .st j=>some (.gM l (A.off o j es))
    | .dy j=>some (.gM l (A.off o j es))
    | .no=>none
  | .sl _ es,.slice l o len _=>match iv with
    | .int _ q=>match A.ix q len with
      |some j=>some (.gM l (A.off o j es))
      |none=>none
    |_=>none
  |_,_=>none
 |none=>none
def Uv(A:Ar)(T:Nat->Option Ty)(t:Nat)(cs:List SV)(ix:Operand)(i:SV):Option SV:=
 match T t with
 |some q=>match q.d with
  | .ar len _ es ag=>match AP A ix i len with
    | .st j=>O3 ag cs (j*es) es
    | .dy j=>Vz A ag cs (A.off 0 j es) es
    | .no=>none
  |_=>none
 |none=>none
def native(T:Nat->Option Ty)(F:Nat->Option SV):Op->Bool
 | .move _| .assign _| .pick _ _ _| .load _ _| .nilCheck _| .unOp _ _ _| .makeFunc _ _ _| .fieldAddr _ _ _| .field _ _ _| .indexAddr _ _ _| .index _ _ _| .extract _ _| .build _ _=>true
 | .binOp _ _ x y _=>match ev F x,ev F y with
   |some (.agg _),_|_,some (.agg _)|some (.raw _),_|_,some (.raw _)=>false
   |some (.ptr _ _),some (.ptr _ _)=>false
   |_,_=>true
 | .convert _ d _=>match T d with
   |some i=>match i.d with
    | .i _=>true
    |_=>false
   |none=>false
 | .call c=>match c.callee with
   | .builtin b=>match b with
     | .len=>true
     |_=>false
   |_=>false
 |_=>false
def gd(A:Ar)(T:Nat->Option Ty)(F:Nat->Option SV)(L:Nat->Option aC):Op->Option SV
 | .move x| .assign x=>ev F x
 | .pick c a b=>match ev F c with
   |some (.bool t)=>match t with
    |true=>ev F a
    |false=>ev F b
   |_=>none
 | .load t x=>match ev F x with
   |some v=>match T t with
    |some i=>rd A L i v
    |none=>none
   |none=>none
 | .nilCheck x=>match ev F x with
   |some (.ptr l o)=>some (.ptr l o)
   |some (.gM l o)=>some (.gM l o)
   |some (.fn (.func f) a b)=>some (.fn (.func f) a b)
   |_=>none
 | .binOp op xt x y _=>match ev F x,ev F y with
   |some u,some v=>match u,v with
    | .int k a,.int k' b=>Bj A op y (.int k a) (.int k' b)
    | .str a,.str b=>Bj A op y (.str a) (.str b)
    |u,v=>match T xt with
     |some i=>Qq A i.d op u v
     |none=>none
   |_,_=>none
 | .unOp op _ x=>match ev F x with
   |some v=>Wd A op v
   |none=>none
 | .convert s d x=>match ev F x,T s,T d with
   |some (.int _ n),some _,some i=>match i.d with
    | .i k=>some (.int k (A.aX k n))
    |_=>none
   |_,_,_=>none
 | .makeFunc f a c=>match lQ F a.toList,lQ F c.toList with
   |some a,some c=>some (.fn f a c)
   |_,_=>none
 | .fieldAddr s x f=>match ev F x,T s with
   |some v,some i=>match i.d with
    | .st fs=>match fs[f]? with
      |some (o',s',_)=>match s' with
       |0=>none
       |_+1=>match v with
        | .ptr l o=>some (.ptr l (o+o'))
        | .gM l o=>some (.gM l (A.off o o' 1))
        |_=>none
      |none=>none
    |_=>none
   |_,_=>none
 | .field t x f=>match ev F x,T t with
   |some (.agg cs),some i=>match i.d with
    | .st fs=>match fs[f]? with
      |some (o,s,ag)=>O3 ag cs o s
      |none=>none
    |_=>none
   |_,_=>none
 | .indexAddr t x ix=>match ev F x,ev F ix with
   |some v,some i=>Uu A T t v ix i
   |_,_=>none
 | .index t x ix=>match ev F x,ev F ix with
   |some (.str s),some (.int _ i)=>match T t with
    |some q=>match q.d with
     | .s=>match A.lg s i with
       |some b=>some (.int .u8 b)
       |none=>none
     |_=>none
    |none=>none
   |some (.agg cs),some i=>Uv A T t cs ix i
   |_,_=>none
 | .extract x i=>match ev F x with
   |some (.aR vs)=>vs[i]?
   |_=>none
 | .build t parts=>match T t with
   |some i=>match i.d.agg with
    |true=>match nU (place i) F i.z parts.toList with
     |some cs=>some (.agg cs)
     |none=>none
    |false=>none
   |none=>none
 | .call c=>match c.args.toList,c.argTypes.toList with
   | [x],[t]=>match ev F x,T t with
     |some u,some i=>match i.d,u with
      | .s,.str s=>some (.int .i64 (A.fK s))
      | .sl _ _,.slice _ _ m _=>some (.int .i64 (A.nat m))
      | .sl _ _,.au=>some (.int .i64 0)
      |_,_=>none
     |_,_=>none
   |_,_=>none
 |_=>none
def rep:Nat->List SV->List SV
 |0,_=> []
 |m+1,z=>z++rep m z
section
variable (T:Nat->Option Ty)(A:Ar)(P:Program)(g:G)(n0:Nat)(ms:List Nat)
def ze(S:Prop)(Kv:FF->Prop)(Kn:FF->aC->Prop)(Kw:FF->Nat->List SV->Prop)(o:Oper)(F:FF)(L:LL)(n:Nat):Prop:=
 match o.op with
 | .alloc e=>match T e with
   |some i=>Kn (cH F o.dst (.ptr n 0)) ⟨n,i.z,e⟩
   |none=>False
 | .box e x=>match ev (look F) x with
   |some v=>match yY v with
    |true=>Kn (cH F o.dst (.ptr n 0)) ⟨n,cellsOf v,e⟩
    |false=>False
   |none=>False
 | .buildSlice t m parts=>match T t with
   |some i=>match i.d with
    | .sl e _=>match T e with
      |some j=>match Nat.ble (m*j.sz) 16777216 with
       |true=>match Nat.ble 1 (m*j.sz)with
        |true=>match nU (place i) (look F) (rep m j.z) parts.toList with
         |some cs=>Kn (cH F o.dst (.slice n 0 m m)) ⟨n,cs,e⟩
         |none=>False
        |false=>S
       |false=>False
      |none=>False
    |_=>False
   |none=>False
 | .store t x v=>match ev (look F) x,ev (look F) v,T t with
   |some p,some u,some i=>match Nat.beq (cellsOf u).length i.sz with
    |true=>match nH (cellsOf u)with
     |true=>match wr A (find L) (cellsOf u) p with
      |some (l,cs)=>match own n0 ms l with
       |true=>Kw (cH F o.dst (.raw undef)) l cs
       |false=>False
      |none=>False
     |false=>False
    |false=>False
   |_,_,_=>False
 |op=>match native T (look F) op with
  |true=>match gd A T (look F) (find L) op with
   |some v=>Kv (cH F o.dst v)
   |none=>False
  |false=>S
def Ll(o:Oper)(K:FF->LL->Nat->Prop)(F:FF)(L:LL)(n:Nat):Prop:=
 ze T A n0 ms (Step g P o K F L n) (fun F'=>K F' L n) (fun F' b=>K F' (L++[b]) (n+1)) (fun F' l cs=>K F' (me L l cs) n) o F L n
def Vd:Value->Bool
 | .bool _=>false
 |_=>true
def u7(all:List Oper):List Oper->(FF->LL->Nat->Prop)->FF->LL->Nat->Prop
 | [],K,F,L,n=>K F L n
 |o::rest,K,F,L,n=>
  match o.guard with
  |none=>Ll T A P g n0 ms o (u7 all rest K) F L n
  |some (j,b)=>match all[j]? with
   |some oj=>match oj.dst with
    |some d=>match look F d with
     |some (.bool x)=>match x with
      |true=>match b with
       |true=>Ll T A P g n0 ms o (u7 all rest K) F L n
       |false=>u7 all rest K (cH F o.dst (.raw undef)) L n
      |false=>match b with
       |true=>u7 all rest K (cH F o.dst (.raw undef)) L n
       |false=>Ll T A P g n0 ms o (u7 all rest K) F L n
     |some (.raw u)=>match Vd u with
      |true=>u7 all rest K (cH F o.dst (.raw undef)) L n
      |false=>False
     |_=>False
    |none=>False
   |none=>False
end
end Go.Vg
namespace Go.Vg
open Go.RowKit
def lJ(P:Program)(t:Nat):Option Nat:=(P.info? t).map (·.size)
def zy(P:Program)(t:Nat):Option Bool:=
 match P.underlying t with
 |some (.struct _)|some (.array _ _)=>some true
 |some _=>some false
 |none=>none
def X6:Value->SV->Bool
 | .int k n,.int k' m=>k==k'&&n==m
 | .bool a,.bool b=>a==b
 | .string a,.str b=>a.size==0&&b.size==0
 | .pointer none,.cR=>true
 | .slice none 0 0,.au=>true
 | .nilFunc,.aH=>true
 | .nilIface,.raw .nilIface=>true
 |_,_=>false
def Hl:List Value->List SV->Bool
 | [],[]=>true
 |v::vs,s::ss=>X6 v s&&Hl vs ss
 |_,_=>false
def wv(P:Program):List Field->List (Nat×Nat×Bool)->Bool
 | [],[]=>true
 |f::fs,(o,s,ag)::r=>f.offset==o&&lJ P f.type==some s&&zy P f.type==some ag&&wv P fs r
 |_,_=>false
def tD(P:Program)(t:Nat)(i:Ty):Bool:=
 lJ P t==some i.sz&&(match(P.info? t).bind (·.zero)with|some v=>Hl v.cells.toList i.z&&i.z.length==i.sz|none=>false)&&
 match i.d,P.underlying t with
 | .i k,some (.int k')=>k==k'
 | .b,some .bool=>true
 | .s,some .string=>true
 | .p,some (.pointer _)=>true
 | .f,some (.func _ _ _)=>true
 | .o,some d=>(match d with| .struct _| .array _ _=>false|_=>true)
 | .sl e es,some (.slice e')=>e==e'&&lJ P e==some es
 | .ar n e es ag,some (.array n' e')=>n==n'&&e==e'&&lJ P e==some es&&zy P e==some ag
 | .st fs,some (.struct fl)=>wv P fl.toList fs
 |_,_=>false
def cI(P:Program)(T:Nat->Option Ty):Prop:=∀t i,T t=some i->tD P t i=true
theorem cI.of{P:Program}{T:List (Nat×Ty)}(h:(T.all fun p=>tD P p.1 p.2)=true):cI P (fun k=>ty T k):=by
 intro t i hi
 induction T with
 |nil=>simp[ty]at hi
 |cons p T ih=>
  obtain⟨s,j⟩:=p
  simp only[kL,dq]at h
  simp only[ty]at hi
  by_cases hs:s=t
  ·rw[aj hs]at hi
   obtain rfl:=ef hi
   subst hs
   exact h.1
  ·rw[af hs]at hi
   exact ih h.2 hi
def HR:TypeDesc->Bool
 | .struct _| .array _ _=>true
 |_=>false
theorem arn{v:Value}{s:SV}(h:X6 v s=true)(β:Nat->Nat)(p:Nat->Prop):v=den β s/\bd p s/\v.oneCell'=true:=by
 unfold X6 at h
 split at h<;>simp_all [den,bd,Value.oneCell']
theorem aeS{vs:List Value}{ss:List SV}(β:Nat->Nat)(p:Nat->Prop):Hl vs ss=true->vs=aM β ss/\ay p ss/\∀v∈vs,v.oneCell'=true:=by
 induction vs generalizing ss with
 |nil=>cases ss<;>simp[Hl,aM,ay]
 |cons v vs ih=>
  cases ss with
  |nil=>simp[Hl]
  |cons s ss=>
   simp only[Hl,dq]
   rintro⟨h1,h2⟩
   obtain⟨a1,a2,a3⟩:=arn h1 β p
   obtain⟨b1,b2,b3⟩:=ih h2
   refine⟨by rw[aM,<-a1,<-b1],⟨a2,b2⟩,?_⟩
   intro x hx
   rcases List.mem_cons.1 hx with rfl|hx
   ·exact a3
   ·exact b3 x hx
section
variable {P:Program}{T:Nat->Option Ty}{g:G}{β:Nat->Nat}{F:Nat->Option SV}{L:Nat->Option aC}{n:Nat->Prop}{a:Act}{W:World}
theorem EV{t:Nat}{i:Ty}(hT:cI P T)(h:T t=some i):∃info,P.info? t=some info/\info.size=i.sz/\∃v,info.zero=some v/\v.cells.toList=aM β i.z/\(∀p,ay p i.z)/\(∀x∈v.cells.toList,x.oneCell'=true)/\i.z.length=i.sz:=by
 have h1:=hT t i h
 simp only[tD,dq]at h1
 obtain⟨⟨h2,h3⟩,_⟩:=h1
 cases hi:P.info? t with
 |none=>simp[lJ,hi]at h2
 |some info=>
  simp only[hi,Option.bind_some]at h3
  cases hz:info.zero with
  |none=>simp[hz]at h3
  |some v=>
   simp only[hz,dq,vT]at h3
   obtain⟨b1,_,b3⟩:=aeS β (fun _=>True) h3.1
   exact⟨info,rfl,by simpa [lJ,hi]using h2,v,hz,b1,fun p=>(aeS β p h3.1).2.1,b3,h3.2⟩
theorem aeq{t:Nat}{i:Ty}(hT:cI P T)(h:T t=some i):∃d,P.underlying t=some d/\HR d=i.d.agg:=by
 have h1:=hT t i h
 simp only[tD,dq]at h1
 obtain⟨_,h2⟩:=h1
 cases hu:P.underlying t with
 |none=>rw[hu]at h2;cases hd:i.d<;>simp[hd]at h2
 |some d=>rw[hu]at h2;cases hd:i.d<;>cases d<;>simp_all [Fo.agg,HR]
theorem ady{t:Nat}{b:Bool}(h:zy P t=some b)(w:World):(isAgg t).run P w= .ok b w:=by
 unfold zy at h
 unfold isAgg
 rw[Sem.run_bind]
 cases hu:P.underlying t with
 |none=>simp[hu]at h
 |some d=>
  rw[run_underlying hu w]
  rw[hu]at h
  cases d<;>simp_all
theorem rQ{t s:Nat}(h:lJ P t=some s)(w:World):(sizeOf t).run P w= .ok s w:=by
 unfold lJ at h
 cases hq:P.info? t with
 |none=>simp[hq]at h
 |some i=>simp[sizeOf,typeInfo,Sem.run_bind,hq];simpa [hq]using h
theorem ae_{t:Nat}{d:TypeDesc}{b:Bool}(hu:P.underlying t=some d)(hd:HR d=b):zy P t=some b:=by
 unfold zy
 rw[hu]
 cases d<;>simp_all [HR]
theorem Wb{t:Nat}{i:Ty}(hT:cI P T)(h:T t=some i):lJ P t=some i.sz:=by
 obtain⟨info,h1,h2,_⟩:=EV (β:=id) hT h
 simp[lJ,h1,h2]
theorem cq(hf:eX g β F n a){x:Operand}{v:SV}(h:ev F x=some v):a.eval x=den β v/\bd n v:=by
 cases x with
 |tmp t=>
  have h1:=hf.fr t v h
  refine⟨?_,hf.bF t v h⟩
  simp[Act.eval,h1]
 |const c=>
  simp only[ev]at h
  unfold Vi at h
  split at h<;>simp_all [Act.eval]
  all_goals (subst h;simp[den,bd])
 |global _=>simp[ev]at h
 |func f=>
  simp only[ev,fc]at h
  subst h
  simp[Act.eval,den,aM,bd,ay]
theorem MQ(hf:eX g β F n a):∀ {xs:List Operand} {vs:List SV},lQ F xs=some vs->xs.map a.eval=aM β vs/\ay n vs:=by
 intro xs
 induction xs with
 |nil=>intro vs h;simp[lQ]at h;subst h;simp[aM,ay]
 |cons x xs ih=>
  intro vs h
  simp only[lQ]at h
  cases h1:ev F x with
  |none=>simp[h1]at h
  |some v=>
   cases h2:lQ F xs with
   |none=>simp[h1,h2]at h
   |some us=>
    simp only[h1,h2,fc]at h
    subst h
    obtain⟨e1,b1⟩:=cq hf h1
    obtain⟨e2,b2⟩:=ih h2
    exact⟨by rw[ve,e1,e2,aM],⟨b1,b2⟩⟩
theorem QY(hm:Mem g β L n W){l:Nat}{b:aC}(h:L l=some b)(o:Nat):W.cell? ⟨β l,o,none⟩=(b.cs[o]?).map (den β):=by
 obtain⟨m,_,hc⟩:=hm.cell l b h
 simp[World.cell?,hc,cO]
theorem apN{ad:Addr}{v:Value}(h:W.cell? ad=some v):(load ad).run P W= .ok v W:=by
 simp[load,Sem.run,h]
theorem Qo{n:Nat->Prop}{cs:List SV}(h:ay n cs){o:Nat}{v:SV}(hv:cs[o]? =some v):bd n v:=(gI n cs).1 h v (CL hv)
theorem xZ{n:Nat->Prop}{cs:List SV}(h:ay n cs)(o m:Nat):ay n ((cs.drop o).take m):=by
 rw[gI]at h⊢
 intro v hv
 exact h v (Fh (xO hv))
theorem ad_{cs vs:List SV}{o m:Nat}(h:Ha cs o m=some vs):o+m<=cs.length/\vs=(cs.drop o).take m:=by
 unfold Ha at h
 split at h
 ·rename_i hb;exact⟨g_ hb,(ef h).symm⟩
 ·cases h
theorem aeb{cs vs:List SV}{o m:Nat}(h:Ar.real.sub cs o m=some vs):o+m<=cs.length/\vs=(cs.drop o).take m:=by
 simp only[Ar.real]at h
 split at h
 ·rename_i hb;exact⟨hb,(ef h).symm⟩
 ·cases h
theorem akK(hT:cI P T)(hm:Mem g β L n W){t:Nat}{i:Ty}(ht:T t=some i){l o:Nat}{b:aC}(hb:L l=some b){v:SV}
 (eG:∀vs,i.d.agg=true->v= .agg vs->o+i.sz<=b.cs.length/\vs=(b.cs.drop o).take i.sz) (SQ:i.d.agg=true->∃vs,v= .agg vs) (aj4:i.d.agg=false->b.cs[o]? =some v):
 (loadVar t ⟨β l,o,none⟩).run P W= .ok (den β v) W/\bd n v:=by
 obtain⟨info,hi,aJ,_⟩:=EV (β:=β) hT ht
 obtain⟨d,hu,hd⟩:=aeq hT ht
 have DH:=(hm.bL l b hb).2
 cases hg:i.d.agg with
 |true=>
  obtain⟨vs,rfl⟩:=SQ hg
  obtain⟨h1,h2⟩:=eG vs hg rfl
  have hlen:vs.length=i.sz:=by rw[h2,eY,iY];omega
  have h3:∀j x,(aM β vs).toArray[j]? =some x->W.cell? ⟨β l,o+j,none⟩=some x:=by
   intro j x hx
   rw[QY hm hb]
   simp only[cO,List.getElem?_toArray,xM]at hx
   obtain⟨s,hs,rfl⟩:=Fm.1 hx
   rw[h2,Fc]at hs
   split at hs
   ·rw[Be]at hs
    rw[hs];rfl
   ·cases hs
  refine⟨?_,by simp only[bd];rw[h2];exact xZ DH _ _⟩
  have:=apM (P:=P) W (β l) o t (aM β vs).toArray d h3 hu (by rw[hg]at hd;cases d<;>simp_all [HR]) (by rw[hi];simp[aJ,cO,hlen])
  rw[this];rfl
 |false=>
  have h1:=aj4 hg
  refine⟨?_,Qo DH h1⟩
  unfold loadVar
  rw[Sem.run_bind,ady (ae_ hu (hd.trans hg))]
  simp only[Result.andThen_ok,GH,LJ]
  exact apN (by rw[QY hm hb,h1];rfl)
theorem ada(hT:cI P T)(hm:Mem g β L n W){t:Nat}{i:Ty}(ht:T t=some i){u v:SV}(h:rd Ar.real L i u=some v):
 (Instr.loadAt t (den β u)).run P W= .ok (den β v) W/\bd n v:=by
 have key:∀l o b,L l=some b->den β u= .pointer (some ⟨β l,o,none⟩)->
  (∀vs,i.d.agg=true->v= .agg vs->o+i.sz<=b.cs.length/\vs=(b.cs.drop o).take i.sz)->(i.d.agg=true->∃vs,v= .agg vs)->(i.d.agg=false->b.cs[o]? =some v)->
  (Instr.loadAt t (den β u)).run P W= .ok (den β v) W/\bd n v:=by
  intro l o b hb hd h1 h2 h3
  obtain⟨r1,r2⟩:=akK hT hm ht hb h1 h2 h3
  refine⟨?_,r2⟩
  rw[hd]
  simp only[Instr.loadAt,Instr.sureAddr,Sem.run_bind,Sem.run_pure,Result.andThen_ok,r1]
 cases u with
 |ptr l o=>
  simp only[rd]at h
  cases hb:L l with
  |none=>simp[hb]at h
  |some b=>
   simp only[hb]at h
   cases hg:i.d.agg with
   |true=>
    simp only[hg,CF]at h
    cases hs:Ha b.cs o i.sz with
    |none=>simp[hs]at h
    |some vs=>
     simp only[hs,fc]at h
     subst h
     exact key l o b hb rfl (fun He _ e=>by cases e;exact ad_ hs) (fun _=>⟨_,rfl⟩) (fun e=>by rw[hg]at e;cases e)
   |false=>
    simp only[hg]at h
    exact key l o b hb rfl (fun He e=>by rw[hg]at e;cases e) (fun e=>by rw[hg]at e;cases e) (fun _=>h)
 |gM l o=>
  simp only[rd]at h
  cases hb:L l with
  |none=>simp[hb]at h
  |some b=>
   simp only[hb]at h
   cases hg:i.d.agg with
   |true=>
    simp only[hg,CF]at h
    cases hs:Ar.real.sub b.cs o i.sz with
    |none=>simp[hs]at h
    |some vs=>
     simp only[hs,fc]at h
     subst h
     exact key l o b hb rfl (fun He _ e=>by cases e;exact aeb hs) (fun _=>⟨_,rfl⟩) (fun e=>by rw[hg]at e;cases e)
   |false=>
    simp only[hg]at h
    exact key l o b hb rfl (fun He e=>by rw[hg]at e;cases e) (fun e=>by rw[hg]at e;cases e) (fun _=>h)
 |_=>simp[rd]at h
end
end Go.Vg
namespace Go.Vg
open Go.RowKit
section
variable {P:Program}{T:Nat->Option Ty}{g:G}{β:Nat->Nat}{F:Nat->Option SV}{L:Nat->Option aC}{n:Nat->Prop}{a:Act}{W:World}
theorem apU{k k':IntKind}(h:K_ k k'=true):k=k':=by cases k<;>cases k'<;>simp_all [K_]
theorem ain(op:BinOp)(t:TypeId)(x y:Operand){u v:Value}(hu:u≠ .nilIface)(hv:∀c d,¬ (u= .agg c/\v= .agg d))(w:World):(eqGuard op t x y u v).run P w= .ok () w:=by
 unfold eqGuard
 cases op<;>simp
 all_goals (cases u<;>cases v<;>simp_all)
theorem al6{y:Operand}{b:Int}(hy:∀k c,y= .const (.int k c)->b=c)(h:KW Ar.real y b=true):¬b<0:=by
 unfold KW at h
 split at h
 ·rename_i k m
  rw[hy k _ rfl]
  show ¬ ((m:Nat):Int)<0
  omega
 ·simpa [Ar.real]using h
theorem al5{y:Operand}{b:Int}(hy:∀k c,y= .const (.int k c)->b=c)(h:KV Ar.real y b=true):¬b=0:=by
 unfold KV at h
 split at h
 ·rename_i k m
  rw[hy k _ rfl]
  show ¬ (((m+1:Nat)):Int)=0
  omega
 ·simpa [Ar.real]using h
theorem YZ{op:BinOp}{xt:TypeId}{yo:Operand}{u v r:SV}(hy:∀k c,yo= .const (.int k c)->v= .int k c)(h:Bj Ar.real op yo u v=some r)(w:World):(binOp op xt (den β u) (den β v)).run P w= .ok (den β r) w/\bd n r:=by
 cases u with
 |int k x=>
  cases v with
  |int k' y=>
   have jG:∀k c,yo= .const (.int k c)->y=c:=fun k c e=>by have:=hy k c e;cases this;rfl
   by_cases hs:op= .shl\/op= .shr
   ·have h2:(match KW Ar.real yo y with|true=>some (SV.int k (Ar.real.sh op k x y))|false=>none)=some r:=by
     rcases hs with rfl|rfl<;>exact h
    cases hn:KW Ar.real yo y with
    |false=>simp[hn]at h2
    |true=>
     simp only[hn,fc]at h2
     subst h2
     have hy:=al6 jG hn
     rcases hs with rfl|rfl<;>simp[binOp,Op.shift,den,bd,hy,Ar.real]
   ·have h2:(match K_ k k' with
     |true=>match GJ op with
      |true=>some (SV.bool (Ar.real.cmp op x y))
      |false=>match op with
       | .quo| .rem=>match KV Ar.real yo y with
         |true=>some (.int k (Ar.real.bin op k x y))
         |false=>none
       |_=>some (.int k (Ar.real.bin op k x y))
     |false=>none)=some r:=by
     cases op<;>first|exact h|exact absurd (Or.inl rfl) hs|exact absurd (Or.inr rfl) hs
    cases hk:K_ k k' with
    |false=>simp[hk]at h2
    |true=>
     obtain rfl:=apU hk
     simp only[hk]at h2
     cases op<;>simp only[GJ,fc]at h2<;>first
      |exact absurd (Or.inl rfl) hs
      |exact absurd (Or.inr rfl) hs
      |(subst h2;simp[binOp,Op.intArith,Op.intBits,Op.intCmp,den,bd,Ar.real,jH,H2];done)
      |(cases hz:KV Ar.real yo y with
        |false=>simp[hz]at h2
        |true=>
         simp only[hz,fc]at h2
         subst h2
         have hy:=al5 jG hz
         simp[binOp,Op.intDiv,den,bd,Ar.real,jH,hy])
  |_=>simp[Bj]at h
 |str x=>
  cases v with
  |str y=>
   cases hc:GJ op with
   |true=>
    simp only[Bj,hc,fc]at h
    subst h
    cases op<;>simp[GJ]at hc<;>simp[binOp,Op.stringOp,den,bd,Ar.real,Cz]
   |false=>
    simp only[Bj,hc]at h
    cases op<;>simp at h
    cases hs:Ar.real.iC x y with
    |none=>simp[hs]at h
    |some z=>
     simp only[hs,fc]at h
     subst h
     simp only[Ar.real]at hs
     split at hs
     ·cases hs
     ·rename_i hb
      obtain rfl:=ef hs
      simp only[binOp,Op.stringOp,den,bd]
      rw[af hb]
      simp
  |_=>simp[Bj]at h
 |_=>simp[Bj]at h
theorem aio{d:Nat}{t:TypeId}(hu:P.underlying t=some .bool)(x y:Bool)(w:World):(Op.equalIn (d+1) t (.bool x) (.bool y)).run P w= .ok (x==y) w:=by
 simp[Op.equalIn,run_underlying hu]
theorem ait{d:Nat}{t e:TypeId}(hu:P.underlying t=some (.pointer e))(w:World):(Op.equalIn (d+1) t (.pointer none) (.pointer none)).run P w= .ok true w:=by
 simp[Op.equalIn,run_underlying hu]
theorem aab{d:Nat}{t e:TypeId}(hu:P.underlying t=some (.pointer e))(x:Addr)(w:World):(Op.equalIn (d+1) t (.pointer none) (.pointer (some x))).run P w= .ok false w:=by
 simp[Op.equalIn,run_underlying hu]
theorem aac{d:Nat}{t e:TypeId}(hu:P.underlying t=some (.pointer e))(x:Addr)(w:World):(Op.equalIn (d+1) t (.pointer (some x)) (.pointer none)).run P w= .ok false w:=by
 simp[Op.equalIn,run_underlying hu]
theorem aiv{d:Nat}{t e:TypeId}(hu:P.underlying t=some (.slice e))(w:World):(Op.equalIn (d+1) t (.slice none 0 0) (.slice none 0 0)).run P w= .ok true w:=by
 simp[Op.equalIn,run_underlying hu]
theorem ais{d:Nat}{t e:TypeId}(hu:P.underlying t=some (.slice e))(x:Addr)(m c:Nat)(w:World):(Op.equalIn (d+1) t (.slice none 0 0) (.slice (some x) m c)).run P w= .ok false w:=by
 simp[Op.equalIn,run_underlying hu]
theorem aiu{d:Nat}{t e:TypeId}(hu:P.underlying t=some (.slice e))(x:Addr)(m c:Nat)(w:World):(Op.equalIn (d+1) t (.slice (some x) m c) (.slice none 0 0)).run P w= .ok false w:=by
 simp[Op.equalIn,run_underlying hu]
theorem aip{d:Nat}{t:TypeId}{p q:Array TypeId}{v:Bool}(hu:P.underlying t=some (.func p q v))(w:World):(Op.equalIn (d+1) t .nilFunc .nilFunc).run P w= .ok true w:=by
 simp[Op.equalIn,run_underlying hu]
theorem air{d:Nat}{t:TypeId}{p q:Array TypeId}{v:Bool}(hu:P.underlying t=some (.func p q v))(f:Fn)(x y:Array Value)(w:World):(Op.equalIn (d+1) t .nilFunc (.func f x y)).run P w= .ok false w:=by
 simp[Op.equalIn,run_underlying hu]
theorem aiq{d:Nat}{t:TypeId}{p q:Array TypeId}{v:Bool}(hu:P.underlying t=some (.func p q v))(f:Fn)(x y:Array Value)(w:World):(Op.equalIn (d+1) t (.func f x y) .nilFunc).run P w= .ok false w:=by
 simp[Op.equalIn,run_underlying hu]
theorem uh{t:TypeId}{u v:Value}{b:Bool}{w:World}(h:(Op.equalIn (9999+1) t u v).run P w= .ok b w)(h1:binOp .eql t u v=(do pure (.bool (<-Op.equal t u v))))(h2:binOp .neq t u v=(do pure (.bool (!(<-Op.equal t u v))))):
 (binOp .eql t u v).run P w= .ok (.bool b) w/\(binOp .neq t u v).run P w= .ok (.bool (!b)) w:=by
 have h':(Op.equal t u v).run P w= .ok b w:=h
 rw[h1,h2]
 simp only[Sem.run_bind,h',Result.andThen_ok,Sem.run_pure,and_self]
theorem xo{op:BinOp}{b:Bool}{u v:Value}{t:TypeId}{w:World}{r:SV}(h:(match OH op b with|some b=>some (SV.bool b)|none=>none)=some r)
 (hr:(binOp .eql t u v).run P w= .ok (.bool b) w/\(binOp .neq t u v).run P w= .ok (.bool (!b)) w):(binOp op t u v).run P w= .ok (den β r) w/\bd n r:=by
 cases op<;>simp[OH]at h<;>subst h
 ·exact⟨hr.1,by simp[bd]⟩
 ·exact⟨hr.2,by simp[bd]⟩
theorem afm(hT:cI P T){op:BinOp}{xt:TypeId}{i:Ty}(hi:T xt=some i){u v r:SV}(h:Qq Ar.real i.d op u v=some r)(w:World):(binOp op xt (den β u) (den β v)).run P w= .ok (den β r) w/\bd n r:=by
 have h1:=hT xt i hi
 simp only[tD,dq]at h1
 obtain⟨_,h2⟩:=h1
 generalize i.d=dd at h h2
 cases hq:P.underlying xt with
 |none=>rw[hq]at h2;cases dd<;>cases h2
 |some d=>
  rw[hq]at h2
  unfold Qq at h
  split at h
  ·cases d<;>first|(cases h2;done)|skip
   rename_i x y
   have hr:=uh (aio hq x y w) rfl rfl
   split at h
   ·obtain rfl:=ef h
    exact⟨hr.1,by simp[bd]⟩
   ·obtain rfl:=ef h
    exact⟨hr.2,by simp[bd]⟩
   ·cases h
  ·cases d<;>first|(cases h2;done)|skip
   exact xo h (uh (ait hq w) rfl rfl)
  ·cases d<;>first|(cases h2;done)|skip
   exact xo h (uh (aiv hq w) rfl rfl)
  ·cases d<;>first|(cases h2;done)|skip
   exact xo h (uh (aip hq w) rfl rfl)
  ·cases d<;>first|(cases h2;done)|skip
   exact xo h (uh (aac hq _ w) rfl rfl)
  ·cases d<;>first|(cases h2;done)|skip
   exact xo h (uh (aab hq _ w) rfl rfl)
  ·cases d<;>first|(cases h2;done)|skip
   exact xo h (uh (aac hq _ w) rfl rfl)
  ·cases d<;>first|(cases h2;done)|skip
   exact xo h (uh (aab hq _ w) rfl rfl)
  ·cases d<;>first|(cases h2;done)|skip
   exact xo h (uh (aiu hq _ _ _ w) rfl rfl)
  ·cases d<;>first|(cases h2;done)|skip
   exact xo h (uh (ais hq _ _ _ w) rfl rfl)
  ·cases d<;>first|(cases h2;done)|skip
   exact xo h (uh (aiq hq _ _ _ w) rfl rfl)
  ·cases d<;>first|(cases h2;done)|skip
   exact xo h (uh (air hq _ _ _ w) rfl rfl)
  ·cases h
theorem aq2{op:UnOp}{u r:SV}(h:Wd Ar.real op u=some r)(w:World):(Op.unary op (den β u)).run P w= .ok (den β r) w/\bd n r:=by
 unfold Wd at h
 split at h
 ·simp only[fc]at h;subst h
  simp[Op.unary,Op.intArith,den,bd,Ar.real]
 ·simp only[fc]at h;subst h
  simp[Op.unary,Op.intBits,den,bd,Ar.real,jH]
 ·simp only[fc]at h;subst h
  simp[Op.unary,den,bd,Ar.real]
 ·cases h
theorem Rj(hT:cI P T){t:Nat}{i:Ty}(ht:T t=some i){fs:List (Nat×Nat×Bool)}(hd:i.d= .st fs):∃fl,P.underlying t=some (.struct fl)/\wv P fl.toList fs=true:=by
 have h1:=hT t i ht
 simp only[tD,dq]at h1
 obtain⟨_,h2⟩:=h1
 rw[hd]at h2
 cases hq:P.underlying t with
 |none=>simp[hq]at h2
 |some d=>cases d<;>simp_all
theorem aan{fl:List Field}{fs:List (Nat×Nat×Bool)}(h:wv P fl fs=true){k o s:Nat}{ag:Bool}(hk:fs[k]? =some (o,s,ag)):∃f,fl[k]? =some f/\f.offset=o/\lJ P f.type=some s/\zy P f.type=some ag:=by
 induction fl generalizing fs k with
 |nil=>cases fs<;>simp_all [wv]
 |cons f fl ih=>
  cases fs with
  |nil=>simp[wv]at h
  |cons p fs=>
   obtain⟨o1,s1,a1⟩:=p
   simp only[wv,dq,vT]at h
   obtain⟨⟨⟨h1,h2⟩,h3⟩,h4⟩:=h
   cases k with
   |zero=>
    simp only[Ht,fc,xT]at hk
    obtain⟨rfl,rfl,rfl⟩:=hk
    exact⟨f,rfl,h1,h2,h3⟩
   |succ k=>exact ih h4 (by simpa using hk)
theorem tY(b o k:Nat):(⟨b,o,none⟩:Addr).add k=⟨b,o+k,none⟩:=YP b o k
theorem aag(hT:cI P T){t:Nat}{i:Ty}(ht:T t=some i){fs:List (Nat×Nat×Bool)}(hd:i.d= .st fs){k o s:Nat}{ag:Bool}(hk:fs[k]? =some (o,s+1,ag))(b q:Nat)(w:World):
 (Instr.fieldAt t (.pointer (some ⟨b,q,none⟩)) k).run P w= .ok (.pointer (some ⟨b,q+o,none⟩)) w:=by
 obtain⟨fl,hu,hf⟩:=Rj hT ht hd
 obtain⟨f,h1,h2,h3,_⟩:=aan hf hk
 have IC:fl[k]? =some f:=by simpa using h1
 unfold Instr.fieldAt
 simp[Sem.run_bind,run_underlying hu,IC,Instr.sureAddr,fieldPlace,rQ h3,tY,h2]
theorem Vo{t s:Nat}{ag:Bool}{cs:List SV}{o:Nat}{r:SV}(hs:lJ P t=some s)(ha:zy P t=some ag)(hb:ay n cs)
 (h:O3 ag cs o s=some r\/Vz Ar.real ag cs o s=some r) (w:World):
 (part t (aM β cs).toArray o).run P w= .ok (den β r) w/\bd n r:=by
 unfold part
 rw[Sem.run_bind,ady ha]
 simp only[Result.andThen_ok]
 cases ag with
 |true=>
  have h2:∃vs,r= .agg vs/\o+s<=cs.length/\vs=(cs.drop o).take s:=by
   rcases h with h|h
   ·simp only[O3,CF]at h
    cases hq:Ha cs o s with
    |none=>simp[hq]at h
    |some vs=>simp only[hq,fc]at h;exact⟨vs,h.symm,ad_ hq⟩
   ·simp only[Vz,CF]at h
    cases hq:Ar.real.sub cs o s with
    |none=>simp[hq]at h
    |some vs=>simp only[hq,fc]at h;exact⟨vs,h.symm,aeb hq⟩
  obtain⟨vs,rfl,h3,rfl⟩:=h2
  refine⟨?_,by simp only[bd];exact xZ hb _ _⟩
  simp only[xk,Sem.run_bind,rQ hs,Result.andThen_ok,Sem.run_pure,den]
  congr 2
  apply Array.ext_getElem?
  intro j
  simp only[cO,Array.getElem?_extract,List.getElem?_toArray,xM,Fc,Be,CM,fL]
  by_cases hj:j<s
  ·rw[aj (by omega),aj hj]
  ·rw[af (by omega),af hj];rfl
 |false=>
  have h2:cs[o]? =some r:=by rcases h with h|h<;>exact h
  refine⟨?_,Qo hb h2⟩
  simp[cO,h2]
end
end Go.Vg
