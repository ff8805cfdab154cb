/-
  This text proves what these texts prove: VgS, VgU. Conditions: those of each theorem.
-/
import Derived.ArgAppend
import Derived.Maps.AppendAt
import Derived.Laws.IdiomStrings
import Derived.Laws.MakeOwn
import Derived.Laws.Slices
import Derived.Test.YtdhmihfefgcbeaaGreatY05
set_option maxHeartbeats 8000000
set_option linter.all false
namespace Go.Vg
open Go.RowKit
mutual
/-- its labels are below m-/
def bdB(m:Nat):SV->Bool
 | .ptr l _| .ptrS l _| .slice l _ _ _=>Nat.blt l m
 | .fn _ a b=>bdLB m a&&bdLB m b
 | .agg cs=>bdLB m cs
 | .tup vs=>bdLB m vs
 |_=>true
def bdLB(m:Nat):List SV->Bool
 | []=>true
 |v::vs=>bdB m v&&bdLB m vs
end
theorem blq{a b:Nat}(h:Nat.blt a b=true):a<b:=Nat.le_of_ble_eq_true h
mutual
theorem bdB_bd{m:Nat}:∀v,bdB m v=true->bd (fun l=>l<m) v
 | .bool _,_| .int _ _,_| .str _,_| .nilp,_| .nils,_| .nilfn,_| .raw _,_=>trivial
 | .ptr _ _,h| .ptrS _ _,h| .slice _ _ _ _,h=>blq (by simpa only[bdB]using h)
 | .fn _ a b,h=>by
   simp only[bdB,Bool.and_eq_true]at h
   exact⟨bdb a h.1,bdb b h.2⟩
 | .agg cs,h=>bdb cs (by simpa only[bdB]using h)
 | .tup vs,h=>bdb vs (by simpa only[bdB]using h)
theorem bdb{m:Nat}:∀l,bdLB m l=true->bdL (fun l=>l<m) l
 | [],_=>trivial
 |v::vs,h=>by
  simp only[bdLB,Bool.and_eq_true]at h
  exact⟨bdB_bd v h.1,bdb vs h.2⟩
end
mutual
theorem ren_id:∀v,ren id v=v
 | .bool _| .int _ _| .str _| .nilp| .nils| .nilfn| .raw _=>rfl
 | .ptr _ _| .ptrS _ _| .slice _ _ _ _=>rfl
 | .fn _ a b=>by rw[ren,renL_id a,renL_id b]
 | .agg cs=>by rw[ren,renL_id cs]
 | .tup vs=>by rw[ren,renL_id vs]
theorem renL_id:∀l,renL id l=l
 | []=>rfl
 |v::vs=>by rw[renL,ren_id v,renL_id vs]
end
def wkF1(m:Nat)(F:FF):FF->Prop
 | []=>True
 |(t,v)::F'=>look F t=some v/\bdB m v=true/\wkF1 m F F'
def wkL1(m:Nat)(L:LL):LL->Prop
 | []=>True
 |b::L'=>find L b.l=some b/\Nat.blt b.l m=true/\bdLB m b.cs=true/\wkL1 m L L'
theorem wkF_of1{m:Nat}{F:FF}:∀ {F':FF},wkF1 m F F'->wkF id m F F'
 | [],_=>trivial
 |(t,v)::F',h=>⟨by rw[ren_id];exact h.1,bdB_bd _ h.2.1,wkF_of1 h.2.2⟩
theorem wkL_of1{n0 m:Nat}{L:LL}:∀ {L':LL},wkL1 m L L'->wkL id n0 m L L'
 | [],_=>trivial
 |b::L',h=>⟨by rw[renL_id];exact h.1,h.2.1,by
   rcases Nat.lt_or_ge b.l n0 with h1|h1
   ·rw[show Nat.blt b.l n0=true from Nat.ble_eq_true_of_le h1];rfl
   ·rw[show Nat.ble n0 (id b.l)=true from Nat.ble_eq_true_of_le h1,Bool.or_true],bdb _ h.2.2.1,wkL_of1 h.2.2.2⟩
theorem below_of{f:Nat->Bool}(h:∀l,f l=true):∀n,below f n=true
 |0=>rfl
 |n+1=>by rw[below,h n,below_of h n];rfl
theorem weak_id{n0 n':Nat}{F F':FF}{L L':LL}{n:Nat}(hF:wkF1 n' F F')(hL:wkL1 n' L L')(hd:ndN (L'.map Blk.l)=true)(hn:Nat.ble n0 n'=true):Weak n0 id F' L' n' F L n:=
 ⟨wkF_of1 hF,wkL_of1 hL,hd,hn,below_of (fun l=>Nat.beq_refl l) n0⟩
/-- the same loop head, all parts by looking -/
theorem wkid {n0 n' : Nat} {F F' : FF} {L L' : LL} {n : Nat} (hF : wkF1 n' F F' := by repeat' (first | exact trivial | refine ⟨rfl, rfl, ?_⟩)) (hL : wkL1 n' L L' := by repeat' (first | exact trivial | refine ⟨rfl, rfl, rfl, ?_⟩)) (hd : ndN (L'.map Blk.l) = true := by rfl) (hn : Nat.ble n0 n' = true := by rfl) : Weak n0 id F' L' n' F L n :=
 weak_id hF hL hd hn
theorem wkih {n0 n' : Nat} {F F' : FF} {L L' : LL} {n : Nat} (hL : wkL1 n' L L') (hF : wkF1 n' F F' := by repeat' (first | exact trivial | refine ⟨rfl, rfl, ?_⟩)) (hd : ndN (L'.map Blk.l) = true := by rfl) (hn : Nat.ble n0 n' = true := by rfl) : Weak n0 id F' L' n' F L n :=
 weak_id hF hL hd hn
theorem cvl {P : Program} {g : G} {F : FF} {L : LL} {n : Nat} {o : Oper} {c : Call} {m0 N : Nat} {ms : List Nat} (hg : GI g m0 ms N) {f : FuncId} {args : List SV} {val : SV} (hcon : Con P f args [] 0 [] (fun w _ _ => w = val)) {K : FF → LL → Nat → Prop} (hK : K (putO F o.dst val) L n) (ho : o.op = .call c := by rfl) (hd' : dstLt N o.dst = true := by rfl) (hc : callee (look F) c = some (f, args) := by rfl) (hb : bd (fun _ => False) val := by trivial) : Step g P o K F L n :=
  cva ho hg hd' hc hcon fun _ _ _ h => by subst h; exact ⟨hb, hK⟩
theorem crl {P : Program} {g : G} {F : FF} {L : LL} {n : Nat} {o : Oper} {c : Call} {m0 N : Nat} {ms : List Nat} (hg : GI g m0 ms N) {f : FuncId} {us args : List SV} {Lp : LL} {n0 : Nat} {val : SV} (hcon : Con P f args Lp n0 [] (fun w _ _ => w = val)) (ρ : Nat → Nat) (hft : foot ρ (find L) Lp) {K : FF → LL → Nat → Prop} (hK : K (putO F o.dst (ren ρ val)) L n) (ho : o.op = .call c := by rfl) (hd' : dstLt N o.dst = true := by rfl) (hc : callee (look F) c = some (f, us) := by rfl) (hus : us = renL ρ args := by rfl) (hb : bd (fun l => l < n0) val := by trivial) (hb2 : bd (fun l => l < n) (ren ρ val) := by trivial) : Step g P o K F L n :=
  cro ho hg hd' hc hcon ρ hus hft fun _ _ _ h => by subst h; exact ⟨hb, hb2, hK⟩
theorem cgl {P : Program} {g : G} {F : FF} {L : LL} {n : Nat} {o : Oper} {c : Call} {m0 N : Nat} {ms : List Nat} (hg : GI g m0 ms N) {f : FuncId} {us args : List SV} {Lp NB : LL} {n0 n1 : Nat} {mc : List Nat} {val : SV} (hcon : Con P f args Lp n0 mc (fun w L q => w = val ∧ L = NB ∧ q = n1)) (ρ : Nat → Nat) (hft : foot ρ (find L) Lp) {K : FF → LL → Nat → Prop} (hK : K (putO F o.dst (ren (rho ρ n0 n) val)) (remL (mc.map ρ ++ (oldL n0 NB).map ρ) L ++ renB (rho ρ n0 n) NB) (n + (n1 - n0)))
  (ho : o.op = .call c := by rfl) (hd' : dstLt N o.dst = true := by rfl) (hc : callee (look F) c = some (f, us) := by rfl) (hus : us = renL ρ args := by rfl) (hi : injB mc ρ Lp = true := by rfl) (hρ : below (fun l => Nat.blt (ρ l) n) n0 = true := by rfl) (hmc : mc.all (fun m => own m0 ms (ρ m) && memN (Lp.map Blk.l) m && Nat.blt m n0) = true := by rfl) (hall : NB.all (fun b => Nat.ble n0 b.l || memN (Lp.map Blk.l) b.l) = true := by rfl) : Step g P o K F L n :=
  cgn ho hg hd' hc hcon ρ hus hft hi hρ hmc fun _ _ _ h _ => by obtain ⟨rfl, rfl, rfl⟩ := h; exact ⟨hall, hK⟩
theorem sdv {P : Program} {g : G} {F : FF} {M : LL} {n : Nat} {o : Oper} {c : Call} {m0 N : Nat} {ms : List Nat} (hg : GI g m0 ms N) {f : FuncId} {args : List SV} {val : SV} (hcon : Con P f args [] 0 [] (fun w _ _ => w = val)) {K : SV → LL → Nat → Prop} (hK : K val [] n) (ho : o.op = .call c := by rfl) (hd' : dstLt N o.dst = true := by rfl) (hc : callee (look F) c = some (f, args) := by rfl) (hb : bd (fun _ => False) val := by trivial) : StepD g P o F M n K :=
  stepD (en_val ho hg hd' hc hcon (fun _ _ _ h => h) hb) hK
def lst(K:IntKind)(f:Nat->Int):Nat->Nat->List SV
 |_,0=> []
 |s,n+1=> .int K (f s)::lst K f (s+1) n
theorem lle(K:IntKind)(f:Nat->Int):∀s n,(lst K f s n).length=n
 |_,0=>rfl
 |s,n+1=>by rw[lst,List.length_cons,lle]
theorem lst_get(K:IntKind)(f:Nat->Int){k:Nat}:∀ {s n:Nat},k<n->(lst K f s n)[k]? =some (.int K (f (s+k))):=by
 induction k with
 |zero=>intro s n h;cases n with
  |zero=>omega
  |succ n=>rfl
 |succ k ih=>intro s n h;cases n with
  |zero=>omega
  |succ n=>rw[lst,List.getElem?_cons_succ,ih (by omega),show s+1+k=s+(k+1) by omega]
theorem lcg{K:IntKind}{f g:Nat->Int}:∀ {s n:Nat},(∀j,s<=j->j<s+n->f j=g j)->lst K f s n=lst K g s n
 |_,0,_=>rfl
 |s,n+1,h=>by rw[lst,lst,h s (by omega) (by omega),lcg fun j h1 h2=>h j (by omega) (by omega)]
theorem lst_bd(m:Nat)(K:IntKind)(f:Nat->Int):∀s n,bdLB m (lst K f s n)=true
 |_,0=>rfl
 |s,n+1=>by rw[lst,bdLB,lst_bd m K f (s+1) n];rfl
theorem lst_set{K:IntKind}{f g:Nat->Int}{v:Int}{k:Nat}:∀ {s n:Nat},k<n->g (s+k)=v->(∀j,s<=j->j<s+n->j≠s+k->g j=f j)->Vg.splice (lst K f s n) k [.int K v]=lst K g s n:=by
 induction k with
 |zero=>intro s n h hv hg;cases n with
  |zero=>omega
  |succ n=>
   rw[Nat.add_zero]at hv
   rw[lst,lst,hv,lcg (f:=g) (g:=f) fun j h1 h2=>hg j (by omega) (by omega) (by omega)]
   rfl
 |succ k ih=>intro s n h hv hg;cases n with
  |zero=>omega
  |succ n=>
   rw[lst,lst,hg s (by omega) (by omega) (by omega),<-ih (s:=s+1) (n:=n) (by omega) (by rw[show s+1+k=s+(k+1) by omega];exact hv) fun j h1 h2 h3=>hg j (by omega) (by omega) (by omega)]
   simp only[Vg.splice,List.take_succ_cons,List.cons_append,List.length_cons,List.length_nil]
   rw[show k+1+(0+1)=(k+(0+1))+1 by omega,List.drop_succ_cons]
section
variable {P:Program}{g:G}{T:Nat->Option Ty}{A:Ar}
theorem reg_A(hT:TOk P T)(hA:A=Ar.real){n0 N:Nat}{ms:List Nat}(hg:GI g n0 ms N)(hmix:P.follows .mixedOrders=true){id:Nat}{ops:Array Oper}(hB:drawB ops.toList=true)(hd:(ops.toList.all fun o=>dstLt N o.dst)=true){K:FF->LL->Nat->Prop}{F:FF}{L:LL}{n:Nat}
 (h:vcD T A P g n0 ms (fun _ _=>true) ops.toList (maskL [] ops.toList) K ops.toList 0 F L [] n):Reg g P id ops K F L n:=by
 subst hA
 exact reg_of hT hg.n0 hg.ms hmix hB (fun o ho=>hg.dst (List.all_eq_true.1 hd o ho)) h
theorem reg_M(hT:TOk P T)(hA:A=Ar.real){n0 N:Nat}{ms:List Nat}(hg:GI g n0 ms N)(hmix:P.follows .mixedOrders=true){id:Nat}{ops:Array Oper}(hB:drawB ops.toList=true)(hd:(ops.toList.all fun o=>dstLt N o.dst)=true){K:FF->LL->Nat->Prop}{F:FF}{L:LL}{n:Nat}
 (h:∀m,maskL [] ops.toList=m->vcD T A P g n0 ms (fun _ _=>true) ops.toList m K ops.toList 0 F L [] n):Reg g P id ops K F L n:=
 reg_A hT hA hg hmix hB hd (h _ rfl)
theorem reg_X(hT:TOk P T)(hA:A=Ar.real){n0 N:Nat}{ms:List Nat}(hg:GI g n0 ms N)(hmix:P.follows .mixedOrders=true){id:Nat}{ops:Array Oper}(hB:drawC ops.toList=true)(hd:(ops.toList.all fun o=>dstLt N o.dst)=true){K:FF->LL->Nat->Prop}{F:FF}{L:LL}{n:Nat}
 (h:vcD T A P g n0 ms (ckC ops.toList (maskL [] ops.toList) (look F)) ops.toList (maskL [] ops.toList) K ops.toList 0 F L [] n):Reg g P id ops K F L n:=by
 subst hA
 exact reg_C hT hg.n0 hg.ms hmix hB (fun o ho=>hg.dst (List.all_eq_true.1 hd o ho)) h
theorem bin_of(hA:A=Ar.real):A.bin=intBin:=congrArg Ar.bin hA
theorem cmp_of(hA:A=Ar.real):A.cmp=boolCmp:=congrArg Ar.cmp hA
theorem neg_of(hA:A=Ar.real)(k:IntKind)(n:Int):A.una .neg k n=k.wrap (0-n):=by
 rw[hA];simp only[Ar.real]
theorem not_of(hA:A=Ar.real)(n:Int):A.una .xor .u64 n=intBin .xor .u64 0xffffffffffffffff n:=by
 rw[hA];simp only[Ar.real];rfl
theorem cvt_of(hA:A=Ar.real)(k:IntKind)(n:Int):A.cvt k n=k.wrap n:=by
 rw[hA];simp only[Ar.real]
theorem nat_of(hA:A=Ar.real)(n:Nat):A.nat n=Int.ofNat n:=by
 rw[hA];simp only[Ar.real];rfl
theorem bnot_of(hA:A=Ar.real)(b:Bool):A.bnot b= !b:=by
 rw[hA];simp only[Ar.real]
theorem ix_of(hA:A=Ar.real){k n:Nat}(h:k<n):A.ix (Int.ofNat k) n=some k:=by
 subst hA
 have h1:(0:Int)<=(k:Int)/\(k:Int)<n:=by omega
 simp[Ar.real,h]
theorem off_of(hA:A=Ar.real)(o j s:Nat):A.off o j s=o+j*s:=by
 subst hA;rfl
theorem get_of(hA:A=Ar.real)(c:List SV)(k:Nat):A.get c k=c[k]? :=by
 subst hA;rfl
theorem spl_of(hA:A=Ar.real){c:List SV}{k:Nat}(h:k<c.length)(v:SV):A.spl c k [v]=some (Vg.splice c k [v]):=by
 subst hA
 simp only[Ar.real,List.length_cons,List.length_nil]
 rw[if_pos (by omega)]
theorem eql_of(hA:A=Ar.real)(a b:Int):A.cmp .eql a b=decide (a=b):=by
 subst hA;show(a==b)=_
 by_cases h:a=b<;>simp[h]
theorem neq_of(hA:A=Ar.real)(a b:Int):A.cmp .neq a b=decide (a≠b):=by
 subst hA;show(a !=b)=_
 by_cases h:a=b<;>simp[h]
theorem scat_of(hA:A=Ar.real){a b:ByteArray}(h:a.size+b.size<2^63):A.scat a b=some (a++b):=by
 subst hA;simp only[Ar.real];rw[if_neg (by show ¬_>(9223372036854775807:Int);omega)]
theorem slen_of(hA:A=Ar.real)(s:ByteArray):A.slen s=Int.ofNat s.size:=by
 subst hA;rfl
theorem nz_of(hA:A=Ar.real){i:Int}(h:i≠0):A.nz i=true:=by
 subst hA;simpa [Ar.real]using h
theorem lss_of(hA:A=Ar.real)(a b:Int):A.cmp .lss a b=decide (a<b):=by
 subst hA;rfl
theorem wrap_of(k:Nat)(h:k<2^63):IntKind.i64.wrap (k:Int)=(k:Int):=by
 simp only[IntKind.wrap,IntKind.signed,IntKind.bits]
 have:((k:Int)%0x10000000000000000)=k:=Int.emod_eq_of_lt (by omega) (by omega)
 simp
 omega
theorem add_of(hA:A=Ar.real){k:Nat}(h:k+1<2^63):A.bin .add .i64 (Int.ofNat k) 1=Int.ofNat (k+1):=by
 subst hA
 exact wrap_of (k+1) h
end
end Go.Vg
namespace Go.Vg
open Go.RowKit
section
variable {P:Program}{g:G}{T:Nat->Option Ty}{A:Ar}{β:Nat->Nat}{a:Act}{W:World}{F:FF}{L:LL}{n:Nat}
theorem step_gen{o:Oper}{m0 N:Nat}{ms:List Nat}(hg:GI g m0 ms N)(hd':dstLt N o.dst=true){K:FF->LL->Nat->Prop}
 (h:∀β a W,Mem g β (find L) (fun l=>l<n) W->Fra g β (look F) (fun l=>l<n) a->∃v W' L' n' γ,(execOp a.eval o).run P W= .ok (.value (den γ v)) W'/\Mem g γ (find L') (fun l=>l<n') W'/\(∀l,l<n->γ l=β l)/\n<=n'/\bd (fun l=>l<n') v/\K (putO F o.dst v) L' n'):Step g P o K F L n:=by
 have hd:=hg.dst hd'
 refine⟨?_⟩
 intro a W ⟨β,hm,hf⟩ next Q hnext
 obtain⟨v,W',L',n',γ,hrun,hm',hag,hn,hb,hk⟩:=h β a W hm hf
 exact upon_ok hrun (hnext _ _ _ _ _ hk ⟨γ,hm',by rw[look_putO];exact(hf.mono hag (fun l hl=>Nat.lt_of_lt_of_le hl hn)).put hd hb⟩)
theorem step_val{o:Oper}{m0 N:Nat}{ms:List Nat}(hg:GI g m0 ms N)(hd':dstLt N o.dst=true){K:FF->LL->Nat->Prop}{v:SV}
 (h:∀β a W,Mem g β (find L) (fun l=>l<n) W->Fra g β (look F) (fun l=>l<n) a->(execOp a.eval o).run P W= .ok (.value (den β v)) W/\bd (fun l=>l<n) v) (hK:K (putO F o.dst v) L n):Step g P o K F L n:=
 step_gen hg hd' fun β a W hm hf=>⟨v,W,L,n,β,(h β a W hm hf).1,hm,fun _ _=>rfl,Nat.le_refl n,(h β a W hm hf).2,hK⟩
theorem en_out{o:Oper}{m0 N:Nat}{ms:List Nat}(hg:GI g m0 ms N)(hd':dstLt N o.dst=true){F:Nat->Option SV}{M:Nat->Option Blk}{v:SV}
 (h:∀ (β:Nat->Nat) (p:Nat->Prop) (F':Nat->Option SV) (L':Nat->Option Blk) (a:Act) (W:World),(∀t∈tmpsL o.op.operands.toList,F' t=F t)->(∀l b,M l=some b->L' l=some b)->Mem g β L' p W->Fra g β F' p a->(execOp a.eval o).run P W= .ok (.value (den β v)) W/\bd p v):EN g P o F M v []:=by
 have hd:=hg.dst hd'
 refine EN.of_step fun β p F' L' a W hF hM hm hf next Q hnext=> ?_
 obtain⟨hrun,hb⟩:=h β p F' L' a W hF hM hm hf
 exact upon_ok hrun (hnext _ _ hm (hf.put hd hb))
theorem Mem.fresh{n:Nat->Prop}{L:Nat->Option Blk}(hm:Mem g β L n W){k:Nat}(hk:¬n k){cs:List SV}(hb:bdL n cs)(t:TypeId){W':World}(hu:Upd W W' (fun _=>False)){q:Nat}(hq:W.heap.size<=q){m:Nat×Nat}(hmk:okM m cs.length)(hc:W'.heap[q]? =some (.cells (denL β cs).toArray t m)):
 ∃γ,(∀l,n l->γ l=β l)/\γ k=q/\Mem g γ (upL L k ⟨k,cs,t⟩) (fun l=>n l\/l=k) W':=by
 obtain⟨γ,hag,hγn⟩:∃γ:Nat->Nat,(∀l,n l->γ l=β l)/\γ k=q:=⟨fun l=>if l=k then q else β l,fun l hl=>if_neg (by rintro rfl;exact hk hl),if_pos rfl⟩
 refine⟨γ,hag,hγn,?_⟩
 have hlt:∀l b,L l=some b->β l<W.heap.size:=fun l b hb=>by
  obtain⟨m,_,hc⟩:=hm.cell l b hb
  exact block_lt hc
 have hcase:∀l b,upL L k ⟨k,cs,t⟩ l=some b->(l=k/\b=⟨k,cs,t⟩)\/(l≠k/\L l=some b):=by
  intro l b h
  simp only[upL]at h
  split at h
  ·rename_i e;exact Or.inl ⟨e,(Option.some.inj h).symm⟩
  ·rename_i e;exact Or.inr ⟨e,h⟩
 refine⟨fun l hl=>Or.inl (hm.low l hl),?_,?_,?_,?_,?_,?_⟩
 ·intro l hl
  rw[hag l (hm.low l hl)];exact hm.old l hl
 ·intro l b h hl
  rcases hcase l b h with⟨rfl,rfl⟩|⟨_,h⟩
  ·rw[hγn];exact Or.inl (Nat.le_trans hm.up.size hq)
  ·rw[hag _ (hm.bL l b h).1];exact hm.new l b h hl
 ·intro l b l' b' h h' ho he
  rcases hcase l b h with⟨e1,e2⟩|⟨_,h2⟩<;>rcases hcase l' b' h' with⟨e3,e4⟩|⟨_,h3⟩
  ·rw[e1,e3]
  ·rw[e1,hγn,hag _ (hm.bL l' b' h3).1]at he
   have:=hlt l' b' h3
   omega
  ·rw[e3,hγn,hag _ (hm.bL l b h2).1]at he
   have:=hlt l b h2
   omega
  ·rw[hag _ (hm.bL l b h2).1,hag _ (hm.bL l' b' h3).1]at he
   exact hm.inj l b l' b' h2 h3 ho he
 ·intro l b h
  rcases hcase l b h with⟨rfl,rfl⟩|⟨_,h⟩
  ·exact⟨m,fun _=>hmk,by rw[hγn,hc,dlc hag _ hb]⟩
  ·obtain⟨m,h1,h2⟩:=hm.cell l b h
   exact⟨m,h1,by rw[hag _ (hm.bL l b h).1,hu.block _ (hlt l b h) (fun h=>h),h2,dlc hag _ (hm.bL l b h).2]⟩
 ·intro l b h
  rcases hcase l b h with⟨rfl,rfl⟩|⟨_,h⟩
  ·exact⟨Or.inr rfl,bdm (fun l hl=>Or.inl hl) _ hb⟩
  ·exact⟨Or.inl (hm.bL l b h).1,bdm (fun l hl=>Or.inl hl) _ (hm.bL l b h).2⟩
 ·exact hm.up.trans hu (fun _ _ _ h=>h)
theorem step_new{o:Oper}{m0 N:Nat}{ms:List Nat}(hg:GI g m0 ms N)(hd':dstLt N o.dst=true){K:FF->LL->Nat->Prop}
 (h:∀β a W,Mem g β (find L) (fun l=>l<n) W->Fra g β (look F) (fun l=>l<n) a->∃ (v:SV) (W':World) (q:Nat) (cs:List SV) (t:TypeId) (m:Nat×Nat),(∀γ:Nat->Nat,γ n=q->(execOp a.eval o).run P W= .ok (.value (den γ v)) W')/\Upd W W' (fun _=>False)/\W.heap.size<=q/\
  okM m cs.length/\W'.heap[q]? =some (.cells (denL β cs).toArray t m)/\bdL (fun l=>l<n) cs/\bd (fun l=>l<n+1) v/\K (putO F o.dst v) (L++[⟨n,cs,t⟩]) (n+1)):Step g P o K F L n:=by
 refine step_gen hg hd' fun β a W hm hf=> ?_
 obtain⟨v,W',q,cs,t,m,hrun,hu,hq,hmk,hc,hb,hbv,hk⟩:=h β a W hm hf
 obtain⟨γ,h1,h2,h3⟩:=hm.fresh (k:=n) (fun h=>Nat.lt_irrefl n h) hb t hu hq hmk hc
 refine⟨v,W',_,_,γ,hrun γ h2,?_,h1,Nat.le_succ n,hbv,hk⟩
 rw[find_new (fun l b h=>(hm.bL l b h).1),<-succ_p]
 exact h3
theorem sl_facts(hT:TOk P T){t:Nat}{i:Ty}(ht:T t=some i){e es:Nat}(hd:i.d= .sl e es){j:Ty}(hj:T e=some j){B:Nat}(hB:(P.info? e).map (·.bytes)=some B):
 ∃info z,P.underlying t=some (.slice e)/\P.info? e=some info/\info.zero=some z/\info.size=es/\info.bytes=B/\es=j.sz/\(∀β,z.cells.toList=denL β j.z)/\(∀p,bdL p j.z)/\j.z.length=es:=by
 obtain⟨hu,hs⟩:=sl_of hT ht hd
 obtain⟨info,hi,hsz,z,hz,_,hzb,_,hzn⟩:=ty_size (β:=id) hT hj
 have hes:es=j.sz:=by
  have:=ty_sizeB hT hj
  rw[this]at hs
  exact(Option.some.inj hs).symm
 rw[hi]at hB
 refine⟨info,z,hu,hi,hz,by rw[hsz,hes],Option.some.inj hB,hes,fun β=> ?_,hzb,by rw[hzn,hes]⟩
 obtain⟨info',hi',_,z',hz',hzc',_⟩:=ty_size (β:=β) hT hj
 rw[hi]at hi'
 obtain rfl:=Option.some.inj hi'
 rw[hz]at hz'
 obtain rfl:=Option.some.inj hz'
 exact hzc'
theorem zeroCells_den(β:Nat->Nat){z:Value}{zs:List SV}(hz:z.cells.toList=denL β zs)(hne:zs≠ [])(k:Nat):(Builtin.zeroCells z.cells k).toList=denL β (rep k zs):=by
 have hzl:z.cells.size=zs.length:=by rw[<-Array.length_toList,hz,dle,List.length_map]
 rw[dle,rep_spec _ hne,List.map_map]
 unfold Builtin.zeroCells
 simp only[Array.toList_map,Array.toList_range,hzl]
 apply List.map_congr_left
 intro q _
 have hlt:q%zs.length<zs.length:=Nat.mod_lt _ (List.length_pos_iff.2 hne)
 have h1:z.cells[q%zs.length]? =some (den β (zs.getD (q%zs.length) default)):=by
  rw[<-Array.getElem?_toList,hz,dle,List.getElem?_map,List.getElem?_eq_getElem hlt,List.getD_eq_getElem?_getD,List.getElem?_eq_getElem hlt]
  rfl
 have h2:q%zs.length<z.cells.size:=by rw[hzl];exact hlt
 simp only[Function.comp]
 rw[getElem!_pos z.cells _ h2]
 rw[Array.getElem?_eq_getElem h2]at h1
 exact Option.some.inj h1
theorem cells_from{n:Nat->Prop}{L:Nat->Option Blk}(hm:Mem g β L n W){l:Nat}{b:Blk}(hb:L l=some b)(o k:Nat):∀j v,(denL β ((b.cs.drop o).take k))[j]? =some v->W.cell? ((⟨β l,o,none⟩:Addr).add j)=some v:=by
 intro j v hj
 rw[addr_add',cell_at hm hb,<-List.getElem?_map,<-dle]
 rw[dle,List.getElem?_map,List.getElem?_take]at hj
 rw[dle,List.getElem?_map]
 split at hj
 ·rwa [List.getElem?_drop]at hj
 ·cases hj
theorem run_append_op{o:Oper}{s x:Operand}{t:TypeId}(ho:o.op= .call {callee:= .builtin .append,args:= #[s,x],argTypes:= #[t,t]}){v:Value}{W':World}(h:(Builtin.append_ #[t,t] o.type #[a.eval s,a.eval x]).run P W= .ok v W'):(execOp a.eval o).run P W= .ok (.value v) W':=by
 unfold execOp
 simp only[ho,resolve,invoke,builtin,Sem.run_bind,Sem.run_pure,Result.andThen_ok,List.map_toArray,List.map_cons,List.map_nil,h]
theorem run_append_room_ok{t ty e:TypeId}{i:TypeInfo}(ht:P.underlying t=some (.slice e))(hi:P.info? e=some i){gb off sLen sCap:Nat}{cur:Array Value}{t':TypeId}{mk:Nat×Nat}(hg:W.heap[gb]? =some (.cells cur t' mk))(hmk:okM mk cur.size)
 (ad:Addr) (m c:Nat) (news:List Value) (hl:news.length=m*i.size) (hnews:∀j u,news[j]? =some u->W.cell? (ad.add j)=some u) (h1:∀u∈news,u.oneCell'=true)
 (hroom:sLen+m<=sCap) (hfit:off+sLen*i.size+news.length<=cur.size):
 (Builtin.append_ #[t,t] ty #[.slice (some ⟨gb,off,none⟩) sLen sCap,.slice (some ad) m c]).run P W=
  .ok (.slice (some ⟨gb,off,none⟩) (sLen+m) sCap) (W.setRow gb (cur.toList.take (off+sLen*i.size)++news++cur.toList.drop (off+sLen*i.size+news.length)).toArray):=by
 have hf:=run_firstCells_some (P:=P) W i.size m ad m c news hl hnews
 have hst:=rsk (P:=P) gb (off+sLen*i.size) t' mk news 0 cur W hg hmk (by simpa using hfit) h1
 simp only[Nat.add_zero]at hst
 simp[Builtin.append_,run_underlying ht,sizeOf,typeInfo,hi,Builtin.lenOf,hroom,hf,addr_add',hst]
theorem cells_out{s:Sem Value}{v:Value}{Y:Array Value}{e:TypeId}(h:s.run P W= .ok v (W.drew.alloc (.cells Y e))):∃X,X=Y/\s.run P W= .ok v (W.drew.alloc (.cells X e)):=⟨Y,rfl,h⟩
theorem upd_drew(W:World)(o:Obj):Upd W (W.drew.alloc o) (fun _=>False):=
 ⟨rfl,rfl,rfl,by simp,fun k hk _=>heap_alloc_old W.drew o hk⟩
theorem Mem.relabel{n:Nat}(hm:Mem g β (find L) (fun l=>l<n) W){l:Nat}{b:Blk}(hb:find L l=some b)(hown:own g.n0 g.ms l=true):∃γ,(∀k,k<n->γ k=β k)/\γ n=β l/\Mem g γ (find (remL [l] L++[⟨n,b.cs,b.t⟩])) (fun k=>k<n+1) W:=by
 obtain⟨γ,hag,hγn⟩:∃γ:Nat->Nat,(∀k,k<n->γ k=β k)/\γ n=β l:=⟨fun k=>if k=n then β l else β k,fun k hk=>if_neg (by omega),if_pos rfl⟩
 have hln:l<n:=(hm.bL l b hb).1
 have hn0:g.n0<=n:=Nat.le_of_not_lt fun h=>Nat.lt_irrefl n (hm.low n h)
 refine⟨γ,hag,hγn,?_⟩
 have hcase:∀k c,find (remL [l] L++[⟨n,b.cs,b.t⟩]) k=some c->(k≠l/\find L k=some c/\k<n)\/(k=n/\c=⟨n,b.cs,b.t⟩):=by
  intro k c h
  rw[fap,find_remL]at h
  by_cases hk:l=k
  ·rw[show memN [l] k=true by simp[memN,hk]]at h
   simp only[if_true,find]at h
   split at h
   ·rename_i e;exact Or.inr ⟨e.symm,(Option.some.inj h).symm⟩
   ·cases h
  ·rw[show memN [l] k=false by simp[memN,hk]]at h
   simp only[Bool.false_eq_true,if_false]at h
   cases hq:find L k with
   |some d=>
    simp only[hq]at h
    exact Or.inl ⟨fun e=>hk e.symm,h,(hm.bL k d hq).1⟩
   |none=>
    simp only[hq,find]at h
    split at h
    ·rename_i e;exact Or.inr ⟨e.symm,(Option.some.inj h).symm⟩
    ·cases h
 refine⟨fun k hk=>Nat.lt_succ_of_lt (hm.low k hk),fun k hk=> ?_,?_,?_,?_,?_,hm.up⟩
 ·rw[hag k (by omega)];exact hm.old k hk
 ·intro k c h hk
  rcases hcase k c h with⟨_,h1,h2⟩|⟨rfl,rfl⟩
  ·rw[hag k h2];exact hm.new k c h1 hk
  ·rw[hγn]
   rcases own_or hown with h|h
   ·exact hm.new l b hb h
   ·by_cases h0:l<g.n0
    ·exact Or.inr ⟨l,h,(hm.old l h0).symm⟩
    ·exact hm.new l b hb (by omega)
 ·intro k c k' c' h h' ho he
  rcases hcase k c h with⟨q0,q1,q2⟩|⟨rfl,rfl⟩<;>rcases hcase k' c' h' with⟨r0,r1,r2⟩|⟨rfl,rfl⟩
  ·rw[hag k q2,hag k' r2]at he
   exact hm.inj _ _ _ _ q1 r1 ho he
  ·rw[hag k q2,hγn]at he
   exact(q0 (hm.inj _ _ _ _ hb q1 hown he.symm).symm).elim
  ·rw[hag k' r2,hγn]at he
   exact(r0 (hm.inj _ _ _ _ hb r1 hown he).symm).elim
  ·rfl
 ·intro k c h
  rcases hcase k c h with⟨_,h1,h2⟩|⟨rfl,rfl⟩
  ·obtain⟨m,k1,k2⟩:=hm.cell k c h1
   exact⟨m,k1,by rw[hag k h2,k2,dlc hag _ (hm.bL k c h1).2]⟩
  ·obtain⟨m,k1,k2⟩:=hm.cell l b hb
   exact⟨m,fun _=>k1 hown,by rw[hγn,k2,dlc hag _ (hm.bL l b hb).2]⟩
 ·intro k c h
  rcases hcase k c h with⟨_,h1,h2⟩|⟨rfl,rfl⟩
  ·exact⟨Nat.lt_succ_of_lt h2,bdm (fun _ h=>Nat.lt_succ_of_lt h) _ (hm.bL k c h1).2⟩
  ·exact⟨Nat.lt_succ_self _,bdm (fun _ h=>Nat.lt_succ_of_lt h) _ (hm.bL l b hb).2⟩
theorem rep_length(z:List SV):∀m,(rep m z).length=m*z.length
 |0=>by simp[rep]
 |m+1=>by rw[rep,List.length_append,rep_length z m,Nat.add_mul];omega
theorem bap{q:Nat}:∀ {xs ys:List SV},bdLB q xs=true->bdLB q ys=true->bdLB q (xs++ys)=true
 | [],_,_,h=>h
 |x::xs,ys,h,k=>by
  simp only[List.cons_append,bdLB,Bool.and_eq_true]at h⊢
  exact⟨h.1,bap h.2 k⟩
theorem bdLB_drop{q:Nat}:∀ {xs:List SV} {k:Nat},bdLB q xs=true->bdLB q (xs.drop k)=true
 |xs,0,h=>h
 | [],_+1,h=>h
 |x::xs,k+1,h=>by
  simp only[bdLB,Bool.and_eq_true]at h
  exact bdLB_drop (xs:=xs) (k:=k) h.2
theorem bdLB_take{q:Nat}:∀ {xs:List SV} {k:Nat},bdLB q xs=true->bdLB q (xs.take k)=true
 |_,0,_=>rfl
 | [],_+1,_=>rfl
 |x::xs,k+1,h=>by
  simp only[List.take_succ_cons,bdLB,Bool.and_eq_true]at h⊢
  exact⟨h.1,bdLB_take h.2⟩
theorem rep_bdLB{q:Nat}{z:List SV}(h:bdLB q z=true):∀k,bdLB q (rep k z)=true
 |0=>rfl
 |k+1=>bap h (rep_bdLB h k)
mutual
theorem ren_cl{ρ:Nat->Nat}:∀v,bdB 0 v=true->ren ρ v=v
 | .bool _,_| .int _ _,_| .str _,_| .nilp,_| .nils,_| .nilfn,_| .raw _,_=>rfl
 | .ptr l _,h| .ptrS l _,h| .slice l _ _ _,h=>by simp[bdB]at h
 | .fn _ a b,h=>by
   simp only[bdB,Bool.and_eq_true]at h
   rw[ren,rcl a h.1,rcl b h.2]
 | .agg cs,h=>by rw[ren,rcl cs (by simpa only[bdB]using h)]
 | .tup vs,h=>by rw[ren,rcl vs (by simpa only[bdB]using h)]
theorem rcl{ρ:Nat->Nat}:∀l,bdLB 0 l=true->renL ρ l=l
 | [],_=>rfl
 |v::vs,h=>by
  simp only[bdLB,Bool.and_eq_true]at h
  rw[renL,ren_cl v h.1,rcl vs h.2]
end
theorem Mem.less{n:Nat->Prop}{L L':Nat->Option Blk}(hm:Mem g β L n W)(h:∀k b,L' k=some b->L k=some b):Mem g β L' n W:=
 ⟨hm.low,hm.old,fun l b hb=>hm.new l b (h l b hb),fun l b l' b' hb hb'=>hm.inj l b l' b' (h l b hb) (h l' b' hb'),fun l b hb=>hm.cell l b (h l b hb),fun l b hb=>hm.bL l b (h l b hb),hm.up⟩
theorem step_append_own0(hT:TOk P T){o:Oper}{m0 N:Nat}{ms:List Nat}(hg:GI g m0 ms N)(hd':dstLt N o.dst=true){s x:Operand}{t:Nat}(ho:o.op= .call {callee:= .builtin .append,args:= #[s,x],argTypes:= #[t,t]})
 {i:Ty} (ht:T t=some i) {e es:Nat} (hd:i.d= .sl e es) {j:Ty} (hj:T e=some j) {B:Nat} (hB:(P.info? e).map (·.bytes)=some B) (h0:0<es)
 {l n1 c:Nat} (hs:ev (look F) s=some (.slice l 0 n1 c)) {cs:List SV} (hl:find L l=some ⟨l,cs,e⟩) (hown:own m0 ms l=true) (hn1:n1<=c) (hcs:cs.length=c*es) (hc:c<=maxLen)
 {k ox m mc:Nat} (hx:ev (look F) x=some (.slice k ox m mc)) {ds:List SV} {tk:TypeId} (hk:find L k=some ⟨k,ds,tk⟩) (hkl:0<m->ox+m*es<=ds.length) (hones:ones ((ds.drop ox).take (m*es))=true)
 (h63:n1+m<=maxLen) (hbytes:(n1+m)*B<=140737488355328) {K:FF->LL->Nat->Prop}
 (hK:∀c' tail,n1+m<=c'->c'<=maxLen->tail.length=(c'-(n1+m))*es->(∀q,bdLB q cs=true->bdLB q j.z=true->bdLB q tail=true)->K (putO F o.dst (.slice n 0 (n1+m) c')) (remL [l] L++[⟨n,cs.take (n1*es)++(ds.drop ox).take (m*es)++tail,e⟩]) (n+1)):Step g P o K F L n:=by
 obtain⟨info,z,hu,hi,hz,hsz,hby,hes,hzc,hzb,hzn⟩:=sl_facts hT ht hd hj hB
 have hle:n1*es<=cs.length:=by rw[hcs];exact Nat.mul_le_mul_right _ hn1
 have hnl:((ds.drop ox).take (m*es)).length=m*es:=by
  rcases Nat.eq_zero_or_pos m with rfl|hm0
  ·simp
  ·have:=hkl hm0
   rw[List.length_take,List.length_drop];omega
 by_cases hr:n1+m<=c
 ·have hfit:(n1+m)*es<=c*es:=Nat.mul_le_mul_right _ hr
  rw[Nat.add_mul]at hfit
  have hsp:splice cs (n1*es) ((ds.drop ox).take (m*es))=cs.take (n1*es)++(ds.drop ox).take (m*es)++cs.drop (n1*es+m*es):=by rw[splice,hnl]
  rw[<-hg.n0,<-hg.ms]at hown
  have hKr:=hK c (cs.drop (n1*es+m*es)) hr hc (by rw[List.length_drop,hcs,Nat.sub_mul,Nat.add_mul]) (fun q h _=>bdLB_drop h)
  rw[<-hsp]at hKr
  refine step_gen hg hd' fun β a W hm hf=> ?_
  obtain⟨e1,b1⟩:=evd hf hs
  obtain⟨e2,b2⟩:=evd hf hx
  obtain⟨mk,hmk,hcell⟩:=hm.cell l _ hl
  have hvs:bdL (fun l=>l<n) ((ds.drop ox).take (m*es)):=bdL_sub (hm.bL k _ hk).2 _ _
  have hst:=hm.store (o:=n1*es) hl (vs:=(ds.drop ox).take (m*es)) (by show n1*es+_<=cs.length;omega) hown hvs
  rw[show upL (find L) l ⟨l,splice cs (n1*es) ((ds.drop ox).take (m*es)),e⟩=find (updL L l (splice cs (n1*es) ((ds.drop ox).take (m*es))))from by
   funext q
   rw[find_updL]
   simp only[upL,hl]
   rfl]at hst
  obtain⟨γ,hag,hγ,hm2⟩:=hst.relabel (l:=l) (b:=⟨l,splice cs (n1*es) ((ds.drop ox).take (m*es)),e⟩) (by rw[find_updL,if_pos rfl,hl];rfl) hown
  have hrun:(execOp a.eval o).run P W= .ok (.value (.slice (some ⟨β l,0,none⟩) (n1+m) c)) (W.setRow (β l) (denL β (splice cs (n1*es) ((ds.drop ox).take (m*es)))).toArray):=by
   refine run_append_op ho ?_
   rw[e1,e2]
   have:=run_append_room_ok (P:=P) (ty:=o.type) (off:=0) (sLen:=n1) (sCap:=c) hu hi hcell (by simpa [dle]using hmk hown) ⟨β k,ox,none⟩ m mc (denL β ((ds.drop ox).take (m*es))) (by rw[dle,List.length_map,hnl,hsz]) (cells_from hm hk ox (m*es)) (fun u hu=>by
    rw[dle]at hu
    obtain⟨y,hy,rfl⟩:=List.mem_map.1 hu
    exact one_den β (ones_all hones y hy)) hr (by
     rw[hsz]
     simp only[List.size_toArray,dle,List.length_map]
     omega)
   simp only[den]
   rw[this,splice_den,hsz]
   simp[dle]
  refine⟨.slice n 0 (n1+m) c,_,remL [l] L++[⟨n,splice cs (n1*es) ((ds.drop ox).take (m*es)),e⟩],n+1,γ,hrun.trans (by simp only[den,hγ]),hm2.less fun q b hq=> ?_,hag,Nat.le_succ n,Nat.lt_succ_self n,hKr⟩
  ·rw[fap,find_remL]at hq⊢
   rw[find_updL]
   by_cases hql:q=l
   ·rw[show memN [l] q=true by simp[memN,hql]]at hq⊢
    exact hq
   ·rw[show memN [l] q=false by simp[memN,Ne.symm hql]]at hq⊢
    rw[if_neg hql]
    exact hq
 ·refine step_gen hg hd' fun β a W hm hf=> ?_
  obtain⟨e1,b1⟩:=evd hf hs
  obtain⟨e2,b2⟩:=evd hf hx
  have hsmall:n1+m<=9223372036854775807:=by simp only[maxLen]at h63;omega
  have hold:=cells_from hm hl 0 (n1*es)
  have hol:(denL β (((⟨l,cs,e⟩:Blk).cs.drop 0).take (n1*es))).length=n1*info.size:=by
   rw[dle,List.length_map,List.length_take,List.length_drop,hsz];show min _ (cs.length-0)=_;omega
  obtain⟨X,hX,hrun⟩:=cells_out (run_append_grow (P:=P) W t o.type e info z hu hi hz ⟨β l,0,none⟩ n1 c _ hol hold ⟨β k,ox,none⟩ m mc (denL β ((ds.drop ox).take (m*es))) (by rw[dle,List.length_map,hnl,hsz]) (cells_from hm hk ox (m*es)) (by omega) (by omega) (growslice_fits (by omega) (by rw[hby];exact hbytes)))
  have hge:=grownCap_ge W (n1+m) c e
  have hcells:(W.drew.alloc (.cells X e)).heap[W.heap.size]? =some (.cells (denL β (cs.take (n1*es)++(ds.drop ox).take (m*es)++rep (grownCap W (n1+m) c e-(n1+m)) j.z)).toArray e (0,0)):=by
   rw[show(W.drew.alloc (.cells X e)).heap[W.heap.size]? =some (.cells X e)from heap_alloc_new W.drew _,hX]
   congr 2
   apply Array.ext'
   have hzz:=zeroCells_den β (hzc β) (by intro h;rw[h]at hzn;simp at hzn;omega) (grownCap W (n1+m) c e-(n1+m))
   simp[hzz,dle]
  obtain⟨γ,h1,h2,h3⟩:=hm.fresh (k:=n) (fun h=>Nat.lt_irrefl n h) (cs:=cs.take (n1*es)++(ds.drop ox).take (m*es)++rep (grownCap W (n1+m) c e-(n1+m)) j.z) (by
   rw[bdi]
   intro v hv
   rcases List.mem_append.1 hv with hv|hv
   ·rcases List.mem_append.1 hv with hv|hv
    ·exact(bdi _ _).1 (hm.bL l _ hl).2 v (List.mem_of_mem_take hv)
    ·exact(bdi _ _).1 (bdL_sub (hm.bL k _ hk).2 _ _) v hv
   ·exact(bdi _ _).1 (rep_bd (hzb _) _) v hv) e (upd_drew W _) (Nat.le_refl _) (m:=(0,0)) (Or.inl (Nat.le_refl 0)) hcells
  have hrl:(rep (grownCap W (n1+m) c e-(n1+m)) j.z).length=(grownCap W (n1+m) c e-(n1+m))*es:=by
   rw[rep_length,hzn]
  refine⟨.slice n 0 (n1+m) (grownCap W (n1+m) c e),W.drew.alloc (.cells X e),_,n+1,γ,run_append_op ho ?_,?_,h1,Nat.le_succ n,Nat.lt_succ_self n,hK _ _ hge (grownCap_le_maxLen W (n1+m) c e h63) hrl (fun q _ h=>rep_bdLB h _)⟩
  ·rw[e1,e2]
   simp only[den,h2]
   exact hrun
  ·rw[<-succ_p]
   refine h3.less fun q b hq=> ?_
   rw[fap,find_remL]at hq
   simp only[upL]
   by_cases hqn:q=n
   ·rw[if_pos hqn]
    have hno:find L q=none:=by
     cases hq2:find L q with
     |none=>rfl
     |some d=>have:=(hm.bL q d hq2).1;omega
    rw[hno,ite_self]at hq
    simpa [find,hqn]using hq
   ·rw[if_neg hqn]
    split at hq
    ·rename_i d hd2
     split at hd2
     ·cases hd2
     ·rw[hd2];exact hq
    ·simp only[find]at hq
     rw[if_neg (fun e=>hqn e.symm)]at hq
     cases hq
theorem step_append_own(hT:TOk P T){o:Oper}{m0 N:Nat}{ms:List Nat}(hg:GI g m0 ms N)(hd':dstLt N o.dst=true){s x:Operand}{t:Nat}(ho:o.op= .call {callee:= .builtin .append,args:= #[s,x],argTypes:= #[t,t]})
 {i:Ty} (ht:T t=some i) {e es:Nat} (hd:i.d= .sl e es) {j:Ty} (hj:T e=some j) {B:Nat} (hB:(P.info? e).map (·.bytes)=some B) (h0:0<es)
 {l n1 c:Nat} (hs:ev (look F) s=some (.slice l 0 n1 c)) {cs:List SV} (hl:find L l=some ⟨l,cs,e⟩) (hown:own m0 ms l=true) (hn1:n1<=c) (hcs:cs.length=c*es) (hc:c<=maxLen)
 {k ox m mc:Nat} (hx:ev (look F) x=some (.slice k ox m mc)) {ds:List SV} {tk:TypeId} (hk:find L k=some ⟨k,ds,tk⟩) (hkl:ox+m*es<=ds.length) (hones:ones ((ds.drop ox).take (m*es))=true)
 (h63:n1+m<=maxLen) (hbytes:(n1+m)*B<=140737488355328) {K:FF->LL->Nat->Prop}
 (hK:∀c' tail,n1+m<=c'->c'<=maxLen->tail.length=(c'-(n1+m))*es->(∀q,bdLB q cs=true->bdLB q j.z=true->bdLB q tail=true)->K (putO F o.dst (.slice n 0 (n1+m) c')) (remL [l] L++[⟨n,cs.take (n1*es)++(ds.drop ox).take (m*es)++tail,e⟩]) (n+1)):Step g P o K F L n:=
 step_append_own0 hT hg hd' ho ht hd hj hB h0 hs hl hown hn1 hcs hc hx hk (fun _=>hkl) hones h63 hbytes hK
theorem step_append_nil(hT:TOk P T){o:Oper}{m0 N:Nat}{ms:List Nat}(hg:GI g m0 ms N)(hd':dstLt N o.dst=true){s x:Operand}{t:Nat}(ho:o.op= .call {callee:= .builtin .append,args:= #[s,x],argTypes:= #[t,t]})
 {i:Ty} (ht:T t=some i) {e es:Nat} (hd:i.d= .sl e es) {j:Ty} (hj:T e=some j) {B:Nat} (hB:(P.info? e).map (·.bytes)=some B) (h0:0<es)
 (hs:ev (look F) s=some .nils) {k ox m mc:Nat} (hx:ev (look F) x=some (.slice k ox m mc)) {ds:List SV} {tk:TypeId} (hk:find L k=some ⟨k,ds,tk⟩) (hkl:ox+m*es<=ds.length)
 (hm0:0<m) (h63:m<=maxLen) (hbytes:m*B<=281474976710656) {K:FF->LL->Nat->Prop}
 (hgrow:∀c',m<=c'->c'<=maxLen->K (putO F o.dst (.slice n 0 m c')) (L++[⟨n,(ds.drop ox).take (m*es)++rep (c'-m) j.z,e⟩]) (n+1)):Step g P o K F L n:=by
 obtain⟨info,z,hu,hi,hz,hsz,hby,hes,hzc,hzb,hzn⟩:=sl_facts hT ht hd hj hB
 have hnews:∀ (β:Nat->Nat),(denL β ((ds.drop ox).take (m*es))).length=m*info.size:=fun β=>by
  rw[dle,List.length_map,List.length_take,List.length_drop,hsz];omega
 refine step_new hg hd' fun β a W hm hf=> ?_
 obtain⟨e1,b1⟩:=evd hf hs
 obtain⟨e2,b2⟩:=evd hf hx
 have hsmall:m<=9223372036854775807:=by simp only[maxLen]at h63;omega
 obtain⟨X,hX,hrun⟩:=cells_out (run_append_nil (P:=P) W t o.type e info z hu hi hz ⟨β k,ox,none⟩ m mc _ (hnews β) (cells_from hm hk ox (m*es)) hm0 (by omega) (by rw[hby];exact hbytes))
 have hge:=grownCap_ge W m 0 e
 refine⟨.slice n 0 m (grownCap W m 0 e),W.drew.alloc (.cells X e),W.heap.size,_,e,(0,0),fun γ hγ=>run_append_op ho ?_,upd_drew W _,Nat.le_refl _,Or.inl (Nat.le_refl 0),?_,?_,Nat.lt_succ_self n,hgrow _ hge (grownCap_le_maxLen W m 0 e h63)⟩
 ·rw[e1,e2]
  simp only[den,hγ]
  exact hrun
 ·rw[show(W.drew.alloc (.cells X e)).heap[W.heap.size]? =some (.cells X e)from heap_alloc_new W.drew _,hX]
  congr 2
  apply Array.ext'
  have hzz:=zeroCells_den β (hzc β) (by intro h;rw[h]at hzn;simp at hzn;omega) (grownCap W m 0 e-m)
  simp[hzz,dle]
 ·rw[bdi]
  intro v hv
  rcases List.mem_append.1 hv with hv|hv
  ·exact(bdi _ _).1 (bdL_sub (hm.bL k _ hk).2 _ _) v hv
  ·exact(bdi _ _).1 (rep_bd (hzb _) _) v hv
def bts(s:ByteArray):List SV:=s.data.toList.map fun b=> .int .u8 b.toNat
theorem bts_bd(p:Nat->Prop)(s:ByteArray):bdL p (bts s):=by
 rw[bdi]
 intro v hv
 obtain⟨b,_,rfl⟩:=List.mem_map.1 hv
 trivial
theorem bts_den(β:Nat->Nat)(s:ByteArray):denL β (bts s)=s.data.toList.map fun b=> .int .u8 b.toNat:=by
 rw[dle,bts,List.map_map];rfl
theorem run_convert_op{o:Oper}{x:Operand}{src dst:TypeId}(ho:o.op= .convert src dst x){v:Value}{W':World}(h:(convert src dst (a.eval x)).run P W= .ok v W'):(execOp a.eval o).run P W= .ok (.value v) W':=by
 unfold execOp
 simp only[ho,Sem.run_bind,Sem.run_pure,Result.andThen_ok,h]
theorem str_of(hT:TOk P T){t:Nat}{i:Ty}(ht:T t=some i)(hd:i.d= .s):P.underlying t=some .string:=by
 have:=hT t i ht
 unfold okTyB at this
 simp only[hd]at this
 cases hu:P.underlying t with
 |none=>simp[hu]at this
 |some d=>cases d<;>simp_all
theorem step_bytes(hT:TOk P T){o:Oper}{m0 N:Nat}{ms:List Nat}(hg:GI g m0 ms N)(hd':dstLt N o.dst=true){x:Operand}{src dst:Nat}(ho:o.op= .convert src dst x){i j:Ty}(hs:T src=some i)(hsd:i.d= .s){e es:Nat}(ht:T dst=some j)(hd:j.d= .sl e es)(he:P.underlying e=some (.int .u8))
 {s:ByteArray} (hx:ev (look F) x=some (.str s)) {K:FF->LL->Nat->Prop} (hK:∀c,s.size<=c->K (putO F o.dst (.slice n 0 s.size c)) (L++[⟨n,bts s++List.replicate (c-s.size) (.int .u8 0),e⟩]) (n+1)):Step g P o K F L n:=by
 have h1:=str_of hT hs hsd
 have h2:=(sl_of hT ht hd).1
 refine step_new hg hd' fun β a W hm hf=> ?_
 obtain⟨e1,b1⟩:=evd hf hx
 have hrun:=run_bytes_of_string (P:=P) W src dst e s h1 h2 he
 have hge:=grownCap_ge W s.size 0 e
 have hsz:(bytesRow s (grownCap W s.size 0 e)).size=(bts s++List.replicate (grownCap W s.size 0 e-s.size) (SV.int .u8 0)).length:=by
  simp[bytesRow,bts]
 refine⟨.slice n 0 s.size (grownCap W s.size 0 e),_,W.heap.size,_,e,((bytesRow s (grownCap W s.size 0 e)).size,(bytesRow s (grownCap W s.size 0 e)).size+1),fun γ hγ=>run_convert_op ho (W':=W.drew.alloc (.cells (bytesRow s (grownCap W s.size 0 e)) e ((bytesRow s (grownCap W s.size 0 e)).size,(bytesRow s (grownCap W s.size 0 e)).size+1))) ?_,upd_drew W _,Nat.le_refl _,Or.inr ?_,?_,?_,Nat.lt_succ_self n,hK _ hge⟩
 ·rw[e1]
  simp only[den,hγ]
  exact hrun
 ·rw[hsz];exact Nat.le_refl _
 ·rw[show(W.drew.alloc (.cells (bytesRow s (grownCap W s.size 0 e)) e ((bytesRow s (grownCap W s.size 0 e)).size,(bytesRow s (grownCap W s.size 0 e)).size+1))).heap[W.heap.size]? =some (.cells (bytesRow s (grownCap W s.size 0 e)) e ((bytesRow s (grownCap W s.size 0 e)).size,(bytesRow s (grownCap W s.size 0 e)).size+1))from heap_alloc_new W.drew _]
  congr 2
  apply Array.ext'
  simp only[bytesRow,Array.toList_append,Array.toList_map,Array.toList_replicate,dle,List.map_append,List.map_replicate,bts,List.map_map]
  rfl
 ·rw[bdi]
  intro v hv
  rcases List.mem_append.1 hv with hv|hv
  ·exact(bdi _ _).1 (bts_bd _ _) v hv
  ·rw[(List.mem_replicate.1 hv).2];trivial
theorem step_string(hT:TOk P T){o:Oper}{m0 N:Nat}{ms:List Nat}(hg:GI g m0 ms N)(hd':dstLt N o.dst=true){x:Operand}{src dst:Nat}(ho:o.op= .convert src dst x){i j:Ty}(hs:T dst=some i)(hsd:i.d= .s){e es:Nat}(ht:T src=some j)(hd:j.d= .sl e es)(he:P.underlying e=some (.int .u8))
 {l q m c:Nat} (hx:ev (look F) x=some (.slice l q m c)) {b:Blk} (hl:find L l=some b) {s:ByteArray} (hb:(b.cs.drop q).take m=bts s) (hm:s.size=m) {K:FF->LL->Nat->Prop} (hK:K (putO F o.dst (.str s)) L n):Step g P o K F L n:=by
 have h1:=str_of hT hs hsd
 have h2:=(sl_of hT ht hd).1
 refine step_val hg hd' (v:= .str s) (fun β a W hm' hf=> ?_) hK
 obtain⟨e1,b1⟩:=evd hf hx
 refine⟨run_convert_op ho ?_,trivial⟩
 rw[e1]
 have hc:=cells_from hm' hl q m
 rw[hb,bts_den]at hc
 have:=run_convert_bytes_back (P:=P) W src dst e ⟨β l,q,none⟩ c s.data.toList h2 he h1 (fun k hk=>hc k _ (by simp[List.getElem?_eq_getElem (show k<s.data.toList.length from hk)]))
 have hlen:s.data.toList.length=m:=by rw[<-hm];rfl
 rw[hlen]at this
 simpa [den]using this
theorem Con.from_calls{f:FuncId}{args:List SV}{val:SV}(hcb:Callable P f)(h:∀W,Calls P f (denL id args).toArray W fun e W'=>e= .returned (den id val)/\Below W.heap.size W W')(hb:bdL (fun _=>False) args)(hv:bd (fun _=>False) val):Con P f args [] 0 [] (fun v _ _=>v=val):=by
 refine⟨hcb,fun β W0 _=> ?_⟩
 rw[dlc (p:=fun _=>False) (β:=id) (γ:=β) (fun l hl=>hl.elim) args hb]
 refine(h W0).mono ?_
 rintro e W ⟨rfl,hB⟩
 refine⟨val,[],0,β,rfl,?_,bd_mono (fun l h=>h.elim) val hv,⟨fun l h=>(by cases h),fun l h=>(by cases h),fun l b h=>(by cases h),fun l b l' b' h=>(by cases h),fun l b h=>(by cases h),fun l b h=>(by cases h),hB.os,hB.tape,hB.output,hB.size,fun k hk _=>hB.block k hk⟩⟩
 rw[den_congr (p:=fun _=>False) (β:=id) (γ:=β) (fun l hl=>hl.elim) val hv]
theorem step_buildSlice0(hT:TOk P T){o:Oper}{m0 N:Nat}{ms:List Nat}(hg:GI g m0 ms N)(hd':dstLt N o.dst=true){t:Nat}(ho:o.op= .buildSlice t 0 #[]){i:Ty}(ht:T t=some i){e es:Nat}(hd:i.d= .sl e es){K:FF->LL->Nat->Prop}
 (hK:K (putO F o.dst (.slice n 0 0 0)) (L++[⟨n,[],e⟩]) (n+1)):Step g P o K F L n:=by
 obtain⟨hu,hs⟩:=sl_of hT ht hd
 refine step_new hg hd' fun β a W hm hf=> ?_
 have hrun:(Instr.buildSlice t 0 #[]).run P W= .ok (.slice (some ⟨W.heap.size,0,none⟩) 0 0) (W.alloc (.cells #[] e)):=by
  unfold Instr.buildSlice
  simp only[Sem.run_bind,run_underlying hu,Result.andThen_ok,rsz hs]
  have h0:∀f:Nat->Value,Array.map f (Array.range 0)= #[]:=fun f=>by apply Array.ext';simp
  simp[Instr.fill,newRow,h0]
 refine⟨.slice n 0 0 0,W.alloc (.cells #[] e),W.heap.size,[],e,(0,0),fun γ hγ=> ?_,⟨rfl,rfl,rfl,by simp,fun k hk _=>heap_alloc_old W _ hk⟩,Nat.le_refl _,Or.inl (Nat.le_refl 0),heap_alloc_new W _,trivial,Nat.lt_succ_self n,hK⟩
 unfold execOp
 simp only[ho,Sem.run_bind,Sem.run_pure,Result.andThen_ok,hrun,den,hγ,List.map_toArray,List.map_nil]
end
end Go.Vg
