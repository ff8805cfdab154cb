/-
  This text proves what these texts prove: VgS, VgU, VgV, DgA, VgW. Conditions: those of each theorem.
-/
import Derived.ArgAppend
import Derived.Maps.AppendAt
import Derived.Laws.IdiomStrings
import Derived.Laws.MakeOwn
import Derived.Laws.Slices
import Derived.Laws.Externs
import Derived.Shelf.Spec.BitsCarry
import Derived.Test.YtfocopihipejfaaGreatB05
set_option maxHeartbeats 8000000
set_option linter.all false
namespace Go.Vg
open Go.RowKit
mutual
/-- its labels are below m-/
def gh(m:Nat):SV->Bool
 | .ptr l _| .gM l _| .slice l _ _ _=>Nat.blt l m
 | .fn _ a b=>an m a&&an m b
 | .agg cs=>an m cs
 | .aR vs=>an m vs
 |_=>true
def an(m:Nat):List SV->Bool
 | []=>true
 |v::vs=>gh m v&&an m vs
end
theorem ao{a b:Nat}(h:Nat.blt a b=true):a<b:=g_ h
mutual
theorem Mj{m:Nat}:∀v,gh m v=true->bd (fun l=>l<m) v
 | .bool _,_| .int _ _,_| .str _,_| .cR,_| .au,_| .aH,_| .raw _,_=>trivial
 | .ptr _ _,h| .gM _ _,h| .slice _ _ _ _,h=>ao (by simpa only[gh]using h)
 | .fn _ a b,h=>by
   simp only[gh,dq]at h
   exact⟨ak a h.1,ak b h.2⟩
 | .agg cs,h=>ak cs (by simpa only[gh]using h)
 | .aR vs,h=>ak vs (by simpa only[gh]using h)
theorem ak{m:Nat}:∀l,an m l=true->ay (fun l=>l<m) l
 | [],_=>trivial
 |v::vs,h=>by
  simp only[an,dq]at h
  exact⟨Mj v h.1,ak vs h.2⟩
end
mutual
theorem adg:∀v,cK id v=v
 | .bool _| .int _ _| .str _| .cR| .au| .aH| .raw _=>rfl
 | .ptr _ _| .gM _ _| .slice _ _ _ _=>rfl
 | .fn _ a b=>by rw[cK,Cq a,Cq b]
 | .agg cs=>by rw[cK,Cq cs]
 | .aR vs=>by rw[cK,Cq vs]
theorem Cq:∀l,bj id l=l
 | []=>rfl
 |v::vs=>by rw[bj,adg v,Cq vs]
end
def Ls(m:Nat)(F:FF):FF->Prop
 | []=>True
 |(t,v)::F'=>look F t=some v/\gh m v=true/\Ls m F F'
def E0(m:Nat)(L:LL):LL->Prop
 | []=>True
 |b::L'=>find L b.l=some b/\Nat.blt b.l m=true/\an m b.cs=true/\E0 m L L'
theorem aeD{m:Nat}{F:FF}:∀ {F':FF},Ls m F F'->Hh id m F F'
 | [],_=>trivial
 |(t,v)::F',h=>⟨by rw[adg];exact h.1,Mj _ h.2.1,aeD h.2.2⟩
theorem aeF{n0 m:Nat}{L:LL}:∀ {L':LL},E0 m L L'->EZ id n0 m L L'
 | [],_=>trivial
 |b::L',h=>⟨by rw[Cq];exact h.1,h.2.1,by
   rcases Nat.lt_or_ge b.l n0 with h1|h1
   ·rw[show Nat.blt b.l n0=true from oD h1];rfl
   ·rw[show Nat.ble n0 (id b.l)=true from oD h1,Bool.or_true],ak _ h.2.2.1,aeF h.2.2.2⟩
theorem YY{f:Nat->Bool}(h:∀l,f l=true):∀n,below f n=true
 |0=>rfl
 |n+1=>by rw[below,h n,YY h n];rfl
theorem fD{n0 n':Nat}{F F':FF}{L L':LL}{n:Nat}(hF:Ls n' F F')(hL:E0 n' L L')(hd:tC (L'.map aC.l)=true)(hn:Nat.ble n0 n'=true):tW n0 id F' L' n' F L n:=
 ⟨aeD hF,aeF hL,hd,hn,YY (fun l=>zk l) n0⟩
/-- the same loop head, all parts by looking -/
theorem a_ {n0 n' : Nat} {F F' : FF} {L L' : LL} {n : Nat} (hF : Ls n' F F' := by repeat' (first | exact trivial | refine ⟨rfl, rfl, ?_⟩)) (hL : E0 n' L L' := by repeat' (first | exact trivial | refine ⟨rfl, rfl, rfl, ?_⟩)) (hd : tC (L'.map aC.l) = true := by rfl) (hn : Nat.ble n0 n' = true := by rfl) : tW n0 id F' L' n' F L n :=
 fD hF hL hd hn
theorem aS {n0 n' : Nat} {F F' : FF} {L L' : LL} {n : Nat} (hL : E0 n' L L') (hF : Ls n' F F' := by repeat' (first | exact trivial | refine ⟨rfl, rfl, ?_⟩)) (hd : tC (L'.map aC.l) = true := by rfl) (hn : Nat.ble n0 n' = true := by rfl) : tW n0 id F' L' n' F L n :=
 fD hF hL hd hn
theorem dJ {P : Program} {g : G} {F : FF} {L : LL} {n : Nat} {o : Oper} {c : Call} {m0 N : Nat} {ms : List Nat} (hg : GI g m0 ms N) {f : FuncId} {args : List SV} {val : SV} (fg : ah P f args [] 0 [] (fun w _ _ => w = val)) {K : FF → LL → Nat → Prop} (hK : K (cH F o.dst val) L n) (ho : o.op = .call c := by rfl) (aA : dD N o.dst = true := by rfl) (hc : callee (look F) c = some (f, args) := by rfl) (hb : bd (fun _ => False) val := by first | trivial | simp [bd, ay, ws, aw] | simp [bd, ay, l_, ws, aw]) : Step g P o K F L n :=
  fe ho hg aA hc fg fun _ _ _ h => by subst h; exact ⟨hb, hK⟩
theorem aZ {P : Program} {g : G} {F : FF} {L : LL} {n : Nat} {o : Oper} {c : Call} {m0 N : Nat} {ms : List Nat} (hg : GI g m0 ms N) {f : FuncId} {us args : List SV} {Lp : LL} {n0 : Nat} {val : SV} (fg : ah P f args Lp n0 [] (fun w _ _ => w = val)) (ρ : Nat → Nat) (l6 : lu ρ (find L) Lp) {K : FF → LL → Nat → Prop} (hK : K (cH F o.dst (cK ρ val)) L n) (ho : o.op = .call c := by rfl) (aA : dD N o.dst = true := by rfl) (hc : callee (look F) c = some (f, us) := by rfl) (jh : us = bj ρ args := by rfl) (hb : bd (fun l => l < n0) val := by first | trivial | simp [bd, ay, ws, aw] | simp [bd, ay, l_, ws, aw]) (cW : bd (fun l => l < n) (cK ρ val) := by first | trivial | simp [bd, ay, cK, bj, ws, aw] | simp [bd, ay, cK, bj, l_, ws, aw]) : Step g P o K F L n :=
  fT ho hg aA hc fg ρ jh l6 fun _ _ _ h => by subst h; exact ⟨hb, cW, hK⟩
theorem bq {P : Program} {g : G} {F : FF} {L : LL} {n : Nat} {o : Oper} {c : Call} {m0 N : Nat} {ms : List Nat} (hg : GI g m0 ms N) {f : FuncId} {us args : List SV} {Lp NB : LL} {n0 n1 : Nat} {mc : List Nat} {val : SV} (fg : ah P f args Lp n0 mc (fun w L q => w = val ∧ L = NB ∧ q = n1)) (ρ : Nat → Nat) (l6 : lu ρ (find L) Lp) {K : FF → LL → Nat → Prop} (hK : K (cH F o.dst (cK (eD ρ n0 n) val)) (nJ (mc.map ρ ++ (xq n0 NB).map ρ) L ++ aG (eD ρ n0 n) NB) (n + (n1 - n0)))
  (ho : o.op = .call c := by rfl) (aA : dD N o.dst = true := by rfl) (hc : callee (look F) c = some (f, us) := by rfl) (jh : us = bj ρ args := by rfl) (hi : Oj mc ρ Lp = true := by rfl) (Um : below (fun l => Nat.blt (ρ l) n) n0 = true := by rfl) (ti : mc.all (fun m => own m0 ms (ρ m) && eo (Lp.map aC.l) m && Nat.blt m n0) = true := by rfl) (iE : NB.all (fun b => Nat.ble n0 b.l || eo (Lp.map aC.l) b.l) = true := by rfl) : Step g P o K F L n :=
  gQ ho hg aA hc fg ρ jh l6 hi Um ti fun _ _ _ h _ => by obtain ⟨rfl, rfl, rfl⟩ := h; exact ⟨iE, hK⟩
theorem bN {P : Program} {g : G} {F : FF} {M : LL} {n : Nat} {o : Oper} {c : Call} {m0 N : Nat} {ms : List Nat} (hg : GI g m0 ms N) {f : FuncId} {args : List SV} {val : SV} (fg : ah P f args [] 0 [] (fun w _ _ => w = val)) {K : SV → LL → Nat → Prop} (hK : K val [] n) (ho : o.op = .call c := by rfl) (aA : dD N o.dst = true := by rfl) (hc : callee (look F) c = some (f, args) := by rfl) (hb : bd (fun _ => False) val := by first | trivial | simp [bd, ay, ws, aw] | simp [bd, ay, l_, ws, aw]) : zu g P o F M n K :=
  eV (Dl ho hg aA hc fg (fun _ _ _ h => h) hb) hK
theorem aY {P : Program} {g : G} {F : FF} {M : LL} {n : Nat} {o : Oper} {c : Call} {m0 N : Nat} {ms : List Nat} (hg : GI g m0 ms N) {f : FuncId} {us args : List SV} {Lp : LL} {n0 : Nat} {val : SV} (fg : ah P f args Lp n0 [] (fun w _ _ => w = val)) (ρ : Nat → Nat) (l6 : lu ρ (qD o (find M)) Lp) {K : SV → LL → Nat → Prop} (hK : K val [] n) (ho : o.op = .call c := by rfl) (aA : dD N o.dst = true := by rfl) (hc : callee (look F) c = some (f, us) := by rfl) (jh : us = bj ρ args := by rfl) (hb : bd (fun _ => False) val := by first | trivial | simp [bd, ay, ws, aw] | simp [bd, ay, l_, ws, aw]) : zu g P o F M n K :=
  eV (enr ho hg aA hc fg ρ jh l6 (fun _ _ _ h => h) hb) hK
def aw(K:IntKind)(f:Nat->Int):Nat->Nat->List SV
 |_,0=> []
 |s,n+1=> .int K (f s)::aw K f (s+1) n
theorem tB(K:IntKind)(f:Nat->Int):∀s n,(aw K f s n).length=n
 |_,0=>rfl
 |s,n+1=>by rw[aw,mU,tB]
theorem GL(K:IntKind)(f:Nat->Int){k:Nat}:∀ {s n:Nat},k<n->(aw K f s n)[k]? =some (.int K (f (s+k))):=by
 induction k with
 |zero=>intro s n h;cases n with
  |zero=>omega
  |succ n=>rfl
 |succ k ih=>intro s n h;cases n with
  |zero=>omega
  |succ n=>rw[aw,List.getElem?_cons_succ,ih (by omega),show s+1+k=s+(k+1) by omega]
theorem rK{K:IntKind}{f g:Nat->Int}:∀ {s n:Nat},(∀j,s<=j->j<s+n->f j=g j)->aw K f s n=aw K g s n
 |_,0,_=>rfl
 |s,n+1,h=>by rw[aw,aw,h s (by omega) (by omega),rK fun j h1 h2=>h j (by omega) (by omega)]
theorem AS(m:Nat)(K:IntKind)(f:Nat->Int):∀s n,an m (aw K f s n)=true
 |_,0=>rfl
 |s,n+1=>by rw[aw,an,AS m K f (s+1) n];rfl
theorem US{K:IntKind}{f g:Nat->Int}{v:Int}{k:Nat}:∀ {s n:Nat},k<n->g (s+k)=v->(∀j,s<=j->j<s+n->j≠s+k->g j=f j)->Vg.splice (aw K f s n) k [.int K v]=aw K g s n:=by
 induction k with
 |zero=>intro s n h hv hg;cases n with
  |zero=>omega
  |succ n=>
   rw[gY]at hv
   rw[aw,aw,hv,rK (f:=g) (g:=f) fun j h1 h2=>hg j (by omega) (by omega) (by omega)]
   rfl
 |succ k ih=>intro s n h hv hg;cases n with
  |zero=>omega
  |succ n=>
   rw[aw,aw,hg s (by omega) (by omega) (by omega),<-ih (s:=s+1) (n:=n) (by omega) (by rw[show s+1+k=s+(k+1) by omega];exact hv) fun j h1 h2 h3=>hg j (by omega) (by omega) (by omega)]
   simp only[Vg.splice,LU,du,mU,pN]
   rw[show k+1+(0+1)=(k+(0+1))+1 by omega,List.drop_succ_cons]
section
variable {P:Program}{g:G}{T:Nat->Option Ty}{A:Ar}
theorem adb(hT:cI P T)(hA:A=Ar.real){n0 N:Nat}{ms:List Nat}(hg:GI g n0 ms N)(ql:P.follows .mixedOrders=true){id:Nat}{ops:Array Oper}(hB:zI ops.toList=true)(hd:(ops.toList.all fun o=>dD N o.dst)=true){K:FF->LL->Nat->Prop}{F:FF}{L:LL}{n:Nat}
 (h:qJ T A P g n0 ms (fun _ _=>true) ops.toList (eR [] ops.toList) K ops.toList 0 F L [] n):tV g P id ops K F L n:=by
 subst hA
 exact apv hT hg.n0 hg.ms ql hB (fun o ho=>hg.dst (gf.1 hd o ho)) h
theorem apt(hT:cI P T)(hA:A=Ar.real){n0 N:Nat}{ms:List Nat}(hg:GI g n0 ms N)(ql:P.follows .mixedOrders=true){id:Nat}{ops:Array Oper}(hB:zI ops.toList=true)(hd:(ops.toList.all fun o=>dD N o.dst)=true){K:FF->LL->Nat->Prop}{F:FF}{L:LL}{n:Nat}
 (h:∀m,eR [] ops.toList=m->qJ T A P g n0 ms (fun _ _=>true) ops.toList m K ops.toList 0 F L [] n):tV g P id ops K F L n:=
 adb hT hA hg ql hB hd (h _ rfl)
theorem EG(hT:cI P T)(hA:A=Ar.real){n0 N:Nat}{ms:List Nat}(hg:GI g n0 ms N)(ql:P.follows .mixedOrders=true){id:Nat}{ops:Array Oper}(hB:MM ops.toList=true)(hd:(ops.toList.all fun o=>dD N o.dst)=true){K:FF->LL->Nat->Prop}{F:FF}{L:LL}{n:Nat}
 (h:qJ T A P g n0 ms (MH ops.toList (eR [] ops.toList) (look F)) ops.toList (eR [] ops.toList) K ops.toList 0 F L [] n):tV g P id ops K F L n:=by
 subst hA
 exact aps hT hg.n0 hg.ms ql hB (fun o ho=>hg.dst (gf.1 hd o ho)) h
theorem qQ(hA:A=Ar.real):A.bin=jH:=aK Ar.bin hA
theorem kA(hA:A=Ar.real):A.cmp=H2:=aK Ar.cmp hA
theorem Vb(hA:A=Ar.real)(k:IntKind)(n:Int):A.mS .neg k n=k.wrap (0-n):=by
 rw[hA];simp only[Ar.real]
theorem al0(hA:A=Ar.real)(n:Int):A.mS .xor .u64 n=jH .xor .u64 0xffffffffffffffff n:=by
 rw[hA];simp only[Ar.real];rfl
theorem ML(hA:A=Ar.real)(k:IntKind)(n:Int):A.aX k n=k.wrap n:=by
 rw[hA];simp only[Ar.real]
theorem fZ(hA:A=Ar.real)(n:Nat):A.nat n=Int.ofNat n:=by
 rw[hA];simp only[Ar.real];rfl
theorem ln(hA:A=Ar.real)(b:Bool):A.fQ b= !b:=by
 rw[hA];simp only[Ar.real]
theorem bB(hA:A=Ar.real){k n:Nat}(h:k<n):A.ix (Int.ofNat k) n=some k:=by
 subst hA
 have h1:(0:Int)<=(k:Int)/\(k:Int)<n:=by omega
 simp[Ar.real,h]
theorem dh(hA:A=Ar.real)(o j s:Nat):A.off o j s=o+j*s:=by
 subst hA;rfl
theorem jU(hA:A=Ar.real)(c:List SV)(k:Nat):A.get c k=c[k]? :=by
 subst hA;rfl
theorem zb(hA:A=Ar.real){c:List SV}{k:Nat}(h:k<c.length)(v:SV):A.eU c k [v]=some (Vg.splice c k [v]):=by
 subst hA
 simp only[Ar.real,mU,pN]
 rw[aj (by omega)]
theorem aix(hA:A=Ar.real)(a b:Int):A.cmp .eql a b=decide (a=b):=by
 subst hA;show(a==b)=_
 by_cases h:a=b<;>simp[h]
theorem alF(hA:A=Ar.real)(a b:Int):A.cmp .neq a b=decide (a≠b):=by
 subst hA;show(a !=b)=_
 by_cases h:a=b<;>simp[h]
theorem nK(hA:A=Ar.real){a b:ByteArray}(h:a.size+b.size<2^63):A.iC a b=some (a++b):=by
 subst hA;simp only[Ar.real];rw[af (by show ¬_>(9223372036854775807:Int);omega)]
theorem lK(hA:A=Ar.real)(s:ByteArray):A.fK s=Int.ofNat s.size:=by
 subst hA;rfl
theorem Ve(hA:A=Ar.real){i:Int}(h:i≠0):A.nz i=true:=by
 subst hA;simpa [Ar.real]using h
theorem UR(hA:A=Ar.real)(a b:Int):A.cmp .lss a b=decide (a<b):=by
 subst hA;rfl
theorem Lx(k:Nat)(h:k<2^63):IntKind.i64.wrap (k:Int)=(k:Int):=by
 simp only[IntKind.wrap,IntKind.signed,IntKind.bits]
 have:((k:Int)%0x10000000000000000)=k:=Int.emod_eq_of_lt (by omega) (by omega)
 simp
 omega
theorem gP(hA:A=Ar.real){k:Nat}(h:k+1<2^63):A.bin .add .i64 (Int.ofNat k) 1=Int.ofNat (k+1):=by
 subst hA
 exact Lx (k+1) h
end
end Go.Vg
namespace Go.Vg
open Go.RowKit
section
variable {P:Program}{g:G}{T:Nat->Option Ty}{A:Ar}{β:Nat->Nat}{a:Act}{W:World}{F:FF}{L:LL}{n:Nat}
theorem xE{o:Oper}{m0 N:Nat}{ms:List Nat}(hg:GI g m0 ms N)(aA:dD N o.dst=true){K:FF->LL->Nat->Prop}
 (h:∀β a W,Mem g β (find L) (fun l=>l<n) W->eX g β (look F) (fun l=>l<n) a->∃v W' L' n' γ,(execOp a.eval o).run P W= .ok (.value (den γ v)) W'/\Mem g γ (find L') (fun l=>l<n') W'/\(∀l,l<n->γ l=β l)/\n<=n'/\bd (fun l=>l<n') v/\K (cH F o.dst v) L' n'):Step g P o K F L n:=by
 have hd:=hg.dst aA
 refine⟨?_⟩
 intro a W ⟨β,hm,hf⟩ next Q gj
 obtain⟨v,W',L',n',γ,gA,fb,eG,hn,hb,hk⟩:=h β a W hm hf
 exact Pj gA (gj _ _ _ _ _ hk ⟨γ,fb,by rw[yU];exact(hf.mono eG (fun l hl=>cg hl hn)).put hd hb⟩)
theorem Cy{o:Oper}{m0 N:Nat}{ms:List Nat}(hg:GI g m0 ms N)(aA:dD N o.dst=true){K:FF->LL->Nat->Prop}{v:SV}
 (h:∀β a W,Mem g β (find L) (fun l=>l<n) W->eX g β (look F) (fun l=>l<n) a->(execOp a.eval o).run P W= .ok (.value (den β v)) W/\bd (fun l=>l<n) v) (hK:K (cH F o.dst v) L n):Step g P o K F L n:=
 xE hg aA fun β a W hm hf=>⟨v,W,L,n,β,(h β a W hm hf).1,hm,fun _ _=>rfl,aE n,(h β a W hm hf).2,hK⟩
theorem Is{o:Oper}{m0 N:Nat}{ms:List Nat}(hg:GI g m0 ms N)(aA:dD N o.dst=true){F:Nat->Option SV}{M:Nat->Option aC}{v:SV}
 (h:∀ (β:Nat->Nat) (p:Nat->Prop) (F':Nat->Option SV) (L':Nat->Option aC) (a:Act) (W:World),(∀t∈tM o.op.operands.toList,F' t=F t)->(∀l b,M l=some b->L' l=some b)->Mem g β L' p W->eX g β F' p a->(execOp a.eval o).run P W= .ok (.value (den β v)) W/\bd p v):EN g P o F M v []:=by
 have hd:=hg.dst aA
 refine EN.ON fun β p F' L' a W hF hM hm hf next Q gj=> ?_
 obtain⟨gA,hb⟩:=h β p F' L' a W hF hM hm hf
 exact Pj gA (gj _ _ hm (hf.put hd hb))
theorem Mem.fresh{n:Nat->Prop}{L:Nat->Option aC}(hm:Mem g β L n W){k:Nat}(hk:¬n k){cs:List SV}(hb:ay n cs)(t:TypeId){W':World}(hu:zw W W' (fun _=>False)){q:Nat}(hq:W.heap.size<=q){m:Nat×Nat}(fJ:rO m cs.length)(hc:W'.heap[q]? =some (.cells (aM β cs).toArray t m)):
 ∃γ,(∀l,n l->γ l=β l)/\γ k=q/\Mem g γ (ic L k ⟨k,cs,t⟩) (fun l=>n l\/l=k) W':=by
 obtain⟨γ,eG,oX⟩:∃γ:Nat->Nat,(∀l,n l->γ l=β l)/\γ k=q:=⟨fun l=>if l=k then q else β l,fun l hl=>af (by rintro rfl;exact hk hl),aj rfl⟩
 refine⟨γ,eG,oX,?_⟩
 have ab:∀l b,L l=some b->β l<W.heap.size:=fun l b hb=>by
  obtain⟨m,_,hc⟩:=hm.cell l b hb
  exact x8 hc
 have eF:∀l b,ic L k ⟨k,cs,t⟩ l=some b->(l=k/\b=⟨k,cs,t⟩)\/(l≠k/\L l=some b):=by
  intro l b h
  simp only[ic]at h
  split at h
  ·rename_i e;exact Or.inl ⟨e,(ef h).symm⟩
  ·rename_i e;exact Or.inr ⟨e,h⟩
 refine⟨fun l hl=>Or.inl (hm.low l hl),?_,?_,?_,?_,?_,?_⟩
 ·intro l hl
  rw[eG l (hm.low l hl)];exact hm.fC l hl
 ·intro l b h hl
  rcases eF l b h with⟨rfl,rfl⟩|⟨_,h⟩
  ·rw[oX];exact Or.inl (eH hm.up.size hq)
  ·rw[eG _ (hm.bL l b h).1];exact hm.new l b h hl
 ·intro l b l' b' h h' ho he
  rcases eF l b h with⟨e1,e2⟩|⟨_,h2⟩<;>rcases eF l' b' h' with⟨e3,e4⟩|⟨_,h3⟩
  ·rw[e1,e3]
  ·rw[e1,oX,eG _ (hm.bL l' b' h3).1]at he
   have:=ab l' b' h3
   omega
  ·rw[e3,oX,eG _ (hm.bL l b h2).1]at he
   have:=ab l b h2
   omega
  ·rw[eG _ (hm.bL l b h2).1,eG _ (hm.bL l' b' h3).1]at he
   exact hm.inj l b l' b' h2 h3 ho he
 ·intro l b h
  rcases eF l b h with⟨rfl,rfl⟩|⟨_,h⟩
  ·exact⟨m,fun _=>fJ,by rw[oX,hc,nR eG _ hb]⟩
  ·obtain⟨m,h1,h2⟩:=hm.cell l b h
   exact⟨m,h1,by rw[eG _ (hm.bL l b h).1,hu.block _ (ab l b h) (fun h=>h),h2,nR eG _ (hm.bL l b h).2]⟩
 ·intro l b h
  rcases eF l b h with⟨rfl,rfl⟩|⟨_,h⟩
  ·exact⟨Or.inr rfl,pg (fun l hl=>Or.inl hl) _ hb⟩
  ·exact⟨Or.inl (hm.bL l b h).1,pg (fun l hl=>Or.inl hl) _ (hm.bL l b h).2⟩
 ·exact hm.up.trans hu (fun _ _ _ h=>h)
theorem ER{o:Oper}{m0 N:Nat}{ms:List Nat}(hg:GI g m0 ms N)(aA:dD N o.dst=true){K:FF->LL->Nat->Prop}
 (h:∀β a W,Mem g β (find L) (fun l=>l<n) W->eX g β (look F) (fun l=>l<n) a->∃ (v:SV) (W':World) (q:Nat) (cs:List SV) (t:TypeId) (m:Nat×Nat),(∀γ:Nat->Nat,γ n=q->(execOp a.eval o).run P W= .ok (.value (den γ v)) W')/\zw W W' (fun _=>False)/\W.heap.size<=q/\
  rO m cs.length/\W'.heap[q]? =some (.cells (aM β cs).toArray t m)/\ay (fun l=>l<n) cs/\bd (fun l=>l<n+1) v/\K (cH F o.dst v) (L++[⟨n,cs,t⟩]) (n+1)):Step g P o K F L n:=by
 refine xE hg aA fun β a W hm hf=> ?_
 obtain⟨v,W',q,cs,t,m,gA,hu,hq,fJ,hc,hb,q_,hk⟩:=h β a W hm hf
 obtain⟨γ,h1,h2,h3⟩:=hm.fresh (k:=n) (fun h=>iO n h) hb t hu hq fJ hc
 refine⟨v,W',_,_,γ,gA γ h2,?_,h1,vu n,q_,hk⟩
 rw[aal (fun l b h=>(hm.bL l b h).1),<-Ld]
 exact h3
theorem EO(hT:cI P T){t:Nat}{i:Ty}(ht:T t=some i){e es:Nat}(hd:i.d= .sl e es){j:Ty}(hj:T e=some j){B:Nat}(hB:(P.info? e).map (·.bytes)=some B):
 ∃info z,P.underlying t=some (.slice e)/\P.info? e=some info/\info.zero=some z/\info.size=es/\info.bytes=B/\es=j.sz/\(∀β,z.cells.toList=aM β j.z)/\(∀p,ay p j.z)/\j.z.length=es:=by
 obtain⟨hu,hs⟩:=ma hT ht hd
 obtain⟨info,hi,aJ,z,hz,_,jl,_,iL⟩:=EV (β:=id) hT hj
 have mB:es=j.sz:=by
  have:=Wb hT hj
  rw[this]at hs
  exact(ef hs).symm
 rw[hi]at hB
 refine⟨info,z,hu,hi,hz,by rw[aJ,mB],ef hB,mB,fun β=> ?_,jl,by rw[iL,mB]⟩
 obtain⟨arI,tc,_,z',uK,aks,_⟩:=EV (β:=β) hT hj
 rw[hi]at tc
 obtain rfl:=ef tc
 rw[hz]at uK
 obtain rfl:=ef uK
 exact aks
theorem LH(β:Nat->Nat){z:Value}{zs:List SV}(hz:z.cells.toList=aM β zs)(ek:zs≠ [])(k:Nat):(Builtin.zeroCells z.cells k).toList=aM β (rep k zs):=by
 have nD:z.cells.size=zs.length:=by rw[<-tO,hz,cO,fL]
 rw[cO,adk _ ek,CK]
 unfold Builtin.zeroCells
 simp only[CI,Array.toList_range,nD]
 apply PV
 intro q _
 have ab:q%zs.length<zs.length:=ax _ (Yl.2 ek)
 have h1:z.cells[q%zs.length]? =some (den β (zs.getD (q%zs.length) default)):=by
  rw[<-E',hz,cO,xM,jo ab,jQ,jo ab]
  rfl
 have h2:q%zs.length<z.cells.size:=by rw[nD];exact ab
 simp only[Function.comp]
 rw[getElem!_pos z.cells _ h2]
 rw[oA h2]at h1
 exact ef h1
theorem cells_from{n:Nat->Prop}{L:Nat->Option aC}(hm:Mem g β L n W){l:Nat}{b:aC}(hb:L l=some b)(o k:Nat):∀j v,(aM β ((b.cs.drop o).take k))[j]? =some v->W.cell? ((⟨β l,o,none⟩:Addr).add j)=some v:=by
 intro j v hj
 rw[tY,QY hm hb,<-xM,<-cO]
 rw[cO,xM,Fc]at hj
 rw[cO,xM]
 split at hj
 ·rwa [Be]at hj
 ·cases hj
theorem K8{o:Oper}{s x:Operand}{t:TypeId}(ho:o.op= .call {callee:= .builtin .append,args:= #[s,x],argTypes:= #[t,t]}){v:Value}{W':World}(h:(Builtin.append_ #[t,t] o.type #[a.eval s,a.eval x]).run P W= .ok v W'):(execOp a.eval o).run P W= .ok (.value v) W':=by
 unfold execOp
 simp only[ho,resolve,invoke,builtin,Sem.run_bind,Sem.run_pure,Result.andThen_ok,Hv,ve,Hu,h]
theorem adx{t ty e:TypeId}{i:TypeInfo}(ht:P.underlying t=some (.slice e))(hi:P.info? e=some i){gb off sLen sCap:Nat}{cur:Array Value}{t':TypeId}{mk:Nat×Nat}(hg:W.heap[gb]? =some (.cells cur t' mk))(fJ:rO mk cur.size)
 (ad:Addr) (m c:Nat) (news:List Value) (hl:news.length=m*i.size) (wR:∀j u,news[j]? =some u->W.cell? (ad.add j)=some u) (h1:∀u∈news,u.oneCell'=true)
 (J7:sLen+m<=sCap) (rf:off+sLen*i.size+news.length<=cur.size):
 (Builtin.append_ #[t,t] ty #[.slice (some ⟨gb,off,none⟩) sLen sCap,.slice (some ad) m c]).run P W=
  .ok (.slice (some ⟨gb,off,none⟩) (sLen+m) sCap) (W.setRow gb (cur.toList.take (off+sLen*i.size)++news++cur.toList.drop (off+sLen*i.size+news.length)).toArray):=by
 have hf:=run_firstCells_some (P:=P) W i.size m ad m c news hl wR
 have aW:=EI (P:=P) gb (off+sLen*i.size) t' mk news 0 cur W hg fJ (by simpa using rf) h1
 simp only[gY]at aW
 simp[Builtin.append_,run_underlying ht,sizeOf,typeInfo,hi,Builtin.lenOf,J7,hf,tY,aW]
theorem Ih{s:Sem Value}{v:Value}{Y:Array Value}{e:TypeId}(h:s.run P W= .ok v (W.drew.alloc (.cells Y e))):∃X,X=Y/\s.run P W= .ok v (W.drew.alloc (.cells X e)):=⟨Y,rfl,h⟩
theorem EW(W:World)(o:Obj):zw W (W.drew.alloc o) (fun _=>False):=
 ⟨rfl,rfl,rfl,by simp,fun k hk _=>heap_alloc_old W.drew o hk⟩
theorem Mem.relabel{n:Nat}(hm:Mem g β (find L) (fun l=>l<n) W){l:Nat}{b:aC}(hb:find L l=some b)(c_:own g.n0 g.ms l=true):∃γ,(∀k,k<n->γ k=β k)/\γ n=β l/\Mem g γ (find (nJ [l] L++[⟨n,b.cs,b.t⟩])) (fun k=>k<n+1) W:=by
 obtain⟨γ,eG,oX⟩:∃γ:Nat->Nat,(∀k,k<n->γ k=β k)/\γ n=β l:=⟨fun k=>if k=n then β l else β k,fun k hk=>af (by omega),aj rfl⟩
 have hln:l<n:=(hm.bL l b hb).1
 have An:g.n0<=n:=vk fun h=>iO n (hm.low n h)
 refine⟨γ,eG,oX,?_⟩
 have eF:∀k c,find (nJ [l] L++[⟨n,b.cs,b.t⟩]) k=some c->(k≠l/\find L k=some c/\k<n)\/(k=n/\c=⟨n,b.cs,b.t⟩):=by
  intro k c h
  rw[fap,FH]at h
  by_cases hk:l=k
  ·rw[show eo [l] k=true by simp[eo,hk]]at h
   simp only[xk,find]at h
   split at h
   ·rename_i e;exact Or.inr ⟨e.symm,(ef h).symm⟩
   ·cases h
  ·rw[show eo [l] k=false by simp[eo,hk]]at h
   simp only[LJ,GH]at h
   cases hq:find L k with
   |some d=>
    simp only[hq]at h
    exact Or.inl ⟨fun e=>hk e.symm,h,(hm.bL k d hq).1⟩
   |none=>
    simp only[hq,find]at h
    split at h
    ·rename_i e;exact Or.inr ⟨e.symm,(ef h).symm⟩
    ·cases h
 refine⟨fun k hk=>CR (hm.low k hk),fun k hk=> ?_,?_,?_,?_,?_,hm.up⟩
 ·rw[eG k (by omega)];exact hm.fC k hk
 ·intro k c h hk
  rcases eF k c h with⟨_,h1,h2⟩|⟨rfl,rfl⟩
  ·rw[eG k h2];exact hm.new k c h1 hk
  ·rw[oX]
   rcases OU c_ with h|h
   ·exact hm.new l b hb h
   ·by_cases h0:l<g.n0
    ·exact Or.inr ⟨l,h,(hm.fC l h0).symm⟩
    ·exact hm.new l b hb (by omega)
 ·intro k c k' c' h h' ho he
  rcases eF k c h with⟨q0,q1,q2⟩|⟨rfl,rfl⟩<;>rcases eF k' c' h' with⟨r0,r1,r2⟩|⟨rfl,rfl⟩
  ·rw[eG k q2,eG k' r2]at he
   exact hm.inj _ _ _ _ q1 r1 ho he
  ·rw[eG k q2,oX]at he
   exact(q0 (hm.inj _ _ _ _ hb q1 c_ he.symm).symm).elim
  ·rw[eG k' r2,oX]at he
   exact(r0 (hm.inj _ _ _ _ hb r1 c_ he).symm).elim
  ·rfl
 ·intro k c h
  rcases eF k c h with⟨_,h1,h2⟩|⟨rfl,rfl⟩
  ·obtain⟨m,k1,k2⟩:=hm.cell k c h1
   exact⟨m,k1,by rw[eG k h2,k2,nR eG _ (hm.bL k c h1).2]⟩
  ·obtain⟨m,k1,k2⟩:=hm.cell l b hb
   exact⟨m,fun _=>k1 c_,by rw[oX,k2,nR eG _ (hm.bL l b hb).2]⟩
 ·intro k c h
  rcases eF k c h with⟨_,h1,h2⟩|⟨rfl,rfl⟩
  ·exact⟨CR h2,pg (fun _ h=>CR h) _ (hm.bL k c h1).2⟩
  ·exact⟨jR _,pg (fun _ h=>CR h) _ (hm.bL l b hb).2⟩
theorem step_append(hT:cI P T){o:Oper}{m0 N:Nat}{ms:List Nat}(hg:GI g m0 ms N)(aA:dD N o.dst=true){s x:Operand}{t:Nat}(ho:o.op= .call {callee:= .builtin .append,args:= #[s,x],argTypes:= #[t,t]})
 {i:Ty} (ht:T t=some i) {e es:Nat} (hd:i.d= .sl e es) {j:Ty} (hj:T e=some j) {B:Nat} (hB:(P.info? e).map (·.bytes)=some B) (h0:0<es)
 {l of n1 c:Nat} (hs:ev (look F) s=some (.slice l of n1 c)) {cs:List SV} {te:TypeId} (hl:find L l=some ⟨l,cs,te⟩) (hlen:of+n1*es<=cs.length)
 {k ox m mc:Nat} (hx:ev (look F) x=some (.slice k ox m mc)) {ds:List SV} {tk:TypeId} (hk:find L k=some ⟨k,ds,tk⟩) (jE:ox+m*es<=ds.length) (tj:nH ((ds.drop ox).take (m*es))=true)
 (qd:n1+m<=maxLen) (ux:(n1+m)*B<=140737488355328) {K:FF->LL->Nat->Prop}
 (J7:n1+m<=c->own m0 ms l=true/\of+(n1+m)*es<=cs.length/\K (cH F o.dst (.slice l of (n1+m) c)) (me L l (splice cs (of+n1*es) ((ds.drop ox).take (m*es)))) n)
 (DM:c<n1+m->∀c',n1+m<=c'->c'<=maxLen->K (cH F o.dst (.slice n 0 (n1+m) c')) (L++[⟨n,(cs.drop of).take (n1*es)++(ds.drop ox).take (m*es)++rep (c'-(n1+m)) j.z,e⟩]) (n+1)):Step g P o K F L n:=by
 obtain⟨info,z,hu,hi,hz,aJ,uw,mB,nC,jl,iL⟩:=EO hT ht hd hj hB
 have wR:∀ (β:Nat->Nat),(aM β ((ds.drop ox).take (m*es))).length=m*info.size:=fun β=>by
  rw[cO,fL,eY,iY,aJ];omega
 have holds:∀ (β:Nat->Nat),(aM β ((cs.drop of).take (n1*es))).length=n1*info.size:=fun β=>by
  rw[cO,fL,eY,iY,aJ];omega
 by_cases hr:n1+m<=c
 ·obtain⟨c_,rf,hK⟩:=J7 hr
  rw[<-hg.n0,<-hg.ms]at c_
  refine xE hg aA fun β a W hm hf=> ?_
  obtain⟨e1,b1⟩:=cq hf hs
  obtain⟨e2,b2⟩:=cq hf hx
  obtain⟨mk,fJ,js⟩:=hm.cell l _ hl
  have iz:ay (fun l=>l<n) ((ds.drop ox).take (m*es)):=xZ (hm.bL k _ hk).2 _ _
  have hle:of+n1*es+((ds.drop ox).take (m*es)).length<=cs.length:=by
   rw[eY,iY]
   rw[cw]at rf
   omega
  refine⟨.slice l of (n1+m) c,W.setRow (β l) (aM β (splice cs (of+n1*es) ((ds.drop ox).take (m*es)))).toArray,_,n,β,K8 (v:= .slice (some ⟨β l,of,none⟩) (n1+m) c) ho ?_,?_,fun _ _=>rfl,aE n,show bd (fun l=>l<n) (.slice l of (n1+m) c)from b1,hK⟩
  ·rw[e1,e2]
   have:=adx (P:=P) (ty:=o.type) (off:=of) (sLen:=n1) (sCap:=c) hu hi js (by simpa [cO]using fJ c_) ⟨β k,ox,none⟩ m mc _ (wR β) (cells_from hm hk ox (m*es)) (fun u hu=>by
    rw[cO]at hu
    obtain⟨y,hy,rfl⟩:=iZ.1 hu
    exact one_den β (KX tj y hy)) hr (by
     have h9:=wR β
     rw[h9,aJ]
     rw[cw]at rf
     simp only[CM,cO,fL]
     omega)
   simp only[den]
   rw[this,Cx,aJ]
   simp[cO]
  ·have:=hm.store (o:=of+n1*es) hl hle c_ iz
   rw[show find (me L l (splice cs (of+n1*es) ((ds.drop ox).take (m*es))))=ic (find L) l ⟨l,splice cs (of+n1*es) ((ds.drop ox).take (m*es)),te⟩from ?_]
   ·exact this
   ·funext q
    rw[wu]
    simp only[ic,hl]
    rfl
 ·refine ER hg aA fun β a W hm hf=> ?_
  obtain⟨e1,b1⟩:=cq hf hs
  obtain⟨e2,b2⟩:=cq hf hx
  have aby:n1+m<=9223372036854775807:=by simp only[maxLen]at qd;omega
  obtain⟨X,hX,gA⟩:=Ih (run_append_grow (P:=P) W t o.type e info z hu hi hz ⟨β l,of,none⟩ n1 c _ (holds β) (cells_from hm hl of (n1*es)) ⟨β k,ox,none⟩ m mc _ (wR β) (cells_from hm hk ox (m*es)) (by omega) (by omega) (growslice_fits (by omega) (by rw[uw];exact ux)))
  have ju:=grownCap_ge W (n1+m) c e
  refine⟨.slice n 0 (n1+m) (grownCap W (n1+m) c e),W.drew.alloc (.cells X e),W.heap.size,_,e,(0,0),fun γ gE=>K8 ho ?_,EW W _,aE _,Or.inl (aE 0),?_,?_,jR n,DM (by omega) _ ju (grownCap_le_maxLen W (n1+m) c e qd)⟩
  ·rw[e1,e2]
   simp only[den,gE]
   exact gA
  ·rw[show(W.drew.alloc (.cells X e)).heap[W.heap.size]? =some (.cells X e)from heap_alloc_new W.drew _,hX]
   congr 2
   apply rZ
   have lH:=LH β (nC β) (by intro h;rw[h]at iL;simp at iL;omega) (grownCap W (n1+m) c e-(n1+m))
   simp[lH,cO]
  ·rw[gI]
   intro v hv
   rcases List.mem_append.1 hv with hv|hv
   ·rcases List.mem_append.1 hv with hv|hv
    ·exact(gI _ _).1 (xZ (hm.bL l _ hl).2 _ _) v hv
    ·exact(gI _ _).1 (xZ (hm.bL k _ hk).2 _ _) v hv
   ·exact(gI _ _).1 (G4 (jl _) _) v hv
theorem G5(z:List SV):∀m,(rep m z).length=m*z.length
 |0=>by simp[rep]
 |m+1=>by rw[rep,dI,G5 z m,cw];omega
theorem mX{q:Nat}:∀ {xs ys:List SV},an q xs=true->an q ys=true->an q (xs++ys)=true
 | [],_,_,h=>h
 |x::xs,ys,h,k=>by
  simp only[du,an,dq]at h⊢
  exact⟨h.1,mX h.2 k⟩
theorem Fq{q:Nat}:∀ {xs:List SV} {k:Nat},an q xs=true->an q (xs.drop k)=true
 |xs,0,h=>h
 | [],_+1,h=>h
 |x::xs,k+1,h=>by
  simp only[an,dq]at h
  exact Fq (xs:=xs) (k:=k) h.2
theorem CZ{q:Nat}:∀ {xs:List SV} {k:Nat},an q xs=true->an q (xs.take k)=true
 |_,0,_=>rfl
 | [],_+1,_=>rfl
 |x::xs,k+1,h=>by
  simp only[LU,an,dq]at h⊢
  exact⟨h.1,CZ h.2⟩
theorem EH{q:Nat}{z:List SV}(h:an q z=true):∀k,an q (rep k z)=true
 |0=>rfl
 |k+1=>mX h (EH h k)
mutual
theorem apx{ρ:Nat->Nat}:∀v,gh 0 v=true->cK ρ v=v
 | .bool _,_| .int _ _,_| .str _,_| .cR,_| .au,_| .aH,_| .raw _,_=>rfl
 | .ptr l _,h| .gM l _,h| .slice l _ _ _,h=>by simp[gh]at h
 | .fn _ a b,h=>by
   simp only[gh,dq]at h
   rw[cK,ae a h.1,ae b h.2]
 | .agg cs,h=>by rw[cK,ae cs (by simpa only[gh]using h)]
 | .aR vs,h=>by rw[cK,ae vs (by simpa only[gh]using h)]
theorem ae{ρ:Nat->Nat}:∀l,an 0 l=true->bj ρ l=l
 | [],_=>rfl
 |v::vs,h=>by
  simp only[an,dq]at h
  rw[bj,apx v h.1,ae vs h.2]
end
theorem Mem.less{n:Nat->Prop}{L L':Nat->Option aC}(hm:Mem g β L n W)(h:∀k b,L' k=some b->L k=some b):Mem g β L' n W:=
 ⟨hm.low,hm.fC,fun l b hb=>hm.new l b (h l b hb),fun l b l' b' hb h_=>hm.inj l b l' b' (h l b hb) (h l' b' h_),fun l b hb=>hm.cell l b (h l b hb),fun l b hb=>hm.bL l b (h l b hb),hm.up⟩
theorem ad3(hT:cI P T){o:Oper}{m0 N:Nat}{ms:List Nat}(hg:GI g m0 ms N)(aA:dD N o.dst=true){s x:Operand}{t:Nat}(ho:o.op= .call {callee:= .builtin .append,args:= #[s,x],argTypes:= #[t,t]})
 {i:Ty} (ht:T t=some i) {e es:Nat} (hd:i.d= .sl e es) {j:Ty} (hj:T e=some j) {B:Nat} (hB:(P.info? e).map (·.bytes)=some B) (h0:0<es)
 {l n1 c:Nat} (hs:ev (look F) s=some (.slice l 0 n1 c)) {cs:List SV} (hl:find L l=some ⟨l,cs,e⟩) (c_:own m0 ms l=true) (iy:n1<=c) (qj:cs.length=c*es) (hc:c<=maxLen)
 {k ox m mc:Nat} (hx:ev (look F) x=some (.slice k ox m mc)) {ds:List SV} {tk:TypeId} (hk:find L k=some ⟨k,ds,tk⟩) (jE:0<m->ox+m*es<=ds.length) (tj:nH ((ds.drop ox).take (m*es))=true)
 (qd:n1+m<=maxLen) (ux:(n1+m)*B<=140737488355328) {K:FF->LL->Nat->Prop}
 (hK:∀c' tail,n1+m<=c'->c'<=maxLen->tail.length=(c'-(n1+m))*es->(∀q,an q cs=true->an q j.z=true->an q tail=true)->K (cH F o.dst (.slice n 0 (n1+m) c')) (nJ [l] L++[⟨n,cs.take (n1*es)++(ds.drop ox).take (m*es)++tail,e⟩]) (n+1)):Step g P o K F L n:=by
 obtain⟨info,z,hu,hi,hz,aJ,uw,mB,nC,jl,iL⟩:=EO hT ht hd hj hB
 have hle:n1*es<=cs.length:=by rw[qj];exact ea _ iy
 have oh:((ds.drop ox).take (m*es)).length=m*es:=by
  rcases Nat.eq_zero_or_pos m with rfl|iH
  ·simp
  ·have:=jE iH
   rw[eY,iY];omega
 by_cases hr:n1+m<=c
 ·have rf:(n1+m)*es<=c*es:=ea _ hr
  rw[cw]at rf
  have ot:splice cs (n1*es) ((ds.drop ox).take (m*es))=cs.take (n1*es)++(ds.drop ox).take (m*es)++cs.drop (n1*es+m*es):=by rw[splice,oh]
  rw[<-hg.n0,<-hg.ms]at c_
  have IP:=hK c (cs.drop (n1*es+m*es)) hr hc (by rw[iY,qj,Fl,cw]) (fun q h _=>Fq h)
  rw[<-ot]at IP
  refine xE hg aA fun β a W hm hf=> ?_
  obtain⟨e1,b1⟩:=cq hf hs
  obtain⟨e2,b2⟩:=cq hf hx
  obtain⟨mk,fJ,js⟩:=hm.cell l _ hl
  have iz:ay (fun l=>l<n) ((ds.drop ox).take (m*es)):=xZ (hm.bL k _ hk).2 _ _
  have aW:=hm.store (o:=n1*es) hl (vs:=(ds.drop ox).take (m*es)) (by show n1*es+_<=cs.length;omega) c_ iz
  rw[show ic (find L) l ⟨l,splice cs (n1*es) ((ds.drop ox).take (m*es)),e⟩=find (me L l (splice cs (n1*es) ((ds.drop ox).take (m*es))))from by
   funext q
   rw[wu]
   simp only[ic,hl]
   rfl]at aW
  obtain⟨γ,eG,gE,cU⟩:=aW.relabel (l:=l) (b:=⟨l,splice cs (n1*es) ((ds.drop ox).take (m*es)),e⟩) (by rw[wu,aj rfl,hl];rfl) c_
  have gA:(execOp a.eval o).run P W= .ok (.value (.slice (some ⟨β l,0,none⟩) (n1+m) c)) (W.setRow (β l) (aM β (splice cs (n1*es) ((ds.drop ox).take (m*es)))).toArray):=by
   refine K8 ho ?_
   rw[e1,e2]
   have:=adx (P:=P) (ty:=o.type) (off:=0) (sLen:=n1) (sCap:=c) hu hi js (by simpa [cO]using fJ c_) ⟨β k,ox,none⟩ m mc (aM β ((ds.drop ox).take (m*es))) (by rw[cO,fL,oh,aJ]) (cells_from hm hk ox (m*es)) (fun u hu=>by
    rw[cO]at hu
    obtain⟨y,hy,rfl⟩:=iZ.1 hu
    exact one_den β (KX tj y hy)) hr (by
     rw[aJ]
     simp only[CM,cO,fL]
     omega)
   simp only[den]
   rw[this,Cx,aJ]
   simp[cO]
  refine⟨.slice n 0 (n1+m) c,_,nJ [l] L++[⟨n,splice cs (n1*es) ((ds.drop ox).take (m*es)),e⟩],n+1,γ,gA.trans (by simp only[den,gE]),cU.less fun q b hq=> ?_,eG,vu n,jR n,IP⟩
  ·rw[fap,FH]at hq⊢
   rw[wu]
   by_cases oq:q=l
   ·rw[show eo [l] q=true by simp[eo,oq]]at hq⊢
    exact hq
   ·rw[show eo [l] q=false by simp[eo,oE oq]]at hq⊢
    rw[af oq]
    exact hq
 ·refine xE hg aA fun β a W hm hf=> ?_
  obtain⟨e1,b1⟩:=cq hf hs
  obtain⟨e2,b2⟩:=cq hf hx
  have aby:n1+m<=9223372036854775807:=by simp only[maxLen]at qd;omega
  have hold:=cells_from hm hl 0 (n1*es)
  have Aq:(aM β (((⟨l,cs,e⟩:aC).cs.drop 0).take (n1*es))).length=n1*info.size:=by
   rw[cO,fL,eY,iY,aJ];show min _ (cs.length-0)=_;omega
  obtain⟨X,hX,gA⟩:=Ih (run_append_grow (P:=P) W t o.type e info z hu hi hz ⟨β l,0,none⟩ n1 c _ Aq hold ⟨β k,ox,none⟩ m mc (aM β ((ds.drop ox).take (m*es))) (by rw[cO,fL,oh,aJ]) (cells_from hm hk ox (m*es)) (by omega) (by omega) (growslice_fits (by omega) (by rw[uw];exact ux)))
  have ju:=grownCap_ge W (n1+m) c e
  have S6:(W.drew.alloc (.cells X e)).heap[W.heap.size]? =some (.cells (aM β (cs.take (n1*es)++(ds.drop ox).take (m*es)++rep (grownCap W (n1+m) c e-(n1+m)) j.z)).toArray e (0,0)):=by
   rw[show(W.drew.alloc (.cells X e)).heap[W.heap.size]? =some (.cells X e)from heap_alloc_new W.drew _,hX]
   congr 2
   apply rZ
   have lH:=LH β (nC β) (by intro h;rw[h]at iL;simp at iL;omega) (grownCap W (n1+m) c e-(n1+m))
   simp[lH,cO]
  obtain⟨γ,h1,h2,h3⟩:=hm.fresh (k:=n) (fun h=>iO n h) (cs:=cs.take (n1*es)++(ds.drop ox).take (m*es)++rep (grownCap W (n1+m) c e-(n1+m)) j.z) (by
   rw[gI]
   intro v hv
   rcases List.mem_append.1 hv with hv|hv
   ·rcases List.mem_append.1 hv with hv|hv
    ·exact(gI _ _).1 (hm.bL l _ hl).2 v (xO hv)
    ·exact(gI _ _).1 (xZ (hm.bL k _ hk).2 _ _) v hv
   ·exact(gI _ _).1 (G4 (jl _) _) v hv) e (EW W _) (aE _) (m:=(0,0)) (Or.inl (aE 0)) S6
  have iW:(rep (grownCap W (n1+m) c e-(n1+m)) j.z).length=(grownCap W (n1+m) c e-(n1+m))*es:=by
   rw[G5,iL]
  refine⟨.slice n 0 (n1+m) (grownCap W (n1+m) c e),W.drew.alloc (.cells X e),_,n+1,γ,K8 ho ?_,?_,h1,vu n,jR n,hK _ _ ju (grownCap_le_maxLen W (n1+m) c e qd) iW (fun q _ h=>EH h _)⟩
  ·rw[e1,e2]
   simp only[den,h2]
   exact gA
  ·rw[<-Ld]
   refine h3.less fun q b hq=> ?_
   rw[fap,FH]at hq
   simp only[ic]
   by_cases fW:q=n
   ·rw[aj fW]
    have wT:find L q=none:=by
     cases gv:find L q with
     |none=>rfl
     |some d=>have:=(hm.bL q d gv).1;omega
    rw[wT,ite_self]at hq
    simpa [find,fW]using hq
   ·rw[af fW]
    split at hq
    ·rename_i d lT
     split at lT
     ·cases lT
     ·rw[lT];exact hq
    ·simp only[find]at hq
     rw[af (fun e=>fW e.symm)]at hq
     cases hq
theorem ad2(hT:cI P T){o:Oper}{m0 N:Nat}{ms:List Nat}(hg:GI g m0 ms N)(aA:dD N o.dst=true){s x:Operand}{t:Nat}(ho:o.op= .call {callee:= .builtin .append,args:= #[s,x],argTypes:= #[t,t]})
 {i:Ty} (ht:T t=some i) {e es:Nat} (hd:i.d= .sl e es) {j:Ty} (hj:T e=some j) {B:Nat} (hB:(P.info? e).map (·.bytes)=some B) (h0:0<es)
 {l n1 c:Nat} (hs:ev (look F) s=some (.slice l 0 n1 c)) {cs:List SV} (hl:find L l=some ⟨l,cs,e⟩) (c_:own m0 ms l=true) (iy:n1<=c) (qj:cs.length=c*es) (hc:c<=maxLen)
 {k ox m mc:Nat} (hx:ev (look F) x=some (.slice k ox m mc)) {ds:List SV} {tk:TypeId} (hk:find L k=some ⟨k,ds,tk⟩) (jE:ox+m*es<=ds.length) (tj:nH ((ds.drop ox).take (m*es))=true)
 (qd:n1+m<=maxLen) (ux:(n1+m)*B<=140737488355328) {K:FF->LL->Nat->Prop}
 (hK:∀c' tail,n1+m<=c'->c'<=maxLen->tail.length=(c'-(n1+m))*es->(∀q,an q cs=true->an q j.z=true->an q tail=true)->K (cH F o.dst (.slice n 0 (n1+m) c')) (nJ [l] L++[⟨n,cs.take (n1*es)++(ds.drop ox).take (m*es)++tail,e⟩]) (n+1)):Step g P o K F L n:=
 ad3 hT hg aA ho ht hd hj hB h0 hs hl c_ iy qj hc hx hk (fun _=>jE) tj qd ux hK
theorem ad1(hT:cI P T){o:Oper}{m0 N:Nat}{ms:List Nat}(hg:GI g m0 ms N)(aA:dD N o.dst=true){s x:Operand}{t:Nat}(ho:o.op= .call {callee:= .builtin .append,args:= #[s,x],argTypes:= #[t,t]})
 {i:Ty} (ht:T t=some i) {e es:Nat} (hd:i.d= .sl e es) {j:Ty} (hj:T e=some j) {B:Nat} (hB:(P.info? e).map (·.bytes)=some B) (h0:0<es)
 (hs:ev (look F) s=some .au) {k ox m mc:Nat} (hx:ev (look F) x=some (.slice k ox m mc)) {ds:List SV} {tk:TypeId} (hk:find L k=some ⟨k,ds,tk⟩) (jE:ox+m*es<=ds.length)
 (iH:0<m) (qd:m<=maxLen) (ux:m*B<=281474976710656) {K:FF->LL->Nat->Prop}
 (DM:∀c',m<=c'->c'<=maxLen->K (cH F o.dst (.slice n 0 m c')) (L++[⟨n,(ds.drop ox).take (m*es)++rep (c'-m) j.z,e⟩]) (n+1)):Step g P o K F L n:=by
 obtain⟨info,z,hu,hi,hz,aJ,uw,mB,nC,jl,iL⟩:=EO hT ht hd hj hB
 have wR:∀ (β:Nat->Nat),(aM β ((ds.drop ox).take (m*es))).length=m*info.size:=fun β=>by
  rw[cO,fL,eY,iY,aJ];omega
 refine ER hg aA fun β a W hm hf=> ?_
 obtain⟨e1,b1⟩:=cq hf hs
 obtain⟨e2,b2⟩:=cq hf hx
 have aby:m<=9223372036854775807:=by simp only[maxLen]at qd;omega
 obtain⟨X,hX,gA⟩:=Ih (run_append_nil (P:=P) W t o.type e info z hu hi hz ⟨β k,ox,none⟩ m mc _ (wR β) (cells_from hm hk ox (m*es)) iH (by omega) (by rw[uw];exact ux))
 have ju:=grownCap_ge W m 0 e
 refine⟨.slice n 0 m (grownCap W m 0 e),W.drew.alloc (.cells X e),W.heap.size,_,e,(0,0),fun γ gE=>K8 ho ?_,EW W _,aE _,Or.inl (aE 0),?_,?_,jR n,DM _ ju (grownCap_le_maxLen W m 0 e qd)⟩
 ·rw[e1,e2]
  simp only[den,gE]
  exact gA
 ·rw[show(W.drew.alloc (.cells X e)).heap[W.heap.size]? =some (.cells X e)from heap_alloc_new W.drew _,hX]
  congr 2
  apply rZ
  have lH:=LH β (nC β) (by intro h;rw[h]at iL;simp at iL;omega) (grownCap W m 0 e-m)
  simp[lH,cO]
 ·rw[gI]
  intro v hv
  rcases List.mem_append.1 hv with hv|hv
  ·exact(gI _ _).1 (xZ (hm.bL k _ hk).2 _ _) v hv
  ·exact(gI _ _).1 (G4 (jl _) _) v hv
def dZ(s:ByteArray):List SV:=s.data.toList.map fun b=> .int .u8 b.toNat
theorem Fu(p:Nat->Prop)(s:ByteArray):ay p (dZ s):=by
 rw[gI]
 intro v hv
 obtain⟨b,_,rfl⟩:=iZ.1 hv
 trivial
theorem Mq(β:Nat->Nat)(s:ByteArray):aM β (dZ s)=s.data.toList.map fun b=> .int .u8 b.toNat:=by
 rw[cO,dZ,CK];rfl
theorem O9{o:Oper}{x:Operand}{src dst:TypeId}(ho:o.op= .convert src dst x){v:Value}{W':World}(h:(convert src dst (a.eval x)).run P W= .ok v W'):(execOp a.eval o).run P W= .ok (.value v) W':=by
 unfold execOp
 simp only[ho,Sem.run_bind,Sem.run_pure,Result.andThen_ok,h]
theorem A7(hT:cI P T){t:Nat}{i:Ty}(ht:T t=some i)(hd:i.d= .s):P.underlying t=some .string:=by
 have:=hT t i ht
 unfold tD at this
 simp only[hd]at this
 cases hu:P.underlying t with
 |none=>simp[hu]at this
 |some d=>cases d<;>simp_all
theorem aqA(hT:cI P T){o:Oper}{m0 N:Nat}{ms:List Nat}(hg:GI g m0 ms N)(aA:dD N o.dst=true){x:Operand}{src dst:Nat}(ho:o.op= .convert src dst x){i j:Ty}(hs:T src=some i)(nq:i.d= .s){e es:Nat}(ht:T dst=some j)(hd:j.d= .sl e es)(he:P.underlying e=some (.int .u8))
 {s:ByteArray} (hx:ev (look F) x=some (.str s)) {K:FF->LL->Nat->Prop} (hK:∀c,s.size<=c->K (cH F o.dst (.slice n 0 s.size c)) (L++[⟨n,dZ s++List.replicate (c-s.size) (.int .u8 0),e⟩]) (n+1)):Step g P o K F L n:=by
 have h1:=A7 hT hs nq
 have h2:=(ma hT ht hd).1
 refine ER hg aA fun β a W hm hf=> ?_
 obtain⟨e1,b1⟩:=cq hf hx
 have gA:=run_bytes_of_string (P:=P) W src dst e s h1 h2 he
 have ju:=grownCap_ge W s.size 0 e
 have aJ:(bytesRow s (grownCap W s.size 0 e)).size=(dZ s++List.replicate (grownCap W s.size 0 e-s.size) (SV.int .u8 0)).length:=by
  simp[bytesRow,dZ]
 refine⟨.slice n 0 s.size (grownCap W s.size 0 e),_,W.heap.size,_,e,((bytesRow s (grownCap W s.size 0 e)).size,(bytesRow s (grownCap W s.size 0 e)).size+1),fun γ gE=>O9 ho (W':=W.drew.alloc (.cells (bytesRow s (grownCap W s.size 0 e)) e ((bytesRow s (grownCap W s.size 0 e)).size,(bytesRow s (grownCap W s.size 0 e)).size+1))) ?_,EW W _,aE _,Or.inr ?_,?_,?_,jR n,hK _ ju⟩
 ·rw[e1]
  simp only[den,gE]
  exact gA
 ·rw[aJ];exact aE _
 ·rw[show(W.drew.alloc (.cells (bytesRow s (grownCap W s.size 0 e)) e ((bytesRow s (grownCap W s.size 0 e)).size,(bytesRow s (grownCap W s.size 0 e)).size+1))).heap[W.heap.size]? =some (.cells (bytesRow s (grownCap W s.size 0 e)) e ((bytesRow s (grownCap W s.size 0 e)).size,(bytesRow s (grownCap W s.size 0 e)).size+1))from heap_alloc_new W.drew _]
  congr 2
  apply rZ
  simp only[bytesRow,LI,CI,aeU,cO,CJ,Ym,dZ,CK]
  rfl
 ·rw[gI]
  intro v hv
  rcases List.mem_append.1 hv with hv|hv
  ·exact(gI _ _).1 (Fu _ _) v hv
  ·rw[(qM.1 hv).2];trivial
theorem ES(hT:cI P T){o:Oper}{m0 N:Nat}{ms:List Nat}(hg:GI g m0 ms N)(aA:dD N o.dst=true){x:Operand}{src dst:Nat}(ho:o.op= .convert src dst x){i j:Ty}(hs:T dst=some i)(nq:i.d= .s){e es:Nat}(ht:T src=some j)(hd:j.d= .sl e es)(he:P.underlying e=some (.int .u8))
 {l q m c:Nat} (hx:ev (look F) x=some (.slice l q m c)) {b:aC} (hl:find L l=some b) {s:ByteArray} (hb:(b.cs.drop q).take m=dZ s) (hm:s.size=m) {K:FF->LL->Nat->Prop} (hK:K (cH F o.dst (.str s)) L n):Step g P o K F L n:=by
 have h1:=A7 hT hs nq
 have h2:=(ma hT ht hd).1
 refine Cy hg aA (v:= .str s) (fun β a W fb hf=> ?_) hK
 obtain⟨e1,b1⟩:=cq hf hx
 refine⟨O9 ho ?_,trivial⟩
 rw[e1]
 have hc:=cells_from fb hl q m
 rw[hb,Mq]at hc
 have:=run_convert_bytes_back (P:=P) W src dst e ⟨β l,q,none⟩ c s.data.toList h2 he h1 (fun k hk=>hc k _ (by simp[jo (show k<s.data.toList.length from hk)]))
 have hlen:s.data.toList.length=m:=by rw[<-hm];rfl
 rw[hlen]at this
 simpa [den]using this
theorem ah.MW{f:FuncId}{args:List SV}{val:SV}(lv:u_ P f)(h:∀W,Calls P f (aM id args).toArray W fun e W'=>e= .returned (den id val)/\Below W.heap.size W W')(hb:ay (fun _=>False) args)(hv:bd (fun _=>False) val):ah P f args [] 0 [] (fun v _ _=>v=val):=by
 refine⟨lv,fun β W0 _=> ?_⟩
 rw[nR (p:=fun _=>False) (β:=id) (γ:=β) (fun l hl=>hl.elim) args hb]
 refine(h W0).mono ?_
 rintro e W ⟨rfl,hB⟩
 refine⟨val,[],0,β,rfl,?_,zz (fun l h=>h.elim) val hv,⟨fun l h=>(by cases h),fun l h=>(by cases h),fun l b h=>(by cases h),fun l b l' b' h=>(by cases h),fun l b h=>(by cases h),fun l b h=>(by cases h),hB.os,hB.tape,hB.output,hB.size,fun k hk _=>hB.block k hk⟩⟩
 rw[ue (p:=fun _=>False) (β:=id) (γ:=β) (fun l hl=>hl.elim) val hv]
theorem EP(hT:cI P T){o:Oper}{m0 N:Nat}{ms:List Nat}(hg:GI g m0 ms N)(aA:dD N o.dst=true){t:Nat}(ho:o.op= .buildSlice t 0 #[]){i:Ty}(ht:T t=some i){e es:Nat}(hd:i.d= .sl e es){K:FF->LL->Nat->Prop}
 (hK:K (cH F o.dst (.slice n 0 0 0)) (L++[⟨n,[],e⟩]) (n+1)):Step g P o K F L n:=by
 obtain⟨hu,hs⟩:=ma hT ht hd
 refine ER hg aA fun β a W hm hf=> ?_
 have gA:(Instr.buildSlice t 0 #[]).run P W= .ok (.slice (some ⟨W.heap.size,0,none⟩) 0 0) (W.alloc (.cells #[] e)):=by
  unfold Instr.buildSlice
  simp only[Sem.run_bind,run_underlying hu,Result.andThen_ok,rQ hs]
  have h0:∀f:Nat->Value,Array.map f (Array.range 0)= #[]:=fun f=>by apply rZ;simp
  simp[Instr.fill,newRow,h0]
 refine⟨.slice n 0 0 0,W.alloc (.cells #[] e),W.heap.size,[],e,(0,0),fun γ gE=> ?_,⟨rfl,rfl,rfl,by simp,fun k hk _=>heap_alloc_old W _ hk⟩,aE _,Or.inl (aE 0),heap_alloc_new W _,trivial,jR n,hK⟩
 unfold execOp
 simp only[ho,Sem.run_bind,Sem.run_pure,Result.andThen_ok,gA,den,gE,Hv,Hu]
end
end Go.Vg
namespace Go.Vg
open Go.RowKit
def Xi(ρ:Nat->Nat)(m:Nat)(F:FF):FF->Prop
 | []=>True
 |(t,v)::F'=>look F t=some (cK ρ v)/\gh m v=true/\Xi ρ m F F'
def Pq(ρ:Nat->Nat)(n0 m:Nat)(L:LL):LL->Prop
 | []=>True
 |b::L'=>find L (ρ b.l)=some ⟨ρ b.l,bj ρ b.cs,b.t⟩/\Nat.blt b.l m=true/\(Nat.blt b.l n0||Nat.ble n0 (ρ b.l))=true/\an m b.cs=true/\Pq ρ n0 m L L'
theorem aeE{ρ:Nat->Nat}{m:Nat}{F:FF}:∀ {F':FF},Xi ρ m F F'->Hh ρ m F F'
 | [],_=>trivial
 |(_,_)::_,h=>⟨h.1,Mj _ h.2.1,aeE h.2.2⟩
theorem aeG{ρ:Nat->Nat}{n0 m:Nat}{L:LL}:∀ {L':LL},Pq ρ n0 m L L'->EZ ρ n0 m L L'
 | [],_=>trivial
 |_::_,h=>⟨h.1,h.2.1,h.2.2.1,ak _ h.2.2.2.1,aeG h.2.2.2.2⟩
theorem dH{ρ:Nat->Nat}{n0 n':Nat}{F F':FF}{L L':LL}{n:Nat}(hF:Xi ρ n' F F')(hL:Pq ρ n0 n' L L')(hd:tC (L'.map fun b=>ρ b.l)=true)(hn:Nat.ble n0 n'=true)(hb:below (fun l=>Nat.beq (ρ l) l) n0=true):tW n0 ρ F' L' n' F L n:=
 ⟨aeE hF,aeG hL,hd,hn,hb⟩
section
variable {P:Program}{g:G}{T:Nat->Option Ty}{F:FF}{L:LL}{n:Nat}
theorem adz{W:World}{a:Act}{o:Oper}{x:Operand}{t:TypeId}{lo hi mx:Option Operand}(ho:o.op= .slice t x lo hi mx){v:Value}{W':World}(h:(Instr.sliceAt t (a.eval x) (lo.map a.eval) (hi.map a.eval) (mx.map a.eval)).run P W= .ok v W'):(execOp a.eval o).run P W= .ok (.value v) W':=by
 unfold execOp
 simp only[ho,Sem.run_bind,Sem.run_pure,Result.andThen_ok,h]
end
end Go.Vg
namespace Dg
/-! numbers as rows of digits of base b-/
def num(b:Nat)(f:Nat->Nat):Nat->Nat
 |0=>0
 |n+1=>num b f n+f n*b^n
def eJ(b x i:Nat):Nat:=x/b^i%b
variable {b:Nat}
theorem Z7(hb:0<b)(x i:Nat):eJ b x i<b:=ax _ hb
theorem jP{f g:Nat->Nat}:∀n,(∀i,i<n->f i=g i)->num b f n=num b g n
 |0,_=>rfl
 |n+1,h=>by simp only[num];rw[jP n fun i hi=>h i (by omega),h n (by omega)]
theorem uM{f:Nat->Nat}:∀n,(∀i,i<n->f i<b)->num b f n<b^n
 |0,_=>by simp[num]
 |n+1,h=>by
  have h1:=uM n fun i hi=>h i (by omega)
  have h2:=h n (by omega)
  have h3:=ea (b^n) (show f n+1<=b by omega)
  rw[cw,fN]at h3
  simp only[num,br]
  rw[bJ (b^n) b]
  omega
theorem GY(hb:0<b)(x:Nat):∀n,num b (eJ b x) n=x%b^n
 |0=>by simp[num,zl]
 |n+1=>by
  simp only[num,eJ]
  rw[GY hb x n,br,Yv,bJ (x/b^n%b)]
theorem yZ(f:Nat->Nat)(m:Nat):∀n,num b f (m+n)=num b f m+num b (fun i=>f (m+i)) n*b^m
 |0=>by simp[num]
 |n+1=>by
  show num b f (m+n)+f (m+n)*b^(m+n)=_
  rw[yZ f m n]
  simp only[num]
  rw[cw,dV,eZ,bJ (b^n),xP]
theorem zH(hb:0<b){f:Nat->Nat}(n:Nat)(h:∀i,i<n->f i<b)(i:Nat)(hi:i<n):eJ b (num b f n) i=f i:=by
 obtain⟨k,rfl⟩:∃k,n=i+(1+k):=⟨n-i-1,by omega⟩
 have h1:num b f i<b^i:=uM i fun j hj=>h j (by omega)
 have hp:0<b^i:=ew hb
 rw[yZ,yZ]
 simp only[eJ,num]
 rw[zj _ _ hp,kg h1]
 simp only[dB,jB,fh,gY,zo]
 rw[tR,aO (h i (by omega))]
theorem v8(hb:1<b){x n:Nat}(h:x<b^n){i:Nat}(hi:n<=i):eJ b x i=0:=by
 unfold eJ
 rw[kg (cg h (cV (by omega) hi)),zq]
theorem rM(f:Nat->Nat)(m:Nat):∀n,(∀i,m<=i->i<m+n->f i=0)->num b f (m+n)=num b f m
 |0,_=>rfl
 |n+1,h=>by
  show num b f (m+n)+f (m+n)*b^(m+n)=_
  rw[rM f m n fun i h1 h2=>h i h1 (by omega),h (m+n) (by omega) (by omega)];simp
theorem acT(hb:0<b){f g:Nat->Nat}{n:Nat}(hf:∀i,i<n->f i<b)(hg:∀i,i<n->g i<b)(h:num b f n=num b g n)(i:Nat)(hi:i<n):f i=g i:=by
 rw[<-zH hb n hf i hi,h,zH hb n hg i hi]
theorem acU{f:Nat->Nat}{k v:Nat}:∀n,n<=k->num b (fun j=>if j=k then v else f j) n=num b f n
 |0,_=>rfl
 |n+1,h=>by
  simp only[num]
  rw[acU n (by omega),af (by omega)]
/-! a digit of a quotient:guessed from the highest digits-/
theorem aaF{d u:Nat->Nat}{n q:Nat}(hb:0<b)(hu:∀i,i<=n+1->u i<b)
 (hq:q*num b d (n+1)<=num b u (n+2)):q*d n<=u (n+1)*b+u n:=by
 have h1:num b u n<b^n:=uM n fun i hi=>hu i (by omega)
 have hp:0<b^n:=ew hb
 simp only[num,br]at hq
 generalize b^n=P at *
 have h2:q*d n*P<(u (n+1)*b+u n+1)*P:=by
  have e1:q*(num b d n+d n*P)=q*num b d n+q*d n*P:=by grind
  have e2:(u (n+1)*b+u n+1)*P=u n*P+u (n+1)*(P*b)+P:=by grind
  omega
 have:=LZ h2
 omega
theorem aaG{d u:Nat->Nat}{n q:Nat}(hb:0<b)(hu:∀i,i<=n+2->u i<b)
 (hq:q*num b d (n+2)<=num b u (n+3)):q*(d (n+1)*b+d n)<=(u (n+2)*b+u (n+1))*b+u n:=by
 have h1:num b u n<b^n:=uM n fun i hi=>hu i (by omega)
 have hp:0<b^n:=ew hb
 simp only[num,br]at hq
 generalize b^n=P at *
 have h2:q*(d (n+1)*b+d n)*P<((u (n+2)*b+u (n+1))*b+u n+1)*P:=by
  have e1:q*(num b d n+d n*P+d (n+1)*(P*b))=q*num b d n+q*(d (n+1)*b+d n)*P:=by grind
  have e2:((u (n+2)*b+u (n+1))*b+u n+1)*P=u n*P+u (n+1)*(P*b)+u (n+2)*(P*b*b)+P:=by grind
  omega
 have:=LZ h2
 omega
theorem aaH{t d2 h l u2 q r Q:Nat}(e:q*t+r=h*b+l)(hQ:Q*(t*b+d2)<=(h*b+l)*b+u2)(U9:r*b+u2<q*d2)(hle:Q<=q):Q<=q-1:=by
 rcases Nat.lt_or_eq_of_le hle with h1|h1
 ·omega
 ·subst h1
  exfalso
  rw[<-e,lL,cw,<-eZ]at hQ
  omega
end Dg
namespace Go.Vg
open Go.RowKit
structure Hp(P:Program)(f:FuncId)(us:List SV)(v:SV):Prop where
 run:∀w,(callFunc f (aM id us).toArray).run P w= .ok (.value (den id v)) w
 cu:ay (fun _=>False) us
 cv:bd (fun _=>False) v
section
variable {P:Program}{g:G}
theorem aae{β:Nat->Nat}{a:Act}{W:World}{F:Nat->Option SV}{q:Nat->Prop}(hf:eX g β F q a){o:Oper}{c:Call}(ho:o.op= .call c){f:FuncId}{args:List SV}{v:SV}(hc:callee F c=some (f,args))(he:Hp P f args v):
 (execOp a.eval o).run P W= .ok (.value (den β v)) W:=by
 obtain⟨hr,hu,DI⟩:=he
 have gK:aM β args=aM id args:=nR (p:=fun _=>False) (fun l hl=>hl.elim) args hu
 have jv:den β v=den id v:=ue (p:=fun _=>False) (fun l hl=>hl.elim) v DI
 unfold callee at hc
 split at hc
 ·rename_i fo Td
  split at hc
  ·rename_i f' x y Ah
   cases iz:lQ F c.args.toList with
   |none=>simp[iz]at hc
   |some vs=>
    simp only[iz,fc,xT]at hc
    obtain⟨rfl,rfl⟩:=hc
    obtain⟨e0,b0⟩:=cq hf Ah
    obtain⟨e1,b1⟩:=MQ hf iz
    have m1:c.args.map a.eval=(aM β vs).toArray:=by rw[<-e1,<-CI]
    unfold execOp
    have Aw:(resolve a.eval c o.type).run P W= .ok {target:= .fn (.func f') (aM β y).toArray,args:=(aM β x).toArray++(aM β vs).toArray} W:=by
     unfold resolve
     simp[Td,e0,den,Deferred.ofValue,m1]
    have h2:(callFunc f' ((aM β x).toArray++(aM β vs).toArray++(aM β y).toArray)).run P W= .ok (.value (den β v)) W:=by
     rw[jv,<-hr W,<-gK]
     simp[cO]
    simp only[ho,Sem.run_bind,Aw,Result.andThen_ok,invoke,h2]
  ·cases hc
 ·cases hc
theorem G'{F:FF}{L:LL}{n:Nat}{o:Oper}{c:Call}(ho:o.op= .call c){m0 N:Nat}{ms:List Nat}(hg:GI g m0 ms N)(aA:dD N o.dst=true){f:FuncId}{args:List SV}{v:SV}(hc:callee (look F) c=some (f,args))(he:Hp P f args v)
 {K:FF->LL->Nat->Prop} (hK:K (cH F o.dst v) L n):Step g P o K F L n:=
 Cy hg aA (fun _ _ _ _ hf=>⟨aae hf ho hc he,zz (fun _ h=>h.elim) v he.cv⟩) hK
theorem zM{o:Oper}{c:Call}(ho:o.op= .call c){m0 N:Nat}{ms:List Nat}(hg:GI g m0 ms N)(aA:dD N o.dst=true){F:Nat->Option SV}{f:FuncId}{args:List SV}{v:SV}(hc:callee F c=some (f,args))(he:Hp P f args v){M:Nat->Option aC}:EN g P o F M v []:=
 Is hg aA fun _ _ _ _ _ _ hF _ _ hf=>⟨aae hf ho ((Ig ho hF).trans hc) he,zz (fun _ h=>h.elim) v he.cv⟩
end
def y8:List Nat->FF->FF
 | [],_=> []
 |k::ks,F=>match look F k with
  |some v=>(k,v)::y8 ks F
  |none=>y8 ks F
def AZ:List (Nat×List SV)->LL->LL
 | [],L=>L
 |(l,cs)::U,L=>AZ U (me L l cs)
theorem bH{n0:Nat}{c:Code}{body:(Exit->FF->LL->Nat->Prop)->FF->LL->Nat->Prop}{Q:Exit->FF->LL->Nat->Prop}{F:FF}{L:LL}{n:Nat}(σ:Type)(ok:σ->Prop)(m:σ->Nat)(cF:σ->FF)(ks:List Nat)(cL:σ->List (Nat×List SV))(s0:σ)(h0:ok s0)
 (h1:tW n0 id (cF s0++y8 ks F) (AZ (cL s0) L) n F L n)
 (h2:∀s,ok s->body (Vl (fun F' L' n'=>∃s' ρ,ok s'/\m s'<m s/\tW n0 ρ (cF s'++y8 ks F) (AZ (cL s') L) n F' L' n') Q) (cF s++y8 ks F) (AZ (cL s) L) n):PZ n0 c body Q F L n:=
 ⟨σ,ok,m,fun s=>cF s++y8 ks F,fun s=>AZ (cL s) L,n,⟨s0,id,h0,h1⟩,h2⟩
theorem aD{n0:Nat}{Lp:LL}(h:(Lp.all fun b=>an n0 b.cs)=true):∀b∈Lp,ay (fun l=>l<n0) b.cs:=fun b hb=>ak _ (gf.1 h b hb)
def ws(f:Nat->Nat)(n:Nat):List SV:=aw .u64 (fun j=>Int.ofNat (f j)) 0 n
def Wn(n:Nat)(f:Nat->Nat):Prop:=∀j,j<n->f j<0x10000000000000000
def V(n:Nat)(f:Nat->Nat):Nat:=Dg.num 0x10000000000000000 f n
theorem eg{n:Nat}{f:Nat->Nat}(h:Wn n f):V n f<0x10000000000000000^n:=Dg.uM n h
theorem kx{n:Nat}{f g:Nat->Nat}(hf:Wn n f)(hg:Wn n g)(h:V n f=V n g){k:IntKind}:aw k (fun j=>Int.ofNat (f j)) 0 n=aw k (fun j=>Int.ofNat (g j)) 0 n:=
 rK fun j _ hj=>aK Int.ofNat (Dg.acT (by decide) hf hg h j (by omega))
theorem cD(n x:Nat)(h:x<0x10000000000000000^n):∃r,Wn n r/\V n r=x:=
 ⟨Dg.eJ 0x10000000000000000 x,fun j _=>Dg.Z7 (by decide) x j,(Dg.GY (by decide) x n).trans (aO h)⟩
section
variable {A:Ar}
theorem ei(hA:A=Ar.real)(K:IntKind){n:Nat}(f:Nat->Nat){k:Nat}(h:k<n):A.get (aw K (fun j=>Int.ofNat (f j)) 0 n) k=some (.int K (Int.ofNat (f k))):=by
 rw[jU hA,GL _ _ h,dB]
theorem gX(hA:A=Ar.real)(K:IntKind){n:Nat}(f g:Nat->Nat){k v:Nat}(h:k<n)(hg:g=fun j=>if j=k then v else f j):A.eU (aw K (fun j=>Int.ofNat (f j)) 0 n) k [.int K (Int.ofNat v)]=some (aw K (fun j=>Int.ofNat (g j)) 0 n):=by
 rw[zb hA (by rw[tB];exact h)]
 congr 1
 refine US h ?_ fun j _ _ h3=> ?_
 ·rw[dB,hg];simp
 ·rw[dB]at h3;rw[hg];simp[h3]
theorem B7(hA:A=Ar.real)(a b:Nat):A.cmp .lss (Int.ofNat a) (Int.ofNat b)=decide (a<b):=by
 rw[UR hA];exact ye.2 Hr
theorem er(hA:A=Ar.real){a b:Nat}(h:b<=a)(ha:a<2^63):A.bin .sub .i64 (Int.ofNat a) (Int.ofNat b)=Int.ofNat (a-b):=by
 subst hA
 show IntKind.i64.wrap (Int.ofNat a-Int.ofNat b)=_
 rw[show Int.ofNat a-Int.ofNat b=((a-b:Nat):Int) by simp;omega]
 exact Lx _ (by omega)
theorem e_(hA:A=Ar.real){a b:Nat}(h:a+b<2^63):A.bin .add .i64 (Int.ofNat a) (Int.ofNat b)=Int.ofNat (a+b):=by
 subst hA
 exact Lx _ h
theorem k8(hA:A=Ar.real){a b:Nat}(h:a*b<2^63):A.bin .mul .i64 (Int.ofNat a) (Int.ofNat b)=Int.ofNat (a*b):=by
 subst hA
 exact Lx _ h
theorem sJ(hA:A=Ar.real)(a b:Nat):A.cmp .eql (Int.ofNat a) (Int.ofNat b)=decide (a=b):=by
 rw[aix hA];exact ye.2 ⟨fun h=>LN h,fun h=>aK Int.ofNat h⟩
theorem M0(hA:A=Ar.real)(a b:Nat):A.cmp .gtr (Int.ofNat a) (Int.ofNat b)=decide (b<a):=by
 subst hA
 show decide (Int.ofNat a>Int.ofNat b)=_
 exact ye.2 Hr
theorem Rx(hA:A=Ar.real)(a b:Nat):A.cmp .geq (Int.ofNat a) (Int.ofNat b)=decide (b<=a):=by
 subst hA
 show decide (Int.ofNat a≥Int.ofNat b)=_
 exact ye.2 PQ
theorem UF(hA:A=Ar.real)(a b:Nat):A.cmp .leq (Int.ofNat a) (Int.ofNat b)=decide (a<=b):=by
 subst hA
 show decide (Int.ofNat a<=Int.ofNat b)=_
 exact ye.2 PQ
theorem acK(hA:A=Ar.real)(a b:Nat):A.cmp .neq (Int.ofNat a) (Int.ofNat b)=decide (a≠b):=by
 rw[alF hA];exact ye.2 ⟨fun h e=>h (aK Int.ofNat e),fun h e=>h (LN e)⟩
theorem k_(hA:A=Ar.real){k:IntKind}{a b:Nat}(hb:b<=k.bits):A.sh .shr k (Int.ofNat a) (Int.ofNat b)=Int.ofNat (a/2^b):=by
 subst hA
 show Int.fdiv (Int.ofNat a) (2^(min (Int.ofNat b).toNat k.bits))=_
 rw[show(Int.ofNat b).toNat=b from rfl,tS hb]
 have h:(2:Int)^b=Int.ofNat (2^b):=by simp
 rw[h];exact(Int.ofNat_fdiv ..).symm
theorem nQ(hA:A=Ar.real){k:IntKind}{a:Nat}(h:k.signed=true->a<2^(k.bits-1))(h2:k.signed=false->a<2^k.bits):A.aX k (Int.ofNat a)=Int.ofNat a:=by
 rw[ML hA]
 cases k<;>simp[IntKind.wrap,IntKind.signed,IntKind.bits]at h h2⊢ <;>omega
end
def ig(x k:Nat):Prop:=x<2^k/\(0<k->2^(k-1)<=x)
theorem ig.uniq{x k l:Nat}(h:ig x k)(h2:ig x l):k=l:=by
 rcases Nat.lt_trichotomy k l with h3|h3|h3
 ·have:=cV (show 0<2 by decide) (show k<=l-1 by omega)
  have:=h2.2 (by omega)
  have:=h.1
  omega
 ·exact h3
 ·have:=cV (show 0<2 by decide) (show l<=k-1 by omega)
  have:=h.2 (by omega)
  have:=h2.1
  omega
def Used(m:Nat)(a:Nat->Nat)(u:Nat):Prop:=u<=m/\(∀j,u<=j->j<m->a j=0)/\(0<u->a (u-1)≠0)
end Go.Vg
