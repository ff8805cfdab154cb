/-
  This text proves what these texts prove: VgY, VgZ, Nd, Ne, Nf. Conditions: those of each theorem.
-/
import Derived.Test.YtfocopihipejfaaGreatB07
set_option maxHeartbeats 8000000
set_option linter.all false
namespace Go.Vg
open Go.RowKit
def y7(F:Nat->Option SV):Option Operand->Option (Option (IntKind×Int))
 |none=>some none
 |some x=>match ev F x with
  |some (.int k i)=>some (some (k,i))
  |_=>none
def Om(p:Option (IntKind×Int)):Option Value:=p.map fun p=> .int p.1 p.2
structure oF(P:Program)(t:TypeId)(u:SV)(lo hi:Option (IntKind×Int))(r:SV):Prop where
 run:∀ (β:Nat->Nat) (W:World),(Instr.sliceAt t (den β u) (Om lo) (Om hi) none).run P W= .ok (den β r) W
 bd:∀p,bd p u->bd p r
section
variable {P:Program}{g:G}{T:Nat->Option Ty}
theorem OS{F:Nat->Option SV}{β:Nat->Nat}{q:Nat->Prop}{a:Act}(hf:eX g β F q a){x:Option Operand}{p:Option (IntKind×Int)}(h:y7 F x=some p):x.map a.eval=Om p:=by
 cases x with
 |none=>simp only[y7,fc]at h;subst h;rfl
 |some x=>
  simp only[y7]at h
  split at h
  ·rename_i k i he
   simp only[fc]at h
   subst h
   simp only[Option.map_some,(cq hf he).1,den,Om]
  ·cases h
theorem ac0{F F':Nat->Option SV}{x:Option Operand}(h:∀y,x=some y->ev F' y=ev F y):y7 F' x=y7 F x:=by
 cases x with
 |none=>rfl
 |some x=>simp only[y7,h x rfl]
theorem rS{F:FF}{L:LL}{n:Nat}{o:Oper}{m0 N:Nat}{ms:List Nat}(hg:GI g m0 ms N)(aA:dD N o.dst=true){x:Operand}{t:Nat}{lo hi:Option Operand}(ho:o.op= .slice t x lo hi none){u r:SV}{l h:Option (IntKind×Int)}
 (hx:ev (look F) x=some u) (hl:y7 (look F) lo=some l) (hh:y7 (look F) hi=some h) (hr:oF P t u l h r) {K:FF->LL->Nat->Prop} (hK:K (cH F o.dst r) L n):Step g P o K F L n:=by
 refine Cy hg aA (fun β a W hm hf=> ?_) hK
 obtain⟨e1,b1⟩:=cq hf hx
 refine⟨adz ho ?_,hr.bd _ b1⟩
 rw[e1,OS hf hl,OS hf hh]
 exact hr.run β W
theorem sI{F:Nat->Option SV}{M:Nat->Option aC}{o:Oper}{m0 N:Nat}{ms:List Nat}(hg:GI g m0 ms N)(aA:dD N o.dst=true){x:Operand}{t:Nat}{lo hi:Option Operand}(ho:o.op= .slice t x lo hi none){u r:SV}{l h:Option (IntKind×Int)}
 (hx:ev F x=some u) (hl:y7 F lo=some l) (hh:y7 F hi=some h) (hr:oF P t u l h r):EN g P o F M r []:=by
 refine Is hg aA fun β p F' L' a W hF hM hm hf=> ?_
 have E:∀z∈o.op.operands.toList,ev F' z=ev F z:=fun z hz=>FG fun t ht=>hF t (EU hz ht)
 rw[ho]at E
 obtain⟨e1,b1⟩:=cq hf ((E x (by cases lo<;>cases hi<;>simp[Op.operands])).trans hx)
 refine⟨adz ho ?_,hr.bd _ b1⟩
 rw[e1,OS hf ((ac0 fun y hy=>E y (by subst hy;cases hi<;>simp[Op.operands])).trans hl),OS hf ((ac0 fun y hy=>E y (by subst hy;cases lo<;>simp[Op.operands])).trans hh)]
 exact hr.run β W
theorem Mg(hT:cI P T){t:Nat}{i:Ty}(ht:T t=some i){m e es:Nat}{ag:Bool}(hd:i.d= .ar m e es ag):P.underlying t=some (.array (P.arrayLen t) (P.elem t))/\P.arrayLen t=m/\∀w,(sizeOf (P.elem t)).run P w= .ok es w:=by
 obtain⟨hu,hs,_⟩:=Qi hT ht hd
 have h1:P.arrayLen t=m:=by simp[Program.arrayLen,hu]
 have h2:P.elem t=e:=by simp[Program.elem,hu]
 exact⟨by rw[h1,h2];exact hu,h1,fun w=>by rw[h2];exact rQ hs w⟩
theorem za(hT:cI P T){t:Nat}{i:Ty}(ht:T t=some i){m e es:Nat}{ag:Bool}(hd:i.d= .ar m e es ag)(l o:Nat):oF P t (.ptr l o) none none (.slice l o m m):=by
 obtain⟨hu,hm,hs⟩:=Mg hT ht hd
 refine⟨fun β W=> ?_,fun p h=>h⟩
 show(Instr.sliceAt t (.pointer (some ⟨β l,o,none⟩)) none none none).run P W=_
 rw[run_sliceAt_array_all W t ⟨β l,o,none⟩ hu,hs W,hm]
 simp only[Result.andThen,slicedAt,tU,den]
 split
 ·rfl
 ·rw[fE,tY];rfl
theorem VW(hT:cI P T){t:Nat}{i:Ty}(ht:T t=some i){m e es:Nat}{ag:Bool}(hd:i.d= .ar m e es ag)(l o:Nat){k:IntKind}{j:Nat}(hj:j<=m):oF P t (.ptr l o) none (some (k,Int.ofNat j)) (.slice l o j m):=by
 obtain⟨hu,hm,hs⟩:=Mg hT ht hd
 refine⟨fun β W=> ?_,fun p h=>h⟩
 show(Instr.sliceAt t (.pointer (some ⟨β l,o,none⟩)) none (some (.int k (Int.ofNat j))) none).run P W=_
 rw[run_sliceAt_array_h W t ⟨β l,o,none⟩ hu k (Int.ofNat j) (by simp) (by rw[hm];exact PQ.2 hj),hs W,hm]
 simp only[Result.andThen,slicedAt,tU,den]
 split
 ·rfl
 ·rw[fE,tY];rfl
theorem G8(hT:cI P T){t:Nat}{i:Ty}(ht:T t=some i){e es:Nat}(hd:i.d= .sl e es)(l o m c:Nat){k:IntKind}{j:Nat}(hj:j<=c):oF P t (.slice l o m c) none (some (k,Int.ofNat j)) (.slice l o j c):=by
 obtain⟨hu,hs⟩:=ma hT ht hd
 have he:P.elem t=e:=by simp[Program.elem,hu]
 refine⟨fun β W=> ?_,fun p h=>h⟩
 show(Instr.sliceAt t (.slice (some ⟨β l,o,none⟩) m c) none (some (.int k (Int.ofNat j))) none).run P W=_
 rw[run_sliceAt_slice W t _ _ _ _ (by rw[he];exact hu),run_slice_h W t _ m c (by rw[he];exact hu) k (Int.ofNat j) (by simp) (by simpa using hj),he,rQ hs]
 simp[Result.andThen,sliced,tY,den]
theorem ap8(hT:cI P T){t:Nat}{i:Ty}(ht:T t=some i){e es:Nat}(hd:i.d= .sl e es)(l o m c:Nat){k:IntKind}{j:Nat}(hj:j<=m)(hc:j<c):oF P t (.slice l o m c) (some (k,Int.ofNat j)) none (.slice l (o+j*es) (m-j) (c-j)):=by
 obtain⟨hu,hs⟩:=ma hT ht hd
 have he:P.elem t=e:=by simp[Program.elem,hu]
 refine⟨fun β W=> ?_,fun p h=>h⟩
 show(Instr.sliceAt t (.slice (some ⟨β l,o,none⟩) m c) (some (.int k (Int.ofNat j))) none none).run P W=_
 rw[run_sliceAt_slice W t _ _ _ _ (by rw[he];exact hu),run_slice_l W t _ m c (by rw[he];exact hu) k (Int.ofNat j) (by simp) (by simpa using hj),he,rQ hs]
 simp only[Result.andThen,sliced,den]
 rw[af (by simp;omega)]
 simp[tY]
end
end Go.Vg
namespace Go.Vg
open Go.RowKit
section
variable {A:Ar}{k:IntKind}
theorem tX(hA:A=Ar.real)(hk:k.signed=false)(a b:Nat):A.bin .add k (Int.ofNat a) (Int.ofNat b)=Int.ofNat ((a+b)%2^k.bits):=by
 subst hA
 exact CG k hk (a+b)
theorem EA(hA:A=Ar.real)(hk:k.signed=false)(a b:Nat):A.bin .mul k (Int.ofNat a) (Int.ofNat b)=Int.ofNat (a*b%2^k.bits):=by
 subst hA
 exact CG k hk (a*b)
theorem A8(hA:A=Ar.real)(hk:k.signed=false){a b:Nat}(hb:b<=2^k.bits):A.bin .sub k (Int.ofNat a) (Int.ofNat b)=Int.ofNat ((a+2^k.bits-b)%2^k.bits):=by
 subst hA
 show k.wrap ((a:Int)-(b:Int))=_
 cases k<;>simp[IntKind.signed]at hk<;>simp[IntKind.wrap,IntKind.signed,IntKind.bits]at hb⊢ <;>omega
theorem VI(hA:A=Ar.real)(hk:k.signed=false){a:Nat}(ha:a<2^k.bits)(b:Nat):A.bin .quo k (Int.ofNat a) (Int.ofNat b)=Int.ofNat (a/b):=by
 subst hA
 show k.wrap ((a:Int).tdiv (b:Int))=_
 rw[show(a:Int).tdiv (b:Int)=((a/b:Nat):Int)from(Int.ofNat_tdiv a b).symm,CG k hk,aO (eB (gq a b) ha)]
 rfl
theorem pJ(hA:A=Ar.real)(a b:Nat):A.bin .rem k (Int.ofNat a) (Int.ofNat b)=Int.ofNat (a%b):=by
 subst hA
 exact(Int.ofNat_tmod a b).symm
theorem l9(hA:A=Ar.real)(hk:k.signed=false){a b:Nat}(ha:a<2^k.bits)(hb:b<2^k.bits):A.bin .or k (Int.ofNat a) (Int.ofNat b)=Int.ofNat (a|||b):=by
 subst hA
 exact(Wc k hk a b ha hb).2.1
theorem qP(hA:A=Ar.real)(hk:k.signed=false){a b:Nat}(ha:a<2^k.bits)(hb:b<2^k.bits):A.bin .and k (Int.ofNat a) (Int.ofNat b)=Int.ofNat (a&&&b):=by
 subst hA
 exact(Wc k hk a b ha hb).1
theorem pL(hA:A=Ar.real)(hk:k.signed=false){a b:Nat}(ha:a<2^k.bits)(hb:b<2^k.bits):A.bin .xor k (Int.ofNat a) (Int.ofNat b)=Int.ofNat (a^^^b):=by
 subst hA
 exact(Wc k hk a b ha hb).2.2
theorem mP(hA:A=Ar.real)(hk:k.signed=false)(a:Nat){s:Nat}(hs:s<=k.bits):A.sh .shl k (Int.ofNat a) (Int.ofNat s)=Int.ofNat (a*2^s%2^k.bits):=by
 subst hA
 show k.wrap ((a:Int)*2^(min (Int.ofNat s).toNat k.bits))=_
 rw[show(Int.ofNat s).toNat=s from rfl,tS hs]
 have h:(a:Int)*(2:Int)^s=((a*2^s:Nat):Int):=by simp
 rw[h,CG k hk]
 rfl
end
section
variable {A:Ar}
theorem cZ(hA:A=Ar.real){a b:Nat}(h:a<b):A.cmp .lss (Int.ofNat a) (Int.ofNat b)=true:=(B7 hA a b).trans (eh h)
theorem bM(hA:A=Ar.real){a b:Nat}(h:¬a<b):A.cmp .lss (Int.ofNat a) (Int.ofNat b)=false:=(B7 hA a b).trans (da h)
theorem po(hA:A=Ar.real){a b:Nat}(h:b<a):A.cmp .gtr (Int.ofNat a) (Int.ofNat b)=true:=(M0 hA a b).trans (eh h)
theorem jV(hA:A=Ar.real){a b:Nat}(h:¬b<a):A.cmp .gtr (Int.ofNat a) (Int.ofNat b)=false:=(M0 hA a b).trans (da h)
theorem kC(hA:A=Ar.real){a b:Nat}(h:b<=a):A.cmp .geq (Int.ofNat a) (Int.ofNat b)=true:=(Rx hA a b).trans (eh h)
theorem qW(hA:A=Ar.real){a b:Nat}(h:¬b<=a):A.cmp .geq (Int.ofNat a) (Int.ofNat b)=false:=(Rx hA a b).trans (da h)
theorem abY(hA:A=Ar.real){a b:Nat}(h:a<=b):A.cmp .leq (Int.ofNat a) (Int.ofNat b)=true:=(UF hA a b).trans (eh h)
theorem abX(hA:A=Ar.real){a b:Nat}(h:¬a<=b):A.cmp .leq (Int.ofNat a) (Int.ofNat b)=false:=(UF hA a b).trans (da h)
theorem iP(hA:A=Ar.real){a b:Nat}(h:a=b):A.cmp .eql (Int.ofNat a) (Int.ofNat b)=true:=(sJ hA a b).trans (eh h)
theorem ja(hA:A=Ar.real){a b:Nat}(h:¬a=b):A.cmp .eql (Int.ofNat a) (Int.ofNat b)=false:=(sJ hA a b).trans (da h)
theorem yX(hA:A=Ar.real){a b:Nat}(h:a≠b):A.cmp .neq (Int.ofNat a) (Int.ofNat b)=true:=(acK hA a b).trans (eh h)
theorem ow(hA:A=Ar.real){a b:Nat}(h:a=b):A.cmp .neq (Int.ofNat a) (Int.ofNat b)=false:=(acK hA a b).trans (da (fun h2=>h2 h))
theorem OJ(hA:A=Ar.real){a:Nat}(h:a≠0):A.nz (Int.ofNat a)=true:=Ve hA (fun e=>h (LN e))
theorem kr(hA:A=Ar.real)(a:Nat):A.nn (Int.ofNat a)=true:=by
 have h:A.nn=fun i=>decide (0<=i):=aK Ar.nn hA
 rw[h];exact eh (zi a)
end
theorem oy{a b s:Nat}(h:b<2^s):a*2^s|||b=a*2^s+b:=by
 rw[bJ,<-Nat.two_pow_add_eq_or_of_lt h]
end Go.Vg
namespace Go.Proofs.YtfocopihipejfaaGreat
open Go.Vg Go.RowKit
set_option maxRecDepth 200000
set_option cbv.maxSteps 100000000
theorem Z6{a b u v X r q:Nat}(e:X+r=u)(h:q*b<=4294967296*r+v)(hX:X=q*a):q<=(u*4294967296+v)/(a*4294967296+b)\/a*4294967296+b=0:=by
 rcases Nat.eq_zero_or_pos (a*4294967296+b)with h0|h0
 ·exact Or.inr h0
 ·left
  rw[Fj h0]
  have h1:q*(a*4294967296+b)=X*4294967296+q*b:=by rw[hX];grind
  rw[h1]
  generalize q*b=Z at *
  omega
theorem ah_{a b u v X r q:Nat}(e:X+r=u)(h:4294967296*r+v<q*b)(hX:X=q*a)(h0:0<a*4294967296+b):(u*4294967296+v)/(a*4294967296+b)<q:=by
 rw[qN h0]
 have h1:q*(a*4294967296+b)=X*4294967296+q*b:=by rw[hX];grind
 rw[h1]
 generalize q*b=Z at *
 omega
structure qL(a u Q q r:Nat):Prop where
 e:q*a+r=u
 le:Q<=q
 qb:q<=4294967297
 rb:r<4294967296
theorem M3{a b u v:Nat}(ha:2147483648<=a)(jc:a<4294967296)(hb:b<4294967296)(hv:v<4294967296)(hu:u<a*4294967296+b):
 qL a u ((u*4294967296+v)/(a*4294967296+b)) (u/a) (u%a):=by
 have h0:0<a:=by omega
 have e:u/a*a+u%a=u:=by rw[bJ];exact gN u a
 have hr:=ax u h0
 refine⟨e,?_,?_,cT hr jc⟩
 ·refine Nat.le_of_lt_succ ?_
  rw[qN (by omega)]
  have h1:(u/a).succ*(a*4294967296+b)=u/a*a*4294967296+a*4294967296+u/a*b+b:=by rw[Nat.succ_eq_add_one];grind
  rw[h1]
  generalize u/a*a=X at *
  generalize u/a*b=Z at *
  omega
 ·refine Nat.le_of_lt_succ ?_
  rw[qN h0]
  omega
theorem ai0{a b u v q r:Nat}(ha:0<a)(h:qL a u ((u*4294967296+v)/(a*4294967296+b)) q r)(h2:q*b<=4294967296*r+v):q=(u*4294967296+v)/(a*4294967296+b):=by
 rcases Z6 h.e h2 rfl with h3|h3
 ·exact P3 h3 h.le
 ·omega
theorem aiZ{a b u v q r:Nat}(ha:0<a)(hQ:(u*4294967296+v)/(a*4294967296+b)<4294967296)(h:qL a u ((u*4294967296+v)/(a*4294967296+b)) q r)(h2:4294967296<=q\/4294967296*r+v<q*b):
 0<q/\(q-1)*a+(r+a)=u/\(u*4294967296+v)/(a*4294967296+b)<=q-1/\q-1<=4294967296:=by
 have h3:(u*4294967296+v)/(a*4294967296+b)<q:=by
  rcases h2 with h2|h2
  ·exact cg hQ h2
  ·exact ah_ h.e h2 rfl (by omega)
 have h4:=h.qb
 have e:=h.e
 clear h
 generalize (u*4294967296+v)/(a*4294967296+b)=D at *
 refine⟨by omega,?_,by omega,by omega⟩
 obtain⟨p,rfl⟩:∃p,q=p+1:=⟨q-1,by omega⟩
 rw[cw,fN]at e
 rw[oC]
 omega
theorem aiY{a b u v q r:Nat}(ha:0<a)(hb:b<4294967296)(e:q*a+r=u)(hQ:(u*4294967296+v)/(a*4294967296+b)<=q)(hq:q<=4294967296)(hr:4294967296<=r):q=(u*4294967296+v)/(a*4294967296+b):=by
 refine P3 ?_ hQ
 have h2:q*b<=4294967296*4294967295:=mV hq (by omega)
 have h4:=xS 4294967296 hr
 rcases Z6 (v:=v) (b:=b) e (by omega) rfl with h3|h3
 ·exact h3
 ·omega
theorem M1{a b u v q r Q:Nat}(hQ:Q=(u*4294967296+v)/(a*4294967296+b))(ha:2147483648<=a)(h:qL a u Q q r)(h2:q*b<=4294967296*r+v):q=Q:=by
 subst hQ
 exact ai0 (by omega) h h2
theorem Bt{a b u v q r Q:Nat}(hQ:Q=(u*4294967296+v)/(a*4294967296+b))(ha:2147483648<=a)(hQl:Q<4294967296)(h:qL a u Q q r)(h2:4294967296<=q\/4294967296*r+v<q*b):
 0<q/\(q-1)*a+(r+a)=u/\Q<=q-1/\q-1<=4294967296:=by
 subst hQ
 exact aiZ (by omega) hQl h h2
theorem Bs{a b u v q r Q:Nat}(hQ:Q=(u*4294967296+v)/(a*4294967296+b))(ha:2147483648<=a)(hb:b<4294967296)(e:q*a+r=u)(I1:Q<=q)(hq:q<=4294967296)(hr:4294967296<=r):q=Q:=by
 subst hQ
 exact aiY (by omega) hb e I1 hq hr
theorem aeo{x c y B:Nat}(hy:0<y):(x*B+c)/y=x/y*B+(x%y*B+c)/y/\(x*B+c)%y=(x%y*B+c)%y:=by
 have e:x*B+c=y*(x/y*B)+(x%y*B+c):=by
  have h:=gN x y
  have h2:x*B=(y*(x/y)+x%y)*B:=by rw[h]
  rw[h2];grind
 rw[e]
 exact⟨P4 hy _ _,Nat.mul_add_mod _ _ _⟩
theorem tF:2^IntKind.u64.bits=0x10000000000000000:=rfl
section
variable {A:Ar}
theorem HP(hA:A=Ar.real){a b r:Nat}(h:r=(a+b)%0x10000000000000000):A.bin .add .u64 (Int.ofNat a) (Int.ofNat b)=Int.ofNat r:=by rw[tX hA rfl,tF,h]
theorem GR(hA:A=Ar.real){a b r:Nat}(h:r=a*b%0x10000000000000000):A.bin .mul .u64 (Int.ofNat a) (Int.ofNat b)=Int.ofNat r:=by rw[EA hA rfl,tF,h]
theorem Hb(hA:A=Ar.real){a b r:Nat}(hb:b<=0x10000000000000000)(h:r=(a+0x10000000000000000-b)%0x10000000000000000):A.bin .sub .u64 (Int.ofNat a) (Int.ofNat b)=Int.ofNat r:=by rw[A8 hA rfl (by rw[tF];exact hb),tF,h]
theorem Cw(hA:A=Ar.real){a s r:Nat}(hs:s<=64)(h:r=a*2^s%0x10000000000000000):A.sh .shl .u64 (Int.ofNat a) (Int.ofNat s)=Int.ofNat r:=by rw[mP hA rfl a (by exact hs),tF,h]
theorem EL(hA:A=Ar.real){a s r:Nat}(hs:s<=64)(h:r=a/2^s):A.sh .shr .u64 (Int.ofNat a) (Int.ofNat s)=Int.ofNat r:=by rw[k_ hA (by exact hs),h]
theorem G0(hA:A=Ar.real){a b r:Nat}(ha:a<0x10000000000000000)(hb:b<0x10000000000000000)(h:r=a|||b):A.bin .or .u64 (Int.ofNat a) (Int.ofNat b)=Int.ofNat r:=by rw[l9 hA rfl (by rw[tF];exact ha) (by rw[tF];exact hb),h]
theorem YR(hA:A=Ar.real){a b r:Nat}(ha:a<0x10000000000000000)(hb:b<0x10000000000000000)(h:r=a&&&b):A.bin .and .u64 (Int.ofNat a) (Int.ofNat b)=Int.ofNat r:=by rw[qP hA rfl (by rw[tF];exact ha) (by rw[tF];exact hb),h]
theorem ac'(hA:A=Ar.real){a b r:Nat}(ha:a<0x10000000000000000)(h:r=a/b):A.bin .quo .u64 (Int.ofNat a) (Int.ofNat b)=Int.ofNat r:=by rw[VI hA rfl (by rw[tF];exact ha),h]
theorem M4(hA:A=Ar.real){a b w v Q p ρ:Nat}(hG:qL a w Q p ρ)(jc:a<4294967296)(hb:b<4294967296)(hv:v<4294967296):
 ∃Z Y Y' ka p':Nat,Z=p*b/\Y'=4294967296*ρ+v/\ka=ρ+a/\p'=p-1/\(4294967296<=p->A.cmp .geq (Int.ofNat p) 4294967296=true)/\(¬4294967296<=p->A.cmp .geq (Int.ofNat p) 4294967296=false)/\A.bin .mul .u64 4294967296 (Int.ofNat ρ)=Int.ofNat Y/\A.bin .add .u64 (Int.ofNat Y) (Int.ofNat v)=Int.ofNat Y'/\
  (Y'<Z->A.cmp .gtr (Int.ofNat Z) (Int.ofNat Y')=true)/\(¬Y'<Z->A.cmp .gtr (Int.ofNat Z) (Int.ofNat Y')=false)/\(1<=p->A.bin .sub .u64 (Int.ofNat p) 1=Int.ofNat p')/\A.bin .add .u64 (Int.ofNat ρ) (Int.ofNat a)=Int.ofNat ka/\(4294967296<=ka->A.cmp .geq (Int.ofNat ka) 4294967296=true)/\(¬4294967296<=ka->A.cmp .geq (Int.ofNat ka) 4294967296=false)/\
  (p<4294967296->A.bin .mul .u64 (Int.ofNat p) (Int.ofNat b)=Int.ofNat Z):=by
 have h1:=hG.rb
 have h2:=hG.qb
 clear hG
 refine⟨p*b,4294967296*ρ,4294967296*ρ+v,ρ+a,p-1,rfl,rfl,rfl,rfl,fun h=>kC hA (b:=4294967296) h,fun h=>qW hA (b:=4294967296) h,GR hA (a:=4294967296) (by omega),HP hA (by omega),fun h=>po hA h,fun h=>jV hA h,fun h=>Hb hA (b:=1) (by decide) (by omega),HP hA (by omega),fun h=>kC hA (b:=4294967296) h,fun h=>qW hA (b:=4294967296) h,fun h=>GR hA ?_⟩
 have h3:p*b<=4294967295*4294967295:=mV (by omega) (by omega)
 exact(aO (by omega)).symm
theorem Pc(hA:A=Ar.real){a w g0 r0 X:Nat}(hw:w<0x10000000000000000)(oc:g0=w/a)(cC:r0=w%a)(hX:X=g0*a):
 A.bin .quo .u64 (Int.ofNat w) (Int.ofNat a)=Int.ofNat g0/\A.bin .mul .u64 (Int.ofNat g0) (Int.ofNat a)=Int.ofNat X/\A.bin .sub .u64 (Int.ofNat w) (Int.ofNat X)=Int.ofNat r0:=by
 have e:=gN w a
 rw[<-oc,<-cC,bJ,<-hX]at e
 exact⟨ac' hA hw oc,GR hA (by rw[<-hX];omega),Hb hA (by omega) (by omega)⟩
theorem ado(hA:A=Ar.real){w v Q Y t:Nat}(hQ:Q<4294967296)(hY:Y<0x10000000000000000)(ht:t<Y)(e:Q*Y+t=w*4294967296+v):
 ∃N1 N2 N3:Nat,A.bin .mul .u64 (Int.ofNat w) 4294967296=Int.ofNat N1/\A.bin .add .u64 (Int.ofNat N1) (Int.ofNat v)=Int.ofNat N2/\A.bin .mul .u64 (Int.ofNat Q) (Int.ofNat Y)=Int.ofNat N3/\A.bin .sub .u64 (Int.ofNat N2) (Int.ofNat N3)=Int.ofNat t:=by
 refine⟨w*4294967296%0x10000000000000000,(w*4294967296%0x10000000000000000+v)%0x10000000000000000,Q*Y%0x10000000000000000,GR hA (b:=4294967296) rfl,HP hA rfl,GR hA rfl,Hb hA (by omega) ?_⟩
 generalize Q*Y=Z at *
 omega
theorem aqt(x:Nat):x/4294967296*4294967296+x%4294967296=x:=by omega
theorem adU(u lo:Nat):u*0x10000000000000000+lo=(u*4294967296+lo/4294967296)*4294967296+lo%4294967296:=by omega
theorem aeh{u v y:Nat}(h:u<y)(hv:v<4294967296):u*4294967296+v<4294967296*y:=by omega
theorem aic{N S y y' u lo q r:Nat}(hS:0<S)(jG:y'=y*S)(hN:N*S=u*0x10000000000000000+lo)(AA:u<y')(kp:lo<0x10000000000000000)(hq:q=N/y)(hr:r=N%y):
 ∃Q1 t Q0 z:Nat,Q1=(u*4294967296+lo/4294967296)/y'/\Q1<4294967296/\t<y'/\Q1*y'+t=u*4294967296+lo/4294967296/\Q0=(t*4294967296+lo%4294967296)/y'/\Q0<4294967296/\z<y'/\Q0*y'+z=t*4294967296+lo%4294967296/\q=Q1*4294967296+Q0/\r*S=z:=by
 have h0:0<y':=eB (bf _) AA
 have gD:lo/4294967296<4294967296:=by omega
 have kH:lo%4294967296<4294967296:=ax _ (by decide)
 have w_:=ax (u*4294967296+lo/4294967296) h0
 refine⟨_,(u*4294967296+lo/4294967296)%y',_,(((u*4294967296+lo/4294967296)%y')*4294967296+lo%4294967296)%y',rfl,?_,w_,?_,rfl,?_,ax _ h0,?_,?_,?_⟩
 ·rw[qN h0];exact aeh AA gD
 ·rw[bJ];exact gN _ _
 ·rw[qN h0];exact aeh w_ kH
 ·rw[bJ];exact gN _ _
 ·rw[<-(aeo (x:=u*4294967296+lo/4294967296) (c:=lo%4294967296) (B:=4294967296) h0).1,<-adU,<-hN,jG,L5 _ _ hS,hq]
 ·rw[<-(aeo (x:=u*4294967296+lo/4294967296) (c:=lo%4294967296) (B:=4294967296) h0).2,<-adU,<-hN,jG,Fk,hr]
theorem apn{Q1 Q0 q:Nat}(h1:Q1<4294967296)(h0:Q0<4294967296)(hq:q=Q1*4294967296+Q0):Q1*4294967296=Q1*4294967296%0x10000000000000000/\q=(Q1*4294967296+Q0)%0x10000000000000000:=by omega
theorem aqS{y:Nat}(h:y<0x10000000000000000)(h2:9223372036854775808<=y):2147483648<=y/4294967296/\y/4294967296<4294967296:=by omega
theorem UJ{y:Nat}(h:y<0x10000000000000000):y/4294967296<4294967296:=by omega
theorem aid(hA:A=Ar.real){x1 x0 y q r k s:Nat}(hy:y<0x10000000000000000)(dR:x1<y)(kY:x0<0x10000000000000000)(hq:q=(x1*0x10000000000000000+x0)/y)(hr:r=(x1*0x10000000000000000+x0)%y)(hk:ig y k)(hs:s=64-k):
 s<=64/\∃s' y' hi mi lo u a b v1 v0 Q1 t Q0 z z' q':Nat,(A.aX .u64 (Int.ofNat s)=Int.ofNat s/\A.sh .shl .u64 (Int.ofNat y) (Int.ofNat s)=Int.ofNat y'/\A.sh .shr .u64 (Int.ofNat y') 32=Int.ofNat a/\A.bin .and .u64 (Int.ofNat y') 4294967295=Int.ofNat b/\
   A.sh .shl .u64 (Int.ofNat x1) (Int.ofNat s)=Int.ofNat hi/\A.bin .sub .u64 64 (Int.ofNat s)=Int.ofNat s'/\A.sh .shr .u64 (Int.ofNat x0) (Int.ofNat s')=Int.ofNat mi/\A.bin .or .u64 (Int.ofNat hi) (Int.ofNat mi)=Int.ofNat u/\
   A.sh .shl .u64 (Int.ofNat x0) (Int.ofNat s)=Int.ofNat lo/\A.sh .shr .u64 (Int.ofNat lo) 32=Int.ofNat v1/\A.bin .and .u64 (Int.ofNat lo) 4294967295=Int.ofNat v0/\A.sh .shr .u64 (Int.ofNat z) (Int.ofNat s)=Int.ofNat z'/\A.bin .mul .u64 (Int.ofNat Q1) 4294967296=Int.ofNat q'/\A.bin .add .u64 (Int.ofNat q') (Int.ofNat Q0)=Int.ofNat q)/\
   a*4294967296+b=y'/\y'<0x10000000000000000/\2147483648<=a/\a<4294967296/\b<4294967296/\v1<4294967296/\v0<4294967296/\u<y'/\Q1=(u*4294967296+v1)/(a*4294967296+b)/\Q1<4294967296/\t<y'/\Q1*y'+t=u*4294967296+v1/\
   Q0=(t*4294967296+v0)/(a*4294967296+b)/\Q0<4294967296/\z<y'/\Q0*y'+z=t*4294967296+v0/\r=z':=by
 have aa7:k<=64:=vk fun h3=>by
  have h4:=hk.2 (by omega)
  have h5:=cV (show 0<2 by decide) (show 64<=k-1 by omega)
  omega
 have fB:0<k:=by
  rcases Nat.eq_zero_or_pos k with h|h
  ·subst h;have:=hk.1;simp at this;omega
  ·exact h
 have JZ:2^k*2^s=0x10000000000000000:=by rw[<-dV,show k+s=64 by omega]
 have J0:2^(k-1)*2^s=9223372036854775808:=by rw[<-dV,show k-1+s=63 by omega]
 have BU:2^(64-s)*2^s=0x10000000000000000:=by rw[<-dV,show 64-s+s=64 by omega]
 have zR:0<2^s:=ew (by decide)
 have aaI:0<2^(64-s):=ew (by decide)
 have Ko:y*2^s<0x10000000000000000:=by rw[<-JZ];exact HI hk.1 zR
 have abL:9223372036854775808<=y*2^s:=by rw[<-J0];exact ea _ (hk.2 fB)
 have TC:x0/2^(64-s)<2^s:=by rw[qN aaI,bJ,BU];exact kY
 have Tk:x1*2^s+2^s<=y*2^s:=by
  have:=ea (2^s) (show x1+1<=y from dR)
  rwa [cw,fN]at this
 have aa_:x0*2^s=x0/2^(64-s)*0x10000000000000000+x0*2^s%0x10000000000000000:=by
  have e:=gN (x0*2^s) 0x10000000000000000
  have e2:x0*2^s/0x10000000000000000=x0/2^(64-s):=by rw[<-BU,L5 _ _ zR]
  rw[e2]at e
  omega
 have kU:x1*2^s|||x0/2^(64-s)=x1*2^s+x0/2^(64-s):=oy TC
 have hN:(x1*0x10000000000000000+x0)*2^s=(x1*2^s+x0/2^(64-s))*0x10000000000000000+x0*2^s%0x10000000000000000:=by
  rw[cw,aa_,Nat.mul_right_comm];omega
 obtain⟨y',jG⟩:=aa (y*2^s)
 obtain⟨hi,JC⟩:=aa (x1*2^s)
 obtain⟨mi,DY⟩:=aa (x0/2^(64-s))
 obtain⟨lo,kp⟩:=aa (x0*2^s%0x10000000000000000)
 obtain⟨u,hu⟩:=aa (hi+mi)
 have Tz:lo<0x10000000000000000:=by rw[kp];exact ax _ (by decide)
 rw[<-jG]at Ko abL Tk
 rw[<-DY]at TC kU hN
 rw[<-JC]at Tk kU hN
 rw[<-kp,<-hu]at hN
 rw[<-hu]at kU
 have pD:s<64:=by omega
 have aa0:hi<0x10000000000000000:=by omega
 have ajV:mi<0x10000000000000000:=by omega
 have AA:u<y':=by omega
 obtain⟨Q1,t,Q0,z,g1,g2,g3,g4,g5,g6,g7,g8,g9,g10⟩:=aic zR jG hN AA Tz hq hr
 obtain⟨w1,w2⟩:=apn g2 g6 g9
 obtain⟨w3,w4⟩:=aqS Ko abL
 have w5:=aqt y'
 refine⟨ku pD,64-s,y',hi,mi,lo,u,y'/4294967296,y'%4294967296,lo/4294967296,lo%4294967296,Q1,t,Q0,z,z/2^s,Q1*4294967296,
  ⟨nQ hA (fun h=>by cases h) (fun _=>by rw[tF];exact cT pD (by decide)),Cw hA (ku pD) (by rw[<-jG];exact(aO Ko).symm),EL hA (s:=32) (by decide) rfl,YR hA (b:=4294967295) Ko (by decide) (Bf y' 32).symm,
   Cw hA (ku pD) (by rw[<-JC];exact(aO aa0).symm),Hb hA (a:=64) (eH (ku pD) (by decide)) ?_,EL hA (P7 64 s) DY,G0 hA aa0 ajV kU.symm,Cw hA (ku pD) kp,EL hA (s:=32) (by decide) rfl,YR hA (b:=4294967295) Tz (by decide) (Bf lo 32).symm,
   EL hA (ku pD) rfl,GR hA (b:=4294967296) w1,HP hA w2⟩,
  w5,Ko,w3,w4,ax _ (by decide),UJ Tz,ax _ (by decide),AA,by rw[w5];exact g1,g2,g3,g4,by rw[w5];exact g5,g6,g7,g8,?_⟩
 ·clear hN kU jG JC DY kp hu g1 g2 g3 g4 g5 g6 g7 g8 g9 g10 w1 w2 w3 w4 w5 JZ J0 BU aa_ hq hr Tk AA TC zR aaI
  omega
 ·rw[<-g10,P5 _ zR]
end
theorem af0{P:Program}(hP:P=Tryz.prog)(x1 x0 y q r:Nat)(hy:y<0x10000000000000000)(dR:x1<y)(kY:x0<0x10000000000000000)(hq:q=(x1*0x10000000000000000+x0)/y)(hr:r=(x1*0x10000000000000000+x0)%y):
 ah P 208 [.int .u64 (.ofNat x1),.int .u64 (.ofNat x0),.int .u64 (.ofNat y)] [] 0 [] (fun v _ _=>v= .aR [.int .u64 (.ofNat q),.int .u64 (.ofNat r)]):=by
 refine aq hP Tryz.func208 (ak _ rfl) (aD rfl) ?_
 intro A g K hA hg hK
 obtain⟨bin,_,cmp,_,_,_,nn,nz⟩:=A
 have fy:0<y:=by omega
 have z1:cmp .eql (.ofNat y) 0=false:=(sJ hA y 0).trans (da (by omega))
 have z2:cmp .leq (.ofNat y) (.ofNat x1)=false:=(UF hA y x1).trans (da (by omega))
 have z3:cmp .eql (.ofNat x1) 0=decide (x1=0):=sJ hA x1 0
 have zn:∀x,x≠0->nz (.ofNat x)=true:=fun x h=>Ve hA (by intro e;exact h (LN e))
 have zs:∀x,nn (.ofNat x)=true:=fun x=>by
  have:nn=fun i=>decide (0<=i):=aK Ar.nn hA
  rw[this];exact eh (zi x)
 cbv
 rw[z1]
 cbv
 rw[z2]
 cbv
 rw[z3]
 by_cases h0:x1=0
 ·rw[eh h0]
  subst h0
  rw[fE,dB]at hq hr
  have e1:bin .quo .u64 (.ofNat x0) (.ofNat y)=Int.ofNat q:=ac' hA kY hq
  have e2:bin .rem .u64 (.ofNat x0) (.ofNat y)=Int.ofNat r:=(pJ hA x0 y).trans (by rw[hr])
  cbv
  refine cf hP hA hg fun mk _=> ?_
  cbv
  rw[zn y (by omega)]
  cbv
  rw[e1]
  rw[zn y (by omega)]
  cbv
  rw[e2]
  exact hK _ _ _ rfl
 ·rw[da h0]
  obtain⟨k,hk⟩:=ua y
  obtain⟨s,hs⟩:=aa (64-k)
  obtain⟨pD,s',y',hi,mi,lo,u,a,b,v1,v0,Q1,t,Q0,z,z',q',hw,abM,jG,ha,jc,hb,abE,GC,AA,sN,Sr,w_,et,mw,Dx,nD,ez,oV⟩:=aid hA hy dR kY hq hr hk hs
  obtain⟨m1,m2,m3,m4,m5,m6,m7,m8,m9,m10,m11,m12,m13,m14⟩:=hw
  dsimp only at m1 m2 m3 m4 m5 m6 m7 m8 m9 m10 m11 m12 m13 m14
  have Ei:u<0x10000000000000000:=by omega
  have T9:t<0x10000000000000000:=by omega
  have qZ:a≠0:=by omega
  have hua:u<a*4294967296+b:=by rw[abM];exact AA
  have BX:t<a*4294967296+b:=by rw[abM];exact w_
  obtain⟨N1,N2,N3,n1,n2,n3,n4⟩:=ado hA Sr jG w_ et
  obtain⟨N4,N5,N6,n5,n6,n7,n8⟩:=ado hA Dx jG nD ez
  dsimp only at n1 n2 n3 n4 n5 n6 n7 n8
  clear hq hr z1 z2 z3 et ez nD AA w_
  cbv
  refine fe rfl hg rfl rfl (Zl hP y k hy hk) ?_
  rintro _ _ _ rfl
  rw[<-hs]
  cbv
  rw[m1]
  rw[zs s]
  cbv
  rw[m2,m3,m4,zs s]
  cbv
  rw[m5,m6,zs s']
  cbv
  rw[m7,m8,zs s]
  cbv
  rw[m9,m10,m11,zn a qZ]
  cbv
  obtain⟨g0,oc⟩:=aa (u/a)
  obtain⟨r0,cC⟩:=aa (u%a)
  obtain⟨X,hX⟩:=aa (g0*a)
  obtain⟨e1,e2,e3⟩:=Pc hA Ei oc cC hX
  dsimp only at e1 e2 e3
  rw[e1,e2,e3]
  have hG:=M3 ha jc hb abE (u:=u) (v:=v1) hua
  rw[<-oc,<-cC,<-sN]at hG
  clear oc cC hX e1 e2 e3
  refine bH (Nat×Nat) (fun s=>qL a u Q1 s.1 s.2) (fun s=>s.1) (fun s=> [(15,.int .u64 (.ofNat s.1)),(16,.int .u64 (.ofNat s.2))]) [2,8,9,10,11,13,14] (fun _=> []) (g0,r0) hG ?_ ?_
  ·exact a_
  rintro⟨p,ρ⟩ hG
  have hG:qL a u Q1 p ρ:=hG
  obtain⟨Z,Y,Y',ka,p',hZ,wF,rJ,iJ,c1,vV,c3,c4,c5,vW,c6,c7,c8,pS,c2⟩:=M4 hA hG jc hb abE
  dsimp only at c1 vV c2 c3 c4 c5 vW c6 c7 c8 pS
  cbv
  by_cases h1:4294967296<=p
  ·rw[c1 h1]
   have hd:=Bt (b:=b) (v:=v1) (r:=ρ) sN ha Sr hG (Or.inl h1)
   have d1:=hd.1
   have d2:=hd.2.1
   have d3:=hd.2.2.1
   have d4:=hd.2.2.2
   clear hd
   rw[<-rJ]at d2
   cbv
   rw[c6 d1,c7]
   rw[<-iJ]at d2 d3 d4
   by_cases eE:4294967296<=ka
   ·rw[c8 eE]
    have jZ:p'=Q1:=Bs sN ha hb d2 d3 d4 eE
    cbv
    rw[jZ]
    clear jZ
    rw[n1,n2,n3,n4,zn a qZ]
    cbv
    obtain⟨g0,oc⟩:=aa (t/a)
    obtain⟨r0,cC⟩:=aa (t%a)
    obtain⟨X,hX⟩:=aa (g0*a)
    obtain⟨e1,e2,e3⟩:=Pc hA T9 oc cC hX
    dsimp only at e1 e2 e3
    rw[e1,e2,e3]
    have hG:=M3 ha jc hb GC (u:=t) (v:=v0) BX
    rw[<-oc,<-cC,<-mw]at hG
    clear oc cC hX e1 e2 e3
    refine bH (Nat×Nat) (fun s=>qL a t Q0 s.1 s.2) (fun s=>s.1) (fun s=> [(18,.int .u64 (.ofNat s.1)),(16,.int .u64 (.ofNat s.2))]) [2,8,9,10,14,15,17] (fun _=> []) (g0,r0) hG ?_ ?_
    ·exact a_
    rintro⟨p,ρ⟩ hG
    have hG:qL a t Q0 p ρ:=hG
    obtain⟨Z,Y,Y',ka,p',hZ,wF,rJ,iJ,c1,vV,c3,c4,c5,vW,c6,c7,c8,pS,c2⟩:=M4 hA hG jc hb GC
    dsimp only at c1 vV c2 c3 c4 c5 vW c6 c7 c8 pS
    cbv
    by_cases h1:4294967296<=p
    ·rw[c1 h1]
     have hd:=Bt (b:=b) (v:=v0) (r:=ρ) mw ha Dx hG (Or.inl h1)
     have d1:=hd.1
     have d2:=hd.2.1
     have d3:=hd.2.2.1
     have d4:=hd.2.2.2
     clear hd
     rw[<-rJ]at d2
     cbv
     rw[c6 d1,c7]
     rw[<-iJ]at d2 d3 d4
     by_cases eE:4294967296<=ka
     ·rw[c8 eE]
      have jZ:p'=Q0:=Bs mw ha hb d2 d3 d4 eE
      cbv
      rw[jZ]
      rw[m13,m14,n5,n6,n7,n8,zs s]
      cbv
      rw[m12,<-oV]
      exact hK _ _ _ rfl
     ·rw[pS eE]
      cbv
      refine⟨(p',ka),id,⟨d2,d3,Bg d4,sg eE⟩,(by show p'<p;rw[iJ];exact CT d1 (by decide)),?_⟩
      exact a_
    ·rw[vV h1]
     have c2:=c2 (sg h1)
     cbv
     rw[c2,c3,c4]
     by_cases h2:Y'<Z
     ·rw[c5 h2]
      rw[hZ,wF]at h2
      have hd:=Bt (b:=b) (v:=v0) (r:=ρ) mw ha Dx hG (Or.inr h2)
      have d1:=hd.1
      have d2:=hd.2.1
      have d3:=hd.2.2.1
      have d4:=hd.2.2.2
      clear hd
      rw[<-rJ]at d2
      cbv
      rw[c6 d1,c7]
      rw[<-iJ]at d2 d3 d4
      by_cases eE:4294967296<=ka
      ·rw[c8 eE]
       have jZ:p'=Q0:=Bs mw ha hb d2 d3 d4 eE
       cbv
       rw[jZ]
       rw[m13,m14,n5,n6,n7,n8,zs s]
       cbv
       rw[m12,<-oV]
       exact hK _ _ _ rfl
      ·rw[pS eE]
       cbv
       refine⟨(p',ka),id,⟨d2,d3,Bg d4,sg eE⟩,(by show p'<p;rw[iJ];exact CT d1 (by decide)),?_⟩
       exact a_
     ·rw[vW h2]
      rw[hZ,wF]at h2
      have jZ:p=Q0:=M1 mw ha hG (vk h2)
      cbv
      rw[jZ]
      rw[m13,m14,n5,n6,n7,n8,zs s]
      cbv
      rw[m12,<-oV]
      exact hK _ _ _ rfl
   ·rw[pS eE]
    cbv
    refine⟨(p',ka),id,⟨d2,d3,Bg d4,sg eE⟩,(by show p'<p;rw[iJ];exact CT d1 (by decide)),?_⟩
    exact a_
  ·rw[vV h1]
   have c2:=c2 (sg h1)
   cbv
   rw[c2,c3,c4]
   by_cases h2:Y'<Z
   ·rw[c5 h2]
    rw[hZ,wF]at h2
    have hd:=Bt (b:=b) (v:=v1) (r:=ρ) sN ha Sr hG (Or.inr h2)
    have d1:=hd.1
    have d2:=hd.2.1
    have d3:=hd.2.2.1
    have d4:=hd.2.2.2
    clear hd
    rw[<-rJ]at d2
    cbv
    rw[c6 d1,c7]
    rw[<-iJ]at d2 d3 d4
    by_cases eE:4294967296<=ka
    ·rw[c8 eE]
     have jZ:p'=Q1:=Bs sN ha hb d2 d3 d4 eE
     cbv
     rw[jZ]
     clear jZ
     rw[n1,n2,n3,n4,zn a qZ]
     cbv
     obtain⟨g0,oc⟩:=aa (t/a)
     obtain⟨r0,cC⟩:=aa (t%a)
     obtain⟨X,hX⟩:=aa (g0*a)
     obtain⟨e1,e2,e3⟩:=Pc hA T9 oc cC hX
     dsimp only at e1 e2 e3
     rw[e1,e2,e3]
     have hG:=M3 ha jc hb GC (u:=t) (v:=v0) BX
     rw[<-oc,<-cC,<-mw]at hG
     clear oc cC hX e1 e2 e3
     refine bH (Nat×Nat) (fun s=>qL a t Q0 s.1 s.2) (fun s=>s.1) (fun s=> [(18,.int .u64 (.ofNat s.1)),(16,.int .u64 (.ofNat s.2))]) [2,8,9,10,14,15,17] (fun _=> []) (g0,r0) hG ?_ ?_
     ·exact a_
     rintro⟨p,ρ⟩ hG
     have hG:qL a t Q0 p ρ:=hG
     obtain⟨Z,Y,Y',ka,p',hZ,wF,rJ,iJ,c1,vV,c3,c4,c5,vW,c6,c7,c8,pS,c2⟩:=M4 hA hG jc hb GC
     dsimp only at c1 vV c2 c3 c4 c5 vW c6 c7 c8 pS
     cbv
     by_cases h1:4294967296<=p
     ·rw[c1 h1]
      have hd:=Bt (b:=b) (v:=v0) (r:=ρ) mw ha Dx hG (Or.inl h1)
      have d1:=hd.1
      have d2:=hd.2.1
      have d3:=hd.2.2.1
      have d4:=hd.2.2.2
      clear hd
      rw[<-rJ]at d2
      cbv
      rw[c6 d1,c7]
      rw[<-iJ]at d2 d3 d4
      by_cases eE:4294967296<=ka
      ·rw[c8 eE]
       have jZ:p'=Q0:=Bs mw ha hb d2 d3 d4 eE
       cbv
       rw[jZ]
       rw[m13,m14,n5,n6,n7,n8,zs s]
       cbv
       rw[m12,<-oV]
       exact hK _ _ _ rfl
      ·rw[pS eE]
       cbv
       refine⟨(p',ka),id,⟨d2,d3,Bg d4,sg eE⟩,(by show p'<p;rw[iJ];exact CT d1 (by decide)),?_⟩
       exact a_
     ·rw[vV h1]
      have c2:=c2 (sg h1)
      cbv
      rw[c2,c3,c4]
      by_cases h2:Y'<Z
      ·rw[c5 h2]
       rw[hZ,wF]at h2
       have hd:=Bt (b:=b) (v:=v0) (r:=ρ) mw ha Dx hG (Or.inr h2)
       have d1:=hd.1
       have d2:=hd.2.1
       have d3:=hd.2.2.1
       have d4:=hd.2.2.2
       clear hd
       rw[<-rJ]at d2
       cbv
       rw[c6 d1,c7]
       rw[<-iJ]at d2 d3 d4
       by_cases eE:4294967296<=ka
       ·rw[c8 eE]
        have jZ:p'=Q0:=Bs mw ha hb d2 d3 d4 eE
        cbv
        rw[jZ]
        rw[m13,m14,n5,n6,n7,n8,zs s]
        cbv
        rw[m12,<-oV]
        exact hK _ _ _ rfl
       ·rw[pS eE]
        cbv
        refine⟨(p',ka),id,⟨d2,d3,Bg d4,sg eE⟩,(by show p'<p;rw[iJ];exact CT d1 (by decide)),?_⟩
        exact a_
      ·rw[vW h2]
       rw[hZ,wF]at h2
       have jZ:p=Q0:=M1 mw ha hG (vk h2)
       cbv
       rw[jZ]
       rw[m13,m14,n5,n6,n7,n8,zs s]
       cbv
       rw[m12,<-oV]
       exact hK _ _ _ rfl
    ·rw[pS eE]
     cbv
     refine⟨(p',ka),id,⟨d2,d3,Bg d4,sg eE⟩,(by show p'<p;rw[iJ];exact CT d1 (by decide)),?_⟩
     exact a_
   ·rw[vW h2]
    rw[hZ,wF]at h2
    have jZ:p=Q1:=M1 sN ha hG (vk h2)
    cbv
    rw[jZ]
    clear jZ
    rw[n1,n2,n3,n4,zn a qZ]
    cbv
    obtain⟨g0,oc⟩:=aa (t/a)
    obtain⟨r0,cC⟩:=aa (t%a)
    obtain⟨X,hX⟩:=aa (g0*a)
    obtain⟨e1,e2,e3⟩:=Pc hA T9 oc cC hX
    dsimp only at e1 e2 e3
    rw[e1,e2,e3]
    have hG:=M3 ha jc hb GC (u:=t) (v:=v0) BX
    rw[<-oc,<-cC,<-mw]at hG
    clear oc cC hX e1 e2 e3
    refine bH (Nat×Nat) (fun s=>qL a t Q0 s.1 s.2) (fun s=>s.1) (fun s=> [(18,.int .u64 (.ofNat s.1)),(16,.int .u64 (.ofNat s.2))]) [2,8,9,10,14,15,17] (fun _=> []) (g0,r0) hG ?_ ?_
    ·exact a_
    rintro⟨p,ρ⟩ hG
    have hG:qL a t Q0 p ρ:=hG
    obtain⟨Z,Y,Y',ka,p',hZ,wF,rJ,iJ,c1,vV,c3,c4,c5,vW,c6,c7,c8,pS,c2⟩:=M4 hA hG jc hb GC
    dsimp only at c1 vV c2 c3 c4 c5 vW c6 c7 c8 pS
    cbv
    by_cases h1:4294967296<=p
    ·rw[c1 h1]
     have hd:=Bt (b:=b) (v:=v0) (r:=ρ) mw ha Dx hG (Or.inl h1)
     have d1:=hd.1
     have d2:=hd.2.1
     have d3:=hd.2.2.1
     have d4:=hd.2.2.2
     clear hd
     rw[<-rJ]at d2
     cbv
     rw[c6 d1,c7]
     rw[<-iJ]at d2 d3 d4
     by_cases eE:4294967296<=ka
     ·rw[c8 eE]
      have jZ:p'=Q0:=Bs mw ha hb d2 d3 d4 eE
      cbv
      rw[jZ]
      rw[m13,m14,n5,n6,n7,n8,zs s]
      cbv
      rw[m12,<-oV]
      exact hK _ _ _ rfl
     ·rw[pS eE]
      cbv
      refine⟨(p',ka),id,⟨d2,d3,Bg d4,sg eE⟩,(by show p'<p;rw[iJ];exact CT d1 (by decide)),?_⟩
      exact a_
    ·rw[vV h1]
     have c2:=c2 (sg h1)
     cbv
     rw[c2,c3,c4]
     by_cases h2:Y'<Z
     ·rw[c5 h2]
      rw[hZ,wF]at h2
      have hd:=Bt (b:=b) (v:=v0) (r:=ρ) mw ha Dx hG (Or.inr h2)
      have d1:=hd.1
      have d2:=hd.2.1
      have d3:=hd.2.2.1
      have d4:=hd.2.2.2
      clear hd
      rw[<-rJ]at d2
      cbv
      rw[c6 d1,c7]
      rw[<-iJ]at d2 d3 d4
      by_cases eE:4294967296<=ka
      ·rw[c8 eE]
       have jZ:p'=Q0:=Bs mw ha hb d2 d3 d4 eE
       cbv
       rw[jZ]
       rw[m13,m14,n5,n6,n7,n8,zs s]
       cbv
       rw[m12,<-oV]
       exact hK _ _ _ rfl
      ·rw[pS eE]
       cbv
       refine⟨(p',ka),id,⟨d2,d3,Bg d4,sg eE⟩,(by show p'<p;rw[iJ];exact CT d1 (by decide)),?_⟩
       exact a_
     ·rw[vW h2]
      rw[hZ,wF]at h2
      have jZ:p=Q0:=M1 mw ha hG (vk h2)
      cbv
      rw[jZ]
      rw[m13,m14,n5,n6,n7,n8,zs s]
      cbv
      rw[m12,<-oV]
      exact hK _ _ _ rfl
def Vw(at_ n:Nat)(f:Nat->Nat):Nat:=V n (fun i=>f (at_+i))
theorem CU(at_ n:Nat)(f:Nat->Nat):Vw at_ (n+1) f=Vw at_ n f+f (at_+n)*0x10000000000000000^n:=rfl
theorem Mb{at_ n v:Nat}{f:Nat->Nat}:Vw at_ (n+1) (fun j=>if j=at_+n then v else f j)=Vw at_ n f+v*0x10000000000000000^n:=by
 rw[CU]
 simp only[aj]
 congr 1
 exact Dg.jP n fun i hi=>af (by omega)
theorem ae8{at_ n N:Nat}{f:Nat->Nat}(h:Wn N f)(hn:at_+n<=N):Vw at_ n f<0x10000000000000000^n:=eg fun j hj=>h (at_+j) (by omega)
section
variable {A:Ar}
theorem IB(hA:A=Ar.real)(K:IntKind){n:Nat}(f:Nat->Nat)(E:List SV){k:Nat}(h:k<n):A.get (aw K (fun j=>Int.ofNat (f j)) 0 n++E) k=some (.int K (Int.ofNat (f k))):=by
 rw[jU hA,se (by rw[tB];exact h),GL _ _ h,dB]
end
def jK(d:Nat->Nat)(n s:Nat):List SV:=aw .u64 (fun j=>Int.ofNat (d j)) 0 9++[.int .i64 (.ofNat n),.int .i64 (.ofNat s)]
theorem afQ{P:Program}(hP:P=Tryz.prog){t:TypeId}(d f:Nat->Nat)(n s at_:Nat)(hd:Wn 9 d)(hf:Wn 19 f)(hn:n<=9)(sS:at_+n<19):
 ah P 184 [.ptr 0 0,.slice 1 0 19 19,.int .i64 (.ofNat at_)] [⟨0,jK d n s,275⟩,⟨1,ws f 19,t⟩] 2 [1]
  (fun v L m=>∃q c,Wn 19 q/\c<=1/\(∀j,j<at_\/at_+n<j->q j=f j)/\Vw at_ (n+1) q+c*0x10000000000000000^(n+1)=Vw at_ (n+1) f+V n d/\v= .bool (decide (c=1))/\L=[⟨0,jK d n s,275⟩,⟨1,ws q 19,t⟩]/\m=2):=by
 refine aq hP Tryz.func184 (ak _ rfl) (aD rfl) ?_
 intro A g K hA hg hK
 obtain⟨bin,_,cmp,_,_,ix,_,_,_,_,_,_,_,_,_,off⟩:=A
 have yg:∀x y,x<y->cmp .lss (.ofNat x) (.ofNat y)=true:=fun x y h=>cZ hA h
 have iD:∀x y,¬x<y->cmp .lss (.ofNat x) (.ofNat y)=false:=fun x y h=>bM hA h
 have f2:∀i,i<9->ix (.ofNat i) 9=some i:=fun i h=>bB hA h
 have iq:∀i,i<19->ix (.ofNat i) 19=some i:=fun i h=>bB hA h
 have f3:∀i,off 0 i 1=i:=fun i=>(dh hA 0 i 1).trans (by omega)
 have f4:=fun(f:Nat->Nat) (E:List SV) (k:Nat) (h:k<9)=>IB hA .u64 (n:=9) f E h
 have pn:=fun(f:Nat->Nat) (k:Nat) (h:k<19)=>ei hA .u64 (n:=19) f h
 have f5:=fun(f g:Nat->Nat) (k v:Nat) (h:k<19) (e:g=fun j=>if j=k then v else f j)=>gX hA .u64 (n:=19) f g h e
 have f6:∀i,i<9->bin .add .i64 (.ofNat i) 1=Int.ofNat (i+1):=fun i h=>gP hA (by omega)
 have f8:∀x y,x+y<19->bin .add .i64 (.ofNat x) (.ofNat y)=Int.ofNat (x+y):=fun x y h=>e_ hA (by omega)
 simp only[aw,Nat.reduceAdd,du,cM]at f4 pn f5
 cbv
 refine bH (Nat×(Nat->Nat)×Nat) (fun s=>s.1<=n/\Wn 19 s.2.1/\s.2.2<=1/\(∀j,j<at_\/at_+s.1<=j->s.2.1 j=f j)/\Vw at_ s.1 s.2.1+s.2.2*0x10000000000000000^s.1=Vw at_ s.1 f+V s.1 d) (fun s=>n-s.1)
  (fun s=> [(13,.int .i64 (.ofNat s.1)),(7,.int .u64 (.ofNat s.2.2))]) [0,1,2,6,12] (fun s=> [(1,ws s.2.1 19)]) (0,f,0) ⟨bf _,hf,bf _,fun _ _=>rfl,rfl⟩ ?_ ?_
 ·exact a_
 rintro⟨i,q,c⟩ ⟨hi,hq,hc,iV,hv⟩
 have hi:i<=n:=hi
 have hq:Wn 19 q:=hq
 have hc:c<=1:=hc
 have iV:∀j,j<at_\/at_+i<=j->q j=f j:=iV
 have hv:Vw at_ i q+c*0x10000000000000000^i=Vw at_ i f+V i d:=hv
 cbv
 by_cases ab:i<n
 ·rw[yg i n ab]
  have i9:i<9:=by omega
  have e8:=f8 at_ i (by omega)
  obtain⟨k,hk⟩:=aa (at_+i)
  rw[<-hk]at e8
  have kZ:k<19:=by omega
  obtain⟨w,hw⟩:=aa ((q k+d i+c)%0x10000000000000000)
  obtain⟨c',iF⟩:=aa ((q k+d i+c)/0x10000000000000000)
  obtain⟨q',dt⟩:=aa (fun j=>if j=k then w else q j:Nat->Nat)
  have e4:=f4 d [.int .i64 (.ofNat n),.int .i64 (.ofNat s)] i i9
  cbv
  refine cf hP hA hg fun mk _=> ?_
  cbv
  rw[e8]
  cbv
  rw[iq k kZ]
  cbv
  rw[f3 k,pn q k kZ]
  cbv
  rw[f2 i i9]
  cbv
  rw[f3 i,e4]
  cbv
  refine eV (zM rfl hg rfl rfl (u9 hP (q k) (d i) c w c' hc hw iF)) ?_
  cbv
  rw[iq k kZ]
  cbv
  rw[f3 k,f5 q q' k w kZ dt]
  cbv
  rw[f6 i i9]
  refine⟨(i+1,q',c'),id,⟨ab,?_,?_,?_,?_⟩,(by show n-(i+1)<n-i;omega),?_⟩
  ·intro j hj
   show q' j<_
   rw[dt]
   by_cases eM:j=k
   ·simp only[eM,aj];rw[hw];exact ax _ (by decide)
   ·simp only[af eM];exact hq j hj
  ·have h1:=hq k kZ
   have h2:=hd i i9
   show c'<=1
   rw[iF];omega
  ·intro j hj
   have hj:j<at_\/at_+(i+1)<=j:=hj
   show q' j=f j
   rw[dt]
   simp only[af (show j≠k by omega)]
   exact iV j (by omega)
  ·show Vw at_ (i+1) q'+c'*0x10000000000000000^(i+1)=Vw at_ (i+1) f+V (i+1) d
   rw[dt,hk,Mb,CU at_ i f,iX d]
   have h1:q k=f k:=iV k (by omega)
   rw[hk]at h1
   rw[hk,h1]at hw iF
   exact Qh hv hw iF (br ..)
  ·exact a_
 ·rw[iD i n ab]
  obtain rfl:i=n:=by omega
  have e8:=f8 at_ i (by omega)
  obtain⟨k,hk⟩:=aa (at_+i)
  rw[<-hk]at e8
  have kZ:k<19:=by omega
  obtain⟨w,hw⟩:=aa ((q k+0+c)%0x10000000000000000)
  obtain⟨c',iF⟩:=aa ((q k+0+c)/0x10000000000000000)
  obtain⟨q',dt⟩:=aa (fun j=>if j=k then w else q j:Nat->Nat)
  obtain⟨o,ho⟩:=aa (decide (c'=1))
  have e9:cmp .eql (.ofNat c') 1=o:=(sJ hA c' 1).trans ho.symm
  cbv
  refine cf hP hA hg fun mk _=> ?_
  cbv
  rw[e8]
  cbv
  rw[iq k kZ]
  cbv
  rw[f3 k,pn q k kZ]
  cbv
  refine eV (zM rfl hg rfl rfl (u9 hP (q k) 0 c w c' hc hw iF)) ?_
  cbv
  rw[iq k kZ]
  cbv
  rw[f3 k,f5 q q' k w kZ dt]
  cbv
  rw[e9]
  refine hK _ _ _ ⟨q',c',?_,?_,?_,?_,by rw[ho];rfl,rfl,rfl⟩
  ·intro j hj
   rw[dt]
   by_cases eM:j=k
   ·simp only[eM,aj];rw[hw];exact ax _ (by decide)
   ·simp only[af eM];exact hq j hj
  ·have h1:=hq k kZ
   rw[iF];omega
  ·intro j hj
   rw[dt]
   simp only[af (show j≠k by omega)]
   exact iV j (by omega)
  ·rw[dt,hk,Mb,CU at_ i f]
   have h1:q k=f k:=iV k (by omega)
   rw[hk]at h1
   rw[hk,h1]at hw iF
   have h2:=Qh hv hw iF (br ..)
   rw[fE,gY]at h2
   rw[h2]
theorem aqM{x y c h l l1 c1:Nat}(hx:x<0x10000000000000000)(hy:y<0x10000000000000000)(hc:c<0x10000000000000000)(hh:h=x*y/0x10000000000000000)(hl:l=x*y%0x10000000000000000)
 (cQ:l1=(l+c+0)%0x10000000000000000) (eA:c1=(l+c+0)/0x10000000000000000):
 x*y+c=l1+(h+c1)*0x10000000000000000/\h+c1<0x10000000000000000/\l1<0x10000000000000000:=by
 have h1:x*y<=0xffffffffffffffff*0xffffffffffffffff:=mV (by omega) (by omega)
 generalize x*y=p at *
 omega
theorem aea{w x y c s:Nat}(hx:x<0x10000000000000000)(hy:y<0x10000000000000000)(hc:c<=1)(hw:w=(x+0x10000000000000000-y-c)%0x10000000000000000)(hs:s=if x<y+c then 1 else 0):w+y+c=x+s*0x10000000000000000/\s<=1/\w<0x10000000000000000:=by
 subst hs
 split<;>omega
theorem aqL{Vq Vf D qq b c P w l fi di b' c':Nat}(hv:Vq+qq*D=Vf+(b+c)*P)(e1:qq*di+c=l+c'*0x10000000000000000)(e2:w+l+b=fi+b'*0x10000000000000000):Vq+w*P+qq*(D+di*P)=(Vf+fi*P)+(b'+c')*(P*0x10000000000000000):=by
 have h1:Vq+w*P+qq*(D+di*P)=(Vq+qq*D)+(w+qq*di)*P:=by grind
 have h2:(Vf+fi*P)+(b'+c')*(P*0x10000000000000000)=Vf+(fi+b'*0x10000000000000000+c'*0x10000000000000000)*P:=by grind
 rw[h1,h2,hv,<-e2]
 have h3:(w+l+b+c'*0x10000000000000000)*P=(w+b+(l+c'*0x10000000000000000))*P:=by congr 1;omega
 rw[h3,<-e1]
 grind
theorem aqJ{Vq Vf X b c P w fi b':Nat}(hv:Vq+X=Vf+(b+c)*P)(e2:w+c+b=fi+b'*0x10000000000000000):Vq+w*P+X=(Vf+fi*P)+b'*(P*0x10000000000000000):=by
 have h1:Vq+w*P+X=(Vq+X)+w*P:=by omega
 have h2:(Vf+fi*P)+b'*(P*0x10000000000000000)=Vf+(fi+b'*0x10000000000000000)*P:=by grind
 rw[h1,h2,hv,<-e2]
 grind
theorem ag4{P:Program}(hP:P=Tryz.prog){t:TypeId}(d f:Nat->Nat)(n s at_ x:Nat)(hd:Wn 9 d)(hf:Wn 19 f)(hn:n<=9)(sS:at_+n<19)(hx:x<0x10000000000000000):
 ah P 183 [.ptr 0 0,.slice 1 0 19 19,.int .i64 (.ofNat at_),.int .u64 (.ofNat x)] [⟨0,jK d n s,275⟩,⟨1,ws f 19,t⟩] 2 [1]
  (fun v L m=>∃q c,Wn 19 q/\c<=1/\(∀j,j<at_\/at_+n<j->q j=f j)/\Vw at_ (n+1) q+x*V n d=Vw at_ (n+1) f+c*0x10000000000000000^(n+1)/\v= .bool (decide (c=1))/\L=[⟨0,jK d n s,275⟩,⟨1,ws q 19,t⟩]/\m=2):=by
 refine aq hP Tryz.func183 (ak _ rfl) (aD rfl) ?_
 intro A g K hA hg hK
 obtain⟨bin,_,cmp,_,_,ix,_,_,_,_,_,_,_,_,_,off⟩:=A
 have yg:∀x y,x<y->cmp .lss (.ofNat x) (.ofNat y)=true:=fun x y h=>cZ hA h
 have iD:∀x y,¬x<y->cmp .lss (.ofNat x) (.ofNat y)=false:=fun x y h=>bM hA h
 have f2:∀i,i<9->ix (.ofNat i) 9=some i:=fun i h=>bB hA h
 have iq:∀i,i<19->ix (.ofNat i) 19=some i:=fun i h=>bB hA h
 have f3:∀i,off 0 i 1=i:=fun i=>(dh hA 0 i 1).trans (by omega)
 have f4:=fun(f:Nat->Nat) (E:List SV) (k:Nat) (h:k<9)=>IB hA .u64 (n:=9) f E h
 have pn:=fun(f:Nat->Nat) (k:Nat) (h:k<19)=>ei hA .u64 (n:=19) f h
 have f5:=fun(f g:Nat->Nat) (k v:Nat) (h:k<19) (e:g=fun j=>if j=k then v else f j)=>gX hA .u64 (n:=19) f g h e
 have f6:∀i,i<9->bin .add .i64 (.ofNat i) 1=Int.ofNat (i+1):=fun i h=>gP hA (by omega)
 have f7:∀x y,x+y<0x10000000000000000->bin .add .u64 (.ofNat x) (.ofNat y)=Int.ofNat (x+y):=fun x y h=>CV hA h
 have f8:∀x y,x+y<19->bin .add .i64 (.ofNat x) (.ofNat y)=Int.ofNat (x+y):=fun x y h=>e_ hA (by omega)
 simp only[aw,Nat.reduceAdd,du,cM]at f4 pn f5
 cbv
 refine bH (Nat×(Nat->Nat)×Nat×Nat) (fun s=>s.1<=n/\Wn 19 s.2.1/\s.2.2.1<=1/\s.2.2.2<0x10000000000000000/\(∀j,j<at_\/at_+s.1<=j->s.2.1 j=f j)/\Vw at_ s.1 s.2.1+x*V s.1 d=Vw at_ s.1 f+(s.2.2.1+s.2.2.2)*0x10000000000000000^s.1) (fun s=>n-s.1)
  (fun s=> [(19,.int .i64 (.ofNat s.1)),(9,.int .u64 (.ofNat s.2.2.1)),(10,.int .u64 (.ofNat s.2.2.2))]) [0,1,2,3,8,18] (fun s=> [(1,ws s.2.1 19)]) (0,f,0,0) ⟨bf _,hf,bf _,by show 0<_;decide,fun _ _=>rfl,?_⟩ ?_ ?_
 ·show Vw at_ 0 f+x*V 0 d=Vw at_ 0 f+(0+0)*_
  rw[show V 0 d=0 from rfl];simp
 ·exact a_
 rintro⟨i,q,b,c⟩ ⟨hi,hq,hb,hc,iV,hv⟩
 have hi:i<=n:=hi
 have hq:Wn 19 q:=hq
 have hb:b<=1:=hb
 have hc:c<0x10000000000000000:=hc
 have iV:∀j,j<at_\/at_+i<=j->q j=f j:=iV
 have hv:Vw at_ i q+x*V i d=Vw at_ i f+(b+c)*0x10000000000000000^i:=hv
 cbv
 by_cases ab:i<n
 ·rw[yg i n ab]
  have i9:i<9:=by omega
  have e8:=f8 at_ i (by omega)
  obtain⟨k,hk⟩:=aa (at_+i)
  rw[<-hk]at e8
  have kZ:k<19:=by omega
  obtain⟨h,hh⟩:=aa (x*d i/0x10000000000000000)
  obtain⟨l,hl⟩:=aa (x*d i%0x10000000000000000)
  obtain⟨l1,cQ⟩:=aa ((l+c+0)%0x10000000000000000)
  obtain⟨c1,eA⟩:=aa ((l+c+0)/0x10000000000000000)
  obtain⟨w1,w2,w3⟩:=aqM hx (hd i i9) hc hh hl cQ eA
  have e7:=f7 h c1 w2
  obtain⟨cc,oa⟩:=aa (h+c1)
  rw[<-oa]at e7 w1 w2
  obtain⟨w,hw⟩:=aa ((q k+0x10000000000000000-l1-b)%0x10000000000000000)
  obtain⟨b',h_⟩:=aa (if q k<l1+b then 1 else 0)
  obtain⟨u1,u2,u3⟩:=aea (hq k kZ) w3 hb hw h_
  obtain⟨q',dt⟩:=aa (fun j=>if j=k then w else q j:Nat->Nat)
  have e4:=f4 d [.int .i64 (.ofNat n),.int .i64 (.ofNat s)] i i9
  cbv
  rw[f2 i i9]
  cbv
  rw[f3 i,e4]
  cbv
  refine fe rfl hg rfl rfl (Ic hP x (d i) h l hx (hd i i9) hh hl) ?_
  rintro _ _ _ rfl
  cbv
  refine G' rfl hg rfl rfl (u9 hP l c 0 l1 c1 (by decide) cQ eA) ?_
  cbv
  rw[e7,e8]
  rw[iq k kZ]
  cbv
  rw[f3 k,pn q k kZ]
  cbv
  refine G' rfl hg rfl rfl (XS hP (q k) l1 b w b' hb hw h_) ?_
  cbv
  rw[iq k kZ]
  cbv
  rw[f3 k,f5 q q' k w kZ dt]
  cbv
  rw[f6 i i9]
  refine⟨(i+1,q',b',cc),id,⟨ab,?_,u2,w2,?_,?_⟩,(by show n-(i+1)<n-i;omega),?_⟩
  ·intro j hj
   show q' j<_
   rw[dt]
   by_cases eM:j=k
   ·simp only[eM,aj];exact u3
   ·simp only[af eM];exact hq j hj
  ·intro j hj
   have hj:j<at_\/at_+(i+1)<=j:=hj
   show q' j=f j
   rw[dt]
   simp only[af (show j≠k by omega)]
   exact iV j (by omega)
  ·show Vw at_ (i+1) q'+x*V (i+1) d=Vw at_ (i+1) f+(b'+cc)*0x10000000000000000^(i+1)
   rw[dt,hk,Mb,CU at_ i f,iX d]
   have h1:q k=f k:=iV k (by omega)
   rw[h1,hk]at u1
   exact aqL hv w1 u1
  ·exact a_
 ·rw[iD i n ab]
  obtain rfl:i=n:=by omega
  have e8:=f8 at_ i (by omega)
  obtain⟨k,hk⟩:=aa (at_+i)
  rw[<-hk]at e8
  have kZ:k<19:=by omega
  obtain⟨w,hw⟩:=aa ((q k+0x10000000000000000-c-b)%0x10000000000000000)
  obtain⟨b',h_⟩:=aa (if q k<c+b then 1 else 0)
  obtain⟨u1,u2,u3⟩:=aea (hq k kZ) hc hb hw h_
  obtain⟨q',dt⟩:=aa (fun j=>if j=k then w else q j:Nat->Nat)
  obtain⟨o,ho⟩:=aa (decide (b'=1))
  have e9:cmp .eql (.ofNat b') 1=o:=(sJ hA b' 1).trans ho.symm
  cbv
  refine cf hP hA hg fun mk _=> ?_
  cbv
  rw[e8]
  cbv
  rw[iq k kZ]
  cbv
  rw[f3 k,pn q k kZ]
  cbv
  refine eV (zM rfl hg rfl rfl (XS hP (q k) c b w b' hb hw h_)) ?_
  cbv
  rw[iq k kZ]
  cbv
  rw[f3 k,f5 q q' k w kZ dt]
  cbv
  rw[e9]
  refine hK _ _ _ ⟨q',b',?_,u2,?_,?_,by rw[ho];rfl,rfl,rfl⟩
  ·intro j hj
   rw[dt]
   by_cases eM:j=k
   ·simp only[eM,aj];exact u3
   ·simp only[af eM];exact hq j hj
  ·intro j hj
   rw[dt]
   simp only[af (show j≠k by omega)]
   exact iV j (by omega)
  ·rw[dt,hk,Mb,CU at_ i f]
   have h1:q k=f k:=iV k (by omega)
   rw[h1,hk]at u1
   exact aqJ hv u1
theorem aiQ{d f:Nat->Nat}{at_ m Q:Nat}(hf:Wn 19 f)(sS:at_+(m+1)<19)(hQ:Q*V (m+1) d<=Vw at_ (m+2) f):Q*d m<=f (at_+(m+1))*0x10000000000000000+f (at_+m):=
 Dg.aaF (d:=d) (u:=fun i=>f (at_+i)) (by decide) (fun i hi=>hf _ (by omega)) hQ
theorem aiS{d f:Nat->Nat}{at_ p Q:Nat}(hf:Wn 19 f)(sS:at_+(p+2)<19)(hQ:Q*V (p+2) d<=Vw at_ (p+3) f):Q*(d (p+1)*0x10000000000000000+d p)<=(f (at_+(p+2))*0x10000000000000000+f (at_+(p+1)))*0x10000000000000000+f (at_+p):=
 Dg.aaG (d:=d) (u:=fun i=>f (at_+i)) (by decide) (fun i hi=>hf _ (by omega)) hQ
theorem aiR{t d2 h l u2 q r Q:Nat}(e:q*t+r=h*0x10000000000000000+l)(hQ:Q*(t*0x10000000000000000+d2)<=(h*0x10000000000000000+l)*0x10000000000000000+u2)(U9:r*0x10000000000000000+u2<q*d2)(hle:Q<=q):0<q/\Q<=q-1/\(q-1)*t+(r+t)=h*0x10000000000000000+l:=by
 have h0:0<q:=by
  rcases Nat.eq_zero_or_pos q with h|h
  ·subst h;rw[fE]at U9;omega
  ·exact h
 refine⟨h0,Dg.aaH e hQ U9 hle,?_⟩
 obtain⟨p,rfl⟩:∃p,q=p+1:=⟨q-1,by omega⟩
 rw[cw,fN]at e
 rw[oC]
 omega
theorem aoM{x y a b r u:Nat}(ha:a=x*y/0x10000000000000000)(hb:b=x*y%0x10000000000000000)(hu:u<0x10000000000000000):((a<r\/a=r/\b<=u)->x*y<=r*0x10000000000000000+u)/\(¬ (a<r\/a=r/\b<=u)->r*0x10000000000000000+u<x*y):=by
 generalize x*y=z at *
 constructor<;>intro h<;>omega
theorem af7{P:Program}(hP:P=Tryz.prog){t:TypeId}(d f:Nat->Nat)(m s at_ Q:Nat)(hd:Wn 9 d)(hf:Wn 19 f)(hn:m<9)(sS:at_+(m+1)<19)(Oc:0<d m)(hQ:Q*V (m+1) d<=Vw at_ (m+2) f)(z7:Q<0x10000000000000000):
 ah P 182 [.ptr 0 0,.slice 1 0 19 19,.int .i64 (.ofNat at_)] [⟨0,jK d (m+1) s,275⟩,⟨1,ws f 19,t⟩] 2 []
  (fun v _ _=>∃q,Q<=q/\q<0x10000000000000000/\v= .int .u64 (.ofNat q)):=by
 obtain⟨n,iy⟩:=aa (m+1)
 rw[<-iy]
 refine aq hP Tryz.func182 (ak _ rfl) (aD rfl) ?_
 intro A g K hA hg hK
 obtain⟨bin,_,cmp,_,_,ix,_,_,_,_,_,_,_,_,_,off,_,_,sub⟩:=A
 have f2:∀i,i<9->ix (.ofNat i) 9=some i:=fun i h=>bB hA h
 have iq:∀i,i<19->ix (.ofNat i) 19=some i:=fun i h=>bB hA h
 have f3:∀i,off 0 i 1=i:=fun i=>(dh hA 0 i 1).trans (by omega)
 have f4:=fun(f:Nat->Nat) (E:List SV) (k:Nat) (h:k<9)=>IB hA .u64 (n:=9) f E h
 have pn:=fun(f:Nat->Nat) (k:Nat) (h:k<19)=>ei hA .u64 (n:=19) f h
 simp only[aw,Nat.reduceAdd,du,cM]at f4 pn
 have e4:=f4 d [.int .i64 (.ofNat n),.int .i64 (.ofNat s)] m hn
 have g1:bin .sub .i64 (.ofNat n) 1=Int.ofNat m:=(er hA (a:=n) (b:=1) (by omega) (by omega)).trans (by rw[iy];simp)
 obtain⟨k0,fB⟩:=aa (at_+(m+1))
 obtain⟨k1,dM⟩:=aa (at_+m)
 have g2:bin .add .i64 (.ofNat at_) (.ofNat n)=Int.ofNat k0:=(e_ hA (by omega)).trans (by rw[fB,iy])
 have g3:bin .sub .i64 (.ofNat k0) 1=Int.ofNat k1:=(er hA (a:=k0) (b:=1) (by omega) (by omega)).trans (aK Int.ofNat (by omega))
 have hh:=hf k0 (by omega)
 have hl:=hf k1 (by omega)
 have ht:=hd m hn
 have sN:=aiQ hf sS hQ
 rw[<-fB,<-dM]at sN
 cbv
 refine cf hP hA hg fun mk _=> ?_
 cbv
 rw[g1]
 cbv
 rw[f2 m hn]
 cbv
 rw[f3 m,e4]
 cbv
 refine cf hP hA hg fun mk _=> ?_
 cbv
 rw[g2]
 cbv
 rw[iq k0 (by omega)]
 cbv
 rw[f3 k0,pn f k0 (by omega)]
 cbv
 rw[g2,g3]
 cbv
 rw[iq k1 (by omega)]
 cbv
 rw[f3 k1,pn f k1 (by omega)]
 cbv
 by_cases ju:d m<=f k0
 ·rw[show cmp .geq (.ofNat (f k0)) (.ofNat (d m))=true from kC hA ju]
  cbv
  exact hK _ _ _ ⟨0xffffffffffffffff,by omega,by decide,rfl⟩
 ·rw[show cmp .geq (.ofNat (f k0)) (.ofNat (d m))=false from qW hA ju]
  obtain⟨q0,mE⟩:=aa ((f k0*0x10000000000000000+f k1)/d m)
  obtain⟨r0,cC⟩:=aa ((f k0*0x10000000000000000+f k1)%d m)
  have TI:q0<0x10000000000000000:=by
   rw[mE,qN Oc]
   have h1:=xS 0x10000000000000000 (show f k0+1<=d m by omega)
   rw[lL,fh]at h1
   omega
  have abl:r0<0x10000000000000000:=cT (cC▸ax _ Oc) ht
  have I1:Q<=q0:=by rw[mE,Fj Oc];exact sN
  have e0:q0*d m+r0=f k0*0x10000000000000000+f k1:=by rw[mE,cC,bJ];exact gN _ _
  cbv
  refine fe rfl hg rfl rfl (af0 hP (f k0) (f k1) (d m) q0 r0 ht (by omega) hl mE cC) ?_
  rintro _ _ _ rfl
  cbv
  clear mE cC
  by_cases h1:n=1
  ·rw[show cmp .eql (.ofNat n) 1=true from iP hA (b:=1) h1]
   cbv
   exact hK _ _ _ ⟨q0,I1,TI,rfl⟩
  ·rw[show cmp .eql (.ofNat n) 1=false from ja hA (b:=1) h1]
   obtain⟨p,rfl⟩:∃p,m=p+1:=⟨m-1,by omega⟩
   have TH:p<9:=by omega
   have g4:bin .sub .i64 (.ofNat n) 2=Int.ofNat p:=(er hA (a:=n) (b:=2) (by omega) (by omega)).trans (aK Int.ofNat (by omega))
   obtain⟨k2,fq⟩:=aa (at_+p)
   have g5:bin .sub .i64 (.ofNat k0) 2=Int.ofNat k2:=(er hA (a:=k0) (b:=2) (by omega) (by omega)).trans (aK Int.ofNat (by omega))
   have e5:=f4 d [.int .i64 (.ofNat n),.int .i64 (.ofNat s)] p TH
   have Dy:=aiS hf (by omega) hQ
   rw[<-fq,show at_+(p+2)=k0 by omega,<-dM]at Dy
   have qp:=hf k2 (by omega)
   generalize arH:d (p+1)=top at Oc e0 Dy ht ju⊢
   cbv
   refine bH (Nat×Nat) (fun s=>Q<=s.1/\s.1<0x10000000000000000/\s.2<0x10000000000000000/\s.1*top+s.2=f k0*0x10000000000000000+f k1) (fun s=>s.1) (fun s=> [(10,.int .u64 (.ofNat s.1)),(11,.int .u64 (.ofNat s.2))]) [0,1,2,6,7] (fun _=> []) (q0,r0) ⟨I1,TI,abl,e0⟩ ?_ ?_
   ·exact a_
   rintro⟨q,r⟩ hs
   have jg:Q<=q:=hs.1
   have gk:q<0x10000000000000000:=hs.2.1
   have uG:r<0x10000000000000000:=hs.2.2.1
   have N8:q*top+r=f k0*0x10000000000000000+f k1:=hs.2.2.2
   clear hs I1 TI abl e0
   obtain⟨a,ha⟩:=aa (q*d p/0x10000000000000000)
   obtain⟨b,hb⟩:=aa (q*d p%0x10000000000000000)
   obtain⟨c1,c2⟩:=aoM (r:=r) ha hb qp
   cbv
   refine cf hP hA hg fun mk _=> ?_
   cbv
   rw[g4]
   cbv
   rw[f2 p TH]
   cbv
   rw[f3 p,e5]
   cbv
   refine eV (Dl rfl hg rfl rfl (Ic hP q (d p) a b gk (hd p TH) ha hb) (fun _ _ _ h=>h) ⟨trivial,trivial,trivial⟩) ?_
   cbv
   by_cases sQ:a<r\/a=r/\b<=f k2
   ·have fin:K (.int .u64 (.ofNat q)) [⟨0,jK d n s,275⟩,⟨1,ws f 19,t⟩] 2:=hK _ _ _ ⟨q,jg,gk,rfl⟩
    rcases sQ with h2|⟨h2,h3⟩
    ·rw[show cmp .lss (.ofNat a) (.ofNat r)=true from cZ hA h2]
     cbv
     exact fin
    ·rw[show cmp .lss (.ofNat a) (.ofNat r)=false from bM hA (by omega)]
     cbv
     rw[show cmp .eql (.ofNat a) (.ofNat r)=true from iP hA h2]
     cbv
     rw[g2,g5]
     rw[iq k2 (by omega)]
     cbv
     rw[f3 k2,pn f k2 (by omega)]
     cbv
     rw[show cmp .leq (.ofNat b) (.ofNat (f k2))=true from abY hA h3]
     cbv
     exact fin
   ·obtain⟨z1,z2,z3⟩:=aiR N8 Dy (c2 sQ) jg
    obtain⟨q',dt⟩:=aa (q-1)
    rw[<-dt]at z2 z3
    have y1:bin .sub .u64 (.ofNat q) 1=Int.ofNat q':=Hb hA (b:=1) (by decide) (by omega)
    obtain⟨s1,ake⟩:=aa ((r+top)%0x10000000000000000)
    have y2:bin .add .u64 (.ofNat r) (.ofNat top)=Int.ofNat s1:=HP hA ake
    have tail:∀ (X:Prop),(s1<r->X)->(¬s1<r->s1=r+top->X)->X:=fun X h1 h2=>by
     by_cases h3:s1<r
     ·exact h1 h3
     ·exact h2 h3 (by omega)
    have go:cmp .lss (.ofNat a) (.ofNat r)=false:=bM hA (fun h=>sQ (Or.inl h))
    rw[go]
    cbv
    by_cases SS:a=r
    ·rw[show cmp .eql (.ofNat a) (.ofNat r)=true from iP hA SS]
     cbv
     rw[g2,g5]
     rw[iq k2 (by omega)]
     cbv
     rw[f3 k2,pn f k2 (by omega)]
     cbv
     rw[show cmp .leq (.ofNat b) (.ofNat (f k2))=false from abX hA (fun h=>sQ (Or.inr ⟨SS,h⟩))]
     cbv
     rw[y1,y2]
     refine tail _ (fun h3=> ?_) (fun h3 h4=> ?_)
     ·rw[show cmp .lss (.ofNat s1) (.ofNat r)=true from cZ hA h3]
      cbv
      exact hK _ _ _ ⟨q',z2,by omega,rfl⟩
     ·rw[show cmp .lss (.ofNat s1) (.ofNat r)=false from bM hA h3]
      cbv
      refine⟨(q',s1),id,⟨z2,by show q'<_;omega,by show s1<_;omega,by show q'*top+s1=_;rw[h4];exact z3⟩,(by show q'<q;omega),?_⟩
      exact a_
    ·rw[show cmp .eql (.ofNat a) (.ofNat r)=false from ja hA SS]
     cbv
     rw[y1,y2]
     refine tail _ (fun h3=> ?_) (fun h3 h4=> ?_)
     ·rw[show cmp .lss (.ofNat s1) (.ofNat r)=true from cZ hA h3]
      cbv
      exact hK _ _ _ ⟨q',z2,by omega,rfl⟩
     ·rw[show cmp .lss (.ofNat s1) (.ofNat r)=false from bM hA h3]
      cbv
      refine⟨(q',s1),id,⟨z2,by show q'<_;omega,by show s1<_;omega,by show q'*top+s1=_;rw[h4];exact z3⟩,(by show q'<q;omega),?_⟩
      exact a_
end Go.Proofs.YtfocopihipejfaaGreat
