/-
  This text proves what these texts prove: SA, Nb, Nc, Nd. Conditions: those of each theorem.
-/
import Derived.Shelf.Small.Bits
import Derived.Shelf.Strconv.Itoa0
import Derived.Shelf.Bits.Mul64
import Derived.Shelf.Strings.Repeat
import Derived.Lib.ItoaNum
import Derived.Test.YtdhmihfefgcbeaaGreatProg
import Derived.Test.YtdhmihfefgcbeaaGreatY08
import Derived.Test.YtdhmihfefgcbeaaGreatY07
set_option maxHeartbeats 8000000
set_option linter.all false
namespace Go.Proofs
open Go.Shelf
def Tryz.lays134_ren:Go.Shelf.Ren:=⟨fun|134=>142|129=>89|n=>n,fun|53=>22|3=>3|4=>4|46=>52|5=>5|9=>9|n=>n,fun|n=>n⟩
theorem Tryz.lays134:Go.Proofs.Lays.n134 Tryz.prog Tryz.lays134_ren:= {
 mixed:=by kernel_rfl
 f129:=Tryz.func89.trans (congrArg some (by kernel_rfl))
 f134:=Tryz.func142.trans (congrArg some (by kernel_rfl))
 t3:=Tryz.underlying3
 a3:=Tryz.isAgg3
 z3:=Tryz.sizeOf3
 v3:=Tryz.zeroValue3
 t4:=Tryz.underlying4
 a4:=Tryz.isAgg4
 z4:=Tryz.sizeOf4
 v4:=Tryz.zeroValue4
 t5:=Tryz.underlying5
 a5:=Tryz.isAgg5
 z5:=Tryz.sizeOf5
 v5:=Tryz.zeroValue5
 t9:=Tryz.underlying9
 a9:=Tryz.isAgg9
 z9:=Tryz.sizeOf9
 v9:=Tryz.zeroValue9
 t46:=Tryz.underlying52
 a46:=Tryz.isAgg52
 z46:=Tryz.sizeOf52
 v46:=Tryz.zeroValue52
 t53:=Tryz.underlying22
 a53:=Tryz.isAgg22
 z53:=Tryz.sizeOf22
 v53:=Tryz.zeroValue22}
theorem Tryz.bits_LeadingZeros64(x:Int)(w:World)(h0:0<=x)(h1:x<=0xffffffffffffffff):
 Calls Tryz.prog 142 #[.int .u64 x] w fun e w'=>e= .returned (.int .i64 (64-(Lib.bitLen x.toNat:Int)))/\w'=w:=Any.bits_LeadingZeros64 Tryz.lays134 x w h0 h1
def Tryz.lays129_ren:Go.Shelf.Ren:=⟨fun|129=>89|n=>n,fun|53=>22|3=>3|4=>4|46=>52|5=>5|9=>9|n=>n,fun|n=>n⟩
theorem Tryz.lays129:Go.Proofs.Lays.n129 Tryz.prog Tryz.lays129_ren:= {
 mixed:=by kernel_rfl
 f129:=Tryz.func89.trans (congrArg some (by kernel_rfl))
 t3:=Tryz.underlying3
 a3:=Tryz.isAgg3
 z3:=Tryz.sizeOf3
 v3:=Tryz.zeroValue3
 t4:=Tryz.underlying4
 a4:=Tryz.isAgg4
 z4:=Tryz.sizeOf4
 v4:=Tryz.zeroValue4
 t5:=Tryz.underlying5
 a5:=Tryz.isAgg5
 z5:=Tryz.sizeOf5
 v5:=Tryz.zeroValue5
 t9:=Tryz.underlying9
 a9:=Tryz.isAgg9
 z9:=Tryz.sizeOf9
 v9:=Tryz.zeroValue9
 t46:=Tryz.underlying52
 a46:=Tryz.isAgg52
 z46:=Tryz.sizeOf52
 v46:=Tryz.zeroValue52
 t53:=Tryz.underlying22
 a53:=Tryz.isAgg22
 z53:=Tryz.sizeOf22
 v53:=Tryz.zeroValue22}
theorem Tryz.bits_Len64(x:Int)(w:World)(h0:0<=x)(h1:x<=0xffffffffffffffff):
 Calls Tryz.prog 89 #[.int .u64 x] w fun e w'=>e= .returned (.int .i64 (Lib.bitLen x.toNat))/\w'=w:=Any.bits_Len64 Tryz.lays129 x w h0 h1
def Tryz.lays264_ren:Go.Shelf.Ren:=⟨fun|264=>127|n=>n,fun|53=>22|46=>52|n=>n,fun|n=>n⟩
theorem Tryz.lays264:Go.Proofs.Lays.n264 Tryz.prog Tryz.lays264_ren:= {
 mixed:=by kernel_rfl
 f264:=Tryz.func127.trans (congrArg some (by kernel_rfl))
 t46:=Tryz.underlying52
 a46:=Tryz.isAgg52
 z46:=Tryz.sizeOf52
 v46:=Tryz.zeroValue52
 t53:=Tryz.underlying22
 a53:=Tryz.isAgg22
 z53:=Tryz.sizeOf22
 v53:=Tryz.zeroValue22}
open Go.RowKit Go.Lib in
theorem Tryz.bits_Mul64(x y:Nat)(hx:x<0x10000000000000000)(hy:y<0x10000000000000000)(w:World):
 Calls Tryz.prog 127 #[.int .u64 x,.int .u64 y] w fun e w'=>e= .returned (.tuple #[.int .u64 ((x*y/0x10000000000000000:Nat):Int),.int .u64 ((x*y%0x10000000000000000:Nat):Int)])/\w'=w:=Any.bits_Mul64 Tryz.lays264 x y hx hy w
def Tryz.lays105_ren:Go.Shelf.Ren:=⟨fun|105=>73|212=>99|99=>100|165=>101|166=>102|170=>103|169=>104|263=>126|264=>127|206=>128|240=>129|241=>130|276=>148|277=>149|n=>n,fun|9=>9|3=>3|4=>4|20=>20|0=>0|46=>52|109=>170|5=>5|72=>175|76=>179|51=>58|146=>199|53=>22|148=>149|70=>173|37=>143|75=>178|127=>202|164=>226|80=>181|n=>n,fun|n=>n⟩
theorem Tryz.lays105:Go.Proofs.Lays.n105 Tryz.prog Tryz.lays105_ren:= {
 mixed:=by kernel_rfl
 f99:=Tryz.func100.trans (congrArg some (by kernel_rfl))
 f105:=Tryz.func73.trans (congrArg some (by kernel_rfl))
 f165:=Tryz.func101.trans (congrArg some (by kernel_rfl))
 f166:=Tryz.func102.trans (congrArg some (by kernel_rfl))
 f169:=Tryz.func104.trans (congrArg some (by kernel_rfl))
 f170:=Tryz.func103.trans (congrArg some (by kernel_rfl))
 f206:=Tryz.func128.trans (congrArg some (by kernel_rfl))
 f212:=Tryz.func99.trans (congrArg some (by kernel_rfl))
 f240:=Tryz.func129.trans (congrArg some (by kernel_rfl))
 f241:=Tryz.func130.trans (congrArg some (by kernel_rfl))
 f263:=Tryz.func126.trans (congrArg some (by kernel_rfl))
 f264:=Tryz.func127.trans (congrArg some (by kernel_rfl))
 f276:=Tryz.func148.trans (congrArg some (by kernel_rfl))
 f277:=Tryz.func149.trans (congrArg some (by kernel_rfl))
 t0:=Tryz.underlying0
 a0:=Tryz.isAgg0
 z0:=Tryz.sizeOf0
 v0:=Tryz.zeroValue0
 t3:=Tryz.underlying3
 a3:=Tryz.isAgg3
 z3:=Tryz.sizeOf3
 v3:=Tryz.zeroValue3
 t4:=Tryz.underlying4
 a4:=Tryz.isAgg4
 z4:=Tryz.sizeOf4
 v4:=Tryz.zeroValue4
 t5:=Tryz.underlying5
 a5:=Tryz.isAgg5
 z5:=Tryz.sizeOf5
 v5:=Tryz.zeroValue5
 t9:=Tryz.underlying9
 a9:=Tryz.isAgg9
 z9:=Tryz.sizeOf9
 v9:=Tryz.zeroValue9
 t20:=Tryz.underlying20
 a20:=Tryz.isAgg20
 z20:=Tryz.sizeOf20
 v20:=Tryz.zeroValue20
 t37:=Tryz.underlying143
 a37:=Tryz.isAgg143
 z37:=Tryz.sizeOf143
 v37:=Tryz.zeroValue143
 t46:=Tryz.underlying52
 a46:=Tryz.isAgg52
 z46:=Tryz.sizeOf52
 v46:=Tryz.zeroValue52
 t51:=Tryz.underlying58
 a51:=Tryz.isAgg58
 z51:=Tryz.sizeOf58
 v51:=Tryz.zeroValue58
 t53:=Tryz.underlying22
 a53:=Tryz.isAgg22
 z53:=Tryz.sizeOf22
 v53:=Tryz.zeroValue22
 t70:=Tryz.underlying173
 a70:=Tryz.isAgg173
 z70:=Tryz.sizeOf173
 v70:=Tryz.zeroValue173
 t72:=Tryz.underlying175
 a72:=Tryz.isAgg175
 z72:=Tryz.sizeOf175
 v72:=Tryz.zeroValue175
 t75:=Tryz.underlying178
 a75:=Tryz.isAgg178
 z75:=Tryz.sizeOf178
 v75:=Tryz.zeroValue178
 t76:=Tryz.underlying179
 a76:=Tryz.isAgg179
 z76:=Tryz.sizeOf179
 v76:=Tryz.zeroValue179
 t109:=Tryz.underlying170
 a109:=Tryz.isAgg170
 z109:=Tryz.sizeOf170
 v109:=Tryz.zeroValue170
 t127:=Tryz.underlying202
 a127:=Tryz.isAgg202
 z127:=Tryz.sizeOf202
 v127:=Tryz.zeroValue202
 t146:=Tryz.underlying199
 a146:=Tryz.isAgg199
 z146:=Tryz.sizeOf199
 v146:=Tryz.zeroValue199
 t148:=Tryz.underlying149
 a148:=Tryz.isAgg149
 z148:=Tryz.sizeOf149
 v148:=Tryz.zeroValue149
 t164:=Tryz.underlying226
 a164:=Tryz.isAgg226
 z164:=Tryz.sizeOf226
 v164:=Tryz.zeroValue226}
theorem Tryz.Builder_Extra_105:Builder.Extra Tryz.prog Tryz.lays105_ren:= {
 sizeBuilder:=by kernel_rfl
 liesBuilder:=by kernel_rfl
 t5:=Tryz.underlying5
 a5:=Tryz.isAgg5
 z5:=Tryz.sizeOf5
 v5:=Tryz.zeroValue5
 infoByte:=by kernel_rfl
 cellsByte:=by kernel_rfl
 sizeByte:=by kernel_rfl
 neB5:=by decide}
open Go.RowKit Go.Lib in
theorem Tryz.strings_Repeat(s:ByteArray)(c:Nat)(w:World)(hc:c<=9223372036854775807)(hlen:s.size*c<=140737488355328):
 Calls Tryz.prog 73 #[.string s,.int .i64 c] w fun e w'=>e= .returned (.string ⟨(Lib.repeatL s.data.toList c).toArray⟩)/\Below w.heap.size w w':=Any.strings_Repeat Tryz.lays105 Tryz.Builder_Extra_105 s c w hc hlen
end Go.Proofs
namespace Go.Proofs.YtdhmihfefgcbeaaGreat
open Go.Vg Go.RowKit
set_option maxRecDepth 200000
set_option cbv.maxSteps 100000000
theorem cUsed{P:Program}(hP:P=Tryz.prog)(a:Nat->Nat)(u:Nat)(hu:Used 9 a u):
 Con P 88 [.ptr 0 0] [⟨0,ws a 9,25⟩] 1 [] (fun v _ _=>v= .int .i64 (.ofNat u)):=by
 refine cof hP Tryz.func88 (bdb _ rfl) (bkb rfl) ?_
 intro A g K hA hg hK
 obtain⟨bin,_,cmp,_,_,ix,_,_,_,_,_,_,_,_,_,off,_,_,sub⟩:=A
 have f0:∀i,cmp .gtr (.ofNat i) 0=decide (0<i):=fun i=>gtrI hA i 0
 have f1:∀i,i<9->bin .sub .i64 (.ofNat (i+1)) 1=Int.ofNat i:=fun i h=>(subI hA (a:=i+1) (b:=1) (by omega) (by omega)).trans (by simp)
 have f2:∀i,i<9->ix (.ofNat i) 9=some i:=fun i h=>ix_of hA h
 have f3:∀i,off 0 i 1=i:=fun i=>(off_of hA 0 i 1).trans (by omega)
 have f4:=fun(f:Nat->Nat) (k:Nat) (h:k<9)=>getW hA .u64 (n:=9) f h
 have f5:∀i,cmp .eql (.ofNat i) 0=decide (i=0):=fun i=>eqlI hA i 0
 simp only[lst,Nat.reduceAdd]at f4
 cbv
 refine lpb Nat (fun i=>i<=9/\u<=i) (fun i=>i) (fun i=> [(3,.int .i64 (.ofNat i))]) [0] (fun i=> []) 9 ⟨Nat.le_refl _,hu.1⟩ ?_ ?_
 ·exact wkid
 rintro i ⟨hi,hui⟩
 cbv
 cases i with
 |zero=>
  have e0:cmp .gtr (.ofNat 0) 0=false:=f0 0
  rw[e0]
  cbv
  exact hK _ _ _ (by rw[show u=0 by omega];rfl)
 |succ i=>
  have e0:cmp .gtr (.ofNat (i+1)) 0=true:=(f0 (i+1)).trans (by simp)
  have e1:=f1 i (by omega)
  obtain⟨i1,hi1⟩:=exq (i+1)
  rw[<-hi1]at e0 e1⊢
  rw[e0]
  cbv
  rw[e1]
  rw[f2 i (by omega)]
  cbv
  rw[f3 i,f4 a i (by omega)]
  cbv
  rw[f5 (a i)]
  by_cases hz:a i=0
  ·rw[decide_eq_true hz]
   cbv
   rw[e1]
   refine⟨i,id,⟨by omega,?_⟩,(by show i<i1;omega),?_⟩
   ·by_cases h:u=i1
    ·exact absurd (by rw[show u-1=i by omega];exact hz) (hu.2.2 (by omega))
    ·show u<=i
     omega
   ·exact wkid
  ·rw[decide_eq_false hz]
   cbv
   refine hK _ _ _ ?_
   have:u=i1:=by
    by_cases h:u=i1
    ·exact h
    ·exact absurd (hu.2.1 i (by omega) (by omega)) hz
   rw[this]
   rfl
theorem cSmall{P:Program}(hP:P=Tryz.prog)(x:Nat)(hx:x<2^63)(r:Nat->Nat)(hr:r=fun j=>if j=0 then x else 0):
 Con P 61 [.int .i64 (.ofNat x)] [] 0 [] (fun v _ _=>v= .agg (ws r 9)):=by
 refine cof hP Tryz.func61 (bdb _ rfl) (bkb rfl) ?_
 intro A g K hA hg hK
 obtain⟨_,_,_,_,cvt⟩:=A
 have f1:cvt .u64 (.ofNat x)=Int.ofNat x:=cvtI hA (fun h=>by cases h) (fun _=>by show x<0x10000000000000000;omega)
 cbv
 refine step_max hg rfl rfl (r:=Int.ofNat x) rfl rfl (by split<;>simp_all<;>omega) ?_
 cbv
 rw[f1]
 refine hK _ _ _ ?_
 subst hr
 rfl
theorem bl_of{x:Nat}(h:x<0x10000000000000000):IsBl x (Lib.bitLen x):=by
 by_cases h0:x=0
 ·subst h0
  exact⟨by decide,fun h=>absurd h (by decide)⟩
 ·obtain⟨_,h2,h3⟩:=Lib.bitLenAux_bounds 64 x h h0
  exact⟨h3,fun _=>h2⟩
theorem cLen64{P:Program}(hP:P=Tryz.prog)(x k:Nat)(hx:x<0x10000000000000000)(hk:IsBl x k):
 Con P 89 [.int .u64 (.ofNat x)] [] 0 [] (fun v _ _=>v= .int .i64 (.ofNat k)):=by
 subst hP
 refine Con.from_calls (Callable.of Tryz.func89 rfl) (fun W=>(Tryz.bits_Len64 (x:Int) W (by omega) (by omega)).mono ?_) ⟨trivial,trivial⟩ trivial
 rintro e W' ⟨rfl,rfl⟩
 refine⟨?_,Below.refl _ _⟩
 rw[hk.uniq (bl_of hx)]
 rfl
theorem cLz64{P:Program}(hP:P=Tryz.prog)(x k:Nat)(hx:x<0x10000000000000000)(hk:IsBl x k):
 Con P 142 [.int .u64 (.ofNat x)] [] 0 [] (fun v _ _=>v= .int .i64 (.ofNat (64-k))):=by
 subst hP
 refine Con.from_calls (Callable.of Tryz.func142 rfl) (fun W=>(Tryz.bits_LeadingZeros64 (x:Int) W (by omega) (by omega)).mono ?_) ⟨trivial,trivial⟩ trivial
 rintro e W' ⟨rfl,rfl⟩
 refine⟨?_,Below.refl _ _⟩
 have h1:=bl_of hx
 rw[hk.uniq h1]
 have h2:Lib.bitLen x<=64:=Nat.le_of_not_lt fun h3=>by
  have h4:=h1.2 (by omega)
  have h5:=Nat.pow_le_pow_right (show 0<2 by decide) (show 64<=Lib.bitLen x-1 by omega)
  omega
 simp only[den,Int.toNat_natCast]
 congr 2
 show(64:Int)-(Lib.bitLen x:Int)=((64-Lib.bitLen x:Nat):Int)
 omega
theorem cMul64{P:Program}(hP:P=Tryz.prog)(x y h l:Nat)(hx:x<0x10000000000000000)(hy:y<0x10000000000000000)(hh:h=x*y/0x10000000000000000)(hl:l=x*y%0x10000000000000000):
 Con P 127 [.int .u64 (.ofNat x),.int .u64 (.ofNat y)] [] 0 [] (fun v _ _=>v= .tup [.int .u64 (.ofNat h),.int .u64 (.ofNat l)]):=by
 subst hP
 refine Con.from_calls (Callable.of Tryz.func127 rfl) (fun W=>(Tryz.bits_Mul64 x y hx hy W).mono ?_) ⟨trivial,trivial,trivial⟩ ⟨trivial,trivial,trivial⟩
 rintro e W' ⟨rfl,rfl⟩
 refine⟨?_,Below.refl _ _⟩
 subst hh hl
 rfl
theorem cCmp{P:Program}(hP:P=Tryz.prog)(a b:Nat->Nat)(ha:Wn 9 a)(hb:Wn 9 b)(o:Int)(ho:o=if V 9 a<V 9 b then -1 else if V 9 b<V 9 a then 1 else 0):
 Con P 64 [.agg (ws a 9),.agg (ws b 9)] [] 0 [] (fun v _ _=>v= .int .i64 o):=by
 refine cof hP Tryz.func64 ⟨lst_bdL _,lst_bdL _,trivial⟩ (by simp) ?_
 intro A g K hA hg hK
 obtain⟨bin,_,cmp,_,_,ix,_,_,_,_,_,_,_,_,_,off,_,_,sub⟩:=A
 have f0:∀i,cmp .geq (.ofNat i) 0=true:=fun i=>(geqI hA i 0).trans (by simp)
 have f0':cmp .geq (-1) 0=false:=by subst_vars;exact(congrFun (congrFun (congrFun (cmp_of hA) .geq) (-1)) 0).trans rfl
 have f1:∀i,i<9->bin .sub .i64 (.ofNat (i+1)) 1=Int.ofNat i:=fun i h=>(subI hA (a:=i+1) (b:=1) (by omega) (by omega)).trans (by simp)
 have f1':bin .sub .i64 (.ofNat 0) 1= -1:=(congrFun (congrFun (congrFun (congrFun (bin_of hA) .sub) .i64) (Int.ofNat 0)) 1).trans rfl
 have f2:∀i,i<9->ix (.ofNat i) 9=some i:=fun i h=>ix_of hA h
 have f3:∀i,off 0 i 1=i:=fun i=>(off_of hA 0 i 1).trans (by omega)
 have f4:=fun(f:Nat->Nat) (k:Nat) (h:k<9)=>getW hA .u64 (n:=9) f h
 have f5:∀x y,cmp .lss (.ofNat x) (.ofNat y)=decide (x<y):=fun x y=>lssI hA x y
 have f6:∀x y,cmp .gtr (.ofNat x) (.ofNat y)=decide (y<x):=fun x y=>gtrI hA x y
 simp only[lst,Nat.reduceAdd]at f4
 have heq:∀i,i<=9->(∀j,i<=j->j<9->a j=b j)->V 9 a=V i a+(V 9 b-V i b)/\V i b<=V 9 b:=by
  intro i hi hj
  obtain⟨k,hk⟩:∃k,9=i+k:=⟨9-i,by omega⟩
  have h1:=Dg.num_split (b:=0x10000000000000000) a i k
  have h2:=Dg.num_split (b:=0x10000000000000000) b i k
  rw[<-hk]at h1 h2
  have h3:Dg.num 0x10000000000000000 (fun q=>a (i+q)) k=Dg.num 0x10000000000000000 (fun q=>b (i+q)) k:=Dg.num_congr k fun q hq=>hj (i+q) (by omega) (by omega)
  rw[h3]at h1
  simp only[V]
  omega
 have hlt:∀i,i<9->∀f g:Nat->Nat,Wn 9 f->f i<g i->V (i+1) f<V (i+1) g:=by
  intro i hi f g hf h
  have h1:V i f<0x10000000000000000^i:=V_lt fun j hj=>hf j (by omega)
  rw[nsn,nsn]
  have h2:=Nat.mul_le_mul_right (0x10000000000000000^i) (show f i+1<=g i from h)
  rw[Nat.add_mul,Nat.one_mul]at h2
  generalize 0x10000000000000000^i=M at *
  omega
 cbv
 refine lpb (Option Nat) (fun s=>match s with|none=>V 9 a=V 9 b|some i=>i<9/\∀j,i<j->j<9->a j=b j) (fun s=>match s with|none=>0|some i=>i+1) (fun s=> [(5,.int .i64 (match s with|none=> -1|some i=>Int.ofNat i))]) [2,3,4] (fun _=> []) (some 8) ⟨by decide,fun j h1 h2=>by omega⟩ ?_ ?_
 ·exact wkid
 rintro(_|i) hs
 ·cbv
  rw[f0']
  cbv
  have hs:V 9 a=V 9 b:=hs
  exact hK _ _ _ (by rw[ho,hs,if_neg (Nat.lt_irrefl _),if_neg (Nat.lt_irrefl _)];rfl)
 ·obtain⟨hi,hj⟩:=hs
  have hi:i<9:=hi
  have hj:∀j,i<j->j<9->a j=b j:=hj
  cbv
  rw[f0 i]
  cbv
  refine rgM hP hA hg fun mk _=> ?_
  cbv
  rw[f2 i hi]
  cbv
  rw[f3 i,f4 a i hi]
  cbv
  rw[f2 i hi]
  cbv
  rw[f3 i,f4 b i hi]
  cbv
  rw[f5]
  have e1:=heq (i+1) (by omega) (fun j h1 h2=>hj j (by omega) h2)
  by_cases h1:a i<b i
  ·rw[decide_eq_true h1]
   cbv
   have e2:=hlt i hi a b ha h1
   exact hK _ _ _ (by rw[ho,if_pos (by omega)];rfl)
  ·rw[decide_eq_false h1]
   cbv
   refine rgM hP hA hg fun mk _=> ?_
   cbv
   rw[f2 i hi]
   cbv
   rw[f3 i,f4 a i hi]
   cbv
   rw[f2 i hi]
   cbv
   rw[f3 i,f4 b i hi]
   cbv
   rw[f6]
   by_cases h2:b i<a i
   ·rw[decide_eq_true h2]
    cbv
    have e2:=hlt i hi b a hb h2
    exact hK _ _ _ (by rw[ho,if_neg (by omega),if_pos (by omega)];rfl)
   ·rw[decide_eq_false h2]
    cbv
    have h3:a i=b i:=by omega
    have hj':∀j,i<=j->j<9->a j=b j:=fun j h1 h2=>by
     rcases Nat.lt_or_eq_of_le h1 with h4|h4
     ·exact hj j h4 h2
     ·rw[<-h4];exact h3
    cases i with
    |zero=>
     rw[show bin .sub .i64 (.ofNat 0) 1= -1 from f1']
     refine⟨none,id,?_,(by show 0<0+1;omega),?_⟩
     ·show V 9 a=V 9 b
      exact Dg.num_congr 9 fun j h=>hj' j (by omega) h
     ·exact wkid
    |succ i=>
     rw[f1 i (by omega)]
     refine⟨some i,id,⟨by omega,fun j h1 h2=>hj' j (by omega) h2⟩,(by show i+1<i+1+1;omega),?_⟩
     exact wkid
theorem cBits{P:Program}(hP:P=Tryz.prog)(a:Nat->Nat)(ha:Wn 9 a)(k:Nat)(hk:IsBl (V 9 a) k):
 Con P 62 [.agg (ws a 9)] [] 0 [] (fun v _ _=>v= .int .i64 (.ofNat k)):=by
 obtain⟨u,hu⟩:=used_ex a 9
 have hva:=V_used hu
 refine cof hP Tryz.func62 ⟨lst_bdL _,trivial⟩ (by simp) ?_
 intro A g K hA hg hK
 obtain⟨bin,_,cmp,_,_,ix,_,_,_,_,_,_,_,_,_,off,_,_,sub⟩:=A
 have f0:∀i,cmp .eql (.ofNat i) 0=decide (i=0):=fun i=>eqlI hA i 0
 have f2:∀i,i<9->ix (.ofNat i) 9=some i:=fun i h=>ix_of hA h
 have f3:∀i,off 0 i 1=i:=fun i=>(off_of hA 0 i 1).trans (by omega)
 have f4:=fun(f:Nat->Nat) (k:Nat) (h:k<9)=>getW hA .u64 (n:=9) f h
 simp only[lst,Nat.reduceAdd]at f4
 cbv
 refine cro rfl hg rfl rfl (cUsed hP a u hu) id rfl ⟨rfl,trivial⟩ ?_
 rintro _ _ _ rfl
 cbv
 rw[f0]
 cases u with
 |zero=>
  rw[show decide (0=0)=true from rfl]
  cbv
  rw[hva]at hk
  refine hK _ _ _ ?_
  rw[hk.zero]
  rfl
 |succ u=>
  rw[show decide (u+1=0)=false from decide_eq_false (by omega)]
  have hu9:u<9:=hu.1
  obtain⟨l,hl⟩:=bl_ex (a u)
  have hl64:l<=64:=Nat.le_of_not_lt fun h3=>by
   have h4:=hl.2 (by omega)
   have h5:=Nat.pow_le_pow_right (show 0<2 by decide) (show 64<=l-1 by omega)
   have:=ha u hu9
   omega
  have e0:bin .sub .i64 (.ofNat (u+1)) 1=Int.ofNat u:=(subI hA (a:=u+1) (b:=1) (by omega) (by omega)).trans (by simp)
  have e1:bin .mul .i64 (.ofNat u) 64=Int.ofNat (u*64):=mulI hA (b:=64) (by omega)
  have e2:bin .add .i64 (.ofNat (u*64)) (.ofNat l)=Int.ofNat (u*64+l):=addI hA (by omega)
  have hkl:k=u*64+l:=by
   refine hk.uniq ?_
   rw[hva,nsn,W_pow,show u*64=64*u by omega]
   refine IsBl.shift ?_ hl ?_
   ·have:=V_lt (n:=u) (f:=a) fun j hj=>ha j (by omega)
    rw[W_pow]at this
    exact this
   ·have:=hu.2.2 (by omega)
    simp at this
    omega
  generalize hw:u+1=u1 at e0
  generalize hw2:u*64=u64 at e1 e2 hkl
  cbv
  rw[e0,e1,f2 u hu9]
  cbv
  rw[f3 u,f4 a u hu9]
  cbv
  refine cva rfl hg rfl rfl (cLen64 hP (a u) l (ha u hu9) hl) ?_
  rintro _ _ _ rfl
  cbv
  rw[e2,<-hkl]
  exact hK _ _ _ rfl
theorem mul_word{x y z c h l l1 c1 l2 c2:Nat}(hx:x<0x10000000000000000)(hy:y<0x10000000000000000)(hz:z<0x10000000000000000)(hc:c<0x10000000000000000)(hh:h=x*y/0x10000000000000000)(hl:l=x*y%0x10000000000000000)
 (hl1:l1=(l+z+0)%0x10000000000000000) (hc1:c1=(l+z+0)/0x10000000000000000) (hl2:l2=(l1+c+0)%0x10000000000000000) (hc2:c2=(l1+c+0)/0x10000000000000000):
 x*y+z+c=l2+(h+c1+c2)*0x10000000000000000/\h+c1+c2<0x10000000000000000/\l2<0x10000000000000000/\c1<=1/\c2<=1:=by
 have h1:x*y<=0xffffffffffffffff*0xffffffffffffffff:=Nat.mul_le_mul (by omega) (by omega)
 generalize x*y=p at *
 omega
theorem mul_step{Vp Vq c cc x y z P Pk Pi B l2:Nat}(hpv:Vp+c*P=Vq+x*B*Pi)(w1:x*y+z+c=l2+cc*0x10000000000000000)(hP:P=Pk*Pi):Vp+l2*P+cc*(P*0x10000000000000000)=(Vq+z*P)+x*(B+y*Pk)*Pi:=by
 have h1:(Vq+z*P)+x*(B+y*Pk)*Pi=(Vq+x*B*Pi)+(x*y+z)*P:=by subst hP;grind
 have h2:Vp+l2*P+cc*(P*0x10000000000000000)=Vp+(l2+cc*0x10000000000000000)*P:=by grind
 rw[h1,h2,<-hpv,<-w1]
 grind
theorem cMul{P:Program}(hP:P=Tryz.prog)(a b r:Nat->Nat)(ha:Wn 9 a)(hb:Wn 9 b)(hr:Wn 18 r)(hVr:V 18 r=V 9 a*V 9 b):
 Con P 158 [.agg (ws a 9),.agg (ws b 9)] [] 0 [] (fun v _ _=>v= .agg (ws r 18)):=by
 obtain⟨m,hm⟩:=used_ex a 9
 obtain⟨n,hn⟩:=used_ex b 9
 have hva:=V_used hm
 have hvb:=V_used hn
 have hm9:=hm.1
 have hn9:=hn.1
 refine cof hP Tryz.func158 ⟨lst_bdL _,lst_bdL _,trivial⟩ (by simp) ?_
 intro A g K hA hg hK
 obtain⟨bin,_,cmp,_,_,ix,_,_,_,_,_,_,_,_,_,off⟩:=A
 have f1:∀x y,cmp .lss (.ofNat x) (.ofNat y)=decide (x<y):=fun x y=>lssI hA x y
 have f2:∀i,i<9->ix (.ofNat i) 9=some i:=fun i h=>ix_of hA h
 have f2':∀i,i<18->ix (.ofNat i) 18=some i:=fun i h=>ix_of hA h
 have f3:∀i,off 0 i 1=i:=fun i=>(off_of hA 0 i 1).trans (by omega)
 have f4:=fun(f:Nat->Nat) (k:Nat) (h:k<9)=>getW hA .u64 (n:=9) f h
 have f4':=fun(f:Nat->Nat) (k:Nat) (h:k<18)=>getW hA .u64 (n:=18) f h
 have f5:=fun(f g:Nat->Nat) (k v:Nat) (h:k<18) (e:g=fun j=>if j=k then v else f j)=>splW hA .u64 (n:=18) f g h e
 have f6:∀i,i<9->bin .add .i64 (.ofNat i) 1=Int.ofNat (i+1):=fun i h=>add_of hA (by omega)
 have f7:∀x y,x+y<0x10000000000000000->bin .add .u64 (.ofNat x) (.ofNat y)=Int.ofNat (x+y):=fun x y h=>addU hA h
 have f8:∀x y,x+y<18->bin .add .i64 (.ofNat x) (.ofNat y)=Int.ofNat (x+y):=fun x y h=>addI hA (by omega)
 simp only[lst,Nat.reduceAdd]at f4 f4' f5
 cbv
 refine cro rfl hg rfl rfl (cUsed hP a m hm) id rfl ⟨rfl,trivial⟩ ?_
 rintro _ _ _ rfl
 cbv
 refine cro rfl hg rfl rfl (cUsed hP b n hn) (fun l=>l+1) rfl ⟨rfl,trivial⟩ ?_
 rintro _ _ _ rfl
 cbv
 refine lpb (Nat×(Nat->Nat)) (fun s=>s.1<=m/\Wn 18 s.2/\(∀j,s.1+n<=j->s.2 j=0)/\V (s.1+n) s.2=V s.1 a*V n b) (fun s=>m-s.1)
  (fun s=> [(17,.int .i64 (.ofNat s.1))]) [2,3,4,5,6,7,16] (fun s=> [(3,ws s.2 18)]) (0,fun _=>0) ⟨Nat.zero_le _,fun j _=>by show 0<_;decide,fun _ _=>rfl,?_⟩ ?_ ?_
 ·show V (0+n) (fun _=>0)=V 0 a*V n b
  rw[show V 0 a=0 from rfl,Nat.zero_mul]
  exact Dg.num_zero (b:=0x10000000000000000) (fun _=>0) 0 n fun _ _ _=>rfl
 ·exact wkid
 rintro⟨i,q⟩ ⟨hi,hq,hz,hv⟩
 have hi:i<=m:=hi
 have hq:Wn 18 q:=hq
 have hz:∀j,i+n<=j->q j=0:=hz
 have hv:V (i+n) q=V i a*V n b:=hv
 cbv
 rw[f1]
 by_cases hlt:i<m
 ·rw[decide_eq_true hlt]
  cbv
  refine lpb (Nat×(Nat->Nat)×Nat) (fun s=>s.1<=n/\Wn 18 s.2.1/\s.2.2<0x10000000000000000/\(∀j,i+s.1<=j->s.2.1 j=q j)/\V (i+s.1) s.2.1+s.2.2*0x10000000000000000^(i+s.1)=V (i+s.1) q+a i*V s.1 b*0x10000000000000000^i) (fun s=>n-s.1)
   (fun s=> [(21,.int .i64 (.ofNat s.1)),(9,.int .u64 (.ofNat s.2.2))]) [2,3,4,5,6,7,8,16,17,20] (fun s=> [(3,ws s.2.1 18)]) (0,q,0) ⟨Nat.zero_le _,hq,by show 0<_;decide,fun _ _=>rfl,?_⟩ ?_ ?_
  ·show V (i+0) q+0*_=V (i+0) q+a i*V 0 b*_
   rw[show V 0 b=0 from rfl];simp
  ·exact wkid
  rintro⟨k,p,c⟩ ⟨hk,hp,hc,hpq,hpv⟩
  have hk:k<=n:=hk
  have hp:Wn 18 p:=hp
  have hc:c<0x10000000000000000:=hc
  have hpq:∀j,i+k<=j->p j=q j:=hpq
  have hpv:V (i+k) p+c*0x10000000000000000^(i+k)=V (i+k) q+a i*V k b*0x10000000000000000^i:=hpv
  cbv
  rw[f1]
  by_cases hkn:k<n
  ·rw[decide_eq_true hkn]
   have i9:i<9:=by omega
   have k9:k<9:=by omega
   obtain⟨h,hh⟩:=exq (a i*b k/0x10000000000000000)
   obtain⟨l,hl⟩:=exq (a i*b k%0x10000000000000000)
   obtain⟨l1,hl1⟩:=exq ((l+p (i+k)+0)%0x10000000000000000)
   obtain⟨c1,hc1⟩:=exq ((l+p (i+k)+0)/0x10000000000000000)
   obtain⟨l2,hl2⟩:=exq ((l1+c+0)%0x10000000000000000)
   obtain⟨c2,hc2⟩:=exq ((l1+c+0)/0x10000000000000000)
   obtain⟨w1,w2,w3,w4,w5⟩:=mul_word (ha i i9) (hb k k9) (hp (i+k) (by omega)) hc hh hl hl1 hc1 hl2 hc2
   have e8:=f8 i k (by omega)
   have e7:=f7 h c1 (by omega)
   have e7':=f7 (h+c1) c2 (by omega)
   obtain⟨ik,hik⟩:=exq (i+k)
   obtain⟨p',hp'⟩:=exq (fun j=>if j=ik then l2 else p j:Nat->Nat)
   have e5:=f5 p p' ik l2 (by omega) hp'
   have e4:=f4' p ik (by omega)
   have e2:=f2' ik (by omega)
   have e3:=f3 ik
   obtain⟨hc1',hhc⟩:=exq (h+c1)
   obtain⟨cc,hcc⟩:=exq (hc1'+c2)
   rw[<-hhc]at e7 e7' w2
   rw[<-hcc]at e7' w2
   rw[<-hhc,<-hcc]at w1
   rw[<-hik]at e8 hl1 hc1
   cbv
   refine rgM hP hA hg fun mk _=> ?_
   cbv
   rw[f2 i i9]
   cbv
   rw[f3 i,f4 a i i9]
   cbv
   rw[f2 k k9]
   cbv
   rw[f3 k,f4 b k k9]
   cbv
   refine stepD (en_val rfl hg rfl rfl (cMul64 hP (a i) (b k) h l (ha i i9) (hb k k9) hh hl) (fun _ _ _ h=>h) ⟨trivial,trivial,trivial⟩) ?_
   cbv
   rw[e8]
   rw[e2]
   cbv
   rw[e3,e4]
   cbv
   refine step_ext rfl hg rfl rfl (xAdd64 hP l (p ik) 0 l1 c1 (by decide) hl1 hc1) ?_
   cbv
   rw[e7]
   refine step_ext rfl hg rfl rfl (xAdd64 hP l1 c 0 l2 c2 (by decide) hl2 hc2) ?_
   cbv
   rw[e8]
   rw[e7',e2]
   cbv
   rw[e3,e5]
   cbv
   rw[f6 k k9]
   refine⟨(k+1,p',cc),id,⟨hkn,?_,w2,?_,?_⟩,(by show n-(k+1)<n-k;omega),?_⟩
   ·intro j hj
    show p' j<_
    rw[hp']
    by_cases hji:j=ik
    ·simp only[hji,if_pos];exact w3
    ·simp only[if_neg hji];exact hp j hj
   ·intro j hj
    have hj:i+(k+1)<=j:=hj
    show p' j=q j
    rw[hp']
    simp only[if_neg (show j≠ik by omega)]
    exact hpq j (by omega)
   ·show V (i+(k+1)) p'+cc*0x10000000000000000^(i+(k+1))=V (i+(k+1)) q+a i*V (k+1) b*0x10000000000000000^i
    rw[<-Nat.add_assoc,<-hik,hp',V_upd,nsn q,nsn b,Nat.pow_succ]
    rw[<-hik]at hpv
    have hz1:p ik=q ik:=hpq ik (by omega)
    rw[hik]at hz1
    rw[hz1]at w1
    rw[<-hik]at w1
    exact mul_step hpv w1 (by rw[hik,Nat.pow_add,Nat.mul_comm])
   ·exact wkid
  ·rw[decide_eq_false hkn]
   obtain rfl:k=n:=by omega
   have e8:=f8 i k (by omega)
   obtain⟨ik,hik⟩:=exq (i+k)
   obtain⟨p',hp'⟩:=exq (fun j=>if j=ik then c else p j:Nat->Nat)
   have e5:=f5 p p' ik c (by omega) hp'
   have e2:=f2' ik (by omega)
   have e3:=f3 ik
   rw[<-hik]at e8
   cbv
   rw[e8,e2]
   cbv
   rw[e3,e5]
   cbv
   rw[f6 i (by omega)]
   refine⟨(i+1,p'),id,⟨hlt,?_,?_,?_⟩,(by show m-(i+1)<m-i;omega),?_⟩
   ·intro j hj
    show p' j<_
    rw[hp']
    by_cases hji:j=ik
    ·simp only[hji,if_pos];exact hc
    ·simp only[if_neg hji];exact hp j hj
   ·intro j hj
    have hj:i+1+k<=j:=hj
    show p' j=0
    rw[hp']
    simp only[if_neg (show j≠ik by omega)]
    rw[hpq j (by omega)]
    exact hz j (by omega)
   ·show V (i+1+k) p'=V (i+1) a*V k b
    rw[show i+1+k=ik+1 by omega,hp',V_upd,nsn a,hik,hpv,hv]
    grind
   ·exact wkid
 ·rw[decide_eq_false hlt]
  obtain rfl:i=m:=by omega
  have e1:V 18 q=V 18 r:=by
   rw[hVr,hva,hvb,<-hv]
   obtain⟨d,hd⟩:∃d,18=(i+n)+d:=⟨18-(i+n),by omega⟩
   rw[hd]
   exact Dg.num_zero (b:=0x10000000000000000) q (i+n) d fun j h1 _=>hz j h1
  have e3:=V_inj hq hr e1 (k:= .u64)
  simp only[lst,Nat.reduceAdd]at e3
  cbv
  refine hK _ _ _ ?_
  rw[e3]
  rfl
theorem dig_le{a b u v X r q:Nat}(e:X+r=u)(h:q*b<=4294967296*r+v)(hX:X=q*a):q<=(u*4294967296+v)/(a*4294967296+b)\/a*4294967296+b=0:=by
 rcases Nat.eq_zero_or_pos (a*4294967296+b)with h0|h0
 ·exact Or.inr h0
 ·left
  rw[Nat.le_div_iff_mul_le h0]
  have h1:q*(a*4294967296+b)=X*4294967296+q*b:=by rw[hX];grind
  rw[h1]
  generalize q*b=Z at *
  omega
theorem dig_gt{a b u v X r q:Nat}(e:X+r=u)(h:4294967296*r+v<q*b)(hX:X=q*a)(h0:0<a*4294967296+b):(u*4294967296+v)/(a*4294967296+b)<q:=by
 rw[Nat.div_lt_iff_lt_mul h0]
 have h1:q*(a*4294967296+b)=X*4294967296+q*b:=by rw[hX];grind
 rw[h1]
 generalize q*b=Z at *
 omega
structure Guess(a u Q q r:Nat):Prop where
 e:q*a+r=u
 le:Q<=q
 qb:q<=4294967297
 rb:r<4294967296
theorem guess_start{a b u v:Nat}(ha:2147483648<=a)(ha2:a<4294967296)(hb:b<4294967296)(hv:v<4294967296)(hu:u<a*4294967296+b):
 Guess a u ((u*4294967296+v)/(a*4294967296+b)) (u/a) (u%a):=by
 have h0:0<a:=by omega
 have e:u/a*a+u%a=u:=by rw[Nat.mul_comm];exact Nat.div_add_mod u a
 have hr:=Nat.mod_lt u h0
 refine⟨e,?_,?_,Nat.lt_trans hr ha2⟩
 ·refine Nat.le_of_lt_succ ?_
  rw[Nat.div_lt_iff_lt_mul (by omega)]
  have h1:(u/a).succ*(a*4294967296+b)=u/a*a*4294967296+a*4294967296+u/a*b+b:=by rw[Nat.succ_eq_add_one];grind
  rw[h1]
  generalize u/a*a=X at *
  generalize u/a*b=Z at *
  omega
 ·refine Nat.le_of_lt_succ ?_
  rw[Nat.div_lt_iff_lt_mul h0]
  omega
theorem guess_done{a b u v q r:Nat}(ha:0<a)(h:Guess a u ((u*4294967296+v)/(a*4294967296+b)) q r)(h2:q*b<=4294967296*r+v):q=(u*4294967296+v)/(a*4294967296+b):=by
 rcases dig_le h.e h2 rfl with h3|h3
 ·exact Nat.le_antisymm h3 h.le
 ·omega
theorem guess_dec{a b u v q r:Nat}(ha:0<a)(hQ:(u*4294967296+v)/(a*4294967296+b)<4294967296)(h:Guess a u ((u*4294967296+v)/(a*4294967296+b)) q r)(h2:4294967296<=q\/4294967296*r+v<q*b):
 0<q/\(q-1)*a+(r+a)=u/\(u*4294967296+v)/(a*4294967296+b)<=q-1/\q-1<=4294967296:=by
 have h3:(u*4294967296+v)/(a*4294967296+b)<q:=by
  rcases h2 with h2|h2
  ·exact Nat.lt_of_lt_of_le hQ h2
  ·exact dig_gt h.e h2 rfl (by omega)
 have h4:=h.qb
 have e:=h.e
 clear h
 generalize (u*4294967296+v)/(a*4294967296+b)=D at *
 refine⟨by omega,?_,by omega,by omega⟩
 obtain⟨p,rfl⟩:∃p,q=p+1:=⟨q-1,by omega⟩
 rw[Nat.add_mul,Nat.one_mul]at e
 rw[Nat.add_sub_cancel]
 omega
theorem guess_break{a b u v q r:Nat}(ha:0<a)(hb:b<4294967296)(e:q*a+r=u)(hQ:(u*4294967296+v)/(a*4294967296+b)<=q)(hq:q<=4294967296)(hr:4294967296<=r):q=(u*4294967296+v)/(a*4294967296+b):=by
 refine Nat.le_antisymm ?_ hQ
 have h2:q*b<=4294967296*4294967295:=Nat.mul_le_mul hq (by omega)
 have h4:=Nat.mul_le_mul_left 4294967296 hr
 rcases dig_le (v:=v) (b:=b) e (by omega) rfl with h3|h3
 ·exact h3
 ·omega
theorem guess_done'{a b u v q r Q:Nat}(hQ:Q=(u*4294967296+v)/(a*4294967296+b))(ha:2147483648<=a)(h:Guess a u Q q r)(h2:q*b<=4294967296*r+v):q=Q:=by
 subst hQ
 exact guess_done (by omega) h h2
theorem guess_dec'{a b u v q r Q:Nat}(hQ:Q=(u*4294967296+v)/(a*4294967296+b))(ha:2147483648<=a)(hQl:Q<4294967296)(h:Guess a u Q q r)(h2:4294967296<=q\/4294967296*r+v<q*b):
 0<q/\(q-1)*a+(r+a)=u/\Q<=q-1/\q-1<=4294967296:=by
 subst hQ
 exact guess_dec (by omega) hQl h h2
theorem guess_break'{a b u v q r Q:Nat}(hQ:Q=(u*4294967296+v)/(a*4294967296+b))(ha:2147483648<=a)(hb:b<4294967296)(e:q*a+r=u)(hQq:Q<=q)(hq:q<=4294967296)(hr:4294967296<=r):q=Q:=by
 subst hQ
 exact guess_break (by omega) hb e hQq hq hr
theorem two_digits{x c y B:Nat}(hy:0<y):(x*B+c)/y=x/y*B+(x%y*B+c)/y/\(x*B+c)%y=(x%y*B+c)%y:=by
 have e:x*B+c=y*(x/y*B)+(x%y*B+c):=by
  have h:=Nat.div_add_mod x y
  have h2:x*B=(y*(x/y)+x%y)*B:=by rw[h]
  rw[h2];grind
 rw[e]
 exact⟨Nat.mul_add_div hy _ _,Nat.mul_add_mod _ _ _⟩
theorem p64:2^IntKind.u64.bits=0x10000000000000000:=rfl
section
variable {A:Ar}
theorem add64(hA:A=Ar.real){a b r:Nat}(h:r=(a+b)%0x10000000000000000):A.bin .add .u64 (Int.ofNat a) (Int.ofNat b)=Int.ofNat r:=by rw[addW hA rfl,p64,h]
theorem mul64(hA:A=Ar.real){a b r:Nat}(h:r=a*b%0x10000000000000000):A.bin .mul .u64 (Int.ofNat a) (Int.ofNat b)=Int.ofNat r:=by rw[mulW hA rfl,p64,h]
theorem sub64(hA:A=Ar.real){a b r:Nat}(hb:b<=0x10000000000000000)(h:r=(a+0x10000000000000000-b)%0x10000000000000000):A.bin .sub .u64 (Int.ofNat a) (Int.ofNat b)=Int.ofNat r:=by rw[subW hA rfl (by rw[p64];exact hb),p64,h]
theorem shl64(hA:A=Ar.real){a s r:Nat}(hs:s<=64)(h:r=a*2^s%0x10000000000000000):A.sh .shl .u64 (Int.ofNat a) (Int.ofNat s)=Int.ofNat r:=by rw[shlW hA rfl a (by exact hs),p64,h]
theorem shr64(hA:A=Ar.real){a s r:Nat}(hs:s<=64)(h:r=a/2^s):A.sh .shr .u64 (Int.ofNat a) (Int.ofNat s)=Int.ofNat r:=by rw[shrI hA (by exact hs),h]
theorem or64(hA:A=Ar.real){a b r:Nat}(ha:a<0x10000000000000000)(hb:b<0x10000000000000000)(h:r=a|||b):A.bin .or .u64 (Int.ofNat a) (Int.ofNat b)=Int.ofNat r:=by rw[orW hA rfl (by rw[p64];exact ha) (by rw[p64];exact hb),h]
theorem and64(hA:A=Ar.real){a b r:Nat}(ha:a<0x10000000000000000)(hb:b<0x10000000000000000)(h:r=a&&&b):A.bin .and .u64 (Int.ofNat a) (Int.ofNat b)=Int.ofNat r:=by rw[andW hA rfl (by rw[p64];exact ha) (by rw[p64];exact hb),h]
theorem quo64(hA:A=Ar.real){a b r:Nat}(ha:a<0x10000000000000000)(h:r=a/b):A.bin .quo .u64 (Int.ofNat a) (Int.ofNat b)=Int.ofNat r:=by rw[quoW hA rfl (by rw[p64];exact ha),h]
theorem guess_words(hA:A=Ar.real){a b w v Q p ρ:Nat}(hG:Guess a w Q p ρ)(ha2:a<4294967296)(hb:b<4294967296)(hv:v<4294967296):
 ∃Z Y Y' ρ' p':Nat,Z=p*b/\Y'=4294967296*ρ+v/\ρ'=ρ+a/\p'=p-1/\(4294967296<=p->A.cmp .geq (Int.ofNat p) 4294967296=true)/\(¬4294967296<=p->A.cmp .geq (Int.ofNat p) 4294967296=false)/\A.bin .mul .u64 4294967296 (Int.ofNat ρ)=Int.ofNat Y/\A.bin .add .u64 (Int.ofNat Y) (Int.ofNat v)=Int.ofNat Y'/\
  (Y'<Z->A.cmp .gtr (Int.ofNat Z) (Int.ofNat Y')=true)/\(¬Y'<Z->A.cmp .gtr (Int.ofNat Z) (Int.ofNat Y')=false)/\(1<=p->A.bin .sub .u64 (Int.ofNat p) 1=Int.ofNat p')/\A.bin .add .u64 (Int.ofNat ρ) (Int.ofNat a)=Int.ofNat ρ'/\(4294967296<=ρ'->A.cmp .geq (Int.ofNat ρ') 4294967296=true)/\(¬4294967296<=ρ'->A.cmp .geq (Int.ofNat ρ') 4294967296=false)/\
  (p<4294967296->A.bin .mul .u64 (Int.ofNat p) (Int.ofNat b)=Int.ofNat Z):=by
 have h1:=hG.rb
 have h2:=hG.qb
 clear hG
 refine⟨p*b,4294967296*ρ,4294967296*ρ+v,ρ+a,p-1,rfl,rfl,rfl,rfl,fun h=>geq_t hA (b:=4294967296) h,fun h=>geq_f hA (b:=4294967296) h,mul64 hA (a:=4294967296) (by omega),add64 hA (by omega),fun h=>gtr_t hA h,fun h=>gtr_f hA h,fun h=>sub64 hA (b:=1) (by decide) (by omega),add64 hA (by omega),fun h=>geq_t hA (b:=4294967296) h,fun h=>geq_f hA (b:=4294967296) h,fun h=>mul64 hA ?_⟩
 have h3:p*b<=4294967295*4294967295:=Nat.mul_le_mul (by omega) (by omega)
 exact(Nat.mod_eq_of_lt (by omega)).symm
theorem start_words(hA:A=Ar.real){a w g0 r0 X:Nat}(hw:w<0x10000000000000000)(hg0:g0=w/a)(hr0:r0=w%a)(hX:X=g0*a):
 A.bin .quo .u64 (Int.ofNat w) (Int.ofNat a)=Int.ofNat g0/\A.bin .mul .u64 (Int.ofNat g0) (Int.ofNat a)=Int.ofNat X/\A.bin .sub .u64 (Int.ofNat w) (Int.ofNat X)=Int.ofNat r0:=by
 have e:=Nat.div_add_mod w a
 rw[<-hg0,<-hr0,Nat.mul_comm,<-hX]at e
 exact⟨quo64 hA hw hg0,mul64 hA (by rw[<-hX];omega),sub64 hA (by omega) (by omega)⟩
theorem rest_words(hA:A=Ar.real){w v Q Y t:Nat}(hQ:Q<4294967296)(hY:Y<0x10000000000000000)(ht:t<Y)(e:Q*Y+t=w*4294967296+v):
 ∃N1 N2 N3:Nat,A.bin .mul .u64 (Int.ofNat w) 4294967296=Int.ofNat N1/\A.bin .add .u64 (Int.ofNat N1) (Int.ofNat v)=Int.ofNat N2/\A.bin .mul .u64 (Int.ofNat Q) (Int.ofNat Y)=Int.ofNat N3/\A.bin .sub .u64 (Int.ofNat N2) (Int.ofNat N3)=Int.ofNat t:=by
 refine⟨w*4294967296%0x10000000000000000,(w*4294967296%0x10000000000000000+v)%0x10000000000000000,Q*Y%0x10000000000000000,mul64 hA (b:=4294967296) rfl,add64 hA rfl,mul64 hA rfl,sub64 hA (by omega) ?_⟩
 generalize Q*Y=Z at *
 omega
theorem split32(x:Nat):x/4294967296*4294967296+x%4294967296=x:=by omega
theorem split96(u lo:Nat):u*0x10000000000000000+lo=(u*4294967296+lo/4294967296)*4294967296+lo%4294967296:=by omega
theorem top_lt{u v y:Nat}(h:u<y)(hv:v<4294967296):u*4294967296+v<4294967296*y:=by omega
theorem div64_core{N S y y' u lo q r:Nat}(hS:0<S)(hy':y'=y*S)(hN:N*S=u*0x10000000000000000+lo)(huy:u<y')(hlo:lo<0x10000000000000000)(hq:q=N/y)(hr:r=N%y):
 ∃Q1 t Q0 z:Nat,Q1=(u*4294967296+lo/4294967296)/y'/\Q1<4294967296/\t<y'/\Q1*y'+t=u*4294967296+lo/4294967296/\Q0=(t*4294967296+lo%4294967296)/y'/\Q0<4294967296/\z<y'/\Q0*y'+z=t*4294967296+lo%4294967296/\q=Q1*4294967296+Q0/\r*S=z:=by
 have h0:0<y':=Nat.lt_of_le_of_lt (Nat.zero_le _) huy
 have hv1:lo/4294967296<4294967296:=by omega
 have hv0:lo%4294967296<4294967296:=Nat.mod_lt _ (by decide)
 have htl:=Nat.mod_lt (u*4294967296+lo/4294967296) h0
 refine⟨_,(u*4294967296+lo/4294967296)%y',_,(((u*4294967296+lo/4294967296)%y')*4294967296+lo%4294967296)%y',rfl,?_,htl,?_,rfl,?_,Nat.mod_lt _ h0,?_,?_,?_⟩
 ·rw[Nat.div_lt_iff_lt_mul h0];exact top_lt huy hv1
 ·rw[Nat.mul_comm];exact Nat.div_add_mod _ _
 ·rw[Nat.div_lt_iff_lt_mul h0];exact top_lt htl hv0
 ·rw[Nat.mul_comm];exact Nat.div_add_mod _ _
 ·rw[<-(two_digits (x:=u*4294967296+lo/4294967296) (c:=lo%4294967296) (B:=4294967296) h0).1,<-split96,<-hN,hy',Nat.mul_div_mul_right _ _ hS,hq]
 ·rw[<-(two_digits (x:=u*4294967296+lo/4294967296) (c:=lo%4294967296) (B:=4294967296) h0).2,<-split96,<-hN,hy',Nat.mul_mod_mul_right,hr]
theorem q_words{Q1 Q0 q:Nat}(h1:Q1<4294967296)(h0:Q0<4294967296)(hq:q=Q1*4294967296+Q0):Q1*4294967296=Q1*4294967296%0x10000000000000000/\q=(Q1*4294967296+Q0)%0x10000000000000000:=by omega
theorem top_word{y:Nat}(h:y<0x10000000000000000)(h2:9223372036854775808<=y):2147483648<=y/4294967296/\y/4294967296<4294967296:=by omega
theorem low_word{y:Nat}(h:y<0x10000000000000000):y/4294967296<4294967296:=by omega
theorem div64_words(hA:A=Ar.real){x1 x0 y q r k s:Nat}(hy:y<0x10000000000000000)(hx1:x1<y)(hx0:x0<0x10000000000000000)(hq:q=(x1*0x10000000000000000+x0)/y)(hr:r=(x1*0x10000000000000000+x0)%y)(hk:IsBl y k)(hs:s=64-k):
 s<=64/\∃s' y' hi mi lo u a b v1 v0 Q1 t Q0 z z' q':Nat,(A.cvt .u64 (Int.ofNat s)=Int.ofNat s/\A.sh .shl .u64 (Int.ofNat y) (Int.ofNat s)=Int.ofNat y'/\A.sh .shr .u64 (Int.ofNat y') 32=Int.ofNat a/\A.bin .and .u64 (Int.ofNat y') 4294967295=Int.ofNat b/\
   A.sh .shl .u64 (Int.ofNat x1) (Int.ofNat s)=Int.ofNat hi/\A.bin .sub .u64 64 (Int.ofNat s)=Int.ofNat s'/\A.sh .shr .u64 (Int.ofNat x0) (Int.ofNat s')=Int.ofNat mi/\A.bin .or .u64 (Int.ofNat hi) (Int.ofNat mi)=Int.ofNat u/\
   A.sh .shl .u64 (Int.ofNat x0) (Int.ofNat s)=Int.ofNat lo/\A.sh .shr .u64 (Int.ofNat lo) 32=Int.ofNat v1/\A.bin .and .u64 (Int.ofNat lo) 4294967295=Int.ofNat v0/\A.sh .shr .u64 (Int.ofNat z) (Int.ofNat s)=Int.ofNat z'/\A.bin .mul .u64 (Int.ofNat Q1) 4294967296=Int.ofNat q'/\A.bin .add .u64 (Int.ofNat q') (Int.ofNat Q0)=Int.ofNat q)/\
   a*4294967296+b=y'/\y'<0x10000000000000000/\2147483648<=a/\a<4294967296/\b<4294967296/\v1<4294967296/\v0<4294967296/\u<y'/\Q1=(u*4294967296+v1)/(a*4294967296+b)/\Q1<4294967296/\t<y'/\Q1*y'+t=u*4294967296+v1/\
   Q0=(t*4294967296+v0)/(a*4294967296+b)/\Q0<4294967296/\z<y'/\Q0*y'+z=t*4294967296+v0/\r=z':=by
 have hk64:k<=64:=Nat.le_of_not_lt fun h3=>by
  have h4:=hk.2 (by omega)
  have h5:=Nat.pow_le_pow_right (show 0<2 by decide) (show 64<=k-1 by omega)
  omega
 have hk0:0<k:=by
  rcases Nat.eq_zero_or_pos k with h|h
  ·subst h;have:=hk.1;simp at this;omega
  ·exact h
 have hpk:2^k*2^s=0x10000000000000000:=by rw[<-Nat.pow_add,show k+s=64 by omega]
 have hpk1:2^(k-1)*2^s=9223372036854775808:=by rw[<-Nat.pow_add,show k-1+s=63 by omega]
 have hps:2^(64-s)*2^s=0x10000000000000000:=by rw[<-Nat.pow_add,show 64-s+s=64 by omega]
 have h2s:0<2^s:=Nat.pow_pos (by decide)
 have h2s':0<2^(64-s):=Nat.pow_pos (by decide)
 have hy'lt:y*2^s<0x10000000000000000:=by rw[<-hpk];exact Nat.mul_lt_mul_of_pos_right hk.1 h2s
 have hy'ge:9223372036854775808<=y*2^s:=by rw[<-hpk1];exact Nat.mul_le_mul_right _ (hk.2 hk0)
 have hmilt:x0/2^(64-s)<2^s:=by rw[Nat.div_lt_iff_lt_mul h2s',Nat.mul_comm,hps];exact hx0
 have hhi1:x1*2^s+2^s<=y*2^s:=by
  have:=Nat.mul_le_mul_right (2^s) (show x1+1<=y from hx1)
  rwa [Nat.add_mul,Nat.one_mul]at this
 have hlo2:x0*2^s=x0/2^(64-s)*0x10000000000000000+x0*2^s%0x10000000000000000:=by
  have e:=Nat.div_add_mod (x0*2^s) 0x10000000000000000
  have e2:x0*2^s/0x10000000000000000=x0/2^(64-s):=by rw[<-hps,Nat.mul_div_mul_right _ _ h2s]
  rw[e2]at e
  omega
 have hor:x1*2^s|||x0/2^(64-s)=x1*2^s+x0/2^(64-s):=or_add hmilt
 have hN:(x1*0x10000000000000000+x0)*2^s=(x1*2^s+x0/2^(64-s))*0x10000000000000000+x0*2^s%0x10000000000000000:=by
  rw[Nat.add_mul,hlo2,Nat.mul_right_comm];omega
 obtain⟨y',hy'⟩:=exq (y*2^s)
 obtain⟨hi,hhi⟩:=exq (x1*2^s)
 obtain⟨mi,hmi⟩:=exq (x0/2^(64-s))
 obtain⟨lo,hlo⟩:=exq (x0*2^s%0x10000000000000000)
 obtain⟨u,hu⟩:=exq (hi+mi)
 have hlolt:lo<0x10000000000000000:=by rw[hlo];exact Nat.mod_lt _ (by decide)
 rw[<-hy']at hy'lt hy'ge hhi1
 rw[<-hmi]at hmilt hor hN
 rw[<-hhi]at hhi1 hor hN
 rw[<-hlo,<-hu]at hN
 rw[<-hu]at hor
 have hs64:s<64:=by omega
 have hhi2:hi<0x10000000000000000:=by omega
 have hmi2:mi<0x10000000000000000:=by omega
 have huy:u<y':=by omega
 obtain⟨Q1,t,Q0,z,g1,g2,g3,g4,g5,g6,g7,g8,g9,g10⟩:=div64_core h2s hy' hN huy hlolt hq hr
 obtain⟨w1,w2⟩:=q_words g2 g6 g9
 obtain⟨w3,w4⟩:=top_word hy'lt hy'ge
 have w5:=split32 y'
 refine⟨Nat.le_of_lt hs64,64-s,y',hi,mi,lo,u,y'/4294967296,y'%4294967296,lo/4294967296,lo%4294967296,Q1,t,Q0,z,z/2^s,Q1*4294967296,
  ⟨cvtI hA (fun h=>by cases h) (fun _=>by rw[p64];exact Nat.lt_trans hs64 (by decide)),shl64 hA (Nat.le_of_lt hs64) (by rw[<-hy'];exact(Nat.mod_eq_of_lt hy'lt).symm),shr64 hA (s:=32) (by decide) rfl,and64 hA (b:=4294967295) hy'lt (by decide) (Nat.and_two_pow_sub_one_eq_mod y' 32).symm,
   shl64 hA (Nat.le_of_lt hs64) (by rw[<-hhi];exact(Nat.mod_eq_of_lt hhi2).symm),sub64 hA (a:=64) (Nat.le_trans (Nat.le_of_lt hs64) (by decide)) ?_,shr64 hA (Nat.sub_le 64 s) hmi,or64 hA hhi2 hmi2 hor.symm,shl64 hA (Nat.le_of_lt hs64) hlo,shr64 hA (s:=32) (by decide) rfl,and64 hA (b:=4294967295) hlolt (by decide) (Nat.and_two_pow_sub_one_eq_mod lo 32).symm,
   shr64 hA (Nat.le_of_lt hs64) rfl,mul64 hA (b:=4294967296) w1,add64 hA w2⟩,
  w5,hy'lt,w3,w4,Nat.mod_lt _ (by decide),low_word hlolt,Nat.mod_lt _ (by decide),huy,by rw[w5];exact g1,g2,g3,g4,by rw[w5];exact g5,g6,g7,g8,?_⟩
 ·clear hN hor hy' hhi hmi hlo hu g1 g2 g3 g4 g5 g6 g7 g8 g9 g10 w1 w2 w3 w4 w5 hpk hpk1 hps hlo2 hq hr hhi1 huy hmilt h2s h2s'
  omega
 ·rw[<-g10,Nat.mul_div_cancel _ h2s]
end
theorem cDiv64{P:Program}(hP:P=Tryz.prog)(x1 x0 y q r:Nat)(hy:y<0x10000000000000000)(hx1:x1<y)(hx0:x0<0x10000000000000000)(hq:q=(x1*0x10000000000000000+x0)/y)(hr:r=(x1*0x10000000000000000+x0)%y):
 Con P 182 [.int .u64 (.ofNat x1),.int .u64 (.ofNat x0),.int .u64 (.ofNat y)] [] 0 [] (fun v _ _=>v= .tup [.int .u64 (.ofNat q),.int .u64 (.ofNat r)]):=by
 refine cof hP Tryz.func182 (bdb _ rfl) (bkb rfl) ?_
 intro A g K hA hg hK
 obtain⟨bin,_,cmp,_,_,_,nn,nz⟩:=A
 have hy0:0<y:=by omega
 have z1:cmp .eql (.ofNat y) 0=false:=(eqlI hA y 0).trans (decide_eq_false (by omega))
 have z2:cmp .leq (.ofNat y) (.ofNat x1)=false:=(leqI hA y x1).trans (decide_eq_false (by omega))
 have z3:cmp .eql (.ofNat x1) 0=decide (x1=0):=eqlI hA x1 0
 have zn:∀x,x≠0->nz (.ofNat x)=true:=fun x h=>nz_of hA (by intro e;exact h (Int.ofNat.inj e))
 have zs:∀x,nn (.ofNat x)=true:=fun x=>by
  have:nn=fun i=>decide (0<=i):=congrArg Ar.nn hA
  rw[this];exact decide_eq_true (Int.natCast_nonneg x)
 cbv
 rw[z1]
 cbv
 rw[z2]
 cbv
 rw[z3]
 by_cases h0:x1=0
 ·rw[decide_eq_true h0]
  subst h0
  rw[Nat.zero_mul,Nat.zero_add]at hq hr
  have e1:bin .quo .u64 (.ofNat x0) (.ofNat y)=Int.ofNat q:=quo64 hA hx0 hq
  have e2:bin .rem .u64 (.ofNat x0) (.ofNat y)=Int.ofNat r:=(remW hA x0 y).trans (by rw[hr])
  cbv
  refine rgM hP hA hg fun mk _=> ?_
  cbv
  rw[zn y (by omega)]
  cbv
  rw[e1]
  rw[zn y (by omega)]
  cbv
  rw[e2]
  exact hK _ _ _ rfl
 ·rw[decide_eq_false h0]
  obtain⟨k,hk⟩:=bl_ex y
  obtain⟨s,hs⟩:=exq (64-k)
  obtain⟨hs64,s',y',hi,mi,lo,u,a,b,v1,v0,Q1,t,Q0,z,z',q',hw,hyab,hy',ha,ha2,hb,hv1l,hv0l,huy,hQ1,hQ1l,htl,et,hQ0,hQ0l,hzl,ez,hrz⟩:=div64_words hA hy hx1 hx0 hq hr hk hs
  obtain⟨m1,m2,m3,m4,m5,m6,m7,m8,m9,m10,m11,m12,m13,m14⟩:=hw
  dsimp only at m1 m2 m3 m4 m5 m6 m7 m8 m9 m10 m11 m12 m13 m14
  have hul:u<0x10000000000000000:=by omega
  have htl2:t<0x10000000000000000:=by omega
  have ha0:a≠0:=by omega
  have hua:u<a*4294967296+b:=by rw[hyab];exact huy
  have hta:t<a*4294967296+b:=by rw[hyab];exact htl
  obtain⟨N1,N2,N3,n1,n2,n3,n4⟩:=rest_words hA hQ1l hy' htl et
  obtain⟨N4,N5,N6,n5,n6,n7,n8⟩:=rest_words hA hQ0l hy' hzl ez
  dsimp only at n1 n2 n3 n4 n5 n6 n7 n8
  clear hq hr z1 z2 z3 et ez hzl huy htl
  cbv
  refine cva rfl hg rfl rfl (cLz64 hP y k hy hk) ?_
  rintro _ _ _ rfl
  rw[<-hs]
  cbv
  rw[m1]
  rw[zs s]
  cbv
  rw[m2,m3,m4,zs s]
  cbv
  rw[m5,m6,zs s']
  cbv
  rw[m7,m8,zs s]
  cbv
  rw[m9,m10,m11,zn a ha0]
  cbv
  obtain⟨g0,hg0⟩:=exq (u/a)
  obtain⟨r0,hr0⟩:=exq (u%a)
  obtain⟨X,hX⟩:=exq (g0*a)
  obtain⟨e1,e2,e3⟩:=start_words hA hul hg0 hr0 hX
  dsimp only at e1 e2 e3
  rw[e1,e2,e3]
  have hG:=guess_start ha ha2 hb hv1l (u:=u) (v:=v1) hua
  rw[<-hg0,<-hr0,<-hQ1]at hG
  clear hg0 hr0 hX e1 e2 e3
  refine lpb (Nat×Nat) (fun s=>Guess a u Q1 s.1 s.2) (fun s=>s.1) (fun s=> [(15,.int .u64 (.ofNat s.1)),(16,.int .u64 (.ofNat s.2))]) [2,8,9,10,11,13,14] (fun _=> []) (g0,r0) hG ?_ ?_
  ·exact wkid
  rintro⟨p,ρ⟩ hG
  have hG:Guess a u Q1 p ρ:=hG
  obtain⟨Z,Y,Y',ρ',p',hZ,hYd,hρ',hp',c1,c1',c3,c4,c5,c5',c6,c7,c8,c8',c2⟩:=guess_words hA hG ha2 hb hv1l
  dsimp only at c1 c1' c2 c3 c4 c5 c5' c6 c7 c8 c8'
  cbv
  by_cases h1:4294967296<=p
  ·rw[c1 h1]
   have hd:=guess_dec' (b:=b) (v:=v1) (r:=ρ) hQ1 ha hQ1l hG (Or.inl h1)
   have d1:=hd.1
   have d2:=hd.2.1
   have d3:=hd.2.2.1
   have d4:=hd.2.2.2
   clear hd
   rw[<-hρ']at d2
   cbv
   rw[c6 d1,c7]
   rw[<-hp']at d2 d3 d4
   by_cases hbr:4294967296<=ρ'
   ·rw[c8 hbr]
    have hpQ:p'=Q1:=guess_break' hQ1 ha hb d2 d3 d4 hbr
    cbv
    rw[hpQ]
    clear hpQ
    rw[n1,n2,n3,n4,zn a ha0]
    cbv
    obtain⟨g0,hg0⟩:=exq (t/a)
    obtain⟨r0,hr0⟩:=exq (t%a)
    obtain⟨X,hX⟩:=exq (g0*a)
    obtain⟨e1,e2,e3⟩:=start_words hA htl2 hg0 hr0 hX
    dsimp only at e1 e2 e3
    rw[e1,e2,e3]
    have hG:=guess_start ha ha2 hb hv0l (u:=t) (v:=v0) hta
    rw[<-hg0,<-hr0,<-hQ0]at hG
    clear hg0 hr0 hX e1 e2 e3
    refine lpb (Nat×Nat) (fun s=>Guess a t Q0 s.1 s.2) (fun s=>s.1) (fun s=> [(18,.int .u64 (.ofNat s.1)),(16,.int .u64 (.ofNat s.2))]) [2,8,9,10,14,15,17] (fun _=> []) (g0,r0) hG ?_ ?_
    ·exact wkid
    rintro⟨p,ρ⟩ hG
    have hG:Guess a t Q0 p ρ:=hG
    obtain⟨Z,Y,Y',ρ',p',hZ,hYd,hρ',hp',c1,c1',c3,c4,c5,c5',c6,c7,c8,c8',c2⟩:=guess_words hA hG ha2 hb hv0l
    dsimp only at c1 c1' c2 c3 c4 c5 c5' c6 c7 c8 c8'
    cbv
    by_cases h1:4294967296<=p
    ·rw[c1 h1]
     have hd:=guess_dec' (b:=b) (v:=v0) (r:=ρ) hQ0 ha hQ0l hG (Or.inl h1)
     have d1:=hd.1
     have d2:=hd.2.1
     have d3:=hd.2.2.1
     have d4:=hd.2.2.2
     clear hd
     rw[<-hρ']at d2
     cbv
     rw[c6 d1,c7]
     rw[<-hp']at d2 d3 d4
     by_cases hbr:4294967296<=ρ'
     ·rw[c8 hbr]
      have hpQ:p'=Q0:=guess_break' hQ0 ha hb d2 d3 d4 hbr
      cbv
      rw[hpQ]
      rw[m13,m14,n5,n6,n7,n8,zs s]
      cbv
      rw[m12,<-hrz]
      exact hK _ _ _ rfl
     ·rw[c8' hbr]
      cbv
      refine⟨(p',ρ'),id,⟨d2,d3,Nat.le_succ_of_le d4,Nat.lt_of_not_le hbr⟩,(by show p'<p;rw[hp'];exact Nat.sub_lt d1 (by decide)),?_⟩
      exact wkid
    ·rw[c1' h1]
     have c2:=c2 (Nat.lt_of_not_le h1)
     cbv
     rw[c2,c3,c4]
     by_cases h2:Y'<Z
     ·rw[c5 h2]
      rw[hZ,hYd]at h2
      have hd:=guess_dec' (b:=b) (v:=v0) (r:=ρ) hQ0 ha hQ0l hG (Or.inr h2)
      have d1:=hd.1
      have d2:=hd.2.1
      have d3:=hd.2.2.1
      have d4:=hd.2.2.2
      clear hd
      rw[<-hρ']at d2
      cbv
      rw[c6 d1,c7]
      rw[<-hp']at d2 d3 d4
      by_cases hbr:4294967296<=ρ'
      ·rw[c8 hbr]
       have hpQ:p'=Q0:=guess_break' hQ0 ha hb d2 d3 d4 hbr
       cbv
       rw[hpQ]
       rw[m13,m14,n5,n6,n7,n8,zs s]
       cbv
       rw[m12,<-hrz]
       exact hK _ _ _ rfl
      ·rw[c8' hbr]
       cbv
       refine⟨(p',ρ'),id,⟨d2,d3,Nat.le_succ_of_le d4,Nat.lt_of_not_le hbr⟩,(by show p'<p;rw[hp'];exact Nat.sub_lt d1 (by decide)),?_⟩
       exact wkid
     ·rw[c5' h2]
      rw[hZ,hYd]at h2
      have hpQ:p=Q0:=guess_done' hQ0 ha hG (Nat.le_of_not_lt h2)
      cbv
      rw[hpQ]
      rw[m13,m14,n5,n6,n7,n8,zs s]
      cbv
      rw[m12,<-hrz]
      exact hK _ _ _ rfl
   ·rw[c8' hbr]
    cbv
    refine⟨(p',ρ'),id,⟨d2,d3,Nat.le_succ_of_le d4,Nat.lt_of_not_le hbr⟩,(by show p'<p;rw[hp'];exact Nat.sub_lt d1 (by decide)),?_⟩
    exact wkid
  ·rw[c1' h1]
   have c2:=c2 (Nat.lt_of_not_le h1)
   cbv
   rw[c2,c3,c4]
   by_cases h2:Y'<Z
   ·rw[c5 h2]
    rw[hZ,hYd]at h2
    have hd:=guess_dec' (b:=b) (v:=v1) (r:=ρ) hQ1 ha hQ1l hG (Or.inr h2)
    have d1:=hd.1
    have d2:=hd.2.1
    have d3:=hd.2.2.1
    have d4:=hd.2.2.2
    clear hd
    rw[<-hρ']at d2
    cbv
    rw[c6 d1,c7]
    rw[<-hp']at d2 d3 d4
    by_cases hbr:4294967296<=ρ'
    ·rw[c8 hbr]
     have hpQ:p'=Q1:=guess_break' hQ1 ha hb d2 d3 d4 hbr
     cbv
     rw[hpQ]
     clear hpQ
     rw[n1,n2,n3,n4,zn a ha0]
     cbv
     obtain⟨g0,hg0⟩:=exq (t/a)
     obtain⟨r0,hr0⟩:=exq (t%a)
     obtain⟨X,hX⟩:=exq (g0*a)
     obtain⟨e1,e2,e3⟩:=start_words hA htl2 hg0 hr0 hX
     dsimp only at e1 e2 e3
     rw[e1,e2,e3]
     have hG:=guess_start ha ha2 hb hv0l (u:=t) (v:=v0) hta
     rw[<-hg0,<-hr0,<-hQ0]at hG
     clear hg0 hr0 hX e1 e2 e3
     refine lpb (Nat×Nat) (fun s=>Guess a t Q0 s.1 s.2) (fun s=>s.1) (fun s=> [(18,.int .u64 (.ofNat s.1)),(16,.int .u64 (.ofNat s.2))]) [2,8,9,10,14,15,17] (fun _=> []) (g0,r0) hG ?_ ?_
     ·exact wkid
     rintro⟨p,ρ⟩ hG
     have hG:Guess a t Q0 p ρ:=hG
     obtain⟨Z,Y,Y',ρ',p',hZ,hYd,hρ',hp',c1,c1',c3,c4,c5,c5',c6,c7,c8,c8',c2⟩:=guess_words hA hG ha2 hb hv0l
     dsimp only at c1 c1' c2 c3 c4 c5 c5' c6 c7 c8 c8'
     cbv
     by_cases h1:4294967296<=p
     ·rw[c1 h1]
      have hd:=guess_dec' (b:=b) (v:=v0) (r:=ρ) hQ0 ha hQ0l hG (Or.inl h1)
      have d1:=hd.1
      have d2:=hd.2.1
      have d3:=hd.2.2.1
      have d4:=hd.2.2.2
      clear hd
      rw[<-hρ']at d2
      cbv
      rw[c6 d1,c7]
      rw[<-hp']at d2 d3 d4
      by_cases hbr:4294967296<=ρ'
      ·rw[c8 hbr]
       have hpQ:p'=Q0:=guess_break' hQ0 ha hb d2 d3 d4 hbr
       cbv
       rw[hpQ]
       rw[m13,m14,n5,n6,n7,n8,zs s]
       cbv
       rw[m12,<-hrz]
       exact hK _ _ _ rfl
      ·rw[c8' hbr]
       cbv
       refine⟨(p',ρ'),id,⟨d2,d3,Nat.le_succ_of_le d4,Nat.lt_of_not_le hbr⟩,(by show p'<p;rw[hp'];exact Nat.sub_lt d1 (by decide)),?_⟩
       exact wkid
     ·rw[c1' h1]
      have c2:=c2 (Nat.lt_of_not_le h1)
      cbv
      rw[c2,c3,c4]
      by_cases h2:Y'<Z
      ·rw[c5 h2]
       rw[hZ,hYd]at h2
       have hd:=guess_dec' (b:=b) (v:=v0) (r:=ρ) hQ0 ha hQ0l hG (Or.inr h2)
       have d1:=hd.1
       have d2:=hd.2.1
       have d3:=hd.2.2.1
       have d4:=hd.2.2.2
       clear hd
       rw[<-hρ']at d2
       cbv
       rw[c6 d1,c7]
       rw[<-hp']at d2 d3 d4
       by_cases hbr:4294967296<=ρ'
       ·rw[c8 hbr]
        have hpQ:p'=Q0:=guess_break' hQ0 ha hb d2 d3 d4 hbr
        cbv
        rw[hpQ]
        rw[m13,m14,n5,n6,n7,n8,zs s]
        cbv
        rw[m12,<-hrz]
        exact hK _ _ _ rfl
       ·rw[c8' hbr]
        cbv
        refine⟨(p',ρ'),id,⟨d2,d3,Nat.le_succ_of_le d4,Nat.lt_of_not_le hbr⟩,(by show p'<p;rw[hp'];exact Nat.sub_lt d1 (by decide)),?_⟩
        exact wkid
      ·rw[c5' h2]
       rw[hZ,hYd]at h2
       have hpQ:p=Q0:=guess_done' hQ0 ha hG (Nat.le_of_not_lt h2)
       cbv
       rw[hpQ]
       rw[m13,m14,n5,n6,n7,n8,zs s]
       cbv
       rw[m12,<-hrz]
       exact hK _ _ _ rfl
    ·rw[c8' hbr]
     cbv
     refine⟨(p',ρ'),id,⟨d2,d3,Nat.le_succ_of_le d4,Nat.lt_of_not_le hbr⟩,(by show p'<p;rw[hp'];exact Nat.sub_lt d1 (by decide)),?_⟩
     exact wkid
   ·rw[c5' h2]
    rw[hZ,hYd]at h2
    have hpQ:p=Q1:=guess_done' hQ1 ha hG (Nat.le_of_not_lt h2)
    cbv
    rw[hpQ]
    clear hpQ
    rw[n1,n2,n3,n4,zn a ha0]
    cbv
    obtain⟨g0,hg0⟩:=exq (t/a)
    obtain⟨r0,hr0⟩:=exq (t%a)
    obtain⟨X,hX⟩:=exq (g0*a)
    obtain⟨e1,e2,e3⟩:=start_words hA htl2 hg0 hr0 hX
    dsimp only at e1 e2 e3
    rw[e1,e2,e3]
    have hG:=guess_start ha ha2 hb hv0l (u:=t) (v:=v0) hta
    rw[<-hg0,<-hr0,<-hQ0]at hG
    clear hg0 hr0 hX e1 e2 e3
    refine lpb (Nat×Nat) (fun s=>Guess a t Q0 s.1 s.2) (fun s=>s.1) (fun s=> [(18,.int .u64 (.ofNat s.1)),(16,.int .u64 (.ofNat s.2))]) [2,8,9,10,14,15,17] (fun _=> []) (g0,r0) hG ?_ ?_
    ·exact wkid
    rintro⟨p,ρ⟩ hG
    have hG:Guess a t Q0 p ρ:=hG
    obtain⟨Z,Y,Y',ρ',p',hZ,hYd,hρ',hp',c1,c1',c3,c4,c5,c5',c6,c7,c8,c8',c2⟩:=guess_words hA hG ha2 hb hv0l
    dsimp only at c1 c1' c2 c3 c4 c5 c5' c6 c7 c8 c8'
    cbv
    by_cases h1:4294967296<=p
    ·rw[c1 h1]
     have hd:=guess_dec' (b:=b) (v:=v0) (r:=ρ) hQ0 ha hQ0l hG (Or.inl h1)
     have d1:=hd.1
     have d2:=hd.2.1
     have d3:=hd.2.2.1
     have d4:=hd.2.2.2
     clear hd
     rw[<-hρ']at d2
     cbv
     rw[c6 d1,c7]
     rw[<-hp']at d2 d3 d4
     by_cases hbr:4294967296<=ρ'
     ·rw[c8 hbr]
      have hpQ:p'=Q0:=guess_break' hQ0 ha hb d2 d3 d4 hbr
      cbv
      rw[hpQ]
      rw[m13,m14,n5,n6,n7,n8,zs s]
      cbv
      rw[m12,<-hrz]
      exact hK _ _ _ rfl
     ·rw[c8' hbr]
      cbv
      refine⟨(p',ρ'),id,⟨d2,d3,Nat.le_succ_of_le d4,Nat.lt_of_not_le hbr⟩,(by show p'<p;rw[hp'];exact Nat.sub_lt d1 (by decide)),?_⟩
      exact wkid
    ·rw[c1' h1]
     have c2:=c2 (Nat.lt_of_not_le h1)
     cbv
     rw[c2,c3,c4]
     by_cases h2:Y'<Z
     ·rw[c5 h2]
      rw[hZ,hYd]at h2
      have hd:=guess_dec' (b:=b) (v:=v0) (r:=ρ) hQ0 ha hQ0l hG (Or.inr h2)
      have d1:=hd.1
      have d2:=hd.2.1
      have d3:=hd.2.2.1
      have d4:=hd.2.2.2
      clear hd
      rw[<-hρ']at d2
      cbv
      rw[c6 d1,c7]
      rw[<-hp']at d2 d3 d4
      by_cases hbr:4294967296<=ρ'
      ·rw[c8 hbr]
       have hpQ:p'=Q0:=guess_break' hQ0 ha hb d2 d3 d4 hbr
       cbv
       rw[hpQ]
       rw[m13,m14,n5,n6,n7,n8,zs s]
       cbv
       rw[m12,<-hrz]
       exact hK _ _ _ rfl
      ·rw[c8' hbr]
       cbv
       refine⟨(p',ρ'),id,⟨d2,d3,Nat.le_succ_of_le d4,Nat.lt_of_not_le hbr⟩,(by show p'<p;rw[hp'];exact Nat.sub_lt d1 (by decide)),?_⟩
       exact wkid
     ·rw[c5' h2]
      rw[hZ,hYd]at h2
      have hpQ:p=Q0:=guess_done' hQ0 ha hG (Nat.le_of_not_lt h2)
      cbv
      rw[hpQ]
      rw[m13,m14,n5,n6,n7,n8,zs s]
      cbv
      rw[m12,<-hrz]
      exact hK _ _ _ rfl
end Go.Proofs.YtdhmihfefgcbeaaGreat
