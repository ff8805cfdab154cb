/-
  This text proves what these texts prove: Ia, Ib, Ok, Ol, Om, Ic, Id, On, Njn. Conditions: those of each theorem.
-/
import Derived.Test.YtfocopihipejfaaGreatB19
import Derived.Test.YtfocopihipejfaaGreatB16
import Derived.Test.YtfocopihipejfaaGreatB10
set_option maxHeartbeats 8000000
set_option linter.all false
namespace Go.Vg
open Go.RowKit
theorem VX{P:Program}{T:Nat->Option Ty}(hT:cI P T){t:Nat}{i:Ty}(ht:T t=some i)(hd:i.d= .s)(s:ByteArray){k:IntKind}{j:Nat}(hj:j<=s.size):oF P t (.str s) none (some (k,Int.ofNat j)) (.str (s.extract 0 j)):=by
 have hu:=A7 hT ht hd
 refine⟨fun β W=> ?_,fun p h=>h⟩
 show(Instr.sliceAt t (.string s) none (some (.int k (Int.ofNat j))) none).run P W=_
 rw[run_sliceAt_string W t _ _ _ _ hu,run_slice_string_to_if W t s k (Int.ofNat j) hu,aj ⟨by simp,by simpa using hj⟩]
 rfl
theorem H0(s:ByteArray)(j:Nat):bl (s.extract 0 j)=(bl s).take j:=by
 unfold bl
 rw[ByteArray.data_extract,Array.toList_extract,<-List.map_take]
 simp[List.extract]
end Go.Vg
namespace Sh
theorem zP(id:Nat)(k:List Nat):∀j v,gen id k (j+1) v=((gen id k j v).1++jY id k (gen id k j v).2,jY id k (gen id k j v).2)
 |0,v=>by simp[gen]
 |j+1,v=>by
  rw[gen,zP id k j (jY id k v)]
  simp only[gen,jA]
theorem Rv{id:Nat}(h:1<=id/\id<=4)(k:List Nat)(v:List Nat):∀j,(gen id k j v).1.length=j*size id
 |0=>by simp[gen]
 |j+1=>by rw[zP];simp only[dI,Rv h k v j,BO h,HJ]
theorem Rw{id:Nat}(h:1<=id/\id<=4)(k:List Nat)(v:List Nat)(hv:v.length=size id):∀j,(gen id k j v).2.length=size id
 |0=>by simp[gen,hv]
 |j+1=>by rw[zP];exact BO h _ _
theorem Ru(id:Nat)(k:List Nat)(v:List Nat)(hv:∀x∈v,x<256):∀j,∀x∈(gen id k j v).2,x<256
 |0=>by simpa [gen]using hv
 |j+1=>by rw[zP];exact rj _ _ _
theorem IA(id:Nat)(k:List Nat)(v:List Nat):∀j,∀x∈(gen id k j v).1,x<256
 |0=>by simp[gen]
 |j+1=>by
  rw[zP]
  intro x hx
  rcases List.mem_append.1 hx with hx|hx
  ·exact IA id k v j x hx
  ·exact rj _ _ _ x hx
end Sh
namespace Go.Proofs.YtfocopihipejfaaGreat
open Go.Vg Go.RowKit
set_option maxRecDepth 200000
set_option cbv.maxSteps 100000000
theorem arO{P:Program}(hP:P=Tryz.prog)(id n:Nat)(k v:ByteArray):ah P 40 [.ptr 0 0] [⟨0,[.int .i64 (.ofNat id),.str k,.str v,.int .i64 (.ofNat n)],134⟩] 1 [] (fun w _ _=>w= .int .i64 (.ofNat n)):=by
 refine aq hP Tryz.func40 ⟨(by show 0<1;decide),trivial⟩ (aD rfl) ?_
 intro A g K hA hg hK
 cases A
 cbv
 exact hK _ _ _ rfl
theorem afW{P:Program}(hP:P=Tryz.prog)(id:Nat)(hid:1<=id/\id<=4)(e a b:ByteArray)(he:Sh.size id/2<=e.size/\e.size<=256)(ha:a.size<=256)(hb:b.size<=256):
 ah P 127 [.int .i64 (.ofNat id),.str e,.slice 0 0 2 2] [⟨0,[.str a,.str b],9⟩] 1 [] (fun w _ _=>w= .int .i64 0):=by
 obtain⟨z,hz⟩:=aa (Sh.size id)
 have jl:=Sh.mQ hid
 have hS:ah P 52 [.int .i64 (.ofNat id)] [] 0 [] (fun v _ _=>v= .int .i64 (.ofNat z)):=by rw[hz];exact Db hP id _ _ _ (HK.at hid)
 obtain⟨es,mB⟩:=aa e.size
 obtain⟨h,hh⟩:=aa (z/2)
 rw[<-hz]at he jl
 refine aq hP Tryz.func127 ⟨trivial,trivial,(by show 0<1;decide),trivial⟩ (aD rfl) ?_
 intro A g K hA hg hK
 obtain⟨bin,_,cmp,_,_,ix,_,_,_,_,_,_,fK,_,nat,off,get⟩:=A
 have f1:fK e=Int.ofNat es:=(lK hA e).trans (by rw[mB])
 have f2:bin .quo .i64 (.ofNat z) 2=Int.ofNat h:=(mO hA (a:=z) (b:=2) (by omega)).trans (by rw[hh])
 have f3:cmp .lss (.ofNat es) (.ofNat h)=false:=bM hA (by omega)
 have f4:cmp .gtr (.ofNat es) 256=false:=jV hA (a:=es) (b:=256) (by omega)
 have f5:∀i,i<2->cmp .lss (.ofNat i) 2=true:=fun i h=>cZ hA (b:=2) h
 have f6:cmp .lss (.ofNat 2) 2=false:=bM hA (a:=2) (b:=2) (by omega)
 have f7:∀i,i<2->bin .add .i64 (.ofNat i) 1=Int.ofNat (i+1):=fun i h=>gP hA (by omega)
 have f8:∀i,i<2->ix (.ofNat i) 2=some i:=fun i h=>bB hA h
 have f9:∀i,off 0 i 1=i:=fun i=>(dh hA 0 i 1).trans (by omega)
 have f10:∀x:ByteArray,fK x=Int.ofNat x.size:=fun x=>lK hA x
 have f11:∀x,x<=256->cmp .gtr (.ofNat x) 256=false:=fun x h=>jV hA (a:=x) (b:=256) (by omega)
 have f12:nat 2=2:=fZ hA 2
 obtain⟨c,hc⟩:=aa (fun i=>if i=0 then a else b:Nat->ByteArray)
 have qj:∀i,(c i).size<=256:=fun i=>by rw[hc];show(if i=0 then a else b).size<=256;split<;>assumption
 have f13:∀i,i<2->get [.str a,.str b] i=some (.str (c i)):=fun i h=>by
  rw[show get [.str a,.str b] i=[SV.str a,SV.str b][i]? from jU hA _ _,hc]
  have:i=0\/i=1:=by omega
  rcases this with rfl|rfl<;>rfl
 cbv
 rw[f1]
 cbv
 refine dJ hg hS ?_
 cbv
 rw[f2]
 cbv
 rw[f3]
 cbv
 rw[f1]
 cbv
 rw[f4]
 cbv
 rw[f12]
 cbv
 refine bH Nat (fun i=>i<=2) (fun i=>2-i) (fun i=> [(22,.int .i64 (.ofNat i))]) [0,1,2,20,21] (fun _=> []) 0 (bf _) ?_ ?_
 ·exact a_
 intro i hi
 by_cases ab:i<2
 ·have Ae:=qj i
  obtain⟨x,hx⟩:=aa ((c i).size)
  have g1:fK (c i)=Int.ofNat x:=(f10 _).trans (by rw[hx])
  rw[<-hx]at Ae
  cbv
  rw[f5 i ab]
  cbv
  rw[f8 i ab]
  cbv
  rw[f9 i,f13 i ab]
  cbv
  rw[g1]
  cbv
  rw[f11 x Ae]
  cbv
  rw[f7 i ab]
  refine⟨i+1,_root_.id,ab,(by show 2-(i+1)<2-i;omega),?_⟩
  exact a_
 ·obtain rfl:i=2:=by omega
  cbv
  rw[f6]
  cbv
  exact hK _ _ _ rfl
theorem afX{P:Program}(hP:P=Tryz.prog)(id:Nat)(jX:1<=id/\id<=2)(e a b:ByteArray)(he:Sh.size id/2<=e.size/\e.size<=256)(ha:a.size<=256)(hb:b.size<=256)(k v:ByteArray)(hk:bl k=(Sh.new id (bl e++bl a++bl b)).k)(hv:bl v=(Sh.new id (bl e++bl a++bl b)).v):
 ah P 80 [.int .i64 (.ofNat id),.str e,.str a,.str b] [] 0 [] (fun w L q=>w= .aR [.ptr 0 0,.int .i64 0]/\L=[⟨0,[.int .i64 (.ofNat id),.str k,.str v,.int .i64 1],134⟩]/\q=1):=by
 have hid:1<=id/\id<=4:=⟨jX.1,eH jX.2 (by decide)⟩
 obtain⟨z,hz⟩:=aa (Sh.size id)
 have jl:=Sh.mQ hid
 rw[<-hz]at jl
 have hS:ah P 52 [.int .i64 (.ofNat id)] [] 0 [] (fun v _ _=>v= .int .i64 (.ofNat z)):=by rw[hz];exact Db hP id _ _ _ (HK.at hid)
 have ai_:=afW hP id hid e a b he ha hb
 obtain⟨k0,fB⟩:∃b,bl b=List.replicate z 0:=⟨ib (List.replicate z 0),gu fun x hx=>by rw[(qM.1 hx).2];decide⟩
 obtain⟨v0,kH⟩:∃b,bl b=List.replicate z 1:=⟨ib (List.replicate z 1),gu fun x hx=>by rw[(qM.1 hx).2];decide⟩
 have ajP:k0.size=z:=by rw[<-bh,fB,jq]
 have akn:v0.size=z:=by rw[<-bh,kH,jq]
 have I2:=MC hP ⟨#[0]⟩ 0 rfl z (by omega) k0 (by rw[fB];rfl)
 have kh:=MC hP ⟨#[1]⟩ 1 rfl z (by omega) v0 (by rw[kH];rfl)
 obtain⟨m1,b_⟩:=aa (e++a)
 obtain⟨m2,cU⟩:=aa (m1++b)
 have TA:m1.size=e.size+a.size:=by rw[b_,r_]
 have TB:m2.size=m1.size+b.size:=by rw[cU,r_]
 have JN:bl m2=bl e++bl a++bl b:=by rw[cU,nO,b_,nO]
 have hU:ah P 82 [.ptr 0 0,.str m2] [⟨0,[.int .i64 (.ofNat id),.str k0,.str v0,.int .i64 1],134⟩] 1 [0] (fun w L q=>w= .aR []/\L=[⟨0,[.int .i64 (.ofNat id),.str k,.str v,.int .i64 1],134⟩]/\q=1):=
  Mu hP id jX k0 v0 m2 1 (by omega) (by omega) (by omega) k v (by rw[hk,JN,fB,kH,hz];rfl) (by rw[hv,JN,fB,kH,hz];rfl)
 refine ah.dj (R:=fun w L q=>∃l,w= .aR [.ptr l 0,.int .i64 0]/\find L l=some ⟨l,[.int .i64 (.ofNat id),.str k,.str v,.int .i64 1],134⟩) ?_ fun w L q ⟨l,h1,h2⟩=>⟨fun _=>l,.aR [.ptr 0 0,.int .i64 0],_,1,by subst h1;exact dH ⟨rfl,rfl,trivial⟩ ⟨h2,rfl,rfl,rfl,trivial⟩ rfl rfl rfl,rfl,rfl,rfl⟩
 clear hk hv fB kH
 refine aq hP Tryz.func80 (ak _ rfl) (aD rfl) ?_
 intro A g K hA hg hK
 obtain⟨_,_,cmp,_,_,_,_,_,_,_,iC⟩:=A
 have e0:cmp .neq 0 0=false:=ow hA (a:=0) (b:=0) rfl
 have e1:cmp .eql (.ofNat z) 0=false:=ja hA (a:=z) (b:=0) (by omega)
 have e2:iC e a=some m1:=(nK hA (by omega)).trans (by rw[b_])
 have e3:iC m1 b=some m2:=(nK hA (by omega)).trans (by rw[cU])
 cbv
 refine dJ hg hS ?_
 cbv
 rw[e1]
 cbv
 refine aZ hg ai_ _root_.id ⟨rfl,trivial⟩ ?_
 cbv
 rw[e0]
 cbv
 refine dJ hg I2 ?_
 cbv
 refine dJ hg kh ?_
 cbv
 rw[e2]
 cbv
 rw[e3]
 cbv
 refine bq hg hU (fun _=>1) ⟨rfl,trivial⟩ ?_
 cbv
 exact hK _ _ _ ⟨1,rfl,rfl⟩
theorem afU{P:Program}(hP:P=Tryz.prog)(id:Nat)(jX:1<=id/\id<=2)(k v m:ByteArray)(n sz:Nat)(jd:k.size=Sh.size id)(iz:v.size=Sh.size id)(oT:m.size<=256)(aJ:sz<=256)(hn:n<=64)(r k' v':ByteArray)(hr:bl r=(Sh.generate ⟨id,bl k,bl v,n⟩ sz (bl m)).1)(dF:bl k'=(Sh.generate ⟨id,bl k,bl v,n⟩ sz (bl m)).2.k)(jv:bl v'=(Sh.generate ⟨id,bl k,bl v,n⟩ sz (bl m)).2.v):
 ah P 36 [.ptr 0 0,.int .i64 (.ofNat sz),.str m] [⟨0,[.int .i64 (.ofNat id),.str k,.str v,.int .i64 (.ofNat n)],134⟩] 1 [0] (fun w L q=>w= .aR [.str r,.int .i64 0]/\L=[⟨0,[.int .i64 (.ofNat id),.str k',.str v',.int .i64 (.ofNat (n+1))],134⟩]/\q=1):=by
 have hid:1<=id/\id<=4:=⟨jX.1,eH jX.2 (by decide)⟩
 refine ah.dj (R:=fun w L q=>w= .aR [.str r,.int .i64 0]/\find L 0=some ⟨0,[.int .i64 (.ofNat id),.str k',.str v',.int .i64 (.ofNat (n+1))],134⟩) ?_ fun w L q ⟨h1,h2⟩=>⟨_root_.id,.aR [.str r,.int .i64 0],_,1,by subst h1;exact fD ⟨rfl,rfl,trivial⟩ ⟨h2,rfl,rfl,trivial⟩ rfl rfl,rfl,rfl,rfl⟩
 obtain⟨mz,TE⟩:=aa m.size
 have Ea:=Sh.mQ hid
 refine aq hP Tryz.func36 ⟨(by show 0<1;decide),trivial,trivial,trivial⟩ (aD rfl) ?_
 intro A g K hA hg hK
 obtain⟨bin,_,cmp,_,_,_,_,_,_,_,iC,gH,fK⟩:=A
 have f1:cmp .lss (.ofNat sz) 0=false:=bM hA (a:=sz) (b:=0) (by omega)
 have f2:cmp .gtr (.ofNat sz) 256=false:=jV hA (a:=sz) (b:=256) (by omega)
 have f3:fK m=Int.ofNat mz:=(lK hA m).trans (by rw[TE])
 have f4:cmp .gtr (.ofNat mz) 256=false:=jV hA (a:=mz) (b:=256) (by omega)
 have f5:cmp .gtr (.ofNat n) 64=false:=jV hA (a:=n) (b:=64) (by omega)
 have f6:gH .neq m (ByteArray.mk #[])= !decide (bl m=[]):=by
  have e:gH=Ar.real.gH:=aK Ar.gH hA
  rw[e]
  exact ad9 m
 cbv
 rw[f1]
 cbv
 rw[f2]
 cbv
 rw[f3]
 cbv
 rw[f4]
 cbv
 rw[f5]
 cbv
 rw[f6]
 by_cases hm:bl m=[]
 ·obtain⟨k1,dM⟩:=aa k
  obtain⟨v1,gD⟩:=aa v
  have ajQ:k1.size=Sh.size id:=by rw[dM,jd]
  have Ud:v1.size=Sh.size id:=by rw[gD,iz]
  rw[eh hm,<-dM,<-gD]
  rw[<-dM,<-gD]at hr dF jv
  cbv
  obtain⟨z,hz⟩:=aa (Sh.size id)
  have jl:=Sh.mQ hid
  rw[<-hz]at jl
  obtain⟨f,hf⟩:=aa ((sz+z-1)/z)
  obtain⟨o,ho⟩:=aa (fun j=>ib (Sh.gen id (bl k1) j (bl v1)).1:Nat->ByteArray)
  obtain⟨w,hw⟩:=aa (fun j=>ib (Sh.gen id (bl k1) j (bl v1)).2:Nat->ByteArray)
  have bo:∀j,bl (o j)=(Sh.gen id (bl k1) j (bl v1)).1:=fun j=>by rw[ho];exact gu (Sh.IA _ _ _ j)
  have bw:∀j,bl (w j)=(Sh.gen id (bl k1) j (bl v1)).2:=fun j=>by rw[hw];exact gu (Sh.Ru _ _ _ (i' v1) j)
  have so:∀j,(o j).size=j*z:=fun j=>by rw[<-bh,bo,Sh.Rv hid,hz]
  have sw:∀j,(w j).size=z:=fun j=>by rw[<-bh,bw,Sh.Rw hid _ _ (by rw[bh,Ud]),hz]
  have o0:o 0=ByteArray.mk #[]:=by rw[ho];rfl
  have w0:w 0=v1:=ph (by rw[bw];rfl)
  have oS:∀j,o (j+1)=o j++w (j+1):=fun j=>ph (by rw[nO,bo,bo,bw,Sh.zP])
  have wS:∀j,bl (w (j+1))=Sh.jY id (bl k1) (bl (w j)):=fun j=>by rw[bw,bw,Sh.zP]
  have JJ:∀j,j<f↔j*z<sz:=fun j=>by
   rw[hf,Nat.lt_iff_add_one_le,Fj (by omega),HJ];omega
  have Gg:f*z<sz+z:=by
   have:=CP (sz+z-1) z
   rw[<-hf]at this;omega
  have T5:sz<=f*z:=vC.1 fun h=>iO f ((JJ f).2 h)
  have Sd:∀j,ah P 83 [.ptr 0 0,.str (w j)] [⟨0,[.int .i64 (.ofNat id),.str k1,.str (w j),.int .i64 (.ofNat n)],134⟩] 1 [] (fun v _ _=>v= .str (w (j+1))):=fun j=>QH hP id jX k1 (w j) (w j) (w (j+1)) n (by omega) (by rw[sw];omega) (wS j)
  have hG:Sh.generate ⟨id,bl k1,bl v1,n⟩ sz (bl m)=(((bl (o f)).take sz),⟨id,(Sh.jn ⟨id,bl k1,bl (w f),n⟩ (bl m)).k,(Sh.jn ⟨id,bl k1,bl (w f),n⟩ (bl m)).v,(Sh.jn ⟨id,bl k1,bl (w f),n⟩ (bl m)).n+1⟩):=by
   rw[bo,bw,hf,hz]
   unfold Sh.generate
   simp only[aj hm,Sh.EX]
  rw[hG]at hr dF jv
  have hU:=Mu hP id jX k1 (w f) m n (by omega) (by rw[sw];omega) (by omega) k' v' dF jv
  have TO:r=(o f).extract 0 sz:=ph (by rw[hr,H0])
  have h0:[SV.int .i64 (.ofNat id),.str k1,.str v1,.int .i64 (.ofNat n)]=[SV.int .i64 (.ofNat id),.str k1,.str (w 0),.int .i64 (.ofNat n)]:=by rw[w0]
  clear hG hr dF jv wS bo bw ho hw
  cbv
  refine bH Nat (fun j=>j<=f) (fun j=>f-j) (fun j=> [(8,.str (o j))]) [0,1,2] (fun j=> [(0,[.int .i64 (.ofNat id),.str k1,.str (w j),.int .i64 (.ofNat n)])]) 0 (bf _) ?_ ?_
  ·rw[o0,w0]
   exact a_
  intro j hj
  obtain⟨x,hx⟩:=aa (j*z)
  have g1:fK (o j)=Int.ofNat x:=(lK hA _).trans (by rw[so,hx])
  by_cases ab:j<f
  ·have nv:x<sz:=by rw[hx];exact(JJ j).1 ab
   have Se:=Sd j
   have g2:iC (o j) (w (j+1))=some (o (j+1)):=(nK hA (by rw[so,sw,<-hx];omega)).trans (by rw[oS])
   cbv
   rw[g1]
   cbv
   rw[show cmp .lss (.ofNat x) (.ofNat sz)=true from cZ hA nv]
   cbv
   refine aZ hg Se _root_.id ⟨rfl,trivial⟩ ?_
   cbv
   rw[g2]
   refine⟨j+1,_root_.id,ab,(by show f-(j+1)<f-j;omega),?_⟩
   exact a_
  ·obtain rfl:j=f:=by omega
   have BR:sz<=(o j).size:=by rw[so];exact T5
   have qY:oF P 9 (.str (o j)) none (some (.i64,Int.ofNat sz)) (.str r):=by rw[TO];exact VX (hP▸aI) (show av 9=some _ from rfl) rfl (o j) BR
   have g3:bin .add .i64 (.ofNat n) 1=Int.ofNat (n+1):=gP hA (by omega)
   cbv
   rw[g1]
   cbv
   rw[show cmp .lss (.ofNat x) (.ofNat sz)=false from bM hA (by omega)]
   cbv
   refine bq hg hU _root_.id ⟨rfl,trivial⟩ ?_
   cbv
   rw[g3]
   cbv
   refine rS hg rfl rfl rfl rfl rfl qY ?_
   cbv
   exact hK _ _ _ ⟨rfl,rfl⟩
 ·have jf:Sh.Ok ⟨id,bl k,bl v,n⟩:=⟨hid,by rw[bh,jd],by rw[bh,iz],i' k,i' v⟩
  have Gv:=jf.jn (bl m)
  obtain⟨k1,dM⟩:∃x,bl x=(Sh.jn ⟨id,bl k,bl v,n⟩ (bl m)).k:=⟨ib (Sh.jn ⟨id,bl k,bl v,n⟩ (bl m)).k,gu Gv.kb⟩
  obtain⟨v1,gD⟩:∃x,bl x=(Sh.jn ⟨id,bl k,bl v,n⟩ (bl m)).v:=⟨ib (Sh.jn ⟨id,bl k,bl v,n⟩ (bl m)).v,gu Gv.vb⟩
  have ajQ:k1.size=Sh.size id:=by rw[<-bh,dM,Gv.kl,Sh.EX]
  have Ud:v1.size=Sh.size id:=by rw[<-bh,gD,Gv.vl,Sh.EX]
  have Nh:=Mu hP id jX k v m n (by omega) (by omega) (by omega) k1 v1 dM gD
  rw[da hm]
  cbv
  refine bq hg Nh _root_.id ⟨rfl,trivial⟩ ?_
  obtain⟨z,hz⟩:=aa (Sh.size id)
  have jl:=Sh.mQ hid
  rw[<-hz]at jl
  obtain⟨f,hf⟩:=aa ((sz+z-1)/z)
  obtain⟨o,ho⟩:=aa (fun j=>ib (Sh.gen id (bl k1) j (bl v1)).1:Nat->ByteArray)
  obtain⟨w,hw⟩:=aa (fun j=>ib (Sh.gen id (bl k1) j (bl v1)).2:Nat->ByteArray)
  have bo:∀j,bl (o j)=(Sh.gen id (bl k1) j (bl v1)).1:=fun j=>by rw[ho];exact gu (Sh.IA _ _ _ j)
  have bw:∀j,bl (w j)=(Sh.gen id (bl k1) j (bl v1)).2:=fun j=>by rw[hw];exact gu (Sh.Ru _ _ _ (i' v1) j)
  have so:∀j,(o j).size=j*z:=fun j=>by rw[<-bh,bo,Sh.Rv hid,hz]
  have sw:∀j,(w j).size=z:=fun j=>by rw[<-bh,bw,Sh.Rw hid _ _ (by rw[bh,Ud]),hz]
  have o0:o 0=ByteArray.mk #[]:=by rw[ho];rfl
  have w0:w 0=v1:=ph (by rw[bw];rfl)
  have oS:∀j,o (j+1)=o j++w (j+1):=fun j=>ph (by rw[nO,bo,bo,bw,Sh.zP])
  have wS:∀j,bl (w (j+1))=Sh.jY id (bl k1) (bl (w j)):=fun j=>by rw[bw,bw,Sh.zP]
  have JJ:∀j,j<f↔j*z<sz:=fun j=>by
   rw[hf,Nat.lt_iff_add_one_le,Fj (by omega),HJ];omega
  have Gg:f*z<sz+z:=by
   have:=CP (sz+z-1) z
   rw[<-hf]at this;omega
  have T5:sz<=f*z:=vC.1 fun h=>iO f ((JJ f).2 h)
  have Sd:∀j,ah P 83 [.ptr 0 0,.str (w j)] [⟨0,[.int .i64 (.ofNat id),.str k1,.str (w j),.int .i64 (.ofNat n)],134⟩] 1 [] (fun v _ _=>v= .str (w (j+1))):=fun j=>QH hP id jX k1 (w j) (w j) (w (j+1)) n (by omega) (by rw[sw];omega) (wS j)
  have hG:Sh.generate ⟨id,bl k,bl v,n⟩ sz (bl m)=(((bl (o f)).take sz),⟨id,(Sh.jn ⟨id,bl k1,bl (w f),n⟩ (bl m)).k,(Sh.jn ⟨id,bl k1,bl (w f),n⟩ (bl m)).v,(Sh.jn ⟨id,bl k1,bl (w f),n⟩ (bl m)).n+1⟩):=by
   rw[bo,bw,hf,hz]
   unfold Sh.generate
   simp only[af hm,Sh.EX,Sh.Wh,<-dM,<-gD]
  rw[hG]at hr dF jv
  have hU:=Mu hP id jX k1 (w f) m n (by omega) (by rw[sw];omega) (by omega) k' v' dF jv
  have TO:r=(o f).extract 0 sz:=ph (by rw[hr,H0])
  have h0:[SV.int .i64 (.ofNat id),.str k1,.str v1,.int .i64 (.ofNat n)]=[SV.int .i64 (.ofNat id),.str k1,.str (w 0),.int .i64 (.ofNat n)]:=by rw[w0]
  clear hG hr dF jv wS bo bw ho hw
  cbv
  refine bH Nat (fun j=>j<=f) (fun j=>f-j) (fun j=> [(8,.str (o j))]) [0,1,2] (fun j=> [(0,[.int .i64 (.ofNat id),.str k1,.str (w j),.int .i64 (.ofNat n)])]) 0 (bf _) ?_ ?_
  ·rw[o0,w0]
   exact a_
  intro j hj
  obtain⟨x,hx⟩:=aa (j*z)
  have g1:fK (o j)=Int.ofNat x:=(lK hA _).trans (by rw[so,hx])
  by_cases ab:j<f
  ·have nv:x<sz:=by rw[hx];exact(JJ j).1 ab
   have Se:=Sd j
   have g2:iC (o j) (w (j+1))=some (o (j+1)):=(nK hA (by rw[so,sw,<-hx];omega)).trans (by rw[oS])
   cbv
   rw[g1]
   cbv
   rw[show cmp .lss (.ofNat x) (.ofNat sz)=true from cZ hA nv]
   cbv
   refine aZ hg Se _root_.id ⟨rfl,trivial⟩ ?_
   cbv
   rw[g2]
   refine⟨j+1,_root_.id,ab,(by show f-(j+1)<f-j;omega),?_⟩
   exact a_
  ·obtain rfl:j=f:=by omega
   have BR:sz<=(o j).size:=by rw[so];exact T5
   have qY:oF P 9 (.str (o j)) none (some (.i64,Int.ofNat sz)) (.str r):=by rw[TO];exact VX (hP▸aI) (show av 9=some _ from rfl) rfl (o j) BR
   have g3:bin .add .i64 (.ofNat n) 1=Int.ofNat (n+1):=gP hA (by omega)
   cbv
   rw[g1]
   cbv
   rw[show cmp .lss (.ofNat x) (.ofNat sz)=false from bM hA (by omega)]
   cbv
   refine bq hg hU _root_.id ⟨rfl,trivial⟩ ?_
   cbv
   rw[g3]
   cbv
   refine rS hg rfl rfl rfl rfl rfl qY ?_
   cbv
   exact hK _ _ _ ⟨rfl,rfl⟩
end Go.Proofs.YtfocopihipejfaaGreat
namespace Go.Proofs.YtfocopihipejfaaGreat
open Go.Vg Go.RowKit
set_option maxRecDepth 20000
theorem O0{i q r:Nat}(hi:i=8*q+r):256^i=256^r*0x10000000000000000^q:=by
 rw[hi,dV,jS,bJ]
theorem Zb{y i q r:Nat}(hi:i=8*q+r)(hy:y<256^i):y/0x10000000000000000^q<256^r:=by
 rw[qN (ew (by decide)),<-O0 hi];exact hy
theorem afy{y d i q r:Nat}(hi:i=8*q+r)(hr:r<8)(hy:y<256^i)(hd:d<256)(j:Nat):iS (y+d*256^i) j=if j=q then iS y q+d*256^r else iS y j:=by
 have ht:=Zb hi hy
 have kQ:256^r*256<=0x10000000000000000:=by
  have h:=cV (show 0<256 by decide) (show r+1<=8 by omega)
  rw[br]at h
  exact eH h (pO (by decide))
 have hm:d*256^r+256^r<=256^r*256:=by
  have h:=ea (256^r) (show d+1<=256 from hd)
  rw[cw,fN]at h
  rw[bJ (256^r)];exact h
 have jG:y+d*256^i<0x10000000000000000^(q+1):=by
  have h:=ea (256^i) (show d+1<=256 from hd)
  rw[cw,fN]at h
  have h2:256*256^i<=0x10000000000000000^(q+1):=by
   rw[O0 hi,br,<-eZ,bJ 256,bJ (0x10000000000000000^q)]
   exact ea _ kQ
  omega
 unfold iS
 by_cases h:j=q
 ·subst h
  rw[aj rfl,O0 hi,<-eZ,zj _ _ (ew (by decide))]
  rw[aO (by omega),aO (by omega)]
 ·rw[af h]
  by_cases hj:j<q
  ·obtain⟨k,rfl⟩:∃k,q=j+1+k:=⟨q-(j+1),by omega⟩
   have e:d*256^i=(d*256^r*0x10000000000000000^k*0x10000000000000000)*0x10000000000000000^j:=by
    rw[O0 hi,dV,br]
    simp only[eZ,bJ,L6]
   rw[e,zj _ _ (ew (by decide)),tR]
  ·have hle:=cV (show 0<0x10000000000000000 by decide) (show q+1<=j by omega)
   rw[kg (cg jG hle),kg (eB (P2 _ _) (cg jG hle))]
theorem afx{y d i q r:Nat}(hi:i=8*q+r)(hr:r<8)(hy:y<256^i)(hd:d<256):iS y q|||(d*2^(8*r)%0x10000000000000000)=iS y q+d*256^r:=by
 have ht:=Zb hi hy
 have e:2^(8*r)=256^r:=by rw[jS]
 have kQ:256^r*256<=0x10000000000000000:=by
  have h:=cV (show 0<256 by decide) (show r+1<=8 by omega)
  rw[br]at h
  exact eH h (pO (by decide))
 have hm:d*256^r+256^r<=256^r*256:=by
  have h:=ea (256^r) (show d+1<=256 from hd)
  rw[cw,fN]at h
  rw[bJ (256^r)];exact h
 have hp:0<256^r:=ew (by decide)
 have hw:iS y q=y/0x10000000000000000^q:=aO (by omega)
 rw[hw,zm,aO (by rw[e];omega),oy (by rw[e];exact ht),e,oB]
theorem afw(x i:Nat):x%256^i+x/256^i%256*256^i=x%256^(i+1):=by
 rw[br,Yv,bJ]
theorem Lv{l:List Nat}(h:∀x∈l,x<256):Sh.word l<256^l.length:=by
 have:=Sh.Ps l h l.length (aE _)
 rwa [Hy]at this
theorem aeM{l:List Nat}(h:∀x∈l,x<256):∀k,k<=l.length->Sh.word l/256^k=Sh.word (l.take (l.length-k))
 |0,_=>by rw[jB,pf,tU,Hy]
 |k+1,hk=>by
  have e:l.length-k=(l.length-(k+1))+1:=by omega
  rw[br,<-ke,aeM h k (by omega),e,Sh.CD l (by omega)]
  have hx:l.getD (l.length-(k+1)) 0<256:=by
   rw[jQ,jo (by omega)]
   exact h _ (LQ _)
  omega
theorem aeL{l:List Nat}(h:∀x∈l,x<256){i:Nat}(hi:i<l.length):Sh.word l/256^i%256=l.getD (l.length-1-i) 0:=by
 have e:l.length-i=(l.length-1-i)+1:=by omega
 rw[aeM h i (by omega),e,Sh.CD l (by omega)]
 have hx:l.getD (l.length-1-i) 0<256:=by
  rw[jQ,jo (by omega)]
  exact h _ (LQ _)
 omega
set_option maxRecDepth 200000
set_option cbv.maxSteps 100000000
theorem Zq{P:Program}(hP:P=Tryz.prog)(s:ByteArray)(pC:s.size<=72)(r:Nat->Nat)(hr:Wn 9 r)(cG:V 9 r=Sh.word (bl s)):
 ah P 102 [.str s] [] 0 [] (fun v _ _=>v= .aR [.agg (ws r 9),.int .i64 0]):=by
 obtain⟨n,hn⟩:=aa s.size
 obtain⟨x,hx⟩:=aa (Sh.word (bl s))
 have hxb:x<256^n:=by
  have:=Lv (i' s)
  rw[bh]at this
  rw[hx,hn];exact this
 rw[<-hx]at cG
 have hs:∀i,i<n->(s[n-1-i]?).map (fun b=>(b.toNat:Int))=some (Int.ofNat (x/256^i%256)):=fun i h=>by
  have hl:(bl s).length=n:=by rw[bh,hn]
  rw[hx,aeL (i' s) (by rw[hl];exact h),hl,jQ]
  have hk:n-1-i<s.data.size:=by show n-1-i<s.size;omega
  rw[show s[n-1-i]? =some (s.data[n-1-i])from by
   rw[getElem?_pos s (n-1-i) hk];rfl]
  unfold bl
  rw[xM,jo (by rw[tO];exact hk)]
  rfl
 refine aq hP Tryz.func102 (ak _ rfl) (aD rfl) ?_
 intro A g K hA hg hK
 obtain⟨bin,sh,cmp,_,aX,ix,nn,nz,_,_,_,_,fK,lg,_,off,_,_,sub⟩:=A
 have en:fK s=Int.ofNat n:=(lK hA s).trans (by rw[hn])
 have es:∀i,i<n->lg s (Int.ofNat (n-1-i))=some (Int.ofNat (x/256^i%256)):=fun i h=>by
  have e:lg=Ar.real.lg:=aK Ar.lg hA
  rw[e]
  show(if 0<=Int.ofNat (n-1-i)then(s[(Int.ofNat (n-1-i)).toNat]?).map fun b=>(b.toNat:Int)else none)=_
  rw[aj (show(0:Int)<=Int.ofNat (n-1-i)from zi _)]
  exact hs i h
 have yg:∀x y,x<y->cmp .lss (.ofNat x) (.ofNat y)=true:=fun x y h=>cZ hA h
 have iD:∀x y,¬x<y->cmp .lss (.ofNat x) (.ofNat y)=false:=fun x y h=>bM hA h
 have f2:∀i,i<9->ix (.ofNat i) 9=some i:=fun i h=>bB hA h
 have f3:∀i,off 0 i 1=i:=fun i=>(dh hA 0 i 1).trans (by omega)
 have f4:=fun(f:Nat->Nat) (i:Nat) (h:i<9)=>ei hA .u64 (n:=9) f h
 have f5:=fun(f g:Nat->Nat) (i v:Nat) (h:i<9) (e:g=fun j=>if j=i then v else f j)=>gX hA .u64 (n:=9) f g h e
 have f6:cmp .gtr (.ofNat n) 72=false:=jV hA (a:=n) (b:=72) (by omega)
 have znz:nz 8=true:=OJ hA (a:=8) (by decide)
 simp only[aw,Nat.reduceAdd]at f4 f5
 clear hs
 cbv
 rw[en]
 cbv
 rw[f6]
 cbv
 rw[en]
 refine bH (Nat×(Nat->Nat)) (fun σ=>σ.1<=n/\∀j,σ.2 j=iS (x%256^σ.1) j) (fun σ=>n-σ.1)
  (fun σ=> [(13,.int .i64 (.ofNat σ.1))]) [0,2,3,4,12] (fun σ=> [(1,ws σ.2 9)]) (0,fun _=>0) ⟨bf _,?_⟩ ?_ ?_
 ·intro j
  show 0=iS (x%256^0) j
  rw[jB,zl,iS,zp,zq]
 ·exact a_
 rintro⟨i,f⟩ ⟨tc,aT⟩
 have hi:i<=n:=tc
 have hf:∀j,f j=iS (x%256^i) j:=aT
 clear tc aT
 by_cases ab:i<n
 ·obtain⟨d,hd⟩:=aa (x/256^i%256)
  have Gd:d<256:=by rw[hd];exact ax _ (by decide)
  obtain⟨k,hk⟩:=aa (n-1-i)
  have e1:=es i ab
  rw[<-hd,<-hk]at e1
  obtain⟨k1,dM⟩:=aa (n-1)
  have e2:bin .sub .i64 (.ofNat n) 1=Int.ofNat k1:=(er hA (a:=n) (b:=1) (by omega) (by omega)).trans (by rw[dM])
  have e3:bin .sub .i64 (.ofNat k1) (.ofNat i)=Int.ofNat k:=(er hA (by omega) (by omega)).trans (by rw[hk,dM])
  have e5:aX .u64 (.ofNat d)=Int.ofNat d:=nQ hA (fun h=>by cases h) (fun _=>by show d<0x10000000000000000;omega)
  obtain⟨q,hq⟩:=aa (i/8)
  obtain⟨t,ht⟩:=aa (i%8)
  have JI:i=8*q+t:=by rw[hq,ht];exact(gN i 8).symm
  have Ka:t<8:=by rw[ht];exact ax _ (by decide)
  have Au:q<9:=by omega
  have e6:bin .quo .i64 (.ofNat i) 8=Int.ofNat q:=(mO hA (a:=i) (b:=8) (by omega)).trans (by rw[hq])
  have e7:bin .rem .i64 (.ofNat i) 8=Int.ofNat t:=(pJ hA (k:= .i64) i 8).trans (by rw[ht])
  obtain⟨t4,w9⟩:=aa (8*t)
  have e8:bin .mul .i64 8 (.ofNat t)=Int.ofNat t4:=(k8 hA (a:=8) (b:=t) (by omega)).trans (by rw[w9])
  obtain⟨y,hy⟩:=aa (d*2^t4%0x10000000000000000)
  have e9:sh .shl .u64 (.ofNat d) (.ofNat t4)=Int.ofNat y:=Cw hA (by omega) hy
  obtain⟨z,hz⟩:=aa (f q|||y)
  have Kq:x%256^i<256^i:=ax _ (ew (by decide))
  have Jy:=hf q
  have jT:bin .or .u64 (.ofNat (f q)) (.ofNat y)=Int.ofNat z:=G0 hA (by rw[Jy];exact Jv _ _) (by rw[hy];exact ax _ (by decide)) hz
  have Ul:z=iS (x%256^i) q+d*256^t:=by rw[hz,Jy,hy,w9];exact afx JI Ka Kq Gd
  obtain⟨f',aT⟩:=aa (fun j=>if j=q then z else f j:Nat->Nat)
  have kP:=f4 f q Au
  have zJ:=f5 f f' q z Au aT
  have zK:=f2 q Au
  have zL:=f3 q
  have FC:bin .add .i64 (.ofNat i) 1=Int.ofNat (i+1):=e_ hA (b:=1) (by omega)
  have PL:nn (.ofNat t4)=true:=kr hA t4
  have gj:∀j,f' j=iS (x%256^(i+1)) j:=fun j=>by
   rw[<-afw,<-hd,afy JI Ka Kq Gd j,aT]
   show(if j=q then z else f j)=_
   rw[Ul,hf j]
  obtain⟨i1,dQ⟩:=aa (i+1)
  rw[<-dQ]at FC gj
  cbv
  rw[yg i n ab]
  cbv
  rw[en]
  cbv
  rw[e2]
  cbv
  rw[e3]
  cbv
  refine cf hP hA hg fun mk _=> ?_
  cbv
  rw[e6]
  cbv
  rw[zK]
  cbv
  rw[zL,kP]
  cbv
  rw[e1]
  cbv
  rw[e5]
  cbv
  rw[e7]
  cbv
  rw[e8]
  cbv
  rw[PL]
  cbv
  rw[e9]
  cbv
  rw[jT]
  cbv
  rw[zK]
  cbv
  rw[zL,zJ]
  cbv
  rw[FC]
  refine⟨(i1,f'),id,⟨by show i1<=n;omega,gj⟩,(by show n-i1<n-i;omega),?_⟩
  exact a_
 ·obtain rfl:i=n:=by omega
  have lV:ws f 9=ws r 9:=by
   refine kx (fun j _=>by rw[hf];exact Jv _ _) hr ?_
   rw[show V 9 f=V 9 (iS (x%256^i))from Dg.jP 9 fun j _=>hf j,Qa,cG,aO hxb]
   refine aO (cg hxb ?_)
   exact eH (cV (by decide) (show i<=72 by omega)) (by decide)
  simp only[ws,aw,Nat.reduceAdd]at lV
  cbv
  rw[iD i i ab]
  cbv
  refine hK _ _ _ ?_
  simp only[ws,aw,Nat.reduceAdd]
  rw[lV]
  rfl
def zF(bits n id:Nat)(msg:List Nat):Nat:=Sh.word (Sh.of id msg)/2^(8*Sh.size id-bits)%n
theorem af'{P:Program}(hP:P=Tryz.prog)(id:Nat)(hid:1<=id/\id<=2)(s dg:ByteArray)(aJ:s.size<140737488353000)(fk:bl dg=Sh.of id (bl s)):ah P 101 [.int .i64 (.ofNat id),.str s] [] 0 [] (fun v _ _=>v= .aR [.str dg,.int .i64 0]):=by
 obtain rfl|rfl:id=1\/id=2:=by omega
 ·exact Mx hP (Pa hP 1 224 (wj Sh.i224) (Or.inl ⟨rfl,rfl,rfl⟩) (by unfold Sh.jI;decide)) s dg aJ fk
 ·exact Mx hP (Pa hP 2 256 (wj Sh.i256) (Or.inr ⟨rfl,rfl,rfl⟩) (by unfold Sh.jI;decide)) s dg aJ fk
section
variable {k:Nat}(hk:1<=k/\k<=15){p a b n gx gy th d:Nat->Nat}{m s bits size:Nat}{leg:Bool}(hC:Cv k p a b n gx gy th bits size)
include hk hC
theorem QI{P:Program}(hP:P=Tryz.prog)(id:Nat)(hid:1<=id/\id<=2)(msg:ByteArray)(aJ:msg.size<140737488353000)(r:Nat->Nat)(hr:Wn 9 r)(cG:V 9 r=zF bits (EC.cn k) id (bl msg)):
 ah P 53 [.ptr 0 0,.int .i64 (.ofNat id),.str msg] (mq k p a b n gx gy th d m s bits size leg) 3 [] (fun v _ _=>v= .agg (ws r 9)):=by
 have oN:1<=id/\id<=4:=⟨hid.1,by omega⟩
 obtain⟨cS,cW⟩:=Mp hk hC
 obtain⟨dg,fk⟩:∃dg,bl dg=Sh.of id (bl msg):=⟨ib (Sh.of id (bl msg)),gu (Sh.Cd id _)⟩
 have hlen:dg.size=Sh.size id:=by rw[<-bh,fk];exact Sh.Ce oN _
 have akk:=(Sh.mQ oN).2.2.1
 obtain⟨w,ww,vw⟩:=cD 9 (Sh.word (bl dg)) (by
  have h:=Lv (l:=bl dg) (i' dg)
  refine cg h ?_
  rw[bh,hlen,show(0x10000000000000000:Nat)=256^8 from by decide,<-jS]
  exact cV (by decide) (by omega))
 obtain⟨kk,kE⟩:=aa (8*Sh.size id-bits)
 obtain⟨w2,ww2,W7⟩:=cD 9 (V 9 w/2^kk) (eB (gq _ _) (eg ww))
 have hH:=af' hP id hid msg dg aJ fk
 have hO:=Zq hP dg (by omega) w ww vw
 have hS:=QU hP w w2 ww ww2 kk (by omega) W7
 have hR:=QT hk hC (d:=d) (m:=m) (s:=s) (leg:=leg) hP w2 r ww2 hr (by rw[cG,W7,vw,fk,kE];rfl)
 obtain⟨sz,akj⟩:=aa (Sh.size id)
 rw[<-akj]at hlen kE akk
 refine aq hP Tryz.func53 (ak _ rfl) (aD rfl) ?_
 intro A g K hA hg hK
 obtain⟨bin,_,_,_,_,_,_,_,_,_,_,_,fK,_,_,_,_,_,sub⟩:=A
 have e1:fK dg=Int.ofNat sz:=(lK hA dg).trans (by rw[hlen])
 have e2:bin .mul .i64 8 (.ofNat sz)=Int.ofNat (8*sz):=k8 hA (a:=8) (b:=sz) (by omega)
 have e3:bin .sub .i64 (.ofNat (8*sz)) (.ofNat bits)=((8*sz:Nat):Int)-(bits:Int):=by
  rw[show bin=jH from qQ hA]
  show IntKind.i64.wrap (((8*sz:Nat):Int)-(bits:Int))=_
  rw[IntKind.wrap_i64];omega
 obtain⟨df,S_⟩:=aa (((8*sz:Nat):Int)-(bits:Int):Int)
 rw[<-S_]at e3
 have hmx:Int.ofNat kk=if df>0 then df else 0:=by
  show(kk:Int)=_
  split<;>omega
 obtain⟨s8,j7⟩:=aa (8*sz)
 rw[<-j7]at e2 e3
 clear S_ j7 cG vw W7 kE
 cbv
 refine fe rfl hg rfl rfl hH ?_
 rintro _ _ _ rfl
 refine⟨by simp[bd,ay],?_⟩
 cbv
 refine dJ hg hO ?_
 cbv
 refine tG (hP▸aI) hA hg (hP▸mixed) rfl rfl [(10,[0])] rfl ?_
 cbv
 rw[e1]
 cbv
 rw[e2]
 cbv
 rw[e3]
 cbv
 refine Pe hg rfl rfl (r:=Int.ofNat kk) rfl rfl hmx ?_
 cbv
 refine bN hg hS ?_
 cbv
 refine aZ hg hR _root_.id ⟨rfl,rfl,rfl,trivial⟩ ?_
 cbv
 exact hK _ _ _ rfl
end
theorem ag7{P:Program}(hP:P=Tryz.prog)(k:Nat)(hk:1<=k/\k<=15)(id:Nat)(hid:1<=id/\id<=2){Q:EC.Pt (EC.cp k)}(oQ:EC.eI (EC.ca k) (EC.cb k) Q){qx qy:Nat->Nat}(hQ:mW k Q qx qy false)(msg:ByteArray)(aJ:msg.size<140737488353000)
 (r t:Nat->Nat) (wr:Wn 9 r) (wt:Wn 9 t) (cC:V 9 r≠0) (D8:V 9 r<EC.cn k) (yO:V 9 t≠0) (xa:V 9 t<EC.cn k) (w:Nat) (hw:w<EC.cn k) (AB:w*V 9 t%EC.cn k=1) (nb:Nat) (JR:ig (EC.cn k) nb)
 (R:EC.Pt (EC.cp k)) (hR:R=EC.add EC.aN (EC.ca k) (EC.smul EC.aN (EC.ca k) (zF nb (EC.cn k) id (bl msg)*w%EC.cn k) (EC.G k)) (EC.smul EC.aN (EC.ca k) (V 9 r*w%EC.cn k) Q)) (res:Bool) (Aw:res=(!uO R&&decide (qz R%EC.cn k=V 9 r))):
 ah P 23 [.int .i64 (.ofNat k),.int .i64 (.ofNat id),.agg (l_ qx qy false),.str msg,.agg (ws r 9++ws t 9)] [] 0 [] (fun v _ _=>v= .bool res):=by
 have oN:1<=id/\id<=4:=⟨hid.1,by omega⟩
 obtain⟨p,d,m,s,a,b,n,gx,gy,th,bits,size,hC,hD,hO⟩:=De hP k hk (rL k) rfl
 obtain⟨leg,mD⟩:=aa (rL k)
 rw[<-mD]at hO
 have hn:=zD hk hC
 have hp:=EC.A0 k
 have h0:0<EC.cn k:=by have:=hp.1;omega
 have ab:EC.cn k<0x10000000000000000^9:=by rw[<-hn];exact eg hC.wn
 have q9:bits=nb:=hC.bits.uniq (by rw[<-(tK hk).2.2.2.1];exact JR)
 subst q9
 have Sb:=Dc hP k p a b n gx gy th r bits size leg hC.wn wr true (by rw[hn,eh cC,eh D8];rfl)
 have Sc:=Dc hP k p a b n gx gy th t bits size leg hC.wn wt true (by rw[hn,eh yO,eh xa];rfl)
 have Sk:=Zv hk hC (leg:=leg) hP hD qx qy hQ.wX hQ.wY true (by
  cases Q with
  |O=>exact absurd hQ.inf (by simp[uO])
  |A u v=>
   have e1:V 9 qx=u.val:=hQ.vX
   have e2:V 9 qy=v.val:=hQ.vY
   rw[e1,e2,EC.AW,EC.AW,eh u.isLt,eh v.isLt,eh (show EC.On (EC.ca k) (EC.cb k) u v from oQ)];rfl)
 obtain⟨wW,XP,Ln⟩:=cD 9 w (cT hw ab)
 obtain⟨eW,CC,xI⟩:=cD 9 (zF bits (EC.cn k) id (bl msg)) (cT (ax _ h0) ab)
 have wJ:V 9 eW<EC.cn k:=by rw[xI];exact ax _ h0
 obtain⟨u1,Ly,CA⟩:=cD 9 (V 9 eW*V 9 wW%EC.cn k) (cT (ax _ h0) ab)
 obtain⟨u2,Lz,CB⟩:=cD 9 (V 9 r*V 9 wW%EC.cn k) (cT (ax _ h0) ab)
 obtain⟨X,wX,vX⟩:=cD 9 (qz R) (cT (K2 R) (pV hk))
 obtain⟨Y,wY,vY⟩:=cD 9 (uP R) (cT (K3 R) (pV hk))
 obtain⟨inf,Gh⟩:=aa (uO R)
 obtain⟨z,wz,vz⟩:=cD 9 (V 9 X%EC.cn k) (cT (ax _ h0) ab)
 have lv:=ZP hk hC
 have II:=QI hk hC (d:=d) (m:=m) (s:=s) (leg:=leg) hP id hid msg aJ eW CC xI
 have hDu:=af2 hk hC (leg:=leg) hP hD oQ hQ u1 u2 Ly Lz (by rw[CA];exact cT (ax _ h0) lv) (by rw[CB];exact cT (ax _ h0) lv) (x:=X) (y:=Y) (inf:=inf) (by rw[CA,CB,xI,Ln,<-hR];exact⟨wX,wY,vX,vY,Gh⟩)
 have wD:=QT hk hC (d:=d) (m:=m) (s:=s) (leg:=leg) hP X z wX wz vz
 have kS:=Zu hk hC (d:=d) (m:=m) (s:=s) (leg:=leg) hP
 have pq:=Db hP id _ _ _ (HK.at oN)
 obtain⟨sz,Ed⟩:=aa (Sh.size id)
 have Oa:0<sz:=by have:=(Sh.mQ oN).2.2.2;omega
 rw[<-Ed]at pq
 have hzr:lP z r=decide (qz R%EC.cn k=V 9 r):=by rw[ug wz wr,vz,vX]
 refine aq hP Tryz.func23 (ak _ rfl) (aD rfl) ?_
 intro A g K hA hg hK
 obtain⟨_,_,cmp,_,_,_,nn,_,fQ⟩:=A
 have f1:fQ true=false:=ln hA true
 have f2:fQ false=true:=ln hA false
 have e1:cmp .eql (.ofNat sz) 0=false:=ja hA (b:=0) (by omega)
 cbv
 refine bq hg hO _root_.id trivial ?_
 cbv
 refine dJ hg pq ?_
 cbv
 rw[e1]
 cbv
 refine aZ hg Sk (fun l=>l+2) ⟨rfl,rfl,rfl,trivial⟩ ?_
 cbv
 rw[f1]
 cbv
 refine aZ hg Sb (fun l=>l+2) ⟨rfl,trivial⟩ ?_
 cbv
 rw[f1]
 cbv
 refine aZ hg Sc (fun l=>l+2) ⟨rfl,trivial⟩ ?_
 cbv
 rw[f1]
 cbv
 refine gQ rfl hg rfl rfl kS (fun l=>l+2) rfl ⟨rfl,rfl,rfl,trivial⟩ rfl rfl rfl ?_
 rintro _ _ _ ⟨nn,less,rr,dr,rfl,rfl,rfl⟩ _
 refine⟨rfl,?_⟩
 simp only[aG,ae _ (Ez n nn less rr 0)]
 have hI:=Zj hk hC (d:=d) (m:=m) (s:=s) (leg:=leg) dr hP t wW wt XP xa (by omega) (by rw[Ln];exact hw) (by rw[Ln];exact AB)
 have yj:=My hk hC (d:=d) (m:=m) (s:=s) (leg:=leg) dr hP eW wW u1 CC XP Ly wJ (by rw[Ln];exact hw) CA
 have yk:=My hk hC (d:=d) (m:=m) (s:=s) (leg:=leg) dr hP r wW u2 wr XP Lz D8 (by rw[Ln];exact hw) CB
 cbv
 refine aZ hg hI (fun l=>l+2) ⟨rfl,rfl,rfl,rfl,trivial⟩ ?_
 cbv
 refine cm hP hA hg ?_
 cbv
 refine aY hg II (fun l=>l+2) ⟨rfl,rfl,rfl,trivial⟩ ?_
 cbv
 refine aY hg yj (fun l=>l+2) ⟨rfl,rfl,rfl,rfl,trivial⟩ ?_
 cbv
 refine aY hg yk (fun l=>l+2) ⟨rfl,rfl,rfl,rfl,trivial⟩ ?_
 cbv
 refine aY hg hDu (fun l=>l+2) ⟨rfl,rfl,rfl,trivial⟩ ?_
 cases inf with
 |true=>
  obtain rfl:res=false:=by rw[Aw,<-Gh];rfl
  cbv
  refine cm hP hA hg ?_
  cbv
  rw[f1]
  cbv
  exact hK _ _ _ rfl
 |false=>
  have aj_:res=lP z r:=by rw[Aw,<-Gh,hzr];rfl
  cbv
  refine cm hP hA hg ?_
  cbv
  rw[f2]
  cbv
  refine aY hg wD (fun l=>l+2) ⟨rfl,rfl,rfl,trivial⟩ ?_
  cbv
  refine eV (Bq hP hg rfl (a:=z) (b:=r) (r:=res) (Or.inr ⟨rfl,aj_⟩) rfl rfl) ?_
  cbv
  exact hK _ _ _ rfl
theorem afY{P:Program}(hP:P=Tryz.prog)(k:Nat)(hk:1<=k/\k<=15)(id:Nat)(hid:1<=id/\id<=2)(msg:ByteArray)(aJ:msg.size<140737488353000)(nb:Nat)(JR:ig (EC.cn k) nb)(r:Nat->Nat)(hr:Wn 9 r)(cG:V 9 r=zF nb (EC.cn k) id (bl msg)):
 ah P 15 [.int .i64 (.ofNat k),.int .i64 (.ofNat id),.str msg] [] 0 [] (fun v _ _=>v= .aR [.agg (ws r 9),.int .i64 0]):=by
 have oN:1<=id/\id<=4:=⟨hid.1,by omega⟩
 obtain⟨p,d,m,s,a,b,n,gx,gy,th,bits,size,hC,hD,hO⟩:=De hP k hk (rL k) rfl
 obtain⟨leg,mD⟩:=aa (rL k)
 rw[<-mD]at hO
 have q9:bits=nb:=hC.bits.uniq (by rw[<-(tK hk).2.2.2.1];exact JR)
 subst q9
 have II:=QI hk hC (d:=d) (m:=m) (s:=s) (leg:=leg) hP id hid msg aJ r hr cG
 have pq:=Db hP id _ _ _ (HK.at oN)
 obtain⟨sz,Ed⟩:=aa (Sh.size id)
 have Oa:0<sz:=by have:=(Sh.mQ oN).2.2.2;omega
 rw[<-Ed]at pq
 refine aq hP Tryz.func15 (ak _ rfl) (aD rfl) ?_
 intro A g K hA hg hK
 obtain⟨_,_,cmp⟩:=A
 have e1:cmp .eql (.ofNat sz) 0=false:=ja hA (b:=0) (by omega)
 cbv
 refine bq hg hO _root_.id trivial ?_
 cbv
 refine dJ hg pq ?_
 cbv
 rw[e1]
 cbv
 refine aZ hg II (fun l=>l+1) ⟨rfl,rfl,rfl,trivial⟩ ?_
 cbv
 exact hK _ _ _ rfl
theorem ZG{P:Program}(hP:P=Tryz.prog)(k:Nat)(hk:1<=k/\k<=15)(id:Nat)(hid:1<=id/\id<=2){Q:EC.Pt (EC.cp k)}(oQ:EC.eI (EC.ca k) (EC.cb k) Q){qx qy:Nat->Nat}(hQ:mW k Q qx qy false)(msg:ByteArray)
 (r t:Nat->Nat) (wr:Wn 9 r) (wt:Wn 9 t) (ajm:¬ ((V 9 r≠0/\V 9 r<EC.cn k)/\(V 9 t≠0/\V 9 t<EC.cn k))):
 ah P 23 [.int .i64 (.ofNat k),.int .i64 (.ofNat id),.agg (l_ qx qy false),.str msg,.agg (ws r 9++ws t 9)] [] 0 [] (fun v _ _=>v= .bool false):=by
 have oN:1<=id/\id<=4:=⟨hid.1,by omega⟩
 obtain⟨p,d,m,s,a,b,n,gx,gy,th,bits,size,hC,hD,hO⟩:=De hP k hk (rL k) rfl
 obtain⟨leg,mD⟩:=aa (rL k)
 rw[<-mD]at hO
 have hn:=zD hk hC
 obtain⟨b1,cS⟩:=aa ((decide (V 9 r≠0)&&decide (V 9 r<V 9 n)):Bool)
 obtain⟨b2,cW⟩:=aa ((decide (V 9 t≠0)&&decide (V 9 t<V 9 n)):Bool)
 have Sb:=Dc hP k p a b n gx gy th r bits size leg hC.wn wr b1 cS
 have Sc:=Dc hP k p a b n gx gy th t bits size leg hC.wn wt b2 cW
 rw[hn]at cS cW
 have Sk:=Zv hk hC (leg:=leg) hP hD qx qy hQ.wX hQ.wY true (by
  cases Q with
  |O=>exact absurd hQ.inf (by simp[uO])
  |A u v=>
   have e1:V 9 qx=u.val:=hQ.vX
   have e2:V 9 qy=v.val:=hQ.vY
   rw[e1,e2,EC.AW,EC.AW,eh u.isLt,eh v.isLt,eh (show EC.On (EC.ca k) (EC.cb k) u v from oQ)];rfl)
 have pq:=Db hP id _ _ _ (HK.at oN)
 obtain⟨sz,Ed⟩:=aa (Sh.size id)
 have Oa:0<sz:=by have:=(Sh.mQ oN).2.2.2;omega
 rw[<-Ed]at pq
 refine aq hP Tryz.func23 (ak _ rfl) (aD rfl) ?_
 intro A g K hA hg hK
 obtain⟨_,_,cmp,_,_,_,_,_,fQ⟩:=A
 have f1:fQ true=false:=ln hA true
 have f2:fQ false=true:=ln hA false
 have e1:cmp .eql (.ofNat sz) 0=false:=ja hA (b:=0) (by omega)
 cbv
 refine bq hg hO _root_.id trivial ?_
 cbv
 refine dJ hg pq ?_
 cbv
 rw[e1]
 cbv
 refine aZ hg Sk (fun l=>l+2) ⟨rfl,rfl,rfl,trivial⟩ ?_
 cbv
 rw[f1]
 cbv
 refine aZ hg Sb (fun l=>l+2) ⟨rfl,trivial⟩ ?_
 cases b1 with
 |false=>
  cbv
  rw[f2]
  cbv
  exact hK _ _ _ rfl
 |true=>
  cbv
  rw[f1]
  cbv
  refine aZ hg Sc (fun l=>l+2) ⟨rfl,trivial⟩ ?_
  cases b2 with
  |false=>
   cbv
   rw[f2]
   cbv
   exact hK _ _ _ rfl
  |true=>
   exact absurd ⟨by simpa using cS.symm,by simpa using cW.symm⟩ ajm
theorem afV{P:Program}(hP:P=Tryz.prog)(id:Nat)(k v m:ByteArray)(n sz:Nat)(oT:m.size<=256)(aJ:sz<=256)(hn:64<n)(pC:n<2^40):
 ah P 36 [.ptr 0 0,.int .i64 (.ofNat sz),.str m] [⟨0,[.int .i64 (.ofNat id),.str k,.str v,.int .i64 (.ofNat n)],134⟩] 1 [] (fun w _ _=>w= .aR [.str ⟨#[]⟩,.int .i64 1103]):=by
 obtain⟨mz,TE⟩:=aa m.size
 refine aq hP Tryz.func36 ⟨(by show 0<1;decide),trivial,trivial,trivial⟩ (aD rfl) ?_
 intro A g K hA hg hK
 obtain⟨_,_,cmp,_,_,_,_,_,_,_,_,_,fK⟩:=A
 have f1:cmp .lss (.ofNat sz) 0=false:=bM hA (a:=sz) (b:=0) (by omega)
 have f2:cmp .gtr (.ofNat sz) 256=false:=jV hA (a:=sz) (b:=256) (by omega)
 have f3:fK m=Int.ofNat mz:=(lK hA m).trans (by rw[TE])
 have f4:cmp .gtr (.ofNat mz) 256=false:=jV hA (a:=mz) (b:=256) (by omega)
 have f5:cmp .gtr (.ofNat n) 64=true:=po hA (a:=n) (b:=64) (by omega)
 cbv
 rw[f1]
 cbv
 rw[f2]
 cbv
 rw[f3]
 cbv
 rw[f4]
 cbv
 rw[f5]
 cbv
 exact hK _ _ _ rfl
def tryD(sz sh:Nat)(D:Sh.Dr):Nat×Sh.Dr:=(Sh.word (Sh.generate D sz []).1/2^sh,(Sh.generate D sz []).2)
theorem ag5{P:Program}(hP:P=Tryz.prog)(c:Nat){p a b nn gx gy th:Nat->Nat}{bits size:Nat}(leg:Bool)(hC:Cv c p a b nn gx gy th bits size)(Jj:1<=bits/\bits<=576)(id:Nat)(jX:1<=id/\id<=2)(k v:ByteArray)(n sz s8:Nat)(aJ:sz=(bits+7)/8)(j7:s8=8*sz-bits)(jd:k.size=Sh.size id)(iz:v.size=Sh.size id)(hn:n<=64)
 (k' v':ByteArray) (dF:bl k'=(tryD sz s8 ⟨id,bl k,bl v,n⟩).2.k) (jv:bl v'=(tryD sz s8 ⟨id,bl k,bl v,n⟩).2.v) (d:Nat->Nat) (hd:Wn 9 d) (ob:V 9 d=(tryD sz s8 ⟨id,bl k,bl v,n⟩).1) (r:Bool) (hr:r=(decide (V 9 d≠0)&&decide (V 9 d<V 9 nn))):
 ah P 86 [.ptr 0 0,.fn (.func 36) [.ptr 2 0] []] [⟨0,vZ c p a b nn gx gy th bits size leg 1,158⟩,⟨2,[.int .i64 (.ofNat id),.str k,.str v,.int .i64 (.ofNat n)],134⟩] 3 [2]
  (fun w L q=>w= .aR [.agg (ws d 9),.bool r,.int .i64 0]/\L=[⟨2,[.int .i64 (.ofNat id),.str k',.str v',.int .i64 (.ofNat (n+1))],134⟩]/\q=3):=by
 have hid:1<=id/\id<=4:=⟨jX.1,eH jX.2 (by decide)⟩
 refine ah.dj (R:=fun w L q=>w= .aR [.agg (ws d 9),.bool r,.int .i64 0]/\find L 2=some ⟨2,[.int .i64 (.ofNat id),.str k',.str v',.int .i64 (.ofNat (n+1))],134⟩) ?_ fun w L q ⟨h1,h2⟩=>⟨_root_.id,.aR [.agg (ws d 9),.bool r,.int .i64 0],_,3,by subst h1;exact fD ⟨rfl,rfl,trivial⟩ ⟨h2,rfl,rfl,trivial⟩ rfl rfl,rfl,rfl,rfl⟩
 have abz:1<=sz/\sz<=72:=by omega
 have arF:s8<8:=by omega
 obtain⟨G,hG⟩:=aa (Sh.generate ⟨id,bl k,bl v,n⟩ sz [])
 have jf:Sh.Ok ⟨id,bl k,bl v,n⟩:=⟨hid,by rw[bh,jd],by rw[bh,iz],i' k,i' v⟩
 have hGl:G.1.length<=72:=by
  rw[hG];unfold Sh.generate
  rw[eY];omega
 have hGb:∀x∈G.1,x<256:=fun x hx=>by
  rw[hG]at hx;unfold Sh.generate at hx
  exact Sh.IA _ _ _ _ x (xO hx)
 obtain⟨s,hs⟩:∃s,bl s=G.1:=⟨ib G.1,gu hGb⟩
 have N_:s.size<=72:=by rw[<-bh,hs];exact hGl
 unfold tryD at dF jv ob
 rw[<-hG]at dF jv ob
 have R8:=afU hP id jX k v ⟨#[]⟩ n sz jd iz (by decide) (by omega) hn s k' v' (by rw[hs,hG];rfl) (by rw[dF,hG];rfl) (by rw[jv,hG];rfl)
 obtain⟨w,hw,AB⟩:∃w:Nat->Nat,Wn 9 w/\V 9 w=Sh.word (bl s):=by
  refine⟨iS (Sh.word (bl s)),fun j _=>Jv _ _,?_⟩
  rw[Qa]
  refine aO (cg (Lv (i' s)) ?_)
  rw[bh]
  exact eH (cV (by decide) N_) (by decide)
 have kS:=Zq hP s N_ w hw AB
 have qg:=QU hP w d hw hd s8 (by omega) (by rw[ob,AB,hs])
 have uj:=Zd hP c p a b nn gx gy th bits size leg (by omega) sz aJ
 have IN:=Dc hP c p a b nn gx gy th d bits size leg hC.wn hd r hr
 clear hG hGl hGb hs AB dF jv ob hr jf
 refine aq hP Tryz.func86 ⟨(by show 0<3;decide),⟨⟨(by show 2<3;decide),trivial⟩,trivial⟩,trivial⟩ (aD rfl) ?_
 intro A g K hA hg hK
 obtain⟨bin,_,cmp,_,_,_,nn,_,_,_,_,_,_,_,_,_,_,_,sub⟩:=A
 have e0:cmp .neq 0 0=false:=ow hA (a:=0) (b:=0) rfl
 obtain⟨s9,hs9⟩:=aa (8*sz)
 have e1:bin .mul .i64 8 (.ofNat sz)=Int.ofNat s9:=(k8 hA (a:=8) (b:=sz) (by omega)).trans (by rw[hs9])
 have e2:bin .sub .i64 (.ofNat s9) (.ofNat bits)=Int.ofNat s8:=(er hA (by omega) (by omega)).trans (by rw[j7,hs9])
 cbv
 refine aZ hg uj _root_.id ⟨rfl,trivial⟩ ?_
 cbv
 refine bq hg R8 (fun _=>2) ⟨rfl,trivial⟩ ?_
 cbv
 rw[e0]
 cbv
 refine dJ hg kS ?_
 cbv
 refine cm hP hA hg ?_
 cbv
 refine aY hg uj _root_.id ⟨rfl,trivial⟩ ?_
 cbv
 rw[e1]
 cbv
 rw[e2]
 cbv
 refine bN hg qg ?_
 cbv
 refine cm hP hA hg ?_
 cbv
 refine aY hg IN _root_.id ⟨rfl,trivial⟩ ?_
 cbv
 exact hK _ _ _ ⟨rfl,rfl⟩
theorem ag6{P:Program}(hP:P=Tryz.prog)(c:Nat){p a b nn gx gy th:Nat->Nat}{bits size:Nat}(leg:Bool)(Jj:1<=bits/\bits<=576)(id:Nat)(k v:ByteArray)(n:Nat)(hn:64<n)(pC:n<2^40):
 ah P 86 [.ptr 0 0,.fn (.func 36) [.ptr 2 0] []] [⟨0,vZ c p a b nn gx gy th bits size leg 1,158⟩,⟨2,[.int .i64 (.ofNat id),.str k,.str v,.int .i64 (.ofNat n)],134⟩] 3 []
  (fun w _ _=>w= .aR [.agg (ws (fun _=>0) 9),.bool false,.int .i64 1103]):=by
 obtain⟨sz,aJ⟩:=aa ((bits+7)/8)
 have R8:=afV hP id k v ⟨#[]⟩ n sz (by decide) (by omega) hn pC
 have uj:=Zd hP c p a b nn gx gy th bits size leg (by omega) sz aJ
 refine aq hP Tryz.func86 ⟨(by show 0<3;decide),⟨⟨(by show 2<3;decide),trivial⟩,trivial⟩,trivial⟩ (aD rfl) ?_
 intro A g K hA hg hK
 obtain⟨_,_,cmp,_,_,_,nn⟩:=A
 have e0:cmp .neq 1103 0=true:=yX hA (a:=1103) (b:=0) (by decide)
 cbv
 refine aZ hg uj _root_.id ⟨rfl,trivial⟩ ?_
 cbv
 refine fT rfl hg rfl rfl R8 (fun _=>2) rfl ⟨rfl,trivial⟩ ?_
 rintro _ _ _ rfl
 refine⟨⟨trivial,trivial,trivial⟩,⟨trivial,trivial,trivial⟩,?_⟩
 cbv
 rw[e0]
 cbv
 exact hK _ _ _ rfl
theorem aiT(id:Nat)(k v:List Nat)(n sz:Nat):(Sh.generate ⟨id,k,v,n⟩ sz []).2.id=id/\(Sh.generate ⟨id,k,v,n⟩ sz []).2.n=n+1:=by
 simp[Sh.generate,Sh.EX,Sh.Wh]
theorem aaA{D:Sh.Dr}(h:Sh.Ok D)(sz:Nat):Sh.Ok (Sh.generate D sz []).2:=by
 have h1:Sh.Ok ⟨D.id,D.k,(Sh.gen D.id D.k ((sz+Sh.size D.id-1)/Sh.size D.id) D.v).2,D.n⟩:=⟨h.id,h.kl,Sh.Rw h.id _ _ h.vl _,h.kb,Sh.Ru _ _ _ h.vb _⟩
 have h2:=h1.jn []
 exact⟨h2.id,h2.kl,h2.vl,h2.kb,h2.vb⟩
theorem aaz(D:Sh.Dr)(sz:Nat):(Sh.generate D sz []).2.id=D.id/\(Sh.generate D sz []).2.n=D.n+1:=aiT D.id D.k D.v D.n sz
theorem arQ{P:Program}(hP:P=Tryz.prog)(k:Nat)(hk:1<=k/\k<=15)(id:Nat)(hid:1<=id/\id<=2)(msg:ByteArray)(aJ:msg.size<140737488353000)(e:Nat->Nat)(we:Wn 9 e)(he0:V 9 e≠0)(wK:V 9 e<EC.cn k)(hi:Nat)(key v:ByteArray)(gn:Nat)(Tg:64<gn)(arU:gn<2^40):
 ah P 38 [.cR,.int .i64 (.ofNat k),.int .i64 (.ofNat id),.agg (ws e 9),.str msg,.ptr 0 0] [⟨0,[.int .i64 (.ofNat hi),.str key,.str v,.int .i64 (.ofNat gn)],134⟩] 1 [] (fun w _ _=>w= .aR [.agg (ws (fun _=>0) 9++ws (fun _=>0) 9),.int .i64 0,.int .i64 2603]):=by
 have oN:1<=id/\id<=4:=⟨hid.1,by omega⟩
 obtain⟨p,d,m,s,a,b,n,gx,gy,th,bits,size,hC,hD,hO⟩:=De hP k hk (rL k) rfl
 obtain⟨leg,mD⟩:=aa (rL k)
 rw[<-mD]at hO
 have hn:=zD hk hC
 have h0:0<EC.cn k:=by omega
 have ab:EC.cn k<0x10000000000000000^9:=by rw[<-hn];exact eg hC.wn
 have Ad:=Mp hk hC
 have IN:=Dc hP k p a b n gx gy th e bits size leg hC.wn we true (by rw[hn,eh he0,eh wK];rfl)
 obtain⟨eW,CC,xI⟩:=cD 9 (zF bits (EC.cn k) id (bl msg)) (cT (ax _ h0) ab)
 have II:=QI hk hC (d:=d) (m:=m) (s:=s) (leg:=leg) hP id hid msg aJ eW CC xI
 have kS:=Zu hk hC (d:=d) (m:=m) (s:=s) (leg:=leg) hP
 have hT:=ag6 hP k (p:=p) (a:=a) (b:=b) (nn:=n) (gx:=gx) (gy:=gy) (th:=th) (size:=size) leg Ad hi key v gn Tg arU
 have pq:=Db hP id _ _ _ (HK.at oN)
 obtain⟨sz,Ed⟩:=aa (Sh.size id)
 have Oa:0<sz:=by have:=(Sh.mQ oN).2.2.2;omega
 rw[<-Ed]at pq
 refine aq hP Tryz.func38 (ak _ rfl) (aD rfl) ?_
 intro A g K hA hg hK
 obtain⟨_,_,cmp,_,_,_,nn,_,fQ⟩:=A
 have f1:fQ true=false:=ln hA true
 have e1:cmp .eql (.ofNat sz) 0=false:=ja hA (b:=0) (by omega)
 have e2:cmp .lss (.ofNat 0) 64=true:=cZ hA (b:=64) (by decide)
 have e3:cmp .neq 1103 0=true:=yX hA (a:=1103) (b:=0) (by decide)
 cbv
 refine bq hg hO _root_.id trivial ?_
 cbv
 refine dJ hg pq ?_
 cbv
 rw[e1]
 cbv
 refine aZ hg IN (fun l=>l+3) ⟨rfl,trivial⟩ ?_
 cbv
 rw[f1]
 cbv
 refine gQ rfl hg rfl rfl kS (fun l=>l+3) rfl ⟨rfl,rfl,rfl,trivial⟩ rfl rfl rfl ?_
 rintro _ _ _ ⟨nn,less,rr,dr,rfl,rfl,rfl⟩ _
 refine⟨rfl,?_⟩
 simp only[aG,ae _ (Ez n nn less rr 0)]
 cbv
 refine aZ hg II (fun l=>l+3) ⟨rfl,rfl,rfl,trivial⟩ ?_
 cbv
 refine bH Nat (fun i=>i=0) (fun _=>0) (fun i=> [(51,.int .i64 (.ofNat i))]) [0,5,9,12,15,16,17] (fun _=> []) 0 rfl ?_ ?_
 ·exact a_
 rintro i rfl
 cbv
 rw[e2]
 cbv
 refine aZ hg hT (fun l=>if l=0 then 3 else if l=1 then 4 else 0) ⟨rfl,rfl,trivial⟩ ?_
 cbv
 rw[e3]
 cbv
 exact hK _ _ _ rfl
theorem ad6{P:Program}(hP:P=Tryz.prog){g:G}{F:FF}{L:LL}{n:Nat}{o:Oper}{x y:Operand}{yt:TypeId}(ho:o.op= .binOp .neq 31 x y yt){m0 N:Nat}{ms:List Nat}(hg:GI g m0 ms N)(aA:dD N o.dst=true){a b:Nat->Nat}{r:Bool}(hr:r= !lP a b)
 (hx:ev (Vg.look F) x=some (.agg (ws a 9))) (hy:ev (Vg.look F) y=some (.agg (ws b 9))) {K:FF->LL->Nat->Prop} (hK:K (cH F o.dst (.bool r)) L n):Step g P o K F L n:=by
 subst hP hr
 refine Cy hg aA (fun β act W hm hf=> ?_) hK
 obtain⟨e1,_⟩:=cq hf hx
 obtain⟨e2,_⟩:=cq hf hy
 refine⟨?_,trivial⟩
 have h1:act.eval x= .agg (qI a):=e1
 have h2:act.eval y= .agg (qI b):=e2
 have h4:Tryz.prog.eqGuardType Tryz.prog.depth 31=false:=by kernel_rfl
 have h3:∀xs ys,(eqGuard .neq 31 x y (.agg xs) (.agg ys)).run Tryz.prog W= .ok () W:=fun xs ys=>run_eqGuard_agg W .neq 31 x y xs ys h4
 unfold execOp
 simp only[ho,h1,h2,Sem.run_bind,h3,Result.andThen_ok,run_neq_struct,MN,Sem.run_pure,den]
end Go.Proofs.YtfocopihipejfaaGreat
