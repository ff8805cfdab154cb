/-
  This text proves what these texts prove: Hl, ShC, Hm, Hg, Hv, Hn, Ho. Conditions: those of each theorem.
-/
import Derived.Test.YtfocopihipejfaaGreatB18
import Derived.Test.YtfocopihipejfaaGreatB17
set_option maxHeartbeats 8000000
set_option linter.all false
namespace Go.Proofs.YtfocopihipejfaaGreat
open Go.Vg Go.RowKit
set_option maxRecDepth 200000
set_option cbv.maxSteps 100000000
section
variable {P:Program}{id:Nat}{KK:SK}{lf:List Nat->List Nat}{HB:List Nat->(SV->List SV)->Prop}
theorem QL(hP:P=Tryz.prog)(hO:SO P id KK lf HB)(M:List Nat)(s:ByteArray)(CH:SV->List SV)(rv:SV)(B:LL)(hM:∀x∈M,x<256)(aJ:M.length+s.size<140737488353000)(hh:HB M CH)(hR:bI 5 5 (lf M) rv B):
 ah P 143 [.ptr 0 0,.str s] (dA KK (CH rv)++B) 6 [1] (fun v L q=>∃dU ep B',HB (M++bl s) dU/\bI 5 6 (lf (M++bl s)) ep B'/\v= .int .i64 0/\L=dA KK (dU ep)++B'/\q=7):=by
 have hw:=hO.w1 M s CH rv B hM aJ hh hR
 refine ah.stream (Q:=HB (M++bl s)) ?_
 have lM:=hO.vQ hh
 have iB:=hO.o8 hh
 rcases hR.get with⟨rfl,rfl,cC⟩|⟨k0,c0,X0,fB,rfl,rfl,fH⟩
 ·refine aq hP Tryz.func143 ⟨(by show 0<6;decide),trivial,trivial⟩ (aD (by simp only[dA,du,cM,kL,mf,lM 6 .au rfl];rfl)) ?_
  intro A g K hA hg hK
  obtain⟨_,_,_,_,_,_,_,_,_,_,_,_,_,_,_,_,get⟩:=A
  cbv
  refine gQ rfl hg rfl rfl hw _root_.id rfl ⟨rfl,by rw[iB];rfl,rfl,rfl,rfl,trivial⟩ rfl rfl rfl ?_
  rintro _ _ _ ⟨dU,ep,B',q1,dK,rfl,rfl,rfl⟩ _
  have iM:=hO.o8 q1
  have oH:=hO.vQ q1
  rcases dK.get with⟨rfl,rfl,hr⟩|⟨k,c,X,hk,rfl,rfl,hX⟩
  ·refine⟨rfl,?_⟩
   simp only[aG,dA,du,cM,iM]
   cbv
   exact hK _ _ _ ⟨dU,.au,[],q1,by rw[hr];exact bI.nil _ _,rfl,⟨rfl,rfl,rfl,rfl,rfl,oH _ _ rfl,rfl,rfl,rfl,rfl,rfl,rfl,rfl,rfl,rfl,trivial⟩,rfl⟩
  ·have rX:∀ρ,bj ρ X=X:=fun ρ=>ae X (hX.b 0)
   refine⟨rfl,?_⟩
   simp only[aG,dA,du,cM,iM,rX]
   cbv
   exact hK _ _ _ ⟨dU,.slice 6 0 k c,_,q1,hX.row hk _ 6,rfl,⟨rfl,rfl,rfl,rfl,rfl,oH _ _ rfl,rfl,rfl,rfl,rfl,rfl,rfl,rfl,rfl,rfl,rfl,rfl,hX.b 7,trivial⟩,rfl⟩
 ·have rP:∀ρ,bj ρ X0=X0:=fun ρ=>ae X0 (fH.b 0)
  refine aq hP Tryz.func143 ⟨(by show 0<6;decide),trivial,trivial⟩ (aD (by simp only[dA,du,cM,kL,mf,lM 6 (.slice 5 0 k0 c0) rfl,fH.b 6];rfl)) ?_
  intro A g K hA hg hK
  obtain⟨_,_,_,_,_,_,_,_,_,_,_,_,_,_,_,_,get⟩:=A
  cbv
  refine gQ rfl hg rfl rfl hw _root_.id rfl ⟨rfl,by rw[iB];rfl,rfl,rfl,rfl,by rw[rP];rfl,trivial⟩ rfl rfl rfl ?_
  rintro _ _ _ ⟨dU,ep,B',q1,dK,rfl,rfl,rfl⟩ _
  have iM:=hO.o8 q1
  have oH:=hO.vQ q1
  rcases dK.get with⟨rfl,rfl,hr⟩|⟨k,c,X,hk,rfl,rfl,hX⟩
  ·refine⟨rfl,?_⟩
   simp only[aG,dA,du,cM,iM]
   cbv
   exact hK _ _ _ ⟨dU,.au,[],q1,by rw[hr];exact bI.nil _ _,rfl,⟨rfl,rfl,rfl,rfl,rfl,oH _ _ rfl,rfl,rfl,rfl,rfl,rfl,rfl,rfl,rfl,rfl,trivial⟩,rfl⟩
  ·have rX:∀ρ,bj ρ X=X:=fun ρ=>ae X (hX.b 0)
   refine⟨rfl,?_⟩
   simp only[aG,dA,du,cM,iM,rX]
   cbv
   exact hK _ _ _ ⟨dU,.slice 6 0 k c,_,q1,hX.row hk _ 6,rfl,⟨rfl,rfl,rfl,rfl,rfl,oH _ _ rfl,rfl,rfl,rfl,rfl,rfl,rfl,rfl,rfl,rfl,rfl,rfl,hX.b 7,trivial⟩,rfl⟩
theorem Mw(hP:P=Tryz.prog)(hO:SO P id KK lf HB)(M:List Nat)(dg:ByteArray)(CH:SV->List SV)(rv:SV)(B:LL)(hM:∀x∈M,x<256)(aJ:M.length<140737488353000)(fk:bl dg=Sh.of id M)(hh:HB M CH)(hR:bI 5 5 (lf M) rv B):
 ah P 144 [.ptr 0 0] (dA KK (CH rv)++B) 6 [] (fun v _ _=>v= .str dg):=by
 have hw:=hO.s1 M dg CH rv B hM aJ fk hh hR
 have lM:=hO.vQ hh
 have iB:=hO.o8 hh
 rcases hR.get with⟨rfl,rfl,cC⟩|⟨k0,c0,X0,fB,rfl,rfl,fH⟩
 ·refine aq hP Tryz.func144 ⟨(by show 0<6;decide),trivial⟩ (aD (by simp only[dA,du,cM,kL,mf,lM 6 .au rfl];rfl)) ?_
  intro A g K hA hg hK
  obtain⟨_,_,_,_,_,_,_,_,_,_,_,_,_,_,_,_,get⟩:=A
  cbv
  refine aZ hg hw _root_.id ⟨rfl,by rw[iB];rfl,rfl,rfl,rfl,trivial⟩ ?_
  cbv
  exact hK _ _ _ rfl
 ·have rP:∀ρ,bj ρ X0=X0:=fun ρ=>ae X0 (fH.b 0)
  refine aq hP Tryz.func144 ⟨(by show 0<6;decide),trivial⟩ (aD (by simp only[dA,du,cM,kL,mf,lM 6 (.slice 5 0 k0 c0) rfl,fH.b 6];rfl)) ?_
  intro A g K hA hg hK
  obtain⟨_,_,_,_,_,_,_,_,_,_,_,_,_,_,_,_,get⟩:=A
  cbv
  refine aZ hg hw _root_.id ⟨rfl,by rw[iB];rfl,rfl,rfl,rfl,by rw[rP];rfl,trivial⟩ ?_
  cbv
  exact hK _ _ _ rfl
theorem Mx(hP:P=Tryz.prog)(hO:SO P id KK lf HB)(s dg:ByteArray)(aJ:s.size<140737488353000)(fk:bl dg=Sh.of id (bl s)):
 ah P 101 [.int .i64 (.ofNat id),.str s] [] 0 [] (fun v _ _=>v= .aR [.str dg,.int .i64 0]):=by
 have hN:=hO.new
 refine aq hP Tryz.func101 (ak _ rfl) (aD rfl) ?_
 intro A g K hA hg hK
 obtain⟨_,_,cmp,_,_,_,_,_,_,_,_,_,_,_,_,_,get⟩:=A
 cbv
 refine gQ rfl hg rfl rfl hN _root_.id rfl trivial rfl rfl rfl ?_
 rintro _ _ _ ⟨CH,q0,rfl,rfl,rfl⟩ _
 have iB:=hO.o8 q0
 have hw:=QL hP hO [] s CH .au [] (fun x h=>by cases h) (by show 0+s.size<_;omega) q0 (by rw[hO.nil];exact bI.nil _ _)
 rw[cM]at hw
 refine⟨rfl,?_⟩
 have e0:cmp .neq 0 0=false:=ow hA (a:=0) (b:=0) rfl
 simp only[aG,dA,iB]
 cbv
 rw[e0]
 cbv
 refine gQ rfl hg rfl rfl hw (fun l=>if l=5 then 0 else l) rfl ⟨rfl,by rw[iB];rfl,rfl,rfl,rfl,trivial⟩ rfl rfl rfl ?_
 rintro _ _ _ ⟨dU,ep,B',q1,dK,rfl,rfl,rfl⟩ _
 have iM:=hO.o8 q1
 rcases dK.get with⟨rfl,rfl,hr⟩|⟨k,c,X,hk,rfl,rfl,hX⟩
 ·have hs:=Mw hP hO (bl s) dg dU .au [] (i' s) (by rw[bh];exact aJ) fk q1 (by rw[hr];exact bI.nil _ _)
  refine⟨rfl,?_⟩
  simp only[aG,dA,du,cM,iM]
  cbv
  refine aZ hg hs _root_.id ⟨rfl,by rw[iM];rfl,rfl,rfl,rfl,trivial⟩ ?_
  cbv
  exact hK _ _ _ rfl
 ·have rX:∀ρ,bj ρ X=X:=fun ρ=>ae X (hX.b 0)
  have hs:=Mw hP hO (bl s) dg dU _ _ (i' s) (by rw[bh];exact aJ) fk q1 (hX.row hk 5 5)
  refine⟨rfl,?_⟩
  simp only[aG,dA,du,cM,iM,rX]
  cbv
  refine aZ hg hs _root_.id ⟨rfl,by rw[iM];rfl,rfl,rfl,rfl,by rw[rX];rfl,trivial⟩ ?_
  cbv
  exact hK _ _ _ rfl
end
end Go.Proofs.YtfocopihipejfaaGreat
namespace Sh
/-! lengths and bytes of what the hashes give-/
theorem afj(n x:Nat):(be n x).length=n:=by unfold be;rw[fL,List.length_range]
theorem afi(n x:Nat):∀y∈be n x,y<256:=fun y hy=>by
 unfold be at hy
 obtain⟨i,_,rfl⟩:=iZ.1 hy
 exact ax _ (by decide)
theorem amb(n:Nat)(s:S8):(out n s).length=8*n:=by
 unfold out;simp only[dI,afj];omega
theorem ama(n:Nat)(s:S8):∀y∈out n s,y<256:=fun y hy=>by
 unfold out at hy
 simp only[xN]at hy
 rcases hy with((((((h|h)|h)|h)|h)|h)|h)|h<;>exact afi _ _ y h
theorem Nn(K:Kd)(s:S8)(size:Nat)(l:List Nat)(h:size<=8*(K.wb/8)):(hash K s size l).length=size:=by
 unfold hash
 rw[eY,amb];omega
theorem Nl(K:Kd)(s:S8)(size:Nat)(l:List Nat):∀y∈hash K s size l,y<256:=fun y hy=>ama _ _ y (xO hy)
theorem Ce{id:Nat}(h:1<=id/\id<=4)(l:List Nat):(of id l).length=size id:=by
 obtain rfl|rfl|rfl|rfl:id=1\/id=2\/id=3\/id=4:=by omega
 ·exact Nn aB i224 28 l (by decide)
 ·exact Nn aB i256 32 l (by decide)
 ·exact Nn Fb abO 48 l (by decide)
 ·exact Nn Fb abP 64 l (by decide)
theorem Cd(id:Nat)(l:List Nat):∀y∈of id l,y<256:=fun y hy=>by
 unfold of at hy
 split at hy
 ·exact Nl _ _ _ _ y hy
 ·exact Nl _ _ _ _ y hy
 ·exact Nl _ _ _ _ y hy
 ·exact Nl _ _ _ _ y hy
 ·cases hy
theorem mQ{id:Nat}(h:1<=id/\id<=4):size id<=vU id/\vU id<=128/\size id<=64/\28<=size id:=by
 obtain rfl|rfl|rfl|rfl:id=1\/id=2\/id=3\/id=4:=by omega
 all_goals decide
theorem xm{id:Nat}(h:1<=id/\id<=4)(k:List Nat):(key id k).length=vU id:=by
 unfold key
 have hb:=mQ h
 by_cases hk:vU id<k.length
 ·simp only[aj hk,dI,jq,Ce h];omega
 ·simp only[af hk,dI,jq];omega
theorem Ou(id:Nat)(k:List Nat)(hk:∀y∈k,y<256):∀y∈key id k,y<256:=fun y hy=>by
 unfold key at hy
 simp only at hy
 rcases List.mem_append.1 hy with h|h
 ·split at h
  ·exact Cd _ _ y h
  ·exact hk y h
 ·rw[(qM.1 h).2];decide
theorem PI{l:List Nat}(h:∀y∈l,y<256){x:Nat}(hx:x<256):∀y∈l.map (· ^^^x),y<256:=fun y hy=>by
 obtain⟨z,hz,rfl⟩:=iZ.1 hy
 exact si (n:=8) (h z hz) hx
theorem BO{id:Nat}(h:1<=id/\id<=4)(k m:List Nat):(jY id k m).length=size id:=Ce h _
theorem rj(id:Nat)(k m:List Nat):∀y∈jY id k m,y<256:=Cd _ _
structure Ok(d:Dr):Prop where
 id:1<=d.id/\d.id<=4
 kl:d.k.length=size d.id
 vl:d.v.length=size d.id
 kb:∀y∈d.k,y<256
 vb:∀y∈d.v,y<256
theorem Ok.jn{d:Dr}(h:Ok d)(s:List Nat):Ok (jn d s):=by
 unfold Sh.jn
 simp only
 split
 ·exact⟨h.id,BO h.id _ _,BO h.id _ _,rj _ _ _,rj _ _ _⟩
 ·exact⟨h.id,BO h.id _ _,BO h.id _ _,rj _ _ _,rj _ _ _⟩
theorem EX(d:Dr)(s:List Nat):(Sh.jn d s).id=d.id:=by
 unfold Sh.jn
 simp only
 split<;>rfl
theorem Wh(d:Dr)(s:List Nat):(Sh.jn d s).n=d.n:=by
 unfold Sh.jn
 simp only
 split<;>rfl
theorem Ok.new{id:Nat}(h:1<=id/\id<=4)(e:List Nat):Ok (new id e):=
 Ok.jn (d:=⟨id,List.replicate (size id) 0,List.replicate (size id) 1,1⟩) ⟨h,jq ..,jq ..,fun y hy=>by rw[(qM.1 hy).2];decide,fun y hy=>by rw[(qM.1 hy).2];decide⟩ e
end Sh
namespace Go.Proofs.YtfocopihipejfaaGreat
open Go.Vg Go.RowKit
set_option maxRecDepth 200000
set_option cbv.maxSteps 100000000
def XR(l:List Nat)(x i:Nat):List Nat:=(l.take i).map (· ^^^x)++l.drop i
theorem HO(l:List Nat)(x i:Nat):(XR l x i).length=l.length:=by
 unfold XR
 rw[dI,fL,eY,iY];omega
theorem Qf{l:List Nat}{x i:Nat}(h:i<l.length)(tl:List SV):(dk (XR l x i)++tl)[i]? =some (.int .u8 (.ofNat (l.getD i 0))):=by
 have hl:((l.take i).map (· ^^^x)).length=i:=by rw[fL,eY];omega
 rw[se (by rw[ml,HO];exact h)]
 unfold dk XR
 rw[xM,Hs (by rw[hl];exact aE i),hl,vH,Be,gY,jo h,Option.map_some,jQ,jo h]
 rfl
theorem Qg{l:List Nat}{x i:Nat}(h:i<l.length)(tl:List SV):Vg.splice (dk (XR l x i)++tl) i [.int .u8 (.ofNat (l.getD i 0^^^x))]=dk (XR l x (i+1))++tl:=by
 have hl:(dk ((l.take i).map (· ^^^x))).length=i:=by rw[ml,fL,eY];omega
 have h1:XR l x (i+1)=(l.take i).map (· ^^^x)++[l.getD i 0^^^x]++l.drop (i+1):=by
  unfold XR
  rw[LV h,CJ,jQ,jo h];rfl
 have h2:l.drop i=[l.getD i 0]++l.drop (i+1):=by
  rw[List.drop_eq_getElem_cons h,jQ,jo h];rfl
 rw[h1]
 unfold XR
 rw[h2]
 simp only[Vg.splice,Fv,jA,mU,pN]
 rw[CN hl,<-jA (dk _) (dk [l.getD i 0]),PT (by rw[dI,hl];rfl)]
 rfl
theorem Qm(q:Nat):∀n,an q (List.replicate n (.int .u8 0))=true
 |0=>rfl
 |n+1=>by rw[PX,an,Qm q n];rfl
theorem Mz{P:Program}(hP:P=Tryz.prog)(s r:ByteArray)(x:Nat)(hx:x<256)(hs:s.size<140737488353000)(hr:bl r=(bl s).map (· ^^^x)):ah P 191 [.str s,.int .u8 (.ofNat x)] [] 0 [] (fun v _ _=>v= .str r):=by
 obtain⟨l,hl⟩:=aa (bl s)
 obtain⟨m,hm⟩:=aa l.length
 have oT:s.size=m:=by rw[hm,hl,bh]
 have hU:=C9 hP
 refine aq hP Tryz.func191 (ak _ rfl) (aD rfl) ?_
 intro A g K hA hg hK
 obtain⟨bin,_,cmp,_,_,ix,_,_,_,_,_,_,_,_,nat,off,get,_,_,eU⟩:=A
 have f0:∀i,i<m->ix (.ofNat i) m=some i:=fun i h=>bB hA h
 have f1:∀i,off 0 i 1=i:=fun i=>(dh hA 0 i 1).trans (by omega)
 have f2:∀i,i<m->cmp .lss (.ofNat i) (.ofNat m)=true:=fun i h=>cZ hA h
 have f3:cmp .lss (.ofNat m) (.ofNat m)=false:=bM hA (by omega)
 have f4:∀i,i<m->bin .add .i64 (.ofNat i) 1=Int.ofNat (i+1):=fun i h=>gP hA (by omega)
 have f5:nat m=Int.ofNat m:=fZ hA m
 cbv
 refine aqA (hP▸aI) hg rfl rfl (show av 9=some _ from rfl) rfl (show av 89=some _ from rfl) rfl (hP▸Tryz.underlying5) rfl ?_
 intro c hc
 rw[oT]at hc⊢
 obtain⟨tl,w_⟩:=aa (List.replicate (c-m) (.int .u8 0):List SV)
 have Qw:∀q,an q tl=true:=fun q=>by rw[w_];exact Qm q _
 obtain⟨C,hC⟩:=aa (fun i=>dk (XR l x i)++tl:Nat->List SV)
 have bC:∀q i,an q (C i)=true:=fun q i=>by rw[hC];exact mX (C8 q _) (Qw q)
 have gC:∀i,i<m->get (C i) i=some (.int .u8 (.ofNat (l.getD i 0))):=fun i h=>by rw[hC];exact(jU hA _ _).trans (Qf (by omega) tl)
 have sC:∀i,i<m->eU (C i) i [.int .u8 (.ofNat (l.getD i 0^^^x))]=some (C (i+1)):=fun i h=>by
  rw[hC]
  refine(zb hA (by rw[dI,ml,HO];omega) _).trans ?_
  rw[Qg (by omega)]
 have sL:dZ s++List.replicate (c-m) (.int .u8 0)=C 0:=by rw[hC,<-w_];show _=dk ([].map _++l.drop 0)++tl;rw[lh,hl,qR];rfl
 rw[sL]
 have IH:((C m).drop 0).take m=dZ r:=by
  rw[hC,lh]
  show(dk (XR l x m)++tl).take m=_
  rw[CN (by rw[ml,HO,hm])]
  unfold XR
  rw[hm,Hy,Yh,gg,hl,<-hr,qR]
 have mI:r.size=m:=by rw[<-bh,hr,fL,hm,hl]
 have oP:∀i,i<m->l.getD i 0<256:=fun i h=>by
  rw[jQ,jo (by omega)]
  exact i' s _ (by rw[<-hl];exact LQ _)
 clear sL hC
 cbv
 rw[f5]
 cbv
 refine bH Nat (fun i=>i<=m) (fun i=>m-i) (fun i=> [(11,.int .i64 (.ofNat i))]) [0,1,5,10] (fun i=> [(0,C i)]) 0 (bf _) ?_ ?_
 ·exact aS (by repeat' (first|exact trivial|refine⟨rfl,rfl,rfl,?_⟩|refine⟨rfl,rfl,bC 1 0,?_⟩))
 intro i hi
 by_cases ab:i<m
 ·obtain⟨y,hy⟩:=aa (l.getD i 0)
  obtain⟨w,hw⟩:=aa (y^^^x)
  have nt:bin .xor .u8 (.ofNat y) (.ofNat x)=Int.ofNat w:=(pL hA rfl (by rw[hy];exact oP i ab) hx).trans (by rw[hw])
  have g1:=gC i ab
  have g2:=sC i ab
  rw[<-hy]at g1 g2
  rw[<-hw]at g2
  cbv
  rw[f2 i ab]
  cbv
  rw[f0 i ab]
  cbv
  rw[f1 i,g1]
  cbv
  rw[nt,f0 i ab]
  cbv
  rw[f1 i,g2]
  cbv
  rw[f4 i ab]
  refine⟨i+1,_root_.id,ab,(by show m-(i+1)<m-i;omega),?_⟩
  exact aS (by repeat' (first|exact trivial|refine⟨rfl,rfl,rfl,?_⟩|refine⟨rfl,rfl,bC 1 (i+1),?_⟩))
 ·obtain rfl:i=m:=by omega
  cbv
  rw[f3]
  cbv
  refine ES (hP▸aI) hg rfl rfl (show av 9=some _ from rfl) rfl (show av 89=some _ from rfl) rfl (hP▸Tryz.underlying5) rfl (show find _ 0=some _ from rfl) IH mI ?_
  cbv
  exact hK _ _ _ rfl
theorem ah.mac{P:Program}{f:FuncId}{args:List SV}{Lp:LL}{n0:Nat}{ms:List Nat}{KK:SK}{Q:(SV->List SV)->Prop}{t:TypeId}{l:List Nat}{w:SV}{mc:List SV}{lb q0:Nat}(h6:6≠lb)(h4:4<lb)(hq:Nat.ble n0 q0=true)(hw:gh q0 w=true)
 (h:ah P f args Lp n0 ms (fun v L q=>∃dU ep B',Q dU/\bI t lb l ep B'/\v=w/\E0 q0 L (dA KK (dU ep)++⟨6,mc,286⟩::B')/\q=q0)):
 ah P f args Lp n0 ms (fun v L q=>∃dU ep B',Q dU/\bI t lb l ep B'/\v=w/\L=dA KK (dU ep)++⟨6,mc,286⟩::B'/\q=q0):=by
 refine h.dj fun v L q dt=> ?_
 obtain⟨dU,ep,B',h1,h2,rfl,h4',rfl⟩:=dt
 refine⟨id,v,dA KK (dU ep)++⟨6,mc,286⟩::B',q,fD ⟨rfl,hw,trivial⟩ h4' ?_ hq,dU,ep,B',h1,h2,rfl,rfl,rfl⟩
 rcases h2.get with⟨_,rfl,_⟩|⟨k,c,X,_,_,rfl,_⟩
 ·rfl
 ·show tC [0,1,2,3,4,6,lb]=true
  have a0:(0:Nat)≠lb:=by omega
  have a1:1≠lb:=by omega
  have a2:2≠lb:=by omega
  have a3:3≠lb:=by omega
  have a4:4≠lb:=by omega
  simp[tC,eo,a0,a1,a2,a3,a4,h6,oE a0,oE a1,oE a2,oE a3,oE a4,oE h6]
section
variable {P:Program}{id:Nat}{KK:SK}{lf:List Nat->List Nat}{HB:List Nat->(SV->List SV)->Prop}
theorem agm(hP:P=Tryz.prog)(hO:SO P id KK lf HB)(hid:1<=id/\id<=4)(key ip ok:ByteArray)(jd:key.size<140737488353000)(uC:bl ip=(Sh.key id (bl key)).map (· ^^^54))(jf:bl ok=(Sh.key id (bl key)).map (· ^^^92)):
 ah P 164 [.int .i64 (.ofNat id),.str key] [] 0 [] (fun v L q=>∃CH rv B,HB (bl ip) CH/\bI 5 5 (lf (bl ip)) rv B/\v= .aR [.ptr 6 0,.int .i64 0]/\L=dA KK (CH rv)++⟨6,[.int .i64 (.ofNat id),.str ok,.ptr 0 0],286⟩::B/\q=7):=by
 refine ah.mac (Q:=HB (bl ip)) (by decide) (by decide) rfl rfl ?_
 have hN:=hO.new
 obtain⟨k,hk⟩:=aa (Sh.vU id)
 have lB:=Sh.mQ hid
 rw[<-hk]at lB
 have wC:ah P 190 [.int .i64 (.ofNat id)] [] 0 [] (fun v _ _=>v= .int .i64 (.ofNat k)):=by rw[hk];exact af8 hP id _ _ _ (HK.at hid)
 obtain⟨kz,pA⟩:=aa key.size
 have ary:ip.size<2^20:=by rw[<-bh,uC,fL,Sh.xm hid,<-hk];omega
 refine aq hP Tryz.func164 (ak _ rfl) (aD rfl) ?_
 intro A g K hA hg hK
 obtain⟨bin,_,cmp,_,_,_,_,_,_,_,iC,_,fK,_,_,_,get,_,sub⟩:=A
 have e0:cmp .neq 0 0=false:=ow hA (a:=0) (b:=0) rfl
 have e1:fK key=Int.ofNat kz:=(lK hA key).trans (by rw[pA])
 cbv
 refine gQ rfl hg rfl rfl hN _root_.id rfl trivial rfl rfl rfl ?_
 rintro _ _ _ ⟨CH,q0,rfl,rfl,rfl⟩ _
 have iB:=hO.o8 q0
 have hw:=QL hP hO [] ip CH .au [] (fun x h=>by cases h) (by show 0+ip.size<_;omega) q0 (by rw[hO.nil];exact bI.nil _ _)
 rw[cM]at hw
 refine⟨rfl,?_⟩
 simp only[aG,dA,iB]
 cbv
 rw[e0]
 cbv
 refine dJ hg wC ?_
 cbv
 rw[e1]
 by_cases Gk:k<kz
 ·obtain⟨kb,od⟩:∃b,bl b=Sh.of id (bl key):=⟨ib (Sh.of id (bl key)),gu (Sh.Cd _ _)⟩
  obtain⟨m,hm⟩:=aa kb.size
  have fJ:m<=k:=by rw[hm,<-bh,od,Sh.Ce hid];exact lB.1
  have FU:=Mx hP hO key kb jd od
  cbv
  rw[show cmp .gtr (.ofNat kz) (.ofNat k)=true from po hA Gk]
  cbv
  refine fe rfl hg rfl rfl FU ?_
  rintro _ _ _ rfl
  refine⟨⟨trivial,trivial,trivial⟩,?_⟩
  have Tu:kb.size=m:=by rw[hm]
  obtain⟨d,hd⟩:=aa (k-m)
  obtain⟨z,hz⟩:∃z,bl z=List.replicate d 0:=⟨ib (List.replicate d 0),gu fun x hx=>by rw[(qM.1 hx).2];decide⟩
  obtain⟨full,yH⟩:=aa (kb++z)
  have AN:z.size=d:=by rw[<-bh,hz,jq]
  have yF:bl full=Sh.key id (bl key):=by
   rw[yH,nO,hz]
   unfold Sh.key
   rw[bh,<-hk]
   rw[aj (by omega:k<key.size),od,hd,hm,<-bh,od]
  have Te:full.size=k:=by rw[<-bh,yF,Sh.xm hid,hk]
  have e2:fK kb=Int.ofNat m:=(lK hA kb).trans (by rw[hm])
  have e3:bin .sub .i64 (.ofNat k) (.ofNat m)=Int.ofNat d:=(er hA fJ (by omega)).trans (by rw[hd])
  have e4:iC kb z=some full:=(nK hA (by rw[Tu,AN];omega)).trans (by rw[yH])
  have F5:=MC hP ⟨#[0]⟩ 0 rfl d (by omega) z (by rw[hz];rfl)
  have Sq:=Mz hP full ip 54 (by decide) (by omega) (by rw[uC,yF])
  have I0:=Mz hP full ok 92 (by decide) (by omega) (by rw[jf,yF])
  cbv
  rw[e2]
  cbv
  rw[e3]
  cbv
  refine dJ hg F5 ?_
  cbv
  rw[e4]
  cbv
  refine dJ hg Sq ?_
  cbv
  refine gQ rfl hg rfl rfl hw (fun l=>if l=5 then 0 else l) rfl ⟨rfl,by rw[iB];rfl,rfl,rfl,rfl,trivial⟩ rfl rfl rfl ?_
  rintro _ _ _ ⟨dU,ep,B',q1,dK,rfl,rfl,rfl⟩ _
  have iM:=hO.o8 q1
  have oH:=hO.vQ q1
  rcases dK.get with⟨rfl,rfl,hr⟩|⟨k3,c3,X3,wN,rfl,rfl,hX⟩
  ·refine⟨rfl,?_⟩
   simp only[aG,dA,du,cM,iM]
   cbv
   refine dJ hg I0 ?_
   cbv
   exact hK _ _ _ ⟨dU,.au,[],q1,by rw[hr];exact bI.nil _ _,rfl,⟨rfl,rfl,rfl,rfl,rfl,oH _ _ rfl,rfl,rfl,rfl,rfl,rfl,rfl,rfl,rfl,rfl,rfl,rfl,rfl,trivial⟩,rfl⟩
  ·have rX:∀ρ,bj ρ X3=X3:=fun ρ=>ae X3 (hX.b 0)
   refine⟨rfl,?_⟩
   simp only[aG,dA,du,cM,iM,rX]
   cbv
   refine dJ hg I0 ?_
   cbv
   exact hK _ _ _ ⟨dU,.slice 5 0 k3 c3,_,q1,hX.row wN _ 5,rfl,⟨rfl,rfl,rfl,rfl,rfl,oH _ _ rfl,rfl,rfl,rfl,rfl,rfl,rfl,rfl,rfl,rfl,rfl,rfl,rfl,rfl,rfl,hX.b 7,trivial⟩,rfl⟩
 ·obtain⟨kb,od⟩:=aa key
  obtain⟨m,hm⟩:=aa kb.size
  have fJ:m<=k:=by rw[hm,od];omega
  rw[<-od]at e1⊢
  cbv
  rw[show cmp .gtr (.ofNat kz) (.ofNat k)=false from jV hA (by omega)]
  have Tu:kb.size=m:=by rw[hm]
  obtain⟨d,hd⟩:=aa (k-m)
  obtain⟨z,hz⟩:∃z,bl z=List.replicate d 0:=⟨ib (List.replicate d 0),gu fun x hx=>by rw[(qM.1 hx).2];decide⟩
  obtain⟨full,yH⟩:=aa (kb++z)
  have AN:z.size=d:=by rw[<-bh,hz,jq]
  have yF:bl full=Sh.key id (bl key):=by
   rw[yH,nO,hz]
   unfold Sh.key
   rw[bh,<-hk]
   rw[af (by omega:¬k<key.size),od,hd,hm,od,<-bh]
  have Te:full.size=k:=by rw[<-bh,yF,Sh.xm hid,hk]
  have e2:fK kb=Int.ofNat m:=(lK hA kb).trans (by rw[hm])
  have e3:bin .sub .i64 (.ofNat k) (.ofNat m)=Int.ofNat d:=(er hA fJ (by omega)).trans (by rw[hd])
  have e4:iC kb z=some full:=(nK hA (by rw[Tu,AN];omega)).trans (by rw[yH])
  have F5:=MC hP ⟨#[0]⟩ 0 rfl d (by omega) z (by rw[hz];rfl)
  have Sq:=Mz hP full ip 54 (by decide) (by omega) (by rw[uC,yF])
  have I0:=Mz hP full ok 92 (by decide) (by omega) (by rw[jf,yF])
  cbv
  rw[e2]
  cbv
  rw[e3]
  cbv
  refine dJ hg F5 ?_
  cbv
  rw[e4]
  cbv
  refine dJ hg Sq ?_
  cbv
  refine gQ rfl hg rfl rfl hw (fun l=>if l=5 then 0 else l) rfl ⟨rfl,by rw[iB];rfl,rfl,rfl,rfl,trivial⟩ rfl rfl rfl ?_
  rintro _ _ _ ⟨dU,ep,B',q1,dK,rfl,rfl,rfl⟩ _
  have iM:=hO.o8 q1
  have oH:=hO.vQ q1
  rcases dK.get with⟨rfl,rfl,hr⟩|⟨k3,c3,X3,wN,rfl,rfl,hX⟩
  ·refine⟨rfl,?_⟩
   simp only[aG,dA,du,cM,iM]
   cbv
   refine dJ hg I0 ?_
   cbv
   exact hK _ _ _ ⟨dU,.au,[],q1,by rw[hr];exact bI.nil _ _,rfl,⟨rfl,rfl,rfl,rfl,rfl,oH _ _ rfl,rfl,rfl,rfl,rfl,rfl,rfl,rfl,rfl,rfl,rfl,rfl,rfl,trivial⟩,rfl⟩
  ·have rX:∀ρ,bj ρ X3=X3:=fun ρ=>ae X3 (hX.b 0)
   refine⟨rfl,?_⟩
   simp only[aG,dA,du,cM,iM,rX]
   cbv
   refine dJ hg I0 ?_
   cbv
   exact hK _ _ _ ⟨dU,.slice 5 0 k3 c3,_,q1,hX.row wN _ 5,rfl,⟨rfl,rfl,rfl,rfl,rfl,oH _ _ rfl,rfl,rfl,rfl,rfl,rfl,rfl,rfl,rfl,rfl,rfl,rfl,rfl,rfl,rfl,hX.b 7,trivial⟩,rfl⟩
end
section
variable {P:Program}{id:Nat}{KK:SK}{lf:List Nat->List Nat}{HB:List Nat->(SV->List SV)->Prop}
theorem agn(hP:P=Tryz.prog)(hO:SO P id KK lf HB)(ok:ByteArray)(M:List Nat)(s:ByteArray)(CH:SV->List SV)(rv:SV)(B:LL)(hM:∀x∈M,x<256)(aJ:M.length+s.size<140737488353000)(hh:HB M CH)(hR:bI 5 5 (lf M) rv B):
 ah P 165 [.ptr 6 0,.str s] (dA KK (CH rv)++⟨6,[.int .i64 (.ofNat id),.str ok,.ptr 0 0],286⟩::B) 7 [1] (fun v L q=>∃dU ep B',HB (M++bl s) dU/\bI 5 7 (lf (M++bl s)) ep B'/\v= .int .i64 0/\L=dA KK (dU ep)++⟨6,[.int .i64 (.ofNat id),.str ok,.ptr 0 0],286⟩::B'/\q=8):=by
 have hw:=QL hP hO M s CH rv B hM aJ hh hR
 refine ah.mac (Q:=HB (M++bl s)) (by decide) (by decide) rfl rfl ?_
 have lM:=hO.vQ hh
 have iB:=hO.o8 hh
 rcases hR.get with⟨rfl,rfl,cC⟩|⟨k0,c0,X0,fB,rfl,rfl,fH⟩
 ·refine aq hP Tryz.func165 ⟨(by show 6<7;decide),trivial,trivial⟩ (aD (by simp only[dA,du,cM,kL,mf,lM 7 .au rfl];rfl)) ?_
  intro A g K hA hg hK
  obtain⟨_,_,_,_,_,_,_,_,_,_,_,_,_,_,_,_,get⟩:=A
  cbv
  refine gQ rfl hg rfl rfl hw _root_.id rfl ⟨rfl,by rw[iB];rfl,rfl,rfl,rfl,trivial⟩ rfl rfl rfl ?_
  rintro _ _ _ ⟨dU,ep,B',q1,dK,rfl,rfl,rfl⟩ _
  have iM:=hO.o8 q1
  have oH:=hO.vQ q1
  rcases dK.get with⟨rfl,rfl,hr⟩|⟨k,c,X,hk,rfl,rfl,hX⟩
  ·refine⟨rfl,?_⟩
   simp only[aG,dA,du,cM,iM]
   cbv
   exact hK _ _ _ ⟨dU,.au,[],q1,by rw[hr];exact bI.nil _ _,rfl,⟨rfl,rfl,rfl,rfl,rfl,oH _ _ rfl,rfl,rfl,rfl,rfl,rfl,rfl,rfl,rfl,rfl,rfl,rfl,rfl,trivial⟩,rfl⟩
  ·have rX:∀ρ,bj ρ X=X:=fun ρ=>ae X (hX.b 0)
   refine⟨rfl,?_⟩
   simp only[aG,dA,du,cM,iM,rX]
   cbv
   exact hK _ _ _ ⟨dU,.slice 7 0 k c,_,q1,hX.row hk _ 7,rfl,⟨rfl,rfl,rfl,rfl,rfl,oH _ _ rfl,rfl,rfl,rfl,rfl,rfl,rfl,rfl,rfl,rfl,rfl,rfl,rfl,rfl,rfl,hX.b 8,trivial⟩,rfl⟩
 ·have rP:∀ρ,bj ρ X0=X0:=fun ρ=>ae X0 (fH.b 0)
  refine aq hP Tryz.func165 ⟨(by show 6<7;decide),trivial,trivial⟩ (aD (by simp only[dA,du,cM,kL,mf,lM 7 (.slice 5 0 k0 c0) rfl,fH.b 7];rfl)) ?_
  intro A g K hA hg hK
  obtain⟨_,_,_,_,_,_,_,_,_,_,_,_,_,_,_,_,get⟩:=A
  cbv
  refine gQ rfl hg rfl rfl hw _root_.id rfl ⟨rfl,by rw[iB];rfl,rfl,rfl,rfl,by rw[rP];rfl,trivial⟩ rfl rfl rfl ?_
  rintro _ _ _ ⟨dU,ep,B',q1,dK,rfl,rfl,rfl⟩ _
  have iM:=hO.o8 q1
  have oH:=hO.vQ q1
  rcases dK.get with⟨rfl,rfl,hr⟩|⟨k,c,X,hk,rfl,rfl,hX⟩
  ·refine⟨rfl,?_⟩
   simp only[aG,dA,du,cM,iM]
   cbv
   exact hK _ _ _ ⟨dU,.au,[],q1,by rw[hr];exact bI.nil _ _,rfl,⟨rfl,rfl,rfl,rfl,rfl,oH _ _ rfl,rfl,rfl,rfl,rfl,rfl,rfl,rfl,rfl,rfl,rfl,rfl,rfl,trivial⟩,rfl⟩
  ·have rX:∀ρ,bj ρ X=X:=fun ρ=>ae X (hX.b 0)
   refine⟨rfl,?_⟩
   simp only[aG,dA,du,cM,iM,rX]
   cbv
   exact hK _ _ _ ⟨dU,.slice 7 0 k c,_,q1,hX.row hk _ 7,rfl,⟨rfl,rfl,rfl,rfl,rfl,oH _ _ rfl,rfl,rfl,rfl,rfl,rfl,rfl,rfl,rfl,rfl,rfl,rfl,rfl,rfl,rfl,hX.b 8,trivial⟩,rfl⟩
theorem Zm(hP:P=Tryz.prog)(hO:SO P id KK lf HB)(ok dg:ByteArray)(M:List Nat)(CH:SV->List SV)(rv:SV)(B:LL)(hM:∀x∈M,x<256)(aJ:M.length<140737488353000)(BR:ok.size<2^20)(hid:1<=id/\id<=4)(fk:bl dg=Sh.of id (bl ok++Sh.of id M))(hh:HB M CH)(hR:bI 5 7 (lf M) rv B):
 ah P 166 [.ptr 6 0] (dA KK (CH rv)++⟨6,[.int .i64 (.ofNat id),.str ok,.ptr 0 0],286⟩::B) 8 [] (fun v _ _=>v= .str dg):=by
 obtain⟨di,BJ⟩:∃d,bl d=Sh.of id M:=⟨ib (Sh.of id M),gu (Sh.Cd _ _)⟩
 obtain⟨full,yH⟩:=aa (ok++di)
 have NC:di.size=Sh.size id:=by rw[<-bh,BJ,Sh.Ce hid]
 have Ea:=Sh.mQ hid
 have Te:full.size<140737488353000:=by rw[yH,r_];omega
 have FU:=Mx hP hO full dg Te (by rw[yH,nO,BJ,fk])
 have lM:=hO.vQ hh
 have iB:=hO.o8 hh
 rcases hR.get with⟨rfl,rfl,cC⟩|⟨k0,c0,X0,fB,rfl,rfl,fH⟩
 ·have hs:=Mw hP hO M di CH .au [] hM aJ BJ hh (by rw[cC];exact bI.nil _ _)
  refine aq hP Tryz.func166 ⟨(by show 6<8;decide),trivial⟩ (aD (by simp only[dA,du,cM,kL,mf,lM 8 .au rfl];rfl)) ?_
  intro A g K hA hg hK
  obtain⟨_,_,_,_,_,_,_,_,_,_,iC,_,_,_,_,_,get⟩:=A
  have e1:iC ok di=some full:=(nK hA (by omega)).trans (by rw[yH])
  cbv
  refine tG (hP▸aI) hA hg (hP▸mixed) rfl rfl [(12,[0,1,2,3,4,5,6,7])] rfl ?_
  cbv
  refine aZ hg hs (fun l=>if l=5 then 7 else l) ⟨rfl,by rw[iB];rfl,rfl,rfl,rfl,trivial⟩ ?_
  cbv
  rw[e1]
  cbv
  refine eV (Dl rfl hg rfl rfl FU (fun _ _ _ h=>h) ⟨trivial,trivial,trivial⟩) ?_
  cbv
  exact hK _ _ _ rfl
 ·have rP:∀ρ,bj ρ X0=X0:=fun ρ=>ae X0 (fH.b 0)
  have hs:=Mw hP hO M di CH _ _ hM aJ BJ hh (fH.row fB 5 5)
  refine aq hP Tryz.func166 ⟨(by show 6<8;decide),trivial⟩ (aD (by simp only[dA,du,cM,kL,mf,lM 8 (.slice 7 0 k0 c0) rfl,fH.b 8];rfl)) ?_
  intro A g K hA hg hK
  obtain⟨_,_,_,_,_,_,_,_,_,_,iC,_,_,_,_,_,get⟩:=A
  have e1:iC ok di=some full:=(nK hA (by omega)).trans (by rw[yH])
  cbv
  refine tG (hP▸aI) hA hg (hP▸mixed) rfl rfl [(12,[0,1,2,3,4,5,6,7])] rfl ?_
  cbv
  refine aZ hg hs (fun l=>if l=5 then 7 else l) ⟨rfl,by rw[iB];rfl,rfl,rfl,rfl,by rw[rP];rfl,trivial⟩ ?_
  cbv
  rw[e1]
  cbv
  refine eV (Dl rfl hg rfl rfl FU (fun _ _ _ h=>h) ⟨trivial,trivial,trivial⟩) ?_
  cbv
  exact hK _ _ _ rfl
end
def KA:SK:=⟨198,199,172,173,297,255,260,261⟩
def Bc(z:Nat)(h0:Nat->Nat)(M:List Nat)(CH:SV->List SV):Prop:=
 ∃hf,aQ hf=Sh.aW Sh.aB (aQ h0) M/\CH=fun rv=>aV z M.length hf (fun j=>Sh.aB.ks.getD j 0) rv
theorem VM(ρ:Nat->Nat)(size n:Nat)(f kf:Nat->Nat)(rest:SV):bj ρ (aV size n f kf rest)=aV size n f kf (cK ρ rest):=by
 simp only[aV,aw,du,cM,bj,cK]
theorem afB{P:Program}(hP:P=Tryz.prog):ah P 171 [.ptr 0 0,.fn (.func 172) [] [],.fn (.func 173) [] []] [] 1 [] (fun v L q=>v= .aR [.fn (.func 198) [] [.ptr 2 0,.ptr 1 0],.fn (.func 199) [] [.ptr 3 0,.ptr 1 0]]/\L=[⟨1,[.ptr 0 0],255⟩,⟨2,[.fn (.func 172) [] []],260⟩,⟨3,[.fn (.func 173) [] []],261⟩]/\q=4):=by
 refine aq hP Tryz.func171 ⟨(by show 0<1;decide),⟨trivial,trivial⟩,⟨trivial,trivial⟩,trivial⟩ (aD rfl) ?_
 intro A g K hA hg hK
 cases A
 cbv
 exact hK _ _ _ ⟨rfl,rfl,rfl⟩
theorem afE{P:Program}(hP:P=Tryz.prog)(id z:Nat)(h0:Nat->Nat)(hid:(id=1/\z=224/\aQ h0=Sh.i224)\/(id=2/\z=256/\aQ h0=Sh.i256)):
 ah P 142 [.int .i64 (.ofNat id)] [] 0 [] (fun v L q=>∃CH,Bc z h0 [] CH/\v= .aR [.ptr 0 0,.int .i64 0]/\L=dA KA (CH .au)/\q=5):=by
 obtain⟨b,k,hk,hHK,hb⟩:∃b k,k=64/\HK id z b k/\((z=224/\aQ h0=Sh.i224)\/(z=256/\aQ h0=Sh.i256)):=by
  rcases hid with⟨rfl,rfl,h⟩|⟨rfl,rfl,h⟩
  ·exact⟨28,64,rfl,by unfold HK;omega,Or.inl ⟨rfl,h⟩⟩
  ·exact⟨32,64,rfl,by unfold HK;omega,Or.inr ⟨rfl,h⟩⟩
 have hO:=QK hP id z b k hHK
 obtain⟨HC,yi⟩:=aa (aV z 0 h0 (fun j=>Sh.aB.ks.getD j 0) .au)
 have zW:∃CH,Bc z h0 [] CH/\CH .au=HC:=⟨_,⟨h0,rfl,rfl⟩,yi.symm⟩
 have hN:ah P 170 [.int .i64 (.ofNat z)] [] 0 [] (fun v L q=>v= .aR [.ptr 0 0,.int .i64 0]/\L=[⟨0,HC,297⟩]/\q=1):=by
  rw[yi]
  exact afF hP z h0 _ rfl hb
 have By:=afB hP
 have YT:∀m,an m HC=true:=fun m=>by rw[yi];exact qe _ _ _ _ rfl
 have O5:∀ρ,bj ρ HC=HC:=fun ρ=>ae HC (YT 0)
 suffices raw:ah P 142 [.int .i64 (.ofNat id)] [] 0 [] (fun v L q=>v= .aR [.ptr 1 0,.int .i64 0]/\Pq (fun l=>l+1) 0 5 L (dA KA HC)/\q=6) by
  refine raw.dj fun v L q ⟨h1,h2,h3⟩=>⟨fun l=>l+1,.aR [.ptr 0 0,.int .i64 0],dA KA HC,5,?_,zW.choose,zW.choose_spec.1,rfl,by rw[zW.choose_spec.2],rfl⟩
  subst h1
  exact dH ⟨rfl,rfl,trivial⟩ h2 rfl rfl rfl
 clear zW hb yi
 refine aq hP Tryz.func142 (ak _ rfl) (aD rfl) ?_
 intro A g K hA hg hK
 obtain⟨_,_,cmp,_,_,_,_,_,fQ⟩:=A
 have e1:fQ true=false:=ln hA true
 have e2:cmp .eql (.ofNat k) 64=true:=iP hA (a:=k) (b:=64) hk
 cbv
 refine fe rfl hg rfl rfl hO ?_
 rintro _ _ _ rfl
 refine⟨by simp[bd,ay],?_⟩
 cbv
 rw[e1]
 cbv
 rw[e2]
 cbv
 refine bq hg hN _root_.id trivial ?_
 simp only[aG,O5]
 cbv
 refine bq hg By (fun l=>if l=0 then 2 else l) trivial ?_
 cbv
 exact hK _ _ _ ⟨rfl,⟨rfl,rfl,rfl,rfl,by rw[O5];rfl,rfl,rfl,YT 5,rfl,rfl,rfl,rfl,rfl,rfl,rfl,rfl,rfl,rfl,rfl,rfl,trivial⟩,rfl⟩
theorem afM{P:Program}(hP:P=Tryz.prog)(z:Nat)(h0:Nat->Nat)(h8:Sh.jI 32 (aQ h0))(M:List Nat)(s:ByteArray)(Hm:SV->List SV)(rv:SV)(B:LL)(hM:∀x∈M,x<256)(aJ:M.length+s.size<140737488353000)(hh:Bc z h0 M Hm)(hR:bI 5 5 (Sh.left Sh.aB M) rv B):
 ah P KA.f1 [.str s,.ptr 3 0,.ptr 2 0] (dA KA (Hm rv)++B) 6 [1] (fun v L q=>∃dU ep B',Bc z h0 (M++bl s) dU/\bI 5 6 (Sh.left Sh.aB (M++bl s)) ep B'/\v= .int .i64 0/\L=dA KA (dU ep)++B'/\q=7):=by
 refine ah.stream (Q:=Bc z h0 (M++bl s)) ?_
 obtain⟨hf,JB,rfl⟩:=hh
 obtain⟨n,hn⟩:=aa M.length
 obtain⟨n',D0⟩:=aa (M.length+s.size)
 obtain⟨kf,iU⟩:=aa (fun j=>Sh.aB.ks.getD j 0)
 have Gn:(M++bl s).length=n':=by rw[dI,bh,D0]
 rw[<-hn,<-iU]
 obtain⟨CH,uk⟩:=aa (fun f n rv=>aV z n f kf rv:(Nat->Nat)->Nat->SV->List SV)
 have iB:∀ρ f n rv,bj ρ (CH f n rv)=CH f n (cK ρ rv):=fun ρ f n rv=>by rw[uk];exact VM ..
 have lM:∀m f n rv,gh m rv=true->an m (CH f n rv)=true:=fun m f n rv h=>by rw[uk];exact qe _ _ _ _ h
 have zW:∀f,aQ f=Sh.aW Sh.aB (aQ h0) (M++bl s)->Bc z h0 (M++bl s) (CH f n'):=fun f h=>⟨f,h,by rw[uk,Gn,iU]⟩
 have hWr:∀rv B,bI 5 1 (Sh.left Sh.aB M) rv B->ah P 172 [.ptr 0 0,.str s] (⟨0,CH hf n rv,297⟩::B) 2 [0]
  (fun v L q=>∃aT ep B',aQ aT=Sh.aW Sh.aB (aQ h0) (M++bl s)/\bI 5 2 (Sh.left Sh.aB (M++bl s)) ep B'/\v= .int .i64 0/\L=⟨0,CH aT n' ep,297⟩::B'/\q=3):=fun rv B h=>by
  rw[uk]
  exact afN hP z h0 hf kf iU M s hM aJ h8 JB n hn n' D0 h
 show ah P KA.f1 _ (dA KA (aV z n hf kf rv)++B) _ _ _
 rw[show aV z n hf kf rv=CH hf n rv by rw[uk]]
 clear uk JB
 rcases hR.get with⟨rfl,rfl,cC⟩|⟨k0,c0,X0,fB,rfl,rfl,fH⟩
 ·have SL:=hWr .au [] (by rw[cC];exact bI.nil _ _)
  refine aq hP Tryz.func198 ⟨trivial,(by show 3<6;decide),(by show 2<6;decide),trivial⟩ (aD (by simp only[dA,du,cM,kL,mf,lM 6 hf n .au rfl];rfl)) ?_
  intro A g K hA hg hK
  obtain⟨_,_,_,_,_,_,_,_,_,_,_,_,_,_,_,_,get⟩:=A
  cbv
  refine gQ rfl hg rfl rfl SL (fun l=>if l=0 then 1 else 5) rfl ⟨by rw[iB];rfl,trivial⟩ rfl rfl rfl ?_
  rintro _ _ _ ⟨aT,ep,B',q1,dK,rfl,rfl,rfl⟩ _
  rcases dK.get with⟨rfl,rfl,hr⟩|⟨k,c,X,hk,rfl,rfl,hX⟩
  ·refine⟨rfl,?_⟩
   simp only[aG,iB]
   cbv
   exact hK _ _ _ ⟨CH aT n',.au,[],zW _ q1,by rw[hr];exact bI.nil _ _,rfl,⟨rfl,rfl,rfl,rfl,rfl,lM _ _ _ _ rfl,rfl,rfl,rfl,rfl,rfl,rfl,rfl,rfl,rfl,trivial⟩,rfl⟩
  ·have rX:∀ρ,bj ρ X=X:=fun ρ=>ae X (hX.b 0)
   refine⟨rfl,?_⟩
   simp only[aG,iB,rX]
   cbv
   exact hK _ _ _ ⟨CH aT n',.slice 6 0 k c,_,zW _ q1,hX.row hk _ 6,rfl,⟨rfl,rfl,rfl,rfl,rfl,lM _ _ _ _ rfl,rfl,rfl,rfl,rfl,rfl,rfl,rfl,rfl,rfl,rfl,rfl,hX.b 7,trivial⟩,rfl⟩
 ·have SL:=hWr _ _ (fH.row fB 5 1)
  have rP:∀ρ,bj ρ X0=X0:=fun ρ=>ae X0 (fH.b 0)
  refine aq hP Tryz.func198 ⟨trivial,(by show 3<6;decide),(by show 2<6;decide),trivial⟩ (aD (by simp only[dA,du,cM,kL,mf,lM 6 hf n (.slice 5 0 k0 c0) rfl,fH.b 6];rfl)) ?_
  intro A g K hA hg hK
  obtain⟨_,_,_,_,_,_,_,_,_,_,_,_,_,_,_,_,get⟩:=A
  cbv
  refine gQ rfl hg rfl rfl SL (fun l=>if l=0 then 1 else 5) rfl ⟨by rw[iB];rfl,by rw[rP];rfl,trivial⟩ rfl rfl rfl ?_
  rintro _ _ _ ⟨aT,ep,B',q1,dK,rfl,rfl,rfl⟩ _
  rcases dK.get with⟨rfl,rfl,hr⟩|⟨k,c,X,hk,rfl,rfl,hX⟩
  ·refine⟨rfl,?_⟩
   simp only[aG,iB]
   cbv
   exact hK _ _ _ ⟨CH aT n',.au,[],zW _ q1,by rw[hr];exact bI.nil _ _,rfl,⟨rfl,rfl,rfl,rfl,rfl,lM _ _ _ _ rfl,rfl,rfl,rfl,rfl,rfl,rfl,rfl,rfl,rfl,trivial⟩,rfl⟩
  ·have rX:∀ρ,bj ρ X=X:=fun ρ=>ae X (hX.b 0)
   refine⟨rfl,?_⟩
   simp only[aG,iB,rX]
   cbv
   exact hK _ _ _ ⟨CH aT n',.slice 6 0 k c,_,zW _ q1,hX.row hk _ 6,rfl,⟨rfl,rfl,rfl,rfl,rfl,lM _ _ _ _ rfl,rfl,rfl,rfl,rfl,rfl,rfl,rfl,rfl,rfl,rfl,rfl,hX.b 7,trivial⟩,rfl⟩
theorem afH{P:Program}(hP:P=Tryz.prog)(id z:Nat)(h0:Nat->Nat)(hid:(id=1/\z=224/\aQ h0=Sh.i224)\/(id=2/\z=256/\aQ h0=Sh.i256))(h8:Sh.jI 32 (aQ h0))(M:List Nat)(dg:ByteArray)(Hm:SV->List SV)(rv:SV)(B:LL)(hM:∀x∈M,x<256)(aJ:M.length<140737488353000)(fk:bl dg=Sh.of id M)(hh:Bc z h0 M Hm)(hR:bI 5 5 (Sh.left Sh.aB M) rv B):
 ah P KA.f2 [.ptr 4 0,.ptr 2 0] (dA KA (Hm rv)++B) 6 [] (fun v _ _=>v= .str dg):=by
 obtain⟨hf,JB,rfl⟩:=hh
 obtain⟨n,hn⟩:=aa M.length
 obtain⟨kf,iU⟩:=aa (fun j=>Sh.aB.ks.getD j 0)
 rw[<-hn,<-iU]
 have rm:(Sh.pad Sh.aB M).length/(2*Sh.aB.wb)<=M.length+1:=by
  rw[G1]
  simp only[dI,jq,pQ,mU,pN]
  show _/64<=_
  omega
 have hz:z<=4*64:=by rcases hid with⟨_,rfl,_⟩|⟨_,rfl,_⟩<;>decide
 have Gu:bl dg=(Sh.out 4 (Sh.aW Sh.aB (aQ h0) (Sh.pad Sh.aB M))).take (z/8):=by
  rw[fk]
  rcases hid with⟨rfl,rfl,h⟩|⟨rfl,rfl,h⟩
  ·rw[h];exact Sh.SU (by decide) _ _ _ rm
  ·rw[h];exact Sh.SU (by decide) _ _ _ rm
 obtain⟨CH,uk⟩:=aa (fun rv=>aV z n hf kf rv:SV->List SV)
 have iB:∀ρ rv,bj ρ (CH rv)=CH (cK ρ rv):=fun ρ rv=>by rw[uk];exact VM ..
 have lM:∀m rv,gh m rv=true->an m (CH rv)=true:=fun m rv h=>by rw[uk];exact qe _ _ _ _ h
 have DA:∀rv B,bI 5 1 (Sh.left Sh.aB M) rv B->ah P 173 [.ptr 0 0] (⟨0,CH rv,297⟩::B) 2 [] (fun v _ _=>v= .str dg):=fun rv B h=>by
  rw[uk]
  exact afJ hP z hz h0 hf kf iU M hM aJ h8 JB n hn h dg Gu
 show ah P KA.f2 _ (dA KA (aV z n hf kf rv)++B) _ _ _
 rw[show aV z n hf kf rv=CH rv by rw[uk]]
 clear uk JB Gu fk rm
 rcases hR.get with⟨rfl,rfl,cC⟩|⟨k0,c0,X0,fB,rfl,rfl,fH⟩
 ·have F8:=DA .au [] (by rw[cC];exact bI.nil _ _)
  refine aq hP Tryz.func199 ⟨(by show 4<6;decide),(by show 2<6;decide),trivial⟩ (aD (by simp only[dA,du,cM,kL,mf,lM 6 .au rfl];rfl)) ?_
  intro A g K hA hg hK
  obtain⟨_,_,_,_,_,_,_,_,_,_,_,_,_,_,_,_,get⟩:=A
  cbv
  refine aZ hg F8 (fun l=>if l=0 then 1 else 5) ⟨by rw[iB];rfl,trivial⟩ ?_
  cbv
  exact hK _ _ _ rfl
 ·have F8:=DA _ _ (fH.row fB 5 1)
  have rP:∀ρ,bj ρ X0=X0:=fun ρ=>ae X0 (fH.b 0)
  refine aq hP Tryz.func199 ⟨(by show 4<6;decide),(by show 2<6;decide),trivial⟩ (aD (by simp only[dA,du,cM,kL,mf,lM 6 (.slice 5 0 k0 c0) rfl,fH.b 6];rfl)) ?_
  intro A g K hA hg hK
  obtain⟨_,_,_,_,_,_,_,_,_,_,_,_,_,_,_,_,get⟩:=A
  cbv
  refine aZ hg F8 (fun l=>if l=0 then 1 else 5) ⟨by rw[iB];rfl,by rw[rP];rfl,trivial⟩ ?_
  cbv
  exact hK _ _ _ rfl
theorem Pa{P:Program}(hP:P=Tryz.prog)(id z:Nat)(h0:Nat->Nat)(hid:(id=1/\z=224/\aQ h0=Sh.i224)\/(id=2/\z=256/\aQ h0=Sh.i256))(h8:Sh.jI 32 (aQ h0)):SO P id KA (Sh.left Sh.aB) (Bc z h0) where
 vQ:=fun⟨_,_,h⟩ m rv hr=>by rw[h];exact qe _ _ _ _ hr
 o8:=fun⟨f,h1,h2⟩ ρ rv=>by rw[h2];exact VM ..
 new:=afE hP id z h0 hid
 nil:=rfl
 w1:=fun M s CH rv B hM aJ hh hR=>afM hP z h0 h8 M s CH rv B hM aJ hh hR
 s1:=fun M dg CH rv B hM aJ fk hh hR=>afH hP id z h0 hid h8 M dg CH rv B hM aJ fk hh hR
def KB:SK:=⟨204,205,176,177,306,262,266,267⟩
def HBB(z:Nat)(h0:Nat->Nat)(M:List Nat)(CH:SV->List SV):Prop:=
 ∃hf,soB hf=Sh.aW Sh.Fb (soB h0) M/\CH=fun rv=>ai4 z M.length hf (fun j=>Sh.Fb.ks.getD j 0) rv
section
variable {P:Program}{id:Nat}{KK:SK}{lf:List Nat->List Nat}{HB:List Nat->(SV->List SV)->Prop}
theorem Zi(hP:P=Tryz.prog)(hO:SO P id KK lf HB)(hid:1<=id/\id<=4)(key msg dg:ByteArray)(jd:key.size<140737488353000)(oT:msg.size<2^39)(fk:bl dg=Sh.jY id (bl key) (bl msg)):
 ah P 130 [.int .i64 (.ofNat id),.str key,.str msg] [] 0 [] (fun v _ _=>v= .aR [.str dg,.int .i64 0]):=by
 have lB:=Sh.mQ hid
 have kE:=Sh.Ou id (bl key) (i' key)
 obtain⟨ip,uC⟩:∃b,bl b=(Sh.key id (bl key)).map (· ^^^54):=⟨ib ((Sh.key id (bl key)).map (· ^^^54)),gu (Sh.PI kE (by decide))⟩
 obtain⟨ok,jf⟩:∃b,bl b=(Sh.key id (bl key)).map (· ^^^92):=⟨ib ((Sh.key id (bl key)).map (· ^^^92)),gu (Sh.PI kE (by decide))⟩
 have his:ip.size<2^20:=by rw[<-bh,uC,fL,Sh.xm hid];omega
 have BR:ok.size<2^20:=by rw[<-bh,jf,fL,Sh.xm hid];omega
 have hN:=agm hP hO hid key ip ok jd uC jf
 obtain⟨M,hM⟩:=aa (bl ip++bl msg)
 have IU:∀x∈M,x<256:=fun x h=>by
  rw[hM]at h
  rcases List.mem_append.1 h with h|h
  ·exact i' ip x h
  ·exact i' msg x h
 have Sf:M.length<140737488353000:=by rw[hM,dI,bh,bh];omega
 have aaQ:bl dg=Sh.of id (bl ok++Sh.of id M):=by rw[fk,hM,uC,jf];rfl
 refine aq hP Tryz.func130 (ak _ rfl) (aD rfl) ?_
 intro A g K hA hg hK
 obtain⟨_,_,cmp,_,_,_,_,_,_,_,_,_,_,_,_,_,get⟩:=A
 have e0:cmp .neq 0 0=false:=ow hA (a:=0) (b:=0) rfl
 cbv
 refine gQ rfl hg rfl rfl hN _root_.id rfl trivial rfl rfl rfl ?_
 rintro _ _ _ ⟨CH,rv,B,q0,hR,rfl,rfl,rfl⟩ _
 have iB:=hO.o8 q0
 have hw:=agn hP hO ok (bl ip) msg CH rv B (i' ip) (by rw[bh];omega) q0 hR
 rw[<-hM]at hw
 rcases hR.get with⟨rfl,rfl,cC⟩|⟨k0,c0,X0,fB,rfl,rfl,fH⟩
 ·refine⟨rfl,?_⟩
  simp only[aG,dA,du,cM,iB]
  cbv
  rw[e0]
  cbv
  refine gQ rfl hg rfl rfl hw _root_.id rfl ⟨rfl,by rw[iB];rfl,rfl,rfl,rfl,rfl,trivial⟩ rfl rfl rfl ?_
  rintro _ _ _ ⟨dU,ep,B',q1,dK,rfl,rfl,rfl⟩ _
  have iM:=hO.o8 q1
  have hs:=Zm hP hO ok dg M dU ep B' IU Sf BR hid aaQ q1 dK
  rcases dK.get with⟨rfl,rfl,hr⟩|⟨k,c,X,hk,rfl,rfl,hX⟩
  ·refine⟨rfl,?_⟩
   simp only[aG,dA,du,cM,iM]
   cbv
   refine aZ hg hs _root_.id ⟨rfl,by rw[iM];rfl,rfl,rfl,rfl,rfl,trivial⟩ ?_
   cbv
   exact hK _ _ _ rfl
  ·have rX:∀ρ,bj ρ X=X:=fun ρ=>ae X (hX.b 0)
   refine⟨rfl,?_⟩
   simp only[aG,dA,du,cM,iM,rX]
   cbv
   refine aZ hg hs _root_.id ⟨rfl,by rw[iM];rfl,rfl,rfl,rfl,rfl,by rw[rX];rfl,trivial⟩ ?_
   cbv
   exact hK _ _ _ rfl
 ·have rP:∀ρ,bj ρ X0=X0:=fun ρ=>ae X0 (fH.b 0)
  refine⟨rfl,?_⟩
  simp only[aG,dA,du,cM,iB,rP]
  cbv
  rw[e0]
  cbv
  refine gQ rfl hg rfl rfl hw _root_.id rfl ⟨rfl,by rw[iB];rfl,rfl,rfl,rfl,rfl,by rw[rP];rfl,trivial⟩ rfl rfl rfl ?_
  rintro _ _ _ ⟨dU,ep,B',q1,dK,rfl,rfl,rfl⟩ _
  have iM:=hO.o8 q1
  have hs:=Zm hP hO ok dg M dU ep B' IU Sf BR hid aaQ q1 dK
  rcases dK.get with⟨rfl,rfl,hr⟩|⟨k,c,X,hk,rfl,rfl,hX⟩
  ·refine⟨rfl,?_⟩
   simp only[aG,dA,du,cM,iM]
   cbv
   refine aZ hg hs _root_.id ⟨rfl,by rw[iM];rfl,rfl,rfl,rfl,rfl,trivial⟩ ?_
   cbv
   exact hK _ _ _ rfl
  ·have rX:∀ρ,bj ρ X=X:=fun ρ=>ae X (hX.b 0)
   refine⟨rfl,?_⟩
   simp only[aG,dA,du,cM,iM,rX]
   cbv
   refine aZ hg hs _root_.id ⟨rfl,by rw[iM];rfl,rfl,rfl,rfl,rfl,by rw[rX];rfl,trivial⟩ ?_
   cbv
   exact hK _ _ _ rfl
end
theorem agb{P:Program}(hP:P=Tryz.prog)(id:Nat)(jX:1<=id/\id<=2)(key msg dg:ByteArray)(jd:key.size<140737488353000)(oT:msg.size<2^39)(fk:bl dg=Sh.jY id (bl key) (bl msg)):
 ah P 130 [.int .i64 (.ofNat id),.str key,.str msg] [] 0 [] (fun v _ _=>v= .aR [.str dg,.int .i64 0]):=by
 have hid:1<=id/\id<=4:=⟨jX.1,eH jX.2 (by decide)⟩
 obtain rfl|rfl:id=1\/id=2:=by omega
 ·exact Zi hP (Pa hP 1 224 (wj Sh.i224) (Or.inl ⟨rfl,rfl,rfl⟩) (by unfold Sh.jI;decide)) hid key msg dg jd oT fk
 ·exact Zi hP (Pa hP 2 256 (wj Sh.i256) (Or.inr ⟨rfl,rfl,rfl⟩) (by unfold Sh.jI;decide)) hid key msg dg jd oT fk
end Go.Proofs.YtfocopihipejfaaGreat
namespace Go.Vg
open Go.RowKit
section
variable {P:Program}{T:Nat->Option Ty}{g:G}
theorem aaa(hT:cI P T){o:Oper}{m0 N:Nat}{ms:List Nat}(hg:GI g m0 ms N)(aA:dD N o.dst=true){x:Operand}{src dst:Nat}(ho:o.op= .convert src dst x){i j:Ty}(hs:T dst=some i)(nq:i.d= .s){e es:Nat}(ht:T src=some j)(hd:j.d= .sl e es)(he:P.underlying e=some (.int .u8))
 {F:Nat->Option SV} {M:Nat->Option aC} {l q m c:Nat} (hx:ev F x=some (.slice l q m c)) {b:aC} (hl:M l=some b) {s:ByteArray} (hb:(b.cs.drop q).take m=dZ s) (hm:s.size=m):EN g P o F M (.str s) []:=by
 have h1:=A7 hT hs nq
 have h2:=(ma hT ht hd).1
 refine Is hg aA fun β p F' L' a W hF hM fb hf=> ?_
 have E:∀z∈o.op.operands.toList,ev F' z=ev F z:=fun z hz=>FG fun t ht=>hF t (EU hz ht)
 rw[ho]at E
 obtain⟨e1,b1⟩:=cq hf ((E x (by simp[Op.operands])).trans hx)
 refine⟨O9 ho ?_,trivial⟩
 rw[e1]
 have hc:=cells_from fb (hM l b hl) q m
 rw[hb,Mq]at hc
 have:=run_convert_bytes_back (P:=P) W src dst e ⟨β l,q,none⟩ c s.data.toList h2 he h1 (fun k hk=>hc k _ (by simp[jo (show k<s.data.toList.length from hk)]))
 have hlen:s.data.toList.length=m:=by rw[<-hm];rfl
 rw[hlen]at this
 simpa [den]using this
end
end Go.Vg
namespace Go.Proofs.YtfocopihipejfaaGreat
open Go.Vg Go.RowKit
set_option maxRecDepth 200000
set_option cbv.maxSteps 100000000
theorem QH{P:Program}(hP:P=Tryz.prog)(id:Nat)(jX:1<=id/\id<=2)(k v m dg:ByteArray)(n:Nat)(jd:k.size<2^20)(oT:m.size<2^30)(fk:bl dg=Sh.jY id (bl k) (bl m)):
 ah P 83 [.ptr 0 0,.str m] [⟨0,[.int .i64 (.ofNat id),.str k,.str v,.int .i64 (.ofNat n)],134⟩] 1 [] (fun v _ _=>v= .str dg):=by
 have hid:1<=id/\id<=4:=⟨jX.1,eH jX.2 (by decide)⟩
 have hH:=agb hP id jX k m dg (by omega) (by omega) fk
 refine aq hP Tryz.func83 ⟨(by show 0<1;decide),trivial,trivial⟩ (aD rfl) ?_
 intro A g K hA hg hK
 cases A
 cbv
 refine cm hP hA hg ?_
 cbv
 refine eV (Dl rfl hg rfl rfl hH (fun _ _ _ h=>h) ⟨trivial,trivial,trivial⟩) ?_
 cbv
 exact hK _ _ _ rfl
theorem ad8(s:ByteArray):Cz .eql s (ByteArray.mk #[])=decide (bl s=[]):=by
 show(s.toList==(ByteArray.mk #[]).toList)=_
 rw[ByteArray.toList_eq,ByteArray.toList_eq]
 unfold bl
 cases s.data.toList<;>rfl
theorem ad9(s:ByteArray):Cz .neq s (ByteArray.mk #[])= !decide (bl s=[]):=by
 rw[<-ad8];rfl
def gG(id:Nat)(s:List Nat)(k v:ByteArray):Nat->ByteArray×ByteArray
 |0=>(k,v)
 |i+1=>(ib (Sh.jY id (bl (gG id s k v i).1) (bl (gG id s k v i).2++[i]++s)),ib (Sh.jY id (bl (ib (Sh.jY id (bl (gG id s k v i).1) (bl (gG id s k v i).2++[i]++s)))) (bl (gG id s k v i).2)))
theorem abS(id:Nat)(hid:1<=id/\id<=4)(s:List Nat)(k v:ByteArray)(hk:k.size<=64)(hv:v.size<=64):∀i,(gG id s k v i).1.size<=64/\(gG id s k v i).2.size<=64
 |0=>⟨hk,hv⟩
 |i+1=>by
  have hb:=Sh.mQ hid
  constructor
  ·rw[gG,<-bh,gu (Sh.rj _ _ _),Sh.BO hid];omega
  ·rw[gG,<-bh,gu (Sh.rj _ _ _),Sh.BO hid];omega
theorem abT(id:Nat)(s:List Nat)(k v:ByteArray)(n:Nat)(i:Nat)(hi:i=if s=[]then 1 else 2):bl (gG id s k v i).1=(Sh.jn ⟨id,bl k,bl v,n⟩ s).k/\bl (gG id s k v i).2=(Sh.jn ⟨id,bl k,bl v,n⟩ s).v:=by
 unfold Sh.jn
 simp only
 by_cases hs:s=[]
 ·rw[aj hs]at hi
  subst hi
  rw[aj hs]
  simp only[gG,gu (Sh.rj _ _ _),and_self]
 ·rw[af hs]at hi
  subst hi
  rw[af hs]
  simp only[gG,gu (Sh.rj _ _ _),and_self]
theorem Mu{P:Program}(hP:P=Tryz.prog)(id:Nat)(jX:1<=id/\id<=2)(k v s:ByteArray)(n:Nat)(jd:k.size<=64)(iz:v.size<=64)(N_:s.size<2^20)(k' v':ByteArray)(dF:bl k'=(Sh.jn ⟨id,bl k,bl v,n⟩ (bl s)).k)(jv:bl v'=(Sh.jn ⟨id,bl k,bl v,n⟩ (bl s)).v):
 ah P 82 [.ptr 0 0,.str s] [⟨0,[.int .i64 (.ofNat id),.str k,.str v,.int .i64 (.ofNat n)],134⟩] 1 [0] (fun w L q=>w= .aR []/\L=[⟨0,[.int .i64 (.ofNat id),.str k',.str v',.int .i64 (.ofNat n)],134⟩]/\q=1):=by
 have hid:1<=id/\id<=4:=⟨jX.1,eH jX.2 (by decide)⟩
 refine ah.dj (R:=fun w L q=>w= .aR []/\find L 0=some ⟨0,[.int .i64 (.ofNat id),.str k',.str v',.int .i64 (.ofNat n)],134⟩) ?_ fun w L q ⟨h1,h2⟩=>⟨_root_.id,.aR [],_,1,by subst h1;exact fD ⟨rfl,rfl,trivial⟩ ⟨h2,rfl,rfl,trivial⟩ rfl rfl,rfl,rfl,rfl⟩
 have aJ:=abS id hid (bl s) k v jd iz
 have lA:∀i,i=(if bl s=[]then 1 else 2)->(gG id (bl s) k v i).1=k'/\(gG id (bl s) k v i).2=v':=fun i hi=>by
  have:=abT id (bl s) k v n i hi
  exact⟨ph (this.1.trans dF.symm),ph (this.2.trans jv.symm)⟩
 have Dt:∀i,bl (gG id (bl s) k v (i+1)).1=Sh.jY id (bl (gG id (bl s) k v i).1) (bl (gG id (bl s) k v i).2++[i]++bl s):=fun i=>by rw[gG,gu (Sh.rj _ _ _)]
 have uq:∀i,bl (gG id (bl s) k v (i+1)).2=Sh.jY id (bl (gG id (bl s) k v (i+1)).1) (bl (gG id (bl s) k v i).2):=fun i=>by rw[gG,gu (Sh.rj _ _ _)]
 obtain⟨K0,FV⟩:=aa (fun i=>(gG id (bl s) k v i).1:Nat->ByteArray)
 obtain⟨V0,ng⟩:=aa (fun i=>(gG id (bl s) k v i).2:Nat->ByteArray)
 replace aJ:∀i,(K0 i).size<=64/\(V0 i).size<=64:=fun i=>by rw[FV,ng];exact aJ i
 replace lA:∀i,i=(if bl s=[]then 1 else 2)->K0 i=k'/\V0 i=v':=fun i hi=>by rw[FV,ng];exact lA i hi
 replace Dt:∀i,bl (K0 (i+1))=Sh.jY id (bl (K0 i)) (bl (V0 i)++[i]++bl s):=fun i=>by rw[FV,ng];exact Dt i
 replace uq:∀i,bl (V0 (i+1))=Sh.jY id (bl (K0 (i+1))) (bl (V0 i)):=fun i=>by rw[FV,ng];exact uq i
 have fB:k=K0 0:=by rw[FV];rfl
 have kH:v=V0 0:=by rw[ng];rfl
 rw[fB,kH]
 clear FV ng
 have hM:∀ (k v m dg:ByteArray),k.size<=64->m.size<2^30->bl dg=Sh.jY id (bl k) (bl m)->ah P 83 [.ptr 0 0,.str m] [⟨0,[.int .i64 (.ofNat id),.str k,.str v,.int .i64 (.ofNat n)],134⟩] 1 [] (fun v _ _=>v= .str dg):=fun k v m dg h1 h2 h3=>QH hP id jX k v m dg n (by omega) h2 h3
 refine aq hP Tryz.func82 ⟨(by show 0<1;decide),trivial,trivial⟩ (aD rfl) ?_
 intro A g K hA hg hK
 obtain⟨bin,_,cmp,_,aX,_,_,_,_,_,iC,gH⟩:=A
 have f1:∀i,i<2->cmp .lss (.ofNat i) 2=true:=fun i h=>cZ hA (b:=2) h
 have f2:cmp .lss (.ofNat 2) 2=false:=bM hA (a:=2) (b:=2) (by omega)
 have f3:∀i,i<2->bin .add .i64 (.ofNat i) 1=Int.ofNat (i+1):=fun i h=>gP hA (by omega)
 have f4:∀i,i<2->aX .u8 (.ofNat i)=Int.ofNat i:=fun i h=>(Bo hA i).trans (by rw[aO (by omega)])
 have f5:cmp .eql (.ofNat 1) 1=true:=iP hA (a:=1) (b:=1) rfl
 have f6:cmp .eql (.ofNat 0) 1=false:=ja hA (a:=0) (b:=1) (by decide)
 have f7:gH .eql s (ByteArray.mk #[])=decide (bl s=[]):=by
  have e:gH=Ar.real.gH:=aK Ar.gH hA
  rw[e]
  exact ad8 s
 cbv
 refine bH Nat (fun i=>i<=2/\(i=2->bl s≠ [])) (fun i=>2-i) (fun i=> [(8,.int .i64 (.ofNat i))]) [0,1,4] (fun i=> [(0,[.int .i64 (.ofNat id),.str (K0 i),.str (V0 i),.int .i64 (.ofNat n)])]) 0 ⟨bf _,fun h=>by cases h⟩ ?_ ?_
 ·exact a_
 rintro i ⟨hi,oM⟩
 by_cases ab:i<2
 ·obtain⟨b1,cS⟩:=aa (⟨#[UInt8.ofNat i]⟩:ByteArray)
  have SZ:bl b1=[i]:=by
   rw[cS]
   show [(UInt8.ofNat i).toNat]=[i]
   have:i=0\/i=1:=by omega
   rcases this with rfl|rfl<;>rfl
  have S2:b1.size=1:=by rw[<-bh,SZ];rfl
  obtain⟨m1,b_⟩:=aa (V0 i++b1)
  obtain⟨m2,cU⟩:=aa (m1++s)
  have hz:=aJ i
  have uK:=aJ (i+1)
  have TA:m1.size<=65:=by rw[b_,r_,S2];omega
  have TB:m2.size<2^21:=by rw[cU,r_];omega
  have g1:iC (V0 i) b1=some m1:=(nK hA (by omega)).trans (by rw[b_])
  have g2:iC m1 s=some m2:=(nK hA (by omega)).trans (by rw[cU])
  have hMa:=hM (K0 i) (V0 i) m2 (K0 (i+1)) hz.1 (by omega) (by rw[Dt,cU,nO,b_,nO,SZ])
  have IU:=hM (K0 (i+1)) (V0 i) (V0 i) (V0 (i+1)) uK.1 (by omega) (uq i)
  have g3:dZ b1=[.int .u8 (.ofNat i)]:=by rw[qR,SZ];rfl
  cbv
  rw[f1 i ab]
  cbv
  by_cases dQ:i=1
  ·rw[show cmp .eql (.ofNat i) 1=true from iP hA (b:=1) dQ]
   cbv
   by_cases hs:bl s=[]
   ·rw[f7,eh hs]
    cbv
    have:=lA 1 (by rw[aj hs])
    rw[<-dQ]at this
    exact hK _ _ _ ⟨rfl,by rw[<-this.1,<-this.2];rfl⟩
   ·rw[f7,da hs]
    cbv
    refine cm hP hA hg ?_
    cbv
    rw[f4 i ab]
    cbv
    refine eV (aaa (hP▸aI) hg rfl rfl (show av 9=some _ from rfl) rfl (show av 89=some _ from rfl) rfl (hP▸Tryz.underlying5) rfl rfl (s:=b1) (by rw[g3];rfl) S2) ?_
    cbv
    rw[g1]
    cbv
    rw[g2]
    cbv
    refine aY hg hMa _root_.id ⟨rfl,trivial⟩ ?_
    cbv
    refine aZ hg IU _root_.id ⟨rfl,trivial⟩ ?_
    cbv
    rw[f3 i ab]
    refine⟨i+1,_root_.id,⟨ab,fun _=>hs⟩,(by show 2-(i+1)<2-i;omega),?_⟩
    exact a_
  ·rw[show cmp .eql (.ofNat i) 1=false from ja hA (b:=1) dQ]
   cbv
   refine cm hP hA hg ?_
   cbv
   rw[f4 i ab]
   cbv
   refine eV (aaa (hP▸aI) hg rfl rfl (show av 9=some _ from rfl) rfl (show av 89=some _ from rfl) rfl (hP▸Tryz.underlying5) rfl rfl (s:=b1) (by rw[g3];rfl) S2) ?_
   cbv
   rw[g1]
   cbv
   rw[g2]
   cbv
   refine aY hg hMa _root_.id ⟨rfl,trivial⟩ ?_
   cbv
   refine aZ hg IU _root_.id ⟨rfl,trivial⟩ ?_
   cbv
   rw[f3 i ab]
   refine⟨i+1,_root_.id,⟨ab,fun h=>by omega⟩,(by show 2-(i+1)<2-i;omega),?_⟩
   exact a_
 ·obtain rfl:i=2:=by omega
  have:=lA 2 (by rw[af (oM rfl)])
  cbv
  rw[f2]
  cbv
  exact hK _ _ _ ⟨rfl,by rw[<-this.1,<-this.2];rfl⟩
end Go.Proofs.YtfocopihipejfaaGreat
