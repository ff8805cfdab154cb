/-
  This text proves what these texts prove: He, Hf, Hr, Hj, Hk. Conditions: those of each theorem.
-/
import Derived.Test.YtfocopihipejfaaGreatB17
import Derived.Test.YtfocopihipejfaaGreatB16
import Derived.Test.YtfocopihipejfaaGreatB11
set_option maxHeartbeats 8000000
set_option linter.all false
namespace Go.Proofs.YtfocopihipejfaaGreat
open Go.Vg Go.RowKit
set_option maxRecDepth 200000
set_option cbv.maxSteps 100000000
theorem afD{P:Program}(hP:P=Tryz.prog)(kf:Nat->Nat)(iU:kf=fun j=>Sh.aB.ks.getD j 0):ah P 197 [] [] 0 [] (fun v _ _=>v= .agg (aw .u32 (fun j=>Int.ofNat (kf j)) 0 64)):=by
 subst iU
 refine aq hP Tryz.func197 (ak _ rfl) (aD rfl) ?_
 intro A g K hA hg hK
 cases A
 cbv
 exact hK _ _ _ rfl
theorem afA{P:Program}(hP:P=Tryz.prog)(bits:Nat)(h0:Nat->Nat)(hb:(bits=224/\aQ h0=Sh.i224)\/(bits=256/\aQ h0=Sh.i256)):ah P 196 [.int .i64 (.ofNat bits)] [] 0 [] (fun v _ _=>v= .aR [.agg (aw .u32 (fun j=>Int.ofNat (h0 j)) 0 8),.bool true]):=by
 have fin:∀s,aQ h0=s->aw .u32 (fun j=>Int.ofNat (h0 j)) 0 8=aw .u32 (fun j=>Int.ofNat (wj s j)) 0 8:=fun s hs=>rK fun j _ hj=>by
  rw[Pb (hs.trans (G9 s).symm) j (by omega)]
 refine aq hP Tryz.func196 (ak _ rfl) (aD rfl) ?_
 intro A g K hA hg hK
 obtain⟨_,_,cmp⟩:=A
 rcases hb with⟨rfl,hs⟩|⟨rfl,hs⟩
 ·have e1:cmp .eql (.ofNat 224) 224=true:=iP hA (a:=224) (b:=224) rfl
  rw[fin _ hs]at hK
  cbv
  rw[e1]
  cbv
  exact hK _ _ _ rfl
 ·have e1:cmp .eql (.ofNat 256) 224=false:=ja hA (a:=256) (b:=224) (by decide)
  have e2:cmp .eql (.ofNat 256) 256=true:=iP hA (a:=256) (b:=256) rfl
  rw[fin _ hs]at hK
  cbv
  rw[e1]
  cbv
  rw[e2]
  cbv
  exact hK _ _ _ rfl
theorem afF{P:Program}(hP:P=Tryz.prog)(bits:Nat)(h0 kf:Nat->Nat)(iU:kf=fun j=>Sh.aB.ks.getD j 0)(hb:(bits=224/\aQ h0=Sh.i224)\/(bits=256/\aQ h0=Sh.i256)):
 ah P 170 [.int .i64 (.ofNat bits)] [] 0 [] (fun v L q=>v= .aR [.ptr 0 0,.int .i64 0]/\L=[⟨0,aV bits 0 h0 kf .au,297⟩]/\q=1):=by
 have hB:=afA hP bits h0 hb
 have hCo:=afD hP kf iU
 have raw:ah P 170 [.int .i64 (.ofNat bits)] [] 0 [] (fun v L q=>v= .aR [.ptr 1 0,.int .i64 0]/\find L 1=some ⟨1,aV bits 0 h0 kf .au,297⟩/\q=2):=by
  clear iU hb
  refine aq hP Tryz.func170 (ak _ rfl) (aD rfl) ?_
  intro A g K hA hg hK
  obtain⟨_,_,_,_,_,_,_,_,fQ⟩:=A
  have e1:fQ true=false:=ln hA true
  cbv
  refine fe rfl hg rfl rfl hB ?_
  rintro _ _ _ rfl
  refine⟨by simp[bd,ay,aw],?_⟩
  cbv
  rw[e1]
  cbv
  refine cm hP hA hg ?_
  cbv
  refine eV (Dl rfl hg rfl rfl hCo (fun _ _ _ h=>h) (by simp[bd,ay,aw])) ?_
  cbv
  exact hK _ _ _ ⟨rfl,rfl,rfl⟩
 exact raw.dj fun v L q ⟨h1,h2,h3⟩=>⟨fun _=>1,.aR [.ptr 0 0,.int .i64 0],_,1,by subst h1 h3;exact dH ⟨rfl,rfl,trivial⟩ ⟨h2,rfl,rfl,qe _ _ _ _ rfl,trivial⟩ rfl rfl rfl,rfl,rfl,rfl⟩
theorem abV{M:List Nat}(h:∀x∈M,x<256):∀x∈Sh.left Sh.aB M,x<256:=fun x hx=>h x (Fh hx)
theorem C9{P:Program}(hP:P=Tryz.prog):(P.info? 5).map (·.bytes)=some 1:=by
 subst hP;kernel_rfl
theorem afN{P:Program}(hP:P=Tryz.prog)(size:Nat)(h0 hf kf:Nat->Nat)(iU:kf=fun j=>Sh.aB.ks.getD j 0)(M:List Nat)(s:ByteArray)(hM:∀x∈M,x<256)(aJ:M.length+s.size<140737488353000)(h8:Sh.jI 32 (aQ h0))(hh:aQ hf=Sh.aW Sh.aB (aQ h0) M)(n:Nat)(hn:n=M.length)(n':Nat)(D0:n'=M.length+s.size)
 {rv:SV} {B:LL} (hR:bI 5 1 (Sh.left Sh.aB M) rv B):
 ah P 172 [.ptr 0 0,.str s] (⟨0,aV size n hf kf rv,297⟩::B) 2 [0]
  (fun v L q=>∃aT ep B',aQ aT=Sh.aW Sh.aB (aQ h0) (M++bl s)/\bI 5 2 (Sh.left Sh.aB (M++bl s)) ep B'/\v= .int .i64 0/\L=⟨0,aV size n' aT kf ep,297⟩::B'/\q=3):=by
 have hw:=Sh.TW (K:=Sh.aB) (by decide) (aQ h0) M (bl s)
 obtain⟨r0,cC⟩:=aa (Sh.left Sh.aB M)
 have N7:∀x∈r0,x<256:=by rw[cC];exact abV hM
 have D7:r0.length<64:=by rw[cC,Sh.abW];exact ax _ (by decide)
 rw[<-cC]at hR hw
 rw[<-hh]at hw
 have IE:Sh.jI 32 (aQ hf):=by rw[hh];exact Sh.KU (K:=Sh.aB) (by decide) h8 M _
 have jM:=C9 hP
 obtain⟨a,ha⟩:=aa (r0++bl s)
 rw[<-ha]at hw
 have sQ:∀x∈a,x<256:=fun x hx=>by
  rw[ha]at hx
  rcases List.mem_append.1 hx with h|h
  ·exact N7 x h
  ·exact i' s x h
 have uu:a.length=r0.length+s.size:=by rw[ha,dI,bh]
 have hBN:=afC hP
 suffices raw:ah P 172 [.ptr 0 0,.str s] (⟨0,aV size n hf kf rv,297⟩::B) 2 [0]
  (fun v L q=>∃aT ep B' k,aQ aT=Sh.aW Sh.aB (aQ h0) (M++bl s)/\bI 5 k (Sh.left Sh.aB (M++bl s)) ep B'/\v= .int .i64 0/\find L 0=some ⟨0,aV size n' aT kf ep,297⟩/\(∀b∈B',find L b.l=some b)/\k<q/\2<=k) by
  refine raw.dj fun v L q hq=> ?_
  obtain⟨aT,ep,B',k,h1,h2,rfl,h4,h5,h6,h7⟩:=hq
  rcases h2.get with⟨rfl,rfl,hl⟩|⟨kl,c,X,jE,rfl,rfl,hX⟩
  ·exact⟨id,.int .i64 0,[⟨0,aV size n' aT kf .au,297⟩],3,fD ⟨rfl,rfl,trivial⟩ ⟨h4,rfl,qe _ _ _ _ rfl,trivial⟩ rfl rfl,aT,.au,[],h1,by rw[hl];exact bI.nil _ _,rfl,rfl,rfl⟩
  ·refine⟨fun l=>if l=2 then k else l,.int .i64 0,[⟨0,aV size n' aT kf (.slice 2 0 kl c),297⟩,⟨2,X,5⟩],3,?_,aT,_,_,h1,hX.row jE _ 2,rfl,rfl,rfl⟩
   refine dH ⟨rfl,rfl,trivial⟩ ⟨?_,rfl,rfl,qe _ _ _ _ (by rfl),(by rw[ae X (hX.b 0)];exact h5 _ kd),rfl,?_,hX.b 3,trivial⟩ ?_ rfl rfl
   ·exact h4
   ·show(Nat.blt 2 2||Nat.ble 2 k)=true
    rw[oD h7];rfl
   ·show tC [0,k]=true
    have fB:k≠0:=by omega
    simp[tC,eo,fB]
 have fin:∀ (aT:Nat->Nat) (r:List Nat),aQ aT=Sh.tq Sh.aB (aQ hf) a (a.length/64)->r=a.drop (a.length/64*64)->aQ aT=Sh.aW Sh.aB (aQ h0) (M++bl s)/\r=Sh.left Sh.aB (M++bl s):=fun aT r h1 h2=>⟨by rw[hw.1];exact h1,by rw[hw.2];exact h2⟩
 have Gm:∀r:List Nat,r=a.drop (a.length/64*64)->r.length<=a.length:=fun r h=>by rw[h,iY];omega
 clear hw
 rcases hR.get with⟨rfl,rfl,TM⟩|⟨k0,c0,X0,fB,rfl,rfl,fH⟩
 ·refine aq hP Tryz.func172 ⟨(by show 0<2;decide),trivial,trivial⟩ (aD (by simp only[kL,mf,qe _ _ _ _ (show gh 2 .au=true from rfl)];rfl)) ?_
  intro A g K hA hg hK
  obtain⟨bin,_,_,_,aX,_,_,_,_,_,_,_,fK,_,_,_,get⟩:=A
  obtain⟨sz,J'⟩:=aa s.size
  have e1:aX .u64 (.ofNat sz)=Int.ofNat sz:=nQ hA (fun h=>by cases h) (fun _=>by show sz<2^64;omega)
  have e2:fK s=Int.ofNat sz:=(lK hA s).trans (by rw[J'])
  have e3:bin .add .u64 (.ofNat n) (.ofNat sz)=Int.ofNat n':=(CV hA (a:=n) (b:=sz) (by omega)).trans (by rw[D0,hn,J'])
  cbv
  rw[e2]
  cbv
  rw[e1]
  cbv
  rw[e3]
  cbv
  refine lI (hP▸aI) hg rfl rfl (show av 89=some _ from rfl) rfl (show av 5=some _ from rfl) jM rfl (L0:=_) (B1:=[]) (lb:=99) (by rw[gg]) rfl rfl (bI.nil _ _) rfl rfl (d:=r0) (Or.inl ⟨rfl,TM⟩) (by show 0+r0.length<=_;omega) ?_
  intro v1 B1 kh
  rw[cM]at kh
  cbv
  refine ad7 (hP▸aI) hg rfl rfl (show av 89=some _ from rfl) rfl (show av 5=some _ from rfl) jM rfl (show av 9=some _ from rfl) rfl (L0:=[⟨0,aV size n' hf kf .au,297⟩]) (B1:=B1) (lb:=2) rfl rfl rfl kh rfl rfl (by omega) ?_
  intro v2 B2 qf
  rw[<-ha]at qf
  rcases qf.get with⟨rfl,rfl,Jg⟩|⟨al,c2,X2,SR,rfl,rfl,lR⟩
  ·cbv
   refine aZ hg hBN id trivial ?_
   cbv
   refine lI (hP▸aI) hg rfl rfl (show av 89=some _ from rfl) rfl (show av 5=some _ from rfl) jM rfl (L0:=_) (B1:=[]) (lb:=99) (by rw[gg]) rfl rfl (bI.nil _ _) rfl rfl (d:=[]) (Or.inl ⟨rfl,rfl⟩) (by decide) ?_
   intro v3 B3 sO
   obtain⟨q1,q2⟩:=fin hf [] (by rw[Jg];rfl) (by rw[Jg];rfl)
   rcases sO.get with⟨rfl,rfl,_⟩|⟨k3,c3,X3,wN,rfl,rfl,DC⟩
   ·cbv
    exact hK _ _ _ ⟨hf,.au,[],2,q1,by rw[<-q2];exact bI.nil _ _,rfl,rfl,fun b h=>(by cases h),(by decide),aE 2⟩
   ·cbv
    exact hK _ _ _ ⟨hf,.slice 4 0 k3 c3,[⟨4,X3,5⟩],4,q1,by rw[<-q2];exact DC.row wN _ 4,rfl,rfl,fun b h=>(by obtain rfl:=il.1 h;rfl),(by decide),by decide⟩
  ·have wC:=Mr hP (t:=5) size n' hf kf iU (.au) rfl 0 c2 X2 a sQ al SR (by rw[lh];exact lR.ud) lR.le (by omega) lR.b IE
   have rX:∀r,bj r X2=X2:=fun r=>ae X2 (lR.b 0)
   cbv
   refine gQ rfl hg rfl rfl wC (fun l=>if l=1 then 3 else if l=2 then 1 else l) rfl ⟨rfl,by rw[rX];rfl,trivial⟩ rfl rfl rfl ?_
   rintro _ _ _ ⟨aT,o',c',r,rl,J6,k1,k2,rfl,k4,rfl,rfl⟩ _
   refine⟨rfl,?_⟩
   have iW:=Gm r k2
   obtain⟨q1,q2⟩:=fin aT r k1 k2
   simp only[aG,rX]
   cbv
   refine lI (hP▸aI) hg rfl rfl (show av 89=some _ from rfl) rfl (show av 5=some _ from rfl) jM rfl (L0:=_) (B1:=[]) (lb:=99) (by rw[gg]) rfl rfl (bI.nil _ _) rfl rfl (d:=r) (Or.inr ⟨3,o',rl,c',_,J6,rfl,rfl,k4⟩) (by show 0+r.length<=_;omega) ?_
   intro v3 B3 sO
   rw[cM]at sO
   rcases sO.get with⟨rfl,rfl,TL⟩|⟨k3,c3,X3,wN,rfl,rfl,DC⟩
   ·cbv
    exact hK _ _ _ ⟨aT,.au,[],2,q1,by rw[<-q2,TL];exact bI.nil _ _,rfl,rfl,fun b h=>(by cases h),(by decide),aE 2⟩
   ·cbv
    exact hK _ _ _ ⟨aT,.slice 4 0 k3 c3,[⟨4,X3,5⟩],4,q1,by rw[<-q2];exact DC.row wN _ 4,rfl,rfl,fun b h=>(by obtain rfl:=il.1 h;rfl),(by decide),by decide⟩
 ·refine aq hP Tryz.func172 ⟨(by show 0<2;decide),trivial,trivial⟩ (aD (by simp only[kL,mf,qe _ _ _ _ (show gh 2 (.slice 1 0 k0 c0)=true from rfl),fH.b 2];rfl)) ?_
  intro A g K hA hg hK
  obtain⟨bin,_,_,_,aX,_,_,_,_,_,_,_,fK,_,_,_,get⟩:=A
  obtain⟨sz,J'⟩:=aa s.size
  have e1:aX .u64 (.ofNat sz)=Int.ofNat sz:=nQ hA (fun h=>by cases h) (fun _=>by show sz<2^64;omega)
  have e2:fK s=Int.ofNat sz:=(lK hA s).trans (by rw[J'])
  have e3:bin .add .u64 (.ofNat n) (.ofNat sz)=Int.ofNat n':=(CV hA (a:=n) (b:=sz) (by omega)).trans (by rw[D0,hn,J'])
  cbv
  rw[e2]
  cbv
  rw[e1]
  cbv
  rw[e3]
  cbv
  refine lI (hP▸aI) hg rfl rfl (show av 89=some _ from rfl) rfl (show av 5=some _ from rfl) jM rfl (L0:=_) (B1:=[]) (lb:=99) (by rw[gg]) rfl rfl (bI.nil _ _) rfl rfl (d:=r0) (Or.inr ⟨1,0,k0,c0,_,fB,rfl,rfl,by rw[lh];exact fH.ud⟩) (by show 0+r0.length<=_;omega) ?_
  intro v1 B1 kh
  rw[cM]at kh
  cbv
  refine ad7 (hP▸aI) hg rfl rfl (show av 89=some _ from rfl) rfl (show av 5=some _ from rfl) jM rfl (show av 9=some _ from rfl) rfl (L0:=[⟨0,aV size n' hf kf (.slice 1 0 k0 c0),297⟩,⟨1,X0,5⟩]) (B1:=B1) (lb:=2) rfl rfl rfl kh rfl rfl (by omega) ?_
  intro v2 B2 qf
  rw[<-ha]at qf
  rcases qf.get with⟨rfl,rfl,Jg⟩|⟨al,c2,X2,SR,rfl,rfl,lR⟩
  ·cbv
   refine aZ hg hBN id trivial ?_
   cbv
   refine lI (hP▸aI) hg rfl rfl (show av 89=some _ from rfl) rfl (show av 5=some _ from rfl) jM rfl (L0:=_) (B1:=[]) (lb:=99) (by rw[gg]) rfl rfl (bI.nil _ _) rfl rfl (d:=[]) (Or.inl ⟨rfl,rfl⟩) (by decide) ?_
   intro v3 B3 sO
   obtain⟨q1,q2⟩:=fin hf [] (by rw[Jg];rfl) (by rw[Jg];rfl)
   rcases sO.get with⟨rfl,rfl,_⟩|⟨k3,c3,X3,wN,rfl,rfl,DC⟩
   ·cbv
    exact hK _ _ _ ⟨hf,.au,[],2,q1,by rw[<-q2];exact bI.nil _ _,rfl,rfl,fun b h=>(by cases h),(by decide),aE 2⟩
   ·cbv
    exact hK _ _ _ ⟨hf,.slice 4 0 k3 c3,[⟨4,X3,5⟩],4,q1,by rw[<-q2];exact DC.row wN _ 4,rfl,rfl,fun b h=>(by obtain rfl:=il.1 h;rfl),(by decide),by decide⟩
  ·have wC:=Mr hP (t:=5) size n' hf kf iU (.slice 2 0 k0 c0) rfl 0 c2 X2 a sQ al SR (by rw[lh];exact lR.ud) lR.le (by omega) lR.b IE
   have rX:∀r,bj r X2=X2:=fun r=>ae X2 (lR.b 0)
   cbv
   refine gQ rfl hg rfl rfl wC (fun l=>if l=1 then 3 else if l=2 then 1 else l) rfl ⟨rfl,by rw[rX];rfl,trivial⟩ rfl rfl rfl ?_
   rintro _ _ _ ⟨aT,o',c',r,rl,J6,k1,k2,rfl,k4,rfl,rfl⟩ _
   refine⟨rfl,?_⟩
   have iW:=Gm r k2
   obtain⟨q1,q2⟩:=fin aT r k1 k2
   simp only[aG,rX]
   cbv
   refine lI (hP▸aI) hg rfl rfl (show av 89=some _ from rfl) rfl (show av 5=some _ from rfl) jM rfl (L0:=_) (B1:=[]) (lb:=99) (by rw[gg]) rfl rfl (bI.nil _ _) rfl rfl (d:=r) (Or.inr ⟨3,o',rl,c',_,J6,rfl,rfl,k4⟩) (by show 0+r.length<=_;omega) ?_
   intro v3 B3 sO
   rw[cM]at sO
   rcases sO.get with⟨rfl,rfl,TL⟩|⟨k3,c3,X3,wN,rfl,rfl,DC⟩
   ·cbv
    exact hK _ _ _ ⟨aT,.au,[],2,q1,by rw[<-q2,TL];exact bI.nil _ _,rfl,rfl,fun b h=>(by cases h),(by decide),aE 2⟩
   ·cbv
    exact hK _ _ _ ⟨aT,.slice 4 0 k3 c3,[⟨4,X3,5⟩],4,q1,by rw[<-q2];exact DC.row wN _ 4,rfl,rfl,fun b h=>(by obtain rfl:=il.1 h;rfl),(by decide),by decide⟩
theorem Bo{A:Ar}(hA:A=Ar.real)(x:Nat):A.aX .u8 (Int.ofNat x)=Int.ofNat (x%256):=by
 rw[ML hA];exact CG .u8 rfl x
def j8(f:Nat->Nat)(i:Nat):List Nat:=((List.range i).map fun j=>Sh.be 4 (f j)).flatten
theorem OM(f:Nat->Nat)(i:Nat):j8 f (i+1)=j8 f i++Sh.be 4 (f i):=by
 unfold j8
 rw[List.range_succ,CJ,List.flatten_append];simp
theorem OL(f:Nat->Nat):j8 f 8=Sh.out 4 (aQ f):=by
 simp[j8,Sh.out,aQ,List.range_succ,jA]
theorem pQ(n x:Nat):(Sh.be n x).length=n:=by unfold Sh.be;rw[fL,List.length_range]
theorem afh(n x:Nat){k:Nat}(h:k<n):(Sh.be n x)[k]'(by rw[pQ];exact h)=x/256^(n-1-k)%256:=by
 unfold Sh.be
 rw[List.getElem_map,List.getElem_range]
theorem HY(n x:Nat){k:Nat}(h:k<n):(Sh.be n x).take (k+1)=(Sh.be n x).take k++[x/256^(n-1-k)%256]:=by
 rw[LV (by rw[pQ];exact h),afh n x h]
theorem KS(f:Nat->Nat):∀i,(j8 f i).length=4*i
 |0=>rfl
 |i+1=>by rw[OM,dI,KS f i,pQ];omega
theorem Qp(n x:Nat):∀y∈Sh.be n x,y<256:=fun y hy=>by
 unfold Sh.be at hy
 obtain⟨i,_,rfl⟩:=iZ.1 hy
 exact ax _ (by decide)
theorem G1(M:List Nat):Sh.pad Sh.aB M=M++([128]++(List.replicate ((64-(M.length+1+8)%64)%64+0) 0++Sh.be 8 (M.length*8%0x10000000000000000))):=by
 simp only[Sh.pad,jA];rfl
theorem afJ{P:Program}(hP:P=Tryz.prog)(size:Nat)(GA:size<=4*64)(h0 hf kf:Nat->Nat)(iU:kf=fun j=>Sh.aB.ks.getD j 0)(M:List Nat)(hM:∀x∈M,x<256)(aJ:M.length<140737488353000)(h8:Sh.jI 32 (aQ h0))(hh:aQ hf=Sh.aW Sh.aB (aQ h0) M)(n:Nat)(hn:n=M.length)
 {rv:SV} {B:LL} (hR:bI 5 1 (Sh.left Sh.aB M) rv B) (dg:ByteArray) (fk:bl dg=(Sh.out 4 (Sh.aW Sh.aB (aQ h0) (Sh.pad Sh.aB M))).take (size/8)):
 ah P 173 [.ptr 0 0] (⟨0,aV size n hf kf rv,297⟩::B) 2 [] (fun v _ _=>v= .str dg):=by
 obtain⟨r0,cC⟩:=aa (Sh.left Sh.aB M)
 have N7:∀x∈r0,x<256:=by rw[cC];exact abV hM
 have TN:r0.length=M.length%64:=by rw[cC];exact Sh.abW (K:=Sh.aB) M
 have D7:r0.length<64:=by rw[TN];exact ax _ (by decide)
 rw[<-cC]at hR
 have IE:Sh.jI 32 (aQ hf):=by rw[hh];exact Sh.KU (K:=Sh.aB) (by decide) h8 M _
 have jM:=C9 hP
 obtain⟨n8,BP⟩:=aa (n*8%0x10000000000000000)
 rcases hR.get with⟨rfl,rfl,TM⟩|⟨k0,c0,X0,fB,rfl,rfl,fH⟩
 ·refine aq hP Tryz.func173 ⟨(by show 0<2;decide),trivial⟩ (aD (by simp only[kL,mf,qe _ _ _ _ (show gh 2 .au=true from rfl)];rfl)) ?_
  intro A g K hA hg hK
  obtain⟨bin,sh,cmp,_,aX,ix,nn,_,_,_,_,_,_,_,nat,off,get,_,sub⟩:=A
  have e1:∀k,nat k=Int.ofNat k:=fun k=>fZ hA k
  have e2:∀k,bin .rem .i64 (.ofNat k) 64=Int.ofNat (k%64):=fun k=>pJ hA k 64
  have e3:∀k,k≠56->cmp .neq (.ofNat k) 56=true:=fun k h=>yX hA (b:=56) h
  have wg:cmp .neq (.ofNat 56) 56=false:=ow hA (a:=56) (b:=56) rfl
  have e4:∀i,i<200->bin .add .i64 (.ofNat i) 1=Int.ofNat (i+1):=fun i h=>gP hA (by omega)
  have e5:∀i,i<8->cmp .lss (.ofNat i) 8=true:=fun i h=>cZ hA (b:=8) h
  have Iq:cmp .lss (.ofNat 8) 8=false:=bM hA (a:=8) (b:=8) (by omega)
  have e6:∀i,i<0->cmp .lss (.ofNat i) 0=true:=fun i h=>cZ hA (b:=0) h
  have Ir:cmp .lss (.ofNat 0) 0=false:=bM hA (a:=0) (b:=0) (by omega)
  have e7:∀i,i<4->cmp .lss (.ofNat i) 4=true:=fun i h=>cZ hA (b:=4) h
  have sH:cmp .lss (.ofNat 4) 4=false:=bM hA (a:=4) (b:=4) (by omega)
  cbv
  refine lI (hP▸aI) hg rfl rfl (show av 89=some _ from rfl) rfl (show av 5=some _ from rfl) jM rfl (L0:=[⟨0,aV size n hf kf (.au),297⟩,⟨2,aV size n hf kf (.au),297⟩]) (B1:=[]) (lb:=99) rfl rfl rfl (bI.nil _ _) rfl rfl (d:=r0) (Or.inl ⟨rfl,TM⟩) (by show 0+r0.length<=_;omega) ?_
  intro v1 B1 kh
  rw[cM]at kh
  cbv
  refine lI (hP▸aI) hg rfl rfl (show av 89=some _ from rfl) rfl (show av 5=some _ from rfl) jM rfl (L0:=[⟨0,aV size n hf kf (.au),297⟩,⟨2,aV size n hf kf (.au),297⟩]++[⟨4,[.int .u8 128],5⟩]) (B1:=B1) (lb:=3) (LK (by cases B1<;>rfl) (kh.mid (A:=[⟨0,aV size n hf kf (.au),297⟩,⟨2,aV size n hf kf (.au),297⟩]) (C:=[⟨4,[.int .u8 128],5⟩]) rfl)) rfl rfl kh rfl rfl (d:=[128]) (Or.inr ⟨4,0,1,1,_,rfl,rfl,rfl,rfl⟩) (by show r0.length+1<=_;omega) ?_
  intro v2 B2 qf
  obtain⟨k2,c2,X2,fq,rfl,rfl,lR⟩:=qf.some (by simp)
  obtain⟨l1,cQ⟩:=aa (r0++[128])
  rw[<-cQ]at fq lR
  have JK:l1.length=r0.length+1:=by rw[cQ,dI];rfl
  obtain⟨zt,Kt⟩:=aa ((64-(l1.length+8)%64)%64)
  cbv
  refine⟨List Nat×Nat×Nat×List SV,fun s=>(∃z,z<=zt/\s.1=l1++List.replicate z 0)/\s.2.1=s.1.length/\kv s.1 s.2.2.1 s.2.2.2,fun s=>2*64-s.2.1,fun s=> [(0,.ptr 0 0),(3,.ptr 2 0),(4,.slice 5 0 s.2.1 s.2.2.1)],fun s=> [⟨0,aV size n hf kf (.au),297⟩,⟨2,aV size n hf kf (.au),297⟩,⟨5,s.2.2.2,5⟩],6,⟨(l1,k2,c2,X2),id,⟨⟨0,bf _,by simp⟩,fq,lR⟩,?_⟩,?_⟩
  ·exact aS (by repeat' (first|exact trivial|refine⟨rfl,rfl,rfl,?_⟩|refine⟨rfl,rfl,lR.b 6,?_⟩))
  rintro⟨l,k,c,X⟩ ⟨⟨z,hz,hl⟩,hk,hX⟩
  change l=l1++List.replicate z 0 at hl
  change k=l.length at hk
  change kv l c X at hX
  have pA:k=l1.length+z:=by rw[hk,hl,dI,jq]
  by_cases lH:k%64=56
  ·have Ks:z=zt:=by omega
   subst Ks
   obtain⟨l2,eO⟩:=aa (l1++List.replicate (z+0) 0)
   cbv
   rw[e1 k]
   cbv
   rw[e2 k,lH]
   cbv
   rw[wg]
   cbv
   refine⟨Nat×List Nat×Nat×Nat×List SV,fun s=>s.1<=0/\s.2.1=l1++List.replicate (z+s.1) 0/\s.2.2.1=s.2.1.length/\kv s.2.1 s.2.2.2.1 s.2.2.2.2,fun s=>0-s.1,fun s=> [(0,.ptr 0 0),(3,.ptr 2 0),(4,.slice 5 0 s.2.2.1 s.2.2.2.1),(29,.int .i64 (.ofNat s.1))],fun s=> [⟨0,aV size n hf kf (.au),297⟩,⟨2,aV size n hf kf (.au),297⟩,⟨5,s.2.2.2.2,5⟩],6,⟨(0,l,k,c,X),id,⟨bf _,hl,hk,hX⟩,?_⟩,?_⟩
   ·exact aS (by repeat' (first|exact trivial|refine⟨rfl,rfl,rfl,?_⟩|refine⟨rfl,rfl,hX.b 6,?_⟩))
   clear hX hl pA lH hk
   rintro⟨i,l,k,c,X⟩ ⟨hi,hl,hk,hX⟩
   change i<=0 at hi
   change l=l1++List.replicate (z+i) 0 at hl
   change k=l.length at hk
   change kv l c X at hX
   have pA:k=l1.length+(z+i):=by rw[hk,hl,dI,jq]
   by_cases ab:i<0
   ·cbv
    rw[e6 i ab]
    cbv
    refine lI (hP▸aI) hg rfl rfl (show av 89=some _ from rfl) rfl (show av 5=some _ from rfl) jM rfl (L0:=[⟨0,aV size n hf kf (.au),297⟩,⟨2,aV size n hf kf (.au),297⟩,⟨6,[.int .u8 0],5⟩]) (B1:=[⟨5,X,5⟩]) (lb:=5) ((hX.row hk 5 5).mid (A:=[⟨0,aV size n hf kf (.au),297⟩,⟨2,aV size n hf kf (.au),297⟩]) (C:=[⟨6,[.int .u8 0],5⟩]) rfl) rfl rfl (hX.row hk _ 5) rfl rfl (d:=[0]) (Or.inr ⟨6,0,1,1,_,rfl,rfl,rfl,rfl⟩) (by show l.length+1<=_;omega) ?_
    intro v' B' dK
    obtain⟨k',c',X',dF,rfl,rfl,dO⟩:=dK.some (by simp)
    cbv
    rw[e4 i (by omega)]
    refine⟨(i+1,l++[0],k',c',X'),fun l=>if l=5 then 7 else l,⟨ab,by show l++[0]=l1++List.replicate (z+(i+1)) 0;rw[hl,jA,<-xP,Hx],dF,dO⟩,(by show 0-(i+1)<0-i;omega),?_⟩
    exact dH (by repeat' (first|exact trivial|refine⟨rfl,rfl,?_⟩)) ⟨rfl,rfl,rfl,rfl,rfl,rfl,rfl,rfl,by rw[ae X' (dO.b 0)];rfl,rfl,rfl,dO.b 6,trivial⟩ rfl rfl rfl
   ·obtain rfl:i=0:=by omega
    rw[<-eO]at hl
    cbv
    rw[Ir]
    cbv
    refine⟨Nat×List Nat×Nat×Nat×List SV,fun s=>s.1<=8/\s.2.1=l2++(Sh.be 8 n8).take s.1/\s.2.2.1=s.2.1.length/\kv s.2.1 s.2.2.2.1 s.2.2.2.2,fun s=>8-s.1,fun s=> [(0,.ptr 0 0),(3,.ptr 2 0),(4,.slice 5 0 s.2.2.1 s.2.2.2.1),(35,.int .i64 (.ofNat s.1))],fun s=> [⟨0,aV size n hf kf (.au),297⟩,⟨2,aV size n hf kf (.au),297⟩,⟨5,s.2.2.2.2,5⟩],6,⟨(0,l,k,c,X),id,⟨bf _,by show l=l2++[];rw[gg,hl],hk,hX⟩,?_⟩,?_⟩
    ·exact aS (by repeat' (first|exact trivial|refine⟨rfl,rfl,rfl,?_⟩|refine⟨rfl,rfl,hX.b 6,?_⟩))
    have aa8:l2.length=l1.length+(z+0):=by rw[eO,dI,jq]
    clear hX pA hk hl
    clear l k c X
    rintro⟨i,l,k,c,X⟩ ⟨hi,hl,hk,hX⟩
    change i<=8 at hi
    change l=l2++(Sh.be 8 n8).take i at hl
    change k=l.length at hk
    change kv l c X at hX
    have pA:k=l2.length+i:=by rw[hk,hl,dI,eY,pQ];omega
    by_cases ab:i<8
    ·obtain⟨b8,oL⟩:=aa (8*i)
     obtain⟨s8,j7⟩:=aa (56-b8)
     obtain⟨y,hy⟩:=aa (n8/2^s8)
     obtain⟨yb,rG⟩:=aa (y%256)
     have g1:sh .shl .u64 (.ofNat n) 3=Int.ofNat n8:=(mP hA (k:= .u64) rfl n (s:=3) (by decide)).trans (by rw[BP];rfl)
     have g2:bin .mul .i64 8 (.ofNat i)=Int.ofNat b8:=(k8 hA (a:=8) (b:=i) (by omega)).trans (by rw[oL])
     have g3:bin .sub .i64 56 (.ofNat b8)=Int.ofNat s8:=(er hA (a:=56) (b:=b8) (by omega) (by decide)).trans (by rw[j7])
     have g4:nn (.ofNat s8)=true:=kr hA s8
     have g5:sh .shr .u64 (.ofNat n8) (.ofNat s8)=Int.ofNat y:=(k_ hA (k:= .u64) (a:=n8) (b:=s8) (by show s8<=64;omega)).trans (by rw[hy])
     have g6:aX .u8 (.ofNat y)=Int.ofNat yb:=(Bo hA y).trans (by rw[rG])
     cbv
     rw[e5 i ab]
     cbv
     rw[g1,g2]
     cbv
     rw[g3]
     cbv
     rw[g4]
     cbv
     rw[g5]
     cbv
     rw[g6]
     cbv
     refine lI (hP▸aI) hg rfl rfl (show av 89=some _ from rfl) rfl (show av 5=some _ from rfl) jM rfl (L0:=[⟨0,aV size n hf kf (.au),297⟩,⟨2,aV size n hf kf (.au),297⟩,⟨6,[.int .u8 (.ofNat yb)],5⟩]) (B1:=[⟨5,X,5⟩]) (lb:=5) ((hX.row hk 5 5).mid (A:=[⟨0,aV size n hf kf (.au),297⟩,⟨2,aV size n hf kf (.au),297⟩]) (C:=[⟨6,[.int .u8 (.ofNat yb)],5⟩]) rfl) rfl rfl (hX.row hk _ 5) rfl rfl (d:=[yb]) (Or.inr ⟨6,0,1,1,_,rfl,rfl,rfl,rfl⟩) (by show l.length+1<=_;omega) ?_
     intro v' B' dK
     obtain⟨k',c',X',dF,rfl,rfl,dO⟩:=dK.some (by simp)
     cbv
     rw[e4 i (by omega)]
     refine⟨(i+1,l++[yb],k',c',X'),fun l=>if l=5 then 7 else l,⟨ab,?_,dF,dO⟩,(by show 8-(i+1)<8-i;omega),?_⟩
     ·show l++[yb]=l2++(Sh.be 8 n8).take (i+1)
      rw[hl,HY 8 n8 ab,jA,rG,hy,j7,oL,show 56-8*i=8*(8-1-i) by omega,jS]
     exact dH (by repeat' (first|exact trivial|refine⟨rfl,rfl,?_⟩)) ⟨rfl,rfl,rfl,rfl,rfl,rfl,rfl,rfl,by rw[ae X' (dO.b 0)];rfl,rfl,rfl,dO.b 6,trivial⟩ rfl rfl rfl
    ·obtain rfl:i=8:=by omega
     rw[vf (by rw[pQ];exact aE 8)]at hl
     have lB:k%64=0:=by omega
     have tf:l=r0++([128]++(List.replicate (z+0) 0++Sh.be 8 n8)):=by rw[hl,eO,cQ];simp only[jA]
     have oP:∀x∈l,x<256:=by
      intro x hx
      rw[tf]at hx
      rcases List.mem_append.1 hx with h|h
      ·exact N7 x h
      ·rcases List.mem_append.1 h with h|h
       ·obtain rfl:=il.1 h;decide
       ·rcases List.mem_append.1 h with h|h
        ·rw[(qM.1 h).2];decide
        ·exact Qp _ _ x h
     have wC:=Mr hP (t:=5) size n hf kf iU (.au) rfl 0 c X l oP k hk (by rw[lh];exact hX.ud) hX.le (by omega) hX.b IE
     have rX:∀r,bj r X=X:=fun r=>ae X (hX.b 0)
     cbv
     rw[Iq]
     cbv
     refine gQ rfl hg rfl rfl wC (fun l=>if l=0 then 2 else if l=1 then 5 else 1) rfl ⟨rfl,by rw[rX];rfl,trivial⟩ rfl rfl rfl ?_
     rintro _ _ _ ⟨h',o',c3,r,rl,J6,q1,q2,rfl,q4,rfl,rfl⟩ _
     refine⟨rfl,?_⟩
     simp only[aG,rX]
     have lA:Sh.out 4 (aQ h')=Sh.out 4 (Sh.aW Sh.aB (aQ h0) (Sh.pad Sh.aB M)):=by
      have hp:=(Sh.TW (K:=Sh.aB) (by decide) (aQ h0) M ([128]++(List.replicate ((64-(M.length+1+8)%64)%64+0) 0++Sh.be 8 (M.length*8%0x10000000000000000)))).1
      rw[<-G1,<-cC,<-hh]at hp
      rw[hp,q1]
      have qv:(64-(M.length+1+8)%64)%64=z:=by
       rw[Kt,JK,TN];omega
      rw[qv,<-hn,show n*8%0x10000000000000000=n8 from BP.symm,<-tf]
      rfl
     obtain⟨DO,sM⟩:=aa (fun i k=>j8 h' i++(Sh.be 4 (h' i)).take k:Nat->Nat->List Nat)
     have d0:DO 0 0=[]:=by rw[sM];rfl
     have dN:∀i,DO i 4=DO (i+1) 0:=fun i=>by
      rw[sM]
      show j8 h' i++(Sh.be 4 (h' i)).take 4=j8 h' (i+1)++[]
      rw[gg,OM,vf (by rw[pQ];exact aE _)]
     have dS:∀i k,k<4->DO i (k+1)=DO i k++[h' i/2^(24-8*k)%256]:=fun i k hk=>by
      rw[sM]
      show j8 h' i++(Sh.be 4 (h' i)).take (k+1)=j8 h' i++(Sh.be 4 (h' i)).take k++_
      rw[HY 4 _ hk,<-jA,show 24-8*k=8*(4-1-k) by omega,jS]
     have dE:DO 8 0=Sh.out 4 (aQ h'):=by
      rw[sM]
      show j8 h' 8++[]=_
      rw[gg,OL]
     have dL:∀i k,i<=8->k<=4->(DO i k).length=4*i+k:=fun i k _ hk=>by
      rw[sM]
      show(j8 h' i++(Sh.be 4 (h' i)).take k).length=_
      rw[dI,KS,eY,pQ];omega
     clear sM
     cbv
     refine⟨Nat×SV×LL,fun s=>s.1<=8/\bI 5 5 (DO s.1 0) s.2.1 s.2.2,fun s=>8-s.1,fun s=> [(0,.ptr 0 0),(6,s.2.1),(56,.agg (aw .u32 (fun j=>Int.ofNat (h' j)) 0 8)),(57,.int .i64 (.ofNat s.1))],fun s=>⟨0,aV size n hf kf (.au),297⟩::s.2.2,6,⟨(0,.au,[]),id,⟨bf _,by show bI _ 5 (DO 0 0) _ _;rw[d0];exact bI.nil _ _⟩,?_⟩,?_⟩
     ·exact a_
     rintro⟨i,v,B⟩ ⟨hi,kj⟩
     change i<=8 at hi
     change bI 5 5 (DO i 0) v B at kj
     by_cases ab:i<8
     ·obtain⟨xi,xg⟩:=aa (h' i)
      have g1:ix (.ofNat i) 8=some i:=bB hA ab
      have g2:off 0 i 1=i:=(dh hA 0 i 1).trans (by omega)
      have g3:=ei hA .u32 (n:=8) h' ab
      rw[<-xg]at g3
      simp only[aw,Nat.reduceAdd]at g3
      cbv
      rw[e5 i ab]
      cbv
      rw[g1]
      cbv
      rw[g2,g3]
      cbv
      refine⟨Nat×SV×LL,fun s=>s.1<=4/\bI 5 5 (DO i s.1) s.2.1 s.2.2,fun s=>4-s.1,fun s=> [(0,.ptr 0 0),(6,s.2.1),(8,.int .u32 (.ofNat xi)),(56,.agg (aw .u32 (fun j=>Int.ofNat (h' j)) 0 8)),(57,.int .i64 (.ofNat i)),(60,.int .i64 (.ofNat s.1))],fun s=>⟨0,aV size n hf kf (.au),297⟩::s.2.2,6,⟨(0,v,B),id,⟨bf _,kj⟩,?_⟩,?_⟩
      ·rcases kj.get with⟨rfl,rfl,_⟩|⟨k0,c0,X0,h0,rfl,rfl,fH⟩
       ·exact a_
       ·exact aS (by repeat' (first|exact trivial|refine⟨rfl,rfl,rfl,?_⟩|refine⟨rfl,rfl,fH.b 6,?_⟩))
      clear kj
      rintro⟨k,v,B⟩ ⟨hk,kj⟩
      change k<=4 at hk
      change bI 5 5 (DO i k) v B at kj
      by_cases lB:k<4
      ·obtain⟨b8,oL⟩:=aa (8*k)
       obtain⟨s8,j7⟩:=aa (24-b8)
       obtain⟨y,hy⟩:=aa (xi/2^s8)
       obtain⟨yb,rG⟩:=aa (y%256)
       have j2:bin .mul .i64 8 (.ofNat k)=Int.ofNat b8:=(k8 hA (a:=8) (b:=k) (by omega)).trans (by rw[oL])
       have j3:bin .sub .i64 24 (.ofNat b8)=Int.ofNat s8:=(er hA (a:=24) (b:=b8) (by omega) (by decide)).trans (by rw[j7])
       have j4:nn (.ofNat s8)=true:=kr hA s8
       have j5:sh .shr .u32 (.ofNat xi) (.ofNat s8)=Int.ofNat y:=(k_ hA (k:= .u32) (a:=xi) (b:=s8) (by show s8<=32;omega)).trans (by rw[hy])
       have j6:aX .u8 (.ofNat y)=Int.ofNat yb:=(Bo hA y).trans (by rw[rG])
       have re:DO i (k+1)=DO i k++[yb]:=by rw[dS i k lB,rG,hy,j7,oL,xg]
       have jO:=dL i k (by omega) (by omega)
       cbv
       rw[e7 k lB]
       cbv
       rw[j2]
       cbv
       rw[j3]
       cbv
       rw[j4]
       cbv
       rw[j5]
       cbv
       rw[j6]
       cbv
       refine lI (hP▸aI) hg rfl rfl (show av 89=some _ from rfl) rfl (show av 5=some _ from rfl) jM rfl (L0:=[⟨0,aV size n hf kf (.au),297⟩,⟨6,[.int .u8 (.ofNat yb)],5⟩]) (B1:=B) (lb:=5) (LK (by cases B<;>rfl) (kj.mid (A:=[⟨0,aV size n hf kf (.au),297⟩]) (C:=[⟨6,[.int .u8 (.ofNat yb)],5⟩]) rfl)) rfl rfl kj rfl rfl (d:=[yb]) (Or.inr ⟨6,0,1,1,_,rfl,rfl,rfl,rfl⟩) (by show(DO i k).length+1<=_;rw[jO];omega) ?_
       intro v' B' dK
       obtain⟨k',c',X',dF,rfl,rfl,dO⟩:=dK.some (by simp)
       rw[<-re]at dF dO
       cbv
       rw[e4 k (by omega)]
       refine⟨(k+1,.slice 5 0 k' c',[⟨5,X',5⟩]),fun l=>if l=5 then 7 else l,⟨lB,dO.row dF _ 5⟩,(by show 4-(k+1)<4-k;omega),?_⟩
       exact dH (by repeat' (first|exact trivial|refine⟨rfl,rfl,?_⟩)) ⟨rfl,rfl,rfl,rfl,by rw[ae X' (dO.b 0)];rfl,rfl,rfl,dO.b 6,trivial⟩ rfl rfl rfl
      ·obtain rfl:k=4:=by omega
       rw[dN i]at kj
       cbv
       rw[sH]
       cbv
       rw[e4 i (by omega)]
       refine⟨(i+1,v,B),id,⟨ab,kj⟩,(by show 8-(i+1)<8-i;omega),?_⟩
       rcases kj.get with⟨rfl,rfl,_⟩|⟨k0,c0,X0,h0,rfl,rfl,fH⟩
       ·exact a_
       ·exact aS (by repeat' (first|exact trivial|refine⟨rfl,rfl,rfl,?_⟩|refine⟨rfl,rfl,fH.b 6,?_⟩))
     ·obtain rfl:i=8:=by omega
      have jO:=dL 8 0 (by omega) (by omega)
      obtain⟨k4,c4,X4,hk4,rfl,rfl,BD⟩:=kj.some (fun h=>by rw[h]at jO;simp at jO)
      obtain⟨s8,j7⟩:=aa (size/8)
      have akg:s8<=4*8:=by omega
      have j1:bin .quo .i64 (.ofNat size) 8=Int.ofNat s8:=(mO hA (a:=size) (b:=8) (by omega)).trans (by rw[j7])
      have Jr:dg.size=s8:=by
       rw[<-bh,fk,<-lA,<-dE,<-j7,eY,jO];omega
      have q9:X4.take s8=dZ dg:=by
       have h1:=BD.ud
       rw[qR,fk,<-lA,<-dE,<-j7,H4,<-h1,Hz,tS (by rw[jO];omega)]
      cbv
      rw[Iq]
      cbv
      rw[j1]
      cbv
      refine rS hg rfl rfl rfl rfl rfl (G8 (hP▸aI) (show av 89=some _ from rfl) rfl 5 0 k4 c4 (j:=s8) (by have:=BD.le;rw[jO]at this;omega)) ?_
      cbv
      refine ES (hP▸aI) hg rfl rfl (show av 9=some _ from rfl) rfl (show av 89=some _ from rfl) rfl (by subst hP;kernel_rfl) rfl (show find _ 5=some _ from rfl) (s:=dg) (by rw[lh];exact q9) Jr ?_
      cbv
      exact hK _ _ _ rfl
  ·have nD:z<zt:=by omega
   cbv
   rw[e1 k]
   cbv
   rw[e2 k]
   cbv
   rw[e3 _ lH]
   cbv
   refine lI (hP▸aI) hg rfl rfl (show av 89=some _ from rfl) rfl (show av 5=some _ from rfl) jM rfl (L0:=[⟨0,aV size n hf kf (.au),297⟩,⟨2,aV size n hf kf (.au),297⟩,⟨6,[.int .u8 0],5⟩]) (B1:=[⟨5,X,5⟩]) (lb:=5) ((hX.row hk 5 5).mid (A:=[⟨0,aV size n hf kf (.au),297⟩,⟨2,aV size n hf kf (.au),297⟩]) (C:=[⟨6,[.int .u8 0],5⟩]) rfl) rfl rfl (hX.row hk _ 5) rfl rfl (d:=[0]) (Or.inr ⟨6,0,1,1,_,rfl,rfl,rfl,rfl⟩) (by show l.length+1<=_;omega) ?_
   intro v' B' dK
   obtain⟨k',c',X',dF,rfl,rfl,dO⟩:=dK.some (by simp)
   cbv
   refine⟨(l++[0],k',c',X'),fun l=>if l=5 then 7 else l,⟨⟨z+1,nD,by rw[hl,jA,Hx]⟩,dF,dO⟩,?_,?_⟩
   ·show 2*64-k'<2*64-k
    have:k'=k+1:=by rw[dF,hk,dI];rfl
    omega
   exact dH (by repeat' (first|exact trivial|refine⟨rfl,rfl,?_⟩)) ⟨rfl,rfl,rfl,rfl,rfl,rfl,rfl,rfl,by rw[ae X' (dO.b 0)];rfl,rfl,rfl,dO.b 6,trivial⟩ rfl rfl rfl
 ·refine aq hP Tryz.func173 ⟨(by show 0<2;decide),trivial⟩ (aD (by simp only[kL,mf,qe _ _ _ _ (show gh 2 (.slice 1 0 k0 c0)=true from rfl),fH.b 2];rfl)) ?_
  intro A g K hA hg hK
  obtain⟨bin,sh,cmp,_,aX,ix,nn,_,_,_,_,_,_,_,nat,off,get,_,sub⟩:=A
  have e1:∀k,nat k=Int.ofNat k:=fun k=>fZ hA k
  have e2:∀k,bin .rem .i64 (.ofNat k) 64=Int.ofNat (k%64):=fun k=>pJ hA k 64
  have e3:∀k,k≠56->cmp .neq (.ofNat k) 56=true:=fun k h=>yX hA (b:=56) h
  have wg:cmp .neq (.ofNat 56) 56=false:=ow hA (a:=56) (b:=56) rfl
  have e4:∀i,i<200->bin .add .i64 (.ofNat i) 1=Int.ofNat (i+1):=fun i h=>gP hA (by omega)
  have e5:∀i,i<8->cmp .lss (.ofNat i) 8=true:=fun i h=>cZ hA (b:=8) h
  have Iq:cmp .lss (.ofNat 8) 8=false:=bM hA (a:=8) (b:=8) (by omega)
  have e6:∀i,i<0->cmp .lss (.ofNat i) 0=true:=fun i h=>cZ hA (b:=0) h
  have Ir:cmp .lss (.ofNat 0) 0=false:=bM hA (a:=0) (b:=0) (by omega)
  have e7:∀i,i<4->cmp .lss (.ofNat i) 4=true:=fun i h=>cZ hA (b:=4) h
  have sH:cmp .lss (.ofNat 4) 4=false:=bM hA (a:=4) (b:=4) (by omega)
  cbv
  refine lI (hP▸aI) hg rfl rfl (show av 89=some _ from rfl) rfl (show av 5=some _ from rfl) jM rfl (L0:=[⟨0,aV size n hf kf (.slice 1 0 k0 c0),297⟩,⟨1,X0,5⟩,⟨2,aV size n hf kf (.slice 1 0 k0 c0),297⟩]) (B1:=[]) (lb:=99) rfl rfl rfl (bI.nil _ _) rfl rfl (d:=r0) (Or.inr ⟨1,0,k0,c0,_,fB,rfl,rfl,by rw[lh];exact fH.ud⟩) (by show 0+r0.length<=_;omega) ?_
  intro v1 B1 kh
  rw[cM]at kh
  cbv
  refine lI (hP▸aI) hg rfl rfl (show av 89=some _ from rfl) rfl (show av 5=some _ from rfl) jM rfl (L0:=[⟨0,aV size n hf kf (.slice 1 0 k0 c0),297⟩,⟨1,X0,5⟩,⟨2,aV size n hf kf (.slice 1 0 k0 c0),297⟩]++[⟨4,[.int .u8 128],5⟩]) (B1:=B1) (lb:=3) (LK (by cases B1<;>rfl) (kh.mid (A:=[⟨0,aV size n hf kf (.slice 1 0 k0 c0),297⟩,⟨1,X0,5⟩,⟨2,aV size n hf kf (.slice 1 0 k0 c0),297⟩]) (C:=[⟨4,[.int .u8 128],5⟩]) rfl)) rfl rfl kh rfl rfl (d:=[128]) (Or.inr ⟨4,0,1,1,_,rfl,rfl,rfl,rfl⟩) (by show r0.length+1<=_;omega) ?_
  intro v2 B2 qf
  obtain⟨k2,c2,X2,fq,rfl,rfl,lR⟩:=qf.some (by simp)
  obtain⟨l1,cQ⟩:=aa (r0++[128])
  rw[<-cQ]at fq lR
  have JK:l1.length=r0.length+1:=by rw[cQ,dI];rfl
  obtain⟨zt,Kt⟩:=aa ((64-(l1.length+8)%64)%64)
  cbv
  refine⟨List Nat×Nat×Nat×List SV,fun s=>(∃z,z<=zt/\s.1=l1++List.replicate z 0)/\s.2.1=s.1.length/\kv s.1 s.2.2.1 s.2.2.2,fun s=>2*64-s.2.1,fun s=> [(0,.ptr 0 0),(3,.ptr 2 0),(4,.slice 5 0 s.2.1 s.2.2.1)],fun s=> [⟨0,aV size n hf kf (.slice 1 0 k0 c0),297⟩,⟨2,aV size n hf kf (.slice 1 0 k0 c0),297⟩,⟨5,s.2.2.2,5⟩],6,⟨(l1,k2,c2,X2),id,⟨⟨0,bf _,by simp⟩,fq,lR⟩,?_⟩,?_⟩
  ·exact aS (by repeat' (first|exact trivial|refine⟨rfl,rfl,rfl,?_⟩|refine⟨rfl,rfl,lR.b 6,?_⟩))
  rintro⟨l,k,c,X⟩ ⟨⟨z,hz,hl⟩,hk,hX⟩
  change l=l1++List.replicate z 0 at hl
  change k=l.length at hk
  change kv l c X at hX
  have pA:k=l1.length+z:=by rw[hk,hl,dI,jq]
  by_cases lH:k%64=56
  ·have Ks:z=zt:=by omega
   subst Ks
   obtain⟨l2,eO⟩:=aa (l1++List.replicate (z+0) 0)
   cbv
   rw[e1 k]
   cbv
   rw[e2 k,lH]
   cbv
   rw[wg]
   cbv
   refine⟨Nat×List Nat×Nat×Nat×List SV,fun s=>s.1<=0/\s.2.1=l1++List.replicate (z+s.1) 0/\s.2.2.1=s.2.1.length/\kv s.2.1 s.2.2.2.1 s.2.2.2.2,fun s=>0-s.1,fun s=> [(0,.ptr 0 0),(3,.ptr 2 0),(4,.slice 5 0 s.2.2.1 s.2.2.2.1),(29,.int .i64 (.ofNat s.1))],fun s=> [⟨0,aV size n hf kf (.slice 1 0 k0 c0),297⟩,⟨2,aV size n hf kf (.slice 1 0 k0 c0),297⟩,⟨5,s.2.2.2.2,5⟩],6,⟨(0,l,k,c,X),id,⟨bf _,hl,hk,hX⟩,?_⟩,?_⟩
   ·exact aS (by repeat' (first|exact trivial|refine⟨rfl,rfl,rfl,?_⟩|refine⟨rfl,rfl,hX.b 6,?_⟩))
   clear hX hl pA lH hk
   rintro⟨i,l,k,c,X⟩ ⟨hi,hl,hk,hX⟩
   change i<=0 at hi
   change l=l1++List.replicate (z+i) 0 at hl
   change k=l.length at hk
   change kv l c X at hX
   have pA:k=l1.length+(z+i):=by rw[hk,hl,dI,jq]
   by_cases ab:i<0
   ·cbv
    rw[e6 i ab]
    cbv
    refine lI (hP▸aI) hg rfl rfl (show av 89=some _ from rfl) rfl (show av 5=some _ from rfl) jM rfl (L0:=[⟨0,aV size n hf kf (.slice 1 0 k0 c0),297⟩,⟨2,aV size n hf kf (.slice 1 0 k0 c0),297⟩,⟨6,[.int .u8 0],5⟩]) (B1:=[⟨5,X,5⟩]) (lb:=5) ((hX.row hk 5 5).mid (A:=[⟨0,aV size n hf kf (.slice 1 0 k0 c0),297⟩,⟨2,aV size n hf kf (.slice 1 0 k0 c0),297⟩]) (C:=[⟨6,[.int .u8 0],5⟩]) rfl) rfl rfl (hX.row hk _ 5) rfl rfl (d:=[0]) (Or.inr ⟨6,0,1,1,_,rfl,rfl,rfl,rfl⟩) (by show l.length+1<=_;omega) ?_
    intro v' B' dK
    obtain⟨k',c',X',dF,rfl,rfl,dO⟩:=dK.some (by simp)
    cbv
    rw[e4 i (by omega)]
    refine⟨(i+1,l++[0],k',c',X'),fun l=>if l=5 then 7 else l,⟨ab,by show l++[0]=l1++List.replicate (z+(i+1)) 0;rw[hl,jA,<-xP,Hx],dF,dO⟩,(by show 0-(i+1)<0-i;omega),?_⟩
    exact dH (by repeat' (first|exact trivial|refine⟨rfl,rfl,?_⟩)) ⟨rfl,rfl,rfl,rfl,rfl,rfl,rfl,rfl,by rw[ae X' (dO.b 0)];rfl,rfl,rfl,dO.b 6,trivial⟩ rfl rfl rfl
   ·obtain rfl:i=0:=by omega
    rw[<-eO]at hl
    cbv
    rw[Ir]
    cbv
    refine⟨Nat×List Nat×Nat×Nat×List SV,fun s=>s.1<=8/\s.2.1=l2++(Sh.be 8 n8).take s.1/\s.2.2.1=s.2.1.length/\kv s.2.1 s.2.2.2.1 s.2.2.2.2,fun s=>8-s.1,fun s=> [(0,.ptr 0 0),(3,.ptr 2 0),(4,.slice 5 0 s.2.2.1 s.2.2.2.1),(35,.int .i64 (.ofNat s.1))],fun s=> [⟨0,aV size n hf kf (.slice 1 0 k0 c0),297⟩,⟨2,aV size n hf kf (.slice 1 0 k0 c0),297⟩,⟨5,s.2.2.2.2,5⟩],6,⟨(0,l,k,c,X),id,⟨bf _,by show l=l2++[];rw[gg,hl],hk,hX⟩,?_⟩,?_⟩
    ·exact aS (by repeat' (first|exact trivial|refine⟨rfl,rfl,rfl,?_⟩|refine⟨rfl,rfl,hX.b 6,?_⟩))
    have aa8:l2.length=l1.length+(z+0):=by rw[eO,dI,jq]
    clear hX pA hk hl
    clear l k c X
    rintro⟨i,l,k,c,X⟩ ⟨hi,hl,hk,hX⟩
    change i<=8 at hi
    change l=l2++(Sh.be 8 n8).take i at hl
    change k=l.length at hk
    change kv l c X at hX
    have pA:k=l2.length+i:=by rw[hk,hl,dI,eY,pQ];omega
    by_cases ab:i<8
    ·obtain⟨b8,oL⟩:=aa (8*i)
     obtain⟨s8,j7⟩:=aa (56-b8)
     obtain⟨y,hy⟩:=aa (n8/2^s8)
     obtain⟨yb,rG⟩:=aa (y%256)
     have g1:sh .shl .u64 (.ofNat n) 3=Int.ofNat n8:=(mP hA (k:= .u64) rfl n (s:=3) (by decide)).trans (by rw[BP];rfl)
     have g2:bin .mul .i64 8 (.ofNat i)=Int.ofNat b8:=(k8 hA (a:=8) (b:=i) (by omega)).trans (by rw[oL])
     have g3:bin .sub .i64 56 (.ofNat b8)=Int.ofNat s8:=(er hA (a:=56) (b:=b8) (by omega) (by decide)).trans (by rw[j7])
     have g4:nn (.ofNat s8)=true:=kr hA s8
     have g5:sh .shr .u64 (.ofNat n8) (.ofNat s8)=Int.ofNat y:=(k_ hA (k:= .u64) (a:=n8) (b:=s8) (by show s8<=64;omega)).trans (by rw[hy])
     have g6:aX .u8 (.ofNat y)=Int.ofNat yb:=(Bo hA y).trans (by rw[rG])
     cbv
     rw[e5 i ab]
     cbv
     rw[g1,g2]
     cbv
     rw[g3]
     cbv
     rw[g4]
     cbv
     rw[g5]
     cbv
     rw[g6]
     cbv
     refine lI (hP▸aI) hg rfl rfl (show av 89=some _ from rfl) rfl (show av 5=some _ from rfl) jM rfl (L0:=[⟨0,aV size n hf kf (.slice 1 0 k0 c0),297⟩,⟨2,aV size n hf kf (.slice 1 0 k0 c0),297⟩,⟨6,[.int .u8 (.ofNat yb)],5⟩]) (B1:=[⟨5,X,5⟩]) (lb:=5) ((hX.row hk 5 5).mid (A:=[⟨0,aV size n hf kf (.slice 1 0 k0 c0),297⟩,⟨2,aV size n hf kf (.slice 1 0 k0 c0),297⟩]) (C:=[⟨6,[.int .u8 (.ofNat yb)],5⟩]) rfl) rfl rfl (hX.row hk _ 5) rfl rfl (d:=[yb]) (Or.inr ⟨6,0,1,1,_,rfl,rfl,rfl,rfl⟩) (by show l.length+1<=_;omega) ?_
     intro v' B' dK
     obtain⟨k',c',X',dF,rfl,rfl,dO⟩:=dK.some (by simp)
     cbv
     rw[e4 i (by omega)]
     refine⟨(i+1,l++[yb],k',c',X'),fun l=>if l=5 then 7 else l,⟨ab,?_,dF,dO⟩,(by show 8-(i+1)<8-i;omega),?_⟩
     ·show l++[yb]=l2++(Sh.be 8 n8).take (i+1)
      rw[hl,HY 8 n8 ab,jA,rG,hy,j7,oL,show 56-8*i=8*(8-1-i) by omega,jS]
     exact dH (by repeat' (first|exact trivial|refine⟨rfl,rfl,?_⟩)) ⟨rfl,rfl,rfl,rfl,rfl,rfl,rfl,rfl,by rw[ae X' (dO.b 0)];rfl,rfl,rfl,dO.b 6,trivial⟩ rfl rfl rfl
    ·obtain rfl:i=8:=by omega
     rw[vf (by rw[pQ];exact aE 8)]at hl
     have lB:k%64=0:=by omega
     have tf:l=r0++([128]++(List.replicate (z+0) 0++Sh.be 8 n8)):=by rw[hl,eO,cQ];simp only[jA]
     have oP:∀x∈l,x<256:=by
      intro x hx
      rw[tf]at hx
      rcases List.mem_append.1 hx with h|h
      ·exact N7 x h
      ·rcases List.mem_append.1 h with h|h
       ·obtain rfl:=il.1 h;decide
       ·rcases List.mem_append.1 h with h|h
        ·rw[(qM.1 h).2];decide
        ·exact Qp _ _ x h
     have wC:=Mr hP (t:=5) size n hf kf iU (.slice 2 0 k0 c0) rfl 0 c X l oP k hk (by rw[lh];exact hX.ud) hX.le (by omega) hX.b IE
     have rX:∀r,bj r X=X:=fun r=>ae X (hX.b 0)
     cbv
     rw[Iq]
     cbv
     refine gQ rfl hg rfl rfl wC (fun l=>if l=0 then 2 else if l=1 then 5 else 1) rfl ⟨rfl,by rw[rX];rfl,trivial⟩ rfl rfl rfl ?_
     rintro _ _ _ ⟨h',o',c3,r,rl,J6,q1,q2,rfl,q4,rfl,rfl⟩ _
     refine⟨rfl,?_⟩
     simp only[aG,rX]
     have lA:Sh.out 4 (aQ h')=Sh.out 4 (Sh.aW Sh.aB (aQ h0) (Sh.pad Sh.aB M)):=by
      have hp:=(Sh.TW (K:=Sh.aB) (by decide) (aQ h0) M ([128]++(List.replicate ((64-(M.length+1+8)%64)%64+0) 0++Sh.be 8 (M.length*8%0x10000000000000000)))).1
      rw[<-G1,<-cC,<-hh]at hp
      rw[hp,q1]
      have qv:(64-(M.length+1+8)%64)%64=z:=by
       rw[Kt,JK,TN];omega
      rw[qv,<-hn,show n*8%0x10000000000000000=n8 from BP.symm,<-tf]
      rfl
     obtain⟨DO,sM⟩:=aa (fun i k=>j8 h' i++(Sh.be 4 (h' i)).take k:Nat->Nat->List Nat)
     have d0:DO 0 0=[]:=by rw[sM];rfl
     have dN:∀i,DO i 4=DO (i+1) 0:=fun i=>by
      rw[sM]
      show j8 h' i++(Sh.be 4 (h' i)).take 4=j8 h' (i+1)++[]
      rw[gg,OM,vf (by rw[pQ];exact aE _)]
     have dS:∀i k,k<4->DO i (k+1)=DO i k++[h' i/2^(24-8*k)%256]:=fun i k hk=>by
      rw[sM]
      show j8 h' i++(Sh.be 4 (h' i)).take (k+1)=j8 h' i++(Sh.be 4 (h' i)).take k++_
      rw[HY 4 _ hk,<-jA,show 24-8*k=8*(4-1-k) by omega,jS]
     have dE:DO 8 0=Sh.out 4 (aQ h'):=by
      rw[sM]
      show j8 h' 8++[]=_
      rw[gg,OL]
     have dL:∀i k,i<=8->k<=4->(DO i k).length=4*i+k:=fun i k _ hk=>by
      rw[sM]
      show(j8 h' i++(Sh.be 4 (h' i)).take k).length=_
      rw[dI,KS,eY,pQ];omega
     clear sM
     cbv
     refine⟨Nat×SV×LL,fun s=>s.1<=8/\bI 5 5 (DO s.1 0) s.2.1 s.2.2,fun s=>8-s.1,fun s=> [(0,.ptr 0 0),(6,s.2.1),(56,.agg (aw .u32 (fun j=>Int.ofNat (h' j)) 0 8)),(57,.int .i64 (.ofNat s.1))],fun s=>⟨0,aV size n hf kf (.slice 1 0 k0 c0),297⟩::s.2.2,6,⟨(0,.au,[]),id,⟨bf _,by show bI _ 5 (DO 0 0) _ _;rw[d0];exact bI.nil _ _⟩,?_⟩,?_⟩
     ·exact a_
     rintro⟨i,v,B⟩ ⟨hi,kj⟩
     change i<=8 at hi
     change bI 5 5 (DO i 0) v B at kj
     by_cases ab:i<8
     ·obtain⟨xi,xg⟩:=aa (h' i)
      have g1:ix (.ofNat i) 8=some i:=bB hA ab
      have g2:off 0 i 1=i:=(dh hA 0 i 1).trans (by omega)
      have g3:=ei hA .u32 (n:=8) h' ab
      rw[<-xg]at g3
      simp only[aw,Nat.reduceAdd]at g3
      cbv
      rw[e5 i ab]
      cbv
      rw[g1]
      cbv
      rw[g2,g3]
      cbv
      refine⟨Nat×SV×LL,fun s=>s.1<=4/\bI 5 5 (DO i s.1) s.2.1 s.2.2,fun s=>4-s.1,fun s=> [(0,.ptr 0 0),(6,s.2.1),(8,.int .u32 (.ofNat xi)),(56,.agg (aw .u32 (fun j=>Int.ofNat (h' j)) 0 8)),(57,.int .i64 (.ofNat i)),(60,.int .i64 (.ofNat s.1))],fun s=>⟨0,aV size n hf kf (.slice 1 0 k0 c0),297⟩::s.2.2,6,⟨(0,v,B),id,⟨bf _,kj⟩,?_⟩,?_⟩
      ·rcases kj.get with⟨rfl,rfl,_⟩|⟨k0,c0,X0,h0,rfl,rfl,fH⟩
       ·exact a_
       ·exact aS (by repeat' (first|exact trivial|refine⟨rfl,rfl,rfl,?_⟩|refine⟨rfl,rfl,fH.b 6,?_⟩))
      clear kj
      rintro⟨k,v,B⟩ ⟨hk,kj⟩
      change k<=4 at hk
      change bI 5 5 (DO i k) v B at kj
      by_cases lB:k<4
      ·obtain⟨b8,oL⟩:=aa (8*k)
       obtain⟨s8,j7⟩:=aa (24-b8)
       obtain⟨y,hy⟩:=aa (xi/2^s8)
       obtain⟨yb,rG⟩:=aa (y%256)
       have j2:bin .mul .i64 8 (.ofNat k)=Int.ofNat b8:=(k8 hA (a:=8) (b:=k) (by omega)).trans (by rw[oL])
       have j3:bin .sub .i64 24 (.ofNat b8)=Int.ofNat s8:=(er hA (a:=24) (b:=b8) (by omega) (by decide)).trans (by rw[j7])
       have j4:nn (.ofNat s8)=true:=kr hA s8
       have j5:sh .shr .u32 (.ofNat xi) (.ofNat s8)=Int.ofNat y:=(k_ hA (k:= .u32) (a:=xi) (b:=s8) (by show s8<=32;omega)).trans (by rw[hy])
       have j6:aX .u8 (.ofNat y)=Int.ofNat yb:=(Bo hA y).trans (by rw[rG])
       have re:DO i (k+1)=DO i k++[yb]:=by rw[dS i k lB,rG,hy,j7,oL,xg]
       have jO:=dL i k (by omega) (by omega)
       cbv
       rw[e7 k lB]
       cbv
       rw[j2]
       cbv
       rw[j3]
       cbv
       rw[j4]
       cbv
       rw[j5]
       cbv
       rw[j6]
       cbv
       refine lI (hP▸aI) hg rfl rfl (show av 89=some _ from rfl) rfl (show av 5=some _ from rfl) jM rfl (L0:=[⟨0,aV size n hf kf (.slice 1 0 k0 c0),297⟩,⟨6,[.int .u8 (.ofNat yb)],5⟩]) (B1:=B) (lb:=5) (LK (by cases B<;>rfl) (kj.mid (A:=[⟨0,aV size n hf kf (.slice 1 0 k0 c0),297⟩]) (C:=[⟨6,[.int .u8 (.ofNat yb)],5⟩]) rfl)) rfl rfl kj rfl rfl (d:=[yb]) (Or.inr ⟨6,0,1,1,_,rfl,rfl,rfl,rfl⟩) (by show(DO i k).length+1<=_;rw[jO];omega) ?_
       intro v' B' dK
       obtain⟨k',c',X',dF,rfl,rfl,dO⟩:=dK.some (by simp)
       rw[<-re]at dF dO
       cbv
       rw[e4 k (by omega)]
       refine⟨(k+1,.slice 5 0 k' c',[⟨5,X',5⟩]),fun l=>if l=5 then 7 else l,⟨lB,dO.row dF _ 5⟩,(by show 4-(k+1)<4-k;omega),?_⟩
       exact dH (by repeat' (first|exact trivial|refine⟨rfl,rfl,?_⟩)) ⟨rfl,rfl,rfl,rfl,by rw[ae X' (dO.b 0)];rfl,rfl,rfl,dO.b 6,trivial⟩ rfl rfl rfl
      ·obtain rfl:k=4:=by omega
       rw[dN i]at kj
       cbv
       rw[sH]
       cbv
       rw[e4 i (by omega)]
       refine⟨(i+1,v,B),id,⟨ab,kj⟩,(by show 8-(i+1)<8-i;omega),?_⟩
       rcases kj.get with⟨rfl,rfl,_⟩|⟨k0,c0,X0,h0,rfl,rfl,fH⟩
       ·exact a_
       ·exact aS (by repeat' (first|exact trivial|refine⟨rfl,rfl,rfl,?_⟩|refine⟨rfl,rfl,fH.b 6,?_⟩))
     ·obtain rfl:i=8:=by omega
      have jO:=dL 8 0 (by omega) (by omega)
      obtain⟨k4,c4,X4,hk4,rfl,rfl,BD⟩:=kj.some (fun h=>by rw[h]at jO;simp at jO)
      obtain⟨s8,j7⟩:=aa (size/8)
      have akg:s8<=4*8:=by omega
      have j1:bin .quo .i64 (.ofNat size) 8=Int.ofNat s8:=(mO hA (a:=size) (b:=8) (by omega)).trans (by rw[j7])
      have Jr:dg.size=s8:=by
       rw[<-bh,fk,<-lA,<-dE,<-j7,eY,jO];omega
      have q9:X4.take s8=dZ dg:=by
       have h1:=BD.ud
       rw[qR,fk,<-lA,<-dE,<-j7,H4,<-h1,Hz,tS (by rw[jO];omega)]
      cbv
      rw[Iq]
      cbv
      rw[j1]
      cbv
      refine rS hg rfl rfl rfl rfl rfl (G8 (hP▸aI) (show av 89=some _ from rfl) rfl 5 0 k4 c4 (j:=s8) (by have:=BD.le;rw[jO]at this;omega)) ?_
      cbv
      refine ES (hP▸aI) hg rfl rfl (show av 9=some _ from rfl) rfl (show av 89=some _ from rfl) rfl (by subst hP;kernel_rfl) rfl (show find _ 5=some _ from rfl) (s:=dg) (by rw[lh];exact q9) Jr ?_
      cbv
      exact hK _ _ _ rfl
  ·have nD:z<zt:=by omega
   cbv
   rw[e1 k]
   cbv
   rw[e2 k]
   cbv
   rw[e3 _ lH]
   cbv
   refine lI (hP▸aI) hg rfl rfl (show av 89=some _ from rfl) rfl (show av 5=some _ from rfl) jM rfl (L0:=[⟨0,aV size n hf kf (.slice 1 0 k0 c0),297⟩,⟨2,aV size n hf kf (.slice 1 0 k0 c0),297⟩,⟨6,[.int .u8 0],5⟩]) (B1:=[⟨5,X,5⟩]) (lb:=5) ((hX.row hk 5 5).mid (A:=[⟨0,aV size n hf kf (.slice 1 0 k0 c0),297⟩,⟨2,aV size n hf kf (.slice 1 0 k0 c0),297⟩]) (C:=[⟨6,[.int .u8 0],5⟩]) rfl) rfl rfl (hX.row hk _ 5) rfl rfl (d:=[0]) (Or.inr ⟨6,0,1,1,_,rfl,rfl,rfl,rfl⟩) (by show l.length+1<=_;omega) ?_
   intro v' B' dK
   obtain⟨k',c',X',dF,rfl,rfl,dO⟩:=dK.some (by simp)
   cbv
   refine⟨(l++[0],k',c',X'),fun l=>if l=5 then 7 else l,⟨⟨z+1,nD,by rw[hl,jA,Hx]⟩,dF,dO⟩,?_,?_⟩
   ·show 2*64-k'<2*64-k
    have:k'=k+1:=by rw[dF,hk,dI];rfl
    omega
   exact dH (by repeat' (first|exact trivial|refine⟨rfl,rfl,?_⟩)) ⟨rfl,rfl,rfl,rfl,rfl,rfl,rfl,rfl,by rw[ae X' (dO.b 0)];rfl,rfl,rfl,dO.b 6,trivial⟩ rfl rfl rfl
def soB(f:Nat->Nat):Sh.S8:=⟨f 0,f 1,f 2,f 3,f 4,f 5,f 6,f 7⟩
def ai4(size n:Nat)(h kf:Nat->Nat)(rest:SV):List SV:=[.int .i64 (.ofNat size)]++aw .u64 (fun j=>Int.ofNat (h j)) 0 8++aw .u64 (fun j=>Int.ofNat (kf j)) 0 80++[rest,.int .u64 (.ofNat n)]
def HK(id z b k:Nat):Prop:=(id=1/\z=224/\b=28/\k=64)\/(id=2/\z=256/\b=32/\k=64)\/(id=3/\z=384/\b=48/\k=128)\/(id=4/\z=512/\b=64/\k=128)
theorem HK.at{id:Nat}(h:1<=id/\id<=4):HK id (Sh.size id*8) (Sh.size id) (Sh.vU id):=by
 obtain rfl|rfl|rfl|rfl:id=1\/id=2\/id=3\/id=4:=by omega
 ·exact Or.inl ⟨rfl,rfl,rfl,rfl⟩
 ·exact Or.inr (Or.inl ⟨rfl,rfl,rfl,rfl⟩)
 ·exact Or.inr (Or.inr (Or.inl ⟨rfl,rfl,rfl,rfl⟩))
 ·exact Or.inr (Or.inr (Or.inr ⟨rfl,rfl,rfl,rfl⟩))
theorem QK{P:Program}(hP:P=Tryz.prog)(id z b k:Nat)(h:HK id z b k):ah P 100 [.int .i64 (.ofNat id)] [] 0 [] (fun v _ _=>v= .aR [.agg [.int .i64 (.ofNat z),.int .i64 (.ofNat b),.int .i64 (.ofNat k)],.bool true]):=by
 refine aq hP Tryz.func100 (ak _ rfl) (aD rfl) ?_
 intro A g K hA hg hK
 obtain⟨_,_,cmp⟩:=A
 have t1:∀x,cmp .eql (.ofNat x) (.ofNat x)=true:=fun x=>iP hA (a:=x) (b:=x) rfl
 have f1:∀x y,x≠y->cmp .eql (.ofNat x) (.ofNat y)=false:=fun x y h=>ja hA (a:=x) (b:=y) h
 have H5:cmp .eql (.ofNat 2) 1=false:=f1 2 1 (by decide)
 have H7:cmp .eql (.ofNat 3) 1=false:=f1 3 1 (by decide)
 have H9:cmp .eql (.ofNat 4) 1=false:=f1 4 1 (by decide)
 have jr:cmp .eql (.ofNat 3) 2=false:=f1 3 2 (by decide)
 have H_:cmp .eql (.ofNat 4) 2=false:=f1 4 2 (by decide)
 have H':cmp .eql (.ofNat 4) 3=false:=f1 4 3 (by decide)
 have qS:cmp .eql (.ofNat 1) 1=true:=t1 1
 have H6:cmp .eql (.ofNat 2) 2=true:=t1 2
 have H8:cmp .eql (.ofNat 3) 3=true:=t1 3
 have Ia:cmp .eql (.ofNat 4) 4=true:=t1 4
 rcases h with⟨rfl,rfl,rfl,rfl⟩|⟨rfl,rfl,rfl,rfl⟩|⟨rfl,rfl,rfl,rfl⟩|⟨rfl,rfl,rfl,rfl⟩
 ·cbv
  rw[qS]
  cbv
  exact hK _ _ _ rfl
 ·cbv
  rw[H5]
  cbv
  rw[H6]
  cbv
  exact hK _ _ _ rfl
 ·cbv
  rw[H7]
  cbv
  rw[jr]
  cbv
  rw[H8]
  cbv
  exact hK _ _ _ rfl
 ·cbv
  rw[H9]
  cbv
  rw[H_]
  cbv
  rw[H']
  cbv
  rw[Ia]
  cbv
  exact hK _ _ _ rfl
theorem Db{P:Program}(hP:P=Tryz.prog)(id z b k:Nat)(h:HK id z b k):ah P 52 [.int .i64 (.ofNat id)] [] 0 [] (fun v _ _=>v= .int .i64 (.ofNat b)):=by
 have hO:=QK hP id z b k h
 refine aq hP Tryz.func52 (ak _ rfl) (aD rfl) ?_
 intro A g K hA hg hK
 cases A
 cbv
 refine fe rfl hg rfl rfl hO ?_
 rintro _ _ _ rfl
 refine⟨by simp[bd,ay],?_⟩
 cbv
 exact hK _ _ _ rfl
theorem af8{P:Program}(hP:P=Tryz.prog)(id z b k:Nat)(h:HK id z b k):ah P 190 [.int .i64 (.ofNat id)] [] 0 [] (fun v _ _=>v= .int .i64 (.ofNat k)):=by
 have hO:=QK hP id z b k h
 refine aq hP Tryz.func190 (ak _ rfl) (aD rfl) ?_
 intro A g K hA hg hK
 cases A
 cbv
 refine fe rfl hg rfl rfl hO ?_
 rintro _ _ _ rfl
 refine⟨by simp[bd,ay],?_⟩
 cbv
 exact hK _ _ _ rfl
theorem adj(x:UInt8):∀c,Go.Lib.repeatL [x] c=List.replicate c x
 |0=>rfl
 |c+1=>by rw[Go.Lib.repeatL,adj x c];rfl
theorem MC{P:Program}(hP:P=Tryz.prog)(s:ByteArray)(x:UInt8)(hs:s.data.toList=[x])(c:Nat)(hc:c<=1000)(r:ByteArray)(hr:bl r=List.replicate c x.toNat):
 ah P 128 [.str s,.int .i64 (.ofNat c)] [] 0 [] (fun v _ _=>v= .str r):=by
 subst hP
 have aJ:s.size=1:=by
  show s.data.size=1
  rw[<-tO,hs];rfl
 have e:r=⟨(Go.Lib.repeatL s.data.toList c).toArray⟩:=ph (by
  rw[hr,hs,adj]
  simp[bl])
 rw[e]
 exact ah.MW (u_.of Tryz.func128 rfl) (fun W=>Tryz.strings_Repeat s c W (by omega) (by rw[aJ];omega)) ⟨trivial,trivial,trivial⟩ trivial
structure SK where
 f1:FuncId
 f2:FuncId
 fw:FuncId
 fs:FuncId
 th:TypeId
 t2:TypeId
 t3:TypeId
 t4:TypeId
def dA(K:SK)(hc:List SV):LL:=
 [⟨0,[.fn (.func K.f1) [] [.ptr 3 0,.ptr 2 0],.fn (.func K.f2) [] [.ptr 4 0,.ptr 2 0]],254⟩,⟨1,hc,K.th⟩,⟨2,[.ptr 1 0],K.t2⟩,⟨3,[.fn (.func K.fw) [] []],K.t3⟩,⟨4,[.fn (.func K.fs) [] []],K.t4⟩]
structure SO(P:Program)(id:Nat)(K:SK)(lf:List Nat->List Nat)(HB:List Nat->(SV->List SV)->Prop):Prop where
 vQ:∀ {M CH},HB M CH->∀m rv,gh m rv=true->an m (CH rv)=true
 o8:∀ {M CH},HB M CH->∀ (ρ:Nat->Nat) rv,bj ρ (CH rv)=CH (cK ρ rv)
 new:ah P 142 [.int .i64 (.ofNat id)] [] 0 [] (fun v L q=>∃CH,HB [] CH/\v= .aR [.ptr 0 0,.int .i64 0]/\L=dA K (CH .au)/\q=5)
 nil:lf []=[]
 w1:∀ (M:List Nat) (s:ByteArray) (CH:SV->List SV) (rv:SV) (B:LL),(∀x∈M,x<256)->M.length+s.size<140737488353000->HB M CH->bI 5 5 (lf M) rv B->
  ah P K.f1 [.str s,.ptr 3 0,.ptr 2 0] (dA K (CH rv)++B) 6 [1] (fun v L q=>∃dU ep B',HB (M++bl s) dU/\bI 5 6 (lf (M++bl s)) ep B'/\v= .int .i64 0/\L=dA K (dU ep)++B'/\q=7)
 s1:∀ (M:List Nat) (dg:ByteArray) (CH:SV->List SV) (rv:SV) (B:LL),(∀x∈M,x<256)->M.length<140737488353000->bl dg=Sh.of id M->HB M CH->bI 5 5 (lf M) rv B->
  ah P K.f2 [.ptr 4 0,.ptr 2 0] (dA K (CH rv)++B) 6 [] (fun v _ _=>v= .str dg)
theorem ah.stream{P:Program}{f:FuncId}{args:List SV}{Lp:LL}{ms:List Nat}{K:SK}{Q:(SV->List SV)->Prop}{t:TypeId}{l:List Nat}
 (h:ah P f args Lp 6 ms (fun v L q=>∃dU ep B',Q dU/\bI t 6 l ep B'/\v= .int .i64 0/\E0 7 L (dA K (dU ep)++B')/\q=7)):
 ah P f args Lp 6 ms (fun v L q=>∃dU ep B',Q dU/\bI t 6 l ep B'/\v= .int .i64 0/\L=dA K (dU ep)++B'/\q=7):=by
 refine h.dj fun v L q hq=> ?_
 obtain⟨dU,ep,B',h1,h2,rfl,h4,rfl⟩:=hq
 refine⟨id,.int .i64 0,dA K (dU ep)++B',7,fD ⟨rfl,rfl,trivial⟩ h4 ?_ rfl,dU,ep,B',h1,h2,rfl,rfl,rfl⟩
 rcases h2.get with⟨_,rfl,_⟩|⟨k,c,X,_,_,rfl,_⟩<;>rfl
end Go.Proofs.YtfocopihipejfaaGreat
