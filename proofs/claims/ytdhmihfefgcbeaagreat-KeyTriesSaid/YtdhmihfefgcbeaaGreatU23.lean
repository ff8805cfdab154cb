/-
  This text proves what these texts prove: Le, Pt, Pv. Conditions: those of each theorem.
-/
import Derived.Test.YtdhmihfefgcbeaaGreatU22
set_option maxHeartbeats 8000000
namespace Go.Proofs.YtdhmihfefgcbeaaGreat
open Go.Vg Go.RowKit
set_option maxRecDepth 200000
set_option cbv.maxSteps 100000000
theorem mkS_res(sz sh N:Nat):∀f (D:Sh.Dr),((mkS sz sh N f D).2.2.1=0/\(mkS sz sh N f D).1≠0/\(mkS sz sh N f D).1<N/\1<=(mkS sz sh N f D).2.1/\(mkS sz sh N f D).2.1<=f)\/(mkS sz sh N f D).2.2.1=2402\/(mkS sz sh N f D).2.2.1=2403
 |0,_=>Or.inr (Or.inr rfl)
 |f+1,D=>by
  unfold mkS
  split
  ·exact Or.inr (Or.inl rfl)
  ·split
   ·rename_i hgood
    exact Or.inl ⟨rfl,hgood.1,hgood.2,Nat.le_refl _,by show 1<=f+1;omega⟩
   ·rcases mkS_res sz sh N f (tryD sz sh D).2 with⟨h1,h2,h3,h4,h5⟩|h|h
    ·exact Or.inl ⟨h1,h2,h3,by show 1<=_+1;omega,by show _+1<=f+1;omega⟩
    ·exact Or.inr (Or.inl h)
    ·exact Or.inr (Or.inr h)
theorem ft6{ρ:Nat->Nat}{M:Nat->Option Blk}{l0 l1 l2 l3 l4 l5:Nat}{C0 C1 C2 C3 C4 C5:List SV}{t:TypeId}(b0:bdLB 0 C0=true)(b1:bdLB 0 C1=true)(b2:bdLB 0 C2=true)(b3:bdLB 0 C3=true)(b4:bdLB 0 C4=true)(b5:bdLB 0 C5=true)
 (h0:M (ρ l0)=some ⟨ρ l0,C0,t⟩) (h1:M (ρ l1)=some ⟨ρ l1,C1,t⟩) (h2:M (ρ l2)=some ⟨ρ l2,C2,t⟩) (h3:M (ρ l3)=some ⟨ρ l3,C3,t⟩) (h4:M (ρ l4)=some ⟨ρ l4,C4,t⟩) (h5:M (ρ l5)=some ⟨ρ l5,C5,t⟩):foot ρ M [⟨l0,C0,t⟩,⟨l1,C1,t⟩,⟨l2,C2,t⟩,⟨l3,C3,t⟩,⟨l4,C4,t⟩,⟨l5,C5,t⟩]:=
 ⟨by rw[rcl _ b0];exact h0,by rw[rcl _ b1];exact h1,by rw[rcl _ b2];exact h2,by rw[rcl _ b3];exact h3,by rw[rcl _ b4];exact h4,by rw[rcl _ b5];exact h5,trivial⟩
def genN(sz:Nat)(D:Sh.Dr):Nat->Sh.Dr
 |0=>D
 |i+1=>(Sh.generate (genN sz D i) sz []).2
theorem genN_ok(sz:Nat){D:Sh.Dr}(h:Sh.Ok D):∀i,Sh.Ok (genN sz D i)
 |0=>h
 |i+1=>generate_ok (genN_ok sz h i) sz
theorem genN_n(sz:Nat)(D:Sh.Dr):∀i,(genN sz D i).id=D.id/\(genN sz D i).n=D.n+i
 |0=>⟨rfl,rfl⟩
 |i+1=>by
  obtain⟨h1,h2⟩:=genN_n sz D i
  obtain⟨g1,g2⟩:=generate_n (genN sz D i) sz
  exact⟨g1.trans h1,by rw[show(genN sz D (i+1)).n=(genN sz D i).n+1 from g2,h2];omega⟩
theorem genN_shift(sz:Nat)(D:Sh.Dr):∀i,genN sz (Sh.generate D sz []).2 i=genN sz D (i+1)
 |0=>rfl
 |i+1=>by show(Sh.generate (genN sz _ i) sz []).2=_;rw[genN_shift sz D i];rfl
theorem mkS_gen(sz sh N:Nat):∀f (D:Sh.Dr),(mkS sz sh N f D).2.2.1=0->(∀i,i<(mkS sz sh N f D).2.1->(genN sz D i).n<=64)/\(mkS sz sh N f D).2.2.2=genN sz D (mkS sz sh N f D).2.1/\1<=(mkS sz sh N f D).2.1/\(mkS sz sh N f D).1=Sh.word (Sh.generate (genN sz D ((mkS sz sh N f D).2.1-1)) sz []).1/2^sh
 |0,D,h=>absurd (show(2403:Nat)=0 from h) (by decide)
 |f+1,D,h=>by
  unfold mkS at h⊢
  by_cases h64:64<D.n
  ·rw[if_pos h64]at h;exact absurd (show(2402:Nat)=0 from h) (by decide)
  ·rw[if_neg h64]at h⊢
   by_cases hg:(tryD sz sh D).1≠0/\(tryD sz sh D).1<N
   ·rw[if_pos hg]
    refine⟨fun i hi=> ?_,rfl,Nat.le_refl 1,rfl⟩
    obtain rfl:i=0:=by have:i<1:=hi;omega
    show D.n<=64;omega
   ·rw[if_neg hg]at h⊢
    obtain⟨h1,h2,h3,h4⟩:=mkS_gen sz sh N f (tryD sz sh D).2 h
    have e:∀i,genN sz (tryD sz sh D).2 i=genN sz D (i+1):=genN_shift sz D
    refine⟨fun i hi=> ?_,by rw[h2,e],by show 1<=_+1;omega,?_⟩
    ·cases i with
     |zero=>show D.n<=64;omega
     |succ i=>rw[<-e];exact h1 i (by have:i+1<(mkS sz sh N f (tryD sz sh D).2).2.1+1:=hi;omega)
    ·rw[h4,e]
     show Sh.word (Sh.generate (genN sz D ((mkS sz sh N f (tryD sz sh D).2).2.1-1+1)) sz []).1/2^sh=Sh.word (Sh.generate (genN sz D ((mkS sz sh N f (tryD sz sh D).2).2.1+1-1)) sz []).1/2^sh
     rw[show(mkS sz sh N f (tryD sz sh D).2).2.1-1+1=(mkS sz sh N f (tryD sz sh D).2).2.1+1-1 by omega]
theorem cKeyTries{P:Program}(hP:P=Tryz.prog)(x:Int)(hx: -9223372036854775808<=x/\x<=9223372036854775807)(s:ByteArray)(hs:s.size<2^62):Con P 8 [.int .i64 x,.str s] [] 0 [] (fun v _ _=>v= .bool true):=by
 obtain⟨H,hH⟩:=exq (fun x c=>Vg.hs (dg x) c:Nat->Nat->List SV)
 obtain⟨S,hS⟩:=exq (Vg.sz:Nat->Nat)
 have hs':HS H S:=⟨hH,hS⟩
 clear hH hS
 obtain⟨D,hD⟩:=exq (Sh.new 2 (seedL (bl s)))
 have hDo:Sh.Ok D:=by rw[hD];exact Sh.Ok.new (by decide) _
 have hDi:D.id=2:=by rw[hD];exact Sh.upd_id _ _
 have hDn:D.n=1:=by rw[hD];exact Sh.upd_n _ _
 have hAw:=cAwake hP
 have hN:=fun x=>cNum hP x
 refine cof hP Tryz.func8 (bdb _ rfl) (bkb rfl) ?_
 intro A g K hA hg hK
 obtain⟨bin,_,cmp,_,cvt,_,_,_,bnot,_,_,_,_,_,_,_,_,_,sub⟩:=A
 obtain⟨c,hc1,hc2,hc⟩:=cv15 hA x hx
 have hc':bin .add .i64 1 (cvt .i64 (bin .rem .u64 (cvt .u64 x) 15))=Int.ofNat c:=hc
 obtain⟨sp,sa,sb,sn,sx,sy⟩:=same_nums ⟨hc1,hc2⟩
 obtain⟨p,hp⟩:=exq (primeN c)
 obtain⟨va,hva⟩:=exq (curA c)
 obtain⟨vb,hvb⟩:=exq (rowB c)
 obtain⟨n,hn⟩:=exq (rowN c)
 obtain⟨gx,hgx⟩:=exq (rowX c)
 obtain⟨gy,hgy⟩:=exq (rowY c)
 obtain⟨pc,ac,bc,nc,xc,yc,bp,ba,bb,bn,bx,by',hGet⟩:=mGet hP hs' c ⟨hc1,hc2⟩ p va vb n gx gy hp hva hvb hn hgx hgy
 rw[<-hn]at sn
 obtain⟨bits,hb⟩:=bl_ex n
 have hbits:=bits_all ⟨hc1,hc2⟩ (by rw[sn];exact hb)
 have n18:n<4294967296^18:=by
  rw[<-sn]
  have h:((List.range 16).all fun k=>decide (EC.cn k<4294967296^18))=true:=by decide +kernel
  exact of_decide_eq_true (List.all_eq_true.1 h c (List.mem_range.2 (by omega)))
 obtain⟨sz,hsz⟩:=exq ((bits+7)/8)
 obtain⟨s8,hs8⟩:=exq (8*sz-bits)
 -- the generators' states
 have gok:=genN_ok sz hDo
 have gn':=genN_n sz D
 obtain⟨kk,hkk⟩:=exq (fun i=>mkB (genN sz D i).k:Nat->ByteArray)
 obtain⟨vv,hvv⟩:=exq (fun i=>mkB (genN sz D i).v:Nat->ByteArray)
 obtain⟨rr,hrr⟩:=exq (fun i=>mkB (Sh.generate (genN sz D i) sz []).1:Nat->ByteArray)
 have bk:∀i,bl (kk i)=(genN sz D i).k:=fun i=>by rw[hkk];exact bmk (gok i).kb
 have bv:∀i,bl (vv i)=(genN sz D i).v:=fun i=>by rw[hvv];exact bmk (gok i).vb
 have ks:∀i,(kk i).size=Sh.size 2:=fun i=>by rw[<-bll,bk,(gok i).kl,(gn' i).1,hDi]
 have vs:∀i,(vv i).size=Sh.size 2:=fun i=>by rw[<-bll,bv,(gok i).vl,(gn' i).1,hDi]
 have hGb:∀i,∀y∈(Sh.generate (genN sz D i) sz []).1,y<256:=fun i y hy=>by
  unfold Sh.generate at hy
  exact Sh.gen_b _ _ _ _ y (List.mem_of_mem_take hy)
 have br:∀i,bl (rr i)=(Sh.generate (genN sz D i) sz []).1:=fun i=>by rw[hrr];exact bmk (hGb i)
 obtain⟨ct,hct⟩:=exq (fun i=>1+i:Nat->Nat)
 have eD:∀i,(⟨2,bl (kk i),bl (vv i),ct i⟩:Sh.Dr)=genN sz D i:=fun i=>by
  obtain⟨h1,h2⟩:=gn' i
  rw[hDi]at h1
  rw[hDn]at h2
  rw[bk,bv,hct]
  generalize genN sz D i=Z at h1 h2
  cases Z
  simp only at h1 h2
  subst h1 h2
  rfl
 have hSe:=cSeeded hP s (kk 0) (vv 0) hs (by rw[bk,<-hD];rfl) (by rw[bv,<-hD];rfl)
 have c0:ct 0=1:=by rw[hct]
 obtain⟨R,hR⟩:=exq (mkS sz s8 n 64 (genN sz D 0))
 have hsk:=mkS_gen sz s8 n 64 (genN sz D 0)
 have hse:=mkS_res sz s8 n 64 (genN sz D 0)
 rw[<-hR]at hsk hse
 have hR':R=mkS sz s8 n 64 ⟨2,bl (kk 0),bl (vv 0),1⟩:=by rw[hR,<-eD 0,c0]
 obtain⟨dk,k',v',wd,vd,hk',hv',_,_,_,hn',hMk⟩:=cMake hP c ⟨hc1,hc2⟩ bits sz s8 n hb sn.symm hbits hsz hs8 2 (by decide) (kk 0) (vv 0) 1 (ks 0) (vs 0) (by decide) R hR'
 have vN:∀m,bdLB m (H n nc)=true:=fun m=>hs'.b m n nc
 have vP:∀m,bdLB m (H p pc)=true:=fun m=>hs'.b m p pc
 have vA:∀m,bdLB m (H va ac)=true:=fun m=>hs'.b m va ac
 have vB:∀m,bdLB m (H vb bc)=true:=fun m=>hs'.b m vb bc
 have vX:∀m,bdLB m (H gx xc)=true:=fun m=>hs'.b m gx xc
 have vY:∀m,bdLB m (H gy yc)=true:=fun m=>hs'.b m gy yc
 have hNS:=mNSize hP hs' c (S p) (S va) (S vb) (S gx) (S gy) pc ac bc xc yc (H p pc) (H va ac) (H vb bc) (H gx xc) (H gy yc) vP vA vB vX vY bn n18 bits hb hbits.2 sz hsz
 have hBi:=cRBits hP (hs'.nm bn) (by have:=hs'.le n18;omega) bits hb
 rw[show Vg.hs (dg n) nc=H n nc from by rw[hs'.h]]at hBi
 obtain⟨many,hmany⟩:=exq R.2.1
 obtain⟨code,hcode⟩:=exq R.2.2.1
 obtain⟨nd,hnd⟩:=exq R.2.2.2.n
 rw[<-hmany,<-hcode,<-hnd]at hMk
 rw[<-hmany,<-hcode]at hsk hse
 have e1:bnot true=false:=bnot_of hA true
 cbv
 refine cva rfl hg rfl rfl hAw ?_
 rintro _ _ _ rfl
 refine⟨trivial,?_⟩
 cbv
 rw[e1]
 cbv
 rw[hc']
 refine cgn rfl hg rfl rfl hGet _root_.id rfl trivial rfl rfl rfl ?_
 rintro _ _ _ ⟨rfl,rfl,rfl⟩ _
 refine⟨rfl,?_⟩
 simp only[renB,rcl _ (vP 0),rcl _ (vA 0),rcl _ (vB 0),rcl _ (vN 0),rcl _ (vX 0),rcl _ (vY 0)]
 cbv
 refine cgn rfl hg rfl rfl hSe _root_.id rfl trivial rfl rfl rfl ?_
 rintro _ _ _ ⟨rfl,rfl,rfl⟩ _
 refine⟨rfl,?_⟩
 cbv
 refine cgn rfl hg rfl rfl hSe _root_.id rfl trivial rfl rfl rfl ?_
 rintro _ _ _ ⟨rfl,rfl,rfl⟩ _
 refine⟨rfl,?_⟩
 cbv
 rw[e1]
 cbv
 rw[e1]
 cbv
 rw[e1]
 cbv
 refine cgn rfl hg rfl rfl hMk (fun _=>7) rfl ⟨rfl,trivial⟩ rfl rfl rfl ?_
 rintro _ _ _ ⟨rfl,rfl,rfl⟩ _
 refine⟨rfl,?_⟩
 cbv
 refine cva rfl hg rfl rfl (hN (Int.ofNat code)) ?_
 rintro _ _ _ rfl
 refine⟨trivial,?_⟩
 cbv
 rcases hse with⟨h0,hx0,hx1,hm1,hm2⟩|hbad
 ·rw[show cmp .neq (.ofNat code) 0=false from neq_f hA (a:=code) (b:=0) h0]
  cbv
  obtain⟨g1,g2,g3,g4⟩:=hsk h0
  -- what the second generator gives
  have ctl:∀i,i<many->ct i<=64:=fun i h=>by
   have h1:=g1 i h
   have h2:=(gn' i).2
   have e:genN sz (genN sz D 0) i=genN sz D i:=rfl
   rw[e,h2,hDn]at h1
   rw[hct];exact h1
  have hGe:∀i,i<many->Con P 29 [.ptr 0 0,.int .i64 (.ofNat sz),.str ⟨#[]⟩] [⟨0,[.int .i64 (.ofNat 2),.str (kk i),.str (vv i),.int .i64 (.ofNat (ct i))],100⟩] 1 [0] (fun w L q=>w= .tup [.str (rr i),.int .i64 0]/\L=[⟨0,[.int .i64 (.ofNat 2),.str (kk (i+1)),.str (vv (i+1)),.int .i64 (.ofNat (ct (i+1)))],100⟩]/\q=1):=fun i h=>by
   have h3:=cDGen hP 2 (by decide) (kk i) (vv i) ⟨#[]⟩ (ct i) sz (ks i) (vs i) (by decide) (by omega) (ctl i h) (rr i) (kk (i+1)) (vv (i+1)) (by rw[eD,br];rfl) (by rw[eD,bk];rfl) (by rw[eD,bv];rfl)
   rw[show ct i+1=ct (i+1)from by rw[hct];show 1+i+1=1+(i+1);omega]at h3
   exact h3
  obtain⟨lt,hlt'⟩:=exq (fun i=>if i=0 then⟨#[]⟩else rr (i-1):Nat->ByteArray)
  have lt0:lt 0=⟨#[]⟩:=by rw[hlt'];rfl
  have lts:∀i,lt (i+1)=rr i:=fun i=>by rw[hlt'];rfl
  have t0:cmp .neq 0 0=false:=neq_f hA (a:=0) (b:=0) rfl
  have f1:∀i,i<many->cmp .lss (.ofNat i) (.ofNat many)=true:=fun i h=>lss_t hA h
  have f2:cmp .lss (.ofNat many) (.ofNat many)=false:=lss_f hA (Nat.lt_irrefl many)
  have f3:∀i,i<many->bin .add .i64 (.ofNat i) 1=Int.ofNat (i+1):=fun i h=>addI hA (a:=i) (b:=1) (by omega)
  clear bk bv eD hkk hvv hMk hSe
  refine lpb Nat (fun i=>i<=many) (fun i=>many-i) (fun i=> [(16,.str (lt i)),(17,.int .i64 (.ofNat i))]) [0,1,4,5,7,10,13,14,15] (fun i=> [(9,[.int .i64 (.ofNat 2),.str (kk i),.str (vv i),.int .i64 (.ofNat (ct i))])]) 0 (Nat.zero_le _) ?_ ?_
  ·rw[lt0,c0]
   exact wkih (by repeat' (first|exact trivial|refine⟨rfl,rfl,rfl,?_⟩|refine⟨rfl,rfl,vP 12,?_⟩|refine⟨rfl,rfl,vA 12,?_⟩|refine⟨rfl,rfl,vB 12,?_⟩|refine⟨rfl,rfl,vN 12,?_⟩|refine⟨rfl,rfl,vX 12,?_⟩|refine⟨rfl,rfl,vY 12,?_⟩))
  intro i hi
  by_cases hlt:i<many
  ·have hG:=hGe i hlt
   obtain⟨cn,hcn⟩:=exq (ct (i+1))
   obtain⟨k1,hk1⟩:=exq (kk (i+1))
   obtain⟨v1,hv1⟩:=exq (vv (i+1))
   rw[<-hcn,<-hk1,<-hv1]at hG
   cbv
   rw[f1 i hlt]
   cbv
   refine cro rfl hg rfl rfl hNS _root_.id rfl (ft6 (vP 0) (vA 0) (vB 0) (vN 0) (vX 0) (vY 0) rfl rfl rfl rfl rfl rfl) ?_
   rintro _ _ _ rfl
   refine⟨trivial,trivial,?_⟩
   cbv
   refine cgn rfl hg rfl rfl hG (fun _=>9) rfl ⟨rfl,trivial⟩ rfl rfl rfl ?_
   rintro _ _ _ ⟨rfl,rfl,rfl⟩ _
   refine⟨rfl,?_⟩
   cbv
   refine cva rfl hg rfl rfl (hN 0) ?_
   rintro _ _ _ rfl
   refine⟨trivial,?_⟩
   cbv
   rw[t0]
   cbv
   rw[f3 i hlt]
   refine⟨i+1,_root_.id,hlt,(by show many-(i+1)<many-i;omega),?_⟩
   rw[lts,hcn,hk1,hv1]
   exact wkih (by repeat' (first|exact trivial|refine⟨rfl,rfl,rfl,?_⟩|refine⟨rfl,rfl,vP 12,?_⟩|refine⟨rfl,rfl,vA 12,?_⟩|refine⟨rfl,rfl,vB 12,?_⟩|refine⟨rfl,rfl,vN 12,?_⟩|refine⟨rfl,rfl,vX 12,?_⟩|refine⟨rfl,rfl,vY 12,?_⟩))
  ·have him:many=i:=by omega
   subst him
   obtain⟨last,hlast⟩:=exq (lt many)
   have hlr:last=rr (many-1):=by
    rw[hlast]
    obtain⟨m1,hm⟩:∃m1,many=m1+1:=⟨many-1,by omega⟩
    rw[hm,lts,Nat.add_sub_cancel]
   obtain⟨y,hy⟩:=exq (Sh.word (bl last))
   have hkey:R.1=y/2^s8:=by rw[g4,hy,hlr,br];rfl
   have hlsz:last.size<=144:=by
    rw[hlr,<-bll,br]
    unfold Sh.generate
    rw[List.length_take];omega
   obtain⟨lc,hlc⟩:=exq (last.size/4+1)
   obtain⟨byc,hRd⟩:=mRead hP hs' last.size y hlsz last rfl hy lc hlc
   have vR:∀m,bdLB m (H y lc)=true:=fun m=>hs'.b m y lc
   have hy0:y≠0:=fun h=>by rw[hkey,h,Nat.zero_div]at hx0;exact hx0 rfl
   obtain⟨w,hw⟩:=exq (y/2^s8)
   obtain⟨sy',hsy'⟩:=exq (S y)
   have hs320:s8<32:=by omega
   have hyc:S y<=lc:=hs'.le byc
   have hSh:=cRShr hP (hs'.nm byc).nw (by omega) (Nat.pos_of_ne_zero fun h=>hy0 ((hs'.nm byc).zero.1 h)) s8 hs320 w (S w) hw (by rw[hs'.s])
   rw[show Vg.hs (dg y) lc=H y lc from by rw[hs'.h],show Vg.hs (dg w) (S y)=H w (S y)from by rw[hs'.h]]at hSh
   have hwc:w<4294967296^S y:=by rw[hw];exact Nat.lt_of_le_of_lt (Nat.div_le_self _ _) (hs'.nm byc).lt
   have hNt:=mNat hP hs' hwc dk wd (by rw[vd,hkey,hw])
   rw[<-hsy']at hSh hRd hNt
   have vW:∀m,bdLB m (H w sy')=true:=fun m=>hs'.b m w sy'
   have hC1:=cDCount hP 2 nd k' v'
   have hC2:=cDCount hP 2 (ct many) (kk many) (vv many)
   obtain⟨b8,hb8⟩:=exq (8*sz)
   have m1:bin .mul .i64 8 (.ofNat sz)=Int.ofNat b8:=(mulI hA (a:=8) (b:=sz) (by omega)).trans (by rw[hb8])
   have m2:bin .sub .i64 (.ofNat b8) (.ofNat bits)=Int.ofNat s8:=(subI hA (a:=b8) (b:=bits) (by omega) (by omega)).trans (by rw[hs8,hb8])
   have hndc:nd=ct many:=by
    rw[hnd,g2]
    have e:genN sz (genN sz D 0) many=genN sz D many:=rfl
    rw[e,(gn' many).2,hDn,hct]
   have m3:cmp .eql (.ofNat nd) (.ofNat (ct many))=true:=eql_t hA hndc
   have q2:true=eq9 dk dk:=by simp[eq9]
   rw[<-hlast]
   cbv
   rw[f2]
   cbv
   refine reg_A (hP▸tblOk) hA hg (hP▸mixed) rfl rfl ?_
   cbv
   refine stepD_one rfl hg rfl rfl hRd (vR 0) (by intro b hb;cases hb) _root_.id rfl trivial rfl ?_
   cbv
   refine stepD (enr rfl hg rfl rfl hNS _root_.id rfl (ft6 (vP 0) (vA 0) (vB 0) (vN 0) (vX 0) (vY 0) rfl rfl rfl rfl rfl rfl) (fun _ _ _ h=>h) trivial) ?_
   cbv
   rw[m1]
   cbv
   refine stepD (enr rfl hg rfl rfl hBi (fun _=>3) rfl (ftM (vN 0) rfl) (fun _ _ _ h=>h) trivial) ?_
   cbv
   rw[m2]
   cbv
   refine stepD_one rfl hg rfl rfl hSh (vW 0) (by intro b hb;obtain rfl:=List.mem_singleton.1 hb;exact⟨blq rfl,vR 1⟩) (fun _=>12) rfl (ftM (vR 0) rfl) rfl ?_
   cbv
   refine reg_A (hP▸tblOk) hA hg (hP▸mixed) rfl rfl ?_
   cbv
   refine stepD (enr rfl hg rfl rfl hC1 (fun _=>7) rfl ⟨rfl,trivial⟩ (fun _ _ _ h=>h) trivial) ?_
   cbv
   refine stepD (enr rfl hg rfl rfl hC2 (fun _=>9) rfl ⟨rfl,trivial⟩ (fun _ _ _ h=>h) trivial) ?_
   cbv
   rw[m3]
   cbv
   refine stepD (enr rfl hg rfl rfl hNt (fun _=>13) rfl (ftM (vW 0) rfl) (fun _ _ _ h=>h) (by simp[bd,bdL,ws,lst])) ?_
   cbv
   refine stepD (en_cmp_nat hP hg rfl (a:=dk) (b:=dk) (r:=true) (Or.inr ⟨rfl,q2⟩) rfl rfl) ?_
   cbv
   exact hK _ _ _ rfl
 ·rw[show cmp .neq (.ofNat code) 0=true from neq_t hA (a:=code) (b:=0) (by omega)]
  cbv
  refine cva rfl hg rfl rfl (hN (Int.ofNat code)) ?_
  rintro _ _ _ rfl
  refine⟨trivial,?_⟩
  cbv
  by_cases h:code=2403
  ·rw[show cmp .eql (.ofNat code) 2403=true from eql_t hA (a:=code) (b:=2403) h]
   cbv
   exact hK _ _ _ rfl
  ·rw[show cmp .eql (.ofNat code) 2403=false from eql_f hA (a:=code) (b:=2403) h]
   cbv
   refine cva rfl hg rfl rfl (hN (Int.ofNat code)) ?_
   rintro _ _ _ rfl
   refine⟨trivial,?_⟩
   cbv
   rw[show cmp .eql (.ofNat code) 2402=true from eql_t hA (a:=code) (b:=2402) (by omega)]
   cbv
   exact hK _ _ _ rfl
end Go.Proofs.YtdhmihfefgcbeaaGreat
