/-
  This text proves what these texts prove: Hf, Hr, Hj, Hk, Hl, ShC. Conditions: those of each theorem.
-/
import Derived.Test.YtdhmihfefgcbeaaGreatY17
import Derived.Test.YtdhmihfefgcbeaaGreatY16
import Derived.Test.YtdhmihfefgcbeaaGreatY08
set_option maxHeartbeats 8000000
set_option linter.all false
namespace Go.Proofs.YtdhmihfefgcbeaaGreat
open Go.Vg Go.RowKit
set_option maxRecDepth 200000
set_option cbv.maxSteps 100000000
theorem cvt8A{A:Ar}(hA:A=Ar.real)(x:Nat):A.cvt .u8 (Int.ofNat x)=Int.ofNat (x%256):=by
 rw[cvt_of hA];exact wrap_nat .u8 rfl x
def obA(f:Nat->Nat)(i:Nat):List Nat:=((List.range i).map fun j=>Sh.be 4 (f j)).flatten
theorem obA_succ(f:Nat->Nat)(i:Nat):obA f (i+1)=obA f i++Sh.be 4 (f i):=by
 unfold obA
 rw[List.range_succ,List.map_append,List.flatten_append];simp
theorem obA_out(f:Nat->Nat):obA f 8=Sh.out 4 (soA f):=by
 simp[obA,Sh.out,soA,List.range_succ,List.append_assoc]
theorem beA_len(n x:Nat):(Sh.be n x).length=n:=by unfold Sh.be;rw[List.length_map,List.length_range]
theorem beA_get(n x:Nat){k:Nat}(h:k<n):(Sh.be n x)[k]'(by rw[beA_len];exact h)=x/256^(n-1-k)%256:=by
 unfold Sh.be
 rw[List.getElem_map,List.getElem_range]
theorem beA_take(n x:Nat){k:Nat}(h:k<n):(Sh.be n x).take (k+1)=(Sh.be n x).take k++[x/256^(n-1-k)%256]:=by
 rw[List.take_succ_eq_append_getElem (by rw[beA_len];exact h),beA_get n x h]
theorem obA_len(f:Nat->Nat):∀i,(obA f i).length=4*i
 |0=>rfl
 |i+1=>by rw[obA_succ,List.length_append,obA_len f i,beA_len];omega
theorem beA_b(n x:Nat):∀y∈Sh.be n x,y<256:=fun y hy=>by
 unfold Sh.be at hy
 obtain⟨i,_,rfl⟩:=List.mem_map.1 hy
 exact Nat.mod_lt _ (by decide)
theorem padA_eq(M:List Nat):Sh.pad Sh.K256 M=M++([128]++(List.replicate ((64-(M.length+1+8)%64)%64+0) 0++Sh.be 8 (M.length*8%0x10000000000000000))):=by
 simp only[Sh.pad,List.append_assoc];rfl
theorem cASum{P:Program}(hP:P=Tryz.prog)(size:Nat)(hsize:size<=4*64)(h0 hf kf:Nat->Nat)(hkf:kf=fun j=>Sh.K256.ks.getD j 0)(M:List Nat)(hM:∀x∈M,x<256)(hsz:M.length<2^40)(h8:Sh.ok8 32 (soA h0))(hh:soA hf=Sh.hst Sh.K256 (soA h0) M)(n:Nat)(hn:n=M.length)
 {rv:SV} {B:LL} (hR:BRow 5 1 (Sh.left Sh.K256 M) rv B) (dg:ByteArray) (hdg:bl dg=(Sh.out 4 (Sh.hst Sh.K256 (soA h0) (Sh.pad Sh.K256 M))).take (size/8)):
 Con P 153 [.ptr 0 0] (⟨0,hAx size n hf kf rv,261⟩::B) 2 [] (fun v _ _=>v= .str dg):=by
 obtain⟨r0,hr0⟩:=exq (Sh.left Sh.K256 M)
 have hr0b:∀x∈r0,x<256:=by rw[hr0];exact leftA_b hM
 have hr0l2:r0.length=M.length%64:=by rw[hr0];exact Sh.left_len (K:=Sh.K256) M
 have hr0l:r0.length<64:=by rw[hr0l2];exact Nat.mod_lt _ (by decide)
 rw[<-hr0]at hR
 have h8f:Sh.ok8 32 (soA hf):=by rw[hh];exact Sh.ok8_tq (K:=Sh.K256) (by decide) h8 M _
 have hU8:=bytesU8 hP
 obtain⟨n8,hn8⟩:=exq (n*8%0x10000000000000000)
 rcases hR.get with⟨rfl,rfl,hr00⟩|⟨k0,c0,X0,hk0,rfl,rfl,hX0⟩
 ·refine cof hP Tryz.func153 ⟨(by show 0<2;decide),trivial⟩ (bkb (by simp only[List.all_cons,List.all_nil,hAbd _ _ _ _ (show bdB 2 .nils=true from rfl)];rfl)) ?_
  intro A g K hA hg hK
  obtain⟨bin,sh,cmp,_,cvt,ix,nn,_,_,_,_,_,_,_,nat,off,get,_,sub⟩:=A
  have e1:∀k,nat k=Int.ofNat k:=fun k=>nat_of hA k
  have e2:∀k,bin .rem .i64 (.ofNat k) 64=Int.ofNat (k%64):=fun k=>remW hA k 64
  have e3:∀k,k≠56->cmp .neq (.ofNat k) 56=true:=fun k h=>neq_t hA (b:=56) h
  have e3f:cmp .neq (.ofNat 56) 56=false:=neq_f hA (a:=56) (b:=56) rfl
  have e4:∀i,i<200->bin .add .i64 (.ofNat i) 1=Int.ofNat (i+1):=fun i h=>add_of hA (by omega)
  have e5:∀i,i<8->cmp .lss (.ofNat i) 8=true:=fun i h=>lss_t hA (b:=8) h
  have e5f:cmp .lss (.ofNat 8) 8=false:=lss_f hA (a:=8) (b:=8) (by omega)
  have e6:∀i,i<0->cmp .lss (.ofNat i) 0=true:=fun i h=>lss_t hA (b:=0) h
  have e6f:cmp .lss (.ofNat 0) 0=false:=lss_f hA (a:=0) (b:=0) (by omega)
  have e7:∀i,i<4->cmp .lss (.ofNat i) 4=true:=fun i h=>lss_t hA (b:=4) h
  have e7f:cmp .lss (.ofNat 4) 4=false:=lss_f hA (a:=4) (b:=4) (by omega)
  cbv
  refine sbp (hP▸tblOk) hg rfl rfl (show tyT 143=some _ from rfl) rfl (show tyT 5=some _ from rfl) hU8 rfl (L0:=[⟨0,hAx size n hf kf (.nils),261⟩,⟨2,hAx size n hf kf (.nils),261⟩]) (B1:=[]) (lb:=99) rfl rfl rfl (BRow.nil _ _) rfl rfl (d:=r0) (Or.inl ⟨rfl,hr00⟩) (by show 0+r0.length<=_;omega) ?_
  intro v1 B1 hR1
  rw[List.nil_append]at hR1
  cbv
  refine sbp (hP▸tblOk) hg rfl rfl (show tyT 143=some _ from rfl) rfl (show tyT 5=some _ from rfl) hU8 rfl (L0:=[⟨0,hAx size n hf kf (.nils),261⟩,⟨2,hAx size n hf kf (.nils),261⟩]++[⟨4,[.int .u8 128],5⟩]) (B1:=B1) (lb:=3) (Eq.trans (by cases B1<;>rfl) (hR1.mid (A:=[⟨0,hAx size n hf kf (.nils),261⟩,⟨2,hAx size n hf kf (.nils),261⟩]) (C:=[⟨4,[.int .u8 128],5⟩]) rfl)) rfl rfl hR1 rfl rfl (d:=[128]) (Or.inr ⟨4,0,1,1,_,rfl,rfl,rfl,rfl⟩) (by show r0.length+1<=_;omega) ?_
  intro v2 B2 hR2
  obtain⟨k2,c2,X2,hk2,rfl,rfl,hX2⟩:=hR2.some (by simp)
  obtain⟨l1,hl1⟩:=exq (r0++[128])
  rw[<-hl1]at hk2 hX2
  have hl1l:l1.length=r0.length+1:=by rw[hl1,List.length_append];rfl
  obtain⟨zt,hzt⟩:=exq ((64-(l1.length+8)%64)%64)
  cbv
  refine⟨List Nat×Nat×Nat×List SV,fun s=>(∃z,z<=zt/\s.1=l1++List.replicate z 0)/\s.2.1=s.1.length/\RowX s.1 s.2.2.1 s.2.2.2,fun s=>2*64-s.2.1,fun s=> [(0,.ptr 0 0),(3,.ptr 2 0),(4,.slice 5 0 s.2.1 s.2.2.1)],fun s=> [⟨0,hAx size n hf kf (.nils),261⟩,⟨2,hAx size n hf kf (.nils),261⟩,⟨5,s.2.2.2,5⟩],6,⟨(l1,k2,c2,X2),id,⟨⟨0,Nat.zero_le _,by simp⟩,hk2,hX2⟩,?_⟩,?_⟩
  ·exact wkih (by repeat' (first|exact trivial|refine⟨rfl,rfl,rfl,?_⟩|refine⟨rfl,rfl,hX2.b 6,?_⟩))
  rintro⟨l,k,c,X⟩ ⟨⟨z,hz,hl⟩,hk,hX⟩
  change l=l1++List.replicate z 0 at hl
  change k=l.length at hk
  change RowX l c X at hX
  have hkz:k=l1.length+z:=by rw[hk,hl,List.length_append,List.length_replicate]
  by_cases hzz:k%64=56
  ·have hze:z=zt:=by omega
   subst hze
   obtain⟨l2,hl2⟩:=exq (l1++List.replicate (z+0) 0)
   cbv
   rw[e1 k]
   cbv
   rw[e2 k,hzz]
   cbv
   rw[e3f]
   cbv
   refine⟨Nat×List Nat×Nat×Nat×List SV,fun s=>s.1<=0/\s.2.1=l1++List.replicate (z+s.1) 0/\s.2.2.1=s.2.1.length/\RowX s.2.1 s.2.2.2.1 s.2.2.2.2,fun s=>0-s.1,fun s=> [(0,.ptr 0 0),(3,.ptr 2 0),(4,.slice 5 0 s.2.2.1 s.2.2.2.1),(29,.int .i64 (.ofNat s.1))],fun s=> [⟨0,hAx size n hf kf (.nils),261⟩,⟨2,hAx size n hf kf (.nils),261⟩,⟨5,s.2.2.2.2,5⟩],6,⟨(0,l,k,c,X),id,⟨Nat.zero_le _,hl,hk,hX⟩,?_⟩,?_⟩
   ·exact wkih (by repeat' (first|exact trivial|refine⟨rfl,rfl,rfl,?_⟩|refine⟨rfl,rfl,hX.b 6,?_⟩))
   clear hX hl hkz hzz hk
   rintro⟨i,l,k,c,X⟩ ⟨hi,hl,hk,hX⟩
   change i<=0 at hi
   change l=l1++List.replicate (z+i) 0 at hl
   change k=l.length at hk
   change RowX l c X at hX
   have hkz:k=l1.length+(z+i):=by rw[hk,hl,List.length_append,List.length_replicate]
   by_cases hlt:i<0
   ·cbv
    rw[e6 i hlt]
    cbv
    refine sbp (hP▸tblOk) hg rfl rfl (show tyT 143=some _ from rfl) rfl (show tyT 5=some _ from rfl) hU8 rfl (L0:=[⟨0,hAx size n hf kf (.nils),261⟩,⟨2,hAx size n hf kf (.nils),261⟩,⟨6,[.int .u8 0],5⟩]) (B1:=[⟨5,X,5⟩]) (lb:=5) ((hX.row hk 5 5).mid (A:=[⟨0,hAx size n hf kf (.nils),261⟩,⟨2,hAx size n hf kf (.nils),261⟩]) (C:=[⟨6,[.int .u8 0],5⟩]) rfl) rfl rfl (hX.row hk _ 5) rfl rfl (d:=[0]) (Or.inr ⟨6,0,1,1,_,rfl,rfl,rfl,rfl⟩) (by show l.length+1<=_;omega) ?_
    intro v' B' hR'
    obtain⟨k',c',X',hk',rfl,rfl,hX'⟩:=hR'.some (by simp)
    cbv
    rw[e4 i (by omega)]
    refine⟨(i+1,l++[0],k',c',X'),fun l=>if l=5 then 7 else l,⟨hlt,by show l++[0]=l1++List.replicate (z+(i+1)) 0;rw[hl,List.append_assoc,<-Nat.add_assoc,List.replicate_succ'],hk',hX'⟩,(by show 0-(i+1)<0-i;omega),?_⟩
    exact wkr (by repeat' (first|exact trivial|refine⟨rfl,rfl,?_⟩)) ⟨rfl,rfl,rfl,rfl,rfl,rfl,rfl,rfl,by rw[rcl X' (hX'.b 0)];rfl,rfl,rfl,hX'.b 6,trivial⟩ rfl rfl rfl
   ·obtain rfl:i=0:=by omega
    rw[<-hl2]at hl
    cbv
    rw[e6f]
    cbv
    refine⟨Nat×List Nat×Nat×Nat×List SV,fun s=>s.1<=8/\s.2.1=l2++(Sh.be 8 n8).take s.1/\s.2.2.1=s.2.1.length/\RowX s.2.1 s.2.2.2.1 s.2.2.2.2,fun s=>8-s.1,fun s=> [(0,.ptr 0 0),(3,.ptr 2 0),(4,.slice 5 0 s.2.2.1 s.2.2.2.1),(35,.int .i64 (.ofNat s.1))],fun s=> [⟨0,hAx size n hf kf (.nils),261⟩,⟨2,hAx size n hf kf (.nils),261⟩,⟨5,s.2.2.2.2,5⟩],6,⟨(0,l,k,c,X),id,⟨Nat.zero_le _,by show l=l2++[];rw[List.append_nil,hl],hk,hX⟩,?_⟩,?_⟩
    ·exact wkih (by repeat' (first|exact trivial|refine⟨rfl,rfl,rfl,?_⟩|refine⟨rfl,rfl,hX.b 6,?_⟩))
    have hl2l:l2.length=l1.length+(z+0):=by rw[hl2,List.length_append,List.length_replicate]
    clear hX hkz hk hl
    clear l k c X
    rintro⟨i,l,k,c,X⟩ ⟨hi,hl,hk,hX⟩
    change i<=8 at hi
    change l=l2++(Sh.be 8 n8).take i at hl
    change k=l.length at hk
    change RowX l c X at hX
    have hkz:k=l2.length+i:=by rw[hk,hl,List.length_append,List.length_take,beA_len];omega
    by_cases hlt:i<8
    ·obtain⟨b8,hb8⟩:=exq (8*i)
     obtain⟨s8,hs8⟩:=exq (56-b8)
     obtain⟨y,hy⟩:=exq (n8/2^s8)
     obtain⟨yb,hyb⟩:=exq (y%256)
     have g1:sh .shl .u64 (.ofNat n) 3=Int.ofNat n8:=(shlW hA (k:= .u64) rfl n (s:=3) (by decide)).trans (by rw[hn8];rfl)
     have g2:bin .mul .i64 8 (.ofNat i)=Int.ofNat b8:=(mulI hA (a:=8) (b:=i) (by omega)).trans (by rw[hb8])
     have g3:bin .sub .i64 56 (.ofNat b8)=Int.ofNat s8:=(subI hA (a:=56) (b:=b8) (by omega) (by decide)).trans (by rw[hs8])
     have g4:nn (.ofNat s8)=true:=nn_t hA s8
     have g5:sh .shr .u64 (.ofNat n8) (.ofNat s8)=Int.ofNat y:=(shrI hA (k:= .u64) (a:=n8) (b:=s8) (by show s8<=64;omega)).trans (by rw[hy])
     have g6:cvt .u8 (.ofNat y)=Int.ofNat yb:=(cvt8A hA y).trans (by rw[hyb])
     cbv
     rw[e5 i hlt]
     cbv
     rw[g1,g2]
     cbv
     rw[g3]
     cbv
     rw[g4]
     cbv
     rw[g5]
     cbv
     rw[g6]
     cbv
     refine sbp (hP▸tblOk) hg rfl rfl (show tyT 143=some _ from rfl) rfl (show tyT 5=some _ from rfl) hU8 rfl (L0:=[⟨0,hAx size n hf kf (.nils),261⟩,⟨2,hAx size n hf kf (.nils),261⟩,⟨6,[.int .u8 (.ofNat yb)],5⟩]) (B1:=[⟨5,X,5⟩]) (lb:=5) ((hX.row hk 5 5).mid (A:=[⟨0,hAx size n hf kf (.nils),261⟩,⟨2,hAx size n hf kf (.nils),261⟩]) (C:=[⟨6,[.int .u8 (.ofNat yb)],5⟩]) rfl) rfl rfl (hX.row hk _ 5) rfl rfl (d:=[yb]) (Or.inr ⟨6,0,1,1,_,rfl,rfl,rfl,rfl⟩) (by show l.length+1<=_;omega) ?_
     intro v' B' hR'
     obtain⟨k',c',X',hk',rfl,rfl,hX'⟩:=hR'.some (by simp)
     cbv
     rw[e4 i (by omega)]
     refine⟨(i+1,l++[yb],k',c',X'),fun l=>if l=5 then 7 else l,⟨hlt,?_,hk',hX'⟩,(by show 8-(i+1)<8-i;omega),?_⟩
     ·show l++[yb]=l2++(Sh.be 8 n8).take (i+1)
      rw[hl,beA_take 8 n8 hlt,List.append_assoc,hyb,hy,hs8,hb8,show 56-8*i=8*(8-1-i) by omega,Nat.pow_mul]
     exact wkr (by repeat' (first|exact trivial|refine⟨rfl,rfl,?_⟩)) ⟨rfl,rfl,rfl,rfl,rfl,rfl,rfl,rfl,by rw[rcl X' (hX'.b 0)];rfl,rfl,rfl,hX'.b 6,trivial⟩ rfl rfl rfl
    ·obtain rfl:i=8:=by omega
     rw[List.take_of_length_le (by rw[beA_len];exact Nat.le_refl 8)]at hl
     have hkb:k%64=0:=by omega
     have hlast:l=r0++([128]++(List.replicate (z+0) 0++Sh.be 8 n8)):=by rw[hl,hl2,hl1];simp only[List.append_assoc]
     have hlb:∀x∈l,x<256:=by
      intro x hx
      rw[hlast]at hx
      rcases List.mem_append.1 hx with h|h
      ·exact hr0b x h
      ·rcases List.mem_append.1 h with h|h
       ·obtain rfl:=List.mem_singleton.1 h;decide
       ·rcases List.mem_append.1 h with h|h
        ·rw[(List.mem_replicate.1 h).2];decide
        ·exact beA_b _ _ x h
     have hBl:=cABlocks hP (t:=5) size n hf kf hkf (.nils) rfl 0 c X l hlb k hk (by rw[List.drop_zero];exact hX.dat) hX.le (by omega) hX.b h8f
     have rX:∀r,renL r X=X:=fun r=>rcl X (hX.b 0)
     cbv
     rw[e5f]
     cbv
     refine cgn rfl hg rfl rfl hBl (fun l=>if l=0 then 2 else if l=1 then 5 else 1) rfl ⟨rfl,by rw[rX];rfl,trivial⟩ rfl rfl rfl ?_
     rintro _ _ _ ⟨h',o',c3,r,rl,hrl2,q1,q2,rfl,q4,rfl,rfl⟩ _
     refine⟨rfl,?_⟩
     simp only[renB,rX]
     have hfin:Sh.out 4 (soA h')=Sh.out 4 (Sh.hst Sh.K256 (soA h0) (Sh.pad Sh.K256 M)):=by
      have hp:=(Sh.hst_app (K:=Sh.K256) (by decide) (soA h0) M ([128]++(List.replicate ((64-(M.length+1+8)%64)%64+0) 0++Sh.be 8 (M.length*8%0x10000000000000000)))).1
      rw[<-padA_eq,<-hr0,<-hh]at hp
      rw[hp,q1]
      have hz1:(64-(M.length+1+8)%64)%64=z:=by
       rw[hzt,hl1l,hr0l2];omega
      rw[hz1,<-hn,show n*8%0x10000000000000000=n8 from hn8.symm,<-hlast]
      rfl
     obtain⟨DO,hDO⟩:=exq (fun i k=>obA h' i++(Sh.be 4 (h' i)).take k:Nat->Nat->List Nat)
     have d0:DO 0 0=[]:=by rw[hDO];rfl
     have dN:∀i,DO i 4=DO (i+1) 0:=fun i=>by
      rw[hDO]
      show obA h' i++(Sh.be 4 (h' i)).take 4=obA h' (i+1)++[]
      rw[List.append_nil,obA_succ,List.take_of_length_le (by rw[beA_len];exact Nat.le_refl _)]
     have dS:∀i k,k<4->DO i (k+1)=DO i k++[h' i/2^(24-8*k)%256]:=fun i k hk=>by
      rw[hDO]
      show obA h' i++(Sh.be 4 (h' i)).take (k+1)=obA h' i++(Sh.be 4 (h' i)).take k++_
      rw[beA_take 4 _ hk,<-List.append_assoc,show 24-8*k=8*(4-1-k) by omega,Nat.pow_mul]
     have dE:DO 8 0=Sh.out 4 (soA h'):=by
      rw[hDO]
      show obA h' 8++[]=_
      rw[List.append_nil,obA_out]
     have dL:∀i k,i<=8->k<=4->(DO i k).length=4*i+k:=fun i k _ hk=>by
      rw[hDO]
      show(obA h' i++(Sh.be 4 (h' i)).take k).length=_
      rw[List.length_append,obA_len,List.length_take,beA_len];omega
     clear hDO
     cbv
     refine⟨Nat×SV×LL,fun s=>s.1<=8/\BRow 5 5 (DO s.1 0) s.2.1 s.2.2,fun s=>8-s.1,fun s=> [(0,.ptr 0 0),(6,s.2.1),(56,.agg (lst .u32 (fun j=>Int.ofNat (h' j)) 0 8)),(57,.int .i64 (.ofNat s.1))],fun s=>⟨0,hAx size n hf kf (.nils),261⟩::s.2.2,6,⟨(0,.nils,[]),id,⟨Nat.zero_le _,by show BRow _ 5 (DO 0 0) _ _;rw[d0];exact BRow.nil _ _⟩,?_⟩,?_⟩
     ·exact wkid
     rintro⟨i,v,B⟩ ⟨hi,hRo⟩
     change i<=8 at hi
     change BRow 5 5 (DO i 0) v B at hRo
     by_cases hlt:i<8
     ·obtain⟨xi,hxi⟩:=exq (h' i)
      have g1:ix (.ofNat i) 8=some i:=ix_of hA hlt
      have g2:off 0 i 1=i:=(off_of hA 0 i 1).trans (by omega)
      have g3:=getW hA .u32 (n:=8) h' hlt
      rw[<-hxi]at g3
      simp only[lst,Nat.reduceAdd]at g3
      cbv
      rw[e5 i hlt]
      cbv
      rw[g1]
      cbv
      rw[g2,g3]
      cbv
      refine⟨Nat×SV×LL,fun s=>s.1<=4/\BRow 5 5 (DO i s.1) s.2.1 s.2.2,fun s=>4-s.1,fun s=> [(0,.ptr 0 0),(6,s.2.1),(8,.int .u32 (.ofNat xi)),(56,.agg (lst .u32 (fun j=>Int.ofNat (h' j)) 0 8)),(57,.int .i64 (.ofNat i)),(60,.int .i64 (.ofNat s.1))],fun s=>⟨0,hAx size n hf kf (.nils),261⟩::s.2.2,6,⟨(0,v,B),id,⟨Nat.zero_le _,hRo⟩,?_⟩,?_⟩
      ·rcases hRo.get with⟨rfl,rfl,_⟩|⟨k0,c0,X0,h0,rfl,rfl,hX0⟩
       ·exact wkid
       ·exact wkih (by repeat' (first|exact trivial|refine⟨rfl,rfl,rfl,?_⟩|refine⟨rfl,rfl,hX0.b 6,?_⟩))
      clear hRo
      rintro⟨k,v,B⟩ ⟨hk,hRo⟩
      change k<=4 at hk
      change BRow 5 5 (DO i k) v B at hRo
      by_cases hkb:k<4
      ·obtain⟨b8,hb8⟩:=exq (8*k)
       obtain⟨s8,hs8⟩:=exq (24-b8)
       obtain⟨y,hy⟩:=exq (xi/2^s8)
       obtain⟨yb,hyb⟩:=exq (y%256)
       have j2:bin .mul .i64 8 (.ofNat k)=Int.ofNat b8:=(mulI hA (a:=8) (b:=k) (by omega)).trans (by rw[hb8])
       have j3:bin .sub .i64 24 (.ofNat b8)=Int.ofNat s8:=(subI hA (a:=24) (b:=b8) (by omega) (by decide)).trans (by rw[hs8])
       have j4:nn (.ofNat s8)=true:=nn_t hA s8
       have j5:sh .shr .u32 (.ofNat xi) (.ofNat s8)=Int.ofNat y:=(shrI hA (k:= .u32) (a:=xi) (b:=s8) (by show s8<=32;omega)).trans (by rw[hy])
       have j6:cvt .u8 (.ofNat y)=Int.ofNat yb:=(cvt8A hA y).trans (by rw[hyb])
       have hdn:DO i (k+1)=DO i k++[yb]:=by rw[dS i k hkb,hyb,hy,hs8,hb8,hxi]
       have hdl:=dL i k (by omega) (by omega)
       cbv
       rw[e7 k hkb]
       cbv
       rw[j2]
       cbv
       rw[j3]
       cbv
       rw[j4]
       cbv
       rw[j5]
       cbv
       rw[j6]
       cbv
       refine sbp (hP▸tblOk) hg rfl rfl (show tyT 143=some _ from rfl) rfl (show tyT 5=some _ from rfl) hU8 rfl (L0:=[⟨0,hAx size n hf kf (.nils),261⟩,⟨6,[.int .u8 (.ofNat yb)],5⟩]) (B1:=B) (lb:=5) (Eq.trans (by cases B<;>rfl) (hRo.mid (A:=[⟨0,hAx size n hf kf (.nils),261⟩]) (C:=[⟨6,[.int .u8 (.ofNat yb)],5⟩]) rfl)) rfl rfl hRo rfl rfl (d:=[yb]) (Or.inr ⟨6,0,1,1,_,rfl,rfl,rfl,rfl⟩) (by show(DO i k).length+1<=_;rw[hdl];omega) ?_
       intro v' B' hR'
       obtain⟨k',c',X',hk',rfl,rfl,hX'⟩:=hR'.some (by simp)
       rw[<-hdn]at hk' hX'
       cbv
       rw[e4 k (by omega)]
       refine⟨(k+1,.slice 5 0 k' c',[⟨5,X',5⟩]),fun l=>if l=5 then 7 else l,⟨hkb,hX'.row hk' _ 5⟩,(by show 4-(k+1)<4-k;omega),?_⟩
       exact wkr (by repeat' (first|exact trivial|refine⟨rfl,rfl,?_⟩)) ⟨rfl,rfl,rfl,rfl,by rw[rcl X' (hX'.b 0)];rfl,rfl,rfl,hX'.b 6,trivial⟩ rfl rfl rfl
      ·obtain rfl:k=4:=by omega
       rw[dN i]at hRo
       cbv
       rw[e7f]
       cbv
       rw[e4 i (by omega)]
       refine⟨(i+1,v,B),id,⟨hlt,hRo⟩,(by show 8-(i+1)<8-i;omega),?_⟩
       rcases hRo.get with⟨rfl,rfl,_⟩|⟨k0,c0,X0,h0,rfl,rfl,hX0⟩
       ·exact wkid
       ·exact wkih (by repeat' (first|exact trivial|refine⟨rfl,rfl,rfl,?_⟩|refine⟨rfl,rfl,hX0.b 6,?_⟩))
     ·obtain rfl:i=8:=by omega
      have hdl:=dL 8 0 (by omega) (by omega)
      obtain⟨k4,c4,X4,hk4,rfl,rfl,hX4⟩:=hRo.some (fun h=>by rw[h]at hdl;simp at hdl)
      obtain⟨s8,hs8⟩:=exq (size/8)
      have hs8l:s8<=4*8:=by omega
      have j1:bin .quo .i64 (.ofNat size) 8=Int.ofNat s8:=(quoI hA (a:=size) (b:=8) (by omega)).trans (by rw[hs8])
      have hdgl:dg.size=s8:=by
       rw[<-bll,hdg,<-hfin,<-dE,<-hs8,List.length_take,hdl];omega
      have hbt:X4.take s8=bts dg:=by
       have h1:=hX4.dat
       rw[bts_by8,hdg,<-hfin,<-dE,<-hs8,by8_take,<-h1,List.take_take,Nat.min_eq_left (by rw[hdl];omega)]
      cbv
      rw[e5f]
      cbv
      rw[j1]
      cbv
      refine ssl hg rfl rfl rfl rfl rfl (slr_h (hP▸tblOk) (show tyT 143=some _ from rfl) rfl 5 0 k4 c4 (j:=s8) (by have:=hX4.le;rw[hdl]at this;omega)) ?_
      cbv
      refine step_string (hP▸tblOk) hg rfl rfl (show tyT 9=some _ from rfl) rfl (show tyT 143=some _ from rfl) rfl (by subst hP;kernel_rfl) rfl (show find _ 5=some _ from rfl) (s:=dg) (by rw[List.drop_zero];exact hbt) hdgl ?_
      cbv
      exact hK _ _ _ rfl
  ·have hzl:z<zt:=by omega
   cbv
   rw[e1 k]
   cbv
   rw[e2 k]
   cbv
   rw[e3 _ hzz]
   cbv
   refine sbp (hP▸tblOk) hg rfl rfl (show tyT 143=some _ from rfl) rfl (show tyT 5=some _ from rfl) hU8 rfl (L0:=[⟨0,hAx size n hf kf (.nils),261⟩,⟨2,hAx size n hf kf (.nils),261⟩,⟨6,[.int .u8 0],5⟩]) (B1:=[⟨5,X,5⟩]) (lb:=5) ((hX.row hk 5 5).mid (A:=[⟨0,hAx size n hf kf (.nils),261⟩,⟨2,hAx size n hf kf (.nils),261⟩]) (C:=[⟨6,[.int .u8 0],5⟩]) rfl) rfl rfl (hX.row hk _ 5) rfl rfl (d:=[0]) (Or.inr ⟨6,0,1,1,_,rfl,rfl,rfl,rfl⟩) (by show l.length+1<=_;omega) ?_
   intro v' B' hR'
   obtain⟨k',c',X',hk',rfl,rfl,hX'⟩:=hR'.some (by simp)
   cbv
   refine⟨(l++[0],k',c',X'),fun l=>if l=5 then 7 else l,⟨⟨z+1,hzl,by rw[hl,List.append_assoc,List.replicate_succ']⟩,hk',hX'⟩,?_,?_⟩
   ·show 2*64-k'<2*64-k
    have:k'=k+1:=by rw[hk',hk,List.length_append];rfl
    omega
   exact wkr (by repeat' (first|exact trivial|refine⟨rfl,rfl,?_⟩)) ⟨rfl,rfl,rfl,rfl,rfl,rfl,rfl,rfl,by rw[rcl X' (hX'.b 0)];rfl,rfl,rfl,hX'.b 6,trivial⟩ rfl rfl rfl
 ·refine cof hP Tryz.func153 ⟨(by show 0<2;decide),trivial⟩ (bkb (by simp only[List.all_cons,List.all_nil,hAbd _ _ _ _ (show bdB 2 (.slice 1 0 k0 c0)=true from rfl),hX0.b 2];rfl)) ?_
  intro A g K hA hg hK
  obtain⟨bin,sh,cmp,_,cvt,ix,nn,_,_,_,_,_,_,_,nat,off,get,_,sub⟩:=A
  have e1:∀k,nat k=Int.ofNat k:=fun k=>nat_of hA k
  have e2:∀k,bin .rem .i64 (.ofNat k) 64=Int.ofNat (k%64):=fun k=>remW hA k 64
  have e3:∀k,k≠56->cmp .neq (.ofNat k) 56=true:=fun k h=>neq_t hA (b:=56) h
  have e3f:cmp .neq (.ofNat 56) 56=false:=neq_f hA (a:=56) (b:=56) rfl
  have e4:∀i,i<200->bin .add .i64 (.ofNat i) 1=Int.ofNat (i+1):=fun i h=>add_of hA (by omega)
  have e5:∀i,i<8->cmp .lss (.ofNat i) 8=true:=fun i h=>lss_t hA (b:=8) h
  have e5f:cmp .lss (.ofNat 8) 8=false:=lss_f hA (a:=8) (b:=8) (by omega)
  have e6:∀i,i<0->cmp .lss (.ofNat i) 0=true:=fun i h=>lss_t hA (b:=0) h
  have e6f:cmp .lss (.ofNat 0) 0=false:=lss_f hA (a:=0) (b:=0) (by omega)
  have e7:∀i,i<4->cmp .lss (.ofNat i) 4=true:=fun i h=>lss_t hA (b:=4) h
  have e7f:cmp .lss (.ofNat 4) 4=false:=lss_f hA (a:=4) (b:=4) (by omega)
  cbv
  refine sbp (hP▸tblOk) hg rfl rfl (show tyT 143=some _ from rfl) rfl (show tyT 5=some _ from rfl) hU8 rfl (L0:=[⟨0,hAx size n hf kf (.slice 1 0 k0 c0),261⟩,⟨1,X0,5⟩,⟨2,hAx size n hf kf (.slice 1 0 k0 c0),261⟩]) (B1:=[]) (lb:=99) rfl rfl rfl (BRow.nil _ _) rfl rfl (d:=r0) (Or.inr ⟨1,0,k0,c0,_,hk0,rfl,rfl,by rw[List.drop_zero];exact hX0.dat⟩) (by show 0+r0.length<=_;omega) ?_
  intro v1 B1 hR1
  rw[List.nil_append]at hR1
  cbv
  refine sbp (hP▸tblOk) hg rfl rfl (show tyT 143=some _ from rfl) rfl (show tyT 5=some _ from rfl) hU8 rfl (L0:=[⟨0,hAx size n hf kf (.slice 1 0 k0 c0),261⟩,⟨1,X0,5⟩,⟨2,hAx size n hf kf (.slice 1 0 k0 c0),261⟩]++[⟨4,[.int .u8 128],5⟩]) (B1:=B1) (lb:=3) (Eq.trans (by cases B1<;>rfl) (hR1.mid (A:=[⟨0,hAx size n hf kf (.slice 1 0 k0 c0),261⟩,⟨1,X0,5⟩,⟨2,hAx size n hf kf (.slice 1 0 k0 c0),261⟩]) (C:=[⟨4,[.int .u8 128],5⟩]) rfl)) rfl rfl hR1 rfl rfl (d:=[128]) (Or.inr ⟨4,0,1,1,_,rfl,rfl,rfl,rfl⟩) (by show r0.length+1<=_;omega) ?_
  intro v2 B2 hR2
  obtain⟨k2,c2,X2,hk2,rfl,rfl,hX2⟩:=hR2.some (by simp)
  obtain⟨l1,hl1⟩:=exq (r0++[128])
  rw[<-hl1]at hk2 hX2
  have hl1l:l1.length=r0.length+1:=by rw[hl1,List.length_append];rfl
  obtain⟨zt,hzt⟩:=exq ((64-(l1.length+8)%64)%64)
  cbv
  refine⟨List Nat×Nat×Nat×List SV,fun s=>(∃z,z<=zt/\s.1=l1++List.replicate z 0)/\s.2.1=s.1.length/\RowX s.1 s.2.2.1 s.2.2.2,fun s=>2*64-s.2.1,fun s=> [(0,.ptr 0 0),(3,.ptr 2 0),(4,.slice 5 0 s.2.1 s.2.2.1)],fun s=> [⟨0,hAx size n hf kf (.slice 1 0 k0 c0),261⟩,⟨2,hAx size n hf kf (.slice 1 0 k0 c0),261⟩,⟨5,s.2.2.2,5⟩],6,⟨(l1,k2,c2,X2),id,⟨⟨0,Nat.zero_le _,by simp⟩,hk2,hX2⟩,?_⟩,?_⟩
  ·exact wkih (by repeat' (first|exact trivial|refine⟨rfl,rfl,rfl,?_⟩|refine⟨rfl,rfl,hX2.b 6,?_⟩))
  rintro⟨l,k,c,X⟩ ⟨⟨z,hz,hl⟩,hk,hX⟩
  change l=l1++List.replicate z 0 at hl
  change k=l.length at hk
  change RowX l c X at hX
  have hkz:k=l1.length+z:=by rw[hk,hl,List.length_append,List.length_replicate]
  by_cases hzz:k%64=56
  ·have hze:z=zt:=by omega
   subst hze
   obtain⟨l2,hl2⟩:=exq (l1++List.replicate (z+0) 0)
   cbv
   rw[e1 k]
   cbv
   rw[e2 k,hzz]
   cbv
   rw[e3f]
   cbv
   refine⟨Nat×List Nat×Nat×Nat×List SV,fun s=>s.1<=0/\s.2.1=l1++List.replicate (z+s.1) 0/\s.2.2.1=s.2.1.length/\RowX s.2.1 s.2.2.2.1 s.2.2.2.2,fun s=>0-s.1,fun s=> [(0,.ptr 0 0),(3,.ptr 2 0),(4,.slice 5 0 s.2.2.1 s.2.2.2.1),(29,.int .i64 (.ofNat s.1))],fun s=> [⟨0,hAx size n hf kf (.slice 1 0 k0 c0),261⟩,⟨2,hAx size n hf kf (.slice 1 0 k0 c0),261⟩,⟨5,s.2.2.2.2,5⟩],6,⟨(0,l,k,c,X),id,⟨Nat.zero_le _,hl,hk,hX⟩,?_⟩,?_⟩
   ·exact wkih (by repeat' (first|exact trivial|refine⟨rfl,rfl,rfl,?_⟩|refine⟨rfl,rfl,hX.b 6,?_⟩))
   clear hX hl hkz hzz hk
   rintro⟨i,l,k,c,X⟩ ⟨hi,hl,hk,hX⟩
   change i<=0 at hi
   change l=l1++List.replicate (z+i) 0 at hl
   change k=l.length at hk
   change RowX l c X at hX
   have hkz:k=l1.length+(z+i):=by rw[hk,hl,List.length_append,List.length_replicate]
   by_cases hlt:i<0
   ·cbv
    rw[e6 i hlt]
    cbv
    refine sbp (hP▸tblOk) hg rfl rfl (show tyT 143=some _ from rfl) rfl (show tyT 5=some _ from rfl) hU8 rfl (L0:=[⟨0,hAx size n hf kf (.slice 1 0 k0 c0),261⟩,⟨2,hAx size n hf kf (.slice 1 0 k0 c0),261⟩,⟨6,[.int .u8 0],5⟩]) (B1:=[⟨5,X,5⟩]) (lb:=5) ((hX.row hk 5 5).mid (A:=[⟨0,hAx size n hf kf (.slice 1 0 k0 c0),261⟩,⟨2,hAx size n hf kf (.slice 1 0 k0 c0),261⟩]) (C:=[⟨6,[.int .u8 0],5⟩]) rfl) rfl rfl (hX.row hk _ 5) rfl rfl (d:=[0]) (Or.inr ⟨6,0,1,1,_,rfl,rfl,rfl,rfl⟩) (by show l.length+1<=_;omega) ?_
    intro v' B' hR'
    obtain⟨k',c',X',hk',rfl,rfl,hX'⟩:=hR'.some (by simp)
    cbv
    rw[e4 i (by omega)]
    refine⟨(i+1,l++[0],k',c',X'),fun l=>if l=5 then 7 else l,⟨hlt,by show l++[0]=l1++List.replicate (z+(i+1)) 0;rw[hl,List.append_assoc,<-Nat.add_assoc,List.replicate_succ'],hk',hX'⟩,(by show 0-(i+1)<0-i;omega),?_⟩
    exact wkr (by repeat' (first|exact trivial|refine⟨rfl,rfl,?_⟩)) ⟨rfl,rfl,rfl,rfl,rfl,rfl,rfl,rfl,by rw[rcl X' (hX'.b 0)];rfl,rfl,rfl,hX'.b 6,trivial⟩ rfl rfl rfl
   ·obtain rfl:i=0:=by omega
    rw[<-hl2]at hl
    cbv
    rw[e6f]
    cbv
    refine⟨Nat×List Nat×Nat×Nat×List SV,fun s=>s.1<=8/\s.2.1=l2++(Sh.be 8 n8).take s.1/\s.2.2.1=s.2.1.length/\RowX s.2.1 s.2.2.2.1 s.2.2.2.2,fun s=>8-s.1,fun s=> [(0,.ptr 0 0),(3,.ptr 2 0),(4,.slice 5 0 s.2.2.1 s.2.2.2.1),(35,.int .i64 (.ofNat s.1))],fun s=> [⟨0,hAx size n hf kf (.slice 1 0 k0 c0),261⟩,⟨2,hAx size n hf kf (.slice 1 0 k0 c0),261⟩,⟨5,s.2.2.2.2,5⟩],6,⟨(0,l,k,c,X),id,⟨Nat.zero_le _,by show l=l2++[];rw[List.append_nil,hl],hk,hX⟩,?_⟩,?_⟩
    ·exact wkih (by repeat' (first|exact trivial|refine⟨rfl,rfl,rfl,?_⟩|refine⟨rfl,rfl,hX.b 6,?_⟩))
    have hl2l:l2.length=l1.length+(z+0):=by rw[hl2,List.length_append,List.length_replicate]
    clear hX hkz hk hl
    clear l k c X
    rintro⟨i,l,k,c,X⟩ ⟨hi,hl,hk,hX⟩
    change i<=8 at hi
    change l=l2++(Sh.be 8 n8).take i at hl
    change k=l.length at hk
    change RowX l c X at hX
    have hkz:k=l2.length+i:=by rw[hk,hl,List.length_append,List.length_take,beA_len];omega
    by_cases hlt:i<8
    ·obtain⟨b8,hb8⟩:=exq (8*i)
     obtain⟨s8,hs8⟩:=exq (56-b8)
     obtain⟨y,hy⟩:=exq (n8/2^s8)
     obtain⟨yb,hyb⟩:=exq (y%256)
     have g1:sh .shl .u64 (.ofNat n) 3=Int.ofNat n8:=(shlW hA (k:= .u64) rfl n (s:=3) (by decide)).trans (by rw[hn8];rfl)
     have g2:bin .mul .i64 8 (.ofNat i)=Int.ofNat b8:=(mulI hA (a:=8) (b:=i) (by omega)).trans (by rw[hb8])
     have g3:bin .sub .i64 56 (.ofNat b8)=Int.ofNat s8:=(subI hA (a:=56) (b:=b8) (by omega) (by decide)).trans (by rw[hs8])
     have g4:nn (.ofNat s8)=true:=nn_t hA s8
     have g5:sh .shr .u64 (.ofNat n8) (.ofNat s8)=Int.ofNat y:=(shrI hA (k:= .u64) (a:=n8) (b:=s8) (by show s8<=64;omega)).trans (by rw[hy])
     have g6:cvt .u8 (.ofNat y)=Int.ofNat yb:=(cvt8A hA y).trans (by rw[hyb])
     cbv
     rw[e5 i hlt]
     cbv
     rw[g1,g2]
     cbv
     rw[g3]
     cbv
     rw[g4]
     cbv
     rw[g5]
     cbv
     rw[g6]
     cbv
     refine sbp (hP▸tblOk) hg rfl rfl (show tyT 143=some _ from rfl) rfl (show tyT 5=some _ from rfl) hU8 rfl (L0:=[⟨0,hAx size n hf kf (.slice 1 0 k0 c0),261⟩,⟨2,hAx size n hf kf (.slice 1 0 k0 c0),261⟩,⟨6,[.int .u8 (.ofNat yb)],5⟩]) (B1:=[⟨5,X,5⟩]) (lb:=5) ((hX.row hk 5 5).mid (A:=[⟨0,hAx size n hf kf (.slice 1 0 k0 c0),261⟩,⟨2,hAx size n hf kf (.slice 1 0 k0 c0),261⟩]) (C:=[⟨6,[.int .u8 (.ofNat yb)],5⟩]) rfl) rfl rfl (hX.row hk _ 5) rfl rfl (d:=[yb]) (Or.inr ⟨6,0,1,1,_,rfl,rfl,rfl,rfl⟩) (by show l.length+1<=_;omega) ?_
     intro v' B' hR'
     obtain⟨k',c',X',hk',rfl,rfl,hX'⟩:=hR'.some (by simp)
     cbv
     rw[e4 i (by omega)]
     refine⟨(i+1,l++[yb],k',c',X'),fun l=>if l=5 then 7 else l,⟨hlt,?_,hk',hX'⟩,(by show 8-(i+1)<8-i;omega),?_⟩
     ·show l++[yb]=l2++(Sh.be 8 n8).take (i+1)
      rw[hl,beA_take 8 n8 hlt,List.append_assoc,hyb,hy,hs8,hb8,show 56-8*i=8*(8-1-i) by omega,Nat.pow_mul]
     exact wkr (by repeat' (first|exact trivial|refine⟨rfl,rfl,?_⟩)) ⟨rfl,rfl,rfl,rfl,rfl,rfl,rfl,rfl,by rw[rcl X' (hX'.b 0)];rfl,rfl,rfl,hX'.b 6,trivial⟩ rfl rfl rfl
    ·obtain rfl:i=8:=by omega
     rw[List.take_of_length_le (by rw[beA_len];exact Nat.le_refl 8)]at hl
     have hkb:k%64=0:=by omega
     have hlast:l=r0++([128]++(List.replicate (z+0) 0++Sh.be 8 n8)):=by rw[hl,hl2,hl1];simp only[List.append_assoc]
     have hlb:∀x∈l,x<256:=by
      intro x hx
      rw[hlast]at hx
      rcases List.mem_append.1 hx with h|h
      ·exact hr0b x h
      ·rcases List.mem_append.1 h with h|h
       ·obtain rfl:=List.mem_singleton.1 h;decide
       ·rcases List.mem_append.1 h with h|h
        ·rw[(List.mem_replicate.1 h).2];decide
        ·exact beA_b _ _ x h
     have hBl:=cABlocks hP (t:=5) size n hf kf hkf (.slice 2 0 k0 c0) rfl 0 c X l hlb k hk (by rw[List.drop_zero];exact hX.dat) hX.le (by omega) hX.b h8f
     have rX:∀r,renL r X=X:=fun r=>rcl X (hX.b 0)
     cbv
     rw[e5f]
     cbv
     refine cgn rfl hg rfl rfl hBl (fun l=>if l=0 then 2 else if l=1 then 5 else 1) rfl ⟨rfl,by rw[rX];rfl,trivial⟩ rfl rfl rfl ?_
     rintro _ _ _ ⟨h',o',c3,r,rl,hrl2,q1,q2,rfl,q4,rfl,rfl⟩ _
     refine⟨rfl,?_⟩
     simp only[renB,rX]
     have hfin:Sh.out 4 (soA h')=Sh.out 4 (Sh.hst Sh.K256 (soA h0) (Sh.pad Sh.K256 M)):=by
      have hp:=(Sh.hst_app (K:=Sh.K256) (by decide) (soA h0) M ([128]++(List.replicate ((64-(M.length+1+8)%64)%64+0) 0++Sh.be 8 (M.length*8%0x10000000000000000)))).1
      rw[<-padA_eq,<-hr0,<-hh]at hp
      rw[hp,q1]
      have hz1:(64-(M.length+1+8)%64)%64=z:=by
       rw[hzt,hl1l,hr0l2];omega
      rw[hz1,<-hn,show n*8%0x10000000000000000=n8 from hn8.symm,<-hlast]
      rfl
     obtain⟨DO,hDO⟩:=exq (fun i k=>obA h' i++(Sh.be 4 (h' i)).take k:Nat->Nat->List Nat)
     have d0:DO 0 0=[]:=by rw[hDO];rfl
     have dN:∀i,DO i 4=DO (i+1) 0:=fun i=>by
      rw[hDO]
      show obA h' i++(Sh.be 4 (h' i)).take 4=obA h' (i+1)++[]
      rw[List.append_nil,obA_succ,List.take_of_length_le (by rw[beA_len];exact Nat.le_refl _)]
     have dS:∀i k,k<4->DO i (k+1)=DO i k++[h' i/2^(24-8*k)%256]:=fun i k hk=>by
      rw[hDO]
      show obA h' i++(Sh.be 4 (h' i)).take (k+1)=obA h' i++(Sh.be 4 (h' i)).take k++_
      rw[beA_take 4 _ hk,<-List.append_assoc,show 24-8*k=8*(4-1-k) by omega,Nat.pow_mul]
     have dE:DO 8 0=Sh.out 4 (soA h'):=by
      rw[hDO]
      show obA h' 8++[]=_
      rw[List.append_nil,obA_out]
     have dL:∀i k,i<=8->k<=4->(DO i k).length=4*i+k:=fun i k _ hk=>by
      rw[hDO]
      show(obA h' i++(Sh.be 4 (h' i)).take k).length=_
      rw[List.length_append,obA_len,List.length_take,beA_len];omega
     clear hDO
     cbv
     refine⟨Nat×SV×LL,fun s=>s.1<=8/\BRow 5 5 (DO s.1 0) s.2.1 s.2.2,fun s=>8-s.1,fun s=> [(0,.ptr 0 0),(6,s.2.1),(56,.agg (lst .u32 (fun j=>Int.ofNat (h' j)) 0 8)),(57,.int .i64 (.ofNat s.1))],fun s=>⟨0,hAx size n hf kf (.slice 1 0 k0 c0),261⟩::s.2.2,6,⟨(0,.nils,[]),id,⟨Nat.zero_le _,by show BRow _ 5 (DO 0 0) _ _;rw[d0];exact BRow.nil _ _⟩,?_⟩,?_⟩
     ·exact wkid
     rintro⟨i,v,B⟩ ⟨hi,hRo⟩
     change i<=8 at hi
     change BRow 5 5 (DO i 0) v B at hRo
     by_cases hlt:i<8
     ·obtain⟨xi,hxi⟩:=exq (h' i)
      have g1:ix (.ofNat i) 8=some i:=ix_of hA hlt
      have g2:off 0 i 1=i:=(off_of hA 0 i 1).trans (by omega)
      have g3:=getW hA .u32 (n:=8) h' hlt
      rw[<-hxi]at g3
      simp only[lst,Nat.reduceAdd]at g3
      cbv
      rw[e5 i hlt]
      cbv
      rw[g1]
      cbv
      rw[g2,g3]
      cbv
      refine⟨Nat×SV×LL,fun s=>s.1<=4/\BRow 5 5 (DO i s.1) s.2.1 s.2.2,fun s=>4-s.1,fun s=> [(0,.ptr 0 0),(6,s.2.1),(8,.int .u32 (.ofNat xi)),(56,.agg (lst .u32 (fun j=>Int.ofNat (h' j)) 0 8)),(57,.int .i64 (.ofNat i)),(60,.int .i64 (.ofNat s.1))],fun s=>⟨0,hAx size n hf kf (.slice 1 0 k0 c0),261⟩::s.2.2,6,⟨(0,v,B),id,⟨Nat.zero_le _,hRo⟩,?_⟩,?_⟩
      ·rcases hRo.get with⟨rfl,rfl,_⟩|⟨k0,c0,X0,h0,rfl,rfl,hX0⟩
       ·exact wkid
       ·exact wkih (by repeat' (first|exact trivial|refine⟨rfl,rfl,rfl,?_⟩|refine⟨rfl,rfl,hX0.b 6,?_⟩))
      clear hRo
      rintro⟨k,v,B⟩ ⟨hk,hRo⟩
      change k<=4 at hk
      change BRow 5 5 (DO i k) v B at hRo
      by_cases hkb:k<4
      ·obtain⟨b8,hb8⟩:=exq (8*k)
       obtain⟨s8,hs8⟩:=exq (24-b8)
       obtain⟨y,hy⟩:=exq (xi/2^s8)
       obtain⟨yb,hyb⟩:=exq (y%256)
       have j2:bin .mul .i64 8 (.ofNat k)=Int.ofNat b8:=(mulI hA (a:=8) (b:=k) (by omega)).trans (by rw[hb8])
       have j3:bin .sub .i64 24 (.ofNat b8)=Int.ofNat s8:=(subI hA (a:=24) (b:=b8) (by omega) (by decide)).trans (by rw[hs8])
       have j4:nn (.ofNat s8)=true:=nn_t hA s8
       have j5:sh .shr .u32 (.ofNat xi) (.ofNat s8)=Int.ofNat y:=(shrI hA (k:= .u32) (a:=xi) (b:=s8) (by show s8<=32;omega)).trans (by rw[hy])
       have j6:cvt .u8 (.ofNat y)=Int.ofNat yb:=(cvt8A hA y).trans (by rw[hyb])
       have hdn:DO i (k+1)=DO i k++[yb]:=by rw[dS i k hkb,hyb,hy,hs8,hb8,hxi]
       have hdl:=dL i k (by omega) (by omega)
       cbv
       rw[e7 k hkb]
       cbv
       rw[j2]
       cbv
       rw[j3]
       cbv
       rw[j4]
       cbv
       rw[j5]
       cbv
       rw[j6]
       cbv
       refine sbp (hP▸tblOk) hg rfl rfl (show tyT 143=some _ from rfl) rfl (show tyT 5=some _ from rfl) hU8 rfl (L0:=[⟨0,hAx size n hf kf (.slice 1 0 k0 c0),261⟩,⟨6,[.int .u8 (.ofNat yb)],5⟩]) (B1:=B) (lb:=5) (Eq.trans (by cases B<;>rfl) (hRo.mid (A:=[⟨0,hAx size n hf kf (.slice 1 0 k0 c0),261⟩]) (C:=[⟨6,[.int .u8 (.ofNat yb)],5⟩]) rfl)) rfl rfl hRo rfl rfl (d:=[yb]) (Or.inr ⟨6,0,1,1,_,rfl,rfl,rfl,rfl⟩) (by show(DO i k).length+1<=_;rw[hdl];omega) ?_
       intro v' B' hR'
       obtain⟨k',c',X',hk',rfl,rfl,hX'⟩:=hR'.some (by simp)
       rw[<-hdn]at hk' hX'
       cbv
       rw[e4 k (by omega)]
       refine⟨(k+1,.slice 5 0 k' c',[⟨5,X',5⟩]),fun l=>if l=5 then 7 else l,⟨hkb,hX'.row hk' _ 5⟩,(by show 4-(k+1)<4-k;omega),?_⟩
       exact wkr (by repeat' (first|exact trivial|refine⟨rfl,rfl,?_⟩)) ⟨rfl,rfl,rfl,rfl,by rw[rcl X' (hX'.b 0)];rfl,rfl,rfl,hX'.b 6,trivial⟩ rfl rfl rfl
      ·obtain rfl:k=4:=by omega
       rw[dN i]at hRo
       cbv
       rw[e7f]
       cbv
       rw[e4 i (by omega)]
       refine⟨(i+1,v,B),id,⟨hlt,hRo⟩,(by show 8-(i+1)<8-i;omega),?_⟩
       rcases hRo.get with⟨rfl,rfl,_⟩|⟨k0,c0,X0,h0,rfl,rfl,hX0⟩
       ·exact wkid
       ·exact wkih (by repeat' (first|exact trivial|refine⟨rfl,rfl,rfl,?_⟩|refine⟨rfl,rfl,hX0.b 6,?_⟩))
     ·obtain rfl:i=8:=by omega
      have hdl:=dL 8 0 (by omega) (by omega)
      obtain⟨k4,c4,X4,hk4,rfl,rfl,hX4⟩:=hRo.some (fun h=>by rw[h]at hdl;simp at hdl)
      obtain⟨s8,hs8⟩:=exq (size/8)
      have hs8l:s8<=4*8:=by omega
      have j1:bin .quo .i64 (.ofNat size) 8=Int.ofNat s8:=(quoI hA (a:=size) (b:=8) (by omega)).trans (by rw[hs8])
      have hdgl:dg.size=s8:=by
       rw[<-bll,hdg,<-hfin,<-dE,<-hs8,List.length_take,hdl];omega
      have hbt:X4.take s8=bts dg:=by
       have h1:=hX4.dat
       rw[bts_by8,hdg,<-hfin,<-dE,<-hs8,by8_take,<-h1,List.take_take,Nat.min_eq_left (by rw[hdl];omega)]
      cbv
      rw[e5f]
      cbv
      rw[j1]
      cbv
      refine ssl hg rfl rfl rfl rfl rfl (slr_h (hP▸tblOk) (show tyT 143=some _ from rfl) rfl 5 0 k4 c4 (j:=s8) (by have:=hX4.le;rw[hdl]at this;omega)) ?_
      cbv
      refine step_string (hP▸tblOk) hg rfl rfl (show tyT 9=some _ from rfl) rfl (show tyT 143=some _ from rfl) rfl (by subst hP;kernel_rfl) rfl (show find _ 5=some _ from rfl) (s:=dg) (by rw[List.drop_zero];exact hbt) hdgl ?_
      cbv
      exact hK _ _ _ rfl
  ·have hzl:z<zt:=by omega
   cbv
   rw[e1 k]
   cbv
   rw[e2 k]
   cbv
   rw[e3 _ hzz]
   cbv
   refine sbp (hP▸tblOk) hg rfl rfl (show tyT 143=some _ from rfl) rfl (show tyT 5=some _ from rfl) hU8 rfl (L0:=[⟨0,hAx size n hf kf (.slice 1 0 k0 c0),261⟩,⟨2,hAx size n hf kf (.slice 1 0 k0 c0),261⟩,⟨6,[.int .u8 0],5⟩]) (B1:=[⟨5,X,5⟩]) (lb:=5) ((hX.row hk 5 5).mid (A:=[⟨0,hAx size n hf kf (.slice 1 0 k0 c0),261⟩,⟨2,hAx size n hf kf (.slice 1 0 k0 c0),261⟩]) (C:=[⟨6,[.int .u8 0],5⟩]) rfl) rfl rfl (hX.row hk _ 5) rfl rfl (d:=[0]) (Or.inr ⟨6,0,1,1,_,rfl,rfl,rfl,rfl⟩) (by show l.length+1<=_;omega) ?_
   intro v' B' hR'
   obtain⟨k',c',X',hk',rfl,rfl,hX'⟩:=hR'.some (by simp)
   cbv
   refine⟨(l++[0],k',c',X'),fun l=>if l=5 then 7 else l,⟨⟨z+1,hzl,by rw[hl,List.append_assoc,List.replicate_succ']⟩,hk',hX'⟩,?_,?_⟩
   ·show 2*64-k'<2*64-k
    have:k'=k+1:=by rw[hk',hk,List.length_append];rfl
    omega
   exact wkr (by repeat' (first|exact trivial|refine⟨rfl,rfl,?_⟩)) ⟨rfl,rfl,rfl,rfl,rfl,rfl,rfl,rfl,by rw[rcl X' (hX'.b 0)];rfl,rfl,rfl,hX'.b 6,trivial⟩ rfl rfl rfl
def soB(f:Nat->Nat):Sh.S8:=⟨f 0,f 1,f 2,f 3,f 4,f 5,f 6,f 7⟩
def hBcells(size n:Nat)(h kf:Nat->Nat)(rest:SV):List SV:=[.int .i64 (.ofNat size)]++lst .u64 (fun j=>Int.ofNat (h j)) 0 8++lst .u64 (fun j=>Int.ofNat (kf j)) 0 80++[rest,.int .u64 (.ofNat n)]
def HK(id z b k:Nat):Prop:=(id=1/\z=224/\b=28/\k=64)\/(id=2/\z=256/\b=32/\k=64)\/(id=3/\z=384/\b=48/\k=128)\/(id=4/\z=512/\b=64/\k=128)
theorem HK.at{id:Nat}(h:1<=id/\id<=4):HK id (Sh.size id*8) (Sh.size id) (Sh.blk id):=by
 obtain rfl|rfl|rfl|rfl:id=1\/id=2\/id=3\/id=4:=by omega
 ·exact Or.inl ⟨rfl,rfl,rfl,rfl⟩
 ·exact Or.inr (Or.inl ⟨rfl,rfl,rfl,rfl⟩)
 ·exact Or.inr (Or.inr (Or.inl ⟨rfl,rfl,rfl,rfl⟩))
 ·exact Or.inr (Or.inr (Or.inr ⟨rfl,rfl,rfl,rfl⟩))
theorem cHOf{P:Program}(hP:P=Tryz.prog)(id z b k:Nat)(h:HK id z b k):Con P 98 [.int .i64 (.ofNat id)] [] 0 [] (fun v _ _=>v= .tup [.agg [.int .i64 (.ofNat z),.int .i64 (.ofNat b),.int .i64 (.ofNat k)],.bool true]):=by
 refine cof hP Tryz.func98 (bdb _ rfl) (bkb rfl) ?_
 intro A g K hA hg hK
 obtain⟨_,_,cmp⟩:=A
 have t1:∀x,cmp .eql (.ofNat x) (.ofNat x)=true:=fun x=>eql_t hA (a:=x) (b:=x) rfl
 have f1:∀x y,x≠y->cmp .eql (.ofNat x) (.ofNat y)=false:=fun x y h=>eql_f hA (a:=x) (b:=y) h
 have c21:cmp .eql (.ofNat 2) 1=false:=f1 2 1 (by decide)
 have c31:cmp .eql (.ofNat 3) 1=false:=f1 3 1 (by decide)
 have c41:cmp .eql (.ofNat 4) 1=false:=f1 4 1 (by decide)
 have c32:cmp .eql (.ofNat 3) 2=false:=f1 3 2 (by decide)
 have c42:cmp .eql (.ofNat 4) 2=false:=f1 4 2 (by decide)
 have c43:cmp .eql (.ofNat 4) 3=false:=f1 4 3 (by decide)
 have c11:cmp .eql (.ofNat 1) 1=true:=t1 1
 have c22:cmp .eql (.ofNat 2) 2=true:=t1 2
 have c33:cmp .eql (.ofNat 3) 3=true:=t1 3
 have c44:cmp .eql (.ofNat 4) 4=true:=t1 4
 rcases h with⟨rfl,rfl,rfl,rfl⟩|⟨rfl,rfl,rfl,rfl⟩|⟨rfl,rfl,rfl,rfl⟩|⟨rfl,rfl,rfl,rfl⟩
 ·cbv
  rw[c11]
  cbv
  exact hK _ _ _ rfl
 ·cbv
  rw[c21]
  cbv
  rw[c22]
  cbv
  exact hK _ _ _ rfl
 ·cbv
  rw[c31]
  cbv
  rw[c32]
  cbv
  rw[c33]
  cbv
  exact hK _ _ _ rfl
 ·cbv
  rw[c41]
  cbv
  rw[c42]
  cbv
  rw[c43]
  cbv
  rw[c44]
  cbv
  exact hK _ _ _ rfl
theorem cHSize{P:Program}(hP:P=Tryz.prog)(id z b k:Nat)(h:HK id z b k):Con P 71 [.int .i64 (.ofNat id)] [] 0 [] (fun v _ _=>v= .int .i64 (.ofNat b)):=by
 have hO:=cHOf hP id z b k h
 refine cof hP Tryz.func71 (bdb _ rfl) (bkb rfl) ?_
 intro A g K hA hg hK
 cases A
 cbv
 refine cva rfl hg rfl rfl hO ?_
 rintro _ _ _ rfl
 refine⟨by simp[bd,bdL],?_⟩
 cbv
 exact hK _ _ _ rfl
theorem cHBlock{P:Program}(hP:P=Tryz.prog)(id z b k:Nat)(h:HK id z b k):Con P 132 [.int .i64 (.ofNat id)] [] 0 [] (fun v _ _=>v= .int .i64 (.ofNat k)):=by
 have hO:=cHOf hP id z b k h
 refine cof hP Tryz.func132 (bdb _ rfl) (bkb rfl) ?_
 intro A g K hA hg hK
 cases A
 cbv
 refine cva rfl hg rfl rfl hO ?_
 rintro _ _ _ rfl
 refine⟨by simp[bd,bdL],?_⟩
 cbv
 exact hK _ _ _ rfl
theorem rep_one(x:UInt8):∀c,Go.Lib.repeatL [x] c=List.replicate c x
 |0=>rfl
 |c+1=>by rw[Go.Lib.repeatL,rep_one x c];rfl
theorem cRepeat{P:Program}(hP:P=Tryz.prog)(s:ByteArray)(x:UInt8)(hs:s.data.toList=[x])(c:Nat)(hc:c<=1000)(r:ByteArray)(hr:bl r=List.replicate c x.toNat):
 Con P 73 [.str s,.int .i64 (.ofNat c)] [] 0 [] (fun v _ _=>v= .str r):=by
 subst hP
 have hsz:s.size=1:=by
  show s.data.size=1
  rw[<-Array.length_toList,hs];rfl
 have e:r=⟨(Go.Lib.repeatL s.data.toList c).toArray⟩:=bl_inj (by
  rw[hr,hs,rep_one]
  simp[bl])
 rw[e]
 exact Con.from_calls (Callable.of Tryz.func73 rfl) (fun W=>Tryz.strings_Repeat s c W (by omega) (by rw[hsz];omega)) ⟨trivial,trivial,trivial⟩ trivial
structure SK where
 f1:FuncId
 f2:FuncId
 fw:FuncId
 fs:FuncId
 th:TypeId
 t2:TypeId
 t3:TypeId
 t4:TypeId
def SBlk(K:SK)(hc:List SV):LL:=
 [⟨0,[.fn (.func K.f1) [] [.ptr 3 0,.ptr 2 0],.fn (.func K.f2) [] [.ptr 4 0,.ptr 2 0]],232⟩,⟨1,hc,K.th⟩,⟨2,[.ptr 1 0],K.t2⟩,⟨3,[.fn (.func K.fw) [] []],K.t3⟩,⟨4,[.fn (.func K.fs) [] []],K.t4⟩]
structure SO(P:Program)(id:Nat)(K:SK)(lf:List Nat->List Nat)(HB:List Nat->(SV->List SV)->Prop):Prop where
 bdH:∀ {M CH},HB M CH->∀m rv,bdB m rv=true->bdLB m (CH rv)=true
 renH:∀ {M CH},HB M CH->∀ (ρ:Nat->Nat) rv,renL ρ (CH rv)=CH (ren ρ rv)
 new:Con P 131 [.int .i64 (.ofNat id)] [] 0 [] (fun v L q=>∃CH,HB [] CH/\v= .tup [.ptr 0 0,.int .i64 0]/\L=SBlk K (CH .nils)/\q=5)
 nil:lf []=[]
 w1:∀ (M:List Nat) (s:ByteArray) (CH:SV->List SV) (rv:SV) (B:LL),(∀x∈M,x<256)->M.length+s.size<2^40->HB M CH->BRow 5 5 (lf M) rv B->
  Con P K.f1 [.str s,.ptr 3 0,.ptr 2 0] (SBlk K (CH rv)++B) 6 [1] (fun v L q=>∃CH' rv' B',HB (M++bl s) CH'/\BRow 5 6 (lf (M++bl s)) rv' B'/\v= .int .i64 0/\L=SBlk K (CH' rv')++B'/\q=7)
 s1:∀ (M:List Nat) (dg:ByteArray) (CH:SV->List SV) (rv:SV) (B:LL),(∀x∈M,x<256)->M.length<2^40->bl dg=Sh.of id M->HB M CH->BRow 5 5 (lf M) rv B->
  Con P K.f2 [.ptr 4 0,.ptr 2 0] (SBlk K (CH rv)++B) 6 [] (fun v _ _=>v= .str dg)
theorem Con.stream{P:Program}{f:FuncId}{args:List SV}{Lp:LL}{ms:List Nat}{K:SK}{Q:(SV->List SV)->Prop}{t:TypeId}{l:List Nat}
 (h:Con P f args Lp 6 ms (fun v L q=>∃CH' rv' B',Q CH'/\BRow t 6 l rv' B'/\v= .int .i64 0/\wkL1 7 L (SBlk K (CH' rv')++B')/\q=7)):
 Con P f args Lp 6 ms (fun v L q=>∃CH' rv' B',Q CH'/\BRow t 6 l rv' B'/\v= .int .i64 0/\L=SBlk K (CH' rv')++B'/\q=7):=by
 refine h.weak fun v L q hq=> ?_
 obtain⟨CH',rv',B',h1,h2,rfl,h4,rfl⟩:=hq
 refine⟨id,.int .i64 0,SBlk K (CH' rv')++B',7,weak_id ⟨rfl,rfl,trivial⟩ h4 ?_ rfl,CH',rv',B',h1,h2,rfl,rfl,rfl⟩
 rcases h2.get with⟨_,rfl,_⟩|⟨k,c,X,_,_,rfl,_⟩<;>rfl
section
variable {P:Program}{id:Nat}{KK:SK}{lf:List Nat->List Nat}{HB:List Nat->(SV->List SV)->Prop}
theorem cHWrite(hP:P=Tryz.prog)(hO:SO P id KK lf HB)(M:List Nat)(s:ByteArray)(CH:SV->List SV)(rv:SV)(B:LL)(hM:∀x∈M,x<256)(hsz:M.length+s.size<2^40)(hh:HB M CH)(hR:BRow 5 5 (lf M) rv B):
 Con P 134 [.ptr 0 0,.str s] (SBlk KK (CH rv)++B) 6 [1] (fun v L q=>∃CH' rv' B',HB (M++bl s) CH'/\BRow 5 6 (lf (M++bl s)) rv' B'/\v= .int .i64 0/\L=SBlk KK (CH' rv')++B'/\q=7):=by
 have hw:=hO.w1 M s CH rv B hM hsz hh hR
 refine Con.stream (Q:=HB (M++bl s)) ?_
 have bCH:=hO.bdH hh
 have rCH:=hO.renH hh
 rcases hR.get with⟨rfl,rfl,hr0⟩|⟨k0,c0,X0,hk0,rfl,rfl,hX0⟩
 ·refine cof hP Tryz.func134 ⟨(by show 0<6;decide),trivial,trivial⟩ (bkb (by simp only[SBlk,List.cons_append,List.nil_append,List.all_cons,List.all_nil,bCH 6 .nils rfl];rfl)) ?_
  intro A g K hA hg hK
  obtain⟨_,_,_,_,_,_,_,_,_,_,_,_,_,_,_,_,get⟩:=A
  cbv
  refine cgn rfl hg rfl rfl hw _root_.id rfl ⟨rfl,by rw[rCH];rfl,rfl,rfl,rfl,trivial⟩ rfl rfl rfl ?_
  rintro _ _ _ ⟨CH',rv',B',q1,hR',rfl,rfl,rfl⟩ _
  have rCH':=hO.renH q1
  have bCH':=hO.bdH q1
  rcases hR'.get with⟨rfl,rfl,hr⟩|⟨k,c,X,hk,rfl,rfl,hX⟩
  ·refine⟨rfl,?_⟩
   simp only[renB,SBlk,List.cons_append,List.nil_append,rCH']
   cbv
   exact hK _ _ _ ⟨CH',.nils,[],q1,by rw[hr];exact BRow.nil _ _,rfl,⟨rfl,rfl,rfl,rfl,rfl,bCH' _ _ rfl,rfl,rfl,rfl,rfl,rfl,rfl,rfl,rfl,rfl,trivial⟩,rfl⟩
  ·have rX:∀ρ,renL ρ X=X:=fun ρ=>rcl X (hX.b 0)
   refine⟨rfl,?_⟩
   simp only[renB,SBlk,List.cons_append,List.nil_append,rCH',rX]
   cbv
   exact hK _ _ _ ⟨CH',.slice 6 0 k c,_,q1,hX.row hk _ 6,rfl,⟨rfl,rfl,rfl,rfl,rfl,bCH' _ _ rfl,rfl,rfl,rfl,rfl,rfl,rfl,rfl,rfl,rfl,rfl,rfl,hX.b 7,trivial⟩,rfl⟩
 ·have rX0:∀ρ,renL ρ X0=X0:=fun ρ=>rcl X0 (hX0.b 0)
  refine cof hP Tryz.func134 ⟨(by show 0<6;decide),trivial,trivial⟩ (bkb (by simp only[SBlk,List.cons_append,List.nil_append,List.all_cons,List.all_nil,bCH 6 (.slice 5 0 k0 c0) rfl,hX0.b 6];rfl)) ?_
  intro A g K hA hg hK
  obtain⟨_,_,_,_,_,_,_,_,_,_,_,_,_,_,_,_,get⟩:=A
  cbv
  refine cgn rfl hg rfl rfl hw _root_.id rfl ⟨rfl,by rw[rCH];rfl,rfl,rfl,rfl,by rw[rX0];rfl,trivial⟩ rfl rfl rfl ?_
  rintro _ _ _ ⟨CH',rv',B',q1,hR',rfl,rfl,rfl⟩ _
  have rCH':=hO.renH q1
  have bCH':=hO.bdH q1
  rcases hR'.get with⟨rfl,rfl,hr⟩|⟨k,c,X,hk,rfl,rfl,hX⟩
  ·refine⟨rfl,?_⟩
   simp only[renB,SBlk,List.cons_append,List.nil_append,rCH']
   cbv
   exact hK _ _ _ ⟨CH',.nils,[],q1,by rw[hr];exact BRow.nil _ _,rfl,⟨rfl,rfl,rfl,rfl,rfl,bCH' _ _ rfl,rfl,rfl,rfl,rfl,rfl,rfl,rfl,rfl,rfl,trivial⟩,rfl⟩
  ·have rX:∀ρ,renL ρ X=X:=fun ρ=>rcl X (hX.b 0)
   refine⟨rfl,?_⟩
   simp only[renB,SBlk,List.cons_append,List.nil_append,rCH',rX]
   cbv
   exact hK _ _ _ ⟨CH',.slice 6 0 k c,_,q1,hX.row hk _ 6,rfl,⟨rfl,rfl,rfl,rfl,rfl,bCH' _ _ rfl,rfl,rfl,rfl,rfl,rfl,rfl,rfl,rfl,rfl,rfl,rfl,hX.b 7,trivial⟩,rfl⟩
theorem cHSum(hP:P=Tryz.prog)(hO:SO P id KK lf HB)(M:List Nat)(dg:ByteArray)(CH:SV->List SV)(rv:SV)(B:LL)(hM:∀x∈M,x<256)(hsz:M.length<2^40)(hdg:bl dg=Sh.of id M)(hh:HB M CH)(hR:BRow 5 5 (lf M) rv B):
 Con P 136 [.ptr 0 0] (SBlk KK (CH rv)++B) 6 [] (fun v _ _=>v= .str dg):=by
 have hw:=hO.s1 M dg CH rv B hM hsz hdg hh hR
 have bCH:=hO.bdH hh
 have rCH:=hO.renH hh
 rcases hR.get with⟨rfl,rfl,hr0⟩|⟨k0,c0,X0,hk0,rfl,rfl,hX0⟩
 ·refine cof hP Tryz.func136 ⟨(by show 0<6;decide),trivial⟩ (bkb (by simp only[SBlk,List.cons_append,List.nil_append,List.all_cons,List.all_nil,bCH 6 .nils rfl];rfl)) ?_
  intro A g K hA hg hK
  obtain⟨_,_,_,_,_,_,_,_,_,_,_,_,_,_,_,_,get⟩:=A
  cbv
  refine cro rfl hg rfl rfl hw _root_.id rfl ⟨rfl,by rw[rCH];rfl,rfl,rfl,rfl,trivial⟩ ?_
  rintro _ _ _ rfl
  refine⟨trivial,trivial,?_⟩
  cbv
  exact hK _ _ _ rfl
 ·have rX0:∀ρ,renL ρ X0=X0:=fun ρ=>rcl X0 (hX0.b 0)
  refine cof hP Tryz.func136 ⟨(by show 0<6;decide),trivial⟩ (bkb (by simp only[SBlk,List.cons_append,List.nil_append,List.all_cons,List.all_nil,bCH 6 (.slice 5 0 k0 c0) rfl,hX0.b 6];rfl)) ?_
  intro A g K hA hg hK
  obtain⟨_,_,_,_,_,_,_,_,_,_,_,_,_,_,_,_,get⟩:=A
  cbv
  refine cro rfl hg rfl rfl hw _root_.id rfl ⟨rfl,by rw[rCH];rfl,rfl,rfl,rfl,by rw[rX0];rfl,trivial⟩ ?_
  rintro _ _ _ rfl
  refine⟨trivial,trivial,?_⟩
  cbv
  exact hK _ _ _ rfl
theorem cHashOf(hP:P=Tryz.prog)(hO:SO P id KK lf HB)(s dg:ByteArray)(hsz:s.size<2^40)(hdg:bl dg=Sh.of id (bl s)):
 Con P 133 [.int .i64 (.ofNat id),.str s] [] 0 [] (fun v _ _=>v= .tup [.str dg,.int .i64 0]):=by
 have hN:=hO.new
 refine cof hP Tryz.func133 (bdb _ rfl) (bkb rfl) ?_
 intro A g K hA hg hK
 obtain⟨_,_,cmp,_,_,_,_,_,_,_,_,_,_,_,_,_,get⟩:=A
 cbv
 refine cgn rfl hg rfl rfl hN _root_.id rfl trivial rfl rfl rfl ?_
 rintro _ _ _ ⟨CH,q0,rfl,rfl,rfl⟩ _
 have rCH:=hO.renH q0
 have hw:=cHWrite hP hO [] s CH .nils [] (fun x h=>by cases h) (by show 0+s.size<_;omega) q0 (by rw[hO.nil];exact BRow.nil _ _)
 rw[List.nil_append]at hw
 refine⟨rfl,?_⟩
 have e0:cmp .neq 0 0=false:=neq_f hA (a:=0) (b:=0) rfl
 simp only[renB,SBlk,rCH]
 cbv
 rw[e0]
 cbv
 refine cgn rfl hg rfl rfl hw (fun l=>if l=5 then 0 else l) rfl ⟨rfl,by rw[rCH];rfl,rfl,rfl,rfl,trivial⟩ rfl rfl rfl ?_
 rintro _ _ _ ⟨CH',rv',B',q1,hR',rfl,rfl,rfl⟩ _
 have rCH':=hO.renH q1
 rcases hR'.get with⟨rfl,rfl,hr⟩|⟨k,c,X,hk,rfl,rfl,hX⟩
 ·have hs:=cHSum hP hO (bl s) dg CH' .nils [] (bl_lt s) (by rw[bll];exact hsz) hdg q1 (by rw[hr];exact BRow.nil _ _)
  refine⟨rfl,?_⟩
  simp only[renB,SBlk,List.cons_append,List.nil_append,rCH']
  cbv
  refine cro rfl hg rfl rfl hs _root_.id rfl ⟨rfl,by rw[rCH'];rfl,rfl,rfl,rfl,trivial⟩ ?_
  rintro _ _ _ rfl
  refine⟨trivial,trivial,?_⟩
  cbv
  exact hK _ _ _ rfl
 ·have rX:∀ρ,renL ρ X=X:=fun ρ=>rcl X (hX.b 0)
  have hs:=cHSum hP hO (bl s) dg CH' _ _ (bl_lt s) (by rw[bll];exact hsz) hdg q1 (hX.row hk 5 5)
  refine⟨rfl,?_⟩
  simp only[renB,SBlk,List.cons_append,List.nil_append,rCH',rX]
  cbv
  refine cro rfl hg rfl rfl hs _root_.id rfl ⟨rfl,by rw[rCH'];rfl,rfl,rfl,rfl,by rw[rX];rfl,trivial⟩ ?_
  rintro _ _ _ rfl
  refine⟨trivial,trivial,?_⟩
  cbv
  exact hK _ _ _ rfl
end
end Go.Proofs.YtdhmihfefgcbeaaGreat
namespace Sh
/-! lengths and bytes of what the hashes give-/
theorem be_len(n x:Nat):(be n x).length=n:=by unfold be;rw[List.length_map,List.length_range]
theorem be_b(n x:Nat):∀y∈be n x,y<256:=fun y hy=>by
 unfold be at hy
 obtain⟨i,_,rfl⟩:=List.mem_map.1 hy
 exact Nat.mod_lt _ (by decide)
theorem out_len(n:Nat)(s:S8):(out n s).length=8*n:=by
 unfold out;simp only[List.length_append,be_len];omega
theorem out_b(n:Nat)(s:S8):∀y∈out n s,y<256:=fun y hy=>by
 unfold out at hy
 simp only[List.mem_append]at hy
 rcases hy with((((((h|h)|h)|h)|h)|h)|h)|h<;>exact be_b _ _ y h
theorem hash_len(K:Kd)(s:S8)(size:Nat)(l:List Nat)(h:size<=8*(K.wb/8)):(hash K s size l).length=size:=by
 unfold hash
 rw[List.length_take,out_len];omega
theorem hash_b(K:Kd)(s:S8)(size:Nat)(l:List Nat):∀y∈hash K s size l,y<256:=fun y hy=>out_b _ _ y (List.mem_of_mem_take hy)
theorem of_len{id:Nat}(h:1<=id/\id<=4)(l:List Nat):(of id l).length=size id:=by
 obtain rfl|rfl|rfl|rfl:id=1\/id=2\/id=3\/id=4:=by omega
 ·exact hash_len K256 i224 28 l (by decide)
 ·exact hash_len K256 i256 32 l (by decide)
 ·exact hash_len K512 i384 48 l (by decide)
 ·exact hash_len K512 i512 64 l (by decide)
theorem of_b(id:Nat)(l:List Nat):∀y∈of id l,y<256:=fun y hy=>by
 unfold of at hy
 split at hy
 ·exact hash_b _ _ _ _ y hy
 ·exact hash_b _ _ _ _ y hy
 ·exact hash_b _ _ _ _ y hy
 ·exact hash_b _ _ _ _ y hy
 ·cases hy
theorem size_blk{id:Nat}(h:1<=id/\id<=4):size id<=blk id/\blk id<=128/\size id<=64/\28<=size id:=by
 obtain rfl|rfl|rfl|rfl:id=1\/id=2\/id=3\/id=4:=by omega
 all_goals decide
theorem key_len{id:Nat}(h:1<=id/\id<=4)(k:List Nat):(key id k).length=blk id:=by
 unfold key
 have hb:=size_blk h
 by_cases hk:blk id<k.length
 ·simp only[if_pos hk,List.length_append,List.length_replicate,of_len h];omega
 ·simp only[if_neg hk,List.length_append,List.length_replicate];omega
theorem key_b(id:Nat)(k:List Nat)(hk:∀y∈k,y<256):∀y∈key id k,y<256:=fun y hy=>by
 unfold key at hy
 simp only at hy
 rcases List.mem_append.1 hy with h|h
 ·split at h
  ·exact of_b _ _ y h
  ·exact hk y h
 ·rw[(List.mem_replicate.1 h).2];decide
theorem xor_b{l:List Nat}(h:∀y∈l,y<256){x:Nat}(hx:x<256):∀y∈l.map (· ^^^x),y<256:=fun y hy=>by
 obtain⟨z,hz,rfl⟩:=List.mem_map.1 hy
 exact Nat.xor_lt_two_pow (n:=8) (h z hz) hx
theorem hmac_len{id:Nat}(h:1<=id/\id<=4)(k m:List Nat):(hmac id k m).length=size id:=of_len h _
theorem hmac_b(id:Nat)(k m:List Nat):∀y∈hmac id k m,y<256:=of_b _ _
structure Ok(d:Dr):Prop where
 id:1<=d.id/\d.id<=4
 kl:d.k.length=size d.id
 vl:d.v.length=size d.id
 kb:∀y∈d.k,y<256
 vb:∀y∈d.v,y<256
theorem Ok.upd{d:Dr}(h:Ok d)(s:List Nat):Ok (upd d s):=by
 unfold Sh.upd
 simp only
 split
 ·exact⟨h.id,hmac_len h.id _ _,hmac_len h.id _ _,hmac_b _ _ _,hmac_b _ _ _⟩
 ·exact⟨h.id,hmac_len h.id _ _,hmac_len h.id _ _,hmac_b _ _ _,hmac_b _ _ _⟩
theorem upd_id(d:Dr)(s:List Nat):(Sh.upd d s).id=d.id:=by
 unfold Sh.upd
 simp only
 split<;>rfl
theorem upd_n(d:Dr)(s:List Nat):(Sh.upd d s).n=d.n:=by
 unfold Sh.upd
 simp only
 split<;>rfl
theorem Ok.new{id:Nat}(h:1<=id/\id<=4)(e:List Nat):Ok (new id e):=
 Ok.upd (d:=⟨id,List.replicate (size id) 0,List.replicate (size id) 1,1⟩) ⟨h,List.length_replicate ..,List.length_replicate ..,fun y hy=>by rw[(List.mem_replicate.1 hy).2];decide,fun y hy=>by rw[(List.mem_replicate.1 hy).2];decide⟩ e
end Sh
