/-
  This text proves what these texts prove: Fc, Fd, Fe, Ca, Cb, Cc, Cd, Ce. Conditions: those of each theorem.
-/
import Derived.Test.YtdhmihfefgcbeaaGreatY11
set_option maxHeartbeats 8000000
set_option linter.all false
namespace Go.Proofs.YtdhmihfefgcbeaaGreat
open Go.Vg Go.RowKit
set_option maxRecDepth 20000
def hexw(y j:Nat):Nat:=y/0x10000000000000000^j%0x10000000000000000
theorem pow16{i q r:Nat}(hi:i=16*q+r):16^i=16^r*0x10000000000000000^q:=by
 rw[hi,Nat.pow_add,Nat.pow_mul,Nat.mul_comm]
theorem hexw_lt(y j:Nat):hexw y j<0x10000000000000000:=Nat.mod_lt _ (by decide)
theorem hex_top{y i q r:Nat}(hi:i=16*q+r)(hy:y<16^i):y/0x10000000000000000^q<16^r:=by
 rw[Nat.div_lt_iff_lt_mul (Nat.pow_pos (by decide)),<-pow16 hi];exact hy
theorem hex_step{y d i q r:Nat}(hi:i=16*q+r)(hr:r<16)(hy:y<16^i)(hd:d<16)(j:Nat):hexw (y+d*16^i) j=if j=q then hexw y q+d*16^r else hexw y j:=by
 have ht:=hex_top hi hy
 have h16:16^r*16<=0x10000000000000000:=by
  have h:=Nat.pow_le_pow_right (show 0<16 by decide) (show r+1<=16 by omega)
  rw[Nat.pow_succ]at h
  exact Nat.le_trans h (Nat.le_of_eq (by decide))
 have hm:d*16^r+16^r<=16^r*16:=by
  have h:=Nat.mul_le_mul_right (16^r) (show d+1<=16 from hd)
  rw[Nat.add_mul,Nat.one_mul]at h
  rw[Nat.mul_comm (16^r)];exact h
 have hy':y+d*16^i<0x10000000000000000^(q+1):=by
  have h:=Nat.mul_le_mul_right (16^i) (show d+1<=16 from hd)
  rw[Nat.add_mul,Nat.one_mul]at h
  have h2:16*16^i<=0x10000000000000000^(q+1):=by
   rw[pow16 hi,Nat.pow_succ,<-Nat.mul_assoc,Nat.mul_comm 16,Nat.mul_comm (0x10000000000000000^q)]
   exact Nat.mul_le_mul_right _ h16
  omega
 unfold hexw
 by_cases h:j=q
 ·subst h
  rw[if_pos rfl,pow16 hi,<-Nat.mul_assoc,Nat.add_mul_div_right _ _ (Nat.pow_pos (by decide))]
  rw[Nat.mod_eq_of_lt (by omega),Nat.mod_eq_of_lt (by omega)]
 ·rw[if_neg h]
  by_cases hj:j<q
  ·obtain⟨k,rfl⟩:∃k,q=j+1+k:=⟨q-(j+1),by omega⟩
   have e:d*16^i=(d*16^r*0x10000000000000000^k*0x10000000000000000)*0x10000000000000000^j:=by
    rw[pow16 hi,Nat.pow_add,Nat.pow_succ]
    simp only[Nat.mul_assoc,Nat.mul_comm,Nat.mul_left_comm]
   rw[e,Nat.add_mul_div_right _ _ (Nat.pow_pos (by decide)),Nat.add_mul_mod_self_right]
  ·have hle:=Nat.pow_le_pow_right (show 0<0x10000000000000000 by decide) (show q+1<=j by omega)
   rw[Nat.div_eq_of_lt (Nat.lt_of_lt_of_le hy' hle),Nat.div_eq_of_lt (Nat.lt_of_le_of_lt (Nat.le_add_right _ _) (Nat.lt_of_lt_of_le hy' hle))]
theorem hex_or{y d i q r:Nat}(hi:i=16*q+r)(hr:r<16)(hy:y<16^i)(hd:d<16):hexw y q|||(d*2^(4*r)%0x10000000000000000)=hexw y q+d*16^r:=by
 have ht:=hex_top hi hy
 have e:2^(4*r)=16^r:=by rw[Nat.pow_mul]
 have h16:16^r*16<=0x10000000000000000:=by
  have h:=Nat.pow_le_pow_right (show 0<16 by decide) (show r+1<=16 by omega)
  rw[Nat.pow_succ]at h
  exact Nat.le_trans h (Nat.le_of_eq (by decide))
 have hm:d*16^r+16^r<=16^r*16:=by
  have h:=Nat.mul_le_mul_right (16^r) (show d+1<=16 from hd)
  rw[Nat.add_mul,Nat.one_mul]at h
  rw[Nat.mul_comm (16^r)];exact h
 have hp:0<16^r:=Nat.pow_pos (by decide)
 have hw:hexw y q=y/0x10000000000000000^q:=Nat.mod_eq_of_lt (by omega)
 rw[hw,Nat.or_comm,Nat.mod_eq_of_lt (by rw[e];omega),or_add (by rw[e];exact ht),e,Nat.add_comm]
theorem V_hexw(y n:Nat):V n (hexw y)=y%0x10000000000000000^n:=Dg.num_dig (by decide) y n
theorem dig_next(x i:Nat):x%16^i+x/16^i%16*16^i=x%16^(i+1):=by
 rw[Nat.pow_succ,Nat.mod_mul,Nat.mul_comm]
theorem quoI{A:Ar}(hA:A=Ar.real){a b:Nat}(ha:a<2^63):A.bin .quo .i64 (Int.ofNat a) (Int.ofNat b)=Int.ofNat (a/b):=by
 subst hA
 show IntKind.i64.wrap (Int.tdiv (Int.ofNat a) (Int.ofNat b))=_
 exact wrap_of _ (Nat.lt_of_le_of_lt (Nat.div_le_self _ _) ha)
theorem hexc_nat{d:Nat}(h:d<16):(hexc d).toNat=if d<10 then 48+d else 87+d:=by
 have:∀d,d<16->(hexc d).toNat=if d<10 then 48+d else 87+d:=by decide
 exact this d h
theorem cHex{P:Program}(hP:P=Tryz.prog)(s:ByteArray)(n x:Nat)(hn:s.size=n)(hn2:n<=144)(hs:∀i,i<n->s[n-1-i]? =some (hexc (x/16^i%16)))(r:Nat->Nat)(hr:Wn 9 r)(hrV:V 9 r=x%16^n):
 Con P 59 [.str s] [] 0 [] (fun v _ _=>v= .agg (ws r 9)):=by
 refine cof hP Tryz.func59 (bdb _ rfl) (bkb rfl) ?_
 intro A g K hA hg hK
 obtain⟨bin,sh,cmp,_,cvt,ix,nn,nz,_,_,_,_,slen,six,_,off,_,_,sub⟩:=A
 have en:slen s=Int.ofNat n:=(slen_of hA s).trans (by rw[hn])
 have es:∀i,i<n->six s (Int.ofNat (n-1-i))=some (Int.ofNat (hexc (x/16^i%16)).toNat):=fun i h=>by
  have e:six=Ar.real.six:=congrArg Ar.six hA
  rw[e]
  show(if 0<=Int.ofNat (n-1-i)then(s[(Int.ofNat (n-1-i)).toNat]?).map fun b=>(b.toNat:Int)else none)=_
  rw[if_pos (show(0:Int)<=Int.ofNat (n-1-i)from Int.natCast_nonneg _)]
  show(s[n-1-i]?).map _=_
  rw[hs i h];rfl
 have f1t:∀x y,x<y->cmp .lss (.ofNat x) (.ofNat y)=true:=fun x y h=>lss_t hA h
 have f1f:∀x y,¬x<y->cmp .lss (.ofNat x) (.ofNat y)=false:=fun x y h=>lss_f hA h
 have f2:∀i,i<9->ix (.ofNat i) 9=some i:=fun i h=>ix_of hA h
 have f3:∀i,off 0 i 1=i:=fun i=>(off_of hA 0 i 1).trans (by omega)
 have f4:=fun(f:Nat->Nat) (i:Nat) (h:i<9)=>getW hA .u64 (n:=9) f h
 have f5:=fun(f g:Nat->Nat) (i v:Nat) (h:i<9) (e:g=fun j=>if j=i then v else f j)=>splW hA .u64 (n:=9) f g h e
 simp only[lst,Nat.reduceAdd]at f4 f5
 cbv
 rw[en]
 refine lpb (Nat×(Nat->Nat)) (fun σ=>σ.1<=n/\∀j,σ.2 j=hexw (x%16^σ.1) j) (fun σ=>n-σ.1)
  (fun σ=> [(9,.int .i64 (.ofNat σ.1))]) [0,2,3,8] (fun σ=> [(1,ws σ.2 9)]) (0,fun _=>0) ⟨Nat.zero_le _,?_⟩ ?_ ?_
 ·intro j
  show 0=hexw (x%16^0) j
  rw[Nat.pow_zero,Nat.mod_one,hexw,Nat.zero_div,Nat.zero_mod]
 ·exact wkid
 rintro⟨i,f⟩ ⟨hi',hf'⟩
 have hi:i<=n:=hi'
 have hf:∀j,f j=hexw (x%16^i) j:=hf'
 clear hi' hf'
 cbv
 by_cases hlt:i<n
 ·obtain⟨d,hd⟩:=exq (x/16^i%16)
  have hd16:d<16:=by rw[hd];exact Nat.mod_lt _ (by decide)
  obtain⟨c,hc⟩:=exq ((hexc d).toNat)
  have hc2:c=if d<10 then 48+d else 87+d:=by rw[hc];exact hexc_nat hd16
  obtain⟨k,hk⟩:=exq (n-1-i)
  have e1:=es i hlt
  rw[<-hd,<-hc,<-hk]at e1
  obtain⟨k1,hk1⟩:=exq (n-1)
  have e2:bin .sub .i64 (.ofNat n) 1=Int.ofNat k1:=(subI hA (a:=n) (b:=1) (by omega) (by omega)).trans (by rw[hk1])
  have e3:bin .sub .i64 (.ofNat k1) (.ofNat i)=Int.ofNat k:=(subI hA (by omega) (by omega)).trans (by rw[hk,hk1])
  obtain⟨c1,hc1⟩:=exq (c-48)
  have hcl:48<=c/\c<128:=by rw[hc2];split<;>omega
  have e4:bin .sub .u8 (.ofNat c) 48=Int.ofNat c1:=(subW hA (k:= .u8) rfl (a:=c) (b:=48) (by decide)).trans (congrArg Int.ofNat (by show(c+256-48)%256=c1;omega))
  have e5:cvt .u64 (.ofNat c1)=Int.ofNat c1:=cvtI hA (fun h=>by cases h) (fun _=>by show c1<0x10000000000000000;omega)
  obtain⟨q,hq⟩:=exq (i/16)
  obtain⟨t,ht⟩:=exq (i%16)
  have hiq:i=16*q+t:=by rw[hq,ht];exact(Nat.div_add_mod i 16).symm
  have ht16:t<16:=by rw[ht];exact Nat.mod_lt _ (by decide)
  have hq9:q<9:=by omega
  have e6:bin .quo .i64 (.ofNat i) 16=Int.ofNat q:=(quoI hA (a:=i) (b:=16) (by omega)).trans (by rw[hq])
  have e7:bin .rem .i64 (.ofNat i) 16=Int.ofNat t:=(remW hA (k:= .i64) i 16).trans (by rw[ht])
  obtain⟨t4,ht4⟩:=exq (4*t)
  have e8:bin .mul .i64 4 (.ofNat t)=Int.ofNat t4:=(mulI hA (a:=4) (b:=t) (by omega)).trans (by rw[ht4])
  obtain⟨y,hy⟩:=exq (d*2^t4%0x10000000000000000)
  have e9:sh .shl .u64 (.ofNat d) (.ofNat t4)=Int.ofNat y:=shl64 hA (by omega) hy
  obtain⟨z,hz⟩:=exq (f q|||y)
  have hyx:x%16^i<16^i:=Nat.mod_lt _ (Nat.pow_pos (by decide))
  have hfq:=hf q
  have e10:bin .or .u64 (.ofNat (f q)) (.ofNat y)=Int.ofNat z:=or64 hA (by rw[hfq];exact hexw_lt _ _) (by rw[hy];exact Nat.mod_lt _ (by decide)) hz
  have hzv:z=hexw (x%16^i) q+d*16^t:=by rw[hz,hfq,hy,ht4];exact hex_or hiq ht16 hyx hd16
  obtain⟨f',hf'⟩:=exq (fun j=>if j=q then z else f j:Nat->Nat)
  have e11:=f4 f q hq9
  have e12:=f5 f f' q z hq9 hf'
  have e13:=f2 q hq9
  have e14:=f3 q
  have e15:bin .add .i64 (.ofNat i) 1=Int.ofNat (i+1):=addI hA (b:=1) (by omega)
  have znn:nn (.ofNat t4)=true:=nn_t hA t4
  have hnext:∀j,f' j=hexw (x%16^(i+1)) j:=fun j=>by
   rw[<-dig_next,<-hd,hex_step hiq ht16 hyx hd16 j,hf']
   show(if j=q then z else f j)=_
   rw[hzv,hf j]
  obtain⟨i1,hi1⟩:=exq (i+1)
  rw[<-hi1]at e15 hnext
  rw[f1t i n hlt]
  cbv
  rw[en]
  rw[e2]
  rw[e3]
  cbv
  rw[e1]
  cbv
  rw[e4]
  cbv
  rw[e5]
  cbv
  rw[e1]
  cbv
  have znz:nz 16=true:=nz_t hA (a:=16) (by decide)
  by_cases h10:d<10
  ·have hc3:c1=d:=by rw[hc1,hc2,if_pos h10];omega
   rw[show cmp .geq (.ofNat c) 97=false from geq_f hA (b:=97) (by rw[hc2,if_pos h10];omega)]
   cbv
   rw[hc3]
   refine rgM hP hA hg fun mk _=> ?_
   cbv
   rw[e6]
   cbv
   rw[e13]
   cbv
   rw[e14,e11]
   cbv
   rw[e7]
   cbv
   rw[e8]
   cbv
   rw[znn]
   cbv
   rw[e9]
   cbv
   rw[e10]
   cbv
   rw[e13]
   cbv
   rw[e14,e12]
   cbv
   rw[e15]
   refine⟨(i1,f'),id,⟨by show i1<=n;omega,hnext⟩,(by show n-i1<n-i;omega),?_⟩
   exact wkid
  ·obtain⟨c3,hc3⟩:=exq (c-97)
   have hcd:c3+10=d:=by rw[hc3,hc2,if_neg h10];omega
   have h97:97<=c:=by rw[hc2,if_neg h10];omega
   have e16:bin .sub .u8 (.ofNat c) 97=Int.ofNat c3:=(subW hA (k:= .u8) rfl (a:=c) (b:=97) (by decide)).trans (congrArg Int.ofNat (by show(c+256-97)%256=c3;omega))
   have e17:cvt .u64 (.ofNat c3)=Int.ofNat c3:=cvtI hA (fun h=>by cases h) (fun _=>by show c3<0x10000000000000000;omega)
   have e18:bin .add .u64 (.ofNat c3) 10=Int.ofNat d:=(addW hA (k:= .u64) rfl c3 10).trans (congrArg Int.ofNat (by show(c3+10)%0x10000000000000000=d;omega))
   rw[show cmp .geq (.ofNat c) 97=true from geq_t hA (b:=97) h97]
   cbv
   rw[e1]
   cbv
   rw[e16]
   cbv
   rw[e17]
   cbv
   rw[e18]
   refine rgM hP hA hg fun mk _=> ?_
   cbv
   rw[e6]
   cbv
   rw[e13]
   cbv
   rw[e14,e11]
   cbv
   rw[e7]
   cbv
   rw[e8]
   cbv
   rw[znn]
   cbv
   rw[e9]
   cbv
   rw[e10]
   cbv
   rw[e13]
   cbv
   rw[e14,e12]
   cbv
   rw[e15]
   refine⟨(i1,f'),id,⟨by show i1<=n;omega,hnext⟩,(by show n-i1<n-i;omega),?_⟩
   exact wkid
 ·obtain rfl:i=n:=by omega
  rw[f1f i i hlt]
  cbv
  have e:ws r 9=ws f 9:=V_inj hr (fun j _=>by rw[hf j];exact hexw_lt _ _) (by
   rw[hrV,show V 9 f=V 9 (hexw (x%16^i))from Dg.num_congr 9 fun j _=>hf j,V_hexw]
   refine(Nat.mod_eq_of_lt (Nat.lt_of_lt_of_le (Nat.mod_lt _ (Nat.pow_pos (by decide))) ?_)).symm
   refine Nat.le_trans (Nat.pow_le_pow_right (by decide) hn2) (Nat.le_of_eq (by decide)))
  exact hK _ _ _ (by rw[e];rfl)
theorem hexS_size(x n:Nat):(hexS x n).size=n:=by
 show((List.range n).map _).toArray.size=n
 simp
theorem hexS_at(x n i:Nat)(h:i<n):(hexS x n)[n-1-i]? =some (hexc (x/16^i%16)):=by
 have hs:n-1-i<(hexS x n).size:=by rw[hexS_size];omega
 rw[getElem?_pos (hexS x n) (n-1-i) hs]
 have hl:n-1-i<((List.range n).map fun i=>hexc (x/16^(n-1-i)%16)).length:=by simp;omega
 have e:(hexS x n)[n-1-i]'hs=((List.range n).map fun i=>hexc (x/16^(n-1-i)%16))[n-1-i]'hl:=rfl
 rw[e,List.getElem_map,List.getElem_range,show n-1-(n-1-i)=i by omega]
theorem cHexS{P:Program}(hP:P=Tryz.prog)(x n:Nat)(hn2:n<=144)(r:Nat->Nat)(hr:Wn 9 r)(hrV:V 9 r=x%16^n):
 Con P 59 [.str (hexS x n)] [] 0 [] (fun v _ _=>v= .agg (ws r 9)):=
 cHex hP (hexS x n) n x (hexS_size x n) hn2 (fun i h=>hexS_at x n i h) r hr hrV
theorem fld_num(k:Nat)(h:1<=k/\k<=15):primeB (Int.ofNat k)=hexS (primeN k) (primeL k)/\0<primeL k/\primeL k<=144/\2<=primeN k/\primeN k<16^primeL k:=by
 obtain⟨h1,h2⟩:=h
 have:k=1\/k=2\/k=3\/k=4\/k=5\/k=6\/k=7\/k=8\/k=9\/k=10\/k=11\/k=12\/k=13\/k=14\/k=15:=by omega
 rcases this with rfl|rfl|rfl|rfl|rfl|rfl|rfl|rfl|rfl|rfl|rfl|rfl|rfl|rfl|rfl<;>exact⟨rfl,by decide,by decide,by decide +kernel,by decide +kernel⟩
theorem cFOfL{P:Program}(hP:P=Tryz.prog)(k:Nat)(hk:1<=k/\k<=15):
 ∃p d n s,Wn 9 p/\V 9 p=primeN k/\Dv p d n s/\Con P 57 [.int .i64 (.ofNat k)] [] 0 [] (fun v L m=>v= .ptr 4 0/\L=[⟨0,ws p 9,25⟩,⟨2,[.ptr 3 0],118⟩,⟨1,ws p 9,25⟩,⟨3,dcells d n s,215⟩,⟨4,fcells p 3,120⟩]/\m=5):=by
 obtain⟨k1,k2,k3,k4,k5⟩:=fld_num k hk
 have k6:primeN k<0x10000000000000000^9:=Nat.lt_of_lt_of_le k5 (Nat.le_trans (Nat.pow_le_pow_right (by decide) k3) (Nat.le_of_eq (by decide)))
 obtain⟨p,hp,hpV⟩:=exV 9 _ k6
 obtain⟨n,hn⟩:=used_ex p 9
 have hn0:0<n:=by
  rcases Nat.eq_zero_or_pos n with h|h
  ·have e:V 9 p=0:=by rw[V_used hn,h];rfl
   rw[hpV]at e;omega
  ·exact h
 obtain⟨d,s,hD,hBy⟩:=cBy hP p n hp hn hn0
 refine⟨p,d,n,s,hp,hpV,hD,?_⟩
 obtain⟨b,hb⟩:=exq (hexS (primeN k) (primeL k))
 have hbs:b.size≠0:=by rw[hb,hexS_size];omega
 have hPr:=cPrime hP (Int.ofNat k) b (by rw[hb,k1])
 have hH:=cHexS hP (primeN k) (primeL k) k3 p hp (by rw[hpV,Nat.mod_eq_of_lt k5])
 rw[<-hb]at hH
 clear hb k1 k5 k6 hpV hD hn
 refine cof hP Tryz.func57 (bdb _ rfl) (bkb rfl) ?_
 intro A g K hA hg hK
 obtain⟨_,_,_,_,_,_,_,_,_,_,_,scmp⟩:=A
 cbv
 refine cva rfl hg rfl rfl hPr ?_
 rintro _ _ _ rfl
 cbv
 have hne:scmp .eql b ⟨⟨[]⟩⟩=false:=by
  have e:scmp=Ar.real.scmp:=congrArg Ar.scmp hA
  rw[e]
  show strCmp .eql b ⟨⟨[]⟩⟩=false
  unfold strCmp
  simp only
  rw[beq_eq_false_iff_ne]
  intro h
  rw[ByteArray.toList_eq,ByteArray.toList_eq]at h
  refine hbs ?_
  show b.data.toList.length=0
  rw[h];rfl
 rw[hne]
 cbv
 refine cva rfl hg rfl rfl hH ?_
 rintro _ _ _ rfl
 cbv
 refine reg_A (hP▸tblOk) hA hg (hP▸mixed) rfl rfl ?_
 cbv
 refine stepDn (n':=4) (en_new rfl hg rfl rfl hBy id rfl trivial rfl (val:= .agg [.ptr 2 0]) (NB:=[⟨1,[.ptr 2 0],118⟩,⟨0,ws p 9,25⟩,⟨2,dcells d n s,215⟩]) (n:=1) (n1:=3) (fun _ _ _ h=>⟨h.1,h.2.1,h.2.2⟩) rfl rfl (fun l h1 h2=> ?_)) (by decide) rfl ?_ ?_
 rotate_left
 ·show [2,1,3].Nodup
  decide
 ·cbv
  exact hK _ _ _ ⟨rfl,rfl,rfl⟩
 ·have h3:l=0\/l=1\/l=2:=by omega
  rcases h3 with rfl|rfl|rfl
  ·exact⟨_,List.mem_cons_of_mem _ List.mem_cons_self,rfl⟩
  ·exact⟨_,List.mem_cons_self,rfl⟩
  ·exact⟨_,List.mem_cons_of_mem _ (List.mem_cons_of_mem _ List.mem_cons_self),rfl⟩
theorem cFOf{P:Program}(hP:P=Tryz.prog)(k:Nat)(hk:1<=k/\k<=15):
 ∃p d n s,Wn 9 p/\V 9 p=primeN k/\Dv p d n s/\Con P 57 [.int .i64 (.ofNat k)] [] 0 [] (fun v L m=>v= .ptr 0 0/\L=[⟨0,fcells p 1,120⟩,⟨1,dcells d n s,215⟩]/\m=2):=by
 obtain⟨p,d,n,s,h1,h2,h3,h4⟩:=cFOfL hP k hk
 refine⟨p,d,n,s,h1,h2,h3,h4.weak fun v L m h=>⟨fun l=>4-l,.ptr 0 0,[⟨0,fcells p 1,120⟩,⟨1,dcells d n s,215⟩],2,?_,rfl,rfl,rfl⟩⟩
 obtain⟨rfl,rfl,rfl⟩:=h
 exact wkr ⟨rfl,rfl,trivial⟩ ⟨rfl,rfl,rfl,rfl,rfl,rfl,rfl,rfl,trivial⟩ rfl rfl rfl
theorem cFOf0{P:Program}(hP:P=Tryz.prog)(x:Int)(hx:primeB x=⟨⟨[]⟩⟩):Con P 57 [.int .i64 x] [] 0 [] (fun v _ _=>v= .nilp):=by
 have hPr:=cPrime hP x ⟨⟨[]⟩⟩ hx.symm
 refine cof hP Tryz.func57 (bdb _ rfl) (bkb rfl) ?_
 intro A g K hA hg hK
 obtain⟨_,_,_,_,_,_,_,_,_,_,_,scmp⟩:=A
 cbv
 refine cva rfl hg rfl rfl hPr ?_
 rintro _ _ _ rfl
 cbv
 have hne:scmp .eql ⟨⟨[]⟩⟩ ⟨⟨[]⟩⟩=true:=by
  have e:scmp=Ar.real.scmp:=congrArg Ar.scmp hA
  rw[e]
  show strCmp .eql ⟨⟨[]⟩⟩ ⟨⟨[]⟩⟩=true
  unfold strCmp
  simp only
  exact beq_self_eq_true _
 rw[hne]
 cbv
 exact hK _ _ _ rfl
def rowA:Nat->Nat
 |1=>0
 |2=>0
 |3=>0
 |4=>0
 |5=>0
 |6=>0
 |7=>0x340e7be2a280eb74e2be61bada745d97e8f7c300
 |8=>0x68a5e62ca9ce6c1c299803a6c1530b514e182ad8b0042a59cad29f43
 |9=>0x7d5a0975fc2c3057eef67530417affe7fb8055c126dc5c6ce94a4b44f330b5d9
 |10=>0x3ee30b568fbab0f883ccebd46d3f3bb8a2a73513f5eb79da66190eb085ffa9f492f375a97d860eb4
 |11=>0x7bc382c63d8c150c3c72080ace05afa0c2bea28e4fb22787139165efba91f90f8aa5814a503ad4eb04a8c7dd22ce2826
 |12=>0x7830a3318b603b89e2327145ac234cc594cbdd8d3df91610a83441caea9863bc2ded5d5aa8253aa10a2ef1c98b9ac8b57f1117a72bf2c7b9e7c1ac4d77fc94ca
 |13=>0
 |14=>0
 |15=>117
 |_=>0
def rowAL:Nat->Nat
 |1=>0
 |2=>0
 |3=>0
 |4=>0
 |5=>0
 |6=>1
 |7=>40
 |8=>56
 |9=>64
 |10=>80
 |11=>96
 |12=>128
 |13=>0
 |14=>1
 |15=>2
 |_=>0
def rowB:Nat->Nat
 |1=>0x64210519e59c80e70fa7e9ab72243049feb8deecc146b9b1
 |2=>0xb4050a850c04b3abf54132565044b0b7d7bfd8ba270b39432355ffb4
 |3=>0x5ac635d8aa3a93e7b3ebbd55769886bc651d06b0cc53b0f63bce3c3e27d2604b
 |4=>0xb3312fa7e23ee7e4988e056be3f82d19181d9c6efe8141120314088f5013875ac656398d8a2ed19d2a85c8edd3ec2aef
 |5=>0x51953eb9618e1c9a1f929a21a0b68540eea2da725b99b315f3b8b489918ef109e156193951ec7e937b1652c0bd3bb1bf073573df883d2c34f1ef451fd46b503f00
 |6=>7
 |7=>0x1e589a8595423412134faa2dbdec95c8d8675e58
 |8=>0x2580f63ccfe44138870713b1a92369e33e2135d266dbb372386c400b
 |9=>0x26dc5c6ce94a4b44f330b5d9bbd77cbf958416295cf7e1ce6bccdc18ff8c07b6
 |10=>0x520883949dfdbc42d3ad198640688a6fe13f41349554b49acc31dccd884539816f5eb4ac8fb1f1a6
 |11=>0x4a8c7dd22ce28268b39b55416f0447c2fb77de107dcd2a62e880ea53eeb62d57cb4390295dbc9943ab78696fa504c11
 |12=>0x3df91610a83441caea9863bc2ded5d5aa8253aa10a2ef1c98b9ac8b57f1117a72bf2c7b9e7c1ac4d77fc94cadc083e67984050b75ebae5dd2809bd638016f723
 |13=>26
 |14=>13
 |15=>8
 |_=>0
def rowBL:Nat->Nat
 |1=>48
 |2=>56
 |3=>64
 |4=>96
 |5=>132
 |6=>1
 |7=>40
 |8=>56
 |9=>64
 |10=>80
 |11=>96
 |12=>128
 |13=>2
 |14=>1
 |15=>1
 |_=>0
def rowN:Nat->Nat
 |1=>0xffffffffffffffffffffffff99def836146bc9b1b4d22831
 |2=>0xffffffffffffffffffffffffffff16a2e0b8f03e13dd29455c5c2a3d
 |3=>0xffffffff00000000ffffffffffffffffbce6faada7179e84f3b9cac2fc632551
 |4=>0xffffffffffffffffffffffffffffffffffffffffffffffffc7634d81f4372ddf581a0db248b0a77aecec196accc52973
 |5=>0x1fffffffffffffffffffffffffffffffffffffffffffffffffffffffffffffffffa51868783bf2f966b7fcc0148f709a5d03bb5c9b8899c47aebb6fb71e91386409
 |6=>0xfffffffffffffffffffffffffffffffebaaedce6af48a03bbfd25e8cd0364141
 |7=>0xe95e4a5f737059dc60df5991d45029409e60fc09
 |8=>0xd7c134aa264366862a18302575d0fb98d116bc4b6ddebca3a5a7939f
 |9=>0xa9fb57dba1eea9bc3e660a909d838d718c397aa3b561a6f7901e0e82974856a7
 |10=>0xd35e472036bc4fb7e13c785ed201e065f98fcfa5b68f12a32d482ec7ee8658e98691555b44c59311
 |11=>0x8cb91e82a3386d280f5d6f7e50e641df152f7109ed5456b31f166e6cac0425a7cf3ab6af6b7fc3103b883202e9046565
 |12=>0xaadd9db8dbe9c48b3fd4e6ae33c9fc07cb308db3b3c9d20ed6639cca70330870553e5c414ca92619418661197fac10471db1d381085ddaddb58796829ca90069
 |13=>223
 |14=>211
 |15=>229
 |_=>0
def rowNL:Nat->Nat
 |1=>48
 |2=>56
 |3=>64
 |4=>96
 |5=>132
 |6=>64
 |7=>40
 |8=>56
 |9=>64
 |10=>80
 |11=>96
 |12=>128
 |13=>2
 |14=>2
 |15=>2
 |_=>0
def rowX:Nat->Nat
 |1=>0x188da80eb03090f67cbf20eb43a18800f4ff0afd82ff1012
 |2=>0xb70e0cbd6bb4bf7f321390b94a03c1d356c21122343280d6115c1d21
 |3=>0x6b17d1f2e12c4247f8bce6e563a440f277037d812deb33a0f4a13945d898c296
 |4=>0xaa87ca22be8b05378eb1c71ef320ad746e1d3b628ba79b9859f741e082542a385502f25dbf55296c3a545e3872760ab7
 |5=>0xc6858e06b70404e9cd9e3ecb662395b4429c648139053fb521f828af606b4d3dbaa14b5e77efe75928fe1dc127a2ffa8de3348b3c1856a429bf97e7e31c2e5bd66
 |6=>0x79be667ef9dcbbac55a06295ce870b07029bfcdb2dce28d959f2815b16f81798
 |7=>0xbed5af16ea3f6a4f62938c4631eb5af7bdbcdbc3
 |8=>0xd9029ad2c7e5cf4340823b2a87dc68c9e4ce3174c1e6efdee12c07d
 |9=>0x8bd2aeb9cb7e57cb2c4b482ffc81b7afb9de27e1e3bd23c23a4453bd9ace3262
 |10=>0x43bd7e9afb53d8b85289bcc48ee5bfe6f20137d10a087eb6e7871e2a10a599c710af8d0d39e20611
 |11=>0x1d1c64f068cf45ffa2a63a81b7c13f6b8847a3e77ef14fe3db7fcafe0cbd10e8e826e03436d646aaef87b2e247d4af1e
 |12=>0x81aee4bdd82ed9645a21322e9c4c6a9385ed9f70b5d916c1b43b62eef4d0098eff3b1f78e2d0d48d50d1687b93b97d5f7c6d5047406a5e688b352209bcb9f822
 |13=>2
 |14=>3
 |15=>0
 |_=>0
def rowXL:Nat->Nat
 |1=>48
 |2=>56
 |3=>64
 |4=>96
 |5=>132
 |6=>64
 |7=>40
 |8=>56
 |9=>64
 |10=>80
 |11=>96
 |12=>128
 |13=>1
 |14=>1
 |15=>1
 |_=>0
def rowY:Nat->Nat
 |1=>0x7192b95ffc8da78631011ed6b24cdd573f977a11e794811
 |2=>0xbd376388b5f723fb4c22dfe6cd4375a05a07476444d5819985007e34
 |3=>0x4fe342e2fe1a7f9b8ee7eb4a7c0f9e162bce33576b315ececbb6406837bf51f5
 |4=>0x3617de4a96262c6f5d9e98bf9292dc29f8f41dbd289a147ce9da3113b5f0b8c00a60b1ce1d7e819d7a431d7c90ea0e5f
 |5=>0x11839296a789a3bc0045c8a5fb42c7d1bd998f54449579b446817afbd17273e662c97ee72995ef42640c550b9013fad0761353c7086a272c24088be94769fd16650
 |6=>0x483ada7726a3c4655da4fbfc0e1108a8fd17b448a68554199c47d08ffb10d4b8
 |7=>0x1667cb477a1a8ec338f94741669c976316da6321
 |8=>0x58aa56f772c0726f24c6b89e4ecdac24354b9e99caa3f6d3761402cd
 |9=>0x547ef835c3dac4fd97f8461a14611dc9c27745132ded8e545c1d54c72f046997
 |10=>0x14fdd05545ec1cc8ab4093247f77275e0743ffed117182eaa9c77877aaac6ac7d35245d1692e8ee1
 |11=>0x8abe1d7520f9c2a45cb1eb8e95cfd55262b70b29feec5864e19c054ff99129280e4646217791811142820341263c5315
 |12=>0x7dde385d566332ecc0eabfa9cf7822fdf209f70024a57b1aa000c55b881f8111b2dcde494a5f485e5bca4bd88a2763aed1ca2b2fa8f0540678cd1e0f3ad80892
 |13=>84
 |14=>47
 |15=>41
 |_=>0
def rowYL:Nat->Nat
 |1=>48
 |2=>56
 |3=>64
 |4=>96
 |5=>132
 |6=>64
 |7=>40
 |8=>56
 |9=>64
 |10=>80
 |11=>96
 |12=>128
 |13=>2
 |14=>2
 |15=>2
 |_=>0
def rowAS(k:Nat):ByteArray:=if rowAL k=0 then⟨⟨[45,51]⟩⟩else hexS (rowA k) (rowAL k)
theorem cRows{P:Program}(hP:P=Tryz.prog)(k:Nat)(hk:1<=k/\k<=15)(a b n x y:ByteArray)(ha:a=rowAS k)(hb:b=hexS (rowB k) (rowBL k))(hn:n=hexS (rowN k) (rowNL k))(hx:x=hexS (rowX k) (rowXL k))(hy:y=hexS (rowY k) (rowYL k)):
 Con P 58 [.int .i64 (.ofNat k)] [] 0 [] (fun v _ _=>v= .agg [.str a,.str b,.str n,.str x,.str y]):=by
 have:k=1\/k=2\/k=3\/k=4\/k=5\/k=6\/k=7\/k=8\/k=9\/k=10\/k=11\/k=12\/k=13\/k=14\/k=15:=by omega
 refine cof hP Tryz.func58 (bdb _ rfl) (bkb rfl) ?_
 intro A g K hA hg hK
 obtain⟨_,_,cmp⟩:=A
 have f:∀y z,cmp .eql y z=decide (y=z):=fun y z=>congrFun (congrFun (congrFun (cmp_of hA) .eql) y) z
 rcases this with rfl|rfl|rfl|rfl|rfl|rfl|rfl|rfl|rfl|rfl|rfl|rfl|rfl|rfl|rfl<;>(cbv;repeat (rw[f];cbv))<;>exact hK _ _ _ (by rw[ha,hb,hn,hx,hy];kernel_rfl)
def curA(k:Nat):Nat:=if rowAL k=0 then primeN k-3 else rowA k
def ccells(k:Nat)(p a b n gx gy th:Nat->Nat)(bits size:Nat)(leg:Bool)(l:Nat):List SV:=
 [.int .i64 (.ofNat k)]++ws p 9++ws a 9++ws b 9++ws n 9++ws gx 9++ws gy 9++[.bool false,.int .i64 (.ofNat bits),.int .i64 (.ofNat size),.bool leg,.ptr l 0]++ws th 9
structure Cv(k:Nat)(p a b n gx gy th:Nat->Nat)(bits size:Nat):Prop where
 wp:Wn 9 p
 wa:Wn 9 a
 wb:Wn 9 b
 wn:Wn 9 n
 wx:Wn 9 gx
 wy:Wn 9 gy
 wt:Wn 9 th
 vp:V 9 p=primeN k
 va:V 9 a=curA k
 vb:V 9 b=rowB k
 vn:V 9 n=rowN k
 vx:V 9 gx=rowX k
 vy:V 9 gy=rowY k
 vt:V 9 th=(rowB k+rowB k+rowB k)%primeN k
 bits:IsBl (rowN k) bits
 size:∃pb,IsBl (primeN k) pb/\size=(pb+7)/8
theorem row_num(k:Nat)(h:1<=k/\k<=15):rowA k<16^rowAL k/\rowB k<16^rowBL k/\rowN k<16^rowNL k/\rowX k<16^rowXL k/\rowY k<16^rowYL k/\rowAL k<=144/\rowBL k<=144/\rowNL k<=144/\rowXL k<=144/\rowYL k<=144/\rowB k<primeN k/\3<=primeN k:=by
 obtain⟨h1,h2⟩:=h
 have:k=1\/k=2\/k=3\/k=4\/k=5\/k=6\/k=7\/k=8\/k=9\/k=10\/k=11\/k=12\/k=13\/k=14\/k=15:=by omega
 rcases this with rfl|rfl|rfl|rfl|rfl|rfl|rfl|rfl|rfl|rfl|rfl|rfl|rfl|rfl|rfl<;>decide +kernel
theorem row_minus(k:Nat)(h:1<=k/\k<=15):strCmp .eql (rowAS k) ⟨⟨[45,51]⟩⟩=decide (rowAL k=0):=by
 obtain⟨h1,h2⟩:=h
 show((rowAS k).toList==(ByteArray.mk ⟨[45,51]⟩).toList)=_
 rw[ByteArray.toList_eq,ByteArray.toList_eq]
 have:k=1\/k=2\/k=3\/k=4\/k=5\/k=6\/k=7\/k=8\/k=9\/k=10\/k=11\/k=12\/k=13\/k=14\/k=15:=by omega
 rcases this with rfl|rfl|rfl|rfl|rfl|rfl|rfl|rfl|rfl|rfl|rfl|rfl|rfl|rfl|rfl<;>decide +kernel
theorem bl_le{x k n:Nat}(h:IsBl x k)(hx:x<2^n):k<=n:=Nat.le_of_not_lt fun h2=>by
 have h3:=h.2 (by omega)
 have h4:=Nat.pow_le_pow_right (show 0<2 by decide) (show n<=k-1 by omega)
 omega
theorem lt_nine{x l:Nat}(h:x<16^l)(hl:l<=144):x<0x10000000000000000^9:=
 Nat.lt_of_lt_of_le h (Nat.le_trans (Nat.pow_le_pow_right (by decide) hl) (Nat.le_of_eq (by decide)))
theorem cOpenL{P:Program}(hP:P=Tryz.prog)(k:Nat)(hk:1<=k/\k<=15)(leg:Bool)(hleg:leg=(decide (k=1)||decide (k=7))):
 ∃p d m s a b n gx gy th bits size,Cv k p a b n gx gy th bits size/\Dv p d m s/\Con P 39 [.int .i64 (.ofNat k)] [] 0 [] (fun v L q=>v= .ptr 3 0/\(∃sa sb sn sx sy,L=[⟨0,fcells p 1,120⟩,⟨1,dcells d m s,215⟩,⟨2,[.str sa,.str sb,.str sn,.str sx,.str sy],110⟩,⟨3,ccells k p a b n gx gy th bits size leg 0,115⟩])/\q=4):=by
 obtain⟨p,d,m,s,hp,hpV,hD,hF⟩:=cFOf hP k hk
 obtain⟨r1,r2,r3,r4,r5,l1,l2,l3,l4,l5,hbp,hp3⟩:=row_num k hk
 obtain⟨n,hn,hnV⟩:=exV 9 _ (lt_nine r3 l3)
 obtain⟨b,hb,hbV⟩:=exV 9 _ (lt_nine r2 l2)
 obtain⟨gx,hx,hxV⟩:=exV 9 _ (lt_nine r4 l4)
 obtain⟨gy,hy,hyV⟩:=exV 9 _ (lt_nine r5 l5)
 have hpB:primeN k<0x10000000000000000^9:=by rw[<-hpV];exact V_lt hp
 have haB:curA k<0x10000000000000000^9:=by
  unfold curA
  split
  ·exact Nat.lt_of_le_of_lt (Nat.sub_le _ _) hpB
  ·exact lt_nine r1 l1
 obtain⟨a,ha,haV⟩:=exV 9 (curA k) haB
 clear haB
 have hp0:0<primeN k:=by omega
 obtain⟨b2,hb2,hb2V⟩:=exV 9 ((V 9 b+V 9 b)%V 9 p) (Nat.lt_trans (Nat.mod_lt _ (by rw[hpV];exact hp0)) (V_lt hp))
 obtain⟨th,ht,htV⟩:=exV 9 ((V 9 b2+V 9 b)%V 9 p) (Nat.lt_trans (Nat.mod_lt _ (by rw[hpV];exact hp0)) (V_lt hp))
 obtain⟨bits,hbits⟩:=bl_ex (V 9 n)
 obtain⟨pb,hpb⟩:=bl_ex (V 9 p)
 obtain⟨size,hsize⟩:=exq ((pb+7)/8)
 refine⟨p,d,m,s,a,b,n,gx,gy,th,bits,size,⟨hp,ha,hb,hn,hx,hy,ht,hpV,haV,hbV,hnV,hxV,hyV,?_,by rw[<-hnV];exact hbits,pb,by rw[<-hpV];exact hpb,hsize⟩,hD,?_⟩
 ·rw[htV,hb2V,hbV,hpV,Nat.add_mod,Nat.mod_mod,<-Nat.add_mod]
 obtain⟨sa,hsa⟩:=exq (rowAS k)
 obtain⟨sb,hsb⟩:=exq (hexS (rowB k) (rowBL k))
 obtain⟨sn,hsn⟩:=exq (hexS (rowN k) (rowNL k))
 obtain⟨sx,hsx⟩:=exq (hexS (rowX k) (rowXL k))
 obtain⟨sy,hsy⟩:=exq (hexS (rowY k) (rowYL k))
 have hR:=cRows hP k hk sa sb sn sx sy hsa hsb hsn hsx hsy
 have hHb:=cHexS hP (rowB k) (rowBL k) l2 b hb (by rw[hbV,Nat.mod_eq_of_lt r2])
 have hHn:=cHexS hP (rowN k) (rowNL k) l3 n hn (by rw[hnV,Nat.mod_eq_of_lt r3])
 have hHx:=cHexS hP (rowX k) (rowXL k) l4 gx hx (by rw[hxV,Nat.mod_eq_of_lt r4])
 have hHy:=cHexS hP (rowY k) (rowYL k) l5 gy hy (by rw[hyV,Nat.mod_eq_of_lt r5])
 rw[<-hsb]at hHb
 rw[<-hsn]at hHn
 rw[<-hsx]at hHx
 rw[<-hsy]at hHy
 have hB1:=cBits hP n hn bits hbits
 have hB2:=cBits hP p hp pb hpb
 have hbM:V 9 b<V 9 p:=by rw[hbV,hpV];exact hbp
 have hpb576:pb<=576:=bl_le hpb (Nat.lt_of_lt_of_le (V_lt hp) (Nat.le_of_eq (W9 (b:=576) rfl)))
 have hA1:=cFAdd hP p b b b2 hp hb hb hb2 hbM hbM hb2V
 have hA2:=cFAdd hP p b2 b th hp hb2 hb ht (by rw[hb2V];exact Nat.mod_lt _ (by rw[hpV];exact hp0)) hbM htV
 clear hsb hsn hsx hsy hbits hD hpB hb2V htV hbM
 refine cof hP Tryz.func39 (bdb _ rfl) (bkb rfl) ?_
 intro A g K hA hg hK
 obtain⟨bin,_,cmp,_,_,_,_,_,_,_,_,scmp⟩:=A
 cbv
 refine cgn rfl hg rfl rfl hF id rfl trivial rfl rfl rfl ?_
 rintro _ _ _ ⟨rfl,rfl,rfl⟩ _
 cbv
 refine cva rfl hg rfl rfl hR ?_
 rintro _ _ _ rfl
 cbv
 refine rgM hP hA hg fun mk _=> ?_
 cbv
 refine stepD (en_val rfl hg rfl rfl hHb (fun _ _ _ h=>h) (by simp[bd,bdL,ws,lst])) ?_
 cbv
 refine stepD (en_val rfl hg rfl rfl hHn (fun _ _ _ h=>h) (by simp[bd,bdL,ws,lst])) ?_
 cbv
 have hmin:scmp .eql sa ⟨⟨[45,51]⟩⟩=decide (rowAL k=0):=by
  have e:scmp=Ar.real.scmp:=congrArg Ar.scmp hA
  rw[e,hsa]
  exact row_minus k hk
 have g7:bin .add .i64 (.ofNat pb) 7=Int.ofNat (pb+7):=addI hA (b:=7) (by omega)
 have g8:bin .quo .i64 (.ofNat (pb+7)) 8=Int.ofNat size:=(quoI hA (a:=pb+7) (b:=8) (by omega)).trans (by rw[hsize])
 generalize pb+7=pb7 at g7 g8
 rw[hmin]
 by_cases h0:rowAL k=0
 ·rw[decide_eq_true h0]
  obtain⟨t3,ht3⟩:=exq (fun j=>if j=0 then 3 else 0:Nat->Nat)
  have w3:Wn 9 t3:=fun j _=>by rw[ht3];show(if j=0 then 3 else 0)<_;split<;>decide
  have v3:V 9 t3=3:=by rw[ht3];rfl
  have hS3:=cSmall hP 3 (by decide) t3 ht3
  have hpB:V 9 p<0x10000000000000000^9:=V_lt hp
  have hSb:=cSub hP p t3 a hp w3 ha false (by
   rw[haV,v3,curA,if_pos h0,<-hpV]
   generalize (0x10000000000000000^9:Nat)=B at hpB
   rw[show V 9 p+B-3=(V 9 p-3)+B by omega,Nat.add_mod_right,Nat.mod_eq_of_lt (by omega)]) (decide_eq_false (by rw[v3];omega)).symm
  clear hpB
  cbv
  refine rgM hP hA hg fun mk _=> ?_
  cbv
  refine stepD (en_val rfl hg rfl rfl hS3 (fun _ _ _ h=>h) (by simp[bd,bdL,ws,lst])) ?_
  cbv
  refine stepD (en_val rfl hg rfl rfl hSb (fun _ _ _ h=>h) (by simp[bd,bdL,ws,lst])) ?_
  cbv
  refine rgM hP hA hg fun mk _=> ?_
  cbv
  refine stepD (en_val rfl hg rfl rfl hHx (fun _ _ _ h=>h) (by simp[bd,bdL,ws,lst])) ?_
  cbv
  refine stepD (en_val rfl hg rfl rfl hHy (fun _ _ _ h=>h) (by simp[bd,bdL,ws,lst])) ?_
  cbv
  refine rgM hP hA hg fun mk _=> ?_
  cbv
  refine sdv hg hB1 ?_
  cbv
  refine sdv hg hB2 ?_
  cbv
  rw[g7]
  cbv
  rw[g8]
  cbv
  by_cases hk1:k=1
  ·obtain rfl:leg=true:=by rw[hleg,decide_eq_true hk1];rfl
   rw[show cmp .eql (.ofNat k) 1=true from eql_t hA (b:=1) hk1]
   cbv
   refine rgM hP hA hg fun mk _=> ?_
   cbv
   refine stepD (enr rfl hg rfl rfl hA1 id rfl ⟨rfl,trivial⟩ (fun _ _ _ h=>h) (by simp[bd,bdL,ws,lst])) ?_
   cbv
   refine stepD (enr rfl hg rfl rfl hA2 id rfl ⟨rfl,trivial⟩ (fun _ _ _ h=>h) (by simp[bd,bdL,ws,lst])) ?_
   cbv
   exact hK _ _ _ ⟨rfl,⟨sa,sb,sn,sx,sy,rfl⟩,rfl⟩
  ·rw[show cmp .eql (.ofNat k) 1=false from eql_f hA (b:=1) hk1]
   cbv
   rw[show cmp .eql (.ofNat k) 7=leg from(eqlI hA k 7).trans (by rw[hleg,decide_eq_false hk1];rfl)]
   cbv
   refine rgM hP hA hg fun mk _=> ?_
   cbv
   refine stepD (enr rfl hg rfl rfl hA1 id rfl ⟨rfl,trivial⟩ (fun _ _ _ h=>h) (by simp[bd,bdL,ws,lst])) ?_
   cbv
   refine stepD (enr rfl hg rfl rfl hA2 id rfl ⟨rfl,trivial⟩ (fun _ _ _ h=>h) (by simp[bd,bdL,ws,lst])) ?_
   cbv
   exact hK _ _ _ ⟨rfl,⟨sa,sb,sn,sx,sy,rfl⟩,rfl⟩
 ·rw[decide_eq_false h0]
  have hHa:=cHexS hP (rowA k) (rowAL k) l1 a ha (by rw[haV,curA,if_neg h0,Nat.mod_eq_of_lt r1])
  rw[show hexS (rowA k) (rowAL k)=sa by rw[hsa,rowAS,if_neg h0]]at hHa
  cbv
  refine cva rfl hg rfl rfl hHa ?_
  rintro _ _ _ rfl
  cbv
  refine rgM hP hA hg fun mk _=> ?_
  cbv
  refine stepD (en_val rfl hg rfl rfl hHx (fun _ _ _ h=>h) (by simp[bd,bdL,ws,lst])) ?_
  cbv
  refine stepD (en_val rfl hg rfl rfl hHy (fun _ _ _ h=>h) (by simp[bd,bdL,ws,lst])) ?_
  cbv
  refine rgM hP hA hg fun mk _=> ?_
  cbv
  refine sdv hg hB1 ?_
  cbv
  refine sdv hg hB2 ?_
  cbv
  rw[g7]
  cbv
  rw[g8]
  cbv
  by_cases hk1:k=1
  ·obtain rfl:leg=true:=by rw[hleg,decide_eq_true hk1];rfl
   rw[show cmp .eql (.ofNat k) 1=true from eql_t hA (b:=1) hk1]
   cbv
   refine rgM hP hA hg fun mk _=> ?_
   cbv
   refine stepD (enr rfl hg rfl rfl hA1 id rfl ⟨rfl,trivial⟩ (fun _ _ _ h=>h) (by simp[bd,bdL,ws,lst])) ?_
   cbv
   refine stepD (enr rfl hg rfl rfl hA2 id rfl ⟨rfl,trivial⟩ (fun _ _ _ h=>h) (by simp[bd,bdL,ws,lst])) ?_
   cbv
   exact hK _ _ _ ⟨rfl,⟨sa,sb,sn,sx,sy,rfl⟩,rfl⟩
  ·rw[show cmp .eql (.ofNat k) 1=false from eql_f hA (b:=1) hk1]
   cbv
   rw[show cmp .eql (.ofNat k) 7=leg from(eqlI hA k 7).trans (by rw[hleg,decide_eq_false hk1];rfl)]
   cbv
   refine rgM hP hA hg fun mk _=> ?_
   cbv
   refine stepD (enr rfl hg rfl rfl hA1 id rfl ⟨rfl,trivial⟩ (fun _ _ _ h=>h) (by simp[bd,bdL,ws,lst])) ?_
   cbv
   refine stepD (enr rfl hg rfl rfl hA2 id rfl ⟨rfl,trivial⟩ (fun _ _ _ h=>h) (by simp[bd,bdL,ws,lst])) ?_
   cbv
   exact hK _ _ _ ⟨rfl,⟨sa,sb,sn,sx,sy,rfl⟩,rfl⟩
theorem cOpen{P:Program}(hP:P=Tryz.prog)(k:Nat)(hk:1<=k/\k<=15)(leg:Bool)(hleg:leg=(decide (k=1)||decide (k=7))):
 ∃p d m s a b n gx gy th bits size,Cv k p a b n gx gy th bits size/\Dv p d m s/\Con P 39 [.int .i64 (.ofNat k)] [] 0 [] (fun v L q=>v= .ptr 0 0/\L=[⟨0,ccells k p a b n gx gy th bits size leg 1,115⟩,⟨1,fcells p 2,120⟩,⟨2,dcells d m s,215⟩]/\q=3):=by
 obtain⟨p,d,m,s,a,b,n,gx,gy,th,bits,size,h1,h2,h3⟩:=cOpenL hP k hk leg hleg
 refine⟨p,d,m,s,a,b,n,gx,gy,th,bits,size,h1,h2,h3.weak fun v L q h=>⟨fun l=>if l=0 then 3 else l-1,.ptr 0 0,[⟨0,ccells k p a b n gx gy th bits size leg 1,115⟩,⟨1,fcells p 2,120⟩,⟨2,dcells d m s,215⟩],3,?_,rfl,rfl,rfl⟩⟩
 obtain⟨rfl,⟨sa,sb,sn,sx,sy,rfl⟩,rfl⟩:=h
 exact wkr ⟨rfl,rfl,trivial⟩ ⟨rfl,rfl,rfl,rfl,rfl,rfl,rfl,rfl,rfl,rfl,rfl,rfl,trivial⟩ rfl rfl rfl
theorem cOpen0{P:Program}(hP:P=Tryz.prog)(x:Int)(hx:primeB x=⟨⟨[]⟩⟩):Con P 39 [.int .i64 x] [] 0 [] (fun v _ _=>v= .nilp):=by
 have hF:=cFOf0 hP x hx
 refine cof hP Tryz.func39 (bdb _ rfl) (bkb rfl) ?_
 intro A g K hA hg hK
 cases A
 cbv
 refine cva rfl hg rfl rfl hF ?_
 rintro _ _ _ rfl
 cbv
 exact hK _ _ _ rfl
theorem cBytes{P:Program}(hP:P=Tryz.prog)(k:Nat)(p a b n gx gy th:Nat->Nat)(bits size:Nat)(leg:Bool)(hb:bits<2^32)(r:Nat)(hr:r=(bits+7)/8):
 Con P 76 [.ptr 0 0] [⟨0,ccells k p a b n gx gy th bits size leg 1,115⟩] 2 [] (fun v _ _=>v= .int .i64 (.ofNat r)):=by
 refine cof hP Tryz.func76 (bdb _ rfl) (bkb rfl) ?_
 intro A g K hA hg hK
 obtain⟨bin⟩:=A
 have g7:bin .add .i64 (.ofNat bits) 7=Int.ofNat (bits+7):=addI hA (b:=7) (by omega)
 have g8:bin .quo .i64 (.ofNat (bits+7)) 8=Int.ofNat r:=(quoI hA (a:=bits+7) (b:=8) (by omega)).trans (by rw[hr])
 generalize bits+7=b7 at g7 g8
 cbv
 rw[g7]
 rw[g8]
 cbv
 exact hK _ _ _ rfl
theorem cNone{P:Program}(hP:P=Tryz.prog)(one:Nat->Nat)(h1:one=fun j=>if j=0 then 1 else 0):
 Con P 92 [] [] 0 [] (fun v _ _=>v= .agg (ws (fun _=>0) 9++ws one 9++ws (fun _=>0) 9)):=by
 have hS:=cSmall hP 1 (by decide) one h1
 clear h1
 refine cof hP Tryz.func92 (bdb _ rfl) (bkb rfl) ?_
 intro A g K hA hg hK
 cases A
 cbv
 refine cva rfl hg rfl rfl hS ?_
 rintro _ _ _ rfl
 cbv
 exact hK _ _ _ rfl
theorem cTriple{P:Program}(hP:P=Tryz.prog)(x y one:Nat->Nat)(inf:Bool)(h1:one=fun j=>if j=0 then 1 else 0)(X Y Z:Nat->Nat)(hX:X=if inf then(fun _=>0)else x)(hY:Y=if inf then one else y)(hZ:Z=if inf then(fun _=>0)else one):
 Con P 95 [.agg (ws x 9++ws y 9++[.bool inf])] [] 0 [] (fun v _ _=>v= .agg (ws X 9++ws Y 9++ws Z 9)):=by
 have hS:=cSmall hP 1 (by decide) one h1
 have hN:=cNone hP one h1
 clear h1
 refine cof hP Tryz.func95 (bdb _ rfl) (bkb rfl) ?_
 intro A g K hA hg hK
 cases A
 cases inf with
 |true=>
  rw[if_pos rfl]at hX hY hZ
  subst hX hY hZ
  cbv
  refine cva rfl hg rfl rfl hN ?_
  rintro _ _ _ rfl
  cbv
  exact hK _ _ _ rfl
 |false=>
  rw[if_neg (by decide)]at hX hY hZ
  subst hX hY hZ
  cbv
  refine rgM hP hA hg fun mk _=> ?_
  cbv
  refine stepD (en_val rfl hg rfl rfl hS (fun _ _ _ h=>h) (by simp[bd,bdL,ws,lst])) ?_
  cbv
  exact hK _ _ _ rfl
theorem cKey{P:Program}(hP:P=Tryz.prog)(k:Nat)(p a b n gx gy th d:Nat->Nat)(bits size:Nat)(leg:Bool)(hn:Wn 9 n)(hd:Wn 9 d)(r:Bool)(hr:r=(decide (V 9 d≠0)&&decide (V 9 d<V 9 n))):
 Con P 40 [.ptr 0 0,.agg (ws d 9)] [⟨0,ccells k p a b n gx gy th bits size leg 1,115⟩] 2 [] (fun v _ _=>v= .bool r):=by
 obtain⟨o,ho⟩:=exq (if V 9 d<V 9 n then -1 else if V 9 n<V 9 d then 1 else 0:Int)
 have hC:=cCmp hP d n hd hn o ho
 have hz:Wn 9 (fun _=>0):=fun _ _=>by show 0<_;decide
 refine cof hP Tryz.func40 (bdb _ rfl) (bkb rfl) ?_
 intro A g K hA hg hK
 obtain⟨_,_,cmp⟩:=A
 by_cases h0:V 9 d=0
 ·obtain rfl:r=false:=by rw[hr,decide_eq_false (fun h=>h h0)];rfl
  cbv
  refine reg_A (hP▸tblOk) hA hg (hP▸mixed) rfl rfl ?_
  cbv
  refine stepD (en_cmp_nat hP hg rfl (a:=d) (b:=fun _=>0) (r:=false) (Or.inl ⟨rfl,by rw[eq9_V hd hz,show V 9 (fun _=>0)=0 from rfl,decide_eq_true h0];rfl⟩) rfl rfl) ?_
  cbv
  exact hK _ _ _ rfl
 ·have hlt:(boolCmp .lss o 0)=r:=by
   rw[hr,decide_eq_true h0,Bool.true_and,ho]
   by_cases h1:V 9 d<V 9 n
   ·rw[if_pos h1,decide_eq_true h1];rfl
   ·rw[if_neg h1,decide_eq_false h1];split<;>rfl
  clear ho
  have hc:cmp .lss o 0=r:=(congrFun (congrFun (congrFun (cmp_of hA) .lss) o) 0).trans hlt
  cbv
  refine reg_A (hP▸tblOk) hA hg (hP▸mixed) rfl rfl ?_
  cbv
  refine stepD (en_cmp_nat hP hg rfl (a:=d) (b:=fun _=>0) (r:=true) (Or.inl ⟨rfl,by rw[eq9_V hd hz,show V 9 (fun _=>0)=0 from rfl,decide_eq_false h0];rfl⟩) rfl rfl) ?_
  cbv
  refine sdv hg hC ?_
  cbv
  rw[hc]
  exact hK _ _ _ rfl
theorem cPlain0{P:Program}(hP:P=Tryz.prog)(k:Nat)(p a b n gx gy th X Y Z d:Nat->Nat)(m s bits size:Nat)(leg:Bool)(hZ:Wn 9 Z)(h0:V 9 Z=0):
 Con P 96 [.ptr 0 0,.agg (ws X 9++ws Y 9++ws Z 9)] [⟨0,ccells k p a b n gx gy th bits size leg 1,115⟩,⟨1,fcells p 2,120⟩,⟨2,dcells d m s,215⟩] 3 [] (fun v _ _=>v= .agg (ws (fun _=>0) 9++ws (fun _=>0) 9++[.bool true])):=by
 have hz:Wn 9 (fun _=>0):=fun _ _=>by show 0<_;decide
 have he:true=eq9 Z (fun _=>0):=by rw[eq9_V hZ hz,show V 9 (fun _=>0)=0 from rfl,decide_eq_true h0]
 refine cof hP Tryz.func96 (bdb _ rfl) (bkb rfl) ?_
 intro A g K hA hg hK
 cases A
 cbv
 refine step_eq_nat hP rfl hg rfl (a:=Z) (b:=fun _=>0) he rfl rfl ?_
 cbv
 exact hK _ _ _ rfl
theorem cPlain{P:Program}(hP:P=Tryz.prog)(k:Nat)(p a b n gx gy th X Y Z d i x y:Nat->Nat)(m s bits size:Nat)(leg:Bool)(hD:Dv p d m s)(hp:Wn 9 p)(hp2:2<=V 9 p)(hX:Wn 9 X)(hY:Wn 9 Y)(hZ:Wn 9 Z)(h0:V 9 Z≠0)(hi:Wn 9 i)(h1:Nat.gcd (V 9 Z) (V 9 p)=1->V 9 i<V 9 p/\V 9 i*V 9 Z%V 9 p=1)(h2:Nat.gcd (V 9 Z) (V 9 p)≠1->V 9 i=0)
 (hx:Wn 9 x) (hy:Wn 9 y) (hxV:V 9 x=V 9 X*V 9 i%V 9 p) (hyV:V 9 y=V 9 Y*V 9 i%V 9 p):
 Con P 96 [.ptr 0 0,.agg (ws X 9++ws Y 9++ws Z 9)] [⟨0,ccells k p a b n gx gy th bits size leg 1,115⟩,⟨1,fcells p 2,120⟩,⟨2,dcells d m s,215⟩] 3 [] (fun v _ _=>v= .agg (ws x 9++ws y 9++[.bool false])):=by
 have hz:Wn 9 (fun _=>0):=fun _ _=>by show 0<_;decide
 have he:false=eq9 Z (fun _=>0):=by rw[eq9_V hZ hz,show V 9 (fun _=>0)=0 from rfl,decide_eq_false h0]
 have hI:=cFInv hP p Z i hp hZ hi hp2 h1 h2
 have hMx:=cFMul hP p d m s hD X i x hX hi hx hxV
 have hMy:=cFMul hP p d m s hD Y i y hY hi hy hyV
 refine cof hP Tryz.func96 (bdb _ rfl) (bkb rfl) ?_
 intro A g K hA hg hK
 cases A
 cbv
 refine step_eq_nat hP rfl hg rfl (a:=Z) (b:=fun _=>0) he rfl rfl ?_
 cbv
 refine reg_A (hP▸tblOk) hA hg (hP▸mixed) rfl rfl ?_
 cbv
 refine stepD (enr rfl hg rfl rfl hI (fun l=>l+1) rfl ⟨rfl,trivial⟩ (fun _ _ _ h=>h) (by simp[bd,bdL,ws,lst])) ?_
 cbv
 refine rgM hP hA hg fun mk _=> ?_
 cbv
 refine stepD (enr rfl hg rfl rfl hMx (fun l=>l+1) rfl ⟨rfl,rfl,trivial⟩ (fun _ _ _ h=>h) (by simp[bd,bdL,ws,lst])) ?_
 cbv
 refine stepD (enr rfl hg rfl rfl hMy (fun l=>l+1) rfl ⟨rfl,rfl,trivial⟩ (fun _ _ _ h=>h) (by simp[bd,bdL,ws,lst])) ?_
 cbv
 exact hK _ _ _ rfl
def fA(p a b:Nat):Nat:=(a+b)%p
def fS(p a b:Nat):Nat:=(a+p-b)%p
def fM(p a b:Nat):Nat:=a*b%p
def SumR(p X1 Y1 Z1 X2 Y2 Z2 a th X Y Z:Nat):Prop:=
 ∃r1 r2 r3 r4 r5 r6 r7 r8 r9 r10 r11 r12 r13 r14 r15 r16 r17 r18 r19 r20 r21 r22 r23 r24 r25 r26 r27 r28 r29 r30 r31 r32 r33 r34 r35 r36 r37 r38 r39 r40:Nat,r1=fM p X1 X2/\r2=fM p Y1 Y2/\r3=fM p Z1 Z2/\r4=fA p X1 Y1/\r5=fA p X2 Y2/\r6=fM p r4 r5/\r7=fA p r1 r2/\r8=fS p r6 r7/\r9=fA p X1 Z1/\r10=fA p X2 Z2/\r11=fM p r9 r10/\r12=fA p r1 r3/\r13=fS p r11 r12/\r14=fA p Y1 Z1/\r15=fA p Y2 Z2/\r16=fM p r14 r15/\r17=fA p r2 r3/\r18=fS p r16 r17/\r19=fM p th r3/\r20=fM p a r13/\r21=fA p r19 r20/\r22=fS p r2 r21/\r23=fA p r2 r21/\r24=fM p r22 r23/\r25=fA p r1 r1/\r26=fA p r25 r1/\r27=fM p a r3/\r28=fM p th r13/\r29=fA p r26 r27/\r30=fS p r1 r27/\r31=fM p a r30/\r32=fA p r28 r31/\r33=fM p r29 r32/\r34=fA p r24 r33/\r35=fM p r8 r22/\r36=fM p r18 r32/\r37=fS p r35 r36/\r38=fM p r18 r23/\r39=fM p r8 r29/\r40=fA p r38 r39/\X=r37/\Y=r34/\Z=r40
theorem exf{p:Nat->Nat}(hp:Wn 9 p)(h0:0<V 9 p)(x:Nat):∃r,Wn 9 r/\V 9 r=x%V 9 p/\V 9 r<V 9 p:=by
 obtain⟨r,h1,h2⟩:=exV 9 (x%V 9 p) (Nat.lt_trans (Nat.mod_lt _ h0) (V_lt hp))
 exact⟨r,h1,h2,by rw[h2];exact Nat.mod_lt _ h0⟩
theorem cSum{P:Program}(hP:P=Tryz.prog)(k:Nat)(p a b n gx gy th X1 Y1 Z1 X2 Y2 Z2 d:Nat->Nat)(m s bits size:Nat)(leg:Bool)(hD:Dv p d m s)(hp:Wn 9 p)(wX1:Wn 9 X1)(lX1:V 9 X1<V 9 p)(wY1:Wn 9 Y1)(lY1:V 9 Y1<V 9 p)(wZ1:Wn 9 Z1)(lZ1:V 9 Z1<V 9 p)(wX2:Wn 9 X2)(lX2:V 9 X2<V 9 p)(wY2:Wn 9 Y2)(lY2:V 9 Y2<V 9 p)(wZ2:Wn 9 Z2)(lZ2:V 9 Z2<V 9 p)(wa:Wn 9 a)(la:V 9 a<V 9 p)(wth:Wn 9 th)(lth:V 9 th<V 9 p):
 ∃X Y Z,Wn 9 X/\Wn 9 Y/\Wn 9 Z/\V 9 X<V 9 p/\V 9 Y<V 9 p/\V 9 Z<V 9 p/\SumR (V 9 p) (V 9 X1) (V 9 Y1) (V 9 Z1) (V 9 X2) (V 9 Y2) (V 9 Z2) (V 9 a) (V 9 th) (V 9 X) (V 9 Y) (V 9 Z)/\
 Con P 93 [.ptr 0 0,.agg (ws X1 9++ws Y1 9++ws Z1 9),.agg (ws X2 9++ws Y2 9++ws Z2 9)] [⟨0,ccells k p a b n gx gy th bits size leg 1,115⟩,⟨1,fcells p 2,120⟩,⟨2,dcells d m s,215⟩] 3 [] (fun v _ _=>v= .agg (ws X 9++ws Y 9++ws Z 9)):=by
 have h0:0<V 9 p:=Nat.lt_of_le_of_lt (Nat.zero_le _) la
 obtain⟨r1,wr1,vr1,lr1⟩:=exf hp h0 (V 9 X1*V 9 X2)
 obtain⟨r2,wr2,vr2,lr2⟩:=exf hp h0 (V 9 Y1*V 9 Y2)
 obtain⟨r3,wr3,vr3,lr3⟩:=exf hp h0 (V 9 Z1*V 9 Z2)
 obtain⟨r4,wr4,vr4,lr4⟩:=exf hp h0 (V 9 X1+V 9 Y1)
 obtain⟨r5,wr5,vr5,lr5⟩:=exf hp h0 (V 9 X2+V 9 Y2)
 obtain⟨r6,wr6,vr6,lr6⟩:=exf hp h0 (V 9 r4*V 9 r5)
 obtain⟨r7,wr7,vr7,lr7⟩:=exf hp h0 (V 9 r1+V 9 r2)
 obtain⟨r8,wr8,vr8,lr8⟩:=exf hp h0 (V 9 r6+V 9 p-V 9 r7)
 obtain⟨r9,wr9,vr9,lr9⟩:=exf hp h0 (V 9 X1+V 9 Z1)
 obtain⟨r10,wr10,vr10,lr10⟩:=exf hp h0 (V 9 X2+V 9 Z2)
 obtain⟨r11,wr11,vr11,lr11⟩:=exf hp h0 (V 9 r9*V 9 r10)
 obtain⟨r12,wr12,vr12,lr12⟩:=exf hp h0 (V 9 r1+V 9 r3)
 obtain⟨r13,wr13,vr13,lr13⟩:=exf hp h0 (V 9 r11+V 9 p-V 9 r12)
 obtain⟨r14,wr14,vr14,lr14⟩:=exf hp h0 (V 9 Y1+V 9 Z1)
 obtain⟨r15,wr15,vr15,lr15⟩:=exf hp h0 (V 9 Y2+V 9 Z2)
 obtain⟨r16,wr16,vr16,lr16⟩:=exf hp h0 (V 9 r14*V 9 r15)
 obtain⟨r17,wr17,vr17,lr17⟩:=exf hp h0 (V 9 r2+V 9 r3)
 obtain⟨r18,wr18,vr18,lr18⟩:=exf hp h0 (V 9 r16+V 9 p-V 9 r17)
 obtain⟨r19,wr19,vr19,lr19⟩:=exf hp h0 (V 9 th*V 9 r3)
 obtain⟨r20,wr20,vr20,lr20⟩:=exf hp h0 (V 9 a*V 9 r13)
 obtain⟨r21,wr21,vr21,lr21⟩:=exf hp h0 (V 9 r19+V 9 r20)
 obtain⟨r22,wr22,vr22,lr22⟩:=exf hp h0 (V 9 r2+V 9 p-V 9 r21)
 obtain⟨r23,wr23,vr23,lr23⟩:=exf hp h0 (V 9 r2+V 9 r21)
 obtain⟨r24,wr24,vr24,lr24⟩:=exf hp h0 (V 9 r22*V 9 r23)
 obtain⟨r25,wr25,vr25,lr25⟩:=exf hp h0 (V 9 r1+V 9 r1)
 obtain⟨r26,wr26,vr26,lr26⟩:=exf hp h0 (V 9 r25+V 9 r1)
 obtain⟨r27,wr27,vr27,lr27⟩:=exf hp h0 (V 9 a*V 9 r3)
 obtain⟨r28,wr28,vr28,lr28⟩:=exf hp h0 (V 9 th*V 9 r13)
 obtain⟨r29,wr29,vr29,lr29⟩:=exf hp h0 (V 9 r26+V 9 r27)
 obtain⟨r30,wr30,vr30,lr30⟩:=exf hp h0 (V 9 r1+V 9 p-V 9 r27)
 obtain⟨r31,wr31,vr31,lr31⟩:=exf hp h0 (V 9 a*V 9 r30)
 obtain⟨r32,wr32,vr32,lr32⟩:=exf hp h0 (V 9 r28+V 9 r31)
 obtain⟨r33,wr33,vr33,lr33⟩:=exf hp h0 (V 9 r29*V 9 r32)
 obtain⟨r34,wr34,vr34,lr34⟩:=exf hp h0 (V 9 r24+V 9 r33)
 obtain⟨r35,wr35,vr35,lr35⟩:=exf hp h0 (V 9 r8*V 9 r22)
 obtain⟨r36,wr36,vr36,lr36⟩:=exf hp h0 (V 9 r18*V 9 r32)
 obtain⟨r37,wr37,vr37,lr37⟩:=exf hp h0 (V 9 r35+V 9 p-V 9 r36)
 obtain⟨r38,wr38,vr38,lr38⟩:=exf hp h0 (V 9 r18*V 9 r23)
 obtain⟨r39,wr39,vr39,lr39⟩:=exf hp h0 (V 9 r8*V 9 r29)
 obtain⟨r40,wr40,vr40,lr40⟩:=exf hp h0 (V 9 r38+V 9 r39)
 have cr1:=cFMul hP p d m s hD X1 X2 r1 wX1 wX2 wr1 vr1
 have cr2:=cFMul hP p d m s hD Y1 Y2 r2 wY1 wY2 wr2 vr2
 have cr3:=cFMul hP p d m s hD Z1 Z2 r3 wZ1 wZ2 wr3 vr3
 have cr4:=cFAdd hP p X1 Y1 r4 hp wX1 wY1 wr4 lX1 lY1 vr4
 have cr5:=cFAdd hP p X2 Y2 r5 hp wX2 wY2 wr5 lX2 lY2 vr5
 have cr6:=cFMul hP p d m s hD r4 r5 r6 wr4 wr5 wr6 vr6
 have cr7:=cFAdd hP p r1 r2 r7 hp wr1 wr2 wr7 lr1 lr2 vr7
 have cr8:=cFSub hP p r6 r7 r8 hp wr6 wr7 wr8 lr6 lr7 vr8
 have cr9:=cFAdd hP p X1 Z1 r9 hp wX1 wZ1 wr9 lX1 lZ1 vr9
 have cr10:=cFAdd hP p X2 Z2 r10 hp wX2 wZ2 wr10 lX2 lZ2 vr10
 have cr11:=cFMul hP p d m s hD r9 r10 r11 wr9 wr10 wr11 vr11
 have cr12:=cFAdd hP p r1 r3 r12 hp wr1 wr3 wr12 lr1 lr3 vr12
 have cr13:=cFSub hP p r11 r12 r13 hp wr11 wr12 wr13 lr11 lr12 vr13
 have cr14:=cFAdd hP p Y1 Z1 r14 hp wY1 wZ1 wr14 lY1 lZ1 vr14
 have cr15:=cFAdd hP p Y2 Z2 r15 hp wY2 wZ2 wr15 lY2 lZ2 vr15
 have cr16:=cFMul hP p d m s hD r14 r15 r16 wr14 wr15 wr16 vr16
 have cr17:=cFAdd hP p r2 r3 r17 hp wr2 wr3 wr17 lr2 lr3 vr17
 have cr18:=cFSub hP p r16 r17 r18 hp wr16 wr17 wr18 lr16 lr17 vr18
 have cr19:=cFMul hP p d m s hD th r3 r19 wth wr3 wr19 vr19
 have cr20:=cFMul hP p d m s hD a r13 r20 wa wr13 wr20 vr20
 have cr21:=cFAdd hP p r19 r20 r21 hp wr19 wr20 wr21 lr19 lr20 vr21
 have cr22:=cFSub hP p r2 r21 r22 hp wr2 wr21 wr22 lr2 lr21 vr22
 have cr23:=cFAdd hP p r2 r21 r23 hp wr2 wr21 wr23 lr2 lr21 vr23
 have cr24:=cFMul hP p d m s hD r22 r23 r24 wr22 wr23 wr24 vr24
 have cr25:=cFAdd hP p r1 r1 r25 hp wr1 wr1 wr25 lr1 lr1 vr25
 have cr26:=cFAdd hP p r25 r1 r26 hp wr25 wr1 wr26 lr25 lr1 vr26
 have cr27:=cFMul hP p d m s hD a r3 r27 wa wr3 wr27 vr27
 have cr28:=cFMul hP p d m s hD th r13 r28 wth wr13 wr28 vr28
 have cr29:=cFAdd hP p r26 r27 r29 hp wr26 wr27 wr29 lr26 lr27 vr29
 have cr30:=cFSub hP p r1 r27 r30 hp wr1 wr27 wr30 lr1 lr27 vr30
 have cr31:=cFMul hP p d m s hD a r30 r31 wa wr30 wr31 vr31
 have cr32:=cFAdd hP p r28 r31 r32 hp wr28 wr31 wr32 lr28 lr31 vr32
 have cr33:=cFMul hP p d m s hD r29 r32 r33 wr29 wr32 wr33 vr33
 have cr34:=cFAdd hP p r24 r33 r34 hp wr24 wr33 wr34 lr24 lr33 vr34
 have cr35:=cFMul hP p d m s hD r8 r22 r35 wr8 wr22 wr35 vr35
 have cr36:=cFMul hP p d m s hD r18 r32 r36 wr18 wr32 wr36 vr36
 have cr37:=cFSub hP p r35 r36 r37 hp wr35 wr36 wr37 lr35 lr36 vr37
 have cr38:=cFMul hP p d m s hD r18 r23 r38 wr18 wr23 wr38 vr38
 have cr39:=cFMul hP p d m s hD r8 r29 r39 wr8 wr29 wr39 vr39
 have cr40:=cFAdd hP p r38 r39 r40 hp wr38 wr39 wr40 lr38 lr39 vr40
 refine⟨r37,r34,r40,wr37,wr34,wr40,lr37,lr34,lr40,⟨V 9 r1,V 9 r2,V 9 r3,V 9 r4,V 9 r5,V 9 r6,V 9 r7,V 9 r8,V 9 r9,V 9 r10,V 9 r11,V 9 r12,V 9 r13,V 9 r14,V 9 r15,V 9 r16,V 9 r17,V 9 r18,V 9 r19,V 9 r20,V 9 r21,V 9 r22,V 9 r23,V 9 r24,V 9 r25,V 9 r26,V 9 r27,V 9 r28,V 9 r29,V 9 r30,V 9 r31,V 9 r32,V 9 r33,V 9 r34,V 9 r35,V 9 r36,V 9 r37,V 9 r38,V 9 r39,V 9 r40,vr1,vr2,vr3,vr4,vr5,vr6,vr7,vr8,vr9,vr10,vr11,vr12,vr13,vr14,vr15,vr16,vr17,vr18,vr19,vr20,vr21,vr22,vr23,vr24,vr25,vr26,vr27,vr28,vr29,vr30,vr31,vr32,vr33,vr34,vr35,vr36,vr37,vr38,vr39,vr40,rfl,rfl,rfl⟩,?_⟩
 clear vr1 lr1 wr1 vr2 lr2 wr2 vr3 lr3 wr3 vr4 lr4 wr4 vr5 lr5 wr5 vr6 lr6 wr6 vr7 lr7 wr7 vr8 lr8 wr8 vr9 lr9 wr9 vr10 lr10 wr10 vr11 lr11 wr11 vr12 lr12 wr12 vr13 lr13 wr13 vr14 lr14 wr14 vr15 lr15 wr15 vr16 lr16 wr16 vr17 lr17 wr17 vr18 lr18 wr18 vr19 lr19 wr19 vr20 lr20 wr20 vr21 lr21 wr21 vr22 lr22 wr22 vr23 lr23 wr23 vr24 lr24 wr24 vr25 lr25 wr25 vr26 lr26 wr26 vr27 lr27 wr27 vr28 lr28 wr28 vr29 lr29 wr29 vr30 lr30 wr30 vr31 lr31 wr31 vr32 lr32 wr32 vr33 lr33 wr33 vr34 lr34 wr34 vr35 lr35 wr35 vr36 lr36 wr36 vr37 lr37 wr37 vr38 lr38 wr38 vr39 lr39 wr39 vr40 lr40 wr40
 refine cof hP Tryz.func93 (bdb _ rfl) (bkb rfl) ?_
 intro A g K hA hg hK
 cases A
 cbv
 refine rgM hP hA hg fun mk _=> ?_
 cbv
 refine reg_A (hP▸tblOk) hA hg (hP▸mixed) rfl rfl ?_
 cbv
 refine stepD (enr rfl hg rfl rfl cr1 (fun l=>l+1) rfl ⟨rfl,rfl,trivial⟩ (fun _ _ _ h=>h) (by simp[bd,bdL,ws,lst])) ?_
 cbv
 refine stepD (enr rfl hg rfl rfl cr2 (fun l=>l+1) rfl ⟨rfl,rfl,trivial⟩ (fun _ _ _ h=>h) (by simp[bd,bdL,ws,lst])) ?_
 cbv
 refine stepD (enr rfl hg rfl rfl cr3 (fun l=>l+1) rfl ⟨rfl,rfl,trivial⟩ (fun _ _ _ h=>h) (by simp[bd,bdL,ws,lst])) ?_
 cbv
 refine reg_A (hP▸tblOk) hA hg (hP▸mixed) rfl rfl ?_
 cbv
 refine stepD (enr rfl hg rfl rfl cr4 (fun l=>l+1) rfl ⟨rfl,trivial⟩ (fun _ _ _ h=>h) (by simp[bd,bdL,ws,lst])) ?_
 cbv
 refine stepD (enr rfl hg rfl rfl cr5 (fun l=>l+1) rfl ⟨rfl,trivial⟩ (fun _ _ _ h=>h) (by simp[bd,bdL,ws,lst])) ?_
 cbv
 refine stepD (enr rfl hg rfl rfl cr6 (fun l=>l+1) rfl ⟨rfl,rfl,trivial⟩ (fun _ _ _ h=>h) (by simp[bd,bdL,ws,lst])) ?_
 cbv
 refine stepD (enr rfl hg rfl rfl cr7 (fun l=>l+1) rfl ⟨rfl,trivial⟩ (fun _ _ _ h=>h) (by simp[bd,bdL,ws,lst])) ?_
 cbv
 refine stepD (enr rfl hg rfl rfl cr8 (fun l=>l+1) rfl ⟨rfl,trivial⟩ (fun _ _ _ h=>h) (by simp[bd,bdL,ws,lst])) ?_
 cbv
 refine reg_A (hP▸tblOk) hA hg (hP▸mixed) rfl rfl ?_
 cbv
 refine stepD (enr rfl hg rfl rfl cr9 (fun l=>l+1) rfl ⟨rfl,trivial⟩ (fun _ _ _ h=>h) (by simp[bd,bdL,ws,lst])) ?_
 cbv
 refine stepD (enr rfl hg rfl rfl cr10 (fun l=>l+1) rfl ⟨rfl,trivial⟩ (fun _ _ _ h=>h) (by simp[bd,bdL,ws,lst])) ?_
 cbv
 refine stepD (enr rfl hg rfl rfl cr11 (fun l=>l+1) rfl ⟨rfl,rfl,trivial⟩ (fun _ _ _ h=>h) (by simp[bd,bdL,ws,lst])) ?_
 cbv
 refine stepD (enr rfl hg rfl rfl cr12 (fun l=>l+1) rfl ⟨rfl,trivial⟩ (fun _ _ _ h=>h) (by simp[bd,bdL,ws,lst])) ?_
 cbv
 refine stepD (enr rfl hg rfl rfl cr13 (fun l=>l+1) rfl ⟨rfl,trivial⟩ (fun _ _ _ h=>h) (by simp[bd,bdL,ws,lst])) ?_
 cbv
 refine reg_A (hP▸tblOk) hA hg (hP▸mixed) rfl rfl ?_
 cbv
 refine stepD (enr rfl hg rfl rfl cr14 (fun l=>l+1) rfl ⟨rfl,trivial⟩ (fun _ _ _ h=>h) (by simp[bd,bdL,ws,lst])) ?_
 cbv
 refine stepD (enr rfl hg rfl rfl cr15 (fun l=>l+1) rfl ⟨rfl,trivial⟩ (fun _ _ _ h=>h) (by simp[bd,bdL,ws,lst])) ?_
 cbv
 refine stepD (enr rfl hg rfl rfl cr16 (fun l=>l+1) rfl ⟨rfl,rfl,trivial⟩ (fun _ _ _ h=>h) (by simp[bd,bdL,ws,lst])) ?_
 cbv
 refine stepD (enr rfl hg rfl rfl cr17 (fun l=>l+1) rfl ⟨rfl,trivial⟩ (fun _ _ _ h=>h) (by simp[bd,bdL,ws,lst])) ?_
 cbv
 refine stepD (enr rfl hg rfl rfl cr18 (fun l=>l+1) rfl ⟨rfl,trivial⟩ (fun _ _ _ h=>h) (by simp[bd,bdL,ws,lst])) ?_
 cbv
 refine reg_A (hP▸tblOk) hA hg (hP▸mixed) rfl rfl ?_
 cbv
 refine stepD (enr rfl hg rfl rfl cr19 (fun l=>l+1) rfl ⟨rfl,rfl,trivial⟩ (fun _ _ _ h=>h) (by simp[bd,bdL,ws,lst])) ?_
 cbv
 refine stepD (enr rfl hg rfl rfl cr20 (fun l=>l+1) rfl ⟨rfl,rfl,trivial⟩ (fun _ _ _ h=>h) (by simp[bd,bdL,ws,lst])) ?_
 cbv
 refine stepD (enr rfl hg rfl rfl cr21 (fun l=>l+1) rfl ⟨rfl,trivial⟩ (fun _ _ _ h=>h) (by simp[bd,bdL,ws,lst])) ?_
 cbv
 refine cro rfl hg rfl rfl cr22 (fun l=>l+1) rfl ⟨rfl,trivial⟩ ?_
 rintro _ _ _ rfl
 cbv
 refine cro rfl hg rfl rfl cr23 (fun l=>l+1) rfl ⟨rfl,trivial⟩ ?_
 rintro _ _ _ rfl
 cbv
 refine cro rfl hg rfl rfl cr24 (fun l=>l+1) rfl ⟨rfl,rfl,trivial⟩ ?_
 rintro _ _ _ rfl
 cbv
 refine rgM hP hA hg fun mk _=> ?_
 cbv
 refine stepD (enr rfl hg rfl rfl cr25 (fun l=>l+1) rfl ⟨rfl,trivial⟩ (fun _ _ _ h=>h) (by simp[bd,bdL,ws,lst])) ?_
 cbv
 refine stepD (enr rfl hg rfl rfl cr26 (fun l=>l+1) rfl ⟨rfl,trivial⟩ (fun _ _ _ h=>h) (by simp[bd,bdL,ws,lst])) ?_
 cbv
 refine rgM hP hA hg fun mk _=> ?_
 cbv
 refine stepD (enr rfl hg rfl rfl cr27 (fun l=>l+1) rfl ⟨rfl,rfl,trivial⟩ (fun _ _ _ h=>h) (by simp[bd,bdL,ws,lst])) ?_
 cbv
 refine rgM hP hA hg fun mk _=> ?_
 cbv
 refine stepD (enr rfl hg rfl rfl cr28 (fun l=>l+1) rfl ⟨rfl,rfl,trivial⟩ (fun _ _ _ h=>h) (by simp[bd,bdL,ws,lst])) ?_
 cbv
 refine cro rfl hg rfl rfl cr29 (fun l=>l+1) rfl ⟨rfl,trivial⟩ ?_
 rintro _ _ _ rfl
 cbv
 refine rgM hP hA hg fun mk _=> ?_
 cbv
 refine stepD (enr rfl hg rfl rfl cr30 (fun l=>l+1) rfl ⟨rfl,trivial⟩ (fun _ _ _ h=>h) (by simp[bd,bdL,ws,lst])) ?_
 cbv
 refine stepD (enr rfl hg rfl rfl cr31 (fun l=>l+1) rfl ⟨rfl,rfl,trivial⟩ (fun _ _ _ h=>h) (by simp[bd,bdL,ws,lst])) ?_
 cbv
 refine cro rfl hg rfl rfl cr32 (fun l=>l+1) rfl ⟨rfl,trivial⟩ ?_
 rintro _ _ _ rfl
 cbv
 refine rgM hP hA hg fun mk _=> ?_
 cbv
 refine stepD (enr rfl hg rfl rfl cr33 (fun l=>l+1) rfl ⟨rfl,rfl,trivial⟩ (fun _ _ _ h=>h) (by simp[bd,bdL,ws,lst])) ?_
 cbv
 refine stepD (enr rfl hg rfl rfl cr34 (fun l=>l+1) rfl ⟨rfl,trivial⟩ (fun _ _ _ h=>h) (by simp[bd,bdL,ws,lst])) ?_
 cbv
 refine rgM hP hA hg fun mk _=> ?_
 cbv
 refine stepD (enr rfl hg rfl rfl cr35 (fun l=>l+1) rfl ⟨rfl,rfl,trivial⟩ (fun _ _ _ h=>h) (by simp[bd,bdL,ws,lst])) ?_
 cbv
 refine stepD (enr rfl hg rfl rfl cr36 (fun l=>l+1) rfl ⟨rfl,rfl,trivial⟩ (fun _ _ _ h=>h) (by simp[bd,bdL,ws,lst])) ?_
 cbv
 refine stepD (enr rfl hg rfl rfl cr37 (fun l=>l+1) rfl ⟨rfl,trivial⟩ (fun _ _ _ h=>h) (by simp[bd,bdL,ws,lst])) ?_
 cbv
 refine rgM hP hA hg fun mk _=> ?_
 cbv
 refine stepD (enr rfl hg rfl rfl cr38 (fun l=>l+1) rfl ⟨rfl,rfl,trivial⟩ (fun _ _ _ h=>h) (by simp[bd,bdL,ws,lst])) ?_
 cbv
 refine stepD (enr rfl hg rfl rfl cr39 (fun l=>l+1) rfl ⟨rfl,rfl,trivial⟩ (fun _ _ _ h=>h) (by simp[bd,bdL,ws,lst])) ?_
 cbv
 refine stepD (enr rfl hg rfl rfl cr40 (fun l=>l+1) rfl ⟨rfl,trivial⟩ (fun _ _ _ h=>h) (by simp[bd,bdL,ws,lst])) ?_
 cbv
 exact hK _ _ _ rfl
end Go.Proofs.YtdhmihfefgcbeaaGreat
